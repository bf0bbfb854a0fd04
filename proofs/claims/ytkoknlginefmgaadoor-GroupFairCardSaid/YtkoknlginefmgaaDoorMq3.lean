/- The card of GroupFair: for every input the law returns true, and each argument reads afterwards as it read before. No other condition; the tables of unicode/utf8 are tied to the program. -/
import Derived.Test.YtkoknlginefmgaaDoorMq2
import Derived.Lib.TrimUEq
import Derived.Lib.MapLaws
import Derived.Lib.ValidLaws
import Derived.Lib.LaidU8T
import Derived.Test.YtkoknlginefmgaaDoorRows
import Derived.Deep.Slices
import Derived.Test.YtkoknlginefmgaaDoorCards
import Derived.Test.YtkoknlginefmgaaDoorTie
import Derived.WalkKit
import Derived.ProofKit
import Derived.OpenShut
import Derived.ShutString
import Derived.ChangeOld
import Derived.Below
import Derived.SevenTiedAt
import Derived.LaidByTextLater
import Derived.Lib.LaidIn
import Derived.Deep.DeepHandedRow
import Derived.MakeChecks
set_option linter.defProp false
set_option linter.unusedSectionVars false
set_option linter.unusedSimpArgs false
set_option linter.unusedVariables false
open Bool renaming and_eq_true→Xc,decide_eq_true→Xg,not_eq_true→Xk,false_eq_true→Xo,and_self→Ww,true_or→WQ,false_or→Xam
open List renaming getElem?_eq_some_iff→Xe,range_succ→Xm,all_eq_true→Xp,getElem?_eq_getElem→Xy,mem_map→XF,append_nil→XS,map_nil→XT,length_pos_iff→XV,mem_singleton→X0,length_singleton→X1,all_cons→X2,take_of_length_le→X7,range→X8,getD_cons_zero→Wb,zip_cons_cons→We,isEmpty_nil→Wu,getD_cons_succ→Wy,length_nil→Wz,length_cons→WD,zip_nil_left→WG,all_nil→WH,lookup_cons→WM,length_map→WO,filter_eq_nil_iff→W3,drop_eq_nil_iff→Xaf,contains_cons→Xaj,lookup_nil→Xat,any_cons→XaA,any_nil→XaD
open Nat renaming reduceLeDiff→Xi,reduceEqDiff→Xj,reduceAdd→Xq,reduceSub→Xr,reduceBEq→Xs,reduceMul→Xt,reduceLT→Xw,le_refl→XL,le_of_ble_eq_true→Wc,le_trans→W8,mod_lt→Xag,one_mul→Xai,zero_le→XaE
open BitVec renaming ofInt→Wn
open Option renaming map→WU,some→XaF
open List.Perm renaming refl→Xax
namespace Go.Proofs.YtkoknlginefmgaaDoor
set_option maxHeartbeats 16000000
set_option maxRecDepth 10000
section
theorem wrap_i64 {n:Int} (h0:-9223372036854775808<=n) (h:n<=9223372036854775807):IntKind.i64.wrap n=n:=Zev h0 h
end
section
def ZaF:Zg:=(.seq (.region [oM 102 7,oM 103 1,oM 104 2,oM 105 9,oI 106 (.call 9 0 true [(.t 102),(.c (.str [36,115,104,97,114,101,47,103,47,116,47,35])),(.t 103),(.t 104),(.t 105)]),oM 101 106,oI 107 (.ext (.t 101) 0),oI 108 (.ext (.t 101) 1),oM 18 107,oM 19 108] none [19,16,15,14,9,2]) (.seq (.region [oM 109 15,oM 110 9,oI 111 (.len (.t 110)),oI 112 (.bin .gtr (.t 111) (.c (.int .i64 0))),oI 113 (.beq false (.t 109) (.t 112)),oM 114 113,⟨(some 115),(.mov (.t 16)),(some (114,true)),[]⟩,⟨(some 116),(.un .not (.t 115)),(some (114,true)),[]⟩,⟨(some 117),(.mov (.t 116)),(some (114,true)),[]⟩,⟨(some 118),(.mov (.t 2)),(some (117,false)),[]⟩,⟨(some 119),(.mov (.t 14)),(some (117,false)),[]⟩,⟨(some 120),(.call 10 0 true [(.t 118),(.t 119)]),(some (117,false)),[]⟩,⟨(some 121),(.pick (.t 117) (.c (.bool true)) (.t 120)),(some (114,true)),[]⟩,oI 122 (.pick (.t 114) (.t 121) (.c (.bool false))),oM 123 122,⟨(some 124),(.mov (.t 19)),(some (123,true)),[]⟩,⟨(some 125),(.un .not (.t 124)),(some (123,true)),[]⟩,oI 126 (.pick (.t 123) (.t 125) (.c (.bool false))),oM 6 126] none [6]) .ret))
def ZfT:Zg:=ZaF
def Za0:=xw ZfT ZaF rfl
def ZaI:Zg:=(.seq (.seq (.region [oM 86 17,oM 87 9,oI 88 (.len (.t 87)),oI 89 (.bin .lss (.t 86) (.t 88))] none [89,17,16,15,14,9,7,2,1]) (.cond (.t 89) .skip (.exit 4))) (.seq (.block 5 (.region [oM 92 16,oM 93 92,⟨(some 94),(.mov (.t 2)),(some (93,false)),[]⟩,⟨(some 95),(.mov (.t 9)),(some (93,false)),[]⟩,⟨(some 96),(.mov (.t 17)),(some (93,false)),[]⟩,⟨(some 97),(.iaddr 1 (.t 95) (.t 96)),(some (93,false)),[]⟩,⟨(some 98),(.ld none (.t 97)),(some (93,false)),[]⟩,⟨(some 99),(.call 10 0 true [(.t 94),(.t 98)]),(some (93,false)),[]⟩,oI 100 (.pick (.t 93) (.c (.bool true)) (.t 99)),oM 16 100] none [17,16,15,14,9,7,2,1])) (.region [oM 90 17,oI 91 (.bin .add (.t 90) (.c (.int .i64 1))),oM 17 91] none [17,16,15,14,9,7,2,1])))
def ZeW:Zg:=ZaI
def Za2:=xw ZeW ZaI rfl
def ZaE:Zg:=(.seq (.region [oM 80 7,oM 81 1,oM 82 2,oI 83 (.call 9 0 true [(.t 80),(.c (.str [36,115,104,97,114,101,47,103,47,116,47,35])),(.t 81),(.t 82),(.c (.lst true []))]),oM 79 83,oI 84 (.ext (.t 79) 0),oI 85 (.ext (.t 79) 1),oM 14 84,oM 15 85] none [15,14,9,7,2,1]) (.seq (.region [oI 16 (.mov (.c (.bool false)))] none [16,15,14,9,7,2,1]) (.seq (.seq (.region [oI 17 (.mov (.c (.int .i64 0)))] none [17,16,15,14,9,7,2,1]) (.block 4 (.loop [17,16,15,14,9,7,2,1] ZeW))) ZfT)))
def ZfK:Zg:=ZaE
def ZaZ:=xw ZfK ZaE rfl
def ZaJ:Zg:=(.seq (.seq (.region [oM 48 11,oM 49 9,oI 50 (.len (.t 49)),oI 51 (.bin .lss (.t 48) (.t 50))] none [51,11,10,9,7,2,1]) (.cond (.t 51) .skip (.exit 2))) (.seq (.block 3 (.seq (.region [oM 55 7,oM 56 1,oM 57 11,oI 58 (.bin .add (.t 56) (.t 57)),oI 59 (.call 9 0 true [(.t 55),(.c (.str [36,115,104,97,114,101,47,103,47,116,47,35])),(.t 58),(.c (.lst true [])),(.c (.lst true []))]),oM 54 59,oI 60 (.ext (.t 54) 0),oI 61 (.ext (.t 54) 1),oM 12 60,oM 13 61] none [13,12,11,10,9,7,2,1]) (.seq (.seq (.region [oM 62 13,oI 63 (.un .not (.t 62)),oM 64 63,⟨(some 65),(.mov (.t 9)),(some (64,false)),[]⟩,⟨(some 66),(.mov (.t 12)),(some (64,false)),[]⟩,⟨(some 67),(.call 10 0 true [(.t 65),(.t 66)]),(some (64,false)),[]⟩,⟨(some 68),(.un .not (.t 67)),(some (64,false)),[]⟩,oI 69 (.pick (.t 64) (.c (.bool true)) (.t 68)),oM 70 69,⟨(some 71),(.mov (.t 10)),(some (70,false)),[]⟩,⟨(some 72),(.mov (.t 12)),(some (70,false)),[]⟩,⟨(some 73),(.call 10 0 true [(.t 71),(.t 72)]),(some (70,false)),[]⟩,oI 74 (.pick (.t 70) (.c (.bool true)) (.t 73))] none [74,12,11,10,9,7,2,1]) (.cond (.t 74) (.seq (.region [oI 6 (.mov (.c (.bool false)))] none [6]) .ret) .skip)) (.region [oM 75 10,oM 76 12,oI 77 (.bslice false 1 1 (.str []) [(0,(.t 76))]),oI 78 (.app 1 16 (.str []) (.t 75) (.t 77)),oM 10 78] none [11,10,9,7,2,1])))) (.region [oM 52 11,oI 53 (.bin .add (.t 52) (.c (.int .i64 1))),oM 11 53] none [11,10,9,7,2,1])))
def Zci:Zg:=ZaJ
def Za1:=xw Zci ZaJ rfl
def ZaG:Zg:=(.seq (.region [oM 46 7,oI 47 (.call 8 0 true [(.t 46),(.c (.str [36,115,104,97,114,101,47,103,47,116,47,35]))]),oM 9 47] none [9,7,2,1]) (.seq (.region [oI 10 (.mov (.c (.lst true [])))] none [10,9,7,2,1]) (.seq (.seq (.region [oI 11 (.mov (.c (.int .i64 0)))] none [11,10,9,7,2,1]) (.block 2 (.loop [11,10,9,7,2,1] Zci))) ZfK)))
def ZdP:Zg:=ZaG
def ZaX:=xw ZdP ZaG rfl
def ZaH:Zg:=(.seq (.seq (.region [oM 34 8,oM 35 0,oI 36 (.len (.t 35)),oI 37 (.bin .lss (.t 34) (.t 36))] none [37,8,7,2,1,0]) (.cond (.t 37) .skip (.exit 0))) (.seq (.block 1 (.region [oM 40 7,oM 41 0,oM 42 8,oI 43 (.iaddr 1 (.t 41) (.t 42)),oL 44 43,oI 45 (.call 7 1 true [(.t 40),(.c (.str [36,115,104,97,114,101,47,103,47,116,47,35])),(.t 44)])] none [8,7,2,1,0])) (.region [oM 38 8,oI 39 (.bin .add (.t 38) (.c (.int .i64 1))),oM 8 39] none [8,7,2,1,0])))
def ZbI:Zg:=ZaH
def ZaU:=xw ZbI ZaH rfl
def ZaP:Zg:=(.seq (.region [oI 6 (.mov (.c (.bool false)))] none [2,1,0]) (.seq (.region [oI 20 (.call 5 2 false []),oM 7 20] none [7,2,1,0]) (.seq (.seq (.region [oM 21 7,oI 22 (.peq false (.t 21) (.c .nilp)),oM 23 22,⟨(some 24),(.call 6 0 true []),(some (23,false)),[]⟩,⟨(some 25),(.un .not (.t 24)),(some (23,false)),[]⟩,oI 26 (.pick (.t 23) (.c (.bool true)) (.t 25))] none [26,7,2,1,0]) (.cond (.t 26) (.seq (.region [oI 6 (.mov (.c (.bool false)))] none [6]) .ret) .skip)) (.seq (.seq (.region [oM 27 0,oI 28 (.len (.t 27)),oI 29 (.bin .gtr (.t 28) (.c (.int .i64 12)))] none [29,7,2,1,0]) (.cond (.t 29) (.region [oM 30 0,oI 31 (.slice 1 (.t 30) none (some (.c (.int .i64 12))) none),oM 0 31] none [7,2,1,0]) .skip)) (.seq (.region [oM 32 1,oI 33 (.bin .and (.t 32) (.c (.int .i64 16777215))),oM 1 33] none [7,2,1,0]) (.seq (.seq (.region [oI 8 (.mov (.c (.int .i64 0)))] none [8,7,2,1,0]) (.block 0 (.loop [8,7,2,1,0] ZbI))) ZdP))))))
def Zes:Zad:=⟨[(.tmp 6)],ZaP⟩
theorem Zne:FC 3=some Zes:=by kernel_rfl
theorem ZaV:Zes.body=ZaP:=rfl
theorem ZaY:Zes.res=[(.tmp 6)]:=rfl
end
section
def ZdT:Zg:=(.seq (.region [oI 4 (.mov (.c (.bool false)))] none [4]) .ret)
def Zh9:Zg:=ZdT
def Zgn:=xw Zh9 ZdT rfl
def ZdG:Zg:=(.seq (.seq (.region [oM 6 5,oM 7 0,oI 8 (.len (.t 7)),oI 9 (.bin .lss (.t 6) (.t 8))] none [9,5,1,0]) (.cond (.t 9) .skip (.exit 0))) (.seq (.block 1 (.seq (.region [oM 12 0,oM 13 5,oI 14 (.iaddr 1 (.t 12) (.t 13)),oL 15 14,oM 16 1,oI 17 (.bin .eql (.t 15) (.t 16))] none [17,5,1,0]) (.cond (.t 17) (.seq (.region [oI 4 (.mov (.c (.bool true)))] none [4]) .ret) .skip))) (.region [oM 10 5,oI 11 (.bin .add (.t 10) (.c (.int .i64 1))),oM 5 11] none [5,1,0])))
def ZhF:Zg:=ZdG
def Zge:=xw ZhF ZdG rfl
def ZdJ:Zg:=(.seq (.region [oI 4 (.mov (.c (.bool false)))] none [1,0]) (.seq (.seq (.region [oI 5 (.mov (.c (.int .i64 0)))] none [5,1,0]) (.block 0 (.loop [5,1,0] ZhF))) Zh9))
def Zgk:Zad:=⟨[(.tmp 4)],ZdJ⟩
theorem ZqT:FC 10=some Zgk:=by kernel_rfl
theorem Zfh:Zgk.body=ZdJ:=rfl
theorem ZfW:Zgk.res=[(.tmp 4)]:=rfl
noncomputable def Ze4 (m:Nat) (tm:Tms) (σ:Za):Option (AVal×Za):=(Zas m Zgk (ZbS FC PR BY m Zh9 (WU (Za6 0) (evL FC PR BY m [5,1,0] ZhF tm σ))))
end
section
end
section
end
section
end
section
end
section
def ZgM:Zg:=(.seq (.region [oI 4 (.mov (.c (.bool false)))] none [1,0]) (.seq (.region [oM 5 0,oM 6 1,oI 7 (.call 21 0 true [(.t 5),(.t 6)]),oI 8 (.bin .geq (.t 7) (.c (.int .i64 0))),oM 4 8] none [4]) .ret))
def Zij:Zad:=⟨[(.tmp 4)],ZgM⟩
theorem Zm2:FC 17=some Zij:=by kernel_rfl
theorem Zte:Zij.body=ZgM:=rfl
theorem ZwH:Zij.res=[(.tmp 4)]:=rfl
def Zd5:Zg:=(.seq (.region [oI 4 (.mov (.c (.int .i64 (-1))))] none [4]) .ret)
def ZhR:Zg:=Zd5
def ZfO:=xw ZhR Zd5 rfl
def ZdM:Zg:=(.seq (.region [oI 9 (.bin .lss (.t 8) (.t 7))] none [9,8,7,1,0]) (.seq (.cond (.t 9) .skip (.exit 0)) (.seq (.block 1 (.seq (.region [oM 10 8,oM 5 10] none [8,7,5,1,0]) (.seq (.region [oM 11 1,oM 12 0,oM 13 5,oI 14 (.iaddr 1 (.t 12) (.t 13)),oL 15 14,oI 16 (.bin .eql (.t 11) (.t 15))] none [16,8,7,5,1,0]) (.cond (.t 16) (.seq (.region [oM 17 5,oM 4 17] none [4]) .ret) .skip)))) (.region [oI 18 (.bin .add (.t 8) (.c (.int .i64 1))),oM 8 18] none [8,7,1,0]))))
def ZgX:Zg:=ZdM
def ZfS:=xw ZgX ZdM rfl
def Zd6:Zg:=(.seq (.region [oI 4 (.mov (.c (.int .i64 0)))] none [1,0]) (.seq (.seq (.region [oM 6 0,oI 7 (.len (.t 6)),oI 8 (.mov (.c (.int .i64 0)))] none [8,7,1,0]) (.block 0 (.loop [8,7,1,0] ZgX))) ZhR))
def Zf6:Zad:=⟨[(.tmp 4)],Zd6⟩
theorem Zk2:FC 21=some Zf6:=by kernel_rfl
theorem Zgr:Zf6.body=Zd6:=rfl
theorem Zgj:Zf6.res=[(.tmp 4)]:=rfl
noncomputable def Zeg (m:Nat) (tm:Tms) (σ:Za):Option (AVal×Za):=(Zas m Zf6 (ZbS FC PR BY m ZhR (WU (Za6 0) (evL FC PR BY m [8,7,1,0] ZgX tm σ))))
end
section
end
section
abbrev Tx:=List UInt8
def Zcw (v:Tx):Nat->List Tx->Int
 | _,[]=>-1
 | i,x::r=>if v == x then (i:Int) else Zcw v (i+1) r
theorem ZkJ (v:Tx):∀ (r:List Tx) (i:Nat),decide (Zcw v i r>=0)=r.contains v
 | [],i=>by simp [Zcw]
 | x::r,i=>by
  unfold Zcw
  rw [Xaj]
  cases h:(v == x) with
  | true=>simp
  | false=>simp only [Xo,if_false,Xam];exact ZkJ v r (i+1)
theorem ZpH (l:List Tx):kOk 1 (l.map AVal.str)=true:=by cases l <;> rfl
theorem Zja (l:List Tx) (hl:l.length<=9223372036854775807) (v:Tx):∀ (r:List Tx) (i:Nat),l.drop i=r ->
  Zeg 0 [(8,.int .i64 (i:Int)),(7,.int .i64 (l.length:Int)),(1,.str v),(0,.lst false (l.map AVal.str))] []=some (.int .i64 (Zcw v i r),[])
 | [],i,h=>by
  have h1:=Zfo h
  unfold Zeg Zcw
  rw [ZaB]
  simp -implicitDefEqProofs only [EQA,ZV,Z0,Z6,Z5,ZU,ZY,ZQ,ZW,Z1,ZS,Z3,ZX,ZT,Z2,ZP,implies_true,forall_const,Xq,Xr,Xw,Xi,Xj,Xs,Xt,ZF,ZJ,unA,Zt,ZC,unG,reduceCtorEq,Zk,decide_eq_true_eq,Xk,Xg,ite_self,↓reduceIte,Zx,ZG,gcT,gcA,Zv,Zi,Zf,Zj,Zz,Zb,ZA,Zn,ZE,Xm,Zgr,Zd6,Zgj,ZfO,Zd5,ZfS,ZdM,ZZ,ZK,Z4,ZO,ZL,ZN,h1]
 | x::r,i,h=>by
  have ih:=Zja l hl v r (i+1) (Zcn h).2.1
  have h1:(i:Int) < l.length:=by have:=(Zcn h).2.2;omega
  have e1:=iad (Zcn h).1 AVal.str (k:=1) rfl
  have e3:=Zdd h1 hl
  unfold Zcw
  cases hb:(v == x)
  ·rw [if_neg (by simp)]
   unfold Zeg at ih ⊢
   rw [ZaB]
   simp -implicitDefEqProofs only [EQA,ZV,Z0,Z6,Z5,ZU,ZY,ZQ,ZW,Z1,ZS,Z3,ZX,ZT,Z2,ZP,implies_true,forall_const,Xq,Xr,Xw,Xi,Xj,Xs,Xt,ZF,ZJ,unA,Zt,ZC,unG,reduceCtorEq,Zk,decide_eq_true_eq,Xk,Xg,ite_self,↓reduceIte,Zx,ZG,gcT,gcA,Zv,Zi,Zf,Zj,Zz,Zb,ZA,Zn,ZE,Xm,Zgr,Zd6,Zgj,ZfO,Zd5,ZfS,ZdM,ZZ,ZK,Z4,ZO,ZL,ZN,h1,e1,e3,hb,AVal.cells]
   exact ih
  ·rw [if_pos rfl]
   unfold Zeg at ih ⊢
   rw [ZaB]
   simp -implicitDefEqProofs only [EQA,ZV,Z0,Z6,Z5,ZU,ZY,ZQ,ZW,Z1,ZS,Z3,ZX,ZT,Z2,ZP,implies_true,forall_const,Xq,Xr,Xw,Xi,Xj,Xs,Xt,ZF,ZJ,unA,Zt,ZC,unG,reduceCtorEq,Zk,decide_eq_true_eq,Xk,Xg,ite_self,↓reduceIte,Zx,ZG,gcT,gcA,Zv,Zi,Zf,Zj,Zz,Zb,ZA,Zn,ZE,Xm,Zgr,Zd6,Zgj,ZfO,Zd5,ZfS,ZdM,ZZ,ZK,Z4,ZO,ZL,ZN,h1,e1,e3,hb,AVal.cells]
theorem ZmD (l:List Tx) (hl:l.length<=9223372036854775807) (v:Tx):E 21 [.lst false (l.map AVal.str),.str v] []=some (.int .i64 (Zcw v 0 l),[]):=by
 have h:=Zja l hl v l 0 rfl
 have z0:((0:Nat):Int)=0:=rfl
 rw [z0] at h
 unfold Zeg at h
 rw [ZbH (by rfl) Zk2]
 simp -implicitDefEqProofs only [EQA,ZV,Z0,Z6,Z5,ZU,ZY,ZQ,ZW,Z1,ZS,Z3,ZX,ZT,Z2,ZP,implies_true,forall_const,Xq,Xr,Xw,Xi,Xj,Xs,Xt,ZF,ZJ,unA,Zt,ZC,unG,reduceCtorEq,Zk,decide_eq_true_eq,Xk,Xg,ite_self,↓reduceIte,Zx,ZG,gcT,gcA,Zv,Zi,Zf,Zj,Zz,Zb,ZA,Zn,ZE,Xm,Zgr,Zd6,Zgj,ZfO,Zd5,ZfS,ZdM,ZZ,ZK,Z4,ZO,ZL,ZN,AVal.cells]
 exact h
theorem ZjN (l:List Tx) (hl:l.length<=9223372036854775807) (v:Tx):E 17 [.lst false (l.map AVal.str),.str v] []=some (.bool (l.contains v),[]):=by
 have hC:∀ (σ:Za) (sq own:Nat),Zr E BY σ sq 21 own true [.lst false (l.map AVal.str),.str v]=some (.int .i64 (Zcw v 0 l),σ,{}):=fun σ sq own=>ZdS (ZmD l hl v) (by kernel_rfl) rfl rfl rfl (fun _=>rfl) σ sq own
 rw [ZbH (by rfl) Zm2]
 rw [<-ZkJ v l 0]
 simp -implicitDefEqProofs only [EQA,ZV,Z0,Z6,Z5,ZU,ZY,ZQ,ZW,Z1,ZS,Z3,ZX,ZT,Z2,ZP,implies_true,forall_const,Xq,Xr,Xw,Xi,Xj,Xs,Xt,ZF,ZJ,unA,Zt,ZC,unG,reduceCtorEq,Zk,decide_eq_true_eq,Xk,Xg,ite_self,↓reduceIte,Zx,ZG,gcT,gcA,Zv,Zi,Zf,Zj,Zz,Zb,ZA,Zn,ZE,Xm,Zte,ZgM,ZwH,ZZ,ZK,Z4,ZO,ZL,ZN,hC]
theorem Zic (l:List Tx) (b:Bool) (hl:l.length<=9223372036854775807) (v:Tx) (σ:Za) (sq own:Nat):Zr E BY σ sq 17 own true [.lst b (l.map AVal.str),.str v]=some (.bool (l.contains v),σ,{}) :=
 ZdS (ZjN l hl v) (by kernel_rfl) rfl rfl rfl (fun _=>rfl) σ sq own
def Zam (fz:Bool) (g:Nat) (S:List AVal):Zl:=if fz then .frow g 1 S else .row g 1 S
theorem Ze1 (σ:Za) (t g n:Nat) (fz:Bool) (S:List AVal) (hn:n=S.length) (hs:σ[t]?=some (Zam fz g S)):Zk σ (.sl t g 0 n)=some (S,[t]):=by
 subst hn
 cases fz <;> simp only [Zam,Xo,if_false,if_true] at hs <;> simp [Zk,hs]
theorem Zje (l:List Tx) (hl:l.length<=9223372036854775807) (v:Tx) {σ:Za} {t g:Nat} {fz:Bool} (hs:σ[t]?=some (Zam fz g (l.map AVal.str))) (sq own:Nat):Zr E BY σ sq 17 own true [.sl t g 0 l.length,.str v]=some (.bool (l.contains v),σ,{ rd:=[t] }):=by
 refine ZiP (by kernel_rfl) (vs:=[.lst false (l.map AVal.str),.str v]) ?_ rfl rfl (ZjN l hl v) rfl rfl sq own
 have he:=Ze1 σ t g l.length fz (l.map AVal.str) (by simp) hs
 simp only [showAs,showA,Zbc,he,XS]
def gN:Za:=[.var [.map 1],.map []]
def gB (sh:Tx) (ms:List Tx):Za:=[.var [.map 1],.map [(.str sh,.sl 2 0 0 ms.length)],.row 0 1 (ms.map AVal.str)]
section
variable (sh:Tx)
theorem Zi4 {σ:Za} {z:AVal} (hs:σ[1]?=some (.map [])):ZbN σ 2 z false (.map 1) (.str sh)=some (z,σ,{ rd:=[1] }):=by
 simp [ZbN,Zah,hs,Zb6,ZeI]
theorem Zfe {σ:Za} {z v:AVal} (hs:σ[1]?=some (.map [(.str sh,v)])):ZbN σ 2 z false (.map 1) (.str sh)=some (v,σ,{ rd:=[1] }):=by
 simp [ZbN,Zah,hs,Zb6,Zb5,ZeI]
theorem ZrY {σ:Za} {v:AVal} (hv:v.cells.all Zy=true) (hs:σ[1]?=some (.map [])):Zc1 σ 2 (.map 1) (.str sh) v=some (.tup [],σ.set 1 (.map [(.str sh,v)]),{ wr:=[1] }):=by
 simp [Zc1,Zah,ZcM,hs,Zb6,hv]
theorem ZoO {σ:Za} {v u:AVal} (hv:v.cells.all Zy=true) (hs:σ[1]?=some (.map [(.str sh,u)])):Zc1 σ 2 (.map 1) (.str sh) v=some (.tup [],σ.set 1 (.map [(.str sh,v)]),{ wr:=[1] }):=by
 simp [Zc1,Zah,ZcM,hs,Zb6,Zb5,hv]
def Ziz:Prop:=∃ a b:Tx,E 16 [.str sh] []=some (.tup [.str a,.str b,.bool true],[])
variable {sh} (hsh:Ziz sh)
include hsh
theorem Zg6:∃ a b:Tx,∀ (σ:Za) (sq own:Nat),Zr E BY σ sq 16 own true [.str sh]=some (.tup [.str a,.str b,.bool true],σ,{}):=by
 obtain ⟨a,b,h⟩:=hsh
 exact ⟨a,b,fun σ sq own=>ZdS h (by kernel_rfl) rfl rfl rfl (fun _=>rfl) σ sq own⟩
theorem Znt (c:Tx):E 7 [.ref 0 0,.str sh,.str c] gN=some (.tup [],gB sh [c]):=by
 obtain ⟨a,b,hS⟩:=Zg6 hsh
 have hC:=Zic [] true (by decide) c
 rw [show ([]:List Tx).contains c=false from rfl,show ([]:List Tx).map AVal.str=[] from rfl] at hC
 have hl:=fun {σ:Za} {z:AVal} hs=>Zi4 sh (σ:=σ) (z:=z) hs
 have hm:=fun {σ:Za} {v:AVal} hv hs=>ZrY sh (σ:=σ) (v:=v) hv hs
 have hv:∀ (σ:Za),viewAs σ [.str c]=some ([.str c],[]):=fun _=>rfl
 have b1:1*16<=140737488355328:=by decide
 have ho:ZaC 2 [.var [.map 1],.map [(.str sh,.sl 2 0 0 1)],.row 0 1 [.str c]] (.tup [])=some (.tup [],[.var [.map 1],.map [(.str sh,.sl 2 0 0 1)],.row 0 1 [.str c]]):=rfl
 unfold gN gB
 rw [show [c].map AVal.str=[.str c] from rfl,X1,ZbH (by rfl) Zhr]
 simp -implicitDefEqProofs only [EQA,ZV,Z0,Z6,Z5,ZU,ZY,ZQ,ZW,Z1,ZS,Z3,ZX,ZT,Z2,ZP,implies_true,forall_const,Xq,Xr,Xw,Xi,Xj,Xs,Xt,ZF,ZJ,unA,Zt,ZC,unG,reduceCtorEq,Zk,decide_eq_true_eq,Xk,Xg,ite_self,↓reduceIte,Zx,ZG,gcT,gcA,Zv,Zi,Zf,Zj,Zz,Zb,ZA,Zn,ZE,Xm,Zhi,ZeT,ZgR,ZZ,ZK,Z4,ZO,ZL,ZN,hS,hC,hl,hm,hv,b1,ho,AVal.cells,Zy,kOk,Zh,Zax,X1,Xai,We,WG,Zf9,ZeD,Zik,Zcg,XaA,XaD,X2,WH,WD,Wz,Zft,Zfm,Zga,ZfU,ZfA,Wb,Wy,Za8,Zbn,ZbC,Zdf,Zdt,Zc2,Zee,ZdX,ZbD,Zd1,WM,Xat]
theorem Zwc (ms:List Tx) (hl:ms.length<=1000000) (c:Tx) (hc:ms.contains c=true):E 7 [.ref 0 0,.str sh,.str c] (gB sh ms)=some (.tup [],gB sh ms):=by
 obtain ⟨a,b,hS⟩:=Zg6 hsh
 have hC:=fun {σ:Za} hs sq own=>Zje ms (by omega) c (σ:=σ) (t:=2) (g:=0) (fz:=false) hs sq own
 rw [hc] at hC
 simp only [Zam,Xo,if_false] at hC
 have hk:=fun {σ:Za} {z:AVal} hs=>Zfe sh (σ:=σ) (z:=z) (v:=.sl 2 0 0 ms.length) hs
 have ho:ZaC 3 [.var [.map 1],.map [(.str sh,.sl 2 0 0 ms.length)],.row 0 1 (ms.map AVal.str)] (.tup [])=some (.tup [],[.var [.map 1],.map [(.str sh,.sl 2 0 0 ms.length)],.row 0 1 (ms.map AVal.str)]):=rfl
 unfold gB
 generalize ms.map AVal.str=S at *
 rw [ZbH (by rfl) Zhr]
 simp -implicitDefEqProofs only [EQA,ZV,Z0,Z6,Z5,ZU,ZY,ZQ,ZW,Z1,ZS,Z3,ZX,ZT,Z2,ZP,implies_true,forall_const,Xq,Xr,Xw,Xi,Xj,Xs,Xt,ZF,ZJ,unA,Zt,ZC,unG,reduceCtorEq,Zk,decide_eq_true_eq,Xk,Xg,ite_self,↓reduceIte,Zx,ZG,gcT,gcA,Zv,Zi,Zf,Zj,Zz,Zb,ZA,Zn,ZE,Xm,Zhi,ZeT,ZgR,ZZ,ZK,Z4,ZO,ZL,ZN,hS,hC,hk,ho,AVal.cells,Zf9,ZeD,Zik,Zcg,XaA,XaD,X2,WH,WD,Wz,Zft,Zfm,Zga,ZfU,ZfA,Wb,Wy,Za8,Zbn,ZbC,Zdf,Zdt,Zc2,Zee,ZdX,ZbD,Zd1,WM,Xat]
theorem Zmy (ms:List Tx) (hl:ms.length<=1000000) (c:Tx) (hc:ms.contains c=false):E 7 [.ref 0 0,.str sh,.str c] (gB sh ms)=some (.tup [],[.var [.map 1],.map [(.str sh,.sl 2 1 0 (ms.length+1))],.row 1 1 ((ms++[c]).map AVal.str)]):=by
 obtain ⟨a,b,hS⟩:=Zg6 hsh
 have hC:=fun {σ:Za} hs sq own=>Zje ms (by omega) c (σ:=σ) (t:=2) (g:=0) (fz:=false) hs sq own
 rw [hc] at hC
 simp only [Zam,Xo,if_false] at hC
 have hk:=fun {σ:Za} {z:AVal} hs=>Zfe sh (σ:=σ) (z:=z) (v:=.sl 2 0 0 ms.length) hs
 have hm:=fun {σ:Za} {v:AVal} hv hs=>ZoO sh (σ:=σ) (v:=v) (u:=.sl 2 0 0 ms.length) hv hs
 have hv:∀ (σ:Za),viewAs σ [.str c]=some ([.str c],[]):=fun _=>rfl
 have b1:(ms.length+1)*16<=140737488355328:=by omega
 have hS1:(ms.map AVal.str).length=ms.length:=by simp
 have e1:(ms++[c]).map AVal.str=ms.map AVal.str++[.str c]:=by simp
 rw [e1]
 unfold gB
 generalize ms.map AVal.str=S at *
 generalize ms.length=n at *
 have ho:∀ x,ZaC 3 [.var [.map 1],.map [(.str sh,.sl 2 1 0 (n+1))],.row 1 1 (S++[.str c]),x] (.tup [])=some (.tup [],[.var [.map 1],.map [(.str sh,.sl 2 1 0 (n+1))],.row 1 1 (S++[.str c])]):=fun _=>rfl
 rw [ZbH (by rfl) Zhr]
 simp -implicitDefEqProofs only [EQA,ZV,Z0,Z6,Z5,ZU,ZY,ZQ,ZW,Z1,ZS,Z3,ZX,ZT,Z2,ZP,implies_true,forall_const,Xq,Xr,Xw,Xi,Xj,Xs,Xt,ZF,ZJ,unA,Zt,ZC,unG,reduceCtorEq,Zk,decide_eq_true_eq,Xk,Xg,ite_self,↓reduceIte,Zx,ZG,gcT,gcA,Zv,Zi,Zf,Zj,Zz,Zb,ZA,Zn,ZE,Xm,Zhi,ZeT,ZgR,ZZ,ZK,Z4,ZO,ZL,ZN,hS,hC,hk,hm,hv,b1,hS1,ho,AVal.cells,Zy,kOk,Zh,Zax,X1,Xai,We,WG,Zf9,ZeD,Zik,Zcg,XaA,XaD,X2,WH,WD,Wz,Zft,Zfm,Zga,ZfU,ZfA,Wb,Wy,Za8,Zbn,ZbC,Zdf,Zdt,Zc2,Zee,ZdX,ZbD,Zd1,WM,Xat]
end
end
section
def gF (fz:Bool) (sh:Tx) (ms:List Tx):Za:=[.var [.map 1],.map [(.str sh,.sl 2 0 0 ms.length)],Zam fz 0 (ms.map AVal.str)]
theorem Zmh (L:List Tx) (h:L.length<=1000000):E 18 [.lst false (L.map AVal.str)] []=some (.sl 0 0 0 L.length,[.row 0 1 (L.map AVal.str)]):=by
 refine Zbr.2 ⟨1,?_⟩
 show ZeF 1 16 [.lst false (L.map AVal.str)] []=_
 have h1:(L.map AVal.str).length*16<=140737488355328/\kOk 1 (L.map AVal.str)=true:=⟨by simp;omega,ZpH L⟩
 simp only [ZeF,Zk]
 rw [if_pos h1];simp
theorem ZrD (L:List Tx):(L.map AVal.str).all Zau=true:=by
 rw [Xp]
 intro x hx
 obtain ⟨b,_,rfl⟩:=XF.1 hx
 rfl
theorem Zl1 (σ:Za) (sq t:Nat) (fz:Bool) (L:List Tx) (h:L.length<=1000000) (hs:σ[t]?=some (Zam fz 0 (L.map AVal.str))):Zr E BY σ sq 18 1 false [.sl t 0 0 L.length]=some (.sl sq 0 0 L.length,σ.set sq (.row 0 1 (L.map AVal.str)),{ rd:=[t] }):=by
 have he:=Ze1 σ t 0 L.length fz (L.map AVal.str) (by simp) hs
 have hsh:showAs σ [.sl t 0 0 L.length]=some ([.lst false (L.map AVal.str)],[t]):=by
  simp only [showAs,showA,Zbc,he,XS]
 have hb:BY 18=false:=by kernel_rfl
 unfold Zr ZbE
 rw [hb]
 simp only [Xo,if_false,hsh]
 have h0:Zi (Zh σ [t]) 1000 (ZR [.lst false (L.map AVal.str)]) []=[]:=rfl
 rw [h0]
 unfold Zbg
 simp only [WH,if_true,Zj,Wz,ZH,Ze,Zat,Xo,if_false]
 rw [Zmh L h]
 have hf:=ZrD L
 simp only [Zaj,Wu,List.isEmpty_cons,Bool.and_false,Xo,if_false,if_true,ZeA,hf,decide_true,Ww,WO]
theorem Zm9 (fz:Bool) (sh:Tx) (ms:List Tx) (hl:ms.length<=1000000):E 8 [.ref 0 0,.str sh] (gF fz sh ms)=some (.sl 3 0 0 ms.length,gF fz sh ms++[.row 0 1 (ms.map AVal.str)]):=by
 have hC:=Zl1 [.var [.map 1],.map [(.str sh,.sl 2 0 0 ms.length)],Zam fz 0 (ms.map AVal.str),.free] 3 2 fz ms hl rfl
 have hk:=fun {σ:Za} {z:AVal} hs=>Zfe sh (σ:=σ) (z:=z) (v:=.sl 2 0 0 ms.length) hs
 have ho:ZaC 3 [.var [.map 1],.map [(.str sh,.sl 2 0 0 ms.length)],Zam fz 0 (ms.map AVal.str),.row 0 1 (ms.map AVal.str)] (.sl 3 0 0 ms.length)=some (.sl 3 0 0 ms.length,[.var [.map 1],.map [(.str sh,.sl 2 0 0 ms.length)],Zam fz 0 (ms.map AVal.str),.row 0 1 (ms.map AVal.str)]):=by cases fz <;> rfl
 unfold gF
 rw [show [Zl.var [AVal.map 1],Zl.map [(AVal.str sh,AVal.sl 2 0 0 ms.length)],Zam fz 0 (ms.map AVal.str)]++[Zl.row 0 1 (ms.map AVal.str)]=[.var [.map 1],.map [(.str sh,.sl 2 0 0 ms.length)],Zam fz 0 (ms.map AVal.str),.row 0 1 (ms.map AVal.str)] from rfl]
 generalize Zam fz 0 (ms.map AVal.str)=R at *
 generalize ms.map AVal.str=S at *
 rw [ZbH (by rfl) ZmJ]
 simp -implicitDefEqProofs only [EQA,ZV,Z0,Z6,Z5,ZU,ZY,ZQ,ZW,Z1,ZS,Z3,ZX,ZT,Z2,ZP,implies_true,forall_const,Xq,Xr,Xw,Xi,Xj,Xs,Xt,ZF,ZJ,unA,Zt,ZC,unG,reduceCtorEq,Zk,decide_eq_true_eq,Xk,Xg,ite_self,↓reduceIte,Zx,ZG,gcT,gcA,Zv,Zi,Zf,Zj,Zz,Zb,ZA,Zn,ZE,Xm,ZsC,ZgD,ZuO,ZZ,ZK,Z4,ZO,ZL,ZN,hC,hk,ho,AVal.cells]
def amF (o:List Tx) (are:Bool) (l:List Tx):List Tx:=l.filter fun s=>o.contains s == are
theorem Zks (o:List Tx) (are:Bool) (x:Tx) (l:List Tx):amF o are (x::l)=if (o.contains x == are)=true then x::amF o are l else amF o are l:=by
 unfold amF
 rw [List.filter_cons]
section
variable (l o:List Tx) (are:Bool) (hl:l.length<=1000000) (ho:o.length<=9223372036854775807)
include hl ho
theorem Zg4:∀ (r:List Tx) (i:Nat) (a:List Tx),l.drop i=r->a.length<=i->i<=l.length ->
  Zcx 0 [(12,.int .i64 (i:Int)),(11,.int .i64 (l.length:Int)),(10,.lst false (l.map AVal.str)),(7,.sl 0 0 0 a.length),(2,.bool are),(1,.lst false (o.map AVal.str))] [.row 0 1 (a.map AVal.str)]=some (.sl 0 0 0 (a++amF o are r).length,[.row 0 1 ((a++amF o are r).map AVal.str)])
 | [],i,a,h,ha,hi=>by
  have h1:=Zfo h
  rw [show amF o are []=[] from rfl,XS]
  have hout:ZaC 0 [.row 0 1 (a.map AVal.str)] (.sl 0 0 0 a.length)=some (.sl 0 0 0 a.length,[.row 0 1 (a.map AVal.str)]):=rfl
  unfold Zcx
  generalize a.map AVal.str=A at *
  rw [ZaB]
  simp -implicitDefEqProofs only [EQA,ZV,Z0,Z6,Z5,ZU,ZY,ZQ,ZW,Z1,ZS,Z3,ZX,ZT,Z2,ZP,implies_true,forall_const,Xq,Xr,Xw,Xi,Xj,Xs,Xt,ZF,ZJ,unA,Zt,ZC,unG,reduceCtorEq,Zk,decide_eq_true_eq,Xk,Xg,ite_self,↓reduceIte,Zx,ZG,gcT,gcA,Zv,Zi,Zf,Zj,Zz,Zb,ZA,Zn,ZE,Xm,Zdc,Zct,Zdi,Zdl,Zcv,Zdv,ZcI,ZZ,ZK,Z4,ZO,ZL,ZN,h1,hout]
 | x::r,i,a,h,ha,hi=>by
  obtain ⟨g1,d1,l1⟩:=Zcn h
  have h1:(i:Int) < l.length:=by omega
  have e1:=iad g1 AVal.str (k:=1) rfl
  have e3:=Zdd h1 (by omega)
  have hC:=Zic o false ho x
  have hv:∀ (σ:Za),viewAs σ [.str x]=some ([.str x],[]):=fun _=>rfl
  have b1:(a.length+1)*16<=140737488355328:=by omega
  have hS1:(a.map AVal.str).length=a.length:=by simp
  rw [Zks]
  cases hc:(o.contains x == are) with
  | false =>
   have ih:=Zg4 r (i+1) a d1 (by omega) (by omega)
   rw [if_neg (by simp)]
   have hc':((o.contains x == are) != false)=false:=by rw [hc];rfl
   unfold Zcx at ih ⊢
   generalize a.map AVal.str=A at *
   generalize l.map AVal.str=S at *
   rw [ZaB]
   simp -implicitDefEqProofs only [EQA,ZV,Z0,Z6,Z5,ZU,ZY,ZQ,ZW,Z1,ZS,Z3,ZX,ZT,Z2,ZP,implies_true,forall_const,Xq,Xr,Xw,Xi,Xj,Xs,Xt,ZF,ZJ,unA,Zt,ZC,unG,reduceCtorEq,Zk,decide_eq_true_eq,Xk,Xg,ite_self,↓reduceIte,Zx,ZG,gcT,gcA,Zv,Zi,Zf,Zj,Zz,Zb,ZA,Zn,ZE,Xm,Zdc,Zct,Zdi,Zdl,Zcv,Zdv,ZcI,ZZ,ZK,Z4,ZO,ZL,ZN,h1,e1,e3,hC,hc',AVal.cells]
   exact ih
  | true =>
   have ih:=Zg4 r (i+1) (a++[x]) d1 (by simp;omega) (by omega)
   rw [if_pos rfl]
   have hc':((o.contains x == are) != false)=true:=by rw [hc];rfl
   have e5:(a++[x]).map AVal.str=a.map AVal.str++[.str x]:=by simp
   have e6:a++x::amF o are r=a++[x]++amF o are r:=by simp
   have e7:(a++[x]).length=a.length+1:=by simp
   rw [e6]
   rw [e5,e7] at ih
   unfold Zcx at ih ⊢
   generalize a.map AVal.str=A at *
   generalize l.map AVal.str=S at *
   rw [ZaB]
   simp -implicitDefEqProofs only [EQA,ZV,Z0,Z6,Z5,ZU,ZY,ZQ,ZW,Z1,ZS,Z3,ZX,ZT,Z2,ZP,implies_true,forall_const,Xq,Xr,Xw,Xi,Xj,Xs,Xt,ZF,ZJ,unA,Zt,ZC,unG,reduceCtorEq,Zk,decide_eq_true_eq,Xk,Xg,ite_self,↓reduceIte,Zx,ZG,gcT,gcA,Zv,Zi,Zf,Zj,Zz,Zb,ZA,Zn,ZE,Xm,Zdc,Zct,Zdi,Zdl,Zcv,Zdv,ZcI,ZZ,ZK,Z4,ZO,ZL,ZN,h1,e1,e3,hC,hc',hv,b1,hS1,AVal.cells,kOk,Zh,Zax,X1,Xai,We,WG]
   exact ih
theorem ZkA:∀ (r:List Tx) (i:Nat),l.drop i=r->i<=l.length ->
  Zcx 0 [(12,.int .i64 (i:Int)),(11,.int .i64 (l.length:Int)),(10,.lst false (l.map AVal.str)),(7,.lst true []),(2,.bool are),(1,.lst false (o.map AVal.str))] []=(if amF o are r=[] then some (.lst true [],[]) else some (.sl 0 0 0 (amF o are r).length,[.row 0 1 ((amF o are r).map AVal.str)]))
 | [],i,h,hi=>by
  have h1:=Zfo h
  rw [if_pos (show amF o are []=[] from rfl)]
  unfold Zcx
  rw [ZaB]
  simp -implicitDefEqProofs only [EQA,ZV,Z0,Z6,Z5,ZU,ZY,ZQ,ZW,Z1,ZS,Z3,ZX,ZT,Z2,ZP,implies_true,forall_const,Xq,Xr,Xw,Xi,Xj,Xs,Xt,ZF,ZJ,unA,Zt,ZC,unG,reduceCtorEq,Zk,decide_eq_true_eq,Xk,Xg,ite_self,↓reduceIte,Zx,ZG,gcT,gcA,Zv,Zi,Zf,Zj,Zz,Zb,ZA,Zn,ZE,Xm,Zdc,Zct,Zdi,Zdl,Zcv,Zdv,ZcI,ZZ,ZK,Z4,ZO,ZL,ZN,h1]
 | x::r,i,h,hi=>by
  obtain ⟨g1,d1,l1⟩:=Zcn h
  have h1:(i:Int) < l.length:=by omega
  have e1:=iad g1 AVal.str (k:=1) rfl
  have e3:=Zdd h1 (by omega)
  have hC:=Zic o false ho x
  have hv:∀ (σ:Za),viewAs σ [.str x]=some ([.str x],[]):=fun _=>rfl
  have b1:1*16<=140737488355328:=by omega
  rw [Zks]
  cases hc:(o.contains x == are) with
  | false =>
   have ih:=ZkA r (i+1) d1 (by omega)
   rw [if_neg (show ¬(false=true) by simp)]
   have hc':((o.contains x == are) != false)=false:=by rw [hc];rfl
   rw [<-ih]
   unfold Zcx
   generalize l.map AVal.str=S at *
   rw [ZaB]
   simp -implicitDefEqProofs only [EQA,ZV,Z0,Z6,Z5,ZU,ZY,ZQ,ZW,Z1,ZS,Z3,ZX,ZT,Z2,ZP,implies_true,forall_const,Xq,Xr,Xw,Xi,Xj,Xs,Xt,ZF,ZJ,unA,Zt,ZC,unG,reduceCtorEq,Zk,decide_eq_true_eq,Xk,Xg,ite_self,↓reduceIte,Zx,ZG,gcT,gcA,Zv,Zi,Zf,Zj,Zz,Zb,ZA,Zn,ZE,Xm,Zdc,Zct,Zdi,Zdl,Zcv,Zdv,ZcI,ZZ,ZK,Z4,ZO,ZL,ZN,h1,e1,e3,hC,hc',AVal.cells]
  | true =>
   have ih:=Zg4 l o are hl ho r (i+1) [x] d1 (by simp) (by omega)
   rw [if_pos (show true=true from rfl),if_neg (by simp)]
   have hc':((o.contains x == are) != false)=true:=by rw [hc];rfl
   rw [show x::amF o are r=[x]++amF o are r from rfl,<-ih,show [x].map AVal.str=[.str x] from rfl]
   unfold Zcx
   generalize l.map AVal.str=S at *
   rw [ZaB]
   simp -implicitDefEqProofs only [EQA,ZV,Z0,Z6,Z5,ZU,ZY,ZQ,ZW,Z1,ZS,Z3,ZX,ZT,Z2,ZP,implies_true,forall_const,Xq,Xr,Xw,Xi,Xj,Xs,Xt,ZF,ZJ,unA,Zt,ZC,unG,reduceCtorEq,Zk,decide_eq_true_eq,Xk,Xg,ite_self,↓reduceIte,Zx,ZG,gcT,gcA,Zv,Zi,Zf,Zj,Zz,Zb,ZA,Zn,ZE,Xm,Zdc,Zct,Zdi,Zdl,Zcv,Zdv,ZcI,ZZ,ZK,Z4,ZO,ZL,ZN,h1,e1,e3,hC,hc',hv,b1,AVal.cells,kOk,Zh,Zax,X1,Xai,We,WG]
theorem ZsS:E 19 [.lst false (l.map AVal.str),.lst false (o.map AVal.str),.bool are] []=(if amF o are l=[] then some (.lst true [],[]) else some (.sl 0 0 0 (amF o are l).length,[.row 0 1 ((amF o are l).map AVal.str)])):=by
 have h:=ZkA l o are hl ho l 0 rfl (XaE _)
 have z0:((0:Nat):Int)=0:=rfl
 have hL:(l.map AVal.str).length=l.length:=by simp
 rw [z0] at h
 rw [<-h]
 unfold Zcx
 generalize l.map AVal.str=S at *
 rw [ZbH (by rfl) Zmg]
 simp -implicitDefEqProofs only [EQA,ZV,Z0,Z6,Z5,ZU,ZY,ZQ,ZW,Z1,ZS,Z3,ZX,ZT,Z2,ZP,implies_true,forall_const,Xq,Xr,Xw,Xi,Xj,Xs,Xt,ZF,ZJ,unA,Zt,ZC,unG,reduceCtorEq,Zk,decide_eq_true_eq,Xk,Xg,ite_self,↓reduceIte,Zx,ZG,gcT,gcA,Zv,Zi,Zf,Zj,Zz,Zb,ZA,Zn,ZE,Xm,Zdc,Zct,Zdi,Zdl,Zcv,Zdv,ZcI,ZZ,ZK,Z4,ZO,ZL,ZN,hL]
theorem ZjA:Zat true 0 (E 19 [.lst false (l.map AVal.str),.lst false (o.map AVal.str),.bool are] [])=some (.lst false ((amF o are l).map AVal.str),[]):=by
 rw [ZsS l o are hl ho]
 by_cases h:amF o are l=[]
 ·rw [if_pos h,h];rfl
 ·rw [if_neg h]
  unfold Zat
  rw [if_pos rfl,ZpF (k:=1) (g:=0) (t:=0) (xs:=(amF o are l).map AVal.str) rfl (by simp),X7 (by simp)]
end
end
section
theorem ZtN {O:Zo} {bf:Nat->Bool} {f:Nat} {args args':List AVal} {r':AVal} (h:Zat true 0 (O f args' [])=some (r',[])) (hb:bf f=false) (hp:args.all Zag=true) (hn:args.map Zac=args') (hr:∀ sq,Ze (ZaA [] [] sq) r'=r') (σ:Za) (sq own:Nat):Zr O bf σ sq f own true args=some (r',σ,{}):=by
 cases hO:O f args' [] with
 | none =>
  rw [hO] at h
  unfold Zat at h
  split at h <;> cases h
 | some q =>
  rw [ZkL hb hp,hn,h]
  exact ZjG _ _ _ _ (hr _)
theorem Zhn (l o:List Tx) (are a b:Bool) (hl:l.length<=1000000) (ho:o.length<=9223372036854775807) (σ:Za) (sq own:Nat):Zr E BY σ sq 19 own true [.lst a (l.map AVal.str),.lst b (o.map AVal.str),.bool are]=some (.lst false ((amF o are l).map AVal.str),σ,{}) :=
 ZtN (ZjA l o are hl ho) (by kernel_rfl) rfl rfl (fun _=>rfl) σ sq own
theorem ZoC (l:List Tx):Zf7 (l.map AVal.str)=true:=by
 unfold Zf7
 rw [Xp]
 intro x hx
 obtain ⟨b,_,rfl⟩:=XF.1 hx
 rfl
theorem Zxi (l o:List Tx) (are b:Bool) (hl:l.length<=1000000) (ho:o.length<=9223372036854775807) {σ:Za} {t:Nat} {fz:Bool} (hs:σ[t]?=some (Zam fz 0 (l.map AVal.str))) (sq own:Nat) :
  Zr E BY σ sq 19 own true [.sl t 0 0 l.length,.lst b (o.map AVal.str),.bool are]=(if amF o are l=[] then some (.lst false [],σ,{ rd:=[t] }) else some (.lst false ((amF o are l).map AVal.str),Zh σ [t],{ rd:=[t],wr:=[t] })):=by
 have he:=Ze1 σ t 0 l.length fz (l.map AVal.str) (by simp) hs
 have hsh:showAs σ [.sl t 0 0 l.length,.lst b (o.map AVal.str),.bool are]=some ([.lst false (l.map AVal.str),.lst false (o.map AVal.str),.bool are],[t]):=by
  simp only [showAs,showA,Zbc,he,XS]
 have hb:BY 19=false:=by kernel_rfl
 have hv:=ZjA l o are hl ho
 have hnb:Zcq σ t=true:=by
  unfold Zcq
  rw [hs]
  cases fz
  ·exact ZoC l
  ·rfl
 unfold Zr ZbE
 rw [hb]
 simp only [Xo,if_false,hsh]
 rw [show ZR [AVal.lst false (l.map AVal.str),AVal.lst false (o.map AVal.str),AVal.bool are]=[] from rfl]
 have h2:∀ σ,Zi σ 1000 [] []=[]:=fun _=>rfl
 rw [h2]
 unfold Zbg
 rw [if_pos (by rfl)]
 have h3:∀ σ,ZH (Zf σ 0 []) [AVal.lst false (l.map AVal.str),AVal.lst false (o.map AVal.str),AVal.bool are]=[AVal.lst false (l.map AVal.str),AVal.lst false (o.map AVal.str),AVal.bool are]:=fun _=>rfl
 have h4:∀ σ,Zj σ 0 [] (Zf σ 0 []) [] 0=[]:=fun _=>rfl
 rw [h3,h4,Wz,hv]
 simp only [Zaj,Wu,Ww,if_true]
 rw [if_neg (show ¬Zaz (.lst false ((amF o are l).map AVal.str))=true by rw [show Zaz (.lst false ((amF o are l).map AVal.str))=false from rfl];simp)]
 by_cases h:amF o are l=[]
 ·rw [if_pos h,h]
  rw [if_pos (show Zbt σ [t] (.lst false (([]:List Tx).map AVal.str))=true by
   unfold Zbt
   simp only [List.isEmpty_cons,Bool.not_false,X2,WH,hnb,Ww]
   rfl)]
  rfl
 ·rw [if_neg h]
  rw [if_neg (show ¬Zbt σ [t] (.lst false ((amF o are l).map AVal.str))=true by
   unfold Zbt
   obtain ⟨x,r,hx⟩:=List.exists_cons_of_ne_nil h
   rw [hx]
   have : ZdV (.lst false ((x::r).map AVal.str))=false:=rfl
   rw [this]
   simp)]
  rfl
theorem Zm1 (d n:Nat) (hn:0 < n) (hd:d<=1000000000) (hn2:n<=1000000):E 20 [.int .i64 (d:Int),.int .i64 (n:Int)] []=some (.int .i64 ((d % n:Nat):Int),[]):=by
 have h0:¬(n:Int)=0:=by omega
 have h1:((d:Int)).tmod (n:Int)=((d % n:Nat):Int):=by rw [Int.ofNat_tmod]
 have h2:¬((d % n:Nat):Int) < 0:=by omega
 rw [ZbH (by rfl) ZqR]
 simp -implicitDefEqProofs only [EQA,ZV,Z0,Z6,Z5,ZU,ZY,ZQ,ZW,Z1,ZS,Z3,ZX,ZT,Z2,ZP,implies_true,forall_const,Xq,Xr,Xw,Xi,Xj,Xs,Xt,ZF,ZJ,unA,Zt,ZC,unG,reduceCtorEq,Zk,decide_eq_true_eq,Xk,Xg,ite_self,↓reduceIte,Zx,ZG,gcT,gcA,Zv,Zi,Zf,Zj,Zz,Zb,ZA,Zn,ZE,Xm,Zn4,ZhT,Zpq,ZZ,ZK,Z4,ZO,ZL,ZN,h0,h1,h2]
def chL (first but ms:List Tx):List Tx:=if amF first true (amF but false ms)=[] then amF but false ms else amF first true (amF but false ms)
def chS (L:List Tx) (d:Nat):AVal:=match L[d % L.length]? with
 | some s=>.tup [.str s,.bool true]
 | none=>.tup [.str [],.bool false]
theorem ZgO (o:List Tx) (are:Bool) (l:List Tx):(amF o are l).length<=l.length:=List.length_filter_le _ _
theorem ZiI (fz:Bool) (sh:Tx) (ms first but:List Tx) (hl:ms.length<=1000000) (hf:first.length<=9223372036854775807) (hbt:but.length<=9223372036854775807) (d:Nat) (hd:d<=1000000000) :
  E 9 [.ref 0 0,.str sh,.int .i64 (d:Int),.lst false (first.map AVal.str),.lst false (but.map AVal.str)] (gF fz sh ms)=some (chS (chL first but ms) d,gF (if amF but false ms=[] then fz else true) sh ms):=by
 have hk:=fun {σ:Za} {z:AVal} hs=>Zfe sh (σ:=σ) (z:=z) (v:=.sl 2 0 0 ms.length) hs
 have hA:=fun sq own=>Zxi ms but false false hl hbt (σ:=gF fz sh ms) (t:=2) (fz:=fz) rfl sq own
 have hB:=fun σ sq own=>Zhn (amF but false ms) first true false false (W8 (ZgO _ _ _) hl) hf σ sq own
 have hfr:Zh (gF fz sh ms) [2]=gF true sh ms:=by cases fz <;> rfl
 rw [hfr] at hA
 unfold chL
 by_cases h1:amF but false ms=[]
 ·rw [if_pos h1]
  have h2:amF first true (amF but false ms)=[]:=by rw [h1];rfl
  rw [if_pos h2,h1]
  rw [h1] at hA hB
  simp only [if_true,show amF first true []=[] from rfl,XT] at hA hB
  rw [show chS [] d=.tup [.str [],.bool false] from rfl]
  have ho:ZaC 3 (gF fz sh ms) (.tup [.str [],.bool false])=some (.tup [.str [],.bool false],gF fz sh ms):=by cases fz <;> rfl
  have w0:¬(((0:Nat):Int) > 0):=by decide
  have w1:(((0:Nat):Int) == 0)=true:=rfl
  unfold gF at hA ho ⊢
  generalize Zam fz 0 (ms.map AVal.str)=R at *
  rw [ZbH (by rfl) Zgp]
  simp -implicitDefEqProofs only [EQA,ZV,Z0,Z6,Z5,ZU,ZY,ZQ,ZW,Z1,ZS,Z3,ZX,ZT,Z2,ZP,implies_true,forall_const,Xq,Xr,Xw,Xi,Xj,Xs,Xt,ZF,ZJ,unA,Zt,ZC,unG,reduceCtorEq,Zk,decide_eq_true_eq,Xk,Xg,ite_self,↓reduceIte,Zx,ZG,gcT,gcA,Zv,Zi,Zf,Zj,Zz,Zb,ZA,Zn,ZE,Xm,Zfk,ZdU,Zfc,ZZ,ZK,Z4,ZO,ZL,ZN,hk,hA,hB,ho,w0,w1,AVal.cells]
 ·rw [if_neg h1]
  rw [if_neg h1] at hA
  have key:∀ (L:List Tx) (hL:L≠[]) (hLl:L.length<=1000000),∃ s,L[d % L.length]?=some s/\chS L d=.tup [.str s,.bool true]/\(∀ (σ:Za) (sq own:Nat),Zr E BY σ sq 20 own true [.int .i64 (d:Int),.int .i64 (L.length:Int)]=some (.int .i64 ((d % L.length:Nat):Int),σ,{})):=by
   intro L hL hLl
   have hp:0 < L.length:=XV.2 hL
   have hm:=Xag d hp
   refine ⟨L[d % L.length],Xy hm,?_,fun σ sq own=>ZdS (Zm1 d L.length hp hd hLl) (by kernel_rfl) rfl rfl rfl (fun _=>rfl) σ sq own⟩
   unfold chS
   rw [Xy hm]
  have l1:=W8 (ZgO but false ms) hl
  have l2:=W8 (ZgO first true (amF but false ms)) l1
  have w0:∀ {L:List Tx},L≠[]->((L.length:Int) > 0):=fun h=>by have:=XV.2 h;omega
  have w1:∀ {L:List Tx},L≠[]->((L.length:Int) == 0)=false:=fun h=>by have:=XV.2 h;simp;omega
  generalize amF but false ms=R1 at *
  by_cases h2:amF first true R1=[]
  ·rw [if_pos h2]
   rw [h2,XT] at hB
   obtain ⟨s,g1,g2,g3⟩:=key R1 h1 l1
   rw [g2]
   have ia:=fun σ kk=>iad g1 AVal.str (k:=1) rfl σ false kk
   have x1:=w1 h1
   have hLn:(R1.map AVal.str).length=R1.length:=by simp
   have z1:¬(((0:Nat):Int) > 0):=by decide
   have ho:ZaC 3 (gF true sh ms) (.tup [.str s,.bool true])=some (.tup [.str s,.bool true],gF true sh ms):=rfl
   clear key w0 w1 hfr
   unfold gF at hA ho ⊢
   generalize Zam true 0 (ms.map AVal.str)=RT at *
   generalize Zam fz 0 (ms.map AVal.str)=RF at *
   generalize R1.map AVal.str=S1 at *
   rw [ZbH (by rfl) Zgp]
   simp -implicitDefEqProofs only [EQA,ZV,Z0,Z6,Z5,ZU,ZY,ZQ,ZW,Z1,ZS,Z3,ZX,ZT,Z2,ZP,implies_true,forall_const,Xq,Xr,Xw,Xi,Xj,Xs,Xt,ZF,ZJ,unA,Zt,ZC,unG,reduceCtorEq,Zk,decide_eq_true_eq,Xk,Xg,ite_self,↓reduceIte,Zx,ZG,gcT,gcA,Zv,Zi,Zf,Zj,Zz,Zb,ZA,Zn,ZE,Xm,Zfk,ZdU,Zfc,ZZ,ZK,Z4,ZO,ZL,ZN,hk,hA,hB,g3,ia,x1,hLn,z1,ho,AVal.cells]
  ·rw [if_neg h2]
   obtain ⟨s,g1,g2,g3⟩:=key (amF first true R1) h2 l2
   rw [g2]
   have ia:=fun σ kk=>iad g1 AVal.str (k:=1) rfl σ false kk
   have x0:=w0 h2
   have x1:=w1 h2
   have hLn:((amF first true R1).map AVal.str).length=(amF first true R1).length:=by simp
   have ho:ZaC 3 (gF true sh ms) (.tup [.str s,.bool true])=some (.tup [.str s,.bool true],gF true sh ms):=rfl
   clear key w0 w1 hfr
   unfold gF at hA ho ⊢
   generalize amF first true R1=R2 at *
   generalize Zam true 0 (ms.map AVal.str)=RT at *
   generalize Zam fz 0 (ms.map AVal.str)=RF at *
   generalize R2.map AVal.str=S2 at *
   generalize R1.map AVal.str=S1 at *
   rw [ZbH (by rfl) Zgp]
   simp -implicitDefEqProofs only [EQA,ZV,Z0,Z6,Z5,ZU,ZY,ZQ,ZW,Z1,ZS,Z3,ZX,ZT,Z2,ZP,implies_true,forall_const,Xq,Xr,Xw,Xi,Xj,Xs,Xt,ZF,ZJ,unA,Zt,ZC,unG,reduceCtorEq,Zk,decide_eq_true_eq,Xk,Xg,ite_self,↓reduceIte,Zx,ZG,gcT,gcA,Zv,Zi,Zf,Zj,Zz,Zb,ZA,Zn,ZE,Xm,Zfk,ZdU,Zfc,ZZ,ZK,Z4,ZO,ZL,ZN,hk,hA,hB,g3,ia,x0,x1,hLn,ho,AVal.cells]
theorem Zjr (l:List Tx) (hl:l.length<=9223372036854775807) (v:Tx):∀ (r:List Tx) (i:Nat),l.drop i=r ->
  Ze4 0 [(5,.int .i64 (i:Int)),(1,.str v),(0,.lst false (l.map AVal.str))] []=some (.bool (r.contains v),[])
 | [],i,h=>by
  have h1:=Zfo h
  unfold Ze4
  rw [ZaB,show ([]:List Tx).contains v=false from rfl]
  have hL:(l.map AVal.str).length=l.length:=by simp
  simp -implicitDefEqProofs only [EQA,ZV,Z0,Z6,Z5,ZU,ZY,ZQ,ZW,Z1,ZS,Z3,ZX,ZT,Z2,ZP,implies_true,forall_const,Xq,Xr,Xw,Xi,Xj,Xs,Xt,ZF,ZJ,unA,Zt,ZC,unG,reduceCtorEq,Zk,decide_eq_true_eq,Xk,Xg,ite_self,↓reduceIte,Zx,ZG,gcT,gcA,Zv,Zi,Zf,Zj,Zz,Zb,ZA,Zn,ZE,Xm,Zfh,ZdJ,ZfW,Zgn,ZdT,Zge,ZdG,ZZ,ZK,Z4,ZO,ZL,ZN,h1,hL]
 | x::r,i,h=>by
  have ih:=Zjr l hl v r (i+1) (Zcn h).2.1
  have h1:(i:Int) < l.length:=by have:=(Zcn h).2.2;omega
  have e1:=iad (Zcn h).1 AVal.str (k:=1) rfl
  have e3:=Zdd h1 hl
  have hL:(l.map AVal.str).length=l.length:=by simp
  rw [Xaj]
  have hbx:(v == x)=(x == v):=by
   by_cases h:v=x
   ·rw [h]
   ·rw [beq_eq_false_iff_ne.2 h,beq_eq_false_iff_ne.2 (fun e=>h e.symm)]
  rw [hbx]
  cases hb:(x == v)
  ·rw [Xam]
   unfold Ze4 at ih ⊢
   generalize l.map AVal.str=S at *
   rw [ZaB]
   simp -implicitDefEqProofs only [EQA,ZV,Z0,Z6,Z5,ZU,ZY,ZQ,ZW,Z1,ZS,Z3,ZX,ZT,Z2,ZP,implies_true,forall_const,Xq,Xr,Xw,Xi,Xj,Xs,Xt,ZF,ZJ,unA,Zt,ZC,unG,reduceCtorEq,Zk,decide_eq_true_eq,Xk,Xg,ite_self,↓reduceIte,Zx,ZG,gcT,gcA,Zv,Zi,Zf,Zj,Zz,Zb,ZA,Zn,ZE,Xm,Zfh,ZdJ,ZfW,Zgn,ZdT,Zge,ZdG,ZZ,ZK,Z4,ZO,ZL,ZN,h1,e1,e3,hb,hL,AVal.cells]
   exact ih
  ·rw [WQ]
   unfold Ze4 at ih ⊢
   generalize l.map AVal.str=S at *
   rw [ZaB]
   simp -implicitDefEqProofs only [EQA,ZV,Z0,Z6,Z5,ZU,ZY,ZQ,ZW,Z1,ZS,Z3,ZX,ZT,Z2,ZP,implies_true,forall_const,Xq,Xr,Xw,Xi,Xj,Xs,Xt,ZF,ZJ,unA,Zt,ZC,unG,reduceCtorEq,Zk,decide_eq_true_eq,Xk,Xg,ite_self,↓reduceIte,Zx,ZG,gcT,gcA,Zv,Zi,Zf,Zj,Zz,Zb,ZA,Zn,ZE,Xm,Zfh,ZdJ,ZfW,Zgn,ZdT,Zge,ZdG,ZZ,ZK,Z4,ZO,ZL,ZN,h1,e1,e3,hb,hL,AVal.cells]
theorem ZkH (l:List Tx) (hl:l.length<=9223372036854775807) (v:Tx):E 10 [.lst false (l.map AVal.str),.str v] []=some (.bool (l.contains v),[]):=by
 have h:=Zjr l hl v l 0 rfl
 have z0:((0:Nat):Int)=0:=rfl
 rw [z0] at h
 unfold Ze4 at h
 generalize l.map AVal.str=S at *
 rw [ZbH (by rfl) ZqT]
 simp -implicitDefEqProofs only [EQA,ZV,Z0,Z6,Z5,ZU,ZY,ZQ,ZW,Z1,ZS,Z3,ZX,ZT,Z2,ZP,implies_true,forall_const,Xq,Xr,Xw,Xi,Xj,Xs,Xt,ZF,ZJ,unA,Zt,ZC,unG,reduceCtorEq,Zk,decide_eq_true_eq,Xk,Xg,ite_self,↓reduceIte,Zx,ZG,gcT,gcA,Zv,Zi,Zf,Zj,Zz,Zb,ZA,Zn,ZE,Xm,Zfh,ZdJ,ZfW,Zgn,ZdT,Zge,ZdG,ZZ,ZK,Z4,ZO,ZL,ZN,AVal.cells]
 exact h
theorem ZeS (l:List Tx) (b:Bool) (hl:l.length<=9223372036854775807) (v:Tx) (σ:Za) (sq own:Nat):Zr E BY σ sq 10 own true [.lst b (l.map AVal.str),.str v]=some (.bool (l.contains v),σ,{}) :=
 ZdS (ZkH l hl v) (by kernel_rfl) rfl rfl rfl (fun _=>rfl) σ sq own
theorem Ztb (l:List Tx) (hl:l.length<=9223372036854775807) (v:Tx) {σ:Za} {t:Nat} (hs:σ[t]?=some (.row 0 1 (l.map AVal.str))) (sq own:Nat):Zr E BY σ sq 10 own true [.sl t 0 0 l.length,.str v]=some (.bool (l.contains v),σ,{ rd:=[t] }):=by
 refine ZiP (by kernel_rfl) (vs:=[.lst false (l.map AVal.str),.str v]) ?_ rfl rfl (ZkH l hl v) rfl rfl sq own
 have he:=Ze1 σ t 0 l.length false (l.map AVal.str) (by simp) hs
 simp only [showAs,showA,Zbc,he,XS]
end
section
set_option maxRecDepth 100000
mutual
def eqV:AVal->AVal->Bool
 | .int k n,.int k' n'=>decide (k=k') && n == n'
 | .bool a,.bool b=>a == b
 | .str a,.str b=>a == b
 | .lst a xs,.lst b ys=>a == b && Zca xs ys
 | .agg xs,.agg ys=>Zca xs ys
 | .ref a b,.ref c d=>a == c && b == d
 | .sl a b c d,.sl a' b' c' d'=>a == a' && (b == b' && (c == c' && d == d'))
 | .map a,.map b=>a == b
 | .fn f xs,.fn g ys=>f == g && Zca xs ys
 | _,_=>false
def Zca:List AVal->List AVal->Bool
 | [],[]=>true
 | x::xs,y::ys=>eqV x y && Zca xs ys
 | _,_=>false
end
mutual
theorem Zh5:∀ {a b:AVal},eqV a b=true->a=b
 | .int k n,.int k' n',h=>by
  simp only [eqV,Xc,decide_eq_true_eq,beq_iff_eq] at h
  rw [h.1,h.2]
 | .bool a,.bool b,h=>by
  simp only [eqV,beq_iff_eq] at h
  rw [h]
 | .str a,.str b,h=>by
  simp only [eqV,beq_iff_eq] at h
  rw [h]
 | .lst a xs,.lst b ys,h=>by
  simp only [eqV,Xc,beq_iff_eq] at h
  rw [h.1,Zc5 h.2]
 | .agg xs,.agg ys,h=>by
  simp only [eqV] at h
  rw [Zc5 h]
 | .ref a b,.ref c d,h=>by
  simp only [eqV,Xc,beq_iff_eq] at h
  rw [h.1,h.2]
 | .sl a b c d,.sl a' b' c' d',h=>by
  simp only [eqV,Xc,beq_iff_eq] at h
  rw [h.1,h.2.1,h.2.2.1,h.2.2.2]
 | .map a,.map b,h=>by
  simp only [eqV,beq_iff_eq] at h
  rw [h]
 | .fn f xs,.fn g ys,h=>by
  simp only [eqV,Xc,beq_iff_eq] at h
  rw [h.1,Zc5 h.2]
theorem Zc5:∀ {a b:List AVal},Zca a b=true->a=b
 | [],[],_=>rfl
 | x::xs,y::ys,h=>by
  simp only [Zca,Xc] at h
  rw [Zh5 h.1,Zc5 h.2]
end
def Zfx:List (AVal×AVal)->List (AVal×AVal)->Bool
 | [],[]=>true
 | (a,b)::xs,(c,d)::ys=>eqV a c && (eqV b d && Zfx xs ys)
 | _,_=>false
theorem Zi6:∀ {a b:List (AVal×AVal)},Zfx a b=true->a=b
 | [],[],_=>rfl
 | (a,b)::xs,(c,d)::ys,h=>by
  simp only [Zfx,Xc] at h
  rw [Zh5 h.1,Zh5 h.2.1,Zi6 h.2.2]
def eqB:Zl->Zl->Bool
 | .var a,.var b=>Zca a b
 | .row g k a,.row g' k' b=>g == g' && (k == k' && Zca a b)
 | .frow g k a,.frow g' k' b=>g == g' && (k == k' && Zca a b)
 | .map a,.map b=>Zfx a b
 | _,_=>false
theorem Zp6:∀ {a b:Zl},eqB a b=true->a=b
 | .var a,.var b,h=>by simp only [eqB] at h;rw [Zc5 h]
 | .row g k a,.row g' k' b,h=>by
  simp only [eqB,Xc,beq_iff_eq] at h
  rw [h.1,h.2.1,Zc5 h.2.2]
 | .frow g k a,.frow g' k' b,h=>by
  simp only [eqB,Xc,beq_iff_eq] at h
  rw [h.1,h.2.1,Zc5 h.2.2]
 | .map a,.map b,h=>by simp only [eqB] at h;rw [Zi6 h]
def Zfi:Za->Za->Bool
 | [],[]=>true
 | x::xs,y::ys=>eqB x y && Zfi xs ys
 | _,_=>false
theorem ZkF:∀ {a b:Za},Zfi a b=true->a=b
 | [],[],_=>rfl
 | x::xs,y::ys,h=>by
  simp only [Zfi,Xc] at h
  rw [Zp6 h.1,ZkF h.2]
section
variable {fs:Nat->Option Zad} {p p':ZaM} {bf:Nat->Bool}
theorem ZjP (K:Nat) (h0:∀ f,p f=none->p' f=none) (h1:∀ f g,p f=some g->∀ a σ r,g a σ=some r->Zw fs p' bf K f a σ=some r):∀ n,OLe (Zw fs p bf n) (Zw fs p' bf (n+K))
 | 0=>by intro f a σ r h;simp only [Zw] at h;cases h
 | n+1=>by
  intro f a σ r h
  rw [Zw] at h
  split at h
  ·rename_i g hg
   exact Zdg fs p' (by omega) f a σ r (h1 f g hg a σ r h)
  ·rename_i hg
   rw [show n+1+K=(n+K)+1 by omega,Zw,h0 f hg]
   split at h
   ·cases h
   ·rename_i fn hfn
    exact ZeG (fun q hq=>ZbP (ZjP K h0 h1 n) (by omega) hq) h
end
def Zfj (a0:List AVal) (σ0:Za) (r0:AVal×Za):ZaM:=fun f=>if f=23 then some (fun a σ=>if Zca a a0 && Zfi σ σ0 then some r0 else none) else PR f
theorem ZmY {a0:List AVal} {σ0:Za} {r0:AVal×Za} (h:EG 23 a0 σ0=some r0) {n f:Nat} {a:List AVal} {σ:Za} {r:AVal×Za} (hr:Zw FC (Zfj a0 σ0 r0) BY n f a σ=some r):EG f a σ=some r:=by
 obtain ⟨K,hK⟩:=Zbr.1 h
 have hO:=ZjP (fs:=FC) (bf:=BY) (p:=Zfj a0 σ0 r0) (p':=PRG) (K+1) (fun f hf'=>?_) (fun f g hg a σ r hr=>?_) n f a σ r hr
 ·exact Zbr.2 ⟨_,hO⟩
 ·unfold Zfj at hf'
  split at hf'
  ·cases hf'
  ·rename_i hne
   unfold PRG
   rw [if_neg hne]
   exact hf'
 ·unfold Zfj at hg
  split at hg
  ·rename_i e
   subst e
   injection hg with hg;subst hg
   dsimp only at hr
   split at hr
   ·rename_i hc
    simp only [Xc] at hc
    injection hr with hr;subst hr
    rw [Zc5 hc.1,ZkF hc.2]
    exact Zdg FC PRG (by omega) _ _ _ _ hK
   ·cases hr
  ·rename_i hne
   rw [Zw]
   have : PRG f=some g:=by unfold PRG;rw [if_neg hne];exact hg
   rw [this]
   exact hr
def sh1:Tx:=[36,115,104,97,114,101,47,103,47,97]
def es1:List (AVal×AVal):=[(.str sh1,.sl 2 0 0 2)]
def aM:List AVal:=[.ref 0 0,.fn 25 [.ref 3 0]]
def hM:Za:=[.var [.map 1],.map es1,.frow 0 1 [.str [120],.str [121]],.var [.str [97]]]
def hM2:Za:=[.var [.map 1],.map es1,.frow 0 1 [.str [120],.str [121]],.var [.str [97]],.row 0 1 [.str sh1]]
def tmA:Tms:=[(5,.lst true []),(1,.fn 25 [.ref 3 0]),(0,.ref 0 0)]
def tmB:Tms:=((ZcU BY ZfJ tmA hM).getD ([],[])).1
def tmC:Tms:=((ZcU BY ZcF (tput (gcT 4 (keepL [10,5,1] tmB) hM).1 (some 14) (.tup [.str sh1,.sl 2 0 0 2])) ((gcT 4 (keepL [10,5,1] tmB) hM).2.set 1 .opq)).getD ([],[])).1
def hC:Za:=(gcT 4 (keepL [10,5,1] tmB) hM).2.set 1 .opq
noncomputable def exD:Option (Z7×Tms×Za):=Zq (Zw FC PR BY 60) BY 4 60 c2S tmC hC
noncomputable def tmD:Tms:=(exD.getD (.normal,[],[])).2.1
noncomputable def hD:Za:=(exD.getD (.normal,[],[])).2.2
noncomputable def tmE:Tms:=tput tmD (some 10) (.map 1)
noncomputable def hE:Za:=hD.set 1 (.map es1)
noncomputable def exF:Option (Z7×Tms×Za):=Zq (Zw FC PR BY 60) BY 4 60 c3S (gcT 4 (keepL [10,5,1] tmE) hE).1 (gcT 4 (keepL [10,5,1] tmE) hE).2
theorem Zok:Zef FC PR BY 4 [10,5,1] 10 14 1 ZcF c2S es1 (.str sh1,.sl 2 0 0 2) tmB hM=some (tmE,hE):=by
 have g1:tget (gcT 4 (keepL [10,5,1] tmB) hM).1 10=.map 1:=by kernel_rfl
 have g2:(gcT 4 (keepL [10,5,1] tmB) hM).2[1]?=some (.map es1):=by kernel_rfl
 have g3:∀ p ∈ es1,Zgl (gcT 4 (keepL [10,5,1] tmB) hM).2.length p.2=true:=by
  intro p hp
  obtain rfl:=X0.1 hp
  kernel_rfl
 have g4:ZcU BY ZcF (tput (gcT 4 (keepL [10,5,1] tmB) hM).1 (some 14) (.tup [.str sh1,.sl 2 0 0 2])) ((gcT 4 (keepL [10,5,1] tmB) hM).2.set 1 .opq)=some (tmC,hC):=by kernel_rfl
 have g5:(gcT 4 (keepL [10,5,1] tmB) hM).2.length=4:=by kernel_rfl
 have g6:evC FC PR BY 4 c2S tmC hC=some (.normal,tmD,hD):=Zap.2 ⟨60,by kernel_rfl⟩
 have g7:hD[1]?=some .opq:=by kernel_rfl
 unfold Zef
 rw [g1]
 simp only
 rw [if_pos ⟨g2,g3⟩,g4]
 simp only
 rw [g5,g6]
 simp only
 rw [if_pos g7]
 rfl
theorem Zpx:Ze3 FC PR BY 4 [10,5,1] c3S [.tmp 4] tmE hE=some (.sl 4 0 0 1,hM2):=by
 have g1:∃ r,evC FC PR BY 4 c3S (gcT 4 (keepL [10,5,1] tmE) hE).1 (gcT 4 (keepL [10,5,1] tmE) hE).2=some r/\Zas 4 ⟨[.tmp 4],c3S⟩ (some r)=some (.sl 4 0 0 1,hM2):=by
  refine ⟨exF.getD (.normal,[],[]),Zap.2 ⟨60,by kernel_rfl⟩,by kernel_rfl⟩
 obtain ⟨r,h1,h2⟩:=g1
 unfold Ze3
 rw [h1,h2]
theorem Zla {es:List (AVal×AVal)} {tm:Tms} {σ:Za} {out:AVal×Za} {m ms en b1:Nat} {live:List Nat} {aslE:List AOp} {c2 c3:Zg} {rs:List Zbu} (h:∀ es':List (AVal×AVal),es'.Perm es->Zdk FC PR BY m live ms en b1 aslE c2 c3 rs es es' tm σ=some out):ZeJ FC PR BY m live ms en b1 aslE c2 c3 rs es tm σ=some out:=by
 have h':∃ out,∀ es':List (AVal×AVal),es'.Perm es->Zdk FC PR BY m live ms en b1 aslE c2 c3 rs es es' tm σ=some out:=⟨out,h⟩
 unfold ZeJ
 rw [dif_pos h']
 have:=(h'.choose_spec es (Xax _)).symm.trans (h es (Xax _))
 exact this
theorem Zol:EG 23 aM hM=some (.sl 4 0 0 1,hM2):=by
 have k1:evC FC PR BY 4 c1S (enterA 0 aM []) hM=some (.normal,tmA,hM):=Zap.2 ⟨20,by kernel_rfl⟩
 have k2:ZcU BY ZfJ tmA hM=some (tmB,hM):=by kernel_rfl
 have k3:tget tmB 10=.map 1:=by kernel_rfl
 have k4:hM[1]?=some (.map es1):=by kernel_rfl
 have k5:hM.length=4:=rfl
 have k6:ZeJ FC PR BY 4 [10,5,1] 10 14 1 ZcF c2S c3S [.tmp 4] es1 tmB hM=some (.sl 4 0 0 1,hM2):=by
  refine Zla fun es' hp=>?_
  have : es'=es1:=List.perm_singleton.1 hp
  subst this
  unfold Zdk
  have hf:ZbG FC PR BY 4 [10,5,1] 10 14 1 ZcF c2S es1 es1 tmB hM=some (tmE,hE):=by
   show (match Zef FC PR BY 4 [10,5,1] 10 14 1 ZcF c2S es1 (.str sh1,.sl 2 0 0 2) tmB hM with
    | some (tm',σ')=>ZbG FC PR BY 4 [10,5,1] 10 14 1 ZcF c2S es1 [] tm' σ'
    | none=>none)=some (tmE,hE)
   rw [Zok]
   rfl
  rw [hf]
  exact Zpx
 rw [Zwz]
 unfold Zgb ZfX
 rw [k5,k1]
 simp only
 rw [k2]
 simp only
 rw [k3]
 simp only
 rw [k4]
 exact k6
theorem ZwB:EG 6 [] []=some (.bool true,[]):=ZmY Zol (n:=60) (by kernel_rfl)
theorem ZoS (σ:Za) (sq own:Nat):Zr EG BY σ sq 6 own true []=some (.bool true,σ,{}) :=
 ZdS ZwB (by kernel_rfl) rfl rfl rfl (fun _=>rfl) _ _ _
end
section
theorem xwG (c d:Zg) (h:c=d) (m:Nat) (tm:Tms) (σ:Za):evC FC PRG BY m c tm σ=evC FC PRG BY m d tm σ:=by rw [h]
def Ze8:=xwG ZbI ZaH rfl
def Zfn:=xwG Zci ZaJ rfl
def Zgd:=xwG ZeW ZaI rfl
def ZhV:=xwG ZfT ZaF rfl
def Zix:=xwG ZfK ZaE rfl
def Zj0:=xwG ZdP ZaG rfl
theorem ZcQ {O:Zo} {bf:Nat->Bool} {σ:Za} {sq f own:Nat} {view:Bool} {args vs vs':List AVal} {ids:List Nat} {h0 h:Za} {r:AVal} (hb:bf f=false) (hsh:showAs σ args=some (vs,[])) (hre:Zi σ 1000 (ZR vs) []=ids) (hne:ids.isEmpty=false)
  (hall:(ids.all fun t=>okB (σ.getD t .free))=true) (hvs:ZH (Zf σ 0 ids) vs=vs') (hh:Zj σ 0 ids (Zf σ 0 ids) ids 0=h0) (hask:Zat view ids.length (O f vs' h0)=some (r,h))
  (hl1:h.length<=ids.length+own) (hl2:ids.length<=h.length) (hk:ZbJ σ ids h 0=true) (hff:Zb7 σ sq own=true) {r':AVal} (hr:Ze (ZaA σ ids sq) r=r') {σ':Za} (hlay:ZaR σ ids sq h 0 σ=σ') {u:List (Nat×List AVal)} (hu:ZbM σ' ids=u) :
  Zr O bf σ sq f own view args=some (r',σ',{ any:=true,upd:=u }):=by
 cases hO:O f vs' h0 with
 | none =>
  rw [hO] at hask
  unfold Zat at hask
  split at hask <;> cases hask
 | some p =>
  rw [hO] at hask
  exact Zqy hb hsh hre hne hall hvs hh hO hask hl1 hl2 hk hff hr hlay hu
def shF:Tx:=[36,115,104,97,114,101,47,103,47,116,47,35]
theorem ZhD:Ziz shF:=⟨[103],[116,47,35],Zbr.2 ⟨60,by kernel_rfl⟩⟩
theorem Zxl (c:Tx):Zr E BY [.var [.map 1],.map [],.free] 2 7 1 true [.ref 0 0,.str shF,.str c]=some (.tup [],[.var [.map 1],.map [(.str shF,.sl 2 0 0 1)],.row 0 1 [.str c]],{ any:=true,upd:=[(0,[.map 1])] }):=by
 have h1:=Znt ZhD c
 unfold gN gB at h1
 exact ZcQ (O:=E) (bf:=BY) (σ:=[.var [.map 1],.map [],.free]) (sq:=2) (own:=1) (f:=7) (view:=true) (args:=[.ref 0 0,.str shF,.str c]) (vs:=[.ref 0 0,.str shF,.str c]) (vs':=[.ref 0 0,.str shF,.str c]) (ids:=[0,1]) (h0:=[.var [.map 1],.map []]) (h:=[.var [.map 1],.map [(.str shF,.sl 2 0 0 1)],.row 0 1 [.str c]]) (r:=.tup []) (by kernel_rfl) rfl rfl rfl rfl rfl rfl (by rw [h1];rfl) (Wc rfl) (Wc rfl) rfl rfl rfl rfl rfl
theorem ZuS (ms:List Tx) (hl:ms.length<=1000000) (c:Tx) (hc:ms.contains c=true):Zr E BY [.var [.map 1],.map [(.str shF,.sl 2 0 0 ms.length)],.row 0 1 (ms.map AVal.str),.free] 3 7 1 true [.ref 0 0,.str shF,.str c]=some (.tup [],[.var [.map 1],.map [(.str shF,.sl 2 0 0 ms.length)],.row 0 1 (ms.map AVal.str),.free],{ any:=true,upd:=[(0,[.map 1])] }):=by
 have h1:=Zwc ZhD ms hl c hc
 unfold gB at h1
 exact ZcQ (O:=E) (bf:=BY) (σ:=[.var [.map 1],.map [(.str shF,.sl 2 0 0 ms.length)],.row 0 1 (ms.map AVal.str),.free]) (sq:=3) (own:=1) (f:=7) (view:=true) (args:=[.ref 0 0,.str shF,.str c]) (vs:=[.ref 0 0,.str shF,.str c]) (vs':=[.ref 0 0,.str shF,.str c]) (ids:=[0,1,2]) (h0:=[.var [.map 1],.map [(.str shF,.sl 2 0 0 ms.length)],.row 0 1 (ms.map AVal.str)]) (h:=[.var [.map 1],.map [(.str shF,.sl 2 0 0 ms.length)],.row 0 1 (ms.map AVal.str)]) (r:=.tup []) (by kernel_rfl) rfl rfl rfl rfl rfl rfl (by rw [h1];rfl) (Wc rfl) (Wc rfl) rfl rfl rfl rfl rfl
theorem Zxm (ms:List Tx) (hl:ms.length<=1000000) (c:Tx) (hc:ms.contains c=false):Zr E BY [.var [.map 1],.map [(.str shF,.sl 2 0 0 ms.length)],.row 0 1 (ms.map AVal.str),.free] 3 7 1 true [.ref 0 0,.str shF,.str c]=some (.tup [],[.var [.map 1],.map [(.str shF,.sl 2 1 0 (ms.length+1))],.row 1 1 ((ms++[c]).map AVal.str),.free],{ any:=true,upd:=[(0,[.map 1])] }):=by
 have h1:=Zmy ZhD ms hl c hc
 unfold gB at h1
 exact ZcQ (O:=E) (bf:=BY) (σ:=[.var [.map 1],.map [(.str shF,.sl 2 0 0 ms.length)],.row 0 1 (ms.map AVal.str),.free]) (sq:=3) (own:=1) (f:=7) (view:=true) (args:=[.ref 0 0,.str shF,.str c]) (vs:=[.ref 0 0,.str shF,.str c]) (vs':=[.ref 0 0,.str shF,.str c]) (ids:=[0,1,2]) (h0:=[.var [.map 1],.map [(.str shF,.sl 2 0 0 ms.length)],.row 0 1 (ms.map AVal.str)]) (h:=[.var [.map 1],.map [(.str shF,.sl 2 1 0 (ms.length+1))],.row 1 1 ((ms++[c]).map AVal.str)]) (r:=.tup []) (by kernel_rfl) rfl rfl rfl rfl rfl rfl (by rw [h1];rfl) (Wc rfl) (Wc rfl) rfl rfl rfl rfl rfl
def Zcz (ms:List Tx) (c:Tx):List Tx:=if ms.contains c then ms else ms++[c]
theorem ZoL {ms:List Tx} {c:Tx} (h:ms.Nodup):(Zcz ms c).Nodup:=by
 unfold Zcz
 split
 ·exact h
 ·rename_i hc
  rw [List.nodup_append]
  refine ⟨h,by simp,?_⟩
  intro a ha b hb
  obtain rfl:=X0.1 hb
  rintro rfl
  exact hc (by simpa using ha)
theorem ZnM (ms:List Tx) (c:Tx):(Zcz ms c).length<=ms.length+1:=by
 unfold Zcz
 split
 ·omega
 ·simp
def sl8 (i:Nat) (cl first:List Tx) (d:Nat):Tms:=[(8,.int .i64 (i:Int)),(7,.ref 0 0),(2,.lst false (first.map AVal.str)),(1,.int .i64 (d:Int)),(0,.lst false (cl.map AVal.str))]
section
variable (cl first:List Tx) (d:Nat) (hcl:cl.length<=12)
include hcl
theorem ZsV (h0:¬((0:Nat):Int) < (cl.length:Int)):evL FC PRG BY 0 [8,7,2,1,0] ZbI (sl8 0 cl first d) gN=some (.exit 0,(37,.bool false)::sl8 0 cl first d,gN):=by
 have hL:(cl.map AVal.str).length=cl.length:=by simp
 unfold sl8 gN
 generalize cl.map AVal.str=C at *
 generalize first.map AVal.str=F at *
 rw [ZaB]
 simp -implicitDefEqProofs only [EQA,ZV,Z0,Z6,Z5,ZU,ZY,ZQ,ZW,Z1,ZS,Z3,ZX,ZT,Z2,ZP,implies_true,forall_const,Xq,Xr,Xw,Xi,Xj,Xs,Xt,ZF,ZJ,unA,Zt,ZC,unG,reduceCtorEq,Zk,decide_eq_true_eq,Xk,Xg,ite_self,↓reduceIte,Zx,ZG,gcT,gcA,Zv,Zi,Zf,Zj,Zz,Zb,ZA,Zn,ZE,Xm,ZaV,ZaP,ZaY,Za0,ZaF,Za2,ZaI,ZaZ,ZaE,Za1,ZaJ,ZaX,ZaG,ZaU,ZaH,ZZ,ZK,Z4,ZO,ZL,ZN,Ze8,h0,hL]
theorem Zsg (i:Nat) (h0:¬(i:Int) < (cl.length:Int)) (ms:List Tx):evL FC PRG BY 0 [8,7,2,1,0] ZbI (sl8 i cl first d) (gB shF ms)=some (.exit 0,(37,.bool false)::sl8 i cl first d,gB shF ms):=by
 have hL:(cl.map AVal.str).length=cl.length:=by simp
 unfold sl8 gB
 generalize cl.map AVal.str=C at *
 generalize first.map AVal.str=F at *
 generalize ms.map AVal.str=M at *
 rw [ZaB]
 simp -implicitDefEqProofs only [EQA,ZV,Z0,Z6,Z5,ZU,ZY,ZQ,ZW,Z1,ZS,Z3,ZX,ZT,Z2,ZP,implies_true,forall_const,Xq,Xr,Xw,Xi,Xj,Xs,Xt,ZF,ZJ,unA,Zt,ZC,unG,reduceCtorEq,Zk,decide_eq_true_eq,Xk,Xg,ite_self,↓reduceIte,Zx,ZG,gcT,gcA,Zv,Zi,Zf,Zj,Zz,Zb,ZA,Zn,ZE,Xm,ZaV,ZaP,ZaY,Za0,ZaF,Za2,ZaI,ZaZ,ZaE,Za1,ZaJ,ZaX,ZaG,ZaU,ZaH,ZZ,ZK,Z4,ZO,ZL,ZN,Ze8,h0,hL]
theorem ZvU (c:Tx) (hc:cl[0]?=some c):evL FC PRG BY 0 [8,7,2,1,0] ZbI (sl8 0 cl first d) gN=evL FC PRG BY 0 [8,7,2,1,0] ZbI (sl8 1 cl first d) (gB shF [c]):=by
 have hL:(cl.map AVal.str).length=cl.length:=by simp
 have h0:((0:Nat):Int) < (cl.length:Int):=by have:=(Xe.1 hc).1;omega
 have e1:=iad hc AVal.str (k:=1) rfl
 have e3:IntKind.i64.wrap (((0:Nat):Int)+1)=((1:Nat):Int):=by decide
 have hJ:=Zbd (Zxl c)
 rw [shF] at hJ
 unfold sl8 gN gB
 rw [show [c].map AVal.str=[.str c] from rfl,X1]
 unfold shF
 generalize cl.map AVal.str=C at *
 generalize first.map AVal.str=F at *
 rw [ZaB]
 simp -implicitDefEqProofs only [EQA,ZV,Z0,Z6,Z5,ZU,ZY,ZQ,ZW,Z1,ZS,Z3,ZX,ZT,Z2,ZP,implies_true,forall_const,Xq,Xr,Xw,Xi,Xj,Xs,Xt,ZF,ZJ,unA,Zt,ZC,unG,reduceCtorEq,Zk,decide_eq_true_eq,Xk,Xg,ite_self,↓reduceIte,Zx,ZG,gcT,gcA,Zv,Zi,Zf,Zj,Zz,Zb,ZA,Zn,ZE,Xm,ZaV,ZaP,ZaY,Za0,ZaF,Za2,ZaI,ZaZ,ZaE,Za1,ZaJ,ZaX,ZaG,ZaU,ZaH,ZZ,ZK,Z4,ZO,ZL,ZN,Ze8,h0,hL,e1,e3,hJ,AVal.cells]
theorem ZsZ (i:Nat) (c:Tx) (hc:cl[i]?=some c) (ms:List Tx) (hm:ms.length<=1000):evL FC PRG BY 0 [8,7,2,1,0] ZbI (sl8 i cl first d) (gB shF ms)=evL FC PRG BY 0 [8,7,2,1,0] ZbI (sl8 (i+1) cl first d) (gB shF (Zcz ms c)):=by
 have hL:(cl.map AVal.str).length=cl.length:=by simp
 have l1:=(Xe.1 hc).1
 have h0:(i:Int) < (cl.length:Int):=by omega
 have e1:=iad hc AVal.str (k:=1) rfl
 have e3:=Zdd h0 (by omega)
 unfold Zcz
 cases hd:ms.contains c with
 | true =>
  rw [if_pos rfl]
  have hJ:=Zbd (ZuS ms (by omega) c hd)
  rw [shF] at hJ
  unfold sl8 gB shF
  generalize cl.map AVal.str=C at *
  generalize first.map AVal.str=F at *
  generalize ms.map AVal.str=M at *
  rw [ZaB]
  simp -implicitDefEqProofs only [EQA,ZV,Z0,Z6,Z5,ZU,ZY,ZQ,ZW,Z1,ZS,Z3,ZX,ZT,Z2,ZP,implies_true,forall_const,Xq,Xr,Xw,Xi,Xj,Xs,Xt,ZF,ZJ,unA,Zt,ZC,unG,reduceCtorEq,Zk,decide_eq_true_eq,Xk,Xg,ite_self,↓reduceIte,Zx,ZG,gcT,gcA,Zv,Zi,Zf,Zj,Zz,Zb,ZA,Zn,ZE,Xm,ZaV,ZaP,ZaY,Za0,ZaF,Za2,ZaI,ZaZ,ZaE,Za1,ZaJ,ZaX,ZaG,ZaU,ZaH,ZZ,ZK,Z4,ZO,ZL,ZN,Ze8,h0,hL,e1,e3,hJ,AVal.cells]
 | false =>
  rw [if_neg (by simp)]
  have hJ:=Zbd (Zxm ms (by omega) c hd)
  rw [shF] at hJ
  have e7:(ms++[c]).length=ms.length+1:=by simp
  unfold sl8 gB shF
  rw [e7]
  generalize cl.map AVal.str=C at *
  generalize first.map AVal.str=F at *
  generalize (ms++[c]).map AVal.str=M2 at *
  generalize ms.map AVal.str=M at *
  rw [ZaB]
  simp -implicitDefEqProofs only [EQA,ZV,Z0,Z6,Z5,ZU,ZY,ZQ,ZW,Z1,ZS,Z3,ZX,ZT,Z2,ZP,implies_true,forall_const,Xq,Xr,Xw,Xi,Xj,Xs,Xt,ZF,ZJ,unA,Zt,ZC,unG,reduceCtorEq,Zk,decide_eq_true_eq,Xk,Xg,ite_self,↓reduceIte,Zx,ZG,gcT,gcA,Zv,Zi,Zf,Zj,Zz,Zb,ZA,Zn,ZE,Xm,ZaV,ZaP,ZaY,Za0,ZaF,Za2,ZaI,ZaZ,ZaE,Za1,ZaJ,ZaX,ZaG,ZaU,ZaH,ZZ,ZK,Z4,ZO,ZL,ZN,Ze8,h0,hL,e1,e3,hJ,AVal.cells]
theorem ev8:∀ (r:List Tx) (i:Nat) (ms:List Tx),cl.drop i=r->i<=cl.length->ms≠[]->ms.Nodup->ms.length<=i ->
  ∃ i' ms',ms'≠[]/\ms'.Nodup/\ms'.length<=12/\evL FC PRG BY 0 [8,7,2,1,0] ZbI (sl8 i cl first d) (gB shF ms)=some (.exit 0,(37,.bool false)::sl8 i' cl first d,gB shF ms')
 | [],i,ms,h,hi,h1,h2,h3=>by
  have h4:cl.length<=i:=Xaf.1 h
  exact ⟨i,ms,h1,h2,by omega,Zsg cl first d hcl i (by omega) ms⟩
 | c::r,i,ms,h,hi,h1,h2,h3=>by
  obtain ⟨g1,d1,l1⟩:=Zcn h
  have hne:Zcz ms c≠[]:=by
   unfold Zcz
   split
   ·exact h1
   ·simp
  obtain ⟨i',ms',a1,a2,a3,a4⟩:=ev8 r (i+1) (Zcz ms c) d1 (by omega) hne (ZoL h2) (by have:=ZnM ms c;omega)
  exact ⟨i',ms',a1,a2,a3,by rw [ZsZ cl first d hcl i c g1 ms (by omega)];exact a4⟩
theorem ZtV:(cl=[]/\evL FC PRG BY 0 [8,7,2,1,0] ZbI (sl8 0 cl first d) gN=some (.exit 0,(37,.bool false)::sl8 0 cl first d,gN)) \/
  ∃ i' ms',ms'≠[]/\ms'.Nodup/\ms'.length<=12/\evL FC PRG BY 0 [8,7,2,1,0] ZbI (sl8 0 cl first d) gN=some (.exit 0,(37,.bool false)::sl8 i' cl first d,gB shF ms'):=by
 cases hc:cl with
 | nil =>
  subst hc
  exact Or.inl ⟨rfl,ZsV [] first d hcl (by decide)⟩
 | cons c r =>
  right
  obtain ⟨i',ms',a1,a2,a3,a4⟩:=ev8 cl first d hcl r 1 [c] (by rw [hc];rfl) (by rw [hc];simp) (by simp) (by simp) (by simp)
  refine ⟨i',ms',a1,a2,a3,?_⟩
  rw [<-hc,ZvU cl first d hcl c (by rw [hc];rfl)]
  exact a4
end
end
section
theorem ZhI (ms:List Tx):amF [] false ms=ms:=by
 unfold amF
 exact List.filter_eq_self.2 fun x _=>rfl
theorem Zju (ms:List Tx):amF ms false ms=[]:=by
 unfold amF
 rw [W3]
 intro x hx
 have : ms.contains x=true:=by simpa using hx
 rw [this]
 decide
theorem Zry (ms:List Tx):amF [] true ms=[]:=by
 unfold amF
 rw [W3]
 intro x _
 simp
theorem ZnL (ms:List Tx) (hl:ms.length<=1000000):Zr E BY [.var [.map 1],.map [(.str shF,.sl 2 0 0 ms.length)],.row 0 1 (ms.map AVal.str)] 3 8 0 true [.ref 0 0,.str shF]=some (.lst false (ms.map AVal.str),[.var [.map 1],.map [(.str shF,.sl 2 0 0 ms.length)],.row 0 1 (ms.map AVal.str)],{ any:=true,upd:=[(0,[.map 1])] }):=by
 have h1:=Zm9 false shF ms hl
 unfold gF Zam at h1
 simp only [Xo,if_false,List.cons_append,List.nil_append] at h1
 have hask:Zat true 3 (some (.sl 3 0 0 ms.length,[.var [.map 1],.map [(.str shF,.sl 2 0 0 ms.length)],.row 0 1 (ms.map AVal.str),.row 0 1 (ms.map AVal.str)]))=some (.lst false (ms.map AVal.str),[.var [.map 1],.map [(.str shF,.sl 2 0 0 ms.length)],.row 0 1 (ms.map AVal.str)]):=by
  have he:=Ze1 [.var [.map 1],.map [(.str shF,.sl 2 0 0 ms.length)],.row 0 1 (ms.map AVal.str),.row 0 1 (ms.map AVal.str)] 3 0 ms.length false (ms.map AVal.str) (by simp) rfl
  unfold Zat
  rw [if_pos rfl]
  simp only [Zb2,viewR,Zbz,Zbb,he]
  rfl
 exact ZcQ (O:=E) (bf:=BY) (σ:=[.var [.map 1],.map [(.str shF,.sl 2 0 0 ms.length)],.row 0 1 (ms.map AVal.str)]) (sq:=3) (own:=0) (f:=8) (view:=true) (args:=[.ref 0 0,.str shF]) (vs:=[.ref 0 0,.str shF]) (vs':=[.ref 0 0,.str shF]) (ids:=[0,1,2]) (h0:=[.var [.map 1],.map [(.str shF,.sl 2 0 0 ms.length)],.row 0 1 (ms.map AVal.str)]) (h:=[.var [.map 1],.map [(.str shF,.sl 2 0 0 ms.length)],.row 0 1 (ms.map AVal.str)]) (r:=.lst false (ms.map AVal.str)) (by kernel_rfl) rfl rfl rfl rfl rfl rfl (by rw [h1];exact hask) (Wc rfl) (Wc rfl) rfl rfl rfl rfl rfl
theorem ZjZ (L:List Tx) (d:Nat):∃ s b,chS L d=.tup [.str s,.bool b]:=by
 unfold chS
 split
 ·exact ⟨_,_,rfl⟩
 ·exact ⟨_,_,rfl⟩
section
variable (fz:Bool) (ms first but:List Tx) (hl:ms.length<=1000000) (hf:first.length<=9223372036854775807) (hbt:but.length<=9223372036854775807) (d:Nat) (hd:d<=1000000000) (a b:Bool)
include hl hf hbt hd
theorem Zkl:Zr E BY [.var [.map 1],.map [(.str shF,.sl 2 0 0 ms.length)],Zam fz 0 (ms.map AVal.str)] 3 9 0 true [.ref 0 0,.str shF,.int .i64 (d:Int),.lst a (first.map AVal.str),.lst b (but.map AVal.str)]=some (chS (chL first but ms) d,[.var [.map 1],.map [(.str shF,.sl 2 0 0 ms.length)],Zam (if amF but false ms=[] then fz else true) 0 (ms.map AVal.str)],{ any:=true,upd:=[(0,[.map 1])] }):=by
 have h1:=ZiI fz shF ms first but hl hf hbt d hd
 obtain ⟨s,k,e⟩:=ZjZ (chL first but ms) d
 rw [e] at h1 ⊢
 unfold gF at h1
 have hfz:fz=true->(if amF but false ms=[] then fz else true)=true:=by
  intro h
  split
  ·exact h
  ·rfl
 generalize (if amF but false ms=[] then fz else true)=fz' at *
 exact ZcQ (O:=E) (bf:=BY) (σ:=[.var [.map 1],.map [(.str shF,.sl 2 0 0 ms.length)],Zam fz 0 (ms.map AVal.str)]) (sq:=3) (own:=0) (f:=9) (view:=true) (args:=[.ref 0 0,.str shF,.int .i64 (d:Int),.lst a (first.map AVal.str),.lst b (but.map AVal.str)]) (vs:=[.ref 0 0,.str shF,.int .i64 (d:Int),.lst false (first.map AVal.str),.lst false (but.map AVal.str)]) (vs':=[.ref 0 0,.str shF,.int .i64 (d:Int),.lst false (first.map AVal.str),.lst false (but.map AVal.str)]) (ids:=[0,1,2]) (h0:=[.var [.map 1],.map [(.str shF,.sl 2 0 0 ms.length)],Zam fz 0 (ms.map AVal.str)]) (h:=[.var [.map 1],.map [(.str shF,.sl 2 0 0 ms.length)],Zam fz' 0 (ms.map AVal.str)]) (r:=.tup [.str s,.bool k]) (by kernel_rfl) rfl (by cases fz <;> rfl) rfl (by cases fz <;> rfl) (by cases fz <;> rfl) (by cases fz <;> rfl) (by rw [h1];cases fz' <;> rfl) (XL _) (XL _) (by cases fz <;> cases fz' <;> first | rfl | exact absurd (hfz rfl) (by simp)) rfl (by cases fz <;> rfl) (by cases fz <;> cases fz' <;> rfl) (by cases fz' <;> rfl)
theorem Zjf (SE:List AVal):Zr E BY [.row 0 1 SE,.var [.map 2],.map [(.str shF,.sl 3 0 0 ms.length)],Zam true 0 (ms.map AVal.str)] 4 9 0 true [.ref 1 0,.str shF,.int .i64 (d:Int),.lst a (first.map AVal.str),.lst b (but.map AVal.str)]=some (chS (chL first but ms) d,[.row 0 1 SE,.var [.map 2],.map [(.str shF,.sl 3 0 0 ms.length)],Zam true 0 (ms.map AVal.str)],{ any:=true,upd:=[(1,[.map 2])] }):=by
 have h1:=ZiI true shF ms first but hl hf hbt d hd
 obtain ⟨s,k,e⟩:=ZjZ (chL first but ms) d
 rw [e] at h1 ⊢
 unfold gF at h1
 rw [show (if amF but false ms=[] then true else true)=true by split <;> rfl] at h1
 exact ZcQ (O:=E) (bf:=BY) (σ:=[.row 0 1 SE,.var [.map 2],.map [(.str shF,.sl 3 0 0 ms.length)],Zam true 0 (ms.map AVal.str)]) (sq:=4) (own:=0) (f:=9) (view:=true) (args:=[.ref 1 0,.str shF,.int .i64 (d:Int),.lst a (first.map AVal.str),.lst b (but.map AVal.str)]) (vs:=[.ref 1 0,.str shF,.int .i64 (d:Int),.lst false (first.map AVal.str),.lst false (but.map AVal.str)]) (vs':=[.ref 0 0,.str shF,.int .i64 (d:Int),.lst false (first.map AVal.str),.lst false (but.map AVal.str)]) (ids:=[1,2,3]) (h0:=[.var [.map 1],.map [(.str shF,.sl 2 0 0 ms.length)],Zam true 0 (ms.map AVal.str)]) (h:=[.var [.map 1],.map [(.str shF,.sl 2 0 0 ms.length)],Zam true 0 (ms.map AVal.str)]) (r:=.tup [.str s,.bool k]) (by kernel_rfl) rfl rfl rfl rfl rfl rfl (by rw [h1];rfl) (XL _) (XL _) rfl rfl rfl rfl rfl
end
theorem Zkb (ms:List Tx):chL [] [] ms=ms:=by
 unfold chL
 rw [ZhI,Zry,if_pos rfl]
def drawn (ms:List Tx) (d j:Nat):Tx:=ms.getD ((d+j) % ms.length) []
def ZaO (ms:List Tx) (d i:Nat):List Tx:=(X8 i).map fun j=>drawn ms d j
theorem Zmc (ms:List Tx) (d i:Nat):ZaO ms d (i+1)=ZaO ms d i++[drawn ms d i]:=by
 unfold ZaO
 rw [Xm,List.map_append]
 rfl
theorem Zod (ms:List Tx) (d i:Nat):(ZaO ms d i).length=i:=by simp [ZaO]
section
variable (ms:List Tx) (hne:ms≠[]) (hnd:ms.Nodup) (hl:ms.length<=12) (d:Nat) (hd:d<=16777215)
include hne
theorem Zf3 (j:Nat):ms[(d+j) % ms.length]?=some (drawn ms d j):=by
 have hp:0 < ms.length:=XV.2 hne
 have hm:=Xag (d+j) hp
 unfold drawn
 rw [List.getD_eq_getElem?_getD,Xy hm]
 rfl
theorem ZjK (j:Nat):chS ms (d+j)=.tup [.str (drawn ms d j),.bool true]:=by
 unfold chS
 rw [Zf3 ms hne d j]
theorem ZkP (j:Nat):ms.contains (drawn ms d j)=true:=by
 have:=List.mem_of_getElem? (Zf3 ms hne d j)
 simpa using this
include hnd
theorem Zu0 (i:Nat) (hi:i < ms.length):(ZaO ms d i).contains (drawn ms d i)=false:=by
 rw [Bool.eq_false_iff]
 intro h
 have h:drawn ms d i ∈ ZaO ms d i:=by simpa using h
 unfold ZaO at h
 obtain ⟨j,hj,he⟩:=XF.1 h
 have hj:=List.mem_range.1 hj
 have hp:0 < ms.length:=XV.2 hne
 have m1:=Xag (d+i) hp
 have m2:=Xag (d+j) hp
 have a1:=Zf3 ms hne d i
 have a2:=Zf3 ms hne d j
 rw [he] at a2
 have : (d+i) % ms.length=(d+j) % ms.length:=by
  have:=(List.getElem?_inj m1 hnd).1 (a1.trans a2.symm)
  exact this
 have h3:(d+i - (d+j)) % ms.length=0:=Nat.sub_mod_eq_zero_of_mod_eq this
 rw [show d+i - (d+j)=i - j by omega,Nat.mod_eq_of_lt (by omega)] at h3
 omega
end
def Zbx (i:Nat) (se:AVal) (b:Nat) (ms first:List Tx) (d:Nat):Tms:=[(11,.int .i64 (i:Int)),(10,se),(9,.lst false (ms.map AVal.str)),(7,.ref b 0),(2,.lst false (first.map AVal.str)),(1,.int .i64 (d:Int))]
def Zfg (ms:List Tx):Za:=[.var [.map 1],.map [(.str shF,.sl 2 0 0 ms.length)],.row 0 1 (ms.map AVal.str)]
def ZbF (ms se:List Tx):Za:=[.row 0 1 (se.map AVal.str),.var [.map 2],.map [(.str shF,.sl 3 0 0 ms.length)],.frow 0 1 (ms.map AVal.str)]
section
variable (ms:List Tx) (hne:ms≠[]) (hnd:ms.Nodup) (hl:ms.length<=12) (d:Nat) (hd:d<=16777215) (first:List Tx) (hf:first.length<=9223372036854775807)
include hne hnd hl hd hf
theorem Zru:evL FC PRG BY 0 [11,10,9,7,2,1] Zci (Zbx 0 (.lst true []) 0 ms first d) (Zfg ms)=evL FC PRG BY 0 [11,10,9,7,2,1] Zci (Zbx 1 (.sl 0 0 0 1) 1 ms first d) (ZbF ms [drawn ms d 0]):=by
 have hp:0 < ms.length:=XV.2 hne
 have h0:((0:Nat):Int) < (ms.length:Int):=by omega
 have hL:(ms.map AVal.str).length=ms.length:=by simp
 have e3:IntKind.i64.wrap (((0:Nat):Int)+1)=((1:Nat):Int):=by decide
 have hw:IntKind.i64.wrap ((d:Int)+((0:Nat):Int))=((d+0:Nat):Int):=by rw [Zev (by omega) (by omega)];omega
 have hC:=Zbd (Zkl false ms [] [] (by omega) (by simp) (by simp) (d+0) (by omega) true true)
 rw [Zkb,ZhI,if_neg hne,ZjK ms hne d 0] at hC
 simp only [Zam,Xo,if_false,if_true,XT] at hC
 rw [Nat.add_zero] at hw hC
 have hH:=fun σ sq own=>Zbd (ZeS ms false (by omega) (drawn ms d 0) σ sq own)
 rw [ZkP ms hne d 0] at hH
 have hN:=fun σ sq own=>Zbd (ZeS [] true (by simp) (drawn ms d 0) σ sq own)
 rw [show ([]:List Tx).contains (drawn ms d 0)=false from rfl,XT] at hN
 have hv:∀ (σ:Za),viewAs σ [.str (drawn ms d 0)]=some ([.str (drawn ms d 0)],[]):=fun _=>rfl
 have b1:1*16<=140737488355328:=by decide
 rw [shF] at hC
 unfold Zbx Zfg ZbF shF
 rw [show [drawn ms d 0].map AVal.str=[.str (drawn ms d 0)] from rfl]
 generalize drawn ms d 0=s at *
 generalize first.map AVal.str=F at *
 generalize ms.map AVal.str=M at *
 rw [ZaB]
 simp -implicitDefEqProofs only [EQA,ZV,Z0,Z6,Z5,ZU,ZY,ZQ,ZW,Z1,ZS,Z3,ZX,ZT,Z2,ZP,implies_true,forall_const,Xq,Xr,Xw,Xi,Xj,Xs,Xt,ZF,ZJ,unA,Zt,ZC,unG,reduceCtorEq,Zk,decide_eq_true_eq,Xk,Xg,ite_self,↓reduceIte,Zx,ZG,gcT,gcA,Zv,Zi,Zf,Zj,Zz,Zb,ZA,Zn,ZE,Xm,ZaV,ZaP,ZaY,Za0,ZaF,Za2,ZaI,ZaZ,ZaE,Za1,ZaJ,ZaX,ZaG,ZaU,ZaH,ZZ,ZK,Z4,ZO,ZL,ZN,Zfn,h0,hL,e3,hw,hC,hH,hN,hv,b1,AVal.cells,kOk,Zh,Zax,X1,Xai,We,WG]
theorem Zrh (i:Nat) (hi:i < ms.length):evL FC PRG BY 0 [11,10,9,7,2,1] Zci (Zbx i (.sl 0 0 0 i) 1 ms first d) (ZbF ms (ZaO ms d i))=evL FC PRG BY 0 [11,10,9,7,2,1] Zci (Zbx (i+1) (.sl 0 0 0 (i+1)) 1 ms first d) (ZbF ms (ZaO ms d (i+1))):=by
 have h0:(i:Int) < (ms.length:Int):=by omega
 have hL:(ms.map AVal.str).length=ms.length:=by simp
 have e3:=Zdd h0 (by omega)
 have hw:IntKind.i64.wrap ((d:Int)+(i:Int))=((d+i:Nat):Int):=by rw [Zev (by omega) (by omega)];omega
 have hC:=Zbd (Zjf ms [] [] (by omega) (by simp) (by simp) (d+i) (by omega) true true ((ZaO ms d i).map AVal.str))
 rw [Zkb,ZjK ms hne d i] at hC
 simp only [Zam,if_true,XT] at hC
 have hH:=fun σ sq own=>Zbd (ZeS ms false (by omega) (drawn ms d i) σ sq own)
 rw [ZkP ms hne d i] at hH
 have hsl:=Zod ms d i
 have hN:=fun {σ:Za} hs sq own=>Zbd (Ztb (ZaO ms d i) (by omega) (drawn ms d i) (σ:=σ) (t:=0) hs sq own)
 rw [Zu0 ms hne hnd d i hi,hsl] at hN
 have hv:∀ (σ:Za),viewAs σ [.str (drawn ms d i)]=some ([.str (drawn ms d i)],[]):=fun _=>rfl
 have b1:(i+1)*16<=140737488355328:=by omega
 have hS1:((ZaO ms d i).map AVal.str).length=i:=by simp [hsl]
 rw [Zmc]
 rw [shF] at hC
 unfold Zbx ZbF shF
 rw [show (ZaO ms d i++[drawn ms d i]).map AVal.str=(ZaO ms d i).map AVal.str++[.str (drawn ms d i)] by simp]
 generalize drawn ms d i=s at *
 generalize (ZaO ms d i).map AVal.str=SE at *
 generalize first.map AVal.str=F at *
 generalize ms.map AVal.str=M at *
 rw [ZaB]
 simp -implicitDefEqProofs only [EQA,ZV,Z0,Z6,Z5,ZU,ZY,ZQ,ZW,Z1,ZS,Z3,ZX,ZT,Z2,ZP,implies_true,forall_const,Xq,Xr,Xw,Xi,Xj,Xs,Xt,ZF,ZJ,unA,Zt,ZC,unG,reduceCtorEq,Zk,decide_eq_true_eq,Xk,Xg,ite_self,↓reduceIte,Zx,ZG,gcT,gcA,Zv,Zi,Zf,Zj,Zz,Zb,ZA,Zn,ZE,Xm,ZaV,ZaP,ZaY,Za0,ZaF,Za2,ZaI,ZaZ,ZaE,Za1,ZaJ,ZaX,ZaG,ZaU,ZaH,ZZ,ZK,Z4,ZO,ZL,ZN,Zfn,h0,hL,e3,hw,hC,hH,hN,hv,b1,hS1,AVal.cells,kOk,Zh,Zax,X1,Xai,We,WG]
theorem Zjn:∀ (n i:Nat),i+n=ms.length->evL FC PRG BY 0 [11,10,9,7,2,1] Zci (Zbx i (.sl 0 0 0 i) 1 ms first d) (ZbF ms (ZaO ms d i))=some (.exit 2,(51,.bool false)::Zbx ms.length (.sl 0 0 0 ms.length) 1 ms first d,ZbF ms (ZaO ms d ms.length))
 | 0,i,hi=>by
  obtain rfl:i=ms.length:=by omega
  have h0:¬(ms.length:Int) < (ms.length:Int):=by omega
  have hL:(ms.map AVal.str).length=ms.length:=by simp
  unfold Zbx ZbF
  generalize (ZaO ms d ms.length).map AVal.str=SE at *
  generalize first.map AVal.str=F at *
  generalize ms.map AVal.str=M at *
  rw [ZaB]
  simp -implicitDefEqProofs only [EQA,ZV,Z0,Z6,Z5,ZU,ZY,ZQ,ZW,Z1,ZS,Z3,ZX,ZT,Z2,ZP,implies_true,forall_const,Xq,Xr,Xw,Xi,Xj,Xs,Xt,ZF,ZJ,unA,Zt,ZC,unG,reduceCtorEq,Zk,decide_eq_true_eq,Xk,Xg,ite_self,↓reduceIte,Zx,ZG,gcT,gcA,Zv,Zi,Zf,Zj,Zz,Zb,ZA,Zn,ZE,Xm,ZaV,ZaP,ZaY,Za0,ZaF,Za2,ZaI,ZaZ,ZaE,Za1,ZaJ,ZaX,ZaG,ZaU,ZaH,ZZ,ZK,Z4,ZO,ZL,ZN,Zfn,h0,hL]
 | n+1,i,hi=>by
  rw [Zrh ms hne hnd hl d hd first hf i (by omega)]
  exact Zjn n (i+1) (by omega)
theorem Zw2:evL FC PRG BY 0 [11,10,9,7,2,1] Zci (Zbx 0 (.lst true []) 0 ms first d) (Zfg ms)=some (.exit 2,(51,.bool false)::Zbx ms.length (.sl 0 0 0 ms.length) 1 ms first d,ZbF ms (ZaO ms d ms.length)):=by
 rw [Zru ms hne hnd hl d hd first hf]
 have hp:0 < ms.length:=XV.2 hne
 exact Zjn ms hne hnd hl d hd first hf (ms.length - 1) 1 (by omega)
end
end
section
def ZdO (r:Option (Z7×Tms×Za)):Prop:=∃ tm σ,r=some (.ret,(6,.bool true)::tm,σ)
theorem Zey (tm:Tms) (σ:Za):ZdO (some (.ret,(6,.bool true)::tm,σ)):=⟨_,_,rfl⟩
def ZcN (first l:List Tx):Bool:=l.any fun x=>first.contains x
def ZcT (i:Nat) (so:Bool) (s:Tx) (ms first:List Tx) (d:Nat):Tms:=[(17,.int .i64 (i:Int)),(16,.bool so),(15,.bool true),(14,.str s),(9,.lst false (ms.map AVal.str)),(7,.ref 0 0),(2,.lst false (first.map AVal.str)),(1,.int .i64 (d:Int))]
def Zda (ms:List Tx):Za:=[.var [.map 1],.map [(.str shF,.sl 2 0 0 ms.length)],.frow 0 1 (ms.map AVal.str)]
theorem Zhk (ms first:List Tx) (hl:ms.length<=12) (hf:first.length<=9223372036854775807) (d:Nat) (s:Tx):∀ (r:List Tx) (i:Nat) (so:Bool),ms.drop i=r->i<=ms.length ->
  evL FC PRG BY 0 [17,16,15,14,9,7,2,1] ZeW (ZcT i so s ms first d) (Zda ms)=some (.exit 4,(89,.bool false)::ZcT ms.length (so || ZcN first r) s ms first d,Zda ms)
 | [],i,so,h,hi=>by
  have : ms.length<=i:=Xaf.1 h
  obtain rfl:i=ms.length:=by omega
  have h0:¬(ms.length:Int) < (ms.length:Int):=by omega
  have hL:(ms.map AVal.str).length=ms.length:=by simp
  rw [show ZcN first []=false from rfl,Bool.or_false]
  unfold ZcT Zda
  generalize first.map AVal.str=F at *
  generalize ms.map AVal.str=M at *
  rw [ZaB]
  simp -implicitDefEqProofs only [EQA,ZV,Z0,Z6,Z5,ZU,ZY,ZQ,ZW,Z1,ZS,Z3,ZX,ZT,Z2,ZP,implies_true,forall_const,Xq,Xr,Xw,Xi,Xj,Xs,Xt,ZF,ZJ,unA,Zt,ZC,unG,reduceCtorEq,Zk,decide_eq_true_eq,Xk,Xg,ite_self,↓reduceIte,Zx,ZG,gcT,gcA,Zv,Zi,Zf,Zj,Zz,Zb,ZA,Zn,ZE,Xm,ZaV,ZaP,ZaY,Za0,ZaF,Za2,ZaI,ZaZ,ZaE,Za1,ZaJ,ZaX,ZaG,ZaU,ZaH,ZZ,ZK,Z4,ZO,ZL,ZN,Zgd,h0,hL]
 | x::r,i,so,h,hi=>by
  obtain ⟨g1,d1,l1⟩:=Zcn h
  have h0:(i:Int) < (ms.length:Int):=by omega
  have hL:(ms.map AVal.str).length=ms.length:=by simp
  have e1:=iad g1 AVal.str (k:=1) rfl
  have e3:=Zdd h0 (by omega)
  have hH:=fun σ sq own=>Zbd (ZeS first false hf x σ sq own)
  rw [show ZcN first (x::r)=(first.contains x || ZcN first r) from rfl]
  cases so with
  | true =>
   have ih:=Zhk ms first hl hf d s r (i+1) true d1 (by omega)
   rw [WQ] at ih ⊢
   unfold ZcT Zda at ih ⊢
   generalize first.map AVal.str=F at *
   generalize ms.map AVal.str=M at *
   rw [ZaB]
   simp -implicitDefEqProofs only [EQA,ZV,Z0,Z6,Z5,ZU,ZY,ZQ,ZW,Z1,ZS,Z3,ZX,ZT,Z2,ZP,implies_true,forall_const,Xq,Xr,Xw,Xi,Xj,Xs,Xt,ZF,ZJ,unA,Zt,ZC,unG,reduceCtorEq,Zk,decide_eq_true_eq,Xk,Xg,ite_self,↓reduceIte,Zx,ZG,gcT,gcA,Zv,Zi,Zf,Zj,Zz,Zb,ZA,Zn,ZE,Xm,ZaV,ZaP,ZaY,Za0,ZaF,Za2,ZaI,ZaZ,ZaE,Za1,ZaJ,ZaX,ZaG,ZaU,ZaH,ZZ,ZK,Z4,ZO,ZL,ZN,Zgd,h0,hL,e1,e3,AVal.cells]
   exact ih
  | false =>
   have ih:=Zhk ms first hl hf d s r (i+1) (first.contains x) d1 (by omega)
   rw [Xam]
   unfold ZcT Zda at ih ⊢
   generalize first.contains x=q at *
   generalize first.map AVal.str=F at *
   generalize ms.map AVal.str=M at *
   rw [ZaB]
   simp -implicitDefEqProofs only [EQA,ZV,Z0,Z6,Z5,ZU,ZY,ZQ,ZW,Z1,ZS,Z3,ZX,ZT,Z2,ZP,implies_true,forall_const,Xq,Xr,Xw,Xi,Xj,Xs,Xt,ZF,ZJ,unA,Zt,ZC,unG,reduceCtorEq,Zk,decide_eq_true_eq,Xk,Xg,ite_self,↓reduceIte,Zx,ZG,gcT,gcA,Zv,Zi,Zf,Zj,Zz,Zb,ZA,Zn,ZE,Xm,ZaV,ZaP,ZaY,Za0,ZaF,Za2,ZaI,ZaZ,ZaE,Za1,ZaJ,ZaX,ZaG,ZaU,ZaH,ZZ,ZK,Z4,ZO,ZL,ZN,Zgd,h0,hL,e1,e3,hH,AVal.cells]
   exact ih
theorem Zxv (ms first:List Tx) (hne:ms≠[]) (d:Nat):∃ s,chS (chL first [] ms) d=.tup [.str s,.bool true]/\(ZcN first ms=true->first.contains s=true):=by
 have key:∀ (L:List Tx),L≠[]->∃ s,s ∈ L/\chS L d=.tup [.str s,.bool true]:=by
  intro L hL
  have hp:0 < L.length:=XV.2 hL
  have hm:=Xag d hp
  refine ⟨L[d % L.length],List.getElem_mem hm,?_⟩
  unfold chS
  rw [Xy hm]
 unfold chL
 rw [ZhI]
 by_cases h:amF first true ms=[]
 ·rw [if_pos h]
  obtain ⟨s,_,hs⟩:=key ms hne
  refine ⟨s,hs,fun ha=>?_⟩
  exfalso
  unfold ZcN at ha
  obtain ⟨x,hx,hc⟩:=List.any_eq_true.1 ha
  unfold amF at h
  have:=(W3.1 h) x hx
  rw [hc] at this
  exact this rfl
 ·rw [if_neg h]
  obtain ⟨s,hs,e⟩:=key _ h
  refine ⟨s,e,fun _=>?_⟩
  unfold amF at hs
  have:=(List.mem_filter.1 hs).2
  simpa using this
section
variable (ms:List Tx) (hne:ms≠[]) (hl:ms.length<=12) (d:Nat) (hd:d<=16777215) (first:List Tx) (hf:first.length<=9223372036854775807)
include hne hl hd hf
theorem ZqO (s:Tx) (so:Bool) (hs:so=true->first.contains s=true):ZdO (evC FC PRG BY 0 ZfT ((89,.bool false)::ZcT ms.length so s ms first d) (Zda ms)):=by
 have hC:=Zbd (Zkl true ms first ms (by omega) hf (by omega) d (by omega) false false)
 rw [Zju,if_pos rfl,show chS (chL first ms ms) d=.tup [.str [],.bool false] by
  unfold chL
  rw [Zju,show amF first true []=[] from rfl,if_pos rfl]
  rfl] at hC
 simp only [Zam,if_true] at hC
 have hH:=fun σ sq own=>Zbd (ZeS first false hf s σ sq own)
 have hL:(ms.map AVal.str).length=ms.length:=by simp
 have hp:0 < ms.length:=XV.2 hne
 have h0:((ms.length:Int) > 0):=by omega
 have e1:((true == true) != false)=true:=rfl
 rw [shF] at hC
 unfold ZcT Zda shF
 cases so with
 | true =>
  have hs':=hs rfl
  rw [hs'] at hH
  generalize first.map AVal.str=F at *
  generalize ms.map AVal.str=M at *
  simp -implicitDefEqProofs only [EQA,ZV,Z0,Z6,Z5,ZU,ZY,ZQ,ZW,Z1,ZS,Z3,ZX,ZT,Z2,ZP,implies_true,forall_const,Xq,Xr,Xw,Xi,Xj,Xs,Xt,ZF,ZJ,unA,Zt,ZC,unG,reduceCtorEq,Zk,decide_eq_true_eq,Xk,Xg,ite_self,↓reduceIte,Zx,ZG,gcT,gcA,Zv,Zi,Zf,Zj,Zz,Zb,ZA,Zn,ZE,Xm,ZaV,ZaP,ZaY,Za0,ZaF,Za2,ZaI,ZaZ,ZaE,Za1,ZaJ,ZaX,ZaG,ZaU,ZaH,ZZ,ZK,Z4,ZO,ZL,ZN,ZhV,hC,hH,hL,h0,e1,Zey]
 | false =>
  generalize first.map AVal.str=F at *
  generalize ms.map AVal.str=M at *
  simp -implicitDefEqProofs only [EQA,ZV,Z0,Z6,Z5,ZU,ZY,ZQ,ZW,Z1,ZS,Z3,ZX,ZT,Z2,ZP,implies_true,forall_const,Xq,Xr,Xw,Xi,Xj,Xs,Xt,ZF,ZJ,unA,Zt,ZC,unG,reduceCtorEq,Zk,decide_eq_true_eq,Xk,Xg,ite_self,↓reduceIte,Zx,ZG,gcT,gcA,Zv,Zi,Zf,Zj,Zz,Zb,ZA,Zn,ZE,Xm,ZaV,ZaP,ZaY,Za0,ZaF,Za2,ZaI,ZaZ,ZaE,Za1,ZaJ,ZaX,ZaG,ZaU,ZaH,ZZ,ZK,Z4,ZO,ZL,ZN,ZhV,hC,hL,h0,e1,Zey]
theorem ZvT (SE:List Tx):ZdO (evC FC PRG BY 0 ZfK ((51,.bool false)::Zbx ms.length (.sl 0 0 0 ms.length) 1 ms first d) (ZbF ms SE)):=by
 obtain ⟨s,hs1,hs2⟩:=Zxv ms first hne d
 have hC:=Zbd (Zjf ms first [] (by omega) hf (by simp) d (by omega) false true (SE.map AVal.str))
 rw [hs1,XT] at hC
 simp only [Zam,if_true] at hC
 have h23:=Zhk ms first hl hf d s ms 0 false rfl (XaE _)
 rw [Xam] at h23
 obtain ⟨tm,σ',hk⟩:=ZqO ms hne hl d hd first hf s (ZcN first ms) hs2
 rw [shF] at hC
 unfold ZcT Zda shF at h23 hk
 rw [show ((0:Nat):Int)=0 from rfl] at h23
 unfold Zbx ZbF shF
 generalize ZcN first ms=q at *
 generalize SE.map AVal.str=SV at *
 generalize first.map AVal.str=F at *
 generalize ms.map AVal.str=M at *
 simp -implicitDefEqProofs only [EQA,ZV,Z0,Z6,Z5,ZU,ZY,ZQ,ZW,Z1,ZS,Z3,ZX,ZT,Z2,ZP,implies_true,forall_const,Xq,Xr,Xw,Xi,Xj,Xs,Xt,ZF,ZJ,unA,Zt,ZC,unG,reduceCtorEq,Zk,decide_eq_true_eq,Xk,Xg,ite_self,↓reduceIte,Zx,ZG,gcT,gcA,Zv,Zi,Zf,Zj,Zz,Zb,ZA,Zn,ZE,Xm,ZaV,ZaP,ZaY,Za0,ZaF,Za2,ZaI,ZaZ,ZaE,Za1,ZaJ,ZaX,ZaG,ZaU,ZaH,ZZ,ZK,Z4,ZO,ZL,ZN,Zix,hC,h23,hk,Zey]
theorem ZpE (hnd:ms.Nodup) (cl:List Tx) (i:Nat):ZdO (evC FC PRG BY 0 ZdP ((37,.bool false)::sl8 i cl first d) (gB shF ms)):=by
 have hM:=Zbd (ZnL ms (by omega))
 have h14:=Zw2 ms hne hnd hl d hd first hf
 obtain ⟨tm,σ',hk⟩:=ZvT ms hne hl d hd first hf (ZaO ms d ms.length)
 rw [shF] at hM
 unfold Zbx Zfg ZbF shF at h14
 unfold Zbx ZbF shF at hk
 rw [show ((0:Nat):Int)=0 from rfl] at h14
 unfold sl8 gB shF
 generalize (ZaO ms d ms.length).map AVal.str=SE at *
 generalize cl.map AVal.str=C at *
 generalize first.map AVal.str=F at *
 generalize ms.map AVal.str=M at *
 simp -implicitDefEqProofs only [EQA,ZV,Z0,Z6,Z5,ZU,ZY,ZQ,ZW,Z1,ZS,Z3,ZX,ZT,Z2,ZP,implies_true,forall_const,Xq,Xr,Xw,Xi,Xj,Xs,Xt,ZF,ZJ,unA,Zt,ZC,unG,reduceCtorEq,Zk,decide_eq_true_eq,Xk,Xg,ite_self,↓reduceIte,Zx,ZG,gcT,gcA,Zv,Zi,Zf,Zj,Zz,Zb,ZA,Zn,ZE,Xm,ZaV,ZaP,ZaY,Za0,ZaF,Za2,ZaI,ZaZ,ZaE,Za1,ZaJ,ZaX,ZaG,ZaU,ZaH,ZZ,ZK,Z4,ZO,ZL,ZN,Zj0,hM,h14,hk,Zey]
end
theorem Zm3 (first but:List Tx) (hf:first.length<=9223372036854775807) (hbt:but.length<=9223372036854775807) (d:Int) :
  E 9 [.ref 0 0,.str shF,.int .i64 d,.lst false (first.map AVal.str),.lst false (but.map AVal.str)] gN=some (.tup [.str [],.bool false],gN):=by
 have hk:=fun {σ:Za} {z:AVal} hs=>Zi4 shF (σ:=σ) (z:=z) hs
 have hA:=fun σ sq own=>Zhn [] but false true false (by simp) hbt σ sq own
 have hB:=fun σ sq own=>Zhn [] first true false false (by simp) hf σ sq own
 rw [show amF but false []=[] from rfl,XT] at hA
 rw [show amF first true []=[] from rfl,XT] at hB
 have w0:¬(((0:Nat):Int) > 0):=by decide
 have w1:(((0:Nat):Int) == 0)=true:=rfl
 have ho:ZaC 2 [.var [.map 1],.map []] (.tup [.str [],.bool false])=some (.tup [.str [],.bool false],[.var [.map 1],.map []]):=rfl
 unfold gN
 generalize first.map AVal.str=F at *
 generalize but.map AVal.str=Bt at *
 rw [ZbH (by rfl) Zgp]
 simp -implicitDefEqProofs only [EQA,ZV,Z0,Z6,Z5,ZU,ZY,ZQ,ZW,Z1,ZS,Z3,ZX,ZT,Z2,ZP,implies_true,forall_const,Xq,Xr,Xw,Xi,Xj,Xs,Xt,ZF,ZJ,unA,Zt,ZC,unG,reduceCtorEq,Zk,decide_eq_true_eq,Xk,Xg,ite_self,↓reduceIte,Zx,ZG,gcT,gcA,Zv,Zi,Zf,Zj,Zz,Zb,ZA,Zn,ZE,Xm,Zfk,ZdU,Zfc,ZZ,ZK,Z4,ZO,ZL,ZN,hk,hA,hB,w0,w1,ho,AVal.cells]
theorem ZiG (first but:List Tx) (hf:first.length<=9223372036854775807) (hbt:but.length<=9223372036854775807) (d:Int) (a b:Bool):Zr E BY [.var [.map 1],.map []] 2 9 0 true [.ref 0 0,.str shF,.int .i64 d,.lst a (first.map AVal.str),.lst b (but.map AVal.str)]=some (.tup [.str [],.bool false],[.var [.map 1],.map []],{ any:=true,upd:=[(0,[.map 1])] }):=by
 have h1:=Zm3 first but hf hbt d
 unfold gN at h1
 exact ZcQ (O:=E) (bf:=BY) (σ:=[.var [.map 1],.map []]) (sq:=2) (own:=0) (f:=9) (view:=true) (args:=[.ref 0 0,.str shF,.int .i64 d,.lst a (first.map AVal.str),.lst b (but.map AVal.str)]) (vs:=[.ref 0 0,.str shF,.int .i64 d,.lst false (first.map AVal.str),.lst false (but.map AVal.str)]) (vs':=[.ref 0 0,.str shF,.int .i64 d,.lst false (first.map AVal.str),.lst false (but.map AVal.str)]) (ids:=[0,1]) (h0:=[.var [.map 1],.map []]) (h:=[.var [.map 1],.map []]) (r:=.tup [.str [],.bool false]) (by kernel_rfl) rfl rfl rfl rfl rfl rfl (by rw [h1];rfl) (XL _) (XL _) rfl rfl rfl rfl rfl
theorem ZrN:E 8 [.ref 0 0,.str shF] gN=some (.sl 2 0 0 0,gN++[.row 0 1 []]):=Zbr.2 ⟨20,by kernel_rfl⟩
theorem Zti:Zr E BY [.var [.map 1],.map []] 2 8 0 true [.ref 0 0,.str shF]=some (.lst false [],[.var [.map 1],.map []],{ any:=true,upd:=[(0,[.map 1])] }):=by
 have h1:=ZrN
 unfold gN at h1
 exact ZcQ (O:=E) (bf:=BY) (σ:=[.var [.map 1],.map []]) (sq:=2) (own:=0) (f:=8) (view:=true) (args:=[.ref 0 0,.str shF]) (vs:=[.ref 0 0,.str shF]) (vs':=[.ref 0 0,.str shF]) (ids:=[0,1]) (h0:=[.var [.map 1],.map []]) (h:=[.var [.map 1],.map []]) (r:=.lst false []) (by kernel_rfl) rfl rfl rfl rfl rfl rfl (by rw [h1];rfl) (XL _) (XL _) rfl rfl rfl rfl rfl
theorem ZsX (first:List Tx) (hf:first.length<=9223372036854775807) (d:Nat) (cl:List Tx):ZdO (evC FC PRG BY 0 ZdP ((37,.bool false)::sl8 0 cl first d) gN):=by
 have hM:=Zbd Zti
 have hC1:=Zbd (ZiG first [] hf (by simp) d false true)
 have hC2:=Zbd (ZiG first [] hf (by simp) d false false)
 rw [XT] at hC1 hC2
 have h0:¬(0:Int) < ((0:Nat):Int):=by decide
 have h1:¬(((0:Nat):Int) > 0):=by decide
 have e1:((false == false) != false)=true:=rfl
 rw [shF] at hM hC1 hC2
 unfold sl8 gN
 generalize cl.map AVal.str=C at *
 generalize first.map AVal.str=F at *
 have h14:evL FC PRG BY 0 [11,10,9,7,2,1] Zci [(11,.int .i64 0),(10,.lst true []),(9,.lst false []),(7,.ref 0 0),(2,.lst false F),(1,.int .i64 (d:Int))] [.var [.map 1],.map []]=some (.exit 2,(51,.bool false)::[(11,.int .i64 0),(10,.lst true []),(9,.lst false []),(7,.ref 0 0),(2,.lst false F),(1,.int .i64 (d:Int))],[.var [.map 1],.map []]):=by
  rw [ZaB]
  simp -implicitDefEqProofs only [EQA,ZV,Z0,Z6,Z5,ZU,ZY,ZQ,ZW,Z1,ZS,Z3,ZX,ZT,Z2,ZP,implies_true,forall_const,Xq,Xr,Xw,Xi,Xj,Xs,Xt,ZF,ZJ,unA,Zt,ZC,unG,reduceCtorEq,Zk,decide_eq_true_eq,Xk,Xg,ite_self,↓reduceIte,Zx,ZG,gcT,gcA,Zv,Zi,Zf,Zj,Zz,Zb,ZA,Zn,ZE,Xm,ZaV,ZaP,ZaY,Za0,ZaF,Za2,ZaI,ZaZ,ZaE,Za1,ZaJ,ZaX,ZaG,ZaU,ZaH,ZZ,ZK,Z4,ZO,ZL,ZN,Zfn,h0]
 have h23:evL FC PRG BY 0 [17,16,15,14,9,7,2,1] ZeW [(17,.int .i64 0),(16,.bool false),(15,.bool false),(14,.str []),(9,.lst false []),(7,.ref 0 0),(2,.lst false F),(1,.int .i64 (d:Int))] [.var [.map 1],.map []]=some (.exit 4,(89,.bool false)::[(17,.int .i64 0),(16,.bool false),(15,.bool false),(14,.str []),(9,.lst false []),(7,.ref 0 0),(2,.lst false F),(1,.int .i64 (d:Int))],[.var [.map 1],.map []]):=by
  rw [ZaB]
  simp -implicitDefEqProofs only [EQA,ZV,Z0,Z6,Z5,ZU,ZY,ZQ,ZW,Z1,ZS,Z3,ZX,ZT,Z2,ZP,implies_true,forall_const,Xq,Xr,Xw,Xi,Xj,Xs,Xt,ZF,ZJ,unA,Zt,ZC,unG,reduceCtorEq,Zk,decide_eq_true_eq,Xk,Xg,ite_self,↓reduceIte,Zx,ZG,gcT,gcA,Zv,Zi,Zf,Zj,Zz,Zb,ZA,Zn,ZE,Xm,ZaV,ZaP,ZaY,Za0,ZaF,Za2,ZaI,ZaZ,ZaE,Za1,ZaJ,ZaX,ZaG,ZaU,ZaH,ZZ,ZK,Z4,ZO,ZL,ZN,Zgd,h0]
 simp -implicitDefEqProofs only [EQA,ZV,Z0,Z6,Z5,ZU,ZY,ZQ,ZW,Z1,ZS,Z3,ZX,ZT,Z2,ZP,implies_true,forall_const,Xq,Xr,Xw,Xi,Xj,Xs,Xt,ZF,ZJ,unA,Zt,ZC,unG,reduceCtorEq,Zk,decide_eq_true_eq,Xk,Xg,ite_self,↓reduceIte,Zx,ZG,gcT,gcA,Zv,Zi,Zf,Zj,Zz,Zb,ZA,Zn,ZE,Xm,ZaV,ZaP,ZaY,Za0,ZaF,Za2,ZaI,ZaZ,ZaE,Za1,ZaJ,ZaX,ZaG,ZaU,ZaH,ZZ,ZK,Z4,ZO,ZL,ZN,Zj0,Zix,ZhV,hM,h14,hC1,h23,hC2,h1,e1,Zey]
theorem Zqf:Zr E BY [.free,.free] 0 5 2 false []=some (.ref 0 0,[.var [.map 1],.map []],{ any:=true }):=by
 have h:E 5 [] []=some (.ref 0 0,[.var [.map 1],.map []]):=Zbr.2 ⟨20,by kernel_rfl⟩
 unfold Zr ZbE
 rw [show BY 5=false by kernel_rfl]
 simp only [Xo,if_false,showAs]
 rw [show ZR ([]:List AVal)=[] from rfl,show Zh [Zl.free,Zl.free] []=[.free,.free] from rfl,show Zi [Zl.free,Zl.free] 1000 [] []=[] from rfl]
 unfold Zbg
 rw [if_pos (by rfl),show ZH (Zf [Zl.free,Zl.free] 0 []) []=[] from rfl,show Zj [Zl.free,Zl.free] 0 [] (Zf [Zl.free,Zl.free] 0 []) [] 0=[] from rfl,h]
 rfl
theorem Zt5 (q:Int):∃ dn:Nat,dn<=16777215/\IntKind.i64.wrap (((Wn IntKind.i64.bits q &&& Wn IntKind.i64.bits 16777215).toNat:Nat):Int)=(dn:Int):=by
 have h:(Wn IntKind.i64.bits q &&& Wn IntKind.i64.bits 16777215).toNat<=16777215:=by
  rw [BitVec.toNat_and]
  exact W8 Nat.and_le_right (by decide)
 exact ⟨_,h,Zev (by omega) (by omega)⟩
theorem Zsz (cl first:List Tx) (q:Int) (hcl:cl.length<=9223372036854775807) (hf:first.length<=9223372036854775807):EG 3 [.lst false (cl.map AVal.str),.int .i64 q,.lst false (first.map AVal.str)] []=some (.bool true,[]):=by
 obtain ⟨d,hd,hq⟩:=Zt5 q
 have hN:=Zbd Zqf
 have hW:=ZoS
 have p1:(false != false)=false:=rfl
 have hL:(cl.map AVal.str).length=cl.length:=by simp
 have hsl:∀ σ:Za,(cl.length:Int) > 12->ZbA σ 1 (.lst false (cl.map AVal.str)) none (some (.int .i64 12)) none=some (.lst false ((cl.take 12).map AVal.str),σ,{}):=by
  intro σ h
  have h1:(12:Int)<=(cl.length:Int):=by omega
  simp [ZbA,Zav,Zc8,h1]
 have hst:=ZtV (cl.take 12) first d (by simp;omega)
 have hcut:¬((cl.length:Int) > 12)->cl.take 12=cl:=fun h=>X7 (by omega)
 rw [Zn1 (by rfl) Zne]
 have hfin:∀ (i:Nat) (hp:Za),evL FC PRG BY 0 [8,7,2,1,0] ZbI (sl8 0 (cl.take 12) first d) gN=some (.exit 0,(37,.bool false)::sl8 i (cl.take 12) first d,hp)->ZdO (evC FC PRG BY 0 ZdP ((37,.bool false)::sl8 i (cl.take 12) first d) hp)->Zas 0 Zes (evC FC PRG BY 0 Zes.body (enterA 0 [.lst false (cl.map AVal.str),.int .i64 q,.lst false (first.map AVal.str)] []) [])=some (.bool true,[]):=by
  intro i hp h8 hr
  obtain ⟨tm,σ',hk⟩:=hr
  unfold sl8 gN at h8
  unfold sl8 at hk
  rw [show ((0:Nat):Int)=0 from rfl] at h8
  by_cases h12:(cl.length:Int) > 12
  ·have hs:=fun σ=>hsl σ h12
   generalize (cl.take 12).map AVal.str=C2 at *
   generalize cl.map AVal.str=C at *
   generalize first.map AVal.str=F at *
   simp -implicitDefEqProofs only [EQA,ZV,Z0,Z6,Z5,ZU,ZY,ZQ,ZW,Z1,ZS,Z3,ZX,ZT,Z2,ZP,implies_true,forall_const,Xq,Xr,Xw,Xi,Xj,Xs,Xt,ZF,ZJ,unA,Zt,ZC,unG,reduceCtorEq,Zk,decide_eq_true_eq,Xk,Xg,ite_self,↓reduceIte,Zx,ZG,gcT,gcA,Zv,Zi,Zf,Zj,Zz,Zb,ZA,Zn,ZE,Xm,ZaV,ZaP,ZaY,Za0,ZaF,Za2,ZaI,ZaZ,ZaE,Za1,ZaJ,ZaX,ZaG,ZaU,ZaH,ZZ,ZK,Z4,ZO,ZL,ZN,hN,hW,p1,hL,hs,h12,hq,h8,hk]
  ·rw [hcut h12] at h8 hk
   generalize cl.map AVal.str=C at *
   generalize first.map AVal.str=F at *
   simp -implicitDefEqProofs only [EQA,ZV,Z0,Z6,Z5,ZU,ZY,ZQ,ZW,Z1,ZS,Z3,ZX,ZT,Z2,ZP,implies_true,forall_const,Xq,Xr,Xw,Xi,Xj,Xs,Xt,ZF,ZJ,unA,Zt,ZC,unG,reduceCtorEq,Zk,decide_eq_true_eq,Xk,Xg,ite_self,↓reduceIte,Zx,ZG,gcT,gcA,Zv,Zi,Zf,Zj,Zz,Zb,ZA,Zn,ZE,Xm,ZaV,ZaP,ZaY,Za0,ZaF,Za2,ZaI,ZaZ,ZaE,Za1,ZaJ,ZaX,ZaG,ZaU,ZaH,ZZ,ZK,Z4,ZO,ZL,ZN,hN,hW,p1,hL,h12,hq,h8,hk]
 rcases hst with ⟨hc,h8⟩ | ⟨i',ms,a1,a2,a3,h8⟩
 ·exact hfin 0 gN h8 (ZsX first hf d _)
 ·exact hfin i' _ h8 (ZpE ms a1 a3 d hd first hf a2 _ i')
end
section
open Go.RowKit Go.Shelf Go.Lib
theorem Zr6 {W:World} (h:Lib.Utf8Tabs 1 2 W):Gl.le (Imm.of W):=by
 intro b o u hu
 unfold Gl at hu
 unfold Imm.of
 split at hu
 ·rename_i e;subst e
  split at hu
  ·rename_i ho
   rw [h.1 o ho,<-hu]
  ·cases hu
 ·split at hu
  ·rename_i e;subst e
   split at hu
   ·rename_i ho
    rw [<-hu]
    obtain ⟨h1,h2⟩:=h.2 (o / 2) (by omega)
    by_cases hp:o % 2=0
    ·rw [if_pos hp,<-h1];congr 2;omega
    ·rw [if_neg hp,<-h2];congr 2;omega
   ·cases hu
  ·cases hu
theorem ZjH {x:AVal} (h:ZgS false (.slice false .str) x):∃ l:List (List UInt8),l.length<=9223372036854775807/\x=.lst false (l.map AVal.str):=by
 obtain ⟨y,h,rfl⟩:=h
 simp only [TyC] at h
 obtain ⟨ys,rfl,h1,h2⟩:=h
 have : ∀ ys:List (List AVal),(∀ y ∈ ys,TyC .str y)->∃ l:List (List UInt8),ys.map (Zbk false)=l.map AVal.str:=by
  intro ys
  induction ys with
  | nil=>intro _;exact ⟨[],rfl⟩
  | cons y ys ih =>
   intro hy
   have hy0:=hy y (by simp)
   simp only [TyC] at hy0
   obtain ⟨a,_,ha⟩:=hy0
   obtain ⟨l,hl⟩:=ih fun y' h'=>hy y' (by simp [h'])
   exact ⟨a::l,by simp [ha,hl,Zbk]⟩
 obtain ⟨l,hl⟩:=this ys h2
 have hn:=congrArg List.length hl
 simp only [WO] at hn
 exact ⟨l,by omega,by simp [Zbk,hl]⟩
theorem Zo9 {x:AVal} (h:ZgS false (.int .i64) x):∃ n:Int,(-9223372036854775808<=n/\n<=9223372036854775807)/\x=.int .i64 n:=by
 obtain ⟨y,h,rfl⟩:=h
 simp only [TyC] at h
 obtain ⟨n,hw,rfl⟩:=h
 refine ⟨n,?_,rfl⟩
 simp only [Lit.wf,Xc,decide_eq_true_eq] at hw
 exact hw
section
open Go.RowKit
variable {H:Type} {enc:TypeId×Value->H} {P:Program} {w:World} {spare:Nat->Bool} {held:Bool}
end
end
section
open Go.ChangeShapes Go.WideShapes Go.ChangeAt Go.RowKit Go.Deep
theorem Zmn:ownKnob Tryd.prog.godebug=none:=by kernel_rfl
theorem ZhE:laidOutB Tryd.prog=true:=by kernel_rfl
theorem Zlu {W:World} (hLH:laidMetH Tryd.prog Rows.groupFairRow.laid W):Gl.le (Imm.of W):=by
 have hL:laidMet Tryd.prog Rows.groupFairRow.laid W:=by rw [<-MakeChecks.laidMetH_plain _ _ _ (by kernel_rfl)];exact hLH
 have e1:Rows.laid_unicode_utf8_first=Lib.firstData:=by kernel_rfl
 have e2:(Rows.laid_unicode_utf8_acceptRanges:DataW Unit)=Lib.acceptData:=by kernel_rfl
 have h1:Lib.VarReads Tryd.prog W "unicode/utf8.first" Lib.firstData:=by rw [<-e1];exact Lib.laidMet.reads hL (.tail _ (.head _))
 have h2:Lib.VarReads Tryd.prog W "unicode/utf8.acceptRanges" Lib.acceptData:=by rw [<-e2];exact Lib.laidMet.reads hL (.head _)
 exact Zr6 (utf8Tabs_of_readsT (U8Types.of196 ZjU) ⟨by kernel_rfl,by kernel_rfl,by kernel_rfl,by kernel_rfl,by kernel_rfl,by kernel_rfl,by kernel_rfl⟩ h1 h2)
set_option maxRecDepth 100000 in
theorem Zwa (H:Type) (enc:TypeId×Value->H) (W:World) (base:Nat) (args:Array Value) (ds gs:List (DataW H)) (before:List MemPlace)
  (hval0:∀ (j:Nat) t v,Tryd.f3.params[j]?=some t->args[j]?=some v->Value.okWide Tryd.prog W .any base t v)
  (hW:DataW.Whole enc Tryd.prog Tryd.f3.params.toList Rows.groupFairSpec.vars false W args.toList ds gs before) (hL:laidMetH Tryd.prog Rows.groupFairRow.laid W) :
  Calls Tryd.prog 3 args W fun e W'=>∃ v,e=.returned v/\Rows.groupFairSpec.post enc Tryd.prog Tryd.f3 false true false false W args v W':=by
 have hW':=hW
 obtain ⟨p,q,hA0,hV,rfl,hfz,hnd⟩:=hW
 have hval:∀ (j:Nat) t v,Tryd.f3.params[j]?=some t->args[j]?=some v->Value.okWide Tryd.prog W .any base t v:=hval0
 have hA:DataW.TrodAll enc Tryd.prog W 0 (fun _=>true) true Tryd.f3.params.toList args.toList ds p:=hA0
 rw [Tryd.params3] at hA hval
 obtain ⟨v0,vs0,d0,ds0,p0,q0,hargs,rfl,rfl,h0,r0⟩:=trodAll_cons hA
 obtain ⟨v1,vs1,d1,ds1,p1,q1,rfl,rfl,rfl,h1,r1⟩:=trodAll_cons r0
 obtain ⟨v2,vs2,d2,ds2,p2,q2,rfl,rfl,rfl,h2,r2⟩:=trodAll_cons r1
 obtain ⟨rfl,rfl,rfl⟩:=trodAll_nil r2
 obtain rfl:args=#[v0,v1,v2]:=by cases args;simp_all
 obtain ⟨rfl,rfl⟩:=trodVars_none hV
 have k0:=h0
 have lt0:∀ x ∈ p0,x.block < W.heap.size:=by obtain ⟨m,hm⟩:=k0;exact DataW.trod_lt m _ _ _ hm
 obtain ⟨x0,y0,z0,_⟩:=Zhl (n:=12) (T:=.slice false .str) (by kernel_rfl) (hval 0 22 v0 rfl rfl) h0
 rw [Tryd.underlying22] at y0
 obtain ⟨a0,b0,rfl⟩:=ZjH y0
 have k1:=h1
 have lt1:∀ x ∈ p1,x.block < W.heap.size:=by obtain ⟨m,hm⟩:=k1;exact DataW.trod_lt m _ _ _ hm
 obtain ⟨x1,y1,z1,_⟩:=Zhl (n:=12) (T:=(.int .i64)) (by kernel_rfl) (hval 1 3 v1 rfl rfl) h1
 rw [Tryd.underlying3] at y1
 obtain ⟨a1,b1,rfl⟩:=Zo9 y1
 have k2:=h2
 have lt2:∀ x ∈ p2,x.block < W.heap.size:=by obtain ⟨m,hm⟩:=k2;exact DataW.trod_lt m _ _ _ hm
 obtain ⟨x2,y2,z2,_⟩:=Zhl (n:=12) (T:=.slice false .str) (by kernel_rfl) (hval 2 22 v2 rfl rfl) h2
 rw [Tryd.underlying22] at y2
 obtain ⟨a2,b2,rfl⟩:=ZjH y2
 clear hA0 hval0
 have hq:=Zsz a0 a2 a1 b0 b2
 refine (Zpz Zm4 (Zlu hL) (args:=[.lst false (a0.map AVal.str),.int .i64 a1,.lst false (a2.map AVal.str)]) (by simp only [VRs];exact ⟨_,_,rfl,z0,_,_,rfl,z1,_,_,rfl,z2,rfl⟩) (hq)).mono fun e W' ⟨he,bel⟩=>?_
 subst he
 exact ⟨_,rfl,_,_,_,[],_,[],hW',trodAll_mk1 (shut_bool Tryd.underlying4 _),(trodAll_cons_mk (Below.trod ZhE (by kernel_rfl) (of_decide_eq_true (by kernel_rfl)) k0 bel lt0) (trodAll_cons_mk (Below.trod ZhE (by kernel_rfl) (of_decide_eq_true (by kernel_rfl)) k1 bel lt1) (trodAll_cons_mk (Below.trod ZhE (by kernel_rfl) (of_decide_eq_true (by kernel_rfl)) k2 bel lt2) trodAll_mk0))),rfl,bel.frame _,fun h=>by cases h⟩
noncomputable def ZgJ (os:Os):World :=
 let w0:=World.holding Tryd.prog os ⟨#[],#[],[]⟩
 let put (h:Array Obj) (g:Nat) (us:Array Value):Array Obj:=h.modify g fun
  | .cells _ t frozen=>.cells us t frozen
  | o=>o
 let h1:=put w0.heap 1 (Lib.firstTab.map fun z=>Value.int .u8 z).toArray
 let h2:=put h1 2 ((X8 16).flatMap fun i=>[Value.int .u8 (Lib.accLo i),Value.int .u8 (Lib.accHi i)]).toArray
 { w0 with heap:=h2 }
theorem Zs5 (os:Os):laidMet Tryd.prog Rows.groupFairRow.laid ((ZgJ os).forCall (fun _ _=>0) ⟨#[],#[.slice none 0 0,.int .i64 0,.slice none 0 0],[]⟩).memory :=
 laidMet_of_run' 8 (by kernel_rfl) (by kernel_rfl)
theorem Zvu (os:Os) {H:Type} (enc:TypeId×Value->H):∃ ds places,DataW.whole enc Tryd.prog ((ZgJ os).forCall (fun _ _=>0) ⟨#[],#[.slice none 0 0,.int .i64 0,.slice none 0 0],[]⟩).memory Tryd.f3.params.toList Rows.groupFairSpec.vars false #[.slice none 0 0,.int .i64 0,.slice none 0 0].toList 8=some (ds,[],places) :=
 ⟨[.nil,.lit (.int .i64 0),.nil],[],by kernel_rfl⟩
set_option maxRecDepth 100000 in
theorem Ztm (os:Os) (started:os.Started) (H:Type) (enc:TypeId×Value->H) (F:Stop.Interp) :
  ReturnsInHanded {} Tryd.checked os 3 .any ((OpenSpec.ofChange Rows.groupFairSpec).preRow enc Tryd.prog Tryd.f3 Rows.groupFairRow.domain false Rows.groupFairRow.laid) (((OpenSpec.ofChange Rows.groupFairSpec).at F).post enc Tryd.prog Tryd.f3 false true false false):=by
 obtain ⟨ds,places,hx⟩:=Zvu os enc
 refine returnsInHanded_of_row (C:=Tryd.checked) (s:=(OpenSpec.ofChange Rows.groupFairSpec)) Zmn started (by kernel_rfl) Tryd.func3
  (witness_row_at (enc:=enc) (C:=Tryd.checked) false (ZgJ os) #[.slice none 0 0,.int .i64 0,.slice none 0 0] rfl (by kernel_rfl) (by kernel_rfl) (by kernel_rfl)
   (OpenSpec.preRow_of_cond 8 hx (by kernel_rfl) (fun k hk=>by cases hk) (by kernel_rfl) (Zs5 os))) ?_
 intro W base args ds gs before hval hW _ hcond _ hL _ _
 exact Zwa H enc W base args ds gs before hval hW hL
theorem ZwG:Rows.GroupFairSaid :=
 OpenClaim.holds_of_cond 3 Tryd.f3 rfl rfl rfl rfl rfl rfl rfl ⟨rfl,rfl,rfl,rfl,rfl⟩ rfl rfl rfl rfl rfl (by kernel_rfl) Tryd.func3 (by kernel_rfl)
  (of_decide_eq_true (by kernel_rfl)) (by unfold Func.isWrapper;first | (rw [if_pos (by decide +kernel)];kernel_rfl) | (rw [if_neg (by decide +kernel)];exact ⟨rfl,rfl⟩))
  (fun os started H enc _ F=>by rw [OpenClaim.pre_eq_preRow];exact Ztm os started H enc F)
theorem ZlM (f:FuncId) (fn:Func) (hf:Tryd.pinned.checked.prog.funcNamed "tidings/tidingslaw16.GroupFair"=some f) (hfn:Tryd.pinned.checked.prog.funcs[f]?=some fn) :
  false=Tryd.pinned.checked.prog.looks []/\∀ (j:Nat) t,fn.params[j]?=some t->Tryd.pinned.checked.prog.wantsStandIn t=false:=by
 obtain rfl:f=3:=XaF.inj ((show Tryd.prog.funcNamed "tidings/tidingslaw16.GroupFair"=some 3 by kernel_rfl).symm.trans hf) |>.symm
 obtain rfl:fn=Tryd.f3:=(XaF.inj (Tryd.func3.symm.trans hfn)).symm
 refine ⟨by kernel_rfl,fun j t ht=>?_⟩
 rw [Tryd.params3] at ht
 have hm:t=22\/t=3:=by
  have:=Array.mem_of_getElem? ht
  simp at this
  first | exact this | exact this.symm | omega | (rcases this with h | h | h <;> simp [h]) | (rcases this with h | h | h | h <;> simp [h]) | (rcases this with h | h | h | h | h <;> simp [h]) | (rcases this with h | h | h | h | h | h <;> simp [h]) | (rcases this with h | h | h | h | h | h | h <;> simp [h])
 rcases hm with rfl | rfl
 ·exact (show Tryd.prog.wantsStandIn 22=false by kernel_rfl)
 ·exact (show Tryd.prog.wantsStandIn 3=false by kernel_rfl)
theorem groupFair_card:Rows.GroupFairCardSaid :=
 Claim7.holds_tied_plain_at .later [] _ _ _ _ ZwG (fun _ h=>by cases h) (by kernel_rfl) (fun _ h=>by cases h) groupFair_row_tie rfl ⟨rfl,rfl⟩ (by kernel_rfl) rfl ZlM (by kernel_rfl)
#print axioms groupFair_card
end
end Go.Proofs.YtkoknlginefmgaaDoor
