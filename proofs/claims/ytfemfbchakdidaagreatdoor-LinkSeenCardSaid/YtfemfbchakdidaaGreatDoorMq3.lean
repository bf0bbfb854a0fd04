/- packed -/
import Derived.Test.YtfemfbchakdidaaGreatDoorMq2
set_option linter.defProp false
set_option linter.unusedSectionVars false
set_option linter.unusedSimpArgs false
set_option linter.unusedVariables false
open Nat renaming reduceEqDiff→Xb,reduceLT→Xc,reduceAdd→Xe,reduceLeDiff→Xf,reduceBEq→Xg,le_refl→Xx,zero_add→XE,lt_or_ge→Wx
open Bool renaming false_eq_true→Xi,and_eq_true→Xj,and_self→X0,not_eq_true→WV
open List renaming length_append→Xk,getElem?_set_ne→Xm,append_nil→Xp,map_cons→Xt,getElem?_set→Xv,mem_of_getElem?→XA,all_eq_true→XF,length_nil→XG,length_cons→XH,map_nil→XM,take_of_length_le→XN,all_cons→XP,getElem?_eq_none→XQ,mem_map→XX,length_drop→X6,getElem?_append_left→We,take_append_of_le_length→Wi,all_nil→Wj,isEmpty_cons→Wp,range_succ→WG
open Int renaming reduceBEq→Xq,toNat→WB
open Or renaming inl→Xr,inr→Xy
open BitVec renaming ofInt→XB
open Option renaming map→Wa
namespace Go.Proofs.YtfemfbchakdidaaGreatDoor
set_option maxHeartbeats 16000000
set_option maxRecDepth 10000
section
def Zna:Zf:=(.seq (.region [oI 21 (.build [(.int .i64 0),(.int .i64 0),(.str []),(.str []),(.lst true [])] []),oN (.st 5 (.t 4) (.t 21)),oI 5 (.mov (.c (.bool false)))] none [5,4]) .ret)
def ZmP:Zf:=Zna
def ZG8:=xw ZmP Zna rfl
def Ziz:Zf:=(.seq (.region [oI 11 (.bin .lss (.t 10) (.t 9))] none [11,10,9,8,4,0]) (.seq (.cond (.t 11) .skip (.exit 0)) (.seq (.block 1 (.seq (.region [oI 12 (.iaddr 5 (.t 8) (.t 10)),oI 13 (.ld (some 5) (.t 12)),oI 7 (.alloc [(.int .i64 0),(.int .i64 0),(.str []),(.str []),(.lst true [])]),oN (.st 5 (.t 7) (.t 13))] none [10,9,8,7,4,0]) (.seq (.region [oF 14 0 7,oL 15 14,oM 16 0,oI 17 (.bin .eql (.t 15) (.t 16))] none [17,10,9,8,7,4,0]) (.cond (.t 17) (.seq (.region [oI 18 (.ld (some 5) (.t 7)),oI 19 (.call 71 0 true [(.t 18)]),oN (.st 5 (.t 4) (.t 19)),oI 5 (.mov (.c (.bool true)))] none [5,4]) .ret) .skip)))) (.region [oI 20 (.bin .add (.t 10) (.c (.int .i64 1))),oM 10 20] none [10,9,8,4,0]))))
def ZpV:Zf:=Ziz
def ZqM:=xw ZpV Ziz rfl
def Zqc:Zf:=(.seq (.region [oI 4 (.alloc [(.int .i64 0),(.int .i64 0),(.str []),(.str []),(.lst true [])]),oI 5 (.mov (.c (.bool false)))] none [4,1,0]) (.seq (.seq (.region [oM 8 1,oI 9 (.len (.t 8)),oI 10 (.mov (.c (.int .i64 0)))] none [10,9,8,4,0]) (.block 0 (.loop [10,9,8,4,0] ZpV))) ZmP))
def ZkT:ZF:=⟨[(.cell 4 (some 5)),(.tmp 5)],Zqc⟩
theorem ZOX:FC 73=some ZkT:=by kernel_rfl
theorem ZDu:ZkT.body=Zqc:=rfl
theorem ZtJ:ZkT.res=[(.cell 4 (some 5)),(.tmp 5)]:=rfl
noncomputable def ZlJ (m:Nat) (tm:Tms) (σ:Za):Option (AVal×Za):=(Zau m ZkT (Zbw FC PR BY m ZmP (Wa (ZaR 0) (evL FC PR BY m [10,9,8,4,0] ZpV tm σ))))
def ZoI:Zf:=(.seq (.region [oI 2 (.mov (.c (.int .i64 0)))] none [0]) (.seq (.region [oM 3 0,oI 4 (.call 178 0 true [(.t 3)]),oI 5 (.field none 0 (.t 4)),oM 2 5] none [2]) .ret))
def Zqi:ZF:=⟨[(.tmp 2)],ZoI⟩
theorem ZES:FC 160=some Zqi:=by kernel_rfl
theorem ZMZ:Zqi.body=ZoI:=rfl
theorem ZIx:Zqi.res=[(.tmp 2)]:=rfl
def Zfk:Zf:=(.seq (.region [oM 26 6,oI 27 (.len (.t 26)),oI 28 (.call 34 0 true [(.t 27)]),oM 25 28,oI 29 (.ext (.t 25) 0),oI 30 (.ext (.t 25) 1),oM 9 29,oM 10 30] none [10,9,6,1,0]) (.seq (.seq (.region [oM 31 10,oI 32 (.bin .neq (.t 31) (.c (.int .i64 0)))] none [32,9,6,1,0]) (.cond (.t 32) (.seq (.region [oI 4 (.mov (.c (.lst true []))),oI 5 (.mov (.c (.int .i64 129)))] none [5,4]) .ret) .skip)) (.seq (.region [oM 33 9,oM 34 6,oI 35 (.bslice false 1 2 (.lst true []) [(0,(.t 33)),(1,(.t 34))]),oI 36 (.call 35 0 true [(.t 35)]),oM 6 36] none [6,1,0]) (.seq (.region [oM 38 0,oM 39 6,oI 40 (.call 140 0 true [(.t 38),(.t 39)]),oM 37 40,oI 41 (.ext (.t 37) 0),oI 42 (.ext (.t 37) 1),oI 43 (.ext (.t 37) 2),oM 11 41,oM 12 42,oM 13 43] none [13,12,11,6,1]) (.seq (.seq (.region [oM 44 13,oI 45 (.bin .neq (.t 44) (.c (.int .i64 0))),oM 46 45,⟨(some 47),(.mov (.t 12)),(some (46,false)),[]⟩,⟨(some 48),(.mov (.t 6)),(some (46,false)),[]⟩,⟨(some 49),(.len (.t 48)),(some (46,false)),[]⟩,⟨(some 50),(.bin .neq (.t 47) (.t 49)),(some (46,false)),[]⟩,oI 51 (.pick (.t 46) (.c (.bool true)) (.t 50)),oM 52 51,⟨(some 53),(.mov (.t 11)),(some (52,false)),[]⟩,⟨(some 54),(.mov (.t 1)),(some (52,false)),[]⟩,⟨(some 55),(.call 92 0 true [(.t 53),(.t 54)]),(some (52,false)),[]⟩,⟨(some 56),(.un .not (.t 55)),(some (52,false)),[]⟩,oI 57 (.pick (.t 52) (.c (.bool true)) (.t 56))] none [57,6]) (.cond (.t 57) (.seq (.region [oI 4 (.mov (.c (.lst true []))),oI 5 (.mov (.c (.int .i64 129)))] none [5,4]) .ret) .skip)) (.seq (.region [oM 58 6,oM 4 58,oI 5 (.mov (.c (.int .i64 0)))] none [5,4]) .ret))))))
def Znx:Zf:=Zfk
def ZgW:=xw Znx Zfk rfl
def Zeo:Zf:=(.seq (.region [oI 17 (.bin .lss (.t 16) (.t 15))] none [17,16,15,14,6,1,0]) (.seq (.cond (.t 17) .skip (.exit 0)) (.seq (.block 1 (.seq (.region [oI 18 (.iaddr 5 (.t 14) (.t 16)),oI 19 (.ld (some 5) (.t 18)),oI 8 (.alloc [(.int .i64 0),(.int .i64 0),(.str []),(.str []),(.lst true [])]),oN (.st 5 (.t 8) (.t 19))] none [16,15,14,8,6,1,0]) (.region [oM 20 6,oI 21 (.ld (some 5) (.t 8)),oI 22 (.call 139 0 true [(.t 21)]),oI 23 (.app 1 1 (.int .u8 0) (.t 20) (.t 22)),oM 6 23] none [16,15,14,6,1,0]))) (.region [oI 24 (.bin .add (.t 16) (.c (.int .i64 1))),oM 16 24] none [16,15,14,6,1,0]))))
def Zps:Zf:=Zeo
def Zfg:=xw Zps Zeo rfl
def ZkW:Zf:=(.seq (.region [oI 4 (.mov (.c (.lst true []))),oI 5 (.mov (.c (.int .i64 0)))] none [1,0]) (.seq (.region [oI 6 (.mov (.c (.lst true [])))] none [6,1,0]) (.seq (.seq (.region [oM 14 1,oI 15 (.len (.t 14)),oI 16 (.mov (.c (.int .i64 0)))] none [16,15,14,6,1,0]) (.block 0 (.loop [16,15,14,6,1,0] Zps))) Znx)))
def Zko:ZF:=⟨[(.tmp 4),(.tmp 5)],ZkW⟩
theorem Zuc:FC 105=some Zko:=by kernel_rfl
theorem Zry:Zko.body=ZkW:=rfl
theorem Zhm:Zko.res=[(.tmp 4),(.tmp 5)]:=rfl
noncomputable def Zit (m:Nat) (tm:Tms) (σ:Za):Option (AVal×Za):=(Zau m Zko (Zbw FC PR BY m Znx (Wa (ZaR 0) (evL FC PR BY m [16,15,14,6,1,0] Zps tm σ))))
def Zi1:Zf:=(.seq (.region [oI 4 (.mov (.c (.bool false)))] none [1,0]) (.seq (.region [oM 5 1,oI 6 (.bin .geq (.t 5) (.c (.int .i64 1))),oM 7 6,⟨(some 8),(.mov (.t 1)),(some (7,true)),[]⟩,⟨(some 9),(.bin .leq (.t 8) (.c (.int .i64 16))),(some (7,true)),[]⟩,oI 10 (.pick (.t 7) (.t 9) (.c (.bool false))),oM 11 10,⟨(some 12),(.mov (.t 0)),(some (11,true)),[]⟩,⟨(some 13),(.call 178 0 true [(.t 12)]),(some (11,true)),[]⟩,⟨(some 14),(.field none 1 (.t 13)),(some (11,true)),[]⟩,⟨(some 15),(.mov (.t 1)),(some (11,true)),[]⟩,⟨(some 16),(.bin .shr (.t 14) (.t 15)),(some (11,true)),[]⟩,⟨(some 17),(.bin .and (.t 16) (.c (.int .i64 1))),(some (11,true)),[]⟩,⟨(some 18),(.bin .eql (.t 17) (.c (.int .i64 1))),(some (11,true)),[]⟩,oI 19 (.pick (.t 11) (.t 18) (.c (.bool false))),oM 4 19] none [4]) .ret))
def ZpT:ZF:=⟨[(.tmp 4)],Zi1⟩
theorem ZLO:FC 179=some ZpT:=by kernel_rfl
theorem ZnU:ZpT.body=Zi1:=rfl
theorem ZmR:ZpT.res=[(.tmp 4)]:=rfl
def ZkY:Zf:=(.seq (.region [oM 57 4,oM 58 8,oM 59 7,oI 60 (.bin .add (.t 58) (.t 59)),oM 4 57,oM 5 60,oI 6 (.mov (.c (.int .i64 0)))] none [6,5,4]) .ret)
def Zoh:Zf:=ZkY
def ZvW:=xw Zoh ZkY rfl
def ZfE:Zf:=(.seq (.seq (.region [oM 36 10,oI 37 (.len (.t 36)),oI 38 (.bin .gtr (.t 37) (.c (.int .i64 0)))] none [38,10,8,7,4,0]) (.cond (.t 38) .skip (.exit 0))) (.block 1 (.seq (.region [oM 40 0,oM 41 10,oM 42 4,oI 43 (.call 162 0 true [(.t 40),(.t 41),(.t 42)]),oM 39 43,oI 44 (.ext (.t 39) 0),oI 45 (.ext (.t 39) 1),oI 46 (.ext (.t 39) 2),oI 11 (.alloc [(.int .i64 0),(.int .i64 0),(.str []),(.str []),(.lst true [])]),oN (.st 5 (.t 11) (.t 44)),oM 12 45,oM 13 46] none [13,12,11,10,8,7,4,0]) (.seq (.seq (.region [oM 47 13,oI 48 (.bin .neq (.t 47) (.c (.int .i64 0)))] none [48,13,12,11,10,8,7,4,0]) (.cond (.t 48) (.seq (.region [oM 49 13,oI 4 (.mov (.c (.lst true []))),oI 5 (.mov (.c (.int .i64 0))),oM 6 49] none [6,5,4]) .ret) .skip)) (.seq (.region [oM 50 4,oI 51 (.ld (some 5) (.t 11)),oI 52 (.bslice false 5 1 (.agg [(.int .i64 0),(.int .i64 0),(.str []),(.str []),(.lst true [])]) [(0,(.t 51))]),oI 53 (.app 5 72 (.agg [(.int .i64 0),(.int .i64 0),(.str []),(.str []),(.lst true [])]) (.t 50) (.t 52)),oM 4 53] none [12,10,8,7,4,0]) (.region [oM 54 10,oM 55 12,oI 56 (.slice 1 (.t 54) (some (.t 55)) none none),oM 10 56] none [10,8,7,4,0]))))))
def Zo1:Zf:=ZfE
def Zhg:=xw Zo1 ZfE rfl
def ZiA:Zf:=(.seq (.region [oI 4 (.mov (.c (.lst true []))),oI 5 (.mov (.c (.int .i64 0))),oI 6 (.mov (.c (.int .i64 0)))] none [4,1,0]) (.seq (.region [oM 15 1,oI 16 (.call 161 0 true [(.t 15)]),oM 14 16,oI 17 (.ext (.t 14) 0),oI 18 (.ext (.t 14) 1),oI 19 (.ext (.t 14) 2),oM 7 17,oM 8 18,oM 9 19] none [9,8,7,4,1,0]) (.seq (.seq (.region [oM 20 9,oI 21 (.bin .neq (.t 20) (.c (.int .i64 0))),oM 22 21,⟨(some 23),(.mov (.t 7)),(some (22,false)),[]⟩,⟨(some 24),(.mov (.t 1)),(some (22,false)),[]⟩,⟨(some 25),(.len (.t 24)),(some (22,false)),[]⟩,⟨(some 26),(.mov (.t 8)),(some (22,false)),[]⟩,⟨(some 27),(.bin .sub (.t 25) (.t 26)),(some (22,false)),[]⟩,⟨(some 28),(.bin .gtr (.t 23) (.t 27)),(some (22,false)),[]⟩,oI 29 (.pick (.t 22) (.c (.bool true)) (.t 28))] none [29,8,7,4,1,0]) (.cond (.t 29) (.seq (.region [oI 4 (.mov (.c (.lst true []))),oI 5 (.mov (.c (.int .i64 0))),oI 6 (.mov (.c (.int .i64 129)))] none [6,5,4]) .ret) .skip)) (.seq (.seq (.region [oM 30 1,oM 31 8,oM 32 8,oM 33 7,oI 34 (.bin .add (.t 32) (.t 33)),oI 35 (.slice 1 (.t 30) (some (.t 31)) (some (.t 34)) none),oM 10 35] none [10,8,7,4,0]) (.block 0 (.loop [10,8,7,4,0] Zo1))) Zoh))))
def ZjH:ZF:=⟨[(.tmp 4),(.tmp 5),(.tmp 6)],ZiA⟩
theorem Zp5:FC 140=some ZjH:=by kernel_rfl
theorem Zor:ZjH.body=ZiA:=rfl
theorem Zg6:ZjH.res=[(.tmp 4),(.tmp 5),(.tmp 6)]:=rfl
noncomputable def Zg5 (m:Nat) (tm:Tms) (σ:Za):Option (AVal×Za):=(Zau m ZjH (Zbw FC PR BY m Zoh (Wa (ZaR 0) (evL FC PR BY m [10,8,7,4,0] Zo1 tm σ))))
def ZmK:Zf:=(.seq (.region [oI 4 (.mov (.c (.bool false)))] none [1,0]) (.seq (.region [oM 5 0,oM 6 1,oI 7 (.call 122 0 true [(.t 5),(.t 6),(.c (.fn 123 []))]),oM 4 7] none [4]) .ret))
def ZmV:ZF:=⟨[(.tmp 4)],ZmK⟩
theorem ZCQ:FC 92=some ZmV:=by kernel_rfl
theorem ZFq:ZmV.body=ZmK:=rfl
theorem ZH1:ZmV.res=[(.tmp 4)]:=rfl
def ZpO:Zf:=(.seq (.region [oI 2 (.box (.t 0)),oI 3 (.box (.t 1)),oI 4 (.mov (.c (.bool false)))] none [3,2]) (.seq (.region [oF 5 0 2,oL 6 5,oF 7 0 3,oL 8 7,oI 9 (.bin .eql (.t 6) (.t 8)),oM 10 9,⟨(some 11),(.faddr 1 (.t 2)),(some (10,true)),[]⟩,⟨(some 12),(.ld none (.t 11)),(some (10,true)),[]⟩,⟨(some 13),(.faddr 1 (.t 3)),(some (10,true)),[]⟩,⟨(some 14),(.ld none (.t 13)),(some (10,true)),[]⟩,⟨(some 15),(.bin .eql (.t 12) (.t 14)),(some (10,true)),[]⟩,oI 16 (.pick (.t 10) (.t 15) (.c (.bool false))),oM 17 16,⟨(some 18),(.faddr 2 (.t 2)),(some (17,true)),[]⟩,⟨(some 19),(.ld none (.t 18)),(some (17,true)),[]⟩,⟨(some 20),(.faddr 2 (.t 3)),(some (17,true)),[]⟩,⟨(some 21),(.ld none (.t 20)),(some (17,true)),[]⟩,⟨(some 22),(.bin .eql (.t 19) (.t 21)),(some (17,true)),[]⟩,oI 23 (.pick (.t 17) (.t 22) (.c (.bool false))),oM 24 23,⟨(some 25),(.faddr 3 (.t 2)),(some (24,true)),[]⟩,⟨(some 26),(.ld none (.t 25)),(some (24,true)),[]⟩,⟨(some 27),(.faddr 3 (.t 3)),(some (24,true)),[]⟩,⟨(some 28),(.ld none (.t 27)),(some (24,true)),[]⟩,⟨(some 29),(.bin .eql (.t 26) (.t 28)),(some (24,true)),[]⟩,oI 30 (.pick (.t 24) (.t 29) (.c (.bool false))),oM 31 30,⟨(some 32),(.faddr 4 (.t 2)),(some (31,true)),[]⟩,⟨(some 33),(.ld none (.t 32)),(some (31,true)),[]⟩,⟨(some 34),(.b2s (.t 33)),(some (31,true)),[]⟩,⟨(some 35),(.faddr 4 (.t 3)),(some (31,true)),[]⟩,⟨(some 36),(.ld none (.t 35)),(some (31,true)),[]⟩,⟨(some 37),(.b2s (.t 36)),(some (31,true)),[]⟩,⟨(some 38),(.bin .eql (.t 34) (.t 37)),(some (31,true)),[]⟩,oI 39 (.pick (.t 31) (.t 38) (.c (.bool false))),oM 4 39] none [4]) .ret))
def Zoc:ZF:=⟨[(.tmp 4)],ZpO⟩
theorem ZOM:FC 123=some Zoc:=by kernel_rfl
theorem ZLz:Zoc.body=ZpO:=rfl
theorem Zx2:Zoc.res=[(.tmp 4)]:=rfl
def Znp:Zf:=(.seq (.region [oI 1 (.box (.t 0)),oI 2 (.alloc [(.int .i64 0),(.int .i64 0),(.str []),(.str []),(.lst true [])])] none [2,1]) (.seq (.region [oF 3 4 1,oL 4 3,oI 5 (.call 53 0 true [(.t 4)]),oF 6 4 1,oN (.st 1 (.t 6) (.t 5))] none [2,1]) (.seq (.region [oI 7 (.ld (some 5) (.t 1)),oN (.st 5 (.t 2) (.t 7))] none [2]) .ret)))
def Zpk:ZF:=⟨[(.cell 2 (some 5))],Znp⟩
theorem ZNp:FC 71=some Zpk:=by kernel_rfl
theorem ZGG:Zpk.body=Znp:=rfl
theorem Zwx:Zpk.res=[(.cell 2 (some 5))]:=rfl
def Zqz:Zf:=(.seq (.region [oI 1 (.box (.t 0)),oI 2 (.mov (.c (.bool false)))] none [1]) (.seq (.seq (.region [oF 3 0 1,oL 4 3] none [4,1]) (.block 0 (.seq (.seq (.region [oI 6 (.bin .eql (.t 4) (.c (.int .i64 11))),oM 5 6] none [5,4,1]) (.cond (.t 5) .skip (.seq (.region [oI 7 (.bin .eql (.t 4) (.c (.int .i64 33))),oM 5 7] none [5,4,1]) (.cond (.t 5) .skip (.seq (.region [oI 8 (.bin .eql (.t 4) (.c (.int .i64 35))),oM 5 8] none [5,4,1]) (.cond (.t 5) .skip (.region [oI 9 (.bin .eql (.t 4) (.c (.int .i64 39))),oM 5 9] none [5,1]))))))) (.cond (.t 5) (.seq (.region [oF 10 1 1,oL 11 10,oI 12 (.bin .neq (.t 11) (.c (.int .i64 0))),oM 2 12] none [2]) .ret) .skip)))) (.seq (.region [oF 13 0 1,oL 14 13,oI 15 (.call 160 0 true [(.t 14)]),oI 16 (.bin .neq (.t 15) (.c (.int .i64 1))),oM 17 16,⟨(some 18),(.faddr 1 (.t 1)),(some (17,false)),[]⟩,⟨(some 19),(.ld none (.t 18)),(some (17,false)),[]⟩,⟨(some 20),(.bin .leq (.t 19) (.c (.int .i64 1))),(some (17,false)),[]⟩,oI 21 (.pick (.t 17) (.c (.bool true)) (.t 20)),oM 2 21] none [2]) .ret)))
def ZpI:ZF:=⟨[(.tmp 2)],Zqz⟩
theorem Zxm:FC 182=some ZpI:=by kernel_rfl
theorem ZMT:ZpI.body=Zqz:=rfl
theorem ZMH:ZpI.res=[(.tmp 2)]:=rfl
def Zet:Zf:=(.seq (.region [oI 1 (.box (.t 0)),oI 2 (.mov (.c (.lst true [])))] none [1]) (.seq (.region [oF 8 0 1,oL 9 8,oI 10 (.call 34 0 true [(.t 9)]),oM 7 10,oI 11 (.ext (.t 7) 0),oI 12 (.ext (.t 7) 1),oM 3 11,oM 4 12] none [3,1]) (.seq (.region [oI 5 (.mov (.c (.lst true []))),oI 6 (.mov (.c (.lst true [])))] none [6,5,3,1]) (.seq (.seq (.region [oF 13 0 1,oL 14 13,oI 15 (.call 160 0 true [(.t 14)])] none [15,6,5,3,1]) (.block 0 (.seq (.seq (.region [oI 17 (.bin .eql (.t 15) (.c (.int .i64 1))),oM 16 17] none [16,15,6,5,3,1]) (.cond (.t 16) .skip (.seq (.region [oI 18 (.bin .eql (.t 15) (.c (.int .i64 2))),oM 16 18] none [16,15,6,5,3,1]) (.cond (.t 16) .skip (.region [oI 19 (.bin .eql (.t 15) (.c (.int .i64 3))),oM 16 19] none [16,15,6,5,3,1]))))) (.cond (.t 16) (.region [oF 20 1 1,oL 21 20,oI 22 (.i2i .u64 (.t 21)),oF 23 0 1,oL 24 23,oI 25 (.call 160 0 true [(.t 24)]),oI 26 (.bin .sub (.t 25) (.c (.int .i64 1))),oI 27 (.bin .shl (.c (.int .i64 1)) (.t 26)),oI 28 (.call 104 0 true [(.t 22),(.t 27)]),oM 5 28] (some [(1,4),(1,5),(5,5),(8,8)]) [6,5,3]) (.seq (.region [oI 30 (.bin .eql (.t 15) (.c (.int .i64 4))),oM 29 30] none [29,15,6,5,3,1]) (.cond (.t 29) (.region [oF 32 1 1,oL 33 32,oI 34 (.call 34 0 true [(.t 33)]),oM 31 34,oI 35 (.ext (.t 31) 0),oI 36 (.ext (.t 31) 1),oM 5 35] none [6,5,3]) (.seq (.region [oI 38 (.bin .eql (.t 15) (.c (.int .i64 5))),oM 37 38] none [37,15,6,5,3,1]) (.cond (.t 37) (.region [oF 40 2 1,oL 41 40,oI 42 (.call 106 0 true [(.t 41)]),oM 39 42,oI 43 (.ext (.t 39) 0),oI 44 (.ext (.t 39) 1),oM 5 43] none [6,5,3]) (.seq (.region [oI 46 (.bin .eql (.t 15) (.c (.int .i64 6))),oM 45 46] none [45,15,6,5,3,1]) (.cond (.t 45) (.region [oF 48 4 1,oL 49 48,oI 50 (.call 138 0 true [(.t 49)]),oM 47 50,oI 51 (.ext (.t 47) 0),oI 52 (.ext (.t 47) 1),oM 5 51] none [6,5,3]) (.seq (.region [oI 54 (.bin .eql (.t 15) (.c (.int .i64 7))),oM 53 54] none [53,6,5,3,1]) (.cond (.t 53) (.seq (.region [oF 56 2 1,oL 57 56,oI 58 (.call 106 0 true [(.t 57)]),oM 55 58,oI 59 (.ext (.t 55) 0),oI 60 (.ext (.t 55) 1),oM 5 59] none [5,3,1]) (.region [oF 62 3 1,oL 63 62,oI 64 (.call 106 0 true [(.t 63)]),oM 61 64,oI 65 (.ext (.t 61) 0),oI 66 (.ext (.t 61) 1),oM 6 65] none [6,5,3])) .skip)))))))))))) (.seq (.region [oM 67 3,oM 68 5,oM 69 6,oI 70 (.bslice false 1 3 (.lst true []) [(0,(.t 67)),(1,(.t 68)),(2,(.t 69))]),oI 71 (.call 35 0 true [(.t 70)]),oM 2 71] none [2]) .ret)))))
def ZnX:ZF:=⟨[(.tmp 2)],Zet⟩
theorem ZfS:FC 139=some ZnX:=by kernel_rfl
theorem ZfG:ZnX.body=Zet:=rfl
theorem Zfm:ZnX.res=[(.tmp 2)]:=rfl
def Znn:Zf:=(.seq (.region [oI 2 (.alloc [(.int .i64 0),(.int .i64 0)])] none [2,0]) (.seq (.seq (.region [oM 3 0] none [3,2]) (.block 0 (.seq (.region [oI 5 (.bin .eql (.t 3) (.c (.int .i64 1))),oM 4 5] none [4,3,2]) (.cond (.t 4) (.seq (.region [oI 6 (.bslice false 1 2 (.int .i64 0) [(0,(.c (.int .i64 3))),(1,(.c (.int .i64 16)))]),oI 7 (.call 187 0 true [(.t 6)]),oI 8 (.build [(.int .i64 0),(.int .i64 0)] [(0,1,(.c (.int .i64 1))),(1,1,(.t 7))]),oN (.st 2 (.t 2) (.t 8))] none [2]) .ret) (.seq (.region [oI 10 (.bin .eql (.t 3) (.c (.int .i64 2))),oM 9 10] none [9,3,2]) (.cond (.t 9) (.seq (.region [oI 11 (.bslice false 1 2 (.int .i64 0) [(0,(.c (.int .i64 3))),(1,(.c (.int .i64 16)))]),oI 12 (.call 187 0 true [(.t 11)]),oI 13 (.build [(.int .i64 0),(.int .i64 0)] [(0,1,(.c (.int .i64 3))),(1,1,(.t 12))]),oN (.st 2 (.t 2) (.t 13))] none [2]) .ret) (.seq (.seq (.region [oI 15 (.bin .eql (.t 3) (.c (.int .i64 3))),oM 14 15] none [14,3,2]) (.cond (.t 14) .skip (.region [oI 16 (.bin .eql (.t 3) (.c (.int .i64 8))),oM 14 16] none [14,3,2]))) (.cond (.t 14) (.seq (.region [oI 17 (.bslice false 1 2 (.int .i64 0) [(0,(.c (.int .i64 3))),(1,(.c (.int .i64 16)))]),oI 18 (.call 187 0 true [(.t 17)]),oI 19 (.build [(.int .i64 0),(.int .i64 0)] [(0,1,(.c (.int .i64 5))),(1,1,(.t 18))]),oN (.st 2 (.t 2) (.t 19))] none [2]) .ret) (.seq (.region [oI 21 (.bin .eql (.t 3) (.c (.int .i64 9))),oM 20 21] none [20,3,2]) (.cond (.t 20) (.seq (.region [oI 22 (.bslice false 1 2 (.int .i64 0) [(0,(.c (.int .i64 3))),(1,(.c (.int .i64 16)))]),oI 23 (.call 187 0 true [(.t 22)]),oI 24 (.build [(.int .i64 0),(.int .i64 0)] [(0,1,(.c (.int .i64 6))),(1,1,(.t 23))]),oN (.st 2 (.t 2) (.t 24))] none [2]) .ret) (.seq (.region [oI 26 (.bin .eql (.t 3) (.c (.int .i64 11))),oM 25 26] none [25,3,2]) (.cond (.t 25) (.seq (.region [oI 27 (.bslice false 1 2 (.int .i64 0) [(0,(.c (.int .i64 3))),(1,(.c (.int .i64 8)))]),oI 28 (.call 187 0 true [(.t 27)]),oI 29 (.build [(.int .i64 0),(.int .i64 0)] [(0,1,(.c (.int .i64 4))),(1,1,(.t 28))]),oN (.st 2 (.t 2) (.t 29))] none [2]) .ret) (.seq (.region [oI 31 (.bin .eql (.t 3) (.c (.int .i64 17))),oM 30 31] none [30,3,2]) (.cond (.t 30) (.seq (.region [oI 32 (.bslice false 1 3 (.int .i64 0) [(0,(.c (.int .i64 1))),(1,(.c (.int .i64 2))),(2,(.c (.int .i64 14)))]),oI 33 (.call 187 0 true [(.t 32)]),oI 34 (.build [(.int .i64 0),(.int .i64 0)] [(0,1,(.c (.int .i64 3))),(1,1,(.t 33))]),oN (.st 2 (.t 2) (.t 34))] none [2]) .ret) (.seq (.seq (.region [oI 36 (.bin .eql (.t 3) (.c (.int .i64 18))),oM 35 36] none [35,3,2]) (.cond (.t 35) .skip (.region [oI 37 (.bin .eql (.t 3) (.c (.int .i64 26))),oM 35 37] none [35,3,2]))) (.cond (.t 35) (.seq (.region [oI 38 (.bslice false 1 1 (.int .i64 0) [(0,(.c (.int .i64 2)))]),oI 39 (.call 187 0 true [(.t 38)]),oI 40 (.build [(.int .i64 0),(.int .i64 0)] [(0,1,(.c (.int .i64 5))),(1,1,(.t 39))]),oN (.st 2 (.t 2) (.t 40))] none [2]) .ret) (.seq (.region [oI 42 (.bin .eql (.t 3) (.c (.int .i64 19))),oM 41 42] none [41,3,2]) (.cond (.t 41) (.seq (.region [oI 43 (.bslice false 1 1 (.int .i64 0) [(0,(.c (.int .i64 2)))]),oI 44 (.call 187 0 true [(.t 43)]),oI 45 (.build [(.int .i64 0),(.int .i64 0)] [(0,1,(.c (.int .i64 2))),(1,1,(.t 44))]),oN (.st 2 (.t 2) (.t 45))] none [2]) .ret) (.seq (.region [oI 47 (.bin .eql (.t 3) (.c (.int .i64 21))),oM 46 47] none [46,3,2]) (.cond (.t 46) (.seq (.region [oI 48 (.bslice false 1 3 (.int .i64 0) [(0,(.c (.int .i64 1))),(1,(.c (.int .i64 2))),(2,(.c (.int .i64 15)))]),oI 49 (.call 187 0 true [(.t 48)]),oI 50 (.build [(.int .i64 0),(.int .i64 0)] [(0,1,(.c (.int .i64 5))),(1,1,(.t 49))]),oN (.st 2 (.t 2) (.t 50))] none [2]) .ret) (.seq (.region [oI 52 (.bin .eql (.t 3) (.c (.int .i64 22))),oM 51 52] none [51,3,2]) (.cond (.t 51) (.seq (.region [oI 53 (.bslice false 1 3 (.int .i64 0) [(0,(.c (.int .i64 1))),(1,(.c (.int .i64 2))),(2,(.c (.int .i64 15)))]),oI 54 (.call 187 0 true [(.t 53)]),oI 55 (.build [(.int .i64 0),(.int .i64 0)] [(0,1,(.c (.int .i64 6))),(1,1,(.t 54))]),oN (.st 2 (.t 2) (.t 55))] none [2]) .ret) (.seq (.seq (.region [oI 57 (.bin .eql (.t 3) (.c (.int .i64 23))),oM 56 57] none [56,3,2]) (.cond (.t 56) .skip (.region [oI 58 (.bin .eql (.t 3) (.c (.int .i64 25))),oM 56 58] none [56,3,2]))) (.cond (.t 56) (.seq (.region [oI 59 (.bslice false 1 1 (.int .i64 0) [(0,(.c (.int .i64 1)))]),oI 60 (.call 187 0 true [(.t 59)]),oI 61 (.build [(.int .i64 0),(.int .i64 0)] [(0,1,(.c (.int .i64 1))),(1,1,(.t 60))]),oN (.st 2 (.t 2) (.t 61))] none [2]) .ret) (.seq (.region [oI 63 (.bin .eql (.t 3) (.c (.int .i64 24))),oM 62 63] none [62,3,2]) (.cond (.t 62) (.seq (.region [oI 64 (.bslice false 1 1 (.int .i64 0) [(0,(.c (.int .i64 16)))]),oI 65 (.call 187 0 true [(.t 64)]),oI 66 (.build [(.int .i64 0),(.int .i64 0)] [(0,1,(.c (.int .i64 3))),(1,1,(.t 65))]),oN (.st 2 (.t 2) (.t 66))] none [2]) .ret) (.seq (.region [oI 68 (.bin .eql (.t 3) (.c (.int .i64 28))),oM 67 68] none [67,3,2]) (.cond (.t 67) (.seq (.region [oI 69 (.bslice false 1 2 (.int .i64 0) [(0,(.c (.int .i64 2))),(1,(.c (.int .i64 14)))]),oI 70 (.call 187 0 true [(.t 69)]),oI 71 (.build [(.int .i64 0),(.int .i64 0)] [(0,1,(.c (.int .i64 5))),(1,1,(.t 70))]),oN (.st 2 (.t 2) (.t 71))] none [2]) .ret) (.seq (.region [oI 73 (.bin .eql (.t 3) (.c (.int .i64 31))),oM 72 73] none [72,3,2]) (.cond (.t 72) (.seq (.region [oI 74 (.bslice false 1 9 (.int .i64 0) [(0,(.c (.int .i64 2))),(1,(.c (.int .i64 4))),(2,(.c (.int .i64 5))),(3,(.c (.int .i64 6))),(4,(.c (.int .i64 7))),(5,(.c (.int .i64 9))),(6,(.c (.int .i64 11))),(7,(.c (.int .i64 14))),(8,(.c (.int .i64 15)))]),oI 75 (.call 187 0 true [(.t 74)]),oI 76 (.build [(.int .i64 0),(.int .i64 0)] [(0,1,(.c (.int .i64 5))),(1,1,(.t 75))]),oN (.st 2 (.t 2) (.t 76))] none [2]) .ret) (.seq (.seq (.region [oI 78 (.bin .eql (.t 3) (.c (.int .i64 33))),oM 77 78] none [77,3,2]) (.cond (.t 77) .skip (.region [oI 79 (.bin .eql (.t 3) (.c (.int .i64 34))),oM 77 79] none [77,3,2]))) (.cond (.t 77) (.seq (.region [oI 80 (.bslice false 1 2 (.int .i64 0) [(0,(.c (.int .i64 1))),(1,(.c (.int .i64 2)))]),oI 81 (.call 187 0 true [(.t 80)]),oI 82 (.build [(.int .i64 0),(.int .i64 0)] [(0,1,(.c (.int .i64 2))),(1,1,(.t 81))]),oN (.st 2 (.t 2) (.t 82))] none [2]) .ret) (.seq (.region [oI 84 (.bin .eql (.t 3) (.c (.int .i64 35))),oM 83 84] none [83,3,2]) (.cond (.t 83) (.seq (.region [oI 85 (.bslice false 1 1 (.int .i64 0) [(0,(.c (.int .i64 3)))]),oI 86 (.call 187 0 true [(.t 85)]),oI 87 (.build [(.int .i64 0),(.int .i64 0)] [(0,1,(.c (.int .i64 2))),(1,1,(.t 86))]),oN (.st 2 (.t 2) (.t 87))] none [2]) .ret) (.seq (.region [oI 89 (.bin .eql (.t 3) (.c (.int .i64 39))),oM 88 89] none [88,3,2]) (.cond (.t 88) (.seq (.region [oI 90 (.bslice false 1 2 (.int .i64 0) [(0,(.c (.int .i64 1))),(1,(.c (.int .i64 2)))]),oI 91 (.call 187 0 true [(.t 90)]),oI 92 (.build [(.int .i64 0),(.int .i64 0)] [(0,1,(.c (.int .i64 3))),(1,1,(.t 91))]),oN (.st 2 (.t 2) (.t 92))] none [2]) .ret) (.seq (.seq (.region [oI 94 (.bin .eql (.t 3) (.c (.int .i64 36))),oM 93 94] none [93,3,2]) (.cond (.t 93) .skip (.seq (.region [oI 95 (.bin .eql (.t 3) (.c (.int .i64 37))),oM 93 95] none [93,3,2]) (.cond (.t 93) .skip (.seq (.region [oI 96 (.bin .eql (.t 3) (.c (.int .i64 40))),oM 93 96] none [93,3,2]) (.cond (.t 93) .skip (.seq (.region [oI 97 (.bin .eql (.t 3) (.c (.int .i64 41))),oM 93 97] none [93,3,2]) (.cond (.t 93) .skip (.region [oI 98 (.bin .eql (.t 3) (.c (.int .i64 42))),oM 93 98] none [93,3,2]))))))))) (.cond (.t 93) (.seq (.region [oI 99 (.bslice false 1 1 (.int .i64 0) [(0,(.c (.int .i64 2)))]),oI 100 (.call 187 0 true [(.t 99)]),oI 101 (.build [(.int .i64 0),(.int .i64 0)] [(0,1,(.c (.int .i64 1))),(1,1,(.t 100))]),oN (.st 2 (.t 2) (.t 101))] none [2]) .ret) (.seq (.region [oI 103 (.bin .eql (.t 3) (.c (.int .i64 38))),oM 102 103] none [102,2]) (.cond (.t 102) (.seq (.region [oI 104 (.bslice false 1 3 (.int .i64 0) [(0,(.c (.int .i64 0))),(1,(.c (.int .i64 12))),(2,(.c (.int .i64 13)))]),oI 105 (.call 187 0 true [(.t 104)]),oI 106 (.un .xor (.t 105)),oI 107 (.build [(.int .i64 0),(.int .i64 0)] [(0,1,(.c (.int .i64 7))),(1,1,(.t 106))]),oN (.st 2 (.t 2) (.t 107))] none [2]) .ret) .skip)))))))))))))))))))))))))))))))))))))))) (.seq (.region [oI 108 (.build [(.int .i64 0),(.int .i64 0)] []),oN (.st 2 (.t 2) (.t 108))] none [2]) .ret)))
def Zpc:ZF:=⟨[(.cell 2 (some 2))],Znn⟩
theorem ZD7:FC 178=some Zpc:=by kernel_rfl
theorem ZzZ:Zpc.body=Znn:=rfl
theorem ZHs:Zpc.res=[(.cell 2 (some 2))]:=rfl
def ZoU:Zf:=(.seq (.region [oI 4 (.mov (.c (.bool false)))] none [1,0]) (.seq (.region [oM 5 0,oI 6 (.bin .eql (.t 5) (.c (.int .i64 38))),oM 7 6,⟨(some 8),(.mov (.t 0)),(some (7,false)),[]⟩,⟨(some 9),(.bin .eql (.t 8) (.c (.int .i64 11))),(some (7,false)),[]⟩,⟨(some 10),(.mov (.t 9)),(some (7,false)),[]⟩,⟨(some 11),(.mov (.t 1)),(some (10,true)),[]⟩,⟨(some 12),(.bin .eql (.t 11) (.c (.int .i64 3))),(some (10,true)),[]⟩,⟨(some 13),(.pick (.t 10) (.t 12) (.c (.bool false))),(some (7,false)),[]⟩,oI 14 (.pick (.t 7) (.c (.bool true)) (.t 13)),oM 4 14] none [4]) .ret))
def Zop:ZF:=⟨[(.tmp 4)],ZoU⟩
theorem Zx8:FC 181=some Zop:=by kernel_rfl
theorem ZKn:Zop.body=ZoU:=rfl
theorem ZyZ:Zop.res=[(.tmp 4)]:=rfl
def Zes:Zf:=(.seq (.region [oI 6 (.alloc [(.int .i64 0),(.int .i64 0),(.str []),(.str []),(.lst true [])]),oI 7 (.mov (.c (.int .i64 0))),oI 8 (.mov (.c (.int .i64 0)))] none [6,2,1,0]) (.seq (.region [oM 16 1,oI 17 (.call 161 0 true [(.t 16)]),oM 15 17,oI 18 (.ext (.t 15) 0),oI 19 (.ext (.t 15) 1),oI 20 (.ext (.t 15) 2),oM 9 18,oM 10 19,oM 11 20] none [11,10,9,6,2,1,0]) (.seq (.seq (.region [oM 21 11,oI 22 (.bin .neq (.t 21) (.c (.int .i64 0))),oM 23 22,⟨(some 24),(.mov (.t 9)),(some (23,false)),[]⟩,⟨(some 25),(.mov (.t 0)),(some (23,false)),[]⟩,⟨(some 26),(.call 179 0 true [(.t 24),(.t 25)]),(some (23,false)),[]⟩,⟨(some 27),(.un .not (.t 26)),(some (23,false)),[]⟩,oI 28 (.pick (.t 23) (.c (.bool true)) (.t 27))] none [28,10,9,6,2,1,0]) (.cond (.t 28) (.seq (.region [oI 29 (.ld (some 5) (.t 6)),oN (.st 5 (.t 6) (.t 29)),oI 7 (.mov (.c (.int .i64 0))),oI 8 (.mov (.c (.int .i64 129)))] none [8,7,6]) .ret) .skip)) (.seq (.region [oM 31 9,oM 32 1,oM 33 10,oI 34 (.slice 1 (.t 32) (some (.t 33)) none none),oI 35 (.call 180 0 true [(.t 31),(.t 34)]),oM 30 35,oI 36 (.ext (.t 30) 0),oI 37 (.ext (.t 30) 1),oI 38 (.ext (.t 30) 2),oN (.st 5 (.t 6) (.t 36)),oM 7 37,oM 12 38] none [12,10,9,7,6,2,0]) (.seq (.region [oM 40 9,oM 41 2,oI 42 (.call 73 0 true [(.t 40),(.t 41)]),oM 39 42,oI 43 (.ext (.t 39) 0),oI 44 (.ext (.t 39) 1),oI 13 (.alloc [(.int .i64 0),(.int .i64 0),(.str []),(.str []),(.lst true [])]),oN (.st 5 (.t 13) (.t 43)),oM 14 44] none [14,12,10,9,7,6,0]) (.seq (.block 0 (.seq (.region [oM 46 12,oI 47 (.un .not (.t 46)),oM 45 47] none [45,14,10,9,7,6,0]) (.cond (.t 45) (.seq (.region [oI 48 (.ld (some 5) (.t 6)),oN (.st 5 (.t 6) (.t 48)),oI 7 (.mov (.c (.int .i64 0))),oI 8 (.mov (.c (.int .i64 129)))] none [8,7,6]) .ret) (.seq (.region [oM 50 14,oM 51 50,⟨(some 52),(.mov (.t 9)),(some (51,true)),[]⟩,⟨(some 53),(.mov (.t 0)),(some (51,true)),[]⟩,⟨(some 54),(.call 181 0 true [(.t 52),(.t 53)]),(some (51,true)),[]⟩,⟨(some 55),(.un .not (.t 54)),(some (51,true)),[]⟩,oI 56 (.pick (.t 51) (.t 55) (.c (.bool false))),oM 49 56] none [49,10,9,7,6]) (.cond (.t 49) (.seq (.region [oI 57 (.ld (some 5) (.t 6)),oN (.st 5 (.t 6) (.t 57)),oI 7 (.mov (.c (.int .i64 0))),oI 8 (.mov (.c (.int .i64 130)))] none [8,7,6]) .ret) (.seq (.region [oI 59 (.ld (some 5) (.t 6)),oI 60 (.call 182 0 true [(.t 59)]),oM 58 60] none [58,10,9,7,6]) (.cond (.t 58) (.seq (.region [oI 61 (.ld (some 5) (.t 6)),oM 62 10,oM 63 7,oI 64 (.bin .add (.t 62) (.t 63)),oN (.st 5 (.t 6) (.t 61)),oM 7 64,oI 8 (.mov (.c (.int .i64 0)))] none [8,7,6]) .ret) (.seq (.region [oM 66 9,oI 67 (.bin .eql (.t 66) (.c (.int .i64 35))),oM 65 67] none [65,6]) (.cond (.t 65) (.seq (.region [oI 68 (.ld (some 5) (.t 6)),oN (.st 5 (.t 6) (.t 68)),oI 7 (.mov (.c (.int .i64 0))),oI 8 (.mov (.c (.int .i64 148)))] none [8,7,6]) .ret) .skip))))))))) (.seq (.region [oI 69 (.ld (some 5) (.t 6)),oN (.st 5 (.t 6) (.t 69)),oI 7 (.mov (.c (.int .i64 0))),oI 8 (.mov (.c (.int .i64 130)))] none [8,7,6]) .ret)))))))
def Zm8:ZF:=⟨[(.cell 6 (some 5)),(.tmp 7),(.tmp 8)],Zes⟩
theorem Zf3:FC 162=some Zm8:=by kernel_rfl
theorem ZfQ:Zm8.body=Zes:=rfl
theorem ZfM:Zm8.res=[(.cell 6 (some 5)),(.tmp 7),(.tmp 8)]:=rfl
def ZcZ:Zf:=(.seq (.region [oI 4 (.alloc [(.int .i64 0),(.int .i64 0),(.str []),(.str []),(.lst true [])]),oI 5 (.mov (.c (.int .i64 0))),oI 6 (.mov (.c (.bool false)))] none [5,4,1,0]) (.seq (.region [oM 9 0,oF 10 0 4,oN (.st 1 (.t 10) (.t 9))] none [5,4,1,0]) (.seq (.region [oI 7 (.mov (.c (.int .i64 0)))] none [7,5,4,1,0]) (.seq (.seq (.region [oM 11 0,oI 12 (.call 160 0 true [(.t 11)])] none [12,7,5,4,1,0]) (.block 0 (.seq (.seq (.region [oI 14 (.bin .eql (.t 12) (.c (.int .i64 1))),oM 13 14] none [13,12,7,5,4,1,0]) (.cond (.t 13) .skip (.seq (.region [oI 15 (.bin .eql (.t 12) (.c (.int .i64 2))),oM 13 15] none [13,12,7,5,4,1,0]) (.cond (.t 13) .skip (.region [oI 16 (.bin .eql (.t 12) (.c (.int .i64 3))),oM 13 16] none [13,12,7,5,4,1,0]))))) (.cond (.t 13) (.seq (.region [oM 17 0,oI 18 (.call 160 0 true [(.t 17)]),oI 19 (.bin .sub (.t 18) (.c (.int .i64 1))),oI 20 (.bin .shl (.c (.int .i64 1)) (.t 19)),oM 5 20] none [7,5,4,1]) (.seq (.seq (.region [oM 21 1,oI 22 (.len (.t 21)),oM 23 5,oI 24 (.bin .lss (.t 22) (.t 23))] none [24,7,5,4,1]) (.cond (.t 24) (.seq (.region [oI 25 (.ld (some 5) (.t 4)),oN (.st 5 (.t 4) (.t 25)),oI 5 (.mov (.c (.int .i64 0))),oI 6 (.mov (.c (.bool false)))] none [6,5,4]) .ret) .skip)) (.region [oM 26 1,oM 27 5,oI 28 (.slice 1 (.t 26) none (some (.t 27)) none),oI 29 (.call 145 0 true [(.t 28)]),oI 30 (.i2i .i64 (.t 29)),oF 31 1 4,oN (.st 1 (.t 31) (.t 30))] none [7,5,4]))) (.seq (.region [oI 33 (.bin .eql (.t 12) (.c (.int .i64 4))),oM 32 33] none [32,12,7,5,4,1]) (.cond (.t 32) (.region [oM 35 1,oI 36 (.call 161 0 true [(.t 35)]),oM 34 36,oI 37 (.ext (.t 34) 0),oI 38 (.ext (.t 34) 1),oI 39 (.ext (.t 34) 2),oF 40 1 4,oN (.st 1 (.t 40) (.t 37)),oM 5 38,oM 7 39] none [7,5,4]) (.seq (.region [oI 42 (.bin .eql (.t 12) (.c (.int .i64 5))),oM 41 42] none [41,12,7,5,4,1]) (.cond (.t 41) (.region [oM 44 1,oI 45 (.call 147 0 true [(.t 44)]),oM 43 45,oI 46 (.ext (.t 43) 0),oI 47 (.ext (.t 43) 1),oI 48 (.ext (.t 43) 2),oF 49 2 4,oN (.st 1 (.t 49) (.t 46)),oM 5 47,oM 7 48] none [7,5,4]) (.seq (.region [oI 51 (.bin .eql (.t 12) (.c (.int .i64 6))),oM 50 51] none [50,12,7,5,4,1]) (.cond (.t 50) (.region [oM 53 1,oI 54 (.call 164 0 true [(.t 53)]),oM 52 54,oI 55 (.ext (.t 52) 0),oI 56 (.ext (.t 52) 1),oI 57 (.ext (.t 52) 2),oF 58 4 4,oN (.st 1 (.t 58) (.t 55)),oM 5 56,oM 7 57] none [7,5,4]) (.seq (.region [oI 60 (.bin .eql (.t 12) (.c (.int .i64 7))),oM 59 60] none [59,7,5,4,1]) (.cond (.t 59) (.seq (.region [oM 62 1,oI 63 (.call 147 0 true [(.t 62)]),oM 61 63,oI 64 (.ext (.t 61) 0),oI 65 (.ext (.t 61) 1),oI 66 (.ext (.t 61) 2),oF 67 2 4,oN (.st 1 (.t 67) (.t 64)),oM 5 65,oM 7 66] none [7,5,4,1]) (.seq (.region [oM 68 7,oI 69 (.bin .eql (.t 68) (.c (.int .i64 0)))] none [69,7,5,4,1]) (.cond (.t 69) (.seq (.region [oI 8 (.mov (.c (.int .i64 0)))] none [5,4,1]) (.seq (.region [oM 71 1,oM 72 5,oI 73 (.slice 1 (.t 71) (some (.t 72)) none none),oI 74 (.call 147 0 true [(.t 73)]),oM 70 74,oI 75 (.ext (.t 70) 0),oI 76 (.ext (.t 70) 1),oI 77 (.ext (.t 70) 2),oF 78 3 4,oN (.st 1 (.t 78) (.t 75)),oM 8 76,oM 7 77] none [8,7,5,4]) (.region [oM 79 5,oM 80 8,oI 81 (.bin .add (.t 79) (.t 80)),oM 5 81] none [7,5,4]))) .skip))) .skip)))))))))))) (.seq (.region [oI 82 (.ld (some 5) (.t 4)),oM 83 5,oM 84 7,oI 85 (.bin .eql (.t 84) (.c (.int .i64 0))),oN (.st 5 (.t 4) (.t 82)),oM 5 83,oM 6 85] none [6,5,4]) .ret)))))
def ZqV:ZF:=⟨[(.cell 4 (some 5)),(.tmp 5),(.tmp 6)],ZcZ⟩
theorem ZdN:FC 180=some ZqV:=by kernel_rfl
theorem Zdz:ZqV.body=ZcZ:=rfl
theorem ZdB:ZqV.res=[(.cell 4 (some 5)),(.tmp 5),(.tmp 6)]:=rfl
end
section
end
section
def Zut:List (Int×Int×Int):=[(1,1,65544),(2,3,65544),(3,5,65544),(8,5,65544),(9,6,65544),(11,4,264),(17,3,16390),(18,5,4),(26,5,4),(19,2,4),(21,5,32774),(22,6,32774),(23,1,2),(25,1,2),(24,3,65536),(28,5,16388),(31,5,51956),(33,2,6),(34,2,6),(35,2,8),(39,3,6),(36,1,4),(37,1,4),(40,1,4),(41,1,4),(42,1,4),(38,7,-12290)]
def ofF (id:Int):Int×Int:=(Zut.lookup id).getD (0,0)
def ZbZ (id:Int):Int:=(ofF id).1
def ZfN (id:Int):Prop:=id=1\/id=2\/id=3\/id=8\/id=9\/id=11\/id=17\/id=18\/id=26\/id=19\/id=21\/id=22\/id=23\/id=25\/id=24\/id=28\/id=31\/id=33\/id=34\/id=35\/id=39\/id=36\/id=37\/id=40\/id=41\/id=42\/id=38
instance (id:Int):Decidable (ZfN id):=by unfold ZfN;infer_instance
theorem Zr6 {id:Int} (h:¬ZfN id):(id == 1)=false/\(id == 2)=false/\(id == 3)=false/\(id == 8)=false/\(id == 9)=false/\(id == 11)=false/\(id == 17)=false/\(id == 18)=false/\(id == 26)=false/\(id == 19)=false/\(id == 21)=false/\(id == 22)=false/\(id == 23)=false/\(id == 25)=false/\(id == 24)=false/\(id == 28)=false/\(id == 31)=false/\(id == 33)=false/\(id == 34)=false/\(id == 35)=false/\(id == 39)=false/\(id == 36)=false/\(id == 37)=false/\(id == 40)=false/\(id == 41)=false/\(id == 42)=false/\(id == 38)=false:=by
 unfold ZfN at h
 simp only [not_or] at h
 simp only [beq_eq_false_iff_ne,ne_eq]
 exact h
theorem ZtZ {id:Int} (h:¬ZfN id):ofF id=(0,0):=by
 obtain ⟨h1,h2,h3,h8,h9,h11,h17,h18,h26,h19,h21,h22,h23,h25,h24,h28,h31,h33,h34,h35,h39,h36,h37,h40,h41,h42,h38⟩:=Zr6 h
 simp only [ofF,Zut,List.lookup,h1,h2,h3,h8,h9,h11,h17,h18,h26,h19,h21,h22,h23,h25,h24,h28,h31,h33,h34,h35,h39,h36,h37,h40,h41,h42,h38,Option.getD_none]
theorem ZHt (id:Int):E 178 [.int .i64 id] []=some (.agg [.int .i64 (ofF id).1,.int .i64 (ofF id).2],[]):=by
 by_cases h:ZfN id
 ·rcases h with rfl | rfl | rfl | rfl | rfl | rfl | rfl | rfl | rfl | rfl | rfl | rfl | rfl | rfl | rfl | rfl | rfl | rfl | rfl | rfl | rfl | rfl | rfl | rfl | rfl | rfl | rfl
  all_goals exact Zco.2 ⟨20,by kernel_rfl⟩
 ·rw [ZtZ h]
  obtain ⟨h1,h2,h3,h8,h9,h11,h17,h18,h26,h19,h21,h22,h23,h25,h24,h28,h31,h33,h34,h35,h39,h36,h37,h40,h41,h42,h38⟩:=Zr6 h
  rw [Zh (by rfl) ZD7]
  simp -implicitDefEqProofs only [EQA,Zs,Xe,Xc,Xf,Xb,Xg,reduceCtorEq,↓reduceIte,Zd,ZzZ,Znn,ZHs,h1,h2,h3,h8,h9,h11,h17,h18,h26,h19,h21,h22,h23,h25,h24,h28,h31,h33,h34,h35,h39,h36,h37,h40,h41,h42,h38,Zam,AVal.cells]
theorem Ztu (σ:Za) (sq own:Nat) (id:Int):Zi E BY σ sq 178 own true [.int .i64 id]=some (.agg [.int .i64 (ofF id).1,.int .i64 (ofF id).2],σ,{}) :=
 ZbJ (ZHt id) (by kernel_rfl) rfl rfl rfl (fun _=>rfl) _ _ _
theorem ZB8 (id:Int):E 160 [.int .i64 id] []=some (.int .i64 (ZbZ id),[]):=by
 have hC:=fun σ sq own=>Ztu σ sq own id
 unfold ZbZ
 rw [Zh (by rfl) ZES]
 simp -implicitDefEqProofs only [EQA,Xc,Xb,reduceCtorEq,↓reduceIte,ZMZ,ZoI,ZIx,hC]
theorem ZiR (σ:Za) (sq own:Nat) (id:Int):Zi E BY σ sq 160 own true [.int .i64 id]=some (.int .i64 (ZbZ id),σ,{}) :=
 ZbJ (ZB8 id) (by kernel_rfl) rfl rfl rfl (fun _=>rfl) _ _ _
def ZtK (pl w:Int):Int:=IntKind.i64.wrap (((XB IntKind.i64.bits (pl.fdiv (2 ^ min w.toNat IntKind.i64.bits)) &&& XB IntKind.i64.bits 1).toNat:Nat):Int)
def ZgK (id w:Int):Bool:=decide (w>=1) && decide (w<=16) && ZtK (ofF id).2 w == 1
theorem ZNW (id w:Int):E 179 [.int .i64 id,.int .i64 w] []=some (.bool (ZgK id w),[]):=by
 have hC:=fun σ sq own=>Ztu σ sq own id
 unfold ZgK ZtK
 generalize (ofF id).2=pl at *
 rw [Zh (by rfl) ZLO]
 by_cases h1:w>=1
 ·have h2:¬w < 0:=by omega
  by_cases h3:w<=16
  ·simp -implicitDefEqProofs only [EQA,Xc,Xb,ZaB,ZE,unG,reduceCtorEq,↓reduceIte,ZnU,Zi1,ZmR,hC,h1,h2,h3]
  ·simp -implicitDefEqProofs only [EQA,Xc,Xb,ZE,Zaz,unG,reduceCtorEq,↓reduceIte,ZnU,Zi1,ZmR,h1,h3]
 ·simp -implicitDefEqProofs only [EQA,Xc,Xb,ZE,Zaz,reduceCtorEq,↓reduceIte,ZnU,Zi1,ZmR,h1]
theorem ZxX (σ:Za) (sq own:Nat) (id w:Int):Zi E BY σ sq 179 own true [.int .i64 id,.int .i64 w]=some (.bool (ZgK id w),σ,{}) :=
 ZbJ (ZNW id w) (by kernel_rfl) rfl rfl rfl (fun _=>rfl) _ _ _
end
section
theorem ZvQ (id:Int):ZbZ id=0\/ZbZ id=1\/ZbZ id=2\/ZbZ id=3\/ZbZ id=4\/ZbZ id=5\/ZbZ id=6\/ZbZ id=7:=by
 unfold ZbZ
 by_cases h:ZfN id
 ·unfold ZfN at h
  rcases h with rfl | rfl | rfl | rfl | rfl | rfl | rfl | rfl | rfl | rfl | rfl | rfl | rfl | rfl | rfl | rfl | rfl | rfl | rfl | rfl | rfl | rfl | rfl | rfl | rfl | rfl | rfl
  all_goals decide
 ·rw [ZtZ h];simp
theorem ZHn (b:Zb) (h:b.length<=4):ZcK b < 4294967296:=by
 unfold ZcK
 match b,h with
 | [],_=>simp [ZeU]
 | [a],_=>rw [Zc7,ZeU];have:=a.toNat_lt;omega
 | [a,c],_=>rw [Zc7,Zc7,ZeU];have:=a.toNat_lt;have:=c.toNat_lt;omega
 | [a,c,d],_=>rw [Zc7,Zc7,Zc7,ZeU];have:=a.toNat_lt;have:=c.toNat_lt;have:=d.toNat_lt;omega
 | [a,c,d,e],_=>rw [Zc7,Zc7,Zc7,Zc7,ZeU];have:=a.toNat_lt;have:=c.toNat_lt;have:=d.toNat_lt;have:=e.toNat_lt;omega
def ZfI (id:Int) (W:Nat) (b:Zb):Zv×Nat×Bool:=if b.length < W then (⟨id,0,[],[],[]⟩,0,false) else (⟨id,ZcK (b.take W),[],[],[]⟩,W,true)
def ZgZ (id:Int) (b:Zb):Zv×Nat×Bool :=
 if (Zaf b).2.2=0 then (⟨id,0,(Zaf b).1,(Zaf (b.drop (Zaf b).2.1)).1,[]⟩,(Zaf b).2.1+(Zaf (b.drop (Zaf b).2.1)).2.1,(Zaf (b.drop (Zaf b).2.1)).2.2 == 0) else (⟨id,0,[],[],[]⟩,0,false)
def ZeZ (k id:Int) (b:Zb):Zv×Nat×Bool :=
 if k=1 then ZfI id 1 b else if k=2 then ZfI id 2 b else if k=3 then ZfI id 4 b
 else if k=4 then (⟨id,(Zag b).1,[],[],[]⟩,(Zag b).2.1,(Zag b).2.2 == 0)
 else if k=5 then (⟨id,0,(Zaf b).1,[],[]⟩,(Zaf b).2.1,(Zaf b).2.2 == 0)
 else if k=6 then (⟨id,0,[],[],(ZaJ b).1⟩,(ZaJ b).2.1,(ZaJ b).2.2 == 0)
 else if k=7 then ZgZ id b else (⟨id,0,[],[],[]⟩,0,true)
def ZcS (id:Int) (b:Zb):Zv×Nat×Bool:=ZeZ (ZbZ id) id b
def Zcv (f:Bool) (x:Zv×Nat×Bool):AVal:=.tup [.agg [.int .i64 x.1.id,.int .i64 x.1.num,.str x.1.text,.str x.1.pair,.lst f (x.1.data.map Zc)],.int .i64 (x.2.1:Nat),.bool x.2.2]
theorem ZkG (b:Zb):(ZaJ b).2.1<=b.length/\(ZaJ b).1.length<=b.length:=by
 unfold ZaJ
 by_cases h:b.length < 2\/b.length - 2 < ZcK (b.take 2)
 ·rw [if_pos h];simp
 ·rw [if_neg h]
  simp only [not_or] at h
  simp;omega
theorem ZhG (b:Zb):(Zaf b).2.1<=b.length/\((Zaf b).2.2≠0->(Zaf b).1=[]/\(Zaf b).2.1=0):=by
 have hd:=ZkG b
 unfold Zaf
 by_cases h:(ZaJ b).2.2≠0
 ·rw [if_pos h];simp
 ·rw [if_neg h]
  by_cases ht:Zgj (ZaJ b).1=true
  ·rw [if_pos ht];exact ⟨hd.1,fun h'=>absurd h' h⟩
  ·rw [if_neg ht];simp
theorem Zm6 (id:Int) (b:Zb) (hl:b.length<=140737488355328) (k:Int) (W:Nat) (hk:ZbZ id=k) (hW:(k=1/\W=1)\/(k=2/\W=2)\/(k=3/\W=4)):E 180 [.int .i64 id,ZV b] []=some (Zcv true (ZfI id W b),[]):=by
 have hC:=fun σ sq own=>ZiR σ sq own id
 rw [hk] at hC
 have hG:=fun σ sq own f=>ZlC σ sq own (b.take W) (by simp;omega) f
 have hg:=ZHn (b.take W) (by simp;omega)
 unfold ZfI
 generalize ZcK (b.take W)=g at *
 have hi:IntKind.i64.wrap (g:Int)=(g:Int):=ZbO (by omega) (by omega)
 have hw:∀ W:Nat,W<=b.length->∀ (σ:Za) (kk:IntKind),Zbv σ 1 (.lst false (b.map Zc)) none (some (.int kk (W:Int))) none=some (.lst false ((b.take W).map Zc),σ,{}):=fun W hW σ kk=>by
  have:=Zmm σ 1 b Zc kk (W:Int) (by omega) (by omega)
  exact this
 have z1:((1:Nat):Int)=1:=rfl
 have z2:((2:Nat):Int)=2:=rfl
 have z4:((4:Nat):Int)=4:=rfl
 rcases hW with ⟨rfl,rfl⟩ | ⟨rfl,rfl⟩ | ⟨rfl,rfl⟩
 ·have w1:IntKind.i64.wrap (1 - 1)=0:=rfl
  have w2:IntKind.i64.wrap (1*2 ^ min (WB 0) IntKind.i64.bits)=1:=rfl
  have ng:¬((0:Int) < 0):=by decide
  by_cases h:b.length < 1
  ·have h':(b.length:Int) < 1:=by omega
   rw [Zh (by rfl) ZdN,if_pos h]
   simp -implicitDefEqProofs only [EQA,Zs,Xe,Xc,Xf,Xb,Xg,ZaB,reduceCtorEq,↓reduceIte,Zd,Zdz,ZcZ,ZdB,ZV,hC,w1,w2,ng,h',Zcv,AVal.cells]
   rfl
  ·have h':¬(b.length:Int) < 1:=by omega
   have hs:=hw 1 (by omega)
   rw [z1] at hs
   have e0:((0:Int) == 0)=true:=rfl
   rw [Zh (by rfl) ZdN,if_neg h]
   simp -implicitDefEqProofs only [EQA,Zs,Xe,Xc,Xf,Xb,Xg,ZaB,reduceCtorEq,↓reduceIte,Zd,Zdz,ZcZ,ZdB,ZV,hC,w1,w2,ng,h',hs,hG,hi,Zcv,AVal.cells]
   rfl
 ·have w1:IntKind.i64.wrap (2 - 1)=1:=rfl
  have w2:IntKind.i64.wrap (1*2 ^ min (WB 1) IntKind.i64.bits)=2:=rfl
  have ng:¬((1:Int) < 0):=by decide
  by_cases h:b.length < 2
  ·have h':(b.length:Int) < 2:=by omega
   rw [Zh (by rfl) ZdN,if_pos h]
   simp -implicitDefEqProofs only [EQA,Zs,Xe,Xc,Xf,Xb,Xg,ZaB,reduceCtorEq,↓reduceIte,Zd,Zdz,ZcZ,ZdB,ZV,hC,w1,w2,ng,h',Xq,Zcv,AVal.cells]
   rfl
  ·have h':¬(b.length:Int) < 2:=by omega
   have hs:=hw 2 (by omega)
   rw [z2] at hs
   have e0:((0:Int) == 0)=true:=rfl
   rw [Zh (by rfl) ZdN,if_neg h]
   simp -implicitDefEqProofs only [EQA,Zs,Xe,Xc,Xf,Xb,Xg,ZaB,reduceCtorEq,↓reduceIte,Zd,Zdz,ZcZ,ZdB,ZV,hC,w1,w2,ng,h',hs,hG,hi,Xq,Zcv,AVal.cells]
   rfl
 ·have w1:IntKind.i64.wrap (3 - 1)=2:=rfl
  have w2:IntKind.i64.wrap (1*2 ^ min (WB 2) IntKind.i64.bits)=4:=rfl
  have ng:¬((2:Int) < 0):=by decide
  by_cases h:b.length < 4
  ·have h':(b.length:Int) < 4:=by omega
   rw [Zh (by rfl) ZdN,if_pos h]
   simp -implicitDefEqProofs only [EQA,Zs,Xe,Xc,Xf,Xb,Xg,ZaB,reduceCtorEq,↓reduceIte,Zd,Zdz,ZcZ,ZdB,ZV,hC,w1,w2,ng,h',Xq,Zcv,AVal.cells]
   rfl
  ·have h':¬(b.length:Int) < 4:=by omega
   have hs:=hw 4 (by omega)
   rw [z4] at hs
   have e0:((0:Int) == 0)=true:=rfl
   rw [Zh (by rfl) ZdN,if_neg h]
   simp -implicitDefEqProofs only [EQA,Zs,Xe,Xc,Xf,Xb,Xg,ZaB,reduceCtorEq,↓reduceIte,Zd,Zdz,ZcZ,ZdB,ZV,hC,w1,w2,ng,h',hs,hG,hi,Xq,Zcv,AVal.cells]
   rfl
theorem ZM1 (id:Int) (b:Zb) (hl:b.length<=140737488355328):∃ f,E 180 [.int .i64 id,ZV b] []=some (Zcv f (ZcS id b),[]):=by
 unfold ZcS
 have hC:=fun σ sq own=>ZiR σ sq own id
 have hGV:=fun σ sq own f=>ZmD σ sq own f b (by omega)
 have hGT:=fun σ sq own f=>Zg7 σ sq own f b hl
 have hGD:=fun σ sq own f=>ZkA σ sq own f b hl
 have z0:((0:Nat):Int)=0:=rfl
 rcases ZvQ id with hk | hk | hk | hk | hk | hk | hk | hk
 ·refine ⟨true,?_⟩
  rw [hk] at hC ⊢
  rw [show ZeZ 0 id b=(⟨id,0,[],[],[]⟩,0,true) from rfl,Zh (by rfl) ZdN]
  have e0:((0:Int) == 0)=true:=rfl
  simp -implicitDefEqProofs only [EQA,Zs,Xe,Xc,Xf,Xb,Xg,reduceCtorEq,↓reduceIte,Zd,Zdz,ZcZ,ZdB,ZV,hC,Xq,Zcv,AVal.cells]
  rfl
 ·rw [hk];exact ⟨true,Zm6 id b hl 1 1 hk (by simp)⟩
 ·rw [hk];exact ⟨true,Zm6 id b hl 2 2 hk (by simp)⟩
 ·rw [hk];exact ⟨true,Zm6 id b hl 3 4 hk (by simp)⟩
 ·refine ⟨true,?_⟩
  rw [hk] at hC ⊢
  rw [show ZeZ 4 id b=(⟨id,(Zag b).1,[],[],[]⟩,(Zag b).2.1,(Zag b).2.2 == 0) from rfl,Zh (by rfl) ZdN]
  unfold gvT at hGV
  simp -implicitDefEqProofs only [EQA,Zs,Xe,Xc,Xf,Xb,Xg,reduceCtorEq,↓reduceIte,Zd,Zdz,ZcZ,ZdB,ZV,hC,hGV,Xq,Zcv,AVal.cells]
 ·refine ⟨true,?_⟩
  rw [hk] at hC ⊢
  rw [show ZeZ 5 id b=(⟨id,0,(Zaf b).1,[],[]⟩,(Zaf b).2.1,(Zaf b).2.2 == 0) from rfl,Zh (by rfl) ZdN]
  unfold gtT at hGT
  simp -implicitDefEqProofs only [EQA,Zs,Xe,Xc,Xf,Xb,Xg,reduceCtorEq,↓reduceIte,Zd,Zdz,ZcZ,ZdB,ZV,hC,hGT,Xq,Zcv,AVal.cells]
 ·refine ⟨false,?_⟩
  rw [hk] at hC ⊢
  rw [show ZeZ 6 id b=(⟨id,0,[],[],(ZaJ b).1⟩,(ZaJ b).2.1,(ZaJ b).2.2 == 0) from rfl,Zh (by rfl) ZdN]
  unfold gdT at hGD
  simp -implicitDefEqProofs only [EQA,Zs,Xe,Xc,Xf,Xb,Xg,reduceCtorEq,↓reduceIte,Zd,Zdz,ZcZ,ZdB,ZV,hC,hGD,Xq,Zcv,AVal.cells]
 ·refine ⟨true,?_⟩
  rw [hk] at hC ⊢
  rw [show ZeZ 7 id b=ZgZ id b from rfl,Zh (by rfl) ZdN]
  unfold gtT at hGT
  unfold ZgZ
  have hu:=ZhG b
  by_cases h:(Zaf b).2.2=0
  ·have h':((Zaf b).2.2 == 0)=true:=by simpa using h
   have hs:=fun σ kk=>Zfb σ b kk (((Zaf b).2.1:Nat):Int) (by omega) (by omega)
   have e:((((Zaf b).2.1:Nat):Int)).toNat=(Zaf b).2.1:=rfl
   rw [e] at hs
   have hGT2:=fun σ sq own f=>Zg7 σ sq own f (b.drop (Zaf b).2.1) (by simp;omega)
   unfold gtT at hGT2
   have hu2:=ZhG (b.drop (Zaf b).2.1)
   have hdl:(b.drop (Zaf b).2.1).length<=b.length:=by simp
   have hw:IntKind.i64.wrap ((((Zaf b).2.1:Nat):Int)+(((Zaf (b.drop (Zaf b).2.1)).2.1:Nat):Int))=(((Zaf b).2.1+(Zaf (b.drop (Zaf b).2.1)).2.1:Nat):Int):=by
    rw [ZbO (by omega) (by omega)];rfl
   rw [if_pos h]
   rw [h] at hGT
   have e0:((0:Int) == 0)=true:=rfl
   simp -implicitDefEqProofs only [EQA,Zs,Xe,Xc,Xf,Xb,Xg,reduceCtorEq,↓reduceIte,Zd,Zdz,ZcZ,ZdB,ZV,hC,hGT,hs,hGT2,hw,Xq,Zcv,AVal.cells]
  ·have h':((Zaf b).2.2 == 0)=false:=by simpa using h
   rw [if_neg h]
   obtain ⟨x1,x2⟩:=hu.2 h
   rw [x1,x2] at hGT
   simp -implicitDefEqProofs only [EQA,Zs,Xe,Xc,Xf,Xb,Xg,reduceCtorEq,↓reduceIte,Zd,Zdz,ZcZ,ZdB,ZV,hC,hGT,h',Xq,Zcv,AVal.cells]
theorem ZzS (σ:Za) (sq own:Nat) (f:Bool) (id:Int) (b:Zb) (hl:b.length<=140737488355328):Zi E BY σ sq 180 own true [.int .i64 id,.lst f (b.map Zc)]=some (Zcv false (ZcS id b),σ,{}):=by
 obtain ⟨g,h⟩:=ZM1 id b hl
 exact ZbJ h (by kernel_rfl) rfl rfl rfl (fun _=>rfl) _ _ _
end
section
end
section
def ZmU (b:Bool):AVal:=.tup [.agg [.int .i64 0,.int .i64 0,.str [],.str [],.lst b []],.bool false]
theorem ZN6 (l:Zb):kOk 1 (l.map Zc)=true:=by cases l <;> rfl
theorem ZCt (l:Zb) (h:l.length<=140737488355328):E 53 [.lst false (l.map Zc)] []=some (.sl 0 0 0 (l.map Zc).length,[.row 0 1 (l.map Zc)]):=by
 refine Zco.2 ⟨1,?_⟩
 show Zev 1 1 [.lst false (l.map Zc)] []=_
 have h1:(l.map Zc).length*1<=140737488355328/\kOk 1 (l.map Zc)=true:=⟨by simpa using h,ZN6 l⟩
 simp only [Zev,ZR]
 rw [if_pos h1];rfl
theorem ZoD (σ:Za) (sq own:Nat) (l:Zb) (h:l.length<=140737488355328):Zi E BY σ sq 53 own true [.lst false (l.map Zc)]=some (.lst false (l.map Zc),σ,{}) :=
 Zq4 (bf:=BY) (ZCt l h) rfl rfl rfl σ sq own
theorem ZH8 (p:Zv) (h:p.data.length<=140737488355328):E 71 [Zq p] []=some (Zq p,[]):=by
 have hC:=fun σ sq own=>ZoD σ sq own p.data h
 rw [Zh (by rfl) ZNp]
 simp -implicitDefEqProofs only [EQA,ZI,Zs,Xe,Xc,Xf,Xb,Xg,↓reduceIte,Zd,ZGG,Znp,Zwx,ZV,Zq,ZbN,hC]
theorem Zw8 (σ:Za) (sq own:Nat) (p:Zv) (h:p.data.length<=140737488355328):Zi E BY σ sq 71 own true [.agg [.int .i64 p.id,.int .i64 p.num,.str p.text,.str p.pair,.lst false (p.data.map Zc)]]=some (.agg [.int .i64 p.id,.int .i64 p.num,.str p.text,.str p.pair,.lst false (p.data.map Zc)],σ,{}) :=
 ZcU (ZH8 p h) (by kernel_rfl) (by simp -implicitDefEqProofs only [Zdi,ZbE,eq_self,ZV,Zq,ZbN]) (by simp -implicitDefEqProofs only [Zdi,ZI,ZbE,eq_self,ZV,Zq,ZbN]) rfl (fun _=>rfl) _ _ _ _
def Zgi (id:Int):List Zv->AVal
 | []=>ZmU true
 | p::r=>if p.id == id then .tup [Zq p,.bool true] else Zgi id r
theorem ZsE (l:List Zv) (hl:l.length<=9223372036854775807) (hd:∀ p ∈ l,p.data.length<=140737488355328) (id:Int):∀ (r:List Zv) (i:Nat),l.drop i=r ->
  ZlJ 0 [(10,.int .i64 i),(9,.int .i64 l.length),(8,.lst false (l.map Zq)),(4,.ref 0 0),(0,.int .i64 id)] [.var [.int .i64 0,.int .i64 0,.str [],.str [],.lst true []]]=some (Zgi id r,[])
 | [],i,h=>by
  have h1:=Zcw h
  unfold ZlJ
  rw [ZX,Zgi]
  simp -implicitDefEqProofs only [EQA,Zs,Xe,Xc,Xf,Xb,reduceCtorEq,↓reduceIte,Zd,ZtJ,ZG8,Zna,ZqM,Ziz,h1,ZmU,Zam,AVal.cells]
 | p::r,i,h=>by
  have ih:=ZsE l hl hd id r (i+1) (Zab h).2.1
  have h1:(i:Int) < l.length:=by have:=(Zab h).2.2;omega
  have e1:=iad (Zab h).1 Zq (k:=5) rfl
  have e3:=Zcn h1 hl
  have hC:=fun σ sq own=>Zw8 σ sq own p (hd p (XA (Zab h).1))
  unfold ZlJ at ih ⊢
  rw [ZX,Zgi]
  cases hb:(p.id == id)
  ·simp -implicitDefEqProofs only [EQA,ZI,ZT,Zbk,Xe,Xc,Xf,Xb,Xg,reduceCtorEq,↓reduceIte,gcT,gcA,Zy,Zu,Zk,Zr,ZO,Zo,ZJ,ZB,ZG,ZqM,Ziz,ZV,Zq,ZbN,h1,e1,e3,hb]
   exact ih
  ·simp -implicitDefEqProofs only [EQA,ZI,Zs,Xe,Xc,Xf,Xb,Xg,reduceCtorEq,↓reduceIte,Zd,ZtJ,ZqM,Ziz,ZV,Zq,ZbN,h1,e1,hb,hC]
theorem ZAV (l:List Zv) (hl:l.length<=9223372036854775807) (hd:∀ p ∈ l,p.data.length<=140737488355328) (id:Int):E 73 [.int .i64 id,Zbc l] []=some (Zgi id l,[]):=by
 have:=ZsE l hl hd id l 0 rfl
 have z0:((0:Nat):Int)=0:=rfl
 rw [z0] at this
 unfold ZlJ at this
 rw [Zh (by rfl) ZOX]
 simp -implicitDefEqProofs only [EQA,ZT,Zbk,Xc,Xb,Xg,reduceCtorEq,↓reduceIte,gcT,gcA,Zy,Zu,Zk,Zr,ZO,Zo,ZJ,ZB,ZG,ZDu,Zqc,Zbc]
 exact this
def Zf0 (id:Int) (l:List Zv):Option Zv:=l.find? (fun p=>p.id == id)
def Zpu (b:Bool):Option Zv->AVal
 | none=>ZmU b
 | some p=>.tup [Zq p,.bool true]
theorem Zs6 (id:Int):∀ l:List Zv,Zgi id l=Zpu true (Zf0 id l)
 | []=>rfl
 | p::r=>by
  have ih:=Zs6 id r
  unfold Zf0 at ih ⊢
  rw [Zgi,List.find?_cons]
  cases h:(p.id == id)
  ·simpa using ih
  ·rfl
theorem ZBW (σ:Za) (sq own:Nat) (l:List Zv) (hl:l.length<=9223372036854775807) (hd:∀ p ∈ l,p.data.length<=140737488355328) (id:Int):Zi E BY σ sq 73 own true [.int .i64 id,.lst false (l.map Zq)]=some (Zpu false (Zf0 id l),σ,{}):=by
 have h:=ZAV l hl hd id
 rw [Zs6] at h
 cases hf:Zf0 id l with
 | none=>rw [hf] at h;exact ZbJ h (by kernel_rfl) rfl rfl rfl (fun _=>rfl) σ sq own
 | some p =>
  rw [hf] at h
  exact ZbJ h (by kernel_rfl) rfl rfl rfl (fun _=>rfl) σ sq own
def ZeQ:Zv:=⟨0,0,[],[],[]⟩
theorem ZLF (o:Option Zv):Zpu false o=.tup [.agg [.int .i64 (o.getD ZeQ).id,.int .i64 (o.getD ZeQ).num,.str (o.getD ZeQ).text,.str (o.getD ZeQ).pair,.lst false ((o.getD ZeQ).data.map Zc)],.bool o.isSome]:=by
 cases o <;> rfl
end
section
def Zha (id w:Int):Bool:=id == 38 || (id == 11 && w == 3)
def Zge (id num:Int):Bool:=if id == 11 || id == 33 || id == 35 || id == 39 then num != 0 else ZbZ id != 1 || decide (num<=1)
theorem ZHC (id w:Int):E 181 [.int .i64 id,.int .i64 w] []=some (.bool (Zha id w),[]):=by
 rw [Zh (by rfl) Zx8]
 unfold Zha
 cases h1:(id == 38) <;> cases h2:(id == 11)
 all_goals simp -implicitDefEqProofs only [EQA,Xc,Xb,ZE,Zaz,unG,reduceCtorEq,↓reduceIte,ZKn,ZoU,ZyZ,h1,h2]
theorem ZIt (σ:Za) (sq own:Nat) (id w:Int):Zi E BY σ sq 181 own true [.int .i64 id,.int .i64 w]=some (.bool (Zha id w),σ,{}) :=
 ZbJ (ZHC id w) (by kernel_rfl) rfl rfl rfl (fun _=>rfl) _ _ _
theorem Zzs (p:Zv):E 182 [Zq p] []=some (.bool (Zge p.id p.num),[]):=by
 have hC:=fun σ sq own=>ZiR σ sq own p.id
 rw [Zh (by rfl) Zxm]
 unfold Zge
 cases h1:(p.id == 11) <;> cases h2:(p.id == 33) <;> cases h3:(p.id == 35) <;> cases h4:(p.id == 39)
 all_goals simp -implicitDefEqProofs only [EQA,ZI,ZT,ZDH,ZdD,Xc,Xb,Xg,ZE,Zaz,unG,ite_self,↓reduceIte,ZMT,Zqz,ZMH,ZV,Zq,ZbN,hC,h1,h2,h3,h4]
theorem ZJl (σ:Za) (sq own:Nat) (p:Zv):Zi E BY σ sq 182 own true [.agg [.int .i64 p.id,.int .i64 p.num,.str p.text,.str p.pair,.lst false (p.data.map Zc)]]=some (.bool (Zge p.id p.num),σ,{}) :=
 ZbJ (Zzs p) (by kernel_rfl) rfl rfl rfl (fun _=>rfl) _ _ _
end
section
theorem Zrf:∀ (b:Zb) (i n:Nat),(gvA i n b).2.2=0->i < (gvA i n b).2.1/\(gvA i n b).2.1<=i+b.length
 | [],i,n,h=>by
  unfold gvA at h
  split at h <;> simp at h
 | c::r,i,n,h=>by
  unfold gvA at h ⊢
  split at h
  ·simp at h
  ·rename_i h4
   rw [if_neg h4]
   split at h
   ·rename_i hc
    rw [if_pos hc]
    split at h
    ·simp at h
    ·rename_i h0
     rw [if_neg h0]
     simp
   ·rename_i hc
    rw [if_neg hc]
    have:=Zrf r (i+1) _ h
    simp only [XH]
    omega
theorem Znd (b:Zb) (h:(Zag b).2.2=0):0 < (Zag b).2.1/\(Zag b).2.1<=b.length:=by
 have:=Zrf b 0 0 h
 simpa [Zag] using this
theorem ZBV (id:Int) (b:Zb):(ZcS id b).1.id=id:=by
 unfold ZcS ZeZ ZfI ZgZ
 repeat' split
 all_goals rfl
theorem ZC8 (id:Int) (b:Zb):(ZcS id b).1.data.length<=b.length:=by
 unfold ZcS ZeZ ZfI ZgZ
 repeat' split
 all_goals first
  | exact (ZkG b).2
  | exact Nat.zero_le _
theorem ZrN:∀ (b:Zb) (i n:Nat),(gvA i n b).2.1<=i+b.length
 | [],i,n=>by unfold gvA;split <;> simp
 | c::r,i,n=>by
  unfold gvA
  repeat' split
  all_goals simp only [XH]
  all_goals first
   | omega
   | (have:=ZrN r (i+1) (n+c.toNat % 128*128 ^ i);omega)
theorem Zs2 (b:Zb):(Zag b).2.1<=b.length:=by simpa [Zag] using ZrN b 0 0
theorem ZsW (id:Int) (b:Zb):(ZcS id b).2.1<=b.length:=by
 have h1:=(ZhG b).1
 have h2:=(ZhG (b.drop (Zaf b).2.1)).1
 have h3:=Zs2 b
 have h4:=(ZkG b).1
 simp only [X6] at h2
 unfold ZcS ZeZ ZfI ZgZ
 repeat' split
 all_goals simp only
 all_goals omega
def ZnF (w:Int) (l:List Zv) (id:Int) (u:Nat) (v:Zv×Nat×Bool):Zv×Nat×Int :=
 if v.2.2=false then (v.1,0,129) else if ((Zf0 id l).isSome && !Zha id w)=true then (v.1,0,130) else
 if Zge v.1.id v.1.num=true then (v.1,u+v.2.1,0) else if (id == 35)=true then (v.1,0,148) else (v.1,0,130)
def ZbU (w:Int) (b:Zb) (l:List Zv):Zv×Nat×Int :=
 if (Zag b).2.2≠0\/ZgK ((Zag b).1:Nat) w=false then (ZeQ,0,129)
 else ZnF w l ((Zag b).1:Nat) (Zag b).2.1 (ZcS ((Zag b).1:Nat) (b.drop (Zag b).2.1))
def ZcP (f:Bool) (x:Zv×Nat×Int):AVal:=.tup [.agg [.int .i64 x.1.id,.int .i64 x.1.num,.str x.1.text,.str x.1.pair,.lst f (x.1.data.map Zc)],.int .i64 (x.2.1:Nat),.int .i64 x.2.2]
theorem ZuQ (w:Int) (b:Zb) (l:List Zv) (hl:b.length<=140737488355328) (hl2:l.length<=9223372036854775807) (hd:∀ p ∈ l,p.data.length<=140737488355328):∃ f,E 162 [.int .i64 w,ZV b,Zbc l] []=some (ZcP f (ZbU w b l),[]):=by
 have hGV:=fun σ sq own f=>ZmD σ sq own f b (by omega)
 have hu:=Znd b
 unfold ZbU
 rcases hx:Zag b with ⟨n,u,e⟩
 rw [hx] at hGV hu
 unfold gvT at hGV
 simp only at hGV hu ⊢
 have hM:=fun σ sq own=>ZxX σ sq own (n:Int) w
 by_cases he:e=0
 ·subst he
  have n0:((0:Int) != 0)=false:=rfl
  cases hm:ZgK (n:Int) w
  ·refine ⟨true,?_⟩
   rw [hm] at hM
   have hc:(0:Int)≠0\/false=false:=Xy rfl
   rw [if_pos hc,Zh (by rfl) Zf3]
   unfold ZcP ZeQ
   simp -implicitDefEqProofs only [EQA,Zs,Xe,Xc,Xf,Xb,Xg,unA,ZE,unG,reduceCtorEq,↓reduceIte,Zd,ZfQ,Zes,ZfM,ZV,Zbc,hGV,hM,n0,AVal.cells]
   rfl
  ·refine ⟨false,?_⟩
   rw [hm] at hM
   have hc:¬((0:Int)≠0\/true=false):=by simp
   rw [if_neg hc]
   have hul:=(hu rfl).2
   have hs:=fun σ kk=>Zfb σ b kk ((u:Nat):Int) (by omega) (by omega)
   have e2:(((u:Nat):Int)).toNat=u:=rfl
   rw [e2] at hs
   have hV:=fun σ sq own f=>ZzS σ sq own f (n:Int) (b.drop u) (by simp;omega)
   have hF:=fun σ sq own=>ZBW σ sq own l hl2 hd (n:Int)
   have hO:=fun σ sq own=>ZIt σ sq own (n:Int) w
   have hid:=ZBV (n:Int) (b.drop u)
   have hused:(ZcS (n:Int) (b.drop u)).2.1<=b.length:=Nat.le_trans (ZsW _ _) (by simp)
   have hT:=fun σ sq own=>ZJl σ sq own (ZcS (n:Int) (b.drop u)).1
   unfold Zcv at hV
   simp only [ZLF] at hF
   unfold ZnF
   generalize ZcS (n:Int) (b.drop u)=v at *
   obtain ⟨p,m,ok⟩:=v
   simp only at hV hT hid hused ⊢
   have hw:IntKind.i64.wrap ((u:Int)+(m:Int))=((u+m:Nat):Int):=by
    rw [ZbO (by omega) (by omega)];rfl
   generalize (Zf0 (n:Int) l).getD ZeQ=q at *
   cases ok
   ·rw [Zh (by rfl) Zf3]
    unfold ZcP
    simp -implicitDefEqProofs only [EQA,Zs,Xe,Xc,Xf,Xb,Xg,unA,ZE,unG,reduceCtorEq,↓reduceIte,Zd,ZfQ,Zes,ZfM,ZV,Zbc,hGV,hM,hs,hV,hF,n0,AVal.cells]
    rfl
   ·cases h1:(Zf0 (n:Int) l).isSome <;> rw [h1] at hF
    ·cases h3:Zge p.id p.num <;> rw [h3] at hT
     ·cases h4:((n:Int) == 35)
      all_goals rw [Zh (by rfl) Zf3]
      all_goals unfold ZcP
      all_goals simp -implicitDefEqProofs only [EQA,Zs,Xe,Xc,Xf,Xb,Xg,unA,ZE,Zaz,unG,reduceCtorEq,↓reduceIte,Zd,ZfQ,Zes,ZfM,ZV,Zbc,hGV,hM,hs,hV,hF,hT,h4,n0,AVal.cells]
      all_goals rfl
     ·rw [Zh (by rfl) Zf3]
      unfold ZcP
      simp -implicitDefEqProofs only [EQA,Zs,Xe,Xc,Xf,Xb,Xg,unA,ZE,Zaz,unG,reduceCtorEq,↓reduceIte,Zd,ZfQ,Zes,ZfM,ZV,Zbc,hGV,hM,hs,hV,hF,hT,hw,n0,AVal.cells]
    ·cases h2:Zha (n:Int) w <;> rw [h2] at hO
     ·rw [Zh (by rfl) Zf3]
      unfold ZcP
      simp -implicitDefEqProofs only [EQA,Zs,Xe,Xc,Xf,Xb,Xg,unA,ZE,unG,reduceCtorEq,↓reduceIte,Zd,ZfQ,Zes,ZfM,ZV,Zbc,hGV,hM,hs,hV,hF,hO,n0,AVal.cells]
      rfl
     ·cases h3:Zge p.id p.num <;> rw [h3] at hT
      ·cases h4:((n:Int) == 35)
       all_goals rw [Zh (by rfl) Zf3]
       all_goals unfold ZcP
       all_goals simp -implicitDefEqProofs only [EQA,Zs,Xe,Xc,Xf,Xb,Xg,unA,ZE,unG,reduceCtorEq,↓reduceIte,Zd,ZfQ,Zes,ZfM,ZV,Zbc,hGV,hM,hs,hV,hF,hT,hO,h4,n0,AVal.cells]
       all_goals rfl
      ·rw [Zh (by rfl) Zf3]
       unfold ZcP
       simp -implicitDefEqProofs only [EQA,Zs,Xe,Xc,Xf,Xb,Xg,unA,ZE,unG,reduceCtorEq,↓reduceIte,Zd,ZfQ,Zes,ZfM,ZV,Zbc,hGV,hM,hs,hV,hF,hT,hO,hw,n0,AVal.cells]
 ·refine ⟨true,?_⟩
  have hc:e≠0\/ZgK (n:Int) w=false:=Xr he
  have n1:(e != 0)=true:=by simpa using he
  rw [if_pos hc,Zh (by rfl) Zf3]
  unfold ZcP ZeQ
  simp -implicitDefEqProofs only [EQA,Zs,Xe,Xc,Xf,Xb,Xg,ZE,Zaz,reduceCtorEq,↓reduceIte,Zd,ZfQ,Zes,ZfM,ZV,Zbc,hGV,n1,AVal.cells]
  rfl
end
section
def ZdW (w:Int):Nat->Zb->List Zv->List Zv×Int
 | _,[],l=>(l,0)
 | 0,_::_,_=>([],129)
 | n+1,c::r,l=>if (ZbU w (c::r) l).2.2=0 then ZdW w n ((c::r).drop (ZbU w (c::r) l).2.1) (l++[(ZbU w (c::r) l).1]) else ([],(ZbU w (c::r) l).2.2)
def Zao (w:Int) (b:Zb):List Zv×Nat×Int :=
 if (Zag b).2.2≠0\/((Zag b).1:Int) > (b.length:Int) - ((Zag b).2.1:Nat) then ([],0,129)
 else if (ZdW w (Zag b).1 ((b.take ((Zag b).2.1+(Zag b).1)).drop (Zag b).2.1) []).2=0 then
  ((ZdW w (Zag b).1 ((b.take ((Zag b).2.1+(Zag b).1)).drop (Zag b).2.1) []).1,(Zag b).2.1+(Zag b).1,0)
 else ([],0,(ZdW w (Zag b).1 ((b.take ((Zag b).2.1+(Zag b).1)).drop (Zag b).2.1) []).2)
def Zix (u:Nat) (x:List Zv×Int):AVal×Za:=if x.2=0 then (.tup [Zew (x.1.map Zq),.int .i64 (u:Nat),.int .i64 0],ZeE 5 (x.1.map Zq)) else (.tup [.lst true [],.int .i64 0,.int .i64 x.2],[])
theorem Ztj {w:Int} {b:Zb} {l:List Zv} (h:(ZbU w b l).2.2=0):0 < (ZbU w b l).2.1/\(ZbU w b l).2.1<=b.length/\(ZbU w b l).1.data.length<=b.length:=by
 unfold ZbU at h ⊢
 split at h
 ·simp at h
 ·rename_i hc
  rw [if_neg hc]
  have hc0:(Zag b).2.2=0:=Decidable.byContradiction fun h=>hc (Xr h)
  have h1:=Znd b hc0
  have h2:=ZsW ((Zag b).1:Nat) (b.drop (Zag b).2.1)
  have h3:=ZC8 ((Zag b).1:Nat) (b.drop (Zag b).2.1)
  simp only [X6] at h2 h3
  unfold ZnF at h ⊢
  generalize ZcS ((Zag b).1:Nat) (b.drop (Zag b).2.1)=v at *
  repeat' (split at h)
  all_goals first
   | (simp at h;done)
   | skip
  rename_i a1 a2 a3
  rw [if_neg a1,if_neg a2,if_pos a3]
  simp only
  omega
theorem Zmh {xs:List AVal} (h:0 < xs.length):Zew xs=.sl 0 0 0 xs.length:=by
 cases xs with
 | nil=>simp at h
 | cons x xs=>rfl
theorem ZkX {k:Nat} {xs:List AVal} (h:0 < xs.length):ZeE k xs=[.row 0 k xs]:=by
 cases xs with
 | nil=>simp at h
 | cons x xs=>rfl
theorem ZDi (l:List Zv):Zkr (l.map Zq)=true:=by
 unfold Zkr
 rw [XF]
 intro x hx
 obtain ⟨p,_,rfl⟩:=XX.1 hx
 rfl
theorem ZD4 (b:Zb):(b.map Zc).all Zlh=true:=by
 rw [XF]
 intro x hx
 obtain ⟨p,_,rfl⟩:=XX.1 hx
 rfl
theorem ZyB (σ:Za) (sq own:Nat) (f g:Bool) (w:Int) (b:Zb) (l:List Zv) (hl:b.length<=140737488355328) (hl2:l.length<=9223372036854775807) (hd:∀ p ∈ l,p.data.length<=140737488355328) :
  Zi E BY σ sq 162 own true [.int .i64 w,.lst f (b.map Zc),.lst g (l.map Zq)]=some (ZcP false (ZbU w b l),σ,{}):=by
 obtain ⟨f',h⟩:=ZuQ w b l hl hl2 hd
 exact ZbJ h (by kernel_rfl) rfl rfl (by cases f' <;> rfl) (fun _=>rfl) _ _ _
theorem ZG3 (σ:Za) (sq own:Nat) (f:Bool) (w:Int) (b:Zb) (l:List Zv) (hl:b.length<=140737488355328) (hl2:l.length<=9223372036854775807) (hd:∀ p ∈ l,p.data.length<=140737488355328) :
  Zi E BY (.row 0 5 (l.map Zq)::σ) sq 162 own true [.int .i64 w,.lst f (b.map Zc),.sl 0 0 0 (l.map Zq).length]=some (ZcP false (ZbU w b l),.row 0 5 (l.map Zq)::σ,{ rd:=[0] }):=by
 obtain ⟨f',h⟩:=ZuQ w b l hl hl2 hd
 refine Zya (vs:=[.int .i64 w,ZV b,Zbc l]) (by kernel_rfl) ?_ rfl rfl h (r':=ZcP false (ZbU w b l)) (by cases f' <;> rfl) ?_ _ _
 ·simp [showAs,showA,Zb8,ZR,ZV,Zbc]
  exact XN (by simp)
 ·have h1:=ZDi l
  have h2:=ZD4 (ZbU w b l).1.data
  unfold ZcY
  simp only [Wp,Bool.not_false,ZcP,Zg8,ZhL,Zhx,XP,Wj,Za2,h2,Zfp,List.getElem?_cons_zero,h1,X0]
theorem Zsv (w:Int) (n:Nat) (l:List Zv):ZdW w n [] l=(l,0):=by cases n <;> rfl
theorem ZrZ (w:Int) (n:Nat) (c:UInt8) (r:Zb) (l:List Zv):ZdW w (n+1) (c::r) l=if (ZbU w (c::r) l).2.2=0 then ZdW w n ((c::r).drop (ZbU w (c::r) l).2.1) (l++[(ZbU w (c::r) l).1]) else ([],(ZbU w (c::r) l).2.2):=rfl
theorem ZIT (w:Int) (N U:Nat) (hU:U+N<=140737488355328) (l:List Zv) :
  Zg5 0 [(10,.lst false []),(8,.int .i64 (U:Nat)),(7,.int .i64 (N:Nat)),(4,Zew (l.map Zq)),(0,.int .i64 w)] (ZeE 5 (l.map Zq))=some (Zix (U+N) (l,0)):=by
 have hw:IntKind.i64.wrap ((U:Int)+(N:Int))=((U+N:Nat):Int):=by rw [ZbO (by omega) (by omega)];rfl
 have h1:¬(((0:Nat):Int) > 0):=by simp
 unfold Zix Zg5
 rw [ZX]
 cases l with
 | nil =>
  simp -implicitDefEqProofs only [EQA,Zs,Xc,Xb,reduceCtorEq,↓reduceIte,Zd,Zg6,ZvW,ZkY,Zhg,ZfE,Zfj,Zfy,hw,h1]
  try (simp [Z8,gcA,Zy,Zu,Zp,Z3,Zk,Zr,ZO,Zo,ZJ,Zg,Zm,ZB,ZG,WG])
 | cons p l =>
  generalize hX:(p::l).map Zq=X
  have hpos:0 < X.length:=by rw [<-hX];simp
  simp only [Zmh hpos,ZkX hpos]
  simp -implicitDefEqProofs only [EQA,Xc,Xb,reduceCtorEq,↓reduceIte,Zg6,ZvW,ZkY,Zhg,ZfE,hw,h1]
  simp [Z8,gcA,Zy,Zu,Zp,Z3,Zk,Zr,ZO,Zo,ZJ,Zg,Zm,ZB,ZG]
theorem Zt7 (w:Int) (N U:Nat) (hU:U+N<=140737488355328) (hN9:N<=1000000000):∀ (n:Nat) (b:Zb) (l:List Zv),b.length<=n->l.length+b.length<=N->(∀ p ∈ l,p.data.length<=140737488355328) ->
  Zg5 0 [(10,.lst false (b.map Zc)),(8,.int .i64 (U:Nat)),(7,.int .i64 (N:Nat)),(4,Zew (l.map Zq)),(0,.int .i64 w)] (ZeE 5 (l.map Zq))=some (Zix (U+N) (ZdW w n b l))
 | n,[],l,hb,hN,hd=>by
  rw [Zsv]
  exact ZIT w N U hU l
 | 0,c::r,l,hb,hN,hd=>by simp at hb
 | n+1,c::r,l,hb,hN,hd=>by
  rw [ZrZ]
  generalize hB:c::r=b at *
  have hlen:0 < b.length:=by rw [<-hB];simp
  have hpos:((b.length:Nat):Int) > 0:=by omega
  have hC:=fun σ sq own f g=>ZyB σ sq own f g w b l (by omega) (by omega) hd
  have hS:=fun σ sq own f=>ZG3 σ sq own f w b l (by omega) (by omega) hd
  have hu:=Ztj (w:=w) (b:=b) (l:=l)
  unfold ZcP at hC hS
  rcases hx:ZbU w b l with ⟨p,m,e⟩
  rw [hx] at hC hS hu
  simp only at hC hS hu ⊢
  by_cases he:e=0
  ·subst he
   obtain ⟨u1,u2,u3⟩:=hu rfl
   have n0:((0:Int) != 0)=false:=rfl
   rw [if_pos rfl]
   have ih:=Zt7 w N U hU hN9 n (b.drop m) (l++[p]) (by simp;omega) (by simp;omega) (by
    intro q hq
    rcases List.mem_append.1 hq with h | h
    ·exact hd q h
    ·simp at h;subst h;omega)
   have hs:=fun σ kk=>Zfb σ b kk ((m:Nat):Int) (by omega) (by omega)
   have e2:(((m:Nat):Int)).toNat=m:=rfl
   rw [e2] at hs
   generalize ZdW w n (b.drop m) (l++[p])=R at *
   unfold Zg5 at ih ⊢
   rw [ZX]
   cases l with
   | nil =>
    simp only [XM] at hC
    simp only [List.nil_append,Xt,XM,ZhB,Zh0,Zfj,Zfy,XH,XG,XE,Zq,ZbN,ZV] at ih ⊢
    simp -implicitDefEqProofs only [EQA,ZT,Zbk,Xe,Xc,Xf,Xb,Xg,reduceCtorEq,ZR,↓reduceIte,gcT,gcA,Zy,Zu,Zk,Zr,ZO,Zo,ZJ,ZB,ZG,Zhg,ZfE,hpos,hC,n0,hs,Zay,kOk,viewAs,ZW,ZP,ZaS,Zn,Nat.one_mul,AVal.cells]
    exact ih
   | cons a l =>
    have hXl:((a::l).map Zq).length=l.length+1:=by simp
    rw [List.map_append] at ih
    generalize hX:(a::l).map Zq=X at *
    have hXp:0 < X.length:=by omega
    have hXq:0 < (X++[p].map Zq).length:=by rw [Xk];omega
    simp only [Zmh hXp,ZkX hXp,Zmh hXq,ZkX hXq] at ih ⊢
    have hk:kOk 5 X=true:=by rw [<-hX];rfl
    have hb9:(X.length+1)*72<=140737488355328:=by simp at hN;omega
    try simp only [Xt,XM,Zq,ZbN,ZV,Xk,XH,XG,XE] at ih
    simp -implicitDefEqProofs only [EQA,ZT,Zbk,Xe,Xc,Xf,Xb,Xg,reduceCtorEq,ZR,↓reduceIte,gcT,gcA,Zy,Zu,Zk,Zr,ZO,Zo,ZJ,ZB,ZG,Zhg,ZfE,hpos,hS,n0,hs,hb9,Zay,kOk,viewAs,ZW,ZP,ZaS,Zn,AVal.cells]
    exact ih
  ·have n1:(e != 0)=true:=by simpa using he
   rw [if_neg he]
   unfold Zix Zg5
   simp only
   rw [if_neg he,ZX]
   cases l with
   | nil =>
    simp only [XM,Zfj,Zfy] at hC ⊢
    simp -implicitDefEqProofs only [EQA,Zs,Xe,Xc,Xf,Xb,Xg,reduceCtorEq,↓reduceIte,Zd,Zg6,Zhg,ZfE,hpos,hC,n1,AVal.cells]
    try (simp [Z8,gcA,Zy,Zu,Zp,Z3,Zk,Zr,ZO,Zo,ZJ,Zg,Zm,ZB,ZG,WG])
   | cons a l =>
    generalize hX:(a::l).map Zq=X at *
    have hXp:0 < X.length:=by rw [<-hX];simp
    simp only [Zmh hXp,ZkX hXp]
    simp -implicitDefEqProofs only [EQA,Zs,Xe,Xc,Xf,Xb,Xg,reduceCtorEq,↓reduceIte,Zd,Zg6,Zhg,ZfE,hpos,hS,n1,AVal.cells]
    try (simp [Z8,gcA,Zy,Zu,Zp,Z3,Zk,Zr,ZO,Zo,ZJ,Zg,Zm,ZB,ZG,WG])
theorem ZuK:∀ (b:Zb) (i n:Nat),i<=4->n < 128 ^ i->(gvA i n b).1 < 268435456
 | [],i,n,hi,hn=>by unfold gvA;split <;> simp
 | c::r,i,n,hi,hn=>by
  have ha:c.toNat % 128 < 128:=Nat.mod_lt _ (by decide)
  unfold gvA
  split
  ·simp
  ·rename_i h4
   have hb:=ZvX n i _ hn ha
   have hp:128 ^ (i+1)<=128 ^ 4:=Nat.pow_le_pow_right (by decide) (by omega)
   split
   ·split
    ·simp
    ·simp only;omega
   ·exact ZuK r (i+1) _ (by omega) hb
theorem ZpB (b:Zb):(Zag b).1 < 268435456:=ZuK b 0 0 (by omega) (by simp)
def Zro (x:List Zv×Nat×Int):AVal×Za:=(.tup [Zew (x.1.map Zq),.int .i64 (x.2.1:Nat),.int .i64 x.2.2],ZeE 5 (x.1.map Zq))
theorem Zz1 (w:Int) (b:Zb) (hl:b.length<=140737488355328):E 140 [.int .i64 w,ZV b] []=some (Zro (Zao w b)):=by
 have hGV:=fun σ sq own f=>ZmD σ sq own f b (by omega)
 have hu:=Znd b
 have hlt:=ZpB b
 have hle:=Zs2 b
 unfold Zao Zro
 rcases hx:Zag b with ⟨n,u,e⟩
 rw [hx] at hGV hu hlt hle
 unfold gvT at hGV
 simp only at hGV hu hlt hle ⊢
 have hw:IntKind.i64.wrap ((b.length:Int) - (u:Int))=(b.length:Int) - (u:Int):=ZbO (by omega) (by omega)
 by_cases he:e=0
 ·subst he
  have n0:((0:Int) != 0)=false:=rfl
  by_cases hn:(n:Int) > (b.length:Int) - (u:Int)
  ·rw [if_pos (Xy hn),Zh (by rfl) Zp5]
   simp -implicitDefEqProofs only [EQA,Zs,Xc,Xb,ZE,unG,reduceCtorEq,↓reduceIte,Zd,Zor,ZiA,Zg6,ZV,hGV,n0,hw,hn]
   simp []
   exact ⟨rfl,rfl⟩
  ·have hc:¬((0:Int)≠0\/(n:Int) > (b.length:Int) - (u:Int)):=by simpa using hn
   rw [if_neg hc,Zh (by rfl) Zp5]
   have hw2:IntKind.i64.wrap ((u:Int)+(n:Int))=((u+n:Nat):Int):=by rw [ZbO (by omega) (by omega)];rfl
   have hs:=fun σ k1 k2=>Zuq σ b k1 k2 ((u:Nat):Int) ((u+n:Nat):Int) (by omega) (by omega) (by omega)
   have e1:(((u:Nat):Int)).toNat=u:=rfl
   have e2:(((u+n:Nat):Int)).toNat=u+n:=rfl
   rw [e1,e2] at hs
   have key:=Zt7 w n u (by omega) (by omega) n ((b.take (u+n)).drop u) [] (by simp;omega) (by simp;omega) (by simp)
   generalize (b.take (u+n)).drop u=B at *
   unfold Zg5 at key
   simp only [XM,Zfj,Zfy] at key
   simp -implicitDefEqProofs only [EQA,ZT,Xc,Xb,ZE,unG,reduceCtorEq,↓reduceIte,gcT,gcA,Zy,Zu,Zr,ZG,Zor,ZiA,ZV,hGV,n0,hw,hn,hw2,hs]
   rw [key]
   unfold Zix
   split <;> rfl
 ·have n1:(e != 0)=true:=by simpa using he
  rw [if_pos (Xr he),Zh (by rfl) Zp5]
  simp -implicitDefEqProofs only [EQA,Zs,Xc,Xb,ZE,Zaz,reduceCtorEq,↓reduceIte,Zd,Zor,ZiA,Zg6,ZV,hGV,n1]
  simp []
  exact ⟨rfl,rfl⟩
theorem ZzF {σ:Za} {x:AVal} (h:Za2 x=true):ZW σ x=some (x,[])/\Z3 x=[]/\∀ ρ,Zm ρ x=x:=by
 cases x <;> simp [Za2] at h <;> simp [ZW,ZP,Z3,Zm]
theorem Zms {σ:Za}:∀ {vs:List AVal},vs.all Za2=true->viewAs σ vs=some (vs,[])/\Zp vs=[]/\∀ ρ,Zg ρ vs=vs
 | [],_=>⟨rfl,rfl,fun _=>rfl⟩
 | x::xs,h=>by
  simp only [XP,Xj] at h
  obtain ⟨a1,a2,a3⟩:=ZzF (σ:=σ) h.1
  obtain ⟨b1,b2,b3⟩:=Zms (σ:=σ) h.2
  refine ⟨by simp only [viewAs,a1,b1,Xp],by simp only [Zp,a2,b2,Xp],fun ρ=>by simp only [Zg,a3,b3]⟩
theorem ZLB {O:ZN} {bf:Nat->Bool} {f k:Nat} {args args':List AVal} {full vs:List AVal} (h:O f args' []=some (.tup (Zew full::vs),ZeE k full)) (hv:vs.all Za2=true) (hb:bf f=false) (hp:args.all Zai=true) (hn:args.map ZL=args') (σ:Za) (sq own:Nat):Zi O bf σ sq f own true args=some (.tup (.lst false full::vs),σ,{}):=by
 have hr:∀ sq,Zm (ZaA [] [] sq) (.tup (.lst false full::vs))=.tup (.lst false full::vs):=fun sq=>by
  simp only [Zm,Zg,(Zms (σ:=[]) hv).2.2]
 rw [ZgJ hb hp,hn,h]
 have : Z5 true 0 (some (.tup (Zew full::vs),ZeE k full))=some (.tup (.lst false full::vs),[]):=by
  unfold Z5
  rw [if_pos rfl]
  cases full with
  | nil =>
   obtain ⟨b1,b2,b3⟩:=Zms (σ:=[]) hv
   simp [Zfj,Zfy,ZbB,viewR,viewAs,ZW,ZP,b1,Zn,gcA,Zy,Zu,Zp,Z3,b2,Zg,Zm,b3,Zr]
  | cons x xs =>
   obtain ⟨b1,b2,b3⟩:=Zms (σ:=[ZK.row 0 k (x::xs)]) hv
   simp only [ZhB,Zh0]
   generalize x::xs=X at *
   simp [ZbB,viewR,viewAs,ZW,ZP,ZR,b1,Zn,gcA,Zy,Zu,Zp,Z3,b2,Zg,Zm,b3,Zr]
 rw [this,ZiV _ _ _ _ (hr sq)]
theorem Zk6 (σ:Za) (sq own:Nat) (f:Bool) (w:Int) (b:Zb) (hl:b.length<=140737488355328):Zi E BY σ sq 140 own true [.int .i64 w,.lst f (b.map Zc)]=some (.tup [.lst false ((Zao w b).1.map Zq),.int .i64 ((Zao w b).2.1:Nat),.int .i64 (Zao w b).2.2],σ,{}) :=
 ZLB (k:=5) (Zz1 w b hl) rfl (by kernel_rfl) rfl rfl _ _ _
end
section
end
section
structure Zd6 where
 b:Zb
 short:Bool
def Zig (b:Zb):Int:=IntKind.i64.wrap (ZcK b:Int)
end
section
def Zba:Zf:=(.seq (.region [oI 1 (.box (.t 0))] none [1]) (.seq (.region [oL 4 1,oI 5 (.nilchk (.t 4)),oF 6 0 5,oI 2 (.alloc [.nilp]),oN (.st 1 (.t 2) (.t 6))] none [2,1]) (.seq (.seq (.region [oL 7 2,oI 8 (.nilchk (.t 7)),oF 9 0 8,oL 10 9] none [10,2,1]) (.block 0 (.seq (.region [oI 12 (.bin .eql (.t 10) (.c (.int .i64 1))),oM 11 12] none [11,10,2,1]) (.cond (.t 11) (.region [oL 13 1,oI 14 (.call 110 0 true [(.t 13)])] none [1]) (.seq (.region [oI 16 (.bin .eql (.t 10) (.c (.int .i64 2))),oM 15 16] none [15,10,2,1]) (.cond (.t 15) (.seq (.region [oL 17 1,oI 18 (.call 111 0 true [(.t 17),(.c (.int .i64 1))]),oM 3 18] none [3,2,1]) (.seq (.region [oM 19 3,oI 20 (.bin .lss (.t 19) (.c (.int .i64 2))),oI 21 (.call 109 0 true [(.t 20),(.c (.int .i64 129))])] none [3,2,1]) (.seq (.region [oL 22 2,oM 23 3,oI 24 (.bin .eql (.t 23) (.c (.int .i64 1))),oI 25 (.nilchk (.t 22)),oF 26 25 25,oN (.st 1 (.t 26) (.t 24))] none [2,1]) (.seq (.region [oL 27 2,oL 28 1,oI 29 (.call 112 0 true [(.t 28)]),oI 30 (.nilchk (.t 27)),oF 31 7 30,oN (.st 1 (.t 31) (.t 29))] (some [(0,1),(0,2),(2,2)]) [2,1]) (.region [oL 32 2,oL 33 1,oI 34 (.call 113 0 true [(.t 33),(.c (.int .i64 2))]),oI 35 (.nilchk (.t 32)),oF 36 9 35,oN (.st 1 (.t 36) (.t 34))] (some [(0,1),(0,2),(2,2)]) [1]))))) (.seq (.region [oI 38 (.bin .eql (.t 10) (.c (.int .i64 3))),oM 37 38] none [37,10,2,1]) (.cond (.t 37) (.region [oL 39 1,oI 40 (.call 114 0 true [(.t 39)])] none [1]) (.seq (.seq (.region [oI 42 (.bin .eql (.t 10) (.c (.int .i64 4))),oM 41 42] none [41,10,2,1]) (.cond (.t 41) .skip (.seq (.region [oI 43 (.bin .eql (.t 10) (.c (.int .i64 5))),oM 41 43] none [41,10,2,1]) (.cond (.t 41) .skip (.seq (.region [oI 44 (.bin .eql (.t 10) (.c (.int .i64 6))),oM 41 44] none [41,10,2,1]) (.cond (.t 41) .skip (.region [oI 45 (.bin .eql (.t 10) (.c (.int .i64 7))),oM 41 45] none [41,10,2,1]))))))) (.cond (.t 41) (.seq (.region [oL 46 1,oI 47 (.call 115 0 true [(.t 46)])] none [1]) (.region [oL 48 1,oI 49 (.call 116 0 true [(.t 48)])] none [1])) (.seq (.region [oI 51 (.bin .eql (.t 10) (.c (.int .i64 8))),oM 50 51] none [50,10,2,1]) (.cond (.t 50) (.region [oL 52 1,oL 53 1,oI 54 (.mkfn 1000118 [(.t 53)]),oI 55 (.call 117 1 true [(.t 52),(.t 54)])] none [1]) (.seq (.region [oI 57 (.bin .eql (.t 10) (.c (.int .i64 10))),oM 56 57] none [56,10,2,1]) (.cond (.t 56) (.region [oL 58 1,oI 59 (.mkfn 119 [(.t 2),(.t 1)]),oI 60 (.call 117 1 true [(.t 58),(.t 59)])] none [1]) (.seq (.seq (.region [oI 62 (.bin .eql (.t 10) (.c (.int .i64 9))),oM 61 62] none [61,10,2,1]) (.cond (.t 61) .skip (.region [oI 63 (.bin .eql (.t 10) (.c (.int .i64 11))),oM 61 63] none [61,10,2,1]))) (.cond (.t 61) (.region [oL 64 1,oI 65 (.mkfn 121 [(.t 2),(.t 1)]),oI 66 (.call 117 1 true [(.t 64),(.t 65)])] none [1]) (.seq (.seq (.region [oI 68 (.bin .eql (.t 10) (.c (.int .i64 14))),oM 67 68] none [67,10,1]) (.cond (.t 67) .skip (.region [oI 69 (.bin .eql (.t 10) (.c (.int .i64 15))),oM 67 69] none [67,1]))) (.cond (.t 67) (.region [oL 70 1,oI 71 (.call 116 0 true [(.t 70)])] none [1]) .skip)))))))))))))))))) (.region [oL 72 1,oI 73 (.nilchk (.t 72)),oF 74 26 73,oL 75 74,oI 76 (.len (.t 75)),oI 77 (.bin .eql (.t 76) (.c (.int .i64 0))),oI 78 (.call 109 0 true [(.t 77),(.c (.int .i64 129))])] none []))))
def ZqC:ZF:=⟨[],Zba⟩
theorem Zbg:FC 88=some ZqC:=by kernel_rfl
theorem Zbe:ZqC.body=Zba:=rfl
theorem Zez:ZqC.res=[]:=rfl
def Zc9:Zf:=(.region [oL 2 0,oL 3 0,oI 4 (.nilchk (.t 3)),oF 5 11 4,oL 6 5,oL 7 1,oI 8 (.call 120 0 true [(.t 7)]),oI 9 (.bslice false 1 1 (.str []) [(0,(.t 8))]),oI 10 (.app 1 16 (.str []) (.t 6) (.t 9)),oI 11 (.nilchk (.t 2)),oF 12 11 11,oN (.st 1 (.t 12) (.t 10))] (some [(0,1),(0,4),(0,5),(1,5),(4,5),(0,6),(1,6),(4,6),(0,7),(1,7),(4,7),(0,8),(6,6)]) [])
def ZG6:ZF:=⟨[],Zc9⟩
theorem Zmj:FC 119=some ZG6:=by kernel_rfl
def Zdk:Zf:=(.region [oL 2 0,oL 3 0,oI 4 (.nilchk (.t 3)),oF 5 8 4,oL 6 5,oL 7 1,oI 8 (.call 112 0 true [(.t 7)]),oI 9 (.bslice false 1 1 (.int .i64 0) [(0,(.t 8))]),oI 10 (.app 1 8 (.int .i64 0) (.t 6) (.t 9)),oI 11 (.nilchk (.t 2)),oF 12 8 11,oN (.st 1 (.t 12) (.t 10))] (some [(0,1),(0,4),(0,5),(1,5),(4,5),(0,6),(1,6),(4,6),(0,7),(1,7),(4,7),(0,8),(6,6)]) [])
def ZJr:ZF:=⟨[],Zdk⟩
theorem ZlX:FC 121=some ZJr:=by kernel_rfl
def Zeg:Zf:=(.seq (.region [oI 2 (.mov (.c (.int .i64 0)))] none [0]) (.seq (.region [oM 4 0,oI 5 (.call 111 0 true [(.t 4),(.c (.int .i64 1))]),oM 3 5] none [3,0]) (.seq (.region [oM 6 0,oI 7 (.nilchk (.t 6)),oF 8 0 7,oF 9 0 8,oL 10 9,oM 11 3,oI 12 (.call 146 0 true [(.t 10),(.t 11)]),oI 13 (.call 109 0 true [(.t 12),(.c (.int .i64 130))])] none [3]) (.seq (.region [oM 14 3,oM 2 14] none [2]) .ret))))
def Zn5:ZF:=⟨[(.tmp 2)],Zeg⟩
theorem ZfU:FC 112=some Zn5:=by kernel_rfl
theorem Zft:Zn5.body=Zeg:=rfl
theorem Ztp:Zn5.res=[(.tmp 2)]:=rfl
def Zm3:Zf:=(.seq (.region [oM 4 0,oI 5 (.nilchk (.t 4)),oF 6 0 5,oM 2 6] none [2,0]) (.seq (.region [oM 7 0,oI 8 (.call 120 0 true [(.t 7)]),oI 9 (.bin .eql (.t 8) (.c (.str [77,81,84,84]))),oI 10 (.call 109 0 true [(.t 9),(.c (.int .i64 132))])] none [2,0]) (.seq (.region [oM 11 0,oI 12 (.call 111 0 true [(.t 11),(.c (.int .i64 1))]),oI 13 (.bin .eql (.t 12) (.c (.int .i64 5))),oI 14 (.call 109 0 true [(.t 13),(.c (.int .i64 132))])] none [2,0]) (.seq (.region [oM 15 0,oI 16 (.call 111 0 true [(.t 15),(.c (.int .i64 1))]),oM 3 16] none [3,2,0]) (.seq (.region [oM 17 2,oM 18 2,oM 19 3,oI 20 (.bin .and (.t 19) (.c (.int .i64 2))),oI 21 (.bin .neq (.t 20) (.c (.int .i64 0))),oM 22 3,oI 23 (.bin .and (.t 22) (.c (.int .i64 4))),oI 24 (.bin .neq (.t 23) (.c (.int .i64 0))),oI 25 (.nilchk (.t 17)),oF 26 12 25,oN (.st 1 (.t 26) (.t 21)),oI 27 (.nilchk (.t 18)),oF 28 15 27,oN (.st 1 (.t 28) (.t 24))] none [3,2,0]) (.seq (.region [oM 29 2,oM 30 2,oM 31 3,oI 32 (.bin .and (.t 31) (.c (.int .i64 64))),oI 33 (.bin .neq (.t 32) (.c (.int .i64 0))),oM 34 3,oI 35 (.bin .and (.t 34) (.c (.int .i64 128))),oI 36 (.bin .neq (.t 35) (.c (.int .i64 0))),oI 37 (.nilchk (.t 29)),oF 38 23 37,oN (.st 1 (.t 38) (.t 33)),oI 39 (.nilchk (.t 30)),oF 40 21 39,oN (.st 1 (.t 40) (.t 36))] none [3,2,0]) (.seq (.region [oM 41 2,oM 42 2,oM 43 3,oI 44 (.bin .quo (.t 43) (.c (.int .i64 8))),oI 45 (.bin .and (.t 44) (.c (.int .i64 3))),oM 46 3,oI 47 (.bin .and (.t 46) (.c (.int .i64 32))),oI 48 (.bin .neq (.t 47) (.c (.int .i64 0))),oI 49 (.nilchk (.t 41)),oF 50 16 49,oF 51 2 50,oN (.st 1 (.t 51) (.t 45)),oI 52 (.nilchk (.t 42)),oF 53 16 52,oF 54 3 53,oN (.st 1 (.t 54) (.t 48))] none [3,2,0]) (.seq (.region [oM 55 3,oI 56 (.bin .and (.t 55) (.c (.int .i64 1))),oI 57 (.bin .eql (.t 56) (.c (.int .i64 0))),oM 58 57,⟨(some 59),(.mov (.t 2)),(some (58,true)),[]⟩,⟨(some 60),(.nilchk (.t 59)),(some (58,true)),[]⟩,⟨(some 61),(.faddr 16 (.t 60)),(some (58,true)),[]⟩,⟨(some 62),(.faddr 2 (.t 61)),(some (58,true)),[]⟩,⟨(some 63),(.ld none (.t 62)),(some (58,true)),[]⟩,⟨(some 64),(.bin .lss (.t 63) (.c (.int .i64 3))),(some (58,true)),[]⟩,oI 65 (.pick (.t 58) (.t 64) (.c (.bool false))),oM 66 65,⟨(some 67),(.mov (.t 2)),(some (66,true)),[]⟩,⟨(some 68),(.nilchk (.t 67)),(some (66,true)),[]⟩,⟨(some 69),(.faddr 15 (.t 68)),(some (66,true)),[]⟩,⟨(some 70),(.ld none (.t 69)),(some (66,true)),[]⟩,⟨(some 71),(.mov (.t 70)),(some (66,true)),[]⟩,⟨(some 72),(.mov (.t 2)),(some (71,false)),[]⟩,⟨(some 73),(.nilchk (.t 72)),(some (71,false)),[]⟩,⟨(some 74),(.faddr 16 (.t 73)),(some (71,false)),[]⟩,⟨(some 75),(.faddr 2 (.t 74)),(some (71,false)),[]⟩,⟨(some 76),(.ld none (.t 75)),(some (71,false)),[]⟩,⟨(some 77),(.bin .eql (.t 76) (.c (.int .i64 0))),(some (71,false)),[]⟩,⟨(some 78),(.mov (.t 77)),(some (71,false)),[]⟩,⟨(some 79),(.mov (.t 2)),(some (78,true)),[]⟩,⟨(some 80),(.nilchk (.t 79)),(some (78,true)),[]⟩,⟨(some 81),(.faddr 16 (.t 80)),(some (78,true)),[]⟩,⟨(some 82),(.faddr 3 (.t 81)),(some (78,true)),[]⟩,⟨(some 83),(.ld none (.t 82)),(some (78,true)),[]⟩,⟨(some 84),(.un .not (.t 83)),(some (78,true)),[]⟩,⟨(some 85),(.pick (.t 78) (.t 84) (.c (.bool false))),(some (71,false)),[]⟩,⟨(some 86),(.pick (.t 71) (.c (.bool true)) (.t 85)),(some (66,true)),[]⟩,oI 87 (.pick (.t 66) (.t 86) (.c (.bool false))),oI 88 (.call 109 0 true [(.t 87),(.c (.int .i64 129))])] none [2,0]) (.seq (.region [oM 89 2,oM 90 0,oI 91 (.call 111 0 true [(.t 90),(.c (.int .i64 2))]),oI 92 (.nilchk (.t 89)),oF 93 13 92,oN (.st 1 (.t 93) (.t 91))] none [2,0]) (.seq (.region [oM 94 2,oM 95 0,oI 96 (.call 113 0 true [(.t 95),(.c (.int .i64 1))]),oI 97 (.nilchk (.t 94)),oF 98 9 97,oN (.st 1 (.t 98) (.t 96))] none [2,0]) (.seq (.region [oM 99 2,oM 100 0,oI 101 (.call 120 0 true [(.t 100)]),oI 102 (.nilchk (.t 99)),oF 103 14 102,oN (.st 1 (.t 103) (.t 101))] none [2,0]) (.seq (.seq (.region [oM 104 2,oI 105 (.nilchk (.t 104)),oF 106 15 105,oL 107 106] none [107,2,0]) (.cond (.t 107) (.seq (.region [oM 108 2,oM 109 0,oI 110 (.call 113 0 true [(.t 109),(.c (.int .i64 16))]),oI 111 (.nilchk (.t 108)),oF 112 16 111,oF 113 4 112,oN (.st 1 (.t 113) (.t 110))] none [2,0]) (.seq (.region [oM 114 2,oM 115 0,oI 116 (.call 120 0 true [(.t 115)]),oI 117 (.nilchk (.t 114)),oF 118 16 117,oF 119 0 118,oN (.st 1 (.t 119) (.t 116))] none [2,0]) (.region [oM 120 2,oM 121 0,oI 122 (.call 144 0 true [(.t 121)]),oI 123 (.nilchk (.t 120)),oF 124 16 123,oF 125 1 124,oN (.st 1 (.t 125) (.t 122))] none [2,0]))) .skip)) (.seq (.seq (.region [oM 126 2,oI 127 (.nilchk (.t 126)),oF 128 21 127,oL 129 128] none [129,2,0]) (.cond (.t 129) (.region [oM 130 2,oM 131 0,oI 132 (.call 120 0 true [(.t 131)]),oI 133 (.nilchk (.t 130)),oF 134 22 133,oN (.st 1 (.t 134) (.t 132))] none [2,0]) .skip)) (.seq (.region [oM 135 2,oI 136 (.nilchk (.t 135)),oF 137 23 136,oL 138 137] none [138,2,0]) (.cond (.t 138) (.region [oM 139 2,oM 140 0,oI 141 (.call 144 0 true [(.t 140)]),oI 142 (.nilchk (.t 139)),oF 143 24 142,oN (.st 1 (.t 143) (.t 141))] none []) .skip)))))))))))))))
def ZpN:ZF:=⟨[],Zm3⟩
theorem Zq7:FC 110=some ZpN:=by kernel_rfl
def Zli:Zf:=(.seq (.region [oI 2 (.mov (.c (.lst true [])))] none [0]) (.seq (.region [oM 7 0,oI 8 (.nilchk (.t 7)),oF 9 26 8,oL 10 9,oI 11 (.call 164 0 true [(.t 10)]),oM 6 11,oI 12 (.ext (.t 6) 0),oI 13 (.ext (.t 6) 1),oI 14 (.ext (.t 6) 2),oM 3 12,oM 4 13,oM 5 14] none [5,4,3,0]) (.seq (.region [oM 15 5,oI 16 (.bin .eql (.t 15) (.c (.int .i64 0))),oI 17 (.call 109 0 true [(.t 16),(.c (.int .i64 129))])] none [4,3,0]) (.seq (.region [oM 18 0,oM 19 0,oI 20 (.nilchk (.t 19)),oF 21 26 20,oL 22 21,oM 23 4,oI 24 (.slice 1 (.t 22) (some (.t 23)) none none),oI 25 (.nilchk (.t 18)),oF 26 26 25,oN (.st 1 (.t 26) (.t 24))] none [3]) (.seq (.region [oM 27 3,oM 2 27] none [2]) .ret)))))
def ZoQ:ZF:=⟨[(.tmp 2)],Zli⟩
theorem ZrJ:FC 144=some ZoQ:=by kernel_rfl
theorem Zrh:ZoQ.body=Zli:=rfl
theorem ZEA:ZoQ.res=[(.tmp 2)]:=rfl
def ZeT:Zf:=(.seq (.region [oM 5 0,oI 6 (.nilchk (.t 5)),oF 7 0 6,oM 4 7] none [4,1]) (.seq (.region [oM 8 4,oM 9 1,oI 10 (.bin .shr (.t 9) (.c (.int .u64 4))),oI 11 (.i2i .i64 (.t 10)),oI 12 (.nilchk (.t 8)),oF 13 0 12,oN (.st 1 (.t 13) (.t 11))] none [4,1]) (.seq (.region [oM 14 4,oI 15 (.nilchk (.t 14)),oF 16 0 15,oL 17 16,oI 18 (.bin .neq (.t 17) (.c (.int .i64 0))),oI 19 (.call 109 0 true [(.t 18),(.c (.int .i64 129))])] none [4,1]) (.seq (.seq (.region [oM 20 4,oI 21 (.nilchk (.t 20)),oF 22 0 21,oL 23 22,oI 24 (.bin .neq (.t 23) (.c (.int .i64 3)))] none [24,4,1]) (.cond (.t 24) (.seq (.region [oM 25 1,oI 26 (.bin .and (.t 25) (.c (.int .u8 15))),oM 27 4,oI 28 (.nilchk (.t 27)),oF 29 0 28,oL 30 29,oI 31 (.call 63 0 true [(.t 30)]),oI 32 (.bin .eql (.t 26) (.t 31)),oI 33 (.call 109 0 true [(.t 32),(.c (.int .i64 129))])] none []) .ret) .skip)) (.seq (.region [oM 34 4,oM 35 4,oM 36 4,oM 37 1,oI 38 (.bin .and (.t 37) (.c (.int .u8 8))),oI 39 (.bin .neq (.t 38) (.c (.int .u8 0))),oM 40 1,oI 41 (.bin .shr (.t 40) (.c (.int .u64 1))),oI 42 (.bin .and (.t 41) (.c (.int .u8 3))),oI 43 (.i2i .i64 (.t 42)),oM 44 1,oI 45 (.bin .and (.t 44) (.c (.int .u8 1))),oI 46 (.bin .neq (.t 45) (.c (.int .u8 0))),oI 47 (.nilchk (.t 34)),oF 48 1 47,oN (.st 1 (.t 48) (.t 39)),oI 49 (.nilchk (.t 35)),oF 50 2 49,oN (.st 1 (.t 50) (.t 43)),oI 51 (.nilchk (.t 36)),oF 52 3 51,oN (.st 1 (.t 52) (.t 46))] none [4]) (.seq (.region [oM 53 4,oI 54 (.nilchk (.t 53)),oF 55 2 54,oL 56 55,oI 57 (.bin .lss (.t 56) (.c (.int .i64 3))),oI 58 (.call 109 0 true [(.t 57),(.c (.int .i64 129))])] none [4]) (.region [oM 59 4,oI 60 (.nilchk (.t 59)),oF 61 2 60,oL 62 61,oI 63 (.bin .gtr (.t 62) (.c (.int .i64 0))),oM 64 63,⟨(some 65),(.mov (.t 4)),(some (64,false)),[]⟩,⟨(some 66),(.nilchk (.t 65)),(some (64,false)),[]⟩,⟨(some 67),(.faddr 1 (.t 66)),(some (64,false)),[]⟩,⟨(some 68),(.ld none (.t 67)),(some (64,false)),[]⟩,⟨(some 69),(.un .not (.t 68)),(some (64,false)),[]⟩,oI 70 (.pick (.t 64) (.c (.bool true)) (.t 69)),oI 71 (.call 109 0 true [(.t 70),(.c (.int .i64 130))])] none [])))))))
def ZpD:ZF:=⟨[],ZeT⟩
theorem ZgU:FC 87=some ZpD:=by kernel_rfl
theorem ZgD:ZpD.body=ZeT:=rfl
theorem Zns:ZpD.res=[]:=rfl
def Zjo:Zf:=(.seq (.region [oM 2 0,oM 3 0,oI 4 (.call 111 0 true [(.t 3),(.c (.int .i64 2))]),oI 5 (.nilchk (.t 2)),oF 6 0 5,oF 7 4 6,oN (.st 1 (.t 7) (.t 4))] none [0]) (.region [oM 8 0,oI 9 (.nilchk (.t 8)),oF 10 0 9,oF 11 4 10,oL 12 11,oI 13 (.bin .neq (.t 12) (.c (.int .i64 0))),oI 14 (.call 109 0 true [(.t 13),(.c (.int .i64 130))])] none []))
def Zob:ZF:=⟨[],Zjo⟩
theorem Zp1:FC 115=some Zob:=by kernel_rfl
theorem Zox:Zob.body=Zjo:=rfl
theorem ZMR:Zob.res=[]:=rfl
def ZcM:Zf:=(.seq (.seq (.region [oM 24 0,oI 25 (.nilchk (.t 24)),oF 26 26 25,oL 27 26,oI 28 (.len (.t 27)),oI 29 (.bin .gtr (.t 28) (.c (.int .i64 0)))] none [29,1,0]) (.cond (.t 29) .skip (.exit 0))) (.block 1 (.region [oM 30 1,oI 31 (.callv (.t 30) [])] none [1,0])))
def Zq3:Zf:=ZcM
def Zdw:=xw Zq3 ZcM rfl
def ZeG:Zf:=(.seq (.region [oM 4 0,oI 5 (.call 115 0 true [(.t 4)])] none [1,0]) (.seq (.region [oM 6 0,oM 7 0,oM 8 0,oI 9 (.nilchk (.t 8)),oF 10 0 9,oF 11 0 10,oL 12 11,oI 13 (.call 113 0 true [(.t 7),(.t 12)]),oI 14 (.nilchk (.t 6)),oF 15 0 14,oF 16 9 15,oN (.st 1 (.t 16) (.t 13))] none [1,0]) (.seq (.region [oM 17 0,oI 18 (.nilchk (.t 17)),oF 19 26 18,oL 20 19,oI 21 (.len (.t 20)),oI 22 (.bin .gtr (.t 21) (.c (.int .i64 0))),oI 23 (.call 109 0 true [(.t 22),(.c (.int .i64 130))])] none [1,0]) (.block 0 (.loop [1,0] Zq3)))))
def ZlL:ZF:=⟨[],ZeG⟩
theorem Zfl:FC 117=some ZlL:=by kernel_rfl
theorem ZfT:ZlL.body=ZeG:=rfl
theorem ZlR:ZlL.res=[]:=rfl
noncomputable def Za3 (m:Nat) (tm:Tms) (σ:Za):Option (AVal×Za):=(Zau m ZlL (Wa (ZaR 0) (evL FC PR BY m [1,0] Zq3 tm σ)))
def ZhU:Zf:=(.seq (.region [oI 4 (.mov (.c (.int .i64 0)))] none [1,0]) (.seq (.region [oM 6 0,oI 7 (.nilchk (.t 6)),oF 8 26 7,oL 9 8,oI 10 (.len (.t 9)),oM 11 1,oI 12 (.bin .geq (.t 10) (.t 11)),oI 13 (.call 109 0 true [(.t 12),(.c (.int .i64 129))])] none [1,0]) (.seq (.region [oM 14 0,oI 15 (.nilchk (.t 14)),oF 16 26 15,oL 17 16,oM 18 1,oI 19 (.slice 1 (.t 17) none (some (.t 18)) none),oI 20 (.call 145 0 true [(.t 19)]),oI 21 (.i2i .i64 (.t 20)),oM 5 21] none [5,1,0]) (.seq (.region [oM 22 0,oM 23 0,oI 24 (.nilchk (.t 23)),oF 25 26 24,oL 26 25,oM 27 1,oI 28 (.slice 1 (.t 26) (some (.t 27)) none none),oI 29 (.nilchk (.t 22)),oF 30 26 29,oN (.st 1 (.t 30) (.t 28))] none [5]) (.seq (.region [oM 31 5,oM 4 31] none [4]) .ret)))))
def Zpj:ZF:=⟨[(.tmp 4)],ZhU⟩
theorem ZkK:FC 111=some Zpj:=by kernel_rfl
theorem ZlO:Zpj.body=ZhU:=rfl
theorem Zud:Zpj.res=[(.tmp 4)]:=rfl
def Zj3:Zf:=(.seq (.region [oI 4 (.mov (.c (.lst true [])))] none [1,0]) (.seq (.region [oM 9 1,oM 10 0,oI 11 (.nilchk (.t 10)),oF 12 26 11,oL 13 12,oI 14 (.call 140 0 true [(.t 9),(.t 13)]),oM 8 14,oI 15 (.ext (.t 8) 0),oI 16 (.ext (.t 8) 1),oI 17 (.ext (.t 8) 2),oM 5 15,oM 6 16,oM 7 17] none [7,6,5,0]) (.seq (.region [oM 18 7,oI 19 (.bin .eql (.t 18) (.c (.int .i64 0))),oM 20 7,oI 21 (.call 109 0 true [(.t 19),(.t 20)])] none [6,5,0]) (.seq (.region [oM 22 0,oM 23 0,oI 24 (.nilchk (.t 23)),oF 25 26 24,oL 26 25,oM 27 6,oI 28 (.slice 1 (.t 26) (some (.t 27)) none none),oI 29 (.nilchk (.t 22)),oF 30 26 29,oN (.st 1 (.t 30) (.t 28))] none [5]) (.seq (.region [oM 31 5,oM 4 31] none [4]) .ret)))))
def Zqx:ZF:=⟨[(.tmp 4)],Zj3⟩
theorem ZsQ:FC 113=some Zqx:=by kernel_rfl
theorem Zu4:Zqx.body=Zj3:=rfl
theorem ZFO:Zqx.res=[(.tmp 4)]:=rfl
def Zfo:Zf:=(.seq (.region [oM 2 0,oM 3 0,oI 4 (.call 120 0 true [(.t 3)]),oI 5 (.nilchk (.t 2)),oF 6 0 5,oF 7 5 6,oN (.st 1 (.t 7) (.t 4))] none [0]) (.seq (.seq (.region [oM 8 0,oI 9 (.nilchk (.t 8)),oF 10 0 9,oF 11 2 10,oL 12 11,oI 13 (.bin .gtr (.t 12) (.c (.int .i64 0)))] none [13,0]) (.cond (.t 13) (.region [oM 14 0,oI 15 (.call 115 0 true [(.t 14)])] none [0]) .skip)) (.seq (.region [oM 16 0,oM 17 0,oI 18 (.call 113 0 true [(.t 17),(.c (.int .i64 3))]),oI 19 (.nilchk (.t 16)),oF 20 0 19,oF 21 9 20,oN (.st 1 (.t 21) (.t 18))] none [0]) (.region [oM 22 0,oM 23 0,oM 24 0,oI 25 (.nilchk (.t 24)),oF 26 26 25,oL 27 26,oI 28 (.call 53 0 true [(.t 27)]),oI 29 (.nilchk (.t 22)),oF 30 0 29,oF 31 6 30,oN (.st 1 (.t 31) (.t 28)),oI 32 (.nilchk (.t 23)),oF 33 26 32,oN (.st 1 (.t 33) (.c (.lst true [])))] none []))))
def Zpb:ZF:=⟨[],Zfo⟩
theorem ZhD:FC 114=some Zpb:=by kernel_rfl
theorem Zhv:Zpb.body=Zfo:=rfl
theorem ZvK:Zpb.res=[]:=rfl
def Zf6:Zf:=(.seq (.seq (.region [oM 2 0,oI 3 (.nilchk (.t 2)),oF 4 26 3,oL 5 4,oI 6 (.len (.t 5)),oI 7 (.bin .gtr (.t 6) (.c (.int .i64 0)))] none [7,0]) (.cond (.t 7) (.region [oM 8 0,oM 9 0,oI 10 (.call 112 0 true [(.t 9)]),oI 11 (.nilchk (.t 8)),oF 12 0 11,oF 13 7 12,oN (.st 1 (.t 13) (.t 10))] none [0]) .skip)) (.seq (.region [oM 14 0,oI 15 (.nilchk (.t 14)),oF 16 26 15,oL 17 16,oI 18 (.len (.t 17)),oI 19 (.bin .gtr (.t 18) (.c (.int .i64 0)))] none [19,0]) (.cond (.t 19) (.region [oM 20 0,oM 21 0,oM 22 0,oI 23 (.nilchk (.t 22)),oF 24 0 23,oF 25 0 24,oL 26 25,oI 27 (.call 113 0 true [(.t 21),(.t 26)]),oI 28 (.nilchk (.t 20)),oF 29 0 28,oF 30 9 29,oN (.st 1 (.t 30) (.t 27))] none []) .skip)))
def ZmM:ZF:=⟨[],Zf6⟩
theorem Zjj:FC 116=some ZmM:=by kernel_rfl
theorem Ziw:ZmM.body=Zf6:=rfl
theorem Zm4:ZmM.res=[]:=rfl
def ZcR:Zf:=(.seq (.region [oM 4 0,oI 5 (.call 120 0 true [(.t 4)]),oI 6 (.build [(.str []),(.int .i64 0),(.bool false),(.bool false),(.int .i64 0),(.int .i64 0)] [(0,1,(.t 5))]),oI 2 (.alloc [(.str []),(.int .i64 0),(.bool false),(.bool false),(.int .i64 0),(.int .i64 0)]),oN (.st 6 (.t 2) (.t 6))] none [2,0]) (.seq (.region [oM 7 0,oI 8 (.call 111 0 true [(.t 7),(.c (.int .i64 1))]),oM 3 8] none [3,2,0]) (.seq (.region [oM 9 3,oI 10 (.bin .lss (.t 9) (.c (.int .i64 64))),oI 11 (.call 109 0 true [(.t 10),(.c (.int .i64 129))])] none [3,2,0]) (.seq (.region [oM 12 3,oI 13 (.bin .and (.t 12) (.c (.int .i64 3))),oM 14 3,oI 15 (.bin .quo (.t 14) (.c (.int .i64 16))),oF 16 1 2,oN (.st 1 (.t 16) (.t 13)),oF 17 4 2,oN (.st 1 (.t 17) (.t 15))] none [3,2,0]) (.seq (.region [oM 18 3,oI 19 (.bin .and (.t 18) (.c (.int .i64 4))),oI 20 (.bin .neq (.t 19) (.c (.int .i64 0))),oM 21 3,oI 22 (.bin .and (.t 21) (.c (.int .i64 8))),oI 23 (.bin .neq (.t 22) (.c (.int .i64 0))),oF 24 2 2,oN (.st 1 (.t 24) (.t 20)),oF 25 3 2,oN (.st 1 (.t 25) (.t 23))] none [2,0]) (.seq (.region [oF 26 1 2,oL 27 26,oI 28 (.bin .lss (.t 27) (.c (.int .i64 3))),oM 29 28,⟨(some 30),(.faddr 4 (.t 2)),(some (29,true)),[]⟩,⟨(some 31),(.ld none (.t 30)),(some (29,true)),[]⟩,⟨(some 32),(.bin .lss (.t 31) (.c (.int .i64 3))),(some (29,true)),[]⟩,oI 33 (.pick (.t 29) (.t 32) (.c (.bool false))),oI 34 (.call 109 0 true [(.t 33),(.c (.int .i64 130))])] none [2,0]) (.region [oM 35 0,oM 36 0,oI 37 (.nilchk (.t 36)),oF 38 0 37,oF 39 10 38,oL 40 39,oI 41 (.ld (some 6) (.t 2)),oI 42 (.bslice false 6 1 (.agg [(.str []),(.int .i64 0),(.bool false),(.bool false),(.int .i64 0),(.int .i64 0)]) [(0,(.t 41))]),oI 43 (.app 6 48 (.agg [(.str []),(.int .i64 0),(.bool false),(.bool false),(.int .i64 0),(.int .i64 0)]) (.t 40) (.t 42)),oI 44 (.nilchk (.t 35)),oF 45 0 44,oF 46 10 45,oN (.st 1 (.t 46) (.t 43))] (some [(5,6),(5,7)]) [])))))))
def ZqR:ZF:=⟨[],ZcR⟩
theorem ZdL:FC 118=some ZqR:=by kernel_rfl
theorem ZdF:ZqR.body=ZcR:=rfl
theorem Ztz:ZqR.res=[]:=rfl
def Zhl:Zf:=(.seq (.region [oI 2 (.mov (.c (.str [])))] none [0]) (.seq (.region [oM 7 0,oI 8 (.nilchk (.t 7)),oF 9 26 8,oL 10 9,oI 11 (.call 147 0 true [(.t 10)]),oM 6 11,oI 12 (.ext (.t 6) 0),oI 13 (.ext (.t 6) 1),oI 14 (.ext (.t 6) 2),oM 3 12,oM 4 13,oM 5 14] none [5,4,3,0]) (.seq (.region [oM 15 5,oI 16 (.bin .eql (.t 15) (.c (.int .i64 0))),oI 17 (.call 109 0 true [(.t 16),(.c (.int .i64 129))])] none [4,3,0]) (.seq (.region [oM 18 0,oM 19 0,oI 20 (.nilchk (.t 19)),oF 21 26 20,oL 22 21,oM 23 4,oI 24 (.slice 1 (.t 22) (some (.t 23)) none none),oI 25 (.nilchk (.t 18)),oF 26 26 25,oN (.st 1 (.t 26) (.t 24))] none [3]) (.seq (.region [oM 27 3,oM 2 27] none [2]) .ret)))))
def Zoq:ZF:=⟨[(.tmp 2)],Zhl⟩
theorem ZmA:FC 120=some Zoq:=by kernel_rfl
theorem Zl3:Zoq.body=Zhl:=rfl
theorem Zwf:Zoq.res=[(.tmp 2)]:=rfl
def ZkC:Zf:=(.seq (.region [oI 76 (.bin .lss (.t 75) (.t 74))] none [76,75,74,73,0]) (.seq (.cond (.t 76) .skip (.exit 1)) (.seq (.block 2 (.seq (.region [oI 77 (.iaddr 6 (.t 73) (.t 75)),oI 78 (.ld (some 6) (.t 77)),oI 5 (.alloc [(.str []),(.int .i64 0),(.bool false),(.bool false),(.int .i64 0),(.int .i64 0)]),oN (.st 6 (.t 5) (.t 78))] none [75,74,73,5,0]) (.seq (.region [oM 79 0,oF 80 0 5,oL 81 80,oI 82 (.call 82 1 true [(.t 79),(.t 81)])] none [75,74,73,5,0]) (.region [oM 83 0,oF 84 1 5,oL 85 84,oI 86 (.bin .and (.t 85) (.c (.int .i64 3))),oF 87 2 5,oL 88 87,oI 89 (.call 65 0 true [(.t 88),(.c (.int .i64 4))]),oI 90 (.bin .add (.t 86) (.t 89)),oF 91 3 5,oL 92 91,oI 93 (.call 65 0 true [(.t 92),(.c (.int .i64 8))]),oI 94 (.bin .add (.t 90) (.t 93)),oF 95 4 5,oL 96 95,oI 97 (.bin .and (.t 96) (.c (.int .i64 3))),oI 98 (.bin .mul (.t 97) (.c (.int .i64 16))),oI 99 (.bin .add (.t 94) (.t 98)),oI 100 (.call 80 1 true [(.t 83),(.t 99),(.c (.int .i64 1))])] (some [(2,5),(2,6),(2,9),(5,9),(6,9),(2,10),(2,13),(5,13),(6,13),(9,13),(10,13),(17,17)]) [75,74,73,0])))) (.region [oI 101 (.bin .add (.t 75) (.c (.int .i64 1))),oM 75 101] none [75,74,73,0]))))
def ZnM:Zf:=ZkC
def Zl0:Zf:=(.seq (.region [oI 111 (.bin .lss (.t 110) (.t 109))] none [111,110,109,108,0]) (.seq (.cond (.t 111) .skip (.exit 3)) (.seq (.block 4 (.seq (.region [oI 112 (.iaddr 1 (.t 108) (.t 110)),oL 113 112,oM 7 113] none [110,109,108,7,0]) (.region [oM 114 0,oM 115 7,oI 116 (.call 82 1 true [(.t 114),(.t 115)])] none [110,109,108,0]))) (.region [oI 117 (.bin .add (.t 110) (.c (.int .i64 1))),oM 110 117] none [110,109,108,0]))))
def Zn6:Zf:=Zl0
def Zmb:Zf:=(.seq (.region [oI 128 (.bin .lss (.t 127) (.t 126))] none [128,127,126,125,0]) (.seq (.cond (.t 128) .skip (.exit 5)) (.seq (.block 6 (.seq (.region [oI 129 (.iaddr 1 (.t 125) (.t 127)),oL 130 129,oM 9 130] none [127,126,125,9,0]) (.region [oM 131 0,oM 132 9,oI 133 (.call 80 1 true [(.t 131),(.t 132),(.c (.int .i64 1))])] none [127,126,125,0]))) (.region [oI 134 (.bin .add (.t 127) (.c (.int .i64 1))),oM 127 134] none [127,126,125,0]))))
def ZnA:Zf:=Zmb
def Zda:Zf:=(.seq (.region [oI 3 (.box (.t 1))] none [3,0]) (.seq (.region [oF 10 0 3,oL 11 10] none [11,3,0]) (.block 0 (.seq (.region [oI 13 (.bin .eql (.t 11) (.c (.int .i64 1))),oM 12 13] none [12,11,3,0]) (.cond (.t 12) (.region [oM 14 0,oI 15 (.ld (some 26) (.t 3)),oI 16 (.call 79 1 true [(.t 14),(.t 15)])] none []) (.seq (.region [oI 18 (.bin .eql (.t 11) (.c (.int .i64 2))),oM 17 18] none [17,11,3,0]) (.cond (.t 17) (.seq (.region [oM 19 0,oF 20 25 3,oL 21 20,oI 22 (.call 65 0 true [(.t 21),(.c (.int .i64 1))]),oI 23 (.call 80 1 true [(.t 19),(.t 22),(.c (.int .i64 1))])] none [3,0]) (.seq (.region [oM 24 0,oF 25 7 3,oL 26 25,oI 27 (.call 80 1 true [(.t 24),(.t 26),(.c (.int .i64 1))])] none [3,0]) (.region [oM 28 0,oF 29 9 3,oL 30 29,oI 31 (.call 81 1 true [(.t 28),(.c (.int .i64 2)),(.t 30)])] none []))) (.seq (.region [oI 33 (.bin .eql (.t 11) (.c (.int .i64 3))),oM 32 33] none [32,11,3,0]) (.cond (.t 32) (.seq (.region [oM 34 0,oF 35 5 3,oL 36 35,oI 37 (.call 82 1 true [(.t 34),(.t 36)])] none [3,0]) (.seq (.seq (.region [oF 38 2 3,oL 39 38,oI 40 (.bin .gtr (.t 39) (.c (.int .i64 0)))] none [40,3,0]) (.cond (.t 40) (.region [oM 41 0,oF 42 4 3,oL 43 42,oI 44 (.call 80 1 true [(.t 41),(.t 43),(.c (.int .i64 2))])] none [3,0]) .skip)) (.seq (.region [oM 45 0,oF 46 9 3,oL 47 46,oI 48 (.call 81 1 true [(.t 45),(.c (.int .i64 3)),(.t 47)])] none [3,0]) (.region [oM 49 0,oI 50 (.nilchk (.t 49)),oF 51 0 50,oF 52 6 3,oL 53 52,oI 54 (.call 83 1 true [(.t 51),(.t 53)])] (some [(5,5)]) [])))) (.seq (.seq (.region [oI 56 (.bin .eql (.t 11) (.c (.int .i64 4))),oM 55 56] none [55,11,3,0]) (.cond (.t 55) .skip (.seq (.region [oI 57 (.bin .eql (.t 11) (.c (.int .i64 5))),oM 55 57] none [55,11,3,0]) (.cond (.t 55) .skip (.seq (.region [oI 58 (.bin .eql (.t 11) (.c (.int .i64 6))),oM 55 58] none [55,11,3,0]) (.cond (.t 55) .skip (.region [oI 59 (.bin .eql (.t 11) (.c (.int .i64 7))),oM 55 59] none [55,11,3,0]))))))) (.cond (.t 55) (.seq (.region [oM 60 0,oF 61 4 3,oL 62 61,oI 63 (.call 80 1 true [(.t 60),(.t 62),(.c (.int .i64 2))])] none [3,0]) (.region [oM 64 0,oI 65 (.ld (some 26) (.t 3)),oI 66 (.call 84 1 true [(.t 64),(.t 65)])] none [])) (.seq (.region [oI 68 (.bin .eql (.t 11) (.c (.int .i64 8))),oM 67 68] none [67,11,3,0]) (.cond (.t 67) (.seq (.region [oM 69 0,oI 70 (.ld (some 26) (.t 3)),oI 71 (.call 85 1 true [(.t 69),(.t 70)])] none [3,0]) (.seq (.region [oF 72 10 3,oL 73 72,oI 74 (.len (.t 73)),oI 75 (.mov (.c (.int .i64 0)))] none [75,74,73,0]) (.block 1 (.loop [75,74,73,0] ZnM)))) (.seq (.region [oI 103 (.bin .eql (.t 11) (.c (.int .i64 10))),oM 102 103] none [102,11,3,0]) (.cond (.t 102) (.seq (.region [oM 104 0,oI 105 (.ld (some 26) (.t 3)),oI 106 (.call 85 1 true [(.t 104),(.t 105)])] none [3,0]) (.seq (.region [oF 107 11 3,oL 108 107,oI 109 (.len (.t 108)),oI 110 (.mov (.c (.int .i64 0)))] none [110,109,108,0]) (.block 3 (.loop [110,109,108,0] Zn6)))) (.seq (.seq (.region [oI 119 (.bin .eql (.t 11) (.c (.int .i64 9))),oM 118 119] none [118,11,3,0]) (.cond (.t 118) .skip (.region [oI 120 (.bin .eql (.t 11) (.c (.int .i64 11))),oM 118 120] none [118,11,3,0]))) (.cond (.t 118) (.seq (.region [oM 121 0,oI 122 (.ld (some 26) (.t 3)),oI 123 (.call 85 1 true [(.t 121),(.t 122)])] none [3,0]) (.seq (.region [oF 124 8 3,oL 125 124,oI 126 (.len (.t 125)),oI 127 (.mov (.c (.int .i64 0)))] none [127,126,125,0]) (.block 5 (.loop [127,126,125,0] ZnA)))) (.seq (.seq (.region [oI 136 (.bin .eql (.t 11) (.c (.int .i64 14))),oM 135 136] none [135,11,3,0]) (.cond (.t 135) .skip (.region [oI 137 (.bin .eql (.t 11) (.c (.int .i64 15))),oM 135 137] none [135,3,0]))) (.cond (.t 135) (.region [oM 138 0,oI 139 (.ld (some 26) (.t 3)),oI 140 (.call 84 1 true [(.t 138),(.t 139)])] none []) .skip)))))))))))))))))))
def Zhz:ZF:=⟨[],Zda⟩
theorem Zek:FC 62=some Zhz:=by kernel_rfl
theorem ZdY:Zhz.body=Zda:=rfl
theorem Zd2:Zhz.res=[]:=rfl
def Zef:Zf:=(.seq (.region [oI 3 (.box (.t 1))] none [3,0]) (.seq (.region [oM 4 0,oI 5 (.call 82 1 true [(.t 4),(.c (.str [77,81,84,84]))])] none [3,0]) (.seq (.region [oM 6 0,oI 7 (.call 80 1 true [(.t 6),(.c (.int .i64 5)),(.c (.int .i64 1))])] none [3,0]) (.seq (.region [oM 8 0,oF 9 12 3,oL 10 9,oI 11 (.call 65 0 true [(.t 10),(.c (.int .i64 2))]),oF 12 15 3,oL 13 12,oI 14 (.call 65 0 true [(.t 13),(.c (.int .i64 4))]),oI 15 (.bin .add (.t 11) (.t 14)),oF 16 16 3,oF 17 2 16,oL 18 17,oI 19 (.bin .and (.t 18) (.c (.int .i64 3))),oI 20 (.bin .mul (.t 19) (.c (.int .i64 8))),oI 21 (.bin .add (.t 15) (.t 20)),oF 22 16 3,oF 23 3 22,oL 24 23,oI 25 (.call 65 0 true [(.t 24),(.c (.int .i64 32))]),oI 26 (.bin .add (.t 21) (.t 25)),oF 27 23 3,oL 28 27,oI 29 (.call 65 0 true [(.t 28),(.c (.int .i64 64))]),oI 30 (.bin .add (.t 26) (.t 29)),oF 31 21 3,oL 32 31,oI 33 (.call 65 0 true [(.t 32),(.c (.int .i64 128))]),oI 34 (.bin .add (.t 30) (.t 33)),oI 35 (.call 80 1 true [(.t 8),(.t 34),(.c (.int .i64 1))])] (some [(2,5),(3,5),(2,10),(3,10),(5,10),(6,10),(2,16),(3,16),(5,16),(6,16),(10,16),(10,17),(2,20),(3,20),(5,20),(6,20),(10,20),(16,20),(17,20),(10,21),(2,24),(3,24),(5,24),(6,24),(10,24),(16,24),(17,24),(20,24),(21,24),(10,25),(25,25),(27,27)]) [3,0]) (.seq (.region [oM 36 0,oF 37 13 3,oL 38 37,oI 39 (.call 80 1 true [(.t 36),(.t 38),(.c (.int .i64 2))])] none [3,0]) (.seq (.region [oM 40 0,oF 41 9 3,oL 42 41,oI 43 (.call 81 1 true [(.t 40),(.c (.int .i64 1)),(.t 42)])] none [3,0]) (.seq (.region [oM 44 0,oF 45 14 3,oL 46 45,oI 47 (.call 82 1 true [(.t 44),(.t 46)])] none [3,0]) (.seq (.seq (.region [oF 48 15 3,oL 49 48] none [49,3,0]) (.cond (.t 49) (.seq (.region [oM 50 0,oF 51 16 3,oF 52 4 51,oL 53 52,oI 54 (.call 81 1 true [(.t 50),(.c (.int .i64 16)),(.t 53)])] none [3,0]) (.seq (.region [oM 55 0,oF 56 16 3,oF 57 0 56,oL 58 57,oI 59 (.call 82 1 true [(.t 55),(.t 58)])] none [3,0]) (.region [oM 60 0,oF 61 16 3,oF 62 1 61,oL 63 62,oI 64 (.call 103 1 true [(.t 60),(.t 63)])] none [3,0]))) .skip)) (.seq (.seq (.region [oF 65 21 3,oL 66 65] none [66,3,0]) (.cond (.t 66) (.region [oM 67 0,oF 68 22 3,oL 69 68,oI 70 (.call 82 1 true [(.t 67),(.t 69)])] none [3,0]) .skip)) (.seq (.region [oF 71 23 3,oL 72 71] none [72,3,0]) (.cond (.t 72) (.region [oM 73 0,oF 74 24 3,oL 75 74,oI 76 (.call 103 1 true [(.t 73),(.t 75)])] none []) .skip)))))))))))
def ZqL:ZF:=⟨[],Zef⟩
theorem ZC0:FC 79=some ZqL:=by kernel_rfl
theorem ZfJ:ZqL.body=Zef:=rfl
theorem Zfz:ZqL.res=[]:=rfl
def ZqA:Zf:=(.seq (.region [oM 7 1,oI 8 (.call 138 0 true [(.t 7)]),oM 6 8,oI 9 (.ext (.t 6) 0),oI 10 (.ext (.t 6) 1),oM 4 9,oM 5 10] none [4,0]) (.region [oM 11 0,oI 12 (.nilchk (.t 11)),oF 13 0 12,oM 14 4,oI 15 (.call 83 1 true [(.t 13),(.t 14)])] none []))
def Zpi:ZF:=⟨[],ZqA⟩
theorem ZDc:FC 103=some Zpi:=by kernel_rfl
theorem ZJB:Zpi.body=ZqA:=rfl
theorem ZGc:Zpi.res=[]:=rfl
def ZmG:Zf:=(.seq (.region [oI 3 (.box (.t 1))] none [3,0]) (.seq (.region [oM 4 0,oF 5 4 3,oL 6 5,oI 7 (.call 80 1 true [(.t 4),(.t 6),(.c (.int .i64 2))])] none [3,0]) (.region [oM 8 0,oF 9 0 3,oL 10 9,oF 11 9 3,oL 12 11,oI 13 (.call 81 1 true [(.t 8),(.t 10),(.t 12)])] none [])))
def ZpE:ZF:=⟨[],ZmG⟩
theorem ZOU:FC 85=some ZpE:=by kernel_rfl
theorem ZHZ:ZpE.body=ZmG:=rfl
theorem ZCU:ZpE.res=[]:=rfl
def Zku:Zf:=(.region [oM 6 0,oI 7 (.nilchk (.t 6)),oF 8 0 7,oM 9 1,oI 10 (.i2i .u64 (.t 9)),oM 11 2,oI 12 (.call 104 0 true [(.t 10),(.t 11)]),oI 13 (.call 83 1 true [(.t 8),(.t 12)])] (some [(6,6),(7,7)]) [])
def ZmI:ZF:=⟨[],Zku⟩
theorem ZvV:FC 80=some ZmI:=by kernel_rfl
theorem Zra:ZmI.body=Zku:=rfl
theorem Zwb:ZmI.res=[]:=rfl
def Znm:Zf:=(.seq (.region [oM 9 1,oM 10 2,oI 11 (.call 105 0 true [(.t 9),(.t 10)]),oM 8 11,oI 12 (.ext (.t 8) 0),oI 13 (.ext (.t 8) 1),oM 6 12,oM 7 13] none [6,0]) (.region [oM 14 0,oI 15 (.nilchk (.t 14)),oF 16 0 15,oM 17 6,oI 18 (.call 83 1 true [(.t 16),(.t 17)])] none []))
def Zov:ZF:=⟨[],Znm⟩
theorem ZCx:FC 81=some Zov:=by kernel_rfl
theorem Zzz:Zov.body=Znm:=rfl
theorem ZLs:Zov.res=[]:=rfl
def Zem:Zf:=(.seq (.region [oI 3 (.box (.t 1))] none [3,0]) (.seq (.seq (.region [oF 4 7 3,oL 5 4,oI 6 (.bin .neq (.t 5) (.c (.int .i64 0))),oM 7 6,⟨(some 8),(.faddr 9 (.t 3)),(some (7,false)),[]⟩,⟨(some 9),(.ld none (.t 8)),(some (7,false)),[]⟩,⟨(some 10),(.len (.t 9)),(some (7,false)),[]⟩,⟨(some 11),(.bin .gtr (.t 10) (.c (.int .i64 0))),(some (7,false)),[]⟩,oI 12 (.pick (.t 7) (.c (.bool true)) (.t 11))] none [12,3,0]) (.cond (.t 12) (.region [oM 13 0,oF 14 7 3,oL 15 14,oI 16 (.call 80 1 true [(.t 13),(.t 15),(.c (.int .i64 1))])] none [3,0]) .skip)) (.seq (.region [oF 17 9 3,oL 18 17,oI 19 (.len (.t 18)),oI 20 (.bin .gtr (.t 19) (.c (.int .i64 0)))] none [20,3,0]) (.cond (.t 20) (.region [oM 21 0,oF 22 0 3,oL 23 22,oF 24 9 3,oL 25 24,oI 26 (.call 81 1 true [(.t 21),(.t 23),(.t 25)])] none []) .skip))))
def ZpH:ZF:=⟨[],Zem⟩
theorem ZvM:FC 84=some ZpH:=by kernel_rfl
theorem Zfi:ZpH.body=Zem:=rfl
theorem ZfO:ZpH.res=[]:=rfl
def ZjM:Zf:=(.seq (.region [oM 7 1,oI 8 (.call 106 0 true [(.t 7)]),oM 6 8,oI 9 (.ext (.t 6) 0),oI 10 (.ext (.t 6) 1),oM 4 9,oM 5 10] none [4,0]) (.region [oM 11 0,oI 12 (.nilchk (.t 11)),oF 13 0 12,oM 14 4,oI 15 (.call 83 1 true [(.t 13),(.t 14)])] none []))
def Zpl:ZF:=⟨[],ZjM⟩
theorem Zui:FC 82=some Zpl:=by kernel_rfl
theorem Zrr:Zpl.body=ZjM:=rfl
theorem Zua:Zpl.res=[]:=rfl
def ZpU:Zf:=(.seq (.region [oI 3 (.box (.t 1)),oI 4 (.mov (.c (.bool false)))] none [3,0]) (.seq (.region [oM 5 0,oI 6 (.call 166 0 true [(.t 5)]),oI 7 (.mkfn 167 [(.t 3)]),oI 8 (.call 165 0 true [(.t 6),(.t 7)]),oM 4 8] none [4]) .ret))
def Zpq:ZF:=⟨[(.tmp 4)],ZpU⟩
theorem ZJe:FC 146=some Zpq:=by kernel_rfl
theorem ZNI:Zpq.body=ZpU:=rfl
theorem ZDW:Zpq.res=[(.tmp 4)]:=rfl
def Zj8:Zf:=(.seq (.region [oI 2 (.box (.t 0)),oI 3 (.mov (.c (.bool false)))] none [2,1]) (.seq (.region [oL 4 1,oF 5 0 2,oL 6 5,oI 7 (.bin .geq (.t 4) (.t 6)),oM 8 7,⟨(some 9),(.ld none (.t 1)),(some (8,true)),[]⟩,⟨(some 10),(.faddr 1 (.t 2)),(some (8,true)),[]⟩,⟨(some 11),(.ld none (.t 10)),(some (8,true)),[]⟩,⟨(some 12),(.bin .leq (.t 9) (.t 11)),(some (8,true)),[]⟩,oI 13 (.pick (.t 8) (.t 12) (.c (.bool false))),oM 3 13] none [3]) .ret))
def Zqt:ZF:=⟨[(.tmp 3)],Zj8⟩
theorem ZxS:FC 167=some Zqt:=by kernel_rfl
theorem ZuY:Zqt.body=Zj8:=rfl
theorem Zvp:Zqt.res=[(.tmp 3)]:=rfl
def Zcf:Zf:=(.seq (.region [oI 1 (.box (.t 0)),oI 2 (.alloc [(.int .u8 0),(.lst true [])]),oI 3 (.mov (.c (.int .i64 0)))] none [2,1]) (.seq (.region [oI 10 (.build [(.lst true []),(.int .i64 0),(.int .i8 0)] []),oI 11 (.box (.t 10)),oM 4 11] none [4,2,1]) (.seq (.region [oM 12 4,oI 13 (.ld (some 26) (.t 1)),oI 14 (.call 62 1 true [(.t 12),(.t 13)])] none [4,2,1]) (.seq (.region [oF 15 0 1,oL 16 15,oI 17 (.bin .shl (.t 16) (.c (.int .u64 4))),oI 18 (.i2i .u8 (.t 17)),oF 19 0 1,oL 20 19,oI 21 (.call 63 0 true [(.t 20)]),oI 22 (.bin .or (.t 18) (.t 21)),oM 23 4,oI 24 (.nilchk (.t 23)),oF 25 0 24,oI 26 (.call 64 0 true [(.t 25)]),oI 27 (.bslice false 1 1 (.lst true []) [(0,(.t 26))]),oI 28 (.call 35 0 true [(.t 27)]),oI 29 (.build [(.int .u8 0),(.lst true [])] [(0,1,(.t 22)),(1,1,(.t 28))]),oI 5 (.alloc [(.int .u8 0),(.lst true [])]),oN (.st 2 (.t 5) (.t 29))] (some [(1,5),(1,6),(1,11),(1,12),(1,13),(1,15),(5,15),(6,15),(11,15),(12,15),(13,15)]) [5,2,1]) (.seq (.seq (.region [oF 30 0 1,oL 31 30,oI 32 (.bin .eql (.t 31) (.c (.int .i64 3)))] none [32,5,2,1]) (.cond (.t 32) (.region [oF 33 0 5,oL 34 33,oF 35 1 1,oL 36 35,oI 37 (.call 65 0 true [(.t 36),(.c (.int .i64 8))]),oF 38 2 1,oL 39 38,oI 40 (.bin .and (.t 39) (.c (.int .i64 3))),oI 41 (.bin .mul (.t 40) (.c (.int .i64 2))),oI 42 (.bin .add (.t 37) (.t 41)),oF 43 3 1,oL 44 43,oI 45 (.call 65 0 true [(.t 44),(.c (.int .i64 1))]),oI 46 (.bin .add (.t 42) (.t 45)),oI 47 (.i2i .u8 (.t 46)),oI 48 (.bin .or (.t 34) (.t 47)),oF 49 0 5,oN (.st 1 (.t 49) (.t 48))] (some [(1,3),(1,4),(1,6),(3,6),(4,6),(1,11),(3,11),(4,11),(6,11),(1,12),(6,12),(12,12)]) [5,2,1]) .skip)) (.seq (.region [oI 51 (.ld (some 2) (.t 5)),oI 52 (.call 66 0 true [(.t 51)]),oM 50 52,oI 53 (.ext (.t 50) 0),oI 54 (.ext (.t 50) 1),oI 6 (.alloc [(.int .i64 0),(.bool false),(.int .i64 0),(.bool false),(.int .i64 0),(.str []),(.lst true []),(.int .i64 0),(.lst true []),(.lst true []),(.lst true []),(.lst true []),(.bool false),(.int .i64 0),(.str []),(.bool false),(.str []),(.lst true []),(.int .i64 0),(.bool false),(.lst true []),(.bool false),(.str []),(.bool false),(.lst true []),(.bool false)]),oN (.st 26 (.t 6) (.t 53)),oM 7 54] none [7,6,5,2,1]) (.seq (.seq (.region [oF 56 1 5,oL 57 56,oI 58 (.len (.t 57)),oI 59 (.call 34 0 true [(.t 58)]),oM 55 59,oI 60 (.ext (.t 55) 0),oI 61 (.ext (.t 55) 1),oM 8 60,oM 9 61] none [9,7,6,5,2,1]) (.seq (.region [oM 62 9,oI 63 (.bin .neq (.t 62) (.c (.int .i64 0))),oM 64 63,⟨(some 65),(.mov (.t 7)),(some (64,false)),[]⟩,⟨(some 66),(.bin .neq (.t 65) (.c (.int .i64 0))),(some (64,false)),[]⟩,oI 67 (.pick (.t 64) (.c (.bool true)) (.t 66)),oM 68 67,⟨(some 69),(.ld (some 26) (.t 6)),(some (68,false)),[]⟩,⟨(some 70),(.ld (some 26) (.t 1)),(some (68,false)),[]⟩,⟨(some 71),(.call 67 0 true [(.t 69),(.t 70)]),(some (68,false)),[]⟩,⟨(some 72),(.un .not (.t 71)),(some (68,false)),[]⟩,oI 73 (.pick (.t 68) (.c (.bool true)) (.t 72))] none [73,5,2]) (.cond (.t 73) (.seq (.region [oI 74 (.build [(.int .u8 0),(.lst true [])] []),oN (.st 2 (.t 2) (.t 74)),oI 3 (.mov (.c (.int .i64 129)))] none [3,2]) .ret) .skip))) (.seq (.region [oI 75 (.ld (some 2) (.t 5)),oN (.st 2 (.t 2) (.t 75)),oI 3 (.mov (.c (.int .i64 0)))] none [3,2]) .ret))))))))
def Zo6:ZF:=⟨[(.cell 2 (some 2)),(.tmp 3)],Zcf⟩
theorem ZkB:FC 33=some Zo6:=by kernel_rfl
theorem Zcx:Zo6.body=Zcf:=rfl
theorem Zct:Zo6.res=[(.cell 2 (some 2)),(.tmp 3)]:=rfl
def Zno:Zf:=(.seq (.region [oI 1 (.box (.t 0)),oI 2 (.mov (.c (.lst true []))),oI 3 (.mov (.c (.int .i64 0)))] none [1]) (.seq (.region [oI 9 (.ld (some 26) (.t 1)),oI 10 (.call 33 0 true [(.t 9)]),oM 8 10,oI 11 (.ext (.t 8) 0),oI 12 (.ext (.t 8) 1),oI 4 (.alloc [(.int .u8 0),(.lst true [])]),oN (.st 2 (.t 4) (.t 11)),oM 5 12] none [5,4]) (.seq (.seq (.region [oM 13 5,oI 14 (.bin .neq (.t 13) (.c (.int .i64 0)))] none [14,5,4]) (.cond (.t 14) (.seq (.region [oM 15 5,oI 2 (.mov (.c (.lst true []))),oM 3 15] none [3,2]) .ret) .skip)) (.seq (.region [oF 17 1 4,oL 18 17,oI 19 (.len (.t 18)),oI 20 (.call 34 0 true [(.t 19)]),oM 16 20,oI 21 (.ext (.t 16) 0),oI 22 (.ext (.t 16) 1),oM 6 21,oM 7 22] none [6,4]) (.seq (.region [oF 23 0 4,oL 24 23,oI 25 (.bslice false 1 1 (.int .u8 0) [(0,(.t 24))]),oM 26 6,oF 27 1 4,oL 28 27,oI 29 (.bslice false 1 3 (.lst true []) [(0,(.t 25)),(1,(.t 26)),(2,(.t 28))]),oI 30 (.call 35 0 true [(.t 29)]),oM 2 30,oI 3 (.mov (.c (.int .i64 0)))] none [3,2]) .ret)))))
def Zqb:ZF:=⟨[(.tmp 2),(.tmp 3)],Zno⟩
theorem ZEt:FC 12=some Zqb:=by kernel_rfl
theorem ZF9:Zqb.body=Zno:=rfl
theorem ZA6:Zqb.res=[(.tmp 2),(.tmp 3)]:=rfl
def Zm5:Zf:=(.seq (.region [oI 2 (.box (.t 0)),oI 3 (.box (.t 1)),oI 4 (.mov (.c (.bool false)))] none [3,2]) (.seq (.region [oF 9 8 2,oL 10 9,oF 11 8 3,oL 12 11,oI 13 (.call 89 0 true [(.t 10),(.t 12)]),oM 14 13,⟨(some 15),(.faddr 10 (.t 2)),(some (14,true)),[]⟩,⟨(some 16),(.ld none (.t 15)),(some (14,true)),[]⟩,⟨(some 17),(.faddr 10 (.t 3)),(some (14,true)),[]⟩,⟨(some 18),(.ld none (.t 17)),(some (14,true)),[]⟩,⟨(some 19),(.call 90 0 true [(.t 16),(.t 18)]),(some (14,true)),[]⟩,oI 20 (.pick (.t 14) (.t 19) (.c (.bool false))),oM 21 20,⟨(some 22),(.faddr 11 (.t 2)),(some (21,true)),[]⟩,⟨(some 23),(.ld none (.t 22)),(some (21,true)),[]⟩,⟨(some 24),(.faddr 11 (.t 3)),(some (21,true)),[]⟩,⟨(some 25),(.ld none (.t 24)),(some (21,true)),[]⟩,⟨(some 26),(.call 91 0 true [(.t 23),(.t 25)]),(some (21,true)),[]⟩,oI 27 (.pick (.t 21) (.t 26) (.c (.bool false))),oM 28 27,⟨(some 29),(.faddr 9 (.t 2)),(some (28,true)),[]⟩,⟨(some 30),(.ld none (.t 29)),(some (28,true)),[]⟩,⟨(some 31),(.faddr 9 (.t 3)),(some (28,true)),[]⟩,⟨(some 32),(.ld none (.t 31)),(some (28,true)),[]⟩,⟨(some 33),(.call 92 0 true [(.t 30),(.t 32)]),(some (28,true)),[]⟩,oI 34 (.pick (.t 28) (.t 33) (.c (.bool false))),oM 35 34,⟨(some 36),(.faddr 16 (.t 2)),(some (35,true)),[]⟩,⟨(some 37),(.faddr 4 (.t 36)),(some (35,true)),[]⟩,⟨(some 38),(.ld none (.t 37)),(some (35,true)),[]⟩,⟨(some 39),(.faddr 16 (.t 3)),(some (35,true)),[]⟩,⟨(some 40),(.faddr 4 (.t 39)),(some (35,true)),[]⟩,⟨(some 41),(.ld none (.t 40)),(some (35,true)),[]⟩,⟨(some 42),(.call 92 0 true [(.t 38),(.t 41)]),(some (35,true)),[]⟩,oI 43 (.pick (.t 35) (.t 42) (.c (.bool false))),oM 5 43] none [5,3,2]) (.seq (.region [oF 44 6 2,oL 45 44,oI 46 (.b2s (.t 45)),oF 47 6 3,oL 48 47,oI 49 (.b2s (.t 48)),oI 50 (.bin .eql (.t 46) (.t 49)),oM 51 50,⟨(some 52),(.faddr 24 (.t 2)),(some (51,true)),[]⟩,⟨(some 53),(.ld none (.t 52)),(some (51,true)),[]⟩,⟨(some 54),(.b2s (.t 53)),(some (51,true)),[]⟩,⟨(some 55),(.faddr 24 (.t 3)),(some (51,true)),[]⟩,⟨(some 56),(.ld none (.t 55)),(some (51,true)),[]⟩,⟨(some 57),(.b2s (.t 56)),(some (51,true)),[]⟩,⟨(some 58),(.bin .eql (.t 54) (.t 57)),(some (51,true)),[]⟩,oI 59 (.pick (.t 51) (.t 58) (.c (.bool false))),oM 60 59,⟨(some 61),(.faddr 16 (.t 2)),(some (60,true)),[]⟩,⟨(some 62),(.faddr 1 (.t 61)),(some (60,true)),[]⟩,⟨(some 63),(.ld none (.t 62)),(some (60,true)),[]⟩,⟨(some 64),(.b2s (.t 63)),(some (60,true)),[]⟩,⟨(some 65),(.faddr 16 (.t 3)),(some (60,true)),[]⟩,⟨(some 66),(.faddr 1 (.t 65)),(some (60,true)),[]⟩,⟨(some 67),(.ld none (.t 66)),(some (60,true)),[]⟩,⟨(some 68),(.b2s (.t 67)),(some (60,true)),[]⟩,⟨(some 69),(.bin .eql (.t 64) (.t 68)),(some (60,true)),[]⟩,oI 70 (.pick (.t 60) (.t 69) (.c (.bool false))),oM 6 70] none [6,5,3,2]) (.seq (.region [oF 71 16 2,oF 72 0 71,oL 73 72,oF 74 16 3,oF 75 0 74,oL 76 75,oI 77 (.bin .eql (.t 73) (.t 76)),oM 78 77,⟨(some 79),(.faddr 16 (.t 2)),(some (78,true)),[]⟩,⟨(some 80),(.faddr 2 (.t 79)),(some (78,true)),[]⟩,⟨(some 81),(.ld none (.t 80)),(some (78,true)),[]⟩,⟨(some 82),(.faddr 16 (.t 3)),(some (78,true)),[]⟩,⟨(some 83),(.faddr 2 (.t 82)),(some (78,true)),[]⟩,⟨(some 84),(.ld none (.t 83)),(some (78,true)),[]⟩,⟨(some 85),(.bin .eql (.t 81) (.t 84)),(some (78,true)),[]⟩,oI 86 (.pick (.t 78) (.t 85) (.c (.bool false))),oM 87 86,⟨(some 88),(.faddr 16 (.t 2)),(some (87,true)),[]⟩,⟨(some 89),(.faddr 3 (.t 88)),(some (87,true)),[]⟩,⟨(some 90),(.ld none (.t 89)),(some (87,true)),[]⟩,⟨(some 91),(.faddr 16 (.t 3)),(some (87,true)),[]⟩,⟨(some 92),(.faddr 3 (.t 91)),(some (87,true)),[]⟩,⟨(some 93),(.ld none (.t 92)),(some (87,true)),[]⟩,⟨(some 94),(.beq false (.t 90) (.t 93)),(some (87,true)),[]⟩,oI 95 (.pick (.t 87) (.t 94) (.c (.bool false))),oM 7 95] none [7,6,5,3,2]) (.seq (.region [oF 96 1 2,oL 97 96,oF 98 1 3,oL 99 98,oI 100 (.beq false (.t 97) (.t 99)),oM 101 100,⟨(some 102),(.faddr 3 (.t 2)),(some (101,true)),[]⟩,⟨(some 103),(.ld none (.t 102)),(some (101,true)),[]⟩,⟨(some 104),(.faddr 3 (.t 3)),(some (101,true)),[]⟩,⟨(some 105),(.ld none (.t 104)),(some (101,true)),[]⟩,⟨(some 106),(.beq false (.t 103) (.t 105)),(some (101,true)),[]⟩,oI 107 (.pick (.t 101) (.t 106) (.c (.bool false))),oM 108 107,⟨(some 109),(.faddr 12 (.t 2)),(some (108,true)),[]⟩,⟨(some 110),(.ld none (.t 109)),(some (108,true)),[]⟩,⟨(some 111),(.faddr 12 (.t 3)),(some (108,true)),[]⟩,⟨(some 112),(.ld none (.t 111)),(some (108,true)),[]⟩,⟨(some 113),(.beq false (.t 110) (.t 112)),(some (108,true)),[]⟩,oI 114 (.pick (.t 108) (.t 113) (.c (.bool false))),oM 115 114,⟨(some 116),(.faddr 15 (.t 2)),(some (115,true)),[]⟩,⟨(some 117),(.ld none (.t 116)),(some (115,true)),[]⟩,⟨(some 118),(.faddr 15 (.t 3)),(some (115,true)),[]⟩,⟨(some 119),(.ld none (.t 118)),(some (115,true)),[]⟩,⟨(some 120),(.beq false (.t 117) (.t 119)),(some (115,true)),[]⟩,oI 121 (.pick (.t 115) (.t 120) (.c (.bool false))),oM 122 121,⟨(some 123),(.faddr 21 (.t 2)),(some (122,true)),[]⟩,⟨(some 124),(.ld none (.t 123)),(some (122,true)),[]⟩,⟨(some 125),(.faddr 21 (.t 3)),(some (122,true)),[]⟩,⟨(some 126),(.ld none (.t 125)),(some (122,true)),[]⟩,⟨(some 127),(.beq false (.t 124) (.t 126)),(some (122,true)),[]⟩,oI 128 (.pick (.t 122) (.t 127) (.c (.bool false))),oM 129 128,⟨(some 130),(.faddr 23 (.t 2)),(some (129,true)),[]⟩,⟨(some 131),(.ld none (.t 130)),(some (129,true)),[]⟩,⟨(some 132),(.faddr 23 (.t 3)),(some (129,true)),[]⟩,⟨(some 133),(.ld none (.t 132)),(some (129,true)),[]⟩,⟨(some 134),(.beq false (.t 131) (.t 133)),(some (129,true)),[]⟩,oI 135 (.pick (.t 129) (.t 134) (.c (.bool false))),oM 136 135,⟨(some 137),(.faddr 25 (.t 2)),(some (136,true)),[]⟩,⟨(some 138),(.ld none (.t 137)),(some (136,true)),[]⟩,⟨(some 139),(.faddr 25 (.t 3)),(some (136,true)),[]⟩,⟨(some 140),(.ld none (.t 139)),(some (136,true)),[]⟩,⟨(some 141),(.beq false (.t 138) (.t 140)),(some (136,true)),[]⟩,oI 142 (.pick (.t 136) (.t 141) (.c (.bool false))),oM 8 142] none [8,7,6,5,3,2]) (.seq (.region [oM 143 5,oM 144 143,⟨(some 145),(.mov (.t 6)),(some (144,true)),[]⟩,oI 146 (.pick (.t 144) (.t 145) (.c (.bool false))),oM 147 146,⟨(some 148),(.mov (.t 7)),(some (147,true)),[]⟩,oI 149 (.pick (.t 147) (.t 148) (.c (.bool false))),oM 150 149,⟨(some 151),(.mov (.t 8)),(some (150,true)),[]⟩,oI 152 (.pick (.t 150) (.t 151) (.c (.bool false))),oM 153 152,⟨(some 154),(.faddr 0 (.t 2)),(some (153,true)),[]⟩,⟨(some 155),(.ld none (.t 154)),(some (153,true)),[]⟩,⟨(some 156),(.faddr 0 (.t 3)),(some (153,true)),[]⟩,⟨(some 157),(.ld none (.t 156)),(some (153,true)),[]⟩,⟨(some 158),(.bin .eql (.t 155) (.t 157)),(some (153,true)),[]⟩,oI 159 (.pick (.t 153) (.t 158) (.c (.bool false))),oM 160 159,⟨(some 161),(.faddr 2 (.t 2)),(some (160,true)),[]⟩,⟨(some 162),(.ld none (.t 161)),(some (160,true)),[]⟩,⟨(some 163),(.faddr 2 (.t 3)),(some (160,true)),[]⟩,⟨(some 164),(.ld none (.t 163)),(some (160,true)),[]⟩,⟨(some 165),(.bin .eql (.t 162) (.t 164)),(some (160,true)),[]⟩,oI 166 (.pick (.t 160) (.t 165) (.c (.bool false))),oM 167 166,⟨(some 168),(.faddr 4 (.t 2)),(some (167,true)),[]⟩,⟨(some 169),(.ld none (.t 168)),(some (167,true)),[]⟩,⟨(some 170),(.faddr 4 (.t 3)),(some (167,true)),[]⟩,⟨(some 171),(.ld none (.t 170)),(some (167,true)),[]⟩,⟨(some 172),(.bin .eql (.t 169) (.t 171)),(some (167,true)),[]⟩,oI 173 (.pick (.t 167) (.t 172) (.c (.bool false))),oM 174 173,⟨(some 175),(.faddr 5 (.t 2)),(some (174,true)),[]⟩,⟨(some 176),(.ld none (.t 175)),(some (174,true)),[]⟩,⟨(some 177),(.faddr 5 (.t 3)),(some (174,true)),[]⟩,⟨(some 178),(.ld none (.t 177)),(some (174,true)),[]⟩,⟨(some 179),(.bin .eql (.t 176) (.t 178)),(some (174,true)),[]⟩,oI 180 (.pick (.t 174) (.t 179) (.c (.bool false))),oM 181 180,⟨(some 182),(.faddr 7 (.t 2)),(some (181,true)),[]⟩,⟨(some 183),(.ld none (.t 182)),(some (181,true)),[]⟩,⟨(some 184),(.faddr 7 (.t 3)),(some (181,true)),[]⟩,⟨(some 185),(.ld none (.t 184)),(some (181,true)),[]⟩,⟨(some 186),(.bin .eql (.t 183) (.t 185)),(some (181,true)),[]⟩,oI 187 (.pick (.t 181) (.t 186) (.c (.bool false))),oM 188 187,⟨(some 189),(.faddr 13 (.t 2)),(some (188,true)),[]⟩,⟨(some 190),(.ld none (.t 189)),(some (188,true)),[]⟩,⟨(some 191),(.faddr 13 (.t 3)),(some (188,true)),[]⟩,⟨(some 192),(.ld none (.t 191)),(some (188,true)),[]⟩,⟨(some 193),(.bin .eql (.t 190) (.t 192)),(some (188,true)),[]⟩,oI 194 (.pick (.t 188) (.t 193) (.c (.bool false))),oM 195 194,⟨(some 196),(.faddr 14 (.t 2)),(some (195,true)),[]⟩,⟨(some 197),(.ld none (.t 196)),(some (195,true)),[]⟩,⟨(some 198),(.faddr 14 (.t 3)),(some (195,true)),[]⟩,⟨(some 199),(.ld none (.t 198)),(some (195,true)),[]⟩,⟨(some 200),(.bin .eql (.t 197) (.t 199)),(some (195,true)),[]⟩,oI 201 (.pick (.t 195) (.t 200) (.c (.bool false))),oM 202 201,⟨(some 203),(.faddr 22 (.t 2)),(some (202,true)),[]⟩,⟨(some 204),(.ld none (.t 203)),(some (202,true)),[]⟩,⟨(some 205),(.faddr 22 (.t 3)),(some (202,true)),[]⟩,⟨(some 206),(.ld none (.t 205)),(some (202,true)),[]⟩,⟨(some 207),(.bin .eql (.t 204) (.t 206)),(some (202,true)),[]⟩,oI 208 (.pick (.t 202) (.t 207) (.c (.bool false))),oM 4 208] none [4]) .ret))))))
def Znc:ZF:=⟨[(.tmp 4)],Zm5⟩
theorem ZNe:FC 67=some Znc:=by kernel_rfl
theorem ZCp:Znc.body=Zm5:=rfl
theorem ZMh:Znc.res=[(.tmp 4)]:=rfl
def ZdH:Zf:=(.seq (.region [oI 2 (.mov (.c (.lst true [])))] none [0]) (.seq (.seq (.region [oM 3 0] none [3]) (.block 0 (.seq (.region [oI 5 (.bin .eql (.t 3) (.c (.int .i64 2))),oM 4 5] none [4,3]) (.cond (.t 4) (.seq (.region [oI 6 (.build [(.int .i64 0),(.int .i64 0)] [(0,1,(.c (.int .i64 0))),(1,1,(.c (.int .i64 0)))]),oI 7 (.build [(.int .i64 0),(.int .i64 0)] [(0,1,(.c (.int .i64 128))),(1,1,(.c (.int .i64 138)))]),oI 8 (.build [(.int .i64 0),(.int .i64 0)] [(0,1,(.c (.int .i64 140))),(1,1,(.c (.int .i64 140)))]),oI 9 (.build [(.int .i64 0),(.int .i64 0)] [(0,1,(.c (.int .i64 144))),(1,1,(.c (.int .i64 144)))]),oI 10 (.build [(.int .i64 0),(.int .i64 0)] [(0,1,(.c (.int .i64 149))),(1,1,(.c (.int .i64 149)))]),oI 11 (.build [(.int .i64 0),(.int .i64 0)] [(0,1,(.c (.int .i64 151))),(1,1,(.c (.int .i64 151)))]),oI 12 (.build [(.int .i64 0),(.int .i64 0)] [(0,1,(.c (.int .i64 153))),(1,1,(.c (.int .i64 157)))]),oI 13 (.build [(.int .i64 0),(.int .i64 0)] [(0,1,(.c (.int .i64 159))),(1,1,(.c (.int .i64 159)))]),oI 14 (.bslice false 2 8 (.agg [(.int .i64 0),(.int .i64 0)]) [(0,(.t 6)),(1,(.t 7)),(2,(.t 8)),(3,(.t 9)),(4,(.t 10)),(5,(.t 11)),(6,(.t 12)),(7,(.t 13))]),oM 2 14] none [2]) .ret) (.seq (.seq (.region [oI 16 (.bin .eql (.t 3) (.c (.int .i64 4))),oM 15 16] none [15,3]) (.cond (.t 15) .skip (.region [oI 17 (.bin .eql (.t 3) (.c (.int .i64 5))),oM 15 17] none [15,3]))) (.cond (.t 15) (.seq (.region [oI 18 (.build [(.int .i64 0),(.int .i64 0)] [(0,1,(.c (.int .i64 0))),(1,1,(.c (.int .i64 0)))]),oI 19 (.build [(.int .i64 0),(.int .i64 0)] [(0,1,(.c (.int .i64 16))),(1,1,(.c (.int .i64 16)))]),oI 20 (.build [(.int .i64 0),(.int .i64 0)] [(0,1,(.c (.int .i64 128))),(1,1,(.c (.int .i64 128)))]),oI 21 (.build [(.int .i64 0),(.int .i64 0)] [(0,1,(.c (.int .i64 131))),(1,1,(.c (.int .i64 131)))]),oI 22 (.build [(.int .i64 0),(.int .i64 0)] [(0,1,(.c (.int .i64 135))),(1,1,(.c (.int .i64 135)))]),oI 23 (.build [(.int .i64 0),(.int .i64 0)] [(0,1,(.c (.int .i64 144))),(1,1,(.c (.int .i64 145)))]),oI 24 (.build [(.int .i64 0),(.int .i64 0)] [(0,1,(.c (.int .i64 151))),(1,1,(.c (.int .i64 151)))]),oI 25 (.build [(.int .i64 0),(.int .i64 0)] [(0,1,(.c (.int .i64 153))),(1,1,(.c (.int .i64 153)))]),oI 26 (.bslice false 2 8 (.agg [(.int .i64 0),(.int .i64 0)]) [(0,(.t 18)),(1,(.t 19)),(2,(.t 20)),(3,(.t 21)),(4,(.t 22)),(5,(.t 23)),(6,(.t 24)),(7,(.t 25))]),oM 2 26] none [2]) .ret) (.seq (.seq (.region [oI 28 (.bin .eql (.t 3) (.c (.int .i64 6))),oM 27 28] none [27,3]) (.cond (.t 27) .skip (.region [oI 29 (.bin .eql (.t 3) (.c (.int .i64 7))),oM 27 29] none [27,3]))) (.cond (.t 27) (.seq (.region [oI 30 (.build [(.int .i64 0),(.int .i64 0)] [(0,1,(.c (.int .i64 0))),(1,1,(.c (.int .i64 0)))]),oI 31 (.build [(.int .i64 0),(.int .i64 0)] [(0,1,(.c (.int .i64 146))),(1,1,(.c (.int .i64 146)))]),oI 32 (.bslice false 2 2 (.agg [(.int .i64 0),(.int .i64 0)]) [(0,(.t 30)),(1,(.t 31))]),oM 2 32] none [2]) .ret) (.seq (.region [oI 34 (.bin .eql (.t 3) (.c (.int .i64 9))),oM 33 34] none [33,3]) (.cond (.t 33) (.seq (.region [oI 35 (.build [(.int .i64 0),(.int .i64 0)] [(0,1,(.c (.int .i64 0))),(1,1,(.c (.int .i64 2)))]),oI 36 (.build [(.int .i64 0),(.int .i64 0)] [(0,1,(.c (.int .i64 128))),(1,1,(.c (.int .i64 128)))]),oI 37 (.build [(.int .i64 0),(.int .i64 0)] [(0,1,(.c (.int .i64 131))),(1,1,(.c (.int .i64 131)))]),oI 38 (.build [(.int .i64 0),(.int .i64 0)] [(0,1,(.c (.int .i64 135))),(1,1,(.c (.int .i64 135)))]),oI 39 (.build [(.int .i64 0),(.int .i64 0)] [(0,1,(.c (.int .i64 143))),(1,1,(.c (.int .i64 143)))]),oI 40 (.build [(.int .i64 0),(.int .i64 0)] [(0,1,(.c (.int .i64 145))),(1,1,(.c (.int .i64 145)))]),oI 41 (.build [(.int .i64 0),(.int .i64 0)] [(0,1,(.c (.int .i64 151))),(1,1,(.c (.int .i64 151)))]),oI 42 (.build [(.int .i64 0),(.int .i64 0)] [(0,1,(.c (.int .i64 158))),(1,1,(.c (.int .i64 158)))]),oI 43 (.build [(.int .i64 0),(.int .i64 0)] [(0,1,(.c (.int .i64 161))),(1,1,(.c (.int .i64 162)))]),oI 44 (.bslice false 2 9 (.agg [(.int .i64 0),(.int .i64 0)]) [(0,(.t 35)),(1,(.t 36)),(2,(.t 37)),(3,(.t 38)),(4,(.t 39)),(5,(.t 40)),(6,(.t 41)),(7,(.t 42)),(8,(.t 43))]),oM 2 44] none [2]) .ret) (.seq (.region [oI 46 (.bin .eql (.t 3) (.c (.int .i64 11))),oM 45 46] none [45,3]) (.cond (.t 45) (.seq (.region [oI 47 (.build [(.int .i64 0),(.int .i64 0)] [(0,1,(.c (.int .i64 0))),(1,1,(.c (.int .i64 0)))]),oI 48 (.build [(.int .i64 0),(.int .i64 0)] [(0,1,(.c (.int .i64 17))),(1,1,(.c (.int .i64 17)))]),oI 49 (.build [(.int .i64 0),(.int .i64 0)] [(0,1,(.c (.int .i64 128))),(1,1,(.c (.int .i64 128)))]),oI 50 (.build [(.int .i64 0),(.int .i64 0)] [(0,1,(.c (.int .i64 131))),(1,1,(.c (.int .i64 131)))]),oI 51 (.build [(.int .i64 0),(.int .i64 0)] [(0,1,(.c (.int .i64 135))),(1,1,(.c (.int .i64 135)))]),oI 52 (.build [(.int .i64 0),(.int .i64 0)] [(0,1,(.c (.int .i64 143))),(1,1,(.c (.int .i64 143)))]),oI 53 (.build [(.int .i64 0),(.int .i64 0)] [(0,1,(.c (.int .i64 145))),(1,1,(.c (.int .i64 145)))]),oI 54 (.bslice false 2 7 (.agg [(.int .i64 0),(.int .i64 0)]) [(0,(.t 47)),(1,(.t 48)),(2,(.t 49)),(3,(.t 50)),(4,(.t 51)),(5,(.t 52)),(6,(.t 53))]),oM 2 54] none [2]) .ret) (.seq (.region [oI 56 (.bin .eql (.t 3) (.c (.int .i64 14))),oM 55 56] none [55,3]) (.cond (.t 55) (.seq (.region [oI 57 (.build [(.int .i64 0),(.int .i64 0)] [(0,1,(.c (.int .i64 0))),(1,1,(.c (.int .i64 0)))]),oI 58 (.build [(.int .i64 0),(.int .i64 0)] [(0,1,(.c (.int .i64 4))),(1,1,(.c (.int .i64 4)))]),oI 59 (.build [(.int .i64 0),(.int .i64 0)] [(0,1,(.c (.int .i64 128))),(1,1,(.c (.int .i64 131)))]),oI 60 (.build [(.int .i64 0),(.int .i64 0)] [(0,1,(.c (.int .i64 135))),(1,1,(.c (.int .i64 135)))]),oI 61 (.build [(.int .i64 0),(.int .i64 0)] [(0,1,(.c (.int .i64 137))),(1,1,(.c (.int .i64 137)))]),oI 62 (.build [(.int .i64 0),(.int .i64 0)] [(0,1,(.c (.int .i64 139))),(1,1,(.c (.int .i64 139)))]),oI 63 (.build [(.int .i64 0),(.int .i64 0)] [(0,1,(.c (.int .i64 141))),(1,1,(.c (.int .i64 144)))]),oI 64 (.build [(.int .i64 0),(.int .i64 0)] [(0,1,(.c (.int .i64 147))),(1,1,(.c (.int .i64 162)))]),oI 65 (.bslice false 2 8 (.agg [(.int .i64 0),(.int .i64 0)]) [(0,(.t 57)),(1,(.t 58)),(2,(.t 59)),(3,(.t 60)),(4,(.t 61)),(5,(.t 62)),(6,(.t 63)),(7,(.t 64))]),oM 2 65] none [2]) .ret) (.seq (.region [oI 67 (.bin .eql (.t 3) (.c (.int .i64 15))),oM 66 67] none [66]) (.cond (.t 66) (.seq (.region [oI 68 (.build [(.int .i64 0),(.int .i64 0)] [(0,1,(.c (.int .i64 0))),(1,1,(.c (.int .i64 0)))]),oI 69 (.build [(.int .i64 0),(.int .i64 0)] [(0,1,(.c (.int .i64 24))),(1,1,(.c (.int .i64 25)))]),oI 70 (.bslice false 2 2 (.agg [(.int .i64 0),(.int .i64 0)]) [(0,(.t 68)),(1,(.t 69))]),oM 2 70] none [2]) .ret) .skip)))))))))))))))) (.seq (.region [oI 2 (.mov (.c (.lst true [])))] none [2]) .ret)))
def ZpW:ZF:=⟨[(.tmp 2)],ZdH⟩
theorem Zej:FC 166=some ZpW:=by kernel_rfl
theorem Zeu:ZpW.body=ZdH:=rfl
theorem Zed:ZpW.res=[(.tmp 2)]:=rfl
def ZhZ:Zf:=(.seq (.region [oI 2 (.mov (.c (.int .u8 0)))] none [0]) (.seq (.seq (.region [oM 3 0] none [3]) (.block 0 (.seq (.seq (.region [oI 5 (.bin .eql (.t 3) (.c (.int .i64 6))),oM 4 5] none [4,3]) (.cond (.t 4) .skip (.seq (.region [oI 6 (.bin .eql (.t 3) (.c (.int .i64 8))),oM 4 6] none [4,3]) (.cond (.t 4) .skip (.region [oI 7 (.bin .eql (.t 3) (.c (.int .i64 10))),oM 4 7] none [4]))))) (.cond (.t 4) (.seq (.region [oI 2 (.mov (.c (.int .u8 2)))] none [2]) .ret) .skip)))) (.seq (.region [oI 2 (.mov (.c (.int .u8 0)))] none [2]) .ret)))
def Zqu:ZF:=⟨[(.tmp 2)],ZhZ⟩
theorem Zmn:FC 63=some Zqu:=by kernel_rfl
theorem ZlW:Zqu.body=ZhZ:=rfl
theorem ZjQ:Zqu.res=[(.tmp 2)]:=rfl
def Zon:Zf:=(.seq (.region [oI 4 (.mov (.c (.int .i64 0)))] none [1,0]) (.seq (.seq (.region [oM 5 0] none [5,1]) (.cond (.t 5) (.seq (.region [oM 6 1,oM 4 6] none [4]) .ret) .skip)) (.seq (.region [oI 4 (.mov (.c (.int .i64 0)))] none [4]) .ret)))
def Zpy:ZF:=⟨[(.tmp 4)],Zon⟩
theorem ZDe:FC 65=some Zpy:=by kernel_rfl
theorem Zw7:Zpy.body=Zon:=rfl
theorem ZH9:Zpy.res=[(.tmp 4)]:=rfl
def Zlc:Zf:=(.seq (.region [oM 4 0,oI 5 (.un .not (.t 4))] none [5,1]) (.cond (.t 5) (.region [oM 6 1,oI 7 (.mki 41 (.t 6)),oN (.panic (.t 7))] none []) .skip))
def Zn0:ZF:=⟨[],Zlc⟩
theorem Zvm:FC 109=some Zn0:=by kernel_rfl
theorem Zv5:Zn0.body=Zlc:=rfl
theorem ZCC:Zn0.res=[]:=rfl
end
section
def Zz (c:Int):AVal:=.iface 41 (.int .i64 c)
theorem Zbb (c:Int) (σ:Za) (sq own:Nat):Zi E BY σ sq 109 own true [.bool true,.int .i64 c]=some (.tup [],σ,{}):=by
 have h:E 109 [.bool true,.int .i64 c] []=some (.tup [],[]):=by
  rw [Zh (by rfl) Zvm]
  simp -implicitDefEqProofs only [EQA,Zs,Xc,Xb,unA,reduceCtorEq,↓reduceIte,Zd,Zv5,Zlc,ZCC]
 exact ZcU (h) (by kernel_rfl) (by simp -implicitDefEqProofs only [Zdi,ZbE,eq_self,eq_self]) (by simp -implicitDefEqProofs only [ZI,ZbE,eq_self,eq_self]) rfl (fun _=>rfl) _ _ _ _
theorem ZbA (c:Int) (σ:Za) (sq own:Nat):Zi E BY σ sq 109 own true [.bool false,.int .i64 c]=some (.pan (Zz c),σ,{}):=by
 have h:E 109 [.bool false,.int .i64 c] []=some (.pan (Zz c),[]):=by
  rw [Zh (by rfl) Zvm]
  simp -implicitDefEqProofs only [EQA,Zs,Xc,Xb,unA,reduceCtorEq,↓reduceIte,Zv5,Zlc,Zz]
 exact ZcU (h) (by kernel_rfl) (by simp -implicitDefEqProofs only [Zdi,ZbE,eq_self]) (by simp -implicitDefEqProofs only [ZI,ZbE,eq_self]) rfl (fun _=>rfl) _ _ _ _
theorem ZaF {xs ys:List AVal} (h:Zd xs=true) (h':Zd ys=true):Zd (xs++ys)=true:=by
 induction xs with
 | nil=>exact h'
 | cons x xs ih =>
  simp only [Zd,Xj,List.cons_append] at h ⊢
  exact ⟨h.1,ih h.2⟩
section
variable (P:List AVal) (hP:P.length=26) (hN:Zd P=true)
include hP
theorem Z9 (L:AVal):(P++[L]).length=27:=by simp [hP]
theorem Zax (L:AVal):(P++[L])[26]?=some L:=by
 rw [List.getElem?_append_right (by omega)];simp [hP]
theorem ZeF (L:AVal):(P++[L]).take 26=P:=by
 rw [Wi (by omega),XN (by omega)]
theorem Zfh (L:AVal):(P++[L]).drop 27=[]:=List.drop_eq_nil_of_le (by simp [hP])
include hN
theorem Zx (f:Bool) (xs:List AVal):Zd (P++[.lst f xs])=true:=ZaF hN rfl
theorem ZNC (l:Zb) (n:Nat) (hn:n<=l.length) (hl:l.length<=140737488355328):E 111 [.ref 0 0,.int .i64 (n:Nat)] [.var (P++[.lst false (l.map Zc)])]=some (.int .i64 (Zig (l.take n)),[.var (P++[.lst false ((l.drop n).map Zc)])]):=by
 have h1:(l.length:Int)>=((n:Nat):Int):=by omega
 have s1:=fun σ kk=>Zmm σ 1 l Zc kk (n:Int) (by omega) (by omega)
 have s2:=fun σ kk=>Zfb σ l kk (n:Int) (by omega) (by omega)
 have e2:((n:Int)).toNat=n:=rfl
 rw [e2] at s1 s2
 have ht:(l.take n).length<=9223372036854775807:=by simp;omega
 have hG:=fun σ sq own f=>ZlC σ sq own (l.take n) ht f
 have a1:=Z9 P hP
 have a2:=Zax P hP
 have a3:=ZeF P hP
 have a4:=Zfh P hP
 have m1:=Zbb
 rw [Zh (by rfl) ZkK]
 simp -implicitDefEqProofs only [EQA,ZI,Xe,Xc,Xf,Xb,reduceCtorEq,↓reduceIte,ZlO,ZhU,Zud,h1,s1,s2,hG,a1,a2,a3,a4,m1,Zig]
 exact ZY rfl (Zx P hP hN _ _)
theorem ZKg (l:Zb) (n:Nat) (hn:l.length < n) (hn':n<=9223372036854775807):E 111 [.ref 0 0,.int .i64 (n:Nat)] [.var (P++[.lst false (l.map Zc)])]=some (.pan (Zz 129),[.var (P++[.lst false (l.map Zc)])]):=by
 have h1:¬(l.length:Int)>=((n:Nat):Int):=by omega
 have a2:=Zax P hP
 have m1:=ZbA
 rw [Zh (by rfl) ZkK]
 simp -implicitDefEqProofs only [EQA,Xc,Xb,reduceCtorEq,↓reduceIte,ZlO,ZhU,h1,a2,m1]
 exact ZY rfl (Zx P hP hN _ _)
theorem ZGK (l:Zb) (hl:l.length<=140737488355328) (h:(Zaf l).2.2=0):E 120 [.ref 0 0] [.var (P++[.lst false (l.map Zc)])]=some (.str (Zaf l).1,[.var (P++[.lst false ((l.drop (Zaf l).2.1).map Zc)])]):=by
 have hG:=fun σ sq own f=>Zg7 σ sq own f l hl
 have hu:=(ZhG l).1
 unfold gtT at hG
 have s2:=fun σ kk=>Zfb σ l kk ((Zaf l).2.1:Int) (by omega) (by omega)
 have e2:(((Zaf l).2.1:Nat):Int).toNat=(Zaf l).2.1:=rfl
 rw [e2] at s2
 rw [h] at hG
 have a1:=Z9 P hP
 have a2:=Zax P hP
 have a3:=ZeF P hP
 have a4:=Zfh P hP
 have m1:=Zbb
 rw [Zh (by rfl) ZmA]
 simp -implicitDefEqProofs only [EQA,ZI,Zs,Xe,Xc,Xf,Xb,reduceCtorEq,↓reduceIte,Zl3,Zhl,Zwf,s2,hG,a1,a2,a3,a4,m1]
 exact ZY rfl (Zx P hP hN _ _)
theorem ZOZ (l:Zb) (hl:l.length<=140737488355328) (h:(Zaf l).2.2≠0):E 120 [.ref 0 0] [.var (P++[.lst false (l.map Zc)])]=some (.pan (Zz 129),[.var (P++[.lst false (l.map Zc)])]):=by
 have hG:=fun σ sq own f=>Zg7 σ sq own f l hl
 unfold gtT at hG
 have h0:((Zaf l).2.2 == 0)=false:=by simpa using h
 have h1:=h
 have a2:=Zax P hP
 have m1:=ZbA
 rw [Zh (by rfl) ZmA]
 simp -implicitDefEqProofs only [EQA,Xc,Xb,reduceCtorEq,↓reduceIte,Zl3,Zhl,hG,a2,h0,m1]
 exact ZY rfl (Zx P hP hN _ _)
theorem Zx3 (l:Zb) (hl:l.length<=140737488355328) (h:(ZaJ l).2.2=0):E 144 [.ref 0 0] [.var (P++[.lst false (l.map Zc)])]=some (.lst false ((ZaJ l).1.map Zc),[.var (P++[.lst false ((l.drop (ZaJ l).2.1).map Zc)])]):=by
 have hG:=fun σ sq own f=>ZkA σ sq own f l hl
 have hu:=(ZkG l).1
 unfold gdT at hG
 have s2:=fun σ kk=>Zfb σ l kk ((ZaJ l).2.1:Int) (by omega) (by omega)
 have e2:(((ZaJ l).2.1:Nat):Int).toNat=(ZaJ l).2.1:=rfl
 rw [e2] at s2
 rw [h] at hG
 have a1:=Z9 P hP
 have a2:=Zax P hP
 have a3:=ZeF P hP
 have a4:=Zfh P hP
 have m1:=Zbb
 rw [Zh (by rfl) ZrJ]
 simp -implicitDefEqProofs only [EQA,ZI,Zs,Xe,Xc,Xf,Xb,reduceCtorEq,↓reduceIte,Zrh,Zli,ZEA,s2,hG,a1,a2,a3,a4,m1]
 exact ZY rfl (Zx P hP hN _ _)
theorem ZHw (l:Zb) (hl:l.length<=140737488355328) (h:(ZaJ l).2.2≠0):E 144 [.ref 0 0] [.var (P++[.lst false (l.map Zc)])]=some (.pan (Zz 129),[.var (P++[.lst false (l.map Zc)])]):=by
 have hG:=fun σ sq own f=>ZkA σ sq own f l hl
 unfold gdT at hG
 have h0:((ZaJ l).2.2 == 0)=false:=by simpa using h
 have h1:=h
 have a2:=Zax P hP
 have m1:=ZbA
 rw [Zh (by rfl) ZrJ]
 simp -implicitDefEqProofs only [EQA,Xc,Xb,reduceCtorEq,↓reduceIte,Zrh,Zli,hG,a2,h0,m1]
 exact ZY rfl (Zx P hP hN _ _)
theorem ZAl (w:Int) (l:Zb) (hl:l.length<=140737488355328) (h:(Zao w l).2.2=0) (hu:(Zao w l).2.1<=l.length):E 113 [.ref 0 0,.int .i64 w] [.var (P++[.lst false (l.map Zc)])]=some (.lst false ((Zao w l).1.map Zq),[.var (P++[.lst false ((l.drop (Zao w l).2.1).map Zc)])]):=by
 have hG:=fun σ sq own f=>Zk6 σ sq own f w l hl
 have s2:=fun σ kk=>Zfb σ l kk ((Zao w l).2.1:Int) (by omega) (by omega)
 have e2:(((Zao w l).2.1:Nat):Int).toNat=(Zao w l).2.1:=rfl
 rw [e2] at s2
 rw [h] at hG
 have a1:=Z9 P hP
 have a2:=Zax P hP
 have a3:=ZeF P hP
 have a4:=Zfh P hP
 have m1:=Zbb
 generalize Zao w l=R at *
 rw [Zh (by rfl) ZsQ]
 simp -implicitDefEqProofs only [EQA,ZI,Zs,Xe,Xc,Xf,Xb,reduceCtorEq,↓reduceIte,Zu4,Zj3,ZFO,s2,hG,a1,a2,a3,a4,m1]
 exact ZY rfl (Zx P hP hN _ _)
theorem ZJ9 (w:Int) (l:Zb) (hl:l.length<=140737488355328) (h:(Zao w l).2.2≠0):E 113 [.ref 0 0,.int .i64 w] [.var (P++[.lst false (l.map Zc)])]=some (.pan (Zz (Zao w l).2.2),[.var (P++[.lst false (l.map Zc)])]):=by
 have hG:=fun σ sq own f=>Zk6 σ sq own f w l hl
 have h0:((Zao w l).2.2 == 0)=false:=by simpa using h
 have h1:=h
 have a2:=Zax P hP
 have m1:=ZbA
 generalize Zao w l=R at *
 rw [Zh (by rfl) ZsQ]
 simp -implicitDefEqProofs only [EQA,Xc,Xb,reduceCtorEq,↓reduceIte,Zu4,Zj3,hG,a2,h0,m1]
 exact ZY rfl (Zx P hP hN _ _)
end
end
section
def Zoe:Zf:=(.seq (.region [oI 4 (.mov (.c (.bool false)))] none [1,0]) (.seq (.region [oM 5 0,oM 6 1,oI 7 (.call 183 0 true [(.t 5),(.t 6)]),oI 8 (.bin .geq (.t 7) (.c (.int .i64 0))),oM 4 8] none [4]) .ret))
def ZoX:ZF:=⟨[(.tmp 4)],Zoe⟩
theorem ZIc:FC 165=some ZoX:=by kernel_rfl
theorem ZKS:ZoX.body=Zoe:=rfl
theorem ZBc:ZoX.res=[(.tmp 4)]:=rfl
def Zpt:Zf:=(.seq (.region [oI 3 (.box (.t 1)),oI 4 (.mov (.c (.bool false)))] none [3,0]) (.seq (.region [oM 5 0,oI 6 (.ld (some 2) (.t 3)),oI 7 (.call 74 0 true [(.t 5),(.t 6)]),oI 8 (.bin .geq (.t 7) (.c (.int .i64 0))),oM 4 8] none [4]) .ret))
def Zos:ZF:=⟨[(.tmp 4)],Zpt⟩
theorem ZOn:FC 39=some Zos:=by kernel_rfl
theorem ZJ6:Zos.body=Zpt:=rfl
theorem ZGu:Zos.res=[(.tmp 4)]:=rfl
def Zqw:Zf:=(.seq (.region [oI 6 (.mov (.c (.bool true)))] none [6]) .ret)
def Zn7:Zf:=Zqw
def ZKy:=xw Zn7 Zqw rfl
def ZjU:Zf:=(.seq (.region [oI 18 (.bin .lss (.t 17) (.t 16))] none [18,17,16,15,2,1]) (.seq (.cond (.t 18) .skip (.exit 0)) (.seq (.block 1 (.seq (.region [oM 19 17,oI 20 (.iaddr 5 (.t 15) (.t 17)),oI 21 (.ld (some 5) (.t 20)),oI 8 (.alloc [(.int .i64 0),(.int .i64 0),(.str []),(.str []),(.lst true [])]),oM 7 19,oN (.st 5 (.t 8) (.t 21))] none [17,16,15,8,7,2,1]) (.seq (.region [oM 22 1,oM 23 7,oI 24 (.iaddr 5 (.t 22) (.t 23)),oI 25 (.ld (some 5) (.t 24)),oI 9 (.alloc [(.int .i64 0),(.int .i64 0),(.str []),(.str []),(.lst true [])]),oN (.st 5 (.t 9) (.t 25))] none [17,16,15,9,8,2,1]) (.seq (.region [oM 26 2,oI 27 (.ld (some 5) (.t 8)),oI 28 (.ld (some 5) (.t 9)),oI 29 (.callv (.t 26) [(.t 27),(.t 28)]),oI 30 (.un .not (.t 29))] none [30,17,16,15,2,1]) (.cond (.t 30) (.seq (.region [oI 6 (.mov (.c (.bool false)))] none [6]) .ret) .skip))))) (.region [oI 31 (.bin .add (.t 17) (.c (.int .i64 1))),oM 17 31] none [17,16,15,2,1]))))
def ZoB:Zf:=ZjU
def ZtC:=xw ZoB ZjU rfl
def Zlf:Zf:=(.seq (.region [oI 6 (.mov (.c (.bool false)))] none [2,1,0]) (.seq (.seq (.region [oM 10 0,oI 11 (.len (.t 10)),oM 12 1,oI 13 (.len (.t 12)),oI 14 (.bin .neq (.t 11) (.t 13))] none [14,2,1,0]) (.cond (.t 14) (.seq (.region [oI 6 (.mov (.c (.bool false)))] none [6]) .ret) .skip)) (.seq (.seq (.region [oM 15 0,oI 16 (.len (.t 15)),oI 17 (.mov (.c (.int .i64 0)))] none [17,16,15,2,1]) (.block 0 (.loop [17,16,15,2,1] ZoB))) Zn7)))
def Zj7:ZF:=⟨[(.tmp 6)],Zlf⟩
theorem ZFJ:FC 122=some Zj7:=by kernel_rfl
theorem ZvN:Zj7.body=Zlf:=rfl
theorem ZmY:Zj7.res=[(.tmp 6)]:=rfl
noncomputable def Zk2 (m:Nat) (tm:Tms) (σ:Za):Option (AVal×Za):=(Zau m Zj7 (Zbw FC PR BY m Zn7 (Wa (ZaR 0) (evL FC PR BY m [17,16,15,2,1] ZoB tm σ))))
def Zpe:Zf:=(.seq (.region [oI 4 (.mov (.c (.bool true)))] none [4]) .ret)
def ZmE:Zf:=Zpe
def Zxr:=xw ZmE Zpe rfl
def ZjC:Zf:=(.seq (.region [oI 14 (.bin .lss (.t 13) (.t 12))] none [14,13,12,1,0]) (.seq (.cond (.t 14) .skip (.exit 0)) (.seq (.block 1 (.seq (.region [oM 15 13,oM 5 15] none [13,12,5,1,0]) (.seq (.region [oM 16 0,oM 17 5,oI 18 (.iaddr 1 (.t 16) (.t 17)),oL 19 18,oM 20 1,oM 21 5,oI 22 (.iaddr 1 (.t 20) (.t 21)),oL 23 22,oI 24 (.bin .neq (.t 19) (.t 23))] (some [(2,6),(3,6),(2,7),(3,7)]) [24,13,12,1,0]) (.cond (.t 24) (.seq (.region [oI 4 (.mov (.c (.bool false)))] none [4]) .ret) .skip)))) (.region [oI 25 (.bin .add (.t 13) (.c (.int .i64 1))),oM 13 25] none [13,12,1,0]))))
def ZmS:Zf:=ZjC
def Zru:=xw ZmS ZjC rfl
def ZkF:Zf:=(.seq (.region [oI 4 (.mov (.c (.bool false)))] none [1,0]) (.seq (.seq (.region [oM 6 0,oI 7 (.len (.t 6)),oM 8 1,oI 9 (.len (.t 8)),oI 10 (.bin .neq (.t 7) (.t 9))] none [10,1,0]) (.cond (.t 10) (.seq (.region [oI 4 (.mov (.c (.bool false)))] none [4]) .ret) .skip)) (.seq (.seq (.region [oM 11 0,oI 12 (.len (.t 11)),oI 13 (.mov (.c (.int .i64 0)))] none [13,12,1,0]) (.block 0 (.loop [13,12,1,0] ZmS))) ZmE)))
def ZkV:ZF:=⟨[(.tmp 4)],ZkF⟩
theorem ZKi:FC 89=some ZkV:=by kernel_rfl
theorem Zsi:ZkV.body=ZkF:=rfl
theorem Zp4:ZkV.res=[(.tmp 4)]:=rfl
noncomputable def ZlK (m:Nat) (tm:Tms) (σ:Za):Option (AVal×Za):=(Zau m ZkV (Zbw FC PR BY m ZmE (Wa (ZaR 0) (evL FC PR BY m [13,12,1,0] ZmS tm σ))))
def Zq0:Zf:=(.seq (.region [oI 4 (.mov (.c (.bool true)))] none [4]) .ret)
def ZqN:Zf:=Zq0
def ZyS:=xw ZqN Zq0 rfl
def Zlj:Zf:=(.seq (.region [oI 14 (.bin .lss (.t 13) (.t 12))] none [14,13,12,1,0]) (.seq (.cond (.t 14) .skip (.exit 0)) (.seq (.block 1 (.seq (.region [oM 15 13,oM 5 15] none [13,12,5,1,0]) (.seq (.region [oM 16 0,oM 17 5,oI 18 (.iaddr 6 (.t 16) (.t 17)),oI 19 (.ld (some 6) (.t 18)),oM 20 1,oM 21 5,oI 22 (.iaddr 6 (.t 20) (.t 21)),oI 23 (.ld (some 6) (.t 22)),oI 24 (.eqv true [2,0,1,1,0,0] (.t 19) (.t 23))] (some [(2,6),(3,6),(2,7),(3,7)]) [24,13,12,1,0]) (.cond (.t 24) (.seq (.region [oI 4 (.mov (.c (.bool false)))] none [4]) .ret) .skip)))) (.region [oI 25 (.bin .add (.t 13) (.c (.int .i64 1))),oM 13 25] none [13,12,1,0]))))
def ZnO:Zf:=Zlj
def Zvj:=xw ZnO Zlj rfl
def Zkj:Zf:=(.seq (.region [oI 4 (.mov (.c (.bool false)))] none [1,0]) (.seq (.seq (.region [oM 6 0,oI 7 (.len (.t 6)),oM 8 1,oI 9 (.len (.t 8)),oI 10 (.bin .neq (.t 7) (.t 9))] none [10,1,0]) (.cond (.t 10) (.seq (.region [oI 4 (.mov (.c (.bool false)))] none [4]) .ret) .skip)) (.seq (.seq (.region [oM 11 0,oI 12 (.len (.t 11)),oI 13 (.mov (.c (.int .i64 0)))] none [13,12,1,0]) (.block 0 (.loop [13,12,1,0] ZnO))) ZqN)))
def Zls:ZF:=⟨[(.tmp 4)],Zkj⟩
theorem ZNr:FC 90=some Zls:=by kernel_rfl
theorem Zwj:Zls.body=Zkj:=rfl
theorem Zni:Zls.res=[(.tmp 4)]:=rfl
noncomputable def Zmq (m:Nat) (tm:Tms) (σ:Za):Option (AVal×Za):=(Zau m Zls (Zbw FC PR BY m ZqN (Wa (ZaR 0) (evL FC PR BY m [13,12,1,0] ZnO tm σ))))
def Zqn:Zf:=(.seq (.region [oI 4 (.mov (.c (.bool true)))] none [4]) .ret)
def Znk:Zf:=Zqn
def ZL8:=xw Znk Zqn rfl
def Zmc:Zf:=(.seq (.region [oI 14 (.bin .lss (.t 13) (.t 12))] none [14,13,12,1,0]) (.seq (.cond (.t 14) .skip (.exit 0)) (.seq (.block 1 (.seq (.region [oM 15 13,oM 5 15] none [13,12,5,1,0]) (.seq (.region [oM 16 0,oM 17 5,oI 18 (.iaddr 1 (.t 16) (.t 17)),oL 19 18,oM 20 1,oM 21 5,oI 22 (.iaddr 1 (.t 20) (.t 21)),oL 23 22,oI 24 (.bin .neq (.t 19) (.t 23))] (some [(2,6),(3,6),(2,7),(3,7)]) [24,13,12,1,0]) (.cond (.t 24) (.seq (.region [oI 4 (.mov (.c (.bool false)))] none [4]) .ret) .skip)))) (.region [oI 25 (.bin .add (.t 13) (.c (.int .i64 1))),oM 13 25] none [13,12,1,0]))))
def Zo7:Zf:=Zmc
def Zva:=xw Zo7 Zmc rfl
def Zjz:Zf:=(.seq (.region [oI 4 (.mov (.c (.bool false)))] none [1,0]) (.seq (.seq (.region [oM 6 0,oI 7 (.len (.t 6)),oM 8 1,oI 9 (.len (.t 8)),oI 10 (.bin .neq (.t 7) (.t 9))] none [10,1,0]) (.cond (.t 10) (.seq (.region [oI 4 (.mov (.c (.bool false)))] none [4]) .ret) .skip)) (.seq (.seq (.region [oM 11 0,oI 12 (.len (.t 11)),oI 13 (.mov (.c (.int .i64 0)))] none [13,12,1,0]) (.block 0 (.loop [13,12,1,0] Zo7))) Znk)))
def ZjG:ZF:=⟨[(.tmp 4)],Zjz⟩
theorem ZFQ:FC 91=some ZjG:=by kernel_rfl
theorem ZrW:ZjG.body=Zjz:=rfl
theorem Zoz:ZjG.res=[(.tmp 4)]:=rfl
noncomputable def ZjR (m:Nat) (tm:Tms) (σ:Za):Option (AVal×Za):=(Zau m ZjG (Zbw FC PR BY m Znk (Wa (ZaR 0) (evL FC PR BY m [13,12,1,0] Zo7 tm σ))))
def ZmO:Zf:=(.seq (.region [oI 4 (.mov (.c (.int .i64 (-1))))] none [4]) .ret)
def Zof:Zf:=ZmO
def Zzo:=xw Zof ZmO rfl
def ZiZ:Zf:=(.seq (.region [oI 9 (.bin .lss (.t 8) (.t 7))] none [9,8,7,1,0]) (.seq (.cond (.t 9) .skip (.exit 0)) (.seq (.block 1 (.seq (.region [oM 10 8,oM 5 10] none [8,7,5,1,0]) (.seq (.region [oM 11 1,oM 12 0,oM 13 5,oI 14 (.iaddr 2 (.t 12) (.t 13)),oI 15 (.ld (some 2) (.t 14)),oI 16 (.callv (.t 11) [(.t 15)])] none [16,8,7,5,1,0]) (.cond (.t 16) (.seq (.region [oM 17 5,oM 4 17] none [4]) .ret) .skip)))) (.region [oI 18 (.bin .add (.t 8) (.c (.int .i64 1))),oM 8 18] none [8,7,1,0]))))
def ZqW:Zf:=ZiZ
def Zqe:=xw ZqW ZiZ rfl
def ZnD:Zf:=(.seq (.region [oI 4 (.mov (.c (.int .i64 0)))] none [1,0]) (.seq (.seq (.region [oM 6 0,oI 7 (.len (.t 6)),oI 8 (.mov (.c (.int .i64 0)))] none [8,7,1,0]) (.block 0 (.loop [8,7,1,0] ZqW))) Zof))
def Zmg:ZF:=⟨[(.tmp 4)],ZnD⟩
theorem ZOG:FC 183=some Zmg:=by kernel_rfl
theorem ZKZ:Zmg.body=ZnD:=rfl
theorem Ztg:Zmg.res=[(.tmp 4)]:=rfl
noncomputable def ZkM (m:Nat) (tm:Tms) (σ:Za):Option (AVal×Za):=(Zau m Zmg (Zbw FC PR BY m Zof (Wa (ZaR 0) (evL FC PR BY m [8,7,1,0] ZqW tm σ))))
def ZoT:Zf:=(.seq (.region [oI 4 (.mov (.c (.int .i64 (-1))))] none [4]) .ret)
def ZoL:Zf:=ZoT
def ZAd:=xw ZoL ZoT rfl
def Zi2:Zf:=(.seq (.region [oI 9 (.bin .lss (.t 8) (.t 7))] none [9,8,7,3,0]) (.seq (.cond (.t 9) .skip (.exit 0)) (.seq (.block 1 (.seq (.region [oM 10 8,oM 5 10] none [8,7,5,3,0]) (.seq (.region [oI 11 (.ld (some 2) (.t 3)),oM 12 0,oM 13 5,oI 14 (.iaddr 2 (.t 12) (.t 13)),oI 15 (.ld (some 2) (.t 14)),oI 16 (.eqv false [0,0] (.t 11) (.t 15))] (some [(0,3),(0,4)]) [16,8,7,5,3,0]) (.cond (.t 16) (.seq (.region [oM 17 5,oM 4 17] none [4]) .ret) .skip)))) (.region [oI 18 (.bin .add (.t 8) (.c (.int .i64 1))),oM 8 18] none [8,7,3,0]))))
def Zqf:Zf:=Zi2
def Znf:=xw Zqf Zi2 rfl
def Zo0:Zf:=(.seq (.region [oI 3 (.box (.t 1)),oI 4 (.mov (.c (.int .i64 0)))] none [3,0]) (.seq (.seq (.region [oM 6 0,oI 7 (.len (.t 6)),oI 8 (.mov (.c (.int .i64 0)))] none [8,7,3,0]) (.block 0 (.loop [8,7,3,0] Zqf))) ZoL))
def ZkU:ZF:=⟨[(.tmp 4)],Zo0⟩
theorem ZKG:FC 74=some ZkU:=by kernel_rfl
theorem ZyU:ZkU.body=Zo0:=rfl
theorem ZtD:ZkU.res=[(.tmp 4)]:=rfl
noncomputable def Zju (m:Nat) (tm:Tms) (σ:Za):Option (AVal×Za):=(Zau m ZkU (Zbw FC PR BY m ZoL (Wa (ZaR 0) (evL FC PR BY m [8,7,3,0] Zqf tm σ))))
end
section
theorem ZoW {O:ZN} {bf:Nat->Bool} {σ:Za} {t sq f own:Nat} {view:Bool} {args vs vs':List AVal} {cs cs':List AVal} {r:AVal} (hs:σ[t]?=some (.var cs)) (hc:Zd cs=true) (hc':Zd cs'=true) (hb:bf f=false) (hff:ZaY σ sq own=true)
  (hsh:showAs σ args=some (vs,[])) (href:Zp vs=[t]) (hren:∀ ρ:Rho,ρ t 0=some (0,0)->Zg ρ vs=vs') (hn:ZM r=true) (hv:viewR [.var cs'] r=some (r,[]))
  (h:O f vs' [.var cs]=some (r,[.var cs'])):Zi O bf σ sq f own view args=some (r,σ.set t (.var cs'),{ any:=true,upd:=[(t,cs')] }):=by
 have htl:t < σ.length:=by
  rcases Wx t σ.length with h | h
  ·exact h
  ·rw [XQ h] at hs;cases hs
 have hup:Za4 (σ.set t (.var cs')) [t]=[(t,cs')]:=by
  simp only [Za4,Xv,if_pos htl,if_true]
 have hd:σ.getD t .free=.var cs:=by simp [List.getD_eq_getElem?_getD,hs]
 have hf0:Zn σ []=σ:=rfl
 unfold Zi Zbx
 rw [hb]
 simp only [Xi,if_false,hsh,hf0,href,Zfe hs hc]
 unfold Zbl
 have hall:([t].all fun t=>okB (σ.getD t .free))=true:=by simp [XP,Wj,hs,okB]
 rw [if_pos hall]
 have hρ:Zk σ 0 [t] t 0=some (0,0):=by simp [Zk,ZO,hs,Zo,ZJ]
 have hheap:Zr σ 0 [t] (Zk σ 0 [t]) [t] 0=[.var cs]:=by
  simp only [Zr,hd,ZB,(ZaX _ cs hc).1]
 rw [hren _ hρ,hheap,h]
 have hask:Z5 view [t].length (some (r,[.var cs']))=some (r,[.var cs']):=by
  unfold Z5
  split
  ·have hnp:∀ x,r≠.pan x:=by rintro x rfl;simp [viewR,ZW,ZP] at hv
   rw [show ZbB [t].length (some (r,[.var cs']))=(match viewR [.var cs'] r with
    | some (r',ts)=>match gcA [t].length [r'] (Zn [.var cs'] ts) with
     | ([r''],σ')=>some (r'',σ')
     | _=>none
    | none=>none) from by cases r <;> first | rfl | exact absurd rfl (hnp _)]
   rw [hv]
   simp only [XH,XG,XE,show Zn [ZK.var cs'] []=[.var cs'] from rfl,ZkO hn hc']
  ·rfl
 rw [hask]
 have hk:ZaZ σ [t] [.var cs'] 0=true:=by
  simp [ZaZ,okB,hs,Zb4,Zo]
 simp only [Zaw,Wp,Xi,if_false,XH,XG,XE,Nat.le_add_right,Xx,decide_true,hk,hff,X0,if_true,Za1,ZaH,List.getD_cons_zero,ZB,(Za7 _ r hn).1,(ZaX _ cs' hc').1,hup]
def ZfY (k:Int):List (Int×Int) :=
 if k=2 then [(0,0),(128,138),(140,140),(144,144),(149,149),(151,151),(153,157),(159,159)] else
 if k=4 then [(0,0),(16,16),(128,128),(131,131),(135,135),(144,145),(151,151),(153,153)] else
 if k=5 then [(0,0),(16,16),(128,128),(131,131),(135,135),(144,145),(151,151),(153,153)] else
 if k=6 then [(0,0),(146,146)] else
 if k=7 then [(0,0),(146,146)] else
 if k=9 then [(0,2),(128,128),(131,131),(135,135),(143,143),(145,145),(151,151),(158,158),(161,162)] else
 if k=11 then [(0,0),(17,17),(128,128),(131,131),(135,135),(143,143),(145,145)] else
 if k=14 then [(0,0),(4,4),(128,131),(135,135),(137,137),(139,139),(141,144),(147,162)] else
 if k=15 then [(0,0),(24,25)] else
 []
def Zdy (s:Int×Int):AVal:=.agg [.int .i64 s.1,.int .i64 s.2]
def Zfv (c:Int) (s:Int×Int):Bool:=decide (c>=s.1) && decide (c<=s.2)
def ZjP (k c:Int):Bool:=(ZfY k).any (Zfv c)
theorem ZO6 (k:Int):(ZfY k).length<=9:=by
 unfold ZfY
 repeat' split
 all_goals simp
theorem ZFN (k:Int):∃ f,E 166 [.int .i64 k] []=some (.lst f ((ZfY k).map Zdy),[]):=by
 refine ⟨true,?_⟩
 unfold ZfY
 by_cases h2:k=2
 ·subst h2
  rw [Zh (by rfl) Zej]
  simp -implicitDefEqProofs only [EQA,Zs,Xe,Xc,Xf,Xb,reduceCtorEq,↓reduceIte,Zeu,ZdH,Zed,Zam,AVal.cells,Zbj,viewAs,ZW,ZP,ZaS,Zn]
  rfl
 by_cases h4:k=4
 ·subst h4
  rw [Zh (by rfl) Zej]
  simp -implicitDefEqProofs only [EQA,Zs,ZdD,Xe,Xc,Xf,Xb,reduceCtorEq,ite_self,↓reduceIte,Zeu,ZdH,Zed,Xq,Zam,AVal.cells,Zbj,viewAs,ZW,ZP,ZaS,Zn]
  rfl
 by_cases h5:k=5
 ·subst h5
  rw [Zh (by rfl) Zej]
  simp -implicitDefEqProofs only [EQA,Zs,ZdD,Xe,Xc,Xf,Xb,reduceCtorEq,ite_self,↓reduceIte,Zeu,ZdH,Zed,Xq,Zam,AVal.cells,Zbj,viewAs,ZW,ZP,ZaS,Zn]
  rfl
 by_cases h6:k=6
 ·subst h6
  rw [Zh (by rfl) Zej]
  simp -implicitDefEqProofs only [EQA,Zs,ZdD,Xe,Xc,Xf,Xb,reduceCtorEq,ite_self,↓reduceIte,Zeu,ZdH,Zed,Xq,Zam,AVal.cells,Zbj,viewAs,ZW,ZP,ZaS,Zn]
  rfl
 by_cases h7:k=7
 ·subst h7
  rw [Zh (by rfl) Zej]
  simp -implicitDefEqProofs only [EQA,Zs,ZdD,Xe,Xc,Xf,Xb,reduceCtorEq,ite_self,↓reduceIte,Zeu,ZdH,Zed,Xq,Zam,AVal.cells,Zbj,viewAs,ZW,ZP,ZaS,Zn]
  rfl
 by_cases h9:k=9
 ·subst h9
  rw [Zh (by rfl) Zej]
  simp -implicitDefEqProofs only [EQA,Zs,ZdD,Xe,Xc,Xf,Xb,reduceCtorEq,↓reduceIte,Zeu,ZdH,Zed,Xq,Zam,AVal.cells,Zbj,viewAs,ZW,ZP,ZaS,Zn]
  rfl
 by_cases h11:k=11
 ·subst h11
  rw [Zh (by rfl) Zej]
  simp -implicitDefEqProofs only [EQA,Zs,ZdD,Xe,Xc,Xf,Xb,reduceCtorEq,↓reduceIte,Zeu,ZdH,Zed,Xq,Zam,AVal.cells,Zbj,viewAs,ZW,ZP,ZaS,Zn]
  rfl
 by_cases h14:k=14
 ·subst h14
  rw [Zh (by rfl) Zej]
  simp -implicitDefEqProofs only [EQA,Zs,ZdD,Xe,Xc,Xf,Xb,reduceCtorEq,ite_self,↓reduceIte,Zeu,ZdH,Zed,Xq,Zam,AVal.cells,Zbj,viewAs,ZW,ZP,ZaS,Zn]
  rfl
 by_cases h15:k=15
 ·subst h15
  rw [Zh (by rfl) Zej]
  simp -implicitDefEqProofs only [EQA,Zs,ZdD,Xe,Xc,Xf,Xb,reduceCtorEq,ite_self,↓reduceIte,Zeu,ZdH,Zed,Xq,Zam,AVal.cells,Zbj,viewAs,ZW,ZP,ZaS,Zn]
  rfl
 have b2:(k == 2)=false:=by simpa using h2
 have b4:(k == 4)=false:=by simpa using h4
 have b5:(k == 5)=false:=by simpa using h5
 have b6:(k == 6)=false:=by simpa using h6
 have b7:(k == 7)=false:=by simpa using h7
 have b9:(k == 9)=false:=by simpa using h9
 have b11:(k == 11)=false:=by simpa using h11
 have b14:(k == 14)=false:=by simpa using h14
 have b15:(k == 15)=false:=by simpa using h15
 rw [if_neg h2,if_neg h4,if_neg h5,if_neg h6,if_neg h7,if_neg h9,if_neg h11,if_neg h14,if_neg h15]
 rw [Zh (by rfl) Zej]
 simp -implicitDefEqProofs only [EQA,Zs,Xc,Xb,reduceCtorEq,↓reduceIte,Zeu,ZdH,Zed,b2,b4,b5,b6,b7,b9,b11,b14,b15]
theorem ZOt (c:Int) (s:Int×Int):E 167 [.agg [.int .i64 s.1,.int .i64 s.2],.ref 0 0] [.var [.int .i64 c]]=some (.bool (Zfv c s),[.var [.int .i64 c]]):=by
 unfold Zfv
 rw [Zh (by rfl) ZxS]
 by_cases h:c>=s.1
 ·simp -implicitDefEqProofs only [EQA,ZI,ZT,Xe,Xc,Xb,Xg,ZE,unG,reduceCtorEq,↓reduceIte,Zd,ZuY,Zj8,Zvp,h]
  try (simp [Z8,gcA,Zy,Zu,Zp,Z3,Zk,Zr,ZO,Zo,ZJ,Zg,Zm,ZB,ZG,WG])
 ·simp -implicitDefEqProofs only [EQA,ZI,ZT,Xe,Xc,Xb,Xg,ZE,Zaz,reduceCtorEq,↓reduceIte,Zd,ZuY,Zj8,Zvp,h]
  try (simp [Z8,gcA,Zy,Zu,Zp,Z3,Zk,Zr,ZO,Zo,ZJ,Zg,Zm,ZB,ZG,WG])
theorem ZCZ (k:Int) (σ:Za) (sq own:Nat):Zi E BY σ sq 166 own true [.int .i64 k]=some (.lst false ((ZfY k).map Zdy),σ,{}):=by
 obtain ⟨f,h⟩:=ZFN k
 exact ZbJ h (by kernel_rfl) rfl rfl rfl (fun _=>rfl) _ _ _
theorem ZNT (σ:Za) (sq t own:Nat) (view:Bool) (c:Int) (s:Int×Int) (hs:σ[t]?=some (.var [.int .i64 c])) (hff:ZaY σ sq own=true):Zi E BY σ sq 167 own view [.agg [.int .i64 s.1,.int .i64 s.2],.ref t 0]=some (.bool (Zfv c s),σ.set t (.var [.int .i64 c]),{ any:=true,upd:=[(t,[.int .i64 c])] }) :=
 ZoW hs rfl rfl (by kernel_rfl) hff rfl rfl (fun ρ h=>by simp only [Zg,Zm,h]) rfl rfl (ZOt c s)
theorem Zvq (L:List (Int×Int)) (c:Int) (hL:L.length<=9223372036854775807):∀ (r:List (Int×Int)) (i:Nat),L.drop i=r ->
  ∃ z,ZkM 1 [(8,.int .i64 i),(7,.int .i64 L.length),(1,.fn 167 [.ref 0 0]),(0,.lst false (L.map Zdy))] [.var [.int .i64 c]]=some (.int .i64 z,[.var [.int .i64 c]])/\decide (z>=0)=r.any (Zfv c)
 | [],i,h=>by
  have h1:=Zcw h
  refine ⟨-1,?_,by simp⟩
  unfold ZkM
  rw [ZX]
  simp -implicitDefEqProofs only [EQA,ZT,Xc,Xb,reduceCtorEq,↓reduceIte,Zd,Ztg,Zzo,ZmO,Zqe,ZiZ,h1]
 | x::r,i,h=>by
  obtain ⟨z,ih,hz⟩:=Zvq L c hL r (i+1) (Zab h).2.1
  have h1:(i:Int) < L.length:=by have:=(Zab h).2.2;omega
  have e1:=iad (Zab h).1 Zdy (k:=2) rfl
  have e3:=Zcn h1 hL
  have hm:x ∈ L:=XA (Zab h).1
  have hc:=fun σ sq t own view hs hff=>ZNT σ sq t own view c x hs hff
  unfold ZkM at ih ⊢
  cases hb:Zfv c x
  ·refine ⟨z,?_,by rw [hz];simp [hb]⟩
   rw [ZX]
   simp -implicitDefEqProofs only [EQA,ZI,ZT,Xe,Xc,Xf,Xb,Xg,reduceCtorEq,↓reduceIte,gcT,gcA,Zy,Zu,Zk,Zr,ZO,Zo,ZJ,ZB,ZG,WG,Zqe,ZiZ,h1,e1,e3,hc,hb,ZaY,Zdy]
   exact ih
  ·refine ⟨i,?_,by simp [hb]⟩
   rw [ZX]
   simp -implicitDefEqProofs only [EQA,ZI,ZT,Xe,Xc,Xf,Xb,Xg,reduceCtorEq,↓reduceIte,Zd,Ztg,Zqe,ZiZ,h1,e1,hc,hb,ZaY,Zdy]
theorem ZDC (L:List (Int×Int)) (c:Int) (hL:L.length<=9223372036854775807) :
  ∃ z,E 183 [.lst false (L.map Zdy),.fn 167 [.ref 0 0]] [.var [.int .i64 c]]=some (.int .i64 z,[.var [.int .i64 c]])/\decide (z>=0)=L.any (Zfv c):=by
 obtain ⟨z,h,hz⟩:=Zvq L c hL L 0 rfl
 refine ⟨z,?_,hz⟩
 rw [Zh (by rfl) ZOG]
 have z0:((0:Nat):Int)=0:=rfl
 rw [z0] at h
 unfold ZkM at h
 simp -implicitDefEqProofs only [EQA,ZT,Xc,Xb,reduceCtorEq,↓reduceIte,gcT,gcA,Zy,Zu,Zk,Zr,ZO,Zo,ZJ,ZB,ZG,WG,ZKZ,ZnD,h]
theorem ZC4 (L:List (Int×Int)) (c:Int) (hL:L.length<=9223372036854775807) :
  E 165 [.lst false (L.map Zdy),.fn 167 [.ref 0 0]] [.var [.int .i64 c]]=some (.bool (L.any (Zfv c)),[.var [.int .i64 c]]):=by
 obtain ⟨z,h,hz⟩:=ZDC L c hL
 rw [Zh (by rfl) ZIc]
 have hc:=fun (σ:Za) sq t view hs=>ZoW (O:=E) (bf:=BY) (σ:=σ) (t:=t) (sq:=sq) (own:=0) (view:=view) (f:=183) (args:=[.lst false (L.map Zdy),.fn 167 [.ref t 0]]) (vs:=[.lst false (L.map Zdy),.fn 167 [.ref t 0]]) hs rfl rfl (by kernel_rfl) rfl rfl rfl (fun ρ h=>by simp only [Zg,Zm,h]) rfl rfl h
 simp -implicitDefEqProofs only [EQA,ZT,Xc,Xb,reduceCtorEq,↓reduceIte,Zd,ZKS,Zoe,ZBc,hc,hz]
theorem ZAH (k c:Int):E 146 [.int .i64 k,.int .i64 c] []=some (.bool (ZjP k c),[]):=by
 have h:=ZC4 (ZfY k) c (by have:=ZO6 k;omega)
 have hC:=fun σ sq own=>ZCZ k σ sq own
 unfold ZjP
 generalize ZfY k=L at *
 rw [Zh (by rfl) ZJe]
 have hc:=fun (σ:Za) sq t view hs=>ZoW (O:=E) (bf:=BY) (σ:=σ) (t:=t) (sq:=sq) (own:=0) (view:=view) (f:=165) (args:=[.lst false (L.map Zdy),.fn 167 [.ref t 0]]) (vs:=[.lst false (L.map Zdy),.fn 167 [.ref t 0]]) hs rfl rfl (by kernel_rfl) rfl rfl rfl (fun ρ h=>by simp only [Zg,Zm,h]) rfl rfl h
 simp -implicitDefEqProofs only [EQA,ZI,Xc,Xb,Xg,reduceCtorEq,↓reduceIte,ZNI,ZpU,ZDW,hC,hc]
theorem Zi4 (k c:Int) (σ:Za) (sq own:Nat):Zi E BY σ sq 146 own true [.int .i64 k,.int .i64 c]=some (.bool (ZjP k c),σ,{}) :=
 ZcU (ZAH k c) (by kernel_rfl) (by simp -implicitDefEqProofs only [Zdi,ZbE,eq_self,eq_self]) (by simp -implicitDefEqProofs only [ZI,ZbE,eq_self,eq_self]) rfl (fun _=>rfl) _ _ _ _
end
section
abbrev RK (α:Type):=Except Int (α×Zb)
def ZaM (n:Nat) (l:Zb):RK Int:=if l.length < n then .error 129 else .ok (Zig (l.take n),l.drop n)
def Zav (l:Zb):RK Zb:=if (Zaf l).2.2=0 then .ok ((Zaf l).1,l.drop (Zaf l).2.1) else .error 129
def Zdp (l:Zb):RK Zb:=if (ZaJ l).2.2=0 then .ok ((ZaJ l).1,l.drop (ZaJ l).2.1) else .error 129
def ZbM (w:Int) (l:Zb):RK (List Zv):=if (Zao w l).2.2=0 then .ok ((Zao w l).1,l.drop (Zao w l).2.1) else .error (Zao w l).2.2
def idK (l:Zb):RK Int:=match ZaM 2 l with
 | .ok (n,r)=>if n=0 then .error 130 else .ok (n,r)
 | .error c=>.error c
def ZaL (k:Int) (l:Zb):RK Int:=match ZaM 1 l with
 | .ok (n,r)=>if ZjP k n=true then .ok (n,r) else .error 130
 | .error c=>.error c
theorem ZQ {v:AVal} (hv:ZM v=true):∀ {P:List AVal} (k:Nat),Zd P=true->Zd (P.set k v)=true
 | [],_,_=>rfl
 | x::P,0,h=>by
  simp only [Zd,Xj,List.set_cons_zero] at h ⊢
  exact ⟨hv,h.2⟩
 | x::P,k+1,h=>by
  simp only [Zd,Xj,List.set_cons_succ] at h ⊢
  exact ⟨h.1,ZQ hv k h.2⟩
theorem Zb0 (f:Bool) (xs:List AVal):ZM (.lst f xs)=true:=rfl
section
variable (P:List AVal) (hP:P.length=26) (hN:Zd P=true)
include hP
theorem ZaD (k k':Nat) (hk:k < 26) (hk':k'=k+1) (L v:AVal):List.take k (P++[L])++[v]++List.drop k' (P++[L])=P.set k v++[L]:=by
 subst hk'
 rw [Wi (by omega),List.drop_append_of_le_length (by omega),<-List.append_assoc]
 congr 1
 rw [List.set_eq_take_append_cons_drop,if_pos (by omega)]
 simp
theorem Zac (k:Nat) (hk:k < 26) (L:AVal):(P++[L])[k]?=P[k]?:=We (by omega)
theorem Zhu (k:Nat) (hk:k < 26) (L v:AVal):(P.set k v++[L])[k]?=some v:=by
 rw [We (by simp;omega),List.getElem?_set_self (by omega)]
include hN
section
variable (l:Zb) (hl:l.length<=140737488355328) (σ:Za) (t sq:Nat) (hs:σ[t]?=some (.var (P++[.lst false (l.map Zc)])))
include hl hs
theorem ZcC {n:Nat} {m:Int} {a:Int} {r:Zb} (hm:((n:Nat):Int)=m) (h:ZaM n l=.ok (a,r)):Zi E BY σ sq 111 0 true [.ref t 0,.int .i64 m]=some (.int .i64 a,σ.set t (.var (P++[.lst false (r.map Zc)])),{ any:=true,upd:=[(t,P++[.lst false (r.map Zc)])] }):=by
 subst hm
 unfold ZaM at h
 split at h
 ·cases h
 ·injection h with h;injection h with h1 h2;subst h1 h2
  exact Zc4 (rest:=[.int .i64 (n:Nat)]) (by kernel_rfl) rfl (Zx P hP hN _ _) (Zx P hP hN _ _) rfl rfl (ZNC P hP hN l n (by omega) hl) hs sq
theorem Zf4 {n:Nat} {m:Int} {c:Int} (hm:((n:Nat):Int)=m) (hn:n<=9223372036854775807) (h:ZaM n l=.error c):Zi E BY σ sq 111 0 true [.ref t 0,.int .i64 m]=some (.pan (Zz c),σ.set t (.var (P++[.lst false (l.map Zc)])),{ any:=true,upd:=[(t,P++[.lst false (l.map Zc)])] }):=by
 subst hm
 unfold ZaM at h
 split at h
 ·injection h with h;subst h
  exact Zcy (rest:=[.int .i64 (n:Nat)]) (by kernel_rfl) rfl (Zx P hP hN _ _) (Zx P hP hN _ _) rfl (ZKg P hP hN l n (by omega) hn) hs sq
 ·cases h
theorem Zd8 {a r:Zb} (h:Zav l=.ok (a,r)):Zi E BY σ sq 120 0 true [.ref t 0]=some (.str a,σ.set t (.var (P++[.lst false (r.map Zc)])),{ any:=true,upd:=[(t,P++[.lst false (r.map Zc)])] }):=by
 unfold Zav at h
 split at h
 ·rename_i h0
  injection h with h;injection h with h1 h2;subst h1 h2
  exact Zc4 (rest:=[]) (by kernel_rfl) rfl (Zx P hP hN _ _) (Zx P hP hN _ _) rfl rfl (ZGK P hP hN l hl h0) hs sq
 ·cases h
theorem Zf8 {c:Int} (h:Zav l=.error c):Zi E BY σ sq 120 0 true [.ref t 0]=some (.pan (Zz c),σ.set t (.var (P++[.lst false (l.map Zc)])),{ any:=true,upd:=[(t,P++[.lst false (l.map Zc)])] }):=by
 unfold Zav at h
 split at h
 ·cases h
 ·rename_i h0
  injection h with h;subst h
  exact Zcy (rest:=[]) (by kernel_rfl) rfl (Zx P hP hN _ _) (Zx P hP hN _ _) rfl (ZOZ P hP hN l hl h0) hs sq
theorem Zrx {a r:Zb} (h:Zdp l=.ok (a,r)):Zi E BY σ sq 144 0 true [.ref t 0]=some (.lst false (a.map Zc),σ.set t (.var (P++[.lst false (r.map Zc)])),{ any:=true,upd:=[(t,P++[.lst false (r.map Zc)])] }):=by
 unfold Zdp at h
 split at h
 ·rename_i h0
  injection h with h;injection h with h1 h2;subst h1 h2
  exact Zc4 (rest:=[]) (by kernel_rfl) rfl (Zx P hP hN _ _) (Zx P hP hN _ _) rfl rfl (Zx3 P hP hN l hl h0) hs sq
 ·cases h
theorem Zt6 {c:Int} (h:Zdp l=.error c):Zi E BY σ sq 144 0 true [.ref t 0]=some (.pan (Zz c),σ.set t (.var (P++[.lst false (l.map Zc)])),{ any:=true,upd:=[(t,P++[.lst false (l.map Zc)])] }):=by
 unfold Zdp at h
 split at h
 ·cases h
 ·rename_i h0
  injection h with h;subst h
  exact Zcy (rest:=[]) (by kernel_rfl) rfl (Zx P hP hN _ _) (Zx P hP hN _ _) rfl (ZHw P hP hN l hl h0) hs sq
theorem Zd3 {w:Int} {a:List Zv} {r:Zb} (hu:(Zao w l).2.1<=l.length) (h:ZbM w l=.ok (a,r)):Zi E BY σ sq 113 0 true [.ref t 0,.int .i64 w]=some (.lst false (a.map Zq),σ.set t (.var (P++[.lst false (r.map Zc)])),{ any:=true,upd:=[(t,P++[.lst false (r.map Zc)])] }):=by
 unfold ZbM at h
 split at h
 ·rename_i h0
  injection h with h;injection h with h1 h2;subst h1 h2
  exact Zc4 (rest:=[.int .i64 w]) (by kernel_rfl) rfl (Zx P hP hN _ _) (Zx P hP hN _ _) rfl rfl (ZAl P hP hN w l hl h0 hu) hs sq
 ·cases h
theorem ZfR {w c:Int} (h:ZbM w l=.error c):Zi E BY σ sq 113 0 true [.ref t 0,.int .i64 w]=some (.pan (Zz c),σ.set t (.var (P++[.lst false (l.map Zc)])),{ any:=true,upd:=[(t,P++[.lst false (l.map Zc)])] }):=by
 unfold ZbM at h
 split at h
 ·cases h
 ·rename_i h0
  injection h with h;subst h
  exact Zcy (rest:=[.int .i64 w]) (by kernel_rfl) rfl (Zx P hP hN _ _) (Zx P hP hN _ _) rfl (ZJ9 P hP hN w l hl h0) hs sq
end
theorem ZNn (l:Zb) (hl:l.length<=140737488355328) {n:Int} {r:Zb} (h:idK l=.ok (n,r)):E 115 [.ref 0 0] [.var (P++[.lst false (l.map Zc)])]=some (.tup [],[.var (P.set 4 (.int .i64 n)++[.lst false (r.map Zc)])]):=by
 unfold idK at h
 split at h
 case h_2=>cases h
 rename_i n' r' h2
 split at h
 ·cases h
 rename_i hn
 injection h with h;injection h with h3 h4;subst h3 h4
 have hG:=fun σ sq hs=>ZcC P hP hN l hl σ 0 sq hs (m:=2) rfl h2
 have a1:=Z9 P hP
 have a3:=ZaD P hP 4 5 (by omega) rfl
 have a4:=Zhu P hP 4 (by omega)
 have m1:=Zbb
 have h0:(n' != 0)=true:=by simpa using hn
 rw [Zh (by rfl) Zp1]
 simp -implicitDefEqProofs only [EQA,ZI,Zs,Xe,Xc,Xf,Xb,reduceCtorEq,↓reduceIte,Zd,Zox,Zjo,ZMR,hG,a1,a3,a4,m1,h0]
 exact ZY rfl (ZaF (ZQ rfl 4 hN) (by rfl))
theorem Zmf (l:Zb) (hl:l.length<=140737488355328) {c:Int} (h:idK l=.error c):∃ cs,Zd cs=true/\E 115 [.ref 0 0] [.var (P++[.lst false (l.map Zc)])]=some (.pan (Zz c),[.var cs]):=by
 unfold idK at h
 split at h
 ·rename_i n' r' h2
  split at h
  case isFalse=>cases h
  rename_i hn
  injection h with h;subst h hn
  have hG:=fun σ sq hs=>ZcC P hP hN l hl σ 0 sq hs (m:=2) rfl h2
  have a1:=Z9 P hP
  have a3:=ZaD P hP 4 5 (by omega) rfl
  have a4:=Zhu P hP 4 (by omega)
  have m1:=ZbA
  refine ⟨P.set 4 (.int .i64 0)++[.lst false (r'.map Zc)],ZaF (ZQ rfl 4 hN) (by rfl),?_⟩
  rw [Zh (by rfl) Zp1]
  simp -implicitDefEqProofs only [EQA,ZI,Xe,Xc,Xf,Xb,reduceCtorEq,↓reduceIte,Zox,Zjo,hG,a1,a3,a4,m1,bne_self_eq_false]
  exact ZY rfl (ZaF (ZQ rfl 4 hN) (by rfl))
 ·rename_i c' h2
  injection h with h;subst h
  have hG:=fun σ sq hs=>Zf4 P hP hN l hl σ 0 sq hs (m:=2) rfl (by decide) h2
  refine ⟨P++[.lst false (l.map Zc)],ZaF hN (by rfl),?_⟩
  rw [Zh (by rfl) Zp1]
  simp -implicitDefEqProofs only [EQA,Xc,reduceCtorEq,↓reduceIte,Zox,Zjo,hG]
  exact ZY rfl (ZaF hN (by rfl))
theorem ZEv (k:Int) (hk:P[0]?=some (.int .i64 k)) (l:Zb) (hl:l.length<=140737488355328) {n:Int} {r:Zb} (h:ZaL k l=.ok (n,r)):E 112 [.ref 0 0] [.var (P++[.lst false (l.map Zc)])]=some (.int .i64 n,[.var (P++[.lst false (r.map Zc)])]):=by
 unfold ZaL at h
 split at h
 case h_2=>cases h
 rename_i n' r' h2
 split at h
 case isFalse=>cases h
 rename_i hn
 injection h with h;injection h with h3 h4;subst h3 h4
 have hG:=fun σ sq hs=>ZcC P hP hN l hl σ 0 sq hs (m:=1) rfl h2
 have a4:=fun L=>(Zac P hP 0 (by omega) L).trans hk
 have m1:=Zbb
 have hC:=fun σ sq own=>Zi4 k n' σ sq own
 rw [hn] at hC
 rw [Zh (by rfl) ZfU]
 simp -implicitDefEqProofs only [EQA,Xc,Xb,reduceCtorEq,↓reduceIte,Zft,Zeg,Ztp,hG,hC,a4,m1]
 exact ZY rfl (ZaF hN (by rfl))
theorem Zsg (k:Int) (hk:P[0]?=some (.int .i64 k)) (l:Zb) (hl:l.length<=140737488355328) {c:Int} (h:ZaL k l=.error c):∃ cs,Zd cs=true/\E 112 [.ref 0 0] [.var (P++[.lst false (l.map Zc)])]=some (.pan (Zz c),[.var cs]):=by
 unfold ZaL at h
 split at h
 ·rename_i n' r' h2
  split at h
  case isTrue=>cases h
  rename_i hn
  injection h with h;subst h
  have hG:=fun σ sq hs=>ZcC P hP hN l hl σ 0 sq hs (m:=1) rfl h2
  have a4:=fun L=>(Zac P hP 0 (by omega) L).trans hk
  have m1:=ZbA
  have hC:=fun σ sq own=>Zi4 k n' σ sq own
  rw [WV _ |>.mp hn] at hC
  refine ⟨P++[.lst false (r'.map Zc)],ZaF hN (by rfl),?_⟩
  rw [Zh (by rfl) ZfU]
  simp -implicitDefEqProofs only [EQA,Xc,Xb,reduceCtorEq,↓reduceIte,Zft,Zeg,hG,hC,a4,m1]
  exact ZY rfl (ZaF hN (by rfl))
 ·rename_i c' h2
  injection h with h;subst h
  have hG:=fun σ sq hs=>Zf4 P hP hN l hl σ 0 sq hs (m:=1) rfl (by decide) h2
  refine ⟨P++[.lst false (l.map Zc)],ZaF hN (by rfl),?_⟩
  rw [Zh (by rfl) ZfU]
  simp -implicitDefEqProofs only [EQA,Xc,reduceCtorEq,↓reduceIte,Zft,Zeg,hG]
  exact ZY rfl (ZaF hN (by rfl))
section
variable (l:Zb) (hl:l.length<=140737488355328) (σ:Za) (t sq:Nat) (hs:σ[t]?=some (.var (P++[.lst false (l.map Zc)])))
include hl hs
theorem Zfr {n:Int} {r:Zb} (h:idK l=.ok (n,r)):Zi E BY σ sq 115 0 true [.ref t 0]=some (.tup [],σ.set t (.var (P.set 4 (.int .i64 n)++[.lst false (r.map Zc)])),{ any:=true,upd:=[(t,P.set 4 (.int .i64 n)++[.lst false (r.map Zc)])] }) :=
 Zc4 (rest:=[]) (by kernel_rfl) rfl (Zx P hP hN _ _) (ZaF (ZQ rfl 4 hN) (by rfl)) rfl rfl (ZNn P hP hN l hl h) hs sq
theorem ZiS (k:Int) (hk:P[0]?=some (.int .i64 k)) {n:Int} {r:Zb} (h:ZaL k l=.ok (n,r)):Zi E BY σ sq 112 0 true [.ref t 0]=some (.int .i64 n,σ.set t (.var (P++[.lst false (r.map Zc)])),{ any:=true,upd:=[(t,P++[.lst false (r.map Zc)])] }) :=
 Zc4 (rest:=[]) (by kernel_rfl) rfl (Zx P hP hN _ _) (Zx P hP hN _ _) rfl rfl (ZEv P hP hN k hk l hl h) hs sq
end
end
end
section
def ZeX:Option (List Zv)->AVal
 | none=>.lst true []
 | some l=>.lst false (l.map Zq)
def ZcW (k:Int) (l:Zb):RK (Int×Option (List Zv)) :=
 if l.length=0 then .ok ((0,none),l) else match ZaL k l with
 | .error c=>.error c
 | .ok (c,r)=>if r.length=0 then .ok ((c,none),r) else match ZbM k r with
  | .error c=>.error c
  | .ok (ps,r')=>.ok ((c,some ps),r')
theorem Zkz {k n:Int} {l r:Zb} (h:ZaL k l=.ok (n,r)):r.length<=l.length:=by
 unfold ZaL ZaM at h
 split at h
 ·rename_i h1
  split at h1
  ·cases h1
  ·injection h1 with h1;injection h1 with _ h1
   split at h
   ·injection h with h;injection h with _ h;subst h h1;simp
   ·cases h
 ·cases h
theorem Zk0 {P:List AVal} {k:Nat} {v:AVal} (h:P[k]?=some v):P.set k v=P:=by
 apply List.ext_getElem?
 intro j
 rw [Xv]
 split
 ·rename_i e;subst e
  have hk:k < P.length:=by
   rcases Wx k P.length with h' | h'
   ·exact h'
   ·rw [XQ h'] at h;cases h
  rw [if_pos hk,h]
 ·rfl
section
variable (P:List AVal) (hP:P.length=26) (hN:Zd P=true)
include hP hN
theorem ZNK (k:Int) (hk:P[0]?=some (.int .i64 k)) (h7:P[7]?=some (.int .i64 0)) (h9:P[9]?=some (.lst true [])) (hu:∀ r:Zb,r.length<=140737488355328->(Zao k r).2.1<=r.length) (l:Zb) (hl:l.length<=140737488355328) {c:Int} {ps:Option (List Zv)} {r:Zb} (h:ZcW k l=.ok ((c,ps),r)) :
  E 116 [.ref 0 0] [.var (P++[.lst false (l.map Zc)])]=some (.tup [],[.var ((P.set 7 (.int .i64 c)).set 9 (ZeX ps)++[.lst false (r.map Zc)])]):=by
 have a1:=Z9 P hP
 have a2:=Zax P hP
 unfold ZcW at h
 split at h
 ·rename_i h0
  injection h with h;injection h with h1 h2;injection h1 with h1 h3;subst h1 h2 h3
  have hg:¬(l.length:Int) > 0:=by omega
  rw [show ZeX none=.lst true [] from rfl,Zk0 h7,Zk0 h9]
  rw [Zh (by rfl) Zjj]
  simp -implicitDefEqProofs only [EQA,Zs,Xc,reduceCtorEq,↓reduceIte,Zd,Ziw,Zf6,Zm4,a2,hg]
  exact ZY rfl (Zx P hP hN _ _)
 ·rename_i h0
  have hg:(l.length:Int) > 0:=by omega
  split at h
  ·cases h
  rename_i c' r' hc
  have hr':=Zkz hc
  have hC:=fun σ sq hs=>ZiS P hP hN l hl σ 0 sq hs k hk hc
  have a3:=ZaD P hP 7 8 (by omega) rfl
  have hP7:(P.set 7 (.int .i64 c')).length=26:=by simp [hP]
  have hN7:Zd (P.set 7 (.int .i64 c'))=true:=ZQ rfl 7 hN
  have hk7:(P.set 7 (.int .i64 c'))[0]?=some (.int .i64 k):=by rw [Xm (by omega)];exact hk
  have h97:(P.set 7 (.int .i64 c'))[9]?=some (.lst true []):=by rw [Xm (by omega)];exact h9
  have b1:=Z9 _ hP7
  have b2:=Zax _ hP7
  have b3:=ZaD _ hP7 9 10 (by omega) rfl
  have b4:=fun L=>(Zac _ hP7 0 (by omega) L).trans hk7
  split at h
  ·rename_i h1
   injection h with h;injection h with h1 h2;injection h1 with h1 h3;subst h1 h2 h3
   have hg':¬(r'.length:Int) > 0:=by omega
   rw [show ZeX none=.lst true [] from rfl,Zk0 h97]
   rw [Zh (by rfl) Zjj]
   simp -implicitDefEqProofs only [EQA,ZI,Zs,Xe,Xc,Xf,Xb,reduceCtorEq,↓reduceIte,Zd,Ziw,Zf6,Zm4,a1,a2,a3,b2,hg,hg',hC]
   exact ZY rfl (Zx _ hP7 hN7 _ _)
  ·rename_i h1
   have hg':(r'.length:Int) > 0:=by omega
   split at h
   ·cases h
   rename_i ps' r2 hp
   injection h with h;injection h with h1 h2;injection h1 with h1 h3;subst h1 h2 h3
   have hG:=fun σ sq hs=>Zd3 _ hP7 hN7 r' (by omega) σ 0 sq hs (hu r' (by omega)) hp
   rw [Zh (by rfl) Zjj]
   simp -implicitDefEqProofs only [EQA,ZI,Zs,Xe,Xc,Xf,Xb,reduceCtorEq,↓reduceIte,Zd,Ziw,Zf6,Zm4,a1,a2,a3,b1,b2,b3,b4,hg,hg',hC,hG,ZeX]
   exact ZY rfl (ZaF (ZQ (Zb0 _ _) 9 hN7) (by rfl))
theorem Zti (k:Int) (hk:P[0]?=some (.int .i64 k)) (hu:∀ r:Zb,r.length<=140737488355328->(Zao k r).2.1<=r.length) (l:Zb) (hl:l.length<=140737488355328) {e:Int} (h:ZcW k l=.error e) :
  ∃ cs,Zd cs=true/\E 116 [.ref 0 0] [.var (P++[.lst false (l.map Zc)])]=some (.pan (Zz e),[.var cs]):=by
 have a1:=Z9 P hP
 have a2:=Zax P hP
 unfold ZcW at h
 split at h
 ·cases h
 ·rename_i h0
  have hg:(l.length:Int) > 0:=by omega
  split at h
  ·rename_i c hc
   injection h with h;subst h
   obtain ⟨cs,hn,he⟩:=Zsg P hP hN k hk l hl hc
   have hC:=fun (σ:Za) sq (hs:σ[0]?=some (.var (P++[.lst false (l.map Zc)])))=>Zcy (O:=E) (bf:=BY) (f:=112) (view:=true) (rest:=[]) (by kernel_rfl) rfl (Zx P hP hN _ _) hn rfl he hs sq
   refine ⟨cs,hn,?_⟩
   rw [Zh (by rfl) Zjj]
   simp -implicitDefEqProofs only [EQA,Xc,reduceCtorEq,↓reduceIte,Ziw,Zf6,a2,hg,hC]
   exact ZY rfl hn
  ·rename_i c' r' hc
   have hr':=Zkz hc
   have hC:=fun σ sq hs=>ZiS P hP hN l hl σ 0 sq hs k hk hc
   have a3:=ZaD P hP 7 8 (by omega) rfl
   have hP7:(P.set 7 (.int .i64 c')).length=26:=by simp [hP]
   have hN7:Zd (P.set 7 (.int .i64 c'))=true:=ZQ rfl 7 hN
   have hk7:(P.set 7 (.int .i64 c'))[0]?=some (.int .i64 k):=by rw [Xm (by omega)];exact hk
   have b1:=Z9 _ hP7
   have b2:=Zax _ hP7
   have b4:=fun L=>(Zac _ hP7 0 (by omega) L).trans hk7
   split at h
   ·cases h
   ·rename_i h1
    have hg':(r'.length:Int) > 0:=by omega
    split at h
    ·rename_i c hp
     injection h with h;subst h
     have hG:=fun σ sq hs=>ZfR _ hP7 hN7 r' (by omega) σ 0 sq hs hp
     refine ⟨P.set 7 (.int .i64 c')++[.lst false (r'.map Zc)],Zx _ hP7 hN7 _ _,?_⟩
     rw [Zh (by rfl) Zjj]
     simp -implicitDefEqProofs only [EQA,ZI,Xe,Xc,Xf,Xb,reduceCtorEq,↓reduceIte,Ziw,Zf6,a1,a2,a3,b2,b4,hg,hg',hC,hG]
     exact ZY rfl (Zx _ hP7 hN7 _ _)
    ·cases h
section
variable (l:Zb) (hl:l.length<=140737488355328) (σ:Za) (t sq:Nat) (hs:σ[t]?=some (.var (P++[.lst false (l.map Zc)])))
include hl hs
theorem Zs4 (k:Int) (hk:P[0]?=some (.int .i64 k)) (h7:P[7]?=some (.int .i64 0)) (h9:P[9]?=some (.lst true [])) (hu:∀ r:Zb,r.length<=140737488355328->(Zao k r).2.1<=r.length) {c:Int} {ps:Option (List Zv)} {r:Zb} (h:ZcW k l=.ok ((c,ps),r)):Zi E BY σ sq 116 0 true [.ref t 0]=some (.tup [],σ.set t (.var ((P.set 7 (.int .i64 c)).set 9 (ZeX ps)++[.lst false (r.map Zc)])),{ any:=true,upd:=[(t,(P.set 7 (.int .i64 c)).set 9 (ZeX ps)++[.lst false (r.map Zc)])] }) :=
 Zc4 (rest:=[]) (by kernel_rfl) rfl (Zx P hP hN _ _) (ZaF (ZQ (by cases ps <;> rfl) 9 (ZQ rfl 7 hN)) (by rfl)) rfl rfl (ZNK P hP hN k hk h7 h9 hu l hl h) hs sq
end
end
theorem Zf7 {n:Nat} {l r:Zb} {a:Int} (h:ZaM n l=.ok (a,r)):r.length<=l.length:=by
 unfold ZaM at h
 split at h
 ·cases h
 ·injection h with h;injection h with _ h;subst h;simp
theorem Ze0 {l r:Zb} {a:Int} (h:idK l=.ok (a,r)):r.length<=l.length:=by
 unfold idK at h
 split at h
 ·rename_i h1
  split at h
  ·cases h
  ·injection h with h;injection h with _ h;subst h;exact Zf7 h1
 ·cases h
theorem Zds {l r a:Zb} (h:Zav l=.ok (a,r)):r.length<=l.length:=by
 unfold Zav at h
 split at h
 ·injection h with h;injection h with _ h;subst h;simp
 ·cases h
theorem Zuz {l r a:Zb} (h:Zdp l=.ok (a,r)):r.length<=l.length:=by
 unfold Zdp at h
 split at h
 ·injection h with h;injection h with _ h;subst h;simp
 ·cases h
theorem ZgE {w:Int} {l r:Zb} {a:List Zv} (h:ZbM w l=.ok (a,r)):r.length<=l.length:=by
 unfold ZbM at h
 split at h
 ·injection h with h;injection h with _ h;subst h;simp
 ·cases h
def ZeN (qos:Int) (l:Zb):Except Int (Zb×Int×List Zv×Zb):=match Zav l with
 | .error c=>.error c
 | .ok (tp,r1)=>if qos > 0 then (match idK r1 with
  | .error c=>.error c
  | .ok (n,r2)=>match ZbM 3 r2 with
   | .error c=>.error c
   | .ok (ps,r3)=>.ok (tp,n,ps,r3))
  else match ZbM 3 r1 with
   | .error c=>.error c
   | .ok (ps,r3)=>.ok (tp,0,ps,r3)
section
variable (P:List AVal) (hP:P.length=26) (hN:Zd P=true)
include hP hN
theorem ZFR (qos:Int) (h2:P[2]?=some (.int .i64 qos)) (h4:P[4]?=some (.int .i64 0)) (hu:∀ r:Zb,r.length<=140737488355328->(Zao 3 r).2.1<=r.length) (l:Zb) (hl:l.length<=140737488355328) {tp:Zb} {n:Int} {ps:List Zv} {pay:Zb} (h:ZeN qos l=.ok (tp,n,ps,pay)) :
  E 114 [.ref 0 0] [.var (P++[.lst false (l.map Zc)])]=some (.tup [],[.var ((((P.set 5 (.str tp)).set 4 (.int .i64 n)).set 9 (.lst false (ps.map Zq))).set 6 (.lst false (pay.map Zc))++[.lst true []])]):=by
 have a1:=Z9 P hP
 have a2:=Zax P hP
 unfold ZeN at h
 split at h
 ·cases h
 rename_i tp' r1 ht
 have l1:=Zds ht
 have hT:=fun σ sq hs=>Zd8 P hP hN l hl σ 0 sq hs ht
 have a3:=fun L=>ZaD P hP 5 6 (by omega) rfl L (.str tp')
 have hP5:(P.set 5 (.str tp')).length=26:=by simp [hP]
 have hN5:Zd (P.set 5 (.str tp'))=true:=ZQ rfl 5 hN
 have h25:(P.set 5 (.str tp'))[2]?=some (.int .i64 qos):=by rw [Xm (by omega)];exact h2
 have h45:(P.set 5 (.str tp'))[4]?=some (.int .i64 0):=by rw [Xm (by omega)];exact h4
 generalize hQ:P.set 5 (.str tp')=Q at *
 have b1:=Z9 _ hP5
 have b2:=Zax _ hP5
 have b4:=fun L=>(Zac _ hP5 2 (by omega) L).trans h25
 split at h
 ·rename_i hq
  split at h
  ·cases h
  rename_i n' r2 hi
  have l2:=Ze0 hi
  split at h
  ·cases h
  rename_i ps' r3 hp
  have l3:=ZgE hp
  injection h with h;injection h with e1 h;injection h with e2 h;injection h with e3 e4;subst e1 e2 e3 e4
  rw [hQ]
  have hI:=fun σ sq hs=>Zfr Q hP5 hN5 r1 (by omega) σ 0 sq hs hi
  have hP4:(Q.set 4 (.int .i64 n')).length=26:=by simp [hP5]
  have hN4:Zd (Q.set 4 (.int .i64 n'))=true:=ZQ rfl 4 hN5
  generalize Q.set 4 (.int .i64 n')=R at *
  have hG:=fun σ sq hs=>Zd3 _ hP4 hN4 r2 (by omega) σ 0 sq hs (hu r2 (by omega)) hp
  have c1:=Z9 _ hP4
  have c2:=Zax _ hP4
  have c3:=fun L=>ZaD _ hP4 9 10 (by omega) rfl L (.lst false (ps'.map Zq))
  have hP9:(R.set 9 (.lst false (ps'.map Zq))).length=26:=by simp [hP4]
  have hN9:Zd (R.set 9 (.lst false (ps'.map Zq)))=true:=ZQ (Zb0 _ _) 9 hN4
  generalize R.set 9 (.lst false (ps'.map Zq))=S at *
  have d1:=Z9 _ hP9
  have d2:=Zax _ hP9
  have d3:=fun L=>ZaD _ hP9 6 7 (by omega) rfl L (.lst false (r3.map Zc))
  have hP6:(S.set 6 (.lst false (r3.map Zc))).length=26:=by simp [hP9]
  have hN6:Zd (S.set 6 (.lst false (r3.map Zc)))=true:=ZQ (Zb0 _ _) 6 hN9
  generalize S.set 6 (.lst false (r3.map Zc))=U at *
  have f1:=Z9 _ hP6
  have f3:=ZeF _ hP6
  have f4:=Zfh _ hP6
  have hC:=fun σ sq own=>ZoD σ sq own r3 (by omega)
  rw [Zh (by rfl) ZhD]
  simp -implicitDefEqProofs only [EQA,ZI,Zs,Xe,Xc,Xf,Xb,reduceCtorEq,↓reduceIte,Zd,Zhv,Zfo,ZvK,a1,a3,b4,c1,c3,d1,d2,d3,f1,f3,f4,hq,hT,hI,hG,hC]
  exact ZY rfl (ZaF hN6 (by rfl))
 ·rename_i hq
  split at h
  ·cases h
  rename_i ps' r3 hp
  have l3:=ZgE hp
  injection h with h;injection h with e1 h;injection h with e2 h;injection h with e3 e4;subst e1 e2 e3 e4
  rw [hQ,Zk0 h45]
  have hG:=fun σ sq hs=>Zd3 _ hP5 hN5 r1 (by omega) σ 0 sq hs (hu r1 (by omega)) hp
  have c3:=fun L=>ZaD _ hP5 9 10 (by omega) rfl L (.lst false (ps'.map Zq))
  have hP9:(Q.set 9 (.lst false (ps'.map Zq))).length=26:=by simp [hP5]
  have hN9:Zd (Q.set 9 (.lst false (ps'.map Zq)))=true:=ZQ (Zb0 _ _) 9 hN5
  generalize Q.set 9 (.lst false (ps'.map Zq))=S at *
  have d1:=Z9 _ hP9
  have d2:=Zax _ hP9
  have d3:=fun L=>ZaD _ hP9 6 7 (by omega) rfl L (.lst false (r3.map Zc))
  have hP6:(S.set 6 (.lst false (r3.map Zc))).length=26:=by simp [hP9]
  have hN6:Zd (S.set 6 (.lst false (r3.map Zc)))=true:=ZQ (Zb0 _ _) 6 hN9
  generalize S.set 6 (.lst false (r3.map Zc))=U at *
  have f1:=Z9 _ hP6
  have f3:=ZeF _ hP6
  have f4:=Zfh _ hP6
  have hC:=fun σ sq own=>ZoD σ sq own r3 (by omega)
  rw [Zh (by rfl) ZhD]
  simp -implicitDefEqProofs only [EQA,ZI,Zs,Xe,Xc,Xf,Xb,reduceCtorEq,↓reduceIte,Zd,Zhv,Zfo,ZvK,a1,a3,b1,b4,c3,d1,d2,d3,f1,f3,f4,hq,hT,hG,hC]
  exact ZY rfl (ZaF hN6 (by rfl))
theorem ZGd (qos:Int) (h2:P[2]?=some (.int .i64 qos)) (l:Zb) (hl:l.length<=140737488355328) {c:Int} (h:ZeN qos l=.error c) :
  ∃ cs,Zd cs=true/\E 114 [.ref 0 0] [.var (P++[.lst false (l.map Zc)])]=some (.pan (Zz c),[.var cs]):=by
 have a1:=Z9 P hP
 have a2:=Zax P hP
 unfold ZeN at h
 split at h
 ·rename_i c' ht
  injection h with h;subst h
  have hT:=fun σ sq hs=>Zf8 P hP hN l hl σ 0 sq hs ht
  refine ⟨P++[.lst false (l.map Zc)],Zx P hP hN _ _,?_⟩
  rw [Zh (by rfl) ZhD]
  simp -implicitDefEqProofs only [EQA,Xc,reduceCtorEq,↓reduceIte,Zhv,Zfo,hT]
  exact ZY rfl (Zx P hP hN _ _)
 rename_i tp' r1 ht
 have l1:=Zds ht
 have hT:=fun σ sq hs=>Zd8 P hP hN l hl σ 0 sq hs ht
 have a3:=fun L=>ZaD P hP 5 6 (by omega) rfl L (.str tp')
 have hP5:(P.set 5 (.str tp')).length=26:=by simp [hP]
 have hN5:Zd (P.set 5 (.str tp'))=true:=ZQ rfl 5 hN
 have h25:(P.set 5 (.str tp'))[2]?=some (.int .i64 qos):=by rw [Xm (by omega)];exact h2
 generalize hQ:P.set 5 (.str tp')=Q at *
 have b1:=Z9 _ hP5
 have b2:=Zax _ hP5
 have b4:=fun L=>(Zac _ hP5 2 (by omega) L).trans h25
 split at h
 ·rename_i hq
  split at h
  ·rename_i c' hi
   injection h with h;subst h
   obtain ⟨cs,hn,he⟩:=Zmf Q hP5 hN5 r1 (by omega) hi
   have hI:=fun (σ:Za) sq (hs:σ[0]?=some (.var (Q++[.lst false (r1.map Zc)])))=>Zcy (O:=E) (bf:=BY) (f:=115) (view:=true) (rest:=[]) (by kernel_rfl) rfl (Zx Q hP5 hN5 _ _) hn rfl he hs sq
   refine ⟨cs,hn,?_⟩
   rw [Zh (by rfl) ZhD]
   simp -implicitDefEqProofs only [EQA,ZI,Xe,Xc,Xf,Xb,reduceCtorEq,↓reduceIte,Zhv,Zfo,a1,a3,b4,hq,hT,hI]
   exact ZY rfl hn
  rename_i n' r2 hi
  have l2:=Ze0 hi
  split at h
  ·rename_i c' hp
   injection h with h;subst h
   have hI:=fun σ sq hs=>Zfr Q hP5 hN5 r1 (by omega) σ 0 sq hs hi
   have hP4:(Q.set 4 (.int .i64 n')).length=26:=by simp [hP5]
   have hN4:Zd (Q.set 4 (.int .i64 n'))=true:=ZQ rfl 4 hN5
   generalize Q.set 4 (.int .i64 n')=R at *
   have hG:=fun σ sq hs=>ZfR _ hP4 hN4 r2 (by omega) σ 0 sq hs hp
   refine ⟨R++[.lst false (r2.map Zc)],Zx R hP4 hN4 _ _,?_⟩
   rw [Zh (by rfl) ZhD]
   simp -implicitDefEqProofs only [EQA,ZI,Xe,Xc,Xf,Xb,reduceCtorEq,↓reduceIte,Zhv,Zfo,a1,a3,b4,hq,hT,hI,hG]
   exact ZY rfl (Zx R hP4 hN4 _ _)
  ·cases h
 ·rename_i hq
  split at h
  ·rename_i c' hp
   injection h with h;subst h
   have hG:=fun σ sq hs=>ZfR _ hP5 hN5 r1 (by omega) σ 0 sq hs hp
   refine ⟨Q++[.lst false (r1.map Zc)],Zx Q hP5 hN5 _ _,?_⟩
   rw [Zh (by rfl) ZhD]
   simp -implicitDefEqProofs only [EQA,ZI,Xe,Xc,Xf,Xb,reduceCtorEq,↓reduceIte,Zhv,Zfo,a1,a3,b4,hq,hT,hG]
   exact ZY rfl (Zx Q hP5 hN5 _ _)
  ·cases h
end
end
section
abbrev KSt:=List AVal×Zb
def Zj (P:List AVal) (l:Zb):Za:=[.var (P++[.lst false (l.map Zc)])]
def KRuns (c:Zf) (tm tm':Tms) (P:List AVal) (l:Zb):Except Int KSt->Prop
 | .ok (P',l')=>evC FC PR BY 1 c tm (Zj P l)=some (.normal,tm',Zj P' l')/\P'.length=26/\Zd P'=true/\l'.length<=l.length
 | .error e=>∃ tm2 cs,Zd cs=true/\evC FC PR BY 1 c tm (Zj P l)=some (.panic (Zz e),tm2,[.var cs])
theorem KRuns.seq {a b:Zf} {tm tm1 tm2:Tms} {P:List AVal} {l:Zb} {x:Except Int KSt} {f:KSt->Except Int KSt} (h:KRuns a tm tm1 P l x) (hb:∀ P' l',x=.ok (P',l')->P'.length=26->Zd P'=true->l'.length<=l.length->KRuns b tm1 tm2 P' l' (f (P',l'))):KRuns (.seq a b) tm tm2 P l (x.bind f):=by
 cases x with
 | error e =>
  obtain ⟨t,cs,h1,h2⟩:=h
  exact ⟨t,cs,h1,ZiO (by simp) h2⟩
 | ok s =>
  obtain ⟨P',l'⟩:=s
  obtain ⟨h1,h2,h3,h4⟩:=h
  have hb:=hb P' l' rfl h2 h3 h4
  show KRuns (.seq a b) tm tm2 P l (f (P',l'))
  generalize f (P',l')=y at *
  cases y with
  | error e =>
   obtain ⟨t,cs,g1,g2⟩:=hb
   exact ⟨t,cs,g1,by rw [Zje h1];exact g2⟩
  | ok s =>
   obtain ⟨P2,l2⟩:=s
   obtain ⟨g1,g2,g3,g4⟩:=hb
   exact ⟨by rw [Zje h1];exact g1,g2,g3,by omega⟩
def KRun (c:Zf) (tm:Tms) (P:List AVal) (l:Zb) (x:Except Int KSt):Prop:=∃ tm',KRuns c tm tm' P l x
theorem KRun.seqT {a b:Zf} {tm tm1:Tms} {P P1:List AVal} {l l1:Zb} {x:Except Int KSt} (h:evC FC PR BY 1 a tm (Zj P l)=some (.normal,tm1,Zj P1 l1)) (hl:l1.length<=l.length) (hb:KRun b tm1 P1 l1 x):KRun (.seq a b) tm P l x:=by
 obtain ⟨tm',hb⟩:=hb
 refine ⟨tm',?_⟩
 cases x with
 | error e =>
  obtain ⟨t,cs,g1,g2⟩:=hb
  exact ⟨t,cs,g1,by rw [Zje h];exact g2⟩
 | ok s =>
  obtain ⟨P2,l2⟩:=s
  obtain ⟨g1,g2,g3,g4⟩:=hb
  exact ⟨by rw [Zje h];exact g1,g2,g3,by omega⟩
theorem KRun.seqF {a b:Zf} {tm tm2:Tms} {P cs:List AVal} {l:Zb} {e:Int} (hn:Zd cs=true) (h:evC FC PR BY 1 a tm (Zj P l)=some (.panic (Zz e),tm2,[.var cs])):KRun (.seq a b) tm P l (.error e) :=
 ⟨[],tm2,cs,hn,ZiO (by simp) h⟩
theorem KRuns.fnT {f:Nat} {fn:ZF} (hp:PR f=none) (hf:FC f=some fn) (hr:fn.res=[]) {P P':List AVal} {l l':Zb} (h:KRun fn.body [(0,.ref 0 0)] P l (.ok (P',l'))):E f [.ref 0 0] (Zj P l)=some (.tup [],Zj P' l'):=by
 obtain ⟨_,h1,h2,h3,h4⟩:=h
 rw [Zh hp hf]
 show Zau 1 fn (evC FC PR BY 1 fn.body [(0,.ref 0 0)] (Zj P l))=_
 rw [h1]
 simp only [Zau,hr,resA,resAll]
 exact ZY rfl (ZaF h3 (by rfl))
theorem KRuns.fnF {f:Nat} {fn:ZF} (hp:PR f=none) (hf:FC f=some fn) {P:List AVal} {l:Zb} {e:Int} (h:KRun fn.body [(0,.ref 0 0)] P l (.error e)):∃ cs,Zd cs=true/\E f [.ref 0 0] (Zj P l)=some (.pan (Zz e),[.var cs]):=by
 obtain ⟨_,t,cs,h1,h2⟩:=h
 refine ⟨cs,h1,?_⟩
 rw [Zh hp hf]
 show Zau 1 fn (evC FC PR BY 1 fn.body [(0,.ref 0 0)] (Zj P l))=_
 rw [h2]
 simp only [Zau]
 exact ZY rfl h1
end
section
def cn1:Zf:=(.region [⟨(some 4),(.mov (.t 0)),none,[]⟩,⟨(some 5),(.nilchk (.t 4)),none,[]⟩,⟨(some 6),(.faddr 0 (.t 5)),none,[]⟩,⟨(some 2),(.mov (.t 6)),none,[]⟩] none [2,0])
def cn2:Zf:=(.region [⟨(some 7),(.mov (.t 0)),none,[]⟩,⟨(some 8),(.call 120 0 true [(.t 7)]),none,[]⟩,⟨(some 9),(.bin .eql (.t 8) (.c (.str [77,81,84,84]))),none,[]⟩,⟨(some 10),(.call 109 0 true [(.t 9),(.c (.int .i64 132))]),none,[]⟩] none [2,0])
def cn3:Zf:=(.region [⟨(some 11),(.mov (.t 0)),none,[]⟩,⟨(some 12),(.call 111 0 true [(.t 11),(.c (.int .i64 1))]),none,[]⟩,⟨(some 13),(.bin .eql (.t 12) (.c (.int .i64 5))),none,[]⟩,⟨(some 14),(.call 109 0 true [(.t 13),(.c (.int .i64 132))]),none,[]⟩] none [2,0])
def cn4:Zf:=(.region [⟨(some 15),(.mov (.t 0)),none,[]⟩,⟨(some 16),(.call 111 0 true [(.t 15),(.c (.int .i64 1))]),none,[]⟩,⟨(some 3),(.mov (.t 16)),none,[]⟩] none [3,2,0])
def cn5:Zf:=(.region [⟨(some 17),(.mov (.t 2)),none,[]⟩,⟨(some 18),(.mov (.t 2)),none,[]⟩,⟨(some 19),(.mov (.t 3)),none,[]⟩,⟨(some 20),(.bin .and (.t 19) (.c (.int .i64 2))),none,[]⟩,⟨(some 21),(.bin .neq (.t 20) (.c (.int .i64 0))),none,[]⟩,⟨(some 22),(.mov (.t 3)),none,[]⟩,⟨(some 23),(.bin .and (.t 22) (.c (.int .i64 4))),none,[]⟩,⟨(some 24),(.bin .neq (.t 23) (.c (.int .i64 0))),none,[]⟩,⟨(some 25),(.nilchk (.t 17)),none,[]⟩,⟨(some 26),(.faddr 12 (.t 25)),none,[]⟩,⟨none,(.st 1 (.t 26) (.t 21)),none,[]⟩,⟨(some 27),(.nilchk (.t 18)),none,[]⟩,⟨(some 28),(.faddr 15 (.t 27)),none,[]⟩,⟨none,(.st 1 (.t 28) (.t 24)),none,[]⟩] none [3,2,0])
def cn6:Zf:=(.region [⟨(some 29),(.mov (.t 2)),none,[]⟩,⟨(some 30),(.mov (.t 2)),none,[]⟩,⟨(some 31),(.mov (.t 3)),none,[]⟩,⟨(some 32),(.bin .and (.t 31) (.c (.int .i64 64))),none,[]⟩,⟨(some 33),(.bin .neq (.t 32) (.c (.int .i64 0))),none,[]⟩,⟨(some 34),(.mov (.t 3)),none,[]⟩,⟨(some 35),(.bin .and (.t 34) (.c (.int .i64 128))),none,[]⟩,⟨(some 36),(.bin .neq (.t 35) (.c (.int .i64 0))),none,[]⟩,⟨(some 37),(.nilchk (.t 29)),none,[]⟩,⟨(some 38),(.faddr 23 (.t 37)),none,[]⟩,⟨none,(.st 1 (.t 38) (.t 33)),none,[]⟩,⟨(some 39),(.nilchk (.t 30)),none,[]⟩,⟨(some 40),(.faddr 21 (.t 39)),none,[]⟩,⟨none,(.st 1 (.t 40) (.t 36)),none,[]⟩] none [3,2,0])
def cn7:Zf:=(.region [⟨(some 41),(.mov (.t 2)),none,[]⟩,⟨(some 42),(.mov (.t 2)),none,[]⟩,⟨(some 43),(.mov (.t 3)),none,[]⟩,⟨(some 44),(.bin .quo (.t 43) (.c (.int .i64 8))),none,[]⟩,⟨(some 45),(.bin .and (.t 44) (.c (.int .i64 3))),none,[]⟩,⟨(some 46),(.mov (.t 3)),none,[]⟩,⟨(some 47),(.bin .and (.t 46) (.c (.int .i64 32))),none,[]⟩,⟨(some 48),(.bin .neq (.t 47) (.c (.int .i64 0))),none,[]⟩,⟨(some 49),(.nilchk (.t 41)),none,[]⟩,⟨(some 50),(.faddr 16 (.t 49)),none,[]⟩,⟨(some 51),(.faddr 2 (.t 50)),none,[]⟩,⟨none,(.st 1 (.t 51) (.t 45)),none,[]⟩,⟨(some 52),(.nilchk (.t 42)),none,[]⟩,⟨(some 53),(.faddr 16 (.t 52)),none,[]⟩,⟨(some 54),(.faddr 3 (.t 53)),none,[]⟩,⟨none,(.st 1 (.t 54) (.t 48)),none,[]⟩] none [3,2,0])
def cn8:Zf:=(.region [⟨(some 55),(.mov (.t 3)),none,[]⟩,⟨(some 56),(.bin .and (.t 55) (.c (.int .i64 1))),none,[]⟩,⟨(some 57),(.bin .eql (.t 56) (.c (.int .i64 0))),none,[]⟩,⟨(some 58),(.mov (.t 57)),none,[]⟩,⟨(some 59),(.mov (.t 2)),(some (58,true)),[]⟩,⟨(some 60),(.nilchk (.t 59)),(some (58,true)),[]⟩,⟨(some 61),(.faddr 16 (.t 60)),(some (58,true)),[]⟩,⟨(some 62),(.faddr 2 (.t 61)),(some (58,true)),[]⟩,⟨(some 63),(.ld none (.t 62)),(some (58,true)),[]⟩,⟨(some 64),(.bin .lss (.t 63) (.c (.int .i64 3))),(some (58,true)),[]⟩,⟨(some 65),(.pick (.t 58) (.t 64) (.c (.bool false))),none,[]⟩,⟨(some 66),(.mov (.t 65)),none,[]⟩,⟨(some 67),(.mov (.t 2)),(some (66,true)),[]⟩,⟨(some 68),(.nilchk (.t 67)),(some (66,true)),[]⟩,⟨(some 69),(.faddr 15 (.t 68)),(some (66,true)),[]⟩,⟨(some 70),(.ld none (.t 69)),(some (66,true)),[]⟩,⟨(some 71),(.mov (.t 70)),(some (66,true)),[]⟩,⟨(some 72),(.mov (.t 2)),(some (71,false)),[]⟩,⟨(some 73),(.nilchk (.t 72)),(some (71,false)),[]⟩,⟨(some 74),(.faddr 16 (.t 73)),(some (71,false)),[]⟩,⟨(some 75),(.faddr 2 (.t 74)),(some (71,false)),[]⟩,⟨(some 76),(.ld none (.t 75)),(some (71,false)),[]⟩,⟨(some 77),(.bin .eql (.t 76) (.c (.int .i64 0))),(some (71,false)),[]⟩,⟨(some 78),(.mov (.t 77)),(some (71,false)),[]⟩,⟨(some 79),(.mov (.t 2)),(some (78,true)),[]⟩,⟨(some 80),(.nilchk (.t 79)),(some (78,true)),[]⟩,⟨(some 81),(.faddr 16 (.t 80)),(some (78,true)),[]⟩,⟨(some 82),(.faddr 3 (.t 81)),(some (78,true)),[]⟩,⟨(some 83),(.ld none (.t 82)),(some (78,true)),[]⟩,⟨(some 84),(.un .not (.t 83)),(some (78,true)),[]⟩,⟨(some 85),(.pick (.t 78) (.t 84) (.c (.bool false))),(some (71,false)),[]⟩,⟨(some 86),(.pick (.t 71) (.c (.bool true)) (.t 85)),(some (66,true)),[]⟩,⟨(some 87),(.pick (.t 66) (.t 86) (.c (.bool false))),none,[]⟩,⟨(some 88),(.call 109 0 true [(.t 87),(.c (.int .i64 129))]),none,[]⟩] none [2,0])
def cn9:Zf:=(.region [⟨(some 89),(.mov (.t 2)),none,[]⟩,⟨(some 90),(.mov (.t 0)),none,[]⟩,⟨(some 91),(.call 111 0 true [(.t 90),(.c (.int .i64 2))]),none,[]⟩,⟨(some 92),(.nilchk (.t 89)),none,[]⟩,⟨(some 93),(.faddr 13 (.t 92)),none,[]⟩,⟨none,(.st 1 (.t 93) (.t 91)),none,[]⟩] none [2,0])
def Zh5:Zf:=(.region [⟨(some 94),(.mov (.t 2)),none,[]⟩,⟨(some 95),(.mov (.t 0)),none,[]⟩,⟨(some 96),(.call 113 0 true [(.t 95),(.c (.int .i64 1))]),none,[]⟩,⟨(some 97),(.nilchk (.t 94)),none,[]⟩,⟨(some 98),(.faddr 9 (.t 97)),none,[]⟩,⟨none,(.st 1 (.t 98) (.t 96)),none,[]⟩] none [2,0])
def Zhs:Zf:=(.region [⟨(some 99),(.mov (.t 2)),none,[]⟩,⟨(some 100),(.mov (.t 0)),none,[]⟩,⟨(some 101),(.call 120 0 true [(.t 100)]),none,[]⟩,⟨(some 102),(.nilchk (.t 99)),none,[]⟩,⟨(some 103),(.faddr 14 (.t 102)),none,[]⟩,⟨none,(.st 1 (.t 103) (.t 101)),none,[]⟩] none [2,0])
def ZdR:Zf:=(.seq (.region [⟨(some 104),(.mov (.t 2)),none,[]⟩,⟨(some 105),(.nilchk (.t 104)),none,[]⟩,⟨(some 106),(.faddr 15 (.t 105)),none,[]⟩,⟨(some 107),(.ld none (.t 106)),none,[]⟩] none [107,2,0]) (.cond (.t 107) (.seq (.region [⟨(some 108),(.mov (.t 2)),none,[]⟩,⟨(some 109),(.mov (.t 0)),none,[]⟩,⟨(some 110),(.call 113 0 true [(.t 109),(.c (.int .i64 16))]),none,[]⟩,⟨(some 111),(.nilchk (.t 108)),none,[]⟩,⟨(some 112),(.faddr 16 (.t 111)),none,[]⟩,⟨(some 113),(.faddr 4 (.t 112)),none,[]⟩,⟨none,(.st 1 (.t 113) (.t 110)),none,[]⟩] none [2,0]) (.seq (.region [⟨(some 114),(.mov (.t 2)),none,[]⟩,⟨(some 115),(.mov (.t 0)),none,[]⟩,⟨(some 116),(.call 120 0 true [(.t 115)]),none,[]⟩,⟨(some 117),(.nilchk (.t 114)),none,[]⟩,⟨(some 118),(.faddr 16 (.t 117)),none,[]⟩,⟨(some 119),(.faddr 0 (.t 118)),none,[]⟩,⟨none,(.st 1 (.t 119) (.t 116)),none,[]⟩] none [2,0]) (.region [⟨(some 120),(.mov (.t 2)),none,[]⟩,⟨(some 121),(.mov (.t 0)),none,[]⟩,⟨(some 122),(.call 144 0 true [(.t 121)]),none,[]⟩,⟨(some 123),(.nilchk (.t 120)),none,[]⟩,⟨(some 124),(.faddr 16 (.t 123)),none,[]⟩,⟨(some 125),(.faddr 1 (.t 124)),none,[]⟩,⟨none,(.st 1 (.t 125) (.t 122)),none,[]⟩] none [2,0]))) .skip))
def ZeM:Zf:=(.seq (.region [⟨(some 126),(.mov (.t 2)),none,[]⟩,⟨(some 127),(.nilchk (.t 126)),none,[]⟩,⟨(some 128),(.faddr 21 (.t 127)),none,[]⟩,⟨(some 129),(.ld none (.t 128)),none,[]⟩] none [129,2,0]) (.cond (.t 129) (.region [⟨(some 130),(.mov (.t 2)),none,[]⟩,⟨(some 131),(.mov (.t 0)),none,[]⟩,⟨(some 132),(.call 120 0 true [(.t 131)]),none,[]⟩,⟨(some 133),(.nilchk (.t 130)),none,[]⟩,⟨(some 134),(.faddr 22 (.t 133)),none,[]⟩,⟨none,(.st 1 (.t 134) (.t 132)),none,[]⟩] none [2,0]) .skip))
def Zgu:Zf:=(.region [⟨(some 135),(.mov (.t 2)),none,[]⟩,⟨(some 136),(.nilchk (.t 135)),none,[]⟩,⟨(some 137),(.faddr 23 (.t 136)),none,[]⟩,⟨(some 138),(.ld none (.t 137)),none,[]⟩] none [138,2,0])
def Zd4:Zf:=(.cond (.t 138) (.region [⟨(some 139),(.mov (.t 2)),none,[]⟩,⟨(some 140),(.mov (.t 0)),none,[]⟩,⟨(some 141),(.call 144 0 true [(.t 140)]),none,[]⟩,⟨(some 142),(.nilchk (.t 139)),none,[]⟩,⟨(some 143),(.faddr 24 (.t 142)),none,[]⟩,⟨none,(.st 1 (.t 143) (.t 141)),none,[]⟩] none []) .skip)
theorem ZzK:Zm3=(.seq cn1 (.seq cn2 (.seq cn3 (.seq cn4 (.seq cn5 (.seq cn6 (.seq cn7 (.seq cn8 (.seq cn9 (.seq Zh5 (.seq Zhs (.seq ZdR (.seq ZeM (.seq Zgu Zd4)))))))))))))):=rfl
def t20:Tms:=[(2,.ref 0 0),(0,.ref 0 0)]
def ZcD (m:Int):Tms:=[(3,.int .i64 m),(2,.ref 0 0),(0,.ref 0 0)]
def Zw (a b:Int):Int:=IntKind.i64.wrap (XB IntKind.i64.bits a &&& XB IntKind.i64.bits b).toNat
def Zd9 (m:Int):Int:=IntKind.i64.wrap (m.tdiv 8)
section
variable (P:List AVal) (hP:P.length=26) (hN:Zd P=true) (l:Zb) (hl:l.length<=140737488355328)
include hP hN hl
theorem ZEF:evC FC PR BY 1 cn1 [(0,.ref 0 0)] (Zj P l)=some (.normal,t20,Zj P l):=by
 unfold Zj t20
 simp -implicitDefEqProofs only [EQA,Xc,Xb,reduceCtorEq,↓reduceIte,cn1]
theorem ZAA {r:Zb} (h:Zav l=.ok ([77,81,84,84],r)):evC FC PR BY 1 cn2 t20 (Zj P l)=some (.normal,t20,Zj P r):=by
 have hT:=fun σ sq hs=>Zd8 P hP hN l hl σ 0 sq hs h
 have m1:=Zbb
 have e1:(([77,81,84,84]:List UInt8) == [77,81,84,84])=true:=by decide
 unfold Zj t20
 simp -implicitDefEqProofs only [EQA,Xc,Xb,ZgH,reduceCtorEq,↓reduceIte,cn2,hT,m1]
theorem ZOK {a r:Zb} (h:Zav l=.ok (a,r)) (hn:(a == [77,81,84,84])=false):evC FC PR BY 1 cn2 t20 (Zj P l)=some (.panic (Zz 132),[],Zj P r):=by
 have hT:=fun σ sq hs=>Zd8 P hP hN l hl σ 0 sq hs h
 have m1:=ZbA
 unfold Zj t20
 simp -implicitDefEqProofs only [EQA,Xc,ZgH,reduceCtorEq,↓reduceIte,cn2,hT,m1,hn]
theorem ZNl {c:Int} (h:Zav l=.error c):evC FC PR BY 1 cn2 t20 (Zj P l)=some (.panic (Zz c),[],Zj P l):=by
 have hT:=fun σ sq hs=>Zf8 P hP hN l hl σ 0 sq hs h
 unfold Zj t20
 simp -implicitDefEqProofs only [EQA,Xc,reduceCtorEq,↓reduceIte,cn2,hT]
theorem ZOB {r:Zb} (h:ZaM 1 l=.ok (5,r)):evC FC PR BY 1 cn3 t20 (Zj P l)=some (.normal,t20,Zj P r):=by
 have hT:=fun σ sq hs=>ZcC P hP hN l hl σ 0 sq hs (m:=1) rfl h
 have m1:=Zbb
 have e1:((5:Int) == 5)=true:=by decide
 unfold Zj t20
 simp -implicitDefEqProofs only [EQA,Xc,Xb,reduceCtorEq,↓reduceIte,cn3,hT,m1]
theorem ZBO {a:Int} {r:Zb} (h:ZaM 1 l=.ok (a,r)) (hn:(a == 5)=false):evC FC PR BY 1 cn3 t20 (Zj P l)=some (.panic (Zz 132),[],Zj P r):=by
 have hT:=fun σ sq hs=>ZcC P hP hN l hl σ 0 sq hs (m:=1) rfl h
 have m1:=ZbA
 unfold Zj t20
 simp -implicitDefEqProofs only [EQA,Xc,reduceCtorEq,↓reduceIte,cn3,hT,m1,hn]
theorem ZFf {c:Int} (h:ZaM 1 l=.error c):evC FC PR BY 1 cn3 t20 (Zj P l)=some (.panic (Zz c),[],Zj P l):=by
 have hT:=fun σ sq hs=>Zf4 P hP hN l hl σ 0 sq hs (m:=1) rfl (by decide) h
 unfold Zj t20
 simp -implicitDefEqProofs only [EQA,Xc,reduceCtorEq,↓reduceIte,cn3,hT]
theorem ZF0 {m:Int} {r:Zb} (h:ZaM 1 l=.ok (m,r)):evC FC PR BY 1 cn4 t20 (Zj P l)=some (.normal,ZcD m,Zj P r):=by
 have hT:=fun σ sq hs=>ZcC P hP hN l hl σ 0 sq hs (m:=1) rfl h
 unfold Zj t20 ZcD
 simp -implicitDefEqProofs only [EQA,Xc,Xb,reduceCtorEq,↓reduceIte,cn4,hT]
theorem Zzx {c:Int} (h:ZaM 1 l=.error c):evC FC PR BY 1 cn4 t20 (Zj P l)=some (.panic (Zz c),[],Zj P l):=by
 have hT:=fun σ sq hs=>Zf4 P hP hN l hl σ 0 sq hs (m:=1) rfl (by decide) h
 unfold Zj t20
 simp -implicitDefEqProofs only [EQA,Xc,reduceCtorEq,↓reduceIte,cn4,hT]
theorem Zyg (m:Int):evC FC PR BY 1 cn5 (ZcD m) (Zj P l)=some (.normal,ZcD m,Zj ((P.set 12 (.bool (Zw m 2 != 0))).set 15 (.bool (Zw m 4 != 0))) l):=by
 have a1:=Z9 P hP
 have a3:=fun L=>ZaD P hP 12 13 (by omega) rfl L (.bool (Zw m 2 != 0))
 have hP1:(P.set 12 (.bool (Zw m 2 != 0))).length=26:=by simp [hP]
 have b1:=Z9 _ hP1
 have b3:=fun L=>ZaD _ hP1 15 16 (by omega) rfl L (.bool (Zw m 4 != 0))
 unfold Zj ZcD
 unfold Zw at *
 simp -implicitDefEqProofs only [EQA,ZI,Xe,Xc,Xf,Xb,reduceCtorEq,↓reduceIte,cn5,a1,a3,b1,b3]
theorem ZFe (m:Int):evC FC PR BY 1 cn6 (ZcD m) (Zj P l)=some (.normal,ZcD m,Zj ((P.set 23 (.bool (Zw m 64 != 0))).set 21 (.bool (Zw m 128 != 0))) l):=by
 have a1:=Z9 P hP
 have a3:=fun L=>ZaD P hP 23 24 (by omega) rfl L (.bool (Zw m 64 != 0))
 have hP1:(P.set 23 (.bool (Zw m 64 != 0))).length=26:=by simp [hP]
 have b1:=Z9 _ hP1
 have b3:=fun L=>ZaD _ hP1 21 22 (by omega) rfl L (.bool (Zw m 128 != 0))
 unfold Zj ZcD
 unfold Zw at *
 simp -implicitDefEqProofs only [EQA,ZI,Xe,Xc,Xf,Xb,reduceCtorEq,↓reduceIte,cn6,a1,a3,b1,b3]
theorem ZFh (m:Int):evC FC PR BY 1 cn7 (ZcD m) (Zj P l)=some (.normal,ZcD m,Zj ((P.set 18 (.int .i64 (Zw (Zd9 m) 3))).set 19 (.bool (Zw m 32 != 0))) l):=by
 have a1:=Z9 P hP
 have a3:=fun L=>ZaD P hP 18 19 (by omega) rfl L (.int .i64 (Zw (Zd9 m) 3))
 have hP1:(P.set 18 (.int .i64 (Zw (Zd9 m) 3))).length=26:=by simp [hP]
 have b1:=Z9 _ hP1
 have b3:=fun L=>ZaD _ hP1 19 20 (by omega) rfl L (.bool (Zw m 32 != 0))
 have z:¬(8:Int)=0:=by decide
 unfold Zj ZcD
 unfold Zw Zd9 at *
 simp -implicitDefEqProofs only [EQA,ZI,Xe,Xc,Xf,Xb,reduceCtorEq,↓reduceIte,cn7,a1,a3,b1,b3,z]
theorem ZJD {n:Int} {r:Zb} (h:ZaM 2 l=.ok (n,r)):evC FC PR BY 1 cn9 t20 (Zj P l)=some (.normal,t20,Zj (P.set 13 (.int .i64 n)) r):=by
 have hT:=fun σ sq hs=>ZcC P hP hN l hl σ 0 sq hs (m:=2) rfl h
 have a1:=Z9 P hP
 have a3:=ZaD P hP 13 14 (by omega) rfl
 unfold Zj t20
 simp -implicitDefEqProofs only [EQA,ZI,Xe,Xc,Xf,Xb,reduceCtorEq,↓reduceIte,cn9,hT,a1,a3]
theorem ZEy {c:Int} (h:ZaM 2 l=.error c):evC FC PR BY 1 cn9 t20 (Zj P l)=some (.panic (Zz c),[],Zj P l):=by
 have hT:=fun σ sq hs=>Zf4 P hP hN l hl σ 0 sq hs (m:=2) rfl (by decide) h
 unfold Zj t20
 simp -implicitDefEqProofs only [EQA,Xc,reduceCtorEq,↓reduceIte,cn9,hT]
theorem ZMY (hu:(Zao 1 l).2.1<=l.length) {a:List Zv} {r:Zb} (h:ZbM 1 l=.ok (a,r)):evC FC PR BY 1 Zh5 t20 (Zj P l)=some (.normal,t20,Zj (P.set 9 (.lst false (a.map Zq))) r):=by
 have hT:=fun σ sq hs=>Zd3 P hP hN l hl σ 0 sq hs hu h
 have a1:=Z9 P hP
 have a3:=ZaD P hP 9 10 (by omega) rfl
 unfold Zj t20
 simp -implicitDefEqProofs only [EQA,ZI,Xe,Xc,Xf,Xb,reduceCtorEq,↓reduceIte,Zh5,hT,a1,a3]
theorem ZE5 {c:Int} (h:ZbM 1 l=.error c):evC FC PR BY 1 Zh5 t20 (Zj P l)=some (.panic (Zz c),[],Zj P l):=by
 have hT:=fun σ sq hs=>ZfR P hP hN l hl σ 0 sq hs h
 unfold Zj t20
 simp -implicitDefEqProofs only [EQA,Xc,reduceCtorEq,↓reduceIte,Zh5,hT]
theorem ZMN {a r:Zb} (h:Zav l=.ok (a,r)):evC FC PR BY 1 Zhs t20 (Zj P l)=some (.normal,t20,Zj (P.set 14 (.str a)) r):=by
 have hT:=fun σ sq hs=>Zd8 P hP hN l hl σ 0 sq hs h
 have a1:=Z9 P hP
 have a3:=ZaD P hP 14 15 (by omega) rfl
 unfold Zj t20
 simp -implicitDefEqProofs only [EQA,ZI,Xe,Xc,Xf,Xb,reduceCtorEq,↓reduceIte,Zhs,hT,a1,a3]
theorem ZNN {c:Int} (h:Zav l=.error c):evC FC PR BY 1 Zhs t20 (Zj P l)=some (.panic (Zz c),[],Zj P l):=by
 have hT:=fun σ sq hs=>Zf8 P hP hN l hl σ 0 sq hs h
 unfold Zj t20
 simp -implicitDefEqProofs only [EQA,Xc,reduceCtorEq,↓reduceIte,Zhs,hT]
end
def Zhp (m q:Int) (hw rt:Bool):Bool:=(Zw m 1 == 0) && decide (q < 3) && (hw || ((q == 0) && !rt))
section
variable (P:List AVal) (hP:P.length=26) (hN:Zd P=true) (l:Zb) (hl:l.length<=140737488355328)
variable (m q:Int) (hw rt:Bool) (h15:P[15]?=some (.bool hw)) (h18:P[18]?=some (.int .i64 q)) (h19:P[19]?=some (.bool rt))
include hP hN hl h15 h18 h19
theorem ZPg (h:Zhp m q hw rt=true):evC FC PR BY 1 cn8 (ZcD m) (Zj P l)=some (.normal,t20,Zj P l):=by
 have a4:=fun L=>(Zac P hP 15 (by omega) L).trans h15
 have a5:=fun L=>(Zac P hP 18 (by omega) L).trans h18
 have a6:=fun L=>(Zac P hP 19 (by omega) L).trans h19
 have m1:=Zbb
 unfold Zhp Zw at h
 simp only [Xj,decide_eq_true_eq,Bool.or_eq_true] at h
 obtain ⟨⟨e1,e2⟩,e3⟩:=h
 unfold Zj ZcD t20
 cases hw
 ·simp only [Xi,false_or] at e3
  obtain ⟨e3,e4⟩:=e3
  cases rt
  ·simp -implicitDefEqProofs only [EQA,Xe,Xc,Xb,unA,ZE,unG,reduceCtorEq,↓reduceIte,cn8,a4,a5,a6,m1,e1,e2,e3]
  ·cases e4
 ·simp -implicitDefEqProofs only [EQA,Xe,Xc,Xb,ZE,Zaz,unG,reduceCtorEq,↓reduceIte,cn8,a4,a5,m1,e1,e2]
theorem ZHv (h:Zhp m q hw rt=false):evC FC PR BY 1 cn8 (ZcD m) (Zj P l)=some (.panic (Zz 129),[],Zj P l):=by
 have a4:=fun L=>(Zac P hP 15 (by omega) L).trans h15
 have a5:=fun L=>(Zac P hP 18 (by omega) L).trans h18
 have a6:=fun L=>(Zac P hP 19 (by omega) L).trans h19
 have m1:=ZbA
 unfold Zhp Zw at h
 unfold Zj ZcD
 by_cases e1:(IntKind.i64.wrap (XB IntKind.i64.bits m &&& XB IntKind.i64.bits 1).toNat == 0)=true
 ·rw [e1] at h
  by_cases e2:q < 3
  ·cases hw
   ·by_cases e3:(q == 0)=true
    ·cases rt
     ·simp [e2,e3] at h
     ·simp -implicitDefEqProofs only [EQA,Xe,Xc,Xb,unA,ZE,unG,reduceCtorEq,↓reduceIte,cn8,a4,a5,a6,m1,e1,e2,e3]
    ·have e3:=WV _ |>.mp e3
     simp -implicitDefEqProofs only [EQA,Xe,Xc,Xb,ZE,Zaz,unG,reduceCtorEq,↓reduceIte,cn8,a4,a5,m1,e1,e2,e3]
   ·simp [e2] at h
  ·simp -implicitDefEqProofs only [EQA,Xe,Xc,Xb,ZE,Zaz,unG,reduceCtorEq,↓reduceIte,cn8,a5,m1,e1,e2]
 ·have e1:=WV _ |>.mp e1
  simp -implicitDefEqProofs only [EQA,Xc,Xb,ZE,Zaz,reduceCtorEq,↓reduceIte,cn8,m1,e1]
end
def Zde (n:Nat):Tms:=[(n,.bool false),(2,.ref 0 0),(0,.ref 0 0)]
def Zh3 (P:List AVal) (ps:List Zv) (tp d:Zb):List AVal:=((P.set 20 (.lst false (ps.map Zq))).set 16 (.str tp)).set 17 (.lst false (d.map Zc))
def Zd5 (l:Zb):Except Int (List Zv×Zb×Zb×Zb):=match ZbM 16 l with
 | .error c=>.error c
 | .ok (ps,r1)=>match Zav r1 with
  | .error c=>.error c
  | .ok (tp,r2)=>match Zdp r2 with
   | .error c=>.error c
   | .ok (d,r3)=>.ok (ps,tp,d,r3)
section
variable (P:List AVal) (hP:P.length=26) (hN:Zd P=true) (l:Zb) (hl:l.length<=140737488355328)
include hP hN hl
theorem ZCM (h15:P[15]?=some (.bool false)):evC FC PR BY 1 ZdR t20 (Zj P l)=some (.normal,Zde 107,Zj P l):=by
 have a4:=fun L=>(Zac P hP 15 (by omega) L).trans h15
 unfold Zj t20 Zde
 simp -implicitDefEqProofs only [EQA,Xc,Xb,reduceCtorEq,↓reduceIte,ZdR,a4]
theorem ZLN (h15:P[15]?=some (.bool true)) (hu:(Zao 16 l).2.1<=l.length) {ps:List Zv} {tp d r:Zb} (h:Zd5 l=.ok (ps,tp,d,r)):evC FC PR BY 1 ZdR t20 (Zj P l)=some (.normal,t20,Zj (Zh3 P ps tp d) r):=by
 have a1:=Z9 P hP
 have a4:=fun L=>(Zac P hP 15 (by omega) L).trans h15
 unfold Zd5 at h
 split at h
 ·cases h
 rename_i ps' r1 hp
 split at h
 ·cases h
 rename_i tp' r2 ht
 split at h
 ·cases h
 rename_i d' r3 hd
 have l1:=ZgE hp
 have l2:=Zds ht
 injection h with h;injection h with e1 h;injection h with e2 h;injection h with e3 e4;subst e1 e2 e3 e4
 have hG:=fun σ sq hs=>Zd3 P hP hN l hl σ 0 sq hs hu hp
 have a3:=fun L=>ZaD P hP 20 21 (by omega) rfl L (.lst false (ps'.map Zq))
 unfold Zh3
 have hP1:(P.set 20 (.lst false (ps'.map Zq))).length=26:=by simp [hP]
 have hN1:Zd (P.set 20 (.lst false (ps'.map Zq)))=true:=ZQ (Zb0 _ _) 20 hN
 generalize P.set 20 (.lst false (ps'.map Zq))=Q at *
 have hT:=fun σ sq hs=>Zd8 Q hP1 hN1 r1 (by omega) σ 0 sq hs ht
 have b1:=Z9 _ hP1
 have b3:=fun L=>ZaD _ hP1 16 17 (by omega) rfl L (.str tp')
 have hP2:(Q.set 16 (.str tp')).length=26:=by simp [hP1]
 have hN2:Zd (Q.set 16 (.str tp'))=true:=ZQ rfl 16 hN1
 generalize Q.set 16 (.str tp')=R at *
 have hD:=fun σ sq hs=>Zrx R hP2 hN2 r2 (by omega) σ 0 sq hs hd
 have c1:=Z9 _ hP2
 have c3:=ZaD _ hP2 17 18 (by omega) rfl
 unfold Zj t20
 simp -implicitDefEqProofs only [EQA,ZI,Xe,Xc,Xf,Xb,reduceCtorEq,↓reduceIte,ZdR,a1,a3,a4,b1,b3,c1,c3,hG,hT,hD]
theorem Zzg (h15:P[15]?=some (.bool true)) (hu:(Zao 16 l).2.1<=l.length) {c:Int} (h:Zd5 l=.error c):∃ cs,Zd cs=true/\evC FC PR BY 1 ZdR t20 (Zj P l)=some (.panic (Zz c),[],[.var cs]):=by
 have a1:=Z9 P hP
 have a4:=fun L=>(Zac P hP 15 (by omega) L).trans h15
 unfold Zd5 at h
 split at h
 ·rename_i c' hp
  injection h with h;subst h
  have hG:=fun σ sq hs=>ZfR P hP hN l hl σ 0 sq hs hp
  refine ⟨P++[.lst false (l.map Zc)],Zx P hP hN _ _,?_⟩
  unfold Zj t20
  simp -implicitDefEqProofs only [EQA,Xc,Xb,reduceCtorEq,↓reduceIte,ZdR,a4,hG]
 rename_i ps' r1 hp
 have l1:=ZgE hp
 have hG:=fun σ sq hs=>Zd3 P hP hN l hl σ 0 sq hs hu hp
 have a3:=fun L=>ZaD P hP 20 21 (by omega) rfl L (.lst false (ps'.map Zq))
 have hP1:(P.set 20 (.lst false (ps'.map Zq))).length=26:=by simp [hP]
 have hN1:Zd (P.set 20 (.lst false (ps'.map Zq)))=true:=ZQ (Zb0 _ _) 20 hN
 generalize P.set 20 (.lst false (ps'.map Zq))=Q at *
 have b1:=Z9 _ hP1
 split at h
 ·rename_i c' ht
  injection h with h;subst h
  have hT:=fun σ sq hs=>Zf8 Q hP1 hN1 r1 (by omega) σ 0 sq hs ht
  refine ⟨Q++[.lst false (r1.map Zc)],Zx Q hP1 hN1 _ _,?_⟩
  unfold Zj t20
  simp -implicitDefEqProofs only [EQA,ZI,Xe,Xc,Xf,Xb,reduceCtorEq,↓reduceIte,ZdR,a1,a3,a4,hG,hT]
 rename_i tp' r2 ht
 have l2:=Zds ht
 have hT:=fun σ sq hs=>Zd8 Q hP1 hN1 r1 (by omega) σ 0 sq hs ht
 have b3:=fun L=>ZaD _ hP1 16 17 (by omega) rfl L (.str tp')
 have hP2:(Q.set 16 (.str tp')).length=26:=by simp [hP1]
 have hN2:Zd (Q.set 16 (.str tp'))=true:=ZQ rfl 16 hN1
 generalize Q.set 16 (.str tp')=R at *
 split at h
 ·rename_i c' hd
  injection h with h;subst h
  have hD:=fun σ sq hs=>Zt6 R hP2 hN2 r2 (by omega) σ 0 sq hs hd
  refine ⟨R++[.lst false (r2.map Zc)],Zx R hP2 hN2 _ _,?_⟩
  unfold Zj t20
  simp -implicitDefEqProofs only [EQA,ZI,Xe,Xc,Xf,Xb,reduceCtorEq,↓reduceIte,ZdR,a1,a3,a4,b1,b3,hG,hT,hD]
 ·cases h
theorem ZJw {tm:Tms} (ht:tm=t20\/tm=Zde 107) (h21:P[21]?=some (.bool false)):evC FC PR BY 1 ZeM tm (Zj P l)=some (.normal,Zde 129,Zj P l):=by
 have a4:=fun L=>(Zac P hP 21 (by omega) L).trans h21
 rcases ht with rfl | rfl <;> unfold Zj Zde <;> try unfold t20
 all_goals simp -implicitDefEqProofs only [EQA,Xc,Xb,reduceCtorEq,↓reduceIte,ZeM,a4]
theorem ZPi {tm:Tms} (htm:tm=t20\/tm=Zde 107) (h21:P[21]?=some (.bool true)) {a r:Zb} (h:Zav l=.ok (a,r)):evC FC PR BY 1 ZeM tm (Zj P l)=some (.normal,t20,Zj (P.set 22 (.str a)) r):=by
 have a1:=Z9 P hP
 have a4:=fun L=>(Zac P hP 21 (by omega) L).trans h21
 have hT:=fun σ sq hs=>Zd8 P hP hN l hl σ 0 sq hs h
 have a3:=ZaD P hP 22 23 (by omega) rfl
 rcases htm with rfl | rfl <;> unfold Zj t20 <;> try unfold Zde
 all_goals simp -implicitDefEqProofs only [EQA,ZI,Xe,Xc,Xf,Xb,reduceCtorEq,↓reduceIte,ZeM,a1,a3,a4,hT]
theorem ZKA {tm:Tms} (htm:tm=t20\/tm=Zde 107) (h21:P[21]?=some (.bool true)) {c:Int} (h:Zav l=.error c):evC FC PR BY 1 ZeM tm (Zj P l)=some (.panic (Zz c),[],Zj P l):=by
 have a4:=fun L=>(Zac P hP 21 (by omega) L).trans h21
 have hT:=fun σ sq hs=>Zf8 P hP hN l hl σ 0 sq hs h
 rcases htm with rfl | rfl <;> unfold Zj <;> first | unfold Zde | unfold t20
 all_goals simp -implicitDefEqProofs only [EQA,Xc,Xb,reduceCtorEq,↓reduceIte,ZeM,a4,hT]
theorem ZGk {tm:Tms} {b:Bool} (htm:tm=t20\/tm=Zde 129) (h23:P[23]?=some (.bool b)):evC FC PR BY 1 Zgu tm (Zj P l)=some (.normal,[(138,.bool b),(2,.ref 0 0),(0,.ref 0 0)],Zj P l):=by
 have a4:=fun L=>(Zac P hP 23 (by omega) L).trans h23
 rcases htm with rfl | rfl <;> unfold Zj <;> first | unfold Zde | unfold t20
 all_goals simp -implicitDefEqProofs only [EQA,Xc,Xb,reduceCtorEq,↓reduceIte,Zgu,a4]
theorem ZHg:KRun Zd4 [(138,.bool false),(2,.ref 0 0),(0,.ref 0 0)] P l (.ok (P,l)):=by
 refine ⟨[(138,.bool false),(2,.ref 0 0),(0,.ref 0 0)],?_,hP,hN,Xx _⟩
 unfold Zj
 simp -implicitDefEqProofs only [Zth,eq_self,Opd.ev,tget,Xi,↓reduceIte,Zd4]
theorem Zw9 {a r:Zb} (h:Zdp l=.ok (a,r)):KRun Zd4 [(138,.bool true),(2,.ref 0 0),(0,.ref 0 0)] P l (.ok (P.set 24 (.lst false (a.map Zc)),r)):=by
 have a1:=Z9 P hP
 have hT:=fun σ sq hs=>Zrx P hP hN l hl σ 0 sq hs h
 have a3:=ZaD P hP 24 25 (by omega) rfl
 refine ⟨[],?_,by simp [hP],ZQ (Zb0 _ _) 24 hN,Zuz h⟩
 unfold Zj
 simp -implicitDefEqProofs only [EQA,ZI,Xe,Xc,Xf,Xb,reduceCtorEq,↓reduceIte,Zd4,a1,a3,hT]
theorem ZGT {c:Int} (h:Zdp l=.error c):KRun Zd4 [(138,.bool true),(2,.ref 0 0),(0,.ref 0 0)] P l (.error c):=by
 have hT:=fun σ sq hs=>Zt6 P hP hN l hl σ 0 sq hs h
 refine ⟨[],[],P++[.lst false (l.map Zc)],Zx P hP hN _ _,?_⟩
 unfold Zj
 simp -implicitDefEqProofs only [EQA,Xc,Xb,reduceCtorEq,↓reduceIte,Zd4,hT]
end
def ZbC (P:List AVal) (m:Int):List AVal:=((((((P.set 12 (.bool (Zw m 2 != 0))).set 15 (.bool (Zw m 4 != 0))).set 23 (.bool (Zw m 64 != 0))).set 21 (.bool (Zw m 128 != 0))).set 18 (.int .i64 (Zw (Zd9 m) 3))).set 19 (.bool (Zw m 32 != 0)))
def Zim (P:List AVal) (k:Int) (ps:List Zv) (cl:Zb):List AVal:=((P.set 13 (.int .i64 k)).set 9 (.lst false (ps.map Zq))).set 14 (.str cl)
def Zg3 (b:Bool) (s:KSt):Except Int KSt:=if b=true then (match Zdp s.2 with
 | .error c=>.error c
 | .ok (d,r)=>.ok (s.1.set 24 (.lst false (d.map Zc)),r)) else .ok s
def ZhM (b:Bool) (s:KSt):Except Int KSt:=if b=true then (match Zav s.2 with
 | .error c=>.error c
 | .ok (d,r)=>.ok (s.1.set 22 (.str d),r)) else .ok s
def Zjq (b:Bool) (s:KSt):Except Int KSt:=if b=true then (match Zd5 s.2 with
 | .error c=>.error c
 | .ok (ps,tp,d,r)=>.ok (Zh3 s.1 ps tp d,r)) else .ok s
def Ziy (m:Int) (s:KSt):Except Int KSt:=match Zjq (Zw m 4 != 0) s with
 | .error c=>.error c
 | .ok s=>match ZhM (Zw m 128 != 0) s with
  | .error c=>.error c
  | .ok s=>Zg3 (Zw m 64 != 0) s
def ZiG (P:List AVal) (m:Int) (l:Zb):Except Int KSt:=match ZaM 2 l with
 | .error c=>.error c
 | .ok (k,r4)=>match ZbM 1 r4 with
  | .error c=>.error c
  | .ok (ps,r5)=>match Zav r5 with
   | .error c=>.error c
   | .ok (cl,r6)=>Ziy m (Zim (ZbC P m) k ps cl,r6)
def Zic (P:List AVal) (l:Zb):Except Int KSt:=match Zav l with
 | .error c=>.error c
 | .ok (s,r1)=>if (s == [77,81,84,84])=true then (match ZaM 1 r1 with
  | .error c=>.error c
  | .ok (v,r2)=>if (v == 5)=true then (match ZaM 1 r2 with
   | .error c=>.error c
   | .ok (m,r3)=>if Zhp m (Zw (Zd9 m) 3) (Zw m 4 != 0) (Zw m 32 != 0)=true then ZiG P m r3 else .error 129)
   else .error 132)
  else .error 132
theorem ZrD (P:List AVal) (hP:P.length=26) (hN:Zd P=true) (l:Zb) (hl:l.length<=140737488355328) {tm:Tms} {b:Bool} (htm:tm=t20\/tm=Zde 129) (h23:P[23]?=some (.bool b)):KRun (.seq Zgu Zd4) tm P l (Zg3 b (P,l)):=by
 refine KRun.seqT (ZGk P hP hN l hl htm h23) (Xx _) ?_
 unfold Zg3
 cases b
 ·exact ZHg P hP hN l hl
 ·rw [if_pos rfl]
  cases h:Zdp l with
  | error c=>exact ZGT P hP hN l hl h
  | ok a=>exact Zw9 P hP hN l hl h
theorem Zwg (P:List AVal) (hP:P.length=26) (hN:Zd P=true) (l:Zb) (hl:l.length<=140737488355328) {tm:Tms} {b bp:Bool} (htm:tm=t20\/tm=Zde 107) (h21:P[21]?=some (.bool b)) (h23:P[23]?=some (.bool bp)):KRun (.seq ZeM (.seq Zgu Zd4)) tm P l (match ZhM b (P,l) with
  | .error c=>.error c
  | .ok s=>Zg3 bp s):=by
 unfold ZhM
 cases b
 ·rw [if_neg (by simp)]
  refine KRun.seqT (ZJw P hP hN l hl htm h21) (Xx _) ?_
  exact ZrD P hP hN l hl (Xy rfl) h23
 ·rw [if_pos rfl]
  cases h:Zav l with
  | error c=>exact KRun.seqF (Zx P hP hN _ _) (ZKA P hP hN l hl htm h21 h)
  | ok a =>
   have hr:=Zds h
   refine KRun.seqT (ZPi P hP hN l hl htm h21 h) hr ?_
   exact ZrD _ (by simp [hP]) (ZQ rfl 22 hN) a.2 (by omega) (Xr rfl) (by rw [Xm (by omega)];exact h23)
theorem ZGN {l:Zb} {ps:List Zv} {tp d r:Zb} (h:Zd5 l=.ok (ps,tp,d,r)):r.length<=l.length:=by
 unfold Zd5 at h
 split at h
 ·cases h
 rename_i h1
 split at h
 ·cases h
 rename_i h2
 split at h
 ·cases h
 rename_i h3
 injection h with h;injection h with e1 h;injection h with e2 h;injection h with e3 e4;subst e4
 have:=ZgE h1;have:=Zds h2;have:=Zuz h3
 omega
theorem ZGH (P:List AVal) (hP:P.length=26) (hN:Zd P=true) (l:Zb) (hl:l.length<=140737488355328) {m:Int} (hu:(Zao 16 l).2.1<=l.length) (h15:P[15]?=some (.bool (Zw m 4 != 0))) (h21:P[21]?=some (.bool (Zw m 128 != 0))) (h23:P[23]?=some (.bool (Zw m 64 != 0))):KRun (.seq ZdR (.seq ZeM (.seq Zgu Zd4))) t20 P l (Ziy m (P,l)):=by
 unfold Ziy Zjq
 cases hb:(Zw m 4 != 0)
 ·rw [hb] at h15
  rw [if_neg (by simp)]
  refine KRun.seqT (ZCM P hP hN l hl h15) (Xx _) ?_
  exact Zwg P hP hN l hl (Xy rfl) h21 h23
 ·rw [hb] at h15
  rw [if_pos rfl]
  cases h:Zd5 l with
  | error c =>
   obtain ⟨cs,h1,h2⟩:=Zzg P hP hN l hl h15 hu h
   exact KRun.seqF h1 h2
  | ok a =>
   obtain ⟨ps,tp,d,r⟩:=a
   have hr:=ZGN h
   refine KRun.seqT (ZLN P hP hN l hl h15 hu h) hr ?_
   refine Zwg _ (by simp [hP]) (ZQ (Zb0 _ _) 17 (ZQ rfl 16 (ZQ (Zb0 _ _) 20 hN))) r (by omega) (Xr rfl) ?_ ?_
   ·rw [Xm (by omega),Xm (by omega),Xm (by omega)];exact h21
   ·rw [Xm (by omega),Xm (by omega),Xm (by omega)];exact h23
theorem ZDU (P:List AVal) (hP:P.length=26) (hN:Zd P=true) (l:Zb) (hl:l.length<=140737488355328) {m:Int} (hu1:∀ r:Zb,r.length<=140737488355328->(Zao 1 r).2.1<=r.length) (hu:∀ r:Zb,r.length<=140737488355328->(Zao 16 r).2.1<=r.length):KRun (.seq cn9 (.seq Zh5 (.seq Zhs (.seq ZdR (.seq ZeM (.seq Zgu Zd4)))))) t20 (ZbC P m) l (ZiG P m l):=by
 have hM:(ZbC P m).length=26:=by simp [ZbC,hP]
 have hMN:Zd (ZbC P m)=true:=ZQ rfl _ (ZQ rfl _ (ZQ rfl _ (ZQ rfl _ (ZQ rfl _ (ZQ rfl _ hN)))))
 have g15:(ZbC P m)[15]?=some (.bool (Zw m 4 != 0)):=by simp [ZbC,hP]
 have g21:(ZbC P m)[21]?=some (.bool (Zw m 128 != 0)):=by simp [ZbC,hP]
 have g23:(ZbC P m)[23]?=some (.bool (Zw m 64 != 0)):=by simp [ZbC,hP]
 unfold ZiG Zim
 generalize ZbC P m=M at *
 cases h1:ZaM 2 l with
 | error c=>exact KRun.seqF (Zx M hM hMN _ _) (ZEy M hM hMN l hl h1)
 | ok a =>
 obtain ⟨k,r4⟩:=a
 have l1:=Zf7 h1
 refine KRun.seqT (ZJD M hM hMN l hl h1) l1 ?_
 have hM1:(M.set 13 (.int .i64 k)).length=26:=by simp [hM]
 have hN1:Zd (M.set 13 (.int .i64 k))=true:=ZQ rfl 13 hMN
 simp only
 cases h2:ZbM 1 r4 with
 | error c=>exact KRun.seqF (Zx _ hM1 hN1 _ _) (ZE5 _ hM1 hN1 r4 (by omega) h2)
 | ok a =>
 obtain ⟨ps,r5⟩:=a
 have l2:=ZgE h2
 refine KRun.seqT (ZMY _ hM1 hN1 r4 (by omega) (hu1 r4 (by omega)) h2) l2 ?_
 have hM2:((M.set 13 (.int .i64 k)).set 9 (.lst false (ps.map Zq))).length=26:=by simp [hM]
 have hN2:Zd ((M.set 13 (.int .i64 k)).set 9 (.lst false (ps.map Zq)))=true:=ZQ (Zb0 _ _) 9 hN1
 simp only
 cases h3:Zav r5 with
 | error c=>exact KRun.seqF (Zx _ hM2 hN2 _ _) (ZNN _ hM2 hN2 r5 (by omega) h3)
 | ok a =>
 obtain ⟨cl,r6⟩:=a
 have l3:=Zds h3
 refine KRun.seqT (ZMN _ hM2 hN2 r5 (by omega) h3) l3 ?_
 refine ZGH _ (by simp [hM]) (ZQ rfl 14 hN2) r6 (by omega) (hu r6 (by omega)) ?_ ?_ ?_
 ·rw [Xm (by omega),Xm (by omega),Xm (by omega)];exact g15
 ·rw [Xm (by omega),Xm (by omega),Xm (by omega)];exact g21
 ·rw [Xm (by omega),Xm (by omega),Xm (by omega)];exact g23
theorem ZHa (P:List AVal) (hP:P.length=26) (hN:Zd P=true) (l:Zb) (hl:l.length<=140737488355328) (hu1:∀ r:Zb,r.length<=140737488355328->(Zao 1 r).2.1<=r.length) (hu:∀ r:Zb,r.length<=140737488355328->(Zao 16 r).2.1<=r.length):KRun Zm3 [(0,.ref 0 0)] P l (Zic P l):=by
 rw [ZzK]
 refine KRun.seqT (ZEF P hP hN l hl) (Xx _) ?_
 unfold Zic
 cases h1:Zav l with
 | error c=>exact KRun.seqF (Zx _ hP hN _ _) (ZNl P hP hN l hl h1)
 | ok a =>
 obtain ⟨s,r1⟩:=a
 have l1:=Zds h1
 simp only
 split
 case isFalse hs=>exact KRun.seqF (Zx _ hP hN _ _) (ZOK P hP hN l hl h1 (WV _ |>.mp hs))
 rename_i hs
 have hs:=eq_of_beq hs
 subst hs
 refine KRun.seqT (ZAA P hP hN l hl h1) l1 ?_
 cases h2:ZaM 1 r1 with
 | error c=>exact KRun.seqF (Zx _ hP hN _ _) (ZFf P hP hN r1 (by omega) h2)
 | ok a =>
 obtain ⟨v,r2⟩:=a
 have l2:=Zf7 h2
 simp only
 split
 case isFalse hs=>exact KRun.seqF (Zx _ hP hN _ _) (ZBO P hP hN r1 (by omega) h2 (WV _ |>.mp hs))
 rename_i hs
 have hs:=eq_of_beq hs
 subst hs
 refine KRun.seqT (ZOB P hP hN r1 (by omega) h2) l2 ?_
 cases h3:ZaM 1 r2 with
 | error c=>exact KRun.seqF (Zx _ hP hN _ _) (Zzx P hP hN r2 (by omega) h3)
 | ok a =>
 obtain ⟨m,r3⟩:=a
 have l3:=Zf7 h3
 simp only
 refine KRun.seqT (ZF0 P hP hN r2 (by omega) h3) l3 ?_
 have l4:r3.length<=140737488355328:=by omega
 refine KRun.seqT (Zyg P hP hN r3 l4 m) (Xx _) ?_
 refine KRun.seqT (ZFe _ (by simp [hP]) (ZQ rfl _ (ZQ rfl _ hN)) r3 l4 m) (Xx _) ?_
 refine KRun.seqT (ZFh _ (by simp [hP]) (ZQ rfl _ (ZQ rfl _ (ZQ rfl _ (ZQ rfl _ hN)))) r3 l4 m) (Xx _) ?_
 have hM:(ZbC P m).length=26:=by simp [ZbC,hP]
 have hMN:Zd (ZbC P m)=true:=ZQ rfl _ (ZQ rfl _ (ZQ rfl _ (ZQ rfl _ (ZQ rfl _ (ZQ rfl _ hN)))))
 have g15:(ZbC P m)[15]?=some (.bool (Zw m 4 != 0)):=by simp [ZbC,hP]
 have g18:(ZbC P m)[18]?=some (.int .i64 (Zw (Zd9 m) 3)):=by simp [ZbC,hP]
 have g19:(ZbC P m)[19]?=some (.bool (Zw m 32 != 0)):=by simp [ZbC,hP]
 split
 case isFalse hs=>exact KRun.seqF (Zx _ hM hMN _ _) (ZHv _ hM hMN r3 l4 m _ _ _ g15 g18 g19 (WV _ |>.mp hs))
 rename_i hs
 refine KRun.seqT (ZPg _ hM hMN r3 l4 m _ _ _ g15 g18 g19 hs) (Xx _) ?_
 exact ZDU P hP hN r3 l4 hu1 hu
end
section
theorem z0b:((((0:Nat):Int)) == 0)=true:=by decide
theorem Zey {l:Zb} {b:Bool} (h:decide (l.length=0)=b):(((l.length:Nat):Int) == 0)=b:=by
 subst h
 by_cases h:l.length=0
 ·simp [h]
 ·have : ¬((l.length:Nat):Int)=0:=by omega
  simp [h]
section
variable (P:List AVal) (hP:P.length=26) (hN:Zd P=true)
include hP hN
theorem ZJY (qos:Int) (h0:P[0]?=some (.int .i64 3)) (h2:P[2]?=some (.int .i64 qos)) (h4:P[4]?=some (.int .i64 0)) (hu:∀ r:Zb,r.length<=140737488355328->(Zao 3 r).2.1<=r.length) (l:Zb) (hl:l.length<=140737488355328) {tp:Zb} {n:Int} {ps:List Zv} {pay:Zb} (h:ZeN qos l=.ok (tp,n,ps,pay)) :
  E 88 [.ref 0 0] [.var (P++[.lst false (l.map Zc)])]=some (.tup [],[.var ((((P.set 5 (.str tp)).set 4 (.int .i64 n)).set 9 (.lst false (ps.map Zq))).set 6 (.lst false (pay.map Zc))++[.lst true []])]):=by
 have hq:=ZFR P hP hN qos h2 h4 hu l hl h
 have hN':Zd ((((P.set 5 (.str tp)).set 4 (.int .i64 n)).set 9 (.lst false (ps.map Zq))).set 6 (.lst false (pay.map Zc)))=true:=ZQ (Zb0 _ _) _ (ZQ (Zb0 _ _) _ (ZQ rfl _ (ZQ rfl _ hN)))
 have hP':((((P.set 5 (.str tp)).set 4 (.int .i64 n)).set 9 (.lst false (ps.map Zq))).set 6 (.lst false (pay.map Zc))).length=26:=by simp [hP]
 generalize (((P.set 5 (.str tp)).set 4 (.int .i64 n)).set 9 (.lst false (ps.map Zq))).set 6 (.lst false (pay.map Zc))=Q at *
 have hG:=fun σ sq (hs:(σ:Za)[0]?=some (.var (P++[.lst false (l.map Zc)])))=>Zc4 (O:=E) (bf:=BY) (f:=114) (rest:=[]) (by kernel_rfl) rfl (Zx P hP hN _ _) (ZaF hN' (by rfl)) rfl rfl hq hs sq
 have a4:=fun L=>(Zac P hP 0 (by omega) L).trans h0
 have b2:=Zax Q hP'
 have m1:=Zbb
 have z:=z0b
 rw [Zh (by rfl) Zbg]
 simp -implicitDefEqProofs only [EQA,ZI,Zs,Xe,Xc,Xf,Xb,Xg,↓reduceIte,Zd,Zbe,Zba,Zez,a4,b2,hG,m1,Xq,z]
 exact ZY rfl (ZaF hN' (by rfl))
theorem ZGp (qos:Int) (h0:P[0]?=some (.int .i64 3)) (h2:P[2]?=some (.int .i64 qos)) (l:Zb) (hl:l.length<=140737488355328) {c:Int} (h:ZeN qos l=.error c) :
  ∃ cs,Zd cs=true/\E 88 [.ref 0 0] [.var (P++[.lst false (l.map Zc)])]=some (.pan (Zz c),[.var cs]):=by
 obtain ⟨cs,hn,he⟩:=ZGd P hP hN qos h2 l hl h
 have hG:=fun σ sq (hs:(σ:Za)[0]?=some (.var (P++[.lst false (l.map Zc)])))=>Zcy (O:=E) (bf:=BY) (f:=114) (view:=true) (rest:=[]) (by kernel_rfl) rfl (Zx P hP hN _ _) hn rfl he hs sq
 have a4:=fun L=>(Zac P hP 0 (by omega) L).trans h0
 refine ⟨cs,hn,?_⟩
 rw [Zh (by rfl) Zbg]
 simp -implicitDefEqProofs only [EQA,ZI,Xe,Xc,Xf,Xb,Xg,↓reduceIte,Zbe,Zba,a4,hG,Xq]
 exact ZY rfl hn
theorem ZKx (h0:P[0]?=some (.int .i64 1)) (l:Zb) (hl:l.length<=140737488355328) {Q:List AVal} {r:Zb} (hq:E 110 [.ref 0 0] (Zj P l)=some (.tup [],Zj Q r)) (hQ:Q.length=26) (hQN:Zd Q=true) (hr:r.length=0) :
  E 88 [.ref 0 0] (Zj P l)=some (.tup [],Zj Q r):=by
 unfold Zj at *
 have hG:=fun σ sq (hs:(σ:Za)[0]?=some (.var (P++[.lst false (l.map Zc)])))=>Zc4 (O:=E) (bf:=BY) (f:=110) (rest:=[]) (by kernel_rfl) rfl (Zx P hP hN _ _) (ZaF hQN (by rfl)) rfl rfl hq hs sq
 have a4:=fun L=>(Zac P hP 0 (by omega) L).trans h0
 have b2:=Zax Q hQ
 have m1:=Zbb
 have z:=Zey (l:=r) (decide_eq_true hr)
 rw [Zh (by rfl) Zbg]
 simp -implicitDefEqProofs only [EQA,ZI,Zs,Xe,Xc,Xf,Xb,Xg,↓reduceIte,Zd,Zbe,Zba,Zez,a4,b2,hG,m1,z]
 exact ZY rfl (ZaF hQN (by rfl))
theorem ZI5 (h0:P[0]?=some (.int .i64 1)) (l:Zb) (hl:l.length<=140737488355328) {Q:List AVal} {r:Zb} (hq:E 110 [.ref 0 0] (Zj P l)=some (.tup [],Zj Q r)) (hQ:Q.length=26) (hQN:Zd Q=true) (hr:¬r.length=0) :
  E 88 [.ref 0 0] (Zj P l)=some (.pan (Zz 129),Zj Q r):=by
 unfold Zj at *
 have hG:=fun σ sq (hs:(σ:Za)[0]?=some (.var (P++[.lst false (l.map Zc)])))=>Zc4 (O:=E) (bf:=BY) (f:=110) (rest:=[]) (by kernel_rfl) rfl (Zx P hP hN _ _) (ZaF hQN (by rfl)) rfl rfl hq hs sq
 have a4:=fun L=>(Zac P hP 0 (by omega) L).trans h0
 have b2:=Zax Q hQ
 have m1:=ZbA
 have z:=Zey (l:=r) (decide_eq_false hr)
 rw [Zh (by rfl) Zbg]
 simp -implicitDefEqProofs only [EQA,ZI,Xe,Xc,Xf,Xb,Xg,↓reduceIte,Zbe,Zba,a4,b2,hG,m1,z]
 exact ZY rfl (ZaF hQN (by rfl))
theorem ZwG (h0:P[0]?=some (.int .i64 1)) (l:Zb) (hl:l.length<=140737488355328) {cs:List AVal} {c:Int} (hn:Zd cs=true) (he:E 110 [.ref 0 0] (Zj P l)=some (.pan (Zz c),[.var cs])) :
  E 88 [.ref 0 0] (Zj P l)=some (.pan (Zz c),[.var cs]):=by
 unfold Zj at *
 have hG:=fun σ sq (hs:(σ:Za)[0]?=some (.var (P++[.lst false (l.map Zc)])))=>Zcy (O:=E) (bf:=BY) (f:=110) (view:=true) (rest:=[]) (by kernel_rfl) rfl (Zx P hP hN _ _) hn rfl he hs sq
 have a4:=fun L=>(Zac P hP 0 (by omega) L).trans h0
 rw [Zh (by rfl) Zbg]
 simp -implicitDefEqProofs only [EQA,ZI,Xe,Xc,Xf,Xb,Xg,↓reduceIte,Zbe,Zba,a4,hG]
 exact ZY rfl hn
end
end
section
def Zd1 (P:List AVal) (c:Int) (ps:Option (List Zv)):List AVal:=(P.set 7 (.int .i64 c)).set 9 (ZeX ps)
theorem Zlr {P:List AVal} (hP:P.length=26) (hN:Zd P=true) (c:Int) (ps:Option (List Zv)):(Zd1 P c ps).length=26/\Zd (Zd1 P c ps)=true :=
 ⟨by simp [Zd1,hP],ZQ (by cases ps <;> rfl) 9 (ZQ rfl 7 hN)⟩
section
variable (P:List AVal) (hP:P.length=26) (hN:Zd P=true)
include hP hN
theorem ZCh (k:Int) (hk:k=14\/k=15) (h0:P[0]?=some (.int .i64 k)) (h7:P[7]?=some (.int .i64 0)) (h9:P[9]?=some (.lst true [])) (hu:∀ r:Zb,r.length<=140737488355328->(Zao k r).2.1<=r.length) (l:Zb) (hl:l.length<=140737488355328) {c:Int} {ps:Option (List Zv)} {r:Zb} (h:ZcW k l=.ok ((c,ps),r)) :
  E 88 [.ref 0 0] (Zj P l)=some (if r.length=0 then .tup [] else .pan (Zz 129),Zj (Zd1 P c ps) r):=by
 have hG:=fun σ sq hs=>Zs4 P hP hN l hl σ 0 sq hs k h0 h7 h9 hu h
 obtain ⟨hQ,hQN⟩:=Zlr hP hN c ps
 have a4:=fun L=>(Zac P hP 0 (by omega) L).trans h0
 unfold Zj
 rw [show (P.set 7 (.int .i64 c)).set 9 (ZeX ps)=Zd1 P c ps from rfl] at hG
 generalize Zd1 P c ps=Q at *
 have b2:=Zax Q hQ
 by_cases hr:r.length=0
 ·have m1:=Zbb
  have z:=Zey (l:=r) (decide_eq_true hr)
  rw [if_pos hr]
  rcases hk with rfl | rfl
  all_goals
   rw [Zh (by rfl) Zbg]
   simp -implicitDefEqProofs only [EQA,ZI,Zs,Xe,Xc,Xf,Xb,Xg,↓reduceIte,Zd,Zbe,Zba,Zez,a4,b2,hG,m1,Xq,z]
   exact ZY rfl (ZaF hQN (by rfl))
 ·have m1:=ZbA
  have z:=Zey (l:=r) (decide_eq_false hr)
  rw [if_neg hr]
  rcases hk with rfl | rfl
  all_goals
   rw [Zh (by rfl) Zbg]
   simp -implicitDefEqProofs only [EQA,ZI,Xe,Xc,Xf,Xb,Xg,↓reduceIte,Zbe,Zba,a4,b2,hG,m1,Xq,z]
   exact ZY rfl (ZaF hQN (by rfl))
theorem Zx5 (k:Int) (hk:k=14\/k=15) (h0:P[0]?=some (.int .i64 k)) (hu:∀ r:Zb,r.length<=140737488355328->(Zao k r).2.1<=r.length) (l:Zb) (hl:l.length<=140737488355328) {e:Int} (h:ZcW k l=.error e) :
  ∃ cs,Zd cs=true/\E 88 [.ref 0 0] (Zj P l)=some (.pan (Zz e),[.var cs]):=by
 obtain ⟨cs,hn,he⟩:=Zti P hP hN k h0 hu l hl h
 have hG:=fun σ sq (hs:(σ:Za)[0]?=some (.var (P++[.lst false (l.map Zc)])))=>Zcy (O:=E) (bf:=BY) (f:=116) (view:=true) (rest:=[]) (by kernel_rfl) rfl (Zx P hP hN _ _) hn rfl he hs sq
 have a4:=fun L=>(Zac P hP 0 (by omega) L).trans h0
 refine ⟨cs,hn,?_⟩
 unfold Zj
 rcases hk with rfl | rfl
 all_goals
  rw [Zh (by rfl) Zbg]
  simp -implicitDefEqProofs only [EQA,ZI,Xe,Xc,Xf,Xb,Xg,↓reduceIte,Zbe,Zba,a4,hG,Xq]
  exact ZY rfl hn
theorem ZxZ (k:Int) (hk:k=4\/k=5\/k=6\/k=7) (h0:P[0]?=some (.int .i64 k)) (h7:P[7]?=some (.int .i64 0)) (h9:P[9]?=some (.lst true [])) (hu:∀ r:Zb,r.length<=140737488355328->(Zao k r).2.1<=r.length) (l:Zb) (hl:l.length<=140737488355328) {n:Int} {r1:Zb} (hi:idK l=.ok (n,r1)) {c:Int} {ps:Option (List Zv)} {r:Zb} (h:ZcW k r1=.ok ((c,ps),r)) :
  E 88 [.ref 0 0] (Zj P l)=some (if r.length=0 then .tup [] else .pan (Zz 129),Zj (Zd1 (P.set 4 (.int .i64 n)) c ps) r):=by
 have hr1:=Ze0 hi
 have hI:=fun σ sq hs=>Zfr P hP hN l hl σ 0 sq hs hi
 have hP4:(P.set 4 (.int .i64 n)).length=26:=by simp [hP]
 have hN4:Zd (P.set 4 (.int .i64 n))=true:=ZQ rfl 4 hN
 have g0:(P.set 4 (.int .i64 n))[0]?=some (.int .i64 k):=by rw [Xm (by omega)];exact h0
 have g7:(P.set 4 (.int .i64 n))[7]?=some (.int .i64 0):=by rw [Xm (by omega)];exact h7
 have g9:(P.set 4 (.int .i64 n))[9]?=some (.lst true []):=by rw [Xm (by omega)];exact h9
 generalize P.set 4 (.int .i64 n)=S at *
 have hG:=fun σ sq hs=>Zs4 S hP4 hN4 r1 (by omega) σ 0 sq hs k g0 g7 g9 hu h
 obtain ⟨hQ,hQN⟩:=Zlr hP4 hN4 c ps
 have a4:=fun L=>(Zac P hP 0 (by omega) L).trans h0
 unfold Zj
 rw [show (S.set 7 (.int .i64 c)).set 9 (ZeX ps)=Zd1 S c ps from rfl] at hG
 generalize Zd1 S c ps=Q at *
 have b2:=Zax Q hQ
 by_cases hr:r.length=0
 ·have m1:=Zbb
  have z:=Zey (l:=r) (decide_eq_true hr)
  rw [if_pos hr]
  rcases hk with rfl | rfl | rfl | rfl
  all_goals
   rw [Zh (by rfl) Zbg]
   simp -implicitDefEqProofs only [EQA,ZI,Zs,Xe,Xc,Xf,Xb,Xg,↓reduceIte,Zd,Zbe,Zba,Zez,a4,b2,hI,hG,m1,Xq,z]
   exact ZY rfl (ZaF hQN (by rfl))
 ·have m1:=ZbA
  have z:=Zey (l:=r) (decide_eq_false hr)
  rw [if_neg hr]
  rcases hk with rfl | rfl | rfl | rfl
  all_goals
   rw [Zh (by rfl) Zbg]
   simp -implicitDefEqProofs only [EQA,ZI,Xe,Xc,Xf,Xb,Xg,↓reduceIte,Zbe,Zba,a4,b2,hI,hG,m1,Xq,z]
   exact ZY rfl (ZaF hQN (by rfl))
theorem ZLi (k:Int) (hk:k=4\/k=5\/k=6\/k=7) (h0:P[0]?=some (.int .i64 k)) (l:Zb) (hl:l.length<=140737488355328) {e:Int} (h:idK l=.error e) :
  ∃ cs,Zd cs=true/\E 88 [.ref 0 0] (Zj P l)=some (.pan (Zz e),[.var cs]):=by
 obtain ⟨cs,hn,he⟩:=Zmf P hP hN l hl h
 have hG:=fun σ sq (hs:(σ:Za)[0]?=some (.var (P++[.lst false (l.map Zc)])))=>Zcy (O:=E) (bf:=BY) (f:=115) (view:=true) (rest:=[]) (by kernel_rfl) rfl (Zx P hP hN _ _) hn rfl he hs sq
 have a4:=fun L=>(Zac P hP 0 (by omega) L).trans h0
 refine ⟨cs,hn,?_⟩
 unfold Zj
 rcases hk with rfl | rfl | rfl | rfl
 all_goals
  rw [Zh (by rfl) Zbg]
  simp -implicitDefEqProofs only [EQA,ZI,Xe,Xc,Xf,Xb,Xg,↓reduceIte,Zbe,Zba,a4,hG,Xq]
  exact ZY rfl hn
theorem ZLT (k:Int) (hk:k=4\/k=5\/k=6\/k=7) (h0:P[0]?=some (.int .i64 k)) (hu:∀ r:Zb,r.length<=140737488355328->(Zao k r).2.1<=r.length) (l:Zb) (hl:l.length<=140737488355328) {n:Int} {r1:Zb} (hi:idK l=.ok (n,r1)) {e:Int} (h:ZcW k r1=.error e) :
  ∃ cs,Zd cs=true/\E 88 [.ref 0 0] (Zj P l)=some (.pan (Zz e),[.var cs]):=by
 have hr1:=Ze0 hi
 have hI:=fun σ sq hs=>Zfr P hP hN l hl σ 0 sq hs hi
 have hP4:(P.set 4 (.int .i64 n)).length=26:=by simp [hP]
 have hN4:Zd (P.set 4 (.int .i64 n))=true:=ZQ rfl 4 hN
 have g0:(P.set 4 (.int .i64 n))[0]?=some (.int .i64 k):=by rw [Xm (by omega)];exact h0
 generalize P.set 4 (.int .i64 n)=S at *
 obtain ⟨cs,hn,he⟩:=Zti S hP4 hN4 k g0 hu r1 (by omega) h
 have hG:=fun σ sq (hs:(σ:Za)[0]?=some (.var (S++[.lst false (r1.map Zc)])))=>Zcy (O:=E) (bf:=BY) (f:=116) (view:=true) (rest:=[]) (by kernel_rfl) rfl (Zx S hP4 hN4 _ _) hn rfl he hs sq
 have a4:=fun L=>(Zac P hP 0 (by omega) L).trans h0
 refine ⟨cs,hn,?_⟩
 unfold Zj
 rcases hk with rfl | rfl | rfl | rfl
 all_goals
  rw [Zh (by rfl) Zbg]
  simp -implicitDefEqProofs only [EQA,ZI,Xe,Xc,Xf,Xb,Xg,↓reduceIte,Zbe,Zba,a4,hI,hG,Xq]
  exact ZY rfl hn
theorem ZFG (k:Int) (hk:k=12\/k=13) (h0:P[0]?=some (.int .i64 k)) (l:Zb):E 88 [.ref 0 0] (Zj P l)=some (if l.length=0 then .tup [] else .pan (Zz 129),Zj P l):=by
 have a4:=fun L=>(Zac P hP 0 (by omega) L).trans h0
 have b2:=Zax P hP
 unfold Zj
 by_cases hr:l.length=0
 ·have m1:=Zbb
  have z:=Zey (l:=l) (decide_eq_true hr)
  rw [if_pos hr]
  rcases hk with rfl | rfl
  all_goals
   rw [Zh (by rfl) Zbg]
   simp -implicitDefEqProofs only [EQA,ZI,Zs,Xe,Xc,Xf,Xb,Xg,↓reduceIte,Zd,Zbe,Zba,Zez,a4,b2,m1,Xq,z]
   exact ZY rfl (Zx P hP hN _ _)
 ·have m1:=ZbA
  have z:=Zey (l:=l) (decide_eq_false hr)
  rw [if_neg hr]
  rcases hk with rfl | rfl
  all_goals
   rw [Zh (by rfl) Zbg]
   simp -implicitDefEqProofs only [EQA,ZI,Xe,Xc,Xf,Xb,Xg,↓reduceIte,Zbe,Zba,a4,b2,m1,Xq,z]
   exact ZY rfl (Zx P hP hN _ _)
end
end
end Go.Proofs.YtfemfbchakdidaaGreatDoor
