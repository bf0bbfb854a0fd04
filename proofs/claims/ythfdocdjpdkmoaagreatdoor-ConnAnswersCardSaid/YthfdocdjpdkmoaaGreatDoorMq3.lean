/- packed -/
import Derived.Test.YthfdocdjpdkmoaaGreatDoorMq2
set_option linter.defProp false
set_option linter.unusedSectionVars false
set_option linter.unusedSimpArgs false
set_option linter.unusedVariables false
namespace Go.Proofs.YthfdocdjpdkmoaaGreatDoor
set_option maxHeartbeats 16000000
set_option maxRecDepth 10000
section
def ZoI:Ze:=(.seq (.region [oI 21 (.build [(.int .i64 0),(.int .i64 0),(.str []),(.str []),(.lst true [])] []),oN (.st 5 (.t 4) (.t 21)),oI 5 (.mov (.c (.bool false)))] none [5,4]) .ret)
def ZoS:Ze:=ZoI
def ZDw:=xw ZoS ZoI rfl
def Zit:Ze:=(.seq (.region [oI 11 (.bin .lss (.t 10) (.t 9))] none [11,10,9,8,4,0]) (.seq (.cond (.t 11) .skip (.exit 0)) (.seq (.block 1 (.seq (.region [oI 12 (.iaddr 5 (.t 8) (.t 10)),oI 13 (.ld (some 5) (.t 12)),oI 7 (.alloc [(.int .i64 0),(.int .i64 0),(.str []),(.str []),(.lst true [])]),oN (.st 5 (.t 7) (.t 13))] none [10,9,8,7,4,0]) (.seq (.region [oI 14 (.faddr 0 (.t 7)),oI 15 (.ld none (.t 14)),oI 16 (.mov (.t 0)),oI 17 (.bin .eql (.t 15) (.t 16))] none [17,10,9,8,7,4,0]) (.cond (.t 17) (.seq (.region [oI 18 (.ld (some 5) (.t 7)),oI 19 (.call 57 0 true [(.t 18)]),oN (.st 5 (.t 4) (.t 19)),oI 5 (.mov (.c (.bool true)))] none [5,4]) .ret) .skip)))) (.region [oI 20 (.bin .add (.t 10) (.c (.int .i64 1))),oI 10 (.mov (.t 20))] none [10,9,8,4,0]))))
def Zqe:Ze:=Zit
def Zqt:=xw Zqe Zit rfl
def Zqa:Ze:=(.seq (.region [oI 4 (.alloc [(.int .i64 0),(.int .i64 0),(.str []),(.str []),(.lst true [])]),oI 5 (.mov (.c (.bool false)))] none [4,1,0]) (.seq (.seq (.region [oI 8 (.mov (.t 1)),oI 9 (.len (.t 8)),oI 10 (.mov (.c (.int .i64 0)))] none [10,9,8,4,0]) (.block 0 (.loop [10,9,8,4,0] Zqe))) ZoS))
def Zmv:ZD:=⟨[(.cell 4 (some 5)),(.tmp 5)],Zqa⟩
theorem ZFK:FC 33=some Zmv:=by kernel_rfl
theorem ZDg:Zmv.body=Zqa:=rfl
theorem ZtC:Zmv.res=[(.cell 4 (some 5)),(.tmp 5)]:=rfl
noncomputable def Zko (m:Nat) (tm:Tms) (σ:Za):Option (AVal×Za):=(Zat m Zmv (ZbF FC PR BY m ZoS (Option.map (ZaX 0) (evL FC PR BY m [10,9,8,4,0] Zqe tm σ))))
def ZnY:Ze:=(.seq (.region [oI 2 (.mov (.c (.int .i64 0)))] none [0]) (.seq (.region [oI 3 (.mov (.t 0)),oI 4 (.call 108 0 true [(.t 3)]),oI 5 (.field none 0 (.t 4)),oI 2 (.mov (.t 5))] none [2]) .ret))
def Znj:ZD:=⟨[(.tmp 2)],ZnY⟩
theorem ZLc:FC 97=some Znj:=by kernel_rfl
theorem ZNd:Znj.body=ZnY:=rfl
theorem ZO9:Znj.res=[(.tmp 2)]:=rfl
def Zf5:Ze:=(.seq (.region [oI 26 (.mov (.t 6)),oI 27 (.len (.t 26)),oI 28 (.call 18 0 true [(.t 27)]),oI 25 (.mov (.t 28)),oI 29 (.ext (.t 25) 0),oI 30 (.ext (.t 25) 1),oI 9 (.mov (.t 29)),oI 10 (.mov (.t 30))] none [10,9,6,1,0]) (.seq (.seq (.region [oI 31 (.mov (.t 10)),oI 32 (.bin .neq (.t 31) (.c (.int .i64 0)))] none [32,9,6,1,0]) (.cond (.t 32) (.seq (.region [oI 4 (.mov (.c (.lst true []))),oI 5 (.mov (.c (.int .i64 129)))] none [5,4]) .ret) .skip)) (.seq (.region [oI 33 (.mov (.t 9)),oI 34 (.mov (.t 6)),oI 35 (.bslice false 1 2 (.lst true []) [(0,(.t 33)),(1,(.t 34))]),oI 36 (.call 19 0 true [(.t 35)]),oI 6 (.mov (.t 36))] none [6,1,0]) (.seq (.region [oI 38 (.mov (.t 0)),oI 39 (.mov (.t 6)),oI 40 (.call 87 0 true [(.t 38),(.t 39)]),oI 37 (.mov (.t 40)),oI 41 (.ext (.t 37) 0),oI 42 (.ext (.t 37) 1),oI 43 (.ext (.t 37) 2),oI 11 (.mov (.t 41)),oI 12 (.mov (.t 42)),oI 13 (.mov (.t 43))] none [13,12,11,6,1]) (.seq (.seq (.region [oI 44 (.mov (.t 13)),oI 45 (.bin .neq (.t 44) (.c (.int .i64 0))),oI 46 (.mov (.t 45)),⟨(some 47),(.mov (.t 12)),(some (46,false)),[]⟩,⟨(some 48),(.mov (.t 6)),(some (46,false)),[]⟩,⟨(some 49),(.len (.t 48)),(some (46,false)),[]⟩,⟨(some 50),(.bin .neq (.t 47) (.t 49)),(some (46,false)),[]⟩,oI 51 (.pick (.t 46) (.c (.bool true)) (.t 50)),oI 52 (.mov (.t 51)),⟨(some 53),(.mov (.t 11)),(some (52,false)),[]⟩,⟨(some 54),(.mov (.t 1)),(some (52,false)),[]⟩,⟨(some 55),(.call 52 0 true [(.t 53),(.t 54)]),(some (52,false)),[]⟩,⟨(some 56),(.un .not (.t 55)),(some (52,false)),[]⟩,oI 57 (.pick (.t 52) (.c (.bool true)) (.t 56))] none [57,6]) (.cond (.t 57) (.seq (.region [oI 4 (.mov (.c (.lst true []))),oI 5 (.mov (.c (.int .i64 129)))] none [5,4]) .ret) .skip)) (.seq (.region [oI 58 (.mov (.t 6)),oI 4 (.mov (.t 58)),oI 5 (.mov (.c (.int .i64 0)))] none [5,4]) .ret))))))
def ZpG:Ze:=Zf5
def Zh8:=xw ZpG Zf5 rfl
def ZeH:Ze:=(.seq (.region [oI 17 (.bin .lss (.t 16) (.t 15))] none [17,16,15,14,6,1,0]) (.seq (.cond (.t 17) .skip (.exit 0)) (.seq (.block 1 (.seq (.region [oI 18 (.iaddr 5 (.t 14) (.t 16)),oI 19 (.ld (some 5) (.t 18)),oI 8 (.alloc [(.int .i64 0),(.int .i64 0),(.str []),(.str []),(.lst true [])]),oN (.st 5 (.t 8) (.t 19))] none [16,15,14,8,6,1,0]) (.region [oI 20 (.mov (.t 6)),oI 21 (.ld (some 5) (.t 8)),oI 22 (.call 86 0 true [(.t 21)]),oI 23 (.app 1 1 (.int .u8 0) (.t 20) (.t 22)),oI 6 (.mov (.t 23))] none [16,15,14,6,1,0]))) (.region [oI 24 (.bin .add (.t 16) (.c (.int .i64 1))),oI 16 (.mov (.t 24))] none [16,15,14,6,1,0]))))
def Zp2:Ze:=ZeH
def ZfU:=xw Zp2 ZeH rfl
def ZlB:Ze:=(.seq (.region [oI 4 (.mov (.c (.lst true []))),oI 5 (.mov (.c (.int .i64 0)))] none [1,0]) (.seq (.region [oI 6 (.mov (.c (.lst true [])))] none [6,1,0]) (.seq (.seq (.region [oI 14 (.mov (.t 1)),oI 15 (.len (.t 14)),oI 16 (.mov (.c (.int .i64 0)))] none [16,15,14,6,1,0]) (.block 0 (.loop [16,15,14,6,1,0] Zp2))) ZpG)))
def ZkR:ZD:=⟨[(.tmp 4),(.tmp 5)],ZlB⟩
theorem ZtK:FC 62=some ZkR:=by kernel_rfl
theorem ZuM:ZkR.body=ZlB:=rfl
theorem Zg6:ZkR.res=[(.tmp 4),(.tmp 5)]:=rfl
noncomputable def ZiJ (m:Nat) (tm:Tms) (σ:Za):Option (AVal×Za):=(Zat m ZkR (ZbF FC PR BY m ZpG (Option.map (ZaX 0) (evL FC PR BY m [16,15,14,6,1,0] Zp2 tm σ))))
def Zjm:Ze:=(.seq (.region [oI 4 (.mov (.c (.bool false)))] none [1,0]) (.seq (.region [oI 5 (.mov (.t 1)),oI 6 (.bin .geq (.t 5) (.c (.int .i64 1))),oI 7 (.mov (.t 6)),⟨(some 8),(.mov (.t 1)),(some (7,true)),[]⟩,⟨(some 9),(.bin .leq (.t 8) (.c (.int .i64 16))),(some (7,true)),[]⟩,oI 10 (.pick (.t 7) (.t 9) (.c (.bool false))),oI 11 (.mov (.t 10)),⟨(some 12),(.mov (.t 0)),(some (11,true)),[]⟩,⟨(some 13),(.call 108 0 true [(.t 12)]),(some (11,true)),[]⟩,⟨(some 14),(.field none 1 (.t 13)),(some (11,true)),[]⟩,⟨(some 15),(.mov (.t 1)),(some (11,true)),[]⟩,⟨(some 16),(.bin .shr (.t 14) (.t 15)),(some (11,true)),[]⟩,⟨(some 17),(.bin .and (.t 16) (.c (.int .i64 1))),(some (11,true)),[]⟩,⟨(some 18),(.bin .eql (.t 17) (.c (.int .i64 1))),(some (11,true)),[]⟩,oI 19 (.pick (.t 11) (.t 18) (.c (.bool false))),oI 4 (.mov (.t 19))] none [4]) .ret))
def Zri:ZD:=⟨[(.tmp 4)],Zjm⟩
theorem ZJX:FC 109=some Zri:=by kernel_rfl
theorem Zqq:Zri.body=Zjm:=rfl
theorem ZqX:Zri.res=[(.tmp 4)]:=rfl
def Zl4:Ze:=(.seq (.region [oI 57 (.mov (.t 4)),oI 58 (.mov (.t 8)),oI 59 (.mov (.t 7)),oI 60 (.bin .add (.t 58) (.t 59)),oI 4 (.mov (.t 57)),oI 5 (.mov (.t 60)),oI 6 (.mov (.c (.int .i64 0)))] none [6,5,4]) .ret)
def Zm3:Ze:=Zl4
def Zrr:=xw Zm3 Zl4 rfl
def ZfP:Ze:=(.seq (.seq (.region [oI 36 (.mov (.t 10)),oI 37 (.len (.t 36)),oI 38 (.bin .gtr (.t 37) (.c (.int .i64 0)))] none [38,10,8,7,4,0]) (.cond (.t 38) .skip (.exit 0))) (.block 1 (.seq (.region [oI 40 (.mov (.t 0)),oI 41 (.mov (.t 10)),oI 42 (.mov (.t 4)),oI 43 (.call 99 0 true [(.t 40),(.t 41),(.t 42)]),oI 39 (.mov (.t 43)),oI 44 (.ext (.t 39) 0),oI 45 (.ext (.t 39) 1),oI 46 (.ext (.t 39) 2),oI 11 (.alloc [(.int .i64 0),(.int .i64 0),(.str []),(.str []),(.lst true [])]),oN (.st 5 (.t 11) (.t 44)),oI 12 (.mov (.t 45)),oI 13 (.mov (.t 46))] none [13,12,11,10,8,7,4,0]) (.seq (.seq (.region [oI 47 (.mov (.t 13)),oI 48 (.bin .neq (.t 47) (.c (.int .i64 0)))] none [48,13,12,11,10,8,7,4,0]) (.cond (.t 48) (.seq (.region [oI 49 (.mov (.t 13)),oI 4 (.mov (.c (.lst true []))),oI 5 (.mov (.c (.int .i64 0))),oI 6 (.mov (.t 49))] none [6,5,4]) .ret) .skip)) (.seq (.region [oI 50 (.mov (.t 4)),oI 51 (.ld (some 5) (.t 11)),oI 52 (.bslice false 5 1 (.agg [(.int .i64 0),(.int .i64 0),(.str []),(.str []),(.lst true [])]) [(0,(.t 51))]),oI 53 (.app 5 72 (.agg [(.int .i64 0),(.int .i64 0),(.str []),(.str []),(.lst true [])]) (.t 50) (.t 52)),oI 4 (.mov (.t 53))] none [12,10,8,7,4,0]) (.region [oI 54 (.mov (.t 10)),oI 55 (.mov (.t 12)),oI 56 (.slice 1 (.t 54) (some (.t 55)) none none),oI 10 (.mov (.t 56))] none [10,8,7,4,0]))))))
def Zq2:Ze:=ZfP
def Zh7:=xw Zq2 ZfP rfl
def Zij:Ze:=(.seq (.region [oI 4 (.mov (.c (.lst true []))),oI 5 (.mov (.c (.int .i64 0))),oI 6 (.mov (.c (.int .i64 0)))] none [4,1,0]) (.seq (.region [oI 15 (.mov (.t 1)),oI 16 (.call 98 0 true [(.t 15)]),oI 14 (.mov (.t 16)),oI 17 (.ext (.t 14) 0),oI 18 (.ext (.t 14) 1),oI 19 (.ext (.t 14) 2),oI 7 (.mov (.t 17)),oI 8 (.mov (.t 18)),oI 9 (.mov (.t 19))] none [9,8,7,4,1,0]) (.seq (.seq (.region [oI 20 (.mov (.t 9)),oI 21 (.bin .neq (.t 20) (.c (.int .i64 0))),oI 22 (.mov (.t 21)),⟨(some 23),(.mov (.t 7)),(some (22,false)),[]⟩,⟨(some 24),(.mov (.t 1)),(some (22,false)),[]⟩,⟨(some 25),(.len (.t 24)),(some (22,false)),[]⟩,⟨(some 26),(.mov (.t 8)),(some (22,false)),[]⟩,⟨(some 27),(.bin .sub (.t 25) (.t 26)),(some (22,false)),[]⟩,⟨(some 28),(.bin .gtr (.t 23) (.t 27)),(some (22,false)),[]⟩,oI 29 (.pick (.t 22) (.c (.bool true)) (.t 28))] none [29,8,7,4,1,0]) (.cond (.t 29) (.seq (.region [oI 4 (.mov (.c (.lst true []))),oI 5 (.mov (.c (.int .i64 0))),oI 6 (.mov (.c (.int .i64 129)))] none [6,5,4]) .ret) .skip)) (.seq (.seq (.region [oI 30 (.mov (.t 1)),oI 31 (.mov (.t 8)),oI 32 (.mov (.t 8)),oI 33 (.mov (.t 7)),oI 34 (.bin .add (.t 32) (.t 33)),oI 35 (.slice 1 (.t 30) (some (.t 31)) (some (.t 34)) none),oI 10 (.mov (.t 35))] none [10,8,7,4,0]) (.block 0 (.loop [10,8,7,4,0] Zq2))) Zm3))))
def Zka:ZD:=⟨[(.tmp 4),(.tmp 5),(.tmp 6)],Zij⟩
theorem ZnU:FC 87=some Zka:=by kernel_rfl
theorem ZnR:Zka.body=Zij:=rfl
theorem Zhs:Zka.res=[(.tmp 4),(.tmp 5),(.tmp 6)]:=rfl
noncomputable def Zig (m:Nat) (tm:Tms) (σ:Za):Option (AVal×Za):=(Zat m Zka (ZbF FC PR BY m Zm3 (Option.map (ZaX 0) (evL FC PR BY m [10,8,7,4,0] Zq2 tm σ))))
def ZnN:Ze:=(.seq (.region [oI 4 (.mov (.c (.bool false)))] none [1,0]) (.seq (.region [oI 5 (.mov (.t 0)),oI 6 (.mov (.t 1)),oI 7 (.call 79 0 true [(.t 5),(.t 6),(.c (.fn 80 []))]),oI 4 (.mov (.t 7))] none [4]) .ret))
def ZpO:ZD:=⟨[(.tmp 4)],ZnN⟩
theorem Zzt:FC 52=some ZpO:=by kernel_rfl
theorem ZOw:ZpO.body=ZnN:=rfl
theorem ZNE:ZpO.res=[(.tmp 4)]:=rfl
def Zow:Ze:=(.seq (.region [oI 2 (.box (.t 0)),oI 3 (.box (.t 1)),oI 4 (.mov (.c (.bool false)))] none [3,2]) (.seq (.region [oI 5 (.faddr 0 (.t 2)),oI 6 (.ld none (.t 5)),oI 7 (.faddr 0 (.t 3)),oI 8 (.ld none (.t 7)),oI 9 (.bin .eql (.t 6) (.t 8)),oI 10 (.mov (.t 9)),⟨(some 11),(.faddr 1 (.t 2)),(some (10,true)),[]⟩,⟨(some 12),(.ld none (.t 11)),(some (10,true)),[]⟩,⟨(some 13),(.faddr 1 (.t 3)),(some (10,true)),[]⟩,⟨(some 14),(.ld none (.t 13)),(some (10,true)),[]⟩,⟨(some 15),(.bin .eql (.t 12) (.t 14)),(some (10,true)),[]⟩,oI 16 (.pick (.t 10) (.t 15) (.c (.bool false))),oI 17 (.mov (.t 16)),⟨(some 18),(.faddr 2 (.t 2)),(some (17,true)),[]⟩,⟨(some 19),(.ld none (.t 18)),(some (17,true)),[]⟩,⟨(some 20),(.faddr 2 (.t 3)),(some (17,true)),[]⟩,⟨(some 21),(.ld none (.t 20)),(some (17,true)),[]⟩,⟨(some 22),(.bin .eql (.t 19) (.t 21)),(some (17,true)),[]⟩,oI 23 (.pick (.t 17) (.t 22) (.c (.bool false))),oI 24 (.mov (.t 23)),⟨(some 25),(.faddr 3 (.t 2)),(some (24,true)),[]⟩,⟨(some 26),(.ld none (.t 25)),(some (24,true)),[]⟩,⟨(some 27),(.faddr 3 (.t 3)),(some (24,true)),[]⟩,⟨(some 28),(.ld none (.t 27)),(some (24,true)),[]⟩,⟨(some 29),(.bin .eql (.t 26) (.t 28)),(some (24,true)),[]⟩,oI 30 (.pick (.t 24) (.t 29) (.c (.bool false))),oI 31 (.mov (.t 30)),⟨(some 32),(.faddr 4 (.t 2)),(some (31,true)),[]⟩,⟨(some 33),(.ld none (.t 32)),(some (31,true)),[]⟩,⟨(some 34),(.b2s (.t 33)),(some (31,true)),[]⟩,⟨(some 35),(.faddr 4 (.t 3)),(some (31,true)),[]⟩,⟨(some 36),(.ld none (.t 35)),(some (31,true)),[]⟩,⟨(some 37),(.b2s (.t 36)),(some (31,true)),[]⟩,⟨(some 38),(.bin .eql (.t 34) (.t 37)),(some (31,true)),[]⟩,oI 39 (.pick (.t 31) (.t 38) (.c (.bool false))),oI 4 (.mov (.t 39))] none [4]) .ret))
def Zm6:ZD:=⟨[(.tmp 4)],Zow⟩
theorem ZP3:FC 80=some Zm6:=by kernel_rfl
theorem ZEy:Zm6.body=Zow:=rfl
theorem ZA1:Zm6.res=[(.tmp 4)]:=rfl
def Zpd:Ze:=(.seq (.region [oI 1 (.box (.t 0)),oI 2 (.alloc [(.int .i64 0),(.int .i64 0),(.str []),(.str []),(.lst true [])])] none [2,1]) (.seq (.region [oI 3 (.faddr 4 (.t 1)),oI 4 (.ld none (.t 3)),oI 5 (.call 15 0 true [(.t 4)]),oI 6 (.faddr 4 (.t 1)),oN (.st 1 (.t 6) (.t 5))] none [2,1]) (.seq (.region [oI 7 (.ld (some 5) (.t 1)),oN (.st 5 (.t 2) (.t 7))] none [2]) .ret)))
def Zpz:ZD:=⟨[(.cell 2 (some 5))],Zpd⟩
theorem ZMJ:FC 57=some Zpz:=by kernel_rfl
theorem Zz0:Zpz.body=Zpd:=rfl
theorem ZJw:Zpz.res=[(.cell 2 (some 5))]:=rfl
def Znr:Ze:=(.seq (.region [oI 1 (.box (.t 0)),oI 2 (.mov (.c (.bool false)))] none [1]) (.seq (.seq (.region [oI 3 (.faddr 0 (.t 1)),oI 4 (.ld none (.t 3))] none [4,1]) (.block 0 (.seq (.seq (.region [oI 6 (.bin .eql (.t 4) (.c (.int .i64 11))),oI 5 (.mov (.t 6))] none [5,4,1]) (.cond (.t 5) .skip (.seq (.region [oI 7 (.bin .eql (.t 4) (.c (.int .i64 33))),oI 5 (.mov (.t 7))] none [5,4,1]) (.cond (.t 5) .skip (.seq (.region [oI 8 (.bin .eql (.t 4) (.c (.int .i64 35))),oI 5 (.mov (.t 8))] none [5,4,1]) (.cond (.t 5) .skip (.region [oI 9 (.bin .eql (.t 4) (.c (.int .i64 39))),oI 5 (.mov (.t 9))] none [5,1]))))))) (.cond (.t 5) (.seq (.region [oI 10 (.faddr 1 (.t 1)),oI 11 (.ld none (.t 10)),oI 12 (.bin .neq (.t 11) (.c (.int .i64 0))),oI 2 (.mov (.t 12))] none [2]) .ret) .skip)))) (.seq (.region [oI 13 (.faddr 0 (.t 1)),oI 14 (.ld none (.t 13)),oI 15 (.call 97 0 true [(.t 14)]),oI 16 (.bin .neq (.t 15) (.c (.int .i64 1))),oI 17 (.mov (.t 16)),⟨(some 18),(.faddr 1 (.t 1)),(some (17,false)),[]⟩,⟨(some 19),(.ld none (.t 18)),(some (17,false)),[]⟩,⟨(some 20),(.bin .leq (.t 19) (.c (.int .i64 1))),(some (17,false)),[]⟩,oI 21 (.pick (.t 17) (.c (.bool true)) (.t 20)),oI 2 (.mov (.t 21))] none [2]) .ret)))
def ZmK:ZD:=⟨[(.tmp 2)],Znr⟩
theorem ZHX:FC 112=some ZmK:=by kernel_rfl
theorem ZAj:ZmK.body=Znr:=rfl
theorem ZFn:ZmK.res=[(.tmp 2)]:=rfl
def ZeC:Ze:=(.seq (.region [oI 1 (.box (.t 0)),oI 2 (.mov (.c (.lst true [])))] none [1]) (.seq (.region [oI 8 (.faddr 0 (.t 1)),oI 9 (.ld none (.t 8)),oI 10 (.call 18 0 true [(.t 9)]),oI 7 (.mov (.t 10)),oI 11 (.ext (.t 7) 0),oI 12 (.ext (.t 7) 1),oI 3 (.mov (.t 11)),oI 4 (.mov (.t 12))] none [3,1]) (.seq (.region [oI 5 (.mov (.c (.lst true []))),oI 6 (.mov (.c (.lst true [])))] none [6,5,3,1]) (.seq (.seq (.region [oI 13 (.faddr 0 (.t 1)),oI 14 (.ld none (.t 13)),oI 15 (.call 97 0 true [(.t 14)])] none [15,6,5,3,1]) (.block 0 (.seq (.seq (.region [oI 17 (.bin .eql (.t 15) (.c (.int .i64 1))),oI 16 (.mov (.t 17))] none [16,15,6,5,3,1]) (.cond (.t 16) .skip (.seq (.region [oI 18 (.bin .eql (.t 15) (.c (.int .i64 2))),oI 16 (.mov (.t 18))] none [16,15,6,5,3,1]) (.cond (.t 16) .skip (.region [oI 19 (.bin .eql (.t 15) (.c (.int .i64 3))),oI 16 (.mov (.t 19))] none [16,15,6,5,3,1]))))) (.cond (.t 16) (.region [oI 20 (.faddr 1 (.t 1)),oI 21 (.ld none (.t 20)),oI 22 (.i2i .u64 (.t 21)),oI 23 (.faddr 0 (.t 1)),oI 24 (.ld none (.t 23)),oI 25 (.call 97 0 true [(.t 24)]),oI 26 (.bin .sub (.t 25) (.c (.int .i64 1))),oI 27 (.bin .shl (.c (.int .i64 1)) (.t 26)),oI 28 (.call 61 0 true [(.t 22),(.t 27)]),oI 5 (.mov (.t 28))] (some [(1,4),(1,5),(5,5),(8,8)]) [6,5,3]) (.seq (.region [oI 30 (.bin .eql (.t 15) (.c (.int .i64 4))),oI 29 (.mov (.t 30))] none [29,15,6,5,3,1]) (.cond (.t 29) (.region [oI 32 (.faddr 1 (.t 1)),oI 33 (.ld none (.t 32)),oI 34 (.call 18 0 true [(.t 33)]),oI 31 (.mov (.t 34)),oI 35 (.ext (.t 31) 0),oI 36 (.ext (.t 31) 1),oI 5 (.mov (.t 35))] none [6,5,3]) (.seq (.region [oI 38 (.bin .eql (.t 15) (.c (.int .i64 5))),oI 37 (.mov (.t 38))] none [37,15,6,5,3,1]) (.cond (.t 37) (.region [oI 40 (.faddr 2 (.t 1)),oI 41 (.ld none (.t 40)),oI 42 (.call 63 0 true [(.t 41)]),oI 39 (.mov (.t 42)),oI 43 (.ext (.t 39) 0),oI 44 (.ext (.t 39) 1),oI 5 (.mov (.t 43))] none [6,5,3]) (.seq (.region [oI 46 (.bin .eql (.t 15) (.c (.int .i64 6))),oI 45 (.mov (.t 46))] none [45,15,6,5,3,1]) (.cond (.t 45) (.region [oI 48 (.faddr 4 (.t 1)),oI 49 (.ld none (.t 48)),oI 50 (.call 85 0 true [(.t 49)]),oI 47 (.mov (.t 50)),oI 51 (.ext (.t 47) 0),oI 52 (.ext (.t 47) 1),oI 5 (.mov (.t 51))] none [6,5,3]) (.seq (.region [oI 54 (.bin .eql (.t 15) (.c (.int .i64 7))),oI 53 (.mov (.t 54))] none [53,6,5,3,1]) (.cond (.t 53) (.seq (.region [oI 56 (.faddr 2 (.t 1)),oI 57 (.ld none (.t 56)),oI 58 (.call 63 0 true [(.t 57)]),oI 55 (.mov (.t 58)),oI 59 (.ext (.t 55) 0),oI 60 (.ext (.t 55) 1),oI 5 (.mov (.t 59))] none [5,3,1]) (.region [oI 62 (.faddr 3 (.t 1)),oI 63 (.ld none (.t 62)),oI 64 (.call 63 0 true [(.t 63)]),oI 61 (.mov (.t 64)),oI 65 (.ext (.t 61) 0),oI 66 (.ext (.t 61) 1),oI 6 (.mov (.t 65))] none [6,5,3])) .skip)))))))))))) (.seq (.region [oI 67 (.mov (.t 3)),oI 68 (.mov (.t 5)),oI 69 (.mov (.t 6)),oI 70 (.bslice false 1 3 (.lst true []) [(0,(.t 67)),(1,(.t 68)),(2,(.t 69))]),oI 71 (.call 19 0 true [(.t 70)]),oI 2 (.mov (.t 71))] none [2]) .ret)))))
def ZpV:ZD:=⟨[(.tmp 2)],ZeC⟩
theorem Zgg:FC 86=some ZpV:=by kernel_rfl
theorem Zf6:ZpV.body=ZeC:=rfl
theorem ZfR:ZpV.res=[(.tmp 2)]:=rfl
def Zpv:Ze:=(.seq (.region [oI 2 (.alloc [(.int .i64 0),(.int .i64 0)])] none [2,0]) (.seq (.seq (.region [oI 3 (.mov (.t 0))] none [3,2]) (.block 0 (.seq (.region [oI 5 (.bin .eql (.t 3) (.c (.int .i64 1))),oI 4 (.mov (.t 5))] none [4,3,2]) (.cond (.t 4) (.seq (.region [oI 6 (.bslice false 1 2 (.int .i64 0) [(0,(.c (.int .i64 3))),(1,(.c (.int .i64 16)))]),oI 7 (.call 118 0 true [(.t 6)]),oI 8 (.build [(.int .i64 0),(.int .i64 0)] [(0,1,(.c (.int .i64 1))),(1,1,(.t 7))]),oN (.st 2 (.t 2) (.t 8))] none [2]) .ret) (.seq (.region [oI 10 (.bin .eql (.t 3) (.c (.int .i64 2))),oI 9 (.mov (.t 10))] none [9,3,2]) (.cond (.t 9) (.seq (.region [oI 11 (.bslice false 1 2 (.int .i64 0) [(0,(.c (.int .i64 3))),(1,(.c (.int .i64 16)))]),oI 12 (.call 118 0 true [(.t 11)]),oI 13 (.build [(.int .i64 0),(.int .i64 0)] [(0,1,(.c (.int .i64 3))),(1,1,(.t 12))]),oN (.st 2 (.t 2) (.t 13))] none [2]) .ret) (.seq (.seq (.region [oI 15 (.bin .eql (.t 3) (.c (.int .i64 3))),oI 14 (.mov (.t 15))] none [14,3,2]) (.cond (.t 14) .skip (.region [oI 16 (.bin .eql (.t 3) (.c (.int .i64 8))),oI 14 (.mov (.t 16))] none [14,3,2]))) (.cond (.t 14) (.seq (.region [oI 17 (.bslice false 1 2 (.int .i64 0) [(0,(.c (.int .i64 3))),(1,(.c (.int .i64 16)))]),oI 18 (.call 118 0 true [(.t 17)]),oI 19 (.build [(.int .i64 0),(.int .i64 0)] [(0,1,(.c (.int .i64 5))),(1,1,(.t 18))]),oN (.st 2 (.t 2) (.t 19))] none [2]) .ret) (.seq (.region [oI 21 (.bin .eql (.t 3) (.c (.int .i64 9))),oI 20 (.mov (.t 21))] none [20,3,2]) (.cond (.t 20) (.seq (.region [oI 22 (.bslice false 1 2 (.int .i64 0) [(0,(.c (.int .i64 3))),(1,(.c (.int .i64 16)))]),oI 23 (.call 118 0 true [(.t 22)]),oI 24 (.build [(.int .i64 0),(.int .i64 0)] [(0,1,(.c (.int .i64 6))),(1,1,(.t 23))]),oN (.st 2 (.t 2) (.t 24))] none [2]) .ret) (.seq (.region [oI 26 (.bin .eql (.t 3) (.c (.int .i64 11))),oI 25 (.mov (.t 26))] none [25,3,2]) (.cond (.t 25) (.seq (.region [oI 27 (.bslice false 1 2 (.int .i64 0) [(0,(.c (.int .i64 3))),(1,(.c (.int .i64 8)))]),oI 28 (.call 118 0 true [(.t 27)]),oI 29 (.build [(.int .i64 0),(.int .i64 0)] [(0,1,(.c (.int .i64 4))),(1,1,(.t 28))]),oN (.st 2 (.t 2) (.t 29))] none [2]) .ret) (.seq (.region [oI 31 (.bin .eql (.t 3) (.c (.int .i64 17))),oI 30 (.mov (.t 31))] none [30,3,2]) (.cond (.t 30) (.seq (.region [oI 32 (.bslice false 1 3 (.int .i64 0) [(0,(.c (.int .i64 1))),(1,(.c (.int .i64 2))),(2,(.c (.int .i64 14)))]),oI 33 (.call 118 0 true [(.t 32)]),oI 34 (.build [(.int .i64 0),(.int .i64 0)] [(0,1,(.c (.int .i64 3))),(1,1,(.t 33))]),oN (.st 2 (.t 2) (.t 34))] none [2]) .ret) (.seq (.seq (.region [oI 36 (.bin .eql (.t 3) (.c (.int .i64 18))),oI 35 (.mov (.t 36))] none [35,3,2]) (.cond (.t 35) .skip (.region [oI 37 (.bin .eql (.t 3) (.c (.int .i64 26))),oI 35 (.mov (.t 37))] none [35,3,2]))) (.cond (.t 35) (.seq (.region [oI 38 (.bslice false 1 1 (.int .i64 0) [(0,(.c (.int .i64 2)))]),oI 39 (.call 118 0 true [(.t 38)]),oI 40 (.build [(.int .i64 0),(.int .i64 0)] [(0,1,(.c (.int .i64 5))),(1,1,(.t 39))]),oN (.st 2 (.t 2) (.t 40))] none [2]) .ret) (.seq (.region [oI 42 (.bin .eql (.t 3) (.c (.int .i64 19))),oI 41 (.mov (.t 42))] none [41,3,2]) (.cond (.t 41) (.seq (.region [oI 43 (.bslice false 1 1 (.int .i64 0) [(0,(.c (.int .i64 2)))]),oI 44 (.call 118 0 true [(.t 43)]),oI 45 (.build [(.int .i64 0),(.int .i64 0)] [(0,1,(.c (.int .i64 2))),(1,1,(.t 44))]),oN (.st 2 (.t 2) (.t 45))] none [2]) .ret) (.seq (.region [oI 47 (.bin .eql (.t 3) (.c (.int .i64 21))),oI 46 (.mov (.t 47))] none [46,3,2]) (.cond (.t 46) (.seq (.region [oI 48 (.bslice false 1 3 (.int .i64 0) [(0,(.c (.int .i64 1))),(1,(.c (.int .i64 2))),(2,(.c (.int .i64 15)))]),oI 49 (.call 118 0 true [(.t 48)]),oI 50 (.build [(.int .i64 0),(.int .i64 0)] [(0,1,(.c (.int .i64 5))),(1,1,(.t 49))]),oN (.st 2 (.t 2) (.t 50))] none [2]) .ret) (.seq (.region [oI 52 (.bin .eql (.t 3) (.c (.int .i64 22))),oI 51 (.mov (.t 52))] none [51,3,2]) (.cond (.t 51) (.seq (.region [oI 53 (.bslice false 1 3 (.int .i64 0) [(0,(.c (.int .i64 1))),(1,(.c (.int .i64 2))),(2,(.c (.int .i64 15)))]),oI 54 (.call 118 0 true [(.t 53)]),oI 55 (.build [(.int .i64 0),(.int .i64 0)] [(0,1,(.c (.int .i64 6))),(1,1,(.t 54))]),oN (.st 2 (.t 2) (.t 55))] none [2]) .ret) (.seq (.seq (.region [oI 57 (.bin .eql (.t 3) (.c (.int .i64 23))),oI 56 (.mov (.t 57))] none [56,3,2]) (.cond (.t 56) .skip (.region [oI 58 (.bin .eql (.t 3) (.c (.int .i64 25))),oI 56 (.mov (.t 58))] none [56,3,2]))) (.cond (.t 56) (.seq (.region [oI 59 (.bslice false 1 1 (.int .i64 0) [(0,(.c (.int .i64 1)))]),oI 60 (.call 118 0 true [(.t 59)]),oI 61 (.build [(.int .i64 0),(.int .i64 0)] [(0,1,(.c (.int .i64 1))),(1,1,(.t 60))]),oN (.st 2 (.t 2) (.t 61))] none [2]) .ret) (.seq (.region [oI 63 (.bin .eql (.t 3) (.c (.int .i64 24))),oI 62 (.mov (.t 63))] none [62,3,2]) (.cond (.t 62) (.seq (.region [oI 64 (.bslice false 1 1 (.int .i64 0) [(0,(.c (.int .i64 16)))]),oI 65 (.call 118 0 true [(.t 64)]),oI 66 (.build [(.int .i64 0),(.int .i64 0)] [(0,1,(.c (.int .i64 3))),(1,1,(.t 65))]),oN (.st 2 (.t 2) (.t 66))] none [2]) .ret) (.seq (.region [oI 68 (.bin .eql (.t 3) (.c (.int .i64 28))),oI 67 (.mov (.t 68))] none [67,3,2]) (.cond (.t 67) (.seq (.region [oI 69 (.bslice false 1 2 (.int .i64 0) [(0,(.c (.int .i64 2))),(1,(.c (.int .i64 14)))]),oI 70 (.call 118 0 true [(.t 69)]),oI 71 (.build [(.int .i64 0),(.int .i64 0)] [(0,1,(.c (.int .i64 5))),(1,1,(.t 70))]),oN (.st 2 (.t 2) (.t 71))] none [2]) .ret) (.seq (.region [oI 73 (.bin .eql (.t 3) (.c (.int .i64 31))),oI 72 (.mov (.t 73))] none [72,3,2]) (.cond (.t 72) (.seq (.region [oI 74 (.bslice false 1 9 (.int .i64 0) [(0,(.c (.int .i64 2))),(1,(.c (.int .i64 4))),(2,(.c (.int .i64 5))),(3,(.c (.int .i64 6))),(4,(.c (.int .i64 7))),(5,(.c (.int .i64 9))),(6,(.c (.int .i64 11))),(7,(.c (.int .i64 14))),(8,(.c (.int .i64 15)))]),oI 75 (.call 118 0 true [(.t 74)]),oI 76 (.build [(.int .i64 0),(.int .i64 0)] [(0,1,(.c (.int .i64 5))),(1,1,(.t 75))]),oN (.st 2 (.t 2) (.t 76))] none [2]) .ret) (.seq (.seq (.region [oI 78 (.bin .eql (.t 3) (.c (.int .i64 33))),oI 77 (.mov (.t 78))] none [77,3,2]) (.cond (.t 77) .skip (.region [oI 79 (.bin .eql (.t 3) (.c (.int .i64 34))),oI 77 (.mov (.t 79))] none [77,3,2]))) (.cond (.t 77) (.seq (.region [oI 80 (.bslice false 1 2 (.int .i64 0) [(0,(.c (.int .i64 1))),(1,(.c (.int .i64 2)))]),oI 81 (.call 118 0 true [(.t 80)]),oI 82 (.build [(.int .i64 0),(.int .i64 0)] [(0,1,(.c (.int .i64 2))),(1,1,(.t 81))]),oN (.st 2 (.t 2) (.t 82))] none [2]) .ret) (.seq (.region [oI 84 (.bin .eql (.t 3) (.c (.int .i64 35))),oI 83 (.mov (.t 84))] none [83,3,2]) (.cond (.t 83) (.seq (.region [oI 85 (.bslice false 1 1 (.int .i64 0) [(0,(.c (.int .i64 3)))]),oI 86 (.call 118 0 true [(.t 85)]),oI 87 (.build [(.int .i64 0),(.int .i64 0)] [(0,1,(.c (.int .i64 2))),(1,1,(.t 86))]),oN (.st 2 (.t 2) (.t 87))] none [2]) .ret) (.seq (.region [oI 89 (.bin .eql (.t 3) (.c (.int .i64 39))),oI 88 (.mov (.t 89))] none [88,3,2]) (.cond (.t 88) (.seq (.region [oI 90 (.bslice false 1 2 (.int .i64 0) [(0,(.c (.int .i64 1))),(1,(.c (.int .i64 2)))]),oI 91 (.call 118 0 true [(.t 90)]),oI 92 (.build [(.int .i64 0),(.int .i64 0)] [(0,1,(.c (.int .i64 3))),(1,1,(.t 91))]),oN (.st 2 (.t 2) (.t 92))] none [2]) .ret) (.seq (.seq (.region [oI 94 (.bin .eql (.t 3) (.c (.int .i64 36))),oI 93 (.mov (.t 94))] none [93,3,2]) (.cond (.t 93) .skip (.seq (.region [oI 95 (.bin .eql (.t 3) (.c (.int .i64 37))),oI 93 (.mov (.t 95))] none [93,3,2]) (.cond (.t 93) .skip (.seq (.region [oI 96 (.bin .eql (.t 3) (.c (.int .i64 40))),oI 93 (.mov (.t 96))] none [93,3,2]) (.cond (.t 93) .skip (.seq (.region [oI 97 (.bin .eql (.t 3) (.c (.int .i64 41))),oI 93 (.mov (.t 97))] none [93,3,2]) (.cond (.t 93) .skip (.region [oI 98 (.bin .eql (.t 3) (.c (.int .i64 42))),oI 93 (.mov (.t 98))] none [93,3,2]))))))))) (.cond (.t 93) (.seq (.region [oI 99 (.bslice false 1 1 (.int .i64 0) [(0,(.c (.int .i64 2)))]),oI 100 (.call 118 0 true [(.t 99)]),oI 101 (.build [(.int .i64 0),(.int .i64 0)] [(0,1,(.c (.int .i64 1))),(1,1,(.t 100))]),oN (.st 2 (.t 2) (.t 101))] none [2]) .ret) (.seq (.region [oI 103 (.bin .eql (.t 3) (.c (.int .i64 38))),oI 102 (.mov (.t 103))] none [102,2]) (.cond (.t 102) (.seq (.region [oI 104 (.bslice false 1 3 (.int .i64 0) [(0,(.c (.int .i64 0))),(1,(.c (.int .i64 12))),(2,(.c (.int .i64 13)))]),oI 105 (.call 118 0 true [(.t 104)]),oI 106 (.un .xor (.t 105)),oI 107 (.build [(.int .i64 0),(.int .i64 0)] [(0,1,(.c (.int .i64 7))),(1,1,(.t 106))]),oN (.st 2 (.t 2) (.t 107))] none [2]) .ret) .skip)))))))))))))))))))))))))))))))))))))))) (.seq (.region [oI 108 (.build [(.int .i64 0),(.int .i64 0)] []),oN (.st 2 (.t 2) (.t 108))] none [2]) .ret)))
def Znz:ZD:=⟨[(.cell 2 (some 2))],Zpv⟩
theorem ZzE:FC 108=some Znz:=by kernel_rfl
theorem ZwL:Znz.body=Zpv:=rfl
theorem ZGV:Znz.res=[(.cell 2 (some 2))]:=rfl
def ZoN:Ze:=(.seq (.region [oI 4 (.mov (.c (.bool false)))] none [1,0]) (.seq (.region [oI 5 (.mov (.t 0)),oI 6 (.bin .eql (.t 5) (.c (.int .i64 38))),oI 7 (.mov (.t 6)),⟨(some 8),(.mov (.t 0)),(some (7,false)),[]⟩,⟨(some 9),(.bin .eql (.t 8) (.c (.int .i64 11))),(some (7,false)),[]⟩,⟨(some 10),(.mov (.t 9)),(some (7,false)),[]⟩,⟨(some 11),(.mov (.t 1)),(some (10,true)),[]⟩,⟨(some 12),(.bin .eql (.t 11) (.c (.int .i64 3))),(some (10,true)),[]⟩,⟨(some 13),(.pick (.t 10) (.t 12) (.c (.bool false))),(some (7,false)),[]⟩,oI 14 (.pick (.t 7) (.c (.bool true)) (.t 13)),oI 4 (.mov (.t 14))] none [4]) .ret))
def ZqO:ZD:=⟨[(.tmp 4)],ZoN⟩
theorem ZzM:FC 111=some ZqO:=by kernel_rfl
theorem ZHR:ZqO.body=ZoN:=rfl
theorem ZBj:ZqO.res=[(.tmp 4)]:=rfl
def ZeB:Ze:=(.seq (.region [oI 6 (.alloc [(.int .i64 0),(.int .i64 0),(.str []),(.str []),(.lst true [])]),oI 7 (.mov (.c (.int .i64 0))),oI 8 (.mov (.c (.int .i64 0)))] none [6,2,1,0]) (.seq (.region [oI 16 (.mov (.t 1)),oI 17 (.call 98 0 true [(.t 16)]),oI 15 (.mov (.t 17)),oI 18 (.ext (.t 15) 0),oI 19 (.ext (.t 15) 1),oI 20 (.ext (.t 15) 2),oI 9 (.mov (.t 18)),oI 10 (.mov (.t 19)),oI 11 (.mov (.t 20))] none [11,10,9,6,2,1,0]) (.seq (.seq (.region [oI 21 (.mov (.t 11)),oI 22 (.bin .neq (.t 21) (.c (.int .i64 0))),oI 23 (.mov (.t 22)),⟨(some 24),(.mov (.t 9)),(some (23,false)),[]⟩,⟨(some 25),(.mov (.t 0)),(some (23,false)),[]⟩,⟨(some 26),(.call 109 0 true [(.t 24),(.t 25)]),(some (23,false)),[]⟩,⟨(some 27),(.un .not (.t 26)),(some (23,false)),[]⟩,oI 28 (.pick (.t 23) (.c (.bool true)) (.t 27))] none [28,10,9,6,2,1,0]) (.cond (.t 28) (.seq (.region [oI 29 (.ld (some 5) (.t 6)),oN (.st 5 (.t 6) (.t 29)),oI 7 (.mov (.c (.int .i64 0))),oI 8 (.mov (.c (.int .i64 129)))] none [8,7,6]) .ret) .skip)) (.seq (.region [oI 31 (.mov (.t 9)),oI 32 (.mov (.t 1)),oI 33 (.mov (.t 10)),oI 34 (.slice 1 (.t 32) (some (.t 33)) none none),oI 35 (.call 110 0 true [(.t 31),(.t 34)]),oI 30 (.mov (.t 35)),oI 36 (.ext (.t 30) 0),oI 37 (.ext (.t 30) 1),oI 38 (.ext (.t 30) 2),oN (.st 5 (.t 6) (.t 36)),oI 7 (.mov (.t 37)),oI 12 (.mov (.t 38))] none [12,10,9,7,6,2,0]) (.seq (.region [oI 40 (.mov (.t 9)),oI 41 (.mov (.t 2)),oI 42 (.call 33 0 true [(.t 40),(.t 41)]),oI 39 (.mov (.t 42)),oI 43 (.ext (.t 39) 0),oI 44 (.ext (.t 39) 1),oI 13 (.alloc [(.int .i64 0),(.int .i64 0),(.str []),(.str []),(.lst true [])]),oN (.st 5 (.t 13) (.t 43)),oI 14 (.mov (.t 44))] none [14,12,10,9,7,6,0]) (.seq (.block 0 (.seq (.region [oI 46 (.mov (.t 12)),oI 47 (.un .not (.t 46)),oI 45 (.mov (.t 47))] none [45,14,10,9,7,6,0]) (.cond (.t 45) (.seq (.region [oI 48 (.ld (some 5) (.t 6)),oN (.st 5 (.t 6) (.t 48)),oI 7 (.mov (.c (.int .i64 0))),oI 8 (.mov (.c (.int .i64 129)))] none [8,7,6]) .ret) (.seq (.region [oI 50 (.mov (.t 14)),oI 51 (.mov (.t 50)),⟨(some 52),(.mov (.t 9)),(some (51,true)),[]⟩,⟨(some 53),(.mov (.t 0)),(some (51,true)),[]⟩,⟨(some 54),(.call 111 0 true [(.t 52),(.t 53)]),(some (51,true)),[]⟩,⟨(some 55),(.un .not (.t 54)),(some (51,true)),[]⟩,oI 56 (.pick (.t 51) (.t 55) (.c (.bool false))),oI 49 (.mov (.t 56))] none [49,10,9,7,6]) (.cond (.t 49) (.seq (.region [oI 57 (.ld (some 5) (.t 6)),oN (.st 5 (.t 6) (.t 57)),oI 7 (.mov (.c (.int .i64 0))),oI 8 (.mov (.c (.int .i64 130)))] none [8,7,6]) .ret) (.seq (.region [oI 59 (.ld (some 5) (.t 6)),oI 60 (.call 112 0 true [(.t 59)]),oI 58 (.mov (.t 60))] none [58,10,9,7,6]) (.cond (.t 58) (.seq (.region [oI 61 (.ld (some 5) (.t 6)),oI 62 (.mov (.t 10)),oI 63 (.mov (.t 7)),oI 64 (.bin .add (.t 62) (.t 63)),oN (.st 5 (.t 6) (.t 61)),oI 7 (.mov (.t 64)),oI 8 (.mov (.c (.int .i64 0)))] none [8,7,6]) .ret) (.seq (.region [oI 66 (.mov (.t 9)),oI 67 (.bin .eql (.t 66) (.c (.int .i64 35))),oI 65 (.mov (.t 67))] none [65,6]) (.cond (.t 65) (.seq (.region [oI 68 (.ld (some 5) (.t 6)),oN (.st 5 (.t 6) (.t 68)),oI 7 (.mov (.c (.int .i64 0))),oI 8 (.mov (.c (.int .i64 148)))] none [8,7,6]) .ret) .skip))))))))) (.seq (.region [oI 69 (.ld (some 5) (.t 6)),oN (.st 5 (.t 6) (.t 69)),oI 7 (.mov (.c (.int .i64 0))),oI 8 (.mov (.c (.int .i64 130)))] none [8,7,6]) .ret)))))))
def Zpp:ZD:=⟨[(.cell 6 (some 5)),(.tmp 7),(.tmp 8)],ZeB⟩
theorem Zf9:FC 99=some Zpp:=by kernel_rfl
theorem ZfI:Zpp.body=ZeB:=rfl
theorem Zgl:Zpp.res=[(.cell 6 (some 5)),(.tmp 7),(.tmp 8)]:=rfl
def Zc7:Ze:=(.seq (.region [oI 4 (.alloc [(.int .i64 0),(.int .i64 0),(.str []),(.str []),(.lst true [])]),oI 5 (.mov (.c (.int .i64 0))),oI 6 (.mov (.c (.bool false)))] none [5,4,1,0]) (.seq (.region [oI 9 (.mov (.t 0)),oI 10 (.faddr 0 (.t 4)),oN (.st 1 (.t 10) (.t 9))] none [5,4,1,0]) (.seq (.region [oI 7 (.mov (.c (.int .i64 0)))] none [7,5,4,1,0]) (.seq (.seq (.region [oI 11 (.mov (.t 0)),oI 12 (.call 97 0 true [(.t 11)])] none [12,7,5,4,1,0]) (.block 0 (.seq (.seq (.region [oI 14 (.bin .eql (.t 12) (.c (.int .i64 1))),oI 13 (.mov (.t 14))] none [13,12,7,5,4,1,0]) (.cond (.t 13) .skip (.seq (.region [oI 15 (.bin .eql (.t 12) (.c (.int .i64 2))),oI 13 (.mov (.t 15))] none [13,12,7,5,4,1,0]) (.cond (.t 13) .skip (.region [oI 16 (.bin .eql (.t 12) (.c (.int .i64 3))),oI 13 (.mov (.t 16))] none [13,12,7,5,4,1,0]))))) (.cond (.t 13) (.seq (.region [oI 17 (.mov (.t 0)),oI 18 (.call 97 0 true [(.t 17)]),oI 19 (.bin .sub (.t 18) (.c (.int .i64 1))),oI 20 (.bin .shl (.c (.int .i64 1)) (.t 19)),oI 5 (.mov (.t 20))] none [7,5,4,1]) (.seq (.seq (.region [oI 21 (.mov (.t 1)),oI 22 (.len (.t 21)),oI 23 (.mov (.t 5)),oI 24 (.bin .lss (.t 22) (.t 23))] none [24,7,5,4,1]) (.cond (.t 24) (.seq (.region [oI 25 (.ld (some 5) (.t 4)),oN (.st 5 (.t 4) (.t 25)),oI 5 (.mov (.c (.int .i64 0))),oI 6 (.mov (.c (.bool false)))] none [6,5,4]) .ret) .skip)) (.region [oI 26 (.mov (.t 1)),oI 27 (.mov (.t 5)),oI 28 (.slice 1 (.t 26) none (some (.t 27)) none),oI 29 (.call 93 0 true [(.t 28)]),oI 30 (.i2i .i64 (.t 29)),oI 31 (.faddr 1 (.t 4)),oN (.st 1 (.t 31) (.t 30))] none [7,5,4]))) (.seq (.region [oI 33 (.bin .eql (.t 12) (.c (.int .i64 4))),oI 32 (.mov (.t 33))] none [32,12,7,5,4,1]) (.cond (.t 32) (.region [oI 35 (.mov (.t 1)),oI 36 (.call 98 0 true [(.t 35)]),oI 34 (.mov (.t 36)),oI 37 (.ext (.t 34) 0),oI 38 (.ext (.t 34) 1),oI 39 (.ext (.t 34) 2),oI 40 (.faddr 1 (.t 4)),oN (.st 1 (.t 40) (.t 37)),oI 5 (.mov (.t 38)),oI 7 (.mov (.t 39))] none [7,5,4]) (.seq (.region [oI 42 (.bin .eql (.t 12) (.c (.int .i64 5))),oI 41 (.mov (.t 42))] none [41,12,7,5,4,1]) (.cond (.t 41) (.region [oI 44 (.mov (.t 1)),oI 45 (.call 94 0 true [(.t 44)]),oI 43 (.mov (.t 45)),oI 46 (.ext (.t 43) 0),oI 47 (.ext (.t 43) 1),oI 48 (.ext (.t 43) 2),oI 49 (.faddr 2 (.t 4)),oN (.st 1 (.t 49) (.t 46)),oI 5 (.mov (.t 47)),oI 7 (.mov (.t 48))] none [7,5,4]) (.seq (.region [oI 51 (.bin .eql (.t 12) (.c (.int .i64 6))),oI 50 (.mov (.t 51))] none [50,12,7,5,4,1]) (.cond (.t 50) (.region [oI 53 (.mov (.t 1)),oI 54 (.call 102 0 true [(.t 53)]),oI 52 (.mov (.t 54)),oI 55 (.ext (.t 52) 0),oI 56 (.ext (.t 52) 1),oI 57 (.ext (.t 52) 2),oI 58 (.faddr 4 (.t 4)),oN (.st 1 (.t 58) (.t 55)),oI 5 (.mov (.t 56)),oI 7 (.mov (.t 57))] none [7,5,4]) (.seq (.region [oI 60 (.bin .eql (.t 12) (.c (.int .i64 7))),oI 59 (.mov (.t 60))] none [59,7,5,4,1]) (.cond (.t 59) (.seq (.region [oI 62 (.mov (.t 1)),oI 63 (.call 94 0 true [(.t 62)]),oI 61 (.mov (.t 63)),oI 64 (.ext (.t 61) 0),oI 65 (.ext (.t 61) 1),oI 66 (.ext (.t 61) 2),oI 67 (.faddr 2 (.t 4)),oN (.st 1 (.t 67) (.t 64)),oI 5 (.mov (.t 65)),oI 7 (.mov (.t 66))] none [7,5,4,1]) (.seq (.region [oI 68 (.mov (.t 7)),oI 69 (.bin .eql (.t 68) (.c (.int .i64 0)))] none [69,7,5,4,1]) (.cond (.t 69) (.seq (.region [oI 8 (.mov (.c (.int .i64 0)))] none [5,4,1]) (.seq (.region [oI 71 (.mov (.t 1)),oI 72 (.mov (.t 5)),oI 73 (.slice 1 (.t 71) (some (.t 72)) none none),oI 74 (.call 94 0 true [(.t 73)]),oI 70 (.mov (.t 74)),oI 75 (.ext (.t 70) 0),oI 76 (.ext (.t 70) 1),oI 77 (.ext (.t 70) 2),oI 78 (.faddr 3 (.t 4)),oN (.st 1 (.t 78) (.t 75)),oI 8 (.mov (.t 76)),oI 7 (.mov (.t 77))] none [8,7,5,4]) (.region [oI 79 (.mov (.t 5)),oI 80 (.mov (.t 8)),oI 81 (.bin .add (.t 79) (.t 80)),oI 5 (.mov (.t 81))] none [7,5,4]))) .skip))) .skip)))))))))))) (.seq (.region [oI 82 (.ld (some 5) (.t 4)),oI 83 (.mov (.t 5)),oI 84 (.mov (.t 7)),oI 85 (.bin .eql (.t 84) (.c (.int .i64 0))),oN (.st 5 (.t 4) (.t 82)),oI 5 (.mov (.t 83)),oI 6 (.mov (.t 85))] none [6,5,4]) .ret)))))
def Zn4:ZD:=⟨[(.cell 4 (some 5)),(.tmp 5),(.tmp 6)],Zc7⟩
theorem Zed:FC 110=some Zn4:=by kernel_rfl
theorem ZdJ:Zn4.body=Zc7:=rfl
theorem ZdF:Zn4.res=[(.cell 4 (some 5)),(.tmp 5),(.tmp 6)]:=rfl
def Zoe:Ze:=(.seq (.region [oI 2 (.box (.t 0)),oI 3 (.box (.t 1)),oI 4 (.mov (.c (.bool false)))] none [3,2]) (.seq (.region [oI 5 (.faddr 0 (.t 2)),oI 6 (.ld none (.t 5)),oI 7 (.faddr 0 (.t 3)),oI 8 (.ld none (.t 7)),oI 9 (.bin .eql (.t 6) (.t 8)),oI 10 (.mov (.t 9)),⟨(some 11),(.faddr 1 (.t 2)),(some (10,true)),[]⟩,⟨(some 12),(.ld none (.t 11)),(some (10,true)),[]⟩,⟨(some 13),(.faddr 1 (.t 3)),(some (10,true)),[]⟩,⟨(some 14),(.ld none (.t 13)),(some (10,true)),[]⟩,⟨(some 15),(.bin .eql (.t 12) (.t 14)),(some (10,true)),[]⟩,oI 16 (.pick (.t 10) (.t 15) (.c (.bool false))),oI 17 (.mov (.t 16)),⟨(some 18),(.faddr 2 (.t 2)),(some (17,true)),[]⟩,⟨(some 19),(.ld none (.t 18)),(some (17,true)),[]⟩,⟨(some 20),(.faddr 2 (.t 3)),(some (17,true)),[]⟩,⟨(some 21),(.ld none (.t 20)),(some (17,true)),[]⟩,⟨(some 22),(.bin .eql (.t 19) (.t 21)),(some (17,true)),[]⟩,oI 23 (.pick (.t 17) (.t 22) (.c (.bool false))),oI 24 (.mov (.t 23)),⟨(some 25),(.faddr 3 (.t 2)),(some (24,true)),[]⟩,⟨(some 26),(.ld none (.t 25)),(some (24,true)),[]⟩,⟨(some 27),(.faddr 3 (.t 3)),(some (24,true)),[]⟩,⟨(some 28),(.ld none (.t 27)),(some (24,true)),[]⟩,⟨(some 29),(.bin .eql (.t 26) (.t 28)),(some (24,true)),[]⟩,oI 30 (.pick (.t 24) (.t 29) (.c (.bool false))),oI 31 (.mov (.t 30)),⟨(some 32),(.faddr 4 (.t 2)),(some (31,true)),[]⟩,⟨(some 33),(.ld none (.t 32)),(some (31,true)),[]⟩,⟨(some 34),(.b2s (.t 33)),(some (31,true)),[]⟩,⟨(some 35),(.faddr 4 (.t 3)),(some (31,true)),[]⟩,⟨(some 36),(.ld none (.t 35)),(some (31,true)),[]⟩,⟨(some 37),(.b2s (.t 36)),(some (31,true)),[]⟩,⟨(some 38),(.bin .eql (.t 34) (.t 37)),(some (31,true)),[]⟩,oI 39 (.pick (.t 31) (.t 38) (.c (.bool false))),oI 4 (.mov (.t 39))] none [4]) .ret))
def Zq9:ZD:=⟨[(.tmp 4)],Zoe⟩
theorem ZyQ:FC 24=some Zq9:=by kernel_rfl
theorem ZBx:Zq9.body=Zoe:=rfl
theorem ZNJ:Zq9.res=[(.tmp 4)]:=rfl
def Zq4:Ze:=(.seq (.region [oI 4 (.mov (.c (.bool true)))] none [4]) .ret)
def Zob:Ze:=Zq4
def ZNy:=xw Zob Zq4 rfl
def Zl8:Ze:=(.seq (.seq (.region [oI 11 (.mov (.t 5)),oI 12 (.mov (.t 0)),oI 13 (.len (.t 12)),oI 14 (.bin .lss (.t 11) (.t 13))] none [14,5,1,0]) (.cond (.t 14) .skip (.exit 0))) (.seq (.block 1 (.seq (.region [oI 17 (.mov (.t 0)),oI 18 (.mov (.t 5)),oI 19 (.iaddr 5 (.t 17) (.t 18)),oI 20 (.ld (some 5) (.t 19)),oI 21 (.mov (.t 1)),oI 22 (.mov (.t 5)),oI 23 (.iaddr 5 (.t 21) (.t 22)),oI 24 (.ld (some 5) (.t 23)),oI 25 (.call 24 0 true [(.t 20),(.t 24)]),oI 26 (.un .not (.t 25))] (some [(2,6),(3,6),(2,7),(3,7),(8,8)]) [26,5,1,0]) (.cond (.t 26) (.seq (.region [oI 4 (.mov (.c (.bool false)))] none [4]) .ret) .skip))) (.region [oI 15 (.mov (.t 5)),oI 16 (.bin .add (.t 15) (.c (.int .i64 1))),oI 5 (.mov (.t 16))] none [5,1,0])))
def ZmH:Ze:=Zl8
def Zrp:=xw ZmH Zl8 rfl
def Zmo:Ze:=(.seq (.region [oI 4 (.mov (.c (.bool false)))] none [1,0]) (.seq (.seq (.region [oI 6 (.mov (.t 0)),oI 7 (.len (.t 6)),oI 8 (.mov (.t 1)),oI 9 (.len (.t 8)),oI 10 (.bin .neq (.t 7) (.t 9))] none [10,1,0]) (.cond (.t 10) (.seq (.region [oI 4 (.mov (.c (.bool false)))] none [4]) .ret) .skip)) (.seq (.seq (.region [oI 5 (.mov (.c (.int .i64 0)))] none [5,1,0]) (.block 0 (.loop [5,1,0] ZmH))) Zob)))
def Zj3:ZD:=⟨[(.tmp 4)],Zmo⟩
theorem ZAg:FC 16=some Zj3:=by kernel_rfl
theorem Ztj:Zj3.body=Zmo:=rfl
theorem Zn3:Zj3.res=[(.tmp 4)]:=rfl
noncomputable def ZkV (m:Nat) (tm:Tms) (σ:Za):Option (AVal×Za):=(Zat m Zj3 (ZbF FC PR BY m Zob (Option.map (ZaX 0) (evL FC PR BY m [5,1,0] ZmH tm σ))))
end
section
end
section
def Zvk:List (Int×Int×Int):=[(1,1,65544),(2,3,65544),(3,5,65544),(8,5,65544),(9,6,65544),(11,4,264),(17,3,16390),(18,5,4),(26,5,4),(19,2,4),(21,5,32774),(22,6,32774),(23,1,2),(25,1,2),(24,3,65536),(28,5,16388),(31,5,51956),(33,2,6),(34,2,6),(35,2,8),(39,3,6),(36,1,4),(37,1,4),(40,1,4),(41,1,4),(42,1,4),(38,7,-12290)]
def ofF (id:Int):Int×Int:=(Zvk.lookup id).getD (0,0)
def Zbm (id:Int):Int:=(ofF id).1
def Zd0 (id:Int):Prop:=id=1\/id=2\/id=3\/id=8\/id=9\/id=11\/id=17\/id=18\/id=26\/id=19\/id=21\/id=22\/id=23\/id=25\/id=24\/id=28\/id=31\/id=33\/id=34\/id=35\/id=39\/id=36\/id=37\/id=40\/id=41\/id=42\/id=38
instance (id:Int):Decidable (Zd0 id):=by unfold Zd0;infer_instance
theorem Zv5 {id:Int} (h:¬Zd0 id):(id == 1)=false/\(id == 2)=false/\(id == 3)=false/\(id == 8)=false/\(id == 9)=false/\(id == 11)=false/\(id == 17)=false/\(id == 18)=false/\(id == 26)=false/\(id == 19)=false/\(id == 21)=false/\(id == 22)=false/\(id == 23)=false/\(id == 25)=false/\(id == 24)=false/\(id == 28)=false/\(id == 31)=false/\(id == 33)=false/\(id == 34)=false/\(id == 35)=false/\(id == 39)=false/\(id == 36)=false/\(id == 37)=false/\(id == 40)=false/\(id == 41)=false/\(id == 42)=false/\(id == 38)=false:=by
 unfold Zd0 at h
 simp only [not_or] at h
 simp only [beq_eq_false_iff_ne,ne_eq]
 exact h
theorem ZmZ {id:Int} (h:¬Zd0 id):ofF id=(0,0):=by
 obtain ⟨h1,h2,h3,h8,h9,h11,h17,h18,h26,h19,h21,h22,h23,h25,h24,h28,h31,h33,h34,h35,h39,h36,h37,h40,h41,h42,h38⟩:=Zv5 h
 simp only [ofF,Zvk,List.lookup,h1,h2,h3,h8,h9,h11,h17,h18,h26,h19,h21,h22,h23,h25,h24,h28,h31,h33,h34,h35,h39,h36,h37,h40,h41,h42,h38,Option.getD_none]
theorem ZJc (id:Int):E 108 [.int .i64 id] []=some (.agg [.int .i64 (ofF id).1,.int .i64 (ofF id).2],[]):=by
 by_cases h:Zd0 id
 ·rcases h with rfl | rfl | rfl | rfl | rfl | rfl | rfl | rfl | rfl | rfl | rfl | rfl | rfl | rfl | rfl | rfl | rfl | rfl | rfl | rfl | rfl | rfl | rfl | rfl | rfl | rfl | rfl
  all_goals exact Zdo.2 ⟨20,by kernel_rfl⟩
 ·rw [ZmZ h]
  obtain ⟨h1,h2,h3,h8,h9,h11,h17,h18,h26,h19,h21,h22,h23,h25,h24,h28,h31,h33,h34,h35,h39,h36,h37,h40,h41,h42,h38⟩:=Zv5 h
  rw [Zg (by rfl) ZzE]
  simp -implicitDefEqProofs only [EQA,Zq,Nat.reduceAdd,Nat.reduceLT,Nat.reduceLeDiff,Nat.reduceEqDiff,Nat.reduceBEq,reduceCtorEq,↓reduceIte,Zd,ZwL,Zpv,ZGV,oI,oN,h1,h2,h3,h8,h9,h11,h17,h18,h26,h19,h21,h22,h23,h25,h24,h28,h31,h33,h34,h35,h39,h36,h37,h40,h41,h42,h38,Zae,AVal.cells]
theorem Zsn (σ:Za) (sq own:Nat) (id:Int):Zk E BY σ sq 108 own true [.int .i64 id]=some (.agg [.int .i64 (ofF id).1,.int .i64 (ofF id).2],σ,{}) :=
 ZbB (ZJc id) (by kernel_rfl) rfl rfl rfl (fun _=>rfl) _ _ _
theorem Zxt (id:Int):E 97 [.int .i64 id] []=some (.int .i64 (Zbm id),[]):=by
 have hC:=fun σ sq own=>Zsn σ sq own id
 unfold Zbm
 rw [Zg (by rfl) ZLc]
 simp -implicitDefEqProofs only [EQA,Nat.reduceLT,Nat.reduceEqDiff,reduceCtorEq,↓reduceIte,ZNd,ZnY,ZO9,oI,hC]
theorem Zjp (σ:Za) (sq own:Nat) (id:Int):Zk E BY σ sq 97 own true [.int .i64 id]=some (.int .i64 (Zbm id),σ,{}) :=
 ZbB (Zxt id) (by kernel_rfl) rfl rfl rfl (fun _=>rfl) _ _ _
def Zp4 (pl w:Int):Int:=IntKind.i64.wrap (((BitVec.ofInt IntKind.i64.bits (pl.fdiv (2 ^ min w.toNat IntKind.i64.bits)) &&& BitVec.ofInt IntKind.i64.bits 1).toNat:Nat):Int)
def Zdm (id w:Int):Bool:=decide (w>=1) && decide (w<=16) && Zp4 (ofF id).2 w == 1
theorem ZzV (id w:Int):E 109 [.int .i64 id,.int .i64 w] []=some (.bool (Zdm id w),[]):=by
 have hC:=fun σ sq own=>Zsn σ sq own id
 unfold Zdm Zp4
 generalize (ofF id).2=pl at *
 rw [Zg (by rfl) ZJX]
 by_cases h1:w>=1
 ·have h2:¬w < 0:=by omega
  by_cases h3:w<=16
  ·simp -implicitDefEqProofs only [EQA,Nat.reduceLT,Nat.reduceEqDiff,ZaG,ZF,unG,reduceCtorEq,↓reduceIte,Zqq,Zjm,ZqX,oI,hC,h1,h2,h3]
  ·simp -implicitDefEqProofs only [EQA,Nat.reduceLT,Nat.reduceEqDiff,ZF,Zaw,unG,reduceCtorEq,↓reduceIte,Zqq,Zjm,ZqX,oI,h1,h3]
 ·simp -implicitDefEqProofs only [EQA,Nat.reduceLT,Nat.reduceEqDiff,ZF,Zaw,reduceCtorEq,↓reduceIte,Zqq,Zjm,ZqX,oI,h1]
theorem ZCw (σ:Za) (sq own:Nat) (id w:Int):Zk E BY σ sq 109 own true [.int .i64 id,.int .i64 w]=some (.bool (Zdm id w),σ,{}) :=
 ZbB (ZzV id w) (by kernel_rfl) rfl rfl rfl (fun _=>rfl) _ _ _
theorem ZEJ {id w:Int} (h:¬(1<=w/\w<=16)):Zdm id w=false:=by
 unfold Zdm
 by_cases h1:w>=1
 ·have h2:¬w<=16:=fun h2=>h ⟨h1,h2⟩
  simp [h2]
 ·simp [h1]
theorem ZHu:∀ k:Fin 17,Zp4 0 k.val=0:=by decide +kernel
theorem ZIN {id:Int} (h:¬Zd0 id) (w:Int):Zdm id w=false:=by
 by_cases hw:1<=w/\w<=16
 ·unfold Zdm
  rw [ZmZ h]
  have:=ZHu ⟨w.toNat,by omega⟩
  have e:((w.toNat:Nat):Int)=w:=by omega
  simp only [e] at this
  rw [this];simp
 ·exact ZEJ hw
end
section
theorem Zn9 (id:Int):Zbm id=0\/Zbm id=1\/Zbm id=2\/Zbm id=3\/Zbm id=4\/Zbm id=5\/Zbm id=6\/Zbm id=7:=by
 unfold Zbm
 by_cases h:Zd0 id
 ·unfold Zd0 at h
  rcases h with rfl | rfl | rfl | rfl | rfl | rfl | rfl | rfl | rfl | rfl | rfl | rfl | rfl | rfl | rfl | rfl | rfl | rfl | rfl | rfl | rfl | rfl | rfl | rfl | rfl | rfl | rfl
  all_goals decide
 ·rw [ZmZ h];simp
theorem ZPD (b:Zb) (h:b.length<=4):Zco b < 4294967296:=by
 unfold Zco
 match b,h with
 | [],_=>simp [ZeK]
 | [a],_=>rw [ZcX,ZeK];have:=a.toNat_lt;omega
 | [a,c],_=>rw [ZcX,ZcX,ZeK];have:=a.toNat_lt;have:=c.toNat_lt;omega
 | [a,c,d],_=>rw [ZcX,ZcX,ZcX,ZeK];have:=a.toNat_lt;have:=c.toNat_lt;have:=d.toNat_lt;omega
 | [a,c,d,e],_=>rw [ZcX,ZcX,ZcX,ZcX,ZeK];have:=a.toNat_lt;have:=c.toNat_lt;have:=d.toNat_lt;have:=e.toNat_lt;omega
def Zev (id:Int) (W:Nat) (b:Zb):Zm×Nat×Bool:=if b.length < W then (⟨id,0,[],[],[]⟩,0,false) else (⟨id,Zco (b.take W),[],[],[]⟩,W,true)
def ZgA (id:Int) (b:Zb):Zm×Nat×Bool :=
 if (Zac b).2.2=0 then (⟨id,0,(Zac b).1,(Zac (b.drop (Zac b).2.1)).1,[]⟩,(Zac b).2.1+(Zac (b.drop (Zac b).2.1)).2.1,(Zac (b.drop (Zac b).2.1)).2.2 == 0) else (⟨id,0,[],[],[]⟩,0,false)
def ZcE (k id:Int) (b:Zb):Zm×Nat×Bool :=
 if k=1 then Zev id 1 b else if k=2 then Zev id 2 b else if k=3 then Zev id 4 b
 else if k=4 then (⟨id,(ZS b).1,[],[],[]⟩,(ZS b).2.1,(ZS b).2.2 == 0)
 else if k=5 then (⟨id,0,(Zac b).1,[],[]⟩,(Zac b).2.1,(Zac b).2.2 == 0)
 else if k=6 then (⟨id,0,[],[],(ZaH b).1⟩,(ZaH b).2.1,(ZaH b).2.2 == 0)
 else if k=7 then ZgA id b else (⟨id,0,[],[],[]⟩,0,true)
def ZcF (id:Int) (b:Zb):Zm×Nat×Bool:=ZcE (Zbm id) id b
def Zcv (f:Bool) (x:Zm×Nat×Bool):AVal:=.tup [.agg [.int .i64 x.1.id,.int .i64 x.1.num,.str x.1.text,.str x.1.pair,.lst f (x.1.data.map Zc)],.int .i64 (x.2.1:Nat),.bool x.2.2]
theorem ZkB (b:Zb):(ZaH b).2.1<=b.length/\(ZaH b).1.length<=b.length:=by
 unfold ZaH
 by_cases h:b.length < 2\/b.length - 2 < Zco (b.take 2)
 ·rw [if_pos h];simp
 ·rw [if_neg h]
  simp only [not_or] at h
  simp;omega
theorem Zhz (b:Zb):(Zac b).2.1<=b.length/\((Zac b).2.2≠0->(Zac b).1=[]/\(Zac b).2.1=0):=by
 have hd:=ZkB b
 unfold Zac
 by_cases h:(ZaH b).2.2≠0
 ·rw [if_pos h];simp
 ·rw [if_neg h]
  by_cases ht:ZeE (ZaH b).1=true
  ·rw [if_pos ht];exact ⟨hd.1,fun h'=>absurd h' h⟩
  ·rw [if_neg ht];simp
theorem Zn1 (id:Int) (b:Zb) (hl:b.length<=140737488355328) (k:Int) (W:Nat) (hk:Zbm id=k) (hW:(k=1/\W=1)\/(k=2/\W=2)\/(k=3/\W=4)):E 110 [.int .i64 id,ZJ b] []=some (Zcv true (Zev id W b),[]):=by
 have hC:=fun σ sq own=>Zjp σ sq own id
 rw [hk] at hC
 have hG:=fun σ sq own f=>Zlw σ sq own (b.take W) (by simp;omega) f
 have hg:=ZPD (b.take W) (by simp;omega)
 unfold Zev
 generalize Zco (b.take W)=g at *
 have hi:IntKind.i64.wrap (g:Int)=(g:Int):=Zb1 (by omega) (by omega)
 have hw:∀ W:Nat,W<=b.length->∀ (σ:Za) (kk:IntKind),ZbO σ 1 (.lst false (b.map Zc)) none (some (.int kk (W:Int))) none=some (.lst false ((b.take W).map Zc),σ,{}):=fun W hW σ kk=>by
  have:=ZiE σ 1 b Zc kk (W:Int) (by omega) (by omega)
  exact this
 have z1:((1:Nat):Int)=1:=rfl
 have z2:((2:Nat):Int)=2:=rfl
 have z4:((4:Nat):Int)=4:=rfl
 rcases hW with ⟨rfl,rfl⟩ | ⟨rfl,rfl⟩ | ⟨rfl,rfl⟩
 ·have w1:IntKind.i64.wrap (1 - 1)=0:=rfl
  have w2:IntKind.i64.wrap (1*2 ^ min (Int.toNat 0) IntKind.i64.bits)=1:=rfl
  have ng:¬((0:Int) < 0):=by decide
  by_cases h:b.length < 1
  ·have h':(b.length:Int) < 1:=by omega
   rw [Zg (by rfl) Zed,if_pos h]
   simp -implicitDefEqProofs only [EQA,Zq,Nat.reduceAdd,Nat.reduceLT,Nat.reduceLeDiff,Nat.reduceEqDiff,Nat.reduceBEq,ZaG,reduceCtorEq,↓reduceIte,Zd,ZdJ,Zc7,ZdF,oI,oN,ZJ,hC,w1,w2,ng,h',Zcv,AVal.cells]
   rfl
  ·have h':¬(b.length:Int) < 1:=by omega
   have hs:=hw 1 (by omega)
   rw [z1] at hs
   have e0:((0:Int) == 0)=true:=rfl
   rw [Zg (by rfl) Zed,if_neg h]
   simp -implicitDefEqProofs only [EQA,Zq,Nat.reduceAdd,Nat.reduceLT,Nat.reduceLeDiff,Nat.reduceEqDiff,Nat.reduceBEq,ZaG,reduceCtorEq,↓reduceIte,Zd,ZdJ,Zc7,ZdF,oI,oN,ZJ,hC,w1,w2,ng,h',hs,hG,hi,Zcv,AVal.cells]
   rfl
 ·have w1:IntKind.i64.wrap (2 - 1)=1:=rfl
  have w2:IntKind.i64.wrap (1*2 ^ min (Int.toNat 1) IntKind.i64.bits)=2:=rfl
  have ng:¬((1:Int) < 0):=by decide
  by_cases h:b.length < 2
  ·have h':(b.length:Int) < 2:=by omega
   rw [Zg (by rfl) Zed,if_pos h]
   simp -implicitDefEqProofs only [EQA,Zq,Nat.reduceAdd,Nat.reduceLT,Nat.reduceLeDiff,Nat.reduceEqDiff,Nat.reduceBEq,ZaG,reduceCtorEq,↓reduceIte,Zd,ZdJ,Zc7,ZdF,oI,oN,ZJ,hC,w1,w2,ng,h',Int.reduceBEq,Zcv,AVal.cells]
   rfl
  ·have h':¬(b.length:Int) < 2:=by omega
   have hs:=hw 2 (by omega)
   rw [z2] at hs
   have e0:((0:Int) == 0)=true:=rfl
   rw [Zg (by rfl) Zed,if_neg h]
   simp -implicitDefEqProofs only [EQA,Zq,Nat.reduceAdd,Nat.reduceLT,Nat.reduceLeDiff,Nat.reduceEqDiff,Nat.reduceBEq,ZaG,reduceCtorEq,↓reduceIte,Zd,ZdJ,Zc7,ZdF,oI,oN,ZJ,hC,w1,w2,ng,h',hs,hG,hi,Int.reduceBEq,Zcv,AVal.cells]
   rfl
 ·have w1:IntKind.i64.wrap (3 - 1)=2:=rfl
  have w2:IntKind.i64.wrap (1*2 ^ min (Int.toNat 2) IntKind.i64.bits)=4:=rfl
  have ng:¬((2:Int) < 0):=by decide
  by_cases h:b.length < 4
  ·have h':(b.length:Int) < 4:=by omega
   rw [Zg (by rfl) Zed,if_pos h]
   simp -implicitDefEqProofs only [EQA,Zq,Nat.reduceAdd,Nat.reduceLT,Nat.reduceLeDiff,Nat.reduceEqDiff,Nat.reduceBEq,ZaG,reduceCtorEq,↓reduceIte,Zd,ZdJ,Zc7,ZdF,oI,oN,ZJ,hC,w1,w2,ng,h',Int.reduceBEq,Zcv,AVal.cells]
   rfl
  ·have h':¬(b.length:Int) < 4:=by omega
   have hs:=hw 4 (by omega)
   rw [z4] at hs
   have e0:((0:Int) == 0)=true:=rfl
   rw [Zg (by rfl) Zed,if_neg h]
   simp -implicitDefEqProofs only [EQA,Zq,Nat.reduceAdd,Nat.reduceLT,Nat.reduceLeDiff,Nat.reduceEqDiff,Nat.reduceBEq,ZaG,reduceCtorEq,↓reduceIte,Zd,ZdJ,Zc7,ZdF,oI,oN,ZJ,hC,w1,w2,ng,h',hs,hG,hi,Int.reduceBEq,Zcv,AVal.cells]
   rfl
theorem ZFa (id:Int) (b:Zb) (hl:b.length<=140737488355328):∃ f,E 110 [.int .i64 id,ZJ b] []=some (Zcv f (ZcF id b),[]):=by
 unfold ZcF
 have hC:=fun σ sq own=>Zjp σ sq own id
 have hGV:=fun σ sq own f=>Znn σ sq own f b (by omega)
 have hGT:=fun σ sq own f=>ZhH σ sq own f b hl
 have hGD:=fun σ sq own f=>ZjT σ sq own f b hl
 have z0:((0:Nat):Int)=0:=rfl
 rcases Zn9 id with hk | hk | hk | hk | hk | hk | hk | hk
 ·refine ⟨true,?_⟩
  rw [hk] at hC ⊢
  rw [show ZcE 0 id b=(⟨id,0,[],[],[]⟩,0,true) from rfl,Zg (by rfl) Zed]
  have e0:((0:Int) == 0)=true:=rfl
  simp -implicitDefEqProofs only [EQA,Zq,Nat.reduceAdd,Nat.reduceLT,Nat.reduceLeDiff,Nat.reduceEqDiff,Nat.reduceBEq,reduceCtorEq,↓reduceIte,Zd,ZdJ,Zc7,ZdF,oI,oN,ZJ,hC,Int.reduceBEq,Zcv,AVal.cells]
  rfl
 ·rw [hk];exact ⟨true,Zn1 id b hl 1 1 hk (by simp)⟩
 ·rw [hk];exact ⟨true,Zn1 id b hl 2 2 hk (by simp)⟩
 ·rw [hk];exact ⟨true,Zn1 id b hl 3 4 hk (by simp)⟩
 ·refine ⟨true,?_⟩
  rw [hk] at hC ⊢
  rw [show ZcE 4 id b=(⟨id,(ZS b).1,[],[],[]⟩,(ZS b).2.1,(ZS b).2.2 == 0) from rfl,Zg (by rfl) Zed]
  unfold gvT at hGV
  simp -implicitDefEqProofs only [EQA,Zq,Nat.reduceAdd,Nat.reduceLT,Nat.reduceLeDiff,Nat.reduceEqDiff,Nat.reduceBEq,reduceCtorEq,↓reduceIte,Zd,ZdJ,Zc7,ZdF,oI,oN,ZJ,hC,hGV,Int.reduceBEq,Zcv,AVal.cells]
 ·refine ⟨true,?_⟩
  rw [hk] at hC ⊢
  rw [show ZcE 5 id b=(⟨id,0,(Zac b).1,[],[]⟩,(Zac b).2.1,(Zac b).2.2 == 0) from rfl,Zg (by rfl) Zed]
  unfold gtT at hGT
  simp -implicitDefEqProofs only [EQA,Zq,Nat.reduceAdd,Nat.reduceLT,Nat.reduceLeDiff,Nat.reduceEqDiff,Nat.reduceBEq,reduceCtorEq,↓reduceIte,Zd,ZdJ,Zc7,ZdF,oI,oN,ZJ,hC,hGT,Int.reduceBEq,Zcv,AVal.cells]
 ·refine ⟨false,?_⟩
  rw [hk] at hC ⊢
  rw [show ZcE 6 id b=(⟨id,0,[],[],(ZaH b).1⟩,(ZaH b).2.1,(ZaH b).2.2 == 0) from rfl,Zg (by rfl) Zed]
  unfold gdT at hGD
  simp -implicitDefEqProofs only [EQA,Zq,Nat.reduceAdd,Nat.reduceLT,Nat.reduceLeDiff,Nat.reduceEqDiff,Nat.reduceBEq,reduceCtorEq,↓reduceIte,Zd,ZdJ,Zc7,ZdF,oI,oN,ZJ,hC,hGD,Int.reduceBEq,Zcv,AVal.cells]
 ·refine ⟨true,?_⟩
  rw [hk] at hC ⊢
  rw [show ZcE 7 id b=ZgA id b from rfl,Zg (by rfl) Zed]
  unfold gtT at hGT
  unfold ZgA
  have hu:=Zhz b
  by_cases h:(Zac b).2.2=0
  ·have h':((Zac b).2.2 == 0)=true:=by simpa using h
   have hs:=fun σ kk=>Zfi σ b kk (((Zac b).2.1:Nat):Int) (by omega) (by omega)
   have e:((((Zac b).2.1:Nat):Int)).toNat=(Zac b).2.1:=rfl
   rw [e] at hs
   have hGT2:=fun σ sq own f=>ZhH σ sq own f (b.drop (Zac b).2.1) (by simp;omega)
   unfold gtT at hGT2
   have hu2:=Zhz (b.drop (Zac b).2.1)
   have hdl:(b.drop (Zac b).2.1).length<=b.length:=by simp
   have hw:IntKind.i64.wrap ((((Zac b).2.1:Nat):Int)+(((Zac (b.drop (Zac b).2.1)).2.1:Nat):Int))=(((Zac b).2.1+(Zac (b.drop (Zac b).2.1)).2.1:Nat):Int):=by
    rw [Zb1 (by omega) (by omega)];rfl
   rw [if_pos h]
   rw [h] at hGT
   have e0:((0:Int) == 0)=true:=rfl
   simp -implicitDefEqProofs only [EQA,Zq,Nat.reduceAdd,Nat.reduceLT,Nat.reduceLeDiff,Nat.reduceEqDiff,Nat.reduceBEq,reduceCtorEq,↓reduceIte,Zd,ZdJ,Zc7,ZdF,oI,oN,ZJ,hC,hGT,hs,hGT2,hw,Int.reduceBEq,Zcv,AVal.cells]
  ·have h':((Zac b).2.2 == 0)=false:=by simpa using h
   rw [if_neg h]
   obtain ⟨x1,x2⟩:=hu.2 h
   rw [x1,x2] at hGT
   simp -implicitDefEqProofs only [EQA,Zq,Nat.reduceAdd,Nat.reduceLT,Nat.reduceLeDiff,Nat.reduceEqDiff,Nat.reduceBEq,reduceCtorEq,↓reduceIte,Zd,ZdJ,Zc7,ZdF,oI,oN,ZJ,hC,hGT,h',Int.reduceBEq,Zcv,AVal.cells]
theorem ZOo (σ:Za) (sq own:Nat) (f:Bool) (id:Int) (b:Zb) (hl:b.length<=140737488355328):Zk E BY σ sq 110 own true [.int .i64 id,.lst f (b.map Zc)]=some (Zcv false (ZcF id b),σ,{}):=by
 obtain ⟨g,h⟩:=ZFa id b hl
 exact ZbB h (by kernel_rfl) rfl rfl rfl (fun _=>rfl) _ _ _
end
section
end
section
def Zqv (b:Bool):AVal:=.tup [.agg [.int .i64 0,.int .i64 0,.str [],.str [],.lst b []],.bool false]
theorem ZEe (l:Zb):kOk 1 (l.map Zc)=true:=by cases l <;> rfl
theorem ZMb (l:Zb) (h:l.length<=140737488355328):E 15 [.lst false (l.map Zc)] []=some (.sl 0 0 0 (l.map Zc).length,[.row 0 1 (l.map Zc)]):=by
 refine Zdo.2 ⟨1,?_⟩
 show ZhT 1 1 [.lst false (l.map Zc)] []=_
 have h1:(l.map Zc).length*1<=140737488355328/\kOk 1 (l.map Zc)=true:=⟨by simpa using h,ZEe l⟩
 simp only [ZhT,ZU]
 rw [if_pos h1];rfl
theorem Zj9 (σ:Za) (sq own:Nat) (l:Zb) (h:l.length<=140737488355328):Zk E BY σ sq 15 own true [.lst false (l.map Zc)]=some (.lst false (l.map Zc),σ,{}) :=
 Zq3 (bf:=BY) (ZMb l h) rfl rfl rfl σ sq own
theorem ZIV (p:Zm) (h:p.data.length<=140737488355328):E 57 [Zj p] []=some (Zj p,[]):=by
 have hC:=fun σ sq own=>Zj9 σ sq own p.data h
 rw [Zg (by rfl) ZMJ]
 simp -implicitDefEqProofs only [EQA,ZE,Zq,Nat.reduceAdd,Nat.reduceLT,Nat.reduceLeDiff,Nat.reduceEqDiff,Nat.reduceBEq,↓reduceIte,Zd,Zz0,Zpd,ZJw,oI,oN,ZJ,Zj,Zbu,hC]
theorem Zz4 (σ:Za) (sq own:Nat) (p:Zm) (h:p.data.length<=140737488355328):Zk E BY σ sq 57 own true [.agg [.int .i64 p.id,.int .i64 p.num,.str p.text,.str p.pair,.lst false (p.data.map Zc)]]=some (.agg [.int .i64 p.id,.int .i64 p.num,.str p.text,.str p.pair,.lst false (p.data.map Zc)],σ,{}) :=
 Zcp (ZIV p h) (by kernel_rfl) (by simp -implicitDefEqProofs only [ZcS,Zbq,eq_self,ZJ,Zj,Zbu]) (by simp -implicitDefEqProofs only [ZcS,ZE,Zbq,eq_self,ZJ,Zj,Zbu]) rfl (fun _=>rfl) _ _ _ _
def ZgM (id:Int):List Zm->AVal
 | []=>Zqv true
 | p::r=>if p.id == id then .tup [Zj p,.bool true] else ZgM id r
theorem Zt3 (l:List Zm) (hl:l.length<=9223372036854775807) (hd:∀ p ∈ l,p.data.length<=140737488355328) (id:Int):∀ (r:List Zm) (i:Nat),l.drop i=r ->
  Zko 0 [(10,.int .i64 i),(9,.int .i64 l.length),(8,.lst false (l.map Zj)),(4,.ref 0 0),(0,.int .i64 id)] [.var [.int .i64 0,.int .i64 0,.str [],.str [],.lst true []]]=some (ZgM id r,[])
 | [],i,h=>by
  have h1:=Zc2 h
  unfold Zko
  rw [Zaa,ZgM]
  simp -implicitDefEqProofs only [EQA,Zq,Nat.reduceAdd,Nat.reduceLT,Nat.reduceLeDiff,Nat.reduceEqDiff,reduceCtorEq,↓reduceIte,Zd,ZtC,ZDw,ZoI,Zqt,Zit,oI,oN,h1,Zqv,Zae,AVal.cells]
 | p::r,i,h=>by
  have ih:=Zt3 l hl hd id r (i+1) (Z9 h).2.1
  have h1:(i:Int) < l.length:=by have:=(Z9 h).2.2;omega
  have e1:=iad (Z9 h).1 Zj (k:=5) rfl
  have e3:=Zdc h1 hl
  have hC:=fun σ sq own=>Zz4 σ sq own p (hd p (List.mem_of_getElem? (Z9 h).1))
  unfold Zko at ih ⊢
  rw [Zaa,ZgM]
  cases hb:(p.id == id)
  ·simp -implicitDefEqProofs only [EQA,ZE,Z4,Zck,Nat.reduceAdd,Nat.reduceLT,Nat.reduceLeDiff,Nat.reduceEqDiff,Nat.reduceBEq,reduceCtorEq,↓reduceIte,gcT,gcA,ZA,Zy,Zn,Zu,Z0,Zp,ZT,ZH,ZP,Zqt,Zit,oI,oN,ZJ,Zj,Zbu,h1,e1,e3,hb]
   exact ih
  ·simp -implicitDefEqProofs only [EQA,ZE,Zq,Nat.reduceAdd,Nat.reduceLT,Nat.reduceLeDiff,Nat.reduceEqDiff,Nat.reduceBEq,reduceCtorEq,↓reduceIte,Zd,ZtC,Zqt,Zit,oI,oN,ZJ,Zj,Zbu,h1,e1,hb,hC]
theorem ZOu (l:List Zm) (hl:l.length<=9223372036854775807) (hd:∀ p ∈ l,p.data.length<=140737488355328) (id:Int):E 33 [.int .i64 id,Zaz l] []=some (ZgM id l,[]):=by
 have:=Zt3 l hl hd id l 0 rfl
 have z0:((0:Nat):Int)=0:=rfl
 rw [z0] at this
 unfold Zko at this
 rw [Zg (by rfl) ZFK]
 simp -implicitDefEqProofs only [EQA,Z4,Zck,Nat.reduceLT,Nat.reduceEqDiff,Nat.reduceBEq,reduceCtorEq,↓reduceIte,gcT,gcA,ZA,Zy,Zn,Zu,Z0,Zp,ZT,ZH,ZP,ZDg,Zqa,oI,Zaz]
 exact this
def ZdZ (id:Int) (l:List Zm):Option Zm:=l.find? (fun p=>p.id == id)
def Zm8 (b:Bool):Option Zm->AVal
 | none=>Zqv b
 | some p=>.tup [Zj p,.bool true]
theorem Zvh (id:Int):∀ l:List Zm,ZgM id l=Zm8 true (ZdZ id l)
 | []=>rfl
 | p::r=>by
  have ih:=Zvh id r
  unfold ZdZ at ih ⊢
  rw [ZgM,List.find?_cons]
  cases h:(p.id == id)
  ·simpa using ih
  ·rfl
theorem ZId (σ:Za) (sq own:Nat) (l:List Zm) (hl:l.length<=9223372036854775807) (hd:∀ p ∈ l,p.data.length<=140737488355328) (id:Int):Zk E BY σ sq 33 own true [.int .i64 id,.lst false (l.map Zj)]=some (Zm8 false (ZdZ id l),σ,{}):=by
 have h:=ZOu l hl hd id
 rw [Zvh] at h
 cases hf:ZdZ id l with
 | none=>rw [hf] at h;exact ZbB h (by kernel_rfl) rfl rfl rfl (fun _=>rfl) σ sq own
 | some p =>
  rw [hf] at h
  exact ZbB h (by kernel_rfl) rfl rfl rfl (fun _=>rfl) σ sq own
def Zfe:Zm:=⟨0,0,[],[],[]⟩
theorem ZMW (o:Option Zm):Zm8 false o=.tup [.agg [.int .i64 (o.getD Zfe).id,.int .i64 (o.getD Zfe).num,.str (o.getD Zfe).text,.str (o.getD Zfe).pair,.lst false ((o.getD Zfe).data.map Zc)],.bool o.isSome]:=by
 cases o <;> rfl
end
section
def ZhY (id w:Int):Bool:=id == 38 || (id == 11 && w == 3)
def Zfr (id num:Int):Bool:=if id == 11 || id == 33 || id == 35 || id == 39 then num != 0 else Zbm id != 1 || decide (num<=1)
theorem ZAx (id w:Int):E 111 [.int .i64 id,.int .i64 w] []=some (.bool (ZhY id w),[]):=by
 rw [Zg (by rfl) ZzM]
 unfold ZhY
 cases h1:(id == 38) <;> cases h2:(id == 11)
 all_goals simp -implicitDefEqProofs only [EQA,Nat.reduceLT,Nat.reduceEqDiff,ZF,Zaw,unG,reduceCtorEq,↓reduceIte,ZHR,ZoN,ZBj,oI,h1,h2]
theorem Zxi (σ:Za) (sq own:Nat) (id w:Int):Zk E BY σ sq 111 own true [.int .i64 id,.int .i64 w]=some (.bool (ZhY id w),σ,{}) :=
 ZbB (ZAx id w) (by kernel_rfl) rfl rfl rfl (fun _=>rfl) _ _ _
theorem ZLi (p:Zm):E 112 [Zj p] []=some (.bool (Zfr p.id p.num),[]):=by
 have hC:=fun σ sq own=>Zjp σ sq own p.id
 rw [Zg (by rfl) ZHX]
 unfold Zfr
 cases h1:(p.id == 11) <;> cases h2:(p.id == 33) <;> cases h3:(p.id == 35) <;> cases h4:(p.id == 39)
 all_goals simp -implicitDefEqProofs only [EQA,ZE,Z4,ZLO,Zdt,Nat.reduceLT,Nat.reduceEqDiff,Nat.reduceBEq,ZF,Zaw,unG,ite_self,↓reduceIte,ZAj,Znr,ZFn,oI,ZJ,Zj,Zbu,hC,h1,h2,h3,h4]
theorem ZPP (σ:Za) (sq own:Nat) (p:Zm):Zk E BY σ sq 112 own true [.agg [.int .i64 p.id,.int .i64 p.num,.str p.text,.str p.pair,.lst false (p.data.map Zc)]]=some (.bool (Zfr p.id p.num),σ,{}) :=
 ZbB (ZLi p) (by kernel_rfl) rfl rfl rfl (fun _=>rfl) _ _ _
end
section
theorem ZrJ:∀ (b:Zb) (i n:Nat),(gvA i n b).2.2=0->i < (gvA i n b).2.1/\(gvA i n b).2.1<=i+b.length
 | [],i,n,h=>by
  unfold gvA at h
  split at h <;> simp at h
 | c::r,i,n,h=>by
  unfold gvA at h ⊢
  split at h
  ·simp at h
  ·rename_i h4
   rw [if_neg h4]
   split at h
   ·rename_i hc
    rw [if_pos hc]
    split at h
    ·simp at h
    ·rename_i h0
     rw [if_neg h0]
     simp
   ·rename_i hc
    rw [if_neg hc]
    have:=ZrJ r (i+1) _ h
    simp only [List.length_cons]
    omega
theorem Zm7 (b:Zb) (h:(ZS b).2.2=0):0 < (ZS b).2.1/\(ZS b).2.1<=b.length:=by
 have:=ZrJ b 0 0 h
 simpa [ZS] using this
theorem ZOQ (id:Int) (b:Zb):(ZcF id b).1.id=id:=by
 unfold ZcF ZcE Zev ZgA
 repeat' split
 all_goals rfl
theorem ZOs (id:Int) (b:Zb):(ZcF id b).1.data.length<=b.length:=by
 unfold ZcF ZcE Zev ZgA
 repeat' split
 all_goals first
  | exact (ZkB b).2
  | exact Nat.zero_le _
theorem ZvR:∀ (b:Zb) (i n:Nat),(gvA i n b).2.1<=i+b.length
 | [],i,n=>by unfold gvA;split <;> simp
 | c::r,i,n=>by
  unfold gvA
  repeat' split
  all_goals simp only [List.length_cons]
  all_goals first
   | omega
   | (have:=ZvR r (i+1) (n+c.toNat % 128*128 ^ i);omega)
theorem Zt2 (b:Zb):(ZS b).2.1<=b.length:=by simpa [ZS] using ZvR b 0 0
theorem Zvz (id:Int) (b:Zb):(ZcF id b).2.1<=b.length:=by
 have h1:=(Zhz b).1
 have h2:=(Zhz (b.drop (Zac b).2.1)).1
 have h3:=Zt2 b
 have h4:=(ZkB b).1
 simp only [List.length_drop] at h2
 unfold ZcF ZcE Zev ZgA
 repeat' split
 all_goals simp only
 all_goals omega
def ZkT (w:Int) (l:List Zm) (id:Int) (u:Nat) (v:Zm×Nat×Bool):Zm×Nat×Int :=
 if v.2.2=false then (v.1,0,129) else if ((ZdZ id l).isSome && !ZhY id w)=true then (v.1,0,130) else
 if Zfr v.1.id v.1.num=true then (v.1,u+v.2.1,0) else if (id == 35)=true then (v.1,0,148) else (v.1,0,130)
def ZbG (w:Int) (b:Zb) (l:List Zm):Zm×Nat×Int :=
 if (ZS b).2.2≠0\/Zdm ((ZS b).1:Nat) w=false then (Zfe,0,129)
 else ZkT w l ((ZS b).1:Nat) (ZS b).2.1 (ZcF ((ZS b).1:Nat) (b.drop (ZS b).2.1))
def Zc5 (f:Bool) (x:Zm×Nat×Int):AVal:=.tup [.agg [.int .i64 x.1.id,.int .i64 x.1.num,.str x.1.text,.str x.1.pair,.lst f (x.1.data.map Zc)],.int .i64 (x.2.1:Nat),.int .i64 x.2.2]
theorem Zsu (w:Int) (b:Zb) (l:List Zm) (hl:b.length<=140737488355328) (hl2:l.length<=9223372036854775807) (hd:∀ p ∈ l,p.data.length<=140737488355328):∃ f,E 99 [.int .i64 w,ZJ b,Zaz l] []=some (Zc5 f (ZbG w b l),[]):=by
 have hGV:=fun σ sq own f=>Znn σ sq own f b (by omega)
 have hu:=Zm7 b
 unfold ZbG
 rcases hx:ZS b with ⟨n,u,e⟩
 rw [hx] at hGV hu
 unfold gvT at hGV
 simp only at hGV hu ⊢
 have hM:=fun σ sq own=>ZCw σ sq own (n:Int) w
 by_cases he:e=0
 ·subst he
  have n0:((0:Int) != 0)=false:=rfl
  cases hm:Zdm (n:Int) w
  ·refine ⟨true,?_⟩
   rw [hm] at hM
   have hc:(0:Int)≠0\/false=false:=Or.inr rfl
   rw [if_pos hc,Zg (by rfl) Zf9]
   unfold Zc5 Zfe
   simp -implicitDefEqProofs only [EQA,Zq,Nat.reduceAdd,Nat.reduceLT,Nat.reduceLeDiff,Nat.reduceEqDiff,Nat.reduceBEq,unA,ZF,unG,reduceCtorEq,↓reduceIte,Zd,ZfI,ZeB,Zgl,oI,oN,ZJ,Zaz,hGV,hM,n0,AVal.cells]
   rfl
  ·refine ⟨false,?_⟩
   rw [hm] at hM
   have hc:¬((0:Int)≠0\/true=false):=by simp
   rw [if_neg hc]
   have hul:=(hu rfl).2
   have hs:=fun σ kk=>Zfi σ b kk ((u:Nat):Int) (by omega) (by omega)
   have e2:(((u:Nat):Int)).toNat=u:=rfl
   rw [e2] at hs
   have hV:=fun σ sq own f=>ZOo σ sq own f (n:Int) (b.drop u) (by simp;omega)
   have hF:=fun σ sq own=>ZId σ sq own l hl2 hd (n:Int)
   have hO:=fun σ sq own=>Zxi σ sq own (n:Int) w
   have hid:=ZOQ (n:Int) (b.drop u)
   have hused:(ZcF (n:Int) (b.drop u)).2.1<=b.length:=Nat.le_trans (Zvz _ _) (by simp)
   have hT:=fun σ sq own=>ZPP σ sq own (ZcF (n:Int) (b.drop u)).1
   unfold Zcv at hV
   simp only [ZMW] at hF
   unfold ZkT
   generalize ZcF (n:Int) (b.drop u)=v at *
   obtain ⟨p,m,ok⟩:=v
   simp only at hV hT hid hused ⊢
   have hw:IntKind.i64.wrap ((u:Int)+(m:Int))=((u+m:Nat):Int):=by
    rw [Zb1 (by omega) (by omega)];rfl
   generalize (ZdZ (n:Int) l).getD Zfe=q at *
   cases ok
   ·rw [Zg (by rfl) Zf9]
    unfold Zc5
    simp -implicitDefEqProofs only [EQA,Zq,Nat.reduceAdd,Nat.reduceLT,Nat.reduceLeDiff,Nat.reduceEqDiff,Nat.reduceBEq,unA,ZF,unG,reduceCtorEq,↓reduceIte,Zd,ZfI,ZeB,Zgl,oI,oN,ZJ,Zaz,hGV,hM,hs,hV,hF,n0,AVal.cells]
    rfl
   ·cases h1:(ZdZ (n:Int) l).isSome <;> rw [h1] at hF
    ·cases h3:Zfr p.id p.num <;> rw [h3] at hT
     ·cases h4:((n:Int) == 35)
      all_goals rw [Zg (by rfl) Zf9]
      all_goals unfold Zc5
      all_goals simp -implicitDefEqProofs only [EQA,Zq,Nat.reduceAdd,Nat.reduceLT,Nat.reduceLeDiff,Nat.reduceEqDiff,Nat.reduceBEq,unA,ZF,Zaw,unG,reduceCtorEq,↓reduceIte,Zd,ZfI,ZeB,Zgl,oI,oN,ZJ,Zaz,hGV,hM,hs,hV,hF,hT,h4,n0,AVal.cells]
      all_goals rfl
     ·rw [Zg (by rfl) Zf9]
      unfold Zc5
      simp -implicitDefEqProofs only [EQA,Zq,Nat.reduceAdd,Nat.reduceLT,Nat.reduceLeDiff,Nat.reduceEqDiff,Nat.reduceBEq,unA,ZF,Zaw,unG,reduceCtorEq,↓reduceIte,Zd,ZfI,ZeB,Zgl,oI,oN,ZJ,Zaz,hGV,hM,hs,hV,hF,hT,hw,n0,AVal.cells]
    ·cases h2:ZhY (n:Int) w <;> rw [h2] at hO
     ·rw [Zg (by rfl) Zf9]
      unfold Zc5
      simp -implicitDefEqProofs only [EQA,Zq,Nat.reduceAdd,Nat.reduceLT,Nat.reduceLeDiff,Nat.reduceEqDiff,Nat.reduceBEq,unA,ZF,unG,reduceCtorEq,↓reduceIte,Zd,ZfI,ZeB,Zgl,oI,oN,ZJ,Zaz,hGV,hM,hs,hV,hF,hO,n0,AVal.cells]
      rfl
     ·cases h3:Zfr p.id p.num <;> rw [h3] at hT
      ·cases h4:((n:Int) == 35)
       all_goals rw [Zg (by rfl) Zf9]
       all_goals unfold Zc5
       all_goals simp -implicitDefEqProofs only [EQA,Zq,Nat.reduceAdd,Nat.reduceLT,Nat.reduceLeDiff,Nat.reduceEqDiff,Nat.reduceBEq,unA,ZF,unG,reduceCtorEq,↓reduceIte,Zd,ZfI,ZeB,Zgl,oI,oN,ZJ,Zaz,hGV,hM,hs,hV,hF,hT,hO,h4,n0,AVal.cells]
       all_goals rfl
      ·rw [Zg (by rfl) Zf9]
       unfold Zc5
       simp -implicitDefEqProofs only [EQA,Zq,Nat.reduceAdd,Nat.reduceLT,Nat.reduceLeDiff,Nat.reduceEqDiff,Nat.reduceBEq,unA,ZF,unG,reduceCtorEq,↓reduceIte,Zd,ZfI,ZeB,Zgl,oI,oN,ZJ,Zaz,hGV,hM,hs,hV,hF,hT,hO,hw,n0,AVal.cells]
 ·refine ⟨true,?_⟩
  have hc:e≠0\/Zdm (n:Int) w=false:=Or.inl he
  have n1:(e != 0)=true:=by simpa using he
  rw [if_pos hc,Zg (by rfl) Zf9]
  unfold Zc5 Zfe
  simp -implicitDefEqProofs only [EQA,Zq,Nat.reduceAdd,Nat.reduceLT,Nat.reduceLeDiff,Nat.reduceEqDiff,Nat.reduceBEq,ZF,Zaw,reduceCtorEq,↓reduceIte,Zd,ZfI,ZeB,Zgl,oI,oN,ZJ,Zaz,hGV,n1,AVal.cells]
  rfl
end
section
def ZdR (w:Int):Nat->Zb->List Zm->List Zm×Int
 | _,[],l=>(l,0)
 | 0,_::_,_=>([],129)
 | n+1,c::r,l=>if (ZbG w (c::r) l).2.2=0 then ZdR w n ((c::r).drop (ZbG w (c::r) l).2.1) (l++[(ZbG w (c::r) l).1]) else ([],(ZbG w (c::r) l).2.2)
def ZV (w:Int) (b:Zb):List Zm×Nat×Int :=
 if (ZS b).2.2≠0\/((ZS b).1:Int) > (b.length:Int) - ((ZS b).2.1:Nat) then ([],0,129)
 else if (ZdR w (ZS b).1 ((b.take ((ZS b).2.1+(ZS b).1)).drop (ZS b).2.1) []).2=0 then
  ((ZdR w (ZS b).1 ((b.take ((ZS b).2.1+(ZS b).1)).drop (ZS b).2.1) []).1,(ZS b).2.1+(ZS b).1,0)
 else ([],0,(ZdR w (ZS b).1 ((b.take ((ZS b).2.1+(ZS b).1)).drop (ZS b).2.1) []).2)
def Zik (u:Nat) (x:List Zm×Int):AVal×Za:=if x.2=0 then (.tup [ZeW (x.1.map Zj),.int .i64 (u:Nat),.int .i64 0],ZeG 5 (x.1.map Zj)) else (.tup [.lst true [],.int .i64 0,.int .i64 x.2],[])
theorem Zt9 {w:Int} {b:Zb} {l:List Zm} (h:(ZbG w b l).2.2=0):0 < (ZbG w b l).2.1/\(ZbG w b l).2.1<=b.length/\(ZbG w b l).1.data.length<=b.length:=by
 unfold ZbG at h ⊢
 split at h
 ·simp at h
 ·rename_i hc
  rw [if_neg hc]
  have hc0:(ZS b).2.2=0:=Decidable.byContradiction fun h=>hc (Or.inl h)
  have h1:=Zm7 b hc0
  have h2:=Zvz ((ZS b).1:Nat) (b.drop (ZS b).2.1)
  have h3:=ZOs ((ZS b).1:Nat) (b.drop (ZS b).2.1)
  simp only [List.length_drop] at h2 h3
  unfold ZkT at h ⊢
  generalize ZcF ((ZS b).1:Nat) (b.drop (ZS b).2.1)=v at *
  repeat' (split at h)
  all_goals first
   | (simp at h;done)
   | skip
  rename_i a1 a2 a3
  rw [if_neg a1,if_neg a2,if_pos a3]
  simp only
  omega
theorem ZlT {xs:List AVal} (h:0 < xs.length):ZeW xs=.sl 0 0 0 xs.length:=by
 cases xs with
 | nil=>simp at h
 | cons x xs=>rfl
theorem Zmp {k:Nat} {xs:List AVal} (h:0 < xs.length):ZeG k xs=[.row 0 k xs]:=by
 cases xs with
 | nil=>simp at h
 | cons x xs=>rfl
theorem ZM2 (l:List Zm):ZlR (l.map Zj)=true:=by
 unfold ZlR
 rw [List.all_eq_true]
 intro x hx
 obtain ⟨p,_,rfl⟩:=List.mem_map.1 hx
 rfl
theorem ZIG (b:Zb):(b.map Zc).all Zmf=true:=by
 rw [List.all_eq_true]
 intro x hx
 obtain ⟨p,_,rfl⟩:=List.mem_map.1 hx
 rfl
theorem Zw7 (σ:Za) (sq own:Nat) (f g:Bool) (w:Int) (b:Zb) (l:List Zm) (hl:b.length<=140737488355328) (hl2:l.length<=9223372036854775807) (hd:∀ p ∈ l,p.data.length<=140737488355328) :
  Zk E BY σ sq 99 own true [.int .i64 w,.lst f (b.map Zc),.lst g (l.map Zj)]=some (Zc5 false (ZbG w b l),σ,{}):=by
 obtain ⟨f',h⟩:=Zsu w b l hl hl2 hd
 exact ZbB h (by kernel_rfl) rfl rfl (by cases f' <;> rfl) (fun _=>rfl) _ _ _
theorem ZPv (σ:Za) (sq own:Nat) (f:Bool) (w:Int) (b:Zb) (l:List Zm) (hl:b.length<=140737488355328) (hl2:l.length<=9223372036854775807) (hd:∀ p ∈ l,p.data.length<=140737488355328) :
  Zk E BY (.row 0 5 (l.map Zj)::σ) sq 99 own true [.int .i64 w,.lst f (b.map Zc),.sl 0 0 0 (l.map Zj).length]=some (Zc5 false (ZbG w b l),.row 0 5 (l.map Zj)::σ,{ rd:=[0] }):=by
 obtain ⟨f',h⟩:=Zsu w b l hl hl2 hd
 refine ZCi (vs:=[.int .i64 w,ZJ b,Zaz l]) (by kernel_rfl) ?_ rfl rfl h (r':=Zc5 false (ZbG w b l)) (by cases f' <;> rfl) ?_ _ _
 ·simp [showAs,showA,ZcW,ZU,ZJ,Zaz]
  exact List.take_of_length_le (by simp)
 ·have h1:=ZM2 l
  have h2:=ZIG (ZbG w b l).1.data
  unfold Zds
  simp only [List.isEmpty_cons,Bool.not_false,Zc5,Zh5,Zh6,ZhU,List.all_cons,List.all_nil,ZaY,h2,Zgi,List.getElem?_cons_zero,h1,Bool.and_self]
theorem ZnA (w:Int) (n:Nat) (l:List Zm):ZdR w n [] l=(l,0):=by cases n <;> rfl
theorem Zpy (w:Int) (n:Nat) (c:UInt8) (r:Zb) (l:List Zm):ZdR w (n+1) (c::r) l=if (ZbG w (c::r) l).2.2=0 then ZdR w n ((c::r).drop (ZbG w (c::r) l).2.1) (l++[(ZbG w (c::r) l).1]) else ([],(ZbG w (c::r) l).2.2):=rfl
theorem ZPY (w:Int) (N U:Nat) (hU:U+N<=140737488355328) (l:List Zm) :
  Zig 0 [(10,.lst false []),(8,.int .i64 (U:Nat)),(7,.int .i64 (N:Nat)),(4,ZeW (l.map Zj)),(0,.int .i64 w)] (ZeG 5 (l.map Zj))=some (Zik (U+N) (l,0)):=by
 have hw:IntKind.i64.wrap ((U:Int)+(N:Int))=((U+N:Nat):Int):=by rw [Zb1 (by omega) (by omega)];rfl
 have h1:¬(((0:Nat):Int) > 0):=by simp
 unfold Zik Zig
 rw [Zaa]
 cases l with
 | nil =>
  simp -implicitDefEqProofs only [EQA,Zq,Nat.reduceLT,Nat.reduceEqDiff,reduceCtorEq,↓reduceIte,Zd,Zhs,Zrr,Zl4,Zh7,ZfP,oI,oN,Zfz,Zf4,hw,h1]
  try (simp [Zam,gcA,ZA,Zy,Zr,ZZ,Zn,Zu,Z0,Zp,ZT,Zf,Zl,ZH,ZP,List.range_succ])
 | cons p l =>
  generalize hX:(p::l).map Zj=X
  have hpos:0 < X.length:=by rw [<-hX];simp
  simp only [ZlT hpos,Zmp hpos]
  simp -implicitDefEqProofs only [EQA,Nat.reduceLT,Nat.reduceEqDiff,reduceCtorEq,↓reduceIte,Zhs,Zrr,Zl4,Zh7,ZfP,oI,oN,hw,h1]
  simp [Zam,gcA,ZA,Zy,Zr,ZZ,Zn,Zu,Z0,Zp,ZT,Zf,Zl,ZH,ZP]
theorem Zwg (w:Int) (N U:Nat) (hU:U+N<=140737488355328) (hN9:N<=1000000000):∀ (n:Nat) (b:Zb) (l:List Zm),b.length<=n->l.length+b.length<=N->(∀ p ∈ l,p.data.length<=140737488355328) ->
  Zig 0 [(10,.lst false (b.map Zc)),(8,.int .i64 (U:Nat)),(7,.int .i64 (N:Nat)),(4,ZeW (l.map Zj)),(0,.int .i64 w)] (ZeG 5 (l.map Zj))=some (Zik (U+N) (ZdR w n b l))
 | n,[],l,hb,hN,hd=>by
  rw [ZnA]
  exact ZPY w N U hU l
 | 0,c::r,l,hb,hN,hd=>by simp at hb
 | n+1,c::r,l,hb,hN,hd=>by
  rw [Zpy]
  generalize hB:c::r=b at *
  have hlen:0 < b.length:=by rw [<-hB];simp
  have hpos:((b.length:Nat):Int) > 0:=by omega
  have hC:=fun σ sq own f g=>Zw7 σ sq own f g w b l (by omega) (by omega) hd
  have hS:=fun σ sq own f=>ZPv σ sq own f w b l (by omega) (by omega) hd
  have hu:=Zt9 (w:=w) (b:=b) (l:=l)
  unfold Zc5 at hC hS
  rcases hx:ZbG w b l with ⟨p,m,e⟩
  rw [hx] at hC hS hu
  simp only at hC hS hu ⊢
  by_cases he:e=0
  ·subst he
   obtain ⟨u1,u2,u3⟩:=hu rfl
   have n0:((0:Int) != 0)=false:=rfl
   rw [if_pos rfl]
   have ih:=Zwg w N U hU hN9 n (b.drop m) (l++[p]) (by simp;omega) (by simp;omega) (by
    intro q hq
    rcases List.mem_append.1 hq with h | h
    ·exact hd q h
    ·simp at h;subst h;omega)
   have hs:=fun σ kk=>Zfi σ b kk ((m:Nat):Int) (by omega) (by omega)
   have e2:(((m:Nat):Int)).toNat=m:=rfl
   rw [e2] at hs
   generalize ZdR w n (b.drop m) (l++[p])=R at *
   unfold Zig at ih ⊢
   rw [Zaa]
   cases l with
   | nil =>
    simp only [List.map_nil] at hC
    simp only [List.nil_append,List.map_cons,List.map_nil,ZhV,Zid,Zfz,Zf4,List.length_cons,List.length_nil,Nat.zero_add,Zj,Zbu,ZJ] at ih ⊢
    simp -implicitDefEqProofs only [EQA,Z4,Zck,Nat.reduceAdd,Nat.reduceLT,Nat.reduceLeDiff,Nat.reduceEqDiff,Nat.reduceBEq,reduceCtorEq,ZU,↓reduceIte,gcT,gcA,ZA,Zy,Zn,Zu,Z0,Zp,ZT,ZH,ZP,Zh7,ZfP,oI,oN,hpos,hC,n0,hs,ZaF,kOk,viewAs,ZL,ZI,Zar,Zo,Nat.one_mul,AVal.cells]
    exact ih
   | cons a l =>
    have hXl:((a::l).map Zj).length=l.length+1:=by simp
    rw [List.map_append] at ih
    generalize hX:(a::l).map Zj=X at *
    have hXp:0 < X.length:=by omega
    have hXq:0 < (X++[p].map Zj).length:=by rw [List.length_append];omega
    simp only [ZlT hXp,Zmp hXp,ZlT hXq,Zmp hXq] at ih ⊢
    have hk:kOk 5 X=true:=by rw [<-hX];rfl
    have hb9:(X.length+1)*72<=140737488355328:=by simp at hN;omega
    try simp only [List.map_cons,List.map_nil,Zj,Zbu,ZJ,List.length_append,List.length_cons,List.length_nil,Nat.zero_add] at ih
    simp -implicitDefEqProofs only [EQA,Z4,Zck,Nat.reduceAdd,Nat.reduceLT,Nat.reduceLeDiff,Nat.reduceEqDiff,Nat.reduceBEq,reduceCtorEq,ZU,↓reduceIte,gcT,gcA,ZA,Zy,Zn,Zu,Z0,Zp,ZT,ZH,ZP,Zh7,ZfP,oI,oN,hpos,hS,n0,hs,hb9,ZaF,kOk,viewAs,ZL,ZI,Zar,Zo,AVal.cells]
    exact ih
  ·have n1:(e != 0)=true:=by simpa using he
   rw [if_neg he]
   unfold Zik Zig
   simp only
   rw [if_neg he,Zaa]
   cases l with
   | nil =>
    simp only [List.map_nil,Zfz,Zf4] at hC ⊢
    simp -implicitDefEqProofs only [EQA,Zq,Nat.reduceAdd,Nat.reduceLT,Nat.reduceLeDiff,Nat.reduceEqDiff,Nat.reduceBEq,reduceCtorEq,↓reduceIte,Zd,Zhs,Zh7,ZfP,oI,oN,hpos,hC,n1,AVal.cells]
    try (simp [Zam,gcA,ZA,Zy,Zr,ZZ,Zn,Zu,Z0,Zp,ZT,Zf,Zl,ZH,ZP,List.range_succ])
   | cons a l =>
    generalize hX:(a::l).map Zj=X at *
    have hXp:0 < X.length:=by rw [<-hX];simp
    simp only [ZlT hXp,Zmp hXp]
    simp -implicitDefEqProofs only [EQA,Zq,Nat.reduceAdd,Nat.reduceLT,Nat.reduceLeDiff,Nat.reduceEqDiff,Nat.reduceBEq,reduceCtorEq,↓reduceIte,Zd,Zhs,Zh7,ZfP,oI,oN,hpos,hS,n1,AVal.cells]
    try (simp [Zam,gcA,ZA,Zy,Zr,ZZ,Zn,Zu,Z0,Zp,ZT,Zf,Zl,ZH,ZP,List.range_succ])
theorem Zsw:∀ (b:Zb) (i n:Nat),i<=4->n < 128 ^ i->(gvA i n b).1 < 268435456
 | [],i,n,hi,hn=>by unfold gvA;split <;> simp
 | c::r,i,n,hi,hn=>by
  have ha:c.toNat % 128 < 128:=Nat.mod_lt _ (by decide)
  unfold gvA
  split
  ·simp
  ·rename_i h4
   have hb:=ZrV n i _ hn ha
   have hp:128 ^ (i+1)<=128 ^ 4:=Nat.pow_le_pow_right (by decide) (by omega)
   split
   ·split
    ·simp
    ·simp only;omega
   ·exact Zsw r (i+1) _ (by omega) hb
theorem Znp (b:Zb):(ZS b).1 < 268435456:=Zsw b 0 0 (by omega) (by simp)
def Zuv (x:List Zm×Nat×Int):AVal×Za:=(.tup [ZeW (x.1.map Zj),.int .i64 (x.2.1:Nat),.int .i64 x.2.2],ZeG 5 (x.1.map Zj))
theorem ZB0 (w:Int) (b:Zb) (hl:b.length<=140737488355328):E 87 [.int .i64 w,ZJ b] []=some (Zuv (ZV w b)):=by
 have hGV:=fun σ sq own f=>Znn σ sq own f b (by omega)
 have hu:=Zm7 b
 have hlt:=Znp b
 have hle:=Zt2 b
 unfold ZV Zuv
 rcases hx:ZS b with ⟨n,u,e⟩
 rw [hx] at hGV hu hlt hle
 unfold gvT at hGV
 simp only at hGV hu hlt hle ⊢
 have hw:IntKind.i64.wrap ((b.length:Int) - (u:Int))=(b.length:Int) - (u:Int):=Zb1 (by omega) (by omega)
 by_cases he:e=0
 ·subst he
  have n0:((0:Int) != 0)=false:=rfl
  by_cases hn:(n:Int) > (b.length:Int) - (u:Int)
  ·rw [if_pos (Or.inr hn),Zg (by rfl) ZnU]
   simp -implicitDefEqProofs only [EQA,Zq,Nat.reduceLT,Nat.reduceEqDiff,ZF,unG,reduceCtorEq,↓reduceIte,Zd,ZnR,Zij,Zhs,oI,ZJ,hGV,n0,hw,hn]
   simp []
   exact ⟨rfl,rfl⟩
  ·have hc:¬((0:Int)≠0\/(n:Int) > (b.length:Int) - (u:Int)):=by simpa using hn
   rw [if_neg hc,Zg (by rfl) ZnU]
   have hw2:IntKind.i64.wrap ((u:Int)+(n:Int))=((u+n:Nat):Int):=by rw [Zb1 (by omega) (by omega)];rfl
   have hs:=fun σ k1 k2=>ZuF σ b k1 k2 ((u:Nat):Int) ((u+n:Nat):Int) (by omega) (by omega) (by omega)
   have e1:(((u:Nat):Int)).toNat=u:=rfl
   have e2:(((u+n:Nat):Int)).toNat=u+n:=rfl
   rw [e1,e2] at hs
   have key:=Zwg w n u (by omega) (by omega) n ((b.take (u+n)).drop u) [] (by simp;omega) (by simp;omega) (by simp)
   generalize (b.take (u+n)).drop u=B at *
   unfold Zig at key
   simp only [List.map_nil,Zfz,Zf4] at key
   simp -implicitDefEqProofs only [EQA,Z4,Nat.reduceLT,Nat.reduceEqDiff,ZF,unG,reduceCtorEq,↓reduceIte,gcT,gcA,ZA,Zy,Zu,ZP,ZnR,Zij,oI,ZJ,hGV,n0,hw,hn,hw2,hs]
   rw [key]
   unfold Zik
   split <;> rfl
 ·have n1:(e != 0)=true:=by simpa using he
  rw [if_pos (Or.inl he),Zg (by rfl) ZnU]
  simp -implicitDefEqProofs only [EQA,Zq,Nat.reduceLT,Nat.reduceEqDiff,ZF,Zaw,reduceCtorEq,↓reduceIte,Zd,ZnR,Zij,Zhs,oI,ZJ,hGV,n1]
  simp []
  exact ⟨rfl,rfl⟩
theorem ZIv {σ:Za} {x:AVal} (h:ZaY x=true):ZL σ x=some (x,[])/\ZZ x=[]/\∀ ρ,Zl ρ x=x:=by
 cases x <;> simp [ZaY] at h <;> simp [ZL,ZI,ZZ,Zl]
theorem Zkx {σ:Za}:∀ {vs:List AVal},vs.all ZaY=true->viewAs σ vs=some (vs,[])/\Zr vs=[]/\∀ ρ,Zf ρ vs=vs
 | [],_=>⟨rfl,rfl,fun _=>rfl⟩
 | x::xs,h=>by
  simp only [List.all_cons,Bool.and_eq_true] at h
  obtain ⟨a1,a2,a3⟩:=ZIv (σ:=σ) h.1
  obtain ⟨b1,b2,b3⟩:=Zkx (σ:=σ) h.2
  refine ⟨by simp only [viewAs,a1,b1,List.append_nil],by simp only [Zr,a2,b2,List.append_nil],fun ρ=>by simp only [Zf,a3,b3]⟩
theorem ZyO {O:ZO} {bf:Nat->Bool} {f k:Nat} {args args':List AVal} {full vs:List AVal} (h:O f args' []=some (.tup (ZeW full::vs),ZeG k full)) (hv:vs.all ZaY=true) (hb:bf f=false) (hp:args.all Z7=true) (hn:args.map ZG=args') (σ:Za) (sq own:Nat):Zk O bf σ sq f own true args=some (.tup (.lst false full::vs),σ,{}):=by
 have hr:∀ sq,Zl (ZaA [] [] sq) (.tup (.lst false full::vs))=.tup (.lst false full::vs):=fun sq=>by
  simp only [Zl,Zf,(Zkx (σ:=[]) hv).2.2]
 rw [Zfo hb hp,hn,h]
 have : Zad true 0 (some (.tup (ZeW full::vs),ZeG k full))=some (.tup (.lst false full::vs),[]):=by
  unfold Zad
  rw [if_pos rfl]
  cases full with
  | nil =>
   obtain ⟨b1,b2,b3⟩:=Zkx (σ:=[]) hv
   simp [Zfz,Zf4,Zbn,viewR,viewAs,ZL,ZI,b1,Zo,gcA,ZA,Zy,Zr,ZZ,b2,Zf,Zl,b3,Zu]
  | cons x xs =>
   obtain ⟨b1,b2,b3⟩:=Zkx (σ:=[ZM.row 0 k (x::xs)]) hv
   simp only [ZhV,Zid]
   generalize x::xs=X at *
   simp [Zbn,viewR,viewAs,ZL,ZI,ZU,b1,Zo,gcA,ZA,Zy,Zr,ZZ,b2,Zf,Zl,b3,Zu]
 rw [this,Zg2 _ _ _ _ (hr sq)]
theorem ZjZ (σ:Za) (sq own:Nat) (f:Bool) (w:Int) (b:Zb) (hl:b.length<=140737488355328):Zk E BY σ sq 87 own true [.int .i64 w,.lst f (b.map Zc)]=some (.tup [.lst false ((ZV w b).1.map Zj),.int .i64 ((ZV w b).2.1:Nat),.int .i64 (ZV w b).2.2],σ,{}) :=
 ZyO (k:=5) (ZB0 w b hl) rfl (by kernel_rfl) rfl rfl _ _ _
end
section
end
section
structure Zeh where
 b:Zb
 short:Bool
def Zgx (b:Zb):Int:=IntKind.i64.wrap (Zco b:Int)
end
section
def Za9:Ze:=(.seq (.region [oI 1 (.box (.t 0))] none [1]) (.seq (.region [oI 4 (.ld none (.t 1)),oI 5 (.nilchk (.t 4)),oI 6 (.faddr 0 (.t 5)),oI 2 (.alloc [.nilp]),oN (.st 1 (.t 2) (.t 6))] none [2,1]) (.seq (.seq (.region [oI 7 (.ld none (.t 2)),oI 8 (.nilchk (.t 7)),oI 9 (.faddr 0 (.t 8)),oI 10 (.ld none (.t 9))] none [10,2,1]) (.block 0 (.seq (.region [oI 12 (.bin .eql (.t 10) (.c (.int .i64 1))),oI 11 (.mov (.t 12))] none [11,10,2,1]) (.cond (.t 11) (.region [oI 13 (.ld none (.t 1)),oI 14 (.call 67 0 true [(.t 13)])] none [1]) (.seq (.region [oI 16 (.bin .eql (.t 10) (.c (.int .i64 2))),oI 15 (.mov (.t 16))] none [15,10,2,1]) (.cond (.t 15) (.seq (.region [oI 17 (.ld none (.t 1)),oI 18 (.call 68 0 true [(.t 17),(.c (.int .i64 1))]),oI 3 (.mov (.t 18))] none [3,2,1]) (.seq (.region [oI 19 (.mov (.t 3)),oI 20 (.bin .lss (.t 19) (.c (.int .i64 2))),oI 21 (.call 66 0 true [(.t 20),(.c (.int .i64 129))])] none [3,2,1]) (.seq (.region [oI 22 (.ld none (.t 2)),oI 23 (.mov (.t 3)),oI 24 (.bin .eql (.t 23) (.c (.int .i64 1))),oI 25 (.nilchk (.t 22)),oI 26 (.faddr 25 (.t 25)),oN (.st 1 (.t 26) (.t 24))] none [2,1]) (.seq (.region [oI 27 (.ld none (.t 2)),oI 28 (.ld none (.t 1)),oI 29 (.call 69 0 true [(.t 28)]),oI 30 (.nilchk (.t 27)),oI 31 (.faddr 7 (.t 30)),oN (.st 1 (.t 31) (.t 29))] (some [(0,1),(0,2),(2,2)]) [2,1]) (.region [oI 32 (.ld none (.t 2)),oI 33 (.ld none (.t 1)),oI 34 (.call 70 0 true [(.t 33),(.c (.int .i64 2))]),oI 35 (.nilchk (.t 32)),oI 36 (.faddr 9 (.t 35)),oN (.st 1 (.t 36) (.t 34))] (some [(0,1),(0,2),(2,2)]) [1]))))) (.seq (.region [oI 38 (.bin .eql (.t 10) (.c (.int .i64 3))),oI 37 (.mov (.t 38))] none [37,10,2,1]) (.cond (.t 37) (.region [oI 39 (.ld none (.t 1)),oI 40 (.call 71 0 true [(.t 39)])] none [1]) (.seq (.seq (.region [oI 42 (.bin .eql (.t 10) (.c (.int .i64 4))),oI 41 (.mov (.t 42))] none [41,10,2,1]) (.cond (.t 41) .skip (.seq (.region [oI 43 (.bin .eql (.t 10) (.c (.int .i64 5))),oI 41 (.mov (.t 43))] none [41,10,2,1]) (.cond (.t 41) .skip (.seq (.region [oI 44 (.bin .eql (.t 10) (.c (.int .i64 6))),oI 41 (.mov (.t 44))] none [41,10,2,1]) (.cond (.t 41) .skip (.region [oI 45 (.bin .eql (.t 10) (.c (.int .i64 7))),oI 41 (.mov (.t 45))] none [41,10,2,1]))))))) (.cond (.t 41) (.seq (.region [oI 46 (.ld none (.t 1)),oI 47 (.call 72 0 true [(.t 46)])] none [1]) (.region [oI 48 (.ld none (.t 1)),oI 49 (.call 73 0 true [(.t 48)])] none [1])) (.seq (.region [oI 51 (.bin .eql (.t 10) (.c (.int .i64 8))),oI 50 (.mov (.t 51))] none [50,10,2,1]) (.cond (.t 50) (.region [oI 52 (.ld none (.t 1)),oI 53 (.ld none (.t 1)),oI 54 (.mkfn 1000075 [(.t 53)]),oI 55 (.call 74 1 true [(.t 52),(.t 54)])] none [1]) (.seq (.region [oI 57 (.bin .eql (.t 10) (.c (.int .i64 10))),oI 56 (.mov (.t 57))] none [56,10,2,1]) (.cond (.t 56) (.region [oI 58 (.ld none (.t 1)),oI 59 (.mkfn 76 [(.t 2),(.t 1)]),oI 60 (.call 74 1 true [(.t 58),(.t 59)])] none [1]) (.seq (.seq (.region [oI 62 (.bin .eql (.t 10) (.c (.int .i64 9))),oI 61 (.mov (.t 62))] none [61,10,2,1]) (.cond (.t 61) .skip (.region [oI 63 (.bin .eql (.t 10) (.c (.int .i64 11))),oI 61 (.mov (.t 63))] none [61,10,2,1]))) (.cond (.t 61) (.region [oI 64 (.ld none (.t 1)),oI 65 (.mkfn 78 [(.t 2),(.t 1)]),oI 66 (.call 74 1 true [(.t 64),(.t 65)])] none [1]) (.seq (.seq (.region [oI 68 (.bin .eql (.t 10) (.c (.int .i64 14))),oI 67 (.mov (.t 68))] none [67,10,1]) (.cond (.t 67) .skip (.region [oI 69 (.bin .eql (.t 10) (.c (.int .i64 15))),oI 67 (.mov (.t 69))] none [67,1]))) (.cond (.t 67) (.region [oI 70 (.ld none (.t 1)),oI 71 (.call 73 0 true [(.t 70)])] none [1]) .skip)))))))))))))))))) (.region [oI 72 (.ld none (.t 1)),oI 73 (.nilchk (.t 72)),oI 74 (.faddr 26 (.t 73)),oI 75 (.ld none (.t 74)),oI 76 (.len (.t 75)),oI 77 (.bin .eql (.t 76) (.c (.int .i64 0))),oI 78 (.call 66 0 true [(.t 77),(.c (.int .i64 129))])] none []))))
def Zp8:ZD:=⟨[],Za9⟩
theorem Zbg:FC 48=some Zp8:=by kernel_rfl
theorem Zbh:Zp8.body=Za9:=rfl
theorem Zes:Zp8.res=[]:=rfl
def Zdl:Ze:=(.region [oI 2 (.ld none (.t 0)),oI 3 (.ld none (.t 0)),oI 4 (.nilchk (.t 3)),oI 5 (.faddr 11 (.t 4)),oI 6 (.ld none (.t 5)),oI 7 (.ld none (.t 1)),oI 8 (.call 77 0 true [(.t 7)]),oI 9 (.bslice false 1 1 (.str []) [(0,(.t 8))]),oI 10 (.app 1 16 (.str []) (.t 6) (.t 9)),oI 11 (.nilchk (.t 2)),oI 12 (.faddr 11 (.t 11)),oN (.st 1 (.t 12) (.t 10))] (some [(0,1),(0,4),(0,5),(1,5),(4,5),(0,6),(1,6),(4,6),(0,7),(1,7),(4,7),(0,8),(6,6)]) [])
def ZNG:ZD:=⟨[],Zdl⟩
theorem Zmr:FC 76=some ZNG:=by kernel_rfl
def Zdk:Ze:=(.region [oI 2 (.ld none (.t 0)),oI 3 (.ld none (.t 0)),oI 4 (.nilchk (.t 3)),oI 5 (.faddr 8 (.t 4)),oI 6 (.ld none (.t 5)),oI 7 (.ld none (.t 1)),oI 8 (.call 69 0 true [(.t 7)]),oI 9 (.bslice false 1 1 (.int .i64 0) [(0,(.t 8))]),oI 10 (.app 1 8 (.int .i64 0) (.t 6) (.t 9)),oI 11 (.nilchk (.t 2)),oI 12 (.faddr 8 (.t 11)),oN (.st 1 (.t 12) (.t 10))] (some [(0,1),(0,4),(0,5),(1,5),(4,5),(0,6),(1,6),(4,6),(0,7),(1,7),(4,7),(0,8),(6,6)]) [])
def ZMU:ZD:=⟨[],Zdk⟩
theorem Zk9:FC 78=some ZMU:=by kernel_rfl
def Zeu:Ze:=(.seq (.region [oI 2 (.mov (.c (.int .i64 0)))] none [0]) (.seq (.region [oI 4 (.mov (.t 0)),oI 5 (.call 68 0 true [(.t 4),(.c (.int .i64 1))]),oI 3 (.mov (.t 5))] none [3,0]) (.seq (.region [oI 6 (.mov (.t 0)),oI 7 (.nilchk (.t 6)),oI 8 (.faddr 0 (.t 7)),oI 9 (.faddr 0 (.t 8)),oI 10 (.ld none (.t 9)),oI 11 (.mov (.t 3)),oI 12 (.call 13 0 true [(.t 10),(.t 11)]),oI 13 (.call 66 0 true [(.t 12),(.c (.int .i64 130))])] none [3]) (.seq (.region [oI 14 (.mov (.t 3)),oI 2 (.mov (.t 14))] none [2]) .ret))))
def ZoB:ZD:=⟨[(.tmp 2)],Zeu⟩
theorem ZfJ:FC 69=some ZoB:=by kernel_rfl
theorem Zgb:ZoB.body=Zeu:=rfl
theorem Zr1:ZoB.res=[(.tmp 2)]:=rfl
def Znx:Ze:=(.seq (.region [oI 4 (.mov (.t 0)),oI 5 (.nilchk (.t 4)),oI 6 (.faddr 0 (.t 5)),oI 2 (.mov (.t 6))] none [2,0]) (.seq (.region [oI 7 (.mov (.t 0)),oI 8 (.call 77 0 true [(.t 7)]),oI 9 (.bin .eql (.t 8) (.c (.str [77,81,84,84]))),oI 10 (.call 66 0 true [(.t 9),(.c (.int .i64 132))])] none [2,0]) (.seq (.region [oI 11 (.mov (.t 0)),oI 12 (.call 68 0 true [(.t 11),(.c (.int .i64 1))]),oI 13 (.bin .eql (.t 12) (.c (.int .i64 5))),oI 14 (.call 66 0 true [(.t 13),(.c (.int .i64 132))])] none [2,0]) (.seq (.region [oI 15 (.mov (.t 0)),oI 16 (.call 68 0 true [(.t 15),(.c (.int .i64 1))]),oI 3 (.mov (.t 16))] none [3,2,0]) (.seq (.region [oI 17 (.mov (.t 2)),oI 18 (.mov (.t 2)),oI 19 (.mov (.t 3)),oI 20 (.bin .and (.t 19) (.c (.int .i64 2))),oI 21 (.bin .neq (.t 20) (.c (.int .i64 0))),oI 22 (.mov (.t 3)),oI 23 (.bin .and (.t 22) (.c (.int .i64 4))),oI 24 (.bin .neq (.t 23) (.c (.int .i64 0))),oI 25 (.nilchk (.t 17)),oI 26 (.faddr 12 (.t 25)),oN (.st 1 (.t 26) (.t 21)),oI 27 (.nilchk (.t 18)),oI 28 (.faddr 15 (.t 27)),oN (.st 1 (.t 28) (.t 24))] none [3,2,0]) (.seq (.region [oI 29 (.mov (.t 2)),oI 30 (.mov (.t 2)),oI 31 (.mov (.t 3)),oI 32 (.bin .and (.t 31) (.c (.int .i64 64))),oI 33 (.bin .neq (.t 32) (.c (.int .i64 0))),oI 34 (.mov (.t 3)),oI 35 (.bin .and (.t 34) (.c (.int .i64 128))),oI 36 (.bin .neq (.t 35) (.c (.int .i64 0))),oI 37 (.nilchk (.t 29)),oI 38 (.faddr 23 (.t 37)),oN (.st 1 (.t 38) (.t 33)),oI 39 (.nilchk (.t 30)),oI 40 (.faddr 21 (.t 39)),oN (.st 1 (.t 40) (.t 36))] none [3,2,0]) (.seq (.region [oI 41 (.mov (.t 2)),oI 42 (.mov (.t 2)),oI 43 (.mov (.t 3)),oI 44 (.bin .quo (.t 43) (.c (.int .i64 8))),oI 45 (.bin .and (.t 44) (.c (.int .i64 3))),oI 46 (.mov (.t 3)),oI 47 (.bin .and (.t 46) (.c (.int .i64 32))),oI 48 (.bin .neq (.t 47) (.c (.int .i64 0))),oI 49 (.nilchk (.t 41)),oI 50 (.faddr 16 (.t 49)),oI 51 (.faddr 2 (.t 50)),oN (.st 1 (.t 51) (.t 45)),oI 52 (.nilchk (.t 42)),oI 53 (.faddr 16 (.t 52)),oI 54 (.faddr 3 (.t 53)),oN (.st 1 (.t 54) (.t 48))] none [3,2,0]) (.seq (.region [oI 55 (.mov (.t 3)),oI 56 (.bin .and (.t 55) (.c (.int .i64 1))),oI 57 (.bin .eql (.t 56) (.c (.int .i64 0))),oI 58 (.mov (.t 57)),⟨(some 59),(.mov (.t 2)),(some (58,true)),[]⟩,⟨(some 60),(.nilchk (.t 59)),(some (58,true)),[]⟩,⟨(some 61),(.faddr 16 (.t 60)),(some (58,true)),[]⟩,⟨(some 62),(.faddr 2 (.t 61)),(some (58,true)),[]⟩,⟨(some 63),(.ld none (.t 62)),(some (58,true)),[]⟩,⟨(some 64),(.bin .lss (.t 63) (.c (.int .i64 3))),(some (58,true)),[]⟩,oI 65 (.pick (.t 58) (.t 64) (.c (.bool false))),oI 66 (.mov (.t 65)),⟨(some 67),(.mov (.t 2)),(some (66,true)),[]⟩,⟨(some 68),(.nilchk (.t 67)),(some (66,true)),[]⟩,⟨(some 69),(.faddr 15 (.t 68)),(some (66,true)),[]⟩,⟨(some 70),(.ld none (.t 69)),(some (66,true)),[]⟩,⟨(some 71),(.mov (.t 70)),(some (66,true)),[]⟩,⟨(some 72),(.mov (.t 2)),(some (71,false)),[]⟩,⟨(some 73),(.nilchk (.t 72)),(some (71,false)),[]⟩,⟨(some 74),(.faddr 16 (.t 73)),(some (71,false)),[]⟩,⟨(some 75),(.faddr 2 (.t 74)),(some (71,false)),[]⟩,⟨(some 76),(.ld none (.t 75)),(some (71,false)),[]⟩,⟨(some 77),(.bin .eql (.t 76) (.c (.int .i64 0))),(some (71,false)),[]⟩,⟨(some 78),(.mov (.t 77)),(some (71,false)),[]⟩,⟨(some 79),(.mov (.t 2)),(some (78,true)),[]⟩,⟨(some 80),(.nilchk (.t 79)),(some (78,true)),[]⟩,⟨(some 81),(.faddr 16 (.t 80)),(some (78,true)),[]⟩,⟨(some 82),(.faddr 3 (.t 81)),(some (78,true)),[]⟩,⟨(some 83),(.ld none (.t 82)),(some (78,true)),[]⟩,⟨(some 84),(.un .not (.t 83)),(some (78,true)),[]⟩,⟨(some 85),(.pick (.t 78) (.t 84) (.c (.bool false))),(some (71,false)),[]⟩,⟨(some 86),(.pick (.t 71) (.c (.bool true)) (.t 85)),(some (66,true)),[]⟩,oI 87 (.pick (.t 66) (.t 86) (.c (.bool false))),oI 88 (.call 66 0 true [(.t 87),(.c (.int .i64 129))])] none [2,0]) (.seq (.region [oI 89 (.mov (.t 2)),oI 90 (.mov (.t 0)),oI 91 (.call 68 0 true [(.t 90),(.c (.int .i64 2))]),oI 92 (.nilchk (.t 89)),oI 93 (.faddr 13 (.t 92)),oN (.st 1 (.t 93) (.t 91))] none [2,0]) (.seq (.region [oI 94 (.mov (.t 2)),oI 95 (.mov (.t 0)),oI 96 (.call 70 0 true [(.t 95),(.c (.int .i64 1))]),oI 97 (.nilchk (.t 94)),oI 98 (.faddr 9 (.t 97)),oN (.st 1 (.t 98) (.t 96))] none [2,0]) (.seq (.region [oI 99 (.mov (.t 2)),oI 100 (.mov (.t 0)),oI 101 (.call 77 0 true [(.t 100)]),oI 102 (.nilchk (.t 99)),oI 103 (.faddr 14 (.t 102)),oN (.st 1 (.t 103) (.t 101))] none [2,0]) (.seq (.seq (.region [oI 104 (.mov (.t 2)),oI 105 (.nilchk (.t 104)),oI 106 (.faddr 15 (.t 105)),oI 107 (.ld none (.t 106))] none [107,2,0]) (.cond (.t 107) (.seq (.region [oI 108 (.mov (.t 2)),oI 109 (.mov (.t 0)),oI 110 (.call 70 0 true [(.t 109),(.c (.int .i64 16))]),oI 111 (.nilchk (.t 108)),oI 112 (.faddr 16 (.t 111)),oI 113 (.faddr 4 (.t 112)),oN (.st 1 (.t 113) (.t 110))] none [2,0]) (.seq (.region [oI 114 (.mov (.t 2)),oI 115 (.mov (.t 0)),oI 116 (.call 77 0 true [(.t 115)]),oI 117 (.nilchk (.t 114)),oI 118 (.faddr 16 (.t 117)),oI 119 (.faddr 0 (.t 118)),oN (.st 1 (.t 119) (.t 116))] none [2,0]) (.region [oI 120 (.mov (.t 2)),oI 121 (.mov (.t 0)),oI 122 (.call 92 0 true [(.t 121)]),oI 123 (.nilchk (.t 120)),oI 124 (.faddr 16 (.t 123)),oI 125 (.faddr 1 (.t 124)),oN (.st 1 (.t 125) (.t 122))] none [2,0]))) .skip)) (.seq (.seq (.region [oI 126 (.mov (.t 2)),oI 127 (.nilchk (.t 126)),oI 128 (.faddr 21 (.t 127)),oI 129 (.ld none (.t 128))] none [129,2,0]) (.cond (.t 129) (.region [oI 130 (.mov (.t 2)),oI 131 (.mov (.t 0)),oI 132 (.call 77 0 true [(.t 131)]),oI 133 (.nilchk (.t 130)),oI 134 (.faddr 22 (.t 133)),oN (.st 1 (.t 134) (.t 132))] none [2,0]) .skip)) (.seq (.region [oI 135 (.mov (.t 2)),oI 136 (.nilchk (.t 135)),oI 137 (.faddr 23 (.t 136)),oI 138 (.ld none (.t 137))] none [138,2,0]) (.cond (.t 138) (.region [oI 139 (.mov (.t 2)),oI 140 (.mov (.t 0)),oI 141 (.call 92 0 true [(.t 140)]),oI 142 (.nilchk (.t 139)),oI 143 (.faddr 24 (.t 142)),oN (.st 1 (.t 143) (.t 141))] none []) .skip)))))))))))))))
def Zpe:ZD:=⟨[],Znx⟩
theorem ZuR:FC 67=some Zpe:=by kernel_rfl
def Zlq:Ze:=(.seq (.region [oI 2 (.mov (.c (.lst true [])))] none [0]) (.seq (.region [oI 7 (.mov (.t 0)),oI 8 (.nilchk (.t 7)),oI 9 (.faddr 26 (.t 8)),oI 10 (.ld none (.t 9)),oI 11 (.call 102 0 true [(.t 10)]),oI 6 (.mov (.t 11)),oI 12 (.ext (.t 6) 0),oI 13 (.ext (.t 6) 1),oI 14 (.ext (.t 6) 2),oI 3 (.mov (.t 12)),oI 4 (.mov (.t 13)),oI 5 (.mov (.t 14))] none [5,4,3,0]) (.seq (.region [oI 15 (.mov (.t 5)),oI 16 (.bin .eql (.t 15) (.c (.int .i64 0))),oI 17 (.call 66 0 true [(.t 16),(.c (.int .i64 129))])] none [4,3,0]) (.seq (.region [oI 18 (.mov (.t 0)),oI 19 (.mov (.t 0)),oI 20 (.nilchk (.t 19)),oI 21 (.faddr 26 (.t 20)),oI 22 (.ld none (.t 21)),oI 23 (.mov (.t 4)),oI 24 (.slice 1 (.t 22) (some (.t 23)) none none),oI 25 (.nilchk (.t 18)),oI 26 (.faddr 26 (.t 25)),oN (.st 1 (.t 26) (.t 24))] none [3]) (.seq (.region [oI 27 (.mov (.t 3)),oI 2 (.mov (.t 27))] none [2]) .ret)))))
def Zo5:ZD:=⟨[(.tmp 2)],Zlq⟩
theorem Zwm:FC 92=some Zo5:=by kernel_rfl
theorem Zup:Zo5.body=Zlq:=rfl
theorem ZAB:Zo5.res=[(.tmp 2)]:=rfl
def Zfv:Ze:=(.seq (.region [oI 5 (.mov (.t 0)),oI 6 (.nilchk (.t 5)),oI 7 (.faddr 0 (.t 6)),oI 4 (.mov (.t 7))] none [4,1]) (.seq (.region [oI 8 (.mov (.t 4)),oI 9 (.mov (.t 1)),oI 10 (.bin .shr (.t 9) (.c (.int .u64 4))),oI 11 (.i2i .i64 (.t 10)),oI 12 (.nilchk (.t 8)),oI 13 (.faddr 0 (.t 12)),oN (.st 1 (.t 13) (.t 11))] none [4,1]) (.seq (.region [oI 14 (.mov (.t 4)),oI 15 (.nilchk (.t 14)),oI 16 (.faddr 0 (.t 15)),oI 17 (.ld none (.t 16)),oI 18 (.bin .neq (.t 17) (.c (.int .i64 0))),oI 19 (.call 66 0 true [(.t 18),(.c (.int .i64 129))])] none [4,1]) (.seq (.seq (.region [oI 20 (.mov (.t 4)),oI 21 (.nilchk (.t 20)),oI 22 (.faddr 0 (.t 21)),oI 23 (.ld none (.t 22)),oI 24 (.bin .neq (.t 23) (.c (.int .i64 3)))] none [24,4,1]) (.cond (.t 24) (.seq (.region [oI 25 (.mov (.t 1)),oI 26 (.bin .and (.t 25) (.c (.int .u8 15))),oI 27 (.mov (.t 4)),oI 28 (.nilchk (.t 27)),oI 29 (.faddr 0 (.t 28)),oI 30 (.ld none (.t 29)),oI 31 (.call 26 0 true [(.t 30)]),oI 32 (.bin .eql (.t 26) (.t 31)),oI 33 (.call 66 0 true [(.t 32),(.c (.int .i64 129))])] none []) .ret) .skip)) (.seq (.region [oI 34 (.mov (.t 4)),oI 35 (.mov (.t 4)),oI 36 (.mov (.t 4)),oI 37 (.mov (.t 1)),oI 38 (.bin .and (.t 37) (.c (.int .u8 8))),oI 39 (.bin .neq (.t 38) (.c (.int .u8 0))),oI 40 (.mov (.t 1)),oI 41 (.bin .shr (.t 40) (.c (.int .u64 1))),oI 42 (.bin .and (.t 41) (.c (.int .u8 3))),oI 43 (.i2i .i64 (.t 42)),oI 44 (.mov (.t 1)),oI 45 (.bin .and (.t 44) (.c (.int .u8 1))),oI 46 (.bin .neq (.t 45) (.c (.int .u8 0))),oI 47 (.nilchk (.t 34)),oI 48 (.faddr 1 (.t 47)),oN (.st 1 (.t 48) (.t 39)),oI 49 (.nilchk (.t 35)),oI 50 (.faddr 2 (.t 49)),oN (.st 1 (.t 50) (.t 43)),oI 51 (.nilchk (.t 36)),oI 52 (.faddr 3 (.t 51)),oN (.st 1 (.t 52) (.t 46))] none [4]) (.seq (.region [oI 53 (.mov (.t 4)),oI 54 (.nilchk (.t 53)),oI 55 (.faddr 2 (.t 54)),oI 56 (.ld none (.t 55)),oI 57 (.bin .lss (.t 56) (.c (.int .i64 3))),oI 58 (.call 66 0 true [(.t 57),(.c (.int .i64 129))])] none [4]) (.region [oI 59 (.mov (.t 4)),oI 60 (.nilchk (.t 59)),oI 61 (.faddr 2 (.t 60)),oI 62 (.ld none (.t 61)),oI 63 (.bin .gtr (.t 62) (.c (.int .i64 0))),oI 64 (.mov (.t 63)),⟨(some 65),(.mov (.t 4)),(some (64,false)),[]⟩,⟨(some 66),(.nilchk (.t 65)),(some (64,false)),[]⟩,⟨(some 67),(.faddr 1 (.t 66)),(some (64,false)),[]⟩,⟨(some 68),(.ld none (.t 67)),(some (64,false)),[]⟩,⟨(some 69),(.un .not (.t 68)),(some (64,false)),[]⟩,oI 70 (.pick (.t 64) (.c (.bool true)) (.t 69)),oI 71 (.call 66 0 true [(.t 70),(.c (.int .i64 130))])] none [])))))))
def ZnP:ZD:=⟨[],Zfv⟩
theorem ZgZ:FC 47=some ZnP:=by kernel_rfl
theorem ZgO:ZnP.body=Zfv:=rfl
theorem Zq8:ZnP.res=[]:=rfl
def ZiY:Ze:=(.seq (.region [oI 2 (.mov (.t 0)),oI 3 (.mov (.t 0)),oI 4 (.call 68 0 true [(.t 3),(.c (.int .i64 2))]),oI 5 (.nilchk (.t 2)),oI 6 (.faddr 0 (.t 5)),oI 7 (.faddr 4 (.t 6)),oN (.st 1 (.t 7) (.t 4))] none [0]) (.region [oI 8 (.mov (.t 0)),oI 9 (.nilchk (.t 8)),oI 10 (.faddr 0 (.t 9)),oI 11 (.faddr 4 (.t 10)),oI 12 (.ld none (.t 11)),oI 13 (.bin .neq (.t 12) (.c (.int .i64 0))),oI 14 (.call 66 0 true [(.t 13),(.c (.int .i64 130))])] none []))
def ZqK:ZD:=⟨[],ZiY⟩
theorem Zou:FC 72=some ZqK:=by kernel_rfl
theorem ZnX:ZqK.body=ZiY:=rfl
theorem ZAm:ZqK.res=[]:=rfl
def Zc6:Ze:=(.seq (.seq (.region [oI 24 (.mov (.t 0)),oI 25 (.nilchk (.t 24)),oI 26 (.faddr 26 (.t 25)),oI 27 (.ld none (.t 26)),oI 28 (.len (.t 27)),oI 29 (.bin .gtr (.t 28) (.c (.int .i64 0)))] none [29,1,0]) (.cond (.t 29) .skip (.exit 0))) (.block 1 (.region [oI 30 (.mov (.t 1)),oI 31 (.callv (.t 30) [])] none [1,0])))
def Zrb:Ze:=Zc6
def ZdS:=xw Zrb Zc6 rfl
def Zew:Ze:=(.seq (.region [oI 4 (.mov (.t 0)),oI 5 (.call 72 0 true [(.t 4)])] none [1,0]) (.seq (.region [oI 6 (.mov (.t 0)),oI 7 (.mov (.t 0)),oI 8 (.mov (.t 0)),oI 9 (.nilchk (.t 8)),oI 10 (.faddr 0 (.t 9)),oI 11 (.faddr 0 (.t 10)),oI 12 (.ld none (.t 11)),oI 13 (.call 70 0 true [(.t 7),(.t 12)]),oI 14 (.nilchk (.t 6)),oI 15 (.faddr 0 (.t 14)),oI 16 (.faddr 9 (.t 15)),oN (.st 1 (.t 16) (.t 13))] none [1,0]) (.seq (.region [oI 17 (.mov (.t 0)),oI 18 (.nilchk (.t 17)),oI 19 (.faddr 26 (.t 18)),oI 20 (.ld none (.t 19)),oI 21 (.len (.t 20)),oI 22 (.bin .gtr (.t 21) (.c (.int .i64 0))),oI 23 (.call 66 0 true [(.t 22),(.c (.int .i64 130))])] none [1,0]) (.block 0 (.loop [1,0] Zrb)))))
def ZjW:ZD:=⟨[],Zew⟩
theorem Zf7:FC 74=some ZjW:=by kernel_rfl
theorem ZfK:ZjW.body=Zew:=rfl
theorem ZkI:ZjW.res=[]:=rfl
noncomputable def ZaZ (m:Nat) (tm:Tms) (σ:Za):Option (AVal×Za):=(Zat m ZjW (Option.map (ZaX 0) (evL FC PR BY m [1,0] Zrb tm σ)))
def ZhQ:Ze:=(.seq (.region [oI 4 (.mov (.c (.int .i64 0)))] none [1,0]) (.seq (.region [oI 6 (.mov (.t 0)),oI 7 (.nilchk (.t 6)),oI 8 (.faddr 26 (.t 7)),oI 9 (.ld none (.t 8)),oI 10 (.len (.t 9)),oI 11 (.mov (.t 1)),oI 12 (.bin .geq (.t 10) (.t 11)),oI 13 (.call 66 0 true [(.t 12),(.c (.int .i64 129))])] none [1,0]) (.seq (.region [oI 14 (.mov (.t 0)),oI 15 (.nilchk (.t 14)),oI 16 (.faddr 26 (.t 15)),oI 17 (.ld none (.t 16)),oI 18 (.mov (.t 1)),oI 19 (.slice 1 (.t 17) none (some (.t 18)) none),oI 20 (.call 93 0 true [(.t 19)]),oI 21 (.i2i .i64 (.t 20)),oI 5 (.mov (.t 21))] none [5,1,0]) (.seq (.region [oI 22 (.mov (.t 0)),oI 23 (.mov (.t 0)),oI 24 (.nilchk (.t 23)),oI 25 (.faddr 26 (.t 24)),oI 26 (.ld none (.t 25)),oI 27 (.mov (.t 1)),oI 28 (.slice 1 (.t 26) (some (.t 27)) none none),oI 29 (.nilchk (.t 22)),oI 30 (.faddr 26 (.t 29)),oN (.st 1 (.t 30) (.t 28))] none [5]) (.seq (.region [oI 31 (.mov (.t 5)),oI 4 (.mov (.t 31))] none [4]) .ret)))))
def ZnS:ZD:=⟨[(.tmp 4)],ZhQ⟩
theorem Zma:FC 68=some ZnS:=by kernel_rfl
theorem Zlj:ZnS.body=ZhQ:=rfl
theorem Zuf:ZnS.res=[(.tmp 4)]:=rfl
def Zl5:Ze:=(.seq (.region [oI 4 (.mov (.c (.lst true [])))] none [1,0]) (.seq (.region [oI 9 (.mov (.t 1)),oI 10 (.mov (.t 0)),oI 11 (.nilchk (.t 10)),oI 12 (.faddr 26 (.t 11)),oI 13 (.ld none (.t 12)),oI 14 (.call 87 0 true [(.t 9),(.t 13)]),oI 8 (.mov (.t 14)),oI 15 (.ext (.t 8) 0),oI 16 (.ext (.t 8) 1),oI 17 (.ext (.t 8) 2),oI 5 (.mov (.t 15)),oI 6 (.mov (.t 16)),oI 7 (.mov (.t 17))] none [7,6,5,0]) (.seq (.region [oI 18 (.mov (.t 7)),oI 19 (.bin .eql (.t 18) (.c (.int .i64 0))),oI 20 (.mov (.t 7)),oI 21 (.call 66 0 true [(.t 19),(.t 20)])] none [6,5,0]) (.seq (.region [oI 22 (.mov (.t 0)),oI 23 (.mov (.t 0)),oI 24 (.nilchk (.t 23)),oI 25 (.faddr 26 (.t 24)),oI 26 (.ld none (.t 25)),oI 27 (.mov (.t 6)),oI 28 (.slice 1 (.t 26) (some (.t 27)) none none),oI 29 (.nilchk (.t 22)),oI 30 (.faddr 26 (.t 29)),oN (.st 1 (.t 30) (.t 28))] none [5]) (.seq (.region [oI 31 (.mov (.t 5)),oI 4 (.mov (.t 31))] none [4]) .ret)))))
def Zpg:ZD:=⟨[(.tmp 4)],Zl5⟩
theorem ZsF:FC 70=some Zpg:=by kernel_rfl
theorem Zsb:Zpg.body=Zl5:=rfl
theorem ZDV:Zpg.res=[(.tmp 4)]:=rfl
def Zf8:Ze:=(.seq (.region [oI 2 (.mov (.t 0)),oI 3 (.mov (.t 0)),oI 4 (.call 77 0 true [(.t 3)]),oI 5 (.nilchk (.t 2)),oI 6 (.faddr 0 (.t 5)),oI 7 (.faddr 5 (.t 6)),oN (.st 1 (.t 7) (.t 4))] none [0]) (.seq (.seq (.region [oI 8 (.mov (.t 0)),oI 9 (.nilchk (.t 8)),oI 10 (.faddr 0 (.t 9)),oI 11 (.faddr 2 (.t 10)),oI 12 (.ld none (.t 11)),oI 13 (.bin .gtr (.t 12) (.c (.int .i64 0)))] none [13,0]) (.cond (.t 13) (.region [oI 14 (.mov (.t 0)),oI 15 (.call 72 0 true [(.t 14)])] none [0]) .skip)) (.seq (.region [oI 16 (.mov (.t 0)),oI 17 (.mov (.t 0)),oI 18 (.call 70 0 true [(.t 17),(.c (.int .i64 3))]),oI 19 (.nilchk (.t 16)),oI 20 (.faddr 0 (.t 19)),oI 21 (.faddr 9 (.t 20)),oN (.st 1 (.t 21) (.t 18))] none [0]) (.region [oI 22 (.mov (.t 0)),oI 23 (.mov (.t 0)),oI 24 (.mov (.t 0)),oI 25 (.nilchk (.t 24)),oI 26 (.faddr 26 (.t 25)),oI 27 (.ld none (.t 26)),oI 28 (.call 15 0 true [(.t 27)]),oI 29 (.nilchk (.t 22)),oI 30 (.faddr 0 (.t 29)),oI 31 (.faddr 6 (.t 30)),oN (.st 1 (.t 31) (.t 28)),oI 32 (.nilchk (.t 23)),oI 33 (.faddr 26 (.t 32)),oN (.st 1 (.t 33) (.c (.lst true [])))] none []))))
def Zpc:ZD:=⟨[],Zf8⟩
theorem Zho:FC 71=some Zpc:=by kernel_rfl
theorem Zg9:Zpc.body=Zf8:=rfl
theorem Zub:Zpc.res=[]:=rfl
def ZgG:Ze:=(.seq (.seq (.region [oI 2 (.mov (.t 0)),oI 3 (.nilchk (.t 2)),oI 4 (.faddr 26 (.t 3)),oI 5 (.ld none (.t 4)),oI 6 (.len (.t 5)),oI 7 (.bin .gtr (.t 6) (.c (.int .i64 0)))] none [7,0]) (.cond (.t 7) (.region [oI 8 (.mov (.t 0)),oI 9 (.mov (.t 0)),oI 10 (.call 69 0 true [(.t 9)]),oI 11 (.nilchk (.t 8)),oI 12 (.faddr 0 (.t 11)),oI 13 (.faddr 7 (.t 12)),oN (.st 1 (.t 13) (.t 10))] none [0]) .skip)) (.seq (.region [oI 14 (.mov (.t 0)),oI 15 (.nilchk (.t 14)),oI 16 (.faddr 26 (.t 15)),oI 17 (.ld none (.t 16)),oI 18 (.len (.t 17)),oI 19 (.bin .gtr (.t 18) (.c (.int .i64 0)))] none [19,0]) (.cond (.t 19) (.region [oI 20 (.mov (.t 0)),oI 21 (.mov (.t 0)),oI 22 (.mov (.t 0)),oI 23 (.nilchk (.t 22)),oI 24 (.faddr 0 (.t 23)),oI 25 (.faddr 0 (.t 24)),oI 26 (.ld none (.t 25)),oI 27 (.call 70 0 true [(.t 21),(.t 26)]),oI 28 (.nilchk (.t 20)),oI 29 (.faddr 0 (.t 28)),oI 30 (.faddr 9 (.t 29)),oN (.st 1 (.t 30) (.t 27))] none []) .skip)))
def ZnM:ZD:=⟨[],ZgG⟩
theorem ZiS:FC 73=some ZnM:=by kernel_rfl
theorem Ziv:ZnM.body=ZgG:=rfl
theorem Zo3:ZnM.res=[]:=rfl
def Zdb:Ze:=(.seq (.region [oI 4 (.mov (.t 0)),oI 5 (.call 77 0 true [(.t 4)]),oI 6 (.build [(.str []),(.int .i64 0),(.bool false),(.bool false),(.int .i64 0),(.int .i64 0)] [(0,1,(.t 5))]),oI 2 (.alloc [(.str []),(.int .i64 0),(.bool false),(.bool false),(.int .i64 0),(.int .i64 0)]),oN (.st 6 (.t 2) (.t 6))] none [2,0]) (.seq (.region [oI 7 (.mov (.t 0)),oI 8 (.call 68 0 true [(.t 7),(.c (.int .i64 1))]),oI 3 (.mov (.t 8))] none [3,2,0]) (.seq (.region [oI 9 (.mov (.t 3)),oI 10 (.bin .lss (.t 9) (.c (.int .i64 64))),oI 11 (.call 66 0 true [(.t 10),(.c (.int .i64 129))])] none [3,2,0]) (.seq (.region [oI 12 (.mov (.t 3)),oI 13 (.bin .and (.t 12) (.c (.int .i64 3))),oI 14 (.mov (.t 3)),oI 15 (.bin .quo (.t 14) (.c (.int .i64 16))),oI 16 (.faddr 1 (.t 2)),oN (.st 1 (.t 16) (.t 13)),oI 17 (.faddr 4 (.t 2)),oN (.st 1 (.t 17) (.t 15))] none [3,2,0]) (.seq (.region [oI 18 (.mov (.t 3)),oI 19 (.bin .and (.t 18) (.c (.int .i64 4))),oI 20 (.bin .neq (.t 19) (.c (.int .i64 0))),oI 21 (.mov (.t 3)),oI 22 (.bin .and (.t 21) (.c (.int .i64 8))),oI 23 (.bin .neq (.t 22) (.c (.int .i64 0))),oI 24 (.faddr 2 (.t 2)),oN (.st 1 (.t 24) (.t 20)),oI 25 (.faddr 3 (.t 2)),oN (.st 1 (.t 25) (.t 23))] none [2,0]) (.seq (.region [oI 26 (.faddr 1 (.t 2)),oI 27 (.ld none (.t 26)),oI 28 (.bin .lss (.t 27) (.c (.int .i64 3))),oI 29 (.mov (.t 28)),⟨(some 30),(.faddr 4 (.t 2)),(some (29,true)),[]⟩,⟨(some 31),(.ld none (.t 30)),(some (29,true)),[]⟩,⟨(some 32),(.bin .lss (.t 31) (.c (.int .i64 3))),(some (29,true)),[]⟩,oI 33 (.pick (.t 29) (.t 32) (.c (.bool false))),oI 34 (.call 66 0 true [(.t 33),(.c (.int .i64 130))])] none [2,0]) (.region [oI 35 (.mov (.t 0)),oI 36 (.mov (.t 0)),oI 37 (.nilchk (.t 36)),oI 38 (.faddr 0 (.t 37)),oI 39 (.faddr 10 (.t 38)),oI 40 (.ld none (.t 39)),oI 41 (.ld (some 6) (.t 2)),oI 42 (.bslice false 6 1 (.agg [(.str []),(.int .i64 0),(.bool false),(.bool false),(.int .i64 0),(.int .i64 0)]) [(0,(.t 41))]),oI 43 (.app 6 48 (.agg [(.str []),(.int .i64 0),(.bool false),(.bool false),(.int .i64 0),(.int .i64 0)]) (.t 40) (.t 42)),oI 44 (.nilchk (.t 35)),oI 45 (.faddr 0 (.t 44)),oI 46 (.faddr 10 (.t 45)),oN (.st 1 (.t 46) (.t 43))] (some [(5,6),(5,7)]) [])))))))
def Znk:ZD:=⟨[],Zdb⟩
theorem ZdK:FC 75=some Znk:=by kernel_rfl
theorem ZdA:Znk.body=Zdb:=rfl
theorem ZsG:Znk.res=[]:=rfl
def ZhZ:Ze:=(.seq (.region [oI 2 (.mov (.c (.str [])))] none [0]) (.seq (.region [oI 7 (.mov (.t 0)),oI 8 (.nilchk (.t 7)),oI 9 (.faddr 26 (.t 8)),oI 10 (.ld none (.t 9)),oI 11 (.call 94 0 true [(.t 10)]),oI 6 (.mov (.t 11)),oI 12 (.ext (.t 6) 0),oI 13 (.ext (.t 6) 1),oI 14 (.ext (.t 6) 2),oI 3 (.mov (.t 12)),oI 4 (.mov (.t 13)),oI 5 (.mov (.t 14))] none [5,4,3,0]) (.seq (.region [oI 15 (.mov (.t 5)),oI 16 (.bin .eql (.t 15) (.c (.int .i64 0))),oI 17 (.call 66 0 true [(.t 16),(.c (.int .i64 129))])] none [4,3,0]) (.seq (.region [oI 18 (.mov (.t 0)),oI 19 (.mov (.t 0)),oI 20 (.nilchk (.t 19)),oI 21 (.faddr 26 (.t 20)),oI 22 (.ld none (.t 21)),oI 23 (.mov (.t 4)),oI 24 (.slice 1 (.t 22) (some (.t 23)) none none),oI 25 (.nilchk (.t 18)),oI 26 (.faddr 26 (.t 25)),oN (.st 1 (.t 26) (.t 24))] none [3]) (.seq (.region [oI 27 (.mov (.t 3)),oI 2 (.mov (.t 27))] none [2]) .ret)))))
def Zo7:ZD:=⟨[(.tmp 2)],ZhZ⟩
theorem Zk6:FC 77=some Zo7:=by kernel_rfl
theorem ZjN:Zo7.body=ZhZ:=rfl
theorem ZtD:Zo7.res=[(.tmp 2)]:=rfl
def Zki:Ze:=(.seq (.region [oI 76 (.bin .lss (.t 75) (.t 74))] none [76,75,74,73,0]) (.seq (.cond (.t 76) .skip (.exit 1)) (.seq (.block 2 (.seq (.region [oI 77 (.iaddr 6 (.t 73) (.t 75)),oI 78 (.ld (some 6) (.t 77)),oI 5 (.alloc [(.str []),(.int .i64 0),(.bool false),(.bool false),(.int .i64 0),(.int .i64 0)]),oN (.st 6 (.t 5) (.t 78))] none [75,74,73,5,0]) (.seq (.region [oI 79 (.mov (.t 0)),oI 80 (.faddr 0 (.t 5)),oI 81 (.ld none (.t 80)),oI 82 (.call 42 1 true [(.t 79),(.t 81)])] none [75,74,73,5,0]) (.region [oI 83 (.mov (.t 0)),oI 84 (.faddr 1 (.t 5)),oI 85 (.ld none (.t 84)),oI 86 (.bin .and (.t 85) (.c (.int .i64 3))),oI 87 (.faddr 2 (.t 5)),oI 88 (.ld none (.t 87)),oI 89 (.call 28 0 true [(.t 88),(.c (.int .i64 4))]),oI 90 (.bin .add (.t 86) (.t 89)),oI 91 (.faddr 3 (.t 5)),oI 92 (.ld none (.t 91)),oI 93 (.call 28 0 true [(.t 92),(.c (.int .i64 8))]),oI 94 (.bin .add (.t 90) (.t 93)),oI 95 (.faddr 4 (.t 5)),oI 96 (.ld none (.t 95)),oI 97 (.bin .and (.t 96) (.c (.int .i64 3))),oI 98 (.bin .mul (.t 97) (.c (.int .i64 16))),oI 99 (.bin .add (.t 94) (.t 98)),oI 100 (.call 40 1 true [(.t 83),(.t 99),(.c (.int .i64 1))])] (some [(2,5),(2,6),(2,9),(5,9),(6,9),(2,10),(2,13),(5,13),(6,13),(9,13),(10,13),(17,17)]) [75,74,73,0])))) (.region [oI 101 (.bin .add (.t 75) (.c (.int .i64 1))),oI 75 (.mov (.t 101))] none [75,74,73,0]))))
def Zo1:Ze:=Zki
def ZkX:Ze:=(.seq (.region [oI 111 (.bin .lss (.t 110) (.t 109))] none [111,110,109,108,0]) (.seq (.cond (.t 111) .skip (.exit 3)) (.seq (.block 4 (.seq (.region [oI 112 (.iaddr 1 (.t 108) (.t 110)),oI 113 (.ld none (.t 112)),oI 7 (.mov (.t 113))] none [110,109,108,7,0]) (.region [oI 114 (.mov (.t 0)),oI 115 (.mov (.t 7)),oI 116 (.call 42 1 true [(.t 114),(.t 115)])] none [110,109,108,0]))) (.region [oI 117 (.bin .add (.t 110) (.c (.int .i64 1))),oI 110 (.mov (.t 117))] none [110,109,108,0]))))
def ZpJ:Ze:=ZkX
def ZkL:Ze:=(.seq (.region [oI 128 (.bin .lss (.t 127) (.t 126))] none [128,127,126,125,0]) (.seq (.cond (.t 128) .skip (.exit 5)) (.seq (.block 6 (.seq (.region [oI 129 (.iaddr 1 (.t 125) (.t 127)),oI 130 (.ld none (.t 129)),oI 9 (.mov (.t 130))] none [127,126,125,9,0]) (.region [oI 131 (.mov (.t 0)),oI 132 (.mov (.t 9)),oI 133 (.call 40 1 true [(.t 131),(.t 132),(.c (.int .i64 1))])] none [127,126,125,0]))) (.region [oI 134 (.bin .add (.t 127) (.c (.int .i64 1))),oI 127 (.mov (.t 134))] none [127,126,125,0]))))
def Znb:Ze:=ZkL
def Zdx:Ze:=(.seq (.region [oI 3 (.box (.t 1))] none [3,0]) (.seq (.region [oI 10 (.faddr 0 (.t 3)),oI 11 (.ld none (.t 10))] none [11,3,0]) (.block 0 (.seq (.region [oI 13 (.bin .eql (.t 11) (.c (.int .i64 1))),oI 12 (.mov (.t 13))] none [12,11,3,0]) (.cond (.t 12) (.region [oI 14 (.mov (.t 0)),oI 15 (.ld (some 26) (.t 3)),oI 16 (.call 39 1 true [(.t 14),(.t 15)])] none []) (.seq (.region [oI 18 (.bin .eql (.t 11) (.c (.int .i64 2))),oI 17 (.mov (.t 18))] none [17,11,3,0]) (.cond (.t 17) (.seq (.region [oI 19 (.mov (.t 0)),oI 20 (.faddr 25 (.t 3)),oI 21 (.ld none (.t 20)),oI 22 (.call 28 0 true [(.t 21),(.c (.int .i64 1))]),oI 23 (.call 40 1 true [(.t 19),(.t 22),(.c (.int .i64 1))])] none [3,0]) (.seq (.region [oI 24 (.mov (.t 0)),oI 25 (.faddr 7 (.t 3)),oI 26 (.ld none (.t 25)),oI 27 (.call 40 1 true [(.t 24),(.t 26),(.c (.int .i64 1))])] none [3,0]) (.region [oI 28 (.mov (.t 0)),oI 29 (.faddr 9 (.t 3)),oI 30 (.ld none (.t 29)),oI 31 (.call 41 1 true [(.t 28),(.c (.int .i64 2)),(.t 30)])] none []))) (.seq (.region [oI 33 (.bin .eql (.t 11) (.c (.int .i64 3))),oI 32 (.mov (.t 33))] none [32,11,3,0]) (.cond (.t 32) (.seq (.region [oI 34 (.mov (.t 0)),oI 35 (.faddr 5 (.t 3)),oI 36 (.ld none (.t 35)),oI 37 (.call 42 1 true [(.t 34),(.t 36)])] none [3,0]) (.seq (.seq (.region [oI 38 (.faddr 2 (.t 3)),oI 39 (.ld none (.t 38)),oI 40 (.bin .gtr (.t 39) (.c (.int .i64 0)))] none [40,3,0]) (.cond (.t 40) (.region [oI 41 (.mov (.t 0)),oI 42 (.faddr 4 (.t 3)),oI 43 (.ld none (.t 42)),oI 44 (.call 40 1 true [(.t 41),(.t 43),(.c (.int .i64 2))])] none [3,0]) .skip)) (.seq (.region [oI 45 (.mov (.t 0)),oI 46 (.faddr 9 (.t 3)),oI 47 (.ld none (.t 46)),oI 48 (.call 41 1 true [(.t 45),(.c (.int .i64 3)),(.t 47)])] none [3,0]) (.region [oI 49 (.mov (.t 0)),oI 50 (.nilchk (.t 49)),oI 51 (.faddr 0 (.t 50)),oI 52 (.faddr 6 (.t 3)),oI 53 (.ld none (.t 52)),oI 54 (.call 43 1 true [(.t 51),(.t 53)])] (some [(5,5)]) [])))) (.seq (.seq (.region [oI 56 (.bin .eql (.t 11) (.c (.int .i64 4))),oI 55 (.mov (.t 56))] none [55,11,3,0]) (.cond (.t 55) .skip (.seq (.region [oI 57 (.bin .eql (.t 11) (.c (.int .i64 5))),oI 55 (.mov (.t 57))] none [55,11,3,0]) (.cond (.t 55) .skip (.seq (.region [oI 58 (.bin .eql (.t 11) (.c (.int .i64 6))),oI 55 (.mov (.t 58))] none [55,11,3,0]) (.cond (.t 55) .skip (.region [oI 59 (.bin .eql (.t 11) (.c (.int .i64 7))),oI 55 (.mov (.t 59))] none [55,11,3,0]))))))) (.cond (.t 55) (.seq (.region [oI 60 (.mov (.t 0)),oI 61 (.faddr 4 (.t 3)),oI 62 (.ld none (.t 61)),oI 63 (.call 40 1 true [(.t 60),(.t 62),(.c (.int .i64 2))])] none [3,0]) (.region [oI 64 (.mov (.t 0)),oI 65 (.ld (some 26) (.t 3)),oI 66 (.call 44 1 true [(.t 64),(.t 65)])] none [])) (.seq (.region [oI 68 (.bin .eql (.t 11) (.c (.int .i64 8))),oI 67 (.mov (.t 68))] none [67,11,3,0]) (.cond (.t 67) (.seq (.region [oI 69 (.mov (.t 0)),oI 70 (.ld (some 26) (.t 3)),oI 71 (.call 45 1 true [(.t 69),(.t 70)])] none [3,0]) (.seq (.region [oI 72 (.faddr 10 (.t 3)),oI 73 (.ld none (.t 72)),oI 74 (.len (.t 73)),oI 75 (.mov (.c (.int .i64 0)))] none [75,74,73,0]) (.block 1 (.loop [75,74,73,0] Zo1)))) (.seq (.region [oI 103 (.bin .eql (.t 11) (.c (.int .i64 10))),oI 102 (.mov (.t 103))] none [102,11,3,0]) (.cond (.t 102) (.seq (.region [oI 104 (.mov (.t 0)),oI 105 (.ld (some 26) (.t 3)),oI 106 (.call 45 1 true [(.t 104),(.t 105)])] none [3,0]) (.seq (.region [oI 107 (.faddr 11 (.t 3)),oI 108 (.ld none (.t 107)),oI 109 (.len (.t 108)),oI 110 (.mov (.c (.int .i64 0)))] none [110,109,108,0]) (.block 3 (.loop [110,109,108,0] ZpJ)))) (.seq (.seq (.region [oI 119 (.bin .eql (.t 11) (.c (.int .i64 9))),oI 118 (.mov (.t 119))] none [118,11,3,0]) (.cond (.t 118) .skip (.region [oI 120 (.bin .eql (.t 11) (.c (.int .i64 11))),oI 118 (.mov (.t 120))] none [118,11,3,0]))) (.cond (.t 118) (.seq (.region [oI 121 (.mov (.t 0)),oI 122 (.ld (some 26) (.t 3)),oI 123 (.call 45 1 true [(.t 121),(.t 122)])] none [3,0]) (.seq (.region [oI 124 (.faddr 8 (.t 3)),oI 125 (.ld none (.t 124)),oI 126 (.len (.t 125)),oI 127 (.mov (.c (.int .i64 0)))] none [127,126,125,0]) (.block 5 (.loop [127,126,125,0] Znb)))) (.seq (.seq (.region [oI 136 (.bin .eql (.t 11) (.c (.int .i64 14))),oI 135 (.mov (.t 136))] none [135,11,3,0]) (.cond (.t 135) .skip (.region [oI 137 (.bin .eql (.t 11) (.c (.int .i64 15))),oI 135 (.mov (.t 137))] none [135,3,0]))) (.cond (.t 135) (.region [oI 138 (.mov (.t 0)),oI 139 (.ld (some 26) (.t 3)),oI 140 (.call 44 1 true [(.t 138),(.t 139)])] none []) .skip)))))))))))))))))))
def ZhB:ZD:=⟨[],Zdx⟩
theorem ZeN:FC 25=some ZhB:=by kernel_rfl
theorem Zeb:ZhB.body=Zdx:=rfl
theorem Zd9:ZhB.res=[]:=rfl
def ZeU:Ze:=(.seq (.region [oI 3 (.box (.t 1))] none [3,0]) (.seq (.region [oI 4 (.mov (.t 0)),oI 5 (.call 42 1 true [(.t 4),(.c (.str [77,81,84,84]))])] none [3,0]) (.seq (.region [oI 6 (.mov (.t 0)),oI 7 (.call 40 1 true [(.t 6),(.c (.int .i64 5)),(.c (.int .i64 1))])] none [3,0]) (.seq (.region [oI 8 (.mov (.t 0)),oI 9 (.faddr 12 (.t 3)),oI 10 (.ld none (.t 9)),oI 11 (.call 28 0 true [(.t 10),(.c (.int .i64 2))]),oI 12 (.faddr 15 (.t 3)),oI 13 (.ld none (.t 12)),oI 14 (.call 28 0 true [(.t 13),(.c (.int .i64 4))]),oI 15 (.bin .add (.t 11) (.t 14)),oI 16 (.faddr 16 (.t 3)),oI 17 (.faddr 2 (.t 16)),oI 18 (.ld none (.t 17)),oI 19 (.bin .and (.t 18) (.c (.int .i64 3))),oI 20 (.bin .mul (.t 19) (.c (.int .i64 8))),oI 21 (.bin .add (.t 15) (.t 20)),oI 22 (.faddr 16 (.t 3)),oI 23 (.faddr 3 (.t 22)),oI 24 (.ld none (.t 23)),oI 25 (.call 28 0 true [(.t 24),(.c (.int .i64 32))]),oI 26 (.bin .add (.t 21) (.t 25)),oI 27 (.faddr 23 (.t 3)),oI 28 (.ld none (.t 27)),oI 29 (.call 28 0 true [(.t 28),(.c (.int .i64 64))]),oI 30 (.bin .add (.t 26) (.t 29)),oI 31 (.faddr 21 (.t 3)),oI 32 (.ld none (.t 31)),oI 33 (.call 28 0 true [(.t 32),(.c (.int .i64 128))]),oI 34 (.bin .add (.t 30) (.t 33)),oI 35 (.call 40 1 true [(.t 8),(.t 34),(.c (.int .i64 1))])] (some [(2,5),(3,5),(2,10),(3,10),(5,10),(6,10),(2,16),(3,16),(5,16),(6,16),(10,16),(10,17),(2,20),(3,20),(5,20),(6,20),(10,20),(16,20),(17,20),(10,21),(2,24),(3,24),(5,24),(6,24),(10,24),(16,24),(17,24),(20,24),(21,24),(10,25),(25,25),(27,27)]) [3,0]) (.seq (.region [oI 36 (.mov (.t 0)),oI 37 (.faddr 13 (.t 3)),oI 38 (.ld none (.t 37)),oI 39 (.call 40 1 true [(.t 36),(.t 38),(.c (.int .i64 2))])] none [3,0]) (.seq (.region [oI 40 (.mov (.t 0)),oI 41 (.faddr 9 (.t 3)),oI 42 (.ld none (.t 41)),oI 43 (.call 41 1 true [(.t 40),(.c (.int .i64 1)),(.t 42)])] none [3,0]) (.seq (.region [oI 44 (.mov (.t 0)),oI 45 (.faddr 14 (.t 3)),oI 46 (.ld none (.t 45)),oI 47 (.call 42 1 true [(.t 44),(.t 46)])] none [3,0]) (.seq (.seq (.region [oI 48 (.faddr 15 (.t 3)),oI 49 (.ld none (.t 48))] none [49,3,0]) (.cond (.t 49) (.seq (.region [oI 50 (.mov (.t 0)),oI 51 (.faddr 16 (.t 3)),oI 52 (.faddr 4 (.t 51)),oI 53 (.ld none (.t 52)),oI 54 (.call 41 1 true [(.t 50),(.c (.int .i64 16)),(.t 53)])] none [3,0]) (.seq (.region [oI 55 (.mov (.t 0)),oI 56 (.faddr 16 (.t 3)),oI 57 (.faddr 0 (.t 56)),oI 58 (.ld none (.t 57)),oI 59 (.call 42 1 true [(.t 55),(.t 58)])] none [3,0]) (.region [oI 60 (.mov (.t 0)),oI 61 (.faddr 16 (.t 3)),oI 62 (.faddr 1 (.t 61)),oI 63 (.ld none (.t 62)),oI 64 (.call 60 1 true [(.t 60),(.t 63)])] none [3,0]))) .skip)) (.seq (.seq (.region [oI 65 (.faddr 21 (.t 3)),oI 66 (.ld none (.t 65))] none [66,3,0]) (.cond (.t 66) (.region [oI 67 (.mov (.t 0)),oI 68 (.faddr 22 (.t 3)),oI 69 (.ld none (.t 68)),oI 70 (.call 42 1 true [(.t 67),(.t 69)])] none [3,0]) .skip)) (.seq (.region [oI 71 (.faddr 23 (.t 3)),oI 72 (.ld none (.t 71))] none [72,3,0]) (.cond (.t 72) (.region [oI 73 (.mov (.t 0)),oI 74 (.faddr 24 (.t 3)),oI 75 (.ld none (.t 74)),oI 76 (.call 60 1 true [(.t 73),(.t 75)])] none []) .skip)))))))))))
def Znv:ZD:=⟨[],ZeU⟩
theorem ZF7:FC 39=some Znv:=by kernel_rfl
theorem Zf0:Znv.body=ZeU:=rfl
theorem Zge:Znv.res=[]:=rfl
def Zpo:Ze:=(.seq (.region [oI 7 (.mov (.t 1)),oI 8 (.call 85 0 true [(.t 7)]),oI 6 (.mov (.t 8)),oI 9 (.ext (.t 6) 0),oI 10 (.ext (.t 6) 1),oI 4 (.mov (.t 9)),oI 5 (.mov (.t 10))] none [4,0]) (.region [oI 11 (.mov (.t 0)),oI 12 (.nilchk (.t 11)),oI 13 (.faddr 0 (.t 12)),oI 14 (.mov (.t 4)),oI 15 (.call 43 1 true [(.t 13),(.t 14)])] none []))
def Zm1:ZD:=⟨[],Zpo⟩
theorem ZCt:FC 60=some Zm1:=by kernel_rfl
theorem ZEn:Zm1.body=Zpo:=rfl
theorem Zx6:Zm1.res=[]:=rfl
def Zrc:Ze:=(.seq (.region [oI 3 (.box (.t 1))] none [3,0]) (.seq (.region [oI 4 (.mov (.t 0)),oI 5 (.faddr 4 (.t 3)),oI 6 (.ld none (.t 5)),oI 7 (.call 40 1 true [(.t 4),(.t 6),(.c (.int .i64 2))])] none [3,0]) (.region [oI 8 (.mov (.t 0)),oI 9 (.faddr 0 (.t 3)),oI 10 (.ld none (.t 9)),oI 11 (.faddr 9 (.t 3)),oI 12 (.ld none (.t 11)),oI 13 (.call 41 1 true [(.t 8),(.t 10),(.t 12)])] none [])))
def Zqs:ZD:=⟨[],Zrc⟩
theorem ZJ9:FC 45=some Zqs:=by kernel_rfl
theorem Zzq:Zqs.body=Zrc:=rfl
theorem Zw1:Zqs.res=[]:=rfl
def ZjJ:Ze:=(.region [oI 6 (.mov (.t 0)),oI 7 (.nilchk (.t 6)),oI 8 (.faddr 0 (.t 7)),oI 9 (.mov (.t 1)),oI 10 (.i2i .u64 (.t 9)),oI 11 (.mov (.t 2)),oI 12 (.call 61 0 true [(.t 10),(.t 11)]),oI 13 (.call 43 1 true [(.t 8),(.t 12)])] (some [(6,6),(7,7)]) [])
def ZnI:ZD:=⟨[],ZjJ⟩
theorem Zrx:FC 40=some ZnI:=by kernel_rfl
theorem Zrw:ZnI.body=ZjJ:=rfl
theorem ZtU:ZnI.res=[]:=rfl
def Zov:Ze:=(.seq (.region [oI 9 (.mov (.t 1)),oI 10 (.mov (.t 2)),oI 11 (.call 62 0 true [(.t 9),(.t 10)]),oI 8 (.mov (.t 11)),oI 12 (.ext (.t 8) 0),oI 13 (.ext (.t 8) 1),oI 6 (.mov (.t 12)),oI 7 (.mov (.t 13))] none [6,0]) (.region [oI 14 (.mov (.t 0)),oI 15 (.nilchk (.t 14)),oI 16 (.faddr 0 (.t 15)),oI 17 (.mov (.t 6)),oI 18 (.call 43 1 true [(.t 16),(.t 17)])] none []))
def ZpR:ZD:=⟨[],Zov⟩
theorem ZAV:FC 41=some ZpR:=by kernel_rfl
theorem ZKq:ZpR.body=Zov:=rfl
theorem ZNm:ZpR.res=[]:=rfl
def Zeo:Ze:=(.seq (.region [oI 3 (.box (.t 1))] none [3,0]) (.seq (.seq (.region [oI 4 (.faddr 7 (.t 3)),oI 5 (.ld none (.t 4)),oI 6 (.bin .neq (.t 5) (.c (.int .i64 0))),oI 7 (.mov (.t 6)),⟨(some 8),(.faddr 9 (.t 3)),(some (7,false)),[]⟩,⟨(some 9),(.ld none (.t 8)),(some (7,false)),[]⟩,⟨(some 10),(.len (.t 9)),(some (7,false)),[]⟩,⟨(some 11),(.bin .gtr (.t 10) (.c (.int .i64 0))),(some (7,false)),[]⟩,oI 12 (.pick (.t 7) (.c (.bool true)) (.t 11))] none [12,3,0]) (.cond (.t 12) (.region [oI 13 (.mov (.t 0)),oI 14 (.faddr 7 (.t 3)),oI 15 (.ld none (.t 14)),oI 16 (.call 40 1 true [(.t 13),(.t 15),(.c (.int .i64 1))])] none [3,0]) .skip)) (.seq (.region [oI 17 (.faddr 9 (.t 3)),oI 18 (.ld none (.t 17)),oI 19 (.len (.t 18)),oI 20 (.bin .gtr (.t 19) (.c (.int .i64 0)))] none [20,3,0]) (.cond (.t 20) (.region [oI 21 (.mov (.t 0)),oI 22 (.faddr 0 (.t 3)),oI 23 (.ld none (.t 22)),oI 24 (.faddr 9 (.t 3)),oI 25 (.ld none (.t 24)),oI 26 (.call 41 1 true [(.t 21),(.t 23),(.t 25)])] none []) .skip))))
def Zoh:ZD:=⟨[],Zeo⟩
theorem Zr9:FC 44=some Zoh:=by kernel_rfl
theorem ZfA:Zoh.body=Zeo:=rfl
theorem ZfV:Zoh.res=[]:=rfl
def ZlU:Ze:=(.seq (.region [oI 7 (.mov (.t 1)),oI 8 (.call 63 0 true [(.t 7)]),oI 6 (.mov (.t 8)),oI 9 (.ext (.t 6) 0),oI 10 (.ext (.t 6) 1),oI 4 (.mov (.t 9)),oI 5 (.mov (.t 10))] none [4,0]) (.region [oI 11 (.mov (.t 0)),oI 12 (.nilchk (.t 11)),oI 13 (.faddr 0 (.t 12)),oI 14 (.mov (.t 4)),oI 15 (.call 43 1 true [(.t 13),(.t 14)])] none []))
def ZpW:ZD:=⟨[],ZlU⟩
theorem Zr2:FC 42=some ZpW:=by kernel_rfl
theorem Zwt:ZpW.body=ZlU:=rfl
theorem Zu7:ZpW.res=[]:=rfl
def Zqc:Ze:=(.seq (.region [oI 3 (.box (.t 1)),oI 4 (.mov (.c (.bool false)))] none [3,0]) (.seq (.region [oI 5 (.mov (.t 0)),oI 6 (.call 21 0 true [(.t 5)]),oI 7 (.mkfn 22 [(.t 3)]),oI 8 (.call 20 0 true [(.t 6),(.t 7)]),oI 4 (.mov (.t 8))] none [4]) .ret))
def Zoq:ZD:=⟨[(.tmp 4)],Zqc⟩
theorem ZxI:FC 13=some Zoq:=by kernel_rfl
theorem ZAb:Zoq.body=Zqc:=rfl
theorem ZM9:Zoq.res=[(.tmp 4)]:=rfl
def ZlS:Ze:=(.seq (.region [oI 2 (.box (.t 0)),oI 3 (.mov (.c (.bool false)))] none [2,1]) (.seq (.region [oI 4 (.ld none (.t 1)),oI 5 (.faddr 0 (.t 2)),oI 6 (.ld none (.t 5)),oI 7 (.bin .geq (.t 4) (.t 6)),oI 8 (.mov (.t 7)),⟨(some 9),(.ld none (.t 1)),(some (8,true)),[]⟩,⟨(some 10),(.faddr 1 (.t 2)),(some (8,true)),[]⟩,⟨(some 11),(.ld none (.t 10)),(some (8,true)),[]⟩,⟨(some 12),(.bin .leq (.t 9) (.t 11)),(some (8,true)),[]⟩,oI 13 (.pick (.t 8) (.t 12) (.c (.bool false))),oI 3 (.mov (.t 13))] none [3]) .ret))
def ZpN:ZD:=⟨[(.tmp 3)],ZlS⟩
theorem ZL1:FC 22=some ZpN:=by kernel_rfl
theorem Zul:ZpN.body=ZlS:=rfl
theorem Zu2:ZpN.res=[(.tmp 3)]:=rfl
def Zcj:Ze:=(.seq (.region [oI 1 (.box (.t 0)),oI 2 (.alloc [(.int .u8 0),(.lst true [])]),oI 3 (.mov (.c (.int .i64 0)))] none [2,1]) (.seq (.region [oI 10 (.build [(.lst true []),(.int .i64 0),(.int .i8 0)] []),oI 11 (.box (.t 10)),oI 4 (.mov (.t 11))] none [4,2,1]) (.seq (.region [oI 12 (.mov (.t 4)),oI 13 (.ld (some 26) (.t 1)),oI 14 (.call 25 1 true [(.t 12),(.t 13)])] none [4,2,1]) (.seq (.region [oI 15 (.faddr 0 (.t 1)),oI 16 (.ld none (.t 15)),oI 17 (.bin .shl (.t 16) (.c (.int .u64 4))),oI 18 (.i2i .u8 (.t 17)),oI 19 (.faddr 0 (.t 1)),oI 20 (.ld none (.t 19)),oI 21 (.call 26 0 true [(.t 20)]),oI 22 (.bin .or (.t 18) (.t 21)),oI 23 (.mov (.t 4)),oI 24 (.nilchk (.t 23)),oI 25 (.faddr 0 (.t 24)),oI 26 (.call 27 0 true [(.t 25)]),oI 27 (.bslice false 1 1 (.lst true []) [(0,(.t 26))]),oI 28 (.call 19 0 true [(.t 27)]),oI 29 (.build [(.int .u8 0),(.lst true [])] [(0,1,(.t 22)),(1,1,(.t 28))]),oI 5 (.alloc [(.int .u8 0),(.lst true [])]),oN (.st 2 (.t 5) (.t 29))] (some [(1,5),(1,6),(1,11),(1,12),(1,13),(1,15),(5,15),(6,15),(11,15),(12,15),(13,15)]) [5,2,1]) (.seq (.seq (.region [oI 30 (.faddr 0 (.t 1)),oI 31 (.ld none (.t 30)),oI 32 (.bin .eql (.t 31) (.c (.int .i64 3)))] none [32,5,2,1]) (.cond (.t 32) (.region [oI 33 (.faddr 0 (.t 5)),oI 34 (.ld none (.t 33)),oI 35 (.faddr 1 (.t 1)),oI 36 (.ld none (.t 35)),oI 37 (.call 28 0 true [(.t 36),(.c (.int .i64 8))]),oI 38 (.faddr 2 (.t 1)),oI 39 (.ld none (.t 38)),oI 40 (.bin .and (.t 39) (.c (.int .i64 3))),oI 41 (.bin .mul (.t 40) (.c (.int .i64 2))),oI 42 (.bin .add (.t 37) (.t 41)),oI 43 (.faddr 3 (.t 1)),oI 44 (.ld none (.t 43)),oI 45 (.call 28 0 true [(.t 44),(.c (.int .i64 1))]),oI 46 (.bin .add (.t 42) (.t 45)),oI 47 (.i2i .u8 (.t 46)),oI 48 (.bin .or (.t 34) (.t 47)),oI 49 (.faddr 0 (.t 5)),oN (.st 1 (.t 49) (.t 48))] (some [(1,3),(1,4),(1,6),(3,6),(4,6),(1,11),(3,11),(4,11),(6,11),(1,12),(6,12),(12,12)]) [5,2,1]) .skip)) (.seq (.region [oI 51 (.ld (some 2) (.t 5)),oI 52 (.call 29 0 true [(.t 51)]),oI 50 (.mov (.t 52)),oI 53 (.ext (.t 50) 0),oI 54 (.ext (.t 50) 1),oI 6 (.alloc [(.int .i64 0),(.bool false),(.int .i64 0),(.bool false),(.int .i64 0),(.str []),(.lst true []),(.int .i64 0),(.lst true []),(.lst true []),(.lst true []),(.lst true []),(.bool false),(.int .i64 0),(.str []),(.bool false),(.str []),(.lst true []),(.int .i64 0),(.bool false),(.lst true []),(.bool false),(.str []),(.bool false),(.lst true []),(.bool false)]),oN (.st 26 (.t 6) (.t 53)),oI 7 (.mov (.t 54))] none [7,6,5,2,1]) (.seq (.seq (.region [oI 56 (.faddr 1 (.t 5)),oI 57 (.ld none (.t 56)),oI 58 (.len (.t 57)),oI 59 (.call 18 0 true [(.t 58)]),oI 55 (.mov (.t 59)),oI 60 (.ext (.t 55) 0),oI 61 (.ext (.t 55) 1),oI 8 (.mov (.t 60)),oI 9 (.mov (.t 61))] none [9,7,6,5,2,1]) (.seq (.region [oI 62 (.mov (.t 9)),oI 63 (.bin .neq (.t 62) (.c (.int .i64 0))),oI 64 (.mov (.t 63)),⟨(some 65),(.mov (.t 7)),(some (64,false)),[]⟩,⟨(some 66),(.bin .neq (.t 65) (.c (.int .i64 0))),(some (64,false)),[]⟩,oI 67 (.pick (.t 64) (.c (.bool true)) (.t 66)),oI 68 (.mov (.t 67)),⟨(some 69),(.ld (some 26) (.t 6)),(some (68,false)),[]⟩,⟨(some 70),(.ld (some 26) (.t 1)),(some (68,false)),[]⟩,⟨(some 71),(.call 30 0 true [(.t 69),(.t 70)]),(some (68,false)),[]⟩,⟨(some 72),(.un .not (.t 71)),(some (68,false)),[]⟩,oI 73 (.pick (.t 68) (.c (.bool true)) (.t 72))] none [73,5,2]) (.cond (.t 73) (.seq (.region [oI 74 (.build [(.int .u8 0),(.lst true [])] []),oN (.st 2 (.t 2) (.t 74)),oI 3 (.mov (.c (.int .i64 129)))] none [3,2]) .ret) .skip))) (.seq (.region [oI 75 (.ld (some 2) (.t 5)),oN (.st 2 (.t 2) (.t 75)),oI 3 (.mov (.c (.int .i64 0)))] none [3,2]) .ret))))))))
def Zpf:ZD:=⟨[(.cell 2 (some 2)),(.tmp 3)],Zcj⟩
theorem Zln:FC 17=some Zpf:=by kernel_rfl
theorem Zcy:Zpf.body=Zcj:=rfl
theorem Zcx:Zpf.res=[(.cell 2 (some 2)),(.tmp 3)]:=rfl
def ZkE:Ze:=(.seq (.region [oI 1 (.box (.t 0)),oI 2 (.mov (.c (.lst true []))),oI 3 (.mov (.c (.int .i64 0)))] none [1]) (.seq (.region [oI 9 (.ld (some 26) (.t 1)),oI 10 (.call 17 0 true [(.t 9)]),oI 8 (.mov (.t 10)),oI 11 (.ext (.t 8) 0),oI 12 (.ext (.t 8) 1),oI 4 (.alloc [(.int .u8 0),(.lst true [])]),oN (.st 2 (.t 4) (.t 11)),oI 5 (.mov (.t 12))] none [5,4]) (.seq (.seq (.region [oI 13 (.mov (.t 5)),oI 14 (.bin .neq (.t 13) (.c (.int .i64 0)))] none [14,5,4]) (.cond (.t 14) (.seq (.region [oI 15 (.mov (.t 5)),oI 2 (.mov (.c (.lst true []))),oI 3 (.mov (.t 15))] none [3,2]) .ret) .skip)) (.seq (.region [oI 17 (.faddr 1 (.t 4)),oI 18 (.ld none (.t 17)),oI 19 (.len (.t 18)),oI 20 (.call 18 0 true [(.t 19)]),oI 16 (.mov (.t 20)),oI 21 (.ext (.t 16) 0),oI 22 (.ext (.t 16) 1),oI 6 (.mov (.t 21)),oI 7 (.mov (.t 22))] none [6,4]) (.seq (.region [oI 23 (.faddr 0 (.t 4)),oI 24 (.ld none (.t 23)),oI 25 (.bslice false 1 1 (.int .u8 0) [(0,(.t 24))]),oI 26 (.mov (.t 6)),oI 27 (.faddr 1 (.t 4)),oI 28 (.ld none (.t 27)),oI 29 (.bslice false 1 3 (.lst true []) [(0,(.t 25)),(1,(.t 26)),(2,(.t 28))]),oI 30 (.call 19 0 true [(.t 29)]),oI 2 (.mov (.t 30)),oI 3 (.mov (.c (.int .i64 0)))] none [3,2]) .ret)))))
def Zp3:ZD:=⟨[(.tmp 2),(.tmp 3)],ZkE⟩
theorem Zu0:FC 12=some Zp3:=by kernel_rfl
theorem Zvw:Zp3.body=ZkE:=rfl
theorem Zsm:Zp3.res=[(.tmp 2),(.tmp 3)]:=rfl
def ZmN:Ze:=(.seq (.region [oI 2 (.box (.t 0)),oI 3 (.box (.t 1)),oI 4 (.mov (.c (.bool false)))] none [3,2]) (.seq (.region [oI 9 (.faddr 8 (.t 2)),oI 10 (.ld none (.t 9)),oI 11 (.faddr 8 (.t 3)),oI 12 (.ld none (.t 11)),oI 13 (.call 49 0 true [(.t 10),(.t 12)]),oI 14 (.mov (.t 13)),⟨(some 15),(.faddr 10 (.t 2)),(some (14,true)),[]⟩,⟨(some 16),(.ld none (.t 15)),(some (14,true)),[]⟩,⟨(some 17),(.faddr 10 (.t 3)),(some (14,true)),[]⟩,⟨(some 18),(.ld none (.t 17)),(some (14,true)),[]⟩,⟨(some 19),(.call 50 0 true [(.t 16),(.t 18)]),(some (14,true)),[]⟩,oI 20 (.pick (.t 14) (.t 19) (.c (.bool false))),oI 21 (.mov (.t 20)),⟨(some 22),(.faddr 11 (.t 2)),(some (21,true)),[]⟩,⟨(some 23),(.ld none (.t 22)),(some (21,true)),[]⟩,⟨(some 24),(.faddr 11 (.t 3)),(some (21,true)),[]⟩,⟨(some 25),(.ld none (.t 24)),(some (21,true)),[]⟩,⟨(some 26),(.call 51 0 true [(.t 23),(.t 25)]),(some (21,true)),[]⟩,oI 27 (.pick (.t 21) (.t 26) (.c (.bool false))),oI 28 (.mov (.t 27)),⟨(some 29),(.faddr 9 (.t 2)),(some (28,true)),[]⟩,⟨(some 30),(.ld none (.t 29)),(some (28,true)),[]⟩,⟨(some 31),(.faddr 9 (.t 3)),(some (28,true)),[]⟩,⟨(some 32),(.ld none (.t 31)),(some (28,true)),[]⟩,⟨(some 33),(.call 52 0 true [(.t 30),(.t 32)]),(some (28,true)),[]⟩,oI 34 (.pick (.t 28) (.t 33) (.c (.bool false))),oI 35 (.mov (.t 34)),⟨(some 36),(.faddr 16 (.t 2)),(some (35,true)),[]⟩,⟨(some 37),(.faddr 4 (.t 36)),(some (35,true)),[]⟩,⟨(some 38),(.ld none (.t 37)),(some (35,true)),[]⟩,⟨(some 39),(.faddr 16 (.t 3)),(some (35,true)),[]⟩,⟨(some 40),(.faddr 4 (.t 39)),(some (35,true)),[]⟩,⟨(some 41),(.ld none (.t 40)),(some (35,true)),[]⟩,⟨(some 42),(.call 52 0 true [(.t 38),(.t 41)]),(some (35,true)),[]⟩,oI 43 (.pick (.t 35) (.t 42) (.c (.bool false))),oI 5 (.mov (.t 43))] none [5,3,2]) (.seq (.region [oI 44 (.faddr 6 (.t 2)),oI 45 (.ld none (.t 44)),oI 46 (.b2s (.t 45)),oI 47 (.faddr 6 (.t 3)),oI 48 (.ld none (.t 47)),oI 49 (.b2s (.t 48)),oI 50 (.bin .eql (.t 46) (.t 49)),oI 51 (.mov (.t 50)),⟨(some 52),(.faddr 24 (.t 2)),(some (51,true)),[]⟩,⟨(some 53),(.ld none (.t 52)),(some (51,true)),[]⟩,⟨(some 54),(.b2s (.t 53)),(some (51,true)),[]⟩,⟨(some 55),(.faddr 24 (.t 3)),(some (51,true)),[]⟩,⟨(some 56),(.ld none (.t 55)),(some (51,true)),[]⟩,⟨(some 57),(.b2s (.t 56)),(some (51,true)),[]⟩,⟨(some 58),(.bin .eql (.t 54) (.t 57)),(some (51,true)),[]⟩,oI 59 (.pick (.t 51) (.t 58) (.c (.bool false))),oI 60 (.mov (.t 59)),⟨(some 61),(.faddr 16 (.t 2)),(some (60,true)),[]⟩,⟨(some 62),(.faddr 1 (.t 61)),(some (60,true)),[]⟩,⟨(some 63),(.ld none (.t 62)),(some (60,true)),[]⟩,⟨(some 64),(.b2s (.t 63)),(some (60,true)),[]⟩,⟨(some 65),(.faddr 16 (.t 3)),(some (60,true)),[]⟩,⟨(some 66),(.faddr 1 (.t 65)),(some (60,true)),[]⟩,⟨(some 67),(.ld none (.t 66)),(some (60,true)),[]⟩,⟨(some 68),(.b2s (.t 67)),(some (60,true)),[]⟩,⟨(some 69),(.bin .eql (.t 64) (.t 68)),(some (60,true)),[]⟩,oI 70 (.pick (.t 60) (.t 69) (.c (.bool false))),oI 6 (.mov (.t 70))] none [6,5,3,2]) (.seq (.region [oI 71 (.faddr 16 (.t 2)),oI 72 (.faddr 0 (.t 71)),oI 73 (.ld none (.t 72)),oI 74 (.faddr 16 (.t 3)),oI 75 (.faddr 0 (.t 74)),oI 76 (.ld none (.t 75)),oI 77 (.bin .eql (.t 73) (.t 76)),oI 78 (.mov (.t 77)),⟨(some 79),(.faddr 16 (.t 2)),(some (78,true)),[]⟩,⟨(some 80),(.faddr 2 (.t 79)),(some (78,true)),[]⟩,⟨(some 81),(.ld none (.t 80)),(some (78,true)),[]⟩,⟨(some 82),(.faddr 16 (.t 3)),(some (78,true)),[]⟩,⟨(some 83),(.faddr 2 (.t 82)),(some (78,true)),[]⟩,⟨(some 84),(.ld none (.t 83)),(some (78,true)),[]⟩,⟨(some 85),(.bin .eql (.t 81) (.t 84)),(some (78,true)),[]⟩,oI 86 (.pick (.t 78) (.t 85) (.c (.bool false))),oI 87 (.mov (.t 86)),⟨(some 88),(.faddr 16 (.t 2)),(some (87,true)),[]⟩,⟨(some 89),(.faddr 3 (.t 88)),(some (87,true)),[]⟩,⟨(some 90),(.ld none (.t 89)),(some (87,true)),[]⟩,⟨(some 91),(.faddr 16 (.t 3)),(some (87,true)),[]⟩,⟨(some 92),(.faddr 3 (.t 91)),(some (87,true)),[]⟩,⟨(some 93),(.ld none (.t 92)),(some (87,true)),[]⟩,⟨(some 94),(.beq false (.t 90) (.t 93)),(some (87,true)),[]⟩,oI 95 (.pick (.t 87) (.t 94) (.c (.bool false))),oI 7 (.mov (.t 95))] none [7,6,5,3,2]) (.seq (.region [oI 96 (.faddr 1 (.t 2)),oI 97 (.ld none (.t 96)),oI 98 (.faddr 1 (.t 3)),oI 99 (.ld none (.t 98)),oI 100 (.beq false (.t 97) (.t 99)),oI 101 (.mov (.t 100)),⟨(some 102),(.faddr 3 (.t 2)),(some (101,true)),[]⟩,⟨(some 103),(.ld none (.t 102)),(some (101,true)),[]⟩,⟨(some 104),(.faddr 3 (.t 3)),(some (101,true)),[]⟩,⟨(some 105),(.ld none (.t 104)),(some (101,true)),[]⟩,⟨(some 106),(.beq false (.t 103) (.t 105)),(some (101,true)),[]⟩,oI 107 (.pick (.t 101) (.t 106) (.c (.bool false))),oI 108 (.mov (.t 107)),⟨(some 109),(.faddr 12 (.t 2)),(some (108,true)),[]⟩,⟨(some 110),(.ld none (.t 109)),(some (108,true)),[]⟩,⟨(some 111),(.faddr 12 (.t 3)),(some (108,true)),[]⟩,⟨(some 112),(.ld none (.t 111)),(some (108,true)),[]⟩,⟨(some 113),(.beq false (.t 110) (.t 112)),(some (108,true)),[]⟩,oI 114 (.pick (.t 108) (.t 113) (.c (.bool false))),oI 115 (.mov (.t 114)),⟨(some 116),(.faddr 15 (.t 2)),(some (115,true)),[]⟩,⟨(some 117),(.ld none (.t 116)),(some (115,true)),[]⟩,⟨(some 118),(.faddr 15 (.t 3)),(some (115,true)),[]⟩,⟨(some 119),(.ld none (.t 118)),(some (115,true)),[]⟩,⟨(some 120),(.beq false (.t 117) (.t 119)),(some (115,true)),[]⟩,oI 121 (.pick (.t 115) (.t 120) (.c (.bool false))),oI 122 (.mov (.t 121)),⟨(some 123),(.faddr 21 (.t 2)),(some (122,true)),[]⟩,⟨(some 124),(.ld none (.t 123)),(some (122,true)),[]⟩,⟨(some 125),(.faddr 21 (.t 3)),(some (122,true)),[]⟩,⟨(some 126),(.ld none (.t 125)),(some (122,true)),[]⟩,⟨(some 127),(.beq false (.t 124) (.t 126)),(some (122,true)),[]⟩,oI 128 (.pick (.t 122) (.t 127) (.c (.bool false))),oI 129 (.mov (.t 128)),⟨(some 130),(.faddr 23 (.t 2)),(some (129,true)),[]⟩,⟨(some 131),(.ld none (.t 130)),(some (129,true)),[]⟩,⟨(some 132),(.faddr 23 (.t 3)),(some (129,true)),[]⟩,⟨(some 133),(.ld none (.t 132)),(some (129,true)),[]⟩,⟨(some 134),(.beq false (.t 131) (.t 133)),(some (129,true)),[]⟩,oI 135 (.pick (.t 129) (.t 134) (.c (.bool false))),oI 136 (.mov (.t 135)),⟨(some 137),(.faddr 25 (.t 2)),(some (136,true)),[]⟩,⟨(some 138),(.ld none (.t 137)),(some (136,true)),[]⟩,⟨(some 139),(.faddr 25 (.t 3)),(some (136,true)),[]⟩,⟨(some 140),(.ld none (.t 139)),(some (136,true)),[]⟩,⟨(some 141),(.beq false (.t 138) (.t 140)),(some (136,true)),[]⟩,oI 142 (.pick (.t 136) (.t 141) (.c (.bool false))),oI 8 (.mov (.t 142))] none [8,7,6,5,3,2]) (.seq (.region [oI 143 (.mov (.t 5)),oI 144 (.mov (.t 143)),⟨(some 145),(.mov (.t 6)),(some (144,true)),[]⟩,oI 146 (.pick (.t 144) (.t 145) (.c (.bool false))),oI 147 (.mov (.t 146)),⟨(some 148),(.mov (.t 7)),(some (147,true)),[]⟩,oI 149 (.pick (.t 147) (.t 148) (.c (.bool false))),oI 150 (.mov (.t 149)),⟨(some 151),(.mov (.t 8)),(some (150,true)),[]⟩,oI 152 (.pick (.t 150) (.t 151) (.c (.bool false))),oI 153 (.mov (.t 152)),⟨(some 154),(.faddr 0 (.t 2)),(some (153,true)),[]⟩,⟨(some 155),(.ld none (.t 154)),(some (153,true)),[]⟩,⟨(some 156),(.faddr 0 (.t 3)),(some (153,true)),[]⟩,⟨(some 157),(.ld none (.t 156)),(some (153,true)),[]⟩,⟨(some 158),(.bin .eql (.t 155) (.t 157)),(some (153,true)),[]⟩,oI 159 (.pick (.t 153) (.t 158) (.c (.bool false))),oI 160 (.mov (.t 159)),⟨(some 161),(.faddr 2 (.t 2)),(some (160,true)),[]⟩,⟨(some 162),(.ld none (.t 161)),(some (160,true)),[]⟩,⟨(some 163),(.faddr 2 (.t 3)),(some (160,true)),[]⟩,⟨(some 164),(.ld none (.t 163)),(some (160,true)),[]⟩,⟨(some 165),(.bin .eql (.t 162) (.t 164)),(some (160,true)),[]⟩,oI 166 (.pick (.t 160) (.t 165) (.c (.bool false))),oI 167 (.mov (.t 166)),⟨(some 168),(.faddr 4 (.t 2)),(some (167,true)),[]⟩,⟨(some 169),(.ld none (.t 168)),(some (167,true)),[]⟩,⟨(some 170),(.faddr 4 (.t 3)),(some (167,true)),[]⟩,⟨(some 171),(.ld none (.t 170)),(some (167,true)),[]⟩,⟨(some 172),(.bin .eql (.t 169) (.t 171)),(some (167,true)),[]⟩,oI 173 (.pick (.t 167) (.t 172) (.c (.bool false))),oI 174 (.mov (.t 173)),⟨(some 175),(.faddr 5 (.t 2)),(some (174,true)),[]⟩,⟨(some 176),(.ld none (.t 175)),(some (174,true)),[]⟩,⟨(some 177),(.faddr 5 (.t 3)),(some (174,true)),[]⟩,⟨(some 178),(.ld none (.t 177)),(some (174,true)),[]⟩,⟨(some 179),(.bin .eql (.t 176) (.t 178)),(some (174,true)),[]⟩,oI 180 (.pick (.t 174) (.t 179) (.c (.bool false))),oI 181 (.mov (.t 180)),⟨(some 182),(.faddr 7 (.t 2)),(some (181,true)),[]⟩,⟨(some 183),(.ld none (.t 182)),(some (181,true)),[]⟩,⟨(some 184),(.faddr 7 (.t 3)),(some (181,true)),[]⟩,⟨(some 185),(.ld none (.t 184)),(some (181,true)),[]⟩,⟨(some 186),(.bin .eql (.t 183) (.t 185)),(some (181,true)),[]⟩,oI 187 (.pick (.t 181) (.t 186) (.c (.bool false))),oI 188 (.mov (.t 187)),⟨(some 189),(.faddr 13 (.t 2)),(some (188,true)),[]⟩,⟨(some 190),(.ld none (.t 189)),(some (188,true)),[]⟩,⟨(some 191),(.faddr 13 (.t 3)),(some (188,true)),[]⟩,⟨(some 192),(.ld none (.t 191)),(some (188,true)),[]⟩,⟨(some 193),(.bin .eql (.t 190) (.t 192)),(some (188,true)),[]⟩,oI 194 (.pick (.t 188) (.t 193) (.c (.bool false))),oI 195 (.mov (.t 194)),⟨(some 196),(.faddr 14 (.t 2)),(some (195,true)),[]⟩,⟨(some 197),(.ld none (.t 196)),(some (195,true)),[]⟩,⟨(some 198),(.faddr 14 (.t 3)),(some (195,true)),[]⟩,⟨(some 199),(.ld none (.t 198)),(some (195,true)),[]⟩,⟨(some 200),(.bin .eql (.t 197) (.t 199)),(some (195,true)),[]⟩,oI 201 (.pick (.t 195) (.t 200) (.c (.bool false))),oI 202 (.mov (.t 201)),⟨(some 203),(.faddr 22 (.t 2)),(some (202,true)),[]⟩,⟨(some 204),(.ld none (.t 203)),(some (202,true)),[]⟩,⟨(some 205),(.faddr 22 (.t 3)),(some (202,true)),[]⟩,⟨(some 206),(.ld none (.t 205)),(some (202,true)),[]⟩,⟨(some 207),(.bin .eql (.t 204) (.t 206)),(some (202,true)),[]⟩,oI 208 (.pick (.t 202) (.t 207) (.c (.bool false))),oI 4 (.mov (.t 208))] none [4]) .ret))))))
def Zo2:ZD:=⟨[(.tmp 4)],ZmN⟩
theorem ZN3:FC 30=some Zo2:=by kernel_rfl
theorem ZJM:Zo2.body=ZmN:=rfl
theorem Zz1:Zo2.res=[(.tmp 4)]:=rfl
def ZdG:Ze:=(.seq (.region [oI 2 (.mov (.c (.lst true [])))] none [0]) (.seq (.seq (.region [oI 3 (.mov (.t 0))] none [3]) (.block 0 (.seq (.region [oI 5 (.bin .eql (.t 3) (.c (.int .i64 2))),oI 4 (.mov (.t 5))] none [4,3]) (.cond (.t 4) (.seq (.region [oI 6 (.build [(.int .i64 0),(.int .i64 0)] [(0,1,(.c (.int .i64 0))),(1,1,(.c (.int .i64 0)))]),oI 7 (.build [(.int .i64 0),(.int .i64 0)] [(0,1,(.c (.int .i64 128))),(1,1,(.c (.int .i64 138)))]),oI 8 (.build [(.int .i64 0),(.int .i64 0)] [(0,1,(.c (.int .i64 140))),(1,1,(.c (.int .i64 140)))]),oI 9 (.build [(.int .i64 0),(.int .i64 0)] [(0,1,(.c (.int .i64 144))),(1,1,(.c (.int .i64 144)))]),oI 10 (.build [(.int .i64 0),(.int .i64 0)] [(0,1,(.c (.int .i64 149))),(1,1,(.c (.int .i64 149)))]),oI 11 (.build [(.int .i64 0),(.int .i64 0)] [(0,1,(.c (.int .i64 151))),(1,1,(.c (.int .i64 151)))]),oI 12 (.build [(.int .i64 0),(.int .i64 0)] [(0,1,(.c (.int .i64 153))),(1,1,(.c (.int .i64 157)))]),oI 13 (.build [(.int .i64 0),(.int .i64 0)] [(0,1,(.c (.int .i64 159))),(1,1,(.c (.int .i64 159)))]),oI 14 (.bslice false 2 8 (.agg [(.int .i64 0),(.int .i64 0)]) [(0,(.t 6)),(1,(.t 7)),(2,(.t 8)),(3,(.t 9)),(4,(.t 10)),(5,(.t 11)),(6,(.t 12)),(7,(.t 13))]),oI 2 (.mov (.t 14))] none [2]) .ret) (.seq (.seq (.region [oI 16 (.bin .eql (.t 3) (.c (.int .i64 4))),oI 15 (.mov (.t 16))] none [15,3]) (.cond (.t 15) .skip (.region [oI 17 (.bin .eql (.t 3) (.c (.int .i64 5))),oI 15 (.mov (.t 17))] none [15,3]))) (.cond (.t 15) (.seq (.region [oI 18 (.build [(.int .i64 0),(.int .i64 0)] [(0,1,(.c (.int .i64 0))),(1,1,(.c (.int .i64 0)))]),oI 19 (.build [(.int .i64 0),(.int .i64 0)] [(0,1,(.c (.int .i64 16))),(1,1,(.c (.int .i64 16)))]),oI 20 (.build [(.int .i64 0),(.int .i64 0)] [(0,1,(.c (.int .i64 128))),(1,1,(.c (.int .i64 128)))]),oI 21 (.build [(.int .i64 0),(.int .i64 0)] [(0,1,(.c (.int .i64 131))),(1,1,(.c (.int .i64 131)))]),oI 22 (.build [(.int .i64 0),(.int .i64 0)] [(0,1,(.c (.int .i64 135))),(1,1,(.c (.int .i64 135)))]),oI 23 (.build [(.int .i64 0),(.int .i64 0)] [(0,1,(.c (.int .i64 144))),(1,1,(.c (.int .i64 145)))]),oI 24 (.build [(.int .i64 0),(.int .i64 0)] [(0,1,(.c (.int .i64 151))),(1,1,(.c (.int .i64 151)))]),oI 25 (.build [(.int .i64 0),(.int .i64 0)] [(0,1,(.c (.int .i64 153))),(1,1,(.c (.int .i64 153)))]),oI 26 (.bslice false 2 8 (.agg [(.int .i64 0),(.int .i64 0)]) [(0,(.t 18)),(1,(.t 19)),(2,(.t 20)),(3,(.t 21)),(4,(.t 22)),(5,(.t 23)),(6,(.t 24)),(7,(.t 25))]),oI 2 (.mov (.t 26))] none [2]) .ret) (.seq (.seq (.region [oI 28 (.bin .eql (.t 3) (.c (.int .i64 6))),oI 27 (.mov (.t 28))] none [27,3]) (.cond (.t 27) .skip (.region [oI 29 (.bin .eql (.t 3) (.c (.int .i64 7))),oI 27 (.mov (.t 29))] none [27,3]))) (.cond (.t 27) (.seq (.region [oI 30 (.build [(.int .i64 0),(.int .i64 0)] [(0,1,(.c (.int .i64 0))),(1,1,(.c (.int .i64 0)))]),oI 31 (.build [(.int .i64 0),(.int .i64 0)] [(0,1,(.c (.int .i64 146))),(1,1,(.c (.int .i64 146)))]),oI 32 (.bslice false 2 2 (.agg [(.int .i64 0),(.int .i64 0)]) [(0,(.t 30)),(1,(.t 31))]),oI 2 (.mov (.t 32))] none [2]) .ret) (.seq (.region [oI 34 (.bin .eql (.t 3) (.c (.int .i64 9))),oI 33 (.mov (.t 34))] none [33,3]) (.cond (.t 33) (.seq (.region [oI 35 (.build [(.int .i64 0),(.int .i64 0)] [(0,1,(.c (.int .i64 0))),(1,1,(.c (.int .i64 2)))]),oI 36 (.build [(.int .i64 0),(.int .i64 0)] [(0,1,(.c (.int .i64 128))),(1,1,(.c (.int .i64 128)))]),oI 37 (.build [(.int .i64 0),(.int .i64 0)] [(0,1,(.c (.int .i64 131))),(1,1,(.c (.int .i64 131)))]),oI 38 (.build [(.int .i64 0),(.int .i64 0)] [(0,1,(.c (.int .i64 135))),(1,1,(.c (.int .i64 135)))]),oI 39 (.build [(.int .i64 0),(.int .i64 0)] [(0,1,(.c (.int .i64 143))),(1,1,(.c (.int .i64 143)))]),oI 40 (.build [(.int .i64 0),(.int .i64 0)] [(0,1,(.c (.int .i64 145))),(1,1,(.c (.int .i64 145)))]),oI 41 (.build [(.int .i64 0),(.int .i64 0)] [(0,1,(.c (.int .i64 151))),(1,1,(.c (.int .i64 151)))]),oI 42 (.build [(.int .i64 0),(.int .i64 0)] [(0,1,(.c (.int .i64 158))),(1,1,(.c (.int .i64 158)))]),oI 43 (.build [(.int .i64 0),(.int .i64 0)] [(0,1,(.c (.int .i64 161))),(1,1,(.c (.int .i64 162)))]),oI 44 (.bslice false 2 9 (.agg [(.int .i64 0),(.int .i64 0)]) [(0,(.t 35)),(1,(.t 36)),(2,(.t 37)),(3,(.t 38)),(4,(.t 39)),(5,(.t 40)),(6,(.t 41)),(7,(.t 42)),(8,(.t 43))]),oI 2 (.mov (.t 44))] none [2]) .ret) (.seq (.region [oI 46 (.bin .eql (.t 3) (.c (.int .i64 11))),oI 45 (.mov (.t 46))] none [45,3]) (.cond (.t 45) (.seq (.region [oI 47 (.build [(.int .i64 0),(.int .i64 0)] [(0,1,(.c (.int .i64 0))),(1,1,(.c (.int .i64 0)))]),oI 48 (.build [(.int .i64 0),(.int .i64 0)] [(0,1,(.c (.int .i64 17))),(1,1,(.c (.int .i64 17)))]),oI 49 (.build [(.int .i64 0),(.int .i64 0)] [(0,1,(.c (.int .i64 128))),(1,1,(.c (.int .i64 128)))]),oI 50 (.build [(.int .i64 0),(.int .i64 0)] [(0,1,(.c (.int .i64 131))),(1,1,(.c (.int .i64 131)))]),oI 51 (.build [(.int .i64 0),(.int .i64 0)] [(0,1,(.c (.int .i64 135))),(1,1,(.c (.int .i64 135)))]),oI 52 (.build [(.int .i64 0),(.int .i64 0)] [(0,1,(.c (.int .i64 143))),(1,1,(.c (.int .i64 143)))]),oI 53 (.build [(.int .i64 0),(.int .i64 0)] [(0,1,(.c (.int .i64 145))),(1,1,(.c (.int .i64 145)))]),oI 54 (.bslice false 2 7 (.agg [(.int .i64 0),(.int .i64 0)]) [(0,(.t 47)),(1,(.t 48)),(2,(.t 49)),(3,(.t 50)),(4,(.t 51)),(5,(.t 52)),(6,(.t 53))]),oI 2 (.mov (.t 54))] none [2]) .ret) (.seq (.region [oI 56 (.bin .eql (.t 3) (.c (.int .i64 14))),oI 55 (.mov (.t 56))] none [55,3]) (.cond (.t 55) (.seq (.region [oI 57 (.build [(.int .i64 0),(.int .i64 0)] [(0,1,(.c (.int .i64 0))),(1,1,(.c (.int .i64 0)))]),oI 58 (.build [(.int .i64 0),(.int .i64 0)] [(0,1,(.c (.int .i64 4))),(1,1,(.c (.int .i64 4)))]),oI 59 (.build [(.int .i64 0),(.int .i64 0)] [(0,1,(.c (.int .i64 128))),(1,1,(.c (.int .i64 131)))]),oI 60 (.build [(.int .i64 0),(.int .i64 0)] [(0,1,(.c (.int .i64 135))),(1,1,(.c (.int .i64 135)))]),oI 61 (.build [(.int .i64 0),(.int .i64 0)] [(0,1,(.c (.int .i64 137))),(1,1,(.c (.int .i64 137)))]),oI 62 (.build [(.int .i64 0),(.int .i64 0)] [(0,1,(.c (.int .i64 139))),(1,1,(.c (.int .i64 139)))]),oI 63 (.build [(.int .i64 0),(.int .i64 0)] [(0,1,(.c (.int .i64 141))),(1,1,(.c (.int .i64 144)))]),oI 64 (.build [(.int .i64 0),(.int .i64 0)] [(0,1,(.c (.int .i64 147))),(1,1,(.c (.int .i64 162)))]),oI 65 (.bslice false 2 8 (.agg [(.int .i64 0),(.int .i64 0)]) [(0,(.t 57)),(1,(.t 58)),(2,(.t 59)),(3,(.t 60)),(4,(.t 61)),(5,(.t 62)),(6,(.t 63)),(7,(.t 64))]),oI 2 (.mov (.t 65))] none [2]) .ret) (.seq (.region [oI 67 (.bin .eql (.t 3) (.c (.int .i64 15))),oI 66 (.mov (.t 67))] none [66]) (.cond (.t 66) (.seq (.region [oI 68 (.build [(.int .i64 0),(.int .i64 0)] [(0,1,(.c (.int .i64 0))),(1,1,(.c (.int .i64 0)))]),oI 69 (.build [(.int .i64 0),(.int .i64 0)] [(0,1,(.c (.int .i64 24))),(1,1,(.c (.int .i64 25)))]),oI 70 (.bslice false 2 2 (.agg [(.int .i64 0),(.int .i64 0)]) [(0,(.t 68)),(1,(.t 69))]),oI 2 (.mov (.t 70))] none [2]) .ret) .skip)))))))))))))))) (.seq (.region [oI 2 (.mov (.c (.lst true [])))] none [2]) .ret)))
def Zpj:ZD:=⟨[(.tmp 2)],ZdG⟩
theorem Zem:FC 21=some Zpj:=by kernel_rfl
theorem ZeR:Zpj.body=ZdG:=rfl
theorem ZeS:Zpj.res=[(.tmp 2)]:=rfl
def Zhu:Ze:=(.seq (.region [oI 2 (.mov (.c (.int .u8 0)))] none [0]) (.seq (.seq (.region [oI 3 (.mov (.t 0))] none [3]) (.block 0 (.seq (.seq (.region [oI 5 (.bin .eql (.t 3) (.c (.int .i64 6))),oI 4 (.mov (.t 5))] none [4,3]) (.cond (.t 4) .skip (.seq (.region [oI 6 (.bin .eql (.t 3) (.c (.int .i64 8))),oI 4 (.mov (.t 6))] none [4,3]) (.cond (.t 4) .skip (.region [oI 7 (.bin .eql (.t 3) (.c (.int .i64 10))),oI 4 (.mov (.t 7))] none [4]))))) (.cond (.t 4) (.seq (.region [oI 2 (.mov (.c (.int .u8 2)))] none [2]) .ret) .skip)))) (.seq (.region [oI 2 (.mov (.c (.int .u8 0)))] none [2]) .ret)))
def ZmO:ZD:=⟨[(.tmp 2)],Zhu⟩
theorem Zl1:FC 26=some ZmO:=by kernel_rfl
theorem Zlc:ZmO.body=Zhu:=rfl
theorem Zla:ZmO.res=[(.tmp 2)]:=rfl
def Znu:Ze:=(.seq (.region [oI 4 (.mov (.c (.int .i64 0)))] none [1,0]) (.seq (.seq (.region [oI 5 (.mov (.t 0))] none [5,1]) (.cond (.t 5) (.seq (.region [oI 6 (.mov (.t 1)),oI 4 (.mov (.t 6))] none [4]) .ret) .skip)) (.seq (.region [oI 4 (.mov (.c (.int .i64 0)))] none [4]) .ret)))
def ZpT:ZD:=⟨[(.tmp 4)],Znu⟩
theorem ZI9:FC 28=some ZpT:=by kernel_rfl
theorem ZHQ:ZpT.body=Znu:=rfl
theorem ZFZ:ZpT.res=[(.tmp 4)]:=rfl
def ZlC:Ze:=(.seq (.region [oI 4 (.mov (.t 0)),oI 5 (.un .not (.t 4))] none [5,1]) (.cond (.t 5) (.region [oI 6 (.mov (.t 1)),oI 7 (.mki 29 (.t 6)),oN (.panic (.t 7))] none []) .skip))
def ZqD:ZD:=⟨[],ZlC⟩
theorem ZvI:FC 66=some ZqD:=by kernel_rfl
theorem Zt0:ZqD.body=ZlC:=rfl
theorem Zy0:ZqD.res=[]:=rfl
def Zp5:Ze:=(.seq (.region [oI 218 (.faddr 16 (.t 2)),oI 219 (.ld (some 5) (.t 218)),oI 220 (.faddr 16 (.t 3)),oI 221 (.ld (some 5) (.t 220)),oI 8 (.alloc [(.str []),(.lst true []),(.int .i64 0),(.bool false),(.lst true [])]),oI 9 (.alloc [(.str []),(.lst true []),(.int .i64 0),(.bool false),(.lst true [])]),oN (.st 5 (.t 8) (.t 219)),oN (.st 5 (.t 9) (.t 221))] (some [(1,3),(1,4),(3,4),(1,5),(3,5),(4,5),(3,6)]) [9,8]) (.seq (.region [oI 222 (.faddr 0 (.t 8)),oI 223 (.ld none (.t 222)),oI 224 (.faddr 0 (.t 9)),oI 225 (.ld none (.t 224)),oI 226 (.bin .eql (.t 223) (.t 225)),oI 227 (.mov (.t 226)),⟨(some 228),(.faddr 1 (.t 8)),(some (227,true)),[]⟩,⟨(some 229),(.ld none (.t 228)),(some (227,true)),[]⟩,⟨(some 230),(.b2s (.t 229)),(some (227,true)),[]⟩,⟨(some 231),(.faddr 1 (.t 9)),(some (227,true)),[]⟩,⟨(some 232),(.ld none (.t 231)),(some (227,true)),[]⟩,⟨(some 233),(.b2s (.t 232)),(some (227,true)),[]⟩,⟨(some 234),(.bin .eql (.t 230) (.t 233)),(some (227,true)),[]⟩,oI 235 (.pick (.t 227) (.t 234) (.c (.bool false))),oI 236 (.mov (.t 235)),⟨(some 237),(.faddr 2 (.t 8)),(some (236,true)),[]⟩,⟨(some 238),(.ld none (.t 237)),(some (236,true)),[]⟩,⟨(some 239),(.faddr 2 (.t 9)),(some (236,true)),[]⟩,⟨(some 240),(.ld none (.t 239)),(some (236,true)),[]⟩,⟨(some 241),(.bin .eql (.t 238) (.t 240)),(some (236,true)),[]⟩,oI 242 (.pick (.t 236) (.t 241) (.c (.bool false))),oI 243 (.mov (.t 242)),⟨(some 244),(.faddr 3 (.t 8)),(some (243,true)),[]⟩,⟨(some 245),(.ld none (.t 244)),(some (243,true)),[]⟩,⟨(some 246),(.faddr 3 (.t 9)),(some (243,true)),[]⟩,⟨(some 247),(.ld none (.t 246)),(some (243,true)),[]⟩,⟨(some 248),(.beq false (.t 245) (.t 247)),(some (243,true)),[]⟩,oI 249 (.pick (.t 243) (.t 248) (.c (.bool false))),oI 250 (.mov (.t 249)),⟨(some 251),(.faddr 4 (.t 8)),(some (250,true)),[]⟩,⟨(some 252),(.ld none (.t 251)),(some (250,true)),[]⟩,⟨(some 253),(.faddr 4 (.t 9)),(some (250,true)),[]⟩,⟨(some 254),(.ld none (.t 253)),(some (250,true)),[]⟩,⟨(some 255),(.call 16 0 true [(.t 252),(.t 254)]),(some (250,true)),[]⟩,oI 256 (.pick (.t 250) (.t 255) (.c (.bool false))),oI 4 (.mov (.t 256))] none [4]) .ret))
def Zsy:Ze:=Zp5
def ZF3:=xw Zsy Zp5 rfl
def Zqr:Ze:=(.seq (.seq (.region [oI 200 (.mov (.t 7)),oI 201 (.faddr 11 (.t 2)),oI 202 (.ld none (.t 201)),oI 203 (.len (.t 202)),oI 204 (.bin .lss (.t 200) (.t 203))] none [204,7,3,2]) (.cond (.t 204) .skip (.exit 4))) (.seq (.block 5 (.seq (.region [oI 207 (.faddr 11 (.t 2)),oI 208 (.ld none (.t 207)),oI 209 (.mov (.t 7)),oI 210 (.iaddr 1 (.t 208) (.t 209)),oI 211 (.ld none (.t 210)),oI 212 (.faddr 11 (.t 3)),oI 213 (.ld none (.t 212)),oI 214 (.mov (.t 7)),oI 215 (.iaddr 1 (.t 213) (.t 214)),oI 216 (.ld none (.t 215)),oI 217 (.bin .neq (.t 211) (.t 216))] (some [(1,6),(3,6),(4,6),(1,8),(3,8),(4,8),(1,9),(3,9),(4,9)]) [217,7,3,2]) (.cond (.t 217) (.seq (.region [oI 4 (.mov (.c (.bool false)))] none [4]) .ret) .skip))) (.region [oI 205 (.mov (.t 7)),oI 206 (.bin .add (.t 205) (.c (.int .i64 1))),oI 7 (.mov (.t 206))] none [7,3,2])))
def ZtG:Ze:=Zqr
def ZBQ:=xw ZtG Zqr rfl
def ZpB:Ze:=(.seq (.seq (.region [oI 7 (.mov (.c (.int .i64 0)))] none [7,3,2]) (.block 4 (.loop [7,3,2] ZtG))) Zsy)
def Zu4:Ze:=ZpB
def ZOh:=xw Zu4 ZpB rfl
def ZmT:Ze:=(.seq (.seq (.region [oI 182 (.mov (.t 6)),oI 183 (.faddr 10 (.t 2)),oI 184 (.ld none (.t 183)),oI 185 (.len (.t 184)),oI 186 (.bin .lss (.t 182) (.t 185))] none [186,6,3,2]) (.cond (.t 186) .skip (.exit 2))) (.seq (.block 3 (.seq (.region [oI 189 (.faddr 10 (.t 2)),oI 190 (.ld none (.t 189)),oI 191 (.mov (.t 6)),oI 192 (.iaddr 6 (.t 190) (.t 191)),oI 193 (.ld (some 6) (.t 192)),oI 194 (.faddr 10 (.t 3)),oI 195 (.ld none (.t 194)),oI 196 (.mov (.t 6)),oI 197 (.iaddr 6 (.t 195) (.t 196)),oI 198 (.ld (some 6) (.t 197)),oI 199 (.eqv true [2,0,1,1,0,0] (.t 193) (.t 198))] (some [(1,6),(3,6),(4,6),(1,8),(3,8),(4,8),(1,9),(3,9),(4,9)]) [199,6,3,2]) (.cond (.t 199) (.seq (.region [oI 4 (.mov (.c (.bool false)))] none [4]) .ret) .skip))) (.region [oI 187 (.mov (.t 6)),oI 188 (.bin .add (.t 187) (.c (.int .i64 1))),oI 6 (.mov (.t 188))] none [6,3,2])))
def Zv6:Ze:=ZmT
def ZE4:=xw Zv6 ZmT rfl
def ZoG:Ze:=(.seq (.seq (.region [oI 6 (.mov (.c (.int .i64 0)))] none [6,3,2]) (.block 2 (.loop [6,3,2] Zv6))) Zu4)
def Zrn:Ze:=ZoG
def ZxL:=xw Zrn ZoG rfl
def ZpZ:Ze:=(.seq (.seq (.region [oI 164 (.mov (.t 5)),oI 165 (.faddr 8 (.t 2)),oI 166 (.ld none (.t 165)),oI 167 (.len (.t 166)),oI 168 (.bin .lss (.t 164) (.t 167))] none [168,5,3,2]) (.cond (.t 168) .skip (.exit 0))) (.seq (.block 1 (.seq (.region [oI 171 (.faddr 8 (.t 2)),oI 172 (.ld none (.t 171)),oI 173 (.mov (.t 5)),oI 174 (.iaddr 1 (.t 172) (.t 173)),oI 175 (.ld none (.t 174)),oI 176 (.faddr 8 (.t 3)),oI 177 (.ld none (.t 176)),oI 178 (.mov (.t 5)),oI 179 (.iaddr 1 (.t 177) (.t 178)),oI 180 (.ld none (.t 179)),oI 181 (.bin .neq (.t 175) (.t 180))] (some [(1,6),(3,6),(4,6),(1,8),(3,8),(4,8),(1,9),(3,9),(4,9)]) [181,5,3,2]) (.cond (.t 181) (.seq (.region [oI 4 (.mov (.c (.bool false)))] none [4]) .ret) .skip))) (.region [oI 169 (.mov (.t 5)),oI 170 (.bin .add (.t 169) (.c (.int .i64 1))),oI 5 (.mov (.t 170))] none [5,3,2])))
def Zwe:Ze:=ZpZ
def ZHd:=xw Zwe ZpZ rfl
def Zqy:Ze:=(.seq (.region [oI 2 (.box (.t 0)),oI 3 (.box (.t 1)),oI 4 (.mov (.c (.bool false)))] none [3,2]) (.seq (.seq (.region [oI 10 (.faddr 0 (.t 2)),oI 11 (.ld none (.t 10)),oI 12 (.faddr 0 (.t 3)),oI 13 (.ld none (.t 12)),oI 14 (.bin .neq (.t 11) (.t 13)),oI 15 (.mov (.t 14)),⟨(some 16),(.faddr 1 (.t 2)),(some (15,false)),[]⟩,⟨(some 17),(.ld none (.t 16)),(some (15,false)),[]⟩,⟨(some 18),(.faddr 1 (.t 3)),(some (15,false)),[]⟩,⟨(some 19),(.ld none (.t 18)),(some (15,false)),[]⟩,⟨(some 20),(.beq true (.t 17) (.t 19)),(some (15,false)),[]⟩,oI 21 (.pick (.t 15) (.c (.bool true)) (.t 20)),oI 22 (.mov (.t 21)),⟨(some 23),(.faddr 2 (.t 2)),(some (22,false)),[]⟩,⟨(some 24),(.ld none (.t 23)),(some (22,false)),[]⟩,⟨(some 25),(.faddr 2 (.t 3)),(some (22,false)),[]⟩,⟨(some 26),(.ld none (.t 25)),(some (22,false)),[]⟩,⟨(some 27),(.bin .neq (.t 24) (.t 26)),(some (22,false)),[]⟩,oI 28 (.pick (.t 22) (.c (.bool true)) (.t 27)),oI 29 (.mov (.t 28)),⟨(some 30),(.faddr 3 (.t 2)),(some (29,false)),[]⟩,⟨(some 31),(.ld none (.t 30)),(some (29,false)),[]⟩,⟨(some 32),(.faddr 3 (.t 3)),(some (29,false)),[]⟩,⟨(some 33),(.ld none (.t 32)),(some (29,false)),[]⟩,⟨(some 34),(.beq true (.t 31) (.t 33)),(some (29,false)),[]⟩,oI 35 (.pick (.t 29) (.c (.bool true)) (.t 34)),oI 36 (.mov (.t 35)),⟨(some 37),(.faddr 4 (.t 2)),(some (36,false)),[]⟩,⟨(some 38),(.ld none (.t 37)),(some (36,false)),[]⟩,⟨(some 39),(.faddr 4 (.t 3)),(some (36,false)),[]⟩,⟨(some 40),(.ld none (.t 39)),(some (36,false)),[]⟩,⟨(some 41),(.bin .neq (.t 38) (.t 40)),(some (36,false)),[]⟩,oI 42 (.pick (.t 36) (.c (.bool true)) (.t 41)),oI 43 (.mov (.t 42)),⟨(some 44),(.faddr 5 (.t 2)),(some (43,false)),[]⟩,⟨(some 45),(.ld none (.t 44)),(some (43,false)),[]⟩,⟨(some 46),(.faddr 5 (.t 3)),(some (43,false)),[]⟩,⟨(some 47),(.ld none (.t 46)),(some (43,false)),[]⟩,⟨(some 48),(.bin .neq (.t 45) (.t 47)),(some (43,false)),[]⟩,oI 49 (.pick (.t 43) (.c (.bool true)) (.t 48)),oI 50 (.mov (.t 49)),⟨(some 51),(.faddr 7 (.t 2)),(some (50,false)),[]⟩,⟨(some 52),(.ld none (.t 51)),(some (50,false)),[]⟩,⟨(some 53),(.faddr 7 (.t 3)),(some (50,false)),[]⟩,⟨(some 54),(.ld none (.t 53)),(some (50,false)),[]⟩,⟨(some 55),(.bin .neq (.t 52) (.t 54)),(some (50,false)),[]⟩,oI 56 (.pick (.t 50) (.c (.bool true)) (.t 55)),oI 57 (.mov (.t 56)),⟨(some 58),(.faddr 12 (.t 2)),(some (57,false)),[]⟩,⟨(some 59),(.ld none (.t 58)),(some (57,false)),[]⟩,⟨(some 60),(.faddr 12 (.t 3)),(some (57,false)),[]⟩,⟨(some 61),(.ld none (.t 60)),(some (57,false)),[]⟩,⟨(some 62),(.beq true (.t 59) (.t 61)),(some (57,false)),[]⟩,oI 63 (.pick (.t 57) (.c (.bool true)) (.t 62)),oI 64 (.mov (.t 63)),⟨(some 65),(.faddr 13 (.t 2)),(some (64,false)),[]⟩,⟨(some 66),(.ld none (.t 65)),(some (64,false)),[]⟩,⟨(some 67),(.faddr 13 (.t 3)),(some (64,false)),[]⟩,⟨(some 68),(.ld none (.t 67)),(some (64,false)),[]⟩,⟨(some 69),(.bin .neq (.t 66) (.t 68)),(some (64,false)),[]⟩,oI 70 (.pick (.t 64) (.c (.bool true)) (.t 69)),oI 71 (.mov (.t 70)),⟨(some 72),(.faddr 14 (.t 2)),(some (71,false)),[]⟩,⟨(some 73),(.ld none (.t 72)),(some (71,false)),[]⟩,⟨(some 74),(.faddr 14 (.t 3)),(some (71,false)),[]⟩,⟨(some 75),(.ld none (.t 74)),(some (71,false)),[]⟩,⟨(some 76),(.bin .neq (.t 73) (.t 75)),(some (71,false)),[]⟩,oI 77 (.pick (.t 71) (.c (.bool true)) (.t 76)),oI 78 (.mov (.t 77)),⟨(some 79),(.faddr 15 (.t 2)),(some (78,false)),[]⟩,⟨(some 80),(.ld none (.t 79)),(some (78,false)),[]⟩,⟨(some 81),(.faddr 15 (.t 3)),(some (78,false)),[]⟩,⟨(some 82),(.ld none (.t 81)),(some (78,false)),[]⟩,⟨(some 83),(.beq true (.t 80) (.t 82)),(some (78,false)),[]⟩,oI 84 (.pick (.t 78) (.c (.bool true)) (.t 83)),oI 85 (.mov (.t 84)),⟨(some 86),(.faddr 21 (.t 2)),(some (85,false)),[]⟩,⟨(some 87),(.ld none (.t 86)),(some (85,false)),[]⟩,⟨(some 88),(.faddr 21 (.t 3)),(some (85,false)),[]⟩,⟨(some 89),(.ld none (.t 88)),(some (85,false)),[]⟩,⟨(some 90),(.beq true (.t 87) (.t 89)),(some (85,false)),[]⟩,oI 91 (.pick (.t 85) (.c (.bool true)) (.t 90)),oI 92 (.mov (.t 91)),⟨(some 93),(.faddr 22 (.t 2)),(some (92,false)),[]⟩,⟨(some 94),(.ld none (.t 93)),(some (92,false)),[]⟩,⟨(some 95),(.faddr 22 (.t 3)),(some (92,false)),[]⟩,⟨(some 96),(.ld none (.t 95)),(some (92,false)),[]⟩,⟨(some 97),(.bin .neq (.t 94) (.t 96)),(some (92,false)),[]⟩,oI 98 (.pick (.t 92) (.c (.bool true)) (.t 97)),oI 99 (.mov (.t 98)),⟨(some 100),(.faddr 23 (.t 2)),(some (99,false)),[]⟩,⟨(some 101),(.ld none (.t 100)),(some (99,false)),[]⟩,⟨(some 102),(.faddr 23 (.t 3)),(some (99,false)),[]⟩,⟨(some 103),(.ld none (.t 102)),(some (99,false)),[]⟩,⟨(some 104),(.beq true (.t 101) (.t 103)),(some (99,false)),[]⟩,oI 105 (.pick (.t 99) (.c (.bool true)) (.t 104)),oI 106 (.mov (.t 105)),⟨(some 107),(.faddr 25 (.t 2)),(some (106,false)),[]⟩,⟨(some 108),(.ld none (.t 107)),(some (106,false)),[]⟩,⟨(some 109),(.faddr 25 (.t 3)),(some (106,false)),[]⟩,⟨(some 110),(.ld none (.t 109)),(some (106,false)),[]⟩,⟨(some 111),(.beq true (.t 108) (.t 110)),(some (106,false)),[]⟩,oI 112 (.pick (.t 106) (.c (.bool true)) (.t 111))] none [112,3,2]) (.cond (.t 112) (.seq (.region [oI 4 (.mov (.c (.bool false)))] none [4]) .ret) .skip)) (.seq (.seq (.region [oI 113 (.faddr 6 (.t 2)),oI 114 (.ld none (.t 113)),oI 115 (.b2s (.t 114)),oI 116 (.faddr 6 (.t 3)),oI 117 (.ld none (.t 116)),oI 118 (.b2s (.t 117)),oI 119 (.bin .neq (.t 115) (.t 118)),oI 120 (.mov (.t 119)),⟨(some 121),(.faddr 24 (.t 2)),(some (120,false)),[]⟩,⟨(some 122),(.ld none (.t 121)),(some (120,false)),[]⟩,⟨(some 123),(.b2s (.t 122)),(some (120,false)),[]⟩,⟨(some 124),(.faddr 24 (.t 3)),(some (120,false)),[]⟩,⟨(some 125),(.ld none (.t 124)),(some (120,false)),[]⟩,⟨(some 126),(.b2s (.t 125)),(some (120,false)),[]⟩,⟨(some 127),(.bin .neq (.t 123) (.t 126)),(some (120,false)),[]⟩,oI 128 (.pick (.t 120) (.c (.bool true)) (.t 127)),oI 129 (.mov (.t 128)),⟨(some 130),(.faddr 9 (.t 2)),(some (129,false)),[]⟩,⟨(some 131),(.ld none (.t 130)),(some (129,false)),[]⟩,⟨(some 132),(.faddr 9 (.t 3)),(some (129,false)),[]⟩,⟨(some 133),(.ld none (.t 132)),(some (129,false)),[]⟩,⟨(some 134),(.call 16 0 true [(.t 131),(.t 133)]),(some (129,false)),[]⟩,⟨(some 135),(.un .not (.t 134)),(some (129,false)),[]⟩,oI 136 (.pick (.t 129) (.c (.bool true)) (.t 135)),oI 137 (.mov (.t 136)),⟨(some 138),(.faddr 8 (.t 2)),(some (137,false)),[]⟩,⟨(some 139),(.ld none (.t 138)),(some (137,false)),[]⟩,⟨(some 140),(.len (.t 139)),(some (137,false)),[]⟩,⟨(some 141),(.faddr 8 (.t 3)),(some (137,false)),[]⟩,⟨(some 142),(.ld none (.t 141)),(some (137,false)),[]⟩,⟨(some 143),(.len (.t 142)),(some (137,false)),[]⟩,⟨(some 144),(.bin .neq (.t 140) (.t 143)),(some (137,false)),[]⟩,oI 145 (.pick (.t 137) (.c (.bool true)) (.t 144)),oI 146 (.mov (.t 145)),⟨(some 147),(.faddr 10 (.t 2)),(some (146,false)),[]⟩,⟨(some 148),(.ld none (.t 147)),(some (146,false)),[]⟩,⟨(some 149),(.len (.t 148)),(some (146,false)),[]⟩,⟨(some 150),(.faddr 10 (.t 3)),(some (146,false)),[]⟩,⟨(some 151),(.ld none (.t 150)),(some (146,false)),[]⟩,⟨(some 152),(.len (.t 151)),(some (146,false)),[]⟩,⟨(some 153),(.bin .neq (.t 149) (.t 152)),(some (146,false)),[]⟩,oI 154 (.pick (.t 146) (.c (.bool true)) (.t 153)),oI 155 (.mov (.t 154)),⟨(some 156),(.faddr 11 (.t 2)),(some (155,false)),[]⟩,⟨(some 157),(.ld none (.t 156)),(some (155,false)),[]⟩,⟨(some 158),(.len (.t 157)),(some (155,false)),[]⟩,⟨(some 159),(.faddr 11 (.t 3)),(some (155,false)),[]⟩,⟨(some 160),(.ld none (.t 159)),(some (155,false)),[]⟩,⟨(some 161),(.len (.t 160)),(some (155,false)),[]⟩,⟨(some 162),(.bin .neq (.t 158) (.t 161)),(some (155,false)),[]⟩,oI 163 (.pick (.t 155) (.c (.bool true)) (.t 162))] none [163,3,2]) (.cond (.t 163) (.seq (.region [oI 4 (.mov (.c (.bool false)))] none [4]) .ret) .skip)) (.seq (.seq (.region [oI 5 (.mov (.c (.int .i64 0)))] none [5,3,2]) (.block 0 (.loop [5,3,2] Zwe))) Zrn))))
def ZmL:ZD:=⟨[(.tmp 4)],Zqy⟩
theorem ZDH:FC 8=some ZmL:=by kernel_rfl
theorem ZJD:ZmL.body=Zqy:=rfl
theorem ZKX:ZmL.res=[(.tmp 4)]:=rfl
end
section
def Zx (c:Int):AVal:=.iface 29 (.int .i64 c)
theorem Zbd (c:Int) (σ:Za) (sq own:Nat):Zk E BY σ sq 66 own true [.bool true,.int .i64 c]=some (.tup [],σ,{}):=by
 have h:E 66 [.bool true,.int .i64 c] []=some (.tup [],[]):=by
  rw [Zg (by rfl) ZvI]
  simp -implicitDefEqProofs only [EQA,Zq,Nat.reduceLT,Nat.reduceEqDiff,unA,reduceCtorEq,↓reduceIte,Zd,Zt0,ZlC,Zy0,oI,oN]
 exact Zcp (h) (by kernel_rfl) (by simp -implicitDefEqProofs only [ZcS,Zbq,eq_self,eq_self]) (by simp -implicitDefEqProofs only [ZE,Zbq,eq_self,eq_self]) rfl (fun _=>rfl) _ _ _ _
theorem Zbz (c:Int) (σ:Za) (sq own:Nat):Zk E BY σ sq 66 own true [.bool false,.int .i64 c]=some (.pan (Zx c),σ,{}):=by
 have h:E 66 [.bool false,.int .i64 c] []=some (.pan (Zx c),[]):=by
  rw [Zg (by rfl) ZvI]
  simp -implicitDefEqProofs only [EQA,Zq,Nat.reduceLT,Nat.reduceEqDiff,unA,reduceCtorEq,↓reduceIte,Zt0,ZlC,oI,oN,Zx]
 exact Zcp (h) (by kernel_rfl) (by simp -implicitDefEqProofs only [ZcS,Zbq,eq_self]) (by simp -implicitDefEqProofs only [ZE,Zbq,eq_self]) rfl (fun _=>rfl) _ _ _ _
theorem ZaD {xs ys:List AVal} (h:Zd xs=true) (h':Zd ys=true):Zd (xs++ys)=true:=by
 induction xs with
 | nil=>exact h'
 | cons x xs ih =>
  simp only [Zd,Bool.and_eq_true,List.cons_append] at h ⊢
  exact ⟨h.1,ih h.2⟩
section
variable (P:List AVal) (hP:P.length=26) (hN:Zd P=true)
include hP
theorem Z6 (L:AVal):(P++[L]).length=27:=by simp [hP]
theorem Zas (L:AVal):(P++[L])[26]?=some L:=by
 rw [List.getElem?_append_right (by omega)];simp [hP]
theorem ZeJ (L:AVal):(P++[L]).take 26=P:=by
 rw [List.take_append_of_le_length (by omega),List.take_of_length_le (by omega)]
theorem Zgd (L:AVal):(P++[L]).drop 27=[]:=List.drop_eq_nil_of_le (by simp [hP])
include hN
theorem Zw (f:Bool) (xs:List AVal):Zd (P++[.lst f xs])=true:=ZaD hN rfl
theorem ZOy (l:Zb) (n:Nat) (hn:n<=l.length) (hl:l.length<=140737488355328):E 68 [.ref 0 0,.int .i64 (n:Nat)] [.var (P++[.lst false (l.map Zc)])]=some (.int .i64 (Zgx (l.take n)),[.var (P++[.lst false ((l.drop n).map Zc)])]):=by
 have h1:(l.length:Int)>=((n:Nat):Int):=by omega
 have s1:=fun σ kk=>ZiE σ 1 l Zc kk (n:Int) (by omega) (by omega)
 have s2:=fun σ kk=>Zfi σ l kk (n:Int) (by omega) (by omega)
 have e2:((n:Int)).toNat=n:=rfl
 rw [e2] at s1 s2
 have ht:(l.take n).length<=9223372036854775807:=by simp;omega
 have hG:=fun σ sq own f=>Zlw σ sq own (l.take n) ht f
 have a1:=Z6 P hP
 have a2:=Zas P hP
 have a3:=ZeJ P hP
 have a4:=Zgd P hP
 have m1:=Zbd
 rw [Zg (by rfl) Zma]
 simp -implicitDefEqProofs only [EQA,ZE,Nat.reduceAdd,Nat.reduceLT,Nat.reduceLeDiff,Nat.reduceEqDiff,reduceCtorEq,↓reduceIte,Zlj,ZhQ,Zuf,oI,oN,h1,s1,s2,hG,a1,a2,a3,a4,m1,Zgx]
 exact ZW rfl (Zw P hP hN _ _)
theorem ZwN (l:Zb) (n:Nat) (hn:l.length < n) (hn':n<=9223372036854775807):E 68 [.ref 0 0,.int .i64 (n:Nat)] [.var (P++[.lst false (l.map Zc)])]=some (.pan (Zx 129),[.var (P++[.lst false (l.map Zc)])]):=by
 have h1:¬(l.length:Int)>=((n:Nat):Int):=by omega
 have a2:=Zas P hP
 have m1:=Zbz
 rw [Zg (by rfl) Zma]
 simp -implicitDefEqProofs only [EQA,Nat.reduceLT,Nat.reduceEqDiff,reduceCtorEq,↓reduceIte,Zlj,ZhQ,oI,oN,h1,a2,m1]
 exact ZW rfl (Zw P hP hN _ _)
theorem ZCk (l:Zb) (hl:l.length<=140737488355328) (h:(Zac l).2.2=0):E 77 [.ref 0 0] [.var (P++[.lst false (l.map Zc)])]=some (.str (Zac l).1,[.var (P++[.lst false ((l.drop (Zac l).2.1).map Zc)])]):=by
 have hG:=fun σ sq own f=>ZhH σ sq own f l hl
 have hu:=(Zhz l).1
 unfold gtT at hG
 have s2:=fun σ kk=>Zfi σ l kk ((Zac l).2.1:Int) (by omega) (by omega)
 have e2:(((Zac l).2.1:Nat):Int).toNat=(Zac l).2.1:=rfl
 rw [e2] at s2
 rw [h] at hG
 have a1:=Z6 P hP
 have a2:=Zas P hP
 have a3:=ZeJ P hP
 have a4:=Zgd P hP
 have m1:=Zbd
 rw [Zg (by rfl) Zk6]
 simp -implicitDefEqProofs only [EQA,ZE,Zq,Nat.reduceAdd,Nat.reduceLT,Nat.reduceLeDiff,Nat.reduceEqDiff,reduceCtorEq,↓reduceIte,ZjN,ZhZ,ZtD,oI,oN,s2,hG,a1,a2,a3,a4,m1]
 exact ZW rfl (Zw P hP hN _ _)
theorem ZLl (l:Zb) (hl:l.length<=140737488355328) (h:(Zac l).2.2≠0):E 77 [.ref 0 0] [.var (P++[.lst false (l.map Zc)])]=some (.pan (Zx 129),[.var (P++[.lst false (l.map Zc)])]):=by
 have hG:=fun σ sq own f=>ZhH σ sq own f l hl
 unfold gtT at hG
 have h0:((Zac l).2.2 == 0)=false:=by simpa using h
 have h1:=h
 have a2:=Zas P hP
 have m1:=Zbz
 rw [Zg (by rfl) Zk6]
 simp -implicitDefEqProofs only [EQA,Nat.reduceLT,Nat.reduceEqDiff,reduceCtorEq,↓reduceIte,ZjN,ZhZ,oI,oN,hG,a2,h0,m1]
 exact ZW rfl (Zw P hP hN _ _)
theorem ZOj (l:Zb) (hl:l.length<=140737488355328) (h:(ZaH l).2.2=0):E 92 [.ref 0 0] [.var (P++[.lst false (l.map Zc)])]=some (.lst false ((ZaH l).1.map Zc),[.var (P++[.lst false ((l.drop (ZaH l).2.1).map Zc)])]):=by
 have hG:=fun σ sq own f=>ZjT σ sq own f l hl
 have hu:=(ZkB l).1
 unfold gdT at hG
 have s2:=fun σ kk=>Zfi σ l kk ((ZaH l).2.1:Int) (by omega) (by omega)
 have e2:(((ZaH l).2.1:Nat):Int).toNat=(ZaH l).2.1:=rfl
 rw [e2] at s2
 rw [h] at hG
 have a1:=Z6 P hP
 have a2:=Zas P hP
 have a3:=ZeJ P hP
 have a4:=Zgd P hP
 have m1:=Zbd
 rw [Zg (by rfl) Zwm]
 simp -implicitDefEqProofs only [EQA,ZE,Zq,Nat.reduceAdd,Nat.reduceLT,Nat.reduceLeDiff,Nat.reduceEqDiff,reduceCtorEq,↓reduceIte,Zup,Zlq,ZAB,oI,oN,s2,hG,a1,a2,a3,a4,m1]
 exact ZW rfl (Zw P hP hN _ _)
theorem ZG1 (l:Zb) (hl:l.length<=140737488355328) (h:(ZaH l).2.2≠0):E 92 [.ref 0 0] [.var (P++[.lst false (l.map Zc)])]=some (.pan (Zx 129),[.var (P++[.lst false (l.map Zc)])]):=by
 have hG:=fun σ sq own f=>ZjT σ sq own f l hl
 unfold gdT at hG
 have h0:((ZaH l).2.2 == 0)=false:=by simpa using h
 have h1:=h
 have a2:=Zas P hP
 have m1:=Zbz
 rw [Zg (by rfl) Zwm]
 simp -implicitDefEqProofs only [EQA,Nat.reduceLT,Nat.reduceEqDiff,reduceCtorEq,↓reduceIte,Zup,Zlq,oI,oN,hG,a2,h0,m1]
 exact ZW rfl (Zw P hP hN _ _)
theorem ZFs (w:Int) (l:Zb) (hl:l.length<=140737488355328) (h:(ZV w l).2.2=0) (hu:(ZV w l).2.1<=l.length):E 70 [.ref 0 0,.int .i64 w] [.var (P++[.lst false (l.map Zc)])]=some (.lst false ((ZV w l).1.map Zj),[.var (P++[.lst false ((l.drop (ZV w l).2.1).map Zc)])]):=by
 have hG:=fun σ sq own f=>ZjZ σ sq own f w l hl
 have s2:=fun σ kk=>Zfi σ l kk ((ZV w l).2.1:Int) (by omega) (by omega)
 have e2:(((ZV w l).2.1:Nat):Int).toNat=(ZV w l).2.1:=rfl
 rw [e2] at s2
 rw [h] at hG
 have a1:=Z6 P hP
 have a2:=Zas P hP
 have a3:=ZeJ P hP
 have a4:=Zgd P hP
 have m1:=Zbd
 generalize ZV w l=R at *
 rw [Zg (by rfl) ZsF]
 simp -implicitDefEqProofs only [EQA,ZE,Zq,Nat.reduceAdd,Nat.reduceLT,Nat.reduceLeDiff,Nat.reduceEqDiff,reduceCtorEq,↓reduceIte,Zsb,Zl5,ZDV,oI,oN,s2,hG,a1,a2,a3,a4,m1]
 exact ZW rfl (Zw P hP hN _ _)
theorem ZFx (w:Int) (l:Zb) (hl:l.length<=140737488355328) (h:(ZV w l).2.2≠0):E 70 [.ref 0 0,.int .i64 w] [.var (P++[.lst false (l.map Zc)])]=some (.pan (Zx (ZV w l).2.2),[.var (P++[.lst false (l.map Zc)])]):=by
 have hG:=fun σ sq own f=>ZjZ σ sq own f w l hl
 have h0:((ZV w l).2.2 == 0)=false:=by simpa using h
 have h1:=h
 have a2:=Zas P hP
 have m1:=Zbz
 generalize ZV w l=R at *
 rw [Zg (by rfl) ZsF]
 simp -implicitDefEqProofs only [EQA,Nat.reduceLT,Nat.reduceEqDiff,reduceCtorEq,↓reduceIte,Zsb,Zl5,oI,oN,hG,a2,h0,m1]
 exact ZW rfl (Zw P hP hN _ _)
end
end
section
def Zno:Ze:=(.seq (.region [oI 4 (.mov (.c (.bool false)))] none [1,0]) (.seq (.region [oI 5 (.mov (.t 0)),oI 6 (.mov (.t 1)),oI 7 (.call 31 0 true [(.t 5),(.t 6)]),oI 8 (.bin .geq (.t 7) (.c (.int .i64 0))),oI 4 (.mov (.t 8))] none [4]) .ret))
def Zo4:ZD:=⟨[(.tmp 4)],Zno⟩
theorem ZH9:FC 20=some Zo4:=by kernel_rfl
theorem ZCL:Zo4.body=Zno:=rfl
theorem ZLW:Zo4.res=[(.tmp 4)]:=rfl
def Zqp:Ze:=(.seq (.region [oI 6 (.mov (.c (.bool true)))] none [6]) .ret)
def Znm:Ze:=Zqp
def ZyL:=xw Znm Zqp rfl
def Zkv:Ze:=(.seq (.region [oI 18 (.bin .lss (.t 17) (.t 16))] none [18,17,16,15,2,1]) (.seq (.cond (.t 18) .skip (.exit 0)) (.seq (.block 1 (.seq (.region [oI 19 (.mov (.t 17)),oI 20 (.iaddr 5 (.t 15) (.t 17)),oI 21 (.ld (some 5) (.t 20)),oI 8 (.alloc [(.int .i64 0),(.int .i64 0),(.str []),(.str []),(.lst true [])]),oI 7 (.mov (.t 19)),oN (.st 5 (.t 8) (.t 21))] none [17,16,15,8,7,2,1]) (.seq (.region [oI 22 (.mov (.t 1)),oI 23 (.mov (.t 7)),oI 24 (.iaddr 5 (.t 22) (.t 23)),oI 25 (.ld (some 5) (.t 24)),oI 9 (.alloc [(.int .i64 0),(.int .i64 0),(.str []),(.str []),(.lst true [])]),oN (.st 5 (.t 9) (.t 25))] none [17,16,15,9,8,2,1]) (.seq (.region [oI 26 (.mov (.t 2)),oI 27 (.ld (some 5) (.t 8)),oI 28 (.ld (some 5) (.t 9)),oI 29 (.callv (.t 26) [(.t 27),(.t 28)]),oI 30 (.un .not (.t 29))] none [30,17,16,15,2,1]) (.cond (.t 30) (.seq (.region [oI 6 (.mov (.c (.bool false)))] none [6]) .ret) .skip))))) (.region [oI 31 (.bin .add (.t 17) (.c (.int .i64 1))),oI 17 (.mov (.t 31))] none [17,16,15,2,1]))))
def ZqC:Ze:=Zkv
def Zwj:=xw ZqC Zkv rfl
def Zld:Ze:=(.seq (.region [oI 6 (.mov (.c (.bool false)))] none [2,1,0]) (.seq (.seq (.region [oI 10 (.mov (.t 0)),oI 11 (.len (.t 10)),oI 12 (.mov (.t 1)),oI 13 (.len (.t 12)),oI 14 (.bin .neq (.t 11) (.t 13))] none [14,2,1,0]) (.cond (.t 14) (.seq (.region [oI 6 (.mov (.c (.bool false)))] none [6]) .ret) .skip)) (.seq (.seq (.region [oI 15 (.mov (.t 0)),oI 16 (.len (.t 15)),oI 17 (.mov (.c (.int .i64 0)))] none [17,16,15,2,1]) (.block 0 (.loop [17,16,15,2,1] ZqC))) Znm)))
def Zk7:ZD:=⟨[(.tmp 6)],Zld⟩
theorem Zyp:FC 79=some Zk7:=by kernel_rfl
theorem Zs3:Zk7.body=Zld:=rfl
theorem ZpU:Zk7.res=[(.tmp 6)]:=rfl
noncomputable def ZmB (m:Nat) (tm:Tms) (σ:Za):Option (AVal×Za):=(Zat m Zk7 (ZbF FC PR BY m Znm (Option.map (ZaX 0) (evL FC PR BY m [17,16,15,2,1] ZqC tm σ))))
def ZmI:Ze:=(.seq (.region [oI 4 (.mov (.c (.bool true)))] none [4]) .ret)
def ZoY:Ze:=ZmI
def ZFV:=xw ZoY ZmI rfl
def ZlZ:Ze:=(.seq (.region [oI 14 (.bin .lss (.t 13) (.t 12))] none [14,13,12,1,0]) (.seq (.cond (.t 14) .skip (.exit 0)) (.seq (.block 1 (.seq (.region [oI 15 (.mov (.t 13)),oI 5 (.mov (.t 15))] none [13,12,5,1,0]) (.seq (.region [oI 16 (.mov (.t 0)),oI 17 (.mov (.t 5)),oI 18 (.iaddr 1 (.t 16) (.t 17)),oI 19 (.ld none (.t 18)),oI 20 (.mov (.t 1)),oI 21 (.mov (.t 5)),oI 22 (.iaddr 1 (.t 20) (.t 21)),oI 23 (.ld none (.t 22)),oI 24 (.bin .neq (.t 19) (.t 23))] (some [(2,6),(3,6),(2,7),(3,7)]) [24,13,12,1,0]) (.cond (.t 24) (.seq (.region [oI 4 (.mov (.c (.bool false)))] none [4]) .ret) .skip)))) (.region [oI 25 (.bin .add (.t 13) (.c (.int .i64 1))),oI 13 (.mov (.t 25))] none [13,12,1,0]))))
def Zop:Ze:=ZlZ
def Zrz:=xw Zop ZlZ rfl
def Zkl:Ze:=(.seq (.region [oI 4 (.mov (.c (.bool false)))] none [1,0]) (.seq (.seq (.region [oI 6 (.mov (.t 0)),oI 7 (.len (.t 6)),oI 8 (.mov (.t 1)),oI 9 (.len (.t 8)),oI 10 (.bin .neq (.t 7) (.t 9))] none [10,1,0]) (.cond (.t 10) (.seq (.region [oI 4 (.mov (.c (.bool false)))] none [4]) .ret) .skip)) (.seq (.seq (.region [oI 11 (.mov (.t 0)),oI 12 (.len (.t 11)),oI 13 (.mov (.c (.int .i64 0)))] none [13,12,1,0]) (.block 0 (.loop [13,12,1,0] Zop))) ZoY)))
def Zk4:ZD:=⟨[(.tmp 4)],Zkl⟩
theorem ZFq:FC 49=some Zk4:=by kernel_rfl
theorem ZuQ:Zk4.body=Zkl:=rfl
theorem Zna:Zk4.res=[(.tmp 4)]:=rfl
noncomputable def Zl3 (m:Nat) (tm:Tms) (σ:Za):Option (AVal×Za):=(Zat m Zk4 (ZbF FC PR BY m ZoY (Option.map (ZaX 0) (evL FC PR BY m [13,12,1,0] Zop tm σ))))
def ZoD:Ze:=(.seq (.region [oI 4 (.mov (.c (.bool true)))] none [4]) .ret)
def Zql:Ze:=ZoD
def Zyl:=xw Zql ZoD rfl
def ZlQ:Ze:=(.seq (.region [oI 14 (.bin .lss (.t 13) (.t 12))] none [14,13,12,1,0]) (.seq (.cond (.t 14) .skip (.exit 0)) (.seq (.block 1 (.seq (.region [oI 15 (.mov (.t 13)),oI 5 (.mov (.t 15))] none [13,12,5,1,0]) (.seq (.region [oI 16 (.mov (.t 0)),oI 17 (.mov (.t 5)),oI 18 (.iaddr 6 (.t 16) (.t 17)),oI 19 (.ld (some 6) (.t 18)),oI 20 (.mov (.t 1)),oI 21 (.mov (.t 5)),oI 22 (.iaddr 6 (.t 20) (.t 21)),oI 23 (.ld (some 6) (.t 22)),oI 24 (.eqv true [2,0,1,1,0,0] (.t 19) (.t 23))] (some [(2,6),(3,6),(2,7),(3,7)]) [24,13,12,1,0]) (.cond (.t 24) (.seq (.region [oI 4 (.mov (.c (.bool false)))] none [4]) .ret) .skip)))) (.region [oI 25 (.bin .add (.t 13) (.c (.int .i64 1))),oI 13 (.mov (.t 25))] none [13,12,1,0]))))
def Zof:Ze:=ZlQ
def Zut:=xw Zof ZlQ rfl
def Zj1:Ze:=(.seq (.region [oI 4 (.mov (.c (.bool false)))] none [1,0]) (.seq (.seq (.region [oI 6 (.mov (.t 0)),oI 7 (.len (.t 6)),oI 8 (.mov (.t 1)),oI 9 (.len (.t 8)),oI 10 (.bin .neq (.t 7) (.t 9))] none [10,1,0]) (.cond (.t 10) (.seq (.region [oI 4 (.mov (.c (.bool false)))] none [4]) .ret) .skip)) (.seq (.seq (.region [oI 11 (.mov (.t 0)),oI 12 (.len (.t 11)),oI 13 (.mov (.c (.int .i64 0)))] none [13,12,1,0]) (.block 0 (.loop [13,12,1,0] Zof))) Zql)))
def Zmw:ZD:=⟨[(.tmp 4)],Zj1⟩
theorem ZLw:FC 50=some Zmw:=by kernel_rfl
theorem ZrK:Zmw.body=Zj1:=rfl
theorem ZoM:Zmw.res=[(.tmp 4)]:=rfl
noncomputable def ZjR (m:Nat) (tm:Tms) (σ:Za):Option (AVal×Za):=(Zat m Zmw (ZbF FC PR BY m Zql (Option.map (ZaX 0) (evL FC PR BY m [13,12,1,0] Zof tm σ))))
def Zog:Ze:=(.seq (.region [oI 4 (.mov (.c (.bool true)))] none [4]) .ret)
def Zqn:Ze:=Zog
def ZNs:=xw Zqn Zog rfl
def Zl9:Ze:=(.seq (.region [oI 14 (.bin .lss (.t 13) (.t 12))] none [14,13,12,1,0]) (.seq (.cond (.t 14) .skip (.exit 0)) (.seq (.block 1 (.seq (.region [oI 15 (.mov (.t 13)),oI 5 (.mov (.t 15))] none [13,12,5,1,0]) (.seq (.region [oI 16 (.mov (.t 0)),oI 17 (.mov (.t 5)),oI 18 (.iaddr 1 (.t 16) (.t 17)),oI 19 (.ld none (.t 18)),oI 20 (.mov (.t 1)),oI 21 (.mov (.t 5)),oI 22 (.iaddr 1 (.t 20) (.t 21)),oI 23 (.ld none (.t 22)),oI 24 (.bin .neq (.t 19) (.t 23))] (some [(2,6),(3,6),(2,7),(3,7)]) [24,13,12,1,0]) (.cond (.t 24) (.seq (.region [oI 4 (.mov (.c (.bool false)))] none [4]) .ret) .skip)))) (.region [oI 25 (.bin .add (.t 13) (.c (.int .i64 1))),oI 13 (.mov (.t 25))] none [13,12,1,0]))))
def Zp9:Ze:=Zl9
def Zu8:=xw Zp9 Zl9 rfl
def Zku:Ze:=(.seq (.region [oI 4 (.mov (.c (.bool false)))] none [1,0]) (.seq (.seq (.region [oI 6 (.mov (.t 0)),oI 7 (.len (.t 6)),oI 8 (.mov (.t 1)),oI 9 (.len (.t 8)),oI 10 (.bin .neq (.t 7) (.t 9))] none [10,1,0]) (.cond (.t 10) (.seq (.region [oI 4 (.mov (.c (.bool false)))] none [4]) .ret) .skip)) (.seq (.seq (.region [oI 11 (.mov (.t 0)),oI 12 (.len (.t 11)),oI 13 (.mov (.c (.int .i64 0)))] none [13,12,1,0]) (.block 0 (.loop [13,12,1,0] Zp9))) Zqn)))
def ZkN:ZD:=⟨[(.tmp 4)],Zku⟩
theorem ZM5:FC 51=some ZkN:=by kernel_rfl
theorem Zww:ZkN.body=Zku:=rfl
theorem Zox:ZkN.res=[(.tmp 4)]:=rfl
noncomputable def Zl7 (m:Nat) (tm:Tms) (σ:Za):Option (AVal×Za):=(Zat m ZkN (ZbF FC PR BY m Zqn (Option.map (ZaX 0) (evL FC PR BY m [13,12,1,0] Zp9 tm σ))))
def ZmF:Ze:=(.seq (.region [oI 4 (.mov (.c (.int .i64 (-1))))] none [4]) .ret)
def Zns:Ze:=ZmF
def ZA4:=xw Zns ZmF rfl
def Zjy:Ze:=(.seq (.region [oI 9 (.bin .lss (.t 8) (.t 7))] none [9,8,7,1,0]) (.seq (.cond (.t 9) .skip (.exit 0)) (.seq (.block 1 (.seq (.region [oI 10 (.mov (.t 8)),oI 5 (.mov (.t 10))] none [8,7,5,1,0]) (.seq (.region [oI 11 (.mov (.t 1)),oI 12 (.mov (.t 0)),oI 13 (.mov (.t 5)),oI 14 (.iaddr 2 (.t 12) (.t 13)),oI 15 (.ld (some 2) (.t 14)),oI 16 (.callv (.t 11) [(.t 15)])] none [16,8,7,5,1,0]) (.cond (.t 16) (.seq (.region [oI 17 (.mov (.t 5)),oI 4 (.mov (.t 17))] none [4]) .ret) .skip)))) (.region [oI 18 (.bin .add (.t 8) (.c (.int .i64 1))),oI 8 (.mov (.t 18))] none [8,7,1,0]))))
def ZqL:Ze:=Zjy
def ZoR:=xw ZqL Zjy rfl
def ZmV:Ze:=(.seq (.region [oI 4 (.mov (.c (.int .i64 0)))] none [1,0]) (.seq (.seq (.region [oI 6 (.mov (.t 0)),oI 7 (.len (.t 6)),oI 8 (.mov (.c (.int .i64 0)))] none [8,7,1,0]) (.block 0 (.loop [8,7,1,0] ZqL))) Zns))
def Zmt:ZD:=⟨[(.tmp 4)],ZmV⟩
theorem ZPT:FC 31=some Zmt:=by kernel_rfl
theorem ZHe:Zmt.body=ZmV:=rfl
theorem ZuG:Zmt.res=[(.tmp 4)]:=rfl
noncomputable def ZlL (m:Nat) (tm:Tms) (σ:Za):Option (AVal×Za):=(Zat m Zmt (ZbF FC PR BY m Zns (Option.map (ZaX 0) (evL FC PR BY m [8,7,1,0] ZqL tm σ))))
end
section
theorem Zqb {O:ZO} {bf:Nat->Bool} {σ:Za} {t sq f own:Nat} {view:Bool} {args vs vs':List AVal} {cs cs':List AVal} {r:AVal} (hs:σ[t]?=some (.var cs)) (hc:Zd cs=true) (hc':Zd cs'=true) (hb:bf f=false) (hff:Za0 σ sq own=true)
  (hsh:showAs σ args=some (vs,[])) (href:Zr vs=[t]) (hren:∀ ρ:Rho,ρ t 0=some (0,0)->Zf ρ vs=vs') (hn:ZK r=true) (hv:viewR [.var cs'] r=some (r,[]))
  (h:O f vs' [.var cs]=some (r,[.var cs'])):Zk O bf σ sq f own view args=some (r,σ.set t (.var cs'),{ any:=true,upd:=[(t,cs')] }):=by
 have htl:t < σ.length:=by
  rcases Nat.lt_or_ge t σ.length with h | h
  ·exact h
  ·rw [List.getElem?_eq_none h] at hs;cases hs
 have hup:Zbb (σ.set t (.var cs')) [t]=[(t,cs')]:=by
  simp only [Zbb,List.getElem?_set,if_pos htl,if_true]
 have hd:σ.getD t .free=.var cs:=by simp [List.getD_eq_getElem?_getD,hs]
 have hf0:Zo σ []=σ:=rfl
 unfold Zk ZbN
 rw [hb]
 simp only [Bool.false_eq_true,if_false,hsh,hf0,href,Ze1 hs hc]
 unfold ZbE
 have hall:([t].all fun t=>okB (σ.getD t .free))=true:=by simp [List.all_cons,List.all_nil,hs,okB]
 rw [if_pos hall]
 have hρ:Zn σ 0 [t] t 0=some (0,0):=by simp [Zn,Z0,hs,Zp,ZT]
 have hheap:Zu σ 0 [t] (Zn σ 0 [t]) [t] 0=[.var cs]:=by
  simp only [Zu,hd,ZH,(ZaV _ cs hc).1]
 rw [hren _ hρ,hheap,h]
 have hask:Zad view [t].length (some (r,[.var cs']))=some (r,[.var cs']):=by
  unfold Zad
  split
  ·have hnp:∀ x,r≠.pan x:=by rintro x rfl;simp [viewR,ZL,ZI] at hv
   rw [show Zbn [t].length (some (r,[.var cs']))=(match viewR [.var cs'] r with
    | some (r',ts)=>match gcA [t].length [r'] (Zo [.var cs'] ts) with
     | ([r''],σ')=>some (r'',σ')
     | _=>none
    | none=>none) from by cases r <;> first | rfl | exact absurd rfl (hnp _)]
   rw [hv]
   simp only [List.length_cons,List.length_nil,Nat.zero_add,show Zo [ZM.var cs'] []=[.var cs'] from rfl,Zj4 hn hc']
  ·rfl
 rw [hask]
 have hk:Za3 σ [t] [.var cs'] 0=true:=by
  simp [Za3,okB,hs,Zcc,Zp]
 simp only [ZaI,List.isEmpty_cons,Bool.false_eq_true,if_false,List.length_cons,List.length_nil,Nat.zero_add,Nat.le_add_right,Nat.le_refl,decide_true,hk,hff,Bool.and_self,if_true,Za4,ZaM,List.getD_cons_zero,ZH,(Za8 _ r hn).1,(ZaV _ cs' hc').1,hup]
def Zft (k:Int):List (Int×Int) :=
 if k=2 then [(0,0),(128,138),(140,140),(144,144),(149,149),(151,151),(153,157),(159,159)] else
 if k=4 then [(0,0),(16,16),(128,128),(131,131),(135,135),(144,145),(151,151),(153,153)] else
 if k=5 then [(0,0),(16,16),(128,128),(131,131),(135,135),(144,145),(151,151),(153,153)] else
 if k=6 then [(0,0),(146,146)] else
 if k=7 then [(0,0),(146,146)] else
 if k=9 then [(0,2),(128,128),(131,131),(135,135),(143,143),(145,145),(151,151),(158,158),(161,162)] else
 if k=11 then [(0,0),(17,17),(128,128),(131,131),(135,135),(143,143),(145,145)] else
 if k=14 then [(0,0),(4,4),(128,131),(135,135),(137,137),(139,139),(141,144),(147,162)] else
 if k=15 then [(0,0),(24,25)] else
 []
def ZdE (s:Int×Int):AVal:=.agg [.int .i64 s.1,.int .i64 s.2]
def Zfs (c:Int) (s:Int×Int):Bool:=decide (c>=s.1) && decide (c<=s.2)
def Zcw (k c:Int):Bool:=(Zft k).any (Zfs c)
theorem ZJ2 (k:Int):(Zft k).length<=9:=by
 unfold Zft
 repeat' split
 all_goals simp
theorem ZCY (k:Int):∃ f,E 21 [.int .i64 k] []=some (.lst f ((Zft k).map ZdE),[]):=by
 refine ⟨true,?_⟩
 unfold Zft
 by_cases h2:k=2
 ·subst h2
  rw [Zg (by rfl) Zem]
  simp -implicitDefEqProofs only [EQA,Zq,Nat.reduceAdd,Nat.reduceLT,Nat.reduceLeDiff,Nat.reduceEqDiff,reduceCtorEq,↓reduceIte,ZeR,ZdG,ZeS,oI,Zae,AVal.cells,ZaS,viewAs,ZL,ZI,Zar,Zo]
  rfl
 by_cases h4:k=4
 ·subst h4
  rw [Zg (by rfl) Zem]
  simp -implicitDefEqProofs only [EQA,Zq,Zdt,Nat.reduceAdd,Nat.reduceLT,Nat.reduceLeDiff,Nat.reduceEqDiff,reduceCtorEq,ite_self,↓reduceIte,ZeR,ZdG,ZeS,oI,Int.reduceBEq,Zae,AVal.cells,ZaS,viewAs,ZL,ZI,Zar,Zo]
  rfl
 by_cases h5:k=5
 ·subst h5
  rw [Zg (by rfl) Zem]
  simp -implicitDefEqProofs only [EQA,Zq,Zdt,Nat.reduceAdd,Nat.reduceLT,Nat.reduceLeDiff,Nat.reduceEqDiff,reduceCtorEq,ite_self,↓reduceIte,ZeR,ZdG,ZeS,oI,Int.reduceBEq,Zae,AVal.cells,ZaS,viewAs,ZL,ZI,Zar,Zo]
  rfl
 by_cases h6:k=6
 ·subst h6
  rw [Zg (by rfl) Zem]
  simp -implicitDefEqProofs only [EQA,Zq,Zdt,Nat.reduceAdd,Nat.reduceLT,Nat.reduceLeDiff,Nat.reduceEqDiff,reduceCtorEq,ite_self,↓reduceIte,ZeR,ZdG,ZeS,oI,Int.reduceBEq,Zae,AVal.cells,ZaS,viewAs,ZL,ZI,Zar,Zo]
  rfl
 by_cases h7:k=7
 ·subst h7
  rw [Zg (by rfl) Zem]
  simp -implicitDefEqProofs only [EQA,Zq,Zdt,Nat.reduceAdd,Nat.reduceLT,Nat.reduceLeDiff,Nat.reduceEqDiff,reduceCtorEq,ite_self,↓reduceIte,ZeR,ZdG,ZeS,oI,Int.reduceBEq,Zae,AVal.cells,ZaS,viewAs,ZL,ZI,Zar,Zo]
  rfl
 by_cases h9:k=9
 ·subst h9
  rw [Zg (by rfl) Zem]
  simp -implicitDefEqProofs only [EQA,Zq,Zdt,Nat.reduceAdd,Nat.reduceLT,Nat.reduceLeDiff,Nat.reduceEqDiff,reduceCtorEq,↓reduceIte,ZeR,ZdG,ZeS,oI,Int.reduceBEq,Zae,AVal.cells,ZaS,viewAs,ZL,ZI,Zar,Zo]
  rfl
 by_cases h11:k=11
 ·subst h11
  rw [Zg (by rfl) Zem]
  simp -implicitDefEqProofs only [EQA,Zq,Zdt,Nat.reduceAdd,Nat.reduceLT,Nat.reduceLeDiff,Nat.reduceEqDiff,reduceCtorEq,↓reduceIte,ZeR,ZdG,ZeS,oI,Int.reduceBEq,Zae,AVal.cells,ZaS,viewAs,ZL,ZI,Zar,Zo]
  rfl
 by_cases h14:k=14
 ·subst h14
  rw [Zg (by rfl) Zem]
  simp -implicitDefEqProofs only [EQA,Zq,Zdt,Nat.reduceAdd,Nat.reduceLT,Nat.reduceLeDiff,Nat.reduceEqDiff,reduceCtorEq,ite_self,↓reduceIte,ZeR,ZdG,ZeS,oI,Int.reduceBEq,Zae,AVal.cells,ZaS,viewAs,ZL,ZI,Zar,Zo]
  rfl
 by_cases h15:k=15
 ·subst h15
  rw [Zg (by rfl) Zem]
  simp -implicitDefEqProofs only [EQA,Zq,Zdt,Nat.reduceAdd,Nat.reduceLT,Nat.reduceLeDiff,Nat.reduceEqDiff,reduceCtorEq,ite_self,↓reduceIte,ZeR,ZdG,ZeS,oI,Int.reduceBEq,Zae,AVal.cells,ZaS,viewAs,ZL,ZI,Zar,Zo]
  rfl
 have b2:(k == 2)=false:=by simpa using h2
 have b4:(k == 4)=false:=by simpa using h4
 have b5:(k == 5)=false:=by simpa using h5
 have b6:(k == 6)=false:=by simpa using h6
 have b7:(k == 7)=false:=by simpa using h7
 have b9:(k == 9)=false:=by simpa using h9
 have b11:(k == 11)=false:=by simpa using h11
 have b14:(k == 14)=false:=by simpa using h14
 have b15:(k == 15)=false:=by simpa using h15
 rw [if_neg h2,if_neg h4,if_neg h5,if_neg h6,if_neg h7,if_neg h9,if_neg h11,if_neg h14,if_neg h15]
 rw [Zg (by rfl) Zem]
 simp -implicitDefEqProofs only [EQA,Zq,Nat.reduceLT,Nat.reduceEqDiff,reduceCtorEq,↓reduceIte,ZeR,ZdG,ZeS,oI,b2,b4,b5,b6,b7,b9,b11,b14,b15]
theorem ZPX (c:Int) (s:Int×Int):E 22 [.agg [.int .i64 s.1,.int .i64 s.2],.ref 0 0] [.var [.int .i64 c]]=some (.bool (Zfs c s),[.var [.int .i64 c]]):=by
 unfold Zfs
 rw [Zg (by rfl) ZL1]
 by_cases h:c>=s.1
 ·simp -implicitDefEqProofs only [EQA,ZE,Z4,Nat.reduceAdd,Nat.reduceLT,Nat.reduceEqDiff,Nat.reduceBEq,ZF,unG,reduceCtorEq,↓reduceIte,Zd,Zul,ZlS,Zu2,oI,h]
  try (simp [Zam,gcA,ZA,Zy,Zr,ZZ,Zn,Zu,Z0,Zp,ZT,Zf,Zl,ZH,ZP,List.range_succ])
 ·simp -implicitDefEqProofs only [EQA,ZE,Z4,Nat.reduceAdd,Nat.reduceLT,Nat.reduceEqDiff,Nat.reduceBEq,ZF,Zaw,reduceCtorEq,↓reduceIte,Zd,Zul,ZlS,Zu2,oI,h]
  try (simp [Zam,gcA,ZA,Zy,Zr,ZZ,Zn,Zu,Z0,Zp,ZT,Zf,Zl,ZH,ZP,List.range_succ])
theorem ZCs (k:Int) (σ:Za) (sq own:Nat):Zk E BY σ sq 21 own true [.int .i64 k]=some (.lst false ((Zft k).map ZdE),σ,{}):=by
 obtain ⟨f,h⟩:=ZCY k
 exact ZbB h (by kernel_rfl) rfl rfl rfl (fun _=>rfl) _ _ _
theorem ZOW (σ:Za) (sq t own:Nat) (view:Bool) (c:Int) (s:Int×Int) (hs:σ[t]?=some (.var [.int .i64 c])) (hff:Za0 σ sq own=true):Zk E BY σ sq 22 own view [.agg [.int .i64 s.1,.int .i64 s.2],.ref t 0]=some (.bool (Zfs c s),σ.set t (.var [.int .i64 c]),{ any:=true,upd:=[(t,[.int .i64 c])] }) :=
 Zqb hs rfl rfl (by kernel_rfl) hff rfl rfl (fun ρ h=>by simp only [Zf,Zl,h]) rfl rfl (ZPX c s)
theorem Zuq (L:List (Int×Int)) (c:Int) (hL:L.length<=9223372036854775807):∀ (r:List (Int×Int)) (i:Nat),L.drop i=r ->
  ∃ z,ZlL 1 [(8,.int .i64 i),(7,.int .i64 L.length),(1,.fn 22 [.ref 0 0]),(0,.lst false (L.map ZdE))] [.var [.int .i64 c]]=some (.int .i64 z,[.var [.int .i64 c]])/\decide (z>=0)=r.any (Zfs c)
 | [],i,h=>by
  have h1:=Zc2 h
  refine ⟨-1,?_,by simp⟩
  unfold ZlL
  rw [Zaa]
  simp -implicitDefEqProofs only [EQA,Z4,Nat.reduceLT,Nat.reduceEqDiff,reduceCtorEq,↓reduceIte,Zd,ZuG,ZA4,ZmF,ZoR,Zjy,oI,h1]
 | x::r,i,h=>by
  obtain ⟨z,ih,hz⟩:=Zuq L c hL r (i+1) (Z9 h).2.1
  have h1:(i:Int) < L.length:=by have:=(Z9 h).2.2;omega
  have e1:=iad (Z9 h).1 ZdE (k:=2) rfl
  have e3:=Zdc h1 hL
  have hm:x ∈ L:=List.mem_of_getElem? (Z9 h).1
  have hc:=fun σ sq t own view hs hff=>ZOW σ sq t own view c x hs hff
  unfold ZlL at ih ⊢
  cases hb:Zfs c x
  ·refine ⟨z,?_,by rw [hz];simp [hb]⟩
   rw [Zaa]
   simp -implicitDefEqProofs only [EQA,ZE,Z4,Nat.reduceAdd,Nat.reduceLT,Nat.reduceLeDiff,Nat.reduceEqDiff,Nat.reduceBEq,reduceCtorEq,↓reduceIte,gcT,gcA,ZA,Zy,Zn,Zu,Z0,Zp,ZT,ZH,ZP,List.range_succ,ZoR,Zjy,oI,h1,e1,e3,hc,hb,Za0,ZdE]
   exact ih
  ·refine ⟨i,?_,by simp [hb]⟩
   rw [Zaa]
   simp -implicitDefEqProofs only [EQA,ZE,Z4,Nat.reduceAdd,Nat.reduceLT,Nat.reduceLeDiff,Nat.reduceEqDiff,Nat.reduceBEq,reduceCtorEq,↓reduceIte,Zd,ZuG,ZoR,Zjy,oI,h1,e1,hc,hb,Za0,ZdE]
theorem ZxJ (L:List (Int×Int)) (c:Int) (hL:L.length<=9223372036854775807) :
  ∃ z,E 31 [.lst false (L.map ZdE),.fn 22 [.ref 0 0]] [.var [.int .i64 c]]=some (.int .i64 z,[.var [.int .i64 c]])/\decide (z>=0)=L.any (Zfs c):=by
 obtain ⟨z,h,hz⟩:=Zuq L c hL L 0 rfl
 refine ⟨z,?_,hz⟩
 rw [Zg (by rfl) ZPT]
 have z0:((0:Nat):Int)=0:=rfl
 rw [z0] at h
 unfold ZlL at h
 simp -implicitDefEqProofs only [EQA,Z4,Nat.reduceLT,Nat.reduceEqDiff,reduceCtorEq,↓reduceIte,gcT,gcA,ZA,Zy,Zn,Zu,Z0,Zp,ZT,ZH,ZP,List.range_succ,ZHe,ZmV,oI,h]
theorem ZJB (L:List (Int×Int)) (c:Int) (hL:L.length<=9223372036854775807) :
  E 20 [.lst false (L.map ZdE),.fn 22 [.ref 0 0]] [.var [.int .i64 c]]=some (.bool (L.any (Zfs c)),[.var [.int .i64 c]]):=by
 obtain ⟨z,h,hz⟩:=ZxJ L c hL
 rw [Zg (by rfl) ZH9]
 have hc:=fun (σ:Za) sq t view hs=>Zqb (O:=E) (bf:=BY) (σ:=σ) (t:=t) (sq:=sq) (own:=0) (view:=view) (f:=31) (args:=[.lst false (L.map ZdE),.fn 22 [.ref t 0]]) (vs:=[.lst false (L.map ZdE),.fn 22 [.ref t 0]]) hs rfl rfl (by kernel_rfl) rfl rfl rfl (fun ρ h=>by simp only [Zf,Zl,h]) rfl rfl h
 simp -implicitDefEqProofs only [EQA,Z4,Nat.reduceLT,Nat.reduceEqDiff,reduceCtorEq,↓reduceIte,Zd,ZCL,Zno,ZLW,oI,hc,hz]
theorem ZGU (k c:Int):E 13 [.int .i64 k,.int .i64 c] []=some (.bool (Zcw k c),[]):=by
 have h:=ZJB (Zft k) c (by have:=ZJ2 k;omega)
 have hC:=fun σ sq own=>ZCs k σ sq own
 unfold Zcw
 generalize Zft k=L at *
 rw [Zg (by rfl) ZxI]
 have hc:=fun (σ:Za) sq t view hs=>Zqb (O:=E) (bf:=BY) (σ:=σ) (t:=t) (sq:=sq) (own:=0) (view:=view) (f:=20) (args:=[.lst false (L.map ZdE),.fn 22 [.ref t 0]]) (vs:=[.lst false (L.map ZdE),.fn 22 [.ref t 0]]) hs rfl rfl (by kernel_rfl) rfl rfl rfl (fun ρ h=>by simp only [Zf,Zl,h]) rfl rfl h
 simp -implicitDefEqProofs only [EQA,ZE,Nat.reduceLT,Nat.reduceEqDiff,Nat.reduceBEq,reduceCtorEq,↓reduceIte,ZAb,Zqc,ZM9,oI,hC,hc]
theorem Zif (k c:Int) (σ:Za) (sq own:Nat):Zk E BY σ sq 13 own true [.int .i64 k,.int .i64 c]=some (.bool (Zcw k c),σ,{}) :=
 Zcp (ZGU k c) (by kernel_rfl) (by simp -implicitDefEqProofs only [ZcS,Zbq,eq_self,eq_self]) (by simp -implicitDefEqProofs only [ZE,Zbq,eq_self,eq_self]) rfl (fun _=>rfl) _ _ _ _
end
section
abbrev RK (α:Type):=Except Int (α×Zb)
def ZaC (n:Nat) (l:Zb):RK Int:=if l.length < n then .error 129 else .ok (Zgx (l.take n),l.drop n)
def Zaq (l:Zb):RK Zb:=if (Zac l).2.2=0 then .ok ((Zac l).1,l.drop (Zac l).2.1) else .error 129
def ZcJ (l:Zb):RK Zb:=if (ZaH l).2.2=0 then .ok ((ZaH l).1,l.drop (ZaH l).2.1) else .error 129
def Zbt (w:Int) (l:Zb):RK (List Zm):=if (ZV w l).2.2=0 then .ok ((ZV w l).1,l.drop (ZV w l).2.1) else .error (ZV w l).2.2
def idK (l:Zb):RK Int:=match ZaC 2 l with
 | .ok (n,r)=>if n=0 then .error 130 else .ok (n,r)
 | .error c=>.error c
def ZaB (k:Int) (l:Zb):RK Int:=match ZaC 1 l with
 | .ok (n,r)=>if Zcw k n=true then .ok (n,r) else .error 130
 | .error c=>.error c
theorem ZQ {v:AVal} (hv:ZK v=true):∀ {P:List AVal} (k:Nat),Zd P=true->Zd (P.set k v)=true
 | [],_,_=>rfl
 | x::P,0,h=>by
  simp only [Zd,Bool.and_eq_true,List.set_cons_zero] at h ⊢
  exact ⟨hv,h.2⟩
 | x::P,k+1,h=>by
  simp only [Zd,Bool.and_eq_true,List.set_cons_succ] at h ⊢
  exact ⟨h.1,ZQ hv k h.2⟩
theorem Zb2 (f:Bool) (xs:List AVal):ZK (.lst f xs)=true:=rfl
section
variable (P:List AVal) (hP:P.length=26) (hN:Zd P=true)
include hP
theorem Zax (k k':Nat) (hk:k < 26) (hk':k'=k+1) (L v:AVal):List.take k (P++[L])++[v]++List.drop k' (P++[L])=P.set k v++[L]:=by
 subst hk'
 rw [List.take_append_of_le_length (by omega),List.drop_append_of_le_length (by omega),<-List.append_assoc]
 congr 1
 rw [List.set_eq_take_append_cons_drop,if_pos (by omega)]
 simp
theorem Z8 (k:Nat) (hk:k < 26) (L:AVal):(P++[L])[k]?=P[k]?:=List.getElem?_append_left (by omega)
theorem Zh4 (k:Nat) (hk:k < 26) (L v:AVal):(P.set k v++[L])[k]?=some v:=by
 rw [List.getElem?_append_left (by simp;omega),List.getElem?_set_self (by omega)]
include hN
section
variable (l:Zb) (hl:l.length<=140737488355328) (σ:Za) (t sq:Nat) (hs:σ[t]?=some (.var (P++[.lst false (l.map Zc)])))
include hl hs
theorem ZcR {n:Nat} {m:Int} {a:Int} {r:Zb} (hm:((n:Nat):Int)=m) (h:ZaC n l=.ok (a,r)):Zk E BY σ sq 68 0 true [.ref t 0,.int .i64 m]=some (.int .i64 a,σ.set t (.var (P++[.lst false (r.map Zc)])),{ any:=true,upd:=[(t,P++[.lst false (r.map Zc)])] }):=by
 subst hm
 unfold ZaC at h
 split at h
 ·cases h
 ·injection h with h;injection h with h1 h2;subst h1 h2
  exact Zda (rest:=[.int .i64 (n:Nat)]) (by kernel_rfl) rfl (Zw P hP hN _ _) (Zw P hP hN _ _) rfl rfl (ZOy P hP hN l n (by omega) hl) hs sq
theorem ZfB {n:Nat} {m:Int} {c:Int} (hm:((n:Nat):Int)=m) (hn:n<=9223372036854775807) (h:ZaC n l=.error c):Zk E BY σ sq 68 0 true [.ref t 0,.int .i64 m]=some (.pan (Zx c),σ.set t (.var (P++[.lst false (l.map Zc)])),{ any:=true,upd:=[(t,P++[.lst false (l.map Zc)])] }):=by
 subst hm
 unfold ZaC at h
 split at h
 ·injection h with h;subst h
  exact ZcB (rest:=[.int .i64 (n:Nat)]) (by kernel_rfl) rfl (Zw P hP hN _ _) (Zw P hP hN _ _) rfl (ZwN P hP hN l n (by omega) hn) hs sq
 ·cases h
theorem ZdY {a r:Zb} (h:Zaq l=.ok (a,r)):Zk E BY σ sq 77 0 true [.ref t 0]=some (.str a,σ.set t (.var (P++[.lst false (r.map Zc)])),{ any:=true,upd:=[(t,P++[.lst false (r.map Zc)])] }):=by
 unfold Zaq at h
 split at h
 ·rename_i h0
  injection h with h;injection h with h1 h2;subst h1 h2
  exact Zda (rest:=[]) (by kernel_rfl) rfl (Zw P hP hN _ _) (Zw P hP hN _ _) rfl rfl (ZCk P hP hN l hl h0) hs sq
 ·cases h
theorem Zg4 {c:Int} (h:Zaq l=.error c):Zk E BY σ sq 77 0 true [.ref t 0]=some (.pan (Zx c),σ.set t (.var (P++[.lst false (l.map Zc)])),{ any:=true,upd:=[(t,P++[.lst false (l.map Zc)])] }):=by
 unfold Zaq at h
 split at h
 ·cases h
 ·rename_i h0
  injection h with h;subst h
  exact ZcB (rest:=[]) (by kernel_rfl) rfl (Zw P hP hN _ _) (Zw P hP hN _ _) rfl (ZLl P hP hN l hl h0) hs sq
theorem Zt1 {a r:Zb} (h:ZcJ l=.ok (a,r)):Zk E BY σ sq 92 0 true [.ref t 0]=some (.lst false (a.map Zc),σ.set t (.var (P++[.lst false (r.map Zc)])),{ any:=true,upd:=[(t,P++[.lst false (r.map Zc)])] }):=by
 unfold ZcJ at h
 split at h
 ·rename_i h0
  injection h with h;injection h with h1 h2;subst h1 h2
  exact Zda (rest:=[]) (by kernel_rfl) rfl (Zw P hP hN _ _) (Zw P hP hN _ _) rfl rfl (ZOj P hP hN l hl h0) hs sq
 ·cases h
theorem Zua {c:Int} (h:ZcJ l=.error c):Zk E BY σ sq 92 0 true [.ref t 0]=some (.pan (Zx c),σ.set t (.var (P++[.lst false (l.map Zc)])),{ any:=true,upd:=[(t,P++[.lst false (l.map Zc)])] }):=by
 unfold ZcJ at h
 split at h
 ·cases h
 ·rename_i h0
  injection h with h;subst h
  exact ZcB (rest:=[]) (by kernel_rfl) rfl (Zw P hP hN _ _) (Zw P hP hN _ _) rfl (ZG1 P hP hN l hl h0) hs sq
theorem Zeg {w:Int} {a:List Zm} {r:Zb} (hu:(ZV w l).2.1<=l.length) (h:Zbt w l=.ok (a,r)):Zk E BY σ sq 70 0 true [.ref t 0,.int .i64 w]=some (.lst false (a.map Zj),σ.set t (.var (P++[.lst false (r.map Zc)])),{ any:=true,upd:=[(t,P++[.lst false (r.map Zc)])] }):=by
 unfold Zbt at h
 split at h
 ·rename_i h0
  injection h with h;injection h with h1 h2;subst h1 h2
  exact Zda (rest:=[.int .i64 w]) (by kernel_rfl) rfl (Zw P hP hN _ _) (Zw P hP hN _ _) rfl rfl (ZFs P hP hN w l hl h0 hu) hs sq
 ·cases h
theorem ZfM {w c:Int} (h:Zbt w l=.error c):Zk E BY σ sq 70 0 true [.ref t 0,.int .i64 w]=some (.pan (Zx c),σ.set t (.var (P++[.lst false (l.map Zc)])),{ any:=true,upd:=[(t,P++[.lst false (l.map Zc)])] }):=by
 unfold Zbt at h
 split at h
 ·cases h
 ·rename_i h0
  injection h with h;subst h
  exact ZcB (rest:=[.int .i64 w]) (by kernel_rfl) rfl (Zw P hP hN _ _) (Zw P hP hN _ _) rfl (ZFx P hP hN w l hl h0) hs sq
end
theorem ZHN (l:Zb) (hl:l.length<=140737488355328) {n:Int} {r:Zb} (h:idK l=.ok (n,r)):E 72 [.ref 0 0] [.var (P++[.lst false (l.map Zc)])]=some (.tup [],[.var (P.set 4 (.int .i64 n)++[.lst false (r.map Zc)])]):=by
 unfold idK at h
 split at h
 case h_2=>cases h
 rename_i n' r' h2
 split at h
 ·cases h
 rename_i hn
 injection h with h;injection h with h3 h4;subst h3 h4
 have hG:=fun σ sq hs=>ZcR P hP hN l hl σ 0 sq hs (m:=2) rfl h2
 have a1:=Z6 P hP
 have a3:=Zax P hP 4 5 (by omega) rfl
 have a4:=Zh4 P hP 4 (by omega)
 have m1:=Zbd
 have h0:(n' != 0)=true:=by simpa using hn
 rw [Zg (by rfl) Zou]
 simp -implicitDefEqProofs only [EQA,ZE,Zq,Nat.reduceAdd,Nat.reduceLT,Nat.reduceLeDiff,Nat.reduceEqDiff,reduceCtorEq,↓reduceIte,Zd,ZnX,ZiY,ZAm,oI,oN,hG,a1,a3,a4,m1,h0]
 exact ZW rfl (ZaD (ZQ rfl 4 hN) (by rfl))
theorem Zkt (l:Zb) (hl:l.length<=140737488355328) {c:Int} (h:idK l=.error c):∃ cs,Zd cs=true/\E 72 [.ref 0 0] [.var (P++[.lst false (l.map Zc)])]=some (.pan (Zx c),[.var cs]):=by
 unfold idK at h
 split at h
 ·rename_i n' r' h2
  split at h
  case isFalse=>cases h
  rename_i hn
  injection h with h;subst h hn
  have hG:=fun σ sq hs=>ZcR P hP hN l hl σ 0 sq hs (m:=2) rfl h2
  have a1:=Z6 P hP
  have a3:=Zax P hP 4 5 (by omega) rfl
  have a4:=Zh4 P hP 4 (by omega)
  have m1:=Zbz
  refine ⟨P.set 4 (.int .i64 0)++[.lst false (r'.map Zc)],ZaD (ZQ rfl 4 hN) (by rfl),?_⟩
  rw [Zg (by rfl) Zou]
  simp -implicitDefEqProofs only [EQA,ZE,Nat.reduceAdd,Nat.reduceLT,Nat.reduceLeDiff,Nat.reduceEqDiff,reduceCtorEq,↓reduceIte,ZnX,ZiY,oI,oN,hG,a1,a3,a4,m1,bne_self_eq_false]
  exact ZW rfl (ZaD (ZQ rfl 4 hN) (by rfl))
 ·rename_i c' h2
  injection h with h;subst h
  have hG:=fun σ sq hs=>ZfB P hP hN l hl σ 0 sq hs (m:=2) rfl (by decide) h2
  refine ⟨P++[.lst false (l.map Zc)],ZaD hN (by rfl),?_⟩
  rw [Zg (by rfl) Zou]
  simp -implicitDefEqProofs only [EQA,Nat.reduceLT,reduceCtorEq,↓reduceIte,ZnX,ZiY,oI,oN,hG]
  exact ZW rfl (ZaD hN (by rfl))
theorem ZKk (k:Int) (hk:P[0]?=some (.int .i64 k)) (l:Zb) (hl:l.length<=140737488355328) {n:Int} {r:Zb} (h:ZaB k l=.ok (n,r)):E 69 [.ref 0 0] [.var (P++[.lst false (l.map Zc)])]=some (.int .i64 n,[.var (P++[.lst false (r.map Zc)])]):=by
 unfold ZaB at h
 split at h
 case h_2=>cases h
 rename_i n' r' h2
 split at h
 case isFalse=>cases h
 rename_i hn
 injection h with h;injection h with h3 h4;subst h3 h4
 have hG:=fun σ sq hs=>ZcR P hP hN l hl σ 0 sq hs (m:=1) rfl h2
 have a4:=fun L=>(Z8 P hP 0 (by omega) L).trans hk
 have m1:=Zbd
 have hC:=fun σ sq own=>Zif k n' σ sq own
 rw [hn] at hC
 rw [Zg (by rfl) ZfJ]
 simp -implicitDefEqProofs only [EQA,Nat.reduceLT,Nat.reduceEqDiff,reduceCtorEq,↓reduceIte,Zgb,Zeu,Zr1,oI,hG,hC,a4,m1]
 exact ZW rfl (ZaD hN (by rfl))
theorem ZvY (k:Int) (hk:P[0]?=some (.int .i64 k)) (l:Zb) (hl:l.length<=140737488355328) {c:Int} (h:ZaB k l=.error c):∃ cs,Zd cs=true/\E 69 [.ref 0 0] [.var (P++[.lst false (l.map Zc)])]=some (.pan (Zx c),[.var cs]):=by
 unfold ZaB at h
 split at h
 ·rename_i n' r' h2
  split at h
  case isTrue=>cases h
  rename_i hn
  injection h with h;subst h
  have hG:=fun σ sq hs=>ZcR P hP hN l hl σ 0 sq hs (m:=1) rfl h2
  have a4:=fun L=>(Z8 P hP 0 (by omega) L).trans hk
  have m1:=Zbz
  have hC:=fun σ sq own=>Zif k n' σ sq own
  rw [Bool.not_eq_true _ |>.mp hn] at hC
  refine ⟨P++[.lst false (r'.map Zc)],ZaD hN (by rfl),?_⟩
  rw [Zg (by rfl) ZfJ]
  simp -implicitDefEqProofs only [EQA,Nat.reduceLT,Nat.reduceEqDiff,reduceCtorEq,↓reduceIte,Zgb,Zeu,oI,hG,hC,a4,m1]
  exact ZW rfl (ZaD hN (by rfl))
 ·rename_i c' h2
  injection h with h;subst h
  have hG:=fun σ sq hs=>ZfB P hP hN l hl σ 0 sq hs (m:=1) rfl (by decide) h2
  refine ⟨P++[.lst false (l.map Zc)],ZaD hN (by rfl),?_⟩
  rw [Zg (by rfl) ZfJ]
  simp -implicitDefEqProofs only [EQA,Nat.reduceLT,reduceCtorEq,↓reduceIte,Zgb,Zeu,oI,hG]
  exact ZW rfl (ZaD hN (by rfl))
section
variable (l:Zb) (hl:l.length<=140737488355328) (σ:Za) (t sq:Nat) (hs:σ[t]?=some (.var (P++[.lst false (l.map Zc)])))
include hl hs
theorem ZfQ {n:Int} {r:Zb} (h:idK l=.ok (n,r)):Zk E BY σ sq 72 0 true [.ref t 0]=some (.tup [],σ.set t (.var (P.set 4 (.int .i64 n)++[.lst false (r.map Zc)])),{ any:=true,upd:=[(t,P.set 4 (.int .i64 n)++[.lst false (r.map Zc)])] }) :=
 Zda (rest:=[]) (by kernel_rfl) rfl (Zw P hP hN _ _) (ZaD (ZQ rfl 4 hN) (by rfl)) rfl rfl (ZHN P hP hN l hl h) hs sq
theorem Zi2 (k:Int) (hk:P[0]?=some (.int .i64 k)) {n:Int} {r:Zb} (h:ZaB k l=.ok (n,r)):Zk E BY σ sq 69 0 true [.ref t 0]=some (.int .i64 n,σ.set t (.var (P++[.lst false (r.map Zc)])),{ any:=true,upd:=[(t,P++[.lst false (r.map Zc)])] }) :=
 Zda (rest:=[]) (by kernel_rfl) rfl (Zw P hP hN _ _) (Zw P hP hN _ _) rfl rfl (ZKk P hP hN k hk l hl h) hs sq
end
end
end
section
def Zff:Option (List Zm)->AVal
 | none=>.lst true []
 | some l=>.lst false (l.map Zj)
def Zcs (k:Int) (l:Zb):RK (Int×Option (List Zm)) :=
 if l.length=0 then .ok ((0,none),l) else match ZaB k l with
 | .error c=>.error c
 | .ok (c,r)=>if r.length=0 then .ok ((c,none),r) else match Zbt k r with
  | .error c=>.error c
  | .ok (ps,r')=>.ok ((c,some ps),r')
theorem Zml {k n:Int} {l r:Zb} (h:ZaB k l=.ok (n,r)):r.length<=l.length:=by
 unfold ZaB ZaC at h
 split at h
 ·rename_i h1
  split at h1
  ·cases h1
  ·injection h1 with h1;injection h1 with _ h1
   split at h
   ·injection h with h;injection h with _ h;subst h h1;simp
   ·cases h
 ·cases h
theorem Zlv {P:List AVal} {k:Nat} {v:AVal} (h:P[k]?=some v):P.set k v=P:=by
 apply List.ext_getElem?
 intro j
 rw [List.getElem?_set]
 split
 ·rename_i e;subst e
  have hk:k < P.length:=by
   rcases Nat.lt_or_ge k P.length with h' | h'
   ·exact h'
   ·rw [List.getElem?_eq_none h'] at h;cases h
  rw [if_pos hk,h]
 ·rfl
section
variable (P:List AVal) (hP:P.length=26) (hN:Zd P=true)
include hP hN
theorem ZK2 (k:Int) (hk:P[0]?=some (.int .i64 k)) (h7:P[7]?=some (.int .i64 0)) (h9:P[9]?=some (.lst true [])) (hu:∀ r:Zb,r.length<=140737488355328->(ZV k r).2.1<=r.length) (l:Zb) (hl:l.length<=140737488355328) {c:Int} {ps:Option (List Zm)} {r:Zb} (h:Zcs k l=.ok ((c,ps),r)) :
  E 73 [.ref 0 0] [.var (P++[.lst false (l.map Zc)])]=some (.tup [],[.var ((P.set 7 (.int .i64 c)).set 9 (Zff ps)++[.lst false (r.map Zc)])]):=by
 have a1:=Z6 P hP
 have a2:=Zas P hP
 unfold Zcs at h
 split at h
 ·rename_i h0
  injection h with h;injection h with h1 h2;injection h1 with h1 h3;subst h1 h2 h3
  have hg:¬(l.length:Int) > 0:=by omega
  rw [show Zff none=.lst true [] from rfl,Zlv h7,Zlv h9]
  rw [Zg (by rfl) ZiS]
  simp -implicitDefEqProofs only [EQA,Zq,Nat.reduceLT,reduceCtorEq,↓reduceIte,Zd,Ziv,ZgG,Zo3,oI,oN,a2,hg]
  exact ZW rfl (Zw P hP hN _ _)
 ·rename_i h0
  have hg:(l.length:Int) > 0:=by omega
  split at h
  ·cases h
  rename_i c' r' hc
  have hr':=Zml hc
  have hC:=fun σ sq hs=>Zi2 P hP hN l hl σ 0 sq hs k hk hc
  have a3:=Zax P hP 7 8 (by omega) rfl
  have hP7:(P.set 7 (.int .i64 c')).length=26:=by simp [hP]
  have hN7:Zd (P.set 7 (.int .i64 c'))=true:=ZQ rfl 7 hN
  have hk7:(P.set 7 (.int .i64 c'))[0]?=some (.int .i64 k):=by rw [List.getElem?_set_ne (by omega)];exact hk
  have h97:(P.set 7 (.int .i64 c'))[9]?=some (.lst true []):=by rw [List.getElem?_set_ne (by omega)];exact h9
  have b1:=Z6 _ hP7
  have b2:=Zas _ hP7
  have b3:=Zax _ hP7 9 10 (by omega) rfl
  have b4:=fun L=>(Z8 _ hP7 0 (by omega) L).trans hk7
  split at h
  ·rename_i h1
   injection h with h;injection h with h1 h2;injection h1 with h1 h3;subst h1 h2 h3
   have hg':¬(r'.length:Int) > 0:=by omega
   rw [show Zff none=.lst true [] from rfl,Zlv h97]
   rw [Zg (by rfl) ZiS]
   simp -implicitDefEqProofs only [EQA,ZE,Zq,Nat.reduceAdd,Nat.reduceLT,Nat.reduceLeDiff,Nat.reduceEqDiff,reduceCtorEq,↓reduceIte,Zd,Ziv,ZgG,Zo3,oI,oN,a1,a2,a3,b2,hg,hg',hC]
   exact ZW rfl (Zw _ hP7 hN7 _ _)
  ·rename_i h1
   have hg':(r'.length:Int) > 0:=by omega
   split at h
   ·cases h
   rename_i ps' r2 hp
   injection h with h;injection h with h1 h2;injection h1 with h1 h3;subst h1 h2 h3
   have hG:=fun σ sq hs=>Zeg _ hP7 hN7 r' (by omega) σ 0 sq hs (hu r' (by omega)) hp
   rw [Zg (by rfl) ZiS]
   simp -implicitDefEqProofs only [EQA,ZE,Zq,Nat.reduceAdd,Nat.reduceLT,Nat.reduceLeDiff,Nat.reduceEqDiff,reduceCtorEq,↓reduceIte,Zd,Ziv,ZgG,Zo3,oI,oN,a1,a2,a3,b1,b2,b3,b4,hg,hg',hC,hG,Zff]
   exact ZW rfl (ZaD (ZQ (Zb2 _ _) 9 hN7) (by rfl))
theorem Zst (k:Int) (hk:P[0]?=some (.int .i64 k)) (hu:∀ r:Zb,r.length<=140737488355328->(ZV k r).2.1<=r.length) (l:Zb) (hl:l.length<=140737488355328) {e:Int} (h:Zcs k l=.error e) :
  ∃ cs,Zd cs=true/\E 73 [.ref 0 0] [.var (P++[.lst false (l.map Zc)])]=some (.pan (Zx e),[.var cs]):=by
 have a1:=Z6 P hP
 have a2:=Zas P hP
 unfold Zcs at h
 split at h
 ·cases h
 ·rename_i h0
  have hg:(l.length:Int) > 0:=by omega
  split at h
  ·rename_i c hc
   injection h with h;subst h
   obtain ⟨cs,hn,he⟩:=ZvY P hP hN k hk l hl hc
   have hC:=fun (σ:Za) sq (hs:σ[0]?=some (.var (P++[.lst false (l.map Zc)])))=>ZcB (O:=E) (bf:=BY) (f:=69) (view:=true) (rest:=[]) (by kernel_rfl) rfl (Zw P hP hN _ _) hn rfl he hs sq
   refine ⟨cs,hn,?_⟩
   rw [Zg (by rfl) ZiS]
   simp -implicitDefEqProofs only [EQA,Nat.reduceLT,reduceCtorEq,↓reduceIte,Ziv,ZgG,oI,oN,a2,hg,hC]
   exact ZW rfl hn
  ·rename_i c' r' hc
   have hr':=Zml hc
   have hC:=fun σ sq hs=>Zi2 P hP hN l hl σ 0 sq hs k hk hc
   have a3:=Zax P hP 7 8 (by omega) rfl
   have hP7:(P.set 7 (.int .i64 c')).length=26:=by simp [hP]
   have hN7:Zd (P.set 7 (.int .i64 c'))=true:=ZQ rfl 7 hN
   have hk7:(P.set 7 (.int .i64 c'))[0]?=some (.int .i64 k):=by rw [List.getElem?_set_ne (by omega)];exact hk
   have b1:=Z6 _ hP7
   have b2:=Zas _ hP7
   have b4:=fun L=>(Z8 _ hP7 0 (by omega) L).trans hk7
   split at h
   ·cases h
   ·rename_i h1
    have hg':(r'.length:Int) > 0:=by omega
    split at h
    ·rename_i c hp
     injection h with h;subst h
     have hG:=fun σ sq hs=>ZfM _ hP7 hN7 r' (by omega) σ 0 sq hs hp
     refine ⟨P.set 7 (.int .i64 c')++[.lst false (r'.map Zc)],Zw _ hP7 hN7 _ _,?_⟩
     rw [Zg (by rfl) ZiS]
     simp -implicitDefEqProofs only [EQA,ZE,Nat.reduceAdd,Nat.reduceLT,Nat.reduceLeDiff,Nat.reduceEqDiff,reduceCtorEq,↓reduceIte,Ziv,ZgG,oI,oN,a1,a2,a3,b2,b4,hg,hg',hC,hG]
     exact ZW rfl (Zw _ hP7 hN7 _ _)
    ·cases h
section
variable (l:Zb) (hl:l.length<=140737488355328) (σ:Za) (t sq:Nat) (hs:σ[t]?=some (.var (P++[.lst false (l.map Zc)])))
include hl hs
theorem ZuI (k:Int) (hk:P[0]?=some (.int .i64 k)) (h7:P[7]?=some (.int .i64 0)) (h9:P[9]?=some (.lst true [])) (hu:∀ r:Zb,r.length<=140737488355328->(ZV k r).2.1<=r.length) {c:Int} {ps:Option (List Zm)} {r:Zb} (h:Zcs k l=.ok ((c,ps),r)):Zk E BY σ sq 73 0 true [.ref t 0]=some (.tup [],σ.set t (.var ((P.set 7 (.int .i64 c)).set 9 (Zff ps)++[.lst false (r.map Zc)])),{ any:=true,upd:=[(t,(P.set 7 (.int .i64 c)).set 9 (Zff ps)++[.lst false (r.map Zc)])] }) :=
 Zda (rest:=[]) (by kernel_rfl) rfl (Zw P hP hN _ _) (ZaD (ZQ (by cases ps <;> rfl) 9 (ZQ rfl 7 hN)) (by rfl)) rfl rfl (ZK2 P hP hN k hk h7 h9 hu l hl h) hs sq
end
end
theorem ZgY {n:Nat} {l r:Zb} {a:Int} (h:ZaC n l=.ok (a,r)):r.length<=l.length:=by
 unfold ZaC at h
 split at h
 ·cases h
 ·injection h with h;injection h with _ h;subst h;simp
theorem Zfa {l r:Zb} {a:Int} (h:idK l=.ok (a,r)):r.length<=l.length:=by
 unfold idK at h
 split at h
 ·rename_i h1
  split at h
  ·cases h
  ·injection h with h;injection h with _ h;subst h;exact ZgY h1
 ·cases h
theorem Zdz {l r a:Zb} (h:Zaq l=.ok (a,r)):r.length<=l.length:=by
 unfold Zaq at h
 split at h
 ·injection h with h;injection h with _ h;subst h;simp
 ·cases h
theorem Zug {l r a:Zb} (h:ZcJ l=.ok (a,r)):r.length<=l.length:=by
 unfold ZcJ at h
 split at h
 ·injection h with h;injection h with _ h;subst h;simp
 ·cases h
theorem ZgS {w:Int} {l r:Zb} {a:List Zm} (h:Zbt w l=.ok (a,r)):r.length<=l.length:=by
 unfold Zbt at h
 split at h
 ·injection h with h;injection h with _ h;subst h;simp
 ·cases h
def ZeT (qos:Int) (l:Zb):Except Int (Zb×Int×List Zm×Zb):=match Zaq l with
 | .error c=>.error c
 | .ok (tp,r1)=>if qos > 0 then (match idK r1 with
  | .error c=>.error c
  | .ok (n,r2)=>match Zbt 3 r2 with
   | .error c=>.error c
   | .ok (ps,r3)=>.ok (tp,n,ps,r3))
  else match Zbt 3 r1 with
   | .error c=>.error c
   | .ok (ps,r3)=>.ok (tp,0,ps,r3)
section
variable (P:List AVal) (hP:P.length=26) (hN:Zd P=true)
include hP hN
theorem ZCz (qos:Int) (h2:P[2]?=some (.int .i64 qos)) (h4:P[4]?=some (.int .i64 0)) (hu:∀ r:Zb,r.length<=140737488355328->(ZV 3 r).2.1<=r.length) (l:Zb) (hl:l.length<=140737488355328) {tp:Zb} {n:Int} {ps:List Zm} {pay:Zb} (h:ZeT qos l=.ok (tp,n,ps,pay)) :
  E 71 [.ref 0 0] [.var (P++[.lst false (l.map Zc)])]=some (.tup [],[.var ((((P.set 5 (.str tp)).set 4 (.int .i64 n)).set 9 (.lst false (ps.map Zj))).set 6 (.lst false (pay.map Zc))++[.lst true []])]):=by
 have a1:=Z6 P hP
 have a2:=Zas P hP
 unfold ZeT at h
 split at h
 ·cases h
 rename_i tp' r1 ht
 have l1:=Zdz ht
 have hT:=fun σ sq hs=>ZdY P hP hN l hl σ 0 sq hs ht
 have a3:=fun L=>Zax P hP 5 6 (by omega) rfl L (.str tp')
 have hP5:(P.set 5 (.str tp')).length=26:=by simp [hP]
 have hN5:Zd (P.set 5 (.str tp'))=true:=ZQ rfl 5 hN
 have h25:(P.set 5 (.str tp'))[2]?=some (.int .i64 qos):=by rw [List.getElem?_set_ne (by omega)];exact h2
 have h45:(P.set 5 (.str tp'))[4]?=some (.int .i64 0):=by rw [List.getElem?_set_ne (by omega)];exact h4
 generalize hQ:P.set 5 (.str tp')=Q at *
 have b1:=Z6 _ hP5
 have b2:=Zas _ hP5
 have b4:=fun L=>(Z8 _ hP5 2 (by omega) L).trans h25
 split at h
 ·rename_i hq
  split at h
  ·cases h
  rename_i n' r2 hi
  have l2:=Zfa hi
  split at h
  ·cases h
  rename_i ps' r3 hp
  have l3:=ZgS hp
  injection h with h;injection h with e1 h;injection h with e2 h;injection h with e3 e4;subst e1 e2 e3 e4
  rw [hQ]
  have hI:=fun σ sq hs=>ZfQ Q hP5 hN5 r1 (by omega) σ 0 sq hs hi
  have hP4:(Q.set 4 (.int .i64 n')).length=26:=by simp [hP5]
  have hN4:Zd (Q.set 4 (.int .i64 n'))=true:=ZQ rfl 4 hN5
  generalize Q.set 4 (.int .i64 n')=R at *
  have hG:=fun σ sq hs=>Zeg _ hP4 hN4 r2 (by omega) σ 0 sq hs (hu r2 (by omega)) hp
  have c1:=Z6 _ hP4
  have c2:=Zas _ hP4
  have c3:=fun L=>Zax _ hP4 9 10 (by omega) rfl L (.lst false (ps'.map Zj))
  have hP9:(R.set 9 (.lst false (ps'.map Zj))).length=26:=by simp [hP4]
  have hN9:Zd (R.set 9 (.lst false (ps'.map Zj)))=true:=ZQ (Zb2 _ _) 9 hN4
  generalize R.set 9 (.lst false (ps'.map Zj))=S at *
  have d1:=Z6 _ hP9
  have d2:=Zas _ hP9
  have d3:=fun L=>Zax _ hP9 6 7 (by omega) rfl L (.lst false (r3.map Zc))
  have hP6:(S.set 6 (.lst false (r3.map Zc))).length=26:=by simp [hP9]
  have hN6:Zd (S.set 6 (.lst false (r3.map Zc)))=true:=ZQ (Zb2 _ _) 6 hN9
  generalize S.set 6 (.lst false (r3.map Zc))=U at *
  have f1:=Z6 _ hP6
  have f3:=ZeJ _ hP6
  have f4:=Zgd _ hP6
  have hC:=fun σ sq own=>Zj9 σ sq own r3 (by omega)
  rw [Zg (by rfl) Zho]
  simp -implicitDefEqProofs only [EQA,ZE,Zq,Nat.reduceAdd,Nat.reduceLT,Nat.reduceLeDiff,Nat.reduceEqDiff,reduceCtorEq,↓reduceIte,Zd,Zg9,Zf8,Zub,oI,oN,a1,a3,b4,c1,c3,d1,d2,d3,f1,f3,f4,hq,hT,hI,hG,hC]
  exact ZW rfl (ZaD hN6 (by rfl))
 ·rename_i hq
  split at h
  ·cases h
  rename_i ps' r3 hp
  have l3:=ZgS hp
  injection h with h;injection h with e1 h;injection h with e2 h;injection h with e3 e4;subst e1 e2 e3 e4
  rw [hQ,Zlv h45]
  have hG:=fun σ sq hs=>Zeg _ hP5 hN5 r1 (by omega) σ 0 sq hs (hu r1 (by omega)) hp
  have c3:=fun L=>Zax _ hP5 9 10 (by omega) rfl L (.lst false (ps'.map Zj))
  have hP9:(Q.set 9 (.lst false (ps'.map Zj))).length=26:=by simp [hP5]
  have hN9:Zd (Q.set 9 (.lst false (ps'.map Zj)))=true:=ZQ (Zb2 _ _) 9 hN5
  generalize Q.set 9 (.lst false (ps'.map Zj))=S at *
  have d1:=Z6 _ hP9
  have d2:=Zas _ hP9
  have d3:=fun L=>Zax _ hP9 6 7 (by omega) rfl L (.lst false (r3.map Zc))
  have hP6:(S.set 6 (.lst false (r3.map Zc))).length=26:=by simp [hP9]
  have hN6:Zd (S.set 6 (.lst false (r3.map Zc)))=true:=ZQ (Zb2 _ _) 6 hN9
  generalize S.set 6 (.lst false (r3.map Zc))=U at *
  have f1:=Z6 _ hP6
  have f3:=ZeJ _ hP6
  have f4:=Zgd _ hP6
  have hC:=fun σ sq own=>Zj9 σ sq own r3 (by omega)
  rw [Zg (by rfl) Zho]
  simp -implicitDefEqProofs only [EQA,ZE,Zq,Nat.reduceAdd,Nat.reduceLT,Nat.reduceLeDiff,Nat.reduceEqDiff,reduceCtorEq,↓reduceIte,Zd,Zg9,Zf8,Zub,oI,oN,a1,a3,b1,b4,c3,d1,d2,d3,f1,f3,f4,hq,hT,hG,hC]
  exact ZW rfl (ZaD hN6 (by rfl))
theorem ZNj (qos:Int) (h2:P[2]?=some (.int .i64 qos)) (l:Zb) (hl:l.length<=140737488355328) {c:Int} (h:ZeT qos l=.error c) :
  ∃ cs,Zd cs=true/\E 71 [.ref 0 0] [.var (P++[.lst false (l.map Zc)])]=some (.pan (Zx c),[.var cs]):=by
 have a1:=Z6 P hP
 have a2:=Zas P hP
 unfold ZeT at h
 split at h
 ·rename_i c' ht
  injection h with h;subst h
  have hT:=fun σ sq hs=>Zg4 P hP hN l hl σ 0 sq hs ht
  refine ⟨P++[.lst false (l.map Zc)],Zw P hP hN _ _,?_⟩
  rw [Zg (by rfl) Zho]
  simp -implicitDefEqProofs only [EQA,Nat.reduceLT,reduceCtorEq,↓reduceIte,Zg9,Zf8,oI,oN,hT]
  exact ZW rfl (Zw P hP hN _ _)
 rename_i tp' r1 ht
 have l1:=Zdz ht
 have hT:=fun σ sq hs=>ZdY P hP hN l hl σ 0 sq hs ht
 have a3:=fun L=>Zax P hP 5 6 (by omega) rfl L (.str tp')
 have hP5:(P.set 5 (.str tp')).length=26:=by simp [hP]
 have hN5:Zd (P.set 5 (.str tp'))=true:=ZQ rfl 5 hN
 have h25:(P.set 5 (.str tp'))[2]?=some (.int .i64 qos):=by rw [List.getElem?_set_ne (by omega)];exact h2
 generalize hQ:P.set 5 (.str tp')=Q at *
 have b1:=Z6 _ hP5
 have b2:=Zas _ hP5
 have b4:=fun L=>(Z8 _ hP5 2 (by omega) L).trans h25
 split at h
 ·rename_i hq
  split at h
  ·rename_i c' hi
   injection h with h;subst h
   obtain ⟨cs,hn,he⟩:=Zkt Q hP5 hN5 r1 (by omega) hi
   have hI:=fun (σ:Za) sq (hs:σ[0]?=some (.var (Q++[.lst false (r1.map Zc)])))=>ZcB (O:=E) (bf:=BY) (f:=72) (view:=true) (rest:=[]) (by kernel_rfl) rfl (Zw Q hP5 hN5 _ _) hn rfl he hs sq
   refine ⟨cs,hn,?_⟩
   rw [Zg (by rfl) Zho]
   simp -implicitDefEqProofs only [EQA,ZE,Nat.reduceAdd,Nat.reduceLT,Nat.reduceLeDiff,Nat.reduceEqDiff,reduceCtorEq,↓reduceIte,Zg9,Zf8,oI,oN,a1,a3,b4,hq,hT,hI]
   exact ZW rfl hn
  rename_i n' r2 hi
  have l2:=Zfa hi
  split at h
  ·rename_i c' hp
   injection h with h;subst h
   have hI:=fun σ sq hs=>ZfQ Q hP5 hN5 r1 (by omega) σ 0 sq hs hi
   have hP4:(Q.set 4 (.int .i64 n')).length=26:=by simp [hP5]
   have hN4:Zd (Q.set 4 (.int .i64 n'))=true:=ZQ rfl 4 hN5
   generalize Q.set 4 (.int .i64 n')=R at *
   have hG:=fun σ sq hs=>ZfM _ hP4 hN4 r2 (by omega) σ 0 sq hs hp
   refine ⟨R++[.lst false (r2.map Zc)],Zw R hP4 hN4 _ _,?_⟩
   rw [Zg (by rfl) Zho]
   simp -implicitDefEqProofs only [EQA,ZE,Nat.reduceAdd,Nat.reduceLT,Nat.reduceLeDiff,Nat.reduceEqDiff,reduceCtorEq,↓reduceIte,Zg9,Zf8,oI,oN,a1,a3,b4,hq,hT,hI,hG]
   exact ZW rfl (Zw R hP4 hN4 _ _)
  ·cases h
 ·rename_i hq
  split at h
  ·rename_i c' hp
   injection h with h;subst h
   have hG:=fun σ sq hs=>ZfM _ hP5 hN5 r1 (by omega) σ 0 sq hs hp
   refine ⟨Q++[.lst false (r1.map Zc)],Zw Q hP5 hN5 _ _,?_⟩
   rw [Zg (by rfl) Zho]
   simp -implicitDefEqProofs only [EQA,ZE,Nat.reduceAdd,Nat.reduceLT,Nat.reduceLeDiff,Nat.reduceEqDiff,reduceCtorEq,↓reduceIte,Zg9,Zf8,oI,oN,a1,a3,b4,hq,hT,hG]
   exact ZW rfl (Zw Q hP5 hN5 _ _)
  ·cases h
end
end
section
abbrev KSt:=List AVal×Zb
def Zh (P:List AVal) (l:Zb):Za:=[.var (P++[.lst false (l.map Zc)])]
def KRuns (c:Ze) (tm tm':Tms) (P:List AVal) (l:Zb):Except Int KSt->Prop
 | .ok (P',l')=>evC FC PR BY 1 c tm (Zh P l)=some (.normal,tm',Zh P' l')/\P'.length=26/\Zd P'=true/\l'.length<=l.length
 | .error e=>∃ tm2 cs,Zd cs=true/\evC FC PR BY 1 c tm (Zh P l)=some (.panic (Zx e),tm2,[.var cs])
theorem KRuns.seq {a b:Ze} {tm tm1 tm2:Tms} {P:List AVal} {l:Zb} {x:Except Int KSt} {f:KSt->Except Int KSt} (h:KRuns a tm tm1 P l x) (hb:∀ P' l',x=.ok (P',l')->P'.length=26->Zd P'=true->l'.length<=l.length->KRuns b tm1 tm2 P' l' (f (P',l'))):KRuns (.seq a b) tm tm2 P l (x.bind f):=by
 cases x with
 | error e =>
  obtain ⟨t,cs,h1,h2⟩:=h
  exact ⟨t,cs,h1,Ziu (by simp) h2⟩
 | ok s =>
  obtain ⟨P',l'⟩:=s
  obtain ⟨h1,h2,h3,h4⟩:=h
  have hb:=hb P' l' rfl h2 h3 h4
  show KRuns (.seq a b) tm tm2 P l (f (P',l'))
  generalize f (P',l')=y at *
  cases y with
  | error e =>
   obtain ⟨t,cs,g1,g2⟩:=hb
   exact ⟨t,cs,g1,by rw [Zii h1];exact g2⟩
  | ok s =>
   obtain ⟨P2,l2⟩:=s
   obtain ⟨g1,g2,g3,g4⟩:=hb
   exact ⟨by rw [Zii h1];exact g1,g2,g3,by omega⟩
def KRun (c:Ze) (tm:Tms) (P:List AVal) (l:Zb) (x:Except Int KSt):Prop:=∃ tm',KRuns c tm tm' P l x
theorem KRun.seqT {a b:Ze} {tm tm1:Tms} {P P1:List AVal} {l l1:Zb} {x:Except Int KSt} (h:evC FC PR BY 1 a tm (Zh P l)=some (.normal,tm1,Zh P1 l1)) (hl:l1.length<=l.length) (hb:KRun b tm1 P1 l1 x):KRun (.seq a b) tm P l x:=by
 obtain ⟨tm',hb⟩:=hb
 refine ⟨tm',?_⟩
 cases x with
 | error e =>
  obtain ⟨t,cs,g1,g2⟩:=hb
  exact ⟨t,cs,g1,by rw [Zii h];exact g2⟩
 | ok s =>
  obtain ⟨P2,l2⟩:=s
  obtain ⟨g1,g2,g3,g4⟩:=hb
  exact ⟨by rw [Zii h];exact g1,g2,g3,by omega⟩
theorem KRun.seqF {a b:Ze} {tm tm2:Tms} {P cs:List AVal} {l:Zb} {e:Int} (hn:Zd cs=true) (h:evC FC PR BY 1 a tm (Zh P l)=some (.panic (Zx e),tm2,[.var cs])):KRun (.seq a b) tm P l (.error e) :=
 ⟨[],tm2,cs,hn,Ziu (by simp) h⟩
theorem KRuns.fnT {f:Nat} {fn:ZD} (hp:PR f=none) (hf:FC f=some fn) (hr:fn.res=[]) {P P':List AVal} {l l':Zb} (h:KRun fn.body [(0,.ref 0 0)] P l (.ok (P',l'))):E f [.ref 0 0] (Zh P l)=some (.tup [],Zh P' l'):=by
 obtain ⟨_,h1,h2,h3,h4⟩:=h
 rw [Zg hp hf]
 show Zat 1 fn (evC FC PR BY 1 fn.body [(0,.ref 0 0)] (Zh P l))=_
 rw [h1]
 simp only [Zat,hr,resA,resAll]
 exact ZW rfl (ZaD h3 (by rfl))
theorem KRuns.fnF {f:Nat} {fn:ZD} (hp:PR f=none) (hf:FC f=some fn) {P:List AVal} {l:Zb} {e:Int} (h:KRun fn.body [(0,.ref 0 0)] P l (.error e)):∃ cs,Zd cs=true/\E f [.ref 0 0] (Zh P l)=some (.pan (Zx e),[.var cs]):=by
 obtain ⟨_,t,cs,h1,h2⟩:=h
 refine ⟨cs,h1,?_⟩
 rw [Zg hp hf]
 show Zat 1 fn (evC FC PR BY 1 fn.body [(0,.ref 0 0)] (Zh P l))=_
 rw [h2]
 simp only [Zat]
 exact ZW rfl h1
end
end Go.Proofs.YthfdocdjpdkmoaaGreatDoor
