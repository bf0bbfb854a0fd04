/- packed -/
import Derived.Test.YtmlkhhidifjjfaaGreatDoorMq2
set_option linter.defProp false
set_option linter.unusedSectionVars false
set_option linter.unusedSimpArgs false
set_option linter.unusedVariables false
namespace Go.Proofs.YtmlkhhidifjjfaaGreatDoor
set_option maxHeartbeats 16000000
set_option maxRecDepth 10000
section
def ZmY:Zf:=(.seq (.region [oI 21 (.build [(.int .i64 0),(.int .i64 0),(.str []),(.str []),(.lst true [])] []),oN (.st 5 (.t 4) (.t 21)),oI 5 (.mov (.c (.bool false)))] none [5,4]) .ret)
def ZpY:Zf:=ZmY
def ZKn:=xw ZpY ZmY rfl
def Zil:Zf:=(.seq (.region [oI 11 (.bin .lss (.t 10) (.t 9))] none [11,10,9,8,4,0]) (.seq (.cond (.t 11) .skip (.exit 0)) (.seq (.block 1 (.seq (.region [oI 12 (.iaddr 5 (.t 8) (.t 10)),oI 13 (.ld (some 5) (.t 12)),oI 7 (.alloc [(.int .i64 0),(.int .i64 0),(.str []),(.str []),(.lst true [])]),oN (.st 5 (.t 7) (.t 13))] none [10,9,8,7,4,0]) (.seq (.region [oI 14 (.faddr 0 (.t 7)),oI 15 (.ld none (.t 14)),oI 16 (.mov (.t 0)),oI 17 (.bin .eql (.t 15) (.t 16))] none [17,10,9,8,7,4,0]) (.cond (.t 17) (.seq (.region [oI 18 (.ld (some 5) (.t 7)),oI 19 (.call 146 0 true [(.t 18)]),oN (.st 5 (.t 4) (.t 19)),oI 5 (.mov (.c (.bool true)))] none [5,4]) .ret) .skip)))) (.region [oI 20 (.bin .add (.t 10) (.c (.int .i64 1))),oI 10 (.mov (.t 20))] none [10,9,8,4,0]))))
def Zob:Zf:=Zil
def ZoF:=xw Zob Zil rfl
def ZoO:Zf:=(.seq (.region [oI 4 (.alloc [(.int .i64 0),(.int .i64 0),(.str []),(.str []),(.lst true [])]),oI 5 (.mov (.c (.bool false)))] none [4,1,0]) (.seq (.seq (.region [oI 8 (.mov (.t 1)),oI 9 (.len (.t 8)),oI 10 (.mov (.c (.int .i64 0)))] none [10,9,8,4,0]) (.block 0 (.loop [10,9,8,4,0] Zob))) ZpY))
def Zlr:ZE:=⟨[(.cell 4 (some 5)),(.tmp 5)],ZoO⟩
theorem Zv5:FC 136=some Zlr:=by kernel_rfl
theorem ZHt:Zlr.body=ZoO:=rfl
theorem Zut:Zlr.res=[(.cell 4 (some 5)),(.tmp 5)]:=rfl
noncomputable def ZkI (m:Nat) (tm:Tms) (σ:Za):Option (AVal×Za):=(Zar m Zlr (ZbF FC PR BY m ZpY (Option.map (ZaT 0) (evL FC PR BY m [10,9,8,4,0] Zob tm σ))))
def Zn3:Zf:=(.seq (.region [oI 2 (.mov (.c (.int .i64 0)))] none [0]) (.seq (.region [oI 3 (.mov (.t 0)),oI 4 (.call 145 0 true [(.t 3)]),oI 5 (.field none 0 (.t 4)),oI 2 (.mov (.t 5))] none [2]) .ret))
def Zm6:ZE:=⟨[(.tmp 2)],Zn3⟩
theorem ZBG:FC 143=some Zm6:=by kernel_rfl
theorem ZE5:Zm6.body=Zn3:=rfl
theorem ZzW:Zm6.res=[(.tmp 2)]:=rfl
def ZfI:Zf:=(.seq (.region [oI 26 (.mov (.t 6)),oI 27 (.len (.t 26)),oI 28 (.call 36 0 true [(.t 27)]),oI 25 (.mov (.t 28)),oI 29 (.ext (.t 25) 0),oI 30 (.ext (.t 25) 1),oI 9 (.mov (.t 29)),oI 10 (.mov (.t 30))] none [10,9,6,1,0]) (.seq (.seq (.region [oI 31 (.mov (.t 10)),oI 32 (.bin .neq (.t 31) (.c (.int .i64 0)))] none [32,9,6,1,0]) (.cond (.t 32) (.seq (.region [oI 4 (.mov (.c (.lst true []))),oI 5 (.mov (.c (.int .i64 129)))] none [5,4]) .ret) .skip)) (.seq (.region [oI 33 (.mov (.t 9)),oI 34 (.mov (.t 6)),oI 35 (.bslice false 1 2 (.lst true []) [(0,(.t 33)),(1,(.t 34))]),oI 36 (.call 37 0 true [(.t 35)]),oI 6 (.mov (.t 36))] none [6,1,0]) (.seq (.region [oI 38 (.mov (.t 0)),oI 39 (.mov (.t 6)),oI 40 (.call 97 0 true [(.t 38),(.t 39)]),oI 37 (.mov (.t 40)),oI 41 (.ext (.t 37) 0),oI 42 (.ext (.t 37) 1),oI 43 (.ext (.t 37) 2),oI 11 (.mov (.t 41)),oI 12 (.mov (.t 42)),oI 13 (.mov (.t 43))] none [13,12,11,6,1]) (.seq (.seq (.region [oI 44 (.mov (.t 13)),oI 45 (.bin .neq (.t 44) (.c (.int .i64 0))),oI 46 (.mov (.t 45)),⟨(some 47),(.mov (.t 12)),(some (46,false)),[]⟩,⟨(some 48),(.mov (.t 6)),(some (46,false)),[]⟩,⟨(some 49),(.len (.t 48)),(some (46,false)),[]⟩,⟨(some 50),(.bin .neq (.t 47) (.t 49)),(some (46,false)),[]⟩,oI 51 (.pick (.t 46) (.c (.bool true)) (.t 50)),oI 52 (.mov (.t 51)),⟨(some 53),(.mov (.t 11)),(some (52,false)),[]⟩,⟨(some 54),(.mov (.t 1)),(some (52,false)),[]⟩,⟨(some 55),(.call 48 0 true [(.t 53),(.t 54)]),(some (52,false)),[]⟩,⟨(some 56),(.un .not (.t 55)),(some (52,false)),[]⟩,oI 57 (.pick (.t 52) (.c (.bool true)) (.t 56))] none [57,6]) (.cond (.t 57) (.seq (.region [oI 4 (.mov (.c (.lst true []))),oI 5 (.mov (.c (.int .i64 129)))] none [5,4]) .ret) .skip)) (.seq (.region [oI 58 (.mov (.t 6)),oI 4 (.mov (.t 58)),oI 5 (.mov (.c (.int .i64 0)))] none [5,4]) .ret))))))
def ZoK:Zf:=ZfI
def ZhI:=xw ZoK ZfI rfl
def Zea:Zf:=(.seq (.region [oI 17 (.bin .lss (.t 16) (.t 15))] none [17,16,15,14,6,1,0]) (.seq (.cond (.t 17) .skip (.exit 0)) (.seq (.block 1 (.seq (.region [oI 18 (.iaddr 5 (.t 14) (.t 16)),oI 19 (.ld (some 5) (.t 18)),oI 8 (.alloc [(.int .i64 0),(.int .i64 0),(.str []),(.str []),(.lst true [])]),oN (.st 5 (.t 8) (.t 19))] none [16,15,14,8,6,1,0]) (.region [oI 20 (.mov (.t 6)),oI 21 (.ld (some 5) (.t 8)),oI 22 (.call 128 0 true [(.t 21)]),oI 23 (.app 1 1 (.int .u8 0) (.t 20) (.t 22)),oI 6 (.mov (.t 23))] none [16,15,14,6,1,0]))) (.region [oI 24 (.bin .add (.t 16) (.c (.int .i64 1))),oI 16 (.mov (.t 24))] none [16,15,14,6,1,0]))))
def Zn0:Zf:=Zea
def ZfP:=xw Zn0 Zea rfl
def ZjF:Zf:=(.seq (.region [oI 4 (.mov (.c (.lst true []))),oI 5 (.mov (.c (.int .i64 0)))] none [1,0]) (.seq (.region [oI 6 (.mov (.c (.lst true [])))] none [6,1,0]) (.seq (.seq (.region [oI 14 (.mov (.t 1)),oI 15 (.len (.t 14)),oI 16 (.mov (.c (.int .i64 0)))] none [16,15,14,6,1,0]) (.block 0 (.loop [16,15,14,6,1,0] Zn0))) ZoK)))
def ZkT:ZE:=⟨[(.tmp 4),(.tmp 5)],ZjF⟩
theorem Zsk:FC 107=some ZkT:=by kernel_rfl
theorem ZsN:ZkT.body=ZjF:=rfl
theorem ZhF:ZkT.res=[(.tmp 4),(.tmp 5)]:=rfl
noncomputable def ZiF (m:Nat) (tm:Tms) (σ:Za):Option (AVal×Za):=(Zar m ZkT (ZbF FC PR BY m ZoK (Option.map (ZaT 0) (evL FC PR BY m [16,15,14,6,1,0] Zn0 tm σ))))
def Zii:Zf:=(.seq (.region [oI 4 (.mov (.c (.bool false)))] none [1,0]) (.seq (.region [oI 5 (.mov (.t 1)),oI 6 (.bin .geq (.t 5) (.c (.int .i64 1))),oI 7 (.mov (.t 6)),⟨(some 8),(.mov (.t 1)),(some (7,true)),[]⟩,⟨(some 9),(.bin .leq (.t 8) (.c (.int .i64 16))),(some (7,true)),[]⟩,oI 10 (.pick (.t 7) (.t 9) (.c (.bool false))),oI 11 (.mov (.t 10)),⟨(some 12),(.mov (.t 0)),(some (11,true)),[]⟩,⟨(some 13),(.call 145 0 true [(.t 12)]),(some (11,true)),[]⟩,⟨(some 14),(.field none 1 (.t 13)),(some (11,true)),[]⟩,⟨(some 15),(.mov (.t 1)),(some (11,true)),[]⟩,⟨(some 16),(.bin .shr (.t 14) (.t 15)),(some (11,true)),[]⟩,⟨(some 17),(.bin .and (.t 16) (.c (.int .i64 1))),(some (11,true)),[]⟩,⟨(some 18),(.bin .eql (.t 17) (.c (.int .i64 1))),(some (11,true)),[]⟩,oI 19 (.pick (.t 11) (.t 18) (.c (.bool false))),oI 4 (.mov (.t 19))] none [4]) .ret))
def ZnQ:ZE:=⟨[(.tmp 4)],Zii⟩
theorem Zy8:FC 134=some ZnQ:=by kernel_rfl
theorem ZnE:ZnQ.body=Zii:=rfl
theorem Zna:ZnQ.res=[(.tmp 4)]:=rfl
def Zks:Zf:=(.seq (.region [oI 57 (.mov (.t 4)),oI 58 (.mov (.t 8)),oI 59 (.mov (.t 7)),oI 60 (.bin .add (.t 58) (.t 59)),oI 4 (.mov (.t 57)),oI 5 (.mov (.t 60)),oI 6 (.mov (.c (.int .i64 0)))] none [6,5,4]) .ret)
def ZmO:Zf:=Zks
def ZrY:=xw ZmO Zks rfl
def Zfs:Zf:=(.seq (.seq (.region [oI 36 (.mov (.t 10)),oI 37 (.len (.t 36)),oI 38 (.bin .gtr (.t 37) (.c (.int .i64 0)))] none [38,10,8,7,4,0]) (.cond (.t 38) .skip (.exit 0))) (.block 1 (.seq (.region [oI 40 (.mov (.t 0)),oI 41 (.mov (.t 10)),oI 42 (.mov (.t 4)),oI 43 (.call 117 0 true [(.t 40),(.t 41),(.t 42)]),oI 39 (.mov (.t 43)),oI 44 (.ext (.t 39) 0),oI 45 (.ext (.t 39) 1),oI 46 (.ext (.t 39) 2),oI 11 (.alloc [(.int .i64 0),(.int .i64 0),(.str []),(.str []),(.lst true [])]),oN (.st 5 (.t 11) (.t 44)),oI 12 (.mov (.t 45)),oI 13 (.mov (.t 46))] none [13,12,11,10,8,7,4,0]) (.seq (.seq (.region [oI 47 (.mov (.t 13)),oI 48 (.bin .neq (.t 47) (.c (.int .i64 0)))] none [48,13,12,11,10,8,7,4,0]) (.cond (.t 48) (.seq (.region [oI 49 (.mov (.t 13)),oI 4 (.mov (.c (.lst true []))),oI 5 (.mov (.c (.int .i64 0))),oI 6 (.mov (.t 49))] none [6,5,4]) .ret) .skip)) (.seq (.region [oI 50 (.mov (.t 4)),oI 51 (.ld (some 5) (.t 11)),oI 52 (.bslice false 5 1 (.agg [(.int .i64 0),(.int .i64 0),(.str []),(.str []),(.lst true [])]) [(0,(.t 51))]),oI 53 (.app 5 72 (.agg [(.int .i64 0),(.int .i64 0),(.str []),(.str []),(.lst true [])]) (.t 50) (.t 52)),oI 4 (.mov (.t 53))] none [12,10,8,7,4,0]) (.region [oI 54 (.mov (.t 10)),oI 55 (.mov (.t 12)),oI 56 (.slice 1 (.t 54) (some (.t 55)) none none),oI 10 (.mov (.t 56))] none [10,8,7,4,0]))))))
def ZoR:Zf:=Zfs
def Zhr:=xw ZoR Zfs rfl
def ZhK:Zf:=(.seq (.region [oI 4 (.mov (.c (.lst true []))),oI 5 (.mov (.c (.int .i64 0))),oI 6 (.mov (.c (.int .i64 0)))] none [4,1,0]) (.seq (.region [oI 15 (.mov (.t 1)),oI 16 (.call 116 0 true [(.t 15)]),oI 14 (.mov (.t 16)),oI 17 (.ext (.t 14) 0),oI 18 (.ext (.t 14) 1),oI 19 (.ext (.t 14) 2),oI 7 (.mov (.t 17)),oI 8 (.mov (.t 18)),oI 9 (.mov (.t 19))] none [9,8,7,4,1,0]) (.seq (.seq (.region [oI 20 (.mov (.t 9)),oI 21 (.bin .neq (.t 20) (.c (.int .i64 0))),oI 22 (.mov (.t 21)),⟨(some 23),(.mov (.t 7)),(some (22,false)),[]⟩,⟨(some 24),(.mov (.t 1)),(some (22,false)),[]⟩,⟨(some 25),(.len (.t 24)),(some (22,false)),[]⟩,⟨(some 26),(.mov (.t 8)),(some (22,false)),[]⟩,⟨(some 27),(.bin .sub (.t 25) (.t 26)),(some (22,false)),[]⟩,⟨(some 28),(.bin .gtr (.t 23) (.t 27)),(some (22,false)),[]⟩,oI 29 (.pick (.t 22) (.c (.bool true)) (.t 28))] none [29,8,7,4,1,0]) (.cond (.t 29) (.seq (.region [oI 4 (.mov (.c (.lst true []))),oI 5 (.mov (.c (.int .i64 0))),oI 6 (.mov (.c (.int .i64 129)))] none [6,5,4]) .ret) .skip)) (.seq (.seq (.region [oI 30 (.mov (.t 1)),oI 31 (.mov (.t 8)),oI 32 (.mov (.t 8)),oI 33 (.mov (.t 7)),oI 34 (.bin .add (.t 32) (.t 33)),oI 35 (.slice 1 (.t 30) (some (.t 31)) (some (.t 34)) none),oI 10 (.mov (.t 35))] none [10,8,7,4,0]) (.block 0 (.loop [10,8,7,4,0] ZoR))) ZmO))))
def ZjE:ZE:=⟨[(.tmp 4),(.tmp 5),(.tmp 6)],ZhK⟩
theorem Zpo:FC 97=some ZjE:=by kernel_rfl
theorem ZnH:ZjE.body=ZhK:=rfl
theorem ZgX:ZjE.res=[(.tmp 4),(.tmp 5),(.tmp 6)]:=rfl
noncomputable def Zha (m:Nat) (tm:Tms) (σ:Za):Option (AVal×Za):=(Zar m ZjE (ZbF FC PR BY m ZmO (Option.map (ZaT 0) (evL FC PR BY m [10,8,7,4,0] ZoR tm σ))))
def ZmW:Zf:=(.seq (.region [oI 4 (.mov (.c (.bool false)))] none [1,0]) (.seq (.region [oI 5 (.mov (.t 0)),oI 6 (.mov (.t 1)),oI 7 (.call 92 0 true [(.t 5),(.t 6),(.c (.fn 93 []))]),oI 4 (.mov (.t 7))] none [4]) .ret))
def Zpw:ZE:=⟨[(.tmp 4)],ZmW⟩
theorem ZAe:FC 48=some Zpw:=by kernel_rfl
theorem ZEm:Zpw.body=ZmW:=rfl
theorem ZH2:Zpw.res=[(.tmp 4)]:=rfl
def ZoX:Zf:=(.seq (.region [oI 2 (.box (.t 0)),oI 3 (.box (.t 1)),oI 4 (.mov (.c (.bool false)))] none [3,2]) (.seq (.region [oI 5 (.faddr 0 (.t 2)),oI 6 (.ld none (.t 5)),oI 7 (.faddr 0 (.t 3)),oI 8 (.ld none (.t 7)),oI 9 (.bin .eql (.t 6) (.t 8)),oI 10 (.mov (.t 9)),⟨(some 11),(.faddr 1 (.t 2)),(some (10,true)),[]⟩,⟨(some 12),(.ld none (.t 11)),(some (10,true)),[]⟩,⟨(some 13),(.faddr 1 (.t 3)),(some (10,true)),[]⟩,⟨(some 14),(.ld none (.t 13)),(some (10,true)),[]⟩,⟨(some 15),(.bin .eql (.t 12) (.t 14)),(some (10,true)),[]⟩,oI 16 (.pick (.t 10) (.t 15) (.c (.bool false))),oI 17 (.mov (.t 16)),⟨(some 18),(.faddr 2 (.t 2)),(some (17,true)),[]⟩,⟨(some 19),(.ld none (.t 18)),(some (17,true)),[]⟩,⟨(some 20),(.faddr 2 (.t 3)),(some (17,true)),[]⟩,⟨(some 21),(.ld none (.t 20)),(some (17,true)),[]⟩,⟨(some 22),(.bin .eql (.t 19) (.t 21)),(some (17,true)),[]⟩,oI 23 (.pick (.t 17) (.t 22) (.c (.bool false))),oI 24 (.mov (.t 23)),⟨(some 25),(.faddr 3 (.t 2)),(some (24,true)),[]⟩,⟨(some 26),(.ld none (.t 25)),(some (24,true)),[]⟩,⟨(some 27),(.faddr 3 (.t 3)),(some (24,true)),[]⟩,⟨(some 28),(.ld none (.t 27)),(some (24,true)),[]⟩,⟨(some 29),(.bin .eql (.t 26) (.t 28)),(some (24,true)),[]⟩,oI 30 (.pick (.t 24) (.t 29) (.c (.bool false))),oI 31 (.mov (.t 30)),⟨(some 32),(.faddr 4 (.t 2)),(some (31,true)),[]⟩,⟨(some 33),(.ld none (.t 32)),(some (31,true)),[]⟩,⟨(some 34),(.b2s (.t 33)),(some (31,true)),[]⟩,⟨(some 35),(.faddr 4 (.t 3)),(some (31,true)),[]⟩,⟨(some 36),(.ld none (.t 35)),(some (31,true)),[]⟩,⟨(some 37),(.b2s (.t 36)),(some (31,true)),[]⟩,⟨(some 38),(.bin .eql (.t 34) (.t 37)),(some (31,true)),[]⟩,oI 39 (.pick (.t 31) (.t 38) (.c (.bool false))),oI 4 (.mov (.t 39))] none [4]) .ret))
def Zov:ZE:=⟨[(.tmp 4)],ZoX⟩
theorem Zu1:FC 93=some Zov:=by kernel_rfl
theorem ZJZ:Zov.body=ZoX:=rfl
theorem ZJp:Zov.res=[(.tmp 4)]:=rfl
def ZnU:Zf:=(.seq (.region [oI 1 (.box (.t 0)),oI 2 (.alloc [(.int .i64 0),(.int .i64 0),(.str []),(.str []),(.lst true [])])] none [2,1]) (.seq (.region [oI 3 (.faddr 4 (.t 1)),oI 4 (.ld none (.t 3)),oI 5 (.call 98 0 true [(.t 4)]),oI 6 (.faddr 4 (.t 1)),oN (.st 1 (.t 6) (.t 5))] none [2,1]) (.seq (.region [oI 7 (.ld (some 5) (.t 1)),oN (.st 5 (.t 2) (.t 7))] none [2]) .ret)))
def ZmT:ZE:=⟨[(.cell 2 (some 5))],ZnU⟩
theorem ZFv:FC 146=some ZmT:=by kernel_rfl
theorem ZG8:ZmT.body=ZnU:=rfl
theorem ZI3:ZmT.res=[(.cell 2 (some 5))]:=rfl
def Znz:Zf:=(.seq (.region [oI 1 (.box (.t 0)),oI 2 (.mov (.c (.bool false)))] none [1]) (.seq (.seq (.region [oI 3 (.faddr 0 (.t 1)),oI 4 (.ld none (.t 3))] none [4,1]) (.block 0 (.seq (.seq (.region [oI 6 (.bin .eql (.t 4) (.c (.int .i64 11))),oI 5 (.mov (.t 6))] none [5,4,1]) (.cond (.t 5) .skip (.seq (.region [oI 7 (.bin .eql (.t 4) (.c (.int .i64 33))),oI 5 (.mov (.t 7))] none [5,4,1]) (.cond (.t 5) .skip (.seq (.region [oI 8 (.bin .eql (.t 4) (.c (.int .i64 35))),oI 5 (.mov (.t 8))] none [5,4,1]) (.cond (.t 5) .skip (.region [oI 9 (.bin .eql (.t 4) (.c (.int .i64 39))),oI 5 (.mov (.t 9))] none [5,1]))))))) (.cond (.t 5) (.seq (.region [oI 10 (.faddr 1 (.t 1)),oI 11 (.ld none (.t 10)),oI 12 (.bin .neq (.t 11) (.c (.int .i64 0))),oI 2 (.mov (.t 12))] none [2]) .ret) .skip)))) (.seq (.region [oI 13 (.faddr 0 (.t 1)),oI 14 (.ld none (.t 13)),oI 15 (.call 143 0 true [(.t 14)]),oI 16 (.bin .neq (.t 15) (.c (.int .i64 1))),oI 17 (.mov (.t 16)),⟨(some 18),(.faddr 1 (.t 1)),(some (17,false)),[]⟩,⟨(some 19),(.ld none (.t 18)),(some (17,false)),[]⟩,⟨(some 20),(.bin .leq (.t 19) (.c (.int .i64 1))),(some (17,false)),[]⟩,oI 21 (.pick (.t 17) (.c (.bool true)) (.t 20)),oI 2 (.mov (.t 21))] none [2]) .ret)))
def Zo8:ZE:=⟨[(.tmp 2)],Znz⟩
theorem ZzB:FC 138=some Zo8:=by kernel_rfl
theorem ZwY:Zo8.body=Znz:=rfl
theorem ZCr:Zo8.res=[(.tmp 2)]:=rfl
def Zep:Zf:=(.seq (.region [oI 1 (.box (.t 0)),oI 2 (.mov (.c (.lst true [])))] none [1]) (.seq (.region [oI 8 (.faddr 0 (.t 1)),oI 9 (.ld none (.t 8)),oI 10 (.call 36 0 true [(.t 9)]),oI 7 (.mov (.t 10)),oI 11 (.ext (.t 7) 0),oI 12 (.ext (.t 7) 1),oI 3 (.mov (.t 11)),oI 4 (.mov (.t 12))] none [3,1]) (.seq (.region [oI 5 (.mov (.c (.lst true []))),oI 6 (.mov (.c (.lst true [])))] none [6,5,3,1]) (.seq (.seq (.region [oI 13 (.faddr 0 (.t 1)),oI 14 (.ld none (.t 13)),oI 15 (.call 143 0 true [(.t 14)])] none [15,6,5,3,1]) (.block 0 (.seq (.seq (.region [oI 17 (.bin .eql (.t 15) (.c (.int .i64 1))),oI 16 (.mov (.t 17))] none [16,15,6,5,3,1]) (.cond (.t 16) .skip (.seq (.region [oI 18 (.bin .eql (.t 15) (.c (.int .i64 2))),oI 16 (.mov (.t 18))] none [16,15,6,5,3,1]) (.cond (.t 16) .skip (.region [oI 19 (.bin .eql (.t 15) (.c (.int .i64 3))),oI 16 (.mov (.t 19))] none [16,15,6,5,3,1]))))) (.cond (.t 16) (.region [oI 20 (.faddr 1 (.t 1)),oI 21 (.ld none (.t 20)),oI 22 (.i2i .u64 (.t 21)),oI 23 (.faddr 0 (.t 1)),oI 24 (.ld none (.t 23)),oI 25 (.call 143 0 true [(.t 24)]),oI 26 (.bin .sub (.t 25) (.c (.int .i64 1))),oI 27 (.bin .shl (.c (.int .i64 1)) (.t 26)),oI 28 (.call 106 0 true [(.t 22),(.t 27)]),oI 5 (.mov (.t 28))] (some [(1,4),(1,5),(5,5),(8,8)]) [6,5,3]) (.seq (.region [oI 30 (.bin .eql (.t 15) (.c (.int .i64 4))),oI 29 (.mov (.t 30))] none [29,15,6,5,3,1]) (.cond (.t 29) (.region [oI 32 (.faddr 1 (.t 1)),oI 33 (.ld none (.t 32)),oI 34 (.call 36 0 true [(.t 33)]),oI 31 (.mov (.t 34)),oI 35 (.ext (.t 31) 0),oI 36 (.ext (.t 31) 1),oI 5 (.mov (.t 35))] none [6,5,3]) (.seq (.region [oI 38 (.bin .eql (.t 15) (.c (.int .i64 5))),oI 37 (.mov (.t 38))] none [37,15,6,5,3,1]) (.cond (.t 37) (.region [oI 40 (.faddr 2 (.t 1)),oI 41 (.ld none (.t 40)),oI 42 (.call 108 0 true [(.t 41)]),oI 39 (.mov (.t 42)),oI 43 (.ext (.t 39) 0),oI 44 (.ext (.t 39) 1),oI 5 (.mov (.t 43))] none [6,5,3]) (.seq (.region [oI 46 (.bin .eql (.t 15) (.c (.int .i64 6))),oI 45 (.mov (.t 46))] none [45,15,6,5,3,1]) (.cond (.t 45) (.region [oI 48 (.faddr 4 (.t 1)),oI 49 (.ld none (.t 48)),oI 50 (.call 127 0 true [(.t 49)]),oI 47 (.mov (.t 50)),oI 51 (.ext (.t 47) 0),oI 52 (.ext (.t 47) 1),oI 5 (.mov (.t 51))] none [6,5,3]) (.seq (.region [oI 54 (.bin .eql (.t 15) (.c (.int .i64 7))),oI 53 (.mov (.t 54))] none [53,6,5,3,1]) (.cond (.t 53) (.seq (.region [oI 56 (.faddr 2 (.t 1)),oI 57 (.ld none (.t 56)),oI 58 (.call 108 0 true [(.t 57)]),oI 55 (.mov (.t 58)),oI 59 (.ext (.t 55) 0),oI 60 (.ext (.t 55) 1),oI 5 (.mov (.t 59))] none [5,3,1]) (.region [oI 62 (.faddr 3 (.t 1)),oI 63 (.ld none (.t 62)),oI 64 (.call 108 0 true [(.t 63)]),oI 61 (.mov (.t 64)),oI 65 (.ext (.t 61) 0),oI 66 (.ext (.t 61) 1),oI 6 (.mov (.t 65))] none [6,5,3])) .skip)))))))))))) (.seq (.region [oI 67 (.mov (.t 3)),oI 68 (.mov (.t 5)),oI 69 (.mov (.t 6)),oI 70 (.bslice false 1 3 (.lst true []) [(0,(.t 67)),(1,(.t 68)),(2,(.t 69))]),oI 71 (.call 37 0 true [(.t 70)]),oI 2 (.mov (.t 71))] none [2]) .ret)))))
def ZoZ:ZE:=⟨[(.tmp 2)],Zep⟩
theorem ZfB:FC 128=some ZoZ:=by kernel_rfl
theorem Zfp:ZoZ.body=Zep:=rfl
theorem Zfe:ZoZ.res=[(.tmp 2)]:=rfl
def ZmS:Zf:=(.seq (.region [oI 2 (.alloc [(.int .i64 0),(.int .i64 0)])] none [2,0]) (.seq (.seq (.region [oI 3 (.mov (.t 0))] none [3,2]) (.block 0 (.seq (.region [oI 5 (.bin .eql (.t 3) (.c (.int .i64 1))),oI 4 (.mov (.t 5))] none [4,3,2]) (.cond (.t 4) (.seq (.region [oI 6 (.bslice false 1 2 (.int .i64 0) [(0,(.c (.int .i64 3))),(1,(.c (.int .i64 16)))]),oI 7 (.call 148 0 true [(.t 6)]),oI 8 (.build [(.int .i64 0),(.int .i64 0)] [(0,1,(.c (.int .i64 1))),(1,1,(.t 7))]),oN (.st 2 (.t 2) (.t 8))] none [2]) .ret) (.seq (.region [oI 10 (.bin .eql (.t 3) (.c (.int .i64 2))),oI 9 (.mov (.t 10))] none [9,3,2]) (.cond (.t 9) (.seq (.region [oI 11 (.bslice false 1 2 (.int .i64 0) [(0,(.c (.int .i64 3))),(1,(.c (.int .i64 16)))]),oI 12 (.call 148 0 true [(.t 11)]),oI 13 (.build [(.int .i64 0),(.int .i64 0)] [(0,1,(.c (.int .i64 3))),(1,1,(.t 12))]),oN (.st 2 (.t 2) (.t 13))] none [2]) .ret) (.seq (.seq (.region [oI 15 (.bin .eql (.t 3) (.c (.int .i64 3))),oI 14 (.mov (.t 15))] none [14,3,2]) (.cond (.t 14) .skip (.region [oI 16 (.bin .eql (.t 3) (.c (.int .i64 8))),oI 14 (.mov (.t 16))] none [14,3,2]))) (.cond (.t 14) (.seq (.region [oI 17 (.bslice false 1 2 (.int .i64 0) [(0,(.c (.int .i64 3))),(1,(.c (.int .i64 16)))]),oI 18 (.call 148 0 true [(.t 17)]),oI 19 (.build [(.int .i64 0),(.int .i64 0)] [(0,1,(.c (.int .i64 5))),(1,1,(.t 18))]),oN (.st 2 (.t 2) (.t 19))] none [2]) .ret) (.seq (.region [oI 21 (.bin .eql (.t 3) (.c (.int .i64 9))),oI 20 (.mov (.t 21))] none [20,3,2]) (.cond (.t 20) (.seq (.region [oI 22 (.bslice false 1 2 (.int .i64 0) [(0,(.c (.int .i64 3))),(1,(.c (.int .i64 16)))]),oI 23 (.call 148 0 true [(.t 22)]),oI 24 (.build [(.int .i64 0),(.int .i64 0)] [(0,1,(.c (.int .i64 6))),(1,1,(.t 23))]),oN (.st 2 (.t 2) (.t 24))] none [2]) .ret) (.seq (.region [oI 26 (.bin .eql (.t 3) (.c (.int .i64 11))),oI 25 (.mov (.t 26))] none [25,3,2]) (.cond (.t 25) (.seq (.region [oI 27 (.bslice false 1 2 (.int .i64 0) [(0,(.c (.int .i64 3))),(1,(.c (.int .i64 8)))]),oI 28 (.call 148 0 true [(.t 27)]),oI 29 (.build [(.int .i64 0),(.int .i64 0)] [(0,1,(.c (.int .i64 4))),(1,1,(.t 28))]),oN (.st 2 (.t 2) (.t 29))] none [2]) .ret) (.seq (.region [oI 31 (.bin .eql (.t 3) (.c (.int .i64 17))),oI 30 (.mov (.t 31))] none [30,3,2]) (.cond (.t 30) (.seq (.region [oI 32 (.bslice false 1 3 (.int .i64 0) [(0,(.c (.int .i64 1))),(1,(.c (.int .i64 2))),(2,(.c (.int .i64 14)))]),oI 33 (.call 148 0 true [(.t 32)]),oI 34 (.build [(.int .i64 0),(.int .i64 0)] [(0,1,(.c (.int .i64 3))),(1,1,(.t 33))]),oN (.st 2 (.t 2) (.t 34))] none [2]) .ret) (.seq (.seq (.region [oI 36 (.bin .eql (.t 3) (.c (.int .i64 18))),oI 35 (.mov (.t 36))] none [35,3,2]) (.cond (.t 35) .skip (.region [oI 37 (.bin .eql (.t 3) (.c (.int .i64 26))),oI 35 (.mov (.t 37))] none [35,3,2]))) (.cond (.t 35) (.seq (.region [oI 38 (.bslice false 1 1 (.int .i64 0) [(0,(.c (.int .i64 2)))]),oI 39 (.call 148 0 true [(.t 38)]),oI 40 (.build [(.int .i64 0),(.int .i64 0)] [(0,1,(.c (.int .i64 5))),(1,1,(.t 39))]),oN (.st 2 (.t 2) (.t 40))] none [2]) .ret) (.seq (.region [oI 42 (.bin .eql (.t 3) (.c (.int .i64 19))),oI 41 (.mov (.t 42))] none [41,3,2]) (.cond (.t 41) (.seq (.region [oI 43 (.bslice false 1 1 (.int .i64 0) [(0,(.c (.int .i64 2)))]),oI 44 (.call 148 0 true [(.t 43)]),oI 45 (.build [(.int .i64 0),(.int .i64 0)] [(0,1,(.c (.int .i64 2))),(1,1,(.t 44))]),oN (.st 2 (.t 2) (.t 45))] none [2]) .ret) (.seq (.region [oI 47 (.bin .eql (.t 3) (.c (.int .i64 21))),oI 46 (.mov (.t 47))] none [46,3,2]) (.cond (.t 46) (.seq (.region [oI 48 (.bslice false 1 3 (.int .i64 0) [(0,(.c (.int .i64 1))),(1,(.c (.int .i64 2))),(2,(.c (.int .i64 15)))]),oI 49 (.call 148 0 true [(.t 48)]),oI 50 (.build [(.int .i64 0),(.int .i64 0)] [(0,1,(.c (.int .i64 5))),(1,1,(.t 49))]),oN (.st 2 (.t 2) (.t 50))] none [2]) .ret) (.seq (.region [oI 52 (.bin .eql (.t 3) (.c (.int .i64 22))),oI 51 (.mov (.t 52))] none [51,3,2]) (.cond (.t 51) (.seq (.region [oI 53 (.bslice false 1 3 (.int .i64 0) [(0,(.c (.int .i64 1))),(1,(.c (.int .i64 2))),(2,(.c (.int .i64 15)))]),oI 54 (.call 148 0 true [(.t 53)]),oI 55 (.build [(.int .i64 0),(.int .i64 0)] [(0,1,(.c (.int .i64 6))),(1,1,(.t 54))]),oN (.st 2 (.t 2) (.t 55))] none [2]) .ret) (.seq (.seq (.region [oI 57 (.bin .eql (.t 3) (.c (.int .i64 23))),oI 56 (.mov (.t 57))] none [56,3,2]) (.cond (.t 56) .skip (.region [oI 58 (.bin .eql (.t 3) (.c (.int .i64 25))),oI 56 (.mov (.t 58))] none [56,3,2]))) (.cond (.t 56) (.seq (.region [oI 59 (.bslice false 1 1 (.int .i64 0) [(0,(.c (.int .i64 1)))]),oI 60 (.call 148 0 true [(.t 59)]),oI 61 (.build [(.int .i64 0),(.int .i64 0)] [(0,1,(.c (.int .i64 1))),(1,1,(.t 60))]),oN (.st 2 (.t 2) (.t 61))] none [2]) .ret) (.seq (.region [oI 63 (.bin .eql (.t 3) (.c (.int .i64 24))),oI 62 (.mov (.t 63))] none [62,3,2]) (.cond (.t 62) (.seq (.region [oI 64 (.bslice false 1 1 (.int .i64 0) [(0,(.c (.int .i64 16)))]),oI 65 (.call 148 0 true [(.t 64)]),oI 66 (.build [(.int .i64 0),(.int .i64 0)] [(0,1,(.c (.int .i64 3))),(1,1,(.t 65))]),oN (.st 2 (.t 2) (.t 66))] none [2]) .ret) (.seq (.region [oI 68 (.bin .eql (.t 3) (.c (.int .i64 28))),oI 67 (.mov (.t 68))] none [67,3,2]) (.cond (.t 67) (.seq (.region [oI 69 (.bslice false 1 2 (.int .i64 0) [(0,(.c (.int .i64 2))),(1,(.c (.int .i64 14)))]),oI 70 (.call 148 0 true [(.t 69)]),oI 71 (.build [(.int .i64 0),(.int .i64 0)] [(0,1,(.c (.int .i64 5))),(1,1,(.t 70))]),oN (.st 2 (.t 2) (.t 71))] none [2]) .ret) (.seq (.region [oI 73 (.bin .eql (.t 3) (.c (.int .i64 31))),oI 72 (.mov (.t 73))] none [72,3,2]) (.cond (.t 72) (.seq (.region [oI 74 (.bslice false 1 9 (.int .i64 0) [(0,(.c (.int .i64 2))),(1,(.c (.int .i64 4))),(2,(.c (.int .i64 5))),(3,(.c (.int .i64 6))),(4,(.c (.int .i64 7))),(5,(.c (.int .i64 9))),(6,(.c (.int .i64 11))),(7,(.c (.int .i64 14))),(8,(.c (.int .i64 15)))]),oI 75 (.call 148 0 true [(.t 74)]),oI 76 (.build [(.int .i64 0),(.int .i64 0)] [(0,1,(.c (.int .i64 5))),(1,1,(.t 75))]),oN (.st 2 (.t 2) (.t 76))] none [2]) .ret) (.seq (.seq (.region [oI 78 (.bin .eql (.t 3) (.c (.int .i64 33))),oI 77 (.mov (.t 78))] none [77,3,2]) (.cond (.t 77) .skip (.region [oI 79 (.bin .eql (.t 3) (.c (.int .i64 34))),oI 77 (.mov (.t 79))] none [77,3,2]))) (.cond (.t 77) (.seq (.region [oI 80 (.bslice false 1 2 (.int .i64 0) [(0,(.c (.int .i64 1))),(1,(.c (.int .i64 2)))]),oI 81 (.call 148 0 true [(.t 80)]),oI 82 (.build [(.int .i64 0),(.int .i64 0)] [(0,1,(.c (.int .i64 2))),(1,1,(.t 81))]),oN (.st 2 (.t 2) (.t 82))] none [2]) .ret) (.seq (.region [oI 84 (.bin .eql (.t 3) (.c (.int .i64 35))),oI 83 (.mov (.t 84))] none [83,3,2]) (.cond (.t 83) (.seq (.region [oI 85 (.bslice false 1 1 (.int .i64 0) [(0,(.c (.int .i64 3)))]),oI 86 (.call 148 0 true [(.t 85)]),oI 87 (.build [(.int .i64 0),(.int .i64 0)] [(0,1,(.c (.int .i64 2))),(1,1,(.t 86))]),oN (.st 2 (.t 2) (.t 87))] none [2]) .ret) (.seq (.region [oI 89 (.bin .eql (.t 3) (.c (.int .i64 39))),oI 88 (.mov (.t 89))] none [88,3,2]) (.cond (.t 88) (.seq (.region [oI 90 (.bslice false 1 2 (.int .i64 0) [(0,(.c (.int .i64 1))),(1,(.c (.int .i64 2)))]),oI 91 (.call 148 0 true [(.t 90)]),oI 92 (.build [(.int .i64 0),(.int .i64 0)] [(0,1,(.c (.int .i64 3))),(1,1,(.t 91))]),oN (.st 2 (.t 2) (.t 92))] none [2]) .ret) (.seq (.seq (.region [oI 94 (.bin .eql (.t 3) (.c (.int .i64 36))),oI 93 (.mov (.t 94))] none [93,3,2]) (.cond (.t 93) .skip (.seq (.region [oI 95 (.bin .eql (.t 3) (.c (.int .i64 37))),oI 93 (.mov (.t 95))] none [93,3,2]) (.cond (.t 93) .skip (.seq (.region [oI 96 (.bin .eql (.t 3) (.c (.int .i64 40))),oI 93 (.mov (.t 96))] none [93,3,2]) (.cond (.t 93) .skip (.seq (.region [oI 97 (.bin .eql (.t 3) (.c (.int .i64 41))),oI 93 (.mov (.t 97))] none [93,3,2]) (.cond (.t 93) .skip (.region [oI 98 (.bin .eql (.t 3) (.c (.int .i64 42))),oI 93 (.mov (.t 98))] none [93,3,2]))))))))) (.cond (.t 93) (.seq (.region [oI 99 (.bslice false 1 1 (.int .i64 0) [(0,(.c (.int .i64 2)))]),oI 100 (.call 148 0 true [(.t 99)]),oI 101 (.build [(.int .i64 0),(.int .i64 0)] [(0,1,(.c (.int .i64 1))),(1,1,(.t 100))]),oN (.st 2 (.t 2) (.t 101))] none [2]) .ret) (.seq (.region [oI 103 (.bin .eql (.t 3) (.c (.int .i64 38))),oI 102 (.mov (.t 103))] none [102,2]) (.cond (.t 102) (.seq (.region [oI 104 (.bslice false 1 3 (.int .i64 0) [(0,(.c (.int .i64 0))),(1,(.c (.int .i64 12))),(2,(.c (.int .i64 13)))]),oI 105 (.call 148 0 true [(.t 104)]),oI 106 (.un .xor (.t 105)),oI 107 (.build [(.int .i64 0),(.int .i64 0)] [(0,1,(.c (.int .i64 7))),(1,1,(.t 106))]),oN (.st 2 (.t 2) (.t 107))] none [2]) .ret) .skip)))))))))))))))))))))))))))))))))))))))) (.seq (.region [oI 108 (.build [(.int .i64 0),(.int .i64 0)] []),oN (.st 2 (.t 2) (.t 108))] none [2]) .ret)))
def ZoG:ZE:=⟨[(.cell 2 (some 2))],ZmS⟩
theorem Zwt:FC 145=some ZoG:=by kernel_rfl
theorem ZHX:ZoG.body=ZmS:=rfl
theorem ZMy:ZoG.res=[(.cell 2 (some 2))]:=rfl
def ZpF:Zf:=(.seq (.region [oI 4 (.mov (.c (.bool false)))] none [1,0]) (.seq (.region [oI 5 (.mov (.t 0)),oI 6 (.bin .eql (.t 5) (.c (.int .i64 38))),oI 7 (.mov (.t 6)),⟨(some 8),(.mov (.t 0)),(some (7,false)),[]⟩,⟨(some 9),(.bin .eql (.t 8) (.c (.int .i64 11))),(some (7,false)),[]⟩,⟨(some 10),(.mov (.t 9)),(some (7,false)),[]⟩,⟨(some 11),(.mov (.t 1)),(some (10,true)),[]⟩,⟨(some 12),(.bin .eql (.t 11) (.c (.int .i64 3))),(some (10,true)),[]⟩,⟨(some 13),(.pick (.t 10) (.t 12) (.c (.bool false))),(some (7,false)),[]⟩,oI 14 (.pick (.t 7) (.c (.bool true)) (.t 13)),oI 4 (.mov (.t 14))] none [4]) .ret))
def Zl9:ZE:=⟨[(.tmp 4)],ZpF⟩
theorem ZBa:FC 137=some Zl9:=by kernel_rfl
theorem ZH6:Zl9.body=ZpF:=rfl
theorem ZIr:Zl9.res=[(.tmp 4)]:=rfl
def Zd7:Zf:=(.seq (.region [oI 6 (.alloc [(.int .i64 0),(.int .i64 0),(.str []),(.str []),(.lst true [])]),oI 7 (.mov (.c (.int .i64 0))),oI 8 (.mov (.c (.int .i64 0)))] none [6,2,1,0]) (.seq (.region [oI 16 (.mov (.t 1)),oI 17 (.call 116 0 true [(.t 16)]),oI 15 (.mov (.t 17)),oI 18 (.ext (.t 15) 0),oI 19 (.ext (.t 15) 1),oI 20 (.ext (.t 15) 2),oI 9 (.mov (.t 18)),oI 10 (.mov (.t 19)),oI 11 (.mov (.t 20))] none [11,10,9,6,2,1,0]) (.seq (.seq (.region [oI 21 (.mov (.t 11)),oI 22 (.bin .neq (.t 21) (.c (.int .i64 0))),oI 23 (.mov (.t 22)),⟨(some 24),(.mov (.t 9)),(some (23,false)),[]⟩,⟨(some 25),(.mov (.t 0)),(some (23,false)),[]⟩,⟨(some 26),(.call 134 0 true [(.t 24),(.t 25)]),(some (23,false)),[]⟩,⟨(some 27),(.un .not (.t 26)),(some (23,false)),[]⟩,oI 28 (.pick (.t 23) (.c (.bool true)) (.t 27))] none [28,10,9,6,2,1,0]) (.cond (.t 28) (.seq (.region [oI 29 (.ld (some 5) (.t 6)),oN (.st 5 (.t 6) (.t 29)),oI 7 (.mov (.c (.int .i64 0))),oI 8 (.mov (.c (.int .i64 129)))] none [8,7,6]) .ret) .skip)) (.seq (.region [oI 31 (.mov (.t 9)),oI 32 (.mov (.t 1)),oI 33 (.mov (.t 10)),oI 34 (.slice 1 (.t 32) (some (.t 33)) none none),oI 35 (.call 135 0 true [(.t 31),(.t 34)]),oI 30 (.mov (.t 35)),oI 36 (.ext (.t 30) 0),oI 37 (.ext (.t 30) 1),oI 38 (.ext (.t 30) 2),oN (.st 5 (.t 6) (.t 36)),oI 7 (.mov (.t 37)),oI 12 (.mov (.t 38))] none [12,10,9,7,6,2,0]) (.seq (.region [oI 40 (.mov (.t 9)),oI 41 (.mov (.t 2)),oI 42 (.call 136 0 true [(.t 40),(.t 41)]),oI 39 (.mov (.t 42)),oI 43 (.ext (.t 39) 0),oI 44 (.ext (.t 39) 1),oI 13 (.alloc [(.int .i64 0),(.int .i64 0),(.str []),(.str []),(.lst true [])]),oN (.st 5 (.t 13) (.t 43)),oI 14 (.mov (.t 44))] none [14,12,10,9,7,6,0]) (.seq (.block 0 (.seq (.region [oI 46 (.mov (.t 12)),oI 47 (.un .not (.t 46)),oI 45 (.mov (.t 47))] none [45,14,10,9,7,6,0]) (.cond (.t 45) (.seq (.region [oI 48 (.ld (some 5) (.t 6)),oN (.st 5 (.t 6) (.t 48)),oI 7 (.mov (.c (.int .i64 0))),oI 8 (.mov (.c (.int .i64 129)))] none [8,7,6]) .ret) (.seq (.region [oI 50 (.mov (.t 14)),oI 51 (.mov (.t 50)),⟨(some 52),(.mov (.t 9)),(some (51,true)),[]⟩,⟨(some 53),(.mov (.t 0)),(some (51,true)),[]⟩,⟨(some 54),(.call 137 0 true [(.t 52),(.t 53)]),(some (51,true)),[]⟩,⟨(some 55),(.un .not (.t 54)),(some (51,true)),[]⟩,oI 56 (.pick (.t 51) (.t 55) (.c (.bool false))),oI 49 (.mov (.t 56))] none [49,10,9,7,6]) (.cond (.t 49) (.seq (.region [oI 57 (.ld (some 5) (.t 6)),oN (.st 5 (.t 6) (.t 57)),oI 7 (.mov (.c (.int .i64 0))),oI 8 (.mov (.c (.int .i64 130)))] none [8,7,6]) .ret) (.seq (.region [oI 59 (.ld (some 5) (.t 6)),oI 60 (.call 138 0 true [(.t 59)]),oI 58 (.mov (.t 60))] none [58,10,9,7,6]) (.cond (.t 58) (.seq (.region [oI 61 (.ld (some 5) (.t 6)),oI 62 (.mov (.t 10)),oI 63 (.mov (.t 7)),oI 64 (.bin .add (.t 62) (.t 63)),oN (.st 5 (.t 6) (.t 61)),oI 7 (.mov (.t 64)),oI 8 (.mov (.c (.int .i64 0)))] none [8,7,6]) .ret) (.seq (.region [oI 66 (.mov (.t 9)),oI 67 (.bin .eql (.t 66) (.c (.int .i64 35))),oI 65 (.mov (.t 67))] none [65,6]) (.cond (.t 65) (.seq (.region [oI 68 (.ld (some 5) (.t 6)),oN (.st 5 (.t 6) (.t 68)),oI 7 (.mov (.c (.int .i64 0))),oI 8 (.mov (.c (.int .i64 148)))] none [8,7,6]) .ret) .skip))))))))) (.seq (.region [oI 69 (.ld (some 5) (.t 6)),oN (.st 5 (.t 6) (.t 69)),oI 7 (.mov (.c (.int .i64 0))),oI 8 (.mov (.c (.int .i64 130)))] none [8,7,6]) .ret)))))))
def ZlW:ZE:=⟨[(.cell 6 (some 5)),(.tmp 7),(.tmp 8)],Zd7⟩
theorem Zfi:FC 117=some ZlW:=by kernel_rfl
theorem Zfb:ZlW.body=Zd7:=rfl
theorem Zfn:ZlW.res=[(.cell 6 (some 5)),(.tmp 7),(.tmp 8)]:=rfl
def ZcL:Zf:=(.seq (.region [oI 4 (.alloc [(.int .i64 0),(.int .i64 0),(.str []),(.str []),(.lst true [])]),oI 5 (.mov (.c (.int .i64 0))),oI 6 (.mov (.c (.bool false)))] none [5,4,1,0]) (.seq (.region [oI 9 (.mov (.t 0)),oI 10 (.faddr 0 (.t 4)),oN (.st 1 (.t 10) (.t 9))] none [5,4,1,0]) (.seq (.region [oI 7 (.mov (.c (.int .i64 0)))] none [7,5,4,1,0]) (.seq (.seq (.region [oI 11 (.mov (.t 0)),oI 12 (.call 143 0 true [(.t 11)])] none [12,7,5,4,1,0]) (.block 0 (.seq (.seq (.region [oI 14 (.bin .eql (.t 12) (.c (.int .i64 1))),oI 13 (.mov (.t 14))] none [13,12,7,5,4,1,0]) (.cond (.t 13) .skip (.seq (.region [oI 15 (.bin .eql (.t 12) (.c (.int .i64 2))),oI 13 (.mov (.t 15))] none [13,12,7,5,4,1,0]) (.cond (.t 13) .skip (.region [oI 16 (.bin .eql (.t 12) (.c (.int .i64 3))),oI 13 (.mov (.t 16))] none [13,12,7,5,4,1,0]))))) (.cond (.t 13) (.seq (.region [oI 17 (.mov (.t 0)),oI 18 (.call 143 0 true [(.t 17)]),oI 19 (.bin .sub (.t 18) (.c (.int .i64 1))),oI 20 (.bin .shl (.c (.int .i64 1)) (.t 19)),oI 5 (.mov (.t 20))] none [7,5,4,1]) (.seq (.seq (.region [oI 21 (.mov (.t 1)),oI 22 (.len (.t 21)),oI 23 (.mov (.t 5)),oI 24 (.bin .lss (.t 22) (.t 23))] none [24,7,5,4,1]) (.cond (.t 24) (.seq (.region [oI 25 (.ld (some 5) (.t 4)),oN (.st 5 (.t 4) (.t 25)),oI 5 (.mov (.c (.int .i64 0))),oI 6 (.mov (.c (.bool false)))] none [6,5,4]) .ret) .skip)) (.region [oI 26 (.mov (.t 1)),oI 27 (.mov (.t 5)),oI 28 (.slice 1 (.t 26) none (some (.t 27)) none),oI 29 (.call 96 0 true [(.t 28)]),oI 30 (.i2i .i64 (.t 29)),oI 31 (.faddr 1 (.t 4)),oN (.st 1 (.t 31) (.t 30))] none [7,5,4]))) (.seq (.region [oI 33 (.bin .eql (.t 12) (.c (.int .i64 4))),oI 32 (.mov (.t 33))] none [32,12,7,5,4,1]) (.cond (.t 32) (.region [oI 35 (.mov (.t 1)),oI 36 (.call 116 0 true [(.t 35)]),oI 34 (.mov (.t 36)),oI 37 (.ext (.t 34) 0),oI 38 (.ext (.t 34) 1),oI 39 (.ext (.t 34) 2),oI 40 (.faddr 1 (.t 4)),oN (.st 1 (.t 40) (.t 37)),oI 5 (.mov (.t 38)),oI 7 (.mov (.t 39))] none [7,5,4]) (.seq (.region [oI 42 (.bin .eql (.t 12) (.c (.int .i64 5))),oI 41 (.mov (.t 42))] none [41,12,7,5,4,1]) (.cond (.t 41) (.region [oI 44 (.mov (.t 1)),oI 45 (.call 99 0 true [(.t 44)]),oI 43 (.mov (.t 45)),oI 46 (.ext (.t 43) 0),oI 47 (.ext (.t 43) 1),oI 48 (.ext (.t 43) 2),oI 49 (.faddr 2 (.t 4)),oN (.st 1 (.t 49) (.t 46)),oI 5 (.mov (.t 47)),oI 7 (.mov (.t 48))] none [7,5,4]) (.seq (.region [oI 51 (.bin .eql (.t 12) (.c (.int .i64 6))),oI 50 (.mov (.t 51))] none [50,12,7,5,4,1]) (.cond (.t 50) (.region [oI 53 (.mov (.t 1)),oI 54 (.call 115 0 true [(.t 53)]),oI 52 (.mov (.t 54)),oI 55 (.ext (.t 52) 0),oI 56 (.ext (.t 52) 1),oI 57 (.ext (.t 52) 2),oI 58 (.faddr 4 (.t 4)),oN (.st 1 (.t 58) (.t 55)),oI 5 (.mov (.t 56)),oI 7 (.mov (.t 57))] none [7,5,4]) (.seq (.region [oI 60 (.bin .eql (.t 12) (.c (.int .i64 7))),oI 59 (.mov (.t 60))] none [59,7,5,4,1]) (.cond (.t 59) (.seq (.region [oI 62 (.mov (.t 1)),oI 63 (.call 99 0 true [(.t 62)]),oI 61 (.mov (.t 63)),oI 64 (.ext (.t 61) 0),oI 65 (.ext (.t 61) 1),oI 66 (.ext (.t 61) 2),oI 67 (.faddr 2 (.t 4)),oN (.st 1 (.t 67) (.t 64)),oI 5 (.mov (.t 65)),oI 7 (.mov (.t 66))] none [7,5,4,1]) (.seq (.region [oI 68 (.mov (.t 7)),oI 69 (.bin .eql (.t 68) (.c (.int .i64 0)))] none [69,7,5,4,1]) (.cond (.t 69) (.seq (.region [oI 8 (.mov (.c (.int .i64 0)))] none [5,4,1]) (.seq (.region [oI 71 (.mov (.t 1)),oI 72 (.mov (.t 5)),oI 73 (.slice 1 (.t 71) (some (.t 72)) none none),oI 74 (.call 99 0 true [(.t 73)]),oI 70 (.mov (.t 74)),oI 75 (.ext (.t 70) 0),oI 76 (.ext (.t 70) 1),oI 77 (.ext (.t 70) 2),oI 78 (.faddr 3 (.t 4)),oN (.st 1 (.t 78) (.t 75)),oI 8 (.mov (.t 76)),oI 7 (.mov (.t 77))] none [8,7,5,4]) (.region [oI 79 (.mov (.t 5)),oI 80 (.mov (.t 8)),oI 81 (.bin .add (.t 79) (.t 80)),oI 5 (.mov (.t 81))] none [7,5,4]))) .skip))) .skip)))))))))))) (.seq (.region [oI 82 (.ld (some 5) (.t 4)),oI 83 (.mov (.t 5)),oI 84 (.mov (.t 7)),oI 85 (.bin .eql (.t 84) (.c (.int .i64 0))),oN (.st 5 (.t 4) (.t 82)),oI 5 (.mov (.t 83)),oI 6 (.mov (.t 85))] none [6,5,4]) .ret)))))
def Zpj:ZE:=⟨[(.cell 4 (some 5)),(.tmp 5),(.tmp 6)],ZcL⟩
theorem ZdG:FC 135=some Zpj:=by kernel_rfl
theorem Zdq:Zpj.body=ZcL:=rfl
theorem Zdn:Zpj.res=[(.cell 4 (some 5)),(.tmp 5),(.tmp 6)]:=rfl
end
section
end
section
def Zte:List (Int×Int×Int):=[(1,1,65544),(2,3,65544),(3,5,65544),(8,5,65544),(9,6,65544),(11,4,264),(17,3,16390),(18,5,4),(26,5,4),(19,2,4),(21,5,32774),(22,6,32774),(23,1,2),(25,1,2),(24,3,65536),(28,5,16388),(31,5,51956),(33,2,6),(34,2,6),(35,2,8),(39,3,6),(36,1,4),(37,1,4),(40,1,4),(41,1,4),(42,1,4),(38,7,-12290)]
def ofF (id:Int):Int×Int:=(Zte.lookup id).getD (0,0)
def ZbS (id:Int):Int:=(ofF id).1
def ZfL (id:Int):Prop:=id=1\/id=2\/id=3\/id=8\/id=9\/id=11\/id=17\/id=18\/id=26\/id=19\/id=21\/id=22\/id=23\/id=25\/id=24\/id=28\/id=31\/id=33\/id=34\/id=35\/id=39\/id=36\/id=37\/id=40\/id=41\/id=42\/id=38
instance (id:Int):Decidable (ZfL id):=by unfold ZfL;infer_instance
theorem ZuL {id:Int} (h:¬ZfL id):(id == 1)=false/\(id == 2)=false/\(id == 3)=false/\(id == 8)=false/\(id == 9)=false/\(id == 11)=false/\(id == 17)=false/\(id == 18)=false/\(id == 26)=false/\(id == 19)=false/\(id == 21)=false/\(id == 22)=false/\(id == 23)=false/\(id == 25)=false/\(id == 24)=false/\(id == 28)=false/\(id == 31)=false/\(id == 33)=false/\(id == 34)=false/\(id == 35)=false/\(id == 39)=false/\(id == 36)=false/\(id == 37)=false/\(id == 40)=false/\(id == 41)=false/\(id == 42)=false/\(id == 38)=false:=by
 unfold ZfL at h
 simp only [not_or] at h
 simp only [beq_eq_false_iff_ne,ne_eq]
 exact h
theorem Zrr {id:Int} (h:¬ZfL id):ofF id=(0,0):=by
 obtain ⟨h1,h2,h3,h8,h9,h11,h17,h18,h26,h19,h21,h22,h23,h25,h24,h28,h31,h33,h34,h35,h39,h36,h37,h40,h41,h42,h38⟩:=ZuL h
 simp only [ofF,Zte,List.lookup,h1,h2,h3,h8,h9,h11,h17,h18,h26,h19,h21,h22,h23,h25,h24,h28,h31,h33,h34,h35,h39,h36,h37,h40,h41,h42,h38,Option.getD_none]
theorem ZED (id:Int):E 145 [.int .i64 id] []=some (.agg [.int .i64 (ofF id).1,.int .i64 (ofF id).2],[]):=by
 by_cases h:ZfL id
 ·rcases h with rfl | rfl | rfl | rfl | rfl | rfl | rfl | rfl | rfl | rfl | rfl | rfl | rfl | rfl | rfl | rfl | rfl | rfl | rfl | rfl | rfl | rfl | rfl | rfl | rfl | rfl | rfl
  all_goals exact Zc8.2 ⟨20,by kernel_rfl⟩
 ·rw [Zrr h]
  obtain ⟨h1,h2,h3,h8,h9,h11,h17,h18,h26,h19,h21,h22,h23,h25,h24,h28,h31,h33,h34,h35,h39,h36,h37,h40,h41,h42,h38⟩:=ZuL h
  rw [Zh (by rfl) Zwt]
  simp -implicitDefEqProofs only [EQA,Zq,Nat.reduceAdd,Nat.reduceLT,Nat.reduceLeDiff,Nat.reduceEqDiff,Nat.reduceBEq,reduceCtorEq,↓reduceIte,Zd,ZHX,ZmS,ZMy,oI,oN,h1,h2,h3,h8,h9,h11,h17,h18,h26,h19,h21,h22,h23,h25,h24,h28,h31,h33,h34,h35,h39,h36,h37,h40,h41,h42,h38,Zan,AVal.cells]
theorem Zsq (σ:Za) (sq own:Nat) (id:Int):Zj E BY σ sq 145 own true [.int .i64 id]=some (.agg [.int .i64 (ofF id).1,.int .i64 (ofF id).2],σ,{}) :=
 Zbm (ZED id) (by kernel_rfl) rfl rfl rfl (fun _=>rfl) _ _ _
theorem ZMl (id:Int):E 143 [.int .i64 id] []=some (.int .i64 (ZbS id),[]):=by
 have hC:=fun σ sq own=>Zsq σ sq own id
 unfold ZbS
 rw [Zh (by rfl) ZBG]
 simp -implicitDefEqProofs only [EQA,Nat.reduceLT,Nat.reduceEqDiff,reduceCtorEq,↓reduceIte,ZE5,Zn3,ZzW,oI,hC]
theorem Zit (σ:Za) (sq own:Nat) (id:Int):Zj E BY σ sq 143 own true [.int .i64 id]=some (.int .i64 (ZbS id),σ,{}) :=
 Zbm (ZMl id) (by kernel_rfl) rfl rfl rfl (fun _=>rfl) _ _ _
def Zqe (pl w:Int):Int:=IntKind.i64.wrap (((BitVec.ofInt IntKind.i64.bits (pl.fdiv (2 ^ min w.toNat IntKind.i64.bits)) &&& BitVec.ofInt IntKind.i64.bits 1).toNat:Nat):Int)
def Zga (id w:Int):Bool:=decide (w>=1) && decide (w<=16) && Zqe (ofF id).2 w == 1
theorem ZCV (id w:Int):E 134 [.int .i64 id,.int .i64 w] []=some (.bool (Zga id w),[]):=by
 have hC:=fun σ sq own=>Zsq σ sq own id
 unfold Zga Zqe
 generalize (ofF id).2=pl at *
 rw [Zh (by rfl) Zy8]
 by_cases h1:w>=1
 ·have h2:¬w < 0:=by omega
  by_cases h3:w<=16
  ·simp -implicitDefEqProofs only [EQA,Nat.reduceLT,Nat.reduceEqDiff,Zax,ZH,unG,reduceCtorEq,↓reduceIte,ZnE,Zii,Zna,oI,hC,h1,h2,h3]
  ·simp -implicitDefEqProofs only [EQA,Nat.reduceLT,Nat.reduceEqDiff,ZH,Zau,unG,reduceCtorEq,↓reduceIte,ZnE,Zii,Zna,oI,h1,h3]
 ·simp -implicitDefEqProofs only [EQA,Nat.reduceLT,Nat.reduceEqDiff,ZH,Zau,reduceCtorEq,↓reduceIte,ZnE,Zii,Zna,oI,h1]
theorem ZCE (σ:Za) (sq own:Nat) (id w:Int):Zj E BY σ sq 134 own true [.int .i64 id,.int .i64 w]=some (.bool (Zga id w),σ,{}) :=
 Zbm (ZCV id w) (by kernel_rfl) rfl rfl rfl (fun _=>rfl) _ _ _
end
section
theorem ZsF (id:Int):ZbS id=0\/ZbS id=1\/ZbS id=2\/ZbS id=3\/ZbS id=4\/ZbS id=5\/ZbS id=6\/ZbS id=7:=by
 unfold ZbS
 by_cases h:ZfL id
 ·unfold ZfL at h
  rcases h with rfl | rfl | rfl | rfl | rfl | rfl | rfl | rfl | rfl | rfl | rfl | rfl | rfl | rfl | rfl | rfl | rfl | rfl | rfl | rfl | rfl | rfl | rfl | rfl | rfl | rfl | rfl
  all_goals decide
 ·rw [Zrr h];simp
theorem Zz6 (b:Zb) (h:b.length<=4):Zcx b < 4294967296:=by
 unfold Zcx
 match b,h with
 | [],_=>simp [ZeM]
 | [a],_=>rw [ZcE,ZeM];have:=a.toNat_lt;omega
 | [a,c],_=>rw [ZcE,ZcE,ZeM];have:=a.toNat_lt;have:=c.toNat_lt;omega
 | [a,c,d],_=>rw [ZcE,ZcE,ZcE,ZeM];have:=a.toNat_lt;have:=c.toNat_lt;have:=d.toNat_lt;omega
 | [a,c,d,e],_=>rw [ZcE,ZcE,ZcE,ZcE,ZeM];have:=a.toNat_lt;have:=c.toNat_lt;have:=d.toNat_lt;have:=e.toNat_lt;omega
def Ze5 (id:Int) (W:Nat) (b:Zb):Zt×Nat×Bool:=if b.length < W then (⟨id,0,[],[],[]⟩,0,false) else (⟨id,Zcx (b.take W),[],[],[]⟩,W,true)
def Zhh (id:Int) (b:Zb):Zt×Nat×Bool :=
 if (Zaa b).2.2=0 then (⟨id,0,(Zaa b).1,(Zaa (b.drop (Zaa b).2.1)).1,[]⟩,(Zaa b).2.1+(Zaa (b.drop (Zaa b).2.1)).2.1,(Zaa (b.drop (Zaa b).2.1)).2.2 == 0) else (⟨id,0,[],[],[]⟩,0,false)
def Zez (k id:Int) (b:Zb):Zt×Nat×Bool :=
 if k=1 then Ze5 id 1 b else if k=2 then Ze5 id 2 b else if k=3 then Ze5 id 4 b
 else if k=4 then (⟨id,(Z8 b).1,[],[],[]⟩,(Z8 b).2.1,(Z8 b).2.2 == 0)
 else if k=5 then (⟨id,0,(Zaa b).1,[],[]⟩,(Zaa b).2.1,(Zaa b).2.2 == 0)
 else if k=6 then (⟨id,0,[],[],(ZaC b).1⟩,(ZaC b).2.1,(ZaC b).2.2 == 0)
 else if k=7 then Zhh id b else (⟨id,0,[],[],[]⟩,0,true)
def ZcG (id:Int) (b:Zb):Zt×Nat×Bool:=Zez (ZbS id) id b
def Zcm (f:Bool) (x:Zt×Nat×Bool):AVal:=.tup [.agg [.int .i64 x.1.id,.int .i64 x.1.num,.str x.1.text,.str x.1.pair,.lst f (x.1.data.map Zc)],.int .i64 (x.2.1:Nat),.bool x.2.2]
theorem ZjX (b:Zb):(ZaC b).2.1<=b.length/\(ZaC b).1.length<=b.length:=by
 unfold ZaC
 by_cases h:b.length < 2\/b.length - 2 < Zcx (b.take 2)
 ·rw [if_pos h];simp
 ·rw [if_neg h]
  simp only [not_or] at h
  simp;omega
theorem ZgS (b:Zb):(Zaa b).2.1<=b.length/\((Zaa b).2.2≠0->(Zaa b).1=[]/\(Zaa b).2.1=0):=by
 have hd:=ZjX b
 unfold Zaa
 by_cases h:(ZaC b).2.2≠0
 ·rw [if_pos h];simp
 ·rw [if_neg h]
  by_cases ht:Zgk (ZaC b).1=true
  ·rw [if_pos ht];exact ⟨hd.1,fun h'=>absurd h' h⟩
  ·rw [if_neg ht];simp
theorem ZnL (id:Int) (b:Zb) (hl:b.length<=140737488355328) (k:Int) (W:Nat) (hk:ZbS id=k) (hW:(k=1/\W=1)\/(k=2/\W=2)\/(k=3/\W=4)):E 135 [.int .i64 id,ZM b] []=some (Zcm true (Ze5 id W b),[]):=by
 have hC:=fun σ sq own=>Zit σ sq own id
 rw [hk] at hC
 have hG:=fun σ sq own f=>Zjm σ sq own (b.take W) (by simp;omega) f
 have hg:=Zz6 (b.take W) (by simp;omega)
 unfold Ze5
 generalize Zcx (b.take W)=g at *
 have hi:IntKind.i64.wrap (g:Int)=(g:Int):=ZbV (by omega) (by omega)
 have hw:∀ W:Nat,W<=b.length->∀ (σ:Za) (kk:IntKind),ZbL σ 1 (.lst false (b.map Zc)) none (some (.int kk (W:Int))) none=some (.lst false ((b.take W).map Zc),σ,{}):=fun W hW σ kk=>by
  have:=Zjt σ 1 b Zc kk (W:Int) (by omega) (by omega)
  exact this
 have z1:((1:Nat):Int)=1:=rfl
 have z2:((2:Nat):Int)=2:=rfl
 have z4:((4:Nat):Int)=4:=rfl
 rcases hW with ⟨rfl,rfl⟩ | ⟨rfl,rfl⟩ | ⟨rfl,rfl⟩
 ·have w1:IntKind.i64.wrap (1 - 1)=0:=rfl
  have w2:IntKind.i64.wrap (1*2 ^ min (Int.toNat 0) IntKind.i64.bits)=1:=rfl
  have ng:¬((0:Int) < 0):=by decide
  by_cases h:b.length < 1
  ·have h':(b.length:Int) < 1:=by omega
   rw [Zh (by rfl) ZdG,if_pos h]
   simp -implicitDefEqProofs only [EQA,Zq,Nat.reduceAdd,Nat.reduceLT,Nat.reduceLeDiff,Nat.reduceEqDiff,Nat.reduceBEq,Zax,reduceCtorEq,↓reduceIte,Zd,Zdq,ZcL,Zdn,oI,oN,ZM,hC,w1,w2,ng,h',Zcm,AVal.cells]
   rfl
  ·have h':¬(b.length:Int) < 1:=by omega
   have hs:=hw 1 (by omega)
   rw [z1] at hs
   have e0:((0:Int) == 0)=true:=rfl
   rw [Zh (by rfl) ZdG,if_neg h]
   simp -implicitDefEqProofs only [EQA,Zq,Nat.reduceAdd,Nat.reduceLT,Nat.reduceLeDiff,Nat.reduceEqDiff,Nat.reduceBEq,Zax,reduceCtorEq,↓reduceIte,Zd,Zdq,ZcL,Zdn,oI,oN,ZM,hC,w1,w2,ng,h',hs,hG,hi,Zcm,AVal.cells]
   rfl
 ·have w1:IntKind.i64.wrap (2 - 1)=1:=rfl
  have w2:IntKind.i64.wrap (1*2 ^ min (Int.toNat 1) IntKind.i64.bits)=2:=rfl
  have ng:¬((1:Int) < 0):=by decide
  by_cases h:b.length < 2
  ·have h':(b.length:Int) < 2:=by omega
   rw [Zh (by rfl) ZdG,if_pos h]
   simp -implicitDefEqProofs only [EQA,Zq,Nat.reduceAdd,Nat.reduceLT,Nat.reduceLeDiff,Nat.reduceEqDiff,Nat.reduceBEq,Zax,reduceCtorEq,↓reduceIte,Zd,Zdq,ZcL,Zdn,oI,oN,ZM,hC,w1,w2,ng,h',Int.reduceBEq,Zcm,AVal.cells]
   rfl
  ·have h':¬(b.length:Int) < 2:=by omega
   have hs:=hw 2 (by omega)
   rw [z2] at hs
   have e0:((0:Int) == 0)=true:=rfl
   rw [Zh (by rfl) ZdG,if_neg h]
   simp -implicitDefEqProofs only [EQA,Zq,Nat.reduceAdd,Nat.reduceLT,Nat.reduceLeDiff,Nat.reduceEqDiff,Nat.reduceBEq,Zax,reduceCtorEq,↓reduceIte,Zd,Zdq,ZcL,Zdn,oI,oN,ZM,hC,w1,w2,ng,h',hs,hG,hi,Int.reduceBEq,Zcm,AVal.cells]
   rfl
 ·have w1:IntKind.i64.wrap (3 - 1)=2:=rfl
  have w2:IntKind.i64.wrap (1*2 ^ min (Int.toNat 2) IntKind.i64.bits)=4:=rfl
  have ng:¬((2:Int) < 0):=by decide
  by_cases h:b.length < 4
  ·have h':(b.length:Int) < 4:=by omega
   rw [Zh (by rfl) ZdG,if_pos h]
   simp -implicitDefEqProofs only [EQA,Zq,Nat.reduceAdd,Nat.reduceLT,Nat.reduceLeDiff,Nat.reduceEqDiff,Nat.reduceBEq,Zax,reduceCtorEq,↓reduceIte,Zd,Zdq,ZcL,Zdn,oI,oN,ZM,hC,w1,w2,ng,h',Int.reduceBEq,Zcm,AVal.cells]
   rfl
  ·have h':¬(b.length:Int) < 4:=by omega
   have hs:=hw 4 (by omega)
   rw [z4] at hs
   have e0:((0:Int) == 0)=true:=rfl
   rw [Zh (by rfl) ZdG,if_neg h]
   simp -implicitDefEqProofs only [EQA,Zq,Nat.reduceAdd,Nat.reduceLT,Nat.reduceLeDiff,Nat.reduceEqDiff,Nat.reduceBEq,Zax,reduceCtorEq,↓reduceIte,Zd,Zdq,ZcL,Zdn,oI,oN,ZM,hC,w1,w2,ng,h',hs,hG,hi,Int.reduceBEq,Zcm,AVal.cells]
   rfl
theorem ZAi (id:Int) (b:Zb) (hl:b.length<=140737488355328):∃ f,E 135 [.int .i64 id,ZM b] []=some (Zcm f (ZcG id b),[]):=by
 unfold ZcG
 have hC:=fun σ sq own=>Zit σ sq own id
 have hGV:=fun σ sq own f=>Znk σ sq own f b (by omega)
 have hGT:=fun σ sq own f=>Zg4 σ sq own f b hl
 have hGD:=fun σ sq own f=>Zi0 σ sq own f b hl
 have z0:((0:Nat):Int)=0:=rfl
 rcases ZsF id with hk | hk | hk | hk | hk | hk | hk | hk
 ·refine ⟨true,?_⟩
  rw [hk] at hC ⊢
  rw [show Zez 0 id b=(⟨id,0,[],[],[]⟩,0,true) from rfl,Zh (by rfl) ZdG]
  have e0:((0:Int) == 0)=true:=rfl
  simp -implicitDefEqProofs only [EQA,Zq,Nat.reduceAdd,Nat.reduceLT,Nat.reduceLeDiff,Nat.reduceEqDiff,Nat.reduceBEq,reduceCtorEq,↓reduceIte,Zd,Zdq,ZcL,Zdn,oI,oN,ZM,hC,Int.reduceBEq,Zcm,AVal.cells]
  rfl
 ·rw [hk];exact ⟨true,ZnL id b hl 1 1 hk (by simp)⟩
 ·rw [hk];exact ⟨true,ZnL id b hl 2 2 hk (by simp)⟩
 ·rw [hk];exact ⟨true,ZnL id b hl 3 4 hk (by simp)⟩
 ·refine ⟨true,?_⟩
  rw [hk] at hC ⊢
  rw [show Zez 4 id b=(⟨id,(Z8 b).1,[],[],[]⟩,(Z8 b).2.1,(Z8 b).2.2 == 0) from rfl,Zh (by rfl) ZdG]
  unfold gvT at hGV
  simp -implicitDefEqProofs only [EQA,Zq,Nat.reduceAdd,Nat.reduceLT,Nat.reduceLeDiff,Nat.reduceEqDiff,Nat.reduceBEq,reduceCtorEq,↓reduceIte,Zd,Zdq,ZcL,Zdn,oI,oN,ZM,hC,hGV,Int.reduceBEq,Zcm,AVal.cells]
 ·refine ⟨true,?_⟩
  rw [hk] at hC ⊢
  rw [show Zez 5 id b=(⟨id,0,(Zaa b).1,[],[]⟩,(Zaa b).2.1,(Zaa b).2.2 == 0) from rfl,Zh (by rfl) ZdG]
  unfold gtT at hGT
  simp -implicitDefEqProofs only [EQA,Zq,Nat.reduceAdd,Nat.reduceLT,Nat.reduceLeDiff,Nat.reduceEqDiff,Nat.reduceBEq,reduceCtorEq,↓reduceIte,Zd,Zdq,ZcL,Zdn,oI,oN,ZM,hC,hGT,Int.reduceBEq,Zcm,AVal.cells]
 ·refine ⟨false,?_⟩
  rw [hk] at hC ⊢
  rw [show Zez 6 id b=(⟨id,0,[],[],(ZaC b).1⟩,(ZaC b).2.1,(ZaC b).2.2 == 0) from rfl,Zh (by rfl) ZdG]
  unfold gdT at hGD
  simp -implicitDefEqProofs only [EQA,Zq,Nat.reduceAdd,Nat.reduceLT,Nat.reduceLeDiff,Nat.reduceEqDiff,Nat.reduceBEq,reduceCtorEq,↓reduceIte,Zd,Zdq,ZcL,Zdn,oI,oN,ZM,hC,hGD,Int.reduceBEq,Zcm,AVal.cells]
 ·refine ⟨true,?_⟩
  rw [hk] at hC ⊢
  rw [show Zez 7 id b=Zhh id b from rfl,Zh (by rfl) ZdG]
  unfold gtT at hGT
  unfold Zhh
  have hu:=ZgS b
  by_cases h:(Zaa b).2.2=0
  ·have h':((Zaa b).2.2 == 0)=true:=by simpa using h
   have hs:=fun σ kk=>ZeX σ b kk (((Zaa b).2.1:Nat):Int) (by omega) (by omega)
   have e:((((Zaa b).2.1:Nat):Int)).toNat=(Zaa b).2.1:=rfl
   rw [e] at hs
   have hGT2:=fun σ sq own f=>Zg4 σ sq own f (b.drop (Zaa b).2.1) (by simp;omega)
   unfold gtT at hGT2
   have hu2:=ZgS (b.drop (Zaa b).2.1)
   have hdl:(b.drop (Zaa b).2.1).length<=b.length:=by simp
   have hw:IntKind.i64.wrap ((((Zaa b).2.1:Nat):Int)+(((Zaa (b.drop (Zaa b).2.1)).2.1:Nat):Int))=(((Zaa b).2.1+(Zaa (b.drop (Zaa b).2.1)).2.1:Nat):Int):=by
    rw [ZbV (by omega) (by omega)];rfl
   rw [if_pos h]
   rw [h] at hGT
   have e0:((0:Int) == 0)=true:=rfl
   simp -implicitDefEqProofs only [EQA,Zq,Nat.reduceAdd,Nat.reduceLT,Nat.reduceLeDiff,Nat.reduceEqDiff,Nat.reduceBEq,reduceCtorEq,↓reduceIte,Zd,Zdq,ZcL,Zdn,oI,oN,ZM,hC,hGT,hs,hGT2,hw,Int.reduceBEq,Zcm,AVal.cells]
  ·have h':((Zaa b).2.2 == 0)=false:=by simpa using h
   rw [if_neg h]
   obtain ⟨x1,x2⟩:=hu.2 h
   rw [x1,x2] at hGT
   simp -implicitDefEqProofs only [EQA,Zq,Nat.reduceAdd,Nat.reduceLT,Nat.reduceLeDiff,Nat.reduceEqDiff,Nat.reduceBEq,reduceCtorEq,↓reduceIte,Zd,Zdq,ZcL,Zdn,oI,oN,ZM,hC,hGT,h',Int.reduceBEq,Zcm,AVal.cells]
theorem ZJm (σ:Za) (sq own:Nat) (f:Bool) (id:Int) (b:Zb) (hl:b.length<=140737488355328):Zj E BY σ sq 135 own true [.int .i64 id,.lst f (b.map Zc)]=some (Zcm false (ZcG id b),σ,{}):=by
 obtain ⟨g,h⟩:=ZAi id b hl
 exact Zbm h (by kernel_rfl) rfl rfl rfl (fun _=>rfl) _ _ _
end
section
end
section
def Zoq (b:Bool):AVal:=.tup [.agg [.int .i64 0,.int .i64 0,.str [],.str [],.lst b []],.bool false]
theorem ZHO (l:Zb):kOk 1 (l.map Zc)=true:=by cases l <;> rfl
theorem ZGV (l:Zb) (h:l.length<=140737488355328):E 98 [.lst false (l.map Zc)] []=some (.sl 0 0 0 (l.map Zc).length,[.row 0 1 (l.map Zc)]):=by
 refine Zc8.2 ⟨1,?_⟩
 show ZiN 1 1 [.lst false (l.map Zc)] []=_
 have h1:(l.map Zc).length*1<=140737488355328/\kOk 1 (l.map Zc)=true:=⟨by simpa using h,ZHO l⟩
 simp only [ZiN,ZY]
 rw [if_pos h1];rfl
theorem Zow (σ:Za) (sq own:Nat) (l:Zb) (h:l.length<=140737488355328):Zj E BY σ sq 98 own true [.lst false (l.map Zc)]=some (.lst false (l.map Zc),σ,{}) :=
 ZnY (bf:=BY) (ZGV l h) rfl rfl rfl σ sq own
theorem ZLv (p:Zt) (h:p.data.length<=140737488355328):E 146 [Zn p] []=some (Zn p,[]):=by
 have hC:=fun σ sq own=>Zow σ sq own p.data h
 rw [Zh (by rfl) ZFv]
 simp -implicitDefEqProofs only [EQA,ZC,Zq,Nat.reduceAdd,Nat.reduceLT,Nat.reduceLeDiff,Nat.reduceEqDiff,Nat.reduceBEq,↓reduceIte,Zd,ZG8,ZnU,ZI3,oI,oN,ZM,Zn,ZbB,hC]
theorem ZBW (σ:Za) (sq own:Nat) (p:Zt) (h:p.data.length<=140737488355328):Zj E BY σ sq 146 own true [.agg [.int .i64 p.id,.int .i64 p.num,.str p.text,.str p.pair,.lst false (p.data.map Zc)]]=some (.agg [.int .i64 p.id,.int .i64 p.num,.str p.text,.str p.pair,.lst false (p.data.map Zc)],σ,{}) :=
 Zcl (ZLv p h) (by kernel_rfl) (by simp -implicitDefEqProofs only [ZcR,Zbq,eq_self,ZM,Zn,ZbB]) (by simp -implicitDefEqProofs only [ZcR,ZC,Zbq,eq_self,ZM,Zn,ZbB]) rfl (fun _=>rfl) _ _ _ _
def Zge (id:Int):List Zt->AVal
 | []=>Zoq true
 | p::r=>if p.id == id then .tup [Zn p,.bool true] else Zge id r
theorem Ztc (l:List Zt) (hl:l.length<=9223372036854775807) (hd:∀ p ∈ l,p.data.length<=140737488355328) (id:Int):∀ (r:List Zt) (i:Nat),l.drop i=r ->
  ZkI 0 [(10,.int .i64 i),(9,.int .i64 l.length),(8,.lst false (l.map Zn)),(4,.ref 0 0),(0,.int .i64 id)] [.var [.int .i64 0,.int .i64 0,.str [],.str [],.lst true []]]=some (Zge id r,[])
 | [],i,h=>by
  have h1:=Zc4 h
  unfold ZkI
  rw [Z9,Zge]
  simp -implicitDefEqProofs only [EQA,Zq,Nat.reduceAdd,Nat.reduceLT,Nat.reduceLeDiff,Nat.reduceEqDiff,reduceCtorEq,↓reduceIte,Zd,Zut,ZKn,ZmY,ZoF,Zil,oI,oN,h1,Zoq,Zan,AVal.cells]
 | p::r,i,h=>by
  have ih:=Ztc l hl hd id r (i+1) (Zad h).2.1
  have h1:(i:Int) < l.length:=by have:=(Zad h).2.2;omega
  have e1:=iad (Zad h).1 Zn (k:=5) rfl
  have e3:=Zdc h1 hl
  have hC:=fun σ sq own=>ZBW σ sq own p (hd p (List.mem_of_getElem? (Zad h).1))
  unfold ZkI at ih ⊢
  rw [Z9,Zge]
  cases hb:(p.id == id)
  ·simp -implicitDefEqProofs only [EQA,ZC,Z7,Zck,Nat.reduceAdd,Nat.reduceLT,Nat.reduceLeDiff,Nat.reduceEqDiff,Nat.reduceBEq,reduceCtorEq,↓reduceIte,gcT,gcA,ZB,ZA,Zl,Zv,ZZ,Zm,ZR,ZF,ZN,ZoF,Zil,oI,oN,ZM,Zn,ZbB,h1,e1,e3,hb]
   exact ih
  ·simp -implicitDefEqProofs only [EQA,ZC,Zq,Nat.reduceAdd,Nat.reduceLT,Nat.reduceLeDiff,Nat.reduceEqDiff,Nat.reduceBEq,reduceCtorEq,↓reduceIte,Zd,Zut,ZoF,Zil,oI,oN,ZM,Zn,ZbB,h1,e1,hb,hC]
theorem ZzO (l:List Zt) (hl:l.length<=9223372036854775807) (hd:∀ p ∈ l,p.data.length<=140737488355328) (id:Int):E 136 [.int .i64 id,Za4 l] []=some (Zge id l,[]):=by
 have:=Ztc l hl hd id l 0 rfl
 have z0:((0:Nat):Int)=0:=rfl
 rw [z0] at this
 unfold ZkI at this
 rw [Zh (by rfl) Zv5]
 simp -implicitDefEqProofs only [EQA,Z7,Zck,Nat.reduceLT,Nat.reduceEqDiff,Nat.reduceBEq,reduceCtorEq,↓reduceIte,gcT,gcA,ZB,ZA,Zl,Zv,ZZ,Zm,ZR,ZF,ZN,ZHt,ZoO,oI,Za4]
 exact this
def Zfo (id:Int) (l:List Zt):Option Zt:=l.find? (fun p=>p.id == id)
def ZoU (b:Bool):Option Zt->AVal
 | none=>Zoq b
 | some p=>.tup [Zn p,.bool true]
theorem ZuC (id:Int):∀ l:List Zt,Zge id l=ZoU true (Zfo id l)
 | []=>rfl
 | p::r=>by
  have ih:=ZuC id r
  unfold Zfo at ih ⊢
  rw [Zge,List.find?_cons]
  cases h:(p.id == id)
  ·simpa using ih
  ·rfl
theorem ZHd (σ:Za) (sq own:Nat) (l:List Zt) (hl:l.length<=9223372036854775807) (hd:∀ p ∈ l,p.data.length<=140737488355328) (id:Int):Zj E BY σ sq 136 own true [.int .i64 id,.lst false (l.map Zn)]=some (ZoU false (Zfo id l),σ,{}):=by
 have h:=ZzO l hl hd id
 rw [ZuC] at h
 cases hf:Zfo id l with
 | none=>rw [hf] at h;exact Zbm h (by kernel_rfl) rfl rfl rfl (fun _=>rfl) σ sq own
 | some p =>
  rw [hf] at h
  exact Zbm h (by kernel_rfl) rfl rfl rfl (fun _=>rfl) σ sq own
def ZeR:Zt:=⟨0,0,[],[],[]⟩
theorem ZD0 (o:Option Zt):ZoU false o=.tup [.agg [.int .i64 (o.getD ZeR).id,.int .i64 (o.getD ZeR).num,.str (o.getD ZeR).text,.str (o.getD ZeR).pair,.lst false ((o.getD ZeR).data.map Zc)],.bool o.isSome]:=by
 cases o <;> rfl
end
section
def Zhp (id w:Int):Bool:=id == 38 || (id == 11 && w == 3)
def Zgx (id num:Int):Bool:=if id == 11 || id == 33 || id == 35 || id == 39 then num != 0 else ZbS id != 1 || decide (num<=1)
theorem ZxK (id w:Int):E 137 [.int .i64 id,.int .i64 w] []=some (.bool (Zhp id w),[]):=by
 rw [Zh (by rfl) ZBa]
 unfold Zhp
 cases h1:(id == 38) <;> cases h2:(id == 11)
 all_goals simp -implicitDefEqProofs only [EQA,Nat.reduceLT,Nat.reduceEqDiff,ZH,Zau,unG,reduceCtorEq,↓reduceIte,ZH6,ZpF,ZIr,oI,h1,h2]
theorem ZE0 (σ:Za) (sq own:Nat) (id w:Int):Zj E BY σ sq 137 own true [.int .i64 id,.int .i64 w]=some (.bool (Zhp id w),σ,{}) :=
 Zbm (ZxK id w) (by kernel_rfl) rfl rfl rfl (fun _=>rfl) _ _ _
theorem ZCM (p:Zt):E 138 [Zn p] []=some (.bool (Zgx p.id p.num),[]):=by
 have hC:=fun σ sq own=>Zit σ sq own p.id
 rw [Zh (by rfl) ZzB]
 unfold Zgx
 cases h1:(p.id == 11) <;> cases h2:(p.id == 33) <;> cases h3:(p.id == 35) <;> cases h4:(p.id == 39)
 all_goals simp -implicitDefEqProofs only [EQA,ZC,Z7,ZMh,Zdw,Nat.reduceLT,Nat.reduceEqDiff,Nat.reduceBEq,ZH,Zau,unG,ite_self,↓reduceIte,ZwY,Znz,ZCr,oI,ZM,Zn,ZbB,hC,h1,h2,h3,h4]
theorem ZJC (σ:Za) (sq own:Nat) (p:Zt):Zj E BY σ sq 138 own true [.agg [.int .i64 p.id,.int .i64 p.num,.str p.text,.str p.pair,.lst false (p.data.map Zc)]]=some (.bool (Zgx p.id p.num),σ,{}) :=
 Zbm (ZCM p) (by kernel_rfl) rfl rfl rfl (fun _=>rfl) _ _ _
end
section
theorem ZrC:∀ (b:Zb) (i n:Nat),(gvA i n b).2.2=0->i < (gvA i n b).2.1/\(gvA i n b).2.1<=i+b.length
 | [],i,n,h=>by
  unfold gvA at h
  split at h <;> simp at h
 | c::r,i,n,h=>by
  unfold gvA at h ⊢
  split at h
  ·simp at h
  ·rename_i h4
   rw [if_neg h4]
   split at h
   ·rename_i hc
    rw [if_pos hc]
    split at h
    ·simp at h
    ·rename_i h0
     rw [if_neg h0]
     simp
   ·rename_i hc
    rw [if_neg hc]
    have:=ZrC r (i+1) _ h
    simp only [List.length_cons]
    omega
theorem Zns (b:Zb) (h:(Z8 b).2.2=0):0 < (Z8 b).2.1/\(Z8 b).2.1<=b.length:=by
 have:=ZrC b 0 0 h
 simpa [Z8] using this
theorem Zws (id:Int) (b:Zb):(ZcG id b).1.id=id:=by
 unfold ZcG Zez Ze5 Zhh
 repeat' split
 all_goals rfl
theorem ZvV (id:Int) (b:Zb):(ZcG id b).1.data.length<=b.length:=by
 unfold ZcG Zez Ze5 Zhh
 repeat' split
 all_goals first
  | exact (ZjX b).2
  | exact Nat.zero_le _
theorem Zqh:∀ (b:Zb) (i n:Nat),(gvA i n b).2.1<=i+b.length
 | [],i,n=>by unfold gvA;split <;> simp
 | c::r,i,n=>by
  unfold gvA
  repeat' split
  all_goals simp only [List.length_cons]
  all_goals first
   | omega
   | (have:=Zqh r (i+1) (n+c.toNat % 128*128 ^ i);omega)
theorem Ztz (b:Zb):(Z8 b).2.1<=b.length:=by simpa [Z8] using Zqh b 0 0
theorem Zug (id:Int) (b:Zb):(ZcG id b).2.1<=b.length:=by
 have h1:=(ZgS b).1
 have h2:=(ZgS (b.drop (Zaa b).2.1)).1
 have h3:=Ztz b
 have h4:=(ZjX b).1
 simp only [List.length_drop] at h2
 unfold ZcG Zez Ze5 Zhh
 repeat' split
 all_goals simp only
 all_goals omega
def Zo3 (w:Int) (l:List Zt) (id:Int) (u:Nat) (v:Zt×Nat×Bool):Zt×Nat×Int :=
 if v.2.2=false then (v.1,0,129) else if ((Zfo id l).isSome && !Zhp id w)=true then (v.1,0,130) else
 if Zgx v.1.id v.1.num=true then (v.1,u+v.2.1,0) else if (id == 35)=true then (v.1,0,148) else (v.1,0,130)
def ZbI (w:Int) (b:Zb) (l:List Zt):Zt×Nat×Int :=
 if (Z8 b).2.2≠0\/Zga ((Z8 b).1:Nat) w=false then (ZeR,0,129)
 else Zo3 w l ((Z8 b).1:Nat) (Z8 b).2.1 (ZcG ((Z8 b).1:Nat) (b.drop (Z8 b).2.1))
def ZcF (f:Bool) (x:Zt×Nat×Int):AVal:=.tup [.agg [.int .i64 x.1.id,.int .i64 x.1.num,.str x.1.text,.str x.1.pair,.lst f (x.1.data.map Zc)],.int .i64 (x.2.1:Nat),.int .i64 x.2.2]
theorem ZtA (w:Int) (b:Zb) (l:List Zt) (hl:b.length<=140737488355328) (hl2:l.length<=9223372036854775807) (hd:∀ p ∈ l,p.data.length<=140737488355328):∃ f,E 117 [.int .i64 w,ZM b,Za4 l] []=some (ZcF f (ZbI w b l),[]):=by
 have hGV:=fun σ sq own f=>Znk σ sq own f b (by omega)
 have hu:=Zns b
 unfold ZbI
 rcases hx:Z8 b with ⟨n,u,e⟩
 rw [hx] at hGV hu
 unfold gvT at hGV
 simp only at hGV hu ⊢
 have hM:=fun σ sq own=>ZCE σ sq own (n:Int) w
 by_cases he:e=0
 ·subst he
  have n0:((0:Int) != 0)=false:=rfl
  cases hm:Zga (n:Int) w
  ·refine ⟨true,?_⟩
   rw [hm] at hM
   have hc:(0:Int)≠0\/false=false:=Or.inr rfl
   rw [if_pos hc,Zh (by rfl) Zfi]
   unfold ZcF ZeR
   simp -implicitDefEqProofs only [EQA,Zq,Nat.reduceAdd,Nat.reduceLT,Nat.reduceLeDiff,Nat.reduceEqDiff,Nat.reduceBEq,unA,ZH,unG,reduceCtorEq,↓reduceIte,Zd,Zfb,Zd7,Zfn,oI,oN,ZM,Za4,hGV,hM,n0,AVal.cells]
   rfl
  ·refine ⟨false,?_⟩
   rw [hm] at hM
   have hc:¬((0:Int)≠0\/true=false):=by simp
   rw [if_neg hc]
   have hul:=(hu rfl).2
   have hs:=fun σ kk=>ZeX σ b kk ((u:Nat):Int) (by omega) (by omega)
   have e2:(((u:Nat):Int)).toNat=u:=rfl
   rw [e2] at hs
   have hV:=fun σ sq own f=>ZJm σ sq own f (n:Int) (b.drop u) (by simp;omega)
   have hF:=fun σ sq own=>ZHd σ sq own l hl2 hd (n:Int)
   have hO:=fun σ sq own=>ZE0 σ sq own (n:Int) w
   have hid:=Zws (n:Int) (b.drop u)
   have hused:(ZcG (n:Int) (b.drop u)).2.1<=b.length:=Nat.le_trans (Zug _ _) (by simp)
   have hT:=fun σ sq own=>ZJC σ sq own (ZcG (n:Int) (b.drop u)).1
   unfold Zcm at hV
   simp only [ZD0] at hF
   unfold Zo3
   generalize ZcG (n:Int) (b.drop u)=v at *
   obtain ⟨p,m,ok⟩:=v
   simp only at hV hT hid hused ⊢
   have hw:IntKind.i64.wrap ((u:Int)+(m:Int))=((u+m:Nat):Int):=by
    rw [ZbV (by omega) (by omega)];rfl
   generalize (Zfo (n:Int) l).getD ZeR=q at *
   cases ok
   ·rw [Zh (by rfl) Zfi]
    unfold ZcF
    simp -implicitDefEqProofs only [EQA,Zq,Nat.reduceAdd,Nat.reduceLT,Nat.reduceLeDiff,Nat.reduceEqDiff,Nat.reduceBEq,unA,ZH,unG,reduceCtorEq,↓reduceIte,Zd,Zfb,Zd7,Zfn,oI,oN,ZM,Za4,hGV,hM,hs,hV,hF,n0,AVal.cells]
    rfl
   ·cases h1:(Zfo (n:Int) l).isSome <;> rw [h1] at hF
    ·cases h3:Zgx p.id p.num <;> rw [h3] at hT
     ·cases h4:((n:Int) == 35)
      all_goals rw [Zh (by rfl) Zfi]
      all_goals unfold ZcF
      all_goals simp -implicitDefEqProofs only [EQA,Zq,Nat.reduceAdd,Nat.reduceLT,Nat.reduceLeDiff,Nat.reduceEqDiff,Nat.reduceBEq,unA,ZH,Zau,unG,reduceCtorEq,↓reduceIte,Zd,Zfb,Zd7,Zfn,oI,oN,ZM,Za4,hGV,hM,hs,hV,hF,hT,h4,n0,AVal.cells]
      all_goals rfl
     ·rw [Zh (by rfl) Zfi]
      unfold ZcF
      simp -implicitDefEqProofs only [EQA,Zq,Nat.reduceAdd,Nat.reduceLT,Nat.reduceLeDiff,Nat.reduceEqDiff,Nat.reduceBEq,unA,ZH,Zau,unG,reduceCtorEq,↓reduceIte,Zd,Zfb,Zd7,Zfn,oI,oN,ZM,Za4,hGV,hM,hs,hV,hF,hT,hw,n0,AVal.cells]
    ·cases h2:Zhp (n:Int) w <;> rw [h2] at hO
     ·rw [Zh (by rfl) Zfi]
      unfold ZcF
      simp -implicitDefEqProofs only [EQA,Zq,Nat.reduceAdd,Nat.reduceLT,Nat.reduceLeDiff,Nat.reduceEqDiff,Nat.reduceBEq,unA,ZH,unG,reduceCtorEq,↓reduceIte,Zd,Zfb,Zd7,Zfn,oI,oN,ZM,Za4,hGV,hM,hs,hV,hF,hO,n0,AVal.cells]
      rfl
     ·cases h3:Zgx p.id p.num <;> rw [h3] at hT
      ·cases h4:((n:Int) == 35)
       all_goals rw [Zh (by rfl) Zfi]
       all_goals unfold ZcF
       all_goals simp -implicitDefEqProofs only [EQA,Zq,Nat.reduceAdd,Nat.reduceLT,Nat.reduceLeDiff,Nat.reduceEqDiff,Nat.reduceBEq,unA,ZH,unG,reduceCtorEq,↓reduceIte,Zd,Zfb,Zd7,Zfn,oI,oN,ZM,Za4,hGV,hM,hs,hV,hF,hT,hO,h4,n0,AVal.cells]
       all_goals rfl
      ·rw [Zh (by rfl) Zfi]
       unfold ZcF
       simp -implicitDefEqProofs only [EQA,Zq,Nat.reduceAdd,Nat.reduceLT,Nat.reduceLeDiff,Nat.reduceEqDiff,Nat.reduceBEq,unA,ZH,unG,reduceCtorEq,↓reduceIte,Zd,Zfb,Zd7,Zfn,oI,oN,ZM,Za4,hGV,hM,hs,hV,hF,hT,hO,hw,n0,AVal.cells]
 ·refine ⟨true,?_⟩
  have hc:e≠0\/Zga (n:Int) w=false:=Or.inl he
  have n1:(e != 0)=true:=by simpa using he
  rw [if_pos hc,Zh (by rfl) Zfi]
  unfold ZcF ZeR
  simp -implicitDefEqProofs only [EQA,Zq,Nat.reduceAdd,Nat.reduceLT,Nat.reduceLeDiff,Nat.reduceEqDiff,Nat.reduceBEq,ZH,Zau,reduceCtorEq,↓reduceIte,Zd,Zfb,Zd7,Zfn,oI,oN,ZM,Za4,hGV,n1,AVal.cells]
  rfl
end
section
def ZdT (w:Int):Nat->Zb->List Zt->List Zt×Int
 | _,[],l=>(l,0)
 | 0,_::_,_=>([],129)
 | n+1,c::r,l=>if (ZbI w (c::r) l).2.2=0 then ZdT w n ((c::r).drop (ZbI w (c::r) l).2.1) (l++[(ZbI w (c::r) l).1]) else ([],(ZbI w (c::r) l).2.2)
def Zae (w:Int) (b:Zb):List Zt×Nat×Int :=
 if (Z8 b).2.2≠0\/((Z8 b).1:Int) > (b.length:Int) - ((Z8 b).2.1:Nat) then ([],0,129)
 else if (ZdT w (Z8 b).1 ((b.take ((Z8 b).2.1+(Z8 b).1)).drop (Z8 b).2.1) []).2=0 then
  ((ZdT w (Z8 b).1 ((b.take ((Z8 b).2.1+(Z8 b).1)).drop (Z8 b).2.1) []).1,(Z8 b).2.1+(Z8 b).1,0)
 else ([],0,(ZdT w (Z8 b).1 ((b.take ((Z8 b).2.1+(Z8 b).1)).drop (Z8 b).2.1) []).2)
def ZhP (u:Nat) (x:List Zt×Int):AVal×Za:=if x.2=0 then (.tup [Zei (x.1.map Zn),.int .i64 (u:Nat),.int .i64 0],Zd0 5 (x.1.map Zn)) else (.tup [.lst true [],.int .i64 0,.int .i64 x.2],[])
theorem ZrN {w:Int} {b:Zb} {l:List Zt} (h:(ZbI w b l).2.2=0):0 < (ZbI w b l).2.1/\(ZbI w b l).2.1<=b.length/\(ZbI w b l).1.data.length<=b.length:=by
 unfold ZbI at h ⊢
 split at h
 ·simp at h
 ·rename_i hc
  rw [if_neg hc]
  have hc0:(Z8 b).2.2=0:=Decidable.byContradiction fun h=>hc (Or.inl h)
  have h1:=Zns b hc0
  have h2:=Zug ((Z8 b).1:Nat) (b.drop (Z8 b).2.1)
  have h3:=ZvV ((Z8 b).1:Nat) (b.drop (Z8 b).2.1)
  simp only [List.length_drop] at h2 h3
  unfold Zo3 at h ⊢
  generalize ZcG ((Z8 b).1:Nat) (b.drop (Z8 b).2.1)=v at *
  repeat' (split at h)
  all_goals first
   | (simp at h;done)
   | skip
  rename_i a1 a2 a3
  rw [if_neg a1,if_neg a2,if_pos a3]
  simp only
  omega
theorem Zi2 {xs:List AVal} (h:0 < xs.length):Zei xs=.sl 0 0 0 xs.length:=by
 cases xs with
 | nil=>simp at h
 | cons x xs=>rfl
theorem Zlz {k:Nat} {xs:List AVal} (h:0 < xs.length):Zd0 k xs=[.row 0 k xs]:=by
 cases xs with
 | nil=>simp at h
 | cons x xs=>rfl
theorem ZIF (l:List Zt):ZjK (l.map Zn)=true:=by
 unfold ZjK
 rw [List.all_eq_true]
 intro x hx
 obtain ⟨p,_,rfl⟩:=List.mem_map.1 hx
 rfl
theorem ZBs (b:Zb):(b.map Zc).all Zjo=true:=by
 rw [List.all_eq_true]
 intro x hx
 obtain ⟨p,_,rfl⟩:=List.mem_map.1 hx
 rfl
theorem ZEg (σ:Za) (sq own:Nat) (f g:Bool) (w:Int) (b:Zb) (l:List Zt) (hl:b.length<=140737488355328) (hl2:l.length<=9223372036854775807) (hd:∀ p ∈ l,p.data.length<=140737488355328) :
  Zj E BY σ sq 117 own true [.int .i64 w,.lst f (b.map Zc),.lst g (l.map Zn)]=some (ZcF false (ZbI w b l),σ,{}):=by
 obtain ⟨f',h⟩:=ZtA w b l hl hl2 hd
 exact Zbm h (by kernel_rfl) rfl rfl (by cases f' <;> rfl) (fun _=>rfl) _ _ _
theorem ZGO (σ:Za) (sq own:Nat) (f:Bool) (w:Int) (b:Zb) (l:List Zt) (hl:b.length<=140737488355328) (hl2:l.length<=9223372036854775807) (hd:∀ p ∈ l,p.data.length<=140737488355328) :
  Zj E BY (.row 0 5 (l.map Zn)::σ) sq 117 own true [.int .i64 w,.lst f (b.map Zc),.sl 0 0 0 (l.map Zn).length]=some (ZcF false (ZbI w b l),.row 0 5 (l.map Zn)::σ,{ rd:=[0] }):=by
 obtain ⟨f',h⟩:=ZtA w b l hl hl2 hd
 refine ZuT (vs:=[.int .i64 w,ZM b,Za4 l]) (by kernel_rfl) ?_ rfl rfl h (r':=ZcF false (ZbI w b l)) (by cases f' <;> rfl) ?_ _ _
 ·simp [showAs,showA,Zcw,ZY,ZM,Za4]
  exact List.take_of_length_le (by simp)
 ·have h1:=ZIF l
  have h2:=ZBs (ZbI w b l).1.data
  unfold ZcS
  simp only [List.isEmpty_cons,Bool.not_false,ZcF,ZgO,Zhv,Zg2,List.all_cons,List.all_nil,ZaP,h2,ZfU,List.getElem?_cons_zero,h1,Bool.and_self]
theorem Zqu (w:Int) (n:Nat) (l:List Zt):ZdT w n [] l=(l,0):=by cases n <;> rfl
theorem Zsl (w:Int) (n:Nat) (c:UInt8) (r:Zb) (l:List Zt):ZdT w (n+1) (c::r) l=if (ZbI w (c::r) l).2.2=0 then ZdT w n ((c::r).drop (ZbI w (c::r) l).2.1) (l++[(ZbI w (c::r) l).1]) else ([],(ZbI w (c::r) l).2.2):=rfl
theorem ZEC (w:Int) (N U:Nat) (hU:U+N<=140737488355328) (l:List Zt) :
  Zha 0 [(10,.lst false []),(8,.int .i64 (U:Nat)),(7,.int .i64 (N:Nat)),(4,Zei (l.map Zn)),(0,.int .i64 w)] (Zd0 5 (l.map Zn))=some (ZhP (U+N) (l,0)):=by
 have hw:IntKind.i64.wrap ((U:Int)+(N:Int))=((U+N:Nat):Int):=by rw [ZbV (by omega) (by omega)];rfl
 have h1:¬(((0:Nat):Int) > 0):=by simp
 unfold ZhP Zha
 rw [Z9]
 cases l with
 | nil =>
  simp -implicitDefEqProofs only [EQA,Zq,Nat.reduceLT,Nat.reduceEqDiff,reduceCtorEq,↓reduceIte,Zd,ZgX,ZrY,Zks,Zhr,Zfs,oI,oN,ZfS,Ze7,hw,h1]
  try (simp [Zak,gcA,ZB,ZA,Zp,ZV,Zl,Zv,ZZ,Zm,ZR,Ze,Zk,ZF,ZN,List.range_succ])
 | cons p l =>
  generalize hX:(p::l).map Zn=X
  have hpos:0 < X.length:=by rw [<-hX];simp
  simp only [Zi2 hpos,Zlz hpos]
  simp -implicitDefEqProofs only [EQA,Nat.reduceLT,Nat.reduceEqDiff,reduceCtorEq,↓reduceIte,ZgX,ZrY,Zks,Zhr,Zfs,oI,oN,hw,h1]
  simp [Zak,gcA,ZB,ZA,Zp,ZV,Zl,Zv,ZZ,Zm,ZR,Ze,Zk,ZF,ZN]
theorem ZrK (w:Int) (N U:Nat) (hU:U+N<=140737488355328) (hN9:N<=1000000000):∀ (n:Nat) (b:Zb) (l:List Zt),b.length<=n->l.length+b.length<=N->(∀ p ∈ l,p.data.length<=140737488355328) ->
  Zha 0 [(10,.lst false (b.map Zc)),(8,.int .i64 (U:Nat)),(7,.int .i64 (N:Nat)),(4,Zei (l.map Zn)),(0,.int .i64 w)] (Zd0 5 (l.map Zn))=some (ZhP (U+N) (ZdT w n b l))
 | n,[],l,hb,hN,hd=>by
  rw [Zqu]
  exact ZEC w N U hU l
 | 0,c::r,l,hb,hN,hd=>by simp at hb
 | n+1,c::r,l,hb,hN,hd=>by
  rw [Zsl]
  generalize hB:c::r=b at *
  have hlen:0 < b.length:=by rw [<-hB];simp
  have hpos:((b.length:Nat):Int) > 0:=by omega
  have hC:=fun σ sq own f g=>ZEg σ sq own f g w b l (by omega) (by omega) hd
  have hS:=fun σ sq own f=>ZGO σ sq own f w b l (by omega) (by omega) hd
  have hu:=ZrN (w:=w) (b:=b) (l:=l)
  unfold ZcF at hC hS
  rcases hx:ZbI w b l with ⟨p,m,e⟩
  rw [hx] at hC hS hu
  simp only at hC hS hu ⊢
  by_cases he:e=0
  ·subst he
   obtain ⟨u1,u2,u3⟩:=hu rfl
   have n0:((0:Int) != 0)=false:=rfl
   rw [if_pos rfl]
   have ih:=ZrK w N U hU hN9 n (b.drop m) (l++[p]) (by simp;omega) (by simp;omega) (by
    intro q hq
    rcases List.mem_append.1 hq with h | h
    ·exact hd q h
    ·simp at h;subst h;omega)
   have hs:=fun σ kk=>ZeX σ b kk ((m:Nat):Int) (by omega) (by omega)
   have e2:(((m:Nat):Int)).toNat=m:=rfl
   rw [e2] at hs
   generalize ZdT w n (b.drop m) (l++[p])=R at *
   unfold Zha at ih ⊢
   rw [Z9]
   cases l with
   | nil =>
    simp only [List.map_nil] at hC
    simp only [List.nil_append,List.map_cons,List.map_nil,ZgP,ZhA,ZfS,Ze7,List.length_cons,List.length_nil,Nat.zero_add,Zn,ZbB,ZM] at ih ⊢
    simp -implicitDefEqProofs only [EQA,Z7,Zck,Nat.reduceAdd,Nat.reduceLT,Nat.reduceLeDiff,Nat.reduceEqDiff,Nat.reduceBEq,reduceCtorEq,ZY,↓reduceIte,gcT,gcA,ZB,ZA,Zl,Zv,ZZ,Zm,ZR,ZF,ZN,Zhr,Zfs,oI,oN,hpos,hC,n0,hs,ZaR,kOk,viewAs,ZQ,ZK,ZaG,Zo,Nat.one_mul,AVal.cells]
    exact ih
   | cons a l =>
    have hXl:((a::l).map Zn).length=l.length+1:=by simp
    rw [List.map_append] at ih
    generalize hX:(a::l).map Zn=X at *
    have hXp:0 < X.length:=by omega
    have hXq:0 < (X++[p].map Zn).length:=by rw [List.length_append];omega
    simp only [Zi2 hXp,Zlz hXp,Zi2 hXq,Zlz hXq] at ih ⊢
    have hk:kOk 5 X=true:=by rw [<-hX];rfl
    have hb9:(X.length+1)*72<=140737488355328:=by simp at hN;omega
    try simp only [List.map_cons,List.map_nil,Zn,ZbB,ZM,List.length_append,List.length_cons,List.length_nil,Nat.zero_add] at ih
    simp -implicitDefEqProofs only [EQA,Z7,Zck,Nat.reduceAdd,Nat.reduceLT,Nat.reduceLeDiff,Nat.reduceEqDiff,Nat.reduceBEq,reduceCtorEq,ZY,↓reduceIte,gcT,gcA,ZB,ZA,Zl,Zv,ZZ,Zm,ZR,ZF,ZN,Zhr,Zfs,oI,oN,hpos,hS,n0,hs,hb9,ZaR,kOk,viewAs,ZQ,ZK,ZaG,Zo,AVal.cells]
    exact ih
  ·have n1:(e != 0)=true:=by simpa using he
   rw [if_neg he]
   unfold ZhP Zha
   simp only
   rw [if_neg he,Z9]
   cases l with
   | nil =>
    simp only [List.map_nil,ZfS,Ze7] at hC ⊢
    simp -implicitDefEqProofs only [EQA,Zq,Nat.reduceAdd,Nat.reduceLT,Nat.reduceLeDiff,Nat.reduceEqDiff,Nat.reduceBEq,reduceCtorEq,↓reduceIte,Zd,ZgX,Zhr,Zfs,oI,oN,hpos,hC,n1,AVal.cells]
    try (simp [Zak,gcA,ZB,ZA,Zp,ZV,Zl,Zv,ZZ,Zm,ZR,Ze,Zk,ZF,ZN,List.range_succ])
   | cons a l =>
    generalize hX:(a::l).map Zn=X at *
    have hXp:0 < X.length:=by rw [<-hX];simp
    simp only [Zi2 hXp,Zlz hXp]
    simp -implicitDefEqProofs only [EQA,Zq,Nat.reduceAdd,Nat.reduceLT,Nat.reduceLeDiff,Nat.reduceEqDiff,Nat.reduceBEq,reduceCtorEq,↓reduceIte,Zd,ZgX,Zhr,Zfs,oI,oN,hpos,hS,n1,AVal.cells]
    try (simp [Zak,gcA,ZB,ZA,Zp,ZV,Zl,Zv,ZZ,Zm,ZR,Ze,Zk,ZF,ZN,List.range_succ])
theorem Zrz:∀ (b:Zb) (i n:Nat),i<=4->n < 128 ^ i->(gvA i n b).1 < 268435456
 | [],i,n,hi,hn=>by unfold gvA;split <;> simp
 | c::r,i,n,hi,hn=>by
  have ha:c.toNat % 128 < 128:=Nat.mod_lt _ (by decide)
  unfold gvA
  split
  ·simp
  ·rename_i h4
   have hb:=Ztr n i _ hn ha
   have hp:128 ^ (i+1)<=128 ^ 4:=Nat.pow_le_pow_right (by decide) (by omega)
   split
   ·split
    ·simp
    ·simp only;omega
   ·exact Zrz r (i+1) _ (by omega) hb
theorem Znd (b:Zb):(Z8 b).1 < 268435456:=Zrz b 0 0 (by omega) (by simp)
def Zrp (x:List Zt×Nat×Int):AVal×Za:=(.tup [Zei (x.1.map Zn),.int .i64 (x.2.1:Nat),.int .i64 x.2.2],Zd0 5 (x.1.map Zn))
theorem ZLC (w:Int) (b:Zb) (hl:b.length<=140737488355328):E 97 [.int .i64 w,ZM b] []=some (Zrp (Zae w b)):=by
 have hGV:=fun σ sq own f=>Znk σ sq own f b (by omega)
 have hu:=Zns b
 have hlt:=Znd b
 have hle:=Ztz b
 unfold Zae Zrp
 rcases hx:Z8 b with ⟨n,u,e⟩
 rw [hx] at hGV hu hlt hle
 unfold gvT at hGV
 simp only at hGV hu hlt hle ⊢
 have hw:IntKind.i64.wrap ((b.length:Int) - (u:Int))=(b.length:Int) - (u:Int):=ZbV (by omega) (by omega)
 by_cases he:e=0
 ·subst he
  have n0:((0:Int) != 0)=false:=rfl
  by_cases hn:(n:Int) > (b.length:Int) - (u:Int)
  ·rw [if_pos (Or.inr hn),Zh (by rfl) Zpo]
   simp -implicitDefEqProofs only [EQA,Zq,Nat.reduceLT,Nat.reduceEqDiff,ZH,unG,reduceCtorEq,↓reduceIte,Zd,ZnH,ZhK,ZgX,oI,ZM,hGV,n0,hw,hn]
   simp []
   exact ⟨rfl,rfl⟩
  ·have hc:¬((0:Int)≠0\/(n:Int) > (b.length:Int) - (u:Int)):=by simpa using hn
   rw [if_neg hc,Zh (by rfl) Zpo]
   have hw2:IntKind.i64.wrap ((u:Int)+(n:Int))=((u+n:Nat):Int):=by rw [ZbV (by omega) (by omega)];rfl
   have hs:=fun σ k1 k2=>Zp9 σ b k1 k2 ((u:Nat):Int) ((u+n:Nat):Int) (by omega) (by omega) (by omega)
   have e1:(((u:Nat):Int)).toNat=u:=rfl
   have e2:(((u+n:Nat):Int)).toNat=u+n:=rfl
   rw [e1,e2] at hs
   have key:=ZrK w n u (by omega) (by omega) n ((b.take (u+n)).drop u) [] (by simp;omega) (by simp;omega) (by simp)
   generalize (b.take (u+n)).drop u=B at *
   unfold Zha at key
   simp only [List.map_nil,ZfS,Ze7] at key
   simp -implicitDefEqProofs only [EQA,Z7,Nat.reduceLT,Nat.reduceEqDiff,ZH,unG,reduceCtorEq,↓reduceIte,gcT,gcA,ZB,ZA,Zv,ZN,ZnH,ZhK,oI,ZM,hGV,n0,hw,hn,hw2,hs]
   rw [key]
   unfold ZhP
   split <;> rfl
 ·have n1:(e != 0)=true:=by simpa using he
  rw [if_pos (Or.inl he),Zh (by rfl) Zpo]
  simp -implicitDefEqProofs only [EQA,Zq,Nat.reduceLT,Nat.reduceEqDiff,ZH,Zau,reduceCtorEq,↓reduceIte,Zd,ZnH,ZhK,ZgX,oI,ZM,hGV,n1]
  simp []
  exact ⟨rfl,rfl⟩
theorem ZB9 {σ:Za} {x:AVal} (h:ZaP x=true):ZQ σ x=some (x,[])/\ZV x=[]/\∀ ρ,Zk ρ x=x:=by
 cases x <;> simp [ZaP] at h <;> simp [ZQ,ZK,ZV,Zk]
theorem Zkh {σ:Za}:∀ {vs:List AVal},vs.all ZaP=true->viewAs σ vs=some (vs,[])/\Zp vs=[]/\∀ ρ,Ze ρ vs=vs
 | [],_=>⟨rfl,rfl,fun _=>rfl⟩
 | x::xs,h=>by
  simp only [List.all_cons,Bool.and_eq_true] at h
  obtain ⟨a1,a2,a3⟩:=ZB9 (σ:=σ) h.1
  obtain ⟨b1,b2,b3⟩:=Zkh (σ:=σ) h.2
  refine ⟨by simp only [viewAs,a1,b1,List.append_nil],by simp only [Zp,a2,b2,List.append_nil],fun ρ=>by simp only [Ze,a3,b3]⟩
theorem ZD2 {O:ZL} {bf:Nat->Bool} {f k:Nat} {args args':List AVal} {full vs:List AVal} (h:O f args' []=some (.tup (Zei full::vs),Zd0 k full)) (hv:vs.all ZaP=true) (hb:bf f=false) (hp:args.all Z5=true) (hn:args.map ZD=args') (σ:Za) (sq own:Nat):Zj O bf σ sq f own true args=some (.tup (.lst false full::vs),σ,{}):=by
 have hr:∀ sq,Zk (Zaz [] [] sq) (.tup (.lst false full::vs))=.tup (.lst false full::vs):=fun sq=>by
  simp only [Zk,Ze,(Zkh (σ:=[]) hv).2.2]
 rw [ZfG hb hp,hn,h]
 have : Z6 true 0 (some (.tup (Zei full::vs),Zd0 k full))=some (.tup (.lst false full::vs),[]):=by
  unfold Z6
  rw [if_pos rfl]
  cases full with
  | nil =>
   obtain ⟨b1,b2,b3⟩:=Zkh (σ:=[]) hv
   simp [ZfS,Ze7,Zbr,viewR,viewAs,ZQ,ZK,b1,Zo,gcA,ZB,ZA,Zp,ZV,b2,Ze,Zk,b3,Zv]
  | cons x xs =>
   obtain ⟨b1,b2,b3⟩:=Zkh (σ:=[ZI.row 0 k (x::xs)]) hv
   simp only [ZgP,ZhA]
   generalize x::xs=X at *
   simp [Zbr,viewR,viewAs,ZQ,ZK,ZY,b1,Zo,gcA,ZB,ZA,Zp,ZV,b2,Ze,Zk,b3,Zv]
 rw [this,ZgK _ _ _ _ (hr sq)]
theorem Zjy (σ:Za) (sq own:Nat) (f:Bool) (w:Int) (b:Zb) (hl:b.length<=140737488355328):Zj E BY σ sq 97 own true [.int .i64 w,.lst f (b.map Zc)]=some (.tup [.lst false ((Zae w b).1.map Zn),.int .i64 ((Zae w b).2.1:Nat),.int .i64 (Zae w b).2.2],σ,{}) :=
 ZD2 (k:=5) (ZLC w b hl) rfl (by kernel_rfl) rfl rfl _ _ _
end
section
end
section
structure ZdR where
 b:Zb
 short:Bool
def Zid (b:Zb):Int:=IntKind.i64.wrap (Zcx b:Int)
end
section
def Za0:Zf:=(.seq (.region [oI 1 (.box (.t 0))] none [1]) (.seq (.region [oI 4 (.ld none (.t 1)),oI 5 (.nilchk (.t 4)),oI 6 (.faddr 0 (.t 5)),oI 2 (.alloc [.nilp]),oN (.st 1 (.t 2) (.t 6))] none [2,1]) (.seq (.seq (.region [oI 7 (.ld none (.t 2)),oI 8 (.nilchk (.t 7)),oI 9 (.faddr 0 (.t 8)),oI 10 (.ld none (.t 9))] none [10,2,1]) (.block 0 (.seq (.region [oI 12 (.bin .eql (.t 10) (.c (.int .i64 1))),oI 11 (.mov (.t 12))] none [11,10,2,1]) (.cond (.t 11) (.region [oI 13 (.ld none (.t 1)),oI 14 (.call 54 0 true [(.t 13)])] none [1]) (.seq (.region [oI 16 (.bin .eql (.t 10) (.c (.int .i64 2))),oI 15 (.mov (.t 16))] none [15,10,2,1]) (.cond (.t 15) (.seq (.region [oI 17 (.ld none (.t 1)),oI 18 (.call 55 0 true [(.t 17),(.c (.int .i64 1))]),oI 3 (.mov (.t 18))] none [3,2,1]) (.seq (.region [oI 19 (.mov (.t 3)),oI 20 (.bin .lss (.t 19) (.c (.int .i64 2))),oI 21 (.call 53 0 true [(.t 20),(.c (.int .i64 129))])] none [3,2,1]) (.seq (.region [oI 22 (.ld none (.t 2)),oI 23 (.mov (.t 3)),oI 24 (.bin .eql (.t 23) (.c (.int .i64 1))),oI 25 (.nilchk (.t 22)),oI 26 (.faddr 25 (.t 25)),oN (.st 1 (.t 26) (.t 24))] none [2,1]) (.seq (.region [oI 27 (.ld none (.t 2)),oI 28 (.ld none (.t 1)),oI 29 (.call 56 0 true [(.t 28)]),oI 30 (.nilchk (.t 27)),oI 31 (.faddr 7 (.t 30)),oN (.st 1 (.t 31) (.t 29))] (some [(0,1),(0,2),(2,2)]) [2,1]) (.region [oI 32 (.ld none (.t 2)),oI 33 (.ld none (.t 1)),oI 34 (.call 57 0 true [(.t 33),(.c (.int .i64 2))]),oI 35 (.nilchk (.t 32)),oI 36 (.faddr 9 (.t 35)),oN (.st 1 (.t 36) (.t 34))] (some [(0,1),(0,2),(2,2)]) [1]))))) (.seq (.region [oI 38 (.bin .eql (.t 10) (.c (.int .i64 3))),oI 37 (.mov (.t 38))] none [37,10,2,1]) (.cond (.t 37) (.region [oI 39 (.ld none (.t 1)),oI 40 (.call 58 0 true [(.t 39)])] none [1]) (.seq (.seq (.region [oI 42 (.bin .eql (.t 10) (.c (.int .i64 4))),oI 41 (.mov (.t 42))] none [41,10,2,1]) (.cond (.t 41) .skip (.seq (.region [oI 43 (.bin .eql (.t 10) (.c (.int .i64 5))),oI 41 (.mov (.t 43))] none [41,10,2,1]) (.cond (.t 41) .skip (.seq (.region [oI 44 (.bin .eql (.t 10) (.c (.int .i64 6))),oI 41 (.mov (.t 44))] none [41,10,2,1]) (.cond (.t 41) .skip (.region [oI 45 (.bin .eql (.t 10) (.c (.int .i64 7))),oI 41 (.mov (.t 45))] none [41,10,2,1]))))))) (.cond (.t 41) (.seq (.region [oI 46 (.ld none (.t 1)),oI 47 (.call 59 0 true [(.t 46)])] none [1]) (.region [oI 48 (.ld none (.t 1)),oI 49 (.call 60 0 true [(.t 48)])] none [1])) (.seq (.region [oI 51 (.bin .eql (.t 10) (.c (.int .i64 8))),oI 50 (.mov (.t 51))] none [50,10,2,1]) (.cond (.t 50) (.region [oI 52 (.ld none (.t 1)),oI 53 (.ld none (.t 1)),oI 54 (.mkfn 1000062 [(.t 53)]),oI 55 (.call 61 1 true [(.t 52),(.t 54)])] none [1]) (.seq (.region [oI 57 (.bin .eql (.t 10) (.c (.int .i64 10))),oI 56 (.mov (.t 57))] none [56,10,2,1]) (.cond (.t 56) (.region [oI 58 (.ld none (.t 1)),oI 59 (.mkfn 63 [(.t 2),(.t 1)]),oI 60 (.call 61 1 true [(.t 58),(.t 59)])] none [1]) (.seq (.seq (.region [oI 62 (.bin .eql (.t 10) (.c (.int .i64 9))),oI 61 (.mov (.t 62))] none [61,10,2,1]) (.cond (.t 61) .skip (.region [oI 63 (.bin .eql (.t 10) (.c (.int .i64 11))),oI 61 (.mov (.t 63))] none [61,10,2,1]))) (.cond (.t 61) (.region [oI 64 (.ld none (.t 1)),oI 65 (.mkfn 65 [(.t 2),(.t 1)]),oI 66 (.call 61 1 true [(.t 64),(.t 65)])] none [1]) (.seq (.seq (.region [oI 68 (.bin .eql (.t 10) (.c (.int .i64 14))),oI 67 (.mov (.t 68))] none [67,10,1]) (.cond (.t 67) .skip (.region [oI 69 (.bin .eql (.t 10) (.c (.int .i64 15))),oI 67 (.mov (.t 69))] none [67,1]))) (.cond (.t 67) (.region [oI 70 (.ld none (.t 1)),oI 71 (.call 60 0 true [(.t 70)])] none [1]) .skip)))))))))))))))))) (.region [oI 72 (.ld none (.t 1)),oI 73 (.nilchk (.t 72)),oI 74 (.faddr 26 (.t 73)),oI 75 (.ld none (.t 74)),oI 76 (.len (.t 75)),oI 77 (.bin .eql (.t 76) (.c (.int .i64 0))),oI 78 (.call 53 0 true [(.t 77),(.c (.int .i64 129))])] none []))))
def ZpQ:ZE:=⟨[],Za0⟩
theorem Za6:FC 27=some ZpQ:=by kernel_rfl
theorem Za8:ZpQ.body=Za0:=rfl
theorem Zeb:ZpQ.res=[]:=rfl
def Zc6:Zf:=(.region [oI 2 (.ld none (.t 0)),oI 3 (.ld none (.t 0)),oI 4 (.nilchk (.t 3)),oI 5 (.faddr 11 (.t 4)),oI 6 (.ld none (.t 5)),oI 7 (.ld none (.t 1)),oI 8 (.call 64 0 true [(.t 7)]),oI 9 (.bslice false 1 1 (.str []) [(0,(.t 8))]),oI 10 (.app 1 16 (.str []) (.t 6) (.t 9)),oI 11 (.nilchk (.t 2)),oI 12 (.faddr 11 (.t 11)),oN (.st 1 (.t 12) (.t 10))] (some [(0,1),(0,4),(0,5),(1,5),(4,5),(0,6),(1,6),(4,6),(0,7),(1,7),(4,7),(0,8),(6,6)]) [])
def ZDU:ZE:=⟨[],Zc6⟩
theorem Zk9:FC 63=some ZDU:=by kernel_rfl
def ZcX:Zf:=(.region [oI 2 (.ld none (.t 0)),oI 3 (.ld none (.t 0)),oI 4 (.nilchk (.t 3)),oI 5 (.faddr 8 (.t 4)),oI 6 (.ld none (.t 5)),oI 7 (.ld none (.t 1)),oI 8 (.call 56 0 true [(.t 7)]),oI 9 (.bslice false 1 1 (.int .i64 0) [(0,(.t 8))]),oI 10 (.app 1 8 (.int .i64 0) (.t 6) (.t 9)),oI 11 (.nilchk (.t 2)),oI 12 (.faddr 8 (.t 11)),oN (.st 1 (.t 12) (.t 10))] (some [(0,1),(0,4),(0,5),(1,5),(4,5),(0,6),(1,6),(4,6),(0,7),(1,7),(4,7),(0,8),(6,6)]) [])
def ZvK:ZE:=⟨[],ZcX⟩
theorem ZjJ:FC 65=some ZvK:=by kernel_rfl
def Zeq:Zf:=(.seq (.region [oI 2 (.mov (.c (.int .i64 0)))] none [0]) (.seq (.region [oI 4 (.mov (.t 0)),oI 5 (.call 55 0 true [(.t 4),(.c (.int .i64 1))]),oI 3 (.mov (.t 5))] none [3,0]) (.seq (.region [oI 6 (.mov (.t 0)),oI 7 (.nilchk (.t 6)),oI 8 (.faddr 0 (.t 7)),oI 9 (.faddr 0 (.t 8)),oI 10 (.ld none (.t 9)),oI 11 (.mov (.t 3)),oI 12 (.call 23 0 true [(.t 10),(.t 11)]),oI 13 (.call 53 0 true [(.t 12),(.c (.int .i64 130))])] none [3]) (.seq (.region [oI 14 (.mov (.t 3)),oI 2 (.mov (.t 14))] none [2]) .ret))))
def Zmm:ZE:=⟨[(.tmp 2)],Zeq⟩
theorem ZfR:FC 56=some Zmm:=by kernel_rfl
theorem Zff:Zmm.body=Zeq:=rfl
theorem ZtF:Zmm.res=[(.tmp 2)]:=rfl
def ZpB:Zf:=(.seq (.region [oI 4 (.mov (.t 0)),oI 5 (.nilchk (.t 4)),oI 6 (.faddr 0 (.t 5)),oI 2 (.mov (.t 6))] none [2,0]) (.seq (.region [oI 7 (.mov (.t 0)),oI 8 (.call 64 0 true [(.t 7)]),oI 9 (.bin .eql (.t 8) (.c (.str [77,81,84,84]))),oI 10 (.call 53 0 true [(.t 9),(.c (.int .i64 132))])] none [2,0]) (.seq (.region [oI 11 (.mov (.t 0)),oI 12 (.call 55 0 true [(.t 11),(.c (.int .i64 1))]),oI 13 (.bin .eql (.t 12) (.c (.int .i64 5))),oI 14 (.call 53 0 true [(.t 13),(.c (.int .i64 132))])] none [2,0]) (.seq (.region [oI 15 (.mov (.t 0)),oI 16 (.call 55 0 true [(.t 15),(.c (.int .i64 1))]),oI 3 (.mov (.t 16))] none [3,2,0]) (.seq (.region [oI 17 (.mov (.t 2)),oI 18 (.mov (.t 2)),oI 19 (.mov (.t 3)),oI 20 (.bin .and (.t 19) (.c (.int .i64 2))),oI 21 (.bin .neq (.t 20) (.c (.int .i64 0))),oI 22 (.mov (.t 3)),oI 23 (.bin .and (.t 22) (.c (.int .i64 4))),oI 24 (.bin .neq (.t 23) (.c (.int .i64 0))),oI 25 (.nilchk (.t 17)),oI 26 (.faddr 12 (.t 25)),oN (.st 1 (.t 26) (.t 21)),oI 27 (.nilchk (.t 18)),oI 28 (.faddr 15 (.t 27)),oN (.st 1 (.t 28) (.t 24))] none [3,2,0]) (.seq (.region [oI 29 (.mov (.t 2)),oI 30 (.mov (.t 2)),oI 31 (.mov (.t 3)),oI 32 (.bin .and (.t 31) (.c (.int .i64 64))),oI 33 (.bin .neq (.t 32) (.c (.int .i64 0))),oI 34 (.mov (.t 3)),oI 35 (.bin .and (.t 34) (.c (.int .i64 128))),oI 36 (.bin .neq (.t 35) (.c (.int .i64 0))),oI 37 (.nilchk (.t 29)),oI 38 (.faddr 23 (.t 37)),oN (.st 1 (.t 38) (.t 33)),oI 39 (.nilchk (.t 30)),oI 40 (.faddr 21 (.t 39)),oN (.st 1 (.t 40) (.t 36))] none [3,2,0]) (.seq (.region [oI 41 (.mov (.t 2)),oI 42 (.mov (.t 2)),oI 43 (.mov (.t 3)),oI 44 (.bin .quo (.t 43) (.c (.int .i64 8))),oI 45 (.bin .and (.t 44) (.c (.int .i64 3))),oI 46 (.mov (.t 3)),oI 47 (.bin .and (.t 46) (.c (.int .i64 32))),oI 48 (.bin .neq (.t 47) (.c (.int .i64 0))),oI 49 (.nilchk (.t 41)),oI 50 (.faddr 16 (.t 49)),oI 51 (.faddr 2 (.t 50)),oN (.st 1 (.t 51) (.t 45)),oI 52 (.nilchk (.t 42)),oI 53 (.faddr 16 (.t 52)),oI 54 (.faddr 3 (.t 53)),oN (.st 1 (.t 54) (.t 48))] none [3,2,0]) (.seq (.region [oI 55 (.mov (.t 3)),oI 56 (.bin .and (.t 55) (.c (.int .i64 1))),oI 57 (.bin .eql (.t 56) (.c (.int .i64 0))),oI 58 (.mov (.t 57)),⟨(some 59),(.mov (.t 2)),(some (58,true)),[]⟩,⟨(some 60),(.nilchk (.t 59)),(some (58,true)),[]⟩,⟨(some 61),(.faddr 16 (.t 60)),(some (58,true)),[]⟩,⟨(some 62),(.faddr 2 (.t 61)),(some (58,true)),[]⟩,⟨(some 63),(.ld none (.t 62)),(some (58,true)),[]⟩,⟨(some 64),(.bin .lss (.t 63) (.c (.int .i64 3))),(some (58,true)),[]⟩,oI 65 (.pick (.t 58) (.t 64) (.c (.bool false))),oI 66 (.mov (.t 65)),⟨(some 67),(.mov (.t 2)),(some (66,true)),[]⟩,⟨(some 68),(.nilchk (.t 67)),(some (66,true)),[]⟩,⟨(some 69),(.faddr 15 (.t 68)),(some (66,true)),[]⟩,⟨(some 70),(.ld none (.t 69)),(some (66,true)),[]⟩,⟨(some 71),(.mov (.t 70)),(some (66,true)),[]⟩,⟨(some 72),(.mov (.t 2)),(some (71,false)),[]⟩,⟨(some 73),(.nilchk (.t 72)),(some (71,false)),[]⟩,⟨(some 74),(.faddr 16 (.t 73)),(some (71,false)),[]⟩,⟨(some 75),(.faddr 2 (.t 74)),(some (71,false)),[]⟩,⟨(some 76),(.ld none (.t 75)),(some (71,false)),[]⟩,⟨(some 77),(.bin .eql (.t 76) (.c (.int .i64 0))),(some (71,false)),[]⟩,⟨(some 78),(.mov (.t 77)),(some (71,false)),[]⟩,⟨(some 79),(.mov (.t 2)),(some (78,true)),[]⟩,⟨(some 80),(.nilchk (.t 79)),(some (78,true)),[]⟩,⟨(some 81),(.faddr 16 (.t 80)),(some (78,true)),[]⟩,⟨(some 82),(.faddr 3 (.t 81)),(some (78,true)),[]⟩,⟨(some 83),(.ld none (.t 82)),(some (78,true)),[]⟩,⟨(some 84),(.un .not (.t 83)),(some (78,true)),[]⟩,⟨(some 85),(.pick (.t 78) (.t 84) (.c (.bool false))),(some (71,false)),[]⟩,⟨(some 86),(.pick (.t 71) (.c (.bool true)) (.t 85)),(some (66,true)),[]⟩,oI 87 (.pick (.t 66) (.t 86) (.c (.bool false))),oI 88 (.call 53 0 true [(.t 87),(.c (.int .i64 129))])] none [2,0]) (.seq (.region [oI 89 (.mov (.t 2)),oI 90 (.mov (.t 0)),oI 91 (.call 55 0 true [(.t 90),(.c (.int .i64 2))]),oI 92 (.nilchk (.t 89)),oI 93 (.faddr 13 (.t 92)),oN (.st 1 (.t 93) (.t 91))] none [2,0]) (.seq (.region [oI 94 (.mov (.t 2)),oI 95 (.mov (.t 0)),oI 96 (.call 57 0 true [(.t 95),(.c (.int .i64 1))]),oI 97 (.nilchk (.t 94)),oI 98 (.faddr 9 (.t 97)),oN (.st 1 (.t 98) (.t 96))] none [2,0]) (.seq (.region [oI 99 (.mov (.t 2)),oI 100 (.mov (.t 0)),oI 101 (.call 64 0 true [(.t 100)]),oI 102 (.nilchk (.t 99)),oI 103 (.faddr 14 (.t 102)),oN (.st 1 (.t 103) (.t 101))] none [2,0]) (.seq (.seq (.region [oI 104 (.mov (.t 2)),oI 105 (.nilchk (.t 104)),oI 106 (.faddr 15 (.t 105)),oI 107 (.ld none (.t 106))] none [107,2,0]) (.cond (.t 107) (.seq (.region [oI 108 (.mov (.t 2)),oI 109 (.mov (.t 0)),oI 110 (.call 57 0 true [(.t 109),(.c (.int .i64 16))]),oI 111 (.nilchk (.t 108)),oI 112 (.faddr 16 (.t 111)),oI 113 (.faddr 4 (.t 112)),oN (.st 1 (.t 113) (.t 110))] none [2,0]) (.seq (.region [oI 114 (.mov (.t 2)),oI 115 (.mov (.t 0)),oI 116 (.call 64 0 true [(.t 115)]),oI 117 (.nilchk (.t 114)),oI 118 (.faddr 16 (.t 117)),oI 119 (.faddr 0 (.t 118)),oN (.st 1 (.t 119) (.t 116))] none [2,0]) (.region [oI 120 (.mov (.t 2)),oI 121 (.mov (.t 0)),oI 122 (.call 95 0 true [(.t 121)]),oI 123 (.nilchk (.t 120)),oI 124 (.faddr 16 (.t 123)),oI 125 (.faddr 1 (.t 124)),oN (.st 1 (.t 125) (.t 122))] none [2,0]))) .skip)) (.seq (.seq (.region [oI 126 (.mov (.t 2)),oI 127 (.nilchk (.t 126)),oI 128 (.faddr 21 (.t 127)),oI 129 (.ld none (.t 128))] none [129,2,0]) (.cond (.t 129) (.region [oI 130 (.mov (.t 2)),oI 131 (.mov (.t 0)),oI 132 (.call 64 0 true [(.t 131)]),oI 133 (.nilchk (.t 130)),oI 134 (.faddr 22 (.t 133)),oN (.st 1 (.t 134) (.t 132))] none [2,0]) .skip)) (.seq (.region [oI 135 (.mov (.t 2)),oI 136 (.nilchk (.t 135)),oI 137 (.faddr 23 (.t 136)),oI 138 (.ld none (.t 137))] none [138,2,0]) (.cond (.t 138) (.region [oI 139 (.mov (.t 2)),oI 140 (.mov (.t 0)),oI 141 (.call 95 0 true [(.t 140)]),oI 142 (.nilchk (.t 139)),oI 143 (.faddr 24 (.t 142)),oN (.st 1 (.t 143) (.t 141))] none []) .skip)))))))))))))))
def Zod:ZE:=⟨[],ZpB⟩
theorem Zqd:FC 54=some Zod:=by kernel_rfl
def Zji:Zf:=(.seq (.region [oI 2 (.mov (.c (.lst true [])))] none [0]) (.seq (.region [oI 7 (.mov (.t 0)),oI 8 (.nilchk (.t 7)),oI 9 (.faddr 26 (.t 8)),oI 10 (.ld none (.t 9)),oI 11 (.call 115 0 true [(.t 10)]),oI 6 (.mov (.t 11)),oI 12 (.ext (.t 6) 0),oI 13 (.ext (.t 6) 1),oI 14 (.ext (.t 6) 2),oI 3 (.mov (.t 12)),oI 4 (.mov (.t 13)),oI 5 (.mov (.t 14))] none [5,4,3,0]) (.seq (.region [oI 15 (.mov (.t 5)),oI 16 (.bin .eql (.t 15) (.c (.int .i64 0))),oI 17 (.call 53 0 true [(.t 16),(.c (.int .i64 129))])] none [4,3,0]) (.seq (.region [oI 18 (.mov (.t 0)),oI 19 (.mov (.t 0)),oI 20 (.nilchk (.t 19)),oI 21 (.faddr 26 (.t 20)),oI 22 (.ld none (.t 21)),oI 23 (.mov (.t 4)),oI 24 (.slice 1 (.t 22) (some (.t 23)) none none),oI 25 (.nilchk (.t 18)),oI 26 (.faddr 26 (.t 25)),oN (.st 1 (.t 26) (.t 24))] none [3]) (.seq (.region [oI 27 (.mov (.t 3)),oI 2 (.mov (.t 27))] none [2]) .ret)))))
def Zl8:ZE:=⟨[(.tmp 2)],Zji⟩
theorem ZrG:FC 95=some Zl8:=by kernel_rfl
theorem ZsY:Zl8.body=Zji:=rfl
theorem ZDx:Zl8.res=[(.tmp 2)]:=rfl
def ZeB:Zf:=(.seq (.region [oI 5 (.mov (.t 0)),oI 6 (.nilchk (.t 5)),oI 7 (.faddr 0 (.t 6)),oI 4 (.mov (.t 7))] none [4,1]) (.seq (.region [oI 8 (.mov (.t 4)),oI 9 (.mov (.t 1)),oI 10 (.bin .shr (.t 9) (.c (.int .u64 4))),oI 11 (.i2i .i64 (.t 10)),oI 12 (.nilchk (.t 8)),oI 13 (.faddr 0 (.t 12)),oN (.st 1 (.t 13) (.t 11))] none [4,1]) (.seq (.region [oI 14 (.mov (.t 4)),oI 15 (.nilchk (.t 14)),oI 16 (.faddr 0 (.t 15)),oI 17 (.ld none (.t 16)),oI 18 (.bin .neq (.t 17) (.c (.int .i64 0))),oI 19 (.call 53 0 true [(.t 18),(.c (.int .i64 129))])] none [4,1]) (.seq (.seq (.region [oI 20 (.mov (.t 4)),oI 21 (.nilchk (.t 20)),oI 22 (.faddr 0 (.t 21)),oI 23 (.ld none (.t 22)),oI 24 (.bin .neq (.t 23) (.c (.int .i64 3)))] none [24,4,1]) (.cond (.t 24) (.seq (.region [oI 25 (.mov (.t 1)),oI 26 (.bin .and (.t 25) (.c (.int .u8 15))),oI 27 (.mov (.t 4)),oI 28 (.nilchk (.t 27)),oI 29 (.faddr 0 (.t 28)),oI 30 (.ld none (.t 29)),oI 31 (.call 40 0 true [(.t 30)]),oI 32 (.bin .eql (.t 26) (.t 31)),oI 33 (.call 53 0 true [(.t 32),(.c (.int .i64 129))])] none []) .ret) .skip)) (.seq (.region [oI 34 (.mov (.t 4)),oI 35 (.mov (.t 4)),oI 36 (.mov (.t 4)),oI 37 (.mov (.t 1)),oI 38 (.bin .and (.t 37) (.c (.int .u8 8))),oI 39 (.bin .neq (.t 38) (.c (.int .u8 0))),oI 40 (.mov (.t 1)),oI 41 (.bin .shr (.t 40) (.c (.int .u64 1))),oI 42 (.bin .and (.t 41) (.c (.int .u8 3))),oI 43 (.i2i .i64 (.t 42)),oI 44 (.mov (.t 1)),oI 45 (.bin .and (.t 44) (.c (.int .u8 1))),oI 46 (.bin .neq (.t 45) (.c (.int .u8 0))),oI 47 (.nilchk (.t 34)),oI 48 (.faddr 1 (.t 47)),oN (.st 1 (.t 48) (.t 39)),oI 49 (.nilchk (.t 35)),oI 50 (.faddr 2 (.t 49)),oN (.st 1 (.t 50) (.t 43)),oI 51 (.nilchk (.t 36)),oI 52 (.faddr 3 (.t 51)),oN (.st 1 (.t 52) (.t 46))] none [4]) (.seq (.region [oI 53 (.mov (.t 4)),oI 54 (.nilchk (.t 53)),oI 55 (.faddr 2 (.t 54)),oI 56 (.ld none (.t 55)),oI 57 (.bin .lss (.t 56) (.c (.int .i64 3))),oI 58 (.call 53 0 true [(.t 57),(.c (.int .i64 129))])] none [4]) (.region [oI 59 (.mov (.t 4)),oI 60 (.nilchk (.t 59)),oI 61 (.faddr 2 (.t 60)),oI 62 (.ld none (.t 61)),oI 63 (.bin .gtr (.t 62) (.c (.int .i64 0))),oI 64 (.mov (.t 63)),⟨(some 65),(.mov (.t 4)),(some (64,false)),[]⟩,⟨(some 66),(.nilchk (.t 65)),(some (64,false)),[]⟩,⟨(some 67),(.faddr 1 (.t 66)),(some (64,false)),[]⟩,⟨(some 68),(.ld none (.t 67)),(some (64,false)),[]⟩,⟨(some 69),(.un .not (.t 68)),(some (64,false)),[]⟩,oI 70 (.pick (.t 64) (.c (.bool true)) (.t 69)),oI 71 (.call 53 0 true [(.t 70),(.c (.int .i64 130))])] none [])))))))
def ZpE:ZE:=⟨[],ZeB⟩
theorem Zf3:FC 26=some ZpE:=by kernel_rfl
theorem Zf5:ZpE.body=ZeB:=rfl
theorem ZlV:ZpE.res=[]:=rfl
def Zig:Zf:=(.seq (.region [oI 2 (.mov (.t 0)),oI 3 (.mov (.t 0)),oI 4 (.call 55 0 true [(.t 3),(.c (.int .i64 2))]),oI 5 (.nilchk (.t 2)),oI 6 (.faddr 0 (.t 5)),oI 7 (.faddr 4 (.t 6)),oN (.st 1 (.t 7) (.t 4))] none [0]) (.region [oI 8 (.mov (.t 0)),oI 9 (.nilchk (.t 8)),oI 10 (.faddr 0 (.t 9)),oI 11 (.faddr 4 (.t 10)),oI 12 (.ld none (.t 11)),oI 13 (.bin .neq (.t 12) (.c (.int .i64 0))),oI 14 (.call 53 0 true [(.t 13),(.c (.int .i64 130))])] none []))
def ZpA:ZE:=⟨[],Zig⟩
theorem Zog:FC 59=some ZpA:=by kernel_rfl
theorem ZmB:ZpA.body=Zig:=rfl
theorem Zz4:ZpA.res=[]:=rfl
def ZcI:Zf:=(.seq (.seq (.region [oI 24 (.mov (.t 0)),oI 25 (.nilchk (.t 24)),oI 26 (.faddr 26 (.t 25)),oI 27 (.ld none (.t 26)),oI 28 (.len (.t 27)),oI 29 (.bin .gtr (.t 28) (.c (.int .i64 0)))] none [29,1,0]) (.cond (.t 29) .skip (.exit 0))) (.block 1 (.region [oI 30 (.mov (.t 1)),oI 31 (.callv (.t 30) [])] none [1,0])))
def Zpz:Zf:=ZcI
def Zdt:=xw Zpz ZcI rfl
def Zeh:Zf:=(.seq (.region [oI 4 (.mov (.t 0)),oI 5 (.call 59 0 true [(.t 4)])] none [1,0]) (.seq (.region [oI 6 (.mov (.t 0)),oI 7 (.mov (.t 0)),oI 8 (.mov (.t 0)),oI 9 (.nilchk (.t 8)),oI 10 (.faddr 0 (.t 9)),oI 11 (.faddr 0 (.t 10)),oI 12 (.ld none (.t 11)),oI 13 (.call 57 0 true [(.t 7),(.t 12)]),oI 14 (.nilchk (.t 6)),oI 15 (.faddr 0 (.t 14)),oI 16 (.faddr 9 (.t 15)),oN (.st 1 (.t 16) (.t 13))] none [1,0]) (.seq (.region [oI 17 (.mov (.t 0)),oI 18 (.nilchk (.t 17)),oI 19 (.faddr 26 (.t 18)),oI 20 (.ld none (.t 19)),oI 21 (.len (.t 20)),oI 22 (.bin .gtr (.t 21) (.c (.int .i64 0))),oI 23 (.call 53 0 true [(.t 22),(.c (.int .i64 130))])] none [1,0]) (.block 0 (.loop [1,0] Zpz)))))
def ZkV:ZE:=⟨[],Zeh⟩
theorem Zfv:FC 61=some ZkV:=by kernel_rfl
theorem Zfz:ZkV.body=Zeh:=rfl
theorem Zj7:ZkV.res=[]:=rfl
noncomputable def ZaS (m:Nat) (tm:Tms) (σ:Za):Option (AVal×Za):=(Zar m ZkV (Option.map (ZaT 0) (evL FC PR BY m [1,0] Zpz tm σ)))
def Zhz:Zf:=(.seq (.region [oI 4 (.mov (.c (.int .i64 0)))] none [1,0]) (.seq (.region [oI 6 (.mov (.t 0)),oI 7 (.nilchk (.t 6)),oI 8 (.faddr 26 (.t 7)),oI 9 (.ld none (.t 8)),oI 10 (.len (.t 9)),oI 11 (.mov (.t 1)),oI 12 (.bin .geq (.t 10) (.t 11)),oI 13 (.call 53 0 true [(.t 12),(.c (.int .i64 129))])] none [1,0]) (.seq (.region [oI 14 (.mov (.t 0)),oI 15 (.nilchk (.t 14)),oI 16 (.faddr 26 (.t 15)),oI 17 (.ld none (.t 16)),oI 18 (.mov (.t 1)),oI 19 (.slice 1 (.t 17) none (some (.t 18)) none),oI 20 (.call 96 0 true [(.t 19)]),oI 21 (.i2i .i64 (.t 20)),oI 5 (.mov (.t 21))] none [5,1,0]) (.seq (.region [oI 22 (.mov (.t 0)),oI 23 (.mov (.t 0)),oI 24 (.nilchk (.t 23)),oI 25 (.faddr 26 (.t 24)),oI 26 (.ld none (.t 25)),oI 27 (.mov (.t 1)),oI 28 (.slice 1 (.t 26) (some (.t 27)) none none),oI 29 (.nilchk (.t 22)),oI 30 (.faddr 26 (.t 29)),oN (.st 1 (.t 30) (.t 28))] none [5]) (.seq (.region [oI 31 (.mov (.t 5)),oI 4 (.mov (.t 31))] none [4]) .ret)))))
def ZmP:ZE:=⟨[(.tmp 4)],Zhz⟩
theorem Zjj:FC 55=some ZmP:=by kernel_rfl
theorem ZjD:ZmP.body=Zhz:=rfl
theorem ZqD:ZmP.res=[(.tmp 4)]:=rfl
def ZjL:Zf:=(.seq (.region [oI 4 (.mov (.c (.lst true [])))] none [1,0]) (.seq (.region [oI 9 (.mov (.t 1)),oI 10 (.mov (.t 0)),oI 11 (.nilchk (.t 10)),oI 12 (.faddr 26 (.t 11)),oI 13 (.ld none (.t 12)),oI 14 (.call 97 0 true [(.t 9),(.t 13)]),oI 8 (.mov (.t 14)),oI 15 (.ext (.t 8) 0),oI 16 (.ext (.t 8) 1),oI 17 (.ext (.t 8) 2),oI 5 (.mov (.t 15)),oI 6 (.mov (.t 16)),oI 7 (.mov (.t 17))] none [7,6,5,0]) (.seq (.region [oI 18 (.mov (.t 7)),oI 19 (.bin .eql (.t 18) (.c (.int .i64 0))),oI 20 (.mov (.t 7)),oI 21 (.call 53 0 true [(.t 19),(.t 20)])] none [6,5,0]) (.seq (.region [oI 22 (.mov (.t 0)),oI 23 (.mov (.t 0)),oI 24 (.nilchk (.t 23)),oI 25 (.faddr 26 (.t 24)),oI 26 (.ld none (.t 25)),oI 27 (.mov (.t 6)),oI 28 (.slice 1 (.t 26) (some (.t 27)) none none),oI 29 (.nilchk (.t 22)),oI 30 (.faddr 26 (.t 29)),oN (.st 1 (.t 30) (.t 28))] none [5]) (.seq (.region [oI 31 (.mov (.t 5)),oI 4 (.mov (.t 31))] none [4]) .ret)))))
def Zoi:ZE:=⟨[(.tmp 4)],ZjL⟩
theorem ZqK:FC 57=some Zoi:=by kernel_rfl
theorem Zua:Zoi.body=ZjL:=rfl
theorem ZAy:Zoi.res=[(.tmp 4)]:=rfl
def Zfh:Zf:=(.seq (.region [oI 2 (.mov (.t 0)),oI 3 (.mov (.t 0)),oI 4 (.call 64 0 true [(.t 3)]),oI 5 (.nilchk (.t 2)),oI 6 (.faddr 0 (.t 5)),oI 7 (.faddr 5 (.t 6)),oN (.st 1 (.t 7) (.t 4))] none [0]) (.seq (.seq (.region [oI 8 (.mov (.t 0)),oI 9 (.nilchk (.t 8)),oI 10 (.faddr 0 (.t 9)),oI 11 (.faddr 2 (.t 10)),oI 12 (.ld none (.t 11)),oI 13 (.bin .gtr (.t 12) (.c (.int .i64 0)))] none [13,0]) (.cond (.t 13) (.region [oI 14 (.mov (.t 0)),oI 15 (.call 59 0 true [(.t 14)])] none [0]) .skip)) (.seq (.region [oI 16 (.mov (.t 0)),oI 17 (.mov (.t 0)),oI 18 (.call 57 0 true [(.t 17),(.c (.int .i64 3))]),oI 19 (.nilchk (.t 16)),oI 20 (.faddr 0 (.t 19)),oI 21 (.faddr 9 (.t 20)),oN (.st 1 (.t 21) (.t 18))] none [0]) (.region [oI 22 (.mov (.t 0)),oI 23 (.mov (.t 0)),oI 24 (.mov (.t 0)),oI 25 (.nilchk (.t 24)),oI 26 (.faddr 26 (.t 25)),oI 27 (.ld none (.t 26)),oI 28 (.call 98 0 true [(.t 27)]),oI 29 (.nilchk (.t 22)),oI 30 (.faddr 0 (.t 29)),oI 31 (.faddr 6 (.t 30)),oN (.st 1 (.t 31) (.t 28)),oI 32 (.nilchk (.t 23)),oI 33 (.faddr 26 (.t 32)),oN (.st 1 (.t 33) (.c (.lst true [])))] none []))))
def Zou:ZE:=⟨[],Zfh⟩
theorem Zhs:FC 58=some Zou:=by kernel_rfl
theorem Zg5:Zou.body=Zfh:=rfl
theorem ZrU:Zou.res=[]:=rfl
def Zf6:Zf:=(.seq (.seq (.region [oI 2 (.mov (.t 0)),oI 3 (.nilchk (.t 2)),oI 4 (.faddr 26 (.t 3)),oI 5 (.ld none (.t 4)),oI 6 (.len (.t 5)),oI 7 (.bin .gtr (.t 6) (.c (.int .i64 0)))] none [7,0]) (.cond (.t 7) (.region [oI 8 (.mov (.t 0)),oI 9 (.mov (.t 0)),oI 10 (.call 56 0 true [(.t 9)]),oI 11 (.nilchk (.t 8)),oI 12 (.faddr 0 (.t 11)),oI 13 (.faddr 7 (.t 12)),oN (.st 1 (.t 13) (.t 10))] none [0]) .skip)) (.seq (.region [oI 14 (.mov (.t 0)),oI 15 (.nilchk (.t 14)),oI 16 (.faddr 26 (.t 15)),oI 17 (.ld none (.t 16)),oI 18 (.len (.t 17)),oI 19 (.bin .gtr (.t 18) (.c (.int .i64 0)))] none [19,0]) (.cond (.t 19) (.region [oI 20 (.mov (.t 0)),oI 21 (.mov (.t 0)),oI 22 (.mov (.t 0)),oI 23 (.nilchk (.t 22)),oI 24 (.faddr 0 (.t 23)),oI 25 (.faddr 0 (.t 24)),oI 26 (.ld none (.t 25)),oI 27 (.call 57 0 true [(.t 21),(.t 26)]),oI 28 (.nilchk (.t 20)),oI 29 (.faddr 0 (.t 28)),oI 30 (.faddr 9 (.t 29)),oN (.st 1 (.t 30) (.t 27))] none []) .skip)))
def ZnB:ZE:=⟨[],Zf6⟩
theorem ZiI:FC 60=some ZnB:=by kernel_rfl
theorem ZiX:ZnB.body=Zf6:=rfl
theorem ZnM:ZnB.res=[]:=rfl
def ZcN:Zf:=(.seq (.region [oI 4 (.mov (.t 0)),oI 5 (.call 64 0 true [(.t 4)]),oI 6 (.build [(.str []),(.int .i64 0),(.bool false),(.bool false),(.int .i64 0),(.int .i64 0)] [(0,1,(.t 5))]),oI 2 (.alloc [(.str []),(.int .i64 0),(.bool false),(.bool false),(.int .i64 0),(.int .i64 0)]),oN (.st 6 (.t 2) (.t 6))] none [2,0]) (.seq (.region [oI 7 (.mov (.t 0)),oI 8 (.call 55 0 true [(.t 7),(.c (.int .i64 1))]),oI 3 (.mov (.t 8))] none [3,2,0]) (.seq (.region [oI 9 (.mov (.t 3)),oI 10 (.bin .lss (.t 9) (.c (.int .i64 64))),oI 11 (.call 53 0 true [(.t 10),(.c (.int .i64 129))])] none [3,2,0]) (.seq (.region [oI 12 (.mov (.t 3)),oI 13 (.bin .and (.t 12) (.c (.int .i64 3))),oI 14 (.mov (.t 3)),oI 15 (.bin .quo (.t 14) (.c (.int .i64 16))),oI 16 (.faddr 1 (.t 2)),oN (.st 1 (.t 16) (.t 13)),oI 17 (.faddr 4 (.t 2)),oN (.st 1 (.t 17) (.t 15))] none [3,2,0]) (.seq (.region [oI 18 (.mov (.t 3)),oI 19 (.bin .and (.t 18) (.c (.int .i64 4))),oI 20 (.bin .neq (.t 19) (.c (.int .i64 0))),oI 21 (.mov (.t 3)),oI 22 (.bin .and (.t 21) (.c (.int .i64 8))),oI 23 (.bin .neq (.t 22) (.c (.int .i64 0))),oI 24 (.faddr 2 (.t 2)),oN (.st 1 (.t 24) (.t 20)),oI 25 (.faddr 3 (.t 2)),oN (.st 1 (.t 25) (.t 23))] none [2,0]) (.seq (.region [oI 26 (.faddr 1 (.t 2)),oI 27 (.ld none (.t 26)),oI 28 (.bin .lss (.t 27) (.c (.int .i64 3))),oI 29 (.mov (.t 28)),⟨(some 30),(.faddr 4 (.t 2)),(some (29,true)),[]⟩,⟨(some 31),(.ld none (.t 30)),(some (29,true)),[]⟩,⟨(some 32),(.bin .lss (.t 31) (.c (.int .i64 3))),(some (29,true)),[]⟩,oI 33 (.pick (.t 29) (.t 32) (.c (.bool false))),oI 34 (.call 53 0 true [(.t 33),(.c (.int .i64 130))])] none [2,0]) (.region [oI 35 (.mov (.t 0)),oI 36 (.mov (.t 0)),oI 37 (.nilchk (.t 36)),oI 38 (.faddr 0 (.t 37)),oI 39 (.faddr 10 (.t 38)),oI 40 (.ld none (.t 39)),oI 41 (.ld (some 6) (.t 2)),oI 42 (.bslice false 6 1 (.agg [(.str []),(.int .i64 0),(.bool false),(.bool false),(.int .i64 0),(.int .i64 0)]) [(0,(.t 41))]),oI 43 (.app 6 48 (.agg [(.str []),(.int .i64 0),(.bool false),(.bool false),(.int .i64 0),(.int .i64 0)]) (.t 40) (.t 42)),oI 44 (.nilchk (.t 35)),oI 45 (.faddr 0 (.t 44)),oI 46 (.faddr 10 (.t 45)),oN (.st 1 (.t 46) (.t 43))] (some [(5,6),(5,7)]) [])))))))
def Zni:ZE:=⟨[],ZcN⟩
theorem Zdd:FC 62=some Zni:=by kernel_rfl
theorem Zdr:Zni.body=ZcN:=rfl
theorem ZuG:Zni.res=[]:=rfl
def ZgI:Zf:=(.seq (.region [oI 2 (.mov (.c (.str [])))] none [0]) (.seq (.region [oI 7 (.mov (.t 0)),oI 8 (.nilchk (.t 7)),oI 9 (.faddr 26 (.t 8)),oI 10 (.ld none (.t 9)),oI 11 (.call 99 0 true [(.t 10)]),oI 6 (.mov (.t 11)),oI 12 (.ext (.t 6) 0),oI 13 (.ext (.t 6) 1),oI 14 (.ext (.t 6) 2),oI 3 (.mov (.t 12)),oI 4 (.mov (.t 13)),oI 5 (.mov (.t 14))] none [5,4,3,0]) (.seq (.region [oI 15 (.mov (.t 5)),oI 16 (.bin .eql (.t 15) (.c (.int .i64 0))),oI 17 (.call 53 0 true [(.t 16),(.c (.int .i64 129))])] none [4,3,0]) (.seq (.region [oI 18 (.mov (.t 0)),oI 19 (.mov (.t 0)),oI 20 (.nilchk (.t 19)),oI 21 (.faddr 26 (.t 20)),oI 22 (.ld none (.t 21)),oI 23 (.mov (.t 4)),oI 24 (.slice 1 (.t 22) (some (.t 23)) none none),oI 25 (.nilchk (.t 18)),oI 26 (.faddr 26 (.t 25)),oN (.st 1 (.t 26) (.t 24))] none [3]) (.seq (.region [oI 27 (.mov (.t 3)),oI 2 (.mov (.t 27))] none [2]) .ret)))))
def Zm9:ZE:=⟨[(.tmp 2)],ZgI⟩
theorem Zkm:FC 64=some Zm9:=by kernel_rfl
theorem ZjT:Zm9.body=ZgI:=rfl
theorem Zuw:Zm9.res=[(.tmp 2)]:=rfl
def Zj9:Zf:=(.seq (.region [oI 76 (.bin .lss (.t 75) (.t 74))] none [76,75,74,73,0]) (.seq (.cond (.t 76) .skip (.exit 1)) (.seq (.block 2 (.seq (.region [oI 77 (.iaddr 6 (.t 73) (.t 75)),oI 78 (.ld (some 6) (.t 77)),oI 5 (.alloc [(.str []),(.int .i64 0),(.bool false),(.bool false),(.int .i64 0),(.int .i64 0)]),oN (.st 6 (.t 5) (.t 78))] none [75,74,73,5,0]) (.seq (.region [oI 79 (.mov (.t 0)),oI 80 (.faddr 0 (.t 5)),oI 81 (.ld none (.t 80)),oI 82 (.call 81 1 true [(.t 79),(.t 81)])] none [75,74,73,5,0]) (.region [oI 83 (.mov (.t 0)),oI 84 (.faddr 1 (.t 5)),oI 85 (.ld none (.t 84)),oI 86 (.bin .and (.t 85) (.c (.int .i64 3))),oI 87 (.faddr 2 (.t 5)),oI 88 (.ld none (.t 87)),oI 89 (.call 42 0 true [(.t 88),(.c (.int .i64 4))]),oI 90 (.bin .add (.t 86) (.t 89)),oI 91 (.faddr 3 (.t 5)),oI 92 (.ld none (.t 91)),oI 93 (.call 42 0 true [(.t 92),(.c (.int .i64 8))]),oI 94 (.bin .add (.t 90) (.t 93)),oI 95 (.faddr 4 (.t 5)),oI 96 (.ld none (.t 95)),oI 97 (.bin .and (.t 96) (.c (.int .i64 3))),oI 98 (.bin .mul (.t 97) (.c (.int .i64 16))),oI 99 (.bin .add (.t 94) (.t 98)),oI 100 (.call 79 1 true [(.t 83),(.t 99),(.c (.int .i64 1))])] (some [(2,5),(2,6),(2,9),(5,9),(6,9),(2,10),(2,13),(5,13),(6,13),(9,13),(10,13),(17,17)]) [75,74,73,0])))) (.region [oI 101 (.bin .add (.t 75) (.c (.int .i64 1))),oI 75 (.mov (.t 101))] none [75,74,73,0]))))
def ZpR:Zf:=Zj9
def Zkj:Zf:=(.seq (.region [oI 111 (.bin .lss (.t 110) (.t 109))] none [111,110,109,108,0]) (.seq (.cond (.t 111) .skip (.exit 3)) (.seq (.block 4 (.seq (.region [oI 112 (.iaddr 1 (.t 108) (.t 110)),oI 113 (.ld none (.t 112)),oI 7 (.mov (.t 113))] none [110,109,108,7,0]) (.region [oI 114 (.mov (.t 0)),oI 115 (.mov (.t 7)),oI 116 (.call 81 1 true [(.t 114),(.t 115)])] none [110,109,108,0]))) (.region [oI 117 (.bin .add (.t 110) (.c (.int .i64 1))),oI 110 (.mov (.t 117))] none [110,109,108,0]))))
def Zl0:Zf:=Zkj
def Zlc:Zf:=(.seq (.region [oI 128 (.bin .lss (.t 127) (.t 126))] none [128,127,126,125,0]) (.seq (.cond (.t 128) .skip (.exit 5)) (.seq (.block 6 (.seq (.region [oI 129 (.iaddr 1 (.t 125) (.t 127)),oI 130 (.ld none (.t 129)),oI 9 (.mov (.t 130))] none [127,126,125,9,0]) (.region [oI 131 (.mov (.t 0)),oI 132 (.mov (.t 9)),oI 133 (.call 79 1 true [(.t 131),(.t 132),(.c (.int .i64 1))])] none [127,126,125,0]))) (.region [oI 134 (.bin .add (.t 127) (.c (.int .i64 1))),oI 127 (.mov (.t 134))] none [127,126,125,0]))))
def Zph:Zf:=Zlc
def Zc9:Zf:=(.seq (.region [oI 3 (.box (.t 1))] none [3,0]) (.seq (.region [oI 10 (.faddr 0 (.t 3)),oI 11 (.ld none (.t 10))] none [11,3,0]) (.block 0 (.seq (.region [oI 13 (.bin .eql (.t 11) (.c (.int .i64 1))),oI 12 (.mov (.t 13))] none [12,11,3,0]) (.cond (.t 12) (.region [oI 14 (.mov (.t 0)),oI 15 (.ld (some 26) (.t 3)),oI 16 (.call 78 1 true [(.t 14),(.t 15)])] none []) (.seq (.region [oI 18 (.bin .eql (.t 11) (.c (.int .i64 2))),oI 17 (.mov (.t 18))] none [17,11,3,0]) (.cond (.t 17) (.seq (.region [oI 19 (.mov (.t 0)),oI 20 (.faddr 25 (.t 3)),oI 21 (.ld none (.t 20)),oI 22 (.call 42 0 true [(.t 21),(.c (.int .i64 1))]),oI 23 (.call 79 1 true [(.t 19),(.t 22),(.c (.int .i64 1))])] none [3,0]) (.seq (.region [oI 24 (.mov (.t 0)),oI 25 (.faddr 7 (.t 3)),oI 26 (.ld none (.t 25)),oI 27 (.call 79 1 true [(.t 24),(.t 26),(.c (.int .i64 1))])] none [3,0]) (.region [oI 28 (.mov (.t 0)),oI 29 (.faddr 9 (.t 3)),oI 30 (.ld none (.t 29)),oI 31 (.call 80 1 true [(.t 28),(.c (.int .i64 2)),(.t 30)])] none []))) (.seq (.region [oI 33 (.bin .eql (.t 11) (.c (.int .i64 3))),oI 32 (.mov (.t 33))] none [32,11,3,0]) (.cond (.t 32) (.seq (.region [oI 34 (.mov (.t 0)),oI 35 (.faddr 5 (.t 3)),oI 36 (.ld none (.t 35)),oI 37 (.call 81 1 true [(.t 34),(.t 36)])] none [3,0]) (.seq (.seq (.region [oI 38 (.faddr 2 (.t 3)),oI 39 (.ld none (.t 38)),oI 40 (.bin .gtr (.t 39) (.c (.int .i64 0)))] none [40,3,0]) (.cond (.t 40) (.region [oI 41 (.mov (.t 0)),oI 42 (.faddr 4 (.t 3)),oI 43 (.ld none (.t 42)),oI 44 (.call 79 1 true [(.t 41),(.t 43),(.c (.int .i64 2))])] none [3,0]) .skip)) (.seq (.region [oI 45 (.mov (.t 0)),oI 46 (.faddr 9 (.t 3)),oI 47 (.ld none (.t 46)),oI 48 (.call 80 1 true [(.t 45),(.c (.int .i64 3)),(.t 47)])] none [3,0]) (.region [oI 49 (.mov (.t 0)),oI 50 (.nilchk (.t 49)),oI 51 (.faddr 0 (.t 50)),oI 52 (.faddr 6 (.t 3)),oI 53 (.ld none (.t 52)),oI 54 (.call 82 1 true [(.t 51),(.t 53)])] (some [(5,5)]) [])))) (.seq (.seq (.region [oI 56 (.bin .eql (.t 11) (.c (.int .i64 4))),oI 55 (.mov (.t 56))] none [55,11,3,0]) (.cond (.t 55) .skip (.seq (.region [oI 57 (.bin .eql (.t 11) (.c (.int .i64 5))),oI 55 (.mov (.t 57))] none [55,11,3,0]) (.cond (.t 55) .skip (.seq (.region [oI 58 (.bin .eql (.t 11) (.c (.int .i64 6))),oI 55 (.mov (.t 58))] none [55,11,3,0]) (.cond (.t 55) .skip (.region [oI 59 (.bin .eql (.t 11) (.c (.int .i64 7))),oI 55 (.mov (.t 59))] none [55,11,3,0]))))))) (.cond (.t 55) (.seq (.region [oI 60 (.mov (.t 0)),oI 61 (.faddr 4 (.t 3)),oI 62 (.ld none (.t 61)),oI 63 (.call 79 1 true [(.t 60),(.t 62),(.c (.int .i64 2))])] none [3,0]) (.region [oI 64 (.mov (.t 0)),oI 65 (.ld (some 26) (.t 3)),oI 66 (.call 83 1 true [(.t 64),(.t 65)])] none [])) (.seq (.region [oI 68 (.bin .eql (.t 11) (.c (.int .i64 8))),oI 67 (.mov (.t 68))] none [67,11,3,0]) (.cond (.t 67) (.seq (.region [oI 69 (.mov (.t 0)),oI 70 (.ld (some 26) (.t 3)),oI 71 (.call 84 1 true [(.t 69),(.t 70)])] none [3,0]) (.seq (.region [oI 72 (.faddr 10 (.t 3)),oI 73 (.ld none (.t 72)),oI 74 (.len (.t 73)),oI 75 (.mov (.c (.int .i64 0)))] none [75,74,73,0]) (.block 1 (.loop [75,74,73,0] ZpR)))) (.seq (.region [oI 103 (.bin .eql (.t 11) (.c (.int .i64 10))),oI 102 (.mov (.t 103))] none [102,11,3,0]) (.cond (.t 102) (.seq (.region [oI 104 (.mov (.t 0)),oI 105 (.ld (some 26) (.t 3)),oI 106 (.call 84 1 true [(.t 104),(.t 105)])] none [3,0]) (.seq (.region [oI 107 (.faddr 11 (.t 3)),oI 108 (.ld none (.t 107)),oI 109 (.len (.t 108)),oI 110 (.mov (.c (.int .i64 0)))] none [110,109,108,0]) (.block 3 (.loop [110,109,108,0] Zl0)))) (.seq (.seq (.region [oI 119 (.bin .eql (.t 11) (.c (.int .i64 9))),oI 118 (.mov (.t 119))] none [118,11,3,0]) (.cond (.t 118) .skip (.region [oI 120 (.bin .eql (.t 11) (.c (.int .i64 11))),oI 118 (.mov (.t 120))] none [118,11,3,0]))) (.cond (.t 118) (.seq (.region [oI 121 (.mov (.t 0)),oI 122 (.ld (some 26) (.t 3)),oI 123 (.call 84 1 true [(.t 121),(.t 122)])] none [3,0]) (.seq (.region [oI 124 (.faddr 8 (.t 3)),oI 125 (.ld none (.t 124)),oI 126 (.len (.t 125)),oI 127 (.mov (.c (.int .i64 0)))] none [127,126,125,0]) (.block 5 (.loop [127,126,125,0] Zph)))) (.seq (.seq (.region [oI 136 (.bin .eql (.t 11) (.c (.int .i64 14))),oI 135 (.mov (.t 136))] none [135,11,3,0]) (.cond (.t 135) .skip (.region [oI 137 (.bin .eql (.t 11) (.c (.int .i64 15))),oI 135 (.mov (.t 137))] none [135,3,0]))) (.cond (.t 135) (.region [oI 138 (.mov (.t 0)),oI 139 (.ld (some 26) (.t 3)),oI 140 (.call 83 1 true [(.t 138),(.t 139)])] none []) .skip)))))))))))))))))))
def Zhj:ZE:=⟨[],Zc9⟩
theorem ZdY:FC 39=some Zhj:=by kernel_rfl
theorem ZdD:Zhj.body=Zc9:=rfl
theorem ZdO:Zhj.res=[]:=rfl
def Zeu:Zf:=(.seq (.region [oI 3 (.box (.t 1))] none [3,0]) (.seq (.region [oI 4 (.mov (.t 0)),oI 5 (.call 81 1 true [(.t 4),(.c (.str [77,81,84,84]))])] none [3,0]) (.seq (.region [oI 6 (.mov (.t 0)),oI 7 (.call 79 1 true [(.t 6),(.c (.int .i64 5)),(.c (.int .i64 1))])] none [3,0]) (.seq (.region [oI 8 (.mov (.t 0)),oI 9 (.faddr 12 (.t 3)),oI 10 (.ld none (.t 9)),oI 11 (.call 42 0 true [(.t 10),(.c (.int .i64 2))]),oI 12 (.faddr 15 (.t 3)),oI 13 (.ld none (.t 12)),oI 14 (.call 42 0 true [(.t 13),(.c (.int .i64 4))]),oI 15 (.bin .add (.t 11) (.t 14)),oI 16 (.faddr 16 (.t 3)),oI 17 (.faddr 2 (.t 16)),oI 18 (.ld none (.t 17)),oI 19 (.bin .and (.t 18) (.c (.int .i64 3))),oI 20 (.bin .mul (.t 19) (.c (.int .i64 8))),oI 21 (.bin .add (.t 15) (.t 20)),oI 22 (.faddr 16 (.t 3)),oI 23 (.faddr 3 (.t 22)),oI 24 (.ld none (.t 23)),oI 25 (.call 42 0 true [(.t 24),(.c (.int .i64 32))]),oI 26 (.bin .add (.t 21) (.t 25)),oI 27 (.faddr 23 (.t 3)),oI 28 (.ld none (.t 27)),oI 29 (.call 42 0 true [(.t 28),(.c (.int .i64 64))]),oI 30 (.bin .add (.t 26) (.t 29)),oI 31 (.faddr 21 (.t 3)),oI 32 (.ld none (.t 31)),oI 33 (.call 42 0 true [(.t 32),(.c (.int .i64 128))]),oI 34 (.bin .add (.t 30) (.t 33)),oI 35 (.call 79 1 true [(.t 8),(.t 34),(.c (.int .i64 1))])] (some [(2,5),(3,5),(2,10),(3,10),(5,10),(6,10),(2,16),(3,16),(5,16),(6,16),(10,16),(10,17),(2,20),(3,20),(5,20),(6,20),(10,20),(16,20),(17,20),(10,21),(2,24),(3,24),(5,24),(6,24),(10,24),(16,24),(17,24),(20,24),(21,24),(10,25),(25,25),(27,27)]) [3,0]) (.seq (.region [oI 36 (.mov (.t 0)),oI 37 (.faddr 13 (.t 3)),oI 38 (.ld none (.t 37)),oI 39 (.call 79 1 true [(.t 36),(.t 38),(.c (.int .i64 2))])] none [3,0]) (.seq (.region [oI 40 (.mov (.t 0)),oI 41 (.faddr 9 (.t 3)),oI 42 (.ld none (.t 41)),oI 43 (.call 80 1 true [(.t 40),(.c (.int .i64 1)),(.t 42)])] none [3,0]) (.seq (.region [oI 44 (.mov (.t 0)),oI 45 (.faddr 14 (.t 3)),oI 46 (.ld none (.t 45)),oI 47 (.call 81 1 true [(.t 44),(.t 46)])] none [3,0]) (.seq (.seq (.region [oI 48 (.faddr 15 (.t 3)),oI 49 (.ld none (.t 48))] none [49,3,0]) (.cond (.t 49) (.seq (.region [oI 50 (.mov (.t 0)),oI 51 (.faddr 16 (.t 3)),oI 52 (.faddr 4 (.t 51)),oI 53 (.ld none (.t 52)),oI 54 (.call 80 1 true [(.t 50),(.c (.int .i64 16)),(.t 53)])] none [3,0]) (.seq (.region [oI 55 (.mov (.t 0)),oI 56 (.faddr 16 (.t 3)),oI 57 (.faddr 0 (.t 56)),oI 58 (.ld none (.t 57)),oI 59 (.call 81 1 true [(.t 55),(.t 58)])] none [3,0]) (.region [oI 60 (.mov (.t 0)),oI 61 (.faddr 16 (.t 3)),oI 62 (.faddr 1 (.t 61)),oI 63 (.ld none (.t 62)),oI 64 (.call 105 1 true [(.t 60),(.t 63)])] none [3,0]))) .skip)) (.seq (.seq (.region [oI 65 (.faddr 21 (.t 3)),oI 66 (.ld none (.t 65))] none [66,3,0]) (.cond (.t 66) (.region [oI 67 (.mov (.t 0)),oI 68 (.faddr 22 (.t 3)),oI 69 (.ld none (.t 68)),oI 70 (.call 81 1 true [(.t 67),(.t 69)])] none [3,0]) .skip)) (.seq (.region [oI 71 (.faddr 23 (.t 3)),oI 72 (.ld none (.t 71))] none [72,3,0]) (.cond (.t 72) (.region [oI 73 (.mov (.t 0)),oI 74 (.faddr 24 (.t 3)),oI 75 (.ld none (.t 74)),oI 76 (.call 105 1 true [(.t 73),(.t 75)])] none []) .skip)))))))))))
def ZoW:ZE:=⟨[],Zeu⟩
theorem ZGk:FC 78=some ZoW:=by kernel_rfl
theorem Ze9:ZoW.body=Zeu:=rfl
theorem Zfw:ZoW.res=[]:=rfl
def ZlS:Zf:=(.seq (.region [oI 7 (.mov (.t 1)),oI 8 (.call 127 0 true [(.t 7)]),oI 6 (.mov (.t 8)),oI 9 (.ext (.t 6) 0),oI 10 (.ext (.t 6) 1),oI 4 (.mov (.t 9)),oI 5 (.mov (.t 10))] none [4,0]) (.region [oI 11 (.mov (.t 0)),oI 12 (.nilchk (.t 11)),oI 13 (.faddr 0 (.t 12)),oI 14 (.mov (.t 4)),oI 15 (.call 82 1 true [(.t 13),(.t 14)])] none []))
def Zpe:ZE:=⟨[],ZlS⟩
theorem ZBq:FC 105=some Zpe:=by kernel_rfl
theorem ZBu:Zpe.body=ZlS:=rfl
theorem ZCH:Zpe.res=[]:=rfl
def Zmi:Zf:=(.seq (.region [oI 3 (.box (.t 1))] none [3,0]) (.seq (.region [oI 4 (.mov (.t 0)),oI 5 (.faddr 4 (.t 3)),oI 6 (.ld none (.t 5)),oI 7 (.call 79 1 true [(.t 4),(.t 6),(.c (.int .i64 2))])] none [3,0]) (.region [oI 8 (.mov (.t 0)),oI 9 (.faddr 0 (.t 3)),oI 10 (.ld none (.t 9)),oI 11 (.faddr 9 (.t 3)),oI 12 (.ld none (.t 11)),oI 13 (.call 80 1 true [(.t 8),(.t 10),(.t 12)])] none [])))
def ZnC:ZE:=⟨[],Zmi⟩
theorem ZBr:FC 84=some ZnC:=by kernel_rfl
theorem ZLg:ZnC.body=Zmi:=rfl
theorem ZL3:ZnC.res=[]:=rfl
def Zlb:Zf:=(.region [oI 6 (.mov (.t 0)),oI 7 (.nilchk (.t 6)),oI 8 (.faddr 0 (.t 7)),oI 9 (.mov (.t 1)),oI 10 (.i2i .u64 (.t 9)),oI 11 (.mov (.t 2)),oI 12 (.call 106 0 true [(.t 10),(.t 11)]),oI 13 (.call 82 1 true [(.t 8),(.t 12)])] (some [(6,6),(7,7)]) [])
def ZoA:ZE:=⟨[],Zlb⟩
theorem Zp2:FC 79=some ZoA:=by kernel_rfl
theorem ZtT:ZoA.body=Zlb:=rfl
theorem ZqS:ZoA.res=[]:=rfl
def ZnZ:Zf:=(.seq (.region [oI 9 (.mov (.t 1)),oI 10 (.mov (.t 2)),oI 11 (.call 107 0 true [(.t 9),(.t 10)]),oI 8 (.mov (.t 11)),oI 12 (.ext (.t 8) 0),oI 13 (.ext (.t 8) 1),oI 6 (.mov (.t 12)),oI 7 (.mov (.t 13))] none [6,0]) (.region [oI 14 (.mov (.t 0)),oI 15 (.nilchk (.t 14)),oI 16 (.faddr 0 (.t 15)),oI 17 (.mov (.t 6)),oI 18 (.call 82 1 true [(.t 16),(.t 17)])] none []))
def Zpg:ZE:=⟨[],ZnZ⟩
theorem ZzN:FC 80=some Zpg:=by kernel_rfl
theorem ZDn:Zpg.body=ZnZ:=rfl
theorem ZGN:Zpg.res=[]:=rfl
def Zeo:Zf:=(.seq (.region [oI 3 (.box (.t 1))] none [3,0]) (.seq (.seq (.region [oI 4 (.faddr 7 (.t 3)),oI 5 (.ld none (.t 4)),oI 6 (.bin .neq (.t 5) (.c (.int .i64 0))),oI 7 (.mov (.t 6)),⟨(some 8),(.faddr 9 (.t 3)),(some (7,false)),[]⟩,⟨(some 9),(.ld none (.t 8)),(some (7,false)),[]⟩,⟨(some 10),(.len (.t 9)),(some (7,false)),[]⟩,⟨(some 11),(.bin .gtr (.t 10) (.c (.int .i64 0))),(some (7,false)),[]⟩,oI 12 (.pick (.t 7) (.c (.bool true)) (.t 11))] none [12,3,0]) (.cond (.t 12) (.region [oI 13 (.mov (.t 0)),oI 14 (.faddr 7 (.t 3)),oI 15 (.ld none (.t 14)),oI 16 (.call 79 1 true [(.t 13),(.t 15),(.c (.int .i64 1))])] none [3,0]) .skip)) (.seq (.region [oI 17 (.faddr 9 (.t 3)),oI 18 (.ld none (.t 17)),oI 19 (.len (.t 18)),oI 20 (.bin .gtr (.t 19) (.c (.int .i64 0)))] none [20,3,0]) (.cond (.t 20) (.region [oI 21 (.mov (.t 0)),oI 22 (.faddr 0 (.t 3)),oI 23 (.ld none (.t 22)),oI 24 (.faddr 9 (.t 3)),oI 25 (.ld none (.t 24)),oI 26 (.call 80 1 true [(.t 21),(.t 23),(.t 25)])] none []) .skip))))
def Zon:ZE:=⟨[],Zeo⟩
theorem Ztd:FC 83=some Zon:=by kernel_rfl
theorem ZfM:Zon.body=Zeo:=rfl
theorem ZfC:Zon.res=[]:=rfl
def Zj2:Zf:=(.seq (.region [oI 7 (.mov (.t 1)),oI 8 (.call 108 0 true [(.t 7)]),oI 6 (.mov (.t 8)),oI 9 (.ext (.t 6) 0),oI 10 (.ext (.t 6) 1),oI 4 (.mov (.t 9)),oI 5 (.mov (.t 10))] none [4,0]) (.region [oI 11 (.mov (.t 0)),oI 12 (.nilchk (.t 11)),oI 13 (.faddr 0 (.t 12)),oI 14 (.mov (.t 4)),oI 15 (.call 82 1 true [(.t 13),(.t 14)])] none []))
def Zl3:ZE:=⟨[],Zj2⟩
theorem ZsD:FC 81=some Zl3:=by kernel_rfl
theorem ZsL:Zl3.body=Zj2:=rfl
theorem Zsd:Zl3.res=[]:=rfl
def ZmD:Zf:=(.seq (.region [oI 3 (.box (.t 1)),oI 4 (.mov (.c (.bool false)))] none [3,0]) (.seq (.region [oI 5 (.mov (.t 0)),oI 6 (.call 50 0 true [(.t 5)]),oI 7 (.mkfn 51 [(.t 3)]),oI 8 (.call 49 0 true [(.t 6),(.t 7)]),oI 4 (.mov (.t 8))] none [4]) .ret))
def ZpZ:ZE:=⟨[(.tmp 4)],ZmD⟩
theorem ZE1:FC 23=some ZpZ:=by kernel_rfl
theorem Zwi:ZpZ.body=ZmD:=rfl
theorem ZBS:ZpZ.res=[(.tmp 4)]:=rfl
def Zj4:Zf:=(.seq (.region [oI 2 (.box (.t 0)),oI 3 (.mov (.c (.bool false)))] none [2,1]) (.seq (.region [oI 4 (.ld none (.t 1)),oI 5 (.faddr 0 (.t 2)),oI 6 (.ld none (.t 5)),oI 7 (.bin .geq (.t 4) (.t 6)),oI 8 (.mov (.t 7)),⟨(some 9),(.ld none (.t 1)),(some (8,true)),[]⟩,⟨(some 10),(.faddr 1 (.t 2)),(some (8,true)),[]⟩,⟨(some 11),(.ld none (.t 10)),(some (8,true)),[]⟩,⟨(some 12),(.bin .leq (.t 9) (.t 11)),(some (8,true)),[]⟩,oI 13 (.pick (.t 8) (.t 12) (.c (.bool false))),oI 3 (.mov (.t 13))] none [3]) .ret))
def ZlY:ZE:=⟨[(.tmp 3)],Zj4⟩
theorem ZHz:FC 51=some ZlY:=by kernel_rfl
theorem Zti:ZlY.body=Zj4:=rfl
theorem ZsK:ZlY.res=[(.tmp 3)]:=rfl
def Zb9:Zf:=(.seq (.region [oI 1 (.box (.t 0)),oI 2 (.alloc [(.int .u8 0),(.lst true [])]),oI 3 (.mov (.c (.int .i64 0)))] none [2,1]) (.seq (.region [oI 10 (.build [(.lst true []),(.int .i64 0),(.int .i8 0)] []),oI 11 (.box (.t 10)),oI 4 (.mov (.t 11))] none [4,2,1]) (.seq (.region [oI 12 (.mov (.t 4)),oI 13 (.ld (some 26) (.t 1)),oI 14 (.call 39 1 true [(.t 12),(.t 13)])] none [4,2,1]) (.seq (.region [oI 15 (.faddr 0 (.t 1)),oI 16 (.ld none (.t 15)),oI 17 (.bin .shl (.t 16) (.c (.int .u64 4))),oI 18 (.i2i .u8 (.t 17)),oI 19 (.faddr 0 (.t 1)),oI 20 (.ld none (.t 19)),oI 21 (.call 40 0 true [(.t 20)]),oI 22 (.bin .or (.t 18) (.t 21)),oI 23 (.mov (.t 4)),oI 24 (.nilchk (.t 23)),oI 25 (.faddr 0 (.t 24)),oI 26 (.call 41 0 true [(.t 25)]),oI 27 (.bslice false 1 1 (.lst true []) [(0,(.t 26))]),oI 28 (.call 37 0 true [(.t 27)]),oI 29 (.build [(.int .u8 0),(.lst true [])] [(0,1,(.t 22)),(1,1,(.t 28))]),oI 5 (.alloc [(.int .u8 0),(.lst true [])]),oN (.st 2 (.t 5) (.t 29))] (some [(1,5),(1,6),(1,11),(1,12),(1,13),(1,15),(5,15),(6,15),(11,15),(12,15),(13,15)]) [5,2,1]) (.seq (.seq (.region [oI 30 (.faddr 0 (.t 1)),oI 31 (.ld none (.t 30)),oI 32 (.bin .eql (.t 31) (.c (.int .i64 3)))] none [32,5,2,1]) (.cond (.t 32) (.region [oI 33 (.faddr 0 (.t 5)),oI 34 (.ld none (.t 33)),oI 35 (.faddr 1 (.t 1)),oI 36 (.ld none (.t 35)),oI 37 (.call 42 0 true [(.t 36),(.c (.int .i64 8))]),oI 38 (.faddr 2 (.t 1)),oI 39 (.ld none (.t 38)),oI 40 (.bin .and (.t 39) (.c (.int .i64 3))),oI 41 (.bin .mul (.t 40) (.c (.int .i64 2))),oI 42 (.bin .add (.t 37) (.t 41)),oI 43 (.faddr 3 (.t 1)),oI 44 (.ld none (.t 43)),oI 45 (.call 42 0 true [(.t 44),(.c (.int .i64 1))]),oI 46 (.bin .add (.t 42) (.t 45)),oI 47 (.i2i .u8 (.t 46)),oI 48 (.bin .or (.t 34) (.t 47)),oI 49 (.faddr 0 (.t 5)),oN (.st 1 (.t 49) (.t 48))] (some [(1,3),(1,4),(1,6),(3,6),(4,6),(1,11),(3,11),(4,11),(6,11),(1,12),(6,12),(12,12)]) [5,2,1]) .skip)) (.seq (.region [oI 51 (.ld (some 2) (.t 5)),oI 52 (.call 8 0 true [(.t 51)]),oI 50 (.mov (.t 52)),oI 53 (.ext (.t 50) 0),oI 54 (.ext (.t 50) 1),oI 6 (.alloc [(.int .i64 0),(.bool false),(.int .i64 0),(.bool false),(.int .i64 0),(.str []),(.lst true []),(.int .i64 0),(.lst true []),(.lst true []),(.lst true []),(.lst true []),(.bool false),(.int .i64 0),(.str []),(.bool false),(.str []),(.lst true []),(.int .i64 0),(.bool false),(.lst true []),(.bool false),(.str []),(.bool false),(.lst true []),(.bool false)]),oN (.st 26 (.t 6) (.t 53)),oI 7 (.mov (.t 54))] none [7,6,5,2,1]) (.seq (.seq (.region [oI 56 (.faddr 1 (.t 5)),oI 57 (.ld none (.t 56)),oI 58 (.len (.t 57)),oI 59 (.call 36 0 true [(.t 58)]),oI 55 (.mov (.t 59)),oI 60 (.ext (.t 55) 0),oI 61 (.ext (.t 55) 1),oI 8 (.mov (.t 60)),oI 9 (.mov (.t 61))] none [9,7,6,5,2,1]) (.seq (.region [oI 62 (.mov (.t 9)),oI 63 (.bin .neq (.t 62) (.c (.int .i64 0))),oI 64 (.mov (.t 63)),⟨(some 65),(.mov (.t 7)),(some (64,false)),[]⟩,⟨(some 66),(.bin .neq (.t 65) (.c (.int .i64 0))),(some (64,false)),[]⟩,oI 67 (.pick (.t 64) (.c (.bool true)) (.t 66)),oI 68 (.mov (.t 67)),⟨(some 69),(.ld (some 26) (.t 6)),(some (68,false)),[]⟩,⟨(some 70),(.ld (some 26) (.t 1)),(some (68,false)),[]⟩,⟨(some 71),(.call 22 0 true [(.t 69),(.t 70)]),(some (68,false)),[]⟩,⟨(some 72),(.un .not (.t 71)),(some (68,false)),[]⟩,oI 73 (.pick (.t 68) (.c (.bool true)) (.t 72))] none [73,5,2]) (.cond (.t 73) (.seq (.region [oI 74 (.build [(.int .u8 0),(.lst true [])] []),oN (.st 2 (.t 2) (.t 74)),oI 3 (.mov (.c (.int .i64 129)))] none [3,2]) .ret) .skip))) (.seq (.region [oI 75 (.ld (some 2) (.t 5)),oN (.st 2 (.t 2) (.t 75)),oI 3 (.mov (.c (.int .i64 0)))] none [3,2]) .ret))))))))
def Zo9:ZE:=⟨[(.cell 2 (some 2)),(.tmp 3)],Zb9⟩
theorem ZlO:FC 19=some Zo9:=by kernel_rfl
theorem Zci:Zo9.body=Zb9:=rfl
theorem Zch:Zo9.res=[(.cell 2 (some 2)),(.tmp 3)]:=rfl
def Zlh:Zf:=(.seq (.region [oI 1 (.box (.t 0)),oI 2 (.mov (.c (.lst true []))),oI 3 (.mov (.c (.int .i64 0)))] none [1]) (.seq (.region [oI 9 (.ld (some 26) (.t 1)),oI 10 (.call 19 0 true [(.t 9)]),oI 8 (.mov (.t 10)),oI 11 (.ext (.t 8) 0),oI 12 (.ext (.t 8) 1),oI 4 (.alloc [(.int .u8 0),(.lst true [])]),oN (.st 2 (.t 4) (.t 11)),oI 5 (.mov (.t 12))] none [5,4]) (.seq (.seq (.region [oI 13 (.mov (.t 5)),oI 14 (.bin .neq (.t 13) (.c (.int .i64 0)))] none [14,5,4]) (.cond (.t 14) (.seq (.region [oI 15 (.mov (.t 5)),oI 2 (.mov (.c (.lst true []))),oI 3 (.mov (.t 15))] none [3,2]) .ret) .skip)) (.seq (.region [oI 17 (.faddr 1 (.t 4)),oI 18 (.ld none (.t 17)),oI 19 (.len (.t 18)),oI 20 (.call 36 0 true [(.t 19)]),oI 16 (.mov (.t 20)),oI 21 (.ext (.t 16) 0),oI 22 (.ext (.t 16) 1),oI 6 (.mov (.t 21)),oI 7 (.mov (.t 22))] none [6,4]) (.seq (.region [oI 23 (.faddr 0 (.t 4)),oI 24 (.ld none (.t 23)),oI 25 (.bslice false 1 1 (.int .u8 0) [(0,(.t 24))]),oI 26 (.mov (.t 6)),oI 27 (.faddr 1 (.t 4)),oI 28 (.ld none (.t 27)),oI 29 (.bslice false 1 3 (.lst true []) [(0,(.t 25)),(1,(.t 26)),(2,(.t 28))]),oI 30 (.call 37 0 true [(.t 29)]),oI 2 (.mov (.t 30)),oI 3 (.mov (.c (.int .i64 0)))] none [3,2]) .ret)))))
def Zpp:ZE:=⟨[(.tmp 2),(.tmp 3)],Zlh⟩
theorem ZsA:FC 17=some Zpp:=by kernel_rfl
theorem ZqB:Zpp.body=Zlh:=rfl
theorem ZuN:Zpp.res=[(.tmp 2),(.tmp 3)]:=rfl
def ZpI:Zf:=(.seq (.region [oI 2 (.box (.t 0)),oI 3 (.box (.t 1)),oI 4 (.mov (.c (.bool false)))] none [3,2]) (.seq (.region [oI 9 (.faddr 8 (.t 2)),oI 10 (.ld none (.t 9)),oI 11 (.faddr 8 (.t 3)),oI 12 (.ld none (.t 11)),oI 13 (.call 45 0 true [(.t 10),(.t 12)]),oI 14 (.mov (.t 13)),⟨(some 15),(.faddr 10 (.t 2)),(some (14,true)),[]⟩,⟨(some 16),(.ld none (.t 15)),(some (14,true)),[]⟩,⟨(some 17),(.faddr 10 (.t 3)),(some (14,true)),[]⟩,⟨(some 18),(.ld none (.t 17)),(some (14,true)),[]⟩,⟨(some 19),(.call 46 0 true [(.t 16),(.t 18)]),(some (14,true)),[]⟩,oI 20 (.pick (.t 14) (.t 19) (.c (.bool false))),oI 21 (.mov (.t 20)),⟨(some 22),(.faddr 11 (.t 2)),(some (21,true)),[]⟩,⟨(some 23),(.ld none (.t 22)),(some (21,true)),[]⟩,⟨(some 24),(.faddr 11 (.t 3)),(some (21,true)),[]⟩,⟨(some 25),(.ld none (.t 24)),(some (21,true)),[]⟩,⟨(some 26),(.call 47 0 true [(.t 23),(.t 25)]),(some (21,true)),[]⟩,oI 27 (.pick (.t 21) (.t 26) (.c (.bool false))),oI 28 (.mov (.t 27)),⟨(some 29),(.faddr 9 (.t 2)),(some (28,true)),[]⟩,⟨(some 30),(.ld none (.t 29)),(some (28,true)),[]⟩,⟨(some 31),(.faddr 9 (.t 3)),(some (28,true)),[]⟩,⟨(some 32),(.ld none (.t 31)),(some (28,true)),[]⟩,⟨(some 33),(.call 48 0 true [(.t 30),(.t 32)]),(some (28,true)),[]⟩,oI 34 (.pick (.t 28) (.t 33) (.c (.bool false))),oI 35 (.mov (.t 34)),⟨(some 36),(.faddr 16 (.t 2)),(some (35,true)),[]⟩,⟨(some 37),(.faddr 4 (.t 36)),(some (35,true)),[]⟩,⟨(some 38),(.ld none (.t 37)),(some (35,true)),[]⟩,⟨(some 39),(.faddr 16 (.t 3)),(some (35,true)),[]⟩,⟨(some 40),(.faddr 4 (.t 39)),(some (35,true)),[]⟩,⟨(some 41),(.ld none (.t 40)),(some (35,true)),[]⟩,⟨(some 42),(.call 48 0 true [(.t 38),(.t 41)]),(some (35,true)),[]⟩,oI 43 (.pick (.t 35) (.t 42) (.c (.bool false))),oI 5 (.mov (.t 43))] none [5,3,2]) (.seq (.region [oI 44 (.faddr 6 (.t 2)),oI 45 (.ld none (.t 44)),oI 46 (.b2s (.t 45)),oI 47 (.faddr 6 (.t 3)),oI 48 (.ld none (.t 47)),oI 49 (.b2s (.t 48)),oI 50 (.bin .eql (.t 46) (.t 49)),oI 51 (.mov (.t 50)),⟨(some 52),(.faddr 24 (.t 2)),(some (51,true)),[]⟩,⟨(some 53),(.ld none (.t 52)),(some (51,true)),[]⟩,⟨(some 54),(.b2s (.t 53)),(some (51,true)),[]⟩,⟨(some 55),(.faddr 24 (.t 3)),(some (51,true)),[]⟩,⟨(some 56),(.ld none (.t 55)),(some (51,true)),[]⟩,⟨(some 57),(.b2s (.t 56)),(some (51,true)),[]⟩,⟨(some 58),(.bin .eql (.t 54) (.t 57)),(some (51,true)),[]⟩,oI 59 (.pick (.t 51) (.t 58) (.c (.bool false))),oI 60 (.mov (.t 59)),⟨(some 61),(.faddr 16 (.t 2)),(some (60,true)),[]⟩,⟨(some 62),(.faddr 1 (.t 61)),(some (60,true)),[]⟩,⟨(some 63),(.ld none (.t 62)),(some (60,true)),[]⟩,⟨(some 64),(.b2s (.t 63)),(some (60,true)),[]⟩,⟨(some 65),(.faddr 16 (.t 3)),(some (60,true)),[]⟩,⟨(some 66),(.faddr 1 (.t 65)),(some (60,true)),[]⟩,⟨(some 67),(.ld none (.t 66)),(some (60,true)),[]⟩,⟨(some 68),(.b2s (.t 67)),(some (60,true)),[]⟩,⟨(some 69),(.bin .eql (.t 64) (.t 68)),(some (60,true)),[]⟩,oI 70 (.pick (.t 60) (.t 69) (.c (.bool false))),oI 6 (.mov (.t 70))] none [6,5,3,2]) (.seq (.region [oI 71 (.faddr 16 (.t 2)),oI 72 (.faddr 0 (.t 71)),oI 73 (.ld none (.t 72)),oI 74 (.faddr 16 (.t 3)),oI 75 (.faddr 0 (.t 74)),oI 76 (.ld none (.t 75)),oI 77 (.bin .eql (.t 73) (.t 76)),oI 78 (.mov (.t 77)),⟨(some 79),(.faddr 16 (.t 2)),(some (78,true)),[]⟩,⟨(some 80),(.faddr 2 (.t 79)),(some (78,true)),[]⟩,⟨(some 81),(.ld none (.t 80)),(some (78,true)),[]⟩,⟨(some 82),(.faddr 16 (.t 3)),(some (78,true)),[]⟩,⟨(some 83),(.faddr 2 (.t 82)),(some (78,true)),[]⟩,⟨(some 84),(.ld none (.t 83)),(some (78,true)),[]⟩,⟨(some 85),(.bin .eql (.t 81) (.t 84)),(some (78,true)),[]⟩,oI 86 (.pick (.t 78) (.t 85) (.c (.bool false))),oI 87 (.mov (.t 86)),⟨(some 88),(.faddr 16 (.t 2)),(some (87,true)),[]⟩,⟨(some 89),(.faddr 3 (.t 88)),(some (87,true)),[]⟩,⟨(some 90),(.ld none (.t 89)),(some (87,true)),[]⟩,⟨(some 91),(.faddr 16 (.t 3)),(some (87,true)),[]⟩,⟨(some 92),(.faddr 3 (.t 91)),(some (87,true)),[]⟩,⟨(some 93),(.ld none (.t 92)),(some (87,true)),[]⟩,⟨(some 94),(.beq false (.t 90) (.t 93)),(some (87,true)),[]⟩,oI 95 (.pick (.t 87) (.t 94) (.c (.bool false))),oI 7 (.mov (.t 95))] none [7,6,5,3,2]) (.seq (.region [oI 96 (.faddr 1 (.t 2)),oI 97 (.ld none (.t 96)),oI 98 (.faddr 1 (.t 3)),oI 99 (.ld none (.t 98)),oI 100 (.beq false (.t 97) (.t 99)),oI 101 (.mov (.t 100)),⟨(some 102),(.faddr 3 (.t 2)),(some (101,true)),[]⟩,⟨(some 103),(.ld none (.t 102)),(some (101,true)),[]⟩,⟨(some 104),(.faddr 3 (.t 3)),(some (101,true)),[]⟩,⟨(some 105),(.ld none (.t 104)),(some (101,true)),[]⟩,⟨(some 106),(.beq false (.t 103) (.t 105)),(some (101,true)),[]⟩,oI 107 (.pick (.t 101) (.t 106) (.c (.bool false))),oI 108 (.mov (.t 107)),⟨(some 109),(.faddr 12 (.t 2)),(some (108,true)),[]⟩,⟨(some 110),(.ld none (.t 109)),(some (108,true)),[]⟩,⟨(some 111),(.faddr 12 (.t 3)),(some (108,true)),[]⟩,⟨(some 112),(.ld none (.t 111)),(some (108,true)),[]⟩,⟨(some 113),(.beq false (.t 110) (.t 112)),(some (108,true)),[]⟩,oI 114 (.pick (.t 108) (.t 113) (.c (.bool false))),oI 115 (.mov (.t 114)),⟨(some 116),(.faddr 15 (.t 2)),(some (115,true)),[]⟩,⟨(some 117),(.ld none (.t 116)),(some (115,true)),[]⟩,⟨(some 118),(.faddr 15 (.t 3)),(some (115,true)),[]⟩,⟨(some 119),(.ld none (.t 118)),(some (115,true)),[]⟩,⟨(some 120),(.beq false (.t 117) (.t 119)),(some (115,true)),[]⟩,oI 121 (.pick (.t 115) (.t 120) (.c (.bool false))),oI 122 (.mov (.t 121)),⟨(some 123),(.faddr 21 (.t 2)),(some (122,true)),[]⟩,⟨(some 124),(.ld none (.t 123)),(some (122,true)),[]⟩,⟨(some 125),(.faddr 21 (.t 3)),(some (122,true)),[]⟩,⟨(some 126),(.ld none (.t 125)),(some (122,true)),[]⟩,⟨(some 127),(.beq false (.t 124) (.t 126)),(some (122,true)),[]⟩,oI 128 (.pick (.t 122) (.t 127) (.c (.bool false))),oI 129 (.mov (.t 128)),⟨(some 130),(.faddr 23 (.t 2)),(some (129,true)),[]⟩,⟨(some 131),(.ld none (.t 130)),(some (129,true)),[]⟩,⟨(some 132),(.faddr 23 (.t 3)),(some (129,true)),[]⟩,⟨(some 133),(.ld none (.t 132)),(some (129,true)),[]⟩,⟨(some 134),(.beq false (.t 131) (.t 133)),(some (129,true)),[]⟩,oI 135 (.pick (.t 129) (.t 134) (.c (.bool false))),oI 136 (.mov (.t 135)),⟨(some 137),(.faddr 25 (.t 2)),(some (136,true)),[]⟩,⟨(some 138),(.ld none (.t 137)),(some (136,true)),[]⟩,⟨(some 139),(.faddr 25 (.t 3)),(some (136,true)),[]⟩,⟨(some 140),(.ld none (.t 139)),(some (136,true)),[]⟩,⟨(some 141),(.beq false (.t 138) (.t 140)),(some (136,true)),[]⟩,oI 142 (.pick (.t 136) (.t 141) (.c (.bool false))),oI 8 (.mov (.t 142))] none [8,7,6,5,3,2]) (.seq (.region [oI 143 (.mov (.t 5)),oI 144 (.mov (.t 143)),⟨(some 145),(.mov (.t 6)),(some (144,true)),[]⟩,oI 146 (.pick (.t 144) (.t 145) (.c (.bool false))),oI 147 (.mov (.t 146)),⟨(some 148),(.mov (.t 7)),(some (147,true)),[]⟩,oI 149 (.pick (.t 147) (.t 148) (.c (.bool false))),oI 150 (.mov (.t 149)),⟨(some 151),(.mov (.t 8)),(some (150,true)),[]⟩,oI 152 (.pick (.t 150) (.t 151) (.c (.bool false))),oI 153 (.mov (.t 152)),⟨(some 154),(.faddr 0 (.t 2)),(some (153,true)),[]⟩,⟨(some 155),(.ld none (.t 154)),(some (153,true)),[]⟩,⟨(some 156),(.faddr 0 (.t 3)),(some (153,true)),[]⟩,⟨(some 157),(.ld none (.t 156)),(some (153,true)),[]⟩,⟨(some 158),(.bin .eql (.t 155) (.t 157)),(some (153,true)),[]⟩,oI 159 (.pick (.t 153) (.t 158) (.c (.bool false))),oI 160 (.mov (.t 159)),⟨(some 161),(.faddr 2 (.t 2)),(some (160,true)),[]⟩,⟨(some 162),(.ld none (.t 161)),(some (160,true)),[]⟩,⟨(some 163),(.faddr 2 (.t 3)),(some (160,true)),[]⟩,⟨(some 164),(.ld none (.t 163)),(some (160,true)),[]⟩,⟨(some 165),(.bin .eql (.t 162) (.t 164)),(some (160,true)),[]⟩,oI 166 (.pick (.t 160) (.t 165) (.c (.bool false))),oI 167 (.mov (.t 166)),⟨(some 168),(.faddr 4 (.t 2)),(some (167,true)),[]⟩,⟨(some 169),(.ld none (.t 168)),(some (167,true)),[]⟩,⟨(some 170),(.faddr 4 (.t 3)),(some (167,true)),[]⟩,⟨(some 171),(.ld none (.t 170)),(some (167,true)),[]⟩,⟨(some 172),(.bin .eql (.t 169) (.t 171)),(some (167,true)),[]⟩,oI 173 (.pick (.t 167) (.t 172) (.c (.bool false))),oI 174 (.mov (.t 173)),⟨(some 175),(.faddr 5 (.t 2)),(some (174,true)),[]⟩,⟨(some 176),(.ld none (.t 175)),(some (174,true)),[]⟩,⟨(some 177),(.faddr 5 (.t 3)),(some (174,true)),[]⟩,⟨(some 178),(.ld none (.t 177)),(some (174,true)),[]⟩,⟨(some 179),(.bin .eql (.t 176) (.t 178)),(some (174,true)),[]⟩,oI 180 (.pick (.t 174) (.t 179) (.c (.bool false))),oI 181 (.mov (.t 180)),⟨(some 182),(.faddr 7 (.t 2)),(some (181,true)),[]⟩,⟨(some 183),(.ld none (.t 182)),(some (181,true)),[]⟩,⟨(some 184),(.faddr 7 (.t 3)),(some (181,true)),[]⟩,⟨(some 185),(.ld none (.t 184)),(some (181,true)),[]⟩,⟨(some 186),(.bin .eql (.t 183) (.t 185)),(some (181,true)),[]⟩,oI 187 (.pick (.t 181) (.t 186) (.c (.bool false))),oI 188 (.mov (.t 187)),⟨(some 189),(.faddr 13 (.t 2)),(some (188,true)),[]⟩,⟨(some 190),(.ld none (.t 189)),(some (188,true)),[]⟩,⟨(some 191),(.faddr 13 (.t 3)),(some (188,true)),[]⟩,⟨(some 192),(.ld none (.t 191)),(some (188,true)),[]⟩,⟨(some 193),(.bin .eql (.t 190) (.t 192)),(some (188,true)),[]⟩,oI 194 (.pick (.t 188) (.t 193) (.c (.bool false))),oI 195 (.mov (.t 194)),⟨(some 196),(.faddr 14 (.t 2)),(some (195,true)),[]⟩,⟨(some 197),(.ld none (.t 196)),(some (195,true)),[]⟩,⟨(some 198),(.faddr 14 (.t 3)),(some (195,true)),[]⟩,⟨(some 199),(.ld none (.t 198)),(some (195,true)),[]⟩,⟨(some 200),(.bin .eql (.t 197) (.t 199)),(some (195,true)),[]⟩,oI 201 (.pick (.t 195) (.t 200) (.c (.bool false))),oI 202 (.mov (.t 201)),⟨(some 203),(.faddr 22 (.t 2)),(some (202,true)),[]⟩,⟨(some 204),(.ld none (.t 203)),(some (202,true)),[]⟩,⟨(some 205),(.faddr 22 (.t 3)),(some (202,true)),[]⟩,⟨(some 206),(.ld none (.t 205)),(some (202,true)),[]⟩,⟨(some 207),(.bin .eql (.t 204) (.t 206)),(some (202,true)),[]⟩,oI 208 (.pick (.t 202) (.t 207) (.c (.bool false))),oI 4 (.mov (.t 208))] none [4]) .ret))))))
def Znu:ZE:=⟨[(.tmp 4)],ZpI⟩
theorem ZKT:FC 22=some Znu:=by kernel_rfl
theorem ZJ3:Znu.body=ZpI:=rfl
theorem ZMR:Znu.res=[(.tmp 4)]:=rfl
def Zdi:Zf:=(.seq (.region [oI 2 (.mov (.c (.lst true [])))] none [0]) (.seq (.seq (.region [oI 3 (.mov (.t 0))] none [3]) (.block 0 (.seq (.region [oI 5 (.bin .eql (.t 3) (.c (.int .i64 2))),oI 4 (.mov (.t 5))] none [4,3]) (.cond (.t 4) (.seq (.region [oI 6 (.build [(.int .i64 0),(.int .i64 0)] [(0,1,(.c (.int .i64 0))),(1,1,(.c (.int .i64 0)))]),oI 7 (.build [(.int .i64 0),(.int .i64 0)] [(0,1,(.c (.int .i64 128))),(1,1,(.c (.int .i64 138)))]),oI 8 (.build [(.int .i64 0),(.int .i64 0)] [(0,1,(.c (.int .i64 140))),(1,1,(.c (.int .i64 140)))]),oI 9 (.build [(.int .i64 0),(.int .i64 0)] [(0,1,(.c (.int .i64 144))),(1,1,(.c (.int .i64 144)))]),oI 10 (.build [(.int .i64 0),(.int .i64 0)] [(0,1,(.c (.int .i64 149))),(1,1,(.c (.int .i64 149)))]),oI 11 (.build [(.int .i64 0),(.int .i64 0)] [(0,1,(.c (.int .i64 151))),(1,1,(.c (.int .i64 151)))]),oI 12 (.build [(.int .i64 0),(.int .i64 0)] [(0,1,(.c (.int .i64 153))),(1,1,(.c (.int .i64 157)))]),oI 13 (.build [(.int .i64 0),(.int .i64 0)] [(0,1,(.c (.int .i64 159))),(1,1,(.c (.int .i64 159)))]),oI 14 (.bslice false 2 8 (.agg [(.int .i64 0),(.int .i64 0)]) [(0,(.t 6)),(1,(.t 7)),(2,(.t 8)),(3,(.t 9)),(4,(.t 10)),(5,(.t 11)),(6,(.t 12)),(7,(.t 13))]),oI 2 (.mov (.t 14))] none [2]) .ret) (.seq (.seq (.region [oI 16 (.bin .eql (.t 3) (.c (.int .i64 4))),oI 15 (.mov (.t 16))] none [15,3]) (.cond (.t 15) .skip (.region [oI 17 (.bin .eql (.t 3) (.c (.int .i64 5))),oI 15 (.mov (.t 17))] none [15,3]))) (.cond (.t 15) (.seq (.region [oI 18 (.build [(.int .i64 0),(.int .i64 0)] [(0,1,(.c (.int .i64 0))),(1,1,(.c (.int .i64 0)))]),oI 19 (.build [(.int .i64 0),(.int .i64 0)] [(0,1,(.c (.int .i64 16))),(1,1,(.c (.int .i64 16)))]),oI 20 (.build [(.int .i64 0),(.int .i64 0)] [(0,1,(.c (.int .i64 128))),(1,1,(.c (.int .i64 128)))]),oI 21 (.build [(.int .i64 0),(.int .i64 0)] [(0,1,(.c (.int .i64 131))),(1,1,(.c (.int .i64 131)))]),oI 22 (.build [(.int .i64 0),(.int .i64 0)] [(0,1,(.c (.int .i64 135))),(1,1,(.c (.int .i64 135)))]),oI 23 (.build [(.int .i64 0),(.int .i64 0)] [(0,1,(.c (.int .i64 144))),(1,1,(.c (.int .i64 145)))]),oI 24 (.build [(.int .i64 0),(.int .i64 0)] [(0,1,(.c (.int .i64 151))),(1,1,(.c (.int .i64 151)))]),oI 25 (.build [(.int .i64 0),(.int .i64 0)] [(0,1,(.c (.int .i64 153))),(1,1,(.c (.int .i64 153)))]),oI 26 (.bslice false 2 8 (.agg [(.int .i64 0),(.int .i64 0)]) [(0,(.t 18)),(1,(.t 19)),(2,(.t 20)),(3,(.t 21)),(4,(.t 22)),(5,(.t 23)),(6,(.t 24)),(7,(.t 25))]),oI 2 (.mov (.t 26))] none [2]) .ret) (.seq (.seq (.region [oI 28 (.bin .eql (.t 3) (.c (.int .i64 6))),oI 27 (.mov (.t 28))] none [27,3]) (.cond (.t 27) .skip (.region [oI 29 (.bin .eql (.t 3) (.c (.int .i64 7))),oI 27 (.mov (.t 29))] none [27,3]))) (.cond (.t 27) (.seq (.region [oI 30 (.build [(.int .i64 0),(.int .i64 0)] [(0,1,(.c (.int .i64 0))),(1,1,(.c (.int .i64 0)))]),oI 31 (.build [(.int .i64 0),(.int .i64 0)] [(0,1,(.c (.int .i64 146))),(1,1,(.c (.int .i64 146)))]),oI 32 (.bslice false 2 2 (.agg [(.int .i64 0),(.int .i64 0)]) [(0,(.t 30)),(1,(.t 31))]),oI 2 (.mov (.t 32))] none [2]) .ret) (.seq (.region [oI 34 (.bin .eql (.t 3) (.c (.int .i64 9))),oI 33 (.mov (.t 34))] none [33,3]) (.cond (.t 33) (.seq (.region [oI 35 (.build [(.int .i64 0),(.int .i64 0)] [(0,1,(.c (.int .i64 0))),(1,1,(.c (.int .i64 2)))]),oI 36 (.build [(.int .i64 0),(.int .i64 0)] [(0,1,(.c (.int .i64 128))),(1,1,(.c (.int .i64 128)))]),oI 37 (.build [(.int .i64 0),(.int .i64 0)] [(0,1,(.c (.int .i64 131))),(1,1,(.c (.int .i64 131)))]),oI 38 (.build [(.int .i64 0),(.int .i64 0)] [(0,1,(.c (.int .i64 135))),(1,1,(.c (.int .i64 135)))]),oI 39 (.build [(.int .i64 0),(.int .i64 0)] [(0,1,(.c (.int .i64 143))),(1,1,(.c (.int .i64 143)))]),oI 40 (.build [(.int .i64 0),(.int .i64 0)] [(0,1,(.c (.int .i64 145))),(1,1,(.c (.int .i64 145)))]),oI 41 (.build [(.int .i64 0),(.int .i64 0)] [(0,1,(.c (.int .i64 151))),(1,1,(.c (.int .i64 151)))]),oI 42 (.build [(.int .i64 0),(.int .i64 0)] [(0,1,(.c (.int .i64 158))),(1,1,(.c (.int .i64 158)))]),oI 43 (.build [(.int .i64 0),(.int .i64 0)] [(0,1,(.c (.int .i64 161))),(1,1,(.c (.int .i64 162)))]),oI 44 (.bslice false 2 9 (.agg [(.int .i64 0),(.int .i64 0)]) [(0,(.t 35)),(1,(.t 36)),(2,(.t 37)),(3,(.t 38)),(4,(.t 39)),(5,(.t 40)),(6,(.t 41)),(7,(.t 42)),(8,(.t 43))]),oI 2 (.mov (.t 44))] none [2]) .ret) (.seq (.region [oI 46 (.bin .eql (.t 3) (.c (.int .i64 11))),oI 45 (.mov (.t 46))] none [45,3]) (.cond (.t 45) (.seq (.region [oI 47 (.build [(.int .i64 0),(.int .i64 0)] [(0,1,(.c (.int .i64 0))),(1,1,(.c (.int .i64 0)))]),oI 48 (.build [(.int .i64 0),(.int .i64 0)] [(0,1,(.c (.int .i64 17))),(1,1,(.c (.int .i64 17)))]),oI 49 (.build [(.int .i64 0),(.int .i64 0)] [(0,1,(.c (.int .i64 128))),(1,1,(.c (.int .i64 128)))]),oI 50 (.build [(.int .i64 0),(.int .i64 0)] [(0,1,(.c (.int .i64 131))),(1,1,(.c (.int .i64 131)))]),oI 51 (.build [(.int .i64 0),(.int .i64 0)] [(0,1,(.c (.int .i64 135))),(1,1,(.c (.int .i64 135)))]),oI 52 (.build [(.int .i64 0),(.int .i64 0)] [(0,1,(.c (.int .i64 143))),(1,1,(.c (.int .i64 143)))]),oI 53 (.build [(.int .i64 0),(.int .i64 0)] [(0,1,(.c (.int .i64 145))),(1,1,(.c (.int .i64 145)))]),oI 54 (.bslice false 2 7 (.agg [(.int .i64 0),(.int .i64 0)]) [(0,(.t 47)),(1,(.t 48)),(2,(.t 49)),(3,(.t 50)),(4,(.t 51)),(5,(.t 52)),(6,(.t 53))]),oI 2 (.mov (.t 54))] none [2]) .ret) (.seq (.region [oI 56 (.bin .eql (.t 3) (.c (.int .i64 14))),oI 55 (.mov (.t 56))] none [55,3]) (.cond (.t 55) (.seq (.region [oI 57 (.build [(.int .i64 0),(.int .i64 0)] [(0,1,(.c (.int .i64 0))),(1,1,(.c (.int .i64 0)))]),oI 58 (.build [(.int .i64 0),(.int .i64 0)] [(0,1,(.c (.int .i64 4))),(1,1,(.c (.int .i64 4)))]),oI 59 (.build [(.int .i64 0),(.int .i64 0)] [(0,1,(.c (.int .i64 128))),(1,1,(.c (.int .i64 131)))]),oI 60 (.build [(.int .i64 0),(.int .i64 0)] [(0,1,(.c (.int .i64 135))),(1,1,(.c (.int .i64 135)))]),oI 61 (.build [(.int .i64 0),(.int .i64 0)] [(0,1,(.c (.int .i64 137))),(1,1,(.c (.int .i64 137)))]),oI 62 (.build [(.int .i64 0),(.int .i64 0)] [(0,1,(.c (.int .i64 139))),(1,1,(.c (.int .i64 139)))]),oI 63 (.build [(.int .i64 0),(.int .i64 0)] [(0,1,(.c (.int .i64 141))),(1,1,(.c (.int .i64 144)))]),oI 64 (.build [(.int .i64 0),(.int .i64 0)] [(0,1,(.c (.int .i64 147))),(1,1,(.c (.int .i64 162)))]),oI 65 (.bslice false 2 8 (.agg [(.int .i64 0),(.int .i64 0)]) [(0,(.t 57)),(1,(.t 58)),(2,(.t 59)),(3,(.t 60)),(4,(.t 61)),(5,(.t 62)),(6,(.t 63)),(7,(.t 64))]),oI 2 (.mov (.t 65))] none [2]) .ret) (.seq (.region [oI 67 (.bin .eql (.t 3) (.c (.int .i64 15))),oI 66 (.mov (.t 67))] none [66]) (.cond (.t 66) (.seq (.region [oI 68 (.build [(.int .i64 0),(.int .i64 0)] [(0,1,(.c (.int .i64 0))),(1,1,(.c (.int .i64 0)))]),oI 69 (.build [(.int .i64 0),(.int .i64 0)] [(0,1,(.c (.int .i64 24))),(1,1,(.c (.int .i64 25)))]),oI 70 (.bslice false 2 2 (.agg [(.int .i64 0),(.int .i64 0)]) [(0,(.t 68)),(1,(.t 69))]),oI 2 (.mov (.t 70))] none [2]) .ret) .skip)))))))))))))))) (.seq (.region [oI 2 (.mov (.c (.lst true [])))] none [2]) .ret)))
def ZmF:ZE:=⟨[(.tmp 2)],Zdi⟩
theorem Zet:FC 50=some ZmF:=by kernel_rfl
theorem Zd2:ZmF.body=Zdi:=rfl
theorem Zd5:ZmF.res=[(.tmp 2)]:=rfl
def ZhE:Zf:=(.seq (.region [oI 2 (.mov (.c (.int .u8 0)))] none [0]) (.seq (.seq (.region [oI 3 (.mov (.t 0))] none [3]) (.block 0 (.seq (.seq (.region [oI 5 (.bin .eql (.t 3) (.c (.int .i64 6))),oI 4 (.mov (.t 5))] none [4,3]) (.cond (.t 4) .skip (.seq (.region [oI 6 (.bin .eql (.t 3) (.c (.int .i64 8))),oI 4 (.mov (.t 6))] none [4,3]) (.cond (.t 4) .skip (.region [oI 7 (.bin .eql (.t 3) (.c (.int .i64 10))),oI 4 (.mov (.t 7))] none [4]))))) (.cond (.t 4) (.seq (.region [oI 2 (.mov (.c (.int .u8 2)))] none [2]) .ret) .skip)))) (.seq (.region [oI 2 (.mov (.c (.int .u8 0)))] none [2]) .ret)))
def Zo1:ZE:=⟨[(.tmp 2)],ZhE⟩
theorem Zk1:FC 40=some Zo1:=by kernel_rfl
theorem ZlH:Zo1.body=ZhE:=rfl
theorem Zjb:Zo1.res=[(.tmp 2)]:=rfl
def ZpT:Zf:=(.seq (.region [oI 4 (.mov (.c (.int .i64 0)))] none [1,0]) (.seq (.seq (.region [oI 5 (.mov (.t 0))] none [5,1]) (.cond (.t 5) (.seq (.region [oI 6 (.mov (.t 1)),oI 4 (.mov (.t 6))] none [4]) .ret) .skip)) (.seq (.region [oI 4 (.mov (.c (.int .i64 0)))] none [4]) .ret)))
def ZoY:ZE:=⟨[(.tmp 4)],ZpT⟩
theorem ZGh:FC 42=some ZoY:=by kernel_rfl
theorem ZvD:ZoY.body=ZpT:=rfl
theorem ZGf:ZoY.res=[(.tmp 4)]:=rfl
def ZjQ:Zf:=(.seq (.region [oI 4 (.mov (.t 0)),oI 5 (.un .not (.t 4))] none [5,1]) (.cond (.t 5) (.region [oI 6 (.mov (.t 1)),oI 7 (.mki 27 (.t 6)),oN (.panic (.t 7))] none []) .skip))
def Zn6:ZE:=⟨[],ZjQ⟩
theorem Zqk:FC 53=some Zn6:=by kernel_rfl
theorem ZsB:Zn6.body=ZjQ:=rfl
theorem ZMw:Zn6.res=[]:=rfl
end
section
def Zy (c:Int):AVal:=.iface 27 (.int .i64 c)
theorem Za5 (c:Int) (σ:Za) (sq own:Nat):Zj E BY σ sq 53 own true [.bool true,.int .i64 c]=some (.tup [],σ,{}):=by
 have h:E 53 [.bool true,.int .i64 c] []=some (.tup [],[]):=by
  rw [Zh (by rfl) Zqk]
  simp -implicitDefEqProofs only [EQA,Zq,Nat.reduceLT,Nat.reduceEqDiff,unA,reduceCtorEq,↓reduceIte,Zd,ZsB,ZjQ,ZMw,oI,oN]
 exact Zcl (h) (by kernel_rfl) (by simp -implicitDefEqProofs only [ZcR,Zbq,eq_self,eq_self]) (by simp -implicitDefEqProofs only [ZC,Zbq,eq_self,eq_self]) rfl (fun _=>rfl) _ _ _ _
theorem Zbs (c:Int) (σ:Za) (sq own:Nat):Zj E BY σ sq 53 own true [.bool false,.int .i64 c]=some (.pan (Zy c),σ,{}):=by
 have h:E 53 [.bool false,.int .i64 c] []=some (.pan (Zy c),[]):=by
  rw [Zh (by rfl) Zqk]
  simp -implicitDefEqProofs only [EQA,Zq,Nat.reduceLT,Nat.reduceEqDiff,unA,reduceCtorEq,↓reduceIte,ZsB,ZjQ,oI,oN,Zy]
 exact Zcl (h) (by kernel_rfl) (by simp -implicitDefEqProofs only [ZcR,Zbq,eq_self]) (by simp -implicitDefEqProofs only [ZC,Zbq,eq_self]) rfl (fun _=>rfl) _ _ _ _
theorem ZaA {xs ys:List AVal} (h:Zd xs=true) (h':Zd ys=true):Zd (xs++ys)=true:=by
 induction xs with
 | nil=>exact h'
 | cons x xs ih =>
  simp only [Zd,Bool.and_eq_true,List.cons_append] at h ⊢
  exact ⟨h.1,ih h.2⟩
section
variable (P:List AVal) (hP:P.length=26) (hN:Zd P=true)
include hP
theorem Z1 (L:AVal):(P++[L]).length=27:=by simp [hP]
theorem Zao (L:AVal):(P++[L])[26]?=some L:=by
 rw [List.getElem?_append_right (by omega)];simp [hP]
theorem Zej (L:AVal):(P++[L]).take 26=P:=by
 rw [List.take_append_of_le_length (by omega),List.take_of_length_le (by omega)]
theorem ZfF (L:AVal):(P++[L]).drop 27=[]:=List.drop_eq_nil_of_le (by simp [hP])
include hN
theorem Zw (f:Bool) (xs:List AVal):Zd (P++[.lst f xs])=true:=ZaA hN rfl
theorem ZK8 (l:Zb) (n:Nat) (hn:n<=l.length) (hl:l.length<=140737488355328):E 55 [.ref 0 0,.int .i64 (n:Nat)] [.var (P++[.lst false (l.map Zc)])]=some (.int .i64 (Zid (l.take n)),[.var (P++[.lst false ((l.drop n).map Zc)])]):=by
 have h1:(l.length:Int)>=((n:Nat):Int):=by omega
 have s1:=fun σ kk=>Zjt σ 1 l Zc kk (n:Int) (by omega) (by omega)
 have s2:=fun σ kk=>ZeX σ l kk (n:Int) (by omega) (by omega)
 have e2:((n:Int)).toNat=n:=rfl
 rw [e2] at s1 s2
 have ht:(l.take n).length<=9223372036854775807:=by simp;omega
 have hG:=fun σ sq own f=>Zjm σ sq own (l.take n) ht f
 have a1:=Z1 P hP
 have a2:=Zao P hP
 have a3:=Zej P hP
 have a4:=ZfF P hP
 have m1:=Za5
 rw [Zh (by rfl) Zjj]
 simp -implicitDefEqProofs only [EQA,ZC,Nat.reduceAdd,Nat.reduceLT,Nat.reduceLeDiff,Nat.reduceEqDiff,reduceCtorEq,↓reduceIte,ZjD,Zhz,ZqD,oI,oN,h1,s1,s2,hG,a1,a2,a3,a4,m1,Zid]
 exact ZS rfl (Zw P hP hN _ _)
theorem ZGy (l:Zb) (n:Nat) (hn:l.length < n) (hn':n<=9223372036854775807):E 55 [.ref 0 0,.int .i64 (n:Nat)] [.var (P++[.lst false (l.map Zc)])]=some (.pan (Zy 129),[.var (P++[.lst false (l.map Zc)])]):=by
 have h1:¬(l.length:Int)>=((n:Nat):Int):=by omega
 have a2:=Zao P hP
 have m1:=Zbs
 rw [Zh (by rfl) Zjj]
 simp -implicitDefEqProofs only [EQA,Nat.reduceLT,Nat.reduceEqDiff,reduceCtorEq,↓reduceIte,ZjD,Zhz,oI,oN,h1,a2,m1]
 exact ZS rfl (Zw P hP hN _ _)
theorem ZDB (l:Zb) (hl:l.length<=140737488355328) (h:(Zaa l).2.2=0):E 64 [.ref 0 0] [.var (P++[.lst false (l.map Zc)])]=some (.str (Zaa l).1,[.var (P++[.lst false ((l.drop (Zaa l).2.1).map Zc)])]):=by
 have hG:=fun σ sq own f=>Zg4 σ sq own f l hl
 have hu:=(ZgS l).1
 unfold gtT at hG
 have s2:=fun σ kk=>ZeX σ l kk ((Zaa l).2.1:Int) (by omega) (by omega)
 have e2:(((Zaa l).2.1:Nat):Int).toNat=(Zaa l).2.1:=rfl
 rw [e2] at s2
 rw [h] at hG
 have a1:=Z1 P hP
 have a2:=Zao P hP
 have a3:=Zej P hP
 have a4:=ZfF P hP
 have m1:=Za5
 rw [Zh (by rfl) Zkm]
 simp -implicitDefEqProofs only [EQA,ZC,Zq,Nat.reduceAdd,Nat.reduceLT,Nat.reduceLeDiff,Nat.reduceEqDiff,reduceCtorEq,↓reduceIte,ZjT,ZgI,Zuw,oI,oN,s2,hG,a1,a2,a3,a4,m1]
 exact ZS rfl (Zw P hP hN _ _)
theorem ZJO (l:Zb) (hl:l.length<=140737488355328) (h:(Zaa l).2.2≠0):E 64 [.ref 0 0] [.var (P++[.lst false (l.map Zc)])]=some (.pan (Zy 129),[.var (P++[.lst false (l.map Zc)])]):=by
 have hG:=fun σ sq own f=>Zg4 σ sq own f l hl
 unfold gtT at hG
 have h0:((Zaa l).2.2 == 0)=false:=by simpa using h
 have h1:=h
 have a2:=Zao P hP
 have m1:=Zbs
 rw [Zh (by rfl) Zkm]
 simp -implicitDefEqProofs only [EQA,Nat.reduceLT,Nat.reduceEqDiff,reduceCtorEq,↓reduceIte,ZjT,ZgI,oI,oN,hG,a2,h0,m1]
 exact ZS rfl (Zw P hP hN _ _)
theorem ZB7 (l:Zb) (hl:l.length<=140737488355328) (h:(ZaC l).2.2=0):E 95 [.ref 0 0] [.var (P++[.lst false (l.map Zc)])]=some (.lst false ((ZaC l).1.map Zc),[.var (P++[.lst false ((l.drop (ZaC l).2.1).map Zc)])]):=by
 have hG:=fun σ sq own f=>Zi0 σ sq own f l hl
 have hu:=(ZjX l).1
 unfold gdT at hG
 have s2:=fun σ kk=>ZeX σ l kk ((ZaC l).2.1:Int) (by omega) (by omega)
 have e2:(((ZaC l).2.1:Nat):Int).toNat=(ZaC l).2.1:=rfl
 rw [e2] at s2
 rw [h] at hG
 have a1:=Z1 P hP
 have a2:=Zao P hP
 have a3:=Zej P hP
 have a4:=ZfF P hP
 have m1:=Za5
 rw [Zh (by rfl) ZrG]
 simp -implicitDefEqProofs only [EQA,ZC,Zq,Nat.reduceAdd,Nat.reduceLT,Nat.reduceLeDiff,Nat.reduceEqDiff,reduceCtorEq,↓reduceIte,ZsY,Zji,ZDx,oI,oN,s2,hG,a1,a2,a3,a4,m1]
 exact ZS rfl (Zw P hP hN _ _)
theorem ZAg (l:Zb) (hl:l.length<=140737488355328) (h:(ZaC l).2.2≠0):E 95 [.ref 0 0] [.var (P++[.lst false (l.map Zc)])]=some (.pan (Zy 129),[.var (P++[.lst false (l.map Zc)])]):=by
 have hG:=fun σ sq own f=>Zi0 σ sq own f l hl
 unfold gdT at hG
 have h0:((ZaC l).2.2 == 0)=false:=by simpa using h
 have h1:=h
 have a2:=Zao P hP
 have m1:=Zbs
 rw [Zh (by rfl) ZrG]
 simp -implicitDefEqProofs only [EQA,Nat.reduceLT,Nat.reduceEqDiff,reduceCtorEq,↓reduceIte,ZsY,Zji,oI,oN,hG,a2,h0,m1]
 exact ZS rfl (Zw P hP hN _ _)
theorem Zya (w:Int) (l:Zb) (hl:l.length<=140737488355328) (h:(Zae w l).2.2=0) (hu:(Zae w l).2.1<=l.length):E 57 [.ref 0 0,.int .i64 w] [.var (P++[.lst false (l.map Zc)])]=some (.lst false ((Zae w l).1.map Zn),[.var (P++[.lst false ((l.drop (Zae w l).2.1).map Zc)])]):=by
 have hG:=fun σ sq own f=>Zjy σ sq own f w l hl
 have s2:=fun σ kk=>ZeX σ l kk ((Zae w l).2.1:Int) (by omega) (by omega)
 have e2:(((Zae w l).2.1:Nat):Int).toNat=(Zae w l).2.1:=rfl
 rw [e2] at s2
 rw [h] at hG
 have a1:=Z1 P hP
 have a2:=Zao P hP
 have a3:=Zej P hP
 have a4:=ZfF P hP
 have m1:=Za5
 generalize Zae w l=R at *
 rw [Zh (by rfl) ZqK]
 simp -implicitDefEqProofs only [EQA,ZC,Zq,Nat.reduceAdd,Nat.reduceLT,Nat.reduceLeDiff,Nat.reduceEqDiff,reduceCtorEq,↓reduceIte,Zua,ZjL,ZAy,oI,oN,s2,hG,a1,a2,a3,a4,m1]
 exact ZS rfl (Zw P hP hN _ _)
theorem ZwR (w:Int) (l:Zb) (hl:l.length<=140737488355328) (h:(Zae w l).2.2≠0):E 57 [.ref 0 0,.int .i64 w] [.var (P++[.lst false (l.map Zc)])]=some (.pan (Zy (Zae w l).2.2),[.var (P++[.lst false (l.map Zc)])]):=by
 have hG:=fun σ sq own f=>Zjy σ sq own f w l hl
 have h0:((Zae w l).2.2 == 0)=false:=by simpa using h
 have h1:=h
 have a2:=Zao P hP
 have m1:=Zbs
 generalize Zae w l=R at *
 rw [Zh (by rfl) ZqK]
 simp -implicitDefEqProofs only [EQA,Nat.reduceLT,Nat.reduceEqDiff,reduceCtorEq,↓reduceIte,Zua,ZjL,oI,oN,hG,a2,h0,m1]
 exact ZS rfl (Zw P hP hN _ _)
end
end
section
def ZpH:Zf:=(.seq (.region [oI 4 (.mov (.c (.bool false)))] none [1,0]) (.seq (.region [oI 5 (.mov (.t 0)),oI 6 (.mov (.t 1)),oI 7 (.call 94 0 true [(.t 5),(.t 6)]),oI 8 (.bin .geq (.t 7) (.c (.int .i64 0))),oI 4 (.mov (.t 8))] none [4]) .ret))
def ZlU:ZE:=⟨[(.tmp 4)],ZpH⟩
theorem ZBP:FC 49=some ZlU:=by kernel_rfl
theorem ZIe:ZlU.body=ZpH:=rfl
theorem ZGH:ZlU.res=[(.tmp 4)]:=rfl
def ZoN:Zf:=(.seq (.region [oI 6 (.mov (.c (.bool true)))] none [6]) .ret)
def Zpa:Zf:=ZoN
def ZLd:=xw Zpa ZoN rfl
def Zk5:Zf:=(.seq (.region [oI 18 (.bin .lss (.t 17) (.t 16))] none [18,17,16,15,2,1]) (.seq (.cond (.t 18) .skip (.exit 0)) (.seq (.block 1 (.seq (.region [oI 19 (.mov (.t 17)),oI 20 (.iaddr 5 (.t 15) (.t 17)),oI 21 (.ld (some 5) (.t 20)),oI 8 (.alloc [(.int .i64 0),(.int .i64 0),(.str []),(.str []),(.lst true [])]),oI 7 (.mov (.t 19)),oN (.st 5 (.t 8) (.t 21))] none [17,16,15,8,7,2,1]) (.seq (.region [oI 22 (.mov (.t 1)),oI 23 (.mov (.t 7)),oI 24 (.iaddr 5 (.t 22) (.t 23)),oI 25 (.ld (some 5) (.t 24)),oI 9 (.alloc [(.int .i64 0),(.int .i64 0),(.str []),(.str []),(.lst true [])]),oN (.st 5 (.t 9) (.t 25))] none [17,16,15,9,8,2,1]) (.seq (.region [oI 26 (.mov (.t 2)),oI 27 (.ld (some 5) (.t 8)),oI 28 (.ld (some 5) (.t 9)),oI 29 (.callv (.t 26) [(.t 27),(.t 28)]),oI 30 (.un .not (.t 29))] none [30,17,16,15,2,1]) (.cond (.t 30) (.seq (.region [oI 6 (.mov (.c (.bool false)))] none [6]) .ret) .skip))))) (.region [oI 31 (.bin .add (.t 17) (.c (.int .i64 1))),oI 17 (.mov (.t 31))] none [17,16,15,2,1]))))
def Zox:Zf:=Zk5
def Zuh:=xw Zox Zk5 rfl
def ZkU:Zf:=(.seq (.region [oI 6 (.mov (.c (.bool false)))] none [2,1,0]) (.seq (.seq (.region [oI 10 (.mov (.t 0)),oI 11 (.len (.t 10)),oI 12 (.mov (.t 1)),oI 13 (.len (.t 12)),oI 14 (.bin .neq (.t 11) (.t 13))] none [14,2,1,0]) (.cond (.t 14) (.seq (.region [oI 6 (.mov (.c (.bool false)))] none [6]) .ret) .skip)) (.seq (.seq (.region [oI 15 (.mov (.t 0)),oI 16 (.len (.t 15)),oI 17 (.mov (.c (.int .i64 0)))] none [17,16,15,2,1]) (.block 0 (.loop [17,16,15,2,1] Zox))) Zpa)))
def Zjg:ZE:=⟨[(.tmp 6)],ZkU⟩
theorem ZDd:FC 92=some Zjg:=by kernel_rfl
theorem Zth:Zjg.body=ZkU:=rfl
theorem ZpW:Zjg.res=[(.tmp 6)]:=rfl
noncomputable def Zky (m:Nat) (tm:Tms) (σ:Za):Option (AVal×Za):=(Zar m Zjg (ZbF FC PR BY m Zpa (Option.map (ZaT 0) (evL FC PR BY m [17,16,15,2,1] Zox tm σ))))
def ZmM:Zf:=(.seq (.region [oI 4 (.mov (.c (.bool true)))] none [4]) .ret)
def Znc:Zf:=ZmM
def ZJS:=xw Znc ZmM rfl
def Zj1:Zf:=(.seq (.region [oI 14 (.bin .lss (.t 13) (.t 12))] none [14,13,12,1,0]) (.seq (.cond (.t 14) .skip (.exit 0)) (.seq (.block 1 (.seq (.region [oI 15 (.mov (.t 13)),oI 5 (.mov (.t 15))] none [13,12,5,1,0]) (.seq (.region [oI 16 (.mov (.t 0)),oI 17 (.mov (.t 5)),oI 18 (.iaddr 1 (.t 16) (.t 17)),oI 19 (.ld none (.t 18)),oI 20 (.mov (.t 1)),oI 21 (.mov (.t 5)),oI 22 (.iaddr 1 (.t 20) (.t 21)),oI 23 (.ld none (.t 22)),oI 24 (.bin .neq (.t 19) (.t 23))] (some [(2,6),(3,6),(2,7),(3,7)]) [24,13,12,1,0]) (.cond (.t 24) (.seq (.region [oI 4 (.mov (.c (.bool false)))] none [4]) .ret) .skip)))) (.region [oI 25 (.bin .add (.t 13) (.c (.int .i64 1))),oI 13 (.mov (.t 25))] none [13,12,1,0]))))
def ZoJ:Zf:=Zj1
def Zq6:=xw ZoJ Zj1 rfl
def ZlN:Zf:=(.seq (.region [oI 4 (.mov (.c (.bool false)))] none [1,0]) (.seq (.seq (.region [oI 6 (.mov (.t 0)),oI 7 (.len (.t 6)),oI 8 (.mov (.t 1)),oI 9 (.len (.t 8)),oI 10 (.bin .neq (.t 7) (.t 9))] none [10,1,0]) (.cond (.t 10) (.seq (.region [oI 4 (.mov (.c (.bool false)))] none [4]) .ret) .skip)) (.seq (.seq (.region [oI 11 (.mov (.t 0)),oI 12 (.len (.t 11)),oI 13 (.mov (.c (.int .i64 0)))] none [13,12,1,0]) (.block 0 (.loop [13,12,1,0] ZoJ))) Znc)))
def Zkw:ZE:=⟨[(.tmp 4)],ZlN⟩
theorem ZHN:FC 45=some Zkw:=by kernel_rfl
theorem ZrF:Zkw.body=ZlN:=rfl
theorem Zmv:Zkw.res=[(.tmp 4)]:=rfl
noncomputable def ZkX (m:Nat) (tm:Tms) (σ:Za):Option (AVal×Za):=(Zar m Zkw (ZbF FC PR BY m Znc (Option.map (ZaT 0) (evL FC PR BY m [13,12,1,0] ZoJ tm σ))))
def Zpm:Zf:=(.seq (.region [oI 4 (.mov (.c (.bool true)))] none [4]) .ret)
def Zmo:Zf:=Zpm
def ZFX:=xw Zmo Zpm rfl
def ZkF:Zf:=(.seq (.region [oI 14 (.bin .lss (.t 13) (.t 12))] none [14,13,12,1,0]) (.seq (.cond (.t 14) .skip (.exit 0)) (.seq (.block 1 (.seq (.region [oI 15 (.mov (.t 13)),oI 5 (.mov (.t 15))] none [13,12,5,1,0]) (.seq (.region [oI 16 (.mov (.t 0)),oI 17 (.mov (.t 5)),oI 18 (.iaddr 6 (.t 16) (.t 17)),oI 19 (.ld (some 6) (.t 18)),oI 20 (.mov (.t 1)),oI 21 (.mov (.t 5)),oI 22 (.iaddr 6 (.t 20) (.t 21)),oI 23 (.ld (some 6) (.t 22)),oI 24 (.eqv true [2,0,1,1,0,0] (.t 19) (.t 23))] (some [(2,6),(3,6),(2,7),(3,7)]) [24,13,12,1,0]) (.cond (.t 24) (.seq (.region [oI 4 (.mov (.c (.bool false)))] none [4]) .ret) .skip)))) (.region [oI 25 (.bin .add (.t 13) (.c (.int .i64 1))),oI 13 (.mov (.t 25))] none [13,12,1,0]))))
def Zmn:Zf:=ZkF
def Zui:=xw Zmn ZkF rfl
def ZjY:Zf:=(.seq (.region [oI 4 (.mov (.c (.bool false)))] none [1,0]) (.seq (.seq (.region [oI 6 (.mov (.t 0)),oI 7 (.len (.t 6)),oI 8 (.mov (.t 1)),oI 9 (.len (.t 8)),oI 10 (.bin .neq (.t 7) (.t 9))] none [10,1,0]) (.cond (.t 10) (.seq (.region [oI 4 (.mov (.c (.bool false)))] none [4]) .ret) .skip)) (.seq (.seq (.region [oI 11 (.mov (.t 0)),oI 12 (.len (.t 11)),oI 13 (.mov (.c (.int .i64 0)))] none [13,12,1,0]) (.block 0 (.loop [13,12,1,0] Zmn))) Zmo)))
def ZkC:ZE:=⟨[(.tmp 4)],ZjY⟩
theorem Zxt:FC 46=some ZkC:=by kernel_rfl
theorem Zq7:ZkC.body=ZjY:=rfl
theorem ZpV:ZkC.res=[(.tmp 4)]:=rfl
noncomputable def ZjW (m:Nat) (tm:Tms) (σ:Za):Option (AVal×Za):=(Zar m ZkC (ZbF FC PR BY m Zmo (Option.map (ZaT 0) (evL FC PR BY m [13,12,1,0] Zmn tm σ))))
def Zn7:Zf:=(.seq (.region [oI 4 (.mov (.c (.bool true)))] none [4]) .ret)
def Zoa:Zf:=Zn7
def ZA3:=xw Zoa Zn7 rfl
def Zlx:Zf:=(.seq (.region [oI 14 (.bin .lss (.t 13) (.t 12))] none [14,13,12,1,0]) (.seq (.cond (.t 14) .skip (.exit 0)) (.seq (.block 1 (.seq (.region [oI 15 (.mov (.t 13)),oI 5 (.mov (.t 15))] none [13,12,5,1,0]) (.seq (.region [oI 16 (.mov (.t 0)),oI 17 (.mov (.t 5)),oI 18 (.iaddr 1 (.t 16) (.t 17)),oI 19 (.ld none (.t 18)),oI 20 (.mov (.t 1)),oI 21 (.mov (.t 5)),oI 22 (.iaddr 1 (.t 20) (.t 21)),oI 23 (.ld none (.t 22)),oI 24 (.bin .neq (.t 19) (.t 23))] (some [(2,6),(3,6),(2,7),(3,7)]) [24,13,12,1,0]) (.cond (.t 24) (.seq (.region [oI 4 (.mov (.c (.bool false)))] none [4]) .ret) .skip)))) (.region [oI 25 (.bin .add (.t 13) (.c (.int .i64 1))),oI 13 (.mov (.t 25))] none [13,12,1,0]))))
def Znp:Zf:=Zlx
def Zuq:=xw Znp Zlx rfl
def ZlF:Zf:=(.seq (.region [oI 4 (.mov (.c (.bool false)))] none [1,0]) (.seq (.seq (.region [oI 6 (.mov (.t 0)),oI 7 (.len (.t 6)),oI 8 (.mov (.t 1)),oI 9 (.len (.t 8)),oI 10 (.bin .neq (.t 7) (.t 9))] none [10,1,0]) (.cond (.t 10) (.seq (.region [oI 4 (.mov (.c (.bool false)))] none [4]) .ret) .skip)) (.seq (.seq (.region [oI 11 (.mov (.t 0)),oI 12 (.len (.t 11)),oI 13 (.mov (.c (.int .i64 0)))] none [13,12,1,0]) (.block 0 (.loop [13,12,1,0] Znp))) Zoa)))
def Zjn:ZE:=⟨[(.tmp 4)],ZlF⟩
theorem ZIU:FC 47=some Zjn:=by kernel_rfl
theorem Zuk:Zjn.body=ZlF:=rfl
theorem ZoI:Zjn.res=[(.tmp 4)]:=rfl
noncomputable def ZkA (m:Nat) (tm:Tms) (σ:Za):Option (AVal×Za):=(Zar m Zjn (ZbF FC PR BY m Zoa (Option.map (ZaT 0) (evL FC PR BY m [13,12,1,0] Znp tm σ))))
def Zmw:Zf:=(.seq (.region [oI 4 (.mov (.c (.int .i64 (-1))))] none [4]) .ret)
def Zo4:Zf:=Zmw
def ZEQ:=xw Zo4 Zmw rfl
def Ziv:Zf:=(.seq (.region [oI 9 (.bin .lss (.t 8) (.t 7))] none [9,8,7,1,0]) (.seq (.cond (.t 9) .skip (.exit 0)) (.seq (.block 1 (.seq (.region [oI 10 (.mov (.t 8)),oI 5 (.mov (.t 10))] none [8,7,5,1,0]) (.seq (.region [oI 11 (.mov (.t 1)),oI 12 (.mov (.t 0)),oI 13 (.mov (.t 5)),oI 14 (.iaddr 2 (.t 12) (.t 13)),oI 15 (.ld (some 2) (.t 14)),oI 16 (.callv (.t 11) [(.t 15)])] none [16,8,7,5,1,0]) (.cond (.t 16) (.seq (.region [oI 17 (.mov (.t 5)),oI 4 (.mov (.t 17))] none [4]) .ret) .skip)))) (.region [oI 18 (.bin .add (.t 8) (.c (.int .i64 1))),oI 8 (.mov (.t 18))] none [8,7,1,0]))))
def ZnO:Zf:=Ziv
def Zo6:=xw ZnO Ziv rfl
def ZnS:Zf:=(.seq (.region [oI 4 (.mov (.c (.int .i64 0)))] none [1,0]) (.seq (.seq (.region [oI 6 (.mov (.t 0)),oI 7 (.len (.t 6)),oI 8 (.mov (.c (.int .i64 0)))] none [8,7,1,0]) (.block 0 (.loop [8,7,1,0] ZnO))) Zo4))
def Zlq:ZE:=⟨[(.tmp 4)],ZnS⟩
theorem ZFa:FC 94=some Zlq:=by kernel_rfl
theorem ZHa:Zlq.body=ZnS:=rfl
theorem Zur:Zlq.res=[(.tmp 4)]:=rfl
noncomputable def Zkq (m:Nat) (tm:Tms) (σ:Za):Option (AVal×Za):=(Zar m Zlq (ZbF FC PR BY m Zo4 (Option.map (ZaT 0) (evL FC PR BY m [8,7,1,0] ZnO tm σ))))
end
section
theorem Znl {O:ZL} {bf:Nat->Bool} {σ:Za} {t sq f own:Nat} {view:Bool} {args vs vs':List AVal} {cs cs':List AVal} {r:AVal} (hs:σ[t]?=some (.var cs)) (hc:Zd cs=true) (hc':Zd cs'=true) (hb:bf f=false) (hff:ZaU σ sq own=true)
  (hsh:showAs σ args=some (vs,[])) (href:Zp vs=[t]) (hren:∀ ρ:Rho,ρ t 0=some (0,0)->Ze ρ vs=vs') (hn:ZG r=true) (hv:viewR [.var cs'] r=some (r,[]))
  (h:O f vs' [.var cs]=some (r,[.var cs'])):Zj O bf σ sq f own view args=some (r,σ.set t (.var cs'),{ any:=true,upd:=[(t,cs')] }):=by
 have htl:t < σ.length:=by
  rcases Nat.lt_or_ge t σ.length with h | h
  ·exact h
  ·rw [List.getElem?_eq_none h] at hs;cases hs
 have hup:Za2 (σ.set t (.var cs')) [t]=[(t,cs')]:=by
  simp only [Za2,List.getElem?_set,if_pos htl,if_true]
 have hd:σ.getD t .free=.var cs:=by simp [List.getD_eq_getElem?_getD,hs]
 have hf0:Zo σ []=σ:=rfl
 unfold Zj ZbJ
 rw [hb]
 simp only [Bool.false_eq_true,if_false,hsh,hf0,href,ZeS hs hc]
 unfold Zbt
 have hall:([t].all fun t=>okB (σ.getD t .free))=true:=by simp [List.all_cons,List.all_nil,hs,okB]
 rw [if_pos hall]
 have hρ:Zl σ 0 [t] t 0=some (0,0):=by simp [Zl,ZZ,hs,Zm,ZR]
 have hheap:Zv σ 0 [t] (Zl σ 0 [t]) [t] 0=[.var cs]:=by
  simp only [Zv,hd,ZF,(ZaM _ cs hc).1]
 rw [hren _ hρ,hheap,h]
 have hask:Z6 view [t].length (some (r,[.var cs']))=some (r,[.var cs']):=by
  unfold Z6
  split
  ·have hnp:∀ x,r≠.pan x:=by rintro x rfl;simp [viewR,ZQ,ZK] at hv
   rw [show Zbr [t].length (some (r,[.var cs']))=(match viewR [.var cs'] r with
    | some (r',ts)=>match gcA [t].length [r'] (Zo [.var cs'] ts) with
     | ([r''],σ')=>some (r'',σ')
     | _=>none
    | none=>none) from by cases r <;> first | rfl | exact absurd rfl (hnp _)]
   rw [hv]
   simp only [List.length_cons,List.length_nil,Nat.zero_add,show Zo [ZI.var cs'] []=[.var cs'] from rfl,ZkM hn hc']
  ·rfl
 rw [hask]
 have hk:ZaV σ [t] [.var cs'] 0=true:=by
  simp [ZaV,okB,hs,Zb1,Zm]
 simp only [Zay,List.isEmpty_cons,Bool.false_eq_true,if_false,List.length_cons,List.length_nil,Nat.zero_add,Nat.le_add_right,Nat.le_refl,decide_true,hk,hff,Bool.and_self,if_true,ZaY,ZaF,List.getD_cons_zero,ZF,(ZaW _ r hn).1,(ZaM _ cs' hc').1,hup]
def Zfq (k:Int):List (Int×Int) :=
 if k=2 then [(0,0),(128,138),(140,140),(144,144),(149,149),(151,151),(153,157),(159,159)] else
 if k=4 then [(0,0),(16,16),(128,128),(131,131),(135,135),(144,145),(151,151),(153,153)] else
 if k=5 then [(0,0),(16,16),(128,128),(131,131),(135,135),(144,145),(151,151),(153,153)] else
 if k=6 then [(0,0),(146,146)] else
 if k=7 then [(0,0),(146,146)] else
 if k=9 then [(0,2),(128,128),(131,131),(135,135),(143,143),(145,145),(151,151),(158,158),(161,162)] else
 if k=11 then [(0,0),(17,17),(128,128),(131,131),(135,135),(143,143),(145,145)] else
 if k=14 then [(0,0),(4,4),(128,131),(135,135),(137,137),(139,139),(141,144),(147,162)] else
 if k=15 then [(0,0),(24,25)] else
 []
def Zdu (s:Int×Int):AVal:=.agg [.int .i64 s.1,.int .i64 s.2]
def Zfj (c:Int) (s:Int×Int):Bool:=decide (c>=s.1) && decide (c<=s.2)
def ZjB (k c:Int):Bool:=(Zfq k).any (Zfj c)
theorem ZMm (k:Int):(Zfq k).length<=9:=by
 unfold Zfq
 repeat' split
 all_goals simp
theorem ZJx (k:Int):∃ f,E 50 [.int .i64 k] []=some (.lst f ((Zfq k).map Zdu),[]):=by
 refine ⟨true,?_⟩
 unfold Zfq
 by_cases h2:k=2
 ·subst h2
  rw [Zh (by rfl) Zet]
  simp -implicitDefEqProofs only [EQA,Zq,Nat.reduceAdd,Nat.reduceLT,Nat.reduceLeDiff,Nat.reduceEqDiff,reduceCtorEq,↓reduceIte,Zd2,Zdi,Zd5,oI,Zan,AVal.cells,Za9,viewAs,ZQ,ZK,ZaG,Zo]
  rfl
 by_cases h4:k=4
 ·subst h4
  rw [Zh (by rfl) Zet]
  simp -implicitDefEqProofs only [EQA,Zq,Zdw,Nat.reduceAdd,Nat.reduceLT,Nat.reduceLeDiff,Nat.reduceEqDiff,reduceCtorEq,ite_self,↓reduceIte,Zd2,Zdi,Zd5,oI,Int.reduceBEq,Zan,AVal.cells,Za9,viewAs,ZQ,ZK,ZaG,Zo]
  rfl
 by_cases h5:k=5
 ·subst h5
  rw [Zh (by rfl) Zet]
  simp -implicitDefEqProofs only [EQA,Zq,Zdw,Nat.reduceAdd,Nat.reduceLT,Nat.reduceLeDiff,Nat.reduceEqDiff,reduceCtorEq,ite_self,↓reduceIte,Zd2,Zdi,Zd5,oI,Int.reduceBEq,Zan,AVal.cells,Za9,viewAs,ZQ,ZK,ZaG,Zo]
  rfl
 by_cases h6:k=6
 ·subst h6
  rw [Zh (by rfl) Zet]
  simp -implicitDefEqProofs only [EQA,Zq,Zdw,Nat.reduceAdd,Nat.reduceLT,Nat.reduceLeDiff,Nat.reduceEqDiff,reduceCtorEq,ite_self,↓reduceIte,Zd2,Zdi,Zd5,oI,Int.reduceBEq,Zan,AVal.cells,Za9,viewAs,ZQ,ZK,ZaG,Zo]
  rfl
 by_cases h7:k=7
 ·subst h7
  rw [Zh (by rfl) Zet]
  simp -implicitDefEqProofs only [EQA,Zq,Zdw,Nat.reduceAdd,Nat.reduceLT,Nat.reduceLeDiff,Nat.reduceEqDiff,reduceCtorEq,ite_self,↓reduceIte,Zd2,Zdi,Zd5,oI,Int.reduceBEq,Zan,AVal.cells,Za9,viewAs,ZQ,ZK,ZaG,Zo]
  rfl
 by_cases h9:k=9
 ·subst h9
  rw [Zh (by rfl) Zet]
  simp -implicitDefEqProofs only [EQA,Zq,Zdw,Nat.reduceAdd,Nat.reduceLT,Nat.reduceLeDiff,Nat.reduceEqDiff,reduceCtorEq,↓reduceIte,Zd2,Zdi,Zd5,oI,Int.reduceBEq,Zan,AVal.cells,Za9,viewAs,ZQ,ZK,ZaG,Zo]
  rfl
 by_cases h11:k=11
 ·subst h11
  rw [Zh (by rfl) Zet]
  simp -implicitDefEqProofs only [EQA,Zq,Zdw,Nat.reduceAdd,Nat.reduceLT,Nat.reduceLeDiff,Nat.reduceEqDiff,reduceCtorEq,↓reduceIte,Zd2,Zdi,Zd5,oI,Int.reduceBEq,Zan,AVal.cells,Za9,viewAs,ZQ,ZK,ZaG,Zo]
  rfl
 by_cases h14:k=14
 ·subst h14
  rw [Zh (by rfl) Zet]
  simp -implicitDefEqProofs only [EQA,Zq,Zdw,Nat.reduceAdd,Nat.reduceLT,Nat.reduceLeDiff,Nat.reduceEqDiff,reduceCtorEq,ite_self,↓reduceIte,Zd2,Zdi,Zd5,oI,Int.reduceBEq,Zan,AVal.cells,Za9,viewAs,ZQ,ZK,ZaG,Zo]
  rfl
 by_cases h15:k=15
 ·subst h15
  rw [Zh (by rfl) Zet]
  simp -implicitDefEqProofs only [EQA,Zq,Zdw,Nat.reduceAdd,Nat.reduceLT,Nat.reduceLeDiff,Nat.reduceEqDiff,reduceCtorEq,ite_self,↓reduceIte,Zd2,Zdi,Zd5,oI,Int.reduceBEq,Zan,AVal.cells,Za9,viewAs,ZQ,ZK,ZaG,Zo]
  rfl
 have b2:(k == 2)=false:=by simpa using h2
 have b4:(k == 4)=false:=by simpa using h4
 have b5:(k == 5)=false:=by simpa using h5
 have b6:(k == 6)=false:=by simpa using h6
 have b7:(k == 7)=false:=by simpa using h7
 have b9:(k == 9)=false:=by simpa using h9
 have b11:(k == 11)=false:=by simpa using h11
 have b14:(k == 14)=false:=by simpa using h14
 have b15:(k == 15)=false:=by simpa using h15
 rw [if_neg h2,if_neg h4,if_neg h5,if_neg h6,if_neg h7,if_neg h9,if_neg h11,if_neg h14,if_neg h15]
 rw [Zh (by rfl) Zet]
 simp -implicitDefEqProofs only [EQA,Zq,Nat.reduceLT,Nat.reduceEqDiff,reduceCtorEq,↓reduceIte,Zd2,Zdi,Zd5,oI,b2,b4,b5,b6,b7,b9,b11,b14,b15]
theorem Zzj (c:Int) (s:Int×Int):E 51 [.agg [.int .i64 s.1,.int .i64 s.2],.ref 0 0] [.var [.int .i64 c]]=some (.bool (Zfj c s),[.var [.int .i64 c]]):=by
 unfold Zfj
 rw [Zh (by rfl) ZHz]
 by_cases h:c>=s.1
 ·simp -implicitDefEqProofs only [EQA,ZC,Z7,Nat.reduceAdd,Nat.reduceLT,Nat.reduceEqDiff,Nat.reduceBEq,ZH,unG,reduceCtorEq,↓reduceIte,Zd,Zti,Zj4,ZsK,oI,h]
  try (simp [Zak,gcA,ZB,ZA,Zp,ZV,Zl,Zv,ZZ,Zm,ZR,Ze,Zk,ZF,ZN,List.range_succ])
 ·simp -implicitDefEqProofs only [EQA,ZC,Z7,Nat.reduceAdd,Nat.reduceLT,Nat.reduceEqDiff,Nat.reduceBEq,ZH,Zau,reduceCtorEq,↓reduceIte,Zd,Zti,Zj4,ZsK,oI,h]
  try (simp [Zak,gcA,ZB,ZA,Zp,ZV,Zl,Zv,ZZ,Zm,ZR,Ze,Zk,ZF,ZN,List.range_succ])
theorem ZEG (k:Int) (σ:Za) (sq own:Nat):Zj E BY σ sq 50 own true [.int .i64 k]=some (.lst false ((Zfq k).map Zdu),σ,{}):=by
 obtain ⟨f,h⟩:=ZJx k
 exact Zbm h (by kernel_rfl) rfl rfl rfl (fun _=>rfl) _ _ _
theorem ZvO (σ:Za) (sq t own:Nat) (view:Bool) (c:Int) (s:Int×Int) (hs:σ[t]?=some (.var [.int .i64 c])) (hff:ZaU σ sq own=true):Zj E BY σ sq 51 own view [.agg [.int .i64 s.1,.int .i64 s.2],.ref t 0]=some (.bool (Zfj c s),σ.set t (.var [.int .i64 c]),{ any:=true,upd:=[(t,[.int .i64 c])] }) :=
 Znl hs rfl rfl (by kernel_rfl) hff rfl rfl (fun ρ h=>by simp only [Ze,Zk,h]) rfl rfl (Zzj c s)
theorem Zue (L:List (Int×Int)) (c:Int) (hL:L.length<=9223372036854775807):∀ (r:List (Int×Int)) (i:Nat),L.drop i=r ->
  ∃ z,Zkq 1 [(8,.int .i64 i),(7,.int .i64 L.length),(1,.fn 51 [.ref 0 0]),(0,.lst false (L.map Zdu))] [.var [.int .i64 c]]=some (.int .i64 z,[.var [.int .i64 c]])/\decide (z>=0)=r.any (Zfj c)
 | [],i,h=>by
  have h1:=Zc4 h
  refine ⟨-1,?_,by simp⟩
  unfold Zkq
  rw [Z9]
  simp -implicitDefEqProofs only [EQA,Z7,Nat.reduceLT,Nat.reduceEqDiff,reduceCtorEq,↓reduceIte,Zd,Zur,ZEQ,Zmw,Zo6,Ziv,oI,h1]
 | x::r,i,h=>by
  obtain ⟨z,ih,hz⟩:=Zue L c hL r (i+1) (Zad h).2.1
  have h1:(i:Int) < L.length:=by have:=(Zad h).2.2;omega
  have e1:=iad (Zad h).1 Zdu (k:=2) rfl
  have e3:=Zdc h1 hL
  have hm:x ∈ L:=List.mem_of_getElem? (Zad h).1
  have hc:=fun σ sq t own view hs hff=>ZvO σ sq t own view c x hs hff
  unfold Zkq at ih ⊢
  cases hb:Zfj c x
  ·refine ⟨z,?_,by rw [hz];simp [hb]⟩
   rw [Z9]
   simp -implicitDefEqProofs only [EQA,ZC,Z7,Nat.reduceAdd,Nat.reduceLT,Nat.reduceLeDiff,Nat.reduceEqDiff,Nat.reduceBEq,reduceCtorEq,↓reduceIte,gcT,gcA,ZB,ZA,Zl,Zv,ZZ,Zm,ZR,ZF,ZN,List.range_succ,Zo6,Ziv,oI,h1,e1,e3,hc,hb,ZaU,Zdu]
   exact ih
  ·refine ⟨i,?_,by simp [hb]⟩
   rw [Z9]
   simp -implicitDefEqProofs only [EQA,ZC,Z7,Nat.reduceAdd,Nat.reduceLT,Nat.reduceLeDiff,Nat.reduceEqDiff,Nat.reduceBEq,reduceCtorEq,↓reduceIte,Zd,Zur,Zo6,Ziv,oI,h1,e1,hc,hb,ZaU,Zdu]
theorem ZJI (L:List (Int×Int)) (c:Int) (hL:L.length<=9223372036854775807) :
  ∃ z,E 94 [.lst false (L.map Zdu),.fn 51 [.ref 0 0]] [.var [.int .i64 c]]=some (.int .i64 z,[.var [.int .i64 c]])/\decide (z>=0)=L.any (Zfj c):=by
 obtain ⟨z,h,hz⟩:=Zue L c hL L 0 rfl
 refine ⟨z,?_,hz⟩
 rw [Zh (by rfl) ZFa]
 have z0:((0:Nat):Int)=0:=rfl
 rw [z0] at h
 unfold Zkq at h
 simp -implicitDefEqProofs only [EQA,Z7,Nat.reduceLT,Nat.reduceEqDiff,reduceCtorEq,↓reduceIte,gcT,gcA,ZB,ZA,Zl,Zv,ZZ,Zm,ZR,ZF,ZN,List.range_succ,ZHa,ZnS,oI,h]
theorem ZMT (L:List (Int×Int)) (c:Int) (hL:L.length<=9223372036854775807) :
  E 49 [.lst false (L.map Zdu),.fn 51 [.ref 0 0]] [.var [.int .i64 c]]=some (.bool (L.any (Zfj c)),[.var [.int .i64 c]]):=by
 obtain ⟨z,h,hz⟩:=ZJI L c hL
 rw [Zh (by rfl) ZBP]
 have hc:=fun (σ:Za) sq t view hs=>Znl (O:=E) (bf:=BY) (σ:=σ) (t:=t) (sq:=sq) (own:=0) (view:=view) (f:=94) (args:=[.lst false (L.map Zdu),.fn 51 [.ref t 0]]) (vs:=[.lst false (L.map Zdu),.fn 51 [.ref t 0]]) hs rfl rfl (by kernel_rfl) rfl rfl rfl (fun ρ h=>by simp only [Ze,Zk,h]) rfl rfl h
 simp -implicitDefEqProofs only [EQA,Z7,Nat.reduceLT,Nat.reduceEqDiff,reduceCtorEq,↓reduceIte,Zd,ZIe,ZpH,ZGH,oI,hc,hz]
theorem ZCX (k c:Int):E 23 [.int .i64 k,.int .i64 c] []=some (.bool (ZjB k c),[]):=by
 have h:=ZMT (Zfq k) c (by have:=ZMm k;omega)
 have hC:=fun σ sq own=>ZEG k σ sq own
 unfold ZjB
 generalize Zfq k=L at *
 rw [Zh (by rfl) ZE1]
 have hc:=fun (σ:Za) sq t view hs=>Znl (O:=E) (bf:=BY) (σ:=σ) (t:=t) (sq:=sq) (own:=0) (view:=view) (f:=49) (args:=[.lst false (L.map Zdu),.fn 51 [.ref t 0]]) (vs:=[.lst false (L.map Zdu),.fn 51 [.ref t 0]]) hs rfl rfl (by kernel_rfl) rfl rfl rfl (fun ρ h=>by simp only [Ze,Zk,h]) rfl rfl h
 simp -implicitDefEqProofs only [EQA,ZC,Nat.reduceLT,Nat.reduceEqDiff,Nat.reduceBEq,reduceCtorEq,↓reduceIte,Zwi,ZmD,ZBS,oI,hC,hc]
theorem ZiL (k c:Int) (σ:Za) (sq own:Nat):Zj E BY σ sq 23 own true [.int .i64 k,.int .i64 c]=some (.bool (ZjB k c),σ,{}) :=
 Zcl (ZCX k c) (by kernel_rfl) (by simp -implicitDefEqProofs only [ZcR,Zbq,eq_self,eq_self]) (by simp -implicitDefEqProofs only [ZC,Zbq,eq_self,eq_self]) rfl (fun _=>rfl) _ _ _ _
end
section
abbrev RK (α:Type):=Except Int (α×Zb)
def ZaE (n:Nat) (l:Zb):RK Int:=if l.length < n then .error 129 else .ok (Zid (l.take n),l.drop n)
def Zap (l:Zb):RK Zb:=if (Zaa l).2.2=0 then .ok ((Zaa l).1,l.drop (Zaa l).2.1) else .error 129
def Zc1 (l:Zb):RK Zb:=if (ZaC l).2.2=0 then .ok ((ZaC l).1,l.drop (ZaC l).2.1) else .error 129
def ZbE (w:Int) (l:Zb):RK (List Zt):=if (Zae w l).2.2=0 then .ok ((Zae w l).1,l.drop (Zae w l).2.1) else .error (Zae w l).2.2
def idK (l:Zb):RK Int:=match ZaE 2 l with
 | .ok (n,r)=>if n=0 then .error 130 else .ok (n,r)
 | .error c=>.error c
def ZaD (k:Int) (l:Zb):RK Int:=match ZaE 1 l with
 | .ok (n,r)=>if ZjB k n=true then .ok (n,r) else .error 130
 | .error c=>.error c
theorem ZO {v:AVal} (hv:ZG v=true):∀ {P:List AVal} (k:Nat),Zd P=true->Zd (P.set k v)=true
 | [],_,_=>rfl
 | x::P,0,h=>by
  simp only [Zd,Bool.and_eq_true,List.set_cons_zero] at h ⊢
  exact ⟨hv,h.2⟩
 | x::P,k+1,h=>by
  simp only [Zd,Bool.and_eq_true,List.set_cons_succ] at h ⊢
  exact ⟨h.1,ZO hv k h.2⟩
theorem ZbW (f:Bool) (xs:List AVal):ZG (.lst f xs)=true:=rfl
section
variable (P:List AVal) (hP:P.length=26) (hN:Zd P=true)
include hP
theorem Zat (k k':Nat) (hk:k < 26) (hk':k'=k+1) (L v:AVal):List.take k (P++[L])++[v]++List.drop k' (P++[L])=P.set k v++[L]:=by
 subst hk'
 rw [List.take_append_of_le_length (by omega),List.drop_append_of_le_length (by omega),<-List.append_assoc]
 congr 1
 rw [List.set_eq_take_append_cons_drop,if_pos (by omega)]
 simp
theorem Z2 (k:Nat) (hk:k < 26) (L:AVal):(P++[L])[k]?=P[k]?:=List.getElem?_append_left (by omega)
theorem Zg3 (k:Nat) (hk:k < 26) (L v:AVal):(P.set k v++[L])[k]?=some v:=by
 rw [List.getElem?_append_left (by simp;omega),List.getElem?_set_self (by omega)]
include hN
section
variable (l:Zb) (hl:l.length<=140737488355328) (σ:Za) (t sq:Nat) (hs:σ[t]?=some (.var (P++[.lst false (l.map Zc)])))
include hl hs
theorem Zcz {n:Nat} {m:Int} {a:Int} {r:Zb} (hm:((n:Nat):Int)=m) (h:ZaE n l=.ok (a,r)):Zj E BY σ sq 55 0 true [.ref t 0,.int .i64 m]=some (.int .i64 a,σ.set t (.var (P++[.lst false (r.map Zc)])),{ any:=true,upd:=[(t,P++[.lst false (r.map Zc)])] }):=by
 subst hm
 unfold ZaE at h
 split at h
 ·cases h
 ·injection h with h;injection h with h1 h2;subst h1 h2
  exact ZcJ (rest:=[.int .i64 (n:Nat)]) (by kernel_rfl) rfl (Zw P hP hN _ _) (Zw P hP hN _ _) rfl rfl (ZK8 P hP hN l n (by omega) hl) hs sq
theorem ZfA {n:Nat} {m:Int} {c:Int} (hm:((n:Nat):Int)=m) (hn:n<=9223372036854775807) (h:ZaE n l=.error c):Zj E BY σ sq 55 0 true [.ref t 0,.int .i64 m]=some (.pan (Zy c),σ.set t (.var (P++[.lst false (l.map Zc)])),{ any:=true,upd:=[(t,P++[.lst false (l.map Zc)])] }):=by
 subst hm
 unfold ZaE at h
 split at h
 ·injection h with h;subst h
  exact Zcq (rest:=[.int .i64 (n:Nat)]) (by kernel_rfl) rfl (Zw P hP hN _ _) (Zw P hP hN _ _) rfl (ZGy P hP hN l n (by omega) hn) hs sq
 ·cases h
theorem ZdI {a r:Zb} (h:Zap l=.ok (a,r)):Zj E BY σ sq 64 0 true [.ref t 0]=some (.str a,σ.set t (.var (P++[.lst false (r.map Zc)])),{ any:=true,upd:=[(t,P++[.lst false (r.map Zc)])] }):=by
 unfold Zap at h
 split at h
 ·rename_i h0
  injection h with h;injection h with h1 h2;subst h1 h2
  exact ZcJ (rest:=[]) (by kernel_rfl) rfl (Zw P hP hN _ _) (Zw P hP hN _ _) rfl rfl (ZDB P hP hN l hl h0) hs sq
 ·cases h
theorem Zgj {c:Int} (h:Zap l=.error c):Zj E BY σ sq 64 0 true [.ref t 0]=some (.pan (Zy c),σ.set t (.var (P++[.lst false (l.map Zc)])),{ any:=true,upd:=[(t,P++[.lst false (l.map Zc)])] }):=by
 unfold Zap at h
 split at h
 ·cases h
 ·rename_i h0
  injection h with h;subst h
  exact Zcq (rest:=[]) (by kernel_rfl) rfl (Zw P hP hN _ _) (Zw P hP hN _ _) rfl (ZJO P hP hN l hl h0) hs sq
theorem ZqC {a r:Zb} (h:Zc1 l=.ok (a,r)):Zj E BY σ sq 95 0 true [.ref t 0]=some (.lst false (a.map Zc),σ.set t (.var (P++[.lst false (r.map Zc)])),{ any:=true,upd:=[(t,P++[.lst false (r.map Zc)])] }):=by
 unfold Zc1 at h
 split at h
 ·rename_i h0
  injection h with h;injection h with h1 h2;subst h1 h2
  exact ZcJ (rest:=[]) (by kernel_rfl) rfl (Zw P hP hN _ _) (Zw P hP hN _ _) rfl rfl (ZB7 P hP hN l hl h0) hs sq
 ·cases h
theorem Zrf {c:Int} (h:Zc1 l=.error c):Zj E BY σ sq 95 0 true [.ref t 0]=some (.pan (Zy c),σ.set t (.var (P++[.lst false (l.map Zc)])),{ any:=true,upd:=[(t,P++[.lst false (l.map Zc)])] }):=by
 unfold Zc1 at h
 split at h
 ·cases h
 ·rename_i h0
  injection h with h;subst h
  exact Zcq (rest:=[]) (by kernel_rfl) rfl (Zw P hP hN _ _) (Zw P hP hN _ _) rfl (ZAg P hP hN l hl h0) hs sq
theorem ZdQ {w:Int} {a:List Zt} {r:Zb} (hu:(Zae w l).2.1<=l.length) (h:ZbE w l=.ok (a,r)):Zj E BY σ sq 57 0 true [.ref t 0,.int .i64 w]=some (.lst false (a.map Zn),σ.set t (.var (P++[.lst false (r.map Zc)])),{ any:=true,upd:=[(t,P++[.lst false (r.map Zc)])] }):=by
 unfold ZbE at h
 split at h
 ·rename_i h0
  injection h with h;injection h with h1 h2;subst h1 h2
  exact ZcJ (rest:=[.int .i64 w]) (by kernel_rfl) rfl (Zw P hP hN _ _) (Zw P hP hN _ _) rfl rfl (Zya P hP hN w l hl h0 hu) hs sq
 ·cases h
theorem ZfV {w c:Int} (h:ZbE w l=.error c):Zj E BY σ sq 57 0 true [.ref t 0,.int .i64 w]=some (.pan (Zy c),σ.set t (.var (P++[.lst false (l.map Zc)])),{ any:=true,upd:=[(t,P++[.lst false (l.map Zc)])] }):=by
 unfold ZbE at h
 split at h
 ·cases h
 ·rename_i h0
  injection h with h;subst h
  exact Zcq (rest:=[.int .i64 w]) (by kernel_rfl) rfl (Zw P hP hN _ _) (Zw P hP hN _ _) rfl (ZwR P hP hN w l hl h0) hs sq
end
theorem ZJM (l:Zb) (hl:l.length<=140737488355328) {n:Int} {r:Zb} (h:idK l=.ok (n,r)):E 59 [.ref 0 0] [.var (P++[.lst false (l.map Zc)])]=some (.tup [],[.var (P.set 4 (.int .i64 n)++[.lst false (r.map Zc)])]):=by
 unfold idK at h
 split at h
 case h_2=>cases h
 rename_i n' r' h2
 split at h
 ·cases h
 rename_i hn
 injection h with h;injection h with h3 h4;subst h3 h4
 have hG:=fun σ sq hs=>Zcz P hP hN l hl σ 0 sq hs (m:=2) rfl h2
 have a1:=Z1 P hP
 have a3:=Zat P hP 4 5 (by omega) rfl
 have a4:=Zg3 P hP 4 (by omega)
 have m1:=Za5
 have h0:(n' != 0)=true:=by simpa using hn
 rw [Zh (by rfl) Zog]
 simp -implicitDefEqProofs only [EQA,ZC,Zq,Nat.reduceAdd,Nat.reduceLT,Nat.reduceLeDiff,Nat.reduceEqDiff,reduceCtorEq,↓reduceIte,Zd,ZmB,Zig,Zz4,oI,oN,hG,a1,a3,a4,m1,h0]
 exact ZS rfl (ZaA (ZO rfl 4 hN) (by rfl))
theorem ZkN (l:Zb) (hl:l.length<=140737488355328) {c:Int} (h:idK l=.error c):∃ cs,Zd cs=true/\E 59 [.ref 0 0] [.var (P++[.lst false (l.map Zc)])]=some (.pan (Zy c),[.var cs]):=by
 unfold idK at h
 split at h
 ·rename_i n' r' h2
  split at h
  case isFalse=>cases h
  rename_i hn
  injection h with h;subst h hn
  have hG:=fun σ sq hs=>Zcz P hP hN l hl σ 0 sq hs (m:=2) rfl h2
  have a1:=Z1 P hP
  have a3:=Zat P hP 4 5 (by omega) rfl
  have a4:=Zg3 P hP 4 (by omega)
  have m1:=Zbs
  refine ⟨P.set 4 (.int .i64 0)++[.lst false (r'.map Zc)],ZaA (ZO rfl 4 hN) (by rfl),?_⟩
  rw [Zh (by rfl) Zog]
  simp -implicitDefEqProofs only [EQA,ZC,Nat.reduceAdd,Nat.reduceLT,Nat.reduceLeDiff,Nat.reduceEqDiff,reduceCtorEq,↓reduceIte,ZmB,Zig,oI,oN,hG,a1,a3,a4,m1,bne_self_eq_false]
  exact ZS rfl (ZaA (ZO rfl 4 hN) (by rfl))
 ·rename_i c' h2
  injection h with h;subst h
  have hG:=fun σ sq hs=>ZfA P hP hN l hl σ 0 sq hs (m:=2) rfl (by decide) h2
  refine ⟨P++[.lst false (l.map Zc)],ZaA hN (by rfl),?_⟩
  rw [Zh (by rfl) Zog]
  simp -implicitDefEqProofs only [EQA,Nat.reduceLT,reduceCtorEq,↓reduceIte,ZmB,Zig,oI,oN,hG]
  exact ZS rfl (ZaA hN (by rfl))
theorem Zyt (k:Int) (hk:P[0]?=some (.int .i64 k)) (l:Zb) (hl:l.length<=140737488355328) {n:Int} {r:Zb} (h:ZaD k l=.ok (n,r)):E 56 [.ref 0 0] [.var (P++[.lst false (l.map Zc)])]=some (.int .i64 n,[.var (P++[.lst false (r.map Zc)])]):=by
 unfold ZaD at h
 split at h
 case h_2=>cases h
 rename_i n' r' h2
 split at h
 case isFalse=>cases h
 rename_i hn
 injection h with h;injection h with h3 h4;subst h3 h4
 have hG:=fun σ sq hs=>Zcz P hP hN l hl σ 0 sq hs (m:=1) rfl h2
 have a4:=fun L=>(Z2 P hP 0 (by omega) L).trans hk
 have m1:=Za5
 have hC:=fun σ sq own=>ZiL k n' σ sq own
 rw [hn] at hC
 rw [Zh (by rfl) ZfR]
 simp -implicitDefEqProofs only [EQA,Nat.reduceLT,Nat.reduceEqDiff,reduceCtorEq,↓reduceIte,Zff,Zeq,ZtF,oI,hG,hC,a4,m1]
 exact ZS rfl (ZaA hN (by rfl))
theorem Zs6 (k:Int) (hk:P[0]?=some (.int .i64 k)) (l:Zb) (hl:l.length<=140737488355328) {c:Int} (h:ZaD k l=.error c):∃ cs,Zd cs=true/\E 56 [.ref 0 0] [.var (P++[.lst false (l.map Zc)])]=some (.pan (Zy c),[.var cs]):=by
 unfold ZaD at h
 split at h
 ·rename_i n' r' h2
  split at h
  case isTrue=>cases h
  rename_i hn
  injection h with h;subst h
  have hG:=fun σ sq hs=>Zcz P hP hN l hl σ 0 sq hs (m:=1) rfl h2
  have a4:=fun L=>(Z2 P hP 0 (by omega) L).trans hk
  have m1:=Zbs
  have hC:=fun σ sq own=>ZiL k n' σ sq own
  rw [Bool.not_eq_true _ |>.mp hn] at hC
  refine ⟨P++[.lst false (r'.map Zc)],ZaA hN (by rfl),?_⟩
  rw [Zh (by rfl) ZfR]
  simp -implicitDefEqProofs only [EQA,Nat.reduceLT,Nat.reduceEqDiff,reduceCtorEq,↓reduceIte,Zff,Zeq,oI,hG,hC,a4,m1]
  exact ZS rfl (ZaA hN (by rfl))
 ·rename_i c' h2
  injection h with h;subst h
  have hG:=fun σ sq hs=>ZfA P hP hN l hl σ 0 sq hs (m:=1) rfl (by decide) h2
  refine ⟨P++[.lst false (l.map Zc)],ZaA hN (by rfl),?_⟩
  rw [Zh (by rfl) ZfR]
  simp -implicitDefEqProofs only [EQA,Nat.reduceLT,reduceCtorEq,↓reduceIte,Zff,Zeq,oI,hG]
  exact ZS rfl (ZaA hN (by rfl))
section
variable (l:Zb) (hl:l.length<=140737488355328) (σ:Za) (t sq:Nat) (hs:σ[t]?=some (.var (P++[.lst false (l.map Zc)])))
include hl hs
theorem Zfy {n:Int} {r:Zb} (h:idK l=.ok (n,r)):Zj E BY σ sq 59 0 true [.ref t 0]=some (.tup [],σ.set t (.var (P.set 4 (.int .i64 n)++[.lst false (r.map Zc)])),{ any:=true,upd:=[(t,P.set 4 (.int .i64 n)++[.lst false (r.map Zc)])] }) :=
 ZcJ (rest:=[]) (by kernel_rfl) rfl (Zw P hP hN _ _) (ZaA (ZO rfl 4 hN) (by rfl)) rfl rfl (ZJM P hP hN l hl h) hs sq
theorem ZiP (k:Int) (hk:P[0]?=some (.int .i64 k)) {n:Int} {r:Zb} (h:ZaD k l=.ok (n,r)):Zj E BY σ sq 56 0 true [.ref t 0]=some (.int .i64 n,σ.set t (.var (P++[.lst false (r.map Zc)])),{ any:=true,upd:=[(t,P++[.lst false (r.map Zc)])] }) :=
 ZcJ (rest:=[]) (by kernel_rfl) rfl (Zw P hP hN _ _) (Zw P hP hN _ _) rfl rfl (Zyt P hP hN k hk l hl h) hs sq
end
end
end
section
def Ze4:Option (List Zt)->AVal
 | none=>.lst true []
 | some l=>.lst false (l.map Zn)
def Zcs (k:Int) (l:Zb):RK (Int×Option (List Zt)) :=
 if l.length=0 then .ok ((0,none),l) else match ZaD k l with
 | .error c=>.error c
 | .ok (c,r)=>if r.length=0 then .ok ((c,none),r) else match ZbE k r with
  | .error c=>.error c
  | .ok (ps,r')=>.ok ((c,some ps),r')
theorem ZlI {k n:Int} {l r:Zb} (h:ZaD k l=.ok (n,r)):r.length<=l.length:=by
 unfold ZaD ZaE at h
 split at h
 ·rename_i h1
  split at h1
  ·cases h1
  ·injection h1 with h1;injection h1 with _ h1
   split at h
   ·injection h with h;injection h with _ h;subst h h1;simp
   ·cases h
 ·cases h
theorem Zkl {P:List AVal} {k:Nat} {v:AVal} (h:P[k]?=some v):P.set k v=P:=by
 apply List.ext_getElem?
 intro j
 rw [List.getElem?_set]
 split
 ·rename_i e;subst e
  have hk:k < P.length:=by
   rcases Nat.lt_or_ge k P.length with h' | h'
   ·exact h'
   ·rw [List.getElem?_eq_none h'] at h;cases h
  rw [if_pos hk,h]
 ·rfl
section
variable (P:List AVal) (hP:P.length=26) (hN:Zd P=true)
include hP hN
theorem ZGj (k:Int) (hk:P[0]?=some (.int .i64 k)) (h7:P[7]?=some (.int .i64 0)) (h9:P[9]?=some (.lst true [])) (hu:∀ r:Zb,r.length<=140737488355328->(Zae k r).2.1<=r.length) (l:Zb) (hl:l.length<=140737488355328) {c:Int} {ps:Option (List Zt)} {r:Zb} (h:Zcs k l=.ok ((c,ps),r)) :
  E 60 [.ref 0 0] [.var (P++[.lst false (l.map Zc)])]=some (.tup [],[.var ((P.set 7 (.int .i64 c)).set 9 (Ze4 ps)++[.lst false (r.map Zc)])]):=by
 have a1:=Z1 P hP
 have a2:=Zao P hP
 unfold Zcs at h
 split at h
 ·rename_i h0
  injection h with h;injection h with h1 h2;injection h1 with h1 h3;subst h1 h2 h3
  have hg:¬(l.length:Int) > 0:=by omega
  rw [show Ze4 none=.lst true [] from rfl,Zkl h7,Zkl h9]
  rw [Zh (by rfl) ZiI]
  simp -implicitDefEqProofs only [EQA,Zq,Nat.reduceLT,reduceCtorEq,↓reduceIte,Zd,ZiX,Zf6,ZnM,oI,oN,a2,hg]
  exact ZS rfl (Zw P hP hN _ _)
 ·rename_i h0
  have hg:(l.length:Int) > 0:=by omega
  split at h
  ·cases h
  rename_i c' r' hc
  have hr':=ZlI hc
  have hC:=fun σ sq hs=>ZiP P hP hN l hl σ 0 sq hs k hk hc
  have a3:=Zat P hP 7 8 (by omega) rfl
  have hP7:(P.set 7 (.int .i64 c')).length=26:=by simp [hP]
  have hN7:Zd (P.set 7 (.int .i64 c'))=true:=ZO rfl 7 hN
  have hk7:(P.set 7 (.int .i64 c'))[0]?=some (.int .i64 k):=by rw [List.getElem?_set_ne (by omega)];exact hk
  have h97:(P.set 7 (.int .i64 c'))[9]?=some (.lst true []):=by rw [List.getElem?_set_ne (by omega)];exact h9
  have b1:=Z1 _ hP7
  have b2:=Zao _ hP7
  have b3:=Zat _ hP7 9 10 (by omega) rfl
  have b4:=fun L=>(Z2 _ hP7 0 (by omega) L).trans hk7
  split at h
  ·rename_i h1
   injection h with h;injection h with h1 h2;injection h1 with h1 h3;subst h1 h2 h3
   have hg':¬(r'.length:Int) > 0:=by omega
   rw [show Ze4 none=.lst true [] from rfl,Zkl h97]
   rw [Zh (by rfl) ZiI]
   simp -implicitDefEqProofs only [EQA,ZC,Zq,Nat.reduceAdd,Nat.reduceLT,Nat.reduceLeDiff,Nat.reduceEqDiff,reduceCtorEq,↓reduceIte,Zd,ZiX,Zf6,ZnM,oI,oN,a1,a2,a3,b2,hg,hg',hC]
   exact ZS rfl (Zw _ hP7 hN7 _ _)
  ·rename_i h1
   have hg':(r'.length:Int) > 0:=by omega
   split at h
   ·cases h
   rename_i ps' r2 hp
   injection h with h;injection h with h1 h2;injection h1 with h1 h3;subst h1 h2 h3
   have hG:=fun σ sq hs=>ZdQ _ hP7 hN7 r' (by omega) σ 0 sq hs (hu r' (by omega)) hp
   rw [Zh (by rfl) ZiI]
   simp -implicitDefEqProofs only [EQA,ZC,Zq,Nat.reduceAdd,Nat.reduceLT,Nat.reduceLeDiff,Nat.reduceEqDiff,reduceCtorEq,↓reduceIte,Zd,ZiX,Zf6,ZnM,oI,oN,a1,a2,a3,b1,b2,b3,b4,hg,hg',hC,hG,Ze4]
   exact ZS rfl (ZaA (ZO (ZbW _ _) 9 hN7) (by rfl))
theorem Zr5 (k:Int) (hk:P[0]?=some (.int .i64 k)) (hu:∀ r:Zb,r.length<=140737488355328->(Zae k r).2.1<=r.length) (l:Zb) (hl:l.length<=140737488355328) {e:Int} (h:Zcs k l=.error e) :
  ∃ cs,Zd cs=true/\E 60 [.ref 0 0] [.var (P++[.lst false (l.map Zc)])]=some (.pan (Zy e),[.var cs]):=by
 have a1:=Z1 P hP
 have a2:=Zao P hP
 unfold Zcs at h
 split at h
 ·cases h
 ·rename_i h0
  have hg:(l.length:Int) > 0:=by omega
  split at h
  ·rename_i c hc
   injection h with h;subst h
   obtain ⟨cs,hn,he⟩:=Zs6 P hP hN k hk l hl hc
   have hC:=fun (σ:Za) sq (hs:σ[0]?=some (.var (P++[.lst false (l.map Zc)])))=>Zcq (O:=E) (bf:=BY) (f:=56) (view:=true) (rest:=[]) (by kernel_rfl) rfl (Zw P hP hN _ _) hn rfl he hs sq
   refine ⟨cs,hn,?_⟩
   rw [Zh (by rfl) ZiI]
   simp -implicitDefEqProofs only [EQA,Nat.reduceLT,reduceCtorEq,↓reduceIte,ZiX,Zf6,oI,oN,a2,hg,hC]
   exact ZS rfl hn
  ·rename_i c' r' hc
   have hr':=ZlI hc
   have hC:=fun σ sq hs=>ZiP P hP hN l hl σ 0 sq hs k hk hc
   have a3:=Zat P hP 7 8 (by omega) rfl
   have hP7:(P.set 7 (.int .i64 c')).length=26:=by simp [hP]
   have hN7:Zd (P.set 7 (.int .i64 c'))=true:=ZO rfl 7 hN
   have hk7:(P.set 7 (.int .i64 c'))[0]?=some (.int .i64 k):=by rw [List.getElem?_set_ne (by omega)];exact hk
   have b1:=Z1 _ hP7
   have b2:=Zao _ hP7
   have b4:=fun L=>(Z2 _ hP7 0 (by omega) L).trans hk7
   split at h
   ·cases h
   ·rename_i h1
    have hg':(r'.length:Int) > 0:=by omega
    split at h
    ·rename_i c hp
     injection h with h;subst h
     have hG:=fun σ sq hs=>ZfV _ hP7 hN7 r' (by omega) σ 0 sq hs hp
     refine ⟨P.set 7 (.int .i64 c')++[.lst false (r'.map Zc)],Zw _ hP7 hN7 _ _,?_⟩
     rw [Zh (by rfl) ZiI]
     simp -implicitDefEqProofs only [EQA,ZC,Nat.reduceAdd,Nat.reduceLT,Nat.reduceLeDiff,Nat.reduceEqDiff,reduceCtorEq,↓reduceIte,ZiX,Zf6,oI,oN,a1,a2,a3,b2,b4,hg,hg',hC,hG]
     exact ZS rfl (Zw _ hP7 hN7 _ _)
    ·cases h
section
variable (l:Zb) (hl:l.length<=140737488355328) (σ:Za) (t sq:Nat) (hs:σ[t]?=some (.var (P++[.lst false (l.map Zc)])))
include hl hs
theorem Zrx (k:Int) (hk:P[0]?=some (.int .i64 k)) (h7:P[7]?=some (.int .i64 0)) (h9:P[9]?=some (.lst true [])) (hu:∀ r:Zb,r.length<=140737488355328->(Zae k r).2.1<=r.length) {c:Int} {ps:Option (List Zt)} {r:Zb} (h:Zcs k l=.ok ((c,ps),r)):Zj E BY σ sq 60 0 true [.ref t 0]=some (.tup [],σ.set t (.var ((P.set 7 (.int .i64 c)).set 9 (Ze4 ps)++[.lst false (r.map Zc)])),{ any:=true,upd:=[(t,(P.set 7 (.int .i64 c)).set 9 (Ze4 ps)++[.lst false (r.map Zc)])] }) :=
 ZcJ (rest:=[]) (by kernel_rfl) rfl (Zw P hP hN _ _) (ZaA (ZO (by cases ps <;> rfl) 9 (ZO rfl 7 hN)) (by rfl)) rfl rfl (ZGj P hP hN k hk h7 h9 hu l hl h) hs sq
end
end
theorem ZgC {n:Nat} {l r:Zb} {a:Int} (h:ZaE n l=.ok (a,r)):r.length<=l.length:=by
 unfold ZaE at h
 split at h
 ·cases h
 ·injection h with h;injection h with _ h;subst h;simp
theorem ZeE {l r:Zb} {a:Int} (h:idK l=.ok (a,r)):r.length<=l.length:=by
 unfold idK at h
 split at h
 ·rename_i h1
  split at h
  ·cases h
  ·injection h with h;injection h with _ h;subst h;exact ZgC h1
 ·cases h
theorem Zdg {l r a:Zb} (h:Zap l=.ok (a,r)):r.length<=l.length:=by
 unfold Zap at h
 split at h
 ·injection h with h;injection h with _ h;subst h;simp
 ·cases h
theorem Zsz {l r a:Zb} (h:Zc1 l=.ok (a,r)):r.length<=l.length:=by
 unfold Zc1 at h
 split at h
 ·injection h with h;injection h with _ h;subst h;simp
 ·cases h
theorem ZgB {w:Int} {l r:Zb} {a:List Zt} (h:ZbE w l=.ok (a,r)):r.length<=l.length:=by
 unfold ZbE at h
 split at h
 ·injection h with h;injection h with _ h;subst h;simp
 ·cases h
def Zed (qos:Int) (l:Zb):Except Int (Zb×Int×List Zt×Zb):=match Zap l with
 | .error c=>.error c
 | .ok (tp,r1)=>if qos > 0 then (match idK r1 with
  | .error c=>.error c
  | .ok (n,r2)=>match ZbE 3 r2 with
   | .error c=>.error c
   | .ok (ps,r3)=>.ok (tp,n,ps,r3))
  else match ZbE 3 r1 with
   | .error c=>.error c
   | .ok (ps,r3)=>.ok (tp,0,ps,r3)
section
variable (P:List AVal) (hP:P.length=26) (hN:Zd P=true)
include hP hN
theorem ZA1 (qos:Int) (h2:P[2]?=some (.int .i64 qos)) (h4:P[4]?=some (.int .i64 0)) (hu:∀ r:Zb,r.length<=140737488355328->(Zae 3 r).2.1<=r.length) (l:Zb) (hl:l.length<=140737488355328) {tp:Zb} {n:Int} {ps:List Zt} {pay:Zb} (h:Zed qos l=.ok (tp,n,ps,pay)) :
  E 58 [.ref 0 0] [.var (P++[.lst false (l.map Zc)])]=some (.tup [],[.var ((((P.set 5 (.str tp)).set 4 (.int .i64 n)).set 9 (.lst false (ps.map Zn))).set 6 (.lst false (pay.map Zc))++[.lst true []])]):=by
 have a1:=Z1 P hP
 have a2:=Zao P hP
 unfold Zed at h
 split at h
 ·cases h
 rename_i tp' r1 ht
 have l1:=Zdg ht
 have hT:=fun σ sq hs=>ZdI P hP hN l hl σ 0 sq hs ht
 have a3:=fun L=>Zat P hP 5 6 (by omega) rfl L (.str tp')
 have hP5:(P.set 5 (.str tp')).length=26:=by simp [hP]
 have hN5:Zd (P.set 5 (.str tp'))=true:=ZO rfl 5 hN
 have h25:(P.set 5 (.str tp'))[2]?=some (.int .i64 qos):=by rw [List.getElem?_set_ne (by omega)];exact h2
 have h45:(P.set 5 (.str tp'))[4]?=some (.int .i64 0):=by rw [List.getElem?_set_ne (by omega)];exact h4
 generalize hQ:P.set 5 (.str tp')=Q at *
 have b1:=Z1 _ hP5
 have b2:=Zao _ hP5
 have b4:=fun L=>(Z2 _ hP5 2 (by omega) L).trans h25
 split at h
 ·rename_i hq
  split at h
  ·cases h
  rename_i n' r2 hi
  have l2:=ZeE hi
  split at h
  ·cases h
  rename_i ps' r3 hp
  have l3:=ZgB hp
  injection h with h;injection h with e1 h;injection h with e2 h;injection h with e3 e4;subst e1 e2 e3 e4
  rw [hQ]
  have hI:=fun σ sq hs=>Zfy Q hP5 hN5 r1 (by omega) σ 0 sq hs hi
  have hP4:(Q.set 4 (.int .i64 n')).length=26:=by simp [hP5]
  have hN4:Zd (Q.set 4 (.int .i64 n'))=true:=ZO rfl 4 hN5
  generalize Q.set 4 (.int .i64 n')=R at *
  have hG:=fun σ sq hs=>ZdQ _ hP4 hN4 r2 (by omega) σ 0 sq hs (hu r2 (by omega)) hp
  have c1:=Z1 _ hP4
  have c2:=Zao _ hP4
  have c3:=fun L=>Zat _ hP4 9 10 (by omega) rfl L (.lst false (ps'.map Zn))
  have hP9:(R.set 9 (.lst false (ps'.map Zn))).length=26:=by simp [hP4]
  have hN9:Zd (R.set 9 (.lst false (ps'.map Zn)))=true:=ZO (ZbW _ _) 9 hN4
  generalize R.set 9 (.lst false (ps'.map Zn))=S at *
  have d1:=Z1 _ hP9
  have d2:=Zao _ hP9
  have d3:=fun L=>Zat _ hP9 6 7 (by omega) rfl L (.lst false (r3.map Zc))
  have hP6:(S.set 6 (.lst false (r3.map Zc))).length=26:=by simp [hP9]
  have hN6:Zd (S.set 6 (.lst false (r3.map Zc)))=true:=ZO (ZbW _ _) 6 hN9
  generalize S.set 6 (.lst false (r3.map Zc))=U at *
  have f1:=Z1 _ hP6
  have f3:=Zej _ hP6
  have f4:=ZfF _ hP6
  have hC:=fun σ sq own=>Zow σ sq own r3 (by omega)
  rw [Zh (by rfl) Zhs]
  simp -implicitDefEqProofs only [EQA,ZC,Zq,Nat.reduceAdd,Nat.reduceLT,Nat.reduceLeDiff,Nat.reduceEqDiff,reduceCtorEq,↓reduceIte,Zd,Zg5,Zfh,ZrU,oI,oN,a1,a3,b4,c1,c3,d1,d2,d3,f1,f3,f4,hq,hT,hI,hG,hC]
  exact ZS rfl (ZaA hN6 (by rfl))
 ·rename_i hq
  split at h
  ·cases h
  rename_i ps' r3 hp
  have l3:=ZgB hp
  injection h with h;injection h with e1 h;injection h with e2 h;injection h with e3 e4;subst e1 e2 e3 e4
  rw [hQ,Zkl h45]
  have hG:=fun σ sq hs=>ZdQ _ hP5 hN5 r1 (by omega) σ 0 sq hs (hu r1 (by omega)) hp
  have c3:=fun L=>Zat _ hP5 9 10 (by omega) rfl L (.lst false (ps'.map Zn))
  have hP9:(Q.set 9 (.lst false (ps'.map Zn))).length=26:=by simp [hP5]
  have hN9:Zd (Q.set 9 (.lst false (ps'.map Zn)))=true:=ZO (ZbW _ _) 9 hN5
  generalize Q.set 9 (.lst false (ps'.map Zn))=S at *
  have d1:=Z1 _ hP9
  have d2:=Zao _ hP9
  have d3:=fun L=>Zat _ hP9 6 7 (by omega) rfl L (.lst false (r3.map Zc))
  have hP6:(S.set 6 (.lst false (r3.map Zc))).length=26:=by simp [hP9]
  have hN6:Zd (S.set 6 (.lst false (r3.map Zc)))=true:=ZO (ZbW _ _) 6 hN9
  generalize S.set 6 (.lst false (r3.map Zc))=U at *
  have f1:=Z1 _ hP6
  have f3:=Zej _ hP6
  have f4:=ZfF _ hP6
  have hC:=fun σ sq own=>Zow σ sq own r3 (by omega)
  rw [Zh (by rfl) Zhs]
  simp -implicitDefEqProofs only [EQA,ZC,Zq,Nat.reduceAdd,Nat.reduceLT,Nat.reduceLeDiff,Nat.reduceEqDiff,reduceCtorEq,↓reduceIte,Zd,Zg5,Zfh,ZrU,oI,oN,a1,a3,b1,b4,c3,d1,d2,d3,f1,f3,f4,hq,hT,hG,hC]
  exact ZS rfl (ZaA hN6 (by rfl))
theorem ZwZ (qos:Int) (h2:P[2]?=some (.int .i64 qos)) (l:Zb) (hl:l.length<=140737488355328) {c:Int} (h:Zed qos l=.error c) :
  ∃ cs,Zd cs=true/\E 58 [.ref 0 0] [.var (P++[.lst false (l.map Zc)])]=some (.pan (Zy c),[.var cs]):=by
 have a1:=Z1 P hP
 have a2:=Zao P hP
 unfold Zed at h
 split at h
 ·rename_i c' ht
  injection h with h;subst h
  have hT:=fun σ sq hs=>Zgj P hP hN l hl σ 0 sq hs ht
  refine ⟨P++[.lst false (l.map Zc)],Zw P hP hN _ _,?_⟩
  rw [Zh (by rfl) Zhs]
  simp -implicitDefEqProofs only [EQA,Nat.reduceLT,reduceCtorEq,↓reduceIte,Zg5,Zfh,oI,oN,hT]
  exact ZS rfl (Zw P hP hN _ _)
 rename_i tp' r1 ht
 have l1:=Zdg ht
 have hT:=fun σ sq hs=>ZdI P hP hN l hl σ 0 sq hs ht
 have a3:=fun L=>Zat P hP 5 6 (by omega) rfl L (.str tp')
 have hP5:(P.set 5 (.str tp')).length=26:=by simp [hP]
 have hN5:Zd (P.set 5 (.str tp'))=true:=ZO rfl 5 hN
 have h25:(P.set 5 (.str tp'))[2]?=some (.int .i64 qos):=by rw [List.getElem?_set_ne (by omega)];exact h2
 generalize hQ:P.set 5 (.str tp')=Q at *
 have b1:=Z1 _ hP5
 have b2:=Zao _ hP5
 have b4:=fun L=>(Z2 _ hP5 2 (by omega) L).trans h25
 split at h
 ·rename_i hq
  split at h
  ·rename_i c' hi
   injection h with h;subst h
   obtain ⟨cs,hn,he⟩:=ZkN Q hP5 hN5 r1 (by omega) hi
   have hI:=fun (σ:Za) sq (hs:σ[0]?=some (.var (Q++[.lst false (r1.map Zc)])))=>Zcq (O:=E) (bf:=BY) (f:=59) (view:=true) (rest:=[]) (by kernel_rfl) rfl (Zw Q hP5 hN5 _ _) hn rfl he hs sq
   refine ⟨cs,hn,?_⟩
   rw [Zh (by rfl) Zhs]
   simp -implicitDefEqProofs only [EQA,ZC,Nat.reduceAdd,Nat.reduceLT,Nat.reduceLeDiff,Nat.reduceEqDiff,reduceCtorEq,↓reduceIte,Zg5,Zfh,oI,oN,a1,a3,b4,hq,hT,hI]
   exact ZS rfl hn
  rename_i n' r2 hi
  have l2:=ZeE hi
  split at h
  ·rename_i c' hp
   injection h with h;subst h
   have hI:=fun σ sq hs=>Zfy Q hP5 hN5 r1 (by omega) σ 0 sq hs hi
   have hP4:(Q.set 4 (.int .i64 n')).length=26:=by simp [hP5]
   have hN4:Zd (Q.set 4 (.int .i64 n'))=true:=ZO rfl 4 hN5
   generalize Q.set 4 (.int .i64 n')=R at *
   have hG:=fun σ sq hs=>ZfV _ hP4 hN4 r2 (by omega) σ 0 sq hs hp
   refine ⟨R++[.lst false (r2.map Zc)],Zw R hP4 hN4 _ _,?_⟩
   rw [Zh (by rfl) Zhs]
   simp -implicitDefEqProofs only [EQA,ZC,Nat.reduceAdd,Nat.reduceLT,Nat.reduceLeDiff,Nat.reduceEqDiff,reduceCtorEq,↓reduceIte,Zg5,Zfh,oI,oN,a1,a3,b4,hq,hT,hI,hG]
   exact ZS rfl (Zw R hP4 hN4 _ _)
  ·cases h
 ·rename_i hq
  split at h
  ·rename_i c' hp
   injection h with h;subst h
   have hG:=fun σ sq hs=>ZfV _ hP5 hN5 r1 (by omega) σ 0 sq hs hp
   refine ⟨Q++[.lst false (r1.map Zc)],Zw Q hP5 hN5 _ _,?_⟩
   rw [Zh (by rfl) Zhs]
   simp -implicitDefEqProofs only [EQA,ZC,Nat.reduceAdd,Nat.reduceLT,Nat.reduceLeDiff,Nat.reduceEqDiff,reduceCtorEq,↓reduceIte,Zg5,Zfh,oI,oN,a1,a3,b4,hq,hT,hG]
   exact ZS rfl (Zw Q hP5 hN5 _ _)
  ·cases h
end
end
section
abbrev KSt:=List AVal×Zb
def Zg (P:List AVal) (l:Zb):Za:=[.var (P++[.lst false (l.map Zc)])]
def KRuns (c:Zf) (tm tm':Tms) (P:List AVal) (l:Zb):Except Int KSt->Prop
 | .ok (P',l')=>evC FC PR BY 1 c tm (Zg P l)=some (.normal,tm',Zg P' l')/\P'.length=26/\Zd P'=true/\l'.length<=l.length
 | .error e=>∃ tm2 cs,Zd cs=true/\evC FC PR BY 1 c tm (Zg P l)=some (.panic (Zy e),tm2,[.var cs])
theorem KRuns.seq {a b:Zf} {tm tm1 tm2:Tms} {P:List AVal} {l:Zb} {x:Except Int KSt} {f:KSt->Except Int KSt} (h:KRuns a tm tm1 P l x) (hb:∀ P' l',x=.ok (P',l')->P'.length=26->Zd P'=true->l'.length<=l.length->KRuns b tm1 tm2 P' l' (f (P',l'))):KRuns (.seq a b) tm tm2 P l (x.bind f):=by
 cases x with
 | error e =>
  obtain ⟨t,cs,h1,h2⟩:=h
  exact ⟨t,cs,h1,ZhZ (by simp) h2⟩
 | ok s =>
  obtain ⟨P',l'⟩:=s
  obtain ⟨h1,h2,h3,h4⟩:=h
  have hb:=hb P' l' rfl h2 h3 h4
  show KRuns (.seq a b) tm tm2 P l (f (P',l'))
  generalize f (P',l')=y at *
  cases y with
  | error e =>
   obtain ⟨t,cs,g1,g2⟩:=hb
   exact ⟨t,cs,g1,by rw [ZiG h1];exact g2⟩
  | ok s =>
   obtain ⟨P2,l2⟩:=s
   obtain ⟨g1,g2,g3,g4⟩:=hb
   exact ⟨by rw [ZiG h1];exact g1,g2,g3,by omega⟩
def KRun (c:Zf) (tm:Tms) (P:List AVal) (l:Zb) (x:Except Int KSt):Prop:=∃ tm',KRuns c tm tm' P l x
theorem KRun.seqT {a b:Zf} {tm tm1:Tms} {P P1:List AVal} {l l1:Zb} {x:Except Int KSt} (h:evC FC PR BY 1 a tm (Zg P l)=some (.normal,tm1,Zg P1 l1)) (hl:l1.length<=l.length) (hb:KRun b tm1 P1 l1 x):KRun (.seq a b) tm P l x:=by
 obtain ⟨tm',hb⟩:=hb
 refine ⟨tm',?_⟩
 cases x with
 | error e =>
  obtain ⟨t,cs,g1,g2⟩:=hb
  exact ⟨t,cs,g1,by rw [ZiG h];exact g2⟩
 | ok s =>
  obtain ⟨P2,l2⟩:=s
  obtain ⟨g1,g2,g3,g4⟩:=hb
  exact ⟨by rw [ZiG h];exact g1,g2,g3,by omega⟩
theorem KRun.seqF {a b:Zf} {tm tm2:Tms} {P cs:List AVal} {l:Zb} {e:Int} (hn:Zd cs=true) (h:evC FC PR BY 1 a tm (Zg P l)=some (.panic (Zy e),tm2,[.var cs])):KRun (.seq a b) tm P l (.error e) :=
 ⟨[],tm2,cs,hn,ZhZ (by simp) h⟩
theorem KRuns.fnT {f:Nat} {fn:ZE} (hp:PR f=none) (hf:FC f=some fn) (hr:fn.res=[]) {P P':List AVal} {l l':Zb} (h:KRun fn.body [(0,.ref 0 0)] P l (.ok (P',l'))):E f [.ref 0 0] (Zg P l)=some (.tup [],Zg P' l'):=by
 obtain ⟨_,h1,h2,h3,h4⟩:=h
 rw [Zh hp hf]
 show Zar 1 fn (evC FC PR BY 1 fn.body [(0,.ref 0 0)] (Zg P l))=_
 rw [h1]
 simp only [Zar,hr,resA,resAll]
 exact ZS rfl (ZaA h3 (by rfl))
theorem KRuns.fnF {f:Nat} {fn:ZE} (hp:PR f=none) (hf:FC f=some fn) {P:List AVal} {l:Zb} {e:Int} (h:KRun fn.body [(0,.ref 0 0)] P l (.error e)):∃ cs,Zd cs=true/\E f [.ref 0 0] (Zg P l)=some (.pan (Zy e),[.var cs]):=by
 obtain ⟨_,t,cs,h1,h2⟩:=h
 refine ⟨cs,h1,?_⟩
 rw [Zh hp hf]
 show Zar 1 fn (evC FC PR BY 1 fn.body [(0,.ref 0 0)] (Zg P l))=_
 rw [h2]
 simp only [Zar]
 exact ZS rfl h1
end
section
def cn1:Zf:=(.region [⟨(some 4),(.mov (.t 0)),none,[]⟩,⟨(some 5),(.nilchk (.t 4)),none,[]⟩,⟨(some 6),(.faddr 0 (.t 5)),none,[]⟩,⟨(some 2),(.mov (.t 6)),none,[]⟩] none [2,0])
def cn2:Zf:=(.region [⟨(some 7),(.mov (.t 0)),none,[]⟩,⟨(some 8),(.call 64 0 true [(.t 7)]),none,[]⟩,⟨(some 9),(.bin .eql (.t 8) (.c (.str [77,81,84,84]))),none,[]⟩,⟨(some 10),(.call 53 0 true [(.t 9),(.c (.int .i64 132))]),none,[]⟩] none [2,0])
def cn3:Zf:=(.region [⟨(some 11),(.mov (.t 0)),none,[]⟩,⟨(some 12),(.call 55 0 true [(.t 11),(.c (.int .i64 1))]),none,[]⟩,⟨(some 13),(.bin .eql (.t 12) (.c (.int .i64 5))),none,[]⟩,⟨(some 14),(.call 53 0 true [(.t 13),(.c (.int .i64 132))]),none,[]⟩] none [2,0])
def cn4:Zf:=(.region [⟨(some 15),(.mov (.t 0)),none,[]⟩,⟨(some 16),(.call 55 0 true [(.t 15),(.c (.int .i64 1))]),none,[]⟩,⟨(some 3),(.mov (.t 16)),none,[]⟩] none [3,2,0])
def cn5:Zf:=(.region [⟨(some 17),(.mov (.t 2)),none,[]⟩,⟨(some 18),(.mov (.t 2)),none,[]⟩,⟨(some 19),(.mov (.t 3)),none,[]⟩,⟨(some 20),(.bin .and (.t 19) (.c (.int .i64 2))),none,[]⟩,⟨(some 21),(.bin .neq (.t 20) (.c (.int .i64 0))),none,[]⟩,⟨(some 22),(.mov (.t 3)),none,[]⟩,⟨(some 23),(.bin .and (.t 22) (.c (.int .i64 4))),none,[]⟩,⟨(some 24),(.bin .neq (.t 23) (.c (.int .i64 0))),none,[]⟩,⟨(some 25),(.nilchk (.t 17)),none,[]⟩,⟨(some 26),(.faddr 12 (.t 25)),none,[]⟩,⟨none,(.st 1 (.t 26) (.t 21)),none,[]⟩,⟨(some 27),(.nilchk (.t 18)),none,[]⟩,⟨(some 28),(.faddr 15 (.t 27)),none,[]⟩,⟨none,(.st 1 (.t 28) (.t 24)),none,[]⟩] none [3,2,0])
def cn6:Zf:=(.region [⟨(some 29),(.mov (.t 2)),none,[]⟩,⟨(some 30),(.mov (.t 2)),none,[]⟩,⟨(some 31),(.mov (.t 3)),none,[]⟩,⟨(some 32),(.bin .and (.t 31) (.c (.int .i64 64))),none,[]⟩,⟨(some 33),(.bin .neq (.t 32) (.c (.int .i64 0))),none,[]⟩,⟨(some 34),(.mov (.t 3)),none,[]⟩,⟨(some 35),(.bin .and (.t 34) (.c (.int .i64 128))),none,[]⟩,⟨(some 36),(.bin .neq (.t 35) (.c (.int .i64 0))),none,[]⟩,⟨(some 37),(.nilchk (.t 29)),none,[]⟩,⟨(some 38),(.faddr 23 (.t 37)),none,[]⟩,⟨none,(.st 1 (.t 38) (.t 33)),none,[]⟩,⟨(some 39),(.nilchk (.t 30)),none,[]⟩,⟨(some 40),(.faddr 21 (.t 39)),none,[]⟩,⟨none,(.st 1 (.t 40) (.t 36)),none,[]⟩] none [3,2,0])
def cn7:Zf:=(.region [⟨(some 41),(.mov (.t 2)),none,[]⟩,⟨(some 42),(.mov (.t 2)),none,[]⟩,⟨(some 43),(.mov (.t 3)),none,[]⟩,⟨(some 44),(.bin .quo (.t 43) (.c (.int .i64 8))),none,[]⟩,⟨(some 45),(.bin .and (.t 44) (.c (.int .i64 3))),none,[]⟩,⟨(some 46),(.mov (.t 3)),none,[]⟩,⟨(some 47),(.bin .and (.t 46) (.c (.int .i64 32))),none,[]⟩,⟨(some 48),(.bin .neq (.t 47) (.c (.int .i64 0))),none,[]⟩,⟨(some 49),(.nilchk (.t 41)),none,[]⟩,⟨(some 50),(.faddr 16 (.t 49)),none,[]⟩,⟨(some 51),(.faddr 2 (.t 50)),none,[]⟩,⟨none,(.st 1 (.t 51) (.t 45)),none,[]⟩,⟨(some 52),(.nilchk (.t 42)),none,[]⟩,⟨(some 53),(.faddr 16 (.t 52)),none,[]⟩,⟨(some 54),(.faddr 3 (.t 53)),none,[]⟩,⟨none,(.st 1 (.t 54) (.t 48)),none,[]⟩] none [3,2,0])
def cn8:Zf:=(.region [⟨(some 55),(.mov (.t 3)),none,[]⟩,⟨(some 56),(.bin .and (.t 55) (.c (.int .i64 1))),none,[]⟩,⟨(some 57),(.bin .eql (.t 56) (.c (.int .i64 0))),none,[]⟩,⟨(some 58),(.mov (.t 57)),none,[]⟩,⟨(some 59),(.mov (.t 2)),(some (58,true)),[]⟩,⟨(some 60),(.nilchk (.t 59)),(some (58,true)),[]⟩,⟨(some 61),(.faddr 16 (.t 60)),(some (58,true)),[]⟩,⟨(some 62),(.faddr 2 (.t 61)),(some (58,true)),[]⟩,⟨(some 63),(.ld none (.t 62)),(some (58,true)),[]⟩,⟨(some 64),(.bin .lss (.t 63) (.c (.int .i64 3))),(some (58,true)),[]⟩,⟨(some 65),(.pick (.t 58) (.t 64) (.c (.bool false))),none,[]⟩,⟨(some 66),(.mov (.t 65)),none,[]⟩,⟨(some 67),(.mov (.t 2)),(some (66,true)),[]⟩,⟨(some 68),(.nilchk (.t 67)),(some (66,true)),[]⟩,⟨(some 69),(.faddr 15 (.t 68)),(some (66,true)),[]⟩,⟨(some 70),(.ld none (.t 69)),(some (66,true)),[]⟩,⟨(some 71),(.mov (.t 70)),(some (66,true)),[]⟩,⟨(some 72),(.mov (.t 2)),(some (71,false)),[]⟩,⟨(some 73),(.nilchk (.t 72)),(some (71,false)),[]⟩,⟨(some 74),(.faddr 16 (.t 73)),(some (71,false)),[]⟩,⟨(some 75),(.faddr 2 (.t 74)),(some (71,false)),[]⟩,⟨(some 76),(.ld none (.t 75)),(some (71,false)),[]⟩,⟨(some 77),(.bin .eql (.t 76) (.c (.int .i64 0))),(some (71,false)),[]⟩,⟨(some 78),(.mov (.t 77)),(some (71,false)),[]⟩,⟨(some 79),(.mov (.t 2)),(some (78,true)),[]⟩,⟨(some 80),(.nilchk (.t 79)),(some (78,true)),[]⟩,⟨(some 81),(.faddr 16 (.t 80)),(some (78,true)),[]⟩,⟨(some 82),(.faddr 3 (.t 81)),(some (78,true)),[]⟩,⟨(some 83),(.ld none (.t 82)),(some (78,true)),[]⟩,⟨(some 84),(.un .not (.t 83)),(some (78,true)),[]⟩,⟨(some 85),(.pick (.t 78) (.t 84) (.c (.bool false))),(some (71,false)),[]⟩,⟨(some 86),(.pick (.t 71) (.c (.bool true)) (.t 85)),(some (66,true)),[]⟩,⟨(some 87),(.pick (.t 66) (.t 86) (.c (.bool false))),none,[]⟩,⟨(some 88),(.call 53 0 true [(.t 87),(.c (.int .i64 129))]),none,[]⟩] none [2,0])
def cn9:Zf:=(.region [⟨(some 89),(.mov (.t 2)),none,[]⟩,⟨(some 90),(.mov (.t 0)),none,[]⟩,⟨(some 91),(.call 55 0 true [(.t 90),(.c (.int .i64 2))]),none,[]⟩,⟨(some 92),(.nilchk (.t 89)),none,[]⟩,⟨(some 93),(.faddr 13 (.t 92)),none,[]⟩,⟨none,(.st 1 (.t 93) (.t 91)),none,[]⟩] none [2,0])
def ZgU:Zf:=(.region [⟨(some 94),(.mov (.t 2)),none,[]⟩,⟨(some 95),(.mov (.t 0)),none,[]⟩,⟨(some 96),(.call 57 0 true [(.t 95),(.c (.int .i64 1))]),none,[]⟩,⟨(some 97),(.nilchk (.t 94)),none,[]⟩,⟨(some 98),(.faddr 9 (.t 97)),none,[]⟩,⟨none,(.st 1 (.t 98) (.t 96)),none,[]⟩] none [2,0])
def Zg6:Zf:=(.region [⟨(some 99),(.mov (.t 2)),none,[]⟩,⟨(some 100),(.mov (.t 0)),none,[]⟩,⟨(some 101),(.call 64 0 true [(.t 100)]),none,[]⟩,⟨(some 102),(.nilchk (.t 99)),none,[]⟩,⟨(some 103),(.faddr 14 (.t 102)),none,[]⟩,⟨none,(.st 1 (.t 103) (.t 101)),none,[]⟩] none [2,0])
def ZdL:Zf:=(.seq (.region [⟨(some 104),(.mov (.t 2)),none,[]⟩,⟨(some 105),(.nilchk (.t 104)),none,[]⟩,⟨(some 106),(.faddr 15 (.t 105)),none,[]⟩,⟨(some 107),(.ld none (.t 106)),none,[]⟩] none [107,2,0]) (.cond (.t 107) (.seq (.region [⟨(some 108),(.mov (.t 2)),none,[]⟩,⟨(some 109),(.mov (.t 0)),none,[]⟩,⟨(some 110),(.call 57 0 true [(.t 109),(.c (.int .i64 16))]),none,[]⟩,⟨(some 111),(.nilchk (.t 108)),none,[]⟩,⟨(some 112),(.faddr 16 (.t 111)),none,[]⟩,⟨(some 113),(.faddr 4 (.t 112)),none,[]⟩,⟨none,(.st 1 (.t 113) (.t 110)),none,[]⟩] none [2,0]) (.seq (.region [⟨(some 114),(.mov (.t 2)),none,[]⟩,⟨(some 115),(.mov (.t 0)),none,[]⟩,⟨(some 116),(.call 64 0 true [(.t 115)]),none,[]⟩,⟨(some 117),(.nilchk (.t 114)),none,[]⟩,⟨(some 118),(.faddr 16 (.t 117)),none,[]⟩,⟨(some 119),(.faddr 0 (.t 118)),none,[]⟩,⟨none,(.st 1 (.t 119) (.t 116)),none,[]⟩] none [2,0]) (.region [⟨(some 120),(.mov (.t 2)),none,[]⟩,⟨(some 121),(.mov (.t 0)),none,[]⟩,⟨(some 122),(.call 95 0 true [(.t 121)]),none,[]⟩,⟨(some 123),(.nilchk (.t 120)),none,[]⟩,⟨(some 124),(.faddr 16 (.t 123)),none,[]⟩,⟨(some 125),(.faddr 1 (.t 124)),none,[]⟩,⟨none,(.st 1 (.t 125) (.t 122)),none,[]⟩] none [2,0]))) .skip))
def Zes:Zf:=(.seq (.region [⟨(some 126),(.mov (.t 2)),none,[]⟩,⟨(some 127),(.nilchk (.t 126)),none,[]⟩,⟨(some 128),(.faddr 21 (.t 127)),none,[]⟩,⟨(some 129),(.ld none (.t 128)),none,[]⟩] none [129,2,0]) (.cond (.t 129) (.region [⟨(some 130),(.mov (.t 2)),none,[]⟩,⟨(some 131),(.mov (.t 0)),none,[]⟩,⟨(some 132),(.call 64 0 true [(.t 131)]),none,[]⟩,⟨(some 133),(.nilchk (.t 130)),none,[]⟩,⟨(some 134),(.faddr 22 (.t 133)),none,[]⟩,⟨none,(.st 1 (.t 134) (.t 132)),none,[]⟩] none [2,0]) .skip))
def Zgp:Zf:=(.region [⟨(some 135),(.mov (.t 2)),none,[]⟩,⟨(some 136),(.nilchk (.t 135)),none,[]⟩,⟨(some 137),(.faddr 23 (.t 136)),none,[]⟩,⟨(some 138),(.ld none (.t 137)),none,[]⟩] none [138,2,0])
def ZdM:Zf:=(.cond (.t 138) (.region [⟨(some 139),(.mov (.t 2)),none,[]⟩,⟨(some 140),(.mov (.t 0)),none,[]⟩,⟨(some 141),(.call 95 0 true [(.t 140)]),none,[]⟩,⟨(some 142),(.nilchk (.t 139)),none,[]⟩,⟨(some 143),(.faddr 24 (.t 142)),none,[]⟩,⟨none,(.st 1 (.t 143) (.t 141)),none,[]⟩] none []) .skip)
theorem ZGl:ZpB=(.seq cn1 (.seq cn2 (.seq cn3 (.seq cn4 (.seq cn5 (.seq cn6 (.seq cn7 (.seq cn8 (.seq cn9 (.seq ZgU (.seq Zg6 (.seq ZdL (.seq Zes (.seq Zgp ZdM)))))))))))))):=rfl
def t20:Tms:=[(2,.ref 0 0),(0,.ref 0 0)]
def ZcB (m:Int):Tms:=[(3,.int .i64 m),(2,.ref 0 0),(0,.ref 0 0)]
def Zu (a b:Int):Int:=IntKind.i64.wrap (BitVec.ofInt IntKind.i64.bits a &&& BitVec.ofInt IntKind.i64.bits b).toNat
def ZdA (m:Int):Int:=IntKind.i64.wrap (m.tdiv 8)
section
variable (P:List AVal) (hP:P.length=26) (hN:Zd P=true) (l:Zb) (hl:l.length<=140737488355328)
include hP hN hl
theorem ZBV:evC FC PR BY 1 cn1 [(0,.ref 0 0)] (Zg P l)=some (.normal,t20,Zg P l):=by
 unfold Zg t20
 simp -implicitDefEqProofs only [EQA,Nat.reduceLT,Nat.reduceEqDiff,reduceCtorEq,↓reduceIte,cn1]
theorem ZE8 {r:Zb} (h:Zap l=.ok ([77,81,84,84],r)):evC FC PR BY 1 cn2 t20 (Zg P l)=some (.normal,t20,Zg P r):=by
 have hT:=fun σ sq hs=>ZdI P hP hN l hl σ 0 sq hs h
 have m1:=Za5
 have e1:(([77,81,84,84]:List UInt8) == [77,81,84,84])=true:=by decide
 unfold Zg t20
 simp -implicitDefEqProofs only [EQA,Nat.reduceLT,Nat.reduceEqDiff,ZeK,reduceCtorEq,↓reduceIte,cn2,hT,m1]
theorem ZDP {a r:Zb} (h:Zap l=.ok (a,r)) (hn:(a == [77,81,84,84])=false):evC FC PR BY 1 cn2 t20 (Zg P l)=some (.panic (Zy 132),[],Zg P r):=by
 have hT:=fun σ sq hs=>ZdI P hP hN l hl σ 0 sq hs h
 have m1:=Zbs
 unfold Zg t20
 simp -implicitDefEqProofs only [EQA,Nat.reduceLT,ZeK,reduceCtorEq,↓reduceIte,cn2,hT,m1,hn]
theorem ZuX {c:Int} (h:Zap l=.error c):evC FC PR BY 1 cn2 t20 (Zg P l)=some (.panic (Zy c),[],Zg P l):=by
 have hT:=fun σ sq hs=>Zgj P hP hN l hl σ 0 sq hs h
 unfold Zg t20
 simp -implicitDefEqProofs only [EQA,Nat.reduceLT,reduceCtorEq,↓reduceIte,cn2,hT]
theorem ZFS {r:Zb} (h:ZaE 1 l=.ok (5,r)):evC FC PR BY 1 cn3 t20 (Zg P l)=some (.normal,t20,Zg P r):=by
 have hT:=fun σ sq hs=>Zcz P hP hN l hl σ 0 sq hs (m:=1) rfl h
 have m1:=Za5
 have e1:((5:Int) == 5)=true:=by decide
 unfold Zg t20
 simp -implicitDefEqProofs only [EQA,Nat.reduceLT,Nat.reduceEqDiff,reduceCtorEq,↓reduceIte,cn3,hT,m1]
theorem ZBL {a:Int} {r:Zb} (h:ZaE 1 l=.ok (a,r)) (hn:(a == 5)=false):evC FC PR BY 1 cn3 t20 (Zg P l)=some (.panic (Zy 132),[],Zg P r):=by
 have hT:=fun σ sq hs=>Zcz P hP hN l hl σ 0 sq hs (m:=1) rfl h
 have m1:=Zbs
 unfold Zg t20
 simp -implicitDefEqProofs only [EQA,Nat.reduceLT,reduceCtorEq,↓reduceIte,cn3,hT,m1,hn]
theorem Zwn {c:Int} (h:ZaE 1 l=.error c):evC FC PR BY 1 cn3 t20 (Zg P l)=some (.panic (Zy c),[],Zg P l):=by
 have hT:=fun σ sq hs=>ZfA P hP hN l hl σ 0 sq hs (m:=1) rfl (by decide) h
 unfold Zg t20
 simp -implicitDefEqProofs only [EQA,Nat.reduceLT,reduceCtorEq,↓reduceIte,cn3,hT]
theorem ZFl {m:Int} {r:Zb} (h:ZaE 1 l=.ok (m,r)):evC FC PR BY 1 cn4 t20 (Zg P l)=some (.normal,ZcB m,Zg P r):=by
 have hT:=fun σ sq hs=>Zcz P hP hN l hl σ 0 sq hs (m:=1) rfl h
 unfold Zg t20 ZcB
 simp -implicitDefEqProofs only [EQA,Nat.reduceLT,Nat.reduceEqDiff,reduceCtorEq,↓reduceIte,cn4,hT]
theorem ZwJ {c:Int} (h:ZaE 1 l=.error c):evC FC PR BY 1 cn4 t20 (Zg P l)=some (.panic (Zy c),[],Zg P l):=by
 have hT:=fun σ sq hs=>ZfA P hP hN l hl σ 0 sq hs (m:=1) rfl (by decide) h
 unfold Zg t20
 simp -implicitDefEqProofs only [EQA,Nat.reduceLT,reduceCtorEq,↓reduceIte,cn4,hT]
theorem ZMg (m:Int):evC FC PR BY 1 cn5 (ZcB m) (Zg P l)=some (.normal,ZcB m,Zg ((P.set 12 (.bool (Zu m 2 != 0))).set 15 (.bool (Zu m 4 != 0))) l):=by
 have a1:=Z1 P hP
 have a3:=fun L=>Zat P hP 12 13 (by omega) rfl L (.bool (Zu m 2 != 0))
 have hP1:(P.set 12 (.bool (Zu m 2 != 0))).length=26:=by simp [hP]
 have b1:=Z1 _ hP1
 have b3:=fun L=>Zat _ hP1 15 16 (by omega) rfl L (.bool (Zu m 4 != 0))
 unfold Zg ZcB
 unfold Zu at *
 simp -implicitDefEqProofs only [EQA,ZC,Nat.reduceAdd,Nat.reduceLT,Nat.reduceLeDiff,Nat.reduceEqDiff,reduceCtorEq,↓reduceIte,cn5,a1,a3,b1,b3]
theorem Zvi (m:Int):evC FC PR BY 1 cn6 (ZcB m) (Zg P l)=some (.normal,ZcB m,Zg ((P.set 23 (.bool (Zu m 64 != 0))).set 21 (.bool (Zu m 128 != 0))) l):=by
 have a1:=Z1 P hP
 have a3:=fun L=>Zat P hP 23 24 (by omega) rfl L (.bool (Zu m 64 != 0))
 have hP1:(P.set 23 (.bool (Zu m 64 != 0))).length=26:=by simp [hP]
 have b1:=Z1 _ hP1
 have b3:=fun L=>Zat _ hP1 21 22 (by omega) rfl L (.bool (Zu m 128 != 0))
 unfold Zg ZcB
 unfold Zu at *
 simp -implicitDefEqProofs only [EQA,ZC,Nat.reduceAdd,Nat.reduceLT,Nat.reduceLeDiff,Nat.reduceEqDiff,reduceCtorEq,↓reduceIte,cn6,a1,a3,b1,b3]
theorem ZAT (m:Int):evC FC PR BY 1 cn7 (ZcB m) (Zg P l)=some (.normal,ZcB m,Zg ((P.set 18 (.int .i64 (Zu (ZdA m) 3))).set 19 (.bool (Zu m 32 != 0))) l):=by
 have a1:=Z1 P hP
 have a3:=fun L=>Zat P hP 18 19 (by omega) rfl L (.int .i64 (Zu (ZdA m) 3))
 have hP1:(P.set 18 (.int .i64 (Zu (ZdA m) 3))).length=26:=by simp [hP]
 have b1:=Z1 _ hP1
 have b3:=fun L=>Zat _ hP1 19 20 (by omega) rfl L (.bool (Zu m 32 != 0))
 have z:¬(8:Int)=0:=by decide
 unfold Zg ZcB
 unfold Zu ZdA at *
 simp -implicitDefEqProofs only [EQA,ZC,Nat.reduceAdd,Nat.reduceLT,Nat.reduceLeDiff,Nat.reduceEqDiff,reduceCtorEq,↓reduceIte,cn7,a1,a3,b1,b3,z]
theorem ZzD {n:Int} {r:Zb} (h:ZaE 2 l=.ok (n,r)):evC FC PR BY 1 cn9 t20 (Zg P l)=some (.normal,t20,Zg (P.set 13 (.int .i64 n)) r):=by
 have hT:=fun σ sq hs=>Zcz P hP hN l hl σ 0 sq hs (m:=2) rfl h
 have a1:=Z1 P hP
 have a3:=Zat P hP 13 14 (by omega) rfl
 unfold Zg t20
 simp -implicitDefEqProofs only [EQA,ZC,Nat.reduceAdd,Nat.reduceLT,Nat.reduceLeDiff,Nat.reduceEqDiff,reduceCtorEq,↓reduceIte,cn9,hT,a1,a3]
theorem ZHQ {c:Int} (h:ZaE 2 l=.error c):evC FC PR BY 1 cn9 t20 (Zg P l)=some (.panic (Zy c),[],Zg P l):=by
 have hT:=fun σ sq hs=>ZfA P hP hN l hl σ 0 sq hs (m:=2) rfl (by decide) h
 unfold Zg t20
 simp -implicitDefEqProofs only [EQA,Nat.reduceLT,reduceCtorEq,↓reduceIte,cn9,hT]
theorem ZAJ (hu:(Zae 1 l).2.1<=l.length) {a:List Zt} {r:Zb} (h:ZbE 1 l=.ok (a,r)):evC FC PR BY 1 ZgU t20 (Zg P l)=some (.normal,t20,Zg (P.set 9 (.lst false (a.map Zn))) r):=by
 have hT:=fun σ sq hs=>ZdQ P hP hN l hl σ 0 sq hs hu h
 have a1:=Z1 P hP
 have a3:=Zat P hP 9 10 (by omega) rfl
 unfold Zg t20
 simp -implicitDefEqProofs only [EQA,ZC,Nat.reduceAdd,Nat.reduceLT,Nat.reduceLeDiff,Nat.reduceEqDiff,reduceCtorEq,↓reduceIte,ZgU,hT,a1,a3]
theorem ZIc {c:Int} (h:ZbE 1 l=.error c):evC FC PR BY 1 ZgU t20 (Zg P l)=some (.panic (Zy c),[],Zg P l):=by
 have hT:=fun σ sq hs=>ZfV P hP hN l hl σ 0 sq hs h
 unfold Zg t20
 simp -implicitDefEqProofs only [EQA,Nat.reduceLT,reduceCtorEq,↓reduceIte,ZgU,hT]
theorem ZH0 {a r:Zb} (h:Zap l=.ok (a,r)):evC FC PR BY 1 Zg6 t20 (Zg P l)=some (.normal,t20,Zg (P.set 14 (.str a)) r):=by
 have hT:=fun σ sq hs=>ZdI P hP hN l hl σ 0 sq hs h
 have a1:=Z1 P hP
 have a3:=Zat P hP 14 15 (by omega) rfl
 unfold Zg t20
 simp -implicitDefEqProofs only [EQA,ZC,Nat.reduceAdd,Nat.reduceLT,Nat.reduceLeDiff,Nat.reduceEqDiff,reduceCtorEq,↓reduceIte,Zg6,hT,a1,a3]
theorem ZLM {c:Int} (h:Zap l=.error c):evC FC PR BY 1 Zg6 t20 (Zg P l)=some (.panic (Zy c),[],Zg P l):=by
 have hT:=fun σ sq hs=>Zgj P hP hN l hl σ 0 sq hs h
 unfold Zg t20
 simp -implicitDefEqProofs only [EQA,Nat.reduceLT,reduceCtorEq,↓reduceIte,Zg6,hT]
end
def Zg7 (m q:Int) (hw rt:Bool):Bool:=(Zu m 1 == 0) && decide (q < 3) && (hw || ((q == 0) && !rt))
section
variable (P:List AVal) (hP:P.length=26) (hN:Zd P=true) (l:Zb) (hl:l.length<=140737488355328)
variable (m q:Int) (hw rt:Bool) (h15:P[15]?=some (.bool hw)) (h18:P[18]?=some (.int .i64 q)) (h19:P[19]?=some (.bool rt))
include hP hN hl h15 h18 h19
theorem ZE9 (h:Zg7 m q hw rt=true):evC FC PR BY 1 cn8 (ZcB m) (Zg P l)=some (.normal,t20,Zg P l):=by
 have a4:=fun L=>(Z2 P hP 15 (by omega) L).trans h15
 have a5:=fun L=>(Z2 P hP 18 (by omega) L).trans h18
 have a6:=fun L=>(Z2 P hP 19 (by omega) L).trans h19
 have m1:=Za5
 unfold Zg7 Zu at h
 simp only [Bool.and_eq_true,decide_eq_true_eq,Bool.or_eq_true] at h
 obtain ⟨⟨e1,e2⟩,e3⟩:=h
 unfold Zg ZcB t20
 cases hw
 ·simp only [Bool.false_eq_true,false_or] at e3
  obtain ⟨e3,e4⟩:=e3
  cases rt
  ·simp -implicitDefEqProofs only [EQA,Nat.reduceAdd,Nat.reduceLT,Nat.reduceEqDiff,unA,ZH,unG,reduceCtorEq,↓reduceIte,cn8,a4,a5,a6,m1,e1,e2,e3]
  ·cases e4
 ·simp -implicitDefEqProofs only [EQA,Nat.reduceAdd,Nat.reduceLT,Nat.reduceEqDiff,ZH,Zau,unG,reduceCtorEq,↓reduceIte,cn8,a4,a5,m1,e1,e2]
theorem ZCD (h:Zg7 m q hw rt=false):evC FC PR BY 1 cn8 (ZcB m) (Zg P l)=some (.panic (Zy 129),[],Zg P l):=by
 have a4:=fun L=>(Z2 P hP 15 (by omega) L).trans h15
 have a5:=fun L=>(Z2 P hP 18 (by omega) L).trans h18
 have a6:=fun L=>(Z2 P hP 19 (by omega) L).trans h19
 have m1:=Zbs
 unfold Zg7 Zu at h
 unfold Zg ZcB
 by_cases e1:(IntKind.i64.wrap (BitVec.ofInt IntKind.i64.bits m &&& BitVec.ofInt IntKind.i64.bits 1).toNat == 0)=true
 ·rw [e1] at h
  by_cases e2:q < 3
  ·cases hw
   ·by_cases e3:(q == 0)=true
    ·cases rt
     ·simp [e2,e3] at h
     ·simp -implicitDefEqProofs only [EQA,Nat.reduceAdd,Nat.reduceLT,Nat.reduceEqDiff,unA,ZH,unG,reduceCtorEq,↓reduceIte,cn8,a4,a5,a6,m1,e1,e2,e3]
    ·have e3:=Bool.not_eq_true _ |>.mp e3
     simp -implicitDefEqProofs only [EQA,Nat.reduceAdd,Nat.reduceLT,Nat.reduceEqDiff,ZH,Zau,unG,reduceCtorEq,↓reduceIte,cn8,a4,a5,m1,e1,e2,e3]
   ·simp [e2] at h
  ·simp -implicitDefEqProofs only [EQA,Nat.reduceAdd,Nat.reduceLT,Nat.reduceEqDiff,ZH,Zau,unG,reduceCtorEq,↓reduceIte,cn8,a5,m1,e1,e2]
 ·have e1:=Bool.not_eq_true _ |>.mp e1
  simp -implicitDefEqProofs only [EQA,Nat.reduceLT,Nat.reduceEqDiff,ZH,Zau,reduceCtorEq,↓reduceIte,cn8,m1,e1]
end
def ZcW (n:Nat):Tms:=[(n,.bool false),(2,.ref 0 0),(0,.ref 0 0)]
def ZgR (P:List AVal) (ps:List Zt) (tp d:Zb):List AVal:=((P.set 20 (.lst false (ps.map Zn))).set 16 (.str tp)).set 17 (.lst false (d.map Zc))
def ZdS (l:Zb):Except Int (List Zt×Zb×Zb×Zb):=match ZbE 16 l with
 | .error c=>.error c
 | .ok (ps,r1)=>match Zap r1 with
  | .error c=>.error c
  | .ok (tp,r2)=>match Zc1 r2 with
   | .error c=>.error c
   | .ok (d,r3)=>.ok (ps,tp,d,r3)
section
variable (P:List AVal) (hP:P.length=26) (hN:Zd P=true) (l:Zb) (hl:l.length<=140737488355328)
include hP hN hl
theorem ZE2 (h15:P[15]?=some (.bool false)):evC FC PR BY 1 ZdL t20 (Zg P l)=some (.normal,ZcW 107,Zg P l):=by
 have a4:=fun L=>(Z2 P hP 15 (by omega) L).trans h15
 unfold Zg t20 ZcW
 simp -implicitDefEqProofs only [EQA,Nat.reduceLT,Nat.reduceEqDiff,reduceCtorEq,↓reduceIte,ZdL,a4]
theorem ZGM (h15:P[15]?=some (.bool true)) (hu:(Zae 16 l).2.1<=l.length) {ps:List Zt} {tp d r:Zb} (h:ZdS l=.ok (ps,tp,d,r)):evC FC PR BY 1 ZdL t20 (Zg P l)=some (.normal,t20,Zg (ZgR P ps tp d) r):=by
 have a1:=Z1 P hP
 have a4:=fun L=>(Z2 P hP 15 (by omega) L).trans h15
 unfold ZdS at h
 split at h
 ·cases h
 rename_i ps' r1 hp
 split at h
 ·cases h
 rename_i tp' r2 ht
 split at h
 ·cases h
 rename_i d' r3 hd
 have l1:=ZgB hp
 have l2:=Zdg ht
 injection h with h;injection h with e1 h;injection h with e2 h;injection h with e3 e4;subst e1 e2 e3 e4
 have hG:=fun σ sq hs=>ZdQ P hP hN l hl σ 0 sq hs hu hp
 have a3:=fun L=>Zat P hP 20 21 (by omega) rfl L (.lst false (ps'.map Zn))
 unfold ZgR
 have hP1:(P.set 20 (.lst false (ps'.map Zn))).length=26:=by simp [hP]
 have hN1:Zd (P.set 20 (.lst false (ps'.map Zn)))=true:=ZO (ZbW _ _) 20 hN
 generalize P.set 20 (.lst false (ps'.map Zn))=Q at *
 have hT:=fun σ sq hs=>ZdI Q hP1 hN1 r1 (by omega) σ 0 sq hs ht
 have b1:=Z1 _ hP1
 have b3:=fun L=>Zat _ hP1 16 17 (by omega) rfl L (.str tp')
 have hP2:(Q.set 16 (.str tp')).length=26:=by simp [hP1]
 have hN2:Zd (Q.set 16 (.str tp'))=true:=ZO rfl 16 hN1
 generalize Q.set 16 (.str tp')=R at *
 have hD:=fun σ sq hs=>ZqC R hP2 hN2 r2 (by omega) σ 0 sq hs hd
 have c1:=Z1 _ hP2
 have c3:=Zat _ hP2 17 18 (by omega) rfl
 unfold Zg t20
 simp -implicitDefEqProofs only [EQA,ZC,Nat.reduceAdd,Nat.reduceLT,Nat.reduceLeDiff,Nat.reduceEqDiff,reduceCtorEq,↓reduceIte,ZdL,a1,a3,a4,b1,b3,c1,c3,hG,hT,hD]
theorem ZuV (h15:P[15]?=some (.bool true)) (hu:(Zae 16 l).2.1<=l.length) {c:Int} (h:ZdS l=.error c):∃ cs,Zd cs=true/\evC FC PR BY 1 ZdL t20 (Zg P l)=some (.panic (Zy c),[],[.var cs]):=by
 have a1:=Z1 P hP
 have a4:=fun L=>(Z2 P hP 15 (by omega) L).trans h15
 unfold ZdS at h
 split at h
 ·rename_i c' hp
  injection h with h;subst h
  have hG:=fun σ sq hs=>ZfV P hP hN l hl σ 0 sq hs hp
  refine ⟨P++[.lst false (l.map Zc)],Zw P hP hN _ _,?_⟩
  unfold Zg t20
  simp -implicitDefEqProofs only [EQA,Nat.reduceLT,Nat.reduceEqDiff,reduceCtorEq,↓reduceIte,ZdL,a4,hG]
 rename_i ps' r1 hp
 have l1:=ZgB hp
 have hG:=fun σ sq hs=>ZdQ P hP hN l hl σ 0 sq hs hu hp
 have a3:=fun L=>Zat P hP 20 21 (by omega) rfl L (.lst false (ps'.map Zn))
 have hP1:(P.set 20 (.lst false (ps'.map Zn))).length=26:=by simp [hP]
 have hN1:Zd (P.set 20 (.lst false (ps'.map Zn)))=true:=ZO (ZbW _ _) 20 hN
 generalize P.set 20 (.lst false (ps'.map Zn))=Q at *
 have b1:=Z1 _ hP1
 split at h
 ·rename_i c' ht
  injection h with h;subst h
  have hT:=fun σ sq hs=>Zgj Q hP1 hN1 r1 (by omega) σ 0 sq hs ht
  refine ⟨Q++[.lst false (r1.map Zc)],Zw Q hP1 hN1 _ _,?_⟩
  unfold Zg t20
  simp -implicitDefEqProofs only [EQA,ZC,Nat.reduceAdd,Nat.reduceLT,Nat.reduceLeDiff,Nat.reduceEqDiff,reduceCtorEq,↓reduceIte,ZdL,a1,a3,a4,hG,hT]
 rename_i tp' r2 ht
 have l2:=Zdg ht
 have hT:=fun σ sq hs=>ZdI Q hP1 hN1 r1 (by omega) σ 0 sq hs ht
 have b3:=fun L=>Zat _ hP1 16 17 (by omega) rfl L (.str tp')
 have hP2:(Q.set 16 (.str tp')).length=26:=by simp [hP1]
 have hN2:Zd (Q.set 16 (.str tp'))=true:=ZO rfl 16 hN1
 generalize Q.set 16 (.str tp')=R at *
 split at h
 ·rename_i c' hd
  injection h with h;subst h
  have hD:=fun σ sq hs=>Zrf R hP2 hN2 r2 (by omega) σ 0 sq hs hd
  refine ⟨R++[.lst false (r2.map Zc)],Zw R hP2 hN2 _ _,?_⟩
  unfold Zg t20
  simp -implicitDefEqProofs only [EQA,ZC,Nat.reduceAdd,Nat.reduceLT,Nat.reduceLeDiff,Nat.reduceEqDiff,reduceCtorEq,↓reduceIte,ZdL,a1,a3,a4,b1,b3,hG,hT,hD]
 ·cases h
theorem ZBQ {tm:Tms} (ht:tm=t20\/tm=ZcW 107) (h21:P[21]?=some (.bool false)):evC FC PR BY 1 Zes tm (Zg P l)=some (.normal,ZcW 129,Zg P l):=by
 have a4:=fun L=>(Z2 P hP 21 (by omega) L).trans h21
 rcases ht with rfl | rfl <;> unfold Zg ZcW <;> try unfold t20
 all_goals simp -implicitDefEqProofs only [EQA,Nat.reduceLT,Nat.reduceEqDiff,reduceCtorEq,↓reduceIte,Zes,a4]
theorem ZGG {tm:Tms} (htm:tm=t20\/tm=ZcW 107) (h21:P[21]?=some (.bool true)) {a r:Zb} (h:Zap l=.ok (a,r)):evC FC PR BY 1 Zes tm (Zg P l)=some (.normal,t20,Zg (P.set 22 (.str a)) r):=by
 have a1:=Z1 P hP
 have a4:=fun L=>(Z2 P hP 21 (by omega) L).trans h21
 have hT:=fun σ sq hs=>ZdI P hP hN l hl σ 0 sq hs h
 have a3:=Zat P hP 22 23 (by omega) rfl
 rcases htm with rfl | rfl <;> unfold Zg t20 <;> try unfold ZcW
 all_goals simp -implicitDefEqProofs only [EQA,ZC,Nat.reduceAdd,Nat.reduceLT,Nat.reduceLeDiff,Nat.reduceEqDiff,reduceCtorEq,↓reduceIte,Zes,a1,a3,a4,hT]
theorem ZyD {tm:Tms} (htm:tm=t20\/tm=ZcW 107) (h21:P[21]?=some (.bool true)) {c:Int} (h:Zap l=.error c):evC FC PR BY 1 Zes tm (Zg P l)=some (.panic (Zy c),[],Zg P l):=by
 have a4:=fun L=>(Z2 P hP 21 (by omega) L).trans h21
 have hT:=fun σ sq hs=>Zgj P hP hN l hl σ 0 sq hs h
 rcases htm with rfl | rfl <;> unfold Zg <;> first | unfold ZcW | unfold t20
 all_goals simp -implicitDefEqProofs only [EQA,Nat.reduceLT,Nat.reduceEqDiff,reduceCtorEq,↓reduceIte,Zes,a4,hT]
theorem ZCl {tm:Tms} {b:Bool} (htm:tm=t20\/tm=ZcW 129) (h23:P[23]?=some (.bool b)):evC FC PR BY 1 Zgp tm (Zg P l)=some (.normal,[(138,.bool b),(2,.ref 0 0),(0,.ref 0 0)],Zg P l):=by
 have a4:=fun L=>(Z2 P hP 23 (by omega) L).trans h23
 rcases htm with rfl | rfl <;> unfold Zg <;> first | unfold ZcW | unfold t20
 all_goals simp -implicitDefEqProofs only [EQA,Nat.reduceLT,Nat.reduceEqDiff,reduceCtorEq,↓reduceIte,Zgp,a4]
theorem ZGE:KRun ZdM [(138,.bool false),(2,.ref 0 0),(0,.ref 0 0)] P l (.ok (P,l)):=by
 refine ⟨[(138,.bool false),(2,.ref 0 0),(0,.ref 0 0)],?_,hP,hN,Nat.le_refl _⟩
 unfold Zg
 simp -implicitDefEqProofs only [ZsW,eq_self,Opd.ev,tget,Bool.false_eq_true,↓reduceIte,ZdM]
theorem ZEX {a r:Zb} (h:Zc1 l=.ok (a,r)):KRun ZdM [(138,.bool true),(2,.ref 0 0),(0,.ref 0 0)] P l (.ok (P.set 24 (.lst false (a.map Zc)),r)):=by
 have a1:=Z1 P hP
 have hT:=fun σ sq hs=>ZqC P hP hN l hl σ 0 sq hs h
 have a3:=Zat P hP 24 25 (by omega) rfl
 refine ⟨[],?_,by simp [hP],ZO (ZbW _ _) 24 hN,Zsz h⟩
 unfold Zg
 simp -implicitDefEqProofs only [EQA,ZC,Nat.reduceAdd,Nat.reduceLT,Nat.reduceLeDiff,Nat.reduceEqDiff,reduceCtorEq,↓reduceIte,ZdM,a1,a3,hT]
theorem ZvS {c:Int} (h:Zc1 l=.error c):KRun ZdM [(138,.bool true),(2,.ref 0 0),(0,.ref 0 0)] P l (.error c):=by
 have hT:=fun σ sq hs=>Zrf P hP hN l hl σ 0 sq hs h
 refine ⟨[],[],P++[.lst false (l.map Zc)],Zw P hP hN _ _,?_⟩
 unfold Zg
 simp -implicitDefEqProofs only [EQA,Nat.reduceLT,Nat.reduceEqDiff,reduceCtorEq,↓reduceIte,ZdM,hT]
end
def Zbu (P:List AVal) (m:Int):List AVal:=((((((P.set 12 (.bool (Zu m 2 != 0))).set 15 (.bool (Zu m 4 != 0))).set 23 (.bool (Zu m 64 != 0))).set 21 (.bool (Zu m 128 != 0))).set 18 (.int .i64 (Zu (ZdA m) 3))).set 19 (.bool (Zu m 32 != 0)))
def ZiC (P:List AVal) (k:Int) (ps:List Zt) (cl:Zb):List AVal:=((P.set 13 (.int .i64 k)).set 9 (.lst false (ps.map Zn))).set 14 (.str cl)
def Zhn (b:Bool) (s:KSt):Except Int KSt:=if b=true then (match Zc1 s.2 with
 | .error c=>.error c
 | .ok (d,r)=>.ok (s.1.set 24 (.lst false (d.map Zc)),r)) else .ok s
def Zg9 (b:Bool) (s:KSt):Except Int KSt:=if b=true then (match Zap s.2 with
 | .error c=>.error c
 | .ok (d,r)=>.ok (s.1.set 22 (.str d),r)) else .ok s
def Zh2 (b:Bool) (s:KSt):Except Int KSt:=if b=true then (match ZdS s.2 with
 | .error c=>.error c
 | .ok (ps,tp,d,r)=>.ok (ZgR s.1 ps tp d,r)) else .ok s
def Zie (m:Int) (s:KSt):Except Int KSt:=match Zh2 (Zu m 4 != 0) s with
 | .error c=>.error c
 | .ok s=>match Zg9 (Zu m 128 != 0) s with
  | .error c=>.error c
  | .ok s=>Zhn (Zu m 64 != 0) s
def ZiO (P:List AVal) (m:Int) (l:Zb):Except Int KSt:=match ZaE 2 l with
 | .error c=>.error c
 | .ok (k,r4)=>match ZbE 1 r4 with
  | .error c=>.error c
  | .ok (ps,r5)=>match Zap r5 with
   | .error c=>.error c
   | .ok (cl,r6)=>Zie m (ZiC (Zbu P m) k ps cl,r6)
def ZhS (P:List AVal) (l:Zb):Except Int KSt:=match Zap l with
 | .error c=>.error c
 | .ok (s,r1)=>if (s == [77,81,84,84])=true then (match ZaE 1 r1 with
  | .error c=>.error c
  | .ok (v,r2)=>if (v == 5)=true then (match ZaE 1 r2 with
   | .error c=>.error c
   | .ok (m,r3)=>if Zg7 m (Zu (ZdA m) 3) (Zu m 4 != 0) (Zu m 32 != 0)=true then ZiO P m r3 else .error 129)
   else .error 132)
  else .error 132
theorem Zqw (P:List AVal) (hP:P.length=26) (hN:Zd P=true) (l:Zb) (hl:l.length<=140737488355328) {tm:Tms} {b:Bool} (htm:tm=t20\/tm=ZcW 129) (h23:P[23]?=some (.bool b)):KRun (.seq Zgp ZdM) tm P l (Zhn b (P,l)):=by
 refine KRun.seqT (ZCl P hP hN l hl htm h23) (Nat.le_refl _) ?_
 unfold Zhn
 cases b
 ·exact ZGE P hP hN l hl
 ·rw [if_pos rfl]
  cases h:Zc1 l with
  | error c=>exact ZvS P hP hN l hl h
  | ok a=>exact ZEX P hP hN l hl h
theorem Zta (P:List AVal) (hP:P.length=26) (hN:Zd P=true) (l:Zb) (hl:l.length<=140737488355328) {tm:Tms} {b bp:Bool} (htm:tm=t20\/tm=ZcW 107) (h21:P[21]?=some (.bool b)) (h23:P[23]?=some (.bool bp)):KRun (.seq Zes (.seq Zgp ZdM)) tm P l (match Zg9 b (P,l) with
  | .error c=>.error c
  | .ok s=>Zhn bp s):=by
 unfold Zg9
 cases b
 ·rw [if_neg (by simp)]
  refine KRun.seqT (ZBQ P hP hN l hl htm h21) (Nat.le_refl _) ?_
  exact Zqw P hP hN l hl (Or.inr rfl) h23
 ·rw [if_pos rfl]
  cases h:Zap l with
  | error c=>exact KRun.seqF (Zw P hP hN _ _) (ZyD P hP hN l hl htm h21 h)
  | ok a =>
   have hr:=Zdg h
   refine KRun.seqT (ZGG P hP hN l hl htm h21 h) hr ?_
   exact Zqw _ (by simp [hP]) (ZO rfl 22 hN) a.2 (by omega) (Or.inl rfl) (by rw [List.getElem?_set_ne (by omega)];exact h23)
theorem ZLf {l:Zb} {ps:List Zt} {tp d r:Zb} (h:ZdS l=.ok (ps,tp,d,r)):r.length<=l.length:=by
 unfold ZdS at h
 split at h
 ·cases h
 rename_i h1
 split at h
 ·cases h
 rename_i h2
 split at h
 ·cases h
 rename_i h3
 injection h with h;injection h with e1 h;injection h with e2 h;injection h with e3 e4;subst e4
 have:=ZgB h1;have:=Zdg h2;have:=Zsz h3
 omega
theorem ZE7 (P:List AVal) (hP:P.length=26) (hN:Zd P=true) (l:Zb) (hl:l.length<=140737488355328) {m:Int} (hu:(Zae 16 l).2.1<=l.length) (h15:P[15]?=some (.bool (Zu m 4 != 0))) (h21:P[21]?=some (.bool (Zu m 128 != 0))) (h23:P[23]?=some (.bool (Zu m 64 != 0))):KRun (.seq ZdL (.seq Zes (.seq Zgp ZdM))) t20 P l (Zie m (P,l)):=by
 unfold Zie Zh2
 cases hb:(Zu m 4 != 0)
 ·rw [hb] at h15
  rw [if_neg (by simp)]
  refine KRun.seqT (ZE2 P hP hN l hl h15) (Nat.le_refl _) ?_
  exact Zta P hP hN l hl (Or.inr rfl) h21 h23
 ·rw [hb] at h15
  rw [if_pos rfl]
  cases h:ZdS l with
  | error c =>
   obtain ⟨cs,h1,h2⟩:=ZuV P hP hN l hl h15 hu h
   exact KRun.seqF h1 h2
  | ok a =>
   obtain ⟨ps,tp,d,r⟩:=a
   have hr:=ZLf h
   refine KRun.seqT (ZGM P hP hN l hl h15 hu h) hr ?_
   refine Zta _ (by simp [hP]) (ZO (ZbW _ _) 17 (ZO rfl 16 (ZO (ZbW _ _) 20 hN))) r (by omega) (Or.inl rfl) ?_ ?_
   ·rw [List.getElem?_set_ne (by omega),List.getElem?_set_ne (by omega),List.getElem?_set_ne (by omega)];exact h21
   ·rw [List.getElem?_set_ne (by omega),List.getElem?_set_ne (by omega),List.getElem?_set_ne (by omega)];exact h23
theorem Zvy (P:List AVal) (hP:P.length=26) (hN:Zd P=true) (l:Zb) (hl:l.length<=140737488355328) {m:Int} (hu1:∀ r:Zb,r.length<=140737488355328->(Zae 1 r).2.1<=r.length) (hu:∀ r:Zb,r.length<=140737488355328->(Zae 16 r).2.1<=r.length):KRun (.seq cn9 (.seq ZgU (.seq Zg6 (.seq ZdL (.seq Zes (.seq Zgp ZdM)))))) t20 (Zbu P m) l (ZiO P m l):=by
 have hM:(Zbu P m).length=26:=by simp [Zbu,hP]
 have hMN:Zd (Zbu P m)=true:=ZO rfl _ (ZO rfl _ (ZO rfl _ (ZO rfl _ (ZO rfl _ (ZO rfl _ hN)))))
 have g15:(Zbu P m)[15]?=some (.bool (Zu m 4 != 0)):=by simp [Zbu,hP]
 have g21:(Zbu P m)[21]?=some (.bool (Zu m 128 != 0)):=by simp [Zbu,hP]
 have g23:(Zbu P m)[23]?=some (.bool (Zu m 64 != 0)):=by simp [Zbu,hP]
 unfold ZiO ZiC
 generalize Zbu P m=M at *
 cases h1:ZaE 2 l with
 | error c=>exact KRun.seqF (Zw M hM hMN _ _) (ZHQ M hM hMN l hl h1)
 | ok a =>
 obtain ⟨k,r4⟩:=a
 have l1:=ZgC h1
 refine KRun.seqT (ZzD M hM hMN l hl h1) l1 ?_
 have hM1:(M.set 13 (.int .i64 k)).length=26:=by simp [hM]
 have hN1:Zd (M.set 13 (.int .i64 k))=true:=ZO rfl 13 hMN
 simp only
 cases h2:ZbE 1 r4 with
 | error c=>exact KRun.seqF (Zw _ hM1 hN1 _ _) (ZIc _ hM1 hN1 r4 (by omega) h2)
 | ok a =>
 obtain ⟨ps,r5⟩:=a
 have l2:=ZgB h2
 refine KRun.seqT (ZAJ _ hM1 hN1 r4 (by omega) (hu1 r4 (by omega)) h2) l2 ?_
 have hM2:((M.set 13 (.int .i64 k)).set 9 (.lst false (ps.map Zn))).length=26:=by simp [hM]
 have hN2:Zd ((M.set 13 (.int .i64 k)).set 9 (.lst false (ps.map Zn)))=true:=ZO (ZbW _ _) 9 hN1
 simp only
 cases h3:Zap r5 with
 | error c=>exact KRun.seqF (Zw _ hM2 hN2 _ _) (ZLM _ hM2 hN2 r5 (by omega) h3)
 | ok a =>
 obtain ⟨cl,r6⟩:=a
 have l3:=Zdg h3
 refine KRun.seqT (ZH0 _ hM2 hN2 r5 (by omega) h3) l3 ?_
 refine ZE7 _ (by simp [hM]) (ZO rfl 14 hN2) r6 (by omega) (hu r6 (by omega)) ?_ ?_ ?_
 ·rw [List.getElem?_set_ne (by omega),List.getElem?_set_ne (by omega),List.getElem?_set_ne (by omega)];exact g15
 ·rw [List.getElem?_set_ne (by omega),List.getElem?_set_ne (by omega),List.getElem?_set_ne (by omega)];exact g21
 ·rw [List.getElem?_set_ne (by omega),List.getElem?_set_ne (by omega),List.getElem?_set_ne (by omega)];exact g23
theorem ZFM (P:List AVal) (hP:P.length=26) (hN:Zd P=true) (l:Zb) (hl:l.length<=140737488355328) (hu1:∀ r:Zb,r.length<=140737488355328->(Zae 1 r).2.1<=r.length) (hu:∀ r:Zb,r.length<=140737488355328->(Zae 16 r).2.1<=r.length):KRun ZpB [(0,.ref 0 0)] P l (ZhS P l):=by
 rw [ZGl]
 refine KRun.seqT (ZBV P hP hN l hl) (Nat.le_refl _) ?_
 unfold ZhS
 cases h1:Zap l with
 | error c=>exact KRun.seqF (Zw _ hP hN _ _) (ZuX P hP hN l hl h1)
 | ok a =>
 obtain ⟨s,r1⟩:=a
 have l1:=Zdg h1
 simp only
 split
 case isFalse hs=>exact KRun.seqF (Zw _ hP hN _ _) (ZDP P hP hN l hl h1 (Bool.not_eq_true _ |>.mp hs))
 rename_i hs
 have hs:=eq_of_beq hs
 subst hs
 refine KRun.seqT (ZE8 P hP hN l hl h1) l1 ?_
 cases h2:ZaE 1 r1 with
 | error c=>exact KRun.seqF (Zw _ hP hN _ _) (Zwn P hP hN r1 (by omega) h2)
 | ok a =>
 obtain ⟨v,r2⟩:=a
 have l2:=ZgC h2
 simp only
 split
 case isFalse hs=>exact KRun.seqF (Zw _ hP hN _ _) (ZBL P hP hN r1 (by omega) h2 (Bool.not_eq_true _ |>.mp hs))
 rename_i hs
 have hs:=eq_of_beq hs
 subst hs
 refine KRun.seqT (ZFS P hP hN r1 (by omega) h2) l2 ?_
 cases h3:ZaE 1 r2 with
 | error c=>exact KRun.seqF (Zw _ hP hN _ _) (ZwJ P hP hN r2 (by omega) h3)
 | ok a =>
 obtain ⟨m,r3⟩:=a
 have l3:=ZgC h3
 simp only
 refine KRun.seqT (ZFl P hP hN r2 (by omega) h3) l3 ?_
 have l4:r3.length<=140737488355328:=by omega
 refine KRun.seqT (ZMg P hP hN r3 l4 m) (Nat.le_refl _) ?_
 refine KRun.seqT (Zvi _ (by simp [hP]) (ZO rfl _ (ZO rfl _ hN)) r3 l4 m) (Nat.le_refl _) ?_
 refine KRun.seqT (ZAT _ (by simp [hP]) (ZO rfl _ (ZO rfl _ (ZO rfl _ (ZO rfl _ hN)))) r3 l4 m) (Nat.le_refl _) ?_
 have hM:(Zbu P m).length=26:=by simp [Zbu,hP]
 have hMN:Zd (Zbu P m)=true:=ZO rfl _ (ZO rfl _ (ZO rfl _ (ZO rfl _ (ZO rfl _ (ZO rfl _ hN)))))
 have g15:(Zbu P m)[15]?=some (.bool (Zu m 4 != 0)):=by simp [Zbu,hP]
 have g18:(Zbu P m)[18]?=some (.int .i64 (Zu (ZdA m) 3)):=by simp [Zbu,hP]
 have g19:(Zbu P m)[19]?=some (.bool (Zu m 32 != 0)):=by simp [Zbu,hP]
 split
 case isFalse hs=>exact KRun.seqF (Zw _ hM hMN _ _) (ZCD _ hM hMN r3 l4 m _ _ _ g15 g18 g19 (Bool.not_eq_true _ |>.mp hs))
 rename_i hs
 refine KRun.seqT (ZE9 _ hM hMN r3 l4 m _ _ _ g15 g18 g19 hs) (Nat.le_refl _) ?_
 exact Zvy P hP hN r3 l4 hu1 hu
end
section
theorem z0b:((((0:Nat):Int)) == 0)=true:=by decide
theorem Zey {l:Zb} {b:Bool} (h:decide (l.length=0)=b):(((l.length:Nat):Int) == 0)=b:=by
 subst h
 by_cases h:l.length=0
 ·simp [h]
 ·have : ¬((l.length:Nat):Int)=0:=by omega
  simp [h]
section
variable (P:List AVal) (hP:P.length=26) (hN:Zd P=true)
include hP hN
theorem Zz2 (qos:Int) (h0:P[0]?=some (.int .i64 3)) (h2:P[2]?=some (.int .i64 qos)) (h4:P[4]?=some (.int .i64 0)) (hu:∀ r:Zb,r.length<=140737488355328->(Zae 3 r).2.1<=r.length) (l:Zb) (hl:l.length<=140737488355328) {tp:Zb} {n:Int} {ps:List Zt} {pay:Zb} (h:Zed qos l=.ok (tp,n,ps,pay)) :
  E 27 [.ref 0 0] [.var (P++[.lst false (l.map Zc)])]=some (.tup [],[.var ((((P.set 5 (.str tp)).set 4 (.int .i64 n)).set 9 (.lst false (ps.map Zn))).set 6 (.lst false (pay.map Zc))++[.lst true []])]):=by
 have hq:=ZA1 P hP hN qos h2 h4 hu l hl h
 have hN':Zd ((((P.set 5 (.str tp)).set 4 (.int .i64 n)).set 9 (.lst false (ps.map Zn))).set 6 (.lst false (pay.map Zc)))=true:=ZO (ZbW _ _) _ (ZO (ZbW _ _) _ (ZO rfl _ (ZO rfl _ hN)))
 have hP':((((P.set 5 (.str tp)).set 4 (.int .i64 n)).set 9 (.lst false (ps.map Zn))).set 6 (.lst false (pay.map Zc))).length=26:=by simp [hP]
 generalize (((P.set 5 (.str tp)).set 4 (.int .i64 n)).set 9 (.lst false (ps.map Zn))).set 6 (.lst false (pay.map Zc))=Q at *
 have hG:=fun σ sq (hs:(σ:Za)[0]?=some (.var (P++[.lst false (l.map Zc)])))=>ZcJ (O:=E) (bf:=BY) (f:=58) (rest:=[]) (by kernel_rfl) rfl (Zw P hP hN _ _) (ZaA hN' (by rfl)) rfl rfl hq hs sq
 have a4:=fun L=>(Z2 P hP 0 (by omega) L).trans h0
 have b2:=Zao Q hP'
 have m1:=Za5
 have z:=z0b
 rw [Zh (by rfl) Za6]
 simp -implicitDefEqProofs only [EQA,ZC,Zq,Nat.reduceAdd,Nat.reduceLT,Nat.reduceLeDiff,Nat.reduceEqDiff,Nat.reduceBEq,↓reduceIte,Zd,Za8,Za0,Zeb,oI,oN,a4,b2,hG,m1,Int.reduceBEq,z]
 exact ZS rfl (ZaA hN' (by rfl))
theorem ZzX (qos:Int) (h0:P[0]?=some (.int .i64 3)) (h2:P[2]?=some (.int .i64 qos)) (l:Zb) (hl:l.length<=140737488355328) {c:Int} (h:Zed qos l=.error c) :
  ∃ cs,Zd cs=true/\E 27 [.ref 0 0] [.var (P++[.lst false (l.map Zc)])]=some (.pan (Zy c),[.var cs]):=by
 obtain ⟨cs,hn,he⟩:=ZwZ P hP hN qos h2 l hl h
 have hG:=fun σ sq (hs:(σ:Za)[0]?=some (.var (P++[.lst false (l.map Zc)])))=>Zcq (O:=E) (bf:=BY) (f:=58) (view:=true) (rest:=[]) (by kernel_rfl) rfl (Zw P hP hN _ _) hn rfl he hs sq
 have a4:=fun L=>(Z2 P hP 0 (by omega) L).trans h0
 refine ⟨cs,hn,?_⟩
 rw [Zh (by rfl) Za6]
 simp -implicitDefEqProofs only [EQA,ZC,Nat.reduceAdd,Nat.reduceLT,Nat.reduceLeDiff,Nat.reduceEqDiff,Nat.reduceBEq,↓reduceIte,Za8,Za0,oI,oN,a4,hG,Int.reduceBEq]
 exact ZS rfl hn
theorem ZMJ (h0:P[0]?=some (.int .i64 1)) (l:Zb) (hl:l.length<=140737488355328) {Q:List AVal} {r:Zb} (hq:E 54 [.ref 0 0] (Zg P l)=some (.tup [],Zg Q r)) (hQ:Q.length=26) (hQN:Zd Q=true) (hr:r.length=0) :
  E 27 [.ref 0 0] (Zg P l)=some (.tup [],Zg Q r):=by
 unfold Zg at *
 have hG:=fun σ sq (hs:(σ:Za)[0]?=some (.var (P++[.lst false (l.map Zc)])))=>ZcJ (O:=E) (bf:=BY) (f:=54) (rest:=[]) (by kernel_rfl) rfl (Zw P hP hN _ _) (ZaA hQN (by rfl)) rfl rfl hq hs sq
 have a4:=fun L=>(Z2 P hP 0 (by omega) L).trans h0
 have b2:=Zao Q hQ
 have m1:=Za5
 have z:=Zey (l:=r) (decide_eq_true hr)
 rw [Zh (by rfl) Za6]
 simp -implicitDefEqProofs only [EQA,ZC,Zq,Nat.reduceAdd,Nat.reduceLT,Nat.reduceLeDiff,Nat.reduceEqDiff,Nat.reduceBEq,↓reduceIte,Zd,Za8,Za0,Zeb,oI,oN,a4,b2,hG,m1,z]
 exact ZS rfl (ZaA hQN (by rfl))
theorem ZMt (h0:P[0]?=some (.int .i64 1)) (l:Zb) (hl:l.length<=140737488355328) {Q:List AVal} {r:Zb} (hq:E 54 [.ref 0 0] (Zg P l)=some (.tup [],Zg Q r)) (hQ:Q.length=26) (hQN:Zd Q=true) (hr:¬r.length=0) :
  E 27 [.ref 0 0] (Zg P l)=some (.pan (Zy 129),Zg Q r):=by
 unfold Zg at *
 have hG:=fun σ sq (hs:(σ:Za)[0]?=some (.var (P++[.lst false (l.map Zc)])))=>ZcJ (O:=E) (bf:=BY) (f:=54) (rest:=[]) (by kernel_rfl) rfl (Zw P hP hN _ _) (ZaA hQN (by rfl)) rfl rfl hq hs sq
 have a4:=fun L=>(Z2 P hP 0 (by omega) L).trans h0
 have b2:=Zao Q hQ
 have m1:=Zbs
 have z:=Zey (l:=r) (decide_eq_false hr)
 rw [Zh (by rfl) Za6]
 simp -implicitDefEqProofs only [EQA,ZC,Nat.reduceAdd,Nat.reduceLT,Nat.reduceLeDiff,Nat.reduceEqDiff,Nat.reduceBEq,↓reduceIte,Za8,Za0,oI,oN,a4,b2,hG,m1,z]
 exact ZS rfl (ZaA hQN (by rfl))
theorem ZHj (h0:P[0]?=some (.int .i64 1)) (l:Zb) (hl:l.length<=140737488355328) {cs:List AVal} {c:Int} (hn:Zd cs=true) (he:E 54 [.ref 0 0] (Zg P l)=some (.pan (Zy c),[.var cs])) :
  E 27 [.ref 0 0] (Zg P l)=some (.pan (Zy c),[.var cs]):=by
 unfold Zg at *
 have hG:=fun σ sq (hs:(σ:Za)[0]?=some (.var (P++[.lst false (l.map Zc)])))=>Zcq (O:=E) (bf:=BY) (f:=54) (view:=true) (rest:=[]) (by kernel_rfl) rfl (Zw P hP hN _ _) hn rfl he hs sq
 have a4:=fun L=>(Z2 P hP 0 (by omega) L).trans h0
 rw [Zh (by rfl) Za6]
 simp -implicitDefEqProofs only [EQA,ZC,Nat.reduceAdd,Nat.reduceLT,Nat.reduceLeDiff,Nat.reduceEqDiff,Nat.reduceBEq,↓reduceIte,Za8,Za0,oI,oN,a4,hG]
 exact ZS rfl hn
end
end
end Go.Proofs.YtmlkhhidifjjfaaGreatDoor
