/- packed -/
import Derived.Test.YtmlkhhidifjjfaaDoorMq2
set_option linter.defProp false
set_option linter.unusedSectionVars false
set_option linter.unusedSimpArgs false
set_option linter.unusedVariables false
namespace Go.Proofs.YtmlkhhidifjjfaaDoor
def d_prop_Find_k0 : ACode:=(.seq (.region [oI 21 (.build [(.int .i64 0),(.int .i64 0),(.str []),(.str []),(.lst true [])] []),oN (.st 5 (.t 4) (.t 21)),oI 5 (.mov (.c (.bool false)))] none [5,4]) .ret)
def c_prop_Find_k0 : ACode:=d_prop_Find_k0
def x_prop_Find_k0:=xw c_prop_Find_k0 d_prop_Find_k0 rfl
def d_prop_Find_l2 : ACode:=(.seq (.region [oI 11 (.bin .lss (.t 10) (.t 9))] none [11,10,9,8,4,0]) (.seq (.cond (.t 11) .skip (.exit 0)) (.seq (.block 1 (.seq (.region [oI 12 (.iaddr 5 (.t 8) (.t 10)),oI 13 (.ld (some 5) (.t 12)),oI 7 (.alloc [(.int .i64 0),(.int .i64 0),(.str []),(.str []),(.lst true [])]),oN (.st 5 (.t 7) (.t 13))] none [10,9,8,7,4,0]) (.seq (.region [oI 14 (.faddr 0 (.t 7)),oI 15 (.ld none (.t 14)),oI 16 (.mov (.t 0)),oI 17 (.bin .eql (.t 15) (.t 16))] none [17,10,9,8,7,4,0]) (.cond (.t 17) (.seq (.region [oI 18 (.ld (some 5) (.t 7)),oI 19 (.call 147 0 true [(.t 18)]),oN (.st 5 (.t 4) (.t 19)),oI 5 (.mov (.c (.bool true)))] none [5,4]) .ret) .skip)))) (.region [oI 20 (.bin .add (.t 10) (.c (.int .i64 1))),oI 10 (.mov (.t 20))] none [10,9,8,4,0]))))
def c_prop_Find_l2 : ACode:=d_prop_Find_l2
def x_prop_Find_l2:=xw c_prop_Find_l2 d_prop_Find_l2 rfl
def b_prop_Find : ACode:=(.seq (.region [oI 4 (.alloc [(.int .i64 0),(.int .i64 0),(.str []),(.str []),(.lst true [])]),oI 5 (.mov (.c (.bool false)))] none [4,1,0]) (.seq (.seq (.region [oI 8 (.mov (.t 1)),oI 9 (.len (.t 8)),oI 10 (.mov (.c (.int .i64 0)))] none [10,9,8,4,0]) (.block 0 (.loop [10,9,8,4,0] c_prop_Find_l2))) c_prop_Find_k0))
def c_prop_Find : AFunc:=⟨[(.cell 4 (some 5)),(.tmp 5)],b_prop_Find⟩
theorem cf_prop_Find : FC 112=some c_prop_Find:=by kernel_rfl
theorem cb_prop_Find : c_prop_Find.body=b_prop_Find:=rfl
theorem cr_prop_Find : c_prop_Find.res=[(.cell 4 (some 5)),(.tmp 5)]:=rfl
noncomputable def K_prop_Find_l2 (m : Nat) (tm : Tms) (σ : AHeap) : Option (AVal×AHeap):=(finA m c_prop_Find (seqX FC PR BY m c_prop_Find_k0 (Option.map (blockA 0) (evL FC PR BY m [10,9,8,4,0] c_prop_Find_l2 tm σ))))
def b_prop_Kind : ACode:=(.seq (.region [oI 2 (.mov (.c (.int .i64 0)))] none [0]) (.seq (.region [oI 3 (.mov (.t 0)),oI 4 (.call 152 0 true [(.t 3)]),oI 5 (.field none 0 (.t 4)),oI 2 (.mov (.t 5))] none [2]) .ret))
def c_prop_Kind : AFunc:=⟨[(.tmp 2)],b_prop_Kind⟩
theorem cf_prop_Kind : FC 134=some c_prop_Kind:=by kernel_rfl
theorem cb_prop_Kind : c_prop_Kind.body=b_prop_Kind:=rfl
theorem cr_prop_Kind : c_prop_Kind.res=[(.tmp 2)]:=rfl
def d_prop_Lay_k0 : ACode:=(.seq (.region [oI 26 (.mov (.t 6)),oI 27 (.len (.t 26)),oI 28 (.call 82 0 true [(.t 27)]),oI 25 (.mov (.t 28)),oI 29 (.ext (.t 25) 0),oI 30 (.ext (.t 25) 1),oI 9 (.mov (.t 29)),oI 10 (.mov (.t 30))] none [10,9,6,1,0]) (.seq (.seq (.region [oI 31 (.mov (.t 10)),oI 32 (.bin .neq (.t 31) (.c (.int .i64 0)))] none [32,9,6,1,0]) (.cond (.t 32) (.seq (.region [oI 4 (.mov (.c (.lst true []))),oI 5 (.mov (.c (.int .i64 129)))] none [5,4]) .ret) .skip)) (.seq (.region [oI 33 (.mov (.t 9)),oI 34 (.mov (.t 6)),oI 35 (.bslice false 1 2 (.lst true []) [(0,(.t 33)),(1,(.t 34))]),oI 36 (.call 56 0 true [(.t 35)]),oI 6 (.mov (.t 36))] none [6,1,0]) (.seq (.region [oI 38 (.mov (.t 0)),oI 39 (.mov (.t 6)),oI 40 (.call 90 0 true [(.t 38),(.t 39)]),oI 37 (.mov (.t 40)),oI 41 (.ext (.t 37) 0),oI 42 (.ext (.t 37) 1),oI 43 (.ext (.t 37) 2),oI 11 (.mov (.t 41)),oI 12 (.mov (.t 42)),oI 13 (.mov (.t 43))] none [13,12,11,6,1]) (.seq (.seq (.region [oI 44 (.mov (.t 13)),oI 45 (.bin .neq (.t 44) (.c (.int .i64 0))),oI 46 (.mov (.t 45)),⟨(some 47),(.mov (.t 12)),(some (46,false)),[]⟩,⟨(some 48),(.mov (.t 6)),(some (46,false)),[]⟩,⟨(some 49),(.len (.t 48)),(some (46,false)),[]⟩,⟨(some 50),(.bin .neq (.t 47) (.t 49)),(some (46,false)),[]⟩,oI 51 (.pick (.t 46) (.c (.bool true)) (.t 50)),oI 52 (.mov (.t 51)),⟨(some 53),(.mov (.t 11)),(some (52,false)),[]⟩,⟨(some 54),(.mov (.t 1)),(some (52,false)),[]⟩,⟨(some 55),(.call 43 0 true [(.t 53),(.t 54)]),(some (52,false)),[]⟩,⟨(some 56),(.un .not (.t 55)),(some (52,false)),[]⟩,oI 57 (.pick (.t 52) (.c (.bool true)) (.t 56))] none [57,6]) (.cond (.t 57) (.seq (.region [oI 4 (.mov (.c (.lst true []))),oI 5 (.mov (.c (.int .i64 129)))] none [5,4]) .ret) .skip)) (.seq (.region [oI 58 (.mov (.t 6)),oI 4 (.mov (.t 58)),oI 5 (.mov (.c (.int .i64 0)))] none [5,4]) .ret))))))
def c_prop_Lay_k0 : ACode:=d_prop_Lay_k0
def x_prop_Lay_k0:=xw c_prop_Lay_k0 d_prop_Lay_k0 rfl
def d_prop_Lay_l3 : ACode:=(.seq (.region [oI 17 (.bin .lss (.t 16) (.t 15))] none [17,16,15,14,6,1,0]) (.seq (.cond (.t 17) .skip (.exit 0)) (.seq (.block 1 (.seq (.region [oI 18 (.iaddr 5 (.t 14) (.t 16)),oI 19 (.ld (some 5) (.t 18)),oI 8 (.alloc [(.int .i64 0),(.int .i64 0),(.str []),(.str []),(.lst true [])]),oN (.st 5 (.t 8) (.t 19))] none [16,15,14,8,6,1,0]) (.region [oI 20 (.mov (.t 6)),oI 21 (.ld (some 5) (.t 8)),oI 22 (.call 89 0 true [(.t 21)]),oI 23 (.app 1 1 (.int .u8 0) (.t 20) (.t 22)),oI 6 (.mov (.t 23))] none [16,15,14,6,1,0]))) (.region [oI 24 (.bin .add (.t 16) (.c (.int .i64 1))),oI 16 (.mov (.t 24))] none [16,15,14,6,1,0]))))
def c_prop_Lay_l3 : ACode:=d_prop_Lay_l3
def x_prop_Lay_l3:=xw c_prop_Lay_l3 d_prop_Lay_l3 rfl
def b_prop_Lay : ACode:=(.seq (.region [oI 4 (.mov (.c (.lst true []))),oI 5 (.mov (.c (.int .i64 0)))] none [1,0]) (.seq (.region [oI 6 (.mov (.c (.lst true [])))] none [6,1,0]) (.seq (.seq (.region [oI 14 (.mov (.t 1)),oI 15 (.len (.t 14)),oI 16 (.mov (.c (.int .i64 0)))] none [16,15,14,6,1,0]) (.block 0 (.loop [16,15,14,6,1,0] c_prop_Lay_l3))) c_prop_Lay_k0)))
def c_prop_Lay : AFunc:=⟨[(.tmp 4),(.tmp 5)],b_prop_Lay⟩
theorem cf_prop_Lay : FC 42=some c_prop_Lay:=by kernel_rfl
theorem cb_prop_Lay : c_prop_Lay.body=b_prop_Lay:=rfl
theorem cr_prop_Lay : c_prop_Lay.res=[(.tmp 4),(.tmp 5)]:=rfl
noncomputable def K_prop_Lay_l3 (m : Nat) (tm : Tms) (σ : AHeap) : Option (AVal×AHeap):=(finA m c_prop_Lay (seqX FC PR BY m c_prop_Lay_k0 (Option.map (blockA 0) (evL FC PR BY m [16,15,14,6,1,0] c_prop_Lay_l3 tm σ))))
def b_prop_May : ACode:=(.seq (.region [oI 4 (.mov (.c (.bool false)))] none [1,0]) (.seq (.region [oI 5 (.mov (.t 1)),oI 6 (.bin .geq (.t 5) (.c (.int .i64 1))),oI 7 (.mov (.t 6)),⟨(some 8),(.mov (.t 1)),(some (7,true)),[]⟩,⟨(some 9),(.bin .leq (.t 8) (.c (.int .i64 16))),(some (7,true)),[]⟩,oI 10 (.pick (.t 7) (.t 9) (.c (.bool false))),oI 11 (.mov (.t 10)),⟨(some 12),(.mov (.t 0)),(some (11,true)),[]⟩,⟨(some 13),(.call 152 0 true [(.t 12)]),(some (11,true)),[]⟩,⟨(some 14),(.field none 1 (.t 13)),(some (11,true)),[]⟩,⟨(some 15),(.mov (.t 1)),(some (11,true)),[]⟩,⟨(some 16),(.bin .shr (.t 14) (.t 15)),(some (11,true)),[]⟩,⟨(some 17),(.bin .and (.t 16) (.c (.int .i64 1))),(some (11,true)),[]⟩,⟨(some 18),(.bin .eql (.t 17) (.c (.int .i64 1))),(some (11,true)),[]⟩,oI 19 (.pick (.t 11) (.t 18) (.c (.bool false))),oI 4 (.mov (.t 19))] none [4]) .ret))
def c_prop_May : AFunc:=⟨[(.tmp 4)],b_prop_May⟩
theorem cf_prop_May : FC 153=some c_prop_May:=by kernel_rfl
theorem cb_prop_May : c_prop_May.body=b_prop_May:=rfl
theorem cr_prop_May : c_prop_May.res=[(.tmp 4)]:=rfl
def d_prop_Read_k0 : ACode:=(.seq (.region [oI 57 (.mov (.t 4)),oI 58 (.mov (.t 8)),oI 59 (.mov (.t 7)),oI 60 (.bin .add (.t 58) (.t 59)),oI 4 (.mov (.t 57)),oI 5 (.mov (.t 60)),oI 6 (.mov (.c (.int .i64 0)))] none [6,5,4]) .ret)
def c_prop_Read_k0 : ACode:=d_prop_Read_k0
def x_prop_Read_k0:=xw c_prop_Read_k0 d_prop_Read_k0 rfl
def d_prop_Read_l5 : ACode:=(.seq (.seq (.region [oI 36 (.mov (.t 10)),oI 37 (.len (.t 36)),oI 38 (.bin .gtr (.t 37) (.c (.int .i64 0)))] none [38,10,8,7,4,0]) (.cond (.t 38) .skip (.exit 0))) (.block 1 (.seq (.region [oI 40 (.mov (.t 0)),oI 41 (.mov (.t 10)),oI 42 (.mov (.t 4)),oI 43 (.call 136 0 true [(.t 40),(.t 41),(.t 42)]),oI 39 (.mov (.t 43)),oI 44 (.ext (.t 39) 0),oI 45 (.ext (.t 39) 1),oI 46 (.ext (.t 39) 2),oI 11 (.alloc [(.int .i64 0),(.int .i64 0),(.str []),(.str []),(.lst true [])]),oN (.st 5 (.t 11) (.t 44)),oI 12 (.mov (.t 45)),oI 13 (.mov (.t 46))] none [13,12,11,10,8,7,4,0]) (.seq (.seq (.region [oI 47 (.mov (.t 13)),oI 48 (.bin .neq (.t 47) (.c (.int .i64 0)))] none [48,13,12,11,10,8,7,4,0]) (.cond (.t 48) (.seq (.region [oI 49 (.mov (.t 13)),oI 4 (.mov (.c (.lst true []))),oI 5 (.mov (.c (.int .i64 0))),oI 6 (.mov (.t 49))] none [6,5,4]) .ret) .skip)) (.seq (.region [oI 50 (.mov (.t 4)),oI 51 (.ld (some 5) (.t 11)),oI 52 (.bslice false 5 1 (.agg [(.int .i64 0),(.int .i64 0),(.str []),(.str []),(.lst true [])]) [(0,(.t 51))]),oI 53 (.app 5 72 (.agg [(.int .i64 0),(.int .i64 0),(.str []),(.str []),(.lst true [])]) (.t 50) (.t 52)),oI 4 (.mov (.t 53))] none [12,10,8,7,4,0]) (.region [oI 54 (.mov (.t 10)),oI 55 (.mov (.t 12)),oI 56 (.slice 1 (.t 54) (some (.t 55)) none none),oI 10 (.mov (.t 56))] none [10,8,7,4,0]))))))
def c_prop_Read_l5 : ACode:=d_prop_Read_l5
def x_prop_Read_l5:=xw c_prop_Read_l5 d_prop_Read_l5 rfl
def b_prop_Read : ACode:=(.seq (.region [oI 4 (.mov (.c (.lst true []))),oI 5 (.mov (.c (.int .i64 0))),oI 6 (.mov (.c (.int .i64 0)))] none [4,1,0]) (.seq (.region [oI 15 (.mov (.t 1)),oI 16 (.call 135 0 true [(.t 15)]),oI 14 (.mov (.t 16)),oI 17 (.ext (.t 14) 0),oI 18 (.ext (.t 14) 1),oI 19 (.ext (.t 14) 2),oI 7 (.mov (.t 17)),oI 8 (.mov (.t 18)),oI 9 (.mov (.t 19))] none [9,8,7,4,1,0]) (.seq (.seq (.region [oI 20 (.mov (.t 9)),oI 21 (.bin .neq (.t 20) (.c (.int .i64 0))),oI 22 (.mov (.t 21)),⟨(some 23),(.mov (.t 7)),(some (22,false)),[]⟩,⟨(some 24),(.mov (.t 1)),(some (22,false)),[]⟩,⟨(some 25),(.len (.t 24)),(some (22,false)),[]⟩,⟨(some 26),(.mov (.t 8)),(some (22,false)),[]⟩,⟨(some 27),(.bin .sub (.t 25) (.t 26)),(some (22,false)),[]⟩,⟨(some 28),(.bin .gtr (.t 23) (.t 27)),(some (22,false)),[]⟩,oI 29 (.pick (.t 22) (.c (.bool true)) (.t 28))] none [29,8,7,4,1,0]) (.cond (.t 29) (.seq (.region [oI 4 (.mov (.c (.lst true []))),oI 5 (.mov (.c (.int .i64 0))),oI 6 (.mov (.c (.int .i64 129)))] none [6,5,4]) .ret) .skip)) (.seq (.seq (.region [oI 30 (.mov (.t 1)),oI 31 (.mov (.t 8)),oI 32 (.mov (.t 8)),oI 33 (.mov (.t 7)),oI 34 (.bin .add (.t 32) (.t 33)),oI 35 (.slice 1 (.t 30) (some (.t 31)) (some (.t 34)) none),oI 10 (.mov (.t 35))] none [10,8,7,4,0]) (.block 0 (.loop [10,8,7,4,0] c_prop_Read_l5))) c_prop_Read_k0))))
def c_prop_Read : AFunc:=⟨[(.tmp 4),(.tmp 5),(.tmp 6)],b_prop_Read⟩
theorem cf_prop_Read : FC 90=some c_prop_Read:=by kernel_rfl
theorem cb_prop_Read : c_prop_Read.body=b_prop_Read:=rfl
theorem cr_prop_Read : c_prop_Read.res=[(.tmp 4),(.tmp 5),(.tmp 6)]:=rfl
noncomputable def K_prop_Read_l5 (m : Nat) (tm : Tms) (σ : AHeap) : Option (AVal×AHeap):=(finA m c_prop_Read (seqX FC PR BY m c_prop_Read_k0 (Option.map (blockA 0) (evL FC PR BY m [10,8,7,4,0] c_prop_Read_l5 tm σ))))
def b_prop_Same : ACode:=(.seq (.region [oI 4 (.mov (.c (.bool false)))] none [1,0]) (.seq (.region [oI 5 (.mov (.t 0)),oI 6 (.mov (.t 1)),oI 7 (.call 91 0 true [(.t 5),(.t 6),(.c (.fn 92 []))]),oI 4 (.mov (.t 7))] none [4]) .ret))
def c_prop_Same : AFunc:=⟨[(.tmp 4)],b_prop_Same⟩
theorem cf_prop_Same : FC 43=some c_prop_Same:=by kernel_rfl
theorem cb_prop_Same : c_prop_Same.body=b_prop_Same:=rfl
theorem cr_prop_Same : c_prop_Same.res=[(.tmp 4)]:=rfl
def b_prop_Same_1 : ACode:=(.seq (.region [oI 2 (.box (.t 0)),oI 3 (.box (.t 1)),oI 4 (.mov (.c (.bool false)))] none [3,2]) (.seq (.region [oI 5 (.faddr 0 (.t 2)),oI 6 (.ld none (.t 5)),oI 7 (.faddr 0 (.t 3)),oI 8 (.ld none (.t 7)),oI 9 (.bin .eql (.t 6) (.t 8)),oI 10 (.mov (.t 9)),⟨(some 11),(.faddr 1 (.t 2)),(some (10,true)),[]⟩,⟨(some 12),(.ld none (.t 11)),(some (10,true)),[]⟩,⟨(some 13),(.faddr 1 (.t 3)),(some (10,true)),[]⟩,⟨(some 14),(.ld none (.t 13)),(some (10,true)),[]⟩,⟨(some 15),(.bin .eql (.t 12) (.t 14)),(some (10,true)),[]⟩,oI 16 (.pick (.t 10) (.t 15) (.c (.bool false))),oI 17 (.mov (.t 16)),⟨(some 18),(.faddr 2 (.t 2)),(some (17,true)),[]⟩,⟨(some 19),(.ld none (.t 18)),(some (17,true)),[]⟩,⟨(some 20),(.faddr 2 (.t 3)),(some (17,true)),[]⟩,⟨(some 21),(.ld none (.t 20)),(some (17,true)),[]⟩,⟨(some 22),(.bin .eql (.t 19) (.t 21)),(some (17,true)),[]⟩,oI 23 (.pick (.t 17) (.t 22) (.c (.bool false))),oI 24 (.mov (.t 23)),⟨(some 25),(.faddr 3 (.t 2)),(some (24,true)),[]⟩,⟨(some 26),(.ld none (.t 25)),(some (24,true)),[]⟩,⟨(some 27),(.faddr 3 (.t 3)),(some (24,true)),[]⟩,⟨(some 28),(.ld none (.t 27)),(some (24,true)),[]⟩,⟨(some 29),(.bin .eql (.t 26) (.t 28)),(some (24,true)),[]⟩,oI 30 (.pick (.t 24) (.t 29) (.c (.bool false))),oI 31 (.mov (.t 30)),⟨(some 32),(.faddr 4 (.t 2)),(some (31,true)),[]⟩,⟨(some 33),(.ld none (.t 32)),(some (31,true)),[]⟩,⟨(some 34),(.b2s (.t 33)),(some (31,true)),[]⟩,⟨(some 35),(.faddr 4 (.t 3)),(some (31,true)),[]⟩,⟨(some 36),(.ld none (.t 35)),(some (31,true)),[]⟩,⟨(some 37),(.b2s (.t 36)),(some (31,true)),[]⟩,⟨(some 38),(.bin .eql (.t 34) (.t 37)),(some (31,true)),[]⟩,oI 39 (.pick (.t 31) (.t 38) (.c (.bool false))),oI 4 (.mov (.t 39))] none [4]) .ret))
def c_prop_Same_1 : AFunc:=⟨[(.tmp 4)],b_prop_Same_1⟩
theorem cf_prop_Same_1 : FC 92=some c_prop_Same_1:=by kernel_rfl
theorem cb_prop_Same_1 : c_prop_Same_1.body=b_prop_Same_1:=rfl
theorem cr_prop_Same_1 : c_prop_Same_1.res=[(.tmp 4)]:=rfl
def b_prop_copied : ACode:=(.seq (.region [oI 1 (.box (.t 0)),oI 2 (.alloc [(.int .i64 0),(.int .i64 0),(.str []),(.str []),(.lst true [])])] none [2,1]) (.seq (.region [oI 3 (.faddr 4 (.t 1)),oI 4 (.ld none (.t 3)),oI 5 (.call 111 0 true [(.t 4)]),oI 6 (.faddr 4 (.t 1)),oN (.st 1 (.t 6) (.t 5))] none [2,1]) (.seq (.region [oI 7 (.ld (some 5) (.t 1)),oN (.st 5 (.t 2) (.t 7))] none [2]) .ret)))
def c_prop_copied : AFunc:=⟨[(.cell 2 (some 5))],b_prop_copied⟩
theorem cf_prop_copied : FC 147=some c_prop_copied:=by kernel_rfl
theorem cb_prop_copied : c_prop_copied.body=b_prop_copied:=rfl
theorem cr_prop_copied : c_prop_copied.res=[(.cell 2 (some 5))]:=rfl
def b_prop_fits : ACode:=(.seq (.region [oI 1 (.box (.t 0)),oI 2 (.mov (.c (.bool false)))] none [1]) (.seq (.seq (.region [oI 3 (.faddr 0 (.t 1)),oI 4 (.ld none (.t 3))] none [4,1]) (.block 0 (.seq (.seq (.region [oI 6 (.bin .eql (.t 4) (.c (.int .i64 11))),oI 5 (.mov (.t 6))] none [5,4,1]) (.cond (.t 5) .skip (.seq (.region [oI 7 (.bin .eql (.t 4) (.c (.int .i64 33))),oI 5 (.mov (.t 7))] none [5,4,1]) (.cond (.t 5) .skip (.seq (.region [oI 8 (.bin .eql (.t 4) (.c (.int .i64 35))),oI 5 (.mov (.t 8))] none [5,4,1]) (.cond (.t 5) .skip (.region [oI 9 (.bin .eql (.t 4) (.c (.int .i64 39))),oI 5 (.mov (.t 9))] none [5,1]))))))) (.cond (.t 5) (.seq (.region [oI 10 (.faddr 1 (.t 1)),oI 11 (.ld none (.t 10)),oI 12 (.bin .neq (.t 11) (.c (.int .i64 0))),oI 2 (.mov (.t 12))] none [2]) .ret) .skip)))) (.seq (.region [oI 13 (.faddr 0 (.t 1)),oI 14 (.ld none (.t 13)),oI 15 (.call 134 0 true [(.t 14)]),oI 16 (.bin .neq (.t 15) (.c (.int .i64 1))),oI 17 (.mov (.t 16)),⟨(some 18),(.faddr 1 (.t 1)),(some (17,false)),[]⟩,⟨(some 19),(.ld none (.t 18)),(some (17,false)),[]⟩,⟨(some 20),(.bin .leq (.t 19) (.c (.int .i64 1))),(some (17,false)),[]⟩,oI 21 (.pick (.t 17) (.c (.bool true)) (.t 20)),oI 2 (.mov (.t 21))] none [2]) .ret)))
def c_prop_fits : AFunc:=⟨[(.tmp 2)],b_prop_fits⟩
theorem cf_prop_fits : FC 156=some c_prop_fits:=by kernel_rfl
theorem cb_prop_fits : c_prop_fits.body=b_prop_fits:=rfl
theorem cr_prop_fits : c_prop_fits.res=[(.tmp 2)]:=rfl
def b_prop_laid : ACode:=(.seq (.region [oI 1 (.box (.t 0)),oI 2 (.mov (.c (.lst true [])))] none [1]) (.seq (.region [oI 8 (.faddr 0 (.t 1)),oI 9 (.ld none (.t 8)),oI 10 (.call 82 0 true [(.t 9)]),oI 7 (.mov (.t 10)),oI 11 (.ext (.t 7) 0),oI 12 (.ext (.t 7) 1),oI 3 (.mov (.t 11)),oI 4 (.mov (.t 12))] none [3,1]) (.seq (.region [oI 5 (.mov (.c (.lst true []))),oI 6 (.mov (.c (.lst true [])))] none [6,5,3,1]) (.seq (.seq (.region [oI 13 (.faddr 0 (.t 1)),oI 14 (.ld none (.t 13)),oI 15 (.call 134 0 true [(.t 14)])] none [15,6,5,3,1]) (.block 0 (.seq (.seq (.region [oI 17 (.bin .eql (.t 15) (.c (.int .i64 1))),oI 16 (.mov (.t 17))] none [16,15,6,5,3,1]) (.cond (.t 16) .skip (.seq (.region [oI 18 (.bin .eql (.t 15) (.c (.int .i64 2))),oI 16 (.mov (.t 18))] none [16,15,6,5,3,1]) (.cond (.t 16) .skip (.region [oI 19 (.bin .eql (.t 15) (.c (.int .i64 3))),oI 16 (.mov (.t 19))] none [16,15,6,5,3,1]))))) (.cond (.t 16) (.region [oI 20 (.faddr 1 (.t 1)),oI 21 (.ld none (.t 20)),oI 22 (.i2i .u64 (.t 21)),oI 23 (.faddr 0 (.t 1)),oI 24 (.ld none (.t 23)),oI 25 (.call 134 0 true [(.t 24)]),oI 26 (.bin .sub (.t 25) (.c (.int .i64 1))),oI 27 (.bin .shl (.c (.int .i64 1)) (.t 26)),oI 28 (.call 59 0 true [(.t 22),(.t 27)]),oI 5 (.mov (.t 28))] (some [(1,4),(1,5),(5,5),(8,8)]) [6,5,3]) (.seq (.region [oI 30 (.bin .eql (.t 15) (.c (.int .i64 4))),oI 29 (.mov (.t 30))] none [29,15,6,5,3,1]) (.cond (.t 29) (.region [oI 32 (.faddr 1 (.t 1)),oI 33 (.ld none (.t 32)),oI 34 (.call 82 0 true [(.t 33)]),oI 31 (.mov (.t 34)),oI 35 (.ext (.t 31) 0),oI 36 (.ext (.t 31) 1),oI 5 (.mov (.t 35))] none [6,5,3]) (.seq (.region [oI 38 (.bin .eql (.t 15) (.c (.int .i64 5))),oI 37 (.mov (.t 38))] none [37,15,6,5,3,1]) (.cond (.t 37) (.region [oI 40 (.faddr 2 (.t 1)),oI 41 (.ld none (.t 40)),oI 42 (.call 54 0 true [(.t 41)]),oI 39 (.mov (.t 42)),oI 43 (.ext (.t 39) 0),oI 44 (.ext (.t 39) 1),oI 5 (.mov (.t 43))] none [6,5,3]) (.seq (.region [oI 46 (.bin .eql (.t 15) (.c (.int .i64 6))),oI 45 (.mov (.t 46))] none [45,15,6,5,3,1]) (.cond (.t 45) (.region [oI 48 (.faddr 4 (.t 1)),oI 49 (.ld none (.t 48)),oI 50 (.call 55 0 true [(.t 49)]),oI 47 (.mov (.t 50)),oI 51 (.ext (.t 47) 0),oI 52 (.ext (.t 47) 1),oI 5 (.mov (.t 51))] none [6,5,3]) (.seq (.region [oI 54 (.bin .eql (.t 15) (.c (.int .i64 7))),oI 53 (.mov (.t 54))] none [53,6,5,3,1]) (.cond (.t 53) (.seq (.region [oI 56 (.faddr 2 (.t 1)),oI 57 (.ld none (.t 56)),oI 58 (.call 54 0 true [(.t 57)]),oI 55 (.mov (.t 58)),oI 59 (.ext (.t 55) 0),oI 60 (.ext (.t 55) 1),oI 5 (.mov (.t 59))] none [5,3,1]) (.region [oI 62 (.faddr 3 (.t 1)),oI 63 (.ld none (.t 62)),oI 64 (.call 54 0 true [(.t 63)]),oI 61 (.mov (.t 64)),oI 65 (.ext (.t 61) 0),oI 66 (.ext (.t 61) 1),oI 6 (.mov (.t 65))] none [6,5,3])) .skip)))))))))))) (.seq (.region [oI 67 (.mov (.t 3)),oI 68 (.mov (.t 5)),oI 69 (.mov (.t 6)),oI 70 (.bslice false 1 3 (.lst true []) [(0,(.t 67)),(1,(.t 68)),(2,(.t 69))]),oI 71 (.call 56 0 true [(.t 70)]),oI 2 (.mov (.t 71))] none [2]) .ret)))))
def c_prop_laid : AFunc:=⟨[(.tmp 2)],b_prop_laid⟩
theorem cf_prop_laid : FC 89=some c_prop_laid:=by kernel_rfl
theorem cb_prop_laid : c_prop_laid.body=b_prop_laid:=rfl
theorem cr_prop_laid : c_prop_laid.res=[(.tmp 2)]:=rfl
def b_prop_of : ACode:=(.seq (.region [oI 2 (.alloc [(.int .i64 0),(.int .i64 0)])] none [2,0]) (.seq (.seq (.region [oI 3 (.mov (.t 0))] none [3,2]) (.block 0 (.seq (.region [oI 5 (.bin .eql (.t 3) (.c (.int .i64 1))),oI 4 (.mov (.t 5))] none [4,3,2]) (.cond (.t 4) (.seq (.region [oI 6 (.bslice false 1 2 (.int .i64 0) [(0,(.c (.int .i64 3))),(1,(.c (.int .i64 16)))]),oI 7 (.call 162 0 true [(.t 6)]),oI 8 (.build [(.int .i64 0),(.int .i64 0)] [(0,1,(.c (.int .i64 1))),(1,1,(.t 7))]),oN (.st 2 (.t 2) (.t 8))] none [2]) .ret) (.seq (.region [oI 10 (.bin .eql (.t 3) (.c (.int .i64 2))),oI 9 (.mov (.t 10))] none [9,3,2]) (.cond (.t 9) (.seq (.region [oI 11 (.bslice false 1 2 (.int .i64 0) [(0,(.c (.int .i64 3))),(1,(.c (.int .i64 16)))]),oI 12 (.call 162 0 true [(.t 11)]),oI 13 (.build [(.int .i64 0),(.int .i64 0)] [(0,1,(.c (.int .i64 3))),(1,1,(.t 12))]),oN (.st 2 (.t 2) (.t 13))] none [2]) .ret) (.seq (.seq (.region [oI 15 (.bin .eql (.t 3) (.c (.int .i64 3))),oI 14 (.mov (.t 15))] none [14,3,2]) (.cond (.t 14) .skip (.region [oI 16 (.bin .eql (.t 3) (.c (.int .i64 8))),oI 14 (.mov (.t 16))] none [14,3,2]))) (.cond (.t 14) (.seq (.region [oI 17 (.bslice false 1 2 (.int .i64 0) [(0,(.c (.int .i64 3))),(1,(.c (.int .i64 16)))]),oI 18 (.call 162 0 true [(.t 17)]),oI 19 (.build [(.int .i64 0),(.int .i64 0)] [(0,1,(.c (.int .i64 5))),(1,1,(.t 18))]),oN (.st 2 (.t 2) (.t 19))] none [2]) .ret) (.seq (.region [oI 21 (.bin .eql (.t 3) (.c (.int .i64 9))),oI 20 (.mov (.t 21))] none [20,3,2]) (.cond (.t 20) (.seq (.region [oI 22 (.bslice false 1 2 (.int .i64 0) [(0,(.c (.int .i64 3))),(1,(.c (.int .i64 16)))]),oI 23 (.call 162 0 true [(.t 22)]),oI 24 (.build [(.int .i64 0),(.int .i64 0)] [(0,1,(.c (.int .i64 6))),(1,1,(.t 23))]),oN (.st 2 (.t 2) (.t 24))] none [2]) .ret) (.seq (.region [oI 26 (.bin .eql (.t 3) (.c (.int .i64 11))),oI 25 (.mov (.t 26))] none [25,3,2]) (.cond (.t 25) (.seq (.region [oI 27 (.bslice false 1 2 (.int .i64 0) [(0,(.c (.int .i64 3))),(1,(.c (.int .i64 8)))]),oI 28 (.call 162 0 true [(.t 27)]),oI 29 (.build [(.int .i64 0),(.int .i64 0)] [(0,1,(.c (.int .i64 4))),(1,1,(.t 28))]),oN (.st 2 (.t 2) (.t 29))] none [2]) .ret) (.seq (.region [oI 31 (.bin .eql (.t 3) (.c (.int .i64 17))),oI 30 (.mov (.t 31))] none [30,3,2]) (.cond (.t 30) (.seq (.region [oI 32 (.bslice false 1 3 (.int .i64 0) [(0,(.c (.int .i64 1))),(1,(.c (.int .i64 2))),(2,(.c (.int .i64 14)))]),oI 33 (.call 162 0 true [(.t 32)]),oI 34 (.build [(.int .i64 0),(.int .i64 0)] [(0,1,(.c (.int .i64 3))),(1,1,(.t 33))]),oN (.st 2 (.t 2) (.t 34))] none [2]) .ret) (.seq (.seq (.region [oI 36 (.bin .eql (.t 3) (.c (.int .i64 18))),oI 35 (.mov (.t 36))] none [35,3,2]) (.cond (.t 35) .skip (.region [oI 37 (.bin .eql (.t 3) (.c (.int .i64 26))),oI 35 (.mov (.t 37))] none [35,3,2]))) (.cond (.t 35) (.seq (.region [oI 38 (.bslice false 1 1 (.int .i64 0) [(0,(.c (.int .i64 2)))]),oI 39 (.call 162 0 true [(.t 38)]),oI 40 (.build [(.int .i64 0),(.int .i64 0)] [(0,1,(.c (.int .i64 5))),(1,1,(.t 39))]),oN (.st 2 (.t 2) (.t 40))] none [2]) .ret) (.seq (.region [oI 42 (.bin .eql (.t 3) (.c (.int .i64 19))),oI 41 (.mov (.t 42))] none [41,3,2]) (.cond (.t 41) (.seq (.region [oI 43 (.bslice false 1 1 (.int .i64 0) [(0,(.c (.int .i64 2)))]),oI 44 (.call 162 0 true [(.t 43)]),oI 45 (.build [(.int .i64 0),(.int .i64 0)] [(0,1,(.c (.int .i64 2))),(1,1,(.t 44))]),oN (.st 2 (.t 2) (.t 45))] none [2]) .ret) (.seq (.region [oI 47 (.bin .eql (.t 3) (.c (.int .i64 21))),oI 46 (.mov (.t 47))] none [46,3,2]) (.cond (.t 46) (.seq (.region [oI 48 (.bslice false 1 3 (.int .i64 0) [(0,(.c (.int .i64 1))),(1,(.c (.int .i64 2))),(2,(.c (.int .i64 15)))]),oI 49 (.call 162 0 true [(.t 48)]),oI 50 (.build [(.int .i64 0),(.int .i64 0)] [(0,1,(.c (.int .i64 5))),(1,1,(.t 49))]),oN (.st 2 (.t 2) (.t 50))] none [2]) .ret) (.seq (.region [oI 52 (.bin .eql (.t 3) (.c (.int .i64 22))),oI 51 (.mov (.t 52))] none [51,3,2]) (.cond (.t 51) (.seq (.region [oI 53 (.bslice false 1 3 (.int .i64 0) [(0,(.c (.int .i64 1))),(1,(.c (.int .i64 2))),(2,(.c (.int .i64 15)))]),oI 54 (.call 162 0 true [(.t 53)]),oI 55 (.build [(.int .i64 0),(.int .i64 0)] [(0,1,(.c (.int .i64 6))),(1,1,(.t 54))]),oN (.st 2 (.t 2) (.t 55))] none [2]) .ret) (.seq (.seq (.region [oI 57 (.bin .eql (.t 3) (.c (.int .i64 23))),oI 56 (.mov (.t 57))] none [56,3,2]) (.cond (.t 56) .skip (.region [oI 58 (.bin .eql (.t 3) (.c (.int .i64 25))),oI 56 (.mov (.t 58))] none [56,3,2]))) (.cond (.t 56) (.seq (.region [oI 59 (.bslice false 1 1 (.int .i64 0) [(0,(.c (.int .i64 1)))]),oI 60 (.call 162 0 true [(.t 59)]),oI 61 (.build [(.int .i64 0),(.int .i64 0)] [(0,1,(.c (.int .i64 1))),(1,1,(.t 60))]),oN (.st 2 (.t 2) (.t 61))] none [2]) .ret) (.seq (.region [oI 63 (.bin .eql (.t 3) (.c (.int .i64 24))),oI 62 (.mov (.t 63))] none [62,3,2]) (.cond (.t 62) (.seq (.region [oI 64 (.bslice false 1 1 (.int .i64 0) [(0,(.c (.int .i64 16)))]),oI 65 (.call 162 0 true [(.t 64)]),oI 66 (.build [(.int .i64 0),(.int .i64 0)] [(0,1,(.c (.int .i64 3))),(1,1,(.t 65))]),oN (.st 2 (.t 2) (.t 66))] none [2]) .ret) (.seq (.region [oI 68 (.bin .eql (.t 3) (.c (.int .i64 28))),oI 67 (.mov (.t 68))] none [67,3,2]) (.cond (.t 67) (.seq (.region [oI 69 (.bslice false 1 2 (.int .i64 0) [(0,(.c (.int .i64 2))),(1,(.c (.int .i64 14)))]),oI 70 (.call 162 0 true [(.t 69)]),oI 71 (.build [(.int .i64 0),(.int .i64 0)] [(0,1,(.c (.int .i64 5))),(1,1,(.t 70))]),oN (.st 2 (.t 2) (.t 71))] none [2]) .ret) (.seq (.region [oI 73 (.bin .eql (.t 3) (.c (.int .i64 31))),oI 72 (.mov (.t 73))] none [72,3,2]) (.cond (.t 72) (.seq (.region [oI 74 (.bslice false 1 9 (.int .i64 0) [(0,(.c (.int .i64 2))),(1,(.c (.int .i64 4))),(2,(.c (.int .i64 5))),(3,(.c (.int .i64 6))),(4,(.c (.int .i64 7))),(5,(.c (.int .i64 9))),(6,(.c (.int .i64 11))),(7,(.c (.int .i64 14))),(8,(.c (.int .i64 15)))]),oI 75 (.call 162 0 true [(.t 74)]),oI 76 (.build [(.int .i64 0),(.int .i64 0)] [(0,1,(.c (.int .i64 5))),(1,1,(.t 75))]),oN (.st 2 (.t 2) (.t 76))] none [2]) .ret) (.seq (.seq (.region [oI 78 (.bin .eql (.t 3) (.c (.int .i64 33))),oI 77 (.mov (.t 78))] none [77,3,2]) (.cond (.t 77) .skip (.region [oI 79 (.bin .eql (.t 3) (.c (.int .i64 34))),oI 77 (.mov (.t 79))] none [77,3,2]))) (.cond (.t 77) (.seq (.region [oI 80 (.bslice false 1 2 (.int .i64 0) [(0,(.c (.int .i64 1))),(1,(.c (.int .i64 2)))]),oI 81 (.call 162 0 true [(.t 80)]),oI 82 (.build [(.int .i64 0),(.int .i64 0)] [(0,1,(.c (.int .i64 2))),(1,1,(.t 81))]),oN (.st 2 (.t 2) (.t 82))] none [2]) .ret) (.seq (.region [oI 84 (.bin .eql (.t 3) (.c (.int .i64 35))),oI 83 (.mov (.t 84))] none [83,3,2]) (.cond (.t 83) (.seq (.region [oI 85 (.bslice false 1 1 (.int .i64 0) [(0,(.c (.int .i64 3)))]),oI 86 (.call 162 0 true [(.t 85)]),oI 87 (.build [(.int .i64 0),(.int .i64 0)] [(0,1,(.c (.int .i64 2))),(1,1,(.t 86))]),oN (.st 2 (.t 2) (.t 87))] none [2]) .ret) (.seq (.region [oI 89 (.bin .eql (.t 3) (.c (.int .i64 39))),oI 88 (.mov (.t 89))] none [88,3,2]) (.cond (.t 88) (.seq (.region [oI 90 (.bslice false 1 2 (.int .i64 0) [(0,(.c (.int .i64 1))),(1,(.c (.int .i64 2)))]),oI 91 (.call 162 0 true [(.t 90)]),oI 92 (.build [(.int .i64 0),(.int .i64 0)] [(0,1,(.c (.int .i64 3))),(1,1,(.t 91))]),oN (.st 2 (.t 2) (.t 92))] none [2]) .ret) (.seq (.seq (.region [oI 94 (.bin .eql (.t 3) (.c (.int .i64 36))),oI 93 (.mov (.t 94))] none [93,3,2]) (.cond (.t 93) .skip (.seq (.region [oI 95 (.bin .eql (.t 3) (.c (.int .i64 37))),oI 93 (.mov (.t 95))] none [93,3,2]) (.cond (.t 93) .skip (.seq (.region [oI 96 (.bin .eql (.t 3) (.c (.int .i64 40))),oI 93 (.mov (.t 96))] none [93,3,2]) (.cond (.t 93) .skip (.seq (.region [oI 97 (.bin .eql (.t 3) (.c (.int .i64 41))),oI 93 (.mov (.t 97))] none [93,3,2]) (.cond (.t 93) .skip (.region [oI 98 (.bin .eql (.t 3) (.c (.int .i64 42))),oI 93 (.mov (.t 98))] none [93,3,2]))))))))) (.cond (.t 93) (.seq (.region [oI 99 (.bslice false 1 1 (.int .i64 0) [(0,(.c (.int .i64 2)))]),oI 100 (.call 162 0 true [(.t 99)]),oI 101 (.build [(.int .i64 0),(.int .i64 0)] [(0,1,(.c (.int .i64 1))),(1,1,(.t 100))]),oN (.st 2 (.t 2) (.t 101))] none [2]) .ret) (.seq (.region [oI 103 (.bin .eql (.t 3) (.c (.int .i64 38))),oI 102 (.mov (.t 103))] none [102,2]) (.cond (.t 102) (.seq (.region [oI 104 (.bslice false 1 3 (.int .i64 0) [(0,(.c (.int .i64 0))),(1,(.c (.int .i64 12))),(2,(.c (.int .i64 13)))]),oI 105 (.call 162 0 true [(.t 104)]),oI 106 (.un .xor (.t 105)),oI 107 (.build [(.int .i64 0),(.int .i64 0)] [(0,1,(.c (.int .i64 7))),(1,1,(.t 106))]),oN (.st 2 (.t 2) (.t 107))] none [2]) .ret) .skip)))))))))))))))))))))))))))))))))))))))) (.seq (.region [oI 108 (.build [(.int .i64 0),(.int .i64 0)] []),oN (.st 2 (.t 2) (.t 108))] none [2]) .ret)))
def c_prop_of : AFunc:=⟨[(.cell 2 (some 2))],b_prop_of⟩
theorem cf_prop_of : FC 152=some c_prop_of:=by kernel_rfl
theorem cb_prop_of : c_prop_of.body=b_prop_of:=rfl
theorem cr_prop_of : c_prop_of.res=[(.cell 2 (some 2))]:=rfl
def b_prop_often : ACode:=(.seq (.region [oI 4 (.mov (.c (.bool false)))] none [1,0]) (.seq (.region [oI 5 (.mov (.t 0)),oI 6 (.bin .eql (.t 5) (.c (.int .i64 38))),oI 7 (.mov (.t 6)),⟨(some 8),(.mov (.t 0)),(some (7,false)),[]⟩,⟨(some 9),(.bin .eql (.t 8) (.c (.int .i64 11))),(some (7,false)),[]⟩,⟨(some 10),(.mov (.t 9)),(some (7,false)),[]⟩,⟨(some 11),(.mov (.t 1)),(some (10,true)),[]⟩,⟨(some 12),(.bin .eql (.t 11) (.c (.int .i64 3))),(some (10,true)),[]⟩,⟨(some 13),(.pick (.t 10) (.t 12) (.c (.bool false))),(some (7,false)),[]⟩,oI 14 (.pick (.t 7) (.c (.bool true)) (.t 13)),oI 4 (.mov (.t 14))] none [4]) .ret))
def c_prop_often : AFunc:=⟨[(.tmp 4)],b_prop_often⟩
theorem cf_prop_often : FC 155=some c_prop_often:=by kernel_rfl
theorem cb_prop_often : c_prop_often.body=b_prop_often:=rfl
theorem cr_prop_often : c_prop_often.res=[(.tmp 4)]:=rfl
def b_prop_one : ACode:=(.seq (.region [oI 6 (.alloc [(.int .i64 0),(.int .i64 0),(.str []),(.str []),(.lst true [])]),oI 7 (.mov (.c (.int .i64 0))),oI 8 (.mov (.c (.int .i64 0)))] none [6,2,1,0]) (.seq (.region [oI 16 (.mov (.t 1)),oI 17 (.call 135 0 true [(.t 16)]),oI 15 (.mov (.t 17)),oI 18 (.ext (.t 15) 0),oI 19 (.ext (.t 15) 1),oI 20 (.ext (.t 15) 2),oI 9 (.mov (.t 18)),oI 10 (.mov (.t 19)),oI 11 (.mov (.t 20))] none [11,10,9,6,2,1,0]) (.seq (.seq (.region [oI 21 (.mov (.t 11)),oI 22 (.bin .neq (.t 21) (.c (.int .i64 0))),oI 23 (.mov (.t 22)),⟨(some 24),(.mov (.t 9)),(some (23,false)),[]⟩,⟨(some 25),(.mov (.t 0)),(some (23,false)),[]⟩,⟨(some 26),(.call 153 0 true [(.t 24),(.t 25)]),(some (23,false)),[]⟩,⟨(some 27),(.un .not (.t 26)),(some (23,false)),[]⟩,oI 28 (.pick (.t 23) (.c (.bool true)) (.t 27))] none [28,10,9,6,2,1,0]) (.cond (.t 28) (.seq (.region [oI 29 (.ld (some 5) (.t 6)),oN (.st 5 (.t 6) (.t 29)),oI 7 (.mov (.c (.int .i64 0))),oI 8 (.mov (.c (.int .i64 129)))] none [8,7,6]) .ret) .skip)) (.seq (.region [oI 31 (.mov (.t 9)),oI 32 (.mov (.t 1)),oI 33 (.mov (.t 10)),oI 34 (.slice 1 (.t 32) (some (.t 33)) none none),oI 35 (.call 154 0 true [(.t 31),(.t 34)]),oI 30 (.mov (.t 35)),oI 36 (.ext (.t 30) 0),oI 37 (.ext (.t 30) 1),oI 38 (.ext (.t 30) 2),oN (.st 5 (.t 6) (.t 36)),oI 7 (.mov (.t 37)),oI 12 (.mov (.t 38))] none [12,10,9,7,6,2,0]) (.seq (.region [oI 40 (.mov (.t 9)),oI 41 (.mov (.t 2)),oI 42 (.call 112 0 true [(.t 40),(.t 41)]),oI 39 (.mov (.t 42)),oI 43 (.ext (.t 39) 0),oI 44 (.ext (.t 39) 1),oI 13 (.alloc [(.int .i64 0),(.int .i64 0),(.str []),(.str []),(.lst true [])]),oN (.st 5 (.t 13) (.t 43)),oI 14 (.mov (.t 44))] none [14,12,10,9,7,6,0]) (.seq (.block 0 (.seq (.region [oI 46 (.mov (.t 12)),oI 47 (.un .not (.t 46)),oI 45 (.mov (.t 47))] none [45,14,10,9,7,6,0]) (.cond (.t 45) (.seq (.region [oI 48 (.ld (some 5) (.t 6)),oN (.st 5 (.t 6) (.t 48)),oI 7 (.mov (.c (.int .i64 0))),oI 8 (.mov (.c (.int .i64 129)))] none [8,7,6]) .ret) (.seq (.region [oI 50 (.mov (.t 14)),oI 51 (.mov (.t 50)),⟨(some 52),(.mov (.t 9)),(some (51,true)),[]⟩,⟨(some 53),(.mov (.t 0)),(some (51,true)),[]⟩,⟨(some 54),(.call 155 0 true [(.t 52),(.t 53)]),(some (51,true)),[]⟩,⟨(some 55),(.un .not (.t 54)),(some (51,true)),[]⟩,oI 56 (.pick (.t 51) (.t 55) (.c (.bool false))),oI 49 (.mov (.t 56))] none [49,10,9,7,6]) (.cond (.t 49) (.seq (.region [oI 57 (.ld (some 5) (.t 6)),oN (.st 5 (.t 6) (.t 57)),oI 7 (.mov (.c (.int .i64 0))),oI 8 (.mov (.c (.int .i64 130)))] none [8,7,6]) .ret) (.seq (.region [oI 59 (.ld (some 5) (.t 6)),oI 60 (.call 156 0 true [(.t 59)]),oI 58 (.mov (.t 60))] none [58,10,9,7,6]) (.cond (.t 58) (.seq (.region [oI 61 (.ld (some 5) (.t 6)),oI 62 (.mov (.t 10)),oI 63 (.mov (.t 7)),oI 64 (.bin .add (.t 62) (.t 63)),oN (.st 5 (.t 6) (.t 61)),oI 7 (.mov (.t 64)),oI 8 (.mov (.c (.int .i64 0)))] none [8,7,6]) .ret) (.seq (.region [oI 66 (.mov (.t 9)),oI 67 (.bin .eql (.t 66) (.c (.int .i64 35))),oI 65 (.mov (.t 67))] none [65,6]) (.cond (.t 65) (.seq (.region [oI 68 (.ld (some 5) (.t 6)),oN (.st 5 (.t 6) (.t 68)),oI 7 (.mov (.c (.int .i64 0))),oI 8 (.mov (.c (.int .i64 148)))] none [8,7,6]) .ret) .skip))))))))) (.seq (.region [oI 69 (.ld (some 5) (.t 6)),oN (.st 5 (.t 6) (.t 69)),oI 7 (.mov (.c (.int .i64 0))),oI 8 (.mov (.c (.int .i64 130)))] none [8,7,6]) .ret)))))))
def c_prop_one : AFunc:=⟨[(.cell 6 (some 5)),(.tmp 7),(.tmp 8)],b_prop_one⟩
theorem cf_prop_one : FC 136=some c_prop_one:=by kernel_rfl
theorem cb_prop_one : c_prop_one.body=b_prop_one:=rfl
theorem cr_prop_one : c_prop_one.res=[(.cell 6 (some 5)),(.tmp 7),(.tmp 8)]:=rfl
def b_prop_value : ACode:=(.seq (.region [oI 4 (.alloc [(.int .i64 0),(.int .i64 0),(.str []),(.str []),(.lst true [])]),oI 5 (.mov (.c (.int .i64 0))),oI 6 (.mov (.c (.bool false)))] none [5,4,1,0]) (.seq (.region [oI 9 (.mov (.t 0)),oI 10 (.faddr 0 (.t 4)),oN (.st 1 (.t 10) (.t 9))] none [5,4,1,0]) (.seq (.region [oI 7 (.mov (.c (.int .i64 0)))] none [7,5,4,1,0]) (.seq (.seq (.region [oI 11 (.mov (.t 0)),oI 12 (.call 134 0 true [(.t 11)])] none [12,7,5,4,1,0]) (.block 0 (.seq (.seq (.region [oI 14 (.bin .eql (.t 12) (.c (.int .i64 1))),oI 13 (.mov (.t 14))] none [13,12,7,5,4,1,0]) (.cond (.t 13) .skip (.seq (.region [oI 15 (.bin .eql (.t 12) (.c (.int .i64 2))),oI 13 (.mov (.t 15))] none [13,12,7,5,4,1,0]) (.cond (.t 13) .skip (.region [oI 16 (.bin .eql (.t 12) (.c (.int .i64 3))),oI 13 (.mov (.t 16))] none [13,12,7,5,4,1,0]))))) (.cond (.t 13) (.seq (.region [oI 17 (.mov (.t 0)),oI 18 (.call 134 0 true [(.t 17)]),oI 19 (.bin .sub (.t 18) (.c (.int .i64 1))),oI 20 (.bin .shl (.c (.int .i64 1)) (.t 19)),oI 5 (.mov (.t 20))] none [7,5,4,1]) (.seq (.seq (.region [oI 21 (.mov (.t 1)),oI 22 (.len (.t 21)),oI 23 (.mov (.t 5)),oI 24 (.bin .lss (.t 22) (.t 23))] none [24,7,5,4,1]) (.cond (.t 24) (.seq (.region [oI 25 (.ld (some 5) (.t 4)),oN (.st 5 (.t 4) (.t 25)),oI 5 (.mov (.c (.int .i64 0))),oI 6 (.mov (.c (.bool false)))] none [6,5,4]) .ret) .skip)) (.region [oI 26 (.mov (.t 1)),oI 27 (.mov (.t 5)),oI 28 (.slice 1 (.t 26) none (some (.t 27)) none),oI 29 (.call 108 0 true [(.t 28)]),oI 30 (.i2i .i64 (.t 29)),oI 31 (.faddr 1 (.t 4)),oN (.st 1 (.t 31) (.t 30))] none [7,5,4]))) (.seq (.region [oI 33 (.bin .eql (.t 12) (.c (.int .i64 4))),oI 32 (.mov (.t 33))] none [32,12,7,5,4,1]) (.cond (.t 32) (.region [oI 35 (.mov (.t 1)),oI 36 (.call 135 0 true [(.t 35)]),oI 34 (.mov (.t 36)),oI 37 (.ext (.t 34) 0),oI 38 (.ext (.t 34) 1),oI 39 (.ext (.t 34) 2),oI 40 (.faddr 1 (.t 4)),oN (.st 1 (.t 40) (.t 37)),oI 5 (.mov (.t 38)),oI 7 (.mov (.t 39))] none [7,5,4]) (.seq (.region [oI 42 (.bin .eql (.t 12) (.c (.int .i64 5))),oI 41 (.mov (.t 42))] none [41,12,7,5,4,1]) (.cond (.t 41) (.region [oI 44 (.mov (.t 1)),oI 45 (.call 109 0 true [(.t 44)]),oI 43 (.mov (.t 45)),oI 46 (.ext (.t 43) 0),oI 47 (.ext (.t 43) 1),oI 48 (.ext (.t 43) 2),oI 49 (.faddr 2 (.t 4)),oN (.st 1 (.t 49) (.t 46)),oI 5 (.mov (.t 47)),oI 7 (.mov (.t 48))] none [7,5,4]) (.seq (.region [oI 51 (.bin .eql (.t 12) (.c (.int .i64 6))),oI 50 (.mov (.t 51))] none [50,12,7,5,4,1]) (.cond (.t 50) (.region [oI 53 (.mov (.t 1)),oI 54 (.call 106 0 true [(.t 53)]),oI 52 (.mov (.t 54)),oI 55 (.ext (.t 52) 0),oI 56 (.ext (.t 52) 1),oI 57 (.ext (.t 52) 2),oI 58 (.faddr 4 (.t 4)),oN (.st 1 (.t 58) (.t 55)),oI 5 (.mov (.t 56)),oI 7 (.mov (.t 57))] none [7,5,4]) (.seq (.region [oI 60 (.bin .eql (.t 12) (.c (.int .i64 7))),oI 59 (.mov (.t 60))] none [59,7,5,4,1]) (.cond (.t 59) (.seq (.region [oI 62 (.mov (.t 1)),oI 63 (.call 109 0 true [(.t 62)]),oI 61 (.mov (.t 63)),oI 64 (.ext (.t 61) 0),oI 65 (.ext (.t 61) 1),oI 66 (.ext (.t 61) 2),oI 67 (.faddr 2 (.t 4)),oN (.st 1 (.t 67) (.t 64)),oI 5 (.mov (.t 65)),oI 7 (.mov (.t 66))] none [7,5,4,1]) (.seq (.region [oI 68 (.mov (.t 7)),oI 69 (.bin .eql (.t 68) (.c (.int .i64 0)))] none [69,7,5,4,1]) (.cond (.t 69) (.seq (.region [oI 8 (.mov (.c (.int .i64 0)))] none [5,4,1]) (.seq (.region [oI 71 (.mov (.t 1)),oI 72 (.mov (.t 5)),oI 73 (.slice 1 (.t 71) (some (.t 72)) none none),oI 74 (.call 109 0 true [(.t 73)]),oI 70 (.mov (.t 74)),oI 75 (.ext (.t 70) 0),oI 76 (.ext (.t 70) 1),oI 77 (.ext (.t 70) 2),oI 78 (.faddr 3 (.t 4)),oN (.st 1 (.t 78) (.t 75)),oI 8 (.mov (.t 76)),oI 7 (.mov (.t 77))] none [8,7,5,4]) (.region [oI 79 (.mov (.t 5)),oI 80 (.mov (.t 8)),oI 81 (.bin .add (.t 79) (.t 80)),oI 5 (.mov (.t 81))] none [7,5,4]))) .skip))) .skip)))))))))))) (.seq (.region [oI 82 (.ld (some 5) (.t 4)),oI 83 (.mov (.t 5)),oI 84 (.mov (.t 7)),oI 85 (.bin .eql (.t 84) (.c (.int .i64 0))),oN (.st 5 (.t 4) (.t 82)),oI 5 (.mov (.t 83)),oI 6 (.mov (.t 85))] none [6,5,4]) .ret)))))
def c_prop_value : AFunc:=⟨[(.cell 4 (some 5)),(.tmp 5),(.tmp 6)],b_prop_value⟩
theorem cf_prop_value : FC 154=some c_prop_value:=by kernel_rfl
theorem cb_prop_value : c_prop_value.body=b_prop_value:=rfl
theorem cr_prop_value : c_prop_value.res=[(.cell 4 (some 5)),(.tmp 5),(.tmp 6)]:=rfl
end Go.Proofs.YtmlkhhidifjjfaaDoor
namespace Go.Proofs.YtmlkhhidifjjfaaDoor
set_option maxHeartbeats 4000000
set_option maxRecDepth 10000
end Go.Proofs.YtmlkhhidifjjfaaDoor
namespace Go.Proofs.YtmlkhhidifjjfaaDoor
set_option maxHeartbeats 8000000
set_option maxRecDepth 10000
def propTab : List (Int×Int×Int):=[(1,1,65544),(2,3,65544),(3,5,65544),(8,5,65544),(9,6,65544),(11,4,264),(17,3,16390),(18,5,4),(26,5,4),(19,2,4),(21,5,32774),(22,6,32774),(23,1,2),(25,1,2),(24,3,65536),(28,5,16388),(31,5,51956),(33,2,6),(34,2,6),(35,2,8),(39,3,6),(36,1,4),(37,1,4),(40,1,4),(41,1,4),(42,1,4),(38,7,-12290)]
def ofF (id : Int) : Int×Int:=(propTab.lookup id).getD (0,0)
def kindI (id : Int) : Int:=(ofF id).1
def inTab (id : Int) : Prop:=id=1∨id=2∨id=3∨id=8∨id=9∨id=11∨id=17∨id=18∨id=26∨id=19∨id=21∨id=22∨id=23∨id=25∨id=24∨id=28∨id=31∨id=33∨id=34∨id=35∨id=39∨id=36∨id=37∨id=40∨id=41∨id=42∨id=38
instance (id : Int) : Decidable (inTab id):=by unfold inTab;infer_instance
theorem not_tab {id : Int} (h : ¬inTab id) : (id == 1)=false∧(id == 2)=false∧(id == 3)=false∧(id == 8)=false∧(id == 9)=false∧(id == 11)=false∧(id == 17)=false∧(id == 18)=false∧(id == 26)=false∧(id == 19)=false∧(id == 21)=false∧(id == 22)=false∧(id == 23)=false∧(id == 25)=false∧(id == 24)=false∧(id == 28)=false∧(id == 31)=false∧(id == 33)=false∧(id == 34)=false∧(id == 35)=false∧(id == 39)=false∧(id == 36)=false∧(id == 37)=false∧(id == 40)=false∧(id == 41)=false∧(id == 42)=false∧(id == 38)=false:=by
 unfold inTab at h
 simp only [not_or] at h
 simp only [beq_eq_false_iff_ne,ne_eq]
 exact h
theorem of_not {id : Int} (h : ¬inTab id) : ofF id=(0,0):=by
 obtain ⟨h1,h2,h3,h8,h9,h11,h17,h18,h26,h19,h21,h22,h23,h25,h24,h28,h31,h33,h34,h35,h39,h36,h37,h40,h41,h42,h38⟩:=not_tab h
 simp only [ofF,propTab,List.lookup,h1,h2,h3,h8,h9,h11,h17,h18,h26,h19,h21,h22,h23,h25,h24,h28,h31,h33,h34,h35,h39,h36,h37,h40,h41,h42,h38,Option.getD_none]
theorem q_of (id : Int) : E 152 [.int .i64 id] []=some (.agg [.int .i64 (ofF id).1,.int .i64 (ofF id).2],[]):=by
 by_cases h : inTab id
 ·rcases h with rfl | rfl | rfl | rfl | rfl | rfl | rfl | rfl | rfl | rfl | rfl | rfl | rfl | rfl | rfl | rfl | rfl | rfl | rfl | rfl | rfl | rfl | rfl | rfl | rfl | rfl | rfl
  all_goals exact EV_some.2 ⟨20,by kernel_rfl⟩
 ·rw [of_not h]
  obtain ⟨h1,h2,h3,h8,h9,h11,h17,h18,h26,h19,h21,h22,h23,h25,h24,h28,h31,h33,h34,h35,h39,h36,h37,h40,h41,h42,h38⟩:=not_tab h
  rw [E_eq (by rfl) cf_prop_of]
  simp -implicitDefEqProofs only [EVS0,EVS1,EVS5,EVS6,EVL0,eq_self,exI,nsite,freeAt,execI,Opd.ev,tget,tins,tput,keepL,sitesOf,List.sum_cons,List.sum_nil,Nat.reduceAdd,Nat.reduceLT,Nat.reduceLeDiff,Nat.reduceEqDiff,Nat.reduceBEq,beq_self_eq_true,Bool.false_eq_true,ldA,stA,partA,setAt,binA,arithA,reduceCtorEq,resA,resAll,resOne,enterA,↓reduceIte,noRefL,cb_prop_of,b_prop_of,cr_prop_of,oI,oN,h1,h2,h3,h8,h9,h11,h17,h18,h26,h19,h21,h22,h23,h25,h24,h28,h31,h33,h34,h35,h39,h36,h37,h40,h41,h42,h38,fillA,setAt,AVal.cells]
theorem q_ofC (σ : AHeap) (site own : Nat) (id : Int) : callG E BY σ site 152 own true [.int .i64 id]=some (.agg [.int .i64 (ofF id).1,.int .i64 (ofF id).2],σ,{}) :=
 call_normT (q_of id) (by kernel_rfl) rfl rfl rfl (fun _=>rfl) _ _ _
theorem q_kind (id : Int) : E 134 [.int .i64 id] []=some (.int .i64 (kindI id),[]):=by
 have hC:=fun σ site own=>q_ofC σ site own id
 unfold kindI
 rw [E_eq (by rfl) cf_prop_Kind]
 simp -implicitDefEqProofs only [EVS0,EVS1,EVS5,EVL0,eq_self,exI,nsite,freeAt,execI,Opd.ev,tget,tins,tput,keepL,sitesOf,List.sum_cons,List.sum_nil,Nat.reduceLT,Nat.reduceEqDiff,beq_self_eq_true,partA,reduceCtorEq,resA,resAll,resOne,enterA,↓reduceIte,cb_prop_Kind,b_prop_Kind,cr_prop_Kind,oI,hC]
theorem q_kindC (σ : AHeap) (site own : Nat) (id : Int) : callG E BY σ site 134 own true [.int .i64 id]=some (.int .i64 (kindI id),σ,{}) :=
 call_normT (q_kind id) (by kernel_rfl) rfl rfl rfl (fun _=>rfl) _ _ _
def bitI (pl w : Int) : Int:=IntKind.i64.wrap (((BitVec.ofInt IntKind.i64.bits (pl.fdiv (2 ^ min w.toNat IntKind.i64.bits)) &&& BitVec.ofInt IntKind.i64.bits 1).toNat : Nat) : Int)
def mayB (id w : Int) : Bool:=decide (w≥1) && decide (w≤16) && bitI (ofF id).2 w == 1
theorem q_may (id w : Int) : E 153 [.int .i64 id,.int .i64 w] []=some (.bool (mayB id w),[]):=by
 have hC:=fun σ site own=>q_ofC σ site own id
 unfold mayB bitI
 generalize (ofF id).2=pl at *
 rw [E_eq (by rfl) cf_prop_May]
 by_cases h1 : w≥1
 ·have h2 : ¬w < 0:=by omega
  by_cases h3 : w≤16
  ·simp -implicitDefEqProofs only [EVS0,EVS1,EVS5,EVL0,eq_self,exI,nsite,freeAt,execI,Opd.ev,tget,tins,tput,keepL,sitesOf,List.sum_cons,List.sum_nil,Nat.reduceLT,Nat.reduceEqDiff,beq_self_eq_true,partA,binA,arithA,shiftA,gSpan,unG,ne_eq,Option.some.injEq,reduceCtorEq,decide_true,decide_false,resA,resAll,resOne,enterA,↓reduceIte,cb_prop_May,b_prop_May,cr_prop_May,oI,hC,h1,h2,h3]
  ·simp -implicitDefEqProofs only [EVS0,EVS1,EVS5,EVL0,eq_self,exI,nsite,freeAt,execI,Opd.ev,tget,tins,tput,keepL,sitesOf,List.sum_cons,List.sum_nil,Nat.reduceLT,Nat.reduceEqDiff,beq_self_eq_true,Bool.false_eq_true,binA,arithA,gSpan,gSkip,unG,ne_eq,Option.some.injEq,reduceCtorEq,decide_true,decide_false,resA,resAll,resOne,enterA,↓reduceIte,cb_prop_May,b_prop_May,cr_prop_May,oI,h1,h3]
 ·simp -implicitDefEqProofs only [EVS0,EVS1,EVS5,EVL0,eq_self,exI,nsite,freeAt,execI,Opd.ev,tget,tins,tput,keepL,sitesOf,List.sum_cons,List.sum_nil,Nat.reduceLT,Nat.reduceEqDiff,beq_self_eq_true,Bool.false_eq_true,binA,arithA,gSpan,gSkip,ne_eq,Option.some.injEq,reduceCtorEq,decide_false,resA,resAll,resOne,enterA,↓reduceIte,cb_prop_May,b_prop_May,cr_prop_May,oI,h1]
theorem q_mayC (σ : AHeap) (site own : Nat) (id w : Int) : callG E BY σ site 153 own true [.int .i64 id,.int .i64 w]=some (.bool (mayB id w),σ,{}) :=
 call_normT (q_may id w) (by kernel_rfl) rfl rfl rfl (fun _=>rfl) _ _ _
end Go.Proofs.YtmlkhhidifjjfaaDoor
namespace Go.Proofs.YtmlkhhidifjjfaaDoor
set_option maxHeartbeats 8000000
set_option maxRecDepth 10000
theorem kind_cases (id : Int) : kindI id=0∨kindI id=1∨kindI id=2∨kindI id=3∨kindI id=4∨kindI id=5∨kindI id=6∨kindI id=7:=by
 unfold kindI
 by_cases h : inTab id
 ·unfold inTab at h
  rcases h with rfl | rfl | rfl | rfl | rfl | rfl | rfl | rfl | rfl | rfl | rfl | rfl | rfl | rfl | rfl | rfl | rfl | rfl | rfl | rfl | rfl | rfl | rfl | rfl | rfl | rfl | rfl
  all_goals decide
 ·rw [of_not h];simp
theorem getU4 (b : Bytes) (h : b.length≤4) : getU b < 4294967296:=by
 unfold getU
 match b,h with
 | [],_=>simp [getA_nil]
 | [a],_=>rw [getA_cons,getA_nil];have:=a.toNat_lt;omega
 | [a,c],_=>rw [getA_cons,getA_cons,getA_nil];have:=a.toNat_lt;have:=c.toNat_lt;omega
 | [a,c,d],_=>rw [getA_cons,getA_cons,getA_cons,getA_nil];have:=a.toNat_lt;have:=c.toNat_lt;have:=d.toNat_lt;omega
 | [a,c,d,e],_=>rw [getA_cons,getA_cons,getA_cons,getA_cons,getA_nil];have:=a.toNat_lt;have:=c.toNat_lt;have:=d.toNat_lt;have:=e.toNat_lt;omega
def numV (id : Int) (W : Nat) (b : Bytes) : PropD×Nat×Bool:=if b.length < W then (⟨id,0,[],[],[]⟩,0,false) else (⟨id,getU (b.take W),[],[],[]⟩,W,true)
def pairV (id : Int) (b : Bytes) : PropD×Nat×Bool :=
 if (getTextF b).2.2=0 then (⟨id,0,(getTextF b).1,(getTextF (b.drop (getTextF b).2.1)).1,[]⟩,(getTextF b).2.1+(getTextF (b.drop (getTextF b).2.1)).2.1,(getTextF (b.drop (getTextF b).2.1)).2.2 == 0) else (⟨id,0,[],[],[]⟩,0,false)
def valueK (k id : Int) (b : Bytes) : PropD×Nat×Bool :=
 if k=1 then numV id 1 b else if k=2 then numV id 2 b else if k=3 then numV id 4 b
 else if k=4 then (⟨id,(getVarF b).1,[],[],[]⟩,(getVarF b).2.1,(getVarF b).2.2 == 0)
 else if k=5 then (⟨id,0,(getTextF b).1,[],[]⟩,(getTextF b).2.1,(getTextF b).2.2 == 0)
 else if k=6 then (⟨id,0,[],[],(getDataF b).1⟩,(getDataF b).2.1,(getDataF b).2.2 == 0)
 else if k=7 then pairV id b else (⟨id,0,[],[],[]⟩,0,true)
def valueF (id : Int) (b : Bytes) : PropD×Nat×Bool:=valueK (kindI id) id b
def valV (f : Bool) (x : PropD×Nat×Bool) : AVal:=.tup [.agg [.int .i64 x.1.id,.int .i64 x.1.num,.str x.1.text,.str x.1.pair,.lst f (x.1.data.map byteV)],.int .i64 (x.2.1 : Nat),.bool x.2.2]
theorem getData_used (b : Bytes) : (getDataF b).2.1≤b.length∧(getDataF b).1.length≤b.length:=by
 unfold getDataF
 by_cases h : b.length < 2∨b.length - 2 < getU (b.take 2)
 ·rw [if_pos h];simp
 ·rw [if_neg h]
  simp only [not_or] at h
  simp;omega
theorem getText_used (b : Bytes) : (getTextF b).2.1≤b.length∧((getTextF b).2.2≠0→(getTextF b).1=[]∧(getTextF b).2.1=0):=by
 have hd:=getData_used b
 unfold getTextF
 by_cases h : (getDataF b).2.2≠0
 ·rw [if_pos h];simp
 ·rw [if_neg h]
  by_cases ht : textB (getDataF b).1=true
  ·rw [if_pos ht];exact ⟨hd.1,fun h'=>absurd h' h⟩
  ·rw [if_neg ht];simp
theorem q_valuen (id : Int) (b : Bytes) (hl : b.length≤140737488355328) (k : Int) (W : Nat) (hk : kindI id=k) (hW : (k=1∧W=1)∨(k=2∧W=2)∨(k=3∧W=4)) : E 154 [.int .i64 id,bytesV b] []=some (valV true (numV id W b),[]):=by
 have hC:=fun σ site own=>q_kindC σ site own id
 rw [hk] at hC
 have hG:=fun σ site own f=>q_getC σ site own (b.take W) (by simp;omega) f
 have hg:=getU4 (b.take W) (by simp;omega)
 unfold numV
 generalize getU (b.take W)=g at *
 have hi : IntKind.i64.wrap (g : Int)=(g : Int):=wrap_nat (by omega) (by omega)
 have hw : ∀ W : Nat,W≤b.length→∀ (σ : AHeap) (kk : IntKind),sliceA σ 1 (.lst false (b.map byteV)) none (some (.int kk (W : Int))) none=some (.lst false ((b.take W).map byteV),σ,{}):=fun W hW σ kk=>by
  have:=slice_hi σ 1 b byteV kk (W : Int) (by omega) (by omega)
  exact this
 have z1 : ((1 : Nat) : Int)=1:=rfl
 have z2 : ((2 : Nat) : Int)=2:=rfl
 have z4 : ((4 : Nat) : Int)=4:=rfl
 rcases hW with ⟨rfl,rfl⟩ | ⟨rfl,rfl⟩ | ⟨rfl,rfl⟩
 ·have w1 : IntKind.i64.wrap (1 - 1)=0:=rfl
  have w2 : IntKind.i64.wrap (1*2 ^ min (Int.toNat 0) IntKind.i64.bits)=1:=rfl
  have ng : ¬((0 : Int) < 0):=by decide
  by_cases h : b.length < 1
  ·have h' : (b.length : Int) < 1:=by omega
   rw [E_eq (by rfl) cf_prop_value,if_pos h]
   simp -implicitDefEqProofs only [EVS0,EVS1,EVS5,EVS6,EVL0,eq_self,exI,nsite,freeAt,execI,Opd.ev,tget,tins,tput,keepL,sitesOf,List.sum_cons,List.sum_nil,Nat.reduceAdd,Nat.reduceLT,Nat.reduceLeDiff,Nat.reduceEqDiff,Nat.reduceBEq,beq_self_eq_true,ldA,stA,partA,faddrA,setAt,binA,arithA,shiftA,Option.some.injEq,reduceCtorEq,decide_true,resA,resAll,resOne,enterA,↓reduceIte,noRefL,cb_prop_value,b_prop_value,cr_prop_value,oI,oN,bytesV,hC,w1,w2,ng,h',valV,AVal.cells]
   rfl
  ·have h' : ¬(b.length : Int) < 1:=by omega
   have hs:=hw 1 (by omega)
   rw [z1] at hs
   have e0 : ((0 : Int) == 0)=true:=rfl
   rw [E_eq (by rfl) cf_prop_value,if_neg h]
   simp -implicitDefEqProofs only [EVS0,EVS1,EVS5,EVS6,EVL0,eq_self,exI,nsite,freeAt,execI,Opd.ev,tget,tins,tput,keepL,sitesOf,List.sum_cons,List.sum_nil,Nat.reduceAdd,Nat.reduceLT,Nat.reduceLeDiff,Nat.reduceEqDiff,Nat.reduceBEq,beq_self_eq_true,Bool.false_eq_true,ldA,stA,partA,faddrA,setAt,binA,arithA,shiftA,Option.some.injEq,reduceCtorEq,decide_false,resA,resAll,resOne,enterA,↓reduceIte,noRefL,cb_prop_value,b_prop_value,cr_prop_value,oI,oN,bytesV,hC,w1,w2,ng,h',hs,hG,hi,valV,AVal.cells]
   rfl
 ·have w1 : IntKind.i64.wrap (2 - 1)=1:=rfl
  have w2 : IntKind.i64.wrap (1*2 ^ min (Int.toNat 1) IntKind.i64.bits)=2:=rfl
  have ng : ¬((1 : Int) < 0):=by decide
  by_cases h : b.length < 2
  ·have h' : (b.length : Int) < 2:=by omega
   rw [E_eq (by rfl) cf_prop_value,if_pos h]
   simp -implicitDefEqProofs only [EVS0,EVS1,EVS5,EVS6,EVL0,eq_self,exI,nsite,freeAt,execI,Opd.ev,tget,tins,tput,keepL,sitesOf,List.sum_cons,List.sum_nil,Nat.reduceAdd,Nat.reduceLT,Nat.reduceLeDiff,Nat.reduceEqDiff,Nat.reduceBEq,beq_self_eq_true,Bool.false_eq_true,ldA,stA,partA,faddrA,setAt,binA,arithA,shiftA,Option.some.injEq,reduceCtorEq,decide_true,resA,resAll,resOne,enterA,↓reduceIte,noRefL,cb_prop_value,b_prop_value,cr_prop_value,oI,oN,bytesV,hC,w1,w2,ng,h',Int.reduceBEq,valV,AVal.cells]
   rfl
  ·have h' : ¬(b.length : Int) < 2:=by omega
   have hs:=hw 2 (by omega)
   rw [z2] at hs
   have e0 : ((0 : Int) == 0)=true:=rfl
   rw [E_eq (by rfl) cf_prop_value,if_neg h]
   simp -implicitDefEqProofs only [EVS0,EVS1,EVS5,EVS6,EVL0,eq_self,exI,nsite,freeAt,execI,Opd.ev,tget,tins,tput,keepL,sitesOf,List.sum_cons,List.sum_nil,Nat.reduceAdd,Nat.reduceLT,Nat.reduceLeDiff,Nat.reduceEqDiff,Nat.reduceBEq,beq_self_eq_true,Bool.false_eq_true,ldA,stA,partA,faddrA,setAt,binA,arithA,shiftA,Option.some.injEq,reduceCtorEq,decide_false,resA,resAll,resOne,enterA,↓reduceIte,noRefL,cb_prop_value,b_prop_value,cr_prop_value,oI,oN,bytesV,hC,w1,w2,ng,h',hs,hG,hi,Int.reduceBEq,valV,AVal.cells]
   rfl
 ·have w1 : IntKind.i64.wrap (3 - 1)=2:=rfl
  have w2 : IntKind.i64.wrap (1*2 ^ min (Int.toNat 2) IntKind.i64.bits)=4:=rfl
  have ng : ¬((2 : Int) < 0):=by decide
  by_cases h : b.length < 4
  ·have h' : (b.length : Int) < 4:=by omega
   rw [E_eq (by rfl) cf_prop_value,if_pos h]
   simp -implicitDefEqProofs only [EVS0,EVS1,EVS5,EVS6,EVL0,eq_self,exI,nsite,freeAt,execI,Opd.ev,tget,tins,tput,keepL,sitesOf,List.sum_cons,List.sum_nil,Nat.reduceAdd,Nat.reduceLT,Nat.reduceLeDiff,Nat.reduceEqDiff,Nat.reduceBEq,beq_self_eq_true,Bool.false_eq_true,ldA,stA,partA,faddrA,setAt,binA,arithA,shiftA,Option.some.injEq,reduceCtorEq,decide_true,resA,resAll,resOne,enterA,↓reduceIte,noRefL,cb_prop_value,b_prop_value,cr_prop_value,oI,oN,bytesV,hC,w1,w2,ng,h',Int.reduceBEq,valV,AVal.cells]
   rfl
  ·have h' : ¬(b.length : Int) < 4:=by omega
   have hs:=hw 4 (by omega)
   rw [z4] at hs
   have e0 : ((0 : Int) == 0)=true:=rfl
   rw [E_eq (by rfl) cf_prop_value,if_neg h]
   simp -implicitDefEqProofs only [EVS0,EVS1,EVS5,EVS6,EVL0,eq_self,exI,nsite,freeAt,execI,Opd.ev,tget,tins,tput,keepL,sitesOf,List.sum_cons,List.sum_nil,Nat.reduceAdd,Nat.reduceLT,Nat.reduceLeDiff,Nat.reduceEqDiff,Nat.reduceBEq,beq_self_eq_true,Bool.false_eq_true,ldA,stA,partA,faddrA,setAt,binA,arithA,shiftA,Option.some.injEq,reduceCtorEq,decide_false,resA,resAll,resOne,enterA,↓reduceIte,noRefL,cb_prop_value,b_prop_value,cr_prop_value,oI,oN,bytesV,hC,w1,w2,ng,h',hs,hG,hi,Int.reduceBEq,valV,AVal.cells]
   rfl
theorem q_value (id : Int) (b : Bytes) (hl : b.length≤140737488355328) : ∃ f,E 154 [.int .i64 id,bytesV b] []=some (valV f (valueF id b),[]):=by
 unfold valueF
 have hC:=fun σ site own=>q_kindC σ site own id
 have hGV:=fun σ site own f=>q_getvarC σ site own f b (by omega)
 have hGT:=fun σ site own f=>q_gettextC σ site own f b hl
 have hGD:=fun σ site own f=>q_getdataC σ site own f b hl
 have z0 : ((0 : Nat) : Int)=0:=rfl
 rcases kind_cases id with hk | hk | hk | hk | hk | hk | hk | hk
 ·refine ⟨true,?_⟩
  rw [hk] at hC ⊢
  rw [show valueK 0 id b=(⟨id,0,[],[],[]⟩,0,true) from rfl,E_eq (by rfl) cf_prop_value]
  have e0 : ((0 : Int) == 0)=true:=rfl
  simp -implicitDefEqProofs only [EVS0,EVS1,EVS5,EVS6,EVL0,eq_self,exI,nsite,freeAt,execI,Opd.ev,tget,tins,tput,keepL,sitesOf,List.sum_cons,List.sum_nil,Nat.reduceAdd,Nat.reduceLT,Nat.reduceLeDiff,Nat.reduceEqDiff,Nat.reduceBEq,beq_self_eq_true,Bool.false_eq_true,ldA,stA,partA,faddrA,setAt,binA,arithA,Option.some.injEq,reduceCtorEq,resA,resAll,resOne,enterA,↓reduceIte,noRefL,cb_prop_value,b_prop_value,cr_prop_value,oI,oN,bytesV,hC,Int.reduceBEq,valV,AVal.cells]
  rfl
 ·rw [hk];exact ⟨true,q_valuen id b hl 1 1 hk (by simp)⟩
 ·rw [hk];exact ⟨true,q_valuen id b hl 2 2 hk (by simp)⟩
 ·rw [hk];exact ⟨true,q_valuen id b hl 3 4 hk (by simp)⟩
 ·refine ⟨true,?_⟩
  rw [hk] at hC ⊢
  rw [show valueK 4 id b=(⟨id,(getVarF b).1,[],[],[]⟩,(getVarF b).2.1,(getVarF b).2.2 == 0) from rfl,E_eq (by rfl) cf_prop_value]
  unfold gvT at hGV
  simp -implicitDefEqProofs only [EVS0,EVS1,EVS5,EVS6,EVL0,eq_self,exI,nsite,freeAt,execI,Opd.ev,tget,tins,tput,keepL,sitesOf,List.sum_cons,List.sum_nil,Nat.reduceAdd,Nat.reduceLT,Nat.reduceLeDiff,Nat.reduceEqDiff,Nat.reduceBEq,beq_self_eq_true,Bool.false_eq_true,ldA,stA,partA,faddrA,setAt,binA,arithA,reduceCtorEq,resA,resAll,resOne,enterA,↓reduceIte,noRefL,cb_prop_value,b_prop_value,cr_prop_value,oI,oN,bytesV,hC,hGV,Int.reduceBEq,valV,AVal.cells]
 ·refine ⟨true,?_⟩
  rw [hk] at hC ⊢
  rw [show valueK 5 id b=(⟨id,0,(getTextF b).1,[],[]⟩,(getTextF b).2.1,(getTextF b).2.2 == 0) from rfl,E_eq (by rfl) cf_prop_value]
  unfold gtT at hGT
  simp -implicitDefEqProofs only [EVS0,EVS1,EVS5,EVS6,EVL0,eq_self,exI,nsite,freeAt,execI,Opd.ev,tget,tins,tput,keepL,sitesOf,List.sum_cons,List.sum_nil,Nat.reduceAdd,Nat.reduceLT,Nat.reduceLeDiff,Nat.reduceEqDiff,Nat.reduceBEq,beq_self_eq_true,Bool.false_eq_true,ldA,stA,partA,faddrA,setAt,binA,arithA,reduceCtorEq,resA,resAll,resOne,enterA,↓reduceIte,noRefL,cb_prop_value,b_prop_value,cr_prop_value,oI,oN,bytesV,hC,hGT,Int.reduceBEq,valV,AVal.cells]
 ·refine ⟨false,?_⟩
  rw [hk] at hC ⊢
  rw [show valueK 6 id b=(⟨id,0,[],[],(getDataF b).1⟩,(getDataF b).2.1,(getDataF b).2.2 == 0) from rfl,E_eq (by rfl) cf_prop_value]
  unfold gdT at hGD
  simp -implicitDefEqProofs only [EVS0,EVS1,EVS5,EVS6,EVL0,eq_self,exI,nsite,freeAt,execI,Opd.ev,tget,tins,tput,keepL,sitesOf,List.sum_cons,List.sum_nil,Nat.reduceAdd,Nat.reduceLT,Nat.reduceLeDiff,Nat.reduceEqDiff,Nat.reduceBEq,beq_self_eq_true,Bool.false_eq_true,ldA,stA,partA,faddrA,setAt,binA,arithA,reduceCtorEq,resA,resAll,resOne,enterA,↓reduceIte,noRefL,cb_prop_value,b_prop_value,cr_prop_value,oI,oN,bytesV,hC,hGD,Int.reduceBEq,valV,AVal.cells]
 ·refine ⟨true,?_⟩
  rw [hk] at hC ⊢
  rw [show valueK 7 id b=pairV id b from rfl,E_eq (by rfl) cf_prop_value]
  unfold gtT at hGT
  unfold pairV
  have hu:=getText_used b
  by_cases h : (getTextF b).2.2=0
  ·have h' : ((getTextF b).2.2 == 0)=true:=by simpa using h
   have hs:=fun σ kk=>slice_l σ b kk (((getTextF b).2.1 : Nat) : Int) (by omega) (by omega)
   have e : ((((getTextF b).2.1 : Nat) : Int)).toNat=(getTextF b).2.1:=rfl
   rw [e] at hs
   have hGT2:=fun σ site own f=>q_gettextC σ site own f (b.drop (getTextF b).2.1) (by simp;omega)
   unfold gtT at hGT2
   have hu2:=getText_used (b.drop (getTextF b).2.1)
   have hdl : (b.drop (getTextF b).2.1).length≤b.length:=by simp
   have hw : IntKind.i64.wrap ((((getTextF b).2.1 : Nat) : Int)+(((getTextF (b.drop (getTextF b).2.1)).2.1 : Nat) : Int))=(((getTextF b).2.1+(getTextF (b.drop (getTextF b).2.1)).2.1 : Nat) : Int):=by
    rw [wrap_nat (by omega) (by omega)];rfl
   rw [if_pos h]
   rw [h] at hGT
   have e0 : ((0 : Int) == 0)=true:=rfl
   simp -implicitDefEqProofs only [EVS0,EVS1,EVS5,EVS6,EVL0,eq_self,exI,nsite,freeAt,execI,Opd.ev,tget,tins,tput,keepL,sitesOf,List.sum_cons,List.sum_nil,Nat.reduceAdd,Nat.reduceLT,Nat.reduceLeDiff,Nat.reduceEqDiff,Nat.reduceBEq,beq_self_eq_true,Bool.false_eq_true,ldA,stA,partA,faddrA,setAt,binA,arithA,reduceCtorEq,resA,resAll,resOne,enterA,↓reduceIte,noRefL,cb_prop_value,b_prop_value,cr_prop_value,oI,oN,bytesV,hC,hGT,hs,hGT2,hw,Int.reduceBEq,valV,AVal.cells]
  ·have h' : ((getTextF b).2.2 == 0)=false:=by simpa using h
   rw [if_neg h]
   obtain ⟨x1,x2⟩:=hu.2 h
   rw [x1,x2] at hGT
   simp -implicitDefEqProofs only [EVS0,EVS1,EVS5,EVS6,EVL0,eq_self,exI,nsite,freeAt,execI,Opd.ev,tget,tins,tput,keepL,sitesOf,List.sum_cons,List.sum_nil,Nat.reduceAdd,Nat.reduceLT,Nat.reduceLeDiff,Nat.reduceEqDiff,Nat.reduceBEq,beq_self_eq_true,Bool.false_eq_true,ldA,stA,partA,faddrA,setAt,binA,arithA,reduceCtorEq,resA,resAll,resOne,enterA,↓reduceIte,noRefL,cb_prop_value,b_prop_value,cr_prop_value,oI,oN,bytesV,hC,hGT,h',Int.reduceBEq,valV,AVal.cells]
theorem q_valueC (σ : AHeap) (site own : Nat) (f : Bool) (id : Int) (b : Bytes) (hl : b.length≤140737488355328) : callG E BY σ site 154 own true [.int .i64 id,.lst f (b.map byteV)]=some (valV false (valueF id b),σ,{}):=by
 obtain ⟨g,h⟩:=q_value id b hl
 exact call_normT h (by kernel_rfl) rfl rfl rfl (fun _=>rfl) _ _ _
end Go.Proofs.YtmlkhhidifjjfaaDoor
namespace Go.Proofs.YtmlkhhidifjjfaaDoor
set_option maxHeartbeats 8000000
set_option maxRecDepth 10000
end Go.Proofs.YtmlkhhidifjjfaaDoor
namespace Go.Proofs.YtmlkhhidifjjfaaDoor
set_option maxHeartbeats 4000000
set_option maxRecDepth 10000
def noProp (b : Bool) : AVal:=.tup [.agg [.int .i64 0,.int .i64 0,.str [],.str [],.lst b []],.bool false]
theorem kOk_bytes (l : Bytes) : kOk 1 (l.map byteV)=true:=by cases l <;> rfl
theorem q_cloneB (l : Bytes) (h : l.length≤140737488355328) : E 111 [.lst false (l.map byteV)] []=some (.sl 0 0 0 (l.map byteV).length,[.row 0 1 (l.map byteV)]):=by
 refine EV_some.2 ⟨1,?_⟩
 show clonePrim 1 1 [.lst false (l.map byteV)] []=_
 have h1 : (l.map byteV).length*1≤140737488355328∧kOk 1 (l.map byteV)=true:=⟨by simpa using h,kOk_bytes l⟩
 simp only [clonePrim,elemsA]
 rw [if_pos h1];rfl
theorem q_cloneBC (σ : AHeap) (site own : Nat) (l : Bytes) (h : l.length≤140737488355328) : callG E BY σ site 111 own true [.lst false (l.map byteV)]=some (.lst false (l.map byteV),σ,{}) :=
 call_rown (byref:=BY) (q_cloneB l h) rfl rfl rfl σ site own
theorem q_copied (p : PropD) (h : p.data.length≤140737488355328) : E 147 [propV p] []=some (propV p,[]):=by
 have hC:=fun σ site own=>q_cloneBC σ site own p.data h
 rw [E_eq (by rfl) cf_prop_copied]
 simp -implicitDefEqProofs only [EVS0,EVS1,EVS4,EVS5,EVS6,EVL0,eq_self,exI,nsite,freeAt,execI,Opd.ev,tget,tins,tput,keepL,sitesOf,List.sum_cons,List.sum_nil,Nat.reduceAdd,Nat.reduceLT,Nat.reduceLeDiff,Nat.reduceEqDiff,Nat.reduceBEq,beq_self_eq_true,ldA,stA,partA,faddrA,setAt,resA,resAll,resOne,enterA,↓reduceIte,noRefL,cb_prop_copied,b_prop_copied,cr_prop_copied,oI,oN,bytesV,propV,propC,hC]
theorem q_copiedC (σ : AHeap) (site own : Nat) (p : PropD) (h : p.data.length≤140737488355328) : callG E BY σ site 147 own true [.agg [.int .i64 p.id,.int .i64 p.num,.str p.text,.str p.pair,.lst false (p.data.map byteV)]]=some (.agg [.int .i64 p.id,.int .i64 p.num,.str p.text,.str p.pair,.lst false (p.data.map byteV)],σ,{}) :=
 call_flat (q_copied p h) (by kernel_rfl) (by simp -implicitDefEqProofs only [EVS3,EVL0,eq_self,bytesV,propV,propC]) (by simp -implicitDefEqProofs only [EVS3,EVS4,EVL0,eq_self,bytesV,propV,propC]) rfl (fun _=>rfl) _ _ _ _
def findV (id : Int) : List PropD→AVal
 | []=>noProp true
 | p::r=>if p.id == id then .tup [propV p,.bool true] else findV id r
theorem q_findl (l : List PropD) (hl : l.length≤9223372036854775807) (hd : ∀ p ∈ l,p.data.length≤140737488355328) (id : Int) : ∀ (r : List PropD) (i : Nat),l.drop i=r →
  K_prop_Find_l2 0 [(10,.int .i64 i),(9,.int .i64 l.length),(8,.lst false (l.map propV)),(4,.ref 0 0),(0,.int .i64 id)] [.var [.int .i64 0,.int .i64 0,.str [],.str [],.lst true []]]=some (findV id r,[])
 | [],i,h=>by
  have h1:=drop_nil h
  unfold K_prop_Find_l2
  rw [evL_eq,findV]
  simp -implicitDefEqProofs only [EVS0,EVS1,EVS5,EVS6,EVL0,eq_self,exI,nsite,freeAt,execI,Opd.ev,tget,tins,tput,keepL,sitesOf,List.sum_cons,List.sum_nil,Nat.reduceAdd,Nat.reduceLT,Nat.reduceLeDiff,Nat.reduceEqDiff,beq_self_eq_true,Bool.false_eq_true,ldA,stA,partA,setAt,binA,arithA,reduceCtorEq,decide_false,resA,resAll,resOne,↓reduceIte,noRefL,cr_prop_Find,x_prop_Find_k0,d_prop_Find_k0,x_prop_Find_l2,d_prop_Find_l2,oI,oN,h1,noProp,fillA,AVal.cells]
 | p::r,i,h=>by
  have ih:=q_findl l hl hd id r (i+1) (drop_at h).2.1
  have h1 : (i : Int) < l.length:=by have:=(drop_at h).2.2;omega
  have e1:=iad (drop_at h).1 propV (k:=5) rfl
  have e3:=wrap_succ h1 hl
  have hC:=fun σ site own=>q_copiedC σ site own p (hd p (List.mem_of_getElem? (drop_at h).1))
  unfold K_prop_Find_l2 at ih ⊢
  rw [evL_eq,findV]
  cases hb : (p.id == id)
  ·simp -implicitDefEqProofs only [EVS0,EVS1,EVS4,EVS5,EVS7,EVL0,EVL1,eq_self,exI,nsite,freeAt,execI,Opd.ev,tget,tins,tput,keepL,sitesOf,List.sum_cons,List.sum_nil,Nat.reduceAdd,Nat.reduceLT,Nat.reduceLeDiff,Nat.reduceEqDiff,Nat.reduceBEq,beq_self_eq_true,Bool.false_eq_true,ldA,stA,partA,faddrA,setAt,binA,arithA,ne_eq,reduceCtorEq,decide_true,↓reduceIte,gcT,gcA,gcIds,reach,rhoOf,heapOf,idxA,genB,newGen,renB,refsB,x_prop_Find_l2,d_prop_Find_l2,oI,oN,bytesV,propV,propC,h1,e1,e3,hb]
   exact ih
  ·simp -implicitDefEqProofs only [EVS0,EVS1,EVS4,EVS5,EVS6,EVL0,eq_self,exI,nsite,freeAt,execI,Opd.ev,tget,tins,tput,keepL,sitesOf,List.sum_cons,List.sum_nil,Nat.reduceAdd,Nat.reduceLT,Nat.reduceLeDiff,Nat.reduceEqDiff,Nat.reduceBEq,beq_self_eq_true,ldA,stA,partA,faddrA,setAt,binA,arithA,reduceCtorEq,decide_true,resA,resAll,resOne,↓reduceIte,noRefL,cr_prop_Find,x_prop_Find_l2,d_prop_Find_l2,oI,oN,bytesV,propV,propC,h1,e1,hb,hC]
theorem q_find (l : List PropD) (hl : l.length≤9223372036854775807) (hd : ∀ p ∈ l,p.data.length≤140737488355328) (id : Int) : E 112 [.int .i64 id,propsV l] []=some (findV id l,[]):=by
 have:=q_findl l hl hd id l 0 rfl
 have z0 : ((0 : Nat) : Int)=0:=rfl
 rw [z0] at this
 unfold K_prop_Find_l2 at this
 rw [E_eq (by rfl) cf_prop_Find]
 simp -implicitDefEqProofs only [EVS0,EVS1,EVS5,EVS7,EVL0,EVL1,eq_self,exI,nsite,freeAt,execI,Opd.ev,tget,tins,tput,keepL,sitesOf,List.sum_cons,List.sum_nil,Nat.reduceLT,Nat.reduceEqDiff,Nat.reduceBEq,beq_self_eq_true,Bool.false_eq_true,ne_eq,reduceCtorEq,enterA,↓reduceIte,gcT,gcA,gcIds,reach,rhoOf,heapOf,idxA,genB,newGen,renB,refsB,cb_prop_Find,b_prop_Find,oI,propsV]
 exact this
def findP (id : Int) (l : List PropD) : Option PropD:=l.find? (fun p=>p.id == id)
def fndV (b : Bool) : Option PropD→AVal
 | none=>noProp b
 | some p=>.tup [propV p,.bool true]
theorem findV_eq (id : Int) : ∀ l : List PropD,findV id l=fndV true (findP id l)
 | []=>rfl
 | p::r=>by
  have ih:=findV_eq id r
  unfold findP at ih ⊢
  rw [findV,List.find?_cons]
  cases h : (p.id == id)
  ·simpa using ih
  ·rfl
theorem q_findC (σ : AHeap) (site own : Nat) (l : List PropD) (hl : l.length≤9223372036854775807) (hd : ∀ p ∈ l,p.data.length≤140737488355328) (id : Int) : callG E BY σ site 112 own true [.int .i64 id,.lst false (l.map propV)]=some (fndV false (findP id l),σ,{}):=by
 have h:=q_find l hl hd id
 rw [findV_eq] at h
 cases hf : findP id l with
 | none=>rw [hf] at h;exact call_normT h (by kernel_rfl) rfl rfl rfl (fun _=>rfl) σ site own
 | some p =>
  rw [hf] at h
  exact call_normT h (by kernel_rfl) rfl rfl rfl (fun _=>rfl) σ site own
def propZ : PropD:=⟨0,0,[],[],[]⟩
theorem fndV_getD (o : Option PropD) : fndV false o=.tup [.agg [.int .i64 (o.getD propZ).id,.int .i64 (o.getD propZ).num,.str (o.getD propZ).text,.str (o.getD propZ).pair,.lst false ((o.getD propZ).data.map byteV)],.bool o.isSome]:=by
 cases o <;> rfl
end Go.Proofs.YtmlkhhidifjjfaaDoor
namespace Go.Proofs.YtmlkhhidifjjfaaDoor
set_option maxHeartbeats 8000000
set_option maxRecDepth 10000
def oftenB (id w : Int) : Bool:=id == 38 || (id == 11 && w == 3)
def fitsB (id num : Int) : Bool:=if id == 11 || id == 33 || id == 35 || id == 39 then num != 0 else kindI id != 1 || decide (num≤1)
theorem q_often (id w : Int) : E 155 [.int .i64 id,.int .i64 w] []=some (.bool (oftenB id w),[]):=by
 rw [E_eq (by rfl) cf_prop_often]
 unfold oftenB
 cases h1 : (id == 38) <;> cases h2 : (id == 11)
 all_goals simp -implicitDefEqProofs only [EVS0,EVS1,EVS5,EVL0,eq_self,exI,nsite,freeAt,execI,Opd.ev,tget,tins,tput,keepL,sitesOf,List.sum_cons,List.sum_nil,Nat.reduceLT,Nat.reduceEqDiff,beq_self_eq_true,Bool.false_eq_true,binA,arithA,gSpan,gSkip,unG,ne_eq,Option.some.injEq,reduceCtorEq,decide_false,resA,resAll,resOne,enterA,↓reduceIte,cb_prop_often,b_prop_often,cr_prop_often,oI,h1,h2]
theorem q_oftenC (σ : AHeap) (site own : Nat) (id w : Int) : callG E BY σ site 155 own true [.int .i64 id,.int .i64 w]=some (.bool (oftenB id w),σ,{}) :=
 call_normT (q_often id w) (by kernel_rfl) rfl rfl rfl (fun _=>rfl) _ _ _
theorem q_fits (p : PropD) : E 156 [propV p] []=some (.bool (fitsB p.id p.num),[]):=by
 have hC:=fun σ site own=>q_kindC σ site own p.id
 rw [E_eq (by rfl) cf_prop_fits]
 unfold fitsB
 cases h1 : (p.id == 11) <;> cases h2 : (p.id == 33) <;> cases h3 : (p.id == 35) <;> cases h4 : (p.id == 39)
 all_goals simp -implicitDefEqProofs only [EVS0,EVS1,EVS4,EVS5,EVS7,EVL0,ite_tf,ite_list,eq_self,exI,nsite,freeAt,execI,Opd.ev,tget,tins,tput,keepL,sitesOf,List.sum_cons,List.sum_nil,Nat.reduceLT,Nat.reduceEqDiff,Nat.reduceBEq,beq_self_eq_true,Bool.false_eq_true,ldA,partA,faddrA,binA,arithA,gSpan,gSkip,unG,ne_eq,Option.some.injEq,decide_false,resA,resAll,resOne,enterA,ite_self,↓reduceIte,cb_prop_fits,b_prop_fits,cr_prop_fits,oI,bytesV,propV,propC,hC,h1,h2,h3,h4]
theorem q_fitsC (σ : AHeap) (site own : Nat) (p : PropD) : callG E BY σ site 156 own true [.agg [.int .i64 p.id,.int .i64 p.num,.str p.text,.str p.pair,.lst false (p.data.map byteV)]]=some (.bool (fitsB p.id p.num),σ,{}) :=
 call_normT (q_fits p) (by kernel_rfl) rfl rfl rfl (fun _=>rfl) _ _ _
end Go.Proofs.YtmlkhhidifjjfaaDoor
namespace Go.Proofs.YtmlkhhidifjjfaaDoor
set_option maxHeartbeats 8000000
set_option maxRecDepth 10000
theorem gvA_used : ∀ (b : Bytes) (i n : Nat),(gvA i n b).2.2=0→i < (gvA i n b).2.1∧(gvA i n b).2.1≤i+b.length
 | [],i,n,h=>by
  unfold gvA at h
  split at h <;> simp at h
 | c::r,i,n,h=>by
  unfold gvA at h ⊢
  split at h
  ·simp at h
  ·rename_i h4
   rw [if_neg h4]
   split at h
   ·rename_i hc
    rw [if_pos hc]
    split at h
    ·simp at h
    ·rename_i h0
     rw [if_neg h0]
     simp
   ·rename_i hc
    rw [if_neg hc]
    have:=gvA_used r (i+1) _ h
    simp only [List.length_cons]
    omega
theorem getVar_used (b : Bytes) (h : (getVarF b).2.2=0) : 0 < (getVarF b).2.1∧(getVarF b).2.1≤b.length:=by
 have:=gvA_used b 0 0 h
 simpa [getVarF] using this
theorem value_id (id : Int) (b : Bytes) : (valueF id b).1.id=id:=by
 unfold valueF valueK numV pairV
 repeat' split
 all_goals rfl
theorem value_data (id : Int) (b : Bytes) : (valueF id b).1.data.length≤b.length:=by
 unfold valueF valueK numV pairV
 repeat' split
 all_goals first
  | exact (getData_used b).2
  | exact Nat.zero_le _
theorem gvA_le : ∀ (b : Bytes) (i n : Nat),(gvA i n b).2.1≤i+b.length
 | [],i,n=>by unfold gvA;split <;> simp
 | c::r,i,n=>by
  unfold gvA
  repeat' split
  all_goals simp only [List.length_cons]
  all_goals first
   | omega
   | (have:=gvA_le r (i+1) (n+c.toNat % 128*128 ^ i);omega)
theorem getVar_le (b : Bytes) : (getVarF b).2.1≤b.length:=by simpa [getVarF] using gvA_le b 0 0
theorem value_used (id : Int) (b : Bytes) : (valueF id b).2.1≤b.length:=by
 have h1:=(getText_used b).1
 have h2:=(getText_used (b.drop (getTextF b).2.1)).1
 have h3:=getVar_le b
 have h4:=(getData_used b).1
 simp only [List.length_drop] at h2
 unfold valueF valueK numV pairV
 repeat' split
 all_goals simp only
 all_goals omega
def oneK (w : Int) (l : List PropD) (id : Int) (u : Nat) (v : PropD×Nat×Bool) : PropD×Nat×Int :=
 if v.2.2=false then (v.1,0,129) else if ((findP id l).isSome && !oftenB id w)=true then (v.1,0,130) else
 if fitsB v.1.id v.1.num=true then (v.1,u+v.2.1,0) else if (id == 35)=true then (v.1,0,148) else (v.1,0,130)
def oneF (w : Int) (b : Bytes) (l : List PropD) : PropD×Nat×Int :=
 if (getVarF b).2.2≠0∨mayB ((getVarF b).1 : Nat) w=false then (propZ,0,129)
 else oneK w l ((getVarF b).1 : Nat) (getVarF b).2.1 (valueF ((getVarF b).1 : Nat) (b.drop (getVarF b).2.1))
def oneV (f : Bool) (x : PropD×Nat×Int) : AVal:=.tup [.agg [.int .i64 x.1.id,.int .i64 x.1.num,.str x.1.text,.str x.1.pair,.lst f (x.1.data.map byteV)],.int .i64 (x.2.1 : Nat),.int .i64 x.2.2]
theorem q_one (w : Int) (b : Bytes) (l : List PropD) (hl : b.length≤140737488355328) (hl2 : l.length≤9223372036854775807) (hd : ∀ p ∈ l,p.data.length≤140737488355328) : ∃ f,E 136 [.int .i64 w,bytesV b,propsV l] []=some (oneV f (oneF w b l),[]):=by
 have hGV:=fun σ site own f=>q_getvarC σ site own f b (by omega)
 have hu:=getVar_used b
 unfold oneF
 rcases hx : getVarF b with ⟨n,u,e⟩
 rw [hx] at hGV hu
 unfold gvT at hGV
 simp only at hGV hu ⊢
 have hM:=fun σ site own=>q_mayC σ site own (n : Int) w
 by_cases he : e=0
 ·subst he
  have n0 : ((0 : Int) != 0)=false:=rfl
  cases hm : mayB (n : Int) w
  ·refine ⟨true,?_⟩
   rw [hm] at hM
   have hc : (0 : Int)≠0∨false=false:=Or.inr rfl
   rw [if_pos hc,E_eq (by rfl) cf_prop_one]
   unfold oneV propZ
   simp -implicitDefEqProofs only [EVS0,EVS1,EVS5,EVS6,EVL0,eq_self,exI,nsite,freeAt,execI,Opd.ev,tget,tins,tput,keepL,sitesOf,List.sum_cons,List.sum_nil,Nat.reduceAdd,Nat.reduceLT,Nat.reduceLeDiff,Nat.reduceEqDiff,Nat.reduceBEq,beq_self_eq_true,Bool.false_eq_true,ldA,stA,partA,setAt,binA,arithA,unA,gSpan,unG,ne_eq,Option.some.injEq,reduceCtorEq,decide_false,resA,resAll,resOne,enterA,↓reduceIte,noRefL,cb_prop_one,b_prop_one,cr_prop_one,oI,oN,bytesV,propsV,hGV,hM,n0,AVal.cells,setAt]
   rfl
  ·refine ⟨false,?_⟩
   rw [hm] at hM
   have hc : ¬((0 : Int)≠0∨true=false):=by simp
   rw [if_neg hc]
   have hul:=(hu rfl).2
   have hs:=fun σ kk=>slice_l σ b kk ((u : Nat) : Int) (by omega) (by omega)
   have e2 : (((u : Nat) : Int)).toNat=u:=rfl
   rw [e2] at hs
   have hV:=fun σ site own f=>q_valueC σ site own f (n : Int) (b.drop u) (by simp;omega)
   have hF:=fun σ site own=>q_findC σ site own l hl2 hd (n : Int)
   have hO:=fun σ site own=>q_oftenC σ site own (n : Int) w
   have hid:=value_id (n : Int) (b.drop u)
   have hused : (valueF (n : Int) (b.drop u)).2.1≤b.length:=Nat.le_trans (value_used _ _) (by simp)
   have hT:=fun σ site own=>q_fitsC σ site own (valueF (n : Int) (b.drop u)).1
   unfold valV at hV
   simp only [fndV_getD] at hF
   unfold oneK
   generalize valueF (n : Int) (b.drop u)=v at *
   obtain ⟨p,m,ok⟩:=v
   simp only at hV hT hid hused ⊢
   have hw : IntKind.i64.wrap ((u : Int)+(m : Int))=((u+m : Nat) : Int):=by
    rw [wrap_nat (by omega) (by omega)];rfl
   generalize (findP (n : Int) l).getD propZ=q at *
   cases ok
   ·rw [E_eq (by rfl) cf_prop_one]
    unfold oneV
    simp -implicitDefEqProofs only [EVS0,EVS1,EVS5,EVS6,EVL0,eq_self,exI,nsite,freeAt,execI,Opd.ev,tget,tins,tput,keepL,sitesOf,List.sum_cons,List.sum_nil,Nat.reduceAdd,Nat.reduceLT,Nat.reduceLeDiff,Nat.reduceEqDiff,Nat.reduceBEq,beq_self_eq_true,Bool.false_eq_true,ldA,stA,partA,setAt,binA,arithA,unA,gSpan,unG,ne_eq,Option.some.injEq,reduceCtorEq,decide_false,resA,resAll,resOne,enterA,↓reduceIte,noRefL,cb_prop_one,b_prop_one,cr_prop_one,oI,oN,bytesV,propsV,hGV,hM,hs,hV,hF,n0,AVal.cells,setAt]
    rfl
   ·cases h1 : (findP (n : Int) l).isSome <;> rw [h1] at hF
    ·cases h3 : fitsB p.id p.num <;> rw [h3] at hT
     ·cases h4 : ((n : Int) == 35)
      all_goals rw [E_eq (by rfl) cf_prop_one]
      all_goals unfold oneV
      all_goals simp -implicitDefEqProofs only [EVS0,EVS1,EVS5,EVS6,EVL0,eq_self,exI,nsite,freeAt,execI,Opd.ev,tget,tins,tput,keepL,sitesOf,List.sum_cons,List.sum_nil,Nat.reduceAdd,Nat.reduceLT,Nat.reduceLeDiff,Nat.reduceEqDiff,Nat.reduceBEq,beq_self_eq_true,Bool.false_eq_true,ldA,stA,partA,setAt,binA,arithA,unA,gSpan,gSkip,unG,ne_eq,Option.some.injEq,reduceCtorEq,decide_false,resA,resAll,resOne,enterA,↓reduceIte,noRefL,cb_prop_one,b_prop_one,cr_prop_one,oI,oN,bytesV,propsV,hGV,hM,hs,hV,hF,hT,h4,n0,AVal.cells,setAt]
      all_goals rfl
     ·rw [E_eq (by rfl) cf_prop_one]
      unfold oneV
      simp -implicitDefEqProofs only [EVS0,EVS1,EVS5,EVS6,EVL0,eq_self,exI,nsite,freeAt,execI,Opd.ev,tget,tins,tput,keepL,sitesOf,List.sum_cons,List.sum_nil,Nat.reduceAdd,Nat.reduceLT,Nat.reduceLeDiff,Nat.reduceEqDiff,Nat.reduceBEq,beq_self_eq_true,Bool.false_eq_true,ldA,stA,partA,setAt,binA,arithA,unA,gSpan,gSkip,unG,ne_eq,Option.some.injEq,reduceCtorEq,decide_false,resA,resAll,resOne,enterA,↓reduceIte,noRefL,cb_prop_one,b_prop_one,cr_prop_one,oI,oN,bytesV,propsV,hGV,hM,hs,hV,hF,hT,hw,n0,AVal.cells,setAt]
    ·cases h2 : oftenB (n : Int) w <;> rw [h2] at hO
     ·rw [E_eq (by rfl) cf_prop_one]
      unfold oneV
      simp -implicitDefEqProofs only [EVS0,EVS1,EVS5,EVS6,EVL0,eq_self,exI,nsite,freeAt,execI,Opd.ev,tget,tins,tput,keepL,sitesOf,List.sum_cons,List.sum_nil,Nat.reduceAdd,Nat.reduceLT,Nat.reduceLeDiff,Nat.reduceEqDiff,Nat.reduceBEq,beq_self_eq_true,Bool.false_eq_true,ldA,stA,partA,setAt,binA,arithA,unA,gSpan,unG,ne_eq,Option.some.injEq,reduceCtorEq,decide_false,resA,resAll,resOne,enterA,↓reduceIte,noRefL,cb_prop_one,b_prop_one,cr_prop_one,oI,oN,bytesV,propsV,hGV,hM,hs,hV,hF,hO,n0,AVal.cells,setAt]
      rfl
     ·cases h3 : fitsB p.id p.num <;> rw [h3] at hT
      ·cases h4 : ((n : Int) == 35)
       all_goals rw [E_eq (by rfl) cf_prop_one]
       all_goals unfold oneV
       all_goals simp -implicitDefEqProofs only [EVS0,EVS1,EVS5,EVS6,EVL0,eq_self,exI,nsite,freeAt,execI,Opd.ev,tget,tins,tput,keepL,sitesOf,List.sum_cons,List.sum_nil,Nat.reduceAdd,Nat.reduceLT,Nat.reduceLeDiff,Nat.reduceEqDiff,Nat.reduceBEq,beq_self_eq_true,Bool.false_eq_true,ldA,stA,partA,setAt,binA,arithA,unA,gSpan,unG,ne_eq,Option.some.injEq,reduceCtorEq,decide_false,resA,resAll,resOne,enterA,↓reduceIte,noRefL,cb_prop_one,b_prop_one,cr_prop_one,oI,oN,bytesV,propsV,hGV,hM,hs,hV,hF,hT,hO,h4,n0,AVal.cells,setAt]
       all_goals rfl
      ·rw [E_eq (by rfl) cf_prop_one]
       unfold oneV
       simp -implicitDefEqProofs only [EVS0,EVS1,EVS5,EVS6,EVL0,eq_self,exI,nsite,freeAt,execI,Opd.ev,tget,tins,tput,keepL,sitesOf,List.sum_cons,List.sum_nil,Nat.reduceAdd,Nat.reduceLT,Nat.reduceLeDiff,Nat.reduceEqDiff,Nat.reduceBEq,beq_self_eq_true,Bool.false_eq_true,ldA,stA,partA,setAt,binA,arithA,unA,gSpan,unG,ne_eq,Option.some.injEq,reduceCtorEq,decide_false,resA,resAll,resOne,enterA,↓reduceIte,noRefL,cb_prop_one,b_prop_one,cr_prop_one,oI,oN,bytesV,propsV,hGV,hM,hs,hV,hF,hT,hO,hw,n0,AVal.cells,setAt]
 ·refine ⟨true,?_⟩
  have hc : e≠0∨mayB (n : Int) w=false:=Or.inl he
  have n1 : (e != 0)=true:=by simpa using he
  rw [if_pos hc,E_eq (by rfl) cf_prop_one]
  unfold oneV propZ
  simp -implicitDefEqProofs only [EVS0,EVS1,EVS5,EVS6,EVL0,eq_self,exI,nsite,freeAt,execI,Opd.ev,tget,tins,tput,keepL,sitesOf,List.sum_cons,List.sum_nil,Nat.reduceAdd,Nat.reduceLT,Nat.reduceLeDiff,Nat.reduceEqDiff,Nat.reduceBEq,beq_self_eq_true,ldA,stA,partA,setAt,binA,arithA,gSpan,gSkip,ne_eq,Option.some.injEq,reduceCtorEq,decide_false,resA,resAll,resOne,enterA,↓reduceIte,noRefL,cb_prop_one,b_prop_one,cr_prop_one,oI,oN,bytesV,propsV,hGV,n1,AVal.cells,setAt]
  rfl
end Go.Proofs.YtmlkhhidifjjfaaDoor
namespace Go.Proofs.YtmlkhhidifjjfaaDoor
set_option maxHeartbeats 8000000
set_option maxRecDepth 10000
def readL (w : Int) : Nat→Bytes→List PropD→List PropD×Int
 | _,[],l=>(l,0)
 | 0,_::_,_=>([],129)
 | n+1,c::r,l=>if (oneF w (c::r) l).2.2=0 then readL w n ((c::r).drop (oneF w (c::r) l).2.1) (l++[(oneF w (c::r) l).1]) else ([],(oneF w (c::r) l).2.2)
def readF (w : Int) (b : Bytes) : List PropD×Nat×Int :=
 if (getVarF b).2.2≠0∨((getVarF b).1 : Int) > (b.length : Int) - ((getVarF b).2.1 : Nat) then ([],0,129)
 else if (readL w (getVarF b).1 ((b.take ((getVarF b).2.1+(getVarF b).1)).drop (getVarF b).2.1) []).2=0 then
  ((readL w (getVarF b).1 ((b.take ((getVarF b).2.1+(getVarF b).1)).drop (getVarF b).2.1) []).1,(getVarF b).2.1+(getVarF b).1,0)
 else ([],0,(readL w (getVarF b).1 ((b.take ((getVarF b).2.1+(getVarF b).1)).drop (getVarF b).2.1) []).2)
def endL (u : Nat) (x : List PropD×Int) : AVal×AHeap:=if x.2=0 then (.tup [growV (x.1.map propV),.int .i64 (u : Nat),.int .i64 0],growH 5 (x.1.map propV)) else (.tup [.lst true [],.int .i64 0,.int .i64 x.2],[])
theorem one_used {w : Int} {b : Bytes} {l : List PropD} (h : (oneF w b l).2.2=0) : 0 < (oneF w b l).2.1∧(oneF w b l).2.1≤b.length∧(oneF w b l).1.data.length≤b.length:=by
 unfold oneF at h ⊢
 split at h
 ·simp at h
 ·rename_i hc
  rw [if_neg hc]
  have hc0 : (getVarF b).2.2=0:=Decidable.byContradiction fun h=>hc (Or.inl h)
  have h1:=getVar_used b hc0
  have h2:=value_used ((getVarF b).1 : Nat) (b.drop (getVarF b).2.1)
  have h3:=value_data ((getVarF b).1 : Nat) (b.drop (getVarF b).2.1)
  simp only [List.length_drop] at h2 h3
  unfold oneK at h ⊢
  generalize valueF ((getVarF b).1 : Nat) (b.drop (getVarF b).2.1)=v at *
  repeat' (split at h)
  all_goals first
   | (simp at h;done)
   | skip
  rename_i a1 a2 a3
  rw [if_neg a1,if_neg a2,if_pos a3]
  simp only
  omega
theorem growV_ne {xs : List AVal} (h : 0 < xs.length) : growV xs=.sl 0 0 0 xs.length:=by
 cases xs with
 | nil=>simp at h
 | cons x xs=>rfl
theorem growH_ne {k : Nat} {xs : List AVal} (h : 0 < xs.length) : growH k xs=[.row 0 k xs]:=by
 cases xs with
 | nil=>simp at h
 | cons x xs=>rfl
theorem noByte_props (l : List PropD) : noByteL (l.map propV)=true:=by
 unfold noByteL
 rw [List.all_eq_true]
 intro x hx
 obtain ⟨p,_,rfl⟩:=List.mem_map.1 hx
 rfl
theorem byte0_map (b : Bytes) : (b.map byteV).all byte0=true:=by
 rw [List.all_eq_true]
 intro x hx
 obtain ⟨p,_,rfl⟩:=List.mem_map.1 hx
 rfl
theorem q_oneC (σ : AHeap) (site own : Nat) (f g : Bool) (w : Int) (b : Bytes) (l : List PropD) (hl : b.length≤140737488355328) (hl2 : l.length≤9223372036854775807) (hd : ∀ p ∈ l,p.data.length≤140737488355328) :
  callG E BY σ site 136 own true [.int .i64 w,.lst f (b.map byteV),.lst g (l.map propV)]=some (oneV false (oneF w b l),σ,{}):=by
 obtain ⟨f',h⟩:=q_one w b l hl hl2 hd
 exact call_normT h (by kernel_rfl) rfl rfl (by cases f' <;> rfl) (fun _=>rfl) _ _ _
theorem q_oneS (σ : AHeap) (site own : Nat) (f : Bool) (w : Int) (b : Bytes) (l : List PropD) (hl : b.length≤140737488355328) (hl2 : l.length≤9223372036854775807) (hd : ∀ p ∈ l,p.data.length≤140737488355328) :
  callG E BY (.row 0 5 (l.map propV)::σ) site 136 own true [.int .i64 w,.lst f (b.map byteV),.sl 0 0 0 (l.map propV).length]=some (oneV false (oneF w b l),.row 0 5 (l.map propV)::σ,{ rd:=[0] }):=by
 obtain ⟨f',h⟩:=q_one w b l hl hl2 hd
 refine call_shown_bytes (vs:=[.int .i64 w,bytesV b,propsV l]) (by kernel_rfl) ?_ rfl rfl h (r':=oneV false (oneF w b l)) (by cases f' <;> rfl) ?_ _ _
 ·simp [showAs,showA,showA1,elemsA,bytesV,propsV]
  exact List.take_of_length_le (by simp)
 ·have h1:=noByte_props l
  have h2:=byte0_map (oneF w b l).1.data
  unfold apartA
  simp only [List.isEmpty_cons,Bool.not_false,oneV,byteA,byte2,byte1,List.all_cons,List.all_nil,flat1,h2,noByteT,List.getElem?_cons_zero,h1,Bool.and_self]
theorem readL_nil (w : Int) (n : Nat) (l : List PropD) : readL w n [] l=(l,0):=by cases n <;> rfl
theorem readL_cons (w : Int) (n : Nat) (c : UInt8) (r : Bytes) (l : List PropD) : readL w (n+1) (c::r) l=if (oneF w (c::r) l).2.2=0 then readL w n ((c::r).drop (oneF w (c::r) l).2.1) (l++[(oneF w (c::r) l).1]) else ([],(oneF w (c::r) l).2.2):=rfl
theorem q_pread0 (w : Int) (N U : Nat) (hU : U+N≤140737488355328) (l : List PropD) :
  K_prop_Read_l5 0 [(10,.lst false []),(8,.int .i64 (U : Nat)),(7,.int .i64 (N : Nat)),(4,growV (l.map propV)),(0,.int .i64 w)] (growH 5 (l.map propV))=some (endL (U+N) (l,0)):=by
 have hw : IntKind.i64.wrap ((U : Int)+(N : Int))=((U+N : Nat) : Int):=by rw [wrap_nat (by omega) (by omega)];rfl
 have h1 : ¬(((0 : Nat) : Int) > 0):=by simp
 unfold endL K_prop_Read_l5
 rw [evL_eq]
 cases l with
 | nil =>
  simp -implicitDefEqProofs only [EVS0,EVS1,EVS5,EVS6,EVL0,eq_self,exI,nsite,freeAt,execI,Opd.ev,tget,tins,tput,keepL,sitesOf,List.sum_cons,List.sum_nil,Nat.reduceLT,Nat.reduceEqDiff,beq_self_eq_true,Bool.false_eq_true,binA,arithA,reduceCtorEq,decide_false,resA,resAll,resOne,↓reduceIte,noRefL,cr_prop_Read,x_prop_Read_k0,d_prop_Read_k0,x_prop_Read_l5,d_prop_Read_l5,oI,oN,growV_nil,growH_nil,hw,h1]
  try (simp [outA,gcA,gcIds,reach,refsL,refsV,rhoOf,heapOf,idxA,genB,newGen,renL,renV,renB,refsB,List.range_succ])
 | cons p l =>
  generalize hX : (p::l).map propV=X
  have hpos : 0 < X.length:=by rw [←hX];simp
  simp only [growV_ne hpos,growH_ne hpos]
  simp -implicitDefEqProofs only [EVS0,EVS1,EVS5,EVL0,eq_self,exI,nsite,freeAt,execI,Opd.ev,tget,tins,tput,keepL,sitesOf,List.sum_cons,List.sum_nil,Nat.reduceLT,Nat.reduceEqDiff,beq_self_eq_true,Bool.false_eq_true,binA,arithA,reduceCtorEq,decide_false,resA,resAll,resOne,↓reduceIte,cr_prop_Read,x_prop_Read_k0,d_prop_Read_k0,x_prop_Read_l5,d_prop_Read_l5,oI,oN,hw,h1]
  simp [outA,gcA,gcIds,reach,refsL,refsV,rhoOf,heapOf,idxA,genB,newGen,renL,renV,renB,refsB]
theorem q_preadl (w : Int) (N U : Nat) (hU : U+N≤140737488355328) (hN9 : N≤1000000000) : ∀ (n : Nat) (b : Bytes) (l : List PropD),b.length≤n→l.length+b.length≤N→(∀ p ∈ l,p.data.length≤140737488355328) →
  K_prop_Read_l5 0 [(10,.lst false (b.map byteV)),(8,.int .i64 (U : Nat)),(7,.int .i64 (N : Nat)),(4,growV (l.map propV)),(0,.int .i64 w)] (growH 5 (l.map propV))=some (endL (U+N) (readL w n b l))
 | n,[],l,hb,hN,hd=>by
  rw [readL_nil]
  exact q_pread0 w N U hU l
 | 0,c::r,l,hb,hN,hd=>by simp at hb
 | n+1,c::r,l,hb,hN,hd=>by
  rw [readL_cons]
  generalize hB : c::r=b at *
  have hlen : 0 < b.length:=by rw [←hB];simp
  have hpos : ((b.length : Nat) : Int) > 0:=by omega
  have hC:=fun σ site own f g=>q_oneC σ site own f g w b l (by omega) (by omega) hd
  have hS:=fun σ site own f=>q_oneS σ site own f w b l (by omega) (by omega) hd
  have hu:=one_used (w:=w) (b:=b) (l:=l)
  unfold oneV at hC hS
  rcases hx : oneF w b l with ⟨p,m,e⟩
  rw [hx] at hC hS hu
  simp only at hC hS hu ⊢
  by_cases he : e=0
  ·subst he
   obtain ⟨u1,u2,u3⟩:=hu rfl
   have n0 : ((0 : Int) != 0)=false:=rfl
   rw [if_pos rfl]
   have ih:=q_preadl w N U hU hN9 n (b.drop m) (l++[p]) (by simp;omega) (by simp;omega) (by
    intro q hq
    rcases List.mem_append.1 hq with h | h
    ·exact hd q h
    ·simp at h;subst h;omega)
   have hs:=fun σ kk=>slice_l σ b kk ((m : Nat) : Int) (by omega) (by omega)
   have e2 : (((m : Nat) : Int)).toNat=m:=rfl
   rw [e2] at hs
   generalize readL w n (b.drop m) (l++[p])=R at *
   unfold K_prop_Read_l5 at ih ⊢
   rw [evL_eq]
   cases l with
   | nil =>
    simp only [List.map_nil] at hC
    simp only [List.nil_append,List.map_cons,List.map_nil,growV_cons,growH_cons,growV_nil,growH_nil,List.length_cons,List.length_nil,Nat.zero_add,propV,propC,bytesV] at ih ⊢
    simp -implicitDefEqProofs only [EVS0,EVS1,EVS5,EVS7,EVL0,EVL1,eq_self,exI,nsite,freeAt,execI,Opd.ev,tget,tins,tput,keepL,sitesOf,List.sum_cons,List.sum_nil,Nat.reduceAdd,Nat.reduceLT,Nat.reduceLeDiff,Nat.reduceEqDiff,Nat.reduceBEq,beq_self_eq_true,Bool.false_eq_true,ldA,stA,partA,setAt,binA,arithA,ne_eq,reduceCtorEq,decide_true,elemsA,↓reduceIte,gcT,gcA,gcIds,reach,rhoOf,heapOf,idxA,genB,newGen,renB,refsB,x_prop_Read_l5,d_prop_Read_l5,oI,oN,hpos,hC,n0,hs,appA,kOk,viewAs,viewA,viewA1,viewsA,freezeA,List.foldl_cons,List.foldl_nil,Nat.one_mul,AVal.cells,setAt]
    exact ih
   | cons a l =>
    have hXl : ((a::l).map propV).length=l.length+1:=by simp
    rw [List.map_append] at ih
    generalize hX : (a::l).map propV=X at *
    have hXp : 0 < X.length:=by omega
    have hXq : 0 < (X++[p].map propV).length:=by rw [List.length_append];omega
    simp only [growV_ne hXp,growH_ne hXp,growV_ne hXq,growH_ne hXq] at ih ⊢
    have hk : kOk 5 X=true:=by rw [←hX];rfl
    have hb9 : (X.length+1)*72≤140737488355328:=by simp at hN;omega
    try simp only [List.map_cons,List.map_nil,propV,propC,bytesV,List.length_append,List.length_cons,List.length_nil,Nat.zero_add] at ih
    simp -implicitDefEqProofs only [EVS0,EVS1,EVS5,EVS7,EVL0,EVL1,eq_self,exI,nsite,freeAt,execI,Opd.ev,tget,tins,tput,keepL,sitesOf,List.sum_cons,List.sum_nil,Nat.reduceAdd,Nat.reduceLT,Nat.reduceLeDiff,Nat.reduceEqDiff,Nat.reduceBEq,beq_self_eq_true,Bool.false_eq_true,ldA,stA,partA,setAt,binA,arithA,ne_eq,reduceCtorEq,decide_true,elemsA,↓reduceIte,gcT,gcA,gcIds,reach,rhoOf,heapOf,idxA,genB,newGen,renB,refsB,x_prop_Read_l5,d_prop_Read_l5,oI,oN,hpos,hS,n0,hs,hb9,appA,kOk,viewAs,viewA,viewA1,viewsA,freezeA,List.foldl_cons,List.foldl_nil,AVal.cells,setAt]
    exact ih
  ·have n1 : (e != 0)=true:=by simpa using he
   rw [if_neg he]
   unfold endL K_prop_Read_l5
   simp only
   rw [if_neg he,evL_eq]
   cases l with
   | nil =>
    simp only [List.map_nil,growV_nil,growH_nil] at hC ⊢
    simp -implicitDefEqProofs only [EVS0,EVS1,EVS5,EVS6,EVL0,eq_self,exI,nsite,freeAt,execI,Opd.ev,tget,tins,tput,keepL,sitesOf,List.sum_cons,List.sum_nil,Nat.reduceAdd,Nat.reduceLT,Nat.reduceLeDiff,Nat.reduceEqDiff,Nat.reduceBEq,beq_self_eq_true,stA,setAt,binA,arithA,reduceCtorEq,decide_true,resA,resAll,resOne,↓reduceIte,noRefL,cr_prop_Read,x_prop_Read_l5,d_prop_Read_l5,oI,oN,hpos,hC,n1,AVal.cells,setAt]
    try (simp [outA,gcA,gcIds,reach,refsL,refsV,rhoOf,heapOf,idxA,genB,newGen,renL,renV,renB,refsB,List.range_succ])
   | cons a l =>
    generalize hX : (a::l).map propV=X at *
    have hXp : 0 < X.length:=by rw [←hX];simp
    simp only [growV_ne hXp,growH_ne hXp]
    simp -implicitDefEqProofs only [EVS0,EVS1,EVS5,EVS6,EVL0,eq_self,exI,nsite,freeAt,execI,Opd.ev,tget,tins,tput,keepL,sitesOf,List.sum_cons,List.sum_nil,Nat.reduceAdd,Nat.reduceLT,Nat.reduceLeDiff,Nat.reduceEqDiff,Nat.reduceBEq,beq_self_eq_true,stA,setAt,binA,arithA,reduceCtorEq,decide_true,resA,resAll,resOne,↓reduceIte,noRefL,cr_prop_Read,x_prop_Read_l5,d_prop_Read_l5,oI,oN,hpos,hS,n1,AVal.cells,setAt]
    try (simp [outA,gcA,gcIds,reach,refsL,refsV,rhoOf,heapOf,idxA,genB,newGen,renL,renV,renB,refsB,List.range_succ])
theorem gvA_lt : ∀ (b : Bytes) (i n : Nat),i≤4→n < 128 ^ i→(gvA i n b).1 < 268435456
 | [],i,n,hi,hn=>by unfold gvA;split <;> simp
 | c::r,i,n,hi,hn=>by
  have ha : c.toNat % 128 < 128:=Nat.mod_lt _ (by decide)
  unfold gvA
  split
  ·simp
  ·rename_i h4
   have hb:=gvA_bound n i _ hn ha
   have hp : 128 ^ (i+1)≤128 ^ 4:=Nat.pow_le_pow_right (by decide) (by omega)
   split
   ·split
    ·simp
    ·simp only;omega
   ·exact gvA_lt r (i+1) _ (by omega) hb
theorem getVar_lt (b : Bytes) : (getVarF b).1 < 268435456:=gvA_lt b 0 0 (by omega) (by simp)
def readR (x : List PropD×Nat×Int) : AVal×AHeap:=(.tup [growV (x.1.map propV),.int .i64 (x.2.1 : Nat),.int .i64 x.2.2],growH 5 (x.1.map propV))
theorem q_pread (w : Int) (b : Bytes) (hl : b.length≤140737488355328) : E 90 [.int .i64 w,bytesV b] []=some (readR (readF w b)):=by
 have hGV:=fun σ site own f=>q_getvarC σ site own f b (by omega)
 have hu:=getVar_used b
 have hlt:=getVar_lt b
 have hle:=getVar_le b
 unfold readF readR
 rcases hx : getVarF b with ⟨n,u,e⟩
 rw [hx] at hGV hu hlt hle
 unfold gvT at hGV
 simp only at hGV hu hlt hle ⊢
 have hw : IntKind.i64.wrap ((b.length : Int) - (u : Int))=(b.length : Int) - (u : Int):=wrap_nat (by omega) (by omega)
 by_cases he : e=0
 ·subst he
  have n0 : ((0 : Int) != 0)=false:=rfl
  by_cases hn : (n : Int) > (b.length : Int) - (u : Int)
  ·rw [if_pos (Or.inr hn),E_eq (by rfl) cf_prop_Read]
   simp -implicitDefEqProofs only [EVS0,EVS1,EVS5,EVS6,EVL0,eq_self,exI,nsite,freeAt,execI,Opd.ev,tget,tins,tput,keepL,sitesOf,List.sum_cons,List.sum_nil,Nat.reduceLT,Nat.reduceEqDiff,beq_self_eq_true,Bool.false_eq_true,binA,arithA,gSpan,unG,ne_eq,Option.some.injEq,reduceCtorEq,decide_true,decide_false,resA,resAll,resOne,enterA,↓reduceIte,noRefL,cb_prop_Read,b_prop_Read,cr_prop_Read,oI,bytesV,hGV,n0,hw,hn]
   simp []
   exact ⟨rfl,rfl⟩
  ·have hc : ¬((0 : Int)≠0∨(n : Int) > (b.length : Int) - (u : Int)):=by simpa using hn
   rw [if_neg hc,E_eq (by rfl) cf_prop_Read]
   have hw2 : IntKind.i64.wrap ((u : Int)+(n : Int))=((u+n : Nat) : Int):=by rw [wrap_nat (by omega) (by omega)];rfl
   have hs:=fun σ k1 k2=>slice_lh σ b k1 k2 ((u : Nat) : Int) ((u+n : Nat) : Int) (by omega) (by omega) (by omega)
   have e1 : (((u : Nat) : Int)).toNat=u:=rfl
   have e2 : (((u+n : Nat) : Int)).toNat=u+n:=rfl
   rw [e1,e2] at hs
   have key:=q_preadl w n u (by omega) (by omega) n ((b.take (u+n)).drop u) [] (by simp;omega) (by simp;omega) (by simp)
   generalize (b.take (u+n)).drop u=B at *
   unfold K_prop_Read_l5 at key
   simp only [List.map_nil,growV_nil,growH_nil] at key
   simp -implicitDefEqProofs only [EVS0,EVS1,EVS5,EVS7,EVL0,eq_self,exI,nsite,freeAt,execI,Opd.ev,tget,tins,tput,keepL,sitesOf,List.sum_cons,List.sum_nil,Nat.reduceLT,Nat.reduceEqDiff,beq_self_eq_true,Bool.false_eq_true,binA,arithA,gSpan,unG,ne_eq,Option.some.injEq,reduceCtorEq,decide_false,enterA,↓reduceIte,gcT,gcA,gcIds,reach,heapOf,refsB,cb_prop_Read,b_prop_Read,oI,bytesV,hGV,n0,hw,hn,hw2,hs]
   rw [key]
   unfold endL
   split <;> rfl
 ·have n1 : (e != 0)=true:=by simpa using he
  rw [if_pos (Or.inl he),E_eq (by rfl) cf_prop_Read]
  simp -implicitDefEqProofs only [EVS0,EVS1,EVS5,EVS6,EVL0,eq_self,exI,nsite,freeAt,execI,Opd.ev,tget,tins,tput,keepL,sitesOf,List.sum_cons,List.sum_nil,Nat.reduceLT,Nat.reduceEqDiff,beq_self_eq_true,binA,arithA,gSpan,gSkip,ne_eq,Option.some.injEq,reduceCtorEq,decide_false,resA,resAll,resOne,enterA,↓reduceIte,noRefL,cb_prop_Read,b_prop_Read,cr_prop_Read,oI,bytesV,hGV,n1]
  simp []
  exact ⟨rfl,rfl⟩
theorem flat1_seen {σ : AHeap} {x : AVal} (h : flat1 x=true) : viewA σ x=some (x,[])∧refsV x=[]∧∀ ρ,renV ρ x=x:=by
 cases x <;> simp [flat1] at h <;> simp [viewA,viewA1,refsV,renV]
theorem flats_seen {σ : AHeap} : ∀ {vs : List AVal},vs.all flat1=true→viewAs σ vs=some (vs,[])∧refsL vs=[]∧∀ ρ,renL ρ vs=vs
 | [],_=>⟨rfl,rfl,fun _=>rfl⟩
 | x::xs,h=>by
  simp only [List.all_cons,Bool.and_eq_true] at h
  obtain ⟨a1,a2,a3⟩:=flat1_seen (σ:=σ) h.1
  obtain ⟨b1,b2,b3⟩:=flats_seen (σ:=σ) h.2
  refine ⟨by simp only [viewAs,a1,b1,List.append_nil],by simp only [refsL,a2,b2,List.append_nil],fun ρ=>by simp only [renL,a3,b3]⟩
theorem view_growT {O : Oracle} {byref : Nat→Bool} {f k : Nat} {args args' : List AVal} {full vs : List AVal} (h : O f args' []=some (.tup (growV full::vs),growH k full)) (hv : vs.all flat1=true) (hb : byref f=false) (hp : args.all plainV=true) (hn : args.map normV=args') (σ : AHeap) (site own : Nat) : callG O byref σ site f own true args=some (.tup (.lst false full::vs),σ,{}):=by
 have hr : ∀ site,renV (rhoBack [] [] site) (.tup (.lst false full::vs))=.tup (.lst false full::vs):=fun site=>by
  simp only [renV,renL,(flats_seen (σ:=[]) hv).2.2]
 rw [callG_plain hb hp,hn,h]
 have : askO true 0 (some (.tup (growV full::vs),growH k full))=some (.tup (.lst false full::vs),[]):=by
  unfold askO
  rw [if_pos rfl]
  cases full with
  | nil =>
   obtain ⟨b1,b2,b3⟩:=flats_seen (σ:=[]) hv
   simp [growV_nil,growH_nil,resV,viewR,viewAs,viewA,viewA1,b1,freezeA,gcA,gcIds,reach,refsL,refsV,b2,renL,renV,b3,heapOf]
  | cons x xs =>
   obtain ⟨b1,b2,b3⟩:=flats_seen (σ:=[ABlk.row 0 k (x::xs)]) hv
   simp only [growV_cons,growH_cons]
   generalize x::xs=X at *
   simp [resV,viewR,viewAs,viewA,viewA1,elemsA,b1,freezeA,gcA,gcIds,reach,refsL,refsV,b2,renL,renV,b3,heapOf]
 rw [this,backG_plain _ _ _ _ (hr site)]
theorem q_preadC (σ : AHeap) (site own : Nat) (f : Bool) (w : Int) (b : Bytes) (hl : b.length≤140737488355328) : callG E BY σ site 90 own true [.int .i64 w,.lst f (b.map byteV)]=some (.tup [.lst false ((readF w b).1.map propV),.int .i64 ((readF w b).2.1 : Nat),.int .i64 (readF w b).2.2],σ,{}) :=
 view_growT (k:=5) (q_pread w b hl) rfl (by kernel_rfl) rfl rfl _ _ _
end Go.Proofs.YtmlkhhidifjjfaaDoor
namespace Go.Proofs.YtmlkhhidifjjfaaDoor
end Go.Proofs.YtmlkhhidifjjfaaDoor
namespace Go.Proofs.YtmlkhhidifjjfaaDoor
set_option maxHeartbeats 8000000
set_option maxRecDepth 10000
structure CurD where
 b : Bytes
 short : Bool
def numI (b : Bytes) : Int:=IntKind.i64.wrap (getU b : Int)
end Go.Proofs.YtmlkhhidifjjfaaDoor
namespace Go.Proofs.YtmlkhhidifjjfaaDoor
def b_packet_reader_body : ACode:=(.seq (.region [oI 1 (.box (.t 0))] none [1]) (.seq (.region [oI 4 (.ld none (.t 1)),oI 5 (.nilchk (.t 4)),oI 6 (.faddr 0 (.t 5)),oI 2 (.alloc [.nilp]),oN (.st 1 (.t 2) (.t 6))] none [2,1]) (.seq (.seq (.region [oI 7 (.ld none (.t 2)),oI 8 (.nilchk (.t 7)),oI 9 (.faddr 0 (.t 8)),oI 10 (.ld none (.t 9))] none [10,2,1]) (.block 0 (.seq (.region [oI 12 (.bin .eql (.t 10) (.c (.int .i64 1))),oI 11 (.mov (.t 12))] none [11,10,2,1]) (.cond (.t 11) (.region [oI 13 (.ld none (.t 1)),oI 14 (.call 114 0 true [(.t 13)])] none [1]) (.seq (.region [oI 16 (.bin .eql (.t 10) (.c (.int .i64 2))),oI 15 (.mov (.t 16))] none [15,10,2,1]) (.cond (.t 15) (.seq (.region [oI 17 (.ld none (.t 1)),oI 18 (.call 115 0 true [(.t 17),(.c (.int .i64 1))]),oI 3 (.mov (.t 18))] none [3,2,1]) (.seq (.region [oI 19 (.mov (.t 3)),oI 20 (.bin .lss (.t 19) (.c (.int .i64 2))),oI 21 (.call 113 0 true [(.t 20),(.c (.int .i64 129))])] none [3,2,1]) (.seq (.region [oI 22 (.ld none (.t 2)),oI 23 (.mov (.t 3)),oI 24 (.bin .eql (.t 23) (.c (.int .i64 1))),oI 25 (.nilchk (.t 22)),oI 26 (.faddr 25 (.t 25)),oN (.st 1 (.t 26) (.t 24))] none [2,1]) (.seq (.region [oI 27 (.ld none (.t 2)),oI 28 (.ld none (.t 1)),oI 29 (.call 116 0 true [(.t 28)]),oI 30 (.nilchk (.t 27)),oI 31 (.faddr 7 (.t 30)),oN (.st 1 (.t 31) (.t 29))] (some [(0,1),(0,2),(2,2)]) [2,1]) (.region [oI 32 (.ld none (.t 2)),oI 33 (.ld none (.t 1)),oI 34 (.call 117 0 true [(.t 33),(.c (.int .i64 2))]),oI 35 (.nilchk (.t 32)),oI 36 (.faddr 9 (.t 35)),oN (.st 1 (.t 36) (.t 34))] (some [(0,1),(0,2),(2,2)]) [1]))))) (.seq (.region [oI 38 (.bin .eql (.t 10) (.c (.int .i64 3))),oI 37 (.mov (.t 38))] none [37,10,2,1]) (.cond (.t 37) (.region [oI 39 (.ld none (.t 1)),oI 40 (.call 118 0 true [(.t 39)])] none [1]) (.seq (.seq (.region [oI 42 (.bin .eql (.t 10) (.c (.int .i64 4))),oI 41 (.mov (.t 42))] none [41,10,2,1]) (.cond (.t 41) .skip (.seq (.region [oI 43 (.bin .eql (.t 10) (.c (.int .i64 5))),oI 41 (.mov (.t 43))] none [41,10,2,1]) (.cond (.t 41) .skip (.seq (.region [oI 44 (.bin .eql (.t 10) (.c (.int .i64 6))),oI 41 (.mov (.t 44))] none [41,10,2,1]) (.cond (.t 41) .skip (.region [oI 45 (.bin .eql (.t 10) (.c (.int .i64 7))),oI 41 (.mov (.t 45))] none [41,10,2,1]))))))) (.cond (.t 41) (.seq (.region [oI 46 (.ld none (.t 1)),oI 47 (.call 119 0 true [(.t 46)])] none [1]) (.region [oI 48 (.ld none (.t 1)),oI 49 (.call 120 0 true [(.t 48)])] none [1])) (.seq (.region [oI 51 (.bin .eql (.t 10) (.c (.int .i64 8))),oI 50 (.mov (.t 51))] none [50,10,2,1]) (.cond (.t 50) (.region [oI 52 (.ld none (.t 1)),oI 53 (.ld none (.t 1)),oI 54 (.mkfn 1000122 [(.t 53)]),oI 55 (.call 121 1 true [(.t 52),(.t 54)])] none [1]) (.seq (.region [oI 57 (.bin .eql (.t 10) (.c (.int .i64 10))),oI 56 (.mov (.t 57))] none [56,10,2,1]) (.cond (.t 56) (.region [oI 58 (.ld none (.t 1)),oI 59 (.mkfn 123 [(.t 2),(.t 1)]),oI 60 (.call 121 1 true [(.t 58),(.t 59)])] none [1]) (.seq (.seq (.region [oI 62 (.bin .eql (.t 10) (.c (.int .i64 9))),oI 61 (.mov (.t 62))] none [61,10,2,1]) (.cond (.t 61) .skip (.region [oI 63 (.bin .eql (.t 10) (.c (.int .i64 11))),oI 61 (.mov (.t 63))] none [61,10,2,1]))) (.cond (.t 61) (.region [oI 64 (.ld none (.t 1)),oI 65 (.mkfn 125 [(.t 2),(.t 1)]),oI 66 (.call 121 1 true [(.t 64),(.t 65)])] none [1]) (.seq (.seq (.region [oI 68 (.bin .eql (.t 10) (.c (.int .i64 14))),oI 67 (.mov (.t 68))] none [67,10,1]) (.cond (.t 67) .skip (.region [oI 69 (.bin .eql (.t 10) (.c (.int .i64 15))),oI 67 (.mov (.t 69))] none [67,1]))) (.cond (.t 67) (.region [oI 70 (.ld none (.t 1)),oI 71 (.call 120 0 true [(.t 70)])] none [1]) .skip)))))))))))))))))) (.region [oI 72 (.ld none (.t 1)),oI 73 (.nilchk (.t 72)),oI 74 (.faddr 26 (.t 73)),oI 75 (.ld none (.t 74)),oI 76 (.len (.t 75)),oI 77 (.bin .eql (.t 76) (.c (.int .i64 0))),oI 78 (.call 113 0 true [(.t 77),(.c (.int .i64 129))])] none []))))
def c_packet_reader_body : AFunc:=⟨[],b_packet_reader_body⟩
theorem cf_packet_reader_body : FC 77=some c_packet_reader_body:=by kernel_rfl
theorem cb_packet_reader_body : c_packet_reader_body.body=b_packet_reader_body:=rfl
theorem cr_packet_reader_body : c_packet_reader_body.res=[]:=rfl
def b_packet_reader_code : ACode:=(.seq (.region [oI 2 (.mov (.c (.int .i64 0)))] none [0]) (.seq (.region [oI 4 (.mov (.t 0)),oI 5 (.call 115 0 true [(.t 4),(.c (.int .i64 1))]),oI 3 (.mov (.t 5))] none [3,0]) (.seq (.region [oI 6 (.mov (.t 0)),oI 7 (.nilchk (.t 6)),oI 8 (.faddr 0 (.t 7)),oI 9 (.faddr 0 (.t 8)),oI 10 (.ld none (.t 9)),oI 11 (.mov (.t 3)),oI 12 (.call 41 0 true [(.t 10),(.t 11)]),oI 13 (.call 113 0 true [(.t 12),(.c (.int .i64 130))])] none [3]) (.seq (.region [oI 14 (.mov (.t 3)),oI 2 (.mov (.t 14))] none [2]) .ret))))
def c_packet_reader_code : AFunc:=⟨[(.tmp 2)],b_packet_reader_code⟩
theorem cf_packet_reader_code : FC 116=some c_packet_reader_code:=by kernel_rfl
theorem cb_packet_reader_code : c_packet_reader_code.body=b_packet_reader_code:=rfl
theorem cr_packet_reader_code : c_packet_reader_code.res=[(.tmp 2)]:=rfl
def b_packet_reader_first : ACode:=(.seq (.region [oI 5 (.mov (.t 0)),oI 6 (.nilchk (.t 5)),oI 7 (.faddr 0 (.t 6)),oI 4 (.mov (.t 7))] none [4,1]) (.seq (.region [oI 8 (.mov (.t 4)),oI 9 (.mov (.t 1)),oI 10 (.bin .shr (.t 9) (.c (.int .u64 4))),oI 11 (.i2i .i64 (.t 10)),oI 12 (.nilchk (.t 8)),oI 13 (.faddr 0 (.t 12)),oN (.st 1 (.t 13) (.t 11))] none [4,1]) (.seq (.region [oI 14 (.mov (.t 4)),oI 15 (.nilchk (.t 14)),oI 16 (.faddr 0 (.t 15)),oI 17 (.ld none (.t 16)),oI 18 (.bin .neq (.t 17) (.c (.int .i64 0))),oI 19 (.call 113 0 true [(.t 18),(.c (.int .i64 129))])] none [4,1]) (.seq (.seq (.region [oI 20 (.mov (.t 4)),oI 21 (.nilchk (.t 20)),oI 22 (.faddr 0 (.t 21)),oI 23 (.ld none (.t 22)),oI 24 (.bin .neq (.t 23) (.c (.int .i64 3)))] none [24,4,1]) (.cond (.t 24) (.seq (.region [oI 25 (.mov (.t 1)),oI 26 (.bin .and (.t 25) (.c (.int .u8 15))),oI 27 (.mov (.t 4)),oI 28 (.nilchk (.t 27)),oI 29 (.faddr 0 (.t 28)),oI 30 (.ld none (.t 29)),oI 31 (.call 79 0 true [(.t 30)]),oI 32 (.bin .eql (.t 26) (.t 31)),oI 33 (.call 113 0 true [(.t 32),(.c (.int .i64 129))])] none []) .ret) .skip)) (.seq (.region [oI 34 (.mov (.t 4)),oI 35 (.mov (.t 4)),oI 36 (.mov (.t 4)),oI 37 (.mov (.t 1)),oI 38 (.bin .and (.t 37) (.c (.int .u8 8))),oI 39 (.bin .neq (.t 38) (.c (.int .u8 0))),oI 40 (.mov (.t 1)),oI 41 (.bin .shr (.t 40) (.c (.int .u64 1))),oI 42 (.bin .and (.t 41) (.c (.int .u8 3))),oI 43 (.i2i .i64 (.t 42)),oI 44 (.mov (.t 1)),oI 45 (.bin .and (.t 44) (.c (.int .u8 1))),oI 46 (.bin .neq (.t 45) (.c (.int .u8 0))),oI 47 (.nilchk (.t 34)),oI 48 (.faddr 1 (.t 47)),oN (.st 1 (.t 48) (.t 39)),oI 49 (.nilchk (.t 35)),oI 50 (.faddr 2 (.t 49)),oN (.st 1 (.t 50) (.t 43)),oI 51 (.nilchk (.t 36)),oI 52 (.faddr 3 (.t 51)),oN (.st 1 (.t 52) (.t 46))] none [4]) (.seq (.region [oI 53 (.mov (.t 4)),oI 54 (.nilchk (.t 53)),oI 55 (.faddr 2 (.t 54)),oI 56 (.ld none (.t 55)),oI 57 (.bin .lss (.t 56) (.c (.int .i64 3))),oI 58 (.call 113 0 true [(.t 57),(.c (.int .i64 129))])] none [4]) (.region [oI 59 (.mov (.t 4)),oI 60 (.nilchk (.t 59)),oI 61 (.faddr 2 (.t 60)),oI 62 (.ld none (.t 61)),oI 63 (.bin .gtr (.t 62) (.c (.int .i64 0))),oI 64 (.mov (.t 63)),⟨(some 65),(.mov (.t 4)),(some (64,false)),[]⟩,⟨(some 66),(.nilchk (.t 65)),(some (64,false)),[]⟩,⟨(some 67),(.faddr 1 (.t 66)),(some (64,false)),[]⟩,⟨(some 68),(.ld none (.t 67)),(some (64,false)),[]⟩,⟨(some 69),(.un .not (.t 68)),(some (64,false)),[]⟩,oI 70 (.pick (.t 64) (.c (.bool true)) (.t 69)),oI 71 (.call 113 0 true [(.t 70),(.c (.int .i64 130))])] none [])))))))
def c_packet_reader_first : AFunc:=⟨[],b_packet_reader_first⟩
theorem cf_packet_reader_first : FC 76=some c_packet_reader_first:=by kernel_rfl
theorem cb_packet_reader_first : c_packet_reader_first.body=b_packet_reader_first:=rfl
theorem cr_packet_reader_first : c_packet_reader_first.res=[]:=rfl
def b_packet_reader_id : ACode:=(.seq (.region [oI 2 (.mov (.t 0)),oI 3 (.mov (.t 0)),oI 4 (.call 115 0 true [(.t 3),(.c (.int .i64 2))]),oI 5 (.nilchk (.t 2)),oI 6 (.faddr 0 (.t 5)),oI 7 (.faddr 4 (.t 6)),oN (.st 1 (.t 7) (.t 4))] none [0]) (.region [oI 8 (.mov (.t 0)),oI 9 (.nilchk (.t 8)),oI 10 (.faddr 0 (.t 9)),oI 11 (.faddr 4 (.t 10)),oI 12 (.ld none (.t 11)),oI 13 (.bin .neq (.t 12) (.c (.int .i64 0))),oI 14 (.call 113 0 true [(.t 13),(.c (.int .i64 130))])] none []))
def c_packet_reader_id : AFunc:=⟨[],b_packet_reader_id⟩
theorem cf_packet_reader_id : FC 119=some c_packet_reader_id:=by kernel_rfl
theorem cb_packet_reader_id : c_packet_reader_id.body=b_packet_reader_id:=rfl
theorem cr_packet_reader_id : c_packet_reader_id.res=[]:=rfl
def b_packet_reader_number : ACode:=(.seq (.region [oI 4 (.mov (.c (.int .i64 0)))] none [1,0]) (.seq (.region [oI 6 (.mov (.t 0)),oI 7 (.nilchk (.t 6)),oI 8 (.faddr 26 (.t 7)),oI 9 (.ld none (.t 8)),oI 10 (.len (.t 9)),oI 11 (.mov (.t 1)),oI 12 (.bin .geq (.t 10) (.t 11)),oI 13 (.call 113 0 true [(.t 12),(.c (.int .i64 129))])] none [1,0]) (.seq (.region [oI 14 (.mov (.t 0)),oI 15 (.nilchk (.t 14)),oI 16 (.faddr 26 (.t 15)),oI 17 (.ld none (.t 16)),oI 18 (.mov (.t 1)),oI 19 (.slice 1 (.t 17) none (some (.t 18)) none),oI 20 (.call 108 0 true [(.t 19)]),oI 21 (.i2i .i64 (.t 20)),oI 5 (.mov (.t 21))] none [5,1,0]) (.seq (.region [oI 22 (.mov (.t 0)),oI 23 (.mov (.t 0)),oI 24 (.nilchk (.t 23)),oI 25 (.faddr 26 (.t 24)),oI 26 (.ld none (.t 25)),oI 27 (.mov (.t 1)),oI 28 (.slice 1 (.t 26) (some (.t 27)) none none),oI 29 (.nilchk (.t 22)),oI 30 (.faddr 26 (.t 29)),oN (.st 1 (.t 30) (.t 28))] none [5]) (.seq (.region [oI 31 (.mov (.t 5)),oI 4 (.mov (.t 31))] none [4]) .ret)))))
def c_packet_reader_number : AFunc:=⟨[(.tmp 4)],b_packet_reader_number⟩
theorem cf_packet_reader_number : FC 115=some c_packet_reader_number:=by kernel_rfl
theorem cb_packet_reader_number : c_packet_reader_number.body=b_packet_reader_number:=rfl
theorem cr_packet_reader_number : c_packet_reader_number.res=[(.tmp 4)]:=rfl
def b_packet_reader_props : ACode:=(.seq (.region [oI 4 (.mov (.c (.lst true [])))] none [1,0]) (.seq (.region [oI 9 (.mov (.t 1)),oI 10 (.mov (.t 0)),oI 11 (.nilchk (.t 10)),oI 12 (.faddr 26 (.t 11)),oI 13 (.ld none (.t 12)),oI 14 (.call 90 0 true [(.t 9),(.t 13)]),oI 8 (.mov (.t 14)),oI 15 (.ext (.t 8) 0),oI 16 (.ext (.t 8) 1),oI 17 (.ext (.t 8) 2),oI 5 (.mov (.t 15)),oI 6 (.mov (.t 16)),oI 7 (.mov (.t 17))] none [7,6,5,0]) (.seq (.region [oI 18 (.mov (.t 7)),oI 19 (.bin .eql (.t 18) (.c (.int .i64 0))),oI 20 (.mov (.t 7)),oI 21 (.call 113 0 true [(.t 19),(.t 20)])] none [6,5,0]) (.seq (.region [oI 22 (.mov (.t 0)),oI 23 (.mov (.t 0)),oI 24 (.nilchk (.t 23)),oI 25 (.faddr 26 (.t 24)),oI 26 (.ld none (.t 25)),oI 27 (.mov (.t 6)),oI 28 (.slice 1 (.t 26) (some (.t 27)) none none),oI 29 (.nilchk (.t 22)),oI 30 (.faddr 26 (.t 29)),oN (.st 1 (.t 30) (.t 28))] none [5]) (.seq (.region [oI 31 (.mov (.t 5)),oI 4 (.mov (.t 31))] none [4]) .ret)))))
def c_packet_reader_props : AFunc:=⟨[(.tmp 4)],b_packet_reader_props⟩
theorem cf_packet_reader_props : FC 117=some c_packet_reader_props:=by kernel_rfl
theorem cb_packet_reader_props : c_packet_reader_props.body=b_packet_reader_props:=rfl
theorem cr_packet_reader_props : c_packet_reader_props.res=[(.tmp 4)]:=rfl
def b_packet_reader_publish : ACode:=(.seq (.region [oI 2 (.mov (.t 0)),oI 3 (.mov (.t 0)),oI 4 (.call 124 0 true [(.t 3)]),oI 5 (.nilchk (.t 2)),oI 6 (.faddr 0 (.t 5)),oI 7 (.faddr 5 (.t 6)),oN (.st 1 (.t 7) (.t 4))] none [0]) (.seq (.seq (.region [oI 8 (.mov (.t 0)),oI 9 (.nilchk (.t 8)),oI 10 (.faddr 0 (.t 9)),oI 11 (.faddr 2 (.t 10)),oI 12 (.ld none (.t 11)),oI 13 (.bin .gtr (.t 12) (.c (.int .i64 0)))] none [13,0]) (.cond (.t 13) (.region [oI 14 (.mov (.t 0)),oI 15 (.call 119 0 true [(.t 14)])] none [0]) .skip)) (.seq (.region [oI 16 (.mov (.t 0)),oI 17 (.mov (.t 0)),oI 18 (.call 117 0 true [(.t 17),(.c (.int .i64 3))]),oI 19 (.nilchk (.t 16)),oI 20 (.faddr 0 (.t 19)),oI 21 (.faddr 9 (.t 20)),oN (.st 1 (.t 21) (.t 18))] none [0]) (.region [oI 22 (.mov (.t 0)),oI 23 (.mov (.t 0)),oI 24 (.mov (.t 0)),oI 25 (.nilchk (.t 24)),oI 26 (.faddr 26 (.t 25)),oI 27 (.ld none (.t 26)),oI 28 (.call 111 0 true [(.t 27)]),oI 29 (.nilchk (.t 22)),oI 30 (.faddr 0 (.t 29)),oI 31 (.faddr 6 (.t 30)),oN (.st 1 (.t 31) (.t 28)),oI 32 (.nilchk (.t 23)),oI 33 (.faddr 26 (.t 32)),oN (.st 1 (.t 33) (.c (.lst true [])))] none []))))
def c_packet_reader_publish : AFunc:=⟨[],b_packet_reader_publish⟩
theorem cf_packet_reader_publish : FC 118=some c_packet_reader_publish:=by kernel_rfl
theorem cb_packet_reader_publish : c_packet_reader_publish.body=b_packet_reader_publish:=rfl
theorem cr_packet_reader_publish : c_packet_reader_publish.res=[]:=rfl
def b_packet_reader_rest : ACode:=(.seq (.seq (.region [oI 2 (.mov (.t 0)),oI 3 (.nilchk (.t 2)),oI 4 (.faddr 26 (.t 3)),oI 5 (.ld none (.t 4)),oI 6 (.len (.t 5)),oI 7 (.bin .gtr (.t 6) (.c (.int .i64 0)))] none [7,0]) (.cond (.t 7) (.region [oI 8 (.mov (.t 0)),oI 9 (.mov (.t 0)),oI 10 (.call 116 0 true [(.t 9)]),oI 11 (.nilchk (.t 8)),oI 12 (.faddr 0 (.t 11)),oI 13 (.faddr 7 (.t 12)),oN (.st 1 (.t 13) (.t 10))] none [0]) .skip)) (.seq (.region [oI 14 (.mov (.t 0)),oI 15 (.nilchk (.t 14)),oI 16 (.faddr 26 (.t 15)),oI 17 (.ld none (.t 16)),oI 18 (.len (.t 17)),oI 19 (.bin .gtr (.t 18) (.c (.int .i64 0)))] none [19,0]) (.cond (.t 19) (.region [oI 20 (.mov (.t 0)),oI 21 (.mov (.t 0)),oI 22 (.mov (.t 0)),oI 23 (.nilchk (.t 22)),oI 24 (.faddr 0 (.t 23)),oI 25 (.faddr 0 (.t 24)),oI 26 (.ld none (.t 25)),oI 27 (.call 117 0 true [(.t 21),(.t 26)]),oI 28 (.nilchk (.t 20)),oI 29 (.faddr 0 (.t 28)),oI 30 (.faddr 9 (.t 29)),oN (.st 1 (.t 30) (.t 27))] none []) .skip)))
def c_packet_reader_rest : AFunc:=⟨[],b_packet_reader_rest⟩
theorem cf_packet_reader_rest : FC 120=some c_packet_reader_rest:=by kernel_rfl
theorem cb_packet_reader_rest : c_packet_reader_rest.body=b_packet_reader_rest:=rfl
theorem cr_packet_reader_rest : c_packet_reader_rest.res=[]:=rfl
def b_packet_reader_text : ACode:=(.seq (.region [oI 2 (.mov (.c (.str [])))] none [0]) (.seq (.region [oI 7 (.mov (.t 0)),oI 8 (.nilchk (.t 7)),oI 9 (.faddr 26 (.t 8)),oI 10 (.ld none (.t 9)),oI 11 (.call 109 0 true [(.t 10)]),oI 6 (.mov (.t 11)),oI 12 (.ext (.t 6) 0),oI 13 (.ext (.t 6) 1),oI 14 (.ext (.t 6) 2),oI 3 (.mov (.t 12)),oI 4 (.mov (.t 13)),oI 5 (.mov (.t 14))] none [5,4,3,0]) (.seq (.region [oI 15 (.mov (.t 5)),oI 16 (.bin .eql (.t 15) (.c (.int .i64 0))),oI 17 (.call 113 0 true [(.t 16),(.c (.int .i64 129))])] none [4,3,0]) (.seq (.region [oI 18 (.mov (.t 0)),oI 19 (.mov (.t 0)),oI 20 (.nilchk (.t 19)),oI 21 (.faddr 26 (.t 20)),oI 22 (.ld none (.t 21)),oI 23 (.mov (.t 4)),oI 24 (.slice 1 (.t 22) (some (.t 23)) none none),oI 25 (.nilchk (.t 18)),oI 26 (.faddr 26 (.t 25)),oN (.st 1 (.t 26) (.t 24))] none [3]) (.seq (.region [oI 27 (.mov (.t 3)),oI 2 (.mov (.t 27))] none [2]) .ret)))))
def c_packet_reader_text : AFunc:=⟨[(.tmp 2)],b_packet_reader_text⟩
theorem cf_packet_reader_text : FC 124=some c_packet_reader_text:=by kernel_rfl
theorem cb_packet_reader_text : c_packet_reader_text.body=b_packet_reader_text:=rfl
theorem cr_packet_reader_text : c_packet_reader_text.res=[(.tmp 2)]:=rfl
def d_packet_writer_body_l23 : ACode:=(.seq (.region [oI 76 (.bin .lss (.t 75) (.t 74))] none [76,75,74,73,0]) (.seq (.cond (.t 76) .skip (.exit 1)) (.seq (.block 2 (.seq (.region [oI 77 (.iaddr 6 (.t 73) (.t 75)),oI 78 (.ld (some 6) (.t 77)),oI 5 (.alloc [(.str []),(.int .i64 0),(.bool false),(.bool false),(.int .i64 0),(.int .i64 0)]),oN (.st 6 (.t 5) (.t 78))] none [75,74,73,5,0]) (.seq (.region [oI 79 (.mov (.t 0)),oI 80 (.faddr 0 (.t 5)),oI 81 (.ld none (.t 80)),oI 82 (.call 129 1 true [(.t 79),(.t 81)])] none [75,74,73,5,0]) (.region [oI 83 (.mov (.t 0)),oI 84 (.faddr 1 (.t 5)),oI 85 (.ld none (.t 84)),oI 86 (.bin .and (.t 85) (.c (.int .i64 3))),oI 87 (.faddr 2 (.t 5)),oI 88 (.ld none (.t 87)),oI 89 (.call 81 0 true [(.t 88),(.c (.int .i64 4))]),oI 90 (.bin .add (.t 86) (.t 89)),oI 91 (.faddr 3 (.t 5)),oI 92 (.ld none (.t 91)),oI 93 (.call 81 0 true [(.t 92),(.c (.int .i64 8))]),oI 94 (.bin .add (.t 90) (.t 93)),oI 95 (.faddr 4 (.t 5)),oI 96 (.ld none (.t 95)),oI 97 (.bin .and (.t 96) (.c (.int .i64 3))),oI 98 (.bin .mul (.t 97) (.c (.int .i64 16))),oI 99 (.bin .add (.t 94) (.t 98)),oI 100 (.call 127 1 true [(.t 83),(.t 99),(.c (.int .i64 1))])] (some [(2,5),(2,6),(2,9),(5,9),(6,9),(2,10),(2,13),(5,13),(6,13),(9,13),(10,13),(17,17)]) [75,74,73,0])))) (.region [oI 101 (.bin .add (.t 75) (.c (.int .i64 1))),oI 75 (.mov (.t 101))] none [75,74,73,0]))))
def c_packet_writer_body_l23 : ACode:=d_packet_writer_body_l23
def d_packet_writer_body_l31 : ACode:=(.seq (.region [oI 111 (.bin .lss (.t 110) (.t 109))] none [111,110,109,108,0]) (.seq (.cond (.t 111) .skip (.exit 3)) (.seq (.block 4 (.seq (.region [oI 112 (.iaddr 1 (.t 108) (.t 110)),oI 113 (.ld none (.t 112)),oI 7 (.mov (.t 113))] none [110,109,108,7,0]) (.region [oI 114 (.mov (.t 0)),oI 115 (.mov (.t 7)),oI 116 (.call 129 1 true [(.t 114),(.t 115)])] none [110,109,108,0]))) (.region [oI 117 (.bin .add (.t 110) (.c (.int .i64 1))),oI 110 (.mov (.t 117))] none [110,109,108,0]))))
def c_packet_writer_body_l31 : ACode:=d_packet_writer_body_l31
def d_packet_writer_body_l39 : ACode:=(.seq (.region [oI 128 (.bin .lss (.t 127) (.t 126))] none [128,127,126,125,0]) (.seq (.cond (.t 128) .skip (.exit 5)) (.seq (.block 6 (.seq (.region [oI 129 (.iaddr 1 (.t 125) (.t 127)),oI 130 (.ld none (.t 129)),oI 9 (.mov (.t 130))] none [127,126,125,9,0]) (.region [oI 131 (.mov (.t 0)),oI 132 (.mov (.t 9)),oI 133 (.call 127 1 true [(.t 131),(.t 132),(.c (.int .i64 1))])] none [127,126,125,0]))) (.region [oI 134 (.bin .add (.t 127) (.c (.int .i64 1))),oI 127 (.mov (.t 134))] none [127,126,125,0]))))
def c_packet_writer_body_l39 : ACode:=d_packet_writer_body_l39
def b_packet_writer_body : ACode:=(.seq (.region [oI 3 (.box (.t 1))] none [3,0]) (.seq (.region [oI 10 (.faddr 0 (.t 3)),oI 11 (.ld none (.t 10))] none [11,3,0]) (.block 0 (.seq (.region [oI 13 (.bin .eql (.t 11) (.c (.int .i64 1))),oI 12 (.mov (.t 13))] none [12,11,3,0]) (.cond (.t 12) (.region [oI 14 (.mov (.t 0)),oI 15 (.ld (some 26) (.t 3)),oI 16 (.call 126 1 true [(.t 14),(.t 15)])] none []) (.seq (.region [oI 18 (.bin .eql (.t 11) (.c (.int .i64 2))),oI 17 (.mov (.t 18))] none [17,11,3,0]) (.cond (.t 17) (.seq (.region [oI 19 (.mov (.t 0)),oI 20 (.faddr 25 (.t 3)),oI 21 (.ld none (.t 20)),oI 22 (.call 81 0 true [(.t 21),(.c (.int .i64 1))]),oI 23 (.call 127 1 true [(.t 19),(.t 22),(.c (.int .i64 1))])] none [3,0]) (.seq (.region [oI 24 (.mov (.t 0)),oI 25 (.faddr 7 (.t 3)),oI 26 (.ld none (.t 25)),oI 27 (.call 127 1 true [(.t 24),(.t 26),(.c (.int .i64 1))])] none [3,0]) (.region [oI 28 (.mov (.t 0)),oI 29 (.faddr 9 (.t 3)),oI 30 (.ld none (.t 29)),oI 31 (.call 128 1 true [(.t 28),(.c (.int .i64 2)),(.t 30)])] none []))) (.seq (.region [oI 33 (.bin .eql (.t 11) (.c (.int .i64 3))),oI 32 (.mov (.t 33))] none [32,11,3,0]) (.cond (.t 32) (.seq (.region [oI 34 (.mov (.t 0)),oI 35 (.faddr 5 (.t 3)),oI 36 (.ld none (.t 35)),oI 37 (.call 129 1 true [(.t 34),(.t 36)])] none [3,0]) (.seq (.seq (.region [oI 38 (.faddr 2 (.t 3)),oI 39 (.ld none (.t 38)),oI 40 (.bin .gtr (.t 39) (.c (.int .i64 0)))] none [40,3,0]) (.cond (.t 40) (.region [oI 41 (.mov (.t 0)),oI 42 (.faddr 4 (.t 3)),oI 43 (.ld none (.t 42)),oI 44 (.call 127 1 true [(.t 41),(.t 43),(.c (.int .i64 2))])] none [3,0]) .skip)) (.seq (.region [oI 45 (.mov (.t 0)),oI 46 (.faddr 9 (.t 3)),oI 47 (.ld none (.t 46)),oI 48 (.call 128 1 true [(.t 45),(.c (.int .i64 3)),(.t 47)])] none [3,0]) (.region [oI 49 (.mov (.t 0)),oI 50 (.nilchk (.t 49)),oI 51 (.faddr 0 (.t 50)),oI 52 (.faddr 6 (.t 3)),oI 53 (.ld none (.t 52)),oI 54 (.call 130 1 true [(.t 51),(.t 53)])] (some [(5,5)]) [])))) (.seq (.seq (.region [oI 56 (.bin .eql (.t 11) (.c (.int .i64 4))),oI 55 (.mov (.t 56))] none [55,11,3,0]) (.cond (.t 55) .skip (.seq (.region [oI 57 (.bin .eql (.t 11) (.c (.int .i64 5))),oI 55 (.mov (.t 57))] none [55,11,3,0]) (.cond (.t 55) .skip (.seq (.region [oI 58 (.bin .eql (.t 11) (.c (.int .i64 6))),oI 55 (.mov (.t 58))] none [55,11,3,0]) (.cond (.t 55) .skip (.region [oI 59 (.bin .eql (.t 11) (.c (.int .i64 7))),oI 55 (.mov (.t 59))] none [55,11,3,0]))))))) (.cond (.t 55) (.seq (.region [oI 60 (.mov (.t 0)),oI 61 (.faddr 4 (.t 3)),oI 62 (.ld none (.t 61)),oI 63 (.call 127 1 true [(.t 60),(.t 62),(.c (.int .i64 2))])] none [3,0]) (.region [oI 64 (.mov (.t 0)),oI 65 (.ld (some 26) (.t 3)),oI 66 (.call 131 1 true [(.t 64),(.t 65)])] none [])) (.seq (.region [oI 68 (.bin .eql (.t 11) (.c (.int .i64 8))),oI 67 (.mov (.t 68))] none [67,11,3,0]) (.cond (.t 67) (.seq (.region [oI 69 (.mov (.t 0)),oI 70 (.ld (some 26) (.t 3)),oI 71 (.call 132 1 true [(.t 69),(.t 70)])] none [3,0]) (.seq (.region [oI 72 (.faddr 10 (.t 3)),oI 73 (.ld none (.t 72)),oI 74 (.len (.t 73)),oI 75 (.mov (.c (.int .i64 0)))] none [75,74,73,0]) (.block 1 (.loop [75,74,73,0] c_packet_writer_body_l23)))) (.seq (.region [oI 103 (.bin .eql (.t 11) (.c (.int .i64 10))),oI 102 (.mov (.t 103))] none [102,11,3,0]) (.cond (.t 102) (.seq (.region [oI 104 (.mov (.t 0)),oI 105 (.ld (some 26) (.t 3)),oI 106 (.call 132 1 true [(.t 104),(.t 105)])] none [3,0]) (.seq (.region [oI 107 (.faddr 11 (.t 3)),oI 108 (.ld none (.t 107)),oI 109 (.len (.t 108)),oI 110 (.mov (.c (.int .i64 0)))] none [110,109,108,0]) (.block 3 (.loop [110,109,108,0] c_packet_writer_body_l31)))) (.seq (.seq (.region [oI 119 (.bin .eql (.t 11) (.c (.int .i64 9))),oI 118 (.mov (.t 119))] none [118,11,3,0]) (.cond (.t 118) .skip (.region [oI 120 (.bin .eql (.t 11) (.c (.int .i64 11))),oI 118 (.mov (.t 120))] none [118,11,3,0]))) (.cond (.t 118) (.seq (.region [oI 121 (.mov (.t 0)),oI 122 (.ld (some 26) (.t 3)),oI 123 (.call 132 1 true [(.t 121),(.t 122)])] none [3,0]) (.seq (.region [oI 124 (.faddr 8 (.t 3)),oI 125 (.ld none (.t 124)),oI 126 (.len (.t 125)),oI 127 (.mov (.c (.int .i64 0)))] none [127,126,125,0]) (.block 5 (.loop [127,126,125,0] c_packet_writer_body_l39)))) (.seq (.seq (.region [oI 136 (.bin .eql (.t 11) (.c (.int .i64 14))),oI 135 (.mov (.t 136))] none [135,11,3,0]) (.cond (.t 135) .skip (.region [oI 137 (.bin .eql (.t 11) (.c (.int .i64 15))),oI 135 (.mov (.t 137))] none [135,3,0]))) (.cond (.t 135) (.region [oI 138 (.mov (.t 0)),oI 139 (.ld (some 26) (.t 3)),oI 140 (.call 131 1 true [(.t 138),(.t 139)])] none []) .skip)))))))))))))))))))
def c_packet_writer_body : AFunc:=⟨[],b_packet_writer_body⟩
theorem cf_packet_writer_body : FC 78=some c_packet_writer_body:=by kernel_rfl
theorem cb_packet_writer_body : c_packet_writer_body.body=b_packet_writer_body:=rfl
theorem cr_packet_writer_body : c_packet_writer_body.res=[]:=rfl
def b_packet_writer_number : ACode:=(.region [oI 6 (.mov (.t 0)),oI 7 (.nilchk (.t 6)),oI 8 (.faddr 0 (.t 7)),oI 9 (.mov (.t 1)),oI 10 (.i2i .u64 (.t 9)),oI 11 (.mov (.t 2)),oI 12 (.call 59 0 true [(.t 10),(.t 11)]),oI 13 (.call 130 1 true [(.t 8),(.t 12)])] (some [(6,6),(7,7)]) [])
def c_packet_writer_number : AFunc:=⟨[],b_packet_writer_number⟩
theorem cf_packet_writer_number : FC 127=some c_packet_writer_number:=by kernel_rfl
theorem cb_packet_writer_number : c_packet_writer_number.body=b_packet_writer_number:=rfl
theorem cr_packet_writer_number : c_packet_writer_number.res=[]:=rfl
def b_packet_writer_props : ACode:=(.seq (.region [oI 9 (.mov (.t 1)),oI 10 (.mov (.t 2)),oI 11 (.call 42 0 true [(.t 9),(.t 10)]),oI 8 (.mov (.t 11)),oI 12 (.ext (.t 8) 0),oI 13 (.ext (.t 8) 1),oI 6 (.mov (.t 12)),oI 7 (.mov (.t 13))] none [6,0]) (.region [oI 14 (.mov (.t 0)),oI 15 (.nilchk (.t 14)),oI 16 (.faddr 0 (.t 15)),oI 17 (.mov (.t 6)),oI 18 (.call 130 1 true [(.t 16),(.t 17)])] none []))
def c_packet_writer_props : AFunc:=⟨[],b_packet_writer_props⟩
theorem cf_packet_writer_props : FC 128=some c_packet_writer_props:=by kernel_rfl
theorem cb_packet_writer_props : c_packet_writer_props.body=b_packet_writer_props:=rfl
theorem cr_packet_writer_props : c_packet_writer_props.res=[]:=rfl
def b_packet_writer_rest : ACode:=(.seq (.region [oI 3 (.box (.t 1))] none [3,0]) (.seq (.seq (.region [oI 4 (.faddr 7 (.t 3)),oI 5 (.ld none (.t 4)),oI 6 (.bin .neq (.t 5) (.c (.int .i64 0))),oI 7 (.mov (.t 6)),⟨(some 8),(.faddr 9 (.t 3)),(some (7,false)),[]⟩,⟨(some 9),(.ld none (.t 8)),(some (7,false)),[]⟩,⟨(some 10),(.len (.t 9)),(some (7,false)),[]⟩,⟨(some 11),(.bin .gtr (.t 10) (.c (.int .i64 0))),(some (7,false)),[]⟩,oI 12 (.pick (.t 7) (.c (.bool true)) (.t 11))] none [12,3,0]) (.cond (.t 12) (.region [oI 13 (.mov (.t 0)),oI 14 (.faddr 7 (.t 3)),oI 15 (.ld none (.t 14)),oI 16 (.call 127 1 true [(.t 13),(.t 15),(.c (.int .i64 1))])] none [3,0]) .skip)) (.seq (.region [oI 17 (.faddr 9 (.t 3)),oI 18 (.ld none (.t 17)),oI 19 (.len (.t 18)),oI 20 (.bin .gtr (.t 19) (.c (.int .i64 0)))] none [20,3,0]) (.cond (.t 20) (.region [oI 21 (.mov (.t 0)),oI 22 (.faddr 0 (.t 3)),oI 23 (.ld none (.t 22)),oI 24 (.faddr 9 (.t 3)),oI 25 (.ld none (.t 24)),oI 26 (.call 128 1 true [(.t 21),(.t 23),(.t 25)])] none []) .skip))))
def c_packet_writer_rest : AFunc:=⟨[],b_packet_writer_rest⟩
theorem cf_packet_writer_rest : FC 131=some c_packet_writer_rest:=by kernel_rfl
theorem cb_packet_writer_rest : c_packet_writer_rest.body=b_packet_writer_rest:=rfl
theorem cr_packet_writer_rest : c_packet_writer_rest.res=[]:=rfl
def b_packet_writer_text : ACode:=(.seq (.region [oI 7 (.mov (.t 1)),oI 8 (.call 54 0 true [(.t 7)]),oI 6 (.mov (.t 8)),oI 9 (.ext (.t 6) 0),oI 10 (.ext (.t 6) 1),oI 4 (.mov (.t 9)),oI 5 (.mov (.t 10))] none [4,0]) (.region [oI 11 (.mov (.t 0)),oI 12 (.nilchk (.t 11)),oI 13 (.faddr 0 (.t 12)),oI 14 (.mov (.t 4)),oI 15 (.call 130 1 true [(.t 13),(.t 14)])] none []))
def c_packet_writer_text : AFunc:=⟨[],b_packet_writer_text⟩
theorem cf_packet_writer_text : FC 129=some c_packet_writer_text:=by kernel_rfl
theorem cb_packet_writer_text : c_packet_writer_text.body=b_packet_writer_text:=rfl
theorem cr_packet_writer_text : c_packet_writer_text.res=[]:=rfl
def b_packet_CodeOf : ACode:=(.seq (.region [oI 3 (.box (.t 1)),oI 4 (.mov (.c (.bool false)))] none [3,0]) (.seq (.region [oI 5 (.mov (.t 0)),oI 6 (.call 87 0 true [(.t 5)]),oI 7 (.mkfn 88 [(.t 3)]),oI 8 (.call 86 0 true [(.t 6),(.t 7)]),oI 4 (.mov (.t 8))] none [4]) .ret))
def c_packet_CodeOf : AFunc:=⟨[(.tmp 4)],b_packet_CodeOf⟩
theorem cf_packet_CodeOf : FC 41=some c_packet_CodeOf:=by kernel_rfl
theorem cb_packet_CodeOf : c_packet_CodeOf.body=b_packet_CodeOf:=rfl
theorem cr_packet_CodeOf : c_packet_CodeOf.res=[(.tmp 4)]:=rfl
def b_packet_CodeOf_1 : ACode:=(.seq (.region [oI 2 (.box (.t 0)),oI 3 (.mov (.c (.bool false)))] none [2,1]) (.seq (.region [oI 4 (.ld none (.t 1)),oI 5 (.faddr 0 (.t 2)),oI 6 (.ld none (.t 5)),oI 7 (.bin .geq (.t 4) (.t 6)),oI 8 (.mov (.t 7)),⟨(some 9),(.ld none (.t 1)),(some (8,true)),[]⟩,⟨(some 10),(.faddr 1 (.t 2)),(some (8,true)),[]⟩,⟨(some 11),(.ld none (.t 10)),(some (8,true)),[]⟩,⟨(some 12),(.bin .leq (.t 9) (.t 11)),(some (8,true)),[]⟩,oI 13 (.pick (.t 8) (.t 12) (.c (.bool false))),oI 3 (.mov (.t 13))] none [3]) .ret))
def c_packet_CodeOf_1 : AFunc:=⟨[(.tmp 3)],b_packet_CodeOf_1⟩
theorem cf_packet_CodeOf_1 : FC 88=some c_packet_CodeOf_1:=by kernel_rfl
theorem cb_packet_CodeOf_1 : c_packet_CodeOf_1.body=b_packet_CodeOf_1:=rfl
theorem cr_packet_CodeOf_1 : c_packet_CodeOf_1.res=[(.tmp 3)]:=rfl
def b_packet_Frame : ACode:=(.seq (.region [oI 1 (.box (.t 0)),oI 2 (.alloc [(.int .u8 0),(.lst true [])]),oI 3 (.mov (.c (.int .i64 0)))] none [2,1]) (.seq (.region [oI 10 (.build [(.lst true []),(.int .i64 0),(.int .i8 0)] []),oI 11 (.box (.t 10)),oI 4 (.mov (.t 11))] none [4,2,1]) (.seq (.region [oI 12 (.mov (.t 4)),oI 13 (.ld (some 26) (.t 1)),oI 14 (.call 78 1 true [(.t 12),(.t 13)])] none [4,2,1]) (.seq (.region [oI 15 (.faddr 0 (.t 1)),oI 16 (.ld none (.t 15)),oI 17 (.bin .shl (.t 16) (.c (.int .u64 4))),oI 18 (.i2i .u8 (.t 17)),oI 19 (.faddr 0 (.t 1)),oI 20 (.ld none (.t 19)),oI 21 (.call 79 0 true [(.t 20)]),oI 22 (.bin .or (.t 18) (.t 21)),oI 23 (.mov (.t 4)),oI 24 (.nilchk (.t 23)),oI 25 (.faddr 0 (.t 24)),oI 26 (.call 80 0 true [(.t 25)]),oI 27 (.bslice false 1 1 (.lst true []) [(0,(.t 26))]),oI 28 (.call 56 0 true [(.t 27)]),oI 29 (.build [(.int .u8 0),(.lst true [])] [(0,1,(.t 22)),(1,1,(.t 28))]),oI 5 (.alloc [(.int .u8 0),(.lst true [])]),oN (.st 2 (.t 5) (.t 29))] (some [(1,5),(1,6),(1,11),(1,12),(1,13),(1,15),(5,15),(6,15),(11,15),(12,15),(13,15)]) [5,2,1]) (.seq (.seq (.region [oI 30 (.faddr 0 (.t 1)),oI 31 (.ld none (.t 30)),oI 32 (.bin .eql (.t 31) (.c (.int .i64 3)))] none [32,5,2,1]) (.cond (.t 32) (.region [oI 33 (.faddr 0 (.t 5)),oI 34 (.ld none (.t 33)),oI 35 (.faddr 1 (.t 1)),oI 36 (.ld none (.t 35)),oI 37 (.call 81 0 true [(.t 36),(.c (.int .i64 8))]),oI 38 (.faddr 2 (.t 1)),oI 39 (.ld none (.t 38)),oI 40 (.bin .and (.t 39) (.c (.int .i64 3))),oI 41 (.bin .mul (.t 40) (.c (.int .i64 2))),oI 42 (.bin .add (.t 37) (.t 41)),oI 43 (.faddr 3 (.t 1)),oI 44 (.ld none (.t 43)),oI 45 (.call 81 0 true [(.t 44),(.c (.int .i64 1))]),oI 46 (.bin .add (.t 42) (.t 45)),oI 47 (.i2i .u8 (.t 46)),oI 48 (.bin .or (.t 34) (.t 47)),oI 49 (.faddr 0 (.t 5)),oN (.st 1 (.t 49) (.t 48))] (some [(1,3),(1,4),(1,6),(3,6),(4,6),(1,11),(3,11),(4,11),(6,11),(1,12),(6,12),(12,12)]) [5,2,1]) .skip)) (.seq (.region [oI 51 (.ld (some 2) (.t 5)),oI 52 (.call 32 0 true [(.t 51)]),oI 50 (.mov (.t 52)),oI 53 (.ext (.t 50) 0),oI 54 (.ext (.t 50) 1),oI 6 (.alloc [(.int .i64 0),(.bool false),(.int .i64 0),(.bool false),(.int .i64 0),(.str []),(.lst true []),(.int .i64 0),(.lst true []),(.lst true []),(.lst true []),(.lst true []),(.bool false),(.int .i64 0),(.str []),(.bool false),(.str []),(.lst true []),(.int .i64 0),(.bool false),(.lst true []),(.bool false),(.str []),(.bool false),(.lst true []),(.bool false)]),oN (.st 26 (.t 6) (.t 53)),oI 7 (.mov (.t 54))] none [7,6,5,2,1]) (.seq (.seq (.region [oI 56 (.faddr 1 (.t 5)),oI 57 (.ld none (.t 56)),oI 58 (.len (.t 57)),oI 59 (.call 82 0 true [(.t 58)]),oI 55 (.mov (.t 59)),oI 60 (.ext (.t 55) 0),oI 61 (.ext (.t 55) 1),oI 8 (.mov (.t 60)),oI 9 (.mov (.t 61))] none [9,7,6,5,2,1]) (.seq (.region [oI 62 (.mov (.t 9)),oI 63 (.bin .neq (.t 62) (.c (.int .i64 0))),oI 64 (.mov (.t 63)),⟨(some 65),(.mov (.t 7)),(some (64,false)),[]⟩,⟨(some 66),(.bin .neq (.t 65) (.c (.int .i64 0))),(some (64,false)),[]⟩,oI 67 (.pick (.t 64) (.c (.bool true)) (.t 66)),oI 68 (.mov (.t 67)),⟨(some 69),(.ld (some 26) (.t 6)),(some (68,false)),[]⟩,⟨(some 70),(.ld (some 26) (.t 1)),(some (68,false)),[]⟩,⟨(some 71),(.call 35 0 true [(.t 69),(.t 70)]),(some (68,false)),[]⟩,⟨(some 72),(.un .not (.t 71)),(some (68,false)),[]⟩,oI 73 (.pick (.t 68) (.c (.bool true)) (.t 72))] none [73,5,2]) (.cond (.t 73) (.seq (.region [oI 74 (.build [(.int .u8 0),(.lst true [])] []),oN (.st 2 (.t 2) (.t 74)),oI 3 (.mov (.c (.int .i64 129)))] none [3,2]) .ret) .skip))) (.seq (.region [oI 75 (.ld (some 2) (.t 5)),oN (.st 2 (.t 2) (.t 75)),oI 3 (.mov (.c (.int .i64 0)))] none [3,2]) .ret))))))))
def c_packet_Frame : AFunc:=⟨[(.cell 2 (some 2)),(.tmp 3)],b_packet_Frame⟩
theorem cf_packet_Frame : FC 34=some c_packet_Frame:=by kernel_rfl
theorem cb_packet_Frame : c_packet_Frame.body=b_packet_Frame:=rfl
theorem cr_packet_Frame : c_packet_Frame.res=[(.cell 2 (some 2)),(.tmp 3)]:=rfl
def b_packet_Lay : ACode:=(.seq (.region [oI 1 (.box (.t 0)),oI 2 (.mov (.c (.lst true []))),oI 3 (.mov (.c (.int .i64 0)))] none [1]) (.seq (.region [oI 9 (.ld (some 26) (.t 1)),oI 10 (.call 34 0 true [(.t 9)]),oI 8 (.mov (.t 10)),oI 11 (.ext (.t 8) 0),oI 12 (.ext (.t 8) 1),oI 4 (.alloc [(.int .u8 0),(.lst true [])]),oN (.st 2 (.t 4) (.t 11)),oI 5 (.mov (.t 12))] none [5,4]) (.seq (.seq (.region [oI 13 (.mov (.t 5)),oI 14 (.bin .neq (.t 13) (.c (.int .i64 0)))] none [14,5,4]) (.cond (.t 14) (.seq (.region [oI 15 (.mov (.t 5)),oI 2 (.mov (.c (.lst true []))),oI 3 (.mov (.t 15))] none [3,2]) .ret) .skip)) (.seq (.region [oI 17 (.faddr 1 (.t 4)),oI 18 (.ld none (.t 17)),oI 19 (.len (.t 18)),oI 20 (.call 82 0 true [(.t 19)]),oI 16 (.mov (.t 20)),oI 21 (.ext (.t 16) 0),oI 22 (.ext (.t 16) 1),oI 6 (.mov (.t 21)),oI 7 (.mov (.t 22))] none [6,4]) (.seq (.region [oI 23 (.faddr 0 (.t 4)),oI 24 (.ld none (.t 23)),oI 25 (.bslice false 1 1 (.int .u8 0) [(0,(.t 24))]),oI 26 (.mov (.t 6)),oI 27 (.faddr 1 (.t 4)),oI 28 (.ld none (.t 27)),oI 29 (.bslice false 1 3 (.lst true []) [(0,(.t 25)),(1,(.t 26)),(2,(.t 28))]),oI 30 (.call 56 0 true [(.t 29)]),oI 2 (.mov (.t 30)),oI 3 (.mov (.c (.int .i64 0)))] none [3,2]) .ret)))))
def c_packet_Lay : AFunc:=⟨[(.tmp 2),(.tmp 3)],b_packet_Lay⟩
theorem cf_packet_Lay : FC 40=some c_packet_Lay:=by kernel_rfl
theorem cb_packet_Lay : c_packet_Lay.body=b_packet_Lay:=rfl
theorem cr_packet_Lay : c_packet_Lay.res=[(.tmp 2),(.tmp 3)]:=rfl
def b_packet_Same : ACode:=(.seq (.region [oI 2 (.box (.t 0)),oI 3 (.box (.t 1)),oI 4 (.mov (.c (.bool false)))] none [3,2]) (.seq (.region [oI 9 (.faddr 8 (.t 2)),oI 10 (.ld none (.t 9)),oI 11 (.faddr 8 (.t 3)),oI 12 (.ld none (.t 11)),oI 13 (.call 83 0 true [(.t 10),(.t 12)]),oI 14 (.mov (.t 13)),⟨(some 15),(.faddr 10 (.t 2)),(some (14,true)),[]⟩,⟨(some 16),(.ld none (.t 15)),(some (14,true)),[]⟩,⟨(some 17),(.faddr 10 (.t 3)),(some (14,true)),[]⟩,⟨(some 18),(.ld none (.t 17)),(some (14,true)),[]⟩,⟨(some 19),(.call 84 0 true [(.t 16),(.t 18)]),(some (14,true)),[]⟩,oI 20 (.pick (.t 14) (.t 19) (.c (.bool false))),oI 21 (.mov (.t 20)),⟨(some 22),(.faddr 11 (.t 2)),(some (21,true)),[]⟩,⟨(some 23),(.ld none (.t 22)),(some (21,true)),[]⟩,⟨(some 24),(.faddr 11 (.t 3)),(some (21,true)),[]⟩,⟨(some 25),(.ld none (.t 24)),(some (21,true)),[]⟩,⟨(some 26),(.call 85 0 true [(.t 23),(.t 25)]),(some (21,true)),[]⟩,oI 27 (.pick (.t 21) (.t 26) (.c (.bool false))),oI 28 (.mov (.t 27)),⟨(some 29),(.faddr 9 (.t 2)),(some (28,true)),[]⟩,⟨(some 30),(.ld none (.t 29)),(some (28,true)),[]⟩,⟨(some 31),(.faddr 9 (.t 3)),(some (28,true)),[]⟩,⟨(some 32),(.ld none (.t 31)),(some (28,true)),[]⟩,⟨(some 33),(.call 43 0 true [(.t 30),(.t 32)]),(some (28,true)),[]⟩,oI 34 (.pick (.t 28) (.t 33) (.c (.bool false))),oI 35 (.mov (.t 34)),⟨(some 36),(.faddr 16 (.t 2)),(some (35,true)),[]⟩,⟨(some 37),(.faddr 4 (.t 36)),(some (35,true)),[]⟩,⟨(some 38),(.ld none (.t 37)),(some (35,true)),[]⟩,⟨(some 39),(.faddr 16 (.t 3)),(some (35,true)),[]⟩,⟨(some 40),(.faddr 4 (.t 39)),(some (35,true)),[]⟩,⟨(some 41),(.ld none (.t 40)),(some (35,true)),[]⟩,⟨(some 42),(.call 43 0 true [(.t 38),(.t 41)]),(some (35,true)),[]⟩,oI 43 (.pick (.t 35) (.t 42) (.c (.bool false))),oI 5 (.mov (.t 43))] none [5,3,2]) (.seq (.region [oI 44 (.faddr 6 (.t 2)),oI 45 (.ld none (.t 44)),oI 46 (.b2s (.t 45)),oI 47 (.faddr 6 (.t 3)),oI 48 (.ld none (.t 47)),oI 49 (.b2s (.t 48)),oI 50 (.bin .eql (.t 46) (.t 49)),oI 51 (.mov (.t 50)),⟨(some 52),(.faddr 24 (.t 2)),(some (51,true)),[]⟩,⟨(some 53),(.ld none (.t 52)),(some (51,true)),[]⟩,⟨(some 54),(.b2s (.t 53)),(some (51,true)),[]⟩,⟨(some 55),(.faddr 24 (.t 3)),(some (51,true)),[]⟩,⟨(some 56),(.ld none (.t 55)),(some (51,true)),[]⟩,⟨(some 57),(.b2s (.t 56)),(some (51,true)),[]⟩,⟨(some 58),(.bin .eql (.t 54) (.t 57)),(some (51,true)),[]⟩,oI 59 (.pick (.t 51) (.t 58) (.c (.bool false))),oI 60 (.mov (.t 59)),⟨(some 61),(.faddr 16 (.t 2)),(some (60,true)),[]⟩,⟨(some 62),(.faddr 1 (.t 61)),(some (60,true)),[]⟩,⟨(some 63),(.ld none (.t 62)),(some (60,true)),[]⟩,⟨(some 64),(.b2s (.t 63)),(some (60,true)),[]⟩,⟨(some 65),(.faddr 16 (.t 3)),(some (60,true)),[]⟩,⟨(some 66),(.faddr 1 (.t 65)),(some (60,true)),[]⟩,⟨(some 67),(.ld none (.t 66)),(some (60,true)),[]⟩,⟨(some 68),(.b2s (.t 67)),(some (60,true)),[]⟩,⟨(some 69),(.bin .eql (.t 64) (.t 68)),(some (60,true)),[]⟩,oI 70 (.pick (.t 60) (.t 69) (.c (.bool false))),oI 6 (.mov (.t 70))] none [6,5,3,2]) (.seq (.region [oI 71 (.faddr 16 (.t 2)),oI 72 (.faddr 0 (.t 71)),oI 73 (.ld none (.t 72)),oI 74 (.faddr 16 (.t 3)),oI 75 (.faddr 0 (.t 74)),oI 76 (.ld none (.t 75)),oI 77 (.bin .eql (.t 73) (.t 76)),oI 78 (.mov (.t 77)),⟨(some 79),(.faddr 16 (.t 2)),(some (78,true)),[]⟩,⟨(some 80),(.faddr 2 (.t 79)),(some (78,true)),[]⟩,⟨(some 81),(.ld none (.t 80)),(some (78,true)),[]⟩,⟨(some 82),(.faddr 16 (.t 3)),(some (78,true)),[]⟩,⟨(some 83),(.faddr 2 (.t 82)),(some (78,true)),[]⟩,⟨(some 84),(.ld none (.t 83)),(some (78,true)),[]⟩,⟨(some 85),(.bin .eql (.t 81) (.t 84)),(some (78,true)),[]⟩,oI 86 (.pick (.t 78) (.t 85) (.c (.bool false))),oI 87 (.mov (.t 86)),⟨(some 88),(.faddr 16 (.t 2)),(some (87,true)),[]⟩,⟨(some 89),(.faddr 3 (.t 88)),(some (87,true)),[]⟩,⟨(some 90),(.ld none (.t 89)),(some (87,true)),[]⟩,⟨(some 91),(.faddr 16 (.t 3)),(some (87,true)),[]⟩,⟨(some 92),(.faddr 3 (.t 91)),(some (87,true)),[]⟩,⟨(some 93),(.ld none (.t 92)),(some (87,true)),[]⟩,⟨(some 94),(.beq false (.t 90) (.t 93)),(some (87,true)),[]⟩,oI 95 (.pick (.t 87) (.t 94) (.c (.bool false))),oI 7 (.mov (.t 95))] none [7,6,5,3,2]) (.seq (.region [oI 96 (.faddr 1 (.t 2)),oI 97 (.ld none (.t 96)),oI 98 (.faddr 1 (.t 3)),oI 99 (.ld none (.t 98)),oI 100 (.beq false (.t 97) (.t 99)),oI 101 (.mov (.t 100)),⟨(some 102),(.faddr 3 (.t 2)),(some (101,true)),[]⟩,⟨(some 103),(.ld none (.t 102)),(some (101,true)),[]⟩,⟨(some 104),(.faddr 3 (.t 3)),(some (101,true)),[]⟩,⟨(some 105),(.ld none (.t 104)),(some (101,true)),[]⟩,⟨(some 106),(.beq false (.t 103) (.t 105)),(some (101,true)),[]⟩,oI 107 (.pick (.t 101) (.t 106) (.c (.bool false))),oI 108 (.mov (.t 107)),⟨(some 109),(.faddr 12 (.t 2)),(some (108,true)),[]⟩,⟨(some 110),(.ld none (.t 109)),(some (108,true)),[]⟩,⟨(some 111),(.faddr 12 (.t 3)),(some (108,true)),[]⟩,⟨(some 112),(.ld none (.t 111)),(some (108,true)),[]⟩,⟨(some 113),(.beq false (.t 110) (.t 112)),(some (108,true)),[]⟩,oI 114 (.pick (.t 108) (.t 113) (.c (.bool false))),oI 115 (.mov (.t 114)),⟨(some 116),(.faddr 15 (.t 2)),(some (115,true)),[]⟩,⟨(some 117),(.ld none (.t 116)),(some (115,true)),[]⟩,⟨(some 118),(.faddr 15 (.t 3)),(some (115,true)),[]⟩,⟨(some 119),(.ld none (.t 118)),(some (115,true)),[]⟩,⟨(some 120),(.beq false (.t 117) (.t 119)),(some (115,true)),[]⟩,oI 121 (.pick (.t 115) (.t 120) (.c (.bool false))),oI 122 (.mov (.t 121)),⟨(some 123),(.faddr 21 (.t 2)),(some (122,true)),[]⟩,⟨(some 124),(.ld none (.t 123)),(some (122,true)),[]⟩,⟨(some 125),(.faddr 21 (.t 3)),(some (122,true)),[]⟩,⟨(some 126),(.ld none (.t 125)),(some (122,true)),[]⟩,⟨(some 127),(.beq false (.t 124) (.t 126)),(some (122,true)),[]⟩,oI 128 (.pick (.t 122) (.t 127) (.c (.bool false))),oI 129 (.mov (.t 128)),⟨(some 130),(.faddr 23 (.t 2)),(some (129,true)),[]⟩,⟨(some 131),(.ld none (.t 130)),(some (129,true)),[]⟩,⟨(some 132),(.faddr 23 (.t 3)),(some (129,true)),[]⟩,⟨(some 133),(.ld none (.t 132)),(some (129,true)),[]⟩,⟨(some 134),(.beq false (.t 131) (.t 133)),(some (129,true)),[]⟩,oI 135 (.pick (.t 129) (.t 134) (.c (.bool false))),oI 136 (.mov (.t 135)),⟨(some 137),(.faddr 25 (.t 2)),(some (136,true)),[]⟩,⟨(some 138),(.ld none (.t 137)),(some (136,true)),[]⟩,⟨(some 139),(.faddr 25 (.t 3)),(some (136,true)),[]⟩,⟨(some 140),(.ld none (.t 139)),(some (136,true)),[]⟩,⟨(some 141),(.beq false (.t 138) (.t 140)),(some (136,true)),[]⟩,oI 142 (.pick (.t 136) (.t 141) (.c (.bool false))),oI 8 (.mov (.t 142))] none [8,7,6,5,3,2]) (.seq (.region [oI 143 (.mov (.t 5)),oI 144 (.mov (.t 143)),⟨(some 145),(.mov (.t 6)),(some (144,true)),[]⟩,oI 146 (.pick (.t 144) (.t 145) (.c (.bool false))),oI 147 (.mov (.t 146)),⟨(some 148),(.mov (.t 7)),(some (147,true)),[]⟩,oI 149 (.pick (.t 147) (.t 148) (.c (.bool false))),oI 150 (.mov (.t 149)),⟨(some 151),(.mov (.t 8)),(some (150,true)),[]⟩,oI 152 (.pick (.t 150) (.t 151) (.c (.bool false))),oI 153 (.mov (.t 152)),⟨(some 154),(.faddr 0 (.t 2)),(some (153,true)),[]⟩,⟨(some 155),(.ld none (.t 154)),(some (153,true)),[]⟩,⟨(some 156),(.faddr 0 (.t 3)),(some (153,true)),[]⟩,⟨(some 157),(.ld none (.t 156)),(some (153,true)),[]⟩,⟨(some 158),(.bin .eql (.t 155) (.t 157)),(some (153,true)),[]⟩,oI 159 (.pick (.t 153) (.t 158) (.c (.bool false))),oI 160 (.mov (.t 159)),⟨(some 161),(.faddr 2 (.t 2)),(some (160,true)),[]⟩,⟨(some 162),(.ld none (.t 161)),(some (160,true)),[]⟩,⟨(some 163),(.faddr 2 (.t 3)),(some (160,true)),[]⟩,⟨(some 164),(.ld none (.t 163)),(some (160,true)),[]⟩,⟨(some 165),(.bin .eql (.t 162) (.t 164)),(some (160,true)),[]⟩,oI 166 (.pick (.t 160) (.t 165) (.c (.bool false))),oI 167 (.mov (.t 166)),⟨(some 168),(.faddr 4 (.t 2)),(some (167,true)),[]⟩,⟨(some 169),(.ld none (.t 168)),(some (167,true)),[]⟩,⟨(some 170),(.faddr 4 (.t 3)),(some (167,true)),[]⟩,⟨(some 171),(.ld none (.t 170)),(some (167,true)),[]⟩,⟨(some 172),(.bin .eql (.t 169) (.t 171)),(some (167,true)),[]⟩,oI 173 (.pick (.t 167) (.t 172) (.c (.bool false))),oI 174 (.mov (.t 173)),⟨(some 175),(.faddr 5 (.t 2)),(some (174,true)),[]⟩,⟨(some 176),(.ld none (.t 175)),(some (174,true)),[]⟩,⟨(some 177),(.faddr 5 (.t 3)),(some (174,true)),[]⟩,⟨(some 178),(.ld none (.t 177)),(some (174,true)),[]⟩,⟨(some 179),(.bin .eql (.t 176) (.t 178)),(some (174,true)),[]⟩,oI 180 (.pick (.t 174) (.t 179) (.c (.bool false))),oI 181 (.mov (.t 180)),⟨(some 182),(.faddr 7 (.t 2)),(some (181,true)),[]⟩,⟨(some 183),(.ld none (.t 182)),(some (181,true)),[]⟩,⟨(some 184),(.faddr 7 (.t 3)),(some (181,true)),[]⟩,⟨(some 185),(.ld none (.t 184)),(some (181,true)),[]⟩,⟨(some 186),(.bin .eql (.t 183) (.t 185)),(some (181,true)),[]⟩,oI 187 (.pick (.t 181) (.t 186) (.c (.bool false))),oI 188 (.mov (.t 187)),⟨(some 189),(.faddr 13 (.t 2)),(some (188,true)),[]⟩,⟨(some 190),(.ld none (.t 189)),(some (188,true)),[]⟩,⟨(some 191),(.faddr 13 (.t 3)),(some (188,true)),[]⟩,⟨(some 192),(.ld none (.t 191)),(some (188,true)),[]⟩,⟨(some 193),(.bin .eql (.t 190) (.t 192)),(some (188,true)),[]⟩,oI 194 (.pick (.t 188) (.t 193) (.c (.bool false))),oI 195 (.mov (.t 194)),⟨(some 196),(.faddr 14 (.t 2)),(some (195,true)),[]⟩,⟨(some 197),(.ld none (.t 196)),(some (195,true)),[]⟩,⟨(some 198),(.faddr 14 (.t 3)),(some (195,true)),[]⟩,⟨(some 199),(.ld none (.t 198)),(some (195,true)),[]⟩,⟨(some 200),(.bin .eql (.t 197) (.t 199)),(some (195,true)),[]⟩,oI 201 (.pick (.t 195) (.t 200) (.c (.bool false))),oI 202 (.mov (.t 201)),⟨(some 203),(.faddr 22 (.t 2)),(some (202,true)),[]⟩,⟨(some 204),(.ld none (.t 203)),(some (202,true)),[]⟩,⟨(some 205),(.faddr 22 (.t 3)),(some (202,true)),[]⟩,⟨(some 206),(.ld none (.t 205)),(some (202,true)),[]⟩,⟨(some 207),(.bin .eql (.t 204) (.t 206)),(some (202,true)),[]⟩,oI 208 (.pick (.t 202) (.t 207) (.c (.bool false))),oI 4 (.mov (.t 208))] none [4]) .ret))))))
def c_packet_Same : AFunc:=⟨[(.tmp 4)],b_packet_Same⟩
theorem cf_packet_Same : FC 35=some c_packet_Same:=by kernel_rfl
theorem cb_packet_Same : c_packet_Same.body=b_packet_Same:=rfl
theorem cr_packet_Same : c_packet_Same.res=[(.tmp 4)]:=rfl
def b_packet_codes : ACode:=(.seq (.region [oI 2 (.mov (.c (.lst true [])))] none [0]) (.seq (.seq (.region [oI 3 (.mov (.t 0))] none [3]) (.block 0 (.seq (.region [oI 5 (.bin .eql (.t 3) (.c (.int .i64 2))),oI 4 (.mov (.t 5))] none [4,3]) (.cond (.t 4) (.seq (.region [oI 6 (.build [(.int .i64 0),(.int .i64 0)] [(0,1,(.c (.int .i64 0))),(1,1,(.c (.int .i64 0)))]),oI 7 (.build [(.int .i64 0),(.int .i64 0)] [(0,1,(.c (.int .i64 128))),(1,1,(.c (.int .i64 138)))]),oI 8 (.build [(.int .i64 0),(.int .i64 0)] [(0,1,(.c (.int .i64 140))),(1,1,(.c (.int .i64 140)))]),oI 9 (.build [(.int .i64 0),(.int .i64 0)] [(0,1,(.c (.int .i64 144))),(1,1,(.c (.int .i64 144)))]),oI 10 (.build [(.int .i64 0),(.int .i64 0)] [(0,1,(.c (.int .i64 149))),(1,1,(.c (.int .i64 149)))]),oI 11 (.build [(.int .i64 0),(.int .i64 0)] [(0,1,(.c (.int .i64 151))),(1,1,(.c (.int .i64 151)))]),oI 12 (.build [(.int .i64 0),(.int .i64 0)] [(0,1,(.c (.int .i64 153))),(1,1,(.c (.int .i64 157)))]),oI 13 (.build [(.int .i64 0),(.int .i64 0)] [(0,1,(.c (.int .i64 159))),(1,1,(.c (.int .i64 159)))]),oI 14 (.bslice false 2 8 (.agg [(.int .i64 0),(.int .i64 0)]) [(0,(.t 6)),(1,(.t 7)),(2,(.t 8)),(3,(.t 9)),(4,(.t 10)),(5,(.t 11)),(6,(.t 12)),(7,(.t 13))]),oI 2 (.mov (.t 14))] none [2]) .ret) (.seq (.seq (.region [oI 16 (.bin .eql (.t 3) (.c (.int .i64 4))),oI 15 (.mov (.t 16))] none [15,3]) (.cond (.t 15) .skip (.region [oI 17 (.bin .eql (.t 3) (.c (.int .i64 5))),oI 15 (.mov (.t 17))] none [15,3]))) (.cond (.t 15) (.seq (.region [oI 18 (.build [(.int .i64 0),(.int .i64 0)] [(0,1,(.c (.int .i64 0))),(1,1,(.c (.int .i64 0)))]),oI 19 (.build [(.int .i64 0),(.int .i64 0)] [(0,1,(.c (.int .i64 16))),(1,1,(.c (.int .i64 16)))]),oI 20 (.build [(.int .i64 0),(.int .i64 0)] [(0,1,(.c (.int .i64 128))),(1,1,(.c (.int .i64 128)))]),oI 21 (.build [(.int .i64 0),(.int .i64 0)] [(0,1,(.c (.int .i64 131))),(1,1,(.c (.int .i64 131)))]),oI 22 (.build [(.int .i64 0),(.int .i64 0)] [(0,1,(.c (.int .i64 135))),(1,1,(.c (.int .i64 135)))]),oI 23 (.build [(.int .i64 0),(.int .i64 0)] [(0,1,(.c (.int .i64 144))),(1,1,(.c (.int .i64 145)))]),oI 24 (.build [(.int .i64 0),(.int .i64 0)] [(0,1,(.c (.int .i64 151))),(1,1,(.c (.int .i64 151)))]),oI 25 (.build [(.int .i64 0),(.int .i64 0)] [(0,1,(.c (.int .i64 153))),(1,1,(.c (.int .i64 153)))]),oI 26 (.bslice false 2 8 (.agg [(.int .i64 0),(.int .i64 0)]) [(0,(.t 18)),(1,(.t 19)),(2,(.t 20)),(3,(.t 21)),(4,(.t 22)),(5,(.t 23)),(6,(.t 24)),(7,(.t 25))]),oI 2 (.mov (.t 26))] none [2]) .ret) (.seq (.seq (.region [oI 28 (.bin .eql (.t 3) (.c (.int .i64 6))),oI 27 (.mov (.t 28))] none [27,3]) (.cond (.t 27) .skip (.region [oI 29 (.bin .eql (.t 3) (.c (.int .i64 7))),oI 27 (.mov (.t 29))] none [27,3]))) (.cond (.t 27) (.seq (.region [oI 30 (.build [(.int .i64 0),(.int .i64 0)] [(0,1,(.c (.int .i64 0))),(1,1,(.c (.int .i64 0)))]),oI 31 (.build [(.int .i64 0),(.int .i64 0)] [(0,1,(.c (.int .i64 146))),(1,1,(.c (.int .i64 146)))]),oI 32 (.bslice false 2 2 (.agg [(.int .i64 0),(.int .i64 0)]) [(0,(.t 30)),(1,(.t 31))]),oI 2 (.mov (.t 32))] none [2]) .ret) (.seq (.region [oI 34 (.bin .eql (.t 3) (.c (.int .i64 9))),oI 33 (.mov (.t 34))] none [33,3]) (.cond (.t 33) (.seq (.region [oI 35 (.build [(.int .i64 0),(.int .i64 0)] [(0,1,(.c (.int .i64 0))),(1,1,(.c (.int .i64 2)))]),oI 36 (.build [(.int .i64 0),(.int .i64 0)] [(0,1,(.c (.int .i64 128))),(1,1,(.c (.int .i64 128)))]),oI 37 (.build [(.int .i64 0),(.int .i64 0)] [(0,1,(.c (.int .i64 131))),(1,1,(.c (.int .i64 131)))]),oI 38 (.build [(.int .i64 0),(.int .i64 0)] [(0,1,(.c (.int .i64 135))),(1,1,(.c (.int .i64 135)))]),oI 39 (.build [(.int .i64 0),(.int .i64 0)] [(0,1,(.c (.int .i64 143))),(1,1,(.c (.int .i64 143)))]),oI 40 (.build [(.int .i64 0),(.int .i64 0)] [(0,1,(.c (.int .i64 145))),(1,1,(.c (.int .i64 145)))]),oI 41 (.build [(.int .i64 0),(.int .i64 0)] [(0,1,(.c (.int .i64 151))),(1,1,(.c (.int .i64 151)))]),oI 42 (.build [(.int .i64 0),(.int .i64 0)] [(0,1,(.c (.int .i64 158))),(1,1,(.c (.int .i64 158)))]),oI 43 (.build [(.int .i64 0),(.int .i64 0)] [(0,1,(.c (.int .i64 161))),(1,1,(.c (.int .i64 162)))]),oI 44 (.bslice false 2 9 (.agg [(.int .i64 0),(.int .i64 0)]) [(0,(.t 35)),(1,(.t 36)),(2,(.t 37)),(3,(.t 38)),(4,(.t 39)),(5,(.t 40)),(6,(.t 41)),(7,(.t 42)),(8,(.t 43))]),oI 2 (.mov (.t 44))] none [2]) .ret) (.seq (.region [oI 46 (.bin .eql (.t 3) (.c (.int .i64 11))),oI 45 (.mov (.t 46))] none [45,3]) (.cond (.t 45) (.seq (.region [oI 47 (.build [(.int .i64 0),(.int .i64 0)] [(0,1,(.c (.int .i64 0))),(1,1,(.c (.int .i64 0)))]),oI 48 (.build [(.int .i64 0),(.int .i64 0)] [(0,1,(.c (.int .i64 17))),(1,1,(.c (.int .i64 17)))]),oI 49 (.build [(.int .i64 0),(.int .i64 0)] [(0,1,(.c (.int .i64 128))),(1,1,(.c (.int .i64 128)))]),oI 50 (.build [(.int .i64 0),(.int .i64 0)] [(0,1,(.c (.int .i64 131))),(1,1,(.c (.int .i64 131)))]),oI 51 (.build [(.int .i64 0),(.int .i64 0)] [(0,1,(.c (.int .i64 135))),(1,1,(.c (.int .i64 135)))]),oI 52 (.build [(.int .i64 0),(.int .i64 0)] [(0,1,(.c (.int .i64 143))),(1,1,(.c (.int .i64 143)))]),oI 53 (.build [(.int .i64 0),(.int .i64 0)] [(0,1,(.c (.int .i64 145))),(1,1,(.c (.int .i64 145)))]),oI 54 (.bslice false 2 7 (.agg [(.int .i64 0),(.int .i64 0)]) [(0,(.t 47)),(1,(.t 48)),(2,(.t 49)),(3,(.t 50)),(4,(.t 51)),(5,(.t 52)),(6,(.t 53))]),oI 2 (.mov (.t 54))] none [2]) .ret) (.seq (.region [oI 56 (.bin .eql (.t 3) (.c (.int .i64 14))),oI 55 (.mov (.t 56))] none [55,3]) (.cond (.t 55) (.seq (.region [oI 57 (.build [(.int .i64 0),(.int .i64 0)] [(0,1,(.c (.int .i64 0))),(1,1,(.c (.int .i64 0)))]),oI 58 (.build [(.int .i64 0),(.int .i64 0)] [(0,1,(.c (.int .i64 4))),(1,1,(.c (.int .i64 4)))]),oI 59 (.build [(.int .i64 0),(.int .i64 0)] [(0,1,(.c (.int .i64 128))),(1,1,(.c (.int .i64 131)))]),oI 60 (.build [(.int .i64 0),(.int .i64 0)] [(0,1,(.c (.int .i64 135))),(1,1,(.c (.int .i64 135)))]),oI 61 (.build [(.int .i64 0),(.int .i64 0)] [(0,1,(.c (.int .i64 137))),(1,1,(.c (.int .i64 137)))]),oI 62 (.build [(.int .i64 0),(.int .i64 0)] [(0,1,(.c (.int .i64 139))),(1,1,(.c (.int .i64 139)))]),oI 63 (.build [(.int .i64 0),(.int .i64 0)] [(0,1,(.c (.int .i64 141))),(1,1,(.c (.int .i64 144)))]),oI 64 (.build [(.int .i64 0),(.int .i64 0)] [(0,1,(.c (.int .i64 147))),(1,1,(.c (.int .i64 162)))]),oI 65 (.bslice false 2 8 (.agg [(.int .i64 0),(.int .i64 0)]) [(0,(.t 57)),(1,(.t 58)),(2,(.t 59)),(3,(.t 60)),(4,(.t 61)),(5,(.t 62)),(6,(.t 63)),(7,(.t 64))]),oI 2 (.mov (.t 65))] none [2]) .ret) (.seq (.region [oI 67 (.bin .eql (.t 3) (.c (.int .i64 15))),oI 66 (.mov (.t 67))] none [66]) (.cond (.t 66) (.seq (.region [oI 68 (.build [(.int .i64 0),(.int .i64 0)] [(0,1,(.c (.int .i64 0))),(1,1,(.c (.int .i64 0)))]),oI 69 (.build [(.int .i64 0),(.int .i64 0)] [(0,1,(.c (.int .i64 24))),(1,1,(.c (.int .i64 25)))]),oI 70 (.bslice false 2 2 (.agg [(.int .i64 0),(.int .i64 0)]) [(0,(.t 68)),(1,(.t 69))]),oI 2 (.mov (.t 70))] none [2]) .ret) .skip)))))))))))))))) (.seq (.region [oI 2 (.mov (.c (.lst true [])))] none [2]) .ret)))
def c_packet_codes : AFunc:=⟨[(.tmp 2)],b_packet_codes⟩
theorem cf_packet_codes : FC 87=some c_packet_codes:=by kernel_rfl
theorem cb_packet_codes : c_packet_codes.body=b_packet_codes:=rfl
theorem cr_packet_codes : c_packet_codes.res=[(.tmp 2)]:=rfl
def b_packet_flags : ACode:=(.seq (.region [oI 2 (.mov (.c (.int .u8 0)))] none [0]) (.seq (.seq (.region [oI 3 (.mov (.t 0))] none [3]) (.block 0 (.seq (.seq (.region [oI 5 (.bin .eql (.t 3) (.c (.int .i64 6))),oI 4 (.mov (.t 5))] none [4,3]) (.cond (.t 4) .skip (.seq (.region [oI 6 (.bin .eql (.t 3) (.c (.int .i64 8))),oI 4 (.mov (.t 6))] none [4,3]) (.cond (.t 4) .skip (.region [oI 7 (.bin .eql (.t 3) (.c (.int .i64 10))),oI 4 (.mov (.t 7))] none [4]))))) (.cond (.t 4) (.seq (.region [oI 2 (.mov (.c (.int .u8 2)))] none [2]) .ret) .skip)))) (.seq (.region [oI 2 (.mov (.c (.int .u8 0)))] none [2]) .ret)))
def c_packet_flags : AFunc:=⟨[(.tmp 2)],b_packet_flags⟩
theorem cf_packet_flags : FC 79=some c_packet_flags:=by kernel_rfl
theorem cb_packet_flags : c_packet_flags.body=b_packet_flags:=rfl
theorem cr_packet_flags : c_packet_flags.res=[(.tmp 2)]:=rfl
def b_packet_mark : ACode:=(.seq (.region [oI 4 (.mov (.c (.int .i64 0)))] none [1,0]) (.seq (.seq (.region [oI 5 (.mov (.t 0))] none [5,1]) (.cond (.t 5) (.seq (.region [oI 6 (.mov (.t 1)),oI 4 (.mov (.t 6))] none [4]) .ret) .skip)) (.seq (.region [oI 4 (.mov (.c (.int .i64 0)))] none [4]) .ret)))
def c_packet_mark : AFunc:=⟨[(.tmp 4)],b_packet_mark⟩
theorem cf_packet_mark : FC 81=some c_packet_mark:=by kernel_rfl
theorem cb_packet_mark : c_packet_mark.body=b_packet_mark:=rfl
theorem cr_packet_mark : c_packet_mark.res=[(.tmp 4)]:=rfl
def b_packet_must : ACode:=(.seq (.region [oI 4 (.mov (.t 0)),oI 5 (.un .not (.t 4))] none [5,1]) (.cond (.t 5) (.region [oI 6 (.mov (.t 1)),oI 7 (.mki 61 (.t 6)),oN (.panic (.t 7))] none []) .skip))
def c_packet_must : AFunc:=⟨[],b_packet_must⟩
theorem cf_packet_must : FC 113=some c_packet_must:=by kernel_rfl
theorem cb_packet_must : c_packet_must.body=b_packet_must:=rfl
theorem cr_packet_must : c_packet_must.res=[]:=rfl
end Go.Proofs.YtmlkhhidifjjfaaDoor
namespace Go.Proofs.YtmlkhhidifjjfaaDoor
set_option maxHeartbeats 8000000
set_option maxRecDepth 10000
def codeI (c : Int) : AVal:=.iface 61 (.int .i64 c)
theorem q_mustT (c : Int) (σ : AHeap) (site own : Nat) : callG E BY σ site 113 own true [.bool true,.int .i64 c]=some (.tup [],σ,{}):=by
 have h : E 113 [.bool true,.int .i64 c] []=some (.tup [],[]):=by
  rw [E_eq (by rfl) cf_packet_must]
  simp -implicitDefEqProofs only [EVS0,EVS1,EVS5,EVS6,EVL0,eq_self,exI,nsite,freeAt,execI,Opd.ev,tget,tins,tput,keepL,sitesOf,List.sum_cons,List.sum_nil,Nat.reduceLT,Nat.reduceEqDiff,beq_self_eq_true,Bool.false_eq_true,unA,reduceCtorEq,resA,resAll,enterA,↓reduceIte,noRefL,cb_packet_must,b_packet_must,cr_packet_must,oI,oN,eq_self]
 exact call_flat (h) (by kernel_rfl) (by simp -implicitDefEqProofs only [EVS3,EVL0,eq_self,eq_self]) (by simp -implicitDefEqProofs only [EVS4,EVL0,eq_self,eq_self]) rfl (fun _=>rfl) _ _ _ _
theorem q_mustF (c : Int) (σ : AHeap) (site own : Nat) : callG E BY σ site 113 own true [.bool false,.int .i64 c]=some (.pan (codeI c),σ,{}):=by
 have h : E 113 [.bool false,.int .i64 c] []=some (.pan (codeI c),[]):=by
  rw [E_eq (by rfl) cf_packet_must]
  simp -implicitDefEqProofs only [EVS0,EVS1,EVS5,EVS6,EVL0,eq_self,exI,nsite,freeAt,execI,Opd.ev,tget,tins,tput,keepL,sitesOf,List.sum_cons,List.sum_nil,Nat.reduceLT,Nat.reduceEqDiff,beq_self_eq_true,unA,reduceCtorEq,enterA,↓reduceIte,cb_packet_must,b_packet_must,oI,oN,codeI]
 exact call_flat (h) (by kernel_rfl) (by simp -implicitDefEqProofs only [EVS3,EVL0,eq_self]) (by simp -implicitDefEqProofs only [EVS4,EVL0,eq_self]) rfl (fun _=>rfl) _ _ _ _
theorem noRefL_app {xs ys : List AVal} (h : noRefL xs=true) (h' : noRefL ys=true) : noRefL (xs++ys)=true:=by
 induction xs with
 | nil=>exact h'
 | cons x xs ih =>
  simp only [noRefL,Bool.and_eq_true,List.cons_append] at h ⊢
  exact ⟨h.1,ih h.2⟩
section
variable (P : List AVal) (hP : P.length=26) (hN : noRefL P=true)
include hP
theorem pl_len (L : AVal) : (P++[L]).length=27:=by simp [hP]
theorem pl_get (L : AVal) : (P++[L])[26]?=some L:=by
 rw [List.getElem?_append_right (by omega)];simp [hP]
theorem pl_take (L : AVal) : (P++[L]).take 26=P:=by
 rw [List.take_append_of_le_length (by omega),List.take_of_length_le (by omega)]
theorem pl_drop (L : AVal) : (P++[L]).drop 27=[]:=List.drop_eq_nil_of_le (by simp [hP])
include hN
theorem pl_ref (f : Bool) (xs : List AVal) : noRefL (P++[.lst f xs])=true:=noRefL_app hN rfl
theorem q_knumT (l : Bytes) (n : Nat) (hn : n≤l.length) (hl : l.length≤140737488355328) : E 115 [.ref 0 0,.int .i64 (n : Nat)] [.var (P++[.lst false (l.map byteV)])]=some (.int .i64 (numI (l.take n)),[.var (P++[.lst false ((l.drop n).map byteV)])]):=by
 have h1 : (l.length : Int)≥((n : Nat) : Int):=by omega
 have s1:=fun σ kk=>slice_hi σ 1 l byteV kk (n : Int) (by omega) (by omega)
 have s2:=fun σ kk=>slice_l σ l kk (n : Int) (by omega) (by omega)
 have e2 : ((n : Int)).toNat=n:=rfl
 rw [e2] at s1 s2
 have ht : (l.take n).length≤9223372036854775807:=by simp;omega
 have hG:=fun σ site own f=>q_getC σ site own (l.take n) ht f
 have a1:=pl_len P hP
 have a2:=pl_get P hP
 have a3:=pl_take P hP
 have a4:=pl_drop P hP
 have m1:=q_mustT
 rw [E_eq (by rfl) cf_packet_reader_number]
 simp -implicitDefEqProofs only [EVS0,EVS1,EVS4,EVS5,EVL0,eq_self,exI,nsite,freeAt,execI,Opd.ev,tget,tins,tput,keepL,sitesOf,List.sum_cons,List.sum_nil,Nat.reduceAdd,Nat.reduceLT,Nat.reduceLeDiff,Nat.reduceEqDiff,beq_self_eq_true,ldA,stA,partA,faddrA,setAt,binA,arithA,reduceCtorEq,decide_true,resA,resAll,resOne,enterA,↓reduceIte,cb_packet_reader_number,b_packet_reader_number,cr_packet_reader_number,oI,oN,h1,s1,s2,hG,a1,a2,a3,a4,m1,numI,faddrA]
 exact out_one rfl (pl_ref P hP hN _ _)
theorem q_knumF (l : Bytes) (n : Nat) (hn : l.length < n) (hn' : n≤9223372036854775807) : E 115 [.ref 0 0,.int .i64 (n : Nat)] [.var (P++[.lst false (l.map byteV)])]=some (.pan (codeI 129),[.var (P++[.lst false (l.map byteV)])]):=by
 have h1 : ¬(l.length : Int)≥((n : Nat) : Int):=by omega
 have a2:=pl_get P hP
 have m1:=q_mustF
 rw [E_eq (by rfl) cf_packet_reader_number]
 simp -implicitDefEqProofs only [EVS0,EVS1,EVS5,EVL0,eq_self,exI,nsite,freeAt,execI,Opd.ev,tget,tins,tput,keepL,sitesOf,List.sum_cons,List.sum_nil,Nat.reduceLT,Nat.reduceEqDiff,beq_self_eq_true,ldA,partA,faddrA,binA,arithA,reduceCtorEq,decide_false,enterA,↓reduceIte,cb_packet_reader_number,b_packet_reader_number,oI,oN,h1,a2,m1,faddrA]
 exact out_one rfl (pl_ref P hP hN _ _)
theorem q_ktextT (l : Bytes) (hl : l.length≤140737488355328) (h : (getTextF l).2.2=0) : E 124 [.ref 0 0] [.var (P++[.lst false (l.map byteV)])]=some (.str (getTextF l).1,[.var (P++[.lst false ((l.drop (getTextF l).2.1).map byteV)])]):=by
 have hG:=fun σ site own f=>q_gettextC σ site own f l hl
 have hu:=(getText_used l).1
 unfold gtT at hG
 have s2:=fun σ kk=>slice_l σ l kk ((getTextF l).2.1 : Int) (by omega) (by omega)
 have e2 : (((getTextF l).2.1 : Nat) : Int).toNat=(getTextF l).2.1:=rfl
 rw [e2] at s2
 rw [h] at hG
 have a1:=pl_len P hP
 have a2:=pl_get P hP
 have a3:=pl_take P hP
 have a4:=pl_drop P hP
 have m1:=q_mustT
 rw [E_eq (by rfl) cf_packet_reader_text]
 simp -implicitDefEqProofs only [EVS0,EVS1,EVS4,EVS5,EVS6,EVL0,eq_self,exI,nsite,freeAt,execI,Opd.ev,tget,tins,tput,keepL,sitesOf,List.sum_cons,List.sum_nil,Nat.reduceAdd,Nat.reduceLT,Nat.reduceLeDiff,Nat.reduceEqDiff,beq_self_eq_true,ldA,stA,partA,faddrA,setAt,binA,arithA,reduceCtorEq,resA,resAll,resOne,enterA,↓reduceIte,cb_packet_reader_text,b_packet_reader_text,cr_packet_reader_text,oI,oN,s2,hG,a1,a2,a3,a4,m1,faddrA]
 exact out_one rfl (pl_ref P hP hN _ _)
theorem q_ktextF (l : Bytes) (hl : l.length≤140737488355328) (h : (getTextF l).2.2≠0) : E 124 [.ref 0 0] [.var (P++[.lst false (l.map byteV)])]=some (.pan (codeI 129),[.var (P++[.lst false (l.map byteV)])]):=by
 have hG:=fun σ site own f=>q_gettextC σ site own f l hl
 unfold gtT at hG
 have h0 : ((getTextF l).2.2 == 0)=false:=by simpa using h
 have h1:=h
 have a2:=pl_get P hP
 have m1:=q_mustF
 rw [E_eq (by rfl) cf_packet_reader_text]
 simp -implicitDefEqProofs only [EVS0,EVS1,EVS5,EVL0,eq_self,exI,nsite,freeAt,execI,Opd.ev,tget,tins,tput,keepL,sitesOf,List.sum_cons,List.sum_nil,Nat.reduceLT,Nat.reduceEqDiff,beq_self_eq_true,ldA,partA,faddrA,binA,arithA,reduceCtorEq,enterA,↓reduceIte,cb_packet_reader_text,b_packet_reader_text,oI,oN,hG,a2,h0,m1,faddrA]
 exact out_one rfl (pl_ref P hP hN _ _)
theorem q_kpropsT (w : Int) (l : Bytes) (hl : l.length≤140737488355328) (h : (readF w l).2.2=0) (hu : (readF w l).2.1≤l.length) : E 117 [.ref 0 0,.int .i64 w] [.var (P++[.lst false (l.map byteV)])]=some (.lst false ((readF w l).1.map propV),[.var (P++[.lst false ((l.drop (readF w l).2.1).map byteV)])]):=by
 have hG:=fun σ site own f=>q_preadC σ site own f w l hl
 have s2:=fun σ kk=>slice_l σ l kk ((readF w l).2.1 : Int) (by omega) (by omega)
 have e2 : (((readF w l).2.1 : Nat) : Int).toNat=(readF w l).2.1:=rfl
 rw [e2] at s2
 rw [h] at hG
 have a1:=pl_len P hP
 have a2:=pl_get P hP
 have a3:=pl_take P hP
 have a4:=pl_drop P hP
 have m1:=q_mustT
 generalize readF w l=R at *
 rw [E_eq (by rfl) cf_packet_reader_props]
 simp -implicitDefEqProofs only [EVS0,EVS1,EVS4,EVS5,EVS6,EVL0,eq_self,exI,nsite,freeAt,execI,Opd.ev,tget,tins,tput,keepL,sitesOf,List.sum_cons,List.sum_nil,Nat.reduceAdd,Nat.reduceLT,Nat.reduceLeDiff,Nat.reduceEqDiff,beq_self_eq_true,ldA,stA,partA,faddrA,setAt,binA,arithA,reduceCtorEq,resA,resAll,resOne,enterA,↓reduceIte,cb_packet_reader_props,b_packet_reader_props,cr_packet_reader_props,oI,oN,s2,hG,a1,a2,a3,a4,m1,faddrA]
 exact out_one rfl (pl_ref P hP hN _ _)
theorem q_kpropsF (w : Int) (l : Bytes) (hl : l.length≤140737488355328) (h : (readF w l).2.2≠0) : E 117 [.ref 0 0,.int .i64 w] [.var (P++[.lst false (l.map byteV)])]=some (.pan (codeI (readF w l).2.2),[.var (P++[.lst false (l.map byteV)])]):=by
 have hG:=fun σ site own f=>q_preadC σ site own f w l hl
 have h0 : ((readF w l).2.2 == 0)=false:=by simpa using h
 have h1:=h
 have a2:=pl_get P hP
 have m1:=q_mustF
 generalize readF w l=R at *
 rw [E_eq (by rfl) cf_packet_reader_props]
 simp -implicitDefEqProofs only [EVS0,EVS1,EVS5,EVL0,eq_self,exI,nsite,freeAt,execI,Opd.ev,tget,tins,tput,keepL,sitesOf,List.sum_cons,List.sum_nil,Nat.reduceLT,Nat.reduceEqDiff,beq_self_eq_true,ldA,partA,faddrA,binA,arithA,reduceCtorEq,enterA,↓reduceIte,cb_packet_reader_props,b_packet_reader_props,oI,oN,hG,a2,h0,m1,faddrA]
 exact out_one rfl (pl_ref P hP hN _ _)
end
end Go.Proofs.YtmlkhhidifjjfaaDoor
namespace Go.Proofs.YtmlkhhidifjjfaaDoor
def b_slices_ContainsFunc_packet_span_packet_span : ACode:=(.seq (.region [oI 4 (.mov (.c (.bool false)))] none [1,0]) (.seq (.region [oI 5 (.mov (.t 0)),oI 6 (.mov (.t 1)),oI 7 (.call 133 0 true [(.t 5),(.t 6)]),oI 8 (.bin .geq (.t 7) (.c (.int .i64 0))),oI 4 (.mov (.t 8))] none [4]) .ret))
def c_slices_ContainsFunc_packet_span_packet_span : AFunc:=⟨[(.tmp 4)],b_slices_ContainsFunc_packet_span_packet_span⟩
theorem cf_slices_ContainsFunc_packet_span_packet_span : FC 86=some c_slices_ContainsFunc_packet_span_packet_span:=by kernel_rfl
theorem cb_slices_ContainsFunc_packet_span_packet_span : c_slices_ContainsFunc_packet_span_packet_span.body=b_slices_ContainsFunc_packet_span_packet_span:=rfl
theorem cr_slices_ContainsFunc_packet_span_packet_span : c_slices_ContainsFunc_packet_span_packet_span.res=[(.tmp 4)]:=rfl
def d_slices_EqualFunc_api_Prop_api_Prop_api_Prop_api_Prop_k0 : ACode:=(.seq (.region [oI 6 (.mov (.c (.bool true)))] none [6]) .ret)
def c_slices_EqualFunc_api_Prop_api_Prop_api_Prop_api_Prop_k0 : ACode:=d_slices_EqualFunc_api_Prop_api_Prop_api_Prop_api_Prop_k0
def x_slices_EqualFunc_api_Prop_api_Prop_api_Prop_api_Prop_k0:=xw c_slices_EqualFunc_api_Prop_api_Prop_api_Prop_api_Prop_k0 d_slices_EqualFunc_api_Prop_api_Prop_api_Prop_api_Prop_k0 rfl
def d_slices_EqualFunc_api_Prop_api_Prop_api_Prop_api_Prop_l4 : ACode:=(.seq (.region [oI 18 (.bin .lss (.t 17) (.t 16))] none [18,17,16,15,2,1]) (.seq (.cond (.t 18) .skip (.exit 0)) (.seq (.block 1 (.seq (.region [oI 19 (.mov (.t 17)),oI 20 (.iaddr 5 (.t 15) (.t 17)),oI 21 (.ld (some 5) (.t 20)),oI 8 (.alloc [(.int .i64 0),(.int .i64 0),(.str []),(.str []),(.lst true [])]),oI 7 (.mov (.t 19)),oN (.st 5 (.t 8) (.t 21))] none [17,16,15,8,7,2,1]) (.seq (.region [oI 22 (.mov (.t 1)),oI 23 (.mov (.t 7)),oI 24 (.iaddr 5 (.t 22) (.t 23)),oI 25 (.ld (some 5) (.t 24)),oI 9 (.alloc [(.int .i64 0),(.int .i64 0),(.str []),(.str []),(.lst true [])]),oN (.st 5 (.t 9) (.t 25))] none [17,16,15,9,8,2,1]) (.seq (.region [oI 26 (.mov (.t 2)),oI 27 (.ld (some 5) (.t 8)),oI 28 (.ld (some 5) (.t 9)),oI 29 (.callv (.t 26) [(.t 27),(.t 28)]),oI 30 (.un .not (.t 29))] none [30,17,16,15,2,1]) (.cond (.t 30) (.seq (.region [oI 6 (.mov (.c (.bool false)))] none [6]) .ret) .skip))))) (.region [oI 31 (.bin .add (.t 17) (.c (.int .i64 1))),oI 17 (.mov (.t 31))] none [17,16,15,2,1]))))
def c_slices_EqualFunc_api_Prop_api_Prop_api_Prop_api_Prop_l4 : ACode:=d_slices_EqualFunc_api_Prop_api_Prop_api_Prop_api_Prop_l4
def x_slices_EqualFunc_api_Prop_api_Prop_api_Prop_api_Prop_l4:=xw c_slices_EqualFunc_api_Prop_api_Prop_api_Prop_api_Prop_l4 d_slices_EqualFunc_api_Prop_api_Prop_api_Prop_api_Prop_l4 rfl
def b_slices_EqualFunc_api_Prop_api_Prop_api_Prop_api_Prop : ACode:=(.seq (.region [oI 6 (.mov (.c (.bool false)))] none [2,1,0]) (.seq (.seq (.region [oI 10 (.mov (.t 0)),oI 11 (.len (.t 10)),oI 12 (.mov (.t 1)),oI 13 (.len (.t 12)),oI 14 (.bin .neq (.t 11) (.t 13))] none [14,2,1,0]) (.cond (.t 14) (.seq (.region [oI 6 (.mov (.c (.bool false)))] none [6]) .ret) .skip)) (.seq (.seq (.region [oI 15 (.mov (.t 0)),oI 16 (.len (.t 15)),oI 17 (.mov (.c (.int .i64 0)))] none [17,16,15,2,1]) (.block 0 (.loop [17,16,15,2,1] c_slices_EqualFunc_api_Prop_api_Prop_api_Prop_api_Prop_l4))) c_slices_EqualFunc_api_Prop_api_Prop_api_Prop_api_Prop_k0)))
def c_slices_EqualFunc_api_Prop_api_Prop_api_Prop_api_Prop : AFunc:=⟨[(.tmp 6)],b_slices_EqualFunc_api_Prop_api_Prop_api_Prop_api_Prop⟩
theorem cf_slices_EqualFunc_api_Prop_api_Prop_api_Prop_api_Prop : FC 91=some c_slices_EqualFunc_api_Prop_api_Prop_api_Prop_api_Prop:=by kernel_rfl
theorem cb_slices_EqualFunc_api_Prop_api_Prop_api_Prop_api_Prop : c_slices_EqualFunc_api_Prop_api_Prop_api_Prop_api_Prop.body=b_slices_EqualFunc_api_Prop_api_Prop_api_Prop_api_Prop:=rfl
theorem cr_slices_EqualFunc_api_Prop_api_Prop_api_Prop_api_Prop : c_slices_EqualFunc_api_Prop_api_Prop_api_Prop_api_Prop.res=[(.tmp 6)]:=rfl
noncomputable def K_slices_EqualFunc_api_Prop_api_Prop_api_Prop_api_Prop_l4 (m : Nat) (tm : Tms) (σ : AHeap) : Option (AVal×AHeap):=(finA m c_slices_EqualFunc_api_Prop_api_Prop_api_Prop_api_Prop (seqX FC PR BY m c_slices_EqualFunc_api_Prop_api_Prop_api_Prop_api_Prop_k0 (Option.map (blockA 0) (evL FC PR BY m [17,16,15,2,1] c_slices_EqualFunc_api_Prop_api_Prop_api_Prop_api_Prop_l4 tm σ))))
def d_slices_Equal_api_Code_api_Code_k0 : ACode:=(.seq (.region [oI 4 (.mov (.c (.bool true)))] none [4]) .ret)
def c_slices_Equal_api_Code_api_Code_k0 : ACode:=d_slices_Equal_api_Code_api_Code_k0
def x_slices_Equal_api_Code_api_Code_k0:=xw c_slices_Equal_api_Code_api_Code_k0 d_slices_Equal_api_Code_api_Code_k0 rfl
def d_slices_Equal_api_Code_api_Code_l4 : ACode:=(.seq (.region [oI 14 (.bin .lss (.t 13) (.t 12))] none [14,13,12,1,0]) (.seq (.cond (.t 14) .skip (.exit 0)) (.seq (.block 1 (.seq (.region [oI 15 (.mov (.t 13)),oI 5 (.mov (.t 15))] none [13,12,5,1,0]) (.seq (.region [oI 16 (.mov (.t 0)),oI 17 (.mov (.t 5)),oI 18 (.iaddr 1 (.t 16) (.t 17)),oI 19 (.ld none (.t 18)),oI 20 (.mov (.t 1)),oI 21 (.mov (.t 5)),oI 22 (.iaddr 1 (.t 20) (.t 21)),oI 23 (.ld none (.t 22)),oI 24 (.bin .neq (.t 19) (.t 23))] (some [(2,6),(3,6),(2,7),(3,7)]) [24,13,12,1,0]) (.cond (.t 24) (.seq (.region [oI 4 (.mov (.c (.bool false)))] none [4]) .ret) .skip)))) (.region [oI 25 (.bin .add (.t 13) (.c (.int .i64 1))),oI 13 (.mov (.t 25))] none [13,12,1,0]))))
def c_slices_Equal_api_Code_api_Code_l4 : ACode:=d_slices_Equal_api_Code_api_Code_l4
def x_slices_Equal_api_Code_api_Code_l4:=xw c_slices_Equal_api_Code_api_Code_l4 d_slices_Equal_api_Code_api_Code_l4 rfl
def b_slices_Equal_api_Code_api_Code : ACode:=(.seq (.region [oI 4 (.mov (.c (.bool false)))] none [1,0]) (.seq (.seq (.region [oI 6 (.mov (.t 0)),oI 7 (.len (.t 6)),oI 8 (.mov (.t 1)),oI 9 (.len (.t 8)),oI 10 (.bin .neq (.t 7) (.t 9))] none [10,1,0]) (.cond (.t 10) (.seq (.region [oI 4 (.mov (.c (.bool false)))] none [4]) .ret) .skip)) (.seq (.seq (.region [oI 11 (.mov (.t 0)),oI 12 (.len (.t 11)),oI 13 (.mov (.c (.int .i64 0)))] none [13,12,1,0]) (.block 0 (.loop [13,12,1,0] c_slices_Equal_api_Code_api_Code_l4))) c_slices_Equal_api_Code_api_Code_k0)))
def c_slices_Equal_api_Code_api_Code : AFunc:=⟨[(.tmp 4)],b_slices_Equal_api_Code_api_Code⟩
theorem cf_slices_Equal_api_Code_api_Code : FC 83=some c_slices_Equal_api_Code_api_Code:=by kernel_rfl
theorem cb_slices_Equal_api_Code_api_Code : c_slices_Equal_api_Code_api_Code.body=b_slices_Equal_api_Code_api_Code:=rfl
theorem cr_slices_Equal_api_Code_api_Code : c_slices_Equal_api_Code_api_Code.res=[(.tmp 4)]:=rfl
noncomputable def K_slices_Equal_api_Code_api_Code_l4 (m : Nat) (tm : Tms) (σ : AHeap) : Option (AVal×AHeap):=(finA m c_slices_Equal_api_Code_api_Code (seqX FC PR BY m c_slices_Equal_api_Code_api_Code_k0 (Option.map (blockA 0) (evL FC PR BY m [13,12,1,0] c_slices_Equal_api_Code_api_Code_l4 tm σ))))
def d_slices_Equal_api_Sub_api_Sub_k0 : ACode:=(.seq (.region [oI 4 (.mov (.c (.bool true)))] none [4]) .ret)
def c_slices_Equal_api_Sub_api_Sub_k0 : ACode:=d_slices_Equal_api_Sub_api_Sub_k0
def x_slices_Equal_api_Sub_api_Sub_k0:=xw c_slices_Equal_api_Sub_api_Sub_k0 d_slices_Equal_api_Sub_api_Sub_k0 rfl
def d_slices_Equal_api_Sub_api_Sub_l4 : ACode:=(.seq (.region [oI 14 (.bin .lss (.t 13) (.t 12))] none [14,13,12,1,0]) (.seq (.cond (.t 14) .skip (.exit 0)) (.seq (.block 1 (.seq (.region [oI 15 (.mov (.t 13)),oI 5 (.mov (.t 15))] none [13,12,5,1,0]) (.seq (.region [oI 16 (.mov (.t 0)),oI 17 (.mov (.t 5)),oI 18 (.iaddr 6 (.t 16) (.t 17)),oI 19 (.ld (some 6) (.t 18)),oI 20 (.mov (.t 1)),oI 21 (.mov (.t 5)),oI 22 (.iaddr 6 (.t 20) (.t 21)),oI 23 (.ld (some 6) (.t 22)),oI 24 (.eqv true [2,0,1,1,0,0] (.t 19) (.t 23))] (some [(2,6),(3,6),(2,7),(3,7)]) [24,13,12,1,0]) (.cond (.t 24) (.seq (.region [oI 4 (.mov (.c (.bool false)))] none [4]) .ret) .skip)))) (.region [oI 25 (.bin .add (.t 13) (.c (.int .i64 1))),oI 13 (.mov (.t 25))] none [13,12,1,0]))))
def c_slices_Equal_api_Sub_api_Sub_l4 : ACode:=d_slices_Equal_api_Sub_api_Sub_l4
def x_slices_Equal_api_Sub_api_Sub_l4:=xw c_slices_Equal_api_Sub_api_Sub_l4 d_slices_Equal_api_Sub_api_Sub_l4 rfl
def b_slices_Equal_api_Sub_api_Sub : ACode:=(.seq (.region [oI 4 (.mov (.c (.bool false)))] none [1,0]) (.seq (.seq (.region [oI 6 (.mov (.t 0)),oI 7 (.len (.t 6)),oI 8 (.mov (.t 1)),oI 9 (.len (.t 8)),oI 10 (.bin .neq (.t 7) (.t 9))] none [10,1,0]) (.cond (.t 10) (.seq (.region [oI 4 (.mov (.c (.bool false)))] none [4]) .ret) .skip)) (.seq (.seq (.region [oI 11 (.mov (.t 0)),oI 12 (.len (.t 11)),oI 13 (.mov (.c (.int .i64 0)))] none [13,12,1,0]) (.block 0 (.loop [13,12,1,0] c_slices_Equal_api_Sub_api_Sub_l4))) c_slices_Equal_api_Sub_api_Sub_k0)))
def c_slices_Equal_api_Sub_api_Sub : AFunc:=⟨[(.tmp 4)],b_slices_Equal_api_Sub_api_Sub⟩
theorem cf_slices_Equal_api_Sub_api_Sub : FC 84=some c_slices_Equal_api_Sub_api_Sub:=by kernel_rfl
theorem cb_slices_Equal_api_Sub_api_Sub : c_slices_Equal_api_Sub_api_Sub.body=b_slices_Equal_api_Sub_api_Sub:=rfl
theorem cr_slices_Equal_api_Sub_api_Sub : c_slices_Equal_api_Sub_api_Sub.res=[(.tmp 4)]:=rfl
noncomputable def K_slices_Equal_api_Sub_api_Sub_l4 (m : Nat) (tm : Tms) (σ : AHeap) : Option (AVal×AHeap):=(finA m c_slices_Equal_api_Sub_api_Sub (seqX FC PR BY m c_slices_Equal_api_Sub_api_Sub_k0 (Option.map (blockA 0) (evL FC PR BY m [13,12,1,0] c_slices_Equal_api_Sub_api_Sub_l4 tm σ))))
def d_slices_Equal_string_string_k0 : ACode:=(.seq (.region [oI 4 (.mov (.c (.bool true)))] none [4]) .ret)
def c_slices_Equal_string_string_k0 : ACode:=d_slices_Equal_string_string_k0
def x_slices_Equal_string_string_k0:=xw c_slices_Equal_string_string_k0 d_slices_Equal_string_string_k0 rfl
def d_slices_Equal_string_string_l4 : ACode:=(.seq (.region [oI 14 (.bin .lss (.t 13) (.t 12))] none [14,13,12,1,0]) (.seq (.cond (.t 14) .skip (.exit 0)) (.seq (.block 1 (.seq (.region [oI 15 (.mov (.t 13)),oI 5 (.mov (.t 15))] none [13,12,5,1,0]) (.seq (.region [oI 16 (.mov (.t 0)),oI 17 (.mov (.t 5)),oI 18 (.iaddr 1 (.t 16) (.t 17)),oI 19 (.ld none (.t 18)),oI 20 (.mov (.t 1)),oI 21 (.mov (.t 5)),oI 22 (.iaddr 1 (.t 20) (.t 21)),oI 23 (.ld none (.t 22)),oI 24 (.bin .neq (.t 19) (.t 23))] (some [(2,6),(3,6),(2,7),(3,7)]) [24,13,12,1,0]) (.cond (.t 24) (.seq (.region [oI 4 (.mov (.c (.bool false)))] none [4]) .ret) .skip)))) (.region [oI 25 (.bin .add (.t 13) (.c (.int .i64 1))),oI 13 (.mov (.t 25))] none [13,12,1,0]))))
def c_slices_Equal_string_string_l4 : ACode:=d_slices_Equal_string_string_l4
def x_slices_Equal_string_string_l4:=xw c_slices_Equal_string_string_l4 d_slices_Equal_string_string_l4 rfl
def b_slices_Equal_string_string : ACode:=(.seq (.region [oI 4 (.mov (.c (.bool false)))] none [1,0]) (.seq (.seq (.region [oI 6 (.mov (.t 0)),oI 7 (.len (.t 6)),oI 8 (.mov (.t 1)),oI 9 (.len (.t 8)),oI 10 (.bin .neq (.t 7) (.t 9))] none [10,1,0]) (.cond (.t 10) (.seq (.region [oI 4 (.mov (.c (.bool false)))] none [4]) .ret) .skip)) (.seq (.seq (.region [oI 11 (.mov (.t 0)),oI 12 (.len (.t 11)),oI 13 (.mov (.c (.int .i64 0)))] none [13,12,1,0]) (.block 0 (.loop [13,12,1,0] c_slices_Equal_string_string_l4))) c_slices_Equal_string_string_k0)))
def c_slices_Equal_string_string : AFunc:=⟨[(.tmp 4)],b_slices_Equal_string_string⟩
theorem cf_slices_Equal_string_string : FC 85=some c_slices_Equal_string_string:=by kernel_rfl
theorem cb_slices_Equal_string_string : c_slices_Equal_string_string.body=b_slices_Equal_string_string:=rfl
theorem cr_slices_Equal_string_string : c_slices_Equal_string_string.res=[(.tmp 4)]:=rfl
noncomputable def K_slices_Equal_string_string_l4 (m : Nat) (tm : Tms) (σ : AHeap) : Option (AVal×AHeap):=(finA m c_slices_Equal_string_string (seqX FC PR BY m c_slices_Equal_string_string_k0 (Option.map (blockA 0) (evL FC PR BY m [13,12,1,0] c_slices_Equal_string_string_l4 tm σ))))
def d_slices_IndexFunc_packet_span_packet_span_k0 : ACode:=(.seq (.region [oI 4 (.mov (.c (.int .i64 (-1))))] none [4]) .ret)
def c_slices_IndexFunc_packet_span_packet_span_k0 : ACode:=d_slices_IndexFunc_packet_span_packet_span_k0
def x_slices_IndexFunc_packet_span_packet_span_k0:=xw c_slices_IndexFunc_packet_span_packet_span_k0 d_slices_IndexFunc_packet_span_packet_span_k0 rfl
def d_slices_IndexFunc_packet_span_packet_span_l2 : ACode:=(.seq (.region [oI 9 (.bin .lss (.t 8) (.t 7))] none [9,8,7,1,0]) (.seq (.cond (.t 9) .skip (.exit 0)) (.seq (.block 1 (.seq (.region [oI 10 (.mov (.t 8)),oI 5 (.mov (.t 10))] none [8,7,5,1,0]) (.seq (.region [oI 11 (.mov (.t 1)),oI 12 (.mov (.t 0)),oI 13 (.mov (.t 5)),oI 14 (.iaddr 2 (.t 12) (.t 13)),oI 15 (.ld (some 2) (.t 14)),oI 16 (.callv (.t 11) [(.t 15)])] none [16,8,7,5,1,0]) (.cond (.t 16) (.seq (.region [oI 17 (.mov (.t 5)),oI 4 (.mov (.t 17))] none [4]) .ret) .skip)))) (.region [oI 18 (.bin .add (.t 8) (.c (.int .i64 1))),oI 8 (.mov (.t 18))] none [8,7,1,0]))))
def c_slices_IndexFunc_packet_span_packet_span_l2 : ACode:=d_slices_IndexFunc_packet_span_packet_span_l2
def x_slices_IndexFunc_packet_span_packet_span_l2:=xw c_slices_IndexFunc_packet_span_packet_span_l2 d_slices_IndexFunc_packet_span_packet_span_l2 rfl
def b_slices_IndexFunc_packet_span_packet_span : ACode:=(.seq (.region [oI 4 (.mov (.c (.int .i64 0)))] none [1,0]) (.seq (.seq (.region [oI 6 (.mov (.t 0)),oI 7 (.len (.t 6)),oI 8 (.mov (.c (.int .i64 0)))] none [8,7,1,0]) (.block 0 (.loop [8,7,1,0] c_slices_IndexFunc_packet_span_packet_span_l2))) c_slices_IndexFunc_packet_span_packet_span_k0))
def c_slices_IndexFunc_packet_span_packet_span : AFunc:=⟨[(.tmp 4)],b_slices_IndexFunc_packet_span_packet_span⟩
theorem cf_slices_IndexFunc_packet_span_packet_span : FC 133=some c_slices_IndexFunc_packet_span_packet_span:=by kernel_rfl
theorem cb_slices_IndexFunc_packet_span_packet_span : c_slices_IndexFunc_packet_span_packet_span.body=b_slices_IndexFunc_packet_span_packet_span:=rfl
theorem cr_slices_IndexFunc_packet_span_packet_span : c_slices_IndexFunc_packet_span_packet_span.res=[(.tmp 4)]:=rfl
noncomputable def K_slices_IndexFunc_packet_span_packet_span_l2 (m : Nat) (tm : Tms) (σ : AHeap) : Option (AVal×AHeap):=(finA m c_slices_IndexFunc_packet_span_packet_span (seqX FC PR BY m c_slices_IndexFunc_packet_span_packet_span_k0 (Option.map (blockA 0) (evL FC PR BY m [8,7,1,0] c_slices_IndexFunc_packet_span_packet_span_l2 tm σ))))
end Go.Proofs.YtmlkhhidifjjfaaDoor
namespace Go.Proofs.YtmlkhhidifjjfaaDoor
set_option maxHeartbeats 8000000
set_option maxRecDepth 10000
theorem call_cap {O : Oracle} {byref : Nat→Bool} {σ : AHeap} {t site f own : Nat} {view : Bool} {args vs vs' : List AVal} {cs cs' : List AVal} {r : AVal} (hs : σ[t]?=some (.var cs)) (hc : noRefL cs=true) (hc' : noRefL cs'=true) (hb : byref f=false) (hff : freeFrom σ site own=true)
  (hsh : showAs σ args=some (vs,[])) (href : refsL vs=[t]) (hren : ∀ ρ : Rho,ρ t 0=some (0,0)→renL ρ vs=vs') (hn : noRef r=true) (hv : viewR [.var cs'] r=some (r,[]))
  (h : O f vs' [.var cs]=some (r,[.var cs'])) : callG O byref σ site f own view args=some (r,σ.set t (.var cs'),{ any:=true,upd:=[(t,cs')] }):=by
 have htl : t < σ.length:=by
  rcases Nat.lt_or_ge t σ.length with h | h
  ·exact h
  ·rw [List.getElem?_eq_none h] at hs;cases hs
 have hup : updOf (σ.set t (.var cs')) [t]=[(t,cs')]:=by
  simp only [updOf,List.getElem?_set,if_pos htl,if_true]
 have hd : σ.getD t .free=.var cs:=by simp [List.getD_eq_getElem?_getD,hs]
 have hf0 : freezeA σ []=σ:=rfl
 unfold callG showIf
 rw [hb]
 simp only [Bool.false_eq_true,if_false,hsh,hf0,href,reach_one hs hc]
 unfold callI
 have hall : ([t].all fun t=>okB (σ.getD t .free))=true:=by simp [List.all_cons,List.all_nil,hs,okB]
 rw [if_pos hall]
 have hρ : rhoOf σ 0 [t] t 0=some (0,0):=by simp [rhoOf,idxA,hs,genB,newGen]
 have hheap : heapOf σ 0 [t] (rhoOf σ 0 [t]) [t] 0=[.var cs]:=by
  simp only [heapOf,hd,renB,(noRefL_spec _ cs hc).1]
 rw [hren _ hρ,hheap,h]
 have hask : askO view [t].length (some (r,[.var cs']))=some (r,[.var cs']):=by
  unfold askO
  split
  ·have hnp : ∀ x,r≠.pan x:=by rintro x rfl;simp [viewR,viewA,viewA1] at hv
   rw [show resV [t].length (some (r,[.var cs']))=(match viewR [.var cs'] r with
    | some (r',ts)=>match gcA [t].length [r'] (freezeA [.var cs'] ts) with
     | ([r''],σ')=>some (r'',σ')
     | _=>none
    | none=>none) from by cases r <;> first | rfl | exact absurd rfl (hnp _)]
   rw [hv]
   simp only [List.length_cons,List.length_nil,Nat.zero_add,show freezeA [ABlk.var cs'] []=[.var cs'] from rfl,gc_one hn hc']
  ·rfl
 rw [hask]
 have hk : okBack σ [t] [.var cs'] 0=true:=by
  simp [okBack,okB,hs,sameKind,genB]
 simp only [backG,List.isEmpty_cons,Bool.false_eq_true,if_false,List.length_cons,List.length_nil,Nat.zero_add,Nat.le_add_right,Nat.le_refl,decide_true,hk,hff,Bool.and_self,if_true,layBack,tgtBack,List.getD_cons_zero,renB,(noRef_spec _ r hn).1,(noRefL_spec _ cs' hc').1,hup]
def codesL (k : Int) : List (Int×Int) :=
 if k=2 then [(0,0),(128,138),(140,140),(144,144),(149,149),(151,151),(153,157),(159,159)] else
 if k=4 then [(0,0),(16,16),(128,128),(131,131),(135,135),(144,145),(151,151),(153,153)] else
 if k=5 then [(0,0),(16,16),(128,128),(131,131),(135,135),(144,145),(151,151),(153,153)] else
 if k=6 then [(0,0),(146,146)] else
 if k=7 then [(0,0),(146,146)] else
 if k=9 then [(0,2),(128,128),(131,131),(135,135),(143,143),(145,145),(151,151),(158,158),(161,162)] else
 if k=11 then [(0,0),(17,17),(128,128),(131,131),(135,135),(143,143),(145,145)] else
 if k=14 then [(0,0),(4,4),(128,131),(135,135),(137,137),(139,139),(141,144),(147,162)] else
 if k=15 then [(0,0),(24,25)] else
 []
def spanV (s : Int×Int) : AVal:=.agg [.int .i64 s.1,.int .i64 s.2]
def inSpan (c : Int) (s : Int×Int) : Bool:=decide (c≥s.1) && decide (c≤s.2)
def codeOfB (k c : Int) : Bool:=(codesL k).any (inSpan c)
theorem codesL_len (k : Int) : (codesL k).length≤9:=by
 unfold codesL
 repeat' split
 all_goals simp
theorem q_codes (k : Int) : ∃ f,E 87 [.int .i64 k] []=some (.lst f ((codesL k).map spanV),[]):=by
 refine ⟨true,?_⟩
 unfold codesL
 by_cases h2 : k=2
 ·subst h2
  rw [E_eq (by rfl) cf_packet_codes]
  simp -implicitDefEqProofs only [EVS0,EVS1,EVS5,EVS6,EVL0,eq_self,exI,nsite,freeAt,execI,Opd.ev,tget,tins,tput,keepL,sitesOf,List.sum_cons,List.sum_nil,Nat.reduceAdd,Nat.reduceLT,Nat.reduceLeDiff,Nat.reduceEqDiff,beq_self_eq_true,Bool.false_eq_true,setAt,binA,arithA,Option.some.injEq,reduceCtorEq,decide_true,resA,resAll,resOne,enterA,↓reduceIte,cb_packet_codes,b_packet_codes,cr_packet_codes,oI,fillA,setAt,AVal.cells,ntop,viewAs,viewA,viewA1,viewsA,freezeA,List.foldl_cons,List.foldl_nil]
  rfl
 by_cases h4 : k=4
 ·subst h4
  rw [E_eq (by rfl) cf_packet_codes]
  simp -implicitDefEqProofs only [EVS0,EVS1,EVS5,EVS6,EVL0,ite_list,eq_self,exI,nsite,freeAt,execI,Opd.ev,tget,tins,tput,keepL,sitesOf,List.sum_cons,List.sum_nil,Nat.reduceAdd,Nat.reduceLT,Nat.reduceLeDiff,Nat.reduceEqDiff,beq_self_eq_true,Bool.false_eq_true,setAt,binA,arithA,Option.some.injEq,reduceCtorEq,decide_true,resA,resAll,resOne,enterA,ite_self,↓reduceIte,cb_packet_codes,b_packet_codes,cr_packet_codes,oI,Int.reduceBEq,fillA,setAt,AVal.cells,ntop,viewAs,viewA,viewA1,viewsA,freezeA,List.foldl_cons,List.foldl_nil]
  rfl
 by_cases h5 : k=5
 ·subst h5
  rw [E_eq (by rfl) cf_packet_codes]
  simp -implicitDefEqProofs only [EVS0,EVS1,EVS5,EVS6,EVL0,ite_list,eq_self,exI,nsite,freeAt,execI,Opd.ev,tget,tins,tput,keepL,sitesOf,List.sum_cons,List.sum_nil,Nat.reduceAdd,Nat.reduceLT,Nat.reduceLeDiff,Nat.reduceEqDiff,beq_self_eq_true,Bool.false_eq_true,setAt,binA,arithA,Option.some.injEq,reduceCtorEq,decide_true,resA,resAll,resOne,enterA,ite_self,↓reduceIte,cb_packet_codes,b_packet_codes,cr_packet_codes,oI,Int.reduceBEq,fillA,setAt,AVal.cells,ntop,viewAs,viewA,viewA1,viewsA,freezeA,List.foldl_cons,List.foldl_nil]
  rfl
 by_cases h6 : k=6
 ·subst h6
  rw [E_eq (by rfl) cf_packet_codes]
  simp -implicitDefEqProofs only [EVS0,EVS1,EVS5,EVS6,EVL0,ite_list,eq_self,exI,nsite,freeAt,execI,Opd.ev,tget,tins,tput,keepL,sitesOf,List.sum_cons,List.sum_nil,Nat.reduceAdd,Nat.reduceLT,Nat.reduceLeDiff,Nat.reduceEqDiff,beq_self_eq_true,Bool.false_eq_true,setAt,binA,arithA,Option.some.injEq,reduceCtorEq,decide_true,resA,resAll,resOne,enterA,ite_self,↓reduceIte,cb_packet_codes,b_packet_codes,cr_packet_codes,oI,Int.reduceBEq,fillA,setAt,AVal.cells,ntop,viewAs,viewA,viewA1,viewsA,freezeA,List.foldl_cons,List.foldl_nil]
  rfl
 by_cases h7 : k=7
 ·subst h7
  rw [E_eq (by rfl) cf_packet_codes]
  simp -implicitDefEqProofs only [EVS0,EVS1,EVS5,EVS6,EVL0,ite_list,eq_self,exI,nsite,freeAt,execI,Opd.ev,tget,tins,tput,keepL,sitesOf,List.sum_cons,List.sum_nil,Nat.reduceAdd,Nat.reduceLT,Nat.reduceLeDiff,Nat.reduceEqDiff,beq_self_eq_true,Bool.false_eq_true,setAt,binA,arithA,Option.some.injEq,reduceCtorEq,decide_true,resA,resAll,resOne,enterA,ite_self,↓reduceIte,cb_packet_codes,b_packet_codes,cr_packet_codes,oI,Int.reduceBEq,fillA,setAt,AVal.cells,ntop,viewAs,viewA,viewA1,viewsA,freezeA,List.foldl_cons,List.foldl_nil]
  rfl
 by_cases h9 : k=9
 ·subst h9
  rw [E_eq (by rfl) cf_packet_codes]
  simp -implicitDefEqProofs only [EVS0,EVS1,EVS5,EVS6,EVL0,ite_list,eq_self,exI,nsite,freeAt,execI,Opd.ev,tget,tins,tput,keepL,sitesOf,List.sum_cons,List.sum_nil,Nat.reduceAdd,Nat.reduceLT,Nat.reduceLeDiff,Nat.reduceEqDiff,beq_self_eq_true,Bool.false_eq_true,setAt,binA,arithA,Option.some.injEq,reduceCtorEq,decide_true,resA,resAll,resOne,enterA,↓reduceIte,cb_packet_codes,b_packet_codes,cr_packet_codes,oI,Int.reduceBEq,fillA,setAt,AVal.cells,ntop,viewAs,viewA,viewA1,viewsA,freezeA,List.foldl_cons,List.foldl_nil]
  rfl
 by_cases h11 : k=11
 ·subst h11
  rw [E_eq (by rfl) cf_packet_codes]
  simp -implicitDefEqProofs only [EVS0,EVS1,EVS5,EVS6,EVL0,ite_list,eq_self,exI,nsite,freeAt,execI,Opd.ev,tget,tins,tput,keepL,sitesOf,List.sum_cons,List.sum_nil,Nat.reduceAdd,Nat.reduceLT,Nat.reduceLeDiff,Nat.reduceEqDiff,beq_self_eq_true,Bool.false_eq_true,setAt,binA,arithA,Option.some.injEq,reduceCtorEq,decide_true,resA,resAll,resOne,enterA,↓reduceIte,cb_packet_codes,b_packet_codes,cr_packet_codes,oI,Int.reduceBEq,fillA,setAt,AVal.cells,ntop,viewAs,viewA,viewA1,viewsA,freezeA,List.foldl_cons,List.foldl_nil]
  rfl
 by_cases h14 : k=14
 ·subst h14
  rw [E_eq (by rfl) cf_packet_codes]
  simp -implicitDefEqProofs only [EVS0,EVS1,EVS5,EVS6,EVL0,ite_list,eq_self,exI,nsite,freeAt,execI,Opd.ev,tget,tins,tput,keepL,sitesOf,List.sum_cons,List.sum_nil,Nat.reduceAdd,Nat.reduceLT,Nat.reduceLeDiff,Nat.reduceEqDiff,beq_self_eq_true,Bool.false_eq_true,setAt,binA,arithA,Option.some.injEq,reduceCtorEq,decide_true,resA,resAll,resOne,enterA,ite_self,↓reduceIte,cb_packet_codes,b_packet_codes,cr_packet_codes,oI,Int.reduceBEq,fillA,setAt,AVal.cells,ntop,viewAs,viewA,viewA1,viewsA,freezeA,List.foldl_cons,List.foldl_nil]
  rfl
 by_cases h15 : k=15
 ·subst h15
  rw [E_eq (by rfl) cf_packet_codes]
  simp -implicitDefEqProofs only [EVS0,EVS1,EVS5,EVS6,EVL0,ite_list,eq_self,exI,nsite,freeAt,execI,Opd.ev,tget,tins,tput,keepL,sitesOf,List.sum_cons,List.sum_nil,Nat.reduceAdd,Nat.reduceLT,Nat.reduceLeDiff,Nat.reduceEqDiff,beq_self_eq_true,Bool.false_eq_true,setAt,binA,arithA,Option.some.injEq,reduceCtorEq,decide_true,resA,resAll,resOne,enterA,ite_self,↓reduceIte,cb_packet_codes,b_packet_codes,cr_packet_codes,oI,Int.reduceBEq,fillA,setAt,AVal.cells,ntop,viewAs,viewA,viewA1,viewsA,freezeA,List.foldl_cons,List.foldl_nil]
  rfl
 have b2 : (k == 2)=false:=by simpa using h2
 have b4 : (k == 4)=false:=by simpa using h4
 have b5 : (k == 5)=false:=by simpa using h5
 have b6 : (k == 6)=false:=by simpa using h6
 have b7 : (k == 7)=false:=by simpa using h7
 have b9 : (k == 9)=false:=by simpa using h9
 have b11 : (k == 11)=false:=by simpa using h11
 have b14 : (k == 14)=false:=by simpa using h14
 have b15 : (k == 15)=false:=by simpa using h15
 rw [if_neg h2,if_neg h4,if_neg h5,if_neg h6,if_neg h7,if_neg h9,if_neg h11,if_neg h14,if_neg h15]
 rw [E_eq (by rfl) cf_packet_codes]
 simp -implicitDefEqProofs only [EVS0,EVS1,EVS5,EVS6,EVL0,eq_self,exI,nsite,freeAt,execI,Opd.ev,tget,tins,tput,keepL,sitesOf,List.sum_cons,List.sum_nil,Nat.reduceLT,Nat.reduceEqDiff,beq_self_eq_true,Bool.false_eq_true,binA,arithA,reduceCtorEq,resA,resAll,resOne,enterA,↓reduceIte,cb_packet_codes,b_packet_codes,cr_packet_codes,oI,b2,b4,b5,b6,b7,b9,b11,b14,b15]
theorem q_span (c : Int) (s : Int×Int) : E 88 [.agg [.int .i64 s.1,.int .i64 s.2],.ref 0 0] [.var [.int .i64 c]]=some (.bool (inSpan c s),[.var [.int .i64 c]]):=by
 unfold inSpan
 rw [E_eq (by rfl) cf_packet_CodeOf_1]
 by_cases h : c≥s.1
 ·simp -implicitDefEqProofs only [EVS0,EVS1,EVS4,EVS5,EVS7,EVL0,eq_self,exI,nsite,freeAt,execI,Opd.ev,tget,tins,tput,keepL,sitesOf,List.sum_cons,List.sum_nil,Nat.reduceAdd,Nat.reduceLT,Nat.reduceEqDiff,Nat.reduceBEq,beq_self_eq_true,ldA,partA,faddrA,binA,arithA,gSpan,unG,ne_eq,Option.some.injEq,reduceCtorEq,decide_true,decide_false,resA,resAll,resOne,enterA,↓reduceIte,noRefL,cb_packet_CodeOf_1,b_packet_CodeOf_1,cr_packet_CodeOf_1,oI,h]
  try (simp [outA,gcA,gcIds,reach,refsL,refsV,rhoOf,heapOf,idxA,genB,newGen,renL,renV,renB,refsB,List.range_succ])
 ·simp -implicitDefEqProofs only [EVS0,EVS1,EVS4,EVS5,EVS7,EVL0,eq_self,exI,nsite,freeAt,execI,Opd.ev,tget,tins,tput,keepL,sitesOf,List.sum_cons,List.sum_nil,Nat.reduceAdd,Nat.reduceLT,Nat.reduceEqDiff,Nat.reduceBEq,beq_self_eq_true,Bool.false_eq_true,ldA,partA,faddrA,binA,arithA,gSpan,gSkip,ne_eq,Option.some.injEq,reduceCtorEq,decide_false,resA,resAll,resOne,enterA,↓reduceIte,noRefL,cb_packet_CodeOf_1,b_packet_CodeOf_1,cr_packet_CodeOf_1,oI,h]
  try (simp [outA,gcA,gcIds,reach,refsL,refsV,rhoOf,heapOf,idxA,genB,newGen,renL,renV,renB,refsB,List.range_succ])
theorem q_codesC (k : Int) (σ : AHeap) (site own : Nat) : callG E BY σ site 87 own true [.int .i64 k]=some (.lst false ((codesL k).map spanV),σ,{}):=by
 obtain ⟨f,h⟩:=q_codes k
 exact call_normT h (by kernel_rfl) rfl rfl rfl (fun _=>rfl) _ _ _
theorem q_spanC (σ : AHeap) (site t own : Nat) (view : Bool) (c : Int) (s : Int×Int) (hs : σ[t]?=some (.var [.int .i64 c])) (hff : freeFrom σ site own=true) : callG E BY σ site 88 own view [.agg [.int .i64 s.1,.int .i64 s.2],.ref t 0]=some (.bool (inSpan c s),σ.set t (.var [.int .i64 c]),{ any:=true,upd:=[(t,[.int .i64 c])] }) :=
 call_cap hs rfl rfl (by kernel_rfl) hff rfl rfl (fun ρ h=>by simp only [renL,renV,h]) rfl rfl (q_span c s)
theorem q_idxSl (L : List (Int×Int)) (c : Int) (hL : L.length≤9223372036854775807) : ∀ (r : List (Int×Int)) (i : Nat),L.drop i=r →
  ∃ z,K_slices_IndexFunc_packet_span_packet_span_l2 1 [(8,.int .i64 i),(7,.int .i64 L.length),(1,.fn 88 [.ref 0 0]),(0,.lst false (L.map spanV))] [.var [.int .i64 c]]=some (.int .i64 z,[.var [.int .i64 c]])∧decide (z≥0)=r.any (inSpan c)
 | [],i,h=>by
  have h1:=drop_nil h
  refine ⟨-1,?_,by simp⟩
  unfold K_slices_IndexFunc_packet_span_packet_span_l2
  rw [evL_eq]
  simp -implicitDefEqProofs only [EVS0,EVS1,EVS5,EVS7,EVL0,eq_self,exI,nsite,freeAt,execI,Opd.ev,tget,tins,tput,keepL,sitesOf,List.sum_cons,List.sum_nil,Nat.reduceLT,Nat.reduceEqDiff,beq_self_eq_true,Bool.false_eq_true,binA,arithA,reduceCtorEq,decide_false,resA,resAll,resOne,↓reduceIte,noRefL,cr_slices_IndexFunc_packet_span_packet_span,x_slices_IndexFunc_packet_span_packet_span_k0,d_slices_IndexFunc_packet_span_packet_span_k0,x_slices_IndexFunc_packet_span_packet_span_l2,d_slices_IndexFunc_packet_span_packet_span_l2,oI,h1]
 | x::r,i,h=>by
  obtain ⟨z,ih,hz⟩:=q_idxSl L c hL r (i+1) (drop_at h).2.1
  have h1 : (i : Int) < L.length:=by have:=(drop_at h).2.2;omega
  have e1:=iad (drop_at h).1 spanV (k:=2) rfl
  have e3:=wrap_succ h1 hL
  have hm : x ∈ L:=List.mem_of_getElem? (drop_at h).1
  have hc:=fun σ site t own view hs hff=>q_spanC σ site t own view c x hs hff
  unfold K_slices_IndexFunc_packet_span_packet_span_l2 at ih ⊢
  cases hb : inSpan c x
  ·refine ⟨z,?_,by rw [hz];simp [hb]⟩
   rw [evL_eq]
   simp -implicitDefEqProofs only [EVS0,EVS1,EVS4,EVS5,EVS7,EVL0,eq_self,exI,nsite,freeAt,execI,Opd.ev,tget,tins,tput,keepL,sitesOf,List.sum_cons,List.sum_nil,Nat.reduceAdd,Nat.reduceLT,Nat.reduceLeDiff,Nat.reduceEqDiff,Nat.reduceBEq,beq_self_eq_true,Bool.false_eq_true,ldA,partA,binA,arithA,ne_eq,reduceCtorEq,decide_true,↓reduceIte,gcT,gcA,gcIds,reach,rhoOf,heapOf,idxA,genB,newGen,renB,refsB,List.contains_cons,List.range_succ,x_slices_IndexFunc_packet_span_packet_span_l2,d_slices_IndexFunc_packet_span_packet_span_l2,oI,h1,e1,e3,hc,hb,freeFrom,spanV]
   exact ih
  ·refine ⟨i,?_,by simp [hb]⟩
   rw [evL_eq]
   simp -implicitDefEqProofs only [EVS0,EVS1,EVS4,EVS5,EVS7,EVL0,eq_self,exI,nsite,freeAt,execI,Opd.ev,tget,tins,tput,keepL,sitesOf,List.sum_cons,List.sum_nil,Nat.reduceAdd,Nat.reduceLT,Nat.reduceLeDiff,Nat.reduceEqDiff,Nat.reduceBEq,beq_self_eq_true,ldA,partA,binA,arithA,reduceCtorEq,decide_true,resA,resAll,resOne,↓reduceIte,noRefL,cr_slices_IndexFunc_packet_span_packet_span,x_slices_IndexFunc_packet_span_packet_span_l2,d_slices_IndexFunc_packet_span_packet_span_l2,oI,h1,e1,hc,hb,freeFrom,spanV]
theorem q_idxS (L : List (Int×Int)) (c : Int) (hL : L.length≤9223372036854775807) :
  ∃ z,E 133 [.lst false (L.map spanV),.fn 88 [.ref 0 0]] [.var [.int .i64 c]]=some (.int .i64 z,[.var [.int .i64 c]])∧decide (z≥0)=L.any (inSpan c):=by
 obtain ⟨z,h,hz⟩:=q_idxSl L c hL L 0 rfl
 refine ⟨z,?_,hz⟩
 rw [E_eq (by rfl) cf_slices_IndexFunc_packet_span_packet_span]
 have z0 : ((0 : Nat) : Int)=0:=rfl
 rw [z0] at h
 unfold K_slices_IndexFunc_packet_span_packet_span_l2 at h
 simp -implicitDefEqProofs only [EVS0,EVS1,EVS5,EVS7,EVL0,eq_self,exI,nsite,freeAt,execI,Opd.ev,tget,tins,tput,keepL,sitesOf,List.sum_cons,List.sum_nil,Nat.reduceLT,Nat.reduceEqDiff,beq_self_eq_true,ne_eq,reduceCtorEq,enterA,↓reduceIte,gcT,gcA,gcIds,reach,rhoOf,heapOf,idxA,genB,newGen,renB,refsB,List.contains_cons,List.range_succ,cb_slices_IndexFunc_packet_span_packet_span,b_slices_IndexFunc_packet_span_packet_span,oI,h]
theorem q_contS (L : List (Int×Int)) (c : Int) (hL : L.length≤9223372036854775807) :
  E 86 [.lst false (L.map spanV),.fn 88 [.ref 0 0]] [.var [.int .i64 c]]=some (.bool (L.any (inSpan c)),[.var [.int .i64 c]]):=by
 obtain ⟨z,h,hz⟩:=q_idxS L c hL
 rw [E_eq (by rfl) cf_slices_ContainsFunc_packet_span_packet_span]
 have hc:=fun (σ : AHeap) site t view hs=>call_cap (O:=E) (byref:=BY) (σ:=σ) (t:=t) (site:=site) (own:=0) (view:=view) (f:=133) (args:=[.lst false (L.map spanV),.fn 88 [.ref t 0]]) (vs:=[.lst false (L.map spanV),.fn 88 [.ref t 0]]) hs rfl rfl (by kernel_rfl) rfl rfl rfl (fun ρ h=>by simp only [renL,renV,h]) rfl rfl h
 simp -implicitDefEqProofs only [EVS0,EVS1,EVS5,EVS7,EVL0,eq_self,exI,nsite,freeAt,execI,Opd.ev,tget,tins,tput,keepL,sitesOf,List.sum_cons,List.sum_nil,Nat.reduceLT,Nat.reduceEqDiff,beq_self_eq_true,binA,arithA,reduceCtorEq,resA,resAll,resOne,enterA,↓reduceIte,noRefL,cb_slices_ContainsFunc_packet_span_packet_span,b_slices_ContainsFunc_packet_span_packet_span,cr_slices_ContainsFunc_packet_span_packet_span,oI,hc,hz]
theorem q_codeOf (k c : Int) : E 41 [.int .i64 k,.int .i64 c] []=some (.bool (codeOfB k c),[]):=by
 have h:=q_contS (codesL k) c (by have:=codesL_len k;omega)
 have hC:=fun σ site own=>q_codesC k σ site own
 unfold codeOfB
 generalize codesL k=L at *
 rw [E_eq (by rfl) cf_packet_CodeOf]
 have hc:=fun (σ : AHeap) site t view hs=>call_cap (O:=E) (byref:=BY) (σ:=σ) (t:=t) (site:=site) (own:=0) (view:=view) (f:=86) (args:=[.lst false (L.map spanV),.fn 88 [.ref t 0]]) (vs:=[.lst false (L.map spanV),.fn 88 [.ref t 0]]) hs rfl rfl (by kernel_rfl) rfl rfl rfl (fun ρ h=>by simp only [renL,renV,h]) rfl rfl h
 simp -implicitDefEqProofs only [EVS0,EVS1,EVS4,EVS5,EVL0,eq_self,exI,nsite,freeAt,execI,Opd.ev,tget,tins,tput,keepL,sitesOf,List.sum_cons,List.sum_nil,Nat.reduceLT,Nat.reduceEqDiff,Nat.reduceBEq,beq_self_eq_true,reduceCtorEq,resA,resAll,resOne,enterA,↓reduceIte,cb_packet_CodeOf,b_packet_CodeOf,cr_packet_CodeOf,oI,hC,hc]
theorem q_codeOfC (k c : Int) (σ : AHeap) (site own : Nat) : callG E BY σ site 41 own true [.int .i64 k,.int .i64 c]=some (.bool (codeOfB k c),σ,{}) :=
 call_flat (q_codeOf k c) (by kernel_rfl) (by simp -implicitDefEqProofs only [EVS3,EVL0,eq_self,eq_self]) (by simp -implicitDefEqProofs only [EVS4,EVL0,eq_self,eq_self]) rfl (fun _=>rfl) _ _ _ _
end Go.Proofs.YtmlkhhidifjjfaaDoor
namespace Go.Proofs.YtmlkhhidifjjfaaDoor
set_option maxHeartbeats 8000000
set_option maxRecDepth 10000
abbrev RK (α : Type):=Except Int (α×Bytes)
def numK (n : Nat) (l : Bytes) : RK Int:=if l.length < n then .error 129 else .ok (numI (l.take n),l.drop n)
def textK (l : Bytes) : RK Bytes:=if (getTextF l).2.2=0 then .ok ((getTextF l).1,l.drop (getTextF l).2.1) else .error 129
def propsK (w : Int) (l : Bytes) : RK (List PropD):=if (readF w l).2.2=0 then .ok ((readF w l).1,l.drop (readF w l).2.1) else .error (readF w l).2.2
def idK (l : Bytes) : RK Int:=match numK 2 l with
 | .ok (n,r)=>if n=0 then .error 130 else .ok (n,r)
 | .error c=>.error c
def codeK (k : Int) (l : Bytes) : RK Int:=match numK 1 l with
 | .ok (n,r)=>if codeOfB k n=true then .ok (n,r) else .error 130
 | .error c=>.error c
theorem noRefL_set {v : AVal} (hv : noRef v=true) : ∀ {P : List AVal} (k : Nat),noRefL P=true→noRefL (P.set k v)=true
 | [],_,_=>rfl
 | x::P,0,h=>by
  simp only [noRefL,Bool.and_eq_true,List.set_cons_zero] at h ⊢
  exact ⟨hv,h.2⟩
 | x::P,k+1,h=>by
  simp only [noRefL,Bool.and_eq_true,List.set_cons_succ] at h ⊢
  exact ⟨h.1,noRefL_set hv k h.2⟩
theorem noRef_lst (f : Bool) (xs : List AVal) : noRef (.lst f xs)=true:=rfl
section
variable (P : List AVal) (hP : P.length=26) (hN : noRefL P=true)
include hP
theorem pl_put (k k' : Nat) (hk : k < 26) (hk' : k'=k+1) (L v : AVal) : List.take k (P++[L])++[v]++List.drop k' (P++[L])=P.set k v++[L]:=by
 subst hk'
 rw [List.take_append_of_le_length (by omega),List.drop_append_of_le_length (by omega),←List.append_assoc]
 congr 1
 rw [List.set_eq_take_append_cons_drop,if_pos (by omega)]
 simp
theorem pl_at (k : Nat) (hk : k < 26) (L : AVal) : (P++[L])[k]?=P[k]?:=List.getElem?_append_left (by omega)
theorem pl_same (k : Nat) (hk : k < 26) (L v : AVal) : (P.set k v++[L])[k]?=some v:=by
 rw [List.getElem?_append_left (by simp;omega),List.getElem?_set_self (by omega)]
include hN
section
variable (l : Bytes) (hl : l.length≤140737488355328) (σ : AHeap) (t site : Nat) (hs : σ[t]?=some (.var (P++[.lst false (l.map byteV)])))
include hl hs
theorem q_knumTC {n : Nat} {m : Int} {a : Int} {r : Bytes} (hm : ((n : Nat) : Int)=m) (h : numK n l=.ok (a,r)) : callG E BY σ site 115 0 true [.ref t 0,.int .i64 m]=some (.int .i64 a,σ.set t (.var (P++[.lst false (r.map byteV)])),{ any:=true,upd:=[(t,P++[.lst false (r.map byteV)])] }):=by
 subst hm
 unfold numK at h
 split at h
 ·cases h
 ·injection h with h;injection h with h1 h2;subst h1 h2
  exact call_refT (rest:=[.int .i64 (n : Nat)]) (by kernel_rfl) rfl (pl_ref P hP hN _ _) (pl_ref P hP hN _ _) rfl rfl (q_knumT P hP hN l n (by omega) hl) hs site
theorem q_knumFC {n : Nat} {m : Int} {c : Int} (hm : ((n : Nat) : Int)=m) (hn : n≤9223372036854775807) (h : numK n l=.error c) : callG E BY σ site 115 0 true [.ref t 0,.int .i64 m]=some (.pan (codeI c),σ.set t (.var (P++[.lst false (l.map byteV)])),{ any:=true,upd:=[(t,P++[.lst false (l.map byteV)])] }):=by
 subst hm
 unfold numK at h
 split at h
 ·injection h with h;subst h
  exact call_refP (rest:=[.int .i64 (n : Nat)]) (by kernel_rfl) rfl (pl_ref P hP hN _ _) (pl_ref P hP hN _ _) rfl (q_knumF P hP hN l n (by omega) hn) hs site
 ·cases h
theorem q_ktextTC {a r : Bytes} (h : textK l=.ok (a,r)) : callG E BY σ site 124 0 true [.ref t 0]=some (.str a,σ.set t (.var (P++[.lst false (r.map byteV)])),{ any:=true,upd:=[(t,P++[.lst false (r.map byteV)])] }):=by
 unfold textK at h
 split at h
 ·rename_i h0
  injection h with h;injection h with h1 h2;subst h1 h2
  exact call_refT (rest:=[]) (by kernel_rfl) rfl (pl_ref P hP hN _ _) (pl_ref P hP hN _ _) rfl rfl (q_ktextT P hP hN l hl h0) hs site
 ·cases h
theorem q_ktextFC {c : Int} (h : textK l=.error c) : callG E BY σ site 124 0 true [.ref t 0]=some (.pan (codeI c),σ.set t (.var (P++[.lst false (l.map byteV)])),{ any:=true,upd:=[(t,P++[.lst false (l.map byteV)])] }):=by
 unfold textK at h
 split at h
 ·cases h
 ·rename_i h0
  injection h with h;subst h
  exact call_refP (rest:=[]) (by kernel_rfl) rfl (pl_ref P hP hN _ _) (pl_ref P hP hN _ _) rfl (q_ktextF P hP hN l hl h0) hs site
theorem q_kpropsTC {w : Int} {a : List PropD} {r : Bytes} (hu : (readF w l).2.1≤l.length) (h : propsK w l=.ok (a,r)) : callG E BY σ site 117 0 true [.ref t 0,.int .i64 w]=some (.lst false (a.map propV),σ.set t (.var (P++[.lst false (r.map byteV)])),{ any:=true,upd:=[(t,P++[.lst false (r.map byteV)])] }):=by
 unfold propsK at h
 split at h
 ·rename_i h0
  injection h with h;injection h with h1 h2;subst h1 h2
  exact call_refT (rest:=[.int .i64 w]) (by kernel_rfl) rfl (pl_ref P hP hN _ _) (pl_ref P hP hN _ _) rfl rfl (q_kpropsT P hP hN w l hl h0 hu) hs site
 ·cases h
theorem q_kpropsFC {w c : Int} (h : propsK w l=.error c) : callG E BY σ site 117 0 true [.ref t 0,.int .i64 w]=some (.pan (codeI c),σ.set t (.var (P++[.lst false (l.map byteV)])),{ any:=true,upd:=[(t,P++[.lst false (l.map byteV)])] }):=by
 unfold propsK at h
 split at h
 ·cases h
 ·rename_i h0
  injection h with h;subst h
  exact call_refP (rest:=[.int .i64 w]) (by kernel_rfl) rfl (pl_ref P hP hN _ _) (pl_ref P hP hN _ _) rfl (q_kpropsF P hP hN w l hl h0) hs site
end
theorem q_kidT (l : Bytes) (hl : l.length≤140737488355328) {n : Int} {r : Bytes} (h : idK l=.ok (n,r)) : E 119 [.ref 0 0] [.var (P++[.lst false (l.map byteV)])]=some (.tup [],[.var (P.set 4 (.int .i64 n)++[.lst false (r.map byteV)])]):=by
 unfold idK at h
 split at h
 case h_2=>cases h
 rename_i n' r' h2
 split at h
 ·cases h
 rename_i hn
 injection h with h;injection h with h3 h4;subst h3 h4
 have hG:=fun σ site hs=>q_knumTC P hP hN l hl σ 0 site hs (m:=2) rfl h2
 have a1:=pl_len P hP
 have a3:=pl_put P hP 4 5 (by omega) rfl
 have a4:=pl_same P hP 4 (by omega)
 have m1:=q_mustT
 have h0 : (n' != 0)=true:=by simpa using hn
 rw [E_eq (by rfl) cf_packet_reader_id]
 simp -implicitDefEqProofs only [EVS0,EVS1,EVS4,EVS5,EVS6,EVL0,eq_self,exI,nsite,freeAt,execI,Opd.ev,tget,tins,tput,keepL,sitesOf,List.sum_cons,List.sum_nil,Nat.reduceAdd,Nat.reduceLT,Nat.reduceLeDiff,Nat.reduceEqDiff,beq_self_eq_true,ldA,stA,partA,faddrA,setAt,binA,arithA,reduceCtorEq,resA,resAll,enterA,↓reduceIte,noRefL,cb_packet_reader_id,b_packet_reader_id,cr_packet_reader_id,oI,oN,hG,a1,a3,a4,m1,h0,faddrA]
 exact out_one rfl (noRefL_app (noRefL_set rfl 4 hN) (by rfl))
theorem q_kidF (l : Bytes) (hl : l.length≤140737488355328) {c : Int} (h : idK l=.error c) : ∃ cs,noRefL cs=true∧E 119 [.ref 0 0] [.var (P++[.lst false (l.map byteV)])]=some (.pan (codeI c),[.var cs]):=by
 unfold idK at h
 split at h
 ·rename_i n' r' h2
  split at h
  case isFalse=>cases h
  rename_i hn
  injection h with h;subst h hn
  have hG:=fun σ site hs=>q_knumTC P hP hN l hl σ 0 site hs (m:=2) rfl h2
  have a1:=pl_len P hP
  have a3:=pl_put P hP 4 5 (by omega) rfl
  have a4:=pl_same P hP 4 (by omega)
  have m1:=q_mustF
  refine ⟨P.set 4 (.int .i64 0)++[.lst false (r'.map byteV)],noRefL_app (noRefL_set rfl 4 hN) (by rfl),?_⟩
  rw [E_eq (by rfl) cf_packet_reader_id]
  simp -implicitDefEqProofs only [EVS0,EVS1,EVS4,EVS5,EVL0,eq_self,exI,nsite,freeAt,execI,Opd.ev,tget,tins,tput,keepL,sitesOf,List.sum_cons,List.sum_nil,Nat.reduceAdd,Nat.reduceLT,Nat.reduceLeDiff,Nat.reduceEqDiff,beq_self_eq_true,ldA,stA,partA,faddrA,setAt,binA,arithA,reduceCtorEq,enterA,↓reduceIte,cb_packet_reader_id,b_packet_reader_id,oI,oN,hG,a1,a3,a4,m1,faddrA,bne_self_eq_false]
  exact out_one rfl (noRefL_app (noRefL_set rfl 4 hN) (by rfl))
 ·rename_i c' h2
  injection h with h;subst h
  have hG:=fun σ site hs=>q_knumFC P hP hN l hl σ 0 site hs (m:=2) rfl (by decide) h2
  refine ⟨P++[.lst false (l.map byteV)],noRefL_app hN (by rfl),?_⟩
  rw [E_eq (by rfl) cf_packet_reader_id]
  simp -implicitDefEqProofs only [EVS0,EVS1,EVS5,EVL0,eq_self,exI,nsite,freeAt,execI,Opd.ev,tget,tins,tput,sitesOf,List.sum_cons,List.sum_nil,Nat.reduceLT,beq_self_eq_true,reduceCtorEq,enterA,↓reduceIte,cb_packet_reader_id,b_packet_reader_id,oI,oN,hG]
  exact out_one rfl (noRefL_app hN (by rfl))
theorem q_kcodeT (k : Int) (hk : P[0]?=some (.int .i64 k)) (l : Bytes) (hl : l.length≤140737488355328) {n : Int} {r : Bytes} (h : codeK k l=.ok (n,r)) : E 116 [.ref 0 0] [.var (P++[.lst false (l.map byteV)])]=some (.int .i64 n,[.var (P++[.lst false (r.map byteV)])]):=by
 unfold codeK at h
 split at h
 case h_2=>cases h
 rename_i n' r' h2
 split at h
 case isFalse=>cases h
 rename_i hn
 injection h with h;injection h with h3 h4;subst h3 h4
 have hG:=fun σ site hs=>q_knumTC P hP hN l hl σ 0 site hs (m:=1) rfl h2
 have a4:=fun L=>(pl_at P hP 0 (by omega) L).trans hk
 have m1:=q_mustT
 have hC:=fun σ site own=>q_codeOfC k n' σ site own
 rw [hn] at hC
 rw [E_eq (by rfl) cf_packet_reader_code]
 simp -implicitDefEqProofs only [EVS0,EVS1,EVS5,EVL0,eq_self,exI,nsite,freeAt,execI,Opd.ev,tget,tins,tput,keepL,sitesOf,List.sum_cons,List.sum_nil,Nat.reduceLT,Nat.reduceEqDiff,beq_self_eq_true,ldA,partA,faddrA,reduceCtorEq,resA,resAll,resOne,enterA,↓reduceIte,cb_packet_reader_code,b_packet_reader_code,cr_packet_reader_code,oI,hG,hC,a4,m1,faddrA]
 exact out_one rfl (noRefL_app hN (by rfl))
section
variable (l : Bytes) (hl : l.length≤140737488355328) (σ : AHeap) (t site : Nat) (hs : σ[t]?=some (.var (P++[.lst false (l.map byteV)])))
include hl hs
theorem q_kidTC {n : Int} {r : Bytes} (h : idK l=.ok (n,r)) : callG E BY σ site 119 0 true [.ref t 0]=some (.tup [],σ.set t (.var (P.set 4 (.int .i64 n)++[.lst false (r.map byteV)])),{ any:=true,upd:=[(t,P.set 4 (.int .i64 n)++[.lst false (r.map byteV)])] }) :=
 call_refT (rest:=[]) (by kernel_rfl) rfl (pl_ref P hP hN _ _) (noRefL_app (noRefL_set rfl 4 hN) (by rfl)) rfl rfl (q_kidT P hP hN l hl h) hs site
theorem q_kcodeTC (k : Int) (hk : P[0]?=some (.int .i64 k)) {n : Int} {r : Bytes} (h : codeK k l=.ok (n,r)) : callG E BY σ site 116 0 true [.ref t 0]=some (.int .i64 n,σ.set t (.var (P++[.lst false (r.map byteV)])),{ any:=true,upd:=[(t,P++[.lst false (r.map byteV)])] }) :=
 call_refT (rest:=[]) (by kernel_rfl) rfl (pl_ref P hP hN _ _) (pl_ref P hP hN _ _) rfl rfl (q_kcodeT P hP hN k hk l hl h) hs site
end
end
end Go.Proofs.YtmlkhhidifjjfaaDoor
namespace Go.Proofs.YtmlkhhidifjjfaaDoor
set_option maxHeartbeats 8000000
set_option maxRecDepth 10000
def optP : Option (List PropD)→AVal
 | none=>.lst true []
 | some l=>.lst false (l.map propV)
def restK (k : Int) (l : Bytes) : RK (Int×Option (List PropD)) :=
 if l.length=0 then .ok ((0,none),l) else match codeK k l with
 | .error c=>.error c
 | .ok (c,r)=>if r.length=0 then .ok ((c,none),r) else match propsK k r with
  | .error c=>.error c
  | .ok (ps,r')=>.ok ((c,some ps),r')
theorem codeK_len {k n : Int} {l r : Bytes} (h : codeK k l=.ok (n,r)) : r.length≤l.length:=by
 unfold codeK numK at h
 split at h
 ·rename_i h1
  split at h1
  ·cases h1
  ·injection h1 with h1;injection h1 with _ h1
   split at h
   ·injection h with h;injection h with _ h;subst h h1;simp
   ·cases h
 ·cases h
theorem set_self {P : List AVal} {k : Nat} {v : AVal} (h : P[k]?=some v) : P.set k v=P:=by
 apply List.ext_getElem?
 intro j
 rw [List.getElem?_set]
 split
 ·rename_i e;subst e
  have hk : k < P.length:=by
   rcases Nat.lt_or_ge k P.length with h' | h'
   ·exact h'
   ·rw [List.getElem?_eq_none h'] at h;cases h
  rw [if_pos hk,h]
 ·rfl
section
variable (P : List AVal) (hP : P.length=26) (hN : noRefL P=true)
include hP hN
theorem q_krestT (k : Int) (hk : P[0]?=some (.int .i64 k)) (h7 : P[7]?=some (.int .i64 0)) (h9 : P[9]?=some (.lst true [])) (hu : ∀ r : Bytes,r.length≤140737488355328→(readF k r).2.1≤r.length) (l : Bytes) (hl : l.length≤140737488355328) {c : Int} {ps : Option (List PropD)} {r : Bytes} (h : restK k l=.ok ((c,ps),r)) :
  E 120 [.ref 0 0] [.var (P++[.lst false (l.map byteV)])]=some (.tup [],[.var ((P.set 7 (.int .i64 c)).set 9 (optP ps)++[.lst false (r.map byteV)])]):=by
 have a1:=pl_len P hP
 have a2:=pl_get P hP
 unfold restK at h
 split at h
 ·rename_i h0
  injection h with h;injection h with h1 h2;injection h1 with h1 h3;subst h1 h2 h3
  have hg : ¬(l.length : Int) > 0:=by omega
  rw [show optP none=.lst true [] from rfl,set_self h7,set_self h9]
  rw [E_eq (by rfl) cf_packet_reader_rest]
  simp -implicitDefEqProofs only [EVS0,EVS1,EVS5,EVS6,EVL0,eq_self,exI,nsite,freeAt,execI,Opd.ev,tget,tins,tput,keepL,sitesOf,List.sum_cons,List.sum_nil,Nat.reduceLT,beq_self_eq_true,Bool.false_eq_true,ldA,partA,faddrA,binA,arithA,reduceCtorEq,decide_false,resA,resAll,enterA,↓reduceIte,noRefL,cb_packet_reader_rest,b_packet_reader_rest,cr_packet_reader_rest,oI,oN,a2,hg,faddrA]
  exact out_one rfl (pl_ref P hP hN _ _)
 ·rename_i h0
  have hg : (l.length : Int) > 0:=by omega
  split at h
  ·cases h
  rename_i c' r' hc
  have hr':=codeK_len hc
  have hC:=fun σ site hs=>q_kcodeTC P hP hN l hl σ 0 site hs k hk hc
  have a3:=pl_put P hP 7 8 (by omega) rfl
  have hP7 : (P.set 7 (.int .i64 c')).length=26:=by simp [hP]
  have hN7 : noRefL (P.set 7 (.int .i64 c'))=true:=noRefL_set rfl 7 hN
  have hk7 : (P.set 7 (.int .i64 c'))[0]?=some (.int .i64 k):=by rw [List.getElem?_set_ne (by omega)];exact hk
  have h97 : (P.set 7 (.int .i64 c'))[9]?=some (.lst true []):=by rw [List.getElem?_set_ne (by omega)];exact h9
  have b1:=pl_len _ hP7
  have b2:=pl_get _ hP7
  have b3:=pl_put _ hP7 9 10 (by omega) rfl
  have b4:=fun L=>(pl_at _ hP7 0 (by omega) L).trans hk7
  split at h
  ·rename_i h1
   injection h with h;injection h with h1 h2;injection h1 with h1 h3;subst h1 h2 h3
   have hg' : ¬(r'.length : Int) > 0:=by omega
   rw [show optP none=.lst true [] from rfl,set_self h97]
   rw [E_eq (by rfl) cf_packet_reader_rest]
   simp -implicitDefEqProofs only [EVS0,EVS1,EVS4,EVS5,EVS6,EVL0,eq_self,exI,nsite,freeAt,execI,Opd.ev,tget,tins,tput,keepL,sitesOf,List.sum_cons,List.sum_nil,Nat.reduceAdd,Nat.reduceLT,Nat.reduceLeDiff,Nat.reduceEqDiff,beq_self_eq_true,Bool.false_eq_true,ldA,stA,partA,faddrA,setAt,binA,arithA,reduceCtorEq,decide_true,decide_false,resA,resAll,enterA,↓reduceIte,noRefL,cb_packet_reader_rest,b_packet_reader_rest,cr_packet_reader_rest,oI,oN,a1,a2,a3,b2,hg,hg',hC,faddrA]
   exact out_one rfl (pl_ref _ hP7 hN7 _ _)
  ·rename_i h1
   have hg' : (r'.length : Int) > 0:=by omega
   split at h
   ·cases h
   rename_i ps' r2 hp
   injection h with h;injection h with h1 h2;injection h1 with h1 h3;subst h1 h2 h3
   have hG:=fun σ site hs=>q_kpropsTC _ hP7 hN7 r' (by omega) σ 0 site hs (hu r' (by omega)) hp
   rw [E_eq (by rfl) cf_packet_reader_rest]
   simp -implicitDefEqProofs only [EVS0,EVS1,EVS4,EVS5,EVS6,EVL0,eq_self,exI,nsite,freeAt,execI,Opd.ev,tget,tins,tput,keepL,sitesOf,List.sum_cons,List.sum_nil,Nat.reduceAdd,Nat.reduceLT,Nat.reduceLeDiff,Nat.reduceEqDiff,beq_self_eq_true,ldA,stA,partA,faddrA,setAt,binA,arithA,reduceCtorEq,decide_true,resA,resAll,enterA,↓reduceIte,noRefL,cb_packet_reader_rest,b_packet_reader_rest,cr_packet_reader_rest,oI,oN,a1,a2,a3,b1,b2,b3,b4,hg,hg',hC,hG,faddrA,optP]
   exact out_one rfl (noRefL_app (noRefL_set (noRef_lst _ _) 9 hN7) (by rfl))
section
variable (l : Bytes) (hl : l.length≤140737488355328) (σ : AHeap) (t site : Nat) (hs : σ[t]?=some (.var (P++[.lst false (l.map byteV)])))
include hl hs
theorem q_krestTC (k : Int) (hk : P[0]?=some (.int .i64 k)) (h7 : P[7]?=some (.int .i64 0)) (h9 : P[9]?=some (.lst true [])) (hu : ∀ r : Bytes,r.length≤140737488355328→(readF k r).2.1≤r.length) {c : Int} {ps : Option (List PropD)} {r : Bytes} (h : restK k l=.ok ((c,ps),r)) : callG E BY σ site 120 0 true [.ref t 0]=some (.tup [],σ.set t (.var ((P.set 7 (.int .i64 c)).set 9 (optP ps)++[.lst false (r.map byteV)])),{ any:=true,upd:=[(t,(P.set 7 (.int .i64 c)).set 9 (optP ps)++[.lst false (r.map byteV)])] }) :=
 call_refT (rest:=[]) (by kernel_rfl) rfl (pl_ref P hP hN _ _) (noRefL_app (noRefL_set (by cases ps <;> rfl) 9 (noRefL_set rfl 7 hN)) (by rfl)) rfl rfl (q_krestT P hP hN k hk h7 h9 hu l hl h) hs site
end
end
theorem numK_len {n : Nat} {l r : Bytes} {a : Int} (h : numK n l=.ok (a,r)) : r.length≤l.length:=by
 unfold numK at h
 split at h
 ·cases h
 ·injection h with h;injection h with _ h;subst h;simp
theorem idK_len {l r : Bytes} {a : Int} (h : idK l=.ok (a,r)) : r.length≤l.length:=by
 unfold idK at h
 split at h
 ·rename_i h1
  split at h
  ·cases h
  ·injection h with h;injection h with _ h;subst h;exact numK_len h1
 ·cases h
theorem textK_len {l r a : Bytes} (h : textK l=.ok (a,r)) : r.length≤l.length:=by
 unfold textK at h
 split at h
 ·injection h with h;injection h with _ h;subst h;simp
 ·cases h
theorem propsK_len {w : Int} {l r : Bytes} {a : List PropD} (h : propsK w l=.ok (a,r)) : r.length≤l.length:=by
 unfold propsK at h
 split at h
 ·injection h with h;injection h with _ h;subst h;simp
 ·cases h
def pubK (qos : Int) (l : Bytes) : Except Int (Bytes×Int×List PropD×Bytes):=match textK l with
 | .error c=>.error c
 | .ok (tp,r1)=>if qos > 0 then (match idK r1 with
  | .error c=>.error c
  | .ok (n,r2)=>match propsK 3 r2 with
   | .error c=>.error c
   | .ok (ps,r3)=>.ok (tp,n,ps,r3))
  else match propsK 3 r1 with
   | .error c=>.error c
   | .ok (ps,r3)=>.ok (tp,0,ps,r3)
section
variable (P : List AVal) (hP : P.length=26) (hN : noRefL P=true)
include hP hN
theorem q_kpubT (qos : Int) (h2 : P[2]?=some (.int .i64 qos)) (h4 : P[4]?=some (.int .i64 0)) (hu : ∀ r : Bytes,r.length≤140737488355328→(readF 3 r).2.1≤r.length) (l : Bytes) (hl : l.length≤140737488355328) {tp : Bytes} {n : Int} {ps : List PropD} {pay : Bytes} (h : pubK qos l=.ok (tp,n,ps,pay)) :
  E 118 [.ref 0 0] [.var (P++[.lst false (l.map byteV)])]=some (.tup [],[.var ((((P.set 5 (.str tp)).set 4 (.int .i64 n)).set 9 (.lst false (ps.map propV))).set 6 (.lst false (pay.map byteV))++[.lst true []])]):=by
 have a1:=pl_len P hP
 have a2:=pl_get P hP
 unfold pubK at h
 split at h
 ·cases h
 rename_i tp' r1 ht
 have l1:=textK_len ht
 have hT:=fun σ site hs=>q_ktextTC P hP hN l hl σ 0 site hs ht
 have a3:=fun L=>pl_put P hP 5 6 (by omega) rfl L (.str tp')
 have hP5 : (P.set 5 (.str tp')).length=26:=by simp [hP]
 have hN5 : noRefL (P.set 5 (.str tp'))=true:=noRefL_set rfl 5 hN
 have h25 : (P.set 5 (.str tp'))[2]?=some (.int .i64 qos):=by rw [List.getElem?_set_ne (by omega)];exact h2
 have h45 : (P.set 5 (.str tp'))[4]?=some (.int .i64 0):=by rw [List.getElem?_set_ne (by omega)];exact h4
 generalize hQ : P.set 5 (.str tp')=Q at *
 have b1:=pl_len _ hP5
 have b2:=pl_get _ hP5
 have b4:=fun L=>(pl_at _ hP5 2 (by omega) L).trans h25
 split at h
 ·rename_i hq
  split at h
  ·cases h
  rename_i n' r2 hi
  have l2:=idK_len hi
  split at h
  ·cases h
  rename_i ps' r3 hp
  have l3:=propsK_len hp
  injection h with h;injection h with e1 h;injection h with e2 h;injection h with e3 e4;subst e1 e2 e3 e4
  rw [hQ]
  have hI:=fun σ site hs=>q_kidTC Q hP5 hN5 r1 (by omega) σ 0 site hs hi
  have hP4 : (Q.set 4 (.int .i64 n')).length=26:=by simp [hP5]
  have hN4 : noRefL (Q.set 4 (.int .i64 n'))=true:=noRefL_set rfl 4 hN5
  generalize Q.set 4 (.int .i64 n')=R at *
  have hG:=fun σ site hs=>q_kpropsTC _ hP4 hN4 r2 (by omega) σ 0 site hs (hu r2 (by omega)) hp
  have c1:=pl_len _ hP4
  have c2:=pl_get _ hP4
  have c3:=fun L=>pl_put _ hP4 9 10 (by omega) rfl L (.lst false (ps'.map propV))
  have hP9 : (R.set 9 (.lst false (ps'.map propV))).length=26:=by simp [hP4]
  have hN9 : noRefL (R.set 9 (.lst false (ps'.map propV)))=true:=noRefL_set (noRef_lst _ _) 9 hN4
  generalize R.set 9 (.lst false (ps'.map propV))=S at *
  have d1:=pl_len _ hP9
  have d2:=pl_get _ hP9
  have d3:=fun L=>pl_put _ hP9 6 7 (by omega) rfl L (.lst false (r3.map byteV))
  have hP6 : (S.set 6 (.lst false (r3.map byteV))).length=26:=by simp [hP9]
  have hN6 : noRefL (S.set 6 (.lst false (r3.map byteV)))=true:=noRefL_set (noRef_lst _ _) 6 hN9
  generalize S.set 6 (.lst false (r3.map byteV))=U at *
  have f1:=pl_len _ hP6
  have f3:=pl_take _ hP6
  have f4:=pl_drop _ hP6
  have hC:=fun σ site own=>q_cloneBC σ site own r3 (by omega)
  rw [E_eq (by rfl) cf_packet_reader_publish]
  simp -implicitDefEqProofs only [EVS0,EVS1,EVS4,EVS5,EVS6,EVL0,eq_self,exI,nsite,freeAt,execI,Opd.ev,tget,tins,tput,keepL,sitesOf,List.sum_cons,List.sum_nil,Nat.reduceAdd,Nat.reduceLT,Nat.reduceLeDiff,Nat.reduceEqDiff,beq_self_eq_true,ldA,stA,partA,faddrA,setAt,binA,arithA,reduceCtorEq,decide_true,resA,resAll,enterA,↓reduceIte,noRefL,cb_packet_reader_publish,b_packet_reader_publish,cr_packet_reader_publish,oI,oN,a1,a3,b4,c1,c3,d1,d2,d3,f1,f3,f4,hq,hT,hI,hG,hC,faddrA]
  exact out_one rfl (noRefL_app hN6 (by rfl))
 ·rename_i hq
  split at h
  ·cases h
  rename_i ps' r3 hp
  have l3:=propsK_len hp
  injection h with h;injection h with e1 h;injection h with e2 h;injection h with e3 e4;subst e1 e2 e3 e4
  rw [hQ,set_self h45]
  have hG:=fun σ site hs=>q_kpropsTC _ hP5 hN5 r1 (by omega) σ 0 site hs (hu r1 (by omega)) hp
  have c3:=fun L=>pl_put _ hP5 9 10 (by omega) rfl L (.lst false (ps'.map propV))
  have hP9 : (Q.set 9 (.lst false (ps'.map propV))).length=26:=by simp [hP5]
  have hN9 : noRefL (Q.set 9 (.lst false (ps'.map propV)))=true:=noRefL_set (noRef_lst _ _) 9 hN5
  generalize Q.set 9 (.lst false (ps'.map propV))=S at *
  have d1:=pl_len _ hP9
  have d2:=pl_get _ hP9
  have d3:=fun L=>pl_put _ hP9 6 7 (by omega) rfl L (.lst false (r3.map byteV))
  have hP6 : (S.set 6 (.lst false (r3.map byteV))).length=26:=by simp [hP9]
  have hN6 : noRefL (S.set 6 (.lst false (r3.map byteV)))=true:=noRefL_set (noRef_lst _ _) 6 hN9
  generalize S.set 6 (.lst false (r3.map byteV))=U at *
  have f1:=pl_len _ hP6
  have f3:=pl_take _ hP6
  have f4:=pl_drop _ hP6
  have hC:=fun σ site own=>q_cloneBC σ site own r3 (by omega)
  rw [E_eq (by rfl) cf_packet_reader_publish]
  simp -implicitDefEqProofs only [EVS0,EVS1,EVS4,EVS5,EVS6,EVL0,eq_self,exI,nsite,freeAt,execI,Opd.ev,tget,tins,tput,keepL,sitesOf,List.sum_cons,List.sum_nil,Nat.reduceAdd,Nat.reduceLT,Nat.reduceLeDiff,Nat.reduceEqDiff,beq_self_eq_true,Bool.false_eq_true,ldA,stA,partA,faddrA,setAt,binA,arithA,reduceCtorEq,decide_false,resA,resAll,enterA,↓reduceIte,noRefL,cb_packet_reader_publish,b_packet_reader_publish,cr_packet_reader_publish,oI,oN,a1,a3,b1,b4,c3,d1,d2,d3,f1,f3,f4,hq,hT,hG,hC,faddrA]
  exact out_one rfl (noRefL_app hN6 (by rfl))
theorem q_kpubF (qos : Int) (h2 : P[2]?=some (.int .i64 qos)) (l : Bytes) (hl : l.length≤140737488355328) {c : Int} (h : pubK qos l=.error c) :
  ∃ cs,noRefL cs=true∧E 118 [.ref 0 0] [.var (P++[.lst false (l.map byteV)])]=some (.pan (codeI c),[.var cs]):=by
 have a1:=pl_len P hP
 have a2:=pl_get P hP
 unfold pubK at h
 split at h
 ·rename_i c' ht
  injection h with h;subst h
  have hT:=fun σ site hs=>q_ktextFC P hP hN l hl σ 0 site hs ht
  refine ⟨P++[.lst false (l.map byteV)],pl_ref P hP hN _ _,?_⟩
  rw [E_eq (by rfl) cf_packet_reader_publish]
  simp -implicitDefEqProofs only [EVS0,EVS1,EVS5,EVL0,eq_self,exI,nsite,freeAt,execI,Opd.ev,tget,tins,tput,sitesOf,List.sum_cons,List.sum_nil,Nat.reduceLT,beq_self_eq_true,reduceCtorEq,enterA,↓reduceIte,cb_packet_reader_publish,b_packet_reader_publish,oI,oN,hT]
  exact out_one rfl (pl_ref P hP hN _ _)
 rename_i tp' r1 ht
 have l1:=textK_len ht
 have hT:=fun σ site hs=>q_ktextTC P hP hN l hl σ 0 site hs ht
 have a3:=fun L=>pl_put P hP 5 6 (by omega) rfl L (.str tp')
 have hP5 : (P.set 5 (.str tp')).length=26:=by simp [hP]
 have hN5 : noRefL (P.set 5 (.str tp'))=true:=noRefL_set rfl 5 hN
 have h25 : (P.set 5 (.str tp'))[2]?=some (.int .i64 qos):=by rw [List.getElem?_set_ne (by omega)];exact h2
 generalize hQ : P.set 5 (.str tp')=Q at *
 have b1:=pl_len _ hP5
 have b2:=pl_get _ hP5
 have b4:=fun L=>(pl_at _ hP5 2 (by omega) L).trans h25
 split at h
 ·rename_i hq
  split at h
  ·rename_i c' hi
   injection h with h;subst h
   obtain ⟨cs,hn,he⟩:=q_kidF Q hP5 hN5 r1 (by omega) hi
   have hI:=fun (σ : AHeap) site (hs : σ[0]?=some (.var (Q++[.lst false (r1.map byteV)])))=>call_refP (O:=E) (byref:=BY) (f:=119) (view:=true) (rest:=[]) (by kernel_rfl) rfl (pl_ref Q hP5 hN5 _ _) hn rfl he hs site
   refine ⟨cs,hn,?_⟩
   rw [E_eq (by rfl) cf_packet_reader_publish]
   simp -implicitDefEqProofs only [EVS0,EVS1,EVS4,EVS5,EVL0,eq_self,exI,nsite,freeAt,execI,Opd.ev,tget,tins,tput,keepL,sitesOf,List.sum_cons,List.sum_nil,Nat.reduceAdd,Nat.reduceLT,Nat.reduceLeDiff,Nat.reduceEqDiff,beq_self_eq_true,ldA,stA,partA,faddrA,setAt,binA,arithA,reduceCtorEq,decide_true,enterA,↓reduceIte,cb_packet_reader_publish,b_packet_reader_publish,oI,oN,a1,a3,b4,hq,hT,hI,faddrA]
   exact out_one rfl hn
  rename_i n' r2 hi
  have l2:=idK_len hi
  split at h
  ·rename_i c' hp
   injection h with h;subst h
   have hI:=fun σ site hs=>q_kidTC Q hP5 hN5 r1 (by omega) σ 0 site hs hi
   have hP4 : (Q.set 4 (.int .i64 n')).length=26:=by simp [hP5]
   have hN4 : noRefL (Q.set 4 (.int .i64 n'))=true:=noRefL_set rfl 4 hN5
   generalize Q.set 4 (.int .i64 n')=R at *
   have hG:=fun σ site hs=>q_kpropsFC _ hP4 hN4 r2 (by omega) σ 0 site hs hp
   refine ⟨R++[.lst false (r2.map byteV)],pl_ref R hP4 hN4 _ _,?_⟩
   rw [E_eq (by rfl) cf_packet_reader_publish]
   simp -implicitDefEqProofs only [EVS0,EVS1,EVS4,EVS5,EVL0,eq_self,exI,nsite,freeAt,execI,Opd.ev,tget,tins,tput,keepL,sitesOf,List.sum_cons,List.sum_nil,Nat.reduceAdd,Nat.reduceLT,Nat.reduceLeDiff,Nat.reduceEqDiff,beq_self_eq_true,ldA,stA,partA,faddrA,setAt,binA,arithA,reduceCtorEq,decide_true,enterA,↓reduceIte,cb_packet_reader_publish,b_packet_reader_publish,oI,oN,a1,a3,b4,hq,hT,hI,hG,faddrA]
   exact out_one rfl (pl_ref R hP4 hN4 _ _)
  ·cases h
 ·rename_i hq
  split at h
  ·rename_i c' hp
   injection h with h;subst h
   have hG:=fun σ site hs=>q_kpropsFC _ hP5 hN5 r1 (by omega) σ 0 site hs hp
   refine ⟨Q++[.lst false (r1.map byteV)],pl_ref Q hP5 hN5 _ _,?_⟩
   rw [E_eq (by rfl) cf_packet_reader_publish]
   simp -implicitDefEqProofs only [EVS0,EVS1,EVS4,EVS5,EVL0,eq_self,exI,nsite,freeAt,execI,Opd.ev,tget,tins,tput,keepL,sitesOf,List.sum_cons,List.sum_nil,Nat.reduceAdd,Nat.reduceLT,Nat.reduceLeDiff,Nat.reduceEqDiff,beq_self_eq_true,Bool.false_eq_true,ldA,stA,partA,faddrA,setAt,binA,arithA,reduceCtorEq,decide_false,enterA,↓reduceIte,cb_packet_reader_publish,b_packet_reader_publish,oI,oN,a1,a3,b4,hq,hT,hG,faddrA]
   exact out_one rfl (pl_ref Q hP5 hN5 _ _)
  ·cases h
end
end Go.Proofs.YtmlkhhidifjjfaaDoor
namespace Go.Proofs.YtmlkhhidifjjfaaDoor
set_option maxHeartbeats 8000000
set_option maxRecDepth 10000
abbrev KSt:=List AVal×Bytes
def kvar (P : List AVal) (l : Bytes) : AHeap:=[.var (P++[.lst false (l.map byteV)])]
def KRuns (c : ACode) (tm tm' : Tms) (P : List AVal) (l : Bytes) : Except Int KSt→Prop
 | .ok (P',l')=>evC FC PR BY 1 c tm (kvar P l)=some (.normal,tm',kvar P' l')∧P'.length=26∧noRefL P'=true∧l'.length≤l.length
 | .error e=>∃ tm2 cs,noRefL cs=true∧evC FC PR BY 1 c tm (kvar P l)=some (.panic (codeI e),tm2,[.var cs])
theorem KRuns.seq {a b : ACode} {tm tm1 tm2 : Tms} {P : List AVal} {l : Bytes} {x : Except Int KSt} {f : KSt→Except Int KSt} (h : KRuns a tm tm1 P l x) (hb : ∀ P' l',x=.ok (P',l')→P'.length=26→noRefL P'=true→l'.length≤l.length→KRuns b tm1 tm2 P' l' (f (P',l'))) : KRuns (.seq a b) tm tm2 P l (x.bind f):=by
 cases x with
 | error e =>
  obtain ⟨t,cs,h1,h2⟩:=h
  exact ⟨t,cs,h1,evC_seq_out (by simp) h2⟩
 | ok s =>
  obtain ⟨P',l'⟩:=s
  obtain ⟨h1,h2,h3,h4⟩:=h
  have hb:=hb P' l' rfl h2 h3 h4
  show KRuns (.seq a b) tm tm2 P l (f (P',l'))
  generalize f (P',l')=y at *
  cases y with
  | error e =>
   obtain ⟨t,cs,g1,g2⟩:=hb
   exact ⟨t,cs,g1,by rw [evC_seq h1];exact g2⟩
  | ok s =>
   obtain ⟨P2,l2⟩:=s
   obtain ⟨g1,g2,g3,g4⟩:=hb
   exact ⟨by rw [evC_seq h1];exact g1,g2,g3,by omega⟩
end Go.Proofs.YtmlkhhidifjjfaaDoor
namespace Go.Proofs.YtmlkhhidifjjfaaDoor
set_option maxHeartbeats 8000000
set_option maxRecDepth 10000
def t20 : Tms:=[(2,.ref 0 0),(0,.ref 0 0)]
def andB (a b : Int) : Int:=IntKind.i64.wrap (BitVec.ofInt IntKind.i64.bits a &&& BitVec.ofInt IntKind.i64.bits b).toNat
def quo8 (m : Int) : Int:=IntKind.i64.wrap (m.tdiv 8)
section
variable (P : List AVal) (hP : P.length=26) (hN : noRefL P=true) (l : Bytes) (hl : l.length≤140737488355328)
include hP hN hl
end
section
variable (P : List AVal) (hP : P.length=26) (hN : noRefL P=true) (l : Bytes) (hl : l.length≤140737488355328)
variable (m q : Int) (hw rt : Bool) (h15 : P[15]?=some (.bool hw)) (h18 : P[18]?=some (.int .i64 q)) (h19 : P[19]?=some (.bool rt))
include hP hN hl h15 h18 h19
end
section
variable (P : List AVal) (hP : P.length=26) (hN : noRefL P=true) (l : Bytes) (hl : l.length≤140737488355328)
include hP hN hl
end
def marks (P : List AVal) (m : Int) : List AVal:=((((((P.set 12 (.bool (andB m 2 != 0))).set 15 (.bool (andB m 4 != 0))).set 23 (.bool (andB m 64 != 0))).set 21 (.bool (andB m 128 != 0))).set 18 (.int .i64 (andB (quo8 m) 3))).set 19 (.bool (andB m 32 != 0)))
end Go.Proofs.YtmlkhhidifjjfaaDoor
namespace Go.Proofs.YtmlkhhidifjjfaaDoor
set_option maxHeartbeats 8000000
set_option maxRecDepth 10000
theorem z0b : ((((0 : Nat) : Int)) == 0)=true:=by decide
theorem len_b {l : Bytes} {b : Bool} (h : decide (l.length=0)=b) : (((l.length : Nat) : Int) == 0)=b:=by
 subst h
 by_cases h : l.length=0
 ·simp [h]
 ·have : ¬((l.length : Nat) : Int)=0:=by omega
  simp [h]
section
variable (P : List AVal) (hP : P.length=26) (hN : noRefL P=true)
include hP hN
theorem q_kbody3T (qos : Int) (h0 : P[0]?=some (.int .i64 3)) (h2 : P[2]?=some (.int .i64 qos)) (h4 : P[4]?=some (.int .i64 0)) (hu : ∀ r : Bytes,r.length≤140737488355328→(readF 3 r).2.1≤r.length) (l : Bytes) (hl : l.length≤140737488355328) {tp : Bytes} {n : Int} {ps : List PropD} {pay : Bytes} (h : pubK qos l=.ok (tp,n,ps,pay)) :
  E 77 [.ref 0 0] [.var (P++[.lst false (l.map byteV)])]=some (.tup [],[.var ((((P.set 5 (.str tp)).set 4 (.int .i64 n)).set 9 (.lst false (ps.map propV))).set 6 (.lst false (pay.map byteV))++[.lst true []])]):=by
 have hq:=q_kpubT P hP hN qos h2 h4 hu l hl h
 have hN' : noRefL ((((P.set 5 (.str tp)).set 4 (.int .i64 n)).set 9 (.lst false (ps.map propV))).set 6 (.lst false (pay.map byteV)))=true:=noRefL_set (noRef_lst _ _) _ (noRefL_set (noRef_lst _ _) _ (noRefL_set rfl _ (noRefL_set rfl _ hN)))
 have hP' : ((((P.set 5 (.str tp)).set 4 (.int .i64 n)).set 9 (.lst false (ps.map propV))).set 6 (.lst false (pay.map byteV))).length=26:=by simp [hP]
 generalize (((P.set 5 (.str tp)).set 4 (.int .i64 n)).set 9 (.lst false (ps.map propV))).set 6 (.lst false (pay.map byteV))=Q at *
 have hG:=fun σ site (hs : (σ : AHeap)[0]?=some (.var (P++[.lst false (l.map byteV)])))=>call_refT (O:=E) (byref:=BY) (f:=118) (rest:=[]) (by kernel_rfl) rfl (pl_ref P hP hN _ _) (noRefL_app hN' (by rfl)) rfl rfl hq hs site
 have a4:=fun L=>(pl_at P hP 0 (by omega) L).trans h0
 have b2:=pl_get Q hP'
 have m1:=q_mustT
 have z:=z0b
 rw [E_eq (by rfl) cf_packet_reader_body]
 simp -implicitDefEqProofs only [EVS0,EVS1,EVS4,EVS5,EVS6,EVL0,eq_self,exI,nsite,freeAt,execI,Opd.ev,tget,tins,tput,keepL,sitesOf,List.sum_cons,List.sum_nil,Nat.reduceAdd,Nat.reduceLT,Nat.reduceLeDiff,Nat.reduceEqDiff,Nat.reduceBEq,beq_self_eq_true,Bool.false_eq_true,ldA,stA,partA,faddrA,setAt,binA,arithA,resA,resAll,enterA,↓reduceIte,noRefL,cb_packet_reader_body,b_packet_reader_body,cr_packet_reader_body,oI,oN,faddrA,a4,b2,hG,m1,Int.reduceBEq,z]
 exact out_one rfl (noRefL_app hN' (by rfl))
theorem q_kbody3F (qos : Int) (h0 : P[0]?=some (.int .i64 3)) (h2 : P[2]?=some (.int .i64 qos)) (l : Bytes) (hl : l.length≤140737488355328) {c : Int} (h : pubK qos l=.error c) :
  ∃ cs,noRefL cs=true∧E 77 [.ref 0 0] [.var (P++[.lst false (l.map byteV)])]=some (.pan (codeI c),[.var cs]):=by
 obtain ⟨cs,hn,he⟩:=q_kpubF P hP hN qos h2 l hl h
 have hG:=fun σ site (hs : (σ : AHeap)[0]?=some (.var (P++[.lst false (l.map byteV)])))=>call_refP (O:=E) (byref:=BY) (f:=118) (view:=true) (rest:=[]) (by kernel_rfl) rfl (pl_ref P hP hN _ _) hn rfl he hs site
 have a4:=fun L=>(pl_at P hP 0 (by omega) L).trans h0
 refine ⟨cs,hn,?_⟩
 rw [E_eq (by rfl) cf_packet_reader_body]
 simp -implicitDefEqProofs only [EVS0,EVS1,EVS4,EVS5,EVL0,eq_self,exI,nsite,freeAt,execI,Opd.ev,tget,tins,tput,keepL,sitesOf,List.sum_cons,List.sum_nil,Nat.reduceAdd,Nat.reduceLT,Nat.reduceLeDiff,Nat.reduceEqDiff,Nat.reduceBEq,beq_self_eq_true,Bool.false_eq_true,ldA,stA,partA,faddrA,setAt,binA,arithA,enterA,↓reduceIte,cb_packet_reader_body,b_packet_reader_body,oI,oN,faddrA,a4,hG,Int.reduceBEq]
 exact out_one rfl hn
end
end Go.Proofs.YtmlkhhidifjjfaaDoor
namespace Go.Proofs.YtmlkhhidifjjfaaDoor
set_option maxHeartbeats 8000000
set_option maxRecDepth 10000
def restP (P : List AVal) (c : Int) (ps : Option (List PropD)) : List AVal:=(P.set 7 (.int .i64 c)).set 9 (optP ps)
theorem restP_ok {P : List AVal} (hP : P.length=26) (hN : noRefL P=true) (c : Int) (ps : Option (List PropD)) : (restP P c ps).length=26∧noRefL (restP P c ps)=true :=
 ⟨by simp [restP,hP],noRefL_set (by cases ps <;> rfl) 9 (noRefL_set rfl 7 hN)⟩
section
variable (P : List AVal) (hP : P.length=26) (hN : noRefL P=true)
include hP hN
theorem q_kbodyA (k : Int) (hk : k=4∨k=5∨k=6∨k=7) (h0 : P[0]?=some (.int .i64 k)) (h7 : P[7]?=some (.int .i64 0)) (h9 : P[9]?=some (.lst true [])) (hu : ∀ r : Bytes,r.length≤140737488355328→(readF k r).2.1≤r.length) (l : Bytes) (hl : l.length≤140737488355328) {n : Int} {r1 : Bytes} (hi : idK l=.ok (n,r1)) {c : Int} {ps : Option (List PropD)} {r : Bytes} (h : restK k r1=.ok ((c,ps),r)) :
  E 77 [.ref 0 0] (kvar P l)=some (if r.length=0 then .tup [] else .pan (codeI 129),kvar (restP (P.set 4 (.int .i64 n)) c ps) r):=by
 have hr1:=idK_len hi
 have hI:=fun σ site hs=>q_kidTC P hP hN l hl σ 0 site hs hi
 have hP4 : (P.set 4 (.int .i64 n)).length=26:=by simp [hP]
 have hN4 : noRefL (P.set 4 (.int .i64 n))=true:=noRefL_set rfl 4 hN
 have g0 : (P.set 4 (.int .i64 n))[0]?=some (.int .i64 k):=by rw [List.getElem?_set_ne (by omega)];exact h0
 have g7 : (P.set 4 (.int .i64 n))[7]?=some (.int .i64 0):=by rw [List.getElem?_set_ne (by omega)];exact h7
 have g9 : (P.set 4 (.int .i64 n))[9]?=some (.lst true []):=by rw [List.getElem?_set_ne (by omega)];exact h9
 generalize P.set 4 (.int .i64 n)=S at *
 have hG:=fun σ site hs=>q_krestTC S hP4 hN4 r1 (by omega) σ 0 site hs k g0 g7 g9 hu h
 obtain ⟨hQ,hQN⟩:=restP_ok hP4 hN4 c ps
 have a4:=fun L=>(pl_at P hP 0 (by omega) L).trans h0
 unfold kvar
 rw [show (S.set 7 (.int .i64 c)).set 9 (optP ps)=restP S c ps from rfl] at hG
 generalize restP S c ps=Q at *
 have b2:=pl_get Q hQ
 by_cases hr : r.length=0
 ·have m1:=q_mustT
  have z:=len_b (l:=r) (decide_eq_true hr)
  rw [if_pos hr]
  rcases hk with rfl | rfl | rfl | rfl
  all_goals
   rw [E_eq (by rfl) cf_packet_reader_body]
   simp -implicitDefEqProofs only [EVS0,EVS1,EVS4,EVS5,EVS6,EVL0,eq_self,exI,nsite,freeAt,execI,Opd.ev,tget,tins,tput,keepL,sitesOf,List.sum_cons,List.sum_nil,Nat.reduceAdd,Nat.reduceLT,Nat.reduceLeDiff,Nat.reduceEqDiff,Nat.reduceBEq,beq_self_eq_true,Bool.false_eq_true,ldA,stA,partA,faddrA,setAt,binA,arithA,resA,resAll,enterA,↓reduceIte,noRefL,cb_packet_reader_body,b_packet_reader_body,cr_packet_reader_body,oI,oN,faddrA,a4,b2,hI,hG,m1,Int.reduceBEq,z]
   exact out_one rfl (noRefL_app hQN (by rfl))
 ·have m1:=q_mustF
  have z:=len_b (l:=r) (decide_eq_false hr)
  rw [if_neg hr]
  rcases hk with rfl | rfl | rfl | rfl
  all_goals
   rw [E_eq (by rfl) cf_packet_reader_body]
   simp -implicitDefEqProofs only [EVS0,EVS1,EVS4,EVS5,EVL0,eq_self,exI,nsite,freeAt,execI,Opd.ev,tget,tins,tput,keepL,sitesOf,List.sum_cons,List.sum_nil,Nat.reduceAdd,Nat.reduceLT,Nat.reduceLeDiff,Nat.reduceEqDiff,Nat.reduceBEq,beq_self_eq_true,Bool.false_eq_true,ldA,stA,partA,faddrA,setAt,binA,arithA,enterA,↓reduceIte,cb_packet_reader_body,b_packet_reader_body,oI,oN,faddrA,a4,b2,hI,hG,m1,Int.reduceBEq,z]
   exact out_one rfl (noRefL_app hQN (by rfl))
end
end Go.Proofs.YtmlkhhidifjjfaaDoor
namespace Go.Proofs.YtmlkhhidifjjfaaDoor
set_option maxHeartbeats 8000000
set_option maxRecDepth 10000
def flagsF (k : Int) : Int:=if k=6∨k=8∨k=10 then 2 else 0
theorem q_flags (k : Int) : E 79 [.int .i64 k] []=some (.int .u8 (flagsF k),[]):=by
 unfold flagsF
 by_cases h6 : k=6
 ·subst h6;rw [E_eq (by rfl) cf_packet_flags];simp -implicitDefEqProofs only [EVS0,EVS1,EVS5,EVL0,eq_self,exI,nsite,freeAt,execI,Opd.ev,tget,tins,tput,keepL,sitesOf,List.sum_cons,List.sum_nil,Nat.reduceLT,Nat.reduceEqDiff,beq_self_eq_true,binA,arithA,reduceCtorEq,resA,resAll,resOne,enterA,↓reduceIte,cb_packet_flags,b_packet_flags,cr_packet_flags,oI]
 by_cases h8 : k=8
 ·subst h8;rw [E_eq (by rfl) cf_packet_flags];simp -implicitDefEqProofs only [EVS0,EVS1,EVS5,EVL0,eq_self,exI,nsite,freeAt,execI,Opd.ev,tget,tins,tput,keepL,sitesOf,List.sum_cons,List.sum_nil,Nat.reduceLT,Nat.reduceEqDiff,beq_self_eq_true,Bool.false_eq_true,binA,arithA,reduceCtorEq,resA,resAll,resOne,enterA,↓reduceIte,cb_packet_flags,b_packet_flags,cr_packet_flags,oI,Int.reduceBEq]
 by_cases h10 : k=10
 ·subst h10;rw [E_eq (by rfl) cf_packet_flags];simp -implicitDefEqProofs only [EVS0,EVS1,EVS5,EVL0,eq_self,exI,nsite,freeAt,execI,Opd.ev,tget,tins,tput,keepL,sitesOf,List.sum_cons,List.sum_nil,Nat.reduceLT,Nat.reduceEqDiff,beq_self_eq_true,Bool.false_eq_true,binA,arithA,reduceCtorEq,resA,resAll,resOne,enterA,↓reduceIte,cb_packet_flags,b_packet_flags,cr_packet_flags,oI,Int.reduceBEq]
 have b6 : (k == 6)=false:=by simpa using h6
 have b8 : (k == 8)=false:=by simpa using h8
 have b10 : (k == 10)=false:=by simpa using h10
 rw [if_neg (by omega),E_eq (by rfl) cf_packet_flags]
 simp -implicitDefEqProofs only [EVS0,EVS1,EVS5,EVL0,eq_self,exI,nsite,freeAt,execI,Opd.ev,tget,tins,tput,keepL,sitesOf,List.sum_cons,List.sum_nil,Nat.reduceLT,Nat.reduceEqDiff,beq_self_eq_true,Bool.false_eq_true,binA,arithA,reduceCtorEq,resA,resAll,resOne,enterA,↓reduceIte,cb_packet_flags,b_packet_flags,cr_packet_flags,oI,b6,b8,b10]
theorem q_flagsC (k : Int) (σ : AHeap) (site own : Nat) : callG E BY σ site 79 own true [.int .i64 k]=some (.int .u8 (flagsF k),σ,{}) :=
 call_flat (q_flags k) (by kernel_rfl) (by simp -implicitDefEqProofs only [EVS3,EVL0,eq_self,eq_self]) (by simp -implicitDefEqProofs only [EVS4,EVL0,eq_self,eq_self]) rfl (fun _=>rfl) _ _ _ _
def tyI (b : Int) : Int:=IntKind.i64.wrap (b.fdiv (2 ^ min (Int.toNat 4) IntKind.u8.bits))
def andU (a b : Int) : Int:=IntKind.u8.wrap (BitVec.ofInt IntKind.u8.bits a &&& BitVec.ofInt IntKind.u8.bits b).toNat
def qoI (b : Int) : Int:=IntKind.i64.wrap (andU (b.fdiv (2 ^ min (Int.toNat 1) IntKind.u8.bits)) 3)
def pub3 (P : List AVal) (b : Int) : List AVal:=(((P.set 0 (.int .i64 3)).set 1 (.bool (andU b 8 != 0))).set 2 (.int .i64 (qoI b))).set 3 (.bool (andU b 1 != 0))
section
variable (P : List AVal) (hP : P.length=26) (hN : noRefL P=true)
include hP hN
theorem pl_put0 (L v : AVal) : [v]++List.drop 1 (P++[L])=P.set 0 v++[L]:=pl_put P hP 0 1 (by omega) rfl L v
theorem q_firstT (b t : Int) (l : Bytes) (h : tyI b=t) (h0 : ¬t=0) (h3 : ¬t=3) (hf : andU b 15=flagsF t) : E 76 [.ref 0 0,.int .u8 b] (kvar P l)=some (.tup [],kvar (P.set 0 (.int .i64 t)) l):=by
 have a1:=pl_len P hP
 have a3:=pl_put0 P hP hN
 have a4:=pl_same P hP 0 (by omega)
 have m0:=q_mustT
 have e0 : (t != 0)=true:=by simpa using h0
 have e3 : (t != 3)=true:=by simpa using h3
 have ef : (andU b 15 == flagsF t)=true:=by simpa using hf
 have hC:=q_flagsC t
 unfold tyI at h
 unfold andU at ef
 unfold kvar
 rw [E_eq (by rfl) cf_packet_reader_first]
 simp -implicitDefEqProofs only [EVS0,EVS1,EVS4,EVS5,EVS6,EVL0,eq_self,exI,nsite,freeAt,execI,Opd.ev,tget,tins,tput,keepL,sitesOf,List.sum_cons,List.sum_nil,Nat.reduceLT,Nat.reduceLeDiff,Nat.reduceEqDiff,beq_self_eq_true,ldA,stA,partA,faddrA,setAt,binA,arithA,shiftA,reduceCtorEq,resA,resAll,enterA,↓reduceIte,noRefL,cb_packet_reader_first,b_packet_reader_first,cr_packet_reader_first,oI,oN,faddrA,a1,a3,a4,m0,h,e0,e3,ef,hC,Int.reduceLT]
 exact out_one rfl (noRefL_app (noRefL_set rfl _ hN) (by rfl))
theorem q_first3 (b : Int) (l : Bytes) (h : tyI b=3) : E 76 [.ref 0 0,.int .u8 b] (kvar P l)=some (if qoI b < 3 then (if qoI b > 0∨(andU b 8 != 0)=false then .tup [] else .pan (codeI 130)) else .pan (codeI 129),kvar (pub3 P b) l):=by
 have hQ : (pub3 P b).length=26:=by simp [pub3,hP]
 have hQN : noRefL (pub3 P b)=true:=noRefL_set rfl _ (noRefL_set rfl _ (noRefL_set rfl _ (noRefL_set rfl _ hN)))
 have g1 : (pub3 P b)[1]?=some (.bool (andU b 8 != 0)):=by simp [pub3,hP]
 have g2 : (pub3 P b)[2]?=some (.int .i64 (qoI b)):=by simp [pub3,hP]
 have a1:=pl_len P hP
 have a3:=fun L=>pl_put0 P hP hN L (.int .i64 3)
 have a4:=pl_same P hP 0 (by omega)
 have hP0 : (P.set 0 (.int .i64 3)).length=26:=by simp [hP]
 have b1:=pl_len _ hP0
 have b3:=fun L=>pl_put _ hP0 1 2 (by omega) rfl L (.bool (andU b 8 != 0))
 have hP1 : ((P.set 0 (.int .i64 3)).set 1 (.bool (andU b 8 != 0))).length=26:=by simp [hP]
 have c1:=pl_len _ hP1
 have c3:=fun L=>pl_put _ hP1 2 3 (by omega) rfl L (.int .i64 (qoI b))
 have hP2 : (((P.set 0 (.int .i64 3)).set 1 (.bool (andU b 8 != 0))).set 2 (.int .i64 (qoI b))).length=26:=by simp [hP]
 have d1:=pl_len _ hP2
 have d3:=fun L=>pl_put _ hP2 3 4 (by omega) rfl L (.bool (andU b 1 != 0))
 rw [show (((P.set 0 (.int .i64 3)).set 1 (.bool (andU b 8 != 0))).set 2 (.int .i64 (qoI b))).set 3 (.bool (andU b 1 != 0))=pub3 P b from rfl] at d3
 generalize pub3 P b=Q at *
 have k1:=fun L=>(pl_at Q hQ 1 (by omega) L).trans g1
 have k2:=fun L=>(pl_at Q hQ 2 (by omega) L).trans g2
 have m0:=q_mustT
 have m1:=q_mustF
 have e0 : ((3 : Int) != 0)=true:=by decide
 have e3 : ((3 : Int) != 3)=false:=by decide
 unfold tyI at h
 unfold kvar
 by_cases hq : qoI b < 3
 ·rw [if_pos hq]
  by_cases hq0 : qoI b > 0
  ·rw [if_pos (Or.inl hq0)]
   unfold qoI andU at *
   rw [E_eq (by rfl) cf_packet_reader_first]
   simp -implicitDefEqProofs only [EVS0,EVS1,EVS4,EVS5,EVS6,EVL0,eq_self,exI,nsite,freeAt,execI,Opd.ev,tget,tins,tput,keepL,sitesOf,List.sum_cons,List.sum_nil,Nat.reduceAdd,Nat.reduceLT,Nat.reduceLeDiff,Nat.reduceEqDiff,beq_self_eq_true,Bool.false_eq_true,ldA,stA,partA,faddrA,setAt,binA,arithA,shiftA,gSpan,gSkip,ne_eq,Option.some.injEq,reduceCtorEq,decide_true,decide_false,resA,resAll,enterA,↓reduceIte,noRefL,cb_packet_reader_first,b_packet_reader_first,cr_packet_reader_first,oI,oN,faddrA,a1,a3,a4,b1,b3,c1,c3,d1,d3,k2,m0,h,e0,e3,hq,hq0,Int.reduceLT]
   exact out_one rfl (noRefL_app hQN (by rfl))
  ·cases hd : (andU b 8 != 0)
   ·rw [if_pos (Or.inr rfl)]
    rw [hd] at b3 c1 c3 d1 d3 k1
    unfold qoI andU at *
    rw [E_eq (by rfl) cf_packet_reader_first]
    simp -implicitDefEqProofs only [EVS0,EVS1,EVS4,EVS5,EVS6,EVL0,eq_self,exI,nsite,freeAt,execI,Opd.ev,tget,tins,tput,keepL,sitesOf,List.sum_cons,List.sum_nil,Nat.reduceAdd,Nat.reduceLT,Nat.reduceLeDiff,Nat.reduceEqDiff,beq_self_eq_true,Bool.false_eq_true,ldA,stA,partA,faddrA,setAt,binA,arithA,shiftA,unA,gSpan,unG,ne_eq,Option.some.injEq,reduceCtorEq,decide_true,decide_false,resA,resAll,enterA,↓reduceIte,noRefL,cb_packet_reader_first,b_packet_reader_first,cr_packet_reader_first,oI,oN,faddrA,a1,a3,a4,b1,b3,c1,c3,d1,d3,k1,k2,m0,h,e0,e3,hq,hq0,hd,Int.reduceLT]
    exact out_one rfl (noRefL_app hQN (by rfl))
   ·rw [if_neg (by simp [hq0])]
    rw [hd] at b3 c1 c3 d1 d3 k1
    unfold qoI andU at *
    rw [E_eq (by rfl) cf_packet_reader_first]
    simp -implicitDefEqProofs only [EVS0,EVS1,EVS4,EVS5,EVL0,eq_self,exI,nsite,freeAt,execI,Opd.ev,tget,tins,tput,keepL,sitesOf,List.sum_cons,List.sum_nil,Nat.reduceAdd,Nat.reduceLT,Nat.reduceLeDiff,Nat.reduceEqDiff,beq_self_eq_true,Bool.false_eq_true,ldA,stA,partA,faddrA,setAt,binA,arithA,shiftA,unA,gSpan,unG,ne_eq,Option.some.injEq,reduceCtorEq,decide_true,decide_false,enterA,↓reduceIte,cb_packet_reader_first,b_packet_reader_first,oI,oN,faddrA,a1,a3,a4,b1,b3,c1,c3,d1,d3,k1,k2,m0,m1,h,e0,e3,hq,hq0,hd,Int.reduceLT]
    exact out_one rfl (noRefL_app hQN (by rfl))
 ·rw [if_neg hq]
  unfold qoI andU at *
  rw [E_eq (by rfl) cf_packet_reader_first]
  simp -implicitDefEqProofs only [EVS0,EVS1,EVS4,EVS5,EVL0,eq_self,exI,nsite,freeAt,execI,Opd.ev,tget,tins,tput,keepL,sitesOf,List.sum_cons,List.sum_nil,Nat.reduceAdd,Nat.reduceLT,Nat.reduceLeDiff,Nat.reduceEqDiff,beq_self_eq_true,Bool.false_eq_true,ldA,stA,partA,faddrA,setAt,binA,arithA,shiftA,reduceCtorEq,decide_false,enterA,↓reduceIte,cb_packet_reader_first,b_packet_reader_first,oI,oN,faddrA,a1,a3,a4,b1,b3,c1,c3,d1,d3,k2,m0,m1,h,e0,e3,hq,Int.reduceLT]
  exact out_one rfl (noRefL_app hQN (by rfl))
end
end Go.Proofs.YtmlkhhidifjjfaaDoor
namespace Go.Proofs.YtmlkhhidifjjfaaDoor
set_option maxHeartbeats 8000000
set_option maxRecDepth 10000
section
variable {σ : AHeap} {cs xs : List AVal} {g w : Nat}
theorem reach_two {t r : Nat} (hs : σ[t]?=some (.var cs)) (hr : σ[r]?=some (.row g w xs)) (htr : t≠r) (hrf : refsL cs=[r]) : reach σ 1000 [t] []=[t,r]:=by
 have h1 : σ.getD t .free=.var cs:=by simp [List.getD_eq_getElem?_getD,hs]
 have h2 : σ.getD r .free=.row g w xs:=by simp [List.getD_eq_getElem?_getD,hr]
 have e1 : ([] : List Nat).contains t=false:=rfl
 have e2 : ([t] : List Nat).contains r=false:=by simp;exact fun e=>htr e.symm
 rw [show (1000 : Nat)=997+1+1+1 from rfl,reach,e1]
 simp only [Bool.false_eq_true,if_false,h1,refsB,hrf,List.append_nil,List.nil_append]
 rw [reach,e2]
 simp only [Bool.false_eq_true,if_false,h2,refsB,List.nil_append]
 rfl
theorem gc_two {r : AVal} {σ : AHeap} (hr : noRef r=true) (hrf : refsL cs=[1]) (hg : g≤1) (hren : ∀ ρ : Rho,ρ 1 g=some (1,g)→renL ρ cs=cs) : gcA 2 [r] (.var cs::.row g w xs::σ)=([r],[.var cs,.row g w xs]):=by
 have e1:=(noRef_spec (rhoOf (.var cs::.row g w xs::σ) 2 [0,1]) r hr)
 have h1 : gcIds 2 [r] (.var cs::.row g w xs::σ)=[0,1]:=by
  have : refsL [r]=[]:=by simp only [refsL,e1.2,List.append_nil]
  have hR : List.range 2=[0,1]:=rfl
  simp only [gcIds,this,List.nil_append,hR,List.flatMap_cons,List.flatMap_nil,List.append_nil,List.getD_cons_zero,List.getD_cons_succ,refsB,hrf]
  rfl
 have hng : (if g=0 then 0 else 1)=g:=by split <;> omega
 have hρ : rhoOf (.var cs::.row g w xs::σ) 2 [0,1] 1 g=some (1,g):=by
  simp only [rhoOf,idxA,genB,newGen,List.getElem?_cons_succ,List.getElem?_cons_zero]
  simp [hng]
 simp only [gcA,h1,renL,e1.1,heapOf,List.getD_cons_zero,List.getD_cons_succ,newGen,genB,renB,hren _ hρ]
 simp [hng]
end
theorem okBack_two {σ : AHeap} {t r g w w2 g2 : Nat} {cs xs cs2 xs2 : List AVal} (hs : σ[t]?=some (.var cs)) (hr : σ[r]?=some (.row g w xs)) (hg2 : g2≤1) : okBack σ [t,r] [.var cs2,.row g2 w2 xs2] 0=true:=by
 have h1 : σ.getD t .free=.var cs:=by simp [List.getD_eq_getElem?_getD,hs]
 have h2 : σ.getD r .free=.row g w xs:=by simp [List.getD_eq_getElem?_getD,hr]
 simp [okBack,okB,sameKind,genB,hs,hr,hg2]
theorem call_two {O : Oracle} {byref : Nat→Bool} {σ : AHeap} {t r f own g w g2 w2 site : Nat} {view : Bool} {rest : List AVal} {cs cs1 cs2 cs3 xs xs2 : List AVal} {q q' : AVal} (hs : σ[t]?=some (.var cs)) (hr : σ[r]?=some (.row g w xs)) (htr : t≠r) (hrf : refsL cs=[r]) (hb : byref f=false) (hp : rest.all plainV=true)
  (hren : ∀ ρ : Rho,ρ r g=some (1,0)→renL ρ cs=cs1) (hg2 : g2≤1) (hff : freeFrom σ site own=true) (hn : noRef q'=true)
  (h : O f (.ref 0 0::rest.map normV) [.var cs1,.row 0 w xs]=some (q,[.var cs2,.row g2 w2 xs2])) (hv : askO view 2 (some (q,[.var cs2,.row g2 w2 xs2]))=some (q',[.var cs2,.row g2 w2 xs2]))
  (hback : ∀ ρ : Rho,(∀ j,ρ 1 j=some (r,g+j))→renL ρ cs2=cs3) :
  callG O byref σ site f own view (.ref t 0::rest)=some (q',(σ.set t (.var cs3)).set r (.row (g+g2) w2 xs2),{ any:=true,upd:=[(t,cs3)] }):=by
 have htl : t < σ.length:=by
  rcases Nat.lt_or_ge t σ.length with h | h
  ·exact h
  ·rw [List.getElem?_eq_none h] at hs;cases hs
 have h1 : σ.getD t .free=.var cs:=by simp [List.getD_eq_getElem?_getD,hs]
 have h2 : σ.getD r .free=.row g w xs:=by simp [List.getD_eq_getElem?_getD,hr]
 have hf0 : freezeA σ []=σ:=rfl
 have hsh : showAs σ (.ref t 0::rest)=some (.ref t 0::rest.map normV,[]):=by
  rw [showAs,show showA σ (.ref t 0)=some (.ref t 0,[]) from rfl,plainVs_show hp]
  rfl
 have href : refsL (.ref t 0::rest.map normV)=[t]:=by
  rw [refsL,normVs_refs hp];rfl
 have hup : updOf ((σ.set t (.var cs3)).set r (.row (g+g2) w2 xs2)) [t,r]=[(t,cs3)]:=by
  have e1 : ((σ.set t (.var cs3)).set r (.row (g+g2) w2 xs2))[t]?=some (.var cs3):=by
   rw [List.getElem?_set_ne (fun e=>htr e.symm),List.getElem?_set_self htl]
  have e2 : ((σ.set t (.var cs3)).set r (.row (g+g2) w2 xs2))[r]?=some (.row (g+g2) w2 xs2):=by
   rw [List.getElem?_set_self (by
    rcases Nat.lt_or_ge r σ.length with h | h
    ·simpa using h
    ·rw [List.getElem?_eq_none h] at hr;cases hr)]
  simp only [updOf,e1,e2]
 unfold callG showIf
 rw [hb]
 simp only [Bool.false_eq_true,if_false,hsh,hf0,href,reach_two hs hr htr hrf]
 unfold callI
 have hall : ([t,r].all fun t=>okB (σ.getD t .free))=true:=by simp only [List.all_cons,List.all_nil,h1,h2,okB,Bool.and_true]
 rw [if_pos hall]
 have hρt : rhoOf σ 0 [t,r] t 0=some (0,0):=by simp [rhoOf,idxA,hs,genB,newGen]
 have hρr : rhoOf σ 0 [t,r] r g=some (1,0):=by simp [rhoOf,idxA,hr,genB,newGen,htr]
 have hargs : renL (rhoOf σ 0 [t,r]) (.ref t 0::rest.map normV)=.ref 0 0::rest.map normV:=by
  rw [renL,normVs_ren hp]
  simp only [renV,hρt]
 have hheap : heapOf σ 0 [t,r] (rhoOf σ 0 [t,r]) [t,r] 0=[.var cs1,.row 0 w xs]:=by
  simp only [heapOf,h1,h2,newGen,genB,renB,hren _ hρr]
  simp
 rw [hargs,hheap,h]
 rw [show [t,r].length=2 from rfl,hv]
 have hk:=okBack_two (cs2:=cs2) (w2:=w2) (xs2:=xs2) hs hr hg2
 have hb3 : renL (rhoBack σ [t,r] site) cs2=cs3:=hback _ (fun j=>by simp only [rhoBack,List.getElem?_cons_succ,List.getElem?_cons_zero,h2,genB])
 simp only [backG,List.isEmpty_cons,Bool.false_eq_true,if_false,List.length_cons,List.length_nil,Nat.zero_add,Nat.reduceAdd,Nat.le_add_right,Nat.le_refl,decide_true,hk,hff,Bool.and_self,if_true,layBack,tgtBack,List.getD_cons_zero,List.getD_cons_succ,genBack,List.getElem?_cons_zero,List.getElem?_cons_succ,h2,genB,renB,(noRef_spec _ _ hn).1,hb3,hup]
end Go.Proofs.YtmlkhhidifjjfaaDoor
namespace Go.Proofs.YtmlkhhidifjjfaaDoor
set_option maxHeartbeats 8000000
set_option maxRecDepth 10000
section
variable (P : List AVal) (hP : P.length=26) (hF : refsL P=[1]) (hS : ∀ ρ : Rho,ρ 1 0=some (1,0)→renL ρ P=P) (w : Nat) (xs : List AVal)
include hP hF hS
end
theorem ask_two {q : AVal} {cs xs : List AVal} {g w : Nat} (view : Bool) (hn : noRef q=true) (hv : viewR [.var cs,.row g w xs] q=some (q,[])) (hrf : refsL cs=[1]) (hg : g≤1) (hren : ∀ ρ : Rho,ρ 1 g=some (1,g)→renL ρ cs=cs) : askO view 2 (some (q,[.var cs,.row g w xs]))=some (q,[.var cs,.row g w xs]):=by
 unfold askO
 split
 ·have hnp : ∀ x,q≠.pan x:=by rintro x rfl;simp [viewR,viewA,viewA1] at hv
  rw [show resV 2 (some (q,[.var cs,.row g w xs]))=(match viewR [.var cs,.row g w xs] q with
   | some (r',ts)=>match gcA 2 [r'] (freezeA [.var cs,.row g w xs] ts) with
    | ([r''],σ')=>some (r'',σ')
    | _=>none
   | none=>none) from by cases q <;> first | rfl | exact absurd rfl (hnp _)]
  rw [hv]
  simp only [show freezeA [ABlk.var cs,.row g w xs] []=[.var cs,.row g w xs] from rfl,gc_two hn hrf hg hren]
 ·rfl
def rowP (Q : List AVal) (k r g n : Nat) : List AVal:=Q.set k (.sl r g 0 n)
section
variable (Q : List AVal) (hQ : Q.length=26) (hN : noRefL Q=true) (k : Nat) (hk : k < 26) (n : Nat)
include hQ hN hk
variable (w : Nat) (xs : List AVal) (l : Bytes) (hl : l.length≤140737488355328) (σ : AHeap) (t r g site : Nat) (htr : t≠r) (hs : σ[t]?=some (.var (rowP Q k r g n++[.lst false (l.map byteV)]))) (hr : σ[r]?=some (.row g w xs))
include hl htr hs hr
end
section
variable (Q : List AVal) (hQ : Q.length=26) (hN : noRefL Q=true) (k : Nat) (hk : k < 26) (n : Nat) (w : Nat) (xs : List AVal) (l : Bytes) (hl : l.length≤140737488355328) (kd : Int) (h0 : (rowP Q k 1 0 n)[0]?=some (.int .i64 kd))
include hQ hN hk hl h0
variable (σ : AHeap) (t r g site : Nat) (htr : t≠r) (hs : σ[t]?=some (.var (rowP Q k r g n++[.lst false (l.map byteV)]))) (hr : σ[r]?=some (.row g w xs))
include htr hs hr
end
end Go.Proofs.YtmlkhhidifjjfaaDoor
namespace Go.Proofs.YtmlkhhidifjjfaaDoor
set_option maxHeartbeats 2000000
set_option maxRecDepth 10000
theorem q_alike (a b : PropD) : E 92 [propV a,propV b] []=some (.bool (a.id == b.id && a.num == b.num && a.text == b.text && a.pair == b.pair && a.data == b.data),[]):=by
 rw [E_eq (by rfl) cf_prop_Same_1]
 simp -implicitDefEqProofs only [EVS0,EVS1,EVS4,EVS5,EVS7,EVL0,ite_list,ite_tt,eq_self,exI,nsite,freeAt,execI,Opd.ev,tget,tins,tput,keepL,sitesOf,List.sum_cons,List.sum_nil,Nat.reduceAdd,Nat.reduceLT,Nat.reduceEqDiff,Nat.reduceBEq,beq_self_eq_true,ldA,partA,faddrA,binA,arithA,strA,gSpan,gSkip,unG,ne_eq,Option.some.injEq,reduceCtorEq,decide_false,elemsA,resA,resAll,resOne,enterA,ite_self,↓reduceIte,cb_prop_Same_1,b_prop_Same_1,cr_prop_Same_1,oI,bytesV,propV,propC]
theorem alike_beq (a b : PropD) : (a.id == b.id && a.num == b.num && a.text == b.text && a.pair == b.pair && a.data == b.data)=(a == b):=by
 obtain ⟨i,n,t,p,d⟩:=a
 obtain ⟨i',n',t',p',d'⟩:=b
 rw [Bool.eq_iff_iff]
 simp [and_assoc]
theorem plain_prop (a : PropD) : plainV (propV a)=true:=by
 simp -implicitDefEqProofs only [eq_self,Bool.and_self,List.all_cons,List.all_nil,s_plain1_int,s_plain1_str,s_plain1_lst,s_plainV_agg,propV,propC,bytesV]
theorem norm_prop (a : PropD) : normV (propV a)=propV a:=by
 simp -implicitDefEqProofs only [eq_self,List.map_cons,List.map_nil,s_norm1_int,s_norm1_str,s_norm1_lst,s_normV_agg,propV,propC,bytesV]
theorem q_alikeC (σ : AHeap) (site own : Nat) (view : Bool) (i n : Int) (t p d : Bytes) (i' n' : Int) (t' p' d' : Bytes) : callG E BY σ site 92 own view [.agg [.int .i64 i,.int .i64 n,.str t,.str p,.lst false (d.map byteV)],.agg [.int .i64 i',.int .i64 n',.str t',.str p',.lst false (d'.map byteV)]]=some (.bool (i == i' && n == n' && t == t' && p == p' && d == d'),σ,{}) :=
 call_flat (q_alike ⟨i,n,t,p,d⟩ ⟨i',n',t',p',d'⟩) (by kernel_rfl) (by simp only [List.all_cons,plain_prop];rfl) (by simp only [List.map_cons,norm_prop];rfl) rfl (fun _=>rfl) _ _ _ _
theorem q_eql (a b : List PropD) (h : a.length=b.length) (hl : a.length≤9223372036854775807) : ∀ (r s : List PropD) (i : Nat),a.drop i=r→b.drop i=s→K_slices_EqualFunc_api_Prop_api_Prop_api_Prop_api_Prop_l4 0 [(17,.int .i64 i),(16,.int .i64 a.length),(15,propsV a),(2,.fn 92 []),(1,propsV b)] []=some (.bool (r == s),[])
 | [],s,i,ha,hb=>by
  have hs : s=[]:=by
   subst hb;rw [List.drop_eq_nil_iff] at ha ⊢;omega
  subst hs
  have h1:=drop_nil ha
  unfold K_slices_EqualFunc_api_Prop_api_Prop_api_Prop_api_Prop_l4
  rw [evL_eq]
  simp -implicitDefEqProofs only [EVS0,EVS1,EVS5,EVL0,eq_self,exI,nsite,freeAt,execI,Opd.ev,tget,tins,tput,keepL,sitesOf,List.sum_cons,List.sum_nil,Nat.reduceLT,Nat.reduceEqDiff,beq_self_eq_true,Bool.false_eq_true,binA,arithA,decide_false,resA,resAll,resOne,↓reduceIte,cr_slices_EqualFunc_api_Prop_api_Prop_api_Prop_api_Prop,x_slices_EqualFunc_api_Prop_api_Prop_api_Prop_api_Prop_k0,d_slices_EqualFunc_api_Prop_api_Prop_api_Prop_api_Prop_k0,x_slices_EqualFunc_api_Prop_api_Prop_api_Prop_api_Prop_l4,d_slices_EqualFunc_api_Prop_api_Prop_api_Prop_api_Prop_l4,oI,oN,propsV,h1]
 | x::r,[],i,ha,hb=>by
  have:=(drop_at ha).2.2;rw [List.drop_eq_nil_iff] at hb;omega
 | x::r,y::s,i,ha,hb=>by
  have ih:=q_eql a b h hl r s (i+1) (drop_at ha).2.1 (drop_at hb).2.1
  have h1 : (i : Int) < a.length:=by have:=(drop_at ha).2.2;omega
  have e1:=iad (drop_at ha).1 propV (k:=5) rfl
  have e2:=iad (drop_at hb).1 propV (k:=5) rfl
  have e3:=wrap_succ h1 hl
  unfold K_slices_EqualFunc_api_Prop_api_Prop_api_Prop_api_Prop_l4 at ih ⊢
  rw [evL_eq]
  simp -implicitDefEqProofs only [EVS0,EVS1,EVS4,EVS5,EVS7,EVL0,eq_self,exI,nsite,freeAt,execI,Opd.ev,tget,tins,tput,keepL,sitesOf,List.sum_cons,List.sum_nil,Nat.reduceAdd,Nat.reduceLT,Nat.reduceLeDiff,Nat.reduceEqDiff,Nat.reduceBEq,beq_self_eq_true,ldA,stA,partA,setAt,binA,arithA,unA,decide_true,resA,resAll,resOne,↓reduceIte,gcT,gcA,gcIds,reach,heapOf,refsB,cr_slices_EqualFunc_api_Prop_api_Prop_api_Prop_api_Prop,x_slices_EqualFunc_api_Prop_api_Prop_api_Prop_api_Prop_l4,d_slices_EqualFunc_api_Prop_api_Prop_api_Prop_api_Prop_l4,oI,oN,bytesV,propsV,propV,propC,h1,e1,e2,e3,q_alikeC]
  simp only [propsV] at ih
  rw [ih,alike_beq]
  by_cases hx : x=y <;> simp [hx]
theorem q_eqf (a b : List PropD) (hl : a.length≤9223372036854775807) : E 91 [propsV a,propsV b,.fn 92 []] []=some (.bool (a == b),[]):=by
 rw [E_eq (by rfl) cf_slices_EqualFunc_api_Prop_api_Prop_api_Prop_api_Prop]
 by_cases h : a.length=b.length
 ·have:=q_eql a b h hl a b 0 rfl rfl
  unfold K_slices_EqualFunc_api_Prop_api_Prop_api_Prop_api_Prop_l4 at this
  simp only [propsV] at this
  have e:=len_eq h
  simp -implicitDefEqProofs only [EVS0,EVS1,EVS5,EVS7,EVL0,eq_self,exI,nsite,freeAt,execI,Opd.ev,tget,tins,tput,keepL,sitesOf,List.sum_cons,List.sum_nil,Nat.reduceAdd,Nat.reduceLT,Nat.reduceEqDiff,beq_self_eq_true,Bool.false_eq_true,binA,arithA,reduceCtorEq,enterA,↓reduceIte,gcT,gcA,gcIds,reach,heapOf,refsB,cb_slices_EqualFunc_api_Prop_api_Prop_api_Prop_api_Prop,b_slices_EqualFunc_api_Prop_api_Prop_api_Prop_api_Prop,oI,propsV,e]
  exact this
 ·have e:=len_ne h
  simp -implicitDefEqProofs only [EVS0,EVS1,EVS5,EVL0,eq_self,exI,nsite,freeAt,execI,Opd.ev,tget,tins,tput,keepL,sitesOf,List.sum_cons,List.sum_nil,Nat.reduceAdd,Nat.reduceLT,Nat.reduceEqDiff,beq_self_eq_true,binA,arithA,reduceCtorEq,resA,resAll,resOne,enterA,↓reduceIte,cb_slices_EqualFunc_api_Prop_api_Prop_api_Prop_api_Prop,b_slices_EqualFunc_api_Prop_api_Prop_api_Prop_api_Prop,cr_slices_EqualFunc_api_Prop_api_Prop_api_Prop_api_Prop,oI,propsV,e,beq_len h]
theorem q_eqfC (σ : AHeap) (site own : Nat) (view : Bool) (a b : List PropD) (hl : a.length≤9223372036854775807) : callG E BY σ site 91 own view [.lst false (a.map propV),.lst false (b.map propV),.fn 92 []]=some (.bool (a == b),σ,{}) :=
 call_flat (q_eqf a b hl) (by kernel_rfl) (by simp -implicitDefEqProofs only [EVS3,EVS5,EVL0,eq_self,propsV]) (by simp -implicitDefEqProofs only [EVS4,EVL0,eq_self,propsV]) rfl (fun _=>rfl) _ _ _ _
theorem q_psame (a b : List PropD) (hl : a.length≤9223372036854775807) : E 43 [propsV a,propsV b] []=some (.bool (a == b),[]):=by
 rw [E_eq (by rfl) cf_prop_Same]
 simp -implicitDefEqProofs only [EVS0,EVS1,EVS5,EVL0,eq_self,exI,nsite,freeAt,execI,Opd.ev,tget,tins,tput,keepL,sitesOf,List.sum_cons,List.sum_nil,Nat.reduceLT,Nat.reduceEqDiff,beq_self_eq_true,reduceCtorEq,resA,resAll,resOne,enterA,↓reduceIte,cb_prop_Same,b_prop_Same,cr_prop_Same,oI,propsV,q_eqfC,hl]
theorem q_psameC (σ : AHeap) (site own : Nat) (view : Bool) (a b : List PropD) (hl : a.length≤9223372036854775807) : callG E BY σ site 43 own view [.lst false (a.map propV),.lst false (b.map propV)]=some (.bool (a == b),σ,{}) :=
 call_flat (q_psame a b hl) (by kernel_rfl) (by simp -implicitDefEqProofs only [EVS3,EVL0,eq_self,propsV]) (by simp -implicitDefEqProofs only [EVS4,EVL0,eq_self,propsV]) rfl (fun _=>rfl) _ _ _ _
end Go.Proofs.YtmlkhhidifjjfaaDoor
namespace Go.Proofs.YtmlkhhidifjjfaaDoor
set_option maxHeartbeats 8000000
set_option maxRecDepth 10000
theorem take_bytes (b : Bytes) : List.take b.length (b.map byteV)=b.map byteV:=List.take_of_length_le (by simp)
def u64N (x : Int) : Nat:=(x % 18446744073709551616).toNat
theorem wrap_u64N (x : Int) : IntKind.u64.wrap x=((u64N x : Nat) : Int):=by rw [IntKind.wrap_u64,u64N];omega
def laidK (k : Int) (p : PropD) : Bytes×Bytes :=
 if k=1 then (beB (u64N p.num) 1,[]) else if k=2 then (beB (u64N p.num) 2,[]) else if k=3 then (beB (u64N p.num) 4,[])
 else if k=4 then ((varF p.num).1,[]) else if k=5 then ((textF p.text).1,[]) else if k=6 then ((dataF p.data).1,[])
 else if k=7 then ((textF p.text).1,(textF p.pair).1) else ([],[])
def laidF (p : PropD) : Bytes:=(varF p.id).1++((laidK (kindI p.id) p).1++(laidK (kindI p.id) p).2)
theorem varL_len : ∀ k n : Nat,(varL k n).length≤k+1
 | 0,n=>by simp [varL]
 | k+1,n=>by
  unfold varL
  split
  ·simp
  ·have:=varL_len k (n / 128)
   simp only [List.length_cons];omega
theorem varF_len (n : Int) : (varF n).1.length≤4:=by
 unfold varF
 split
 ·simp
 ·exact varL_len 3 _
theorem dataF_len (b : Bytes) : (dataF b).1.length≤65537:=by
 unfold dataF
 split
 ·simp
 ·simp only [List.length_append,beB_len];omega
theorem textF_len (b : Bytes) : (textF b).1.length≤65537:=by
 unfold textF
 split
 ·exact dataF_len b
 ·simp
theorem laidK_len (k : Int) (p : PropD) : (laidK k p).1.length≤65537∧(laidK k p).2.length≤65537:=by
 have h1:=varF_len p.num
 have h2:=textF_len p.text
 have h3:=textF_len p.pair
 have h4:=dataF_len p.data
 unfold laidK
 repeat' split
 all_goals simp only [beB_len,List.length_nil]
 all_goals omega
theorem laidF_len (p : PropD) : (laidF p).length≤200000:=by
 have h1:=varF_len p.id
 have h2:=laidK_len (kindI p.id) p
 unfold laidF
 simp only [List.length_append];omega
theorem q_join3 (σ : AHeap) (site own : Nat) (f : Bool) (a v w : Bytes) (h : a.length+(v.length+w.length)≤140737488355328) : callG E BY σ site 56 own true [.lst f [.lst false (a.map byteV),.lst false (v.map byteV),.lst false (w.map byteV)]]=some (.lst false ((a++(v++w)).map byteV),σ,{}):=by
 have:=q_joinC σ site own f a [v,w] (by simp) (by simpa using h)
 simpa only [List.map_cons,List.map_nil,bytesV,List.flatten_cons,List.flatten_nil,List.append_nil] using this
theorem q_laidn (p : PropD) (k : Int) (W : Nat) (hk : kindI p.id=k) (hW : (k=1∧W=1)∨(k=2∧W=2)∨(k=3∧W=4)) : E 89 [propV p] []=some (.lst false (((varF p.id).1++(beB (u64N p.num) W++[])).map byteV),[]):=by
 have hK:=fun σ site own=>q_kindC σ site own p.id
 have hV:=fun σ site own=>q_varC σ site own p.id
 unfold varT at hV
 have l0:=varF_len p.id
 have hP:=fun σ site own=>q_putC σ site own (u64N p.num) W (by omega) (by omega)
 have hJ:=fun σ site own f=>q_join3 σ site own f (varF p.id).1 (beB (u64N p.num) W) [] (by simp only [beB_len,List.length_nil];omega)
 simp only [List.map_nil] at hJ
 have hu:=wrap_u64N p.num
 rw [hk] at hK
 generalize beB (u64N p.num) W=B at *
 have z1 : ((1 : Nat) : Int)=1:=rfl
 have z2 : ((2 : Nat) : Int)=2:=rfl
 have z4 : ((4 : Nat) : Int)=4:=rfl
 rcases hW with ⟨rfl,rfl⟩ | ⟨rfl,rfl⟩ | ⟨rfl,rfl⟩
 ·have w1 : IntKind.i64.wrap (1 - 1)=0:=rfl
  have w2 : IntKind.i64.wrap (1*2 ^ min (Int.toNat 0) IntKind.i64.bits)=1:=rfl
  have ng : ¬((0 : Int) < 0):=by decide
  rw [z1] at hP
  rw [E_eq (by rfl) cf_prop_laid]
  simp -implicitDefEqProofs only [EVS0,EVS1,EVS5,EVS6,EVL0,eq_self,exI,nsite,freeAt,execI,Opd.ev,tget,tins,tput,keepL,sitesOf,List.sum_cons,List.sum_nil,Nat.reduceLT,Nat.reduceEqDiff,Nat.reduceBEq,beq_self_eq_true,Bool.false_eq_true,ldA,partA,faddrA,binA,arithA,shiftA,decide_true,resA,resAll,resOne,enterA,↓reduceIte,cb_prop_laid,b_prop_laid,cr_prop_laid,oI,bytesV,propV,propC,hK,hV,hP,hJ,hu,w1,w2,ng,viewAs,viewA,viewA1,freezeA,List.foldl_cons,List.foldl_nil,AVal.cells]
 ·have w1 : IntKind.i64.wrap (2 - 1)=1:=rfl
  have w2 : IntKind.i64.wrap (1*2 ^ min (Int.toNat 1) IntKind.i64.bits)=2:=rfl
  have ng : ¬((1 : Int) < 0):=by decide
  rw [z2] at hP
  rw [E_eq (by rfl) cf_prop_laid]
  simp -implicitDefEqProofs only [EVS0,EVS1,EVS5,EVS6,EVL0,eq_self,exI,nsite,freeAt,execI,Opd.ev,tget,tins,tput,keepL,sitesOf,List.sum_cons,List.sum_nil,Nat.reduceLT,Nat.reduceEqDiff,Nat.reduceBEq,beq_self_eq_true,Bool.false_eq_true,ldA,partA,faddrA,binA,arithA,shiftA,decide_true,resA,resAll,resOne,enterA,↓reduceIte,cb_prop_laid,b_prop_laid,cr_prop_laid,oI,bytesV,propV,propC,hK,hV,hP,hJ,hu,w1,w2,ng,Int.reduceBEq,viewAs,viewA,viewA1,freezeA,List.foldl_cons,List.foldl_nil,AVal.cells]
 ·have w1 : IntKind.i64.wrap (3 - 1)=2:=rfl
  have w2 : IntKind.i64.wrap (1*2 ^ min (Int.toNat 2) IntKind.i64.bits)=4:=rfl
  have ng : ¬((2 : Int) < 0):=by decide
  rw [z4] at hP
  rw [E_eq (by rfl) cf_prop_laid]
  simp -implicitDefEqProofs only [EVS0,EVS1,EVS5,EVS6,EVL0,eq_self,exI,nsite,freeAt,execI,Opd.ev,tget,tins,tput,keepL,sitesOf,List.sum_cons,List.sum_nil,Nat.reduceLT,Nat.reduceEqDiff,Nat.reduceBEq,beq_self_eq_true,Bool.false_eq_true,ldA,partA,faddrA,binA,arithA,shiftA,decide_true,resA,resAll,resOne,enterA,↓reduceIte,cb_prop_laid,b_prop_laid,cr_prop_laid,oI,bytesV,propV,propC,hK,hV,hP,hJ,hu,w1,w2,ng,Int.reduceBEq,viewAs,viewA,viewA1,freezeA,List.foldl_cons,List.foldl_nil,AVal.cells]
theorem q_laid (p : PropD) (ht : p.text.length≤9223372036854775807) (hp : p.pair.length≤9223372036854775807) (hd : p.data.length≤9223372036854775807) : E 89 [propV p] []=some (.lst false ((laidF p).map byteV),[]):=by
 have hK:=fun σ site own=>q_kindC σ site own p.id
 have hV:=fun σ site own=>q_varC σ site own p.id
 unfold varT at hV
 have l0:=varF_len p.id
 unfold laidF
 rcases kind_cases p.id with hk | hk | hk | hk | hk | hk | hk | hk
 ·rw [hk] at hK ⊢
  rw [show laidK 0 p=([],[]) from rfl,E_eq (by rfl) cf_prop_laid]
  have hJ:=fun σ site own f=>q_join3 σ site own f (varF p.id).1 [] [] (by simp only [List.length_nil];omega)
  simp only [List.map_nil] at hJ
  simp -implicitDefEqProofs only [EVS0,EVS1,EVS5,EVS6,EVL0,eq_self,exI,nsite,freeAt,execI,Opd.ev,tget,tins,tput,keepL,sitesOf,List.sum_cons,List.sum_nil,Nat.reduceLT,Nat.reduceEqDiff,Nat.reduceBEq,beq_self_eq_true,Bool.false_eq_true,ldA,partA,faddrA,binA,arithA,decide_true,resA,resAll,resOne,enterA,↓reduceIte,cb_prop_laid,b_prop_laid,cr_prop_laid,oI,bytesV,propV,propC,hK,hV,hJ,Int.reduceBEq,viewAs,viewA,viewA1,freezeA,List.foldl_cons,List.foldl_nil,AVal.cells]
 ·have h:=q_laidn p 1 1 hk (by simp)
  rw [hk];exact h
 ·have h:=q_laidn p 2 2 hk (by simp)
  rw [hk];exact h
 ·have h:=q_laidn p 3 4 hk (by simp)
  rw [hk];exact h
 ·rw [hk] at hK ⊢
  rw [show laidK 4 p=((varF p.num).1,[]) from rfl,E_eq (by rfl) cf_prop_laid]
  have l1:=varF_len p.num
  have hJ:=fun σ site own f=>q_join3 σ site own f (varF p.id).1 (varF p.num).1 [] (by simp only [List.length_nil];omega)
  simp only [List.map_nil] at hJ
  have hV2:=fun σ site own=>q_varC σ site own p.num
  unfold varT at hV2
  simp -implicitDefEqProofs only [EVS0,EVS1,EVS5,EVS6,EVL0,eq_self,exI,nsite,freeAt,execI,Opd.ev,tget,tins,tput,keepL,sitesOf,List.sum_cons,List.sum_nil,Nat.reduceLT,Nat.reduceEqDiff,Nat.reduceBEq,beq_self_eq_true,Bool.false_eq_true,ldA,partA,faddrA,binA,arithA,decide_true,resA,resAll,resOne,enterA,↓reduceIte,cb_prop_laid,b_prop_laid,cr_prop_laid,oI,bytesV,propV,propC,hK,hV,hV2,hJ,Int.reduceBEq,viewAs,viewA,viewA1,freezeA,List.foldl_cons,List.foldl_nil,AVal.cells]
 ·rw [hk] at hK ⊢
  rw [show laidK 5 p=((textF p.text).1,[]) from rfl,E_eq (by rfl) cf_prop_laid]
  have l1:=textF_len p.text
  have hJ:=fun σ site own f=>q_join3 σ site own f (varF p.id).1 (textF p.text).1 [] (by simp only [List.length_nil];omega)
  simp only [List.map_nil] at hJ
  have hV2:=fun σ site own=>q_textC σ site own p.text ht
  unfold byT at hV2
  simp -implicitDefEqProofs only [EVS0,EVS1,EVS5,EVS6,EVL0,eq_self,exI,nsite,freeAt,execI,Opd.ev,tget,tins,tput,keepL,sitesOf,List.sum_cons,List.sum_nil,Nat.reduceLT,Nat.reduceEqDiff,Nat.reduceBEq,beq_self_eq_true,Bool.false_eq_true,ldA,partA,faddrA,binA,arithA,decide_true,resA,resAll,resOne,enterA,↓reduceIte,cb_prop_laid,b_prop_laid,cr_prop_laid,oI,bytesV,propV,propC,hK,hV,hV2,hJ,Int.reduceBEq,viewAs,viewA,viewA1,freezeA,List.foldl_cons,List.foldl_nil,AVal.cells]
 ·rw [hk] at hK ⊢
  rw [show laidK 6 p=((dataF p.data).1,[]) from rfl,E_eq (by rfl) cf_prop_laid]
  have l1:=dataF_len p.data
  have hJ:=fun σ site own f=>q_join3 σ site own f (varF p.id).1 (dataF p.data).1 [] (by simp only [List.length_nil];omega)
  simp only [List.map_nil] at hJ
  have hV2:=fun σ site own f=>q_dataC σ site own f p.data hd
  unfold byT at hV2
  simp -implicitDefEqProofs only [EVS0,EVS1,EVS5,EVS6,EVL0,eq_self,exI,nsite,freeAt,execI,Opd.ev,tget,tins,tput,keepL,sitesOf,List.sum_cons,List.sum_nil,Nat.reduceLT,Nat.reduceEqDiff,Nat.reduceBEq,beq_self_eq_true,Bool.false_eq_true,ldA,partA,faddrA,binA,arithA,decide_true,resA,resAll,resOne,enterA,↓reduceIte,cb_prop_laid,b_prop_laid,cr_prop_laid,oI,bytesV,propV,propC,hK,hV,hV2,hJ,Int.reduceBEq,viewAs,viewA,viewA1,freezeA,List.foldl_cons,List.foldl_nil,AVal.cells]
 ·rw [hk] at hK ⊢
  rw [show laidK 7 p=((textF p.text).1,(textF p.pair).1) from rfl,E_eq (by rfl) cf_prop_laid]
  have l1:=textF_len p.text
  have l2:=textF_len p.pair
  have hJ:=fun σ site own f=>q_join3 σ site own f (varF p.id).1 (textF p.text).1 (textF p.pair).1 (by omega)
  have hV2:=fun σ site own=>q_textC σ site own p.text ht
  have hV3:=fun σ site own=>q_textC σ site own p.pair hp
  unfold byT at hV2 hV3
  simp -implicitDefEqProofs only [EVS0,EVS1,EVS5,EVS6,EVL0,eq_self,exI,nsite,freeAt,execI,Opd.ev,tget,tins,tput,keepL,sitesOf,List.sum_cons,List.sum_nil,Nat.reduceLT,Nat.reduceEqDiff,Nat.reduceBEq,beq_self_eq_true,Bool.false_eq_true,ldA,partA,faddrA,binA,arithA,decide_true,resA,resAll,resOne,enterA,↓reduceIte,cb_prop_laid,b_prop_laid,cr_prop_laid,oI,bytesV,propV,propC,hK,hV,hV2,hV3,hJ,Int.reduceBEq,viewAs,viewA,viewA1,freezeA,List.foldl_cons,List.foldl_nil,AVal.cells]
def OkTx (p : PropD) : Prop:=p.text.length≤9223372036854775807∧p.pair.length≤9223372036854775807∧p.data.length≤9223372036854775807
theorem q_laidC (σ : AHeap) (site own : Nat) (p : PropD) (h : OkTx p) : callG E BY σ site 89 own true [.agg [.int .i64 p.id,.int .i64 p.num,.str p.text,.str p.pair,.lst false (p.data.map byteV)]]=some (.lst false ((laidF p).map byteV),σ,{}) :=
 call_normT (q_laid p h.1 h.2.1 h.2.2) (by kernel_rfl) rfl rfl rfl (fun _=>rfl) _ _ _
def layE (w : Int) (l : List PropD) (b : Bytes) : Bytes×Int :=
 if (varF b.length).2≠0 then ([],129)
 else if (readF w ((varF b.length).1++b)).2.2≠0∨(readF w ((varF b.length).1++b)).2.1≠((varF b.length).1++b).length∨((readF w ((varF b.length).1++b)).1 == l)=false then ([],129)
 else ((varF b.length).1++b,0)
def layF (w : Int) (l : List PropD) : Bytes×Int:=layE w l (l.map laidF).flatten
theorem q_join2 (σ : AHeap) (site own : Nat) (f : Bool) (a v : Bytes) (h : a.length+v.length≤140737488355328) : callG E BY σ site 56 own true [.lst f [.lst false (a.map byteV),.lst false (v.map byteV)]]=some (.lst false ((a++v).map byteV),σ,{}):=by
 have:=q_joinC σ site own f a [v] (by simp) (by simpa using h)
 simpa only [List.map_cons,List.map_nil,bytesV,List.flatten_cons,List.flatten_nil,List.append_nil] using this
end Go.Proofs.YtmlkhhidifjjfaaDoor
namespace Go.Proofs.YtmlkhhidifjjfaaDoor
set_option maxHeartbeats 8000000
set_option maxRecDepth 10000
theorem readL_len (w : Int) : ∀ (n : Nat) (b : Bytes) (l : List PropD),(readL w n b l).1.length≤l.length+b.length
 | n,[],l=>by rw [readL_nil];simp
 | 0,c::r,l=>by simp [readL]
 | n+1,c::r,l=>by
  rw [readL_cons]
  split
  ·rename_i h
   have hu:=one_used h
   have ih:=readL_len w n ((c::r).drop (oneF w (c::r) l).2.1) (l++[(oneF w (c::r) l).1])
   rw [List.length_drop,List.length_append,List.length_singleton] at ih
   omega
  ·simp
theorem readF_len (w : Int) (b : Bytes) : (readF w b).1.length≤b.length:=by
 unfold readF
 split
 ·simp
 ·split
  ·have:=readL_len w (getVarF b).1 ((b.take ((getVarF b).2.1+(getVarF b).1)).drop (getVarF b).2.1) []
   simp only [List.length_drop,List.length_take,List.length_nil] at this
   simp only
   omega
  ·simp
def okV (k : Int) (p : PropD) : Bool :=
 if k=1 then decide (p.num≥0) && decide (p.num < 256) else if k=2 then decide (p.num≥0) && decide (p.num < 65536) else if k=3 then decide (p.num≥0) && decide (p.num < 4294967296)
 else if k=4 then (varF p.num).2 == 0 else if k=5 then (textF p.text).2 == 0 else if k=6 then (dataF p.data).2 == 0
 else if k=7 then (textF p.text).2 == 0 && (textF p.pair).2 == 0 else false
def goodB (p : PropD) : Bool:=!(decide (p.id < 1) || decide (p.id > 127)) && okV (kindI p.id) p
end Go.Proofs.YtmlkhhidifjjfaaDoor
