/- packed -/
import Derived.Test.YteepdofekjheaaaDoorMq2
import Derived.Test.YteepdofekjheaaaDoorMq3
set_option linter.defProp false
set_option linter.unusedSectionVars false
set_option linter.unusedSimpArgs false
set_option linter.unusedVariables false
open Nat renaming reduceEqDiff→Xa,reduceLT→Xc,reduceAdd→Xe,reduceLeDiff→Xf,reduceBEq→Xg,le_refl→Xx,zero_add→XG,lt_or_ge→WB,one_mul→WI,reduceSub→WJ,le_add_right→Xau
open List renaming getD_eq_getElem?_getD→Xh,append_nil→Xm,getElem?_set_ne→Xn,map_cons→Xo,getElem?_set→Xs,getD_cons_zero→Xu,nil_append→Xw,eq_nil_of_length_eq_zero→Xy,map_nil→XA,lookup_nil→XC,all_cons→XD,length_cons→XF,flatMap_cons→XH,getElem?_cons_zero→XI,length_nil→XJ,lookup_cons→XL,getD_cons_succ→XN,getElem?_cons_succ→XO,getElem?_eq_none→XS,cons_append→XU,flatMap_nil→XX,getElem?_set_self→X2,take_append_of_le_length→X5,range→X6,append_assoc→Wa,getElem?_append_left→Wh,take_length→Wl,range_succ→Wo,all_nil→Wr,isEmpty_cons→Wu,set_cons_zero→WO,set_cons_succ→WP,contains_nil→WY,contains_cons→Xak,any_cons→XaG,any_nil→XaK,set_set→Xa6
open Bool renaming false_eq_true→Xi,and_eq_true→Xl,and_self→Wg,not_eq_true→WU,or_false→XaN
open Int renaming reduceBEq→Xq,reduceLT→X1,toNat→WV
open Or renaming inl→Xr,inr→Xv
open BitVec renaming ofInt→XR
namespace Go.Proofs.YteepdofekjheaaaDoor
set_option maxHeartbeats 16000000
set_option maxRecDepth 10000
section
def Zbh:Zf:=(.seq (.region [oI 1 (.box (.t 0))] none [1]) (.seq (.region [oL 4 1,oI 5 (.nilchk (.t 4)),oF 6 0 5,oI 2 (.alloc [.nilp]),oN (.st 1 (.t 2) (.t 6))] none [2,1]) (.seq (.seq (.region [oL 7 2,oI 8 (.nilchk (.t 7)),oF 9 0 8,oL 10 9] none [10,2,1]) (.block 0 (.seq (.region [oI 12 (.bin .eql (.t 10) (.c (.int .i64 1))),oM 11 12] none [11,10,2,1]) (.cond (.t 11) (.region [oL 13 1,oI 14 (.call 32 0 true [(.t 13)])] none [1]) (.seq (.region [oI 16 (.bin .eql (.t 10) (.c (.int .i64 2))),oM 15 16] none [15,10,2,1]) (.cond (.t 15) (.seq (.region [oL 17 1,oI 18 (.call 33 0 true [(.t 17),(.c (.int .i64 1))]),oM 3 18] none [3,2,1]) (.seq (.region [oM 19 3,oI 20 (.bin .lss (.t 19) (.c (.int .i64 2))),oI 21 (.call 31 0 true [(.t 20),(.c (.int .i64 129))])] none [3,2,1]) (.seq (.region [oL 22 2,oM 23 3,oI 24 (.bin .eql (.t 23) (.c (.int .i64 1))),oI 25 (.nilchk (.t 22)),oF 26 25 25,oN (.st 1 (.t 26) (.t 24))] none [2,1]) (.seq (.region [oL 27 2,oL 28 1,oI 29 (.call 34 0 true [(.t 28)]),oI 30 (.nilchk (.t 27)),oF 31 7 30,oN (.st 1 (.t 31) (.t 29))] (some [(0,1),(0,2),(2,2)]) [2,1]) (.region [oL 32 2,oL 33 1,oI 34 (.call 35 0 true [(.t 33),(.c (.int .i64 2))]),oI 35 (.nilchk (.t 32)),oF 36 9 35,oN (.st 1 (.t 36) (.t 34))] (some [(0,1),(0,2),(2,2)]) [1]))))) (.seq (.region [oI 38 (.bin .eql (.t 10) (.c (.int .i64 3))),oM 37 38] none [37,10,2,1]) (.cond (.t 37) (.region [oL 39 1,oI 40 (.call 36 0 true [(.t 39)])] none [1]) (.seq (.seq (.region [oI 42 (.bin .eql (.t 10) (.c (.int .i64 4))),oM 41 42] none [41,10,2,1]) (.cond (.t 41) .skip (.seq (.region [oI 43 (.bin .eql (.t 10) (.c (.int .i64 5))),oM 41 43] none [41,10,2,1]) (.cond (.t 41) .skip (.seq (.region [oI 44 (.bin .eql (.t 10) (.c (.int .i64 6))),oM 41 44] none [41,10,2,1]) (.cond (.t 41) .skip (.region [oI 45 (.bin .eql (.t 10) (.c (.int .i64 7))),oM 41 45] none [41,10,2,1]))))))) (.cond (.t 41) (.seq (.region [oL 46 1,oI 47 (.call 37 0 true [(.t 46)])] none [1]) (.region [oL 48 1,oI 49 (.call 38 0 true [(.t 48)])] none [1])) (.seq (.region [oI 51 (.bin .eql (.t 10) (.c (.int .i64 8))),oM 50 51] none [50,10,2,1]) (.cond (.t 50) (.region [oL 52 1,oL 53 1,oI 54 (.mkfn 1000040 [(.t 53)]),oI 55 (.call 39 1 true [(.t 52),(.t 54)])] none [1]) (.seq (.region [oI 57 (.bin .eql (.t 10) (.c (.int .i64 10))),oM 56 57] none [56,10,2,1]) (.cond (.t 56) (.region [oL 58 1,oI 59 (.mkfn 41 [(.t 2),(.t 1)]),oI 60 (.call 39 1 true [(.t 58),(.t 59)])] none [1]) (.seq (.seq (.region [oI 62 (.bin .eql (.t 10) (.c (.int .i64 9))),oM 61 62] none [61,10,2,1]) (.cond (.t 61) .skip (.region [oI 63 (.bin .eql (.t 10) (.c (.int .i64 11))),oM 61 63] none [61,10,2,1]))) (.cond (.t 61) (.region [oL 64 1,oI 65 (.mkfn 43 [(.t 2),(.t 1)]),oI 66 (.call 39 1 true [(.t 64),(.t 65)])] none [1]) (.seq (.seq (.region [oI 68 (.bin .eql (.t 10) (.c (.int .i64 14))),oM 67 68] none [67,10,1]) (.cond (.t 67) .skip (.region [oI 69 (.bin .eql (.t 10) (.c (.int .i64 15))),oM 67 69] none [67,1]))) (.cond (.t 67) (.region [oL 70 1,oI 71 (.call 38 0 true [(.t 70)])] none [1]) .skip)))))))))))))))))) (.region [oL 72 1,oI 73 (.nilchk (.t 72)),oF 74 26 73,oL 75 74,oI 76 (.len (.t 75)),oI 77 (.bin .eql (.t 76) (.c (.int .i64 0))),oI 78 (.call 31 0 true [(.t 77),(.c (.int .i64 129))])] none []))))
def Zqk:ZQ:=⟨[],Zbh⟩
theorem Zbs:FC 20=some Zqk:=by kernel_rfl
theorem Zbq:Zqk.body=Zbh:=rfl
theorem ZeN:Zqk.res=[]:=rfl
def Zdv:Zf:=(.region [oL 2 0,oL 3 0,oI 4 (.nilchk (.t 3)),oF 5 11 4,oL 6 5,oL 7 1,oI 8 (.call 42 0 true [(.t 7)]),oI 9 (.bslice false 1 1 (.str []) [(0,(.t 8))]),oI 10 (.app 1 16 (.str []) (.t 6) (.t 9)),oI 11 (.nilchk (.t 2)),oF 12 11 11,oN (.st 1 (.t 12) (.t 10))] (some [(0,1),(0,4),(0,5),(1,5),(4,5),(0,6),(1,6),(4,6),(0,7),(1,7),(4,7),(0,8),(6,6)]) [])
def ZQ0:ZQ:=⟨[],Zdv⟩
theorem ZmX:FC 41=some ZQ0:=by kernel_rfl
def Zdx:Zf:=(.region [oL 2 0,oL 3 0,oI 4 (.nilchk (.t 3)),oF 5 8 4,oL 6 5,oL 7 1,oI 8 (.call 34 0 true [(.t 7)]),oI 9 (.bslice false 1 1 (.int .i64 0) [(0,(.t 8))]),oI 10 (.app 1 8 (.int .i64 0) (.t 6) (.t 9)),oI 11 (.nilchk (.t 2)),oF 12 8 11,oN (.st 1 (.t 12) (.t 10))] (some [(0,1),(0,4),(0,5),(1,5),(4,5),(0,6),(1,6),(4,6),(0,7),(1,7),(4,7),(0,8),(6,6)]) [])
def ZNy:ZQ:=⟨[],Zdx⟩
theorem Zk5:FC 43=some ZNy:=by kernel_rfl
def ZeJ:Zf:=(.seq (.region [oI 2 (.mov (.c (.int .i64 0)))] none [0]) (.seq (.region [oM 4 0,oI 5 (.call 33 0 true [(.t 4),(.c (.int .i64 1))]),oM 3 5] none [3,0]) (.seq (.region [oM 6 0,oI 7 (.nilchk (.t 6)),oF 8 0 7,oF 9 0 8,oL 10 9,oM 11 3,oI 12 (.call 56 0 true [(.t 10),(.t 11)]),oI 13 (.call 31 0 true [(.t 12),(.c (.int .i64 130))])] none [3]) (.seq (.region [oM 14 3,oM 2 14] none [2]) .ret))))
def Zo3:ZQ:=⟨[(.tmp 2)],ZeJ⟩
theorem ZgI:FC 34=some Zo3:=by kernel_rfl
theorem Zgs:Zo3.body=ZeJ:=rfl
theorem ZuP:Zo3.res=[(.tmp 2)]:=rfl
def ZrQ:Zf:=(.seq (.region [oM 4 0,oI 5 (.nilchk (.t 4)),oF 6 0 5,oM 2 6] none [2,0]) (.seq (.region [oM 7 0,oI 8 (.call 42 0 true [(.t 7)]),oI 9 (.bin .eql (.t 8) (.c (.str [77,81,84,84]))),oI 10 (.call 31 0 true [(.t 9),(.c (.int .i64 132))])] none [2,0]) (.seq (.region [oM 11 0,oI 12 (.call 33 0 true [(.t 11),(.c (.int .i64 1))]),oI 13 (.bin .eql (.t 12) (.c (.int .i64 5))),oI 14 (.call 31 0 true [(.t 13),(.c (.int .i64 132))])] none [2,0]) (.seq (.region [oM 15 0,oI 16 (.call 33 0 true [(.t 15),(.c (.int .i64 1))]),oM 3 16] none [3,2,0]) (.seq (.region [oM 17 2,oM 18 2,oM 19 3,oI 20 (.bin .and (.t 19) (.c (.int .i64 2))),oI 21 (.bin .neq (.t 20) (.c (.int .i64 0))),oM 22 3,oI 23 (.bin .and (.t 22) (.c (.int .i64 4))),oI 24 (.bin .neq (.t 23) (.c (.int .i64 0))),oI 25 (.nilchk (.t 17)),oF 26 12 25,oN (.st 1 (.t 26) (.t 21)),oI 27 (.nilchk (.t 18)),oF 28 15 27,oN (.st 1 (.t 28) (.t 24))] none [3,2,0]) (.seq (.region [oM 29 2,oM 30 2,oM 31 3,oI 32 (.bin .and (.t 31) (.c (.int .i64 64))),oI 33 (.bin .neq (.t 32) (.c (.int .i64 0))),oM 34 3,oI 35 (.bin .and (.t 34) (.c (.int .i64 128))),oI 36 (.bin .neq (.t 35) (.c (.int .i64 0))),oI 37 (.nilchk (.t 29)),oF 38 23 37,oN (.st 1 (.t 38) (.t 33)),oI 39 (.nilchk (.t 30)),oF 40 21 39,oN (.st 1 (.t 40) (.t 36))] none [3,2,0]) (.seq (.region [oM 41 2,oM 42 2,oM 43 3,oI 44 (.bin .quo (.t 43) (.c (.int .i64 8))),oI 45 (.bin .and (.t 44) (.c (.int .i64 3))),oM 46 3,oI 47 (.bin .and (.t 46) (.c (.int .i64 32))),oI 48 (.bin .neq (.t 47) (.c (.int .i64 0))),oI 49 (.nilchk (.t 41)),oF 50 16 49,oF 51 2 50,oN (.st 1 (.t 51) (.t 45)),oI 52 (.nilchk (.t 42)),oF 53 16 52,oF 54 3 53,oN (.st 1 (.t 54) (.t 48))] none [3,2,0]) (.seq (.region [oM 55 3,oI 56 (.bin .and (.t 55) (.c (.int .i64 1))),oI 57 (.bin .eql (.t 56) (.c (.int .i64 0))),oM 58 57,⟨(some 59),(.mov (.t 2)),(some (58,true)),[]⟩,⟨(some 60),(.nilchk (.t 59)),(some (58,true)),[]⟩,⟨(some 61),(.faddr 16 (.t 60)),(some (58,true)),[]⟩,⟨(some 62),(.faddr 2 (.t 61)),(some (58,true)),[]⟩,⟨(some 63),(.ld none (.t 62)),(some (58,true)),[]⟩,⟨(some 64),(.bin .lss (.t 63) (.c (.int .i64 3))),(some (58,true)),[]⟩,oI 65 (.pick (.t 58) (.t 64) (.c (.bool false))),oM 66 65,⟨(some 67),(.mov (.t 2)),(some (66,true)),[]⟩,⟨(some 68),(.nilchk (.t 67)),(some (66,true)),[]⟩,⟨(some 69),(.faddr 15 (.t 68)),(some (66,true)),[]⟩,⟨(some 70),(.ld none (.t 69)),(some (66,true)),[]⟩,⟨(some 71),(.mov (.t 70)),(some (66,true)),[]⟩,⟨(some 72),(.mov (.t 2)),(some (71,false)),[]⟩,⟨(some 73),(.nilchk (.t 72)),(some (71,false)),[]⟩,⟨(some 74),(.faddr 16 (.t 73)),(some (71,false)),[]⟩,⟨(some 75),(.faddr 2 (.t 74)),(some (71,false)),[]⟩,⟨(some 76),(.ld none (.t 75)),(some (71,false)),[]⟩,⟨(some 77),(.bin .eql (.t 76) (.c (.int .i64 0))),(some (71,false)),[]⟩,⟨(some 78),(.mov (.t 77)),(some (71,false)),[]⟩,⟨(some 79),(.mov (.t 2)),(some (78,true)),[]⟩,⟨(some 80),(.nilchk (.t 79)),(some (78,true)),[]⟩,⟨(some 81),(.faddr 16 (.t 80)),(some (78,true)),[]⟩,⟨(some 82),(.faddr 3 (.t 81)),(some (78,true)),[]⟩,⟨(some 83),(.ld none (.t 82)),(some (78,true)),[]⟩,⟨(some 84),(.un .not (.t 83)),(some (78,true)),[]⟩,⟨(some 85),(.pick (.t 78) (.t 84) (.c (.bool false))),(some (71,false)),[]⟩,⟨(some 86),(.pick (.t 71) (.c (.bool true)) (.t 85)),(some (66,true)),[]⟩,oI 87 (.pick (.t 66) (.t 86) (.c (.bool false))),oI 88 (.call 31 0 true [(.t 87),(.c (.int .i64 129))])] none [2,0]) (.seq (.region [oM 89 2,oM 90 0,oI 91 (.call 33 0 true [(.t 90),(.c (.int .i64 2))]),oI 92 (.nilchk (.t 89)),oF 93 13 92,oN (.st 1 (.t 93) (.t 91))] none [2,0]) (.seq (.region [oM 94 2,oM 95 0,oI 96 (.call 35 0 true [(.t 95),(.c (.int .i64 1))]),oI 97 (.nilchk (.t 94)),oF 98 9 97,oN (.st 1 (.t 98) (.t 96))] none [2,0]) (.seq (.region [oM 99 2,oM 100 0,oI 101 (.call 42 0 true [(.t 100)]),oI 102 (.nilchk (.t 99)),oF 103 14 102,oN (.st 1 (.t 103) (.t 101))] none [2,0]) (.seq (.seq (.region [oM 104 2,oI 105 (.nilchk (.t 104)),oF 106 15 105,oL 107 106] none [107,2,0]) (.cond (.t 107) (.seq (.region [oM 108 2,oM 109 0,oI 110 (.call 35 0 true [(.t 109),(.c (.int .i64 16))]),oI 111 (.nilchk (.t 108)),oF 112 16 111,oF 113 4 112,oN (.st 1 (.t 113) (.t 110))] none [2,0]) (.seq (.region [oM 114 2,oM 115 0,oI 116 (.call 42 0 true [(.t 115)]),oI 117 (.nilchk (.t 114)),oF 118 16 117,oF 119 0 118,oN (.st 1 (.t 119) (.t 116))] none [2,0]) (.region [oM 120 2,oM 121 0,oI 122 (.call 54 0 true [(.t 121)]),oI 123 (.nilchk (.t 120)),oF 124 16 123,oF 125 1 124,oN (.st 1 (.t 125) (.t 122))] none [2,0]))) .skip)) (.seq (.seq (.region [oM 126 2,oI 127 (.nilchk (.t 126)),oF 128 21 127,oL 129 128] none [129,2,0]) (.cond (.t 129) (.region [oM 130 2,oM 131 0,oI 132 (.call 42 0 true [(.t 131)]),oI 133 (.nilchk (.t 130)),oF 134 22 133,oN (.st 1 (.t 134) (.t 132))] none [2,0]) .skip)) (.seq (.region [oM 135 2,oI 136 (.nilchk (.t 135)),oF 137 23 136,oL 138 137] none [138,2,0]) (.cond (.t 138) (.region [oM 139 2,oM 140 0,oI 141 (.call 54 0 true [(.t 140)]),oI 142 (.nilchk (.t 139)),oF 143 24 142,oN (.st 1 (.t 143) (.t 141))] none []) .skip)))))))))))))))
def ZoM:ZQ:=⟨[],ZrQ⟩
theorem Zr2:FC 32=some ZoM:=by kernel_rfl
def Zlk:Zf:=(.seq (.region [oI 2 (.mov (.c (.lst true [])))] none [0]) (.seq (.region [oM 7 0,oI 8 (.nilchk (.t 7)),oF 9 26 8,oL 10 9,oI 11 (.call 66 0 true [(.t 10)]),oM 6 11,oI 12 (.ext (.t 6) 0),oI 13 (.ext (.t 6) 1),oI 14 (.ext (.t 6) 2),oM 3 12,oM 4 13,oM 5 14] none [5,4,3,0]) (.seq (.region [oM 15 5,oI 16 (.bin .eql (.t 15) (.c (.int .i64 0))),oI 17 (.call 31 0 true [(.t 16),(.c (.int .i64 129))])] none [4,3,0]) (.seq (.region [oM 18 0,oM 19 0,oI 20 (.nilchk (.t 19)),oF 21 26 20,oL 22 21,oM 23 4,oI 24 (.slice 1 (.t 22) (some (.t 23)) none none),oI 25 (.nilchk (.t 18)),oF 26 26 25,oN (.st 1 (.t 26) (.t 24))] none [3]) (.seq (.region [oM 27 3,oM 2 27] none [2]) .ret)))))
def Zp6:ZQ:=⟨[(.tmp 2)],Zlk⟩
theorem Zvq:FC 54=some Zp6:=by kernel_rfl
theorem ZsH:Zp6.body=Zlk:=rfl
theorem ZQS:Zp6.res=[(.tmp 2)]:=rfl
def Zfr:Zf:=(.seq (.region [oM 5 0,oI 6 (.nilchk (.t 5)),oF 7 0 6,oM 4 7] none [4,1]) (.seq (.region [oM 8 4,oM 9 1,oI 10 (.bin .shr (.t 9) (.c (.int .u64 4))),oI 11 (.i2i .i64 (.t 10)),oI 12 (.nilchk (.t 8)),oF 13 0 12,oN (.st 1 (.t 13) (.t 11))] none [4,1]) (.seq (.region [oM 14 4,oI 15 (.nilchk (.t 14)),oF 16 0 15,oL 17 16,oI 18 (.bin .neq (.t 17) (.c (.int .i64 0))),oI 19 (.call 31 0 true [(.t 18),(.c (.int .i64 129))])] none [4,1]) (.seq (.seq (.region [oM 20 4,oI 21 (.nilchk (.t 20)),oF 22 0 21,oL 23 22,oI 24 (.bin .neq (.t 23) (.c (.int .i64 3)))] none [24,4,1]) (.cond (.t 24) (.seq (.region [oM 25 1,oI 26 (.bin .and (.t 25) (.c (.int .u8 15))),oM 27 4,oI 28 (.nilchk (.t 27)),oF 29 0 28,oL 30 29,oI 31 (.call 26 0 true [(.t 30)]),oI 32 (.bin .eql (.t 26) (.t 31)),oI 33 (.call 31 0 true [(.t 32),(.c (.int .i64 129))])] none []) .ret) .skip)) (.seq (.region [oM 34 4,oM 35 4,oM 36 4,oM 37 1,oI 38 (.bin .and (.t 37) (.c (.int .u8 8))),oI 39 (.bin .neq (.t 38) (.c (.int .u8 0))),oM 40 1,oI 41 (.bin .shr (.t 40) (.c (.int .u64 1))),oI 42 (.bin .and (.t 41) (.c (.int .u8 3))),oI 43 (.i2i .i64 (.t 42)),oM 44 1,oI 45 (.bin .and (.t 44) (.c (.int .u8 1))),oI 46 (.bin .neq (.t 45) (.c (.int .u8 0))),oI 47 (.nilchk (.t 34)),oF 48 1 47,oN (.st 1 (.t 48) (.t 39)),oI 49 (.nilchk (.t 35)),oF 50 2 49,oN (.st 1 (.t 50) (.t 43)),oI 51 (.nilchk (.t 36)),oF 52 3 51,oN (.st 1 (.t 52) (.t 46))] none [4]) (.seq (.region [oM 53 4,oI 54 (.nilchk (.t 53)),oF 55 2 54,oL 56 55,oI 57 (.bin .lss (.t 56) (.c (.int .i64 3))),oI 58 (.call 31 0 true [(.t 57),(.c (.int .i64 129))])] none [4]) (.region [oM 59 4,oI 60 (.nilchk (.t 59)),oF 61 2 60,oL 62 61,oI 63 (.bin .gtr (.t 62) (.c (.int .i64 0))),oM 64 63,⟨(some 65),(.mov (.t 4)),(some (64,false)),[]⟩,⟨(some 66),(.nilchk (.t 65)),(some (64,false)),[]⟩,⟨(some 67),(.faddr 1 (.t 66)),(some (64,false)),[]⟩,⟨(some 68),(.ld none (.t 67)),(some (64,false)),[]⟩,⟨(some 69),(.un .not (.t 68)),(some (64,false)),[]⟩,oI 70 (.pick (.t 64) (.c (.bool true)) (.t 69)),oI 71 (.call 31 0 true [(.t 70),(.c (.int .i64 130))])] none [])))))))
def ZnJ:ZQ:=⟨[],Zfr⟩
theorem ZgV:FC 19=some ZnJ:=by kernel_rfl
theorem Zhn:ZnJ.body=Zfr:=rfl
theorem Zpy:ZnJ.res=[]:=rfl
def ZjI:Zf:=(.seq (.region [oM 2 0,oM 3 0,oI 4 (.call 33 0 true [(.t 3),(.c (.int .i64 2))]),oI 5 (.nilchk (.t 2)),oF 6 0 5,oF 7 4 6,oN (.st 1 (.t 7) (.t 4))] none [0]) (.region [oM 8 0,oI 9 (.nilchk (.t 8)),oF 10 0 9,oF 11 4 10,oL 12 11,oI 13 (.bin .neq (.t 12) (.c (.int .i64 0))),oI 14 (.call 31 0 true [(.t 13),(.c (.int .i64 130))])] none []))
def Zot:ZQ:=⟨[],ZjI⟩
theorem ZrF:FC 37=some Zot:=by kernel_rfl
theorem ZqS:Zot.body=ZjI:=rfl
theorem ZBY:Zot.res=[]:=rfl
def Zdd:Zf:=(.seq (.seq (.region [oM 24 0,oI 25 (.nilchk (.t 24)),oF 26 26 25,oL 27 26,oI 28 (.len (.t 27)),oI 29 (.bin .gtr (.t 28) (.c (.int .i64 0)))] none [29,1,0]) (.cond (.t 29) .skip (.exit 0))) (.block 1 (.region [oM 30 1,oI 31 (.callv (.t 30) [])] none [1,0])))
def Zqj:Zf:=Zdd
def ZdQ:=xw Zqj Zdd rfl
def ZeV:Zf:=(.seq (.region [oM 4 0,oI 5 (.call 37 0 true [(.t 4)])] none [1,0]) (.seq (.region [oM 6 0,oM 7 0,oM 8 0,oI 9 (.nilchk (.t 8)),oF 10 0 9,oF 11 0 10,oL 12 11,oI 13 (.call 35 0 true [(.t 7),(.t 12)]),oI 14 (.nilchk (.t 6)),oF 15 0 14,oF 16 9 15,oN (.st 1 (.t 16) (.t 13))] none [1,0]) (.seq (.region [oM 17 0,oI 18 (.nilchk (.t 17)),oF 19 26 18,oL 20 19,oI 21 (.len (.t 20)),oI 22 (.bin .gtr (.t 21) (.c (.int .i64 0))),oI 23 (.call 31 0 true [(.t 22),(.c (.int .i64 130))])] none [1,0]) (.block 0 (.loop [1,0] Zqj)))))
def ZkS:ZQ:=⟨[],ZeV⟩
theorem Zgm:FC 39=some ZkS:=by kernel_rfl
theorem Zgd:ZkS.body=ZeV:=rfl
theorem Zld:ZkS.res=[]:=rfl
noncomputable def Zbc (m:Nat) (tm:Tms) (σ:Za):Option (AVal×Za):=(Zav m ZkS (Option.map (Za7 0) (evL FC PR BY m [1,0] Zqj tm σ)))
def Zig:Zf:=(.seq (.region [oI 4 (.mov (.c (.int .i64 0)))] none [1,0]) (.seq (.region [oM 6 0,oI 7 (.nilchk (.t 6)),oF 8 26 7,oL 9 8,oI 10 (.len (.t 9)),oM 11 1,oI 12 (.bin .geq (.t 10) (.t 11)),oI 13 (.call 31 0 true [(.t 12),(.c (.int .i64 129))])] none [1,0]) (.seq (.region [oM 14 0,oI 15 (.nilchk (.t 14)),oF 16 26 15,oL 17 16,oM 18 1,oI 19 (.slice 1 (.t 17) none (some (.t 18)) none),oI 20 (.call 55 0 true [(.t 19)]),oI 21 (.i2i .i64 (.t 20)),oM 5 21] none [5,1,0]) (.seq (.region [oM 22 0,oM 23 0,oI 24 (.nilchk (.t 23)),oF 25 26 24,oL 26 25,oM 27 1,oI 28 (.slice 1 (.t 26) (some (.t 27)) none none),oI 29 (.nilchk (.t 22)),oF 30 26 29,oN (.st 1 (.t 30) (.t 28))] none [5]) (.seq (.region [oM 31 5,oM 4 31] none [4]) .ret)))))
def ZqL:ZQ:=⟨[(.tmp 4)],Zig⟩
theorem Zmt:FC 33=some ZqL:=by kernel_rfl
theorem Zku:ZqL.body=Zig:=rfl
theorem ZuV:ZqL.res=[(.tmp 4)]:=rfl
def ZmL:Zf:=(.seq (.region [oI 4 (.mov (.c (.lst true [])))] none [1,0]) (.seq (.region [oM 9 1,oM 10 0,oI 11 (.nilchk (.t 10)),oF 12 26 11,oL 13 12,oI 14 (.call 57 0 true [(.t 9),(.t 13)]),oM 8 14,oI 15 (.ext (.t 8) 0),oI 16 (.ext (.t 8) 1),oI 17 (.ext (.t 8) 2),oM 5 15,oM 6 16,oM 7 17] none [7,6,5,0]) (.seq (.region [oM 18 7,oI 19 (.bin .eql (.t 18) (.c (.int .i64 0))),oM 20 7,oI 21 (.call 31 0 true [(.t 19),(.t 20)])] none [6,5,0]) (.seq (.region [oM 22 0,oM 23 0,oI 24 (.nilchk (.t 23)),oF 25 26 24,oL 26 25,oM 27 6,oI 28 (.slice 1 (.t 26) (some (.t 27)) none none),oI 29 (.nilchk (.t 22)),oF 30 26 29,oN (.st 1 (.t 30) (.t 28))] none [5]) (.seq (.region [oM 31 5,oM 4 31] none [4]) .ret)))))
def Zns:ZQ:=⟨[(.tmp 4)],ZmL⟩
theorem Zuh:FC 35=some Zns:=by kernel_rfl
theorem Zsq:Zns.body=ZmL:=rfl
theorem ZHD:Zns.res=[(.tmp 4)]:=rfl
def Zgy:Zf:=(.seq (.region [oM 2 0,oM 3 0,oI 4 (.call 42 0 true [(.t 3)]),oI 5 (.nilchk (.t 2)),oF 6 0 5,oF 7 5 6,oN (.st 1 (.t 7) (.t 4))] none [0]) (.seq (.seq (.region [oM 8 0,oI 9 (.nilchk (.t 8)),oF 10 0 9,oF 11 2 10,oL 12 11,oI 13 (.bin .gtr (.t 12) (.c (.int .i64 0)))] none [13,0]) (.cond (.t 13) (.region [oM 14 0,oI 15 (.call 37 0 true [(.t 14)])] none [0]) .skip)) (.seq (.region [oM 16 0,oM 17 0,oI 18 (.call 35 0 true [(.t 17),(.c (.int .i64 3))]),oI 19 (.nilchk (.t 16)),oF 20 0 19,oF 21 9 20,oN (.st 1 (.t 21) (.t 18))] none [0]) (.region [oM 22 0,oM 23 0,oM 24 0,oI 25 (.nilchk (.t 24)),oF 26 26 25,oL 27 26,oI 28 (.call 58 0 true [(.t 27)]),oI 29 (.nilchk (.t 22)),oF 30 0 29,oF 31 6 30,oN (.st 1 (.t 31) (.t 28)),oI 32 (.nilchk (.t 23)),oF 33 26 32,oN (.st 1 (.t 33) (.c (.lst true [])))] none []))))
def ZqW:ZQ:=⟨[],Zgy⟩
theorem Zit:FC 36=some ZqW:=by kernel_rfl
theorem Zh7:ZqW.body=Zgy:=rfl
theorem ZtJ:ZqW.res=[]:=rfl
def Zho:Zf:=(.seq (.seq (.region [oM 2 0,oI 3 (.nilchk (.t 2)),oF 4 26 3,oL 5 4,oI 6 (.len (.t 5)),oI 7 (.bin .gtr (.t 6) (.c (.int .i64 0)))] none [7,0]) (.cond (.t 7) (.region [oM 8 0,oM 9 0,oI 10 (.call 34 0 true [(.t 9)]),oI 11 (.nilchk (.t 8)),oF 12 0 11,oF 13 7 12,oN (.st 1 (.t 13) (.t 10))] none [0]) .skip)) (.seq (.region [oM 14 0,oI 15 (.nilchk (.t 14)),oF 16 26 15,oL 17 16,oI 18 (.len (.t 17)),oI 19 (.bin .gtr (.t 18) (.c (.int .i64 0)))] none [19,0]) (.cond (.t 19) (.region [oM 20 0,oM 21 0,oM 22 0,oI 23 (.nilchk (.t 22)),oF 24 0 23,oF 25 0 24,oL 26 25,oI 27 (.call 35 0 true [(.t 21),(.t 26)]),oI 28 (.nilchk (.t 20)),oF 29 0 28,oF 30 9 29,oN (.st 1 (.t 30) (.t 27))] none []) .skip)))
def Zn5:ZQ:=⟨[],Zho⟩
theorem ZjC:FC 38=some Zn5:=by kernel_rfl
theorem Zj3:Zn5.body=Zho:=rfl
theorem ZoA:Zn5.res=[]:=rfl
def Zdf:Zf:=(.seq (.region [oM 4 0,oI 5 (.call 42 0 true [(.t 4)]),oI 6 (.build [(.str []),(.int .i64 0),(.bool false),(.bool false),(.int .i64 0),(.int .i64 0)] [(0,1,(.t 5))]),oI 2 (.alloc [(.str []),(.int .i64 0),(.bool false),(.bool false),(.int .i64 0),(.int .i64 0)]),oN (.st 6 (.t 2) (.t 6))] none [2,0]) (.seq (.region [oM 7 0,oI 8 (.call 33 0 true [(.t 7),(.c (.int .i64 1))]),oM 3 8] none [3,2,0]) (.seq (.region [oM 9 3,oI 10 (.bin .lss (.t 9) (.c (.int .i64 64))),oI 11 (.call 31 0 true [(.t 10),(.c (.int .i64 129))])] none [3,2,0]) (.seq (.region [oM 12 3,oI 13 (.bin .and (.t 12) (.c (.int .i64 3))),oM 14 3,oI 15 (.bin .quo (.t 14) (.c (.int .i64 16))),oF 16 1 2,oN (.st 1 (.t 16) (.t 13)),oF 17 4 2,oN (.st 1 (.t 17) (.t 15))] none [3,2,0]) (.seq (.region [oM 18 3,oI 19 (.bin .and (.t 18) (.c (.int .i64 4))),oI 20 (.bin .neq (.t 19) (.c (.int .i64 0))),oM 21 3,oI 22 (.bin .and (.t 21) (.c (.int .i64 8))),oI 23 (.bin .neq (.t 22) (.c (.int .i64 0))),oF 24 2 2,oN (.st 1 (.t 24) (.t 20)),oF 25 3 2,oN (.st 1 (.t 25) (.t 23))] none [2,0]) (.seq (.region [oF 26 1 2,oL 27 26,oI 28 (.bin .lss (.t 27) (.c (.int .i64 3))),oM 29 28,⟨(some 30),(.faddr 4 (.t 2)),(some (29,true)),[]⟩,⟨(some 31),(.ld none (.t 30)),(some (29,true)),[]⟩,⟨(some 32),(.bin .lss (.t 31) (.c (.int .i64 3))),(some (29,true)),[]⟩,oI 33 (.pick (.t 29) (.t 32) (.c (.bool false))),oI 34 (.call 31 0 true [(.t 33),(.c (.int .i64 130))])] none [2,0]) (.region [oM 35 0,oM 36 0,oI 37 (.nilchk (.t 36)),oF 38 0 37,oF 39 10 38,oL 40 39,oI 41 (.ld (some 6) (.t 2)),oI 42 (.bslice false 6 1 (.agg [(.str []),(.int .i64 0),(.bool false),(.bool false),(.int .i64 0),(.int .i64 0)]) [(0,(.t 41))]),oI 43 (.app 6 48 (.agg [(.str []),(.int .i64 0),(.bool false),(.bool false),(.int .i64 0),(.int .i64 0)]) (.t 40) (.t 42)),oI 44 (.nilchk (.t 35)),oF 45 0 44,oF 46 10 45,oN (.st 1 (.t 46) (.t 43))] (some [(5,6),(5,7)]) [])))))))
def ZpJ:ZQ:=⟨[],Zdf⟩
theorem ZdN:FC 40=some ZpJ:=by kernel_rfl
theorem ZdO:ZpJ.body=Zdf:=rfl
theorem Zs0:ZpJ.res=[]:=rfl
def ZhO:Zf:=(.seq (.region [oI 2 (.mov (.c (.str [])))] none [0]) (.seq (.region [oM 7 0,oI 8 (.nilchk (.t 7)),oF 9 26 8,oL 10 9,oI 11 (.call 59 0 true [(.t 10)]),oM 6 11,oI 12 (.ext (.t 6) 0),oI 13 (.ext (.t 6) 1),oI 14 (.ext (.t 6) 2),oM 3 12,oM 4 13,oM 5 14] none [5,4,3,0]) (.seq (.region [oM 15 5,oI 16 (.bin .eql (.t 15) (.c (.int .i64 0))),oI 17 (.call 31 0 true [(.t 16),(.c (.int .i64 129))])] none [4,3,0]) (.seq (.region [oM 18 0,oM 19 0,oI 20 (.nilchk (.t 19)),oF 21 26 20,oL 22 21,oM 23 4,oI 24 (.slice 1 (.t 22) (some (.t 23)) none none),oI 25 (.nilchk (.t 18)),oF 26 26 25,oN (.st 1 (.t 26) (.t 24))] none [3]) (.seq (.region [oM 27 3,oM 2 27] none [2]) .ret)))))
def Zo9:ZQ:=⟨[(.tmp 2)],ZhO⟩
theorem Zm6:FC 42=some Zo9:=by kernel_rfl
theorem Zlz:Zo9.body=ZhO:=rfl
theorem Zvf:Zo9.res=[(.tmp 2)]:=rfl
def Zlj:Zf:=(.seq (.region [oI 76 (.bin .lss (.t 75) (.t 74))] none [76,75,74,73,0]) (.seq (.cond (.t 76) .skip (.exit 1)) (.seq (.block 2 (.seq (.region [oI 77 (.iaddr 6 (.t 73) (.t 75)),oI 78 (.ld (some 6) (.t 77)),oI 5 (.alloc [(.str []),(.int .i64 0),(.bool false),(.bool false),(.int .i64 0),(.int .i64 0)]),oN (.st 6 (.t 5) (.t 78))] none [75,74,73,5,0]) (.seq (.region [oM 79 0,oF 80 0 5,oL 81 80,oI 82 (.call 49 1 true [(.t 79),(.t 81)])] none [75,74,73,5,0]) (.region [oM 83 0,oF 84 1 5,oL 85 84,oI 86 (.bin .and (.t 85) (.c (.int .i64 3))),oF 87 2 5,oL 88 87,oI 89 (.call 28 0 true [(.t 88),(.c (.int .i64 4))]),oI 90 (.bin .add (.t 86) (.t 89)),oF 91 3 5,oL 92 91,oI 93 (.call 28 0 true [(.t 92),(.c (.int .i64 8))]),oI 94 (.bin .add (.t 90) (.t 93)),oF 95 4 5,oL 96 95,oI 97 (.bin .and (.t 96) (.c (.int .i64 3))),oI 98 (.bin .mul (.t 97) (.c (.int .i64 16))),oI 99 (.bin .add (.t 94) (.t 98)),oI 100 (.call 47 1 true [(.t 83),(.t 99),(.c (.int .i64 1))])] (some [(2,5),(2,6),(2,9),(5,9),(6,9),(2,10),(2,13),(5,13),(6,13),(9,13),(10,13),(17,17)]) [75,74,73,0])))) (.region [oI 101 (.bin .add (.t 75) (.c (.int .i64 1))),oM 75 101] none [75,74,73,0]))))
def Zqg:Zf:=Zlj
def Zln:Zf:=(.seq (.region [oI 111 (.bin .lss (.t 110) (.t 109))] none [111,110,109,108,0]) (.seq (.cond (.t 111) .skip (.exit 3)) (.seq (.block 4 (.seq (.region [oI 112 (.iaddr 1 (.t 108) (.t 110)),oL 113 112,oM 7 113] none [110,109,108,7,0]) (.region [oM 114 0,oM 115 7,oI 116 (.call 49 1 true [(.t 114),(.t 115)])] none [110,109,108,0]))) (.region [oI 117 (.bin .add (.t 110) (.c (.int .i64 1))),oM 110 117] none [110,109,108,0]))))
def ZnZ:Zf:=Zln
def Znd:Zf:=(.seq (.region [oI 128 (.bin .lss (.t 127) (.t 126))] none [128,127,126,125,0]) (.seq (.cond (.t 128) .skip (.exit 5)) (.seq (.block 6 (.seq (.region [oI 129 (.iaddr 1 (.t 125) (.t 127)),oL 130 129,oM 9 130] none [127,126,125,9,0]) (.region [oM 131 0,oM 132 9,oI 133 (.call 47 1 true [(.t 131),(.t 132),(.c (.int .i64 1))])] none [127,126,125,0]))) (.region [oI 134 (.bin .add (.t 127) (.c (.int .i64 1))),oM 127 134] none [127,126,125,0]))))
def Zrb:Zf:=Znd
def ZdC:Zf:=(.seq (.region [oI 3 (.box (.t 1))] none [3,0]) (.seq (.region [oF 10 0 3,oL 11 10] none [11,3,0]) (.block 0 (.seq (.region [oI 13 (.bin .eql (.t 11) (.c (.int .i64 1))),oM 12 13] none [12,11,3,0]) (.cond (.t 12) (.region [oM 14 0,oI 15 (.ld (some 26) (.t 3)),oI 16 (.call 46 1 true [(.t 14),(.t 15)])] none []) (.seq (.region [oI 18 (.bin .eql (.t 11) (.c (.int .i64 2))),oM 17 18] none [17,11,3,0]) (.cond (.t 17) (.seq (.region [oM 19 0,oF 20 25 3,oL 21 20,oI 22 (.call 28 0 true [(.t 21),(.c (.int .i64 1))]),oI 23 (.call 47 1 true [(.t 19),(.t 22),(.c (.int .i64 1))])] none [3,0]) (.seq (.region [oM 24 0,oF 25 7 3,oL 26 25,oI 27 (.call 47 1 true [(.t 24),(.t 26),(.c (.int .i64 1))])] none [3,0]) (.region [oM 28 0,oF 29 9 3,oL 30 29,oI 31 (.call 48 1 true [(.t 28),(.c (.int .i64 2)),(.t 30)])] none []))) (.seq (.region [oI 33 (.bin .eql (.t 11) (.c (.int .i64 3))),oM 32 33] none [32,11,3,0]) (.cond (.t 32) (.seq (.region [oM 34 0,oF 35 5 3,oL 36 35,oI 37 (.call 49 1 true [(.t 34),(.t 36)])] none [3,0]) (.seq (.seq (.region [oF 38 2 3,oL 39 38,oI 40 (.bin .gtr (.t 39) (.c (.int .i64 0)))] none [40,3,0]) (.cond (.t 40) (.region [oM 41 0,oF 42 4 3,oL 43 42,oI 44 (.call 47 1 true [(.t 41),(.t 43),(.c (.int .i64 2))])] none [3,0]) .skip)) (.seq (.region [oM 45 0,oF 46 9 3,oL 47 46,oI 48 (.call 48 1 true [(.t 45),(.c (.int .i64 3)),(.t 47)])] none [3,0]) (.region [oM 49 0,oI 50 (.nilchk (.t 49)),oF 51 0 50,oF 52 6 3,oL 53 52,oI 54 (.call 50 1 true [(.t 51),(.t 53)])] (some [(5,5)]) [])))) (.seq (.seq (.region [oI 56 (.bin .eql (.t 11) (.c (.int .i64 4))),oM 55 56] none [55,11,3,0]) (.cond (.t 55) .skip (.seq (.region [oI 57 (.bin .eql (.t 11) (.c (.int .i64 5))),oM 55 57] none [55,11,3,0]) (.cond (.t 55) .skip (.seq (.region [oI 58 (.bin .eql (.t 11) (.c (.int .i64 6))),oM 55 58] none [55,11,3,0]) (.cond (.t 55) .skip (.region [oI 59 (.bin .eql (.t 11) (.c (.int .i64 7))),oM 55 59] none [55,11,3,0]))))))) (.cond (.t 55) (.seq (.region [oM 60 0,oF 61 4 3,oL 62 61,oI 63 (.call 47 1 true [(.t 60),(.t 62),(.c (.int .i64 2))])] none [3,0]) (.region [oM 64 0,oI 65 (.ld (some 26) (.t 3)),oI 66 (.call 51 1 true [(.t 64),(.t 65)])] none [])) (.seq (.region [oI 68 (.bin .eql (.t 11) (.c (.int .i64 8))),oM 67 68] none [67,11,3,0]) (.cond (.t 67) (.seq (.region [oM 69 0,oI 70 (.ld (some 26) (.t 3)),oI 71 (.call 52 1 true [(.t 69),(.t 70)])] none [3,0]) (.seq (.region [oF 72 10 3,oL 73 72,oI 74 (.len (.t 73)),oI 75 (.mov (.c (.int .i64 0)))] none [75,74,73,0]) (.block 1 (.loop [75,74,73,0] Zqg)))) (.seq (.region [oI 103 (.bin .eql (.t 11) (.c (.int .i64 10))),oM 102 103] none [102,11,3,0]) (.cond (.t 102) (.seq (.region [oM 104 0,oI 105 (.ld (some 26) (.t 3)),oI 106 (.call 52 1 true [(.t 104),(.t 105)])] none [3,0]) (.seq (.region [oF 107 11 3,oL 108 107,oI 109 (.len (.t 108)),oI 110 (.mov (.c (.int .i64 0)))] none [110,109,108,0]) (.block 3 (.loop [110,109,108,0] ZnZ)))) (.seq (.seq (.region [oI 119 (.bin .eql (.t 11) (.c (.int .i64 9))),oM 118 119] none [118,11,3,0]) (.cond (.t 118) .skip (.region [oI 120 (.bin .eql (.t 11) (.c (.int .i64 11))),oM 118 120] none [118,11,3,0]))) (.cond (.t 118) (.seq (.region [oM 121 0,oI 122 (.ld (some 26) (.t 3)),oI 123 (.call 52 1 true [(.t 121),(.t 122)])] none [3,0]) (.seq (.region [oF 124 8 3,oL 125 124,oI 126 (.len (.t 125)),oI 127 (.mov (.c (.int .i64 0)))] none [127,126,125,0]) (.block 5 (.loop [127,126,125,0] Zrb)))) (.seq (.seq (.region [oI 136 (.bin .eql (.t 11) (.c (.int .i64 14))),oM 135 136] none [135,11,3,0]) (.cond (.t 135) .skip (.region [oI 137 (.bin .eql (.t 11) (.c (.int .i64 15))),oM 135 137] none [135,3,0]))) (.cond (.t 135) (.region [oM 138 0,oI 139 (.ld (some 26) (.t 3)),oI 140 (.call 51 1 true [(.t 138),(.t 139)])] none []) .skip)))))))))))))))))))
def ZiS:ZQ:=⟨[],ZdC⟩
theorem ZeC:FC 25=some ZiS:=by kernel_rfl
theorem Zej:ZiS.body=ZdC:=rfl
theorem Zeh:ZiS.res=[]:=rfl
def ZeB:Zf:=(.seq (.region [oI 3 (.box (.t 1))] none [3,0]) (.seq (.region [oM 4 0,oI 5 (.call 49 1 true [(.t 4),(.c (.str [77,81,84,84]))])] none [3,0]) (.seq (.region [oM 6 0,oI 7 (.call 47 1 true [(.t 6),(.c (.int .i64 5)),(.c (.int .i64 1))])] none [3,0]) (.seq (.region [oM 8 0,oF 9 12 3,oL 10 9,oI 11 (.call 28 0 true [(.t 10),(.c (.int .i64 2))]),oF 12 15 3,oL 13 12,oI 14 (.call 28 0 true [(.t 13),(.c (.int .i64 4))]),oI 15 (.bin .add (.t 11) (.t 14)),oF 16 16 3,oF 17 2 16,oL 18 17,oI 19 (.bin .and (.t 18) (.c (.int .i64 3))),oI 20 (.bin .mul (.t 19) (.c (.int .i64 8))),oI 21 (.bin .add (.t 15) (.t 20)),oF 22 16 3,oF 23 3 22,oL 24 23,oI 25 (.call 28 0 true [(.t 24),(.c (.int .i64 32))]),oI 26 (.bin .add (.t 21) (.t 25)),oF 27 23 3,oL 28 27,oI 29 (.call 28 0 true [(.t 28),(.c (.int .i64 64))]),oI 30 (.bin .add (.t 26) (.t 29)),oF 31 21 3,oL 32 31,oI 33 (.call 28 0 true [(.t 32),(.c (.int .i64 128))]),oI 34 (.bin .add (.t 30) (.t 33)),oI 35 (.call 47 1 true [(.t 8),(.t 34),(.c (.int .i64 1))])] (some [(2,5),(3,5),(2,10),(3,10),(5,10),(6,10),(2,16),(3,16),(5,16),(6,16),(10,16),(10,17),(2,20),(3,20),(5,20),(6,20),(10,20),(16,20),(17,20),(10,21),(2,24),(3,24),(5,24),(6,24),(10,24),(16,24),(17,24),(20,24),(21,24),(10,25),(25,25),(27,27)]) [3,0]) (.seq (.region [oM 36 0,oF 37 13 3,oL 38 37,oI 39 (.call 47 1 true [(.t 36),(.t 38),(.c (.int .i64 2))])] none [3,0]) (.seq (.region [oM 40 0,oF 41 9 3,oL 42 41,oI 43 (.call 48 1 true [(.t 40),(.c (.int .i64 1)),(.t 42)])] none [3,0]) (.seq (.region [oM 44 0,oF 45 14 3,oL 46 45,oI 47 (.call 49 1 true [(.t 44),(.t 46)])] none [3,0]) (.seq (.seq (.region [oF 48 15 3,oL 49 48] none [49,3,0]) (.cond (.t 49) (.seq (.region [oM 50 0,oF 51 16 3,oF 52 4 51,oL 53 52,oI 54 (.call 48 1 true [(.t 50),(.c (.int .i64 16)),(.t 53)])] none [3,0]) (.seq (.region [oM 55 0,oF 56 16 3,oF 57 0 56,oL 58 57,oI 59 (.call 49 1 true [(.t 55),(.t 58)])] none [3,0]) (.region [oM 60 0,oF 61 16 3,oF 62 1 61,oL 63 62,oI 64 (.call 60 1 true [(.t 60),(.t 63)])] none [3,0]))) .skip)) (.seq (.seq (.region [oF 65 21 3,oL 66 65] none [66,3,0]) (.cond (.t 66) (.region [oM 67 0,oF 68 22 3,oL 69 68,oI 70 (.call 49 1 true [(.t 67),(.t 69)])] none [3,0]) .skip)) (.seq (.region [oF 71 23 3,oL 72 71] none [72,3,0]) (.cond (.t 72) (.region [oM 73 0,oF 74 24 3,oL 75 74,oI 76 (.call 60 1 true [(.t 73),(.t 75)])] none []) .skip)))))))))))
def Znu:ZQ:=⟨[],ZeB⟩
theorem ZOE:FC 46=some Znu:=by kernel_rfl
theorem ZfZ:Znu.body=ZeB:=rfl
theorem Zgf:Znu.res=[]:=rfl
def Zqh:Zf:=(.seq (.region [oM 7 1,oI 8 (.call 72 0 true [(.t 7)]),oM 6 8,oI 9 (.ext (.t 6) 0),oI 10 (.ext (.t 6) 1),oM 4 9,oM 5 10] none [4,0]) (.region [oM 11 0,oI 12 (.nilchk (.t 11)),oF 13 0 12,oM 14 4,oI 15 (.call 50 1 true [(.t 13),(.t 14)])] none []))
def ZqC:ZQ:=⟨[],Zqh⟩
theorem ZQc:FC 60=some ZqC:=by kernel_rfl
theorem ZAq:ZqC.body=Zqh:=rfl
theorem ZPr:ZqC.res=[]:=rfl
def Zrz:Zf:=(.seq (.region [oI 3 (.box (.t 1))] none [3,0]) (.seq (.region [oM 4 0,oF 5 4 3,oL 6 5,oI 7 (.call 47 1 true [(.t 4),(.t 6),(.c (.int .i64 2))])] none [3,0]) (.region [oM 8 0,oF 9 0 3,oL 10 9,oF 11 9 3,oL 12 11,oI 13 (.call 48 1 true [(.t 8),(.t 10),(.t 12)])] none [])))
def ZqM:ZQ:=⟨[],Zrz⟩
theorem ZBv:FC 52=some ZqM:=by kernel_rfl
theorem ZPN:ZqM.body=Zrz:=rfl
theorem ZH8:ZqM.res=[]:=rfl
def Zk0:Zf:=(.region [oM 6 0,oI 7 (.nilchk (.t 6)),oF 8 0 7,oM 9 1,oI 10 (.i2i .u64 (.t 9)),oM 11 2,oI 12 (.call 61 0 true [(.t 10),(.t 11)]),oI 13 (.call 50 1 true [(.t 8),(.t 12)])] (some [(6,6),(7,7)]) [])
def Zpu:ZQ:=⟨[],Zk0⟩
theorem ZwG:FC 47=some Zpu:=by kernel_rfl
theorem Zva:Zpu.body=Zk0:=rfl
theorem ZtX:Zpu.res=[]:=rfl
def ZrA:Zf:=(.seq (.region [oM 9 1,oM 10 2,oI 11 (.call 62 0 true [(.t 9),(.t 10)]),oM 8 11,oI 12 (.ext (.t 8) 0),oI 13 (.ext (.t 8) 1),oM 6 12,oM 7 13] none [6,0]) (.region [oM 14 0,oI 15 (.nilchk (.t 14)),oF 16 0 15,oM 17 6,oI 18 (.call 50 1 true [(.t 16),(.t 17)])] none []))
def Zqu:ZQ:=⟨[],ZrA⟩
theorem ZLl:FC 48=some Zqu:=by kernel_rfl
theorem ZM1:Zqu.body=ZrA:=rfl
theorem ZGZ:Zqu.res=[]:=rfl
def Ze0:Zf:=(.seq (.region [oI 3 (.box (.t 1))] none [3,0]) (.seq (.seq (.region [oF 4 7 3,oL 5 4,oI 6 (.bin .neq (.t 5) (.c (.int .i64 0))),oM 7 6,⟨(some 8),(.faddr 9 (.t 3)),(some (7,false)),[]⟩,⟨(some 9),(.ld none (.t 8)),(some (7,false)),[]⟩,⟨(some 10),(.len (.t 9)),(some (7,false)),[]⟩,⟨(some 11),(.bin .gtr (.t 10) (.c (.int .i64 0))),(some (7,false)),[]⟩,oI 12 (.pick (.t 7) (.c (.bool true)) (.t 11))] none [12,3,0]) (.cond (.t 12) (.region [oM 13 0,oF 14 7 3,oL 15 14,oI 16 (.call 47 1 true [(.t 13),(.t 15),(.c (.int .i64 1))])] none [3,0]) .skip)) (.seq (.region [oF 17 9 3,oL 18 17,oI 19 (.len (.t 18)),oI 20 (.bin .gtr (.t 19) (.c (.int .i64 0)))] none [20,3,0]) (.cond (.t 20) (.region [oM 21 0,oF 22 0 3,oL 23 22,oF 24 9 3,oL 25 24,oI 26 (.call 48 1 true [(.t 21),(.t 23),(.t 25)])] none []) .skip))))
def Zrn:ZQ:=⟨[],Ze0⟩
theorem Zr7:FC 51=some Zrn:=by kernel_rfl
theorem ZfR:Zrn.body=Ze0:=rfl
theorem ZgE:Zrn.res=[]:=rfl
def Znj:Zf:=(.seq (.region [oM 7 1,oI 8 (.call 63 0 true [(.t 7)]),oM 6 8,oI 9 (.ext (.t 6) 0),oI 10 (.ext (.t 6) 1),oM 4 9,oM 5 10] none [4,0]) (.region [oM 11 0,oI 12 (.nilchk (.t 11)),oF 13 0 12,oM 14 4,oI 15 (.call 50 1 true [(.t 13),(.t 14)])] none []))
def ZoJ:ZQ:=⟨[],Znj⟩
theorem Zwf:FC 49=some ZoJ:=by kernel_rfl
theorem Zto:ZoJ.body=Znj:=rfl
theorem ZsF:ZoJ.res=[]:=rfl
def ZnM:Zf:=(.seq (.region [oI 3 (.box (.t 1)),oI 4 (.mov (.c (.bool false)))] none [3,0]) (.seq (.region [oM 5 0,oI 6 (.call 68 0 true [(.t 5)]),oI 7 (.mkfn 69 [(.t 3)]),oI 8 (.call 67 0 true [(.t 6),(.t 7)]),oM 4 8] none [4]) .ret))
def Zre:ZQ:=⟨[(.tmp 4)],ZnM⟩
theorem ZCc:FC 56=some Zre:=by kernel_rfl
theorem ZGU:Zre.body=ZnM:=rfl
theorem ZPM:Zre.res=[(.tmp 4)]:=rfl
def ZkB:Zf:=(.seq (.region [oI 2 (.box (.t 0)),oI 3 (.mov (.c (.bool false)))] none [2,1]) (.seq (.region [oL 4 1,oF 5 0 2,oL 6 5,oI 7 (.bin .geq (.t 4) (.t 6)),oM 8 7,⟨(some 9),(.ld none (.t 1)),(some (8,true)),[]⟩,⟨(some 10),(.faddr 1 (.t 2)),(some (8,true)),[]⟩,⟨(some 11),(.ld none (.t 10)),(some (8,true)),[]⟩,⟨(some 12),(.bin .leq (.t 9) (.t 11)),(some (8,true)),[]⟩,oI 13 (.pick (.t 8) (.t 12) (.c (.bool false))),oM 3 13] none [3]) .ret))
def Zo1:ZQ:=⟨[(.tmp 3)],ZkB⟩
theorem ZHS:FC 69=some Zo1:=by kernel_rfl
theorem ZwE:Zo1.body=ZkB:=rfl
theorem ZwJ:Zo1.res=[(.tmp 3)]:=rfl
def ZcA:Zf:=(.seq (.region [oI 1 (.box (.t 0)),oI 2 (.alloc [(.int .u8 0),(.lst true [])]),oI 3 (.mov (.c (.int .i64 0)))] none [2,1]) (.seq (.region [oI 10 (.build [(.lst true []),(.int .i64 0),(.int .i8 0)] []),oI 11 (.box (.t 10)),oM 4 11] none [4,2,1]) (.seq (.region [oM 12 4,oI 13 (.ld (some 26) (.t 1)),oI 14 (.call 25 1 true [(.t 12),(.t 13)])] none [4,2,1]) (.seq (.region [oF 15 0 1,oL 16 15,oI 17 (.bin .shl (.t 16) (.c (.int .u64 4))),oI 18 (.i2i .u8 (.t 17)),oF 19 0 1,oL 20 19,oI 21 (.call 26 0 true [(.t 20)]),oI 22 (.bin .or (.t 18) (.t 21)),oM 23 4,oI 24 (.nilchk (.t 23)),oF 25 0 24,oI 26 (.call 27 0 true [(.t 25)]),oI 27 (.bslice false 1 1 (.lst true []) [(0,(.t 26))]),oI 28 (.call 15 0 true [(.t 27)]),oI 29 (.build [(.int .u8 0),(.lst true [])] [(0,1,(.t 22)),(1,1,(.t 28))]),oI 5 (.alloc [(.int .u8 0),(.lst true [])]),oN (.st 2 (.t 5) (.t 29))] (some [(1,5),(1,6),(1,11),(1,12),(1,13),(1,15),(5,15),(6,15),(11,15),(12,15),(13,15)]) [5,2,1]) (.seq (.seq (.region [oF 30 0 1,oL 31 30,oI 32 (.bin .eql (.t 31) (.c (.int .i64 3)))] none [32,5,2,1]) (.cond (.t 32) (.region [oF 33 0 5,oL 34 33,oF 35 1 1,oL 36 35,oI 37 (.call 28 0 true [(.t 36),(.c (.int .i64 8))]),oF 38 2 1,oL 39 38,oI 40 (.bin .and (.t 39) (.c (.int .i64 3))),oI 41 (.bin .mul (.t 40) (.c (.int .i64 2))),oI 42 (.bin .add (.t 37) (.t 41)),oF 43 3 1,oL 44 43,oI 45 (.call 28 0 true [(.t 44),(.c (.int .i64 1))]),oI 46 (.bin .add (.t 42) (.t 45)),oI 47 (.i2i .u8 (.t 46)),oI 48 (.bin .or (.t 34) (.t 47)),oF 49 0 5,oN (.st 1 (.t 49) (.t 48))] (some [(1,3),(1,4),(1,6),(3,6),(4,6),(1,11),(3,11),(4,11),(6,11),(1,12),(6,12),(12,12)]) [5,2,1]) .skip)) (.seq (.region [oI 51 (.ld (some 2) (.t 5)),oI 52 (.call 9 0 true [(.t 51)]),oM 50 52,oI 53 (.ext (.t 50) 0),oI 54 (.ext (.t 50) 1),oI 6 (.alloc [(.int .i64 0),(.bool false),(.int .i64 0),(.bool false),(.int .i64 0),(.str []),(.lst true []),(.int .i64 0),(.lst true []),(.lst true []),(.lst true []),(.lst true []),(.bool false),(.int .i64 0),(.str []),(.bool false),(.str []),(.lst true []),(.int .i64 0),(.bool false),(.lst true []),(.bool false),(.str []),(.bool false),(.lst true []),(.bool false)]),oN (.st 26 (.t 6) (.t 53)),oM 7 54] none [7,6,5,2,1]) (.seq (.seq (.region [oF 56 1 5,oL 57 56,oI 58 (.len (.t 57)),oI 59 (.call 14 0 true [(.t 58)]),oM 55 59,oI 60 (.ext (.t 55) 0),oI 61 (.ext (.t 55) 1),oM 8 60,oM 9 61] none [9,7,6,5,2,1]) (.seq (.region [oM 62 9,oI 63 (.bin .neq (.t 62) (.c (.int .i64 0))),oM 64 63,⟨(some 65),(.mov (.t 7)),(some (64,false)),[]⟩,⟨(some 66),(.bin .neq (.t 65) (.c (.int .i64 0))),(some (64,false)),[]⟩,oI 67 (.pick (.t 64) (.c (.bool true)) (.t 66)),oM 68 67,⟨(some 69),(.ld (some 26) (.t 6)),(some (68,false)),[]⟩,⟨(some 70),(.ld (some 26) (.t 1)),(some (68,false)),[]⟩,⟨(some 71),(.call 10 0 true [(.t 69),(.t 70)]),(some (68,false)),[]⟩,⟨(some 72),(.un .not (.t 71)),(some (68,false)),[]⟩,oI 73 (.pick (.t 68) (.c (.bool true)) (.t 72))] none [73,5,2]) (.cond (.t 73) (.seq (.region [oI 74 (.build [(.int .u8 0),(.lst true [])] []),oN (.st 2 (.t 2) (.t 74)),oI 3 (.mov (.c (.int .i64 129)))] none [3,2]) .ret) .skip))) (.seq (.region [oI 75 (.ld (some 2) (.t 5)),oN (.st 2 (.t 2) (.t 75)),oI 3 (.mov (.c (.int .i64 0)))] none [3,2]) .ret))))))))
def ZrC:ZQ:=⟨[(.cell 2 (some 2)),(.tmp 3)],ZcA⟩
theorem ZmY:FC 13=some ZrC:=by kernel_rfl
theorem ZcO:ZrC.body=ZcA:=rfl
theorem ZcV:ZrC.res=[(.cell 2 (some 2)),(.tmp 3)]:=rfl
def Zml:Zf:=(.seq (.region [oI 1 (.box (.t 0)),oI 2 (.mov (.c (.lst true []))),oI 3 (.mov (.c (.int .i64 0)))] none [1]) (.seq (.region [oI 9 (.ld (some 26) (.t 1)),oI 10 (.call 13 0 true [(.t 9)]),oM 8 10,oI 11 (.ext (.t 8) 0),oI 12 (.ext (.t 8) 1),oI 4 (.alloc [(.int .u8 0),(.lst true [])]),oN (.st 2 (.t 4) (.t 11)),oM 5 12] none [5,4]) (.seq (.seq (.region [oM 13 5,oI 14 (.bin .neq (.t 13) (.c (.int .i64 0)))] none [14,5,4]) (.cond (.t 14) (.seq (.region [oM 15 5,oI 2 (.mov (.c (.lst true []))),oM 3 15] none [3,2]) .ret) .skip)) (.seq (.region [oF 17 1 4,oL 18 17,oI 19 (.len (.t 18)),oI 20 (.call 14 0 true [(.t 19)]),oM 16 20,oI 21 (.ext (.t 16) 0),oI 22 (.ext (.t 16) 1),oM 6 21,oM 7 22] none [6,4]) (.seq (.region [oF 23 0 4,oL 24 23,oI 25 (.bslice false 1 1 (.int .u8 0) [(0,(.t 24))]),oM 26 6,oF 27 1 4,oL 28 27,oI 29 (.bslice false 1 3 (.lst true []) [(0,(.t 25)),(1,(.t 26)),(2,(.t 28))]),oI 30 (.call 15 0 true [(.t 29)]),oM 2 30,oI 3 (.mov (.c (.int .i64 0)))] none [3,2]) .ret)))))
def Zow:ZQ:=⟨[(.tmp 2),(.tmp 3)],Zml⟩
theorem Zsz:FC 5=some Zow:=by kernel_rfl
theorem ZwO:Zow.body=Zml:=rfl
theorem Zu3:Zow.res=[(.tmp 2),(.tmp 3)]:=rfl
def Zpf:Zf:=(.seq (.region [oI 2 (.box (.t 0)),oI 3 (.box (.t 1)),oI 4 (.mov (.c (.bool false)))] none [3,2]) (.seq (.region [oF 9 8 2,oL 10 9,oF 11 8 3,oL 12 11,oI 13 (.call 21 0 true [(.t 10),(.t 12)]),oM 14 13,⟨(some 15),(.faddr 10 (.t 2)),(some (14,true)),[]⟩,⟨(some 16),(.ld none (.t 15)),(some (14,true)),[]⟩,⟨(some 17),(.faddr 10 (.t 3)),(some (14,true)),[]⟩,⟨(some 18),(.ld none (.t 17)),(some (14,true)),[]⟩,⟨(some 19),(.call 22 0 true [(.t 16),(.t 18)]),(some (14,true)),[]⟩,oI 20 (.pick (.t 14) (.t 19) (.c (.bool false))),oM 21 20,⟨(some 22),(.faddr 11 (.t 2)),(some (21,true)),[]⟩,⟨(some 23),(.ld none (.t 22)),(some (21,true)),[]⟩,⟨(some 24),(.faddr 11 (.t 3)),(some (21,true)),[]⟩,⟨(some 25),(.ld none (.t 24)),(some (21,true)),[]⟩,⟨(some 26),(.call 23 0 true [(.t 23),(.t 25)]),(some (21,true)),[]⟩,oI 27 (.pick (.t 21) (.t 26) (.c (.bool false))),oM 28 27,⟨(some 29),(.faddr 9 (.t 2)),(some (28,true)),[]⟩,⟨(some 30),(.ld none (.t 29)),(some (28,true)),[]⟩,⟨(some 31),(.faddr 9 (.t 3)),(some (28,true)),[]⟩,⟨(some 32),(.ld none (.t 31)),(some (28,true)),[]⟩,⟨(some 33),(.call 24 0 true [(.t 30),(.t 32)]),(some (28,true)),[]⟩,oI 34 (.pick (.t 28) (.t 33) (.c (.bool false))),oM 35 34,⟨(some 36),(.faddr 16 (.t 2)),(some (35,true)),[]⟩,⟨(some 37),(.faddr 4 (.t 36)),(some (35,true)),[]⟩,⟨(some 38),(.ld none (.t 37)),(some (35,true)),[]⟩,⟨(some 39),(.faddr 16 (.t 3)),(some (35,true)),[]⟩,⟨(some 40),(.faddr 4 (.t 39)),(some (35,true)),[]⟩,⟨(some 41),(.ld none (.t 40)),(some (35,true)),[]⟩,⟨(some 42),(.call 24 0 true [(.t 38),(.t 41)]),(some (35,true)),[]⟩,oI 43 (.pick (.t 35) (.t 42) (.c (.bool false))),oM 5 43] none [5,3,2]) (.seq (.region [oF 44 6 2,oL 45 44,oI 46 (.b2s (.t 45)),oF 47 6 3,oL 48 47,oI 49 (.b2s (.t 48)),oI 50 (.bin .eql (.t 46) (.t 49)),oM 51 50,⟨(some 52),(.faddr 24 (.t 2)),(some (51,true)),[]⟩,⟨(some 53),(.ld none (.t 52)),(some (51,true)),[]⟩,⟨(some 54),(.b2s (.t 53)),(some (51,true)),[]⟩,⟨(some 55),(.faddr 24 (.t 3)),(some (51,true)),[]⟩,⟨(some 56),(.ld none (.t 55)),(some (51,true)),[]⟩,⟨(some 57),(.b2s (.t 56)),(some (51,true)),[]⟩,⟨(some 58),(.bin .eql (.t 54) (.t 57)),(some (51,true)),[]⟩,oI 59 (.pick (.t 51) (.t 58) (.c (.bool false))),oM 60 59,⟨(some 61),(.faddr 16 (.t 2)),(some (60,true)),[]⟩,⟨(some 62),(.faddr 1 (.t 61)),(some (60,true)),[]⟩,⟨(some 63),(.ld none (.t 62)),(some (60,true)),[]⟩,⟨(some 64),(.b2s (.t 63)),(some (60,true)),[]⟩,⟨(some 65),(.faddr 16 (.t 3)),(some (60,true)),[]⟩,⟨(some 66),(.faddr 1 (.t 65)),(some (60,true)),[]⟩,⟨(some 67),(.ld none (.t 66)),(some (60,true)),[]⟩,⟨(some 68),(.b2s (.t 67)),(some (60,true)),[]⟩,⟨(some 69),(.bin .eql (.t 64) (.t 68)),(some (60,true)),[]⟩,oI 70 (.pick (.t 60) (.t 69) (.c (.bool false))),oM 6 70] none [6,5,3,2]) (.seq (.region [oF 71 16 2,oF 72 0 71,oL 73 72,oF 74 16 3,oF 75 0 74,oL 76 75,oI 77 (.bin .eql (.t 73) (.t 76)),oM 78 77,⟨(some 79),(.faddr 16 (.t 2)),(some (78,true)),[]⟩,⟨(some 80),(.faddr 2 (.t 79)),(some (78,true)),[]⟩,⟨(some 81),(.ld none (.t 80)),(some (78,true)),[]⟩,⟨(some 82),(.faddr 16 (.t 3)),(some (78,true)),[]⟩,⟨(some 83),(.faddr 2 (.t 82)),(some (78,true)),[]⟩,⟨(some 84),(.ld none (.t 83)),(some (78,true)),[]⟩,⟨(some 85),(.bin .eql (.t 81) (.t 84)),(some (78,true)),[]⟩,oI 86 (.pick (.t 78) (.t 85) (.c (.bool false))),oM 87 86,⟨(some 88),(.faddr 16 (.t 2)),(some (87,true)),[]⟩,⟨(some 89),(.faddr 3 (.t 88)),(some (87,true)),[]⟩,⟨(some 90),(.ld none (.t 89)),(some (87,true)),[]⟩,⟨(some 91),(.faddr 16 (.t 3)),(some (87,true)),[]⟩,⟨(some 92),(.faddr 3 (.t 91)),(some (87,true)),[]⟩,⟨(some 93),(.ld none (.t 92)),(some (87,true)),[]⟩,⟨(some 94),(.beq false (.t 90) (.t 93)),(some (87,true)),[]⟩,oI 95 (.pick (.t 87) (.t 94) (.c (.bool false))),oM 7 95] none [7,6,5,3,2]) (.seq (.region [oF 96 1 2,oL 97 96,oF 98 1 3,oL 99 98,oI 100 (.beq false (.t 97) (.t 99)),oM 101 100,⟨(some 102),(.faddr 3 (.t 2)),(some (101,true)),[]⟩,⟨(some 103),(.ld none (.t 102)),(some (101,true)),[]⟩,⟨(some 104),(.faddr 3 (.t 3)),(some (101,true)),[]⟩,⟨(some 105),(.ld none (.t 104)),(some (101,true)),[]⟩,⟨(some 106),(.beq false (.t 103) (.t 105)),(some (101,true)),[]⟩,oI 107 (.pick (.t 101) (.t 106) (.c (.bool false))),oM 108 107,⟨(some 109),(.faddr 12 (.t 2)),(some (108,true)),[]⟩,⟨(some 110),(.ld none (.t 109)),(some (108,true)),[]⟩,⟨(some 111),(.faddr 12 (.t 3)),(some (108,true)),[]⟩,⟨(some 112),(.ld none (.t 111)),(some (108,true)),[]⟩,⟨(some 113),(.beq false (.t 110) (.t 112)),(some (108,true)),[]⟩,oI 114 (.pick (.t 108) (.t 113) (.c (.bool false))),oM 115 114,⟨(some 116),(.faddr 15 (.t 2)),(some (115,true)),[]⟩,⟨(some 117),(.ld none (.t 116)),(some (115,true)),[]⟩,⟨(some 118),(.faddr 15 (.t 3)),(some (115,true)),[]⟩,⟨(some 119),(.ld none (.t 118)),(some (115,true)),[]⟩,⟨(some 120),(.beq false (.t 117) (.t 119)),(some (115,true)),[]⟩,oI 121 (.pick (.t 115) (.t 120) (.c (.bool false))),oM 122 121,⟨(some 123),(.faddr 21 (.t 2)),(some (122,true)),[]⟩,⟨(some 124),(.ld none (.t 123)),(some (122,true)),[]⟩,⟨(some 125),(.faddr 21 (.t 3)),(some (122,true)),[]⟩,⟨(some 126),(.ld none (.t 125)),(some (122,true)),[]⟩,⟨(some 127),(.beq false (.t 124) (.t 126)),(some (122,true)),[]⟩,oI 128 (.pick (.t 122) (.t 127) (.c (.bool false))),oM 129 128,⟨(some 130),(.faddr 23 (.t 2)),(some (129,true)),[]⟩,⟨(some 131),(.ld none (.t 130)),(some (129,true)),[]⟩,⟨(some 132),(.faddr 23 (.t 3)),(some (129,true)),[]⟩,⟨(some 133),(.ld none (.t 132)),(some (129,true)),[]⟩,⟨(some 134),(.beq false (.t 131) (.t 133)),(some (129,true)),[]⟩,oI 135 (.pick (.t 129) (.t 134) (.c (.bool false))),oM 136 135,⟨(some 137),(.faddr 25 (.t 2)),(some (136,true)),[]⟩,⟨(some 138),(.ld none (.t 137)),(some (136,true)),[]⟩,⟨(some 139),(.faddr 25 (.t 3)),(some (136,true)),[]⟩,⟨(some 140),(.ld none (.t 139)),(some (136,true)),[]⟩,⟨(some 141),(.beq false (.t 138) (.t 140)),(some (136,true)),[]⟩,oI 142 (.pick (.t 136) (.t 141) (.c (.bool false))),oM 8 142] none [8,7,6,5,3,2]) (.seq (.region [oM 143 5,oM 144 143,⟨(some 145),(.mov (.t 6)),(some (144,true)),[]⟩,oI 146 (.pick (.t 144) (.t 145) (.c (.bool false))),oM 147 146,⟨(some 148),(.mov (.t 7)),(some (147,true)),[]⟩,oI 149 (.pick (.t 147) (.t 148) (.c (.bool false))),oM 150 149,⟨(some 151),(.mov (.t 8)),(some (150,true)),[]⟩,oI 152 (.pick (.t 150) (.t 151) (.c (.bool false))),oM 153 152,⟨(some 154),(.faddr 0 (.t 2)),(some (153,true)),[]⟩,⟨(some 155),(.ld none (.t 154)),(some (153,true)),[]⟩,⟨(some 156),(.faddr 0 (.t 3)),(some (153,true)),[]⟩,⟨(some 157),(.ld none (.t 156)),(some (153,true)),[]⟩,⟨(some 158),(.bin .eql (.t 155) (.t 157)),(some (153,true)),[]⟩,oI 159 (.pick (.t 153) (.t 158) (.c (.bool false))),oM 160 159,⟨(some 161),(.faddr 2 (.t 2)),(some (160,true)),[]⟩,⟨(some 162),(.ld none (.t 161)),(some (160,true)),[]⟩,⟨(some 163),(.faddr 2 (.t 3)),(some (160,true)),[]⟩,⟨(some 164),(.ld none (.t 163)),(some (160,true)),[]⟩,⟨(some 165),(.bin .eql (.t 162) (.t 164)),(some (160,true)),[]⟩,oI 166 (.pick (.t 160) (.t 165) (.c (.bool false))),oM 167 166,⟨(some 168),(.faddr 4 (.t 2)),(some (167,true)),[]⟩,⟨(some 169),(.ld none (.t 168)),(some (167,true)),[]⟩,⟨(some 170),(.faddr 4 (.t 3)),(some (167,true)),[]⟩,⟨(some 171),(.ld none (.t 170)),(some (167,true)),[]⟩,⟨(some 172),(.bin .eql (.t 169) (.t 171)),(some (167,true)),[]⟩,oI 173 (.pick (.t 167) (.t 172) (.c (.bool false))),oM 174 173,⟨(some 175),(.faddr 5 (.t 2)),(some (174,true)),[]⟩,⟨(some 176),(.ld none (.t 175)),(some (174,true)),[]⟩,⟨(some 177),(.faddr 5 (.t 3)),(some (174,true)),[]⟩,⟨(some 178),(.ld none (.t 177)),(some (174,true)),[]⟩,⟨(some 179),(.bin .eql (.t 176) (.t 178)),(some (174,true)),[]⟩,oI 180 (.pick (.t 174) (.t 179) (.c (.bool false))),oM 181 180,⟨(some 182),(.faddr 7 (.t 2)),(some (181,true)),[]⟩,⟨(some 183),(.ld none (.t 182)),(some (181,true)),[]⟩,⟨(some 184),(.faddr 7 (.t 3)),(some (181,true)),[]⟩,⟨(some 185),(.ld none (.t 184)),(some (181,true)),[]⟩,⟨(some 186),(.bin .eql (.t 183) (.t 185)),(some (181,true)),[]⟩,oI 187 (.pick (.t 181) (.t 186) (.c (.bool false))),oM 188 187,⟨(some 189),(.faddr 13 (.t 2)),(some (188,true)),[]⟩,⟨(some 190),(.ld none (.t 189)),(some (188,true)),[]⟩,⟨(some 191),(.faddr 13 (.t 3)),(some (188,true)),[]⟩,⟨(some 192),(.ld none (.t 191)),(some (188,true)),[]⟩,⟨(some 193),(.bin .eql (.t 190) (.t 192)),(some (188,true)),[]⟩,oI 194 (.pick (.t 188) (.t 193) (.c (.bool false))),oM 195 194,⟨(some 196),(.faddr 14 (.t 2)),(some (195,true)),[]⟩,⟨(some 197),(.ld none (.t 196)),(some (195,true)),[]⟩,⟨(some 198),(.faddr 14 (.t 3)),(some (195,true)),[]⟩,⟨(some 199),(.ld none (.t 198)),(some (195,true)),[]⟩,⟨(some 200),(.bin .eql (.t 197) (.t 199)),(some (195,true)),[]⟩,oI 201 (.pick (.t 195) (.t 200) (.c (.bool false))),oM 202 201,⟨(some 203),(.faddr 22 (.t 2)),(some (202,true)),[]⟩,⟨(some 204),(.ld none (.t 203)),(some (202,true)),[]⟩,⟨(some 205),(.faddr 22 (.t 3)),(some (202,true)),[]⟩,⟨(some 206),(.ld none (.t 205)),(some (202,true)),[]⟩,⟨(some 207),(.bin .eql (.t 204) (.t 206)),(some (202,true)),[]⟩,oI 208 (.pick (.t 202) (.t 207) (.c (.bool false))),oM 4 208] none [4]) .ret))))))
def Zo2:ZQ:=⟨[(.tmp 4)],Zpf⟩
theorem ZEu:FC 10=some Zo2:=by kernel_rfl
theorem ZM6:Zo2.body=Zpf:=rfl
theorem ZFQ:Zo2.res=[(.tmp 4)]:=rfl
def ZdL:Zf:=(.seq (.region [oI 2 (.mov (.c (.lst true [])))] none [0]) (.seq (.seq (.region [oM 3 0] none [3]) (.block 0 (.seq (.region [oI 5 (.bin .eql (.t 3) (.c (.int .i64 2))),oM 4 5] none [4,3]) (.cond (.t 4) (.seq (.region [oI 6 (.build [(.int .i64 0),(.int .i64 0)] [(0,1,(.c (.int .i64 0))),(1,1,(.c (.int .i64 0)))]),oI 7 (.build [(.int .i64 0),(.int .i64 0)] [(0,1,(.c (.int .i64 128))),(1,1,(.c (.int .i64 138)))]),oI 8 (.build [(.int .i64 0),(.int .i64 0)] [(0,1,(.c (.int .i64 140))),(1,1,(.c (.int .i64 140)))]),oI 9 (.build [(.int .i64 0),(.int .i64 0)] [(0,1,(.c (.int .i64 144))),(1,1,(.c (.int .i64 144)))]),oI 10 (.build [(.int .i64 0),(.int .i64 0)] [(0,1,(.c (.int .i64 149))),(1,1,(.c (.int .i64 149)))]),oI 11 (.build [(.int .i64 0),(.int .i64 0)] [(0,1,(.c (.int .i64 151))),(1,1,(.c (.int .i64 151)))]),oI 12 (.build [(.int .i64 0),(.int .i64 0)] [(0,1,(.c (.int .i64 153))),(1,1,(.c (.int .i64 157)))]),oI 13 (.build [(.int .i64 0),(.int .i64 0)] [(0,1,(.c (.int .i64 159))),(1,1,(.c (.int .i64 159)))]),oI 14 (.bslice false 2 8 (.agg [(.int .i64 0),(.int .i64 0)]) [(0,(.t 6)),(1,(.t 7)),(2,(.t 8)),(3,(.t 9)),(4,(.t 10)),(5,(.t 11)),(6,(.t 12)),(7,(.t 13))]),oM 2 14] none [2]) .ret) (.seq (.seq (.region [oI 16 (.bin .eql (.t 3) (.c (.int .i64 4))),oM 15 16] none [15,3]) (.cond (.t 15) .skip (.region [oI 17 (.bin .eql (.t 3) (.c (.int .i64 5))),oM 15 17] none [15,3]))) (.cond (.t 15) (.seq (.region [oI 18 (.build [(.int .i64 0),(.int .i64 0)] [(0,1,(.c (.int .i64 0))),(1,1,(.c (.int .i64 0)))]),oI 19 (.build [(.int .i64 0),(.int .i64 0)] [(0,1,(.c (.int .i64 16))),(1,1,(.c (.int .i64 16)))]),oI 20 (.build [(.int .i64 0),(.int .i64 0)] [(0,1,(.c (.int .i64 128))),(1,1,(.c (.int .i64 128)))]),oI 21 (.build [(.int .i64 0),(.int .i64 0)] [(0,1,(.c (.int .i64 131))),(1,1,(.c (.int .i64 131)))]),oI 22 (.build [(.int .i64 0),(.int .i64 0)] [(0,1,(.c (.int .i64 135))),(1,1,(.c (.int .i64 135)))]),oI 23 (.build [(.int .i64 0),(.int .i64 0)] [(0,1,(.c (.int .i64 144))),(1,1,(.c (.int .i64 145)))]),oI 24 (.build [(.int .i64 0),(.int .i64 0)] [(0,1,(.c (.int .i64 151))),(1,1,(.c (.int .i64 151)))]),oI 25 (.build [(.int .i64 0),(.int .i64 0)] [(0,1,(.c (.int .i64 153))),(1,1,(.c (.int .i64 153)))]),oI 26 (.bslice false 2 8 (.agg [(.int .i64 0),(.int .i64 0)]) [(0,(.t 18)),(1,(.t 19)),(2,(.t 20)),(3,(.t 21)),(4,(.t 22)),(5,(.t 23)),(6,(.t 24)),(7,(.t 25))]),oM 2 26] none [2]) .ret) (.seq (.seq (.region [oI 28 (.bin .eql (.t 3) (.c (.int .i64 6))),oM 27 28] none [27,3]) (.cond (.t 27) .skip (.region [oI 29 (.bin .eql (.t 3) (.c (.int .i64 7))),oM 27 29] none [27,3]))) (.cond (.t 27) (.seq (.region [oI 30 (.build [(.int .i64 0),(.int .i64 0)] [(0,1,(.c (.int .i64 0))),(1,1,(.c (.int .i64 0)))]),oI 31 (.build [(.int .i64 0),(.int .i64 0)] [(0,1,(.c (.int .i64 146))),(1,1,(.c (.int .i64 146)))]),oI 32 (.bslice false 2 2 (.agg [(.int .i64 0),(.int .i64 0)]) [(0,(.t 30)),(1,(.t 31))]),oM 2 32] none [2]) .ret) (.seq (.region [oI 34 (.bin .eql (.t 3) (.c (.int .i64 9))),oM 33 34] none [33,3]) (.cond (.t 33) (.seq (.region [oI 35 (.build [(.int .i64 0),(.int .i64 0)] [(0,1,(.c (.int .i64 0))),(1,1,(.c (.int .i64 2)))]),oI 36 (.build [(.int .i64 0),(.int .i64 0)] [(0,1,(.c (.int .i64 128))),(1,1,(.c (.int .i64 128)))]),oI 37 (.build [(.int .i64 0),(.int .i64 0)] [(0,1,(.c (.int .i64 131))),(1,1,(.c (.int .i64 131)))]),oI 38 (.build [(.int .i64 0),(.int .i64 0)] [(0,1,(.c (.int .i64 135))),(1,1,(.c (.int .i64 135)))]),oI 39 (.build [(.int .i64 0),(.int .i64 0)] [(0,1,(.c (.int .i64 143))),(1,1,(.c (.int .i64 143)))]),oI 40 (.build [(.int .i64 0),(.int .i64 0)] [(0,1,(.c (.int .i64 145))),(1,1,(.c (.int .i64 145)))]),oI 41 (.build [(.int .i64 0),(.int .i64 0)] [(0,1,(.c (.int .i64 151))),(1,1,(.c (.int .i64 151)))]),oI 42 (.build [(.int .i64 0),(.int .i64 0)] [(0,1,(.c (.int .i64 158))),(1,1,(.c (.int .i64 158)))]),oI 43 (.build [(.int .i64 0),(.int .i64 0)] [(0,1,(.c (.int .i64 161))),(1,1,(.c (.int .i64 162)))]),oI 44 (.bslice false 2 9 (.agg [(.int .i64 0),(.int .i64 0)]) [(0,(.t 35)),(1,(.t 36)),(2,(.t 37)),(3,(.t 38)),(4,(.t 39)),(5,(.t 40)),(6,(.t 41)),(7,(.t 42)),(8,(.t 43))]),oM 2 44] none [2]) .ret) (.seq (.region [oI 46 (.bin .eql (.t 3) (.c (.int .i64 11))),oM 45 46] none [45,3]) (.cond (.t 45) (.seq (.region [oI 47 (.build [(.int .i64 0),(.int .i64 0)] [(0,1,(.c (.int .i64 0))),(1,1,(.c (.int .i64 0)))]),oI 48 (.build [(.int .i64 0),(.int .i64 0)] [(0,1,(.c (.int .i64 17))),(1,1,(.c (.int .i64 17)))]),oI 49 (.build [(.int .i64 0),(.int .i64 0)] [(0,1,(.c (.int .i64 128))),(1,1,(.c (.int .i64 128)))]),oI 50 (.build [(.int .i64 0),(.int .i64 0)] [(0,1,(.c (.int .i64 131))),(1,1,(.c (.int .i64 131)))]),oI 51 (.build [(.int .i64 0),(.int .i64 0)] [(0,1,(.c (.int .i64 135))),(1,1,(.c (.int .i64 135)))]),oI 52 (.build [(.int .i64 0),(.int .i64 0)] [(0,1,(.c (.int .i64 143))),(1,1,(.c (.int .i64 143)))]),oI 53 (.build [(.int .i64 0),(.int .i64 0)] [(0,1,(.c (.int .i64 145))),(1,1,(.c (.int .i64 145)))]),oI 54 (.bslice false 2 7 (.agg [(.int .i64 0),(.int .i64 0)]) [(0,(.t 47)),(1,(.t 48)),(2,(.t 49)),(3,(.t 50)),(4,(.t 51)),(5,(.t 52)),(6,(.t 53))]),oM 2 54] none [2]) .ret) (.seq (.region [oI 56 (.bin .eql (.t 3) (.c (.int .i64 14))),oM 55 56] none [55,3]) (.cond (.t 55) (.seq (.region [oI 57 (.build [(.int .i64 0),(.int .i64 0)] [(0,1,(.c (.int .i64 0))),(1,1,(.c (.int .i64 0)))]),oI 58 (.build [(.int .i64 0),(.int .i64 0)] [(0,1,(.c (.int .i64 4))),(1,1,(.c (.int .i64 4)))]),oI 59 (.build [(.int .i64 0),(.int .i64 0)] [(0,1,(.c (.int .i64 128))),(1,1,(.c (.int .i64 131)))]),oI 60 (.build [(.int .i64 0),(.int .i64 0)] [(0,1,(.c (.int .i64 135))),(1,1,(.c (.int .i64 135)))]),oI 61 (.build [(.int .i64 0),(.int .i64 0)] [(0,1,(.c (.int .i64 137))),(1,1,(.c (.int .i64 137)))]),oI 62 (.build [(.int .i64 0),(.int .i64 0)] [(0,1,(.c (.int .i64 139))),(1,1,(.c (.int .i64 139)))]),oI 63 (.build [(.int .i64 0),(.int .i64 0)] [(0,1,(.c (.int .i64 141))),(1,1,(.c (.int .i64 144)))]),oI 64 (.build [(.int .i64 0),(.int .i64 0)] [(0,1,(.c (.int .i64 147))),(1,1,(.c (.int .i64 162)))]),oI 65 (.bslice false 2 8 (.agg [(.int .i64 0),(.int .i64 0)]) [(0,(.t 57)),(1,(.t 58)),(2,(.t 59)),(3,(.t 60)),(4,(.t 61)),(5,(.t 62)),(6,(.t 63)),(7,(.t 64))]),oM 2 65] none [2]) .ret) (.seq (.region [oI 67 (.bin .eql (.t 3) (.c (.int .i64 15))),oM 66 67] none [66]) (.cond (.t 66) (.seq (.region [oI 68 (.build [(.int .i64 0),(.int .i64 0)] [(0,1,(.c (.int .i64 0))),(1,1,(.c (.int .i64 0)))]),oI 69 (.build [(.int .i64 0),(.int .i64 0)] [(0,1,(.c (.int .i64 24))),(1,1,(.c (.int .i64 25)))]),oI 70 (.bslice false 2 2 (.agg [(.int .i64 0),(.int .i64 0)]) [(0,(.t 68)),(1,(.t 69))]),oM 2 70] none [2]) .ret) .skip)))))))))))))))) (.seq (.region [oI 2 (.mov (.c (.lst true [])))] none [2]) .ret)))
def Zn3:ZQ:=⟨[(.tmp 2)],ZdL⟩
theorem Ze5:FC 68=some Zn3:=by kernel_rfl
theorem Zfa:Zn3.body=ZdL:=rfl
theorem ZeX:Zn3.res=[(.tmp 2)]:=rfl
def ZiB:Zf:=(.seq (.region [oI 2 (.mov (.c (.int .u8 0)))] none [0]) (.seq (.seq (.region [oM 3 0] none [3]) (.block 0 (.seq (.seq (.region [oI 5 (.bin .eql (.t 3) (.c (.int .i64 6))),oM 4 5] none [4,3]) (.cond (.t 4) .skip (.seq (.region [oI 6 (.bin .eql (.t 3) (.c (.int .i64 8))),oM 4 6] none [4,3]) (.cond (.t 4) .skip (.region [oI 7 (.bin .eql (.t 3) (.c (.int .i64 10))),oM 4 7] none [4]))))) (.cond (.t 4) (.seq (.region [oI 2 (.mov (.c (.int .u8 2)))] none [2]) .ret) .skip)))) (.seq (.region [oI 2 (.mov (.c (.int .u8 0)))] none [2]) .ret)))
def ZpH:ZQ:=⟨[(.tmp 2)],ZiB⟩
theorem Zl8:FC 26=some ZpH:=by kernel_rfl
theorem ZlQ:ZpH.body=ZiB:=rfl
theorem Zmh:ZpH.res=[(.tmp 2)]:=rfl
def ZpZ:Zf:=(.seq (.region [oI 4 (.mov (.c (.int .i64 0)))] none [1,0]) (.seq (.seq (.region [oM 5 0] none [5,1]) (.cond (.t 5) (.seq (.region [oM 6 1,oM 4 6] none [4]) .ret) .skip)) (.seq (.region [oI 4 (.mov (.c (.int .i64 0)))] none [4]) .ret)))
def Zp3:ZQ:=⟨[(.tmp 4)],ZpZ⟩
theorem ZBJ:FC 28=some Zp3:=by kernel_rfl
theorem Zyg:Zp3.body=ZpZ:=rfl
theorem ZOM:Zp3.res=[(.tmp 4)]:=rfl
def Zlx:Zf:=(.seq (.region [oM 4 0,oI 5 (.un .not (.t 4))] none [5,1]) (.cond (.t 5) (.region [oM 6 1,oI 7 (.mki 25 (.t 6)),oN (.panic (.t 7))] none []) .skip))
def ZoL:ZQ:=⟨[],Zlx⟩
theorem ZtG:FC 31=some ZoL:=by kernel_rfl
theorem ZwR:ZoL.body=Zlx:=rfl
theorem ZB5:ZoL.res=[]:=rfl
end
section
def ZG (c:Int):AVal:=.iface 25 (.int .i64 c)
theorem Zbm (c:Int) (σ:Za) (sq own:Nat):Zk E BY σ sq 31 own true [.bool true,.int .i64 c]=some (.tup [],σ,{}):=by
 have h:E 31 [.bool true,.int .i64 c] []=some (.tup [],[]):=by
  rw [Zj (by rfl) ZtG]
  simp -implicitDefEqProofs only [EQA,Zx,Xc,Xa,unA,reduceCtorEq,↓reduceIte,Zd,ZwR,Zlx,ZB5]
 exact ZcU (h) (by kernel_rfl) (by simp -implicitDefEqProofs only [Zdb,ZbJ,eq_self,eq_self]) (by simp -implicitDefEqProofs only [ZH,ZbJ,eq_self,eq_self]) rfl (fun _=>rfl) _ _ _ _
theorem ZbO (c:Int) (σ:Za) (sq own:Nat):Zk E BY σ sq 31 own true [.bool false,.int .i64 c]=some (.pan (ZG c),σ,{}):=by
 have h:E 31 [.bool false,.int .i64 c] []=some (.pan (ZG c),[]):=by
  rw [Zj (by rfl) ZtG]
  simp -implicitDefEqProofs only [EQA,Zx,Xc,Xa,unA,reduceCtorEq,↓reduceIte,ZwR,Zlx,ZG]
 exact ZcU (h) (by kernel_rfl) (by simp -implicitDefEqProofs only [Zdb,ZbJ,eq_self]) (by simp -implicitDefEqProofs only [ZH,ZbJ,eq_self]) rfl (fun _=>rfl) _ _ _ _
theorem ZaM {xs ys:List AVal} (h:Zd xs=true) (h':Zd ys=true):Zd (xs++ys)=true:=by
 induction xs with
 | nil=>exact h'
 | cons x xs ih =>
  simp only [Zd,Xl,XU] at h ⊢
  exact ⟨h.1,ih h.2⟩
section
variable (P:List AVal) (hP:P.length=26) (hN:Zd P=true)
include hP
theorem Zac (L:AVal):(P++[L]).length=27:=by simp [hP]
theorem Zay (L:AVal):(P++[L])[26]?=some L:=by
 rw [List.getElem?_append_right (by omega)];simp [hP]
theorem Ze4 (L:AVal):(P++[L]).take 26=P:=by
 rw [X5 (by omega),List.take_of_length_le (by omega)]
theorem ZfY (L:AVal):(P++[L]).drop 27=[]:=List.drop_eq_nil_of_le (by simp [hP])
include hN
theorem ZE (f:Bool) (xs:List AVal):Zd (P++[.lst f xs])=true:=ZaM hN rfl
theorem ZEk (l:Zc) (n:Nat) (hn:n<=l.length) (hl:l.length<=140737488355328):E 33 [.ref 0 0,.int .i64 (n:Nat)] [.var (P++[.lst false (l.map Zb)])]=some (.int .i64 (Zjh (l.take n)),[.var (P++[.lst false ((l.drop n).map Zb)])]):=by
 have h1:(l.length:Int)>=((n:Nat):Int):=by omega
 have s1:=fun σ kk=>ZhV σ 1 l Zb kk (n:Int) (by omega) (by omega)
 have s2:=fun σ kk=>Zft σ l kk (n:Int) (by omega) (by omega)
 have e2:((n:Int)).toNat=n:=rfl
 rw [e2] at s1 s2
 have ht:(l.take n).length<=9223372036854775807:=by simp;omega
 have hG:=fun σ sq own f=>ZlC σ sq own (l.take n) ht f
 have a1:=Zac P hP
 have a2:=Zay P hP
 have a3:=Ze4 P hP
 have a4:=ZfY P hP
 have m1:=Zbm
 rw [Zj (by rfl) Zmt]
 simp -implicitDefEqProofs only [EQA,ZH,Xe,Xc,Xf,Xa,reduceCtorEq,↓reduceIte,Zku,Zig,ZuV,h1,s1,s2,hG,a1,a2,a3,a4,m1,Zjh]
 exact Z8 rfl (ZE P hP hN _ _)
theorem ZxX (l:Zc) (n:Nat) (hn:l.length < n) (hn':n<=9223372036854775807):E 33 [.ref 0 0,.int .i64 (n:Nat)] [.var (P++[.lst false (l.map Zb)])]=some (.pan (ZG 129),[.var (P++[.lst false (l.map Zb)])]):=by
 have h1:¬(l.length:Int)>=((n:Nat):Int):=by omega
 have a2:=Zay P hP
 have m1:=ZbO
 rw [Zj (by rfl) Zmt]
 simp -implicitDefEqProofs only [EQA,Xc,Xa,reduceCtorEq,↓reduceIte,Zku,Zig,h1,a2,m1]
 exact Z8 rfl (ZE P hP hN _ _)
theorem ZO1 (l:Zc) (hl:l.length<=140737488355328) (h:(Zai l).2.2=0):E 42 [.ref 0 0] [.var (P++[.lst false (l.map Zb)])]=some (.str (Zai l).1,[.var (P++[.lst false ((l.drop (Zai l).2.1).map Zb)])]):=by
 have hG:=fun σ sq own f=>ZiL σ sq own f l hl
 have hu:=(ZiN l).1
 unfold gtT at hG
 have s2:=fun σ kk=>Zft σ l kk ((Zai l).2.1:Int) (by omega) (by omega)
 have e2:(((Zai l).2.1:Nat):Int).toNat=(Zai l).2.1:=rfl
 rw [e2] at s2
 rw [h] at hG
 have a1:=Zac P hP
 have a2:=Zay P hP
 have a3:=Ze4 P hP
 have a4:=ZfY P hP
 have m1:=Zbm
 rw [Zj (by rfl) Zm6]
 simp -implicitDefEqProofs only [EQA,ZH,Zx,Xe,Xc,Xf,Xa,reduceCtorEq,↓reduceIte,Zlz,ZhO,Zvf,s2,hG,a1,a2,a3,a4,m1]
 exact Z8 rfl (ZE P hP hN _ _)
theorem ZAG (l:Zc) (hl:l.length<=140737488355328) (h:(Zai l).2.2≠0):E 42 [.ref 0 0] [.var (P++[.lst false (l.map Zb)])]=some (.pan (ZG 129),[.var (P++[.lst false (l.map Zb)])]):=by
 have hG:=fun σ sq own f=>ZiL σ sq own f l hl
 unfold gtT at hG
 have h0:((Zai l).2.2 == 0)=false:=by simpa using h
 have h1:=h
 have a2:=Zay P hP
 have m1:=ZbO
 rw [Zj (by rfl) Zm6]
 simp -implicitDefEqProofs only [EQA,Xc,Xa,reduceCtorEq,↓reduceIte,Zlz,ZhO,hG,a2,h0,m1]
 exact Z8 rfl (ZE P hP hN _ _)
theorem ZAR (l:Zc) (hl:l.length<=140737488355328) (h:(ZaP l).2.2=0):E 54 [.ref 0 0] [.var (P++[.lst false (l.map Zb)])]=some (.lst false ((ZaP l).1.map Zb),[.var (P++[.lst false ((l.drop (ZaP l).2.1).map Zb)])]):=by
 have hG:=fun σ sq own f=>Zmr σ sq own f l hl
 have hu:=(Zma l).1
 unfold gdT at hG
 have s2:=fun σ kk=>Zft σ l kk ((ZaP l).2.1:Int) (by omega) (by omega)
 have e2:(((ZaP l).2.1:Nat):Int).toNat=(ZaP l).2.1:=rfl
 rw [e2] at s2
 rw [h] at hG
 have a1:=Zac P hP
 have a2:=Zay P hP
 have a3:=Ze4 P hP
 have a4:=ZfY P hP
 have m1:=Zbm
 rw [Zj (by rfl) Zvq]
 simp -implicitDefEqProofs only [EQA,ZH,Zx,Xe,Xc,Xf,Xa,reduceCtorEq,↓reduceIte,ZsH,Zlk,ZQS,s2,hG,a1,a2,a3,a4,m1]
 exact Z8 rfl (ZE P hP hN _ _)
theorem ZER (l:Zc) (hl:l.length<=140737488355328) (h:(ZaP l).2.2≠0):E 54 [.ref 0 0] [.var (P++[.lst false (l.map Zb)])]=some (.pan (ZG 129),[.var (P++[.lst false (l.map Zb)])]):=by
 have hG:=fun σ sq own f=>Zmr σ sq own f l hl
 unfold gdT at hG
 have h0:((ZaP l).2.2 == 0)=false:=by simpa using h
 have h1:=h
 have a2:=Zay P hP
 have m1:=ZbO
 rw [Zj (by rfl) Zvq]
 simp -implicitDefEqProofs only [EQA,Xc,Xa,reduceCtorEq,↓reduceIte,ZsH,Zlk,hG,a2,h0,m1]
 exact Z8 rfl (ZE P hP hN _ _)
theorem ZAi (w:Int) (l:Zc) (hl:l.length<=140737488355328) (h:(Zap w l).2.2=0) (hu:(Zap w l).2.1<=l.length):E 35 [.ref 0 0,.int .i64 w] [.var (P++[.lst false (l.map Zb)])]=some (.lst false ((Zap w l).1.map Zu),[.var (P++[.lst false ((l.drop (Zap w l).2.1).map Zb)])]):=by
 have hG:=fun σ sq own f=>Zli σ sq own f w l hl
 have s2:=fun σ kk=>Zft σ l kk ((Zap w l).2.1:Int) (by omega) (by omega)
 have e2:(((Zap w l).2.1:Nat):Int).toNat=(Zap w l).2.1:=rfl
 rw [e2] at s2
 rw [h] at hG
 have a1:=Zac P hP
 have a2:=Zay P hP
 have a3:=Ze4 P hP
 have a4:=ZfY P hP
 have m1:=Zbm
 generalize Zap w l=R at *
 rw [Zj (by rfl) Zuh]
 simp -implicitDefEqProofs only [EQA,ZH,Zx,Xe,Xc,Xf,Xa,reduceCtorEq,↓reduceIte,Zsq,ZmL,ZHD,s2,hG,a1,a2,a3,a4,m1]
 exact Z8 rfl (ZE P hP hN _ _)
theorem ZPc (w:Int) (l:Zc) (hl:l.length<=140737488355328) (h:(Zap w l).2.2≠0):E 35 [.ref 0 0,.int .i64 w] [.var (P++[.lst false (l.map Zb)])]=some (.pan (ZG (Zap w l).2.2),[.var (P++[.lst false (l.map Zb)])]):=by
 have hG:=fun σ sq own f=>Zli σ sq own f w l hl
 have h0:((Zap w l).2.2 == 0)=false:=by simpa using h
 have h1:=h
 have a2:=Zay P hP
 have m1:=ZbO
 generalize Zap w l=R at *
 rw [Zj (by rfl) Zuh]
 simp -implicitDefEqProofs only [EQA,Xc,Xa,reduceCtorEq,↓reduceIte,Zsq,ZmL,hG,a2,h0,m1]
 exact Z8 rfl (ZE P hP hN _ _)
end
end
section
theorem ZnX {O:ZX} {bf:Nat->Bool} {σ:Za} {t sq f own:Nat} {view:Bool} {args vs vs':List AVal} {cs cs':List AVal} {r:AVal} (hs:σ[t]?=some (.var cs)) (hc:Zd cs=true) (hc':Zd cs'=true) (hb:bf f=false) (hff:Zba σ sq own=true)
  (hsh:showAs σ args=some (vs,[])) (href:Zw vs=[t]) (hren:∀ ρ:Rho,ρ t 0=some (0,0)->Zg ρ vs=vs') (hn:ZI r=true) (hv:viewR [.var cs'] r=some (r,[]))
  (h:O f vs' [.var cs]=some (r,[.var cs'])):Zk O bf σ sq f own view args=some (r,σ.set t (.var cs'),{ any:=true,upd:=[(t,cs')] }):=by
 have htl:t < σ.length:=by
  rcases WB t σ.length with h | h
  ·exact h
  ·rw [XS h] at hs;cases hs
 have hup:Zbd (σ.set t (.var cs')) [t]=[(t,cs')]:=by
  simp only [Zbd,Xs,if_pos htl,if_true]
 have hd:σ.getD t .free=.var cs:=by simp [Xh,hs]
 have hf0:Zp σ []=σ:=rfl
 unfold Zk ZbW
 rw [hb]
 simp only [Xi,if_false,hsh,hf0,href,Zfe hs hc]
 unfold ZbM
 have hall:([t].all fun t=>okB (σ.getD t .free))=true:=by simp [XD,Wr,hs,okB]
 rw [if_pos hall]
 have hρ:Zi σ 0 [t] t 0=some (0,0):=by simp [Zi,ZO,hs,Zl,ZF]
 have hheap:Zq σ 0 [t] (Zi σ 0 [t]) [t] 0=[.var cs]:=by
  simp only [Zq,hd,Zz,(Za8 _ cs hc).1]
 rw [hren _ hρ,hheap,h]
 have hask:Z2 view [t].length (some (r,[.var cs']))=some (r,[.var cs']):=by
  unfold Z2
  split
  ·have hnp:∀ x,r≠.pan x:=by rintro x rfl;simp [viewR,ZU,ZP] at hv
   rw [show Zbw [t].length (some (r,[.var cs']))=(match viewR [.var cs'] r with
    | some (r',ts)=>match gcA [t].length [r'] (Zp [.var cs'] ts) with
     | ([r''],σ')=>some (r'',σ')
     | _=>none
    | none=>none) from by cases r <;> first | rfl | exact absurd rfl (hnp _)]
   rw [hv]
   simp only [XF,XJ,XG,show Zp [ZR.var cs'] []=[.var cs'] from rfl,Zl1 hn hc']
  ·rfl
 rw [hask]
 have hk:ZaY σ [t] [.var cs'] 0=true:=by
  simp [ZaY,okB,hs,Zb7,Zl]
 simp only [ZaH,Wu,Xi,if_false,XF,XJ,XG,Xau,Xx,decide_true,hk,hff,Wg,if_true,Za9,ZaO,Xu,Zz,(Z4 _ r hn).1,(Za8 _ cs' hc').1,hup]
def ZfV (k:Int):List (Int×Int) :=
 if k=2 then [(0,0),(128,138),(140,140),(144,144),(149,149),(151,151),(153,157),(159,159)] else
 if k=4 then [(0,0),(16,16),(128,128),(131,131),(135,135),(144,145),(151,151),(153,153)] else
 if k=5 then [(0,0),(16,16),(128,128),(131,131),(135,135),(144,145),(151,151),(153,153)] else
 if k=6 then [(0,0),(146,146)] else
 if k=7 then [(0,0),(146,146)] else
 if k=9 then [(0,2),(128,128),(131,131),(135,135),(143,143),(145,145),(151,151),(158,158),(161,162)] else
 if k=11 then [(0,0),(17,17),(128,128),(131,131),(135,135),(143,143),(145,145)] else
 if k=14 then [(0,0),(4,4),(128,131),(135,135),(137,137),(139,139),(141,144),(147,162)] else
 if k=15 then [(0,0),(24,25)] else
 []
def Zd4 (s:Int×Int):AVal:=.agg [.int .i64 s.1,.int .i64 s.2]
def Zf9 (c:Int) (s:Int×Int):Bool:=decide (c>=s.1) && decide (c<=s.2)
def Zmc (k c:Int):Bool:=(ZfV k).any (Zf9 c)
theorem ZIk (k:Int):(ZfV k).length<=9:=by
 unfold ZfV
 repeat' split
 all_goals simp
theorem ZQg (k:Int):∃ f,E 68 [.int .i64 k] []=some (.lst f ((ZfV k).map Zd4),[]):=by
 refine ⟨true,?_⟩
 unfold ZfV
 by_cases h2:k=2
 ·subst h2
  rw [Zj (by rfl) Ze5]
  simp -implicitDefEqProofs only [EQA,Zx,Xe,Xc,Xf,Xa,reduceCtorEq,↓reduceIte,Zfa,ZdL,ZeX,Zau,AVal.cells,Zbv,viewAs,ZU,ZP,ZaL,Zp]
  rfl
 by_cases h4:k=4
 ·subst h4
  rw [Zj (by rfl) Ze5]
  simp -implicitDefEqProofs only [EQA,Zx,Zdq,Xe,Xc,Xf,Xa,reduceCtorEq,ite_self,↓reduceIte,Zfa,ZdL,ZeX,Xq,Zau,AVal.cells,Zbv,viewAs,ZU,ZP,ZaL,Zp]
  rfl
 by_cases h5:k=5
 ·subst h5
  rw [Zj (by rfl) Ze5]
  simp -implicitDefEqProofs only [EQA,Zx,Zdq,Xe,Xc,Xf,Xa,reduceCtorEq,ite_self,↓reduceIte,Zfa,ZdL,ZeX,Xq,Zau,AVal.cells,Zbv,viewAs,ZU,ZP,ZaL,Zp]
  rfl
 by_cases h6:k=6
 ·subst h6
  rw [Zj (by rfl) Ze5]
  simp -implicitDefEqProofs only [EQA,Zx,Zdq,Xe,Xc,Xf,Xa,reduceCtorEq,ite_self,↓reduceIte,Zfa,ZdL,ZeX,Xq,Zau,AVal.cells,Zbv,viewAs,ZU,ZP,ZaL,Zp]
  rfl
 by_cases h7:k=7
 ·subst h7
  rw [Zj (by rfl) Ze5]
  simp -implicitDefEqProofs only [EQA,Zx,Zdq,Xe,Xc,Xf,Xa,reduceCtorEq,ite_self,↓reduceIte,Zfa,ZdL,ZeX,Xq,Zau,AVal.cells,Zbv,viewAs,ZU,ZP,ZaL,Zp]
  rfl
 by_cases h9:k=9
 ·subst h9
  rw [Zj (by rfl) Ze5]
  simp -implicitDefEqProofs only [EQA,Zx,Zdq,Xe,Xc,Xf,Xa,reduceCtorEq,↓reduceIte,Zfa,ZdL,ZeX,Xq,Zau,AVal.cells,Zbv,viewAs,ZU,ZP,ZaL,Zp]
  rfl
 by_cases h11:k=11
 ·subst h11
  rw [Zj (by rfl) Ze5]
  simp -implicitDefEqProofs only [EQA,Zx,Zdq,Xe,Xc,Xf,Xa,reduceCtorEq,↓reduceIte,Zfa,ZdL,ZeX,Xq,Zau,AVal.cells,Zbv,viewAs,ZU,ZP,ZaL,Zp]
  rfl
 by_cases h14:k=14
 ·subst h14
  rw [Zj (by rfl) Ze5]
  simp -implicitDefEqProofs only [EQA,Zx,Zdq,Xe,Xc,Xf,Xa,reduceCtorEq,ite_self,↓reduceIte,Zfa,ZdL,ZeX,Xq,Zau,AVal.cells,Zbv,viewAs,ZU,ZP,ZaL,Zp]
  rfl
 by_cases h15:k=15
 ·subst h15
  rw [Zj (by rfl) Ze5]
  simp -implicitDefEqProofs only [EQA,Zx,Zdq,Xe,Xc,Xf,Xa,reduceCtorEq,ite_self,↓reduceIte,Zfa,ZdL,ZeX,Xq,Zau,AVal.cells,Zbv,viewAs,ZU,ZP,ZaL,Zp]
  rfl
 have b2:(k == 2)=false:=by simpa using h2
 have b4:(k == 4)=false:=by simpa using h4
 have b5:(k == 5)=false:=by simpa using h5
 have b6:(k == 6)=false:=by simpa using h6
 have b7:(k == 7)=false:=by simpa using h7
 have b9:(k == 9)=false:=by simpa using h9
 have b11:(k == 11)=false:=by simpa using h11
 have b14:(k == 14)=false:=by simpa using h14
 have b15:(k == 15)=false:=by simpa using h15
 rw [if_neg h2,if_neg h4,if_neg h5,if_neg h6,if_neg h7,if_neg h9,if_neg h11,if_neg h14,if_neg h15]
 rw [Zj (by rfl) Ze5]
 simp -implicitDefEqProofs only [EQA,Zx,Xc,Xa,reduceCtorEq,↓reduceIte,Zfa,ZdL,ZeX,b2,b4,b5,b6,b7,b9,b11,b14,b15]
theorem ZKK (c:Int) (s:Int×Int):E 69 [.agg [.int .i64 s.1,.int .i64 s.2],.ref 0 0] [.var [.int .i64 c]]=some (.bool (Zf9 c s),[.var [.int .i64 c]]):=by
 unfold Zf9
 rw [Zj (by rfl) ZHS]
 by_cases h:c>=s.1
 ·simp -implicitDefEqProofs only [EQA,ZH,ZN,Xe,Xc,Xa,Xg,ZA,unG,reduceCtorEq,↓reduceIte,Zd,ZwE,ZkB,ZwJ,h]
  try (simp [Zak,gcA,Zy,Zt,Zw,Z9,Zi,Zq,ZO,Zl,ZF,Zg,Zr,Zz,ZC,Wo])
 ·simp -implicitDefEqProofs only [EQA,ZH,ZN,Xe,Xc,Xa,Xg,ZA,Zal,reduceCtorEq,↓reduceIte,Zd,ZwE,ZkB,ZwJ,h]
  try (simp [Zak,gcA,Zy,Zt,Zw,Z9,Zi,Zq,ZO,Zl,ZF,Zg,Zr,Zz,ZC,Wo])
theorem ZzQ (k:Int) (σ:Za) (sq own:Nat):Zk E BY σ sq 68 own true [.int .i64 k]=some (.lst false ((ZfV k).map Zd4),σ,{}):=by
 obtain ⟨f,h⟩:=ZQg k
 exact ZbI h (by kernel_rfl) rfl rfl rfl (fun _=>rfl) _ _ _
theorem ZJT (σ:Za) (sq t own:Nat) (view:Bool) (c:Int) (s:Int×Int) (hs:σ[t]?=some (.var [.int .i64 c])) (hff:Zba σ sq own=true):Zk E BY σ sq 69 own view [.agg [.int .i64 s.1,.int .i64 s.2],.ref t 0]=some (.bool (Zf9 c s),σ.set t (.var [.int .i64 c]),{ any:=true,upd:=[(t,[.int .i64 c])] }) :=
 ZnX hs rfl rfl (by kernel_rfl) hff rfl rfl (fun ρ h=>by simp only [Zg,Zr,h]) rfl rfl (ZKK c s)
theorem Zt8 (L:List (Int×Int)) (c:Int) (hL:L.length<=9223372036854775807):∀ (r:List (Int×Int)) (i:Nat),L.drop i=r ->
  ∃ z,Zl0 1 [(8,.int .i64 i),(7,.int .i64 L.length),(1,.fn 69 [.ref 0 0]),(0,.lst false (L.map Zd4))] [.var [.int .i64 c]]=some (.int .i64 z,[.var [.int .i64 c]])/\decide (z>=0)=r.any (Zf9 c)
 | [],i,h=>by
  have h1:=Zdy h
  refine ⟨-1,?_,by simp⟩
  unfold Zl0
  rw [ZL]
  simp -implicitDefEqProofs only [EQA,ZN,Xc,Xa,reduceCtorEq,↓reduceIte,Zd,Zup,ZOd,Zoq,Zon,Zka,h1]
 | x::r,i,h=>by
  obtain ⟨z,ih,hz⟩:=Zt8 L c hL r (i+1) (Zah h).2.1
  have h1:(i:Int) < L.length:=by have:=(Zah h).2.2;omega
  have e1:=iad (Zah h).1 Zd4 (k:=2) rfl
  have e3:=ZcI h1 hL
  have hm:x ∈ L:=List.mem_of_getElem? (Zah h).1
  have hc:=fun σ sq t own view hs hff=>ZJT σ sq t own view c x hs hff
  unfold Zl0 at ih ⊢
  cases hb:Zf9 c x
  ·refine ⟨z,?_,by rw [hz];simp [hb]⟩
   rw [ZL]
   simp -implicitDefEqProofs only [EQA,ZH,ZN,Xe,Xc,Xf,Xa,Xg,reduceCtorEq,↓reduceIte,gcT,gcA,Zy,Zt,Zi,Zq,ZO,Zl,ZF,Zz,ZC,Wo,Zon,Zka,h1,e1,e3,hc,hb,Zba,Zd4]
   exact ih
  ·refine ⟨i,?_,by simp [hb]⟩
   rw [ZL]
   simp -implicitDefEqProofs only [EQA,ZH,ZN,Xe,Xc,Xf,Xa,Xg,reduceCtorEq,↓reduceIte,Zd,Zup,Zon,Zka,h1,e1,hc,hb,Zba,Zd4]
theorem ZEM (L:List (Int×Int)) (c:Int) (hL:L.length<=9223372036854775807) :
  ∃ z,E 77 [.lst false (L.map Zd4),.fn 69 [.ref 0 0]] [.var [.int .i64 c]]=some (.int .i64 z,[.var [.int .i64 c]])/\decide (z>=0)=L.any (Zf9 c):=by
 obtain ⟨z,h,hz⟩:=Zt8 L c hL L 0 rfl
 refine ⟨z,?_,hz⟩
 rw [Zj (by rfl) ZBf]
 have z0:((0:Nat):Int)=0:=rfl
 rw [z0] at h
 unfold Zl0 at h
 simp -implicitDefEqProofs only [EQA,ZN,Xc,Xa,reduceCtorEq,↓reduceIte,gcT,gcA,Zy,Zt,Zi,Zq,ZO,Zl,ZF,Zz,ZC,Wo,ZJN,ZnI,h]
theorem ZDY (L:List (Int×Int)) (c:Int) (hL:L.length<=9223372036854775807) :
  E 67 [.lst false (L.map Zd4),.fn 69 [.ref 0 0]] [.var [.int .i64 c]]=some (.bool (L.any (Zf9 c)),[.var [.int .i64 c]]):=by
 obtain ⟨z,h,hz⟩:=ZEM L c hL
 rw [Zj (by rfl) ZEo]
 have hc:=fun (σ:Za) sq t view hs=>ZnX (O:=E) (bf:=BY) (σ:=σ) (t:=t) (sq:=sq) (own:=0) (view:=view) (f:=77) (args:=[.lst false (L.map Zd4),.fn 69 [.ref t 0]]) (vs:=[.lst false (L.map Zd4),.fn 69 [.ref t 0]]) hs rfl rfl (by kernel_rfl) rfl rfl rfl (fun ρ h=>by simp only [Zg,Zr,h]) rfl rfl h
 simp -implicitDefEqProofs only [EQA,ZN,Xc,Xa,reduceCtorEq,↓reduceIte,Zd,ZHE,ZoV,ZNs,hc,hz]
theorem ZOn (k c:Int):E 56 [.int .i64 k,.int .i64 c] []=some (.bool (Zmc k c),[]):=by
 have h:=ZDY (ZfV k) c (by have:=ZIk k;omega)
 have hC:=fun σ sq own=>ZzQ k σ sq own
 unfold Zmc
 generalize ZfV k=L at *
 rw [Zj (by rfl) ZCc]
 have hc:=fun (σ:Za) sq t view hs=>ZnX (O:=E) (bf:=BY) (σ:=σ) (t:=t) (sq:=sq) (own:=0) (view:=view) (f:=67) (args:=[.lst false (L.map Zd4),.fn 69 [.ref t 0]]) (vs:=[.lst false (L.map Zd4),.fn 69 [.ref t 0]]) hs rfl rfl (by kernel_rfl) rfl rfl rfl (fun ρ h=>by simp only [Zg,Zr,h]) rfl rfl h
 simp -implicitDefEqProofs only [EQA,ZH,Xc,Xa,Xg,reduceCtorEq,↓reduceIte,ZGU,ZnM,ZPM,hC,hc]
theorem Zi0 (k c:Int) (σ:Za) (sq own:Nat):Zk E BY σ sq 56 own true [.int .i64 k,.int .i64 c]=some (.bool (Zmc k c),σ,{}) :=
 ZcU (ZOn k c) (by kernel_rfl) (by simp -implicitDefEqProofs only [Zdb,ZbJ,eq_self,eq_self]) (by simp -implicitDefEqProofs only [ZH,ZbJ,eq_self,eq_self]) rfl (fun _=>rfl) _ _ _ _
end
section
abbrev RK (α:Type):=Except Int (α×Zc)
def ZaS (n:Nat) (l:Zc):RK Int:=if l.length < n then .error 129 else .ok (Zjh (l.take n),l.drop n)
def Zaw (l:Zc):RK Zc:=if (Zai l).2.2=0 then .ok ((Zai l).1,l.drop (Zai l).2.1) else .error 129
def ZdI (l:Zc):RK Zc:=if (ZaP l).2.2=0 then .ok ((ZaP l).1,l.drop (ZaP l).2.1) else .error 129
def ZbY (w:Int) (l:Zc):RK (List ZB):=if (Zap w l).2.2=0 then .ok ((Zap w l).1,l.drop (Zap w l).2.1) else .error (Zap w l).2.2
def idK (l:Zc):RK Int:=match ZaS 2 l with
 | .ok (n,r)=>if n=0 then .error 130 else .ok (n,r)
 | .error c=>.error c
def ZaR (k:Int) (l:Zc):RK Int:=match ZaS 1 l with
 | .ok (n,r)=>if Zmc k n=true then .ok (n,r) else .error 130
 | .error c=>.error c
theorem ZZ {v:AVal} (hv:ZI v=true):∀ {P:List AVal} (k:Nat),Zd P=true->Zd (P.set k v)=true
 | [],_,_=>rfl
 | x::P,0,h=>by
  simp only [Zd,Xl,WO] at h ⊢
  exact ⟨hv,h.2⟩
 | x::P,k+1,h=>by
  simp only [Zd,Xl,WP] at h ⊢
  exact ⟨h.1,ZZ hv k h.2⟩
theorem Zcj (f:Bool) (xs:List AVal):ZI (.lst f xs)=true:=rfl
section
variable (P:List AVal) (hP:P.length=26) (hN:Zd P=true)
include hP
theorem ZaG (k k':Nat) (hk:k < 26) (hk':k'=k+1) (L v:AVal):List.take k (P++[L])++[v]++List.drop k' (P++[L])=P.set k v++[L]:=by
 subst hk'
 rw [X5 (by omega),List.drop_append_of_le_length (by omega),<-Wa]
 congr 1
 rw [List.set_eq_take_append_cons_drop,if_pos (by omega)]
 simp
theorem Zaf (k:Nat) (hk:k < 26) (L:AVal):(P++[L])[k]?=P[k]?:=Wh (by omega)
theorem Zib (k:Nat) (hk:k < 26) (L v:AVal):(P.set k v++[L])[k]?=some v:=by
 rw [Wh (by simp;omega),X2 (by omega)]
include hN
section
variable (l:Zc) (hl:l.length<=140737488355328) (σ:Za) (t sq:Nat) (hs:σ[t]?=some (.var (P++[.lst false (l.map Zb)])))
include hl hs
theorem Zc2 {n:Nat} {m:Int} {a:Int} {r:Zc} (hm:((n:Nat):Int)=m) (h:ZaS n l=.ok (a,r)):Zk E BY σ sq 33 0 true [.ref t 0,.int .i64 m]=some (.int .i64 a,σ.set t (.var (P++[.lst false (r.map Zb)])),{ any:=true,upd:=[(t,P++[.lst false (r.map Zb)])] }):=by
 subst hm
 unfold ZaS at h
 split at h
 ·cases h
 ·injection h with h;injection h with h1 h2;subst h1 h2
  exact Zde (rest:=[.int .i64 (n:Nat)]) (by kernel_rfl) rfl (ZE P hP hN _ _) (ZE P hP hN _ _) rfl rfl (ZEk P hP hN l n (by omega) hl) hs sq
theorem Zgx {n:Nat} {m:Int} {c:Int} (hm:((n:Nat):Int)=m) (hn:n<=9223372036854775807) (h:ZaS n l=.error c):Zk E BY σ sq 33 0 true [.ref t 0,.int .i64 m]=some (.pan (ZG c),σ.set t (.var (P++[.lst false (l.map Zb)])),{ any:=true,upd:=[(t,P++[.lst false (l.map Zb)])] }):=by
 subst hm
 unfold ZaS at h
 split at h
 ·injection h with h;subst h
  exact ZcS (rest:=[.int .i64 (n:Nat)]) (by kernel_rfl) rfl (ZE P hP hN _ _) (ZE P hP hN _ _) rfl (ZxX P hP hN l n (by omega) hn) hs sq
 ·cases h
theorem Zer {a r:Zc} (h:Zaw l=.ok (a,r)):Zk E BY σ sq 42 0 true [.ref t 0]=some (.str a,σ.set t (.var (P++[.lst false (r.map Zb)])),{ any:=true,upd:=[(t,P++[.lst false (r.map Zb)])] }):=by
 unfold Zaw at h
 split at h
 ·rename_i h0
  injection h with h;injection h with h1 h2;subst h1 h2
  exact Zde (rest:=[]) (by kernel_rfl) rfl (ZE P hP hN _ _) (ZE P hP hN _ _) rfl rfl (ZO1 P hP hN l hl h0) hs sq
 ·cases h
theorem ZgM {c:Int} (h:Zaw l=.error c):Zk E BY σ sq 42 0 true [.ref t 0]=some (.pan (ZG c),σ.set t (.var (P++[.lst false (l.map Zb)])),{ any:=true,upd:=[(t,P++[.lst false (l.map Zb)])] }):=by
 unfold Zaw at h
 split at h
 ·cases h
 ·rename_i h0
  injection h with h;subst h
  exact ZcS (rest:=[]) (by kernel_rfl) rfl (ZE P hP hN _ _) (ZE P hP hN _ _) rfl (ZAG P hP hN l hl h0) hs sq
theorem Zxr {a r:Zc} (h:ZdI l=.ok (a,r)):Zk E BY σ sq 54 0 true [.ref t 0]=some (.lst false (a.map Zb),σ.set t (.var (P++[.lst false (r.map Zb)])),{ any:=true,upd:=[(t,P++[.lst false (r.map Zb)])] }):=by
 unfold ZdI at h
 split at h
 ·rename_i h0
  injection h with h;injection h with h1 h2;subst h1 h2
  exact Zde (rest:=[]) (by kernel_rfl) rfl (ZE P hP hN _ _) (ZE P hP hN _ _) rfl rfl (ZAR P hP hN l hl h0) hs sq
 ·cases h
theorem Zu5 {c:Int} (h:ZdI l=.error c):Zk E BY σ sq 54 0 true [.ref t 0]=some (.pan (ZG c),σ.set t (.var (P++[.lst false (l.map Zb)])),{ any:=true,upd:=[(t,P++[.lst false (l.map Zb)])] }):=by
 unfold ZdI at h
 split at h
 ·cases h
 ·rename_i h0
  injection h with h;subst h
  exact ZcS (rest:=[]) (by kernel_rfl) rfl (ZE P hP hN _ _) (ZE P hP hN _ _) rfl (ZER P hP hN l hl h0) hs sq
theorem Zeq {w:Int} {a:List ZB} {r:Zc} (hu:(Zap w l).2.1<=l.length) (h:ZbY w l=.ok (a,r)):Zk E BY σ sq 35 0 true [.ref t 0,.int .i64 w]=some (.lst false (a.map Zu),σ.set t (.var (P++[.lst false (r.map Zb)])),{ any:=true,upd:=[(t,P++[.lst false (r.map Zb)])] }):=by
 unfold ZbY at h
 split at h
 ·rename_i h0
  injection h with h;injection h with h1 h2;subst h1 h2
  exact Zde (rest:=[.int .i64 w]) (by kernel_rfl) rfl (ZE P hP hN _ _) (ZE P hP hN _ _) rfl rfl (ZAi P hP hN w l hl h0 hu) hs sq
 ·cases h
theorem ZfQ {w c:Int} (h:ZbY w l=.error c):Zk E BY σ sq 35 0 true [.ref t 0,.int .i64 w]=some (.pan (ZG c),σ.set t (.var (P++[.lst false (l.map Zb)])),{ any:=true,upd:=[(t,P++[.lst false (l.map Zb)])] }):=by
 unfold ZbY at h
 split at h
 ·cases h
 ·rename_i h0
  injection h with h;subst h
  exact ZcS (rest:=[.int .i64 w]) (by kernel_rfl) rfl (ZE P hP hN _ _) (ZE P hP hN _ _) rfl (ZPc P hP hN w l hl h0) hs sq
end
theorem ZHz (l:Zc) (hl:l.length<=140737488355328) {n:Int} {r:Zc} (h:idK l=.ok (n,r)):E 37 [.ref 0 0] [.var (P++[.lst false (l.map Zb)])]=some (.tup [],[.var (P.set 4 (.int .i64 n)++[.lst false (r.map Zb)])]):=by
 unfold idK at h
 split at h
 case h_2=>cases h
 rename_i n' r' h2
 split at h
 ·cases h
 rename_i hn
 injection h with h;injection h with h3 h4;subst h3 h4
 have hG:=fun σ sq hs=>Zc2 P hP hN l hl σ 0 sq hs (m:=2) rfl h2
 have a1:=Zac P hP
 have a3:=ZaG P hP 4 5 (by omega) rfl
 have a4:=Zib P hP 4 (by omega)
 have m1:=Zbm
 have h0:(n' != 0)=true:=by simpa using hn
 rw [Zj (by rfl) ZrF]
 simp -implicitDefEqProofs only [EQA,ZH,Zx,Xe,Xc,Xf,Xa,reduceCtorEq,↓reduceIte,Zd,ZqS,ZjI,ZBY,hG,a1,a3,a4,m1,h0]
 exact Z8 rfl (ZaM (ZZ rfl 4 hN) (by rfl))
theorem Zkt (l:Zc) (hl:l.length<=140737488355328) {c:Int} (h:idK l=.error c):∃ cs,Zd cs=true/\E 37 [.ref 0 0] [.var (P++[.lst false (l.map Zb)])]=some (.pan (ZG c),[.var cs]):=by
 unfold idK at h
 split at h
 ·rename_i n' r' h2
  split at h
  case isFalse=>cases h
  rename_i hn
  injection h with h;subst h hn
  have hG:=fun σ sq hs=>Zc2 P hP hN l hl σ 0 sq hs (m:=2) rfl h2
  have a1:=Zac P hP
  have a3:=ZaG P hP 4 5 (by omega) rfl
  have a4:=Zib P hP 4 (by omega)
  have m1:=ZbO
  refine ⟨P.set 4 (.int .i64 0)++[.lst false (r'.map Zb)],ZaM (ZZ rfl 4 hN) (by rfl),?_⟩
  rw [Zj (by rfl) ZrF]
  simp -implicitDefEqProofs only [EQA,ZH,Xe,Xc,Xf,Xa,reduceCtorEq,↓reduceIte,ZqS,ZjI,hG,a1,a3,a4,m1,bne_self_eq_false]
  exact Z8 rfl (ZaM (ZZ rfl 4 hN) (by rfl))
 ·rename_i c' h2
  injection h with h;subst h
  have hG:=fun σ sq hs=>Zgx P hP hN l hl σ 0 sq hs (m:=2) rfl (by decide) h2
  refine ⟨P++[.lst false (l.map Zb)],ZaM hN (by rfl),?_⟩
  rw [Zj (by rfl) ZrF]
  simp -implicitDefEqProofs only [EQA,Xc,reduceCtorEq,↓reduceIte,ZqS,ZjI,hG]
  exact Z8 rfl (ZaM hN (by rfl))
theorem ZON (k:Int) (hk:P[0]?=some (.int .i64 k)) (l:Zc) (hl:l.length<=140737488355328) {n:Int} {r:Zc} (h:ZaR k l=.ok (n,r)):E 34 [.ref 0 0] [.var (P++[.lst false (l.map Zb)])]=some (.int .i64 n,[.var (P++[.lst false (r.map Zb)])]):=by
 unfold ZaR at h
 split at h
 case h_2=>cases h
 rename_i n' r' h2
 split at h
 case isFalse=>cases h
 rename_i hn
 injection h with h;injection h with h3 h4;subst h3 h4
 have hG:=fun σ sq hs=>Zc2 P hP hN l hl σ 0 sq hs (m:=1) rfl h2
 have a4:=fun L=>(Zaf P hP 0 (by omega) L).trans hk
 have m1:=Zbm
 have hC:=fun σ sq own=>Zi0 k n' σ sq own
 rw [hn] at hC
 rw [Zj (by rfl) ZgI]
 simp -implicitDefEqProofs only [EQA,Xc,Xa,reduceCtorEq,↓reduceIte,Zgs,ZeJ,ZuP,hG,hC,a4,m1]
 exact Z8 rfl (ZaM hN (by rfl))
theorem ZtP (k:Int) (hk:P[0]?=some (.int .i64 k)) (l:Zc) (hl:l.length<=140737488355328) {c:Int} (h:ZaR k l=.error c):∃ cs,Zd cs=true/\E 34 [.ref 0 0] [.var (P++[.lst false (l.map Zb)])]=some (.pan (ZG c),[.var cs]):=by
 unfold ZaR at h
 split at h
 ·rename_i n' r' h2
  split at h
  case isTrue=>cases h
  rename_i hn
  injection h with h;subst h
  have hG:=fun σ sq hs=>Zc2 P hP hN l hl σ 0 sq hs (m:=1) rfl h2
  have a4:=fun L=>(Zaf P hP 0 (by omega) L).trans hk
  have m1:=ZbO
  have hC:=fun σ sq own=>Zi0 k n' σ sq own
  rw [WU _ |>.mp hn] at hC
  refine ⟨P++[.lst false (r'.map Zb)],ZaM hN (by rfl),?_⟩
  rw [Zj (by rfl) ZgI]
  simp -implicitDefEqProofs only [EQA,Xc,Xa,reduceCtorEq,↓reduceIte,Zgs,ZeJ,hG,hC,a4,m1]
  exact Z8 rfl (ZaM hN (by rfl))
 ·rename_i c' h2
  injection h with h;subst h
  have hG:=fun σ sq hs=>Zgx P hP hN l hl σ 0 sq hs (m:=1) rfl (by decide) h2
  refine ⟨P++[.lst false (l.map Zb)],ZaM hN (by rfl),?_⟩
  rw [Zj (by rfl) ZgI]
  simp -implicitDefEqProofs only [EQA,Xc,reduceCtorEq,↓reduceIte,Zgs,ZeJ,hG]
  exact Z8 rfl (ZaM hN (by rfl))
section
variable (l:Zc) (hl:l.length<=140737488355328) (σ:Za) (t sq:Nat) (hs:σ[t]?=some (.var (P++[.lst false (l.map Zb)])))
include hl hs
theorem Zf0 {n:Int} {r:Zc} (h:idK l=.ok (n,r)):Zk E BY σ sq 37 0 true [.ref t 0]=some (.tup [],σ.set t (.var (P.set 4 (.int .i64 n)++[.lst false (r.map Zb)])),{ any:=true,upd:=[(t,P.set 4 (.int .i64 n)++[.lst false (r.map Zb)])] }) :=
 Zde (rest:=[]) (by kernel_rfl) rfl (ZE P hP hN _ _) (ZaM (ZZ rfl 4 hN) (by rfl)) rfl rfl (ZHz P hP hN l hl h) hs sq
theorem Zjy (k:Int) (hk:P[0]?=some (.int .i64 k)) {n:Int} {r:Zc} (h:ZaR k l=.ok (n,r)):Zk E BY σ sq 34 0 true [.ref t 0]=some (.int .i64 n,σ.set t (.var (P++[.lst false (r.map Zb)])),{ any:=true,upd:=[(t,P++[.lst false (r.map Zb)])] }) :=
 Zde (rest:=[]) (by kernel_rfl) rfl (ZE P hP hN _ _) (ZE P hP hN _ _) rfl rfl (ZON P hP hN k hk l hl h) hs sq
end
end
end
section
def Zfw:Option (List ZB)->AVal
 | none=>.lst true []
 | some l=>.lst false (l.map Zu)
def Zdm (k:Int) (l:Zc):RK (Int×Option (List ZB)) :=
 if l.length=0 then .ok ((0,none),l) else match ZaR k l with
 | .error c=>.error c
 | .ok (c,r)=>if r.length=0 then .ok ((c,none),r) else match ZbY k r with
  | .error c=>.error c
  | .ok (ps,r')=>.ok ((c,some ps),r')
theorem ZlD {k n:Int} {l r:Zc} (h:ZaR k l=.ok (n,r)):r.length<=l.length:=by
 unfold ZaR ZaS at h
 split at h
 ·rename_i h1
  split at h1
  ·cases h1
  ·injection h1 with h1;injection h1 with _ h1
   split at h
   ·injection h with h;injection h with _ h;subst h h1;simp
   ·cases h
 ·cases h
theorem Zk4 {P:List AVal} {k:Nat} {v:AVal} (h:P[k]?=some v):P.set k v=P:=by
 apply List.ext_getElem?
 intro j
 rw [Xs]
 split
 ·rename_i e;subst e
  have hk:k < P.length:=by
   rcases WB k P.length with h' | h'
   ·exact h'
   ·rw [XS h'] at h;cases h
  rw [if_pos hk,h]
 ·rfl
section
variable (P:List AVal) (hP:P.length=26) (hN:Zd P=true)
include hP hN
theorem ZPI (k:Int) (hk:P[0]?=some (.int .i64 k)) (h7:P[7]?=some (.int .i64 0)) (h9:P[9]?=some (.lst true [])) (hu:∀ r:Zc,r.length<=140737488355328->(Zap k r).2.1<=r.length) (l:Zc) (hl:l.length<=140737488355328) {c:Int} {ps:Option (List ZB)} {r:Zc} (h:Zdm k l=.ok ((c,ps),r)) :
  E 38 [.ref 0 0] [.var (P++[.lst false (l.map Zb)])]=some (.tup [],[.var ((P.set 7 (.int .i64 c)).set 9 (Zfw ps)++[.lst false (r.map Zb)])]):=by
 have a1:=Zac P hP
 have a2:=Zay P hP
 unfold Zdm at h
 split at h
 ·rename_i h0
  injection h with h;injection h with h1 h2;injection h1 with h1 h3;subst h1 h2 h3
  have hg:¬(l.length:Int) > 0:=by omega
  rw [show Zfw none=.lst true [] from rfl,Zk4 h7,Zk4 h9]
  rw [Zj (by rfl) ZjC]
  simp -implicitDefEqProofs only [EQA,Zx,Xc,reduceCtorEq,↓reduceIte,Zd,Zj3,Zho,ZoA,a2,hg]
  exact Z8 rfl (ZE P hP hN _ _)
 ·rename_i h0
  have hg:(l.length:Int) > 0:=by omega
  split at h
  ·cases h
  rename_i c' r' hc
  have hr':=ZlD hc
  have hC:=fun σ sq hs=>Zjy P hP hN l hl σ 0 sq hs k hk hc
  have a3:=ZaG P hP 7 8 (by omega) rfl
  have hP7:(P.set 7 (.int .i64 c')).length=26:=by simp [hP]
  have hN7:Zd (P.set 7 (.int .i64 c'))=true:=ZZ rfl 7 hN
  have hk7:(P.set 7 (.int .i64 c'))[0]?=some (.int .i64 k):=by rw [Xn (by omega)];exact hk
  have h97:(P.set 7 (.int .i64 c'))[9]?=some (.lst true []):=by rw [Xn (by omega)];exact h9
  have b1:=Zac _ hP7
  have b2:=Zay _ hP7
  have b3:=ZaG _ hP7 9 10 (by omega) rfl
  have b4:=fun L=>(Zaf _ hP7 0 (by omega) L).trans hk7
  split at h
  ·rename_i h1
   injection h with h;injection h with h1 h2;injection h1 with h1 h3;subst h1 h2 h3
   have hg':¬(r'.length:Int) > 0:=by omega
   rw [show Zfw none=.lst true [] from rfl,Zk4 h97]
   rw [Zj (by rfl) ZjC]
   simp -implicitDefEqProofs only [EQA,ZH,Zx,Xe,Xc,Xf,Xa,reduceCtorEq,↓reduceIte,Zd,Zj3,Zho,ZoA,a1,a2,a3,b2,hg,hg',hC]
   exact Z8 rfl (ZE _ hP7 hN7 _ _)
  ·rename_i h1
   have hg':(r'.length:Int) > 0:=by omega
   split at h
   ·cases h
   rename_i ps' r2 hp
   injection h with h;injection h with h1 h2;injection h1 with h1 h3;subst h1 h2 h3
   have hG:=fun σ sq hs=>Zeq _ hP7 hN7 r' (by omega) σ 0 sq hs (hu r' (by omega)) hp
   rw [Zj (by rfl) ZjC]
   simp -implicitDefEqProofs only [EQA,ZH,Zx,Xe,Xc,Xf,Xa,reduceCtorEq,↓reduceIte,Zd,Zj3,Zho,ZoA,a1,a2,a3,b1,b2,b3,b4,hg,hg',hC,hG,Zfw]
   exact Z8 rfl (ZaM (ZZ (Zcj _ _) 9 hN7) (by rfl))
theorem Zvl (k:Int) (hk:P[0]?=some (.int .i64 k)) (hu:∀ r:Zc,r.length<=140737488355328->(Zap k r).2.1<=r.length) (l:Zc) (hl:l.length<=140737488355328) {e:Int} (h:Zdm k l=.error e) :
  ∃ cs,Zd cs=true/\E 38 [.ref 0 0] [.var (P++[.lst false (l.map Zb)])]=some (.pan (ZG e),[.var cs]):=by
 have a1:=Zac P hP
 have a2:=Zay P hP
 unfold Zdm at h
 split at h
 ·cases h
 ·rename_i h0
  have hg:(l.length:Int) > 0:=by omega
  split at h
  ·rename_i c hc
   injection h with h;subst h
   obtain ⟨cs,hn,he⟩:=ZtP P hP hN k hk l hl hc
   have hC:=fun (σ:Za) sq (hs:σ[0]?=some (.var (P++[.lst false (l.map Zb)])))=>ZcS (O:=E) (bf:=BY) (f:=34) (view:=true) (rest:=[]) (by kernel_rfl) rfl (ZE P hP hN _ _) hn rfl he hs sq
   refine ⟨cs,hn,?_⟩
   rw [Zj (by rfl) ZjC]
   simp -implicitDefEqProofs only [EQA,Xc,reduceCtorEq,↓reduceIte,Zj3,Zho,a2,hg,hC]
   exact Z8 rfl hn
  ·rename_i c' r' hc
   have hr':=ZlD hc
   have hC:=fun σ sq hs=>Zjy P hP hN l hl σ 0 sq hs k hk hc
   have a3:=ZaG P hP 7 8 (by omega) rfl
   have hP7:(P.set 7 (.int .i64 c')).length=26:=by simp [hP]
   have hN7:Zd (P.set 7 (.int .i64 c'))=true:=ZZ rfl 7 hN
   have hk7:(P.set 7 (.int .i64 c'))[0]?=some (.int .i64 k):=by rw [Xn (by omega)];exact hk
   have b1:=Zac _ hP7
   have b2:=Zay _ hP7
   have b4:=fun L=>(Zaf _ hP7 0 (by omega) L).trans hk7
   split at h
   ·cases h
   ·rename_i h1
    have hg':(r'.length:Int) > 0:=by omega
    split at h
    ·rename_i c hp
     injection h with h;subst h
     have hG:=fun σ sq hs=>ZfQ _ hP7 hN7 r' (by omega) σ 0 sq hs hp
     refine ⟨P.set 7 (.int .i64 c')++[.lst false (r'.map Zb)],ZE _ hP7 hN7 _ _,?_⟩
     rw [Zj (by rfl) ZjC]
     simp -implicitDefEqProofs only [EQA,ZH,Xe,Xc,Xf,Xa,reduceCtorEq,↓reduceIte,Zj3,Zho,a1,a2,a3,b2,b4,hg,hg',hC,hG]
     exact Z8 rfl (ZE _ hP7 hN7 _ _)
    ·cases h
section
variable (l:Zc) (hl:l.length<=140737488355328) (σ:Za) (t sq:Nat) (hs:σ[t]?=some (.var (P++[.lst false (l.map Zb)])))
include hl hs
theorem ZvA (k:Int) (hk:P[0]?=some (.int .i64 k)) (h7:P[7]?=some (.int .i64 0)) (h9:P[9]?=some (.lst true [])) (hu:∀ r:Zc,r.length<=140737488355328->(Zap k r).2.1<=r.length) {c:Int} {ps:Option (List ZB)} {r:Zc} (h:Zdm k l=.ok ((c,ps),r)):Zk E BY σ sq 38 0 true [.ref t 0]=some (.tup [],σ.set t (.var ((P.set 7 (.int .i64 c)).set 9 (Zfw ps)++[.lst false (r.map Zb)])),{ any:=true,upd:=[(t,(P.set 7 (.int .i64 c)).set 9 (Zfw ps)++[.lst false (r.map Zb)])] }) :=
 Zde (rest:=[]) (by kernel_rfl) rfl (ZE P hP hN _ _) (ZaM (ZZ (by cases ps <;> rfl) 9 (ZZ rfl 7 hN)) (by rfl)) rfl rfl (ZPI P hP hN k hk h7 h9 hu l hl h) hs sq
end
end
theorem Zha {n:Nat} {l r:Zc} {a:Int} (h:ZaS n l=.ok (a,r)):r.length<=l.length:=by
 unfold ZaS at h
 split at h
 ·cases h
 ·injection h with h;injection h with _ h;subst h;simp
theorem Zfo {l r:Zc} {a:Int} (h:idK l=.ok (a,r)):r.length<=l.length:=by
 unfold idK at h
 split at h
 ·rename_i h1
  split at h
  ·cases h
  ·injection h with h;injection h with _ h;subst h;exact Zha h1
 ·cases h
theorem ZdT {l r a:Zc} (h:Zaw l=.ok (a,r)):r.length<=l.length:=by
 unfold Zaw at h
 split at h
 ·injection h with h;injection h with _ h;subst h;simp
 ·cases h
theorem Zwc {l r a:Zc} (h:ZdI l=.ok (a,r)):r.length<=l.length:=by
 unfold ZdI at h
 split at h
 ·injection h with h;injection h with _ h;subst h;simp
 ·cases h
theorem Zhf {w:Int} {l r:Zc} {a:List ZB} (h:ZbY w l=.ok (a,r)):r.length<=l.length:=by
 unfold ZbY at h
 split at h
 ·injection h with h;injection h with _ h;subst h;simp
 ·cases h
def ZeD (qos:Int) (l:Zc):Except Int (Zc×Int×List ZB×Zc):=match Zaw l with
 | .error c=>.error c
 | .ok (tp,r1)=>if qos > 0 then (match idK r1 with
  | .error c=>.error c
  | .ok (n,r2)=>match ZbY 3 r2 with
   | .error c=>.error c
   | .ok (ps,r3)=>.ok (tp,n,ps,r3))
  else match ZbY 3 r1 with
   | .error c=>.error c
   | .ok (ps,r3)=>.ok (tp,0,ps,r3)
section
variable (P:List AVal) (hP:P.length=26) (hN:Zd P=true)
include hP hN
theorem Zzz (qos:Int) (h2:P[2]?=some (.int .i64 qos)) (h4:P[4]?=some (.int .i64 0)) (hu:∀ r:Zc,r.length<=140737488355328->(Zap 3 r).2.1<=r.length) (l:Zc) (hl:l.length<=140737488355328) {tp:Zc} {n:Int} {ps:List ZB} {pay:Zc} (h:ZeD qos l=.ok (tp,n,ps,pay)) :
  E 36 [.ref 0 0] [.var (P++[.lst false (l.map Zb)])]=some (.tup [],[.var ((((P.set 5 (.str tp)).set 4 (.int .i64 n)).set 9 (.lst false (ps.map Zu))).set 6 (.lst false (pay.map Zb))++[.lst true []])]):=by
 have a1:=Zac P hP
 have a2:=Zay P hP
 unfold ZeD at h
 split at h
 ·cases h
 rename_i tp' r1 ht
 have l1:=ZdT ht
 have hT:=fun σ sq hs=>Zer P hP hN l hl σ 0 sq hs ht
 have a3:=fun L=>ZaG P hP 5 6 (by omega) rfl L (.str tp')
 have hP5:(P.set 5 (.str tp')).length=26:=by simp [hP]
 have hN5:Zd (P.set 5 (.str tp'))=true:=ZZ rfl 5 hN
 have h25:(P.set 5 (.str tp'))[2]?=some (.int .i64 qos):=by rw [Xn (by omega)];exact h2
 have h45:(P.set 5 (.str tp'))[4]?=some (.int .i64 0):=by rw [Xn (by omega)];exact h4
 generalize hQ:P.set 5 (.str tp')=Q at *
 have b1:=Zac _ hP5
 have b2:=Zay _ hP5
 have b4:=fun L=>(Zaf _ hP5 2 (by omega) L).trans h25
 split at h
 ·rename_i hq
  split at h
  ·cases h
  rename_i n' r2 hi
  have l2:=Zfo hi
  split at h
  ·cases h
  rename_i ps' r3 hp
  have l3:=Zhf hp
  injection h with h;injection h with e1 h;injection h with e2 h;injection h with e3 e4;subst e1 e2 e3 e4
  rw [hQ]
  have hI:=fun σ sq hs=>Zf0 Q hP5 hN5 r1 (by omega) σ 0 sq hs hi
  have hP4:(Q.set 4 (.int .i64 n')).length=26:=by simp [hP5]
  have hN4:Zd (Q.set 4 (.int .i64 n'))=true:=ZZ rfl 4 hN5
  generalize Q.set 4 (.int .i64 n')=R at *
  have hG:=fun σ sq hs=>Zeq _ hP4 hN4 r2 (by omega) σ 0 sq hs (hu r2 (by omega)) hp
  have c1:=Zac _ hP4
  have c2:=Zay _ hP4
  have c3:=fun L=>ZaG _ hP4 9 10 (by omega) rfl L (.lst false (ps'.map Zu))
  have hP9:(R.set 9 (.lst false (ps'.map Zu))).length=26:=by simp [hP4]
  have hN9:Zd (R.set 9 (.lst false (ps'.map Zu)))=true:=ZZ (Zcj _ _) 9 hN4
  generalize R.set 9 (.lst false (ps'.map Zu))=S at *
  have d1:=Zac _ hP9
  have d2:=Zay _ hP9
  have d3:=fun L=>ZaG _ hP9 6 7 (by omega) rfl L (.lst false (r3.map Zb))
  have hP6:(S.set 6 (.lst false (r3.map Zb))).length=26:=by simp [hP9]
  have hN6:Zd (S.set 6 (.lst false (r3.map Zb)))=true:=ZZ (Zcj _ _) 6 hN9
  generalize S.set 6 (.lst false (r3.map Zb))=U at *
  have f1:=Zac _ hP6
  have f3:=Ze4 _ hP6
  have f4:=ZfY _ hP6
  have hC:=fun σ sq own=>Zpn σ sq own r3 (by omega)
  rw [Zj (by rfl) Zit]
  simp -implicitDefEqProofs only [EQA,ZH,Zx,Xe,Xc,Xf,Xa,reduceCtorEq,↓reduceIte,Zd,Zh7,Zgy,ZtJ,a1,a3,b4,c1,c3,d1,d2,d3,f1,f3,f4,hq,hT,hI,hG,hC]
  exact Z8 rfl (ZaM hN6 (by rfl))
 ·rename_i hq
  split at h
  ·cases h
  rename_i ps' r3 hp
  have l3:=Zhf hp
  injection h with h;injection h with e1 h;injection h with e2 h;injection h with e3 e4;subst e1 e2 e3 e4
  rw [hQ,Zk4 h45]
  have hG:=fun σ sq hs=>Zeq _ hP5 hN5 r1 (by omega) σ 0 sq hs (hu r1 (by omega)) hp
  have c3:=fun L=>ZaG _ hP5 9 10 (by omega) rfl L (.lst false (ps'.map Zu))
  have hP9:(Q.set 9 (.lst false (ps'.map Zu))).length=26:=by simp [hP5]
  have hN9:Zd (Q.set 9 (.lst false (ps'.map Zu)))=true:=ZZ (Zcj _ _) 9 hN5
  generalize Q.set 9 (.lst false (ps'.map Zu))=S at *
  have d1:=Zac _ hP9
  have d2:=Zay _ hP9
  have d3:=fun L=>ZaG _ hP9 6 7 (by omega) rfl L (.lst false (r3.map Zb))
  have hP6:(S.set 6 (.lst false (r3.map Zb))).length=26:=by simp [hP9]
  have hN6:Zd (S.set 6 (.lst false (r3.map Zb)))=true:=ZZ (Zcj _ _) 6 hN9
  generalize S.set 6 (.lst false (r3.map Zb))=U at *
  have f1:=Zac _ hP6
  have f3:=Ze4 _ hP6
  have f4:=ZfY _ hP6
  have hC:=fun σ sq own=>Zpn σ sq own r3 (by omega)
  rw [Zj (by rfl) Zit]
  simp -implicitDefEqProofs only [EQA,ZH,Zx,Xe,Xc,Xf,Xa,reduceCtorEq,↓reduceIte,Zd,Zh7,Zgy,ZtJ,a1,a3,b1,b4,c3,d1,d2,d3,f1,f3,f4,hq,hT,hG,hC]
  exact Z8 rfl (ZaM hN6 (by rfl))
theorem ZPK (qos:Int) (h2:P[2]?=some (.int .i64 qos)) (l:Zc) (hl:l.length<=140737488355328) {c:Int} (h:ZeD qos l=.error c) :
  ∃ cs,Zd cs=true/\E 36 [.ref 0 0] [.var (P++[.lst false (l.map Zb)])]=some (.pan (ZG c),[.var cs]):=by
 have a1:=Zac P hP
 have a2:=Zay P hP
 unfold ZeD at h
 split at h
 ·rename_i c' ht
  injection h with h;subst h
  have hT:=fun σ sq hs=>ZgM P hP hN l hl σ 0 sq hs ht
  refine ⟨P++[.lst false (l.map Zb)],ZE P hP hN _ _,?_⟩
  rw [Zj (by rfl) Zit]
  simp -implicitDefEqProofs only [EQA,Xc,reduceCtorEq,↓reduceIte,Zh7,Zgy,hT]
  exact Z8 rfl (ZE P hP hN _ _)
 rename_i tp' r1 ht
 have l1:=ZdT ht
 have hT:=fun σ sq hs=>Zer P hP hN l hl σ 0 sq hs ht
 have a3:=fun L=>ZaG P hP 5 6 (by omega) rfl L (.str tp')
 have hP5:(P.set 5 (.str tp')).length=26:=by simp [hP]
 have hN5:Zd (P.set 5 (.str tp'))=true:=ZZ rfl 5 hN
 have h25:(P.set 5 (.str tp'))[2]?=some (.int .i64 qos):=by rw [Xn (by omega)];exact h2
 generalize hQ:P.set 5 (.str tp')=Q at *
 have b1:=Zac _ hP5
 have b2:=Zay _ hP5
 have b4:=fun L=>(Zaf _ hP5 2 (by omega) L).trans h25
 split at h
 ·rename_i hq
  split at h
  ·rename_i c' hi
   injection h with h;subst h
   obtain ⟨cs,hn,he⟩:=Zkt Q hP5 hN5 r1 (by omega) hi
   have hI:=fun (σ:Za) sq (hs:σ[0]?=some (.var (Q++[.lst false (r1.map Zb)])))=>ZcS (O:=E) (bf:=BY) (f:=37) (view:=true) (rest:=[]) (by kernel_rfl) rfl (ZE Q hP5 hN5 _ _) hn rfl he hs sq
   refine ⟨cs,hn,?_⟩
   rw [Zj (by rfl) Zit]
   simp -implicitDefEqProofs only [EQA,ZH,Xe,Xc,Xf,Xa,reduceCtorEq,↓reduceIte,Zh7,Zgy,a1,a3,b4,hq,hT,hI]
   exact Z8 rfl hn
  rename_i n' r2 hi
  have l2:=Zfo hi
  split at h
  ·rename_i c' hp
   injection h with h;subst h
   have hI:=fun σ sq hs=>Zf0 Q hP5 hN5 r1 (by omega) σ 0 sq hs hi
   have hP4:(Q.set 4 (.int .i64 n')).length=26:=by simp [hP5]
   have hN4:Zd (Q.set 4 (.int .i64 n'))=true:=ZZ rfl 4 hN5
   generalize Q.set 4 (.int .i64 n')=R at *
   have hG:=fun σ sq hs=>ZfQ _ hP4 hN4 r2 (by omega) σ 0 sq hs hp
   refine ⟨R++[.lst false (r2.map Zb)],ZE R hP4 hN4 _ _,?_⟩
   rw [Zj (by rfl) Zit]
   simp -implicitDefEqProofs only [EQA,ZH,Xe,Xc,Xf,Xa,reduceCtorEq,↓reduceIte,Zh7,Zgy,a1,a3,b4,hq,hT,hI,hG]
   exact Z8 rfl (ZE R hP4 hN4 _ _)
  ·cases h
 ·rename_i hq
  split at h
  ·rename_i c' hp
   injection h with h;subst h
   have hG:=fun σ sq hs=>ZfQ _ hP5 hN5 r1 (by omega) σ 0 sq hs hp
   refine ⟨Q++[.lst false (r1.map Zb)],ZE Q hP5 hN5 _ _,?_⟩
   rw [Zj (by rfl) Zit]
   simp -implicitDefEqProofs only [EQA,ZH,Xe,Xc,Xf,Xa,reduceCtorEq,↓reduceIte,Zh7,Zgy,a1,a3,b4,hq,hT,hG]
   exact Z8 rfl (ZE Q hP5 hN5 _ _)
  ·cases h
end
end
section
abbrev KSt:=List AVal×Zc
def Zm (P:List AVal) (l:Zc):Za:=[.var (P++[.lst false (l.map Zb)])]
def KRuns (c:Zf) (tm tm':Tms) (P:List AVal) (l:Zc):Except Int KSt->Prop
 | .ok (P',l')=>evC FC PR BY 1 c tm (Zm P l)=some (.normal,tm',Zm P' l')/\P'.length=26/\Zd P'=true/\l'.length<=l.length
 | .error e=>∃ tm2 cs,Zd cs=true/\evC FC PR BY 1 c tm (Zm P l)=some (.panic (ZG e),tm2,[.var cs])
theorem KRuns.seq {a b:Zf} {tm tm1 tm2:Tms} {P:List AVal} {l:Zc} {x:Except Int KSt} {f:KSt->Except Int KSt} (h:KRuns a tm tm1 P l x) (hb:∀ P' l',x=.ok (P',l')->P'.length=26->Zd P'=true->l'.length<=l.length->KRuns b tm1 tm2 P' l' (f (P',l'))):KRuns (.seq a b) tm tm2 P l (x.bind f):=by
 cases x with
 | error e =>
  obtain ⟨t,cs,h1,h2⟩:=h
  exact ⟨t,cs,h1,Zjf (by simp) h2⟩
 | ok s =>
  obtain ⟨P',l'⟩:=s
  obtain ⟨h1,h2,h3,h4⟩:=h
  have hb:=hb P' l' rfl h2 h3 h4
  show KRuns (.seq a b) tm tm2 P l (f (P',l'))
  generalize f (P',l')=y at *
  cases y with
  | error e =>
   obtain ⟨t,cs,g1,g2⟩:=hb
   exact ⟨t,cs,g1,by rw [Zj8 h1];exact g2⟩
  | ok s =>
   obtain ⟨P2,l2⟩:=s
   obtain ⟨g1,g2,g3,g4⟩:=hb
   exact ⟨by rw [Zj8 h1];exact g1,g2,g3,by omega⟩
def KRun (c:Zf) (tm:Tms) (P:List AVal) (l:Zc) (x:Except Int KSt):Prop:=∃ tm',KRuns c tm tm' P l x
theorem KRun.seqT {a b:Zf} {tm tm1:Tms} {P P1:List AVal} {l l1:Zc} {x:Except Int KSt} (h:evC FC PR BY 1 a tm (Zm P l)=some (.normal,tm1,Zm P1 l1)) (hl:l1.length<=l.length) (hb:KRun b tm1 P1 l1 x):KRun (.seq a b) tm P l x:=by
 obtain ⟨tm',hb⟩:=hb
 refine ⟨tm',?_⟩
 cases x with
 | error e =>
  obtain ⟨t,cs,g1,g2⟩:=hb
  exact ⟨t,cs,g1,by rw [Zj8 h];exact g2⟩
 | ok s =>
  obtain ⟨P2,l2⟩:=s
  obtain ⟨g1,g2,g3,g4⟩:=hb
  exact ⟨by rw [Zj8 h];exact g1,g2,g3,by omega⟩
theorem KRun.seqF {a b:Zf} {tm tm2:Tms} {P cs:List AVal} {l:Zc} {e:Int} (hn:Zd cs=true) (h:evC FC PR BY 1 a tm (Zm P l)=some (.panic (ZG e),tm2,[.var cs])):KRun (.seq a b) tm P l (.error e) :=
 ⟨[],tm2,cs,hn,Zjf (by simp) h⟩
theorem KRuns.fnT {f:Nat} {fn:ZQ} (hp:PR f=none) (hf:FC f=some fn) (hr:fn.res=[]) {P P':List AVal} {l l':Zc} (h:KRun fn.body [(0,.ref 0 0)] P l (.ok (P',l'))):E f [.ref 0 0] (Zm P l)=some (.tup [],Zm P' l'):=by
 obtain ⟨_,h1,h2,h3,h4⟩:=h
 rw [Zj hp hf]
 show Zav 1 fn (evC FC PR BY 1 fn.body [(0,.ref 0 0)] (Zm P l))=_
 rw [h1]
 simp only [Zav,hr,resA,resAll]
 exact Z8 rfl (ZaM h3 (by rfl))
theorem KRuns.fnF {f:Nat} {fn:ZQ} (hp:PR f=none) (hf:FC f=some fn) {P:List AVal} {l:Zc} {e:Int} (h:KRun fn.body [(0,.ref 0 0)] P l (.error e)):∃ cs,Zd cs=true/\E f [.ref 0 0] (Zm P l)=some (.pan (ZG e),[.var cs]):=by
 obtain ⟨_,t,cs,h1,h2⟩:=h
 refine ⟨cs,h1,?_⟩
 rw [Zj hp hf]
 show Zav 1 fn (evC FC PR BY 1 fn.body [(0,.ref 0 0)] (Zm P l))=_
 rw [h2]
 simp only [Zav]
 exact Z8 rfl h1
end
section
def cn1:Zf:=(.region [⟨(some 4),(.mov (.t 0)),none,[]⟩,⟨(some 5),(.nilchk (.t 4)),none,[]⟩,⟨(some 6),(.faddr 0 (.t 5)),none,[]⟩,⟨(some 2),(.mov (.t 6)),none,[]⟩] none [2,0])
def cn2:Zf:=(.region [⟨(some 7),(.mov (.t 0)),none,[]⟩,⟨(some 8),(.call 42 0 true [(.t 7)]),none,[]⟩,⟨(some 9),(.bin .eql (.t 8) (.c (.str [77,81,84,84]))),none,[]⟩,⟨(some 10),(.call 31 0 true [(.t 9),(.c (.int .i64 132))]),none,[]⟩] none [2,0])
def cn3:Zf:=(.region [⟨(some 11),(.mov (.t 0)),none,[]⟩,⟨(some 12),(.call 33 0 true [(.t 11),(.c (.int .i64 1))]),none,[]⟩,⟨(some 13),(.bin .eql (.t 12) (.c (.int .i64 5))),none,[]⟩,⟨(some 14),(.call 31 0 true [(.t 13),(.c (.int .i64 132))]),none,[]⟩] none [2,0])
def cn4:Zf:=(.region [⟨(some 15),(.mov (.t 0)),none,[]⟩,⟨(some 16),(.call 33 0 true [(.t 15),(.c (.int .i64 1))]),none,[]⟩,⟨(some 3),(.mov (.t 16)),none,[]⟩] none [3,2,0])
def cn5:Zf:=(.region [⟨(some 17),(.mov (.t 2)),none,[]⟩,⟨(some 18),(.mov (.t 2)),none,[]⟩,⟨(some 19),(.mov (.t 3)),none,[]⟩,⟨(some 20),(.bin .and (.t 19) (.c (.int .i64 2))),none,[]⟩,⟨(some 21),(.bin .neq (.t 20) (.c (.int .i64 0))),none,[]⟩,⟨(some 22),(.mov (.t 3)),none,[]⟩,⟨(some 23),(.bin .and (.t 22) (.c (.int .i64 4))),none,[]⟩,⟨(some 24),(.bin .neq (.t 23) (.c (.int .i64 0))),none,[]⟩,⟨(some 25),(.nilchk (.t 17)),none,[]⟩,⟨(some 26),(.faddr 12 (.t 25)),none,[]⟩,⟨none,(.st 1 (.t 26) (.t 21)),none,[]⟩,⟨(some 27),(.nilchk (.t 18)),none,[]⟩,⟨(some 28),(.faddr 15 (.t 27)),none,[]⟩,⟨none,(.st 1 (.t 28) (.t 24)),none,[]⟩] none [3,2,0])
def cn6:Zf:=(.region [⟨(some 29),(.mov (.t 2)),none,[]⟩,⟨(some 30),(.mov (.t 2)),none,[]⟩,⟨(some 31),(.mov (.t 3)),none,[]⟩,⟨(some 32),(.bin .and (.t 31) (.c (.int .i64 64))),none,[]⟩,⟨(some 33),(.bin .neq (.t 32) (.c (.int .i64 0))),none,[]⟩,⟨(some 34),(.mov (.t 3)),none,[]⟩,⟨(some 35),(.bin .and (.t 34) (.c (.int .i64 128))),none,[]⟩,⟨(some 36),(.bin .neq (.t 35) (.c (.int .i64 0))),none,[]⟩,⟨(some 37),(.nilchk (.t 29)),none,[]⟩,⟨(some 38),(.faddr 23 (.t 37)),none,[]⟩,⟨none,(.st 1 (.t 38) (.t 33)),none,[]⟩,⟨(some 39),(.nilchk (.t 30)),none,[]⟩,⟨(some 40),(.faddr 21 (.t 39)),none,[]⟩,⟨none,(.st 1 (.t 40) (.t 36)),none,[]⟩] none [3,2,0])
def cn7:Zf:=(.region [⟨(some 41),(.mov (.t 2)),none,[]⟩,⟨(some 42),(.mov (.t 2)),none,[]⟩,⟨(some 43),(.mov (.t 3)),none,[]⟩,⟨(some 44),(.bin .quo (.t 43) (.c (.int .i64 8))),none,[]⟩,⟨(some 45),(.bin .and (.t 44) (.c (.int .i64 3))),none,[]⟩,⟨(some 46),(.mov (.t 3)),none,[]⟩,⟨(some 47),(.bin .and (.t 46) (.c (.int .i64 32))),none,[]⟩,⟨(some 48),(.bin .neq (.t 47) (.c (.int .i64 0))),none,[]⟩,⟨(some 49),(.nilchk (.t 41)),none,[]⟩,⟨(some 50),(.faddr 16 (.t 49)),none,[]⟩,⟨(some 51),(.faddr 2 (.t 50)),none,[]⟩,⟨none,(.st 1 (.t 51) (.t 45)),none,[]⟩,⟨(some 52),(.nilchk (.t 42)),none,[]⟩,⟨(some 53),(.faddr 16 (.t 52)),none,[]⟩,⟨(some 54),(.faddr 3 (.t 53)),none,[]⟩,⟨none,(.st 1 (.t 54) (.t 48)),none,[]⟩] none [3,2,0])
def cn8:Zf:=(.region [⟨(some 55),(.mov (.t 3)),none,[]⟩,⟨(some 56),(.bin .and (.t 55) (.c (.int .i64 1))),none,[]⟩,⟨(some 57),(.bin .eql (.t 56) (.c (.int .i64 0))),none,[]⟩,⟨(some 58),(.mov (.t 57)),none,[]⟩,⟨(some 59),(.mov (.t 2)),(some (58,true)),[]⟩,⟨(some 60),(.nilchk (.t 59)),(some (58,true)),[]⟩,⟨(some 61),(.faddr 16 (.t 60)),(some (58,true)),[]⟩,⟨(some 62),(.faddr 2 (.t 61)),(some (58,true)),[]⟩,⟨(some 63),(.ld none (.t 62)),(some (58,true)),[]⟩,⟨(some 64),(.bin .lss (.t 63) (.c (.int .i64 3))),(some (58,true)),[]⟩,⟨(some 65),(.pick (.t 58) (.t 64) (.c (.bool false))),none,[]⟩,⟨(some 66),(.mov (.t 65)),none,[]⟩,⟨(some 67),(.mov (.t 2)),(some (66,true)),[]⟩,⟨(some 68),(.nilchk (.t 67)),(some (66,true)),[]⟩,⟨(some 69),(.faddr 15 (.t 68)),(some (66,true)),[]⟩,⟨(some 70),(.ld none (.t 69)),(some (66,true)),[]⟩,⟨(some 71),(.mov (.t 70)),(some (66,true)),[]⟩,⟨(some 72),(.mov (.t 2)),(some (71,false)),[]⟩,⟨(some 73),(.nilchk (.t 72)),(some (71,false)),[]⟩,⟨(some 74),(.faddr 16 (.t 73)),(some (71,false)),[]⟩,⟨(some 75),(.faddr 2 (.t 74)),(some (71,false)),[]⟩,⟨(some 76),(.ld none (.t 75)),(some (71,false)),[]⟩,⟨(some 77),(.bin .eql (.t 76) (.c (.int .i64 0))),(some (71,false)),[]⟩,⟨(some 78),(.mov (.t 77)),(some (71,false)),[]⟩,⟨(some 79),(.mov (.t 2)),(some (78,true)),[]⟩,⟨(some 80),(.nilchk (.t 79)),(some (78,true)),[]⟩,⟨(some 81),(.faddr 16 (.t 80)),(some (78,true)),[]⟩,⟨(some 82),(.faddr 3 (.t 81)),(some (78,true)),[]⟩,⟨(some 83),(.ld none (.t 82)),(some (78,true)),[]⟩,⟨(some 84),(.un .not (.t 83)),(some (78,true)),[]⟩,⟨(some 85),(.pick (.t 78) (.t 84) (.c (.bool false))),(some (71,false)),[]⟩,⟨(some 86),(.pick (.t 71) (.c (.bool true)) (.t 85)),(some (66,true)),[]⟩,⟨(some 87),(.pick (.t 66) (.t 86) (.c (.bool false))),none,[]⟩,⟨(some 88),(.call 31 0 true [(.t 87),(.c (.int .i64 129))]),none,[]⟩] none [2,0])
def cn9:Zf:=(.region [⟨(some 89),(.mov (.t 2)),none,[]⟩,⟨(some 90),(.mov (.t 0)),none,[]⟩,⟨(some 91),(.call 33 0 true [(.t 90),(.c (.int .i64 2))]),none,[]⟩,⟨(some 92),(.nilchk (.t 89)),none,[]⟩,⟨(some 93),(.faddr 13 (.t 92)),none,[]⟩,⟨none,(.st 1 (.t 93) (.t 91)),none,[]⟩] none [2,0])
def Zh5:Zf:=(.region [⟨(some 94),(.mov (.t 2)),none,[]⟩,⟨(some 95),(.mov (.t 0)),none,[]⟩,⟨(some 96),(.call 35 0 true [(.t 95),(.c (.int .i64 1))]),none,[]⟩,⟨(some 97),(.nilchk (.t 94)),none,[]⟩,⟨(some 98),(.faddr 9 (.t 97)),none,[]⟩,⟨none,(.st 1 (.t 98) (.t 96)),none,[]⟩] none [2,0])
def Zif:Zf:=(.region [⟨(some 99),(.mov (.t 2)),none,[]⟩,⟨(some 100),(.mov (.t 0)),none,[]⟩,⟨(some 101),(.call 42 0 true [(.t 100)]),none,[]⟩,⟨(some 102),(.nilchk (.t 99)),none,[]⟩,⟨(some 103),(.faddr 14 (.t 102)),none,[]⟩,⟨none,(.st 1 (.t 103) (.t 101)),none,[]⟩] none [2,0])
def Zeb:Zf:=(.seq (.region [⟨(some 104),(.mov (.t 2)),none,[]⟩,⟨(some 105),(.nilchk (.t 104)),none,[]⟩,⟨(some 106),(.faddr 15 (.t 105)),none,[]⟩,⟨(some 107),(.ld none (.t 106)),none,[]⟩] none [107,2,0]) (.cond (.t 107) (.seq (.region [⟨(some 108),(.mov (.t 2)),none,[]⟩,⟨(some 109),(.mov (.t 0)),none,[]⟩,⟨(some 110),(.call 35 0 true [(.t 109),(.c (.int .i64 16))]),none,[]⟩,⟨(some 111),(.nilchk (.t 108)),none,[]⟩,⟨(some 112),(.faddr 16 (.t 111)),none,[]⟩,⟨(some 113),(.faddr 4 (.t 112)),none,[]⟩,⟨none,(.st 1 (.t 113) (.t 110)),none,[]⟩] none [2,0]) (.seq (.region [⟨(some 114),(.mov (.t 2)),none,[]⟩,⟨(some 115),(.mov (.t 0)),none,[]⟩,⟨(some 116),(.call 42 0 true [(.t 115)]),none,[]⟩,⟨(some 117),(.nilchk (.t 114)),none,[]⟩,⟨(some 118),(.faddr 16 (.t 117)),none,[]⟩,⟨(some 119),(.faddr 0 (.t 118)),none,[]⟩,⟨none,(.st 1 (.t 119) (.t 116)),none,[]⟩] none [2,0]) (.region [⟨(some 120),(.mov (.t 2)),none,[]⟩,⟨(some 121),(.mov (.t 0)),none,[]⟩,⟨(some 122),(.call 54 0 true [(.t 121)]),none,[]⟩,⟨(some 123),(.nilchk (.t 120)),none,[]⟩,⟨(some 124),(.faddr 16 (.t 123)),none,[]⟩,⟨(some 125),(.faddr 1 (.t 124)),none,[]⟩,⟨none,(.st 1 (.t 125) (.t 122)),none,[]⟩] none [2,0]))) .skip))
def ZeG:Zf:=(.seq (.region [⟨(some 126),(.mov (.t 2)),none,[]⟩,⟨(some 127),(.nilchk (.t 126)),none,[]⟩,⟨(some 128),(.faddr 21 (.t 127)),none,[]⟩,⟨(some 129),(.ld none (.t 128)),none,[]⟩] none [129,2,0]) (.cond (.t 129) (.region [⟨(some 130),(.mov (.t 2)),none,[]⟩,⟨(some 131),(.mov (.t 0)),none,[]⟩,⟨(some 132),(.call 42 0 true [(.t 131)]),none,[]⟩,⟨(some 133),(.nilchk (.t 130)),none,[]⟩,⟨(some 134),(.faddr 22 (.t 133)),none,[]⟩,⟨none,(.st 1 (.t 134) (.t 132)),none,[]⟩] none [2,0]) .skip))
def ZgW:Zf:=(.region [⟨(some 135),(.mov (.t 2)),none,[]⟩,⟨(some 136),(.nilchk (.t 135)),none,[]⟩,⟨(some 137),(.faddr 23 (.t 136)),none,[]⟩,⟨(some 138),(.ld none (.t 137)),none,[]⟩] none [138,2,0])
def Zem:Zf:=(.cond (.t 138) (.region [⟨(some 139),(.mov (.t 2)),none,[]⟩,⟨(some 140),(.mov (.t 0)),none,[]⟩,⟨(some 141),(.call 54 0 true [(.t 140)]),none,[]⟩,⟨(some 142),(.nilchk (.t 139)),none,[]⟩,⟨(some 143),(.faddr 24 (.t 142)),none,[]⟩,⟨none,(.st 1 (.t 143) (.t 141)),none,[]⟩] none []) .skip)
theorem ZJ5:ZrQ=(.seq cn1 (.seq cn2 (.seq cn3 (.seq cn4 (.seq cn5 (.seq cn6 (.seq cn7 (.seq cn8 (.seq cn9 (.seq Zh5 (.seq Zif (.seq Zeb (.seq ZeG (.seq ZgW Zem)))))))))))))):=rfl
def t20:Tms:=[(2,.ref 0 0),(0,.ref 0 0)]
def Zc8 (m:Int):Tms:=[(3,.int .i64 m),(2,.ref 0 0),(0,.ref 0 0)]
def ZD (a b:Int):Int:=IntKind.i64.wrap (XR IntKind.i64.bits a &&& XR IntKind.i64.bits b).toNat
def Zex (m:Int):Int:=IntKind.i64.wrap (m.tdiv 8)
section
variable (P:List AVal) (hP:P.length=26) (hN:Zd P=true) (l:Zc) (hl:l.length<=140737488355328)
include hP hN hl
theorem ZB0:evC FC PR BY 1 cn1 [(0,.ref 0 0)] (Zm P l)=some (.normal,t20,Zm P l):=by
 unfold Zm t20
 simp -implicitDefEqProofs only [EQA,Xc,Xa,reduceCtorEq,↓reduceIte,cn1]
theorem ZNL {r:Zc} (h:Zaw l=.ok ([77,81,84,84],r)):evC FC PR BY 1 cn2 t20 (Zm P l)=some (.normal,t20,Zm P r):=by
 have hT:=fun σ sq hs=>Zer P hP hN l hl σ 0 sq hs h
 have m1:=Zbm
 have e1:(([77,81,84,84]:List UInt8) == [77,81,84,84])=true:=by decide
 unfold Zm t20
 simp -implicitDefEqProofs only [EQA,Xc,Xa,ZgL,reduceCtorEq,↓reduceIte,cn2,hT,m1]
theorem ZKS {a r:Zc} (h:Zaw l=.ok (a,r)) (hn:(a == [77,81,84,84])=false):evC FC PR BY 1 cn2 t20 (Zm P l)=some (.panic (ZG 132),[],Zm P r):=by
 have hT:=fun σ sq hs=>Zer P hP hN l hl σ 0 sq hs h
 have m1:=ZbO
 unfold Zm t20
 simp -implicitDefEqProofs only [EQA,Xc,ZgL,reduceCtorEq,↓reduceIte,cn2,hT,m1,hn]
theorem ZF9 {c:Int} (h:Zaw l=.error c):evC FC PR BY 1 cn2 t20 (Zm P l)=some (.panic (ZG c),[],Zm P l):=by
 have hT:=fun σ sq hs=>ZgM P hP hN l hl σ 0 sq hs h
 unfold Zm t20
 simp -implicitDefEqProofs only [EQA,Xc,reduceCtorEq,↓reduceIte,cn2,hT]
theorem ZAt {r:Zc} (h:ZaS 1 l=.ok (5,r)):evC FC PR BY 1 cn3 t20 (Zm P l)=some (.normal,t20,Zm P r):=by
 have hT:=fun σ sq hs=>Zc2 P hP hN l hl σ 0 sq hs (m:=1) rfl h
 have m1:=Zbm
 have e1:((5:Int) == 5)=true:=by decide
 unfold Zm t20
 simp -implicitDefEqProofs only [EQA,Xc,Xa,reduceCtorEq,↓reduceIte,cn3,hT,m1]
theorem ZIP {a:Int} {r:Zc} (h:ZaS 1 l=.ok (a,r)) (hn:(a == 5)=false):evC FC PR BY 1 cn3 t20 (Zm P l)=some (.panic (ZG 132),[],Zm P r):=by
 have hT:=fun σ sq hs=>Zc2 P hP hN l hl σ 0 sq hs (m:=1) rfl h
 have m1:=ZbO
 unfold Zm t20
 simp -implicitDefEqProofs only [EQA,Xc,reduceCtorEq,↓reduceIte,cn3,hT,m1,hn]
theorem ZGW {c:Int} (h:ZaS 1 l=.error c):evC FC PR BY 1 cn3 t20 (Zm P l)=some (.panic (ZG c),[],Zm P l):=by
 have hT:=fun σ sq hs=>Zgx P hP hN l hl σ 0 sq hs (m:=1) rfl (by decide) h
 unfold Zm t20
 simp -implicitDefEqProofs only [EQA,Xc,reduceCtorEq,↓reduceIte,cn3,hT]
theorem ZKr {m:Int} {r:Zc} (h:ZaS 1 l=.ok (m,r)):evC FC PR BY 1 cn4 t20 (Zm P l)=some (.normal,Zc8 m,Zm P r):=by
 have hT:=fun σ sq hs=>Zc2 P hP hN l hl σ 0 sq hs (m:=1) rfl h
 unfold Zm t20 Zc8
 simp -implicitDefEqProofs only [EQA,Xc,Xa,reduceCtorEq,↓reduceIte,cn4,hT]
theorem ZLE {c:Int} (h:ZaS 1 l=.error c):evC FC PR BY 1 cn4 t20 (Zm P l)=some (.panic (ZG c),[],Zm P l):=by
 have hT:=fun σ sq hs=>Zgx P hP hN l hl σ 0 sq hs (m:=1) rfl (by decide) h
 unfold Zm t20
 simp -implicitDefEqProofs only [EQA,Xc,reduceCtorEq,↓reduceIte,cn4,hT]
theorem Zzs (m:Int):evC FC PR BY 1 cn5 (Zc8 m) (Zm P l)=some (.normal,Zc8 m,Zm ((P.set 12 (.bool (ZD m 2 != 0))).set 15 (.bool (ZD m 4 != 0))) l):=by
 have a1:=Zac P hP
 have a3:=fun L=>ZaG P hP 12 13 (by omega) rfl L (.bool (ZD m 2 != 0))
 have hP1:(P.set 12 (.bool (ZD m 2 != 0))).length=26:=by simp [hP]
 have b1:=Zac _ hP1
 have b3:=fun L=>ZaG _ hP1 15 16 (by omega) rfl L (.bool (ZD m 4 != 0))
 unfold Zm Zc8
 unfold ZD at *
 simp -implicitDefEqProofs only [EQA,ZH,Xe,Xc,Xf,Xa,reduceCtorEq,↓reduceIte,cn5,a1,a3,b1,b3]
theorem ZEy (m:Int):evC FC PR BY 1 cn6 (Zc8 m) (Zm P l)=some (.normal,Zc8 m,Zm ((P.set 23 (.bool (ZD m 64 != 0))).set 21 (.bool (ZD m 128 != 0))) l):=by
 have a1:=Zac P hP
 have a3:=fun L=>ZaG P hP 23 24 (by omega) rfl L (.bool (ZD m 64 != 0))
 have hP1:(P.set 23 (.bool (ZD m 64 != 0))).length=26:=by simp [hP]
 have b1:=Zac _ hP1
 have b3:=fun L=>ZaG _ hP1 21 22 (by omega) rfl L (.bool (ZD m 128 != 0))
 unfold Zm Zc8
 unfold ZD at *
 simp -implicitDefEqProofs only [EQA,ZH,Xe,Xc,Xf,Xa,reduceCtorEq,↓reduceIte,cn6,a1,a3,b1,b3]
theorem ZBO (m:Int):evC FC PR BY 1 cn7 (Zc8 m) (Zm P l)=some (.normal,Zc8 m,Zm ((P.set 18 (.int .i64 (ZD (Zex m) 3))).set 19 (.bool (ZD m 32 != 0))) l):=by
 have a1:=Zac P hP
 have a3:=fun L=>ZaG P hP 18 19 (by omega) rfl L (.int .i64 (ZD (Zex m) 3))
 have hP1:(P.set 18 (.int .i64 (ZD (Zex m) 3))).length=26:=by simp [hP]
 have b1:=Zac _ hP1
 have b3:=fun L=>ZaG _ hP1 19 20 (by omega) rfl L (.bool (ZD m 32 != 0))
 have z:¬(8:Int)=0:=by decide
 unfold Zm Zc8
 unfold ZD Zex at *
 simp -implicitDefEqProofs only [EQA,ZH,Xe,Xc,Xf,Xa,reduceCtorEq,↓reduceIte,cn7,a1,a3,b1,b3,z]
theorem ZEc {n:Int} {r:Zc} (h:ZaS 2 l=.ok (n,r)):evC FC PR BY 1 cn9 t20 (Zm P l)=some (.normal,t20,Zm (P.set 13 (.int .i64 n)) r):=by
 have hT:=fun σ sq hs=>Zc2 P hP hN l hl σ 0 sq hs (m:=2) rfl h
 have a1:=Zac P hP
 have a3:=ZaG P hP 13 14 (by omega) rfl
 unfold Zm t20
 simp -implicitDefEqProofs only [EQA,ZH,Xe,Xc,Xf,Xa,reduceCtorEq,↓reduceIte,cn9,hT,a1,a3]
theorem ZIX {c:Int} (h:ZaS 2 l=.error c):evC FC PR BY 1 cn9 t20 (Zm P l)=some (.panic (ZG c),[],Zm P l):=by
 have hT:=fun σ sq hs=>Zgx P hP hN l hl σ 0 sq hs (m:=2) rfl (by decide) h
 unfold Zm t20
 simp -implicitDefEqProofs only [EQA,Xc,reduceCtorEq,↓reduceIte,cn9,hT]
theorem ZLn (hu:(Zap 1 l).2.1<=l.length) {a:List ZB} {r:Zc} (h:ZbY 1 l=.ok (a,r)):evC FC PR BY 1 Zh5 t20 (Zm P l)=some (.normal,t20,Zm (P.set 9 (.lst false (a.map Zu))) r):=by
 have hT:=fun σ sq hs=>Zeq P hP hN l hl σ 0 sq hs hu h
 have a1:=Zac P hP
 have a3:=ZaG P hP 9 10 (by omega) rfl
 unfold Zm t20
 simp -implicitDefEqProofs only [EQA,ZH,Xe,Xc,Xf,Xa,reduceCtorEq,↓reduceIte,Zh5,hT,a1,a3]
theorem ZNT {c:Int} (h:ZbY 1 l=.error c):evC FC PR BY 1 Zh5 t20 (Zm P l)=some (.panic (ZG c),[],Zm P l):=by
 have hT:=fun σ sq hs=>ZfQ P hP hN l hl σ 0 sq hs h
 unfold Zm t20
 simp -implicitDefEqProofs only [EQA,Xc,reduceCtorEq,↓reduceIte,Zh5,hT]
theorem ZAb {a r:Zc} (h:Zaw l=.ok (a,r)):evC FC PR BY 1 Zif t20 (Zm P l)=some (.normal,t20,Zm (P.set 14 (.str a)) r):=by
 have hT:=fun σ sq hs=>Zer P hP hN l hl σ 0 sq hs h
 have a1:=Zac P hP
 have a3:=ZaG P hP 14 15 (by omega) rfl
 unfold Zm t20
 simp -implicitDefEqProofs only [EQA,ZH,Xe,Xc,Xf,Xa,reduceCtorEq,↓reduceIte,Zif,hT,a1,a3]
theorem ZQa {c:Int} (h:Zaw l=.error c):evC FC PR BY 1 Zif t20 (Zm P l)=some (.panic (ZG c),[],Zm P l):=by
 have hT:=fun σ sq hs=>ZgM P hP hN l hl σ 0 sq hs h
 unfold Zm t20
 simp -implicitDefEqProofs only [EQA,Xc,reduceCtorEq,↓reduceIte,Zif,hT]
end
def Zid (m q:Int) (hw rt:Bool):Bool:=(ZD m 1 == 0) && decide (q < 3) && (hw || ((q == 0) && !rt))
section
variable (P:List AVal) (hP:P.length=26) (hN:Zd P=true) (l:Zc) (hl:l.length<=140737488355328)
variable (m q:Int) (hw rt:Bool) (h15:P[15]?=some (.bool hw)) (h18:P[18]?=some (.int .i64 q)) (h19:P[19]?=some (.bool rt))
include hP hN hl h15 h18 h19
theorem ZN4 (h:Zid m q hw rt=true):evC FC PR BY 1 cn8 (Zc8 m) (Zm P l)=some (.normal,t20,Zm P l):=by
 have a4:=fun L=>(Zaf P hP 15 (by omega) L).trans h15
 have a5:=fun L=>(Zaf P hP 18 (by omega) L).trans h18
 have a6:=fun L=>(Zaf P hP 19 (by omega) L).trans h19
 have m1:=Zbm
 unfold Zid ZD at h
 simp only [Xl,decide_eq_true_eq,Bool.or_eq_true] at h
 obtain ⟨⟨e1,e2⟩,e3⟩:=h
 unfold Zm Zc8 t20
 cases hw
 ·simp only [Xi,false_or] at e3
  obtain ⟨e3,e4⟩:=e3
  cases rt
  ·simp -implicitDefEqProofs only [EQA,Xe,Xc,Xa,unA,ZA,unG,reduceCtorEq,↓reduceIte,cn8,a4,a5,a6,m1,e1,e2,e3]
  ·cases e4
 ·simp -implicitDefEqProofs only [EQA,Xe,Xc,Xa,ZA,Zal,unG,reduceCtorEq,↓reduceIte,cn8,a4,a5,m1,e1,e2]
theorem ZAK (h:Zid m q hw rt=false):evC FC PR BY 1 cn8 (Zc8 m) (Zm P l)=some (.panic (ZG 129),[],Zm P l):=by
 have a4:=fun L=>(Zaf P hP 15 (by omega) L).trans h15
 have a5:=fun L=>(Zaf P hP 18 (by omega) L).trans h18
 have a6:=fun L=>(Zaf P hP 19 (by omega) L).trans h19
 have m1:=ZbO
 unfold Zid ZD at h
 unfold Zm Zc8
 by_cases e1:(IntKind.i64.wrap (XR IntKind.i64.bits m &&& XR IntKind.i64.bits 1).toNat == 0)=true
 ·rw [e1] at h
  by_cases e2:q < 3
  ·cases hw
   ·by_cases e3:(q == 0)=true
    ·cases rt
     ·simp [e2,e3] at h
     ·simp -implicitDefEqProofs only [EQA,Xe,Xc,Xa,unA,ZA,unG,reduceCtorEq,↓reduceIte,cn8,a4,a5,a6,m1,e1,e2,e3]
    ·have e3:=WU _ |>.mp e3
     simp -implicitDefEqProofs only [EQA,Xe,Xc,Xa,ZA,Zal,unG,reduceCtorEq,↓reduceIte,cn8,a4,a5,m1,e1,e2,e3]
   ·simp [e2] at h
  ·simp -implicitDefEqProofs only [EQA,Xe,Xc,Xa,ZA,Zal,unG,reduceCtorEq,↓reduceIte,cn8,a5,m1,e1,e2]
 ·have e1:=WU _ |>.mp e1
  simp -implicitDefEqProofs only [EQA,Xc,Xa,ZA,Zal,reduceCtorEq,↓reduceIte,cn8,m1,e1]
end
def ZdA (n:Nat):Tms:=[(n,.bool false),(2,.ref 0 0),(0,.ref 0 0)]
def Zin (P:List AVal) (ps:List ZB) (tp d:Zc):List AVal:=((P.set 20 (.lst false (ps.map Zu))).set 16 (.str tp)).set 17 (.lst false (d.map Zb))
def Zey (l:Zc):Except Int (List ZB×Zc×Zc×Zc):=match ZbY 16 l with
 | .error c=>.error c
 | .ok (ps,r1)=>match Zaw r1 with
  | .error c=>.error c
  | .ok (tp,r2)=>match ZdI r2 with
   | .error c=>.error c
   | .ok (d,r3)=>.ok (ps,tp,d,r3)
section
variable (P:List AVal) (hP:P.length=26) (hN:Zd P=true) (l:Zc) (hl:l.length<=140737488355328)
include hP hN hl
theorem ZGD (h15:P[15]?=some (.bool false)):evC FC PR BY 1 Zeb t20 (Zm P l)=some (.normal,ZdA 107,Zm P l):=by
 have a4:=fun L=>(Zaf P hP 15 (by omega) L).trans h15
 unfold Zm t20 ZdA
 simp -implicitDefEqProofs only [EQA,Xc,Xa,reduceCtorEq,↓reduceIte,Zeb,a4]
theorem ZFb (h15:P[15]?=some (.bool true)) (hu:(Zap 16 l).2.1<=l.length) {ps:List ZB} {tp d r:Zc} (h:Zey l=.ok (ps,tp,d,r)):evC FC PR BY 1 Zeb t20 (Zm P l)=some (.normal,t20,Zm (Zin P ps tp d) r):=by
 have a1:=Zac P hP
 have a4:=fun L=>(Zaf P hP 15 (by omega) L).trans h15
 unfold Zey at h
 split at h
 ·cases h
 rename_i ps' r1 hp
 split at h
 ·cases h
 rename_i tp' r2 ht
 split at h
 ·cases h
 rename_i d' r3 hd
 have l1:=Zhf hp
 have l2:=ZdT ht
 injection h with h;injection h with e1 h;injection h with e2 h;injection h with e3 e4;subst e1 e2 e3 e4
 have hG:=fun σ sq hs=>Zeq P hP hN l hl σ 0 sq hs hu hp
 have a3:=fun L=>ZaG P hP 20 21 (by omega) rfl L (.lst false (ps'.map Zu))
 unfold Zin
 have hP1:(P.set 20 (.lst false (ps'.map Zu))).length=26:=by simp [hP]
 have hN1:Zd (P.set 20 (.lst false (ps'.map Zu)))=true:=ZZ (Zcj _ _) 20 hN
 generalize P.set 20 (.lst false (ps'.map Zu))=Q at *
 have hT:=fun σ sq hs=>Zer Q hP1 hN1 r1 (by omega) σ 0 sq hs ht
 have b1:=Zac _ hP1
 have b3:=fun L=>ZaG _ hP1 16 17 (by omega) rfl L (.str tp')
 have hP2:(Q.set 16 (.str tp')).length=26:=by simp [hP1]
 have hN2:Zd (Q.set 16 (.str tp'))=true:=ZZ rfl 16 hN1
 generalize Q.set 16 (.str tp')=R at *
 have hD:=fun σ sq hs=>Zxr R hP2 hN2 r2 (by omega) σ 0 sq hs hd
 have c1:=Zac _ hP2
 have c3:=ZaG _ hP2 17 18 (by omega) rfl
 unfold Zm t20
 simp -implicitDefEqProofs only [EQA,ZH,Xe,Xc,Xf,Xa,reduceCtorEq,↓reduceIte,Zeb,a1,a3,a4,b1,b3,c1,c3,hG,hT,hD]
theorem ZOh (h15:P[15]?=some (.bool true)) (hu:(Zap 16 l).2.1<=l.length) {c:Int} (h:Zey l=.error c):∃ cs,Zd cs=true/\evC FC PR BY 1 Zeb t20 (Zm P l)=some (.panic (ZG c),[],[.var cs]):=by
 have a1:=Zac P hP
 have a4:=fun L=>(Zaf P hP 15 (by omega) L).trans h15
 unfold Zey at h
 split at h
 ·rename_i c' hp
  injection h with h;subst h
  have hG:=fun σ sq hs=>ZfQ P hP hN l hl σ 0 sq hs hp
  refine ⟨P++[.lst false (l.map Zb)],ZE P hP hN _ _,?_⟩
  unfold Zm t20
  simp -implicitDefEqProofs only [EQA,Xc,Xa,reduceCtorEq,↓reduceIte,Zeb,a4,hG]
 rename_i ps' r1 hp
 have l1:=Zhf hp
 have hG:=fun σ sq hs=>Zeq P hP hN l hl σ 0 sq hs hu hp
 have a3:=fun L=>ZaG P hP 20 21 (by omega) rfl L (.lst false (ps'.map Zu))
 have hP1:(P.set 20 (.lst false (ps'.map Zu))).length=26:=by simp [hP]
 have hN1:Zd (P.set 20 (.lst false (ps'.map Zu)))=true:=ZZ (Zcj _ _) 20 hN
 generalize P.set 20 (.lst false (ps'.map Zu))=Q at *
 have b1:=Zac _ hP1
 split at h
 ·rename_i c' ht
  injection h with h;subst h
  have hT:=fun σ sq hs=>ZgM Q hP1 hN1 r1 (by omega) σ 0 sq hs ht
  refine ⟨Q++[.lst false (r1.map Zb)],ZE Q hP1 hN1 _ _,?_⟩
  unfold Zm t20
  simp -implicitDefEqProofs only [EQA,ZH,Xe,Xc,Xf,Xa,reduceCtorEq,↓reduceIte,Zeb,a1,a3,a4,hG,hT]
 rename_i tp' r2 ht
 have l2:=ZdT ht
 have hT:=fun σ sq hs=>Zer Q hP1 hN1 r1 (by omega) σ 0 sq hs ht
 have b3:=fun L=>ZaG _ hP1 16 17 (by omega) rfl L (.str tp')
 have hP2:(Q.set 16 (.str tp')).length=26:=by simp [hP1]
 have hN2:Zd (Q.set 16 (.str tp'))=true:=ZZ rfl 16 hN1
 generalize Q.set 16 (.str tp')=R at *
 split at h
 ·rename_i c' hd
  injection h with h;subst h
  have hD:=fun σ sq hs=>Zu5 R hP2 hN2 r2 (by omega) σ 0 sq hs hd
  refine ⟨R++[.lst false (r2.map Zb)],ZE R hP2 hN2 _ _,?_⟩
  unfold Zm t20
  simp -implicitDefEqProofs only [EQA,ZH,Xe,Xc,Xf,Xa,reduceCtorEq,↓reduceIte,Zeb,a1,a3,a4,b1,b3,hG,hT,hD]
 ·cases h
theorem ZIy {tm:Tms} (ht:tm=t20\/tm=ZdA 107) (h21:P[21]?=some (.bool false)):evC FC PR BY 1 ZeG tm (Zm P l)=some (.normal,ZdA 129,Zm P l):=by
 have a4:=fun L=>(Zaf P hP 21 (by omega) L).trans h21
 rcases ht with rfl | rfl <;> unfold Zm ZdA <;> try unfold t20
 all_goals simp -implicitDefEqProofs only [EQA,Xc,Xa,reduceCtorEq,↓reduceIte,ZeG,a4]
theorem ZBo {tm:Tms} (htm:tm=t20\/tm=ZdA 107) (h21:P[21]?=some (.bool true)) {a r:Zc} (h:Zaw l=.ok (a,r)):evC FC PR BY 1 ZeG tm (Zm P l)=some (.normal,t20,Zm (P.set 22 (.str a)) r):=by
 have a1:=Zac P hP
 have a4:=fun L=>(Zaf P hP 21 (by omega) L).trans h21
 have hT:=fun σ sq hs=>Zer P hP hN l hl σ 0 sq hs h
 have a3:=ZaG P hP 22 23 (by omega) rfl
 rcases htm with rfl | rfl <;> unfold Zm t20 <;> try unfold ZdA
 all_goals simp -implicitDefEqProofs only [EQA,ZH,Xe,Xc,Xf,Xa,reduceCtorEq,↓reduceIte,ZeG,a1,a3,a4,hT]
theorem ZCX {tm:Tms} (htm:tm=t20\/tm=ZdA 107) (h21:P[21]?=some (.bool true)) {c:Int} (h:Zaw l=.error c):evC FC PR BY 1 ZeG tm (Zm P l)=some (.panic (ZG c),[],Zm P l):=by
 have a4:=fun L=>(Zaf P hP 21 (by omega) L).trans h21
 have hT:=fun σ sq hs=>ZgM P hP hN l hl σ 0 sq hs h
 rcases htm with rfl | rfl <;> unfold Zm <;> first | unfold ZdA | unfold t20
 all_goals simp -implicitDefEqProofs only [EQA,Xc,Xa,reduceCtorEq,↓reduceIte,ZeG,a4,hT]
theorem ZNg {tm:Tms} {b:Bool} (htm:tm=t20\/tm=ZdA 129) (h23:P[23]?=some (.bool b)):evC FC PR BY 1 ZgW tm (Zm P l)=some (.normal,[(138,.bool b),(2,.ref 0 0),(0,.ref 0 0)],Zm P l):=by
 have a4:=fun L=>(Zaf P hP 23 (by omega) L).trans h23
 rcases htm with rfl | rfl <;> unfold Zm <;> first | unfold ZdA | unfold t20
 all_goals simp -implicitDefEqProofs only [EQA,Xc,Xa,reduceCtorEq,↓reduceIte,ZgW,a4]
theorem ZKD:KRun Zem [(138,.bool false),(2,.ref 0 0),(0,.ref 0 0)] P l (.ok (P,l)):=by
 refine ⟨[(138,.bool false),(2,.ref 0 0),(0,.ref 0 0)],?_,hP,hN,Xx _⟩
 unfold Zm
 simp -implicitDefEqProofs only [ZtL,eq_self,Opd.ev,tget,Xi,↓reduceIte,Zem]
theorem ZIe {a r:Zc} (h:ZdI l=.ok (a,r)):KRun Zem [(138,.bool true),(2,.ref 0 0),(0,.ref 0 0)] P l (.ok (P.set 24 (.lst false (a.map Zb)),r)):=by
 have a1:=Zac P hP
 have hT:=fun σ sq hs=>Zxr P hP hN l hl σ 0 sq hs h
 have a3:=ZaG P hP 24 25 (by omega) rfl
 refine ⟨[],?_,by simp [hP],ZZ (Zcj _ _) 24 hN,Zwc h⟩
 unfold Zm
 simp -implicitDefEqProofs only [EQA,ZH,Xe,Xc,Xf,Xa,reduceCtorEq,↓reduceIte,Zem,a1,a3,hT]
theorem ZO4 {c:Int} (h:ZdI l=.error c):KRun Zem [(138,.bool true),(2,.ref 0 0),(0,.ref 0 0)] P l (.error c):=by
 have hT:=fun σ sq hs=>Zu5 P hP hN l hl σ 0 sq hs h
 refine ⟨[],[],P++[.lst false (l.map Zb)],ZE P hP hN _ _,?_⟩
 unfold Zm
 simp -implicitDefEqProofs only [EQA,Xc,Xa,reduceCtorEq,↓reduceIte,Zem,hT]
end
def ZbR (P:List AVal) (m:Int):List AVal:=((((((P.set 12 (.bool (ZD m 2 != 0))).set 15 (.bool (ZD m 4 != 0))).set 23 (.bool (ZD m 64 != 0))).set 21 (.bool (ZD m 128 != 0))).set 18 (.int .i64 (ZD (Zex m) 3))).set 19 (.bool (ZD m 32 != 0)))
def ZjH (P:List AVal) (k:Int) (ps:List ZB) (cl:Zc):List AVal:=((P.set 13 (.int .i64 k)).set 9 (.lst false (ps.map Zu))).set 14 (.str cl)
def Zij (b:Bool) (s:KSt):Except Int KSt:=if b=true then (match ZdI s.2 with
 | .error c=>.error c
 | .ok (d,r)=>.ok (s.1.set 24 (.lst false (d.map Zb)),r)) else .ok s
def ZhN (b:Bool) (s:KSt):Except Int KSt:=if b=true then (match Zaw s.2 with
 | .error c=>.error c
 | .ok (d,r)=>.ok (s.1.set 22 (.str d),r)) else .ok s
def ZjE (b:Bool) (s:KSt):Except Int KSt:=if b=true then (match Zey s.2 with
 | .error c=>.error c
 | .ok (ps,tp,d,r)=>.ok (Zin s.1 ps tp d,r)) else .ok s
def ZiV (m:Int) (s:KSt):Except Int KSt:=match ZjE (ZD m 4 != 0) s with
 | .error c=>.error c
 | .ok s=>match ZhN (ZD m 128 != 0) s with
  | .error c=>.error c
  | .ok s=>Zij (ZD m 64 != 0) s
def Zj2 (P:List AVal) (m:Int) (l:Zc):Except Int KSt:=match ZaS 2 l with
 | .error c=>.error c
 | .ok (k,r4)=>match ZbY 1 r4 with
  | .error c=>.error c
  | .ok (ps,r5)=>match Zaw r5 with
   | .error c=>.error c
   | .ok (cl,r6)=>ZiV m (ZjH (ZbR P m) k ps cl,r6)
def ZjJ (P:List AVal) (l:Zc):Except Int KSt:=match Zaw l with
 | .error c=>.error c
 | .ok (s,r1)=>if (s == [77,81,84,84])=true then (match ZaS 1 r1 with
  | .error c=>.error c
  | .ok (v,r2)=>if (v == 5)=true then (match ZaS 1 r2 with
   | .error c=>.error c
   | .ok (m,r3)=>if Zid m (ZD (Zex m) 3) (ZD m 4 != 0) (ZD m 32 != 0)=true then Zj2 P m r3 else .error 129)
   else .error 132)
  else .error 132
theorem ZsS (P:List AVal) (hP:P.length=26) (hN:Zd P=true) (l:Zc) (hl:l.length<=140737488355328) {tm:Tms} {b:Bool} (htm:tm=t20\/tm=ZdA 129) (h23:P[23]?=some (.bool b)):KRun (.seq ZgW Zem) tm P l (Zij b (P,l)):=by
 refine KRun.seqT (ZNg P hP hN l hl htm h23) (Xx _) ?_
 unfold Zij
 cases b
 ·exact ZKD P hP hN l hl
 ·rw [if_pos rfl]
  cases h:ZdI l with
  | error c=>exact ZO4 P hP hN l hl h
  | ok a=>exact ZIe P hP hN l hl h
theorem Zui (P:List AVal) (hP:P.length=26) (hN:Zd P=true) (l:Zc) (hl:l.length<=140737488355328) {tm:Tms} {b bp:Bool} (htm:tm=t20\/tm=ZdA 107) (h21:P[21]?=some (.bool b)) (h23:P[23]?=some (.bool bp)):KRun (.seq ZeG (.seq ZgW Zem)) tm P l (match ZhN b (P,l) with
  | .error c=>.error c
  | .ok s=>Zij bp s):=by
 unfold ZhN
 cases b
 ·rw [if_neg (by simp)]
  refine KRun.seqT (ZIy P hP hN l hl htm h21) (Xx _) ?_
  exact ZsS P hP hN l hl (Xv rfl) h23
 ·rw [if_pos rfl]
  cases h:Zaw l with
  | error c=>exact KRun.seqF (ZE P hP hN _ _) (ZCX P hP hN l hl htm h21 h)
  | ok a =>
   have hr:=ZdT h
   refine KRun.seqT (ZBo P hP hN l hl htm h21 h) hr ?_
   exact ZsS _ (by simp [hP]) (ZZ rfl 22 hN) a.2 (by omega) (Xr rfl) (by rw [Xn (by omega)];exact h23)
theorem ZPa {l:Zc} {ps:List ZB} {tp d r:Zc} (h:Zey l=.ok (ps,tp,d,r)):r.length<=l.length:=by
 unfold Zey at h
 split at h
 ·cases h
 rename_i h1
 split at h
 ·cases h
 rename_i h2
 split at h
 ·cases h
 rename_i h3
 injection h with h;injection h with e1 h;injection h with e2 h;injection h with e3 e4;subst e4
 have:=Zhf h1;have:=ZdT h2;have:=Zwc h3
 omega
theorem ZQG (P:List AVal) (hP:P.length=26) (hN:Zd P=true) (l:Zc) (hl:l.length<=140737488355328) {m:Int} (hu:(Zap 16 l).2.1<=l.length) (h15:P[15]?=some (.bool (ZD m 4 != 0))) (h21:P[21]?=some (.bool (ZD m 128 != 0))) (h23:P[23]?=some (.bool (ZD m 64 != 0))):KRun (.seq Zeb (.seq ZeG (.seq ZgW Zem))) t20 P l (ZiV m (P,l)):=by
 unfold ZiV ZjE
 cases hb:(ZD m 4 != 0)
 ·rw [hb] at h15
  rw [if_neg (by simp)]
  refine KRun.seqT (ZGD P hP hN l hl h15) (Xx _) ?_
  exact Zui P hP hN l hl (Xv rfl) h21 h23
 ·rw [hb] at h15
  rw [if_pos rfl]
  cases h:Zey l with
  | error c =>
   obtain ⟨cs,h1,h2⟩:=ZOh P hP hN l hl h15 hu h
   exact KRun.seqF h1 h2
  | ok a =>
   obtain ⟨ps,tp,d,r⟩:=a
   have hr:=ZPa h
   refine KRun.seqT (ZFb P hP hN l hl h15 hu h) hr ?_
   refine Zui _ (by simp [hP]) (ZZ (Zcj _ _) 17 (ZZ rfl 16 (ZZ (Zcj _ _) 20 hN))) r (by omega) (Xr rfl) ?_ ?_
   ·rw [Xn (by omega),Xn (by omega),Xn (by omega)];exact h21
   ·rw [Xn (by omega),Xn (by omega),Xn (by omega)];exact h23
theorem ZMg (P:List AVal) (hP:P.length=26) (hN:Zd P=true) (l:Zc) (hl:l.length<=140737488355328) {m:Int} (hu1:∀ r:Zc,r.length<=140737488355328->(Zap 1 r).2.1<=r.length) (hu:∀ r:Zc,r.length<=140737488355328->(Zap 16 r).2.1<=r.length):KRun (.seq cn9 (.seq Zh5 (.seq Zif (.seq Zeb (.seq ZeG (.seq ZgW Zem)))))) t20 (ZbR P m) l (Zj2 P m l):=by
 have hM:(ZbR P m).length=26:=by simp [ZbR,hP]
 have hMN:Zd (ZbR P m)=true:=ZZ rfl _ (ZZ rfl _ (ZZ rfl _ (ZZ rfl _ (ZZ rfl _ (ZZ rfl _ hN)))))
 have g15:(ZbR P m)[15]?=some (.bool (ZD m 4 != 0)):=by simp [ZbR,hP]
 have g21:(ZbR P m)[21]?=some (.bool (ZD m 128 != 0)):=by simp [ZbR,hP]
 have g23:(ZbR P m)[23]?=some (.bool (ZD m 64 != 0)):=by simp [ZbR,hP]
 unfold Zj2 ZjH
 generalize ZbR P m=M at *
 cases h1:ZaS 2 l with
 | error c=>exact KRun.seqF (ZE M hM hMN _ _) (ZIX M hM hMN l hl h1)
 | ok a =>
 obtain ⟨k,r4⟩:=a
 have l1:=Zha h1
 refine KRun.seqT (ZEc M hM hMN l hl h1) l1 ?_
 have hM1:(M.set 13 (.int .i64 k)).length=26:=by simp [hM]
 have hN1:Zd (M.set 13 (.int .i64 k))=true:=ZZ rfl 13 hMN
 simp only
 cases h2:ZbY 1 r4 with
 | error c=>exact KRun.seqF (ZE _ hM1 hN1 _ _) (ZNT _ hM1 hN1 r4 (by omega) h2)
 | ok a =>
 obtain ⟨ps,r5⟩:=a
 have l2:=Zhf h2
 refine KRun.seqT (ZLn _ hM1 hN1 r4 (by omega) (hu1 r4 (by omega)) h2) l2 ?_
 have hM2:((M.set 13 (.int .i64 k)).set 9 (.lst false (ps.map Zu))).length=26:=by simp [hM]
 have hN2:Zd ((M.set 13 (.int .i64 k)).set 9 (.lst false (ps.map Zu)))=true:=ZZ (Zcj _ _) 9 hN1
 simp only
 cases h3:Zaw r5 with
 | error c=>exact KRun.seqF (ZE _ hM2 hN2 _ _) (ZQa _ hM2 hN2 r5 (by omega) h3)
 | ok a =>
 obtain ⟨cl,r6⟩:=a
 have l3:=ZdT h3
 refine KRun.seqT (ZAb _ hM2 hN2 r5 (by omega) h3) l3 ?_
 refine ZQG _ (by simp [hM]) (ZZ rfl 14 hN2) r6 (by omega) (hu r6 (by omega)) ?_ ?_ ?_
 ·rw [Xn (by omega),Xn (by omega),Xn (by omega)];exact g15
 ·rw [Xn (by omega),Xn (by omega),Xn (by omega)];exact g21
 ·rw [Xn (by omega),Xn (by omega),Xn (by omega)];exact g23
theorem ZIm (P:List AVal) (hP:P.length=26) (hN:Zd P=true) (l:Zc) (hl:l.length<=140737488355328) (hu1:∀ r:Zc,r.length<=140737488355328->(Zap 1 r).2.1<=r.length) (hu:∀ r:Zc,r.length<=140737488355328->(Zap 16 r).2.1<=r.length):KRun ZrQ [(0,.ref 0 0)] P l (ZjJ P l):=by
 rw [ZJ5]
 refine KRun.seqT (ZB0 P hP hN l hl) (Xx _) ?_
 unfold ZjJ
 cases h1:Zaw l with
 | error c=>exact KRun.seqF (ZE _ hP hN _ _) (ZF9 P hP hN l hl h1)
 | ok a =>
 obtain ⟨s,r1⟩:=a
 have l1:=ZdT h1
 simp only
 split
 case isFalse hs=>exact KRun.seqF (ZE _ hP hN _ _) (ZKS P hP hN l hl h1 (WU _ |>.mp hs))
 rename_i hs
 have hs:=eq_of_beq hs
 subst hs
 refine KRun.seqT (ZNL P hP hN l hl h1) l1 ?_
 cases h2:ZaS 1 r1 with
 | error c=>exact KRun.seqF (ZE _ hP hN _ _) (ZGW P hP hN r1 (by omega) h2)
 | ok a =>
 obtain ⟨v,r2⟩:=a
 have l2:=Zha h2
 simp only
 split
 case isFalse hs=>exact KRun.seqF (ZE _ hP hN _ _) (ZIP P hP hN r1 (by omega) h2 (WU _ |>.mp hs))
 rename_i hs
 have hs:=eq_of_beq hs
 subst hs
 refine KRun.seqT (ZAt P hP hN r1 (by omega) h2) l2 ?_
 cases h3:ZaS 1 r2 with
 | error c=>exact KRun.seqF (ZE _ hP hN _ _) (ZLE P hP hN r2 (by omega) h3)
 | ok a =>
 obtain ⟨m,r3⟩:=a
 have l3:=Zha h3
 simp only
 refine KRun.seqT (ZKr P hP hN r2 (by omega) h3) l3 ?_
 have l4:r3.length<=140737488355328:=by omega
 refine KRun.seqT (Zzs P hP hN r3 l4 m) (Xx _) ?_
 refine KRun.seqT (ZEy _ (by simp [hP]) (ZZ rfl _ (ZZ rfl _ hN)) r3 l4 m) (Xx _) ?_
 refine KRun.seqT (ZBO _ (by simp [hP]) (ZZ rfl _ (ZZ rfl _ (ZZ rfl _ (ZZ rfl _ hN)))) r3 l4 m) (Xx _) ?_
 have hM:(ZbR P m).length=26:=by simp [ZbR,hP]
 have hMN:Zd (ZbR P m)=true:=ZZ rfl _ (ZZ rfl _ (ZZ rfl _ (ZZ rfl _ (ZZ rfl _ (ZZ rfl _ hN)))))
 have g15:(ZbR P m)[15]?=some (.bool (ZD m 4 != 0)):=by simp [ZbR,hP]
 have g18:(ZbR P m)[18]?=some (.int .i64 (ZD (Zex m) 3)):=by simp [ZbR,hP]
 have g19:(ZbR P m)[19]?=some (.bool (ZD m 32 != 0)):=by simp [ZbR,hP]
 split
 case isFalse hs=>exact KRun.seqF (ZE _ hM hMN _ _) (ZAK _ hM hMN r3 l4 m _ _ _ g15 g18 g19 (WU _ |>.mp hs))
 rename_i hs
 refine KRun.seqT (ZN4 _ hM hMN r3 l4 m _ _ _ g15 g18 g19 hs) (Xx _) ?_
 exact ZMg P hP hN r3 l4 hu1 hu
end
section
theorem z0b:((((0:Nat):Int)) == 0)=true:=by decide
theorem Ze9 {l:Zc} {b:Bool} (h:decide (l.length=0)=b):(((l.length:Nat):Int) == 0)=b:=by
 subst h
 by_cases h:l.length=0
 ·simp [h]
 ·have : ¬((l.length:Nat):Int)=0:=by omega
  simp [h]
section
variable (P:List AVal) (hP:P.length=26) (hN:Zd P=true)
include hP hN
theorem ZxY (qos:Int) (h0:P[0]?=some (.int .i64 3)) (h2:P[2]?=some (.int .i64 qos)) (h4:P[4]?=some (.int .i64 0)) (hu:∀ r:Zc,r.length<=140737488355328->(Zap 3 r).2.1<=r.length) (l:Zc) (hl:l.length<=140737488355328) {tp:Zc} {n:Int} {ps:List ZB} {pay:Zc} (h:ZeD qos l=.ok (tp,n,ps,pay)) :
  E 20 [.ref 0 0] [.var (P++[.lst false (l.map Zb)])]=some (.tup [],[.var ((((P.set 5 (.str tp)).set 4 (.int .i64 n)).set 9 (.lst false (ps.map Zu))).set 6 (.lst false (pay.map Zb))++[.lst true []])]):=by
 have hq:=Zzz P hP hN qos h2 h4 hu l hl h
 have hN':Zd ((((P.set 5 (.str tp)).set 4 (.int .i64 n)).set 9 (.lst false (ps.map Zu))).set 6 (.lst false (pay.map Zb)))=true:=ZZ (Zcj _ _) _ (ZZ (Zcj _ _) _ (ZZ rfl _ (ZZ rfl _ hN)))
 have hP':((((P.set 5 (.str tp)).set 4 (.int .i64 n)).set 9 (.lst false (ps.map Zu))).set 6 (.lst false (pay.map Zb))).length=26:=by simp [hP]
 generalize (((P.set 5 (.str tp)).set 4 (.int .i64 n)).set 9 (.lst false (ps.map Zu))).set 6 (.lst false (pay.map Zb))=Q at *
 have hG:=fun σ sq (hs:(σ:Za)[0]?=some (.var (P++[.lst false (l.map Zb)])))=>Zde (O:=E) (bf:=BY) (f:=36) (rest:=[]) (by kernel_rfl) rfl (ZE P hP hN _ _) (ZaM hN' (by rfl)) rfl rfl hq hs sq
 have a4:=fun L=>(Zaf P hP 0 (by omega) L).trans h0
 have b2:=Zay Q hP'
 have m1:=Zbm
 have z:=z0b
 rw [Zj (by rfl) Zbs]
 simp -implicitDefEqProofs only [EQA,ZH,Zx,Xe,Xc,Xf,Xa,Xg,↓reduceIte,Zd,Zbq,Zbh,ZeN,a4,b2,hG,m1,Xq,z]
 exact Z8 rfl (ZaM hN' (by rfl))
theorem ZMW (qos:Int) (h0:P[0]?=some (.int .i64 3)) (h2:P[2]?=some (.int .i64 qos)) (l:Zc) (hl:l.length<=140737488355328) {c:Int} (h:ZeD qos l=.error c) :
  ∃ cs,Zd cs=true/\E 20 [.ref 0 0] [.var (P++[.lst false (l.map Zb)])]=some (.pan (ZG c),[.var cs]):=by
 obtain ⟨cs,hn,he⟩:=ZPK P hP hN qos h2 l hl h
 have hG:=fun σ sq (hs:(σ:Za)[0]?=some (.var (P++[.lst false (l.map Zb)])))=>ZcS (O:=E) (bf:=BY) (f:=36) (view:=true) (rest:=[]) (by kernel_rfl) rfl (ZE P hP hN _ _) hn rfl he hs sq
 have a4:=fun L=>(Zaf P hP 0 (by omega) L).trans h0
 refine ⟨cs,hn,?_⟩
 rw [Zj (by rfl) Zbs]
 simp -implicitDefEqProofs only [EQA,ZH,Xe,Xc,Xf,Xa,Xg,↓reduceIte,Zbq,Zbh,a4,hG,Xq]
 exact Z8 rfl hn
theorem ZJh (h0:P[0]?=some (.int .i64 1)) (l:Zc) (hl:l.length<=140737488355328) {Q:List AVal} {r:Zc} (hq:E 32 [.ref 0 0] (Zm P l)=some (.tup [],Zm Q r)) (hQ:Q.length=26) (hQN:Zd Q=true) (hr:r.length=0) :
  E 20 [.ref 0 0] (Zm P l)=some (.tup [],Zm Q r):=by
 unfold Zm at *
 have hG:=fun σ sq (hs:(σ:Za)[0]?=some (.var (P++[.lst false (l.map Zb)])))=>Zde (O:=E) (bf:=BY) (f:=32) (rest:=[]) (by kernel_rfl) rfl (ZE P hP hN _ _) (ZaM hQN (by rfl)) rfl rfl hq hs sq
 have a4:=fun L=>(Zaf P hP 0 (by omega) L).trans h0
 have b2:=Zay Q hQ
 have m1:=Zbm
 have z:=Ze9 (l:=r) (decide_eq_true hr)
 rw [Zj (by rfl) Zbs]
 simp -implicitDefEqProofs only [EQA,ZH,Zx,Xe,Xc,Xf,Xa,Xg,↓reduceIte,Zd,Zbq,Zbh,ZeN,a4,b2,hG,m1,z]
 exact Z8 rfl (ZaM hQN (by rfl))
theorem ZyV (h0:P[0]?=some (.int .i64 1)) (l:Zc) (hl:l.length<=140737488355328) {Q:List AVal} {r:Zc} (hq:E 32 [.ref 0 0] (Zm P l)=some (.tup [],Zm Q r)) (hQ:Q.length=26) (hQN:Zd Q=true) (hr:¬r.length=0) :
  E 20 [.ref 0 0] (Zm P l)=some (.pan (ZG 129),Zm Q r):=by
 unfold Zm at *
 have hG:=fun σ sq (hs:(σ:Za)[0]?=some (.var (P++[.lst false (l.map Zb)])))=>Zde (O:=E) (bf:=BY) (f:=32) (rest:=[]) (by kernel_rfl) rfl (ZE P hP hN _ _) (ZaM hQN (by rfl)) rfl rfl hq hs sq
 have a4:=fun L=>(Zaf P hP 0 (by omega) L).trans h0
 have b2:=Zay Q hQ
 have m1:=ZbO
 have z:=Ze9 (l:=r) (decide_eq_false hr)
 rw [Zj (by rfl) Zbs]
 simp -implicitDefEqProofs only [EQA,ZH,Xe,Xc,Xf,Xa,Xg,↓reduceIte,Zbq,Zbh,a4,b2,hG,m1,z]
 exact Z8 rfl (ZaM hQN (by rfl))
theorem ZA8 (h0:P[0]?=some (.int .i64 1)) (l:Zc) (hl:l.length<=140737488355328) {cs:List AVal} {c:Int} (hn:Zd cs=true) (he:E 32 [.ref 0 0] (Zm P l)=some (.pan (ZG c),[.var cs])) :
  E 20 [.ref 0 0] (Zm P l)=some (.pan (ZG c),[.var cs]):=by
 unfold Zm at *
 have hG:=fun σ sq (hs:(σ:Za)[0]?=some (.var (P++[.lst false (l.map Zb)])))=>ZcS (O:=E) (bf:=BY) (f:=32) (view:=true) (rest:=[]) (by kernel_rfl) rfl (ZE P hP hN _ _) hn rfl he hs sq
 have a4:=fun L=>(Zaf P hP 0 (by omega) L).trans h0
 rw [Zj (by rfl) Zbs]
 simp -implicitDefEqProofs only [EQA,ZH,Xe,Xc,Xf,Xa,Xg,↓reduceIte,Zbq,Zbh,a4,hG]
 exact Z8 rfl hn
end
end
section
def Zeu (P:List AVal) (c:Int) (ps:Option (List ZB)):List AVal:=(P.set 7 (.int .i64 c)).set 9 (Zfw ps)
theorem ZkT {P:List AVal} (hP:P.length=26) (hN:Zd P=true) (c:Int) (ps:Option (List ZB)):(Zeu P c ps).length=26/\Zd (Zeu P c ps)=true :=
 ⟨by simp [Zeu,hP],ZZ (by cases ps <;> rfl) 9 (ZZ rfl 7 hN)⟩
section
variable (P:List AVal) (hP:P.length=26) (hN:Zd P=true)
include hP hN
theorem ZEn (k:Int) (hk:k=14\/k=15) (h0:P[0]?=some (.int .i64 k)) (h7:P[7]?=some (.int .i64 0)) (h9:P[9]?=some (.lst true [])) (hu:∀ r:Zc,r.length<=140737488355328->(Zap k r).2.1<=r.length) (l:Zc) (hl:l.length<=140737488355328) {c:Int} {ps:Option (List ZB)} {r:Zc} (h:Zdm k l=.ok ((c,ps),r)) :
  E 20 [.ref 0 0] (Zm P l)=some (if r.length=0 then .tup [] else .pan (ZG 129),Zm (Zeu P c ps) r):=by
 have hG:=fun σ sq hs=>ZvA P hP hN l hl σ 0 sq hs k h0 h7 h9 hu h
 obtain ⟨hQ,hQN⟩:=ZkT hP hN c ps
 have a4:=fun L=>(Zaf P hP 0 (by omega) L).trans h0
 unfold Zm
 rw [show (P.set 7 (.int .i64 c)).set 9 (Zfw ps)=Zeu P c ps from rfl] at hG
 generalize Zeu P c ps=Q at *
 have b2:=Zay Q hQ
 by_cases hr:r.length=0
 ·have m1:=Zbm
  have z:=Ze9 (l:=r) (decide_eq_true hr)
  rw [if_pos hr]
  rcases hk with rfl | rfl
  all_goals
   rw [Zj (by rfl) Zbs]
   simp -implicitDefEqProofs only [EQA,ZH,Zx,Xe,Xc,Xf,Xa,Xg,↓reduceIte,Zd,Zbq,Zbh,ZeN,a4,b2,hG,m1,Xq,z]
   exact Z8 rfl (ZaM hQN (by rfl))
 ·have m1:=ZbO
  have z:=Ze9 (l:=r) (decide_eq_false hr)
  rw [if_neg hr]
  rcases hk with rfl | rfl
  all_goals
   rw [Zj (by rfl) Zbs]
   simp -implicitDefEqProofs only [EQA,ZH,Xe,Xc,Xf,Xa,Xg,↓reduceIte,Zbq,Zbh,a4,b2,hG,m1,Xq,z]
   exact Z8 rfl (ZaM hQN (by rfl))
theorem ZBB (k:Int) (hk:k=14\/k=15) (h0:P[0]?=some (.int .i64 k)) (hu:∀ r:Zc,r.length<=140737488355328->(Zap k r).2.1<=r.length) (l:Zc) (hl:l.length<=140737488355328) {e:Int} (h:Zdm k l=.error e) :
  ∃ cs,Zd cs=true/\E 20 [.ref 0 0] (Zm P l)=some (.pan (ZG e),[.var cs]):=by
 obtain ⟨cs,hn,he⟩:=Zvl P hP hN k h0 hu l hl h
 have hG:=fun σ sq (hs:(σ:Za)[0]?=some (.var (P++[.lst false (l.map Zb)])))=>ZcS (O:=E) (bf:=BY) (f:=38) (view:=true) (rest:=[]) (by kernel_rfl) rfl (ZE P hP hN _ _) hn rfl he hs sq
 have a4:=fun L=>(Zaf P hP 0 (by omega) L).trans h0
 refine ⟨cs,hn,?_⟩
 unfold Zm
 rcases hk with rfl | rfl
 all_goals
  rw [Zj (by rfl) Zbs]
  simp -implicitDefEqProofs only [EQA,ZH,Xe,Xc,Xf,Xa,Xg,↓reduceIte,Zbq,Zbh,a4,hG,Xq]
  exact Z8 rfl hn
theorem ZOD (k:Int) (hk:k=4\/k=5\/k=6\/k=7) (h0:P[0]?=some (.int .i64 k)) (h7:P[7]?=some (.int .i64 0)) (h9:P[9]?=some (.lst true [])) (hu:∀ r:Zc,r.length<=140737488355328->(Zap k r).2.1<=r.length) (l:Zc) (hl:l.length<=140737488355328) {n:Int} {r1:Zc} (hi:idK l=.ok (n,r1)) {c:Int} {ps:Option (List ZB)} {r:Zc} (h:Zdm k r1=.ok ((c,ps),r)) :
  E 20 [.ref 0 0] (Zm P l)=some (if r.length=0 then .tup [] else .pan (ZG 129),Zm (Zeu (P.set 4 (.int .i64 n)) c ps) r):=by
 have hr1:=Zfo hi
 have hI:=fun σ sq hs=>Zf0 P hP hN l hl σ 0 sq hs hi
 have hP4:(P.set 4 (.int .i64 n)).length=26:=by simp [hP]
 have hN4:Zd (P.set 4 (.int .i64 n))=true:=ZZ rfl 4 hN
 have g0:(P.set 4 (.int .i64 n))[0]?=some (.int .i64 k):=by rw [Xn (by omega)];exact h0
 have g7:(P.set 4 (.int .i64 n))[7]?=some (.int .i64 0):=by rw [Xn (by omega)];exact h7
 have g9:(P.set 4 (.int .i64 n))[9]?=some (.lst true []):=by rw [Xn (by omega)];exact h9
 generalize P.set 4 (.int .i64 n)=S at *
 have hG:=fun σ sq hs=>ZvA S hP4 hN4 r1 (by omega) σ 0 sq hs k g0 g7 g9 hu h
 obtain ⟨hQ,hQN⟩:=ZkT hP4 hN4 c ps
 have a4:=fun L=>(Zaf P hP 0 (by omega) L).trans h0
 unfold Zm
 rw [show (S.set 7 (.int .i64 c)).set 9 (Zfw ps)=Zeu S c ps from rfl] at hG
 generalize Zeu S c ps=Q at *
 have b2:=Zay Q hQ
 by_cases hr:r.length=0
 ·have m1:=Zbm
  have z:=Ze9 (l:=r) (decide_eq_true hr)
  rw [if_pos hr]
  rcases hk with rfl | rfl | rfl | rfl
  all_goals
   rw [Zj (by rfl) Zbs]
   simp -implicitDefEqProofs only [EQA,ZH,Zx,Xe,Xc,Xf,Xa,Xg,↓reduceIte,Zd,Zbq,Zbh,ZeN,a4,b2,hI,hG,m1,Xq,z]
   exact Z8 rfl (ZaM hQN (by rfl))
 ·have m1:=ZbO
  have z:=Ze9 (l:=r) (decide_eq_false hr)
  rw [if_neg hr]
  rcases hk with rfl | rfl | rfl | rfl
  all_goals
   rw [Zj (by rfl) Zbs]
   simp -implicitDefEqProofs only [EQA,ZH,Xe,Xc,Xf,Xa,Xg,↓reduceIte,Zbq,Zbh,a4,b2,hI,hG,m1,Xq,z]
   exact Z8 rfl (ZaM hQN (by rfl))
theorem ZHM (k:Int) (hk:k=4\/k=5\/k=6\/k=7) (h0:P[0]?=some (.int .i64 k)) (l:Zc) (hl:l.length<=140737488355328) {e:Int} (h:idK l=.error e) :
  ∃ cs,Zd cs=true/\E 20 [.ref 0 0] (Zm P l)=some (.pan (ZG e),[.var cs]):=by
 obtain ⟨cs,hn,he⟩:=Zkt P hP hN l hl h
 have hG:=fun σ sq (hs:(σ:Za)[0]?=some (.var (P++[.lst false (l.map Zb)])))=>ZcS (O:=E) (bf:=BY) (f:=37) (view:=true) (rest:=[]) (by kernel_rfl) rfl (ZE P hP hN _ _) hn rfl he hs sq
 have a4:=fun L=>(Zaf P hP 0 (by omega) L).trans h0
 refine ⟨cs,hn,?_⟩
 unfold Zm
 rcases hk with rfl | rfl | rfl | rfl
 all_goals
  rw [Zj (by rfl) Zbs]
  simp -implicitDefEqProofs only [EQA,ZH,Xe,Xc,Xf,Xa,Xg,↓reduceIte,Zbq,Zbh,a4,hG,Xq]
  exact Z8 rfl hn
theorem ZNa (k:Int) (hk:k=4\/k=5\/k=6\/k=7) (h0:P[0]?=some (.int .i64 k)) (hu:∀ r:Zc,r.length<=140737488355328->(Zap k r).2.1<=r.length) (l:Zc) (hl:l.length<=140737488355328) {n:Int} {r1:Zc} (hi:idK l=.ok (n,r1)) {e:Int} (h:Zdm k r1=.error e) :
  ∃ cs,Zd cs=true/\E 20 [.ref 0 0] (Zm P l)=some (.pan (ZG e),[.var cs]):=by
 have hr1:=Zfo hi
 have hI:=fun σ sq hs=>Zf0 P hP hN l hl σ 0 sq hs hi
 have hP4:(P.set 4 (.int .i64 n)).length=26:=by simp [hP]
 have hN4:Zd (P.set 4 (.int .i64 n))=true:=ZZ rfl 4 hN
 have g0:(P.set 4 (.int .i64 n))[0]?=some (.int .i64 k):=by rw [Xn (by omega)];exact h0
 generalize P.set 4 (.int .i64 n)=S at *
 obtain ⟨cs,hn,he⟩:=Zvl S hP4 hN4 k g0 hu r1 (by omega) h
 have hG:=fun σ sq (hs:(σ:Za)[0]?=some (.var (S++[.lst false (r1.map Zb)])))=>ZcS (O:=E) (bf:=BY) (f:=38) (view:=true) (rest:=[]) (by kernel_rfl) rfl (ZE S hP4 hN4 _ _) hn rfl he hs sq
 have a4:=fun L=>(Zaf P hP 0 (by omega) L).trans h0
 refine ⟨cs,hn,?_⟩
 unfold Zm
 rcases hk with rfl | rfl | rfl | rfl
 all_goals
  rw [Zj (by rfl) Zbs]
  simp -implicitDefEqProofs only [EQA,ZH,Xe,Xc,Xf,Xa,Xg,↓reduceIte,Zbq,Zbh,a4,hI,hG,Xq]
  exact Z8 rfl hn
theorem ZBz (k:Int) (hk:k=12\/k=13) (h0:P[0]?=some (.int .i64 k)) (l:Zc):E 20 [.ref 0 0] (Zm P l)=some (if l.length=0 then .tup [] else .pan (ZG 129),Zm P l):=by
 have a4:=fun L=>(Zaf P hP 0 (by omega) L).trans h0
 have b2:=Zay P hP
 unfold Zm
 by_cases hr:l.length=0
 ·have m1:=Zbm
  have z:=Ze9 (l:=l) (decide_eq_true hr)
  rw [if_pos hr]
  rcases hk with rfl | rfl
  all_goals
   rw [Zj (by rfl) Zbs]
   simp -implicitDefEqProofs only [EQA,ZH,Zx,Xe,Xc,Xf,Xa,Xg,↓reduceIte,Zd,Zbq,Zbh,ZeN,a4,b2,m1,Xq,z]
   exact Z8 rfl (ZE P hP hN _ _)
 ·have m1:=ZbO
  have z:=Ze9 (l:=l) (decide_eq_false hr)
  rw [if_neg hr]
  rcases hk with rfl | rfl
  all_goals
   rw [Zj (by rfl) Zbs]
   simp -implicitDefEqProofs only [EQA,ZH,Xe,Xc,Xf,Xa,Xg,↓reduceIte,Zbq,Zbh,a4,b2,m1,Xq,z]
   exact Z8 rfl (ZE P hP hN _ _)
end
end
section
def ZeA (k:Int):Int:=if k=6\/k=8\/k=10 then 2 else 0
theorem ZOK (k:Int):E 26 [.int .i64 k] []=some (.int .u8 (ZeA k),[]):=by
 unfold ZeA
 by_cases h6:k=6
 ·subst h6;rw [Zj (by rfl) Zl8];simp -implicitDefEqProofs only [EQA,Xc,Xa,reduceCtorEq,↓reduceIte,ZlQ,ZiB,Zmh]
 by_cases h8:k=8
 ·subst h8;rw [Zj (by rfl) Zl8];simp -implicitDefEqProofs only [EQA,Xc,Xa,reduceCtorEq,↓reduceIte,ZlQ,ZiB,Zmh,Xq]
 by_cases h10:k=10
 ·subst h10;rw [Zj (by rfl) Zl8];simp -implicitDefEqProofs only [EQA,Xc,Xa,reduceCtorEq,↓reduceIte,ZlQ,ZiB,Zmh,Xq]
 have b6:(k == 6)=false:=by simpa using h6
 have b8:(k == 8)=false:=by simpa using h8
 have b10:(k == 10)=false:=by simpa using h10
 rw [if_neg (by omega),Zj (by rfl) Zl8]
 simp -implicitDefEqProofs only [EQA,Xc,Xa,reduceCtorEq,↓reduceIte,ZlQ,ZiB,Zmh,b6,b8,b10]
theorem Zmy (k:Int) (σ:Za) (sq own:Nat):Zk E BY σ sq 26 own true [.int .i64 k]=some (.int .u8 (ZeA k),σ,{}) :=
 ZcU (ZOK k) (by kernel_rfl) (by simp -implicitDefEqProofs only [Zdb,ZbJ,eq_self,eq_self]) (by simp -implicitDefEqProofs only [ZH,ZbJ,eq_self,eq_self]) rfl (fun _=>rfl) _ _ _ _
def tyI (b:Int):Int:=IntKind.i64.wrap (b.fdiv (2 ^ min (WV 4) IntKind.u8.bits))
def ZbF (a b:Int):Int:=IntKind.u8.wrap (XR IntKind.u8.bits a &&& XR IntKind.u8.bits b).toNat
def qoI (b:Int):Int:=IntKind.i64.wrap (ZbF (b.fdiv (2 ^ min (WV 1) IntKind.u8.bits)) 3)
def Zda (P:List AVal) (b:Int):List AVal:=(((P.set 0 (.int .i64 3)).set 1 (.bool (ZbF b 8 != 0))).set 2 (.int .i64 (qoI b))).set 3 (.bool (ZbF b 1 != 0))
section
variable (P:List AVal) (hP:P.length=26) (hN:Zd P=true)
include hP hN
theorem Zmz (L v:AVal):[v]++List.drop 1 (P++[L])=P.set 0 v++[L]:=ZaG P hP 0 1 (by omega) rfl L v
theorem ZIu (b:Int) (l:Zc) (h:tyI b=0):E 19 [.ref 0 0,.int .u8 b] (Zm P l)=some (.pan (ZG 129),Zm (P.set 0 (.int .i64 0)) l):=by
 have a1:=Zac P hP
 have a3:=Zmz P hP hN
 have a4:=Zib P hP 0 (by omega)
 have m1:=ZbO
 have z:((0:Int) != 0)=false:=by decide
 unfold tyI at h
 unfold Zm
 rw [Zj (by rfl) ZgV]
 simp -implicitDefEqProofs only [EQA,ZH,Xc,Xf,Xa,ZaN,reduceCtorEq,↓reduceIte,Zhn,Zfr,a1,a3,a4,m1,h,z,X1]
 exact Z8 rfl (ZaM (ZZ rfl _ hN) (by rfl))
theorem ZxS (b t:Int) (l:Zc) (h:tyI b=t) (h0:¬t=0) (h3:¬t=3) (hf:¬ZbF b 15=ZeA t):E 19 [.ref 0 0,.int .u8 b] (Zm P l)=some (.pan (ZG 129),Zm (P.set 0 (.int .i64 t)) l):=by
 have a1:=Zac P hP
 have a3:=Zmz P hP hN
 have a4:=Zib P hP 0 (by omega)
 have m0:=Zbm
 have m1:=ZbO
 have e0:(t != 0)=true:=by simpa using h0
 have e3:(t != 3)=true:=by simpa using h3
 have ef:(ZbF b 15 == ZeA t)=false:=by simpa using hf
 have hC:=Zmy t
 unfold tyI at h
 unfold ZbF at ef
 unfold Zm
 rw [Zj (by rfl) ZgV]
 simp -implicitDefEqProofs only [EQA,ZH,Xc,Xf,Xa,ZaN,reduceCtorEq,↓reduceIte,Zhn,Zfr,a1,a3,a4,m0,m1,h,e0,e3,ef,hC,X1]
 exact Z8 rfl (ZaM (ZZ rfl _ hN) (by rfl))
theorem ZO7 (b t:Int) (l:Zc) (h:tyI b=t) (h0:¬t=0) (h3:¬t=3) (hf:ZbF b 15=ZeA t):E 19 [.ref 0 0,.int .u8 b] (Zm P l)=some (.tup [],Zm (P.set 0 (.int .i64 t)) l):=by
 have a1:=Zac P hP
 have a3:=Zmz P hP hN
 have a4:=Zib P hP 0 (by omega)
 have m0:=Zbm
 have e0:(t != 0)=true:=by simpa using h0
 have e3:(t != 3)=true:=by simpa using h3
 have ef:(ZbF b 15 == ZeA t)=true:=by simpa using hf
 have hC:=Zmy t
 unfold tyI at h
 unfold ZbF at ef
 unfold Zm
 rw [Zj (by rfl) ZgV]
 simp -implicitDefEqProofs only [EQA,ZH,Zx,Xc,Xf,Xa,ZaN,reduceCtorEq,↓reduceIte,Zd,Zhn,Zfr,Zpy,a1,a3,a4,m0,h,e0,e3,ef,hC,X1]
 exact Z8 rfl (ZaM (ZZ rfl _ hN) (by rfl))
theorem ZDw (b:Int) (l:Zc) (h:tyI b=3):E 19 [.ref 0 0,.int .u8 b] (Zm P l)=some (if qoI b < 3 then (if qoI b > 0\/(ZbF b 8 != 0)=false then .tup [] else .pan (ZG 130)) else .pan (ZG 129),Zm (Zda P b) l):=by
 have hQ:(Zda P b).length=26:=by simp [Zda,hP]
 have hQN:Zd (Zda P b)=true:=ZZ rfl _ (ZZ rfl _ (ZZ rfl _ (ZZ rfl _ hN)))
 have g1:(Zda P b)[1]?=some (.bool (ZbF b 8 != 0)):=by simp [Zda,hP]
 have g2:(Zda P b)[2]?=some (.int .i64 (qoI b)):=by simp [Zda,hP]
 have a1:=Zac P hP
 have a3:=fun L=>Zmz P hP hN L (.int .i64 3)
 have a4:=Zib P hP 0 (by omega)
 have hP0:(P.set 0 (.int .i64 3)).length=26:=by simp [hP]
 have b1:=Zac _ hP0
 have b3:=fun L=>ZaG _ hP0 1 2 (by omega) rfl L (.bool (ZbF b 8 != 0))
 have hP1:((P.set 0 (.int .i64 3)).set 1 (.bool (ZbF b 8 != 0))).length=26:=by simp [hP]
 have c1:=Zac _ hP1
 have c3:=fun L=>ZaG _ hP1 2 3 (by omega) rfl L (.int .i64 (qoI b))
 have hP2:(((P.set 0 (.int .i64 3)).set 1 (.bool (ZbF b 8 != 0))).set 2 (.int .i64 (qoI b))).length=26:=by simp [hP]
 have d1:=Zac _ hP2
 have d3:=fun L=>ZaG _ hP2 3 4 (by omega) rfl L (.bool (ZbF b 1 != 0))
 rw [show (((P.set 0 (.int .i64 3)).set 1 (.bool (ZbF b 8 != 0))).set 2 (.int .i64 (qoI b))).set 3 (.bool (ZbF b 1 != 0))=Zda P b from rfl] at d3
 generalize Zda P b=Q at *
 have k1:=fun L=>(Zaf Q hQ 1 (by omega) L).trans g1
 have k2:=fun L=>(Zaf Q hQ 2 (by omega) L).trans g2
 have m0:=Zbm
 have m1:=ZbO
 have e0:((3:Int) != 0)=true:=by decide
 have e3:((3:Int) != 3)=false:=by decide
 unfold tyI at h
 unfold Zm
 by_cases hq:qoI b < 3
 ·rw [if_pos hq]
  by_cases hq0:qoI b > 0
  ·rw [if_pos (Xr hq0)]
   unfold qoI ZbF at *
   rw [Zj (by rfl) ZgV]
   simp -implicitDefEqProofs only [EQA,ZH,Zx,Xe,Xc,Xf,Xa,ZaN,ZA,Zal,reduceCtorEq,↓reduceIte,Zd,Zhn,Zfr,Zpy,a1,a3,a4,b1,b3,c1,c3,d1,d3,k2,m0,h,e0,e3,hq,hq0,X1]
   exact Z8 rfl (ZaM hQN (by rfl))
  ·cases hd:(ZbF b 8 != 0)
   ·rw [if_pos (Xv rfl)]
    rw [hd] at b3 c1 c3 d1 d3 k1
    unfold qoI ZbF at *
    rw [Zj (by rfl) ZgV]
    simp -implicitDefEqProofs only [EQA,ZH,Zx,Xe,Xc,Xf,Xa,ZaN,unA,ZA,unG,reduceCtorEq,↓reduceIte,Zd,Zhn,Zfr,Zpy,a1,a3,a4,b1,b3,c1,c3,d1,d3,k1,k2,m0,h,e0,e3,hq,hq0,hd,X1]
    exact Z8 rfl (ZaM hQN (by rfl))
   ·rw [if_neg (by simp [hq0])]
    rw [hd] at b3 c1 c3 d1 d3 k1
    unfold qoI ZbF at *
    rw [Zj (by rfl) ZgV]
    simp -implicitDefEqProofs only [EQA,ZH,Xe,Xc,Xf,Xa,ZaN,unA,ZA,unG,reduceCtorEq,↓reduceIte,Zhn,Zfr,a1,a3,a4,b1,b3,c1,c3,d1,d3,k1,k2,m0,m1,h,e0,e3,hq,hq0,hd,X1]
    exact Z8 rfl (ZaM hQN (by rfl))
 ·rw [if_neg hq]
  unfold qoI ZbF at *
  rw [Zj (by rfl) ZgV]
  simp -implicitDefEqProofs only [EQA,ZH,Xe,Xc,Xf,Xa,ZaN,reduceCtorEq,↓reduceIte,Zhn,Zfr,a1,a3,a4,b1,b3,c1,c3,d1,d3,k2,m0,m1,h,e0,e3,hq,X1]
  exact Z8 rfl (ZaM hQN (by rfl))
end
end
section
section
variable {σ:Za} {cs xs:List AVal} {g w:Nat}
theorem ZoF {t r:Nat} (hs:σ[t]?=some (.var cs)) (hr:σ[r]?=some (.row g w xs)) (htr:t≠r) (hrf:Zw cs=[r]):Zt σ 1000 [t] []=[t,r]:=by
 have h1:σ.getD t .free=.var cs:=by simp [Xh,hs]
 have h2:σ.getD r .free=.row g w xs:=by simp [Xh,hr]
 have e1:([]:List Nat).contains t=false:=rfl
 have e2:([t]:List Nat).contains r=false:=by simp;exact fun e=>htr e.symm
 rw [show (1000:Nat)=997+1+1+1 from rfl,Zt,e1]
 simp only [Xi,if_false,h1,ZC,hrf,Xm,Xw]
 rw [Zt,e2]
 simp only [Xi,if_false,h2,ZC,Xw]
 rfl
theorem Zt3 {r:AVal} {σ:Za} (hr:ZI r=true) (hrf:Zw cs=[1]) (hg:g<=1) (hren:∀ ρ:Rho,ρ 1 g=some (1,g)->Zg ρ cs=cs):gcA 2 [r] (.var cs::.row g w xs::σ)=([r],[.var cs,.row g w xs]):=by
 have e1:=(Z4 (Zi (.var cs::.row g w xs::σ) 2 [0,1]) r hr)
 have h1:Zy 2 [r] (.var cs::.row g w xs::σ)=[0,1]:=by
  have : Zw [r]=[]:=by simp only [Zw,e1.2,Xm]
  have hR:X6 2=[0,1]:=rfl
  simp only [Zy,this,Xw,hR,XH,XX,Xm,Xu,XN,ZC,hrf]
  rfl
 have hng:(if g=0 then 0 else 1)=g:=by split <;> omega
 have hρ:Zi (.var cs::.row g w xs::σ) 2 [0,1] 1 g=some (1,g):=by
  simp only [Zi,ZO,Zl,ZF,XO,XI]
  simp [hng]
 simp only [gcA,h1,Zg,e1.1,Zq,Xu,XN,ZF,Zl,Zz,hren _ hρ]
 simp [hng]
theorem Zo6 {r:AVal} {σ:Za} (hr:ZI r=true) (hrf:Zw cs=[1]) (hg:g<=1) (hren:∀ ρ:Rho,ρ 1 g=some (1,g)->Zg ρ cs=cs):Zak 2 (.var cs::.row g w xs::σ) r=some (r,[.var cs,.row g w xs]):=by
 simp only [Zak,Zt3 hr hrf hg hren]
end
theorem ZcW:∀ (a b:List AVal),Zw (a++b)=Zw a++Zw b
 | [],b=>by simp [Zw]
 | x::a,b=>by simp [Zw,ZcW a b,Wa]
theorem Zb3 (ρ:Rho):∀ (a b:List AVal),Zg ρ (a++b)=Zg ρ a++Zg ρ b
 | [],b=>by simp [Zg]
 | x::a,b=>by simp [Zg,Zb3 ρ a b]
theorem Zjx {v:AVal}:∀ {P:List AVal} {k:Nat},Zd P=true->k < P.length->Zw (P.set k v)=Z9 v
 | [],_,_,h=>by simp at h
 | x::P,0,h,_=>by
  simp only [Zd,Xl] at h
  simp only [WO,Zw,(Za8 (fun _ _=>none) P h.2).2,Xm]
 | x::P,k+1,h,hk=>by
  simp only [Zd,Xl] at h
  simp only [WP,Zw,(Z4 (fun _ _=>none) x h.1).2,Xw]
  exact Zjx h.2 (by simpa using hk)
theorem ZjP (ρ:Rho) {v:AVal}:∀ {P:List AVal} {k:Nat},Zd P=true->Zg ρ (P.set k v)=P.set k (Zr ρ v)
 | [],_,_=>by simp [Zg]
 | x::P,0,h=>by
  simp only [Zd,Xl] at h
  simp only [WO,Zg,(Za8 ρ P h.2).1]
 | x::P,k+1,h=>by
  simp only [Zd,Xl] at h
  simp only [WP,Zg,(Z4 ρ x h.1).1,ZjP ρ h.2]
theorem ZOt {σ:Za} {t r g w w2 g2:Nat} {cs xs cs2 xs2:List AVal} (hs:σ[t]?=some (.var cs)) (hr:σ[r]?=some (.row g w xs)) (hg2:g2<=1):ZaY σ [t,r] [.var cs2,.row g2 w2 xs2] 0=true:=by
 have h1:σ.getD t .free=.var cs:=by simp [Xh,hs]
 have h2:σ.getD r .free=.row g w xs:=by simp [Xh,hr]
 simp [ZaY,okB,Zb7,Zl,hs,hr,hg2]
theorem Zhc {O:ZX} {bf:Nat->Bool} {σ:Za} {t r f own g w g2 w2 sq:Nat} {view:Bool} {rest:List AVal} {cs cs1 cs2 cs3 xs xs2:List AVal} {q q':AVal} (hs:σ[t]?=some (.var cs)) (hr:σ[r]?=some (.row g w xs)) (htr:t≠r) (hrf:Zw cs=[r]) (hb:bf f=false) (hp:rest.all Z5=true)
  (hren:∀ ρ:Rho,ρ r g=some (1,0)->Zg ρ cs=cs1) (hg2:g2<=1) (hff:Zba σ sq own=true) (hn:ZI q'=true)
  (h:O f (.ref 0 0::rest.map ZK) [.var cs1,.row 0 w xs]=some (q,[.var cs2,.row g2 w2 xs2])) (hv:Z2 view 2 (some (q,[.var cs2,.row g2 w2 xs2]))=some (q',[.var cs2,.row g2 w2 xs2]))
  (hback:∀ ρ:Rho,(∀ j,ρ 1 j=some (r,g+j))->Zg ρ cs2=cs3) :
  Zk O bf σ sq f own view (.ref t 0::rest)=some (q',(σ.set t (.var cs3)).set r (.row (g+g2) w2 xs2),{ any:=true,upd:=[(t,cs3)] }):=by
 have htl:t < σ.length:=by
  rcases WB t σ.length with h | h
  ·exact h
  ·rw [XS h] at hs;cases hs
 have h1:σ.getD t .free=.var cs:=by simp [Xh,hs]
 have h2:σ.getD r .free=.row g w xs:=by simp [Xh,hr]
 have hf0:Zp σ []=σ:=rfl
 have hsh:showAs σ (.ref t 0::rest)=some (.ref t 0::rest.map ZK,[]):=by
  rw [showAs,show showA σ (.ref t 0)=some (.ref t 0,[]) from rfl,Zef hp]
  rfl
 have href:Zw (.ref t 0::rest.map ZK)=[t]:=by
  rw [Zw,Zdz hp];rfl
 have hup:Zbd ((σ.set t (.var cs3)).set r (.row (g+g2) w2 xs2)) [t,r]=[(t,cs3)]:=by
  have e1:((σ.set t (.var cs3)).set r (.row (g+g2) w2 xs2))[t]?=some (.var cs3):=by
   rw [Xn (fun e=>htr e.symm),X2 htl]
  have e2:((σ.set t (.var cs3)).set r (.row (g+g2) w2 xs2))[r]?=some (.row (g+g2) w2 xs2):=by
   rw [X2 (by
    rcases WB r σ.length with h | h
    ·simpa using h
    ·rw [XS h] at hr;cases hr)]
  simp only [Zbd,e1,e2]
 unfold Zk ZbW
 rw [hb]
 simp only [Xi,if_false,hsh,hf0,href,ZoF hs hr htr hrf]
 unfold ZbM
 have hall:([t,r].all fun t=>okB (σ.getD t .free))=true:=by simp only [XD,Wr,h1,h2,okB,Bool.and_true]
 rw [if_pos hall]
 have hρt:Zi σ 0 [t,r] t 0=some (0,0):=by simp [Zi,ZO,hs,Zl,ZF]
 have hρr:Zi σ 0 [t,r] r g=some (1,0):=by simp [Zi,ZO,hr,Zl,ZF,htr]
 have hargs:Zg (Zi σ 0 [t,r]) (.ref t 0::rest.map ZK)=.ref 0 0::rest.map ZK:=by
  rw [Zg,ZdD hp]
  simp only [Zr,hρt]
 have hheap:Zq σ 0 [t,r] (Zi σ 0 [t,r]) [t,r] 0=[.var cs1,.row 0 w xs]:=by
  simp only [Zq,h1,h2,ZF,Zl,Zz,hren _ hρr]
  simp
 rw [hargs,hheap,h]
 rw [show [t,r].length=2 from rfl,hv]
 have hk:=ZOt (cs2:=cs2) (w2:=w2) (xs2:=xs2) hs hr hg2
 have hb3:Zg (ZaC σ [t,r] sq) cs2=cs3:=hback _ (fun j=>by simp only [ZaC,XO,XI,h2,Zl])
 simp only [ZaH,Wu,Xi,if_false,XF,XJ,XG,Xe,Xau,Xx,decide_true,hk,hff,Wg,if_true,Za9,ZaO,Xu,XN,Zca,XI,XO,h2,Zl,Zz,(Z4 _ _ hn).1,hb3,hup]
end
section
section
variable (P:List AVal) (hP:P.length=26) (hF:Zw P=[1]) (hS:∀ ρ:Rho,ρ 1 0=some (1,0)->Zg ρ P=P) (w:Nat) (xs:List AVal)
include hP hF hS
theorem Zhz {r:AVal} (hr:ZI r=true) (f:Bool) (ys:List AVal):Zak 2 [.var (P++[.lst f ys]),.row 0 w xs] r=some (r,[.var (P++[.lst f ys]),.row 0 w xs]) :=
 Zo6 hr (by rw [ZcW,hF];rfl) (by omega) (fun ρ h=>by rw [Zb3,hS ρ h];rfl)
theorem ZEO (l:Zc) (n:Nat) (hn:n<=l.length) (hl:l.length<=140737488355328):E 33 [.ref 0 0,.int .i64 (n:Nat)] [.var (P++[.lst false (l.map Zb)]),.row 0 w xs]=some (.int .i64 (Zjh (l.take n)),[.var (P++[.lst false ((l.drop n).map Zb)]),.row 0 w xs]):=by
 have h1:(l.length:Int)>=((n:Nat):Int):=by omega
 have s1:=fun σ kk=>ZhV σ 1 l Zb kk (n:Int) (by omega) (by omega)
 have s2:=fun σ kk=>Zft σ l kk (n:Int) (by omega) (by omega)
 have e2:((n:Int)).toNat=n:=rfl
 rw [e2] at s1 s2
 have ht:(l.take n).length<=9223372036854775807:=by simp;omega
 have hG:=fun σ sq own f=>ZlC σ sq own (l.take n) ht f
 have a1:=Zac P hP
 have a2:=Zay P hP
 have a3:=Ze4 P hP
 have a4:=ZfY P hP
 have m1:=Zbm
 rw [Zj (by rfl) Zmt]
 simp -implicitDefEqProofs only [EQA,ZH,Xe,Xc,Xf,Xa,reduceCtorEq,↓reduceIte,Zku,Zig,ZuV,h1,s1,s2,hG,a1,a2,a3,a4,m1,Zjh]
 exact Zhz P hP hF hS w xs rfl _ _
theorem ZBx (l:Zc) (n:Nat) (hn:l.length < n) (hn':n<=9223372036854775807):E 33 [.ref 0 0,.int .i64 (n:Nat)] [.var (P++[.lst false (l.map Zb)]),.row 0 w xs]=some (.pan (ZG 129),[.var (P++[.lst false (l.map Zb)]),.row 0 w xs]):=by
 have h1:¬(l.length:Int)>=((n:Nat):Int):=by omega
 have a2:=Zay P hP
 have m1:=ZbO
 rw [Zj (by rfl) Zmt]
 simp -implicitDefEqProofs only [EQA,Xe,Xc,Xa,reduceCtorEq,↓reduceIte,Zku,Zig,h1,a2,m1]
 exact Zhz P hP hF hS w xs rfl _ _
theorem ZMd (l:Zc) (hl:l.length<=140737488355328) (h:(Zai l).2.2=0):E 42 [.ref 0 0] [.var (P++[.lst false (l.map Zb)]),.row 0 w xs]=some (.str (Zai l).1,[.var (P++[.lst false ((l.drop (Zai l).2.1).map Zb)]),.row 0 w xs]):=by
 have hG:=fun σ sq own f=>ZiL σ sq own f l hl
 have hu:=(ZiN l).1
 unfold gtT at hG
 have s2:=fun σ kk=>Zft σ l kk ((Zai l).2.1:Int) (by omega) (by omega)
 have e2:(((Zai l).2.1:Nat):Int).toNat=(Zai l).2.1:=rfl
 rw [e2] at s2
 rw [h] at hG
 have a1:=Zac P hP
 have a2:=Zay P hP
 have a3:=Ze4 P hP
 have a4:=ZfY P hP
 have m1:=Zbm
 rw [Zj (by rfl) Zm6]
 simp -implicitDefEqProofs only [EQA,ZH,Xe,Xc,Xf,Xa,reduceCtorEq,↓reduceIte,Zlz,ZhO,Zvf,s2,hG,a1,a2,a3,a4,m1]
 exact Zhz P hP hF hS w xs rfl _ _
theorem ZA1 (l:Zc) (hl:l.length<=140737488355328) (h:(Zai l).2.2≠0):E 42 [.ref 0 0] [.var (P++[.lst false (l.map Zb)]),.row 0 w xs]=some (.pan (ZG 129),[.var (P++[.lst false (l.map Zb)]),.row 0 w xs]):=by
 have hG:=fun σ sq own f=>ZiL σ sq own f l hl
 unfold gtT at hG
 have h0:((Zai l).2.2 == 0)=false:=by simpa using h
 have h1:=h
 have a2:=Zay P hP
 have m1:=ZbO
 rw [Zj (by rfl) Zm6]
 simp -implicitDefEqProofs only [EQA,Xe,Xc,Xa,reduceCtorEq,↓reduceIte,Zlz,ZhO,hG,a2,h0,m1]
 exact Zhz P hP hF hS w xs rfl _ _
end
theorem ZmE {q:AVal} {cs xs:List AVal} {g w:Nat} (view:Bool) (hn:ZI q=true) (hv:viewR [.var cs,.row g w xs] q=some (q,[])) (hrf:Zw cs=[1]) (hg:g<=1) (hren:∀ ρ:Rho,ρ 1 g=some (1,g)->Zg ρ cs=cs):Z2 view 2 (some (q,[.var cs,.row g w xs]))=some (q,[.var cs,.row g w xs]):=by
 unfold Z2
 split
 ·have hnp:∀ x,q≠.pan x:=by rintro x rfl;simp [viewR,ZU,ZP] at hv
  rw [show Zbw 2 (some (q,[.var cs,.row g w xs]))=(match viewR [.var cs,.row g w xs] q with
   | some (r',ts)=>match gcA 2 [r'] (Zp [.var cs,.row g w xs] ts) with
    | ([r''],σ')=>some (r'',σ')
    | _=>none
   | none=>none) from by cases q <;> first | rfl | exact absurd rfl (hnp _)]
  rw [hv]
  simp only [show Zp [ZR.var cs,.row g w xs] []=[.var cs,.row g w xs] from rfl,Zt3 hn hrf hg hren]
 ·rfl
theorem Zq1 {x:AVal} {σ:Za} (view:Bool):Z2 view 2 (some (.pan x,σ))=some (.pan x,σ):=by
 unfold Z2
 split <;> rfl
def Zo (Q:List AVal) (k r g n:Nat):List AVal:=Q.set k (.sl r g 0 n)
section
variable (Q:List AVal) (hQ:Q.length=26) (hN:Zd Q=true) (k:Nat) (hk:k < 26) (n:Nat)
include hQ hN hk
theorem Zcb (r g:Nat):(Zo Q k r g n).length=26:=by simp [Zo,hQ]
theorem Zcz (r g:Nat):Zw (Zo Q k r g n)=[r]:=by
 unfold Zo
 rw [Zjx hN (by omega)]
 rfl
theorem ZbV {r g r' g':Nat} (ρ:Rho) (h:ρ r g=some (r',g')):Zg ρ (Zo Q k r g n)=Zo Q k r' g' n:=by
 unfold Zo
 rw [ZjP ρ hN]
 simp only [Zr,h]
variable (w:Nat) (xs:List AVal) (l:Zc) (hl:l.length<=140737488355328) (σ:Za) (t r g sq:Nat) (htr:t≠r) (hs:σ[t]?=some (.var (Zo Q k r g n++[.lst false (l.map Zb)]))) (hr:σ[r]?=some (.row g w xs))
include hl htr hs hr
theorem Zlw {c:Nat} {m a:Int} {l2:Zc} (hm:((c:Nat):Int)=m) (h:ZaS c l=.ok (a,l2)):Zk E BY σ sq 33 0 true [.ref t 0,.int .i64 m]=some (.int .i64 a,(σ.set t (.var (Zo Q k r g n++[.lst false (l2.map Zb)]))).set r (.row g w xs),{ any:=true,upd:=[(t,Zo Q k r g n++[.lst false (l2.map Zb)])] }):=by
 subst hm
 unfold ZaS at h
 split at h
 ·cases h
 ·injection h with h;injection h with h1 h2;subst h1 h2
  have e:=ZEO (Zo Q k 1 0 n) (Zcb Q hQ hN k hk n 1 0) (Zcz Q hQ hN k hk n 1 0) (fun ρ h=>ZbV Q hQ hN k hk n ρ h) w xs l c (by omega) hl
  exact Zhc (g2:=0) (own:=0) (rest:=[.int .i64 (c:Nat)]) hs hr htr (by rw [ZcW,Zcz Q hQ hN k hk n];rfl) (by kernel_rfl) rfl (fun ρ h=>by rw [Zb3,ZbV Q hQ hN k hk n ρ h];rfl) (by omega) rfl rfl e
   (ZmE true rfl rfl (by rw [ZcW,Zcz Q hQ hN k hk n];rfl) (by omega) (fun ρ h=>by rw [Zb3,ZbV Q hQ hN k hk n ρ h];rfl)) (fun ρ h=>by rw [Zb3,ZbV Q hQ hN k hk n ρ (h 0)];rfl)
theorem Zu2 {c:Nat} {m e:Int} (hm:((c:Nat):Int)=m) (hc:c<=9223372036854775807) (h:ZaS c l=.error e):Zk E BY σ sq 33 0 true [.ref t 0,.int .i64 m]=some (.pan (ZG e),(σ.set t (.var (Zo Q k r g n++[.lst false (l.map Zb)]))).set r (.row g w xs),{ any:=true,upd:=[(t,Zo Q k r g n++[.lst false (l.map Zb)])] }):=by
 subst hm
 unfold ZaS at h
 split at h
 ·injection h with h;subst h
  have e:=ZBx (Zo Q k 1 0 n) (Zcb Q hQ hN k hk n 1 0) (Zcz Q hQ hN k hk n 1 0) (fun ρ h=>ZbV Q hQ hN k hk n ρ h) w xs l c (by omega) hc
  exact Zhc (g2:=0) (own:=0) (rest:=[.int .i64 (c:Nat)]) hs hr htr (by rw [ZcW,Zcz Q hQ hN k hk n];rfl) (by kernel_rfl) rfl (fun ρ h=>by rw [Zb3,ZbV Q hQ hN k hk n ρ h];rfl) (by omega) rfl rfl e
   (Zq1 true) (fun ρ h=>by rw [Zb3,ZbV Q hQ hN k hk n ρ (h 0)];rfl)
 ·cases h
theorem ZqO {a l2:Zc} (h:Zaw l=.ok (a,l2)):Zk E BY σ sq 42 0 true [.ref t 0]=some (.str a,(σ.set t (.var (Zo Q k r g n++[.lst false (l2.map Zb)]))).set r (.row g w xs),{ any:=true,upd:=[(t,Zo Q k r g n++[.lst false (l2.map Zb)])] }):=by
 unfold Zaw at h
 split at h
 ·rename_i h0
  injection h with h;injection h with h1 h2;subst h1 h2
  have e:=ZMd (Zo Q k 1 0 n) (Zcb Q hQ hN k hk n 1 0) (Zcz Q hQ hN k hk n 1 0) (fun ρ h=>ZbV Q hQ hN k hk n ρ h) w xs l hl h0
  exact Zhc (g2:=0) (own:=0) (rest:=[]) hs hr htr (by rw [ZcW,Zcz Q hQ hN k hk n];rfl) (by kernel_rfl) rfl (fun ρ h=>by rw [Zb3,ZbV Q hQ hN k hk n ρ h];rfl) (by omega) rfl rfl e
   (ZmE true rfl rfl (by rw [ZcW,Zcz Q hQ hN k hk n];rfl) (by omega) (fun ρ h=>by rw [Zb3,ZbV Q hQ hN k hk n ρ h];rfl)) (fun ρ h=>by rw [Zb3,ZbV Q hQ hN k hk n ρ (h 0)];rfl)
 ·cases h
theorem Zt5 {c:Int} (h:Zaw l=.error c):Zk E BY σ sq 42 0 true [.ref t 0]=some (.pan (ZG c),(σ.set t (.var (Zo Q k r g n++[.lst false (l.map Zb)]))).set r (.row g w xs),{ any:=true,upd:=[(t,Zo Q k r g n++[.lst false (l.map Zb)])] }):=by
 unfold Zaw at h
 split at h
 ·cases h
 ·rename_i h0
  injection h with h;subst h
  have e:=ZA1 (Zo Q k 1 0 n) (Zcb Q hQ hN k hk n 1 0) (Zcz Q hQ hN k hk n 1 0) (fun ρ h=>ZbV Q hQ hN k hk n ρ h) w xs l hl h0
  exact Zhc (g2:=0) (own:=0) (rest:=[]) hs hr htr (by rw [ZcW,Zcz Q hQ hN k hk n];rfl) (by kernel_rfl) rfl (fun ρ h=>by rw [Zb3,ZbV Q hQ hN k hk n ρ h];rfl) (by omega) rfl rfl e
   (Zq1 true) (fun ρ h=>by rw [Zb3,ZbV Q hQ hN k hk n ρ (h 0)];rfl)
end
section
variable (Q:List AVal) (hQ:Q.length=26) (hN:Zd Q=true) (k:Nat) (hk:k < 26) (n:Nat) (w:Nat) (xs:List AVal) (l:Zc) (hl:l.length<=140737488355328) (kd:Int) (h0:(Zo Q k 1 0 n)[0]?=some (.int .i64 kd))
include hQ hN hk hl h0
theorem ZJQ {c:Int} {r:Zc} (h:ZaR kd l=.ok (c,r)):E 34 [.ref 0 0] [.var (Zo Q k 1 0 n++[.lst false (l.map Zb)]),.row 0 w xs]=some (.int .i64 c,[.var (Zo Q k 1 0 n++[.lst false (r.map Zb)]),.row 0 w xs]):=by
 unfold ZaR at h
 split at h
 case h_2=>cases h
 rename_i n' r' h2
 split at h
 case isFalse=>cases h
 rename_i hn
 injection h with h;injection h with h3 h4;subst h3 h4
 have hG:=fun σ sq hs hr=>Zlw Q hQ hN k hk n w xs l hl σ 0 1 0 sq (by omega) hs hr (m:=1) rfl h2
 have hL:=Zcb Q hQ hN k hk n 1 0
 have hR:=Zcz Q hQ hN k hk n 1 0
 have hS:∀ ρ:Rho,ρ 1 0=some (1,0)->Zg ρ (Zo Q k 1 0 n)=Zo Q k 1 0 n:=fun ρ h=>ZbV Q hQ hN k hk n ρ h
 generalize Zo Q k 1 0 n=P at *
 have a4:=fun L=>(Zaf P hL 0 (by omega) L).trans h0
 have m1:=Zbm
 have hC:=fun σ sq own=>Zi0 kd n' σ sq own
 rw [hn] at hC
 rw [Zj (by rfl) ZgI]
 simp -implicitDefEqProofs only [EQA,Xe,Xc,Xa,reduceCtorEq,↓reduceIte,Zgs,ZeJ,ZuP,hG,hC,a4,m1]
 exact Zhz P hL hR hS w xs rfl _ _
theorem ZL0 {c:Int} (h:ZaR kd l=.error c):∃ r:Zc,E 34 [.ref 0 0] [.var (Zo Q k 1 0 n++[.lst false (l.map Zb)]),.row 0 w xs]=some (.pan (ZG c),[.var (Zo Q k 1 0 n++[.lst false (r.map Zb)]),.row 0 w xs]):=by
 unfold ZaR at h
 have hL:=Zcb Q hQ hN k hk n 1 0
 have hR:=Zcz Q hQ hN k hk n 1 0
 have hS:∀ ρ:Rho,ρ 1 0=some (1,0)->Zg ρ (Zo Q k 1 0 n)=Zo Q k 1 0 n:=fun ρ h=>ZbV Q hQ hN k hk n ρ h
 split at h
 ·rename_i n' r' h2
  split at h
  case isTrue=>cases h
  rename_i hn
  injection h with h;subst h
  have hG:=fun σ sq hs hr=>Zlw Q hQ hN k hk n w xs l hl σ 0 1 0 sq (by omega) hs hr (m:=1) rfl h2
  refine ⟨r',?_⟩
  generalize Zo Q k 1 0 n=P at *
  have a4:=fun L=>(Zaf P hL 0 (by omega) L).trans h0
  have m1:=ZbO
  have hC:=fun σ sq own=>Zi0 kd n' σ sq own
  rw [WU _ |>.mp hn] at hC
  rw [Zj (by rfl) ZgI]
  simp -implicitDefEqProofs only [EQA,Xe,Xc,Xa,reduceCtorEq,↓reduceIte,Zgs,ZeJ,hG,hC,a4,m1]
  exact Zhz P hL hR hS w xs rfl _ _
 ·rename_i c' h2
  injection h with h;subst h
  have hG:=fun σ sq hs hr=>Zu2 Q hQ hN k hk n w xs l hl σ 0 1 0 sq (by omega) hs hr (m:=1) rfl (by decide) h2
  refine ⟨l,?_⟩
  generalize Zo Q k 1 0 n=P at *
  rw [Zj (by rfl) ZgI]
  simp -implicitDefEqProofs only [EQA,Xe,Xc,reduceCtorEq,↓reduceIte,Zgs,ZeJ,hG]
  exact Zhz P hL hR hS w xs rfl _ _
variable (σ:Za) (t r g sq:Nat) (htr:t≠r) (hs:σ[t]?=some (.var (Zo Q k r g n++[.lst false (l.map Zb)]))) (hr:σ[r]?=some (.row g w xs))
include htr hs hr
theorem ZJw {c:Int} {l2:Zc} (h:ZaR kd l=.ok (c,l2)):Zk E BY σ sq 34 0 true [.ref t 0]=some (.int .i64 c,(σ.set t (.var (Zo Q k r g n++[.lst false (l2.map Zb)]))).set r (.row g w xs),{ any:=true,upd:=[(t,Zo Q k r g n++[.lst false (l2.map Zb)])] }):=by
 have e:=ZJQ Q hQ hN k hk n w xs l hl kd h0 h
 exact Zhc (g2:=0) (own:=0) (rest:=[]) hs hr htr (by rw [ZcW,Zcz Q hQ hN k hk n];rfl) (by kernel_rfl) rfl (fun ρ h=>by rw [Zb3,ZbV Q hQ hN k hk n ρ h];rfl) (by omega) rfl rfl e
  (ZmE true rfl rfl (by rw [ZcW,Zcz Q hQ hN k hk n];rfl) (by omega) (fun ρ h=>by rw [Zb3,ZbV Q hQ hN k hk n ρ h];rfl)) (fun ρ h=>by rw [Zb3,ZbV Q hQ hN k hk n ρ (h 0)];rfl)
theorem ZBF {c:Int} (h:ZaR kd l=.error c):∃ l2:Zc,Zk E BY σ sq 34 0 true [.ref t 0]=some (.pan (ZG c),(σ.set t (.var (Zo Q k r g n++[.lst false (l2.map Zb)]))).set r (.row g w xs),{ any:=true,upd:=[(t,Zo Q k r g n++[.lst false (l2.map Zb)])] }):=by
 obtain ⟨l2,e⟩:=ZL0 Q hQ hN k hk n w xs l hl kd h0 h
 exact ⟨l2,Zhc (g2:=0) (own:=0) (rest:=[]) hs hr htr (by rw [ZcW,Zcz Q hQ hN k hk n];rfl) (by kernel_rfl) rfl (fun ρ h=>by rw [Zb3,ZbV Q hQ hN k hk n ρ h];rfl) (by omega) rfl rfl e
  (Zq1 true) (fun ρ h=>by rw [Zb3,ZbV Q hQ hN k hk n ρ (h 0)];rfl)⟩
end
end
section
structure ZbC where
 filter:Zc
 qos:Int
 noLocal:Bool
 asPublished:Bool
 handling:Int
 id:Int
 deriving DecidableEq
def Z6 (s:ZbC):AVal:=.agg [.str s.filter,.int .i64 s.qos,.bool s.noLocal,.bool s.asPublished,.int .i64 s.handling,.int .i64 s.id]
structure Ztz where
 topic:Zc
 data:Zc
 qos:Int
 retain:Bool
 props:List ZB
 deriving DecidableEq
structure Zn where
 type:Int
 dup:Bool
 qos:Int
 retain:Bool
 id:Int
 topic:Zc
 payload:Zc
 code:Int
 codes:List Int
 props:List ZB
 subs:List ZbC
 filters:List Zc
 clean:Bool
 keep:Int
 client:Zc
 hasWill:Bool
 will:Ztz
 hasUser:Bool
 user:Zc
 hasPassword:Bool
 password:Zc
 present:Bool
 deriving DecidableEq
def Zs (p:Zn):AVal:=.agg [.int .i64 p.type,.bool p.dup,.int .i64 p.qos,.bool p.retain,.int .i64 p.id,.str p.topic,.lst false (p.payload.map Zb),.int .i64 p.code,.lst false (p.codes.map (AVal.int .i64)),.lst false (p.props.map Zu),.lst false (p.subs.map Z6),.lst false (p.filters.map AVal.str),.bool p.clean,.int .i64 p.keep,.str p.client,.bool p.hasWill,.str p.will.topic,.lst false (p.will.data.map Zb),.int .i64 p.will.qos,.bool p.will.retain,.lst false (p.will.props.map Zu),.bool p.hasUser,.str p.user,.bool p.hasPassword,.lst false (p.password.map Zb),.bool p.present]
end
section
def Zgh (m:Int):Int:=IntKind.i64.wrap (m.tdiv 16)
def ZbH (l:Zc):RK ZbC:=match Zaw l with
 | .error c=>.error c
 | .ok (f,r1)=>match ZaS 1 r1 with
  | .error c=>.error c
  | .ok (o,r2)=>if o < 64 then (if ZD o 3 < 3/\Zgh o < 3 then .ok (⟨f,ZD o 3,ZD o 4 != 0,ZD o 8 != 0,Zgh o,0⟩,r2) else .error 130) else .error 129
theorem Zdk {cs cs' xs:List AVal} {w j:Nat} {r:AVal} {σ:Za} (hr:ZI r=true) (hj:j≠0) (h0:σ[0]?=some (.var cs)) (h1:σ[j]?=some (.row 0 w xs)) (hrf:Zw cs=[j]) (hren:∀ ρ:Rho,ρ j 0=some (1,0)->Zg ρ cs=cs'):Zak 1 σ r=some (r,[.var cs',.row 0 w xs]):=by
 have d0:σ.getD 0 .free=.var cs:=by simp [Xh,h0]
 have d1:σ.getD j .free=.row 0 w xs:=by simp [Xh,h1]
 have e1:=(Z4 (Zi σ 1 [0,j]) r hr)
 have ej:([0]:List Nat).contains j=false:=by simp;omega
 have hi:Zy 1 [r] σ=[0,j]:=by
  have : Zw [r]=[]:=by simp only [Zw,e1.2,Xm]
  have hR:X6 1=[0]:=rfl
  simp only [Zy,this,Xw,hR,XH,XX,Xm,d0,ZC,hrf]
  rw [show (1000:Nat)=998+1+1 from rfl,Zt,ej]
  simp only [Xi,if_false,d1,ZC,Xw]
  rfl
 have hρ:Zi σ 1 [0,j] j 0=some (1,0):=by
  have : ¬(0:Nat)=j:=fun e=>hj e.symm
  simp [Zi,ZO,Zl,ZF,h1,this]
 simp only [Zak,gcA,hi,Zg,e1.1,Zq,d0,d1,ZF,Zl,Zz,hren _ hρ]
 simp
section
variable (P:List AVal) (hP:P.length=26) (hN:Zd P=true) (h10:P[10]?=some (.lst true [])) (l:Zc) (hl:l.length<=140737488355328)
include hP hN h10 hl
theorem ZAB {s:ZbC} {r:Zc} (h:ZbH l=.ok (s,r)):E 40 [.ref 0 0] (Zm P l)=some (.tup [],[.var (Zo P 10 1 0 1++[.lst false (r.map Zb)]),.row 0 6 [Z6 s]]):=by
 unfold ZbH at h
 split at h
 ·cases h
 rename_i f r1 ht
 have l1:=ZdT ht
 split at h
 ·cases h
 rename_i o r2 hn
 split at h
 case isFalse=>cases h
 rename_i h64
 split at h
 case isFalse=>cases h
 rename_i hq
 obtain ⟨hq1,hq2⟩:=hq
 injection h with h;injection h with e1 e2;subst e1 e2
 have hT:=fun σ sq hs=>Zer P hP hN l hl σ 0 sq hs ht
 have hG:=fun σ sq hs=>Zc2 P hP hN r1 (by omega) σ 0 sq hs (m:=1) rfl hn
 have m0:=Zbm
 have a1:=Zac P hP
 have a3:=fun L v=>ZaG P hP 10 11 (by omega) rfl L v
 have a4:=fun L=>(Zaf P hP 10 (by omega) L).trans h10
 have z:¬(16:Int)=0:=by decide
 unfold Zo Z6 Zm
 unfold ZD Zgh at *
 rw [Zj (by rfl) ZdN]
 simp -implicitDefEqProofs only [EQA,Zbl,Zx,Xe,Xc,Xf,Xa,Xg,ZA,unG,reduceCtorEq,ZM,↓reduceIte,Zd,ZdO,Zdf,Zs0,hT,hG,m0,a1,a3,a4,z,h64,hq1,hq2,Zau,AVal.cells,Z3,viewAs,ZU,ZP,ZaL,Zp,WI,Xx,Zaj,Zan,Zam,ZaA,Zaz,Zax,ZaF,Zat,XC,kOk]
 refine Zdk (j:=2) rfl (by omega) rfl rfl ?_ (fun ρ h=>?_)
 ·rw [ZcW,Zjx hN (by omega)];rfl
 ·rw [Zb3,ZjP ρ hN]
  simp only [Zr,h]
  rfl
end
theorem ZzH (ss:List ZbC):kOk 6 (ss.map Z6)=true:=by cases ss <;> rfl
section
variable (P:List AVal) (hP:P.length=26) (hN:Zd P=true) (ss:List ZbC) (hss:ss.length*48+48<=140737488355328) (l:Zc) (hl:l.length<=140737488355328)
include hP hN hss hl
theorem ZJG {s:ZbC} {r:Zc} (h:ZbH l=.ok (s,r)):E 40 [.ref 0 0] [.var (Zo P 10 1 0 ss.length++[.lst false (l.map Zb)]),.row 0 6 (ss.map Z6)]=some (.tup [],[.var (Zo P 10 1 1 (ss.length+1)++[.lst false (r.map Zb)]),.row 1 6 ((ss++[s]).map Z6)]):=by
 unfold ZbH at h
 split at h
 ·cases h
 rename_i f r1 ht
 have l1:=ZdT ht
 split at h
 ·cases h
 rename_i o r2 hn
 split at h
 case isFalse=>cases h
 rename_i h64
 split at h
 case isFalse=>cases h
 rename_i hq
 obtain ⟨hq1,hq2⟩:=hq
 injection h with h;injection h with e1 e2;subst e1 e2
 have hT:=fun σ sq hs hr=>ZqO P hP hN 10 (by omega) ss.length 6 (ss.map Z6) l hl σ 0 1 0 sq (by omega) hs hr ht
 have hG:=fun σ sq hs hr=>Zlw P hP hN 10 (by omega) ss.length 6 (ss.map Z6) r1 (by omega) σ 0 1 0 sq (by omega) hs hr (m:=1) rfl hn
 have m0:=Zbm
 have hL:=Zcb P hP hN 10 (by omega) ss.length 1 0
 have a1:=Zac _ hL
 have a3:=fun L v=>ZaG _ hL 10 11 (by omega) rfl L v
 have h10:(Zo P 10 1 0 ss.length)[10]?=some (.sl 1 0 0 ss.length):=by unfold Zo;rw [X2 (by omega)]
 have a4:=fun L=>(Zaf _ hL 10 (by omega) L).trans h10
 have hset:(Zo P 10 1 0 ss.length).set 10 (.sl 1 1 0 (ss.length+1))=Zo P 10 1 1 (ss.length+1):=by unfold Zo;rw [Xa6]
 have z:¬(16:Int)=0:=by decide
 have kk:=ZzH ss
 have k1:∀ a b c d e f:AVal,kOk 6 [.agg [a,b,c,d,e,f]]=true:=fun _ _ _ _ _ _=>rfl
 have len:(ss.map Z6).length=ss.length:=by simp
 have tk:(ss.map Z6).take ss.length=ss.map Z6:=by rw [<-len,Wl]
 have lim:(ss.length+1)*48<=140737488355328:=by omega
 have lim2:48*(ss.length+1)<=140737488355328:=by omega
 unfold ZD Zgh at *
 rw [Zj (by rfl) ZdN]
 simp -implicitDefEqProofs only [EQA,Zbl,Xe,Xc,Xf,Xa,Xg,ZA,unG,reduceCtorEq,ZM,↓reduceIte,ZdO,Zdf,Zs0,hT,hG,m0,a1,a3,a4,z,h64,hq1,hq2,Zau,AVal.cells,Z3,viewAs,ZU,ZP,ZaL,Zp,Xx,Zaj,Zan,Zam,ZaA,Zaz,Zax,ZaF,Zat,XC,k1,len,lim,hset]
 rw [Zo6 (g:=1) rfl (by rw [ZcW,Zcz P hP hN 10 (by omega)];rfl) (by omega) (fun ρ h=>by rw [Zb3,ZbV P hP hN 10 (by omega) _ ρ h];rfl)]
 simp only [List.map_append,Xo,XA]
 rfl
end
section
variable (P:List AVal) (hP:P.length=26) (hN:Zd P=true) (l:Zc) (hl:l.length<=140737488355328)
include hP hN hl
theorem ZMM {e:Int} (h:ZbH l=.error e):∃ cs,Zd cs=true/\E 40 [.ref 0 0] (Zm P l)=some (.pan (ZG e),[.var cs]):=by
 unfold ZbH at h
 have z:¬(16:Int)=0:=by decide
 unfold Zm
 split at h
 ·rename_i c ht
  injection h with h;subst h
  have hT:=fun σ sq hs=>ZgM P hP hN l hl σ 0 sq hs ht
  refine ⟨_,ZE P hP hN false (l.map Zb),?_⟩
  rw [Zj (by rfl) ZdN]
  simp -implicitDefEqProofs only [EQA,Xc,↓reduceIte,ZdO,Zdf,hT]
  exact Z8 rfl (ZE P hP hN _ _)
 rename_i f r1 ht
 have l1:=ZdT ht
 have hT:=fun σ sq hs=>Zer P hP hN l hl σ 0 sq hs ht
 split at h
 ·rename_i c hn
  injection h with h;subst h
  have hG:=fun σ sq hs=>Zgx P hP hN r1 (by omega) σ 0 sq hs (m:=1) rfl (by decide) hn
  refine ⟨_,ZE P hP hN false (r1.map Zb),?_⟩
  rw [Zj (by rfl) ZdN]
  simp -implicitDefEqProofs only [EQA,Zbl,Xe,Xc,Xf,Xa,Xg,reduceCtorEq,↓reduceIte,ZdO,Zdf,hT,hG,Zau,AVal.cells]
  exact Z8 rfl (ZE P hP hN _ _)
 rename_i o r2 hn
 have hG:=fun σ sq hs=>Zc2 P hP hN r1 (by omega) σ 0 sq hs (m:=1) rfl hn
 have m0:=Zbm
 have m1:=ZbO
 refine ⟨_,ZE P hP hN false (r2.map Zb),?_⟩
 split at h
 case isFalse =>
  rename_i h64
  injection h with h;subst h
  rw [Zj (by rfl) ZdN]
  simp -implicitDefEqProofs only [EQA,Zbl,Xe,Xc,Xf,Xa,Xg,reduceCtorEq,↓reduceIte,ZdO,Zdf,hT,hG,m1,h64,Zau,AVal.cells]
  exact Z8 rfl (ZE P hP hN _ _)
 rename_i h64
 split at h
 ·cases h
 rename_i hq
 injection h with h;subst h
 by_cases hq1:ZD o 3 < 3
 ·have hq2:¬Zgh o < 3:=fun h=>hq ⟨hq1,h⟩
  unfold ZD Zgh at *
  rw [Zj (by rfl) ZdN]
  simp -implicitDefEqProofs only [EQA,Zbl,Xe,Xc,Xf,Xa,Xg,ZA,unG,reduceCtorEq,↓reduceIte,ZdO,Zdf,hT,hG,m0,m1,z,h64,hq1,hq2,Zau,AVal.cells]
  exact Z8 rfl (ZE P hP hN _ _)
 ·unfold ZD at *
  rw [Zj (by rfl) ZdN]
  simp -implicitDefEqProofs only [EQA,Zbl,Xe,Xc,Xf,Xa,Xg,ZA,Zal,reduceCtorEq,↓reduceIte,ZdO,Zdf,hT,hG,m0,m1,z,h64,hq1,Zau,AVal.cells]
  exact Z8 rfl (ZE P hP hN _ _)
variable (ss:List ZbC)
theorem ZJu {e:Int} (h:ZbH l=.error e):∃ r:Zc,E 40 [.ref 0 0] [.var (Zo P 10 1 0 ss.length++[.lst false (l.map Zb)]),.row 0 6 (ss.map Z6)]=some (.pan (ZG e),[.var (Zo P 10 1 0 ss.length++[.lst false (r.map Zb)]),.row 0 6 (ss.map Z6)]):=by
 unfold ZbH at h
 have z:¬(16:Int)=0:=by decide
 have fin:∀ (r:Zc) (σ:Za) (x:AVal),ZI x=true->Zak 2 (.var (Zo P 10 1 0 ss.length++[.lst false (r.map Zb)])::.row 0 6 (ss.map Z6)::σ) x=some (x,[.var (Zo P 10 1 0 ss.length++[.lst false (r.map Zb)]),.row 0 6 (ss.map Z6)]):=fun r σ x hx =>
  Zo6 (g:=0) hx (by rw [ZcW,Zcz P hP hN 10 (by omega)];rfl) (by omega) (fun ρ h=>by rw [Zb3,ZbV P hP hN 10 (by omega) _ ρ h];rfl)
 split at h
 ·rename_i c ht
  injection h with h;subst h
  have hT:=fun σ sq hs hr=>Zt5 P hP hN 10 (by omega) ss.length 6 (ss.map Z6) l hl σ 0 1 0 sq (by omega) hs hr ht
  refine ⟨l,?_⟩
  rw [Zj (by rfl) ZdN]
  simp -implicitDefEqProofs only [EQA,Xe,Xc,↓reduceIte,ZdO,Zdf,hT]
  exact fin _ _ _ rfl
 rename_i f r1 ht
 have l1:=ZdT ht
 have hT:=fun σ sq hs hr=>ZqO P hP hN 10 (by omega) ss.length 6 (ss.map Z6) l hl σ 0 1 0 sq (by omega) hs hr ht
 split at h
 ·rename_i c hn
  injection h with h;subst h
  have hG:=fun σ sq hs hr=>Zu2 P hP hN 10 (by omega) ss.length 6 (ss.map Z6) r1 (by omega) σ 0 1 0 sq (by omega) hs hr (m:=1) rfl (by decide) hn
  refine ⟨r1,?_⟩
  rw [Zj (by rfl) ZdN]
  simp -implicitDefEqProofs only [EQA,Zbl,Xe,Xc,Xf,Xa,Xg,reduceCtorEq,↓reduceIte,ZdO,Zdf,hT,hG,Zau,AVal.cells]
  exact fin _ _ _ rfl
 rename_i o r2 hn
 have hG:=fun σ sq hs hr=>Zlw P hP hN 10 (by omega) ss.length 6 (ss.map Z6) r1 (by omega) σ 0 1 0 sq (by omega) hs hr (m:=1) rfl hn
 have m0:=Zbm
 have m1:=ZbO
 refine ⟨r2,?_⟩
 split at h
 case isFalse =>
  rename_i h64
  injection h with h;subst h
  rw [Zj (by rfl) ZdN]
  simp -implicitDefEqProofs only [EQA,Zbl,Xe,Xc,Xf,Xa,Xg,reduceCtorEq,↓reduceIte,ZdO,Zdf,hT,hG,m1,h64,Zau,AVal.cells]
  exact fin _ _ _ rfl
 rename_i h64
 split at h
 ·cases h
 rename_i hq
 injection h with h;subst h
 by_cases hq1:ZD o 3 < 3
 ·have hq2:¬Zgh o < 3:=fun h=>hq ⟨hq1,h⟩
  unfold ZD Zgh at *
  rw [Zj (by rfl) ZdN]
  simp -implicitDefEqProofs only [EQA,Zbl,Xe,Xc,Xf,Xa,Xg,ZA,unG,reduceCtorEq,↓reduceIte,ZdO,Zdf,hT,hG,m0,m1,z,h64,hq1,hq2,Zau,AVal.cells]
  exact fin _ _ _ rfl
 ·unfold ZD at *
  rw [Zj (by rfl) ZdN]
  simp -implicitDefEqProofs only [EQA,Zbl,Xe,Xc,Xf,Xa,Xg,ZA,Zal,reduceCtorEq,↓reduceIte,ZdO,Zdf,hT,hG,m0,m1,z,h64,hq1,Zau,AVal.cells]
  exact fin _ _ _ rfl
end
end
section
section
variable (P:List AVal) (hP:P.length=26) (hN:Zd P=true)
include hP hN
theorem ZCh (k:Int) (hk:P[0]?=some (.int .i64 k)) (l:Zc) (hl:l.length<=140737488355328) {c:Int} (h:ZaR k l=.error c):∃ r:Zc,E 34 [.ref 0 0] [.var (P++[.lst false (l.map Zb)])]=some (.pan (ZG c),[.var (P++[.lst false (r.map Zb)])]):=by
 unfold ZaR at h
 split at h
 ·rename_i n' r' h2
  split at h
  case isTrue=>cases h
  rename_i hn
  injection h with h;subst h
  have hG:=fun σ sq hs=>Zc2 P hP hN l hl σ 0 sq hs (m:=1) rfl h2
  have a4:=fun L=>(Zaf P hP 0 (by omega) L).trans hk
  have m1:=ZbO
  have hC:=fun σ sq own=>Zi0 k n' σ sq own
  rw [WU _ |>.mp hn] at hC
  refine ⟨r',?_⟩
  rw [Zj (by rfl) ZgI]
  simp -implicitDefEqProofs only [EQA,Xc,Xa,reduceCtorEq,↓reduceIte,Zgs,ZeJ,hG,hC,a4,m1]
  exact Z8 rfl (ZaM hN (by rfl))
 ·rename_i c' h2
  injection h with h;subst h
  have hG:=fun σ sq hs=>Zgx P hP hN l hl σ 0 sq hs (m:=1) rfl (by decide) h2
  refine ⟨l,?_⟩
  rw [Zj (by rfl) ZgI]
  simp -implicitDefEqProofs only [EQA,Xc,reduceCtorEq,↓reduceIte,Zgs,ZeJ,hG]
  exact Z8 rfl (ZaM hN (by rfl))
end
section
variable (P:List AVal) (hP:P.length=26) (hN:Zd P=true) (l:Zc) (hl:l.length<=140737488355328)
include hP hN hl
theorem ZIn (h11:P[11]?=some (.lst true [])) {s r:Zc} (h:Zaw l=.ok (s,r)):evC FC PR BY 3 Zdv [(1,.ref 2 0),(0,.ref 0 0)] [.var [.ref 1 0],.var (P++[.lst false (l.map Zb)]),.var [.ref 1 0]]=some (.normal,[],[.var [.ref 1 0],.var (Zo P 11 3 0 1++[.lst false (r.map Zb)]),.var [.ref 1 0],.row 0 1 [.str s]]):=by
 have hT:=fun σ sq hs=>Zer P hP hN l hl σ 1 sq hs h
 have a1:=Zac P hP
 have a3:=fun L v=>ZaG P hP 11 12 (by omega) rfl L v
 have a4:=fun L=>(Zaf P hP 11 (by omega) L).trans h11
 unfold Zo
 simp -implicitDefEqProofs only [EQA,Xe,Xc,Xf,Xa,Xg,reduceCtorEq,ZM,↓reduceIte,Zdv,hT,a1,a3,a4,AVal.cells,Z3,viewAs,ZU,ZP,Zp,WI,Zaj,Zan,Zam,ZaA,Zaz,Zax,ZaF,Zat,ZdE,XL,XC,kOk]
theorem ZJA {c:Int} (h:Zaw l=.error c) (h11:P[11]?=some (.lst true [])):evC FC PR BY 3 Zdv [(1,.ref 2 0),(0,.ref 0 0)] [.var [.ref 1 0],.var (P++[.lst false (l.map Zb)]),.var [.ref 1 0]]=some (.panic (ZG c),[],[.var [.ref 1 0],.var (P++[.lst false (l.map Zb)]),.var [.ref 1 0],.free]):=by
 have hT:=fun σ sq hs=>ZgM P hP hN l hl σ 1 sq hs h
 have a4:=fun L=>(Zaf P hP 11 (by omega) L).trans h11
 simp -implicitDefEqProofs only [EQA,Xe,WJ,Xc,Xf,Xa,Xg,reduceCtorEq,↓reduceIte,Zdv,hT,a4,Zh4,ZdF,XaG,XaK,Zaj,Zan,Zam,ZaA,Zaz,Zax,ZaF,Zat,ZdE,XL,XC]
theorem Zyx (h8:P[8]?=some (.lst true [])) (k:Int) (hk:P[0]?=some (.int .i64 k)) {c:Int} {r:Zc} (h:ZaR k l=.ok (c,r)):evC FC PR BY 3 Zdx [(1,.ref 2 0),(0,.ref 0 0)] [.var [.ref 1 0],.var (P++[.lst false (l.map Zb)]),.var [.ref 1 0]]=some (.normal,[],[.var [.ref 1 0],.var (Zo P 8 3 0 1++[.lst false (r.map Zb)]),.var [.ref 1 0],.row 0 1 [.int .i64 c]]):=by
 have hT:=fun σ sq hs=>Zjy P hP hN l hl σ 1 sq hs k hk h
 have a1:=Zac P hP
 have a3:=fun L v=>ZaG P hP 8 9 (by omega) rfl L v
 have a4:=fun L=>(Zaf P hP 8 (by omega) L).trans h8
 unfold Zo
 simp -implicitDefEqProofs only [EQA,Xe,Xc,Xf,Xa,Xg,reduceCtorEq,ZM,↓reduceIte,Zdx,hT,a1,a3,a4,AVal.cells,Z3,viewAs,ZU,ZP,Zp,WI,Zaj,Zan,Zam,ZaA,Zaz,Zax,ZaF,Zat,ZdE,XL,XC,kOk]
theorem ZJU (h8:P[8]?=some (.lst true [])) (k:Int) (hk:P[0]?=some (.int .i64 k)) {e:Int} (h:ZaR k l=.error e):∃ r:Zc,evC FC PR BY 3 Zdx [(1,.ref 2 0),(0,.ref 0 0)] [.var [.ref 1 0],.var (P++[.lst false (l.map Zb)]),.var [.ref 1 0]]=some (.panic (ZG e),[],[.var [.ref 1 0],.var (P++[.lst false (r.map Zb)]),.var [.ref 1 0],.free]):=by
 obtain ⟨r,he⟩:=ZCh P hP hN k hk l hl h
 have hT:=fun (σ:Za) sq (hs:σ[1]?=some (.var (P++[.lst false (l.map Zb)])))=>ZcS (O:=E) (bf:=BY) (f:=34) (view:=true) (rest:=[]) (by kernel_rfl) rfl (ZE P hP hN _ _) (ZE P hP hN _ _) rfl he hs sq
 have a4:=fun L=>(Zaf P hP 8 (by omega) L).trans h8
 refine ⟨r,?_⟩
 simp -implicitDefEqProofs only [EQA,Xe,WJ,Xc,Xf,Xa,Xg,reduceCtorEq,↓reduceIte,Zdx,hT,a4,Zh4,ZdF,XaG,XaK,Zaj,Zan,Zam,ZaA,Zaz,Zax,ZaF,Zat,ZdE,XL,XC]
end
end
section
section
variable (P:List AVal) (hP:P.length=26) (hN:Zd P=true) (l:Zc) (hl:l.length<=140737488355328)
include hP hN hl
theorem ZJH (xs:List AVal) (hx:xs.length*16+16<=140737488355328) (kk:kOk 1 xs=true) {s r:Zc} (h:Zaw l=.ok (s,r)):evC FC PR BY 4 Zdv [(1,.ref 3 0),(0,.ref 0 0)] [.var [.ref 1 0],.var (Zo P 11 2 0 xs.length++[.lst false (l.map Zb)]),.row 0 1 xs,.var [.ref 1 0]]=some (.normal,[],[.var [.ref 1 0],.var (Zo P 11 2 1 (xs.length+1)++[.lst false (r.map Zb)]),.row 1 1 (xs++[.str s]),.var [.ref 1 0],.free]):=by
 have hT:=fun σ sq hs hr=>ZqO P hP hN 11 (by omega) xs.length 1 xs l hl σ 1 2 0 sq (by omega) hs hr h
 have hL:=Zcb P hP hN 11 (by omega) xs.length 2 0
 have a1:=Zac _ hL
 have a3:=fun L v=>ZaG _ hL 11 12 (by omega) rfl L v
 have hc:(Zo P 11 2 0 xs.length)[11]?=some (.sl 2 0 0 xs.length):=by unfold Zo;rw [X2 (by omega)]
 have a4:=fun L=>(Zaf _ hL 11 (by omega) L).trans hc
 have hset:(Zo P 11 2 0 xs.length).set 11 (.sl 2 1 0 (xs.length+1))=Zo P 11 2 1 (xs.length+1):=by unfold Zo;rw [Xa6]
 have k1:kOk 1 [.str s]=true:=rfl
 have tk:xs.take xs.length=xs:=Wl
 have lim:(xs.length+1)*16<=140737488355328:=by omega
 have lim2:16*(xs.length+1)<=140737488355328:=by omega
 simp -implicitDefEqProofs only [EQA,Xe,Xc,Xf,Xa,Xg,reduceCtorEq,ZM,↓reduceIte,Zdv,hT,a1,a3,a4,AVal.cells,Z3,viewAs,ZU,ZP,Zp,Zaj,Zan,Zam,ZaA,Zaz,Zax,ZaF,Zat,ZdE,XL,XC,k1,lim,hset]
theorem ZyT (xs:List AVal) (hx:xs.length*8+8<=140737488355328) (kk:kOk 1 xs=true) (k:Int) (hk:P[0]?=some (.int .i64 k)) {c:Int} {r:Zc} (h:ZaR k l=.ok (c,r)):evC FC PR BY 4 Zdx [(1,.ref 3 0),(0,.ref 0 0)] [.var [.ref 1 0],.var (Zo P 8 2 0 xs.length++[.lst false (l.map Zb)]),.row 0 1 xs,.var [.ref 1 0]]=some (.normal,[],[.var [.ref 1 0],.var (Zo P 8 2 1 (xs.length+1)++[.lst false (r.map Zb)]),.row 1 1 (xs++[.int .i64 c]),.var [.ref 1 0],.free]):=by
 have hk0:(Zo P 8 1 0 xs.length)[0]?=some (.int .i64 k):=by unfold Zo;rw [Xn (by omega)];exact hk
 have hT:=fun σ sq hs hr=>ZJw P hP hN 8 (by omega) xs.length 1 xs l hl k hk0 σ 1 2 0 sq (by omega) hs hr h
 have hL:=Zcb P hP hN 8 (by omega) xs.length 2 0
 have a1:=Zac _ hL
 have a3:=fun L v=>ZaG _ hL 8 9 (by omega) rfl L v
 have hc:(Zo P 8 2 0 xs.length)[8]?=some (.sl 2 0 0 xs.length):=by unfold Zo;rw [X2 (by omega)]
 have a4:=fun L=>(Zaf _ hL 8 (by omega) L).trans hc
 have hset:(Zo P 8 2 0 xs.length).set 8 (.sl 2 1 0 (xs.length+1))=Zo P 8 2 1 (xs.length+1):=by unfold Zo;rw [Xa6]
 have k1:kOk 1 [.int .i64 c]=true:=rfl
 have tk:xs.take xs.length=xs:=Wl
 have lim:(xs.length+1)*8<=140737488355328:=by omega
 have lim2:8*(xs.length+1)<=140737488355328:=by omega
 simp -implicitDefEqProofs only [EQA,Xe,Xc,Xf,Xa,Xg,reduceCtorEq,ZM,↓reduceIte,Zdx,hT,a1,a3,a4,AVal.cells,Z3,viewAs,ZU,ZP,Zp,Zaj,Zan,Zam,ZaA,Zaz,Zax,ZaF,Zat,ZdE,XL,XC,k1,lim,hset]
end
end
section
def Zt0 (P:List AVal) (f c:Int) (ps:List ZB):List AVal:=((P.set 25 (.bool (f == 1))).set 7 (.int .i64 c)).set 9 (.lst false (ps.map Zu))
section
variable (P:List AVal) (hP:P.length=26) (hN:Zd P=true) (h0:P[0]?=some (.int .i64 2)) (l:Zc) (hl:l.length<=140737488355328)
include hP hN h0 hl
theorem ZMT {e:Int} (h:ZaS 1 l=.error e):∃ cs,Zd cs=true/\E 20 [.ref 0 0] (Zm P l)=some (.pan (ZG e),[.var cs]):=by
 have a4:=fun L=>(Zaf P hP 0 (by omega) L).trans h0
 have hT:=fun σ sq hs=>Zgx P hP hN l hl σ 0 sq hs (m:=1) rfl (by decide) h
 refine ⟨P++[.lst false (l.map Zb)],ZE P hP hN _ _,?_⟩
 unfold Zm
 rw [Zj (by rfl) Zbs]
 simp -implicitDefEqProofs only [EQA,ZH,Xe,Xc,Xf,Xa,Xg,↓reduceIte,Zbq,Zbh,a4,hT,Xq]
 exact Z8 rfl (ZE P hP hN _ _)
theorem ZLH {f:Int} {r:Zc} (h:ZaS 1 l=.ok (f,r)) (hf:¬f < 2):∃ cs,Zd cs=true/\E 20 [.ref 0 0] (Zm P l)=some (.pan (ZG 129),[.var cs]):=by
 have a4:=fun L=>(Zaf P hP 0 (by omega) L).trans h0
 have hT:=fun σ sq hs=>Zc2 P hP hN l hl σ 0 sq hs (m:=1) rfl h
 have m1:=ZbO
 refine ⟨P++[.lst false (r.map Zb)],ZE P hP hN _ _,?_⟩
 unfold Zm
 rw [Zj (by rfl) Zbs]
 simp -implicitDefEqProofs only [EQA,ZH,Xe,Xc,Xf,Xa,Xg,↓reduceIte,Zbq,Zbh,a4,hT,m1,hf,Xq]
 exact Z8 rfl (ZE P hP hN _ _)
theorem ZOa {f:Int} {r:Zc} (h:ZaS 1 l=.ok (f,r)) (hf:f < 2) {e:Int} (hc:ZaR 2 r=.error e):∃ cs,Zd cs=true/\E 20 [.ref 0 0] (Zm P l)=some (.pan (ZG e),[.var cs]):=by
 have hr:=Zha h
 have a1:=Zac P hP
 have a4:=fun L=>(Zaf P hP 0 (by omega) L).trans h0
 have hT:=fun σ sq hs=>Zc2 P hP hN l hl σ 0 sq hs (m:=1) rfl h
 have m0:=Zbm
 have a3:=fun L=>ZaG P hP 25 26 (by omega) rfl L (.bool (f == 1))
 have hP1:(P.set 25 (.bool (f == 1))).length=26:=by simp [hP]
 have hN1:Zd (P.set 25 (.bool (f == 1)))=true:=ZZ rfl _ hN
 have g0:(P.set 25 (.bool (f == 1)))[0]?=some (.int .i64 2):=by rw [Xn (by omega)];exact h0
 generalize P.set 25 (.bool (f == 1))=Q at *
 obtain ⟨cs,hn,he⟩:=ZtP Q hP1 hN1 2 g0 r (by omega) hc
 have hC:=fun (σ:Za) sq (hs:σ[0]?=some (.var (Q++[.lst false (r.map Zb)])))=>ZcS (O:=E) (bf:=BY) (f:=34) (view:=true) (rest:=[]) (by kernel_rfl) rfl (ZE Q hP1 hN1 _ _) hn rfl he hs sq
 refine ⟨cs,hn,?_⟩
 unfold Zm
 rw [Zj (by rfl) Zbs]
 simp -implicitDefEqProofs only [EQA,ZH,Xe,WJ,Xc,Xf,Xa,Xg,↓reduceIte,Zbq,Zbh,a1,a3,a4,hT,hC,m0,hf,Xq,Zh4,ZdF,XaG,XaK,Zaj,Zan,Zam,ZaA,Zaz,Zax,ZaF,Zat,ZdE,XL,XC]
 exact Z8 rfl hn
theorem Zz7 {f:Int} {r:Zc} (h:ZaS 1 l=.ok (f,r)) (hf:f < 2) {c:Int} {r2:Zc} (hc:ZaR 2 r=.ok (c,r2)) {e:Int} (hp:ZbY 2 r2=.error e):∃ cs,Zd cs=true/\E 20 [.ref 0 0] (Zm P l)=some (.pan (ZG e),[.var cs]):=by
 have hr2:=ZlD hc
 have hr:=Zha h
 have a1:=Zac P hP
 have a4:=fun L=>(Zaf P hP 0 (by omega) L).trans h0
 have hT:=fun σ sq hs=>Zc2 P hP hN l hl σ 0 sq hs (m:=1) rfl h
 have m0:=Zbm
 have a3:=fun L=>ZaG P hP 25 26 (by omega) rfl L (.bool (f == 1))
 have hP1:(P.set 25 (.bool (f == 1))).length=26:=by simp [hP]
 have hN1:Zd (P.set 25 (.bool (f == 1)))=true:=ZZ rfl _ hN
 have g0:(P.set 25 (.bool (f == 1)))[0]?=some (.int .i64 2):=by rw [Xn (by omega)];exact h0
 generalize P.set 25 (.bool (f == 1))=Q at *
 have hC:=fun σ sq hs=>Zjy Q hP1 hN1 r (by omega) σ 0 sq hs 2 g0 hc
 have b1:=Zac _ hP1
 have b3:=fun L=>ZaG _ hP1 7 8 (by omega) rfl L (.int .i64 c)
 have hP2:(Q.set 7 (.int .i64 c)).length=26:=by simp [hP1]
 have hN2:Zd (Q.set 7 (.int .i64 c))=true:=ZZ rfl _ hN1
 generalize Q.set 7 (.int .i64 c)=S at *
 have hG:=fun σ sq hs=>ZfQ S hP2 hN2 r2 (by omega) σ 0 sq hs hp
 have c1:=Zac _ hP2
 refine ⟨S++[.lst false (r2.map Zb)],ZE _ hP2 hN2 _ _,?_⟩
 unfold Zm
 rw [Zj (by rfl) Zbs]
 simp -implicitDefEqProofs only [EQA,ZH,Xe,WJ,Xc,Xf,Xa,Xg,↓reduceIte,Zbq,Zbh,a1,a3,a4,b1,b3,hT,hC,hG,m0,hf,Xq,Zh4,ZdF,XaG,XaK,Zaj,Zan,Zam,ZaA,Zaz,Zax,ZaF,Zat,ZdE,XL,XC]
 exact Z8 rfl (ZE _ hP2 hN2 _ _)
theorem ZPW {f:Int} {r:Zc} (h:ZaS 1 l=.ok (f,r)) (hf:f < 2) {c:Int} {r2:Zc} (hc:ZaR 2 r=.ok (c,r2)) {ps:List ZB} {r3:Zc} (hp:ZbY 2 r2=.ok (ps,r3)) (hu:(Zap 2 r2).2.1<=r2.length):E 20 [.ref 0 0] (Zm P l)=some (if r3.length=0 then .tup [] else .pan (ZG 129),Zm (Zt0 P f c ps) r3):=by
 have hr2:=ZlD hc
 have hr:=Zha h
 have a1:=Zac P hP
 have a4:=fun L=>(Zaf P hP 0 (by omega) L).trans h0
 have hT:=fun σ sq hs=>Zc2 P hP hN l hl σ 0 sq hs (m:=1) rfl h
 have m0:=Zbm
 have a3:=fun L=>ZaG P hP 25 26 (by omega) rfl L (.bool (f == 1))
 have hP1:(P.set 25 (.bool (f == 1))).length=26:=by simp [hP]
 have hN1:Zd (P.set 25 (.bool (f == 1)))=true:=ZZ rfl _ hN
 have g0:(P.set 25 (.bool (f == 1)))[0]?=some (.int .i64 2):=by rw [Xn (by omega)];exact h0
 unfold Zt0
 generalize P.set 25 (.bool (f == 1))=Q at *
 have hC:=fun σ sq hs=>Zjy Q hP1 hN1 r (by omega) σ 0 sq hs 2 g0 hc
 have b1:=Zac _ hP1
 have b3:=fun L=>ZaG _ hP1 7 8 (by omega) rfl L (.int .i64 c)
 have hP2:(Q.set 7 (.int .i64 c)).length=26:=by simp [hP1]
 have hN2:Zd (Q.set 7 (.int .i64 c))=true:=ZZ rfl _ hN1
 generalize Q.set 7 (.int .i64 c)=S at *
 have hG:=fun σ sq hs=>Zeq S hP2 hN2 r2 (by omega) σ 0 sq hs hu hp
 have c1:=Zac _ hP2
 have c3:=fun L=>ZaG _ hP2 9 10 (by omega) rfl L (.lst false (ps.map Zu))
 have hP3:(S.set 9 (.lst false (ps.map Zu))).length=26:=by simp [hP2]
 have hN3:Zd (S.set 9 (.lst false (ps.map Zu)))=true:=ZZ (Zcj _ _) _ hN2
 generalize S.set 9 (.lst false (ps.map Zu))=U at *
 have d2:=Zay _ hP3
 unfold Zm
 by_cases hr3:r3.length=0
 ·have z:=Ze9 (l:=r3) (decide_eq_true hr3)
  rw [if_pos hr3]
  rw [Zj (by rfl) Zbs]
  simp -implicitDefEqProofs only [EQA,ZH,Zx,Xe,Xc,Xf,Xa,Xg,↓reduceIte,Zd,Zbq,Zbh,ZeN,a1,a3,a4,b1,b3,c1,c3,d2,z,hT,hC,hG,m0,hf,Xq,Zaj,Zan,Zam,ZaA,Zaz,Zax,ZaF,Zat,XL,XC]
  exact Z8 rfl (ZE _ hP3 hN3 _ _)
 ·have z:=Ze9 (l:=r3) (decide_eq_false hr3)
  have m1:=ZbO
  rw [if_neg hr3]
  rw [Zj (by rfl) Zbs]
  simp -implicitDefEqProofs only [EQA,ZH,Xe,Xc,Xf,Xa,Xg,↓reduceIte,Zbq,Zbh,a1,a3,a4,b1,b3,c1,c3,d2,z,hT,hC,hG,m0,m1,hf,Xq,Zaj,Zan,Zam,ZaA,Zaz,Zax,ZaF,Zat,XL,XC]
  exact Z8 rfl (ZE _ hP3 hN3 _ _)
end
end
section
theorem ZEm {O:ZX} {bf:Nat->Bool} {σ:Za} {t f own:Nat} {rest:List AVal} {cs cs':List AVal} {r r':AVal} (hb:bf f=false) (hp:rest.all Z5=true) (hc:Zd cs=true) (hc':Zd cs'=true) (hn:ZI r'=true) (hv:viewR [.var cs'] r=some (r',[]))
  (h:O f (.ref 0 0::rest.map ZK) [.var cs]=some (r,[.var cs'])) (hs:σ[t]?=some (.var cs)) (sq:Nat) (hff:Zba σ sq own=true):Zk O bf σ sq f own true (.ref t 0::rest)=some (r',σ.set t (.var cs'),{ any:=true,upd:=[(t,cs')] }):=by
 have htl:t < σ.length:=by
  rcases WB t σ.length with h | h
  ·exact h
  ·rw [XS h] at hs;cases hs
 have hup:Zbd (σ.set t (.var cs')) [t]=[(t,cs')]:=by
  simp only [Zbd,Xs,if_pos htl,if_true]
 have hd:σ.getD t .free=.var cs:=by simp [Xh,hs]
 have hf0:Zp σ []=σ:=rfl
 have hsh:showAs σ (.ref t 0::rest)=some (.ref t 0::rest.map ZK,[]):=by
  rw [showAs,show showA σ (.ref t 0)=some (.ref t 0,[]) from rfl,Zef hp]
  rfl
 have href:Zw (.ref t 0::rest.map ZK)=[t]:=by
  rw [Zw,Zdz hp];rfl
 unfold Zk ZbW
 rw [hb]
 simp only [Xi,if_false,hsh,hf0,href,Zfe hs hc]
 unfold ZbM
 have hall:([t].all fun t=>okB (σ.getD t .free))=true:=by simp [XD,Wr,hs,okB]
 rw [if_pos hall]
 have hρ:Zi σ 0 [t] t 0=some (0,0):=by simp [Zi,ZO,hs,Zl,ZF]
 have hheap:Zq σ 0 [t] (Zi σ 0 [t]) [t] 0=[.var cs]:=by
  simp only [Zq,hd,Zz,(Za8 _ cs hc).1]
 have hargs:Zg (Zi σ 0 [t]) (.ref t 0::rest.map ZK)=.ref 0 0::rest.map ZK:=by
  rw [Zg,ZdD hp]
  simp only [Zr,hρ]
 rw [hargs,hheap,h]
 have hask:Z2 true [t].length (some (r,[.var cs']))=some (r',[.var cs']):=by
  unfold Z2
  rw [if_pos rfl]
  have hnp:∀ x,r≠.pan x:=by rintro x rfl;simp [viewR,ZU,ZP] at hv
  rw [show Zbw [t].length (some (r,[.var cs']))=(match viewR [.var cs'] r with
   | some (r',ts)=>match gcA [t].length [r'] (Zp [.var cs'] ts) with
    | ([r''],σ')=>some (r'',σ')
    | _=>none
   | none=>none) from by cases r <;> first | rfl | exact absurd rfl (hnp _)]
  rw [hv]
  simp only [XF,XJ,XG,show Zp [ZR.var cs'] []=[.var cs'] from rfl,Zl1 hn hc']
 rw [hask]
 have hk:ZaY σ [t] [.var cs'] 0=true:=by
  simp [ZaY,okB,hs,Zb7,Zl]
 simp only [ZaH,Wu,Xi,if_false,XF,XJ,XG,Xau,Xx,decide_true,hk,hff,Wg,if_true,Za9,ZaO,Xu,Zz,(Z4 _ r' hn).1,(Za8 _ cs' hc').1,hup]
theorem ZG3 {O:ZX} {bf:Nat->Bool} {σ:Za} {t f own:Nat} {rest:List AVal} {cs cs':List AVal} {x:AVal} {view:Bool} (hb:bf f=false) (hp:rest.all Z5=true) (hc:Zd cs=true) (hc':Zd cs'=true) (hn:ZI x=true)
  (h:O f (.ref 0 0::rest.map ZK) [.var cs]=some (.pan x,[.var cs'])) (hs:σ[t]?=some (.var cs)) (sq:Nat) (hff:Zba σ sq own=true):Zk O bf σ sq f own view (.ref t 0::rest)=some (.pan x,σ.set t (.var cs'),{ any:=true,upd:=[(t,cs')] }):=by
 have htl:t < σ.length:=by
  rcases WB t σ.length with h | h
  ·exact h
  ·rw [XS h] at hs;cases hs
 have hup:Zbd (σ.set t (.var cs')) [t]=[(t,cs')]:=by
  simp only [Zbd,Xs,if_pos htl,if_true]
 have hd:σ.getD t .free=.var cs:=by simp [Xh,hs]
 have hf0:Zp σ []=σ:=rfl
 have hsh:showAs σ (.ref t 0::rest)=some (.ref t 0::rest.map ZK,[]):=by
  rw [showAs,show showA σ (.ref t 0)=some (.ref t 0,[]) from rfl,Zef hp]
  rfl
 have href:Zw (.ref t 0::rest.map ZK)=[t]:=by
  rw [Zw,Zdz hp];rfl
 unfold Zk ZbW
 rw [hb]
 simp only [Xi,if_false,hsh,hf0,href,Zfe hs hc]
 unfold ZbM
 have hall:([t].all fun t=>okB (σ.getD t .free))=true:=by simp [XD,Wr,hs,okB]
 rw [if_pos hall]
 have hρ:Zi σ 0 [t] t 0=some (0,0):=by simp [Zi,ZO,hs,Zl,ZF]
 have hheap:Zq σ 0 [t] (Zi σ 0 [t]) [t] 0=[.var cs]:=by
  simp only [Zq,hd,Zz,(Za8 _ cs hc).1]
 have hargs:Zg (Zi σ 0 [t]) (.ref t 0::rest.map ZK)=.ref 0 0::rest.map ZK:=by
  rw [Zg,ZdD hp]
  simp only [Zr,hρ]
 rw [hargs,hheap,h]
 have hask:Z2 view [t].length (some (.pan x,[.var cs']))=some (.pan x,[.var cs']):=by
  unfold Z2
  split <;> rfl
 rw [hask]
 have hk:ZaY σ [t] [.var cs'] 0=true:=by
  simp [ZaY,okB,hs,Zb7,Zl]
 have hnp:ZI (.pan x)=true:=by simpa only [ZI] using hn
 simp only [ZaH,Wu,Xi,if_false,XF,XJ,XG,Xau,Xx,decide_true,hk,hff,Wg,if_true,Za9,ZaO,Xu,Zz,(Z4 _ _ hnp).1,(Za8 _ cs' hc').1,hup]
theorem Zdn {O:ZX} {bf:Nat->Bool} {σ:Za} {sq f own:Nat} {view:Bool} {args vs vs':List AVal} {ids:List Nat} {h0 h:Za} {r0 r:AVal} (hb:bf f=false) (hsh:showAs σ args=some (vs,[])) (hre:Zt σ 1000 (Zw vs) []=ids) (hne:ids.isEmpty=false)
  (hall:(ids.all fun t=>okB (σ.getD t .free))=true) (hvs:Zg (Zi σ 0 ids) vs=vs') (hh:Zq σ 0 ids (Zi σ 0 ids) ids 0=h0) {hh0:Za} (hO:O f vs' h0=some (r0,hh0)) (hv:Z2 view ids.length (some (r0,hh0))=some (r,h))
  (hl1:h.length<=ids.length+own) (hl2:ids.length<=h.length) (hk:ZaY σ ids h 0=true) (hff:Zba σ sq own=true) {r':AVal} (hr:Zr (ZaC σ ids sq) r=r') {σ':Za} (hlay:Za9 σ ids sq h 0 σ=σ') {u:List (Nat×List AVal)} (hu:Zbd σ' ids=u) :
  Zk O bf σ sq f own view args=some (r',σ',{ any:=true,upd:=u }):=by
 subst hr hlay hu
 unfold Zk ZbW
 rw [hb]
 simp only [Xi,if_false,hsh,show Zp σ []=σ from rfl,hre]
 unfold ZbM
 rw [if_pos hall,hvs,hh,hO,hv]
 simp only [ZaH,hne,Bool.false_and,Xi,if_false,hl1,hl2,decide_true,hk,hff,Wg,if_true]
end
section
section
variable (P:List AVal) (hP:P.length=26) (hN:Zd P=true) (l:Zc) (hl:l.length<=140737488355328)
include hP hN hl
theorem ZD2 (xs:List AVal) {c:Int} (h:Zaw l=.error c):evC FC PR BY 4 Zdv [(1,.ref 3 0),(0,.ref 0 0)] [.var [.ref 1 0],.var (Zo P 11 2 0 xs.length++[.lst false (l.map Zb)]),.row 0 1 xs,.var [.ref 1 0]]=some (.panic (ZG c),[],[.var [.ref 1 0],.var (Zo P 11 2 0 xs.length++[.lst false (l.map Zb)]),.row 0 1 xs,.var [.ref 1 0],.free]):=by
 have hT:=fun σ sq hs hr=>Zt5 P hP hN 11 (by omega) xs.length 1 xs l hl σ 1 2 0 sq (by omega) hs hr h
 have hL:=Zcb P hP hN 11 (by omega) xs.length 2 0
 have hc:(Zo P 11 2 0 xs.length)[11]?=some (.sl 2 0 0 xs.length):=by unfold Zo;rw [X2 (by omega)]
 have a4:=fun L=>(Zaf _ hL 11 (by omega) L).trans hc
 simp -implicitDefEqProofs only [EQA,Xe,WJ,Xc,Xf,Xa,Xg,reduceCtorEq,↓reduceIte,Zdv,hT,a4,Zh4,ZdF,XaG,XaK,Zaj,Zan,Zam,ZaA,Zaz,Zax,ZaF,Zat,ZdE,XL,XC]
theorem ZF6 (xs:List AVal) (k:Int) (hk:P[0]?=some (.int .i64 k)) {e:Int} (h:ZaR k l=.error e):∃ r:Zc,evC FC PR BY 4 Zdx [(1,.ref 3 0),(0,.ref 0 0)] [.var [.ref 1 0],.var (Zo P 8 2 0 xs.length++[.lst false (l.map Zb)]),.row 0 1 xs,.var [.ref 1 0]]=some (.panic (ZG e),[],[.var [.ref 1 0],.var (Zo P 8 2 0 xs.length++[.lst false (r.map Zb)]),.row 0 1 xs,.var [.ref 1 0],.free]):=by
 have hk0:(Zo P 8 1 0 xs.length)[0]?=some (.int .i64 k):=by unfold Zo;rw [Xn (by omega)];exact hk
 have hT0:=fun (σ:Za) sq (hs:σ[1]?=some (.var (Zo P 8 2 0 xs.length++[.lst false (l.map Zb)]))) (hr:σ[2]?=some (.row 0 1 xs))=>ZBF P hP hN 8 (by omega) xs.length 1 xs l hl k hk0 σ 1 2 0 sq (by omega) hs hr h
 have hL:=Zcb P hP hN 8 (by omega) xs.length 2 0
 have hc:(Zo P 8 2 0 xs.length)[8]?=some (.sl 2 0 0 xs.length):=by unfold Zo;rw [X2 (by omega)]
 have a4:=fun L=>(Zaf _ hL 8 (by omega) L).trans hc
 obtain ⟨r,hT⟩:=hT0 [.var [.ref 1 0],.var (Zo P 8 2 0 xs.length++[.lst false (l.map Zb)]),.row 0 1 xs,.var [.ref 1 0],.free] 4 rfl rfl
 refine ⟨r,?_⟩
 simp -implicitDefEqProofs only [EQA,Xe,WJ,Xc,Xf,Xa,Xg,reduceCtorEq,↓reduceIte,Zdx,hT,a4,Zh4,ZdF,XaG,XaK,Zaj,Zan,Zam,ZaA,Zaz,Zax,ZaF,Zat,ZdE,XL,XC]
end
section
variable {cs:List AVal} {r:AVal} {σ:Za}
theorem ZtK (hr:ZI r=true) (hc:Zd cs=true):Zak 3 (.var [.ref 1 0]::.var cs::.var [.ref 1 0]::σ) r=some (r,[.var [.ref 1 0],.var cs,.var [.ref 1 0]]):=by
 have e1:=fun ρ=>Z4 ρ r hr
 have e2:=fun ρ=>Za8 ρ cs hc
 have hi:Zy 3 [r] (.var [.ref 1 0]::.var cs::.var [.ref 1 0]::σ)=[0,1,2]:=by
  have : Zw [r]=[]:=by simp only [Zw,(e1 (fun _ _=>none)).2,Xm]
  have hR:X6 3=[0,1,2]:=rfl
  simp only [Zy,this,Xw,hR,XH,XX,Xm,Xu,XN,ZC,(e2 (fun _ _=>none)).2]
  rfl
 have hρ:Zi (.var [.ref 1 0]::.var cs::.var [.ref 1 0]::σ) 3 [0,1,2] 1 0=some (1,0):=rfl
 simp only [Zak,gcA,hi,Zg,(e1 _).1,Zq,Xu,XN,Zz,Zr,hρ,(e2 _).1]
theorem Zxn {w:Nat} {xs:List AVal} (hr:ZI r=true) (hc:Zw cs=[3]) (hren:∀ ρ:Rho,ρ 3 0=some (3,0)->Zg ρ cs=cs):Zak 3 (.var [.ref 1 0]::.var cs::.var [.ref 1 0]::.row 0 w xs::σ) r=some (r,[.var [.ref 1 0],.var cs,.var [.ref 1 0],.row 0 w xs]):=by
 have e1:=fun ρ=>Z4 ρ r hr
 have hi:Zy 3 [r] (.var [.ref 1 0]::.var cs::.var [.ref 1 0]::.row 0 w xs::σ)=[0,1,2,3]:=by
  have : Zw [r]=[]:=by simp only [Zw,(e1 (fun _ _=>none)).2,Xm]
  have hR:X6 3=[0,1,2]:=rfl
  simp only [Zy,this,Xw,hR,XH,XX,Xm,Xu,XN,ZC,hc]
  rfl
 have hρ:Zi (.var [.ref 1 0]::.var cs::.var [.ref 1 0]::.row 0 w xs::σ) 3 [0,1,2,3] 1 0=some (1,0):=rfl
 have hρ3:Zi (.var [.ref 1 0]::.var cs::.var [.ref 1 0]::.row 0 w xs::σ) 3 [0,1,2,3] 3 0=some (3,0):=rfl
 simp only [Zak,gcA,hi,Zg,(e1 _).1,Zq,Xu,XN,ZF,Zl,Zz,Zr,hρ,hren _ hρ3]
 rfl
theorem Zm3 {w g:Nat} {xs:List AVal} (hr:ZI r=true) (hg:g<=1) (hc:Zw cs=[2]) (hren:∀ ρ:Rho,ρ 2 g=some (2,g)->Zg ρ cs=cs):Zak 4 (.var [.ref 1 0]::.var cs::.row g w xs::.var [.ref 1 0]::σ) r=some (r,[.var [.ref 1 0],.var cs,.row g w xs,.var [.ref 1 0]]):=by
 have e1:=fun ρ=>Z4 ρ r hr
 have hi:Zy 4 [r] (.var [.ref 1 0]::.var cs::.row g w xs::.var [.ref 1 0]::σ)=[0,1,2,3]:=by
  have : Zw [r]=[]:=by simp only [Zw,(e1 (fun _ _=>none)).2,Xm]
  have hR:X6 4=[0,1,2,3]:=rfl
  simp only [Zy,this,Xw,hR,XH,XX,Xm,Xu,XN,ZC,hc]
  rfl
 have hng:(if g=0 then 0 else 1)=g:=by split <;> omega
 have hρ:Zi (.var [.ref 1 0]::.var cs::.row g w xs::.var [.ref 1 0]::σ) 4 [0,1,2,3] 1 0=some (1,0):=rfl
 have hρ3:Zi (.var [.ref 1 0]::.var cs::.row g w xs::.var [.ref 1 0]::σ) 4 [0,1,2,3] 2 g=some (2,g):=by
  simp only [Zi,ZO,Zl,ZF,XO,XI]
  simp [hng]
 simp only [Zak,gcA,hi,Zg,(e1 _).1,Zq,Xu,XN,ZF,Zl,Zz,Zr,hρ,hren _ hρ3]
 simp [hng]
end
section
variable (P:List AVal) (hP:P.length=26) (hN:Zd P=true) (l:Zc) (hl:l.length<=140737488355328)
include hP hN hl
theorem Zh3 (k:Nat) (hk:k < 26) (r g n:Nat) (L:Zc):Zw (Zo P k r g n++[.lst false (L.map Zb)])=[r]:=by
 rw [ZcW,Zo,Zjx hN (by omega)];rfl
theorem ZhX (k r g n r' g':Nat) (L:Zc) (ρ:Rho) (h:ρ r g=some (r',g')):Zg ρ (Zo P k r g n++[.lst false (L.map Zb)])=Zo P k r' g' n++[.lst false (L.map Zb)]:=by
 rw [Zb3,Zo,ZjP ρ hN,Zo]
 simp only [Zr,h,Zg]
theorem ZKJ (h11:P[11]?=some (.lst true [])) {s r:Zc} (h:Zaw l=.ok (s,r)):E 41 [.ref 0 0,.ref 2 0] [.var [.ref 1 0],.var (P++[.lst false (l.map Zb)]),.var [.ref 1 0]]=some (.tup [],[.var [.ref 1 0],.var (Zo P 11 3 0 1++[.lst false (r.map Zb)]),.var [.ref 1 0],.row 0 1 [.str s]]):=by
 rw [Zj (by rfl) ZmX]
 have:=ZIn P hP hN l hl h11 h
 have h2:=Zxn (σ:=[]) (w:=1) (xs:=[.str s]) (r:=.tup []) rfl (Zh3 P hP hN l hl 11 (by omega) 3 0 1 r) (fun ρ hρ=>ZhX P hP hN l hl 11 3 0 1 3 0 r ρ hρ)
 show Zav 3 _ (evC FC PR BY 3 Zdv [(1,.ref 2 0),(0,.ref 0 0)] _)=_
 rw [this]
 exact h2
theorem ZPT {c:Int} (h:Zaw l=.error c) (h11:P[11]?=some (.lst true [])):E 41 [.ref 0 0,.ref 2 0] [.var [.ref 1 0],.var (P++[.lst false (l.map Zb)]),.var [.ref 1 0]]=some (.pan (ZG c),[.var [.ref 1 0],.var (P++[.lst false (l.map Zb)]),.var [.ref 1 0]]):=by
 rw [Zj (by rfl) ZmX]
 have:=ZJA P hP hN l hl h h11
 have h2:=ZtK (σ:=[.free]) (r:=.pan (ZG c)) rfl (ZE P hP hN false (l.map Zb))
 show Zav 3 _ (evC FC PR BY 3 Zdv [(1,.ref 2 0),(0,.ref 0 0)] _)=_
 rw [this]
 exact h2
theorem ZJx (h8:P[8]?=some (.lst true [])) (k:Int) (hk:P[0]?=some (.int .i64 k)) {c:Int} {r:Zc} (h:ZaR k l=.ok (c,r)):E 43 [.ref 0 0,.ref 2 0] [.var [.ref 1 0],.var (P++[.lst false (l.map Zb)]),.var [.ref 1 0]]=some (.tup [],[.var [.ref 1 0],.var (Zo P 8 3 0 1++[.lst false (r.map Zb)]),.var [.ref 1 0],.row 0 1 [.int .i64 c]]):=by
 rw [Zj (by rfl) Zk5]
 have:=Zyx P hP hN l hl h8 k hk h
 have h2:=Zxn (σ:=[]) (w:=1) (xs:=[.int .i64 c]) (r:=.tup []) rfl (Zh3 P hP hN l hl 8 (by omega) 3 0 1 r) (fun ρ hρ=>ZhX P hP hN l hl 8 3 0 1 3 0 r ρ hρ)
 show Zav 3 _ (evC FC PR BY 3 Zdx [(1,.ref 2 0),(0,.ref 0 0)] _)=_
 rw [this]
 exact h2
theorem ZKT (h8:P[8]?=some (.lst true [])) (k:Int) (hk:P[0]?=some (.int .i64 k)) {e:Int} (h:ZaR k l=.error e):∃ r:Zc,E 43 [.ref 0 0,.ref 2 0] [.var [.ref 1 0],.var (P++[.lst false (l.map Zb)]),.var [.ref 1 0]]=some (.pan (ZG e),[.var [.ref 1 0],.var (P++[.lst false (r.map Zb)]),.var [.ref 1 0]]):=by
 obtain ⟨r,this⟩:=ZJU P hP hN l hl h8 k hk h
 have h2:=ZtK (σ:=[.free]) (r:=.pan (ZG e)) rfl (ZE P hP hN false (r.map Zb))
 refine ⟨r,?_⟩
 rw [Zj (by rfl) Zk5]
 show Zav 3 _ (evC FC PR BY 3 Zdx [(1,.ref 2 0),(0,.ref 0 0)] _)=_
 rw [this]
 exact h2
variable (xs:List AVal)
theorem Zxw (hx:xs.length*16+16<=140737488355328) (kk:kOk 1 xs=true) {s r:Zc} (h:Zaw l=.ok (s,r)):E 41 [.ref 0 0,.ref 3 0] [.var [.ref 1 0],.var (Zo P 11 2 0 xs.length++[.lst false (l.map Zb)]),.row 0 1 xs,.var [.ref 1 0]]=some (.tup [],[.var [.ref 1 0],.var (Zo P 11 2 1 (xs.length+1)++[.lst false (r.map Zb)]),.row 1 1 (xs++[.str s]),.var [.ref 1 0]]):=by
 rw [Zj (by rfl) ZmX]
 have:=ZJH P hP hN l hl xs hx kk h
 have h2:=Zm3 (σ:=[.free]) (w:=1) (g:=1) (xs:=xs++[.str s]) (r:=.tup []) rfl (by omega) (Zh3 P hP hN l hl 11 (by omega) 2 1 (xs.length+1) r) (fun ρ hρ=>ZhX P hP hN l hl 11 2 1 (xs.length+1) 2 1 r ρ hρ)
 show Zav 4 _ (evC FC PR BY 4 Zdv [(1,.ref 3 0),(0,.ref 0 0)] _)=_
 rw [this]
 exact h2
theorem ZCb {c:Int} (h:Zaw l=.error c):E 41 [.ref 0 0,.ref 3 0] [.var [.ref 1 0],.var (Zo P 11 2 0 xs.length++[.lst false (l.map Zb)]),.row 0 1 xs,.var [.ref 1 0]]=some (.pan (ZG c),[.var [.ref 1 0],.var (Zo P 11 2 0 xs.length++[.lst false (l.map Zb)]),.row 0 1 xs,.var [.ref 1 0]]):=by
 rw [Zj (by rfl) ZmX]
 have:=ZD2 P hP hN l hl xs h
 have h2:=Zm3 (σ:=[.free]) (w:=1) (g:=0) (xs:=xs) (r:=.pan (ZG c)) rfl (by omega) (Zh3 P hP hN l hl 11 (by omega) 2 0 xs.length l) (fun ρ hρ=>ZhX P hP hN l hl 11 2 0 xs.length 2 0 l ρ hρ)
 show Zav 4 _ (evC FC PR BY 4 Zdv [(1,.ref 3 0),(0,.ref 0 0)] _)=_
 rw [this]
 exact h2
theorem ZNO (hx:xs.length*8+8<=140737488355328) (kk:kOk 1 xs=true) (k:Int) (hk:P[0]?=some (.int .i64 k)) {c:Int} {r:Zc} (h:ZaR k l=.ok (c,r)):E 43 [.ref 0 0,.ref 3 0] [.var [.ref 1 0],.var (Zo P 8 2 0 xs.length++[.lst false (l.map Zb)]),.row 0 1 xs,.var [.ref 1 0]]=some (.tup [],[.var [.ref 1 0],.var (Zo P 8 2 1 (xs.length+1)++[.lst false (r.map Zb)]),.row 1 1 (xs++[.int .i64 c]),.var [.ref 1 0]]):=by
 rw [Zj (by rfl) Zk5]
 have:=ZyT P hP hN l hl xs hx kk k hk h
 have h2:=Zm3 (σ:=[.free]) (w:=1) (g:=1) (xs:=xs++[.int .i64 c]) (r:=.tup []) rfl (by omega) (Zh3 P hP hN l hl 8 (by omega) 2 1 (xs.length+1) r) (fun ρ hρ=>ZhX P hP hN l hl 8 2 1 (xs.length+1) 2 1 r ρ hρ)
 show Zav 4 _ (evC FC PR BY 4 Zdx [(1,.ref 3 0),(0,.ref 0 0)] _)=_
 rw [this]
 exact h2
theorem ZJD (k:Int) (hk:P[0]?=some (.int .i64 k)) {e:Int} (h:ZaR k l=.error e):∃ r:Zc,E 43 [.ref 0 0,.ref 3 0] [.var [.ref 1 0],.var (Zo P 8 2 0 xs.length++[.lst false (l.map Zb)]),.row 0 1 xs,.var [.ref 1 0]]=some (.pan (ZG e),[.var [.ref 1 0],.var (Zo P 8 2 0 xs.length++[.lst false (r.map Zb)]),.row 0 1 xs,.var [.ref 1 0]]):=by
 obtain ⟨r,this⟩:=ZF6 P hP hN l hl xs k hk h
 have h2:=Zm3 (σ:=[.free]) (w:=1) (g:=0) (xs:=xs) (r:=.pan (ZG e)) rfl (by omega) (Zh3 P hP hN l hl 8 (by omega) 2 0 xs.length r) (fun ρ hρ=>ZhX P hP hN l hl 8 2 0 xs.length 2 0 r ρ hρ)
 refine ⟨r,?_⟩
 rw [Zj (by rfl) Zk5]
 show Zav 4 _ (evC FC PR BY 4 Zdx [(1,.ref 3 0),(0,.ref 0 0)] _)=_
 rw [this]
 exact h2
end
end
section
def Za0 {α:Type} (one:Zc->RK α):Nat->Zc->Except Int (List α)
 | 0,l=>if l.length=0 then .ok [] else .error 0
 | n+1,l=>if l.length=0 then .ok [] else match one l with
  | .error e=>.error e
  | .ok (a,r)=>match Za0 one n r with
   | .error e=>.error e
   | .ok t=>.ok (a::t)
section
variable {O:ZX} {bf:Nat->Bool} {f:Nat} {cs cs1 cs2 cs3 xs xs2:List AVal} {w w2 g2:Nat} {q:AVal} {σ:Za} {sq:Nat}
theorem Zxk (h0:σ[0]?=some (.var cs)) (h1:σ[1]?=some (.var [.ref 0 0])) (h2:σ[2]?=some (.var [.ref 0 0])) (hc:Zw cs=[]):Zt σ 1000 [1,2] []=[1,0,2]:=by
 have d0:σ.getD 0 .free=.var cs:=by simp [Xh,h0]
 have d1:σ.getD 1 .free=.var [.ref 0 0]:=by simp [Xh,h1]
 have d2:σ.getD 2 .free=.var [.ref 0 0]:=by simp [Xh,h2]
 rw [show (1000:Nat)=995+1+1+1+1+1 from rfl]
 simp only [Zt,d0,d1,d2,ZC,Zw,Z9,hc,Xak,WY,Xm,Xw,XU,XaN,Xi,if_false]
 simp
theorem ZE1 (h0:σ[0]?=some (.var cs)) (h1:σ[1]?=some (.var [.ref 0 0])) (h2:σ[2]?=some (.var [.ref 0 0])) (h3:σ[3]?=some (.row 0 w xs)) (hc:Zw cs=[3]):Zt σ 1000 [1,2] []=[1,0,3,2]:=by
 have d0:σ.getD 0 .free=.var cs:=by simp [Xh,h0]
 have d1:σ.getD 1 .free=.var [.ref 0 0]:=by simp [Xh,h1]
 have d2:σ.getD 2 .free=.var [.ref 0 0]:=by simp [Xh,h2]
 have d3:σ.getD 3 .free=.row 0 w xs:=by simp [Xh,h3]
 rw [show (1000:Nat)=994+1+1+1+1+1+1 from rfl]
 simp only [Zt,d0,d1,d2,d3,ZC,Zw,Z9,hc,Xak,WY,Xm,Xw,XU,XaN,Xi,if_false]
 simp
theorem ZBb (hb:bf f=false) (hc:Zd cs=true) (hq:ZI q=true) (hback:∀ ρ:Rho,ρ 3 0=some (3,0)->Zg ρ cs2=cs3) (hO:O f [.ref 0 0,.ref 2 0] [.var [.ref 1 0],.var cs,.var [.ref 1 0]]=some (q,[.var [.ref 1 0],.var cs2,.var [.ref 1 0],.row 0 w xs])) :
  Zk O bf [.var cs,.var [.ref 0 0],.var [.ref 0 0],.free,.free,.free,.free] 3 f 4 false [.ref 1 0,.ref 2 0]=some (q,[.var cs3,.var [.ref 0 0],.var [.ref 0 0],.row 0 w xs,.free,.free,.free],{ any:=true,upd:=[(1,[.ref 0 0]),(0,cs3),(2,[.ref 0 0])] }):=by
 have ec:=fun ρ=>Za8 ρ cs hc
 refine Zdn (ids:=[1,0,2]) (vs:=[.ref 1 0,.ref 2 0]) hb rfl (Zxk rfl rfl rfl (ec (fun _ _=>none)).2) rfl rfl rfl ?_ hO rfl (by simp) (by simp) rfl rfl (Z4 _ q hq).1 ?_ rfl
 ·show [ZR.var (Zg _ [.ref 0 0]),.var (Zg _ cs),.var (Zg _ [.ref 0 0])]=_
  rw [(ec _).1];rfl
 ·have hb3:=hback (ZaC [.var cs,.var [.ref 0 0],.var [.ref 0 0],.free,.free,.free,.free] [1,0,2] 3) rfl
  show [ZR.var (Zg _ cs2),.var (Zg _ [.ref 1 0]),.var (Zg _ [.ref 1 0]),.row 0 w xs,.free,.free,.free]=_
  rw [hb3];rfl
theorem Zyn (hb:bf f=false) (hc:Zd cs=true) (hq:ZI q=true) (hc2:Zd cs2=true) (hO:O f [.ref 0 0,.ref 2 0] [.var [.ref 1 0],.var cs,.var [.ref 1 0]]=some (q,[.var [.ref 1 0],.var cs2,.var [.ref 1 0]])) :
  Zk O bf [.var cs,.var [.ref 0 0],.var [.ref 0 0],.free,.free,.free,.free] 3 f 4 false [.ref 1 0,.ref 2 0]=some (q,[.var cs2,.var [.ref 0 0],.var [.ref 0 0],.free,.free,.free,.free],{ any:=true,upd:=[(1,[.ref 0 0]),(0,cs2),(2,[.ref 0 0])] }):=by
 have ec:=fun ρ=>Za8 ρ cs hc
 refine Zdn (ids:=[1,0,2]) (vs:=[.ref 1 0,.ref 2 0]) hb rfl (Zxk rfl rfl rfl (ec (fun _ _=>none)).2) rfl rfl rfl ?_ hO rfl (by simp) (by simp) rfl rfl (Z4 _ q hq).1 ?_ rfl
 ·show [ZR.var (Zg _ [.ref 0 0]),.var (Zg _ cs),.var (Zg _ [.ref 0 0])]=_
  rw [(ec _).1];rfl
 ·show [ZR.var (Zg _ cs2),.var (Zg _ [.ref 1 0]),.var (Zg _ [.ref 1 0]),.free,.free,.free,.free]=_
  rw [(Za8 _ cs2 hc2).1];rfl
theorem Zw9 (hb:bf f=false) (hc:Zw cs=[3]) (hren:∀ ρ:Rho,ρ 3 0=some (2,0)->Zg ρ cs=cs1) (hq:ZI q=true) (hg2:g2<=1) (hback:∀ ρ:Rho,ρ 2 g2=some (3,g2)->Zg ρ cs2=cs3) (hO:O f [.ref 0 0,.ref 3 0] [.var [.ref 1 0],.var cs1,.row 0 w xs,.var [.ref 1 0]]=some (q,[.var [.ref 1 0],.var cs2,.row g2 w2 xs2,.var [.ref 1 0]])) :
  Zk O bf [.var cs,.var [.ref 0 0],.var [.ref 0 0],.row 0 w xs,.free,.free,.free,.free] 4 f 4 false [.ref 1 0,.ref 2 0]=some (q,[.var cs3,.var [.ref 0 0],.var [.ref 0 0],.row g2 w2 xs2,.free,.free,.free,.free],{ any:=true,upd:=[(1,[.ref 0 0]),(0,cs3),(2,[.ref 0 0])] }):=by
 refine Zdn (ids:=[1,0,3,2]) (vs:=[.ref 1 0,.ref 2 0]) hb rfl (ZE1 rfl rfl rfl rfl hc) rfl rfl rfl ?_ hO rfl (by simp) (by simp) ?_ rfl (Z4 _ q hq).1 ?_ rfl
 ·have h1:=hren (Zi [.var cs,.var [.ref 0 0],.var [.ref 0 0],.row 0 w xs,.free,.free,.free,.free] 0 [1,0,3,2]) rfl
  show [ZR.var (Zg _ [.ref 0 0]),.var (Zg _ cs),.row 0 w xs,.var (Zg _ [.ref 0 0])]=_
  rw [h1];rfl
 ·simp [ZaY,okB,Zb7,Zl,hg2]
 ·have hb3:=hback (ZaC [.var cs,.var [.ref 0 0],.var [.ref 0 0],.row 0 w xs,.free,.free,.free,.free] [1,0,3,2] 4) (by simp [ZaC,Zl])
  show [ZR.var (Zg _ cs2),.var (Zg _ [.ref 1 0]),.var (Zg _ [.ref 1 0]),.row (0+g2) w2 xs2,.free,.free,.free,.free]=_
  rw [hb3,XG];rfl
theorem Zuv {f g:Nat} (hc:Zw cs=[3]) (hg:g<=1) (hren:∀ ρ:Rho,ρ 3 g=some (3,0)->Zg ρ cs=cs1) (τ:Za) :
  gcT 3 [(1,.fn f [.ref 1 0,.ref 2 0]),(0,.ref 0 0)] (.var cs::.var [.ref 0 0]::.var [.ref 0 0]::.row g w xs::τ)=([(1,.fn f [.ref 1 0,.ref 2 0]),(0,.ref 0 0)],[.var cs1,.var [.ref 0 0],.var [.ref 0 0],.row 0 w xs]):=by
 have hi:Zy 3 [.fn f [.ref 1 0,.ref 2 0],.ref 0 0] (.var cs::.var [.ref 0 0]::.var [.ref 0 0]::.row g w xs::τ)=[0,1,2,3]:=by
  have hR:X6 3=[0,1,2]:=rfl
  simp only [Zy,hR,XH,XX,Xm,Xu,XN,ZC,Zw,Z9,hc]
  rfl
 have hρ:Zi (.var cs::.var [.ref 0 0]::.var [.ref 0 0]::.row g w xs::τ) 3 [0,1,2,3] 3 g=some (3,0):=by
  simp [Zi,ZO,Zl,ZF]
 have hρ0:Zi (.var cs::.var [.ref 0 0]::.var [.ref 0 0]::.row g w xs::τ) 3 [0,1,2,3] 0 0=some (0,0):=rfl
 have hρ1:Zi (.var cs::.var [.ref 0 0]::.var [.ref 0 0]::.row g w xs::τ) 3 [0,1,2,3] 1 0=some (1,0):=rfl
 have hρ2:Zi (.var cs::.var [.ref 0 0]::.var [.ref 0 0]::.row g w xs::τ) 3 [0,1,2,3] 2 0=some (2,0):=rfl
 simp only [gcT,gcA,Xo,XA,hi,Zq,Xu,XN,ZF,Zl,Zz,Zg,Zr,hρ0,hρ1,hρ2,hren _ hρ]
 simp
theorem ZlR {r:AVal} (hr:ZI r=true) (hc:Zw cs=[3]) (hren:∀ ρ:Rho,ρ 3 0=some (3,0)->Zg ρ cs=cs) (τ:Za):Zak 3 (.var cs::.var [.ref 0 0]::.var [.ref 0 0]::.row 0 w xs::τ) r=some (r,[.var cs,.var [.ref 0 0],.var [.ref 0 0],.row 0 w xs]):=by
 have e1:=fun ρ=>Z4 ρ r hr
 have hi:Zy 3 [r] (.var cs::.var [.ref 0 0]::.var [.ref 0 0]::.row 0 w xs::τ)=[0,1,2,3]:=by
  have hR:X6 3=[0,1,2]:=rfl
  simp only [Zy,(e1 (fun _ _=>none)).2,Xw,hR,XH,XX,Xm,Xu,XN,ZC,Zw,Z9,hc]
  rfl
 have hρ3:Zi (.var cs::.var [.ref 0 0]::.var [.ref 0 0]::.row 0 w xs::τ) 3 [0,1,2,3] 3 0=some (3,0):=rfl
 have hρ0:Zi (.var cs::.var [.ref 0 0]::.var [.ref 0 0]::.row 0 w xs::τ) 3 [0,1,2,3] 0 0=some (0,0):=rfl
 simp only [Zak,gcA,hi,Zg,(e1 _).1,Zq,Xu,XN,ZF,Zl,Zz,Zr,hρ0,hren _ hρ3]
 rfl
theorem ZkW {r:AVal} (hr:ZI r=true) (hc:Zd cs=true) (τ:Za):Zak 3 (.var cs::.var [.ref 0 0]::.var [.ref 0 0]::τ) r=some (r,[.var cs,.var [.ref 0 0],.var [.ref 0 0]]):=by
 have e1:=fun ρ=>Z4 ρ r hr
 have e2:=fun ρ=>Za8 ρ cs hc
 have hi:Zy 3 [r] (.var cs::.var [.ref 0 0]::.var [.ref 0 0]::τ)=[0,1,2]:=by
  have hR:X6 3=[0,1,2]:=rfl
  simp only [Zy,(e1 (fun _ _=>none)).2,Xw,hR,XH,XX,Xm,Xu,XN,ZC,Zw,Z9,(e2 (fun _ _=>none)).2]
  rfl
 have hρ0:Zi (.var cs::.var [.ref 0 0]::.var [.ref 0 0]::τ) 3 [0,1,2] 0 0=some (0,0):=rfl
 simp only [Zak,gcA,hi,Zg,(e1 _).1,Zq,Xu,XN,Zz,Zr,hρ0,(e2 _).1]
end
section
variable {α:Type} {one:Zc->RK α} {g:α->AVal} {f k:Nat} (P:List AVal) (hP:P.length=26) (hN:Zd P=true) (hk:k < 26) (hf:f < 1000000) (hby:BY f=false)
  (hlen:∀ {l s r},one l=.ok (s,r)->r.length < l.length)
  (hT1:∀ (xs:List α) (l:Zc) (s:α) (r:Zc),l.length<=1099511627776->xs.length<=1099511627776->one l=.ok (s,r)->E f [.ref 0 0,.ref 3 0] [.var [.ref 1 0],.var (Zo P k 2 0 xs.length++[.lst false (l.map Zb)]),.row 0 1 (xs.map g),.var [.ref 1 0]]=some (.tup [],[.var [.ref 1 0],.var (Zo P k 2 1 (xs.length+1)++[.lst false (r.map Zb)]),.row 1 1 ((xs++[s]).map g),.var [.ref 1 0]]))
  (hF1:∀ (xs:List α) (l:Zc) (e:Int),l.length<=1099511627776->one l=.error e->∃ r:Zc,E f [.ref 0 0,.ref 3 0] [.var [.ref 1 0],.var (Zo P k 2 0 xs.length++[.lst false (l.map Zb)]),.row 0 1 (xs.map g),.var [.ref 1 0]]=some (.pan (ZG e),[.var [.ref 1 0],.var (Zo P k 2 0 xs.length++[.lst false (r.map Zb)]),.row 0 1 (xs.map g),.var [.ref 1 0]]))
include hP hN hk
def H3 (P:List AVal) (k n:Nat) (l:Zc) (ys:List AVal):Za:=[.var (Zo P k 3 0 n++[.lst false (l.map Zb)]),.var [.ref 0 0],.var [.ref 0 0],.row 0 1 ys]
theorem ZbG (r g n:Nat) (L:Zc):Zw (Zo P k r g n++[.lst false (L.map Zb)])=[r]:=by
 rw [ZcW,Zo,Zjx hN (by omega)];rfl
theorem ZaZ (r g n r' g':Nat) (L:Zc) (ρ:Rho) (h:ρ r g=some (r',g')):Zg ρ (Zo P k r g n++[.lst false (L.map Zb)])=Zo P k r' g' n++[.lst false (L.map Zb)]:=by
 rw [Zb3,Zo,ZjP ρ hN,Zo]
 simp only [Zr,h,Zg]
include hf hby hlen hT1 hF1
theorem ZuK:∀ (n:Nat) (l:Zc) (xs:List α),l.length<=n->n+xs.length<=1099511627776 ->
  (∀ ts,Za0 one n l=.ok ts->Zbc 3 [(1,.fn f [.ref 1 0,.ref 2 0]),(0,.ref 0 0)] (H3 P k xs.length l (xs.map g))=some (.tup [],H3 P k (xs++ts).length [] ((xs++ts).map g))) /\
  (∀ e,Za0 one n l=.error e->∃ (xs':List α) (r:Zc),Zbc 3 [(1,.fn f [.ref 1 0,.ref 2 0]),(0,.ref 0 0)] (H3 P k xs.length l (xs.map g))=some (.pan (ZG e),H3 P k xs'.length r (xs'.map g))):=by
 intro n
 induction n with
 | zero =>
  intro l xs hl hx
  have l0:l=[]:=Xy (by omega)
  subst l0
  refine ⟨fun ts h=>?_,fun e h=>by simp [Za0] at h⟩
  have : ts=[]:=by simpa [Za0] using h.symm
  subst this
  rw [Xm]
  have hL:=Zcb P hP hN k hk xs.length 3 0
  have b2:=Zay _ hL
  have hO:=ZlR (w:=1) (xs:=xs.map g) (r:=.tup []) rfl (ZbG P hP hN hk 3 0 xs.length []) (fun ρ h=>ZaZ P hP hN hk 3 0 xs.length 3 0 [] ρ h)
  unfold H3 Zbc
  rw [ZL]
  generalize Zo P k 3 0 xs.length=Q at *
  generalize xs.map g=ys at *
  simp -implicitDefEqProofs only [EQA,Xe,Xc,Xa,Xg,reduceCtorEq,decide_eq_true_eq,ite_self,↓reduceIte,Zld,ZdQ,Zdd,b2]
  exact hO _
 | succ n ih =>
  intro l xs hl hx
  have hL:=Zcb P hP hN k hk xs.length 3 0
  have b2:=Zay _ hL
  by_cases l0:l.length=0
  ·have l0:l=[]:=Xy l0
   subst l0
   refine ⟨fun ts h=>?_,fun e h=>by simp [Za0] at h⟩
   have : ts=[]:=by simpa [Za0] using h.symm
   subst this
   rw [Xm]
   have hO:=ZlR (w:=1) (xs:=xs.map g) (r:=.tup []) rfl (ZbG P hP hN hk 3 0 xs.length []) (fun ρ h=>ZaZ P hP hN hk 3 0 xs.length 3 0 [] ρ h)
   unfold H3 Zbc
   rw [ZL]
   generalize Zo P k 3 0 xs.length=Q at *
   generalize xs.map g=ys at *
   simp -implicitDefEqProofs only [EQA,Xe,Xc,Xa,Xg,reduceCtorEq,decide_eq_true_eq,ite_self,↓reduceIte,Zld,ZdQ,Zdd,b2]
   exact hO _
  ·have z1:((l.length:Nat):Int) > 0:=by omega
   have z2:(0:Int) < ((l.length:Nat):Int):=by omega
   cases ho:one l with
   | error e =>
    refine ⟨fun ts h=>by simp [Za0,l0,ho] at h,fun e' h=>?_⟩
    have : e'=e:=by simpa [Za0,l0,ho] using h.symm
    subst this
    obtain ⟨r,hE⟩:=hF1 xs l e' (by omega) ho
    have hC:=Zw9 (O:=E) (bf:=BY) (cs:=Zo P k 3 0 xs.length++[.lst false (l.map Zb)]) (cs3:=Zo P k 3 0 xs.length++[.lst false (r.map Zb)]) hby (ZbG P hP hN hk 3 0 xs.length l) (fun ρ h=>ZaZ P hP hN hk 3 0 xs.length 2 0 l ρ h) (q:=.pan (ZG e')) rfl (by omega) (fun ρ h=>ZaZ P hP hN hk 2 0 xs.length 3 0 r ρ h) hE
    have hO:=ZlR (w:=1) (xs:=xs.map g) (r:=.pan (ZG e')) rfl (ZbG P hP hN hk 3 0 xs.length r) (fun ρ h=>ZaZ P hP hN hk 3 0 xs.length 3 0 r ρ h)
    refine ⟨xs,r,?_⟩
    unfold H3 Zbc
    rw [ZL]
    clear hE hT1 hF1 ih
    generalize Zo P k 3 0 xs.length=Q at *
    generalize xs.map g=ys at *
    generalize ZG e'=ce at *
    simp -implicitDefEqProofs only [EQA,Xe,Xc,Xa,Xg,reduceCtorEq,↓reduceIte,ZdQ,Zdd,b2,hC,hf,z1]
    exact hO _
   | ok s =>
    obtain ⟨s,r⟩:=s
    have hr:=hlen ho
    have hE:=hT1 xs l s r (by omega) (by omega) ho
    have hC:=Zw9 (O:=E) (bf:=BY) (cs:=Zo P k 3 0 xs.length++[.lst false (l.map Zb)]) (cs3:=Zo P k 3 1 (xs.length+1)++[.lst false (r.map Zb)]) hby (ZbG P hP hN hk 3 0 xs.length l) (fun ρ h=>ZaZ P hP hN hk 3 0 xs.length 2 0 l ρ h) (q:=.tup []) rfl (by omega) (fun ρ h=>ZaZ P hP hN hk 2 1 (xs.length+1) 3 1 r ρ h) hE
    have hG:=Zuv (f:=f) (w:=1) (xs:=(xs++[s]).map g) (g:=1) (ZbG P hP hN hk 3 1 (xs.length+1) r) (by omega) (fun ρ h=>ZaZ P hP hN hk 3 1 (xs.length+1) 3 0 r ρ h)
    have step:Zbc 3 [(1,.fn f [.ref 1 0,.ref 2 0]),(0,.ref 0 0)] (H3 P k xs.length l (xs.map g))=Zbc 3 [(1,.fn f [.ref 1 0,.ref 2 0]),(0,.ref 0 0)] (H3 P k (xs++[s]).length r ((xs++[s]).map g)):=by
     rw [show (xs++[s]).length=xs.length+1 from by simp]
     unfold H3
     conv=>lhs;unfold Zbc
     conv=>rhs;unfold Zbc
     conv=>lhs;rw [ZL]
     clear hE hT1 hF1 ih
     generalize Zo P k 3 0 xs.length=Q at *
     generalize Zo P k 3 1 (xs.length+1)=Q2 at *
     generalize Zo P k 3 0 (xs.length+1)=Q3 at *
     generalize xs.map g=ys at *
     generalize (xs++[s]).map g=zs at *
     simp -implicitDefEqProofs only [EQA,ZN,Xe,Xc,Xa,Xg,reduceCtorEq,↓reduceIte,ZdQ,Zdd,b2,hC,hG,hf,z1]
    obtain ⟨i1,i2⟩:=ih r (xs++[s]) (by omega) (by simp;omega)
    refine ⟨fun ts h=>?_,fun e h=>?_⟩
    ·rw [step]
     simp only [Za0,l0,ho,if_false] at h
     cases hl2:Za0 one n r with
     | error e=>rw [hl2] at h;cases h
     | ok us =>
      rw [hl2] at h
      injection h with h;subst h
      have:=i1 us hl2
      rw [Wa,List.singleton_append] at this
      exact this
    ·rw [step]
     simp only [Za0,l0,ho,if_false] at h
     cases hl2:Za0 one n r with
     | error e2 =>
      rw [hl2] at h
      injection h with h;subst h
      exact i2 e2 hl2
     | ok us=>rw [hl2] at h;cases h
end
end
end Go.Proofs.YteepdofekjheaaaDoor
