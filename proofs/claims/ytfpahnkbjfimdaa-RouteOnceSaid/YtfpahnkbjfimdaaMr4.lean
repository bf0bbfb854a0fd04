/- The statement of RouteOnce: for every input the law returns true, and each argument reads afterwards as it read before. No other condition. -/
import Derived.Test.YtfpahnkbjfimdaaMr3
import Derived.Sort.Walk0
import Derived.Test.YtfpahnkbjfimdaaRows
import Derived.WalkKit
import Derived.ProofKit
import Derived.OpenShut
import Derived.ShutString
import Derived.ChangeOld
import Derived.Below
set_option linter.defProp false
set_option linter.unusedSectionVars false
set_option linter.unusedSimpArgs false
set_option linter.unusedVariables false
open Bool renaming decide_eq_true→Xc,not_eq_true→Xh,false_eq_true→Xz,not_true→Wj,not_false→Wp,true_or→Xag,false_and→Xam,or_true→XaB,true_and→XaE,false_or→Xbb
open List renaming range_succ→Xe,all_cons→Xi,all_nil→Xo,mem_of_getElem?→Xs,map_cons→Xu,mem_append→Xv,length_cons→Xx,length_append→Xy,length_nil→XA,getD_cons_zero→XC,getD_cons_succ→XG,contains_nil→XH,mem_map→XJ,lookup_cons→XK,mem_cons→XL,length_singleton→XN,length_map→XP,lookup_nil→XY,mem_singleton→XZ,map_nil→X0,any_cons→X2,length_take→X3,any_nil→X8,nil_append→Wa,mem_filter→Wr,drop_eq_nil_iff→WD,foldl_cons→Xaq
open Nat renaming reduceLeDiff→Xf,reduceEqDiff→Xg,reduceMul→Xm,reduceAdd→Xp,reduceSub→Xq,reduceBEq→Xr,reduceLT→Xt,zero_add→XF,le_refl→XR,one_mul→Wl,zero_le→XaZ
open Or renaming inl→Xw,inr→XE
namespace Go.Proofs.Ytfpahnkbjfimdaa
set_option maxHeartbeats 16000000
set_option maxRecDepth 10000
section
def Zbs:Zq:=(.seq (.region [oI 207 (.call 9 0 true []),oM 4 207] none [4]) .ret)
def Ziz:Zq:=Zbs
def ZbM:=xw Ziz Zbs rfl
def Zbu:Zq:=(.region [oM 162 11,oI 163 (.bin .add (.t 162) (.c (.int .i64 1))),oM 11 163] none [11,6,5,1])
def ZjF:Zq:=Zbu
def ZbP:=xw ZjF Zbu rfl
def Zbo:Zq:=(.seq (.region [oM 205 12,oI 206 (.un .not (.t 205))] none [206,11,6,5,1]) (.cond (.t 206) (.seq (.region [oI 4 (.mov (.c (.bool false)))] none [4]) .ret) .skip))
def Zik:Zq:=Zbo
def ZbN:=xw Zik Zbo rfl
def Zbk:Zq:=(.seq (.seq (.region [oM 185 13,oM 186 6,oI 187 (.len (.t 186)),oI 188 (.bin .lss (.t 185) (.t 187))] none [188,13,12,11,6,5,1]) (.cond (.t 188) .skip (.exit 6))) (.seq (.block 7 (.region [oM 191 12,oM 192 191,⟨(some 193),(.mov (.t 6)),(some (192,false)),[]⟩,⟨(some 194),(.mov (.t 13)),(some (192,false)),[]⟩,⟨(some 195),(.iaddr 15 (.t 193) (.t 194)),(some (192,false)),[]⟩,⟨(some 196),(.faddr 0 (.t 195)),(some (192,false)),[]⟩,⟨(some 197),(.ld none (.t 196)),(some (192,false)),[]⟩,⟨(some 198),(.mov (.t 1)),(some (192,false)),[]⟩,⟨(some 199),(.mov (.t 11)),(some (192,false)),[]⟩,⟨(some 200),(.iaddr 7 (.t 198) (.t 199)),(some (192,false)),[]⟩,⟨(some 201),(.faddr 0 (.t 200)),(some (192,false)),[]⟩,⟨(some 202),(.ld none (.t 201)),(some (192,false)),[]⟩,⟨(some 203),(.bin .eql (.t 197) (.t 202)),(some (192,false)),[]⟩,oI 204 (.pick (.t 192) (.c (.bool true)) (.t 203)),oM 12 204] (some [(4,9),(6,9),(4,11),(6,11)]) [13,12,11,6,5,1])) (.region [oM 189 13,oI 190 (.bin .add (.t 189) (.c (.int .i64 1))),oM 13 190] none [13,12,11,6,5,1])))
def ZhL:Zq:=Zbk
def ZbV:=xw ZhL Zbk rfl
def Zbm:Zq:=(.seq (.seq (.region [oM 158 11,oM 159 1,oI 160 (.len (.t 159)),oI 161 (.bin .lss (.t 158) (.t 160))] none [161,11,6,5,1]) (.cond (.t 161) .skip (.exit 4))) (.seq (.block 5 (.seq (.region [oM 164 1,oM 165 11,oI 166 (.iaddr 7 (.t 164) (.t 165)),oF 167 1 166,oF 168 2 167,oL 169 168,oM 170 169,⟨(some 171),(.faddr 4 (.t 5)),(some (170,true)),[]⟩,⟨(some 172),(.ld none (.t 171)),(some (170,true)),[]⟩,⟨(some 173),(.bin .neq (.t 172) (.c (.str []))),(some (170,true)),[]⟩,oI 174 (.pick (.t 170) (.t 173) (.c (.bool false))),oM 175 174,⟨(some 176),(.faddr 4 (.t 5)),(some (175,true)),[]⟩,⟨(some 177),(.ld none (.t 176)),(some (175,true)),[]⟩,⟨(some 178),(.mov (.t 1)),(some (175,true)),[]⟩,⟨(some 179),(.mov (.t 11)),(some (175,true)),[]⟩,⟨(some 180),(.iaddr 7 (.t 178) (.t 179)),(some (175,true)),[]⟩,⟨(some 181),(.faddr 0 (.t 180)),(some (175,true)),[]⟩,⟨(some 182),(.ld none (.t 181)),(some (175,true)),[]⟩,⟨(some 183),(.bin .eql (.t 177) (.t 182)),(some (175,true)),[]⟩,oI 184 (.pick (.t 175) (.t 183) (.c (.bool false))),oM 12 184] (some [(13,16),(13,18)]) [12,11,6,5,1]) (.seq (.seq (.region [oI 13 (.mov (.c (.int .i64 0)))] none [13,12,11,6,5,1]) (.block 6 (.loop [13,12,11,6,5,1] ZhL))) Zik))) ZjF))
def Zhv:Zq:=Zbm
def ZbL:=xw Zhv Zbm rfl
def Zbn:Zq:=(.seq (.seq (.region [oI 11 (.mov (.c (.int .i64 0)))] none [11,6,5,1]) (.block 4 (.loop [11,6,5,1] Zhv))) Ziz)
def ZjU:Zq:=Zbn
def ZbY:=xw ZjU Zbn rfl
def Zbw:Zq:=(.region [oM 26 7,oI 27 (.bin .add (.t 26) (.c (.int .i64 1))),oM 7 27] none [7,6,5,1])
def Zkb:Zq:=Zbw
def ZbK:=xw Zkb Zbw rfl
def Zbv:Zq:=(.seq (.region [oM 139 8,oM 140 6,oM 141 7,oI 142 (.iaddr 15 (.t 140) (.t 141)),oF 143 1 142,oF 144 10 143,oL 145 144,oI 146 (.bin .neq (.t 139) (.t 145)),oM 147 146,⟨(some 148),(.mov (.t 9)),(some (147,false)),[]⟩,⟨(some 149),(.mov (.t 6)),(some (147,false)),[]⟩,⟨(some 150),(.mov (.t 7)),(some (147,false)),[]⟩,⟨(some 151),(.iaddr 15 (.t 149) (.t 150)),(some (147,false)),[]⟩,⟨(some 152),(.faddr 1 (.t 151)),(some (147,false)),[]⟩,⟨(some 153),(.faddr 12 (.t 152)),(some (147,false)),[]⟩,⟨(some 154),(.ld none (.t 153)),(some (147,false)),[]⟩,⟨(some 155),(.len (.t 154)),(some (147,false)),[]⟩,⟨(some 156),(.bin .neq (.t 148) (.t 155)),(some (147,false)),[]⟩,oI 157 (.pick (.t 147) (.c (.bool true)) (.t 156))] none [157,7,6,5,1]) (.cond (.t 157) (.seq (.region [oI 4 (.mov (.c (.bool false)))] none [4]) .ret) .skip))
def ZiA:Zq:=Zbv
def ZbH:=xw ZiA Zbv rfl
def Zbt:Zq:=(.seq (.seq (.region [oM 77 10,oM 78 1,oI 79 (.len (.t 78)),oI 80 (.bin .lss (.t 77) (.t 79))] none [80,10,9,8,7,6,5,1]) (.cond (.t 80) .skip (.exit 2))) (.seq (.block 3 (.seq (.region [oM 83 1,oM 84 10,oI 85 (.iaddr 7 (.t 83) (.t 84)),oF 86 0 85,oL 87 86,oM 88 6,oM 89 7,oI 90 (.iaddr 15 (.t 88) (.t 89)),oF 91 0 90,oL 92 91,oI 93 (.bin .eql (.t 87) (.t 92)),oM 94 93,⟨(some 95),(.mov (.t 1)),(some (94,true)),[]⟩,⟨(some 96),(.mov (.t 10)),(some (94,true)),[]⟩,⟨(some 97),(.iaddr 7 (.t 95) (.t 96)),(some (94,true)),[]⟩,⟨(some 98),(.faddr 1 (.t 97)),(some (94,true)),[]⟩,⟨(some 99),(.faddr 2 (.t 98)),(some (94,true)),[]⟩,⟨(some 100),(.ld none (.t 99)),(some (94,true)),[]⟩,⟨(some 101),(.mov (.t 100)),(some (94,true)),[]⟩,⟨(some 102),(.faddr 4 (.t 5)),(some (101,true)),[]⟩,⟨(some 103),(.ld none (.t 102)),(some (101,true)),[]⟩,⟨(some 104),(.bin .neq (.t 103) (.c (.str []))),(some (101,true)),[]⟩,⟨(some 105),(.pick (.t 101) (.t 104) (.c (.bool false))),(some (94,true)),[]⟩,⟨(some 106),(.mov (.t 105)),(some (94,true)),[]⟩,⟨(some 107),(.faddr 4 (.t 5)),(some (106,true)),[]⟩,⟨(some 108),(.ld none (.t 107)),(some (106,true)),[]⟩,⟨(some 109),(.mov (.t 1)),(some (106,true)),[]⟩,⟨(some 110),(.mov (.t 10)),(some (106,true)),[]⟩,⟨(some 111),(.iaddr 7 (.t 109) (.t 110)),(some (106,true)),[]⟩,⟨(some 112),(.faddr 0 (.t 111)),(some (106,true)),[]⟩,⟨(some 113),(.ld none (.t 112)),(some (106,true)),[]⟩,⟨(some 114),(.bin .eql (.t 108) (.t 113)),(some (106,true)),[]⟩,⟨(some 115),(.pick (.t 106) (.t 114) (.c (.bool false))),(some (94,true)),[]⟩,⟨(some 116),(.un .not (.t 115)),(some (94,true)),[]⟩,oI 117 (.pick (.t 94) (.t 116) (.c (.bool false)))] (some [(2,7),(4,7),(2,9),(4,9),(25,28),(25,30)]) [117,10,9,8,7,6,5,1]) (.cond (.t 117) (.seq (.region [oM 118 8,oF 119 2 5,oL 120 119,oM 121 1,oM 122 10,oI 123 (.iaddr 7 (.t 121) (.t 122)),oF 124 1 123,oF 125 1 124,oL 126 125,oI 127 (.mm true [(.c (.int .i64 0)),(.t 126)]),oI 128 (.mm false [(.t 120),(.t 127)]),oI 129 (.mm true [(.t 118),(.t 128)]),oM 8 129] (some [(2,5),(2,8)]) [10,9,8,7,6,5,1]) (.seq (.region [oM 130 1,oM 131 10,oI 132 (.iaddr 7 (.t 130) (.t 131)),oF 133 1 132,oF 134 5 133,oL 135 134,oI 136 (.bin .neq (.t 135) (.c (.int .i64 0)))] none [136,10,9,8,7,6,5,1]) (.cond (.t 136) (.region [oM 137 9,oI 138 (.bin .add (.t 137) (.c (.int .i64 1))),oM 9 138] none [10,9,8,7,6,5,1]) .skip))) .skip))) (.region [oM 81 10,oI 82 (.bin .add (.t 81) (.c (.int .i64 1))),oM 10 82] none [10,9,8,7,6,5,1])))
def Zg0:Zq:=Zbt
def ZbT:=xw Zg0 Zbt rfl
def Zbr:Zq:=(.seq (.seq (.region [oM 22 7,oM 23 6,oI 24 (.len (.t 23)),oI 25 (.bin .lss (.t 22) (.t 24))] none [25,7,6,5,1]) (.cond (.t 25) .skip (.exit 0))) (.seq (.block 1 (.seq (.seq (.region [oM 28 7,oI 29 (.bin .gtr (.t 28) (.c (.int .i64 0))),oM 30 29,⟨(some 31),(.mov (.t 6)),(some (30,true)),[]⟩,⟨(some 32),(.mov (.t 7)),(some (30,true)),[]⟩,⟨(some 33),(.bin .sub (.t 32) (.c (.int .i64 1))),(some (30,true)),[]⟩,⟨(some 34),(.iaddr 15 (.t 31) (.t 33)),(some (30,true)),[]⟩,⟨(some 35),(.faddr 0 (.t 34)),(some (30,true)),[]⟩,⟨(some 36),(.ld none (.t 35)),(some (30,true)),[]⟩,⟨(some 37),(.mov (.t 6)),(some (30,true)),[]⟩,⟨(some 38),(.mov (.t 7)),(some (30,true)),[]⟩,⟨(some 39),(.iaddr 15 (.t 37) (.t 38)),(some (30,true)),[]⟩,⟨(some 40),(.faddr 0 (.t 39)),(some (30,true)),[]⟩,⟨(some 41),(.ld none (.t 40)),(some (30,true)),[]⟩,⟨(some 42),(.bin .geq (.t 36) (.t 41)),(some (30,true)),[]⟩,oI 43 (.pick (.t 30) (.t 42) (.c (.bool false))),oM 44 43,⟨(some 45),(.mov (.t 6)),(some (44,false)),[]⟩,⟨(some 46),(.mov (.t 7)),(some (44,false)),[]⟩,⟨(some 47),(.iaddr 15 (.t 45) (.t 46)),(some (44,false)),[]⟩,⟨(some 48),(.faddr 1 (.t 47)),(some (44,false)),[]⟩,⟨(some 49),(.faddr 10 (.t 48)),(some (44,false)),[]⟩,⟨(some 50),(.ld none (.t 49)),(some (44,false)),[]⟩,⟨(some 51),(.faddr 2 (.t 5)),(some (44,false)),[]⟩,⟨(some 52),(.ld none (.t 51)),(some (44,false)),[]⟩,⟨(some 53),(.bin .gtr (.t 50) (.t 52)),(some (44,false)),[]⟩,oI 54 (.pick (.t 44) (.c (.bool true)) (.t 53)),oM 55 54,⟨(some 56),(.mov (.t 6)),(some (55,false)),[]⟩,⟨(some 57),(.mov (.t 7)),(some (55,false)),[]⟩,⟨(some 58),(.iaddr 15 (.t 56) (.t 57)),(some (55,false)),[]⟩,⟨(some 59),(.faddr 1 (.t 58)),(some (55,false)),[]⟩,⟨(some 60),(.faddr 11 (.t 59)),(some (55,false)),[]⟩,⟨(some 61),(.ld none (.t 60)),(some (55,false)),[]⟩,⟨(some 62),(.mov (.t 61)),(some (55,false)),[]⟩,⟨(some 63),(.faddr 3 (.t 5)),(some (62,true)),[]⟩,⟨(some 64),(.ld none (.t 63)),(some (62,true)),[]⟩,⟨(some 65),(.un .not (.t 64)),(some (62,true)),[]⟩,⟨(some 66),(.pick (.t 62) (.t 65) (.c (.bool false))),(some (55,false)),[]⟩,oI 67 (.pick (.t 55) (.c (.bool true)) (.t 66)),oM 68 67,⟨(some 69),(.mov (.t 6)),(some (68,false)),[]⟩,⟨(some 70),(.mov (.t 7)),(some (68,false)),[]⟩,⟨(some 71),(.iaddr 15 (.t 69) (.t 70)),(some (68,false)),[]⟩,⟨(some 72),(.faddr 1 (.t 71)),(some (68,false)),[]⟩,⟨(some 73),(.faddr 13 (.t 72)),(some (68,false)),[]⟩,⟨(some 74),(.ld none (.t 73)),(some (68,false)),[]⟩,⟨(some 75),(.bin .neq (.t 74) (.c (.str []))),(some (68,false)),[]⟩,oI 76 (.pick (.t 68) (.c (.bool true)) (.t 75))] (some [(6,11),(8,11),(6,13),(8,13),(19,24),(22,24)]) [76,7,6,5,1]) (.cond (.t 76) (.seq (.region [oI 4 (.mov (.c (.bool false)))] none [4]) .ret) .skip)) (.seq (.region [oI 8 (.mov (.c (.int .i64 (-1)))),oI 9 (.mov (.c (.int .i64 0)))] none [9,8,7,6,5,1]) (.seq (.seq (.region [oI 10 (.mov (.c (.int .i64 0)))] none [10,9,8,7,6,5,1]) (.block 2 (.loop [10,9,8,7,6,5,1] Zg0))) ZiA)))) Zkb))
def ZgX:Zq:=Zbr
def ZbU:=xw ZgX Zbr rfl
def ZbC:Zq:=(.seq (.region [oI 2 (.box (.t 0)),oI 4 (.mov (.c (.bool false)))] none [2,1]) (.seq (.region [oI 14 (.ld (some 16) (.t 2)),oI 15 (.call 6 0 true [(.t 14)]),oI 16 (.field (some 10) 0 (.t 15)),oI 5 (.alloc [(.str []),(.lst true []),(.int .i64 0),(.bool false),(.str []),(.int .i64 0),(.lst true []),(.int .i64 0),(.int .i64 0),(.int .i64 0)]),oN (.st 10 (.t 5) (.t 16))] none [5,1]) (.seq (.region [oM 17 1,oI 18 (.call 7 0 true [(.t 17)]),oM 1 18] none [5,1]) (.seq (.region [oI 19 (.ld (some 10) (.t 5)),oM 20 1,oI 21 (.call 8 0 true [(.t 19),(.t 20)]),oM 6 21] none [6,5,1]) (.seq (.seq (.region [oI 7 (.mov (.c (.int .i64 0)))] none [7,6,5,1]) (.block 0 (.loop [7,6,5,1] ZgX))) ZjU)))))
def ZjJ:Zax:=⟨[(.tmp 4)],ZbC⟩
theorem ZyO:FC 3=some ZjJ:=by kernel_rfl
theorem ZbO:ZjJ.body=ZbC:=rfl
theorem ZbS:ZjJ.res=[(.tmp 4)]:=rfl
def ZdZ:Zq:=(.seq (.region [oM 30 3,oM 2 30] none [2]) .ret)
def ZiG:Zq:=ZdZ
def Ze1:=xw ZiG ZdZ rfl
def ZdY:Zq:=(.seq (.seq (.region [oM 6 4,oM 7 0,oI 8 (.len (.t 7)),oI 9 (.bin .lss (.t 6) (.t 8)),oM 10 9,⟨(some 11),(.mov (.t 4)),(some (10,true)),[]⟩,⟨(some 12),(.bin .lss (.t 11) (.c (.int .i64 30))),(some (10,true)),[]⟩,oI 13 (.pick (.t 10) (.t 12) (.c (.bool false)))] none [13,4,3,0]) (.cond (.t 13) .skip (.exit 0))) (.seq (.block 1 (.seq (.region [oM 16 0,oM 17 4,oI 18 (.iaddr 7 (.t 16) (.t 17)),oI 19 (.ld (some 7) (.t 18)),oI 5 (.alloc [(.str []),(.str []),(.int .i64 0),(.bool false),(.bool false),(.int .i64 0),(.int .i64 0)]),oN (.st 7 (.t 5) (.t 19))] none [5,4,3,0]) (.seq (.region [oF 20 1 5,oF 21 1 20,oL 22 21,oI 23 (.call 20 0 true [(.t 22),(.c (.int .i64 0)),(.c (.int .i64 2))]),oF 24 1 5,oF 25 1 24,oN (.st 1 (.t 25) (.t 23))] none [5,4,3,0]) (.region [oM 26 3,oI 27 (.ld (some 7) (.t 5)),oI 28 (.bslice false 7 1 (.agg [(.str []),(.str []),(.int .i64 0),(.bool false),(.bool false),(.int .i64 0),(.int .i64 0)]) [(0,(.t 27))]),oI 29 (.app 7 64 (.agg [(.str []),(.str []),(.int .i64 0),(.bool false),(.bool false),(.int .i64 0),(.int .i64 0)]) (.t 26) (.t 28)),oM 3 29] none [4,3,0])))) (.region [oM 14 4,oI 15 (.bin .add (.t 14) (.c (.int .i64 1))),oM 4 15] none [4,3,0])))
def Zit:Zq:=ZdY
def ZeQ:=xw Zit ZdY rfl
def Zd7:Zq:=(.seq (.region [oI 2 (.mov (.c (.lst true [])))] none [0]) (.seq (.region [oI 3 (.mov (.c (.lst true [])))] none [3,0]) (.seq (.seq (.region [oI 4 (.mov (.c (.int .i64 0)))] none [4,3,0]) (.block 0 (.loop [4,3,0] Zit))) ZiG)))
def Zhz:Zax:=⟨[(.tmp 2)],Zd7⟩
theorem Zvx:FC 7=some Zhz:=by kernel_rfl
theorem Zfa:Zhz.body=Zd7:=rfl
theorem Zfp:Zhz.res=[(.tmp 2)]:=rfl
noncomputable def ZgN (m:Nat) (tm:Tms) (σ:Za):Option (AVal×Za):=(ZaR m Zhz (ZcE FC PR BY m ZiG (Option.map (ZbD 0) (evL FC PR BY m [4,3,0] Zit tm σ))))
def ZjE:Zq:=(.seq (.region [oI 0 (.mov (.c (.bool false)))] none []) (.seq (.region [oI 2 (.build [(.str []),(.lst true []),(.int .i64 0),(.bool false),(.str []),(.int .i64 0),(.lst true []),(.int .i64 0),(.int .i64 0),(.int .i64 0)] [(2,1,(.c (.int .i64 2))),(4,1,(.c (.str [120])))]),oI 3 (.build [(.str []),(.int .i64 0),(.bool false),(.bool false),(.int .i64 0),(.int .i64 0)] [(2,1,(.c (.bool true)))]),oI 4 (.build [(.str []),(.str []),(.int .i64 0),(.bool false),(.bool false),(.int .i64 0),(.int .i64 0)] [(0,1,(.c (.str [120]))),(1,6,(.t 3))]),oI 5 (.build [(.str []),(.int .i64 0),(.bool false),(.bool false),(.int .i64 0),(.int .i64 0)] [(1,1,(.c (.int .i64 1))),(5,1,(.c (.int .i64 7)))]),oI 6 (.build [(.str []),(.str []),(.int .i64 0),(.bool false),(.bool false),(.int .i64 0),(.int .i64 0)] [(0,1,(.c (.str [121]))),(1,6,(.t 5))]),oI 7 (.build [(.str []),(.int .i64 0),(.bool false),(.bool false),(.int .i64 0),(.int .i64 0)] [(5,1,(.c (.int .i64 3)))]),oI 8 (.build [(.str []),(.str []),(.int .i64 0),(.bool false),(.bool false),(.int .i64 0),(.int .i64 0)] [(0,1,(.c (.str [121]))),(1,6,(.t 7))]),oI 9 (.bslice false 7 3 (.agg [(.str []),(.str []),(.int .i64 0),(.bool false),(.bool false),(.int .i64 0),(.int .i64 0)]) [(0,(.t 4)),(1,(.t 6)),(2,(.t 8))]),oI 10 (.call 8 0 true [(.t 2),(.t 9)]),oM 1 10] none [1]) (.seq (.region [oM 11 1,oI 12 (.len (.t 11)),oI 13 (.bin .eql (.t 12) (.c (.int .i64 1))),oM 14 13,⟨(some 15),(.mov (.t 1)),(some (14,true)),[]⟩,⟨(some 16),(.iaddr 15 (.t 15) (.c (.int .i64 0))),(some (14,true)),[]⟩,⟨(some 17),(.faddr 0 (.t 16)),(some (14,true)),[]⟩,⟨(some 18),(.ld none (.t 17)),(some (14,true)),[]⟩,⟨(some 19),(.bin .eql (.t 18) (.c (.str [121]))),(some (14,true)),[]⟩,oI 20 (.pick (.t 14) (.t 19) (.c (.bool false))),oM 21 20,⟨(some 22),(.mov (.t 1)),(some (21,true)),[]⟩,⟨(some 23),(.iaddr 15 (.t 22) (.c (.int .i64 0))),(some (21,true)),[]⟩,⟨(some 24),(.faddr 1 (.t 23)),(some (21,true)),[]⟩,⟨(some 25),(.faddr 10 (.t 24)),(some (21,true)),[]⟩,⟨(some 26),(.ld none (.t 25)),(some (21,true)),[]⟩,⟨(some 27),(.bin .eql (.t 26) (.c (.int .i64 1))),(some (21,true)),[]⟩,oI 28 (.pick (.t 21) (.t 27) (.c (.bool false))),oM 29 28,⟨(some 30),(.mov (.t 1)),(some (29,true)),[]⟩,⟨(some 31),(.iaddr 15 (.t 30) (.c (.int .i64 0))),(some (29,true)),[]⟩,⟨(some 32),(.faddr 1 (.t 31)),(some (29,true)),[]⟩,⟨(some 33),(.faddr 12 (.t 32)),(some (29,true)),[]⟩,⟨(some 34),(.ld none (.t 33)),(some (29,true)),[]⟩,⟨(some 35),(.len (.t 34)),(some (29,true)),[]⟩,⟨(some 36),(.bin .eql (.t 35) (.c (.int .i64 2))),(some (29,true)),[]⟩,oI 37 (.pick (.t 29) (.t 36) (.c (.bool false))),oM 38 37,⟨(some 39),(.mov (.t 1)),(some (38,true)),[]⟩,⟨(some 40),(.iaddr 15 (.t 39) (.c (.int .i64 0))),(some (38,true)),[]⟩,⟨(some 41),(.faddr 1 (.t 40)),(some (38,true)),[]⟩,⟨(some 42),(.faddr 12 (.t 41)),(some (38,true)),[]⟩,⟨(some 43),(.ld none (.t 42)),(some (38,true)),[]⟩,⟨(some 44),(.iaddr 1 (.t 43) (.c (.int .i64 0))),(some (38,true)),[]⟩,⟨(some 45),(.ld none (.t 44)),(some (38,true)),[]⟩,⟨(some 46),(.bin .eql (.t 45) (.c (.int .i64 3))),(some (38,true)),[]⟩,oI 47 (.pick (.t 38) (.t 46) (.c (.bool false))),oM 0 47] none [0]) .ret)))
def Zkq:Zax:=⟨[(.tmp 0)],ZjE⟩
theorem Zpd:FC 9=some Zkq:=by kernel_rfl
theorem ZoK:Zkq.body=ZjE:=rfl
theorem Zx7:Zkq.res=[(.tmp 0)]:=rfl
end
section
def wH (h:Zan):Zan:={ h with sub:={ h.sub with qos:=Zcf h.sub.qos 0 2 } }
def Zcg (hits:List Zan):List Zan:=(hits.take 30).map wH
def hcT (i:Int) (S:AVal):List AVal->Tms
 | []=>[(4,.int .i64 i),(3,.lst true []),(0,S)]
 | x::xs=>[(4,.int .i64 i),(3,.sl 0 0 0 (x::xs).length),(0,S)]
theorem ZiS (i:Int) (S:AVal) {X:List AVal} (h:0 < X.length):hcT i S X=[(4,.int .i64 i),(3,.sl 0 0 0 X.length),(0,S)]:=by
 cases X with
 | nil=>simp at h
 | cons x xs=>rfl
theorem ZAx (hits:List Zan) (i:Int) (X:List AVal) (h:¬i < (hits.length:Int)\/¬i < 30):ZgN 0 (hcT i (.lst false (hits.map ZU)) X) (Zci 7 X)=some (ZcD X,Zci 7 X):=by
 have hl:(hits.map ZU).length=hits.length:=XP ..
 unfold ZgN
 rw [Za6]
 have hh:(if i < (hits.length:Int) then decide (i < 30) else false)=false:=by
  split
  ·rename_i h1
   have : ¬i < 30:=h.resolve_left (by simpa using h1)
   simp [this]
  ·rfl
 generalize hits.map ZU=S at *
 cases X with
 | nil =>
  rw [ZgK,Ze4]
  unfold hcT
  by_cases c0:i < (hits.length:Int)
  ·have c1:¬i < 30:=h.resolve_left (by simpa using c0)
   simp -implicitDefEqProofs only [EQA,ZG,ZF,ZK,ZH,ZJ,ZD,ZQ,ZR,ZP,ZS,ZM,ZL,ZO,ZT,ZN,implies_true,forall_const,Xp,Xq,Xt,Xf,Xg,Xr,Xm,ZA,ZI,unA,Zt,Zx,unG,reduceCtorEq,Zk,decide_eq_true_eq,Xh,Xc,ite_self,↓reduceIte,Zv,ZB,gcT,gcA,Zj,Zf,Zd,Zg,Zm,Zb,Zn,Zh,Zp,Xe,Zfa,Zd7,Zfp,Ze1,ZdZ,ZeQ,ZdY,Zw,Zl,Zo,Zc,Zz,ZE,c0,c1,hl]
   try (simp [ZaD,gcA,Zj,Zf,ZX,Z5,Zd,Zg,Zm,Zb,Zn,ZW,Zi,Zh,Zp,Xe])
  ·simp -implicitDefEqProofs only [EQA,ZG,ZF,ZK,ZH,ZJ,ZD,ZQ,ZR,ZP,ZS,ZM,ZL,ZO,ZT,ZN,implies_true,forall_const,Xp,Xq,Xt,Xf,Xg,Xr,Xm,ZA,ZI,unA,Zt,Zx,unG,reduceCtorEq,Zk,decide_eq_true_eq,Xh,Xc,ite_self,↓reduceIte,Zv,ZB,gcT,gcA,Zj,Zf,Zd,Zg,Zm,Zb,Zn,Zh,Zp,Xe,Zfa,Zd7,Zfp,Ze1,ZdZ,ZeQ,ZdY,Zw,Zl,Zo,Zc,Zz,ZE,c0,hl]
   try (simp [ZaD,gcA,Zj,Zf,ZX,Z5,Zd,Zg,Zm,Zb,Zn,ZW,Zi,Zh,Zp,Xe])
 | cons x xs =>
  rw [Zhd,ZgG]
  have hXp:0 < (x::xs).length:=by simp
  rw [ZiS _ _ hXp]
  generalize x::xs=X at *
  by_cases c0:i < (hits.length:Int)
  ·have c1:¬i < 30:=h.resolve_left (by simpa using c0)
   simp -implicitDefEqProofs only [EQA,ZG,ZF,ZK,ZH,ZJ,ZD,ZQ,ZR,ZP,ZS,ZM,ZL,ZO,ZT,ZN,implies_true,forall_const,Xp,Xq,Xt,Xf,Xg,Xr,Xm,ZA,ZI,unA,Zt,Zx,unG,reduceCtorEq,Zk,decide_eq_true_eq,Xh,Xc,ite_self,↓reduceIte,Zv,ZB,gcT,gcA,Zj,Zf,Zd,Zg,Zm,Zb,Zn,Zh,Zp,Xe,Zfa,Zd7,Zfp,Ze1,ZdZ,ZeQ,ZdY,Zw,Zl,Zo,Zc,Zz,ZE,c0,c1,hl]
   try (simp [ZaD,gcA,Zj,Zf,ZX,Z5,Zd,Zg,Zm,Zb,Zn,ZW,Zi,Zh,Zp,Xe])
  ·simp -implicitDefEqProofs only [EQA,ZG,ZF,ZK,ZH,ZJ,ZD,ZQ,ZR,ZP,ZS,ZM,ZL,ZO,ZT,ZN,implies_true,forall_const,Xp,Xq,Xt,Xf,Xg,Xr,Xm,ZA,ZI,unA,Zt,Zx,unG,reduceCtorEq,Zk,decide_eq_true_eq,Xh,Xc,ite_self,↓reduceIte,Zv,ZB,gcT,gcA,Zj,Zf,Zd,Zg,Zm,Zb,Zn,Zh,Zp,Xe,Zfa,Zd7,Zfp,Ze1,ZdZ,ZeQ,ZdY,Zw,Zl,Zo,Zc,Zz,ZE,c0,hl]
   try (simp [ZaD,gcA,Zj,Zf,ZX,Z5,Zd,Zg,Zm,Zb,Zn,ZW,Zi,Zh,Zp,Xe])
theorem Znh (hits:List Zan):∀ (r:List Zan) (i:Nat) (acc:List Zan),(hits.take 30).drop i=r->acc.length<=i->i<=30 ->
  ZgN 0 (hcT i (.lst false (hits.map ZU)) (acc.map ZU)) (Zci 7 (acc.map ZU))=some (ZcD ((acc++r.map wH).map ZU),Zci 7 ((acc++r.map wH).map ZU))
 | [],i,acc,h,ha,hi=>by
  rw [WD,X3] at h
  rw [X0,List.append_nil]
  exact ZAx hits i (acc.map ZU) (by omega)
 | x::r,i,acc,h,ha,hi=>by
  have hd:=ZcI h
  have hlt:i < min 30 hits.length:=by have:=hd.2.2;rwa [X3] at this
  have ih:=Znh hits r (i+1) (acc++[wH x]) hd.2.1 (by simp;omega) (by omega)
  have hat:hits[i]?=some x:=by
   have:=hd.1
   rw [List.getElem?_take] at this
   rw [if_pos (by omega)] at this
   exact this
  have h1:(i:Int) < (hits.length:Int):=by omega
  have h2:(i:Int) < 30:=by omega
  have hl:(hits.map ZU).length=hits.length:=XP ..
  have e1:∀ (σ:Za) (b:Bool) (kk:IntKind),ZaN σ 7 (.lst b (hits.map ZU)) (.int kk (i:Int))=some (.iptr [.str x.client,.str x.sub.filter,.int .i64 x.sub.qos,.bool x.sub.noLocal,.bool x.sub.asPublished,.int .i64 x.sub.handling,.int .i64 x.sub.id] 0,σ,{}):=fun σ b kk=>iad hat ZU (k:=7) rfl σ b kk
  have hw:IntKind.i64.wrap ((i:Int)+1)=((i+1:Nat):Int):=by rw [ZcZ (by omega) (by omega)];rfl
  have hW:=fun σ sq own view=>Zkn σ sq own view x.sub.qos
  rw [List.append_assoc,List.singleton_append,<-Xu] at ih
  generalize hR:ZcD ((acc++(x::r).map wH).map ZU)=R at *
  generalize hR2:Zci 7 ((acc++(x::r).map wH).map ZU)=R2 at *
  have hXl:(acc.map ZU).length=acc.length:=by simp
  rw [List.map_append,Xu,X0] at ih
  have hwx:ZU (wH x)=.agg [.str x.client,.str x.sub.filter,.int .i64 (Zcf x.sub.qos 0 2),.bool x.sub.noLocal,.bool x.sub.asPublished,.int .i64 x.sub.handling,.int .i64 x.sub.id]:=rfl
  rw [hwx] at ih
  have hk:∀ q:Int,kOk 7 [AVal.agg [.str x.client,.str x.sub.filter,.int .i64 q,.bool x.sub.noLocal,.bool x.sub.asPublished,.int .i64 x.sub.handling,.int .i64 x.sub.id]]=true:=fun _=>rfl
  clear hd h hR hR2 hat
  generalize hits.map ZU=S at *
  unfold ZgN at ih ⊢
  rw [Za6]
  cases hids:acc.map ZU with
  | nil =>
   rw [hids,Wa,ZgG] at ih
   rw [Ze4]
   unfold hcT at ih ⊢
   simp only [Xx,XA,XF] at ih
   simp -implicitDefEqProofs only [EQA,ZG,ZF,ZK,ZH,ZJ,ZD,ZQ,ZR,ZP,ZS,ZM,ZL,ZO,ZT,ZN,implies_true,forall_const,Xp,Xq,Xt,Xf,Xg,Xr,Xm,ZA,ZI,unA,Zt,Zx,unG,reduceCtorEq,Zk,decide_eq_true_eq,Xh,Xc,ite_self,↓reduceIte,Zv,ZB,gcT,gcA,Zj,Zf,Zd,Zg,Zm,Zb,Zn,Zh,Zp,Xe,Zfa,Zd7,Zfp,Ze1,ZdZ,ZeQ,ZdY,Zw,Zl,Zo,Zc,Zz,ZE,h1,h2,hl,e1,hw,hW,hk,Z6,AVal.cells,Zy,Xi,Xo,ZaE,ZaK,Zba,ZaI,X2,X8,Xi,Xo,Xx,XA,Za2,Za5,Za4,Za1,Za7,XC,XG,Zao,Zaw,Zau,ZaF,ZaT,ZaO,ZaU,ZaW,ZaA,ZaV,XK,XY,Xi,Xo,XH,Zae,viewAs,Zar,Zai,Zal,Zs,XN,Wl,XR,Xm,Xf]
   exact ih
  | cons y ys =>
   rw [hids] at ih hXl
   have hXp:0 < (y::ys).length:=by simp
   have hXq:∀ z:AVal,0 < (y::ys++[z]).length:=fun z=>by simp
   rw [ZiS _ _ (hXq _),ZfH (hXq _)] at ih
   rw [ZiS _ _ hXp,ZfH hXp]
   generalize y::ys=X at *
   have k2:(X.length+1)*64<=140737488355328:=by omega
   simp only [Xy,Xx,XA,XF] at ih
   simp -implicitDefEqProofs only [EQA,ZG,ZF,ZK,ZH,ZJ,ZD,ZQ,ZR,ZP,ZS,ZM,ZL,ZO,ZT,ZN,implies_true,forall_const,Xp,Xq,Xt,Xf,Xg,Xr,Xm,ZA,ZI,unA,Zt,Zx,unG,reduceCtorEq,Zk,decide_eq_true_eq,Xh,Xc,ite_self,↓reduceIte,Zv,ZB,gcT,gcA,Zj,Zf,Zd,Zg,Zm,Zb,Zn,Zh,Zp,Xe,Zfa,Zd7,Zfp,Ze1,ZdZ,ZeQ,ZdY,Zw,Zl,Zo,Zc,Zz,ZE,h1,h2,hl,e1,hw,hW,hk,k2,Z6,AVal.cells,Zy,Xi,Xo,ZaE,ZaK,Zba,ZaI,X2,X8,Xi,Xo,Xx,XA,Za2,Za5,Za4,Za1,Za7,XC,XG,Zao,Zaw,Zau,ZaF,ZaT,ZaO,ZaU,ZaW,ZaA,ZaV,XK,XY,Xi,Xo,XH,Zae,viewAs,Zar,Zai,Zal,Zs,XN,Wl,XR,Xm,Xf]
   exact ih
theorem Zy7 (hits:List Zan):E 7 [.lst false (hits.map ZU)] []=some (ZcD ((Zcg hits).map ZU),Zci 7 ((Zcg hits).map ZU)):=by
 have h:=Znh hits (hits.take 30) 0 [] rfl (by simp) (by simp)
 have z:((0:Nat):Int)=0:=rfl
 rw [z,Wa,X0,Ze4] at h
 change _=some (ZcD ((Zcg hits).map ZU),Zci 7 ((Zcg hits).map ZU)) at h
 unfold hcT at h
 generalize hits.map ZU=S at *
 unfold ZgN at h
 rw [Zez (by rfl) Zvx]
 simp -implicitDefEqProofs only [EQA,ZG,ZF,ZK,ZH,ZJ,ZD,ZQ,ZR,ZP,ZS,ZM,ZL,ZO,ZT,ZN,implies_true,forall_const,Xp,Xq,Xt,Xf,Xg,Xr,Xm,ZA,ZI,unA,Zt,Zx,unG,reduceCtorEq,Zk,decide_eq_true_eq,Xh,Xc,ite_self,↓reduceIte,Zv,ZB,gcT,gcA,Zj,Zf,Zd,Zg,Zm,Zb,Zn,Zh,Zp,Xe,Zfa,Zd7,Zfp,Ze1,ZdZ,ZeQ,ZdY,Zw,Zl,Zo,Zc,Zz,ZE,AVal.cells]
 exact h
theorem Zy9 (hits:List Zan) (σ:Za) (sq own:Nat):Z7 E BY σ sq 7 own true [.lst false (hits.map ZU)]=some (.lst false ((Zcg hits).map ZU),σ,{}) :=
 ZjY (Zy7 hits) (by kernel_rfl) rfl rfl σ sq own
theorem Zmj (n:Z3) (hn:ZdK n) (hits:List Zan) (hN:hits.length<=600000000) (σ:Za) (sq own:Nat):Z7 ER BY σ sq 8 own true [.agg [.str n.topic,.lst false (n.payload.map Zr),.int .i64 n.qos,.bool n.retain,.str n.sender,.int .i64 n.expires,.lst false (n.props.map Zc),.int .i64 n.origin,.int .i64 n.number,.int .i64 n.hops],.lst false (hits.map ZU)]=some (.lst false ((Zb2 n hits).map (Z2 n)),σ,{}) :=
 ZjY (Zwe n hn hits hN) (by kernel_rfl) rfl rfl σ sq own
end
section
def Zbx (n:Z3) (c:ZC) (hits:List Zan):List Zap:=(hits.filter fun h=>ZbB n h && h.client == c).map (·.sub)
theorem Zfg {β:Type} (c k:ZC) (l:β) (G:List (ZC×β)):((k,l)::G).lookup c=if c=k then some l else G.lookup c:=by
 rw [XK]
 by_cases e:c=k
 ·subst e;simp
 ·have : (c == k)=false:=by simpa using e
  rw [this,if_neg e]
theorem Zk5 (c s) (c':ZC):∀ G:Grp,(ZbI G c s).lookup c'=if c'=c then some ((G.lookup c).getD []++[s]) else G.lookup c'
 | []=>by simp only [ZbI,Zfg,XY,Option.getD_none,Wa]
 | (k,l)::G=>by
  have ih:=Zk5 c s c' G
  unfold ZbI
  by_cases h:c=k
  ·subst h
   rw [if_pos rfl,Zfg,Zfg,Zfg,if_pos rfl]
   by_cases e:c'=c
   ·rw [if_pos e,if_pos e];rfl
   ·rw [if_neg e,if_neg e,if_neg e]
  ·rw [if_neg h,Zfg,Zfg,Zfg,if_neg h,ih]
   by_cases e:c'=k
   ·subst e
    have hne:c'≠c:=fun e=>h e.symm
    rw [if_pos rfl,if_neg hne,if_pos rfl]
   ·rw [if_neg e,if_neg e]
theorem Zlf (n:Z3) (c:ZC) (x:Zan) (r:List Zan):Zbx n c (x::r)=if ZbB n x && x.client == c then x.sub::Zbx n c r else Zbx n c r:=by
 unfold Zbx
 rw [List.filter_cons]
 split <;> rfl
theorem Zkl (n:Z3) (c:ZC):∀ (hits:List Zan) (G:Grp),(Zcr n G hits).lookup c=if (G.lookup c).isNone && (Zbx n c hits).isEmpty then none else some ((G.lookup c).getD []++Zbx n c hits)
 | [],G=>by
  show G.lookup c=_
  cases h:G.lookup c <;> simp [Zbx]
 | x::r,G=>by
  have ih:=Zkl n c r (if ZbB n x then ZbI G x.client x.sub else G)
  show (Zcr n (if ZbB n x then ZbI G x.client x.sub else G) r).lookup c=_
  rw [ih,Zlf]
  by_cases hw:ZbB n x=true
  ·rw [if_pos hw,Zk5,hw,XaE]
   by_cases e:c=x.client
   ·subst e
    simp
   ·have e':(x.client == c)=false:=by simpa using fun h=>e h.symm
    rw [if_neg e,e']
    simp
  ·rw [if_neg hw]
   have : (ZbB n x && x.client == c)=false:=by rw [Bool.and_eq_false_iff];exact Xw (by simpa using hw)
   rw [this,if_neg Bool.false_ne_true]
theorem Zpx {β:Type} {G:List (ZC×β)} {c:ZC}:c ∈ G.map (·.1)↔(G.lookup c).isSome:=by
 induction G with
 | nil=>simp
 | cons p G ih =>
  obtain ⟨k,l⟩:=p
  rw [Xu,XL,XK]
  by_cases e:c=k
  ·subst e;simp
  ·have : (c == k)=false:=by simpa using e
   simp [this,e,ih]
def Zee (n:Z3) (hits:List Zan):List ZC:=(Zcr n [] hits).map (·.1)
theorem ZjR (n:Z3) (hits:List Zan) (c:ZC):c ∈ Zee n hits↔Zbx n c hits≠[]:=by
 unfold Zee
 rw [Zpx,Zkl]
 cases h:Zbx n c hits <;> simp
theorem ZyT (n:Z3) (hits:List Zan):(Zee n hits).Nodup:=(Zht n hits [] 0 ⟨by simp,by simp,by simp⟩).nd
theorem ZiO (n:Z3) (hits:List Zan):Zb2 n hits=(Zdo (Zee n hits)).map fun c=>(c,Zbx n c hits):=by
 unfold Zb2 ZcU
 apply List.map_congr_left
 intro c hc
 have hc:=(ZjR n hits c).1 ((Zeq _).mem_iff.1 hc)
 rw [Zkl]
 cases h:Zbx n c hits with
 | nil=>exact absurd h hc
 | cons s l=>simp
theorem Zk3:∀ (l:List Zap) (q:Int),(q<=byQ q l/\∀ s ∈ l,s.qos<=byQ q l)/\(byQ q l=q\/∃ s ∈ l,s.qos=byQ q l)
 | [],q=>⟨⟨Int.le_refl _,by simp⟩,Xw rfl⟩
 | s::l,q=>by
  obtain ⟨⟨h1,h2⟩,h3⟩:=Zk3 l (Zbz q s.qos)
  have e:byQ q (s::l)=byQ (Zbz q s.qos) l:=rfl
  rw [e]
  have hm:q<=Zbz q s.qos/\s.qos<=Zbz q s.qos/\(Zbz q s.qos=q\/Zbz q s.qos=s.qos):=by unfold Zbz;split <;> omega
  refine ⟨⟨by omega,?_⟩,?_⟩
  ·intro x hx
   rcases XL.1 hx with rfl | hx
   ·omega
   ·exact h2 x hx
  ·rcases h3 with h3 | ⟨x,hx,h3⟩
   ·rcases hm.2.2 with h | h
    ·exact Xw (by omega)
    ·exact XE ⟨s,by simp,by omega⟩
   ·exact XE ⟨x,by simp [hx],h3⟩
def Zei (l:List Zap):Int:=byQ ((l.map (·.qos)).headD 0) l
theorem Zq6 {l:List Zap} (hl:l≠[]):(∀ s ∈ l,s.qos<=Zei l)/\∃ s ∈ l,s.qos=Zei l:=by
 cases l with
 | nil=>exact absurd rfl hl
 | cons s l =>
  obtain ⟨⟨h1,h2⟩,h3⟩:=Zk3 (s::l) s.qos
  refine ⟨h2,?_⟩
  rcases h3 with h3 | h3
  ·exact ⟨s,by simp,h3.symm⟩
  ·exact h3
theorem Zk2 (n:Z3):∀ (l:List Zap) (k:Bool),byK n k l=(k || (n.retain && l.any (·.asPublished)))
 | [],k=>by simp [byK]
 | s::l,k=>by
  have ih:=Zk2 n l (Zfy n k s)
  show byK n (Zfy n k s) l=_
  rw [ih]
  unfold Zfy
  cases k <;> cases n.retain <;> simp
end
section
theorem Zv5 {l:List Int} (h:l.Pairwise (·<=·)):Zb7 l=l:=by
 unfold Zb7
 have ht:∀ a b c:Int,decide (a<=b)=true->decide (b<=c)=true->decide (a<=c)=true:=by intro a b c;simp only [decide_eq_true_eq];omega
 have hto:∀ a b:Int,(decide (a<=b) || decide (b<=a))=true:=by intro a b;simp only [Bool.or_eq_true,decide_eq_true_eq];omega
 refine (List.mergeSort_perm l _).eq_of_pairwise (le:=fun a b:Int=>decide (a<=b)=true) (fun a b _ _ h1 h2=>by simp only [decide_eq_true_eq] at h1 h2;omega) (List.pairwise_mergeSort ht hto l) (h.imp fun h=>by simpa using h)
def wkN:Z3:=⟨[],[],2,false,[120],0,[],0,0,0⟩
def wkH:List Zan:=[⟨[120],⟨[],0,true,false,0,0⟩⟩,⟨[121],⟨[],1,false,false,0,7⟩⟩,⟨[121],⟨[],0,false,false,0,3⟩⟩]
def wkS:List Zap:=[⟨[],1,false,false,0,7⟩,⟨[],0,false,false,0,3⟩]
theorem ZwA:(Zb2 wkN wkH).map (Z2 wkN)=[Z2 wkN ([121],wkS)]:=by
 have : Zb2 wkN wkH=[([121],wkS)]:=by
  unfold Zb2
  have : Zcr wkN [] wkH=[([121],wkS)]:=by decide
  rw [this]
  unfold ZcU Zdo
  simp
 rw [this];rfl
theorem Ztc:byI wkN wkS=⟨wkN,1,false,[3,7],[]⟩:=by
 have h:Zb7 (ZbR wkS)=[3,7]:=by
  rw [show ZbR wkS=[7,3] by decide]
  rw [Zz8 (List.Perm.swap (3:Int) 7 []),Zv5 (by simp)]
 unfold byI
 rw [h]
 rfl
theorem Zz0:ER 9 [] []=some (.bool true,[]):=by
 have hP:=fun σ sq own=>Zmj wkN ⟨by decide,by decide,by simp [wkN]⟩ wkH (by decide) σ sq own
 rw [ZwA] at hP
 have hg:Z2 wkN ([121],wkS)=.agg [.str [121],.str [],.lst false [],.int .i64 2,.bool false,.str [120],.int .i64 0,.lst false [],.int .i64 0,.int .i64 0,.int .i64 0,.int .i64 1,.bool false,.lst false [.int .i64 3,.int .i64 7],.str []]:=by
  unfold Z2
  rw [Ztc];rfl
 rw [hg] at hP
 have hP':∀ (σ:Za) (sq own:Nat),Z7 ER BY σ sq 8 own true [.agg [.str [],.lst true [],.int .i64 2,.bool false,.str [120],.int .i64 0,.lst true [],.int .i64 0,.int .i64 0,.int .i64 0],.lst true (wkH.map ZU)]=some (.lst false [.agg [.str [121],.str [],.lst false [],.int .i64 2,.bool false,.str [120],.int .i64 0,.lst false [],.int .i64 0,.int .i64 0,.int .i64 0,.int .i64 1,.bool false,.lst false [.int .i64 3,.int .i64 7],.str []]],σ,{}):=by
  intro σ sq own
  have:=hP σ sq own
  rw [ZeJ (by kernel_rfl) (by rfl)] at this ⊢
  exact this
 simp only [wkH,Xu,X0,ZU] at hP'
 have n1:((1:Nat):Int)=1:=rfl
 have n2:((2:Nat):Int)=2:=rfl
 have i1:∀ (σ:Za) (cs:List AVal),cs.length=15->ZaN σ 15 (.lst false [.agg cs]) (.int .i64 0)=some (.iptr cs 0,σ,{}):=fun σ cs h=>by simp [ZaN,AVal.cells,h]
 have i2:∀ (σ:Za) (a b:AVal),a.cells.length=1->ZaN σ 1 (.lst false [a,b]) (.int .i64 0)=some (.iptr a.cells 0,σ,{}):=fun σ a b h=>by simp [ZaN,h]
 rw [ZlG (by rfl) Zpd]
 simp -implicitDefEqProofs only [EQA,ZG,ZF,ZK,ZH,ZJ,ZD,ZQ,ZR,ZP,ZS,ZM,ZL,ZO,ZT,ZN,implies_true,forall_const,Xp,Xq,Xt,Xf,Xg,Xr,Xm,ZA,ZI,unA,Zt,Zx,unG,reduceCtorEq,Zk,decide_eq_true_eq,Xh,Xc,ite_self,↓reduceIte,Zv,ZB,gcT,gcA,Zj,Zf,Zd,Zg,Zm,Zb,Zn,Zh,Zp,Xe,ZoK,ZjE,Zx7,Zw,Zl,Zo,Zc,Zz,ZE,hP',n1,n2,i1,i2,Z6,Zbe,AVal.cells,Int.reduceBEq,Xx,XA,Xp,Zae,kOk,viewAs,Zar,Zai,Zal,Zs,XN,Wl]
theorem ZwS (σ:Za) (sq own:Nat) (view:Bool):Z7 ER BY σ sq 9 own view []=some (.bool true,σ,{}) :=
 ZjT Zz0 (by kernel_rfl) rfl rfl rfl (fun _=>rfl) σ sq own view
end
section
end
section
theorem ZvC (p:ZeF):(ZdG p).length<=7/\∀ x ∈ ZdG p,x.data.length<=30:=by
 unfold ZdG Zeo
 refine ⟨?_,?_⟩
 ·simp only [Xy,XP,X3]
  repeat' split
  all_goals simp only [Xy,Xx,XA]
  all_goals omega
 ·intro x hx
  rcases Xv.1 hx with hx | hx
  ·rcases Xv.1 hx with hx | hx
   ·split at hx
    ·simp only [XZ] at hx;subst hx;simp
    ·simp at hx
   ·rcases Xv.1 hx with hx | hx
    ·split at hx
     ·simp only [XZ] at hx;subst hx;simp
     ·simp at hx
    ·split at hx
     ·simp only [XZ] at hx;subst hx;simp only [X3];omega
     ·simp at hx
  ·obtain ⟨c,_,rfl⟩:=XJ.1 hx
   simp [Zeb]
theorem ZzJ (m:Zdu):ZdK (ZaX m).note:=by
 obtain ⟨h1,h2⟩:=ZvC m.p
 refine ⟨?_,?_,?_⟩
 ·show (m.payload.take 300).length<=_
  rw [X3];omega
 ·show (ZdG m.p).length<=_
  omega
 ·intro p hp
  have:=h2 p hp
  omega
theorem Zvp (hits:List Zan):(Zcg hits).length<=30:=by
 unfold Zcg;rw [XP,X3];omega
theorem Zmp (n:Z3) (hits:List Zan):(Zb2 n hits).length<=hits.length:=by
 unfold Zb2
 rw [Zi5]
 have:=(Zht n hits [] 0 ⟨by simp,by simp,by simp⟩).len
 simpa using this
end
section
def ZiM:=xwR ZgX Zbr rfl
def Zd6:=xwR Zg0 Zbt rfl
def Zgu:=xwR Zhv Zbm rfl
def Zjg:=xwR ZhL Zbk rfl
def ZoS:=xwR Ziz Zbs rfl
def Zhq:=xwR ZjF Zbu rfl
def Zhb:=xwR Zik Zbo rfl
def ZwV:=xwR ZjU Zbn rfl
def ZlT:=xwR Zkb Zbw rfl
def Znd:=xwR ZiA Zbv rfl
def Zcq (n:Z3) (b:Int) (s:Zap):Int:=Zbz b (Zbq n.qos (Zbz 0 s.qos))
def Zd5 (k:Int) (s:Zap):Int:=if s.id != 0 then k+1 else k
theorem Zhs (n:Z3) (H:List Zan) (hH:H.length<=1000) (P:Grp) (i:Nat) (c:ZC) (it:List AVal) (hit:it.length=14) (hc:∀ (σ:Za) (b:Bool) (kk:IntKind),ZaN σ 15 (.lst b (P.map (Z2 n))) (.int kk (i:Int))=some (.iptr (.str c::it) 0,σ,{})) :
  ∀ (r:List Zan) (k:Nat) (best ids:Int),H.drop k=r->k<=H.length->0<=ids/\ids<=k ->
  evL FC PRR BY 0 [10,9,8,7,6,5,1] Zg0 [(10,.int .i64 (k:Int)),(9,.int .i64 ids),(8,.int .i64 best),(7,.int .i64 (i:Int)),(6,.lst false (P.map (Z2 n))),(5,.ref 0 0),(1,.lst false (H.map ZU))] [.var [.str n.topic,.lst false (n.payload.map Zr),.int .i64 n.qos,.bool n.retain,.str n.sender,.int .i64 n.expires,.lst false (n.props.map Zc),.int .i64 n.origin,.int .i64 n.number,.int .i64 n.hops]] =
   some (.exit 2,[(80,.bool false),(10,.int .i64 (H.length:Int)),(9,.int .i64 ((Zbx n c r).foldl Zd5 ids)),(8,.int .i64 ((Zbx n c r).foldl (Zcq n) best)),(7,.int .i64 (i:Int)),(6,.lst false (P.map (Z2 n))),(5,.ref 0 0),(1,.lst false (H.map ZU))],[.var [.str n.topic,.lst false (n.payload.map Zr),.int .i64 n.qos,.bool n.retain,.str n.sender,.int .i64 n.expires,.lst false (n.props.map Zc),.int .i64 n.origin,.int .i64 n.number,.int .i64 n.hops]])
 | [],k,best,ids,h,hk,hi=>by
  have : H.length<=k:=WD.1 h
  obtain rfl:k=H.length:=by omega
  have h0:¬(H.length:Int) < (H.length:Int):=by omega
  have hL:(H.map ZU).length=H.length:=by simp
  rw [show Zbx n c []=[] from rfl,List.foldl_nil,List.foldl_nil]
  clear hc
  generalize P.map (Z2 n)=L at *
  generalize H.map ZU=S at *
  generalize n.payload.map Zr=L1 at *
  generalize n.props.map Zc=L2 at *
  rw [Za6]
  simp -implicitDefEqProofs only [EQA,ZG,ZF,ZK,ZH,ZJ,ZD,ZQ,ZR,ZP,ZS,ZM,ZL,ZO,ZT,ZN,implies_true,forall_const,Xp,Xq,Xt,Xf,Xg,Xr,Xm,ZA,ZI,unA,Zt,Zx,unG,reduceCtorEq,Zk,decide_eq_true_eq,Xh,Xc,ite_self,↓reduceIte,Zv,ZB,gcT,gcA,Zj,Zf,Zd,Zg,Zm,Zb,Zn,Zh,Zp,Xe,ZbO,ZbC,ZbS,ZbM,Zbs,ZbP,Zbu,ZbN,Zbo,ZbV,Zbk,ZbL,Zbm,ZbY,Zbn,ZbK,Zbw,ZbH,Zbv,ZbT,Zbt,ZbU,Zbr,Zw,Zl,Zo,Zc,Zz,ZE,Zd6,h0,hL]
 | h::r,k,best,ids,hd,hk,hi=>by
  obtain ⟨g1,d1,l1⟩:=ZcI hd
  have h0:(k:Int) < (H.length:Int):=by omega
  have hw:=Zg6 (i:=k) h0 (by omega)
  have hL:(H.map ZU).length=H.length:=by simp
  have e1:∀ (σ:Za) (b:Bool) (kk:IntKind),ZaN σ 7 (.lst b (H.map ZU)) (.int kk (k:Int))=some (.iptr [.str h.client,.str h.sub.filter,.int .i64 h.sub.qos,.bool h.sub.noLocal,.bool h.sub.asPublished,.int .i64 h.sub.handling,.int .i64 h.sub.id] 0,σ,{}):=fun σ b kk=>iad g1 ZU (k:=7) rfl σ b kk
  have hwi:IntKind.i64.wrap (ids+1)=ids+1:=ZcZ (by omega) (by omega)
  rw [Zlf]
  by_cases hcl:h.client=c
  ·have hc1:(h.client == c)=true:=by simp [hcl]
   by_cases hwn:ZbB n h=true
   ·have hwc:(ZbB n h && h.client == c)=true:=by simp [hwn,hcl]
    rw [if_pos hwc,Xaq,Xaq]
    have ih:=Zhs n H hH P i c it hit hc r (k+1) (Zcq n best h.sub) (Zd5 ids h.sub) d1 (by omega) (by unfold Zd5;split <;> omega)
    unfold Zcq Zbz Zbq Zd5 at ih ⊢
    generalize (Zbx n c r).foldl (Zcq n) _=B at *
    generalize (Zbx n c r).foldl Zd5 _=C at *
    clear hd g1 d1
    generalize P.map (Z2 n)=L at *
    generalize H.map ZU=S at *
    generalize n.payload.map Zr=L1 at *
    generalize n.props.map Zc=L2 at *
    rw [Za6]
    unfold ZbB at hwn
    have hgt:∀ a b:Int,(b > a)=(a < b):=fun _ _=>rfl
    cases hnl:h.sub.noLocal with
    | false =>
     rw [hnl] at e1
     by_cases hid:h.sub.id=0
     ·have hid1:(h.sub.id != 0)=false:=by simp [hid]
      rw [hid1] at ih ⊢
      simp only [Xz,if_false] at ih ⊢
      simp -implicitDefEqProofs only [EQA,ZG,ZF,ZK,ZH,ZJ,ZD,ZQ,ZR,ZP,ZS,ZM,ZL,ZO,ZT,ZN,implies_true,forall_const,Xp,Xq,Xt,Xf,Xg,Xr,Xm,ZA,ZI,unA,Zt,Zx,unG,reduceCtorEq,Zk,decide_eq_true_eq,Xh,Xc,ite_self,↓reduceIte,Zv,ZB,gcT,gcA,Zj,Zf,Zd,Zg,Zm,Zb,Zn,Zh,Zp,Xe,ZbO,ZbC,ZbS,ZbM,Zbs,ZbP,Zbu,ZbN,Zbo,ZbV,Zbk,ZbL,Zbm,ZbY,Zbn,ZbK,Zbw,ZbH,Zbv,ZbT,Zbt,ZbU,Zbr,Zw,Zl,Zo,Zc,Zz,ZE,hid,Zd6,h0,hw,hL,e1,hc,hc1,hwi,Z6,AVal.cells,Zy,Xi,Xo,bne,Wj,Wp,ZaE,ZaK,Zba,ZaI,X2,X8,Xi,Xo,Xx,XA,Za2,Za5,Za4,Za1,Za7,XC,XG,Zao,Zaw,Zau,ZaF,ZaT,ZaO,ZaU,ZaW,ZaA,ZaV,XK,XY,Xi,Xo,XH]
      exact ih
     ·have hid1:(h.sub.id != 0)=true:=by simp [hid]
      have hid2:(h.sub.id == 0)=false:=by simpa using hid
      rw [hid1] at ih ⊢
      simp only [if_true] at ih ⊢
      simp -implicitDefEqProofs only [EQA,ZG,ZF,ZK,ZH,ZJ,ZD,ZQ,ZR,ZP,ZS,ZM,ZL,ZO,ZT,ZN,implies_true,forall_const,Xp,Xq,Xt,Xf,Xg,Xr,Xm,ZA,ZI,unA,Zt,Zx,unG,reduceCtorEq,Zk,decide_eq_true_eq,Xh,Xc,ite_self,↓reduceIte,Zv,ZB,gcT,gcA,Zj,Zf,Zd,Zg,Zm,Zb,Zn,Zh,Zp,Xe,ZbO,ZbC,ZbS,ZbM,Zbs,ZbP,Zbu,ZbN,Zbo,ZbV,Zbk,ZbL,Zbm,ZbY,Zbn,ZbK,Zbw,ZbH,Zbv,ZbT,Zbt,ZbU,Zbr,Zw,Zl,Zo,Zc,Zz,ZE,hid2,Zd6,h0,hw,hL,e1,hc,hc1,hwi,Z6,AVal.cells,Zy,Xi,Xo,bne,Wj,Wp,ZaE,ZaK,Zba,ZaI,X2,X8,Xi,Xo,Xx,XA,Za2,Za5,Za4,Za1,Za7,XC,XG,Zao,Zaw,Zau,ZaF,ZaT,ZaO,ZaU,ZaW,ZaA,ZaV,XK,XY,Xi,Xo,XH]
      exact ih
    | true =>
     rw [hnl] at e1 hwn
     by_cases hse:n.sender=[]
     ·have hs1:(n.sender == [])=true:=by simp [hse]
      by_cases hid:h.sub.id=0
      ·have hid1:(h.sub.id != 0)=false:=by simp [hid]
       rw [hid1] at ih ⊢
       simp only [Xz,if_false] at ih ⊢
       simp -implicitDefEqProofs only [EQA,ZG,ZF,ZK,ZH,ZJ,ZD,ZQ,ZR,ZP,ZS,ZM,ZL,ZO,ZT,ZN,implies_true,forall_const,Xp,Xq,Xt,Xf,Xg,Xr,Xm,ZA,ZI,unA,Zt,Zx,unG,reduceCtorEq,Zk,decide_eq_true_eq,Xh,Xc,ite_self,↓reduceIte,Zv,ZB,gcT,gcA,Zj,Zf,Zd,Zg,Zm,Zb,Zn,Zh,Zp,Xe,ZbO,ZbC,ZbS,ZbM,Zbs,ZbP,Zbu,ZbN,Zbo,ZbV,Zbk,ZbL,Zbm,ZbY,Zbn,ZbK,Zbw,ZbH,Zbv,ZbT,Zbt,ZbU,Zbr,Zw,Zl,Zo,Zc,Zz,ZE,hid,hs1,Zd6,h0,hw,hL,e1,hc,hc1,hwi,Z6,AVal.cells,Zy,Xi,Xo,bne,Wj,Wp,ZaE,ZaK,Zba,ZaI,X2,X8,Xi,Xo,Xx,XA,Za2,Za5,Za4,Za1,Za7,XC,XG,Zao,Zaw,Zau,ZaF,ZaT,ZaO,ZaU,ZaW,ZaA,ZaV,XK,XY,Xi,Xo,XH]
       exact ih
      ·have hid1:(h.sub.id != 0)=true:=by simp [hid]
       have hid2:(h.sub.id == 0)=false:=by simpa using hid
       rw [hid1] at ih ⊢
       simp only [if_true] at ih ⊢
       simp -implicitDefEqProofs only [EQA,ZG,ZF,ZK,ZH,ZJ,ZD,ZQ,ZR,ZP,ZS,ZM,ZL,ZO,ZT,ZN,implies_true,forall_const,Xp,Xq,Xt,Xf,Xg,Xr,Xm,ZA,ZI,unA,Zt,Zx,unG,reduceCtorEq,Zk,decide_eq_true_eq,Xh,Xc,ite_self,↓reduceIte,Zv,ZB,gcT,gcA,Zj,Zf,Zd,Zg,Zm,Zb,Zn,Zh,Zp,Xe,ZbO,ZbC,ZbS,ZbM,Zbs,ZbP,Zbu,ZbN,Zbo,ZbV,Zbk,ZbL,Zbm,ZbY,Zbn,ZbK,Zbw,ZbH,Zbv,ZbT,Zbt,ZbU,Zbr,Zw,Zl,Zo,Zc,Zz,ZE,hid2,hs1,Zd6,h0,hw,hL,e1,hc,hc1,hwi,Z6,AVal.cells,Zy,Xi,Xo,bne,Wj,Wp,ZaE,ZaK,Zba,ZaI,X2,X8,Xi,Xo,Xx,XA,Za2,Za5,Za4,Za1,Za7,XC,XG,Zao,Zaw,Zau,ZaF,ZaT,ZaO,ZaU,ZaW,ZaA,ZaV,XK,XY,Xi,Xo,XH]
       exact ih
     ·have hs1:(n.sender == [])=false:=by simpa using hse
      have hs2:(n.sender == h.client)=false:=by
       rw [beq_eq_false_iff_ne]
       intro e
       simp [hse,e.symm] at hwn
      by_cases hid:h.sub.id=0
      ·have hid1:(h.sub.id != 0)=false:=by simp [hid]
       rw [hid1] at ih ⊢
       simp only [Xz,if_false] at ih ⊢
       simp -implicitDefEqProofs only [EQA,ZG,ZF,ZK,ZH,ZJ,ZD,ZQ,ZR,ZP,ZS,ZM,ZL,ZO,ZT,ZN,implies_true,forall_const,Xp,Xq,Xt,Xf,Xg,Xr,Xm,ZA,ZI,unA,Zt,Zx,unG,reduceCtorEq,Zk,decide_eq_true_eq,Xh,Xc,ite_self,↓reduceIte,Zv,ZB,gcT,gcA,Zj,Zf,Zd,Zg,Zm,Zb,Zn,Zh,Zp,Xe,ZbO,ZbC,ZbS,ZbM,Zbs,ZbP,Zbu,ZbN,Zbo,ZbV,Zbk,ZbL,Zbm,ZbY,Zbn,ZbK,Zbw,ZbH,Zbv,ZbT,Zbt,ZbU,Zbr,Zw,Zl,Zo,Zc,Zz,ZE,hid,hs1,hs2,Zd6,h0,hw,hL,e1,hc,hc1,hwi,Z6,AVal.cells,Zy,Xi,Xo,bne,Wj,Wp,ZaE,ZaK,Zba,ZaI,X2,X8,Xi,Xo,Xx,XA,Za2,Za5,Za4,Za1,Za7,XC,XG,Zao,Zaw,Zau,ZaF,ZaT,ZaO,ZaU,ZaW,ZaA,ZaV,XK,XY,Xi,Xo,XH]
       exact ih
      ·have hid1:(h.sub.id != 0)=true:=by simp [hid]
       have hid2:(h.sub.id == 0)=false:=by simpa using hid
       rw [hid1] at ih ⊢
       simp only [if_true] at ih ⊢
       simp -implicitDefEqProofs only [EQA,ZG,ZF,ZK,ZH,ZJ,ZD,ZQ,ZR,ZP,ZS,ZM,ZL,ZO,ZT,ZN,implies_true,forall_const,Xp,Xq,Xt,Xf,Xg,Xr,Xm,ZA,ZI,unA,Zt,Zx,unG,reduceCtorEq,Zk,decide_eq_true_eq,Xh,Xc,ite_self,↓reduceIte,Zv,ZB,gcT,gcA,Zj,Zf,Zd,Zg,Zm,Zb,Zn,Zh,Zp,Xe,ZbO,ZbC,ZbS,ZbM,Zbs,ZbP,Zbu,ZbN,Zbo,ZbV,Zbk,ZbL,Zbm,ZbY,Zbn,ZbK,Zbw,ZbH,Zbv,ZbT,Zbt,ZbU,Zbr,Zw,Zl,Zo,Zc,Zz,ZE,hid2,hs1,hs2,Zd6,h0,hw,hL,e1,hc,hc1,hwi,Z6,AVal.cells,Zy,Xi,Xo,bne,Wj,Wp,ZaE,ZaK,Zba,ZaI,X2,X8,Xi,Xo,Xx,XA,Za2,Za5,Za4,Za1,Za7,XC,XG,Zao,Zaw,Zau,ZaF,ZaT,ZaO,ZaU,ZaW,ZaA,ZaV,XK,XY,Xi,Xo,XH]
       exact ih
   ·have hwc:(ZbB n h && h.client == c)=false:=by simp [hwn]
    rw [if_neg (by simp [hwc])]
    have ih:=Zhs n H hH P i c it hit hc r (k+1) best ids d1 (by omega) (by omega)
    generalize (Zbx n c r).foldl (Zcq n) best=B at *
    generalize (Zbx n c r).foldl Zd5 ids=C at *
    clear hd g1 d1
    generalize P.map (Z2 n)=L at *
    generalize H.map ZU=S at *
    generalize n.payload.map Zr=L1 at *
    generalize n.props.map Zc=L2 at *
    rw [Za6]
    have hw3:=hwn
    unfold ZbB at hw3
    have hnl:h.sub.noLocal=true:=by cases hh:h.sub.noLocal <;> simp_all
    have hs1:(n.sender == [])=false:=by cases hh:(n.sender == []) <;> simp_all
    have hs2:(n.sender == h.client)=true:=by cases hh:(h.client != n.sender) <;> simp_all
    rw [hnl] at e1
    simp -implicitDefEqProofs only [EQA,ZG,ZF,ZK,ZH,ZJ,ZD,ZQ,ZR,ZP,ZS,ZM,ZL,ZO,ZT,ZN,implies_true,forall_const,Xp,Xq,Xt,Xf,Xg,Xr,Xm,ZA,ZI,unA,Zt,Zx,unG,reduceCtorEq,Zk,decide_eq_true_eq,Xh,Xc,ite_self,↓reduceIte,Zv,ZB,gcT,gcA,Zj,Zf,Zd,Zg,Zm,Zb,Zn,Zh,Zp,Xe,ZbO,ZbC,ZbS,ZbM,Zbs,ZbP,Zbu,ZbN,Zbo,ZbV,Zbk,ZbL,Zbm,ZbY,Zbn,ZbK,Zbw,ZbH,Zbv,ZbT,Zbt,ZbU,Zbr,Zw,Zl,Zo,Zc,Zz,ZE,hs1,hs2,Zd6,h0,hw,hL,e1,hc,hc1,hwi,Z6,AVal.cells,Zy,Xi,Xo,bne,Wj,Wp,ZaE,ZaK,Zba,ZaI,X2,X8,Xi,Xo,Xx,XA,Za2,Za5,Za4,Za1,Za7,XC,XG,Zao,Zaw,Zau,ZaF,ZaT,ZaO,ZaU,ZaW,ZaA,ZaV,XK,XY,Xi,Xo,XH]
    exact ih
  ·have hc1:(h.client == c)=false:=by simpa using hcl
   have hwc:(ZbB n h && h.client == c)=false:=by simp [hc1]
   rw [if_neg (by simp [hwc])]
   have ih:=Zhs n H hH P i c it hit hc r (k+1) best ids d1 (by omega) (by omega)
   generalize (Zbx n c r).foldl (Zcq n) best=B at *
   generalize (Zbx n c r).foldl Zd5 ids=C at *
   clear hd g1 d1
   generalize P.map (Z2 n)=L at *
   generalize H.map ZU=S at *
   generalize n.payload.map Zr=L1 at *
   generalize n.props.map Zc=L2 at *
   rw [Za6]
   simp -implicitDefEqProofs only [EQA,ZG,ZF,ZK,ZH,ZJ,ZD,ZQ,ZR,ZP,ZS,ZM,ZL,ZO,ZT,ZN,implies_true,forall_const,Xp,Xq,Xt,Xf,Xg,Xr,Xm,ZA,ZI,unA,Zt,Zx,unG,reduceCtorEq,Zk,decide_eq_true_eq,Xh,Xc,ite_self,↓reduceIte,Zv,ZB,gcT,gcA,Zj,Zf,Zd,Zg,Zm,Zb,Zn,Zh,Zp,Xe,ZbO,ZbC,ZbS,ZbM,Zbs,ZbP,Zbu,ZbN,Zbo,ZbV,Zbk,ZbL,Zbm,ZbY,Zbn,ZbK,Zbw,ZbH,Zbv,ZbT,Zbt,ZbU,Zbr,Zw,Zl,Zo,Zc,Zz,ZE,Zd6,h0,hw,hL,e1,hc,hc1,Z6,AVal.cells,Zy,Xi,Xo,bne,Wj,Wp,ZaE,ZaK,Zba,ZaI,X2,X8,Xi,Xo,Xx,XA,Za2,Za5,Za4,Za1,Za7,XC,XG,Zao,Zaw,Zau,ZaF,ZaT,ZaO,ZaU,ZaW,ZaA,ZaV,XK,XY,Xi,Xo,XH]
   exact ih
theorem Zl1 (n:Z3) (H:List Zan) (hH:H.length<=1000) (P:Grp) (hP:P.length<=1000) (k:Nat) (h:Zan) (hk:H[k]?=some h) :
  ∀ (r:Grp) (i:Nat) (f:Bool),P.drop i=r->i<=P.length ->
  evL FC PRR BY 0 [13,12,11,6,5,1] ZhL [(13,.int .i64 (i:Int)),(12,.bool f),(11,.int .i64 (k:Int)),(6,.lst false (P.map (Z2 n))),(5,.ref 0 0),(1,.lst false (H.map ZU))] [.var [.str n.topic,.lst false (n.payload.map Zr),.int .i64 n.qos,.bool n.retain,.str n.sender,.int .i64 n.expires,.lst false (n.props.map Zc),.int .i64 n.origin,.int .i64 n.number,.int .i64 n.hops]] =
   some (.exit 6,[(188,.bool false),(13,.int .i64 (P.length:Int)),(12,.bool (f || r.any fun p=>p.1 == h.client)),(11,.int .i64 (k:Int)),(6,.lst false (P.map (Z2 n))),(5,.ref 0 0),(1,.lst false (H.map ZU))],[.var [.str n.topic,.lst false (n.payload.map Zr),.int .i64 n.qos,.bool n.retain,.str n.sender,.int .i64 n.expires,.lst false (n.props.map Zc),.int .i64 n.origin,.int .i64 n.number,.int .i64 n.hops]])
 | [],i,f,hd,hi=>by
  have : P.length<=i:=WD.1 hd
  obtain rfl:i=P.length:=by omega
  have h0:¬(P.length:Int) < (P.length:Int):=by omega
  have hL:(P.map (Z2 n)).length=P.length:=by simp
  rw [X8,Bool.or_false]
  generalize P.map (Z2 n)=L at *
  generalize H.map ZU=S at *
  generalize n.payload.map Zr=L1 at *
  generalize n.props.map Zc=L2 at *
  rw [Za6]
  simp -implicitDefEqProofs only [EQA,ZG,ZF,ZK,ZH,ZJ,ZD,ZQ,ZR,ZP,ZS,ZM,ZL,ZO,ZT,ZN,implies_true,forall_const,Xp,Xq,Xt,Xf,Xg,Xr,Xm,ZA,ZI,unA,Zt,Zx,unG,reduceCtorEq,Zk,decide_eq_true_eq,Xh,Xc,ite_self,↓reduceIte,Zv,ZB,gcT,gcA,Zj,Zf,Zd,Zg,Zm,Zb,Zn,Zh,Zp,Xe,ZbO,ZbC,ZbS,ZbM,Zbs,ZbP,Zbu,ZbN,Zbo,ZbV,Zbk,ZbL,Zbm,ZbY,Zbn,ZbK,Zbw,ZbH,Zbv,ZbT,Zbt,ZbU,Zbr,Zw,Zl,Zo,Zc,Zz,ZE,Zjg,h0,hL]
 | p::r,i,f,hd,hi=>by
  obtain ⟨g1,d1,l1⟩:=ZcI hd
  have h0:(i:Int) < (P.length:Int):=by omega
  have hw:=Zg6 (i:=i) h0 (by omega)
  have ih:=Zl1 n H hH P hP k h hk r (i+1) (f || p.1 == h.client) d1 (by omega)
  have ea:(f || p.1 == h.client || r.any fun p=>p.1 == h.client)=(f || (p::r).any fun p=>p.1 == h.client):=by rw [X2,Bool.or_assoc]
  rw [ea] at ih
  clear ea
  generalize (f || (p::r).any fun p=>p.1 == h.client)=FF at *
  have hL:(P.map (Z2 n)).length=P.length:=by simp
  have ha:∀ (σ:Za) (b:Bool) (kk:IntKind),ZaN σ 15 (.lst b (P.map (Z2 n))) (.int kk (i:Int))=some (.iptr (.str p.1::ZcO (byI n p.2)) 0,σ,{}):=fun σ b kk=>iad g1 (Z2 n) (k:=15) rfl σ b kk
  have e1:∀ (σ:Za) (b:Bool) (kk:IntKind),ZaN σ 7 (.lst b (H.map ZU)) (.int kk (k:Int))=some (.iptr [.str h.client,.str h.sub.filter,.int .i64 h.sub.qos,.bool h.sub.noLocal,.bool h.sub.asPublished,.int .i64 h.sub.handling,.int .i64 h.sub.id] 0,σ,{}):=fun σ b kk=>iad hk ZU (k:=7) rfl σ b kk
  clear hd g1 d1
  generalize ZcO (byI n p.2)=it at *
  generalize P.map (Z2 n)=L at *
  generalize H.map ZU=S at *
  generalize n.payload.map Zr=L1 at *
  generalize n.props.map Zc=L2 at *
  rw [Za6]
  cases f with
  | false =>
   rw [Xbb] at ih
   simp -implicitDefEqProofs only [EQA,ZG,ZF,ZK,ZH,ZJ,ZD,ZQ,ZR,ZP,ZS,ZM,ZL,ZO,ZT,ZN,implies_true,forall_const,Xp,Xq,Xt,Xf,Xg,Xr,Xm,ZA,ZI,unA,Zt,Zx,unG,reduceCtorEq,Zk,decide_eq_true_eq,Xh,Xc,ite_self,↓reduceIte,Zv,ZB,gcT,gcA,Zj,Zf,Zd,Zg,Zm,Zb,Zn,Zh,Zp,Xe,ZbO,ZbC,ZbS,ZbM,Zbs,ZbP,Zbu,ZbN,Zbo,ZbV,Zbk,ZbL,Zbm,ZbY,Zbn,ZbK,Zbw,ZbH,Zbv,ZbT,Zbt,ZbU,Zbr,Zw,Zl,Zo,Zc,Zz,ZE,Zjg,h0,hw,hL,ha,e1,Z6,AVal.cells,Zy,Xi,Xo,bne,Wj,Wp,ZaE,ZaK,Zba,ZaI,X2,X8,Xi,Xo,Xx,XA,Za2,Za5,Za4,Za1,Za7,XC,XG,Zao,Zaw,Zau,ZaF,ZaT,ZaO,ZaU,ZaW,ZaA,ZaV,XK,XY,Xi,Xo,XH]
   exact ih
  | true =>
   rw [Xag] at ih
   simp -implicitDefEqProofs only [EQA,ZG,ZF,ZK,ZH,ZJ,ZD,ZQ,ZR,ZP,ZS,ZM,ZL,ZO,ZT,ZN,implies_true,forall_const,Xp,Xq,Xt,Xf,Xg,Xr,Xm,ZA,ZI,unA,Zt,Zx,unG,reduceCtorEq,Zk,decide_eq_true_eq,Xh,Xc,ite_self,↓reduceIte,Zv,ZB,gcT,gcA,Zj,Zf,Zd,Zg,Zm,Zb,Zn,Zh,Zp,Xe,ZbO,ZbC,ZbS,ZbM,Zbs,ZbP,Zbu,ZbN,Zbo,ZbV,Zbk,ZbL,Zbm,ZbY,Zbn,ZbK,Zbw,ZbH,Zbv,ZbT,Zbt,ZbU,Zbr,Zw,Zl,Zo,Zc,Zz,ZE,Zjg,h0,hw,hL,ha,e1,Z6,AVal.cells,Zy,Xi,Xo,bne,Wj,Wp,ZaE,ZaK,Zba,ZaI,X2,X8,Xi,Xo,Xx,XA,Za2,Za5,Za4,Za1,Za7,XC,XG,Zao,Zaw,Zau,ZaF,ZaT,ZaO,ZaU,ZaW,ZaA,ZaV,XK,XY,Xi,Xo,XH]
   exact ih
theorem Zl6 (n:Z3) (H:List Zan) (hH:H.length<=1000) (P:Grp) (hP:P.length<=1000) (hf:∀ h ∈ H,(!ZbB n h || P.any fun p=>p.1 == h.client)=true) :
  ∀ (r:List Zan) (k:Nat),H.drop k=r->k<=H.length ->
  evL FC PRR BY 0 [11,6,5,1] Zhv [(11,.int .i64 (k:Int)),(6,.lst false (P.map (Z2 n))),(5,.ref 0 0),(1,.lst false (H.map ZU))] [.var [.str n.topic,.lst false (n.payload.map Zr),.int .i64 n.qos,.bool n.retain,.str n.sender,.int .i64 n.expires,.lst false (n.props.map Zc),.int .i64 n.origin,.int .i64 n.number,.int .i64 n.hops]] =
   some (.exit 4,[(161,.bool false),(11,.int .i64 (H.length:Int)),(6,.lst false (P.map (Z2 n))),(5,.ref 0 0),(1,.lst false (H.map ZU))],[.var [.str n.topic,.lst false (n.payload.map Zr),.int .i64 n.qos,.bool n.retain,.str n.sender,.int .i64 n.expires,.lst false (n.props.map Zc),.int .i64 n.origin,.int .i64 n.number,.int .i64 n.hops]])
 | [],k,hd,hk=>by
  have : H.length<=k:=WD.1 hd
  obtain rfl:k=H.length:=by omega
  have h0:¬(H.length:Int) < (H.length:Int):=by omega
  have hL:(H.map ZU).length=H.length:=by simp
  clear hf
  generalize P.map (Z2 n)=L at *
  generalize H.map ZU=S at *
  generalize n.payload.map Zr=L1 at *
  generalize n.props.map Zc=L2 at *
  rw [Za6]
  simp -implicitDefEqProofs only [EQA,ZG,ZF,ZK,ZH,ZJ,ZD,ZQ,ZR,ZP,ZS,ZM,ZL,ZO,ZT,ZN,implies_true,forall_const,Xp,Xq,Xt,Xf,Xg,Xr,Xm,ZA,ZI,unA,Zt,Zx,unG,reduceCtorEq,Zk,decide_eq_true_eq,Xh,Xc,ite_self,↓reduceIte,Zv,ZB,gcT,gcA,Zj,Zf,Zd,Zg,Zm,Zb,Zn,Zh,Zp,Xe,ZbO,ZbC,ZbS,ZbM,Zbs,ZbP,Zbu,ZbN,Zbo,ZbV,Zbk,ZbL,Zbm,ZbY,Zbn,ZbK,Zbw,ZbH,Zbv,ZbT,Zbt,ZbU,Zbr,Zw,Zl,Zo,Zc,Zz,ZE,Zgu,h0,hL]
 | h::r,k,hd,hk=>by
  obtain ⟨g1,d1,l1⟩:=ZcI hd
  have h0:(k:Int) < (H.length:Int):=by omega
  have hw:=Zg6 (i:=k) h0 (by omega)
  have hL:(H.map ZU).length=H.length:=by simp
  have ih:=Zl6 n H hH P hP hf r (k+1) d1 (by omega)
  have e1:∀ (σ:Za) (b:Bool) (kk:IntKind),ZaN σ 7 (.lst b (H.map ZU)) (.int kk (k:Int))=some (.iptr [.str h.client,.str h.sub.filter,.int .i64 h.sub.qos,.bool h.sub.noLocal,.bool h.sub.asPublished,.int .i64 h.sub.handling,.int .i64 h.sub.id] 0,σ,{}):=fun σ b kk=>iad g1 ZU (k:=7) rfl σ b kk
  have h24:=fun f=>Zl1 n H hH P hP k h g1 P 0 f rfl (XaZ _)
  have z:((0:Nat):Int)=0:=rfl
  rw [z] at h24
  have hfh:=hf h (Xs g1)
  clear hd g1 d1 hf
  generalize (P.any fun p=>p.1 == h.client)=PA at *
  generalize P.map (Z2 n)=L at *
  generalize H.map ZU=S at *
  generalize n.payload.map Zr=L1 at *
  generalize n.props.map Zc=L2 at *
  rw [Za6]
  unfold ZbB at hfh
  cases hnl:h.sub.noLocal with
  | false =>
   rw [hnl] at e1 hfh
   have hpa:PA=true:=by simpa using hfh
   subst hpa
   simp -implicitDefEqProofs only [EQA,ZG,ZF,ZK,ZH,ZJ,ZD,ZQ,ZR,ZP,ZS,ZM,ZL,ZO,ZT,ZN,implies_true,forall_const,Xp,Xq,Xt,Xf,Xg,Xr,Xm,ZA,ZI,unA,Zt,Zx,unG,reduceCtorEq,Zk,decide_eq_true_eq,Xh,Xc,ite_self,↓reduceIte,Zv,ZB,gcT,gcA,Zj,Zf,Zd,Zg,Zm,Zb,Zn,Zh,Zp,Xe,ZbO,ZbC,ZbS,ZbM,Zbs,ZbP,Zbu,ZbN,Zbo,ZbV,Zbk,ZbL,Zbm,ZbY,Zbn,ZbK,Zbw,ZbH,Zbv,ZbT,Zbt,ZbU,Zbr,Zw,Zl,Zo,Zc,Zz,ZE,Zgu,Zhq,Zhb,h0,hw,hL,e1,h24,XaB,Z6,AVal.cells,Zy,Xi,Xo,bne,Wj,Wp,ZaE,ZaK,Zba,ZaI,X2,X8,Xi,Xo,Xx,XA,Za2,Za5,Za4,Za1,Za7,XC,XG,Zao,Zaw,Zau,ZaF,ZaT,ZaO,ZaU,ZaW,ZaA,ZaV,XK,XY,Xi,Xo,XH]
   exact ih
  | true =>
   rw [hnl] at e1 hfh
   by_cases hse:n.sender=[]
   ·have hs1:(n.sender == [])=true:=by simp [hse]
    have hpa:PA=true:=by simpa [hse] using hfh
    subst hpa
    simp -implicitDefEqProofs only [EQA,ZG,ZF,ZK,ZH,ZJ,ZD,ZQ,ZR,ZP,ZS,ZM,ZL,ZO,ZT,ZN,implies_true,forall_const,Xp,Xq,Xt,Xf,Xg,Xr,Xm,ZA,ZI,unA,Zt,Zx,unG,reduceCtorEq,Zk,decide_eq_true_eq,Xh,Xc,ite_self,↓reduceIte,Zv,ZB,gcT,gcA,Zj,Zf,Zd,Zg,Zm,Zb,Zn,Zh,Zp,Xe,ZbO,ZbC,ZbS,ZbM,Zbs,ZbP,Zbu,ZbN,Zbo,ZbV,Zbk,ZbL,Zbm,ZbY,Zbn,ZbK,Zbw,ZbH,Zbv,ZbT,Zbt,ZbU,Zbr,Zw,Zl,Zo,Zc,Zz,ZE,Zgu,Zhq,Zhb,h0,hw,hL,e1,h24,hs1,XaB,Z6,AVal.cells,Zy,Xi,Xo,bne,Wj,Wp,ZaE,ZaK,Zba,ZaI,X2,X8,Xi,Xo,Xx,XA,Za2,Za5,Za4,Za1,Za7,XC,XG,Zao,Zaw,Zau,ZaF,ZaT,ZaO,ZaU,ZaW,ZaA,ZaV,XK,XY,Xi,Xo,XH]
    exact ih
   ·have hs1:(n.sender == [])=false:=by simpa using hse
    by_cases hcl:n.sender=h.client
    ·have hs2:(n.sender == h.client)=true:=by simp [hcl]
     simp -implicitDefEqProofs only [EQA,ZG,ZF,ZK,ZH,ZJ,ZD,ZQ,ZR,ZP,ZS,ZM,ZL,ZO,ZT,ZN,implies_true,forall_const,Xp,Xq,Xt,Xf,Xg,Xr,Xm,ZA,ZI,unA,Zt,Zx,unG,reduceCtorEq,Zk,decide_eq_true_eq,Xh,Xc,ite_self,↓reduceIte,Zv,ZB,gcT,gcA,Zj,Zf,Zd,Zg,Zm,Zb,Zn,Zh,Zp,Xe,ZbO,ZbC,ZbS,ZbM,Zbs,ZbP,Zbu,ZbN,Zbo,ZbV,Zbk,ZbL,Zbm,ZbY,Zbn,ZbK,Zbw,ZbH,Zbv,ZbT,Zbt,ZbU,Zbr,Zw,Zl,Zo,Zc,Zz,ZE,Zgu,Zhq,Zhb,h0,hw,hL,e1,h24,hs1,hs2,Xag,Z6,AVal.cells,Zy,Xi,Xo,bne,Wj,Wp,ZaE,ZaK,Zba,ZaI,X2,X8,Xi,Xo,Xx,XA,Za2,Za5,Za4,Za1,Za7,XC,XG,Zao,Zaw,Zau,ZaF,ZaT,ZaO,ZaU,ZaW,ZaA,ZaV,XK,XY,Xi,Xo,XH]
     exact ih
    ·have hs2:(n.sender == h.client)=false:=by simpa using hcl
     have hpa:PA=true:=by
      have : (h.client == n.sender)=false:=by rw [beq_eq_false_iff_ne];exact fun e=>hcl e.symm
      simpa [bne,this] using hfh
     subst hpa
     simp -implicitDefEqProofs only [EQA,ZG,ZF,ZK,ZH,ZJ,ZD,ZQ,ZR,ZP,ZS,ZM,ZL,ZO,ZT,ZN,implies_true,forall_const,Xp,Xq,Xt,Xf,Xg,Xr,Xm,ZA,ZI,unA,Zt,Zx,unG,reduceCtorEq,Zk,decide_eq_true_eq,Xh,Xc,ite_self,↓reduceIte,Zv,ZB,gcT,gcA,Zj,Zf,Zd,Zg,Zm,Zb,Zn,Zh,Zp,Xe,ZbO,ZbC,ZbS,ZbM,Zbs,ZbP,Zbu,ZbN,Zbo,ZbV,Zbk,ZbL,Zbm,ZbY,Zbn,ZbK,Zbw,ZbH,Zbv,ZbT,Zbt,ZbU,Zbr,Zw,Zl,Zo,Zc,Zz,ZE,Zgu,Zhq,Zhb,h0,hw,hL,e1,h24,hs1,hs2,XaB,Z6,AVal.cells,Zy,Xi,Xo,bne,Wj,Wp,ZaE,ZaK,Zba,ZaI,X2,X8,Xi,Xo,Xx,XA,Za2,Za5,Za4,Za1,Za7,XC,XG,Zao,Zaw,Zau,ZaF,ZaT,ZaO,ZaU,ZaW,ZaA,ZaV,XK,XY,Xi,Xo,XH]
     exact ih
end
section
theorem ZuI (n:Z3) (H:List Zan) {j:Nat} {p q:ZC×List Zap} (hp:(Zb2 n H)[j]?=some p) (hq:(Zb2 n H)[j+1]?=some q):p.1 < q.1:=by
 rw [ZiO,List.getElem?_map,Option.map_eq_some_iff] at hp hq
 obtain ⟨a,ha,rfl⟩:=hp
 obtain ⟨b,hb,rfl⟩:=hq
 simp only
 have hle:=ZjK (Zee n H)
 have hnd:(Zdo (Zee n H)).Nodup:=(Zeq _).nodup_iff.2 (ZyT n H)
 rw [List.getElem?_eq_some_iff] at ha hb
 obtain ⟨h1,rfl⟩:=ha
 obtain ⟨h2,rfl⟩:=hb
 have h3:=List.pairwise_iff_getElem.1 hle j (j+1) h1 h2 (by omega)
 have h4:=List.pairwise_iff_getElem.1 hnd j (j+1) h1 h2 (by omega)
 rcases Decidable.em ((Zdo (Zee n H))[j] < (Zdo (Zee n H))[j+1]) with h | h
 ·exact h
 ·exact absurd (List.le_antisymm h3 (List.not_lt.1 h)) h4
theorem ZrQ (n:Z3) (hn:0<=n.qos) {l:List Zap} (hl:l≠[]) (hq:∀ s ∈ l,0<=s.qos):l.foldl (Zcq n) (-1)=Zbq n.qos (Zei l):=by
 obtain ⟨t1,s0,t2,t3⟩:=Zq6 hl
 have key:∀ (l:List Zap) (b:Int),(b<=l.foldl (Zcq n) b/\∀ s ∈ l,Zbq n.qos (Zbz 0 s.qos)<=l.foldl (Zcq n) b)/\(l.foldl (Zcq n) b=b\/∃ s ∈ l,l.foldl (Zcq n) b=Zbq n.qos (Zbz 0 s.qos)):=by
  intro l
  induction l with
  | nil=>intro b;simp
  | cons s l ih =>
   intro b
   obtain ⟨⟨h1,h2⟩,h3⟩:=ih (Zcq n b s)
   have hm:b<=Zcq n b s/\Zbq n.qos (Zbz 0 s.qos)<=Zcq n b s/\(Zcq n b s=b\/Zcq n b s=Zbq n.qos (Zbz 0 s.qos)):=by
    unfold Zcq
    generalize Zbq n.qos (Zbz 0 s.qos)=x
    unfold Zbz;split <;> omega
   rw [Xaq]
   refine ⟨⟨by omega,?_⟩,?_⟩
   ·intro x hx
    rcases XL.1 hx with rfl | hx
    ·omega
    ·exact h2 x hx
   ·rcases h3 with h3 | ⟨x,hx,h3⟩
    ·rcases hm.2.2 with h | h
     ·exact Xw (by omega)
     ·exact XE ⟨s,by simp,by omega⟩
    ·exact XE ⟨x,by simp [hx],h3⟩
 obtain ⟨⟨h1,h2⟩,h3⟩:=key l (-1)
 have h0:=h2 s0 t2
 have hs0:=hq s0 t2
 have e0:Zbq n.qos (Zbz 0 s0.qos)=Zbq n.qos (Zei l):=by
  rw [<-t3]
  unfold Zbq Zbz
  split <;> split <;> (try split) <;> omega
 rcases h3 with h3 | ⟨s,hs,h3⟩
 ·have : 0<=Zbq n.qos (Zei l):=by rw [<-t3];unfold Zbq;split <;> omega
  omega
 ·have h4:=t1 s hs
  have h5:=hq s hs
  have : Zbq n.qos (Zbz 0 s.qos)<=Zbq n.qos (Zei l):=by
   unfold Zbq Zbz
   split <;> split <;> (try split) <;> omega
  omega
theorem Zk6:∀ (l:List Zap) (k:Int),l.foldl Zd5 k=k+(ZbR l).length
 | [],k=>by simp [ZbR]
 | s::l,k=>by
  rw [Xaq,Zk6 l,ZmA]
  unfold Zd5
  split
  ·simp;omega
  ·simp
theorem Zlh (n:Z3) (hn:0<=n.qos) (H:List Zan) (hH:H.length<=1000) (hq:∀ h ∈ H,0<=h.sub.qos) (P:Grp) (hPe:P=Zb2 n H) :
  ∀ (r:Grp) (i:Nat),P.drop i=r->i<=P.length ->
  evL FC PRR BY 0 [7,6,5,1] ZgX [(7,.int .i64 (i:Int)),(6,.lst false (P.map (Z2 n))),(5,.ref 0 0),(1,.lst false (H.map ZU))] [.var [.str n.topic,.lst false (n.payload.map Zr),.int .i64 n.qos,.bool n.retain,.str n.sender,.int .i64 n.expires,.lst false (n.props.map Zc),.int .i64 n.origin,.int .i64 n.number,.int .i64 n.hops]] =
   some (.exit 0,[(25,.bool false),(7,.int .i64 (P.length:Int)),(6,.lst false (P.map (Z2 n))),(5,.ref 0 0),(1,.lst false (H.map ZU))],[.var [.str n.topic,.lst false (n.payload.map Zr),.int .i64 n.qos,.bool n.retain,.str n.sender,.int .i64 n.expires,.lst false (n.props.map Zc),.int .i64 n.origin,.int .i64 n.number,.int .i64 n.hops]])
 | [],i,hd,hi=>by
  have : P.length<=i:=WD.1 hd
  obtain rfl:i=P.length:=by omega
  have h0:¬(P.length:Int) < (P.length:Int):=by omega
  have hL:(P.map (Z2 n)).length=P.length:=by simp
  clear hPe
  generalize P.map (Z2 n)=L at *
  generalize H.map ZU=S at *
  generalize n.payload.map Zr=L1 at *
  generalize n.props.map Zc=L2 at *
  rw [Za6]
  simp -implicitDefEqProofs only [EQA,ZG,ZF,ZK,ZH,ZJ,ZD,ZQ,ZR,ZP,ZS,ZM,ZL,ZO,ZT,ZN,implies_true,forall_const,Xp,Xq,Xt,Xf,Xg,Xr,Xm,ZA,ZI,unA,Zt,Zx,unG,reduceCtorEq,Zk,decide_eq_true_eq,Xh,Xc,ite_self,↓reduceIte,Zv,ZB,gcT,gcA,Zj,Zf,Zd,Zg,Zm,Zb,Zn,Zh,Zp,Xe,ZbO,ZbC,ZbS,ZbM,Zbs,ZbP,Zbu,ZbN,Zbo,ZbV,Zbk,ZbL,Zbm,ZbY,Zbn,ZbK,Zbw,ZbH,Zbv,ZbT,Zbt,ZbU,Zbr,Zw,Zl,Zo,Zc,Zz,ZE,ZiM,h0,hL]
 | p::r,i,hd,hi=>by
  obtain ⟨g1,d1,l1⟩:=ZcI hd
  have hPl:P.length<=1000:=by rw [hPe];have:=Zmp n H;omega
  have h0:(i:Int) < (P.length:Int):=by omega
  have hw:=Zg6 (i:=i) h0 (by omega)
  have ih:=Zlh n hn H hH hq P hPe r (i+1) d1 (by omega)
  have hL:(P.map (Z2 n)).length=P.length:=by simp
  have hpm:p ∈ Zb2 n H:=by rw [<-hPe];exact Xs g1
  have hpe:p.2=Zbx n p.1 H/\p.2≠[]:=by
   rw [ZiO] at hpm
   obtain ⟨c,hc,rfl⟩:=XJ.1 hpm
   exact ⟨rfl,(ZjR n H c).1 ((Zeq _).mem_iff.1 hc)⟩
  have hq2:∀ s ∈ p.2,0<=s.qos:=by
   intro s hs
   rw [hpe.1] at hs
   obtain ⟨h,hh,rfl⟩:=XJ.1 hs
   exact hq h (Wr.1 hh).1
  have ha:∀ (σ:Za) (b:Bool) (kk:IntKind),ZaN σ 15 (.lst b (P.map (Z2 n))) (.int kk (i:Int))=some (.iptr (.str p.1::ZcO (byI n p.2)) 0,σ,{}):=fun σ b kk=>iad g1 (Z2 n) (k:=15) rfl σ b kk
  have h11:=Zhs n H hH P i p.1 (ZcO (byI n p.2)) rfl ha H 0 (-1) 0 rfl (XaZ _) (by omega)
  have z:((0:Nat):Int)=0:=rfl
  have hit:ZcO (byI n p.2)=[.str n.topic,.lst false (n.payload.map Zr),.int .i64 n.qos,.bool n.retain,.str n.sender,.int .i64 n.expires,.lst false (n.props.map Zc),.int .i64 n.origin,.int .i64 n.number,.int .i64 n.hops,.int .i64 (Zbq n.qos (Zei p.2)),.bool (n.retain && p.2.any (·.asPublished)),.lst false ((Zb7 (ZbR p.2)).map (AVal.int .i64)),.str []]:=by
   have:=Zk2 n p.2 false
   rw [Xbb] at this
   unfold ZcO byI Zl Zo Zw
   simp only [this]
   rfl
  have hil:((Zb7 (ZbR p.2)).map (AVal.int .i64)).length=(ZbR p.2).length:=by rw [XP,Znb]
  rw [z,<-hpe.1,ZrQ n hn hpe.2 hq2,Zk6,Int.zero_add] at h11
  rw [hit] at ha
  have hmin:¬Zbq n.qos (Zei p.2) > n.qos:=by unfold Zbq;split <;> omega
  generalize (Zb7 (ZbR p.2)).map (AVal.int .i64)=IL at *
  generalize (ZbR p.2).length=IN at *
  generalize Zbq n.qos (Zei p.2)=Q at *
  generalize p.2.any (·.asPublished)=AP at *
  have hbl:∀ q,(Zb2 n H)[i - 1]?=some q->0 < i->Op.bytesLess q.1 p.1=true:=by
   intro q hqq hi0
   have:=ZuI n H (j:=i - 1) hqq (by rw [show i - 1+1=i by omega,<-hPe];exact g1)
   rw [Go.Proofs.bytesLess_eq]
   exact decide_eq_true this
  clear hpm hpe hq2 hit
  cases i with
  | zero =>
   have hlt0:¬(0:Int) > 0:=by omega
   simp only [z] at ha h11 hw ih ⊢
   have h0':(0:Int) < (P.length:Int):=by omega
   clear hd g1 d1 hPe h0 hbl
   generalize P.map (Z2 n)=L at *
   generalize H.map ZU=S at *
   generalize n.payload.map Zr=L1 at *
   generalize n.props.map Zc=L2 at *
   cases hrt:n.retain <;> rw [hrt] at ha h11 ih <;> cases AP
   all_goals
    simp only [XaE,Xam] at ha
    rw [Za6]
    simp -implicitDefEqProofs only [EQA,ZG,ZF,ZK,ZH,ZJ,ZD,ZQ,ZR,ZP,ZS,ZM,ZL,ZO,ZT,ZN,implies_true,forall_const,Xp,Xq,Xt,Xf,Xg,Xr,Xm,ZA,ZI,unA,Zt,Zx,unG,reduceCtorEq,Zk,decide_eq_true_eq,Xh,Xc,ite_self,↓reduceIte,Zv,ZB,gcT,gcA,Zj,Zf,Zd,Zg,Zm,Zb,Zn,Zh,Zp,Xe,ZbO,ZbC,ZbS,ZbM,Zbs,ZbP,Zbu,ZbN,Zbo,ZbV,Zbk,ZbL,Zbm,ZbY,Zbn,ZbK,Zbw,ZbH,Zbv,ZbT,Zbt,ZbU,Zbr,Zw,Zl,Zo,Zc,Zz,ZE,ZiM,ZlT,Znd,h0',hw,hL,ha,h11,hlt0,hmin,hil,Z6,AVal.cells,Zy,Xi,Xo,bne_self_eq_false,Wj,Wp,ZaE,ZaK,Zba,ZaI,X2,X8,Xi,Xo,Xx,XA,Za2,Za5,Za4,Za1,Za7,XC,XG,Zao,Zaw,Zau,ZaF,ZaT,ZaO,ZaU,ZaW,ZaA,ZaV,XK,XY,Xi,Xo,XH]
    exact ih
  | succ j =>
   have hj:j < P.length:=by omega
   obtain ⟨q,hqq⟩:∃ q,P[j]?=some q:=⟨_,List.getElem?_eq_getElem hj⟩
   have hbl2:=hbl q (by rw [<-hPe];exact hqq) (by omega)
   have hgt0:((j+1:Nat):Int) > 0:=by omega
   have hw1:IntKind.i64.wrap (((j+1:Nat):Int) - 1)=(j:Int):=by rw [ZcZ (by omega) (by omega)];omega
   have ha1:∀ (σ:Za) (b:Bool) (kk:IntKind),ZaN σ 15 (.lst b (P.map (Z2 n))) (.int kk (j:Int))=some (.iptr (.str q.1::ZcO (byI n q.2)) 0,σ,{}):=fun σ b kk=>iad hqq (Z2 n) (k:=15) rfl σ b kk
   clear hd g1 d1 hPe hbl hqq
   generalize ZcO (byI n q.2)=it2 at *
   generalize P.map (Z2 n)=L at *
   generalize H.map ZU=S at *
   generalize n.payload.map Zr=L1 at *
   generalize n.props.map Zc=L2 at *
   generalize ((j+1:Nat):Int)=J at *
   cases hrt:n.retain <;> rw [hrt] at ha h11 ih <;> cases AP
   all_goals
    simp only [XaE,Xam] at ha
    rw [Za6]
    simp -implicitDefEqProofs only [EQA,ZG,ZF,ZK,ZH,ZJ,ZD,ZQ,ZR,ZP,ZS,ZM,ZL,ZO,ZT,ZN,implies_true,forall_const,Xp,Xq,Xt,Xf,Xg,Xr,Xm,ZA,ZI,unA,Zt,Zx,unG,reduceCtorEq,Zk,decide_eq_true_eq,Xh,Xc,ite_self,↓reduceIte,Zv,ZB,gcT,gcA,Zj,Zf,Zd,Zg,Zm,Zb,Zn,Zh,Zp,Xe,ZbO,ZbC,ZbS,ZbM,Zbs,ZbP,Zbu,ZbN,Zbo,ZbV,Zbk,ZbL,Zbm,ZbY,Zbn,ZbK,Zbw,ZbH,Zbv,ZbT,Zbt,ZbU,Zbr,Zw,Zl,Zo,Zc,Zz,ZE,ZiM,ZlT,Znd,h0,hw,hw1,hL,ha,ha1,h11,hgt0,hbl2,hmin,hil,Z6,AVal.cells,Zy,Xi,Xo,bne_self_eq_false,Wj,Wp,ZaE,ZaK,Zba,ZaI,X2,X8,Xi,Xo,Xx,XA,Za2,Za5,Za4,Za1,Za7,XC,XG,Zao,Zaw,Zau,ZaF,ZaT,ZaO,ZaU,ZaW,ZaA,ZaV,XK,XY,Xi,Xo,XH]
    exact ih
end
section
theorem Zte (hits:List Zan):∀ h ∈ Zcg hits,0<=h.sub.qos:=by
 intro h hh
 obtain ⟨x,_,rfl⟩:=XJ.1 hh
 have:=Zk1 x.sub.qos
 show 0<=Zcf x.sub.qos 0 2
 omega
theorem Zxs (n:Z3) (H:List Zan):∀ h ∈ H,(!ZbB n h || (Zb2 n H).any fun p=>p.1 == h.client)=true:=by
 intro h hh
 by_cases hw:ZbB n h=true
 ·rw [hw,Wj,Xbb,List.any_eq_true]
  have hk:h.client ∈ Zee n H:=by
   rw [ZjR]
   unfold Zbx
   intro e
   have e:=List.map_eq_nil_iff.1 e
   have : h ∈ H.filter fun x=>ZbB n x && x.client == h.client:=Wr.2 ⟨hh,by simp [hw]⟩
   rw [e] at this;simp at this
  refine ⟨(h.client,Zbx n h.client H),?_,by simp⟩
  rw [ZiO]
  exact XJ.2 ⟨h.client,(Zeq _).mem_iff.2 hk,rfl⟩
 ·simp [hw]
theorem Zwg (m:Zdu) (hm:Zf4 m) (hits:List Zan):ER 3 [.agg (mC m),.lst false (hits.map ZU)] []=some (.bool true,[]):=by
 have hM:=fun σ sq own=>ZmT (Zzc σ sq own m hm)
 have hn:=ZzJ m
 have hC:=fun σ sq own=>ZmT (Zy9 hits σ sq own)
 have hl:=Zvp hits
 have hP:=fun σ sq own=>Zmj (ZaX m).note hn (Zcg hits) (by omega) σ sq own
 have hq0:0<=(ZaX m).note.qos:=by
  have:=Zk1 m.qos
  show 0<=Zcf m.qos 0 2
  omega
 have hPl:(Zb2 (ZaX m).note (Zcg hits)).length<=1000:=by have:=Zmp (ZaX m).note (Zcg hits);omega
 have h5:=Zlh (ZaX m).note hq0 (Zcg hits) (by omega) (Zte hits) _ rfl _ 0 rfl (XaZ _)
 have h20:=Zl6 (ZaX m).note (Zcg hits) (by omega) _ hPl (Zxs (ZaX m).note (Zcg hits)) _ 0 rfl (XaZ _)
 have z:((0:Nat):Int)=0:=rfl
 rw [z] at h5 h20
 have hw:=ZwS
 clear hm hn hq0 hPl
 generalize (Zb2 (ZaX m).note (Zcg hits)).map (Z2 (ZaX m).note)=L at *
 generalize (Zb2 (ZaX m).note (Zcg hits)).length=PN at *
 generalize (Zcg hits).length=HN at *
 generalize (Zcg hits).map ZU=HS at *
 generalize (ZaX m).note=n at *
 unfold mC at hM ⊢
 generalize hits.map ZU=S0 at *
 generalize n.payload.map Zr=L1 at *
 generalize n.props.map Zc=L2 at *
 rw [ZlG (by rfl) ZyO]
 simp -implicitDefEqProofs only [EQA,ZG,ZF,ZK,ZH,ZJ,ZD,ZQ,ZR,ZP,ZS,ZM,ZL,ZO,ZT,ZN,implies_true,forall_const,Xp,Xq,Xt,Xf,Xg,Xr,Xm,ZA,ZI,unA,Zt,Zx,unG,reduceCtorEq,Zk,decide_eq_true_eq,Xh,Xc,ite_self,↓reduceIte,Zv,ZB,gcT,gcA,Zj,Zf,Zd,Zg,Zm,Zb,Zn,Zh,Zp,Xe,ZbO,ZbC,ZbS,ZbM,Zbs,ZbP,Zbu,ZbN,Zbo,ZbV,Zbk,ZbL,Zbm,ZbY,Zbn,ZbK,Zbw,ZbH,Zbv,ZbT,Zbt,ZbU,Zbr,Zw,Zl,Zo,Zc,Zz,ZE,ZoS,ZwV,hM,hC,hP,hw,h5,h20,Z6,AVal.cells,Zy,Xi,Xo]
end
section
open Go.RowKit
theorem ZlM {α:Type} {T:Ty} {s:Bool} {f:α->AVal} (h:∀ y,TyC T y->∃ a,ZbQ s y=f a) {xs:List AVal} (hx:TyC (.slice s T) xs):∃ l:List α,xs=[.lst false (l.map f)]/\l.length<=9223372036854775807:=by
 simp only [TyC] at hx
 obtain ⟨ys,rfl,h1,h2⟩:=hx
 have : ∀ ys:List (List AVal),(∀ y ∈ ys,TyC T y)->∃ l:List α,ys.map (ZbQ s)=l.map f:=by
  intro ys
  induction ys with
  | nil=>intro _;exact ⟨[],rfl⟩
  | cons y ys ih =>
   intro hy
   obtain ⟨a,ha⟩:=h y (hy y (by simp))
   obtain ⟨l,hl⟩:=ih fun y' h'=>hy y' (by simp [h'])
   exact ⟨a::l,by simp [ha,hl]⟩
 obtain ⟨l,hl⟩:=this ys h2
 refine ⟨l,by rw [hl],?_⟩
 have:=congrArg List.length hl
 simp only [XP] at this
 omega
theorem Zr8 {y:List AVal} (h:TyC (.int .u8) y):∃ b,ZbQ false y=Zr b:=by
 simp only [TyC] at h
 obtain ⟨n,hw,rfl⟩:=h
 have h1:0<=n/\n<=255:=by
  simp only [Lit.wf,Bool.and_eq_true,decide_eq_true_eq] at hw
  exact hw
 refine ⟨UInt8.ofNat n.toNat,?_⟩
 simp only [ZbQ,Xz,if_false,List.headD_cons,Zr,AVal.int.injEq,true_and]
 rw [UInt8.toNat_ofNat']
 omega
theorem Zfe {xs:List AVal} (h:TyC (.slice false (.int .u8)) xs):∃ b:ZC,xs=[Zl b]/\b.length<=9223372036854775807:=ZlM (fun _=>Zr8) h
theorem Zv3 {xs:List AVal} (h:TyC (.slice false (.int .i64)) xs):∃ b:List Int,xs=[Zw b]/\b.length<=9223372036854775807:=ZlM (fun y hy=>by
 simp only [TyC] at hy
 obtain ⟨n,_,rfl⟩:=hy
 exact ⟨n,rfl⟩) h
def ZwP:Ty:=.struct [.int .i64,.int .i64,.str,.str,.slice false (.int .u8)]
def ZsH:Ty:=.struct [.str,.slice false (.int .u8),.int .i64,.bool,.str,.int .i64,.slice true ZwP,.int .i64,.int .i64,.int .i64]
def Zz2:Ty:=.struct [ZsH,.int .i64,.bool,.slice false (.int .i64),.str]
example:Zc2 Try.prog 8 33=some Zz2:=by kernel_rfl
example:Zc9 (Try.prog.underlying 33)=true:=by kernel_rfl
end
section
open Go.RowKit
def Zjc:Ty:=.struct [.slice false (.int .u8),.slice false (.int .u8),.slice false (.int .u8),.slice false (.int .u8),.int .i64,.int .i64,.bool,.bool,.int .i64,.struct [.int .i64,.slice false (.int .u8),.slice false (.int .u8),.slice false (.int .u8)],.slice false (.int .i64),.int .i64,.int .i64]
theorem Zqz {x:AVal} (h:Zj3 true Zjc x):∃ m,Zf4 m/\x=.agg (mC m):=by
 obtain ⟨y,h,rfl⟩:=h
 unfold Zjc at h
 rw [TyC] at h
 simp only [ZdU] at h
 obtain ⟨_,_,rfl,h1,_,_,rfl,h2,_,_,rfl,h3,_,_,rfl,h4,_,_,rfl,h5,_,_,rfl,h6,_,_,rfl,h7,_,_,rfl,h8,_,_,rfl,h9,_,_,rfl,h10,_,_,rfl,h11,_,_,rfl,h12,_,_,rfl,h13,rfl⟩:=h
 rw [TyC] at h10
 simp only [ZdU] at h10
 obtain ⟨_,_,rfl,g1,_,_,rfl,g2,_,_,rfl,g3,_,_,rfl,g4,rfl⟩:=h10
 obtain ⟨b1,rfl,l1⟩:=Zfe h1
 obtain ⟨b2,rfl,l2⟩:=Zfe h2
 obtain ⟨b3,rfl,l3⟩:=Zfe h3
 obtain ⟨b4,rfl,l4⟩:=Zfe h4
 obtain ⟨c2,rfl,m2⟩:=Zfe g2
 obtain ⟨c3,rfl,m3⟩:=Zfe g3
 obtain ⟨c4,rfl,m4⟩:=Zfe g4
 obtain ⟨is,rfl,li⟩:=Zv3 h11
 simp only [TyC] at h5 h6 h7 h8 h9 h12 h13 g1
 obtain ⟨a5,_,rfl⟩:=h5
 obtain ⟨a6,_,rfl⟩:=h6
 obtain ⟨a7,rfl⟩:=h7
 obtain ⟨a8,rfl⟩:=h8
 obtain ⟨a9,_,rfl⟩:=h9
 obtain ⟨a12,_,rfl⟩:=h12
 obtain ⟨a13,_,rfl⟩:=h13
 obtain ⟨f1,_,rfl⟩:=g1
 exact ⟨⟨b1,b2,b3,b4,a5,a6,a7,a8,a9,⟨f1,c2,c3,c4⟩,is,a12,a13⟩,⟨l1,l2,l3,m2,m4,li⟩,rfl⟩
end
section
open Go.RowKit
def Ziq:Ty:=.slice true (.struct [.str,.struct [.str,.int .i64,.bool,.bool,.int .i64,.int .i64]])
theorem ZyN {x:AVal} (h:Zj3 false Ziq x):∃ l:List Zan,x=.lst false (l.map ZU):=by
 obtain ⟨y,h,rfl⟩:=h
 simp only [Ziq,TyC] at h
 obtain ⟨ys,rfl,h1,h2⟩:=h
 have : ∀ ys:List (List AVal),(∀ y ∈ ys,ZdU [.str,.struct [.str,.int .i64,.bool,.bool,.int .i64,.int .i64]] y)->∃ l:List Zan,ys.map (ZbQ true)=l.map ZU:=by
  intro ys
  induction ys with
  | nil=>intro _;exact ⟨[],rfl⟩
  | cons y ys ih =>
   intro hy
   have hy0:=hy y (by simp)
   simp only [ZdU] at hy0
   obtain ⟨_,_,rfl,h1,_,_,rfl,h2,rfl⟩:=hy0
   rw [TyC] at h2
   simp only [ZdU] at h2
   obtain ⟨_,_,rfl,g1,_,_,rfl,g2,_,_,rfl,g3,_,_,rfl,g4,_,_,rfl,g5,_,_,rfl,g6,rfl⟩:=h2
   simp only [TyC] at h1 g1 g2 g3 g4 g5 g6
   obtain ⟨c,_,rfl⟩:=h1
   obtain ⟨f,_,rfl⟩:=g1
   obtain ⟨q,_,rfl⟩:=g2
   obtain ⟨a,rfl⟩:=g3
   obtain ⟨p,rfl⟩:=g4
   obtain ⟨hd,_,rfl⟩:=g5
   obtain ⟨i,_,rfl⟩:=g6
   obtain ⟨l,hl⟩:=ih fun y' h'=>hy y' (by simp [h'])
   exact ⟨⟨c,⟨f,q,a,p,hd,i⟩⟩::l,by simp [hl,ZbQ,ZU]⟩
 obtain ⟨l,hl⟩:=this ys (fun y hy=>by simpa only [TyC] using h2 y hy)
 exact ⟨l,by simp [ZbQ,hl]⟩
theorem ZqV (w:World):Gl.le (Imm.of w):=by
 intro b o u h
 unfold Gl at h
 cases h
end
section
open Go.ChangeShapes Go.WideShapes Go.ChangeAt Go.RowKit Go.Deep
open Go.ChangeMaps (open_string shut_string)
theorem ZwQ:ownKnob Try.prog.godebug=none:=by kernel_rfl
theorem ZlD:laidOutB Try.prog=true:=by kernel_rfl
set_option maxRecDepth 100000 in
theorem Zz9 (os:Os) (started:os.Started) (H:Type) (enc:TypeId×Value->H) :
  ReturnsInHanded {} Try.checked os 3 .any (Rows.routeOnceSpec.pre6 enc Try.prog Try.f3 Rows.routeOnceRow.domain false) (Rows.routeOnceSpec.post enc Try.prog Try.f3 false true false false):=by
 refine returnsInHanded_of_change (C:=Try.checked) ZwQ started (by kernel_rfl) Try.func3
  (ChangeSpec.witness6 (enc:=enc) (C:=Try.checked) false ⟨#[],#[.agg #[.slice none 0 0,.slice none 0 0,.slice none 0 0,.slice none 0 0,.int .i64 0,.int .i64 0,.bool false,.bool false,.int .i64 0,.int .i64 0,.slice none 0 0,.slice none 0 0,.slice none 0 0,.slice none 0 0,.int .i64 0,.int .i64 0],.slice none 0 0],[]⟩ 8 (by kernel_rfl) (by kernel_rfl) (by kernel_rfl) (by kernel_rfl)) ?_
 intro W base args ds gs before hval0 hW hcnd _
 have hval:∀ (j:Nat) t v,Try.f3.params[j]?=some t->args[j]?=some v->Value.okWide Try.prog W .any base t v:=hval0
 have hW':=hW
 obtain ⟨p,q,hA0,hV,rfl,hfz,hnd⟩:=hW
 have hA:DataW.TrodAll enc Try.prog W 0 (fun _=>true) true Try.f3.params.toList args.toList ds p:=hA0
 rw [Try.params3] at hA hval
 obtain ⟨v0,vs0,d0,ds0,p0,q0,hargs,rfl,rfl,h0,r0⟩:=trodAll_cons hA
 obtain ⟨v1,vs1,d1,ds1,p1,q1,rfl,rfl,rfl,h1,r1⟩:=trodAll_cons r0
 obtain ⟨rfl,rfl,rfl⟩:=trodAll_nil r1
 obtain rfl:args=#[v0,v1]:=by cases args;simp_all
 obtain ⟨rfl,rfl⟩:=trodVars_none hV
 have k0:=h0
 have lt0:∀ x ∈ p0,x.block < W.heap.size:=by obtain ⟨m,hm⟩:=k0;exact DataW.trod_lt m _ _ _ hm
 have k1:=h1
 have lt1:∀ x ∈ p1,x.block < W.heap.size:=by obtain ⟨m,hm⟩:=k1;exact DataW.trod_lt m _ _ _ hm
 obtain ⟨x0,y0,z0,_⟩:=ZmO (n:=12) (T:=Zjc) (by kernel_rfl) (hval 0 27 v0 rfl rfl) h0
 obtain ⟨a0,b0,rfl⟩:=Zqz y0
 obtain ⟨x1,y1,z1,_⟩:=ZmO (n:=12) (T:=Ziq) (by kernel_rfl) (hval 1 28 v1 rfl rfl) h1
 obtain ⟨a1,rfl⟩:=ZyN y1
 clear hA0 hval0
 refine (Zz4 ZAD (ZqV _) (args:=[.agg (mC a0),.lst false (a1.map ZU)]) (by simp only [VRs];exact ⟨_,_,rfl,z0,_,_,rfl,z1,rfl⟩) (Zwg a0 b0 a1)).mono fun e W' ⟨he,bel⟩=>?_
 subst he
 exact ⟨_,rfl,_,_,_,[],_,[],hW',trodAll_mk1 (shut_bool Try.underlying4 _),(trodAll_cons_mk (Below.trod ZlD (by kernel_rfl) (of_decide_eq_true (by kernel_rfl)) k0 bel lt0) (trodAll_cons_mk (Below.trod ZlD (by kernel_rfl) (of_decide_eq_true (by kernel_rfl)) k1 bel lt1) trodAll_mk0)),rfl,bel.frame _,fun h=>by cases h⟩
theorem routeOnce_holds:Rows.RouteOnceSaid :=
 OpenClaim.holds_of_wide 3 Try.f3 rfl rfl rfl rfl rfl rfl rfl ⟨rfl,rfl,rfl,rfl,rfl⟩ rfl rfl rfl rfl rfl (by kernel_rfl) Try.func3 (by kernel_rfl)
  (of_decide_eq_true (by kernel_rfl)) (by unfold Func.isWrapper;first | (rw [if_pos (by decide +kernel)];kernel_rfl) | (rw [if_neg (by decide +kernel)];exact ⟨rfl,rfl⟩))
  (fun os started H enc _=>Zz9 os started H enc)
#print axioms routeOnce_holds
end
end Go.Proofs.Ytfpahnkbjfimdaa
