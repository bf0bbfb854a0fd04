/- packed -/
import Derived.Test.YtlekmfmkkcpbcaaDoorMq3
set_option linter.defProp false
set_option linter.unusedSimpArgs false
set_option linter.unusedVariables false
open Option.some renaming injEq→Xa
open Bool renaming decide_eq_true→Xb,not_eq_true→Xd,false_eq_true→Xq,and_eq_true→XE,and_self→WD,or_eq_false_iff→WN,eq_iff_iff→XaE,false_or→Xbu,and_false→XbA
open List renaming range_succ→Xc,getD_cons_zero→Xm,getD_cons_succ→Xn,contains_nil→Xo,all_cons→Xp,length_cons→Xr,all_nil→Xs,length_nil→Xt,nil_append→Xv,append_nil→Xw,getElem?_cons_zero→Xx,lookup_cons→Xy,getD_eq_getElem?_getD→Xz,lookup_nil→XA,getElem?_cons_succ→XC,flatMap_cons→XD,any_cons→XF,cons_append→XG,any_nil→XH,flatMap_append→XJ,mem_append→XL,flatMap_nil→XM,mem_of_getElem?→XN,range_zero→XP,length_singleton→XQ,zip_cons_cons→XR,map_cons→XS,mem_cons→XV,getElem?_eq_getElem→XY,replicate→XZ,mem_map→X0,set_cons_zero→X2,length_append→X3,length_map→X7,isEmpty_cons→X8,zip_nil_left→X9,mem_singleton→Wa,take_of_length_le→Wc,nodup_cons→Wg,drop_eq_nil_iff→Wl,map_append→Wm,contains_cons→Wo,mem_cons_of_mem→Wp,map_nil→Wr,mem_filter→Wz,nodup_append→WG,length_drop→WJ,getElem?_append_right→WY,length_pos_iff→W3,append_assoc→W4,count_le_length→Xaa,length_filter_le→Xaf,contains_iff_mem→Xag,isEmpty_nil→Xaj,length_eraseIdx→Xal,mem_append_left→Xay,take_append_of_le_length→XaI,mem_cons_self→XaL,mem_append_right→XaN,erase_of_not_mem→XaR,filter_cons→Xa0,replicate_succ→Xa2,erase_cons→Xa6,length→Xa8,nodup_nil→Xa9,headD_cons→Xbk,count_cons→Xbl
open Nat renaming reduceLeDiff→Xe,reduceEqDiff→Xf,reduceAdd→Xh,reduceSub→Xi,reduceBEq→Xj,reduceMul→Xk,reduceLT→Xl,zero_add→XX,le_refl→X5,one_mul→Wy,sub_self→Xab,sub_zero→Xbm
open Or renaming inl→XK,inr→XO
open Sum renaming map_inl→XT,map_inr→XU
open Int renaming toNat_natCast→Wk,toNat_zero→WB,le_refl→WQ,tmod_lt_of_pos→W8,neg_tmod→Xbo
open Option renaming map→Wt
open UInt8 renaming toNat_inj→XaF
namespace Go.Proofs.YtlekmfmkkcpbcaaDoor
set_option maxHeartbeats 16000000
set_option maxRecDepth 10000
section
def Zpg:ZM:=(.seq (.region [oI 4 (.mov (.c (.bool false)))] none [1,0]) (.seq (.region [oM 5 0,oM 6 1,oI 7 (.nilchk (.t 5)),oI 8 (.aaddr 1 256 (.t 7) (.t 6)),oL 9 8,oM 4 9] none [4]) .ret))
def Zm3:Zaj:=⟨[(.tmp 4)],Zpg⟩
theorem ZIQ:FC 65=some Zm3:=by kernel_rfl
theorem ZCw:Zm3.body=Zpg:=rfl
theorem ZyQ:Zm3.res=[(.tmp 4)]:=rfl
def Zo9:ZM:=(.seq (.region [oI 4 (.mov (.c (.bool false)))] none [1,0]) (.seq (.region [oM 5 0,oM 6 1,oI 7 (.call 54 0 true [(.t 5),(.t 6)]),oI 8 (.bin .geq (.t 7) (.c (.int .i64 0))),oM 4 8] none [4]) .ret))
def ZmQ:Zaj:=⟨[(.tmp 4)],Zo9⟩
theorem ZHM:FC 40=some ZmQ:=by kernel_rfl
theorem ZLu:ZmQ.body=Zo9:=rfl
theorem ZCI:ZmQ.res=[(.tmp 4)]:=rfl
def Zeg:ZM:=(.seq (.region [oI 4 (.mov (.c (.int .i64 (-1))))] none [4]) .ret)
def Zop:ZM:=Zeg
def Zgh:=xw Zop Zeg rfl
def ZeE:ZM:=(.seq (.region [oI 46 (.nxt (.t 45)),oI 47 (.ext (.t 46) 0)] none [47,46,45,1]) (.seq (.cond (.t 47) .skip (.exit 2)) (.block 3 (.seq (.region [oI 48 (.ext (.t 46) 1),oI 49 (.ext (.t 46) 2),oM 9 48,oM 10 49] none [45,10,9,1]) (.seq (.region [oM 50 1,oM 51 10,oI 52 (.call 62 0 true [(.t 50),(.t 51)]),oI 53 (.bin .geq (.t 52) (.c (.int .i64 0)))] none [53,45,9,1]) (.cond (.t 53) (.seq (.region [oM 54 9,oM 4 54] none [4]) .ret) .skip))))))
def ZnG:ZM:=ZeE
def ZfO:=xw ZnG ZeE rfl
def Zex:ZM:=(.seq (.seq (.region [oM 44 0,oI 45 (.rng (.t 44))] none [45,1]) (.block 2 (.loop [45,1] ZnG))) Zop)
def ZnQ:ZM:=Zex
def ZfM:=xw ZnQ Zex rfl
def Zet:ZM:=(.seq (.region [oI 4 (.mov (.c (.int .i64 (-1))))] none [4]) .ret)
def Zpw:ZM:=Zet
def Zfx:=xw Zpw Zet rfl
def Zej:ZM:=(.seq (.seq (.region [oM 33 8,oM 34 0,oI 35 (.slen (.t 34)),oI 36 (.bin .lss (.t 33) (.t 35))] none [36,8,6,0]) (.cond (.t 36) .skip (.exit 0))) (.seq (.block 1 (.seq (.region [oM 39 0,oM 40 8,oI 41 (.sindex (.t 39) (.t 40)),oI 42 (.call 65 0 true [(.t 6),(.t 41)])] none [42,8,6,0]) (.cond (.t 42) (.seq (.region [oM 43 8,oM 4 43] none [4]) .ret) .skip))) (.region [oM 37 8,oI 38 (.bin .add (.t 37) (.c (.int .i64 1))),oM 8 38] none [8,6,0])))
def Znn:ZM:=Zej
def Zf9:=xw Znn Zej rfl
def ZeI:ZM:=(.seq (.region [oI 4 (.mov (.c (.int .i64 0)))] none [1,0]) (.seq (.seq (.region [oM 11 1,oI 12 (.bin .eql (.t 11) (.c (.str [])))] none [12,1,0]) (.cond (.t 12) (.seq (.region [oI 4 (.mov (.c (.int .i64 (-1))))] none [4]) .ret) .skip)) (.seq (.seq (.region [oM 13 1,oI 14 (.slen (.t 13)),oI 15 (.bin .eql (.t 14) (.c (.int .i64 1)))] none [15,1,0]) (.cond (.t 15) (.seq (.region [oM 16 1,oI 17 (.sindex (.t 16) (.c (.int .i64 0))),oI 18 (.i2i .i32 (.t 17)),oM 5 18] none [5,0]) (.seq (.seq (.region [oM 19 5,oI 20 (.bin .geq (.t 19) (.c (.int .i32 128)))] none [20,5,0]) (.cond (.t 20) (.region [oI 5 (.mov (.c (.int .i32 65533)))] none [5,0]) .skip)) (.seq (.region [oM 21 0,oM 22 5,oI 23 (.call 62 0 true [(.t 21),(.t 22)]),oM 4 23] none [4]) .ret))) .skip)) (.seq (.seq (.region [oM 24 0,oI 25 (.slen (.t 24)),oI 26 (.call 63 0 true [(.t 25)])] none [26,1,0]) (.cond (.t 26) (.seq (.region [oM 28 1,oI 29 (.call 64 0 true [(.t 28)]),oM 27 29,oI 30 (.ext (.t 27) 0),oI 31 (.ext (.t 27) 1),oI 6 (.alloc [(.bool false),(.bool false),(.bool false),(.bool false),(.bool false),(.bool false),(.bool false),(.bool false),(.bool false),(.bool false),(.bool false),(.bool false),(.bool false),(.bool false),(.bool false),(.bool false),(.bool false),(.bool false),(.bool false),(.bool false),(.bool false),(.bool false),(.bool false),(.bool false),(.bool false),(.bool false),(.bool false),(.bool false),(.bool false),(.bool false),(.bool false),(.bool false),(.bool false),(.bool false),(.bool false),(.bool false),(.bool false),(.bool false),(.bool false),(.bool false),(.bool false),(.bool false),(.bool false),(.bool false),(.bool false),(.bool false),(.bool false),(.bool false),(.bool false),(.bool false),(.bool false),(.bool false),(.bool false),(.bool false),(.bool false),(.bool false),(.bool false),(.bool false),(.bool false),(.bool false),(.bool false),(.bool false),(.bool false),(.bool false),(.bool false),(.bool false),(.bool false),(.bool false),(.bool false),(.bool false),(.bool false),(.bool false),(.bool false),(.bool false),(.bool false),(.bool false),(.bool false),(.bool false),(.bool false),(.bool false),(.bool false),(.bool false),(.bool false),(.bool false),(.bool false),(.bool false),(.bool false),(.bool false),(.bool false),(.bool false),(.bool false),(.bool false),(.bool false),(.bool false),(.bool false),(.bool false),(.bool false),(.bool false),(.bool false),(.bool false),(.bool false),(.bool false),(.bool false),(.bool false),(.bool false),(.bool false),(.bool false),(.bool false),(.bool false),(.bool false),(.bool false),(.bool false),(.bool false),(.bool false),(.bool false),(.bool false),(.bool false),(.bool false),(.bool false),(.bool false),(.bool false),(.bool false),(.bool false),(.bool false),(.bool false),(.bool false),(.bool false),(.bool false),(.bool false),(.bool false),(.bool false),(.bool false),(.bool false),(.bool false),(.bool false),(.bool false),(.bool false),(.bool false),(.bool false),(.bool false),(.bool false),(.bool false),(.bool false),(.bool false),(.bool false),(.bool false),(.bool false),(.bool false),(.bool false),(.bool false),(.bool false),(.bool false),(.bool false),(.bool false),(.bool false),(.bool false),(.bool false),(.bool false),(.bool false),(.bool false),(.bool false),(.bool false),(.bool false),(.bool false),(.bool false),(.bool false),(.bool false),(.bool false),(.bool false),(.bool false),(.bool false),(.bool false),(.bool false),(.bool false),(.bool false),(.bool false),(.bool false),(.bool false),(.bool false),(.bool false),(.bool false),(.bool false),(.bool false),(.bool false),(.bool false),(.bool false),(.bool false),(.bool false),(.bool false),(.bool false),(.bool false),(.bool false),(.bool false),(.bool false),(.bool false),(.bool false),(.bool false),(.bool false),(.bool false),(.bool false),(.bool false),(.bool false),(.bool false),(.bool false),(.bool false),(.bool false),(.bool false),(.bool false),(.bool false),(.bool false),(.bool false),(.bool false),(.bool false),(.bool false),(.bool false),(.bool false),(.bool false),(.bool false),(.bool false),(.bool false),(.bool false),(.bool false),(.bool false),(.bool false),(.bool false),(.bool false),(.bool false),(.bool false),(.bool false),(.bool false),(.bool false),(.bool false),(.bool false),(.bool false),(.bool false),(.bool false),(.bool false),(.bool false),(.bool false),(.bool false),(.bool false),(.bool false),(.bool false),(.bool false),(.bool false),(.bool false),(.bool false),(.bool false),(.bool false),(.bool false),(.bool false),(.bool false),(.bool false),(.bool false),(.bool false),(.bool false)]),oN (.st 256 (.t 6) (.t 30)),oM 7 31] none [7,6,1,0]) (.seq (.region [oM 32 7] none [32,6,1,0]) (.cond (.t 32) (.seq (.seq (.region [oI 8 (.mov (.c (.int .i64 0)))] none [8,6,0]) (.block 0 (.loop [8,6,0] Znn))) Zpw) .skip))) .skip)) ZnQ))))
def ZjN:Zaj:=⟨[(.tmp 4)],ZeI⟩
theorem Zsq:FC 54=some ZjN:=by kernel_rfl
theorem Zf5:ZjN.body=ZeI:=rfl
theorem Zf2:ZjN.res=[(.tmp 4)]:=rfl
noncomputable def Zj5 (m:Nat) (tm:Tms) (σ:Za):Option (AVal×Za):=(ZaL m ZjN (Zbi FC PR BY m Zop (Wt (Za6 2) (evL FC PR BY m [45,1] ZnG tm σ))))
noncomputable def Zkv (m:Nat) (tm:Tms) (σ:Za):Option (AVal×Za):=(ZaL m ZjN (Zbi FC PR BY m ZnQ (Zbi FC PR BY m Zpw (Wt (Za6 0) (evL FC PR BY m [8,6,0] Znn tm σ)))))
def ZhI:ZM:=(.seq (.region [oI 4 (.mov (.c (.int .i64 (-1))))] none [4]) .ret)
def ZsE:ZM:=ZhI
def Zj6:=xw ZsE ZhI rfl
def Zif:ZM:=(.seq (.region [oI 176 (.nxt (.t 175)),oI 177 (.ext (.t 176) 0)] none [177,176,175]) (.seq (.cond (.t 177) .skip (.exit 9)) (.block 10 (.seq (.region [oI 178 (.ext (.t 176) 1),oI 179 (.ext (.t 176) 2),oM 5 178,oM 6 179] none [175,6,5]) (.seq (.region [oM 180 6,oI 181 (.bin .eql (.t 180) (.c (.int .i32 65533)))] none [181,175,5]) (.cond (.t 181) (.seq (.region [oM 182 5,oM 4 182] none [4]) .ret) .skip))))))
def Zr2:ZM:=Zif
def ZlZ:=xw Zr2 Zif rfl
def Zid:ZM:=(.seq (.region [oI 4 (.mov (.c (.int .i64 (-1))))] none [4]) .ret)
def Zup:ZM:=Zid
def ZmI:=xw Zup Zid rfl
def Zhf:ZM:=(.region [oM 125 9,oI 126 (.bin .add (.t 125) (.c (.int .i64 1))),oM 9 126] none [15,14,9,8,7,0])
def Zu8:ZM:=Zhf
def Zlj:=xw Zu8 Zhf rfl
def Zh3:ZM:=(.seq (.region [oM 157 9,oM 158 8,oI 159 (.bin .sub (.t 157) (.t 158)),oM 4 159] none [4]) .ret)
def Ztr:ZM:=Zh3
def Zme:=xw Ztr Zh3 rfl
def Zip:ZM:=(.seq (.seq (.region [oM 140 16,oM 141 7,oI 142 (.slen (.t 141)),oI 143 (.bin .lss (.t 140) (.t 142))] none [143,16,15,14,9,8,7,0]) (.cond (.t 143) .skip (.exit 7))) (.seq (.block 8 (.seq (.region [oM 146 0,oM 147 9,oM 148 16,oI 149 (.bin .sub (.t 147) (.t 148)),oI 150 (.sindex (.t 146) (.t 149)),oM 151 7,oM 152 8,oM 153 16,oI 154 (.bin .sub (.t 152) (.t 153)),oI 155 (.sindex (.t 151) (.t 154)),oI 156 (.bin .neq (.t 150) (.t 155))] (some []) [156,16,15,14,9,8,7,0]) (.cond (.t 156) (.exit 6) .skip))) (.region [oM 144 16,oI 145 (.bin .add (.t 144) (.c (.int .i64 1))),oM 16 145] none [16,15,14,9,8,7,0])))
def Zuc:ZM:=Zip
def ZkY:=xw Zuc Zip rfl
def Zhv:ZM:=(.seq (.seq (.region [oM 121 9,oM 122 0,oI 123 (.slen (.t 122)),oI 124 (.bin .lss (.t 121) (.t 123))] none [124,15,14,9,8,7,0]) (.cond (.t 124) .skip (.exit 5))) (.seq (.block 6 (.seq (.region [oM 127 0,oM 128 9,oI 129 (.sindex (.t 127) (.t 128)),oM 130 14,oI 131 (.bin .eql (.t 129) (.t 130)),oM 132 131,⟨(some 133),(.mov (.t 0)),(some (132,true)),[]⟩,⟨(some 134),(.mov (.t 9)),(some (132,true)),[]⟩,⟨(some 135),(.bin .sub (.t 134) (.c (.int .i64 1))),(some (132,true)),[]⟩,⟨(some 136),(.sindex (.t 133) (.t 135)),(some (132,true)),[]⟩,⟨(some 137),(.mov (.t 15)),(some (132,true)),[]⟩,⟨(some 138),(.bin .eql (.t 136) (.t 137)),(some (132,true)),[]⟩,oI 139 (.pick (.t 132) (.t 138) (.c (.bool false)))] none [139,15,14,9,8,7,0]) (.cond (.t 139) (.seq (.seq (.region [oI 16 (.mov (.c (.int .i64 2)))] none [16,15,14,9,8,7,0]) (.block 7 (.loop [16,15,14,9,8,7,0] Zuc))) Ztr) .skip))) Zu8))
def Zrl:ZM:=Zhv
def ZlS:=xw Zrl Zhv rfl
def ZhE:ZM:=(.seq (.seq (.region [oI 4 (.mov (.c (.int .i64 (-1))))] none [4]) .ret) (.seq .skip (.seq (.cond (.c (.bool true)) (.seq (.region [oM 99 0,oM 100 9,oM 101 8,oI 102 (.bin .sub (.t 100) (.t 101)),oI 103 (.sslice (.t 99) (some (.t 102)) none),oM 104 1,oI 105 (.i2s (.t 104)),oI 106 (.call 80 0 true [(.t 103),(.t 105)]),oM 13 106] none [13,9,8]) (.seq (.region [oM 107 13,oI 108 (.bin .geq (.t 107) (.c (.int .i64 0)))] none [108,13,9,8]) (.cond (.t 108) (.seq (.region [oM 109 9,oM 110 13,oI 111 (.bin .add (.t 109) (.t 110)),oM 112 8,oI 113 (.bin .sub (.t 111) (.t 112)),oM 4 113] none [4]) .ret) .skip))) (.seq (.region [oM 114 7,oM 115 8,oI 116 (.sindex (.t 114) (.t 115)),oM 14 116] none [14,9,8,7,0]) (.seq (.region [oM 117 7,oM 118 8,oI 119 (.bin .sub (.t 118) (.c (.int .i64 1))),oI 120 (.sindex (.t 117) (.t 119)),oM 15 120] none [15,14,9,8,7,0]) (.seq .skip (.block 5 (.loop [15,14,9,8,7,0] Zrl)))))) Zup)))
def Zvh:ZM:=ZhE
def ZkV:=xw Zvh ZhE rfl
def ZhY:ZM:=(.seq (.seq (.region [oM 65 9,oM 66 8,oI 67 (.bin .sub (.t 65) (.t 66)),oM 4 67] none [4]) .ret) (.seq .skip (.seq (.region [oM 68 10,oI 69 (.bin .add (.t 68) (.c (.int .i64 1))),oM 10 69] none [10,9,8,7,0]) (.seq (.region [oM 70 9,oI 71 (.bin .add (.t 70) (.c (.int .i64 1))),oM 9 71] none [10,9,8,7,0]) (.seq (.region [oI 72 (.mov (.c (.bool true))),⟨(some 73),(.mov (.t 10)),(some (72,true)),[]⟩,⟨(some 74),(.mov (.t 9)),(some (72,true)),[]⟩,⟨(some 75),(.call 81 0 true [(.t 74)]),(some (72,true)),[]⟩,⟨(some 76),(.bin .gtr (.t 73) (.t 75)),(some (72,true)),[]⟩,oI 77 (.pick (.t 72) (.t 76) (.c (.bool false))),oM 78 77,⟨(some 79),(.mov (.t 9)),(some (78,true)),[]⟩,⟨(some 80),(.mov (.t 0)),(some (78,true)),[]⟩,⟨(some 81),(.slen (.t 80)),(some (78,true)),[]⟩,⟨(some 82),(.bin .lss (.t 79) (.t 81)),(some (78,true)),[]⟩,oI 83 (.pick (.t 78) (.t 82) (.c (.bool false))),oM 84 83,⟨(some 85),(.mov (.c (.bool false))),(some (84,false)),[]⟩,⟨(some 86),(.mov (.t 10)),(some (85,true)),[]⟩,⟨(some 87),(.mov (.t 9)),(some (85,true)),[]⟩,⟨(some 88),(.bin .shr (.t 87) (.c (.int .u64 4))),(some (85,true)),[]⟩,⟨(some 89),(.bin .add (.c (.int .i64 4)) (.t 88)),(some (85,true)),[]⟩,⟨(some 90),(.bin .geq (.t 86) (.t 89)),(some (85,true)),[]⟩,⟨(some 91),(.pick (.t 85) (.t 90) (.c (.bool false))),(some (84,false)),[]⟩,⟨(some 92),(.mov (.t 91)),(some (84,false)),[]⟩,⟨(some 93),(.mov (.t 9)),(some (92,true)),[]⟩,⟨(some 94),(.mov (.t 0)),(some (92,true)),[]⟩,⟨(some 95),(.slen (.t 94)),(some (92,true)),[]⟩,⟨(some 96),(.bin .lss (.t 93) (.t 95)),(some (92,true)),[]⟩,⟨(some 97),(.pick (.t 92) (.t 96) (.c (.bool false))),(some (84,false)),[]⟩,oI 98 (.pick (.t 84) (.c (.bool true)) (.t 97))] none [98,9,8,7,0]) (.cond (.t 98) .stuck .skip))))))
def ZvH:ZM:=ZhY
def Zkm:=xw ZvH ZhY rfl
def Zh8:ZM:=(.seq (.seq (.region [oM 48 12,oM 49 7,oI 50 (.slen (.t 49)),oI 51 (.bin .lss (.t 48) (.t 50))] none [51,12,9,8,7,0]) (.cond (.t 51) .skip (.exit 3))) (.seq (.block 4 (.seq (.region [oM 54 0,oM 55 9,oM 56 12,oI 57 (.bin .sub (.t 55) (.t 56)),oI 58 (.sindex (.t 54) (.t 57)),oM 59 7,oM 60 8,oM 61 12,oI 62 (.bin .sub (.t 60) (.t 61)),oI 63 (.sindex (.t 59) (.t 62)),oI 64 (.bin .neq (.t 58) (.t 63))] (some []) [64,12,9,8,7,0]) (.cond (.t 64) .stuck .skip))) (.region [oM 52 12,oI 53 (.bin .add (.t 52) (.c (.int .i64 1))),oM 12 53] none [12,9,8,7,0])))
def Zrg:ZM:=Zh8
def Zkr:=xw Zrg Zh8 rfl
def Zhx:ZM:=(.seq (.seq (.region [oM 23 9,oM 24 0,oI 25 (.slen (.t 24)),oI 26 (.bin .lss (.t 23) (.t 25))] none [26,9,8,7,0]) (.cond (.t 26) .skip (.exit 1))) (.block 2 (.seq (.seq (.region [oM 27 0,oM 28 9,oI 29 (.sindex (.t 27) (.t 28)),oM 30 7,oM 31 8,oI 32 (.sindex (.t 30) (.t 31)),oI 33 (.bin .neq (.t 29) (.t 32))] (some []) [33,9,8,7,0]) (.cond (.t 33) (.seq (.region [oM 34 0,oM 35 9,oI 36 (.bin .add (.t 35) (.c (.int .i64 1))),oI 37 (.sslice (.t 34) (some (.t 36)) none),oM 38 7,oM 39 8,oI 40 (.sindex (.t 38) (.t 39)),oI 41 (.call 84 0 true [(.t 37),(.t 40)]),oM 11 41] (some [(7,7)]) [11,9,8,7,0]) (.seq (.seq (.region [oM 42 11,oI 43 (.bin .lss (.t 42) (.c (.int .i64 0)))] none [43,11,9,8,7,0]) (.cond (.t 43) (.seq (.region [oI 4 (.mov (.c (.int .i64 (-1))))] none [4]) .ret) .skip)) (.region [oM 44 9,oM 45 11,oI 46 (.bin .add (.t 45) (.c (.int .i64 1))),oI 47 (.bin .add (.t 44) (.t 46)),oM 9 47] none [9,8,7,0]))) .skip)) (.seq (.seq (.region [oI 12 (.mov (.c (.int .i64 1)))] none [12,9,8,7,0]) (.block 3 (.loop [12,9,8,7,0] Zrg))) ZvH))))
def ZsM:ZM:=Zhx
def ZmF:=xw ZsM Zhx rfl
def Zhw:ZM:=(.seq (.region [oI 4 (.mov (.c (.int .i64 0)))] none [1,0]) (.block 0 (.seq (.region [oM 161 1,oI 162 (.bin .leq (.c (.int .i32 0)) (.t 161)),oM 163 162,⟨(some 164),(.mov (.t 1)),(some (163,true)),[]⟩,⟨(some 165),(.bin .lss (.t 164) (.c (.int .i32 128))),(some (163,true)),[]⟩,oI 166 (.pick (.t 163) (.t 165) (.c (.bool false))),oM 160 166] none [160,1,0]) (.cond (.t 160) (.seq (.region [oM 167 0,oM 168 1,oI 169 (.i2i .u8 (.t 168)),oI 170 (.call 84 0 true [(.t 167),(.t 169)]),oM 4 170] none [4]) .ret) (.seq (.region [oM 172 1,oI 173 (.bin .eql (.t 172) (.c (.int .i32 65533))),oM 171 173] none [171,1,0]) (.cond (.t 171) (.seq (.seq (.region [oM 174 0,oI 175 (.rng (.t 174))] none [175]) (.block 9 (.loop [175] Zr2))) ZsE) (.seq (.region [oM 184 1,oI 185 (.call 85 0 true [(.t 184)]),oI 186 (.un .not (.t 185)),oM 183 186] none [183,1,0]) (.cond (.t 183) (.seq (.region [oI 4 (.mov (.c (.int .i64 (-1))))] none [4]) .ret) (.seq (.region [oM 17 1,oI 18 (.i2s (.t 17)),oM 7 18] none [7,0]) (.seq (.region [oM 19 7,oI 20 (.slen (.t 19)),oI 21 (.bin .sub (.t 20) (.c (.int .i64 1))),oM 8 21] none [8,7,0]) (.seq (.region [oM 22 8,oM 9 22] none [9,8,7,0]) (.seq (.region [oI 10 (.mov (.c (.int .i64 0)))] none [9,8,7,0]) (.seq (.block 1 (.loop [9,8,7,0] ZsM)) Zvh)))))))))))))
def ZnK:Zaj:=⟨[(.tmp 4)],Zhw⟩
theorem ZqR:FC 62=some ZnK:=by kernel_rfl
theorem Zk9:ZnK.body=Zhw:=rfl
theorem Zkh:ZnK.res=[(.tmp 4)]:=rfl
def Zpr:ZM:=(.seq (.region [oI 2 (.mov (.c (.bool false)))] none [0]) (.seq (.region [oM 3 0,oI 4 (.bin .gtr (.t 3) (.c (.int .i64 8))),oM 2 4] none [2]) .ret))
def Znw:Zaj:=⟨[(.tmp 2)],Zpr⟩
theorem Zx8:FC 63=some Znw:=by kernel_rfl
theorem ZIo:Znw.body=Zpr:=rfl
theorem ZFc:Znw.res=[(.tmp 2)]:=rfl
def Zj4:ZM:=(.seq (.region [oI 2 (.mov (.c (.bool false)))] none [0]) (.seq (.block 0 (.seq (.region [oM 4 0,oI 5 (.bin .leq (.c (.int .i32 0)) (.t 4)),oM 6 5,⟨(some 7),(.mov (.t 0)),(some (6,true)),[]⟩,⟨(some 8),(.bin .lss (.t 7) (.c (.int .i32 55296))),(some (6,true)),[]⟩,oI 9 (.pick (.t 6) (.t 8) (.c (.bool false))),oM 3 9] none [3,0]) (.cond (.t 3) (.seq (.region [oI 2 (.mov (.c (.bool true)))] none [2]) .ret) (.seq (.region [oM 11 0,oI 12 (.bin .lss (.c (.int .i32 57343)) (.t 11)),oM 13 12,⟨(some 14),(.mov (.t 0)),(some (13,true)),[]⟩,⟨(some 15),(.bin .leq (.t 14) (.c (.int .i32 1114111))),(some (13,true)),[]⟩,oI 16 (.pick (.t 13) (.t 15) (.c (.bool false))),oM 10 16] none [10]) (.cond (.t 10) (.seq (.region [oI 2 (.mov (.c (.bool true)))] none [2]) .ret) .skip))))) (.seq (.region [oI 2 (.mov (.c (.bool false)))] none [2]) .ret)))
def ZpC:Zaj:=⟨[(.tmp 2)],Zj4⟩
theorem ZCZ:FC 85=some ZpC:=by kernel_rfl
theorem ZvZ:ZpC.body=Zj4:=rfl
theorem Zse:ZpC.res=[(.tmp 2)]:=rfl
end
section
def Zl4:ZM:=(.seq (.region [oI 4 (.mov (.c (.str []))),oI 5 (.mov (.c (.str []))),oI 6 (.mov (.c (.bool false)))] none [1,0]) (.seq (.seq (.region [oM 8 0,oM 9 1,oI 10 (.call 60 0 true [(.t 8),(.t 9)]),oM 7 10] none [7,1,0]) (.seq (.region [oM 11 7,oI 12 (.bin .geq (.t 11) (.c (.int .i64 0)))] none [12,7,1,0]) (.cond (.t 12) (.seq (.region [oM 13 0,oM 14 7,oI 15 (.sslice (.t 13) none (some (.t 14))),oM 16 0,oM 17 7,oM 18 1,oI 19 (.slen (.t 18)),oI 20 (.bin .add (.t 17) (.t 19)),oI 21 (.sslice (.t 16) (some (.t 20)) none),oM 4 15,oM 5 21,oI 6 (.mov (.c (.bool true)))] (some []) [6,5,4]) .ret) .skip))) (.seq (.region [oM 22 0,oM 4 22,oI 5 (.mov (.c (.str []))),oI 6 (.mov (.c (.bool false)))] none [6,5,4]) .ret)))
def Zow:Zaj:=⟨[(.tmp 4),(.tmp 5),(.tmp 6)],Zl4⟩
theorem ZJ5:FC 52=some Zow:=by kernel_rfl
theorem ZvI:Zow.body=Zl4:=rfl
theorem ZuR:Zow.res=[(.tmp 4),(.tmp 5),(.tmp 6)]:=rfl
def Zly:ZM:=(.seq (.region [oI 4 (.mov (.c (.str []))),oI 5 (.mov (.c (.bool false)))] none [1,0]) (.seq (.seq (.region [oM 6 0,oM 7 1,oI 8 (.call 59 0 true [(.t 6),(.t 7)]),oI 9 (.un .not (.t 8))] none [9,1,0]) (.cond (.t 9) (.seq (.region [oM 10 0,oM 4 10,oI 5 (.mov (.c (.bool false)))] none [5,4]) .ret) .skip)) (.seq (.region [oM 11 0,oM 12 1,oI 13 (.slen (.t 12)),oI 14 (.sslice (.t 11) (some (.t 13)) none),oM 4 14,oI 5 (.mov (.c (.bool true)))] none [5,4]) .ret)))
def ZoX:Zaj:=⟨[(.tmp 4),(.tmp 5)],Zly⟩
theorem ZAq:FC 51=some ZoX:=by kernel_rfl
theorem Ztu:ZoX.body=Zly:=rfl
theorem Zvc:ZoX.res=[(.tmp 4),(.tmp 5)]:=rfl
def ZkH:ZM:=(.seq (.region [oI 4 (.mov (.c (.bool false)))] none [1,0]) (.seq (.region [oM 5 0,oI 6 (.slen (.t 5)),oM 7 1,oI 8 (.slen (.t 7)),oI 9 (.bin .geq (.t 6) (.t 8)),oM 10 9,⟨(some 11),(.mov (.t 0)),(some (10,true)),[]⟩,⟨(some 12),(.mov (.t 1)),(some (10,true)),[]⟩,⟨(some 13),(.slen (.t 12)),(some (10,true)),[]⟩,⟨(some 14),(.sslice (.t 11) none (some (.t 13))),(some (10,true)),[]⟩,⟨(some 15),(.mov (.t 1)),(some (10,true)),[]⟩,⟨(some 16),(.bin .eql (.t 14) (.t 15)),(some (10,true)),[]⟩,oI 17 (.pick (.t 10) (.t 16) (.c (.bool false))),oM 4 17] none [4]) .ret))
def Zon:Zaj:=⟨[(.tmp 4)],ZkH⟩
theorem ZBx:FC 59=some Zon:=by kernel_rfl
theorem Ztv:Zon.body=ZkH:=rfl
theorem ZuN:Zon.res=[(.tmp 4)]:=rfl
def Zke:ZM:=(.seq (.region [oI 4 (.mov (.c (.str []))),oI 5 (.mov (.c (.str []))),oI 6 (.mov (.c (.bool false)))] none [1,0]) (.seq (.region [oM 7 0,oM 8 1,oI 9 (.call 52 0 true [(.t 7),(.t 8)]),oI 10 (.ext (.t 9) 0),oI 11 (.ext (.t 9) 1),oI 12 (.ext (.t 9) 2),oM 4 10,oM 5 11,oM 6 12] none [6,5,4]) .ret))
def Zpk:Zaj:=⟨[(.tmp 4),(.tmp 5),(.tmp 6)],Zke⟩
theorem Zum:FC 38=some Zpk:=by kernel_rfl
theorem Zsf:Zpk.body=Zke:=rfl
theorem ZsX:Zpk.res=[(.tmp 4),(.tmp 5),(.tmp 6)]:=rfl
def ZkS:ZM:=(.seq (.region [oI 4 (.mov (.c (.str []))),oI 5 (.mov (.c (.bool false)))] none [1,0]) (.seq (.region [oM 6 0,oM 7 1,oI 8 (.call 51 0 true [(.t 6),(.t 7)]),oI 9 (.ext (.t 8) 0),oI 10 (.ext (.t 8) 1),oM 4 9,oM 5 10] none [5,4]) .ret))
def ZqM:Zaj:=⟨[(.tmp 4),(.tmp 5)],ZkS⟩
theorem Zt1:FC 37=some ZqM:=by kernel_rfl
theorem ZvE:ZqM.body=ZkS:=rfl
theorem Zs3:ZqM.res=[(.tmp 4),(.tmp 5)]:=rfl
end
section
def ZqC:ZM:=(.seq (.region [oI 4 (.mov (.c (.int .i64 (-1))))] none [4]) .ret)
def Zsg:ZM:=ZqC
def ZIK:=xw Zsg ZqC rfl
def Zol:ZM:=(.seq (.seq (.region [oM 57 8,oM 58 9,oI 59 (.bin .lss (.t 57) (.t 58))] none [59,10,9,8,7,6,5,1,0]) (.cond (.t 59) .skip (.exit 1))) (.block 2 (.seq (.seq (.region [oM 60 0,oM 61 8,oI 62 (.sindex (.t 60) (.t 61)),oM 63 6,oI 64 (.bin .neq (.t 62) (.t 63))] none [64,10,9,8,7,6,5,1,0]) (.cond (.t 64) (.seq (.region [oM 65 0,oM 66 8,oI 67 (.bin .add (.t 66) (.c (.int .i64 1))),oM 68 9,oI 69 (.sslice (.t 65) (some (.t 67)) (some (.t 68))),oM 70 6,oI 71 (.call 79 0 true [(.t 69),(.t 70)]),oM 11 71] none [11,10,8,7,5,1,0]) (.seq (.seq (.region [oM 72 11,oI 73 (.bin .lss (.t 72) (.c (.int .i64 0)))] none [73,11,10,8,7,5,1,0]) (.cond (.t 73) (.seq (.region [oI 4 (.mov (.c (.int .i64 (-1))))] none [4]) .ret) .skip)) (.region [oM 74 8,oM 75 11,oI 76 (.bin .add (.t 75) (.c (.int .i64 1))),oI 77 (.bin .add (.t 74) (.t 76)),oM 8 77] none [10,8,7,5,1,0]))) .skip)) (.seq (.seq (.region [oM 78 0,oM 79 8,oI 80 (.bin .add (.t 79) (.c (.int .i64 1))),oI 81 (.sindex (.t 78) (.t 80)),oM 82 7,oI 83 (.bin .eql (.t 81) (.t 82)),oM 84 83,⟨(some 85),(.mov (.t 0)),(some (84,true)),[]⟩,⟨(some 86),(.mov (.t 8)),(some (84,true)),[]⟩,⟨(some 87),(.mov (.t 8)),(some (84,true)),[]⟩,⟨(some 88),(.mov (.t 5)),(some (84,true)),[]⟩,⟨(some 89),(.bin .add (.t 87) (.t 88)),(some (84,true)),[]⟩,⟨(some 90),(.sslice (.t 85) (some (.t 86)) (some (.t 89))),(some (84,true)),[]⟩,⟨(some 91),(.mov (.t 1)),(some (84,true)),[]⟩,⟨(some 92),(.bin .eql (.t 90) (.t 91)),(some (84,true)),[]⟩,oI 93 (.pick (.t 84) (.t 92) (.c (.bool false)))] none [93,10,8]) (.cond (.t 93) (.seq (.region [oM 94 8,oM 4 94] none [4]) .ret) .skip)) (.seq (.region [oM 95 8,oI 96 (.bin .add (.t 95) (.c (.int .i64 1))),oM 8 96] none [10]) (.seq (.region [oM 97 10,oI 98 (.bin .add (.t 97) (.c (.int .i64 1))),oM 10 98] none []) (.seq .stuck (.cond (.t 107) (.seq (.region [oM 108 0,oM 109 8,oI 110 (.sslice (.t 108) (some (.t 109)) none),oM 111 1,oI 112 (.call 80 0 true [(.t 110),(.t 111)]),oM 12 112] none [12,8]) (.seq (.seq (.region [oM 113 12,oI 114 (.bin .geq (.t 113) (.c (.int .i64 0)))] none [114,12,8]) (.cond (.t 114) (.seq (.region [oM 115 12,oM 116 8,oI 117 (.bin .add (.t 115) (.t 116)),oM 4 117] none [4]) .ret) .skip)) (.seq (.region [oI 4 (.mov (.c (.int .i64 (-1))))] none [4]) .ret))) (.seq .stuck (.cond (.t 132) (.seq (.region [oM 133 0,oM 134 8,oI 135 (.sslice (.t 133) (some (.t 134)) none),oM 136 1,oI 137 (.call 82 0 true [(.t 135),(.t 136)]),oM 13 137] none [13,8]) (.seq (.seq (.region [oM 138 13,oI 139 (.bin .lss (.t 138) (.c (.int .i64 0)))] none [139,13,8]) (.cond (.t 139) (.seq (.region [oI 4 (.mov (.c (.int .i64 (-1))))] none [4]) .ret) .skip)) (.seq (.region [oM 140 8,oM 141 13,oI 142 (.bin .add (.t 140) (.t 141)),oM 4 142] none [4]) .ret))) .skip))))))))))
def ZrM:ZM:=Zol
def ZCt:=xw ZrM Zol rfl
def ZmP:ZM:=(.seq (.region [oI 4 (.mov (.c (.int .i64 0)))] none [1,0]) (.seq (.region [oM 14 1,oI 15 (.slen (.t 14)),oM 5 15] none [5,1,0]) (.seq (.block 0 (.seq (.region [oM 17 5,oI 18 (.bin .eql (.t 17) (.c (.int .i64 0))),oM 19 18,⟨(some 20),(.mov (.t 1)),(some (19,false)),[]⟩,⟨(some 21),(.mov (.t 0)),(some (19,false)),[]⟩,⟨(some 22),(.bin .eql (.t 20) (.t 21)),(some (19,false)),[]⟩,oI 23 (.pick (.t 19) (.c (.bool true)) (.t 22)),oM 16 23] none [16,5,1,0]) (.cond (.t 16) (.seq (.region [oI 4 (.mov (.c (.int .i64 0)))] none [4]) .ret) (.seq (.region [oM 25 5,oI 26 (.bin .eql (.t 25) (.c (.int .i64 1))),oM 24 26] none [24,5,1,0]) (.cond (.t 24) (.seq (.region [oM 27 0,oM 28 1,oI 29 (.sindex (.t 28) (.c (.int .i64 0))),oI 30 (.call 79 0 true [(.t 27),(.t 29)]),oM 4 30] none [4]) .ret) (.seq (.region [oM 32 5,oM 33 0,oI 34 (.slen (.t 33)),oI 35 (.bin .geq (.t 32) (.t 34)),oM 31 35] none [31]) (.cond (.t 31) (.seq (.region [oI 4 (.mov (.c (.int .i64 (-1))))] none [4]) .ret) (.seq .stuck (.cond (.t 36) (.seq (.region [oM 45 0,oM 46 1,oI 47 (.call 80 0 true [(.t 45),(.t 46)]),oM 4 47] none [4]) .ret) .skip))))))))) (.seq (.region [oM 48 1,oI 49 (.sindex (.t 48) (.c (.int .i64 0))),oM 6 49] none [6,5,1,0]) (.seq (.region [oM 50 1,oI 51 (.sindex (.t 50) (.c (.int .i64 1))),oM 7 51] none [7,6,5,1,0]) (.seq (.region [oI 8 (.mov (.c (.int .i64 0)))] none [8,7,6,5,1,0]) (.seq (.region [oM 52 0,oI 53 (.slen (.t 52)),oM 54 5,oI 55 (.bin .sub (.t 53) (.t 54)),oI 56 (.bin .add (.t 55) (.c (.int .i64 1))),oM 9 56] none [9,8,7,6,5,1,0]) (.seq (.region [oI 10 (.mov (.c (.int .i64 0)))] none [10,9,8,7,6,5,1,0]) (.seq (.block 1 (.loop [10,9,8,7,6,5,1,0] ZrM)) Zsg)))))))))
def Zqg:Zaj:=⟨[(.tmp 4)],ZmP⟩
theorem ZDh:FC 60=some Zqg:=by kernel_rfl
theorem ZHe:Zqg.body=ZmP:=rfl
theorem ZEM:Zqg.res=[(.tmp 4)]:=rfl
def Zno:ZM:=(.seq (.region [oI 4 (.mov (.c (.int .i64 0)))] none [1,0]) (.seq (.region [oM 5 0,oM 6 1,oI 7 (.call 60 0 true [(.t 5),(.t 6)]),oM 4 7] none [4]) .ret))
def ZqL:Zaj:=⟨[(.tmp 4)],Zno⟩
theorem ZLe:FC 94=some ZqL:=by kernel_rfl
theorem ZF3:ZqL.body=Zno:=rfl
theorem ZGU:ZqL.res=[(.tmp 4)]:=rfl
def Znh:ZM:=(.seq (.region [oI 4 (.mov (.c (.lst true [])))] none [1,0]) (.seq (.region [oM 5 0,oM 6 1,oI 7 (.call 78 0 true [(.t 5),(.t 6),(.c (.int .i64 0)),(.c (.int .i64 (-1)))]),oM 4 7] none [4]) .ret))
def Zoh:Zaj:=⟨[(.tmp 4)],Znh⟩
theorem ZFV:FC 58=some Zoh:=by kernel_rfl
theorem ZIs:Zoh.body=Znh:=rfl
theorem ZA0:Zoh.res=[(.tmp 4)]:=rfl
def Zjp:ZM:=(.seq (.region [oM 58 9,oM 59 10,oM 60 0,oI 61 (.iaddr 1 (.t 58) (.t 59)),oN (.st 1 (.t 61) (.t 60))] none [10,9]) (.seq (.region [oM 62 9,oM 63 10,oI 64 (.bin .add (.t 63) (.c (.int .i64 1))),oI 65 (.slice 1 (.t 62) none (some (.t 64)) none),oM 8 65] none [8]) .ret))
def Znm:ZM:=Zjp
def Zm6:=xw Znm Zjp rfl
def Zit:ZM:=(.seq (.seq (.region [oM 34 10,oM 35 3,oI 36 (.bin .lss (.t 34) (.t 35))] none [36,10,9,3,2,1,0]) (.cond (.t 36) .skip (.exit 0))) (.block 1 (.seq (.region [oM 37 0,oM 38 1,oI 39 (.call 94 0 true [(.t 37),(.t 38)]),oM 11 39] none [11,10,9,3,2,1,0]) (.seq (.seq (.region [oM 40 11,oI 41 (.bin .lss (.t 40) (.c (.int .i64 0)))] none [41,11,10,9,3,2,1,0]) (.cond (.t 41) (.exit 0) .skip)) (.seq (.region [oM 42 9,oM 43 10,oM 44 0,oM 45 11,oM 46 2,oI 47 (.bin .add (.t 45) (.t 46)),oI 48 (.sslice (.t 44) none (some (.t 47))),oI 49 (.iaddr 1 (.t 42) (.t 43)),oN (.st 1 (.t 49) (.t 48))] none [11,10,9,3,2,1,0]) (.seq (.region [oM 50 0,oM 51 11,oM 52 1,oI 53 (.slen (.t 52)),oI 54 (.bin .add (.t 51) (.t 53)),oI 55 (.sslice (.t 50) (some (.t 54)) none),oM 0 55] none [10,9,3,2,1,0]) (.region [oM 56 10,oI 57 (.bin .add (.t 56) (.c (.int .i64 1))),oM 10 57] none [10,9,3,2,1,0])))))))
def Zqa:ZM:=Zit
def ZqP:=xw Zqa Zit rfl
def ZiT:ZM:=(.seq (.region [oI 8 (.mov (.c (.lst true [])))] none [3,2,1,0]) (.seq (.seq (.region [oM 12 3,oI 13 (.bin .eql (.t 12) (.c (.int .i64 0)))] none [13,3,2,1,0]) (.cond (.t 13) (.seq (.region [oI 8 (.mov (.c (.lst true [])))] none [8]) .ret) .skip)) (.seq (.seq (.region [oM 14 1,oI 15 (.bin .eql (.t 14) (.c (.str [])))] none [15,3,2,1,0]) (.cond (.t 15) (.seq (.region [oM 16 0,oM 17 3,oI 18 (.call 92 0 true [(.t 16),(.t 17)]),oM 8 18] none [8]) .ret) .skip)) (.seq (.seq (.region [oM 19 3,oI 20 (.bin .lss (.t 19) (.c (.int .i64 0)))] none [20,3,2,1,0]) (.cond (.t 20) (.region [oM 21 0,oM 22 1,oI 23 (.call 93 0 true [(.t 21),(.t 22)]),oI 24 (.bin .add (.t 23) (.c (.int .i64 1))),oM 3 24] none [3,2,1,0]) .skip)) (.seq (.region [oM 25 3,oM 26 0,oI 27 (.slen (.t 26)),oI 28 (.bin .add (.t 27) (.c (.int .i64 1))),oI 29 (.mm false [(.t 25),(.t 28)]),oM 3 29] none [3,2,1,0]) (.seq (.region [oM 30 3,oI 31 (.mkslice 1 16 (.str []) (.t 30) (.t 30)),oM 9 31] none [9,3,2,1,0]) (.seq (.region [oM 32 3,oI 33 (.bin .sub (.t 32) (.c (.int .i64 1))),oM 3 33] none [9,3,2,1,0]) (.seq (.region [oI 10 (.mov (.c (.int .i64 0)))] none [10,9,3,2,1,0]) (.seq (.block 0 (.loop [10,9,3,2,1,0] Zqa)) Znm)))))))))
def Zk5:Zaj:=⟨[(.tmp 8)],ZiT⟩
theorem ZKT:FC 78=some Zk5:=by kernel_rfl
theorem ZmT:Zk5.body=ZiT:=rfl
theorem Zob:Zk5.res=[(.tmp 8)]:=rfl
noncomputable def Zlb (m:Nat) (tm:Tms) (σ:Za):Option (AVal×Za):=(ZaL m Zk5 (Zbi FC PR BY m Znm (Wt (Za6 0) (evL FC PR BY m [10,9,3,2,1,0] Zqa tm σ))))
end
section
def Znb:ZM:=(.seq (.region [oI 4 (.mov (.c (.bool false)))] none [1,0]) (.seq (.region [oM 5 0,oM 6 1,oI 7 (.call 25 0 true [(.t 5),(.t 6)]),oI 8 (.bin .geq (.t 7) (.c (.int .i64 0))),oM 4 8] none [4]) .ret))
def ZmL:Zaj:=⟨[(.tmp 4)],Znb⟩
theorem ZLa:FC 22=some ZmL:=by kernel_rfl
theorem ZFS:ZmL.body=Znb:=rfl
theorem ZI5:ZmL.res=[(.tmp 4)]:=rfl
def Zqn:ZM:=(.seq (.region [oI 6 (.mov (.c (.lst true [])))] none [2,1,0]) (.seq (.region [oM 8 0,oM 9 1,oM 10 2,oM 11 0,oI 12 (.len (.t 11)),oI 13 (.slice 1 (.t 8) (some (.t 9)) (some (.t 10)) (some (.t 12)))] none [2,1,0]) (.seq (.seq (.region [oM 14 1,oM 15 2,oI 16 (.bin .eql (.t 14) (.t 15))] none [16,2,1,0]) (.cond (.t 16) (.seq (.region [oM 17 0,oM 6 17] none [6]) .ret) .skip)) (.seq (.region [oM 18 0,oI 19 (.len (.t 18)),oM 7 19] none [7,2,1,0]) (.seq (.region [oM 20 0,oM 21 1,oI 22 (.slice 1 (.t 20) none (some (.t 21)) none),oM 23 0,oM 24 2,oI 25 (.slice 1 (.t 23) (some (.t 24)) none none),oI 26 (.app 1 16 (.str []) (.t 22) (.t 25)),oM 0 26] (some [(2,5)]) [7,0]) (.seq (.region [oM 27 0,oM 28 0,oI 29 (.len (.t 28)),oM 30 7,oI 31 (.slice 1 (.t 27) (some (.t 29)) (some (.t 30)) none),oN (.clr 1 (.str []) (.t 31))] none [0]) (.seq (.region [oM 32 0,oM 6 32] none [6]) .ret)))))))
def ZoJ:Zaj:=⟨[(.tmp 6)],Zqn⟩
theorem ZBb:FC 26=some ZoJ:=by kernel_rfl
theorem ZGY:ZoJ.body=Zqn:=rfl
theorem ZyF:ZoJ.res=[(.tmp 6)]:=rfl
def Ziq:ZM:=(.seq (.region [oI 4 (.mov (.c (.int .i64 (-1))))] none [4]) .ret)
def Zox:ZM:=Ziq
def Zl5:=xw Zox Ziq rfl
def Zh1:ZM:=(.seq (.region [oI 9 (.bin .lss (.t 8) (.t 7))] none [9,8,7,1,0]) (.seq (.cond (.t 9) .skip (.exit 0)) (.seq (.block 1 (.seq (.region [oM 10 8,oM 5 10] none [8,7,5,1,0]) (.seq (.region [oM 11 1,oM 12 0,oM 13 5,oI 14 (.iaddr 1 (.t 12) (.t 13)),oL 15 14,oI 16 (.bin .eql (.t 11) (.t 15))] none [16,8,7,5,1,0]) (.cond (.t 16) (.seq (.region [oM 17 5,oM 4 17] none [4]) .ret) .skip)))) (.region [oI 18 (.bin .add (.t 8) (.c (.int .i64 1))),oM 8 18] none [8,7,1,0]))))
def Znp:ZM:=Zh1
def ZlM:=xw Znp Zh1 rfl
def Zia:ZM:=(.seq (.region [oI 4 (.mov (.c (.int .i64 0)))] none [1,0]) (.seq (.seq (.region [oM 6 0,oI 7 (.len (.t 6)),oI 8 (.mov (.c (.int .i64 0)))] none [8,7,1,0]) (.block 0 (.loop [8,7,1,0] Znp))) Zox))
def Zl7:Zaj:=⟨[(.tmp 4)],Zia⟩
theorem ZH7:FC 25=some Zl7:=by kernel_rfl
theorem ZlG:Zl7.body=Zia:=rfl
theorem Zkl:Zl7.res=[(.tmp 4)]:=rfl
noncomputable def ZiF (m:Nat) (tm:Tms) (σ:Za):Option (AVal×Za):=(ZaL m Zl7 (Zbi FC PR BY m Zox (Wt (Za6 0) (evL FC PR BY m [8,7,1,0] Znp tm σ))))
end
section
end
section
abbrev Tx:=List UInt8
def ZcH (v:Tx):Nat->List Tx->Int
 | _,[]=>-1
 | i,x::r=>if v == x then (i:Int) else ZcH v (i+1) r
theorem Zvt (v:Tx):∀ (r:List Tx) (i:Nat),decide (ZcH v i r>=0)=r.contains v
 | [],i=>by simp [ZcH]
 | x::r,i=>by
  unfold ZcH
  rw [Wo]
  cases h:(v == x) with
  | true=>simp
  | false=>simp only [Xq,if_false,Xbu];exact Zvt v r (i+1)
theorem Zjl (l:List Tx):kOk 1 (l.map AVal.str)=true:=by cases l <;> rfl
theorem ZtA (l:List Tx) (hl:l.length<=9223372036854775807) (v:Tx):∀ (r:List Tx) (i:Nat),l.drop i=r ->
  ZiF 0 [(8,.int .i64 (i:Int)),(7,.int .i64 (l.length:Int)),(1,.str v),(0,.lst false (l.map AVal.str))] []=some (.int .i64 (ZcH v i r),[])
 | [],i,h=>by
  have h1:=ZbF h
  unfold ZiF ZcH
  rw [ZY]
  simp -implicitDefEqProofs only [EQA,Zn,Zi,Zm,Zk,Zj,Zl,Zz,ZG,ZC,Zy,ZE,ZF,ZA,ZB,ZD,implies_true,forall_const,Xh,Xi,Xl,Xe,Xf,Xj,Xk,Zv,Zx,unA,Zt,Zu,unG,reduceCtorEq,Zr,decide_eq_true_eq,Xd,Xb,ite_self,↓reduceIte,Zs,Zw,gcT,gcA,Zq,Zd,Zc,Ze,Zh,Zb,Zg,Zf,Zo,Xc,ZlG,Zia,Zkl,Zl5,Ziq,ZlM,Zh1,Zp,ZI,ZK,ZJ,ZH,ZL,h1]
 | x::r,i,h=>by
  have ih:=ZtA l hl v r (i+1) (ZaC h).2.1
  have h1:(i:Int) < l.length:=by have:=(ZaC h).2.2;omega
  have e1:=iad (ZaC h).1 AVal.str (k:=1) rfl
  have e3:=Zbh h1 hl
  unfold ZcH
  cases hb:(v == x)
  ·rw [if_neg (by simp)]
   unfold ZiF at ih ⊢
   rw [ZY]
   simp -implicitDefEqProofs only [EQA,Zn,Zi,Zm,Zk,Zj,Zl,Zz,ZG,ZC,Zy,ZE,ZF,ZA,ZB,ZD,implies_true,forall_const,Xh,Xi,Xl,Xe,Xf,Xj,Xk,Zv,Zx,unA,Zt,Zu,unG,reduceCtorEq,Zr,decide_eq_true_eq,Xd,Xb,ite_self,↓reduceIte,Zs,Zw,gcT,gcA,Zq,Zd,Zc,Ze,Zh,Zb,Zg,Zf,Zo,Xc,ZlG,Zia,Zkl,Zl5,Ziq,ZlM,Zh1,Zp,ZI,ZK,ZJ,ZH,ZL,h1,e1,e3,hb,AVal.cells]
   exact ih
  ·rw [if_pos rfl]
   unfold ZiF at ih ⊢
   rw [ZY]
   simp -implicitDefEqProofs only [EQA,Zn,Zi,Zm,Zk,Zj,Zl,Zz,ZG,ZC,Zy,ZE,ZF,ZA,ZB,ZD,implies_true,forall_const,Xh,Xi,Xl,Xe,Xf,Xj,Xk,Zv,Zx,unA,Zt,Zu,unG,reduceCtorEq,Zr,decide_eq_true_eq,Xd,Xb,ite_self,↓reduceIte,Zs,Zw,gcT,gcA,Zq,Zd,Zc,Ze,Zh,Zb,Zg,Zf,Zo,Xc,ZlG,Zia,Zkl,Zl5,Ziq,ZlM,Zh1,Zp,ZI,ZK,ZJ,ZH,ZL,h1,e1,e3,hb,AVal.cells]
theorem Zoo (l:List Tx) (hl:l.length<=9223372036854775807) (v:Tx):E 25 [.lst false (l.map AVal.str),.str v] []=some (.int .i64 (ZcH v 0 l),[]):=by
 have h:=ZtA l hl v l 0 rfl
 have z0:((0:Nat):Int)=0:=rfl
 rw [z0] at h
 unfold ZiF at h
 rw [ZaJ (by rfl) ZH7]
 simp -implicitDefEqProofs only [EQA,Zn,Zi,Zm,Zk,Zj,Zl,Zz,ZG,ZC,Zy,ZE,ZF,ZA,ZB,ZD,implies_true,forall_const,Xh,Xi,Xl,Xe,Xf,Xj,Xk,Zv,Zx,unA,Zt,Zu,unG,reduceCtorEq,Zr,decide_eq_true_eq,Xd,Xb,ite_self,↓reduceIte,Zs,Zw,gcT,gcA,Zq,Zd,Zc,Ze,Zh,Zb,Zg,Zf,Zo,Xc,ZlG,Zia,Zkl,Zl5,Ziq,ZlM,Zh1,Zp,ZI,ZK,ZJ,ZH,ZL,AVal.cells]
 exact h
theorem Zq9 (l:List Tx) (hl:l.length<=9223372036854775807) (v:Tx):E 22 [.lst false (l.map AVal.str),.str v] []=some (.bool (l.contains v),[]):=by
 have hC:∀ (σ:Za) (sq own:Nat),ZQ E BY σ sq 25 own true [.lst false (l.map AVal.str),.str v]=some (.int .i64 (ZcH v 0 l),σ,{}):=fun σ sq own=>ZfF (Zoo l hl v) (by kernel_rfl) rfl rfl rfl (fun _=>rfl) σ sq own
 rw [ZaJ (by rfl) ZLa]
 rw [<-Zvt v l 0]
 simp -implicitDefEqProofs only [EQA,Zn,Zi,Zm,Zk,Zj,Zl,Zz,ZG,ZC,Zy,ZE,ZF,ZA,ZB,ZD,implies_true,forall_const,Xh,Xi,Xl,Xe,Xf,Xj,Xk,Zv,Zx,unA,Zt,Zu,unG,reduceCtorEq,Zr,decide_eq_true_eq,Xd,Xb,ite_self,↓reduceIte,Zs,Zw,gcT,gcA,Zq,Zd,Zc,Ze,Zh,Zb,Zg,Zf,Zo,Xc,ZFS,Znb,ZI5,Zp,ZI,ZK,ZJ,ZH,ZL,hC]
theorem ZkU (l:List Tx) (b:Bool) (hl:l.length<=9223372036854775807) (v:Tx) (σ:Za) (sq own:Nat):ZQ E BY σ sq 22 own true [.lst b (l.map AVal.str),.str v]=some (.bool (l.contains v),σ,{}) :=
 ZfF (Zq9 l hl v) (by kernel_rfl) rfl rfl rfl (fun _=>rfl) σ sq own
def ZdB (fz:Bool) (g:Nat) (S:List AVal):Z5:=if fz then .frow g 1 S else .row g 1 S
theorem ZpG (σ:Za) (t g n:Nat) (fz:Bool) (S:List AVal) (hn:n=S.length) (hs:σ[t]?=some (ZdB fz g S)):Zr σ (.sl t g 0 n)=some (S,[t]):=by
 subst hn
 cases fz <;> simp only [ZdB,Xq,if_false,if_true] at hs <;> simp [Zr,hs]
end
section
theorem ZrB (L:List Tx) (h:L.length<=1000000):E 27 [.lst false (L.map AVal.str)] []=some (.sl 0 0 0 L.length,[.row 0 1 (L.map AVal.str)]):=by
 refine Zcp.2 ⟨1,?_⟩
 show Zjk 1 16 [.lst false (L.map AVal.str)] []=_
 have h1:(L.map AVal.str).length*16<=140737488355328/\kOk 1 (L.map AVal.str)=true:=⟨by simp;omega,Zjl L⟩
 simp only [Zjk,Zr]
 rw [if_pos h1];simp
theorem Zue (L:List Tx):(L.map AVal.str).all Zbu=true:=by
 rw [List.all_eq_true]
 intro x hx
 obtain ⟨b,_,rfl⟩:=X0.1 hx
 rfl
def amF (o:List Tx) (are:Bool) (l:List Tx):List Tx:=l.filter fun s=>o.contains s == are
theorem ZfD (o:List Tx) (are:Bool) (x:Tx) (l:List Tx):amF o are (x::l)=if (o.contains x == are)=true then x::amF o are l else amF o are l:=by
 unfold amF
 rw [Xa0]
section
variable (l o:List Tx) (are:Bool) (hl:l.length<=1000000) (ho:o.length<=9223372036854775807)
include hl ho
theorem Zm9:∀ (r:List Tx) (i:Nat) (a:List Tx),l.drop i=r->a.length<=i->i<=l.length ->
  ZeQ 0 [(12,.int .i64 (i:Int)),(11,.int .i64 (l.length:Int)),(10,.lst false (l.map AVal.str)),(7,.sl 0 0 0 a.length),(2,.bool are),(1,.lst false (o.map AVal.str))] [.row 0 1 (a.map AVal.str)]=some (.sl 0 0 0 (a++amF o are r).length,[.row 0 1 ((a++amF o are r).map AVal.str)])
 | [],i,a,h,ha,hi=>by
  have h1:=ZbF h
  rw [show amF o are []=[] from rfl,Xw]
  have hout:Zan 0 [.row 0 1 (a.map AVal.str)] (.sl 0 0 0 a.length)=some (.sl 0 0 0 a.length,[.row 0 1 (a.map AVal.str)]):=rfl
  unfold ZeQ
  generalize a.map AVal.str=A at *
  rw [ZY]
  simp -implicitDefEqProofs only [EQA,Zn,Zi,Zm,Zk,Zj,Zl,Zz,ZG,ZC,Zy,ZE,ZF,ZA,ZB,ZD,implies_true,forall_const,Xh,Xi,Xl,Xe,Xf,Xj,Xk,Zv,Zx,unA,Zt,Zu,unG,reduceCtorEq,Zr,decide_eq_true_eq,Xd,Xb,ite_self,↓reduceIte,Zs,Zw,gcT,gcA,Zq,Zd,Zc,Ze,Zh,Zb,Zg,Zf,Zo,Xc,Zg5,Zfa,Zg6,ZgF,Zfi,Zgx,Zfu,Zp,ZI,ZK,ZJ,ZH,ZL,h1,hout]
 | x::r,i,a,h,ha,hi=>by
  obtain ⟨g1,d1,l1⟩:=ZaC h
  have h1:(i:Int) < l.length:=by omega
  have e1:=iad g1 AVal.str (k:=1) rfl
  have e3:=Zbh h1 (by omega)
  have hC:=ZkU o false ho x
  have hv:∀ (σ:Za),viewAs σ [.str x]=some ([.str x],[]):=fun _=>rfl
  have b1:(a.length+1)*16<=140737488355328:=by omega
  have hS1:(a.map AVal.str).length=a.length:=by simp
  rw [ZfD]
  cases hc:(o.contains x == are) with
  | false =>
   have ih:=Zm9 r (i+1) a d1 (by omega) (by omega)
   rw [if_neg (by simp)]
   have hc':((o.contains x == are) != false)=false:=by rw [hc];rfl
   unfold ZeQ at ih ⊢
   generalize a.map AVal.str=A at *
   generalize l.map AVal.str=S at *
   rw [ZY]
   simp -implicitDefEqProofs only [EQA,Zn,Zi,Zm,Zk,Zj,Zl,Zz,ZG,ZC,Zy,ZE,ZF,ZA,ZB,ZD,implies_true,forall_const,Xh,Xi,Xl,Xe,Xf,Xj,Xk,Zv,Zx,unA,Zt,Zu,unG,reduceCtorEq,Zr,decide_eq_true_eq,Xd,Xb,ite_self,↓reduceIte,Zs,Zw,gcT,gcA,Zq,Zd,Zc,Ze,Zh,Zb,Zg,Zf,Zo,Xc,Zg5,Zfa,Zg6,ZgF,Zfi,Zgx,Zfu,Zp,ZI,ZK,ZJ,ZH,ZL,h1,e1,e3,hC,hc',AVal.cells]
   exact ih
  | true =>
   have ih:=Zm9 r (i+1) (a++[x]) d1 (by simp;omega) (by omega)
   rw [if_pos rfl]
   have hc':((o.contains x == are) != false)=true:=by rw [hc];rfl
   have e5:(a++[x]).map AVal.str=a.map AVal.str++[.str x]:=by simp
   have e6:a++x::amF o are r=a++[x]++amF o are r:=by simp
   have e7:(a++[x]).length=a.length+1:=by simp
   rw [e6]
   rw [e5,e7] at ih
   unfold ZeQ at ih ⊢
   generalize a.map AVal.str=A at *
   generalize l.map AVal.str=S at *
   rw [ZY]
   simp -implicitDefEqProofs only [EQA,Zn,Zi,Zm,Zk,Zj,Zl,Zz,ZG,ZC,Zy,ZE,ZF,ZA,ZB,ZD,implies_true,forall_const,Xh,Xi,Xl,Xe,Xf,Xj,Xk,Zv,Zx,unA,Zt,Zu,unG,reduceCtorEq,Zr,decide_eq_true_eq,Xd,Xb,ite_self,↓reduceIte,Zs,Zw,gcT,gcA,Zq,Zd,Zc,Ze,Zh,Zb,Zg,Zf,Zo,Xc,Zg5,Zfa,Zg6,ZgF,Zfi,Zgx,Zfu,Zp,ZI,ZK,ZJ,ZH,ZL,h1,e1,e3,hC,hc',hv,b1,hS1,AVal.cells,kOk,ZS,ZaI,XQ,Wy,XR,X9]
   exact ih
theorem Zs9:∀ (r:List Tx) (i:Nat),l.drop i=r->i<=l.length ->
  ZeQ 0 [(12,.int .i64 (i:Int)),(11,.int .i64 (l.length:Int)),(10,.lst false (l.map AVal.str)),(7,.lst true []),(2,.bool are),(1,.lst false (o.map AVal.str))] []=(if amF o are r=[] then some (.lst true [],[]) else some (.sl 0 0 0 (amF o are r).length,[.row 0 1 ((amF o are r).map AVal.str)]))
 | [],i,h,hi=>by
  have h1:=ZbF h
  rw [if_pos (show amF o are []=[] from rfl)]
  unfold ZeQ
  rw [ZY]
  simp -implicitDefEqProofs only [EQA,Zn,Zi,Zm,Zk,Zj,Zl,Zz,ZG,ZC,Zy,ZE,ZF,ZA,ZB,ZD,implies_true,forall_const,Xh,Xi,Xl,Xe,Xf,Xj,Xk,Zv,Zx,unA,Zt,Zu,unG,reduceCtorEq,Zr,decide_eq_true_eq,Xd,Xb,ite_self,↓reduceIte,Zs,Zw,gcT,gcA,Zq,Zd,Zc,Ze,Zh,Zb,Zg,Zf,Zo,Xc,Zg5,Zfa,Zg6,ZgF,Zfi,Zgx,Zfu,Zp,ZI,ZK,ZJ,ZH,ZL,h1]
 | x::r,i,h,hi=>by
  obtain ⟨g1,d1,l1⟩:=ZaC h
  have h1:(i:Int) < l.length:=by omega
  have e1:=iad g1 AVal.str (k:=1) rfl
  have e3:=Zbh h1 (by omega)
  have hC:=ZkU o false ho x
  have hv:∀ (σ:Za),viewAs σ [.str x]=some ([.str x],[]):=fun _=>rfl
  have b1:1*16<=140737488355328:=by omega
  rw [ZfD]
  cases hc:(o.contains x == are) with
  | false =>
   have ih:=Zs9 r (i+1) d1 (by omega)
   rw [if_neg (show ¬(false=true) by simp)]
   have hc':((o.contains x == are) != false)=false:=by rw [hc];rfl
   rw [<-ih]
   unfold ZeQ
   generalize l.map AVal.str=S at *
   rw [ZY]
   simp -implicitDefEqProofs only [EQA,Zn,Zi,Zm,Zk,Zj,Zl,Zz,ZG,ZC,Zy,ZE,ZF,ZA,ZB,ZD,implies_true,forall_const,Xh,Xi,Xl,Xe,Xf,Xj,Xk,Zv,Zx,unA,Zt,Zu,unG,reduceCtorEq,Zr,decide_eq_true_eq,Xd,Xb,ite_self,↓reduceIte,Zs,Zw,gcT,gcA,Zq,Zd,Zc,Ze,Zh,Zb,Zg,Zf,Zo,Xc,Zg5,Zfa,Zg6,ZgF,Zfi,Zgx,Zfu,Zp,ZI,ZK,ZJ,ZH,ZL,h1,e1,e3,hC,hc',AVal.cells]
  | true =>
   have ih:=Zm9 l o are hl ho r (i+1) [x] d1 (by simp) (by omega)
   rw [if_pos (show true=true from rfl),if_neg (by simp)]
   have hc':((o.contains x == are) != false)=true:=by rw [hc];rfl
   rw [show x::amF o are r=[x]++amF o are r from rfl,<-ih,show [x].map AVal.str=[.str x] from rfl]
   unfold ZeQ
   generalize l.map AVal.str=S at *
   rw [ZY]
   simp -implicitDefEqProofs only [EQA,Zn,Zi,Zm,Zk,Zj,Zl,Zz,ZG,ZC,Zy,ZE,ZF,ZA,ZB,ZD,implies_true,forall_const,Xh,Xi,Xl,Xe,Xf,Xj,Xk,Zv,Zx,unA,Zt,Zu,unG,reduceCtorEq,Zr,decide_eq_true_eq,Xd,Xb,ite_self,↓reduceIte,Zs,Zw,gcT,gcA,Zq,Zd,Zc,Ze,Zh,Zb,Zg,Zf,Zo,Xc,Zg5,Zfa,Zg6,ZgF,Zfi,Zgx,Zfu,Zp,ZI,ZK,ZJ,ZH,ZL,h1,e1,e3,hC,hc',hv,b1,AVal.cells,kOk,ZS,ZaI,XQ,Wy,XR,X9]
theorem ZzT:E 34 [.lst false (l.map AVal.str),.lst false (o.map AVal.str),.bool are] []=(if amF o are l=[] then some (.lst true [],[]) else some (.sl 0 0 0 (amF o are l).length,[.row 0 1 ((amF o are l).map AVal.str)])):=by
 have h:=Zs9 l o are hl ho l 0 rfl (Nat.zero_le _)
 have z0:((0:Nat):Int)=0:=rfl
 have hL:(l.map AVal.str).length=l.length:=by simp
 rw [z0] at h
 rw [<-h]
 unfold ZeQ
 generalize l.map AVal.str=S at *
 rw [ZaJ (by rfl) ZHh]
 simp -implicitDefEqProofs only [EQA,Zn,Zi,Zm,Zk,Zj,Zl,Zz,ZG,ZC,Zy,ZE,ZF,ZA,ZB,ZD,implies_true,forall_const,Xh,Xi,Xl,Xe,Xf,Xj,Xk,Zv,Zx,unA,Zt,Zu,unG,reduceCtorEq,Zr,decide_eq_true_eq,Xd,Xb,ite_self,↓reduceIte,Zs,Zw,gcT,gcA,Zq,Zd,Zc,Ze,Zh,Zb,Zg,Zf,Zo,Xc,Zg5,Zfa,Zg6,ZgF,Zfi,Zgx,Zfu,Zp,ZI,ZK,ZJ,ZH,ZL,hL]
theorem ZJB:ZaG true 0 (E 34 [.lst false (l.map AVal.str),.lst false (o.map AVal.str),.bool are] [])=some (.lst false ((amF o are l).map AVal.str),[]):=by
 rw [ZzT l o are hl ho]
 by_cases h:amF o are l=[]
 ·rw [if_pos h,h];rfl
 ·rw [if_neg h]
  unfold ZaG
  rw [if_pos rfl,ZoI (k:=1) (g:=0) (t:=0) (xs:=(amF o are l).map AVal.str) rfl (by simp),Wc (by simp)]
end
end
section
theorem Zva {O:Zat} {bf:Nat->Bool} {f:Nat} {args args':List AVal} {r':AVal} (h:ZaG true 0 (O f args' [])=some (r',[])) (hb:bf f=false) (hp:args.all ZaX=true) (hn:args.map Zaw=args') (hr:∀ sq,ZN (ZaM [] [] sq) r'=r') (σ:Za) (sq own:Nat):ZQ O bf σ sq f own true args=some (r',σ,{}):=by
 cases hO:O f args' [] with
 | none =>
  rw [hO] at h
  unfold ZaG at h
  split at h <;> cases h
 | some q =>
  rw [Zi5 hb hp,hn,h]
  exact Zmw _ _ _ _ (hr _)
theorem ZuL (l o:List Tx) (are a b:Bool) (hl:l.length<=1000000) (ho:o.length<=9223372036854775807) (σ:Za) (sq own:Nat):ZQ E BY σ sq 34 own true [.lst a (l.map AVal.str),.lst b (o.map AVal.str),.bool are]=some (.lst false ((amF o are l).map AVal.str),σ,{}) :=
 Zva (ZJB l o are hl ho) (by kernel_rfl) rfl rfl (fun _=>rfl) σ sq own
def chL (first but ms:List Tx):List Tx:=if amF first true (amF but false ms)=[] then amF but false ms else amF first true (amF but false ms)
theorem ZtU (o:List Tx) (are:Bool) (l:List Tx):(amF o are l).length<=l.length:=Xaf _ _
theorem ZrP (l:List Tx) (hl:l.length<=9223372036854775807) (v:Tx):∀ (r:List Tx) (i:Nat),l.drop i=r ->
  Zjq 0 [(5,.int .i64 (i:Int)),(1,.str v),(0,.lst false (l.map AVal.str))] []=some (.bool (r.contains v),[])
 | [],i,h=>by
  have h1:=ZbF h
  unfold Zjq
  rw [ZY,show ([]:List Tx).contains v=false from rfl]
  have hL:(l.map AVal.str).length=l.length:=by simp
  simp -implicitDefEqProofs only [EQA,Zn,Zi,Zm,Zk,Zj,Zl,Zz,ZG,ZC,Zy,ZE,ZF,ZA,ZB,ZD,implies_true,forall_const,Xh,Xi,Xl,Xe,Xf,Xj,Xk,Zv,Zx,unA,Zt,Zu,unG,reduceCtorEq,Zr,decide_eq_true_eq,Xd,Xb,ite_self,↓reduceIte,Zs,Zw,gcT,gcA,Zq,Zd,Zc,Ze,Zh,Zb,Zg,Zf,Zo,Xc,ZkX,ZhU,ZkN,Zmu,ZhZ,Zk3,Zhl,Zp,ZI,ZK,ZJ,ZH,ZL,h1,hL]
 | x::r,i,h=>by
  have ih:=ZrP l hl v r (i+1) (ZaC h).2.1
  have h1:(i:Int) < l.length:=by have:=(ZaC h).2.2;omega
  have e1:=iad (ZaC h).1 AVal.str (k:=1) rfl
  have e3:=Zbh h1 hl
  have hL:(l.map AVal.str).length=l.length:=by simp
  rw [Wo]
  have hbx:(v == x)=(x == v):=by
   by_cases h:v=x
   ·rw [h]
   ·rw [beq_eq_false_iff_ne.2 h,beq_eq_false_iff_ne.2 (fun e=>h e.symm)]
  rw [hbx]
  cases hb:(x == v)
  ·rw [Xbu]
   unfold Zjq at ih ⊢
   generalize l.map AVal.str=S at *
   rw [ZY]
   simp -implicitDefEqProofs only [EQA,Zn,Zi,Zm,Zk,Zj,Zl,Zz,ZG,ZC,Zy,ZE,ZF,ZA,ZB,ZD,implies_true,forall_const,Xh,Xi,Xl,Xe,Xf,Xj,Xk,Zv,Zx,unA,Zt,Zu,unG,reduceCtorEq,Zr,decide_eq_true_eq,Xd,Xb,ite_self,↓reduceIte,Zs,Zw,gcT,gcA,Zq,Zd,Zc,Ze,Zh,Zb,Zg,Zf,Zo,Xc,ZkX,ZhU,ZkN,Zmu,ZhZ,Zk3,Zhl,Zp,ZI,ZK,ZJ,ZH,ZL,h1,e1,e3,hb,hL,AVal.cells]
   exact ih
  ·rw [Bool.true_or]
   unfold Zjq at ih ⊢
   generalize l.map AVal.str=S at *
   rw [ZY]
   simp -implicitDefEqProofs only [EQA,Zn,Zi,Zm,Zk,Zj,Zl,Zz,ZG,ZC,Zy,ZE,ZF,ZA,ZB,ZD,implies_true,forall_const,Xh,Xi,Xl,Xe,Xf,Xj,Xk,Zv,Zx,unA,Zt,Zu,unG,reduceCtorEq,Zr,decide_eq_true_eq,Xd,Xb,ite_self,↓reduceIte,Zs,Zw,gcT,gcA,Zq,Zd,Zc,Ze,Zh,Zb,Zg,Zf,Zo,Xc,ZkX,ZhU,ZkN,Zmu,ZhZ,Zk3,Zhl,Zp,ZI,ZK,ZJ,ZH,ZL,h1,e1,e3,hb,hL,AVal.cells]
theorem ZGQ (l:List Tx) (hl:l.length<=9223372036854775807) (v:Tx):E 36 [.lst false (l.map AVal.str),.str v] []=some (.bool (l.contains v),[]):=by
 have h:=ZrP l hl v l 0 rfl
 have z0:((0:Nat):Int)=0:=rfl
 rw [z0] at h
 unfold Zjq at h
 generalize l.map AVal.str=S at *
 rw [ZaJ (by rfl) ZDG]
 simp -implicitDefEqProofs only [EQA,Zn,Zi,Zm,Zk,Zj,Zl,Zz,ZG,ZC,Zy,ZE,ZF,ZA,ZB,ZD,implies_true,forall_const,Xh,Xi,Xl,Xe,Xf,Xj,Xk,Zv,Zx,unA,Zt,Zu,unG,reduceCtorEq,Zr,decide_eq_true_eq,Xd,Xb,ite_self,↓reduceIte,Zs,Zw,gcT,gcA,Zq,Zd,Zc,Ze,Zh,Zb,Zg,Zf,Zo,Xc,ZkX,ZhU,ZkN,Zmu,ZhZ,Zk3,Zhl,Zp,ZI,ZK,ZJ,ZH,ZL,AVal.cells]
 exact h
theorem Zhh (l:List Tx) (b:Bool) (hl:l.length<=9223372036854775807) (v:Tx) (σ:Za) (sq own:Nat):ZQ E BY σ sq 36 own true [.lst b (l.map AVal.str),.str v]=some (.bool (l.contains v),σ,{}) :=
 ZfF (ZGQ l hl v) (by kernel_rfl) rfl rfl rfl (fun _=>rfl) σ sq own
end
section
theorem Zd1 {i y:Nat} (h:i<=y):Zbv (.int .i64 (i:Int)) y=some i:=by
 simp only [Zbv]
 rw [if_pos ⟨by omega,by omega⟩]
 simp
section
variable {σ:Za} {t p n i j m:Nat} {xs:List AVal} (hs:σ[t]?=some (.row 0 1 xs)) (hn:p+n<=xs.length)
include hs hn
theorem Zi4:Zr σ (.sl t 0 p n)=some ((xs.drop p).take n,[t]):=by
 simp only [Zr,hs]
 rw [if_pos ⟨trivial,hn⟩]
theorem ZAQ (h1:i<=j) (h2:j<=m) (h3:m<=n) (h0:0 < m):Zbq σ 1 (.sl t 0 p n) (some (.int .i64 (i:Int))) (some (.int .i64 (j:Int))) (some (.int .i64 (m:Int)))=some (.any,σ,{ rd:=[t] }):=by
 have hb:Zbv (.int .i64 (m:Int)) 0=none:=by
  simp only [Zbv]
  rw [if_neg (by omega)]
 simp only [Zbq,Zi4 hs hn,ZaQ,hb,Zd1 h3,Zd1 h2,Zd1 h1]
theorem ZDW (h1:j<=xs.length - p):Zbq σ 1 (.sl t 0 p n) none (some (.int .i64 (j:Int))) none=some (.sl t 0 p j,σ,{ rd:=[t] }):=by
 simp only [Zbq,Zi4 hs hn,hs,ZaQ,Zd1 h1,Nat.add_zero,Xbm,if_true]
theorem ZDa (h1:i<=n):Zbq σ 1 (.sl t 0 p n) (some (.int .i64 (i:Int))) none none=some (.sl t 0 (p+i) (n - i),σ,{ rd:=[t] }):=by
 simp only [Zbq,Zi4 hs hn,hs,ZaQ,Zd1 h1,if_true]
theorem ZIA (h1:i<=j) (h2:j<=xs.length - p):Zbq σ 1 (.sl t 0 p n) (some (.int .i64 (i:Int))) (some (.int .i64 (j:Int))) none=some (.sl t 0 (p+i) (j - i),σ,{ rd:=[t] }):=by
 simp only [Zbq,Zi4 hs hn,hs,ZaQ,Zd1 h2,Zd1 h1,if_true]
end
theorem ZxX (L:List Tx) (hl:L.length<=1000000) (i:Nat) (hi:i < L.length):E 26 [.sl 0 0 0 L.length,.int .i64 (i:Int),.int .i64 ((i+1:Nat):Int)] [.row 0 1 (L.map AVal.str)]=some (.sl 0 0 0 (L.length - 1),[.row 0 1 ((L.eraseIdx i).map AVal.str++[.str []])]):=by
 have hS1:(L.map AVal.str).length=L.length:=by simp
 have h0:((i:Int) == ((i+1:Nat):Int))=false:=by simp;omega
 have hs:∀ (xs:List AVal) (r:Za),(.row 0 1 xs::r:Za)[0]?=some (.row 0 1 xs):=fun _ _=>rfl
 have g1:=fun r=>ZAQ (hs (L.map AVal.str) r) (p:=0) (n:=L.length) (i:=i) (j:=i+1) (m:=L.length) (by omega) (by omega) (by omega) (by omega) (by omega)
 have g2:=fun r=>ZDW (hs (L.map AVal.str) r) (p:=0) (n:=L.length) (j:=i) (by omega) (by omega)
 have g3:=fun r=>ZDa (hs (L.map AVal.str) r) (p:=0) (n:=L.length) (i:=i+1) (by omega) (by omega)
 have hk:kOk 1 ((L.drop (i+1)).map AVal.str)=true:=Zjl _
 have hd:(((L.map AVal.str).drop (0+(i+1))).take (L.length - (i+1)))=(L.drop (i+1)).map AVal.str:=by
  rw [XX,<-List.map_drop,Wc (by simp)]
 have hA:∀ r,ZaI (.row 0 1 (L.map AVal.str)::r) 1 1 16 (.sl 0 0 0 i) (.sl 0 0 (0+(i+1)) (L.length - (i+1)))=some (.sl 0 0 0 (L.length - 1),(.row 0 1 ((L.eraseIdx i).map AVal.str++(L.map AVal.str).drop (L.length - 1))::r),{ rd:=[0],wr:=[0] }):=by
  intro r
  have he:=Zi4 (hs (L.map AVal.str) r) (p:=0+(i+1)) (n:=L.length - (i+1)) (by omega)
  rw [hd] at he
  have hdl:((L.drop (i+1)).map AVal.str).length=L.length - (i+1):=by simp
  unfold ZaI
  rw [he]
  simp only [hk,hs,if_true,hdl]
  rw [if_pos ⟨trivial,trivial,trivial,by omega⟩,if_neg (by omega),if_pos (by omega)]
  have e1:i+(L.length - (i+1))=L.length - 1:=by omega
  rw [e1,List.eraseIdx_eq_take_drop_succ,Wm,List.map_take]
  rfl
 have g4:=fun r=>ZIA (hs ((L.eraseIdx i).map AVal.str++(L.map AVal.str).drop (L.length - 1)) r) (p:=0) (n:=L.length - 1) (i:=L.length - 1) (j:=L.length) (by simp [Xal,hi]) (by omega) (by simp [Xal,hi])
 have e9:L.length - (L.length - 1)=1:=by omega
 simp only [e9,XX] at g4
 have hl1:((L.eraseIdx i).map AVal.str).length=L.length - 1:=by simp [Xal,hi]
 have hl2:((L.map AVal.str).drop (L.length - 1)).length=1:=by simp;omega
 have hd1:((L.eraseIdx i).map AVal.str++(L.map AVal.str).drop (L.length - 1)).drop (L.length - 1+1)=[]:=List.drop_eq_nil_of_le (by rw [X3];omega)
 have ht1:((L.eraseIdx i).map AVal.str++(L.map AVal.str).drop (L.length - 1)).take (L.length - 1)=(L.eraseIdx i).map AVal.str:=by rw [XaI (by omega),Wc (by omega)]
 have hl3:L.length - 1+1<=((L.eraseIdx i).map AVal.str++(L.map AVal.str).drop (L.length - 1)).length:=by rw [X3];omega
 have ho:∀ x,Zan 1 [.row 0 1 ((L.eraseIdx i).map AVal.str++[.str []]),x] (.sl 0 0 0 (L.length - 1))=some (.sl 0 0 0 (L.length - 1),[.row 0 1 ((L.eraseIdx i).map AVal.str++[.str []])]):=fun _=>rfl
 simp only [XX] at g3 hA
 generalize L.map AVal.str=S at *
 generalize (L.eraseIdx i).map AVal.str=R at *
 rw [ZaJ (by rfl) ZBb]
 simp -implicitDefEqProofs only [EQA,Zn,Zi,Zm,Zk,Zj,Zl,Zz,ZG,ZC,Zy,ZE,ZF,ZA,ZB,ZD,implies_true,forall_const,Xh,Xi,Xl,Xe,Xf,Xj,Xk,Zv,Zx,unA,Zt,Zu,unG,reduceCtorEq,Zr,decide_eq_true_eq,Xd,Xb,ite_self,↓reduceIte,Zs,Zw,gcT,gcA,Zq,Zd,Zc,Ze,Zh,Zb,Zg,Zf,Zo,Xc,ZGY,Zqn,ZyF,Zp,ZI,ZK,ZJ,ZH,ZL,hS1,h0,g1,g2,g3,g4,hA,hl3,ht1,hd1,ho,Xw,Zag,Z0,Zah,Z3,XF,XH,Xp,Xs,Xr,Xt,Zaa,Zae,Zab,Zaf,Zac,Xm,Xn,ZU,ZX,ZV,Z1,Z6,Z4,Z9,Z7,ZZ,Z8,Xy,XA,Xp,Xs,Xo]
end
section
theorem ZzU {O:Zat} {bf:Nat->Bool} {σ:Za} {t sq f own k lo n:Nat} {args args' xs xs':List AVal} (hs:σ[t]?=some (.row 0 k xs)) (hb:bf f=true) (hff:ZaN σ sq own=true)
  (href:ZP args=[t]) (hren:∀ ρ:Rho,ρ t 0=some (0,0)->ZR ρ args=args')
  (h:O f args' [.row 0 k xs]=some (.sl 0 0 lo n,[.row 0 k xs'])):ZQ O bf σ sq f own false args=some (.sl t 0 lo n,σ.set t (.row 0 k xs'),{ any:=true }):=by
 have hd:σ.getD t .free=.row 0 k xs:=by simp [Xz,hs]
 have hf0:ZS σ []=σ:=rfl
 unfold ZQ ZcK
 rw [hb]
 simp only [if_true,hf0,href]
 have hreach:Zd σ 1000 [t] []=[t]:=by
  simp only [Zd,Xo,Xq,if_false,hd,Zo,Xv]
 rw [hreach]
 unfold Zb8
 have hall:([t].all fun t=>okB (σ.getD t .free))=true:=by simp [Xp,Xs,hs,okB]
 rw [if_pos hall]
 have hρ:Zc σ 0 [t] t 0=some (0,0):=by simp [Zc,Zh,hs,Zb,Zg]
 have hheap:Ze σ 0 [t] (Zc σ 0 [t]) [t] 0=[.row 0 k xs]:=by
  simp only [Ze,hd,Zg,Zb,Zf,Nat.not_lt_zero,false_and,if_false]
 rw [hren _ hρ,hheap]
 simp only [Xr,Xt,XX]
 rw [h]
 have hk:Za4 σ [t] [.row 0 k xs'] 0=true:=by simp [Za4,okB,hs,Zbk,Zb]
 have hren':∀ ρ,Zf ρ (Za1 σ [t] 0 (.row 0 k xs')) (.row 0 k xs')=.row 0 k xs':=by
  intro ρ
  simp [Za1,hs,Zb,Zf]
 have hr:ZN (ZaM σ [t] sq) (.sl 0 0 lo n)=.sl t 0 lo n:=by
  simp [ZN,ZaM,Zb,hs]
 simp only [ZaG,Xq,if_false,Zbf,X8,Bool.false_and,Xr,Xt,XX,Nat.le_add_right,X5,decide_true,hk,hff,WD,if_true,ZaR,Za7,ZaH,Xm,hr,hren']
 have htl:t < σ.length:=(List.getElem?_eq_some_iff.1 hs).1
 have hg:(σ.set t (.row 0 k xs'))[t]?=some (.row 0 k xs'):=by simp [htl]
 simp only [XD,XM,Xw,hg]
theorem ZJ2 (L:List Tx) (hl:L.length<=1000000) (i:Nat) (hi:i < L.length) {σ:Za} {t:Nat} (hs:σ[t]?=some (.row 0 1 (L.map AVal.str))) (sq:Nat):ZQ E BY σ sq 26 0 false [.sl t 0 0 L.length,.int .i64 (i:Int),.int .i64 ((i+1:Nat):Int)]=some (.sl t 0 0 (L.length - 1),σ.set t (.row 0 1 ((L.eraseIdx i).map AVal.str++[.str []])),{ any:=true }) :=
 ZzU hs (by kernel_rfl) rfl rfl (fun ρ h=>by simp [ZR,ZN,h]) (ZxX L hl i hi)
theorem Zph (σ:Za) (t g n:Nat) (fz:Bool) (S X:List AVal) (hn:n=S.length) (hs:σ[t]?=some (ZdB fz g (S++X))):Zr σ (.sl t g 0 n)=some (S,[t]):=by
 subst hn
 cases fz <;> simp only [ZdB,Xq,if_false,if_true] at hs <;> simp [Zr,hs]
theorem Zpi (l:List Tx) (hl:l.length<=9223372036854775807) (v:Tx) {σ:Za} {t g:Nat} {fz:Bool} {X:List AVal} (hs:σ[t]?=some (ZdB fz g (l.map AVal.str++X))) (sq own:Nat):ZQ E BY σ sq 25 own true [.sl t g 0 l.length,.str v]=some (.int .i64 (ZcH v 0 l),σ,{ rd:=[t] }):=by
 refine ZtZ (by kernel_rfl) (vs:=[.lst false (l.map AVal.str),.str v]) ?_ rfl rfl (Zoo l hl v) rfl rfl sq own
 have he:=Zph σ t g l.length fz (l.map AVal.str) X (by simp) hs
 simp only [showAs,showA,ZcR,he,Xw]
theorem Zsr (l:List Tx) (hl:l.length<=9223372036854775807) (v:Tx) {σ:Za} {t g:Nat} {fz:Bool} {X:List AVal} (hs:σ[t]?=some (ZdB fz g (l.map AVal.str++X))) (sq own:Nat):ZQ E BY σ sq 22 own true [.sl t g 0 l.length,.str v]=some (.bool (l.contains v),σ,{ rd:=[t] }):=by
 refine ZtZ (by kernel_rfl) (vs:=[.lst false (l.map AVal.str),.str v]) ?_ rfl rfl (Zq9 l hl v) rfl rfl sq own
 have he:=Zph σ t g l.length fz (l.map AVal.str) X (by simp) hs
 simp only [showAs,showA,ZcR,he,Xw]
theorem ZCL (σ:Za) (sq t:Nat) (fz:Bool) (L:List Tx) (X:List AVal) (h:L.length<=1000000) (hs:σ[t]?=some (ZdB fz 0 (L.map AVal.str++X))):ZQ E BY σ sq 27 1 false [.sl t 0 0 L.length]=some (.sl sq 0 0 L.length,σ.set sq (.row 0 1 (L.map AVal.str)),{ rd:=[t] }):=by
 have he:=Zph σ t 0 L.length fz (L.map AVal.str) X (by simp) hs
 have hsh:showAs σ [.sl t 0 0 L.length]=some ([.lst false (L.map AVal.str)],[t]):=by
  simp only [showAs,showA,ZcR,he,Xw]
 have hb:BY 27=false:=by kernel_rfl
 unfold ZQ ZcK
 rw [hb]
 simp only [Xq,if_false,hsh]
 have h0:Zd (ZS σ [t]) 1000 (ZP [.lst false (L.map AVal.str)]) []=[]:=rfl
 rw [h0]
 unfold Zb8
 simp only [Xs,if_true,Ze,Xt,ZR,ZN,ZaG,Xq,if_false]
 rw [ZrB L h]
 have hf:=Zue L
 simp only [Zbf,Xaj,X8,XbA,Xq,if_false,if_true,Zh4,hf,decide_true,WD,X7]
theorem Zvz (v:Tx):∀ (r:List Tx) (i:Nat),r.contains v=false->ZcH v i r=-1
 | [],i,_=>rfl
 | x::r,i,h=>by
  rw [Wo,WN] at h
  unfold ZcH
  rw [h.1,if_neg (by simp)]
  exact Zvz v r (i+1) h.2
theorem ZuW (v:Tx):∀ (r:List Tx) (i:Nat),r.contains v=true->∃ j,j < r.length/\ZcH v i r=((i+j:Nat):Int)/\r[j]?=some v
 | [],i,h=>by simp at h
 | x::r,i,h=>by
  unfold ZcH
  cases hb:(v == x) with
  | true =>
   rw [if_pos rfl]
   exact ⟨0,by simp,rfl,by simp [eq_of_beq hb]⟩
  | false =>
   rw [Wo,hb,Xbu] at h
   obtain ⟨j,h1,h2,h3⟩:=ZuW v r (i+1) h
   rw [if_neg (by simp)]
   exact ⟨j+1,by simp;omega,by rw [h2];congr 1;omega,by simpa using h3⟩
end
section
abbrev Sh:=Tx×List Tx
def GM (M:List Sh):List (AVal×(List AVal ⊕ AVal)):=M.map fun p=>(.str p.1,.inl (p.2.map AVal.str))
def GX (A:List Sh) (s:Tx) (e:List AVal ⊕ AVal) (B:List Sh):List (AVal×(List AVal ⊕ AVal)):=GM A++(.str s,e)::GM B
def Zai (M:List Sh):List Tx:=M.map (·.1)
theorem Zm4 (A B:List Sh):GM (A++B)=GM A++GM B:=by simp [GM]
theorem ZfT (A:List Sh) (s:Tx) (ms:List Tx) (B:List Sh):GM (A++(s,ms)::B)=GX A s (.inl (ms.map AVal.str)) B:=by rw [Zm4];rfl
theorem ZoC (s:Tx):∀ (A:List Sh) (i:Nat) (r:List (AVal×(List AVal ⊕ AVal))),(Zai A).contains s=false->Zcv (.str s) (GM A++r) i=Zcv (.str s) r (i+A.length)
 | [],i,r,_=>rfl
 | p::A,i,r,h=>by
  unfold Zai at h
  rw [XS,Wo,WN] at h
  have e:Zcv (.str s) ((.str p.1,.inl (p.2.map AVal.str))::(GM A++r)) i=(match ZcO (.str s) (.str p.1) with
   | some true=>some (some (i,.inl (p.2.map AVal.str)))
   | some false=>Zcv (.str s) (GM A++r) (i+1)
   | none=>none):=rfl
  have h1:ZcO (.str s) (.str p.1)=some false:=by
   show some (s == p.1)=_
   rw [h.1]
  show Zcv (.str s) ((.str p.1,.inl (p.2.map AVal.str))::(GM A++r)) i=_
  have hi:i+1+A.length=i+(A.length+1):=by omega
  rw [e,h1]
  simp only
  rw [ZoC s A (i+1) r h.2,Xr,hi]
theorem Zmo (s:Tx) (A B:List Sh) (e:List AVal ⊕ AVal) (h:(Zai A).contains s=false):Zcv (.str s) (GX A s e B) 0=some (some (A.length,e)):=by
 unfold GX
 rw [ZoC s A 0 _ h,XX]
 have : ZcO (.str s) (.str s)=some true:=by
  show some (s == s)=_
  simp
 unfold Zcv
 rw [this]
theorem Zu3 (s:Tx) (M:List Sh) (h:(Zai M).contains s=false):Zcv (.str s) (GM M) 0=some none:=by
 have:=ZoC s M 0 [] h
 rw [Xw] at this
 rw [this];rfl
theorem Zij (A:List Sh):(GM A).length=A.length:=by simp [GM]
theorem Zpu (A:List Sh) (s:Tx) (e e':List AVal ⊕ AVal) (B:List Sh):(GX A s e B).set A.length (.str s,e')=GX A s e' B:=by
 unfold GX
 rw [List.set_append_right _ _ (by rw [Zij];exact X5 _),Zij,Xab];rfl
theorem ZIu (A:List Sh) (s:Tx) (e:List AVal ⊕ AVal) (B:List Sh) (d:AVal×(List AVal ⊕ AVal)):((GX A s e B).getD A.length d).1=.str s:=by
 unfold GX
 rw [Xz,WY (by rw [Zij];exact X5 _),Zij,Xab];rfl
theorem ZzA (A:List Sh) (s:Tx) (e:List AVal ⊕ AVal) (B:List Sh):(GX A s e B).eraseIdx A.length=GM (A++B):=by
 unfold GX
 rw [List.eraseIdx_append_of_length_le (by rw [Zij];exact X5 _),Zij,Xab,List.eraseIdx_cons_zero,Zm4]
theorem Zal (A:List Sh):ZP ((GM A).map fun p=>Zhg p.2)=[]:=by
 induction A with
 | nil=>rfl
 | cons p A ih=>exact ih
theorem Zvk:∀ a b:List AVal,ZP (a++b)=ZP a++ZP b
 | [],b=>rfl
 | x::a,b=>by rw [XG,ZP,ZP,Zvk a b,W4]
theorem ZrG (A:List Sh) (s:Tx) (e:List AVal ⊕ AVal) (B:List Sh):ZP ((GX A s e B).map fun p=>Zhg p.2)=ZT (Zhg e):=by
 unfold GX
 rw [Wm,Zvk,Zal,Xv,XS,ZP,Zal,Xw]
theorem Zay (A:List Sh) (s:Tx) (S:List AVal) (B:List Sh):ZP ((GX A s (.inl S) B).map fun p=>Zhg p.2)=[]:=ZrG A s (.inl S) B
theorem Zaz (A:List Sh) (s:Tx) (v:AVal) (B:List Sh):ZP ((GX A s (.inr v) B).map fun p=>Zhg p.2)=ZT v:=ZrG A s (.inr v) B
theorem Zak (A:List Sh) (ρ:Rho):(GM A).map (fun p=>(p.1,p.2.map id (ZN ρ)))=GM A:=by
 induction A with
 | nil=>rfl
 | cons p A ih=>unfold GM at ih ⊢;rw [XS,XS,ih];rfl
theorem Zax (A:List Sh) (s:Tx) (e:List AVal ⊕ AVal) (B:List Sh) (ρ:Rho):(GX A s e B).map (fun p=>(p.1,p.2.map id (ZN ρ)))=GX A s (e.map id (ZN ρ)) B:=by
 unfold GX
 rw [Wm,Zak,XS,Zak]
section
variable {σ:Za} {A B M:List Sh} {s:Tx} {z:AVal} {t:Nat}
theorem Zjm {S:List AVal} (hk:(Zai A).contains s=false) (hs:σ[1]?=some (.gmap 1 (GX A s (.inl S) B))):Zdn σ t 2 z (.map 1) (.str s)=some (.sl t 0 0 S.length,(σ.set t (.row 0 1 S)).set 1 (.gmap 1 (GX A s (.inr (.sl t 0 0 S.length)) B)),{ wr:=[1],any:=true }):=by
 simp only [Zdn,ZaU,if_true,hs,Zmo s A B _ hk,ZIu,Zpu]
theorem ZwT {v:AVal} (hk:(Zai A).contains s=false) (hs:σ[1]?=some (.gmap 1 (GX A s (.inr v) B))):Zdn σ t 2 z (.map 1) (.str s)=some (v,σ,{ wr:=[1],any:=true }):=by
 simp only [Zdn,ZaU,if_true,hs,Zmo s A B _ hk]
theorem ZvT (hk:(Zai M).contains s=false) (hs:σ[1]?=some (.gmap 1 (GM M))):Zdn σ t 2 z (.map 1) (.str s)=some (z,σ,{ wr:=[1],any:=true }):=by
 simp only [Zdn,ZaU,if_true,hs,Zu3 s M hk]
theorem ZuY {e:List AVal ⊕ AVal} {v:AVal} (hv:v.cells.all Zar=true) (hk:(Zai A).contains s=false) (hs:σ[1]?=some (.gmap 1 (GX A s e B))):Zey σ 2 (.map 1) (.str s) v=some (.tup [],(Zds σ 1 v).2.set 1 (.gmap 1 (GX A s (Zds σ 1 v).1 B)),{ wr:=[1],any:=true }):=by
 simp only [Zey,ZaU,Zdj,hv,if_true,hs,ZfJ,Zmo s A B _ hk,Zpu,and_self]
theorem ZJd {v:AVal} (hv:v.cells.all Zar=true) (hk:(Zai M).contains s=false) (hs:σ[1]?=some (.gmap 1 (GM M))):Zey σ 2 (.map 1) (.str s) v=some (.tup [],(Zds σ 1 v).2.set 1 (.gmap 1 (GM M++[(.str s,(Zds σ 1 v).1)])),{ wr:=[1],any:=true }):=by
 simp only [Zey,ZaU,Zdj,hv,if_true,hs,ZfJ,Zu3 s M hk,and_self]
theorem ZKc {e:List AVal ⊕ AVal} (hk:(Zai A).contains s=false) (hs:σ[1]?=some (.gmap 1 (GX A s e B))):Zfb σ 2 (.map 1) (.str s)=some (.tup [],σ.set 1 (.gmap 1 (GM (A++B))),{ wr:=[1] }):=by
 simp only [Zfb,ZaU,if_true,hs,Zmo s A B _ hk,ZzA]
end
def bk (M:List Sh):Za:=[.var [.map 1],.gmap 1 (GM M)]
theorem Zko (M:List Sh) (r:AVal) (hr:ZT r=[]) (hn:∀ ρ,ZN ρ r=r):Zan 2 (bk M) r=some (r,bk M):=by
 unfold bk
 simp -implicitDefEqProofs only [EQA,Zan,gcA,Zq,ZP,hr,Xw,Xv,Xc,XP,XJ,XD,XM,Xm,Xn,Zal,Zak,ZR,hn,Zd,Zo,ZT,Ze,Zf,ZN,Xo,Zc,Zh,Zb,Zg,Zn,Zi,Zm,Zk,Zj,Zl,Zz,ZG,ZC,Zy,ZE,ZF,ZA,ZB,ZD,implies_true,forall_const,Xh,Xi,Xl,Xe,Xf,Xj,Xk,Zv,Zx,unA,Zt,Zu,unG,reduceCtorEq,Zr,decide_eq_true_eq,Xd,Xb,ite_self,↓reduceIte,Zs,Zw,gcT,gcA,Zq,Zd,Zc,Ze,Zh,Zb,Zg,Zf,Zo,Xc]
end
section
def ShC (s:Tx) (ok:Bool):Prop:=∃ a b:Tx,∀ (σ:Za) (sq own:Nat),ZQ E BY σ sq 21 own true [.str s]=some (.tup [.str a,.str b,.bool ok],σ,{})
theorem ZEJ {s c:Tx} {M:List Sh} (hs:ShC s false):EI 7 [.ref 0 0,.str s,.str c] (bk M)=some (.tup [],bk M):=by
 obtain ⟨a,b,hS⟩:=hs
 have hS':=fun σ sq own=>ZcP (hS σ sq own)
 unfold bk
 rw [ZdX (by rfl) Zl1]
 simp -implicitDefEqProofs only [EQA,Zn,Zi,Zm,Zk,Zj,Zl,Zz,ZG,ZC,Zy,ZE,ZF,ZA,ZB,ZD,implies_true,forall_const,Xh,Xi,Xl,Xe,Xf,Xj,Xk,Zv,Zx,unA,Zt,Zu,unG,reduceCtorEq,Zr,decide_eq_true_eq,Xd,Xb,ite_self,↓reduceIte,Zs,Zw,gcT,gcA,Zq,Zd,Zc,Ze,Zh,Zb,Zg,Zf,Zo,Xc,ZlI,ZhQ,Zls,Zp,ZI,ZK,ZJ,ZH,ZL,hS',AVal.cells,Zag,Z0,Zah,Z3,XF,XH,Xp,Xs,Xr,Xt,Zaa,Zae,Zab,Zaf,Zac,Xm,Xn,ZU,ZX,ZV,Z1,Z6,Z4,Z9,Z7,ZZ,Z8,Xy,XA,Xp,Xs,Xo]
 simp -implicitDefEqProofs only [EQA,Zan,gcA,Zq,ZP,Xw,Xv,Xc,XP,XJ,XD,XM,Xm,Xn,Zal,Zak,Zay,Zaz,Zax,XT,XU,id_eq,ZR,Zd,Zo,ZT,Ze,Zf,ZN,Xo,Zc,Zh,Zb,Zg,Zn,Zi,Zm,Zk,Zj,Zl,Zz,ZG,ZC,Zy,ZE,ZF,ZA,ZB,ZD,implies_true,forall_const,Xh,Xi,Xl,Xe,Xf,Xj,Xk,Zv,Zx,unA,Zt,Zu,unG,reduceCtorEq,Zr,decide_eq_true_eq,Xd,Xb,ite_self,↓reduceIte,Zs,Zw,gcT,gcA,Zq,Zd,Zc,Ze,Zh,Zb,Zg,Zf,Zo,Xc,or_false]
theorem ZGz {s c:Tx} {A B:List Sh} {ms:List Tx} (hs:ShC s true) (hk:(Zai A).contains s=false) (hl:ms.length<=1000000) (hc:ms.contains c=true):EI 7 [.ref 0 0,.str s,.str c] (bk (A++(s,ms)::B))=some (.tup [],[.var [.map 1],.gmap 1 (GX A s (.inr (.sl 2 0 0 ms.length)) B),.row 0 1 (ms.map AVal.str)]):=by
 obtain ⟨a,b,hS⟩:=hs
 have hS':=fun σ sq own=>ZcP (hS σ sq own)
 have hC:=fun {σ:Za} {t g:Nat} hs sq own=>ZcP (Zsr ms (by omega) c (σ:=σ) (t:=t) (g:=g) (fz:=false) (X:=[]) hs sq own)
 rw [hc] at hC
 simp only [ZdB,Xq,if_false,Xw] at hC
 have hg:=fun {σ:Za} {z:AVal} {t:Nat} hs=>Zjm (σ:=σ) (A:=A) (B:=B) (s:=s) (z:=z) (t:=t) (S:=ms.map AVal.str) hk hs
 have hm:(ms.map AVal.str).length=ms.length:=by simp
 rw [hm] at hg
 unfold bk
 rw [ZfT]
 generalize ms.map AVal.str=S at *
 rw [ZdX (by rfl) Zl1]
 simp -implicitDefEqProofs only [EQA,Zn,Zi,Zm,Zk,Zj,Zl,Zz,ZG,ZC,Zy,ZE,ZF,ZA,ZB,ZD,implies_true,forall_const,Xh,Xi,Xl,Xe,Xf,Xj,Xk,Zv,Zx,unA,Zt,Zu,unG,reduceCtorEq,Zr,decide_eq_true_eq,Xd,Xb,ite_self,↓reduceIte,Zs,Zw,gcT,gcA,Zq,Zd,Zc,Ze,Zh,Zb,Zg,Zf,Zo,Xc,ZlI,ZhQ,Zls,Zp,ZI,ZK,ZJ,ZH,ZL,hS',hC,hg,AVal.cells,Zag,Z0,Zah,Z3,XF,XH,Xp,Xs,Xr,Xt,Zaa,Zae,Zab,Zaf,Zac,Xm,Xn,ZU,ZX,ZV,Z1,Z6,Z4,Z9,Z7,ZZ,Z8,Xy,XA,Xp,Xs,Xo]
 simp -implicitDefEqProofs only [EQA,Zan,gcA,Zq,ZP,Xw,Xv,Xc,XP,XJ,XD,XM,Xm,Xn,Zal,Zak,Zay,Zaz,Zax,XT,XU,id_eq,ZR,Zd,Zo,ZT,Ze,Zf,ZN,Xo,Zc,Zh,Zb,Zg,Zn,Zi,Zm,Zk,Zj,Zl,Zz,ZG,ZC,Zy,ZE,ZF,ZA,ZB,ZD,implies_true,forall_const,Xh,Xi,Xl,Xe,Xf,Xj,Xk,Zv,Zx,unA,Zt,Zu,unG,reduceCtorEq,Zr,decide_eq_true_eq,Xd,Xb,ite_self,↓reduceIte,Zs,Zw,gcT,gcA,Zq,Zd,Zc,Ze,Zh,Zb,Zg,Zf,Zo,Xc,or_false]
theorem Zy6 {s c:Tx} {A B:List Sh} {ms:List Tx} (hs:ShC s true) (hk:(Zai A).contains s=false) (hl:ms.length<=1000000) (hc:ms.contains c=false):EI 7 [.ref 0 0,.str s,.str c] (bk (A++(s,ms)::B))=some (.tup [],bk (A++(s,ms++[c])::B)):=by
 obtain ⟨a,b,hS⟩:=hs
 have hS':=fun σ sq own=>ZcP (hS σ sq own)
 have hC:=fun {σ:Za} {t g:Nat} hs sq own=>ZcP (Zsr ms (by omega) c (σ:=σ) (t:=t) (g:=g) (fz:=false) (X:=[]) hs sq own)
 rw [hc] at hC
 simp only [ZdB,Xq,if_false,Xw] at hC
 have hg:=fun {σ:Za} {z:AVal} {t:Nat} hs=>Zjm (σ:=σ) (A:=A) (B:=B) (s:=s) (z:=z) (t:=t) (S:=ms.map AVal.str) hk hs
 have hg2:=fun {σ:Za} {z:AVal} {t:Nat} hs=>ZwT (σ:=σ) (A:=A) (B:=B) (s:=s) (z:=z) (v:=.sl 2 0 0 ms.length) (t:=t) hk hs
 have hst:=fun {σ:Za} {v:AVal} hv hs=>ZuY (σ:=σ) (A:=A) (B:=B) (s:=s) (e:=.inr (.sl 2 0 0 ms.length)) (v:=v) hv hk hs
 have hm:(ms.map AVal.str).length=ms.length:=by simp
 rw [hm] at hg
 have hv:∀ (σ:Za),viewAs σ [.str c]=some ([.str c],[]):=fun _=>rfl
 have b1:(ms.length+1)*16<=140737488355328:=by omega
 have e1:(ms++[c]).map AVal.str=ms.map AVal.str++[.str c]:=by simp
 have l1:(ms.map AVal.str++[AVal.str c]).length=ms.length+1:=by simp
 have t1:(ms.map AVal.str++[AVal.str c]).take (ms.length+1)=ms.map AVal.str++[AVal.str c]:=Wc (by rw [l1];exact X5 _)
 unfold bk
 rw [ZfT,ZfT,e1]
 generalize ms.map AVal.str=S at *
 generalize ms.length=n at *
 rw [ZdX (by rfl) Zl1]
 simp -implicitDefEqProofs only [EQA,Zn,Zi,Zm,Zk,Zj,Zl,Zz,ZG,ZC,Zy,ZE,ZF,ZA,ZB,ZD,implies_true,forall_const,Xh,Xi,Xl,Xe,Xf,Xj,Xk,Zv,Zx,unA,Zt,Zu,unG,reduceCtorEq,Zr,decide_eq_true_eq,Xd,Xb,ite_self,↓reduceIte,Zs,Zw,gcT,gcA,Zq,Zd,Zc,Ze,Zh,Zb,Zg,Zf,Zo,Xc,ZlI,ZhQ,Zls,Zp,ZI,ZK,ZJ,ZH,ZL,hS',hC,hg,hg2,hst,hv,b1,hm,l1,t1,Zds,X5,and_self,AVal.cells,Zar,kOk,ZS,ZaI,XQ,Wy,XR,X9,Zag,Z0,Zah,Z3,XF,XH,Xp,Xs,Xr,Xt,Zaa,Zae,Zab,Zaf,Zac,Xm,Xn,ZU,ZX,ZV,Z1,Z6,Z4,Z9,Z7,ZZ,Z8,Xy,XA,Xp,Xs,Xo]
 simp -implicitDefEqProofs only [EQA,Zan,gcA,Zq,ZP,Xw,Xv,Xc,XP,XJ,XD,XM,Xm,Xn,Zal,Zak,Zay,Zaz,Zax,XT,XU,id_eq,ZR,Zd,Zo,ZT,Ze,Zf,ZN,Xo,Zc,Zh,Zb,Zg,Zn,Zi,Zm,Zk,Zj,Zl,Zz,ZG,ZC,Zy,ZE,ZF,ZA,ZB,ZD,implies_true,forall_const,Xh,Xi,Xl,Xe,Xf,Xj,Xk,Zv,Zx,unA,Zt,Zu,unG,reduceCtorEq,Zr,decide_eq_true_eq,Xd,Xb,ite_self,↓reduceIte,Zs,Zw,gcT,gcA,Zq,Zd,Zc,Ze,Zh,Zb,Zg,Zf,Zo,Xc,or_false]
theorem ZAl {s c:Tx} {M:List Sh} (hs:ShC s true) (hk:(Zai M).contains s=false):EI 7 [.ref 0 0,.str s,.str c] (bk M)=some (.tup [],bk (M++[(s,[c])])):=by
 obtain ⟨a,b,hS⟩:=hs
 have hS':=fun σ sq own=>ZcP (hS σ sq own)
 have hC:=fun σ sq own=>ZcP (ZkU [] true (by decide) c σ sq own)
 rw [show ([]:List Tx).contains c=false from rfl,show ([]:List Tx).map AVal.str=[] from rfl] at hC
 have hg:=fun {σ:Za} {z:AVal} {t:Nat} hs=>ZvT (σ:=σ) (M:=M) (s:=s) (z:=z) (t:=t) hk hs
 have hst:=fun {σ:Za} {v:AVal} hv hs=>ZJd (σ:=σ) (M:=M) (s:=s) (v:=v) hv hk hs
 have hv:∀ (σ:Za),viewAs σ [.str c]=some ([.str c],[]):=fun _=>rfl
 have b1:1*16<=140737488355328:=by decide
 have e1:GM M++[(.str s,.inl [.str c])]=GM (M++[(s,[c])]):=by rw [Zm4];rfl
 unfold bk
 rw [ZdX (by rfl) Zl1]
 simp -implicitDefEqProofs only [EQA,Zn,Zi,Zm,Zk,Zj,Zl,Zz,ZG,ZC,Zy,ZE,ZF,ZA,ZB,ZD,implies_true,forall_const,Xh,Xi,Xl,Xe,Xf,Xj,Xk,Zv,Zx,unA,Zt,Zu,unG,reduceCtorEq,Zr,decide_eq_true_eq,Xd,Xb,ite_self,↓reduceIte,Zs,Zw,gcT,gcA,Zq,Zd,Zc,Ze,Zh,Zb,Zg,Zf,Zo,Xc,ZlI,ZhQ,Zls,Zp,ZI,ZK,ZJ,ZH,ZL,hS',hC,hg,hst,hv,b1,Zds,X5,and_self,AVal.cells,Zar,kOk,ZS,ZaI,XQ,Wy,XR,X9,Zag,Z0,Zah,Z3,XF,XH,Xp,Xs,Xr,Xt,Zaa,Zae,Zab,Zaf,Zac,Xm,Xn,ZU,ZX,ZV,Z1,Z6,Z4,Z9,Z7,ZZ,Z8,Xy,XA,Xp,Xs,Xo]
 simp -implicitDefEqProofs only [EQA,Zan,gcA,Zq,ZP,Xw,Xv,Xc,XP,XJ,XD,XM,Xm,Xn,Zal,Zak,Zay,Zaz,Zax,XT,XU,id_eq,ZR,Zd,Zo,ZT,Ze,Zf,ZN,Xo,Zc,Zh,Zb,Zg,Zn,Zi,Zm,Zk,Zj,Zl,Zz,ZG,ZC,Zy,ZE,ZF,ZA,ZB,ZD,implies_true,forall_const,Xh,Xi,Xl,Xe,Xf,Xj,Xk,Zv,Zx,unA,Zt,Zu,unG,reduceCtorEq,Zr,decide_eq_true_eq,Xd,Xb,ite_self,↓reduceIte,Zs,Zw,gcT,gcA,Zq,Zd,Zc,Ze,Zh,Zb,Zg,Zf,Zo,Xc,e1,List.take_succ_cons,List.take_zero,or_false]
end
section
theorem ZLP {s c:Tx} {M:List Sh} (hk:(Zai M).contains s=false):EI 9 [.ref 0 0,.str s,.str c] (bk M)=some (.bool false,bk M):=by
 have hC:∀ (σ:Za) (sq own:Nat),ZQ EI BY σ sq 25 own true [.lst true [],.str c]=some (.int .i64 (-1),σ,{}):=fun σ sq own=>ZcP (ZfF (Zoo [] (by decide) c) (by kernel_rfl) rfl rfl rfl (fun _=>rfl) σ sq own)
 have hg:=fun {σ:Za} {z:AVal} {t:Nat} hs=>ZvT (σ:=σ) (M:=M) (s:=s) (z:=z) (t:=t) hk hs
 have m1:(-1:Int) < 0:=by decide
 unfold bk
 rw [ZdX (by rfl) Zmf]
 simp -implicitDefEqProofs only [EQA,Zn,Zi,Zm,Zk,Zj,Zl,Zz,ZG,ZC,Zy,ZE,ZF,ZA,ZB,ZD,implies_true,forall_const,Xh,Xi,Xl,Xe,Xf,Xj,Xk,Zv,Zx,unA,Zt,Zu,unG,reduceCtorEq,Zr,decide_eq_true_eq,Xd,Xb,ite_self,↓reduceIte,Zs,Zw,gcT,gcA,Zq,Zd,Zc,Ze,Zh,Zb,Zg,Zf,Zo,Xc,ZlX,ZhV,Zmd,Zp,ZI,ZK,ZJ,ZH,ZL,hC,hg,m1,AVal.cells,Zag,Z0,Zah,Z3,XF,XH,Xp,Xs,Xr,Xt,Zaa,Zae,Zab,Zaf,Zac,Xm,Xn,ZU,ZX,ZV,Z1,Z6,Z4,Z9,Z7,ZZ,Z8,Xy,XA,Xp,Xs,Xo]
 simp -implicitDefEqProofs only [EQA,Zan,gcA,Zq,ZP,Xw,Xv,Xc,XP,XJ,XD,XM,Xm,Xn,Zal,Zak,Zay,Zaz,Zax,XT,XU,id_eq,ZR,Zd,Zo,ZT,Ze,Zf,ZN,Xo,Zc,Zh,Zb,Zg,Zn,Zi,Zm,Zk,Zj,Zl,Zz,ZG,ZC,Zy,ZE,ZF,ZA,ZB,ZD,implies_true,forall_const,Xh,Xi,Xl,Xe,Xf,Xj,Xk,Zv,Zx,unA,Zt,Zu,unG,reduceCtorEq,Zr,decide_eq_true_eq,Xd,Xb,ite_self,↓reduceIte,Zs,Zw,gcT,gcA,Zq,Zd,Zc,Ze,Zh,Zb,Zg,Zf,Zo,Xc,or_false]
section
variable {s c:Tx} {A B:List Sh} {ms:List Tx} (hk:(Zai A).contains s=false) (hl:ms.length<=1000000)
include hk hl
theorem ZxL (hc:ms.contains c=false):EI 9 [.ref 0 0,.str s,.str c] (bk (A++(s,ms)::B))=some (.bool false,[.var [.map 1],.gmap 1 (GX A s (.inr (.sl 2 0 0 ms.length)) B),.row 0 1 (ms.map AVal.str)]):=by
 have hC:=fun {σ:Za} hs sq own=>ZcP (Zpi ms (by omega) c (σ:=σ) (t:=2) (g:=0) (fz:=false) (X:=[]) hs sq own)
 rw [Zvz c ms 0 hc] at hC
 simp only [ZdB,Xq,if_false,Xw] at hC
 have hg:=fun {σ:Za} {z:AVal} {t:Nat} hs=>Zjm (σ:=σ) (A:=A) (B:=B) (s:=s) (z:=z) (t:=t) (S:=ms.map AVal.str) hk hs
 have hm:(ms.map AVal.str).length=ms.length:=by simp
 rw [hm] at hg
 have m1:(-1:Int) < 0:=by decide
 unfold bk
 rw [ZfT]
 generalize ms.map AVal.str=S at *
 rw [ZdX (by rfl) Zmf]
 simp -implicitDefEqProofs only [EQA,Zn,Zi,Zm,Zk,Zj,Zl,Zz,ZG,ZC,Zy,ZE,ZF,ZA,ZB,ZD,implies_true,forall_const,Xh,Xi,Xl,Xe,Xf,Xj,Xk,Zv,Zx,unA,Zt,Zu,unG,reduceCtorEq,Zr,decide_eq_true_eq,Xd,Xb,ite_self,↓reduceIte,Zs,Zw,gcT,gcA,Zq,Zd,Zc,Ze,Zh,Zb,Zg,Zf,Zo,Xc,ZlX,ZhV,Zmd,Zp,ZI,ZK,ZJ,ZH,ZL,hC,hg,m1,AVal.cells,Zag,Z0,Zah,Z3,XF,XH,Xp,Xs,Xr,Xt,Zaa,Zae,Zab,Zaf,Zac,Xm,Xn,ZU,ZX,ZV,Z1,Z6,Z4,Z9,Z7,ZZ,Z8,Xy,XA,Xp,Xs,Xo]
 simp -implicitDefEqProofs only [EQA,Zan,gcA,Zq,ZP,Xw,Xv,Xc,XP,XJ,XD,XM,Xm,Xn,Zal,Zak,Zay,Zaz,Zax,XT,XU,id_eq,ZR,Zd,Zo,ZT,Ze,Zf,ZN,Xo,Zc,Zh,Zb,Zg,Zn,Zi,Zm,Zk,Zj,Zl,Zz,ZG,ZC,Zy,ZE,ZF,ZA,ZB,ZD,implies_true,forall_const,Xh,Xi,Xl,Xe,Xf,Xj,Xk,Zv,Zx,unA,Zt,Zu,unG,reduceCtorEq,Zr,decide_eq_true_eq,Xd,Xb,ite_self,↓reduceIte,Zs,Zw,gcT,gcA,Zq,Zd,Zc,Ze,Zh,Zb,Zg,Zf,Zo,Xc,or_false]
theorem Zw8 (hc:ms=[c]):EI 9 [.ref 0 0,.str s,.str c] (bk (A++(s,ms)::B))=some (.bool true,bk (A++B)):=by
 have hC:=fun {σ:Za} hs sq own=>ZcP (Zpi ms (by omega) c (σ:=σ) (t:=2) (g:=0) (fz:=false) (X:=[]) hs sq own)
 have hi:ZcH c 0 ms=0:=by subst hc;simp [ZcH]
 rw [hi] at hC
 simp only [ZdB,Xq,if_false,Xw] at hC
 have hg:=fun {σ:Za} {z:AVal} {t:Nat} hs=>Zjm (σ:=σ) (A:=A) (B:=B) (s:=s) (z:=z) (t:=t) (S:=ms.map AVal.str) hk hs
 have hd:=fun {σ:Za} hs=>ZKc (σ:=σ) (A:=A) (B:=B) (s:=s) (e:=.inr (.sl 2 0 0 ms.length)) hk hs
 have hm:(ms.map AVal.str).length=ms.length:=by simp
 rw [hm] at hg
 have hn:ms.length=1:=by subst hc;rfl
 have m1:¬(0:Int) < 0:=by decide
 have m2:(((1:Nat):Int) == 1)=true:=rfl
 unfold bk
 rw [ZfT]
 rw [hn] at hg hC hd
 generalize ms.map AVal.str=S at *
 rw [ZdX (by rfl) Zmf]
 simp -implicitDefEqProofs only [EQA,Zn,Zi,Zm,Zk,Zj,Zl,Zz,ZG,ZC,Zy,ZE,ZF,ZA,ZB,ZD,implies_true,forall_const,Xh,Xi,Xl,Xe,Xf,Xj,Xk,Zv,Zx,unA,Zt,Zu,unG,reduceCtorEq,Zr,decide_eq_true_eq,Xd,Xb,ite_self,↓reduceIte,Zs,Zw,gcT,gcA,Zq,Zd,Zc,Ze,Zh,Zb,Zg,Zf,Zo,Xc,ZlX,ZhV,Zmd,Zp,ZI,ZK,ZJ,ZH,ZL,hC,hg,hd,m1,m2,AVal.cells,Zag,Z0,Zah,Z3,XF,XH,Xp,Xs,Xr,Xt,Zaa,Zae,Zab,Zaf,Zac,Xm,Xn,ZU,ZX,ZV,Z1,Z6,Z4,Z9,Z7,ZZ,Z8,Xy,XA,Xp,Xs,Xo]
 simp -implicitDefEqProofs only [EQA,Zan,gcA,Zq,ZP,Xw,Xv,Xc,XP,XJ,XD,XM,Xm,Xn,Zal,Zak,Zay,Zaz,Zax,XT,XU,id_eq,ZR,Zd,Zo,ZT,Ze,Zf,ZN,Xo,Zc,Zh,Zb,Zg,Zn,Zi,Zm,Zk,Zj,Zl,Zz,ZG,ZC,Zy,ZE,ZF,ZA,ZB,ZD,implies_true,forall_const,Xh,Xi,Xl,Xe,Xf,Xj,Xk,Zv,Zx,unA,Zt,Zu,unG,reduceCtorEq,Zr,decide_eq_true_eq,Xd,Xb,ite_self,↓reduceIte,Zs,Zw,gcT,gcA,Zq,Zd,Zc,Ze,Zh,Zb,Zg,Zf,Zo,Xc,or_false]
theorem Zxu (j:Nat) (hj:j < ms.length) (hi:ZcH c 0 ms=((j:Nat):Int)) (h2:2<=ms.length):EI 9 [.ref 0 0,.str s,.str c] (bk (A++(s,ms)::B))=some (.bool true,bk (A++(s,ms.eraseIdx j)::B)):=by
 have hC:=fun {σ:Za} hs sq own=>ZcP (Zpi ms (by omega) c (σ:=σ) (t:=2) (g:=0) (fz:=false) (X:=[]) hs sq own)
 rw [hi] at hC
 simp only [ZdB,Xq,if_false,Xw] at hC
 have hg:=fun {σ:Za} {z:AVal} {t:Nat} hs=>Zjm (σ:=σ) (A:=A) (B:=B) (s:=s) (z:=z) (t:=t) (S:=ms.map AVal.str) hk hs
 have hst:=fun {σ:Za} {v:AVal} hv hs=>ZuY (σ:=σ) (A:=A) (B:=B) (s:=s) (e:=.inr (.sl 2 0 0 ms.length)) (v:=v) hv hk hs
 have hm:(ms.map AVal.str).length=ms.length:=by simp
 rw [hm] at hg
 have m1:¬(j:Int) < 0:=by omega
 have m2:((ms.length:Int) == 1)=false:=by simp;omega
 have e3:=Zbh (i:=j) (n:=ms.length) (by omega) (by omega)
 have hK:=fun {σ:Za} sq hs=>ZcP (ZCL σ sq 2 false ms [] hl hs)
 simp only [ZdB,Xq,if_false,Xw] at hK
 have hD:=fun {σ:Za} {t:Nat} hs sq=>ZcP (ZJ2 ms hl j hj (σ:=σ) (t:=t) hs sq)
 have hel:(ms.eraseIdx j).length=ms.length - 1:=by rw [Xal,if_pos hj]
 have l1:((ms.eraseIdx j).map AVal.str++[AVal.str []]).length=ms.length:=by rw [X3,X7,hel,XQ];omega
 have t1:((ms.eraseIdx j).map AVal.str++[AVal.str []]).take (ms.length - 1)=(ms.eraseIdx j).map AVal.str:=by
  rw [XaI (by rw [X7,hel];exact X5 _),Wc (by rw [X7,hel];exact X5 _)]
 have n1:ms.length - 1<=ms.length:=Nat.sub_le _ _
 unfold bk
 rw [ZfT,ZfT]
 generalize ms.map AVal.str=S at *
 generalize (ms.eraseIdx j).map AVal.str++[AVal.str []]=S2 at *
 rw [ZdX (by rfl) Zmf]
 simp -implicitDefEqProofs only [EQA,Zn,Zi,Zm,Zk,Zj,Zl,Zz,ZG,ZC,Zy,ZE,ZF,ZA,ZB,ZD,implies_true,forall_const,Xh,Xi,Xl,Xe,Xf,Xj,Xk,Zv,Zx,unA,Zt,Zu,unG,reduceCtorEq,Zr,decide_eq_true_eq,Xd,Xb,ite_self,↓reduceIte,Zs,Zw,gcT,gcA,Zq,Zd,Zc,Ze,Zh,Zb,Zg,Zf,Zo,Xc,ZlX,ZhV,Zmd,Zp,ZI,ZK,ZJ,ZH,ZL,hC,hg,hst,hK,hD,m1,m2,e3,l1,t1,n1,Zds,X5,and_self,AVal.cells,Zar,ZS,Zag,Z0,Zah,Z3,XF,XH,Xp,Xs,Xr,Xt,Zaa,Zae,Zab,Zaf,Zac,Xm,Xn,ZU,ZX,ZV,Z1,Z6,Z4,Z9,Z7,ZZ,Z8,Xy,XA,Xp,Xs,Xo]
 simp -implicitDefEqProofs only [EQA,Zan,gcA,Zq,ZP,Xw,Xv,Xc,XP,XJ,XD,XM,Xm,Xn,Zal,Zak,Zay,Zaz,Zax,XT,XU,id_eq,ZR,Zd,Zo,ZT,Ze,Zf,ZN,Xo,Zc,Zh,Zb,Zg,Zn,Zi,Zm,Zk,Zj,Zl,Zz,ZG,ZC,Zy,ZE,ZF,ZA,ZB,ZD,implies_true,forall_const,Xh,Xi,Xl,Xe,Xf,Xj,Xk,Zv,Zx,unA,Zt,Zu,unG,reduceCtorEq,Zr,decide_eq_true_eq,Xd,Xb,ite_self,↓reduceIte,Zs,Zw,gcT,gcA,Zq,Zd,Zc,Ze,Zh,Zb,Zg,Zf,Zo,Xc,or_false]
end
end
section
abbrev Mb:=Tx×Tx
def ZW (R:List Mb) (s:Tx):List Tx:=(R.filter fun q=>q.1 == s).map (·.2)
theorem ZeR (q:Mb) (R:List Mb) (s:Tx):ZW (q::R) s=if (q.1 == s)=true then q.2::ZW R s else ZW R s:=by
 unfold ZW
 rw [Xa0]
 split <;> rfl
theorem Zk2 (R T:List Mb) (s:Tx):ZW (R++T) s=ZW R s++ZW T s:=by simp [ZW]
theorem ZjJ {R:List Mb} {s c:Tx}:c ∈ ZW R s↔(s,c) ∈ R:=by
 unfold ZW
 constructor
 ·intro h
  obtain ⟨⟨a,b⟩,h1,h2⟩:=X0.1 h
  obtain ⟨h1,h3⟩:=Wz.1 h1
  simp only [beq_iff_eq] at h3
  simp only at h2
  rw [<-h2,<-h3];exact h1
 ·intro h
  exact X0.2 ⟨(s,c),Wz.2 ⟨h,by simp⟩,rfl⟩
theorem ZgD (R:List Mb) (s c:Tx):(ZW R s).contains c=R.contains (s,c):=by
 rw [XaE,Xag,Xag];exact ZjJ
theorem Zwh {R:List Mb} (h:R.Nodup) (s:Tx):(ZW R s).Nodup:=by
 induction R with
 | nil=>exact Xa9
 | cons q R ih =>
  obtain ⟨h1,h2⟩:=Wg.1 h
  rw [ZeR]
  split
  ·rename_i hq
   refine Wg.2 ⟨fun hm=>h1 ?_,ih h2⟩
   have:=ZjJ.1 hm
   rw [<-eq_of_beq hq] at this
   exact this
  ·exact ih h2
theorem ZfU (R:List Mb) (s:Tx):(ZW R s).length<=R.length:=by
 unfold ZW;rw [X7];exact Xaf _ _
theorem Zm1 {s c t:Tx} (h:t≠s):∀ R:List Mb,ZW (R.erase (s,c)) t=ZW R t
 | []=>rfl
 | q::R=>by
  rw [Xa6]
  split
  ·rename_i hq
   have:=eq_of_beq hq
   subst this
   rw [ZeR,if_neg (by simpa using fun e=>h e.symm)]
  ·rw [ZeR,ZeR,Zm1 h R]
theorem Zml {s c:Tx}:∀ R:List Mb,ZW (R.erase (s,c)) s=(ZW R s).erase c
 | []=>rfl
 | q::R=>by
  obtain ⟨a,b⟩:=q
  rw [Xa6,ZeR]
  by_cases ha:a=s
  ·subst ha
   by_cases hb:b=c
   ·subst hb;simp
   ·have e1:((a,b) == (a,c))=false:=by simp [hb]
    have e2:(b == c)=false:=by simpa using hb
    rw [e1,if_neg (by simp),if_pos (by simp),Xa6,e2,if_neg (by simp),ZeR,if_pos (by simp),Zml R]
  ·have e1:((a,b) == (s,c))=false:=by simp [ha]
   rw [e1,if_neg (by simp),if_neg (by simpa using ha),ZeR,if_neg (by simpa using ha),Zml R]
structure Inv (M:List Sh) (R:List Mb):Prop where
 nd:(Zai M).Nodup
 mem:∀ p ∈ M,p.2=ZW R p.1/\p.2≠[]
 all:∀ q ∈ R,q.1 ∈ Zai M
 rnd:R.Nodup
theorem Inv.nil:Inv [] []:=⟨Xa9,fun p h=>by simp at h,fun q h=>by simp at h,Xa9⟩
theorem Zeq {α:Type} [BEq α] [LawfulBEq α] {l:List α} {s:α}:l.contains s=false↔s ∉ l:=by
 rw [<-Xd,Xag]
theorem Inv.split {M:List Sh} {R:List Mb} (h:Inv M R) (s:Tx) :
  ((Zai M).contains s=false/\ZW R s=[])\/∃ A B,M=A++(s,ZW R s)::B/\(Zai A).contains s=false/\(Zai B).contains s=false/\ZW R s≠[]:=by
 by_cases hs:s ∈ Zai M
 ·right
  obtain ⟨⟨a,ms⟩,hp,rfl⟩:=X0.1 hs
  obtain ⟨A,B,rfl⟩:=List.append_of_mem hp
  obtain ⟨h1,h2⟩:=h.mem _ hp
  simp only at h1 h2
  have hn:=h.nd
  unfold Zai at hn
  rw [Wm,XS,WG] at hn
  obtain ⟨_,n2,n3⟩:=hn
  refine ⟨A,B,by rw [h1],Zeq.2 fun hm=>n3 _ hm _ (XaL) rfl,Zeq.2 (Wg.1 n2).1,by rw [<-h1];exact h2⟩
 ·left
  refine ⟨Zeq.2 hs,?_⟩
  rw [List.eq_nil_iff_forall_not_mem]
  intro c hc
  exact hs (h.all _ (ZjJ.1 hc))
theorem ZlT (A B:List Sh):Zai (A++B)=Zai A++Zai B:=by simp [Zai]
theorem Inv.turn {A B:List Sh} {s:Tx} {ms ms':List Tx} {R R':List Mb} (h:Inv (A++(s,ms)::B) R) (h0:ms'=ZW R' s) (h1:ms'≠[]) (h2:∀ t,t≠s->ZW R' t=ZW R t) (h3:R'.Nodup) (h4:∀ q ∈ R',q.1=s\/q ∈ R):Inv (A++(s,ms')::B) R':=by
 have hk:Zai (A++(s,ms')::B)=Zai (A++(s,ms)::B):=by simp [Zai]
 have hn:=h.nd
 rw [ZlT] at hn
 have hn2:(Zai A++s::Zai B).Nodup:=hn
 rw [WG] at hn2
 obtain ⟨_,n2,n3⟩:=hn2
 refine ⟨by rw [hk];exact h.nd,fun p hp=>?_,fun q hq=>?_,h3⟩
 ·rcases XL.1 hp with hp | hp
  ·have hne:p.1≠s:=fun e=>n3 _ (X0.2 ⟨p,hp,rfl⟩) _ (XaL) e
   obtain ⟨m1,m2⟩:=h.mem p (Xay _ hp)
   exact ⟨by rw [h2 _ hne];exact m1,m2⟩
  ·rcases XV.1 hp with rfl | hp
   ·exact ⟨h0,h1⟩
   ·have hne:p.1≠s:=fun e=>(Wg.1 n2).1 (by rw [<-e];exact X0.2 ⟨p,hp,rfl⟩)
    obtain ⟨m1,m2⟩:=h.mem p (XaN _ (Wp _ hp))
    exact ⟨by rw [h2 _ hne];exact m1,m2⟩
 ·rw [hk]
  rcases h4 q hq with e | hq
  ·rw [e];simp [Zai]
  ·exact h.all q hq
theorem Inv.push {M:List Sh} {s:Tx} {ms':List Tx} {R R':List Mb} (h:Inv M R) (hs:(Zai M).contains s=false) (h0:ms'=ZW R' s) (h1:ms'≠[]) (h2:∀ t,t≠s->ZW R' t=ZW R t) (h3:R'.Nodup) (h4:∀ q ∈ R',q.1=s\/q ∈ R):Inv (M++[(s,ms')]) R':=by
 have hk:Zai (M++[(s,ms')])=Zai M++[s]:=by simp [Zai]
 have hs':=Zeq.1 hs
 refine ⟨?_,fun p hp=>?_,fun q hq=>?_,h3⟩
 ·rw [hk,WG]
  exact ⟨h.nd,by simp,fun x hx y hy=>by rw [Wa] at hy;subst hy;rintro rfl;exact hs' hx⟩
 ·rcases XL.1 hp with hp | hp
  ·have hne:p.1≠s:=fun e=>hs' (by rw [<-e];exact X0.2 ⟨p,hp,rfl⟩)
   obtain ⟨m1,m2⟩:=h.mem p hp
   exact ⟨by rw [h2 _ hne];exact m1,m2⟩
  ·rw [Wa] at hp;subst hp
   exact ⟨h0,h1⟩
 ·rw [hk]
  rcases h4 q hq with e | hq
  ·rw [e];simp
  ·exact Xay _ (h.all q hq)
theorem Inv.drop {A B:List Sh} {s:Tx} {ms:List Tx} {R R':List Mb} (h:Inv (A++(s,ms)::B) R) (h2:∀ t,t≠s->ZW R' t=ZW R t) (h3:R'.Nodup) (h4:∀ q ∈ R',q.1≠s/\q ∈ R):Inv (A++B) R':=by
 have hn2:(Zai A++s::Zai B).Nodup:=by
  have:=h.nd
  rw [ZlT] at this
  exact this
 rw [WG] at hn2
 obtain ⟨n1,n2,n3⟩:=hn2
 refine ⟨?_,fun p hp=>?_,fun q hq=>?_,h3⟩
 ·rw [ZlT,WG]
  exact ⟨n1,(Wg.1 n2).2,fun x hx y hy=>n3 x hx y (Wp _ hy)⟩
 ·have hne:p.1≠s:=by
   intro e
   rcases XL.1 hp with hp | hp
   ·exact n3 _ (X0.2 ⟨p,hp,rfl⟩) _ (XaL) e
   ·exact (Wg.1 n2).1 (by rw [<-e];exact X0.2 ⟨p,hp,rfl⟩)
  have hp':p ∈ A++(s,ms)::B:=by
   rcases XL.1 hp with hp | hp
   ·exact Xay _ hp
   ·exact XaN _ (Wp _ hp)
  obtain ⟨m1,m2⟩:=h.mem p hp'
  exact ⟨by rw [h2 _ hne];exact m1,m2⟩
 ·obtain ⟨e1,e2⟩:=h4 q hq
  have:=h.all q e2
  rw [ZlT] at this ⊢
  rcases XL.1 this with hm | hm
  ·exact Xay _ hm
  ·have hm':q.1 ∈ s::Zai B:=hm
   rcases XV.1 hm' with e | hm
   ·exact absurd e e1
   ·exact XaN _ hm
def Zdf (ok:Bool) (R:List Mb) (s c:Tx):List Mb:=if (ok && !R.contains (s,c))=true then R++[(s,c)] else R
end
section
theorem ZnP:∀ (M:List Sh) (r:List (AVal×(List AVal ⊕ AVal))) (i:Nat),Zeh (GM M++r) i=Zeh r (i+M.length)
 | [],r,i=>rfl
 | p::M,r,i=>by
  have e:Zeh (GM (p::M)++r) i=Zeh (GM M++r) (i+1):=rfl
  have hi:i+1+M.length=i+(M.length+1):=by omega
  rw [e,ZnP M r (i+1),Xr,hi]
theorem Zw0 (M:List Sh):Zeh (GM M) 0=none:=by
 have:=ZnP M [] 0
 rw [Xw] at this
 rw [this];rfl
theorem ZJG (A B:List Sh) (s:Tx) (v:AVal):Zeh (GX A s (.inr v) B) 0=some (A.length,.str s,v):=by
 unfold GX
 rw [ZnP,XX];rfl
theorem ZzG (M:List Sh):Zfz 1 (bk M)=bk M:=by
 unfold Zfz bk
 simp only [XC,Xx,Zw0]
theorem ZHv (A B:List Sh) (s:Tx) (ms:List Tx):Zfz 1 [.var [.map 1],.gmap 1 (GX A s (.inr (.sl 2 0 0 ms.length)) B),.row 0 1 (ms.map AVal.str)]=[.var [.map 1],.gmap 1 (GM (A++(s,ms)::B)),.frow 0 1 []]:=by
 have h1:ms.length<=(ms.map AVal.str).length:=by simp
 have h2:(ms.map AVal.str).take ms.length=ms.map AVal.str:=Wc (by simp)
 unfold Zfz
 simp only [XC,Xx,ZJG,h1,and_self,if_true,h2,Zpu,List.set_cons_succ,X2,ZfT]
theorem ZBT (M:List Sh) (r:AVal) (hr:ZT r=[]) (hn:∀ ρ,ZN ρ r=r):Zan 2 [.var [.map 1],.gmap 1 (GM M),.frow 0 1 []] r=some (r,bk M):=by
 unfold bk
 simp -implicitDefEqProofs only [EQA,Zan,gcA,Zq,ZP,Xw,Xv,Xc,XP,XJ,XD,XM,Xm,Xn,Zal,Zak,Zay,Zaz,Zax,XT,XU,id_eq,ZR,Zd,Zo,ZT,Ze,Zf,ZN,Xo,Zc,Zh,Zb,Zg,Zn,Zi,Zm,Zk,Zj,Zl,Zz,ZG,ZC,Zy,ZE,ZF,ZA,ZB,ZD,implies_true,forall_const,Xh,Xi,Xl,Xe,Xf,Xj,Xk,Zv,Zx,unA,Zt,Zu,unG,reduceCtorEq,Zr,decide_eq_true_eq,Xd,Xb,ite_self,↓reduceIte,Zs,Zw,gcT,gcA,Zq,Zd,Zc,Ze,Zh,Zb,Zg,Zf,Zo,Xc,hr,hn,or_false]
theorem Zh5 {f:Nat} {args:List AVal} {M M':List Sh} {r:AVal} (h:EI f args (bk M)=some (r,bk M')) (hr:ZT r=[]) (hn:∀ ρ,ZN ρ r=r):ZdV 1 (EI f) args (bk M)=some (r,bk M'):=by
 unfold ZdV
 rw [h]
 simp only
 rw [ZzG]
 exact Zko M' r hr hn
theorem ZtT {f:Nat} {args:List AVal} {A B:List Sh} {s:Tx} {ms:List Tx} {r:AVal} (h:EI f args (bk (A++(s,ms)::B))=some (r,[.var [.map 1],.gmap 1 (GX A s (.inr (.sl 2 0 0 ms.length)) B),.row 0 1 (ms.map AVal.str)])) (hr:ZT r=[]) (hn:∀ ρ,ZN ρ r=r):ZdV 1 (EI f) args (bk (A++(s,ms)::B))=some (r,bk (A++(s,ms)::B)):=by
 unfold ZdV
 rw [h]
 simp only
 rw [ZHv]
 exact ZBT _ r hr hn
theorem ZsW {c:Tx}:∀ {l:List Tx} {j:Nat},l.Nodup->l[j]?=some c->l.eraseIdx j=l.erase c
 | [],j,_,h=>by simp at h
 | x::l,0,_,h=>by
  simp only [Xx,Xa] at h
  subst h;simp
 | x::l,j+1,hn,h=>by
  obtain ⟨h1,h2⟩:=Wg.1 hn
  simp only [XC] at h
  have hne:(x == c)=false:=by
   rw [beq_eq_false_iff_ne]
   rintro rfl
   exact h1 (XN h)
  rw [List.eraseIdx_cons_succ,Xa6,hne,if_neg (by simp),ZsW h2 h]
theorem ZBI {M:List Sh} {R:List Mb} {s c:Tx} {ok:Bool} (hi:Inv M R) (hs:ShC s ok) (hl:R.length<=1000000):∃ M',EP 7 [.ref 0 0,.str s,.str c] (bk M)=some (.tup [],bk M')/\Inv M' (Zdf ok R s c):=by
 have rr:ZT (.tup [])=[]:=rfl
 have rn:∀ ρ,ZN ρ (.tup [])=.tup []:=fun _=>rfl
 cases ok with
 | false=>exact ⟨M,by rw [Zkd];exact Zh5 (ZEJ hs) rr rn,hi⟩
 | true =>
  have hml:=ZfU R s
  rcases hi.split s with ⟨h1,h2⟩ | ⟨A,B,rfl,h1,h2,h3⟩
  ·have hc:R.contains (s,c)=false:=by rw [<-ZgD,h2];rfl
   have hj:Zdf true R s c=R++[(s,c)]:=by unfold Zdf;rw [hc];rfl
   refine ⟨M++[(s,[c])],by rw [Zkd];exact Zh5 (ZAl hs h1) rr rn,?_⟩
   rw [hj]
   refine hi.push h1 ?_ (by simp) (fun t ht=>?_) ?_ (fun q hq=>?_)
   ·rw [Zk2,h2];simp [ZW]
   ·rw [Zk2];simp [ZW,Ne.symm ht]
   ·rw [WG]
    exact ⟨hi.rnd,by simp,fun x hx y hy=>by rw [Wa] at hy;subst hy;rintro rfl;exact Zeq.1 hc hx⟩
   ·rcases XL.1 hq with hq | hq
    ·exact XO hq
    ·rw [Wa] at hq;subst hq;exact XK rfl
  ·cases hc:(ZW R s).contains c with
   | true =>
    have hj:Zdf true R s c=R:=by rw [ZgD] at hc;unfold Zdf;rw [hc];rfl
    exact ⟨_,by rw [Zkd];exact ZtT (ZGz hs h1 (by omega) hc) rr rn,by rw [hj];exact hi⟩
   | false =>
    have hR:R.contains (s,c)=false:=by rw [<-ZgD];exact hc
    have hj:Zdf true R s c=R++[(s,c)]:=by unfold Zdf;rw [hR];rfl
    refine ⟨A++(s,ZW R s++[c])::B,by rw [Zkd];exact Zh5 (Zy6 hs h1 (by omega) hc) rr rn,?_⟩
    rw [hj]
    refine hi.turn ?_ (by simp) (fun t ht=>?_) ?_ (fun q hq=>?_)
    ·rw [Zk2];simp [ZW]
    ·rw [Zk2];simp [ZW,Ne.symm ht]
    ·rw [WG]
     exact ⟨hi.rnd,by simp,fun x hx y hy=>by rw [Wa] at hy;subst hy;rintro rfl;exact Zeq.1 hR hx⟩
    ·rcases XL.1 hq with hq | hq
     ·exact XO hq
     ·rw [Wa] at hq;subst hq;exact XK rfl
theorem ZGC {M:List Sh} {R:List Mb} {s c:Tx} (hi:Inv M R) (hl:R.length<=1000000):∃ M',EP 9 [.ref 0 0,.str s,.str c] (bk M)=some (.bool (R.contains (s,c)),bk M')/\Inv M' (R.erase (s,c)):=by
 have rr:∀ b,ZT (.bool b)=[]:=fun _=>rfl
 have rn:∀ b ρ,ZN ρ (.bool b)=.bool b:=fun _ _=>rfl
 have hml:=ZfU R s
 have hsub:∀ q ∈ R.erase (s,c),q ∈ R:=fun q hq=>List.mem_of_mem_erase hq
 rcases hi.split s with ⟨h1,h2⟩ | ⟨A,B,rfl,h1,h2,h3⟩
 ·have hc:R.contains (s,c)=false:=by rw [<-ZgD,h2];rfl
  refine ⟨M,by rw [Zl6,hc];exact Zh5 (ZLP h1) (rr _) (rn _),?_⟩
  rw [XaR (Zeq.1 hc)];exact hi
 ·cases hc:(ZW R s).contains c with
  | false =>
   have hR:R.contains (s,c)=false:=by rw [<-ZgD];exact hc
   refine ⟨_,by rw [Zl6,hR];exact ZtT (ZxL h1 (by omega) hc) (rr _) (rn _),?_⟩
   rw [XaR (Zeq.1 hR)];exact hi
  | true =>
   have hR:R.contains (s,c)=true:=by rw [<-ZgD];exact hc
   obtain ⟨j,j1,j2,j3⟩:=ZuW c (ZW R s) 0 hc
   rw [XX] at j2
   have hnd:=Zwh hi.rnd s
   have hee:(ZW R s).eraseIdx j=(ZW R s).erase c:=ZsW hnd j3
   by_cases h1m:(ZW R s).length=1
   ·obtain ⟨x,hx⟩:=List.length_eq_one_iff.1 h1m
    have hxc:x=c:=by
     rw [hx] at hc
     have:=Xag.1 hc
     rw [Wa] at this
     exact this.symm
    subst hxc
    refine ⟨A++B,by rw [Zl6,hR];exact Zh5 (Zw8 h1 (by omega) hx) (rr _) (rn _),?_⟩
    have hme:ZW (R.erase (s,x)) s=[]:=by rw [Zml,hx];simp
    refine hi.drop (fun t ht=>Zm1 ht R) (hi.rnd.erase _) (fun q hq=>⟨fun e=>?_,hsub q hq⟩)
    have : q.2 ∈ ZW (R.erase (s,x)) s:=ZjJ.2 (by rw [show (s,q.2)=q from by rw [<-e]];exact hq)
    rw [hme] at this;cases this
   ·have h2m:2<=(ZW R s).length:=by
     have : (ZW R s).length≠0:=fun e=>h3 (List.length_eq_zero_iff.1 e)
     omega
    refine ⟨A++(s,(ZW R s).eraseIdx j)::B,by rw [Zl6,hR];exact Zh5 (Zxu h1 (by omega) j j1 j2 h2m) (rr _) (rn _),?_⟩
    refine hi.turn (by rw [hee,Zml]) (fun e=>?_) (fun t ht=>Zm1 ht R) (hi.rnd.erase _) (fun q hq=>XO (hsub q hq))
    have:=congrArg Xa8 e
    rw [Xal,if_pos j1,Xt] at this
    omega
end
section
theorem ZLY {O:Zat} {bf:Nat->Bool} {f:Nat} {args args':List AVal} {k n:Nat} {xs:List AVal} (h:O f args' []=some (.sl 0 0 0 n,[.row 0 k xs])) (hb:bf f=false) (hp:args.all ZaX=true) (hn:args.map Zaw=args') (hx:xs.all Zbu=true) (σ:Za) (sq:Nat) (hs:freeAt σ sq=true):ZQ O bf σ sq f 1 false args=some (.sl sq 0 0 n,σ.set sq (.row 0 k xs),{}):=by
 have h1:=Zi5 (O:=O) (bf:=bf) (f:=f) (σ:=σ) (sq:=sq) (own:=1) (view:=false) hb hp
 rw [h1,hn]
 simp only [ZaG,Xq,if_false]
 rw [h]
 simp only [Zbf,Xaj,X8,XbA,Xq,if_false,if_true,Zh4,hx,decide_true,WD]
def GR (M:List Sh):List (AVal×AVal):=M.map fun p=>(.str p.1,.lst false (p.2.map AVal.str))
def rb (M:List Sh):Za:=[.var [.map 1],.rmap (GR M)]
theorem Zuh:∀ M:List Sh,Zfq (GM M)=some (GR M)
 | []=>rfl
 | p::M=>by
  show (match Zfq (GM M) with | some l=>some ((AVal.str p.1,AVal.lst false (p.2.map AVal.str))::l) | none=>none)=_
  rw [Zuh M];rfl
theorem ZoT (s:Tx):∀ (A:List Sh) (i:Nat) (r:List (AVal×AVal)),(Zai A).contains s=false->Zdc (.str s) (GR A++r) i=Zdc (.str s) r (i+A.length)
 | [],i,r,_=>rfl
 | p::A,i,r,h=>by
  unfold Zai at h
  rw [XS,Wo,WN] at h
  have e:Zdc (.str s) ((.str p.1,.lst false (p.2.map AVal.str))::(GR A++r)) i=(match ZcO (.str s) (.str p.1) with
   | some true=>some (some (i,.lst false (p.2.map AVal.str)))
   | some false=>Zdc (.str s) (GR A++r) (i+1)
   | none=>none):=rfl
  have h1:ZcO (.str s) (.str p.1)=some false:=by
   show some (s == p.1)=_
   rw [h.1]
  show Zdc (.str s) ((.str p.1,.lst false (p.2.map AVal.str))::(GR A++r)) i=_
  have hi:i+1+A.length=i+(A.length+1):=by omega
  rw [e,h1]
  simp only
  rw [ZoT s A (i+1) r h.2,Xr,hi]
theorem ZAf (A B:List Sh):GR (A++B)=GR A++GR B:=by simp [GR]
theorem Zbb (A:List Sh):ZP ((GR A).map fun p=>p.2)=[]:=by
 induction A with
 | nil=>rfl
 | cons p A ih=>exact ih
theorem Zbc (A:List Sh) (ρ:Rho):(GR A).map (fun p=>(p.1,ZN ρ p.2))=GR A:=by
 induction A with
 | nil=>rfl
 | cons p A ih=>unfold GR at ih ⊢;rw [XS,XS,ih];rfl
def ZgA (ms:List Tx):AVal:=.lst (decide (ms=[])) (ms.map AVal.str)
theorem Zqp {M:List Sh} {R:List Mb} (hi:Inv M R) (s:Tx) {σ:Za} {t:Nat} (hs:σ[t]?=some (.rmap (GR M))):Zdy σ 2 (.lst true []) false (.map t) (.str s)=some (ZgA (ZW R s),σ,{ rd:=[t] }):=by
 rcases hi.split s with ⟨h1,h2⟩ | ⟨A,B,rfl,h1,h2,h3⟩
 ·have:=ZoT s M 0 [] h1
  rw [Xw] at this
  simp only [Zdy,ZaU,if_true,hs,this,Zdc,Zgr,Xq,if_false,h2,ZgA,decide_true,Wr]
 ·have h4:=ZoT s A 0 ((.str s,.lst false ((ZW R s).map AVal.str))::GR B) h1
  have h5:GR (A++(s,ZW R s)::B)=GR A++(.str s,.lst false ((ZW R s).map AVal.str))::GR B:=by rw [ZAf];rfl
  have h6:ZcO (.str s) (.str s)=some true:=by
   show some (s == s)=_
   simp
  rw [<-h5] at h4
  simp only [Zdy,ZaU,if_true,hs,h4,Zdc,h6,Zgr,Xq,if_false,ZgA,h3,decide_false]
theorem ZBC {M:List Sh} {R:List Mb} (hi:Inv M R) (s:Tx) (hl:R.length<=1000000):EI 14 [.ref 0 0,.str s] (rb M)=some (.sl 2 0 0 (ZW R s).length,rb M++[.row 0 1 ((ZW R s).map AVal.str)]):=by
 have hml:=ZfU R s
 have hk:=fun {σ:Za} {t:Nat} hs=>Zqp hi s (σ:=σ) (t:=t) hs
 have hC:=fun (σ:Za) (sq:Nat) hs=>ZcP (ZLY (bf:=BY) (f:=27) (args:=[ZgA (ZW R s)]) (ZrB (ZW R s) (by omega)) (by kernel_rfl) rfl rfl (Zue _) σ sq hs)
 unfold rb
 unfold ZgA at *
 generalize decide (ZW R s=[])=b0 at *
 generalize (ZW R s).map AVal.str=S at *
 rw [ZdX (by rfl) ZBJ]
 simp -implicitDefEqProofs only [EQA,Zn,Zi,Zm,Zk,Zj,Zl,Zz,ZG,ZC,Zy,ZE,ZF,ZA,ZB,ZD,implies_true,forall_const,Xh,Xi,Xl,Xe,Xf,Xj,Xk,Zv,Zx,unA,Zt,Zu,unG,reduceCtorEq,Zr,decide_eq_true_eq,Xd,Xb,ite_self,↓reduceIte,Zs,Zw,gcT,gcA,Zq,Zd,Zc,Ze,Zh,Zb,Zg,Zf,Zo,Xc,ZGa,ZnW,ZGd,Zp,ZI,ZK,ZJ,ZH,ZL,hC,hk,AVal.cells,Zag,Z0,Zah,Z3,XF,XH,Xp,Xs,Xr,Xt,Zaa,Zae,Zab,Zaf,Zac,Xm,Xn,ZU,ZX,ZV,Z1,Z6,Z4,Z9,Z7,ZZ,Z8,Xy,XA,Xp,Xs,Xo]
 simp -implicitDefEqProofs only [EQA,Zan,gcA,Zq,ZP,Xw,Xv,Xc,XP,XJ,XD,XM,Xm,Xn,Zal,Zak,Zay,Zaz,Zax,XT,XU,id_eq,ZR,Zd,Zo,ZT,Ze,Zf,ZN,Xo,Zc,Zh,Zb,Zg,Zn,Zi,Zm,Zk,Zj,Zl,Zz,ZG,ZC,Zy,ZE,ZF,ZA,ZB,ZD,implies_true,forall_const,Xh,Xi,Xl,Xe,Xf,Xj,Xk,Zv,Zx,unA,Zt,Zu,unG,reduceCtorEq,Zr,decide_eq_true_eq,Xd,Xb,ite_self,↓reduceIte,Zs,Zw,gcT,gcA,Zq,Zd,Zc,Ze,Zh,Zb,Zg,Zf,Zo,Xc,Zbb,Zbc,or_false,XG]
def Zb3 (d:Int) (n:Nat):Nat:=(if d.tmod (n:Int) < 0 then d.tmod (n:Int)+(n:Int) else d.tmod (n:Int)).toNat
theorem ZiU (d:Int) {n:Nat} (hn:0 < n):Zb3 d n < n:=by
 have h1:d.tmod (n:Int) < (n:Int):=W8 _ (by omega)
 unfold Zb3
 split <;> omega
theorem ZnV (d:Int) {n:Nat} (hn:0 < n):((Zb3 d n:Nat):Int)=if d.tmod (n:Int) < 0 then d.tmod (n:Int)+(n:Int) else d.tmod (n:Int):=by
 have hl:-(n:Int) < d.tmod (n:Int):=by
  have h1:=W8 (-d) (b:=(n:Int)) (by omega)
  rw [Xbo] at h1
  omega
 unfold Zb3
 split <;> omega
theorem ZLf (d:Int) (n:Nat) (hn:0 < n) (hn2:n<=1000000):E 35 [.int .i64 d,.int .i64 (n:Int)] []=some (.int .i64 ((Zb3 d n:Nat):Int),[]):=by
 have h0:¬(n:Int)=0:=by omega
 have h1:d.tmod (n:Int) < (n:Int):=W8 _ (by omega)
 have hl:-(n:Int) < d.tmod (n:Int):=by
  have h1:=W8 (-d) (b:=(n:Int)) (by omega)
  rw [Xbo] at h1
  omega
 rw [ZnV d hn,ZaJ (by rfl) ZAo]
 by_cases h:d.tmod (n:Int) < 0
 ·have w4:IntKind.i64.wrap (d.tmod (n:Int)+(n:Int))=d.tmod (n:Int)+(n:Int):=by
   rw [Zbp (by omega) (by omega)]
  simp -implicitDefEqProofs only [EQA,Zn,Zi,Zm,Zk,Zj,Zl,Zz,ZG,ZC,Zy,ZE,ZF,ZA,ZB,ZD,implies_true,forall_const,Xh,Xi,Xl,Xe,Xf,Xj,Xk,Zv,Zx,unA,Zt,Zu,unG,reduceCtorEq,Zr,decide_eq_true_eq,Xd,Xb,ite_self,↓reduceIte,Zs,Zw,gcT,gcA,Zq,Zd,Zc,Ze,Zh,Zb,Zg,Zf,Zo,Xc,ZtP,Zl9,ZrK,Zp,ZI,ZK,ZJ,ZH,ZL,h0,h,w4]
 ·simp -implicitDefEqProofs only [EQA,Zn,Zi,Zm,Zk,Zj,Zl,Zz,ZG,ZC,Zy,ZE,ZF,ZA,ZB,ZD,implies_true,forall_const,Xh,Xi,Xl,Xe,Xf,Xj,Xk,Zv,Zx,unA,Zt,Zu,unG,reduceCtorEq,Zr,decide_eq_true_eq,Xd,Xb,ite_self,↓reduceIte,Zs,Zw,gcT,gcA,Zq,Zd,Zc,Ze,Zh,Zb,Zg,Zf,Zo,Xc,ZtP,Zl9,ZrK,Zp,ZI,ZK,ZJ,ZH,ZL,h0,h]
theorem ZDn {M:List Sh} {R:List Mb} (hi:Inv M R) (s:Tx) (d:Int) (first but:List Tx) (f1 f2:Bool) (hl:R.length<=1000000) (hf:first.length<=9223372036854775807) (hbt:but.length<=9223372036854775807) :
  EI 18 [.ref 0 0,.str s,.int .i64 d,.lst f1 (first.map AVal.str),.lst f2 (but.map AVal.str)] (rb M)=some (match (chL first but (ZW R s))[Zb3 d (chL first but (ZW R s)).length]? with | some x=>.tup [.str x,.bool true] | none=>.tup [.str [],.bool false],rb M):=by
 have hml:=ZfU R s
 have hk:=fun {σ:Za} {t:Nat} hs=>Zqp hi s (σ:=σ) (t:=t) hs
 have hA:=fun {b:Bool} σ sq own=>ZcP (ZuL (ZW R s) but false b f2 (by omega) hbt σ sq own)
 have l1:=ZtU but false (ZW R s)
 have hB:=fun {b:Bool} σ sq own=>ZcP (ZuL (amF but false (ZW R s)) first true b f1 (by omega) hf σ sq own)
 have l2:=ZtU first true (amF but false (ZW R s))
 have hP:=fun (L:List Tx) (h:L≠[]) (hL:L.length<=1000000) (σ:Za) (sq own:Nat)=>ZcP (ZfF (args:=[.int .i64 d,.int .i64 (L.length:Int)]) (ZLf d L.length (W3.2 h) hL) (by kernel_rfl) rfl rfl rfl (fun _=>rfl) σ sq own)
 have hx:∀ (L:List Tx) (h:L≠[]),∃ x,L[Zb3 d L.length]?=some x:=fun L h=>⟨_,XY (ZiU d (W3.2 h))⟩
 have w0:∀ {L:List Tx},L≠[]->((L.length:Int) > 0):=fun h=>by have:=W3.2 h;omega
 have w1:∀ {L:List Tx},L≠[]->((L.length:Int) == 0)=false:=fun h=>by have:=W3.2 h;simp;omega
 unfold ZgA at hk
 generalize decide (ZW R s=[])=b0 at *
 unfold chL rb
 generalize amF but false (ZW R s)=R1 at *
 generalize ZW R s=R0 at *
 generalize amF first true R1=R2 at *
 have n0:¬(((0:Nat):Int) > 0):=by decide
 have n1:(((0:Nat):Int) == 0)=true:=rfl
 by_cases h2:R2=[]
 ·rw [if_pos h2]
  subst h2
  by_cases h1:R1=[]
  ·subst h1
   rw [ZdX (by rfl) Zm7]
   simp only [Wr] at hA hB
   simp -implicitDefEqProofs only [EQA,Zn,Zi,Zm,Zk,Zj,Zl,Zz,ZG,ZC,Zy,ZE,ZF,ZA,ZB,ZD,implies_true,forall_const,Xh,Xi,Xl,Xe,Xf,Xj,Xk,Zv,Zx,unA,Zt,Zu,unG,reduceCtorEq,Zr,decide_eq_true_eq,Xd,Xb,ite_self,↓reduceIte,Zs,Zw,gcT,gcA,Zq,Zd,Zc,Ze,Zh,Zb,Zg,Zf,Zo,Xc,Zpt,Zi3,Zm5,Zp,ZI,ZK,ZJ,ZH,ZL,hA,hB,hk,n0,n1,Xt,AVal.cells,Zag,Z0,Zah,Z3,XF,XH,Xp,Xs,Xr,Xt,Zaa,Zae,Zab,Zaf,Zac,Xm,Xn,ZU,ZX,ZV,Z1,Z6,Z4,Z9,Z7,ZZ,Z8,Xy,XA,Xp,Xs,Xo]
   simp -implicitDefEqProofs only [EQA,Zan,gcA,Zq,ZP,Xw,Xv,Xc,XP,XJ,XD,XM,Xm,Xn,Zal,Zak,Zay,Zaz,Zax,XT,XU,id_eq,ZR,Zd,Zo,ZT,Ze,Zf,ZN,Xo,Zc,Zh,Zb,Zg,Zn,Zi,Zm,Zk,Zj,Zl,Zz,ZG,ZC,Zy,ZE,ZF,ZA,ZB,ZD,implies_true,forall_const,Xh,Xi,Xl,Xe,Xf,Xj,Xk,Zv,Zx,unA,Zt,Zu,unG,reduceCtorEq,Zr,decide_eq_true_eq,Xd,Xb,ite_self,↓reduceIte,Zs,Zw,gcT,gcA,Zq,Zd,Zc,Ze,Zh,Zb,Zg,Zf,Zo,Xc,Zbb,Zbc,or_false,XG]
   rfl
  ·have hP1:=hP R1 h1 (by omega)
   obtain ⟨x,hx1⟩:=hx R1 h1
   have v1:=w1 h1
   rw [hx1]
   simp only [Wr] at hB
   have ia:=iad hx1 AVal.str (k:=1) rfl
   have hLn:(R1.map AVal.str).length=R1.length:=by simp
   generalize R1.map AVal.str=S1 at *
   rw [ZdX (by rfl) Zm7]
   simp -implicitDefEqProofs only [EQA,Zn,Zi,Zm,Zk,Zj,Zl,Zz,ZG,ZC,Zy,ZE,ZF,ZA,ZB,ZD,implies_true,forall_const,Xh,Xi,Xl,Xe,Xf,Xj,Xk,Zv,Zx,unA,Zt,Zu,unG,reduceCtorEq,Zr,decide_eq_true_eq,Xd,Xb,ite_self,↓reduceIte,Zs,Zw,gcT,gcA,Zq,Zd,Zc,Ze,Zh,Zb,Zg,Zf,Zo,Xc,Zpt,Zi3,Zm5,Zp,ZI,ZK,ZJ,ZH,ZL,hA,hB,hk,hP1,ia,hLn,v1,n0,n1,Xt,AVal.cells,Zag,Z0,Zah,Z3,XF,XH,Xp,Xs,Xr,Xt,Zaa,Zae,Zab,Zaf,Zac,Xm,Xn,ZU,ZX,ZV,Z1,Z6,Z4,Z9,Z7,ZZ,Z8,Xy,XA,Xp,Xs,Xo]
   simp -implicitDefEqProofs only [EQA,Zan,gcA,Zq,ZP,Xw,Xv,Xc,XP,XJ,XD,XM,Xm,Xn,Zal,Zak,Zay,Zaz,Zax,XT,XU,id_eq,ZR,Zd,Zo,ZT,Ze,Zf,ZN,Xo,Zc,Zh,Zb,Zg,Zn,Zi,Zm,Zk,Zj,Zl,Zz,ZG,ZC,Zy,ZE,ZF,ZA,ZB,ZD,implies_true,forall_const,Xh,Xi,Xl,Xe,Xf,Xj,Xk,Zv,Zx,unA,Zt,Zu,unG,reduceCtorEq,Zr,decide_eq_true_eq,Xd,Xb,ite_self,↓reduceIte,Zs,Zw,gcT,gcA,Zq,Zd,Zc,Ze,Zh,Zb,Zg,Zf,Zo,Xc,Zbb,Zbc,or_false,XG]
 ·rw [if_neg h2]
  have hP1:=hP R2 h2 (by omega)
  obtain ⟨x,hx1⟩:=hx R2 h2
  have v1:=w1 h2
  have v0:=w0 h2
  rw [hx1]
  have ia:=iad hx1 AVal.str (k:=1) rfl
  have hLn:(R2.map AVal.str).length=R2.length:=by simp
  generalize R2.map AVal.str=S1 at *
  rw [ZdX (by rfl) Zm7]
  simp -implicitDefEqProofs only [EQA,Zn,Zi,Zm,Zk,Zj,Zl,Zz,ZG,ZC,Zy,ZE,ZF,ZA,ZB,ZD,implies_true,forall_const,Xh,Xi,Xl,Xe,Xf,Xj,Xk,Zv,Zx,unA,Zt,Zu,unG,reduceCtorEq,Zr,decide_eq_true_eq,Xd,Xb,ite_self,↓reduceIte,Zs,Zw,gcT,gcA,Zq,Zd,Zc,Ze,Zh,Zb,Zg,Zf,Zo,Xc,Zpt,Zi3,Zm5,Zp,ZI,ZK,ZJ,ZH,ZL,hA,hB,hk,hP1,ia,hLn,v1,v0,n0,n1,AVal.cells,Zag,Z0,Zah,Z3,XF,XH,Xp,Xs,Xr,Xt,Zaa,Zae,Zab,Zaf,Zac,Xm,Xn,ZU,ZX,ZV,Z1,Z6,Z4,Z9,Z7,ZZ,Z8,Xy,XA,Xp,Xs,Xo]
  simp -implicitDefEqProofs only [EQA,Zan,gcA,Zq,ZP,Xw,Xv,Xc,XP,XJ,XD,XM,Xm,Xn,Zal,Zak,Zay,Zaz,Zax,XT,XU,id_eq,ZR,Zd,Zo,ZT,Ze,Zf,ZN,Xo,Zc,Zh,Zb,Zg,Zn,Zi,Zm,Zk,Zj,Zl,Zz,ZG,ZC,Zy,ZE,ZF,ZA,ZB,ZD,implies_true,forall_const,Xh,Xi,Xl,Xe,Xf,Xj,Xk,Zv,Zx,unA,Zt,Zu,unG,reduceCtorEq,Zr,decide_eq_true_eq,Xd,Xb,ite_self,↓reduceIte,Zs,Zw,gcT,gcA,Zq,Zd,Zc,Ze,Zh,Zb,Zg,Zf,Zo,Xc,Zbb,Zbc,or_false,XG]
end
section
def Zau:List UInt8->List (List UInt8)
 | []=>[[]]
 | b::r=>if b=47 then []::Zau r else match Zau r with
  | h::t=>(b::h)::t
  | []=>[[b]]
theorem Zgi (s:List UInt8):Zau s≠[]:=by
 cases s with
 | nil=>simp [Zau]
 | cons b r=>simp only [Zau];split <;> (try split) <;> simp
theorem Zud {s:List UInt8} (h:s.count 47=0):Zau s=[s]:=by
 induction s with
 | nil=>rfl
 | cons b r ih =>
  rw [Xbl] at h
  have hb:¬b=47:=by rintro rfl;simp at h
  simp only [Zau]
  rw [if_neg hb,ih (by omega)]
theorem ZvB {s:List UInt8} {k:Nat} (h:s.count 47=k+1):∃ p t,s=p++47::t/\t.count 47=k/\Zau s=p::Zau t/\Lib.indexByte s 47=p.length:=by
 induction s with
 | nil=>simp at h
 | cons b r ih =>
  rw [Xbl] at h
  by_cases hb:b=47
  ·subst hb
   exact ⟨[],r,rfl,by simpa using h,by simp [Zau],by simp [Lib.indexByte]⟩
  ·have hb':(b == 47)=false:=by simpa using hb
   rw [hb'] at h
   obtain ⟨p,t,rfl,h2,h3,h4⟩:=ih (by simpa using h)
   refine ⟨b::p,t,rfl,h2,?_,?_⟩
   ·simp only [Zau]
    rw [if_neg hb,h3]
   ·simp only [Lib.indexByte,hb',h4]
    simp
    try omega
theorem Zgu (s:List UInt8):(Zau s).length=s.count 47+1:=by
 induction s with
 | nil=>rfl
 | cons b r ih =>
  simp only [Zau]
  rw [Xbl]
  split
  ·rename_i h;subst h;simp [ih]
  ·rename_i h
   have h0:=Zgi r
   split
   ·rename_i e;rw [e] at ih;simp [h];simp at ih;omega
   ·rename_i e;exact absurd e h0
theorem ZEH (l:List UInt8) (c:UInt8):E 79 [.str l,.int .u8 c.toNat] []=some (.int .i64 (Lib.indexByte l c),[]):=by
 have : ((c.toNat:Int).toNat.toUInt8)=c:=by simp
 have h:=(Zcp (fs:=FC) (prim:=PR) (bf:=BY) (f:=79) (args:=[.str l,.int .u8 c.toNat]) (σ:=[])).2 ⟨1,rfl⟩
 rw [this] at h
 exact h
theorem ZAs (σ:Za) (sq own:Nat) (view:Bool) (l:List UInt8) (c:UInt8):ZQ E BY σ sq 79 own view [.str l,.int .u8 c.toNat]=some (.int .i64 (Lib.indexByte l c),σ,{}) :=
 Za5 (ZEH l c) (by kernel_rfl) (by simp -implicitDefEqProofs only [Zam,Zao,Zn,Zi,Zm,Zaq,Zk,Zj,Zap,Zl,eq_self,implies_true,Xq,Zp,ZI,ZK,ZJ,ZH,Zp]) (by simp -implicitDefEqProofs only [Zam,Zao,Zn,Zi,Zm,Zaq,Zk,Zj,Zap,Zl,eq_self,implies_true,Xq,Zp,ZI,ZK,ZJ,ZH,Zp]) rfl (fun _=>rfl) _ _ _ _
theorem ZAX (l:List UInt8) (c:UInt8):E 60 [.str l,.str [c]] []=some (.int .i64 (Lib.indexByte l c),[]):=by
 rw [ZaJ (by rfl) ZDh]
 have e0:(((1:Nat):Int) == 0)=false:=rfl
 have e1:(((1:Nat):Int) == 1)=true:=rfl
 have hi:(if ([c] == l)=true then (0:Int) else Lib.indexByte l c)=Lib.indexByte l c:=by
  split
  ·rename_i h
   have : [c]=l:=by simpa using h
   subst this
   simp [Lib.indexByte]
  ·rfl
 simp -implicitDefEqProofs only [EQA,Zn,Zi,Zm,Zk,Zj,Zl,Zz,ZG,ZC,Zy,ZE,ZF,ZA,ZB,ZD,implies_true,forall_const,Xh,Xi,Xl,Xe,Xf,Xj,Xk,Zv,Zx,unA,Zt,Zu,unG,reduceCtorEq,Zr,decide_eq_true_eq,Xd,Xb,ite_self,↓reduceIte,Zs,Zw,gcT,gcA,Zq,Zd,Zc,Ze,Zh,Zb,Zg,Zf,Zo,Xc,ZHe,ZmP,ZEM,ZIK,ZqC,ZCt,Zol,Zp,ZI,ZK,ZJ,ZH,ZL,e0,e1,ZAs,ZaP,WB,WQ]
 rw [hi]
theorem Zqh (σ:Za) (sq own:Nat) (view:Bool) (l:List UInt8) (c:UInt8):ZQ E BY σ sq 60 own view [.str l,.str [c]]=some (.int .i64 (Lib.indexByte l c),σ,{}) :=
 Za5 (ZAX l c) (by kernel_rfl) (by simp -implicitDefEqProofs only [Zam,Zao,Zn,Zi,Zm,Zaq,Zk,Zj,Zap,Zl,eq_self,implies_true,Xq,Zp,ZI,ZK,ZJ,ZH,Zp]) (by simp -implicitDefEqProofs only [Zam,Zao,Zn,Zi,Zm,Zaq,Zk,Zj,Zap,Zl,eq_self,implies_true,Xq,Zp,ZI,ZK,ZJ,ZH,Zp]) rfl (fun _=>rfl) _ _ _ _
theorem ZEn (l:List UInt8) (c:UInt8):E 94 [.str l,.str [c]] []=some (.int .i64 (Lib.indexByte l c),[]):=by
 rw [ZaJ (by rfl) ZLe]
 simp -implicitDefEqProofs only [EQA,Zn,Zi,Zm,Zk,Zj,Zl,Zz,ZG,ZC,Zy,ZE,ZF,ZA,ZB,ZD,implies_true,forall_const,Xh,Xi,Xl,Xe,Xf,Xj,Xk,Zv,Zx,unA,Zt,Zu,unG,reduceCtorEq,Zr,decide_eq_true_eq,Xd,Xb,ite_self,↓reduceIte,Zs,Zw,gcT,gcA,Zq,Zd,Zc,Ze,Zh,Zb,Zg,Zf,Zo,Xc,ZF3,Zno,ZGU,Zp,ZI,ZK,ZJ,ZH,ZL,Zqh]
theorem ZJ3 (σ:Za) (sq own:Nat) (view:Bool) (l:List UInt8) (c:UInt8):ZQ E BY σ sq 94 own view [.str l,.str [c]]=some (.int .i64 (Lib.indexByte l c),σ,{}) :=
 Za5 (ZEn l c) (by kernel_rfl) (by simp -implicitDefEqProofs only [Zam,Zao,Zn,Zi,Zm,Zaq,Zk,Zj,Zap,Zl,eq_self,implies_true,Xq,Zp,ZI,ZK,ZJ,ZH,Zp]) (by simp -implicitDefEqProofs only [Zam,Zao,Zn,Zi,Zm,Zaq,Zk,Zj,Zap,Zl,eq_self,implies_true,Xq,Zp,ZI,ZK,ZJ,ZH,Zp]) rfl (fun _=>rfl) _ _ _ _
theorem Zxt (l:List UInt8) (c:UInt8):E 93 [.str l,.str [c]] []=some (.int .i64 (Lib.countByte l c),[]):=Zcp.2 ⟨1,rfl⟩
theorem ZIL (σ:Za) (sq own:Nat) (view:Bool) (l:List UInt8) (c:UInt8):ZQ E BY σ sq 93 own view [.str l,.str [c]]=some (.int .i64 (Lib.countByte l c),σ,{}) :=
 Za5 (Zxt l c) (by kernel_rfl) (by simp -implicitDefEqProofs only [Zam,Zao,Zn,Zi,Zm,Zaq,Zk,Zj,Zap,Zl,eq_self,implies_true,Xq,Zp,ZI,ZK,ZJ,ZH,Zp]) (by simp -implicitDefEqProofs only [Zam,Zao,Zn,Zi,Zm,Zaq,Zk,Zj,Zap,Zl,eq_self,implies_true,Xq,Zp,ZI,ZK,ZJ,ZH,Zp]) rfl (fun _=>rfl) _ _ _ _
theorem ZxS {σ:Za} {t g k n:Nat} {xs:List AVal} (hs:σ[t]?=some (.row g k xs)) (hn:n<=xs.length) {h:Int} (h0:0<=h) (h1:h<=(xs.length:Int)) (kk:IntKind):Zbq σ k (.sl t g 0 n) none (some (.int kk h)) none=some (.sl t g 0 h.toNat,σ,{ rd:=[t] }):=by
 have he:Zr σ (.sl t g 0 n)=some ((xs.drop 0).take n,[t]):=by simp [Zr,hs,hn]
 simp [Zbq,he,hs,ZaQ,Zbv,h0,h1]
theorem Zq6 (k n:Nat) (xs:List AVal) (σ:Za):Zan 0 (.row 0 k xs::σ) (.sl 0 0 0 n)=some (.sl 0 0 0 n,[.row 0 k xs]):=by
 rfl
theorem ZuD {done:List (List UInt8)} {n m:Nat} (hn:n=done.length+m+1):(done.map AVal.str++XZ (n - done.length) (AVal.str []))[done.length]?=some (AVal.str []):=by
 rw [WY (by simp),X7,Xab,show n - done.length=m+1 by omega,Xa2]
 rfl
theorem Zs0 {done:List (List UInt8)} {n m:Nat} (hn:n=done.length+m+1) (p:List UInt8):(done.map AVal.str++XZ (n - done.length) (AVal.str [])).set done.length (AVal.str p)=(done++[p]).map AVal.str++XZ (n - (done++[p]).length) (AVal.str []):=by
 rw [List.set_append_right _ _ (by simp),X7,Xab,show n - done.length=m+1 by omega,Xa2,X2,Wm,W4,X3]
 simp only [XS,Wr,XG,Xv,Xr,Xt]
 rw [show n - (done.length+(0+1))=m by omega]
theorem Zsx (N:Nat) (hN:N<=9223372036854775807):∀ (k:Nat) (s:List UInt8) (done:List (List UInt8)),s.count 47=k->N=done.length+k+1->s.length<=9223372036854775807 ->
  Zlb 0 [(10,.int .i64 done.length),(9,.sl 0 0 0 N),(3,.int .i64 (N - 1:Int)),(2,.int .i64 0),(1,.str [47]),(0,.str s)] [.row 0 1 (done.map AVal.str++XZ (N - done.length) (AVal.str []))] =
   some (.sl 0 0 0 N,[.row 0 1 ((done++Zau s).map AVal.str)])
 | 0,s,done,hk,hNd,hs=>by
  have h1:¬((done.length:Int) < (N - 1:Int)):=by omega
  have i0:(0:Int)<=(done.length:Int):=by omega
  have i1:done.length < N:=by omega
  have hg:=ZuD (done:=done) (n:=N) (m:=0) (by omega)
  have hst:=Zs0 (done:=done) (n:=N) (m:=0) (by omega) s
  have hw:IntKind.i64.wrap ((done.length:Int)+1)=(N:Int):=by rw [Zbp (by omega) (by omega)];omega
  rw [Zud hk]
  have he:(done++[s]).map AVal.str++XZ (N - (done++[s]).length) (AVal.str [])=(done++[s]).map AVal.str:=by
   have : N - (done++[s]).length=0:=by simp;omega
   rw [this];simp
  rw [he] at hst
  have hl:((done++[s]).map AVal.str).length=N:=by simp;omega
  have hl0:(done.map AVal.str++XZ (N - done.length) (AVal.str [])).length=N:=by simp;omega
  generalize hX:done.map AVal.str++XZ (N - done.length) (AVal.str [])=X at *
  generalize hY:(done++[s]).map AVal.str=Y at *
  have hsl:Zbq [Z5.row 0 1 Y] 1 (.sl 0 0 0 N) none (some (.int .i64 (N:Int))) none=some (.sl 0 0 0 N,[Z5.row 0 1 Y],{ rd:=[0] }):=by
   have:=ZxS (σ:=[Z5.row 0 1 Y]) (t:=0) (g:=0) (k:=1) (n:=N) (xs:=Y) rfl (by omega) (h:=(N:Int)) (by omega) (by omega) .i64
   simpa using this
  unfold Zlb
  rw [ZY]
  simp -implicitDefEqProofs only [EQA,Zn,Zi,Zm,Zk,Zj,Zl,Zz,ZG,ZC,Zy,ZE,ZF,ZA,ZB,ZD,implies_true,forall_const,Xh,Xi,Xl,Xe,Xf,Xj,Xk,Zv,Zx,unA,Zt,Zu,unG,reduceCtorEq,Zr,decide_eq_true_eq,Xd,Xb,ite_self,↓reduceIte,Zs,Zw,gcT,gcA,Zq,Zd,Zc,Ze,Zh,Zb,Zg,Zf,Zo,Xc,ZmT,ZiT,Zob,Zm6,Zjp,ZqP,Zit,Zp,ZI,ZK,ZJ,ZH,ZL,h1,i0,i1,hg,hst,hw,hl,hl0,hsl,Zq6,Wk,ZbN,XX,Zcc,ZbA,ZeM,ZS]
 | k+1,s,done,hk,hNd,hs=>by
  obtain ⟨p,t,rfl,ht,hsp,hidx⟩:=ZvB hk
  have hlen:(p++47::t).length=p.length+t.length+1:=by simp;omega
  have ih:=Zsx N hN k t (done++[p]) ht (by simp;omega) (by omega)
  have h1:((done.length:Int) < (N - 1:Int)):=by omega
  have i0:(0:Int)<=(done.length:Int):=by omega
  have i1:done.length < N:=by omega
  have hg:=ZuD (done:=done) (n:=N) (m:=k+1) (by omega)
  have hst:=Zs0 (done:=done) (n:=N) (m:=k+1) (by omega) p
  have hw:IntKind.i64.wrap ((done.length:Int)+1)=(((done++[p]).length:Nat):Int):=by rw [Zbp (by omega) (by omega)];simp
  rw [hsp,show done++p::Zau t=(done++[p])++Zau t by simp]
  have hi:Lib.indexByte (p++47::t) 47=p.length:=hidx
  have n1:¬((p.length:Int) < 0):=by omega
  have w1:IntKind.i64.wrap ((p.length:Int)+0)=p.length:=by rw [Zbp (by omega) (by omega)];omega
  have w2:IntKind.i64.wrap ((p.length:Int)+((1:Nat):Int))=p.length+1:=by rw [Zbp (by omega) (by omega)];rfl
  have p0:(0:Int)<=(p.length:Int):=by omega
  have p1:(0:Int)<=(p.length:Int)+1:=by omega
  have e1:((p++47::t).take p.length)=p:=by simp
  have e2:((p++47::t).drop (p.length+1))=t:=by rw [List.drop_append];simp
  have e3:((p++47::t).take (p++47::t).length)=p++47::t:=List.take_length
  have t1:((p.length:Int)+1).toNat=p.length+1:=by omega
  have l1:(p.length:Int)<=(((p++47::t).length:Nat):Int):=by omega
  have l2:(p.length:Int)+1<=(((p++47::t).length:Nat):Int):=by omega
  have hl0:(done.map AVal.str++XZ (N - done.length) (AVal.str [])).length=N:=by simp;omega
  generalize hX:done.map AVal.str++XZ (N - done.length) (AVal.str [])=X at *
  generalize hY:(done++[p]).map AVal.str++XZ (N - (done++[p]).length) (AVal.str [])=Y at *
  generalize hS:p++47::t=S at *
  generalize hD:(done++[p]).length=D at *
  unfold Zlb at ih ⊢
  rw [ZY]
  simp -implicitDefEqProofs only [EQA,Zn,Zi,Zm,Zk,Zj,Zl,Zz,ZG,ZC,Zy,ZE,ZF,ZA,ZB,ZD,implies_true,forall_const,Xh,Xi,Xl,Xe,Xf,Xj,Xk,Zv,Zx,unA,Zt,Zu,unG,reduceCtorEq,Zr,decide_eq_true_eq,Xd,Xb,ite_self,↓reduceIte,Zs,Zw,gcT,gcA,Zq,Zd,Zc,Ze,Zh,Zb,Zg,Zf,Zo,Xc,ZmT,ZiT,Zob,Zm6,Zjp,ZqP,Zit,Zp,ZI,ZK,ZJ,ZH,ZL,h1,i0,i1,hg,hst,hw,hl0,ZJ3,hi,n1,w1,w2,p0,p1,e1,e2,e3,t1,l1,l2,ZaQ,Zbv,Wk,ZbN,XX,Zcc,ZbA,ZeM,ZS]
  exact ih
theorem ZG2 (s:List UInt8) (hs:s.length*16<=140737488355328 - 16):E 78 [.str s,.str [47],.int .i64 0,.int .i64 (-1)] []=some (.sl 0 0 0 (s.count 47+1),[.row 0 1 ((Zau s).map AVal.str)]):=by
 have hc:=Xaa (a:=(47:UInt8)) (l:=s)
 have key:=Zsx (s.count 47+1) (by omega) (s.count 47) s [] rfl (by simp) (by omega)
 rw [ZaJ (by rfl) ZKT]
 unfold Zlb at key
 have e0:(((-1:Int)) == 0)=false:=rfl
 have e1:(([47]:List UInt8) == [])=false:=rfl
 have e2:((-1:Int) < 0)=True:=by simp
 have w1:IntKind.i64.wrap (((Lib.countByte s 47:Nat):Int)+1)=((s.count 47+1:Nat):Int):=by
  show IntKind.i64.wrap (((s.count 47:Nat):Int)+1)=_
  rw [Zbp (by omega) (by omega)];rfl
 have w2:IntKind.i64.wrap (((s.length:Nat):Int)+1)=((s.length+1:Nat):Int):=by rw [Zbp (by omega) (by omega)];rfl
 have w3:IntKind.i64.wrap (((s.count 47+1:Nat):Int) - 1)=((s.count 47+1:Nat):Int) - 1:=by rw [Zbp (by omega) (by omega)]
 have n1:¬(((s.count 47+1:Nat):Int) > ((s.length+1:Nat):Int)):=by omega
 have m1:(0:Int)<=((s.count 47+1:Nat):Int):=by omega
 have m2:((s.count 47+1:Nat):Int)<=9223372036854775807:=by omega
 have m3:((16:Nat):Int)*((s.count 47+1:Nat):Int)<=140737488355328:=by omega
 simp only [Wr,Xv,Xt,Xbm] at key
 have z0:((0:Nat):Int)=0:=rfl
 rw [z0] at key
 simp -implicitDefEqProofs only [EQA,Zn,Zi,Zm,Zk,Zj,Zl,Zz,ZG,ZC,Zy,ZE,ZF,ZA,ZB,ZD,implies_true,forall_const,Xh,Xi,Xl,Xe,Xf,Xj,Xk,Zv,Zx,unA,Zt,Zu,unG,reduceCtorEq,Zr,decide_eq_true_eq,Xd,Xb,ite_self,↓reduceIte,Zs,Zw,gcT,gcA,Zq,Zd,Zc,Ze,Zh,Zb,Zg,Zf,Zo,Xc,ZmT,ZiT,Zob,Zm6,Zjp,ZqP,Zit,Zp,ZI,ZK,ZJ,ZH,ZL,e0,e1,e2,w1,w2,w3,n1,m1,m2,m3,ZIL,Wk,WQ]
 rw [Xa2] at key
 exact key
theorem ZvO {O:Zat} {bf:Nat->Bool} {f:Nat} {args:List AVal} {k n:Nat} {xs:List AVal} (h:O f args []=some (.sl 0 0 0 n,[.row 0 k xs])) (hn:xs.length=n) (hb:bf f=false) (hp:args.all ZaX=true) (hm:args.map Zaw=args) (σ:Za) (sq own:Nat):ZQ O bf σ sq f own true args=some (.lst false xs,σ,{}):=by
 rw [Zi5 hb hp,hm,h]
 have : ZaG true 0 (some (.sl 0 0 0 n,[.row 0 k xs]))=some (.lst false xs,[]):=by
  unfold ZaG
  rw [if_pos rfl,ZoI (k:=k) (g:=0) (t:=0) (xs:=xs) rfl (by omega),Wc (by omega)]
 rw [this,Zmw _ _ _ _ rfl]
def ZfA (l:List (List UInt8)):AVal:=.lst false (l.map AVal.str)
theorem ZLr (s:List UInt8) (hs:s.length*16<=140737488355328 - 16):E 58 [.str s,.str [47]] []=some (ZfA (Zau s),[]):=by
 have hC:=fun σ sq own=>ZvO (bf:=BY) (ZG2 s hs) (by rw [X7,Zgu]) (by kernel_rfl) rfl rfl σ sq own
 rw [ZaJ (by rfl) ZFV]
 simp -implicitDefEqProofs only [EQA,Zn,Zi,Zm,Zk,Zj,Zl,Zz,ZG,ZC,Zy,ZE,ZF,ZA,ZB,ZD,implies_true,forall_const,Xh,Xi,Xl,Xe,Xf,Xj,Xk,Zv,Zx,unA,Zt,Zu,unG,reduceCtorEq,Zr,decide_eq_true_eq,Xd,Xb,ite_self,↓reduceIte,Zs,Zw,gcT,gcA,Zq,Zd,Zc,Ze,Zh,Zb,Zg,Zf,Zo,Xc,ZIs,Znh,ZA0,Zp,ZI,ZK,ZJ,ZH,ZL,hC,ZfA]
theorem ZGO (σ:Za) (sq own:Nat) (view:Bool) (s:List UInt8) (hs:s.length*16<=140737488355328 - 16):ZQ E BY σ sq 58 own view [.str s,.str [47]]=some (.lst false ((Zau s).map AVal.str),σ,{}) :=
 Za5 (ZLr s hs) (by kernel_rfl) (by simp -implicitDefEqProofs only [Zam,Zao,Zn,Zi,Zm,Zaq,Zk,Zj,Zap,Zl,eq_self,implies_true,Xq,Zp,ZI,ZK,ZJ,ZH,ZfA]) (by simp -implicitDefEqProofs only [Zam,Zao,Zn,Zi,Zm,Zaq,Zk,Zj,Zap,Zl,eq_self,implies_true,Xq,Zp,ZI,ZK,ZJ,ZH,ZfA]) rfl (fun _=>rfl) _ _ _ _
theorem Zx1 (s:List UInt8) (hs:s.length*16<=140737488355328 - 16):E 49 [.str s] []=some (ZfA (Zau s),[]):=by
 have hC:=fun σ sq own view=>ZGO σ sq own view s hs
 rw [ZaJ (by rfl) ZE0]
 simp -implicitDefEqProofs only [EQA,Zn,Zi,Zm,Zk,Zj,Zl,Zz,ZG,ZC,Zy,ZE,ZF,ZA,ZB,ZD,implies_true,forall_const,Xh,Xi,Xl,Xe,Xf,Xj,Xk,Zv,Zx,unA,Zt,Zu,unG,reduceCtorEq,Zr,decide_eq_true_eq,Xd,Xb,ite_self,↓reduceIte,Zs,Zw,gcT,gcA,Zq,Zd,Zc,Ze,Zh,Zb,Zg,Zf,Zo,Xc,ZwS,ZmU,Zzd,Zp,ZI,ZK,ZJ,ZH,ZL,hC,ZfA]
theorem ZoZ (σ:Za) (sq own:Nat) (view:Bool) (s:List UInt8) (hs:s.length*16<=140737488355328 - 16):ZQ E BY σ sq 49 own view [.str s]=some (.lst false ((Zau s).map AVal.str),σ,{}) :=
 Za5 (Zx1 s hs) (by kernel_rfl) (by simp -implicitDefEqProofs only [Zam,Zao,Zn,Zi,Zm,Zaq,Zk,Zj,Zap,Zl,eq_self,implies_true,Xq,Zp,ZI,ZK,ZJ,ZH,ZfA]) (by simp -implicitDefEqProofs only [Zam,Zao,Zn,Zi,Zm,Zaq,Zk,Zj,Zap,Zl,eq_self,implies_true,Xq,Zp,ZI,ZK,ZJ,ZH,ZfA]) rfl (fun _=>rfl) _ _ _ _
section
theorem ZJk (k n:Nat) (xs:List AVal) (σ:Za):Zan 0 (.row 1 k xs::σ) (.sl 0 1 0 n)=some (.sl 0 0 0 n,[.row 0 k xs]):=by
 rfl
def Zd0 (now:List UInt8):List (List UInt8)->List (List UInt8)
 | h::t=>(now++h)::t
 | []=>[now]
theorem ZBf (now r:List UInt8):Zd0 now (Zau (47::r))=now::Zau r:=by simp [Zau,Zd0]
theorem ZBr (now r:List UInt8) (b:UInt8) (h:¬b=47):Zd0 now (Zau (b::r))=Zd0 (now++[b]) (Zau r):=by
 simp only [Zau]
 rw [if_neg h]
 have:=Zgi r
 split
 ·rename_i e;simp [e,Zd0]
 ·rename_i e;exact absurd e this
theorem ZrY (l:List (List UInt8)) (h:l≠[]):Zd0 [] l=l:=by
 cases l with
 | nil=>exact absurd rfl h
 | cons a l=>rfl
theorem Zmt (s:List UInt8) (hs:s.length*16<=140737488355328 - 64):∀ (r:List UInt8) (i:Nat) (now:List UInt8) (done:List (List UInt8)),s.drop i=r->i<=s.length->done.length<=i->now.length<=i ->
  (ZgR 0 [(5,.int .i64 i),(4,.str now),(3,.lst true []),(0,.str s)] []=some (.sl 0 0 0 (Zd0 now (Zau r)).length,[.row 0 1 ((Zd0 now (Zau r)).map AVal.str)])) /\
  (ZgR 0 [(5,.int .i64 i),(4,.str now),(3,.sl 0 0 0 done.length),(0,.str s)] [.row 0 1 (done.map AVal.str)]=some (.sl 0 0 0 (done++Zd0 now (Zau r)).length,[.row 0 1 ((done++Zd0 now (Zau r)).map AVal.str)]))
 | [],i,now,done,h,hi,hd,hn=>by
  have h1:=ZbF h
  have g1:Zd0 now (Zau [])=[now]:=by simp [Zau,Zd0]
  have b2:(done.length+1)*16<=140737488355328:=by omega
  have hlen:(done.map AVal.str).length=done.length:=X7 ..
  have hm:(done++[now]).map AVal.str=done.map AVal.str++[.str now]:=by simp
  have hl2:(done++[now]).length=done.length+1:=by simp
  rw [g1,hm,hl2]
  generalize done.map AVal.str=X at *
  constructor
  ·unfold ZgR
   rw [ZY]
   simp -implicitDefEqProofs only [EQA,Zn,Zi,Zm,Zk,Zj,Zl,Zz,ZG,ZC,Zy,ZE,ZF,ZA,ZB,ZD,implies_true,forall_const,Xh,Xi,Xl,Xe,Xf,Xj,Xk,Zv,Zx,unA,Zt,Zu,unG,reduceCtorEq,Zr,decide_eq_true_eq,Xd,Xb,ite_self,↓reduceIte,Zs,Zw,gcT,gcA,Zq,Zd,Zc,Ze,Zh,Zb,Zg,Zf,Zo,Xc,ZgO,Zfo,Zgo,ZgV,ZeY,Zg4,ZeW,Zp,ZI,ZK,ZJ,ZH,ZL,h1,ZaI,kOk,viewAs,Zcb,ZbA,Zcc,ZS,XQ,Wy,ZbN,ZeM,Zq6]
  ·unfold ZgR
   rw [ZY]
   simp -implicitDefEqProofs only [EQA,Zn,Zi,Zm,Zk,Zj,Zl,Zz,ZG,ZC,Zy,ZE,ZF,ZA,ZB,ZD,implies_true,forall_const,Xh,Xi,Xl,Xe,Xf,Xj,Xk,Zv,Zx,unA,Zt,Zu,unG,reduceCtorEq,Zr,decide_eq_true_eq,Xd,Xb,ite_self,↓reduceIte,Zs,Zw,gcT,gcA,Zq,Zd,Zc,Ze,Zh,Zb,Zg,Zf,Zo,Xc,ZgO,Zfo,Zgo,ZgV,ZeY,Zg4,ZeW,Zp,ZI,ZK,ZJ,ZH,ZL,h1,ZaI,kOk,viewAs,Zcb,ZbA,Zcc,ZS,XQ,Wy,ZbN,ZeM,ZJk,b2,hlen]
 | b::r,i,now,done,h,hi,hd,hn=>by
  have hlt:=(ZaC h).2.2
  have h1:(i:Int) < s.length:=by omega
  have h2:=(ZaC h).1
  have h3:=Zbh (i:=i) (n:=s.length) h1 (by omega)
  have i0:(0:Int)<=(i:Int):=by omega
  have b2:(done.length+1)*16<=140737488355328:=by omega
  have hlen:(done.map AVal.str).length=done.length:=X7 ..
  have hm:(done++[now]).map AVal.str=done.map AVal.str++[.str now]:=by simp
  by_cases hb:b=47
  ·subst hb
   have hbi:(((47:UInt8).toNat:Int) == 47)=true:=rfl
   obtain ⟨ih1,ih2⟩:=Zmt s hs r (i+1) [] (done++[now]) (ZaC h).2.1 (by omega) (by simp;omega) (by simp)
   have ih1':=(Zmt s hs r (i+1) [] [now] (ZaC h).2.1 (by omega) (by simp) (by simp)).2
   have hl2:(done++[now]).length=done.length+1:=by simp
   have gn:=ZrY (Zau r) (Zgi r)
   rw [gn] at ih2 ih1'
   rw [ZBf]
   simp only [XS,Wr,Xr,Xt,XX,XG,Xv] at ih1'
   rw [hm,hl2,show (done++[now]++Zau r)=done++now::Zau r by simp] at ih2
   generalize done.map AVal.str=X at *
   unfold ZgR at ih1' ih2 ⊢
   constructor
   ·rw [ZY]
    simp -implicitDefEqProofs only [EQA,Zn,Zi,Zm,Zk,Zj,Zl,Zz,ZG,ZC,Zy,ZE,ZF,ZA,ZB,ZD,implies_true,forall_const,Xh,Xi,Xl,Xe,Xf,Xj,Xk,Zv,Zx,unA,Zt,Zu,unG,reduceCtorEq,Zr,decide_eq_true_eq,Xd,Xb,ite_self,↓reduceIte,Zs,Zw,gcT,gcA,Zq,Zd,Zc,Ze,Zh,Zb,Zg,Zf,Zo,Xc,ZgO,Zfo,Zgo,ZgV,ZeY,Zg4,ZeW,Zp,ZI,ZK,ZJ,ZH,ZL,h1,h2,h3,i0,hbi,ZaP,ZaI,kOk,viewAs,Zcb,ZbA,Zcc,ZS,XQ,Wy,ZbN,ZeM,Wk]
    exact ih1'
   ·rw [ZY]
    simp -implicitDefEqProofs only [EQA,Zn,Zi,Zm,Zk,Zj,Zl,Zz,ZG,ZC,Zy,ZE,ZF,ZA,ZB,ZD,implies_true,forall_const,Xh,Xi,Xl,Xe,Xf,Xj,Xk,Zv,Zx,unA,Zt,Zu,unG,reduceCtorEq,Zr,decide_eq_true_eq,Xd,Xb,ite_self,↓reduceIte,Zs,Zw,gcT,gcA,Zq,Zd,Zc,Ze,Zh,Zb,Zg,Zf,Zo,Xc,ZgO,Zfo,Zgo,ZgV,ZeY,Zg4,ZeW,Zp,ZI,ZK,ZJ,ZH,ZL,h1,h2,h3,i0,hbi,ZaP,ZaI,kOk,viewAs,Zcb,ZbA,Zcc,ZS,XQ,Wy,ZbN,ZeM,Wk,b2,hlen]
    exact ih2
  ·have hbi:((b.toNat:Int) == 47)=false:=by
    rw [beq_eq_false_iff_ne]
    intro e
    apply hb
    rw [<-XaF]
    have : (47:UInt8).toNat=47:=rfl
    omega
   obtain ⟨ih1,ih2⟩:=Zmt s hs r (i+1) (now++[b]) done (ZaC h).2.1 (by omega) (by omega) (by simp;omega)
   rw [<-ZBr now r b hb] at ih1 ih2
   have hsl:((s.take (i+1)).drop i)=[b]:=by
    rw [List.drop_take,show i+1 - i=1 by omega,List.drop_eq_getElem_cons hlt]
    have : s[i]=b:=by rw [XY hlt] at h2;injection h2
    rw [this];rfl
   have hc:now.length+1<=9223372036854775807:=by omega
   have k0:(0:Int)<=((i+1:Nat):Int):=by omega
   have k1:((i+1:Nat):Int)<=((s.length:Nat):Int):=by omega
   have k2:(i:Int)<=((i+1:Nat):Int):=by omega
   unfold ZgR at ih1 ih2 ⊢
   constructor
   ·rw [ZY]
    simp -implicitDefEqProofs only [EQA,Zn,Zi,Zm,Zk,Zj,Zl,Zz,ZG,ZC,Zy,ZE,ZF,ZA,ZB,ZD,implies_true,forall_const,Xh,Xi,Xl,Xe,Xf,Xj,Xk,Zv,Zx,unA,Zt,Zu,unG,reduceCtorEq,Zr,decide_eq_true_eq,Xd,Xb,ite_self,↓reduceIte,Zs,Zw,gcT,gcA,Zq,Zd,Zc,Ze,Zh,Zb,Zg,Zf,Zo,Xc,ZgO,Zfo,Zgo,ZgV,ZeY,Zg4,ZeW,Zp,ZI,ZK,ZJ,ZH,ZL,h1,h2,h3,i0,hbi,ZaP,hsl,hc,k0,k1,k2,ZaQ,Zbv,Wk]
    exact ih1
   ·rw [ZY]
    simp -implicitDefEqProofs only [EQA,Zn,Zi,Zm,Zk,Zj,Zl,Zz,ZG,ZC,Zy,ZE,ZF,ZA,ZB,ZD,implies_true,forall_const,Xh,Xi,Xl,Xe,Xf,Xj,Xk,Zv,Zx,unA,Zt,Zu,unG,reduceCtorEq,Zr,decide_eq_true_eq,Xd,Xb,ite_self,↓reduceIte,Zs,Zw,gcT,gcA,Zq,Zd,Zc,Ze,Zh,Zb,Zg,Zf,Zo,Xc,ZgO,Zfo,Zgo,ZgV,ZeY,Zg4,ZeW,Zp,ZI,ZK,ZJ,ZH,ZL,h1,h2,h3,i0,hbi,ZaP,hsl,hc,k0,k1,k2,ZaQ,Zbv,Wk]
    exact ih2
theorem ZHp (s:List UInt8) (hs:s.length*16<=140737488355328 - 64):E 44 [.str s] []=some (.sl 0 0 0 (Zau s).length,[.row 0 1 ((Zau s).map AVal.str)]):=by
 have key:=(Zmt s hs s 0 [] [] rfl (by omega) (by simp) (by simp)).1
 rw [ZrY _ (Zgi s)] at key
 rw [ZaJ (by rfl) ZAe]
 unfold ZgR at key
 have z0:((0:Nat):Int)=0:=rfl
 rw [z0] at key
 simp -implicitDefEqProofs only [EQA,Zn,Zi,Zm,Zk,Zj,Zl,Zz,ZG,ZC,Zy,ZE,ZF,ZA,ZB,ZD,implies_true,forall_const,Xh,Xi,Xl,Xe,Xf,Xj,Xk,Zv,Zx,unA,Zt,Zu,unG,reduceCtorEq,Zr,decide_eq_true_eq,Xd,Xb,ite_self,↓reduceIte,Zs,Zw,gcT,gcA,Zq,Zd,Zc,Ze,Zh,Zb,Zg,Zf,Zo,Xc,ZgO,Zfo,Zgo,ZgV,ZeY,Zg4,ZeW,Zp,ZI,ZK,ZJ,ZH,ZL,Zp]
 exact key
theorem ZlK (σ:Za) (sq own:Nat) (s:List UInt8) (hs:s.length*16<=140737488355328 - 64):ZQ E BY σ sq 44 own true [.str s]=some (.lst false ((Zau s).map AVal.str),σ,{}) :=
 ZvO (ZHp s hs) (X7 ..) (by kernel_rfl) rfl rfl σ sq own
end
end
section
def ZdF (b:UInt8):Bool:=b == 43 || b == 35
def ZbC (l:List UInt8):Bool:=l.any ZdF
def ZbY:List AVal:=(List.range 256).map fun n=>.bool (n == 43 || n == 35)
theorem ZGn:ZbY.length=256:=by simp [ZbY]
theorem ZiD:Zs ZbY=true:=by kernel_rfl
theorem ZJC:(ZbY.drop 0).take 256=ZbY:=by kernel_rfl
theorem Zz7:ZbY.take 256=ZbY:=by kernel_rfl
theorem ZG6 (b:UInt8):ZbY[b.toNat]?=some (.bool (ZdF b)):=by
 have hb:=b.toNat_lt
 have : ZdF b=(b.toNat == 43 || b.toNat == 35):=by
  unfold ZdF
  rw [XaE]
  simp [<-XaF]
 rw [this]
 simp [ZbY,hb]
theorem Zp2:ZP ZbY=[]:=(Zec (fun _ _=>none) ZbY ZiD).2
theorem ZqG (ρ:Rho):ZR ρ ZbY=ZbY:=(Zec ρ ZbY ZiD).1
theorem ZEd:E 64 [.str [43,35]] []=some (.tup [.agg ZbY,.bool true],[]):=Zcp.2 ⟨8,by kernel_rfl⟩
theorem ZH2 (σ:Za) (sq own:Nat) (view:Bool):ZQ E BY σ sq 64 own view [.str [43,35]]=some (.tup [.agg ZbY,.bool true],σ,{}) :=
 Za5 ZEd (by kernel_rfl) rfl rfl (by kernel_rfl) (fun _=>by kernel_rfl) _ _ _ _
theorem ZBL (b:UInt8):E 65 [.ref 0 0,ZaP b] [.var ZbY]=some (.bool (ZdF b),[.var ZbY]):=by
 rw [ZaJ (by rfl) ZIQ]
 have h1:(0:Int)<=(b.toNat:Int):=by omega
 have h2:(b.toNat:Int) < ((256:Nat):Int):=by have:=ZpM b;omega
 simp -implicitDefEqProofs only [EQA,Zn,Zi,Zm,Zk,Zj,Zl,Zz,ZG,ZC,Zy,ZE,ZF,ZA,ZB,ZD,implies_true,forall_const,Xh,Xi,Xl,Xe,Xf,Xj,Xk,Zv,Zx,unA,Zt,Zu,unG,reduceCtorEq,Zr,decide_eq_true_eq,Xd,Xb,ite_self,↓reduceIte,Zs,Zw,gcT,gcA,Zq,Zd,Zc,Ze,Zh,Zb,Zg,Zf,Zo,Xc,ZCw,Zpg,ZyQ,Zp,ZI,ZK,ZJ,ZH,ZL,ZaP,h1,h2,Wk,Nat.mul_one,ZG6,ZiD]
theorem Zsp (σ:Za) (sq t:Nat) (view:Bool) (b:UInt8) (hs:σ[t]?=some (.var ZbY)):ZQ E BY σ sq 65 0 view [.ref t 0,.int .u8 b.toNat]=some (.bool (ZdF b),σ.set t (.var ZbY),{ any:=true,upd:=[(t,ZbY)] }) :=
 ZCD hs ZiD ZiD (by kernel_rfl) rfl rfl rfl rfl (ZBL b)
theorem Zuj (s:List UInt8) (hl:s.length<=9223372036854775807):∀ (r:List UInt8) (i:Nat),s.drop i=r->∃ z,Zkv 0 [(8,.int .i64 i),(6,.ref 0 0),(0,.str s)] [.var ZbY]=some (.int .i64 z,[])/\decide (z>=0)=ZbC r
 | [],i,h=>by
  have h1:=ZbF h
  refine ⟨-1,?_,by simp [ZbC]⟩
  unfold Zkv
  rw [ZY]
  simp -implicitDefEqProofs only [EQA,Zn,Zi,Zm,Zk,Zj,Zl,Zz,ZG,ZC,Zy,ZE,ZF,ZA,ZB,ZD,implies_true,forall_const,Xh,Xi,Xl,Xe,Xf,Xj,Xk,Zv,Zx,unA,Zt,Zu,unG,reduceCtorEq,Zr,decide_eq_true_eq,Xd,Xb,ite_self,↓reduceIte,Zs,Zw,gcT,gcA,Zq,Zd,Zc,Ze,Zh,Zb,Zg,Zf,Zo,Xc,Zf5,ZeI,Zf2,Zgh,Zeg,ZfO,ZeE,ZfM,Zex,Zfx,Zet,Zf9,Zej,Zp,ZI,ZK,ZJ,ZH,ZL,h1]
 | b::r,i,h=>by
  obtain ⟨z,ih,hz⟩:=Zuj s hl r (i+1) (ZaC h).2.1
  have h1:(i:Int) < s.length:=by have:=(ZaC h).2.2;omega
  have h2:=(ZaC h).1
  have h3:=Zbh h1 hl
  have i0:(0:Int)<=(i:Int):=by omega
  unfold Zkv at ih ⊢
  cases hb:ZdF b
  ·refine ⟨z,?_,by rw [hz];simp [ZbC,hb]⟩
   rw [ZY]
   simp -implicitDefEqProofs only [EQA,Zn,Zi,Zm,Zk,Zj,Zl,Zz,ZG,ZC,Zy,ZE,ZF,ZA,ZB,ZD,implies_true,forall_const,Xh,Xi,Xl,Xe,Xf,Xj,Xk,Zv,Zx,unA,Zt,Zu,unG,reduceCtorEq,Zr,decide_eq_true_eq,Xd,Xb,ite_self,↓reduceIte,Zs,Zw,gcT,gcA,Zq,Zd,Zc,Ze,Zh,Zb,Zg,Zf,Zo,Xc,Zf5,ZeI,Zf2,Zgh,Zeg,ZfO,ZeE,ZfM,Zex,Zfx,Zet,Zf9,Zej,Zp,ZI,ZK,ZJ,ZH,ZL,h1,h2,h3,i0,Wk,Zsp,hb,ZaP,Zp2,ZqG]
   exact ih
  ·refine ⟨i,?_,by simp [ZbC,hb]⟩
   rw [ZY]
   simp -implicitDefEqProofs only [EQA,Zn,Zi,Zm,Zk,Zj,Zl,Zz,ZG,ZC,Zy,ZE,ZF,ZA,ZB,ZD,implies_true,forall_const,Xh,Xi,Xl,Xe,Xf,Xj,Xk,Zv,Zx,unA,Zt,Zu,unG,reduceCtorEq,Zr,decide_eq_true_eq,Xd,Xb,ite_self,↓reduceIte,Zs,Zw,gcT,gcA,Zq,Zd,Zc,Ze,Zh,Zb,Zg,Zf,Zo,Xc,Zf5,ZeI,Zf2,Zgh,Zeg,ZfO,ZeE,ZfM,Zex,Zfx,Zet,Zf9,Zej,Zp,ZI,ZK,ZJ,ZH,ZL,h1,h2,h3,i0,Wk,Zsp,hb,ZaP,Zp2,ZqG]
def ZdA (r:Int):Int:=if r=43 then 0 else if r=35 then 1 else -1
theorem ZIS (l:List UInt8) (c:Int):E 84 [.str l,.int .u8 c] []=some (.int .i64 (Lib.indexByte l c.toNat.toUInt8),[]):=Zcp.2 ⟨1,rfl⟩
theorem Zug (σ:Za) (sq own:Nat) (view:Bool) (l:List UInt8) (c:Int):ZQ E BY σ sq 84 own view [.str l,.int .u8 c]=some (.int .i64 (Lib.indexByte l c.toNat.toUInt8),σ,{}) :=
 Za5 (ZIS l c) (by kernel_rfl) (by simp -implicitDefEqProofs only [Zam,Zao,Zn,Zi,Zm,Zaq,Zk,Zj,Zap,Zl,eq_self,implies_true,Xq,Zp,ZI,ZK,ZJ,ZH,Zp]) (by simp -implicitDefEqProofs only [Zam,Zao,Zn,Zi,Zm,Zaq,Zk,Zj,Zap,Zl,eq_self,implies_true,Xq,Zp,ZI,ZK,ZJ,ZH,Zp]) rfl (fun _=>rfl) _ _ _ _
theorem ZyW (r:Int) (h:(0<=r/\r < 55296)\/(57344<=r/\r<=1114111)):E 85 [.int .i32 r] []=some (.bool true,[]):=by
 rw [ZaJ (by rfl) ZCZ]
 rcases h with ⟨h1,h2⟩ | ⟨h1,h2⟩
 ·simp -implicitDefEqProofs only [EQA,Zn,Zi,Zm,Zk,Zj,Zl,Zz,ZG,ZC,Zy,ZE,ZF,ZA,ZB,ZD,implies_true,forall_const,Xh,Xi,Xl,Xe,Xf,Xj,Xk,Zv,Zx,unA,Zt,Zu,unG,reduceCtorEq,Zr,decide_eq_true_eq,Xd,Xb,ite_self,↓reduceIte,Zs,Zw,gcT,gcA,Zq,Zd,Zc,Ze,Zh,Zb,Zg,Zf,Zo,Xc,ZvZ,Zj4,Zse,Zp,ZI,ZK,ZJ,ZH,ZL,h1,h2]
 ·have h3:¬r < 55296:=by omega
  have h4:(57343:Int) < r:=by omega
  have h5:(0:Int)<=r:=by omega
  simp -implicitDefEqProofs only [EQA,Zn,Zi,Zm,Zk,Zj,Zl,Zz,ZG,ZC,Zy,ZE,ZF,ZA,ZB,ZD,implies_true,forall_const,Xh,Xi,Xl,Xe,Xf,Xj,Xk,Zv,Zx,unA,Zt,Zu,unG,reduceCtorEq,Zr,decide_eq_true_eq,Xd,Xb,ite_self,↓reduceIte,Zs,Zw,gcT,gcA,Zq,Zd,Zc,Ze,Zh,Zb,Zg,Zf,Zo,Xc,ZvZ,Zj4,Zse,Zp,ZI,ZK,ZJ,ZH,ZL,h1,h2,h3,h4,h5]
theorem ZKZ:E 62 [.str [43,35],.int .i32 65533] []=some (.int .i64 (-1),[]):=Zcp.2 ⟨8,by kernel_rfl⟩
theorem ZHA (σ:Za) (sq own:Nat) (view:Bool) (r:Int) (h:(0<=r/\r < 55296)\/(57344<=r/\r<=1114111)):ZQ E BY σ sq 85 own view [.int .i32 r]=some (.bool true,σ,{}) :=
 Za5 (ZyW r h) (by kernel_rfl) (by simp -implicitDefEqProofs only [Zam,Zao,Zn,Zi,Zm,Zaq,Zk,Zj,Zap,Zl,eq_self,implies_true,Xq,Zp,ZI,ZK,ZJ,ZH,Zp]) (by simp -implicitDefEqProofs only [Zam,Zao,Zn,Zi,Zm,Zaq,Zk,Zj,Zap,Zl,eq_self,implies_true,Xq,Zp,ZI,ZK,ZJ,ZH,Zp]) rfl (fun _=>rfl) _ _ _ _
theorem ZAP (r:Int) (h0:0<=r) (h1:r < 128):Lib.indexByte [43,35] r.toNat.toUInt8=ZdA r:=by
 obtain ⟨n,rfl⟩:∃ n:Fin 128,r=(n.val:Int):=⟨⟨r.toNat,by omega⟩,by simp;omega⟩
 clear h0 h1
 revert n
 decide
theorem ZEx (r:Int) (h0:0<=r) (h1:r < 128):E 62 [.str [43,35],.int .i32 r] []=some (.int .i64 (ZdA r),[]):=by
 rw [ZaJ (by rfl) ZqR]
 have w:IntKind.u8.wrap r=r:=by rw [show IntKind.u8.wrap r=r % 256 from rfl];omega
 simp -implicitDefEqProofs only [EQA,Zn,Zi,Zm,Zk,Zj,Zl,Zz,ZG,ZC,Zy,ZE,ZF,ZA,ZB,ZD,implies_true,forall_const,Xh,Xi,Xl,Xe,Xf,Xj,Xk,Zv,Zx,unA,Zt,Zu,unG,reduceCtorEq,Zr,decide_eq_true_eq,Xd,Xb,ite_self,↓reduceIte,Zs,Zw,gcT,gcA,Zq,Zd,Zc,Ze,Zh,Zb,Zg,Zf,Zo,Xc,Zk9,Zhw,Zkh,Zj6,ZhI,ZlZ,Zif,ZmI,Zid,Zlj,Zhf,Zme,Zh3,ZkY,Zip,ZlS,Zhv,ZkV,ZhE,Zkm,ZhY,Zkr,Zh8,ZmF,Zhx,Zp,ZI,ZK,ZJ,ZH,ZL,h0,h1,w,Zug,ZAP]
theorem ZDO (r:Int) (h0:128<=r) (h1:r < 2048):∃ a b:UInt8,(Utf8.encode r).data.toList=[a,b]/\((35:Int) == (b.toNat:Int))=false:=by
 have hv:Utf8.valid r=true:=by simp [Utf8.valid];omega
 refine ⟨_,_,by unfold Utf8.encode;simp only [hv,if_true];rw [if_neg (by omega),if_pos (by omega)],?_⟩
 rw [beq_eq_false_iff_ne]
 simp
 omega
theorem Zw5 (r:Int) (h0:2048<=r) (h1:r < 65536) (hv:Utf8.valid r=true):∃ a b c:UInt8,(Utf8.encode r).data.toList=[a,b,c]:=by
 refine ⟨_,_,_,by unfold Utf8.encode;simp only [hv,if_true];rw [if_neg (by omega),if_neg (by omega),if_pos (by omega)]⟩
theorem ZBd (r:Int) (h1:65536<=r) (hv:Utf8.valid r=true):∃ a b c d:UInt8,(Utf8.encode r).data.toList=[a,b,c,d]:=by
 refine ⟨_,_,_,_,by unfold Utf8.encode;simp only [hv,if_true];rw [if_neg (by omega),if_neg (by omega),if_neg (by omega)]⟩
theorem ZB7 (r:Int) (h0:128<=r) (hv:(0<=r/\r < 55296)\/(57344<=r/\r<=1114111)) (hne:r≠65533):E 62 [.str [43,35],.int .i32 r] []=some (.int .i64 (-1),[]):=by
 rw [ZaJ (by rfl) ZqR]
 have h1:(0:Int)<=r:=by omega
 have h2:¬r < 128:=by omega
 have h3:(r == 65533)=false:=by rw [beq_eq_false_iff_ne];exact hne
 have hv':Utf8.valid r=true:=by simp [Utf8.valid];omega
 have hV:=fun σ sq own view=>ZHA σ sq own view r hv
 by_cases h4:r < 2048
 ·obtain ⟨a,b,he,hb⟩:=ZDO r h0 h4
  have hi:Lib.indexByte [] ((b.toNat:Int).toNat.toUInt8)=-1:=rfl
  have w1:IntKind.i64.wrap (((2:Nat):Int) - 1)=1:=by decide
  have w2:IntKind.i64.wrap ((1:Int)+1)=2:=by decide
  have l1:(1:Int) < ((2:Nat):Int):=by decide
  have l2:(2:Int)<=((2:Nat):Int):=by decide
  have l3:(0:Int)<=1:=by decide
  have l4:(0:Int)<=2:=by decide
  have t1:(1:Int).toNat=1:=rfl
  have t2:(2:Int).toNat=2:=rfl
  have n1:((-1:Int) < 0)=True:=by simp
  have hb':(((35:UInt8).toNat:Int) != (b.toNat:Int))=true:=by
   have : ((35:UInt8).toNat:Int)=35:=rfl
   rw [this];simp only [bne,hb,Bool.not_false]
  simp -implicitDefEqProofs only [EQA,Zn,Zi,Zm,Zk,Zj,Zl,Zz,ZG,ZC,Zy,ZE,ZF,ZA,ZB,ZD,implies_true,forall_const,Xh,Xi,Xl,Xe,Xf,Xj,Xk,Zv,Zx,unA,Zt,Zu,unG,reduceCtorEq,Zr,decide_eq_true_eq,Xd,Xb,ite_self,↓reduceIte,Zs,Zw,gcT,gcA,Zq,Zd,Zc,Ze,Zh,Zb,Zg,Zf,Zo,Xc,Zk9,Zhw,Zkh,Zj6,ZhI,ZlZ,Zif,ZmI,Zid,Zlj,Zhf,Zme,Zh3,ZkY,Zip,ZlS,Zhv,ZkV,ZhE,Zkm,ZhY,Zkr,Zh8,ZmF,Zhx,Zp,ZI,ZK,ZJ,ZH,ZL,h1,h2,h3,hV,he,ZY,ZaP,w1,w2,l1,l2,l3,l4,t1,t2,hb',ZaQ,Zbv,Zug,hi,n1]
 ·by_cases h5:r < 65536
  ·obtain ⟨a,b,c,he⟩:=Zw5 r (by omega) h5 hv'
   have w1:IntKind.i64.wrap (((3:Nat):Int) - 1)=2:=by decide
   have l1:¬(2:Int) < ((2:Nat):Int):=by decide
   simp -implicitDefEqProofs only [EQA,Zn,Zi,Zm,Zk,Zj,Zl,Zz,ZG,ZC,Zy,ZE,ZF,ZA,ZB,ZD,implies_true,forall_const,Xh,Xi,Xl,Xe,Xf,Xj,Xk,Zv,Zx,unA,Zt,Zu,unG,reduceCtorEq,Zr,decide_eq_true_eq,Xd,Xb,ite_self,↓reduceIte,Zs,Zw,gcT,gcA,Zq,Zd,Zc,Ze,Zh,Zb,Zg,Zf,Zo,Xc,Zk9,Zhw,Zkh,Zj6,ZhI,ZlZ,Zif,ZmI,Zid,Zlj,Zhf,Zme,Zh3,ZkY,Zip,ZlS,Zhv,ZkV,ZhE,Zkm,ZhY,Zkr,Zh8,ZmF,Zhx,Zp,ZI,ZK,ZJ,ZH,ZL,h1,h2,h3,hV,he,ZY,ZaP,w1,l1]
  ·obtain ⟨a,b,c,d,he⟩:=ZBd r (by omega) hv'
   have w1:IntKind.i64.wrap (((4:Nat):Int) - 1)=3:=by decide
   have l1:¬(3:Int) < ((2:Nat):Int):=by decide
   simp -implicitDefEqProofs only [EQA,Zn,Zi,Zm,Zk,Zj,Zl,Zz,ZG,ZC,Zy,ZE,ZF,ZA,ZB,ZD,implies_true,forall_const,Xh,Xi,Xl,Xe,Xf,Xj,Xk,Zv,Zx,unA,Zt,Zu,unG,reduceCtorEq,Zr,decide_eq_true_eq,Xd,Xb,ite_self,↓reduceIte,Zs,Zw,gcT,gcA,Zq,Zd,Zc,Ze,Zh,Zb,Zg,Zf,Zo,Xc,Zk9,Zhw,Zkh,Zj6,ZhI,ZlZ,Zif,ZmI,Zid,Zlj,Zhf,Zme,Zh3,ZkY,Zip,ZlS,Zhv,ZkV,ZhE,Zkm,ZhY,Zkr,Zh8,ZmF,Zhx,Zp,ZI,ZK,ZJ,ZH,ZL,h1,h2,h3,hV,he,ZY,ZaP,w1,l1]
theorem ZAz (l:List UInt8):((Lib.decodeL l).1 < 55296)\/(57344<=(Lib.decodeL l).1/\(Lib.decodeL l).1<=1114111):=by
 rw [Lib.decodeL_N]
 have h0:=(l.getD 0 0).toNat_lt
 unfold Lib.decodeN
 repeat' split
 all_goals (try simp only);omega
theorem ZBV (l:List UInt8):E 62 [.str [43,35],.int .i32 (Lib.decodeL l).1] []=some (.int .i64 (ZdA (Lib.decodeL l).1),[]):=by
 have hv:=ZAz l
 generalize (Lib.decodeL l).1=n at hv
 by_cases h:n < 128
 ·exact ZEx n (by omega) (by omega)
 ·have e:ZdA (n:Int)=-1:=by unfold ZdA;rw [if_neg (by omega),if_neg (by omega)]
  rw [e]
  by_cases h2:n=65533
  ·subst h2;exact ZKZ
  ·exact ZB7 n (by omega) (by omega) (by omega)
theorem Zs7 (σ:Za) (sq own:Nat) (view:Bool) (l:List UInt8):ZQ E BY σ sq 62 own view [.str [43,35],.int .i32 (Lib.decodeL l).1]=some (.int .i64 (ZdA (Lib.decodeL l).1),σ,{}) :=
 Za5 (ZBV l) (by kernel_rfl) (by simp -implicitDefEqProofs only [Zam,Zao,Zn,Zi,Zm,Zaq,Zk,Zj,Zap,Zl,eq_self,implies_true,Xq,Zp,ZI,ZK,ZJ,ZH,Zp]) (by simp -implicitDefEqProofs only [Zam,Zao,Zn,Zi,Zm,Zaq,Zk,Zj,Zap,Zl,eq_self,implies_true,Xq,Zp,ZI,ZK,ZJ,ZH,Zp]) rfl (fun _=>rfl) _ _ _ _
theorem ZyS (l:List UInt8) (hne:l≠[]):ZbC l=(decide (ZdA (Lib.decodeL l).1>=0) || ZbC (l.drop (Lib.decodeL l).2)):=by
 obtain ⟨b0,t,rfl⟩:∃ b t,l=b::t:=by
  cases l with
  | nil=>exact absurd rfl hne
  | cons b t=>exact ⟨b,t,rfl⟩
 have hc:∀ b:UInt8,b.toNat / 64=2->ZdF b=false:=by
  intro b hb
  unfold ZdF
  simp only [WN,beq_eq_false_iff_ne,ne_eq,<-XaF]
  have : (43:UInt8).toNat=43:=rfl
  have : (35:UInt8).toNat=35:=rfl
  omega
 have hi:∀ n:Nat,n≠43->n≠35->decide (ZdA (n:Int)>=0)=false:=by
  intro n h1 h2
  unfold ZdA
  rw [if_neg (by omega),if_neg (by omega)];rfl
 have hp:∀ b:UInt8,ZdF b=decide (ZdA (b.toNat:Int)>=0):=by
  intro b
  unfold ZdF ZdA
  have e1:(43:UInt8).toNat=43:=rfl
  have e2:(35:UInt8).toNat=35:=rfl
  rw [XaE]
  simp only [Bool.or_eq_true,beq_iff_eq,<-XaF,e1,e2,decide_eq_true_eq]
  constructor
  ·rintro (h | h) <;> simp [h]
  ·intro h
   by_cases h1:b.toNat=43
   ·exact XK h1
   ·by_cases h2:b.toNat=35
    ·exact XO h2
    ·rw [if_neg (by omega),if_neg (by omega)] at h;omega
 rw [Lib.decodeL_N]
 simp only [Xr,Xm,Xn]
 have hb:=b0.toNat_lt
 have hlow:128<=b0.toNat->ZdF b0=false:=by
  intro h;rw [hp];exact hi _ (by omega) (by omega)
 unfold Lib.decodeN
 split
 ·simp [ZbC,hp]
 rename_i h0
 have hl0:=hlow (by omega)
 have eE:decide (ZdA ((65533:Nat):Int)>=0)=false:=by decide
 split
 ·rename_i h1
  obtain ⟨b1,t,rfl⟩:∃ b t',t=b::t':=by
   cases t with
   | nil=>simp at h1
   | cons b t=>exact ⟨b,t,rfl⟩
  have h1c:=hc b1 (by simpa using h1.2.2)
  split
  ·rename_i h2
   rw [hi _ (by simp only;omega) (by simp only;omega)]
   simp [ZbC,hl0,h1c]
  ·rw [eE];simp [ZbC,hl0]
 split
 ·rename_i h1
  obtain ⟨b1,b2,t,rfl⟩:∃ b c t',t=b::c::t':=by
   match t,h1 with
   | [],h1=>simp at h1
   | [_],h1=>simp at h1
   | b::c::t,_=>exact ⟨b,c,t,rfl⟩
  have h1c:=hc b1 (by simpa using h1.2.1.2)
  have h2c:=hc b2 (by simpa using h1.2.2.2)
  split
  ·rename_i h2
   rw [hi _ (by simp only;omega) (by simp only;omega)]
   simp [ZbC,hl0,h1c,h2c]
  ·rw [eE];simp [ZbC,hl0]
 split
 ·rename_i h1
  obtain ⟨b1,b2,b3,t,rfl⟩:∃ b c d t',t=b::c::d::t':=by
   match t,h1 with
   | [],h1=>simp at h1
   | [_],h1=>simp at h1
   | [_,_],h1=>simp at h1
   | b::c::d::t,_=>exact ⟨b,c,d,t,rfl⟩
  have h1c:=hc b1 (by simpa using h1.2.1.2)
  have h2c:=hc b2 (by simpa using h1.2.2.1.2)
  have h3c:=hc b3 (by simpa using h1.2.2.2.2)
  split
  ·rename_i h2
   rw [hi _ (by simp only;omega) (by simp only;omega)]
   simp [ZbC,hl0,h1c,h2c,h3c]
  ·rw [eE];simp [ZbC,hl0]
 ·rw [eE];simp [ZbC,hl0]
theorem Zur (s:List UInt8):∀ (n p:Nat),s.length - p<=n->p<=s.length->∃ z,Zj5 0 [(45,.ref 0 0),(1,.str [43,35])] [.siter s p]=some (.int .i64 z,[])/\decide (z>=0)=ZbC (s.drop p)
 | n,p,hn,hp=>by
  by_cases h:p < s.length
  ·obtain ⟨n,rfl⟩:∃ m,n=m+1:=⟨n - 1,by omega⟩
   have hw:=Lib.decodeL_width (s.drop p)
   have hne:s.drop p≠[]:=by rw [ne_eq,Wl];omega
   have hle:=Lib.decodeL_le (s.drop p) hne
   rw [WJ] at hle
   obtain ⟨z,ih,hz⟩:=Zur s n (p+(Lib.decodeL (s.drop p)).2) (by omega) (by omega)
   rw [<-List.drop_drop] at hz
   rw [ZyS _ hne,<-hz]
   unfold Zj5 at ih ⊢
   by_cases hi:ZdA (Lib.decodeL (s.drop p)).1>=0
   ·refine ⟨p,?_,by simp [hi]⟩
    rw [ZY]
    simp -implicitDefEqProofs only [EQA,Zn,Zi,Zm,Zk,Zj,Zl,Zz,ZG,ZC,Zy,ZE,ZF,ZA,ZB,ZD,implies_true,forall_const,Xh,Xi,Xl,Xe,Xf,Xj,Xk,Zv,Zx,unA,Zt,Zu,unG,reduceCtorEq,Zr,decide_eq_true_eq,Xd,Xb,ite_self,↓reduceIte,Zs,Zw,gcT,gcA,Zq,Zd,Zc,Ze,Zh,Zb,Zg,Zf,Zo,Xc,Zf5,ZeI,Zf2,Zgh,Zeg,ZfO,ZeE,ZfM,Zex,Zfx,Zet,Zf9,Zej,Zp,ZI,ZK,ZJ,ZH,ZL,h,ZmE,Zs7,hi]
   ·refine ⟨z,?_,by simp [hi]⟩
    rw [ZY]
    simp -implicitDefEqProofs only [EQA,Zn,Zi,Zm,Zk,Zj,Zl,Zz,ZG,ZC,Zy,ZE,ZF,ZA,ZB,ZD,implies_true,forall_const,Xh,Xi,Xl,Xe,Xf,Xj,Xk,Zv,Zx,unA,Zt,Zu,unG,reduceCtorEq,Zr,decide_eq_true_eq,Xd,Xb,ite_self,↓reduceIte,Zs,Zw,gcT,gcA,Zq,Zd,Zc,Ze,Zh,Zb,Zg,Zf,Zo,Xc,Zf5,ZeI,Zf2,Zgh,Zeg,ZfO,ZeE,ZfM,Zex,Zfx,Zet,Zf9,Zej,Zp,ZI,ZK,ZJ,ZH,ZL,h,ZmE,Zs7,hi]
    exact ih
  ·have he:s.drop p=[]:=by rw [Wl];omega
   refine ⟨-1,?_,by rw [he];rfl⟩
   unfold Zj5
   rw [ZY]
   simp -implicitDefEqProofs only [EQA,Zn,Zi,Zm,Zk,Zj,Zl,Zz,ZG,ZC,Zy,ZE,ZF,ZA,ZB,ZD,implies_true,forall_const,Xh,Xi,Xl,Xe,Xf,Xj,Xk,Zv,Zx,unA,Zt,Zu,unG,reduceCtorEq,Zr,decide_eq_true_eq,Xd,Xb,ite_self,↓reduceIte,Zs,Zw,gcT,gcA,Zq,Zd,Zc,Ze,Zh,Zb,Zg,Zf,Zo,Xc,Zf5,ZeI,Zf2,Zgh,Zeg,ZfO,ZeE,ZfM,Zex,Zfx,Zet,Zf9,Zej,Zp,ZI,ZK,ZJ,ZH,ZL,h]
end
section
theorem ZJY (n:Int):E 63 [.int .i64 n] []=some (.bool (decide (n > 8)),[]):=by
 rw [ZaJ (by rfl) Zx8]
 simp -implicitDefEqProofs only [EQA,Zn,Zi,Zm,Zk,Zj,Zl,Zz,ZG,ZC,Zy,ZE,ZF,ZA,ZB,ZD,implies_true,forall_const,Xh,Xi,Xl,Xe,Xf,Xj,Xk,Zv,Zx,unA,Zt,Zu,unG,reduceCtorEq,Zr,decide_eq_true_eq,Xd,Xb,ite_self,↓reduceIte,Zs,Zw,gcT,gcA,Zq,Zd,Zc,Ze,Zh,Zb,Zg,Zf,Zo,Xc,ZIo,Zpr,ZFc,Zp,ZI,ZK,ZJ,ZH,ZL,Zp]
theorem ZsR (σ:Za) (sq own:Nat) (view:Bool) (n:Int):ZQ E BY σ sq 63 own view [.int .i64 n]=some (.bool (decide (n > 8)),σ,{}) :=
 Za5 (ZJY n) (by kernel_rfl) (by simp -implicitDefEqProofs only [Zam,Zao,Zn,Zi,Zm,Zaq,Zk,Zj,Zap,Zl,eq_self,implies_true,Xq,Zp,ZI,ZK,ZJ,ZH,Zp]) (by simp -implicitDefEqProofs only [Zam,Zao,Zn,Zi,Zm,Zaq,Zk,Zj,Zap,Zl,eq_self,implies_true,Xq,Zp,ZI,ZK,ZJ,ZH,Zp]) rfl (fun _=>rfl) _ _ _ _
theorem ZLB:ZbY.all Zar=true:=by kernel_rfl
theorem ZGf (s:List UInt8) (hl:s.length<=9223372036854775807):∃ z,E 54 [.str s,.str [43,35]] []=some (.int .i64 z,[])/\decide (z>=0)=ZbC s:=by
 have e0:(([43,35]:List UInt8) == [])=false:=rfl
 have e1:((((2:Nat)):Int) == 1)=false:=rfl
 by_cases h:(s.length:Int) > 8
 ·obtain ⟨z,h1,h2⟩:=Zuj s hl s 0 rfl
  refine ⟨z,?_,h2⟩
  rw [ZaJ (by rfl) Zsq]
  unfold Zkv at h1
  have z0:((0:Nat):Int)=0:=rfl
  rw [z0] at h1
  simp -implicitDefEqProofs only [EQA,Zn,Zi,Zm,Zk,Zj,Zl,Zz,ZG,ZC,Zy,ZE,ZF,ZA,ZB,ZD,implies_true,forall_const,Xh,Xi,Xl,Xe,Xf,Xj,Xk,Zv,Zx,unA,Zt,Zu,unG,reduceCtorEq,Zr,decide_eq_true_eq,Xd,Xb,ite_self,↓reduceIte,Zs,Zw,gcT,gcA,Zq,Zd,Zc,Ze,Zh,Zb,Zg,Zf,Zo,Xc,Zf5,ZeI,Zf2,Zgh,Zeg,ZfO,ZeE,ZfM,Zex,Zfx,Zet,Zf9,Zej,Zp,ZI,ZK,ZJ,ZH,ZL,e0,e1,h,ZsR,ZH2,ZJC,Zz7,ZGn,Zp2,ZqG,ZLB]
  exact h1
 ·obtain ⟨z,h1,h2⟩:=Zur s s.length 0 (by omega) (by omega)
  refine ⟨z,?_,h2⟩
  rw [ZaJ (by rfl) Zsq]
  unfold Zj5 at h1
  simp -implicitDefEqProofs only [EQA,Zn,Zi,Zm,Zk,Zj,Zl,Zz,ZG,ZC,Zy,ZE,ZF,ZA,ZB,ZD,implies_true,forall_const,Xh,Xi,Xl,Xe,Xf,Xj,Xk,Zv,Zx,unA,Zt,Zu,unG,reduceCtorEq,Zr,decide_eq_true_eq,Xd,Xb,ite_self,↓reduceIte,Zs,Zw,gcT,gcA,Zq,Zd,Zc,Ze,Zh,Zb,Zg,Zf,Zo,Xc,Zf5,ZeI,Zf2,Zgh,Zeg,ZfO,ZeE,ZfM,Zex,Zfx,Zet,Zf9,Zej,Zp,ZI,ZK,ZJ,ZH,ZL,e0,e1,h,ZsR]
  exact h1
theorem ZEG (s:List UInt8) (hl:s.length<=9223372036854775807):E 40 [.str s,.str [43,35]] []=some (.bool (ZbC s),[]):=by
 obtain ⟨z,h1,h2⟩:=ZGf s hl
 have hC:∀ (σ:Za) (sq own:Nat) (view:Bool),ZQ E BY σ sq 54 own view [.str s,.str [43,35]]=some (.int .i64 z,σ,{}):=fun _ _ _ _=>Za5 (h1) (by kernel_rfl) (by simp -implicitDefEqProofs only [Zam,Zao,Zn,Zi,Zm,Zaq,Zk,Zj,Zap,Zl,eq_self,implies_true,Xq,Zp,ZI,ZK,ZJ,ZH,Zp]) (by simp -implicitDefEqProofs only [Zam,Zao,Zn,Zi,Zm,Zaq,Zk,Zj,Zap,Zl,eq_self,implies_true,Xq,Zp,ZI,ZK,ZJ,ZH,Zp]) rfl (fun _=>rfl) _ _ _ _
 rw [ZaJ (by rfl) ZHM,<-h2]
 simp -implicitDefEqProofs only [EQA,Zn,Zi,Zm,Zk,Zj,Zl,Zz,ZG,ZC,Zy,ZE,ZF,ZA,ZB,ZD,implies_true,forall_const,Xh,Xi,Xl,Xe,Xf,Xj,Xk,Zv,Zx,unA,Zt,Zu,unG,reduceCtorEq,Zr,decide_eq_true_eq,Xd,Xb,ite_self,↓reduceIte,Zs,Zw,gcT,gcA,Zq,Zd,Zc,Ze,Zh,Zb,Zg,Zf,Zo,Xc,ZLu,Zo9,ZCI,Zp,ZI,ZK,ZJ,ZH,ZL,hC]
theorem Znu (σ:Za) (sq own:Nat) (view:Bool) (s:List UInt8) (hl:s.length<=9223372036854775807):ZQ E BY σ sq 40 own view [.str s,.str [43,35]]=some (.bool (ZbC s),σ,{}) :=
 Za5 (ZEG s hl) (by kernel_rfl) (by simp -implicitDefEqProofs only [Zam,Zao,Zn,Zi,Zm,Zaq,Zk,Zj,Zap,Zl,eq_self,implies_true,Xq,Zp,ZI,ZK,ZJ,ZH,Zp]) (by simp -implicitDefEqProofs only [Zam,Zao,Zn,Zi,Zm,Zaq,Zk,Zj,Zap,Zl,eq_self,implies_true,Xq,Zp,ZI,ZK,ZJ,ZH,Zp]) rfl (fun _=>rfl) _ _ _ _
def Zcy (s:List UInt8):Bool:=decide (1<=s.length) && decide (s.length<=64) && Zim s
theorem Zri (s:List UInt8):(decide ((s.length:Int)>=1) && decide ((s.length:Int)<=64) && Zim s)=Zcy s:=by
 unfold Zcy
 congr 2
 ·congr 1;rw [eq_iff_iff];omega
 ·congr 1;rw [eq_iff_iff];omega
theorem ZeT {s:List UInt8} (h:Zcy s=true):s.length<=64:=by
 simp only [Zcy,XE,decide_eq_true_eq] at h;exact h.1.2
theorem ZzB (s:List UInt8):E 39 [.str s] []=some (.bool (Zcy s),[]):=by
 rw [ZaJ (by rfl) ZBj,<-Zri]
 by_cases h1:(s.length:Int)>=1 <;> by_cases h2:(s.length:Int)<=64
 all_goals simp -implicitDefEqProofs only [EQA,Zn,Zi,Zm,Zk,Zj,Zl,Zz,ZG,ZC,Zy,ZE,ZF,ZA,ZB,ZD,implies_true,forall_const,Xh,Xi,Xl,Xe,Xf,Xj,Xk,Zv,Zx,unA,Zt,Zu,unG,reduceCtorEq,Zr,decide_eq_true_eq,Xd,Xb,ite_self,↓reduceIte,Zs,Zw,gcT,gcA,Zq,Zd,Zc,Ze,Zh,Zb,Zg,Zf,Zo,Xc,ZF6,ZnE,ZEs,Zp,ZI,ZK,ZJ,ZH,ZL,h1,h2,ZFH]
theorem Ze9 (σ:Za) (sq own:Nat) (view:Bool) (s:List UInt8):ZQ E BY σ sq 39 own view [.str s]=some (.bool (Zcy s),σ,{}) :=
 Za5 (ZzB s) (by kernel_rfl) (by simp -implicitDefEqProofs only [Zam,Zao,Zn,Zi,Zm,Zaq,Zk,Zj,Zap,Zl,eq_self,implies_true,Xq,Zp,ZI,ZK,ZJ,ZH,Zp]) (by simp -implicitDefEqProofs only [Zam,Zao,Zn,Zi,Zm,Zaq,Zk,Zj,Zap,Zl,eq_self,implies_true,Xq,Zp,ZI,ZK,ZJ,ZH,Zp]) rfl (fun _=>rfl) _ _ _ _
def ZdJ (s:List UInt8):Bool:=Zcy s && !ZbC s
theorem ZAN (s:List UInt8):E 48 [.str s] []=some (.bool (ZdJ s),[]):=by
 rw [ZaJ (by rfl) ZKD]
 unfold ZdJ
 cases h:Zcy s
 ·simp -implicitDefEqProofs only [EQA,Zn,Zi,Zm,Zk,Zj,Zl,Zz,ZG,ZC,Zy,ZE,ZF,ZA,ZB,ZD,implies_true,forall_const,Xh,Xi,Xl,Xe,Xf,Xj,Xk,Zv,Zx,unA,Zt,Zu,unG,reduceCtorEq,Zr,decide_eq_true_eq,Xd,Xb,ite_self,↓reduceIte,Zs,Zw,gcT,gcA,Zq,Zd,Zc,Ze,Zh,Zb,Zg,Zf,Zo,Xc,ZtD,Zmc,Ztc,Zp,ZI,ZK,ZJ,ZH,ZL,h,Ze9]
 ·have hC:=fun σ sq own view=>Znu σ sq own view s (by have:=ZeT h;omega)
  simp -implicitDefEqProofs only [EQA,Zn,Zi,Zm,Zk,Zj,Zl,Zz,ZG,ZC,Zy,ZE,ZF,ZA,ZB,ZD,implies_true,forall_const,Xh,Xi,Xl,Xe,Xf,Xj,Xk,Zv,Zx,unA,Zt,Zu,unG,reduceCtorEq,Zr,decide_eq_true_eq,Xd,Xb,ite_self,↓reduceIte,Zs,Zw,gcT,gcA,Zq,Zd,Zc,Ze,Zh,Zb,Zg,Zf,Zo,Xc,ZtD,Zmc,Ztc,Zp,ZI,ZK,ZJ,ZH,ZL,h,Ze9,hC]
theorem ZiG (σ:Za) (sq own:Nat) (view:Bool) (s:List UInt8):ZQ E BY σ sq 48 own view [.str s]=some (.bool (ZdJ s),σ,{}) :=
 Za5 (ZAN s) (by kernel_rfl) (by simp -implicitDefEqProofs only [Zam,Zao,Zn,Zi,Zm,Zaq,Zk,Zj,Zap,Zl,eq_self,implies_true,Xq,Zp,ZI,ZK,ZJ,ZH,Zp]) (by simp -implicitDefEqProofs only [Zam,Zao,Zn,Zi,Zm,Zaq,Zk,Zj,Zap,Zl,eq_self,implies_true,Xq,Zp,ZI,ZK,ZJ,ZH,Zp]) rfl (fun _=>rfl) _ _ _ _
def Zcz (s:List UInt8) (c:UInt8):Bool:=s.any (· == c)
theorem ZvF (s:List UInt8) (c:UInt8) (hl:s.length<=9223372036854775807):∀ (r:List UInt8) (i:Nat),s.drop i=r->Zkj 0 [(5,.int .i64 i),(1,ZaP c),(0,.str s)] []=some (.bool (Zcz r c),[])
 | [],i,h=>by
  have h1:=ZbF h
  unfold Zkj
  rw [ZY]
  simp -implicitDefEqProofs only [EQA,Zn,Zi,Zm,Zk,Zj,Zl,Zz,ZG,ZC,Zy,ZE,ZF,ZA,ZB,ZD,implies_true,forall_const,Xh,Xi,Xl,Xe,Xf,Xj,Xk,Zv,Zx,unA,Zt,Zu,unG,reduceCtorEq,Zr,decide_eq_true_eq,Xd,Xb,ite_self,↓reduceIte,Zs,Zw,gcT,gcA,Zq,Zd,Zc,Ze,Zh,Zb,Zg,Zf,Zo,Xc,Zks,ZhG,Zkn,Zmh,ZhM,Zlf,Zig,Zp,ZI,ZK,ZJ,ZH,ZL,h1,ZaP]
  rfl
 | b::r,i,h=>by
  have ih:=ZvF s c hl r (i+1) (ZaC h).2.1
  have h1:(i:Int) < s.length:=by have:=(ZaC h).2.2;omega
  have h2:=(ZaC h).1
  have h3:=Zbh h1 hl
  have i0:(0:Int)<=(i:Int):=by omega
  have e:Zcz (b::r) c=((b.toNat:Int) == (c.toNat:Int) || Zcz r c):=by
   unfold Zcz
   rw [XF]
   congr 1
   rw [XaE]
   simp only [beq_iff_eq,<-XaF]
   omega
  rw [e]
  unfold Zkj at ih ⊢
  rw [ZY]
  simp only [ZaP] at ih
  cases hb:(b.toNat:Int) == (c.toNat:Int)
  ·simp -implicitDefEqProofs only [EQA,Zn,Zi,Zm,Zk,Zj,Zl,Zz,ZG,ZC,Zy,ZE,ZF,ZA,ZB,ZD,implies_true,forall_const,Xh,Xi,Xl,Xe,Xf,Xj,Xk,Zv,Zx,unA,Zt,Zu,unG,reduceCtorEq,Zr,decide_eq_true_eq,Xd,Xb,ite_self,↓reduceIte,Zs,Zw,gcT,gcA,Zq,Zd,Zc,Ze,Zh,Zb,Zg,Zf,Zo,Xc,Zks,ZhG,Zkn,Zmh,ZhM,Zlf,Zig,Zp,ZI,ZK,ZJ,ZH,ZL,h1,h2,h3,i0,hb,ZaP,Wk]
   exact ih
  ·simp -implicitDefEqProofs only [EQA,Zn,Zi,Zm,Zk,Zj,Zl,Zz,ZG,ZC,Zy,ZE,ZF,ZA,ZB,ZD,implies_true,forall_const,Xh,Xi,Xl,Xe,Xf,Xj,Xk,Zv,Zx,unA,Zt,Zu,unG,reduceCtorEq,Zr,decide_eq_true_eq,Xd,Xb,ite_self,↓reduceIte,Zs,Zw,gcT,gcA,Zq,Zd,Zc,Ze,Zh,Zb,Zg,Zf,Zo,Xc,Zks,ZhG,Zkn,Zmh,ZhM,Zlf,Zig,Zp,ZI,ZK,ZJ,ZH,ZL,h1,h2,h3,i0,hb,ZaP,Wk]
theorem Zw1 (s:List UInt8) (c:UInt8) (hl:s.length<=9223372036854775807):E 45 [.str s,.int .u8 c.toNat] []=some (.bool (Zcz s c),[]):=by
 rw [ZaJ (by rfl) ZDQ]
 have:=ZvF s c hl s 0 rfl
 unfold Zkj at this
 have z0:((0:Nat):Int)=0:=rfl
 rw [z0] at this
 simp only [ZaP] at this
 simp -implicitDefEqProofs only [EQA,Zn,Zi,Zm,Zk,Zj,Zl,Zz,ZG,ZC,Zy,ZE,ZF,ZA,ZB,ZD,implies_true,forall_const,Xh,Xi,Xl,Xe,Xf,Xj,Xk,Zv,Zx,unA,Zt,Zu,unG,reduceCtorEq,Zr,decide_eq_true_eq,Xd,Xb,ite_self,↓reduceIte,Zs,Zw,gcT,gcA,Zq,Zd,Zc,Ze,Zh,Zb,Zg,Zf,Zo,Xc,Zks,ZhG,Zkn,Zmh,ZhM,Zlf,Zig,Zp,ZI,ZK,ZJ,ZH,ZL,Zp]
 exact this
theorem ZhS (σ:Za) (sq own:Nat) (view:Bool) (s:List UInt8) (c:UInt8) (hl:s.length<=9223372036854775807):ZQ E BY σ sq 45 own view [.str s,.int .u8 c.toNat]=some (.bool (Zcz s c),σ,{}) :=
 Za5 (Zw1 s c hl) (by kernel_rfl) (by simp -implicitDefEqProofs only [Zam,Zao,Zn,Zi,Zm,Zaq,Zk,Zj,Zap,Zl,eq_self,implies_true,Xq,Zp,ZI,ZK,ZJ,ZH,Zp]) (by simp -implicitDefEqProofs only [Zam,Zao,Zn,Zi,Zm,Zaq,Zk,Zj,Zap,Zl,eq_self,implies_true,Xq,Zp,ZI,ZK,ZJ,ZH,Zp]) rfl (fun _=>rfl) _ _ _ _
theorem ZAF (s : List UInt8) : E 43 [.str s] [] = some (.bool (Zcy s), []) := by
  rw [ZaJ (by rfl) ZFF, <- Zri]
  by_cases h1 : (s.length : Int) >= 1 <;> by_cases h2 : (s.length : Int) <= 64
  all_goals first
    | (have hC := fun σ sq own view => Zzh σ sq own view s (by omega)
       simp -implicitDefEqProofs only [EQA,Zn,Zi,Zm,Zk,Zj,Zl,Zz,ZG,ZC,Zy,ZE,ZF,ZA,ZB,ZD,implies_true,forall_const,Xh,Xi,Xl,Xe,Xf,Xj,Xk,Zv,Zx,unA,Zt,Zu,unG,reduceCtorEq,Zr,decide_eq_true_eq,Xd,Xb,ite_self,↓reduceIte,Zs,Zw,gcT,gcA,Zq,Zd,Zc,Ze,Zh,Zb,Zg,Zf,Zo,Xc,ZuB,Zlq,Zrx,Zp,ZI,ZK,ZJ,ZH,ZL,h1,h2,hC])
    | simp -implicitDefEqProofs only [EQA,Zn,Zi,Zm,Zk,Zj,Zl,Zz,ZG,ZC,Zy,ZE,ZF,ZA,ZB,ZD,implies_true,forall_const,Xh,Xi,Xl,Xe,Xf,Xj,Xk,Zv,Zx,unA,Zt,Zu,unG,reduceCtorEq,Zr,decide_eq_true_eq,Xd,Xb,ite_self,↓reduceIte,Zs,Zw,gcT,gcA,Zq,Zd,Zc,Ze,Zh,Zb,Zg,Zf,Zo,Xc,ZuB,Zlq,Zrx,Zp,ZI,ZK,ZJ,ZH,ZL,h1,h2]
theorem Zdm (σ:Za) (sq own:Nat) (view:Bool) (s:List UInt8):ZQ E BY σ sq 43 own view [.str s]=some (.bool (Zcy s),σ,{}) :=
 Za5 (ZAF s) (by kernel_rfl) (by simp -implicitDefEqProofs only [Zam,Zao,Zn,Zi,Zm,Zaq,Zk,Zj,Zap,Zl,eq_self,implies_true,Xq,Zp,ZI,ZK,ZJ,ZH,Zp]) (by simp -implicitDefEqProofs only [Zam,Zao,Zn,Zi,Zm,Zaq,Zk,Zj,Zap,Zl,eq_self,implies_true,Xq,Zp,ZI,ZK,ZJ,ZH,Zp]) rfl (fun _=>rfl) _ _ _ _
theorem Zi1 (s:List UInt8):ZbC s=(Zcz s 43 || Zcz s 35):=by
 unfold ZbC Zcz ZdF
 induction s with
 | nil=>rfl
 | cons b s ih=>simp only [XF,ih];cases (b == 43) <;> cases (b == 35) <;> simp
theorem ZA7 (s:List UInt8):E 50 [.str s] []=some (.bool (ZdJ s),[]):=by
 rw [ZaJ (by rfl) ZyM]
 unfold ZdJ
 rw [Zi1]
 cases h:Zcy s
 ·simp -implicitDefEqProofs only [EQA,Zn,Zi,Zm,Zk,Zj,Zl,Zz,ZG,ZC,Zy,ZE,ZF,ZA,ZB,ZD,implies_true,forall_const,Xh,Xi,Xl,Xe,Xf,Xj,Xk,Zv,Zx,unA,Zt,Zu,unG,reduceCtorEq,Zr,decide_eq_true_eq,Xd,Xb,ite_self,↓reduceIte,Zs,Zw,gcT,gcA,Zq,Zd,Zc,Ze,Zh,Zb,Zg,Zf,Zo,Xc,Zqq,ZjI,Zom,Zp,ZI,ZK,ZJ,ZH,ZL,h,Zdm]
 ·have hC1:=fun σ sq own view=>ZhS σ sq own view s 43 (by have:=ZeT h;omega)
  have hC2:=fun σ sq own view=>ZhS σ sq own view s 35 (by have:=ZeT h;omega)
  simp only [show (((43:UInt8).toNat:Nat):Int)=43 from rfl] at hC1
  simp only [show (((35:UInt8).toNat:Nat):Int)=35 from rfl] at hC2
  cases h1:Zcz s 43
  ·simp -implicitDefEqProofs only [EQA,Zn,Zi,Zm,Zk,Zj,Zl,Zz,ZG,ZC,Zy,ZE,ZF,ZA,ZB,ZD,implies_true,forall_const,Xh,Xi,Xl,Xe,Xf,Xj,Xk,Zv,Zx,unA,Zt,Zu,unG,reduceCtorEq,Zr,decide_eq_true_eq,Xd,Xb,ite_self,↓reduceIte,Zs,Zw,gcT,gcA,Zq,Zd,Zc,Ze,Zh,Zb,Zg,Zf,Zo,Xc,Zqq,ZjI,Zom,Zp,ZI,ZK,ZJ,ZH,ZL,h,Zdm,hC1,hC2,h1]
  ·simp -implicitDefEqProofs only [EQA,Zn,Zi,Zm,Zk,Zj,Zl,Zz,ZG,ZC,Zy,ZE,ZF,ZA,ZB,ZD,implies_true,forall_const,Xh,Xi,Xl,Xe,Xf,Xj,Xk,Zv,Zx,unA,Zt,Zu,unG,reduceCtorEq,Zr,decide_eq_true_eq,Xd,Xb,ite_self,↓reduceIte,Zs,Zw,gcT,gcA,Zq,Zd,Zc,Ze,Zh,Zb,Zg,Zf,Zo,Xc,Zqq,ZjI,Zom,Zp,ZI,ZK,ZJ,ZH,ZL,h,Zdm,hC1,hC2,h1]
theorem Zir (σ:Za) (sq own:Nat) (view:Bool) (s:List UInt8):ZQ E BY σ sq 50 own view [.str s]=some (.bool (ZdJ s),σ,{}) :=
 Za5 (ZA7 s) (by kernel_rfl) (by simp -implicitDefEqProofs only [Zam,Zao,Zn,Zi,Zm,Zaq,Zk,Zj,Zap,Zl,eq_self,implies_true,Xq,Zp,ZI,ZK,ZJ,ZH,Zp]) (by simp -implicitDefEqProofs only [Zam,Zao,Zn,Zi,Zm,Zaq,Zk,Zj,Zap,Zl,eq_self,implies_true,Xq,Zp,ZI,ZK,ZJ,ZH,Zp]) rfl (fun _=>rfl) _ _ _ _
end
section
theorem Zp5 (s:List UInt8):∀ x ∈ Zau s,x.length<=s.length:=by
 induction s with
 | nil=>simp [Zau]
 | cons b r ih =>
  simp only [Zau]
  split
  ·intro x hx
   rcases XV.1 hx with rfl | hx
   ·simp
   ·have:=ih x hx;simp;omega
  ·split
   ·rename_i h t e
    intro x hx
    rw [e] at ih
    rcases XV.1 hx with rfl | hx
    ·have:=ih h (by simp);simp;omega
    ·have:=ih x (by simp [hx]);simp;omega
   ·intro x hx
    have : x=[b]:=by simpa using hx
    subst this;simp
def Zhp (last:Bool) (x:List UInt8):Bool:=x == [43] || (x == [35] && last) || !ZbC x
def ZfY:List (List UInt8)->Bool
 | []=>true
 | x::r=>Zhp r.isEmpty x && ZfY r
def Zdu (s:List UInt8):Bool:=ZfY (Zau s) && Zcy s
theorem Zrk {α:Type} {l:List α} {i:Nat} {x:α} {r:List α} (h:l.drop i=x::r):((i:Int) == ((l.length:Int) - 1))=r.isEmpty:=by
 have h1:=congrArg Xa8 h
 simp only [WJ,Xr] at h1
 cases r with
 | nil=>simp at h1 ⊢;omega
 | cons y r=>simp at h1 ⊢;omega
theorem ZvK (s:List UInt8) (L:List (List UInt8)) (hL:L.length<=9223372036854775807) (hx:∀ x ∈ L,x.length<=9223372036854775807):∀ (r:List (List UInt8)) (i:Nat),L.drop i=r ->
  ZmD 0 [(11,.int .i64 i),(10,.int .i64 L.length),(9,.lst false (L.map AVal.str)),(3,.lst false (L.map AVal.str)),(0,.str s)] []=some (.bool (ZfY r && Zcy s),[])
 | [],i,h=>by
  have h1:=ZbF h
  unfold ZmD
  rw [ZY]
  simp -implicitDefEqProofs only [EQA,Zn,Zi,Zm,Zk,Zj,Zl,Zz,ZG,ZC,Zy,ZE,ZF,ZA,ZB,ZD,implies_true,forall_const,Xh,Xi,Xl,Xe,Xf,Xj,Xk,Zv,Zx,unA,Zt,Zu,unG,reduceCtorEq,Zr,decide_eq_true_eq,Xd,Xb,ite_self,↓reduceIte,Zs,Zw,gcT,gcA,Zq,Zd,Zc,Ze,Zh,Zb,Zg,Zf,Zo,Xc,Zgj,Zes,Zgf,ZfN,ZeG,Zga,Zeo,Zp,ZI,ZK,ZJ,ZH,ZL,h1,Ze9]
  rfl
 | x::r,i,h=>by
  have ih:=ZvK s L hL hx r (i+1) (ZaC h).2.1
  have hlt:=(ZaC h).2.2
  have h1:(i:Int) < L.length:=by omega
  have e1:=iad (ZaC h).1 AVal.str (k:=1) rfl
  have h3:=Zbh h1 hL
  have hmem:x ∈ L:=XN (ZaC h).1
  have hC:=fun σ sq own view=>Znu σ sq own view x (hx x hmem)
  have w1:IntKind.i64.wrap ((L.length:Int) - 1)=(L.length:Int) - 1:=Zbp (by omega) (by omega)
  have hla:=Zrk h
  have ee:ZfY (x::r)=(Zhp r.isEmpty x && ZfY r):=rfl
  rw [ee]
  unfold Zhp
  unfold ZmD at ih ⊢
  rw [ZY]
  cases hp:(x == [43])
  ·cases hq:(x == [35])
   ·cases hz:ZbC x
    ·simp -implicitDefEqProofs only [EQA,Zn,Zi,Zm,Zk,Zj,Zl,Zz,ZG,ZC,Zy,ZE,ZF,ZA,ZB,ZD,implies_true,forall_const,Xh,Xi,Xl,Xe,Xf,Xj,Xk,Zv,Zx,unA,Zt,Zu,unG,reduceCtorEq,Zr,decide_eq_true_eq,Xd,Xb,ite_self,↓reduceIte,Zs,Zw,gcT,gcA,Zq,Zd,Zc,Ze,Zh,Zb,Zg,Zf,Zo,Xc,Zgj,Zes,Zgf,ZfN,ZeG,Zga,Zeo,Zp,ZI,ZK,ZJ,ZH,ZL,h1,e1,h3,hC,w1,hla,hp,hq,hz]
     exact ih
    ·simp -implicitDefEqProofs only [EQA,Zn,Zi,Zm,Zk,Zj,Zl,Zz,ZG,ZC,Zy,ZE,ZF,ZA,ZB,ZD,implies_true,forall_const,Xh,Xi,Xl,Xe,Xf,Xj,Xk,Zv,Zx,unA,Zt,Zu,unG,reduceCtorEq,Zr,decide_eq_true_eq,Xd,Xb,ite_self,↓reduceIte,Zs,Zw,gcT,gcA,Zq,Zd,Zc,Ze,Zh,Zb,Zg,Zf,Zo,Xc,Zgj,Zes,Zgf,ZfN,ZeG,Zga,Zeo,Zp,ZI,ZK,ZJ,ZH,ZL,h1,e1,h3,hC,w1,hla,hp,hq,hz]
   ·cases hr:r.isEmpty
    ·cases hz:ZbC x
     ·simp -implicitDefEqProofs only [EQA,Zn,Zi,Zm,Zk,Zj,Zl,Zz,ZG,ZC,Zy,ZE,ZF,ZA,ZB,ZD,implies_true,forall_const,Xh,Xi,Xl,Xe,Xf,Xj,Xk,Zv,Zx,unA,Zt,Zu,unG,reduceCtorEq,Zr,decide_eq_true_eq,Xd,Xb,ite_self,↓reduceIte,Zs,Zw,gcT,gcA,Zq,Zd,Zc,Ze,Zh,Zb,Zg,Zf,Zo,Xc,Zgj,Zes,Zgf,ZfN,ZeG,Zga,Zeo,Zp,ZI,ZK,ZJ,ZH,ZL,h1,e1,h3,hC,w1,hla,hp,hq,hz,hr]
      exact ih
     ·simp -implicitDefEqProofs only [EQA,Zn,Zi,Zm,Zk,Zj,Zl,Zz,ZG,ZC,Zy,ZE,ZF,ZA,ZB,ZD,implies_true,forall_const,Xh,Xi,Xl,Xe,Xf,Xj,Xk,Zv,Zx,unA,Zt,Zu,unG,reduceCtorEq,Zr,decide_eq_true_eq,Xd,Xb,ite_self,↓reduceIte,Zs,Zw,gcT,gcA,Zq,Zd,Zc,Ze,Zh,Zb,Zg,Zf,Zo,Xc,Zgj,Zes,Zgf,ZfN,ZeG,Zga,Zeo,Zp,ZI,ZK,ZJ,ZH,ZL,h1,e1,h3,hC,w1,hla,hp,hq,hz,hr]
    ·simp -implicitDefEqProofs only [EQA,Zn,Zi,Zm,Zk,Zj,Zl,Zz,ZG,ZC,Zy,ZE,ZF,ZA,ZB,ZD,implies_true,forall_const,Xh,Xi,Xl,Xe,Xf,Xj,Xk,Zv,Zx,unA,Zt,Zu,unG,reduceCtorEq,Zr,decide_eq_true_eq,Xd,Xb,ite_self,↓reduceIte,Zs,Zw,gcT,gcA,Zq,Zd,Zc,Ze,Zh,Zb,Zg,Zf,Zo,Xc,Zgj,Zes,Zgf,ZfN,ZeG,Zga,Zeo,Zp,ZI,ZK,ZJ,ZH,ZL,h1,e1,h3,hC,w1,hla,hp,hq,hr]
     exact ih
  ·simp -implicitDefEqProofs only [EQA,Zn,Zi,Zm,Zk,Zj,Zl,Zz,ZG,ZC,Zy,ZE,ZF,ZA,ZB,ZD,implies_true,forall_const,Xh,Xi,Xl,Xe,Xf,Xj,Xk,Zv,Zx,unA,Zt,Zu,unG,reduceCtorEq,Zr,decide_eq_true_eq,Xd,Xb,ite_self,↓reduceIte,Zs,Zw,gcT,gcA,Zq,Zd,Zc,Ze,Zh,Zb,Zg,Zf,Zo,Xc,Zgj,Zes,Zgf,ZfN,ZeG,Zga,Zeo,Zp,ZI,ZK,ZJ,ZH,ZL,h1,e1,h3,hC,w1,hla,hp]
   exact ih
theorem ZxH (s:List UInt8) (hs:s.length*16<=140737488355328 - 64):E 41 [.str s] []=some (.bool (Zdu s),[]):=by
 have hC:=fun σ sq own view=>ZoZ σ sq own view s (by omega)
 have hlen:=Zgu s
 have hcl:=Xaa (a:=(47:UInt8)) (l:=s)
 have key:=ZvK s (Zau s) (by omega) (fun x hx=>by have:=Zp5 s x hx;omega) (Zau s) 0 rfl
 rw [ZaJ (by rfl) ZKV]
 unfold ZmD at key
 have z0:((0:Nat):Int)=0:=rfl
 rw [z0] at key
 simp -implicitDefEqProofs only [EQA,Zn,Zi,Zm,Zk,Zj,Zl,Zz,ZG,ZC,Zy,ZE,ZF,ZA,ZB,ZD,implies_true,forall_const,Xh,Xi,Xl,Xe,Xf,Xj,Xk,Zv,Zx,unA,Zt,Zu,unG,reduceCtorEq,Zr,decide_eq_true_eq,Xd,Xb,ite_self,↓reduceIte,Zs,Zw,gcT,gcA,Zq,Zd,Zc,Ze,Zh,Zb,Zg,Zf,Zo,Xc,Zgj,Zes,Zgf,ZfN,ZeG,Zga,Zeo,Zp,ZI,ZK,ZJ,ZH,ZL,hC]
 exact key
theorem ZtC (σ:Za) (sq own:Nat) (view:Bool) (s:List UInt8) (hs:s.length*16<=140737488355328 - 64):ZQ E BY σ sq 41 own view [.str s]=some (.bool (Zdu s),σ,{}) :=
 Za5 (ZxH s hs) (by kernel_rfl) (by simp -implicitDefEqProofs only [Zam,Zao,Zn,Zi,Zm,Zaq,Zk,Zj,Zap,Zl,eq_self,implies_true,Xq,Zp,ZI,ZK,ZJ,ZH,Zp]) (by simp -implicitDefEqProofs only [Zam,Zao,Zn,Zi,Zm,Zaq,Zk,Zj,Zap,Zl,eq_self,implies_true,Xq,Zp,ZI,ZK,ZJ,ZH,Zp]) rfl (fun _=>rfl) _ _ _ _
theorem ZBh (last:Bool) (x:List UInt8):Zhp last x=!((Zcz x 35 && (!(x == [35]) || !last)) || (Zcz x 43 && !(x == [43]))):=by
 unfold Zhp
 rw [Zi1]
 by_cases h1:x=[43]
 ·subst h1;cases last <;> rfl
 ·by_cases h2:x=[35]
  ·subst h2;cases last <;> rfl
  ·have e1:(x == [43])=false:=by simpa using h1
   have e2:(x == [35])=false:=by simpa using h2
   rw [e1,e2]
   cases Zcz x 43 <;> cases Zcz x 35 <;> rfl
theorem ZvG (L:List (List UInt8)) (hL:L.length<=9223372036854775807) (hx:∀ x ∈ L,x.length<=9223372036854775807):∀ (r:List (List UInt8)) (i:Nat),L.drop i=r ->
  ZmB 0 [(4,.int .i64 i),(3,.lst false (L.map AVal.str))] []=some (.bool (ZfY r),[])
 | [],i,h=>by
  have h1:=ZbF h
  unfold ZmB
  rw [ZY]
  simp -implicitDefEqProofs only [EQA,Zn,Zi,Zm,Zk,Zj,Zl,Zz,ZG,ZC,Zy,ZE,ZF,ZA,ZB,ZD,implies_true,forall_const,Xh,Xi,Xl,Xe,Xf,Xj,Xk,Zv,Zx,unA,Zt,Zu,unG,reduceCtorEq,Zr,decide_eq_true_eq,Xd,Xb,ite_self,↓reduceIte,Zs,Zw,gcT,gcA,Zq,Zd,Zc,Ze,Zh,Zb,Zg,Zf,Zo,Xc,ZiR,ZgZ,ZiH,Zjc,Zg2,Zjv,Zgq,Zp,ZI,ZK,ZJ,ZH,ZL,h1]
  rfl
 | x::r,i,h=>by
  have ih:=ZvG L hL hx r (i+1) (ZaC h).2.1
  have hlt:=(ZaC h).2.2
  have h1:(i:Int) < L.length:=by omega
  have e1:=iad (ZaC h).1 AVal.str (k:=1) rfl
  have h3:=Zbh h1 hL
  have hmem:x ∈ L:=XN (ZaC h).1
  have hC1:=fun σ sq own view=>ZhS σ sq own view x 43 (hx x hmem)
  have hC2:=fun σ sq own view=>ZhS σ sq own view x 35 (hx x hmem)
  simp only [show (((43:UInt8).toNat:Nat):Int)=43 from rfl] at hC1
  simp only [show (((35:UInt8).toNat:Nat):Int)=35 from rfl] at hC2
  have w1:IntKind.i64.wrap ((L.length:Int) - 1)=(L.length:Int) - 1:=Zbp (by omega) (by omega)
  have hla:((i:Int) != ((L.length:Int) - 1))=!r.isEmpty:=by rw [bne,Zrk h]
  have ee:ZfY (x::r)=(Zhp r.isEmpty x && ZfY r):=rfl
  rw [ee,ZBh]
  unfold ZmB at ih ⊢
  rw [ZY]
  cases ha:Zcz x 35 <;> cases hb:Zcz x 43 <;> cases hp:(x == [43]) <;> cases hq:(x == [35]) <;> cases hr:r.isEmpty
  all_goals first
   | (simp -implicitDefEqProofs only [EQA,Zn,Zi,Zm,Zk,Zj,Zl,Zz,ZG,ZC,Zy,ZE,ZF,ZA,ZB,ZD,implies_true,forall_const,Xh,Xi,Xl,Xe,Xf,Xj,Xk,Zv,Zx,unA,Zt,Zu,unG,reduceCtorEq,Zr,decide_eq_true_eq,Xd,Xb,ite_self,↓reduceIte,Zs,Zw,gcT,gcA,Zq,Zd,Zc,Ze,Zh,Zb,Zg,Zf,Zo,Xc,ZiR,ZgZ,ZiH,Zjc,Zg2,Zjv,Zgq,Zp,ZI,ZK,ZJ,ZH,ZL,h1,e1,h3,hC1,hC2,w1,hla,hp,hq,hr,ha,hb];done)
   | (simp -implicitDefEqProofs only [EQA,Zn,Zi,Zm,Zk,Zj,Zl,Zz,ZG,ZC,Zy,ZE,ZF,ZA,ZB,ZD,implies_true,forall_const,Xh,Xi,Xl,Xe,Xf,Xj,Xk,Zv,Zx,unA,Zt,Zu,unG,reduceCtorEq,Zr,decide_eq_true_eq,Xd,Xb,ite_self,↓reduceIte,Zs,Zw,gcT,gcA,Zq,Zd,Zc,Ze,Zh,Zb,Zg,Zf,Zo,Xc,ZiR,ZgZ,ZiH,Zjc,Zg2,Zjv,Zgq,Zp,ZI,ZK,ZJ,ZH,ZL,h1,e1,h3,hC1,hC2,w1,hla,hp,hq,hr,ha,hb];exact ih)
theorem Zx4 (s:List UInt8):E 46 [.str s] []=some (.bool (Zdu s),[]):=by
 rw [ZaJ (by rfl) Zzf]
 unfold Zdu
 cases h:Zcy s
 ·simp -implicitDefEqProofs only [EQA,Zn,Zi,Zm,Zk,Zj,Zl,Zz,ZG,ZC,Zy,ZE,ZF,ZA,ZB,ZD,implies_true,forall_const,Xh,Xi,Xl,Xe,Xf,Xj,Xk,Zv,Zx,unA,Zt,Zu,unG,reduceCtorEq,Zr,decide_eq_true_eq,Xd,Xb,ite_self,↓reduceIte,Zs,Zw,gcT,gcA,Zq,Zd,Zc,Ze,Zh,Zb,Zg,Zf,Zo,Xc,ZiR,ZgZ,ZiH,Zjc,Zg2,Zjv,Zgq,Zp,ZI,ZK,ZJ,ZH,ZL,h,Zdm]
 ·have hl:=ZeT h
  have hC:=fun σ sq own=>ZlK σ sq own s (by omega)
  have hlen:=Zgu s
  have hcl:=Xaa (a:=(47:UInt8)) (l:=s)
  have key:=ZvG (Zau s) (by omega) (fun x hx=>by have:=Zp5 s x hx;omega) (Zau s) 0 rfl
  unfold ZmB at key
  have z0:((0:Nat):Int)=0:=rfl
  rw [z0] at key
  simp -implicitDefEqProofs only [EQA,Zn,Zi,Zm,Zk,Zj,Zl,Zz,ZG,ZC,Zy,ZE,ZF,ZA,ZB,ZD,implies_true,forall_const,Xh,Xi,Xl,Xe,Xf,Xj,Xk,Zv,Zx,unA,Zt,Zu,unG,reduceCtorEq,Zr,decide_eq_true_eq,Xd,Xb,ite_self,↓reduceIte,Zs,Zw,gcT,gcA,Zq,Zd,Zc,Ze,Zh,Zb,Zg,Zf,Zo,Xc,ZiR,ZgZ,ZiH,Zjc,Zg2,Zjv,Zgq,Zp,ZI,ZK,ZJ,ZH,ZL,h,Zdm,hC]
  exact key
theorem Zfk (σ:Za) (sq own:Nat) (view:Bool) (s:List UInt8):ZQ E BY σ sq 46 own view [.str s]=some (.bool (Zdu s),σ,{}) :=
 Za5 (Zx4 s) (by kernel_rfl) (by simp -implicitDefEqProofs only [Zam,Zao,Zn,Zi,Zm,Zaq,Zk,Zj,Zap,Zl,eq_self,implies_true,Xq,Zp,ZI,ZK,ZJ,ZH,Zp]) (by simp -implicitDefEqProofs only [Zam,Zao,Zn,Zi,Zm,Zaq,Zk,Zj,Zap,Zl,eq_self,implies_true,Xq,Zp,ZI,ZK,ZJ,ZH,Zp]) rfl (fun _=>rfl) _ _ _ _
end
section
def Zc1:List (List UInt8)->List (List UInt8)->Bool
 | [],n=>n.isEmpty
 | x::f,n=>x == [35] || (match n with
  | []=>false
  | y::n=>(x == [43] || x == y) && Zc1 f n)
def ZnJ (x:List UInt8):Bool:=x == [43] || x == [35]
def Zbg (f s:List UInt8):Bool:=Zdu f && ZdJ s && !((s.headD 0 == 36) && ZnJ ((Zau f).headD [])) && Zc1 (Zau f) (Zau s)
theorem ZtN (F S:List (List UInt8)) (hF:F.length<=9223372036854775807) (hS:S.length<=9223372036854775807):∀ (r n:List (List UInt8)) (i:Nat),F.drop i=r->S.drop i=n->i<=F.length->i<=S.length ->
  ZiB 0 [(38,.int .i64 i),(37,.int .i64 F.length),(36,.lst false (F.map AVal.str)),(6,.lst false (S.map AVal.str)),(5,.lst false (F.map AVal.str))] []=some (.bool (Zc1 r n),[])
 | [],n,i,h,hn,hi,hi'=>by
  have h1:=ZbF h
  have he:(((F.length:Int)) == ((S.length:Int)))=n.isEmpty:=by
   have hfi:F.length=i:=by have:=Wl.1 h;omega
   have h2:=congrArg Xa8 hn
   simp only [WJ] at h2
   cases n with
   | nil=>simp at h2 ⊢;omega
   | cons y n=>simp at h2 ⊢;omega
  unfold ZiB
  rw [ZY]
  simp -implicitDefEqProofs only [EQA,Zn,Zi,Zm,Zk,Zj,Zl,Zz,ZG,ZC,Zy,ZE,ZF,ZA,ZB,ZD,implies_true,forall_const,Xh,Xi,Xl,Xe,Xf,Xj,Xk,Zv,Zx,unA,Zt,Zu,unG,reduceCtorEq,Zr,decide_eq_true_eq,Xd,Xb,ite_self,↓reduceIte,Zs,Zw,gcT,gcA,Zq,Zd,Zc,Ze,Zh,Zb,Zg,Zf,Zo,Xc,ZdE,Zdh,ZdG,ZdD,Zc9,ZdP,Zdi,Zp,ZI,ZK,ZJ,ZH,ZL,h1,he]
  rfl
 | x::r,[],i,h,hn,hi,hi'=>by
  have hlt:=(ZaC h).2.2
  have h1:(i:Int) < F.length:=by omega
  have e1:=iad (ZaC h).1 AVal.str (k:=1) rfl
  have he:((i:Int) == ((S.length:Int)))=true:=by have:=Wl.1 hn;rw [beq_iff_eq];omega
  unfold ZiB
  rw [ZY]
  cases hp:(x == [35])
  ·have ee:Zc1 (x::r) []=false:=by simp [Zc1,hp]
   rw [ee]
   simp -implicitDefEqProofs only [EQA,Zn,Zi,Zm,Zk,Zj,Zl,Zz,ZG,ZC,Zy,ZE,ZF,ZA,ZB,ZD,implies_true,forall_const,Xh,Xi,Xl,Xe,Xf,Xj,Xk,Zv,Zx,unA,Zt,Zu,unG,reduceCtorEq,Zr,decide_eq_true_eq,Xd,Xb,ite_self,↓reduceIte,Zs,Zw,gcT,gcA,Zq,Zd,Zc,Ze,Zh,Zb,Zg,Zf,Zo,Xc,ZdE,Zdh,ZdG,ZdD,Zc9,ZdP,Zdi,Zp,ZI,ZK,ZJ,ZH,ZL,h1,e1,he,hp]
  ·have ee:Zc1 (x::r) []=true:=by simp [Zc1,hp]
   rw [ee]
   simp -implicitDefEqProofs only [EQA,Zn,Zi,Zm,Zk,Zj,Zl,Zz,ZG,ZC,Zy,ZE,ZF,ZA,ZB,ZD,implies_true,forall_const,Xh,Xi,Xl,Xe,Xf,Xj,Xk,Zv,Zx,unA,Zt,Zu,unG,reduceCtorEq,Zr,decide_eq_true_eq,Xd,Xb,ite_self,↓reduceIte,Zs,Zw,gcT,gcA,Zq,Zd,Zc,Ze,Zh,Zb,Zg,Zf,Zo,Xc,ZdE,Zdh,ZdG,ZdD,Zc9,ZdP,Zdi,Zp,ZI,ZK,ZJ,ZH,ZL,h1,e1,he,hp]
 | x::r,y::n,i,h,hn,hi,hi'=>by
  have hlt:=(ZaC h).2.2
  have hlt':=(ZaC hn).2.2
  have ih:=ZtN F S hF hS r n (i+1) (ZaC h).2.1 (ZaC hn).2.1 (by omega) (by omega)
  have h1:(i:Int) < F.length:=by omega
  have h3:=Zbh h1 hF
  have e1:=iad (ZaC h).1 AVal.str (k:=1) rfl
  have e2:=iad (ZaC hn).1 AVal.str (k:=1) rfl
  have he:((i:Int) == ((S.length:Int)))=false:=by rw [beq_eq_false_iff_ne];omega
  have ee:Zc1 (x::r) (y::n)=(x == [35] || ((x == [43] || x == y) && Zc1 r n)):=rfl
  rw [ee]
  unfold ZiB at ih ⊢
  rw [ZY]
  cases hp:(x == [35])
  ·cases hq:(x == [43])
   ·cases hz:(x == y)
    ·simp -implicitDefEqProofs only [EQA,Zn,Zi,Zm,Zk,Zj,Zl,Zz,ZG,ZC,Zy,ZE,ZF,ZA,ZB,ZD,implies_true,forall_const,Xh,Xi,Xl,Xe,Xf,Xj,Xk,Zv,Zx,unA,Zt,Zu,unG,reduceCtorEq,Zr,decide_eq_true_eq,Xd,Xb,ite_self,↓reduceIte,Zs,Zw,gcT,gcA,Zq,Zd,Zc,Ze,Zh,Zb,Zg,Zf,Zo,Xc,ZdE,Zdh,ZdG,ZdD,Zc9,ZdP,Zdi,Zp,ZI,ZK,ZJ,ZH,ZL,h1,h3,e1,e2,he,hp,hq,hz]
    ·simp -implicitDefEqProofs only [EQA,Zn,Zi,Zm,Zk,Zj,Zl,Zz,ZG,ZC,Zy,ZE,ZF,ZA,ZB,ZD,implies_true,forall_const,Xh,Xi,Xl,Xe,Xf,Xj,Xk,Zv,Zx,unA,Zt,Zu,unG,reduceCtorEq,Zr,decide_eq_true_eq,Xd,Xb,ite_self,↓reduceIte,Zs,Zw,gcT,gcA,Zq,Zd,Zc,Ze,Zh,Zb,Zg,Zf,Zo,Xc,ZdE,Zdh,ZdG,ZdD,Zc9,ZdP,Zdi,Zp,ZI,ZK,ZJ,ZH,ZL,h1,h3,e1,e2,he,hp,hq,hz]
     exact ih
   ·simp -implicitDefEqProofs only [EQA,Zn,Zi,Zm,Zk,Zj,Zl,Zz,ZG,ZC,Zy,ZE,ZF,ZA,ZB,ZD,implies_true,forall_const,Xh,Xi,Xl,Xe,Xf,Xj,Xk,Zv,Zx,unA,Zt,Zu,unG,reduceCtorEq,Zr,decide_eq_true_eq,Xd,Xb,ite_self,↓reduceIte,Zs,Zw,gcT,gcA,Zq,Zd,Zc,Ze,Zh,Zb,Zg,Zf,Zo,Xc,ZdE,Zdh,ZdG,ZdD,Zc9,ZdP,Zdi,Zp,ZI,ZK,ZJ,ZH,ZL,h1,h3,e1,e2,he,hp,hq]
    exact ih
  ·simp -implicitDefEqProofs only [EQA,Zn,Zi,Zm,Zk,Zj,Zl,Zz,ZG,ZC,Zy,ZE,ZF,ZA,ZB,ZD,implies_true,forall_const,Xh,Xi,Xl,Xe,Xf,Xj,Xk,Zv,Zx,unA,Zt,Zu,unG,reduceCtorEq,Zr,decide_eq_true_eq,Xd,Xb,ite_self,↓reduceIte,Zs,Zw,gcT,gcA,Zq,Zd,Zc,Ze,Zh,Zb,Zg,Zf,Zo,Xc,ZdE,Zdh,ZdG,ZdD,Zc9,ZdP,Zdi,Zp,ZI,ZK,ZJ,ZH,ZL,h1,h3,e1,e2,he,hp]
theorem ZsY {s:List UInt8} (h:ZdJ s=true):∃ b t,s=b::t:=by
 cases s with
 | nil=>simp [ZdJ,Zcy] at h
 | cons b t=>exact ⟨b,t,rfl⟩
theorem Zs8 {s:List UInt8} (h:ZdJ s=true):s.length<=64:=by
 simp only [ZdJ,XE] at h;exact ZeT h.1
theorem Znl (x:List UInt8) (r:List (List UInt8)) (σ:Za) (kk:IntKind):ZbN σ 1 (.lst false ((x::r).map AVal.str)) (.int kk 0)=some (.iptr [.str x] 0,σ,{}):=by
 exact iad (l:=x::r) (i:=0) (x:=x) rfl AVal.str (k:=1) rfl σ false kk
theorem ZCf (f s:List UInt8) (hf:f.length*16<=140737488355328 - 64):E 32 [.str f,.str s] []=some (.bool (Zbg f s),[]):=by
 have hCf:=fun σ sq own view=>ZtC σ sq own view f hf
 have hLf:=fun σ sq own view=>ZoZ σ sq own view f (by omega)
 rw [ZaJ (by rfl) ZJ6]
 unfold Zbg
 cases h1:Zdu f
 ·simp -implicitDefEqProofs only [EQA,Zn,Zi,Zm,Zk,Zj,Zl,Zz,ZG,ZC,Zy,ZE,ZF,ZA,ZB,ZD,implies_true,forall_const,Xh,Xi,Xl,Xe,Xf,Xj,Xk,Zv,Zx,unA,Zt,Zu,unG,reduceCtorEq,Zr,decide_eq_true_eq,Xd,Xb,ite_self,↓reduceIte,Zs,Zw,gcT,gcA,Zq,Zd,Zc,Ze,Zh,Zb,Zg,Zf,Zo,Xc,ZdE,Zdh,ZdG,ZdD,Zc9,ZdP,Zdi,Zp,ZI,ZK,ZJ,ZH,ZL,hCf,h1]
 cases h2:ZdJ s
 ·simp -implicitDefEqProofs only [EQA,Zn,Zi,Zm,Zk,Zj,Zl,Zz,ZG,ZC,Zy,ZE,ZF,ZA,ZB,ZD,implies_true,forall_const,Xh,Xi,Xl,Xe,Xf,Xj,Xk,Zv,Zx,unA,Zt,Zu,unG,reduceCtorEq,Zr,decide_eq_true_eq,Xd,Xb,ite_self,↓reduceIte,Zs,Zw,gcT,gcA,Zq,Zd,Zc,Ze,Zh,Zb,Zg,Zf,Zo,Xc,ZdE,Zdh,ZdG,ZdD,Zc9,ZdP,Zdi,Zp,ZI,ZK,ZJ,ZH,ZL,hCf,h1,ZiG,h2]
 have hl:=Zs8 h2
 have hLs:=fun σ sq own view=>ZoZ σ sq own view s (by omega)
 obtain ⟨b,t,rfl⟩:=ZsY h2
 have hlenf:=Zgu f
 have hlens:=Zgu (b::t)
 have hcf:=Xaa (a:=(47:UInt8)) (l:=f)
 have hcs:=Xaa (a:=(47:UInt8)) (l:=b::t)
 have key:=ZtN (Zau f) (Zau (b::t)) (by omega) (by omega) (Zau f) (Zau (b::t)) 0 rfl rfl (by omega) (by omega)
 obtain ⟨x0,r0,hx⟩:∃ x r,Zau f=x::r:=by
  cases h:Zau f with
  | nil=>exact absurd h (Zgi f)
  | cons x r=>exact ⟨x,r,rfl⟩
 rw [hx] at key hLf ⊢
 have hdol:((b.toNat:Int) == 36)=(b == 36):=by
  rw [XaE]
  simp only [beq_iff_eq,<-XaF]
  have : (36:UInt8).toNat=36:=rfl
  omega
 unfold ZiB at key
 have z0:((0:Nat):Int)=0:=rfl
 rw [z0] at key
 simp only [Xbk,ZnJ]
 generalize Zau (b::t)=S at *
 have hi0:=fun σ kk=>Znl x0 r0 σ kk
 simp only [XS,Xr] at key hLf hi0
 cases h3:(b == 36)
 ·simp -implicitDefEqProofs only [EQA,Zn,Zi,Zm,Zk,Zj,Zl,Zz,ZG,ZC,Zy,ZE,ZF,ZA,ZB,ZD,implies_true,forall_const,Xh,Xi,Xl,Xe,Xf,Xj,Xk,Zv,Zx,unA,Zt,Zu,unG,reduceCtorEq,Zr,decide_eq_true_eq,Xd,Xb,ite_self,↓reduceIte,Zs,Zw,gcT,gcA,Zq,Zd,Zc,Ze,Zh,Zb,Zg,Zf,Zo,Xc,ZdE,Zdh,ZdG,ZdD,Zc9,ZdP,Zdi,Zp,ZI,ZK,ZJ,ZH,ZL,hCf,h1,ZiG,h2,hLf,hLs,hdol,h3,ZaP,WB,WQ,hi0]
  exact key
 ·cases h4:(x0 == [43])
  ·cases h5:(x0 == [35])
   ·simp -implicitDefEqProofs only [EQA,Zn,Zi,Zm,Zk,Zj,Zl,Zz,ZG,ZC,Zy,ZE,ZF,ZA,ZB,ZD,implies_true,forall_const,Xh,Xi,Xl,Xe,Xf,Xj,Xk,Zv,Zx,unA,Zt,Zu,unG,reduceCtorEq,Zr,decide_eq_true_eq,Xd,Xb,ite_self,↓reduceIte,Zs,Zw,gcT,gcA,Zq,Zd,Zc,Ze,Zh,Zb,Zg,Zf,Zo,Xc,ZdE,Zdh,ZdG,ZdD,Zc9,ZdP,Zdi,Zp,ZI,ZK,ZJ,ZH,ZL,hCf,h1,ZiG,h2,hLf,hLs,hdol,h3,h4,h5,ZaP,WB,WQ,hi0]
    exact key
   ·simp -implicitDefEqProofs only [EQA,Zn,Zi,Zm,Zk,Zj,Zl,Zz,ZG,ZC,Zy,ZE,ZF,ZA,ZB,ZD,implies_true,forall_const,Xh,Xi,Xl,Xe,Xf,Xj,Xk,Zv,Zx,unA,Zt,Zu,unG,reduceCtorEq,Zr,decide_eq_true_eq,Xd,Xb,ite_self,↓reduceIte,Zs,Zw,gcT,gcA,Zq,Zd,Zc,Ze,Zh,Zb,Zg,Zf,Zo,Xc,ZdE,Zdh,ZdG,ZdD,Zc9,ZdP,Zdi,Zp,ZI,ZK,ZJ,ZH,ZL,hCf,h1,ZiG,h2,hLf,hLs,hdol,h3,h4,h5,ZaP,WB,WQ,hi0]
  ·simp -implicitDefEqProofs only [EQA,Zn,Zi,Zm,Zk,Zj,Zl,Zz,ZG,ZC,Zy,ZE,ZF,ZA,ZB,ZD,implies_true,forall_const,Xh,Xi,Xl,Xe,Xf,Xj,Xk,Zv,Zx,unA,Zt,Zu,unG,reduceCtorEq,Zr,decide_eq_true_eq,Xd,Xb,ite_self,↓reduceIte,Zs,Zw,gcT,gcA,Zq,Zd,Zc,Ze,Zh,Zb,Zg,Zf,Zo,Xc,ZdE,Zdh,ZdG,ZdD,Zc9,ZdP,Zdi,Zp,ZI,ZK,ZJ,ZH,ZL,hCf,h1,ZiG,h2,hLf,hLs,hdol,h3,h4,ZaP,WB,WQ,hi0]
theorem ZAx (σ:Za) (sq own:Nat) (view:Bool) (f s:List UInt8) (hf:f.length*16<=140737488355328 - 64):ZQ E BY σ sq 32 own view [.str f,.str s]=some (.bool (Zbg f s),σ,{}) :=
 Za5 (ZCf f s hf) (by kernel_rfl) (by simp -implicitDefEqProofs only [Zam,Zao,Zn,Zi,Zm,Zaq,Zk,Zj,Zap,Zl,eq_self,implies_true,Xq,Zp,ZI,ZK,ZJ,ZH,Zp]) (by simp -implicitDefEqProofs only [Zam,Zao,Zn,Zi,Zm,Zaq,Zk,Zj,Zap,Zl,eq_self,implies_true,Xq,Zp,ZI,ZK,ZJ,ZH,Zp]) rfl (fun _=>rfl) _ _ _ _
theorem Zsv (F S:List (List UInt8)) (hF:F.length<=9223372036854775807) (hS:S.length<=9223372036854775807):∀ (r n:List (List UInt8)) (i:Nat),F.drop i=r->S.drop i=n->i<=F.length->i<=S.length ->
  ZjU 0 [(7,.int .i64 i),(6,.lst false (S.map AVal.str)),(5,.lst false (F.map AVal.str))] []=some (.bool (Zc1 r n),[])
 | [],n,i,h,hn,hi,hi'=>by
  have h1:=ZbF h
  have he:(((F.length:Int)) == ((S.length:Int)))=n.isEmpty:=by
   have hfi:F.length=i:=by have:=Wl.1 h;omega
   have h2:=congrArg Xa8 hn
   simp only [WJ] at h2
   cases n with
   | nil=>simp at h2 ⊢;omega
   | cons y n=>simp at h2 ⊢;omega
  unfold ZjU
  rw [ZY]
  simp -implicitDefEqProofs only [EQA,Zn,Zi,Zm,Zk,Zj,Zl,Zz,ZG,ZC,Zy,ZE,ZF,ZA,ZB,ZD,implies_true,forall_const,Xh,Xi,Xl,Xe,Xf,Xj,Xk,Zv,Zx,unA,Zt,Zu,unG,reduceCtorEq,Zr,decide_eq_true_eq,Xd,Xb,ite_self,↓reduceIte,Zs,Zw,gcT,gcA,Zq,Zd,Zc,Ze,Zh,Zb,Zg,Zf,Zo,Xc,Zdv,ZcX,Zdl,Zdz,ZcZ,Zdk,ZcW,Zp,ZI,ZK,ZJ,ZH,ZL,h1,he]
  rfl
 | x::r,[],i,h,hn,hi,hi'=>by
  have hlt:=(ZaC h).2.2
  have h1:(i:Int) < F.length:=by omega
  have e1:=iad (ZaC h).1 AVal.str (k:=1) rfl
  have he:(i:Int)>=((S.length:Int)):=by have:=Wl.1 hn;omega
  have he':((S.length:Int))>=(i:Int):=by omega
  unfold ZjU
  rw [ZY]
  cases hp:(x == [35])
  ·have ee:Zc1 (x::r) []=false:=by simp [Zc1,hp]
   rw [ee]
   simp -implicitDefEqProofs only [EQA,Zn,Zi,Zm,Zk,Zj,Zl,Zz,ZG,ZC,Zy,ZE,ZF,ZA,ZB,ZD,implies_true,forall_const,Xh,Xi,Xl,Xe,Xf,Xj,Xk,Zv,Zx,unA,Zt,Zu,unG,reduceCtorEq,Zr,decide_eq_true_eq,Xd,Xb,ite_self,↓reduceIte,Zs,Zw,gcT,gcA,Zq,Zd,Zc,Ze,Zh,Zb,Zg,Zf,Zo,Xc,Zdv,ZcX,Zdl,Zdz,ZcZ,Zdk,ZcW,Zp,ZI,ZK,ZJ,ZH,ZL,h1,e1,he,he',hp]
  ·have ee:Zc1 (x::r) []=true:=by simp [Zc1,hp]
   rw [ee]
   simp -implicitDefEqProofs only [EQA,Zn,Zi,Zm,Zk,Zj,Zl,Zz,ZG,ZC,Zy,ZE,ZF,ZA,ZB,ZD,implies_true,forall_const,Xh,Xi,Xl,Xe,Xf,Xj,Xk,Zv,Zx,unA,Zt,Zu,unG,reduceCtorEq,Zr,decide_eq_true_eq,Xd,Xb,ite_self,↓reduceIte,Zs,Zw,gcT,gcA,Zq,Zd,Zc,Ze,Zh,Zb,Zg,Zf,Zo,Xc,Zdv,ZcX,Zdl,Zdz,ZcZ,Zdk,ZcW,Zp,ZI,ZK,ZJ,ZH,ZL,h1,e1,he,he',hp]
 | x::r,y::n,i,h,hn,hi,hi'=>by
  have hlt:=(ZaC h).2.2
  have hlt':=(ZaC hn).2.2
  have ih:=Zsv F S hF hS r n (i+1) (ZaC h).2.1 (ZaC hn).2.1 (by omega) (by omega)
  have h1:(i:Int) < F.length:=by omega
  have h3:=Zbh h1 hF
  have e1:=iad (ZaC h).1 AVal.str (k:=1) rfl
  have e2:=iad (ZaC hn).1 AVal.str (k:=1) rfl
  have he:¬(i:Int)>=((S.length:Int)):=by omega
  have he':((S.length:Int))>=(i:Int):=by omega
  have ee:Zc1 (x::r) (y::n)=(x == [35] || ((x == [43] || x == y) && Zc1 r n)):=rfl
  rw [ee]
  unfold ZjU at ih ⊢
  rw [ZY]
  cases hp:(x == [35])
  ·cases hq:(x == [43])
   ·cases hz:(x == y)
    ·simp -implicitDefEqProofs only [EQA,Zn,Zi,Zm,Zk,Zj,Zl,Zz,ZG,ZC,Zy,ZE,ZF,ZA,ZB,ZD,implies_true,forall_const,Xh,Xi,Xl,Xe,Xf,Xj,Xk,Zv,Zx,unA,Zt,Zu,unG,reduceCtorEq,Zr,decide_eq_true_eq,Xd,Xb,ite_self,↓reduceIte,Zs,Zw,gcT,gcA,Zq,Zd,Zc,Ze,Zh,Zb,Zg,Zf,Zo,Xc,Zdv,ZcX,Zdl,Zdz,ZcZ,Zdk,ZcW,Zp,ZI,ZK,ZJ,ZH,ZL,h1,h3,e1,e2,he,he',hp,hq,hz]
    ·simp -implicitDefEqProofs only [EQA,Zn,Zi,Zm,Zk,Zj,Zl,Zz,ZG,ZC,Zy,ZE,ZF,ZA,ZB,ZD,implies_true,forall_const,Xh,Xi,Xl,Xe,Xf,Xj,Xk,Zv,Zx,unA,Zt,Zu,unG,reduceCtorEq,Zr,decide_eq_true_eq,Xd,Xb,ite_self,↓reduceIte,Zs,Zw,gcT,gcA,Zq,Zd,Zc,Ze,Zh,Zb,Zg,Zf,Zo,Xc,Zdv,ZcX,Zdl,Zdz,ZcZ,Zdk,ZcW,Zp,ZI,ZK,ZJ,ZH,ZL,h1,h3,e1,e2,he,he',hp,hq,hz]
     exact ih
   ·simp -implicitDefEqProofs only [EQA,Zn,Zi,Zm,Zk,Zj,Zl,Zz,ZG,ZC,Zy,ZE,ZF,ZA,ZB,ZD,implies_true,forall_const,Xh,Xi,Xl,Xe,Xf,Xj,Xk,Zv,Zx,unA,Zt,Zu,unG,reduceCtorEq,Zr,decide_eq_true_eq,Xd,Xb,ite_self,↓reduceIte,Zs,Zw,gcT,gcA,Zq,Zd,Zc,Ze,Zh,Zb,Zg,Zf,Zo,Xc,Zdv,ZcX,Zdl,Zdz,ZcZ,Zdk,ZcW,Zp,ZI,ZK,ZJ,ZH,ZL,h1,h3,e1,e2,he,he',hp,hq]
    exact ih
  ·simp -implicitDefEqProofs only [EQA,Zn,Zi,Zm,Zk,Zj,Zl,Zz,ZG,ZC,Zy,ZE,ZF,ZA,ZB,ZD,implies_true,forall_const,Xh,Xi,Xl,Xe,Xf,Xj,Xk,Zv,Zx,unA,Zt,Zu,unG,reduceCtorEq,Zr,decide_eq_true_eq,Xd,Xb,ite_self,↓reduceIte,Zs,Zw,gcT,gcA,Zq,Zd,Zc,Ze,Zh,Zb,Zg,Zf,Zo,Xc,Zdv,ZcX,Zdl,Zdz,ZcZ,Zdk,ZcW,Zp,ZI,ZK,ZJ,ZH,ZL,h1,h3,e1,e2,he,he',hp]
theorem ZHL {s:List UInt8} (h:Zdu s=true):s.length<=64:=by
 simp only [Zdu,XE] at h;exact ZeT h.2
theorem ZLF (f s:List UInt8):E 33 [.str f,.str s] []=some (.bool (Zbg f s),[]):=by
 rw [ZaJ (by rfl) ZCT]
 unfold Zbg
 cases h1:Zdu f
 ·simp -implicitDefEqProofs only [EQA,Zn,Zi,Zm,Zk,Zj,Zl,Zz,ZG,ZC,Zy,ZE,ZF,ZA,ZB,ZD,implies_true,forall_const,Xh,Xi,Xl,Xe,Xf,Xj,Xk,Zv,Zx,unA,Zt,Zu,unG,reduceCtorEq,Zr,decide_eq_true_eq,Xd,Xb,ite_self,↓reduceIte,Zs,Zw,gcT,gcA,Zq,Zd,Zc,Ze,Zh,Zb,Zg,Zf,Zo,Xc,Zdv,ZcX,Zdl,Zdz,ZcZ,Zdk,ZcW,Zp,ZI,ZK,ZJ,ZH,ZL,Zfk,h1]
 cases h2:ZdJ s
 ·simp -implicitDefEqProofs only [EQA,Zn,Zi,Zm,Zk,Zj,Zl,Zz,ZG,ZC,Zy,ZE,ZF,ZA,ZB,ZD,implies_true,forall_const,Xh,Xi,Xl,Xe,Xf,Xj,Xk,Zv,Zx,unA,Zt,Zu,unG,reduceCtorEq,Zr,decide_eq_true_eq,Xd,Xb,ite_self,↓reduceIte,Zs,Zw,gcT,gcA,Zq,Zd,Zc,Ze,Zh,Zb,Zg,Zf,Zo,Xc,Zdv,ZcX,Zdl,Zdz,ZcZ,Zdk,ZcW,Zp,ZI,ZK,ZJ,ZH,ZL,Zfk,h1,Zir,h2]
 have hlf:=ZHL h1
 have hLf:=fun σ sq own=>ZlK σ sq own f (by omega)
 have hl:=Zs8 h2
 have hLs:=fun σ sq own=>ZlK σ sq own s (by omega)
 obtain ⟨b,t,rfl⟩:=ZsY h2
 have hlenf:=Zgu f
 have hlens:=Zgu (b::t)
 have hcf:=Xaa (a:=(47:UInt8)) (l:=f)
 have hcs:=Xaa (a:=(47:UInt8)) (l:=b::t)
 have key:=Zsv (Zau f) (Zau (b::t)) (by omega) (by omega) (Zau f) (Zau (b::t)) 0 rfl rfl (by omega) (by omega)
 obtain ⟨x0,r0,hx⟩:∃ x r,Zau f=x::r:=by
  cases h:Zau f with
  | nil=>exact absurd h (Zgi f)
  | cons x r=>exact ⟨x,r,rfl⟩
 rw [hx] at key hLf ⊢
 have hdol:((b.toNat:Int) == 36)=(b == 36):=by
  rw [XaE]
  simp only [beq_iff_eq,<-XaF]
  have : (36:UInt8).toNat=36:=rfl
  omega
 unfold ZjU at key
 have z0:((0:Nat):Int)=0:=rfl
 rw [z0] at key
 simp only [Xbk,ZnJ]
 generalize Zau (b::t)=S at *
 have hi0:=fun σ kk=>Znl x0 r0 σ kk
 simp only [XS,Xr] at key hLf hi0
 cases h4:(x0 == [43])
 ·cases h5:(x0 == [35])
  ·simp -implicitDefEqProofs only [EQA,Zn,Zi,Zm,Zk,Zj,Zl,Zz,ZG,ZC,Zy,ZE,ZF,ZA,ZB,ZD,implies_true,forall_const,Xh,Xi,Xl,Xe,Xf,Xj,Xk,Zv,Zx,unA,Zt,Zu,unG,reduceCtorEq,Zr,decide_eq_true_eq,Xd,Xb,ite_self,↓reduceIte,Zs,Zw,gcT,gcA,Zq,Zd,Zc,Ze,Zh,Zb,Zg,Zf,Zo,Xc,Zdv,ZcX,Zdl,Zdz,ZcZ,Zdk,ZcW,Zp,ZI,ZK,ZJ,ZH,ZL,Zfk,h1,Zir,h2,hLf,hLs,h4,h5,hi0]
   exact key
  ·cases h3:(b == 36)
   ·simp -implicitDefEqProofs only [EQA,Zn,Zi,Zm,Zk,Zj,Zl,Zz,ZG,ZC,Zy,ZE,ZF,ZA,ZB,ZD,implies_true,forall_const,Xh,Xi,Xl,Xe,Xf,Xj,Xk,Zv,Zx,unA,Zt,Zu,unG,reduceCtorEq,Zr,decide_eq_true_eq,Xd,Xb,ite_self,↓reduceIte,Zs,Zw,gcT,gcA,Zq,Zd,Zc,Ze,Zh,Zb,Zg,Zf,Zo,Xc,Zdv,ZcX,Zdl,Zdz,ZcZ,Zdk,ZcW,Zp,ZI,ZK,ZJ,ZH,ZL,Zfk,h1,Zir,h2,hLf,hLs,hdol,h3,h4,h5,ZaP,WB,WQ,hi0]
    exact key
   ·simp -implicitDefEqProofs only [EQA,Zn,Zi,Zm,Zk,Zj,Zl,Zz,ZG,ZC,Zy,ZE,ZF,ZA,ZB,ZD,implies_true,forall_const,Xh,Xi,Xl,Xe,Xf,Xj,Xk,Zv,Zx,unA,Zt,Zu,unG,reduceCtorEq,Zr,decide_eq_true_eq,Xd,Xb,ite_self,↓reduceIte,Zs,Zw,gcT,gcA,Zq,Zd,Zc,Ze,Zh,Zb,Zg,Zf,Zo,Xc,Zdv,ZcX,Zdl,Zdz,ZcZ,Zdk,ZcW,Zp,ZI,ZK,ZJ,ZH,ZL,Zfk,h1,Zir,h2,hLf,hLs,hdol,h3,h4,h5,ZaP,WB,WQ,hi0]
 ·cases h3:(b == 36)
  ·simp -implicitDefEqProofs only [EQA,Zn,Zi,Zm,Zk,Zj,Zl,Zz,ZG,ZC,Zy,ZE,ZF,ZA,ZB,ZD,implies_true,forall_const,Xh,Xi,Xl,Xe,Xf,Xj,Xk,Zv,Zx,unA,Zt,Zu,unG,reduceCtorEq,Zr,decide_eq_true_eq,Xd,Xb,ite_self,↓reduceIte,Zs,Zw,gcT,gcA,Zq,Zd,Zc,Ze,Zh,Zb,Zg,Zf,Zo,Xc,Zdv,ZcX,Zdl,Zdz,ZcZ,Zdk,ZcW,Zp,ZI,ZK,ZJ,ZH,ZL,Zfk,h1,Zir,h2,hLf,hLs,hdol,h3,h4,ZaP,WB,WQ,hi0]
   exact key
  ·simp -implicitDefEqProofs only [EQA,Zn,Zi,Zm,Zk,Zj,Zl,Zz,ZG,ZC,Zy,ZE,ZF,ZA,ZB,ZD,implies_true,forall_const,Xh,Xi,Xl,Xe,Xf,Xj,Xk,Zv,Zx,unA,Zt,Zu,unG,reduceCtorEq,Zr,decide_eq_true_eq,Xd,Xb,ite_self,↓reduceIte,Zs,Zw,gcT,gcA,Zq,Zd,Zc,Ze,Zh,Zb,Zg,Zf,Zo,Xc,Zdv,ZcX,Zdl,Zdz,ZcZ,Zdk,ZcW,Zp,ZI,ZK,ZJ,ZH,ZL,Zfk,h1,Zir,h2,hLf,hLs,hdol,h3,h4,ZaP,WB,WQ,hi0]
theorem ZDB (σ:Za) (sq own:Nat) (view:Bool) (f s:List UInt8):ZQ E BY σ sq 33 own view [.str f,.str s]=some (.bool (Zbg f s),σ,{}) :=
 Za5 (ZLF f s) (by kernel_rfl) (by simp -implicitDefEqProofs only [Zam,Zao,Zn,Zi,Zm,Zaq,Zk,Zj,Zap,Zl,eq_self,implies_true,Xq,Zp,ZI,ZK,ZJ,ZH,Zp]) (by simp -implicitDefEqProofs only [Zam,Zao,Zn,Zi,Zm,Zaq,Zk,Zj,Zap,Zl,eq_self,implies_true,Xq,Zp,ZI,ZK,ZJ,ZH,Zp]) rfl (fun _=>rfl) _ _ _ _
end
end Go.Proofs.YtlekmfmkkcpbcaaDoor
