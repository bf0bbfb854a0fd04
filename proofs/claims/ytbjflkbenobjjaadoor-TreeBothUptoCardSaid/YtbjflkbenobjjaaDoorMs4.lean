/- packed -/
import Derived.Test.YtbjflkbenobjjaaDoorMs3
import Derived.Lib.TrimUEq
import Derived.Lib.MapLaws
import Derived.Lib.ValidLaws
import Derived.Sort.Walk0
set_option linter.defProp false
set_option linter.unusedSectionVars false
set_option linter.unusedSimpArgs false
set_option linter.unusedVariables false
open Option.some renaming injEq→Xa
open Prod.mk renaming injEq→Xb
open List renaming getElem?_eq_some_iff→Xc,getD_eq_getElem?_getD→Xd,getElem?_set→Xj,getElem?_eq_getElem→Xm,mem_map→Xq,nil_append→Xr,getElem?_set_ne→Xs,mem_cons→Xv,length_append→Xx,replicate→Xy,map_cons→XA,cons_append→XC,length_cons→XD,append_nil→XE,flatMap_cons→XG,getElem?_set_self→XJ,getD_cons_zero→XK,contains_cons→XL,getElem?_map→XN,length_nil→XT,range_succ→XU,map_map→XY,all_cons→X3,contains_nil→X4,getD_cons_succ→X6,mem_cons_of_mem→X7,map_nil→X9,getElem?_append_left→Wa,take_of_length_le→Wi,length_map→Wj,drop_eq_nil_iff→Wl,range→Wm,flatMap_nil→Wp,length_set→Wq,getElem?_append_right→Ws,length_singleton→Wv,all_nil→Ww,length_drop→WO,append_assoc→W0,map_congr_left→W3,set_cons_zero→W7,isEmpty_nil→Xab,count_le_length→Xad,set_cons_succ→Xaj,isEmpty_cons→Xat,headD_cons→Xau,pairwise_map→XaP,replicate_succ→XaV,drop_drop→Xa9,range_zero→Xbp,lookup_nil→Xbr,count_cons→XbG,length→XbK,sum_cons→XbM
open Nat renaming reduceEqDiff→Xe,reduceLT→Xg,reduceLeDiff→Xo,reduceAdd→Xt,zero_add→Xw,reduceBEq→Xz,le_refl→XI,sub_self→Xaf,zero_le→Xao,le_add_right→Xbh,not_lt_zero→Xbq
open Bool renaming false_eq_true→Xf,and_eq_true→Xh,and_self→Wh,eq_iff_iff→WX,not_false→Xaq,false_and→XaD,or_self→XaM,and_false→Xbv
open Option renaming map_eq_some_iff→Xi,map→WY
open Or renaming inl→Xk,inr→Xp
open Int renaming toNat_natCast→W4,le_refl→Xay,toNat_zero→XaE
open Quot renaming mk→W8,exists_rep→Xa5,sound→XbQ
open List.Perm renaming refl→Xag
open UInt8 renaming toNat_inj→XaL
namespace Go.Proofs.YtbjflkbenobjjaaDoor
set_option maxHeartbeats 16000000
set_option maxRecDepth 10000
section
def Zp5:=(aI (aI (aI (aI (aI (aI @ZCY @ZDf) (aI @ZBb @ZE3)) (aI (aI @Zqg @ZxH) (aI @ZBX @ZIM))) (aI (aI (aI @Zp0 @ZjA) (aI @ZDe @Zk0)) (aI (aI @ZCl @ZCi) (aI @Zv3 @Zup)))) (aI (aI (aI (aI @ZBM @ZDc) (aI @Zxr @ZHV)) (aI (aI @ZAK @ZBe) (aI @ZyJ @ZyI))) (aI (aI (aI @ZCJ @ZuW) (aI @ZBr @ZEx)) (aI (aI @Zy0 @Zu1) (aI @Zt9 @ZzS))))) (aI (aI (aI (aI (aI @ZyQ @ZwE) (aI @Zur @Zw2)) (aI (aI @ZB4 @ZFx) (aI @Zzn @Zx1))) (aI (aI (aI @ZBs @Zut) (aI @ZD4 @Zul)) (aI (aI @Zqz @ZlF) (aI @Zs8 @ZIt)))) (aI (aI (aI (aI @ZGo @ZFZ) (aI @Zx7 @ZBp)) (aI (aI @ZuG @ZmM) (aI @ZAi @ZBR))) (aI (aI (aI @ZFs @ZGc) (aI @ZFo @ZHa)) (aI (aI @Zu2 @Zsj) (aI @ZDo @ZzO))))))
def Zoi:=(aI (aI (aI (aI (aI (aI @ZBD @ZtR) (aI @ZAJ @Zuh)) (aI (aI @ZAC @Zuq) (aI @ZGn @ZwB))) (aI (aI (aI @ZFW @ZJi) (aI @ZFA @ZnB)) (aI (aI @Zuw @ZGq) (aI @ZBF @Zv0)))) (aI (aI (aI (aI @ZxQ @ZvC) (aI @ZF9 @ZBK)) (aI (aI @ZmZ @ZHH) (aI @ZF5 @ZB3))) (aI (aI (aI @Zsk @ZDU) (aI @ZCe @ZFU)) (aI (aI @ZHX @Zuy) (aI @ZIr @ZBa))))) (aI (aI (aI (aI (aI @ZHs @ZHW) (aI @ZAN @ZEo)) (aI (aI @ZG1 @ZDJ) (aI @ZwW @ZHS))) (aI (aI (aI @ZuX @ZEz) (aI @ZDr @Zzm)) (aI (aI @ZvS @ZGA) (aI @Zu7 @ZzY)))) (aI (aI (aI (aI @ZzN @ZAp) (aI @Zyc @Zv7)) (aI (aI @ZC5 @ZvB) (aI @Zxh @Zy7))) (aI (aI (aI @ZyV @Zw8) (aI @ZBu @ZCL)) (aI (aI @Zvn @ZxC) (aI @ZHl @Zs5))))))
def ZiO:=(aI (aI (aI (aI (aI (aI @ZAx @ZEm) (aI @ZDM @ZBT)) (aI (aI @Zzo @ZAQ) (aI @ZzZ @ZHy))) (aI (aI (aI @Ztb @Zz3) (aI @ZyS @ZwQ)) (aI (aI @ZF6 @ZJj) (aI @ZuL @ZDO)))) (aI (aI (aI (aI @ZAs @ZzC) (aI @Zxx @ZIk)) (aI (aI @Zve @Zy9) (aI @Zye @ZIK))) (aI (aI (aI @ZvP @ZCQ) (aI @ZET @ZHB)) (aI (aI @ZGy @Zzp) (aI @ZFX @ZCF))))) (aI (aI (aI (aI (aI @ZHJ @ZFF) (aI @Ztq @Zv9)) (aI (aI @Zzq @ZF7) (aI @ZsC @Zx5))) (aI (aI (aI @Zz8 @ZEP) (aI @ZxK @Zvz)) (aI (aI @ZDs @Ztl) (aI @ZDn @ZD0)))) (aI (aI (aI (aI @ZGI @ZD3) (aI @ZsI @ZyK)) (aI (aI @Zxs @ZIi) (aI @ZA7 @ZD6))) (aI (aI (aI @Zun @ZFC) (aI @ZAH @ZsF)) (aI (aI @ZFE @ZFR) (aI @ZDk @ZwX))))))
def ZbO:=(aI (aI (aI (aI (aI (aI @ZyR @ZGt) (aI @ZGV @ZGv)) (aI (aI @ZvD @ZB6) (aI @ZGs @ZGh))) (aI (aI (aI @Ztv @ZsN) (aI @Zsn @ZEq)) (aI (aI @ZvM @Zwf) (aI @Zy4 @ZIp)))) (aI (aI (aI (aI @ZFK @ZBC) (aI @ZAa @ZEV)) (aI (aI @ZuZ @Zva) (aI @Zz2 @Zvc))) (aI (aI (aI @ZDW @ZtT) (aI @ZC6 @ZHf)) (aI (aI @ZAU @ZEu) (aI @ZEf @ZGF))))) (aI (aI (aI (aI (aI @Zx0 @ZIP) (aI @ZsD @ZCg)) (aI (aI @ZIs @ZId) (aI @Zw7 @ZtY))) (aI (aI (aI @ZIS @ZDH) (aI @ZyU @ZAb)) (aI (aI @ZyX @Zv6) (aI @ZvU @ZCx)))) (aI (aI (aI (aI @ZHk @ZHN) (aI @Zud @ZGx)) (aI (aI @Zt3 @Zum) (aI @ZG8 @ZAS))) (aI (aI (aI @Zvp @ZHD) (aI @ZCa @ZAO)) (aI (aI @ZGj @ZDy) (aI @ZxO @ZuM))))))
def Zau:=(aI (aI (aI (aI (aI (aI @ZIQ @ZIO) (aI @ZDL @ZHp)) (aI (aI @ZvY @ZGG) (aI @ZJb @ZvV))) (aI (aI (aI @ZHx @Zz4) (aI @ZB2 @ZwL)) (aI (aI @Zxj @ZAg) (aI @ZCO @ZvA)))) (aI (aI (aI (aI @ZCv @ZxV) (aI @ZFN @ZAL)) (aI (aI @ZtE @ZyD) (aI @ZFe @Zt2))) (aI (aI (aI @ZyL @Zxw) (aI @Zs6 @Zyk)) (aI (aI @Zyi @ZzL) (aI @ZGr @Zu8))))) (aI (aI (aI (aI (aI @ZDX @ZHF) (aI @ZEw @ZzJ)) (aI (aI @ZxY @ZGL) (aI @Zv5 @ZGa))) (aI (aI (aI @ZsV @Zyt) (aI @Zzc @ZHK)) (aI (aI @ZyA @Zze) (aI @ZuT @ZGw)))) (aI (aI (aI (aI @ZIY @Zv1) (aI @Zsr @Zyg)) (aI (aI @ZwD @Zvo) (aI @ZCd @Ztu))) (aI (aI (aI @ZFL @ZEA) (aI @ZtK @ZxF)) (aI (aI @ZsW @ZH9) (aI @ZGg @ZH3))))))
def Zb6:=(aI (aI (aI (aI (aI (aI @ZFV @ZBY) (aI @ZHE @ZJc)) (aI (aI @ZAc @Zyj) (aI @ZtW @ZEG))) (aI (aI (aI @Zxl @ZzE) (aI @ZH6 @ZHT)) (aI (aI @Zx4 @ZFD) (aI @ZES @ZxS)))) (aI (aI (aI (aI @ZGT @Zso) (aI @ZAZ @ZDF)) (aI (aI @Zxk @ZBl) (aI @ZFu @Zzr))) (aI (aI (aI @Zsu @Zsx) (aI @ZDb @ZAw)) (aI (aI @Zzk @ZDD) (aI @Zvi @ZEB))))) (aI (aI (aI (aI (aI @ZAV @ZzX) (aI @ZCp @Zw1)) (aI (aI @Zyr @ZIw) (aI @ZsT @ZxX))) (aI (aI (aI @ZEO @ZBo) (aI @ZAv @Zts)) (aI (aI @ZuR @ZHG) (aI @ZF4 @ZGz)))) (aI (aI (aI (aI @Zug @ZIx) (aI @ZBJ @Zte)) (aI (aI @ZEy @ZG9) (aI @ZCy @ZDw))) (aI (aI (aI @Zxf @ZFl) (aI @ZIa @ZuO)) (aI (aI @ZwV @ZI9) (aI @Zxz @ZGm))))))
def ZgW:=(aI (aI (aI (aI (aI (aI @Zzu @ZIh) (aI @ZD8 @ZE0)) (aI (aI @ZHi @ZHn) (aI @Zxm @ZtS))) (aI (aI (aI @Zue @Zwn) (aI @Zxg @ZIv)) (aI (aI @Zx6 @Zw4) (aI @Zs3 @ZFg)))) (aI (aI (aI (aI @ZAd @ZHR) (aI @ZCb @ZFk)) (aI (aI @Zwm @ZG3) (aI @ZCt @ZIA))) (aI (aI (aI @Zyh @ZGK) (aI @Zt8 @ZFt)) (aI (aI @Zzd @ZEa) (aI @Zub @ZCP))))) (aI (aI (aI (aI (aI @Zyw @ZH5) (aI @ZxP @ZwC)) (aI (aI @ZC9 @Zuk) (aI @ZGW @ZI6))) (aI (aI (aI @Zxt @ZA2) (aI @ZGE @ZzQ)) (aI (aI @ZBk @Zw6) (aI @ZEN @ZwK)))) (aI (aI (aI (aI @ZH2 @ZAP) (aI @Zti @ZzM)) (aI (aI @ZBV @ZCN) (aI @ZBW @ZIj))) (aI (aI (aI @ZFG @ZDz) (aI @ZyE @ZBj)) (aI (aI @ZA4 @ZEp) (aI @ZDu @ZDl))))))
def Za4:=(aI (aI (aI (aI (aI (aI @ZzB @ZCz) (aI @ZH1 @ZHI)) (aI (aI @ZEc @ZsX) (aI @ZFi @ZIE))) (aI (aI (aI @ZuK @ZtC) (aI @ZxU @ZwJ)) (aI (aI @ZG5 @ZGS) (aI @Zv4 @ZE6)))) (aI (aI (aI (aI @ZvL @ZwG) (aI @ZvI @ZIH)) (aI (aI @ZxJ @Zwa) (aI @ZCM @ZCC))) (aI (aI (aI @ZzK @ZFP) (aI @ZxE @ZJa)) (aI (aI @Zym @Zw0) (aI @ZsA @ZG2))))) (aI (aI (aI (aI (aI @ZsK @Zvx) (aI @ZzV @ZzF)) (aI (aI @ZC3 @ZIb) (aI @ZA0 @ZE2))) (aI (aI (aI @ZEC @Zyy) (aI @ZIq @ZAW)) (aI (aI @Zvf @ZBL) (aI @Zyp @ZzA)))) (aI (aI (aI (aI @ZsZ @ZBt) (aI @ZuJ @Zzf)) (aI (aI @ZF1 @Zx3) (aI @ZCm @Zzs))) (aI (aI (aI @Zxc @Zu9) (aI @ZIn @ZHm)) (aI (aI @ZtZ @ZvK) (aI @Zxo @ZDP))))))
def ZS:=(aI (aI (aI (aI (aI @Zwt @ZB8) (aI @ZI3 @ZE9)) (aI (aI @ZDt @Ztk) (aI @ZB5 (aI @ZBH @ZzG)))) (aI (aI (aI @ZyG @ZBh) (aI @ZF8 @ZBf)) (aI (aI @ZHv @Zyx) (aI @ZC4 (aI @ZGe @Zzj))))) (aI (aI (aI (aI @ZtF @ZsJ) (aI @ZzI @Zvt)) (aI (aI @ZIo @ZIR) (aI @ZuP (aI @ZDN @ZEn)))) (aI (aI (aI @ZD1 @Zv8) (aI @ZAm (aI @ZxI @ZBI))) (aI (aI @ZvR @ZIe) (aI @Zsy (aI @ZBQ @Zrx))))))
def ZK:=(aI (aI (aI (aI (aI (aI @List.map_cons.{0,0} @List.map_nil.{0,0}) (aI @List.length_cons.{0} @List.length_nil.{0})) (aI (aI @List.replicate_zero.{0} @List.replicate_succ.{0}) (aI @List.append_nil.{0} @List.nil_append.{0}))) (aI (aI (aI @List.cons_append.{0} @List.getElem?_cons_zero.{0}) (aI @List.getElem?_cons_succ.{0} @List.set_cons_zero.{0})) (aI (aI @List.set_cons_succ.{0} @Nat.add_zero) (aI @Nat.zero_add @Bool.true_or)))) (aI (aI (aI (aI @Bool.false_or @Bool.or_true) (aI @Bool.or_false @Bool.and_true)) (aI (aI @Bool.true_and @Bool.and_self) (aI @Bool.and_false @Bool.false_and))) (aI (aI (aI @if_true.{1} @if_false.{1}) (aI @ite_true.{1} @ite_false.{1})) (aI (aI @Option.map_some.{0,0} @Option.map_none.{0,0}) (aI @and_self @and_true))))) (aI (aI (aI (aI (aI @true_and @and_false) (aI @false_and @true_or)) (aI (aI @or_true @false_or) (aI @or_false @not_true_eq_false))) (aI (aI (aI @not_false_eq_true @List.drop_zero.{0}) (aI @List.drop_succ_cons.{0} @List.take_succ_cons.{0})) (aI (aI @List.take_zero.{0} @List.all_cons.{0}) (aI @List.all_nil.{0} @List.isEmpty_nil.{0})))) (aI (aI (aI (aI @Bool.not_false @Bool.not_true) (aI @List.length_map.{0,0} @Bool.bne_false)) (aI (aI @Bool.bne_true @List.isEmpty_cons.{0}) (aI @List.getD_cons_zero.{0} @List.getD_cons_succ.{0}))) (aI (aI (aI @List.getD_nil.{0} @List.contains_nil.{0}) (aI @List.range_zero @List.flatMap_cons.{0,0})) (aI (aI @List.flatMap_nil.{0,0} @List.zip_cons_cons.{0,0}) (aI @List.zip_nil_left.{0,0} @List.zip_nil_right.{0,0}))))))
def ZaX:=@Nat.not_lt_zero
def EQA := (aI (aI (aI (aI (aI (aI (aI Zp5 Zoi) (aI Zb6 ZK)) (aI (aI @exI.eq_1 @nsite.eq_1) (aI @nsite.eq_2 @nsite.eq_3))) (aI (aI (aI @nsite.eq_4 @nsite.eq_5) (aI @nsite.eq_6 @nsite.eq_7)) (aI (aI @nsite.eq_8 @nsite.eq_9) (aI @nsite.eq_10 (aI @nsite.eq_11 @nsite.eq_12))))) (aI (aI (aI (aI @nsite.eq_13 @nsite.eq_14) (aI @nsite.eq_15 @freeAt.eq_1)) (aI (aI @execI.eq_1 @execI.eq_2) (aI @execI.eq_3 (aI @execI.eq_4 @execI.eq_5)))) (aI (aI (aI @execI.eq_6 @execI.eq_7) (aI @execI.eq_8 @execI.eq_9)) (aI (aI @execI.eq_10 @execI.eq_11) (aI @execI.eq_12 (aI @execI.eq_13 @execI.eq_14)))))) (aI (aI (aI (aI (aI @execI.eq_15 @execI.eq_16) (aI @execI.eq_17 @execI.eq_18)) (aI (aI @execI.eq_19 @execI.eq_20) (aI @execI.eq_21 (aI @execI.eq_22 @execI.eq_23)))) (aI (aI (aI @execI.eq_24 @execI.eq_25) (aI @execI.eq_26 @execI.eq_27)) (aI (aI @execI.eq_28 @execI.eq_29) (aI @execI.eq_30 (aI @execI.eq_31 @execI.eq_32))))) (aI (aI (aI (aI @execI.eq_33 @execI.eq_34) (aI @execI.eq_35 @execI.eq_36)) (aI (aI @execI.eq_37 @execI.eq_38) (aI @execI.eq_39 (aI @execI.eq_40 @execI.eq_41)))) (aI (aI (aI @execI.eq_42 @execI.eq_43) (aI @execI.eq_44 @execI.eq_45)) (aI (aI @execI.eq_46 @execI.eq_47) (aI @execI.eq_48 (aI @execI.eq_49 @execI.eq_50))))))) (aI (aI (aI (aI (aI (aI @execI.eq_51 @execI.eq_52) (aI @execI.eq_53 @Opd.ev.eq_1)) (aI (aI @Opd.ev.eq_2 @tget.eq_1) (aI @tget.eq_2 (aI @tins.eq_1 @tins.eq_2)))) (aI (aI (aI @tput.eq_1 @tput.eq_2) (aI @keepL.eq_1 @sitesOf.eq_1)) (aI (aI @resA.eq_1 @resAll.eq_1) (aI @resAll.eq_2 (aI @resOne.eq_1 @resOne.eq_2))))) (aI (aI (aI (aI @enterA.eq_1 @enterA.eq_2) (aI @partA.eq_1 @partA.eq_2)) (aI (aI @faddrA.eq_1 @faddrA.eq_2) (aI @faddrA.eq_3 (aI @faddrA.eq_4 @setAt.eq_1)))) (aI (aI (aI @binA.eq_1 @binA.eq_2) (aI @binA.eq_3 @binA.eq_4)) (aI (aI @binA.eq_5 @arithA.eq_1) (aI @arithA.eq_2 (aI @arithA.eq_3 @arithA.eq_4)))))) (aI (aI (aI (aI (aI @arithA.eq_5 @arithA.eq_6) (aI @arithA.eq_7 @arithA.eq_8)) (aI (aI @arithA.eq_9 @arithA.eq_10) (aI @arithA.eq_11 (aI @arithA.eq_12 @arithA.eq_13)))) (aI (aI (aI @arithA.eq_14 @arithA.eq_15) (aI @arithA.eq_16 @ldA.eq_1)) (aI (aI @ldA.eq_2 @ldA.eq_3) (aI @ldA.eq_4 (aI @stA.eq_1 @stA.eq_2))))) (aI (aI (aI (aI @stA.eq_3 @oI.eq_1) (aI @oN.eq_1 @oM.eq_1)) (aI (aI @oF.eq_1 @oL.eq_1) (aI @List.sum_cons.{0} (aI @List.sum_nil.{0} @eq_self.{1})))) (aI (aI (aI @beq_self_eq_true.{0} @Bool.false_eq_true) (aI @Option.some.injEq.{0} @decide_true)) (aI (aI @decide_false @List.foldl_cons.{0, 0}) (aI @List.foldl_nil.{0, 0} (aI @List.contains_cons.{0} @ne_eq.{1}))))))))
end
section
theorem ZdG {O:Zz} {bf:Nat->Bool} {σ:Za} {sq f own:Nat} {view:Bool} {args vs vs':List AVal} {ids:List Nat} {h0 h:Za} {r0 r:AVal} (hb:bf f=false) (hsh:showAs σ args=some (vs,[])) (hre:Zj σ 1000 (Zu vs) []=ids) (hne:ids.isEmpty=false)
  (hall:(ids.all fun t=>okB (σ.getD t .free))=true) (hvs:Zp (Zd σ 0 ids) vs=vs') (hh:Zi σ 0 ids (Zd σ 0 ids) ids 0=h0) {hh0:Za} (hO:O f vs' h0=some (r0,hh0)) (hv:Z4 view ids.length (some (r0,hh0))=some (r,h))
  (hl1:h.length<=ids.length+own) (hl2:ids.length<=h.length) (hk:Z5 σ ids h 0=true) (hff:Zac σ sq own=true) {r':AVal} (hr:Ze (Zah σ ids sq) r=r') {σ':Za} (hlay:ZY σ ids sq h 0 σ=σ') {u:List (Nat×List AVal)} (hu:ZaI σ' ids=u) :
  Zr O bf σ sq f own view args=some (r',σ',{ any:=true,upd:=u }):=by
 subst hr hlay hu
 unfold Zr Zbt
 rw [hb]
 simp only [Xf,if_false,hsh,show Zo σ []=σ from rfl,hre]
 unfold ZaS
 rw [if_pos hall,hvs,hh,hO,hv]
 simp only [Z9,hne,XaD,Xf,if_false,hl1,hl2,decide_true,hk,hff,Wh,if_true]
theorem ZGJ {O:Zz} {bf:Nat->Bool} {σ:Za} {t sq f own k:Nat} {view:Bool} {args args' xs xs':List AVal} {r:AVal} {b':Zg} (hs:σ[t]?=some (.row 0 k xs)) (hb:bf f=true) (hff:Zac σ sq own=true)
  (href:Zu args=[t]) (hren:∀ ρ:Rho,ρ t 0=some (0,0)->Zp ρ args=args') (hr:∀ ρ:Rho,Ze ρ r=r) (hb':b'=.row 0 k xs'\/b'=.frow 0 k xs')
  (h:Z4 view 1 (O f args' [.row 0 k xs])=some (r,[b'])):Zr O bf σ sq f own view args=some (r,σ.set t b',{ any:=true }):=by
 have hd:σ.getD t .free=.row 0 k xs:=by simp [Xd,hs]
 have hf0:Zo σ []=σ:=rfl
 unfold Zr Zbt
 rw [hb]
 simp only [if_true,hf0,href]
 have hreach:Zj σ 1000 [t] []=[t]:=by
  simp only [Zj,X4,Xf,if_false,hd,Zt,Xr]
 rw [hreach]
 unfold ZaS
 have hall:([t].all fun t=>okB (σ.getD t .free))=true:=by simp [X3,Ww,hs,okB]
 rw [if_pos hall]
 have hρ:Zd σ 0 [t] t 0=some (0,0):=by simp [Zd,Zw,hs,Zb,Zv]
 have hheap:Zi σ 0 [t] (Zd σ 0 [t]) [t] 0=[.row 0 k xs]:=by
  simp only [Zi,hd,Zv,Zb,Zl,Xbq,false_and,if_false,Xo]
 rw [hren _ hρ,hheap]
 simp only [XD,XT,Xw]
 rw [h]
 have hk:Z5 σ [t] [b'] 0=true:=by
  rcases hb' with rfl | rfl <;> simp [Z5,okB,hs,Za6,Zb]
 have hren':∀ ρ,Zl ρ (ZaF σ [t] 0 b') b'=b':=by
  intro ρ
  rcases hb' with rfl | rfl <;> simp [ZaF,hs,Zb,Zl]
 simp only [Z9,Xat,Xf,if_false,XD,XT,Xw,Xbh,XI,decide_true,hk,hff,Wh,if_true,ZY,ZaI,ZO,XK,hr,hren']
 have htl:t < σ.length:=(Xc.1 hs).1
 have hg:(σ.set t b')[t]?=some b':=by simp [htl]
 simp only [hg]
 rcases hb' with rfl | rfl <;> rfl
end
section
end
section
def Zlx:Zc:=(.seq (.region [oM 36 0,oI 37 (.call 46 0 true [(.t 36)]),oM 2 37] none [2]) .ret)
def Zl8:Zc:=Zlx
def ZFn:=xw Zl8 Zlx rfl
def Zed:Zc:=(.seq (.region [oI 12 (.bin .lss (.t 11) (.t 10))] none [12,11,10,9,3,0]) (.seq (.cond (.t 12) .skip (.exit 0)) (.seq (.block 1 (.seq (.region [oM 13 11,oI 14 (.iaddr 1 (.t 9) (.t 11)),oL 15 14,oM 4 13,oM 5 15] none [11,10,9,5,4,3,0]) (.seq (.region [oM 16 5,oI 17 (.bin .eql (.t 16) (.c (.str [43]))),oM 18 17,⟨(some 19),(.mov (.t 5)),(some (18,false)),[]⟩,⟨(some 20),(.bin .eql (.t 19) (.c (.str [35]))),(some (18,false)),[]⟩,⟨(some 21),(.mov (.t 20)),(some (18,false)),[]⟩,⟨(some 22),(.mov (.t 4)),(some (21,true)),[]⟩,⟨(some 23),(.mov (.t 3)),(some (21,true)),[]⟩,⟨(some 24),(.len (.t 23)),(some (21,true)),[]⟩,⟨(some 25),(.bin .sub (.t 24) (.c (.int .i64 1))),(some (21,true)),[]⟩,⟨(some 26),(.bin .eql (.t 22) (.t 25)),(some (21,true)),[]⟩,⟨(some 27),(.pick (.t 21) (.t 26) (.c (.bool false))),(some (18,false)),[]⟩,oI 28 (.pick (.t 18) (.c (.bool true)) (.t 27)),oM 6 28] none [11,10,9,6,5,3,0]) (.seq (.region [oM 29 6,oI 30 (.un .not (.t 29)),oM 31 30,⟨(some 32),(.mov (.t 5)),(some (31,true)),[]⟩,⟨(some 33),(.call 45 0 true [(.t 32),(.c (.str [43,35]))]),(some (31,true)),[]⟩,oI 34 (.pick (.t 31) (.t 33) (.c (.bool false)))] none [34,11,10,9,3,0]) (.cond (.t 34) (.seq (.region [oI 2 (.mov (.c (.bool false)))] none [2]) .ret) .skip))))) (.region [oI 35 (.bin .add (.t 11) (.c (.int .i64 1))),oM 11 35] none [11,10,9,3,0]))))
def Zke:Zc:=Zed
def Ze6:=xw Zke Zed rfl
def ZmQ:Zc:=(.seq (.region [oI 2 (.mov (.c (.bool false)))] none [0]) (.seq (.region [oM 7 0,oI 8 (.call 31 0 true [(.t 7)]),oM 3 8] none [3,0]) (.seq (.seq (.region [oM 9 3,oI 10 (.len (.t 9)),oI 11 (.mov (.c (.int .i64 0)))] none [11,10,9,3,0]) (.block 0 (.loop [11,10,9,3,0] Zke))) Zl8)))
def Zi9:Z0:=⟨[(.tmp 2)],ZmQ⟩
theorem ZtU:FC 29=some Zi9:=by kernel_rfl
theorem ZED:Zi9.body=ZmQ:=rfl
theorem ZmH:Zi9.res=[(.tmp 2)]:=rfl
noncomputable def ZiM (m:Nat) (tm:Tms) (σ:Za):Option (AVal×Za):=(ZaJ m Zi9 (Zbw FC PR BY m Zl8 (WY (ZaQ 0) (evL FC PR BY m [11,10,9,3,0] Zke tm σ))))
def Zji:Zc:=(.seq (.region [oI 2 (.mov (.c (.lst true [])))] none [0]) (.seq (.region [oM 3 0,oI 4 (.call 47 0 true [(.t 3),(.c (.str [47]))]),oM 2 4] none [2]) .ret))
def Zjc:Z0:=⟨[(.tmp 2)],Zji⟩
theorem ZFz:FC 31=some Zjc:=by kernel_rfl
theorem ZBx:Zjc.body=Zji:=rfl
theorem Zwb:Zjc.res=[(.tmp 2)]:=rfl
def ZlL:Zc:=(.seq (.region [oM 64 5,oI 65 (.len (.t 64)),oM 66 6,oI 67 (.len (.t 66)),oI 68 (.bin .eql (.t 65) (.t 67)),oM 4 68] none [4]) .ret)
def Zka:Zc:=ZlL
def Zvu:=xw Zka ZlL rfl
def Zd8:Zc:=(.seq (.region [oI 39 (.bin .lss (.t 38) (.t 37))] none [39,38,37,36,6,5]) (.seq (.cond (.t 39) .skip (.exit 0)) (.seq (.block 1 (.seq (.region [oM 40 38,oI 41 (.iaddr 1 (.t 36) (.t 38)),oL 42 41,oM 7 40,oM 8 42] none [38,37,36,8,7,6,5]) (.block 2 (.seq (.region [oM 44 8,oI 45 (.bin .eql (.t 44) (.c (.str [35]))),oM 43 45] none [43,38,37,36,8,7,6,5]) (.cond (.t 43) (.seq (.region [oI 4 (.mov (.c (.bool true)))] none [4]) .ret) (.seq (.region [oM 47 7,oM 48 6,oI 49 (.len (.t 48)),oI 50 (.bin .eql (.t 47) (.t 49)),oM 51 50,⟨(some 52),(.mov (.t 8)),(some (51,false)),[]⟩,⟨(some 53),(.bin .neq (.t 52) (.c (.str [43]))),(some (51,false)),[]⟩,⟨(some 54),(.mov (.t 53)),(some (51,false)),[]⟩,⟨(some 55),(.mov (.t 8)),(some (54,true)),[]⟩,⟨(some 56),(.mov (.t 6)),(some (54,true)),[]⟩,⟨(some 57),(.mov (.t 7)),(some (54,true)),[]⟩,⟨(some 58),(.iaddr 1 (.t 56) (.t 57)),(some (54,true)),[]⟩,⟨(some 59),(.ld none (.t 58)),(some (54,true)),[]⟩,⟨(some 60),(.bin .neq (.t 55) (.t 59)),(some (54,true)),[]⟩,⟨(some 61),(.pick (.t 54) (.t 60) (.c (.bool false))),(some (51,false)),[]⟩,oI 62 (.pick (.t 51) (.c (.bool true)) (.t 61)),oM 46 62] none [46,38,37,36,6,5]) (.cond (.t 46) (.seq (.region [oI 4 (.mov (.c (.bool false)))] none [4]) .ret) .skip))))))) (.region [oI 63 (.bin .add (.t 38) (.c (.int .i64 1))),oM 38 63] none [38,37,36,6,5]))))
def ZjE:Zc:=Zd8
def ZeO:=xw ZjE Zd8 rfl
def ZeB:Zc:=(.seq (.region [oI 4 (.mov (.c (.bool false)))] none [1,0]) (.seq (.seq (.region [oM 9 0,oI 10 (.call 29 0 true [(.t 9)]),oI 11 (.un .not (.t 10)),oM 12 11,⟨(some 13),(.mov (.t 1)),(some (12,false)),[]⟩,⟨(some 14),(.call 33 0 true [(.t 13)]),(some (12,false)),[]⟩,⟨(some 15),(.un .not (.t 14)),(some (12,false)),[]⟩,oI 16 (.pick (.t 12) (.c (.bool true)) (.t 15))] none [16,1,0]) (.cond (.t 16) (.seq (.region [oI 4 (.mov (.c (.bool false)))] none [4]) .ret) .skip)) (.seq (.region [oM 17 0,oI 18 (.call 31 0 true [(.t 17)]),oM 19 1,oI 20 (.call 31 0 true [(.t 19)]),oM 5 18,oM 6 20] none [6,5,1]) (.seq (.seq (.region [oM 21 1,oI 22 (.sindex (.t 21) (.c (.int .i64 0))),oI 23 (.bin .eql (.t 22) (.c (.int .u8 36))),oM 24 23,⟨(some 25),(.mov (.t 5)),(some (24,true)),[]⟩,⟨(some 26),(.iaddr 1 (.t 25) (.c (.int .i64 0))),(some (24,true)),[]⟩,⟨(some 27),(.ld none (.t 26)),(some (24,true)),[]⟩,⟨(some 28),(.bin .eql (.t 27) (.c (.str [43]))),(some (24,true)),[]⟩,⟨(some 29),(.mov (.t 28)),(some (24,true)),[]⟩,⟨(some 30),(.mov (.t 5)),(some (29,false)),[]⟩,⟨(some 31),(.iaddr 1 (.t 30) (.c (.int .i64 0))),(some (29,false)),[]⟩,⟨(some 32),(.ld none (.t 31)),(some (29,false)),[]⟩,⟨(some 33),(.bin .eql (.t 32) (.c (.str [35]))),(some (29,false)),[]⟩,⟨(some 34),(.pick (.t 29) (.c (.bool true)) (.t 33)),(some (24,true)),[]⟩,oI 35 (.pick (.t 24) (.t 34) (.c (.bool false)))] none [35,6,5]) (.cond (.t 35) (.seq (.region [oI 4 (.mov (.c (.bool false)))] none [4]) .ret) .skip)) (.seq (.seq (.region [oM 36 5,oI 37 (.len (.t 36)),oI 38 (.mov (.c (.int .i64 0)))] none [38,37,36,6,5]) (.block 0 (.loop [38,37,36,6,5] ZjE))) Zka)))))
def Zh0:Z0:=⟨[(.tmp 4)],ZeB⟩
theorem Zwk:FC 37=some Zh0:=by kernel_rfl
theorem ZfN:Zh0.body=ZeB:=rfl
theorem Zd3:Zh0.res=[(.tmp 4)]:=rfl
noncomputable def Zgq (m:Nat) (tm:Tms) (σ:Za):Option (AVal×Za):=(ZaJ m Zh0 (Zbw FC PR BY m Zka (WY (ZaQ 0) (evL FC PR BY m [38,37,36,6,5] ZjE tm σ))))
def ZhM:Zc:=(.seq (.region [oI 2 (.mov (.c (.bool false)))] none [0]) (.seq (.region [oM 3 0,oI 4 (.call 46 0 true [(.t 3)]),oM 5 4,⟨(some 6),(.mov (.t 0)),(some (5,true)),[]⟩,⟨(some 7),(.call 45 0 true [(.t 6),(.c (.str [43,35]))]),(some (5,true)),[]⟩,⟨(some 8),(.un .not (.t 7)),(some (5,true)),[]⟩,oI 9 (.pick (.t 5) (.t 8) (.c (.bool false))),oM 2 9] none [2]) .ret))
def Zmy:Z0:=⟨[(.tmp 2)],ZhM⟩
theorem ZI7:FC 33=some Zmy:=by kernel_rfl
theorem ZpJ:Zmy.body=ZhM:=rfl
theorem Zps:Zmy.res=[(.tmp 2)]:=rfl
def Zkh:Zc:=(.seq (.region [oI 2 (.mov (.c (.bool false)))] none [0]) (.seq (.region [oM 3 0,oI 4 (.slen (.t 3)),oI 5 (.bin .geq (.t 4) (.c (.int .i64 1))),oM 6 5,⟨(some 7),(.mov (.t 0)),(some (6,true)),[]⟩,⟨(some 8),(.slen (.t 7)),(some (6,true)),[]⟩,⟨(some 9),(.bin .leq (.t 8) (.c (.int .i64 64))),(some (6,true)),[]⟩,oI 10 (.pick (.t 6) (.t 9) (.c (.bool false))),oM 11 10,⟨(some 12),(.mov (.t 0)),(some (11,true)),[]⟩,⟨(some 13),(.call 54 0 true [(.t 12)]),(some (11,true)),[]⟩,oI 14 (.pick (.t 11) (.t 13) (.c (.bool false))),oM 2 14] none [2]) .ret))
def Zmg:Z0:=⟨[(.tmp 2)],Zkh⟩
theorem ZzU:FC 46=some Zmg:=by kernel_rfl
theorem ZGi:Zmg.body=Zkh:=rfl
theorem ZGX:Zmg.res=[(.tmp 2)]:=rfl
end
section
def ZkT:Zc:=(.seq (.region [oI 4 (.mov (.c (.bool false)))] none [1,0]) (.seq (.region [oM 5 0,oM 6 1,oI 7 (.nilchk (.t 5)),oI 8 (.aaddr 1 256 (.t 7) (.t 6)),oL 9 8,oM 4 9] none [4]) .ret))
def ZlI:Z0:=⟨[(.tmp 4)],ZkT⟩
theorem ZxZ:FC 63=some ZlI:=by kernel_rfl
theorem ZwZ:ZlI.body=ZkT:=rfl
theorem ZxD:ZlI.res=[(.tmp 4)]:=rfl
def Zmo:Zc:=(.seq (.region [oI 4 (.mov (.c (.bool false)))] none [1,0]) (.seq (.region [oM 5 0,oM 6 1,oI 7 (.call 53 0 true [(.t 5),(.t 6)]),oI 8 (.bin .geq (.t 7) (.c (.int .i64 0))),oM 4 8] none [4]) .ret))
def ZkC:Z0:=⟨[(.tmp 4)],Zmo⟩
theorem ZCG:FC 45=some ZkC:=by kernel_rfl
theorem Zsz:ZkC.body=Zmo:=rfl
theorem ZDp:ZkC.res=[(.tmp 4)]:=rfl
def Zkx:Zc:=(.seq (.region [oI 4 (.mov (.c (.int .i64 (-1))))] none [4]) .ret)
def Zj2:Zc:=Zkx
def ZvH:=xw Zj2 Zkx rfl
def Zgy:Zc:=(.seq (.region [oI 46 (.nxt (.t 45)),oI 47 (.ext (.t 46) 0)] none [47,46,45,1]) (.seq (.cond (.t 47) .skip (.exit 2)) (.block 3 (.seq (.region [oI 48 (.ext (.t 46) 1),oI 49 (.ext (.t 46) 2),oM 9 48,oM 10 49] none [45,10,9,1]) (.seq (.region [oM 50 1,oM 51 10,oI 52 (.call 60 0 true [(.t 50),(.t 51)]),oI 53 (.bin .geq (.t 52) (.c (.int .i64 0)))] none [53,45,9,1]) (.cond (.t 53) (.seq (.region [oM 54 9,oM 4 54] none [4]) .ret) .skip))))))
def Zkv:Zc:=Zgy
def ZmU:=xw Zkv Zgy rfl
def Zkl:Zc:=(.seq (.seq (.region [oM 44 0,oI 45 (.rng (.t 44))] none [45,1]) (.block 2 (.loop [45,1] Zkv))) Zj2)
def ZlX:Zc:=Zkl
def ZEE:=xw ZlX Zkl rfl
def Zmu:Zc:=(.seq (.region [oI 4 (.mov (.c (.int .i64 (-1))))] none [4]) .ret)
def Zjo:Zc:=Zmu
def ZDE:=xw Zjo Zmu rfl
def Zhb:Zc:=(.seq (.seq (.region [oM 33 8,oM 34 0,oI 35 (.slen (.t 34)),oI 36 (.bin .lss (.t 33) (.t 35))] none [36,8,6,0]) (.cond (.t 36) .skip (.exit 0))) (.seq (.block 1 (.seq (.region [oM 39 0,oM 40 8,oI 41 (.sindex (.t 39) (.t 40)),oI 42 (.call 63 0 true [(.t 6),(.t 41)])] none [42,8,6,0]) (.cond (.t 42) (.seq (.region [oM 43 8,oM 4 43] none [4]) .ret) .skip))) (.region [oM 37 8,oI 38 (.bin .add (.t 37) (.c (.int .i64 1))),oM 8 38] none [8,6,0])))
def Zjw:Zc:=Zhb
def Zle:=xw Zjw Zhb rfl
def ZhY:Zc:=(.seq (.region [oI 4 (.mov (.c (.int .i64 0)))] none [1,0]) (.seq (.seq (.region [oM 11 1,oI 12 (.bin .eql (.t 11) (.c (.str [])))] none [12,1,0]) (.cond (.t 12) (.seq (.region [oI 4 (.mov (.c (.int .i64 (-1))))] none [4]) .ret) .skip)) (.seq (.seq (.region [oM 13 1,oI 14 (.slen (.t 13)),oI 15 (.bin .eql (.t 14) (.c (.int .i64 1)))] none [15,1,0]) (.cond (.t 15) (.seq (.region [oM 16 1,oI 17 (.sindex (.t 16) (.c (.int .i64 0))),oI 18 (.i2i .i32 (.t 17)),oM 5 18] none [5,0]) (.seq (.seq (.region [oM 19 5,oI 20 (.bin .geq (.t 19) (.c (.int .i32 128)))] none [20,5,0]) (.cond (.t 20) (.region [oI 5 (.mov (.c (.int .i32 65533)))] none [5,0]) .skip)) (.seq (.region [oM 21 0,oM 22 5,oI 23 (.call 60 0 true [(.t 21),(.t 22)]),oM 4 23] none [4]) .ret))) .skip)) (.seq (.seq (.region [oM 24 0,oI 25 (.slen (.t 24)),oI 26 (.call 61 0 true [(.t 25)])] none [26,1,0]) (.cond (.t 26) (.seq (.region [oM 28 1,oI 29 (.call 62 0 true [(.t 28)]),oM 27 29,oI 30 (.ext (.t 27) 0),oI 31 (.ext (.t 27) 1),oI 6 (.alloc [(.bool false),(.bool false),(.bool false),(.bool false),(.bool false),(.bool false),(.bool false),(.bool false),(.bool false),(.bool false),(.bool false),(.bool false),(.bool false),(.bool false),(.bool false),(.bool false),(.bool false),(.bool false),(.bool false),(.bool false),(.bool false),(.bool false),(.bool false),(.bool false),(.bool false),(.bool false),(.bool false),(.bool false),(.bool false),(.bool false),(.bool false),(.bool false),(.bool false),(.bool false),(.bool false),(.bool false),(.bool false),(.bool false),(.bool false),(.bool false),(.bool false),(.bool false),(.bool false),(.bool false),(.bool false),(.bool false),(.bool false),(.bool false),(.bool false),(.bool false),(.bool false),(.bool false),(.bool false),(.bool false),(.bool false),(.bool false),(.bool false),(.bool false),(.bool false),(.bool false),(.bool false),(.bool false),(.bool false),(.bool false),(.bool false),(.bool false),(.bool false),(.bool false),(.bool false),(.bool false),(.bool false),(.bool false),(.bool false),(.bool false),(.bool false),(.bool false),(.bool false),(.bool false),(.bool false),(.bool false),(.bool false),(.bool false),(.bool false),(.bool false),(.bool false),(.bool false),(.bool false),(.bool false),(.bool false),(.bool false),(.bool false),(.bool false),(.bool false),(.bool false),(.bool false),(.bool false),(.bool false),(.bool false),(.bool false),(.bool false),(.bool false),(.bool false),(.bool false),(.bool false),(.bool false),(.bool false),(.bool false),(.bool false),(.bool false),(.bool false),(.bool false),(.bool false),(.bool false),(.bool false),(.bool false),(.bool false),(.bool false),(.bool false),(.bool false),(.bool false),(.bool false),(.bool false),(.bool false),(.bool false),(.bool false),(.bool false),(.bool false),(.bool false),(.bool false),(.bool false),(.bool false),(.bool false),(.bool false),(.bool false),(.bool false),(.bool false),(.bool false),(.bool false),(.bool false),(.bool false),(.bool false),(.bool false),(.bool false),(.bool false),(.bool false),(.bool false),(.bool false),(.bool false),(.bool false),(.bool false),(.bool false),(.bool false),(.bool false),(.bool false),(.bool false),(.bool false),(.bool false),(.bool false),(.bool false),(.bool false),(.bool false),(.bool false),(.bool false),(.bool false),(.bool false),(.bool false),(.bool false),(.bool false),(.bool false),(.bool false),(.bool false),(.bool false),(.bool false),(.bool false),(.bool false),(.bool false),(.bool false),(.bool false),(.bool false),(.bool false),(.bool false),(.bool false),(.bool false),(.bool false),(.bool false),(.bool false),(.bool false),(.bool false),(.bool false),(.bool false),(.bool false),(.bool false),(.bool false),(.bool false),(.bool false),(.bool false),(.bool false),(.bool false),(.bool false),(.bool false),(.bool false),(.bool false),(.bool false),(.bool false),(.bool false),(.bool false),(.bool false),(.bool false),(.bool false),(.bool false),(.bool false),(.bool false),(.bool false),(.bool false),(.bool false),(.bool false),(.bool false),(.bool false),(.bool false),(.bool false),(.bool false),(.bool false),(.bool false),(.bool false),(.bool false),(.bool false),(.bool false),(.bool false),(.bool false),(.bool false),(.bool false),(.bool false),(.bool false),(.bool false),(.bool false),(.bool false),(.bool false),(.bool false),(.bool false),(.bool false),(.bool false),(.bool false),(.bool false),(.bool false),(.bool false),(.bool false),(.bool false),(.bool false),(.bool false),(.bool false),(.bool false),(.bool false),(.bool false),(.bool false),(.bool false),(.bool false)]),oN (.st 256 (.t 6) (.t 30)),oM 7 31] none [7,6,1,0]) (.seq (.region [oM 32 7] none [32,6,1,0]) (.cond (.t 32) (.seq (.seq (.region [oI 8 (.mov (.c (.int .i64 0)))] none [8,6,0]) (.block 0 (.loop [8,6,0] Zjw))) Zjo) .skip))) .skip)) ZlX))))
def Zhc:Z0:=⟨[(.tmp 4)],ZhY⟩
theorem Zp1:FC 53=some Zhc:=by kernel_rfl
theorem Zoz:Zhc.body=ZhY:=rfl
theorem ZiB:Zhc.res=[(.tmp 4)]:=rfl
noncomputable def Zid (m:Nat) (tm:Tms) (σ:Za):Option (AVal×Za):=(ZaJ m Zhc (Zbw FC PR BY m Zj2 (WY (ZaQ 2) (evL FC PR BY m [45,1] Zkv tm σ))))
noncomputable def Zi7 (m:Nat) (tm:Tms) (σ:Za):Option (AVal×Za):=(ZaJ m Zhc (Zbw FC PR BY m ZlX (Zbw FC PR BY m Zjo (WY (ZaQ 0) (evL FC PR BY m [8,6,0] Zjw tm σ)))))
def ZGD:Zc:=(.seq (.region [oI 4 (.mov (.c (.int .i64 (-1))))] none [4]) .ret)
def Zvr:Zc:=ZGD
def ZDB:Zc:=(.seq (.region [oI 176 (.nxt (.t 175)),oI 177 (.ext (.t 176) 0)] none [177,176,175]) (.seq (.cond (.t 177) .skip (.exit 9)) (.block 10 (.seq (.region [oI 178 (.ext (.t 176) 1),oI 179 (.ext (.t 176) 2),oM 5 178,oM 6 179] none [175,6,5]) (.seq (.region [oM 180 6,oI 181 (.bin .eql (.t 180) (.c (.int .i32 65533)))] none [181,175,5]) (.cond (.t 181) (.seq (.region [oM 182 5,oM 4 182] none [4]) .ret) .skip))))))
def ZDK:Zc:=ZDB
def ZGR:Zc:=(.seq (.region [oI 4 (.mov (.c (.int .i64 (-1))))] none [4]) .ret)
def ZHL:Zc:=ZGR
def ZHw:Zc:=(.region [oM 125 9,oI 126 (.bin .add (.t 125) (.c (.int .i64 1))),oM 9 126] none [15,14,9,8,7,0])
def Zyv:Zc:=ZHw
def ZDm:Zc:=(.seq (.region [oM 157 9,oM 158 8,oI 159 (.bin .sub (.t 157) (.t 158)),oM 4 159] none [4]) .ret)
def ZCZ:Zc:=ZDm
def ZEH:Zc:=(.seq (.seq (.region [oM 140 16,oM 141 7,oI 142 (.slen (.t 141)),oI 143 (.bin .lss (.t 140) (.t 142))] none [143,16,15,14,9,8,7,0]) (.cond (.t 143) .skip (.exit 7))) (.seq (.block 8 (.seq (.region [oM 146 0,oM 147 9,oM 148 16,oI 149 (.bin .sub (.t 147) (.t 148)),oI 150 (.sindex (.t 146) (.t 149)),oM 151 7,oM 152 8,oM 153 16,oI 154 (.bin .sub (.t 152) (.t 153)),oI 155 (.sindex (.t 151) (.t 154)),oI 156 (.bin .neq (.t 150) (.t 155))] (some []) [156,16,15,14,9,8,7,0]) (.cond (.t 156) (.exit 6) .skip))) (.region [oM 144 16,oI 145 (.bin .add (.t 144) (.c (.int .i64 1))),oM 16 145] none [16,15,14,9,8,7,0])))
def Zui:Zc:=ZEH
def ZE5:Zc:=(.seq (.seq (.region [oM 121 9,oM 122 0,oI 123 (.slen (.t 122)),oI 124 (.bin .lss (.t 121) (.t 123))] none [124,15,14,9,8,7,0]) (.cond (.t 124) .skip (.exit 5))) (.seq (.block 6 (.seq (.region [oM 127 0,oM 128 9,oI 129 (.sindex (.t 127) (.t 128)),oM 130 14,oI 131 (.bin .eql (.t 129) (.t 130)),oM 132 131,⟨(some 133),(.mov (.t 0)),(some (132,true)),[]⟩,⟨(some 134),(.mov (.t 9)),(some (132,true)),[]⟩,⟨(some 135),(.bin .sub (.t 134) (.c (.int .i64 1))),(some (132,true)),[]⟩,⟨(some 136),(.sindex (.t 133) (.t 135)),(some (132,true)),[]⟩,⟨(some 137),(.mov (.t 15)),(some (132,true)),[]⟩,⟨(some 138),(.bin .eql (.t 136) (.t 137)),(some (132,true)),[]⟩,oI 139 (.pick (.t 132) (.t 138) (.c (.bool false)))] none [139,15,14,9,8,7,0]) (.cond (.t 139) (.seq (.seq (.region [oI 16 (.mov (.c (.int .i64 2)))] none [16,15,14,9,8,7,0]) (.block 7 (.loop [16,15,14,9,8,7,0] Zui))) ZCZ) .skip))) Zyv))
def ZBU:Zc:=ZE5
def Zii:Zc:=(.seq (.seq (.region [oI 4 (.mov (.c (.int .i64 (-1))))] none [4]) .ret) (.seq .skip (.seq (.cond (.c (.bool true)) (.seq (.region [oM 99 0,oM 100 9,oM 101 8,oI 102 (.bin .sub (.t 100) (.t 101)),oI 103 (.sslice (.t 99) (some (.t 102)) none),oM 104 1,oI 105 (.i2s (.t 104)),oI 106 (.call 81 0 true [(.t 103),(.t 105)]),oM 13 106] none [13,9,8]) (.seq (.region [oM 107 13,oI 108 (.bin .geq (.t 107) (.c (.int .i64 0)))] none [108,13,9,8]) (.cond (.t 108) (.seq (.region [oM 109 9,oM 110 13,oI 111 (.bin .add (.t 109) (.t 110)),oM 112 8,oI 113 (.bin .sub (.t 111) (.t 112)),oM 4 113] none [4]) .ret) .skip))) (.seq (.region [oM 114 7,oM 115 8,oI 116 (.sindex (.t 114) (.t 115)),oM 14 116] none [14,9,8,7,0]) (.seq (.region [oM 117 7,oM 118 8,oI 119 (.bin .sub (.t 118) (.c (.int .i64 1))),oI 120 (.sindex (.t 117) (.t 119)),oM 15 120] none [15,14,9,8,7,0]) (.seq .skip (.block 5 (.loop [15,14,9,8,7,0] ZBU)))))) ZHL)))
def ZoL:Zc:=Zii
def Znn:=xw ZoL Zii rfl
def ZF0:Zc:=(.seq (.seq (.region [oM 65 9,oM 66 8,oI 67 (.bin .sub (.t 65) (.t 66)),oM 4 67] none [4]) .ret) (.seq .skip (.seq (.region [oM 68 10,oI 69 (.bin .add (.t 68) (.c (.int .i64 1))),oM 10 69] none [10,9,8,7,0]) (.seq (.region [oM 70 9,oI 71 (.bin .add (.t 70) (.c (.int .i64 1))),oM 9 71] none [10,9,8,7,0]) (.seq (.region [oI 72 (.mov (.c (.bool true))),⟨(some 73),(.mov (.t 10)),(some (72,true)),[]⟩,⟨(some 74),(.mov (.t 9)),(some (72,true)),[]⟩,⟨(some 75),(.call 80 0 true [(.t 74)]),(some (72,true)),[]⟩,⟨(some 76),(.bin .gtr (.t 73) (.t 75)),(some (72,true)),[]⟩,oI 77 (.pick (.t 72) (.t 76) (.c (.bool false))),oM 78 77,⟨(some 79),(.mov (.t 9)),(some (78,true)),[]⟩,⟨(some 80),(.mov (.t 0)),(some (78,true)),[]⟩,⟨(some 81),(.slen (.t 80)),(some (78,true)),[]⟩,⟨(some 82),(.bin .lss (.t 79) (.t 81)),(some (78,true)),[]⟩,oI 83 (.pick (.t 78) (.t 82) (.c (.bool false))),oM 84 83,⟨(some 85),(.mov (.c (.bool false))),(some (84,false)),[]⟩,⟨(some 86),(.mov (.t 10)),(some (85,true)),[]⟩,⟨(some 87),(.mov (.t 9)),(some (85,true)),[]⟩,⟨(some 88),(.bin .shr (.t 87) (.c (.int .u64 4))),(some (85,true)),[]⟩,⟨(some 89),(.bin .add (.c (.int .i64 4)) (.t 88)),(some (85,true)),[]⟩,⟨(some 90),(.bin .geq (.t 86) (.t 89)),(some (85,true)),[]⟩,⟨(some 91),(.pick (.t 85) (.t 90) (.c (.bool false))),(some (84,false)),[]⟩,⟨(some 92),(.mov (.t 91)),(some (84,false)),[]⟩,⟨(some 93),(.mov (.t 9)),(some (92,true)),[]⟩,⟨(some 94),(.mov (.t 0)),(some (92,true)),[]⟩,⟨(some 95),(.slen (.t 94)),(some (92,true)),[]⟩,⟨(some 96),(.bin .lss (.t 93) (.t 95)),(some (92,true)),[]⟩,⟨(some 97),(.pick (.t 92) (.t 96) (.c (.bool false))),(some (84,false)),[]⟩,oI 98 (.pick (.t 84) (.c (.bool true)) (.t 97))] none [98,9,8,7,0]) (.cond (.t 98) .stuck .skip))))))
def Zx2:Zc:=ZF0
def Zzw:Zc:=(.seq (.seq (.region [oM 48 12,oM 49 7,oI 50 (.slen (.t 49)),oI 51 (.bin .lss (.t 48) (.t 50))] none [51,12,9,8,7,0]) (.cond (.t 51) .skip (.exit 3))) (.seq (.block 4 (.seq (.region [oM 54 0,oM 55 9,oM 56 12,oI 57 (.bin .sub (.t 55) (.t 56)),oI 58 (.sindex (.t 54) (.t 57)),oM 59 7,oM 60 8,oM 61 12,oI 62 (.bin .sub (.t 60) (.t 61)),oI 63 (.sindex (.t 59) (.t 62)),oI 64 (.bin .neq (.t 58) (.t 63))] (some []) [64,12,9,8,7,0]) (.cond (.t 64) .stuck .skip))) (.region [oM 52 12,oI 53 (.bin .add (.t 52) (.c (.int .i64 1))),oM 12 53] none [12,9,8,7,0])))
def Zs2:Zc:=Zzw
def Zhe:Zc:=(.seq (.seq (.region [oM 23 9,oM 24 0,oI 25 (.slen (.t 24)),oI 26 (.bin .lss (.t 23) (.t 25))] none [26,9,8,7,0]) (.cond (.t 26) .skip (.exit 1))) (.block 2 (.seq (.seq (.region [oM 27 0,oM 28 9,oI 29 (.sindex (.t 27) (.t 28)),oM 30 7,oM 31 8,oI 32 (.sindex (.t 30) (.t 31)),oI 33 (.bin .neq (.t 29) (.t 32))] (some []) [33,9,8,7,0]) (.cond (.t 33) (.seq (.region [oM 34 0,oM 35 9,oI 36 (.bin .add (.t 35) (.c (.int .i64 1))),oI 37 (.sslice (.t 34) (some (.t 36)) none),oM 38 7,oM 39 8,oI 40 (.sindex (.t 38) (.t 39)),oI 41 (.call 78 0 true [(.t 37),(.t 40)]),oM 11 41] (some [(7,7)]) [11,9,8,7,0]) (.seq (.seq (.region [oM 42 11,oI 43 (.bin .lss (.t 42) (.c (.int .i64 0)))] none [43,11,9,8,7,0]) (.cond (.t 43) (.seq (.region [oI 4 (.mov (.c (.int .i64 (-1))))] none [4]) .ret) .skip)) (.region [oM 44 9,oM 45 11,oI 46 (.bin .add (.t 45) (.c (.int .i64 1))),oI 47 (.bin .add (.t 44) (.t 46)),oM 9 47] none [9,8,7,0]))) .skip)) (.seq (.seq (.region [oI 12 (.mov (.c (.int .i64 1)))] none [12,9,8,7,0]) (.block 3 (.loop [12,9,8,7,0] Zs2))) Zx2))))
def Zns:Zc:=Zhe
def Zlw:=xw Zns Zhe rfl
def ZfP:Zc:=(.seq (.region [oI 4 (.mov (.c (.int .i64 0)))] none [1,0]) (.block 0 (.seq (.region [oM 161 1,oI 162 (.bin .leq (.c (.int .i32 0)) (.t 161)),oM 163 162,⟨(some 164),(.mov (.t 1)),(some (163,true)),[]⟩,⟨(some 165),(.bin .lss (.t 164) (.c (.int .i32 128))),(some (163,true)),[]⟩,oI 166 (.pick (.t 163) (.t 165) (.c (.bool false))),oM 160 166] none [160,1,0]) (.cond (.t 160) (.seq (.region [oM 167 0,oM 168 1,oI 169 (.i2i .u8 (.t 168)),oI 170 (.call 78 0 true [(.t 167),(.t 169)]),oM 4 170] none [4]) .ret) (.seq (.region [oM 172 1,oI 173 (.bin .eql (.t 172) (.c (.int .i32 65533))),oM 171 173] none [171,1,0]) (.cond (.t 171) (.seq (.seq (.region [oM 174 0,oI 175 (.rng (.t 174))] none [175]) (.block 9 (.loop [175] ZDK))) Zvr) (.seq (.region [oM 184 1,oI 185 (.call 79 0 true [(.t 184)]),oI 186 (.un .not (.t 185)),oM 183 186] none [183,1,0]) (.cond (.t 183) (.seq (.region [oI 4 (.mov (.c (.int .i64 (-1))))] none [4]) .ret) (.seq (.region [oM 17 1,oI 18 (.i2s (.t 17)),oM 7 18] none [7,0]) (.seq (.region [oM 19 7,oI 20 (.slen (.t 19)),oI 21 (.bin .sub (.t 20) (.c (.int .i64 1))),oM 8 21] none [8,7,0]) (.seq (.region [oM 22 8,oM 9 22] none [9,8,7,0]) (.seq (.region [oI 10 (.mov (.c (.int .i64 0)))] none [9,8,7,0]) (.seq (.block 1 (.loop [9,8,7,0] Zns)) ZoL)))))))))))))
def ZkJ:Z0:=⟨[(.tmp 4)],ZfP⟩
theorem Zof:FC 60=some ZkJ:=by kernel_rfl
theorem Zia:ZkJ.body=ZfP:=rfl
theorem Zh7:ZkJ.res=[(.tmp 4)]:=rfl
def Zlg:Zc:=(.seq (.region [oI 2 (.mov (.c (.bool false)))] none [0]) (.seq (.region [oM 3 0,oI 4 (.bin .gtr (.t 3) (.c (.int .i64 8))),oM 2 4] none [2]) .ret))
def Zl4:Z0:=⟨[(.tmp 2)],Zlg⟩
theorem ZvX:FC 61=some Zl4:=by kernel_rfl
theorem ZtI:Zl4.body=Zlg:=rfl
theorem ZGQ:Zl4.res=[(.tmp 2)]:=rfl
def Zi8:Zc:=(.seq (.region [oI 2 (.mov (.c (.bool false)))] none [0]) (.seq (.block 0 (.seq (.region [oM 4 0,oI 5 (.bin .leq (.c (.int .i32 0)) (.t 4)),oM 6 5,⟨(some 7),(.mov (.t 0)),(some (6,true)),[]⟩,⟨(some 8),(.bin .lss (.t 7) (.c (.int .i32 55296))),(some (6,true)),[]⟩,oI 9 (.pick (.t 6) (.t 8) (.c (.bool false))),oM 3 9] none [3,0]) (.cond (.t 3) (.seq (.region [oI 2 (.mov (.c (.bool true)))] none [2]) .ret) (.seq (.region [oM 11 0,oI 12 (.bin .lss (.c (.int .i32 57343)) (.t 11)),oM 13 12,⟨(some 14),(.mov (.t 0)),(some (13,true)),[]⟩,⟨(some 15),(.bin .leq (.t 14) (.c (.int .i32 1114111))),(some (13,true)),[]⟩,oI 16 (.pick (.t 13) (.t 15) (.c (.bool false))),oM 10 16] none [10]) (.cond (.t 10) (.seq (.region [oI 2 (.mov (.c (.bool true)))] none [2]) .ret) .skip))))) (.seq (.region [oI 2 (.mov (.c (.bool false)))] none [2]) .ret)))
def Zlf:Z0:=⟨[(.tmp 2)],Zi8⟩
theorem ZuE:FC 79=some Zlf:=by kernel_rfl
theorem ZrW:Zlf.body=Zi8:=rfl
theorem Zox:Zlf.res=[(.tmp 2)]:=rfl
end
section
def ZmA:Zc:=(.seq (.region [oM 12 0,oI 13 (.call 64 0 true [(.t 12)]),oM 2 13] none [2]) .ret)
def Zjh:Zc:=ZmA
def ZG4:=xw Zjh ZmA rfl
def Zgn:Zc:=(.seq (.region [oI 7 (.nxt (.t 6)),oI 8 (.ext (.t 7) 0)] none [8,7,6,0]) (.seq (.cond (.t 8) .skip (.exit 0)) (.block 1 (.seq (.region [oI 9 (.ext (.t 7) 2),oM 4 9] none [6,4,0]) (.seq (.region [oM 10 4,oI 11 (.bin .eql (.t 10) (.c (.int .i32 0)))] none [11,6,0]) (.cond (.t 11) (.seq (.region [oI 2 (.mov (.c (.bool false)))] none [2]) .ret) .skip))))))
def Zlc:Zc:=Zgn
def Zkr:=xw Zlc Zgn rfl
def Zmw:Zc:=(.seq (.region [oI 2 (.mov (.c (.bool false)))] none [0]) (.seq (.seq (.region [oM 5 0,oI 6 (.rng (.t 5))] none [6,0]) (.block 0 (.loop [6,0] Zlc))) Zjh))
def ZhG:Z0:=⟨[(.tmp 2)],Zmw⟩
theorem ZF2:FC 54=some ZhG:=by kernel_rfl
theorem Zxd:ZhG.body=Zmw:=rfl
theorem Zqr:ZhG.res=[(.tmp 2)]:=rfl
noncomputable def Zij (m:Nat) (tm:Tms) (σ:Za):Option (AVal×Za):=(ZaJ m ZhG (Zbw FC PR BY m Zjh (WY (ZaQ 0) (evL FC PR BY m [6,0] Zlc tm σ))))
end
section
theorem Ziw (l:List UInt8) (p:Nat):Zd5 l p=Lib.decodeL (l.drop p):=by
 have:=Lib.decodeL_drop ⟨l.toArray⟩ p
 simpa [Zd5] using this.symm
def zfG:Nat->List UInt8->Bool
 | 0,_=>true
 | n+1,l=>if l=[] then true else if (Lib.decodeL l).1=0 then false else zfG n (l.drop (Lib.decodeL l).2)
def ZcV (l:List UInt8):Bool:=zfG l.length l && Lib.validD l
theorem ZBg (l:List UInt8):E 64 [.str l] []=some (.bool (Lib.validD l),[]):=Zbx.2 ⟨1,rfl⟩
theorem ZGf (σ:Za) (sq own:Nat) (view:Bool) (l:List UInt8):Zr E BY σ sq 64 own view [.str l]=some (.bool (Lib.validD l),σ,{}) :=
 Zbp (ZBg l) (by kernel_rfl) (by simp -implicitDefEqProofs only [ZbO,ZK,eq_self]) (by simp -implicitDefEqProofs only [Zau,ZK,eq_self]) rfl (fun _=>rfl) _ _ _ _
theorem Zq5 (s:List UInt8):∀ (n p:Nat),s.length - p<=n->p<=s.length->Zij 0 [(6,.ref 0 0),(0,.str s)] [.siter s p]=some (.bool (zfG n (s.drop p) && Lib.validD s),[])
 | n,p,hn,hp=>by
  by_cases h:p < s.length
  ·obtain ⟨n,rfl⟩:∃ m,n=m+1:=⟨n - 1,by omega⟩
   have hw:=Lib.decodeL_width (s.drop p)
   have hne:s.drop p≠[]:=by rw [ne_eq,Wl];omega
   have hle:=Lib.decodeL_le (s.drop p) hne
   rw [WO] at hle
   have ih:=Zq5 s n (p+(Lib.decodeL (s.drop p)).2) (by omega) (by omega)
   rw [<-Xa9] at ih
   unfold Zij at ih ⊢
   rw [Zaq]
   by_cases hz:(Lib.decodeL (s.drop p)).1=0
   ·have hz':((Lib.decodeL (s.drop p)).1:Int)=0:=by omega
    simp -implicitDefEqProofs only [EQA,Xg,Xe,reduceCtorEq,↓reduceIte,Zqr,Zkr,Zgn,h,Ziw,hz']
    rw [zfG,if_neg hne,if_pos hz];rfl
   ·have hz':(((Lib.decodeL (s.drop p)).1:Int) == 0)=false:=by rw [beq_eq_false_iff_ne];omega
    simp -implicitDefEqProofs only [EQA,ZS,ZaX,Xg,Xo,Xe,reduceCtorEq,↓reduceIte,gcT,gcA,Zq,Zj,Zd,Zi,Zw,Zb,Zv,Zl,Zt,Zkr,Zgn,h,Ziw,hz']
    rw [ih,zfG,if_neg hne,if_neg hz]
  ·have he:s.drop p=[]:=by rw [Wl];omega
   unfold Zij
   rw [Zaq]
   simp -implicitDefEqProofs only [EQA,Xg,Xe,reduceCtorEq,↓reduceIte,Zqr,ZG4,ZmA,Zkr,Zgn,h,ZGf]
   rw [he]
   cases n <;> simp [zfG]
theorem Zto (s:List UInt8):E 54 [.str s] []=some (.bool (ZcV s),[]):=by
 rw [Zap (by rfl) ZF2]
 have:=Zq5 s s.length 0 (by omega) (by omega)
 unfold Zij at this
 simp -implicitDefEqProofs only [EQA,ZS,ZaX,Xg,Xo,Xz,reduceCtorEq,↓reduceIte,gcT,gcA,Zq,Zj,Zd,Zi,Zw,Zb,Zv,Zl,Zt,Zxd,Zmw]
 rw [this,List.drop_zero];rfl
theorem ZGB (σ:Za) (sq own:Nat) (view:Bool) (l:List UInt8):Zr E BY σ sq 54 own view [.str l]=some (.bool (ZcV l),σ,{}) :=
 Zbp (Zto l) (by kernel_rfl) (by simp -implicitDefEqProofs only [ZbO,ZK,eq_self]) (by simp -implicitDefEqProofs only [Zau,ZK,eq_self]) rfl (fun _=>rfl) _ _ _ _
theorem ZAE (b:UInt8):(b.toNat:Int) < 256:=by have:=b.toNat_lt;omega
theorem wrap_i64 {n:Int} (h0:-9223372036854775808<=n) (h:n<=9223372036854775807):IntKind.i64.wrap n=n:=Zc9 h0 h
end
section
def ZbT (b:UInt8):Bool:=b == 43 || b == 35
def Zao (l:List UInt8):Bool:=l.any ZbT
def ZbI:List AVal:=(Wm 256).map fun n=>.bool (n == 43 || n == 35)
theorem ZC8:ZbI.length=256:=by simp [ZbI]
theorem Zgr:ZbD ZbI=true:=by kernel_rfl
theorem ZzW (b:UInt8):ZbI[b.toNat]?=some (.bool (ZbT b)):=by
 have hb:=b.toNat_lt
 have : ZbT b=(b.toNat == 43 || b.toNat == 35):=by
  unfold ZbT
  rw [WX]
  simp [<-XaL]
 rw [this]
 simp [ZbI,hb]
theorem ZoI:Zu ZbI=[]:=(Zdz (fun _ _=>none) ZbI Zgr).2
theorem Zpj (ρ:Rho):Zp ρ ZbI=ZbI:=(Zdz ρ ZbI Zgr).1
theorem ZG0:E 62 [.str [43,35]] []=some (.tup [.agg ZbI,.bool true],[]):=Zbx.2 ⟨8,by kernel_rfl⟩
theorem Zy6 (σ:Za) (sq own:Nat) (view:Bool):Zr E BY σ sq 62 own view [.str [43,35]]=some (.tup [.agg ZbI,.bool true],σ,{}) :=
 Zbp ZG0 (by kernel_rfl) rfl rfl (by kernel_rfl) (fun _=>by kernel_rfl) _ _ _ _
theorem ZHZ (b:UInt8):E 63 [.ref 0 0,ZaG b] [.var ZbI]=some (.bool (ZbT b),[.var ZbI]):=by
 rw [Zap (by rfl) ZxZ]
 have h1:(0:Int)<=(b.toNat:Int):=by omega
 have h2:(b.toNat:Int) < ((256:Nat):Int):=by have:=ZAE b;omega
 simp -implicitDefEqProofs only [EQA,Za4,Xg,Xe,reduceCtorEq,↓reduceIte,ZwZ,ZkT,ZxD,ZaG,h1,h2,W4,Nat.mul_one,ZzW,Zgr]
theorem Zqp (σ:Za) (sq t:Nat) (view:Bool) (b:UInt8) (hs:σ[t]?=some (.var ZbI)):Zr E BY σ sq 63 0 view [.ref t 0,.int .u8 b.toNat]=some (.bool (ZbT b),σ.set t (.var ZbI),{ any:=true,upd:=[(t,ZbI)] }) :=
 Zs1 hs Zgr Zgr (by kernel_rfl) rfl rfl rfl rfl (ZHZ b)
theorem Zpq (s:List UInt8) (hl:s.length<=9223372036854775807):∀ (r:List UInt8) (i:Nat),s.drop i=r->∃ z,Zi7 0 [(8,.int .i64 i),(6,.ref 0 0),(0,.str s)] [.var ZbI]=some (.int .i64 z,[])/\decide (z>=0)=Zao r
 | [],i,h=>by
  have h1:=ZdF h
  refine ⟨-1,?_,by simp [Zao]⟩
  unfold Zi7
  rw [Zaq]
  simp -implicitDefEqProofs only [EQA,Xg,Xe,reduceCtorEq,↓reduceIte,ZiB,ZDE,Zmu,Zle,Zhb,h1]
 | b::r,i,h=>by
  obtain ⟨z,ih,hz⟩:=Zpq s hl r (i+1) (Zbf h).2.1
  have h1:(i:Int) < s.length:=by have:=(Zbf h).2.2;omega
  have h2:=(Zbf h).1
  have h3:=Zdf h1 hl
  have i0:(0:Int)<=(i:Int):=by omega
  unfold Zi7 at ih ⊢
  cases hb:ZbT b
  ·refine ⟨z,?_,by rw [hz];simp [Zao,hb]⟩
   rw [Zaq]
   simp -implicitDefEqProofs only [EQA,ZS,ZaX,Xg,Xo,Xe,reduceCtorEq,↓reduceIte,gcT,gcA,Zq,Zj,Zd,Zi,Zw,Zb,Zv,Zl,Zt,Zle,Zhb,h1,h2,h3,i0,W4,Zqp,hb,ZaG,ZoI,Zpj]
   exact ih
  ·refine ⟨i,?_,by simp [Zao,hb]⟩
   rw [Zaq]
   simp -implicitDefEqProofs only [EQA,Xg,Xe,reduceCtorEq,↓reduceIte,ZiB,Zle,Zhb,h1,h2,i0,W4,Zqp,hb,ZaG]
def ZcI (r:Int):Int:=if r=43 then 0 else if r=35 then 1 else -1
theorem ZBw (l:List UInt8) (c:Int):E 78 [.str l,.int .u8 c] []=some (.int .i64 (Lib.indexByte l c.toNat.toUInt8),[]):=Zbx.2 ⟨1,rfl⟩
theorem ZrR (σ:Za) (sq own:Nat) (view:Bool) (l:List UInt8) (c:Int):Zr E BY σ sq 78 own view [.str l,.int .u8 c]=some (.int .i64 (Lib.indexByte l c.toNat.toUInt8),σ,{}) :=
 Zbp (ZBw l c) (by kernel_rfl) (by simp -implicitDefEqProofs only [ZbO,ZK,eq_self]) (by simp -implicitDefEqProofs only [Zau,ZK,eq_self]) rfl (fun _=>rfl) _ _ _ _
theorem ZIz (r:Int) (h:(0<=r/\r < 55296)\/(57344<=r/\r<=1114111)):E 79 [.int .i32 r] []=some (.bool true,[]):=by
 rw [Zap (by rfl) ZuE]
 rcases h with ⟨h1,h2⟩ | ⟨h1,h2⟩
 ·simp -implicitDefEqProofs only [EQA,Xg,Xe,ZG,unG,reduceCtorEq,↓reduceIte,ZrW,Zi8,Zox,h1,h2]
 ·have h3:¬r < 55296:=by omega
  have h4:(57343:Int) < r:=by omega
  have h5:(0:Int)<=r:=by omega
  simp -implicitDefEqProofs only [EQA,Xg,Xe,ZG,unG,reduceCtorEq,↓reduceIte,ZrW,Zi8,Zox,h2,h3,h4,h5]
theorem ZI1:E 60 [.str [43,35],.int .i32 65533] []=some (.int .i64 (-1),[]):=Zbx.2 ⟨8,by kernel_rfl⟩
theorem ZCA (σ:Za) (sq own:Nat) (view:Bool) (r:Int) (h:(0<=r/\r < 55296)\/(57344<=r/\r<=1114111)):Zr E BY σ sq 79 own view [.int .i32 r]=some (.bool true,σ,{}) :=
 Zbp (ZIz r h) (by kernel_rfl) (by simp -implicitDefEqProofs only [ZbO,ZK,eq_self]) (by simp -implicitDefEqProofs only [Zau,ZK,eq_self]) rfl (fun _=>rfl) _ _ _ _
theorem ZFp (r:Int) (h0:0<=r) (h1:r < 128):Lib.indexByte [43,35] r.toNat.toUInt8=ZcI r:=by
 obtain ⟨n,rfl⟩:∃ n:Fin 128,r=(n.val:Int):=⟨⟨r.toNat,by omega⟩,by simp;omega⟩
 clear h0 h1
 revert n
 decide
theorem Zz0 (r:Int) (h0:0<=r) (h1:r < 128):E 60 [.str [43,35],.int .i32 r] []=some (.int .i64 (ZcI r),[]):=by
 rw [Zap (by rfl) Zof]
 have w:IntKind.u8.wrap r=r:=by rw [show IntKind.u8.wrap r=r % 256 from rfl];omega
 simp -implicitDefEqProofs only [EQA,Xg,Xe,ZG,unG,reduceCtorEq,↓reduceIte,Zia,ZfP,Zh7,h0,h1,w,ZrR,ZFp]
theorem ZGY (r:Int) (h0:128<=r) (h1:r < 2048):∃ a b:UInt8,(Utf8.encode r).data.toList=[a,b]/\((35:Int) == (b.toNat:Int))=false:=by
 have hv:Utf8.valid r=true:=by simp [Utf8.valid];omega
 refine ⟨_,_,by unfold Utf8.encode;simp only [hv,if_true];rw [if_neg (by omega),if_pos (by omega)],?_⟩
 rw [beq_eq_false_iff_ne]
 simp
 omega
theorem ZvG (r:Int) (h0:2048<=r) (h1:r < 65536) (hv:Utf8.valid r=true):∃ a b c:UInt8,(Utf8.encode r).data.toList=[a,b,c]:=by
 refine ⟨_,_,_,by unfold Utf8.encode;simp only [hv,if_true];rw [if_neg (by omega),if_neg (by omega),if_pos (by omega)]⟩
theorem ZBS (r:Int) (h1:65536<=r) (hv:Utf8.valid r=true):∃ a b c d:UInt8,(Utf8.encode r).data.toList=[a,b,c,d]:=by
 refine ⟨_,_,_,_,by unfold Utf8.encode;simp only [hv,if_true];rw [if_neg (by omega),if_neg (by omega),if_neg (by omega)]⟩
theorem Zss (r:Int) (h0:128<=r) (hv:(0<=r/\r < 55296)\/(57344<=r/\r<=1114111)) (hne:r≠65533):E 60 [.str [43,35],.int .i32 r] []=some (.int .i64 (-1),[]):=by
 rw [Zap (by rfl) Zof]
 have h1:(0:Int)<=r:=by omega
 have h2:¬r < 128:=by omega
 have h3:(r == 65533)=false:=by rw [beq_eq_false_iff_ne];exact hne
 have hv':Utf8.valid r=true:=by simp [Utf8.valid];omega
 have hV:=fun σ sq own view=>ZCA σ sq own view r hv
 by_cases h4:r < 2048
 ·obtain ⟨a,b,he,hb⟩:=ZGY r h0 h4
  have hi:Lib.indexByte [] ((b.toNat:Int).toNat.toUInt8)=-1:=rfl
  have w1:IntKind.i64.wrap (((2:Nat):Int) - 1)=1:=by decide
  have w2:IntKind.i64.wrap ((1:Int)+1)=2:=by decide
  have l1:(1:Int) < ((2:Nat):Int):=by decide
  have l2:(2:Int)<=((2:Nat):Int):=by decide
  have l3:(0:Int)<=1:=by decide
  have l4:(0:Int)<=2:=by decide
  have t1:(1:Int).toNat=1:=rfl
  have t2:(2:Int).toNat=2:=rfl
  have n1:((-1:Int) < 0)=True:=by simp
  have hb':(((35:UInt8).toNat:Int) != (b.toNat:Int))=true:=by
   have : ((35:UInt8).toNat:Int)=35:=rfl
   rw [this];simp only [bne,hb,Xaq]
  simp -implicitDefEqProofs only [EQA,ZS,Xt,Xg,Xe,unA,ZG,unG,reduceCtorEq,↓reduceIte,gcT,gcA,Zq,Zj,Zi,Zt,Zia,ZfP,Zh7,Zlw,Zhe,h1,h2,h3,hV,he,Zaq,ZaG,w1,w2,l1,l2,l3,l4,t1,t2,hb',Zax,Zci,ZrR,hi,n1]
 ·by_cases h5:r < 65536
  ·obtain ⟨a,b,c,he⟩:=ZvG r (by omega) h5 hv'
   have w1:IntKind.i64.wrap (((3:Nat):Int) - 1)=2:=by decide
   have l1:¬(2:Int) < ((2:Nat):Int):=by decide
   simp -implicitDefEqProofs only [EQA,ZS,Xt,Xg,Xe,unA,ZG,unG,reduceCtorEq,↓reduceIte,gcT,gcA,Zq,Zj,Zi,Zt,Zia,ZfP,Zh7,Znn,Zii,Zlw,Zhe,h1,h2,h3,hV,he,Zaq,w1,l1]
  ·obtain ⟨a,b,c,d,he⟩:=ZBS r (by omega) hv'
   have w1:IntKind.i64.wrap (((4:Nat):Int) - 1)=3:=by decide
   have l1:¬(3:Int) < ((2:Nat):Int):=by decide
   simp -implicitDefEqProofs only [EQA,ZS,Xt,Xg,Xe,unA,ZG,unG,reduceCtorEq,↓reduceIte,gcT,gcA,Zq,Zj,Zi,Zt,Zia,ZfP,Zh7,Znn,Zii,Zlw,Zhe,h1,h2,h3,hV,he,Zaq,w1,l1]
theorem ZyM (l:List UInt8):((Lib.decodeL l).1 < 55296)\/(57344<=(Lib.decodeL l).1/\(Lib.decodeL l).1<=1114111):=by
 rw [Lib.decodeL_N]
 have h0:=(l.getD 0 0).toNat_lt
 unfold Lib.decodeN
 repeat' split
 all_goals (try simp only);omega
theorem ZI8 (l:List UInt8):E 60 [.str [43,35],.int .i32 (Lib.decodeL l).1] []=some (.int .i64 (ZcI (Lib.decodeL l).1),[]):=by
 have hv:=ZyM l
 generalize (Lib.decodeL l).1=n at hv
 by_cases h:n < 128
 ·exact Zz0 n (by omega) (by omega)
 ·have e:ZcI (n:Int)=-1:=by unfold ZcI;rw [if_neg (by omega),if_neg (by omega)]
  rw [e]
  by_cases h2:n=65533
  ·subst h2;exact ZI1
  ·exact Zss n (by omega) (by omega) (by omega)
theorem Zng (σ:Za) (sq own:Nat) (view:Bool) (l:List UInt8):Zr E BY σ sq 60 own view [.str [43,35],.int .i32 (Lib.decodeL l).1]=some (.int .i64 (ZcI (Lib.decodeL l).1),σ,{}) :=
 Zbp (ZI8 l) (by kernel_rfl) (by simp -implicitDefEqProofs only [ZbO,ZK,eq_self]) (by simp -implicitDefEqProofs only [Zau,ZK,eq_self]) rfl (fun _=>rfl) _ _ _ _
theorem ZuS (l:List UInt8) (hne:l≠[]):Zao l=(decide (ZcI (Lib.decodeL l).1>=0) || Zao (l.drop (Lib.decodeL l).2)):=by
 obtain ⟨b0,t,rfl⟩:∃ b t,l=b::t:=by
  cases l with
  | nil=>exact absurd rfl hne
  | cons b t=>exact ⟨b,t,rfl⟩
 have hc:∀ b:UInt8,b.toNat / 64=2->ZbT b=false:=by
  intro b hb
  unfold ZbT
  simp only [Bool.or_eq_false_iff,beq_eq_false_iff_ne,ne_eq,<-XaL]
  have : (43:UInt8).toNat=43:=rfl
  have : (35:UInt8).toNat=35:=rfl
  omega
 have hi:∀ n:Nat,n≠43->n≠35->decide (ZcI (n:Int)>=0)=false:=by
  intro n h1 h2
  unfold ZcI
  rw [if_neg (by omega),if_neg (by omega)];rfl
 have hp:∀ b:UInt8,ZbT b=decide (ZcI (b.toNat:Int)>=0):=by
  intro b
  unfold ZbT ZcI
  have e1:(43:UInt8).toNat=43:=rfl
  have e2:(35:UInt8).toNat=35:=rfl
  rw [WX]
  simp only [Bool.or_eq_true,beq_iff_eq,<-XaL,e1,e2,decide_eq_true_eq]
  constructor
  ·rintro (h | h) <;> simp [h]
  ·intro h
   by_cases h1:b.toNat=43
   ·exact Xk h1
   ·by_cases h2:b.toNat=35
    ·exact Xp h2
    ·rw [if_neg (by omega),if_neg (by omega)] at h;omega
 rw [Lib.decodeL_N]
 simp only [XD,XK,X6]
 have hb:=b0.toNat_lt
 have hlow:128<=b0.toNat->ZbT b0=false:=by
  intro h;rw [hp];exact hi _ (by omega) (by omega)
 unfold Lib.decodeN
 split
 ·simp [Zao,hp]
 rename_i h0
 have hl0:=hlow (by omega)
 have eE:decide (ZcI ((65533:Nat):Int)>=0)=false:=by decide
 split
 ·rename_i h1
  obtain ⟨b1,t,rfl⟩:∃ b t',t=b::t':=by
   cases t with
   | nil=>simp at h1
   | cons b t=>exact ⟨b,t,rfl⟩
  have h1c:=hc b1 (by simpa using h1.2.2)
  split
  ·rename_i h2
   rw [hi _ (by simp only;omega) (by simp only;omega)]
   simp [Zao,hl0,h1c]
  ·rw [eE];simp [Zao,hl0]
 split
 ·rename_i h1
  obtain ⟨b1,b2,t,rfl⟩:∃ b c t',t=b::c::t':=by
   match t,h1 with
   | [],h1=>simp at h1
   | [_],h1=>simp at h1
   | b::c::t,_=>exact ⟨b,c,t,rfl⟩
  have h1c:=hc b1 (by simpa using h1.2.1.2)
  have h2c:=hc b2 (by simpa using h1.2.2.2)
  split
  ·rename_i h2
   rw [hi _ (by simp only;omega) (by simp only;omega)]
   simp [Zao,hl0,h1c,h2c]
  ·rw [eE];simp [Zao,hl0]
 split
 ·rename_i h1
  obtain ⟨b1,b2,b3,t,rfl⟩:∃ b c d t',t=b::c::d::t':=by
   match t,h1 with
   | [],h1=>simp at h1
   | [_],h1=>simp at h1
   | [_,_],h1=>simp at h1
   | b::c::d::t,_=>exact ⟨b,c,d,t,rfl⟩
  have h1c:=hc b1 (by simpa using h1.2.1.2)
  have h2c:=hc b2 (by simpa using h1.2.2.1.2)
  have h3c:=hc b3 (by simpa using h1.2.2.2.2)
  split
  ·rename_i h2
   rw [hi _ (by simp only;omega) (by simp only;omega)]
   simp [Zao,hl0,h1c,h2c,h3c]
  ·rw [eE];simp [Zao,hl0]
 ·rw [eE];simp [Zao,hl0]
theorem Znm (s:List UInt8):∀ (n p:Nat),s.length - p<=n->p<=s.length->∃ z,Zid 0 [(45,.ref 0 0),(1,.str [43,35])] [.siter s p]=some (.int .i64 z,[])/\decide (z>=0)=Zao (s.drop p)
 | n,p,hn,hp=>by
  by_cases h:p < s.length
  ·obtain ⟨n,rfl⟩:∃ m,n=m+1:=⟨n - 1,by omega⟩
   have hw:=Lib.decodeL_width (s.drop p)
   have hne:s.drop p≠[]:=by rw [ne_eq,Wl];omega
   have hle:=Lib.decodeL_le (s.drop p) hne
   rw [WO] at hle
   obtain ⟨z,ih,hz⟩:=Znm s n (p+(Lib.decodeL (s.drop p)).2) (by omega) (by omega)
   rw [<-Xa9] at hz
   rw [ZuS _ hne,<-hz]
   unfold Zid at ih ⊢
   by_cases hi:ZcI (Lib.decodeL (s.drop p)).1>=0
   ·refine ⟨p,?_,by simp [hi]⟩
    rw [Zaq]
    simp -implicitDefEqProofs only [EQA,Xg,Xe,↓reduceIte,ZiB,ZmU,Zgy,h,Ziw,Zng,hi]
   ·refine ⟨z,?_,by simp [hi]⟩
    rw [Zaq]
    simp -implicitDefEqProofs only [EQA,ZS,ZaX,Xg,Xo,Xe,↓reduceIte,gcT,gcA,Zq,Zj,Zd,Zi,Zw,Zb,Zv,Zl,Zt,ZmU,Zgy,h,Ziw,Zng,hi]
    exact ih
  ·have he:s.drop p=[]:=by rw [Wl];omega
   refine ⟨-1,?_,by rw [he];rfl⟩
   unfold Zid
   rw [Zaq]
   simp -implicitDefEqProofs only [EQA,Xg,Xe,↓reduceIte,ZiB,ZvH,Zkx,ZmU,Zgy,h]
end
section
theorem Zzz (n:Int):E 61 [.int .i64 n] []=some (.bool (decide (n > 8)),[]):=by
 rw [Zap (by rfl) ZvX]
 simp -implicitDefEqProofs only [EQA,Xg,Xe,reduceCtorEq,↓reduceIte,ZtI,Zlg,ZGQ]
theorem Zog (σ:Za) (sq own:Nat) (view:Bool) (n:Int):Zr E BY σ sq 61 own view [.int .i64 n]=some (.bool (decide (n > 8)),σ,{}) :=
 Zbp (Zzz n) (by kernel_rfl) (by simp -implicitDefEqProofs only [ZbO,ZK,eq_self]) (by simp -implicitDefEqProofs only [Zau,ZK,eq_self]) rfl (fun _=>rfl) _ _ _ _
theorem ZBq:ZbI.all ZI=true:=by kernel_rfl
theorem ZCV (s:List UInt8) (hl:s.length<=9223372036854775807):∃ z,E 53 [.str s,.str [43,35]] []=some (.int .i64 z,[])/\decide (z>=0)=Zao s:=by
 have e0:(([43,35]:List UInt8) == [])=false:=rfl
 have e1:((((2:Nat)):Int) == 1)=false:=rfl
 by_cases h:(s.length:Int) > 8
 ·obtain ⟨z,h1,h2⟩:=Zpq s hl s 0 rfl
  refine ⟨z,?_,h2⟩
  rw [Zap (by rfl) Zp1]
  unfold Zi7 at h1
  have z0:((0:Nat):Int)=0:=rfl
  rw [z0] at h1
  simp -implicitDefEqProofs only [EQA,Zau,ZS,ZaX,Xt,Xg,Xo,Xe,Xz,ZaU,reduceCtorEq,↓reduceIte,gcT,gcA,Zq,Zj,Zd,Zi,Zw,Zb,Zv,Zl,Zt,Zoz,ZhY,e0,e1,h,Zog,Zy6,ZC8,ZoI,Zpj,ZBq]
  exact h1
 ·obtain ⟨z,h1,h2⟩:=Znm s s.length 0 (by omega) (by omega)
  refine ⟨z,?_,h2⟩
  rw [Zap (by rfl) Zp1]
  unfold Zid at h1
  simp -implicitDefEqProofs only [EQA,ZS,ZaX,Xt,Xg,Xo,Xe,Xz,ZaU,reduceCtorEq,↓reduceIte,gcT,gcA,Zq,Zj,Zd,Zi,Zw,Zb,Zv,Zl,Zt,Zoz,ZhY,ZEE,Zkl,e0,e1,h,Zog]
  exact h1
theorem Zxn (s:List UInt8) (hl:s.length<=9223372036854775807):E 45 [.str s,.str [43,35]] []=some (.bool (Zao s),[]):=by
 obtain ⟨z,h1,h2⟩:=ZCV s hl
 have hC:∀ (σ:Za) (sq own:Nat) (view:Bool),Zr E BY σ sq 53 own view [.str s,.str [43,35]]=some (.int .i64 z,σ,{}):=fun _ _ _ _=>Zbp (h1) (by kernel_rfl) (by simp -implicitDefEqProofs only [ZbO,ZK,eq_self]) (by simp -implicitDefEqProofs only [Zau,ZK,eq_self]) rfl (fun _=>rfl) _ _ _ _
 rw [Zap (by rfl) ZCG,<-h2]
 simp -implicitDefEqProofs only [EQA,Xg,Xe,reduceCtorEq,↓reduceIte,Zsz,Zmo,ZDp,hC]
theorem Zqm (σ:Za) (sq own:Nat) (view:Bool) (s:List UInt8) (hl:s.length<=9223372036854775807):Zr E BY σ sq 45 own view [.str s,.str [43,35]]=some (.bool (Zao s),σ,{}) :=
 Zbp (Zxn s hl) (by kernel_rfl) (by simp -implicitDefEqProofs only [ZbO,ZK,eq_self]) (by simp -implicitDefEqProofs only [Zau,ZK,eq_self]) rfl (fun _=>rfl) _ _ _ _
def ZcD (s:List UInt8):Bool:=decide (1<=s.length) && decide (s.length<=64) && ZcV s
theorem ZtN (s:List UInt8):(decide ((s.length:Int)>=1) && decide ((s.length:Int)<=64) && ZcV s)=ZcD s:=by
 unfold ZcD
 congr 2
 ·congr 1;rw [eq_iff_iff];omega
 ·congr 1;rw [eq_iff_iff];omega
theorem Zre {s:List UInt8} (h:ZcD s=true):s.length<=64:=by
 simp only [ZcD,Xh,decide_eq_true_eq] at h;exact h.1.2
theorem Zvd (s:List UInt8):E 46 [.str s] []=some (.bool (ZcD s),[]):=by
 rw [Zap (by rfl) ZzU,<-ZtN]
 by_cases h1:(s.length:Int)>=1 <;> by_cases h2:(s.length:Int)<=64
 all_goals simp -implicitDefEqProofs only [EQA,Xg,Xe,ZG,ZaC,unG,reduceCtorEq,↓reduceIte,ZGi,Zkh,ZGX,h1,h2,ZGB]
theorem ZkL (σ:Za) (sq own:Nat) (view:Bool) (s:List UInt8):Zr E BY σ sq 46 own view [.str s]=some (.bool (ZcD s),σ,{}) :=
 Zbp (Zvd s) (by kernel_rfl) (by simp -implicitDefEqProofs only [ZbO,ZK,eq_self]) (by simp -implicitDefEqProofs only [Zau,ZK,eq_self]) rfl (fun _=>rfl) _ _ _ _
def ZaL (s:List UInt8):Bool:=ZcD s && !Zao s
theorem ZxB (s:List UInt8):E 33 [.str s] []=some (.bool (ZaL s),[]):=by
 rw [Zap (by rfl) ZI7]
 unfold ZaL
 cases h:ZcD s
 ·simp -implicitDefEqProofs only [EQA,Xg,Xe,ZG,ZaC,reduceCtorEq,↓reduceIte,ZpJ,ZhM,Zps,h,ZkL]
 ·have hC:=fun σ sq own view=>Zqm σ sq own view s (by have:=Zre h;omega)
  simp -implicitDefEqProofs only [EQA,Xg,Xe,unA,ZG,unG,reduceCtorEq,↓reduceIte,ZpJ,ZhM,Zps,h,ZkL,hC]
theorem Zeb (σ:Za) (sq own:Nat) (view:Bool) (s:List UInt8):Zr E BY σ sq 33 own view [.str s]=some (.bool (ZaL s),σ,{}) :=
 Zbp (ZxB s) (by kernel_rfl) (by simp -implicitDefEqProofs only [ZbO,ZK,eq_self]) (by simp -implicitDefEqProofs only [Zau,ZK,eq_self]) rfl (fun _=>rfl) _ _ _ _
end
section
def ixE (M:List (List UInt8×Int)):List (AVal×AVal):=M.map fun p=>(AVal.str p.1,AVal.int .i64 p.2)
def ixH (M:List (List UInt8×Int)):Za:=[.var [.map 1],.map (ixE M)]
def ZcN (n:List UInt8):List (List UInt8×Int)->Option Int
 | []=>none
 | p::r=>if n=p.1 then some p.2 else ZcN n r
def ZcG (n:List UInt8) (v:Int):List (List UInt8×Int)->List (List UInt8×Int)
 | []=>[(n,v)]
 | p::r=>if n=p.1 then (n,v)::r else p::ZcG n v r
def Zgm (n:List UInt8):List (List UInt8×Int)->List (List UInt8×Int)
 | []=>[]
 | p::r=>if n=p.1 then r else p::Zgm n r
theorem ZqS (n:List UInt8):∀ (M:List (List UInt8×Int)) (i:Nat),(ZcN n M=none/\Zbc (.str n) (ixE M) i=some none/\Zgm n M=M/\∀ v,ZcG n v M=M++[(n,v)]) \/
  ∃ j u,ZcN n M=some u/\Zbc (.str n) (ixE M) i=some (some (i+j,.int .i64 u))/\(ixE M).eraseIdx j=ixE (Zgm n M)/\∀ v,(ixE M).set j (.str n,.int .i64 v)=ixE (ZcG n v M)
 | [],i=>Xk ⟨rfl,rfl,rfl,fun _=>rfl⟩
 | p::M,i=>by
  have h0:Zbc (.str n) (ixE (p::M)) i=(match Zb0 (.str n) (.str p.1) with | some true=>some (some (i,AVal.int .i64 p.2)) | some false=>Zbc (.str n) (ixE M) (i+1) | none=>none):=rfl
  have h1:Zb0 (.str n) (.str p.1)=some (n == p.1):=rfl
  rw [h0,h1]
  by_cases h:n=p.1
  ·refine Xp ⟨0,p.2,by simp [ZcN,h],by simp [h],by simp [ixE,Zgm,h],fun v=>by simp [ixE,ZcG,h]⟩
  ·have h2:(n == p.1)=false:=by simpa using h
   rw [h2]
   simp only [ZcN,if_neg h,Zgm,ZcG]
   rcases ZqS n M (i+1) with ⟨g1,g2,g3,g4⟩ | ⟨j,u,g1,g2,g3,g4⟩
   ·exact Xk ⟨g1,g2,by rw [g3],fun v=>by rw [g4];rfl⟩
   ·refine Xp ⟨j+1,u,g1,by rw [g2];congr 3;omega,?_,fun v=>?_⟩
    ·show (_::ixE M).eraseIdx (j+1)=_
     rw [List.eraseIdx_cons_succ,g3];rfl
    ·show (_::ixE M).set (j+1) _=_
     rw [Xaj,g4];rfl
section
variable {σ:Za} {t:Nat} {M:List (List UInt8×Int)}
theorem ZxM (hs:σ[t]?=some (.map (ixE M))) (n:List UInt8) (v:Int):ZcW σ 2 (.map t) (.str n) (.int .i64 v)=some (.tup [],σ.set t (.map (ixE (ZcG n v M))),{ wr:=[t] }):=by
 unfold ZcW
 rw [if_pos ⟨rfl,rfl,rfl⟩]
 simp only [hs]
 rcases ZqS n M 0 with ⟨g1,g2,_,g4⟩ | ⟨j,u,g1,g2,_,g4⟩
 ·rw [g2,g4];simp [ixE]
 ·rw [g2];simp only [Xw];rw [g4]
end
theorem Zlb (M:List (List UInt8×Int)):Zt (.map (ixE M))=[]:=by
 induction M with
 | nil=>rfl
 | cons x M ih =>
  show ZU (.int .i64 x.2)++Zt (.map (ixE M))=[]
  rw [ih];rfl
theorem Zxu (ρ:Rho) (g:Nat) (M:List (List UInt8×Int)):Zl ρ g (.map (ixE M))=.map (ixE M):=by
 show Zg.map ((ixE M).map fun p=>(p.1,Ze ρ p.2))=_
 congr 1
 unfold ixE
 rw [XY]
 rfl
theorem Za9 (ρ:Rho) (M:List (List UInt8×Int)):(ixE M).map (fun p=>(p.1,Ze ρ p.2))=ixE M:=by
 unfold ixE
 rw [XY]
 rfl
theorem ZfY {r:AVal} (hr:ZP r=true) (M:List (List UInt8×Int)) (σ:Za):Zar 2 (.var [.map 1]::.map (ixE M)::σ) r=some (r,ixH M):=by
 have hi:Zq 2 [r] (.var [.map 1]::.map (ixE M)::σ)=[0,1]:=by
  have hR:Wm 2=[0,1]:=rfl
  have h1:(Zg.var [.map 1]::.map (ixE M)::σ).getD 1 .free=.map (ixE M):=rfl
  have h0:(Zg.var [.map 1]::.map (ixE M)::σ).getD 0 .free=.var [.map 1]:=rfl
  have hb0:Zt (.var [.map 1])=[1]:=rfl
  simp only [Zq,Zu,(Zcm (fun _ _=>none) r hr).2,Xr,hR,XG,Wp,XE,h0,h1,Zlb,hb0]
  rfl
 have hρ:Zd (.var [.map 1]::.map (ixE M)::σ) 2 [0,1] 1 0=some (1,0):=rfl
 simp only [Zar,gcA,hi,Zi,Zp,(Zcm _ r hr).1]
 have h1:(Zg.var [.map 1]::.map (ixE M)::σ).getD 1 .free=.map (ixE M):=rfl
 have h0:(Zg.var [.map 1]::.map (ixE M)::σ).getD 0 .free=.var [.map 1]:=rfl
 rw [h0,h1,Zxu]
 simp only [Zl,Zp,Ze,hρ,ixH]
theorem ZoP {O:Zz} {f own:Nat} {view:Bool} {args:List AVal} {M M':List (List UInt8×Int)} {q r0:AVal} {h0:Za} (hq:ZP q=true) (h:O f (.ref 0 0::args) (ixH M)=some (r0,h0)) (hask:Z4 view 2 (some (r0,h0))=some (q,ixH M')) (hb:BY f=false) (hp:args.all Z7=true) (hn:args.map ZH=args) {σ:Za} {t m sq:Nat} (htm:t≠m) (hs:σ[t]?=some (.var [.map m])) (hm:σ[m]?=some (.map (ixE M))) (hff:Zac σ sq own=true) :
  Zr O BY σ sq f own view (.ref t 0::args)=some (q,(σ.set t (.var [.map m])).set m (.map (ixE M')),{ any:=true,upd:=[(t,[.map m])] }):=by
 have htl:t < σ.length:=(Xc.1 hs).1
 have hml:m < σ.length:=(Xc.1 hm).1
 have h1:σ.getD t .free=.var [.map m]:=by simp [Xd,hs]
 have h2:σ.getD m .free=.map (ixE M):=by simp [Xd,hm]
 have hsh:showAs σ (.ref t 0::args)=some (.ref t 0::args.map ZH,[]):=by
  rw [showAs,show showA σ (.ref t 0)=some (.ref t 0,[]) from rfl,Zfj hp]
  rfl
 have href:Zu (.ref t 0::args.map ZH)=[t]:=by
  rw [Zu,ZeI hp];rfl
 have hre:Zj σ 1000 (Zu (.ref t 0::args.map ZH)) []=[t,m]:=by
  have e0:([]:List Nat).contains t=false:=rfl
  have e1:([t]:List Nat).contains m=false:=by simp;exact fun e=>htm e.symm
  rw [href,show (1000:Nat)=997+1+1+1 from rfl]
  have hb0:Zt (.var [.map m])=[m]:=rfl
  simp only [Zj,e0,h1,hb0,XE,Xr,Xf,if_false,e1,h2,Zlb,XC]
 have hρt:Zd σ 0 [t,m] t 0=some (0,0):=by simp [Zd,Zw,hs,Zb,Zv]
 have hρm:Zd σ 0 [t,m] m 0=some (1,0):=by
  simp [Zd,Zw,hm,Zb,Zv,htm]
 have hvs:Zp (Zd σ 0 [t,m]) (.ref t 0::args.map ZH)=.ref 0 0::args:=by
  rw [Zp,ZeK hp,hn]
  simp only [Ze,hρt]
 have hh:Zi σ 0 [t,m] (Zd σ 0 [t,m]) [t,m] 0=ixH M:=by
  simp only [Zi,h1,h2,Zl,Za9,Zp,Ze,hρm,ixH]
 have hall:([t,m].all fun t=>okB (σ.getD t .free))=true:=by simp only [X3,Ww,h1,h2,okB,Wh]
 have hk:Z5 σ [t,m] (ixH M') 0=true:=by simp [ixH,Z5,okB,Za6,Zb,hs,hm]
 have hρb:Zah σ [t,m] sq 1 0=some (m,0):=by simp [Zah,Zb,hm]
 have hlay:ZY σ [t,m] sq (ixH M') 0 σ=(σ.set t (.var [.map m])).set m (.map (ixE M')):=by
  simp [ixH,ZY,ZO,Zl,Za9,Zp,Ze,hρb,Xd]
 refine ZdG hb hsh hre rfl hall hvs hh h hask (by simp [ixH]) (by simp [ixH]) hk hff (Zcm _ q hq).1 hlay ?_
 have h3:((σ.set t (.var [.map m])).set m (.map (ixE M')))[t]?=some (.var [.map m]):=by
  rw [Xj,if_neg (fun e=>htm e.symm),Xj,if_pos rfl,if_pos htl]
 have h4:((σ.set t (.var [.map m])).set m (.map (ixE M')))[m]?=some (.map (ixE M')):=by
  rw [Xj,if_pos rfl,if_pos (by simpa using hml)]
 simp [ZaI,h3,h4]
theorem Zy8 {view:Bool} {M':List (List UInt8×Int)} {q:AVal} (hq:ZP q=true) (hv:viewR (ixH M') q=some (q,[])):Z4 view 2 (some (q,ixH M'))=some (q,ixH M'):=by
 unfold Z4
 split
 ·have hnp:∀ x,q=.pan x->False:=by rintro x rfl;simp [viewR,ZbH,ZaT] at hv
  have : Zcv 2 (some (q,ixH M'))=(match viewR (ixH M') q with
   | some (r',ts)=>match gcA 2 [r'] (Zo (ixH M') ts) with
    | ([r''],σ')=>some (r'',σ')
    | _=>none
   | none=>none):=by
   cases q <;> first | rfl | exact (hnp _ rfl).elim
  rw [this,hv]
  exact ZfY hq M' []
 ·rfl
theorem ZBE {O:Zz} {f own:Nat} {view:Bool} {args:List AVal} {M M':List (List UInt8×Int)} {q:AVal} (hq:ZP q=true) (hv:viewR (ixH M') q=some (q,[])) (h:O f (.ref 0 0::args) (ixH M)=some (q,ixH M')) (hb:BY f=false) (hp:args.all Z7=true) (hn:args.map ZH=args) {σ:Za} {t m sq:Nat} (htm:t≠m) (hs:σ[t]?=some (.var [.map m])) (hm:σ[m]?=some (.map (ixE M))) (hff:Zac σ sq own=true) :
  Zr O BY σ sq f own view (.ref t 0::args)=some (q,(σ.set t (.var [.map m])).set m (.map (ixE M')),{ any:=true,upd:=[(t,[.map m])] }) :=
 ZoP hq h (Zy8 hq hv) hb hp hn htm hs hm hff
theorem ZEM {O:Zz} {f:Nat} {args vs:List AVal} {ts:List Nat} {M:List (List UInt8×Int)} {σ:Za} {sq:Nat} (hb:BY f=false) (hsh:showAs σ args=some (vs,ts)) (hp:vs.all Z7=true) (hn:vs.map ZH=vs) (h:O f vs []=some (.ref 0 0,ixH M)) (hff:Zac (Zo σ ts) sq 2=true) :
  Zr O BY σ sq f 2 false args=some (.ref sq 0,((Zo σ ts).set sq (.var [.map (sq+1)])).set (sq+1) (.map (ixE M)),{ any:=true }):=by
 have hr:=ZeI hp
 have hn':=fun ρ=>ZeK (ρ:=ρ) hp
 rw [hn] at hr
 simp only [hn] at hn'
 have hd:ZeJ 2 (.ref 0 0) (ixH M)=none:=rfl
 have hk:Z5 (Zo σ ts) [] (ixH M) 0=true:=rfl
 unfold Zr Zbt
 rw [hb]
 simp only [Xf,if_false,hsh]
 rw [hr]
 have h2:∀ σ,Zj σ 1000 [] []=[]:=fun _=>rfl
 rw [h2]
 unfold ZaS
 simp only [Ww,if_true,hn',Zi,XT,h]
 have hk2:decide ((ixH M).length<=0+2)=true:=rfl
 simp only [Z4,Xf,if_false,Z9,Xab,show (ixH M).isEmpty=false from rfl,Xbv,if_true,hd,XT,hk2,Xao,decide_true,hk,hff,Wh]
 simp [ixH,ZY,ZO,Zah,Zl,Zp,Ze,Za9,ZaI]
end
section
abbrev Tx:=List UInt8
abbrev TN:=List (Tx×Int)×List (Tx×Nat)
section
variable {α:Type}
def Zm (n:Tx):List (Tx×α)->Option α
 | []=>none
 | p::r=>if n=p.1 then some p.2 else Zm n r
def Zas (n:Tx) (v:α):List (Tx×α)->List (Tx×α)
 | []=>[(n,v)]
 | p::r=>if n=p.1 then (n,v)::r else p::Zas n v r
def Zbn (n:Tx):List (Tx×α)->List (Tx×α)
 | []=>[]
 | p::r=>if n=p.1 then r else p::Zbn n r
theorem ZpB (a b:Tx):Zb0 (.str a) (.str b)=some (decide (a=b)):=by
 show some (a == b)=_
 congr 1
 rw [WX];simp
theorem Zma (f:α->AVal) (n:Tx):∀ (M:List (Tx×α)) (i:Nat),(Zm n M=none/\Zbc (.str n) (M.map fun p=>(AVal.str p.1,f p.2)) i=some none)\/∃ j u,Zm n M=some u/\Zbc (.str n) (M.map fun p=>(AVal.str p.1,f p.2)) i=some (some (i+j,f u))
 | [],i=>Xk ⟨rfl,rfl⟩
 | p::M,i=>by
  simp only [XA,Zbc,ZpB,Zm]
  by_cases h:n=p.1
  ·exact Xp ⟨0,p.2,by simp [h],by simp [h]⟩
  ·simp only [h,decide_false,if_false]
   rcases Zma f n M (i+1) with ⟨g1,g2⟩ | ⟨j,u,g1,g2⟩
   ·exact Xk ⟨g1,g2⟩
   ·exact Xp ⟨j+1,u,g1,by rw [g2];congr 3;omega⟩
theorem ZlG {β:Type} (f:α->β) (n:Tx) (v:α):∀ M:List (Tx×α),Zdp (.str n) (f v) (M.map fun p=>(AVal.str p.1,f p.2))=some ((Zas n v M).map fun p=>(AVal.str p.1,f p.2))
 | []=>rfl
 | p::M=>by
  simp only [XA,Zdp,ZpB,Zas]
  by_cases h:n=p.1
  ·simp [h]
  ·simp [h,ZlG f n v M]
end
theorem Zaz (n:Nat):(1000<=1000+3*n)=True:=by simp
theorem Zco (i:Nat):(1000<=1001+(3*i+1))=True:=by simp;omega
theorem ZdH (i:Nat):(1000<=1001+3*i)=True:=by simp;omega
def eV (M:List (Tx×Int)):List (AVal×AVal):=M.map fun p=>(AVal.str p.1,AVal.int .i64 p.2)
def eX (X:List (Tx×Nat)):List (AVal×Nat):=X.map fun p=>(AVal.str p.1,p.2)
def eN (d:TN):List (AVal×AVal)×List (AVal×Nat):=(eV d.1,eX d.2)
def eNs (ns:List TN):ZD:=ns.map eN
theorem ZbU {ns:List TN} {j:Nat} {d:TN} (h:ns[j]?=some d):(eNs ns)[j]?=some (eN d):=by unfold eNs;rw [XN,h];rfl
theorem ZhP (ns:List TN):(eNs ns).length=ns.length:=by simp [eNs]
theorem Zoy (ns:List TN) (j:Nat) (d:TN):(eNs ns).set j (eN d)=eNs (ns.set j d):=by simp [eNs,List.map_set]
theorem ZIu (ns:List TN):eNs ns++[([],[])]=eNs (ns++[([],[])]):=by simp [eNs,eN,eV,eX]
theorem ZFT (t:Nat) (d:TN):Zbd t (eN d) false=d.1.map fun p=>(AVal.str p.1,AVal.int .i64 p.2):=rfl
theorem ZHr (t:Nat) (d:TN):Zbd t (eN d) true=d.2.map fun p=>(AVal.str p.1,AVal.nref t p.2 0):=by
 simp [Zbd,eN,eX,XY,Function.comp_def]
theorem ZCf {σ:Za} {t:Nat} {ns:ZD} (h:σ[t]?=some (.arena ns)):Z2 σ t=some ns:=by unfold Z2;rw [h]
section
variable {σ:Za} {t j:Nat} {ns:List TN} {d:TN}
theorem ZHP (hs:Z2 σ t=some (eNs ns)) (hj:ns[j]?=some d) (n:Tx):ZbS σ 2 (.int .i64 0) true (.mapg t j false) (.str n)=some (.tup [.int .i64 ((Zm n d.1).getD 0),.bool (Zm n d.1).isSome],σ,{ rd:=[t] }):=by
 unfold ZbS
 rw [if_pos (show ZT (AVal.str n)=2 from rfl)]
 simp only [hs,ZbU hj,ZFT]
 rcases Zma (AVal.int .i64) n d.1 0 with ⟨g1,g2⟩ | ⟨i,u,g1,g2⟩
 ·simp only [g2,g1];rfl
 ·simp only [g2,g1];rfl
def nxV (t:Nat):Option Nat->AVal
 | some i=>.nref t i 0
 | none=>.nilp
theorem ZeA (hs:Z2 σ t=some (eNs ns)) (hj:ns[j]?=some d) (n:Tx):ZbS σ 2 .nilp false (.mapg t j true) (.str n)=some (nxV t (Zm n d.2),σ,{ rd:=[t] }):=by
 unfold ZbS
 rw [if_pos (show ZT (AVal.str n)=2 from rfl)]
 simp only [hs,ZbU hj,ZHr]
 rcases Zma (fun i=>AVal.nref t i 0) n d.2 0 with ⟨g1,g2⟩ | ⟨i,u,g1,g2⟩
 ·simp only [g2,g1];rfl
 ·simp only [g2,g1];rfl
theorem ZBn (hs:σ[t]?=some (.arena (eNs ns))) (hj:ns[j]?=some d) (n:Tx) (v:Int):ZcW σ 2 (.mapg t j false) (.str n) (.int .i64 v)=some (.tup [],σ.set t (.arena (eNs (ns.set j (Zas n v d.1,d.2)))),{ wr:=[t] }):=by
 unfold ZcW
 rw [if_pos ⟨rfl,rfl,rfl⟩]
 have h1:Zdp (.str n) (AVal.int .i64 v) (eN d).1=some (eV (Zas n v d.1)):=ZlG (AVal.int .i64) n v d.1
 simp only [hs,ZbU hj,Xf,if_false,show Zag (AVal.int .i64 v)=true from rfl,if_true,h1]
 rw [show (eV (Zas n v d.1),(eN d).2)=eN (Zas n v d.1,d.2) from rfl,Zoy]
theorem ZFO {s:Nat} (hs:σ[t]?=some (.arena (eNs ns))) (hj:ns[j]?=some d) (hs':σ[s]?=some (.arena [([],[])])) (hst:s≠t) (n:Tx):ZcW σ 2 (.mapg t j true) (.str n) (.nref s 0 0)=some (.tup [],(σ.set s (.dead 3)).set t (.arena (eNs (ns.set j (d.1,Zas n ns.length d.2)++[([],[])]))),{ wr:=[t],any:=true }):=by
 unfold ZcW
 rw [if_pos ⟨rfl,rfl,rfl⟩]
 have h1:Zdp (.str n) ns.length (eN d).2=some (eX (Zas n ns.length d.2)):=ZlG (fun i=>i) n ns.length d.2
 simp only [hs,ZbU hj,if_true,if_neg hst,hs',ZhP,h1]
 rw [show ((eN d).1,eX (Zas n ns.length d.2))=eN (d.1,Zas n ns.length d.2) from rfl,Zoy,ZIu]
end
def goT (ns:List TN):Nat->List Tx->Option Nat
 | j,[]=>some j
 | j,l::r=>match ns[j]? with
  | some d=>match Zm l d.2 with
   | some i=>goT ns i r
   | none=>none
  | none=>none
def Closed (ns:List TN):Prop:=∀ (j:Nat) (d:TN),ns[j]?=some d->∀ p ∈ d.2,j < p.2/\p.2 < ns.length
theorem ZnY {α:Type} {n:Tx} {v:α}:∀ {M:List (Tx×α)},Zm n M=some v->(n,v) ∈ M
 | [],h=>by cases h
 | p::M,h=>by
  simp only [Zm] at h
  split at h
  ·rename_i e;injection h with h;subst e h;simp
  ·exact X7 _ (ZnY h)
theorem Closed.next {ns:List TN} (h:Closed ns) {j:Nat} {d:TN} (hj:ns[j]?=some d) {n:Tx} {i:Nat} (hi:Zm n d.2=some i):j < i/\i < ns.length:=h j d hj _ (ZnY hi)
end
section
theorem Zej {σ:Za} {m t j:Nat} {A:ZD} {ids:List Nat} (hs:σ[t]?=some (.arena A)) {i:Nat} (hi:Zw t ids 0=some i) {g:Nat} (hg:1000<=g):Zd σ m ids t g=some (i,g):=by
 have hb:1000<=Zb (.arena A):=by simp [Zb]
 unfold Zd
 simp only [hi,hs]
 rw [if_pos hb,if_pos hg]
theorem Zo9 {r:AVal} (hr:ZP r=true\/∃ i,r=.nref 0 i 0) (A:ZD) (σ:Za):Zar 1 (.arena A::σ) r=some (r,[.arena A]):=by
 have hR:Wm 1=[0]:=rfl
 have hb0:Zt (.arena A)=[]:=rfl
 have h0:(Zg.arena A::σ).getD 0 .free=.arena A:=rfl
 have hρ:∀ g,1000<=g->Zd (.arena A::σ) 1 [0] 0 g=some (0,g):=fun g hg=>Zej (j:=0) (by rfl) (by rfl) hg
 have hre:Ze (Zd (.arena A::σ) 1 [0]) r=r:=by
  rcases hr with hr | ⟨i,rfl⟩
  ·exact (Zcm _ r hr).1
  ·simp only [Ze,hρ (1001+3*i) (by omega),if_true]
 have hi:Zq 1 [r] (.arena A::σ)=[0]:=by
  rcases hr with hr | ⟨i,rfl⟩
  ·simp only [Zq,Zu,(Zcm (fun _ _=>none) r hr).2,hR,XG,Wp,XE,h0,hb0]
   rfl
  ·simp only [Zq,Zu,ZU,hR,XG,Wp,XE,h0,hb0]
   rfl
 simp only [Zar,gcA,hi,Zi,Zp,hre,h0,Zl]
theorem ZFa {view:Bool} {A:ZD} {q:AVal} (hq:ZP q=true\/∃ i,q=.nref 0 i 0) (hv:viewR [.arena A] q=some (q,[])):Z4 view 1 (some (q,[.arena A]))=some (q,[.arena A]):=by
 unfold Z4
 split
 ·have hnp:∀ x,q=.pan x->False:=by rintro x rfl;simp [viewR,ZbH,ZaT] at hv
  have : Zcv 1 (some (q,[.arena A]))=(match viewR [.arena A] q with
   | some (r',ts)=>match gcA 1 [r'] (Zo [.arena A] ts) with
    | ([r''],σ')=>some (r'',σ')
    | _=>none
   | none=>none):=by
   cases q <;> first | rfl | exact (hnp _ rfl).elim
  rw [this,hv]
  exact Zo9 hq A []
 ·rfl
theorem Zwd {O:Zz} {f own:Nat} {view:Bool} {args args':List AVal} {A A':ZD} {j:Nat} {q0 q r:AVal} {h0:Za} (h:O f (.nref 0 j 0::args') [.arena A]=some (q0,h0)) (hask:Z4 view 1 (some (q0,h0))=some (q,[.arena A'])) (hb:BY f=false) (hp:args.all Z7=true) (hn:args.map ZH=args')
  {σ:Za} {t sq:Nat} (hs:σ[t]?=some (.arena A)) (hlen:A.length<=A'.length) (hff:Zac σ sq own=true) (hr:Ze (Zah σ [t] sq) q=r) :
  Zr O BY σ sq f own view (.nref t j 0::args)=some (r,σ.set t (.arena A'),{ any:=true }):=by
 have htl:t < σ.length:=(Xc.1 hs).1
 have h1:σ.getD t .free=.arena A:=by simp [Xd,hs]
 have hsh:showAs σ (.nref t j 0::args)=some (.nref t j 0::args.map ZH,[]):=by
  rw [showAs,show showA σ (.nref t j 0)=some (.nref t j 0,[]) from rfl,Zfj hp]
  rfl
 have href:Zu (.nref t j 0::args.map ZH)=[t]:=by
  rw [Zu,ZeI hp];rfl
 have hre:Zj σ 1000 (Zu (.nref t j 0::args.map ZH)) []=[t]:=by
  rw [href]
  simp only [Zj,X4,Xf,if_false,h1,Zt,Xr]
 have hρ:∀ g,1000<=g->Zd σ 0 [t] t g=some (0,g):=fun g hg=>Zej (j:=0) hs (by simp [Zw]) hg
 have hvs:Zp (Zd σ 0 [t]) (.nref t j 0::args.map ZH)=.nref 0 j 0::args':=by
  rw [Zp,ZeK hp,hn]
  simp only [Ze,hρ (1001+3*j) (by omega),if_true]
 have hh:Zi σ 0 [t] (Zd σ 0 [t]) [t] 0=[.arena A]:=by simp only [Zi,h1,Zl]
 have hall:([t].all fun t=>okB (σ.getD t .free))=true:=by simp only [X3,Ww,h1,okB,Wh]
 have hk:Z5 σ [t] [.arena A'] 0=true:=by simp [Z5,okB,Za6,Zb,hs,hlen]
 have hlay:ZY σ [t] sq [.arena A'] 0 σ=σ.set t (.arena A'):=by simp [ZY,ZO,Zl]
 refine ZdG hb hsh hre rfl hall hvs hh h hask (by simp) (by simp) hk hff hr hlay ?_
 simp [ZaI,htl]
end
section
end
section
theorem Zzg:E 28 [] []=some (.nref 0 0 0,[.arena [([],[])]]):=Zbx.2 ⟨1,by rfl⟩
theorem ZFj {σ:Za} {sq:Nat} (hff:Zac σ sq 1=true):Zr E BY σ sq 28 1 false []=some (.nref sq 0 0,σ.set sq (.arena [([],[])]),{ any:=true }):=by
 have hd:ZeJ 1 (.nref 0 0 0) [.arena [([],[])]]=none:=rfl
 have hk:Z5 σ [] [.arena [([],[])]] 0=true:=rfl
 unfold Zr Zbt
 rw [show BY 28=false from by kernel_rfl]
 simp only [Xf,if_false,show showAs σ []=some ([],[]) from rfl,show Zo σ []=σ from rfl,Zu]
 have h2:∀ σ,Zj σ 1000 [] []=[]:=fun _=>rfl
 rw [h2]
 unfold ZaS
 simp only [Ww,if_true,Zp,Zi,XT,Zzg]
 simp only [Z4,Xf,if_false,Z9,Xab,Xat,Xbv,if_true,hd,XT,XD,Xw,XI,Xao,decide_true,hk,hff,Wh]
 simp [ZY,ZO,Zah,Zl,Ze,ZaI]
theorem Zik {α:Type} (n m:Tx) (v:α):∀ M:List (Tx×α),Zm m (Zas n v M)=if m=n then some v else Zm m M
 | []=>rfl
 | p::M=>by
  simp only [Zas]
  by_cases h:n=p.1
  ·rw [if_pos h]
   simp only [Zm]
   by_cases h2:m=n
   ·simp [h2]
   ·have h3:¬m=p.1:=fun e=>h2 (e.trans h.symm)
    simp [h2,h3]
  ·rw [if_neg h]
   simp only [Zm]
   by_cases h2:m=p.1
   ·have h3:¬m=n:=fun e=>h (e.symm.trans h2)
    simp [h2]
    intro e
    exact absurd e.symm h
   ·simp only [h2,if_false]
    exact Zik n m v M
def ZR (k:Tx) (v:Int):List Tx->List TN->Nat->List TN×Bool
 | [],ns,j=>match ns[j]? with
  | some d=>(ns.set j (Zas k v d.1,d.2),(Zm k d.1).isSome)
  | none=>(ns,false)
 | l::r,ns,j=>match ns[j]? with
  | some d=>match Zm l d.2 with
   | some i=>ZR k v r ns i
   | none=>ZR k v r (ns.set j (d.1,Zas l ns.length d.2)++[([],[])]) ns.length
  | none=>(ns,false)
def newN (ns:List TN) (j:Nat) (d:TN) (l:Tx):List TN:=ns.set j (d.1,Zas l ns.length d.2)++[([],[])]
theorem Zdv (ns:List TN) (j:Nat) (d:TN) (l:Tx):(newN ns j d l).length=ns.length+1:=by simp [newN]
theorem ZeN {ns:List TN} {j:Nat} (hj:j < ns.length) (d:TN) (l:Tx):(newN ns j d l)[j]?=some (d.1,Zas l ns.length d.2):=by
 unfold newN
 rw [Wa (by simpa using hj),XJ hj]
theorem Zfa (ns:List TN) (j:Nat) (d:TN) (l:Tx):(newN ns j d l)[ns.length]?=some ([],[]):=by
 unfold newN
 rw [Ws (by simp)]
 simp
theorem Zhj {ns:List TN} {j i:Nat} (d:TN) (l:Tx) (hi:i < ns.length) (hne:i≠j):(newN ns j d l)[i]?=ns[i]?:=by
 unfold newN
 rw [Wa (by simpa using hi),Xs (fun e=>hne e.symm)]
theorem Zhp {α:Type} {n:Tx} {v:α} {q:Tx×α}:∀ {M:List (Tx×α)},q ∈ Zas n v M->q=(n,v)\/q ∈ M
 | [],h=>by simp only [Zas,List.mem_singleton] at h;exact Xk h
 | p::M,h=>by
  simp only [Zas] at h
  split at h
  ·rcases Xv.1 h with h | h
   ·exact Xk h
   ·exact Xp (X7 _ h)
  ·rcases Xv.1 h with h | h
   ·exact Xp (by rw [h];simp)
   ·rcases Zhp h with h | h
    ·exact Xk h
    ·exact Xp (X7 _ h)
theorem Closed.newN {ns:List TN} (hC:Closed ns) {j:Nat} {d:TN} (hd:ns[j]?=some d) (l:Tx):Closed (newN ns j d l):=by
 have hj:=(Xc.1 hd).1
 intro i d' hi p hp
 rw [Zdv]
 by_cases h1:i=j
 ·subst h1
  rw [ZeN hj] at hi
  injection hi with hi
  subst hi
  rcases Zhp hp with rfl | hp
  ·exact ⟨hj,Nat.lt_succ_self _⟩
  ·have:=hC i d hd p hp;omega
 ·by_cases h2:i < ns.length
  ·rw [Zhj d l h2 h1] at hi
   have:=hC i d' hi p hp;omega
  ·have h3:i=ns.length:=by
    have:=(Xc.1 hi).1
    rw [Zdv] at this;omega
   subst h3
   rw [Zfa] at hi
   injection hi with hi
   subst hi
   cases hp
theorem Closed.vals {ns:List TN} (hC:Closed ns) {j:Nat} {d:TN} (hd:ns[j]?=some d) (M:List (Tx×Int)):Closed (ns.set j (M,d.2)):=by
 have hj:=(Xc.1 hd).1
 intro i d' hi p hp
 rw [Wq]
 rw [Xj] at hi
 by_cases e:j=i
 ·subst e
  rw [if_pos rfl,if_pos hj] at hi
  injection hi with hi
  subst hi
  exact hC _ d hd p hp
 ·rw [if_neg e] at hi
  exact hC i d' hi p hp
theorem Zlk (k:Tx) (v:Int) (ls:List Tx) (hl:ls.length<=2000000):∀ (r:List Tx) (i j:Nat) (ns:List TN),Closed ns->ls.drop i=r->j < ns.length ->
  Zg9 1 [(15,.int .i64 (i:Int)),(14,.int .i64 (ls.length:Int)),(13,.lst false (ls.map AVal.str)),(3,.int .i64 v),(2,.str k),(0,.nref 0 j 0)] [.arena (eNs ns)]=some (.bool (ZR k v r ns j).2,[.arena (eNs (ZR k v r ns j).1)])
 | [],i,j,ns,hC,h,hj=>by
  have h1:=ZdF h
  have h2:¬((i:Int) < ls.length):=by omega
  obtain ⟨d,hd⟩:∃ d,ns[j]?=some d:=⟨_,Xm hj⟩
  have hs:Z2 [.arena (eNs ns)] 0=some (eNs ns):=rfl
  have q1:=ZbU hd
  have q2:=ZHP hs hd k
  have q3:=ZBn (σ:=[.arena (eNs ns)]) (t:=0) rfl hd k v
  have e0:ZR k v [] ns j=(ns.set j (Zas k v d.1,d.2),(Zm k d.1).isSome):=by simp only [ZR,hd]
  rw [e0]
  have ho:=fun σ=>Zo9 (r:=.bool (Zm k d.1).isSome) (Xk rfl) (eNs (ns.set j (Zas k v d.1,d.2))) σ
  unfold Zg9
  simp only [W7] at q3 ⊢
  generalize ls.map AVal.str=S at *
  generalize eNs (ns.set j (Zas k v d.1,d.2))=B at *
  generalize eN d=D at *
  generalize eNs ns=A at *
  generalize (Zm k d.1).isSome=b at *
  rw [Zaq]
  simp -implicitDefEqProofs only [EQA,Za4,Xg,Xe,reduceCtorEq,↓reduceIte,ZFw,ZIF,Zl3,Zlm,Zgt,h1,hs,q1,q2,q3,ho]
 | l::r,i,j,ns,hC,h,hj=>by
  obtain ⟨g1,d1,l1⟩:=Zbf h
  have h1:(i:Int) < ls.length:=by omega
  have hm:(ls.map AVal.str).length=ls.length:=by simp
  have e1:=iad g1 AVal.str (k:=1) rfl
  have e3:=Zdf h1 (by omega)
  obtain ⟨d,hd⟩:∃ d,ns[j]?=some d:=⟨_,Xm hj⟩
  have hs:Z2 [.arena (eNs ns)] 0=some (eNs ns):=rfl
  have q1:=ZbU hd
  have q2:=ZeA hs hd l
  have hcell:(AVal.str l).cells=[.str l]:=rfl
  rw [hcell] at e1
  cases hk:Zm l d.2 with
  | some i' =>
   have hc:=hC.next hd hk
   have e0:ZR k v (l::r) ns j=ZR k v r ns i':=by simp only [ZR,hd,hk]
   rw [e0]
   rw [hk] at q2
   have ih:=Zlk k v ls hl r (i+1) i' ns hC d1 hc.2
   unfold Zg9 at *
   simp only [nxV] at q2
   generalize ls.map AVal.str=S at *
   generalize eNs (ZR k v r ns i').1=W1 at *
   generalize (ZR k v r ns i').2=W2 at *
   generalize eN d=D at *
   generalize eNs ns=A at *
   rw [Zaq]
   simp -implicitDefEqProofs only [EQA,Za4,ZS,ZaX,Xg,Xe,reduceCtorEq,↓reduceIte,gcT,gcA,Zq,Zj,Zd,Zi,Zw,Zb,Zl,Zt,XU,Zlm,Zgt,h1,e1,e3,hs,q1,q2,Zaz,ZdH]
   exact ih
  | none =>
   have e0:ZR k v (l::r) ns j=ZR k v r (newN ns j d l) ns.length:=by simp only [ZR,hd,hk,newN]
   rw [e0]
   rw [hk] at q2
   have hC':=hC.newN hd l
   have ih:=Zlk k v ls hl r (i+1) ns.length (newN ns j d l) hC' d1 (by rw [Zdv];omega)
   have q3:=ZFO (σ:=[.arena (eNs ns),.arena [([],[])]]) (t:=0) (s:=1) rfl hd rfl (by decide) l
   have hs2:∀ σ,Z2 (.arena (eNs (newN ns j d l))::σ) 0=some (eNs (newN ns j d l)):=fun _=>rfl
   have q4:=fun σ=>ZeA (hs2 σ) (ZeN hj d l) l
   have q5:=ZbU (ZeN hj d l)
   simp only [Zik,if_true,nxV] at q2 q4
   have hm2:=fun {σ:Za} {sq:Nat} h=>ZFj (σ:=σ) (sq:=sq) h
   have hs0:∀ σ,Z2 (.arena (eNs ns)::σ) 0=some (eNs ns):=fun _=>rfl
   rw [show ns.set j (d.1,Zas l ns.length d.2)++[([],[])]=newN ns j d l from rfl] at q3
   simp only [W7,Xaj] at q3
   unfold Zg9 at *
   generalize ls.map AVal.str=S at *
   generalize eNs (ZR k v r (newN ns j d l) ns.length).1=W1 at *
   generalize (ZR k v r (newN ns j d l) ns.length).2=W2 at *
   generalize eN (d.1,Zas l ns.length d.2)=D2 at *
   generalize eNs (newN ns j d l)=A2 at *
   generalize eN d=D at *
   generalize eNs ns=A at *
   rw [Zaq]
   simp -implicitDefEqProofs only [EQA,Za4,ZS,ZaX,Xt,Xg,Xe,Xz,reduceCtorEq,↓reduceIte,gcT,gcA,Zq,Zj,Zd,Zi,Zw,Zb,Zl,Zt,XU,Zlm,Zgt,h1,e1,e3,hs,hs0,hs2,q1,q2,q3,q4,q5,hm2,Zac,Zaz,ZdH,ZaM,ZaW,Zbi,Zb1,Zc3,ZcE,Zdi,Zda,Zby]
   exact ih
theorem Zuu (ns:List TN) (hC:Closed ns) (ls:List Tx) (hl:ls.length<=2000000) (j:Nat) (hj:j < ns.length) (k:Tx) (v:Int) :
  E 30 [.nref 0 j 0,.lst false (ls.map AVal.str),.str k,.int .i64 v] [.arena (eNs ns)]=some (.bool (ZR k v ls ns j).2,[.arena (eNs (ZR k v ls ns j).1)]):=by
 have h:=Zlk k v ls hl ls 0 j ns hC rfl hj
 have hm:(ls.map AVal.str).length=ls.length:=by simp
 have z0:((0:Nat):Int)=0:=rfl
 rw [z0] at h
 unfold Zg9 at h
 generalize eNs (ZR k v ls ns j).1=W1 at *
 generalize (ZR k v ls ns j).2=W2 at *
 generalize ls.map AVal.str=S at *
 generalize eNs ns=A at *
 rw [Zap (by rfl) ZCU]
 simp -implicitDefEqProofs only [EQA,ZS,Xt,Xg,Xe,reduceCtorEq,↓reduceIte,gcT,gcA,Zq,Zj,Zd,Zi,Zw,Zb,Zl,Zt,XU,ZuV,ZjG,hm,Zaz,ZdH]
 exact h
theorem Zis (k:Tx) (v:Int):∀ (r:List Tx) (ns:List TN) (j:Nat),ns.length<=(ZR k v r ns j).1.length
 | [],ns,j=>by
  simp only [ZR]
  split <;> simp
 | l::r,ns,j=>by
  simp only [ZR]
  split
  ·rename_i d hd
   split
   ·exact Zis k v r ns _
   ·have:=Zis k v r (newN ns j d l) ns.length
    rw [Zdv] at this
    exact Nat.le_trans (Nat.le_succ _) this
  ·exact XI _
end
section
def Zk8:Zc:=(.seq (.region [oI 4 (.mov (.c (.bool true)))] none [4]) .ret)
def ZlY:Zc:=Zk8
def Zz9:=xw ZlY Zk8 rfl
def ZjI:Zc:=(.region [oM 68 9,oI 69 (.bin .add (.t 68) (.c (.int .i64 1))),oM 9 69] none [9,6,5,1,0])
def ZoE:Zc:=ZjI
def ZBv:=xw ZoE ZjI rfl
def Zj4:Zc:=(.region [oM 74 10,oI 75 (.bin .add (.t 74) (.c (.int .i64 1))),oM 10 75] none [10,9,6,5,1,0])
def ZrV:Zc:=Zj4
def Zzy:=xw ZrV Zj4 rfl
def ZjJ:Zc:=(.seq (.region [oM 126 11,oM 127 12,oI 128 (.beq true (.t 126) (.t 127))] none [128,10,9,6,5,1,0]) (.cond (.t 128) (.seq (.region [oI 4 (.mov (.c (.bool false)))] none [4]) .ret) .skip))
def ZrL:Zc:=ZjJ
def ZyN:=xw ZrL ZjJ rfl
def ZgI:Zc:=(.seq (.seq (.region [oM 107 15,oM 108 13,oI 109 (.len (.t 108)),oI 110 (.bin .lss (.t 107) (.t 109))] none [110,15,13,12,11,10,9,6,5,1,0]) (.cond (.t 110) .skip (.exit 10))) (.seq (.block 11 (.region [oM 113 12,oM 114 113,⟨(some 115),(.mov (.t 13)),(some (114,false)),[]⟩,⟨(some 116),(.mov (.t 15)),(some (114,false)),[]⟩,⟨(some 117),(.iaddr 3 (.t 115) (.t 116)),(some (114,false)),[]⟩,⟨(some 118),(.faddr 0 (.t 117)),(some (114,false)),[]⟩,⟨(some 119),(.ld none (.t 118)),(some (114,false)),[]⟩,⟨(some 120),(.mov (.t 1)),(some (114,false)),[]⟩,⟨(some 121),(.mov (.t 10)),(some (114,false)),[]⟩,⟨(some 122),(.iaddr 1 (.t 120) (.t 121)),(some (114,false)),[]⟩,⟨(some 123),(.ld none (.t 122)),(some (114,false)),[]⟩,⟨(some 124),(.bin .eql (.t 119) (.t 123)),(some (114,false)),[]⟩,oI 125 (.pick (.t 114) (.c (.bool true)) (.t 124)),oM 12 125] (some [(4,9),(6,9),(4,10),(6,10)]) [15,13,12,11,10,9,6,5,1,0])) (.region [oM 111 15,oI 112 (.bin .add (.t 111) (.c (.int .i64 1))),oM 15 112] none [15,13,12,11,10,9,6,5,1,0])))
def ZkQ:Zc:=ZgI
def Zls:=xw ZkQ ZgI rfl
def Zmj:Zc:=(.seq (.region [oM 101 6,oM 102 0,oM 103 9,oI 104 (.iaddr 1 (.t 102) (.t 103)),oL 105 104,oI 106 (.call 15 0 true [(.t 101),(.t 105)]),oM 13 106] none [13,12,11,10,9,6,5,1,0]) (.seq (.seq (.region [oI 15 (.mov (.c (.int .i64 0)))] none [15,13,12,11,10,9,6,5,1,0]) (.block 10 (.loop [15,13,12,11,10,9,6,5,1,0] ZkQ))) ZrL))
def Zod:Zc:=Zmj
def ZxA:=xw Zod Zmj rfl
def Zgj:Zc:=(.seq (.seq (.region [oM 82 14,oM 83 13,oI 84 (.len (.t 83)),oI 85 (.bin .lss (.t 82) (.t 84))] none [85,14,13,12,11,10,9,6,5,1,0]) (.cond (.t 85) .skip (.exit 8))) (.seq (.block 9 (.region [oM 88 11,oM 89 88,⟨(some 90),(.mov (.t 13)),(some (89,false)),[]⟩,⟨(some 91),(.mov (.t 14)),(some (89,false)),[]⟩,⟨(some 92),(.iaddr 3 (.t 90) (.t 91)),(some (89,false)),[]⟩,⟨(some 93),(.faddr 0 (.t 92)),(some (89,false)),[]⟩,⟨(some 94),(.ld none (.t 93)),(some (89,false)),[]⟩,⟨(some 95),(.mov (.t 0)),(some (89,false)),[]⟩,⟨(some 96),(.mov (.t 9)),(some (89,false)),[]⟩,⟨(some 97),(.iaddr 1 (.t 95) (.t 96)),(some (89,false)),[]⟩,⟨(some 98),(.ld none (.t 97)),(some (89,false)),[]⟩,⟨(some 99),(.bin .eql (.t 94) (.t 98)),(some (89,false)),[]⟩,oI 100 (.pick (.t 89) (.c (.bool true)) (.t 99)),oM 11 100] (some [(4,9),(6,9),(4,10),(6,10)]) [14,13,12,11,10,9,6,5,1,0])) (.region [oM 86 14,oI 87 (.bin .add (.t 86) (.c (.int .i64 1))),oM 14 87] none [14,13,12,11,10,9,6,5,1,0])))
def Zjr:Zc:=Zgj
def ZkB:=xw Zjr Zgj rfl
def Zir:Zc:=(.seq (.seq (.region [oM 70 10,oM 71 1,oI 72 (.len (.t 71)),oI 73 (.bin .lss (.t 70) (.t 72))] none [73,10,9,6,5,1,0]) (.cond (.t 73) .skip (.exit 6))) (.seq (.block 7 (.seq (.region [oI 11 (.mov (.c (.bool false))),oI 12 (.mov (.c (.bool false)))] none [12,11,10,9,6,5,1,0]) (.seq (.region [oM 76 5,oM 77 1,oM 78 10,oI 79 (.iaddr 1 (.t 77) (.t 78)),oL 80 79,oI 81 (.call 11 0 true [(.t 76),(.t 80)]),oM 13 81] none [13,12,11,10,9,6,5,1,0]) (.seq (.seq (.region [oI 14 (.mov (.c (.int .i64 0)))] none [14,13,12,11,10,9,6,5,1,0]) (.block 8 (.loop [14,13,12,11,10,9,6,5,1,0] Zjr))) Zod)))) ZrV))
def Zmq:Zc:=Zir
def ZqU:=xw Zmq Zir rfl
def ZiI:Zc:=(.seq (.seq (.region [oM 64 9,oM 65 0,oI 66 (.len (.t 65)),oI 67 (.bin .lss (.t 64) (.t 66))] none [67,9,6,5,1,0]) (.cond (.t 67) .skip (.exit 4))) (.seq (.block 5 (.seq (.region [oI 10 (.mov (.c (.int .i64 0)))] none [10,9,6,5,1,0]) (.block 6 (.loop [10,9,6,5,1,0] Zmq)))) ZoE))
def Zjk:Zc:=ZiI
def Zn8:=xw Zjk ZiI rfl
def ZjU:Zc:=(.seq (.seq (.region [oI 9 (.mov (.c (.int .i64 0)))] none [9,6,5,1,0]) (.block 4 (.loop [9,6,5,1,0] Zjk))) ZlY)
def ZmK:Zc:=ZjU
def ZCu:=xw ZmK ZjU rfl
def ZiT:Zc:=(.seq (.seq (.region [oM 51 8,oM 52 1,oI 53 (.len (.t 52)),oI 54 (.bin .lss (.t 51) (.t 53))] none [54,8,6,5,1,0]) (.cond (.t 54) .skip (.exit 2))) (.seq (.block 3 (.region [oM 57 6,oM 58 1,oM 59 8,oI 60 (.iaddr 1 (.t 58) (.t 59)),oL 61 60,oM 62 8,oI 63 (.call 14 0 true [(.t 57),(.t 61),(.t 62)])] none [8,6,5,1,0])) (.region [oM 55 8,oI 56 (.bin .add (.t 55) (.c (.int .i64 1))),oM 8 56] none [8,6,5,1,0])))
def Zks:Zc:=ZiT
def Zo0:=xw Zks ZiT rfl
def ZjO:Zc:=(.seq (.seq (.region [oI 8 (.mov (.c (.int .i64 0)))] none [8,6,5,1,0]) (.block 2 (.loop [8,6,5,1,0] Zks))) ZmK)
def Zmr:Zc:=ZjO
def ZIV:=xw Zmr ZjO rfl
def Zg7:Zc:=(.seq (.seq (.region [oM 38 7,oM 39 0,oI 40 (.len (.t 39)),oI 41 (.bin .lss (.t 38) (.t 40))] none [41,7,6,5,1,0]) (.cond (.t 41) .skip (.exit 0))) (.seq (.block 1 (.region [oM 44 5,oM 45 0,oM 46 7,oI 47 (.iaddr 1 (.t 45) (.t 46)),oL 48 47,oM 49 7,oI 50 (.call 9 0 true [(.t 44),(.t 48),(.c (.str [107])),(.t 49)])] none [7,6,5,1,0])) (.region [oM 42 7,oI 43 (.bin .add (.t 42) (.c (.int .i64 1))),oM 7 43] none [7,6,5,1,0])))
def ZlZ:Zc:=Zg7
def Zj0:=xw ZlZ Zg7 rfl
def Zgh:Zc:=(.seq (.region [oI 4 (.mov (.c (.bool false)))] none [1,0]) (.seq (.region [oI 16 (.call 7 2 false []),oI 17 (.call 13 2 false []),oM 5 16,oM 6 17] none [6,5,1,0]) (.seq (.seq (.region [oM 18 5,oI 19 (.peq false (.t 18) (.c .nilp)),oM 20 19,⟨(some 21),(.mov (.t 6)),(some (20,false)),[]⟩,⟨(some 22),(.peq false (.t 21) (.c .nilp)),(some (20,false)),[]⟩,oI 23 (.pick (.t 20) (.c (.bool true)) (.t 22)),oM 24 23,⟨(some 25),(.call 8 0 true []),(some (24,false)),[]⟩,⟨(some 26),(.un .not (.t 25)),(some (24,false)),[]⟩,oI 27 (.pick (.t 24) (.c (.bool true)) (.t 26))] none [27,6,5,1,0]) (.cond (.t 27) (.seq (.region [oI 4 (.mov (.c (.bool false)))] none [4]) .ret) .skip)) (.seq (.seq (.region [oM 28 0,oI 29 (.len (.t 28)),oI 30 (.bin .gtr (.t 29) (.c (.int .i64 12)))] none [30,6,5,1,0]) (.cond (.t 30) (.region [oM 31 0,oI 32 (.slice 1 (.t 31) none (some (.c (.int .i64 12))) none),oM 0 32] none [6,5,1,0]) .skip)) (.seq (.seq (.region [oM 33 1,oI 34 (.len (.t 33)),oI 35 (.bin .gtr (.t 34) (.c (.int .i64 12)))] none [35,6,5,1,0]) (.cond (.t 35) (.region [oM 36 1,oI 37 (.slice 1 (.t 36) none (some (.c (.int .i64 12))) none),oM 1 37] none [6,5,1,0]) .skip)) (.seq (.seq (.region [oI 7 (.mov (.c (.int .i64 0)))] none [7,6,5,1,0]) (.block 0 (.loop [7,6,5,1,0] ZlZ))) Zmr))))))
def Zgd:Z0:=⟨[(.tmp 4)],Zgh⟩
theorem ZGu:FC 4=some Zgd:=by kernel_rfl
theorem ZhK:Zgd.body=Zgh:=rfl
theorem ZzD:Zgd.res=[(.tmp 4)]:=rfl
noncomputable def Zip (m:Nat) (tm:Tms) (σ:Za):Option (AVal×Za):=(ZaJ m Zgd (Zbw FC PR BY m ZlY (WY (ZaQ 4) (evL FC PR BY m [9,6,5,1,0] Zjk tm σ))))
noncomputable def Zi3 (m:Nat) (tm:Tms) (σ:Za):Option (AVal×Za):=(ZaJ m Zgd (Zbw FC PR BY m ZmK (WY (ZaQ 2) (evL FC PR BY m [8,6,5,1,0] Zks tm σ))))
noncomputable def Zek (m:Nat) (tm:Tms) (σ:Za):Option (AVal×Za):=(ZaJ m Zgd (Zbw FC PR BY m Zmr (WY (ZaQ 0) (evL FC PR BY m [7,6,5,1,0] ZlZ tm σ))))
end
section
structure Zh where
 f:List UInt8
 k:List UInt8
 v:Int
 deriving DecidableEq,Inhabited
def Zk (r:Zh):AVal:=.agg [.str r.f,.str r.k,.int .i64 r.v]
def Zex (a b:Zh):Bool:=decide (a.f < b.f) || (decide (a.f=b.f) && decide (a.k < b.k))
end
section
theorem ZID {i y:Nat} (h:i<=y):Zci (.int .i64 (i:Int)) y=some i:=by
 simp only [Zci]
 rw [if_pos ⟨by omega,by omega⟩]
 simp
def Zak (a b:Zh):Bool:=(a.f == b.f) && (a.k == b.k)
def Zfc (s:Zh):List Zh->Nat
 | []=>0
 | x::r=>if Zex x s then Zfc s r+1 else 0
def Zk1 (l:List Zh) (s:Zh) (j:Nat):List Zh:=match l[j]? with
 | some x=>if Zak x s then l.drop (j+1) else l.drop j
 | none=>l.drop j
def putAt (l:List Zh) (s:Zh) (j:Nat):List Zh:=l.take j++s::Zk1 l s j
end
section
theorem ZFB {O:Zz} {bf:Nat->Bool} {σ:Za} {t sq f own k lo n:Nat} {args args' xs xs':List AVal} (hs:σ[t]?=some (.row 0 k xs)) (hb:bf f=true) (hff:Zac σ sq own=true)
  (href:Zu args=[t]) (hren:∀ ρ:Rho,ρ t 0=some (0,0)->Zp ρ args=args')
  (h:O f args' [.row 0 k xs]=some (.sl 0 0 lo n,[.row 0 k xs'])):Zr O bf σ sq f own false args=some (.sl t 0 lo n,σ.set t (.row 0 k xs'),{ any:=true }):=by
 have hd:σ.getD t .free=.row 0 k xs:=by simp [Xd,hs]
 have hf0:Zo σ []=σ:=rfl
 unfold Zr Zbt
 rw [hb]
 simp only [if_true,hf0,href]
 have hreach:Zj σ 1000 [t] []=[t]:=by
  simp only [Zj,X4,Xf,if_false,hd,Zt,Xr]
 rw [hreach]
 unfold ZaS
 have hall:([t].all fun t=>okB (σ.getD t .free))=true:=by simp [X3,Ww,hs,okB]
 rw [if_pos hall]
 have hρ:Zd σ 0 [t] t 0=some (0,0):=by simp [Zd,Zw,hs,Zb,Zv]
 have hheap:Zi σ 0 [t] (Zd σ 0 [t]) [t] 0=[.row 0 k xs]:=by
  simp only [Zi,hd,Zv,Zb,Zl,Xbq,false_and,if_false,Xo]
 rw [hren _ hρ,hheap]
 simp only [XD,XT,Xw]
 rw [h]
 have hk:Z5 σ [t] [.row 0 k xs'] 0=true:=by simp [Z5,okB,hs,Za6,Zb]
 have hren':∀ ρ,Zl ρ (ZaF σ [t] 0 (.row 0 k xs')) (.row 0 k xs')=.row 0 k xs':=by
  intro ρ
  simp [ZaF,hs,Zb,Zl]
 have hr:Ze (Zah σ [t] sq) (.sl 0 0 lo n)=.sl t 0 lo n:=by
  simp [Ze,Zah,Zb,hs]
 simp only [Z4,Xf,if_false,Z9,Xat,XD,XT,Xw,Xbh,XI,decide_true,hk,hff,Wh,if_true,ZY,ZaI,ZO,XK,hr,hren']
 have htl:t < σ.length:=(Xc.1 hs).1
 have hg:(σ.set t (.row 0 k xs'))[t]?=some (.row 0 k xs'):=by simp [htl]
 simp only [hg]
end
section
def ZcK (l:List Zh) (s:Zh):List Zh:=putAt l s (Zfc s l)
end
section
theorem ZDT (l:List Tx):kOk 1 (l.map AVal.str)=true:=by cases l <;> rfl
theorem Zpr (σ:Za) (l:Tx) (r:List Tx):ZbC σ 1 (.lst false ((l::r).map AVal.str)) (some (.int .i64 1)) none none=some (.lst false (r.map AVal.str),σ,{}):=by
 have hm:((l::r).map AVal.str).length=r.length+1:=by simp
 have ht:((l::r).map AVal.str).take (r.length+1)=(l::r).map AVal.str:=Wi (by simp)
 have hb:Zci (.int .i64 1) (r.length+1)=some 1:=ZID (i:=1) (by omega)
 simp only [ZbC,Zax,hm,hb,ZDT,Bool.or_true,if_true,Option.isSome_none,Xf,if_false,XaD,ht]
 rfl
def Small (ns:List TN):Prop:=∀ (j:Nat) (d:TN),ns[j]?=some d->d.1.length+d.2.length<=1000000
def Zan (k : Tx) : List Tx -> List TN -> Nat -> List TN × Bool
  | [], ns, j => match ns[j]? with
    | some d => (ns.set j (Zbn k d.1, d.2), (Zm k d.1).isSome)
    | none => (ns, false)
  | l :: r, ns, j => match ns[j]? with
    | some d => match Zm l d.2 with
      | some i => if (Zan k r ns i).2 then
          match (Zan k r ns i).1[i]?, (Zan k r ns i).1[j]? with
          | some di, some dj => if di.1.length + di.2.length = 0 then ((Zan k r ns i).1.set j (dj.1, Zbn l dj.2), true) else ((Zan k r ns i).1, true)
          | _, _ => (ns, false)
        else ((Zan k r ns i).1, false)
      | none => (ns, false)
    | none => (ns, false)
theorem Zi0 {α:Type} {n:Tx} {q:Tx×α}:∀ {M:List (Tx×α)},q ∈ Zbn n M->q ∈ M
 | [],h=>h
 | p::M,h=>by
  simp only [Zbn] at h
  split at h
  ·exact X7 _ h
  ·rcases Xv.1 h with h | h
   ·rw [h];simp
   ·exact X7 _ (Zi0 h)
theorem Zl7 {α:Type} (n:Tx):∀ M:List (Tx×α),(Zbn n M).length<=M.length
 | []=>XI _
 | p::M=>by
  simp only [Zbn]
  split
  ·simp
  ·simp [Zl7 n M]
theorem Closed.next1 {ns:List TN} (hC:Closed ns) {j:Nat} {d:TN} (hd:ns[j]?=some d) (l:Tx):Closed (ns.set j (d.1,Zbn l d.2)):=by
 have hj:=(Xc.1 hd).1
 intro i d' hi p hp
 rw [Wq]
 rw [Xj] at hi
 by_cases e:j=i
 ·subst e
  rw [if_pos rfl,if_pos hj] at hi
  injection hi with hi
  subst hi
  exact hC _ d hd p (Zi0 hp)
 ·rw [if_neg e] at hi
  exact hC i d' hi p hp
theorem Small.set {ns:List TN} (h:Small ns) {j:Nat} {d:TN} (hd:d.1.length+d.2.length<=1000000):Small (ns.set j d):=by
 intro i d' hi
 rw [Xj] at hi
 by_cases e:j=i
 ·rw [if_pos e] at hi
  split at hi
  ·injection hi with hi;subst hi;exact hd
  ·cases hi
 ·rw [if_neg e] at hi;exact h i d' hi
end
section
theorem ZHq {σ:Za} {sq t g n:Nat} {q:Bag} {x:Zh} (hs:σ[t]?=some (.bag g 3 q)) (hn:n=Z3 q) (hb:n<=1000000):Zay σ sq 3 40 (.sl t g 0 n) (.lst true [Zk x])=some (.sl t (g+1) 0 (n+1),σ.set t (.bag (g+1) 3 (Zbe q [Zk x])),{ wr:=[t] }):=by
 simp only [Zay,Zaf,hs]
 rw [if_pos (by rfl),if_pos ⟨trivial,trivial,trivial,by simp;omega,hn⟩]
 rfl
theorem Zwr {σ:Za} {sq:Nat} {x:Zh}:Zay σ sq 3 40 (.lst true []) (.lst true [Zk x])=some (.sl sq 0 0 1,σ.set sq (.row 0 3 [Zk x]),{}):=by
 simp only [Zay,Zaf]
 rfl
theorem Zvm (x:Zh):E 35 [.str x.f,.str x.k,.int .i64 x.v,.ref 0 0] [.var [.lst true []]]=some (.tup [],[.var [.sl 1 0 0 1],.row 0 3 [Zk x]]):=by
 have A:=fun {σ:Za} {sq:Nat}=>Zwr (σ:=σ) (sq:=sq) (x:=x)
 have hv:∀ σ:Za,viewAs σ [.agg [.str x.f,.str x.k,.int .i64 x.v]]=some ([.agg [.str x.f,.str x.k,.int .i64 x.v]],[]):=fun _=>rfl
 have hr:Zk x=.agg [.str x.f,.str x.k,.int .i64 x.v]:=rfl
 rw [hr] at A ⊢
 rw [Zap (by rfl) Zpe]
 simp -implicitDefEqProofs only [EQA,ZiO,ZgW,Xt,Xg,Xo,Xe,Xz,reduceCtorEq,↓reduceIte,ZbD,Zr3,Zh1,ZnF,A,hv,ZdK,ZI,Zo,AVal.cells]
 rfl
theorem ZIG (x:Zh) (q:Bag) (n:Nat) (hn:n=Z3 q) (hb:n<=1000000):E 35 [.str x.f,.str x.k,.int .i64 x.v,.ref 0 0] [.var [.sl 1 0 0 n],.bag 0 3 q]=some (.tup [],[.var [.sl 1 1 0 (n+1)],.bag 1 3 (Zbe q [Zk x])]):=by
 have A:=fun {σ:Za} {sq t g:Nat} hs=>ZHq (σ:=σ) (sq:=sq) (t:=t) (g:=g) (x:=x) hs hn hb
 have hv:∀ σ:Za,viewAs σ [.agg [.str x.f,.str x.k,.int .i64 x.v]]=some ([.agg [.str x.f,.str x.k,.int .i64 x.v]],[]):=fun _=>rfl
 have hr:Zk x=.agg [.str x.f,.str x.k,.int .i64 x.v]:=rfl
 rw [hr] at A ⊢
 generalize Zbe q [.agg [.str x.f,.str x.k,.int .i64 x.v]]=q2 at *
 rw [Zap (by rfl) Zpe]
 simp -implicitDefEqProofs only [EQA,ZiO,Xt,Xg,Xo,Xe,Xz,reduceCtorEq,↓reduceIte,Zr3,Zh1,ZnF,A,hv,ZdK,ZI,Zo,AVal.cells]
 rfl
theorem Zqt (x:Zh) {σ:Za} {t sq:Nat} (hs:σ[t]?=some (.var [.lst true []])) (hff:Zac σ sq 4=true) (hne:t≠sq):Zr E BY σ sq 35 4 false [.str x.f,.str x.k,.int .i64 x.v,.ref t 0]=some (.tup [],(σ.set t (.var [.sl sq 0 0 1])).set sq (.row 0 3 [Zk x]),{ any:=true,upd:=[(t,[.sl sq 0 0 1])] }):=by
 have htl:t < σ.length:=(Xc.1 hs).1
 have h1:σ.getD t .free=.var [.lst true []]:=by simp [Xd,hs]
 have hre:Zj σ 1000 [t] []=[t]:=by
  simp only [Zj,X4,Xf,if_false,h1,Zt,Zu,ZU,Xr,XE]
 have hρ:Zd σ 0 [t] t 0=some (0,0):=by simp [Zd,Zw,hs,Zb,Zv]
 have hvs:Zp (Zd σ 0 [t]) [.str x.f,.str x.k,.int .i64 x.v,.ref t 0]=[.str x.f,.str x.k,.int .i64 x.v,.ref 0 0]:=by
  simp only [Zp,Ze,hρ]
 have hh:Zi σ 0 [t] (Zd σ 0 [t]) [t] 0=[.var [.lst true []]]:=by simp only [Zi,h1,Zl,Zp,Ze]
 have hall:([t].all fun t=>okB (σ.getD t .free))=true:=by simp only [X3,Ww,h1,okB,Wh]
 have hk:Z5 σ [t] [.var [.sl 1 0 0 1],.row 0 3 [Zk x]] 0=true:=by simp [Z5,okB,Za6,Zb,hs]
 have hlay:ZY σ [t] sq [.var [.sl 1 0 0 1],.row 0 3 [Zk x]] 0 σ=(σ.set t (.var [.sl sq 0 0 1])).set sq (.row 0 3 [Zk x]):=by
  simp [ZY,ZO,ZaF,Zah,Zb,Zl,Zp,Ze]
 refine ZdG (r:=.tup []) (view:=false) (by kernel_rfl) rfl hre rfl hall hvs hh (Zvm x) rfl (by simp) (by simp) hk hff rfl hlay ?_
 have h3:((σ.set t (.var [.sl sq 0 0 1])).set sq (.row 0 3 [Zk x]))[t]?=some (.var [.sl sq 0 0 1]):=by
  rw [Xs (fun e=>hne e.symm),XJ htl]
 simp [ZaI,h3]
theorem ZqX (x:Zh) {σ:Za} {t r g n sq:Nat} {q:Bag} (hs:σ[t]?=some (.var [.sl r g 0 n])) (hq:σ[r]?=some (.bag g 3 q)) (hn:n=Z3 q) (hb:n<=1000000) (hg:g < 1000) (hff:Zac σ sq 4=true) :
  Zr E BY σ sq 35 4 false [.str x.f,.str x.k,.int .i64 x.v,.ref t 0]=some (.tup [],(σ.set t (.var [.sl r (g+1) 0 (n+1)])).set r (.bag (g+1) 3 (Zbe q [Zk x])),{ any:=true,upd:=[(t,[.sl r (g+1) 0 (n+1)])] }):=by
 have htl:t < σ.length:=(Xc.1 hs).1
 have hne:t≠r:=by rintro rfl;rw [hs] at hq;cases hq
 have h1:σ.getD t .free=.var [.sl r g 0 n]:=by simp [Xd,hs]
 have h2:σ.getD r .free=.bag g 3 q:=by simp [Xd,hq]
 have hg':¬1000<=g:=by omega
 have hre:Zj σ 1000 [t] []=[t,r]:=by
  have e1:([t]:List Nat).contains r=false:=by simp;exact fun e=>hne e.symm
  simp only [Zj,X4,Xf,if_false,h1,Zt,Zu,ZU,Xr,XE,e1,h2,List.singleton_append]
 have hρ:Zd σ 0 [t,r] t 0=some (0,0):=by simp [Zd,Zw,hs,Zb,Zv]
 have hρ2:Zd σ 0 [t,r] r g=some (1,0):=by simp [Zd,Zw,hq,Zb,Zv,hne,hg']
 have hvs:Zp (Zd σ 0 [t,r]) [.str x.f,.str x.k,.int .i64 x.v,.ref t 0]=[.str x.f,.str x.k,.int .i64 x.v,.ref 0 0]:=by
  simp only [Zp,Ze,hρ]
 have hh:Zi σ 0 [t,r] (Zd σ 0 [t,r]) [t,r] 0=[.var [.sl 1 0 0 n],.bag 0 3 q]:=by
  simp [Zi,hs,hq,Zl,Zp,Ze,hρ2,Zv,Zb,hg']
 have hall:([t,r].all fun t=>okB (σ.getD t .free))=true:=by simp only [X3,Ww,h1,h2,okB,Wh]
 have hk:Z5 σ [t,r] [.var [.sl 1 1 0 (n+1)],.bag 1 3 (Zbe q [Zk x])] 0=true:=by simp [Z5,okB,Za6,Zb,hs,hq,hg']
 have hlay:ZY σ [t,r] sq [.var [.sl 1 1 0 (n+1)],.bag 1 3 (Zbe q [Zk x])] 0 σ=(σ.set t (.var [.sl r (g+1) 0 (n+1)])).set r (.bag (g+1) 3 (Zbe q [Zk x])):=by
  simp [ZY,ZO,ZaF,Zah,Zb,Zl,Zp,Ze,hq,hg',Xd]
 refine ZdG (r:=.tup []) (view:=false) (by kernel_rfl) rfl hre rfl hall hvs hh (ZIG x q n hn hb) rfl (by simp) (by simp) hk hff rfl hlay ?_
 have h3:((σ.set t (.var [.sl r (g+1) 0 (n+1)])).set r (.bag (g+1) 3 (Zbe q [Zk x])))[t]?=some (.var [.sl r (g+1) 0 (n+1)]):=by
  rw [Xs (fun e=>hne e.symm),XJ htl]
 have h4:∃ b,((σ.set t (.var [.sl r (g+1) 0 (n+1)])).set r (.bag (g+1) 3 (Zbe q [Zk x])))[r]?=some (.bag b 3 (Zbe q [Zk x])):=⟨g+1,by
  rw [XJ (by simpa using (Xc.1 hq).1)]⟩
 obtain ⟨b,h4⟩:=h4
 simp [ZaI,h3,h4]
end
section
theorem Zkd {bf:Nat->Bool} {m:Nat} {live:List Nat} {ms en b1:Nat} {bg:Bool} {ent:List AOp} {run fin:Nat->Tms->Za->Option (Zy×Tms×Za)} {tm tm0:Tms} {σ σ0:Za} {t:Nat} {B:Zg} {es:List (AVal×AVal)} {out:Zy×Tms×Za} (hh:ZcO m live ms tm σ=some (t,B,es,tm0,σ0))
  (hall:∀ es':List (AVal×AVal),es'.Perm es->ZaZ bf m live ms en b1 bg ent run fin es es' tm σ=some out):ZbK bf m live ms en b1 bg ent run fin tm σ=some out:=by
 unfold ZbK
 rw [hh]
 match es,hh,hall with
 | [],hh,hall =>
  have h:=hall [] (Xag _)
  obtain ⟨h1,h2,_⟩:=ZiL hh
  simp only [ZaZ,ZaB,ZdC,h1,h2] at h
  exact h
 | [kv],hh,hall =>
  have h:=hall [kv] (Xag _)
  simp only [ZaZ,ZaB,hh,if_true] at h
  simp only
  cases hr:Za1 bf ms en b1 bg ent run t B kv tm0 σ0 with
  | none=>rw [hr] at h;cases h
  | some q=>rw [hr] at h;exact h
 | a::b::r,hh,hall=>exact ZmR.2 hall
theorem ZlO {α:Type} {β:Type} (enc:α->β) (dec:β->α) (hd:∀ a,dec (enc a)=a) {M:List α} {es:List β} (h:es.Perm (M.map enc)):∃ l:List α,l.Perm M/\es=l.map enc:=by
 refine ⟨es.map dec,?_,?_⟩
 ·have:=h.map dec
  rw [XY] at this
  have e:dec ∘ enc=id:=by funext a;exact hd a
  rw [e,List.map_id] at this
  exact this
 ·rw [XY]
  have : es.map (enc ∘ dec)=es.map id:=by
   apply W3
   intro p hp
   obtain ⟨a,_,rfl⟩:=Xq.1 (h.mem_iff.1 hp)
   simp [hd]
  rw [this,List.map_id]
end
section
def ZM (p l:Tx):Tx:=if p=[0] then l else p++[47]++l
theorem ZHM (p l:Tx) (hb:p.length+l.length<=1000000000000):E 48 [.str p,.str l] []=some (.str (ZM p l),[]):=by
 unfold ZM
 by_cases h:p=[0]
 ·subst h
  rw [if_pos rfl]
  rw [Zap (by rfl) ZrM]
  simp -implicitDefEqProofs only [EQA,ZgW,Xg,Xe,ZaU,reduceCtorEq,↓reduceIte,ZnH,Ziz,ZoV]
 ·have h1:(p == [0])=false:=by simpa using h
  rw [if_neg h]
  have b1:p.length<=9223372036854775806:=by omega
  have b2:(p++[47]).length+l.length<=9223372036854775807:=by simp;omega
  rw [Zap (by rfl) ZrM]
  simp -implicitDefEqProofs only [EQA,Xg,Xo,Xe,ZaU,reduceCtorEq,↓reduceIte,ZnH,Ziz,h1,b1]
  generalize p++[47]=w at *
  simp -implicitDefEqProofs only [EQA,ZgW,Xg,Xe,↓reduceIte,ZoV,b2]
theorem ZhC (σ:Za) (sq own:Nat) (view:Bool) (p l:Tx) (hb:p.length+l.length<=1000000000000):Zr E BY σ sq 48 own view [.str p,.str l]=some (.str (ZM p l),σ,{}) :=
 Zbp (ZHM p l hb) (by kernel_rfl) rfl rfl rfl (fun _=>rfl) σ sq own view
def hM (B:Zg) (s:Option Bag) (g:Nat):Za:=match s with
 | none=>[B,.var [.lst true []]]
 | some q=>[B,.var [.sl 2 g 0 (Z3 q)],.bag g 3 q]
def ZN (s:Option Bag) (R:List AVal):Option Bag:=match R with
 | []=>s
 | x::r=>match s with
  | none=>some (W8 _ (x::r))
  | some q=>some (Zbe q (x::r))
def vT1 (i j:Nat) (b:Bool) (S:List AVal) (p:Tx):Tms:=[(31,.mapg 0 i false),(4,.fn 35 [.ref 1 0]),(3,.bool b),(2,.lst false S),(1,.str p),(0,.nref 0 j 0)]
def Zf7:List AOp:=[oI 36 (.ext (.t 35) 0),oI 37 (.ext (.t 35) 1),oM 11 36,oM 12 37]
noncomputable abbrev Zfy (A:ZD):=Za1 BY 31 35 1 true Zf7 (fun m'=>evC FC PR BY m' ZgA) 0 (.arena A)
theorem ZEl (A:ZD) (i j:Nat) (b:Bool) (S:List AVal) (p k:Tx) (v:Int) (hb:p.length+1<=1000000000000):(Zfy A (.str k,.int .i64 v) (vT1 i j b S p) (hM (.arena A) none 0)).map (fun q=>(keepL [31,4,3,2,1,0] q.1,q.2)) =
  some (vT1 i j b S p,[.arena A,.var [.sl 2 0 0 1],.bag 0 3 (W8 _ [Zk ⟨ZM p [35],k,v⟩]),.free,.free,.free]):=by
 have hq:=fun σ sq own view=>ZhC σ sq own view p [35] hb
 have hc:=fun {σ:Za} {t sq:Nat} h1 h2 h3=>Zqt (σ:=σ) (t:=t) (sq:=sq) ⟨ZM p [35],k,v⟩ h1 h2 h3
 simp only at hc
 generalize Zk ⟨ZM p [35],k,v⟩=x at *
 unfold Zfy Za1 vT1 hM Zf7
 simp -implicitDefEqProofs only [EQA,Xt,Xg,Xe,Xz,reduceCtorEq,↓reduceIte,ZoN,Zhv,hq,hc,Zbo,roB,Zcn,Zb5,ZcU,Zcy,Zca,Zcx,Zac,XaM,XI]
theorem ZlV (q:Bag) (ys:List AVal):Z3 (Zbe q ys)=Z3 q+ys.length:=by
 obtain ⟨xs,rfl⟩:=Xa5 q
 show (xs++ys).length=_
 rw [Xx];rfl
theorem Zza (A:ZD) (i j:Nat) (b:Bool) (S:List AVal) (p k:Tx) (v:Int) (hb:p.length+1<=1000000000000) (q:Bag) (g:Nat) (hg:g < 1000) (hq0:Z3 q<=1000000) :
  (Zfy A (.str k,.int .i64 v) (vT1 i j b S p) (hM (.arena A) (some q) g)).map (fun q=>(keepL [31,4,3,2,1,0] q.1,q.2)) =
  some (vT1 i j b S p,[.arena A,.var [.sl 2 (g+1) 0 (Z3 q+1)],.bag (g+1) 3 (Zbe q [Zk ⟨ZM p [35],k,v⟩]),.free,.free,.free,.free]):=by
 have hq:=fun σ sq own view=>ZhC σ sq own view p [35] hb
 have hc:=fun {σ:Za} {t r g n sq:Nat} {q:Bag} h1 h2 h3 h4 h5 h6=>ZqX (σ:=σ) (t:=t) (r:=r) (g:=g) (n:=n) (sq:=sq) (q:=q) ⟨ZM p [35],k,v⟩ h1 h2 h3 h4 h5 h6
 simp only at hc
 generalize Zk ⟨ZM p [35],k,v⟩=x at *
 simp only [hM]
 have hc2:=fun {σ:Za} {sq:Nat} h1 h2 h6=>hc (σ:=σ) (t:=1) (r:=2) (g:=g) (n:=Z3 q) (q:=q) (sq:=sq) h1 h2 rfl hq0 hg h6
 generalize Zbe q [x]=q2 at *
 generalize Z3 q=n at *
 clear hc
 unfold Zfy Za1 vT1 Zf7
 simp -implicitDefEqProofs only [EQA,Xt,Xg,Xe,Xz,reduceCtorEq,↓reduceIte,ZoN,Zhv,hq,hc2,Zbo,roB,Zcn,Zb5,ZcU,Zcy,Zca,Zcx,Zac,XaM,XI]
theorem Zu5 (A:ZD) (i j:Nat) (b:Bool) (S:List AVal) (p:Tx) (q:Bag):gcT 2 (vT1 i j b S p) [.arena A,.var [.sl 2 0 0 (Z3 q)],.bag 0 3 q,.free,.free,.free]=(vT1 i j b S p,hM (.arena A) (some q) 0):=by
 unfold vT1 hM
 simp -implicitDefEqProofs only [Zb6,ZS,ZK,eq_self,Xt,Xg,Xo,Xe,Xz,beq_self_eq_true,Xf,ne_eq,reduceCtorEq,↓reduceIte,gcT,gcA,Zq,Zj,Zd,Zi,Zw,Zb,Zv,Zl,Zt,XL,XU,gcT,gcA,Zq,ZB,Zaz,ZdH,Zco]
theorem ZtA (A:ZD) (i j:Nat) (b:Bool) (S:List AVal) (p:Tx) (q:Bag) (g:Nat) (hg:g < 999):gcT 3 (vT1 i j b S p) [.arena A,.var [.sl 2 (g+1) 0 (Z3 q)],.bag (g+1) 3 q,.free,.free,.free,.free]=(vT1 i j b S p,hM (.arena A) (some q) 1):=by
 have h1:(1000<=g+1)=False:=by simp;omega
 unfold vT1 hM
 simp -implicitDefEqProofs only [Zb6,ZS,ZK,eq_self,Xt,Xg,Xo,Xe,Xz,beq_self_eq_true,Xf,ne_eq,reduceCtorEq,↓reduceIte,gcT,gcA,Zq,Zj,Zd,Zi,Zw,Zb,Zv,Zl,Zt,XL,XU,gcT,gcA,Zq,ZB,h1,Zaz,ZdH,Zco]
theorem Zw5 (A:ZD) (i j:Nat) (b:Bool) (S:List AVal) (p:Tx) (q:Bag) (g:Nat) (hg:g < 999):gcT 2 (vT1 i j b S p) [.arena A,.var [.sl 2 (g+1) 0 (Z3 q)],.bag (g+1) 3 q,.free,.free,.free,.free]=(vT1 i j b S p,hM (.arena A) (some q) 0):=by
 have h1:(1000<=g+1)=False:=by simp;omega
 unfold vT1 hM
 simp -implicitDefEqProofs only [Zb6,ZS,ZK,eq_self,Xt,Xg,Xo,Xe,Xz,beq_self_eq_true,Xf,ne_eq,reduceCtorEq,↓reduceIte,gcT,gcA,Zq,Zj,Zd,Zi,Zw,Zb,Zv,Zl,Zt,XL,XU,gcT,gcA,Zq,ZB,h1,Zaz,ZdH,Zco]
end
section
def okS (m:Nat) (s:Option Bag) (g:Nat):Prop:=(m=2/\g=0)\/(m=3/\s≠none/\g<=1)
def Zbg (m:Nat):Nat:=if m=2 then 0 else 1
def ZbJ:Option Bag->Nat
 | none=>0
 | some q=>Z3 q
theorem ZgL (s:Option Bag) (R:List AVal):ZbJ (ZN s R)=ZbJ s+R.length:=by
 cases R with
 | nil=>rfl
 | cons x R =>
  cases s with
  | none=>simp only [ZN,ZbJ,Xw];rfl
  | some q=>simp only [ZN,ZbJ,ZlV]
theorem Zqf (s:Option Bag) (x:AVal) (R:List AVal):ZN (ZN s [x]) R=ZN s (x::R):=by
 cases R with
 | nil=>rfl
 | cons y R =>
  cases s with
  | none=>rfl
  | some q =>
   obtain ⟨xs,rfl⟩:=Xa5 q
   show some (W8 _ ((xs++[x])++(y::R)))=some (W8 _ (xs++(x::y::R)))
   rw [W0];rfl
theorem Zk6 (s:Option Bag) (R R':List AVal):ZN (ZN s R) R'=ZN s (R++R'):=by
 cases R' with
 | nil=>rw [XE];rfl
 | cons y R' =>
  cases R with
  | nil=>rfl
  | cons x R =>
   cases s with
   | none=>rfl
   | some q =>
    obtain ⟨xs,rfl⟩:=Xa5 q
    show some (W8 _ ((xs++(x::R))++(y::R')))=some (W8 _ (xs++(x::R++(y::R'))))
    rw [W0]
theorem Zp6 (s:Option Bag) {R R':List AVal} (h:R.Perm R'):ZN s R=ZN s R':=by
 cases R with
 | nil=>rw [h.symm.eq_nil]
 | cons x R =>
  cases R' with
  | nil=>exact absurd h.eq_nil (by simp)
  | cons y R' =>
   cases s with
   | none=>simp only [ZN];congr 1;exact XbQ h
   | some q =>
    obtain ⟨xs,rfl⟩:=Xa5 q
    simp only [ZN]
    congr 1
    exact XbQ (List.Perm.append_left xs h)
theorem Zmx {m:Nat} {s:Option Bag} {g:Nat} (h:okS m s g) (R:List AVal):okS m (ZN s R) (Zbg m):=by
 rcases h with ⟨rfl,_⟩ | ⟨rfl,h,_⟩
 ·exact Xk ⟨rfl,rfl⟩
 ·refine Xp ⟨rfl,?_,XI _⟩
  cases R with
  | nil=>exact h
  | cons x R=>cases s <;> simp [ZN]
theorem Zmd {m:Nat} {s:Option Bag} {g:Nat} (h:okS m s g):g < 999:=by
 rcases h with ⟨_,h⟩ | ⟨_,_,h⟩ <;> omega
section
variable (A:ZD) (i j:Nat) (b:Bool) (S:List AVal) (p:Tx) (hp:p.length+1<=1000000000000)
include hp
theorem ZvZ {m:Nat} {s:Option Bag} {g:Nat} (ho:okS m s g) (hsz:ZbJ s<=1000000) (k:Tx) (v:Int) :
  ∃ tm' σ',Zfy A (.str k,.int .i64 v) (vT1 i j b S p) (hM (.arena A) s g)=some (tm',σ')/\gcT m (keepL [31,4,3,2,1,0] tm') σ'=(vT1 i j b S p,hM (.arena A) (ZN s [Zk ⟨ZM p [35],k,v⟩]) (Zbg m)):=by
 cases s with
 | none =>
  rcases ho with ⟨rfl,rfl⟩ | ⟨_,h,_⟩
  ·obtain ⟨⟨tm',σ'⟩,h1,h2⟩:=Xi.1 (ZEl A i j b S p k v hp)
   simp only [Xb] at h2
   refine ⟨tm',σ',h1,?_⟩
   rw [h2.1,h2.2]
   exact Zu5 A i j b S p (W8 _ [Zk ⟨ZM p [35],k,v⟩])
  ·exact absurd rfl h
 | some q =>
  have hg:=Zmd ho
  obtain ⟨⟨tm',σ'⟩,h1,h2⟩:=Xi.1 (Zza A i j b S p k v hp q g (by omega) hsz)
  simp only [Xb] at h2
  refine ⟨tm',σ',h1,?_⟩
  have hn:Z3 q+1=Z3 (Zbe q [Zk ⟨ZM p [35],k,v⟩]):=by rw [ZlV];rfl
  rw [h2.1,h2.2,hn]
  rcases ho with ⟨rfl,_⟩ | ⟨rfl,_,_⟩
  ·exact Zw5 A i j b S p (Zbe q [Zk ⟨ZM p [35],k,v⟩]) g hg
  ·exact ZtA A i j b S p (Zbe q [Zk ⟨ZM p [35],k,v⟩]) g hg
end
theorem Zo8 (n:Nat) (M:List (Tx×Int)):((eV M).all fun p=>ZeV n p.2)=true:=by
 rw [List.all_eq_true]
 unfold eV
 intro p hp
 obtain ⟨x,_,rfl⟩:=Xq.1 hp
 rfl
def ZaR (p:Tx) (M:List (Tx×Int)):List AVal:=M.map fun q=>Zk ⟨p,q.1,q.2⟩
section
variable (ns:List TN) (i j:Nat) (d:TN) (hd:ns[i]?=some d) (b:Bool) (S:List AVal) (p:Tx) (hp:p.length+1<=1000000000000)
include hd
theorem vh1 {m g:Nat} {s:Option Bag} {tm:Tms} {σ:Za} (h:gcT m (keepL [31,4,3,2,1,0] tm) σ=(vT1 i j b S p,hM (.arena (eNs ns)) s g)) :
  ZcO m [31,4,3,2,1,0] 31 tm σ=some (0,.arena (eNs ns),eV d.1,vT1 i j b S p,hM (.arena (eNs ns)) s g):=by
 have h1:ZdP (hM (.arena (eNs ns)) s g) (tget (vT1 i j b S p) 31)=some (0,.arena (eNs ns),eV d.1):=by
  rw [show tget (vT1 i j b S p) 31=.mapg 0 i false from rfl]
  have h0:(hM (.arena (eNs ns)) s g)[0]?=some (.arena (eNs ns)):=by cases s <;> rfl
  simp only [ZdP,h0,ZbU hd]
  rfl
 unfold ZcO
 rw [h]
 simp only [h1]
 rw [if_pos (Zo8 _ d.1)]
noncomputable abbrev ZlE:Nat->Tms->Za->Option (Zy×Tms×Za):=fun m'=>evC FC PR BY m' ZgA
include hp
theorem vf1 {m:Nat}:∀ (r:List (Tx×Int)) (s:Option Bag) (g:Nat) (tm:Tms) (σ:Za),okS m s g->ZbJ s+r.length<=1000000->gcT m (keepL [31,4,3,2,1,0] tm) σ=(vT1 i j b S p,hM (.arena (eNs ns)) s g) ->
  ∃ tm' σ',ZaB BY m [31,4,3,2,1,0] 31 35 1 true Zf7 ZlE (eV d.1) (eV r) tm σ=some (tm',σ')/\gcT m (keepL [31,4,3,2,1,0] tm') σ'=(vT1 i j b S p,hM (.arena (eNs ns)) (ZN s (ZaR (ZM p [35]) r)) (if r=[] then g else Zbg m))
 | [],s,g,tm,σ,ho,hb,h=>⟨tm,σ,rfl,by rw [if_pos rfl];exact h⟩
 | (k,v)::r,s,g,tm,σ,ho,hb,h=>by
  simp only [XD] at hb
  obtain ⟨tm1,σ1,h1,h2⟩:=ZvZ (eNs ns) i j b S p hp ho (by omega) k v
  obtain ⟨tm',σ',h3,h4⟩:=vf1 r (ZN s [Zk ⟨ZM p [35],k,v⟩]) (Zbg m) tm1 σ1 (Zmx ho _) (by rw [ZgL];simp only [Wv];omega) h2
  refine ⟨tm',σ',?_,?_⟩
  ·rw [show eV ((k,v)::r)=(.str k,.int .i64 v)::eV r from rfl]
   simp only [ZaB,vh1 ns i j d hd b S p h,if_true]
   unfold Zfy at h1
   rw [h1]
   exact h3
  ·have e:(if r=[] then Zbg m else Zbg m)=Zbg m:=by split <;> rfl
   rw [h4,Zqf,e,if_neg (List.cons_ne_nil _ _)]
   rfl
theorem vx1 {m:Nat} {s:Option Bag} {g:Nat} {tm:Tms} {σ:Za} {fin:Nat->Tms->Za->Option (Zy×Tms×Za)} {out:Zy×Tms×Za} (ho:okS m s g) (hb:ZbJ s+d.1.length<=1000000) (h:gcT m (keepL [31,4,3,2,1,0] tm) σ=(vT1 i j b S p,hM (.arena (eNs ns)) s g))
  (hfin:fin m (vT1 i j b S p) (hM (.arena (eNs ns)) (ZN s (ZaR (ZM p [35]) d.1)) (if d.1=[] then g else Zbg m))=some out):ZbK BY m [31,4,3,2,1,0] 31 35 1 true Zf7 ZlE fin tm σ=some out:=by
 refine Zkd (vh1 ns i j d hd b S p h) fun es' hp2=>?_
 obtain ⟨l,hl,rfl⟩:=ZlO (fun p:Tx×Int=>(AVal.str p.1,AVal.int .i64 p.2)) (fun q=>(match q.1 with | .str s=>s | _=>[],match q.2 with | .int _ v=>v | _=>0)) (fun a=>rfl) hp2
 obtain ⟨tm',σ',h1,h2⟩:=vf1 ns i j d hd b S p hp l s g tm σ ho (by rw [hl.length_eq];exact hb) h
 have e1:ZN s (ZaR (ZM p [35]) l)=ZN s (ZaR (ZM p [35]) d.1):=Zp6 s (hl.map _)
 have e2:(if l=[] then g else Zbg m)=(if d.1=[] then g else Zbg m):=by
  by_cases hz:l=[]
  ·have : d.1=[]:=by rw [hz] at hl;exact hl.symm.eq_nil
   rw [if_pos hz,if_pos this]
  ·have : ¬d.1=[]:=fun e=>hz (by rw [e] at hl;exact hl.eq_nil)
   rw [if_neg hz,if_neg this]
 unfold ZaZ
 rw [show l.map (fun p:Tx×Int=>(AVal.str p.1,AVal.int .i64 p.2))=eV l from rfl,h1]
 simp only [ZdC]
 rw [h2,e1,e2]
 exact hfin
end
end
section
def vT2 (j:Nat) (p:Tx):Tms:=[(50,.mapg 0 j false),(4,.fn 35 [.ref 1 0]),(1,.str p)]
def Zff:List AOp:=[oI 55 (.ext (.t 54) 0),oI 56 (.ext (.t 54) 1),oM 13 55,oM 14 56]
noncomputable abbrev ZfK (A:ZD):=Za1 BY 50 54 3 true Zff (fun m'=>evC FC PR BY m' ZiS) 0 (.arena A)
theorem ZtB (A:ZD) (j:Nat) (p k:Tx) (v:Int):(ZfK A (.str k,.int .i64 v) (vT2 j p) (hM (.arena A) none 0)).map (fun q=>(keepL [50,4,1] q.1,q.2)) =
  some (vT2 j p,[.arena A,.var [.sl 2 0 0 1],.bag 0 3 (W8 _ [Zk ⟨p,k,v⟩]),.free,.free,.free]):=by
 have hc:=fun {σ:Za} {t sq:Nat} h1 h2 h3=>Zqt (σ:=σ) (t:=t) (sq:=sq) ⟨p,k,v⟩ h1 h2 h3
 simp only at hc
 generalize Zk ⟨p,k,v⟩=x at *
 unfold ZfK Za1 vT2 hM Zff
 simp -implicitDefEqProofs only [EQA,Xt,Xg,Xe,Xz,↓reduceIte,ZqQ,Zhu,hc,Zbo,roB,Zcn,Zb5,ZcU,Zcy,Zca,Zcx,Zac,XaM,XI]
theorem ZCn (A:ZD) (j:Nat) (p k:Tx) (v:Int) (q:Bag) (g:Nat) (hg:g < 1000) (hq0:Z3 q<=1000000) :
  (ZfK A (.str k,.int .i64 v) (vT2 j p) (hM (.arena A) (some q) g)).map (fun q=>(keepL [50,4,1] q.1,q.2)) =
  some (vT2 j p,[.arena A,.var [.sl 2 (g+1) 0 (Z3 q+1)],.bag (g+1) 3 (Zbe q [Zk ⟨p,k,v⟩]),.free,.free,.free,.free]):=by
 have hc:=fun {σ:Za} {t r g n sq:Nat} {q:Bag} h1 h2 h3 h4 h5 h6=>ZqX (σ:=σ) (t:=t) (r:=r) (g:=g) (n:=n) (sq:=sq) (q:=q) ⟨p,k,v⟩ h1 h2 h3 h4 h5 h6
 simp only at hc
 generalize Zk ⟨p,k,v⟩=x at *
 simp only [hM]
 have hc2:=fun {σ:Za} {sq:Nat} h1 h2 h6=>hc (σ:=σ) (t:=1) (r:=2) (g:=g) (n:=Z3 q) (q:=q) (sq:=sq) h1 h2 rfl hq0 hg h6
 generalize Zbe q [x]=q2 at *
 generalize Z3 q=n at *
 clear hc
 unfold ZfK Za1 vT2 Zff
 simp -implicitDefEqProofs only [EQA,Xt,Xg,Xe,Xz,↓reduceIte,ZqQ,Zhu,hc2,Zbo,roB,Zcn,Zb5,ZcU,Zcy,Zca,Zcx,Zac,XaM,XI]
theorem ZxW (A:ZD) (j:Nat) (p:Tx) (q:Bag):gcT 2 (vT2 j p) [.arena A,.var [.sl 2 0 0 (Z3 q)],.bag 0 3 q,.free,.free,.free]=(vT2 j p,hM (.arena A) (some q) 0):=by
 unfold vT2 hM
 simp -implicitDefEqProofs only [Zb6,ZS,ZK,eq_self,Xt,Xg,Xo,Xe,Xz,beq_self_eq_true,Xf,ne_eq,reduceCtorEq,↓reduceIte,gcT,gcA,Zq,Zj,Zd,Zi,Zw,Zb,Zv,Zl,Zt,XL,XU,gcT,gcA,Zq,ZB,Zaz,Zco]
theorem ZDa (A:ZD) (j:Nat) (p:Tx) (q:Bag) (g:Nat) (hg:g < 999):gcT 3 (vT2 j p) [.arena A,.var [.sl 2 (g+1) 0 (Z3 q)],.bag (g+1) 3 q,.free,.free,.free,.free]=(vT2 j p,hM (.arena A) (some q) 1):=by
 have h1:(1000<=g+1)=False:=by simp;omega
 unfold vT2 hM
 simp -implicitDefEqProofs only [Zb6,ZS,ZK,eq_self,Xt,Xg,Xo,Xe,Xz,beq_self_eq_true,Xf,ne_eq,reduceCtorEq,↓reduceIte,gcT,gcA,Zq,Zj,Zd,Zi,Zw,Zb,Zv,Zl,Zt,XL,XU,gcT,gcA,Zq,ZB,h1,Zaz,Zco]
theorem ZCI (A:ZD) (j:Nat) (p:Tx) (q:Bag) (g:Nat) (hg:g < 999):gcT 2 (vT2 j p) [.arena A,.var [.sl 2 (g+1) 0 (Z3 q)],.bag (g+1) 3 q,.free,.free,.free,.free]=(vT2 j p,hM (.arena A) (some q) 0):=by
 have h1:(1000<=g+1)=False:=by simp;omega
 unfold vT2 hM
 simp -implicitDefEqProofs only [Zb6,ZS,ZK,eq_self,Xt,Xg,Xo,Xe,Xz,beq_self_eq_true,Xf,ne_eq,reduceCtorEq,↓reduceIte,gcT,gcA,Zq,Zj,Zd,Zi,Zw,Zb,Zv,Zl,Zt,XL,XU,gcT,gcA,Zq,ZB,h1,Zaz,Zco]
end
section
section
variable (A:ZD) (j:Nat) (p:Tx)
theorem Zvl {m:Nat} {s:Option Bag} {g:Nat} (ho:okS m s g) (hsz:ZbJ s<=1000000) (k:Tx) (v:Int) :
  ∃ tm' σ',ZfK A (.str k,.int .i64 v) (vT2 j p) (hM (.arena A) s g)=some (tm',σ')/\gcT m (keepL [50,4,1] tm') σ'=(vT2 j p,hM (.arena A) (ZN s [Zk ⟨p,k,v⟩]) (Zbg m)):=by
 cases s with
 | none =>
  rcases ho with ⟨rfl,rfl⟩ | ⟨_,h,_⟩
  ·obtain ⟨⟨tm',σ'⟩,h1,h2⟩:=Xi.1 (ZtB A j p k v)
   simp only [Xb] at h2
   refine ⟨tm',σ',h1,?_⟩
   rw [h2.1,h2.2]
   exact ZxW A j p (W8 _ [Zk ⟨p,k,v⟩])
  ·exact absurd rfl h
 | some q =>
  have hg:=Zmd ho
  obtain ⟨⟨tm',σ'⟩,h1,h2⟩:=Xi.1 (ZCn A j p k v q g (by omega) hsz)
  simp only [Xb] at h2
  refine ⟨tm',σ',h1,?_⟩
  have hn:Z3 q+1=Z3 (Zbe q [Zk ⟨p,k,v⟩]):=by rw [ZlV];rfl
  rw [h2.1,h2.2,hn]
  rcases ho with ⟨rfl,_⟩ | ⟨rfl,_,_⟩
  ·exact ZCI A j p (Zbe q [Zk ⟨p,k,v⟩]) g hg
  ·exact ZDa A j p (Zbe q [Zk ⟨p,k,v⟩]) g hg
end
section
variable (ns:List TN) (j:Nat) (d:TN) (hd:ns[j]?=some d) (p:Tx)
include hd
theorem vh2 {m g:Nat} {s:Option Bag} {tm:Tms} {σ:Za} (h:gcT m (keepL [50,4,1] tm) σ=(vT2 j p,hM (.arena (eNs ns)) s g)) :
  ZcO m [50,4,1] 50 tm σ=some (0,.arena (eNs ns),eV d.1,vT2 j p,hM (.arena (eNs ns)) s g):=by
 have h1:ZdP (hM (.arena (eNs ns)) s g) (tget (vT2 j p) 50)=some (0,.arena (eNs ns),eV d.1):=by
  rw [show tget (vT2 j p) 50=.mapg 0 j false from rfl]
  have h0:(hM (.arena (eNs ns)) s g)[0]?=some (.arena (eNs ns)):=by cases s <;> rfl
  simp only [ZdP,h0,ZbU hd]
  rfl
 unfold ZcO
 rw [h]
 simp only [h1]
 rw [if_pos (Zo8 _ d.1)]
noncomputable abbrev Zif:Nat->Tms->Za->Option (Zy×Tms×Za):=fun m'=>evC FC PR BY m' ZiS
theorem vf2 {m:Nat}:∀ (r:List (Tx×Int)) (s:Option Bag) (g:Nat) (tm:Tms) (σ:Za),okS m s g->ZbJ s+r.length<=1000000->gcT m (keepL [50,4,1] tm) σ=(vT2 j p,hM (.arena (eNs ns)) s g) ->
  ∃ tm' σ',ZaB BY m [50,4,1] 50 54 3 true Zff Zif (eV d.1) (eV r) tm σ=some (tm',σ')/\gcT m (keepL [50,4,1] tm') σ'=(vT2 j p,hM (.arena (eNs ns)) (ZN s (ZaR p r)) (if r=[] then g else Zbg m))
 | [],s,g,tm,σ,ho,hb,h=>⟨tm,σ,rfl,by rw [if_pos rfl];exact h⟩
 | (k,v)::r,s,g,tm,σ,ho,hb,h=>by
  simp only [XD] at hb
  obtain ⟨tm1,σ1,h1,h2⟩:=Zvl (eNs ns) j p ho (by omega) k v
  obtain ⟨tm',σ',h3,h4⟩:=vf2 r (ZN s [Zk ⟨p,k,v⟩]) (Zbg m) tm1 σ1 (Zmx ho _) (by rw [ZgL];simp only [Wv];omega) h2
  refine ⟨tm',σ',?_,?_⟩
  ·rw [show eV ((k,v)::r)=(.str k,.int .i64 v)::eV r from rfl]
   simp only [ZaB,vh2 ns j d hd p h,if_true]
   unfold ZfK at h1
   rw [h1]
   exact h3
  ·have e:(if r=[] then Zbg m else Zbg m)=Zbg m:=by split <;> rfl
   rw [h4,Zqf,e,if_neg (List.cons_ne_nil _ _)]
   rfl
theorem vx2 {m:Nat} {s:Option Bag} {g:Nat} {tm:Tms} {σ:Za} {fin:Nat->Tms->Za->Option (Zy×Tms×Za)} {out:Zy×Tms×Za} (ho:okS m s g) (hb:ZbJ s+d.1.length<=1000000) (h:gcT m (keepL [50,4,1] tm) σ=(vT2 j p,hM (.arena (eNs ns)) s g))
  (hfin:fin m (vT2 j p) (hM (.arena (eNs ns)) (ZN s (ZaR p d.1)) (if d.1=[] then g else Zbg m))=some out):ZbK BY m [50,4,1] 50 54 3 true Zff Zif fin tm σ=some out:=by
 refine Zkd (vh2 ns j d hd p h) fun es' hp2=>?_
 obtain ⟨l,hl,rfl⟩:=ZlO (fun p:Tx×Int=>(AVal.str p.1,AVal.int .i64 p.2)) (fun q=>(match q.1 with | .str s=>s | _=>[],match q.2 with | .int _ v=>v | _=>0)) (fun a=>rfl) hp2
 obtain ⟨tm',σ',h1,h2⟩:=vf2 ns j d hd p l s g tm σ ho (by rw [hl.length_eq];exact hb) h
 have e1:ZN s (ZaR p l)=ZN s (ZaR p d.1):=Zp6 s (hl.map _)
 have e2:(if l=[] then g else Zbg m)=(if d.1=[] then g else Zbg m):=by
  by_cases hz:l=[]
  ·have : d.1=[]:=by rw [hz] at hl;exact hl.symm.eq_nil
   rw [if_pos hz,if_pos this]
  ·have : ¬d.1=[]:=fun e=>hz (by rw [e] at hl;exact hl.eq_nil)
   rw [if_neg hz,if_neg this]
 unfold ZaZ
 rw [show l.map (fun p:Tx×Int=>(AVal.str p.1,AVal.int .i64 p.2))=eV l from rfl,h1]
 simp only [ZdC]
 rw [h2,e1,e2]
 exact hfin
end
end
section
def vS (b:Bool) (S:List AVal) (p:Tx) (j:Nat):Tms:=[(4,.fn 35 [.ref 1 0]),(3,.bool b),(2,.lst false S),(1,.str p),(0,.nref 0 j 0)]
def ZaP {α:Type} (m g:Nat) (M:List α):Nat:=match M with
 | []=>g
 | _::_=>Zbg m
theorem Zor {α:Type} (m g:Nat) (M:List α) [Decidable (M=[])]:(if M=[] then g else Zbg m)=ZaP m g M:=by
 cases M with
 | nil=>simp [ZaP]
 | cons=>simp [ZaP]
theorem gc2 {m:Nat} {s:Option Bag} {g:Nat} (ho:okS m s g) (A:ZD) (j:Nat) (p:Tx):gcT m (vT2 j p) (hM (.arena A) s g)=(vT2 j p,hM (.arena A) s g):=by
 rcases ho with ⟨rfl,rfl⟩ | ⟨rfl,h,hg⟩
 ·cases s with
  | none =>
   unfold vT2 hM
   simp -implicitDefEqProofs only [Zb6,ZS,ZK,eq_self,Xg,Xo,Xz,beq_self_eq_true,Xf,ne_eq,reduceCtorEq,↓reduceIte,gcT,gcA,Zq,Zj,Zd,Zi,Zw,Zb,Zv,Zl,Zt,XL,XU,gcT,gcA,Zq,ZB,Zaz,Zco]
  | some q =>
   unfold vT2 hM
   simp -implicitDefEqProofs only [Zb6,ZS,ZK,eq_self,Xt,Xg,Xo,Xe,Xz,beq_self_eq_true,Xf,ne_eq,reduceCtorEq,↓reduceIte,gcT,gcA,Zq,Zj,Zd,Zi,Zw,Zb,Zv,Zl,Zt,XL,XU,gcT,gcA,Zq,ZB,Zaz,Zco]
 ·cases s with
  | none=>exact absurd rfl h
  | some q =>
   have : g=0\/g=1:=by omega
   rcases this with rfl | rfl
   ·unfold vT2 hM
    simp -implicitDefEqProofs only [Zb6,ZS,ZK,eq_self,Xt,Xg,Xo,Xe,Xz,beq_self_eq_true,Xf,ne_eq,reduceCtorEq,↓reduceIte,gcT,gcA,Zq,Zj,Zd,Zi,Zw,Zb,Zv,Zl,Zt,XL,XU,gcT,gcA,Zq,ZB,Zaz,Zco]
   ·unfold vT2 hM
    simp -implicitDefEqProofs only [Zb6,ZS,ZK,eq_self,Xt,Xg,Xo,Xe,Xz,beq_self_eq_true,Xf,ne_eq,reduceCtorEq,↓reduceIte,gcT,gcA,Zq,Zj,Zd,Zi,Zw,Zb,Zv,Zl,Zt,XL,XU,gcT,gcA,Zq,ZB,Zaz,Zco]
section
variable {m:Nat} {s:Option Bag} {g:Nat} (ns:List TN) (j:Nat) (d:TN) (hd:ns[j]?=some d) (b:Bool) (p:Tx) (ho:okS m s g)
include hd ho
theorem Zzx (hb:ZbJ s+d.1.length<=1000000) (X Y:AVal) (pre:Tms) (hpre:pre=[(31,X)]\/pre=[(27,.bool false),(10,Y)]) :
  evC FC PR BY m Zgl (pre++vS b [] p j) (hM (.arena (eNs ns)) s g)=some (.ret,vT2 j p,hM (.arena (eNs ns)) (ZN s (ZaR p d.1)) (ZaP m g d.1)):=by
 have hs:Z2 (hM (.arena (eNs ns)) s g) 0=some (eNs ns):=by cases s <;> rfl
 have q1:=ZbU hd
 have hz:(((0:Nat):Int) == 0)=true:=rfl
 have hrun:=fun tm σ h=>vx2 ns j d hd p (m:=m) (s:=s) (g:=g) (tm:=tm) (σ:=σ) (fin:=fun m'=>evC FC PR BY m' ZmE) (out:=(.ret,vT2 j p,hM (.arena (eNs ns)) (ZN s (ZaR p d.1)) (ZaP m g d.1))) ho hb h (by rw [Zor];simp -implicitDefEqProofs only [Zp5,eq_self,ZmE,ZmW])
 have hg:=gc2 ho (eNs ns) j p
 unfold vS
 generalize hM (.arena (eNs ns)) (ZN s (ZaR p d.1)) (ZaP m g d.1)=H2 at *
 generalize hM (.arena (eNs ns)) s g=H at *
 generalize eN d=D at *
 generalize eNs ns=A at *
 rcases hpre with rfl | rfl
 ·rw [ZhJ]
  unfold Zfp
  simp only [XC,Xr]
  simp -implicitDefEqProofs only [EQA,Za4,Xg,Xe,reduceCtorEq,↓reduceIte,Ziy,Zbo,Zgb,hs,q1,hz]
  have h5:=hrun [(50,.mapg 0 j false),(49,.nref 0 j 0),(48,.nref 0 j 0),(47,.nref 0 j 0),(46,.bool true),(4,.fn 35 [.ref 1 0]),(3,.bool b),(2,.lst false []),(1,.str p),(0,.nref 0 j 0)] H hg
  unfold Zif at h5
  simp only [Zff,oI,oM,oF,oL] at h5
  rw [h5]
  rfl
 ·rw [ZhJ]
  unfold Zfp
  simp only [XC,Xr]
  simp -implicitDefEqProofs only [EQA,Za4,Xg,Xe,reduceCtorEq,↓reduceIte,Ziy,Zbo,Zgb,hs,q1,hz]
  have h5:=hrun [(50,.mapg 0 j false),(49,.nref 0 j 0),(48,.nref 0 j 0),(47,.nref 0 j 0),(46,.bool true),(4,.fn 35 [.ref 1 0]),(3,.bool b),(2,.lst false []),(1,.str p),(0,.nref 0 j 0)] H hg
  unfold Zif at h5
  simp only [Zff,oI,oM,oF,oL] at h5
  rw [h5]
  rfl
theorem Zww (S:List AVal) (hS:((S.length:Int) == 0)=false) (X Y:AVal) (pre:Tms) (hpre:pre=[(31,X)]\/pre=[(27,.bool false),(10,Y)]) (out:Zy×Tms×Za) (h:evC FC PR BY m ZhN ((46,.bool false)::vS b S p j) (hM (.arena (eNs ns)) s g)=some out) :
  evC FC PR BY m Zgl (pre++vS b S p j) (hM (.arena (eNs ns)) s g)=some out:=by
 unfold vS at *
 generalize hM (.arena (eNs ns)) s g=H at *
 rcases hpre with rfl | rfl
 ·rw [ZhJ]
  unfold Zfp
  simp only [XC,Xr]
  simp -implicitDefEqProofs only [EQA,Xg,Xe,reduceCtorEq,↓reduceIte,hS]
  exact h
 ·rw [ZhJ]
  unfold Zfp
  simp only [XC,Xr]
  simp -implicitDefEqProofs only [EQA,Xg,Xe,reduceCtorEq,↓reduceIte,hS]
  exact h
end
end
section
def Fr (A:ZD) (s:Option Bag) (r g:Nat) (σ:Za):Prop:=σ[0]?=some (.arena A)/\match s with
 | none=>σ[1]?=some (.var [.lst true []])
 | some q=>σ[1]?=some (.var [.sl r g 0 (Z3 q)])/\σ[r]?=some (.bag g 3 q)/\2<=r/\g < 900
theorem Zmz {A:ZD} {s:Option Bag} {g:Nat} (hg:g < 900):Fr A s 2 g (hM (.arena A) s g):=by
 cases s with
 | none=>exact ⟨rfl,rfl⟩
 | some q=>exact ⟨rfl,rfl,rfl,XI _,hg⟩
theorem ZeS {σ:Za} {t:Nat} {x:Zg} (h:σ[t]?=some x):σ.set t x=σ:=by
 apply List.ext_getElem?
 intro i
 by_cases e:t=i
 ·subst e;rw [XJ (Xc.1 h).1,h]
 ·rw [Xs e]
abbrev ZbL (i:Nat) (p:Tx) (S:List AVal):List AVal:=[.nref 0 i 0,.str p,.lst false S,.bool false,.fn 35 [.ref 1 0]]
section
variable {A:ZD} {i:Nat} {p:Tx} {S:List AVal} {σ:Za} {sq:Nat}
theorem ZH7 (h0:σ[0]?=some (.arena A)) (h1:σ[1]?=some (.var [.lst true []])) (hff:Zac σ sq 1=true) (hne:2<=sq) (hS:Zu S=[]) {s':Option Bag} (hE:E 34 (ZbL i p S) (hM (.arena A) none 0)=some (.tup [],hM (.arena A) s' 0)) :
  ∃ σ' c,Zr E BY σ sq 34 1 false (ZbL i p S)=some (.tup [],σ',c)/\Fr A s' sq 0 σ'/\σ'.length=σ.length/\∀ k:Nat,k≠sq->σ[k]?=some Zg.free->σ'[k]?=some Zg.free:=by
 have hl0:0 < σ.length:=(Xc.1 h0).1
 have hl1:1 < σ.length:=(Xc.1 h1).1
 have g0:σ.getD 0 .free=.arena A:=by simp [Xd,h0]
 have g1:σ.getD 1 .free=.var [.lst true []]:=by simp [Xd,h1]
 have href:Zu (ZbL i p S)=[0,1]:=rfl
 have hre:Zj σ 1000 (Zu (ZbL i p S)) []=[0,1]:=by
  rw [href]
  simp only [Zj,X4,Xf,if_false,g0,g1,Zt,Zu,ZU,Xr,XE,XL,List.singleton_append,Xz,XaM]
 have hρ:Zd σ 0 [0,1] 0 (1001+3*i)=some (0,1001+3*i):=Zej (j:=0) h0 rfl (by omega)
 have hρ1:Zd σ 0 [0,1] 1 0=some (1,0):=by simp [Zd,Zw,h1,Zb,Zv]
 have hvs:Zp (Zd σ 0 [0,1]) (ZbL i p S)=ZbL i p S:=by
  simp only [ZbL,Zp,Ze,hρ,hρ1,if_true]
 have hh:Zi σ 0 [0,1] (Zd σ 0 [0,1]) [0,1] 0=hM (.arena A) none 0:=by
  simp only [Zi,g0,g1,Zl,Zp,Ze];rfl
 have hall:([0,1].all fun t=>okB (σ.getD t .free))=true:=by simp only [X3,Ww,g0,g1,okB,Wh]
 cases s' with
 | none =>
  have hk:Z5 σ [0,1] (hM (.arena A) none 0) 0=true:=by simp [hM,Z5,okB,Za6,Zb,h0,h1]
  refine ⟨σ,_,ZdG (r:=.tup []) (r':=.tup []) (view:=false) (by kernel_rfl) rfl hre rfl hall hvs hh hE rfl (by simp [hM]) (by simp [hM]) hk hff rfl (σ':=σ) ?_ rfl,⟨h0,h1⟩,rfl,fun k _ h=>h⟩
  simp only [hM,ZY,ZO,XK,X6,Zl,Zp,Ze]
  rw [ZeS h0,ZeS h1]
 | some q =>
  have hsl:sq < σ.length:=by
   have:=Zei (i:=0) hff (by omega)
   exact (Xc.1 (by simpa using this)).1
  have hk:Z5 σ [0,1] (hM (.arena A) (some q) 0) 0=true:=by simp [hM,Z5,okB,Za6,Zb,h0,h1]
  have hlay:ZY σ [0,1] sq (hM (.arena A) (some q) 0) 0 σ=(σ.set 1 (.var [.sl sq 0 0 (Z3 q)])).set sq (.bag 0 3 q):=by
   simp only [hM,ZY,ZO,XK,X6,Zl,Zp]
   rw [ZeS h0]
   simp [ZaF,Zah,Ze,Zb,Xd]
  have h3:((σ.set 1 (.var [.sl sq 0 0 (Z3 q)])).set sq (.bag 0 3 q))[1]?=some (.var [.sl sq 0 0 (Z3 q)]):=by
   rw [Xs (by omega),XJ hl1]
  have h4:((σ.set 1 (.var [.sl sq 0 0 (Z3 q)])).set sq (.bag 0 3 q))[0]?=some (.arena A):=by
   rw [Xs (by omega),Xs (by omega)];exact h0
  refine ⟨_,_,ZdG (r:=.tup []) (r':=.tup []) (view:=false) (by kernel_rfl) rfl hre rfl hall hvs hh hE rfl (by simp [hM]) (by simp [hM]) hk hff rfl hlay rfl,⟨h4,h3,?_,hne,by omega⟩,by simp,fun k hk1 hk2=>?_⟩
  ·rw [XJ (by simpa using hsl)]
  ·have : k≠1:=by rintro rfl;rw [h1] at hk2;cases hk2
   rw [Xs (fun e=>hk1 e.symm),Xs (fun e=>this e.symm)]
   exact hk2
theorem Ztf {r g:Nat} {q q':Bag} {g':Nat} (h0:σ[0]?=some (.arena A)) (h1:σ[1]?=some (.var [.sl r g 0 (Z3 q)])) (h2:σ[r]?=some (.bag g 3 q)) (hr:2<=r) (hg:g < 900) (hg':g'<=1) (hff:Zac σ sq 1=true) (hE:E 34 (ZbL i p S) (hM (.arena A) (some q) 0)=some (.tup [],hM (.arena A) (some q') g')) :
  ∃ σ' c,Zr E BY σ sq 34 1 false (ZbL i p S)=some (.tup [],σ',c)/\(σ'[0]?=some (.arena A)/\σ'[1]?=some (.var [.sl r (g+g') 0 (Z3 q')])/\σ'[r]?=some (.bag (g+g') 3 q'))/\σ'.length=σ.length/\∀ k:Nat,σ[k]?=some Zg.free->σ'[k]?=some Zg.free:=by
 have hl0:0 < σ.length:=(Xc.1 h0).1
 have hl1:1 < σ.length:=(Xc.1 h1).1
 have hlr:r < σ.length:=(Xc.1 h2).1
 have g0:σ.getD 0 .free=.arena A:=by simp [Xd,h0]
 have g1:σ.getD 1 .free=.var [.sl r g 0 (Z3 q)]:=by simp [Xd,h1]
 have g2:σ.getD r .free=.bag g 3 q:=by simp [Xd,h2]
 have n0:¬r=0:=by omega
 have n1:¬r=1:=by omega
 have n0':¬0=r:=by omega
 have n1':¬1=r:=by omega
 have ng:¬1000<=g:=by omega
 have href:Zu (ZbL i p S)=[0,1]:=rfl
 have hre:Zj σ 1000 (Zu (ZbL i p S)) []=[0,1,r]:=by
  rw [href]
  have c2:([0,1]:List Nat).contains r=false:=by simp [n0,n1]
  simp only [Zj,X4,Xf,if_false,g0,g1,g2,c2,Zt,Zu,ZU,Xr,XE,XL,XC,Xz,XaM,Bool.or_false]
 have hρ:Zd σ 0 [0,1,r] 0 (1001+3*i)=some (0,1001+3*i):=Zej (j:=0) h0 rfl (by omega)
 have hρ1:Zd σ 0 [0,1,r] 1 0=some (1,0):=by simp [Zd,Zw,h1,Zb,Zv]
 have hρ2:Zd σ 0 [0,1,r] r g=some (2,0):=by simp [Zd,Zw,h2,Zb,Zv,n0',n1',ng]
 have hvs:Zp (Zd σ 0 [0,1,r]) (ZbL i p S)=ZbL i p S:=by
  simp only [ZbL,Zp,Ze,hρ,hρ1,if_true]
 have hh:Zi σ 0 [0,1,r] (Zd σ 0 [0,1,r]) [0,1,r] 0=hM (.arena A) (some q) 0:=by
  simp [Zi,h0,h1,h2,Zl,Zp,Ze,hρ2,Zv,Zb,ng,hM,Xd]
 have hall:([0,1,r].all fun t=>okB (σ.getD t .free))=true:=by simp only [X3,Ww,g0,g1,g2,okB,Wh]
 have hk:Z5 σ [0,1,r] (hM (.arena A) (some q') g') 0=true:=by simp [hM,Z5,okB,Za6,Zb,h0,h1,h2,ng,hg']
 have hlay:ZY σ [0,1,r] sq (hM (.arena A) (some q') g') 0 σ=(σ.set 1 (.var [.sl r (g+g') 0 (Z3 q')])).set r (.bag (g+g') 3 q'):=by
  simp only [hM,ZY,ZO,XK,X6,Zl,Zp]
  rw [ZeS h0]
  simp [ZaF,Zah,Ze,Zb,h2,ng,Xd]
 refine ⟨_,_,ZdG (r:=.tup []) (r':=.tup []) (view:=false) (by kernel_rfl) rfl hre rfl hall hvs hh hE rfl (by simp [hM]) (by simp [hM]) hk hff rfl hlay rfl,⟨?_,?_,?_⟩,by simp,fun k hk2=>?_⟩
 ·rw [Xs n0,Xs (by omega)];exact h0
 ·rw [Xs n1,XJ hl1]
 ·rw [XJ (by simpa using hlr)]
 ·have e1:k≠1:=by rintro rfl;rw [h1] at hk2;cases hk2
  have e2:k≠r:=by rintro rfl;rw [h2] at hk2;cases hk2
  rw [Xs (fun e=>e2 e.symm),Xs (fun e=>e1 e.symm)]
  exact hk2
def dR:List AVal->Nat
 | []=>0
 | _::_=>1
def Zg5 (s:Option Bag) (g:Nat) (R:List AVal):Nat:=match s with
 | none=>0
 | some _=>g+dR R
def ZpH (s:Option Bag) (sq r:Nat):Nat:=match s with
 | none=>sq
 | some _=>r
theorem ZoF (R:List AVal):ZaP 3 0 R=dR R:=by cases R <;> rfl
def mS:Option Bag->Nat
 | none=>2
 | some _=>3
theorem ZA3 {s:Option Bag} {r g:Nat} {R:List AVal} (hF:Fr A s r g σ) (hff:Zac σ sq 1=true) (hne:2<=sq) (hS:Zu S=[]) (hg:g < 899)
  (hE:E 34 (ZbL i p S) (hM (.arena A) s 0)=some (.tup [],hM (.arena A) (ZN s R) (ZaP (mS s) 0 R))) :
  ∃ σ' c,Zr E BY σ sq 34 1 false (ZbL i p S)=some (.tup [],σ',c)/\Fr A (ZN s R) (ZpH s sq r) (Zg5 s g R) σ'/\σ'.length=σ.length/\(∀ k:Nat,k≠sq->σ[k]?=some Zg.free->σ'[k]?=some Zg.free):=by
 cases s with
 | none =>
  obtain ⟨σ',c,h1,h2,h3,h4⟩:=ZH7 hF.1 hF.2 hff hne hS (s':=ZN none R) (by
   rw [hE]
   cases R <;> rfl)
  exact ⟨σ',c,h1,h2,h3,h4⟩
 | some q =>
  obtain ⟨h0,hq1,hq2,hr,hg9⟩:=hF
  obtain ⟨q',hq'⟩:∃ q',ZN (some q) R=some q':=by cases R <;> exact ⟨_,rfl⟩
  have hE':=hE
  rw [show mS (some q)=3 from rfl,ZoF,hq'] at hE'
  have hd:dR R<=1:=by cases R <;> simp [dR]
  obtain ⟨σ',c,h1,⟨h2,h3,h4⟩,h5,h6⟩:=Ztf h0 hq1 hq2 hr hg9 hd hff hE'
  refine ⟨σ',c,h1,?_,h5,fun k _ h=>h6 k h⟩
  rw [hq']
  exact ⟨h2,h3,h4,hr,by simp only [Zg5];omega⟩
theorem Zm2 {s:Option Bag} {r g:Nat} (hF:Fr A s r g σ):Zar 2 σ (.tup [])=some (.tup [],hM (.arena A) s 0):=by
 obtain ⟨h0,h⟩:=hF
 have g0:σ.getD 0 .free=.arena A:=by simp [Xd,h0]
 have hR:Wm 2=[0,1]:=rfl
 cases s with
 | none =>
  have h:σ[1]?=some (.var [.lst true []]):=h
  have g1:σ.getD 1 .free=.var [.lst true []]:=by simp [Xd,h]
  have hi:Zq 2 [.tup []] σ=[0,1]:=by
   simp only [Zq,Zu,ZU,hR,XG,Wp,XE,g0,g1,Zt]
   rfl
  simp only [Zar,gcA,hi,Zp,Ze,Zi,g0,g1,Zl,hM]
 | some q =>
  obtain ⟨h1,h2,hr,hg⟩:=h
  have g1:σ.getD 1 .free=.var [.sl r g 0 (Z3 q)]:=by simp [Xd,h1]
  have g2:σ.getD r .free=.bag g 3 q:=by simp [Xd,h2]
  have n0:¬0=r:=by omega
  have n1:¬1=r:=by omega
  have m0:¬r=0:=by omega
  have m1:¬r=1:=by omega
  have ng:¬1000<=g:=by omega
  have nr:¬r < 2:=by omega
  have c2:([0,1]:List Nat).contains r=false:=by simp [m0,m1]
  have hi:Zq 2 [.tup []] σ=[0,1,r]:=by
   simp only [Zq,Zu,ZU,hR,XG,Wp,XE,Xr,g0,g1,Zt]
   simp only [Zj,c2,Xf,if_false,g2,Zt,Xr,XC]
  have hρ:Zd σ 2 [0,1,r] r g=some (2,0):=by simp [Zd,Zw,h2,Zb,Zv,n0,n1,ng]
  simp only [Zar,gcA,hi,Zp,Ze,Zi,g0,g1,g2,Zl,hM,hρ]
  simp [Zv,Zb,ng]
theorem Zqb {q:Bag} {g:Nat} (hF:Fr A (some q) 2 g σ):Zar 3 σ (.tup [])=some (.tup [],hM (.arena A) (some q) (if g=0 then 0 else 1)):=by
 obtain ⟨h0,h1,h2,hr,hg⟩:=hF
 have hR:Wm 3=[0,1,2]:=rfl
 have g0:σ.getD 0 .free=.arena A:=by simp [Xd,h0]
 have g1:σ.getD 1 .free=.var [.sl 2 g 0 (Z3 q)]:=by simp [Xd,h1]
 have g2:σ.getD 2 .free=.bag g 3 q:=by simp [Xd,h2]
 have ng:¬1000<=g:=by omega
 have hi:Zq 3 [.tup []] σ=[0,1,2]:=by
  simp only [Zq,Zu,ZU,hR,XG,Wp,XE,Xr,g0,g1,g2,Zt]
  rfl
 have hρ:Zd σ 3 [0,1,2] 2 g=some (2,if g=0 then 0 else 1):=by
  simp [Zd,Zw,h2,Zb,Zv,ng]
 simp only [Zar,gcA,hi,Zp,Ze,Zi,g0,g1,g2,Zl,hM,hρ]
 simp [Zv,Zb,ng]
end
end
section
def Zaw (o:Option Nat) (f:Nat->List AVal):List AVal:=match o with
 | some i=>f i
 | none=>[]
theorem Zo3 (l:List Tx):Zu (l.map AVal.str)=[]:=by
 induction l with
 | nil=>rfl
 | cons x l ih=>simp only [XA,Zu,ZU,ih,XE]
def k0a:Zc:=(.seq (.region [oM 62 0,oI 63 (.nilchk (.t 62)),oF 64 1 63,oL 65 64,oM 66 2,oI 67 (.iaddr 1 (.t 66) (.c (.int .i64 0))),oL 68 67,oI 69 (.look 2 .nilp false (.t 65) (.t 68)),oM 15 69] (some [(3,5),(3,6)]) [15,4,3,2,1,0]) (.seq (.region [oM 70 15,oI 71 (.peq true (.t 70) (.c .nilp))] none [71,15,4,3,2,1,0]) (.cond (.t 71) (.region [oM 72 15,oM 73 1,oM 74 2,oI 75 (.iaddr 1 (.t 74) (.c (.int .i64 0))),oL 76 75,oI 77 (.call 48 0 true [(.t 73),(.t 76)]),oM 78 2,oI 79 (.slice 1 (.t 78) (some (.c (.int .i64 1))) none none),oM 80 4,oI 81 (.call 34 1 false [(.t 72),(.t 77),(.t 79),(.c (.bool false)),(.t 80)])] (some [(3,7),(4,7),(5,7),(9,9)]) [4,3,2,1,0]) .skip)))
def k0b:Zc:=(.seq (.region [oM 82 0,oI 83 (.nilchk (.t 82)),oF 84 1 83,oL 85 84,oI 86 (.look 2 .nilp false (.t 85) (.c (.str [43]))),oM 16 86] none [16,4,3,2,1]) (.seq (.region [oM 87 16,oI 88 (.peq true (.t 87) (.c .nilp)),oM 89 88,⟨(some 90),(.mov (.t 3)),(some (89,true)),[]⟩,⟨(some 91),(.un .not (.t 90)),(some (89,true)),[]⟩,oI 92 (.pick (.t 89) (.t 91) (.c (.bool false)))] none [92,16,4,2,1]) (.cond (.t 92) (.region [oM 93 16,oM 94 1,oI 95 (.call 48 0 true [(.t 94),(.c (.str [43]))]),oM 96 2,oI 97 (.slice 1 (.t 96) (some (.c (.int .i64 1))) none none),oM 98 4,oI 99 (.call 34 1 false [(.t 93),(.t 95),(.t 97),(.c (.bool false)),(.t 98)])] (some [(2,4),(6,6)]) []) .skip)))
theorem ZDQ:Zl9=.seq k0a k0b:=rfl
section
variable {m:Nat} {A:ZD} (ns:List TN) (j:Nat) (d:TN) (hd:ns[j]?=some d) (b:Bool) (S:List AVal) (p:Tx)
theorem ZFb {σ:Za} (hs:Z2 σ 0=some (eNs ns)) (hd:ns[j]?=some d) (hn:b=true\/Zm [43] d.2=none) (pre:Tms) (hpre:pre=[]\/pre=[(71,.bool false),(15,.nilp)]) :
  (evC FC PR BY m k0b (pre++vS b S p j) σ).map (fun q=>(q.1,q.2.2))=some (.normal,σ):=by
 have q1:=ZbU hd
 have q2:=ZeA hs hd [43]
 unfold vS k0b
 generalize eN d=D at *
 generalize eNs ns=A at *
 have hz:∀ σ:Za,σ++Xy 0 Zg.free=σ:=fun σ=>by simp
 rcases hpre with rfl | rfl
 ·rcases hn with rfl | hn
  ·cases hk:Zm [43] d.2 with
   | none =>
    simp only [hk,nxV] at q2
    simp only [Xr]
    simp -implicitDefEqProofs only [EQA,Za4,Xg,Xe,ZG,ZaC,reduceCtorEq,↓reduceIte,hs,q1,q2]
   | some i =>
    simp only [hk,nxV] at q2
    simp only [Xr]
    simp -implicitDefEqProofs only [EQA,Za4,Xg,Xe,unA,ZG,unG,reduceCtorEq,↓reduceIte,hs,q1,q2]
  ·simp only [hn,nxV] at q2
   simp only [Xr]
   simp -implicitDefEqProofs only [EQA,Za4,Xg,Xe,ZG,ZaC,reduceCtorEq,↓reduceIte,hs,q1,q2]
 ·rcases hn with rfl | hn
  ·cases hk:Zm [43] d.2 with
   | none =>
    simp only [hk,nxV] at q2
    simp only [XC,Xr]
    simp -implicitDefEqProofs only [EQA,Za4,Xg,Xe,ZG,ZaC,reduceCtorEq,↓reduceIte,hs,q1,q2]
   | some i =>
    simp only [hk,nxV] at q2
    simp only [XC,Xr]
    simp -implicitDefEqProofs only [EQA,Za4,Xg,Xe,unA,ZG,unG,reduceCtorEq,↓reduceIte,hs,q1,q2]
  ·simp only [hn,nxV] at q2
   simp only [XC,Xr]
   simp -implicitDefEqProofs only [EQA,Za4,Xg,Xe,ZG,ZaC,reduceCtorEq,↓reduceIte,hs,q1,q2]
theorem ZIm {σ σ2:Za} {c:Cls} {i:Nat} (hs:Z2 σ 0=some (eNs ns)) (hs2:Z2 (σ++[.free]) 0=some (eNs ns)) (hd:ns[j]?=some d) (hn:Zm [43] d.2=some i) (l:Tx) (r:List Tx) (hp:p.length+1<=1000000000000)
  (hcall:Zr E BY (σ++[.free]) σ.length 34 1 false [.nref 0 i 0,.str (ZM p [43]),.lst false (r.map AVal.str),.bool false,.fn 35 [.ref 1 0]]=some (.tup [],σ2,c)) (pre:Tms) (hpre:pre=[]\/pre=[(71,.bool false),(15,.nilp)]) :
  (evC FC PR BY m k0b (pre++vS false ((l::r).map AVal.str) p j) σ).map (fun q=>(q.1,q.2.2))=some (.normal,σ2):=by
 have q1:=ZbU hd
 have q2:=ZeA hs hd [43]
 have q3:=fun σ sq own view=>ZhC σ sq own view p [43] hp
 have q4:=fun σ=>Zpr σ l r
 have hff:(σ++[Zg.free])[σ.length]?=some .free:=by simp
 have hz:∀ σ:Za,σ++Xy 0 Zg.free=σ:=fun σ=>by simp
 have hz1:∀ σ:Za,σ++Xy 1 Zg.free=σ++[Zg.free]:=fun σ=>rfl
 simp only [hn,nxV] at q2
 unfold vS k0b
 generalize (l::r).map AVal.str=S at *
 generalize r.map AVal.str=S1 at *
 generalize eN d=D at *
 generalize eNs ns=A at *
 generalize ZM p [43]=p2 at *
 rcases hpre with rfl | rfl
 ·simp only [Xr]
  simp -implicitDefEqProofs only [EQA,Za4,Xg,Xe,Xz,unA,ZG,unG,reduceCtorEq,↓reduceIte,hs,q1,q2,q3,q4,hcall,hff,ZaM,ZaW,Zbi,Zb1,Zc3,ZcE,Zdi,Zda,Zby,ZfR]
 ·simp only [XC,Xr]
  simp -implicitDefEqProofs only [EQA,Za4,Xg,Xe,Xz,unA,ZG,unG,reduceCtorEq,↓reduceIte,hs,q1,q2,q3,q4,hcall,hff,ZaM,ZaW,Zbi,Zb1,Zc3,ZcE,Zdi,Zda,Zby,ZfR]
theorem ZDV {σ:Za} (hs:Z2 σ 0=some (eNs ns)) (hd:ns[j]?=some d) (l:Tx) (r:List Tx) (hn:Zm l d.2=none) :
  evC FC PR BY m k0a ((46,.bool false)::vS b ((l::r).map AVal.str) p j) σ=some (.normal,[(71,.bool false),(15,.nilp)]++vS b ((l::r).map AVal.str) p j,σ):=by
 have q1:=ZbU hd
 have q2:=ZeA hs hd l
 have g0:((l::r).map AVal.str)[0]?=some (.str l):=rfl
 have hz:∀ σ:Za,σ++Xy 0 Zg.free=σ:=fun σ=>by simp
 simp only [hn,nxV] at q2
 unfold vS k0a
 simp only [XC,Xr]
 generalize (l::r).map AVal.str=S at *
 generalize eN d=D at *
 generalize eNs ns=A at *
 simp -implicitDefEqProofs only [EQA,Za4,Xg,Xe,Xz,reduceCtorEq,↓reduceIte,hs,q1,q2,g0,ZbG,Int.reduceToNat,Xay,AVal.cells]
theorem ZEI {σ σ2:Za} {c:Cls} {i:Nat} (hs:Z2 σ 0=some (eNs ns)) (hs2:Z2 (σ++[.free]) 0=some (eNs ns)) (hd:ns[j]?=some d) (l:Tx) (r:List Tx) (hn:Zm l d.2=some i) (hp:p.length+l.length<=1000000000000)
  (hcall:Zr E BY (σ++[.free]) σ.length 34 1 false [.nref 0 i 0,.str (ZM p l),.lst false (r.map AVal.str),.bool false,.fn 35 [.ref 1 0]]=some (.tup [],σ2,c)) :
  evC FC PR BY m k0a ((46,.bool false)::vS b ((l::r).map AVal.str) p j) σ=some (.normal,vS b ((l::r).map AVal.str) p j,σ2):=by
 have q1:=ZbU hd
 have q2:=ZeA hs hd l
 have q3:=fun σ sq own view=>ZhC σ sq own view p l hp
 have q4:=fun σ=>Zpr σ l r
 have g0:((l::r).map AVal.str)[0]?=some (.str l):=rfl
 have hz:∀ σ:Za,σ++Xy 0 Zg.free=σ:=fun σ=>by simp
 have hz1:∀ σ:Za,σ++Xy 1 Zg.free=σ++[Zg.free]:=fun σ=>rfl
 have hff:(σ++[Zg.free])[σ.length]?=some .free:=by simp
 simp only [hn,nxV] at q2
 unfold vS k0a
 generalize (l::r).map AVal.str=S at *
 generalize r.map AVal.str=S1 at *
 generalize eN d=D at *
 generalize eNs ns=A at *
 generalize ZM p l=p2 at *
 simp -implicitDefEqProofs only [EQA,Za4,Xg,Xe,Xz,reduceCtorEq,↓reduceIte,hs,q1,q2,q3,q4,g0,hcall,hff,ZbG,Int.reduceToNat,Xay,AVal.cells,ZaM,ZaW,Zbi,Zb1,Zc3,ZcE,Zdi,Zda,Zby,ZfR]
end
end
section
def ZjV (A:ZD) (i:Nat) (p:Tx) (S:List AVal) (R:List AVal):Prop:=∀ (s:Option Bag),ZbJ s+R.length<=1000000->E 34 (ZbL i p S) (hM (.arena A) s 0)=some (.tup [],hM (.arena A) (ZN s R) (ZaP (mS s) 0 R))
theorem Zjq {A:ZD} {s:Option Bag} {r g:Nat} {σ:Za} (h:Fr A s r g σ):Fr A s r g (σ++[.free]):=by
 obtain ⟨h0,h1⟩:=h
 have ap:∀ {t:Nat} {x:Zg},σ[t]?=some x->(σ++[.free])[t]?=some x:=fun {t x} h=>by
  rw [Wa (Xc.1 h).1];exact h
 refine ⟨ap h0,?_⟩
 cases s with
 | none=>exact ap h1
 | some q=>exact ⟨ap h1.1,ap h1.2.1,h1.2.2⟩
def ZAk (s:Option Bag) (r g:Nat) (R:List AVal) (r' g':Nat):Prop:=s≠none->r'=r/\g<=g'/\(g'=g↔R=[])/\g'<=g+2
theorem way {A:ZD} {s:Option Bag} {r g:Nat} {σ:Za} {i:Nat} {p:Tx} {S:List AVal} {R:List AVal} (hF:Fr A s r g σ) (hl:2<=σ.length) (hS:Zu S=[]) (hg:g < 899) (hC:ZjV A i p S R) (hb:ZbJ s+R.length<=1000000) :
  ∃ σ' c,Zr E BY (σ++[.free]) σ.length 34 1 false (ZbL i p S)=some (.tup [],σ',c)/\Fr A (ZN s R) (ZpH s σ.length r) (Zg5 s g R) σ'/\2<=σ'.length:=by
 obtain ⟨σ',c,h1,h2,h3,_⟩:=ZA3 (R:=R) (Zjq hF) (sq:=σ.length) (by simp [Zac,freeAt]) hl hS hg (hC s hb)
 exact ⟨σ',c,h1,h2,by rw [h3];simp;omega⟩
section
variable {m:Nat} (ns:List TN) (j:Nat) (d:TN) (hd:ns[j]?=some d) (b:Bool) (p:Tx) (l:Tx) (r:List Tx) (hp:p.length+l.length+1<=1000000000000) (f1 f2:Nat->List AVal)
include hd hp
theorem Zxp {s : Option Bag} {rr gg : Nat} {σ : Za} (hF : Fr (eNs ns) s rr gg σ) (hl : 2 <= σ.length) (hg : gg < 800)
    (h1 : ∀ i, Zm l d.2 = some i -> ZjV (eNs ns) i (ZM p l) (r.map AVal.str) (f1 i)) (h2 : ∀ i, b = false -> Zm [43] d.2 = some i -> ZjV (eNs ns) i (ZM p [43]) (r.map AVal.str) (f2 i))
    (hb : ZbJ s + (Zaw (Zm l d.2) f1).length + (if b then [] else Zaw (Zm [43] d.2) f2).length <= 1000000) :
    ∃ σ', (evC FC PR BY m ZhN ((46, .bool false) :: vS b ((l :: r).map AVal.str) p j) σ).map (fun q => (q.1, q.2.2)) = some (.normal, σ') /\ ∃ r' g', Fr (eNs ns) (ZN s (Zaw (Zm l d.2) f1 ++ (if b then [] else Zaw (Zm [43] d.2) f2))) r' g' σ' /\ ZAk s rr gg (Zaw (Zm l d.2) f1 ++ (if b then [] else Zaw (Zm [43] d.2) f2)) r' g' := by
  have hnd : ∀ {s : Option Bag} {r g : Nat} {σ : Za}, Fr (eNs ns) s r g σ -> Z2 σ 0 = some (eNs ns) := fun h => ZCf h.1
  have first : ∃ pre σ1, (pre = [] \/ pre = [(71, .bool false), (15, .nilp)]) /\ evC FC PR BY m k0a ((46, .bool false) :: vS b ((l :: r).map AVal.str) p j) σ = some (.normal, pre ++ vS b ((l :: r).map AVal.str) p j, σ1) /\ ∃ r1 g1, Fr (eNs ns) (ZN s (Zaw (Zm l d.2) f1)) r1 g1 σ1 /\ 2 <= σ1.length /\ g1 < 850 /\ (s ≠ none -> r1 = rr /\ g1 = gg + dR (Zaw (Zm l d.2) f1)) := by
    cases hk : Zm l d.2 with
    | none =>
      refine ⟨_, σ, Xp rfl, ZDV ns j d b p (hnd hF) hd l r hk, rr, gg, hF, hl, by omega, fun _ => ⟨rfl, ?_⟩⟩
      simp [Zaw, dR]
    | some i =>
      obtain ⟨σ1, c, q1, q2, q3⟩ := way hF hl (Zo3 r) (by omega) (h1 i hk) (by rw [hk] at hb; simp only [Zaw] at hb; omega)
      refine ⟨[], σ1, Xk rfl, ZEI ns j d b p (hnd hF) (hnd (Zjq hF)) hd l r hk (by omega) q1, _, _, q2, q3, ?_, fun hs => ?_⟩
      . cases s with
        | none => simp only [Zg5]; omega
        | some q => simp only [Zg5]; have : dR (f1 i) <= 1 := by cases f1 i <;> simp [dR]
                    omega
      . cases s with
        | none => exact absurd rfl hs
        | some q => exact ⟨rfl, rfl⟩
  obtain ⟨pre, σ1, hpre, e1, r1, g1, hF1, hl1, hg1, hq1⟩ := first
  have hd1 : ∀ R : List AVal, dR R <= 1 := fun R => by cases R <;> simp [dR]
  have hd0 : ∀ R : List AVal, dR R = 0 ↔ R = [] := fun R => by cases R <;> simp [dR]
  have second : ∃ σ2, (evC FC PR BY m k0b (pre ++ vS b ((l :: r).map AVal.str) p j) σ1).map (fun q => (q.1, q.2.2)) = some (.normal, σ2) /\ ∃ r' g', Fr (eNs ns) (ZN (ZN s (Zaw (Zm l d.2) f1)) (if b then [] else Zaw (Zm [43] d.2) f2)) r' g' σ2 /\ (s ≠ none -> r' = rr /\ g' = g1 + dR (if b then [] else Zaw (Zm [43] d.2) f2)) := by
    by_cases hn : b = true \/ Zm [43] d.2 = none
    . have ew : (if b then [] else Zaw (Zm [43] d.2) f2) = [] := by
        rcases hn with hn | hn
        . rw [if_pos hn]
        . rw [hn]; split <;> rfl
      rw [ew]
      exact ⟨σ1, ZFb ns j d b _ p (hnd hF1) hd hn pre hpre, r1, g1, hF1, fun hs => ⟨(hq1 hs).1, rfl⟩⟩
    . have hb0 : b = false := by cases b <;> simp_all
      subst hb0
      cases hk : Zm [43] d.2 with
      | none => exact absurd (Xp hk) hn
      | some i =>
        simp only [Xf, if_false, Zaw] at hb ⊢
        rw [hk] at hb
        obtain ⟨σ2, c, q1, q2, q3⟩ := way hF1 hl1 (Zo3 r) (by omega) (h2 i rfl hk) (by rw [ZgL]; exact hb)
        refine ⟨σ2, ZIm ns j d p (hnd hF1) (hnd (Zjq hF1)) hd hk l r (by omega) q1 pre hpre, _, _, q2, fun hs => ?_⟩
        have hs1 : ∃ q, ZN s (Zaw (Zm l d.2) f1) = some q := by
          cases s with
          | none => exact absurd rfl hs
          | some q => cases Zaw (Zm l d.2) f1 <;> exact ⟨_, rfl⟩
        obtain ⟨q, hs1⟩ := hs1
        rw [hs1]
        exact ⟨(hq1 hs).1, rfl⟩
  obtain ⟨σ2, e2, r', g', hF2, hq2⟩ := second
  refine ⟨σ2, ?_, r', g', by rw [<- Zk6]; exact hF2, fun hs => ?_⟩
  . rw [Zvq, ZDQ]
    rw [ZiQ e1]
    exact e2
  . obtain ⟨a1, a2⟩ := hq1 hs
    obtain ⟨a3, a4⟩ := hq2 hs
    have := hd1 (Zaw (Zm l d.2) f1)
    have := hd1 (if b then [] else Zaw (Zm [43] d.2) f2)
    refine ⟨a3, by omega, ?_, by omega⟩
    rw [List.append_eq_nil_iff, <- hd0, <- hd0]
    omega
end
end
section
def hxC:Zc:=(.seq (.region [oM 17 0,oI 18 (.nilchk (.t 17)),oF 19 1 18,oL 20 19,oI 21 (.look 2 .nilp false (.t 20) (.c (.str [35]))),oM 10 21] none [10,4,3,2,1,0]) (.seq (.region [oM 22 10,oI 23 (.peq true (.t 22) (.c .nilp)),oM 24 23,⟨(some 25),(.mov (.t 3)),(some (24,true)),[]⟩,⟨(some 26),(.un .not (.t 25)),(some (24,true)),[]⟩,oI 27 (.pick (.t 24) (.t 26) (.c (.bool false)))] none [27,10,4,3,2,1,0]) (.cond (.t 27) (.range [oM 28 10,oI 29 (.nilchk (.t 28)),oF 30 0 29,oL 31 30] [31,4,3,2,1,0] 31 35 1 true [oI 36 (.ext (.t 35) 0),oI 37 (.ext (.t 35) 1),oM 11 36,oM 12 37] ZgA Zmv) .skip)))
theorem Zpt:ZkO=.seq hxC Zgl:=rfl
section
variable {m:Nat} {s:Option Bag} (ns:List TN) (j:Nat) (d:TN) (b:Bool) (S:List AVal) (p:Tx)
theorem ZCs {σ:Za} (hs:Z2 σ 0=some (eNs ns)) (hd:ns[j]?=some d) (hn:b=true\/Zm [35] d.2=none) :
  evC FC PR BY m hxC (vS b S p j) σ=some (.normal,[(27,.bool false),(10,nxV 0 (Zm [35] d.2))]++vS b S p j,σ):=by
 have q1:=ZbU hd
 have q2:=ZeA hs hd [35]
 unfold vS hxC
 have hz:∀ σ:Za,σ++Xy 0 Zg.free=σ:=fun σ=>by simp
 generalize eN d=D at *
 generalize eNs ns=A at *
 rcases hn with rfl | hn
 ·cases hk:Zm [35] d.2 with
  | none =>
   simp only [hk,nxV] at q2 ⊢
   simp only [XC,Xr]
   simp -implicitDefEqProofs only [EQA,Za4,Xg,Xe,ZG,ZaC,reduceCtorEq,↓reduceIte,hs,q1,q2]
  | some i =>
   simp only [hk,nxV] at q2 ⊢
   simp only [XC,Xr]
   simp -implicitDefEqProofs only [EQA,Za4,Xg,Xe,unA,ZG,unG,reduceCtorEq,↓reduceIte,hs,q1,q2]
 ·simp only [hn,nxV] at q2 ⊢
  simp only [XC,Xr]
  simp -implicitDefEqProofs only [EQA,Za4,Xg,Xe,ZG,ZaC,reduceCtorEq,↓reduceIte,hs,q1,q2]
theorem gc1 {g:Nat} (ho:okS m s g) (A:ZD) (i j:Nat):gcT m (vT1 i j b S p) (hM (.arena A) s g)=(vT1 i j b S p,hM (.arena A) s g):=by
 rcases ho with ⟨rfl,rfl⟩ | ⟨rfl,h,hg⟩
 ·cases s with
  | none =>
   unfold vT1 hM
   simp -implicitDefEqProofs only [Zb6,ZS,ZK,eq_self,Xg,Xo,Xz,beq_self_eq_true,Xf,ne_eq,reduceCtorEq,↓reduceIte,gcT,gcA,Zq,Zj,Zd,Zi,Zw,Zb,Zv,Zl,Zt,XL,XU,gcT,gcA,Zq,ZB,Zaz,ZdH,Zco]
  | some q =>
   unfold vT1 hM
   simp -implicitDefEqProofs only [Zb6,ZS,ZK,eq_self,Xt,Xg,Xo,Xe,Xz,beq_self_eq_true,Xf,ne_eq,reduceCtorEq,↓reduceIte,gcT,gcA,Zq,Zj,Zd,Zi,Zw,Zb,Zv,Zl,Zt,XL,XU,gcT,gcA,Zq,ZB,Zaz,ZdH,Zco]
 ·cases s with
  | none=>exact absurd rfl h
  | some q =>
   have : g=0\/g=1:=by omega
   rcases this with rfl | rfl
   ·unfold vT1 hM
    simp -implicitDefEqProofs only [Zb6,ZS,ZK,eq_self,Xt,Xg,Xo,Xe,Xz,beq_self_eq_true,Xf,ne_eq,reduceCtorEq,↓reduceIte,gcT,gcA,Zq,Zj,Zd,Zi,Zw,Zb,Zv,Zl,Zt,XL,XU,gcT,gcA,Zq,ZB,Zaz,ZdH,Zco]
   ·unfold vT1 hM
    simp -implicitDefEqProofs only [Zb6,ZS,ZK,eq_self,Xt,Xg,Xo,Xe,Xz,beq_self_eq_true,Xf,ne_eq,reduceCtorEq,↓reduceIte,gcT,gcA,Zq,Zj,Zd,Zi,Zw,Zb,Zv,Zl,Zt,XL,XU,gcT,gcA,Zq,ZB,Zaz,ZdH,Zco]
theorem Zxb {i:Nat} {di:TN} (ho:okS m s 0) (hd:ns[j]?=some d) (hn:Zm [35] d.2=some i) (hdi:ns[i]?=some di) (hp:p.length+1<=1000000000000) (hb:ZbJ s+di.1.length<=1000000) :
  evC FC PR BY m hxC (vS false S p j) (hM (.arena (eNs ns)) s 0)=some (.normal,[(31,.mapg 0 i false)]++vS false S p j,hM (.arena (eNs ns)) (ZN s (ZaR (ZM p [35]) di.1)) (ZaP m 0 di.1)):=by
 have hs:Z2 (hM (.arena (eNs ns)) s 0) 0=some (eNs ns):=by cases s <;> rfl
 have q1:=ZbU hd
 have q1':=ZbU hdi
 have q2:=ZeA hs hd [35]
 have hrun:=fun tm σ h=>vx1 ns i j di hdi false S p hp (m:=m) (s:=s) (g:=0) (tm:=tm) (σ:=σ) (fin:=fun m'=>evC FC PR BY m' Zmv) (out:=(.normal,vT1 i j false S p,hM (.arena (eNs ns)) (ZN s (ZaR (ZM p [35]) di.1)) (ZaP m 0 di.1))) ho hb h (by rw [Zor];exact Zqg _ _)
 have hg:=gc1 false S p ho (eNs ns) i j
 simp only [hn,nxV] at q2
 unfold vS hxC
 generalize hM (.arena (eNs ns)) (ZN s (ZaR (ZM p [35]) di.1)) (ZaP m 0 di.1)=H2 at *
 generalize hM (.arena (eNs ns)) s 0=H at *
 generalize eN d=D at *
 generalize eN di=D2 at *
 generalize eNs ns=A at *
 have hz:∀ σ:Za,σ++Xy 0 Zg.free=σ:=fun σ=>by simp
 simp -implicitDefEqProofs only [EQA,Za4,Xg,Xe,unA,ZG,unG,reduceCtorEq,↓reduceIte,Ziy,Zbo,Zgb,hs,q1,q1',q2]
 have h5:=hrun [(31,.mapg 0 i false),(30,.nref 0 i 0),(29,.nref 0 i 0),(28,.nref 0 i 0),(27,.bool true),(10,.nref 0 i 0),(4,.fn 35 [.ref 1 0]),(3,.bool false),(2,.lst false S),(1,.str p),(0,.nref 0 j 0)] H hg
 unfold ZlE at h5
 simp only [Zf7,oI,oM,oF,oL] at h5
 rw [h5]
 rfl
theorem ZAh {g:Nat} (ho:okS m s g) (A:ZD):Zar m (hM (.arena A) s g) (.tup [])=some (.tup [],hM (.arena A) s g):=by
 rcases ho with ⟨rfl,rfl⟩ | ⟨rfl,h,hg⟩
 ·exact Zm2 (Zmz (by omega))
 ·cases s with
  | none=>exact absurd rfl h
  | some q =>
   rw [Zqb (Zmz (by omega))]
   have : g=0\/g=1:=by omega
   rcases this with rfl | rfl <;> rfl
end
def ZaN (ns:List TN) (b:Bool) (p:Tx) (d:TN):List AVal:=if b then [] else Zaw (Zm [35] d.2) fun i=>match ns[i]? with
 | some di=>ZaR (ZM p [35]) di.1
 | none=>[]
def Za0 (ns:List TN):List Tx->Bool->Tx->Nat->List AVal
 | [],b,p,j=>match ns[j]? with
  | some d=>ZaN ns b p d++ZaR p d.1
  | none=>[]
 | l::r,b,p,j=>match ns[j]? with
  | some d=>ZaN ns b p d++(Zaw (Zm l d.2) (fun i=>Za0 ns r false (ZM p l) i)++(if b then [] else Zaw (Zm [43] d.2) (fun i=>Za0 ns r false (ZM p [43]) i)))
  | none=>[]
def Zdd (l:List Tx):Nat:=(l.map fun x=>x.length+2).sum
theorem ZnG (p l:Tx):(ZM p l).length<=p.length+l.length+1:=by
 unfold ZM
 split
 ·omega
 ·simp;omega
theorem ZBc {α:Type} (m g:Nat) (M N:List α):ZaP m (ZaP m g M) N=ZaP m g (M++N):=by
 cases N with
 | nil=>rw [XE];rfl
 | cons x N=>cases M <;> rfl
theorem Zoj (p:Tx) (M:List (Tx×Int)):(ZaR p M).length=M.length:=by simp [ZaR]
theorem ZoS (p:Tx) (M:List (Tx×Int)) (m g:Nat):ZaP m g M=ZaP m g (ZaR p M):=by cases M <;> rfl
theorem ZlW {m:Nat} {s:Option Bag} (ho:okS m s 0) (R:List AVal):okS m (ZN s R) (ZaP m 0 R):=by
 cases R with
 | nil=>exact ho
 | cons x R=>exact Zmx ho (x::R)
theorem ZrN (s:Option Bag):okS (mS s) s 0:=by
 cases s with
 | none=>exact Xk ⟨rfl,rfl⟩
 | some q=>exact Xp ⟨rfl,by simp,Xao _⟩
theorem ZjQ (B:Zg) (s:Option Bag) (g:Nat):(hM B s g).length=mS s:=by cases s <;> rfl
theorem Zpx (ns:List TN) (hC:Closed ns) {m:Nat} {s:Option Bag} (ho:okS m s 0) (j:Nat) (d:TN) (hd:ns[j]?=some d) (b:Bool) (S:List AVal) (p:Tx) (hp:p.length+1<=1000000000000) (hb:ZbJ s+(ZaN ns b p d).length<=1000000) :
  ∃ pre X Y,(pre=[(31,X)]\/pre=[(27,.bool false),(10,Y)])/\evC FC PR BY m hxC (vS b S p j) (hM (.arena (eNs ns)) s 0)=some (.normal,pre++vS b S p j,hM (.arena (eNs ns)) (ZN s (ZaN ns b p d)) (ZaP m 0 (ZaN ns b p d))):=by
 have hs:Z2 (hM (.arena (eNs ns)) s 0) 0=some (eNs ns):=by cases s <;> rfl
 by_cases hn:b=true\/Zm [35] d.2=none
 ·have e:ZaN ns b p d=[]:=by
   unfold ZaN
   rcases hn with hn | hn
   ·rw [if_pos hn]
   ·rw [hn];split <;> rfl
  rw [e]
  exact ⟨_,.nilp,_,Xp rfl,ZCs ns j d b S p hs hd hn⟩
 ·have hb0:b=false:=by cases b <;> simp_all
  subst hb0
  cases hk:Zm [35] d.2 with
  | none=>exact absurd (Xp hk) hn
  | some i =>
   have hi:=(hC.next hd hk).2
   obtain ⟨di,hdi⟩:∃ di,ns[i]?=some di:=⟨_,Xm hi⟩
   have e:ZaN ns false p d=ZaR (ZM p [35]) di.1:=by
    unfold ZaN Zaw
    simp only [Xf,if_false,hk,hdi]
   rw [e] at hb ⊢
   rw [Zoj] at hb
   refine ⟨[(31,.mapg 0 i false)],.mapg 0 i false,.nilp,Xk rfl,?_⟩
   rw [<-ZoS]
   exact Zxb ns j d S p ho hd hk hdi hp hb
theorem Zr0 (ns:List TN) (hC:Closed ns):∀ (name:List Tx) (b:Bool) (p:Tx) (j:Nat),j < ns.length->p.length+Zdd name+2<=1000000000->∀ (s:Option Bag),ZbJ s+(Za0 ns name b p j).length<=1000000 ->
  E 34 [.nref 0 j 0,.str p,.lst false (name.map AVal.str),.bool b,.fn 35 [.ref 1 0]] (hM (.arena (eNs ns)) s 0)=some (.tup [],hM (.arena (eNs ns)) (ZN s (Za0 ns name b p j)) (ZaP (mS s) 0 (Za0 ns name b p j))):=by
 intro name
 induction name with
 | nil =>
  intro b p j hj hp s hb
  obtain ⟨d,hd⟩:∃ d,ns[j]?=some d:=⟨_,Xm hj⟩
  have ho:=ZrN s
  have em:Za0 ns [] b p j=ZaN ns b p d++ZaR p d.1:=by simp only [Za0,hd]
  rw [em] at hb ⊢
  rw [Xx,Zoj] at hb
  obtain ⟨pre,X,Y,hpre,e1⟩:=Zpx ns hC ho j d hd b [] p (by simp only [Zdd,X9,List.sum_nil] at hp;omega) (by omega)
  have ho1:=ZlW ho (ZaN ns b p d)
  have e2:=Zzx ns j d hd b p ho1 (by rw [ZgL];omega) X Y pre hpre
  rw [Zk6,ZoS p,ZBc] at e2
  have ho2:=ZlW ho (ZaN ns b p d++ZaR p d.1)
  have e3:=ZAh ho2 (eNs ns)
  rw [Zap (by rfl) Zon,Zpm,Zpt,ZjQ]
  rw [show enterA 0 [AVal.nref 0 j 0,.str p,.lst false (([]:List Tx).map AVal.str),.bool b,.fn 35 [.ref 1 0]] []=vS b [] p j from rfl]
  rw [ZiQ e1,e2]
  exact e3
 | cons l r ih =>
  intro b p j hj hp s hb
  obtain ⟨d,hd⟩:∃ d,ns[j]?=some d:=⟨_,Xm hj⟩
  have ho:=ZrN s
  have hlen:Zdd (l::r)=l.length+2+Zdd r:=by simp [Zdd]
  have em:Za0 ns (l::r) b p j=ZaN ns b p d++(Zaw (Zm l d.2) (fun i=>Za0 ns r false (ZM p l) i)++(if b then [] else Zaw (Zm [43] d.2) (fun i=>Za0 ns r false (ZM p [43]) i))):=by simp only [Za0,hd]
  rw [em] at hb ⊢
  rw [Xx,Xx] at hb
  obtain ⟨pre,X,Y,hpre,e1⟩:=Zpx ns hC ho j d hd b ((l::r).map AVal.str) p (by omega) (by omega)
  have ho1:=ZlW ho (ZaN ns b p d)
  have hg1:=Zmd ho1
  have hg1':ZaP (mS s) 0 (ZaN ns b p d)<=1:=by
   cases s <;> cases ZaN ns b p d <;> simp [ZaP,Zbg,mS]
  have hj1:=ZnG p l
  have hj2:=ZnG p [43]
  simp only [Wv] at hj2
  obtain ⟨σ',e2,r',g',hF2,hP⟩:=Zxp (m:=mS s) ns j d hd b p l r (by omega) (fun i=>Za0 ns r false (ZM p l) i) (fun i=>Za0 ns r false (ZM p [43]) i) (s:=ZN s (ZaN ns b p d)) (rr:=2) (gg:=ZaP (mS s) 0 (ZaN ns b p d)) (σ:=hM (.arena (eNs ns)) (ZN s (ZaN ns b p d)) (ZaP (mS s) 0 (ZaN ns b p d)))
   (Zmz (by omega)) (by rw [ZjQ];cases ZN s (ZaN ns b p d) <;> simp [mS]) (by omega)
   (fun i hi s hs=>ih false (ZM p l) i (hC.next hd hi).2 (by omega) s hs)
   (fun i _ hi s hs=>ih false (ZM p [43]) i (hC.next hd hi).2 (by omega) s hs)
   (by rw [ZgL];omega)
  obtain ⟨⟨e,tm',σ''⟩,e3,e4⟩:=Xi.1 e2
  simp only [Xb] at e4
  obtain ⟨rfl,rfl⟩:=e4
  have hS:((((l::r).map AVal.str).length:Int) == 0)=false:=by simp;omega
  have e5:=Zww ns j d hd b p ho1 ((l::r).map AVal.str) hS X Y pre hpre _ e3
  rw [Zk6] at hF2
  have e6:Zar (mS s) σ'' (.tup [])=some (.tup [],hM (.arena (eNs ns)) (ZN s (ZaN ns b p d++(Zaw (Zm l d.2) (fun i=>Za0 ns r false (ZM p l) i)++(if b then [] else Zaw (Zm [43] d.2) (fun i=>Za0 ns r false (ZM p [43]) i))))) (ZaP (mS s) 0 (ZaN ns b p d++(Zaw (Zm l d.2) (fun i=>Za0 ns r false (ZM p l) i)++(if b then [] else Zaw (Zm [43] d.2) (fun i=>Za0 ns r false (ZM p [43]) i)))))):=by
   generalize (Zaw (Zm l d.2) (fun i=>Za0 ns r false (ZM p l) i)++(if b then [] else Zaw (Zm [43] d.2) (fun i=>Za0 ns r false (ZM p [43]) i)))=W at *
   generalize ZaN ns b p d=T at *
   cases s with
   | none =>
    have : ZaP (mS none) 0 (T++W)=0:=by cases (T++W) <;> rfl
    rw [this]
    exact Zm2 hF2
   | some q =>
    have hne:ZN (some q) T≠none:=by cases T <;> simp [ZN]
    obtain ⟨p1,p2,p3,p4⟩:=hP hne
    subst p1
    obtain ⟨q',hq'⟩:∃ q',ZN (some q) (T++W)=some q':=by cases (T++W) <;> exact ⟨_,rfl⟩
    rw [hq'] at hF2 ⊢
    rw [show mS (some q)=3 from rfl] at *
    rw [Zqb hF2]
    congr 3
    rw [ZoF] at *
    cases T with
    | nil =>
     cases W with
     | nil=>simp [dR] at *;simp [p3]
     | cons x W=>simp [dR] at *;simp [p3]
    | cons x T=>simp [dR] at *;omega
  rw [Zap (by rfl) Zon,Zpm,Zpt,ZjQ]
  rw [show enterA 0 [AVal.nref 0 j 0,.str p,.lst false ((l::r).map AVal.str),.bool b,.fn 35 [.ref 1 0]] []=vS b ((l::r).map AVal.str) p j from rfl]
  rw [ZiQ e1,e5]
  exact e6
end
section
section
variable (key p k:Tx) (v:Int)
end
section
variable {key p k:Tx} {v:Int} {σ:Za} {t u sq:Nat} (htu:t≠u) (ht:σ[t]?=some (.var [.str key]))
include htu ht
end
end
section
def Ze9 (A:ZD) (B:Zg):Prop:=B=.arena A\/B=.rarena A
section
variable {A:ZD} {B:Zg} (hB:Ze9 A B) (j:Nat) (key p k:Tx) (v:Int)
include hB
end
def UR (vs:List AVal):Prop:=(Zu vs=[0,1,2,0]\/Zu vs=[0,1,2]\/Zu vs=[])/\∀ ρ:Rho,(∀ g,1000<=g->ρ 0 g=some (0,g))->ρ 1 0=some (1,0)->ρ 2 0=some (2,0)->Zp ρ vs=vs
section
variable {A:ZD} {B:Zg} (hB:Ze9 A B) (key:Tx) {vs:List AVal} (hv:UR vs) (F:Za)
include hB hv
end
def ZpL (p key:Tx) (M:List (Tx×Int)):List AVal:=ZaR p (M.filter fun q=>q.1 == key)
section
variable {A:ZD} {B:Zg} (hB:Ze9 A B) (j:Nat) (key p:Tx)
include hB
end
section
variable {ns:List TN} {B:Zg} (hB:Ze9 (eNs ns) B) (j:Nat) (d:TN) (hd:ns[j]?=some d) (key p:Tx)
include hB hd
end
end
section
section
variable {A:ZD} {key p:Tx} {i:Nat}
end
section
variable {A:ZD} {B:Zg} (hB:Ze9 A B) (j:Nat) (key p l:Tx) (i:Nat) (hp:p.length+l.length<=1000000000000)
include hB hp
end
section
variable {ns:List TN} {B:Zg} (hB:Ze9 (eNs ns) B) (j:Nat) (d:TN) (hd:ns[j]?=some d) (key p:Tx)
include hB hd
section
variable (f:Tx×Nat->List AVal)
end
end
def ZiU (ns:List TN) (key:Tx):Nat->Tx->Nat->List AVal
 | 0,_,_=>[]
 | n+1,p,j=>match ns[j]? with
  | some d=>ZpL p key d.1++d.2.flatMap fun q=>ZiU ns key n (ZM p q.1) q.2
  | none=>[]
def KeyB (ns:List TN):Prop:=∀ (j:Nat) (d:TN),ns[j]?=some d->∀ q ∈ d.2,q.1.length<=64
section
variable {ns:List TN} {B:Zg} (hB:Ze9 (eNs ns) B) (j:Nat) (d:TN) (hd:ns[j]?=some d) (key p:Tx)
include hB hd
end
end
section
def ZwP:Zc:=(.seq (.region [oI 4 (.mov (.c (.int .i64 (-1))))] none [4]) .ret)
def Zt4:Zc:=ZwP
def ZCW:Zc:=(.seq (.seq (.region [oM 57 8,oM 58 9,oI 59 (.bin .lss (.t 57) (.t 58))] none [59,10,9,8,7,6,5,1,0]) (.cond (.t 59) .skip (.exit 1))) (.block 2 (.seq (.seq (.region [oM 60 0,oM 61 8,oI 62 (.sindex (.t 60) (.t 61)),oM 63 6,oI 64 (.bin .neq (.t 62) (.t 63))] none [64,10,9,8,7,6,5,1,0]) (.cond (.t 64) (.seq (.region [oM 65 0,oM 66 8,oI 67 (.bin .add (.t 66) (.c (.int .i64 1))),oM 68 9,oI 69 (.sslice (.t 65) (some (.t 67)) (some (.t 68))),oM 70 6,oI 71 (.call 92 0 true [(.t 69),(.t 70)]),oM 11 71] none [11,10,8,7,5,1,0]) (.seq (.seq (.region [oM 72 11,oI 73 (.bin .lss (.t 72) (.c (.int .i64 0)))] none [73,11,10,8,7,5,1,0]) (.cond (.t 73) (.seq (.region [oI 4 (.mov (.c (.int .i64 (-1))))] none [4]) .ret) .skip)) (.region [oM 74 8,oM 75 11,oI 76 (.bin .add (.t 75) (.c (.int .i64 1))),oI 77 (.bin .add (.t 74) (.t 76)),oM 8 77] none [10,8,7,5,1,0]))) .skip)) (.seq (.seq (.region [oM 78 0,oM 79 8,oI 80 (.bin .add (.t 79) (.c (.int .i64 1))),oI 81 (.sindex (.t 78) (.t 80)),oM 82 7,oI 83 (.bin .eql (.t 81) (.t 82)),oM 84 83,⟨(some 85),(.mov (.t 0)),(some (84,true)),[]⟩,⟨(some 86),(.mov (.t 8)),(some (84,true)),[]⟩,⟨(some 87),(.mov (.t 8)),(some (84,true)),[]⟩,⟨(some 88),(.mov (.t 5)),(some (84,true)),[]⟩,⟨(some 89),(.bin .add (.t 87) (.t 88)),(some (84,true)),[]⟩,⟨(some 90),(.sslice (.t 85) (some (.t 86)) (some (.t 89))),(some (84,true)),[]⟩,⟨(some 91),(.mov (.t 1)),(some (84,true)),[]⟩,⟨(some 92),(.bin .eql (.t 90) (.t 91)),(some (84,true)),[]⟩,oI 93 (.pick (.t 84) (.t 92) (.c (.bool false)))] none [93,10,8]) (.cond (.t 93) (.seq (.region [oM 94 8,oM 4 94] none [4]) .ret) .skip)) (.seq (.region [oM 95 8,oI 96 (.bin .add (.t 95) (.c (.int .i64 1))),oM 8 96] none [10]) (.seq (.region [oM 97 10,oI 98 (.bin .add (.t 97) (.c (.int .i64 1))),oM 10 98] none []) (.seq .stuck (.cond (.t 107) (.seq (.region [oM 108 0,oM 109 8,oI 110 (.sslice (.t 108) (some (.t 109)) none),oM 111 1,oI 112 (.call 81 0 true [(.t 110),(.t 111)]),oM 12 112] none [12,8]) (.seq (.seq (.region [oM 113 12,oI 114 (.bin .geq (.t 113) (.c (.int .i64 0)))] none [114,12,8]) (.cond (.t 114) (.seq (.region [oM 115 12,oM 116 8,oI 117 (.bin .add (.t 115) (.t 116)),oM 4 117] none [4]) .ret) .skip)) (.seq (.region [oI 4 (.mov (.c (.int .i64 (-1))))] none [4]) .ret))) (.seq .stuck (.cond (.t 132) (.seq (.region [oM 133 0,oM 134 8,oI 135 (.sslice (.t 133) (some (.t 134)) none),oM 136 1,oI 137 (.call 94 0 true [(.t 135),(.t 136)]),oM 13 137] none [13,8]) (.seq (.seq (.region [oM 138 13,oI 139 (.bin .lss (.t 138) (.c (.int .i64 0)))] none [139,13,8]) (.cond (.t 139) (.seq (.region [oI 4 (.mov (.c (.int .i64 (-1))))] none [4]) .ret) .skip)) (.seq (.region [oM 140 8,oM 141 13,oI 142 (.bin .add (.t 140) (.t 141)),oM 4 142] none [4]) .ret))) .skip))))))))))
def ZCk:Zc:=ZCW
def ZlJ:Zc:=(.seq (.region [oI 4 (.mov (.c (.int .i64 0)))] none [1,0]) (.seq (.region [oM 14 1,oI 15 (.slen (.t 14)),oM 5 15] none [5,1,0]) (.seq (.block 0 (.seq (.region [oM 17 5,oI 18 (.bin .eql (.t 17) (.c (.int .i64 0))),oM 19 18,⟨(some 20),(.mov (.t 1)),(some (19,false)),[]⟩,⟨(some 21),(.mov (.t 0)),(some (19,false)),[]⟩,⟨(some 22),(.bin .eql (.t 20) (.t 21)),(some (19,false)),[]⟩,oI 23 (.pick (.t 19) (.c (.bool true)) (.t 22)),oM 16 23] none [16,5,1,0]) (.cond (.t 16) (.seq (.region [oI 4 (.mov (.c (.int .i64 0)))] none [4]) .ret) (.seq (.region [oM 25 5,oI 26 (.bin .eql (.t 25) (.c (.int .i64 1))),oM 24 26] none [24,5,1,0]) (.cond (.t 24) (.seq (.region [oM 27 0,oM 28 1,oI 29 (.sindex (.t 28) (.c (.int .i64 0))),oI 30 (.call 92 0 true [(.t 27),(.t 29)]),oM 4 30] none [4]) .ret) (.seq (.region [oM 32 5,oM 33 0,oI 34 (.slen (.t 33)),oI 35 (.bin .geq (.t 32) (.t 34)),oM 31 35] none [31]) (.cond (.t 31) (.seq (.region [oI 4 (.mov (.c (.int .i64 (-1))))] none [4]) .ret) (.seq .stuck (.cond (.t 36) (.seq (.region [oM 45 0,oM 46 1,oI 47 (.call 81 0 true [(.t 45),(.t 46)]),oM 4 47] none [4]) .ret) .skip))))))))) (.seq (.region [oM 48 1,oI 49 (.sindex (.t 48) (.c (.int .i64 0))),oM 6 49] none [6,5,1,0]) (.seq (.region [oM 50 1,oI 51 (.sindex (.t 50) (.c (.int .i64 1))),oM 7 51] none [7,6,5,1,0]) (.seq (.region [oI 8 (.mov (.c (.int .i64 0)))] none [8,7,6,5,1,0]) (.seq (.region [oM 52 0,oI 53 (.slen (.t 52)),oM 54 5,oI 55 (.bin .sub (.t 53) (.t 54)),oI 56 (.bin .add (.t 55) (.c (.int .i64 1))),oM 9 56] none [9,8,7,6,5,1,0]) (.seq (.region [oI 10 (.mov (.c (.int .i64 0)))] none [10,9,8,7,6,5,1,0]) (.seq (.block 1 (.loop [10,9,8,7,6,5,1,0] ZCk)) Zt4)))))))))
def ZjL:Z0:=⟨[(.tmp 4)],ZlJ⟩
theorem ZDI:FC 86=some ZjL:=by kernel_rfl
theorem ZG6:ZjL.body=ZlJ:=rfl
theorem ZCD:ZjL.res=[(.tmp 4)]:=rfl
def Zms:Zc:=(.seq (.region [oI 4 (.mov (.c (.int .i64 0)))] none [1,0]) (.seq (.region [oM 5 0,oM 6 1,oI 7 (.call 86 0 true [(.t 5),(.t 6)]),oM 4 7] none [4]) .ret))
def ZkV:Z0:=⟨[(.tmp 4)],Zms⟩
theorem Zta:FC 67=some ZkV:=by kernel_rfl
theorem ZGP:ZkV.body=Zms:=rfl
theorem Zt0:ZkV.res=[(.tmp 4)]:=rfl
def Zme:Zc:=(.seq (.region [oI 4 (.mov (.c (.lst true [])))] none [1,0]) (.seq (.region [oM 5 0,oM 6 1,oI 7 (.call 55 0 true [(.t 5),(.t 6),(.c (.int .i64 0)),(.c (.int .i64 (-1)))]),oM 4 7] none [4]) .ret))
def ZkS:Z0:=⟨[(.tmp 4)],Zme⟩
theorem ZI5:FC 47=some ZkS:=by kernel_rfl
theorem ZEJ:ZkS.body=Zme:=rfl
theorem ZFf:ZkS.res=[(.tmp 4)]:=rfl
def ZmN:Zc:=(.seq (.region [oM 58 9,oM 59 10,oM 60 0,oI 61 (.iaddr 1 (.t 58) (.t 59)),oN (.st 1 (.t 61) (.t 60))] none [10,9]) (.seq (.region [oM 62 9,oM 63 10,oI 64 (.bin .add (.t 63) (.c (.int .i64 1))),oI 65 (.slice 1 (.t 62) none (some (.t 64)) none),oM 8 65] none [8]) .ret))
def ZlB:Zc:=ZmN
def ZEk:=xw ZlB ZmN rfl
def ZiV:Zc:=(.seq (.seq (.region [oM 34 10,oM 35 3,oI 36 (.bin .lss (.t 34) (.t 35))] none [36,10,9,3,2,1,0]) (.cond (.t 36) .skip (.exit 0))) (.block 1 (.seq (.region [oM 37 0,oM 38 1,oI 39 (.call 67 0 true [(.t 37),(.t 38)]),oM 11 39] none [11,10,9,3,2,1,0]) (.seq (.seq (.region [oM 40 11,oI 41 (.bin .lss (.t 40) (.c (.int .i64 0)))] none [41,11,10,9,3,2,1,0]) (.cond (.t 41) (.exit 0) .skip)) (.seq (.region [oM 42 9,oM 43 10,oM 44 0,oM 45 11,oM 46 2,oI 47 (.bin .add (.t 45) (.t 46)),oI 48 (.sslice (.t 44) none (some (.t 47))),oI 49 (.iaddr 1 (.t 42) (.t 43)),oN (.st 1 (.t 49) (.t 48))] none [11,10,9,3,2,1,0]) (.seq (.region [oM 50 0,oM 51 11,oM 52 1,oI 53 (.slen (.t 52)),oI 54 (.bin .add (.t 51) (.t 53)),oI 55 (.sslice (.t 50) (some (.t 54)) none),oM 0 55] none [10,9,3,2,1,0]) (.region [oM 56 10,oI 57 (.bin .add (.t 56) (.c (.int .i64 1))),oM 10 57] none [10,9,3,2,1,0])))))))
def Zj1:Zc:=ZiV
def ZpU:=xw Zj1 ZiV rfl
def ZkG:Zc:=(.seq (.region [oI 8 (.mov (.c (.lst true [])))] none [3,2,1,0]) (.seq (.seq (.region [oM 12 3,oI 13 (.bin .eql (.t 12) (.c (.int .i64 0)))] none [13,3,2,1,0]) (.cond (.t 13) (.seq (.region [oI 8 (.mov (.c (.lst true [])))] none [8]) .ret) .skip)) (.seq (.seq (.region [oM 14 1,oI 15 (.bin .eql (.t 14) (.c (.str [])))] none [15,3,2,1,0]) (.cond (.t 15) (.seq (.region [oM 16 0,oM 17 3,oI 18 (.call 65 0 true [(.t 16),(.t 17)]),oM 8 18] none [8]) .ret) .skip)) (.seq (.seq (.region [oM 19 3,oI 20 (.bin .lss (.t 19) (.c (.int .i64 0)))] none [20,3,2,1,0]) (.cond (.t 20) (.region [oM 21 0,oM 22 1,oI 23 (.call 66 0 true [(.t 21),(.t 22)]),oI 24 (.bin .add (.t 23) (.c (.int .i64 1))),oM 3 24] none [3,2,1,0]) .skip)) (.seq (.region [oM 25 3,oM 26 0,oI 27 (.slen (.t 26)),oI 28 (.bin .add (.t 27) (.c (.int .i64 1))),oI 29 (.mm false [(.t 25),(.t 28)]),oM 3 29] none [3,2,1,0]) (.seq (.region [oM 30 3,oI 31 (.mkslice 1 16 (.str []) (.t 30) (.t 30)),oM 9 31] none [9,3,2,1,0]) (.seq (.region [oM 32 3,oI 33 (.bin .sub (.t 32) (.c (.int .i64 1))),oM 3 33] none [9,3,2,1,0]) (.seq (.region [oI 10 (.mov (.c (.int .i64 0)))] none [10,9,3,2,1,0]) (.seq (.block 0 (.loop [10,9,3,2,1,0] Zj1)) ZlB)))))))))
def ZhV:Z0:=⟨[(.tmp 8)],ZkG⟩
theorem ZE1:FC 55=some ZhV:=by kernel_rfl
theorem ZJh:ZhV.body=ZkG:=rfl
theorem ZE8:ZhV.res=[(.tmp 8)]:=rfl
noncomputable def ZhW (m:Nat) (tm:Tms) (σ:Za):Option (AVal×Za):=(ZaJ m ZhV (Zbw FC PR BY m ZlB (WY (ZaQ 0) (evL FC PR BY m [10,9,3,2,1,0] Zj1 tm σ))))
end
section
def Zn:List UInt8->List (List UInt8)
 | []=>[[]]
 | b::r=>if b=47 then []::Zn r else match Zn r with
  | h::t=>(b::h)::t
  | []=>[[b]]
theorem ZgU (s:List UInt8):Zn s≠[]:=by
 cases s with
 | nil=>simp [Zn]
 | cons b r=>simp only [Zn];split <;> (try split) <;> simp
theorem ZCo {s:List UInt8} (h:s.count 47=0):Zn s=[s]:=by
 induction s with
 | nil=>rfl
 | cons b r ih =>
  rw [XbG] at h
  have hb:¬b=47:=by rintro rfl;simp at h
  simp only [Zn]
  rw [if_neg hb,ih (by omega)]
theorem ZyY {s:List UInt8} {k:Nat} (h:s.count 47=k+1):∃ p t,s=p++47::t/\t.count 47=k/\Zn s=p::Zn t/\Lib.indexByte s 47=p.length:=by
 induction s with
 | nil=>simp at h
 | cons b r ih =>
  rw [XbG] at h
  by_cases hb:b=47
  ·subst hb
   exact ⟨[],r,rfl,by simpa using h,by simp [Zn],by simp [Lib.indexByte]⟩
  ·have hb':(b == 47)=false:=by simpa using hb
   rw [hb'] at h
   obtain ⟨p,t,rfl,h2,h3,h4⟩:=ih (by simpa using h)
   refine ⟨b::p,t,rfl,h2,?_,?_⟩
   ·simp only [Zn]
    rw [if_neg hb,h3]
   ·simp only [Lib.indexByte,hb',h4]
    simp
    try omega
theorem ZfC (s:List UInt8):(Zn s).length=s.count 47+1:=by
 induction s with
 | nil=>rfl
 | cons b r ih =>
  simp only [Zn]
  rw [XbG]
  split
  ·rename_i h;subst h;simp [ih]
  ·rename_i h
   have h0:=ZgU r
   split
   ·rename_i e;rw [e] at ih;simp [h];simp at ih;omega
   ·rename_i e;exact absurd e h0
theorem Zwy (l:List UInt8) (c:UInt8):E 92 [.str l,.int .u8 c.toNat] []=some (.int .i64 (Lib.indexByte l c),[]):=by
 have : ((c.toNat:Int).toNat.toUInt8)=c:=by simp
 have h:=(Zbx (fs:=FC) (prim:=PR) (bf:=BY) (f:=92) (args:=[.str l,.int .u8 c.toNat]) (σ:=[])).2 ⟨1,rfl⟩
 rw [this] at h
 exact h
theorem Ztj (σ:Za) (sq own:Nat) (view:Bool) (l:List UInt8) (c:UInt8):Zr E BY σ sq 92 own view [.str l,.int .u8 c.toNat]=some (.int .i64 (Lib.indexByte l c),σ,{}) :=
 Zbp (Zwy l c) (by kernel_rfl) (by simp -implicitDefEqProofs only [ZbO,ZK,eq_self]) (by simp -implicitDefEqProofs only [Zau,ZK,eq_self]) rfl (fun _=>rfl) _ _ _ _
theorem Zuz (l:List UInt8) (c:UInt8):E 86 [.str l,.str [c]] []=some (.int .i64 (Lib.indexByte l c),[]):=by
 rw [Zap (by rfl) ZDI]
 have e0:(((1:Nat):Int) == 0)=false:=rfl
 have e1:(((1:Nat):Int) == 1)=true:=rfl
 have hi:(if ([c] == l)=true then (0:Int) else Lib.indexByte l c)=Lib.indexByte l c:=by
  split
  ·rename_i h
   have : [c]=l:=by simpa using h
   subst this
   simp [Lib.indexByte]
  ·rfl
 simp -implicitDefEqProofs only [EQA,ZDg,Xg,Xe,ZaU,ZG,unG,reduceCtorEq,ite_self,↓reduceIte,ZG6,ZlJ,ZCD,e0,e1,Ztj,ZaG,XaE,Xay]
 rw [hi]
theorem ZAT (σ:Za) (sq own:Nat) (view:Bool) (l:List UInt8) (c:UInt8):Zr E BY σ sq 86 own view [.str l,.str [c]]=some (.int .i64 (Lib.indexByte l c),σ,{}) :=
 Zbp (Zuz l c) (by kernel_rfl) (by simp -implicitDefEqProofs only [ZbO,ZK,eq_self]) (by simp -implicitDefEqProofs only [Zau,ZK,eq_self]) rfl (fun _=>rfl) _ _ _ _
theorem ZGk (l:List UInt8) (c:UInt8):E 67 [.str l,.str [c]] []=some (.int .i64 (Lib.indexByte l c),[]):=by
 rw [Zap (by rfl) Zta]
 simp -implicitDefEqProofs only [EQA,Xg,Xe,reduceCtorEq,↓reduceIte,ZGP,Zms,Zt0,ZAT]
theorem ZGN (σ:Za) (sq own:Nat) (view:Bool) (l:List UInt8) (c:UInt8):Zr E BY σ sq 67 own view [.str l,.str [c]]=some (.int .i64 (Lib.indexByte l c),σ,{}) :=
 Zbp (ZGk l c) (by kernel_rfl) (by simp -implicitDefEqProofs only [ZbO,ZK,eq_self]) (by simp -implicitDefEqProofs only [Zau,ZK,eq_self]) rfl (fun _=>rfl) _ _ _ _
theorem Zyd (l:List UInt8) (c:UInt8):E 66 [.str l,.str [c]] []=some (.int .i64 (Lib.countByte l c),[]):=Zbx.2 ⟨1,rfl⟩
theorem ZB0 (σ:Za) (sq own:Nat) (view:Bool) (l:List UInt8) (c:UInt8):Zr E BY σ sq 66 own view [.str l,.str [c]]=some (.int .i64 (Lib.countByte l c),σ,{}) :=
 Zbp (Zyd l c) (by kernel_rfl) (by simp -implicitDefEqProofs only [ZbO,ZK,eq_self]) (by simp -implicitDefEqProofs only [Zau,ZK,eq_self]) rfl (fun _=>rfl) _ _ _ _
theorem ZCB {σ:Za} {t g k n:Nat} {xs:List AVal} (hs:σ[t]?=some (.row g k xs)) (hn:n<=xs.length) {h:Int} (h0:0<=h) (h1:h<=(xs.length:Int)) (kk:IntKind):ZbC σ k (.sl t g 0 n) none (some (.int kk h)) none=some (.sl t g 0 h.toNat,σ,{ rd:=[t] }):=by
 have he:Zaf σ (.sl t g 0 n)=some ((xs.drop 0).take n,[t]):=by simp [Zaf,hs,hn]
 simp [ZbC,he,hs,Zax,Zci,h0,h1]
theorem ZCR (k n:Nat) (xs:List AVal) (σ:Za):Zar 0 (.row 0 k xs::σ) (.sl 0 0 0 n)=some (.sl 0 0 0 n,[.row 0 k xs]):=by
 rfl
theorem Zp3 {done:List (List UInt8)} {n m:Nat} (hn:n=done.length+m+1):(done.map AVal.str++Xy (n - done.length) (AVal.str []))[done.length]?=some (AVal.str []):=by
 rw [Ws (by simp),Wj,Xaf,show n - done.length=m+1 by omega,XaV]
 rfl
theorem Zo2 {done:List (List UInt8)} {n m:Nat} (hn:n=done.length+m+1) (p:List UInt8):(done.map AVal.str++Xy (n - done.length) (AVal.str [])).set done.length (AVal.str p)=(done++[p]).map AVal.str++Xy (n - (done++[p]).length) (AVal.str []):=by
 rw [List.set_append_right _ _ (by simp),Wj,Xaf,show n - done.length=m+1 by omega,XaV,W7,List.map_append,W0,Xx]
 simp only [XA,X9,XC,Xr,XD,XT]
 rw [show n - (done.length+(0+1))=m by omega]
theorem ZmY (N:Nat) (hN:N<=9223372036854775807):∀ (k:Nat) (s:List UInt8) (done:List (List UInt8)),s.count 47=k->N=done.length+k+1->s.length<=9223372036854775807 ->
  ZhW 0 [(10,.int .i64 done.length),(9,.sl 0 0 0 N),(3,.int .i64 (N - 1:Int)),(2,.int .i64 0),(1,.str [47]),(0,.str s)] [.row 0 1 (done.map AVal.str++Xy (N - done.length) (AVal.str []))] =
   some (.sl 0 0 0 N,[.row 0 1 ((done++Zn s).map AVal.str)])
 | 0,s,done,hk,hNd,hs=>by
  have h1:¬((done.length:Int) < (N - 1:Int)):=by omega
  have i0:(0:Int)<=(done.length:Int):=by omega
  have i1:done.length < N:=by omega
  have hg:=Zp3 (done:=done) (n:=N) (m:=0) (by omega)
  have hst:=Zo2 (done:=done) (n:=N) (m:=0) (by omega) s
  have hw:IntKind.i64.wrap ((done.length:Int)+1)=(N:Int):=by rw [Zc9 (by omega) (by omega)];omega
  rw [ZCo hk]
  have he:(done++[s]).map AVal.str++Xy (N - (done++[s]).length) (AVal.str [])=(done++[s]).map AVal.str:=by
   have : N - (done++[s]).length=0:=by simp;omega
   rw [this];simp
  rw [he] at hst
  have hl:((done++[s]).map AVal.str).length=N:=by simp;omega
  have hl0:(done.map AVal.str++Xy (N - done.length) (AVal.str [])).length=N:=by simp;omega
  generalize hX:done.map AVal.str++Xy (N - done.length) (AVal.str [])=X at *
  generalize hY:(done++[s]).map AVal.str=Y at *
  have hsl:ZbC [Zg.row 0 1 Y] 1 (.sl 0 0 0 N) none (some (.int .i64 (N:Int))) none=some (.sl 0 0 0 N,[Zg.row 0 1 Y],{ rd:=[0] }):=by
   have:=ZCB (σ:=[Zg.row 0 1 Y]) (t:=0) (g:=0) (k:=1) (n:=N) (xs:=Y) rfl (by omega) (h:=(N:Int)) (by omega) (by omega) .i64
   simpa using this
  unfold ZhW
  rw [Zaq]
  simp -implicitDefEqProofs only [EQA,Zau,Xg,Xe,reduceCtorEq,↓reduceIte,ZE8,ZEk,ZmN,ZpU,ZiV,h1,i0,i1,hg,hst,hw,hsl,ZCR,W4,ZbG,ZbQ,ZaT,ZfF,Zo]
 | k+1,s,done,hk,hNd,hs=>by
  obtain ⟨p,t,rfl,ht,hsp,hidx⟩:=ZyY hk
  have hlen:(p++47::t).length=p.length+t.length+1:=by simp;omega
  have ih:=ZmY N hN k t (done++[p]) ht (by simp;omega) (by omega)
  have h1:((done.length:Int) < (N - 1:Int)):=by omega
  have i0:(0:Int)<=(done.length:Int):=by omega
  have i1:done.length < N:=by omega
  have hg:=Zp3 (done:=done) (n:=N) (m:=k+1) (by omega)
  have hst:=Zo2 (done:=done) (n:=N) (m:=k+1) (by omega) p
  have hw:IntKind.i64.wrap ((done.length:Int)+1)=(((done++[p]).length:Nat):Int):=by rw [Zc9 (by omega) (by omega)];simp
  rw [hsp,show done++p::Zn t=(done++[p])++Zn t by simp]
  have hi:Lib.indexByte (p++47::t) 47=p.length:=hidx
  have n1:¬((p.length:Int) < 0):=by omega
  have w1:IntKind.i64.wrap ((p.length:Int)+0)=p.length:=by rw [Zc9 (by omega) (by omega)];omega
  have w2:IntKind.i64.wrap ((p.length:Int)+((1:Nat):Int))=p.length+1:=by rw [Zc9 (by omega) (by omega)];rfl
  have p0:(0:Int)<=(p.length:Int):=by omega
  have p1:(0:Int)<=(p.length:Int)+1:=by omega
  have e1:((p++47::t).take p.length)=p:=by simp
  have e2:((p++47::t).drop (p.length+1))=t:=by rw [List.drop_append];simp
  have e3:((p++47::t).take (p++47::t).length)=p++47::t:=List.take_length
  have t1:((p.length:Int)+1).toNat=p.length+1:=by omega
  have l1:(p.length:Int)<=(((p++47::t).length:Nat):Int):=by omega
  have l2:(p.length:Int)+1<=(((p++47::t).length:Nat):Int):=by omega
  have hl0:(done.map AVal.str++Xy (N - done.length) (AVal.str [])).length=N:=by simp;omega
  generalize hX:done.map AVal.str++Xy (N - done.length) (AVal.str [])=X at *
  generalize hY:(done++[p]).map AVal.str++Xy (N - (done++[p]).length) (AVal.str [])=Y at *
  generalize hS:p++47::t=S at *
  generalize hD:(done++[p]).length=D at *
  unfold ZhW at ih ⊢
  rw [Zaq]
  simp -implicitDefEqProofs only [EQA,Zau,ZS,ZaX,Xg,Xo,Xe,reduceCtorEq,↓reduceIte,gcT,gcA,Zq,Zj,Zd,Zi,Zw,Zb,Zv,Zl,Zt,ZpU,ZiV,h1,i0,i1,hg,hst,hw,ZGN,hi,n1,w1,w2,p0,p1,e1,e2,e3,t1,l1,l2,Zax,Zci,W4,ZbG,ZbQ,ZaT,ZfF,Zo]
  exact ih
theorem Zua (s:List UInt8) (hs:s.length*16<=140737488355328 - 16):E 55 [.str s,.str [47],.int .i64 0,.int .i64 (-1)] []=some (.sl 0 0 0 (s.count 47+1),[.row 0 1 ((Zn s).map AVal.str)]):=by
 have hc:=Xad (a:=(47:UInt8)) (l:=s)
 have key:=ZmY (s.count 47+1) (by omega) (s.count 47) s [] rfl (by simp) (by omega)
 rw [Zap (by rfl) ZE1]
 unfold ZhW at key
 have e0:(((-1:Int)) == 0)=false:=rfl
 have e1:(([47]:List UInt8) == [])=false:=rfl
 have e2:((-1:Int) < 0)=True:=by simp
 have w1:IntKind.i64.wrap (((Lib.countByte s 47:Nat):Int)+1)=((s.count 47+1:Nat):Int):=by
  show IntKind.i64.wrap (((s.count 47:Nat):Int)+1)=_
  rw [Zc9 (by omega) (by omega)];rfl
 have w2:IntKind.i64.wrap (((s.length:Nat):Int)+1)=((s.length+1:Nat):Int):=by rw [Zc9 (by omega) (by omega)];rfl
 have w3:IntKind.i64.wrap (((s.count 47+1:Nat):Int) - 1)=((s.count 47+1:Nat):Int) - 1:=by rw [Zc9 (by omega) (by omega)]
 have n1:¬(((s.count 47+1:Nat):Int) > ((s.length+1:Nat):Int)):=by omega
 have m1:(0:Int)<=((s.count 47+1:Nat):Int):=by omega
 have m2:((s.count 47+1:Nat):Int)<=9223372036854775807:=by omega
 have m3:((16:Nat):Int)*((s.count 47+1:Nat):Int)<=140737488355328:=by omega
 simp only [X9,Xr,XT,Nat.sub_zero] at key
 have z0:((0:Nat):Int)=0:=rfl
 rw [z0] at key
 simp -implicitDefEqProofs only [EQA,Zau,ZS,ZaX,Xt,Xg,Xo,Xe,Xz,ZaU,reduceCtorEq,↓reduceIte,gcT,gcA,Zq,Zj,Zd,Zi,Zw,Zb,Zv,Zl,Zt,ZJh,ZkG,e0,e1,e2,w1,w2,w3,n1,m1,m2,m3,ZB0,W4,Xay]
 rw [XaV] at key
 exact key
theorem Zyb {O:Zz} {bf:Nat->Bool} {f:Nat} {args:List AVal} {k n:Nat} {xs:List AVal} (h:O f args []=some (.sl 0 0 0 n,[.row 0 k xs])) (hn:xs.length=n) (hb:bf f=false) (hp:args.all Z7=true) (hm:args.map ZH=args) (σ:Za) (sq own:Nat):Zr O bf σ sq f own true args=some (.lst false xs,σ,{}):=by
 rw [ZrI hb hp,hm,h]
 have : Z4 true 0 (some (.sl 0 0 0 n,[.row 0 k xs]))=some (.lst false xs,[]):=by
  unfold Z4
  rw [if_pos rfl,Zu4 (k:=k) (g:=0) (t:=0) (xs:=xs) rfl (by omega),Wi (by omega)]
 rw [this,Zrv _ _ _ _ rfl]
def ZhF (l:List (List UInt8)):AVal:=.lst false (l.map AVal.str)
theorem ZsU (s:List UInt8) (hs:s.length*16<=140737488355328 - 16):E 47 [.str s,.str [47]] []=some (ZhF (Zn s),[]):=by
 have hC:=fun σ sq own=>Zyb (bf:=BY) (Zua s hs) (by rw [Wj,ZfC]) (by kernel_rfl) rfl rfl σ sq own
 rw [Zap (by rfl) ZI5]
 simp -implicitDefEqProofs only [EQA,ZgW,Xg,Xe,reduceCtorEq,↓reduceIte,ZEJ,Zme,ZFf,hC,ZhF]
theorem ZuB (σ:Za) (sq own:Nat) (view:Bool) (s:List UInt8) (hs:s.length*16<=140737488355328 - 16):Zr E BY σ sq 47 own view [.str s,.str [47]]=some (.lst false ((Zn s).map AVal.str),σ,{}) :=
 Zbp (ZsU s hs) (by kernel_rfl) (by simp -implicitDefEqProofs only [ZbO,ZK,eq_self]) (by simp -implicitDefEqProofs only [Zau,ZK,eq_self]) rfl (fun _=>rfl) _ _ _ _
theorem Ztw (s:List UInt8) (hs:s.length*16<=140737488355328 - 16):E 31 [.str s] []=some (ZhF (Zn s),[]):=by
 have hC:=fun σ sq own view=>ZuB σ sq own view s hs
 rw [Zap (by rfl) ZFz]
 simp -implicitDefEqProofs only [EQA,ZgW,Xg,Xe,reduceCtorEq,↓reduceIte,ZBx,Zji,Zwb,hC,ZhF]
theorem Zgg (σ:Za) (sq own:Nat) (view:Bool) (s:List UInt8) (hs:s.length*16<=140737488355328 - 16):Zr E BY σ sq 31 own view [.str s]=some (.lst false ((Zn s).map AVal.str),σ,{}) :=
 Zbp (Ztw s hs) (by kernel_rfl) (by simp -implicitDefEqProofs only [ZbO,ZK,eq_self]) (by simp -implicitDefEqProofs only [Zau,ZK,eq_self]) rfl (fun _=>rfl) _ _ _ _
section
end
end
section
theorem ZHz (s:List UInt8):∀ x ∈ Zn s,x.length<=s.length:=by
 induction s with
 | nil=>simp [Zn]
 | cons b r ih =>
  simp only [Zn]
  split
  ·intro x hx
   rcases Xv.1 hx with rfl | hx
   ·simp
   ·have:=ih x hx;simp;omega
  ·split
   ·rename_i h t e
    intro x hx
    rw [e] at ih
    rcases Xv.1 hx with rfl | hx
    ·have:=ih h (by simp);simp;omega
    ·have:=ih x (by simp [hx]);simp;omega
   ·intro x hx
    have : x=[b]:=by simpa using hx
    subst this;simp
def Zix (last:Bool) (x:List UInt8):Bool:=x == [43] || (x == [35] && last) || !Zao x
def ZdN:List (List UInt8)->Bool
 | []=>true
 | x::r=>Zix r.isEmpty x && ZdN r
def ZaK (s:List UInt8):Bool:=ZdN (Zn s) && ZcD s
theorem ZEX {α:Type} {l:List α} {i:Nat} {x:α} {r:List α} (h:l.drop i=x::r):((i:Int) == ((l.length:Int) - 1))=r.isEmpty:=by
 have h1:=congrArg XbK h
 simp only [WO,XD] at h1
 cases r with
 | nil=>simp at h1 ⊢;omega
 | cons y r=>simp at h1 ⊢;omega
theorem Zn0 (s:List UInt8) (L:List (List UInt8)) (hL:L.length<=9223372036854775807) (hx:∀ x ∈ L,x.length<=9223372036854775807):∀ (r:List (List UInt8)) (i:Nat),L.drop i=r ->
  ZiM 0 [(11,.int .i64 i),(10,.int .i64 L.length),(9,.lst false (L.map AVal.str)),(3,.lst false (L.map AVal.str)),(0,.str s)] []=some (.bool (ZdN r && ZcD s),[])
 | [],i,h=>by
  have h1:=ZdF h
  unfold ZiM
  rw [Zaq]
  simp -implicitDefEqProofs only [EQA,Xg,Xe,reduceCtorEq,↓reduceIte,ZmH,ZFn,Zlx,Ze6,Zed,h1,ZkL]
  rfl
 | x::r,i,h=>by
  have ih:=Zn0 s L hL hx r (i+1) (Zbf h).2.1
  have hlt:=(Zbf h).2.2
  have h1:(i:Int) < L.length:=by omega
  have e1:=iad (Zbf h).1 AVal.str (k:=1) rfl
  have h3:=Zdf h1 hL
  have hmem:x ∈ L:=List.mem_of_getElem? (Zbf h).1
  have hC:=fun σ sq own view=>Zqm σ sq own view x (hx x hmem)
  have w1:IntKind.i64.wrap ((L.length:Int) - 1)=(L.length:Int) - 1:=Zc9 (by omega) (by omega)
  have hla:=ZEX h
  have ee:ZdN (x::r)=(Zix r.isEmpty x && ZdN r):=rfl
  rw [ee]
  unfold Zix
  unfold ZiM at ih ⊢
  rw [Zaq]
  cases hp:(x == [43])
  ·cases hq:(x == [35])
   ·cases hz:Zao x
    ·simp -implicitDefEqProofs only [EQA,Zau,ZS,Xg,Xe,ZaU,unA,ZG,ZaC,unG,reduceCtorEq,↓reduceIte,gcT,gcA,Zq,Zj,Zi,Zt,Ze6,Zed,h1,e1,h3,hC,hp,hq,hz]
     exact ih
    ·simp -implicitDefEqProofs only [EQA,Zau,Xg,Xe,ZaU,unA,ZG,ZaC,unG,reduceCtorEq,↓reduceIte,ZmH,Ze6,Zed,h1,e1,hC,hp,hq,hz]
   ·cases hr:r.isEmpty
    ·cases hz:Zao x
     ·simp -implicitDefEqProofs only [EQA,Zau,ZS,Xg,Xe,ZaU,unA,ZG,unG,reduceCtorEq,↓reduceIte,gcT,gcA,Zq,Zj,Zi,Zt,Ze6,Zed,h1,e1,h3,hC,w1,hla,hp,hq,hz,hr]
      exact ih
     ·simp -implicitDefEqProofs only [EQA,Zau,Xg,Xe,ZaU,unA,ZG,unG,reduceCtorEq,↓reduceIte,ZmH,Ze6,Zed,h1,e1,hC,w1,hla,hp,hq,hz,hr]
    ·simp -implicitDefEqProofs only [EQA,Zau,ZS,Xg,Xe,ZaU,unA,ZG,ZaC,unG,reduceCtorEq,↓reduceIte,gcT,gcA,Zq,Zj,Zi,Zt,Ze6,Zed,h1,e1,h3,w1,hla,hp,hq,hr]
     exact ih
  ·simp -implicitDefEqProofs only [EQA,Zau,ZS,Xg,Xe,ZaU,unA,ZG,ZaC,reduceCtorEq,↓reduceIte,gcT,gcA,Zq,Zj,Zi,Zt,Ze6,Zed,h1,e1,h3,hp]
   exact ih
theorem ZwH (s:List UInt8) (hs:s.length*16<=140737488355328 - 64):E 29 [.str s] []=some (.bool (ZaK s),[]):=by
 have hC:=fun σ sq own view=>Zgg σ sq own view s (by omega)
 have hlen:=ZfC s
 have hcl:=Xad (a:=(47:UInt8)) (l:=s)
 have key:=Zn0 s (Zn s) (by omega) (fun x hx=>by have:=ZHz s x hx;omega) (Zn s) 0 rfl
 rw [Zap (by rfl) ZtU]
 unfold ZiM at key
 have z0:((0:Nat):Int)=0:=rfl
 rw [z0] at key
 simp -implicitDefEqProofs only [EQA,ZS,Xg,Xe,reduceCtorEq,↓reduceIte,gcT,gcA,Zq,Zj,Zi,Zt,ZED,ZmQ,hC]
 exact key
theorem ZnW (σ:Za) (sq own:Nat) (view:Bool) (s:List UInt8) (hs:s.length*16<=140737488355328 - 64):Zr E BY σ sq 29 own view [.str s]=some (.bool (ZaK s),σ,{}) :=
 Zbp (ZwH s hs) (by kernel_rfl) (by simp -implicitDefEqProofs only [ZbO,ZK,eq_self]) (by simp -implicitDefEqProofs only [Zau,ZK,eq_self]) rfl (fun _=>rfl) _ _ _ _
end
section
def trH (ns:List TN) (n:Int):Za:=[.var [.nref 1 0 0,.int .i64 n],.arena (eNs ns)]
theorem Zzv:E 7 [] []=some (.ref 0 0,trH [([],[])] 0):=Zbx.2 ⟨3,by kernel_rfl⟩
theorem Ze8 {r:AVal} (hr:ZP r=true) (ns:List TN) (n:Int) (σ:Za):Zar 2 (.var [.nref 1 0 0,.int .i64 n]::.arena (eNs ns)::σ) r=some (r,trH ns n):=by
 have hR:Wm 2=[0,1]:=rfl
 have h0:(Zg.var [.nref 1 0 0,.int .i64 n]::.arena (eNs ns)::σ).getD 0 .free=.var [.nref 1 0 0,.int .i64 n]:=rfl
 have h1:(Zg.var [.nref 1 0 0,.int .i64 n]::.arena (eNs ns)::σ).getD 1 .free=.arena (eNs ns):=rfl
 have hb0:Zt (.var [.nref 1 0 0,.int .i64 n])=[1]:=rfl
 have hb1:Zt (.arena (eNs ns))=[]:=rfl
 have hi:Zq 2 [r] (.var [.nref 1 0 0,.int .i64 n]::.arena (eNs ns)::σ)=[0,1]:=by
  simp only [Zq,Zu,(Zcm (fun _ _=>none) r hr).2,Xr,hR,XG,Wp,XE,h0,h1,hb0,hb1]
  rfl
 have hρ:Zd (.var [.nref 1 0 0,.int .i64 n]::.arena (eNs ns)::σ) 2 [0,1] 1 (1001+3*0)=some (1,1001+3*0):=Zej (j:=0) (by rfl) (by rfl) (by omega)
 simp only [Zar,gcA,hi,Zi,Zp,(Zcm _ r hr).1,h0,h1,Zl,Ze,hρ,if_true,trH]
theorem Zt1 {A A':ZD} {b:Bool} {S:List AVal} {k:Tx} {v:Int} {j:Nat} (h:E 30 [.nref 0 j 0,.lst false S,.str k,.int .i64 v] [.arena A]=some (.bool b,[.arena A'])) (hlen:A.length<=A'.length) (hp:[AVal.lst false S,.str k,.int .i64 v].all Z7=true) {σ:Za} {t sq:Nat} (hs:σ[t]?=some (.arena A)) :
  Zr E BY σ sq 30 0 true [.nref t j 0,.lst false S,.str k,.int .i64 v]=some (.bool b,σ.set t (.arena A'),{ any:=true }) :=
 Zwd (q:=.bool b) (r:=.bool b) h (ZFa (Xk rfl) rfl) (by kernel_rfl) hp rfl hs hlen rfl rfl
theorem Zq3 (ns:List TN) (hC:Closed ns) (hj:0 < ns.length) (n:Int) (hn:-1000000<=n/\n<=1000000) (f k:Tx) (v:Int) (hf:f.length<=1048576) (hl:(Zn f).length<=2000000) :
  E 9 [.ref 0 0,.str f,.str k,.int .i64 v] (trH ns n)=some (if ZaK f then (.int .i64 0,trH (ZR k v (Zn f) ns 0).1 (if (ZR k v (Zn f) ns 0).2 then n else n+1)) else (.int .i64 150,trH ns n)):=by
 have hq:=Zuu ns hC (Zn f) hl 0 hj k v
 have hlen:=Zis k v (Zn f) ns 0
 have hfl:=fun σ sq own view=>ZnW σ sq own view f (by omega)
 cases hb:ZaK f with
 | false =>
  simp only [hb] at hfl
  simp only [Xf,if_false]
  have ho:=fun σ=>Ze8 (r:=.int .i64 150) rfl ns n σ
  unfold trH at *
  generalize eNs ns=A at *
  rw [Zap (by rfl) Zrj]
  simp -implicitDefEqProofs only [EQA,Xt,Xg,Xe,unA,reduceCtorEq,↓reduceIte,Zj6,ZgP,Zjv,hfl,ho]
 | true =>
  simp only [hb] at hfl
  simp only [if_true]
  generalize (ZR k v (Zn f) ns 0).1=ns' at *
  generalize (ZR k v (Zn f) ns 0).2=b at *
  have hc:=fun {σ:Za} {sq:Nat} hs=>Zt1 (σ:=σ) (t:=1) (sq:=sq) hq (by rw [ZhP,ZhP];exact hlen) (by simp [Z7,Zaj]) hs
  have hlv:=fun σ sq own view=>Zgg σ sq own view f (by omega)
  have w:IntKind.i64.wrap (n+1)=n+1:=Zc9 (by omega) (by omega)
  have ho:=fun n σ=>Ze8 (r:=.int .i64 0) rfl ns' n σ
  unfold trH at *
  generalize (Zn f).map AVal.str=S at *
  generalize eNs ns=A at *
  generalize eNs ns'=A' at *
  rw [Zap (by rfl) Zrj]
  cases b with
  | true =>
   simp -implicitDefEqProofs only [EQA,Za4,Xt,Xg,Xe,Xz,unA,reduceCtorEq,↓reduceIte,Zj6,ZgP,Zjv,hfl,hc,hlv,ho,ZaM,ZaW,Zbi,Zb1,Zc3,ZcE,Zdi,Zda,Zby,Xbr]
  | false =>
   simp -implicitDefEqProofs only [EQA,Za4,Xt,Xg,Xo,Xe,Xz,unA,reduceCtorEq,↓reduceIte,Zj6,ZgP,Zjv,hfl,hc,hlv,w,ho,AVal.cells,ZaM,ZaW,Zbi,Zb1,Zc3,ZcE,Zdi,Zda,Zby,Xbr]
def Zam (ns:List TN) (ls:List Tx) (k:Tx):Option Int:=match goT ns 0 ls with
 | some i=>match ns[i]? with
  | some d=>Zm k d.1
  | none=>none
 | none=>none
theorem Zf1 {ns:List TN} (hC:Closed ns):∀ (ls:List Tx) (j i:Nat),j < ns.length->goT ns j ls=some i->i < ns.length
 | [],j,i,hj,h=>by simp only [goT,Xa] at h;omega
 | l::r,j,i,hj,h=>by
  obtain ⟨d,hd⟩:∃ d,ns[j]?=some d:=⟨_,Xm hj⟩
  simp only [goT,hd] at h
  cases hk:Zm l d.2 with
  | none=>rw [hk] at h;cases h
  | some i'=>rw [hk] at h;exact Zf1 hC r i' i (hC.next hd hk).2 h
end
section
def kyR (r:Zh):List UInt8×List UInt8:=(r.f,r.k)
def ltR (a b:Zh):Prop:=lt2 (kyR a) (kyR b)
theorem ZfU (a b:Zh):Zex a b=true↔ltR a b:=by
 unfold Zex ltR lt2 kyR
 simp
theorem Zl1:∀ L:List Zh,ZbF Zcj (L.map Zk)=some (L.map kyR)
 | []=>rfl
 | x::L=>by
  show (ZbF Zcj (L.map Zk)).map ((x.f,x.k)::·)=_
  rw [Zl1 L];rfl
theorem Zkn {x y:List UInt8×List UInt8} (h:lt2 x y):leC Zal x y=true:=by
 unfold leC
 have : ¬lt2 y x:=fun h'=>Zc4 _ (Zd7 h h')
 simp only [Zdq,this,decide_false,Xaq]
theorem Zi5 {x y:List UInt8×List UInt8} (h:leC Zal x y=true):¬lt2 y x:=by
 unfold leC at h
 simpa only [Zdq,Bool.not_eq_true',decide_eq_false_iff_not] using h
theorem Zn4 {L S:List Zh} (hp:S.Perm L) (hs:S.Pairwise ltR):Zde Zal (L.map Zk) (L.map kyR)=S.map Zk/\(L.map kyR).Nodup:=by
 have hnd:(S.map kyR).Nodup:=by
  rw [List.Nodup,XaP]
  exact hs.imp fun h e=>by unfold ltR at h;rw [e] at h;exact Zc4 _ h
 have hndL:(L.map kyR).Nodup:=(hp.map kyR).nodup_iff.1 hnd
 refine ⟨?_,hndL⟩
 have hms:(L.map kyR).mergeSort (leC Zal)=S.map kyR:=by
  have ht:∀ a b c,leC Zal a b=true->leC Zal b c=true->leC Zal a c=true:=by
   intro a b c h1 h2
   have h1:=Zi5 h1
   have h2:=Zi5 h2
   by_cases e:lt2 a c
   ·exact Zkn e
   ·by_cases e2:lt2 c a
    ·exfalso
     by_cases e3:lt2 a b
     ·exact h2 (Zd7 e2 e3)
     ·have:=ZdD e3 h1;subst this;exact h2 e2
    ·have:=ZdD e e2;subst this
     unfold leC;simp [Zdq,Zc4]
  have hto:∀ a b,(leC Zal a b || leC Zal b a)=true:=by
   intro a b
   by_cases e:lt2 a b
   ·simp [Zkn e]
   ·have : leC Zal b a=true:=by unfold leC;simp [Zdq,e]
    simp [this]
  have h1:=List.pairwise_mergeSort ht hto (L.map kyR)
  have h2:(S.map kyR).Pairwise fun a b=>leC Zal a b=true:=by
   rw [XaP];exact hs.imp fun h=>Zkn h
  exact (((List.mergeSort_perm _ _).trans (hp.map kyR).symm)).eq_of_pairwise (fun a b _ _ h1 h2=>ZdD (Zi5 h2) (Zi5 h1)) h1 h2
 unfold Zde
 rw [ZdR,hms,XY]
 apply W3
 intro s hsS
 have hsL:=hp.mem_iff.1 hsS
 obtain ⟨i,hi⟩:=List.mem_iff_getElem?.1 hsL
 simp only [Function.comp]
 rw [Zf3 (i:=i) (y:=Zk s) hndL (by rw [XN,hi];rfl) (by rw [XN,hi];rfl)]
 rfl
theorem ZHC {L S:List Zh} (hp:S.Perm L) (hs:S.Pairwise ltR) (hl:L.length < 4611686018427387904):E 49 [.sl 0 0 0 L.length,.fn 50 []] [.row 0 3 (L.map Zk)]=some (.tup [],[.row 0 3 (S.map Zk)]):=by
 obtain ⟨h1,h2⟩:=Zn4 hp hs
 refine Zbx.2 ⟨1,?_⟩
 show Zdm 3 50 Zcj Zal [.sl 0 0 0 L.length,.fn 50 []] [.row 0 3 (L.map Zk)]=_
 simp only [Zdm,Zl1,Wj,hl,h2,and_self,if_true,h1]
theorem ZD2 {L S:List Zh} (hp:S.Perm L) (hs:S.Pairwise ltR) (hl:L.length < 4611686018427387904) {σ:Za} {t sq:Nat} (hσ:σ[t]?=some (.row 0 3 (L.map Zk))):Zr E BY σ sq 49 0 true [.sl t 0 0 L.length,.fn 50 []]=some (.tup [],σ.set t (.row 0 3 (S.map Zk)),{ any:=true }):=by
 refine ZGJ (args':=[.sl 0 0 0 L.length,.fn 50 []]) hσ (by kernel_rfl) rfl rfl (fun ρ h=>by simp only [Zp,Ze,h]) (fun ρ=>rfl) (Xk rfl) ?_
 rw [ZHC hp hs hl]
 rfl
theorem ZAq {L S:List Zh} (hp:S.Perm L) (hs:S.Pairwise ltR) (hl:L.length < 4611686018427387904):E 36 [.sl 0 0 0 L.length] [.row 0 3 (L.map Zk)]=some (.sl 0 0 0 L.length,[.row 0 3 (S.map Zk)]):=by
 have h:=fun {σ:Za} {sq:Nat} hσ=>ZD2 hp hs hl (σ:=σ) (t:=0) (sq:=sq) hσ
 generalize S.map Zk=X at *
 generalize L.map Zk=Y at *
 rw [Zap (by rfl) Znz]
 simp -implicitDefEqProofs only [EQA,Xg,Xe,reduceCtorEq,↓reduceIte,Zqy,ZhO,ZoA,h]
 simp -implicitDefEqProofs only [Zar,gcA,Zq,Zu,XE,Xr,XU,Xbp,XG,Wp,XK,Zp,Zj,Zt,ZU,Zi,Zl,Ze,XL,X4,Zd,Zw,Zb,Zv,ZK,eq_self,Xg,Xo,beq_self_eq_true,ne_eq,↓reduceIte,gcA,Zq,Zj,Zd,Zi,Zw,Zb,Zv,Zl,Zt,XL,XU]
end
section
theorem ZER {L S:List Zh} (hp:S.Perm L) (hs:S.Pairwise ltR):Zev (L.map Zk)=some (S.map Zk):=by
 obtain ⟨h1,h2⟩:=Zn4 hp hs
 unfold Zev
 rw [Zl1]
 simp only [h2,if_true,h1]
theorem Zse {L S:List Zh} (hp:S.Perm L) (hs:S.Pairwise ltR) (hl:L.length < 4611686018427387904):E 49 [.sl 0 0 0 L.length,.fn 50 []] [.bag 0 3 (W8 _ (L.map Zk))]=some (.tup [],[.row 0 3 (S.map Zk)]):=by
 have h:=ZER hp hs
 refine Zbx.2 ⟨1,?_⟩
 show Zfi 50 [.sl 0 0 0 L.length,.fn 50 []] [.bag 0 3 (W8 _ (L.map Zk))]=_
 have h2:Zpw (W8 _ (L.map Zk))=some (S.map Zk):=h
 have h3:L.length=Z3 (W8 _ (L.map Zk)):=by show L.length=(L.map Zk).length;simp
 simp only [Zfi,h2]
 rw [if_pos ⟨h3,hl,trivial,trivial⟩]
theorem ZsQ {O:Zz} {bf:Nat->Bool} {σ:Za} {t sq f own k:Nat} {view:Bool} {args args':List AVal} {q:Bag} {xs':List AVal} {r:AVal} (hs:σ[t]?=some (.bag 0 k q)) (hb:bf f=true) (hff:Zac σ sq own=true)
  (href:Zu args=[t]) (hren:∀ ρ:Rho,ρ t 0=some (0,0)->Zp ρ args=args') (hr:∀ ρ:Rho,Ze ρ r=r)
  (h:Z4 view 1 (O f args' [.bag 0 k q])=some (r,[.row 0 k xs'])):Zr O bf σ sq f own view args=some (r,σ.set t (.row 0 k xs'),{ any:=true }):=by
 have hd:σ.getD t .free=.bag 0 k q:=by simp [Xd,hs]
 have hf0:Zo σ []=σ:=rfl
 unfold Zr Zbt
 rw [hb]
 simp only [if_true,hf0,href]
 have hreach:Zj σ 1000 [t] []=[t]:=by
  simp only [Zj,X4,Xf,if_false,hd,Zt,Xr]
 rw [hreach]
 unfold ZaS
 have hall:([t].all fun t=>okB (σ.getD t .free))=true:=by simp [X3,Ww,hs,okB]
 rw [if_pos hall]
 have hρ:Zd σ 0 [t] t 0=some (0,0):=by simp [Zd,Zw,hs,Zb,Zv]
 have hheap:Zi σ 0 [t] (Zd σ 0 [t]) [t] 0=[.bag 0 k q]:=by
  simp only [Zi,hd,Zv,Zb,Zl,Xbq,false_and,if_false,Xo]
 rw [hren _ hρ,hheap]
 simp only [XD,XT,Xw]
 rw [h]
 have hk:Z5 σ [t] [.row 0 k xs'] 0=true:=by simp [Z5,okB,hs,Za6,Zb]
 have hren':∀ ρ,Zl ρ (ZaF σ [t] 0 (.row 0 k xs')) (.row 0 k xs')=.row 0 k xs':=by
  intro ρ
  simp [ZaF,hs,Zb,Zl]
 simp only [Z9,Xat,Xf,if_false,XD,XT,Xw,Xbh,XI,decide_true,hk,hff,Wh,if_true,ZY,ZaI,ZO,XK,hr,hren']
 have htl:t < σ.length:=(Xc.1 hs).1
 have hg:(σ.set t (.row 0 k xs'))[t]?=some (.row 0 k xs'):=by simp [htl]
 simp only [hg]
theorem ZsG {L S:List Zh} (hp:S.Perm L) (hs:S.Pairwise ltR) (hl:L.length < 4611686018427387904) {σ:Za} {t sq:Nat} (hσ:σ[t]?=some (.bag 0 3 (W8 _ (L.map Zk)))):Zr E BY σ sq 49 0 true [.sl t 0 0 L.length,.fn 50 []]=some (.tup [],σ.set t (.row 0 3 (S.map Zk)),{ any:=true }):=by
 refine ZsQ (args':=[.sl 0 0 0 L.length,.fn 50 []]) hσ (by kernel_rfl) rfl rfl (fun ρ h=>by simp only [Zp,Ze,h]) (fun ρ=>rfl) ?_
 rw [Zse hp hs hl]
 rfl
theorem ZHO {L S:List Zh} (hp:S.Perm L) (hs:S.Pairwise ltR) (hl:L.length < 4611686018427387904):E 36 [.sl 0 0 0 L.length] [.bag 0 3 (W8 _ (L.map Zk))]=some (.sl 0 0 0 L.length,[.row 0 3 (S.map Zk)]):=by
 have h:=fun {σ:Za} {sq:Nat} hσ=>ZsG hp hs hl (σ:=σ) (t:=0) (sq:=sq) hσ
 generalize S.map Zk=X at *
 generalize (W8 _ (L.map Zk):Bag)=Y at *
 rw [Zap (by rfl) Znz]
 simp -implicitDefEqProofs only [EQA,Xg,Xe,reduceCtorEq,↓reduceIte,Zqy,ZhO,ZoA,h]
 simp -implicitDefEqProofs only [Zar,gcA,Zq,Zu,XE,Xr,XU,Xbp,XG,Wp,XK,Zp,Zj,Zt,ZU,Zi,Zl,Ze,XL,X4,Zd,Zw,Zb,Zv,ZK,eq_self,Xg,Xo,beq_self_eq_true,ne_eq,↓reduceIte,gcA,Zq,Zj,Zd,Zi,Zw,Zb,Zv,Zl,Zt,XL,XU]
theorem Zuc {O:Zz} {bf:Nat->Bool} {σ:Za} {t sq f own k lo n:Nat} {args args' xs':List AVal} {xs:Bag} (hs:σ[t]?=some (.bag 0 k xs)) (hb:bf f=true) (hff:Zac σ sq own=true)
  (href:Zu args=[t]) (hren:∀ ρ:Rho,ρ t 0=some (0,0)->Zp ρ args=args')
  (h:O f args' [.bag 0 k xs]=some (.sl 0 0 lo n,[.row 0 k xs'])):Zr O bf σ sq f own false args=some (.sl t 0 lo n,σ.set t (.row 0 k xs'),{ any:=true }):=by
 have hd:σ.getD t .free=.bag 0 k xs:=by simp [Xd,hs]
 have hf0:Zo σ []=σ:=rfl
 unfold Zr Zbt
 rw [hb]
 simp only [if_true,hf0,href]
 have hreach:Zj σ 1000 [t] []=[t]:=by
  simp only [Zj,X4,Xf,if_false,hd,Zt,Xr]
 rw [hreach]
 unfold ZaS
 have hall:([t].all fun t=>okB (σ.getD t .free))=true:=by simp [X3,Ww,hs,okB]
 rw [if_pos hall]
 have hρ:Zd σ 0 [t] t 0=some (0,0):=by simp [Zd,Zw,hs,Zb,Zv]
 have hheap:Zi σ 0 [t] (Zd σ 0 [t]) [t] 0=[.bag 0 k xs]:=by
  simp only [Zi,hd,Zv,Zb,Zl,Xbq,false_and,if_false,Xo]
 rw [hren _ hρ,hheap]
 simp only [XD,XT,Xw]
 rw [h]
 have hk:Z5 σ [t] [.row 0 k xs'] 0=true:=by simp [Z5,okB,hs,Za6,Zb]
 have hren':∀ ρ,Zl ρ (ZaF σ [t] 0 (.row 0 k xs')) (.row 0 k xs')=.row 0 k xs':=by
  intro ρ
  simp [ZaF,hs,Zb,Zl]
 have hr:Ze (Zah σ [t] sq) (.sl 0 0 lo n)=.sl t 0 lo n:=by
  simp [Ze,Zah,Zb,hs]
 simp only [Z4,Xf,if_false,Z9,Xat,XD,XT,Xw,Xbh,XI,decide_true,hk,hff,Wh,if_true,ZY,ZaI,ZO,XK,hr,hren']
 have htl:t < σ.length:=(Xc.1 hs).1
 have hg:(σ.set t (.row 0 k xs'))[t]?=some (.row 0 k xs'):=by simp [htl]
 simp only [hg]
end
section
def Zcd:List (List UInt8)->List (List UInt8)->Bool
 | [],n=>n.isEmpty
 | x::f,n=>x == [35] || (match n with
  | []=>false
  | y::n=>(x == [43] || x == y) && Zcd f n)
def Zg2 (x:List UInt8):Bool:=x == [43] || x == [35]
def Z8 (f s:List UInt8):Bool:=ZaK f && ZaL s && !((s.headD 0 == 36) && Zg2 ((Zn f).headD [])) && Zcd (Zn f) (Zn s)
theorem Znq (F S:List (List UInt8)) (hF:F.length<=9223372036854775807) (hS:S.length<=9223372036854775807):∀ (r n:List (List UInt8)) (i:Nat),F.drop i=r->S.drop i=n->i<=F.length->i<=S.length ->
  Zgq 0 [(38,.int .i64 i),(37,.int .i64 F.length),(36,.lst false (F.map AVal.str)),(6,.lst false (S.map AVal.str)),(5,.lst false (F.map AVal.str))] []=some (.bool (Zcd r n),[])
 | [],n,i,h,hn,hi,hi'=>by
  have h1:=ZdF h
  have he:(((F.length:Int)) == ((S.length:Int)))=n.isEmpty:=by
   have hfi:F.length=i:=by have:=Wl.1 h;omega
   have h2:=congrArg XbK hn
   simp only [WO] at h2
   cases n with
   | nil=>simp at h2 ⊢;omega
   | cons y n=>simp at h2 ⊢;omega
  unfold Zgq
  rw [Zaq]
  simp -implicitDefEqProofs only [EQA,Xg,Xe,↓reduceIte,Zd3,Zvu,ZlL,ZeO,Zd8,h1,he]
  rfl
 | x::r,[],i,h,hn,hi,hi'=>by
  have hlt:=(Zbf h).2.2
  have h1:(i:Int) < F.length:=by omega
  have e1:=iad (Zbf h).1 AVal.str (k:=1) rfl
  have he:((i:Int) == ((S.length:Int)))=true:=by have:=Wl.1 hn;rw [beq_iff_eq];omega
  unfold Zgq
  rw [Zaq]
  cases hp:(x == [35])
  ·have ee:Zcd (x::r) []=false:=by simp [Zcd,hp]
   rw [ee]
   simp -implicitDefEqProofs only [EQA,Zau,Xg,Xe,ZaU,ZG,ZaC,reduceCtorEq,↓reduceIte,Zd3,ZeO,Zd8,h1,e1,he,hp]
  ·have ee:Zcd (x::r) []=true:=by simp [Zcd,hp]
   rw [ee]
   simp -implicitDefEqProofs only [EQA,Zau,Xg,Xe,ZaU,↓reduceIte,Zd3,ZeO,Zd8,h1,e1,hp]
 | x::r,y::n,i,h,hn,hi,hi'=>by
  have hlt:=(Zbf h).2.2
  have hlt':=(Zbf hn).2.2
  have ih:=Znq F S hF hS r n (i+1) (Zbf h).2.1 (Zbf hn).2.1 (by omega) (by omega)
  have h1:(i:Int) < F.length:=by omega
  have h3:=Zdf h1 hF
  have e1:=iad (Zbf h).1 AVal.str (k:=1) rfl
  have e2:=iad (Zbf hn).1 AVal.str (k:=1) rfl
  have he:((i:Int) == ((S.length:Int)))=false:=by rw [beq_eq_false_iff_ne];omega
  have ee:Zcd (x::r) (y::n)=(x == [35] || ((x == [43] || x == y) && Zcd r n)):=rfl
  rw [ee]
  unfold Zgq at ih ⊢
  rw [Zaq]
  cases hp:(x == [35])
  ·cases hq:(x == [43])
   ·cases hz:(x == y)
    ·simp -implicitDefEqProofs only [EQA,Zau,Xg,Xe,ZaU,ZG,unG,reduceCtorEq,↓reduceIte,Zd3,ZeO,Zd8,h1,e1,e2,he,hp,hq,hz]
    ·simp -implicitDefEqProofs only [EQA,Zau,ZS,Xg,Xe,ZaU,ZG,unG,reduceCtorEq,↓reduceIte,gcT,gcA,Zq,Zj,Zi,Zt,ZeO,Zd8,h1,h3,e1,e2,he,hp,hq,hz]
     exact ih
   ·simp -implicitDefEqProofs only [EQA,Zau,ZS,Xg,Xe,ZaU,ZG,ZaC,unG,reduceCtorEq,↓reduceIte,gcT,gcA,Zq,Zj,Zi,Zt,ZeO,Zd8,h1,h3,e1,he,hp,hq]
    exact ih
  ·simp -implicitDefEqProofs only [EQA,Zau,Xg,Xe,ZaU,↓reduceIte,Zd3,ZeO,Zd8,h1,e1,hp]
theorem Zmk {s:List UInt8} (h:ZaL s=true):∃ b t,s=b::t:=by
 cases s with
 | nil=>simp [ZaL,ZcD] at h
 | cons b t=>exact ⟨b,t,rfl⟩
theorem Zly {s:List UInt8} (h:ZaL s=true):s.length<=64:=by
 simp only [ZaL,Xh] at h;exact Zre h.1
theorem Zzi (x:List UInt8) (r:List (List UInt8)) (σ:Za) (kk:IntKind):ZbG σ 1 (.lst false ((x::r).map AVal.str)) (.int kk 0)=some (.iptr [.str x] 0,σ,{}):=by
 exact iad (l:=x::r) (i:=0) (x:=x) rfl AVal.str (k:=1) rfl σ false kk
theorem ZyT (f s:List UInt8) (hf:f.length*16<=140737488355328 - 64):E 37 [.str f,.str s] []=some (.bool (Z8 f s),[]):=by
 have hCf:=fun σ sq own view=>ZnW σ sq own view f hf
 have hLf:=fun σ sq own view=>Zgg σ sq own view f (by omega)
 rw [Zap (by rfl) Zwk]
 unfold Z8
 cases h1:ZaK f
 ·simp -implicitDefEqProofs only [EQA,Xg,Xe,unA,ZG,ZaC,reduceCtorEq,↓reduceIte,ZfN,ZeB,Zd3,hCf,h1]
 cases h2:ZaL s
 ·simp -implicitDefEqProofs only [EQA,Xg,Xe,unA,ZG,unG,reduceCtorEq,↓reduceIte,ZfN,ZeB,Zd3,hCf,h1,Zeb,h2]
 have hl:=Zly h2
 have hLs:=fun σ sq own view=>Zgg σ sq own view s (by omega)
 obtain ⟨b,t,rfl⟩:=Zmk h2
 have hlenf:=ZfC f
 have hlens:=ZfC (b::t)
 have hcf:=Xad (a:=(47:UInt8)) (l:=f)
 have hcs:=Xad (a:=(47:UInt8)) (l:=b::t)
 have key:=Znq (Zn f) (Zn (b::t)) (by omega) (by omega) (Zn f) (Zn (b::t)) 0 rfl rfl (by omega) (by omega)
 obtain ⟨x0,r0,hx⟩:∃ x r,Zn f=x::r:=by
  cases h:Zn f with
  | nil=>exact absurd h (ZgU f)
  | cons x r=>exact ⟨x,r,rfl⟩
 rw [hx] at key hLf ⊢
 have hdol:((b.toNat:Int) == 36)=(b == 36):=by
  rw [WX]
  simp only [beq_iff_eq,<-XaL]
  have : (36:UInt8).toNat=36:=rfl
  omega
 unfold Zgq at key
 have z0:((0:Nat):Int)=0:=rfl
 rw [z0] at key
 simp only [Xau,Zg2]
 generalize Zn (b::t)=S at *
 have hi0:=fun σ kk=>Zzi x0 r0 σ kk
 simp only [XA,XD] at key hLf hi0
 cases h3:(b == 36)
 ·simp -implicitDefEqProofs only [EQA,ZS,Xg,Xe,unA,ZG,ZaC,unG,reduceCtorEq,↓reduceIte,gcT,gcA,Zq,Zj,Zi,Zt,ZfN,ZeB,hCf,h1,Zeb,h2,hLf,hLs,hdol,h3,ZaG,XaE,Xay]
  exact key
 ·cases h4:(x0 == [43])
  ·cases h5:(x0 == [35])
   ·simp -implicitDefEqProofs only [EQA,ZS,Xg,Xe,ZaU,unA,ZG,unG,reduceCtorEq,↓reduceIte,gcT,gcA,Zq,Zj,Zi,Zt,ZfN,ZeB,hCf,h1,Zeb,h2,hLf,hLs,hdol,h3,h4,h5,ZaG,XaE,Xay,hi0]
    exact key
   ·simp -implicitDefEqProofs only [EQA,Xg,Xe,ZaU,unA,ZG,unG,reduceCtorEq,↓reduceIte,ZfN,ZeB,Zd3,hCf,h1,Zeb,h2,hLf,hLs,hdol,h3,h4,h5,ZaG,XaE,Xay,hi0]
  ·simp -implicitDefEqProofs only [EQA,Xg,Xe,ZaU,unA,ZG,ZaC,unG,reduceCtorEq,↓reduceIte,ZfN,ZeB,Zd3,hCf,h1,Zeb,h2,hLf,hLs,hdol,h3,h4,ZaG,XaE,Xay,hi0]
theorem ZiX (σ:Za) (sq own:Nat) (view:Bool) (f s:List UInt8) (hf:f.length*16<=140737488355328 - 64):Zr E BY σ sq 37 own view [.str f,.str s]=some (.bool (Z8 f s),σ,{}) :=
 Zbp (ZyT f s hf) (by kernel_rfl) (by simp -implicitDefEqProofs only [ZbO,ZK,eq_self]) (by simp -implicitDefEqProofs only [Zau,ZK,eq_self]) rfl (fun _=>rfl) _ _ _ _
end
section
theorem ZIZ (σ:Za) (sq:Nat):Zr E BY σ sq 36 0 false [.lst true []]=some (.lst true [],σ,{}):=by
 have h:E 36 [.lst true []] []=some (.lst true [],[]):=Zbx.2 ⟨3,by kernel_rfl⟩
 unfold Zr Zbt
 rw [show BY 36=true by kernel_rfl]
 simp only [if_true,show Zu [AVal.lst true []]=[] from rfl,show Zo σ []=σ from rfl]
 rw [show Zj σ 1000 [] []=[] from rfl]
 unfold ZaS
 rw [if_pos (by rfl),show Zp (Zd σ 0 []) [AVal.lst true []]=[.lst true []] from rfl,show Zi σ 0 [] (Zd σ 0 []) [] 0=[] from rfl,h]
 rfl
abbrev Zdw (a u:Nat) (p:Tx) (S:List AVal) (b:Bool):List AVal:=[.nref a 0 0,.str p,.lst false S,.bool b,.fn 35 [.ref u 0]]
section
variable {A:ZD} {a u sq:Nat} {p:Tx} {S:List AVal} {b:Bool} {σ:Za} (hau:a≠u) (h0:σ[a]?=some (.arena A)) (h1:σ[u]?=some (.var [.lst true []])) (hff:Zac σ sq 1=true)
include hau h0 h1
theorem Zn2:Zj σ 1000 (Zu (Zdw a u p S b)) []=[a,u]/\Zp (Zd σ 0 [a,u]) (Zdw a u p S b)=Zdw 0 1 p S b/\Zi σ 0 [a,u] (Zd σ 0 [a,u]) [a,u] 0=hM (.arena A) none 0/\([a,u].all fun t=>okB (σ.getD t .free))=true:=by
 have g0:σ.getD a .free=.arena A:=by simp [Xd,h0]
 have g1:σ.getD u .free=.var [.lst true []]:=by simp [Xd,h1]
 have href:Zu (Zdw a u p S b)=[a,u]:=rfl
 have hρ:Zd σ 0 [a,u] a 1001=some (0,1001):=Zej (j:=0) h0 (by simp [Zw]) (by omega)
 have hρ1:Zd σ 0 [a,u] u 0=some (1,0):=by simp [Zd,Zw,h1,Zb,Zv,hau]
 refine ⟨?_,?_,?_,?_⟩
 ·rw [href]
  have c2:([a]:List Nat).contains u=false:=by simp;exact fun e=>hau e.symm
  simp only [Zj,X4,Xf,if_false,g0,g1,c2,Zt,Zu,ZU,Xr,XE,XC]
 ·simp only [Zdw,Zp,Ze,hρ,hρ1,if_true,Nat.mul_zero,Nat.add_zero]
 ·simp only [Zi,g0,g1,Zl,Zp,Ze];rfl
 ·simp only [X3,Ww,g0,g1,okB,Wh]
include hff
theorem ZGl (hE:E 34 (Zdw 0 1 p S b) (hM (.arena A) none 0)=some (.tup [],hM (.arena A) none 0)) :
  Zr E BY σ sq 34 1 false (Zdw a u p S b)=some (.tup [],σ,{ any:=true,upd:=[(u,[.lst true []])] }):=by
 obtain ⟨hre,hvs,hh,hall⟩:=Zn2 (p:=p) (S:=S) (b:=b) hau h0 h1
 have hk:Z5 σ [a,u] (hM (.arena A) none 0) 0=true:=by simp [hM,Z5,okB,Za6,Zb,h0,h1]
 refine ZdG (r:=.tup []) (r':=.tup []) (view:=false) (by kernel_rfl) rfl hre rfl hall hvs hh hE rfl (by simp [hM]) (by simp [hM]) hk hff rfl (σ':=σ) ?_ (by simp [ZaI,h0,h1])
 simp only [hM,ZY,ZO,XK,X6,Zl,Zp,Ze]
 rw [ZeS h0,ZeS h1]
theorem ZB9 {q:Bag} (hE:E 34 (Zdw 0 1 p S b) (hM (.arena A) none 0)=some (.tup [],hM (.arena A) (some q) 0)) :
  Zr E BY σ sq 34 1 false (Zdw a u p S b)=some (.tup [],(σ.set u (.var [.sl sq 0 0 (Z3 q)])).set sq (.bag 0 3 q),{ any:=true,upd:=[(u,[.sl sq 0 0 (Z3 q)])] }):=by
 obtain ⟨hre,hvs,hh,hall⟩:=Zn2 (p:=p) (S:=S) (b:=b) hau h0 h1
 have hlu:u < σ.length:=(Xc.1 h1).1
 have hst:σ[sq]?=some .free:=by
  have:=Zei (i:=0) hff (by omega)
  simpa using this
 have hsl:sq < σ.length:=(Xc.1 hst).1
 have nu:sq≠u:=by rintro rfl;rw [h1] at hst;cases hst
 have na:sq≠a:=by rintro rfl;rw [h0] at hst;cases hst
 have hk:Z5 σ [a,u] (hM (.arena A) (some q) 0) 0=true:=by simp [hM,Z5,okB,Za6,Zb,h0,h1]
 have hlay:ZY σ [a,u] sq (hM (.arena A) (some q) 0) 0 σ=(σ.set u (.var [.sl sq 0 0 (Z3 q)])).set sq (.bag 0 3 q):=by
  simp only [hM,ZY,ZO,XK,X6,Zl,Zp]
  rw [ZeS h0]
  simp [ZaF,Zah,Ze,Zb,Xd]
 have h3:((σ.set u (.var [.sl sq 0 0 (Z3 q)])).set sq (.bag 0 3 q))[u]?=some (.var [.sl sq 0 0 (Z3 q)]):=by
  rw [Xs nu,XJ hlu]
 have h4:((σ.set u (.var [.sl sq 0 0 (Z3 q)])).set sq (.bag 0 3 q))[a]?=some (.arena A):=by
  rw [Xs na,Xs (fun e=>hau e.symm)];exact h0
 exact ZdG (r:=.tup []) (r':=.tup []) (view:=false) (by kernel_rfl) rfl hre rfl hall hvs hh hE rfl (by simp [hM]) (by simp [hM]) hk hff rfl hlay (by simp [ZaI,h3,h4])
end
theorem ZoW (s:Tx):Zdd (Zn s)<=3*s.length+2:=by
 have h1:=ZfC s
 have h2:=Xad (a:=(47:UInt8)) (l:=s)
 have h3:∀ l:Tx,Zdd (Zn l)+47<=3*l.length+49:=by
  intro l
  induction l with
  | nil=>simp [Zn,Zdd]
  | cons b r ih =>
   simp only [Zn]
   split
   ·simp only [Zdd,XA,XbM,XT,XD] at ih ⊢;omega
   ·split
    ·rename_i h t e
     rw [e] at ih
     simp only [Zdd,XA,XbM,XD] at ih ⊢;omega
    ·simp [Zdd];omega
 have:=h3 s
 omega
theorem ZAo {σ:Za} {r k:Nat} {Y:List AVal} (ns:List TN) (n:Int) (h0:σ[0]?=some (.var [.nref 1 0 0,.int .i64 n])) (h1:σ[1]?=some (.arena (eNs ns))) (h2:σ[r]?=some (.row 0 3 Y)) (hr:2<=r):Zar 2 σ (.sl r 0 0 k)=some (.sl 2 0 0 k,trH ns n++[.row 0 3 Y]):=by
 have hR:Wm 2=[0,1]:=rfl
 have g0:σ.getD 0 .free=.var [.nref 1 0 0,.int .i64 n]:=by simp [Xd,h0]
 have g1:σ.getD 1 .free=.arena (eNs ns):=by simp [Xd,h1]
 have g2:σ.getD r .free=.row 0 3 Y:=by simp [Xd,h2]
 have n0:¬0=r:=by omega
 have n1:¬1=r:=by omega
 have m0:¬r=0:=by omega
 have m1:¬r=1:=by omega
 have nr:¬r < 2:=by omega
 have c2:([0,1]:List Nat).contains r=false:=by simp [m0,m1]
 have hi:Zq 2 [.sl r 0 0 k] σ=[0,1,r]:=by
  simp only [Zq,Zu,ZU,hR,XG,Wp,XE,g0,g1,Zt]
  have c3:([0,1,r]:List Nat).contains 1=true:=by simp
  simp only [Zj,c2,c3,Xf,if_false,if_true,g2,Zt,Xr,XC]
 have hρ:Zd σ 2 [0,1,r] r 0=some (2,0):=by simp [Zd,Zw,h2,Zb,Zv,n0,n1]
 have hρ1:Zd σ 2 [0,1,r] 1 (1001+3*0)=some (1,1001+3*0):=Zej (j:=0) h1 (by rfl) (by omega)
 simp only [Zar,gcA,hi,Zp,Ze,Zi,g0,g1,g2,Zl,hρ,hρ1,trH,if_true]
 simp [Zv,Zb]
theorem ZEb (ns:List TN) (n:Int) (name:Tx) (hn:ZaL name=false):E 11 [.ref 0 0,.str name] (trH ns n)=some (.lst true [],trH ns n):=by
 have ho:=fun σ=>Ze8 (r:=.lst true []) rfl ns n σ
 have q1:=fun σ sq own view=>Zeb σ sq own view name
 rw [hn] at q1
 unfold trH at *
 generalize eNs ns=A at *
 rw [Zap (by rfl) ZjP]
 simp -implicitDefEqProofs only [EQA,Xt,Xg,Xe,unA,reduceCtorEq,↓reduceIte,ZjF,ZgS,Zj3,q1,ho]
theorem ZH0 (ns:List TN) (hC:Closed ns) (hj:0 < ns.length) (n:Int) (name:Tx) (hn:ZaL name=true) (hR:Za0 ns (Zn name) (name.headD 0 == 36) [0] 0=[]):E 11 [.ref 0 0,.str name] (trH ns n)=some (.lst true [],trH ns n):=by
 have hl:=Zly hn
 have hq:=Zr0 ns hC (Zn name) (name.headD 0 == 36) [0] 0 hj (by have:=ZoW name;simp only [Wv];omega) none (by rw [hR];simp [ZbJ])
 rw [hR] at hq
 have hc:=fun {σ:Za} {sq:Nat} h0 h1 hff=>ZGl (A:=eNs ns) (a:=1) (u:=2) (sq:=sq) (p:=[0]) (S:=(Zn name).map AVal.str) (b:=name.headD 0 == 36) (σ:=σ) (by decide) h0 h1 hff hq
 have ho:=fun σ=>Ze8 (r:=.lst true []) rfl ns n σ
 have q1:=fun σ sq own view=>Zeb σ sq own view name
 have q2:=fun σ sq own view=>Zgg σ sq own view name (by omega)
 have q3:=ZIZ
 rw [hn] at q1
 obtain ⟨b,t,rfl⟩:=Zmk hn
 have hdol:((b.toNat:Int) == 36)=(b == 36):=by
  rw [WX]
  simp only [beq_iff_eq,<-XaL]
  have : (36:UInt8).toNat=36:=rfl
  omega
 simp only [Xau] at hc
 unfold trH at *
 generalize Zn (b::t)=S at *
 generalize S.map AVal.str=S' at *
 generalize eNs ns=A at *
 rw [Zap (by rfl) ZjP]
 simp -implicitDefEqProofs only [EQA,Za4,Xt,Xg,Xe,Xz,unA,reduceCtorEq,↓reduceIte,ZjF,ZgS,Zj3,q1,q2,q3,hc,hdol,ho,ZaG,XaE,Xay,Zac,ZaM,ZaW,Zbi,Zb1,Zc3,ZcE,Zdi,Zda,Zby,Xbr]
theorem ZCT (ns:List TN) (hC:Closed ns) (hj:0 < ns.length) (n:Int) (name:Tx) (hn:ZaL name=true) (x:Zh) (d:List Zh) (hR:Za0 ns (Zn name) (name.headD 0 == 36) [0] 0=(x::d).map Zk) (hlen:(x::d).length<=1000000) {S:List Zh} (hp:S.Perm (x::d)) (hs:S.Pairwise ltR) :
  E 11 [.ref 0 0,.str name] (trH ns n)=some (.sl 2 0 0 (x::d).length,trH ns n++[.row 0 3 (S.map Zk)]):=by
 have hl:=Zly hn
 have hq:=Zr0 ns hC (Zn name) (name.headD 0 == 36) [0] 0 hj (by have:=ZoW name;simp only [Wv];omega) none (by rw [hR];simp only [ZbJ,Wj];omega)
 rw [hR] at hq
 have hq:E 34 (Zdw 0 1 [0] ((Zn name).map AVal.str) (name.headD 0 == 36)) (hM (.arena (eNs ns)) none 0)=some (.tup [],hM (.arena (eNs ns)) (some (W8 _ ((x::d).map Zk))) 0):=hq
 have hc:=fun {σ:Za} {sq:Nat} h0 h1 hff=>ZB9 (A:=eNs ns) (a:=1) (u:=2) (sq:=sq) (p:=[0]) (S:=(Zn name).map AVal.str) (b:=name.headD 0 == 36) (σ:=σ) (by decide) h0 h1 hff hq
 rw [show Z3 (W8 _ ((x::d).map Zk))=(x::d).length from by show ((x::d).map Zk).length=_;simp] at hc
 have hso:=ZHO hp hs (by omega)
 have q3:=fun {σ:Za} {t sq:Nat} hσ=>Zuc (O:=E) (bf:=BY) (σ:=σ) (t:=t) (sq:=sq) (own:=0) (args:=[.sl t 0 0 (x::d).length]) hσ (by kernel_rfl) rfl rfl (fun ρ h=>by simp only [Zp,Ze,h]) hso
 have ho:=fun {σ:Za} {r k:Nat} h0 h1 h2 hr=>ZAo (σ:=σ) (r:=r) (k:=k) (Y:=S.map Zk) ns n h0 h1 h2 hr
 have q1:=fun σ sq own view=>Zeb σ sq own view name
 have q2:=fun σ sq own view=>Zgg σ sq own view name (by omega)
 rw [hn] at q1
 obtain ⟨b,t,rfl⟩:=Zmk hn
 have hdol:((b.toNat:Int) == 36)=(b == 36):=by
  rw [WX]
  simp only [beq_iff_eq,<-XaL]
  have : (36:UInt8).toNat=36:=rfl
  omega
 simp only [Xau] at hc
 unfold trH at *
 generalize Zn (b::t)=T at *
 generalize T.map AVal.str=T' at *
 generalize eNs ns=A at *
 generalize (x::d).length=k at *
 generalize (W8 _ ((x::d).map Zk):Bag)=Q at *
 generalize S.map Zk=Y at *
 rw [Zap (by rfl) ZjP]
 simp -implicitDefEqProofs only [EQA,Za4,Xt,Xg,Xo,Xe,Xz,unA,reduceCtorEq,↓reduceIte,ZjF,ZgS,Zj3,q1,q2,q3,hc,hdol,ho,ZaG,XaE,Xay,Zac,ZaM,ZaW,Zbi,Zb1,Zc3,ZcE,Zdi,Zda,Zby,Xbr]
end
end Go.Proofs.YtbjflkbenobjjaaDoor
