/- packed -/
import Derived.Test.YtbjflkbenobjjaaDoorMq3
import Derived.Lib.TrimUEq
import Derived.Lib.MapLaws
import Derived.Lib.ValidLaws
import Derived.Sort.Walk0
set_option linter.defProp false
set_option linter.unusedSectionVars false
set_option linter.unusedSimpArgs false
set_option linter.unusedVariables false
open Prod.mk renaming injEq→Xb
open List renaming getElem?_eq_some_iff→Xc,getD_eq_getElem?_getD→Xe,range_succ→Xj,all_cons→Xr,getD_cons_zero→Xs,getElem?_set→Xt,getElem?_eq_getElem→Xu,length_cons→Xv,getD_cons_succ→Xx,all_nil→Xy,contains_nil→XB,length_nil→XC,nil_append→XE,getElem?_set_ne→XF,mem_cons→XH,map_cons→XI,mem_map→XJ,replicate→XK,length_append→XL,lookup_cons→XN,cons_append→XP,flatMap_cons→XT,append_nil→XU,getElem?_set_self→XV,lookup_nil→XW,any_cons→XX,set_cons_zero→X5,any_nil→X6,map_nil→X9,mem_cons_of_mem→We,getElem?_append_left→Wl,map_map→Wm,range→Wt,flatMap_nil→Wu,length_set→Ww,length_singleton→WD,length_drop→WX,append_assoc→W8,contains_cons→Xaf,singleton_append→Xan,drop_eq_nil_iff→Xas,drop_drop→Xa7
open Bool renaming decide_eq_true→Xd,not_eq_true→Xh,false_eq_true→Xi,and_self→Wy,or_false→WY,not_false→W3,false_and→Xac,true_or→Xae,not_true→Xaj,eq_iff_iff→Xau,or_true→XaK,or_self→Xba
open Nat renaming reduceLeDiff→Xf,reduceEqDiff→Xg,reduceAdd→Xk,reduceBEq→Xl,reduceSub→Xm,reduceMul→Xn,reduceLT→Xo,zero_add→XM,le_refl→XQ,zero_le→Xbx
open Option renaming map_eq_some_iff→Xq,map→W0
open Or renaming inl→Xw,inr→XD
open Int renaming toNat_natCast→Xaa,le_refl→Xay,reduceToNat→XaL
open Quot renaming mk→Xag,exists_rep→Xa1,sound→XbN
open List.Perm renaming refl→XaE
open UInt8 renaming toNat_inj→Xa2
namespace Go.Proofs.YtbjflkbenobjjaaDoor
set_option maxHeartbeats 16000000
set_option maxRecDepth 10000
section
def Za7:=(aI (aI (aI (aI (aI (aI @ZvR @ZzH) (aI @ZsY @ZBY)) (aI (aI @Zpt @Zxa) (aI @ZAx @ZxP))) (aI (aI (aI @Zr5 @Zkx) (aI @ZIu @ZlR)) (aI (aI @ZHN @ZGx) (aI @ZH9 @ZzG)))) (aI (aI (aI (aI @ZHS @ZEj) (aI @ZxX @ZAY)) (aI (aI @ZD8 @ZFx) (aI @ZB2 @ZAt))) (aI (aI (aI @ZyF @ZHL) (aI @ZxW @ZwQ)) (aI (aI @ZEd @ZV) (aI @ZHJ @Ztt))))) (aI (aI (aI (aI (aI @ZA6 @Zys) (aI @ZCr @ZHE)) (aI (aI @Zxy @ZuM) (aI @ZDc @ZFL))) (aI (aI (aI @ZtO @Zvi) (aI @ZHo @Za0)) (aI (aI @Zsf @Zmd) (aI @ZzU @ZA1)))) (aI (aI (aI (aI @ZE9 @ZD0) (aI @ZDR @Zus)) (aI (aI @ZvT @ZkC) (aI @Zxu @Ztq))) (aI (aI (aI @ZFB @ZtS) (aI @ZHz @ZyK)) (aI (aI @ZwL @ZDW) (aI @ZIC @ZC9))))))
def Za3:=(aI (aI (aI (aI (aI (aI @Zuh @ZuO) (aI @ZGg @ZGp)) (aI (aI @ZFm @ZBb) (aI @Za8 @Za5))) (aI (aI (aI @Za9 @Za1) (aI @Za6 @ZaX)) (aI (aI @ZCB @Zty) (aI @ZCG @ZvZ)))) (aI (aI (aI (aI @ZAq @ZET) (aI @ZCt @ZBW)) (aI (aI @Zsj @Zxr) (aI @Zzf @ZDz))) (aI (aI (aI @Zxz @ZF1) (aI @ZtT @Ztu)) (aI (aI @Zt6 @ZuW) (aI @ZDT @ZIx))))) (aI (aI (aI (aI (aI @ZuF @Zvv) (aI @ZAT @ZvW)) (aI (aI @Zz8 @ZGS) (aI @ZDJ @Zu8))) (aI (aI (aI @ZtZ @ZEw) (aI @ZHx @Zvz)) (aI (aI @ZzD @ZDf) (aI @ZDw @ZAF)))) (aI (aI (aI (aI @ZIf @ZAd) (aI @Zzi @ZE6)) (aI (aI @Zz4 @ZvM) (aI @ZEV @ZGH))) (aI (aI (aI @ZDL @Zv6) (aI @Zws @ZFR)) (aI (aI @ZBO @ZCp) (aI @ZFy @Zuv))))))
def Zm:=(aI (aI (aI (aI (aI (aI @ZCc @ZvB) (aI @Zyz @ZFI)) (aI (aI @ZEa @Ztp) (aI @Ztr @ZyO))) (aI (aI (aI @ZBQ @ZtB) (aI @ZuV @ZDi)) (aI (aI @ZxQ @ZH4) (aI @ZD1 @Zyo)))) (aI (aI (aI (aI @ZyI @ZwH) (aI @Zu0 @Zvr)) (aI (aI @ZtJ @ZAW) (aI @Zs7 @ZEC))) (aI (aI (aI @ZAQ @ZxK) (aI @ZBr @Zwo)) (aI (aI @ZFH @Zwd) (aI @ZCY @ZCO))))) (aI (aI (aI (aI (aI @ZG3 @ZHs) (aI @ZAm @ZBs)) (aI (aI @ZIJ @Zvm) (aI @ZvV @ZFt))) (aI (aI (aI @ZvA @Zs6) (aI @ZB7 @ZHR)) (aI (aI @ZAi @ZAy) (aI @ZGz @ZHX)))) (aI (aI (aI (aI @Zw9 @ZxC) (aI @ZBc @ZyC)) (aI (aI @ZDx @ZIF) (aI @ZEG @Zuy))) (aI (aI (aI @Zwr @ZyS) (aI @ZIn @ZF8)) (aI (aI @ZG7 @Zv4) (aI @ZAr @Zyb))))))
def Zr:=(aI (aI (aI (aI (aI (aI @ZBn @ZG2) (aI @ZIB @ZEB)) (aI (aI @ZCC @ZFK) (aI @ZCS @ZAH))) (aI (aI (aI @Zx0 @ZB0) (aI @ZBy @ZzY)) (aI (aI @ZBx @ZyL) (aI @ZGA @ZzA)))) (aI (aI (aI (aI @ZBf @ZIM) (aI @ZsZ @ZFv)) (aI (aI @Zwc @Zxg) (aI @Zte @Zwe))) (aI (aI (aI @ZtX @ZwM) (aI @Ztf @ZHD)) (aI (aI @ZF7 @ZAs) (aI @ZBi @ZCR))))) (aI (aI (aI (aI (aI @ZBL @Zxs) (aI @Zxb @ZGr)) (aI (aI @Ztw @ZHl) (aI @ZCw @ZvG))) (aI (aI (aI @Zyw @ZyH) (aI @Zxf @ZGc)) (aI (aI @ZER @ZD9) (aI @ZBg @ZFf)))) (aI (aI (aI (aI @ZHb @ZHk) (aI @Zxn @Zvd)) (aI (aI @ZzX @ZFu) (aI @ZDr @ZEQ))) (aI (aI (aI @ZCd @Zv2) (aI @Zzv @Zua)) (aI (aI @ZGb @ZBG) (aI @Zt3 @Zyf))))))
def Zq:=(aI (aI (aI (aI (aI (aI @ZGR @ZHA) (aI @ZIl @ZwU)) (aI (aI @ZCs @ZFG) (aI @ZzJ @ZIe))) (aI (aI (aI @ZDn @ZyX) (aI @Zuk @Zzl)) (aI (aI @ZxN @ZuG) (aI @Zww @Zv7)))) (aI (aI (aI (aI @Zs3 @ZFW) (aI @ZxF @ZEO)) (aI (aI @ZzE @ZzS) (aI @ZGw @Zzz))) (aI (aI (aI @ZAL @Zzb) (aI @ZC8 @ZGC)) (aI (aI @Zwf @Zyr) (aI @Zyg @ZvD))))) (aI (aI (aI (aI (aI @ZyZ @ZBq) (aI @ZGO @ZIi)) (aI (aI @ZHT @ZGf) (aI @ZDF @ZHB))) (aI (aI (aI @ZzO @ZIt) (aI @ZtW @ZDg)) (aI (aI @Zw2 @Zy4) (aI @ZC6 @ZIO)))) (aI (aI (aI (aI @ZHP @ZHK) (aI @Zzy @ZGT)) (aI (aI @Zx6 @ZAa) (aI @Zwm @Zz5))) (aI (aI (aI @ZDD @ZB6) (aI @ZF0 @ZA9)) (aI (aI @ZBk @Zva) (aI @ZBa @ZAG))))))
def Za4:=(aI (aI (aI (aI (aI (aI @ZDe @ZIs) (aI @ZyG @ZzZ)) (aI (aI @ZA2 @ZFr) (aI @ZEW @Zw5))) (aI (aI (aI @Zzd @ZEx) (aI @ZAu @ZF4)) (aI (aI @ZCl @ZwY) (aI @ZBR @ZCy)))) (aI (aI (aI (aI @ZvN @ZGL) (aI @ZH6 @ZFX)) (aI (aI @Zvw @ZB3) (aI @ZDa @ZG9))) (aI (aI (aI @ZC5 @ZCk) (aI @ZE4 @ZzC)) (aI (aI @ZAN @ZBp) (aI @Zta @Zxq))))) (aI (aI (aI (aI (aI @ZHw @ZDh) (aI @Zul @ZDC)) (aI (aI @ZAZ @Zuf) (aI @Zwx @ZCi))) (aI (aI (aI @ZuY @ZCx) (aI @ZCH @ZGi)) (aI (aI @ZtL @ZwC) (aI @ZEI @ZAD)))) (aI (aI (aI (aI @ZCa @ZFN) (aI @ZHC @Zx2)) (aI (aI @ZIa @Ztm) (aI @ZCv @ZwV))) (aI (aI (aI @ZuP @ZwP) (aI @ZFi @Zvt)) (aI (aI @ZHd @Zy5) (aI @ZxS @ZxY))))))
def Zn:=(aI (aI (aI (aI (aI (aI @ZwD @ZyV) (aI @ZCA @ZGd)) (aI (aI @ZvJ @ZuI) (aI @ZC4 @ZG4))) (aI (aI (aI @Zs4 @ZBB) (aI @ZGv @ZA3)) (aI (aI @Zx4 @ZID) (aI @ZDQ @ZFs)))) (aI (aI (aI (aI @ZAz @ZGl) (aI @Zv9 @Zxv)) (aI (aI @ZGQ @ZCM) (aI @ZFO @ZDN))) (aI (aI (aI @Zzq @Zuz) (aI @ZIz @ZHc)) (aI (aI @ZHV @ZHt) (aI @ZzF @ZzM))))) (aI (aI (aI (aI (aI @ZuX @Zy2) (aI @ZFD @Zwv)) (aI (aI @Zw8 @ZBT) (aI @ZEh @Zwa))) (aI (aI (aI @Zwy @ZEo) (aI @ZIc @Ztd)) (aI (aI @ZCV @ZAc) (aI @ZHg @ZvL)))) (aI (aI (aI (aI @Zz6 @ZIj) (aI @ZtY @ZId)) (aI (aI @ZHm @Ztg) (aI @ZBX @Zvn))) (aI (aI (aI @ZC1 @ZFC) (aI @ZIA @ZEk)) (aI (aI @ZHe @Ztk) (aI @ZB5 @Zxt))))))
def Zs:=(aI (aI (aI (aI (aI (aI @ZxG @Zy8) (aI @ZCu @ZAA)) (aI (aI @ZAh @Zyd) (aI @ZwX @ZEX))) (aI (aI (aI @Zvg @ZFQ) (aI @Zyj @ZAX)) (aI (aI @ZBS @ZD2) (aI @Zxp @ZEc)))) (aI (aI (aI (aI @ZxA @ZBw) (aI @ZIg @ZAj)) (aI (aI @ZHQ @ZG5) (aI @ZE1 @Zzo))) (aI (aI (aI @ZCz @Zzx) (aI @ZDP @Zts)) (aI (aI @ZEu @Zx1) (aI @ZyA @ZIL))))) (aI (aI (aI (aI (aI @Zzw @Zu6) (aI @ZAO @ZAB)) (aI (aI @Zy9 @ZGE) (aI @ZGI @ZHr))) (aI (aI (aI @ZuA @Zz3) (aI @ZBZ @ZEi)) (aI (aI @Zs2 @ZHf) (aI @Zy3 @ZFo)))) (aI (aI (aI (aI @Zxe @ZB9) (aI @ZGZ @ZFp)) (aI (aI @ZwE @Zwt) (aI @Zup @ZzV))) (aI (aI (aI @ZFc @ZHq) (aI @ZDE @Zu4)) (aI (aI @Ztx @ZG1) (aI @ZBP @ZxB))))))
def Zo:=(aI (aI (aI (aI (aI @Zx5 @ZwR) (aI @Zyp @Zwl)) (aI (aI @ZEv @ZD3) (aI @ZtD (aI @Zu1 @ZHu)))) (aI (aI (aI @ZFE @ZuJ) (aI @ZC2 @ZBE)) (aI (aI @ZCj @ZA7) (aI @Zuj (aI @ZtC @Zw6))))) (aI (aI (aI (aI @ZGK @Zuw) (aI @ZAM @Zv1)) (aI (aI @Zug @Zz9) (aI @ZAe (aI @Zue @ZHY)))) (aI (aI (aI @Zwh @ZGM) (aI @ZCe (aI @ZBd @ZFJ))) (aI (aI @ZEK @ZAw) (aI @ZFh (aI @ZEp @Zq3))))))
def Za2:=(aI (aI (aI (aI (aI (aI @List.map_cons.{0,0} @List.map_nil.{0,0}) (aI @List.length_cons.{0} @List.length_nil.{0})) (aI (aI @List.replicate_zero.{0} @List.replicate_succ.{0}) (aI @List.append_nil.{0} @List.nil_append.{0}))) (aI (aI (aI @List.cons_append.{0} @List.getElem?_cons_zero.{0}) (aI @List.getElem?_cons_succ.{0} @List.set_cons_zero.{0})) (aI (aI @List.set_cons_succ.{0} @Nat.add_zero) (aI @Nat.zero_add @Bool.true_or)))) (aI (aI (aI (aI @Bool.false_or @Bool.or_true) (aI @Bool.or_false @Bool.and_true)) (aI (aI @Bool.true_and @Bool.and_self) (aI @Bool.and_false @Bool.false_and))) (aI (aI (aI @if_true.{1} @if_false.{1}) (aI @ite_true.{1} @ite_false.{1})) (aI (aI @Option.map_some.{0,0} @Option.map_none.{0,0}) (aI @and_self @and_true))))) (aI (aI (aI (aI (aI @true_and @and_false) (aI @false_and @true_or)) (aI (aI @or_true @false_or) (aI @or_false @not_true_eq_false))) (aI (aI (aI @not_false_eq_true @List.drop_zero.{0}) (aI @List.drop_succ_cons.{0} @List.take_succ_cons.{0})) (aI (aI @List.take_zero.{0} @List.all_cons.{0}) (aI @List.all_nil.{0} @List.isEmpty_nil.{0})))) (aI (aI (aI (aI @Bool.not_false @Bool.not_true) (aI @List.length_map.{0,0} @Bool.bne_false)) (aI (aI @Bool.bne_true @List.isEmpty_cons.{0}) (aI @List.getD_cons_zero.{0} @List.getD_cons_succ.{0}))) (aI (aI (aI @List.getD_nil.{0} @List.contains_nil.{0}) (aI @List.range_zero @List.flatMap_cons.{0,0})) (aI (aI @List.flatMap_nil.{0,0} @List.zip_cons_cons.{0,0}) (aI @List.zip_nil_left.{0,0} @List.zip_nil_right.{0,0}))))))
def Zp:=@Nat.not_lt_zero
def EQA := (aI (aI (aI (aI (aI (aI (aI Za7 Za3) (aI Za4 Za2)) (aI (aI @exI.eq_1 @nsite.eq_1) (aI @nsite.eq_2 @nsite.eq_3))) (aI (aI (aI @nsite.eq_4 @nsite.eq_5) (aI @nsite.eq_6 @nsite.eq_7)) (aI (aI @nsite.eq_8 @nsite.eq_9) (aI @nsite.eq_10 (aI @nsite.eq_11 @nsite.eq_12))))) (aI (aI (aI (aI @nsite.eq_13 @nsite.eq_14) (aI @nsite.eq_15 @freeAt.eq_1)) (aI (aI @execI.eq_1 @execI.eq_2) (aI @execI.eq_3 (aI @execI.eq_4 @execI.eq_5)))) (aI (aI (aI @execI.eq_6 @execI.eq_7) (aI @execI.eq_8 @execI.eq_9)) (aI (aI @execI.eq_10 @execI.eq_11) (aI @execI.eq_12 (aI @execI.eq_13 @execI.eq_14)))))) (aI (aI (aI (aI (aI @execI.eq_15 @execI.eq_16) (aI @execI.eq_17 @execI.eq_18)) (aI (aI @execI.eq_19 @execI.eq_20) (aI @execI.eq_21 (aI @execI.eq_22 @execI.eq_23)))) (aI (aI (aI @execI.eq_24 @execI.eq_25) (aI @execI.eq_26 @execI.eq_27)) (aI (aI @execI.eq_28 @execI.eq_29) (aI @execI.eq_30 (aI @execI.eq_31 @execI.eq_32))))) (aI (aI (aI (aI @execI.eq_33 @execI.eq_34) (aI @execI.eq_35 @execI.eq_36)) (aI (aI @execI.eq_37 @execI.eq_38) (aI @execI.eq_39 (aI @execI.eq_40 @execI.eq_41)))) (aI (aI (aI @execI.eq_42 @execI.eq_43) (aI @execI.eq_44 @execI.eq_45)) (aI (aI @execI.eq_46 @execI.eq_47) (aI @execI.eq_48 (aI @execI.eq_49 @execI.eq_50))))))) (aI (aI (aI (aI (aI (aI @execI.eq_51 @execI.eq_52) (aI @execI.eq_53 @Opd.ev.eq_1)) (aI (aI @Opd.ev.eq_2 @tget.eq_1) (aI @tget.eq_2 (aI @tins.eq_1 @tins.eq_2)))) (aI (aI (aI @tput.eq_1 @tput.eq_2) (aI @keepL.eq_1 @sitesOf.eq_1)) (aI (aI @resA.eq_1 @resAll.eq_1) (aI @resAll.eq_2 (aI @resOne.eq_1 @resOne.eq_2))))) (aI (aI (aI (aI @enterA.eq_1 @enterA.eq_2) (aI @partA.eq_1 @partA.eq_2)) (aI (aI @faddrA.eq_1 @faddrA.eq_2) (aI @faddrA.eq_3 (aI @faddrA.eq_4 @setAt.eq_1)))) (aI (aI (aI @binA.eq_1 @binA.eq_2) (aI @binA.eq_3 @binA.eq_4)) (aI (aI @binA.eq_5 @arithA.eq_1) (aI @arithA.eq_2 (aI @arithA.eq_3 @arithA.eq_4)))))) (aI (aI (aI (aI (aI @arithA.eq_5 @arithA.eq_6) (aI @arithA.eq_7 @arithA.eq_8)) (aI (aI @arithA.eq_9 @arithA.eq_10) (aI @arithA.eq_11 (aI @arithA.eq_12 @arithA.eq_13)))) (aI (aI (aI @arithA.eq_14 @arithA.eq_15) (aI @arithA.eq_16 @ldA.eq_1)) (aI (aI @ldA.eq_2 @ldA.eq_3) (aI @ldA.eq_4 (aI @stA.eq_1 @stA.eq_2))))) (aI (aI (aI (aI @stA.eq_3 @oI.eq_1) (aI @oN.eq_1 @oM.eq_1)) (aI (aI @oF.eq_1 @oL.eq_1) (aI @List.sum_cons.{0} (aI @List.sum_nil.{0} @eq_self.{1})))) (aI (aI (aI @beq_self_eq_true.{0} @Bool.false_eq_true) (aI @Option.some.injEq.{0} @decide_true)) (aI (aI @decide_false @List.foldl_cons.{0, 0}) (aI @List.foldl_nil.{0, 0} (aI @List.contains_cons.{0} @ne_eq.{1}))))))))
end
section
theorem Zfg {O:Z7} {bf:Nat->Bool} {σ:Za} {sq f own:Nat} {view:Bool} {args vs vs':List AVal} {ids:List Nat} {h0 h:Za} {r0 r:AVal} (hb:bf f=false) (hsh:showAs σ args=some (vs,[])) (hre:Zf σ 1000 (ZZ vs) []=ids) (hne:ids.isEmpty=false)
  (hall:(ids.all fun t=>okB (σ.getD t .free))=true) (hvs:ZW (Zc σ 0 ids) vs=vs') (hh:Ze σ 0 ids (Zc σ 0 ids) ids 0=h0) {hh0:Za} (hO:O f vs' h0=some (r0,hh0)) (hv:Zba view ids.length (some (r0,hh0))=some (r,h))
  (hl1:h.length<=ids.length+own) (hl2:ids.length<=h.length) (hk:ZaW σ ids h 0=true) (hff:Zbe σ sq own=true) {r':AVal} (hr:Zv (Zbg σ ids sq) r=r') {σ':Za} (hlay:ZaI σ ids sq h 0 σ=σ') {u:List (Nat×List AVal)} (hu:ZbP σ' ids=u) :
  ZX O bf σ sq f own view args=some (r',σ',{ any:=true,upd:=u }):=by
 subst hr hlay hu
 unfold ZX ZcZ
 rw [hb]
 simp only [Xi,if_false,hsh,show ZU σ []=σ from rfl,hre]
 unfold Zb0
 rw [if_pos hall,hvs,hh,hO,hv]
 simp only [ZaV,hne,Xac,Xi,if_false,hl1,hl2,decide_true,hk,hff,Wy,if_true]
end
section
end
section
def ZeC:Zg:=(.seq (.region [oM 36 0,oI 37 (.call 46 0 true [(.t 36)]),oM 2 37] none [2]) .ret)
def ZkZ:Zg:=ZeC
def Zfs:=xw ZkZ ZeC rfl
def ZeS:Zg:=(.seq (.region [oI 12 (.bin .lss (.t 11) (.t 10))] none [12,11,10,9,3,0]) (.seq (.cond (.t 12) .skip (.exit 0)) (.seq (.block 1 (.seq (.region [oM 13 11,oI 14 (.iaddr 1 (.t 9) (.t 11)),oL 15 14,oM 4 13,oM 5 15] none [11,10,9,5,4,3,0]) (.seq (.region [oM 16 5,oI 17 (.bin .eql (.t 16) (.c (.str [43]))),oM 18 17,⟨(some 19),(.mov (.t 5)),(some (18,false)),[]⟩,⟨(some 20),(.bin .eql (.t 19) (.c (.str [35]))),(some (18,false)),[]⟩,⟨(some 21),(.mov (.t 20)),(some (18,false)),[]⟩,⟨(some 22),(.mov (.t 4)),(some (21,true)),[]⟩,⟨(some 23),(.mov (.t 3)),(some (21,true)),[]⟩,⟨(some 24),(.len (.t 23)),(some (21,true)),[]⟩,⟨(some 25),(.bin .sub (.t 24) (.c (.int .i64 1))),(some (21,true)),[]⟩,⟨(some 26),(.bin .eql (.t 22) (.t 25)),(some (21,true)),[]⟩,⟨(some 27),(.pick (.t 21) (.t 26) (.c (.bool false))),(some (18,false)),[]⟩,oI 28 (.pick (.t 18) (.c (.bool true)) (.t 27)),oM 6 28] none [11,10,9,6,5,3,0]) (.seq (.region [oM 29 6,oI 30 (.un .not (.t 29)),oM 31 30,⟨(some 32),(.mov (.t 5)),(some (31,true)),[]⟩,⟨(some 33),(.call 45 0 true [(.t 32),(.c (.str [43,35]))]),(some (31,true)),[]⟩,oI 34 (.pick (.t 31) (.t 33) (.c (.bool false)))] none [34,11,10,9,3,0]) (.cond (.t 34) (.seq (.region [oI 2 (.mov (.c (.bool false)))] none [2]) .ret) .skip))))) (.region [oI 35 (.bin .add (.t 11) (.c (.int .i64 1))),oM 11 35] none [11,10,9,3,0]))))
def Zlb:Zg:=ZeS
def ZfC:=xw Zlb ZeS rfl
def Zeq:Zg:=(.seq (.region [oI 2 (.mov (.c (.bool false)))] none [0]) (.seq (.region [oM 7 0,oI 8 (.call 31 0 true [(.t 7)]),oM 3 8] none [3,0]) (.seq (.seq (.region [oM 9 3,oI 10 (.len (.t 9)),oI 11 (.mov (.c (.int .i64 0)))] none [11,10,9,3,0]) (.block 0 (.loop [11,10,9,3,0] Zlb))) ZkZ)))
def Zi6:ZaA:=⟨[(.tmp 2)],Zeq⟩
theorem ZIK:FC 29=some Zi6:=by kernel_rfl
theorem Zft:Zi6.body=Zeq:=rfl
theorem ZfM:Zi6.res=[(.tmp 2)]:=rfl
noncomputable def ZjS (m:Nat) (tm:Tms) (σ:Za):Option (AVal×Za):=(Zbt m Zi6 (Zb5 FC PR BY m ZkZ (W0 (Zbz 0) (evL FC PR BY m [11,10,9,3,0] Zlb tm σ))))
def ZmY:Zg:=(.seq (.region [oI 2 (.mov (.c (.lst true [])))] none [0]) (.seq (.region [oM 3 0,oI 4 (.call 47 0 true [(.t 3),(.c (.str [47]))]),oM 2 4] none [2]) .ret))
def ZlY:ZaA:=⟨[(.tmp 2)],ZmY⟩
theorem ZBz:FC 31=some ZlY:=by kernel_rfl
theorem Zza:ZlY.body=ZmY:=rfl
theorem Zxx:ZlY.res=[(.tmp 2)]:=rfl
def Zkg:Zg:=(.seq (.region [oI 2 (.mov (.c (.bool false)))] none [0]) (.seq (.region [oM 3 0,oI 4 (.call 46 0 true [(.t 3)]),oM 5 4,⟨(some 6),(.mov (.t 0)),(some (5,true)),[]⟩,⟨(some 7),(.call 45 0 true [(.t 6),(.c (.str [43,35]))]),(some (5,true)),[]⟩,⟨(some 8),(.un .not (.t 7)),(some (5,true)),[]⟩,oI 9 (.pick (.t 5) (.t 8) (.c (.bool false))),oM 2 9] none [2]) .ret))
def ZnZ:ZaA:=⟨[(.tmp 2)],Zkg⟩
theorem Zuo:FC 33=some ZnZ:=by kernel_rfl
theorem Zqt:ZnZ.body=Zkg:=rfl
theorem Zo6:ZnZ.res=[(.tmp 2)]:=rfl
def Zll:Zg:=(.seq (.region [oI 2 (.mov (.c (.bool false)))] none [0]) (.seq (.region [oM 3 0,oI 4 (.slen (.t 3)),oI 5 (.bin .geq (.t 4) (.c (.int .i64 1))),oM 6 5,⟨(some 7),(.mov (.t 0)),(some (6,true)),[]⟩,⟨(some 8),(.slen (.t 7)),(some (6,true)),[]⟩,⟨(some 9),(.bin .leq (.t 8) (.c (.int .i64 64))),(some (6,true)),[]⟩,oI 10 (.pick (.t 6) (.t 9) (.c (.bool false))),oM 11 10,⟨(some 12),(.mov (.t 0)),(some (11,true)),[]⟩,⟨(some 13),(.call 54 0 true [(.t 12)]),(some (11,true)),[]⟩,oI 14 (.pick (.t 11) (.t 13) (.c (.bool false))),oM 2 14] none [2]) .ret))
def Zlz:ZaA:=⟨[(.tmp 2)],Zll⟩
theorem ZGm:FC 46=some Zlz:=by kernel_rfl
theorem Zt7:Zlz.body=Zll:=rfl
theorem Zs0:Zlz.res=[(.tmp 2)]:=rfl
end
section
def ZlF:Zg:=(.seq (.region [oI 4 (.mov (.c (.bool false)))] none [1,0]) (.seq (.region [oM 5 0,oM 6 1,oI 7 (.nilchk (.t 5)),oI 8 (.aaddr 1 256 (.t 7) (.t 6)),oL 9 8,oM 4 9] none [4]) .ret))
def ZlZ:ZaA:=⟨[(.tmp 4)],ZlF⟩
theorem ZuQ:FC 63=some ZlZ:=by kernel_rfl
theorem ZtA:ZlZ.body=ZlF:=rfl
theorem ZFU:ZlZ.res=[(.tmp 4)]:=rfl
def Zm5:Zg:=(.seq (.region [oI 4 (.mov (.c (.bool false)))] none [1,0]) (.seq (.region [oM 5 0,oM 6 1,oI 7 (.call 53 0 true [(.t 5),(.t 6)]),oI 8 (.bin .geq (.t 7) (.c (.int .i64 0))),oM 4 8] none [4]) .ret))
def ZmV:ZaA:=⟨[(.tmp 4)],Zm5⟩
theorem ZDZ:FC 45=some ZmV:=by kernel_rfl
theorem ZFM:ZmV.body=Zm5:=rfl
theorem ZyQ:ZmV.res=[(.tmp 4)]:=rfl
def ZeP:Zg:=(.seq (.region [oI 4 (.mov (.c (.int .i64 (-1))))] none [4]) .ret)
def ZnY:Zg:=ZeP
def ZfN:=xw ZnY ZeP rfl
def Zeu:Zg:=(.seq (.region [oI 46 (.nxt (.t 45)),oI 47 (.ext (.t 46) 0)] none [47,46,45,1]) (.seq (.cond (.t 47) .skip (.exit 2)) (.block 3 (.seq (.region [oI 48 (.ext (.t 46) 1),oI 49 (.ext (.t 46) 2),oM 9 48,oM 10 49] none [45,10,9,1]) (.seq (.region [oM 50 1,oM 51 10,oI 52 (.call 60 0 true [(.t 50),(.t 51)]),oI 53 (.bin .geq (.t 52) (.c (.int .i64 0)))] none [53,45,9,1]) (.cond (.t 53) (.seq (.region [oM 54 9,oM 4 54] none [4]) .ret) .skip))))))
def Zl7:Zg:=Zeu
def ZfE:=xw Zl7 Zeu rfl
def ZeJ:Zg:=(.seq (.seq (.region [oM 44 0,oI 45 (.rng (.t 44))] none [45,1]) (.block 2 (.loop [45,1] Zl7))) ZnY)
def Znm:Zg:=ZeJ
def Zfy:=xw Znm ZeJ rfl
def Zey:Zg:=(.seq (.region [oI 4 (.mov (.c (.int .i64 (-1))))] none [4]) .ret)
def ZkS:Zg:=Zey
def ZfD:=xw ZkS Zey rfl
def Zev:Zg:=(.seq (.seq (.region [oM 33 8,oM 34 0,oI 35 (.slen (.t 34)),oI 36 (.bin .lss (.t 33) (.t 35))] none [36,8,6,0]) (.cond (.t 36) .skip (.exit 0))) (.seq (.block 1 (.seq (.region [oM 39 0,oM 40 8,oI 41 (.sindex (.t 39) (.t 40)),oI 42 (.call 63 0 true [(.t 6),(.t 41)])] none [42,8,6,0]) (.cond (.t 42) (.seq (.region [oM 43 8,oM 4 43] none [4]) .ret) .skip))) (.region [oM 37 8,oI 38 (.bin .add (.t 37) (.c (.int .i64 1))),oM 8 38] none [8,6,0])))
def Zm2:Zg:=Zev
def ZfS:=xw Zm2 Zev rfl
def ZeU:Zg:=(.seq (.region [oI 4 (.mov (.c (.int .i64 0)))] none [1,0]) (.seq (.seq (.region [oM 11 1,oI 12 (.bin .eql (.t 11) (.c (.str [])))] none [12,1,0]) (.cond (.t 12) (.seq (.region [oI 4 (.mov (.c (.int .i64 (-1))))] none [4]) .ret) .skip)) (.seq (.seq (.region [oM 13 1,oI 14 (.slen (.t 13)),oI 15 (.bin .eql (.t 14) (.c (.int .i64 1)))] none [15,1,0]) (.cond (.t 15) (.seq (.region [oM 16 1,oI 17 (.sindex (.t 16) (.c (.int .i64 0))),oI 18 (.i2i .i32 (.t 17)),oM 5 18] none [5,0]) (.seq (.seq (.region [oM 19 5,oI 20 (.bin .geq (.t 19) (.c (.int .i32 128)))] none [20,5,0]) (.cond (.t 20) (.region [oI 5 (.mov (.c (.int .i32 65533)))] none [5,0]) .skip)) (.seq (.region [oM 21 0,oM 22 5,oI 23 (.call 60 0 true [(.t 21),(.t 22)]),oM 4 23] none [4]) .ret))) .skip)) (.seq (.seq (.region [oM 24 0,oI 25 (.slen (.t 24)),oI 26 (.call 61 0 true [(.t 25)])] none [26,1,0]) (.cond (.t 26) (.seq (.region [oM 28 1,oI 29 (.call 62 0 true [(.t 28)]),oM 27 29,oI 30 (.ext (.t 27) 0),oI 31 (.ext (.t 27) 1),oI 6 (.alloc [(.bool false),(.bool false),(.bool false),(.bool false),(.bool false),(.bool false),(.bool false),(.bool false),(.bool false),(.bool false),(.bool false),(.bool false),(.bool false),(.bool false),(.bool false),(.bool false),(.bool false),(.bool false),(.bool false),(.bool false),(.bool false),(.bool false),(.bool false),(.bool false),(.bool false),(.bool false),(.bool false),(.bool false),(.bool false),(.bool false),(.bool false),(.bool false),(.bool false),(.bool false),(.bool false),(.bool false),(.bool false),(.bool false),(.bool false),(.bool false),(.bool false),(.bool false),(.bool false),(.bool false),(.bool false),(.bool false),(.bool false),(.bool false),(.bool false),(.bool false),(.bool false),(.bool false),(.bool false),(.bool false),(.bool false),(.bool false),(.bool false),(.bool false),(.bool false),(.bool false),(.bool false),(.bool false),(.bool false),(.bool false),(.bool false),(.bool false),(.bool false),(.bool false),(.bool false),(.bool false),(.bool false),(.bool false),(.bool false),(.bool false),(.bool false),(.bool false),(.bool false),(.bool false),(.bool false),(.bool false),(.bool false),(.bool false),(.bool false),(.bool false),(.bool false),(.bool false),(.bool false),(.bool false),(.bool false),(.bool false),(.bool false),(.bool false),(.bool false),(.bool false),(.bool false),(.bool false),(.bool false),(.bool false),(.bool false),(.bool false),(.bool false),(.bool false),(.bool false),(.bool false),(.bool false),(.bool false),(.bool false),(.bool false),(.bool false),(.bool false),(.bool false),(.bool false),(.bool false),(.bool false),(.bool false),(.bool false),(.bool false),(.bool false),(.bool false),(.bool false),(.bool false),(.bool false),(.bool false),(.bool false),(.bool false),(.bool false),(.bool false),(.bool false),(.bool false),(.bool false),(.bool false),(.bool false),(.bool false),(.bool false),(.bool false),(.bool false),(.bool false),(.bool false),(.bool false),(.bool false),(.bool false),(.bool false),(.bool false),(.bool false),(.bool false),(.bool false),(.bool false),(.bool false),(.bool false),(.bool false),(.bool false),(.bool false),(.bool false),(.bool false),(.bool false),(.bool false),(.bool false),(.bool false),(.bool false),(.bool false),(.bool false),(.bool false),(.bool false),(.bool false),(.bool false),(.bool false),(.bool false),(.bool false),(.bool false),(.bool false),(.bool false),(.bool false),(.bool false),(.bool false),(.bool false),(.bool false),(.bool false),(.bool false),(.bool false),(.bool false),(.bool false),(.bool false),(.bool false),(.bool false),(.bool false),(.bool false),(.bool false),(.bool false),(.bool false),(.bool false),(.bool false),(.bool false),(.bool false),(.bool false),(.bool false),(.bool false),(.bool false),(.bool false),(.bool false),(.bool false),(.bool false),(.bool false),(.bool false),(.bool false),(.bool false),(.bool false),(.bool false),(.bool false),(.bool false),(.bool false),(.bool false),(.bool false),(.bool false),(.bool false),(.bool false),(.bool false),(.bool false),(.bool false),(.bool false),(.bool false),(.bool false),(.bool false),(.bool false),(.bool false),(.bool false),(.bool false),(.bool false),(.bool false),(.bool false),(.bool false),(.bool false),(.bool false),(.bool false),(.bool false),(.bool false),(.bool false),(.bool false),(.bool false),(.bool false),(.bool false),(.bool false),(.bool false),(.bool false),(.bool false),(.bool false),(.bool false),(.bool false),(.bool false),(.bool false),(.bool false),(.bool false),(.bool false),(.bool false),(.bool false),(.bool false),(.bool false)]),oN (.st 256 (.t 6) (.t 30)),oM 7 31] none [7,6,1,0]) (.seq (.region [oM 32 7] none [32,6,1,0]) (.cond (.t 32) (.seq (.seq (.region [oI 8 (.mov (.c (.int .i64 0)))] none [8,6,0]) (.block 0 (.loop [8,6,0] Zm2))) ZkS) .skip))) .skip)) Znm))))
def Ziy:ZaA:=⟨[(.tmp 4)],ZeU⟩
theorem ZqV:FC 53=some Ziy:=by kernel_rfl
theorem ZfO:Ziy.body=ZeU:=rfl
theorem ZfH:Ziy.res=[(.tmp 4)]:=rfl
noncomputable def Zkb (m:Nat) (tm:Tms) (σ:Za):Option (AVal×Za):=(Zbt m Ziy (Zb5 FC PR BY m ZnY (W0 (Zbz 2) (evL FC PR BY m [45,1] Zl7 tm σ))))
noncomputable def Zj1 (m:Nat) (tm:Tms) (σ:Za):Option (AVal×Za):=(Zbt m Ziy (Zb5 FC PR BY m Znm (Zb5 FC PR BY m ZkS (W0 (Zbz 0) (evL FC PR BY m [8,6,0] Zm2 tm σ)))))
def ZgR:Zg:=(.seq (.region [oI 4 (.mov (.c (.int .i64 (-1))))] none [4]) .ret)
def Zqu:Zg:=ZgR
def Zi7:=xw Zqu ZgR rfl
def Zg8:Zg:=(.seq (.region [oI 176 (.nxt (.t 175)),oI 177 (.ext (.t 176) 0)] none [177,176,175]) (.seq (.cond (.t 177) .skip (.exit 9)) (.block 10 (.seq (.region [oI 178 (.ext (.t 176) 1),oI 179 (.ext (.t 176) 2),oM 5 178,oM 6 179] none [175,6,5]) (.seq (.region [oM 180 6,oI 181 (.bin .eql (.t 180) (.c (.int .i32 65533)))] none [181,175,5]) (.cond (.t 181) (.seq (.region [oM 182 5,oM 4 182] none [4]) .ret) .skip))))))
def Zsw:Zg:=Zg8
def Zkm:=xw Zsw Zg8 rfl
def Zhv:Zg:=(.seq (.region [oI 4 (.mov (.c (.int .i64 (-1))))] none [4]) .ret)
def ZoX:Zg:=Zhv
def ZiZ:=xw ZoX Zhv rfl
def Zhz:Zg:=(.region [oM 125 9,oI 126 (.bin .add (.t 125) (.c (.int .i64 1))),oM 9 126] none [15,14,9,8,7,0])
def Zrq:Zg:=Zhz
def Zku:=xw Zrq Zhz rfl
def Zg9:Zg:=(.seq (.region [oM 157 9,oM 158 8,oI 159 (.bin .sub (.t 157) (.t 158)),oM 4 159] none [4]) .ret)
def ZsU:Zg:=Zg9
def ZjZ:=xw ZsU Zg9 rfl
def Zhu:Zg:=(.seq (.seq (.region [oM 140 16,oM 141 7,oI 142 (.slen (.t 141)),oI 143 (.bin .lss (.t 140) (.t 142))] none [143,16,15,14,9,8,7,0]) (.cond (.t 143) .skip (.exit 7))) (.seq (.block 8 (.seq (.region [oM 146 0,oM 147 9,oM 148 16,oI 149 (.bin .sub (.t 147) (.t 148)),oI 150 (.sindex (.t 146) (.t 149)),oM 151 7,oM 152 8,oM 153 16,oI 154 (.bin .sub (.t 152) (.t 153)),oI 155 (.sindex (.t 151) (.t 154)),oI 156 (.bin .neq (.t 150) (.t 155))] (some []) [156,16,15,14,9,8,7,0]) (.cond (.t 156) (.exit 6) .skip))) (.region [oM 144 16,oI 145 (.bin .add (.t 144) (.c (.int .i64 1))),oM 16 145] none [16,15,14,9,8,7,0])))
def ZpW:Zg:=Zhu
def ZjF:=xw ZpW Zhu rfl
def Zhn:Zg:=(.seq (.seq (.region [oM 121 9,oM 122 0,oI 123 (.slen (.t 122)),oI 124 (.bin .lss (.t 121) (.t 123))] none [124,15,14,9,8,7,0]) (.cond (.t 124) .skip (.exit 5))) (.seq (.block 6 (.seq (.region [oM 127 0,oM 128 9,oI 129 (.sindex (.t 127) (.t 128)),oM 130 14,oI 131 (.bin .eql (.t 129) (.t 130)),oM 132 131,⟨(some 133),(.mov (.t 0)),(some (132,true)),[]⟩,⟨(some 134),(.mov (.t 9)),(some (132,true)),[]⟩,⟨(some 135),(.bin .sub (.t 134) (.c (.int .i64 1))),(some (132,true)),[]⟩,⟨(some 136),(.sindex (.t 133) (.t 135)),(some (132,true)),[]⟩,⟨(some 137),(.mov (.t 15)),(some (132,true)),[]⟩,⟨(some 138),(.bin .eql (.t 136) (.t 137)),(some (132,true)),[]⟩,oI 139 (.pick (.t 132) (.t 138) (.c (.bool false)))] none [139,15,14,9,8,7,0]) (.cond (.t 139) (.seq (.seq (.region [oI 16 (.mov (.c (.int .i64 2)))] none [16,15,14,9,8,7,0]) (.block 7 (.loop [16,15,14,9,8,7,0] ZpW))) ZsU) .skip))) Zrq))
def Zr0:Zg:=Zhn
def Zkv:=xw Zr0 Zhn rfl
def Zg2:Zg:=(.seq (.seq (.region [oI 4 (.mov (.c (.int .i64 (-1))))] none [4]) .ret) (.seq .skip (.seq (.cond (.c (.bool true)) (.seq (.region [oM 99 0,oM 100 9,oM 101 8,oI 102 (.bin .sub (.t 100) (.t 101)),oI 103 (.sslice (.t 99) (some (.t 102)) none),oM 104 1,oI 105 (.i2s (.t 104)),oI 106 (.call 81 0 true [(.t 103),(.t 105)]),oM 13 106] none [13,9,8]) (.seq (.region [oM 107 13,oI 108 (.bin .geq (.t 107) (.c (.int .i64 0)))] none [108,13,9,8]) (.cond (.t 108) (.seq (.region [oM 109 9,oM 110 13,oI 111 (.bin .add (.t 109) (.t 110)),oM 112 8,oI 113 (.bin .sub (.t 111) (.t 112)),oM 4 113] none [4]) .ret) .skip))) (.seq (.region [oM 114 7,oM 115 8,oI 116 (.sindex (.t 114) (.t 115)),oM 14 116] none [14,9,8,7,0]) (.seq (.region [oM 117 7,oM 118 8,oI 119 (.bin .sub (.t 118) (.c (.int .i64 1))),oI 120 (.sindex (.t 117) (.t 119)),oM 15 120] none [15,14,9,8,7,0]) (.seq .skip (.block 5 (.loop [15,14,9,8,7,0] Zr0)))))) ZoX)))
def ZsG:Zg:=Zg2
def ZiJ:=xw ZsG Zg2 rfl
def ZgH:Zg:=(.seq (.seq (.region [oM 65 9,oM 66 8,oI 67 (.bin .sub (.t 65) (.t 66)),oM 4 67] none [4]) .ret) (.seq .skip (.seq (.region [oM 68 10,oI 69 (.bin .add (.t 68) (.c (.int .i64 1))),oM 10 69] none [10,9,8,7,0]) (.seq (.region [oM 70 9,oI 71 (.bin .add (.t 70) (.c (.int .i64 1))),oM 9 71] none [10,9,8,7,0]) (.seq (.region [oI 72 (.mov (.c (.bool true))),⟨(some 73),(.mov (.t 10)),(some (72,true)),[]⟩,⟨(some 74),(.mov (.t 9)),(some (72,true)),[]⟩,⟨(some 75),(.call 80 0 true [(.t 74)]),(some (72,true)),[]⟩,⟨(some 76),(.bin .gtr (.t 73) (.t 75)),(some (72,true)),[]⟩,oI 77 (.pick (.t 72) (.t 76) (.c (.bool false))),oM 78 77,⟨(some 79),(.mov (.t 9)),(some (78,true)),[]⟩,⟨(some 80),(.mov (.t 0)),(some (78,true)),[]⟩,⟨(some 81),(.slen (.t 80)),(some (78,true)),[]⟩,⟨(some 82),(.bin .lss (.t 79) (.t 81)),(some (78,true)),[]⟩,oI 83 (.pick (.t 78) (.t 82) (.c (.bool false))),oM 84 83,⟨(some 85),(.mov (.c (.bool false))),(some (84,false)),[]⟩,⟨(some 86),(.mov (.t 10)),(some (85,true)),[]⟩,⟨(some 87),(.mov (.t 9)),(some (85,true)),[]⟩,⟨(some 88),(.bin .shr (.t 87) (.c (.int .u64 4))),(some (85,true)),[]⟩,⟨(some 89),(.bin .add (.c (.int .i64 4)) (.t 88)),(some (85,true)),[]⟩,⟨(some 90),(.bin .geq (.t 86) (.t 89)),(some (85,true)),[]⟩,⟨(some 91),(.pick (.t 85) (.t 90) (.c (.bool false))),(some (84,false)),[]⟩,⟨(some 92),(.mov (.t 91)),(some (84,false)),[]⟩,⟨(some 93),(.mov (.t 9)),(some (92,true)),[]⟩,⟨(some 94),(.mov (.t 0)),(some (92,true)),[]⟩,⟨(some 95),(.slen (.t 94)),(some (92,true)),[]⟩,⟨(some 96),(.bin .lss (.t 93) (.t 95)),(some (92,true)),[]⟩,⟨(some 97),(.pick (.t 92) (.t 96) (.c (.bool false))),(some (84,false)),[]⟩,oI 98 (.pick (.t 84) (.c (.bool true)) (.t 97))] none [98,9,8,7,0]) (.cond (.t 98) .stuck .skip))))))
def ZpH:Zg:=ZgH
def Zjm:=xw ZpH ZgH rfl
def Zhm:Zg:=(.seq (.seq (.region [oM 48 12,oM 49 7,oI 50 (.slen (.t 49)),oI 51 (.bin .lss (.t 48) (.t 50))] none [51,12,9,8,7,0]) (.cond (.t 51) .skip (.exit 3))) (.seq (.block 4 (.seq (.region [oM 54 0,oM 55 9,oM 56 12,oI 57 (.bin .sub (.t 55) (.t 56)),oI 58 (.sindex (.t 54) (.t 57)),oM 59 7,oM 60 8,oM 61 12,oI 62 (.bin .sub (.t 60) (.t 61)),oI 63 (.sindex (.t 59) (.t 62)),oI 64 (.bin .neq (.t 58) (.t 63))] (some []) [64,12,9,8,7,0]) (.cond (.t 64) .stuck .skip))) (.region [oM 52 12,oI 53 (.bin .add (.t 52) (.c (.int .i64 1))),oM 12 53] none [12,9,8,7,0])))
def Zss:Zg:=Zhm
def ZiI:=xw Zss Zhm rfl
def ZgO:Zg:=(.seq (.seq (.region [oM 23 9,oM 24 0,oI 25 (.slen (.t 24)),oI 26 (.bin .lss (.t 23) (.t 25))] none [26,9,8,7,0]) (.cond (.t 26) .skip (.exit 1))) (.block 2 (.seq (.seq (.region [oM 27 0,oM 28 9,oI 29 (.sindex (.t 27) (.t 28)),oM 30 7,oM 31 8,oI 32 (.sindex (.t 30) (.t 31)),oI 33 (.bin .neq (.t 29) (.t 32))] (some []) [33,9,8,7,0]) (.cond (.t 33) (.seq (.region [oM 34 0,oM 35 9,oI 36 (.bin .add (.t 35) (.c (.int .i64 1))),oI 37 (.sslice (.t 34) (some (.t 36)) none),oM 38 7,oM 39 8,oI 40 (.sindex (.t 38) (.t 39)),oI 41 (.call 78 0 true [(.t 37),(.t 40)]),oM 11 41] (some [(7,7)]) [11,9,8,7,0]) (.seq (.seq (.region [oM 42 11,oI 43 (.bin .lss (.t 42) (.c (.int .i64 0)))] none [43,11,9,8,7,0]) (.cond (.t 43) (.seq (.region [oI 4 (.mov (.c (.int .i64 (-1))))] none [4]) .ret) .skip)) (.region [oM 44 9,oM 45 11,oI 46 (.bin .add (.t 45) (.c (.int .i64 1))),oI 47 (.bin .add (.t 44) (.t 46)),oM 9 47] none [9,8,7,0]))) .skip)) (.seq (.seq (.region [oI 12 (.mov (.c (.int .i64 1)))] none [12,9,8,7,0]) (.block 3 (.loop [12,9,8,7,0] Zss))) ZpH))))
def Zq8:Zg:=ZgO
def ZjC:=xw Zq8 ZgO rfl
def ZgP:Zg:=(.seq (.region [oI 4 (.mov (.c (.int .i64 0)))] none [1,0]) (.block 0 (.seq (.region [oM 161 1,oI 162 (.bin .leq (.c (.int .i32 0)) (.t 161)),oM 163 162,⟨(some 164),(.mov (.t 1)),(some (163,true)),[]⟩,⟨(some 165),(.bin .lss (.t 164) (.c (.int .i32 128))),(some (163,true)),[]⟩,oI 166 (.pick (.t 163) (.t 165) (.c (.bool false))),oM 160 166] none [160,1,0]) (.cond (.t 160) (.seq (.region [oM 167 0,oM 168 1,oI 169 (.i2i .u8 (.t 168)),oI 170 (.call 78 0 true [(.t 167),(.t 169)]),oM 4 170] none [4]) .ret) (.seq (.region [oM 172 1,oI 173 (.bin .eql (.t 172) (.c (.int .i32 65533))),oM 171 173] none [171,1,0]) (.cond (.t 171) (.seq (.seq (.region [oM 174 0,oI 175 (.rng (.t 174))] none [175]) (.block 9 (.loop [175] Zsw))) Zqu) (.seq (.region [oM 184 1,oI 185 (.call 79 0 true [(.t 184)]),oI 186 (.un .not (.t 185)),oM 183 186] none [183,1,0]) (.cond (.t 183) (.seq (.region [oI 4 (.mov (.c (.int .i64 (-1))))] none [4]) .ret) (.seq (.region [oM 17 1,oI 18 (.i2s (.t 17)),oM 7 18] none [7,0]) (.seq (.region [oM 19 7,oI 20 (.slen (.t 19)),oI 21 (.bin .sub (.t 20) (.c (.int .i64 1))),oM 8 21] none [8,7,0]) (.seq (.region [oM 22 8,oM 9 22] none [9,8,7,0]) (.seq (.region [oI 10 (.mov (.c (.int .i64 0)))] none [9,8,7,0]) (.seq (.block 1 (.loop [9,8,7,0] Zq8)) ZsG)))))))))))))
def ZlV:ZaA:=⟨[(.tmp 4)],ZgP⟩
theorem ZrW:FC 60=some ZlV:=by kernel_rfl
theorem ZiO:ZlV.body=ZgP:=rfl
theorem ZjK:ZlV.res=[(.tmp 4)]:=rfl
def Zmo:Zg:=(.seq (.region [oI 2 (.mov (.c (.bool false)))] none [0]) (.seq (.region [oM 3 0,oI 4 (.bin .gtr (.t 3) (.c (.int .i64 8))),oM 2 4] none [2]) .ret))
def ZmW:ZaA:=⟨[(.tmp 2)],Zmo⟩
theorem ZxV:FC 61=some ZmW:=by kernel_rfl
theorem Zs9:ZmW.body=Zmo:=rfl
theorem ZuT:ZmW.res=[(.tmp 2)]:=rfl
def Zki:Zg:=(.seq (.region [oI 2 (.mov (.c (.bool false)))] none [0]) (.seq (.block 0 (.seq (.region [oM 4 0,oI 5 (.bin .leq (.c (.int .i32 0)) (.t 4)),oM 6 5,⟨(some 7),(.mov (.t 0)),(some (6,true)),[]⟩,⟨(some 8),(.bin .lss (.t 7) (.c (.int .i32 55296))),(some (6,true)),[]⟩,oI 9 (.pick (.t 6) (.t 8) (.c (.bool false))),oM 3 9] none [3,0]) (.cond (.t 3) (.seq (.region [oI 2 (.mov (.c (.bool true)))] none [2]) .ret) (.seq (.region [oM 11 0,oI 12 (.bin .lss (.c (.int .i32 57343)) (.t 11)),oM 13 12,⟨(some 14),(.mov (.t 0)),(some (13,true)),[]⟩,⟨(some 15),(.bin .leq (.t 14) (.c (.int .i32 1114111))),(some (13,true)),[]⟩,oI 16 (.pick (.t 13) (.t 15) (.c (.bool false))),oM 10 16] none [10]) (.cond (.t 10) (.seq (.region [oI 2 (.mov (.c (.bool true)))] none [2]) .ret) .skip))))) (.seq (.region [oI 2 (.mov (.c (.bool false)))] none [2]) .ret)))
def Zmv:ZaA:=⟨[(.tmp 2)],Zki⟩
theorem Ztb:FC 79=some Zmv:=by kernel_rfl
theorem Zrb:Zmv.body=Zki:=rfl
theorem Zo5:Zmv.res=[(.tmp 2)]:=rfl
end
section
def Zg7:Zg:=(.seq (.region [oM 12 0,oI 13 (.call 64 0 true [(.t 12)]),oM 2 13] none [2]) .ret)
def Zmy:Zg:=Zg7
def Zi1:=xw Zmy Zg7 rfl
def ZgN:Zg:=(.seq (.region [oI 7 (.nxt (.t 6)),oI 8 (.ext (.t 7) 0)] none [8,7,6,0]) (.seq (.cond (.t 8) .skip (.exit 0)) (.block 1 (.seq (.region [oI 9 (.ext (.t 7) 2),oM 4 9] none [6,4,0]) (.seq (.region [oM 10 4,oI 11 (.bin .eql (.t 10) (.c (.int .i32 0)))] none [11,6,0]) (.cond (.t 11) (.seq (.region [oI 2 (.mov (.c (.bool false)))] none [2]) .ret) .skip))))))
def Zno:Zg:=ZgN
def ZjJ:=xw Zno ZgN rfl
def Zht:Zg:=(.seq (.region [oI 2 (.mov (.c (.bool false)))] none [0]) (.seq (.seq (.region [oM 5 0,oI 6 (.rng (.t 5))] none [6,0]) (.block 0 (.loop [6,0] Zno))) Zmy))
def Zjs:ZaA:=⟨[(.tmp 2)],Zht⟩
theorem ZDV:FC 54=some Zjs:=by kernel_rfl
theorem Zkd:Zjs.body=Zht:=rfl
theorem ZjL:Zjs.res=[(.tmp 2)]:=rfl
noncomputable def Zju (m:Nat) (tm:Tms) (σ:Za):Option (AVal×Za):=(Zbt m Zjs (Zb5 FC PR BY m Zmy (W0 (Zbz 0) (evL FC PR BY m [6,0] Zno tm σ))))
end
section
theorem ZjE (l:List UInt8) (p:Nat):Zfj l p=Lib.decodeL (l.drop p):=by
 have:=Lib.decodeL_drop ⟨l.toArray⟩ p
 simpa [Zfj] using this.symm
def zfG:Nat->List UInt8->Bool
 | 0,_=>true
 | n+1,l=>if l=[] then true else if (Lib.decodeL l).1=0 then false else zfG n (l.drop (Lib.decodeL l).2)
def ZdW (l:List UInt8):Bool:=zfG l.length l && Lib.validD l
theorem ZHy (l:List UInt8):E 64 [.str l] []=some (.bool (Lib.validD l),[]):=ZcL.2 ⟨1,rfl⟩
theorem ZkR (σ:Za) (sq own:Nat) (view:Bool) (l:List UInt8):ZX E BY σ sq 64 own view [.str l]=some (.bool (Lib.validD l),σ,{}) :=
 Zcc (ZHy l) (by kernel_rfl) (by simp -implicitDefEqProofs only [Za7,Za3,Zm,Zr,Zq,Za4,Zn,Zs,Zo,Za2,Zp,eq_self,implies_true,Xi,Zj,ZA,ZD,ZB,ZC,Zj]) (by simp -implicitDefEqProofs only [Za7,Za3,Zm,Zr,Zq,Za4,Zn,Zs,Zo,Za2,Zp,eq_self,implies_true,Xi,Zj,ZA,ZD,ZB,ZC,Zj]) rfl (fun _=>rfl) _ _ _ _
theorem ZrT (s:List UInt8):∀ (n p:Nat),s.length - p<=n->p<=s.length->Zju 0 [(6,.ref 0 0),(0,.str s)] [.siter s p]=some (.bool (zfG n (s.drop p) && Lib.validD s),[])
 | n,p,hn,hp=>by
  by_cases h:p < s.length
  ·obtain ⟨n,rfl⟩:∃ m,n=m+1:=⟨n - 1,by omega⟩
   have hw:=Lib.decodeL_width (s.drop p)
   have hne:s.drop p≠[]:=by rw [ne_eq,Xas];omega
   have hle:=Lib.decodeL_le (s.drop p) hne
   rw [WX] at hle
   have ih:=ZrT s n (p+(Lib.decodeL (s.drop p)).2) (by omega) (by omega)
   rw [<-Xa7] at ih
   unfold Zju at ih ⊢
   rw [Zbn]
   by_cases hz:(Lib.decodeL (s.drop p)).1=0
   ·have hz':((Lib.decodeL (s.drop p)).1:Int)=0:=by omega
    simp -implicitDefEqProofs only [EQA,Zm,Zr,Zq,Zn,Zs,Zo,Zp,ZJ,ZN,ZO,ZL,ZI,ZP,ZK,ZH,ZQ,implies_true,forall_const,Xk,Xm,Xo,Xf,Xg,Xl,Xn,ZF,ZG,unA,Zx,Zz,unG,reduceCtorEq,Zl,decide_eq_true_eq,Xh,Xd,ite_self,↓reduceIte,Zw,ZE,gcT,gcA,Zh,Zf,Zc,Ze,Zt,Zb,Zi,Zd,Zu,Xj,Zkd,Zht,ZjL,Zi1,Zg7,ZjJ,ZgN,Zj,ZA,ZD,ZB,ZC,ZV,h,ZjE,hz',ZkR]
    rw [zfG,if_neg hne,if_pos hz];rfl
   ·have hz':(((Lib.decodeL (s.drop p)).1:Int) == 0)=false:=by rw [beq_eq_false_iff_ne];omega
    simp -implicitDefEqProofs only [EQA,Zm,Zr,Zq,Zn,Zs,Zo,Zp,ZJ,ZN,ZO,ZL,ZI,ZP,ZK,ZH,ZQ,implies_true,forall_const,Xk,Xm,Xo,Xf,Xg,Xl,Xn,ZF,ZG,unA,Zx,Zz,unG,reduceCtorEq,Zl,decide_eq_true_eq,Xh,Xd,ite_self,↓reduceIte,Zw,ZE,gcT,gcA,Zh,Zf,Zc,Ze,Zt,Zb,Zi,Zd,Zu,Xj,Zkd,Zht,ZjL,Zi1,Zg7,ZjJ,ZgN,Zj,ZA,ZD,ZB,ZC,ZV,h,ZjE,hz',ZkR]
    rw [ih,zfG,if_neg hne,if_neg hz]
  ·have he:s.drop p=[]:=by rw [Xas];omega
   unfold Zju
   rw [Zbn]
   simp -implicitDefEqProofs only [EQA,Zm,Zr,Zq,Zn,Zs,Zo,Zp,ZJ,ZN,ZO,ZL,ZI,ZP,ZK,ZH,ZQ,implies_true,forall_const,Xk,Xm,Xo,Xf,Xg,Xl,Xn,ZF,ZG,unA,Zx,Zz,unG,reduceCtorEq,Zl,decide_eq_true_eq,Xh,Xd,ite_self,↓reduceIte,Zw,ZE,gcT,gcA,Zh,Zf,Zc,Ze,Zt,Zb,Zi,Zd,Zu,Xj,Zkd,Zht,ZjL,Zi1,Zg7,ZjJ,ZgN,Zj,ZA,ZD,ZB,ZC,ZV,h,ZkR]
   rw [he]
   cases n <;> simp [zfG]
theorem ZAJ (s:List UInt8):E 54 [.str s] []=some (.bool (ZdW s),[]):=by
 rw [ZaY (by rfl) ZDV]
 have:=ZrT s s.length 0 (by omega) (by omega)
 unfold Zju at this
 simp -implicitDefEqProofs only [EQA,Zm,Zr,Zq,Zn,Zs,Zo,Zp,ZJ,ZN,ZO,ZL,ZI,ZP,ZK,ZH,ZQ,implies_true,forall_const,Xk,Xm,Xo,Xf,Xg,Xl,Xn,ZF,ZG,unA,Zx,Zz,unG,reduceCtorEq,Zl,decide_eq_true_eq,Xh,Xd,ite_self,↓reduceIte,Zw,ZE,gcT,gcA,Zh,Zf,Zc,Ze,Zt,Zb,Zi,Zd,Zu,Xj,Zkd,Zht,ZjL,Zi1,Zg7,ZjJ,ZgN,Zj,ZA,ZD,ZB,ZC,ZV,Zj]
 rw [this,List.drop_zero];rfl
theorem Zzk (σ:Za) (sq own:Nat) (view:Bool) (l:List UInt8):ZX E BY σ sq 54 own view [.str l]=some (.bool (ZdW l),σ,{}) :=
 Zcc (ZAJ l) (by kernel_rfl) (by simp -implicitDefEqProofs only [Za7,Za3,Zm,Zr,Zq,Za4,Zn,Zs,Zo,Za2,Zp,eq_self,implies_true,Xi,Zj,ZA,ZD,ZB,ZC,Zj]) (by simp -implicitDefEqProofs only [Za7,Za3,Zm,Zr,Zq,Za4,Zn,Zs,Zo,Za2,Zp,eq_self,implies_true,Xi,Zj,ZA,ZD,ZB,ZC,Zj]) rfl (fun _=>rfl) _ _ _ _
theorem ZHI (b:UInt8):(b.toNat:Int) < 256:=by have:=b.toNat_lt;omega
theorem wrap_i64 {n:Int} (h0:-9223372036854775808<=n) (h:n<=9223372036854775807):IntKind.i64.wrap n=n:=ZcW h0 h
end
section
def ZcO (b:UInt8):Bool:=b == 43 || b == 35
def Zbb (l:List UInt8):Bool:=l.any ZcO
def ZbT:List AVal:=(Wt 256).map fun n=>.bool (n == 43 || n == 35)
theorem ZvI:ZbT.length=256:=by simp [ZbT]
theorem Zh2:Zw ZbT=true:=by kernel_rfl
theorem ZGW:(ZbT.drop 0).take 256=ZbT:=by kernel_rfl
theorem ZEn:ZbT.take 256=ZbT:=by kernel_rfl
theorem ZvH (b:UInt8):ZbT[b.toNat]?=some (.bool (ZcO b)):=by
 have hb:=b.toNat_lt
 have : ZcO b=(b.toNat == 43 || b.toNat == 35):=by
  unfold ZcO
  rw [Xau]
  simp [<-Xa2]
 rw [this]
 simp [ZbT,hb]
theorem ZlB:ZZ ZbT=[]:=(ZeI (fun _ _=>none) ZbT Zh2).2
theorem ZkG (ρ:Rho):ZW ρ ZbT=ZbT:=(ZeI ρ ZbT Zh2).1
theorem ZEZ:E 62 [.str [43,35]] []=some (.tup [.agg ZbT,.bool true],[]):=ZcL.2 ⟨8,by kernel_rfl⟩
theorem Zy6 (σ:Za) (sq own:Nat) (view:Bool):ZX E BY σ sq 62 own view [.str [43,35]]=some (.tup [.agg ZbT,.bool true],σ,{}) :=
 Zcc ZEZ (by kernel_rfl) rfl rfl (by kernel_rfl) (fun _=>by kernel_rfl) _ _ _ _
theorem Zw1 (b:UInt8):E 63 [.ref 0 0,Zby b] [.var ZbT]=some (.bool (ZcO b),[.var ZbT]):=by
 rw [ZaY (by rfl) ZuQ]
 have h1:(0:Int)<=(b.toNat:Int):=by omega
 have h2:(b.toNat:Int) < ((256:Nat):Int):=by have:=ZHI b;omega
 simp -implicitDefEqProofs only [EQA,Zm,Zr,Zq,Zn,Zs,Zo,Zp,ZJ,ZN,ZO,ZL,ZI,ZP,ZK,ZH,ZQ,implies_true,forall_const,Xk,Xm,Xo,Xf,Xg,Xl,Xn,ZF,ZG,unA,Zx,Zz,unG,reduceCtorEq,Zl,decide_eq_true_eq,Xh,Xd,ite_self,↓reduceIte,Zw,ZE,gcT,gcA,Zh,Zf,Zc,Ze,Zt,Zb,Zi,Zd,Zu,Xj,ZtA,ZlF,ZFU,Zj,ZA,ZD,ZB,ZC,ZV,Zby,h1,h2,Xaa,Nat.mul_one,ZvH,Zh2]
theorem ZpB (σ:Za) (sq t:Nat) (view:Bool) (b:UInt8) (hs:σ[t]?=some (.var ZbT)):ZX E BY σ sq 63 0 view [.ref t 0,.int .u8 b.toNat]=some (.bool (ZcO b),σ.set t (.var ZbT),{ any:=true,upd:=[(t,ZbT)] }) :=
 ZA0 hs Zh2 Zh2 (by kernel_rfl) rfl rfl rfl rfl (Zw1 b)
theorem Zpa (s:List UInt8) (hl:s.length<=9223372036854775807):∀ (r:List UInt8) (i:Nat),s.drop i=r->∃ z,Zj1 0 [(8,.int .i64 i),(6,.ref 0 0),(0,.str s)] [.var ZbT]=some (.int .i64 z,[])/\decide (z>=0)=Zbb r
 | [],i,h=>by
  have h1:=Zgw h
  refine ⟨-1,?_,by simp [Zbb]⟩
  unfold Zj1
  rw [Zbn]
  simp -implicitDefEqProofs only [EQA,Zm,Zr,Zq,Zn,Zs,Zo,Zp,ZJ,ZN,ZO,ZL,ZI,ZP,ZK,ZH,ZQ,implies_true,forall_const,Xk,Xm,Xo,Xf,Xg,Xl,Xn,ZF,ZG,unA,Zx,Zz,unG,reduceCtorEq,Zl,decide_eq_true_eq,Xh,Xd,ite_self,↓reduceIte,Zw,ZE,gcT,gcA,Zh,Zf,Zc,Ze,Zt,Zb,Zi,Zd,Zu,Xj,ZfO,ZeU,ZfH,ZfN,ZeP,ZfE,Zeu,Zfy,ZeJ,ZfD,Zey,ZfS,Zev,Zj,ZA,ZD,ZB,ZC,ZV,h1]
 | b::r,i,h=>by
  obtain ⟨z,ih,hz⟩:=Zpa s hl r (i+1) (ZdU h).2.1
  have h1:(i:Int) < s.length:=by have:=(ZdU h).2.2;omega
  have h2:=(ZdU h).1
  have h3:=Zfi h1 hl
  have i0:(0:Int)<=(i:Int):=by omega
  unfold Zj1 at ih ⊢
  cases hb:ZcO b
  ·refine ⟨z,?_,by rw [hz];simp [Zbb,hb]⟩
   rw [Zbn]
   simp -implicitDefEqProofs only [EQA,Zm,Zr,Zq,Zn,Zs,Zo,Zp,ZJ,ZN,ZO,ZL,ZI,ZP,ZK,ZH,ZQ,implies_true,forall_const,Xk,Xm,Xo,Xf,Xg,Xl,Xn,ZF,ZG,unA,Zx,Zz,unG,reduceCtorEq,Zl,decide_eq_true_eq,Xh,Xd,ite_self,↓reduceIte,Zw,ZE,gcT,gcA,Zh,Zf,Zc,Ze,Zt,Zb,Zi,Zd,Zu,Xj,ZfO,ZeU,ZfH,ZfN,ZeP,ZfE,Zeu,Zfy,ZeJ,ZfD,Zey,ZfS,Zev,Zj,ZA,ZD,ZB,ZC,ZV,h1,h2,h3,i0,Xaa,ZpB,hb,Zby,ZlB,ZkG]
   exact ih
  ·refine ⟨i,?_,by simp [Zbb,hb]⟩
   rw [Zbn]
   simp -implicitDefEqProofs only [EQA,Zm,Zr,Zq,Zn,Zs,Zo,Zp,ZJ,ZN,ZO,ZL,ZI,ZP,ZK,ZH,ZQ,implies_true,forall_const,Xk,Xm,Xo,Xf,Xg,Xl,Xn,ZF,ZG,unA,Zx,Zz,unG,reduceCtorEq,Zl,decide_eq_true_eq,Xh,Xd,ite_self,↓reduceIte,Zw,ZE,gcT,gcA,Zh,Zf,Zc,Ze,Zt,Zb,Zi,Zd,Zu,Xj,ZfO,ZeU,ZfH,ZfN,ZeP,ZfE,Zeu,Zfy,ZeJ,ZfD,Zey,ZfS,Zev,Zj,ZA,ZD,ZB,ZC,ZV,h1,h2,h3,i0,Xaa,ZpB,hb,Zby,ZlB,ZkG]
def ZdJ (r:Int):Int:=if r=43 then 0 else if r=35 then 1 else -1
theorem Zu2 (l:List UInt8) (c:Int):E 78 [.str l,.int .u8 c] []=some (.int .i64 (Lib.indexByte l c.toNat.toUInt8),[]):=ZcL.2 ⟨1,rfl⟩
theorem Zri (σ:Za) (sq own:Nat) (view:Bool) (l:List UInt8) (c:Int):ZX E BY σ sq 78 own view [.str l,.int .u8 c]=some (.int .i64 (Lib.indexByte l c.toNat.toUInt8),σ,{}) :=
 Zcc (Zu2 l c) (by kernel_rfl) (by simp -implicitDefEqProofs only [Za7,Za3,Zm,Zr,Zq,Za4,Zn,Zs,Zo,Za2,Zp,eq_self,implies_true,Xi,Zj,ZA,ZD,ZB,ZC,Zj]) (by simp -implicitDefEqProofs only [Za7,Za3,Zm,Zr,Zq,Za4,Zn,Zs,Zo,Za2,Zp,eq_self,implies_true,Xi,Zj,ZA,ZD,ZB,ZC,Zj]) rfl (fun _=>rfl) _ _ _ _
theorem Zt1 (r:Int) (h:(0<=r/\r < 55296)\/(57344<=r/\r<=1114111)):E 79 [.int .i32 r] []=some (.bool true,[]):=by
 rw [ZaY (by rfl) Ztb]
 rcases h with ⟨h1,h2⟩ | ⟨h1,h2⟩
 ·simp -implicitDefEqProofs only [EQA,Zm,Zr,Zq,Zn,Zs,Zo,Zp,ZJ,ZN,ZO,ZL,ZI,ZP,ZK,ZH,ZQ,implies_true,forall_const,Xk,Xm,Xo,Xf,Xg,Xl,Xn,ZF,ZG,unA,Zx,Zz,unG,reduceCtorEq,Zl,decide_eq_true_eq,Xh,Xd,ite_self,↓reduceIte,Zw,ZE,gcT,gcA,Zh,Zf,Zc,Ze,Zt,Zb,Zi,Zd,Zu,Xj,Zrb,Zki,Zo5,Zj,ZA,ZD,ZB,ZC,ZV,h1,h2]
 ·have h3:¬r < 55296:=by omega
  have h4:(57343:Int) < r:=by omega
  have h5:(0:Int)<=r:=by omega
  simp -implicitDefEqProofs only [EQA,Zm,Zr,Zq,Zn,Zs,Zo,Zp,ZJ,ZN,ZO,ZL,ZI,ZP,ZK,ZH,ZQ,implies_true,forall_const,Xk,Xm,Xo,Xf,Xg,Xl,Xn,ZF,ZG,unA,Zx,Zz,unG,reduceCtorEq,Zl,decide_eq_true_eq,Xh,Xd,ite_self,↓reduceIte,Zw,ZE,gcT,gcA,Zh,Zf,Zc,Ze,Zt,Zb,Zi,Zd,Zu,Xj,Zrb,Zki,Zo5,Zj,ZA,ZD,ZB,ZC,ZV,h1,h2,h3,h4,h5]
theorem Zur:E 60 [.str [43,35],.int .i32 65533] []=some (.int .i64 (-1),[]):=ZcL.2 ⟨8,by kernel_rfl⟩
theorem Zvf (σ:Za) (sq own:Nat) (view:Bool) (r:Int) (h:(0<=r/\r < 55296)\/(57344<=r/\r<=1114111)):ZX E BY σ sq 79 own view [.int .i32 r]=some (.bool true,σ,{}) :=
 Zcc (Zt1 r h) (by kernel_rfl) (by simp -implicitDefEqProofs only [Za7,Za3,Zm,Zr,Zq,Za4,Zn,Zs,Zo,Za2,Zp,eq_self,implies_true,Xi,Zj,ZA,ZD,ZB,ZC,Zj]) (by simp -implicitDefEqProofs only [Za7,Za3,Zm,Zr,Zq,Za4,Zn,Zs,Zo,Za2,Zp,eq_self,implies_true,Xi,Zj,ZA,ZD,ZB,ZC,Zj]) rfl (fun _=>rfl) _ _ _ _
theorem ZGn (r:Int) (h0:0<=r) (h1:r < 128):Lib.indexByte [43,35] r.toNat.toUInt8=ZdJ r:=by
 obtain ⟨n,rfl⟩:∃ n:Fin 128,r=(n.val:Int):=⟨⟨r.toNat,by omega⟩,by simp;omega⟩
 clear h0 h1
 revert n
 decide
theorem ZA8 (r:Int) (h0:0<=r) (h1:r < 128):E 60 [.str [43,35],.int .i32 r] []=some (.int .i64 (ZdJ r),[]):=by
 rw [ZaY (by rfl) ZrW]
 have w:IntKind.u8.wrap r=r:=by rw [show IntKind.u8.wrap r=r % 256 from rfl];omega
 simp -implicitDefEqProofs only [EQA,Zm,Zr,Zq,Zn,Zs,Zo,Zp,ZJ,ZN,ZO,ZL,ZI,ZP,ZK,ZH,ZQ,implies_true,forall_const,Xk,Xm,Xo,Xf,Xg,Xl,Xn,ZF,ZG,unA,Zx,Zz,unG,reduceCtorEq,Zl,decide_eq_true_eq,Xh,Xd,ite_self,↓reduceIte,Zw,ZE,gcT,gcA,Zh,Zf,Zc,Ze,Zt,Zb,Zi,Zd,Zu,Xj,ZiO,ZgP,ZjK,Zi7,ZgR,Zkm,Zg8,ZiZ,Zhv,Zku,Zhz,ZjZ,Zg9,ZjF,Zhu,Zkv,Zhn,ZiJ,Zg2,Zjm,ZgH,ZiI,Zhm,ZjC,ZgO,Zj,ZA,ZD,ZB,ZC,ZV,h0,h1,w,Zri,ZGn]
theorem ZHM (r:Int) (h0:128<=r) (h1:r < 2048):∃ a b:UInt8,(Utf8.encode r).data.toList=[a,b]/\((35:Int) == (b.toNat:Int))=false:=by
 have hv:Utf8.valid r=true:=by simp [Utf8.valid];omega
 refine ⟨_,_,by unfold Utf8.encode;simp only [hv,if_true];rw [if_neg (by omega),if_pos (by omega)],?_⟩
 rw [beq_eq_false_iff_ne]
 simp
 omega
theorem ZBF (r:Int) (h0:2048<=r) (h1:r < 65536) (hv:Utf8.valid r=true):∃ a b c:UInt8,(Utf8.encode r).data.toList=[a,b,c]:=by
 refine ⟨_,_,_,by unfold Utf8.encode;simp only [hv,if_true];rw [if_neg (by omega),if_neg (by omega),if_pos (by omega)]⟩
theorem ZB4 (r:Int) (h1:65536<=r) (hv:Utf8.valid r=true):∃ a b c d:UInt8,(Utf8.encode r).data.toList=[a,b,c,d]:=by
 refine ⟨_,_,_,_,by unfold Utf8.encode;simp only [hv,if_true];rw [if_neg (by omega),if_neg (by omega),if_neg (by omega)]⟩
theorem ZFP (r:Int) (h0:128<=r) (hv:(0<=r/\r < 55296)\/(57344<=r/\r<=1114111)) (hne:r≠65533):E 60 [.str [43,35],.int .i32 r] []=some (.int .i64 (-1),[]):=by
 rw [ZaY (by rfl) ZrW]
 have h1:(0:Int)<=r:=by omega
 have h2:¬r < 128:=by omega
 have h3:(r == 65533)=false:=by rw [beq_eq_false_iff_ne];exact hne
 have hv':Utf8.valid r=true:=by simp [Utf8.valid];omega
 have hV:=fun σ sq own view=>Zvf σ sq own view r hv
 by_cases h4:r < 2048
 ·obtain ⟨a,b,he,hb⟩:=ZHM r h0 h4
  have hi:Lib.indexByte [] ((b.toNat:Int).toNat.toUInt8)=-1:=rfl
  have w1:IntKind.i64.wrap (((2:Nat):Int) - 1)=1:=by decide
  have w2:IntKind.i64.wrap ((1:Int)+1)=2:=by decide
  have l1:(1:Int) < ((2:Nat):Int):=by decide
  have l2:(2:Int)<=((2:Nat):Int):=by decide
  have l3:(0:Int)<=1:=by decide
  have l4:(0:Int)<=2:=by decide
  have t1:(1:Int).toNat=1:=rfl
  have t2:(2:Int).toNat=2:=rfl
  have n1:((-1:Int) < 0)=True:=by simp
  have hb':(((35:UInt8).toNat:Int) != (b.toNat:Int))=true:=by
   have : ((35:UInt8).toNat:Int)=35:=rfl
   rw [this];simp only [bne,hb,W3]
  simp -implicitDefEqProofs only [EQA,Zm,Zr,Zq,Zn,Zs,Zo,Zp,ZJ,ZN,ZO,ZL,ZI,ZP,ZK,ZH,ZQ,implies_true,forall_const,Xk,Xm,Xo,Xf,Xg,Xl,Xn,ZF,ZG,unA,Zx,Zz,unG,reduceCtorEq,Zl,decide_eq_true_eq,Xh,Xd,ite_self,↓reduceIte,Zw,ZE,gcT,gcA,Zh,Zf,Zc,Ze,Zt,Zb,Zi,Zd,Zu,Xj,ZiO,ZgP,ZjK,Zi7,ZgR,Zkm,Zg8,ZiZ,Zhv,Zku,Zhz,ZjZ,Zg9,ZjF,Zhu,Zkv,Zhn,ZiJ,Zg2,Zjm,ZgH,ZiI,Zhm,ZjC,ZgO,Zj,ZA,ZD,ZB,ZC,ZV,h1,h2,h3,hV,he,Zbn,Zby,w1,w2,l1,l2,l3,l4,t1,t2,hb',Zbm,Zdr,Zri,hi,n1]
 ·by_cases h5:r < 65536
  ·obtain ⟨a,b,c,he⟩:=ZBF r (by omega) h5 hv'
   have w1:IntKind.i64.wrap (((3:Nat):Int) - 1)=2:=by decide
   have l1:¬(2:Int) < ((2:Nat):Int):=by decide
   simp -implicitDefEqProofs only [EQA,Zm,Zr,Zq,Zn,Zs,Zo,Zp,ZJ,ZN,ZO,ZL,ZI,ZP,ZK,ZH,ZQ,implies_true,forall_const,Xk,Xm,Xo,Xf,Xg,Xl,Xn,ZF,ZG,unA,Zx,Zz,unG,reduceCtorEq,Zl,decide_eq_true_eq,Xh,Xd,ite_self,↓reduceIte,Zw,ZE,gcT,gcA,Zh,Zf,Zc,Ze,Zt,Zb,Zi,Zd,Zu,Xj,ZiO,ZgP,ZjK,Zi7,ZgR,Zkm,Zg8,ZiZ,Zhv,Zku,Zhz,ZjZ,Zg9,ZjF,Zhu,Zkv,Zhn,ZiJ,Zg2,Zjm,ZgH,ZiI,Zhm,ZjC,ZgO,Zj,ZA,ZD,ZB,ZC,ZV,h1,h2,h3,hV,he,Zbn,Zby,w1,l1]
  ·obtain ⟨a,b,c,d,he⟩:=ZB4 r (by omega) hv'
   have w1:IntKind.i64.wrap (((4:Nat):Int) - 1)=3:=by decide
   have l1:¬(3:Int) < ((2:Nat):Int):=by decide
   simp -implicitDefEqProofs only [EQA,Zm,Zr,Zq,Zn,Zs,Zo,Zp,ZJ,ZN,ZO,ZL,ZI,ZP,ZK,ZH,ZQ,implies_true,forall_const,Xk,Xm,Xo,Xf,Xg,Xl,Xn,ZF,ZG,unA,Zx,Zz,unG,reduceCtorEq,Zl,decide_eq_true_eq,Xh,Xd,ite_self,↓reduceIte,Zw,ZE,gcT,gcA,Zh,Zf,Zc,Ze,Zt,Zb,Zi,Zd,Zu,Xj,ZiO,ZgP,ZjK,Zi7,ZgR,Zkm,Zg8,ZiZ,Zhv,Zku,Zhz,ZjZ,Zg9,ZjF,Zhu,Zkv,Zhn,ZiJ,Zg2,Zjm,ZgH,ZiI,Zhm,ZjC,ZgO,Zj,ZA,ZD,ZB,ZC,ZV,h1,h2,h3,hV,he,Zbn,Zby,w1,l1]
theorem ZGo (l:List UInt8):((Lib.decodeL l).1 < 55296)\/(57344<=(Lib.decodeL l).1/\(Lib.decodeL l).1<=1114111):=by
 rw [Lib.decodeL_N]
 have h0:=(l.getD 0 0).toNat_lt
 unfold Lib.decodeN
 repeat' split
 all_goals (try simp only);omega
theorem ZCF (l:List UInt8):E 60 [.str [43,35],.int .i32 (Lib.decodeL l).1] []=some (.int .i64 (ZdJ (Lib.decodeL l).1),[]):=by
 have hv:=ZGo l
 generalize (Lib.decodeL l).1=n at hv
 by_cases h:n < 128
 ·exact ZA8 n (by omega) (by omega)
 ·have e:ZdJ (n:Int)=-1:=by unfold ZdJ;rw [if_neg (by omega),if_neg (by omega)]
  rw [e]
  by_cases h2:n=65533
  ·subst h2;exact Zur
  ·exact ZFP n (by omega) (by omega) (by omega)
theorem ZsA (σ:Za) (sq own:Nat) (view:Bool) (l:List UInt8):ZX E BY σ sq 60 own view [.str [43,35],.int .i32 (Lib.decodeL l).1]=some (.int .i64 (ZdJ (Lib.decodeL l).1),σ,{}) :=
 Zcc (ZCF l) (by kernel_rfl) (by simp -implicitDefEqProofs only [Za7,Za3,Zm,Zr,Zq,Za4,Zn,Zs,Zo,Za2,Zp,eq_self,implies_true,Xi,Zj,ZA,ZD,ZB,ZC,Zj]) (by simp -implicitDefEqProofs only [Za7,Za3,Zm,Zr,Zq,Za4,Zn,Zs,Zo,Za2,Zp,eq_self,implies_true,Xi,Zj,ZA,ZD,ZB,ZC,Zj]) rfl (fun _=>rfl) _ _ _ _
theorem ZvC (l:List UInt8) (hne:l≠[]):Zbb l=(decide (ZdJ (Lib.decodeL l).1>=0) || Zbb (l.drop (Lib.decodeL l).2)):=by
 obtain ⟨b0,t,rfl⟩:∃ b t,l=b::t:=by
  cases l with
  | nil=>exact absurd rfl hne
  | cons b t=>exact ⟨b,t,rfl⟩
 have hc:∀ b:UInt8,b.toNat / 64=2->ZcO b=false:=by
  intro b hb
  unfold ZcO
  simp only [Bool.or_eq_false_iff,beq_eq_false_iff_ne,ne_eq,<-Xa2]
  have : (43:UInt8).toNat=43:=rfl
  have : (35:UInt8).toNat=35:=rfl
  omega
 have hi:∀ n:Nat,n≠43->n≠35->decide (ZdJ (n:Int)>=0)=false:=by
  intro n h1 h2
  unfold ZdJ
  rw [if_neg (by omega),if_neg (by omega)];rfl
 have hp:∀ b:UInt8,ZcO b=decide (ZdJ (b.toNat:Int)>=0):=by
  intro b
  unfold ZcO ZdJ
  have e1:(43:UInt8).toNat=43:=rfl
  have e2:(35:UInt8).toNat=35:=rfl
  rw [Xau]
  simp only [Bool.or_eq_true,beq_iff_eq,<-Xa2,e1,e2,decide_eq_true_eq]
  constructor
  ·rintro (h | h) <;> simp [h]
  ·intro h
   by_cases h1:b.toNat=43
   ·exact Xw h1
   ·by_cases h2:b.toNat=35
    ·exact XD h2
    ·rw [if_neg (by omega),if_neg (by omega)] at h;omega
 rw [Lib.decodeL_N]
 simp only [Xv,Xs,Xx]
 have hb:=b0.toNat_lt
 have hlow:128<=b0.toNat->ZcO b0=false:=by
  intro h;rw [hp];exact hi _ (by omega) (by omega)
 unfold Lib.decodeN
 split
 ·simp [Zbb,hp]
 rename_i h0
 have hl0:=hlow (by omega)
 have eE:decide (ZdJ ((65533:Nat):Int)>=0)=false:=by decide
 split
 ·rename_i h1
  obtain ⟨b1,t,rfl⟩:∃ b t',t=b::t':=by
   cases t with
   | nil=>simp at h1
   | cons b t=>exact ⟨b,t,rfl⟩
  have h1c:=hc b1 (by simpa using h1.2.2)
  split
  ·rename_i h2
   rw [hi _ (by simp only;omega) (by simp only;omega)]
   simp [Zbb,hl0,h1c]
  ·rw [eE];simp [Zbb,hl0]
 split
 ·rename_i h1
  obtain ⟨b1,b2,t,rfl⟩:∃ b c t',t=b::c::t':=by
   match t,h1 with
   | [],h1=>simp at h1
   | [_],h1=>simp at h1
   | b::c::t,_=>exact ⟨b,c,t,rfl⟩
  have h1c:=hc b1 (by simpa using h1.2.1.2)
  have h2c:=hc b2 (by simpa using h1.2.2.2)
  split
  ·rename_i h2
   rw [hi _ (by simp only;omega) (by simp only;omega)]
   simp [Zbb,hl0,h1c,h2c]
  ·rw [eE];simp [Zbb,hl0]
 split
 ·rename_i h1
  obtain ⟨b1,b2,b3,t,rfl⟩:∃ b c d t',t=b::c::d::t':=by
   match t,h1 with
   | [],h1=>simp at h1
   | [_],h1=>simp at h1
   | [_,_],h1=>simp at h1
   | b::c::d::t,_=>exact ⟨b,c,d,t,rfl⟩
  have h1c:=hc b1 (by simpa using h1.2.1.2)
  have h2c:=hc b2 (by simpa using h1.2.2.1.2)
  have h3c:=hc b3 (by simpa using h1.2.2.2.2)
  split
  ·rename_i h2
   rw [hi _ (by simp only;omega) (by simp only;omega)]
   simp [Zbb,hl0,h1c,h2c,h3c]
  ·rw [eE];simp [Zbb,hl0]
 ·rw [eE];simp [Zbb,hl0]
theorem ZsR (s:List UInt8):∀ (n p:Nat),s.length - p<=n->p<=s.length->∃ z,Zkb 0 [(45,.ref 0 0),(1,.str [43,35])] [.siter s p]=some (.int .i64 z,[])/\decide (z>=0)=Zbb (s.drop p)
 | n,p,hn,hp=>by
  by_cases h:p < s.length
  ·obtain ⟨n,rfl⟩:∃ m,n=m+1:=⟨n - 1,by omega⟩
   have hw:=Lib.decodeL_width (s.drop p)
   have hne:s.drop p≠[]:=by rw [ne_eq,Xas];omega
   have hle:=Lib.decodeL_le (s.drop p) hne
   rw [WX] at hle
   obtain ⟨z,ih,hz⟩:=ZsR s n (p+(Lib.decodeL (s.drop p)).2) (by omega) (by omega)
   rw [<-Xa7] at hz
   rw [ZvC _ hne,<-hz]
   unfold Zkb at ih ⊢
   by_cases hi:ZdJ (Lib.decodeL (s.drop p)).1>=0
   ·refine ⟨p,?_,by simp [hi]⟩
    rw [Zbn]
    simp -implicitDefEqProofs only [EQA,Zm,Zr,Zq,Zn,Zs,Zo,Zp,ZJ,ZN,ZO,ZL,ZI,ZP,ZK,ZH,ZQ,implies_true,forall_const,Xk,Xm,Xo,Xf,Xg,Xl,Xn,ZF,ZG,unA,Zx,Zz,unG,reduceCtorEq,Zl,decide_eq_true_eq,Xh,Xd,ite_self,↓reduceIte,Zw,ZE,gcT,gcA,Zh,Zf,Zc,Ze,Zt,Zb,Zi,Zd,Zu,Xj,ZfO,ZeU,ZfH,ZfN,ZeP,ZfE,Zeu,Zfy,ZeJ,ZfD,Zey,ZfS,Zev,Zj,ZA,ZD,ZB,ZC,ZV,h,ZjE,ZsA,hi]
   ·refine ⟨z,?_,by simp [hi]⟩
    rw [Zbn]
    simp -implicitDefEqProofs only [EQA,Zm,Zr,Zq,Zn,Zs,Zo,Zp,ZJ,ZN,ZO,ZL,ZI,ZP,ZK,ZH,ZQ,implies_true,forall_const,Xk,Xm,Xo,Xf,Xg,Xl,Xn,ZF,ZG,unA,Zx,Zz,unG,reduceCtorEq,Zl,decide_eq_true_eq,Xh,Xd,ite_self,↓reduceIte,Zw,ZE,gcT,gcA,Zh,Zf,Zc,Ze,Zt,Zb,Zi,Zd,Zu,Xj,ZfO,ZeU,ZfH,ZfN,ZeP,ZfE,Zeu,Zfy,ZeJ,ZfD,Zey,ZfS,Zev,Zj,ZA,ZD,ZB,ZC,ZV,h,ZjE,ZsA,hi]
    exact ih
  ·have he:s.drop p=[]:=by rw [Xas];omega
   refine ⟨-1,?_,by rw [he];rfl⟩
   unfold Zkb
   rw [Zbn]
   simp -implicitDefEqProofs only [EQA,Zm,Zr,Zq,Zn,Zs,Zo,Zp,ZJ,ZN,ZO,ZL,ZI,ZP,ZK,ZH,ZQ,implies_true,forall_const,Xk,Xm,Xo,Xf,Xg,Xl,Xn,ZF,ZG,unA,Zx,Zz,unG,reduceCtorEq,Zl,decide_eq_true_eq,Xh,Xd,ite_self,↓reduceIte,Zw,ZE,gcT,gcA,Zh,Zf,Zc,Ze,Zt,Zb,Zi,Zd,Zu,Xj,ZfO,ZeU,ZfH,ZfN,ZeP,ZfE,Zeu,Zfy,ZeJ,ZfD,Zey,ZfS,Zev,Zj,ZA,ZD,ZB,ZC,ZV,h]
end
section
theorem Zvp (n:Int):E 61 [.int .i64 n] []=some (.bool (decide (n > 8)),[]):=by
 rw [ZaY (by rfl) ZxV]
 simp -implicitDefEqProofs only [EQA,Zm,Zr,Zq,Zn,Zs,Zo,Zp,ZJ,ZN,ZO,ZL,ZI,ZP,ZK,ZH,ZQ,implies_true,forall_const,Xk,Xm,Xo,Xf,Xg,Xl,Xn,ZF,ZG,unA,Zx,Zz,unG,reduceCtorEq,Zl,decide_eq_true_eq,Xh,Xd,ite_self,↓reduceIte,Zw,ZE,gcT,gcA,Zh,Zf,Zc,Ze,Zt,Zb,Zi,Zd,Zu,Xj,Zs9,Zmo,ZuT,Zj,ZA,ZD,ZB,ZC,ZV,Zj]
theorem ZsX (σ:Za) (sq own:Nat) (view:Bool) (n:Int):ZX E BY σ sq 61 own view [.int .i64 n]=some (.bool (decide (n > 8)),σ,{}) :=
 Zcc (Zvp n) (by kernel_rfl) (by simp -implicitDefEqProofs only [Za7,Za3,Zm,Zr,Zq,Za4,Zn,Zs,Zo,Za2,Zp,eq_self,implies_true,Xi,Zj,ZA,ZD,ZB,ZC,Zj]) (by simp -implicitDefEqProofs only [Za7,Za3,Zm,Zr,Zq,Za4,Zn,Zs,Zo,Za2,Zp,eq_self,implies_true,Xi,Zj,ZA,ZD,ZB,ZC,Zj]) rfl (fun _=>rfl) _ _ _ _
theorem ZEs:ZbT.all Zae=true:=by kernel_rfl
theorem ZGD (s:List UInt8) (hl:s.length<=9223372036854775807):∃ z,E 53 [.str s,.str [43,35]] []=some (.int .i64 z,[])/\decide (z>=0)=Zbb s:=by
 have e0:(([43,35]:List UInt8) == [])=false:=rfl
 have e1:((((2:Nat)):Int) == 1)=false:=rfl
 by_cases h:(s.length:Int) > 8
 ·obtain ⟨z,h1,h2⟩:=Zpa s hl s 0 rfl
  refine ⟨z,?_,h2⟩
  rw [ZaY (by rfl) ZqV]
  unfold Zj1 at h1
  have z0:((0:Nat):Int)=0:=rfl
  rw [z0] at h1
  simp -implicitDefEqProofs only [EQA,Zm,Zr,Zq,Zn,Zs,Zo,Zp,ZJ,ZN,ZO,ZL,ZI,ZP,ZK,ZH,ZQ,implies_true,forall_const,Xk,Xm,Xo,Xf,Xg,Xl,Xn,ZF,ZG,unA,Zx,Zz,unG,reduceCtorEq,Zl,decide_eq_true_eq,Xh,Xd,ite_self,↓reduceIte,Zw,ZE,gcT,gcA,Zh,Zf,Zc,Ze,Zt,Zb,Zi,Zd,Zu,Xj,ZfO,ZeU,ZfH,ZfN,ZeP,ZfE,Zeu,Zfy,ZeJ,ZfD,Zey,ZfS,Zev,Zj,ZA,ZD,ZB,ZC,ZV,e0,e1,h,ZsX,Zy6,ZGW,ZEn,ZvI,ZlB,ZkG,ZEs]
  exact h1
 ·obtain ⟨z,h1,h2⟩:=ZsR s s.length 0 (by omega) (by omega)
  refine ⟨z,?_,h2⟩
  rw [ZaY (by rfl) ZqV]
  unfold Zkb at h1
  simp -implicitDefEqProofs only [EQA,Zm,Zr,Zq,Zn,Zs,Zo,Zp,ZJ,ZN,ZO,ZL,ZI,ZP,ZK,ZH,ZQ,implies_true,forall_const,Xk,Xm,Xo,Xf,Xg,Xl,Xn,ZF,ZG,unA,Zx,Zz,unG,reduceCtorEq,Zl,decide_eq_true_eq,Xh,Xd,ite_self,↓reduceIte,Zw,ZE,gcT,gcA,Zh,Zf,Zc,Ze,Zt,Zb,Zi,Zd,Zu,Xj,ZfO,ZeU,ZfH,ZfN,ZeP,ZfE,Zeu,Zfy,ZeJ,ZfD,Zey,ZfS,Zev,Zj,ZA,ZD,ZB,ZC,ZV,e0,e1,h,ZsX]
  exact h1
theorem ZFn (s:List UInt8) (hl:s.length<=9223372036854775807):E 45 [.str s,.str [43,35]] []=some (.bool (Zbb s),[]):=by
 obtain ⟨z,h1,h2⟩:=ZGD s hl
 have hC:∀ (σ:Za) (sq own:Nat) (view:Bool),ZX E BY σ sq 53 own view [.str s,.str [43,35]]=some (.int .i64 z,σ,{}):=fun _ _ _ _=>Zcc (h1) (by kernel_rfl) (by simp -implicitDefEqProofs only [Za7,Za3,Zm,Zr,Zq,Za4,Zn,Zs,Zo,Za2,Zp,eq_self,implies_true,Xi,Zj,ZA,ZD,ZB,ZC,Zj]) (by simp -implicitDefEqProofs only [Za7,Za3,Zm,Zr,Zq,Za4,Zn,Zs,Zo,Za2,Zp,eq_self,implies_true,Xi,Zj,ZA,ZD,ZB,ZC,Zj]) rfl (fun _=>rfl) _ _ _ _
 rw [ZaY (by rfl) ZDZ,<-h2]
 simp -implicitDefEqProofs only [EQA,Zm,Zr,Zq,Zn,Zs,Zo,Zp,ZJ,ZN,ZO,ZL,ZI,ZP,ZK,ZH,ZQ,implies_true,forall_const,Xk,Xm,Xo,Xf,Xg,Xl,Xn,ZF,ZG,unA,Zx,Zz,unG,reduceCtorEq,Zl,decide_eq_true_eq,Xh,Xd,ite_self,↓reduceIte,Zw,ZE,gcT,gcA,Zh,Zf,Zc,Ze,Zt,Zb,Zi,Zd,Zu,Xj,ZFM,Zm5,ZyQ,Zj,ZA,ZD,ZB,ZC,ZV,hC]
theorem ZrG (σ:Za) (sq own:Nat) (view:Bool) (s:List UInt8) (hl:s.length<=9223372036854775807):ZX E BY σ sq 45 own view [.str s,.str [43,35]]=some (.bool (Zbb s),σ,{}) :=
 Zcc (ZFn s hl) (by kernel_rfl) (by simp -implicitDefEqProofs only [Za7,Za3,Zm,Zr,Zq,Za4,Zn,Zs,Zo,Za2,Zp,eq_self,implies_true,Xi,Zj,ZA,ZD,ZB,ZC,Zj]) (by simp -implicitDefEqProofs only [Za7,Za3,Zm,Zr,Zq,Za4,Zn,Zs,Zo,Za2,Zp,eq_self,implies_true,Xi,Zj,ZA,ZD,ZB,ZC,Zj]) rfl (fun _=>rfl) _ _ _ _
def Zdx (s:List UInt8):Bool:=decide (1<=s.length) && decide (s.length<=64) && ZdW s
theorem Zto (s:List UInt8):(decide ((s.length:Int)>=1) && decide ((s.length:Int)<=64) && ZdW s)=Zdx s:=by
 unfold Zdx
 congr 2
 ·congr 1;rw [eq_iff_iff];omega
 ·congr 1;rw [eq_iff_iff];omega
theorem ZsF {s:List UInt8} (h:Zdx s=true):s.length<=64:=by
 simp only [Zdx,Bool.and_eq_true,decide_eq_true_eq] at h;exact h.1.2
theorem Zs5 (s:List UInt8):E 46 [.str s] []=some (.bool (Zdx s),[]):=by
 rw [ZaY (by rfl) ZGm,<-Zto]
 by_cases h1:(s.length:Int)>=1 <;> by_cases h2:(s.length:Int)<=64
 all_goals simp -implicitDefEqProofs only [EQA,Zm,Zr,Zq,Zn,Zs,Zo,Zp,ZJ,ZN,ZO,ZL,ZI,ZP,ZK,ZH,ZQ,implies_true,forall_const,Xk,Xm,Xo,Xf,Xg,Xl,Xn,ZF,ZG,unA,Zx,Zz,unG,reduceCtorEq,Zl,decide_eq_true_eq,Xh,Xd,ite_self,↓reduceIte,Zw,ZE,gcT,gcA,Zh,Zf,Zc,Ze,Zt,Zb,Zi,Zd,Zu,Xj,Zt7,Zll,Zs0,Zj,ZA,ZD,ZB,ZC,ZV,h1,h2,Zzk]
theorem ZnS (σ:Za) (sq own:Nat) (view:Bool) (s:List UInt8):ZX E BY σ sq 46 own view [.str s]=some (.bool (Zdx s),σ,{}) :=
 Zcc (Zs5 s) (by kernel_rfl) (by simp -implicitDefEqProofs only [Za7,Za3,Zm,Zr,Zq,Za4,Zn,Zs,Zo,Za2,Zp,eq_self,implies_true,Xi,Zj,ZA,ZD,ZB,ZC,Zj]) (by simp -implicitDefEqProofs only [Za7,Za3,Zm,Zr,Zq,Za4,Zn,Zs,Zo,Za2,Zp,eq_self,implies_true,Xi,Zj,ZA,ZD,ZB,ZC,Zj]) rfl (fun _=>rfl) _ _ _ _
def Zcy (s:List UInt8):Bool:=Zdx s && !Zbb s
theorem Ztz (s:List UInt8):E 33 [.str s] []=some (.bool (Zcy s),[]):=by
 rw [ZaY (by rfl) Zuo]
 unfold Zcy
 cases h:Zdx s
 ·simp -implicitDefEqProofs only [EQA,Zm,Zr,Zq,Zn,Zs,Zo,Zp,ZJ,ZN,ZO,ZL,ZI,ZP,ZK,ZH,ZQ,implies_true,forall_const,Xk,Xm,Xo,Xf,Xg,Xl,Xn,ZF,ZG,unA,Zx,Zz,unG,reduceCtorEq,Zl,decide_eq_true_eq,Xh,Xd,ite_self,↓reduceIte,Zw,ZE,gcT,gcA,Zh,Zf,Zc,Ze,Zt,Zb,Zi,Zd,Zu,Xj,Zqt,Zkg,Zo6,Zj,ZA,ZD,ZB,ZC,ZV,h,ZnS]
 ·have hC:=fun σ sq own view=>ZrG σ sq own view s (by have:=ZsF h;omega)
  simp -implicitDefEqProofs only [EQA,Zm,Zr,Zq,Zn,Zs,Zo,Zp,ZJ,ZN,ZO,ZL,ZI,ZP,ZK,ZH,ZQ,implies_true,forall_const,Xk,Xm,Xo,Xf,Xg,Xl,Xn,ZF,ZG,unA,Zx,Zz,unG,reduceCtorEq,Zl,decide_eq_true_eq,Xh,Xd,ite_self,↓reduceIte,Zw,ZE,gcT,gcA,Zh,Zf,Zc,Ze,Zt,Zb,Zi,Zd,Zu,Xj,Zqt,Zkg,Zo6,Zj,ZA,ZD,ZB,ZC,ZV,h,ZnS,hC]
theorem Zlp (σ:Za) (sq own:Nat) (view:Bool) (s:List UInt8):ZX E BY σ sq 33 own view [.str s]=some (.bool (Zcy s),σ,{}) :=
 Zcc (Ztz s) (by kernel_rfl) (by simp -implicitDefEqProofs only [Za7,Za3,Zm,Zr,Zq,Za4,Zn,Zs,Zo,Za2,Zp,eq_self,implies_true,Xi,Zj,ZA,ZD,ZB,ZC,Zj]) (by simp -implicitDefEqProofs only [Za7,Za3,Zm,Zr,Zq,Za4,Zn,Zs,Zo,Za2,Zp,eq_self,implies_true,Xi,Zj,ZA,ZD,ZB,ZC,Zj]) rfl (fun _=>rfl) _ _ _ _
end
section
section
variable {σ:Za} {t:Nat} {M:List (List UInt8×Int)}
end
end
section
abbrev Tx:=List UInt8
abbrev TN:=List (Tx×Int)×List (Tx×Nat)
section
variable {α:Type}
def ZS (n:Tx):List (Tx×α)->Option α
 | []=>none
 | p::r=>if n=p.1 then some p.2 else ZS n r
def Zbl (n:Tx) (v:α):List (Tx×α)->List (Tx×α)
 | []=>[(n,v)]
 | p::r=>if n=p.1 then (n,v)::r else p::Zbl n v r
def ZaZ (n:Tx):List (Tx×α)->List (Tx×α)
 | []=>[]
 | p::r=>if n=p.1 then r else p::ZaZ n r
theorem ZlP (a b:Tx):Zc5 (.str a) (.str b)=some (decide (a=b)):=by
 show some (a == b)=_
 congr 1
 rw [Xau];simp
theorem ZlL (f:α->AVal) (n:Tx):∀ (M:List (Tx×α)) (i:Nat),(ZS n M=none/\Zcq (.str n) (M.map fun p=>(AVal.str p.1,f p.2)) i=some none)\/∃ j u,ZS n M=some u/\Zcq (.str n) (M.map fun p=>(AVal.str p.1,f p.2)) i=some (some (i+j,f u))
 | [],i=>Xw ⟨rfl,rfl⟩
 | p::M,i=>by
  simp only [XI,Zcq,ZlP,ZS]
  by_cases h:n=p.1
  ·exact XD ⟨0,p.2,by simp [h],by simp [h]⟩
  ·simp only [h,decide_false,if_false]
   rcases ZlL f n M (i+1) with ⟨g1,g2⟩ | ⟨j,u,g1,g2⟩
   ·exact Xw ⟨g1,g2⟩
   ·exact XD ⟨j+1,u,g1,by rw [g2];congr 3;omega⟩
theorem ZlE {β:Type} (f:α->β) (n:Tx) (v:α):∀ M:List (Tx×α),ZeB (.str n) (f v) (M.map fun p=>(AVal.str p.1,f p.2))=some ((Zbl n v M).map fun p=>(AVal.str p.1,f p.2))
 | []=>rfl
 | p::M=>by
  simp only [XI,ZeB,ZlP,Zbl]
  by_cases h:n=p.1
  ·simp [h]
  ·simp [h,ZlE f n v M]
theorem Zle {β:Type} (f:α->β) (n:Tx):∀ M:List (Tx×α),ZeG (.str n) (M.map fun p=>(AVal.str p.1,f p.2))=some ((ZaZ n M).map fun p=>(AVal.str p.1,f p.2))
 | []=>rfl
 | p::M=>by
  simp only [XI,ZeG,ZlP,ZaZ]
  by_cases h:n=p.1
  ·simp [h]
  ·simp [h,Zle f n M]
end
theorem Z5 (n:Nat):(1000<=1000+3*n)=True:=by simp
theorem Z4 (i:Nat):(1000<=1001+(3*i+1))=True:=by simp;omega
theorem Z3 (i:Nat):(1000<=1001+(3*i+2))=True:=by simp;omega
theorem Z2 (i:Nat):(1000<=1001+3*i)=True:=by simp;omega
def eV (M:List (Tx×Int)):List (AVal×AVal):=M.map fun p=>(AVal.str p.1,AVal.int .i64 p.2)
def eX (X:List (Tx×Nat)):List (AVal×Nat):=X.map fun p=>(AVal.str p.1,p.2)
def eN (d:TN):List (AVal×AVal)×List (AVal×Nat):=(eV d.1,eX d.2)
def eNs (ns:List TN):Zad:=ns.map eN
theorem ZbF {ns:List TN} {j:Nat} {d:TN} (h:ns[j]?=some d):(eNs ns)[j]?=some (eN d):=by unfold eNs;rw [List.getElem?_map,h];rfl
theorem ZfK (ns:List TN):(eNs ns).length=ns.length:=by simp [eNs]
theorem ZiW (ns:List TN) (j:Nat) (d:TN):(eNs ns).set j (eN d)=eNs (ns.set j d):=by simp [eNs,List.map_set]
theorem ZuB (ns:List TN):eNs ns++[([],[])]=eNs (ns++[([],[])]):=by simp [eNs,eN,eV,eX]
theorem ZuD (t:Nat) (d:TN):ZbS t (eN d) false=d.1.map fun p=>(AVal.str p.1,AVal.int .i64 p.2):=rfl
theorem Zxi (t:Nat) (d:TN):ZbS t (eN d) true=d.2.map fun p=>(AVal.str p.1,AVal.nref t p.2 0):=by
 simp [ZbS,eN,eX,Wm,Function.comp_def]
theorem Zxk {σ:Za} {t:Nat} {ns:Zad} (h:σ[t]?=some (.arena ns)):Zar σ t=some ns:=by unfold Zar;rw [h]
section
variable {σ:Za} {t j:Nat} {ns:List TN} {d:TN}
theorem Zoa (hs:Zar σ t=some (eNs ns)) (hj:ns[j]?=some d) (n:Tx):ZcM σ 2 (.int .i64 0) true (.mapg t j false) (.str n)=some (.tup [.int .i64 ((ZS n d.1).getD 0),.bool (ZS n d.1).isSome],σ,{ rd:=[t] }):=by
 unfold ZcM
 rw [if_pos (show Zaj (AVal.str n)=2 from rfl)]
 simp only [hs,ZbF hj,ZuD]
 rcases ZlL (AVal.int .i64) n d.1 0 with ⟨g1,g2⟩ | ⟨i,u,g1,g2⟩
 ·simp only [g2,g1];rfl
 ·simp only [g2,g1];rfl
def nxV (t:Nat):Option Nat->AVal
 | some i=>.nref t i 0
 | none=>.nilp
theorem Ze0 (hs:Zar σ t=some (eNs ns)) (hj:ns[j]?=some d) (n:Tx):ZcM σ 2 .nilp false (.mapg t j true) (.str n)=some (nxV t (ZS n d.2),σ,{ rd:=[t] }):=by
 unfold ZcM
 rw [if_pos (show Zaj (AVal.str n)=2 from rfl)]
 simp only [hs,ZbF hj,Zxi]
 rcases ZlL (fun i=>AVal.nref t i 0) n d.2 0 with ⟨g1,g2⟩ | ⟨i,u,g1,g2⟩
 ·simp only [g2,g1];rfl
 ·simp only [g2,g1];rfl
theorem ZDl (hs:σ[t]?=some (.arena (eNs ns))) (hj:ns[j]?=some d) (n:Tx) (v:Int):ZeT σ 2 (.mapg t j false) (.str n) (.int .i64 v)=some (.tup [],σ.set t (.arena (eNs (ns.set j (Zbl n v d.1,d.2)))),{ wr:=[t] }):=by
 unfold ZeT
 rw [if_pos ⟨rfl,rfl,rfl⟩]
 have h1:ZeB (.str n) (AVal.int .i64 v) (eN d).1=some (eV (Zbl n v d.1)):=ZlE (AVal.int .i64) n v d.1
 simp only [hs,ZbF hj,Xi,if_false,show ZaN (AVal.int .i64 v)=true from rfl,if_true,h1]
 rw [show (eV (Zbl n v d.1),(eN d).2)=eN (Zbl n v d.1,d.2) from rfl,ZiW]
theorem ZFj {s:Nat} (hs:σ[t]?=some (.arena (eNs ns))) (hj:ns[j]?=some d) (hs':σ[s]?=some (.arena [([],[])])) (hst:s≠t) (n:Tx):ZeT σ 2 (.mapg t j true) (.str n) (.nref s 0 0)=some (.tup [],(σ.set s (.dead 3)).set t (.arena (eNs (ns.set j (d.1,Zbl n ns.length d.2)++[([],[])]))),{ wr:=[t],any:=true }):=by
 unfold ZeT
 rw [if_pos ⟨rfl,rfl,rfl⟩]
 have h1:ZeB (.str n) ns.length (eN d).2=some (eX (Zbl n ns.length d.2)):=ZlE (fun i=>i) n ns.length d.2
 simp only [hs,ZbF hj,if_true,if_neg hst,hs',ZfK,h1]
 rw [show ((eN d).1,eX (Zbl n ns.length d.2))=eN (d.1,Zbl n ns.length d.2) from rfl,ZiW,ZuB]
theorem ZCg (hs:σ[t]?=some (.arena (eNs ns))) (hj:ns[j]?=some d) (n:Tx):Zed σ 2 (.mapg t j false) (.str n)=some (.tup [],σ.set t (.arena (eNs (ns.set j (ZaZ n d.1,d.2)))),{ wr:=[t] }):=by
 unfold Zed
 rw [if_pos (show Zaj (AVal.str n)=2 from rfl)]
 have h1:ZeG (.str n) (eN d).1=some (eV (ZaZ n d.1)):=Zle (AVal.int .i64) n d.1
 simp only [hs,ZbF hj,Xi,if_false,h1]
 rw [show (eV (ZaZ n d.1),(eN d).2)=eN (ZaZ n d.1,d.2) from rfl,ZiW]
theorem Zx7 (hs:σ[t]?=some (.arena (eNs ns))) (hj:ns[j]?=some d) (n:Tx):Zed σ 2 (.mapg t j true) (.str n)=some (.tup [],σ.set t (.arena (eNs (ns.set j (d.1,ZaZ n d.2)))),{ wr:=[t] }):=by
 unfold Zed
 rw [if_pos (show Zaj (AVal.str n)=2 from rfl)]
 have h1:ZeG (.str n) (eN d).2=some (eX (ZaZ n d.2)):=Zle (fun i=>i) n d.2
 simp only [hs,ZbF hj,if_true,h1]
 rw [show ((eN d).1,eX (ZaZ n d.2))=eN (d.1,ZaZ n d.2) from rfl,ZiW]
theorem Zth (hs:Zar σ t=some (eNs ns)) (hj:ns[j]?=some d):ZdG σ (.mapg t j false)=some (.int .i64 d.1.length,σ,{ rd:=[t] }):=by
 simp [ZdG,hs,ZbF hj,eN,eV]
theorem ZwT (hs:Zar σ t=some (eNs ns)) (hj:ns[j]?=some d):ZdG σ (.mapg t j true)=some (.int .i64 d.2.length,σ,{ rd:=[t] }):=by
 simp [ZdG,hs,ZbF hj,eN,eX]
end
def goT (ns:List TN):Nat->List Tx->Option Nat
 | j,[]=>some j
 | j,l::r=>match ns[j]? with
  | some d=>match ZS l d.2 with
   | some i=>goT ns i r
   | none=>none
  | none=>none
def Closed (ns:List TN):Prop:=∀ (j:Nat) (d:TN),ns[j]?=some d->∀ p ∈ d.2,j < p.2/\p.2 < ns.length
theorem ZpF {α:Type} {n:Tx} {v:α}:∀ {M:List (Tx×α)},ZS n M=some v->(n,v) ∈ M
 | [],h=>by cases h
 | p::M,h=>by
  simp only [ZS] at h
  split at h
  ·rename_i e;injection h with h;subst e h;simp
  ·exact We _ (ZpF h)
theorem Closed.next {ns:List TN} (h:Closed ns) {j:Nat} {d:TN} (hj:ns[j]?=some d) {n:Tx} {i:Nat} (hi:ZS n d.2=some i):j < i/\i < ns.length:=h j d hj _ (ZpF hi)
end
section
theorem ZfT {σ:Za} {m t j:Nat} {A:Zad} {ids:List Nat} (hs:σ[t]?=some (.arena A)) {i:Nat} (hi:Zt t ids 0=some i) {g:Nat} (hg:1000<=g):Zc σ m ids t g=some (i,g):=by
 have hb:1000<=Zb (.arena A):=by simp [Zb]
 unfold Zc
 simp only [hi,hs]
 rw [if_pos hb,if_pos hg]
theorem Zgx {r:AVal} (hr:Zay r=true\/∃ i,r=.nref 0 i 0) (A:Zad) (σ:Za):Zbq 1 (.arena A::σ) r=some (r,[.arena A]):=by
 have hR:Wt 1=[0]:=rfl
 have hb0:Zu (.arena A)=[]:=rfl
 have h0:(Zy.arena A::σ).getD 0 .free=.arena A:=rfl
 have hρ:∀ g,1000<=g->Zc (.arena A::σ) 1 [0] 0 g=some (0,g):=fun g hg=>ZfT (j:=0) (by rfl) (by rfl) hg
 have hre:Zv (Zc (.arena A::σ) 1 [0]) r=r:=by
  rcases hr with hr | ⟨i,rfl⟩
  ·exact (Zec _ r hr).1
  ·simp only [Zv,hρ (1001+3*i) (by omega),if_true]
 have hi:Zh 1 [r] (.arena A::σ)=[0]:=by
  rcases hr with hr | ⟨i,rfl⟩
  ·simp only [Zh,ZZ,(Zec (fun _ _=>none) r hr).2,XE,hR,XT,Wu,XU,h0,hb0]
   rfl
  ·simp only [Zh,ZZ,Zav,hR,XT,Wu,XU,h0,hb0]
   rfl
 simp only [Zbq,gcA,hi,Ze,ZW,hre,h0,Zd]
theorem Zsn {view:Bool} {A:Zad} {q:AVal} (hq:Zay q=true\/∃ i,q=.nref 0 i 0) (hv:viewR [.arena A] q=some (q,[])):Zba view 1 (some (q,[.arena A]))=some (q,[.arena A]):=by
 unfold Zba
 split
 ·have hnp:∀ x,q=.pan x->False:=by rintro x rfl;simp [viewR,Zco,ZbH] at hv
  have : Zd6 1 (some (q,[.arena A]))=(match viewR [.arena A] q with
   | some (r',ts)=>match gcA 1 [r'] (ZU [.arena A] ts) with
    | ([r''],σ')=>some (r'',σ')
    | _=>none
   | none=>none):=by
   cases q <;> first | rfl | exact (hnp _ rfl).elim
  rw [this,hv]
  exact Zgx hq A []
 ·rfl
theorem Zo1 {O:Z7} {f own:Nat} {view:Bool} {args args':List AVal} {A A':Zad} {j:Nat} {q0 q r:AVal} {h0:Za} (h:O f (.nref 0 j 0::args') [.arena A]=some (q0,h0)) (hask:Zba view 1 (some (q0,h0))=some (q,[.arena A'])) (hb:BY f=false) (hp:args.all ZaD=true) (hn:args.map Zak=args')
  {σ:Za} {t sq:Nat} (hs:σ[t]?=some (.arena A)) (hlen:A.length<=A'.length) (hff:Zbe σ sq own=true) (hr:Zv (Zbg σ [t] sq) q=r) :
  ZX O BY σ sq f own view (.nref t j 0::args)=some (r,σ.set t (.arena A'),{ any:=true }):=by
 have htl:t < σ.length:=(Xc.1 hs).1
 have h1:σ.getD t .free=.arena A:=by simp [Xe,hs]
 have hsh:showAs σ (.nref t j 0::args)=some (.nref t j 0::args.map Zak,[]):=by
  rw [showAs,show showA σ (.nref t j 0)=some (.nref t j 0,[]) from rfl,ZhQ hp]
  rfl
 have href:ZZ (.nref t j 0::args.map Zak)=[t]:=by
  rw [ZZ,ZiD hp];rfl
 have hre:Zf σ 1000 (ZZ (.nref t j 0::args.map Zak)) []=[t]:=by
  rw [href]
  simp only [Zf,XB,Xi,if_false,h1,Zu,XE]
 have hρ:∀ g,1000<=g->Zc σ 0 [t] t g=some (0,g):=fun g hg=>ZfT (j:=0) hs (by simp [Zt]) hg
 have hvs:ZW (Zc σ 0 [t]) (.nref t j 0::args.map Zak)=.nref 0 j 0::args':=by
  rw [ZW,ZiG hp,hn]
  simp only [Zv,hρ (1001+3*j) (by omega),if_true]
 have hh:Ze σ 0 [t] (Zc σ 0 [t]) [t] 0=[.arena A]:=by simp only [Ze,h1,Zd]
 have hall:([t].all fun t=>okB (σ.getD t .free))=true:=by simp only [Xr,Xy,h1,okB,Wy]
 have hk:ZaW σ [t] [.arena A'] 0=true:=by simp [ZaW,okB,Zb6,Zb,hs,hlen]
 have hlay:ZaI σ [t] sq [.arena A'] 0 σ=σ.set t (.arena A'):=by simp [ZaI,Zaw,Zd]
 refine Zfg hb hsh hre rfl hall hvs hh h hask (by simp) (by simp) hk hff hr hlay ?_
 simp [ZbP,htl]
end
section
end
section
theorem ZIR:E 28 [] []=some (.nref 0 0 0,[.arena [([],[])]]):=ZcL.2 ⟨1,by rfl⟩
theorem ZwG {σ:Za} {sq:Nat} (hff:Zbe σ sq 1=true):ZX E BY σ sq 28 1 false []=some (.nref sq 0 0,σ.set sq (.arena [([],[])]),{ any:=true }):=by
 have hd:ZgM 1 (.nref 0 0 0) [.arena [([],[])]]=none:=rfl
 have hk:ZaW σ [] [.arena [([],[])]] 0=true:=rfl
 unfold ZX ZcZ
 rw [show BY 28=false from by kernel_rfl]
 simp only [Xi,if_false,show showAs σ []=some ([],[]) from rfl,show ZU σ []=σ from rfl,ZZ]
 have h2:∀ σ,Zf σ 1000 [] []=[]:=fun _=>rfl
 rw [h2]
 unfold Zb0
 simp only [Xy,if_true,ZW,Ze,XC,ZIR]
 simp only [Zba,Xi,if_false,ZaV,List.isEmpty_nil,List.isEmpty_cons,Bool.and_false,if_true,hd,XC,Xv,XM,XQ,Xbx,decide_true,hk,hff,Wy]
 simp [ZaI,Zaw,Zbg,Zd,Zv,ZbP]
theorem ZjR {α:Type} (n m:Tx) (v:α):∀ M:List (Tx×α),ZS m (Zbl n v M)=if m=n then some v else ZS m M
 | []=>rfl
 | p::M=>by
  simp only [Zbl]
  by_cases h:n=p.1
  ·rw [if_pos h]
   simp only [ZS]
   by_cases h2:m=n
   ·simp [h2]
   ·have h3:¬m=p.1:=fun e=>h2 (e.trans h.symm)
    simp [h2,h3]
  ·rw [if_neg h]
   simp only [ZS]
   by_cases h2:m=p.1
   ·have h3:¬m=n:=fun e=>h (e.symm.trans h2)
    simp [h2]
    intro e
    exact absurd e.symm h
   ·simp only [h2,if_false]
    exact ZjR n m v M
def Zap (k:Tx) (v:Int):List Tx->List TN->Nat->List TN×Bool
 | [],ns,j=>match ns[j]? with
  | some d=>(ns.set j (Zbl k v d.1,d.2),(ZS k d.1).isSome)
  | none=>(ns,false)
 | l::r,ns,j=>match ns[j]? with
  | some d=>match ZS l d.2 with
   | some i=>Zap k v r ns i
   | none=>Zap k v r (ns.set j (d.1,Zbl l ns.length d.2)++[([],[])]) ns.length
  | none=>(ns,false)
def newN (ns:List TN) (j:Nat) (d:TN) (l:Tx):List TN:=ns.set j (d.1,Zbl l ns.length d.2)++[([],[])]
theorem ZfP (ns:List TN) (j:Nat) (d:TN) (l:Tx):(newN ns j d l).length=ns.length+1:=by simp [newN]
theorem Zgv {ns:List TN} {j:Nat} (hj:j < ns.length) (d:TN) (l:Tx):(newN ns j d l)[j]?=some (d.1,Zbl l ns.length d.2):=by
 unfold newN
 rw [Wl (by simpa using hj),XV hj]
theorem Zhx (ns:List TN) (j:Nat) (d:TN) (l:Tx):(newN ns j d l)[ns.length]?=some ([],[]):=by
 unfold newN
 rw [List.getElem?_append_right (by simp)]
 simp
theorem ZhZ {ns:List TN} {j i:Nat} (d:TN) (l:Tx) (hi:i < ns.length) (hne:i≠j):(newN ns j d l)[i]?=ns[i]?:=by
 unfold newN
 rw [Wl (by simpa using hi),XF (fun e=>hne e.symm)]
theorem ZmJ {α:Type} {n:Tx} {v:α} {q:Tx×α}:∀ {M:List (Tx×α)},q ∈ Zbl n v M->q=(n,v)\/q ∈ M
 | [],h=>by simp only [Zbl,List.mem_singleton] at h;exact Xw h
 | p::M,h=>by
  simp only [Zbl] at h
  split at h
  ·rcases XH.1 h with h | h
   ·exact Xw h
   ·exact XD (We _ h)
  ·rcases XH.1 h with h | h
   ·exact XD (by rw [h];simp)
   ·rcases ZmJ h with h | h
    ·exact Xw h
    ·exact XD (We _ h)
theorem Closed.newN {ns:List TN} (hC:Closed ns) {j:Nat} {d:TN} (hd:ns[j]?=some d) (l:Tx):Closed (newN ns j d l):=by
 have hj:=(Xc.1 hd).1
 intro i d' hi p hp
 rw [ZfP]
 by_cases h1:i=j
 ·subst h1
  rw [Zgv hj] at hi
  injection hi with hi
  subst hi
  rcases ZmJ hp with rfl | hp
  ·exact ⟨hj,Nat.lt_succ_self _⟩
  ·have:=hC i d hd p hp;omega
 ·by_cases h2:i < ns.length
  ·rw [ZhZ d l h2 h1] at hi
   have:=hC i d' hi p hp;omega
  ·have h3:i=ns.length:=by
    have:=(Xc.1 hi).1
    rw [ZfP] at this;omega
   subst h3
   rw [Zhx] at hi
   injection hi with hi
   subst hi
   cases hp
theorem Closed.vals {ns:List TN} (hC:Closed ns) {j:Nat} {d:TN} (hd:ns[j]?=some d) (M:List (Tx×Int)):Closed (ns.set j (M,d.2)):=by
 have hj:=(Xc.1 hd).1
 intro i d' hi p hp
 rw [Ww]
 rw [Xt] at hi
 by_cases e:j=i
 ·subst e
  rw [if_pos rfl,if_pos hj] at hi
  injection hi with hi
  subst hi
  exact hC _ d hd p hp
 ·rw [if_neg e] at hi
  exact hC i d' hi p hp
theorem ZlA (k:Tx) (v:Int) (ls:List Tx) (hl:ls.length<=2000000):∀ (r:List Tx) (i j:Nat) (ns:List TN),Closed ns->ls.drop i=r->j < ns.length ->
  Zh7 1 [(15,.int .i64 (i:Int)),(14,.int .i64 (ls.length:Int)),(13,.lst false (ls.map AVal.str)),(3,.int .i64 v),(2,.str k),(0,.nref 0 j 0)] [.arena (eNs ns)]=some (.bool (Zap k v r ns j).2,[.arena (eNs (Zap k v r ns j).1)])
 | [],i,j,ns,hC,h,hj=>by
  have h1:=Zgw h
  have h2:¬((i:Int) < ls.length):=by omega
  obtain ⟨d,hd⟩:∃ d,ns[j]?=some d:=⟨_,Xu hj⟩
  have hs:Zar [.arena (eNs ns)] 0=some (eNs ns):=rfl
  have q1:=ZbF hd
  have q2:=Zoa hs hd k
  have q3:=ZDl (σ:=[.arena (eNs ns)]) (t:=0) rfl hd k v
  have e0:Zap k v [] ns j=(ns.set j (Zbl k v d.1,d.2),(ZS k d.1).isSome):=by simp only [Zap,hd]
  rw [e0]
  have ho:=fun σ=>Zgx (r:=.bool (ZS k d.1).isSome) (Xw rfl) (eNs (ns.set j (Zbl k v d.1,d.2))) σ
  unfold Zh7
  simp only [X5] at q3 ⊢
  generalize ls.map AVal.str=S at *
  generalize eNs (ns.set j (Zbl k v d.1,d.2))=B at *
  generalize eN d=D at *
  generalize eNs ns=A at *
  generalize (ZS k d.1).isSome=b at *
  rw [Zbn]
  simp -implicitDefEqProofs only [EQA,Zm,Zr,Zq,Zn,Zs,Zo,Zp,ZJ,ZN,ZO,ZL,ZI,ZP,ZK,ZH,ZQ,implies_true,forall_const,Xk,Xm,Xo,Xf,Xg,Xl,Xn,ZF,ZG,unA,Zx,Zz,unG,reduceCtorEq,Zl,decide_eq_true_eq,Xh,Xd,ite_self,↓reduceIte,Zw,ZE,gcT,gcA,Zh,Zf,Zc,Ze,Zt,Zb,Zi,Zd,Zu,Xj,Zi5,ZgF,Zks,ZlK,Zis,Znt,ZhG,Zj,ZA,ZD,ZB,ZC,ZV,h1,h2,hs,q1,q2,q3,ho,Z5,Z2,Z4,Z3,AVal.cells]
 | l::r,i,j,ns,hC,h,hj=>by
  obtain ⟨g1,d1,l1⟩:=ZdU h
  have h1:(i:Int) < ls.length:=by omega
  have hm:(ls.map AVal.str).length=ls.length:=by simp
  have e1:=iad g1 AVal.str (k:=1) rfl
  have e3:=Zfi h1 (by omega)
  obtain ⟨d,hd⟩:∃ d,ns[j]?=some d:=⟨_,Xu hj⟩
  have hs:Zar [.arena (eNs ns)] 0=some (eNs ns):=rfl
  have q1:=ZbF hd
  have q2:=Ze0 hs hd l
  have hcell:(AVal.str l).cells=[.str l]:=rfl
  rw [hcell] at e1
  cases hk:ZS l d.2 with
  | some i' =>
   have hc:=hC.next hd hk
   have e0:Zap k v (l::r) ns j=Zap k v r ns i':=by simp only [Zap,hd,hk]
   rw [e0]
   rw [hk] at q2
   have ih:=ZlA k v ls hl r (i+1) i' ns hC d1 hc.2
   unfold Zh7 at *
   simp only [nxV] at q2
   generalize ls.map AVal.str=S at *
   generalize eNs (Zap k v r ns i').1=W1 at *
   generalize (Zap k v r ns i').2=W2 at *
   generalize eN d=D at *
   generalize eNs ns=A at *
   rw [Zbn]
   simp -implicitDefEqProofs only [EQA,Zm,Zr,Zq,Zn,Zs,Zo,Zp,ZJ,ZN,ZO,ZL,ZI,ZP,ZK,ZH,ZQ,implies_true,forall_const,Xk,Xm,Xo,Xf,Xg,Xl,Xn,ZF,ZG,unA,Zx,Zz,unG,reduceCtorEq,Zl,decide_eq_true_eq,Xh,Xd,ite_self,↓reduceIte,Zw,ZE,gcT,gcA,Zh,Zf,Zc,Ze,Zt,Zb,Zi,Zd,Zu,Xj,Zi5,ZgF,Zks,ZlK,Zis,Znt,ZhG,Zj,ZA,ZD,ZB,ZC,ZV,h1,hm,e1,e3,hs,q1,q2,Z5,Z2,Z4,Z3,AVal.cells]
   exact ih
  | none =>
   have e0:Zap k v (l::r) ns j=Zap k v r (newN ns j d l) ns.length:=by simp only [Zap,hd,hk,newN]
   rw [e0]
   rw [hk] at q2
   have hC':=hC.newN hd l
   have ih:=ZlA k v ls hl r (i+1) ns.length (newN ns j d l) hC' d1 (by rw [ZfP];omega)
   have q3:=ZFj (σ:=[.arena (eNs ns),.arena [([],[])]]) (t:=0) (s:=1) rfl hd rfl (by decide) l
   have hs2:∀ σ,Zar (.arena (eNs (newN ns j d l))::σ) 0=some (eNs (newN ns j d l)):=fun _=>rfl
   have q4:=fun σ=>Ze0 (hs2 σ) (Zgv hj d l) l
   have q5:=ZbF (Zgv hj d l)
   simp only [ZjR,if_true,nxV] at q2 q4
   have hm2:=fun {σ:Za} {sq:Nat} h=>ZwG (σ:=σ) (sq:=sq) h
   have hs0:∀ σ,Zar (.arena (eNs ns)::σ) 0=some (eNs ns):=fun _=>rfl
   rw [show ns.set j (d.1,Zbl l ns.length d.2)++[([],[])]=newN ns j d l from rfl] at q3
   simp only [X5,List.set_cons_succ] at q3
   unfold Zh7 at *
   generalize ls.map AVal.str=S at *
   generalize eNs (Zap k v r (newN ns j d l) ns.length).1=W1 at *
   generalize (Zap k v r (newN ns j d l) ns.length).2=W2 at *
   generalize eN (d.1,Zbl l ns.length d.2)=D2 at *
   generalize eNs (newN ns j d l)=A2 at *
   generalize eN d=D at *
   generalize eNs ns=A at *
   rw [Zbn]
   simp -implicitDefEqProofs only [EQA,Zm,Zr,Zq,Zn,Zs,Zo,Zp,ZJ,ZN,ZO,ZL,ZI,ZP,ZK,ZH,ZQ,implies_true,forall_const,Xk,Xm,Xo,Xf,Xg,Xl,Xn,ZF,ZG,unA,Zx,Zz,unG,reduceCtorEq,Zl,decide_eq_true_eq,Xh,Xd,ite_self,↓reduceIte,Zw,ZE,gcT,gcA,Zh,Zf,Zc,Ze,Zt,Zb,Zi,Zd,Zu,Xj,Zi5,ZgF,Zks,ZlK,Zis,Znt,ZhG,Zj,ZA,ZD,ZB,ZC,ZV,h1,hm,e1,e3,hs,hs0,hs2,q1,q2,q3,q4,q5,hm2,Zbe,Z5,Z2,Z4,Z3,AVal.cells,Za0,ZaX,Zbd,ZaG,XX,X6,Xr,Xy,Xv,XC,Za5,Za8,Za9,Za1,Za6,Xs,Xx,Zai,Zan,Zas,ZaF,ZaO,ZaM,ZaT,ZaU,Zax,ZaR,XN,XW,Xr,Xy,XB]
   exact ih
theorem ZtV (ns:List TN) (hC:Closed ns) (ls:List Tx) (hl:ls.length<=2000000) (j:Nat) (hj:j < ns.length) (k:Tx) (v:Int) :
  E 30 [.nref 0 j 0,.lst false (ls.map AVal.str),.str k,.int .i64 v] [.arena (eNs ns)]=some (.bool (Zap k v ls ns j).2,[.arena (eNs (Zap k v ls ns j).1)]):=by
 have h:=ZlA k v ls hl ls 0 j ns hC rfl hj
 have hm:(ls.map AVal.str).length=ls.length:=by simp
 have z0:((0:Nat):Int)=0:=rfl
 rw [z0] at h
 unfold Zh7 at h
 generalize eNs (Zap k v ls ns j).1=W1 at *
 generalize (Zap k v ls ns j).2=W2 at *
 generalize ls.map AVal.str=S at *
 generalize eNs ns=A at *
 rw [ZaY (by rfl) ZyB]
 simp -implicitDefEqProofs only [EQA,Zm,Zr,Zq,Zn,Zs,Zo,Zp,ZJ,ZN,ZO,ZL,ZI,ZP,ZK,ZH,ZQ,implies_true,forall_const,Xk,Xm,Xo,Xf,Xg,Xl,Xn,ZF,ZG,unA,Zx,Zz,unG,reduceCtorEq,Zl,decide_eq_true_eq,Xh,Xd,ite_self,↓reduceIte,Zw,ZE,gcT,gcA,Zh,Zf,Zc,Ze,Zt,Zb,Zi,Zd,Zu,Xj,Zi5,ZgF,Zks,hm,Z5,Z2,Z4,Z3,AVal.cells]
 exact h
theorem Zjq (k:Tx) (v:Int):∀ (r:List Tx) (ns:List TN) (j:Nat),ns.length<=(Zap k v r ns j).1.length
 | [],ns,j=>by
  simp only [Zap]
  split <;> simp
 | l::r,ns,j=>by
  simp only [Zap]
  split
  ·rename_i d hd
   split
   ·exact Zjq k v r ns _
   ·have:=Zjq k v r (newN ns j d l) ns.length
    rw [ZfP] at this
    exact Nat.le_trans (Nat.le_succ _) this
  ·exact XQ _
end
section
def Zdh:Zg:=(.seq (.region [oI 6 (.mov (.c (.bool true)))] none [6]) .ret)
def ZlI:Zg:=Zdh
def ZdB:=xw ZlI Zdh rfl
def Zdg:Zg:=(.seq (.seq (.region [oM 138 15,oM 139 13,oI 140 (.len (.t 139)),oI 141 (.bin .lss (.t 138) (.t 140))] none [141,15,14,13]) (.cond (.t 141) .skip (.exit 8))) (.seq (.block 9 (.seq (.region [oM 144 13,oM 145 15,oI 146 (.iaddr 3 (.t 144) (.t 145)),oI 147 (.ld (some 3) (.t 146)),oM 148 14,oM 149 15,oI 150 (.iaddr 3 (.t 148) (.t 149)),oI 151 (.ld (some 3) (.t 150)),oI 152 (.eqv true [2,2,0] (.t 147) (.t 151))] (some [(2,6),(3,6),(2,7),(3,7)]) [152,15,14,13]) (.cond (.t 152) (.seq (.region [oI 6 (.mov (.c (.bool false)))] none [6]) .ret) .skip))) (.region [oM 142 15,oI 143 (.bin .add (.t 142) (.c (.int .i64 1))),oM 15 143] none [15,14,13])))
def ZlD:Zg:=Zdg
def Zdw:=xw ZlD Zdg rfl
def Zc1:Zg:=(.seq (.region [oM 120 7,oM 121 1,oI 122 (.call 11 0 true [(.t 120),(.t 121)]),oM 123 8,oM 124 1,oI 125 (.call 11 0 true [(.t 123),(.t 124)]),oM 13 122,oM 14 125] none [14,13,8,7]) (.seq (.seq (.region [oM 126 13,oI 127 (.len (.t 126)),oM 128 14,oI 129 (.len (.t 128)),oI 130 (.bin .neq (.t 127) (.t 129)),oM 131 130,⟨(some 132),(.mov (.t 7)),(some (131,false)),[]⟩,⟨(some 133),(.call 12 0 true [(.t 132)]),(some (131,false)),[]⟩,⟨(some 134),(.mov (.t 8)),(some (131,false)),[]⟩,⟨(some 135),(.call 12 0 true [(.t 134)]),(some (131,false)),[]⟩,⟨(some 136),(.bin .neq (.t 133) (.t 135)),(some (131,false)),[]⟩,oI 137 (.pick (.t 131) (.c (.bool true)) (.t 136))] none [137,14,13]) (.cond (.t 137) (.seq (.region [oI 6 (.mov (.c (.bool false)))] none [6]) .ret) .skip)) (.seq (.seq (.region [oI 15 (.mov (.c (.int .i64 0)))] none [15,14,13]) (.block 8 (.loop [15,14,13] ZlD))) ZlI)))
def ZnI:Zg:=Zc1
def ZdO:=xw ZnI Zc1 rfl
def Zc9:Zg:=(.seq (.seq (.region [oM 100 12,oM 101 2,oI 102 (.len (.t 101)),oI 103 (.bin .lss (.t 100) (.t 102))] none [103,12,8,7,2,1]) (.cond (.t 103) .skip (.exit 6))) (.seq (.block 7 (.seq (.region [oM 106 8,oM 107 2,oM 108 12,oI 109 (.iaddr 4 (.t 107) (.t 108)),oF 110 2 109,oL 111 110,oI 112 (.call 10 0 true [(.t 106),(.t 111),(.c (.str [111,100,100,32,111,110,101]))])] none [12,8,7,2,1]) (.region [oM 113 7,oM 114 2,oM 115 12,oI 116 (.iaddr 4 (.t 114) (.t 115)),oF 117 2 116,oL 118 117,oI 119 (.call 10 0 true [(.t 113),(.t 118),(.c (.str [111,100,100,32,111,110,101]))])] none [12,8,7,2,1]))) (.region [oM 104 12,oI 105 (.bin .add (.t 104) (.c (.int .i64 1))),oM 12 105] none [12,8,7,2,1])))
def ZkI:Zg:=Zc9
def Zdu:=xw ZkI Zc9 rfl
def Zc8:Zg:=(.seq (.seq (.region [oI 12 (.mov (.c (.int .i64 0)))] none [12,8,7,2,1]) (.block 6 (.loop [12,8,7,2,1] ZkI))) ZnI)
def Zm6:Zg:=Zc8
def ZdN:=xw Zm6 Zc8 rfl
def Zdi:Zg:=(.seq (.seq (.region [oM 78 11,oI 79 (.bin .geq (.t 78) (.c (.int .i64 0)))] none [79,11,8,7,2,1,0]) (.cond (.t 79) .skip (.exit 4))) (.seq (.block 5 (.region [oM 82 8,oM 83 0,oM 84 11,oI 85 (.iaddr 4 (.t 83) (.t 84)),oF 86 2 85,oL 87 86,oM 88 0,oM 89 11,oI 90 (.iaddr 4 (.t 88) (.t 89)),oF 91 3 90,oL 92 91,oM 93 0,oM 94 11,oI 95 (.iaddr 4 (.t 93) (.t 94)),oF 96 2 95,oL 97 96,oI 98 (.slen (.t 97)),oI 99 (.call 9 0 true [(.t 82),(.t 87),(.t 92),(.t 98)])] (some [(3,8),(5,8),(3,10),(5,10),(3,13),(5,13),(8,13),(10,13),(3,15),(5,15),(8,15),(10,15),(17,17)]) [11,8,7,2,1,0])) (.region [oM 80 11,oI 81 (.bin .sub (.t 80) (.c (.int .i64 1))),oM 11 81] none [11,8,7,2,1,0])))
def Zmx:Zg:=Zdi
def ZdD:=xw Zmx Zdi rfl
def Zc3:Zg:=(.seq (.seq (.region [oM 75 0,oI 76 (.len (.t 75)),oI 77 (.bin .sub (.t 76) (.c (.int .i64 1))),oM 11 77] none [11,8,7,2,1,0]) (.block 4 (.loop [11,8,7,2,1,0] Zmx))) Zm6)
def Znn:Zg:=Zc3
def ZdP:=xw Znn Zc3 rfl
def Zc7:Zg:=(.seq (.seq (.region [oM 62 10,oM 63 2,oI 64 (.len (.t 63)),oI 65 (.bin .lss (.t 62) (.t 64))] none [65,10,8,7,2,1,0]) (.cond (.t 65) .skip (.exit 2))) (.seq (.block 3 (.region [oM 68 8,oM 69 2,oM 70 10,oI 71 (.iaddr 4 (.t 69) (.t 70)),oF 72 2 71,oL 73 72,oI 74 (.call 9 0 true [(.t 68),(.t 73),(.c (.str [111,100,100,32,111,110,101])),(.c (.int .i64 1))])] none [10,8,7,2,1,0])) (.region [oM 66 10,oI 67 (.bin .add (.t 66) (.c (.int .i64 1))),oM 10 67] none [10,8,7,2,1,0])))
def Zm4:Zg:=Zc7
def ZdL:=xw Zm4 Zc7 rfl
def Zdc:Zg:=(.seq (.seq (.region [oI 10 (.mov (.c (.int .i64 0)))] none [10,8,7,2,1,0]) (.block 2 (.loop [10,8,7,2,1,0] Zm4))) Znn)
def Zmt:Zg:=Zdc
def ZdK:=xw Zmt Zdc rfl
def Zc2:Zg:=(.seq (.seq (.region [oM 38 9,oM 39 0,oI 40 (.len (.t 39)),oI 41 (.bin .lss (.t 38) (.t 40))] none [41,9,8,7,2,1,0]) (.cond (.t 41) .skip (.exit 0))) (.seq (.block 1 (.region [oM 44 7,oM 45 0,oM 46 9,oI 47 (.iaddr 4 (.t 45) (.t 46)),oF 48 2 47,oL 49 48,oM 50 0,oM 51 9,oI 52 (.iaddr 4 (.t 50) (.t 51)),oF 53 3 52,oL 54 53,oM 55 0,oM 56 9,oI 57 (.iaddr 4 (.t 55) (.t 56)),oF 58 2 57,oL 59 58,oI 60 (.slen (.t 59)),oI 61 (.call 9 0 true [(.t 44),(.t 49),(.t 54),(.t 60)])] (some [(3,8),(5,8),(3,10),(5,10),(3,13),(5,13),(8,13),(10,13),(3,15),(5,15),(8,15),(10,15),(17,17)]) [9,8,7,2,1,0])) (.region [oM 42 9,oI 43 (.bin .add (.t 42) (.c (.int .i64 1))),oM 9 43] none [9,8,7,2,1,0])))
def Zlo:Zg:=Zc2
def ZdH:=xw Zlo Zc2 rfl
def Zcs:Zg:=(.seq (.region [oI 6 (.mov (.c (.bool false)))] none [2,1,0]) (.seq (.region [oI 16 (.call 7 2 false []),oI 17 (.call 7 2 false []),oM 7 16,oM 8 17] none [8,7,2,1,0]) (.seq (.seq (.region [oM 18 7,oI 19 (.peq false (.t 18) (.c .nilp)),oM 20 19,⟨(some 21),(.mov (.t 8)),(some (20,false)),[]⟩,⟨(some 22),(.peq false (.t 21) (.c .nilp)),(some (20,false)),[]⟩,oI 23 (.pick (.t 20) (.c (.bool true)) (.t 22)),oM 24 23,⟨(some 25),(.call 8 0 true []),(some (24,false)),[]⟩,⟨(some 26),(.un .not (.t 25)),(some (24,false)),[]⟩,oI 27 (.pick (.t 24) (.c (.bool true)) (.t 26))] none [27,8,7,2,1,0]) (.cond (.t 27) (.seq (.region [oI 6 (.mov (.c (.bool false)))] none [6]) .ret) .skip)) (.seq (.seq (.region [oM 28 0,oI 29 (.len (.t 28)),oI 30 (.bin .gtr (.t 29) (.c (.int .i64 40)))] none [30,8,7,2,1,0]) (.cond (.t 30) (.region [oM 31 0,oI 32 (.slice 4 (.t 31) none (some (.c (.int .i64 40))) none),oM 0 32] none [8,7,2,1,0]) .skip)) (.seq (.seq (.region [oM 33 2,oI 34 (.len (.t 33)),oI 35 (.bin .gtr (.t 34) (.c (.int .i64 20)))] none [35,8,7,2,1,0]) (.cond (.t 35) (.region [oM 36 2,oI 37 (.slice 4 (.t 36) none (some (.c (.int .i64 20))) none),oM 2 37] none [8,7,2,1,0]) .skip)) (.seq (.seq (.region [oI 9 (.mov (.c (.int .i64 0)))] none [9,8,7,2,1,0]) (.block 0 (.loop [9,8,7,2,1,0] Zlo))) Zmt))))))
def Zfm:ZaA:=⟨[(.tmp 6)],Zcs⟩
theorem ZBV:FC 3=some Zfm:=by kernel_rfl
theorem ZcN:Zfm.body=Zcs:=rfl
theorem ZcR:Zfm.res=[(.tmp 6)]:=rfl
noncomputable def Zjj (m:Nat) (tm:Tms) (σ:Za):Option (AVal×Za):=(Zbt m Zfm (Zb5 FC PR BY m ZlI (W0 (Zbz 8) (evL FC PR BY m [15,14,13] ZlD tm σ))))
noncomputable def Zkj (m:Nat) (tm:Tms) (σ:Za):Option (AVal×Za):=(Zbt m Zfm (Zb5 FC PR BY m ZnI (W0 (Zbz 6) (evL FC PR BY m [12,8,7,2,1] ZkI tm σ))))
noncomputable def ZhX (m:Nat) (tm:Tms) (σ:Za):Option (AVal×Za):=(Zbt m Zfm (Zb5 FC PR BY m Zm6 (W0 (Zbz 4) (evL FC PR BY m [11,8,7,2,1,0] Zmx tm σ))))
noncomputable def Zib (m:Nat) (tm:Tms) (σ:Za):Option (AVal×Za):=(Zbt m Zfm (Zb5 FC PR BY m Znn (W0 (Zbz 2) (evL FC PR BY m [10,8,7,2,1,0] Zm4 tm σ))))
noncomputable def Zfu (m:Nat) (tm:Tms) (σ:Za):Option (AVal×Za):=(Zbt m Zfm (Zb5 FC PR BY m Zmt (W0 (Zbz 0) (evL FC PR BY m [9,8,7,2,1,0] Zlo tm σ))))
end
section
structure ZR where
 f:List UInt8
 k:List UInt8
 v:Int
 deriving DecidableEq,Inhabited
def ZY (r:ZR):AVal:=.agg [.str r.f,.str r.k,.int .i64 r.v]
def ZfG (a b:ZR):Bool:=decide (a.f < b.f) || (decide (a.f=b.f) && decide (a.k < b.k))
end
section
theorem ZD7 {i y:Nat} (h:i<=y):Zdr (.int .i64 (i:Int)) y=some i:=by
 simp only [Zdr]
 rw [if_pos ⟨by omega,by omega⟩]
 simp
def ZaH (a b:ZR):Bool:=(a.f == b.f) && (a.k == b.k)
def Zf5 (s:ZR):List ZR->Nat
 | []=>0
 | x::r=>if ZfG x s then Zf5 s r+1 else 0
def Zl9 (l:List ZR) (s:ZR) (j:Nat):List ZR:=match l[j]? with
 | some x=>if ZaH x s then l.drop (j+1) else l.drop j
 | none=>l.drop j
def putAt (l:List ZR) (s:ZR) (j:Nat):List ZR:=l.take j++s::Zl9 l s j
end
section
end
section
def ZcH (l:List ZR) (s:ZR):List ZR:=putAt l s (Zf5 s l)
end
section
theorem Zuq (l:List Tx):kOk 1 (l.map AVal.str)=true:=by cases l <;> rfl
theorem ZmH (σ:Za) (l:Tx) (r:List Tx):Zcn σ 1 (.lst false ((l::r).map AVal.str)) (some (.int .i64 1)) none none=some (.lst false (r.map AVal.str),σ,{}):=by
 have hm:((l::r).map AVal.str).length=r.length+1:=by simp
 have ht:((l::r).map AVal.str).take (r.length+1)=(l::r).map AVal.str:=List.take_of_length_le (by simp)
 have hb:Zdr (.int .i64 1) (r.length+1)=some 1:=ZD7 (i:=1) (by omega)
 simp only [Zcn,Zbm,hm,hb,Zuq,XaK,if_true,Option.isSome_none,Xi,if_false,Xac,ht]
 rfl
def Small (ns:List TN):Prop:=∀ (j:Nat) (d:TN),ns[j]?=some d->d.1.length+d.2.length<=1000000
def Zab (k : Tx) : List Tx -> List TN -> Nat -> List TN × Bool
  | [], ns, j => match ns[j]? with
    | some d => (ns.set j (ZaZ k d.1, d.2), (ZS k d.1).isSome)
    | none => (ns, false)
  | l :: r, ns, j => match ns[j]? with
    | some d => match ZS l d.2 with
      | some i => if (Zab k r ns i).2 then
          match (Zab k r ns i).1[i]?, (Zab k r ns i).1[j]? with
          | some di, some dj => if di.1.length + di.2.length = 0 then ((Zab k r ns i).1.set j (dj.1, ZaZ l dj.2), true) else ((Zab k r ns i).1, true)
          | _, _ => (ns, false)
        else ((Zab k r ns i).1, false)
      | none => (ns, false)
    | none => (ns, false)
theorem Zkl (k:Tx):∀ (r:List Tx) (ns:List TN) (j:Nat),(Zab k r ns j).1.length=ns.length
 | [],ns,j=>by simp only [Zab];split <;> simp
 | l::r,ns,j=>by
  simp only [Zab]
  split
  ·split
   ·rename_i i hi
    have:=Zkl k r ns i
    split
    ·split
     ·split
      ·simp [this]
      ·exact this
     ·rfl
    ·exact this
   ·rfl
  ·rfl
theorem ZmS {α:Type} {n:Tx} {q:Tx×α}:∀ {M:List (Tx×α)},q ∈ ZaZ n M->q ∈ M
 | [],h=>h
 | p::M,h=>by
  simp only [ZaZ] at h
  split at h
  ·exact We _ h
  ·rcases XH.1 h with h | h
   ·rw [h];simp
   ·exact We _ (ZmS h)
theorem ZhU {α:Type} (n:Tx):∀ M:List (Tx×α),(ZaZ n M).length<=M.length
 | []=>XQ _
 | p::M=>by
  simp only [ZaZ]
  split
  ·simp
  ·simp [ZhU n M]
theorem Closed.next1 {ns:List TN} (hC:Closed ns) {j:Nat} {d:TN} (hd:ns[j]?=some d) (l:Tx):Closed (ns.set j (d.1,ZaZ l d.2)):=by
 have hj:=(Xc.1 hd).1
 intro i d' hi p hp
 rw [Ww]
 rw [Xt] at hi
 by_cases e:j=i
 ·subst e
  rw [if_pos rfl,if_pos hj] at hi
  injection hi with hi
  subst hi
  exact hC _ d hd p (ZmS hp)
 ·rw [if_neg e] at hi
  exact hC i d' hi p hp
theorem Small.set {ns:List TN} (h:Small ns) {j:Nat} {d:TN} (hd:d.1.length+d.2.length<=1000000):Small (ns.set j d):=by
 intro i d' hi
 rw [Xt] at hi
 by_cases e:j=i
 ·rw [if_pos e] at hi
  split at hi
  ·injection hi with hi;subst hi;exact hd
  ·cases hi
 ·rw [if_neg e] at hi;exact h i d' hi
theorem Zpx (k:Tx):∀ (r:List Tx) (ns:List TN) (j:Nat),Small ns->Small (Zab k r ns j).1
 | [],ns,j,h=>by
  simp only [Zab]
  split
  ·rename_i d hd
   refine h.set ?_
   have:=h j d hd
   have:=ZhU k d.1
   simp only;omega
  ·exact h
 | l::r,ns,j,h=>by
  simp only [Zab]
  split
  ·split
   ·rename_i i hi
    have h0:=Zpx k r ns i h
    split
    ·split
     ·rename_i di dj h1 h2
      split
      ·refine h0.set ?_
       have:=h0 j dj h2
       have:=ZhU l dj.2
       simp only;omega
      ·exact h0
     ·exact h
    ·exact h0
   ·exact h
  ·exact h
theorem ZGX {x y:Nat} (h:x+y<=1000000):IntKind.i64.wrap ((x:Int)+(y:Int))=((x+y:Nat):Int):=by
 rw [ZcW (by omega) (by omega)]
 omega
theorem Zrl {A A':Zad} {b:Bool} {S:List AVal} {k:Tx} {j:Nat} (h:E 32 [.nref 0 j 0,.lst false S,.str k] [.arena A]=some (.bool b,[.arena A'])) (hlen:A.length<=A'.length) (hp:(AVal.lst false S::[AVal.str k]).all ZaD=true) {σ:Za} {t sq:Nat} (hs:σ[t]?=some (.arena A)) :
  ZX E BY σ sq 32 0 true [.nref t j 0,.lst false S,.str k]=some (.bool b,σ.set t (.arena A'),{ any:=true }) :=
 Zo1 (q:=.bool b) (r:=.bool b) h (Zsn (Xw rfl) rfl) (by kernel_rfl) hp rfl hs hlen rfl rfl
theorem Zsv (k : Tx) : ∀ (ls : List Tx) (hl : ls.length <= 2000000) (ns : List TN) (hC : Closed ns) (hS : Small ns) (j : Nat) (hj : j < ns.length),
    E 32 [.nref 0 j 0, .lst false (ls.map AVal.str), .str k] [.arena (eNs ns)] = some (.bool (Zab k ls ns j).2, [.arena (eNs (Zab k ls ns j).1)])
  | [], hl, ns, hC, hS, j, hj => by
    obtain ⟨d, hd⟩ : ∃ d, ns[j]? = some d := ⟨_, Xu hj⟩
    have hs : Zar [.arena (eNs ns)] 0 = some (eNs ns) := rfl
    have q1 := ZbF hd
    have q2 := Zoa hs hd k
    have q3 := ZCg (σ := [.arena (eNs ns)]) (t := 0) rfl hd k
    have e0 : Zab k [] ns j = (ns.set j (ZaZ k d.1, d.2), (ZS k d.1).isSome) := by simp only [Zab, hd]
    rw [e0]
    have ho := fun σ => Zgx (r := .bool (ZS k d.1).isSome) (Xw rfl) (eNs (ns.set j (ZaZ k d.1, d.2))) σ
    simp only [X5] at q3
    simp only [X9]
    generalize eNs (ns.set j (ZaZ k d.1, d.2)) = B at *
    generalize eN d = D at *
    generalize eNs ns = A at *
    generalize (ZS k d.1).isSome = b at *
    rw [ZaY (by rfl) Zik]
    have hz : (((0 : Nat) : Int) == 0) = true := rfl
    simp -implicitDefEqProofs only [EQA,Zm,Zr,Zq,Zn,Zs,Zo,Zp,ZJ,ZN,ZO,ZL,ZI,ZP,ZK,ZH,ZQ,implies_true,forall_const,Xk,Xm,Xo,Xf,Xg,Xl,Xn,ZF,ZG,unA,Zx,Zz,unG,reduceCtorEq,Zl,decide_eq_true_eq,Xh,Xd,ite_self,↓reduceIte,Zw,ZE,gcT,gcA,Zh,Zf,Zc,Ze,Zt,Zb,Zi,Zd,Zu,Xj,Ziu,Zgn,ZhW,Zj,ZA,ZD,ZB,ZC,ZV,hs,q1,q2,q3,ho,hz,XC,Z5,Z2,Z4,Z3,AVal.cells]
  | l :: r, hl, ns, hC, hS, j, hj => by
    obtain ⟨d, hd⟩ : ∃ d, ns[j]? = some d := ⟨_, Xu hj⟩
    have hs : ∀ σ, Zar (.arena (eNs ns) :: σ) 0 = some (eNs ns) := fun _ => rfl
    have q1 := ZbF hd
    have q2 := fun σ => Ze0 (hs σ) hd l
    obtain ⟨n, hm, hz⟩ : ∃ n : Nat, ((l :: r).map AVal.str).length = n /\ ((n : Int) == 0) = false := ⟨r.length + 1, by simp, by simp; omega⟩
    have g0 : ((l :: r).map AVal.str)[0]? = some (.str l) := rfl
    have g1 := fun σ => ZmH σ l r
    have hcell : (AVal.str l).cells = [.str l] := rfl
    cases hk : ZS l d.2 with
    | none =>
      have e0 : Zab k (l :: r) ns j = (ns, false) := by simp only [Zab, hd, hk]
      rw [e0]
      simp only [hk, nxV] at q2
      have ho := fun σ => Zgx (r := .bool false) (Xw rfl) (eNs ns) σ
      generalize (l :: r).map AVal.str = S at *
      generalize r.map AVal.str = S1 at *
      generalize eN d = D at *
      generalize eNs ns = A at *
      rw [ZaY (by rfl) Zik]
      simp -implicitDefEqProofs only [EQA,Zm,Zr,Zq,Zn,Zs,Zo,Zp,ZJ,ZN,ZO,ZL,ZI,ZP,ZK,ZH,ZQ,implies_true,forall_const,Xk,Xm,Xo,Xf,Xg,Xl,Xn,ZF,ZG,unA,Zx,Zz,unG,reduceCtorEq,Zl,decide_eq_true_eq,Xh,Xd,ite_self,↓reduceIte,Zw,ZE,gcT,gcA,Zh,Zf,Zc,Ze,Zt,Zb,Zi,Zd,Zu,Xj,Ziu,Zgn,ZhW,Zj,ZA,ZD,ZB,ZC,ZV,hs,hm,hz,g0,q1,q2,ho,ZbY,XaL,Xay,Z5,Z2,Z4,Z3,AVal.cells,Za0,ZaX,Zbd,ZaG,XX,X6,Xr,Xy,Xv,XC,Za5,Za8,Za9,Za1,Za6,Xs,Xx,Zai,Zan,Zas,ZaF,ZaO,ZaM,ZaT,ZaU,Zax,ZaR,XN,XW,Xr,Xy,XB]
    | some i =>
      have hc := hC.next hd hk
      simp only [hk, nxV] at q2
      have ih := Zsv k r (by simp only [Xv] at hl; omega) ns hC hS i hc.2
      have hl1 := Zkl k r ns i
      have hS1 := Zpx k r ns i hS
      have e1 : Zab k (l :: r) ns j = if (Zab k r ns i).2 then
          match (Zab k r ns i).1[i]?, (Zab k r ns i).1[j]? with
          | some di, some dj => if di.1.length + di.2.length = 0 then ((Zab k r ns i).1.set j (dj.1, ZaZ l dj.2), true) else ((Zab k r ns i).1, true)
          | _, _ => (ns, false)
        else ((Zab k r ns i).1, false) := by simp only [Zab, hd, hk]
      rw [e1]
      generalize (Zab k r ns i).1 = ns1 at *
      generalize (Zab k r ns i).2 = b at *
      have hcall := fun {σ : Za} {sq : Nat} hs => Zrl (σ := σ) (t := 0) (sq := sq) ih (by rw [ZfK, ZfK, hl1]; exact XQ _) (by simp [ZaD, ZaQ]) hs
      cases b with
      | false =>
        simp only [Xi, if_false]
        have ho := fun σ => Zgx (r := .bool false) (Xw rfl) (eNs ns1) σ
        generalize (l :: r).map AVal.str = S at *
        generalize r.map AVal.str = S1 at *
        generalize eN d = D at *
        generalize eNs ns = A at *
        generalize eNs ns1 = A1 at *
        rw [ZaY (by rfl) Zik]
        simp -implicitDefEqProofs only [EQA,Zm,Zr,Zq,Zn,Zs,Zo,Zp,ZJ,ZN,ZO,ZL,ZI,ZP,ZK,ZH,ZQ,implies_true,forall_const,Xk,Xm,Xo,Xf,Xg,Xl,Xn,ZF,ZG,unA,Zx,Zz,unG,reduceCtorEq,Zl,decide_eq_true_eq,Xh,Xd,ite_self,↓reduceIte,Zw,ZE,gcT,gcA,Zh,Zf,Zc,Ze,Zt,Zb,Zi,Zd,Zu,Xj,Ziu,Zgn,ZhW,Zj,ZA,ZD,ZB,ZC,ZV,hs,hm,hz,g0,g1,q1,q2,ho,hcall,ZbY,XaL,Xay,X5,Z5,Z2,Z4,Z3,AVal.cells,Za0,ZaX,Zbd,ZaG,XX,X6,Xr,Xy,Xv,XC,Za5,Za8,Za9,Za1,Za6,Xs,Xx,Zai,Zan,Zas,ZaF,ZaO,ZaM,ZaT,ZaU,Zax,ZaR,XN,XW,Xr,Xy,XB]
      | true =>
        obtain ⟨di, hdi⟩ : ∃ d, ns1[i]? = some d := ⟨_, Xu (by rw [hl1]; exact hc.2)⟩
        obtain ⟨dj, hdj⟩ : ∃ d, ns1[j]? = some d := ⟨_, Xu (by rw [hl1]; exact hj)⟩
        simp only [if_true, hdi, hdj]
        have hsm := hS1 i di hdi
        have hs1 : ∀ σ, Zar (.arena (eNs ns1) :: σ) 0 = some (eNs ns1) := fun _ => rfl
        have p1 := ZbF hdi
        have p2 := ZbF hdj
        have p3 := fun σ => Zth (hs1 σ) hdi
        have p4 := fun σ => ZwT (hs1 σ) hdi
        have p5 := Zx7 (σ := [.arena (eNs ns1)]) (t := 0) rfl hdj l
        have w := ZGX (x := di.1.length) (y := di.2.length) (by omega)
        have ho := fun σ => Zgx (r := .bool true) (Xw rfl) (eNs ns1) σ
        have ho2 := fun σ => Zgx (r := .bool true) (Xw rfl) (eNs (ns1.set j (dj.1, ZaZ l dj.2))) σ
        simp only [X5] at p5
        by_cases h0 : di.1.length + di.2.length = 0
        . rw [if_pos h0]
          rw [h0] at w
          have hz0 : (((0 : Nat) : Int) == 0) = true := rfl
          generalize (l :: r).map AVal.str = S at *
          generalize r.map AVal.str = S1 at *
          generalize eN d = D at *
          generalize eN di = D1 at *
          generalize eN dj = D2 at *
          generalize eNs (ns1.set j (dj.1, ZaZ l dj.2)) = A2 at *
          generalize eNs ns = A at *
          generalize eNs ns1 = A1 at *
          generalize di.1.length = x at *
          generalize di.2.length = y at *
          rw [ZaY (by rfl) Zik]
          simp -implicitDefEqProofs only [EQA,Zm,Zr,Zq,Zn,Zs,Zo,Zp,ZJ,ZN,ZO,ZL,ZI,ZP,ZK,ZH,ZQ,implies_true,forall_const,Xk,Xm,Xo,Xf,Xg,Xl,Xn,ZF,ZG,unA,Zx,Zz,unG,reduceCtorEq,Zl,decide_eq_true_eq,Xh,Xd,ite_self,↓reduceIte,Zw,ZE,gcT,gcA,Zh,Zf,Zc,Ze,Zt,Zb,Zi,Zd,Zu,Xj,Ziu,Zgn,ZhW,Zj,ZA,ZD,ZB,ZC,ZV,hs,hs1,hm,hz,g0,g1,q1,q2,p1,p2,p3,p4,p5,w,hz0,ho,ho2,hcall,ZbY,XaL,Xay,X5,Z5,Z2,Z4,Z3,AVal.cells,Za0,ZaX,Zbd,ZaG,XX,X6,Xr,Xy,Xv,XC,Za5,Za8,Za9,Za1,Za6,Xs,Xx,Zai,Zan,Zas,ZaF,ZaO,ZaM,ZaT,ZaU,Zax,ZaR,XN,XW,Xr,Xy,XB]
        . rw [if_neg h0]
          have hw : (((di.1.length + di.2.length : Nat) : Int) == 0) = false := by simp; omega
          generalize di.1.length + di.2.length = z at *
          generalize (l :: r).map AVal.str = S at *
          generalize r.map AVal.str = S1 at *
          generalize eN d = D at *
          generalize eN di = D1 at *
          generalize eN dj = D2 at *
          generalize eNs (ns1.set j (dj.1, ZaZ l dj.2)) = A2 at *
          generalize eNs ns = A at *
          generalize eNs ns1 = A1 at *
          generalize di.1.length = x at *
          generalize di.2.length = y at *
          rw [ZaY (by rfl) Zik]
          simp -implicitDefEqProofs only [EQA,Zm,Zr,Zq,Zn,Zs,Zo,Zp,ZJ,ZN,ZO,ZL,ZI,ZP,ZK,ZH,ZQ,implies_true,forall_const,Xk,Xm,Xo,Xf,Xg,Xl,Xn,ZF,ZG,unA,Zx,Zz,unG,reduceCtorEq,Zl,decide_eq_true_eq,Xh,Xd,ite_self,↓reduceIte,Zw,ZE,gcT,gcA,Zh,Zf,Zc,Ze,Zt,Zb,Zi,Zd,Zu,Xj,Ziu,Zgn,ZhW,Zj,ZA,ZD,ZB,ZC,ZV,hs,hs1,hm,hz,g0,g1,q1,q2,p1,p2,p3,p4,p5,w,hw,ho,ho2,hcall,ZbY,XaL,Xay,X5,Z5,Z2,Z4,Z3,AVal.cells,Za0,ZaX,Zbd,ZaG,XX,X6,Xr,Xy,Xv,XC,Za5,Za8,Za9,Za1,Za6,Xs,Xx,Zai,Zan,Zas,ZaF,ZaO,ZaM,ZaT,ZaU,Zax,ZaR,XN,XW,Xr,Xy,XB]
end
section
theorem Zz0 {σ:Za} {sq t g n:Nat} {q:Bag} {x:ZR} (hs:σ[t]?=some (.bag g 3 q)) (hn:n=ZaB q) (hb:n<=1000000):Zbv σ sq 3 40 (.sl t g 0 n) (.lst true [ZY x])=some (.sl t (g+1) 0 (n+1),σ.set t (.bag (g+1) 3 (ZbV q [ZY x])),{ wr:=[t] }):=by
 simp only [Zbv,Zl,hs]
 rw [if_pos (by rfl),if_pos ⟨trivial,trivial,trivial,by simp;omega,hn⟩]
 rfl
theorem ZDK {σ:Za} {sq:Nat} {x:ZR}:Zbv σ sq 3 40 (.lst true []) (.lst true [ZY x])=some (.sl sq 0 0 1,σ.set sq (.row 0 3 [ZY x]),{}):=by
 simp only [Zbv,Zl]
 rfl
theorem ZEq (x:ZR):E 35 [.str x.f,.str x.k,.int .i64 x.v,.ref 0 0] [.var [.lst true []]]=some (.tup [],[.var [.sl 1 0 0 1],.row 0 3 [ZY x]]):=by
 have A:=fun {σ:Za} {sq:Nat}=>ZDK (σ:=σ) (sq:=sq) (x:=x)
 have hv:∀ σ:Za,viewAs σ [.agg [.str x.f,.str x.k,.int .i64 x.v]]=some ([.agg [.str x.f,.str x.k,.int .i64 x.v]],[]):=fun _=>rfl
 have hr:ZY x=.agg [.str x.f,.str x.k,.int .i64 x.v]:=rfl
 rw [hr] at A ⊢
 rw [ZaY (by rfl) Zou]
 simp -implicitDefEqProofs only [EQA,Zm,Zr,Zq,Zn,Zs,Zo,Zp,ZJ,ZN,ZO,ZL,ZI,ZP,ZK,ZH,ZQ,implies_true,forall_const,Xk,Xm,Xo,Xf,Xg,Xl,Xn,ZF,ZG,unA,Zx,Zz,unG,reduceCtorEq,Zl,decide_eq_true_eq,Xh,Xd,ite_self,↓reduceIte,Zw,ZE,gcT,gcA,Zh,Zf,Zc,Ze,Zt,Zb,Zi,Zd,Zu,Xj,ZsD,ZiN,ZrU,Zj,ZA,ZD,ZB,ZC,ZV,A,hv,ZfR,Zae,Zco,ZbH,Zcr,ZU,Xr,Xy,Z5,Z2,Z4,Z3,AVal.cells]
 rfl
theorem ZF3 (x:ZR) (q:Bag) (n:Nat) (hn:n=ZaB q) (hb:n<=1000000):E 35 [.str x.f,.str x.k,.int .i64 x.v,.ref 0 0] [.var [.sl 1 0 0 n],.bag 0 3 q]=some (.tup [],[.var [.sl 1 1 0 (n+1)],.bag 1 3 (ZbV q [ZY x])]):=by
 have A:=fun {σ:Za} {sq t g:Nat} hs=>Zz0 (σ:=σ) (sq:=sq) (t:=t) (g:=g) (x:=x) hs hn hb
 have hv:∀ σ:Za,viewAs σ [.agg [.str x.f,.str x.k,.int .i64 x.v]]=some ([.agg [.str x.f,.str x.k,.int .i64 x.v]],[]):=fun _=>rfl
 have hr:ZY x=.agg [.str x.f,.str x.k,.int .i64 x.v]:=rfl
 rw [hr] at A ⊢
 generalize ZbV q [.agg [.str x.f,.str x.k,.int .i64 x.v]]=q2 at *
 rw [ZaY (by rfl) Zou]
 simp -implicitDefEqProofs only [EQA,Zm,Zr,Zq,Zn,Zs,Zo,Zp,ZJ,ZN,ZO,ZL,ZI,ZP,ZK,ZH,ZQ,implies_true,forall_const,Xk,Xm,Xo,Xf,Xg,Xl,Xn,ZF,ZG,unA,Zx,Zz,unG,reduceCtorEq,Zl,decide_eq_true_eq,Xh,Xd,ite_self,↓reduceIte,Zw,ZE,gcT,gcA,Zh,Zf,Zc,Ze,Zt,Zb,Zi,Zd,Zu,Xj,ZsD,ZiN,ZrU,Zj,ZA,ZD,ZB,ZC,ZV,A,hv,ZfR,Zae,Zco,ZbH,Zcr,ZU,Xr,Xy,Z5,Z2,Z4,Z3,AVal.cells]
 rfl
theorem ZoJ (x:ZR) {σ:Za} {t sq:Nat} (hs:σ[t]?=some (.var [.lst true []])) (hff:Zbe σ sq 4=true) (hne:t≠sq):ZX E BY σ sq 35 4 false [.str x.f,.str x.k,.int .i64 x.v,.ref t 0]=some (.tup [],(σ.set t (.var [.sl sq 0 0 1])).set sq (.row 0 3 [ZY x]),{ any:=true,upd:=[(t,[.sl sq 0 0 1])] }):=by
 have htl:t < σ.length:=(Xc.1 hs).1
 have h1:σ.getD t .free=.var [.lst true []]:=by simp [Xe,hs]
 have hre:Zf σ 1000 [t] []=[t]:=by
  simp only [Zf,XB,Xi,if_false,h1,Zu,ZZ,Zav,XE,XU]
 have hρ:Zc σ 0 [t] t 0=some (0,0):=by simp [Zc,Zt,hs,Zb,Zi]
 have hvs:ZW (Zc σ 0 [t]) [.str x.f,.str x.k,.int .i64 x.v,.ref t 0]=[.str x.f,.str x.k,.int .i64 x.v,.ref 0 0]:=by
  simp only [ZW,Zv,hρ]
 have hh:Ze σ 0 [t] (Zc σ 0 [t]) [t] 0=[.var [.lst true []]]:=by simp only [Ze,h1,Zd,ZW,Zv]
 have hall:([t].all fun t=>okB (σ.getD t .free))=true:=by simp only [Xr,Xy,h1,okB,Wy]
 have hk:ZaW σ [t] [.var [.sl 1 0 0 1],.row 0 3 [ZY x]] 0=true:=by simp [ZaW,okB,Zb6,Zb,hs]
 have hlay:ZaI σ [t] sq [.var [.sl 1 0 0 1],.row 0 3 [ZY x]] 0 σ=(σ.set t (.var [.sl sq 0 0 1])).set sq (.row 0 3 [ZY x]):=by
  simp [ZaI,Zaw,ZbC,Zbg,Zb,Zd,ZW,Zv]
 refine Zfg (r:=.tup []) (view:=false) (by kernel_rfl) rfl hre rfl hall hvs hh (ZEq x) rfl (by simp) (by simp) hk hff rfl hlay ?_
 have h3:((σ.set t (.var [.sl sq 0 0 1])).set sq (.row 0 3 [ZY x]))[t]?=some (.var [.sl sq 0 0 1]):=by
  rw [XF (fun e=>hne e.symm),XV htl]
 simp [ZbP,h3]
theorem Zrw (x:ZR) {σ:Za} {t r g n sq:Nat} {q:Bag} (hs:σ[t]?=some (.var [.sl r g 0 n])) (hq:σ[r]?=some (.bag g 3 q)) (hn:n=ZaB q) (hb:n<=1000000) (hg:g < 1000) (hff:Zbe σ sq 4=true) :
  ZX E BY σ sq 35 4 false [.str x.f,.str x.k,.int .i64 x.v,.ref t 0]=some (.tup [],(σ.set t (.var [.sl r (g+1) 0 (n+1)])).set r (.bag (g+1) 3 (ZbV q [ZY x])),{ any:=true,upd:=[(t,[.sl r (g+1) 0 (n+1)])] }):=by
 have htl:t < σ.length:=(Xc.1 hs).1
 have hne:t≠r:=by rintro rfl;rw [hs] at hq;cases hq
 have h1:σ.getD t .free=.var [.sl r g 0 n]:=by simp [Xe,hs]
 have h2:σ.getD r .free=.bag g 3 q:=by simp [Xe,hq]
 have hg':¬1000<=g:=by omega
 have hre:Zf σ 1000 [t] []=[t,r]:=by
  have e1:([t]:List Nat).contains r=false:=by simp;exact fun e=>hne e.symm
  simp only [Zf,XB,Xi,if_false,h1,Zu,ZZ,Zav,XE,XU,e1,h2,Xan]
 have hρ:Zc σ 0 [t,r] t 0=some (0,0):=by simp [Zc,Zt,hs,Zb,Zi]
 have hρ2:Zc σ 0 [t,r] r g=some (1,0):=by simp [Zc,Zt,hq,Zb,Zi,hne,hg']
 have hvs:ZW (Zc σ 0 [t,r]) [.str x.f,.str x.k,.int .i64 x.v,.ref t 0]=[.str x.f,.str x.k,.int .i64 x.v,.ref 0 0]:=by
  simp only [ZW,Zv,hρ]
 have hh:Ze σ 0 [t,r] (Zc σ 0 [t,r]) [t,r] 0=[.var [.sl 1 0 0 n],.bag 0 3 q]:=by
  simp [Ze,h1,h2,hs,hq,Zd,ZW,Zv,hρ2,Zi,Zb,hg']
 have hall:([t,r].all fun t=>okB (σ.getD t .free))=true:=by simp only [Xr,Xy,h1,h2,okB,Wy]
 have hk:ZaW σ [t,r] [.var [.sl 1 1 0 (n+1)],.bag 1 3 (ZbV q [ZY x])] 0=true:=by simp [ZaW,okB,Zb6,Zb,hs,hq,hg']
 have hlay:ZaI σ [t,r] sq [.var [.sl 1 1 0 (n+1)],.bag 1 3 (ZbV q [ZY x])] 0 σ=(σ.set t (.var [.sl r (g+1) 0 (n+1)])).set r (.bag (g+1) 3 (ZbV q [ZY x])):=by
  simp [ZaI,Zaw,ZbC,Zbg,Zb,Zd,ZW,Zv,hs,hq,hg',Xe]
 refine Zfg (r:=.tup []) (view:=false) (by kernel_rfl) rfl hre rfl hall hvs hh (ZF3 x q n hn hb) rfl (by simp) (by simp) hk hff rfl hlay ?_
 have h3:((σ.set t (.var [.sl r (g+1) 0 (n+1)])).set r (.bag (g+1) 3 (ZbV q [ZY x])))[t]?=some (.var [.sl r (g+1) 0 (n+1)]):=by
  rw [XF (fun e=>hne e.symm),XV htl]
 have h4:∃ b,((σ.set t (.var [.sl r (g+1) 0 (n+1)])).set r (.bag (g+1) 3 (ZbV q [ZY x])))[r]?=some (.bag b 3 (ZbV q [ZY x])):=⟨g+1,by
  rw [XV (by simpa using (Xc.1 hq).1)]⟩
 obtain ⟨b,h4⟩:=h4
 simp [ZbP,h3,h4]
end
section
theorem Zo2 {bf:Nat->Bool} {m:Nat} {live:List Nat} {ms en b1:Nat} {bg:Bool} {ent:List AOp} {run fin:Nat->Tms->Za->Option (Z1×Tms×Za)} {tm tm0:Tms} {σ σ0:Za} {t:Nat} {B:Zy} {es:List (AVal×AVal)} {out:Z1×Tms×Za} (hh:ZeL m live ms tm σ=some (t,B,es,tm0,σ0))
  (hall:∀ es':List (AVal×AVal),es'.Perm es->ZbL bf m live ms en b1 bg ent run fin es es' tm σ=some out):ZcP bf m live ms en b1 bg ent run fin tm σ=some out:=by
 unfold ZcP
 rw [hh]
 match es,hh,hall with
 | [],hh,hall =>
  have h:=hall [] (XaE _)
  obtain ⟨h1,h2,_⟩:=Zi3 hh
  simp only [ZbL,Zbx,Zfb,h1,h2] at h
  exact h
 | [kv],hh,hall =>
  have h:=hall [kv] (XaE _)
  simp only [ZbL,Zbx,hh,if_true] at h
  simp only
  cases hr:Zcf bf ms en b1 bg ent run t B kv tm0 σ0 with
  | none=>rw [hr] at h;cases h
  | some q=>rw [hr] at h;exact h
 | a::b::r,hh,hall=>exact Zl0.2 hall
theorem ZrL {α:Type} {β:Type} (enc:α->β) (dec:β->α) (hd:∀ a,dec (enc a)=a) {M:List α} {es:List β} (h:es.Perm (M.map enc)):∃ l:List α,l.Perm M/\es=l.map enc:=by
 refine ⟨es.map dec,?_,?_⟩
 ·have:=h.map dec
  rw [Wm] at this
  have e:dec ∘ enc=id:=by funext a;exact hd a
  rw [e,List.map_id] at this
  exact this
 ·rw [Wm]
  have : es.map (enc ∘ dec)=es.map id:=by
   apply List.map_congr_left
   intro p hp
   obtain ⟨a,_,rfl⟩:=XJ.1 (h.mem_iff.1 hp)
   simp [hd]
  rw [this,List.map_id]
end
section
def Zam (p l:Tx):Tx:=if p=[0] then l else p++[47]++l
theorem Zwi (p l:Tx) (hb:p.length+l.length<=1000000000000):E 48 [.str p,.str l] []=some (.str (Zam p l),[]):=by
 unfold Zam
 by_cases h:p=[0]
 ·subst h
  rw [if_pos rfl]
  rw [ZaY (by rfl) ZrS]
  simp -implicitDefEqProofs only [EQA,Zm,Zr,Zq,Zn,Zs,Zo,Zp,ZJ,ZN,ZO,ZL,ZI,ZP,ZK,ZH,ZQ,implies_true,forall_const,Xk,Xm,Xo,Xf,Xg,Xl,Xn,ZF,ZG,unA,Zx,Zz,unG,reduceCtorEq,Zl,decide_eq_true_eq,Xh,Xd,ite_self,↓reduceIte,Zw,ZE,gcT,gcA,Zh,Zf,Zc,Ze,Zt,Zb,Zi,Zd,Zu,Xj,ZmK,ZhE,Zma,Zj,ZA,ZD,ZB,ZC,ZV]
 ·have h1:(p == [0])=false:=by simpa using h
  rw [if_neg h]
  have b1:p.length<=9223372036854775806:=by omega
  have b2:(p++[47]).length+l.length<=9223372036854775807:=by simp;omega
  rw [ZaY (by rfl) ZrS]
  simp -implicitDefEqProofs only [EQA,Zm,Zr,Zq,Zn,Zs,Zo,Zp,ZJ,ZN,ZO,ZL,ZI,ZP,ZK,ZH,ZQ,implies_true,forall_const,Xk,Xm,Xo,Xf,Xg,Xl,Xn,ZF,ZG,unA,Zx,Zz,unG,reduceCtorEq,Zl,decide_eq_true_eq,Xh,Xd,ite_self,↓reduceIte,Zw,ZE,gcT,gcA,Zh,Zf,Zc,Ze,Zt,Zb,Zi,Zd,Zu,Xj,ZmK,ZhE,Zma,Zj,ZA,ZD,ZB,ZC,ZV,h1,b1]
  generalize p++[47]=w at *
  simp -implicitDefEqProofs only [EQA,Zm,Zr,Zq,Zn,Zs,Zo,Zp,ZJ,ZN,ZO,ZL,ZI,ZP,ZK,ZH,ZQ,implies_true,forall_const,Xk,Xm,Xo,Xf,Xg,Xl,Xn,ZF,ZG,unA,Zx,Zz,unG,reduceCtorEq,Zl,decide_eq_true_eq,Xh,Xd,ite_self,↓reduceIte,Zw,ZE,gcT,gcA,Zh,Zf,Zc,Ze,Zt,Zb,Zi,Zd,Zu,Xj,ZmK,ZhE,Zma,Zj,ZA,ZD,ZB,ZC,ZV,b2]
theorem ZiU (σ:Za) (sq own:Nat) (view:Bool) (p l:Tx) (hb:p.length+l.length<=1000000000000):ZX E BY σ sq 48 own view [.str p,.str l]=some (.str (Zam p l),σ,{}) :=
 Zcc (Zwi p l hb) (by kernel_rfl) rfl rfl rfl (fun _=>rfl) σ sq own view
def hM (B:Zy) (s:Option Bag) (g:Nat):Za:=match s with
 | none=>[B,.var [.lst true []]]
 | some q=>[B,.var [.sl 2 g 0 (ZaB q)],.bag g 3 q]
def Zal (s:Option Bag) (R:List AVal):Option Bag:=match R with
 | []=>s
 | x::r=>match s with
  | none=>some (Xag _ (x::r))
  | some q=>some (ZbV q (x::r))
def vT1 (i j:Nat) (b:Bool) (S:List AVal) (p:Tx):Tms:=[(31,.mapg 0 i false),(4,.fn 35 [.ref 1 0]),(3,.bool b),(2,.lst false S),(1,.str p),(0,.nref 0 j 0)]
def ZgI:List AOp:=[oI 36 (.ext (.t 35) 0),oI 37 (.ext (.t 35) 1),oM 11 36,oM 12 37]
noncomputable abbrev ZgK (A:Zad):=Zcf BY 31 35 1 true ZgI (fun m'=>evC FC PR BY m' Zia) 0 (.arena A)
theorem Zz2 (A:Zad) (i j:Nat) (b:Bool) (S:List AVal) (p k:Tx) (v:Int) (hb:p.length+1<=1000000000000):(ZgK A (.str k,.int .i64 v) (vT1 i j b S p) (hM (.arena A) none 0)).map (fun q=>(keepL [31,4,3,2,1,0] q.1,q.2)) =
  some (vT1 i j b S p,[.arena A,.var [.sl 2 0 0 1],.bag 0 3 (Xag _ [ZY ⟨Zam p [35],k,v⟩]),.free,.free,.free]):=by
 have hq:=fun σ sq own view=>ZiU σ sq own view p [35] hb
 have hc:=fun {σ:Za} {t sq:Nat} h1 h2 h3=>ZoJ (σ:=σ) (t:=t) (sq:=sq) ⟨Zam p [35],k,v⟩ h1 h2 h3
 simp only at hc
 generalize ZY ⟨Zam p [35],k,v⟩=x at *
 unfold ZgK Zcf vT1 hM ZgI
 simp -implicitDefEqProofs only [EQA,Zm,Zr,Zq,Zn,Zs,Zo,Zp,ZJ,ZN,ZO,ZL,ZI,ZP,ZK,ZH,ZQ,implies_true,forall_const,Xk,Xm,Xo,Xf,Xg,Xl,Xn,ZF,ZG,unA,Zx,Zz,unG,reduceCtorEq,Zl,decide_eq_true_eq,Xh,Xd,ite_self,↓reduceIte,Zw,ZE,gcT,gcA,Zh,Zf,Zc,Ze,Zt,Zb,Zi,Zd,Zu,Xj,Zcg,Zb7,ZcB,Zct,Zb3,ZcF,Zcj,ZcE,Zb9,ZbW,ZbO,ZcD,Zce,ZcC,Zck,Zj,ZA,ZD,ZB,ZC,ZV,hq,hc,ZcX,roB,ZeQ,Zd7,Zfx,Ze1,Zeh,Zdt,XI,X9,X5,Zbe,XaK,W3,Xae,WY,Xaj,Xba,XQ,Z5,Z2,Z4,Z3,AVal.cells]
theorem Zmh (q:Bag) (ys:List AVal):ZaB (ZbV q ys)=ZaB q+ys.length:=by
 obtain ⟨xs,rfl⟩:=Xa1 q
 show (xs++ys).length=_
 rw [XL];rfl
theorem ZFA (A:Zad) (i j:Nat) (b:Bool) (S:List AVal) (p k:Tx) (v:Int) (hb:p.length+1<=1000000000000) (q:Bag) (g:Nat) (hg:g < 1000) (hq0:ZaB q<=1000000) :
  (ZgK A (.str k,.int .i64 v) (vT1 i j b S p) (hM (.arena A) (some q) g)).map (fun q=>(keepL [31,4,3,2,1,0] q.1,q.2)) =
  some (vT1 i j b S p,[.arena A,.var [.sl 2 (g+1) 0 (ZaB q+1)],.bag (g+1) 3 (ZbV q [ZY ⟨Zam p [35],k,v⟩]),.free,.free,.free,.free]):=by
 have hq:=fun σ sq own view=>ZiU σ sq own view p [35] hb
 have hc:=fun {σ:Za} {t r g n sq:Nat} {q:Bag} h1 h2 h3 h4 h5 h6=>Zrw (σ:=σ) (t:=t) (r:=r) (g:=g) (n:=n) (sq:=sq) (q:=q) ⟨Zam p [35],k,v⟩ h1 h2 h3 h4 h5 h6
 simp only at hc
 generalize ZY ⟨Zam p [35],k,v⟩=x at *
 simp only [hM]
 have hc2:=fun {σ:Za} {sq:Nat} h1 h2 h6=>hc (σ:=σ) (t:=1) (r:=2) (g:=g) (n:=ZaB q) (q:=q) (sq:=sq) h1 h2 rfl hq0 hg h6
 generalize ZbV q [x]=q2 at *
 generalize ZaB q=n at *
 clear hc
 unfold ZgK Zcf vT1 ZgI
 simp -implicitDefEqProofs only [EQA,Zm,Zr,Zq,Zn,Zs,Zo,Zp,ZJ,ZN,ZO,ZL,ZI,ZP,ZK,ZH,ZQ,implies_true,forall_const,Xk,Xm,Xo,Xf,Xg,Xl,Xn,ZF,ZG,unA,Zx,Zz,unG,reduceCtorEq,Zl,decide_eq_true_eq,Xh,Xd,ite_self,↓reduceIte,Zw,ZE,gcT,gcA,Zh,Zf,Zc,Ze,Zt,Zb,Zi,Zd,Zu,Xj,Zcg,Zb7,ZcB,Zct,Zb3,ZcF,Zcj,ZcE,Zb9,ZbW,ZbO,ZcD,Zce,ZcC,Zck,Zj,ZA,ZD,ZB,ZC,ZV,hq,hc2,ZcX,roB,ZeQ,Zd7,Zfx,Ze1,Zeh,Zdt,XI,X9,X5,Zbe,XaK,W3,Xae,WY,Xaj,Xba,XQ,Z5,Z2,Z4,Z3,AVal.cells]
theorem ZIv (A:Zad) (i j:Nat) (b:Bool) (S:List AVal) (p:Tx) (q:Bag):gcT 2 (vT1 i j b S p) [.arena A,.var [.sl 2 0 0 (ZaB q)],.bag 0 3 q,.free,.free,.free]=(vT1 i j b S p,hM (.arena A) (some q) 0):=by
 unfold vT1 hM
 simp -implicitDefEqProofs only [EQA,Zm,Zr,Zq,Zn,Zs,Zo,Zp,ZJ,ZN,ZO,ZL,ZI,ZP,ZK,ZH,ZQ,implies_true,forall_const,Xk,Xm,Xo,Xf,Xg,Xl,Xn,ZF,ZG,unA,Zx,Zz,unG,reduceCtorEq,Zl,decide_eq_true_eq,Xh,Xd,ite_self,↓reduceIte,Zw,ZE,gcT,gcA,Zh,Zf,Zc,Ze,Zt,Zb,Zi,Zd,Zu,Xj,Zcg,Zb7,ZcB,Zct,Zb3,ZcF,Zcj,ZcE,Zb9,ZbW,ZbO,ZcD,Zce,ZcC,Zck,Zj,ZA,ZD,ZB,ZC,ZV,gcT,gcA,Zh,Z8,Z5,Z2,Z4,Z3,AVal.cells]
theorem Zti (A:Zad) (i j:Nat) (b:Bool) (S:List AVal) (p:Tx) (q:Bag) (g:Nat) (hg:g < 999):gcT 3 (vT1 i j b S p) [.arena A,.var [.sl 2 (g+1) 0 (ZaB q)],.bag (g+1) 3 q,.free,.free,.free,.free]=(vT1 i j b S p,hM (.arena A) (some q) 1):=by
 have h1:(1000<=g+1)=False:=by simp;omega
 unfold vT1 hM
 simp -implicitDefEqProofs only [EQA,Zm,Zr,Zq,Zn,Zs,Zo,Zp,ZJ,ZN,ZO,ZL,ZI,ZP,ZK,ZH,ZQ,implies_true,forall_const,Xk,Xm,Xo,Xf,Xg,Xl,Xn,ZF,ZG,unA,Zx,Zz,unG,reduceCtorEq,Zl,decide_eq_true_eq,Xh,Xd,ite_self,↓reduceIte,Zw,ZE,gcT,gcA,Zh,Zf,Zc,Ze,Zt,Zb,Zi,Zd,Zu,Xj,Zcg,Zb7,ZcB,Zct,Zb3,ZcF,Zcj,ZcE,Zb9,ZbW,ZbO,ZcD,Zce,ZcC,Zck,Zj,ZA,ZD,ZB,ZC,ZV,gcT,gcA,Zh,Z8,h1,Z5,Z2,Z4,Z3,AVal.cells]
theorem ZCD (A:Zad) (i j:Nat) (b:Bool) (S:List AVal) (p:Tx) (q:Bag) (g:Nat) (hg:g < 999):gcT 2 (vT1 i j b S p) [.arena A,.var [.sl 2 (g+1) 0 (ZaB q)],.bag (g+1) 3 q,.free,.free,.free,.free]=(vT1 i j b S p,hM (.arena A) (some q) 0):=by
 have h1:(1000<=g+1)=False:=by simp;omega
 unfold vT1 hM
 simp -implicitDefEqProofs only [EQA,Zm,Zr,Zq,Zn,Zs,Zo,Zp,ZJ,ZN,ZO,ZL,ZI,ZP,ZK,ZH,ZQ,implies_true,forall_const,Xk,Xm,Xo,Xf,Xg,Xl,Xn,ZF,ZG,unA,Zx,Zz,unG,reduceCtorEq,Zl,decide_eq_true_eq,Xh,Xd,ite_self,↓reduceIte,Zw,ZE,gcT,gcA,Zh,Zf,Zc,Ze,Zt,Zb,Zi,Zd,Zu,Xj,Zcg,Zb7,ZcB,Zct,Zb3,ZcF,Zcj,ZcE,Zb9,ZbW,ZbO,ZcD,Zce,ZcC,Zck,Zj,ZA,ZD,ZB,ZC,ZV,gcT,gcA,Zh,Z8,h1,Z5,Z2,Z4,Z3,AVal.cells]
end
section
def okS (m:Nat) (s:Option Bag) (g:Nat):Prop:=(m=2/\g=0)\/(m=3/\s≠none/\g<=1)
def ZbX (m:Nat):Nat:=if m=2 then 0 else 1
def Zcp:Option Bag->Nat
 | none=>0
 | some q=>ZaB q
theorem ZhN (s:Option Bag) (R:List AVal):Zcp (Zal s R)=Zcp s+R.length:=by
 cases R with
 | nil=>rfl
 | cons x R =>
  cases s with
  | none=>simp only [Zal,Zcp,XM];rfl
  | some q=>simp only [Zal,Zcp,Zmh]
theorem Zqs (s:Option Bag) (x:AVal) (R:List AVal):Zal (Zal s [x]) R=Zal s (x::R):=by
 cases R with
 | nil=>rfl
 | cons y R =>
  cases s with
  | none=>rfl
  | some q =>
   obtain ⟨xs,rfl⟩:=Xa1 q
   show some (Xag _ ((xs++[x])++(y::R)))=some (Xag _ (xs++(x::y::R)))
   rw [W8];rfl
theorem Znp (s:Option Bag) (R R':List AVal):Zal (Zal s R) R'=Zal s (R++R'):=by
 cases R' with
 | nil=>rw [XU];rfl
 | cons y R' =>
  cases R with
  | nil=>rfl
  | cons x R =>
   cases s with
   | none=>rfl
   | some q =>
    obtain ⟨xs,rfl⟩:=Xa1 q
    show some (Xag _ ((xs++(x::R))++(y::R')))=some (Xag _ (xs++(x::R++(y::R'))))
    rw [W8]
theorem Zrz (s:Option Bag) {R R':List AVal} (h:R.Perm R'):Zal s R=Zal s R':=by
 cases R with
 | nil=>rw [h.symm.eq_nil]
 | cons x R =>
  cases R' with
  | nil=>exact absurd h.eq_nil (by simp)
  | cons y R' =>
   cases s with
   | none=>simp only [Zal];congr 1;exact XbN h
   | some q =>
    obtain ⟨xs,rfl⟩:=Xa1 q
    simp only [Zal]
    congr 1
    exact XbN (List.Perm.append_left xs h)
theorem Znd {m:Nat} {s:Option Bag} {g:Nat} (h:okS m s g) (R:List AVal):okS m (Zal s R) (ZbX m):=by
 rcases h with ⟨rfl,_⟩ | ⟨rfl,h,_⟩
 ·exact Xw ⟨rfl,rfl⟩
 ·refine XD ⟨rfl,?_,XQ _⟩
  cases R with
  | nil=>exact h
  | cons x R=>cases s <;> simp [Zal]
theorem Zk1 {m:Nat} {s:Option Bag} {g:Nat} (h:okS m s g):g < 999:=by
 rcases h with ⟨_,h⟩ | ⟨_,_,h⟩ <;> omega
section
variable (A:Zad) (i j:Nat) (b:Bool) (S:List AVal) (p:Tx) (hp:p.length+1<=1000000000000)
include hp
theorem Zwz {m:Nat} {s:Option Bag} {g:Nat} (ho:okS m s g) (hsz:Zcp s<=1000000) (k:Tx) (v:Int) :
  ∃ tm' σ',ZgK A (.str k,.int .i64 v) (vT1 i j b S p) (hM (.arena A) s g)=some (tm',σ')/\gcT m (keepL [31,4,3,2,1,0] tm') σ'=(vT1 i j b S p,hM (.arena A) (Zal s [ZY ⟨Zam p [35],k,v⟩]) (ZbX m)):=by
 cases s with
 | none =>
  rcases ho with ⟨rfl,rfl⟩ | ⟨_,h,_⟩
  ·obtain ⟨⟨tm',σ'⟩,h1,h2⟩:=Xq.1 (Zz2 A i j b S p k v hp)
   simp only [Xb] at h2
   refine ⟨tm',σ',h1,?_⟩
   rw [h2.1,h2.2]
   exact ZIv A i j b S p (Xag _ [ZY ⟨Zam p [35],k,v⟩])
  ·exact absurd rfl h
 | some q =>
  have hg:=Zk1 ho
  obtain ⟨⟨tm',σ'⟩,h1,h2⟩:=Xq.1 (ZFA A i j b S p k v hp q g (by omega) hsz)
  simp only [Xb] at h2
  refine ⟨tm',σ',h1,?_⟩
  have hn:ZaB q+1=ZaB (ZbV q [ZY ⟨Zam p [35],k,v⟩]):=by rw [Zmh];rfl
  rw [h2.1,h2.2,hn]
  rcases ho with ⟨rfl,_⟩ | ⟨rfl,_,_⟩
  ·exact ZCD A i j b S p (ZbV q [ZY ⟨Zam p [35],k,v⟩]) g hg
  ·exact Zti A i j b S p (ZbV q [ZY ⟨Zam p [35],k,v⟩]) g hg
end
theorem Zpi (n:Nat) (M:List (Tx×Int)):((eV M).all fun p=>ZgQ n p.2)=true:=by
 rw [List.all_eq_true]
 unfold eV
 intro p hp
 obtain ⟨x,_,rfl⟩:=XJ.1 hp
 rfl
def ZbQ (p:Tx) (M:List (Tx×Int)):List AVal:=M.map fun q=>ZY ⟨p,q.1,q.2⟩
section
variable (ns:List TN) (i j:Nat) (d:TN) (hd:ns[i]?=some d) (b:Bool) (S:List AVal) (p:Tx) (hp:p.length+1<=1000000000000)
include hd
theorem vh1 {m g:Nat} {s:Option Bag} {tm:Tms} {σ:Za} (h:gcT m (keepL [31,4,3,2,1,0] tm) σ=(vT1 i j b S p,hM (.arena (eNs ns)) s g)) :
  ZeL m [31,4,3,2,1,0] 31 tm σ=some (0,.arena (eNs ns),eV d.1,vT1 i j b S p,hM (.arena (eNs ns)) s g):=by
 have h1:Zf0 (hM (.arena (eNs ns)) s g) (tget (vT1 i j b S p) 31)=some (0,.arena (eNs ns),eV d.1):=by
  rw [show tget (vT1 i j b S p) 31=.mapg 0 i false from rfl]
  have h0:(hM (.arena (eNs ns)) s g)[0]?=some (.arena (eNs ns)):=by cases s <;> rfl
  simp only [Zf0,h0,ZbF hd]
  rfl
 unfold ZeL
 rw [h]
 simp only [h1]
 rw [if_pos (Zpi _ d.1)]
noncomputable abbrev ZkX:Nat->Tms->Za->Option (Z1×Tms×Za):=fun m'=>evC FC PR BY m' Zia
include hp
theorem vf1 {m:Nat}:∀ (r:List (Tx×Int)) (s:Option Bag) (g:Nat) (tm:Tms) (σ:Za),okS m s g->Zcp s+r.length<=1000000->gcT m (keepL [31,4,3,2,1,0] tm) σ=(vT1 i j b S p,hM (.arena (eNs ns)) s g) ->
  ∃ tm' σ',Zbx BY m [31,4,3,2,1,0] 31 35 1 true ZgI ZkX (eV d.1) (eV r) tm σ=some (tm',σ')/\gcT m (keepL [31,4,3,2,1,0] tm') σ'=(vT1 i j b S p,hM (.arena (eNs ns)) (Zal s (ZbQ (Zam p [35]) r)) (if r=[] then g else ZbX m))
 | [],s,g,tm,σ,ho,hb,h=>⟨tm,σ,rfl,by rw [if_pos rfl];exact h⟩
 | (k,v)::r,s,g,tm,σ,ho,hb,h=>by
  simp only [Xv] at hb
  obtain ⟨tm1,σ1,h1,h2⟩:=Zwz (eNs ns) i j b S p hp ho (by omega) k v
  obtain ⟨tm',σ',h3,h4⟩:=vf1 r (Zal s [ZY ⟨Zam p [35],k,v⟩]) (ZbX m) tm1 σ1 (Znd ho _) (by rw [ZhN];simp only [WD];omega) h2
  refine ⟨tm',σ',?_,?_⟩
  ·rw [show eV ((k,v)::r)=(.str k,.int .i64 v)::eV r from rfl]
   simp only [Zbx,vh1 ns i j d hd b S p h,if_true]
   unfold ZgK at h1
   rw [h1]
   exact h3
  ·have e:(if r=[] then ZbX m else ZbX m)=ZbX m:=by split <;> rfl
   rw [h4,Zqs,e,if_neg (List.cons_ne_nil _ _)]
   rfl
theorem vx1 {m:Nat} {s:Option Bag} {g:Nat} {tm:Tms} {σ:Za} {fin:Nat->Tms->Za->Option (Z1×Tms×Za)} {out:Z1×Tms×Za} (ho:okS m s g) (hb:Zcp s+d.1.length<=1000000) (h:gcT m (keepL [31,4,3,2,1,0] tm) σ=(vT1 i j b S p,hM (.arena (eNs ns)) s g))
  (hfin:fin m (vT1 i j b S p) (hM (.arena (eNs ns)) (Zal s (ZbQ (Zam p [35]) d.1)) (if d.1=[] then g else ZbX m))=some out):ZcP BY m [31,4,3,2,1,0] 31 35 1 true ZgI ZkX fin tm σ=some out:=by
 refine Zo2 (vh1 ns i j d hd b S p h) fun es' hp2=>?_
 obtain ⟨l,hl,rfl⟩:=ZrL (fun p:Tx×Int=>(AVal.str p.1,AVal.int .i64 p.2)) (fun q=>(match q.1 with | .str s=>s | _=>[],match q.2 with | .int _ v=>v | _=>0)) (fun a=>rfl) hp2
 obtain ⟨tm',σ',h1,h2⟩:=vf1 ns i j d hd b S p hp l s g tm σ ho (by rw [hl.length_eq];exact hb) h
 have e1:Zal s (ZbQ (Zam p [35]) l)=Zal s (ZbQ (Zam p [35]) d.1):=Zrz s (hl.map _)
 have e2:(if l=[] then g else ZbX m)=(if d.1=[] then g else ZbX m):=by
  by_cases hz:l=[]
  ·have : d.1=[]:=by rw [hz] at hl;exact hl.symm.eq_nil
   rw [if_pos hz,if_pos this]
  ·have : ¬d.1=[]:=fun e=>hz (by rw [e] at hl;exact hl.eq_nil)
   rw [if_neg hz,if_neg this]
 unfold ZbL
 rw [show l.map (fun p:Tx×Int=>(AVal.str p.1,AVal.int .i64 p.2))=eV l from rfl,h1]
 simp only [Zfb]
 rw [h2,e1,e2]
 exact hfin
end
end
section
def vT2 (j:Nat) (p:Tx):Tms:=[(50,.mapg 0 j false),(4,.fn 35 [.ref 1 0]),(1,.str p)]
def Zgk:List AOp:=[oI 55 (.ext (.t 54) 0),oI 56 (.ext (.t 54) 1),oM 13 55,oM 14 56]
noncomputable abbrev ZgX (A:Zad):=Zcf BY 50 54 3 true Zgk (fun m'=>evC FC PR BY m' Zj2) 0 (.arena A)
theorem Zut (A:Zad) (j:Nat) (p k:Tx) (v:Int):(ZgX A (.str k,.int .i64 v) (vT2 j p) (hM (.arena A) none 0)).map (fun q=>(keepL [50,4,1] q.1,q.2)) =
  some (vT2 j p,[.arena A,.var [.sl 2 0 0 1],.bag 0 3 (Xag _ [ZY ⟨p,k,v⟩]),.free,.free,.free]):=by
 have hc:=fun {σ:Za} {t sq:Nat} h1 h2 h3=>ZoJ (σ:=σ) (t:=t) (sq:=sq) ⟨p,k,v⟩ h1 h2 h3
 simp only at hc
 generalize ZY ⟨p,k,v⟩=x at *
 unfold ZgX Zcf vT2 hM Zgk
 simp -implicitDefEqProofs only [EQA,Zm,Zr,Zq,Zn,Zs,Zo,Zp,ZJ,ZN,ZO,ZL,ZI,ZP,ZK,ZH,ZQ,implies_true,forall_const,Xk,Xm,Xo,Xf,Xg,Xl,Xn,ZF,ZG,unA,Zx,Zz,unG,reduceCtorEq,Zl,decide_eq_true_eq,Xh,Xd,ite_self,↓reduceIte,Zw,ZE,gcT,gcA,Zh,Zf,Zc,Ze,Zt,Zb,Zi,Zd,Zu,Xj,Zcg,Zb7,ZcB,Zct,Zb3,ZcF,Zcj,ZcE,Zb9,ZbW,ZbO,ZcD,Zce,ZcC,Zck,Zj,ZA,ZD,ZB,ZC,ZV,hc,ZcX,roB,ZeQ,Zd7,Zfx,Ze1,Zeh,Zdt,XI,X9,X5,Zbe,XaK,W3,Xae,WY,Xaj,Xba,XQ,Z5,Z2,Z4,Z3,AVal.cells]
theorem ZwA (A:Zad) (j:Nat) (p k:Tx) (v:Int) (q:Bag) (g:Nat) (hg:g < 1000) (hq0:ZaB q<=1000000) :
  (ZgX A (.str k,.int .i64 v) (vT2 j p) (hM (.arena A) (some q) g)).map (fun q=>(keepL [50,4,1] q.1,q.2)) =
  some (vT2 j p,[.arena A,.var [.sl 2 (g+1) 0 (ZaB q+1)],.bag (g+1) 3 (ZbV q [ZY ⟨p,k,v⟩]),.free,.free,.free,.free]):=by
 have hc:=fun {σ:Za} {t r g n sq:Nat} {q:Bag} h1 h2 h3 h4 h5 h6=>Zrw (σ:=σ) (t:=t) (r:=r) (g:=g) (n:=n) (sq:=sq) (q:=q) ⟨p,k,v⟩ h1 h2 h3 h4 h5 h6
 simp only at hc
 generalize ZY ⟨p,k,v⟩=x at *
 simp only [hM]
 have hc2:=fun {σ:Za} {sq:Nat} h1 h2 h6=>hc (σ:=σ) (t:=1) (r:=2) (g:=g) (n:=ZaB q) (q:=q) (sq:=sq) h1 h2 rfl hq0 hg h6
 generalize ZbV q [x]=q2 at *
 generalize ZaB q=n at *
 clear hc
 unfold ZgX Zcf vT2 Zgk
 simp -implicitDefEqProofs only [EQA,Zm,Zr,Zq,Zn,Zs,Zo,Zp,ZJ,ZN,ZO,ZL,ZI,ZP,ZK,ZH,ZQ,implies_true,forall_const,Xk,Xm,Xo,Xf,Xg,Xl,Xn,ZF,ZG,unA,Zx,Zz,unG,reduceCtorEq,Zl,decide_eq_true_eq,Xh,Xd,ite_self,↓reduceIte,Zw,ZE,gcT,gcA,Zh,Zf,Zc,Ze,Zt,Zb,Zi,Zd,Zu,Xj,Zcg,Zb7,ZcB,Zct,Zb3,ZcF,Zcj,ZcE,Zb9,ZbW,ZbO,ZcD,Zce,ZcC,Zck,Zj,ZA,ZD,ZB,ZC,ZV,hc2,ZcX,roB,ZeQ,Zd7,Zfx,Ze1,Zeh,Zdt,XI,X9,X5,Zbe,XaK,W3,Xae,WY,Xaj,Xba,XQ,Z5,Z2,Z4,Z3,AVal.cells]
theorem ZuR (A:Zad) (j:Nat) (p:Tx) (q:Bag):gcT 2 (vT2 j p) [.arena A,.var [.sl 2 0 0 (ZaB q)],.bag 0 3 q,.free,.free,.free]=(vT2 j p,hM (.arena A) (some q) 0):=by
 unfold vT2 hM
 simp -implicitDefEqProofs only [EQA,Zm,Zr,Zq,Zn,Zs,Zo,Zp,ZJ,ZN,ZO,ZL,ZI,ZP,ZK,ZH,ZQ,implies_true,forall_const,Xk,Xm,Xo,Xf,Xg,Xl,Xn,ZF,ZG,unA,Zx,Zz,unG,reduceCtorEq,Zl,decide_eq_true_eq,Xh,Xd,ite_self,↓reduceIte,Zw,ZE,gcT,gcA,Zh,Zf,Zc,Ze,Zt,Zb,Zi,Zd,Zu,Xj,Zcg,Zb7,ZcB,Zct,Zb3,ZcF,Zcj,ZcE,Zb9,ZbW,ZbO,ZcD,Zce,ZcC,Zck,Zj,ZA,ZD,ZB,ZC,ZV,gcT,gcA,Zh,Z8,Z5,Z2,Z4,Z3,AVal.cells]
theorem ZFT (A:Zad) (j:Nat) (p:Tx) (q:Bag) (g:Nat) (hg:g < 999):gcT 3 (vT2 j p) [.arena A,.var [.sl 2 (g+1) 0 (ZaB q)],.bag (g+1) 3 q,.free,.free,.free,.free]=(vT2 j p,hM (.arena A) (some q) 1):=by
 have h1:(1000<=g+1)=False:=by simp;omega
 unfold vT2 hM
 simp -implicitDefEqProofs only [EQA,Zm,Zr,Zq,Zn,Zs,Zo,Zp,ZJ,ZN,ZO,ZL,ZI,ZP,ZK,ZH,ZQ,implies_true,forall_const,Xk,Xm,Xo,Xf,Xg,Xl,Xn,ZF,ZG,unA,Zx,Zz,unG,reduceCtorEq,Zl,decide_eq_true_eq,Xh,Xd,ite_self,↓reduceIte,Zw,ZE,gcT,gcA,Zh,Zf,Zc,Ze,Zt,Zb,Zi,Zd,Zu,Xj,Zcg,Zb7,ZcB,Zct,Zb3,ZcF,Zcj,ZcE,Zb9,ZbW,ZbO,ZcD,Zce,ZcC,Zck,Zj,ZA,ZD,ZB,ZC,ZV,gcT,gcA,Zh,Z8,h1,Z5,Z2,Z4,Z3,AVal.cells]
theorem ZGy (A:Zad) (j:Nat) (p:Tx) (q:Bag) (g:Nat) (hg:g < 999):gcT 2 (vT2 j p) [.arena A,.var [.sl 2 (g+1) 0 (ZaB q)],.bag (g+1) 3 q,.free,.free,.free,.free]=(vT2 j p,hM (.arena A) (some q) 0):=by
 have h1:(1000<=g+1)=False:=by simp;omega
 unfold vT2 hM
 simp -implicitDefEqProofs only [EQA,Zm,Zr,Zq,Zn,Zs,Zo,Zp,ZJ,ZN,ZO,ZL,ZI,ZP,ZK,ZH,ZQ,implies_true,forall_const,Xk,Xm,Xo,Xf,Xg,Xl,Xn,ZF,ZG,unA,Zx,Zz,unG,reduceCtorEq,Zl,decide_eq_true_eq,Xh,Xd,ite_self,↓reduceIte,Zw,ZE,gcT,gcA,Zh,Zf,Zc,Ze,Zt,Zb,Zi,Zd,Zu,Xj,Zcg,Zb7,ZcB,Zct,Zb3,ZcF,Zcj,ZcE,Zb9,ZbW,ZbO,ZcD,Zce,ZcC,Zck,Zj,ZA,ZD,ZB,ZC,ZV,gcT,gcA,Zh,Z8,h1,Z5,Z2,Z4,Z3,AVal.cells]
end
section
section
variable (A:Zad) (j:Nat) (p:Tx)
theorem Zuu {m:Nat} {s:Option Bag} {g:Nat} (ho:okS m s g) (hsz:Zcp s<=1000000) (k:Tx) (v:Int) :
  ∃ tm' σ',ZgX A (.str k,.int .i64 v) (vT2 j p) (hM (.arena A) s g)=some (tm',σ')/\gcT m (keepL [50,4,1] tm') σ'=(vT2 j p,hM (.arena A) (Zal s [ZY ⟨p,k,v⟩]) (ZbX m)):=by
 cases s with
 | none =>
  rcases ho with ⟨rfl,rfl⟩ | ⟨_,h,_⟩
  ·obtain ⟨⟨tm',σ'⟩,h1,h2⟩:=Xq.1 (Zut A j p k v)
   simp only [Xb] at h2
   refine ⟨tm',σ',h1,?_⟩
   rw [h2.1,h2.2]
   exact ZuR A j p (Xag _ [ZY ⟨p,k,v⟩])
  ·exact absurd rfl h
 | some q =>
  have hg:=Zk1 ho
  obtain ⟨⟨tm',σ'⟩,h1,h2⟩:=Xq.1 (ZwA A j p k v q g (by omega) hsz)
  simp only [Xb] at h2
  refine ⟨tm',σ',h1,?_⟩
  have hn:ZaB q+1=ZaB (ZbV q [ZY ⟨p,k,v⟩]):=by rw [Zmh];rfl
  rw [h2.1,h2.2,hn]
  rcases ho with ⟨rfl,_⟩ | ⟨rfl,_,_⟩
  ·exact ZGy A j p (ZbV q [ZY ⟨p,k,v⟩]) g hg
  ·exact ZFT A j p (ZbV q [ZY ⟨p,k,v⟩]) g hg
end
section
variable (ns:List TN) (j:Nat) (d:TN) (hd:ns[j]?=some d) (p:Tx)
include hd
theorem vh2 {m g:Nat} {s:Option Bag} {tm:Tms} {σ:Za} (h:gcT m (keepL [50,4,1] tm) σ=(vT2 j p,hM (.arena (eNs ns)) s g)) :
  ZeL m [50,4,1] 50 tm σ=some (0,.arena (eNs ns),eV d.1,vT2 j p,hM (.arena (eNs ns)) s g):=by
 have h1:Zf0 (hM (.arena (eNs ns)) s g) (tget (vT2 j p) 50)=some (0,.arena (eNs ns),eV d.1):=by
  rw [show tget (vT2 j p) 50=.mapg 0 j false from rfl]
  have h0:(hM (.arena (eNs ns)) s g)[0]?=some (.arena (eNs ns)):=by cases s <;> rfl
  simp only [Zf0,h0,ZbF hd]
  rfl
 unfold ZeL
 rw [h]
 simp only [h1]
 rw [if_pos (Zpi _ d.1)]
noncomputable abbrev ZiV:Nat->Tms->Za->Option (Z1×Tms×Za):=fun m'=>evC FC PR BY m' Zj2
theorem vf2 {m:Nat}:∀ (r:List (Tx×Int)) (s:Option Bag) (g:Nat) (tm:Tms) (σ:Za),okS m s g->Zcp s+r.length<=1000000->gcT m (keepL [50,4,1] tm) σ=(vT2 j p,hM (.arena (eNs ns)) s g) ->
  ∃ tm' σ',Zbx BY m [50,4,1] 50 54 3 true Zgk ZiV (eV d.1) (eV r) tm σ=some (tm',σ')/\gcT m (keepL [50,4,1] tm') σ'=(vT2 j p,hM (.arena (eNs ns)) (Zal s (ZbQ p r)) (if r=[] then g else ZbX m))
 | [],s,g,tm,σ,ho,hb,h=>⟨tm,σ,rfl,by rw [if_pos rfl];exact h⟩
 | (k,v)::r,s,g,tm,σ,ho,hb,h=>by
  simp only [Xv] at hb
  obtain ⟨tm1,σ1,h1,h2⟩:=Zuu (eNs ns) j p ho (by omega) k v
  obtain ⟨tm',σ',h3,h4⟩:=vf2 r (Zal s [ZY ⟨p,k,v⟩]) (ZbX m) tm1 σ1 (Znd ho _) (by rw [ZhN];simp only [WD];omega) h2
  refine ⟨tm',σ',?_,?_⟩
  ·rw [show eV ((k,v)::r)=(.str k,.int .i64 v)::eV r from rfl]
   simp only [Zbx,vh2 ns j d hd p h,if_true]
   unfold ZgX at h1
   rw [h1]
   exact h3
  ·have e:(if r=[] then ZbX m else ZbX m)=ZbX m:=by split <;> rfl
   rw [h4,Zqs,e,if_neg (List.cons_ne_nil _ _)]
   rfl
theorem vx2 {m:Nat} {s:Option Bag} {g:Nat} {tm:Tms} {σ:Za} {fin:Nat->Tms->Za->Option (Z1×Tms×Za)} {out:Z1×Tms×Za} (ho:okS m s g) (hb:Zcp s+d.1.length<=1000000) (h:gcT m (keepL [50,4,1] tm) σ=(vT2 j p,hM (.arena (eNs ns)) s g))
  (hfin:fin m (vT2 j p) (hM (.arena (eNs ns)) (Zal s (ZbQ p d.1)) (if d.1=[] then g else ZbX m))=some out):ZcP BY m [50,4,1] 50 54 3 true Zgk ZiV fin tm σ=some out:=by
 refine Zo2 (vh2 ns j d hd p h) fun es' hp2=>?_
 obtain ⟨l,hl,rfl⟩:=ZrL (fun p:Tx×Int=>(AVal.str p.1,AVal.int .i64 p.2)) (fun q=>(match q.1 with | .str s=>s | _=>[],match q.2 with | .int _ v=>v | _=>0)) (fun a=>rfl) hp2
 obtain ⟨tm',σ',h1,h2⟩:=vf2 ns j d hd p l s g tm σ ho (by rw [hl.length_eq];exact hb) h
 have e1:Zal s (ZbQ p l)=Zal s (ZbQ p d.1):=Zrz s (hl.map _)
 have e2:(if l=[] then g else ZbX m)=(if d.1=[] then g else ZbX m):=by
  by_cases hz:l=[]
  ·have : d.1=[]:=by rw [hz] at hl;exact hl.symm.eq_nil
   rw [if_pos hz,if_pos this]
  ·have : ¬d.1=[]:=fun e=>hz (by rw [e] at hl;exact hl.eq_nil)
   rw [if_neg hz,if_neg this]
 unfold ZbL
 rw [show l.map (fun p:Tx×Int=>(AVal.str p.1,AVal.int .i64 p.2))=eV l from rfl,h1]
 simp only [Zfb]
 rw [h2,e1,e2]
 exact hfin
end
end
section
def vS (b:Bool) (S:List AVal) (p:Tx) (j:Nat):Tms:=[(4,.fn 35 [.ref 1 0]),(3,.bool b),(2,.lst false S),(1,.str p),(0,.nref 0 j 0)]
def ZbD {α:Type} (m g:Nat) (M:List α):Nat:=match M with
 | []=>g
 | _::_=>ZbX m
theorem ZpY {α:Type} (m g:Nat) (M:List α) [Decidable (M=[])]:(if M=[] then g else ZbX m)=ZbD m g M:=by
 cases M with
 | nil=>simp [ZbD]
 | cons=>simp [ZbD]
theorem gc2 {m:Nat} {s:Option Bag} {g:Nat} (ho:okS m s g) (A:Zad) (j:Nat) (p:Tx):gcT m (vT2 j p) (hM (.arena A) s g)=(vT2 j p,hM (.arena A) s g):=by
 rcases ho with ⟨rfl,rfl⟩ | ⟨rfl,h,hg⟩
 ·cases s with
  | none =>
   unfold vT2 hM
   simp -implicitDefEqProofs only [EQA,Zm,Zr,Zq,Zn,Zs,Zo,Zp,ZJ,ZN,ZO,ZL,ZI,ZP,ZK,ZH,ZQ,implies_true,forall_const,Xk,Xm,Xo,Xf,Xg,Xl,Xn,ZF,ZG,unA,Zx,Zz,unG,reduceCtorEq,Zl,decide_eq_true_eq,Xh,Xd,ite_self,↓reduceIte,Zw,ZE,gcT,gcA,Zh,Zf,Zc,Ze,Zt,Zb,Zi,Zd,Zu,Xj,Zcg,Zb7,ZcB,Zct,Zb3,ZcF,Zcj,ZcE,Zb9,ZbW,ZbO,ZcD,Zce,ZcC,Zck,Zj,ZA,ZD,ZB,ZC,ZV,gcT,gcA,Zh,Z8,Z5,Z2,Z4,Z3,AVal.cells]
  | some q =>
   unfold vT2 hM
   simp -implicitDefEqProofs only [EQA,Zm,Zr,Zq,Zn,Zs,Zo,Zp,ZJ,ZN,ZO,ZL,ZI,ZP,ZK,ZH,ZQ,implies_true,forall_const,Xk,Xm,Xo,Xf,Xg,Xl,Xn,ZF,ZG,unA,Zx,Zz,unG,reduceCtorEq,Zl,decide_eq_true_eq,Xh,Xd,ite_self,↓reduceIte,Zw,ZE,gcT,gcA,Zh,Zf,Zc,Ze,Zt,Zb,Zi,Zd,Zu,Xj,Zcg,Zb7,ZcB,Zct,Zb3,ZcF,Zcj,ZcE,Zb9,ZbW,ZbO,ZcD,Zce,ZcC,Zck,Zj,ZA,ZD,ZB,ZC,ZV,gcT,gcA,Zh,Z8,Z5,Z2,Z4,Z3,AVal.cells]
 ·cases s with
  | none=>exact absurd rfl h
  | some q =>
   have : g=0\/g=1:=by omega
   rcases this with rfl | rfl
   ·unfold vT2 hM
    simp -implicitDefEqProofs only [EQA,Zm,Zr,Zq,Zn,Zs,Zo,Zp,ZJ,ZN,ZO,ZL,ZI,ZP,ZK,ZH,ZQ,implies_true,forall_const,Xk,Xm,Xo,Xf,Xg,Xl,Xn,ZF,ZG,unA,Zx,Zz,unG,reduceCtorEq,Zl,decide_eq_true_eq,Xh,Xd,ite_self,↓reduceIte,Zw,ZE,gcT,gcA,Zh,Zf,Zc,Ze,Zt,Zb,Zi,Zd,Zu,Xj,Zcg,Zb7,ZcB,Zct,Zb3,ZcF,Zcj,ZcE,Zb9,ZbW,ZbO,ZcD,Zce,ZcC,Zck,Zj,ZA,ZD,ZB,ZC,ZV,gcT,gcA,Zh,Z8,Z5,Z2,Z4,Z3,AVal.cells]
   ·unfold vT2 hM
    simp -implicitDefEqProofs only [EQA,Zm,Zr,Zq,Zn,Zs,Zo,Zp,ZJ,ZN,ZO,ZL,ZI,ZP,ZK,ZH,ZQ,implies_true,forall_const,Xk,Xm,Xo,Xf,Xg,Xl,Xn,ZF,ZG,unA,Zx,Zz,unG,reduceCtorEq,Zl,decide_eq_true_eq,Xh,Xd,ite_self,↓reduceIte,Zw,ZE,gcT,gcA,Zh,Zf,Zc,Ze,Zt,Zb,Zi,Zd,Zu,Xj,Zcg,Zb7,ZcB,Zct,Zb3,ZcF,Zcj,ZcE,Zb9,ZbW,ZbO,ZcD,Zce,ZcC,Zck,Zj,ZA,ZD,ZB,ZC,ZV,gcT,gcA,Zh,Z8,Z5,Z2,Z4,Z3,AVal.cells]
section
variable {m:Nat} {s:Option Bag} {g:Nat} (ns:List TN) (j:Nat) (d:TN) (hd:ns[j]?=some d) (b:Bool) (p:Tx) (ho:okS m s g)
include hd ho
theorem ZED (hb:Zcp s+d.1.length<=1000000) (X Y:AVal) (pre:Tms) (hpre:pre=[(31,X)]\/pre=[(27,.bool false),(10,Y)]) :
  evC FC PR BY m ZhY (pre++vS b [] p j) (hM (.arena (eNs ns)) s g)=some (.ret,vT2 j p,hM (.arena (eNs ns)) (Zal s (ZbQ p d.1)) (ZbD m g d.1)):=by
 have hs:Zar (hM (.arena (eNs ns)) s g) 0=some (eNs ns):=by cases s <;> rfl
 have q1:=ZbF hd
 have hz:(((0:Nat):Int) == 0)=true:=rfl
 have hrun:=fun tm σ h=>vx2 ns j d hd p (m:=m) (s:=s) (g:=g) (tm:=tm) (σ:=σ) (fin:=fun m'=>evC FC PR BY m' ZiT) (out:=(.ret,vT2 j p,hM (.arena (eNs ns)) (Zal s (ZbQ p d.1)) (ZbD m g d.1))) ho hb h (by rw [ZpY];simp -implicitDefEqProofs only [EQA,Zm,Zr,Zq,Zn,Zs,Zo,Zp,ZJ,ZN,ZO,ZL,ZI,ZP,ZK,ZH,ZQ,implies_true,forall_const,Xk,Xm,Xo,Xf,Xg,Xl,Xn,ZF,ZG,unA,Zx,Zz,unG,reduceCtorEq,Zl,decide_eq_true_eq,Xh,Xd,ite_self,↓reduceIte,Zw,ZE,gcT,gcA,Zh,Zf,Zc,Ze,Zt,Zb,Zi,Zd,Zu,Xj,ZiT,Zb9])
 have hg:=gc2 ho (eNs ns) j p
 unfold vS
 generalize hM (.arena (eNs ns)) (Zal s (ZbQ p d.1)) (ZbD m g d.1)=H2 at *
 generalize hM (.arena (eNs ns)) s g=H at *
 generalize eN d=D at *
 generalize eNs ns=A at *
 rcases hpre with rfl | rfl
 ·rw [ZbW]
  unfold ZbO
  simp only [XP,XE]
  simp -implicitDefEqProofs only [EQA,Zm,Zr,Zq,Zn,Zs,Zo,Zp,ZJ,ZN,ZO,ZL,ZI,ZP,ZK,ZH,ZQ,implies_true,forall_const,Xk,Xm,Xo,Xf,Xg,Xl,Xn,ZF,ZG,unA,Zx,Zz,unG,reduceCtorEq,Zl,decide_eq_true_eq,Xh,Xd,ite_self,↓reduceIte,Zw,ZE,gcT,gcA,Zh,Zf,Zc,Ze,Zt,Zb,Zi,Zd,Zu,Xj,Zk2,ZcX,Zim,hs,q1,hz,XC,Z5,Z2,Z4,Z3,AVal.cells]
  have h5:=hrun [(50,.mapg 0 j false),(49,.nref 0 j 0),(48,.nref 0 j 0),(47,.nref 0 j 0),(46,.bool true),(4,.fn 35 [.ref 1 0]),(3,.bool b),(2,.lst false []),(1,.str p),(0,.nref 0 j 0)] H hg
  unfold ZiV at h5
  simp only [Zgk,oI,oM,oF,oL] at h5
  rw [h5]
  rfl
 ·rw [ZbW]
  unfold ZbO
  simp only [XP,XE]
  simp -implicitDefEqProofs only [EQA,Zm,Zr,Zq,Zn,Zs,Zo,Zp,ZJ,ZN,ZO,ZL,ZI,ZP,ZK,ZH,ZQ,implies_true,forall_const,Xk,Xm,Xo,Xf,Xg,Xl,Xn,ZF,ZG,unA,Zx,Zz,unG,reduceCtorEq,Zl,decide_eq_true_eq,Xh,Xd,ite_self,↓reduceIte,Zw,ZE,gcT,gcA,Zh,Zf,Zc,Ze,Zt,Zb,Zi,Zd,Zu,Xj,Zk2,ZcX,Zim,hs,q1,hz,XC,Z5,Z2,Z4,Z3,AVal.cells]
  have h5:=hrun [(50,.mapg 0 j false),(49,.nref 0 j 0),(48,.nref 0 j 0),(47,.nref 0 j 0),(46,.bool true),(4,.fn 35 [.ref 1 0]),(3,.bool b),(2,.lst false []),(1,.str p),(0,.nref 0 j 0)] H hg
  unfold ZiV at h5
  simp only [Zgk,oI,oM,oF,oL] at h5
  rw [h5]
  rfl
theorem ZvS (S:List AVal) (hS:((S.length:Int) == 0)=false) (X Y:AVal) (pre:Tms) (hpre:pre=[(31,X)]\/pre=[(27,.bool false),(10,Y)]) (out:Z1×Tms×Za) (h:evC FC PR BY m ZjI ((46,.bool false)::vS b S p j) (hM (.arena (eNs ns)) s g)=some out) :
  evC FC PR BY m ZhY (pre++vS b S p j) (hM (.arena (eNs ns)) s g)=some out:=by
 unfold vS at *
 generalize hM (.arena (eNs ns)) s g=H at *
 rcases hpre with rfl | rfl
 ·rw [ZbW]
  unfold ZbO
  simp only [XP,XE]
  simp -implicitDefEqProofs only [EQA,Zm,Zr,Zq,Zn,Zs,Zo,Zp,ZJ,ZN,ZO,ZL,ZI,ZP,ZK,ZH,ZQ,implies_true,forall_const,Xk,Xm,Xo,Xf,Xg,Xl,Xn,ZF,ZG,unA,Zx,Zz,unG,reduceCtorEq,Zl,decide_eq_true_eq,Xh,Xd,ite_self,↓reduceIte,Zw,ZE,gcT,gcA,Zh,Zf,Zc,Ze,Zt,Zb,Zi,Zd,Zu,Xj,hS,Z5,Z2,Z4,Z3,AVal.cells]
  exact h
 ·rw [ZbW]
  unfold ZbO
  simp only [XP,XE]
  simp -implicitDefEqProofs only [EQA,Zm,Zr,Zq,Zn,Zs,Zo,Zp,ZJ,ZN,ZO,ZL,ZI,ZP,ZK,ZH,ZQ,implies_true,forall_const,Xk,Xm,Xo,Xf,Xg,Xl,Xn,ZF,ZG,unA,Zx,Zz,unG,reduceCtorEq,Zl,decide_eq_true_eq,Xh,Xd,ite_self,↓reduceIte,Zw,ZE,gcT,gcA,Zh,Zf,Zc,Ze,Zt,Zb,Zi,Zd,Zu,Xj,hS,Z5,Z2,Z4,Z3,AVal.cells]
  exact h
end
end
section
def Fr (A:Zad) (s:Option Bag) (r g:Nat) (σ:Za):Prop:=σ[0]?=some (.arena A)/\match s with
 | none=>σ[1]?=some (.var [.lst true []])
 | some q=>σ[1]?=some (.var [.sl r g 0 (ZaB q)])/\σ[r]?=some (.bag g 3 q)/\2<=r/\g < 900
theorem ZnV {A:Zad} {s:Option Bag} {g:Nat} (hg:g < 900):Fr A s 2 g (hM (.arena A) s g):=by
 cases s with
 | none=>exact ⟨rfl,rfl⟩
 | some q=>exact ⟨rfl,rfl,rfl,XQ _,hg⟩
theorem Zgp {σ:Za} {t:Nat} {x:Zy} (h:σ[t]?=some x):σ.set t x=σ:=by
 apply List.ext_getElem?
 intro i
 by_cases e:t=i
 ·subst e;rw [XV (Xc.1 h).1,h]
 ·rw [XF e]
abbrev Zcz (i:Nat) (p:Tx) (S:List AVal):List AVal:=[.nref 0 i 0,.str p,.lst false S,.bool false,.fn 35 [.ref 1 0]]
section
variable {A:Zad} {i:Nat} {p:Tx} {S:List AVal} {σ:Za} {sq:Nat}
theorem Zvj (h0:σ[0]?=some (.arena A)) (h1:σ[1]?=some (.var [.lst true []])) (hff:Zbe σ sq 1=true) (hne:2<=sq) (hS:ZZ S=[]) {s':Option Bag} (hE:E 34 (Zcz i p S) (hM (.arena A) none 0)=some (.tup [],hM (.arena A) s' 0)) :
  ∃ σ' c,ZX E BY σ sq 34 1 false (Zcz i p S)=some (.tup [],σ',c)/\Fr A s' sq 0 σ'/\σ'.length=σ.length/\∀ k:Nat,k≠sq->σ[k]?=some Zy.free->σ'[k]?=some Zy.free:=by
 have hl0:0 < σ.length:=(Xc.1 h0).1
 have hl1:1 < σ.length:=(Xc.1 h1).1
 have g0:σ.getD 0 .free=.arena A:=by simp [Xe,h0]
 have g1:σ.getD 1 .free=.var [.lst true []]:=by simp [Xe,h1]
 have href:ZZ (Zcz i p S)=[0,1]:=rfl
 have hre:Zf σ 1000 (ZZ (Zcz i p S)) []=[0,1]:=by
  rw [href]
  simp only [Zf,XB,Xi,if_false,g0,g1,Zu,ZZ,Zav,XE,XU,Xaf,Xan,Xl,Xba,WY]
 have hρ:Zc σ 0 [0,1] 0 (1001+3*i)=some (0,1001+3*i):=ZfT (j:=0) h0 rfl (by omega)
 have hρ1:Zc σ 0 [0,1] 1 0=some (1,0):=by simp [Zc,Zt,h1,Zb,Zi]
 have hvs:ZW (Zc σ 0 [0,1]) (Zcz i p S)=Zcz i p S:=by
  simp only [Zcz,ZW,Zv,hρ,hρ1,if_true]
 have hh:Ze σ 0 [0,1] (Zc σ 0 [0,1]) [0,1] 0=hM (.arena A) none 0:=by
  simp only [Ze,g0,g1,Zd,ZW,Zv];rfl
 have hall:([0,1].all fun t=>okB (σ.getD t .free))=true:=by simp only [Xr,Xy,g0,g1,okB,Wy]
 cases s' with
 | none =>
  have hk:ZaW σ [0,1] (hM (.arena A) none 0) 0=true:=by simp [hM,ZaW,okB,Zb6,Zb,h0,h1]
  refine ⟨σ,_,Zfg (r:=.tup []) (r':=.tup []) (view:=false) (by kernel_rfl) rfl hre rfl hall hvs hh hE rfl (by simp [hM]) (by simp [hM]) hk hff rfl (σ':=σ) ?_ rfl,⟨h0,h1⟩,rfl,fun k _ h=>h⟩
  simp only [hM,ZaI,Zaw,Xs,Xx,Zd,ZW,Zv]
  rw [Zgp h0,Zgp h1]
 | some q =>
  have hsl:sq < σ.length:=by
   have:=ZfV (i:=0) hff (by omega)
   exact (Xc.1 (by simpa using this)).1
  have hk:ZaW σ [0,1] (hM (.arena A) (some q) 0) 0=true:=by simp [hM,ZaW,okB,Zb6,Zb,h0,h1]
  have hlay:ZaI σ [0,1] sq (hM (.arena A) (some q) 0) 0 σ=(σ.set 1 (.var [.sl sq 0 0 (ZaB q)])).set sq (.bag 0 3 q):=by
   simp only [hM,ZaI,Zaw,Xs,Xx,Zd,ZW]
   rw [Zgp h0]
   simp [ZbC,Zbg,Zv,Zb,Xe]
  have h3:((σ.set 1 (.var [.sl sq 0 0 (ZaB q)])).set sq (.bag 0 3 q))[1]?=some (.var [.sl sq 0 0 (ZaB q)]):=by
   rw [XF (by omega),XV hl1]
  have h4:((σ.set 1 (.var [.sl sq 0 0 (ZaB q)])).set sq (.bag 0 3 q))[0]?=some (.arena A):=by
   rw [XF (by omega),XF (by omega)];exact h0
  refine ⟨_,_,Zfg (r:=.tup []) (r':=.tup []) (view:=false) (by kernel_rfl) rfl hre rfl hall hvs hh hE rfl (by simp [hM]) (by simp [hM]) hk hff rfl hlay rfl,⟨h4,h3,?_,hne,by omega⟩,by simp,fun k hk1 hk2=>?_⟩
  ·rw [XV (by simpa using hsl)]
  ·have : k≠1:=by rintro rfl;rw [h1] at hk2;cases hk2
   rw [XF (fun e=>hk1 e.symm),XF (fun e=>this e.symm)]
   exact hk2
theorem Zvy {r g:Nat} {q q':Bag} {g':Nat} (h0:σ[0]?=some (.arena A)) (h1:σ[1]?=some (.var [.sl r g 0 (ZaB q)])) (h2:σ[r]?=some (.bag g 3 q)) (hr:2<=r) (hg:g < 900) (hg':g'<=1) (hff:Zbe σ sq 1=true) (hE:E 34 (Zcz i p S) (hM (.arena A) (some q) 0)=some (.tup [],hM (.arena A) (some q') g')) :
  ∃ σ' c,ZX E BY σ sq 34 1 false (Zcz i p S)=some (.tup [],σ',c)/\(σ'[0]?=some (.arena A)/\σ'[1]?=some (.var [.sl r (g+g') 0 (ZaB q')])/\σ'[r]?=some (.bag (g+g') 3 q'))/\σ'.length=σ.length/\∀ k:Nat,σ[k]?=some Zy.free->σ'[k]?=some Zy.free:=by
 have hl0:0 < σ.length:=(Xc.1 h0).1
 have hl1:1 < σ.length:=(Xc.1 h1).1
 have hlr:r < σ.length:=(Xc.1 h2).1
 have g0:σ.getD 0 .free=.arena A:=by simp [Xe,h0]
 have g1:σ.getD 1 .free=.var [.sl r g 0 (ZaB q)]:=by simp [Xe,h1]
 have g2:σ.getD r .free=.bag g 3 q:=by simp [Xe,h2]
 have n0:¬r=0:=by omega
 have n1:¬r=1:=by omega
 have n0':¬0=r:=by omega
 have n1':¬1=r:=by omega
 have ng:¬1000<=g:=by omega
 have href:ZZ (Zcz i p S)=[0,1]:=rfl
 have hre:Zf σ 1000 (ZZ (Zcz i p S)) []=[0,1,r]:=by
  rw [href]
  have c2:([0,1]:List Nat).contains r=false:=by simp [n0,n1]
  simp only [Zf,XB,Xi,if_false,g0,g1,g2,c2,Zu,ZZ,Zav,XE,XU,Xaf,Xan,XP,Xl,Xba,WY]
 have hρ:Zc σ 0 [0,1,r] 0 (1001+3*i)=some (0,1001+3*i):=ZfT (j:=0) h0 rfl (by omega)
 have hρ1:Zc σ 0 [0,1,r] 1 0=some (1,0):=by simp [Zc,Zt,h1,Zb,Zi]
 have hρ2:Zc σ 0 [0,1,r] r g=some (2,0):=by simp [Zc,Zt,h2,Zb,Zi,n0',n1',ng]
 have hvs:ZW (Zc σ 0 [0,1,r]) (Zcz i p S)=Zcz i p S:=by
  simp only [Zcz,ZW,Zv,hρ,hρ1,if_true]
 have hh:Ze σ 0 [0,1,r] (Zc σ 0 [0,1,r]) [0,1,r] 0=hM (.arena A) (some q) 0:=by
  simp [Ze,g0,g1,g2,h0,h1,h2,Zd,ZW,Zv,hρ2,Zi,Zb,ng,hM,Xe]
 have hall:([0,1,r].all fun t=>okB (σ.getD t .free))=true:=by simp only [Xr,Xy,g0,g1,g2,okB,Wy]
 have hk:ZaW σ [0,1,r] (hM (.arena A) (some q') g') 0=true:=by simp [hM,ZaW,okB,Zb6,Zb,h0,h1,h2,ng,hg']
 have hlay:ZaI σ [0,1,r] sq (hM (.arena A) (some q') g') 0 σ=(σ.set 1 (.var [.sl r (g+g') 0 (ZaB q')])).set r (.bag (g+g') 3 q'):=by
  simp only [hM,ZaI,Zaw,Xs,Xx,Zd,ZW]
  rw [Zgp h0]
  simp [ZbC,Zbg,Zv,Zb,h1,h2,ng,Xe]
 refine ⟨_,_,Zfg (r:=.tup []) (r':=.tup []) (view:=false) (by kernel_rfl) rfl hre rfl hall hvs hh hE rfl (by simp [hM]) (by simp [hM]) hk hff rfl hlay rfl,⟨?_,?_,?_⟩,by simp,fun k hk2=>?_⟩
 ·rw [XF n0,XF (by omega)];exact h0
 ·rw [XF n1,XV hl1]
 ·rw [XV (by simpa using hlr)]
 ·have e1:k≠1:=by rintro rfl;rw [h1] at hk2;cases hk2
  have e2:k≠r:=by rintro rfl;rw [h2] at hk2;cases hk2
  rw [XF (fun e=>e2 e.symm),XF (fun e=>e1 e.symm)]
  exact hk2
def dR:List AVal->Nat
 | []=>0
 | _::_=>1
def Zig (s:Option Bag) (g:Nat) (R:List AVal):Nat:=match s with
 | none=>0
 | some _=>g+dR R
def ZqG (s:Option Bag) (sq r:Nat):Nat:=match s with
 | none=>sq
 | some _=>r
theorem Zqw (R:List AVal):ZbD 3 0 R=dR R:=by cases R <;> rfl
def mS:Option Bag->Nat
 | none=>2
 | some _=>3
theorem ZDU {s:Option Bag} {r g:Nat} {R:List AVal} (hF:Fr A s r g σ) (hff:Zbe σ sq 1=true) (hne:2<=sq) (hS:ZZ S=[]) (hg:g < 899)
  (hE:E 34 (Zcz i p S) (hM (.arena A) s 0)=some (.tup [],hM (.arena A) (Zal s R) (ZbD (mS s) 0 R))) :
  ∃ σ' c,ZX E BY σ sq 34 1 false (Zcz i p S)=some (.tup [],σ',c)/\Fr A (Zal s R) (ZqG s sq r) (Zig s g R) σ'/\σ'.length=σ.length/\(∀ k:Nat,k≠sq->σ[k]?=some Zy.free->σ'[k]?=some Zy.free):=by
 cases s with
 | none =>
  obtain ⟨σ',c,h1,h2,h3,h4⟩:=Zvj hF.1 hF.2 hff hne hS (s':=Zal none R) (by
   rw [hE]
   cases R <;> rfl)
  exact ⟨σ',c,h1,h2,h3,h4⟩
 | some q =>
  obtain ⟨h0,hq1,hq2,hr,hg9⟩:=hF
  obtain ⟨q',hq'⟩:∃ q',Zal (some q) R=some q':=by cases R <;> exact ⟨_,rfl⟩
  have hE':=hE
  rw [show mS (some q)=3 from rfl,Zqw,hq'] at hE'
  have hd:dR R<=1:=by cases R <;> simp [dR]
  obtain ⟨σ',c,h1,⟨h2,h3,h4⟩,h5,h6⟩:=Zvy h0 hq1 hq2 hr hg9 hd hff hE'
  refine ⟨σ',c,h1,?_,h5,fun k _ h=>h6 k h⟩
  rw [hq']
  exact ⟨h2,h3,h4,hr,by simp only [Zig];omega⟩
theorem ZoN {s:Option Bag} {r g:Nat} (hF:Fr A s r g σ):Zbq 2 σ (.tup [])=some (.tup [],hM (.arena A) s 0):=by
 obtain ⟨h0,h⟩:=hF
 have g0:σ.getD 0 .free=.arena A:=by simp [Xe,h0]
 have hR:Wt 2=[0,1]:=rfl
 cases s with
 | none =>
  have h:σ[1]?=some (.var [.lst true []]):=h
  have g1:σ.getD 1 .free=.var [.lst true []]:=by simp [Xe,h]
  have hi:Zh 2 [.tup []] σ=[0,1]:=by
   simp only [Zh,ZZ,Zav,hR,XT,Wu,XU,XE,g0,g1,Zu]
   rfl
  simp only [Zbq,gcA,hi,ZW,Zv,Ze,g0,g1,Zd,hM]
 | some q =>
  obtain ⟨h1,h2,hr,hg⟩:=h
  have g1:σ.getD 1 .free=.var [.sl r g 0 (ZaB q)]:=by simp [Xe,h1]
  have g2:σ.getD r .free=.bag g 3 q:=by simp [Xe,h2]
  have n0:¬0=r:=by omega
  have n1:¬1=r:=by omega
  have m0:¬r=0:=by omega
  have m1:¬r=1:=by omega
  have ng:¬1000<=g:=by omega
  have nr:¬r < 2:=by omega
  have c2:([0,1]:List Nat).contains r=false:=by simp [m0,m1]
  have hi:Zh 2 [.tup []] σ=[0,1,r]:=by
   simp only [Zh,ZZ,Zav,hR,XT,Wu,XU,XE,g0,g1,Zu]
   simp only [Zf,c2,Xi,if_false,g2,Zu,XE,XP]
  have hρ:Zc σ 2 [0,1,r] r g=some (2,0):=by simp [Zc,Zt,h2,Zb,Zi,n0,n1,ng]
  simp only [Zbq,gcA,hi,ZW,Zv,Ze,g0,g1,g2,Zd,hM,hρ]
  simp [Zi,Zb,ng]
theorem Zo4 {q:Bag} {g:Nat} (hF:Fr A (some q) 2 g σ):Zbq 3 σ (.tup [])=some (.tup [],hM (.arena A) (some q) (if g=0 then 0 else 1)):=by
 obtain ⟨h0,h1,h2,hr,hg⟩:=hF
 have hR:Wt 3=[0,1,2]:=rfl
 have g0:σ.getD 0 .free=.arena A:=by simp [Xe,h0]
 have g1:σ.getD 1 .free=.var [.sl 2 g 0 (ZaB q)]:=by simp [Xe,h1]
 have g2:σ.getD 2 .free=.bag g 3 q:=by simp [Xe,h2]
 have ng:¬1000<=g:=by omega
 have hi:Zh 3 [.tup []] σ=[0,1,2]:=by
  simp only [Zh,ZZ,Zav,hR,XT,Wu,XU,XE,g0,g1,g2,Zu]
  rfl
 have hρ:Zc σ 3 [0,1,2] 2 g=some (2,if g=0 then 0 else 1):=by
  simp [Zc,Zt,h2,Zb,Zi,ng]
 simp only [Zbq,gcA,hi,ZW,Zv,Ze,g0,g1,g2,Zd,hM,hρ]
 simp [Zi,Zb,ng]
end
end
section
def Zbj (o:Option Nat) (f:Nat->List AVal):List AVal:=match o with
 | some i=>f i
 | none=>[]
theorem Zr2 (l:List Tx):ZZ (l.map AVal.str)=[]:=by
 induction l with
 | nil=>rfl
 | cons x l ih=>simp only [XI,ZZ,Zav,ih,XU]
def k0a:Zg:=(.seq (.region [oM 62 0,oI 63 (.nilchk (.t 62)),oF 64 1 63,oL 65 64,oM 66 2,oI 67 (.iaddr 1 (.t 66) (.c (.int .i64 0))),oL 68 67,oI 69 (.look 2 .nilp false (.t 65) (.t 68)),oM 15 69] (some [(3,5),(3,6)]) [15,4,3,2,1,0]) (.seq (.region [oM 70 15,oI 71 (.peq true (.t 70) (.c .nilp))] none [71,15,4,3,2,1,0]) (.cond (.t 71) (.region [oM 72 15,oM 73 1,oM 74 2,oI 75 (.iaddr 1 (.t 74) (.c (.int .i64 0))),oL 76 75,oI 77 (.call 48 0 true [(.t 73),(.t 76)]),oM 78 2,oI 79 (.slice 1 (.t 78) (some (.c (.int .i64 1))) none none),oM 80 4,oI 81 (.call 34 1 false [(.t 72),(.t 77),(.t 79),(.c (.bool false)),(.t 80)])] (some [(3,7),(4,7),(5,7),(9,9)]) [4,3,2,1,0]) .skip)))
def k0b:Zg:=(.seq (.region [oM 82 0,oI 83 (.nilchk (.t 82)),oF 84 1 83,oL 85 84,oI 86 (.look 2 .nilp false (.t 85) (.c (.str [43]))),oM 16 86] none [16,4,3,2,1]) (.seq (.region [oM 87 16,oI 88 (.peq true (.t 87) (.c .nilp)),oM 89 88,⟨(some 90),(.mov (.t 3)),(some (89,true)),[]⟩,⟨(some 91),(.un .not (.t 90)),(some (89,true)),[]⟩,oI 92 (.pick (.t 89) (.t 91) (.c (.bool false)))] none [92,16,4,2,1]) (.cond (.t 92) (.region [oM 93 16,oM 94 1,oI 95 (.call 48 0 true [(.t 94),(.c (.str [43]))]),oM 96 2,oI 97 (.slice 1 (.t 96) (some (.c (.int .i64 1))) none none),oM 98 4,oI 99 (.call 34 1 false [(.t 93),(.t 95),(.t 97),(.c (.bool false)),(.t 98)])] (some [(2,4),(6,6)]) []) .skip)))
theorem ZG6:Zb3=.seq k0a k0b:=rfl
section
variable {m:Nat} {A:Zad} (ns:List TN) (j:Nat) (d:TN) (hd:ns[j]?=some d) (b:Bool) (S:List AVal) (p:Tx)
theorem ZwW {σ:Za} (hs:Zar σ 0=some (eNs ns)) (hd:ns[j]?=some d) (hn:b=true\/ZS [43] d.2=none) (pre:Tms) (hpre:pre=[]\/pre=[(71,.bool false),(15,.nilp)]) :
  (evC FC PR BY m k0b (pre++vS b S p j) σ).map (fun q=>(q.1,q.2.2))=some (.normal,σ):=by
 have q1:=ZbF hd
 have q2:=Ze0 hs hd [43]
 unfold vS k0b
 generalize eN d=D at *
 generalize eNs ns=A at *
 have hz:∀ σ:Za,σ++XK 0 Zy.free=σ:=fun σ=>by simp
 rcases hpre with rfl | rfl
 ·rcases hn with rfl | hn
  ·cases hk:ZS [43] d.2 with
   | none =>
    simp only [hk,nxV] at q2
    simp only [XE]
    simp -implicitDefEqProofs only [EQA,Zm,Zr,Zq,Zn,Zs,Zo,Zp,ZJ,ZN,ZO,ZL,ZI,ZP,ZK,ZH,ZQ,implies_true,forall_const,Xk,Xm,Xo,Xf,Xg,Xl,Xn,ZF,ZG,unA,Zx,Zz,unG,reduceCtorEq,Zl,decide_eq_true_eq,Xh,Xd,ite_self,↓reduceIte,Zw,ZE,gcT,gcA,Zh,Zf,Zc,Ze,Zt,Zb,Zi,Zd,Zu,Xj,hs,q1,q2,hz,Z5,Z2,Z4,Z3,AVal.cells,Za0,ZaX,Zbd,ZaG,XX,X6,Xr,Xy,Xv,XC,Za5,Za8,Za9,Za1,Za6,Xs,Xx,Zai,Zan,Zas,ZaF,ZaO,ZaM,ZaT,ZaU,Zax,ZaR,XN,XW,Xr,Xy,XB]
   | some i =>
    simp only [hk,nxV] at q2
    simp only [XE]
    simp -implicitDefEqProofs only [EQA,Zm,Zr,Zq,Zn,Zs,Zo,Zp,ZJ,ZN,ZO,ZL,ZI,ZP,ZK,ZH,ZQ,implies_true,forall_const,Xk,Xm,Xo,Xf,Xg,Xl,Xn,ZF,ZG,unA,Zx,Zz,unG,reduceCtorEq,Zl,decide_eq_true_eq,Xh,Xd,ite_self,↓reduceIte,Zw,ZE,gcT,gcA,Zh,Zf,Zc,Ze,Zt,Zb,Zi,Zd,Zu,Xj,hs,q1,q2,hz,Z5,Z2,Z4,Z3,AVal.cells,Za0,ZaX,Zbd,ZaG,XX,X6,Xr,Xy,Xv,XC,Za5,Za8,Za9,Za1,Za6,Xs,Xx,Zai,Zan,Zas,ZaF,ZaO,ZaM,ZaT,ZaU,Zax,ZaR,XN,XW,Xr,Xy,XB]
  ·simp only [hn,nxV] at q2
   simp only [XE]
   simp -implicitDefEqProofs only [EQA,Zm,Zr,Zq,Zn,Zs,Zo,Zp,ZJ,ZN,ZO,ZL,ZI,ZP,ZK,ZH,ZQ,implies_true,forall_const,Xk,Xm,Xo,Xf,Xg,Xl,Xn,ZF,ZG,unA,Zx,Zz,unG,reduceCtorEq,Zl,decide_eq_true_eq,Xh,Xd,ite_self,↓reduceIte,Zw,ZE,gcT,gcA,Zh,Zf,Zc,Ze,Zt,Zb,Zi,Zd,Zu,Xj,hs,q1,q2,hz,Z5,Z2,Z4,Z3,AVal.cells,Za0,ZaX,Zbd,ZaG,XX,X6,Xr,Xy,Xv,XC,Za5,Za8,Za9,Za1,Za6,Xs,Xx,Zai,Zan,Zas,ZaF,ZaO,ZaM,ZaT,ZaU,Zax,ZaR,XN,XW,Xr,Xy,XB]
 ·rcases hn with rfl | hn
  ·cases hk:ZS [43] d.2 with
   | none =>
    simp only [hk,nxV] at q2
    simp only [XP,XE]
    simp -implicitDefEqProofs only [EQA,Zm,Zr,Zq,Zn,Zs,Zo,Zp,ZJ,ZN,ZO,ZL,ZI,ZP,ZK,ZH,ZQ,implies_true,forall_const,Xk,Xm,Xo,Xf,Xg,Xl,Xn,ZF,ZG,unA,Zx,Zz,unG,reduceCtorEq,Zl,decide_eq_true_eq,Xh,Xd,ite_self,↓reduceIte,Zw,ZE,gcT,gcA,Zh,Zf,Zc,Ze,Zt,Zb,Zi,Zd,Zu,Xj,hs,q1,q2,hz,Z5,Z2,Z4,Z3,AVal.cells,Za0,ZaX,Zbd,ZaG,XX,X6,Xr,Xy,Xv,XC,Za5,Za8,Za9,Za1,Za6,Xs,Xx,Zai,Zan,Zas,ZaF,ZaO,ZaM,ZaT,ZaU,Zax,ZaR,XN,XW,Xr,Xy,XB]
   | some i =>
    simp only [hk,nxV] at q2
    simp only [XP,XE]
    simp -implicitDefEqProofs only [EQA,Zm,Zr,Zq,Zn,Zs,Zo,Zp,ZJ,ZN,ZO,ZL,ZI,ZP,ZK,ZH,ZQ,implies_true,forall_const,Xk,Xm,Xo,Xf,Xg,Xl,Xn,ZF,ZG,unA,Zx,Zz,unG,reduceCtorEq,Zl,decide_eq_true_eq,Xh,Xd,ite_self,↓reduceIte,Zw,ZE,gcT,gcA,Zh,Zf,Zc,Ze,Zt,Zb,Zi,Zd,Zu,Xj,hs,q1,q2,hz,Z5,Z2,Z4,Z3,AVal.cells,Za0,ZaX,Zbd,ZaG,XX,X6,Xr,Xy,Xv,XC,Za5,Za8,Za9,Za1,Za6,Xs,Xx,Zai,Zan,Zas,ZaF,ZaO,ZaM,ZaT,ZaU,Zax,ZaR,XN,XW,Xr,Xy,XB]
  ·simp only [hn,nxV] at q2
   simp only [XP,XE]
   simp -implicitDefEqProofs only [EQA,Zm,Zr,Zq,Zn,Zs,Zo,Zp,ZJ,ZN,ZO,ZL,ZI,ZP,ZK,ZH,ZQ,implies_true,forall_const,Xk,Xm,Xo,Xf,Xg,Xl,Xn,ZF,ZG,unA,Zx,Zz,unG,reduceCtorEq,Zl,decide_eq_true_eq,Xh,Xd,ite_self,↓reduceIte,Zw,ZE,gcT,gcA,Zh,Zf,Zc,Ze,Zt,Zb,Zi,Zd,Zu,Xj,hs,q1,q2,hz,Z5,Z2,Z4,Z3,AVal.cells,Za0,ZaX,Zbd,ZaG,XX,X6,Xr,Xy,Xv,XC,Za5,Za8,Za9,Za1,Za6,Xs,Xx,Zai,Zan,Zas,ZaF,ZaO,ZaM,ZaT,ZaU,Zax,ZaR,XN,XW,Xr,Xy,XB]
theorem Zv3 {σ σ2:Za} {c:Cls} {i:Nat} (hs:Zar σ 0=some (eNs ns)) (hs2:Zar (σ++[.free]) 0=some (eNs ns)) (hd:ns[j]?=some d) (hn:ZS [43] d.2=some i) (l:Tx) (r:List Tx) (hp:p.length+1<=1000000000000)
  (hcall:ZX E BY (σ++[.free]) σ.length 34 1 false [.nref 0 i 0,.str (Zam p [43]),.lst false (r.map AVal.str),.bool false,.fn 35 [.ref 1 0]]=some (.tup [],σ2,c)) (pre:Tms) (hpre:pre=[]\/pre=[(71,.bool false),(15,.nilp)]) :
  (evC FC PR BY m k0b (pre++vS false ((l::r).map AVal.str) p j) σ).map (fun q=>(q.1,q.2.2))=some (.normal,σ2):=by
 have q1:=ZbF hd
 have q2:=Ze0 hs hd [43]
 have q3:=fun σ sq own view=>ZiU σ sq own view p [43] hp
 have q4:=fun σ=>ZmH σ l r
 have hff:(σ++[Zy.free])[σ.length]?=some .free:=by simp
 have hz:∀ σ:Za,σ++XK 0 Zy.free=σ:=fun σ=>by simp
 have hz1:∀ σ:Za,σ++XK 1 Zy.free=σ++[Zy.free]:=fun σ=>rfl
 simp only [hn,nxV] at q2
 unfold vS k0b
 generalize (l::r).map AVal.str=S at *
 generalize r.map AVal.str=S1 at *
 generalize eN d=D at *
 generalize eNs ns=A at *
 generalize Zam p [43]=p2 at *
 rcases hpre with rfl | rfl
 ·simp only [XE]
  simp -implicitDefEqProofs only [EQA,Zm,Zr,Zq,Zn,Zs,Zo,Zp,ZJ,ZN,ZO,ZL,ZI,ZP,ZK,ZH,ZQ,implies_true,forall_const,Xk,Xm,Xo,Xf,Xg,Xl,Xn,ZF,ZG,unA,Zx,Zz,unG,reduceCtorEq,Zl,decide_eq_true_eq,Xh,Xd,ite_self,↓reduceIte,Zw,ZE,gcT,gcA,Zh,Zf,Zc,Ze,Zt,Zb,Zi,Zd,Zu,Xj,hs,hs2,q1,q2,q3,q4,hz,hz1,hcall,hff,Z5,Z2,Z4,Z3,AVal.cells,Za0,ZaX,Zbd,ZaG,XX,X6,Xr,Xy,Xv,XC,Za5,Za8,Za9,Za1,Za6,Xs,Xx,Zai,Zan,Zas,ZaF,ZaO,ZaM,ZaT,ZaU,Zax,ZaR,XN,XW,Xr,Xy,XB]
 ·simp only [XP,XE]
  simp -implicitDefEqProofs only [EQA,Zm,Zr,Zq,Zn,Zs,Zo,Zp,ZJ,ZN,ZO,ZL,ZI,ZP,ZK,ZH,ZQ,implies_true,forall_const,Xk,Xm,Xo,Xf,Xg,Xl,Xn,ZF,ZG,unA,Zx,Zz,unG,reduceCtorEq,Zl,decide_eq_true_eq,Xh,Xd,ite_self,↓reduceIte,Zw,ZE,gcT,gcA,Zh,Zf,Zc,Ze,Zt,Zb,Zi,Zd,Zu,Xj,hs,hs2,q1,q2,q3,q4,hz,hz1,hcall,hff,Z5,Z2,Z4,Z3,AVal.cells,Za0,ZaX,Zbd,ZaG,XX,X6,Xr,Xy,Xv,XC,Za5,Za8,Za9,Za1,Za6,Xs,Xx,Zai,Zan,Zas,ZaF,ZaO,ZaM,ZaT,ZaU,Zax,ZaR,XN,XW,Xr,Xy,XB]
theorem ZEM {σ:Za} (hs:Zar σ 0=some (eNs ns)) (hd:ns[j]?=some d) (l:Tx) (r:List Tx) (hn:ZS l d.2=none) :
  evC FC PR BY m k0a ((46,.bool false)::vS b ((l::r).map AVal.str) p j) σ=some (.normal,[(71,.bool false),(15,.nilp)]++vS b ((l::r).map AVal.str) p j,σ):=by
 have q1:=ZbF hd
 have q2:=Ze0 hs hd l
 have g0:((l::r).map AVal.str)[0]?=some (.str l):=rfl
 have hz:∀ σ:Za,σ++XK 0 Zy.free=σ:=fun σ=>by simp
 simp only [hn,nxV] at q2
 unfold vS k0a
 simp only [XP,XE]
 generalize (l::r).map AVal.str=S at *
 generalize eN d=D at *
 generalize eNs ns=A at *
 simp -implicitDefEqProofs only [EQA,Zm,Zr,Zq,Zn,Zs,Zo,Zp,ZJ,ZN,ZO,ZL,ZI,ZP,ZK,ZH,ZQ,implies_true,forall_const,Xk,Xm,Xo,Xf,Xg,Xl,Xn,ZF,ZG,unA,Zx,Zz,unG,reduceCtorEq,Zl,decide_eq_true_eq,Xh,Xd,ite_self,↓reduceIte,Zw,ZE,gcT,gcA,Zh,Zf,Zc,Ze,Zt,Zb,Zi,Zd,Zu,Xj,hs,q1,q2,g0,hz,ZbY,XaL,Xay,Z5,Z2,Z4,Z3,AVal.cells,Za0,ZaX,Zbd,ZaG,XX,X6,Xr,Xy,Xv,XC,Za5,Za8,Za9,Za1,Za6,Xs,Xx,Zai,Zan,Zas,ZaF,ZaO,ZaM,ZaT,ZaU,Zax,ZaR,XN,XW,Xr,Xy,XB]
theorem ZGt {σ σ2:Za} {c:Cls} {i:Nat} (hs:Zar σ 0=some (eNs ns)) (hs2:Zar (σ++[.free]) 0=some (eNs ns)) (hd:ns[j]?=some d) (l:Tx) (r:List Tx) (hn:ZS l d.2=some i) (hp:p.length+l.length<=1000000000000)
  (hcall:ZX E BY (σ++[.free]) σ.length 34 1 false [.nref 0 i 0,.str (Zam p l),.lst false (r.map AVal.str),.bool false,.fn 35 [.ref 1 0]]=some (.tup [],σ2,c)) :
  evC FC PR BY m k0a ((46,.bool false)::vS b ((l::r).map AVal.str) p j) σ=some (.normal,vS b ((l::r).map AVal.str) p j,σ2):=by
 have q1:=ZbF hd
 have q2:=Ze0 hs hd l
 have q3:=fun σ sq own view=>ZiU σ sq own view p l hp
 have q4:=fun σ=>ZmH σ l r
 have g0:((l::r).map AVal.str)[0]?=some (.str l):=rfl
 have hz:∀ σ:Za,σ++XK 0 Zy.free=σ:=fun σ=>by simp
 have hz1:∀ σ:Za,σ++XK 1 Zy.free=σ++[Zy.free]:=fun σ=>rfl
 have hff:(σ++[Zy.free])[σ.length]?=some .free:=by simp
 simp only [hn,nxV] at q2
 unfold vS k0a
 generalize (l::r).map AVal.str=S at *
 generalize r.map AVal.str=S1 at *
 generalize eN d=D at *
 generalize eNs ns=A at *
 generalize Zam p l=p2 at *
 simp -implicitDefEqProofs only [EQA,Zm,Zr,Zq,Zn,Zs,Zo,Zp,ZJ,ZN,ZO,ZL,ZI,ZP,ZK,ZH,ZQ,implies_true,forall_const,Xk,Xm,Xo,Xf,Xg,Xl,Xn,ZF,ZG,unA,Zx,Zz,unG,reduceCtorEq,Zl,decide_eq_true_eq,Xh,Xd,ite_self,↓reduceIte,Zw,ZE,gcT,gcA,Zh,Zf,Zc,Ze,Zt,Zb,Zi,Zd,Zu,Xj,hs,hs2,q1,q2,q3,q4,g0,hz,hz1,hcall,hff,ZbY,XaL,Xay,Z5,Z2,Z4,Z3,AVal.cells,Za0,ZaX,Zbd,ZaG,XX,X6,Xr,Xy,Xv,XC,Za5,Za8,Za9,Za1,Za6,Xs,Xx,Zai,Zan,Zas,ZaF,ZaO,ZaM,ZaT,ZaU,Zax,ZaR,XN,XW,Xr,Xy,XB]
end
end
section
def ZkU (A:Zad) (i:Nat) (p:Tx) (S:List AVal) (R:List AVal):Prop:=∀ (s:Option Bag),Zcp s+R.length<=1000000->E 34 (Zcz i p S) (hM (.arena A) s 0)=some (.tup [],hM (.arena A) (Zal s R) (ZbD (mS s) 0 R))
theorem ZnJ {A:Zad} {s:Option Bag} {r g:Nat} {σ:Za} (h:Fr A s r g σ):Fr A s r g (σ++[.free]):=by
 obtain ⟨h0,h1⟩:=h
 have ap:∀ {t:Nat} {x:Zy},σ[t]?=some x->(σ++[.free])[t]?=some x:=fun {t x} h=>by
  rw [Wl (Xc.1 h).1];exact h
 refine ⟨ap h0,?_⟩
 cases s with
 | none=>exact ap h1
 | some q=>exact ⟨ap h1.1,ap h1.2.1,h1.2.2⟩
def ZCU (s:Option Bag) (r g:Nat) (R:List AVal) (r' g':Nat):Prop:=s≠none->r'=r/\g<=g'/\(g'=g↔R=[])/\g'<=g+2
theorem way {A:Zad} {s:Option Bag} {r g:Nat} {σ:Za} {i:Nat} {p:Tx} {S:List AVal} {R:List AVal} (hF:Fr A s r g σ) (hl:2<=σ.length) (hS:ZZ S=[]) (hg:g < 899) (hC:ZkU A i p S R) (hb:Zcp s+R.length<=1000000) :
  ∃ σ' c,ZX E BY (σ++[.free]) σ.length 34 1 false (Zcz i p S)=some (.tup [],σ',c)/\Fr A (Zal s R) (ZqG s σ.length r) (Zig s g R) σ'/\2<=σ'.length:=by
 obtain ⟨σ',c,h1,h2,h3,_⟩:=ZDU (R:=R) (ZnJ hF) (sq:=σ.length) (by simp [Zbe,freeAt]) hl hS hg (hC s hb)
 exact ⟨σ',c,h1,h2,by rw [h3];simp;omega⟩
section
variable {m:Nat} (ns:List TN) (j:Nat) (d:TN) (hd:ns[j]?=some d) (b:Bool) (p:Tx) (l:Tx) (r:List Tx) (hp:p.length+l.length+1<=1000000000000) (f1 f2:Nat->List AVal)
include hd hp
theorem Zyn {s : Option Bag} {rr gg : Nat} {σ : Za} (hF : Fr (eNs ns) s rr gg σ) (hl : 2 <= σ.length) (hg : gg < 800)
    (h1 : ∀ i, ZS l d.2 = some i -> ZkU (eNs ns) i (Zam p l) (r.map AVal.str) (f1 i)) (h2 : ∀ i, b = false -> ZS [43] d.2 = some i -> ZkU (eNs ns) i (Zam p [43]) (r.map AVal.str) (f2 i))
    (hb : Zcp s + (Zbj (ZS l d.2) f1).length + (if b then [] else Zbj (ZS [43] d.2) f2).length <= 1000000) :
    ∃ σ', (evC FC PR BY m ZjI ((46, .bool false) :: vS b ((l :: r).map AVal.str) p j) σ).map (fun q => (q.1, q.2.2)) = some (.normal, σ') /\ ∃ r' g', Fr (eNs ns) (Zal s (Zbj (ZS l d.2) f1 ++ (if b then [] else Zbj (ZS [43] d.2) f2))) r' g' σ' /\ ZCU s rr gg (Zbj (ZS l d.2) f1 ++ (if b then [] else Zbj (ZS [43] d.2) f2)) r' g' := by
  have hnd : ∀ {s : Option Bag} {r g : Nat} {σ : Za}, Fr (eNs ns) s r g σ -> Zar σ 0 = some (eNs ns) := fun h => Zxk h.1
  have first : ∃ pre σ1, (pre = [] \/ pre = [(71, .bool false), (15, .nilp)]) /\ evC FC PR BY m k0a ((46, .bool false) :: vS b ((l :: r).map AVal.str) p j) σ = some (.normal, pre ++ vS b ((l :: r).map AVal.str) p j, σ1) /\ ∃ r1 g1, Fr (eNs ns) (Zal s (Zbj (ZS l d.2) f1)) r1 g1 σ1 /\ 2 <= σ1.length /\ g1 < 850 /\ (s ≠ none -> r1 = rr /\ g1 = gg + dR (Zbj (ZS l d.2) f1)) := by
    cases hk : ZS l d.2 with
    | none =>
      refine ⟨_, σ, XD rfl, ZEM ns j d b p (hnd hF) hd l r hk, rr, gg, hF, hl, by omega, fun _ => ⟨rfl, ?_⟩⟩
      simp [Zbj, dR]
    | some i =>
      obtain ⟨σ1, c, q1, q2, q3⟩ := way hF hl (Zr2 r) (by omega) (h1 i hk) (by rw [hk] at hb; simp only [Zbj] at hb; omega)
      refine ⟨[], σ1, Xw rfl, ZGt ns j d b p (hnd hF) (hnd (ZnJ hF)) hd l r hk (by omega) q1, _, _, q2, q3, ?_, fun hs => ?_⟩
      . cases s with
        | none => simp only [Zig]; omega
        | some q => simp only [Zig]; have : dR (f1 i) <= 1 := by cases f1 i <;> simp [dR]
                    omega
      . cases s with
        | none => exact absurd rfl hs
        | some q => exact ⟨rfl, rfl⟩
  obtain ⟨pre, σ1, hpre, e1, r1, g1, hF1, hl1, hg1, hq1⟩ := first
  have hd1 : ∀ R : List AVal, dR R <= 1 := fun R => by cases R <;> simp [dR]
  have hd0 : ∀ R : List AVal, dR R = 0 ↔ R = [] := fun R => by cases R <;> simp [dR]
  have second : ∃ σ2, (evC FC PR BY m k0b (pre ++ vS b ((l :: r).map AVal.str) p j) σ1).map (fun q => (q.1, q.2.2)) = some (.normal, σ2) /\ ∃ r' g', Fr (eNs ns) (Zal (Zal s (Zbj (ZS l d.2) f1)) (if b then [] else Zbj (ZS [43] d.2) f2)) r' g' σ2 /\ (s ≠ none -> r' = rr /\ g' = g1 + dR (if b then [] else Zbj (ZS [43] d.2) f2)) := by
    by_cases hn : b = true \/ ZS [43] d.2 = none
    . have ew : (if b then [] else Zbj (ZS [43] d.2) f2) = [] := by
        rcases hn with hn | hn
        . rw [if_pos hn]
        . rw [hn]; split <;> rfl
      rw [ew]
      exact ⟨σ1, ZwW ns j d b _ p (hnd hF1) hd hn pre hpre, r1, g1, hF1, fun hs => ⟨(hq1 hs).1, rfl⟩⟩
    . have hb0 : b = false := by cases b <;> simp_all
      subst hb0
      cases hk : ZS [43] d.2 with
      | none => exact absurd (XD hk) hn
      | some i =>
        simp only [Xi, if_false, Zbj] at hb ⊢
        rw [hk] at hb
        obtain ⟨σ2, c, q1, q2, q3⟩ := way hF1 hl1 (Zr2 r) (by omega) (h2 i rfl hk) (by rw [ZhN]; exact hb)
        refine ⟨σ2, Zv3 ns j d p (hnd hF1) (hnd (ZnJ hF1)) hd hk l r (by omega) q1 pre hpre, _, _, q2, fun hs => ?_⟩
        have hs1 : ∃ q, Zal s (Zbj (ZS l d.2) f1) = some q := by
          cases s with
          | none => exact absurd rfl hs
          | some q => cases Zbj (ZS l d.2) f1 <;> exact ⟨_, rfl⟩
        obtain ⟨q, hs1⟩ := hs1
        rw [hs1]
        exact ⟨(hq1 hs).1, rfl⟩
  obtain ⟨σ2, e2, r', g', hF2, hq2⟩ := second
  refine ⟨σ2, ?_, r', g', by rw [<- Znp]; exact hF2, fun hs => ?_⟩
  . rw [Zct, ZG6]
    rw [ZjM e1]
    exact e2
  . obtain ⟨a1, a2⟩ := hq1 hs
    obtain ⟨a3, a4⟩ := hq2 hs
    have := hd1 (Zbj (ZS l d.2) f1)
    have := hd1 (if b then [] else Zbj (ZS [43] d.2) f2)
    refine ⟨a3, by omega, ?_, by omega⟩
    rw [List.append_eq_nil_iff, <- hd0, <- hd0]
    omega
end
end
section
def hxC:Zg:=(.seq (.region [oM 17 0,oI 18 (.nilchk (.t 17)),oF 19 1 18,oL 20 19,oI 21 (.look 2 .nilp false (.t 20) (.c (.str [35]))),oM 10 21] none [10,4,3,2,1,0]) (.seq (.region [oM 22 10,oI 23 (.peq true (.t 22) (.c .nilp)),oM 24 23,⟨(some 25),(.mov (.t 3)),(some (24,true)),[]⟩,⟨(some 26),(.un .not (.t 25)),(some (24,true)),[]⟩,oI 27 (.pick (.t 24) (.t 26) (.c (.bool false)))] none [27,10,4,3,2,1,0]) (.cond (.t 27) (.range [oM 28 10,oI 29 (.nilchk (.t 28)),oF 30 0 29,oL 31 30] [31,4,3,2,1,0] 31 35 1 true [oI 36 (.ext (.t 35) 0),oI 37 (.ext (.t 35) 1),oM 11 36,oM 12 37] Zia ZiS) .skip)))
theorem ZqZ:Zb7=.seq hxC ZhY:=rfl
section
variable {m:Nat} {s:Option Bag} (ns:List TN) (j:Nat) (d:TN) (b:Bool) (S:List AVal) (p:Tx)
theorem Zub {σ:Za} (hs:Zar σ 0=some (eNs ns)) (hd:ns[j]?=some d) (hn:b=true\/ZS [35] d.2=none) :
  evC FC PR BY m hxC (vS b S p j) σ=some (.normal,[(27,.bool false),(10,nxV 0 (ZS [35] d.2))]++vS b S p j,σ):=by
 have q1:=ZbF hd
 have q2:=Ze0 hs hd [35]
 unfold vS hxC
 have hz:∀ σ:Za,σ++XK 0 Zy.free=σ:=fun σ=>by simp
 generalize eN d=D at *
 generalize eNs ns=A at *
 rcases hn with rfl | hn
 ·cases hk:ZS [35] d.2 with
  | none =>
   simp only [hk,nxV] at q2 ⊢
   simp only [XP,XE]
   simp -implicitDefEqProofs only [EQA,Zm,Zr,Zq,Zn,Zs,Zo,Zp,ZJ,ZN,ZO,ZL,ZI,ZP,ZK,ZH,ZQ,implies_true,forall_const,Xk,Xm,Xo,Xf,Xg,Xl,Xn,ZF,ZG,unA,Zx,Zz,unG,reduceCtorEq,Zl,decide_eq_true_eq,Xh,Xd,ite_self,↓reduceIte,Zw,ZE,gcT,gcA,Zh,Zf,Zc,Ze,Zt,Zb,Zi,Zd,Zu,Xj,hs,q1,q2,hz,Z5,Z2,Z4,Z3,AVal.cells,Za0,ZaX,Zbd,ZaG,XX,X6,Xr,Xy,Xv,XC,Za5,Za8,Za9,Za1,Za6,Xs,Xx,Zai,Zan,Zas,ZaF,ZaO,ZaM,ZaT,ZaU,Zax,ZaR,XN,XW,Xr,Xy,XB]
  | some i =>
   simp only [hk,nxV] at q2 ⊢
   simp only [XP,XE]
   simp -implicitDefEqProofs only [EQA,Zm,Zr,Zq,Zn,Zs,Zo,Zp,ZJ,ZN,ZO,ZL,ZI,ZP,ZK,ZH,ZQ,implies_true,forall_const,Xk,Xm,Xo,Xf,Xg,Xl,Xn,ZF,ZG,unA,Zx,Zz,unG,reduceCtorEq,Zl,decide_eq_true_eq,Xh,Xd,ite_self,↓reduceIte,Zw,ZE,gcT,gcA,Zh,Zf,Zc,Ze,Zt,Zb,Zi,Zd,Zu,Xj,hs,q1,q2,hz,Z5,Z2,Z4,Z3,AVal.cells,Za0,ZaX,Zbd,ZaG,XX,X6,Xr,Xy,Xv,XC,Za5,Za8,Za9,Za1,Za6,Xs,Xx,Zai,Zan,Zas,ZaF,ZaO,ZaM,ZaT,ZaU,Zax,ZaR,XN,XW,Xr,Xy,XB]
 ·simp only [hn,nxV] at q2 ⊢
  simp only [XP,XE]
  simp -implicitDefEqProofs only [EQA,Zm,Zr,Zq,Zn,Zs,Zo,Zp,ZJ,ZN,ZO,ZL,ZI,ZP,ZK,ZH,ZQ,implies_true,forall_const,Xk,Xm,Xo,Xf,Xg,Xl,Xn,ZF,ZG,unA,Zx,Zz,unG,reduceCtorEq,Zl,decide_eq_true_eq,Xh,Xd,ite_self,↓reduceIte,Zw,ZE,gcT,gcA,Zh,Zf,Zc,Ze,Zt,Zb,Zi,Zd,Zu,Xj,hs,q1,q2,hz,Z5,Z2,Z4,Z3,AVal.cells,Za0,ZaX,Zbd,ZaG,XX,X6,Xr,Xy,Xv,XC,Za5,Za8,Za9,Za1,Za6,Xs,Xx,Zai,Zan,Zas,ZaF,ZaO,ZaM,ZaT,ZaU,Zax,ZaR,XN,XW,Xr,Xy,XB]
theorem gc1 {g:Nat} (ho:okS m s g) (A:Zad) (i j:Nat):gcT m (vT1 i j b S p) (hM (.arena A) s g)=(vT1 i j b S p,hM (.arena A) s g):=by
 rcases ho with ⟨rfl,rfl⟩ | ⟨rfl,h,hg⟩
 ·cases s with
  | none =>
   unfold vT1 hM
   simp -implicitDefEqProofs only [EQA,Zm,Zr,Zq,Zn,Zs,Zo,Zp,ZJ,ZN,ZO,ZL,ZI,ZP,ZK,ZH,ZQ,implies_true,forall_const,Xk,Xm,Xo,Xf,Xg,Xl,Xn,ZF,ZG,unA,Zx,Zz,unG,reduceCtorEq,Zl,decide_eq_true_eq,Xh,Xd,ite_self,↓reduceIte,Zw,ZE,gcT,gcA,Zh,Zf,Zc,Ze,Zt,Zb,Zi,Zd,Zu,Xj,Zcg,Zb7,ZcB,Zct,Zb3,ZcF,Zcj,ZcE,Zb9,ZbW,ZbO,ZcD,Zce,ZcC,Zck,Zj,ZA,ZD,ZB,ZC,ZV,gcT,gcA,Zh,Z8,Z5,Z2,Z4,Z3,AVal.cells]
  | some q =>
   unfold vT1 hM
   simp -implicitDefEqProofs only [EQA,Zm,Zr,Zq,Zn,Zs,Zo,Zp,ZJ,ZN,ZO,ZL,ZI,ZP,ZK,ZH,ZQ,implies_true,forall_const,Xk,Xm,Xo,Xf,Xg,Xl,Xn,ZF,ZG,unA,Zx,Zz,unG,reduceCtorEq,Zl,decide_eq_true_eq,Xh,Xd,ite_self,↓reduceIte,Zw,ZE,gcT,gcA,Zh,Zf,Zc,Ze,Zt,Zb,Zi,Zd,Zu,Xj,Zcg,Zb7,ZcB,Zct,Zb3,ZcF,Zcj,ZcE,Zb9,ZbW,ZbO,ZcD,Zce,ZcC,Zck,Zj,ZA,ZD,ZB,ZC,ZV,gcT,gcA,Zh,Z8,Z5,Z2,Z4,Z3,AVal.cells]
 ·cases s with
  | none=>exact absurd rfl h
  | some q =>
   have : g=0\/g=1:=by omega
   rcases this with rfl | rfl
   ·unfold vT1 hM
    simp -implicitDefEqProofs only [EQA,Zm,Zr,Zq,Zn,Zs,Zo,Zp,ZJ,ZN,ZO,ZL,ZI,ZP,ZK,ZH,ZQ,implies_true,forall_const,Xk,Xm,Xo,Xf,Xg,Xl,Xn,ZF,ZG,unA,Zx,Zz,unG,reduceCtorEq,Zl,decide_eq_true_eq,Xh,Xd,ite_self,↓reduceIte,Zw,ZE,gcT,gcA,Zh,Zf,Zc,Ze,Zt,Zb,Zi,Zd,Zu,Xj,Zcg,Zb7,ZcB,Zct,Zb3,ZcF,Zcj,ZcE,Zb9,ZbW,ZbO,ZcD,Zce,ZcC,Zck,Zj,ZA,ZD,ZB,ZC,ZV,gcT,gcA,Zh,Z8,Z5,Z2,Z4,Z3,AVal.cells]
   ·unfold vT1 hM
    simp -implicitDefEqProofs only [EQA,Zm,Zr,Zq,Zn,Zs,Zo,Zp,ZJ,ZN,ZO,ZL,ZI,ZP,ZK,ZH,ZQ,implies_true,forall_const,Xk,Xm,Xo,Xf,Xg,Xl,Xn,ZF,ZG,unA,Zx,Zz,unG,reduceCtorEq,Zl,decide_eq_true_eq,Xh,Xd,ite_self,↓reduceIte,Zw,ZE,gcT,gcA,Zh,Zf,Zc,Ze,Zt,Zb,Zi,Zd,Zu,Xj,Zcg,Zb7,ZcB,Zct,Zb3,ZcF,Zcj,ZcE,Zb9,ZbW,ZbO,ZcD,Zce,ZcC,Zck,Zj,ZA,ZD,ZB,ZC,ZV,gcT,gcA,Zh,Z8,Z5,Z2,Z4,Z3,AVal.cells]
theorem ZEF {i:Nat} {di:TN} (ho:okS m s 0) (hd:ns[j]?=some d) (hn:ZS [35] d.2=some i) (hdi:ns[i]?=some di) (hp:p.length+1<=1000000000000) (hb:Zcp s+di.1.length<=1000000) :
  evC FC PR BY m hxC (vS false S p j) (hM (.arena (eNs ns)) s 0)=some (.normal,[(31,.mapg 0 i false)]++vS false S p j,hM (.arena (eNs ns)) (Zal s (ZbQ (Zam p [35]) di.1)) (ZbD m 0 di.1)):=by
 have hs:Zar (hM (.arena (eNs ns)) s 0) 0=some (eNs ns):=by cases s <;> rfl
 have q1:=ZbF hd
 have q1':=ZbF hdi
 have q2:=Ze0 hs hd [35]
 have hrun:=fun tm σ h=>vx1 ns i j di hdi false S p hp (m:=m) (s:=s) (g:=0) (tm:=tm) (σ:=σ) (fin:=fun m'=>evC FC PR BY m' ZiS) (out:=(.normal,vT1 i j false S p,hM (.arena (eNs ns)) (Zal s (ZbQ (Zam p [35]) di.1)) (ZbD m 0 di.1))) ho hb h (by rw [ZpY];exact Zpt _ _)
 have hg:=gc1 false S p ho (eNs ns) i j
 simp only [hn,nxV] at q2
 unfold vS hxC
 generalize hM (.arena (eNs ns)) (Zal s (ZbQ (Zam p [35]) di.1)) (ZbD m 0 di.1)=H2 at *
 generalize hM (.arena (eNs ns)) s 0=H at *
 generalize eN d=D at *
 generalize eN di=D2 at *
 generalize eNs ns=A at *
 have hz:∀ σ:Za,σ++XK 0 Zy.free=σ:=fun σ=>by simp
 simp -implicitDefEqProofs only [EQA,Zm,Zr,Zq,Zn,Zs,Zo,Zp,ZJ,ZN,ZO,ZL,ZI,ZP,ZK,ZH,ZQ,implies_true,forall_const,Xk,Xm,Xo,Xf,Xg,Xl,Xn,ZF,ZG,unA,Zx,Zz,unG,reduceCtorEq,Zl,decide_eq_true_eq,Xh,Xd,ite_self,↓reduceIte,Zw,ZE,gcT,gcA,Zh,Zf,Zc,Ze,Zt,Zb,Zi,Zd,Zu,Xj,Zk2,ZcX,Zim,hs,q1,q1',q2,hz,Z5,Z2,Z4,Z3,AVal.cells]
 have h5:=hrun [(31,.mapg 0 i false),(30,.nref 0 i 0),(29,.nref 0 i 0),(28,.nref 0 i 0),(27,.bool true),(10,.nref 0 i 0),(4,.fn 35 [.ref 1 0]),(3,.bool false),(2,.lst false S),(1,.str p),(0,.nref 0 j 0)] H hg
 unfold ZkX at h5
 simp only [ZgI,oI,oM,oF,oL] at h5
 rw [h5]
 rfl
theorem ZBj {g:Nat} (ho:okS m s g) (A:Zad):Zbq m (hM (.arena A) s g) (.tup [])=some (.tup [],hM (.arena A) s g):=by
 rcases ho with ⟨rfl,rfl⟩ | ⟨rfl,h,hg⟩
 ·exact ZoN (ZnV (by omega))
 ·cases s with
  | none=>exact absurd rfl h
  | some q =>
   rw [Zo4 (ZnV (by omega))]
   have : g=0\/g=1:=by omega
   rcases this with rfl | rfl <;> rfl
end
def ZbA (ns:List TN) (b:Bool) (p:Tx) (d:TN):List AVal:=if b then [] else Zbj (ZS [35] d.2) fun i=>match ns[i]? with
 | some di=>ZbQ (Zam p [35]) di.1
 | none=>[]
def ZbE (ns:List TN):List Tx->Bool->Tx->Nat->List AVal
 | [],b,p,j=>match ns[j]? with
  | some d=>ZbA ns b p d++ZbQ p d.1
  | none=>[]
 | l::r,b,p,j=>match ns[j]? with
  | some d=>ZbA ns b p d++(Zbj (ZS l d.2) (fun i=>ZbE ns r false (Zam p l) i)++(if b then [] else Zbj (ZS [43] d.2) (fun i=>ZbE ns r false (Zam p [43]) i)))
  | none=>[]
def Zee (l:List Tx):Nat:=(l.map fun x=>x.length+2).sum
theorem Zrk (p l:Tx):(Zam p l).length<=p.length+l.length+1:=by
 unfold Zam
 split
 ·omega
 ·simp;omega
theorem ZDt {α:Type} (m g:Nat) (M N:List α):ZbD m (ZbD m g M) N=ZbD m g (M++N):=by
 cases N with
 | nil=>rw [XU];rfl
 | cons x N=>cases M <;> rfl
theorem Zp5 (p:Tx) (M:List (Tx×Int)):(ZbQ p M).length=M.length:=by simp [ZbQ]
theorem Zsl (p:Tx) (M:List (Tx×Int)) (m g:Nat):ZbD m g M=ZbD m g (ZbQ p M):=by cases M <;> rfl
theorem Zlu {m:Nat} {s:Option Bag} (ho:okS m s 0) (R:List AVal):okS m (Zal s R) (ZbD m 0 R):=by
 cases R with
 | nil=>exact ho
 | cons x R=>exact Znd ho (x::R)
theorem ZpS (s:Option Bag):okS (mS s) s 0:=by
 cases s with
 | none=>exact Xw ⟨rfl,rfl⟩
 | some q=>exact XD ⟨rfl,by simp,Xbx _⟩
theorem ZlW (B:Zy) (s:Option Bag) (g:Nat):(hM B s g).length=mS s:=by cases s <;> rfl
theorem ZqK (ns:List TN) (hC:Closed ns) {m:Nat} {s:Option Bag} (ho:okS m s 0) (j:Nat) (d:TN) (hd:ns[j]?=some d) (b:Bool) (S:List AVal) (p:Tx) (hp:p.length+1<=1000000000000) (hb:Zcp s+(ZbA ns b p d).length<=1000000) :
  ∃ pre X Y,(pre=[(31,X)]\/pre=[(27,.bool false),(10,Y)])/\evC FC PR BY m hxC (vS b S p j) (hM (.arena (eNs ns)) s 0)=some (.normal,pre++vS b S p j,hM (.arena (eNs ns)) (Zal s (ZbA ns b p d)) (ZbD m 0 (ZbA ns b p d))):=by
 have hs:Zar (hM (.arena (eNs ns)) s 0) 0=some (eNs ns):=by cases s <;> rfl
 by_cases hn:b=true\/ZS [35] d.2=none
 ·have e:ZbA ns b p d=[]:=by
   unfold ZbA
   rcases hn with hn | hn
   ·rw [if_pos hn]
   ·rw [hn];split <;> rfl
  rw [e]
  exact ⟨_,.nilp,_,XD rfl,Zub ns j d b S p hs hd hn⟩
 ·have hb0:b=false:=by cases b <;> simp_all
  subst hb0
  cases hk:ZS [35] d.2 with
  | none=>exact absurd (XD hk) hn
  | some i =>
   have hi:=(hC.next hd hk).2
   obtain ⟨di,hdi⟩:∃ di,ns[i]?=some di:=⟨_,Xu hi⟩
   have e:ZbA ns false p d=ZbQ (Zam p [35]) di.1:=by
    unfold ZbA Zbj
    simp only [Xi,if_false,hk,hdi]
   rw [e] at hb ⊢
   rw [Zp5] at hb
   refine ⟨[(31,.mapg 0 i false)],.mapg 0 i false,.nilp,Xw rfl,?_⟩
   rw [<-Zsl]
   exact ZEF ns j d S p ho hd hk hdi hp hb
theorem Zsm (ns:List TN) (hC:Closed ns):∀ (name:List Tx) (b:Bool) (p:Tx) (j:Nat),j < ns.length->p.length+Zee name+2<=1000000000->∀ (s:Option Bag),Zcp s+(ZbE ns name b p j).length<=1000000 ->
  E 34 [.nref 0 j 0,.str p,.lst false (name.map AVal.str),.bool b,.fn 35 [.ref 1 0]] (hM (.arena (eNs ns)) s 0)=some (.tup [],hM (.arena (eNs ns)) (Zal s (ZbE ns name b p j)) (ZbD (mS s) 0 (ZbE ns name b p j))):=by
 intro name
 induction name with
 | nil =>
  intro b p j hj hp s hb
  obtain ⟨d,hd⟩:∃ d,ns[j]?=some d:=⟨_,Xu hj⟩
  have ho:=ZpS s
  have em:ZbE ns [] b p j=ZbA ns b p d++ZbQ p d.1:=by simp only [ZbE,hd]
  rw [em] at hb ⊢
  rw [XL,Zp5] at hb
  obtain ⟨pre,X,Y,hpre,e1⟩:=ZqK ns hC ho j d hd b [] p (by simp only [Zee,X9,List.sum_nil] at hp;omega) (by omega)
  have ho1:=Zlu ho (ZbA ns b p d)
  have e2:=ZED ns j d hd b p ho1 (by rw [ZhN];omega) X Y pre hpre
  rw [Znp,Zsl p,ZDt] at e2
  have ho2:=Zlu ho (ZbA ns b p d++ZbQ p d.1)
  have e3:=ZBj ho2 (eNs ns)
  rw [ZaY (by rfl) ZqJ,Zcg,ZqZ,ZlW]
  rw [show enterA 0 [AVal.nref 0 j 0,.str p,.lst false (([]:List Tx).map AVal.str),.bool b,.fn 35 [.ref 1 0]] []=vS b [] p j from rfl]
  rw [ZjM e1,e2]
  exact e3
 | cons l r ih =>
  intro b p j hj hp s hb
  obtain ⟨d,hd⟩:∃ d,ns[j]?=some d:=⟨_,Xu hj⟩
  have ho:=ZpS s
  have hlen:Zee (l::r)=l.length+2+Zee r:=by simp [Zee]
  have em:ZbE ns (l::r) b p j=ZbA ns b p d++(Zbj (ZS l d.2) (fun i=>ZbE ns r false (Zam p l) i)++(if b then [] else Zbj (ZS [43] d.2) (fun i=>ZbE ns r false (Zam p [43]) i))):=by simp only [ZbE,hd]
  rw [em] at hb ⊢
  rw [XL,XL] at hb
  obtain ⟨pre,X,Y,hpre,e1⟩:=ZqK ns hC ho j d hd b ((l::r).map AVal.str) p (by omega) (by omega)
  have ho1:=Zlu ho (ZbA ns b p d)
  have hg1:=Zk1 ho1
  have hg1':ZbD (mS s) 0 (ZbA ns b p d)<=1:=by
   cases s <;> cases ZbA ns b p d <;> simp [ZbD,ZbX,mS]
  have hj1:=Zrk p l
  have hj2:=Zrk p [43]
  simp only [WD] at hj2
  obtain ⟨σ',e2,r',g',hF2,hP⟩:=Zyn (m:=mS s) ns j d hd b p l r (by omega) (fun i=>ZbE ns r false (Zam p l) i) (fun i=>ZbE ns r false (Zam p [43]) i) (s:=Zal s (ZbA ns b p d)) (rr:=2) (gg:=ZbD (mS s) 0 (ZbA ns b p d)) (σ:=hM (.arena (eNs ns)) (Zal s (ZbA ns b p d)) (ZbD (mS s) 0 (ZbA ns b p d)))
   (ZnV (by omega)) (by rw [ZlW];cases Zal s (ZbA ns b p d) <;> simp [mS]) (by omega)
   (fun i hi s hs=>ih false (Zam p l) i (hC.next hd hi).2 (by omega) s hs)
   (fun i _ hi s hs=>ih false (Zam p [43]) i (hC.next hd hi).2 (by omega) s hs)
   (by rw [ZhN];omega)
  obtain ⟨⟨e,tm',σ''⟩,e3,e4⟩:=Xq.1 e2
  simp only [Xb] at e4
  obtain ⟨rfl,rfl⟩:=e4
  have hS:((((l::r).map AVal.str).length:Int) == 0)=false:=by simp;omega
  have e5:=ZvS ns j d hd b p ho1 ((l::r).map AVal.str) hS X Y pre hpre _ e3
  rw [Znp] at hF2
  have e6:Zbq (mS s) σ'' (.tup [])=some (.tup [],hM (.arena (eNs ns)) (Zal s (ZbA ns b p d++(Zbj (ZS l d.2) (fun i=>ZbE ns r false (Zam p l) i)++(if b then [] else Zbj (ZS [43] d.2) (fun i=>ZbE ns r false (Zam p [43]) i))))) (ZbD (mS s) 0 (ZbA ns b p d++(Zbj (ZS l d.2) (fun i=>ZbE ns r false (Zam p l) i)++(if b then [] else Zbj (ZS [43] d.2) (fun i=>ZbE ns r false (Zam p [43]) i)))))):=by
   generalize (Zbj (ZS l d.2) (fun i=>ZbE ns r false (Zam p l) i)++(if b then [] else Zbj (ZS [43] d.2) (fun i=>ZbE ns r false (Zam p [43]) i)))=W at *
   generalize ZbA ns b p d=T at *
   cases s with
   | none =>
    have : ZbD (mS none) 0 (T++W)=0:=by cases (T++W) <;> rfl
    rw [this]
    exact ZoN hF2
   | some q =>
    have hne:Zal (some q) T≠none:=by cases T <;> simp [Zal]
    obtain ⟨p1,p2,p3,p4⟩:=hP hne
    subst p1
    obtain ⟨q',hq'⟩:∃ q',Zal (some q) (T++W)=some q':=by cases (T++W) <;> exact ⟨_,rfl⟩
    rw [hq'] at hF2 ⊢
    rw [show mS (some q)=3 from rfl] at *
    rw [Zo4 hF2]
    congr 3
    rw [Zqw] at *
    cases T with
    | nil =>
     cases W with
     | nil=>simp [dR] at *;simp [p3]
     | cons x W=>simp [dR] at *;simp [p3]
    | cons x T=>simp [dR] at *;omega
  rw [ZaY (by rfl) ZqJ,Zcg,ZqZ,ZlW]
  rw [show enterA 0 [AVal.nref 0 j 0,.str p,.lst false ((l::r).map AVal.str),.bool b,.fn 35 [.ref 1 0]] []=vS b ((l::r).map AVal.str) p j from rfl]
  rw [ZjM e1,e5]
  exact e6
end
section
def ZmZ:Zg:=(.seq (.region [oI 4 (.mov (.c (.int .i64 (-1))))] none [4]) .ret)
def Zoy:Zg:=ZmZ
def ZBN:=xw Zoy ZmZ rfl
def Zl5:Zg:=(.seq (.seq (.region [oM 57 8,oM 58 9,oI 59 (.bin .lss (.t 57) (.t 58))] none [59,10,9,8,7,6,5,1,0]) (.cond (.t 59) .skip (.exit 1))) (.block 2 (.seq (.seq (.region [oM 60 0,oM 61 8,oI 62 (.sindex (.t 60) (.t 61)),oM 63 6,oI 64 (.bin .neq (.t 62) (.t 63))] none [64,10,9,8,7,6,5,1,0]) (.cond (.t 64) (.seq (.region [oM 65 0,oM 66 8,oI 67 (.bin .add (.t 66) (.c (.int .i64 1))),oM 68 9,oI 69 (.sslice (.t 65) (some (.t 67)) (some (.t 68))),oM 70 6,oI 71 (.call 92 0 true [(.t 69),(.t 70)]),oM 11 71] none [11,10,8,7,5,1,0]) (.seq (.seq (.region [oM 72 11,oI 73 (.bin .lss (.t 72) (.c (.int .i64 0)))] none [73,11,10,8,7,5,1,0]) (.cond (.t 73) (.seq (.region [oI 4 (.mov (.c (.int .i64 (-1))))] none [4]) .ret) .skip)) (.region [oM 74 8,oM 75 11,oI 76 (.bin .add (.t 75) (.c (.int .i64 1))),oI 77 (.bin .add (.t 74) (.t 76)),oM 8 77] none [10,8,7,5,1,0]))) .skip)) (.seq (.seq (.region [oM 78 0,oM 79 8,oI 80 (.bin .add (.t 79) (.c (.int .i64 1))),oI 81 (.sindex (.t 78) (.t 80)),oM 82 7,oI 83 (.bin .eql (.t 81) (.t 82)),oM 84 83,⟨(some 85),(.mov (.t 0)),(some (84,true)),[]⟩,⟨(some 86),(.mov (.t 8)),(some (84,true)),[]⟩,⟨(some 87),(.mov (.t 8)),(some (84,true)),[]⟩,⟨(some 88),(.mov (.t 5)),(some (84,true)),[]⟩,⟨(some 89),(.bin .add (.t 87) (.t 88)),(some (84,true)),[]⟩,⟨(some 90),(.sslice (.t 85) (some (.t 86)) (some (.t 89))),(some (84,true)),[]⟩,⟨(some 91),(.mov (.t 1)),(some (84,true)),[]⟩,⟨(some 92),(.bin .eql (.t 90) (.t 91)),(some (84,true)),[]⟩,oI 93 (.pick (.t 84) (.t 92) (.c (.bool false)))] none [93,10,8]) (.cond (.t 93) (.seq (.region [oM 94 8,oM 4 94] none [4]) .ret) .skip)) (.seq (.region [oM 95 8,oI 96 (.bin .add (.t 95) (.c (.int .i64 1))),oM 8 96] none [10]) (.seq (.region [oM 97 10,oI 98 (.bin .add (.t 97) (.c (.int .i64 1))),oM 10 98] none []) (.seq .stuck (.cond (.t 107) (.seq (.region [oM 108 0,oM 109 8,oI 110 (.sslice (.t 108) (some (.t 109)) none),oM 111 1,oI 112 (.call 81 0 true [(.t 110),(.t 111)]),oM 12 112] none [12,8]) (.seq (.seq (.region [oM 113 12,oI 114 (.bin .geq (.t 113) (.c (.int .i64 0)))] none [114,12,8]) (.cond (.t 114) (.seq (.region [oM 115 12,oM 116 8,oI 117 (.bin .add (.t 115) (.t 116)),oM 4 117] none [4]) .ret) .skip)) (.seq (.region [oI 4 (.mov (.c (.int .i64 (-1))))] none [4]) .ret))) (.seq .stuck (.cond (.t 132) (.seq (.region [oM 133 0,oM 134 8,oI 135 (.sslice (.t 133) (some (.t 134)) none),oM 136 1,oI 137 (.call 94 0 true [(.t 135),(.t 136)]),oM 13 137] none [13,8]) (.seq (.seq (.region [oM 138 13,oI 139 (.bin .lss (.t 138) (.c (.int .i64 0)))] none [139,13,8]) (.cond (.t 139) (.seq (.region [oI 4 (.mov (.c (.int .i64 (-1))))] none [4]) .ret) .skip)) (.seq (.region [oM 140 8,oM 141 13,oI 142 (.bin .add (.t 140) (.t 141)),oM 4 142] none [4]) .ret))) .skip))))))))))
def Zok:Zg:=Zl5
def ZCn:=xw Zok Zl5 rfl
def Zmr:Zg:=(.seq (.region [oI 4 (.mov (.c (.int .i64 0)))] none [1,0]) (.seq (.region [oM 14 1,oI 15 (.slen (.t 14)),oM 5 15] none [5,1,0]) (.seq (.block 0 (.seq (.region [oM 17 5,oI 18 (.bin .eql (.t 17) (.c (.int .i64 0))),oM 19 18,⟨(some 20),(.mov (.t 1)),(some (19,false)),[]⟩,⟨(some 21),(.mov (.t 0)),(some (19,false)),[]⟩,⟨(some 22),(.bin .eql (.t 20) (.t 21)),(some (19,false)),[]⟩,oI 23 (.pick (.t 19) (.c (.bool true)) (.t 22)),oM 16 23] none [16,5,1,0]) (.cond (.t 16) (.seq (.region [oI 4 (.mov (.c (.int .i64 0)))] none [4]) .ret) (.seq (.region [oM 25 5,oI 26 (.bin .eql (.t 25) (.c (.int .i64 1))),oM 24 26] none [24,5,1,0]) (.cond (.t 24) (.seq (.region [oM 27 0,oM 28 1,oI 29 (.sindex (.t 28) (.c (.int .i64 0))),oI 30 (.call 92 0 true [(.t 27),(.t 29)]),oM 4 30] none [4]) .ret) (.seq (.region [oM 32 5,oM 33 0,oI 34 (.slen (.t 33)),oI 35 (.bin .geq (.t 32) (.t 34)),oM 31 35] none [31]) (.cond (.t 31) (.seq (.region [oI 4 (.mov (.c (.int .i64 (-1))))] none [4]) .ret) (.seq .stuck (.cond (.t 36) (.seq (.region [oM 45 0,oM 46 1,oI 47 (.call 81 0 true [(.t 45),(.t 46)]),oM 4 47] none [4]) .ret) .skip))))))))) (.seq (.region [oM 48 1,oI 49 (.sindex (.t 48) (.c (.int .i64 0))),oM 6 49] none [6,5,1,0]) (.seq (.region [oM 50 1,oI 51 (.sindex (.t 50) (.c (.int .i64 1))),oM 7 51] none [7,6,5,1,0]) (.seq (.region [oI 8 (.mov (.c (.int .i64 0)))] none [8,7,6,5,1,0]) (.seq (.region [oM 52 0,oI 53 (.slen (.t 52)),oM 54 5,oI 55 (.bin .sub (.t 53) (.t 54)),oI 56 (.bin .add (.t 55) (.c (.int .i64 1))),oM 9 56] none [9,8,7,6,5,1,0]) (.seq (.region [oI 10 (.mov (.c (.int .i64 0)))] none [10,9,8,7,6,5,1,0]) (.seq (.block 1 (.loop [10,9,8,7,6,5,1,0] Zok)) Zoy)))))))))
def Zm7:ZaA:=⟨[(.tmp 4)],Zmr⟩
theorem ZHZ:FC 86=some Zm7:=by kernel_rfl
theorem ZtE:Zm7.body=Zmr:=rfl
theorem Zzh:Zm7.res=[(.tmp 4)]:=rfl
def Zky:Zg:=(.seq (.region [oI 4 (.mov (.c (.int .i64 0)))] none [1,0]) (.seq (.region [oM 5 0,oM 6 1,oI 7 (.call 86 0 true [(.t 5),(.t 6)]),oM 4 7] none [4]) .ret))
def ZmX:ZaA:=⟨[(.tmp 4)],Zky⟩
theorem ZCT:FC 67=some ZmX:=by kernel_rfl
theorem ZEg:ZmX.body=Zky:=rfl
theorem ZwZ:ZmX.res=[(.tmp 4)]:=rfl
def Znl:Zg:=(.seq (.region [oI 4 (.mov (.c (.lst true [])))] none [1,0]) (.seq (.region [oM 5 0,oM 6 1,oI 7 (.call 55 0 true [(.t 5),(.t 6),(.c (.int .i64 0)),(.c (.int .i64 (-1)))]),oM 4 7] none [4]) .ret))
def ZnO:ZaA:=⟨[(.tmp 4)],Znl⟩
theorem ZxZ:FC 47=some ZnO:=by kernel_rfl
theorem ZtM:ZnO.body=Znl:=rfl
theorem ZEz:ZnO.res=[(.tmp 4)]:=rfl
def ZhO:Zg:=(.seq (.region [oM 58 9,oM 59 10,oM 60 0,oI 61 (.iaddr 1 (.t 58) (.t 59)),oN (.st 1 (.t 61) (.t 60))] none [10,9]) (.seq (.region [oM 62 9,oM 63 10,oI 64 (.bin .add (.t 63) (.c (.int .i64 1))),oI 65 (.slice 1 (.t 62) none (some (.t 64)) none),oM 8 65] none [8]) .ret))
def ZkT:Zg:=ZhO
def ZlG:=xw ZkT ZhO rfl
def Zij:Zg:=(.seq (.seq (.region [oM 34 10,oM 35 3,oI 36 (.bin .lss (.t 34) (.t 35))] none [36,10,9,3,2,1,0]) (.cond (.t 36) .skip (.exit 0))) (.block 1 (.seq (.region [oM 37 0,oM 38 1,oI 39 (.call 67 0 true [(.t 37),(.t 38)]),oM 11 39] none [11,10,9,3,2,1,0]) (.seq (.seq (.region [oM 40 11,oI 41 (.bin .lss (.t 40) (.c (.int .i64 0)))] none [41,11,10,9,3,2,1,0]) (.cond (.t 41) (.exit 0) .skip)) (.seq (.region [oM 42 9,oM 43 10,oM 44 0,oM 45 11,oM 46 2,oI 47 (.bin .add (.t 45) (.t 46)),oI 48 (.sslice (.t 44) none (some (.t 47))),oI 49 (.iaddr 1 (.t 42) (.t 43)),oN (.st 1 (.t 49) (.t 48))] none [11,10,9,3,2,1,0]) (.seq (.region [oM 50 0,oM 51 11,oM 52 1,oI 53 (.slen (.t 52)),oI 54 (.bin .add (.t 51) (.t 53)),oI 55 (.sslice (.t 50) (some (.t 54)) none),oM 0 55] none [10,9,3,2,1,0]) (.region [oM 56 10,oI 57 (.bin .add (.t 56) (.c (.int .i64 1))),oM 10 57] none [10,9,3,2,1,0])))))))
def ZkW:Zg:=Zij
def ZkN:=xw ZkW Zij rfl
def Zh3:Zg:=(.seq (.region [oI 8 (.mov (.c (.lst true [])))] none [3,2,1,0]) (.seq (.seq (.region [oM 12 3,oI 13 (.bin .eql (.t 12) (.c (.int .i64 0)))] none [13,3,2,1,0]) (.cond (.t 13) (.seq (.region [oI 8 (.mov (.c (.lst true [])))] none [8]) .ret) .skip)) (.seq (.seq (.region [oM 14 1,oI 15 (.bin .eql (.t 14) (.c (.str [])))] none [15,3,2,1,0]) (.cond (.t 15) (.seq (.region [oM 16 0,oM 17 3,oI 18 (.call 65 0 true [(.t 16),(.t 17)]),oM 8 18] none [8]) .ret) .skip)) (.seq (.seq (.region [oM 19 3,oI 20 (.bin .lss (.t 19) (.c (.int .i64 0)))] none [20,3,2,1,0]) (.cond (.t 20) (.region [oM 21 0,oM 22 1,oI 23 (.call 66 0 true [(.t 21),(.t 22)]),oI 24 (.bin .add (.t 23) (.c (.int .i64 1))),oM 3 24] none [3,2,1,0]) .skip)) (.seq (.region [oM 25 3,oM 26 0,oI 27 (.slen (.t 26)),oI 28 (.bin .add (.t 27) (.c (.int .i64 1))),oI 29 (.mm false [(.t 25),(.t 28)]),oM 3 29] none [3,2,1,0]) (.seq (.region [oM 30 3,oI 31 (.mkslice 1 16 (.str []) (.t 30) (.t 30)),oM 9 31] none [9,3,2,1,0]) (.seq (.region [oM 32 3,oI 33 (.bin .sub (.t 32) (.c (.int .i64 1))),oM 3 33] none [9,3,2,1,0]) (.seq (.region [oI 10 (.mov (.c (.int .i64 0)))] none [10,9,3,2,1,0]) (.seq (.block 0 (.loop [10,9,3,2,1,0] ZkW)) ZkT)))))))))
def Zjf:ZaA:=⟨[(.tmp 8)],Zh3⟩
theorem ZuK:FC 55=some Zjf:=by kernel_rfl
theorem Zl8:Zjf.body=Zh3:=rfl
theorem ZkO:Zjf.res=[(.tmp 8)]:=rfl
noncomputable def Zjv (m:Nat) (tm:Tms) (σ:Za):Option (AVal×Za):=(Zbt m Zjf (Zb5 FC PR BY m ZkT (W0 (Zbz 0) (evL FC PR BY m [10,9,3,2,1,0] ZkW tm σ))))
end
end Go.Proofs.YtbjflkbenobjjaaDoor
