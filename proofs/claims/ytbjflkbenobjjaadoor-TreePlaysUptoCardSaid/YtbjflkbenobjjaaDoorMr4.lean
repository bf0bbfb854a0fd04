/- packed -/
import Derived.Test.YtbjflkbenobjjaaDoorMr3
import Derived.Lib.TrimUEq
import Derived.Lib.MapLaws
import Derived.Lib.ValidLaws
import Derived.Sort.Walk0
set_option linter.defProp false
set_option linter.unusedSectionVars false
set_option linter.unusedSimpArgs false
set_option linter.unusedVariables false
open Prod.mk renaming injEq→Xb
open Nat renaming reduceEqDiff→Xc,reduceLT→Xe,reduceAdd→Xj,reduceBEq→Xk,reduceLeDiff→Xo,le_refl→Xz,zero_add→XC,zero_le→XaM
open List renaming getElem?_eq_some_iff→Xd,getD_eq_getElem?_getD→Xf,getElem?_eq_getElem→Xl,getElem?_set→Xn,nil_append→Xp,replicate→Xq,getElem?_set_ne→Xs,mem_map→Xv,map_cons→Xx,append_nil→XA,mem_cons→XB,getD_cons_zero→XD,length_cons→XE,getElem?_set_self→XF,cons_append→XH,flatMap_cons→XI,getD_cons_succ→XL,contains_cons→XO,length_nil→XP,contains_nil→XU,range_succ→X6,flatMap_nil→X7,all_cons→X8,mem_cons_of_mem→X9,map_map→Wb,getElem?_append_left→Wc,take_of_length_le→Wi,range→Wn,drop_eq_nil_iff→Wq,length_set→Wt,length_drop→Wv,length_singleton→Wz,all_nil→WC,lookup_nil→WG,set_cons_zero→WX,isEmpty_nil→Xag,append_assoc→Xaj,range_zero→Xal,any_cons→Xaz,drop_zero→XaF,singleton_append→XaP,drop_drop→Xa8
open Bool renaming false_eq_true→Xg,and_self→Wm,or_self→WA,eq_iff_iff→Xac,false_and→Xai,or_true→Xbq,and_false→Xbt
open Option renaming map_eq_some_iff→Xh,map→WE,isSome_none→Xad
open Or renaming inl→Xm,inr→Xr
open Int renaming toNat_natCast→XY,le_refl→Ws,toNat_zero→WB,reduceToNat→XaO
open Quot renaming mk→WZ,exists_rep→Xa3,sound→XbO
open UInt8 renaming toNat_inj→Xam
open List.Perm renaming refl→XaG
namespace Go.Proofs.YtbjflkbenobjjaaDoor
set_option maxHeartbeats 16000000
set_option maxRecDepth 10000
section
def ZtG:=(aI (aI (aI (aI (aI (aI @Zz8 @ZGA) (aI @ZvJ @ZIx)) (aI (aI @Zlr @ZIl) (aI @ZGU @ZyU))) (aI (aI (aI @ZpX @ZnQ) (aI @ZCW @ZoI)) (aI (aI @ZLV @ZCd) (aI @ZBu @Zy4)))) (aI (aI (aI (aI @ZE8 @ZKE) (aI @ZC6 @Zxr)) (aI (aI @ZJz @ZBD) (aI @ZJm @ZLJ))) (aI (aI (aI @ZIs @ZFh) (aI @Zya @ZyZ)) (aI (aI @ZwG @ZKJ) (aI @ZFC @ZzV))))) (aI (aI (aI (aI (aI @Zv1 @ZK4) (aI @Zzh @ZI9)) (aI (aI @ZJj @Zva) (aI @ZyC @ZEU))) (aI (aI (aI @ZB6 @ZwV) (aI @ZF2 @Zy3)) (aI (aI @ZtY @ZnJ) (aI @ZBT @ZyV)))) (aI (aI (aI (aI @ZxU @ZJw) (aI @ZJd @ZKh)) (aI (aI @ZMT @ZnK) (aI @ZJe @ZLc))) (aI (aI (aI @Zvq @Zv2) (aI @ZzT @ZyN)) (aI (aI @ZBF @ZB2) (aI @ZAF @Zyk))))))
def ZHg:=(aI (aI (aI (aI (aI (aI @ZI6 @ZEK) (aI @ZDV @ZHv)) (aI (aI @ZCv @Zzm) (aI @Zzq @ZMw))) (aI (aI (aI @Zw4 @ZKS) (aI @ZEH @ZrZ)) (aI (aI @Zu2 @ZAQ) (aI @ZAs @ZEJ)))) (aI (aI (aI (aI @Zyx @ZL8) (aI @ZLF @Zw6)) (aI (aI @Zr9 @ZHi) (aI @ZMl @ZA8))) (aI (aI (aI @ZG0 @ZwB) (aI @Zvs @ZEn)) (aI (aI @Zyy @ZJT) (aI @ZDY @ZIb))))) (aI (aI (aI (aI (aI @ZMG @ZBY) (aI @Zxf @ZAE)) (aI (aI @ZFL @ZFx) (aI @ZMx @Zzy))) (aI (aI (aI @Zwk @ZzM) (aI @ZEF @ZFn)) (aI (aI @ZCV @ZvP) (aI @ZyL @Zye)))) (aI (aI (aI (aI @ZBW @ZFv) (aI @ZzH @ZzA)) (aI (aI @ZMc @ZyW) (aI @ZHS @ZGH))) (aI (aI (aI @ZIK @ZAa) (aI @ZJk @ZH1)) (aI (aI @ZKm @ZMs) (aI @ZCO @ZHm))))))
def Zey:=(aI (aI (aI (aI (aI (aI @ZKb @ZAU) (aI @Zve @ZvD)) (aI (aI @ZDT @ZMf) (aI @ZC2 @ZGi))) (aI (aI (aI @ZLH @ZE2) (aI @ZIQ @Zzk)) (aI (aI @ZwM @ZyS) (aI @ZBR @ZHq)))) (aI (aI (aI (aI @ZGg @Zwz) (aI @ZJH @Zvo)) (aI (aI @Zxz @ZFt) (aI @ZGM @Zwa))) (aI (aI (aI @Zy7 @ZBv) (aI @ZDt @ZHV)) (aI (aI @ZMD @ZKy) (aI @ZK7 @ZMy))))) (aI (aI (aI (aI (aI @ZIi @ZKc) (aI @Zz4 @Zvl)) (aI (aI @ZzU @ZBB) (aI @ZI1 @ZwA))) (aI (aI (aI @ZEp @ZDJ) (aI @ZBJ @ZAt)) (aI (aI @ZDL @ZAL) (aI @Zy8 @ZEr)))) (aI (aI (aI (aI @ZKt @ZKN) (aI @ZD3 @ZCm)) (aI (aI @ZwS @ZD7) (aI @ZAb @ZC9))) (aI (aI (aI @ZDf @ZBA) (aI @ZKx @ZGO)) (aI (aI @ZKi @ZzB) (aI @ZLI @ZxY))))))
def Zbe:=(aI (aI (aI (aI (aI (aI @ZKn @ZI0) (aI @ZLK @ZMJ)) (aI (aI @ZEY @ZEo) (aI @ZJt @ZJb))) (aI (aI (aI @ZvB @ZMM) (aI @ZCG @Zyb)) (aI (aI @ZIJ @ZAj) (aI @ZyG @ZGx)))) (aI (aI (aI (aI @ZBs @Zyg) (aI @ZDr @ZGT)) (aI (aI @Zwt @ZDC) (aI @ZKd @ZxM))) (aI (aI (aI @ZHW @Zxx) (aI @ZGa @ZIr)) (aI (aI @ZEZ @Zxi) (aI @ZGr @Zzp))))) (aI (aI (aI (aI (aI @ZJG @ZAg) (aI @ZMj @ZC4)) (aI (aI @ZBl @ZAu) (aI @Zwd @ZCa))) (aI (aI (aI @ZLm @ZFK) (aI @ZER @ZCw)) (aI (aI @ZMb @ZKC) (aI @ZDK @ZBy)))) (aI (aI (aI (aI @ZIt @ZMU) (aI @Zyj @ZCq)) (aI (aI @ZHZ @ZFg) (aI @ZFX @Zv4))) (aI (aI (aI @ZLp @ZDj) (aI @ZJK @ZFU)) (aI (aI @ZG2 @ZDg) (aI @ZFV @Zxc))))))
def Zab:=(aI (aI (aI (aI (aI (aI @ZEE @ZK0) (aI @ZJ7 @Zvd)) (aI (aI @ZAl @ZKp) (aI @ZyA @ZEb))) (aI (aI (aI @Zzx @ZGe) (aI @ZwQ @Zw7)) (aI (aI @ZCS @ZA4) (aI @ZKK @ZJV)))) (aI (aI (aI (aI @ZLT @ZJh) (aI @ZIh @ZL1)) (aI (aI @Zvn @ZvH) (aI @Zxs @ZGP))) (aI (aI (aI @ZES @ZEq) (aI @Zwh @ZFm)) (aI (aI @Zzl @ZHx) (aI @ZK2 @ZBr))))) (aI (aI (aI (aI (aI @ZF7 @Zx5) (aI @Zy5 @ZJp)) (aI (aI @ZB3 @ZHA) (aI @ZJf @ZzS))) (aI (aI (aI @Zxk @ZyT) (aI @ZDD @ZLa)) (aI (aI @ZGw @ZCk) (aI @ZAY @ZGE)))) (aI (aI (aI (aI @ZJr @ZzO) (aI @ZAh @ZBP)) (aI (aI @ZJ2 @ZI4) (aI @ZAo @ZJR))) (aI (aI (aI @ZCR @ZBL) (aI @Zvb @ZD0)) (aI (aI @ZEC @ZJl) (aI @Zwe @ZwR))))))
def ZcA:=(aI (aI (aI (aI (aI (aI @ZJ6 @ZCg) (aI @ZGp @Zv7)) (aI (aI @ZD6 @Zu8) (aI @ZGV @ZJi))) (aI (aI (aI @Zzb @ZzF) (aI @ZFq @ZEB)) (aI (aI @ZAz @ZJX) (aI @ZLu @ZyH)))) (aI (aI (aI (aI @ZAG @ZD4) (aI @ZJ0 @ZH6)) (aI (aI @ZEj @ZIS) (aI @ZHM @ZEk))) (aI (aI (aI @Zxg @Zwq) (aI @ZwZ @ZEd)) (aI (aI @ZKR @ZBx) (aI @ZLs @ZIe))))) (aI (aI (aI (aI (aI @ZAA @ZwH) (aI @ZAr @ZCX)) (aI (aI @ZBi @ZEs) (aI @ZHz @ZxT))) (aI (aI (aI @ZFk @ZFM) (aI @ZDx @ZxK)) (aI (aI @ZCn @ZAZ) (aI @ZvQ @ZxO)))) (aI (aI (aI (aI @ZwF @ZDl) (aI @ZBU @Zu9)) (aI (aI @Zyo @ZAn) (aI @ZAm @ZxG))) (aI (aI (aI @ZAw @ZJM) (aI @ZIp @ZED)) (aI (aI @ZHh @ZKF) (aI @Zvh @ZDb))))))
def ZbK:=(aI (aI (aI (aI (aI (aI @ZxB @ZKH) (aI @ZFu @Zze)) (aI (aI @ZwN @ZDX) (aI @ZGD @ZvF))) (aI (aI (aI @ZE9 @ZF3) (aI @ZEg @ZJS)) (aI (aI @Zvz @ZFr) (aI @ZID @ZEz)))) (aI (aI (aI (aI @ZxC @Zxu) (aI @ZB7 @ZMv)) (aI (aI @ZHy @ZDA) (aI @ZG5 @ZG6))) (aI (aI (aI @ZMu @ZE3) (aI @ZDk @ZI2)) (aI (aI @ZDo @Zzw) (aI @ZKW @ZBo))))) (aI (aI (aI (aI (aI @ZG8 @ZHk) (aI @ZL3 @ZGh)) (aI (aI @ZBn @Zyu) (aI @ZA5 @ZA9))) (aI (aI (aI @Zxm @ZKj) (aI @Zwu @ZFT)) (aI (aI @ZLv @ZKT) (aI @ZAf @ZvV)))) (aI (aI (aI (aI @ZIv @ZAi) (aI @ZFD @ZvW)) (aI (aI @ZBq @ZL6) (aI @ZJo @ZF6))) (aI (aI (aI @ZCt @ZEl) (aI @ZE1 @ZEw)) (aI (aI @ZzE @ZDI) (aI @ZCr @ZDU))))))
def Zad:=(aI (aI (aI (aI (aI (aI @ZxX @Zy2) (aI @ZLk @ZyB)) (aI (aI @Zxw @ZAP) (aI @ZLf @ZxF))) (aI (aI (aI @ZvL @ZKX) (aI @ZIj @ZCZ)) (aI (aI @ZBg @ZMo) (aI @ZAN @ZHR)))) (aI (aI (aI (aI @ZGf @ZMK) (aI @ZFZ @ZGK)) (aI (aI @ZLM @ZDM) (aI @ZvS @ZHY))) (aI (aI (aI @Zxo @ZDz) (aI @Zxy @ZLA)) (aI (aI @ZxJ @ZLW) (aI @ZxW @ZI8))))) (aI (aI (aI (aI (aI @ZMk @Zx7) (aI @ZC7 @Zv0)) (aI (aI @ZGm @ZHt) (aI @ZEh @ZL5))) (aI (aI (aI @Zyp @ZBe) (aI @ZGb @ZMh)) (aI (aI @ZL7 @ZCy) (aI @ZBG @ZvU)))) (aI (aI (aI (aI @ZMS @ZLZ) (aI @Zwj @Zx2)) (aI (aI @ZMB @Zvu) (aI @ZEO @Zxd))) (aI (aI (aI @ZGL @ZCJ) (aI @ZxQ @ZHo)) (aI (aI @ZL0 @Zy1) (aI @ZFI @ZLD))))))
def ZE:=(aI (aI (aI (aI (aI @ZKo @ZzI) (aI @Zy0 @ZvZ)) (aI (aI @ZGo @ZJ5) (aI @Zu6 (aI @ZvE @ZA0)))) (aI (aI (aI @ZFG @ZMA) (aI @ZH8 @Zxv)) (aI (aI @Zyl @ZLl) (aI @ZFl (aI @ZFz @ZMP))))) (aI (aI (aI (aI @ZHQ @ZJP) (aI @ZvN @ZAk)) (aI (aI @ZJn @Zvg) (aI @ZMq (aI @ZCP @ZDP)))) (aI (aI (aI @ZEN @ZLX) (aI @Zzj (aI @ZGd @Zy9))) (aI (aI @ZMF @ZJc) (aI @ZCT (aI @ZwP @ZtF))))))
def ZD:=(aI (aI (aI (aI (aI (aI @List.map_cons.{0,0} @List.map_nil.{0,0}) (aI @List.length_cons.{0} @List.length_nil.{0})) (aI (aI @List.replicate_zero.{0} @List.replicate_succ.{0}) (aI @List.append_nil.{0} @List.nil_append.{0}))) (aI (aI (aI @List.cons_append.{0} @List.getElem?_cons_zero.{0}) (aI @List.getElem?_cons_succ.{0} @List.set_cons_zero.{0})) (aI (aI @List.set_cons_succ.{0} @Nat.add_zero) (aI @Nat.zero_add @Bool.true_or)))) (aI (aI (aI (aI @Bool.false_or @Bool.or_true) (aI @Bool.or_false @Bool.and_true)) (aI (aI @Bool.true_and @Bool.and_self) (aI @Bool.and_false @Bool.false_and))) (aI (aI (aI @if_true.{1} @if_false.{1}) (aI @ite_true.{1} @ite_false.{1})) (aI (aI @Option.map_some.{0,0} @Option.map_none.{0,0}) (aI @and_self @and_true))))) (aI (aI (aI (aI (aI @true_and @and_false) (aI @false_and @true_or)) (aI (aI @or_true @false_or) (aI @or_false @not_true_eq_false))) (aI (aI (aI @not_false_eq_true @List.drop_zero.{0}) (aI @List.drop_succ_cons.{0} @List.take_succ_cons.{0})) (aI (aI @List.take_zero.{0} @List.all_cons.{0}) (aI @List.all_nil.{0} @List.isEmpty_nil.{0})))) (aI (aI (aI (aI @Bool.not_false @Bool.not_true) (aI @List.length_map.{0,0} @Bool.bne_false)) (aI (aI @Bool.bne_true @List.isEmpty_cons.{0}) (aI @List.getD_cons_zero.{0} @List.getD_cons_succ.{0}))) (aI (aI (aI @List.getD_nil.{0} @List.contains_nil.{0}) (aI @List.range_zero @List.flatMap_cons.{0,0})) (aI (aI @List.flatMap_nil.{0,0} @List.zip_cons_cons.{0,0}) (aI @List.zip_nil_left.{0,0} @List.zip_nil_right.{0,0}))))))
def ZaH:=@Nat.not_lt_zero
def EQA := (aI (aI (aI (aI (aI (aI (aI ZtG ZHg) (aI ZcA ZD)) (aI (aI @exI.eq_1 @nsite.eq_1) (aI @nsite.eq_2 @nsite.eq_3))) (aI (aI (aI @nsite.eq_4 @nsite.eq_5) (aI @nsite.eq_6 @nsite.eq_7)) (aI (aI @nsite.eq_8 @nsite.eq_9) (aI @nsite.eq_10 (aI @nsite.eq_11 @nsite.eq_12))))) (aI (aI (aI (aI @nsite.eq_13 @nsite.eq_14) (aI @nsite.eq_15 @freeAt.eq_1)) (aI (aI @execI.eq_1 @execI.eq_2) (aI @execI.eq_3 (aI @execI.eq_4 @execI.eq_5)))) (aI (aI (aI @execI.eq_6 @execI.eq_7) (aI @execI.eq_8 @execI.eq_9)) (aI (aI @execI.eq_10 @execI.eq_11) (aI @execI.eq_12 (aI @execI.eq_13 @execI.eq_14)))))) (aI (aI (aI (aI (aI @execI.eq_15 @execI.eq_16) (aI @execI.eq_17 @execI.eq_18)) (aI (aI @execI.eq_19 @execI.eq_20) (aI @execI.eq_21 (aI @execI.eq_22 @execI.eq_23)))) (aI (aI (aI @execI.eq_24 @execI.eq_25) (aI @execI.eq_26 @execI.eq_27)) (aI (aI @execI.eq_28 @execI.eq_29) (aI @execI.eq_30 (aI @execI.eq_31 @execI.eq_32))))) (aI (aI (aI (aI @execI.eq_33 @execI.eq_34) (aI @execI.eq_35 @execI.eq_36)) (aI (aI @execI.eq_37 @execI.eq_38) (aI @execI.eq_39 (aI @execI.eq_40 @execI.eq_41)))) (aI (aI (aI @execI.eq_42 @execI.eq_43) (aI @execI.eq_44 @execI.eq_45)) (aI (aI @execI.eq_46 @execI.eq_47) (aI @execI.eq_48 (aI @execI.eq_49 @execI.eq_50))))))) (aI (aI (aI (aI (aI (aI @execI.eq_51 @execI.eq_52) (aI @execI.eq_53 @Opd.ev.eq_1)) (aI (aI @Opd.ev.eq_2 @tget.eq_1) (aI @tget.eq_2 (aI @tins.eq_1 @tins.eq_2)))) (aI (aI (aI @tput.eq_1 @tput.eq_2) (aI @keepL.eq_1 @sitesOf.eq_1)) (aI (aI @resA.eq_1 @resAll.eq_1) (aI @resAll.eq_2 (aI @resOne.eq_1 @resOne.eq_2))))) (aI (aI (aI (aI @enterA.eq_1 @enterA.eq_2) (aI @partA.eq_1 @partA.eq_2)) (aI (aI @faddrA.eq_1 @faddrA.eq_2) (aI @faddrA.eq_3 (aI @faddrA.eq_4 @setAt.eq_1)))) (aI (aI (aI @binA.eq_1 @binA.eq_2) (aI @binA.eq_3 @binA.eq_4)) (aI (aI @binA.eq_5 @arithA.eq_1) (aI @arithA.eq_2 (aI @arithA.eq_3 @arithA.eq_4)))))) (aI (aI (aI (aI (aI @arithA.eq_5 @arithA.eq_6) (aI @arithA.eq_7 @arithA.eq_8)) (aI (aI @arithA.eq_9 @arithA.eq_10) (aI @arithA.eq_11 (aI @arithA.eq_12 @arithA.eq_13)))) (aI (aI (aI @arithA.eq_14 @arithA.eq_15) (aI @arithA.eq_16 @ldA.eq_1)) (aI (aI @ldA.eq_2 @ldA.eq_3) (aI @ldA.eq_4 (aI @stA.eq_1 @stA.eq_2))))) (aI (aI (aI (aI @stA.eq_3 @oI.eq_1) (aI @oN.eq_1 @oM.eq_1)) (aI (aI @oF.eq_1 @oL.eq_1) (aI @List.sum_cons.{0} (aI @List.sum_nil.{0} @eq_self.{1})))) (aI (aI (aI @beq_self_eq_true.{0} @Bool.false_eq_true) (aI @Option.some.injEq.{0} @decide_true)) (aI (aI @decide_false @List.foldl_cons.{0, 0}) (aI @List.foldl_nil.{0, 0} (aI @List.contains_cons.{0} @ne_eq.{1}))))))))
end
section
theorem Zb7 {O:ZG} {bf:Nat->Bool} {σ:Za} {sq f own:Nat} {view:Bool} {args vs vs':List AVal} {ids:List Nat} {h0 h:Za} {r0 r:AVal} (hb:bf f=false) (hsh:showAs σ args=some (vs,[])) (hre:Zi σ 1000 (Zx vs) []=ids) (hne:ids.isEmpty=false)
  (hall:(ids.all fun t=>okB (σ.getD t .free))=true) (hvs:Zo (Ze σ 0 ids) vs=vs') (hh:Zg σ 0 ids (Ze σ 0 ids) ids 0=h0) {hh0:Za} (hO:O f vs' h0=some (r0,hh0)) (hv:Zaj view ids.length (some (r0,hh0))=some (r,h))
  (hl1:h.length<=ids.length+own) (hl2:ids.length<=h.length) (hk:Z5 σ ids h 0=true) (hff:Zai σ sq own=true) {r':AVal} (hr:Zf (Zaf σ ids sq) r=r') {σ':Za} (hlay:ZW σ ids sq h 0 σ=σ') {u:List (Nat×List AVal)} (hu:ZaK σ' ids=u) :
  Zr O bf σ sq f own view args=some (r',σ',{ any:=true,upd:=u }):=by
 subst hr hlay hu
 unfold Zr Zcd
 rw [hb]
 simp only [Xg,if_false,hsh,show Zt σ []=σ from rfl,hre]
 unfold ZbH
 rw [if_pos hall,hvs,hh,hO,hv]
 simp only [Zar,hne,Xai,Xg,if_false,hl1,hl2,decide_true,hk,hff,Wm,if_true]
end
section
theorem Zz1 {O:ZG} {bf:Nat->Bool} {σ:Za} {f:Nat} {args vs:List AVal} {ts:List Nat} {r r':AVal} (hb:bf f=false) (hsh:showAs σ args=some (vs,ts)) (hp:vs.all Z6=true) (hm:vs.map ZV=vs) (h:O f vs []=some (r,[])) (hv:ZcE 0 (some (r,[]))=some (r',[])) (sq own:Nat) :
  Zr O bf σ sq f own true args=if Zbb r' then some (r',σ,{ rd:=ts }) else if ZdB σ ts r' then some (r',σ,{ rd:=ts }) else some (Zf (Zaf [] [] sq) r',Zt σ ts,{ rd:=ts,wr:=ts }):=by
 have hr:=Zgy hp
 have hn:=fun ρ=>Zgf (ρ:=ρ) hp
 rw [hm] at hr
 simp only [hm] at hn
 unfold Zr Zcd
 rw [hb]
 simp only [Xg,if_false,hsh]
 rw [hr]
 have h2:∀ σ,Zi σ 1000 [] []=[]:=fun _=>rfl
 rw [h2]
 unfold ZbH
 simp only [WC,if_true,hn,Zg,XP,h]
 have : Zaj true 0 (some (r,[]))=some (r',[]):=by unfold Zaj;rw [if_pos rfl,hv]
 rw [this]
 simp only [Zar,Xag,Wm,if_true]
theorem ZGX {O:ZG} {bf:Nat->Bool} {σ:Za} {f:Nat} {args vs:List AVal} {ts:List Nat} {r r':AVal} (hb:bf f=false) (hsh:showAs σ args=some (vs,ts)) (hp:vs.all Z6=true) (hm:vs.map ZV=vs) (h:O f vs []=some (r,[])) (hv:ZcE 0 (some (r,[]))=some (r',[])) (hf:Zbb r'=true) (sq own:Nat) :
  Zr O bf σ sq f own true args=some (r',σ,{ rd:=ts }):=by
 rw [Zz1 hb hsh hp hm h hv,if_pos hf]
end
section
def Zli:Zd:=(.seq (.region [oI 2 (.mov (.c (.bool true)))] none [2]) .ret)
def Zmh:Zd:=Zli
def Zxn:=xw Zmh Zli rfl
def Zht:Zd:=(.seq (.seq (.region [oM 10 4,oM 11 3,oI 12 (.len (.t 11)),oI 13 (.bin .lss (.t 10) (.t 12))] none [13,4,3]) (.cond (.t 13) .skip (.exit 0))) (.seq (.block 1 (.seq (.region [oM 16 3,oM 17 4,oI 18 (.iaddr 1 (.t 16) (.t 17)),oL 19 18,oI 20 (.call 39 0 true [(.t 19),(.c (.int .u8 35))]),oM 21 20,⟨(some 22),(.mov (.t 3)),(some (21,true)),[]⟩,⟨(some 23),(.mov (.t 4)),(some (21,true)),[]⟩,⟨(some 24),(.iaddr 1 (.t 22) (.t 23)),(some (21,true)),[]⟩,⟨(some 25),(.ld none (.t 24)),(some (21,true)),[]⟩,⟨(some 26),(.bin .neq (.t 25) (.c (.str [35]))),(some (21,true)),[]⟩,⟨(some 27),(.mov (.t 26)),(some (21,true)),[]⟩,⟨(some 28),(.mov (.t 4)),(some (27,false)),[]⟩,⟨(some 29),(.mov (.t 3)),(some (27,false)),[]⟩,⟨(some 30),(.len (.t 29)),(some (27,false)),[]⟩,⟨(some 31),(.bin .sub (.t 30) (.c (.int .i64 1))),(some (27,false)),[]⟩,⟨(some 32),(.bin .neq (.t 28) (.t 31)),(some (27,false)),[]⟩,⟨(some 33),(.pick (.t 27) (.c (.bool true)) (.t 32)),(some (21,true)),[]⟩,oI 34 (.pick (.t 21) (.t 33) (.c (.bool false))),oM 35 34,⟨(some 36),(.mov (.t 3)),(some (35,false)),[]⟩,⟨(some 37),(.mov (.t 4)),(some (35,false)),[]⟩,⟨(some 38),(.iaddr 1 (.t 36) (.t 37)),(some (35,false)),[]⟩,⟨(some 39),(.ld none (.t 38)),(some (35,false)),[]⟩,⟨(some 40),(.call 39 0 true [(.t 39),(.c (.int .u8 43))]),(some (35,false)),[]⟩,⟨(some 41),(.mov (.t 40)),(some (35,false)),[]⟩,⟨(some 42),(.mov (.t 3)),(some (41,true)),[]⟩,⟨(some 43),(.mov (.t 4)),(some (41,true)),[]⟩,⟨(some 44),(.iaddr 1 (.t 42) (.t 43)),(some (41,true)),[]⟩,⟨(some 45),(.ld none (.t 44)),(some (41,true)),[]⟩,⟨(some 46),(.bin .neq (.t 45) (.c (.str [43]))),(some (41,true)),[]⟩,⟨(some 47),(.pick (.t 41) (.t 46) (.c (.bool false))),(some (35,false)),[]⟩,oI 48 (.pick (.t 35) (.c (.bool true)) (.t 47))] none [48,4,3]) (.cond (.t 48) (.seq (.region [oI 2 (.mov (.c (.bool false)))] none [2]) .ret) .skip))) (.region [oM 14 4,oI 15 (.bin .add (.t 14) (.c (.int .i64 1))),oM 4 15] none [4,3])))
def ZlG:Zd:=Zht
def Zmj:=xw ZlG Zht rfl
def ZjL:Zd:=(.seq (.region [oI 2 (.mov (.c (.bool false)))] none [0]) (.seq (.seq (.region [oM 5 0,oI 6 (.call 38 0 true [(.t 5)]),oI 7 (.un .not (.t 6))] none [7,0]) (.cond (.t 7) (.seq (.region [oI 2 (.mov (.c (.bool false)))] none [2]) .ret) .skip)) (.seq (.region [oM 8 0,oI 9 (.call 41 0 true [(.t 8)]),oM 3 9] none [3]) (.seq (.seq (.region [oI 4 (.mov (.c (.int .i64 0)))] none [4,3]) (.block 0 (.loop [4,3] ZlG))) Zmh))))
def ZiU:ZN:=⟨[(.tmp 2)],ZjL⟩
theorem ZFP:FC 25=some ZiU:=by kernel_rfl
theorem ZuP:ZiU.body=ZjL:=rfl
theorem ZlQ:ZiU.res=[(.tmp 2)]:=rfl
noncomputable def Zky (m:Nat) (tm:Tms) (σ:Za):Option (AVal×Za):=(ZaC m ZiU (Zbf FC PR BY m Zmh (WE (ZaL 0) (evL FC PR BY m [4,3] ZlG tm σ))))
def Zjl:Zd:=(.seq (.region [oM 27 3,oM 28 4,oI 29 (.bslice false 1 1 (.str []) [(0,(.t 28))]),oI 30 (.app 1 16 (.str []) (.t 27) (.t 29)),oM 2 30] none [2]) .ret)
def Zo9:Zd:=Zjl
def ZqG:=xw Zo9 Zjl rfl
def Zfg:Zd:=(.seq (.seq (.region [oM 6 5,oM 7 0,oI 8 (.slen (.t 7)),oI 9 (.bin .lss (.t 6) (.t 8))] none [9,5,4,3,0]) (.cond (.t 9) .skip (.exit 0))) (.seq (.block 1 (.seq (.seq (.region [oM 12 0,oM 13 5,oI 14 (.sindex (.t 12) (.t 13)),oI 15 (.bin .eql (.t 14) (.c (.int .u8 47)))] none [15,5,4,3,0]) (.cond (.t 15) (.seq (.region [oM 16 3,oM 17 4,oI 18 (.bslice false 1 1 (.str []) [(0,(.t 17))]),oI 19 (.app 1 16 (.str []) (.t 16) (.t 18)),oM 3 19] none [5,3,0]) (.seq (.region [oI 4 (.mov (.c (.str [])))] none [5,4,3,0]) (.exit 1))) .skip)) (.region [oM 20 4,oM 21 0,oM 22 5,oM 23 5,oI 24 (.bin .add (.t 23) (.c (.int .i64 1))),oI 25 (.sslice (.t 21) (some (.t 22)) (some (.t 24))),oI 26 (.bin .add (.t 20) (.t 25)),oM 4 26] none [5,4,3,0]))) (.region [oM 10 5,oI 11 (.bin .add (.t 10) (.c (.int .i64 1))),oM 5 11] none [5,4,3,0])))
def ZnM:Zd:=Zfg
def Zgq:=xw ZnM Zfg rfl
def Zlh:Zd:=(.seq (.region [oI 2 (.mov (.c (.lst true [])))] none [0]) (.seq (.region [oI 3 (.mov (.c (.lst true [])))] none [3,0]) (.seq (.region [oI 4 (.mov (.c (.str [])))] none [4,3,0]) (.seq (.seq (.region [oI 5 (.mov (.c (.int .i64 0)))] none [5,4,3,0]) (.block 0 (.loop [5,4,3,0] ZnM))) Zo9))))
def Zj8:ZN:=⟨[(.tmp 2)],Zlh⟩
theorem ZMn:FC 41=some Zj8:=by kernel_rfl
theorem ZJQ:Zj8.body=Zlh:=rfl
theorem ZpB:Zj8.res=[(.tmp 2)]:=rfl
noncomputable def ZfK (m:Nat) (tm:Tms) (σ:Za):Option (AVal×Za):=(ZaC m Zj8 (Zbf FC PR BY m Zo9 (WE (ZaL 0) (evL FC PR BY m [5,4,3,0] ZnM tm σ))))
def Zlz:Zd:=(.seq (.region [oM 72 5,oI 73 (.len (.t 72)),oM 74 6,oI 75 (.len (.t 74)),oI 76 (.bin .eql (.t 73) (.t 75)),oM 4 76] none [4]) .ret)
def Zlb:Zd:=Zlz
def ZIf:=xw Zlb Zlz rfl
def Zez:Zd:=(.seq (.seq (.region [oM 35 7,oM 36 5,oI 37 (.len (.t 36)),oI 38 (.bin .lss (.t 35) (.t 37))] none [38,7,6,5]) (.cond (.t 38) .skip (.exit 0))) (.seq (.block 1 (.seq (.seq (.region [oM 41 5,oM 42 7,oI 43 (.iaddr 1 (.t 41) (.t 42)),oL 44 43,oI 45 (.bin .eql (.t 44) (.c (.str [35])))] none [45,7,6,5]) (.cond (.t 45) (.seq (.region [oM 46 6,oI 47 (.len (.t 46)),oM 48 7,oI 49 (.bin .geq (.t 47) (.t 48)),oM 4 49] none [4]) .ret) .skip)) (.seq (.region [oM 50 7,oM 51 6,oI 52 (.len (.t 51)),oI 53 (.bin .geq (.t 50) (.t 52)),oM 54 53,⟨(some 55),(.mov (.t 5)),(some (54,false)),[]⟩,⟨(some 56),(.mov (.t 7)),(some (54,false)),[]⟩,⟨(some 57),(.iaddr 1 (.t 55) (.t 56)),(some (54,false)),[]⟩,⟨(some 58),(.ld none (.t 57)),(some (54,false)),[]⟩,⟨(some 59),(.bin .neq (.t 58) (.c (.str [43]))),(some (54,false)),[]⟩,⟨(some 60),(.mov (.t 59)),(some (54,false)),[]⟩,⟨(some 61),(.mov (.t 5)),(some (60,true)),[]⟩,⟨(some 62),(.mov (.t 7)),(some (60,true)),[]⟩,⟨(some 63),(.iaddr 1 (.t 61) (.t 62)),(some (60,true)),[]⟩,⟨(some 64),(.ld none (.t 63)),(some (60,true)),[]⟩,⟨(some 65),(.mov (.t 6)),(some (60,true)),[]⟩,⟨(some 66),(.mov (.t 7)),(some (60,true)),[]⟩,⟨(some 67),(.iaddr 1 (.t 65) (.t 66)),(some (60,true)),[]⟩,⟨(some 68),(.ld none (.t 67)),(some (60,true)),[]⟩,⟨(some 69),(.bin .neq (.t 64) (.t 68)),(some (60,true)),[]⟩,⟨(some 70),(.pick (.t 60) (.t 69) (.c (.bool false))),(some (54,false)),[]⟩,oI 71 (.pick (.t 54) (.c (.bool true)) (.t 70))] (some [(13,17),(14,17),(13,18),(14,18)]) [71,7,6,5]) (.cond (.t 71) (.seq (.region [oI 4 (.mov (.c (.bool false)))] none [4]) .ret) .skip)))) (.region [oM 39 7,oI 40 (.bin .add (.t 39) (.c (.int .i64 1))),oM 7 40] none [7,6,5])))
def ZlK:Zd:=Zez
def ZfE:=xw ZlK Zez rfl
def ZeH:Zd:=(.seq (.region [oI 4 (.mov (.c (.bool false)))] none [1,0]) (.seq (.seq (.region [oM 8 0,oI 9 (.call 25 0 true [(.t 8)]),oI 10 (.un .not (.t 9)),oM 11 10,⟨(some 12),(.mov (.t 1)),(some (11,false)),[]⟩,⟨(some 13),(.call 16 0 true [(.t 12)]),(some (11,false)),[]⟩,⟨(some 14),(.un .not (.t 13)),(some (11,false)),[]⟩,oI 15 (.pick (.t 11) (.c (.bool true)) (.t 14))] none [15,1,0]) (.cond (.t 15) (.seq (.region [oI 4 (.mov (.c (.bool false)))] none [4]) .ret) .skip)) (.seq (.region [oM 16 0,oI 17 (.call 41 0 true [(.t 16)]),oM 18 1,oI 19 (.call 41 0 true [(.t 18)]),oM 5 17,oM 6 19] none [6,5,1]) (.seq (.seq (.region [oM 20 5,oI 21 (.iaddr 1 (.t 20) (.c (.int .i64 0))),oL 22 21,oI 23 (.bin .eql (.t 22) (.c (.str [43]))),oM 24 23,⟨(some 25),(.mov (.t 5)),(some (24,false)),[]⟩,⟨(some 26),(.iaddr 1 (.t 25) (.c (.int .i64 0))),(some (24,false)),[]⟩,⟨(some 27),(.ld none (.t 26)),(some (24,false)),[]⟩,⟨(some 28),(.bin .eql (.t 27) (.c (.str [35]))),(some (24,false)),[]⟩,oI 29 (.pick (.t 24) (.c (.bool true)) (.t 28)),oM 30 29,⟨(some 31),(.mov (.t 1)),(some (30,true)),[]⟩,⟨(some 32),(.sindex (.t 31) (.c (.int .i64 0))),(some (30,true)),[]⟩,⟨(some 33),(.bin .eql (.t 32) (.c (.int .u8 36))),(some (30,true)),[]⟩,oI 34 (.pick (.t 30) (.t 33) (.c (.bool false)))] none [34,6,5]) (.cond (.t 34) (.seq (.region [oI 4 (.mov (.c (.bool false)))] none [4]) .ret) .skip)) (.seq (.seq (.region [oI 7 (.mov (.c (.int .i64 0)))] none [7,6,5]) (.block 0 (.loop [7,6,5] ZlK))) Zlb)))))
def Ziw:ZN:=⟨[(.tmp 4)],ZeH⟩
theorem ZLL:FC 22=some Ziw:=by kernel_rfl
theorem Zfz:Ziw.body=ZeH:=rfl
theorem Zen:Ziw.res=[(.tmp 4)]:=rfl
noncomputable def Zha (m:Nat) (tm:Tms) (σ:Za):Option (AVal×Za):=(ZaC m Ziw (Zbf FC PR BY m Zlb (WE (ZaL 0) (evL FC PR BY m [7,6,5] ZlK tm σ))))
def Zhy:Zd:=(.seq (.region [oI 2 (.mov (.c (.bool false)))] none [0]) (.seq (.region [oM 3 0,oI 4 (.call 38 0 true [(.t 3)]),oM 5 4,⟨(some 6),(.mov (.t 0)),(some (5,true)),[]⟩,⟨(some 7),(.call 39 0 true [(.t 6),(.c (.int .u8 43))]),(some (5,true)),[]⟩,⟨(some 8),(.un .not (.t 7)),(some (5,true)),[]⟩,oI 9 (.pick (.t 5) (.t 8) (.c (.bool false))),oM 10 9,⟨(some 11),(.mov (.t 0)),(some (10,true)),[]⟩,⟨(some 12),(.call 39 0 true [(.t 11),(.c (.int .u8 35))]),(some (10,true)),[]⟩,⟨(some 13),(.un .not (.t 12)),(some (10,true)),[]⟩,oI 14 (.pick (.t 10) (.t 13) (.c (.bool false))),oM 2 14] none [2]) .ret))
def ZmN:ZN:=⟨[(.tmp 2)],Zhy⟩
theorem Zxe:FC 16=some ZmN:=by kernel_rfl
theorem ZnY:ZmN.body=Zhy:=rfl
theorem Zl7:ZmN.res=[(.tmp 2)]:=rfl
def ZmR:Zd:=(.seq (.region [oI 4 (.mov (.c (.bool false)))] none [4]) .ret)
def Zos:Zd:=ZmR
def Zwp:=xw Zos ZmR rfl
def Zh5:Zd:=(.seq (.seq (.region [oM 6 5,oM 7 0,oI 8 (.slen (.t 7)),oI 9 (.bin .lss (.t 6) (.t 8))] none [9,5,1,0]) (.cond (.t 9) .skip (.exit 0))) (.seq (.block 1 (.seq (.region [oM 12 0,oM 13 5,oI 14 (.sindex (.t 12) (.t 13)),oM 15 1,oI 16 (.bin .eql (.t 14) (.t 15))] none [16,5,1,0]) (.cond (.t 16) (.seq (.region [oI 4 (.mov (.c (.bool true)))] none [4]) .ret) .skip))) (.region [oM 10 5,oI 11 (.bin .add (.t 10) (.c (.int .i64 1))),oM 5 11] none [5,1,0])))
def Zo7:Zd:=Zh5
def ZkZ:=xw Zo7 Zh5 rfl
def Zpb:Zd:=(.seq (.region [oI 4 (.mov (.c (.bool false)))] none [1,0]) (.seq (.seq (.region [oI 5 (.mov (.c (.int .i64 0)))] none [5,1,0]) (.block 0 (.loop [5,1,0] Zo7))) Zos))
def Zkz:ZN:=⟨[(.tmp 4)],Zpb⟩
theorem ZIV:FC 39=some Zkz:=by kernel_rfl
theorem ZIg:Zkz.body=Zpb:=rfl
theorem ZqF:Zkz.res=[(.tmp 4)]:=rfl
noncomputable def Zi0 (m:Nat) (tm:Tms) (σ:Za):Option (AVal×Za):=(ZaC m Zkz (Zbf FC PR BY m Zos (WE (ZaL 0) (evL FC PR BY m [5,1,0] Zo7 tm σ))))
def Zjy:Zd:=(.seq (.region [oI 2 (.mov (.c (.bool false)))] none [0]) (.seq (.region [oM 3 0,oI 4 (.slen (.t 3)),oI 5 (.bin .geq (.t 4) (.c (.int .i64 1))),oM 6 5,⟨(some 7),(.mov (.t 0)),(some (6,true)),[]⟩,⟨(some 8),(.slen (.t 7)),(some (6,true)),[]⟩,⟨(some 9),(.bin .leq (.t 8) (.c (.int .i64 64))),(some (6,true)),[]⟩,oI 10 (.pick (.t 6) (.t 9) (.c (.bool false))),oM 11 10,⟨(some 12),(.mov (.t 0)),(some (11,true)),[]⟩,⟨(some 13),(.call 52 0 true [(.t 12)]),(some (11,true)),[]⟩,oI 14 (.pick (.t 11) (.t 13) (.c (.bool false))),oM 2 14] none [2]) .ret))
def Zn3:ZN:=⟨[(.tmp 2)],Zjy⟩
theorem ZLd:FC 38=some Zn3:=by kernel_rfl
theorem ZsI:Zn3.body=Zjy:=rfl
theorem ZpJ:Zn3.res=[(.tmp 2)]:=rfl
def Zng:Zd:=(.seq (.region [oM 36 0,oI 37 (.call 46 0 true [(.t 36)]),oM 2 37] none [2]) .ret)
def Zlj:Zd:=Zng
def ZBV:=xw Zlj Zng rfl
def Zep:Zd:=(.seq (.region [oI 12 (.bin .lss (.t 11) (.t 10))] none [12,11,10,9,3,0]) (.seq (.cond (.t 12) .skip (.exit 0)) (.seq (.block 1 (.seq (.region [oM 13 11,oI 14 (.iaddr 1 (.t 9) (.t 11)),oL 15 14,oM 4 13,oM 5 15] none [11,10,9,5,4,3,0]) (.seq (.region [oM 16 5,oI 17 (.bin .eql (.t 16) (.c (.str [43]))),oM 18 17,⟨(some 19),(.mov (.t 5)),(some (18,false)),[]⟩,⟨(some 20),(.bin .eql (.t 19) (.c (.str [35]))),(some (18,false)),[]⟩,⟨(some 21),(.mov (.t 20)),(some (18,false)),[]⟩,⟨(some 22),(.mov (.t 4)),(some (21,true)),[]⟩,⟨(some 23),(.mov (.t 3)),(some (21,true)),[]⟩,⟨(some 24),(.len (.t 23)),(some (21,true)),[]⟩,⟨(some 25),(.bin .sub (.t 24) (.c (.int .i64 1))),(some (21,true)),[]⟩,⟨(some 26),(.bin .eql (.t 22) (.t 25)),(some (21,true)),[]⟩,⟨(some 27),(.pick (.t 21) (.t 26) (.c (.bool false))),(some (18,false)),[]⟩,oI 28 (.pick (.t 18) (.c (.bool true)) (.t 27)),oM 6 28] none [11,10,9,6,5,3,0]) (.seq (.region [oM 29 6,oI 30 (.un .not (.t 29)),oM 31 30,⟨(some 32),(.mov (.t 5)),(some (31,true)),[]⟩,⟨(some 33),(.call 45 0 true [(.t 32),(.c (.str [43,35]))]),(some (31,true)),[]⟩,oI 34 (.pick (.t 31) (.t 33) (.c (.bool false)))] none [34,11,10,9,3,0]) (.cond (.t 34) (.seq (.region [oI 2 (.mov (.c (.bool false)))] none [2]) .ret) .skip))))) (.region [oI 35 (.bin .add (.t 11) (.c (.int .i64 1))),oM 11 35] none [11,10,9,3,0]))))
def Zo2:Zd:=Zep
def Zft:=xw Zo2 Zep rfl
def Zm5:Zd:=(.seq (.region [oI 2 (.mov (.c (.bool false)))] none [0]) (.seq (.region [oM 7 0,oI 8 (.call 31 0 true [(.t 7)]),oM 3 8] none [3,0]) (.seq (.seq (.region [oM 9 3,oI 10 (.len (.t 9)),oI 11 (.mov (.c (.int .i64 0)))] none [11,10,9,3,0]) (.block 0 (.loop [11,10,9,3,0] Zo2))) Zlj)))
def Zi2:ZN:=⟨[(.tmp 2)],Zm5⟩
theorem Zyi:FC 29=some Zi2:=by kernel_rfl
theorem ZG7:Zi2.body=Zm5:=rfl
theorem Zlw:Zi2.res=[(.tmp 2)]:=rfl
noncomputable def ZkB (m:Nat) (tm:Tms) (σ:Za):Option (AVal×Za):=(ZaC m Zi2 (Zbf FC PR BY m Zlj (WE (ZaL 0) (evL FC PR BY m [11,10,9,3,0] Zo2 tm σ))))
def ZoZ:Zd:=(.seq (.region [oI 2 (.mov (.c (.lst true [])))] none [0]) (.seq (.region [oM 3 0,oI 4 (.call 47 0 true [(.t 3),(.c (.str [47]))]),oM 2 4] none [2]) .ret))
def Zmq:ZN:=⟨[(.tmp 2)],ZoZ⟩
theorem ZKv:FC 31=some Zmq:=by kernel_rfl
theorem Zvk:Zmq.body=ZoZ:=rfl
theorem ZE7:Zmq.res=[(.tmp 2)]:=rfl
def ZiX:Zd:=(.seq (.region [oI 2 (.mov (.c (.bool false)))] none [0]) (.seq (.region [oM 3 0,oI 4 (.call 46 0 true [(.t 3)]),oM 5 4,⟨(some 6),(.mov (.t 0)),(some (5,true)),[]⟩,⟨(some 7),(.call 45 0 true [(.t 6),(.c (.str [43,35]))]),(some (5,true)),[]⟩,⟨(some 8),(.un .not (.t 7)),(some (5,true)),[]⟩,oI 9 (.pick (.t 5) (.t 8) (.c (.bool false))),oM 2 9] none [2]) .ret))
def ZoY:ZN:=⟨[(.tmp 2)],ZiX⟩
theorem Zyf:FC 33=some ZoY:=by kernel_rfl
theorem Zpq:ZoY.body=ZiX:=rfl
theorem Ztk:ZoY.res=[(.tmp 2)]:=rfl
def Zoa:Zd:=(.seq (.region [oI 2 (.mov (.c (.bool false)))] none [0]) (.seq (.region [oM 3 0,oI 4 (.slen (.t 3)),oI 5 (.bin .geq (.t 4) (.c (.int .i64 1))),oM 6 5,⟨(some 7),(.mov (.t 0)),(some (6,true)),[]⟩,⟨(some 8),(.slen (.t 7)),(some (6,true)),[]⟩,⟨(some 9),(.bin .leq (.t 8) (.c (.int .i64 64))),(some (6,true)),[]⟩,oI 10 (.pick (.t 6) (.t 9) (.c (.bool false))),oM 11 10,⟨(some 12),(.mov (.t 0)),(some (11,true)),[]⟩,⟨(some 13),(.call 54 0 true [(.t 12)]),(some (11,true)),[]⟩,oI 14 (.pick (.t 11) (.t 13) (.c (.bool false))),oM 2 14] none [2]) .ret))
def Zlv:ZN:=⟨[(.tmp 2)],Zoa⟩
theorem ZC8:FC 46=some Zlv:=by kernel_rfl
theorem ZLt:Zlv.body=Zoa:=rfl
theorem ZwJ:Zlv.res=[(.tmp 2)]:=rfl
end
section
def Zlf:Zd:=(.seq (.region [oI 4 (.mov (.c (.bool false)))] none [1,0]) (.seq (.region [oM 5 0,oM 6 1,oI 7 (.nilchk (.t 5)),oI 8 (.aaddr 1 256 (.t 7) (.t 6)),oL 9 8,oM 4 9] none [4]) .ret))
def Zk3:ZN:=⟨[(.tmp 4)],Zlf⟩
theorem ZB4:FC 63=some Zk3:=by kernel_rfl
theorem Zx0:Zk3.body=Zlf:=rfl
theorem ZAv:Zk3.res=[(.tmp 4)]:=rfl
def Znm:Zd:=(.seq (.region [oI 4 (.mov (.c (.bool false)))] none [1,0]) (.seq (.region [oM 5 0,oM 6 1,oI 7 (.call 53 0 true [(.t 5),(.t 6)]),oI 8 (.bin .geq (.t 7) (.c (.int .i64 0))),oM 4 8] none [4]) .ret))
def Zl2:ZN:=⟨[(.tmp 4)],Znm⟩
theorem ZBM:FC 45=some Zl2:=by kernel_rfl
theorem Zzs:Zl2.body=Znm:=rfl
theorem ZFW:Zl2.res=[(.tmp 4)]:=rfl
def Zn5:Zd:=(.seq (.region [oI 4 (.mov (.c (.int .i64 (-1))))] none [4]) .ret)
def ZlB:Zd:=Zn5
def ZvC:=xw ZlB Zn5 rfl
def Zh4:Zd:=(.seq (.region [oI 46 (.nxt (.t 45)),oI 47 (.ext (.t 46) 0)] none [47,46,45,1]) (.seq (.cond (.t 47) .skip (.exit 2)) (.block 3 (.seq (.region [oI 48 (.ext (.t 46) 1),oI 49 (.ext (.t 46) 2),oM 9 48,oM 10 49] none [45,10,9,1]) (.seq (.region [oM 50 1,oM 51 10,oI 52 (.call 60 0 true [(.t 50),(.t 51)]),oI 53 (.bin .geq (.t 52) (.c (.int .i64 0)))] none [53,45,9,1]) (.cond (.t 53) (.seq (.region [oM 54 9,oM 4 54] none [4]) .ret) .skip))))))
def Zmz:Zd:=Zh4
def ZmG:=xw Zmz Zh4 rfl
def ZoV:Zd:=(.seq (.seq (.region [oM 44 0,oI 45 (.rng (.t 44))] none [45,1]) (.block 2 (.loop [45,1] Zmz))) ZlB)
def ZoX:Zd:=ZoV
def ZJZ:=xw ZoX ZoV rfl
def Zns:Zd:=(.seq (.region [oI 4 (.mov (.c (.int .i64 (-1))))] none [4]) .ret)
def ZnN:Zd:=Zns
def ZuZ:=xw ZnN Zns rfl
def Zh7:Zd:=(.seq (.seq (.region [oM 33 8,oM 34 0,oI 35 (.slen (.t 34)),oI 36 (.bin .lss (.t 33) (.t 35))] none [36,8,6,0]) (.cond (.t 36) .skip (.exit 0))) (.seq (.block 1 (.seq (.region [oM 39 0,oM 40 8,oI 41 (.sindex (.t 39) (.t 40)),oI 42 (.call 63 0 true [(.t 6),(.t 41)])] none [42,8,6,0]) (.cond (.t 42) (.seq (.region [oM 43 8,oM 4 43] none [4]) .ret) .skip))) (.region [oM 37 8,oI 38 (.bin .add (.t 37) (.c (.int .i64 1))),oM 8 38] none [8,6,0])))
def Zmp:Zd:=Zh7
def Zmo:=xw Zmp Zh7 rfl
def Zju:Zd:=(.seq (.region [oI 4 (.mov (.c (.int .i64 0)))] none [1,0]) (.seq (.seq (.region [oM 11 1,oI 12 (.bin .eql (.t 11) (.c (.str [])))] none [12,1,0]) (.cond (.t 12) (.seq (.region [oI 4 (.mov (.c (.int .i64 (-1))))] none [4]) .ret) .skip)) (.seq (.seq (.region [oM 13 1,oI 14 (.slen (.t 13)),oI 15 (.bin .eql (.t 14) (.c (.int .i64 1)))] none [15,1,0]) (.cond (.t 15) (.seq (.region [oM 16 1,oI 17 (.sindex (.t 16) (.c (.int .i64 0))),oI 18 (.i2i .i32 (.t 17)),oM 5 18] none [5,0]) (.seq (.seq (.region [oM 19 5,oI 20 (.bin .geq (.t 19) (.c (.int .i32 128)))] none [20,5,0]) (.cond (.t 20) (.region [oI 5 (.mov (.c (.int .i32 65533)))] none [5,0]) .skip)) (.seq (.region [oM 21 0,oM 22 5,oI 23 (.call 60 0 true [(.t 21),(.t 22)]),oM 4 23] none [4]) .ret))) .skip)) (.seq (.seq (.region [oM 24 0,oI 25 (.slen (.t 24)),oI 26 (.call 61 0 true [(.t 25)])] none [26,1,0]) (.cond (.t 26) (.seq (.region [oM 28 1,oI 29 (.call 62 0 true [(.t 28)]),oM 27 29,oI 30 (.ext (.t 27) 0),oI 31 (.ext (.t 27) 1),oI 6 (.alloc [(.bool false),(.bool false),(.bool false),(.bool false),(.bool false),(.bool false),(.bool false),(.bool false),(.bool false),(.bool false),(.bool false),(.bool false),(.bool false),(.bool false),(.bool false),(.bool false),(.bool false),(.bool false),(.bool false),(.bool false),(.bool false),(.bool false),(.bool false),(.bool false),(.bool false),(.bool false),(.bool false),(.bool false),(.bool false),(.bool false),(.bool false),(.bool false),(.bool false),(.bool false),(.bool false),(.bool false),(.bool false),(.bool false),(.bool false),(.bool false),(.bool false),(.bool false),(.bool false),(.bool false),(.bool false),(.bool false),(.bool false),(.bool false),(.bool false),(.bool false),(.bool false),(.bool false),(.bool false),(.bool false),(.bool false),(.bool false),(.bool false),(.bool false),(.bool false),(.bool false),(.bool false),(.bool false),(.bool false),(.bool false),(.bool false),(.bool false),(.bool false),(.bool false),(.bool false),(.bool false),(.bool false),(.bool false),(.bool false),(.bool false),(.bool false),(.bool false),(.bool false),(.bool false),(.bool false),(.bool false),(.bool false),(.bool false),(.bool false),(.bool false),(.bool false),(.bool false),(.bool false),(.bool false),(.bool false),(.bool false),(.bool false),(.bool false),(.bool false),(.bool false),(.bool false),(.bool false),(.bool false),(.bool false),(.bool false),(.bool false),(.bool false),(.bool false),(.bool false),(.bool false),(.bool false),(.bool false),(.bool false),(.bool false),(.bool false),(.bool false),(.bool false),(.bool false),(.bool false),(.bool false),(.bool false),(.bool false),(.bool false),(.bool false),(.bool false),(.bool false),(.bool false),(.bool false),(.bool false),(.bool false),(.bool false),(.bool false),(.bool false),(.bool false),(.bool false),(.bool false),(.bool false),(.bool false),(.bool false),(.bool false),(.bool false),(.bool false),(.bool false),(.bool false),(.bool false),(.bool false),(.bool false),(.bool false),(.bool false),(.bool false),(.bool false),(.bool false),(.bool false),(.bool false),(.bool false),(.bool false),(.bool false),(.bool false),(.bool false),(.bool false),(.bool false),(.bool false),(.bool false),(.bool false),(.bool false),(.bool false),(.bool false),(.bool false),(.bool false),(.bool false),(.bool false),(.bool false),(.bool false),(.bool false),(.bool false),(.bool false),(.bool false),(.bool false),(.bool false),(.bool false),(.bool false),(.bool false),(.bool false),(.bool false),(.bool false),(.bool false),(.bool false),(.bool false),(.bool false),(.bool false),(.bool false),(.bool false),(.bool false),(.bool false),(.bool false),(.bool false),(.bool false),(.bool false),(.bool false),(.bool false),(.bool false),(.bool false),(.bool false),(.bool false),(.bool false),(.bool false),(.bool false),(.bool false),(.bool false),(.bool false),(.bool false),(.bool false),(.bool false),(.bool false),(.bool false),(.bool false),(.bool false),(.bool false),(.bool false),(.bool false),(.bool false),(.bool false),(.bool false),(.bool false),(.bool false),(.bool false),(.bool false),(.bool false),(.bool false),(.bool false),(.bool false),(.bool false),(.bool false),(.bool false),(.bool false),(.bool false),(.bool false),(.bool false),(.bool false),(.bool false),(.bool false),(.bool false),(.bool false),(.bool false),(.bool false),(.bool false),(.bool false),(.bool false),(.bool false),(.bool false),(.bool false),(.bool false),(.bool false),(.bool false),(.bool false),(.bool false),(.bool false),(.bool false),(.bool false),(.bool false),(.bool false),(.bool false)]),oN (.st 256 (.t 6) (.t 30)),oM 7 31] none [7,6,1,0]) (.seq (.region [oM 32 7] none [32,6,1,0]) (.cond (.t 32) (.seq (.seq (.region [oI 8 (.mov (.c (.int .i64 0)))] none [8,6,0]) (.block 0 (.loop [8,6,0] Zmp))) ZnN) .skip))) .skip)) ZoX))))
def Zhn:ZN:=⟨[(.tmp 4)],Zju⟩
theorem Zue:FC 53=some Zhn:=by kernel_rfl
theorem Zsu:Zhn.body=Zju:=rfl
theorem Zje:Zhn.res=[(.tmp 4)]:=rfl
noncomputable def Zkk (m:Nat) (tm:Tms) (σ:Za):Option (AVal×Za):=(ZaC m Zhn (Zbf FC PR BY m ZlB (WE (ZaL 2) (evL FC PR BY m [45,1] Zmz tm σ))))
noncomputable def Zkt (m:Nat) (tm:Tms) (σ:Za):Option (AVal×Za):=(ZaC m Zhn (Zbf FC PR BY m ZoX (Zbf FC PR BY m ZnN (WE (ZaL 0) (evL FC PR BY m [8,6,0] Zmp tm σ)))))
def ZKu:Zd:=(.seq (.region [oI 4 (.mov (.c (.int .i64 (-1))))] none [4]) .ret)
def ZGB:Zd:=ZKu
def Zym:Zd:=(.seq (.region [oI 176 (.nxt (.t 175)),oI 177 (.ext (.t 176) 0)] none [177,176,175]) (.seq (.cond (.t 177) .skip (.exit 9)) (.block 10 (.seq (.region [oI 178 (.ext (.t 176) 1),oI 179 (.ext (.t 176) 2),oM 5 178,oM 6 179] none [175,6,5]) (.seq (.region [oM 180 6,oI 181 (.bin .eql (.t 180) (.c (.int .i32 65533)))] none [181,175,5]) (.cond (.t 181) (.seq (.region [oM 182 5,oM 4 182] none [4]) .ret) .skip))))))
def ZHb:Zd:=Zym
def Zwr:Zd:=(.seq (.region [oI 4 (.mov (.c (.int .i64 (-1))))] none [4]) .ret)
def ZAJ:Zd:=Zwr
def ZBw:Zd:=(.region [oM 125 9,oI 126 (.bin .add (.t 125) (.c (.int .i64 1))),oM 9 126] none [15,14,9,8,7,0])
def ZKM:Zd:=ZBw
def ZDO:Zd:=(.seq (.region [oM 157 9,oM 158 8,oI 159 (.bin .sub (.t 157) (.t 158)),oM 4 159] none [4]) .ret)
def ZBQ:Zd:=ZDO
def ZGR:Zd:=(.seq (.seq (.region [oM 140 16,oM 141 7,oI 142 (.slen (.t 141)),oI 143 (.bin .lss (.t 140) (.t 142))] none [143,16,15,14,9,8,7,0]) (.cond (.t 143) .skip (.exit 7))) (.seq (.block 8 (.seq (.region [oM 146 0,oM 147 9,oM 148 16,oI 149 (.bin .sub (.t 147) (.t 148)),oI 150 (.sindex (.t 146) (.t 149)),oM 151 7,oM 152 8,oM 153 16,oI 154 (.bin .sub (.t 152) (.t 153)),oI 155 (.sindex (.t 151) (.t 154)),oI 156 (.bin .neq (.t 150) (.t 155))] (some []) [156,16,15,14,9,8,7,0]) (.cond (.t 156) (.exit 6) .skip))) (.region [oM 144 16,oI 145 (.bin .add (.t 144) (.c (.int .i64 1))),oM 16 145] none [16,15,14,9,8,7,0])))
def ZAe:Zd:=ZGR
def ZJD:Zd:=(.seq (.seq (.region [oM 121 9,oM 122 0,oI 123 (.slen (.t 122)),oI 124 (.bin .lss (.t 121) (.t 123))] none [124,15,14,9,8,7,0]) (.cond (.t 124) .skip (.exit 5))) (.seq (.block 6 (.seq (.region [oM 127 0,oM 128 9,oI 129 (.sindex (.t 127) (.t 128)),oM 130 14,oI 131 (.bin .eql (.t 129) (.t 130)),oM 132 131,⟨(some 133),(.mov (.t 0)),(some (132,true)),[]⟩,⟨(some 134),(.mov (.t 9)),(some (132,true)),[]⟩,⟨(some 135),(.bin .sub (.t 134) (.c (.int .i64 1))),(some (132,true)),[]⟩,⟨(some 136),(.sindex (.t 133) (.t 135)),(some (132,true)),[]⟩,⟨(some 137),(.mov (.t 15)),(some (132,true)),[]⟩,⟨(some 138),(.bin .eql (.t 136) (.t 137)),(some (132,true)),[]⟩,oI 139 (.pick (.t 132) (.t 138) (.c (.bool false)))] none [139,15,14,9,8,7,0]) (.cond (.t 139) (.seq (.seq (.region [oI 16 (.mov (.c (.int .i64 2)))] none [16,15,14,9,8,7,0]) (.block 7 (.loop [16,15,14,9,8,7,0] ZAe))) ZBQ) .skip))) ZKM))
def ZCN:Zd:=ZJD
def Zjg:Zd:=(.seq (.seq (.region [oI 4 (.mov (.c (.int .i64 (-1))))] none [4]) .ret) (.seq .skip (.seq (.cond (.c (.bool true)) (.seq (.region [oM 99 0,oM 100 9,oM 101 8,oI 102 (.bin .sub (.t 100) (.t 101)),oI 103 (.sslice (.t 99) (some (.t 102)) none),oM 104 1,oI 105 (.i2s (.t 104)),oI 106 (.call 81 0 true [(.t 103),(.t 105)]),oM 13 106] none [13,9,8]) (.seq (.region [oM 107 13,oI 108 (.bin .geq (.t 107) (.c (.int .i64 0)))] none [108,13,9,8]) (.cond (.t 108) (.seq (.region [oM 109 9,oM 110 13,oI 111 (.bin .add (.t 109) (.t 110)),oM 112 8,oI 113 (.bin .sub (.t 111) (.t 112)),oM 4 113] none [4]) .ret) .skip))) (.seq (.region [oM 114 7,oM 115 8,oI 116 (.sindex (.t 114) (.t 115)),oM 14 116] none [14,9,8,7,0]) (.seq (.region [oM 117 7,oM 118 8,oI 119 (.bin .sub (.t 118) (.c (.int .i64 1))),oI 120 (.sindex (.t 117) (.t 119)),oM 15 120] none [15,14,9,8,7,0]) (.seq .skip (.block 5 (.loop [15,14,9,8,7,0] ZCN)))))) ZAJ)))
def Zri:Zd:=Zjg
def ZuO:=xw Zri Zjg rfl
def ZAT:Zd:=(.seq (.seq (.region [oM 65 9,oM 66 8,oI 67 (.bin .sub (.t 65) (.t 66)),oM 4 67] none [4]) .ret) (.seq .skip (.seq (.region [oM 68 10,oI 69 (.bin .add (.t 68) (.c (.int .i64 1))),oM 10 69] none [10,9,8,7,0]) (.seq (.region [oM 70 9,oI 71 (.bin .add (.t 70) (.c (.int .i64 1))),oM 9 71] none [10,9,8,7,0]) (.seq (.region [oI 72 (.mov (.c (.bool true))),⟨(some 73),(.mov (.t 10)),(some (72,true)),[]⟩,⟨(some 74),(.mov (.t 9)),(some (72,true)),[]⟩,⟨(some 75),(.call 80 0 true [(.t 74)]),(some (72,true)),[]⟩,⟨(some 76),(.bin .gtr (.t 73) (.t 75)),(some (72,true)),[]⟩,oI 77 (.pick (.t 72) (.t 76) (.c (.bool false))),oM 78 77,⟨(some 79),(.mov (.t 9)),(some (78,true)),[]⟩,⟨(some 80),(.mov (.t 0)),(some (78,true)),[]⟩,⟨(some 81),(.slen (.t 80)),(some (78,true)),[]⟩,⟨(some 82),(.bin .lss (.t 79) (.t 81)),(some (78,true)),[]⟩,oI 83 (.pick (.t 78) (.t 82) (.c (.bool false))),oM 84 83,⟨(some 85),(.mov (.c (.bool false))),(some (84,false)),[]⟩,⟨(some 86),(.mov (.t 10)),(some (85,true)),[]⟩,⟨(some 87),(.mov (.t 9)),(some (85,true)),[]⟩,⟨(some 88),(.bin .shr (.t 87) (.c (.int .u64 4))),(some (85,true)),[]⟩,⟨(some 89),(.bin .add (.c (.int .i64 4)) (.t 88)),(some (85,true)),[]⟩,⟨(some 90),(.bin .geq (.t 86) (.t 89)),(some (85,true)),[]⟩,⟨(some 91),(.pick (.t 85) (.t 90) (.c (.bool false))),(some (84,false)),[]⟩,⟨(some 92),(.mov (.t 91)),(some (84,false)),[]⟩,⟨(some 93),(.mov (.t 9)),(some (92,true)),[]⟩,⟨(some 94),(.mov (.t 0)),(some (92,true)),[]⟩,⟨(some 95),(.slen (.t 94)),(some (92,true)),[]⟩,⟨(some 96),(.bin .lss (.t 93) (.t 95)),(some (92,true)),[]⟩,⟨(some 97),(.pick (.t 92) (.t 96) (.c (.bool false))),(some (84,false)),[]⟩,oI 98 (.pick (.t 84) (.c (.bool true)) (.t 97))] none [98,9,8,7,0]) (.cond (.t 98) .stuck .skip))))))
def ZMO:Zd:=ZAT
def ZLj:Zd:=(.seq (.seq (.region [oM 48 12,oM 49 7,oI 50 (.slen (.t 49)),oI 51 (.bin .lss (.t 48) (.t 50))] none [51,12,9,8,7,0]) (.cond (.t 51) .skip (.exit 3))) (.seq (.block 4 (.seq (.region [oM 54 0,oM 55 9,oM 56 12,oI 57 (.bin .sub (.t 55) (.t 56)),oI 58 (.sindex (.t 54) (.t 57)),oM 59 7,oM 60 8,oM 61 12,oI 62 (.bin .sub (.t 60) (.t 61)),oI 63 (.sindex (.t 59) (.t 62)),oI 64 (.bin .neq (.t 58) (.t 63))] (some []) [64,12,9,8,7,0]) (.cond (.t 64) .stuck .skip))) (.region [oM 52 12,oI 53 (.bin .add (.t 52) (.c (.int .i64 1))),oM 12 53] none [12,9,8,7,0])))
def ZDh:Zd:=ZLj
def ZhX:Zd:=(.seq (.seq (.region [oM 23 9,oM 24 0,oI 25 (.slen (.t 24)),oI 26 (.bin .lss (.t 23) (.t 25))] none [26,9,8,7,0]) (.cond (.t 26) .skip (.exit 1))) (.block 2 (.seq (.seq (.region [oM 27 0,oM 28 9,oI 29 (.sindex (.t 27) (.t 28)),oM 30 7,oM 31 8,oI 32 (.sindex (.t 30) (.t 31)),oI 33 (.bin .neq (.t 29) (.t 32))] (some []) [33,9,8,7,0]) (.cond (.t 33) (.seq (.region [oM 34 0,oM 35 9,oI 36 (.bin .add (.t 35) (.c (.int .i64 1))),oI 37 (.sslice (.t 34) (some (.t 36)) none),oM 38 7,oM 39 8,oI 40 (.sindex (.t 38) (.t 39)),oI 41 (.call 78 0 true [(.t 37),(.t 40)]),oM 11 41] (some [(7,7)]) [11,9,8,7,0]) (.seq (.seq (.region [oM 42 11,oI 43 (.bin .lss (.t 42) (.c (.int .i64 0)))] none [43,11,9,8,7,0]) (.cond (.t 43) (.seq (.region [oI 4 (.mov (.c (.int .i64 (-1))))] none [4]) .ret) .skip)) (.region [oM 44 9,oM 45 11,oI 46 (.bin .add (.t 45) (.c (.int .i64 1))),oI 47 (.bin .add (.t 44) (.t 46)),oM 9 47] none [9,8,7,0]))) .skip)) (.seq (.seq (.region [oI 12 (.mov (.c (.int .i64 1)))] none [12,9,8,7,0]) (.block 3 (.loop [12,9,8,7,0] ZDh))) ZMO))))
def ZpV:Zd:=ZhX
def Zl1:=xw ZpV ZhX rfl
def Zgd:Zd:=(.seq (.region [oI 4 (.mov (.c (.int .i64 0)))] none [1,0]) (.block 0 (.seq (.region [oM 161 1,oI 162 (.bin .leq (.c (.int .i32 0)) (.t 161)),oM 163 162,⟨(some 164),(.mov (.t 1)),(some (163,true)),[]⟩,⟨(some 165),(.bin .lss (.t 164) (.c (.int .i32 128))),(some (163,true)),[]⟩,oI 166 (.pick (.t 163) (.t 165) (.c (.bool false))),oM 160 166] none [160,1,0]) (.cond (.t 160) (.seq (.region [oM 167 0,oM 168 1,oI 169 (.i2i .u8 (.t 168)),oI 170 (.call 78 0 true [(.t 167),(.t 169)]),oM 4 170] none [4]) .ret) (.seq (.region [oM 172 1,oI 173 (.bin .eql (.t 172) (.c (.int .i32 65533))),oM 171 173] none [171,1,0]) (.cond (.t 171) (.seq (.seq (.region [oM 174 0,oI 175 (.rng (.t 174))] none [175]) (.block 9 (.loop [175] ZHb))) ZGB) (.seq (.region [oM 184 1,oI 185 (.call 79 0 true [(.t 184)]),oI 186 (.un .not (.t 185)),oM 183 186] none [183,1,0]) (.cond (.t 183) (.seq (.region [oI 4 (.mov (.c (.int .i64 (-1))))] none [4]) .ret) (.seq (.region [oM 17 1,oI 18 (.i2s (.t 17)),oM 7 18] none [7,0]) (.seq (.region [oM 19 7,oI 20 (.slen (.t 19)),oI 21 (.bin .sub (.t 20) (.c (.int .i64 1))),oM 8 21] none [8,7,0]) (.seq (.region [oM 22 8,oM 9 22] none [9,8,7,0]) (.seq (.region [oI 10 (.mov (.c (.int .i64 0)))] none [9,8,7,0]) (.seq (.block 1 (.loop [9,8,7,0] ZpV)) Zri)))))))))))))
def Znz:ZN:=⟨[(.tmp 4)],Zgd⟩
theorem ZsW:FC 60=some Znz:=by kernel_rfl
theorem Zjw:Znz.body=Zgd:=rfl
theorem Zkp:Znz.res=[(.tmp 4)]:=rfl
def ZlT:Zd:=(.seq (.region [oI 2 (.mov (.c (.bool false)))] none [0]) (.seq (.region [oM 3 0,oI 4 (.bin .gtr (.t 3) (.c (.int .i64 8))),oM 2 4] none [2]) .ret))
def Zn1:ZN:=⟨[(.tmp 2)],ZlT⟩
theorem Zz3:FC 61=some Zn1:=by kernel_rfl
theorem ZMz:Zn1.body=ZlT:=rfl
theorem ZK1:Zn1.res=[(.tmp 2)]:=rfl
def ZjC:Zd:=(.seq (.region [oI 2 (.mov (.c (.bool false)))] none [0]) (.seq (.block 0 (.seq (.region [oM 4 0,oI 5 (.bin .leq (.c (.int .i32 0)) (.t 4)),oM 6 5,⟨(some 7),(.mov (.t 0)),(some (6,true)),[]⟩,⟨(some 8),(.bin .lss (.t 7) (.c (.int .i32 55296))),(some (6,true)),[]⟩,oI 9 (.pick (.t 6) (.t 8) (.c (.bool false))),oM 3 9] none [3,0]) (.cond (.t 3) (.seq (.region [oI 2 (.mov (.c (.bool true)))] none [2]) .ret) (.seq (.region [oM 11 0,oI 12 (.bin .lss (.c (.int .i32 57343)) (.t 11)),oM 13 12,⟨(some 14),(.mov (.t 0)),(some (13,true)),[]⟩,⟨(some 15),(.bin .leq (.t 14) (.c (.int .i32 1114111))),(some (13,true)),[]⟩,oI 16 (.pick (.t 13) (.t 15) (.c (.bool false))),oM 10 16] none [10]) (.cond (.t 10) (.seq (.region [oI 2 (.mov (.c (.bool true)))] none [2]) .ret) .skip))))) (.seq (.region [oI 2 (.mov (.c (.bool false)))] none [2]) .ret)))
def Zlx:ZN:=⟨[(.tmp 2)],ZjC⟩
theorem ZAX:FC 79=some Zlx:=by kernel_rfl
theorem ZpW:Zlx.body=ZjC:=rfl
theorem Zrz:Zlx.res=[(.tmp 2)]:=rfl
end
section
def Zoy:Zd:=(.seq (.region [oM 12 0,oI 13 (.call 64 0 true [(.t 12)]),oM 2 13] none [2]) .ret)
def Zl8:Zd:=Zoy
def ZI5:=xw Zl8 Zoy rfl
def Zhk:Zd:=(.seq (.region [oI 7 (.nxt (.t 6)),oI 8 (.ext (.t 7) 0)] none [8,7,6,0]) (.seq (.cond (.t 8) .skip (.exit 0)) (.block 1 (.seq (.region [oI 9 (.ext (.t 7) 2),oM 4 9] none [6,4,0]) (.seq (.region [oM 10 4,oI 11 (.bin .eql (.t 10) (.c (.int .i32 0)))] none [11,6,0]) (.cond (.t 11) (.seq (.region [oI 2 (.mov (.c (.bool false)))] none [2]) .ret) .skip))))))
def Zpj:Zd:=Zhk
def ZlM:=xw Zpj Zhk rfl
def Zn9:Zd:=(.seq (.region [oI 2 (.mov (.c (.bool false)))] none [0]) (.seq (.seq (.region [oM 5 0,oI 6 (.rng (.t 5))] none [6,0]) (.block 0 (.loop [6,0] Zpj))) Zl8))
def ZkC:ZN:=⟨[(.tmp 2)],Zn9⟩
theorem ZJs:FC 54=some ZkC:=by kernel_rfl
theorem ZLQ:ZkC.body=Zn9:=rfl
theorem Zqd:ZkC.res=[(.tmp 2)]:=rfl
noncomputable def ZiC (m:Nat) (tm:Tms) (σ:Za):Option (AVal×Za):=(ZaC m ZkC (Zbf FC PR BY m Zl8 (WE (ZaL 0) (evL FC PR BY m [6,0] Zpj tm σ))))
def Zn6:Zd:=(.seq (.region [oI 2 (.mov (.c (.bool true)))] none [2]) .ret)
def Znr:Zd:=Zn6
def ZGW:=xw Znr Zn6 rfl
def ZgX:Zd:=(.seq (.seq (.region [oM 5 0,oI 6 (.bin .neq (.t 5) (.c (.str [])))] none [6,0]) (.cond (.t 6) .skip (.exit 0))) (.block 1 (.seq (.region [oM 8 0,oI 9 (.call 59 0 true [(.t 8)]),oM 7 9,oI 10 (.ext (.t 7) 0),oI 11 (.ext (.t 7) 1),oM 3 10,oM 4 11] none [4,3,0]) (.seq (.seq (.region [oM 12 4,oI 13 (.bin .eql (.t 12) (.c (.int .i64 0))),oM 14 13,⟨(some 15),(.mov (.t 3)),(some (14,false)),[]⟩,⟨(some 16),(.bin .eql (.t 15) (.c (.int .i64 0))),(some (14,false)),[]⟩,oI 17 (.pick (.t 14) (.c (.bool true)) (.t 16))] none [17,4,0]) (.cond (.t 17) (.seq (.region [oI 2 (.mov (.c (.bool false)))] none [2]) .ret) .skip)) (.region [oM 18 0,oM 19 4,oI 20 (.sslice (.t 18) (some (.t 19)) none),oM 0 20] none [0])))))
def Zni:Zd:=ZgX
def Zkm:=xw Zni ZgX rfl
def Zk5:Zd:=(.seq (.region [oI 2 (.mov (.c (.bool false)))] none [0]) (.seq (.block 0 (.loop [0] Zni)) Znr))
def Zj4:ZN:=⟨[(.tmp 2)],Zk5⟩
theorem ZIk:FC 52=some Zj4:=by kernel_rfl
theorem Zv3:Zj4.body=Zk5:=rfl
theorem ZlH:Zj4.res=[(.tmp 2)]:=rfl
noncomputable def ZhF (m:Nat) (tm:Tms) (σ:Za):Option (AVal×Za):=(ZaC m Zj4 (Zbf FC PR BY m Znr (WE (ZaL 0) (evL FC PR BY m [0] Zni tm σ))))
def ZfW:Zd:=(.seq (.seq (.region [oM 69 4,oM 70 6,oI 71 (.bin .lss (.t 69) (.t 70)),oM 72 71,⟨(some 73),(.mov (.t 4)),(some (72,false)),[]⟩,⟨(some 74),(.bin .gtr (.t 73) (.c (.int .i64 1114111))),(some (72,false)),[]⟩,oI 75 (.pick (.t 72) (.c (.bool true)) (.t 74)),oM 76 75,⟨(some 77),(.mov (.t 4)),(some (76,false)),[]⟩,⟨(some 78),(.bin .geq (.t 77) (.c (.int .i64 55296))),(some (76,false)),[]⟩,⟨(some 79),(.mov (.t 78)),(some (76,false)),[]⟩,⟨(some 80),(.mov (.t 4)),(some (79,true)),[]⟩,⟨(some 81),(.bin .lss (.t 80) (.c (.int .i64 57344))),(some (79,true)),[]⟩,⟨(some 82),(.pick (.t 79) (.t 81) (.c (.bool false))),(some (76,false)),[]⟩,oI 83 (.pick (.t 76) (.c (.bool true)) (.t 82))] none [83,5,4]) (.cond (.t 83) (.seq (.region [oI 2 (.mov (.c (.int .i64 0))),oI 3 (.mov (.c (.int .i64 0)))] none [3,2]) .ret) .skip)) (.seq (.region [oM 84 4,oM 85 5,oI 86 (.bin .add (.t 85) (.c (.int .i64 1))),oM 2 84,oM 3 86] none [3,2]) .ret))
def Zl9:Zd:=ZfW
def ZhT:=xw Zl9 ZfW rfl
def ZdP:Zd:=(.seq (.seq (.region [oM 46 7,oM 47 5,oI 48 (.bin .leq (.t 46) (.t 47))] none [48,7,6,5,4,0]) (.cond (.t 48) .skip (.exit 1))) (.seq (.block 2 (.seq (.seq (.region [oM 51 0,oM 52 7,oI 53 (.sindex (.t 51) (.t 52)),oI 54 (.bin .lss (.t 53) (.c (.int .u8 128))),oM 55 54,⟨(some 56),(.mov (.t 0)),(some (55,false)),[]⟩,⟨(some 57),(.mov (.t 7)),(some (55,false)),[]⟩,⟨(some 58),(.sindex (.t 56) (.t 57)),(some (55,false)),[]⟩,⟨(some 59),(.bin .geq (.t 58) (.c (.int .u8 192))),(some (55,false)),[]⟩,oI 60 (.pick (.t 55) (.c (.bool true)) (.t 59))] none [60,7,6,5,4,0]) (.cond (.t 60) (.seq (.region [oI 2 (.mov (.c (.int .i64 0))),oI 3 (.mov (.c (.int .i64 0)))] none [3,2]) .ret) .skip)) (.region [oM 61 4,oI 62 (.bin .mul (.t 61) (.c (.int .i64 64))),oM 63 0,oM 64 7,oI 65 (.sindex (.t 63) (.t 64)),oI 66 (.i2i .i64 (.t 65)),oI 67 (.bin .add (.t 62) (.t 66)),oI 68 (.bin .sub (.t 67) (.c (.int .i64 128))),oM 4 68] none [7,6,5,4,0]))) (.region [oM 49 7,oI 50 (.bin .add (.t 49) (.c (.int .i64 1))),oM 7 50] none [7,6,5,4,0])))
def ZkQ:Zd:=ZdP
def ZeP:=xw ZkQ ZdP rfl
def ZdH:Zd:=(.seq (.region [oI 2 (.mov (.c (.int .i64 0))),oI 3 (.mov (.c (.int .i64 0)))] none [0]) (.seq (.region [oM 8 0,oI 9 (.sindex (.t 8) (.c (.int .i64 0))),oI 10 (.i2i .i64 (.t 9)),oM 4 10] none [4,0]) (.seq (.region [oI 5 (.mov (.c (.int .i64 0))),oI 6 (.mov (.c (.int .i64 0)))] none [4,0]) (.seq (.block 0 (.seq (.region [oM 12 4,oI 13 (.bin .lss (.t 12) (.c (.int .i64 128))),oM 11 13] none [11,4,0]) (.cond (.t 11) (.seq (.region [oM 14 4,oM 2 14,oI 3 (.mov (.c (.int .i64 1)))] none [3,2]) .ret) (.seq (.region [oM 16 4,oI 17 (.bin .geq (.t 16) (.c (.int .i64 192))),oM 18 17,⟨(some 19),(.mov (.t 4)),(some (18,true)),[]⟩,⟨(some 20),(.bin .lss (.t 19) (.c (.int .i64 224))),(some (18,true)),[]⟩,oI 21 (.pick (.t 18) (.t 20) (.c (.bool false))),oM 15 21] none [15,4,0]) (.cond (.t 15) (.region [oM 22 4,oI 23 (.bin .sub (.t 22) (.c (.int .i64 192))),oI 5 (.mov (.c (.int .i64 1))),oI 6 (.mov (.c (.int .i64 128))),oM 4 23] none [6,5,4,0]) (.seq (.region [oM 25 4,oI 26 (.bin .geq (.t 25) (.c (.int .i64 224))),oM 27 26,⟨(some 28),(.mov (.t 4)),(some (27,true)),[]⟩,⟨(some 29),(.bin .lss (.t 28) (.c (.int .i64 240))),(some (27,true)),[]⟩,oI 30 (.pick (.t 27) (.t 29) (.c (.bool false))),oM 24 30] none [24,4,0]) (.cond (.t 24) (.region [oM 31 4,oI 32 (.bin .sub (.t 31) (.c (.int .i64 224))),oI 5 (.mov (.c (.int .i64 2))),oI 6 (.mov (.c (.int .i64 2048))),oM 4 32] none [6,5,4,0]) (.seq (.region [oM 34 4,oI 35 (.bin .geq (.t 34) (.c (.int .i64 240))),oM 36 35,⟨(some 37),(.mov (.t 4)),(some (36,true)),[]⟩,⟨(some 38),(.bin .lss (.t 37) (.c (.int .i64 248))),(some (36,true)),[]⟩,oI 39 (.pick (.t 36) (.t 38) (.c (.bool false))),oM 33 39] none [33,4,0]) (.cond (.t 33) (.region [oM 40 4,oI 41 (.bin .sub (.t 40) (.c (.int .i64 240))),oI 5 (.mov (.c (.int .i64 3))),oI 6 (.mov (.c (.int .i64 65536))),oM 4 41] none [6,5,4,0]) (.seq (.region [oI 2 (.mov (.c (.int .i64 0))),oI 3 (.mov (.c (.int .i64 0)))] none [3,2]) .ret)))))))))) (.seq (.seq (.region [oM 42 0,oI 43 (.slen (.t 42)),oM 44 5,oI 45 (.bin .leq (.t 43) (.t 44))] none [45,6,5,4,0]) (.cond (.t 45) (.seq (.region [oI 2 (.mov (.c (.int .i64 0))),oI 3 (.mov (.c (.int .i64 0)))] none [3,2]) .ret) .skip)) (.seq (.seq (.region [oI 7 (.mov (.c (.int .i64 1)))] none [7,6,5,4,0]) (.block 1 (.loop [7,6,5,4,0] ZkQ))) Zl9))))))
def Zjc:ZN:=⟨[(.tmp 2),(.tmp 3)],ZdH⟩
theorem ZIL:FC 59=some Zjc:=by kernel_rfl
theorem ZeF:Zjc.body=ZdH:=rfl
theorem Zcp:Zjc.res=[(.tmp 2),(.tmp 3)]:=rfl
noncomputable def Zfm (m:Nat) (tm:Tms) (σ:Za):Option (AVal×Za):=(ZaC m Zjc (Zbf FC PR BY m Zl9 (WE (ZaL 1) (evL FC PR BY m [7,6,5,4,0] ZkQ tm σ))))
end
section
theorem ZiZ (l:List UInt8) (p:Nat):Zel l p=Lib.decodeL (l.drop p):=by
 have:=Lib.decodeL_drop ⟨l.toArray⟩ p
 simpa [Zel] using this.symm
def zfG:Nat->List UInt8->Bool
 | 0,_=>true
 | n+1,l=>if l=[] then true else if (Lib.decodeL l).1=0 then false else zfG n (l.drop (Lib.decodeL l).2)
def ZcP (l:List UInt8):Bool:=zfG l.length l && Lib.validD l
theorem ZBm (l:List UInt8):E 64 [.str l] []=some (.bool (Lib.validD l),[]):=Zce.2 ⟨1,rfl⟩
theorem ZJ4 (σ:Za) (sq own:Nat) (view:Bool) (l:List UInt8):Zr E BY σ sq 64 own view [.str l]=some (.bool (Lib.validD l),σ,{}) :=
 Za6 (ZBm l) (by kernel_rfl) (by simp -implicitDefEqProofs only [Zbe,ZD,eq_self]) (by simp -implicitDefEqProofs only [Zab,ZD,eq_self]) rfl (fun _=>rfl) _ _ _ _
theorem ZrB (s:List UInt8):∀ (n p:Nat),s.length - p<=n->p<=s.length->ZiC 0 [(6,.ref 0 0),(0,.str s)] [.siter s p]=some (.bool (zfG n (s.drop p) && Lib.validD s),[])
 | n,p,hn,hp=>by
  by_cases h:p < s.length
  ·obtain ⟨n,rfl⟩:∃ m,n=m+1:=⟨n - 1,by omega⟩
   have hw:=Lib.decodeL_width (s.drop p)
   have hne:s.drop p≠[]:=by rw [ne_eq,Wq];omega
   have hle:=Lib.decodeL_le (s.drop p) hne
   rw [Wv] at hle
   have ih:=ZrB s n (p+(Lib.decodeL (s.drop p)).2) (by omega) (by omega)
   rw [<-Xa8] at ih
   unfold ZiC at ih ⊢
   rw [ZO]
   by_cases hz:(Lib.decodeL (s.drop p)).1=0
   ·have hz':((Lib.decodeL (s.drop p)).1:Int)=0:=by omega
    simp -implicitDefEqProofs only [EQA,Xe,Xc,reduceCtorEq,↓reduceIte,Zqd,ZlM,Zhk,h,ZiZ,hz']
    rw [zfG,if_neg hne,if_pos hz];rfl
   ·have hz':(((Lib.decodeL (s.drop p)).1:Int) == 0)=false:=by rw [beq_eq_false_iff_ne];omega
    simp -implicitDefEqProofs only [EQA,ZE,ZaH,Xe,Xo,Xc,reduceCtorEq,↓reduceIte,gcT,gcA,Zn,Zi,Ze,Zg,Zv,Zb,Zu,Zm,Zp,ZlM,Zhk,h,ZiZ,hz']
    rw [ih,zfG,if_neg hne,if_neg hz]
  ·have he:s.drop p=[]:=by rw [Wq];omega
   unfold ZiC
   rw [ZO]
   simp -implicitDefEqProofs only [EQA,Xe,Xc,reduceCtorEq,↓reduceIte,Zqd,ZI5,Zoy,ZlM,Zhk,h,ZJ4]
   rw [he]
   cases n <;> simp [zfG]
theorem ZKQ (s:List UInt8):E 54 [.str s] []=some (.bool (ZcP s),[]):=by
 rw [ZQ (by rfl) ZJs]
 have:=ZrB s s.length 0 (by omega) (by omega)
 unfold ZiC at this
 simp -implicitDefEqProofs only [EQA,ZE,ZaH,Xe,Xo,Xk,reduceCtorEq,↓reduceIte,gcT,gcA,Zn,Zi,Ze,Zg,Zv,Zb,Zu,Zm,Zp,ZLQ,Zn9]
 rw [this,XaF];rfl
theorem ZxV (σ:Za) (sq own:Nat) (view:Bool) (l:List UInt8):Zr E BY σ sq 54 own view [.str l]=some (.bool (ZcP l),σ,{}) :=
 Za6 (ZKQ l) (by kernel_rfl) (by simp -implicitDefEqProofs only [Zbe,ZD,eq_self]) (by simp -implicitDefEqProofs only [Zab,ZD,eq_self]) rfl (fun _=>rfl) _ _ _ _
def Zbz:List UInt8->Int->Option Int
 | [],c=>some c
 | b::r,c=>if b.toNat < 128\/192<=b.toNat then none else Zbz r (c*64+b.toNat - 128)
def Zbn (n least:Int):Option Int->AVal
 | none=>.tup [.int .i64 0,.int .i64 0]
 | some c=>if c < least\/1114111 < c\/(55296<=c/\c < 57344) then .tup [.int .i64 0,.int .i64 0] else .tup [.int .i64 c,.int .i64 (n+1)]
theorem ZmI (b:UInt8):(b.toNat:Int) < 256:=by have:=b.toNat_lt;omega
theorem wrap_i64 {n:Int} (h0:-9223372036854775808<=n) (h:n<=9223372036854775807):IntKind.i64.wrap n=n:=Zbx h0 h
theorem ZjH (s:List UInt8) (least:Int) (n:Nat) (hn:n<=3):∀ (r:List UInt8) (i:Nat) (c:Int),1<=i->i+r.length=n+1->(∀ j,j < r.length->s[i+j]?=r[j]?)->0<=c->(c+1)*64 ^ r.length<=2 ^ 40->n < s.length ->
  Zfm 0 [(7,.int .i64 i),(6,.int .i64 least),(5,.int .i64 n),(4,.int .i64 c),(0,.str s)] []=some (Zbn n least (Zbz r c),[])
 | [],i,c,hi,hl,hs,hc,hb,hns=>by
  simp only [XP,Nat.add_zero] at hl
  simp only [XP,Int.pow_zero,Int.mul_one] at hb
  have h1:¬((i:Int)<=n):=by omega
  have h2:IntKind.i64.wrap ((n:Int)+1)=n+1:=Zbx (by omega) (by omega)
  unfold Zfm
  rw [ZO]
  by_cases h4:c < least
  ·have e:Zbn n least (Zbz [] c)=.tup [.int .i64 0,.int .i64 0]:=by simp [Zbn,Zbz,h4]
   rw [e]
   simp -implicitDefEqProofs only [EQA,ZbK,Xe,Xc,Zs,Z4,reduceCtorEq,↓reduceIte,ZaB,Zcp,ZhT,ZfW,ZeP,ZdP,h1,h4]
  by_cases h5:c > 1114111
  ·have e:Zbn n least (Zbz [] c)=.tup [.int .i64 0,.int .i64 0]:=by
    have h5':1114111 < c:=h5
    simp [Zbn,Zbz,h5']
   rw [e]
   simp -implicitDefEqProofs only [EQA,ZbK,Xe,Xc,Zs,Z4,unG,reduceCtorEq,↓reduceIte,ZaB,Zcp,ZhT,ZfW,ZeP,ZdP,h1,h4,h5]
  by_cases h6:c>=55296
  ·by_cases h7:c < 57344
   ·have e:Zbn n least (Zbz [] c)=.tup [.int .i64 0,.int .i64 0]:=by
     simp only [Zbn,Zbz];rw [if_pos (Xr (Xr ⟨h6,h7⟩))]
    rw [e]
    simp -implicitDefEqProofs only [EQA,ZbK,Xe,Xc,Zs,unG,reduceCtorEq,↓reduceIte,ZaB,Zcp,ZhT,ZfW,ZeP,ZdP,h1,h4,h5,h6,h7]
   ·have e:Zbn n least (Zbz [] c)=.tup [.int .i64 c,.int .i64 (n+1)]:=by
     simp only [Zbn,Zbz];rw [if_neg (by omega)]
    rw [e]
    simp -implicitDefEqProofs only [EQA,ZbK,Xe,Xc,Zs,unG,reduceCtorEq,↓reduceIte,ZaB,Zcp,ZhT,ZfW,ZeP,ZdP,h1,h2,h4,h5,h6,h7]
  ·have e:Zbn n least (Zbz [] c)=.tup [.int .i64 c,.int .i64 (n+1)]:=by
    simp only [Zbn,Zbz];rw [if_neg (by omega)]
   rw [e]
   simp -implicitDefEqProofs only [EQA,ZbK,Xe,Xc,Zs,Z4,unG,reduceCtorEq,↓reduceIte,ZaB,Zcp,ZhT,ZfW,ZeP,ZdP,h1,h2,h4,h5,h6]
 | b::r,i,c,hi,hl,hs,hc,hb,hns=>by
  simp only [XE] at hl hb
  have hb0:=ZmI b
  have hs0:s[i]?=some b:=by have:=hs 0 (by simp);simpa using this
  have h1:((i:Int)<=n):=by omega
  have h3:IntKind.i64.wrap ((i:Int)+1)=((i+1:Nat):Int):=by rw [Zbx (by omega) (by omega)];rfl
  have hp:(1:Int)<=64 ^ r.length:=by
   have : (0:Int) < 64 ^ r.length:=Int.pow_pos (by omega)
   omega
  have hc2:c+1<=2 ^ 40:=by
   have : (c+1)*1<=(c+1)*64 ^ (r.length+1):=Int.mul_le_mul_of_nonneg_left (by rw [Int.pow_succ];omega) (by omega)
   omega
  have i0:(0:Int)<=(i:Int):=by omega
  have hlow:((b.toNat:Int) < 128)\/¬((b.toNat:Int) < 128):=by omega
  by_cases h4:(b.toNat:Int) < 128
  ·have e:Zbn n least (Zbz (b::r) c)=.tup [.int .i64 0,.int .i64 0]:=by simp only [Zbz];rw [if_pos (Xm (by omega))];rfl
   rw [e]
   unfold Zfm
   rw [ZO]
   simp -implicitDefEqProofs only [EQA,ZbK,Xe,Xc,Zs,Z4,reduceCtorEq,↓reduceIte,ZaB,Zcp,ZeP,ZdP,h1,h4,hs0,i0,XY,Z3]
  by_cases h5:(b.toNat:Int)>=192
  ·have e:Zbn n least (Zbz (b::r) c)=.tup [.int .i64 0,.int .i64 0]:=by simp only [Zbz];rw [if_pos (Xr (by omega))];rfl
   rw [e]
   unfold Zfm
   rw [ZO]
   simp -implicitDefEqProofs only [EQA,ZbK,Xe,Xc,Zs,unG,reduceCtorEq,↓reduceIte,ZaB,Zcp,ZeP,ZdP,h1,h4,h5,hs0,i0,XY,Z3]
  have ih:=ZjH s least n hn r (i+1) (c*64+b.toNat - 128) (by omega) (by omega) (fun j hj=>by
   have:=hs (j+1) (by simp;omega)
   rw [show i+1+j=i+(j+1) by omega,this];simp) (by omega) (by
    have : (c*64+b.toNat - 128+1)*64 ^ r.length<=(c+1)*64*64 ^ r.length:=Int.mul_le_mul_of_nonneg_right (by omega) (by omega)
    rw [Int.pow_succ,Int.mul_comm (64 ^ r.length) 64,<-Int.mul_assoc] at hb
    omega) hns
  have w1:IntKind.i64.wrap (c*64)=c*64:=Zbx (by omega) (by omega)
  have w2:IntKind.i64.wrap (b.toNat:Int)=b.toNat:=Zbx (by omega) (by omega)
  have w3:IntKind.i64.wrap (c*64+b.toNat)=c*64+b.toNat:=Zbx (by omega) (by omega)
  have w4:IntKind.i64.wrap (c*64+b.toNat - 128)=c*64+b.toNat - 128:=Zbx (by omega) (by omega)
  unfold Zfm at ih ⊢
  rw [ZO]
  simp -implicitDefEqProofs only [EQA,ZE,Xe,Xc,Zs,unG,reduceCtorEq,↓reduceIte,gcT,gcA,Zn,Zi,Zg,Zp,ZeP,ZdP,h1,h3,h4,h5,hs0,i0,w1,w2,w3,w4,XY,Z3]
  rw [ih]
  simp only [Zbz]
  rw [if_neg (by omega)]
def ZdK (l:List UInt8):Nat×Nat:=if (Lib.decodeL l).1=65533/\(Lib.decodeL l).2=1 then (0,0) else Lib.decodeL l
def Zci (p:Nat×Nat):AVal:=.tup [.int .i64 p.1,.int .i64 p.2]
theorem ZhC (l:List UInt8):ZdK l=if (Lib.decodeN l.length (l.getD 0 0).toNat (l.getD 1 0).toNat (l.getD 2 0).toNat (l.getD 3 0).toNat).1=65533/\(Lib.decodeN l.length (l.getD 0 0).toNat (l.getD 1 0).toNat (l.getD 2 0).toNat (l.getD 3 0).toNat).2=1 then (0,0) else Lib.decodeN l.length (l.getD 0 0).toNat (l.getD 1 0).toNat (l.getD 2 0).toNat (l.getD 3 0).toNat:=by
 unfold ZdK;rw [Lib.decodeL_N]
theorem ZnA {c n:Int} {p:Nat×Nat} (h1:c=p.1) (h2:n=p.2):(.tup [.int .i64 c,.int .i64 n]:AVal)=Zci p:=by simp [Zci,h1,h2]
theorem ZJ9 (b0 b1:UInt8) (t:List UInt8) (h:192<=b0.toNat/\b0.toNat < 224):Zbn 1 128 (Zbz [b1] (b0.toNat - 192))=Zci (ZdK (b0::b1::t)):=by
 rw [ZhC]
 simp only [XE,XD,XL,Zbz]
 have hb1:=b1.toNat_lt
 generalize b0.toNat=x0 at *
 generalize b1.toNat=x1 at *
 generalize ((t.getD 0 0).toNat)=x2
 generalize ((t.getD 1 0).toNat)=x3
 have e1:¬x0 < 128:=by omega
 have e2:x0 / 32=6:=by omega
 have e3:1 < t.length+1+1:=by omega
 have e4:¬x0 / 16=14:=by omega
 have e5:¬x0 / 8=30:=by omega
 by_cases h1:x1 < 128\/192<=x1
 ·rw [if_pos h1]
  have e6:¬x1 / 64=2:=by omega
  simp [Lib.decodeN,e1,e2,e4,e5,e6,Zbn,Zci]
 ·rw [if_neg h1]
  have e6:x1 / 64=2:=by omega
  simp only [Lib.decodeN,e1,e2,e3,e6,if_false,and_self,if_true]
  simp only [Zbn]
  by_cases h2:x0 % 32*64+x1 % 64>=128
  ·rw [if_neg (by omega),if_pos h2,if_neg (by simp)]
   exact ZnA (by simp only;omega) (by simp)
  ·rw [if_pos (by omega),if_neg h2,if_pos (by simp)]
   rfl
theorem ZKV (b0 b1 b2:UInt8) (t:List UInt8) (h:224<=b0.toNat/\b0.toNat < 240):Zbn 2 2048 (Zbz [b1,b2] (b0.toNat - 224))=Zci (ZdK (b0::b1::b2::t)):=by
 rw [ZhC]
 simp only [XE,XD,XL,Zbz]
 have hb1:=b1.toNat_lt
 have hb2:=b2.toNat_lt
 generalize b0.toNat=x0 at *
 generalize b1.toNat=x1 at *
 generalize b2.toNat=x2 at *
 generalize ((t.getD 0 0).toNat)=x3
 have e1:¬x0 < 128:=by omega
 have e2:¬x0 / 32=6:=by omega
 have e3:1 < t.length+1+1+1:=by omega
 have e3':2 < t.length+1+1+1:=by omega
 have e4:x0 / 16=14:=by omega
 have e5:¬x0 / 8=30:=by omega
 by_cases h1:x1 < 128\/192<=x1
 ·rw [if_pos h1]
  have e6:¬x1 / 64=2:=by omega
  simp [Lib.decodeN,e1,e2,e4,e5,e6,Zbn,Zci]
 ·rw [if_neg h1]
  have e6:x1 / 64=2:=by omega
  by_cases h2:x2 < 128\/192<=x2
  ·rw [if_pos h2]
   have e7:¬x2 / 64=2:=by omega
   simp [Lib.decodeN,e1,e2,e4,e5,e6,e7,Zbn,Zci]
  ·rw [if_neg h2]
   have e7:x2 / 64=2:=by omega
   simp only [Lib.decodeN,e1,e2,e3,e3',e4,e6,e7,if_false,and_self,if_true,false_and]
   simp only [Zbn]
   by_cases h3:x0 % 16*4096+x1 % 64*64+x2 % 64>=2048/\(x0 % 16*4096+x1 % 64*64+x2 % 64 < 55296\/(57344<=x0 % 16*4096+x1 % 64*64+x2 % 64/\x0 % 16*4096+x1 % 64*64+x2 % 64<=1114111))
   ·rw [if_neg (by omega),if_pos h3,if_neg (by simp)]
    exact ZnA (by simp only;omega) (by simp)
   ·rw [if_pos (by omega),if_neg h3,if_pos (by simp)]
    rfl
theorem Zvw (b0 b1 b2 b3:UInt8) (t:List UInt8) (h:240<=b0.toNat/\b0.toNat < 248):Zbn 3 65536 (Zbz [b1,b2,b3] (b0.toNat - 240))=Zci (ZdK (b0::b1::b2::b3::t)):=by
 rw [ZhC]
 simp only [XE,XD,XL,Zbz]
 have hb1:=b1.toNat_lt
 have hb2:=b2.toNat_lt
 have hb3:=b3.toNat_lt
 generalize b0.toNat=x0 at *
 generalize b1.toNat=x1 at *
 generalize b2.toNat=x2 at *
 generalize b3.toNat=x3 at *
 have e1:¬x0 < 128:=by omega
 have e2:¬x0 / 32=6:=by omega
 have e3:1 < t.length+1+1+1+1:=by omega
 have e3':2 < t.length+1+1+1+1:=by omega
 have e3'':3 < t.length+1+1+1+1:=by omega
 have e4:¬x0 / 16=14:=by omega
 have e5:x0 / 8=30:=by omega
 by_cases h1:x1 < 128\/192<=x1
 ·rw [if_pos h1]
  have e6:¬x1 / 64=2:=by omega
  simp [Lib.decodeN,e1,e2,e4,e5,e6,Zbn,Zci]
 ·rw [if_neg h1]
  have e6:x1 / 64=2:=by omega
  by_cases h2:x2 < 128\/192<=x2
  ·rw [if_pos h2]
   have e7:¬x2 / 64=2:=by omega
   simp [Lib.decodeN,e1,e2,e4,e5,e6,e7,Zbn,Zci]
  ·rw [if_neg h2]
   have e7:x2 / 64=2:=by omega
   by_cases h4:x3 < 128\/192<=x3
   ·rw [if_pos h4]
    have e8:¬x3 / 64=2:=by omega
    simp [Lib.decodeN,e1,e2,e4,e5,e6,e7,e8,Zbn,Zci]
   ·rw [if_neg h4]
    have e8:x3 / 64=2:=by omega
    simp only [Lib.decodeN,e1,e2,e3,e3',e3'',e4,e5,e6,e7,e8,if_false,and_self,if_true,false_and]
    simp only [Zbn]
    by_cases h3:x0 % 8*262144+x1 % 64*4096+x2 % 64*64+x3 % 64>=65536/\(x0 % 8*262144+x1 % 64*4096+x2 % 64*64+x3 % 64 < 55296\/(57344<=x0 % 8*262144+x1 % 64*4096+x2 % 64*64+x3 % 64/\x0 % 8*262144+x1 % 64*4096+x2 % 64*64+x3 % 64<=1114111))
    ·rw [if_neg (by omega),if_pos h3,if_neg (by simp)]
     exact ZnA (by simp only;omega) (by simp)
    ·rw [if_pos (by omega),if_neg h3,if_pos (by simp)]
     rfl
theorem Zia (b0:UInt8) (t:List UInt8) (h:(192<=b0.toNat/\b0.toNat < 224/\t.length < 1)\/(224<=b0.toNat/\b0.toNat < 240/\t.length < 2)\/(240<=b0.toNat/\b0.toNat < 248/\t.length < 3)\/(128<=b0.toNat/\b0.toNat < 192)\/248<=b0.toNat):ZdK (b0::t)=(0,0):=by
 rw [ZhC,if_pos]
 simp only [XE,XD,XL]
 have hb:=b0.toNat_lt
 generalize b0.toNat=x0 at *
 generalize ((t.getD 0 0).toNat)=x1
 generalize ((t.getD 1 0).toNat)=x2
 generalize ((t.getD 2 0).toNat)=x3
 generalize t.length=m at *
 unfold Lib.decodeN
 repeat' split
 all_goals first | exact ⟨rfl,rfl⟩ | (exfalso;omega) | (constructor <;> omega)
theorem ZJy (b0:UInt8) (t:List UInt8) (h:b0.toNat < 128):ZdK (b0::t)=(b0.toNat,1):=by
 rw [ZhC]
 simp only [XE,XD,Lib.decodeN,h,if_true]
 rw [if_neg (by omega)]
theorem ZgC:Zci (0,0)=.tup [.int .i64 0,.int .i64 0]:=rfl
theorem ZFy (n:Nat):Zci (n,1)=.tup [.int .i64 n,.int .i64 1]:=rfl
theorem ZJO (b0:UInt8) (t:List UInt8):E 59 [.str (b0::t)] []=some (Zci (ZdK (b0::t)),[]):=by
 rw [ZQ (by rfl) ZIL]
 have hb:=ZmI b0
 have w0:IntKind.i64.wrap (b0.toNat:Int)=b0.toNat:=Zbx (by omega) (by omega)
 by_cases h1:(b0.toNat:Int) < 128
 ·rw [ZJy b0 t (by omega),ZFy]
  simp -implicitDefEqProofs only [EQA,ZbK,Xe,Xc,reduceCtorEq,↓reduceIte,ZaB,ZeF,ZdH,Zcp,h1,w0,Z3,WB,Ws]
 by_cases h2:(b0.toNat:Int)>=192
 ·by_cases h3:(b0.toNat:Int) < 224
  ·have w1:IntKind.i64.wrap ((b0.toNat:Int) - 192)=b0.toNat - 192:=Zbx (by omega) (by omega)
   by_cases h6:((t.length+1:Nat):Int)<=1
   ·rw [Zia b0 t (Xm ⟨by omega,by omega,by omega⟩),ZgC]
    simp -implicitDefEqProofs only [EQA,ZbK,Xe,Xc,Zs,unG,reduceCtorEq,↓reduceIte,ZaB,ZeF,ZdH,Zcp,h1,h2,h3,w0,w1,h6,Z3,WB,Ws]
   ·obtain ⟨b1,t,rfl⟩:∃ b1 t',t=b1::t':=by
     cases t with
     | nil=>simp at h6
     | cons b1 t=>exact ⟨b1,t,rfl⟩
    have key:=ZjH (b0::b1::t) 128 1 (by omega) [b1] 1 (b0.toNat - 192) (by omega) rfl (fun j hj=>by
     have : j=0:=by simpa using hj
     subst this;rfl) (by omega) (by simp only [XE,XP];omega) (by simp)
    rw [show (((1:Nat):Int))=1 from rfl,ZJ9 b0 b1 t (by omega)] at key
    unfold Zfm at key
    simp -implicitDefEqProofs only [EQA,ZbK,ZE,Xe,Xc,Zs,unG,reduceCtorEq,decide_eq_true_eq,↓reduceIte,ZaB,gcT,gcA,Zn,Zi,Zg,Zp,ZeF,ZdH,Zcp,h1,h2,h3,w0,w1,Z3,WB,Ws]
    exact key
  ·by_cases h4:(b0.toNat:Int) < 240
   ·have h3':(b0.toNat:Int)>=224:=by omega
    have w1:IntKind.i64.wrap ((b0.toNat:Int) - 224)=b0.toNat - 224:=Zbx (by omega) (by omega)
    by_cases h6:((t.length+1:Nat):Int)<=2
    ·rw [Zia b0 t (Xr (Xm ⟨by omega,by omega,by omega⟩)),ZgC]
     simp -implicitDefEqProofs only [EQA,ZbK,Xe,Xc,Zs,unG,reduceCtorEq,↓reduceIte,ZaB,ZeF,ZdH,Zcp,h1,h2,h3,h3',h4,w0,w1,h6,Z3,WB,Ws]
    ·obtain ⟨b1,b2,t,rfl⟩:∃ b1 b2 t',t=b1::b2::t':=by
      match t,h6 with
      | [],h6=>simp at h6
      | [_],h6=>simp at h6
      | b1::b2::t,_=>exact ⟨b1,b2,t,rfl⟩
     have key:=ZjH (b0::b1::b2::t) 2048 2 (by omega) [b1,b2] 1 (b0.toNat - 224) (by omega) rfl (fun j hj=>by
      match j,hj with
      | 0,_=>rfl
      | 1,_=>rfl
      | j+2,hj=>simp at hj;omega) (by omega) (by simp only [XE,XP];omega) (by simp)
     rw [show (((2:Nat):Int))=2 from rfl,show (((1:Nat):Int))=1 from rfl,ZKV b0 b1 b2 t (by omega)] at key
     unfold Zfm at key
     simp -implicitDefEqProofs only [EQA,ZbK,ZE,Xe,Xc,Zs,unG,reduceCtorEq,decide_eq_true_eq,↓reduceIte,ZaB,gcT,gcA,Zn,Zi,Zg,Zp,ZeF,ZdH,Zcp,h1,h2,h3,h3',h4,w0,w1,Z3,WB,Ws]
     exact key
   ·by_cases h5:(b0.toNat:Int) < 248
    ·have h3':(b0.toNat:Int)>=224:=by omega
     have h4':(b0.toNat:Int)>=240:=by omega
     have w1:IntKind.i64.wrap ((b0.toNat:Int) - 240)=b0.toNat - 240:=Zbx (by omega) (by omega)
     by_cases h6:((t.length+1:Nat):Int)<=3
     ·rw [Zia b0 t (Xr (Xr (Xm ⟨by omega,by omega,by omega⟩))),ZgC]
      simp -implicitDefEqProofs only [EQA,ZbK,Xe,Xc,Zs,unG,reduceCtorEq,↓reduceIte,ZaB,ZeF,ZdH,Zcp,h1,h2,h3,h3',h4,h4',h5,w0,w1,h6,Z3,WB,Ws]
     ·obtain ⟨b1,b2,b3,t,rfl⟩:∃ b1 b2 b3 t',t=b1::b2::b3::t':=by
       match t,h6 with
       | [],h6=>simp at h6
       | [_],h6=>simp at h6
       | [_,_],h6=>simp at h6
       | b1::b2::b3::t,_=>exact ⟨b1,b2,b3,t,rfl⟩
      have key:=ZjH (b0::b1::b2::b3::t) 65536 3 (by omega) [b1,b2,b3] 1 (b0.toNat - 240) (by omega) rfl (fun j hj=>by
       match j,hj with
       | 0,_=>rfl
       | 1,_=>rfl
       | 2,_=>rfl
       | j+3,hj=>simp at hj;omega) (by omega) (by simp only [XE,XP];omega) (by simp)
      rw [show (((3:Nat):Int))=3 from rfl,show (((1:Nat):Int))=1 from rfl,Zvw b0 b1 b2 b3 t (by omega)] at key
      unfold Zfm at key
      simp -implicitDefEqProofs only [EQA,ZbK,ZE,Xe,Xc,Zs,unG,reduceCtorEq,decide_eq_true_eq,↓reduceIte,ZaB,gcT,gcA,Zn,Zi,Zg,Zp,ZeF,ZdH,Zcp,h1,h2,h3,h3',h4,h4',h5,w0,w1,Z3,WB,Ws]
      exact key
    ·have h3':(b0.toNat:Int)>=224:=by omega
     have h4':(b0.toNat:Int)>=240:=by omega
     rw [Zia b0 t (Xr (Xr (Xr (Xr (by omega))))),ZgC]
     simp -implicitDefEqProofs only [EQA,ZbK,Xe,Xc,Zs,unG,reduceCtorEq,↓reduceIte,ZaB,ZeF,ZdH,Zcp,h1,h2,h3,h3',h4,h4',h5,w0,Z3,WB,Ws]
 ·have h3:¬(b0.toNat:Int)>=224:=by omega
  have h4:¬(b0.toNat:Int)>=240:=by omega
  rw [Zia b0 t (Xr (Xr (Xr (Xm (by omega))))),ZgC]
  simp -implicitDefEqProofs only [EQA,ZbK,Xe,Xc,Zs,Z4,reduceCtorEq,↓reduceIte,ZaB,ZeF,ZdH,Zcp,h1,h2,h3,h4,w0,Z3,WB,Ws]
theorem Zoh (σ:Za) (sq own:Nat) (view:Bool) (b0:UInt8) (t:List UInt8):Zr E BY σ sq 59 own view [.str (b0::t)]=some (Zci (ZdK (b0::t)),σ,{}) :=
 Za6 (ZJO b0 t) (by kernel_rfl) (by simp -implicitDefEqProofs only [Zbe,ZD,eq_self]) (by simp -implicitDefEqProofs only [Zab,ZD,eq_self]) rfl (fun _=>rfl) _ _ _ _
theorem Zua:∀ (n:Nat) (l:List UInt8),l.length<=n->l.length<=9223372036854775807->ZhF 0 [(0,.str l)] []=some (.bool (zfG n l && Lib.validGoD n l),[])
 | n,[],_,_=>by
  have e:(zfG n [] && Lib.validGoD n [])=true:=by cases n <;> rfl
  rw [e]
  unfold ZhF
  rw [ZO]
  simp -implicitDefEqProofs only [EQA,Xe,Xc,Z7,reduceCtorEq,↓reduceIte,ZlH,ZGW,Zn6,Zkm,ZgX]
 | 0,b0::t,h,_=>by simp at h
 | n+1,b0::t,h,hl=>by
  have hw:=Lib.decodeL_width (b0::t)
  have hle:=Lib.decodeL_le (b0::t) (by simp)
  have e0:((b0::t) == ([]:List UInt8))=false:=by simp
  have hne:(b0::t)≠([]:List UInt8):=by simp
  unfold ZhF
  rw [ZO]
  by_cases hb:(Lib.decodeL (b0::t)).1=65533/\(Lib.decodeL (b0::t)).2=1
  ·have hc:ZdK (b0::t)=(0,0):=if_pos hb
   have e:(zfG (n+1) (b0::t) && Lib.validGoD (n+1) (b0::t))=false:=by
    simp only [Lib.validGoD]
    rw [if_neg hne,if_pos hb,Xbt]
   rw [e]
   simp -implicitDefEqProofs only [EQA,Xe,Xc,Z7,Zs,Z4,reduceCtorEq,↓reduceIte,ZlH,Zkm,ZgX,e0,Zoh,hc,ZgC]
  ·have hc:ZdK (b0::t)=Lib.decodeL (b0::t):=if_neg hb
   have n1:(((Lib.decodeL (b0::t)).2:Int) == 0)=false:=by rw [beq_eq_false_iff_ne];omega
   by_cases hz:(Lib.decodeL (b0::t)).1=0
   ·have z1:(((Lib.decodeL (b0::t)).1:Int) == 0)=true:=by rw [beq_iff_eq];omega
    have e:(zfG (n+1) (b0::t) && Lib.validGoD (n+1) (b0::t))=false:=by
     rw [zfG,if_neg hne,if_pos hz,Xai]
    rw [e]
    simp -implicitDefEqProofs only [EQA,Xe,Xc,Z7,Zs,unG,reduceCtorEq,↓reduceIte,ZlH,Zkm,ZgX,e0,Zoh,hc,Zci,n1,z1]
   ·have z1:(((Lib.decodeL (b0::t)).1:Int) == 0)=false:=by rw [beq_eq_false_iff_ne];omega
    have e:(zfG (n+1) (b0::t) && Lib.validGoD (n+1) (b0::t))=(zfG n ((b0::t).drop (Lib.decodeL (b0::t)).2) && Lib.validGoD n ((b0::t).drop (Lib.decodeL (b0::t)).2)):=by
     rw [zfG,if_neg hne,if_neg hz,Lib.validGoD,if_neg hne,if_neg hb]
    have ih:=Zua n ((b0::t).drop (Lib.decodeL (b0::t)).2) (by simp only [Wv] at *;omega) (by simp only [Wv];omega)
    rw [e]
    unfold ZhF at ih
    have l0:(0:Int)<=((Lib.decodeL (b0::t)).2:Int):=by omega
    have l1:((Lib.decodeL (b0::t)).2:Int)<=((t.length+1:Nat):Int):=by simp only [XE] at hle;omega
    have l2:(b0::t).take (t.length+1)=b0::t:=Wi (by simp)
    simp -implicitDefEqProofs only [EQA,ZE,ZaH,Xe,Xc,Z7,Zs,unG,reduceCtorEq,↓reduceIte,gcT,gcA,Zn,Zi,Zg,Zp,Zkm,ZgX,e0,Zoh,hc,Zci,n1,z1,ZaF,Zcr,l0,l1,l2,XY]
    exact ih
theorem ZDF (l:List UInt8) (hl:l.length<=9223372036854775807):E 52 [.str l] []=some (.bool (ZcP l),[]):=by
 rw [ZQ (by rfl) ZIk]
 have:=Zua l.length l (Xz _) hl
 unfold ZhF at this
 simp -implicitDefEqProofs only [EQA,ZE,Xe,reduceCtorEq,↓reduceIte,gcT,gcA,Zn,Zi,Zg,Zp,Zv3,Zk5]
 rw [this];rfl
theorem ZBj (σ:Za) (sq own:Nat) (view:Bool) (l:List UInt8) (hl:l.length<=9223372036854775807):Zr E BY σ sq 52 own view [.str l]=some (.bool (ZcP l),σ,{}) :=
 Za6 (ZDF l hl) (by kernel_rfl) (by simp -implicitDefEqProofs only [Zbe,ZD,eq_self]) (by simp -implicitDefEqProofs only [Zab,ZD,eq_self]) rfl (fun _=>rfl) _ _ _ _
end
section
def Zcc (b:UInt8):Bool:=b == 43 || b == 35
def Zax (l:List UInt8):Bool:=l.any Zcc
def Zb3:List AVal:=(Wn 256).map fun n=>.bool (n == 43 || n == 35)
theorem ZE0:Zb3.length=256:=by simp [Zb3]
theorem ZhO:ZaB Zb3=true:=by kernel_rfl
theorem Zxb (b:UInt8):Zb3[b.toNat]?=some (.bool (Zcc b)):=by
 have hb:=b.toNat_lt
 have : Zcc b=(b.toNat == 43 || b.toNat == 35):=by
  unfold Zcc
  rw [Xac]
  simp [<-Xam]
 rw [this]
 simp [Zb3,hb]
theorem Zqe:Zx Zb3=[]:=(Zd3 (fun _ _=>none) Zb3 ZhO).2
theorem Zrc (ρ:Rho):Zo ρ Zb3=Zb3:=(Zd3 ρ Zb3 ZhO).1
theorem ZMg:E 62 [.str [43,35]] []=some (.tup [.agg Zb3,.bool true],[]):=Zce.2 ⟨8,by kernel_rfl⟩
theorem ZJa (σ:Za) (sq own:Nat) (view:Bool):Zr E BY σ sq 62 own view [.str [43,35]]=some (.tup [.agg Zb3,.bool true],σ,{}) :=
 Za6 ZMg (by kernel_rfl) rfl rfl (by kernel_rfl) (fun _=>by kernel_rfl) _ _ _ _
theorem ZFN (b:UInt8):E 63 [.ref 0 0,Z3 b] [.var Zb3]=some (.bool (Zcc b),[.var Zb3]):=by
 rw [ZQ (by rfl) ZB4]
 have h1:(0:Int)<=(b.toNat:Int):=by omega
 have h2:(b.toNat:Int) < ((256:Nat):Int):=by have:=ZmI b;omega
 simp -implicitDefEqProofs only [EQA,Zad,Xe,Xc,reduceCtorEq,↓reduceIte,Zx0,Zlf,ZAv,Z3,h1,h2,XY,Nat.mul_one,Zxb,ZhO]
theorem ZqT (σ:Za) (sq t:Nat) (view:Bool) (b:UInt8) (hs:σ[t]?=some (.var Zb3)):Zr E BY σ sq 63 0 view [.ref t 0,.int .u8 b.toNat]=some (.bool (Zcc b),σ.set t (.var Zb3),{ any:=true,upd:=[(t,Zb3)] }) :=
 Zyz hs ZhO ZhO (by kernel_rfl) rfl rfl rfl rfl (ZFN b)
theorem Zpn (s:List UInt8) (hl:s.length<=9223372036854775807):∀ (r:List UInt8) (i:Nat),s.drop i=r->∃ z,Zkt 0 [(8,.int .i64 i),(6,.ref 0 0),(0,.str s)] [.var Zb3]=some (.int .i64 z,[])/\decide (z>=0)=Zax r
 | [],i,h=>by
  have h1:=ZcS h
  refine ⟨-1,?_,by simp [Zax]⟩
  unfold Zkt
  rw [ZO]
  simp -implicitDefEqProofs only [EQA,Xe,Xc,reduceCtorEq,↓reduceIte,Zje,ZuZ,Zns,Zmo,Zh7,h1]
 | b::r,i,h=>by
  obtain ⟨z,ih,hz⟩:=Zpn s hl r (i+1) (Zau h).2.1
  have h1:(i:Int) < s.length:=by have:=(Zau h).2.2;omega
  have h2:=(Zau h).1
  have h3:=ZbG h1 hl
  have i0:(0:Int)<=(i:Int):=by omega
  unfold Zkt at ih ⊢
  cases hb:Zcc b
  ·refine ⟨z,?_,by rw [hz];simp [Zax,hb]⟩
   rw [ZO]
   simp -implicitDefEqProofs only [EQA,ZE,ZaH,Xe,Xo,Xc,reduceCtorEq,↓reduceIte,gcT,gcA,Zn,Zi,Ze,Zg,Zv,Zb,Zu,Zm,Zp,Zmo,Zh7,h1,h2,h3,i0,XY,ZqT,hb,Z3,Zqe,Zrc]
   exact ih
  ·refine ⟨i,?_,by simp [Zax,hb]⟩
   rw [ZO]
   simp -implicitDefEqProofs only [EQA,Xe,Xc,reduceCtorEq,↓reduceIte,Zje,Zmo,Zh7,h1,h2,i0,XY,ZqT,hb,Z3]
def ZcZ (r:Int):Int:=if r=43 then 0 else if r=35 then 1 else -1
theorem Zzo (l:List UInt8) (c:Int):E 78 [.str l,.int .u8 c] []=some (.int .i64 (Lib.indexByte l c.toNat.toUInt8),[]):=Zce.2 ⟨1,rfl⟩
theorem ZsG (σ:Za) (sq own:Nat) (view:Bool) (l:List UInt8) (c:Int):Zr E BY σ sq 78 own view [.str l,.int .u8 c]=some (.int .i64 (Lib.indexByte l c.toNat.toUInt8),σ,{}) :=
 Za6 (Zzo l c) (by kernel_rfl) (by simp -implicitDefEqProofs only [Zbe,ZD,eq_self]) (by simp -implicitDefEqProofs only [Zab,ZD,eq_self]) rfl (fun _=>rfl) _ _ _ _
theorem ZIc (r:Int) (h:(0<=r/\r < 55296)\/(57344<=r/\r<=1114111)):E 79 [.int .i32 r] []=some (.bool true,[]):=by
 rw [ZQ (by rfl) ZAX]
 rcases h with ⟨h1,h2⟩ | ⟨h1,h2⟩
 ·simp -implicitDefEqProofs only [EQA,Xe,Xc,Zs,unG,reduceCtorEq,↓reduceIte,ZpW,ZjC,Zrz,h1,h2]
 ·have h3:¬r < 55296:=by omega
  have h4:(57343:Int) < r:=by omega
  have h5:(0:Int)<=r:=by omega
  simp -implicitDefEqProofs only [EQA,Xe,Xc,Zs,unG,reduceCtorEq,↓reduceIte,ZpW,ZjC,Zrz,h2,h3,h4,h5]
theorem ZD9:E 60 [.str [43,35],.int .i32 65533] []=some (.int .i64 (-1),[]):=Zce.2 ⟨8,by kernel_rfl⟩
theorem ZLw (σ:Za) (sq own:Nat) (view:Bool) (r:Int) (h:(0<=r/\r < 55296)\/(57344<=r/\r<=1114111)):Zr E BY σ sq 79 own view [.int .i32 r]=some (.bool true,σ,{}) :=
 Za6 (ZIc r h) (by kernel_rfl) (by simp -implicitDefEqProofs only [Zbe,ZD,eq_self]) (by simp -implicitDefEqProofs only [Zab,ZD,eq_self]) rfl (fun _=>rfl) _ _ _ _
theorem Zu3 (r:Int) (h0:0<=r) (h1:r < 128):Lib.indexByte [43,35] r.toNat.toUInt8=ZcZ r:=by
 obtain ⟨n,rfl⟩:∃ n:Fin 128,r=(n.val:Int):=⟨⟨r.toNat,by omega⟩,by simp;omega⟩
 clear h0 h1
 revert n
 decide
theorem ZKA (r:Int) (h0:0<=r) (h1:r < 128):E 60 [.str [43,35],.int .i32 r] []=some (.int .i64 (ZcZ r),[]):=by
 rw [ZQ (by rfl) ZsW]
 have w:IntKind.u8.wrap r=r:=by rw [show IntKind.u8.wrap r=r % 256 from rfl];omega
 simp -implicitDefEqProofs only [EQA,Xe,Xc,Zs,unG,reduceCtorEq,↓reduceIte,Zjw,Zgd,Zkp,h0,h1,w,ZsG,Zu3]
theorem ZBE (r:Int) (h0:128<=r) (h1:r < 2048):∃ a b:UInt8,(Utf8.encode r).data.toList=[a,b]/\((35:Int) == (b.toNat:Int))=false:=by
 have hv:Utf8.valid r=true:=by simp [Utf8.valid];omega
 refine ⟨_,_,by unfold Utf8.encode;simp only [hv,if_true];rw [if_neg (by omega),if_pos (by omega)],?_⟩
 rw [beq_eq_false_iff_ne]
 simp
 omega
theorem ZJu (r:Int) (h0:2048<=r) (h1:r < 65536) (hv:Utf8.valid r=true):∃ a b c:UInt8,(Utf8.encode r).data.toList=[a,b,c]:=by
 refine ⟨_,_,_,by unfold Utf8.encode;simp only [hv,if_true];rw [if_neg (by omega),if_neg (by omega),if_pos (by omega)]⟩
theorem ZGc (r:Int) (h1:65536<=r) (hv:Utf8.valid r=true):∃ a b c d:UInt8,(Utf8.encode r).data.toList=[a,b,c,d]:=by
 refine ⟨_,_,_,_,by unfold Utf8.encode;simp only [hv,if_true];rw [if_neg (by omega),if_neg (by omega),if_neg (by omega)]⟩
theorem Zw1 (r:Int) (h0:128<=r) (hv:(0<=r/\r < 55296)\/(57344<=r/\r<=1114111)) (hne:r≠65533):E 60 [.str [43,35],.int .i32 r] []=some (.int .i64 (-1),[]):=by
 rw [ZQ (by rfl) ZsW]
 have h1:(0:Int)<=r:=by omega
 have h2:¬r < 128:=by omega
 have h3:(r == 65533)=false:=by rw [beq_eq_false_iff_ne];exact hne
 have hv':Utf8.valid r=true:=by simp [Utf8.valid];omega
 have hV:=fun σ sq own view=>ZLw σ sq own view r hv
 by_cases h4:r < 2048
 ·obtain ⟨a,b,he,hb⟩:=ZBE r h0 h4
  have hi:Lib.indexByte [] ((b.toNat:Int).toNat.toUInt8)=-1:=rfl
  have w1:IntKind.i64.wrap (((2:Nat):Int) - 1)=1:=by decide
  have w2:IntKind.i64.wrap ((1:Int)+1)=2:=by decide
  have l1:(1:Int) < ((2:Nat):Int):=by decide
  have l2:(2:Int)<=((2:Nat):Int):=by decide
  have l3:(0:Int)<=1:=by decide
  have l4:(0:Int)<=2:=by decide
  have t1:(1:Int).toNat=1:=rfl
  have t2:(2:Int).toNat=2:=rfl
  have n1:((-1:Int) < 0)=True:=by simp
  have hb':(((35:UInt8).toNat:Int) != (b.toNat:Int))=true:=by
   have : ((35:UInt8).toNat:Int)=35:=rfl
   rw [this];simp only [bne,hb,Bool.not_false]
  simp -implicitDefEqProofs only [EQA,ZE,Xj,Xe,Xc,unA,Zs,unG,reduceCtorEq,↓reduceIte,gcT,gcA,Zn,Zi,Zg,Zp,Zjw,Zgd,Zkp,Zl1,ZhX,h1,h2,h3,hV,he,ZO,Z3,w1,w2,l1,l2,l3,l4,t1,t2,hb',ZaF,Zcr,ZsG,hi,n1]
 ·by_cases h5:r < 65536
  ·obtain ⟨a,b,c,he⟩:=ZJu r (by omega) h5 hv'
   have w1:IntKind.i64.wrap (((3:Nat):Int) - 1)=2:=by decide
   have l1:¬(2:Int) < ((2:Nat):Int):=by decide
   simp -implicitDefEqProofs only [EQA,ZE,Xj,Xe,Xc,unA,Zs,unG,reduceCtorEq,↓reduceIte,gcT,gcA,Zn,Zi,Zg,Zp,Zjw,Zgd,Zkp,ZuO,Zjg,Zl1,ZhX,h1,h2,h3,hV,he,ZO,w1,l1]
  ·obtain ⟨a,b,c,d,he⟩:=ZGc r (by omega) hv'
   have w1:IntKind.i64.wrap (((4:Nat):Int) - 1)=3:=by decide
   have l1:¬(3:Int) < ((2:Nat):Int):=by decide
   simp -implicitDefEqProofs only [EQA,ZE,Xj,Xe,Xc,unA,Zs,unG,reduceCtorEq,↓reduceIte,gcT,gcA,Zn,Zi,Zg,Zp,Zjw,Zgd,Zkp,ZuO,Zjg,Zl1,ZhX,h1,h2,h3,hV,he,ZO,w1,l1]
theorem ZKI (l:List UInt8):((Lib.decodeL l).1 < 55296)\/(57344<=(Lib.decodeL l).1/\(Lib.decodeL l).1<=1114111):=by
 rw [Lib.decodeL_N]
 have h0:=(l.getD 0 0).toNat_lt
 unfold Lib.decodeN
 repeat' split
 all_goals (try simp only);omega
theorem Zvt (l:List UInt8):E 60 [.str [43,35],.int .i32 (Lib.decodeL l).1] []=some (.int .i64 (ZcZ (Lib.decodeL l).1),[]):=by
 have hv:=ZKI l
 generalize (Lib.decodeL l).1=n at hv
 by_cases h:n < 128
 ·exact ZKA n (by omega) (by omega)
 ·have e:ZcZ (n:Int)=-1:=by unfold ZcZ;rw [if_neg (by omega),if_neg (by omega)]
  rw [e]
  by_cases h2:n=65533
  ·subst h2;exact ZD9
  ·exact Zw1 n (by omega) (by omega) (by omega)
theorem Zp6 (σ:Za) (sq own:Nat) (view:Bool) (l:List UInt8):Zr E BY σ sq 60 own view [.str [43,35],.int .i32 (Lib.decodeL l).1]=some (.int .i64 (ZcZ (Lib.decodeL l).1),σ,{}) :=
 Za6 (Zvt l) (by kernel_rfl) (by simp -implicitDefEqProofs only [Zbe,ZD,eq_self]) (by simp -implicitDefEqProofs only [Zab,ZD,eq_self]) rfl (fun _=>rfl) _ _ _ _
theorem ZKg (l:List UInt8) (hne:l≠[]):Zax l=(decide (ZcZ (Lib.decodeL l).1>=0) || Zax (l.drop (Lib.decodeL l).2)):=by
 obtain ⟨b0,t,rfl⟩:∃ b t,l=b::t:=by
  cases l with
  | nil=>exact absurd rfl hne
  | cons b t=>exact ⟨b,t,rfl⟩
 have hc:∀ b:UInt8,b.toNat / 64=2->Zcc b=false:=by
  intro b hb
  unfold Zcc
  simp only [Bool.or_eq_false_iff,beq_eq_false_iff_ne,ne_eq,<-Xam]
  have : (43:UInt8).toNat=43:=rfl
  have : (35:UInt8).toNat=35:=rfl
  omega
 have hi:∀ n:Nat,n≠43->n≠35->decide (ZcZ (n:Int)>=0)=false:=by
  intro n h1 h2
  unfold ZcZ
  rw [if_neg (by omega),if_neg (by omega)];rfl
 have hp:∀ b:UInt8,Zcc b=decide (ZcZ (b.toNat:Int)>=0):=by
  intro b
  unfold Zcc ZcZ
  have e1:(43:UInt8).toNat=43:=rfl
  have e2:(35:UInt8).toNat=35:=rfl
  rw [Xac]
  simp only [Bool.or_eq_true,beq_iff_eq,<-Xam,e1,e2,decide_eq_true_eq]
  constructor
  ·rintro (h | h) <;> simp [h]
  ·intro h
   by_cases h1:b.toNat=43
   ·exact Xm h1
   ·by_cases h2:b.toNat=35
    ·exact Xr h2
    ·rw [if_neg (by omega),if_neg (by omega)] at h;omega
 rw [Lib.decodeL_N]
 simp only [XE,XD,XL]
 have hb:=b0.toNat_lt
 have hlow:128<=b0.toNat->Zcc b0=false:=by
  intro h;rw [hp];exact hi _ (by omega) (by omega)
 unfold Lib.decodeN
 split
 ·simp [Zax,hp]
 rename_i h0
 have hl0:=hlow (by omega)
 have eE:decide (ZcZ ((65533:Nat):Int)>=0)=false:=by decide
 split
 ·rename_i h1
  obtain ⟨b1,t,rfl⟩:∃ b t',t=b::t':=by
   cases t with
   | nil=>simp at h1
   | cons b t=>exact ⟨b,t,rfl⟩
  have h1c:=hc b1 (by simpa using h1.2.2)
  split
  ·rename_i h2
   rw [hi _ (by simp only;omega) (by simp only;omega)]
   simp [Zax,hl0,h1c]
  ·rw [eE];simp [Zax,hl0]
 split
 ·rename_i h1
  obtain ⟨b1,b2,t,rfl⟩:∃ b c t',t=b::c::t':=by
   match t,h1 with
   | [],h1=>simp at h1
   | [_],h1=>simp at h1
   | b::c::t,_=>exact ⟨b,c,t,rfl⟩
  have h1c:=hc b1 (by simpa using h1.2.1.2)
  have h2c:=hc b2 (by simpa using h1.2.2.2)
  split
  ·rename_i h2
   rw [hi _ (by simp only;omega) (by simp only;omega)]
   simp [Zax,hl0,h1c,h2c]
  ·rw [eE];simp [Zax,hl0]
 split
 ·rename_i h1
  obtain ⟨b1,b2,b3,t,rfl⟩:∃ b c d t',t=b::c::d::t':=by
   match t,h1 with
   | [],h1=>simp at h1
   | [_],h1=>simp at h1
   | [_,_],h1=>simp at h1
   | b::c::d::t,_=>exact ⟨b,c,d,t,rfl⟩
  have h1c:=hc b1 (by simpa using h1.2.1.2)
  have h2c:=hc b2 (by simpa using h1.2.2.1.2)
  have h3c:=hc b3 (by simpa using h1.2.2.2.2)
  split
  ·rename_i h2
   rw [hi _ (by simp only;omega) (by simp only;omega)]
   simp [Zax,hl0,h1c,h2c,h3c]
  ·rw [eE];simp [Zax,hl0]
 ·rw [eE];simp [Zax,hl0]
theorem Zp3 (s:List UInt8):∀ (n p:Nat),s.length - p<=n->p<=s.length->∃ z,Zkk 0 [(45,.ref 0 0),(1,.str [43,35])] [.siter s p]=some (.int .i64 z,[])/\decide (z>=0)=Zax (s.drop p)
 | n,p,hn,hp=>by
  by_cases h:p < s.length
  ·obtain ⟨n,rfl⟩:∃ m,n=m+1:=⟨n - 1,by omega⟩
   have hw:=Lib.decodeL_width (s.drop p)
   have hne:s.drop p≠[]:=by rw [ne_eq,Wq];omega
   have hle:=Lib.decodeL_le (s.drop p) hne
   rw [Wv] at hle
   obtain ⟨z,ih,hz⟩:=Zp3 s n (p+(Lib.decodeL (s.drop p)).2) (by omega) (by omega)
   rw [<-Xa8] at hz
   rw [ZKg _ hne,<-hz]
   unfold Zkk at ih ⊢
   by_cases hi:ZcZ (Lib.decodeL (s.drop p)).1>=0
   ·refine ⟨p,?_,by simp [hi]⟩
    rw [ZO]
    simp -implicitDefEqProofs only [EQA,Xe,Xc,↓reduceIte,Zje,ZmG,Zh4,h,ZiZ,Zp6,hi]
   ·refine ⟨z,?_,by simp [hi]⟩
    rw [ZO]
    simp -implicitDefEqProofs only [EQA,ZE,ZaH,Xe,Xo,Xc,↓reduceIte,gcT,gcA,Zn,Zi,Ze,Zg,Zv,Zb,Zu,Zm,Zp,ZmG,Zh4,h,ZiZ,Zp6,hi]
    exact ih
  ·have he:s.drop p=[]:=by rw [Wq];omega
   refine ⟨-1,?_,by rw [he];rfl⟩
   unfold Zkk
   rw [ZO]
   simp -implicitDefEqProofs only [EQA,Xe,Xc,↓reduceIte,Zje,ZvC,Zn5,ZmG,Zh4,h]
end
section
theorem ZCc (n:Int):E 61 [.int .i64 n] []=some (.bool (decide (n > 8)),[]):=by
 rw [ZQ (by rfl) Zz3]
 simp -implicitDefEqProofs only [EQA,Xe,Xc,reduceCtorEq,↓reduceIte,ZMz,ZlT,ZK1]
theorem ZtR (σ:Za) (sq own:Nat) (view:Bool) (n:Int):Zr E BY σ sq 61 own view [.int .i64 n]=some (.bool (decide (n > 8)),σ,{}) :=
 Za6 (ZCc n) (by kernel_rfl) (by simp -implicitDefEqProofs only [Zbe,ZD,eq_self]) (by simp -implicitDefEqProofs only [Zab,ZD,eq_self]) rfl (fun _=>rfl) _ _ _ _
theorem ZE4:Zb3.all ZJ=true:=by kernel_rfl
theorem ZL2 (s:List UInt8) (hl:s.length<=9223372036854775807):∃ z,E 53 [.str s,.str [43,35]] []=some (.int .i64 z,[])/\decide (z>=0)=Zax s:=by
 have e0:(([43,35]:List UInt8) == [])=false:=rfl
 have e1:((((2:Nat)):Int) == 1)=false:=rfl
 by_cases h:(s.length:Int) > 8
 ·obtain ⟨z,h1,h2⟩:=Zpn s hl s 0 rfl
  refine ⟨z,?_,h2⟩
  rw [ZQ (by rfl) Zue]
  unfold Zkt at h1
  have z0:((0:Nat):Int)=0:=rfl
  rw [z0] at h1
  simp -implicitDefEqProofs only [EQA,Zab,ZE,ZaH,Xj,Xe,Xo,Xc,Xk,Z7,reduceCtorEq,↓reduceIte,gcT,gcA,Zn,Zi,Ze,Zg,Zv,Zb,Zu,Zm,Zp,Zsu,Zju,e0,e1,h,ZtR,ZJa,ZE0,Zqe,Zrc,ZE4]
  exact h1
 ·obtain ⟨z,h1,h2⟩:=Zp3 s s.length 0 (by omega) (by omega)
  refine ⟨z,?_,h2⟩
  rw [ZQ (by rfl) Zue]
  unfold Zkk at h1
  simp -implicitDefEqProofs only [EQA,ZE,ZaH,Xj,Xe,Xo,Xc,Xk,Z7,reduceCtorEq,↓reduceIte,gcT,gcA,Zn,Zi,Ze,Zg,Zv,Zb,Zu,Zm,Zp,Zsu,Zju,ZJZ,ZoV,e0,e1,h,ZtR]
  exact h1
theorem ZBC (s:List UInt8) (hl:s.length<=9223372036854775807):E 45 [.str s,.str [43,35]] []=some (.bool (Zax s),[]):=by
 obtain ⟨z,h1,h2⟩:=ZL2 s hl
 have hC:∀ (σ:Za) (sq own:Nat) (view:Bool),Zr E BY σ sq 53 own view [.str s,.str [43,35]]=some (.int .i64 z,σ,{}):=fun _ _ _ _=>Za6 (h1) (by kernel_rfl) (by simp -implicitDefEqProofs only [Zbe,ZD,eq_self]) (by simp -implicitDefEqProofs only [Zab,ZD,eq_self]) rfl (fun _=>rfl) _ _ _ _
 rw [ZQ (by rfl) ZBM,<-h2]
 simp -implicitDefEqProofs only [EQA,Xe,Xc,reduceCtorEq,↓reduceIte,Zzs,Znm,ZFW,hC]
theorem ZqK (σ:Za) (sq own:Nat) (view:Bool) (s:List UInt8) (hl:s.length<=9223372036854775807):Zr E BY σ sq 45 own view [.str s,.str [43,35]]=some (.bool (Zax s),σ,{}) :=
 Za6 (ZBC s hl) (by kernel_rfl) (by simp -implicitDefEqProofs only [Zbe,ZD,eq_self]) (by simp -implicitDefEqProofs only [Zab,ZD,eq_self]) rfl (fun _=>rfl) _ _ _ _
def Zcm (s:List UInt8):Bool:=decide (1<=s.length) && decide (s.length<=64) && ZcP s
theorem ZrU (s:List UInt8):(decide ((s.length:Int)>=1) && decide ((s.length:Int)<=64) && ZcP s)=Zcm s:=by
 unfold Zcm
 congr 2
 ·congr 1;rw [eq_iff_iff];omega
 ·congr 1;rw [eq_iff_iff];omega
theorem ZfZ {s:List UInt8} (h:Zcm s=true):s.length<=64:=by
 simp only [Zcm,Bool.and_eq_true,decide_eq_true_eq] at h;exact h.1.2
theorem Zw8 (s:List UInt8):E 46 [.str s] []=some (.bool (Zcm s),[]):=by
 rw [ZQ (by rfl) ZC8,<-ZrU]
 by_cases h1:(s.length:Int)>=1 <;> by_cases h2:(s.length:Int)<=64
 all_goals simp -implicitDefEqProofs only [EQA,Xe,Xc,Zs,Z4,unG,reduceCtorEq,↓reduceIte,ZLt,Zoa,ZwJ,h1,h2,ZxV]
theorem ZkJ (σ:Za) (sq own:Nat) (view:Bool) (s:List UInt8):Zr E BY σ sq 46 own view [.str s]=some (.bool (Zcm s),σ,{}) :=
 Za6 (Zw8 s) (by kernel_rfl) (by simp -implicitDefEqProofs only [Zbe,ZD,eq_self]) (by simp -implicitDefEqProofs only [Zab,ZD,eq_self]) rfl (fun _=>rfl) _ _ _ _
def ZbD (s:List UInt8):Bool:=Zcm s && !Zax s
theorem ZKe (s:List UInt8):E 33 [.str s] []=some (.bool (ZbD s),[]):=by
 rw [ZQ (by rfl) Zyf]
 unfold ZbD
 cases h:Zcm s
 ·simp -implicitDefEqProofs only [EQA,Xe,Xc,Zs,Z4,reduceCtorEq,↓reduceIte,Zpq,ZiX,Ztk,h,ZkJ]
 ·have hC:=fun σ sq own view=>ZqK σ sq own view s (by have:=ZfZ h;omega)
  simp -implicitDefEqProofs only [EQA,Xe,Xc,unA,Zs,unG,reduceCtorEq,↓reduceIte,Zpq,ZiX,Ztk,h,ZkJ,hC]
theorem ZlA (σ:Za) (sq own:Nat) (view:Bool) (s:List UInt8):Zr E BY σ sq 33 own view [.str s]=some (.bool (ZbD s),σ,{}) :=
 Za6 (ZKe s) (by kernel_rfl) (by simp -implicitDefEqProofs only [Zbe,ZD,eq_self]) (by simp -implicitDefEqProofs only [Zab,ZD,eq_self]) rfl (fun _=>rfl) _ _ _ _
def Zcs (s:List UInt8) (c:UInt8):Bool:=s.any (· == c)
theorem Zr0 (s:List UInt8) (c:UInt8) (hl:s.length<=9223372036854775807):∀ (r:List UInt8) (i:Nat),s.drop i=r->Zi0 0 [(5,.int .i64 i),(1,Z3 c),(0,.str s)] []=some (.bool (Zcs r c),[])
 | [],i,h=>by
  have h1:=ZcS h
  unfold Zi0
  rw [ZO]
  simp -implicitDefEqProofs only [EQA,Xe,Xc,reduceCtorEq,↓reduceIte,ZqF,Zwp,ZmR,ZkZ,Zh5,h1,Z3]
  rfl
 | b::r,i,h=>by
  have ih:=Zr0 s c hl r (i+1) (Zau h).2.1
  have h1:(i:Int) < s.length:=by have:=(Zau h).2.2;omega
  have h2:=(Zau h).1
  have h3:=ZbG h1 hl
  have i0:(0:Int)<=(i:Int):=by omega
  have e:Zcs (b::r) c=((b.toNat:Int) == (c.toNat:Int) || Zcs r c):=by
   unfold Zcs
   rw [Xaz]
   congr 1
   rw [Xac]
   simp only [beq_iff_eq,<-Xam]
   omega
  rw [e]
  unfold Zi0 at ih ⊢
  rw [ZO]
  simp only [Z3] at ih
  cases hb:(b.toNat:Int) == (c.toNat:Int)
  ·simp -implicitDefEqProofs only [EQA,ZE,Xe,Xc,reduceCtorEq,↓reduceIte,gcT,gcA,Zn,Zi,Zg,Zp,ZkZ,Zh5,h1,h2,h3,i0,hb,Z3,XY]
   exact ih
  ·simp -implicitDefEqProofs only [EQA,Xe,Xc,reduceCtorEq,↓reduceIte,ZqF,ZkZ,Zh5,h1,h2,i0,hb,Z3,XY]
theorem ZG1 (s:List UInt8) (c:UInt8) (hl:s.length<=9223372036854775807):E 39 [.str s,.int .u8 c.toNat] []=some (.bool (Zcs s c),[]):=by
 rw [ZQ (by rfl) ZIV]
 have:=Zr0 s c hl s 0 rfl
 unfold Zi0 at this
 have z0:((0:Nat):Int)=0:=rfl
 rw [z0] at this
 simp only [Z3] at this
 simp -implicitDefEqProofs only [EQA,ZE,Xe,Xc,reduceCtorEq,↓reduceIte,gcT,gcA,Zn,Zi,Zg,Zp,ZIg,Zpb]
 exact this
theorem Zkc (σ:Za) (sq own:Nat) (view:Bool) (s:List UInt8) (c:UInt8) (hl:s.length<=9223372036854775807):Zr E BY σ sq 39 own view [.str s,.int .u8 c.toNat]=some (.bool (Zcs s c),σ,{}) :=
 Za6 (ZG1 s c hl) (by kernel_rfl) (by simp -implicitDefEqProofs only [Zbe,ZD,eq_self]) (by simp -implicitDefEqProofs only [Zab,ZD,eq_self]) rfl (fun _=>rfl) _ _ _ _
theorem ZCF (s : List UInt8) : E 38 [.str s] [] = some (.bool (Zcm s), []) := by
  rw [ZQ (by rfl) ZLd, <- ZrU]
  by_cases h1 : (s.length : Int) >= 1 <;> by_cases h2 : (s.length : Int) <= 64
  all_goals first
    | (have hC := fun σ sq own view => ZBj σ sq own view s (by omega)
       simp -implicitDefEqProofs only [EQA,Xe,Xc,Zs,Z4,unG,reduceCtorEq,↓reduceIte,ZsI,Zjy,ZpJ,h1,h2,hC])
    | simp -implicitDefEqProofs only [EQA,Xe,Xc,Zs,Z4,unG,reduceCtorEq,↓reduceIte,ZsI,Zjy,ZpJ,h1,h2]
theorem Zhr (σ:Za) (sq own:Nat) (view:Bool) (s:List UInt8):Zr E BY σ sq 38 own view [.str s]=some (.bool (Zcm s),σ,{}) :=
 Za6 (ZCF s) (by kernel_rfl) (by simp -implicitDefEqProofs only [Zbe,ZD,eq_self]) (by simp -implicitDefEqProofs only [Zab,ZD,eq_self]) rfl (fun _=>rfl) _ _ _ _
theorem ZtI (s:List UInt8):Zax s=(Zcs s 43 || Zcs s 35):=by
 unfold Zax Zcs Zcc
 induction s with
 | nil=>rfl
 | cons b s ih=>simp only [Xaz,ih];cases (b == 43) <;> cases (b == 35) <;> simp
theorem ZzJ (s:List UInt8):E 16 [.str s] []=some (.bool (ZbD s),[]):=by
 rw [ZQ (by rfl) Zxe]
 unfold ZbD
 rw [ZtI]
 cases h:Zcm s
 ·simp -implicitDefEqProofs only [EQA,Xe,Xc,Zs,Z4,reduceCtorEq,↓reduceIte,ZnY,Zhy,Zl7,h,Zhr]
 ·have hC1:=fun σ sq own view=>Zkc σ sq own view s 43 (by have:=ZfZ h;omega)
  have hC2:=fun σ sq own view=>Zkc σ sq own view s 35 (by have:=ZfZ h;omega)
  simp only [show (((43:UInt8).toNat:Nat):Int)=43 from rfl] at hC1
  simp only [show (((35:UInt8).toNat:Nat):Int)=35 from rfl] at hC2
  cases h1:Zcs s 43
  ·simp -implicitDefEqProofs only [EQA,Xe,Xc,unA,Zs,unG,reduceCtorEq,↓reduceIte,ZnY,Zhy,Zl7,h,Zhr,hC1,hC2,h1]
  ·simp -implicitDefEqProofs only [EQA,Xe,Xc,unA,Zs,Z4,unG,reduceCtorEq,↓reduceIte,ZnY,Zhy,Zl7,h,Zhr,hC1,h1]
theorem Zgp (σ:Za) (sq own:Nat) (view:Bool) (s:List UInt8):Zr E BY σ sq 16 own view [.str s]=some (.bool (ZbD s),σ,{}) :=
 Za6 (ZzJ s) (by kernel_rfl) (by simp -implicitDefEqProofs only [Zbe,ZD,eq_self]) (by simp -implicitDefEqProofs only [Zab,ZD,eq_self]) rfl (fun _=>rfl) _ _ _ _
end
section
section
variable {σ:Za} {t:Nat} {M:List (List UInt8×Int)}
end
end
section
abbrev Tx:=List UInt8
abbrev TN:=List (Tx×Int)×List (Tx×Nat)
section
variable {α:Type}
def Zq (n:Tx):List (Tx×α)->Option α
 | []=>none
 | p::r=>if n=p.1 then some p.2 else Zq n r
def ZaI (n:Tx) (v:α):List (Tx×α)->List (Tx×α)
 | []=>[(n,v)]
 | p::r=>if n=p.1 then (n,v)::r else p::ZaI n v r
def Zav (n:Tx):List (Tx×α)->List (Tx×α)
 | []=>[]
 | p::r=>if n=p.1 then r else p::Zav n r
theorem ZoA (a b:Tx):Zcb (.str a) (.str b)=some (decide (a=b)):=by
 show some (a == b)=_
 congr 1
 rw [Xac];simp
theorem Zov (f:α->AVal) (n:Tx):∀ (M:List (Tx×α)) (i:Nat),(Zq n M=none/\Zb0 (.str n) (M.map fun p=>(AVal.str p.1,f p.2)) i=some none)\/∃ j u,Zq n M=some u/\Zb0 (.str n) (M.map fun p=>(AVal.str p.1,f p.2)) i=some (some (i+j,f u))
 | [],i=>Xm ⟨rfl,rfl⟩
 | p::M,i=>by
  simp only [Xx,Zb0,ZoA,Zq]
  by_cases h:n=p.1
  ·exact Xr ⟨0,p.2,by simp [h],by simp [h]⟩
  ·simp only [h,decide_false,if_false]
   rcases Zov f n M (i+1) with ⟨g1,g2⟩ | ⟨j,u,g1,g2⟩
   ·exact Xm ⟨g1,g2⟩
   ·exact Xr ⟨j+1,u,g1,by rw [g2];congr 3;omega⟩
theorem ZnT {β:Type} (f:α->β) (n:Tx) (v:α):∀ M:List (Tx×α),Zeh (.str n) (f v) (M.map fun p=>(AVal.str p.1,f p.2))=some ((ZaI n v M).map fun p=>(AVal.str p.1,f p.2))
 | []=>rfl
 | p::M=>by
  simp only [Xx,Zeh,ZoA,ZaI]
  by_cases h:n=p.1
  ·simp [h]
  ·simp [h,ZnT f n v M]
theorem Zo1 {β:Type} (f:α->β) (n:Tx):∀ M:List (Tx×α),Zee (.str n) (M.map fun p=>(AVal.str p.1,f p.2))=some ((Zav n M).map fun p=>(AVal.str p.1,f p.2))
 | []=>rfl
 | p::M=>by
  simp only [Xx,Zee,ZoA,Zav]
  by_cases h:n=p.1
  ·simp [h]
  ·simp [h,Zo1 f n M]
end
theorem ZaR (n:Nat):(1000<=1000+3*n)=True:=by simp
theorem ZcV (i:Nat):(1000<=1001+(3*i+1))=True:=by simp;omega
theorem Zdj (i:Nat):(1000<=1001+3*i)=True:=by simp;omega
def eV (M:List (Tx×Int)):List (AVal×AVal):=M.map fun p=>(AVal.str p.1,AVal.int .i64 p.2)
def eX (X:List (Tx×Nat)):List (AVal×Nat):=X.map fun p=>(AVal.str p.1,p.2)
def eN (d:TN):List (AVal×AVal)×List (AVal×Nat):=(eV d.1,eX d.2)
def eNs (ns:List TN):ZF:=ns.map eN
theorem ZaV {ns:List TN} {j:Nat} {d:TN} (h:ns[j]?=some d):(eNs ns)[j]?=some (eN d):=by unfold eNs;rw [List.getElem?_map,h];rfl
theorem Ze7 (ns:List TN):(eNs ns).length=ns.length:=by simp [eNs]
theorem ZiA (ns:List TN) (j:Nat) (d:TN):(eNs ns).set j (eN d)=eNs (ns.set j d):=by simp [eNs,List.map_set]
theorem ZBk (ns:List TN):eNs ns++[([],[])]=eNs (ns++[([],[])]):=by simp [eNs,eN,eV,eX]
theorem ZEL (t:Nat) (d:TN):Zbm t (eN d) false=d.1.map fun p=>(AVal.str p.1,AVal.int .i64 p.2):=rfl
theorem ZsK (t:Nat) (d:TN):Zbm t (eN d) true=d.2.map fun p=>(AVal.str p.1,AVal.nref t p.2 0):=by
 simp [Zbm,eN,eX,Wb,Function.comp_def]
theorem ZCB {σ:Za} {t:Nat} {ns:ZF} (h:σ[t]?=some (.arena ns)):ZY σ t=some ns:=by unfold ZY;rw [h]
section
variable {σ:Za} {t j:Nat} {ns:List TN} {d:TN}
theorem Zm3 (hs:ZY σ t=some (eNs ns)) (hj:ns[j]?=some d) (n:Tx):Zck σ 2 (.int .i64 0) true (.mapg t j false) (.str n)=some (.tup [.int .i64 ((Zq n d.1).getD 0),.bool (Zq n d.1).isSome],σ,{ rd:=[t] }):=by
 unfold Zck
 rw [if_pos (show ZU (AVal.str n)=2 from rfl)]
 simp only [hs,ZaV hj,ZEL]
 rcases Zov (AVal.int .i64) n d.1 0 with ⟨g1,g2⟩ | ⟨i,u,g1,g2⟩
 ·simp only [g2,g1];rfl
 ·simp only [g2,g1];rfl
def nxV (t:Nat):Option Nat->AVal
 | some i=>.nref t i 0
 | none=>.nilp
theorem ZdX (hs:ZY σ t=some (eNs ns)) (hj:ns[j]?=some d) (n:Tx):Zck σ 2 .nilp false (.mapg t j true) (.str n)=some (nxV t (Zq n d.2),σ,{ rd:=[t] }):=by
 unfold Zck
 rw [if_pos (show ZU (AVal.str n)=2 from rfl)]
 simp only [hs,ZaV hj,ZsK]
 rcases Zov (fun i=>AVal.nref t i 0) n d.2 0 with ⟨g1,g2⟩ | ⟨i,u,g1,g2⟩
 ·simp only [g2,g1];rfl
 ·simp only [g2,g1];rfl
theorem ZyO (hs:σ[t]?=some (.arena (eNs ns))) (hj:ns[j]?=some d) (n:Tx) (v:Int):Zec σ 2 (.mapg t j false) (.str n) (.int .i64 v)=some (.tup [],σ.set t (.arena (eNs (ns.set j (ZaI n v d.1,d.2)))),{ wr:=[t] }):=by
 unfold Zec
 rw [if_pos ⟨rfl,rfl,rfl⟩]
 have h1:Zeh (.str n) (AVal.int .i64 v) (eN d).1=some (eV (ZaI n v d.1)):=ZnT (AVal.int .i64) n v d.1
 simp only [hs,ZaV hj,Xg,if_false,show Zap (AVal.int .i64 v)=true from rfl,if_true,h1]
 rw [show (eV (ZaI n v d.1),(eN d).2)=eN (ZaI n v d.1,d.2) from rfl,ZiA]
theorem Zy6 {s:Nat} (hs:σ[t]?=some (.arena (eNs ns))) (hj:ns[j]?=some d) (hs':σ[s]?=some (.arena [([],[])])) (hst:s≠t) (n:Tx):Zec σ 2 (.mapg t j true) (.str n) (.nref s 0 0)=some (.tup [],(σ.set s (.dead 3)).set t (.arena (eNs (ns.set j (d.1,ZaI n ns.length d.2)++[([],[])]))),{ wr:=[t],any:=true }):=by
 unfold Zec
 rw [if_pos ⟨rfl,rfl,rfl⟩]
 have h1:Zeh (.str n) ns.length (eN d).2=some (eX (ZaI n ns.length d.2)):=ZnT (fun i=>i) n ns.length d.2
 simp only [hs,ZaV hj,if_true,if_neg hst,hs',Ze7,h1]
 rw [show ((eN d).1,eX (ZaI n ns.length d.2))=eN (d.1,ZaI n ns.length d.2) from rfl,ZiA,ZBk]
theorem Zyc (hs:σ[t]?=some (.arena (eNs ns))) (hj:ns[j]?=some d) (n:Tx):ZdO σ 2 (.mapg t j false) (.str n)=some (.tup [],σ.set t (.arena (eNs (ns.set j (Zav n d.1,d.2)))),{ wr:=[t] }):=by
 unfold ZdO
 rw [if_pos (show ZU (AVal.str n)=2 from rfl)]
 have h1:Zee (.str n) (eN d).1=some (eV (Zav n d.1)):=Zo1 (AVal.int .i64) n d.1
 simp only [hs,ZaV hj,Xg,if_false,h1]
 rw [show (eV (Zav n d.1),(eN d).2)=eN (Zav n d.1,d.2) from rfl,ZiA]
theorem ZCE (hs:σ[t]?=some (.arena (eNs ns))) (hj:ns[j]?=some d) (n:Tx):ZdO σ 2 (.mapg t j true) (.str n)=some (.tup [],σ.set t (.arena (eNs (ns.set j (d.1,Zav n d.2)))),{ wr:=[t] }):=by
 unfold ZdO
 rw [if_pos (show ZU (AVal.str n)=2 from rfl)]
 have h1:Zee (.str n) (eN d).2=some (eX (Zav n d.2)):=Zo1 (fun i=>i) n d.2
 simp only [hs,ZaV hj,if_true,h1]
 rw [show ((eN d).1,eX (Zav n d.2))=eN (d.1,Zav n d.2) from rfl,ZiA]
theorem ZC3 (hs:ZY σ t=some (eNs ns)) (hj:ns[j]?=some d):Zdc σ (.mapg t j false)=some (.int .i64 d.1.length,σ,{ rd:=[t] }):=by
 simp [Zdc,hs,ZaV hj,eN,eV]
theorem Zx6 (hs:ZY σ t=some (eNs ns)) (hj:ns[j]?=some d):Zdc σ (.mapg t j true)=some (.int .i64 d.2.length,σ,{ rd:=[t] }):=by
 simp [Zdc,hs,ZaV hj,eN,eX]
end
def goT (ns:List TN):Nat->List Tx->Option Nat
 | j,[]=>some j
 | j,l::r=>match ns[j]? with
  | some d=>match Zq l d.2 with
   | some i=>goT ns i r
   | none=>none
  | none=>none
def Closed (ns:List TN):Prop:=∀ (j:Nat) (d:TN),ns[j]?=some d->∀ p ∈ d.2,j < p.2/\p.2 < ns.length
theorem Zuh {α:Type} {n:Tx} {v:α}:∀ {M:List (Tx×α)},Zq n M=some v->(n,v) ∈ M
 | [],h=>by cases h
 | p::M,h=>by
  simp only [Zq] at h
  split at h
  ·rename_i e;injection h with h;subst e h;simp
  ·exact X9 _ (Zuh h)
theorem Closed.next {ns:List TN} (h:Closed ns) {j:Nat} {d:TN} (hj:ns[j]?=some d) {n:Tx} {i:Nat} (hi:Zq n d.2=some i):j < i/\i < ns.length:=h j d hj _ (Zuh hi)
end
section
theorem ZdQ {σ:Za} {m t j:Nat} {A:ZF} {ids:List Nat} (hs:σ[t]?=some (.arena A)) {i:Nat} (hi:Zv t ids 0=some i) {g:Nat} (hg:1000<=g):Ze σ m ids t g=some (i,g):=by
 have hb:1000<=Zb (.arena A):=by simp [Zb]
 unfold Ze
 simp only [hi,hs]
 rw [if_pos hb,if_pos hg]
theorem ZeG {r:AVal} (hr:Zac r=true\/∃ i,r=.nref 0 i 0) (A:ZF) (σ:Za):Zaw 1 (.arena A::σ) r=some (r,[.arena A]):=by
 have hR:Wn 1=[0]:=rfl
 have hb0:Zp (.arena A)=[]:=rfl
 have h0:(Zk.arena A::σ).getD 0 .free=.arena A:=rfl
 have hρ:∀ g,1000<=g->Ze (.arena A::σ) 1 [0] 0 g=some (0,g):=fun g hg=>ZdQ (j:=0) (by rfl) (by rfl) hg
 have hre:Zf (Ze (.arena A::σ) 1 [0]) r=r:=by
  rcases hr with hr | ⟨i,rfl⟩
  ·exact (ZdJ _ r hr).1
  ·simp only [Zf,hρ (1001+3*i) (by omega),if_true]
 have hi:Zn 1 [r] (.arena A::σ)=[0]:=by
  rcases hr with hr | ⟨i,rfl⟩
  ·simp only [Zn,Zx,(ZdJ (fun _ _=>none) r hr).2,hR,XI,X7,XA,h0,hb0]
   rfl
  ·simp only [Zn,Zx,ZS,hR,XI,X7,XA,h0,hb0]
   rfl
 simp only [Zaw,gcA,hi,Zg,Zo,hre,h0,Zm]
theorem Zsv {view:Bool} {A:ZF} {q:AVal} (hq:Zac q=true\/∃ i,q=.nref 0 i 0) (hv:viewR [.arena A] q=some (q,[])):Zaj view 1 (some (q,[.arena A]))=some (q,[.arena A]):=by
 unfold Zaj
 split
 ·have hnp:∀ x,q=.pan x->False:=by rintro x rfl;simp [viewR,ZbI,Za0] at hv
  have : ZcE 1 (some (q,[.arena A]))=(match viewR [.arena A] q with
   | some (r',ts)=>match gcA 1 [r'] (Zt [.arena A] ts) with
    | ([r''],σ')=>some (r'',σ')
    | _=>none
   | none=>none):=by
   cases q <;> first | rfl | exact (hnp _ rfl).elim
  rw [this,hv]
  exact ZeG hq A []
 ·rfl
theorem Zke {O:ZG} {f own:Nat} {view:Bool} {args args':List AVal} {A A':ZF} {j:Nat} {q0 q r:AVal} {h0:Za} (h:O f (.nref 0 j 0::args') [.arena A]=some (q0,h0)) (hask:Zaj view 1 (some (q0,h0))=some (q,[.arena A'])) (hb:BY f=false) (hp:args.all Z6=true) (hn:args.map ZV=args')
  {σ:Za} {t sq:Nat} (hs:σ[t]?=some (.arena A)) (hlen:A.length<=A'.length) (hff:Zai σ sq own=true) (hr:Zf (Zaf σ [t] sq) q=r) :
  Zr O BY σ sq f own view (.nref t j 0::args)=some (r,σ.set t (.arena A'),{ any:=true }):=by
 have htl:t < σ.length:=(Xd.1 hs).1
 have h1:σ.getD t .free=.arena A:=by simp [Xf,hs]
 have hsh:showAs σ (.nref t j 0::args)=some (.nref t j 0::args.map ZV,[]):=by
  rw [showAs,show showA σ (.nref t j 0)=some (.nref t j 0,[]) from rfl,Zhx hp]
  rfl
 have href:Zx (.nref t j 0::args.map ZV)=[t]:=by
  rw [Zx,Zgy hp];rfl
 have hre:Zi σ 1000 (Zx (.nref t j 0::args.map ZV)) []=[t]:=by
  rw [href]
  simp only [Zi,XU,Xg,if_false,h1,Zp,Xp]
 have hρ:∀ g,1000<=g->Ze σ 0 [t] t g=some (0,g):=fun g hg=>ZdQ (j:=0) hs (by simp [Zv]) hg
 have hvs:Zo (Ze σ 0 [t]) (.nref t j 0::args.map ZV)=.nref 0 j 0::args':=by
  rw [Zo,Zgf hp,hn]
  simp only [Zf,hρ (1001+3*j) (by omega),if_true]
 have hh:Zg σ 0 [t] (Ze σ 0 [t]) [t] 0=[.arena A]:=by simp only [Zg,h1,Zm]
 have hall:([t].all fun t=>okB (σ.getD t .free))=true:=by simp only [X8,WC,h1,okB,Wm]
 have hk:Z5 σ [t] [.arena A'] 0=true:=by simp [Z5,okB,Za1,Zb,hs,hlen]
 have hlay:ZW σ [t] sq [.arena A'] 0 σ=σ.set t (.arena A'):=by simp [ZW,ZT,Zm]
 refine Zb7 hb hsh hre rfl hall hvs hh h hask (by simp) (by simp) hk hff hr hlay ?_
 simp [ZaK,htl]
theorem ZJF {σ:Za} {t sq i:Nat} {A:ZF} (hs:σ[t]?=some (.arena A)):Zf (Zaf σ [t] sq) (.nref 0 i 0)=.nref t i 0:=by
 have hb:1000<=Zb (.arena A):=by simp [Zb]
 have : Zaf σ [t] sq 0 (1001+3*i)=some (t,1001+3*i):=by
  simp only [Zaf,List.getElem?_cons_zero,Xf,hs,Option.getD_some]
  rw [if_pos hb,if_pos (by omega)]
 simp only [Zf,this,if_true]
theorem Zpg {σ:Za}:∀ (n:Nat) (todo acc:List Nat),(∀ t ∈ todo,t ∈ acc)->Zi σ n todo acc=acc
 | 0,_,_,_=>rfl
 | _+1,[],_,_=>rfl
 | n+1,t::todo,acc,h=>by
  have h1:acc.contains t=true:=by simpa using h t (by simp)
  simp only [Zi,h1,if_true]
  exact Zpg n todo acc (fun u hu=>h u (by simp [hu]))
end
section
theorem Zuw (ns:List TN) (hC:Closed ns) (ls:List Tx) (hl:ls.length<=2000000):∀ (r:List Tx) (i j:Nat),ls.drop i=r->j < ns.length ->
  Zis 1 [(9,.int .i64 (i:Int)),(8,.int .i64 (ls.length:Int)),(7,.lst false (ls.map AVal.str)),(0,.nref 0 j 0)] [.arena (eNs ns)]=some (nxV 0 (goT ns j r),[.arena (eNs ns)])
 | [],i,j,h,hj=>by
  have h1:=ZcS h
  have h2:¬((i:Int) < ls.length):=by omega
  have ho:=fun σ=>ZeG (Xr ⟨j,rfl⟩) (eNs ns) σ
  unfold Zis
  simp only [goT,nxV]
  generalize ls.map AVal.str=S at *
  generalize eNs ns=A at *
  rw [ZO]
  simp -implicitDefEqProofs only [EQA,Zad,Xe,Xc,reduceCtorEq,↓reduceIte,Zr7,ZHJ,ZmU,Zou,ZhQ,h1,ho]
 | l::r,i,j,h,hj=>by
  obtain ⟨g1,d1,l1⟩:=Zau h
  have h1:(i:Int) < ls.length:=by omega
  have hm:(ls.map AVal.str).length=ls.length:=by simp
  have e1:=iad g1 AVal.str (k:=1) rfl
  have e3:=ZbG h1 (by omega)
  obtain ⟨d,hd⟩:∃ d,ns[j]?=some d:=⟨_,Xl hj⟩
  have hs:ZY [.arena (eNs ns)] 0=some (eNs ns):=rfl
  have q1:=ZaV hd
  have q2:=ZdX hs hd l
  have hcell:(AVal.str l).cells=[.str l]:=rfl
  rw [hcell] at e1
  cases hk:Zq l d.2 with
  | none =>
   have e0:goT ns j (l::r)=none:=by simp only [goT,hd,hk]
   rw [e0]
   rw [hk] at q2
   have ho:=fun σ=>ZeG (r:=.nilp) (Xm rfl) (eNs ns) σ
   unfold Zis
   simp only [nxV] at q2 ⊢
   generalize ls.map AVal.str=S at *
   generalize eN d=D at *
   generalize eNs ns=A at *
   rw [ZO]
   simp -implicitDefEqProofs only [EQA,Zad,ZaH,Xe,Xc,reduceCtorEq,↓reduceIte,Zr7,Zou,ZhQ,h1,e1,hs,q1,q2,ho]
  | some i' =>
   have hc:=hC.next hd hk
   have e0:goT ns j (l::r)=goT ns i' r:=by simp only [goT,hd,hk]
   rw [e0]
   rw [hk] at q2
   have ih:=Zuw ns hC ls hl r (i+1) i' d1 hc.2
   unfold Zis at *
   simp only [nxV] at q2
   generalize ls.map AVal.str=S at *
   generalize eN d=D at *
   generalize eNs ns=A at *
   generalize nxV 0 (goT ns i' r)=W at *
   rw [ZO]
   simp -implicitDefEqProofs only [EQA,Zad,ZE,ZaH,Xe,Xc,reduceCtorEq,↓reduceIte,gcT,gcA,Zn,Zi,Ze,Zg,Zv,Zb,Zm,Zp,X6,Zou,ZhQ,h1,e1,e3,hs,q1,q2,ZaR,Zdj]
   exact ih
theorem ZMa (ns:List TN) (hC:Closed ns) (ls:List Tx) (hl:ls.length<=2000000) (j:Nat) (hj:j < ns.length):E 42 [.nref 0 j 0,.lst false (ls.map AVal.str)] [.arena (eNs ns)]=some (nxV 0 (goT ns j ls),[.arena (eNs ns)]):=by
 have h:=Zuw ns hC ls hl ls 0 j rfl hj
 have hm:(ls.map AVal.str).length=ls.length:=by simp
 have z0:((0:Nat):Int)=0:=rfl
 rw [z0] at h
 unfold Zis at h
 generalize nxV 0 (goT ns j ls)=W at *
 generalize ls.map AVal.str=S at *
 generalize eNs ns=A at *
 rw [ZQ (by rfl) Zzv]
 simp -implicitDefEqProofs only [EQA,ZE,Xe,Xc,reduceCtorEq,↓reduceIte,gcT,gcA,Zn,Zi,Ze,Zg,Zv,Zb,Zm,Zp,X6,ZxI,ZnS,hm,ZaR,Zdj]
 exact h
end
section
theorem Zx9:E 28 [] []=some (.nref 0 0 0,[.arena [([],[])]]):=Zce.2 ⟨1,by rfl⟩
theorem ZxA {σ:Za} {sq:Nat} (hff:Zai σ sq 1=true):Zr E BY σ sq 28 1 false []=some (.nref sq 0 0,σ.set sq (.arena [([],[])]),{ any:=true }):=by
 have hd:Zf8 1 (.nref 0 0 0) [.arena [([],[])]]=none:=rfl
 have hk:Z5 σ [] [.arena [([],[])]] 0=true:=rfl
 unfold Zr Zcd
 rw [show BY 28=false from by kernel_rfl]
 simp only [Xg,if_false,show showAs σ []=some ([],[]) from rfl,show Zt σ []=σ from rfl,Zx]
 have h2:∀ σ,Zi σ 1000 [] []=[]:=fun _=>rfl
 rw [h2]
 unfold ZbH
 simp only [WC,if_true,Zo,Zg,XP,Zx9]
 simp only [Zaj,Xg,if_false,Zar,Xag,List.isEmpty_cons,Xbt,if_true,hd,XP,XE,XC,Xz,XaM,decide_true,hk,hff,Wm]
 simp [ZW,ZT,Zaf,Zm,Zf,ZaK]
theorem ZiF {α:Type} (n m:Tx) (v:α):∀ M:List (Tx×α),Zq m (ZaI n v M)=if m=n then some v else Zq m M
 | []=>rfl
 | p::M=>by
  simp only [ZaI]
  by_cases h:n=p.1
  ·rw [if_pos h]
   simp only [Zq]
   by_cases h2:m=n
   ·simp [h2]
   ·have h3:¬m=p.1:=fun e=>h2 (e.trans h.symm)
    simp [h2,h3]
  ·rw [if_neg h]
   simp only [Zq]
   by_cases h2:m=p.1
   ·have h3:¬m=n:=fun e=>h (e.symm.trans h2)
    simp [h2]
    intro e
    exact absurd e.symm h
   ·simp only [h2,if_false]
    exact ZiF n m v M
def Z0 (k:Tx) (v:Int):List Tx->List TN->Nat->List TN×Bool
 | [],ns,j=>match ns[j]? with
  | some d=>(ns.set j (ZaI k v d.1,d.2),(Zq k d.1).isSome)
  | none=>(ns,false)
 | l::r,ns,j=>match ns[j]? with
  | some d=>match Zq l d.2 with
   | some i=>Z0 k v r ns i
   | none=>Z0 k v r (ns.set j (d.1,ZaI l ns.length d.2)++[([],[])]) ns.length
  | none=>(ns,false)
def newN (ns:List TN) (j:Nat) (d:TN) (l:Tx):List TN:=ns.set j (d.1,ZaI l ns.length d.2)++[([],[])]
theorem Zd7 (ns:List TN) (j:Nat) (d:TN) (l:Tx):(newN ns j d l).length=ns.length+1:=by simp [newN]
theorem ZfH {ns:List TN} {j:Nat} (hj:j < ns.length) (d:TN) (l:Tx):(newN ns j d l)[j]?=some (d.1,ZaI l ns.length d.2):=by
 unfold newN
 rw [Wc (by simpa using hj),XF hj]
theorem Zfw (ns:List TN) (j:Nat) (d:TN) (l:Tx):(newN ns j d l)[ns.length]?=some ([],[]):=by
 unfold newN
 rw [List.getElem?_append_right (by simp)]
 simp
theorem Zil {ns:List TN} {j i:Nat} (d:TN) (l:Tx) (hi:i < ns.length) (hne:i≠j):(newN ns j d l)[i]?=ns[i]?:=by
 unfold newN
 rw [Wc (by simpa using hi),Xs (fun e=>hne e.symm)]
theorem Zjf {α:Type} {n:Tx} {v:α} {q:Tx×α}:∀ {M:List (Tx×α)},q ∈ ZaI n v M->q=(n,v)\/q ∈ M
 | [],h=>by simp only [ZaI,List.mem_singleton] at h;exact Xm h
 | p::M,h=>by
  simp only [ZaI] at h
  split at h
  ·rcases XB.1 h with h | h
   ·exact Xm h
   ·exact Xr (X9 _ h)
  ·rcases XB.1 h with h | h
   ·exact Xr (by rw [h];simp)
   ·rcases Zjf h with h | h
    ·exact Xm h
    ·exact Xr (X9 _ h)
theorem Closed.newN {ns:List TN} (hC:Closed ns) {j:Nat} {d:TN} (hd:ns[j]?=some d) (l:Tx):Closed (newN ns j d l):=by
 have hj:=(Xd.1 hd).1
 intro i d' hi p hp
 rw [Zd7]
 by_cases h1:i=j
 ·subst h1
  rw [ZfH hj] at hi
  injection hi with hi
  subst hi
  rcases Zjf hp with rfl | hp
  ·exact ⟨hj,Nat.lt_succ_self _⟩
  ·have:=hC i d hd p hp;omega
 ·by_cases h2:i < ns.length
  ·rw [Zil d l h2 h1] at hi
   have:=hC i d' hi p hp;omega
  ·have h3:i=ns.length:=by
    have:=(Xd.1 hi).1
    rw [Zd7] at this;omega
   subst h3
   rw [Zfw] at hi
   injection hi with hi
   subst hi
   cases hp
theorem Closed.vals {ns:List TN} (hC:Closed ns) {j:Nat} {d:TN} (hd:ns[j]?=some d) (M:List (Tx×Int)):Closed (ns.set j (M,d.2)):=by
 have hj:=(Xd.1 hd).1
 intro i d' hi p hp
 rw [Wt]
 rw [Xn] at hi
 by_cases e:j=i
 ·subst e
  rw [if_pos rfl,if_pos hj] at hi
  injection hi with hi
  subst hi
  exact hC _ d hd p hp
 ·rw [if_neg e] at hi
  exact hC i d' hi p hp
theorem Zo5 (k:Tx) (v:Int) (ls:List Tx) (hl:ls.length<=2000000):∀ (r:List Tx) (i j:Nat) (ns:List TN),Closed ns->ls.drop i=r->j < ns.length ->
  Zin 1 [(15,.int .i64 (i:Int)),(14,.int .i64 (ls.length:Int)),(13,.lst false (ls.map AVal.str)),(3,.int .i64 v),(2,.str k),(0,.nref 0 j 0)] [.arena (eNs ns)]=some (.bool (Z0 k v r ns j).2,[.arena (eNs (Z0 k v r ns j).1)])
 | [],i,j,ns,hC,h,hj=>by
  have h1:=ZcS h
  have h2:¬((i:Int) < ls.length):=by omega
  obtain ⟨d,hd⟩:∃ d,ns[j]?=some d:=⟨_,Xl hj⟩
  have hs:ZY [.arena (eNs ns)] 0=some (eNs ns):=rfl
  have q1:=ZaV hd
  have q2:=Zm3 hs hd k
  have q3:=ZyO (σ:=[.arena (eNs ns)]) (t:=0) rfl hd k v
  have e0:Z0 k v [] ns j=(ns.set j (ZaI k v d.1,d.2),(Zq k d.1).isSome):=by simp only [Z0,hd]
  rw [e0]
  have ho:=fun σ=>ZeG (r:=.bool (Zq k d.1).isSome) (Xm rfl) (eNs (ns.set j (ZaI k v d.1,d.2))) σ
  unfold Zin
  simp only [WX] at q3 ⊢
  generalize ls.map AVal.str=S at *
  generalize eNs (ns.set j (ZaI k v d.1,d.2))=B at *
  generalize eN d=D at *
  generalize eNs ns=A at *
  generalize (Zq k d.1).isSome=b at *
  rw [ZO]
  simp -implicitDefEqProofs only [EQA,Zad,Xe,Xc,reduceCtorEq,↓reduceIte,ZC5,Zxq,Znw,ZnL,Zhp,h1,hs,q1,q2,q3,ho]
 | l::r,i,j,ns,hC,h,hj=>by
  obtain ⟨g1,d1,l1⟩:=Zau h
  have h1:(i:Int) < ls.length:=by omega
  have hm:(ls.map AVal.str).length=ls.length:=by simp
  have e1:=iad g1 AVal.str (k:=1) rfl
  have e3:=ZbG h1 (by omega)
  obtain ⟨d,hd⟩:∃ d,ns[j]?=some d:=⟨_,Xl hj⟩
  have hs:ZY [.arena (eNs ns)] 0=some (eNs ns):=rfl
  have q1:=ZaV hd
  have q2:=ZdX hs hd l
  have hcell:(AVal.str l).cells=[.str l]:=rfl
  rw [hcell] at e1
  cases hk:Zq l d.2 with
  | some i' =>
   have hc:=hC.next hd hk
   have e0:Z0 k v (l::r) ns j=Z0 k v r ns i':=by simp only [Z0,hd,hk]
   rw [e0]
   rw [hk] at q2
   have ih:=Zo5 k v ls hl r (i+1) i' ns hC d1 hc.2
   unfold Zin at *
   simp only [nxV] at q2
   generalize ls.map AVal.str=S at *
   generalize eNs (Z0 k v r ns i').1=W1 at *
   generalize (Z0 k v r ns i').2=W2 at *
   generalize eN d=D at *
   generalize eNs ns=A at *
   rw [ZO]
   simp -implicitDefEqProofs only [EQA,Zad,ZE,ZaH,Xe,Xc,reduceCtorEq,↓reduceIte,gcT,gcA,Zn,Zi,Ze,Zg,Zv,Zb,Zm,Zp,X6,ZnL,Zhp,h1,e1,e3,hs,q1,q2,ZaR,Zdj]
   exact ih
  | none =>
   have e0:Z0 k v (l::r) ns j=Z0 k v r (newN ns j d l) ns.length:=by simp only [Z0,hd,hk,newN]
   rw [e0]
   rw [hk] at q2
   have hC':=hC.newN hd l
   have ih:=Zo5 k v ls hl r (i+1) ns.length (newN ns j d l) hC' d1 (by rw [Zd7];omega)
   have q3:=Zy6 (σ:=[.arena (eNs ns),.arena [([],[])]]) (t:=0) (s:=1) rfl hd rfl (by decide) l
   have hs2:∀ σ,ZY (.arena (eNs (newN ns j d l))::σ) 0=some (eNs (newN ns j d l)):=fun _=>rfl
   have q4:=fun σ=>ZdX (hs2 σ) (ZfH hj d l) l
   have q5:=ZaV (ZfH hj d l)
   simp only [ZiF,if_true,nxV] at q2 q4
   have hm2:=fun {σ:Za} {sq:Nat} h=>ZxA (σ:=σ) (sq:=sq) h
   have hs0:∀ σ,ZY (.arena (eNs ns)::σ) 0=some (eNs ns):=fun _=>rfl
   rw [show ns.set j (d.1,ZaI l ns.length d.2)++[([],[])]=newN ns j d l from rfl] at q3
   simp only [WX,List.set_cons_succ] at q3
   unfold Zin at *
   generalize ls.map AVal.str=S at *
   generalize eNs (Z0 k v r (newN ns j d l) ns.length).1=W1 at *
   generalize (Z0 k v r (newN ns j d l) ns.length).2=W2 at *
   generalize eN (d.1,ZaI l ns.length d.2)=D2 at *
   generalize eNs (newN ns j d l)=A2 at *
   generalize eN d=D at *
   generalize eNs ns=A at *
   rw [ZO]
   simp -implicitDefEqProofs only [EQA,Zad,ZE,ZaH,Xj,Xe,Xc,Xk,reduceCtorEq,↓reduceIte,gcT,gcA,Zn,Zi,Ze,Zg,Zv,Zb,Zm,Zp,X6,ZnL,Zhp,h1,e1,e3,hs,hs0,hs2,q1,q2,q3,q4,q5,hm2,Zai,ZaR,Zdj,Zat,Zay,ZaM,Za9,Zbr,Zbp,ZbA,ZbE,ZaS]
   exact ih
theorem ZGF (ns:List TN) (hC:Closed ns) (ls:List Tx) (hl:ls.length<=2000000) (j:Nat) (hj:j < ns.length) (k:Tx) (v:Int) :
  E 30 [.nref 0 j 0,.lst false (ls.map AVal.str),.str k,.int .i64 v] [.arena (eNs ns)]=some (.bool (Z0 k v ls ns j).2,[.arena (eNs (Z0 k v ls ns j).1)]):=by
 have h:=Zo5 k v ls hl ls 0 j ns hC rfl hj
 have hm:(ls.map AVal.str).length=ls.length:=by simp
 have z0:((0:Nat):Int)=0:=rfl
 rw [z0] at h
 unfold Zin at h
 generalize eNs (Z0 k v ls ns j).1=W1 at *
 generalize (Z0 k v ls ns j).2=W2 at *
 generalize ls.map AVal.str=S at *
 generalize eNs ns=A at *
 rw [ZQ (by rfl) ZBX]
 simp -implicitDefEqProofs only [EQA,ZE,Xj,Xe,Xc,reduceCtorEq,↓reduceIte,gcT,gcA,Zn,Zi,Ze,Zg,Zv,Zb,Zm,Zp,X6,ZEi,ZkU,hm,ZaR,Zdj]
 exact h
theorem Zka (k:Tx) (v:Int):∀ (r:List Tx) (ns:List TN) (j:Nat),ns.length<=(Z0 k v r ns j).1.length
 | [],ns,j=>by
  simp only [Z0]
  split <;> simp
 | l::r,ns,j=>by
  simp only [Z0]
  split
  ·rename_i d hd
   split
   ·exact Zka k v r ns _
   ·have:=Zka k v r (newN ns j d l) ns.length
    rw [Zd7] at this
    exact Nat.le_trans (Nat.le_succ _) this
  ·exact Xz _
end
section
def ZjP:Zd:=(.seq (.region [oI 2 (.mov (.c (.bool true)))] none [2]) .ret)
def Zok:Zd:=ZjP
def Zp4:=xw Zok ZjP rfl
def Ze0:Zd:=(.region [oM 34 5,oI 35 (.bin .add (.t 34) (.c (.int .i64 1))),oM 5 35] none [5,4,3,0])
def Zqc:Zd:=Ze0
def ZgM:=xw Zqc Ze0 rfl
def ZeV:Zd:=(.seq (.region [oM 195 3,oI 196 (.call 12 0 true [(.t 195)]),oM 197 4,oI 198 (.len (.t 197)),oI 199 (.bin .neq (.t 196) (.t 198))] none [199,5,4,3,0]) (.cond (.t 199) (.seq (.region [oI 2 (.mov (.c (.bool false)))] none [2]) .ret) .skip))
def Zqt:Zd:=ZeV
def Zgo:=xw Zqt ZeV rfl
def Zn0:Zd:=(.seq (.region [oM 157 10,oM 158 12,oI 159 (.bin .neq (.t 157) (.t 158)),oM 160 159,⟨(some 161),(.mov (.t 11)),(some (160,false)),[]⟩,⟨(some 162),(.mov (.t 13)),(some (160,false)),[]⟩,⟨(some 163),(.beq true (.t 161) (.t 162)),(some (160,false)),[]⟩,oI 164 (.pick (.t 160) (.c (.bool true)) (.t 163))] none [164,5,4,3,0]) (.cond (.t 164) (.seq (.region [oI 2 (.mov (.c (.bool false)))] none [2]) .ret) .skip))
def Zr8:Zd:=Zn0
def Zvi:=xw Zr8 Zn0 rfl
def Zg5:Zd:=(.seq (.seq (.region [oM 128 14,oM 129 4,oI 130 (.len (.t 129)),oI 131 (.bin .lss (.t 128) (.t 130))] none [131,14,13,12,11,10,6,5,4,3,0]) (.cond (.t 131) .skip (.exit 5))) (.seq (.block 6 (.seq (.region [oM 134 4,oM 135 14,oI 136 (.iaddr 3 (.t 134) (.t 135)),oF 137 0 136,oL 138 137,oF 139 2 6,oL 140 139,oI 141 (.bin .eql (.t 138) (.t 140)),oM 142 141,⟨(some 143),(.mov (.t 4)),(some (142,true)),[]⟩,⟨(some 144),(.mov (.t 14)),(some (142,true)),[]⟩,⟨(some 145),(.iaddr 3 (.t 143) (.t 144)),(some (142,true)),[]⟩,⟨(some 146),(.faddr 1 (.t 145)),(some (142,true)),[]⟩,⟨(some 147),(.ld none (.t 146)),(some (142,true)),[]⟩,⟨(some 148),(.faddr 3 (.t 6)),(some (142,true)),[]⟩,⟨(some 149),(.ld none (.t 148)),(some (142,true)),[]⟩,⟨(some 150),(.bin .eql (.t 147) (.t 149)),(some (142,true)),[]⟩,oI 151 (.pick (.t 142) (.t 150) (.c (.bool false)))] (some [(2,6),(4,6),(11,15),(13,15)]) [151,14,13,12,11,10,6,5,4,3,0]) (.cond (.t 151) (.region [oM 152 4,oM 153 14,oI 154 (.iaddr 3 (.t 152) (.t 153)),oF 155 2 154,oL 156 155,oM 12 156,oI 13 (.mov (.c (.bool true)))] none [14,13,12,11,10,6,5,4,3,0]) .skip))) (.region [oM 132 14,oI 133 (.bin .add (.t 132) (.c (.int .i64 1))),oM 14 133] none [14,13,12,11,10,6,5,4,3,0])))
def Zn4:Zd:=Zg5
def ZiE:=xw Zn4 Zg5 rfl
def ZkM:Zd:=(.seq (.region [oM 187 3,oF 188 2 6,oL 189 188,oI 190 (.call 11 0 true [(.t 187),(.t 189)]),oM 191 4,oM 192 15,oI 193 (.call 23 0 true [(.t 190),(.t 191),(.t 192)]),oI 194 (.un .not (.t 193))] none [194,5,4,3,0]) (.cond (.t 194) (.seq (.region [oI 2 (.mov (.c (.bool false)))] none [2]) .ret) .skip))
def Zqg:Zd:=ZkM
def ZMV:=xw Zqg ZkM rfl
def ZiS:Zd:=(.seq (.seq (.region [oM 170 16,oM 171 4,oI 172 (.len (.t 171)),oI 173 (.bin .lss (.t 170) (.t 172))] none [173,16,15,6,5,4,3,0]) (.cond (.t 173) .skip (.exit 7))) (.seq (.block 8 (.region [oM 176 15,oM 177 16,oM 178 4,oM 179 16,oI 180 (.iaddr 3 (.t 178) (.t 179)),oF 181 0 180,oL 182 181,oF 183 2 6,oL 184 183,oI 185 (.call 22 0 true [(.t 182),(.t 184)]),oI 186 (.iaddr 1 (.t 176) (.t 177)),oN (.st 1 (.t 186) (.t 185))] (some [(4,8),(6,8),(9,9)]) [16,15,6,5,4,3,0])) (.region [oM 174 16,oI 175 (.bin .add (.t 174) (.c (.int .i64 1))),oM 16 175] none [16,15,6,5,4,3,0])))
def ZnV:Zd:=ZiS
def Zpm:=xw ZnV ZiS rfl
def ZkS:Zd:=(.seq (.region [oM 63 3,oF 64 3 6,oL 65 64,oI 66 (.call 27 0 true [(.t 63),(.t 65)]),oM 67 4,oM 68 17,oI 69 (.call 23 0 true [(.t 66),(.t 67),(.t 68)]),oI 70 (.un .not (.t 69))] none [70,5,4,3,0]) (.cond (.t 70) (.seq (.region [oI 2 (.mov (.c (.bool false)))] none [2]) .ret) .skip))
def Zr2:Zd:=ZkS
def ZGl:=xw Zr2 ZkS rfl
def ZjA:Zd:=(.seq (.seq (.region [oM 46 18,oM 47 4,oI 48 (.len (.t 47)),oI 49 (.bin .lss (.t 46) (.t 48))] none [49,18,17,6,5,4,3,0]) (.cond (.t 49) .skip (.exit 3))) (.seq (.block 4 (.region [oM 52 17,oM 53 18,oM 54 4,oM 55 18,oI 56 (.iaddr 3 (.t 54) (.t 55)),oF 57 1 56,oL 58 57,oF 59 3 6,oL 60 59,oI 61 (.bin .eql (.t 58) (.t 60)),oI 62 (.iaddr 1 (.t 52) (.t 53)),oN (.st 1 (.t 62) (.t 61))] (some [(4,8),(6,8)]) [18,17,6,5,4,3,0])) (.region [oM 50 18,oI 51 (.bin .add (.t 50) (.c (.int .i64 1))),oM 18 51] none [18,17,6,5,4,3,0])))
def ZnI:Zd:=ZjA
def Zts:=xw ZnI ZjA rfl
def Zd8:Zd:=(.seq (.seq (.region [oM 26 5,oM 27 0,oI 28 (.len (.t 27)),oI 29 (.bin .lss (.t 26) (.t 28)),oM 30 29,⟨(some 31),(.mov (.t 5)),(some (30,true)),[]⟩,⟨(some 32),(.bin .lss (.t 31) (.c (.int .i64 120))),(some (30,true)),[]⟩,oI 33 (.pick (.t 30) (.t 32) (.c (.bool false)))] none [33,5,4,3,0]) (.cond (.t 33) .skip (.exit 0))) (.seq (.block 1 (.seq (.region [oM 36 0,oM 37 5,oI 38 (.iaddr 4 (.t 36) (.t 37)),oI 39 (.ld (some 4) (.t 38)),oI 6 (.alloc [(.int .i64 0),(.int .i64 0),(.str []),(.str [])]),oN (.st 4 (.t 6) (.t 39))] none [6,5,4,3,0]) (.seq (.seq (.region [oF 40 0 6,oL 41 40,oI 42 (.bin .rem (.t 41) (.c (.int .i64 5)))] none [42,6,5,4,3,0]) (.block 2 (.seq (.region [oI 72 (.bin .eql (.t 42) (.c (.int .i64 0))),oM 71 72] none [71,42,6,5,4,3,0]) (.cond (.t 71) (.seq (.region [oI 7 (.mov (.c (.int .i64 0)))] none [7,6,5,4,3,0]) (.seq (.seq (.region [oF 73 2 6,oL 74 73,oI 75 (.call 25 0 true [(.t 74)]),oI 76 (.un .not (.t 75))] none [76,7,6,5,4,3,0]) (.cond (.t 76) (.region [oI 7 (.mov (.c (.int .i64 150)))] none [7,6,5,4,3,0]) (.region [oM 77 4,oF 78 2 6,oL 79 78,oF 80 3 6,oL 81 80,oF 82 1 6,oL 83 82,oI 84 (.build [(.str []),(.str []),(.int .i64 0)] [(0,1,(.t 79)),(1,1,(.t 81)),(2,1,(.t 83))]),oI 85 (.call 17 0 true [(.t 77),(.t 84)]),oM 4 85] none [7,6,5,4,3,0]))) (.seq (.region [oM 86 3,oF 87 2 6,oL 88 87,oF 89 3 6,oL 90 89,oF 91 1 6,oL 92 91,oI 93 (.call 9 0 true [(.t 86),(.t 88),(.t 90),(.t 92)]),oI 94 (.call 18 0 true [(.t 93)]),oM 95 7,oI 96 (.bin .neq (.t 94) (.t 95))] none [96,5,4,3,0]) (.cond (.t 96) (.seq (.region [oI 2 (.mov (.c (.bool false)))] none [2]) .ret) .skip)))) (.seq (.region [oI 98 (.bin .eql (.t 42) (.c (.int .i64 1))),oM 97 98] none [97,42,6,5,4,3,0]) (.cond (.t 97) (.seq (.region [oM 100 4,oF 101 2 6,oL 102 101,oF 103 3 6,oL 104 103,oI 105 (.call 19 0 true [(.t 100),(.t 102),(.t 104)]),oM 99 105,oI 106 (.ext (.t 99) 0),oI 107 (.ext (.t 99) 1),oM 8 106,oM 9 107] none [9,8,6,5,3,0]) (.seq (.region [oM 108 8,oM 4 108] none [9,6,5,4,3,0]) (.seq (.region [oM 109 3,oF 110 2 6,oL 111 110,oF 112 3 6,oL 113 112,oI 114 (.call 10 0 true [(.t 109),(.t 111),(.t 113)]),oM 115 9,oI 116 (.beq true (.t 114) (.t 115))] none [116,5,4,3,0]) (.cond (.t 116) (.seq (.region [oI 2 (.mov (.c (.bool false)))] none [2]) .ret) .skip)))) (.seq (.region [oI 118 (.bin .eql (.t 42) (.c (.int .i64 2))),oM 117 118] none [117,42,6,5,4,3,0]) (.cond (.t 117) (.seq (.region [oM 120 3,oF 121 2 6,oL 122 121,oF 123 3 6,oL 124 123,oI 125 (.call 26 0 true [(.t 120),(.t 122),(.t 124)]),oM 119 125,oI 126 (.ext (.t 119) 0),oI 127 (.ext (.t 119) 1),oM 10 126,oM 11 127] none [11,10,6,5,4,3,0]) (.seq (.region [oI 12 (.mov (.c (.int .i64 0))),oI 13 (.mov (.c (.bool false)))] none [13,12,11,10,6,5,4,3,0]) (.seq (.seq (.region [oI 14 (.mov (.c (.int .i64 0)))] none [14,13,12,11,10,6,5,4,3,0]) (.block 5 (.loop [14,13,12,11,10,6,5,4,3,0] Zn4))) Zr8))) (.seq (.region [oI 166 (.bin .eql (.t 42) (.c (.int .i64 3))),oM 165 166] none [165,6,5,4,3,0]) (.cond (.t 165) (.seq (.region [oM 167 4,oI 168 (.len (.t 167)),oI 169 (.mkslice 1 1 (.bool false) (.t 168) (.t 168)),oM 15 169] none [15,6,5,4,3,0]) (.seq (.seq (.region [oI 16 (.mov (.c (.int .i64 0)))] none [16,15,6,5,4,3,0]) (.block 7 (.loop [16,15,6,5,4,3,0] ZnV))) Zqg)) (.seq (.region [oM 43 4,oI 44 (.len (.t 43)),oI 45 (.mkslice 1 1 (.bool false) (.t 44) (.t 44)),oM 17 45] none [17,6,5,4,3,0]) (.seq (.seq (.region [oI 18 (.mov (.c (.int .i64 0)))] none [18,17,6,5,4,3,0]) (.block 3 (.loop [18,17,6,5,4,3,0] ZnI))) Zr2)))))))))))) Zqt))) Zqc))
def Znu:Zd:=Zd8
def Zfe:=xw Znu Zd8 rfl
def Zpe:Zd:=(.seq (.region [oI 2 (.mov (.c (.bool false)))] none [0]) (.seq (.region [oI 19 (.call 7 2 false []),oM 3 19] none [3,0]) (.seq (.seq (.region [oM 20 3,oI 21 (.peq false (.t 20) (.c .nilp)),oM 22 21,⟨(some 23),(.call 8 0 true []),(some (22,false)),[]⟩,⟨(some 24),(.un .not (.t 23)),(some (22,false)),[]⟩,oI 25 (.pick (.t 22) (.c (.bool true)) (.t 24))] none [25,3,0]) (.cond (.t 25) (.seq (.region [oI 2 (.mov (.c (.bool false)))] none [2]) .ret) .skip)) (.seq (.region [oI 4 (.mov (.c (.lst true [])))] none [4,3,0]) (.seq (.seq (.region [oI 5 (.mov (.c (.int .i64 0)))] none [5,4,3,0]) (.block 0 (.loop [5,4,3,0] Znu))) Zok)))))
def ZjY:ZN:=⟨[(.tmp 2)],Zpe⟩
theorem ZJg:FC 6=some ZjY:=by kernel_rfl
theorem ZwL:ZjY.body=Zpe:=rfl
theorem Ztp:ZjY.res=[(.tmp 2)]:=rfl
noncomputable def ZeL (m:Nat) (tm:Tms) (σ:Za):Option (AVal×Za):=(ZaC m ZjY (Zbf FC PR BY m Zok (WE (ZaL 0) (evL FC PR BY m [5,4,3,0] Znu tm σ))))
def Zld:Zd:=(.seq (.region [oM 49 7,oM 50 0,oI 51 (.len (.t 50)),oI 52 (.bin .eql (.t 49) (.t 51)),oM 6 52] none [6]) .ret)
def Znk:Zd:=Zld
def Zw5:=xw Znk Zld rfl
def Zek:Zd:=(.seq (.seq (.region [oM 9 8,oM 10 1,oI 11 (.len (.t 10)),oI 12 (.bin .lss (.t 9) (.t 11))] none [12,8,7,2,1,0]) (.cond (.t 12) .skip (.exit 0))) (.seq (.block 1 (.seq (.seq (.region [oM 15 2,oM 16 8,oI 17 (.iaddr 1 (.t 15) (.t 16)),oL 18 17,oI 19 (.un .not (.t 18))] none [19,8,7,2,1,0]) (.cond (.t 19) (.exit 1) .skip)) (.seq (.seq (.region [oM 20 7,oM 21 0,oI 22 (.len (.t 21)),oI 23 (.bin .geq (.t 20) (.t 22)),oM 24 23,⟨(some 25),(.mov (.t 0)),(some (24,false)),[]⟩,⟨(some 26),(.mov (.t 7)),(some (24,false)),[]⟩,⟨(some 27),(.iaddr 3 (.t 25) (.t 26)),(some (24,false)),[]⟩,⟨(some 28),(.ld (some 3) (.t 27)),(some (24,false)),[]⟩,⟨(some 29),(.mov (.t 1)),(some (24,false)),[]⟩,⟨(some 30),(.mov (.t 8)),(some (24,false)),[]⟩,⟨(some 31),(.iaddr 3 (.t 29) (.t 30)),(some (24,false)),[]⟩,⟨(some 32),(.faddr 0 (.t 31)),(some (24,false)),[]⟩,⟨(some 33),(.ld none (.t 32)),(some (24,false)),[]⟩,⟨(some 34),(.mov (.t 1)),(some (24,false)),[]⟩,⟨(some 35),(.mov (.t 8)),(some (24,false)),[]⟩,⟨(some 36),(.iaddr 3 (.t 34) (.t 35)),(some (24,false)),[]⟩,⟨(some 37),(.faddr 1 (.t 36)),(some (24,false)),[]⟩,⟨(some 38),(.ld none (.t 37)),(some (24,false)),[]⟩,⟨(some 39),(.mov (.t 1)),(some (24,false)),[]⟩,⟨(some 40),(.mov (.t 8)),(some (24,false)),[]⟩,⟨(some 41),(.iaddr 3 (.t 39) (.t 40)),(some (24,false)),[]⟩,⟨(some 42),(.faddr 2 (.t 41)),(some (24,false)),[]⟩,⟨(some 43),(.ld none (.t 42)),(some (24,false)),[]⟩,⟨(some 44),(.build [(.str []),(.str []),(.int .i64 0)] [(0,1,(.t 33)),(1,1,(.t 38)),(2,1,(.t 43))]),(some (24,false)),[]⟩,⟨(some 45),(.eqv true [2,2,0] (.t 28) (.t 44)),(some (24,false)),[]⟩,oI 46 (.pick (.t 24) (.c (.bool true)) (.t 45))] (some [(7,11),(8,11),(7,13),(8,13),(7,16),(8,16),(11,16),(13,16),(7,18),(8,18),(11,18),(13,18),(7,21),(8,21),(11,21),(13,21),(16,21),(18,21),(7,23),(8,23),(11,23),(13,23),(16,23),(18,23)]) [46,8,7,2,1,0]) (.cond (.t 46) (.seq (.region [oI 6 (.mov (.c (.bool false)))] none [6]) .ret) .skip)) (.region [oM 47 7,oI 48 (.bin .add (.t 47) (.c (.int .i64 1))),oM 7 48] none [8,7,2,1,0])))) (.region [oM 13 8,oI 14 (.bin .add (.t 13) (.c (.int .i64 1))),oM 8 14] none [8,7,2,1,0])))
def ZnZ:Zd:=Zek
def Zf3:=xw ZnZ Zek rfl
def Zne:Zd:=(.seq (.region [oI 6 (.mov (.c (.bool false)))] none [2,1,0]) (.seq (.region [oI 7 (.mov (.c (.int .i64 0)))] none [7,2,1,0]) (.seq (.seq (.region [oI 8 (.mov (.c (.int .i64 0)))] none [8,7,2,1,0]) (.block 0 (.loop [8,7,2,1,0] ZnZ))) Znk)))
def ZjT:ZN:=⟨[(.tmp 6)],Zne⟩
theorem ZEv:FC 23=some ZjT:=by kernel_rfl
theorem ZDd:ZjT.body=Zne:=rfl
theorem ZhM:ZjT.res=[(.tmp 6)]:=rfl
noncomputable def ZgI (m:Nat) (tm:Tms) (σ:Za):Option (AVal×Za):=(ZaC m ZjT (Zbf FC PR BY m Znk (WE (ZaL 0) (evL FC PR BY m [8,7,2,1,0] ZnZ tm σ))))
def ZhW:Zd:=(.seq (.region [oI 2 (.box (.t 0)),oI 3 (.box (.t 1)),oI 4 (.mov (.c (.bool false)))] none [3,2]) (.seq (.region [oF 5 0 2,oL 6 5,oF 7 0 3,oL 8 7,oI 9 (.bin .lss (.t 6) (.t 8)),oM 10 9,⟨(some 11),(.faddr 0 (.t 2)),(some (10,false)),[]⟩,⟨(some 12),(.ld none (.t 11)),(some (10,false)),[]⟩,⟨(some 13),(.faddr 0 (.t 3)),(some (10,false)),[]⟩,⟨(some 14),(.ld none (.t 13)),(some (10,false)),[]⟩,⟨(some 15),(.bin .eql (.t 12) (.t 14)),(some (10,false)),[]⟩,⟨(some 16),(.mov (.t 15)),(some (10,false)),[]⟩,⟨(some 17),(.faddr 1 (.t 2)),(some (16,true)),[]⟩,⟨(some 18),(.ld none (.t 17)),(some (16,true)),[]⟩,⟨(some 19),(.faddr 1 (.t 3)),(some (16,true)),[]⟩,⟨(some 20),(.ld none (.t 19)),(some (16,true)),[]⟩,⟨(some 21),(.bin .lss (.t 18) (.t 20)),(some (16,true)),[]⟩,⟨(some 22),(.pick (.t 16) (.t 21) (.c (.bool false))),(some (10,false)),[]⟩,oI 23 (.pick (.t 10) (.c (.bool true)) (.t 22)),oM 4 23] none [4]) .ret))
def ZnB:ZN:=⟨[(.tmp 4)],ZhW⟩
theorem ZoC:FC 40=some ZnB:=by kernel_rfl
theorem Zof:ZnB.body=ZhW:=rfl
theorem ZnD:ZnB.res=[(.tmp 4)]:=rfl
def Zla:Zd:=(.seq (.region [oI 2 (.mov (.c (.int .i64 0)))] none [0]) (.seq (.region [oM 3 0,oM 2 3] none [2]) .ret))
def Zpf:ZN:=⟨[(.tmp 2)],Zla⟩
theorem ZFB:FC 18=some Zpf:=by kernel_rfl
theorem ZzZ:Zpf.body=Zla:=rfl
theorem ZIP:Zpf.res=[(.tmp 2)]:=rfl
def ZgD:Zd:=(.seq (.region [oI 6 (.mov (.c (.lst true [])))] none [6,5,3,0]) (.seq (.region [oM 21 6,oM 22 0,oM 23 5,oI 24 (.slice 3 (.t 22) none (some (.t 23)) none),oI 25 (.app 3 40 (.agg [(.str []),(.str []),(.int .i64 0)]) (.t 21) (.t 24)),oI 26 (.ld (some 3) (.t 3)),oI 27 (.bslice false 3 1 (.agg [(.str []),(.str []),(.int .i64 0)]) [(0,(.t 26))]),oI 28 (.app 3 40 (.agg [(.str []),(.str []),(.int .i64 0)]) (.t 25) (.t 27)),oM 6 28] (some [(3,5),(4,5),(3,6),(4,6)]) [6,5,3,0]) (.seq (.seq (.region [oM 29 5,oM 30 0,oI 31 (.len (.t 30)),oI 32 (.bin .lss (.t 29) (.t 31)),oM 33 32,⟨(some 34),(.mov (.t 0)),(some (33,true)),[]⟩,⟨(some 35),(.mov (.t 5)),(some (33,true)),[]⟩,⟨(some 36),(.iaddr 3 (.t 34) (.t 35)),(some (33,true)),[]⟩,⟨(some 37),(.faddr 0 (.t 36)),(some (33,true)),[]⟩,⟨(some 38),(.ld none (.t 37)),(some (33,true)),[]⟩,⟨(some 39),(.faddr 0 (.t 3)),(some (33,true)),[]⟩,⟨(some 40),(.ld none (.t 39)),(some (33,true)),[]⟩,⟨(some 41),(.bin .eql (.t 38) (.t 40)),(some (33,true)),[]⟩,oI 42 (.pick (.t 33) (.t 41) (.c (.bool false))),oM 43 42,⟨(some 44),(.mov (.t 0)),(some (43,true)),[]⟩,⟨(some 45),(.mov (.t 5)),(some (43,true)),[]⟩,⟨(some 46),(.iaddr 3 (.t 44) (.t 45)),(some (43,true)),[]⟩,⟨(some 47),(.faddr 1 (.t 46)),(some (43,true)),[]⟩,⟨(some 48),(.ld none (.t 47)),(some (43,true)),[]⟩,⟨(some 49),(.faddr 1 (.t 3)),(some (43,true)),[]⟩,⟨(some 50),(.ld none (.t 49)),(some (43,true)),[]⟩,⟨(some 51),(.bin .eql (.t 48) (.t 50)),(some (43,true)),[]⟩,oI 52 (.pick (.t 43) (.t 51) (.c (.bool false)))] (some [(7,11),(9,11),(17,21),(19,21)]) [52,6,5,0]) (.cond (.t 52) (.region [oM 53 5,oI 54 (.bin .add (.t 53) (.c (.int .i64 1))),oM 5 54] none [6,5,0]) .skip)) (.seq (.region [oM 55 6,oM 56 0,oM 57 5,oI 58 (.slice 3 (.t 56) (some (.t 57)) none none),oI 59 (.app 3 40 (.agg [(.str []),(.str []),(.int .i64 0)]) (.t 55) (.t 58)),oM 4 59] none [4]) .ret))))
def Zjt:Zd:=ZgD
def Zjj:=xw Zjt ZgD rfl
def Zg9:Zd:=(.seq (.seq (.region [oM 7 5,oM 8 0,oI 9 (.len (.t 8)),oI 10 (.bin .lss (.t 7) (.t 9)),oM 11 10,⟨(some 12),(.mov (.t 0)),(some (11,true)),[]⟩,⟨(some 13),(.mov (.t 5)),(some (11,true)),[]⟩,⟨(some 14),(.iaddr 3 (.t 12) (.t 13)),(some (11,true)),[]⟩,⟨(some 15),(.ld (some 3) (.t 14)),(some (11,true)),[]⟩,⟨(some 16),(.ld (some 3) (.t 3)),(some (11,true)),[]⟩,⟨(some 17),(.call 40 0 true [(.t 15),(.t 16)]),(some (11,true)),[]⟩,oI 18 (.pick (.t 11) (.t 17) (.c (.bool false)))] (some [(7,9),(8,9),(10,10)]) [18,5,3,0]) (.cond (.t 18) .skip (.exit 0))) (.block 1 (.region [oM 19 5,oI 20 (.bin .add (.t 19) (.c (.int .i64 1))),oM 5 20] none [5,3,0])))
def ZkP:Zd:=Zg9
def Znf:=xw ZkP Zg9 rfl
def ZlL:Zd:=(.seq (.region [oI 3 (.box (.t 1)),oI 4 (.mov (.c (.lst true [])))] none [3,0]) (.seq (.region [oI 5 (.mov (.c (.int .i64 0)))] none [5,3,0]) (.seq (.block 0 (.loop [5,3,0] ZkP)) Zjt)))
def Zij:ZN:=⟨[(.tmp 4)],ZlL⟩
theorem ZBh:FC 17=some Zij:=by kernel_rfl
theorem ZyM:Zij.body=ZlL:=rfl
theorem Zj1:Zij.res=[(.tmp 4)]:=rfl
noncomputable def Zhu (m:Nat) (tm:Tms) (σ:Za):Option (AVal×Za):=(ZaC m Zij (Zbf FC PR BY m Zjt (WE (ZaL 0) (evL FC PR BY m [5,3,0] ZkP tm σ))))
def Znd:Zd:=(.seq (.region [oM 42 0,oM 6 42,oI 7 (.mov (.c (.bool false)))] none [7,6]) .ret)
def Znt:Zd:=Znd
def ZBf:=xw Znt Znd rfl
def Zgh:Zd:=(.seq (.seq (.region [oM 10 8,oM 11 0,oI 12 (.len (.t 11)),oI 13 (.bin .lss (.t 10) (.t 12))] none [13,8,2,1,0]) (.cond (.t 13) .skip (.exit 0))) (.seq (.block 1 (.seq (.region [oM 16 0,oM 17 8,oI 18 (.iaddr 3 (.t 16) (.t 17)),oF 19 0 18,oL 20 19,oM 21 1,oI 22 (.bin .eql (.t 20) (.t 21)),oM 23 22,⟨(some 24),(.mov (.t 0)),(some (23,true)),[]⟩,⟨(some 25),(.mov (.t 8)),(some (23,true)),[]⟩,⟨(some 26),(.iaddr 3 (.t 24) (.t 25)),(some (23,true)),[]⟩,⟨(some 27),(.faddr 1 (.t 26)),(some (23,true)),[]⟩,⟨(some 28),(.ld none (.t 27)),(some (23,true)),[]⟩,⟨(some 29),(.mov (.t 2)),(some (23,true)),[]⟩,⟨(some 30),(.bin .eql (.t 28) (.t 29)),(some (23,true)),[]⟩,oI 31 (.pick (.t 23) (.t 30) (.c (.bool false)))] none [31,8,2,1,0]) (.cond (.t 31) (.seq (.region [oI 9 (.mov (.c (.lst true [])))] none [9,8,0]) (.seq (.region [oM 32 9,oM 33 0,oM 34 8,oI 35 (.slice 3 (.t 33) none (some (.t 34)) none),oI 36 (.app 3 40 (.agg [(.str []),(.str []),(.int .i64 0)]) (.t 32) (.t 35)),oM 37 0,oM 38 8,oI 39 (.bin .add (.t 38) (.c (.int .i64 1))),oI 40 (.slice 3 (.t 37) (some (.t 39)) none none),oI 41 (.app 3 40 (.agg [(.str []),(.str []),(.int .i64 0)]) (.t 36) (.t 40)),oM 6 41,oI 7 (.mov (.c (.bool true)))] (some [(3,8),(4,8)]) [7,6]) .ret)) .skip))) (.region [oM 14 8,oI 15 (.bin .add (.t 14) (.c (.int .i64 1))),oM 8 15] none [8,2,1,0])))
def Zmy:Zd:=Zgh
def Ziy:=xw Zmy Zgh rfl
def ZlJ:Zd:=(.seq (.region [oI 6 (.mov (.c (.lst true []))),oI 7 (.mov (.c (.bool false)))] none [2,1,0]) (.seq (.seq (.region [oI 8 (.mov (.c (.int .i64 0)))] none [8,2,1,0]) (.block 0 (.loop [8,2,1,0] Zmy))) Znt))
def Zkn:ZN:=⟨[(.tmp 6),(.tmp 7)],ZlJ⟩
theorem ZyK:FC 19=some Zkn:=by kernel_rfl
theorem ZLo:Zkn.body=ZlJ:=rfl
theorem Zr4:Zkn.res=[(.tmp 6),(.tmp 7)]:=rfl
noncomputable def Zh0 (m:Nat) (tm:Tms) (σ:Za):Option (AVal×Za):=(ZaC m Zkn (Zbf FC PR BY m Znt (WE (ZaL 0) (evL FC PR BY m [8,2,1,0] Zmy tm σ))))
end
section
structure Zl where
 f:List UInt8
 k:List UInt8
 v:Int
 deriving DecidableEq,Inhabited
def Zc (r:Zl):AVal:=.agg [.str r.f,.str r.k,.int .i64 r.v]
def ZcK (a b:Zl):Bool:=decide (a.f < b.f) || (decide (a.f=b.f) && decide (a.k < b.k))
theorem Zph (a b:List UInt8):Op.bytesLess a b=decide (a < b):=Go.Proofs.bytesLess_eq a b
theorem ZD1 (a b:Zl):E 40 [Zc a,Zc b] []=some (.bool (ZcK a b),[]):=by
 obtain ⟨f,k,v⟩:=a
 obtain ⟨f',k',v'⟩:=b
 unfold ZcK Zc
 simp only
 cases h1:Op.bytesLess f f' with
 | true =>
  have e:=h1
  rw [Zph] at e
  rw [e]
  rw [ZQ (by rfl) ZoC]
  simp -implicitDefEqProofs only [EQA,Xj,Xe,Xc,Xk,Z7,Zs,Z4,reduceCtorEq,↓reduceIte,Zof,ZhW,ZnD,h1,AVal.cells]
 | false =>
  have e:=h1
  rw [Zph] at e
  rw [e]
  cases h2:(f == f') with
  | false =>
   have e2:decide (f=f')=false:=by simpa using h2
   rw [e2]
   rw [ZQ (by rfl) ZoC]
   simp -implicitDefEqProofs only [EQA,Xj,Xe,Xc,Xk,Z7,Zs,Z4,unG,reduceCtorEq,↓reduceIte,Zof,ZhW,ZnD,h1,h2,AVal.cells]
  | true =>
   have e2:decide (f=f')=true:=by simpa using h2
   rw [e2,<-Zph]
   rw [ZQ (by rfl) ZoC]
   simp -implicitDefEqProofs only [EQA,Xj,Xe,Xc,Xk,Z7,Zs,unG,reduceCtorEq,↓reduceIte,Zof,ZhW,ZnD,h1,h2,AVal.cells]
theorem ZCH (σ:Za) (sq own:Nat) (view:Bool) (a b:Zl):Zr E BY σ sq 40 own view [.agg [.str a.f,.str a.k,.int .i64 a.v],.agg [.str b.f,.str b.k,.int .i64 b.v]]=some (.bool (ZcK a b),σ,{}) :=
 Za6 (ZD1 a b) (by kernel_rfl) (by simp -implicitDefEqProofs only [Zbe,ZD,eq_self,Zc]) (by simp -implicitDefEqProofs only [Zbe,Zab,ZD,eq_self,Zc]) rfl (fun _=>rfl) _ _ _ _
end
section
theorem ZkN (l:List Zl):kOk 3 (l.map Zc)=true:=by cases l <;> rfl
theorem Zk6 {i y:Nat} (h:i<=y):Zcr (.int .i64 (i:Int)) y=some i:=by
 simp only [Zcr]
 rw [if_pos ⟨by omega,by omega⟩]
 simp
theorem Ztq (σ:Za) (l:List Zl) (j:Nat) (h:j<=l.length):ZbN σ 3 (.lst false (l.map Zc)) none (some (.int .i64 (j:Int))) none=some (.lst false ((l.take j).map Zc),σ,{}):=by
 have hm:(l.map Zc).length=l.length:=by simp
 simp only [ZbN,ZaF,hm,Zk6 h,beq_self_eq_true,Bool.true_or,if_true,Xad,Xg,if_false,Xai,XaF,List.map_take]
theorem Zik (σ:Za) (l:List Zl) (j:Nat) (h:j<=l.length):ZbN σ 3 (.lst false (l.map Zc)) (some (.int .i64 (j:Int))) none none=some (.lst false ((l.drop j).map Zc),σ,{}):=by
 have hm:(l.map Zc).length=l.length:=by simp
 have ht:(l.map Zc).take l.length=l.map Zc:=Wi (by simp)
 simp only [ZbN,ZaF,hm,Zk6 h,ZkN,Xbq,if_true,Xad,Xg,if_false,Xai,ht,List.map_drop]
theorem Zrr {σ:Za} {sq:Nat} (P:List Zl) (hP:P.length<=1000001):Zaz σ sq 3 40 (.lst true []) (.lst false (P.map Zc))=some (.sl sq 0 0 P.length,σ.set sq (.row 0 3 (P.map Zc)),{}):=by
 have hm:(P.map Zc).length=P.length:=by simp
 simp only [Zaz,Zag,ZkN,if_true,hm]
 rw [if_pos (by omega)]
theorem Zlo {σ:Za} {sq t g:Nat} {b:Bool} (P Q:List Zl) (hP:P.length<=1000001) (hQ:Q.length<=1000001) (hs:σ[t]?=some (.row g 3 (P.map Zc))):Zaz σ sq 3 40 (.sl t g 0 P.length) (.lst b (Q.map Zc))=some (.sl t (g+1) 0 (P++Q).length,σ.set t (.row (g+1) 3 ((P++Q).map Zc)),{ wr:=[t] }):=by
 have hm:(P.map Zc).length=P.length:=by simp
 have hm2:(Q.map Zc).length=Q.length:=by simp
 simp only [Zaz,Zag,ZkN,if_true,hm,hm2,hs]
 rw [if_pos ⟨trivial,trivial,trivial,by omega⟩]
 simp
def ZaG (a b:Zl):Bool:=(a.f == b.f) && (a.k == b.k)
def Zb2 (s:Zl):List Zl->Nat
 | []=>0
 | x::r=>if ZcK x s then Zb2 s r+1 else 0
def ZcI (l:List Zl) (s:Zl) (j:Nat):List Zl:=match l[j]? with
 | some x=>if ZaG x s then l.drop (j+1) else l.drop j
 | none=>l.drop j
def putAt (l:List Zl) (s:Zl) (j:Nat):List Zl:=l.take j++s::ZcI l s j
theorem ZsR (l:List Zl) (s:Zl) (hl:l.length<=1000000) (i:Nat) (hi:i<=l.length):ZaC 0 Zij (evC FC PR BY 0 Zjt [(5,.int .i64 (i:Int)),(3,.ref 0 0),(0,.lst false (l.map Zc))] [.var [.str s.f,.str s.k,.int .i64 s.v]])=some (.sl 0 0 0 (putAt l s i).length,[.row 0 3 ((putAt l s i).map Zc)]):=by
 have hm:(l.map Zc).length=l.length:=by simp
 have g1:=fun σ=>Ztq σ l i hi
 have k1:(l.take i).length=i:=by simp;omega
 have A1:=fun {σ:Za} {sq:Nat}=>Zrr (σ:=σ) (sq:=sq) (l.take i) (by omega)
 have A2:=fun {σ:Za} {sq t g:Nat} {b:Bool} hs=>Zlo (b:=b) (σ:=σ) (sq:=sq) (t:=t) (g:=g) (l.take i) [s] (by omega) (by simp) hs
 have k2:(l.take i++[s]).length=i+1:=by simp;omega
 have hz:(ZcI l s i).length<=1000000:=by
  unfold ZcI
  split
  ·split <;> simp <;> omega
  ·simp;omega
 have A3:=fun {σ:Za} {sq t g:Nat} hs=>Zlo (b:=false) (σ:=σ) (sq:=sq) (t:=t) (g:=g) (l.take i++[s]) (ZcI l s i) (by simp;omega) (by omega) hs
 have e2:([s]:List Zl).map Zc=[.agg [.str s.f,.str s.k,.int .i64 s.v]]:=rfl
 have e3:l.take i++[s]++ZcI l s i=putAt l s i:=by simp [putAt]
 rw [k1] at A1 A2
 rw [k2] at A2 A3
 rw [e3] at A3
 rw [e2] at A2
 have hv:∀ σ:Za,viewAs σ [.agg [.str s.f,.str s.k,.int .i64 s.v]]=some ([.agg [.str s.f,.str s.k,.int .i64 s.v]],[]):=fun _=>rfl
 cases hx:l[i]? with
 | none =>
  have h1:¬(i:Int) < l.length:=by have:=List.getElem?_eq_none_iff.1 hx;omega
  have er:ZcI l s i=l.drop i:=by unfold ZcI;rw [hx]
  rw [er] at A3
  have g2:=fun σ=>Zik σ l i hi
  generalize (putAt l s i).length=n at *
  generalize (putAt l s i).map Zc=W at *
  generalize (l.take i++[s]).map Zc=P2 at *
  generalize (l.take i).map Zc=P at *
  generalize (l.drop i).map Zc=Q at *
  generalize l.map Zc=S at *
  simp -implicitDefEqProofs only [EQA,Xj,Xe,Xo,Xc,Xk,Zs,Z4,reduceCtorEq,↓reduceIte,Zj1,Zjj,ZgD,h1,hm,g1,g2,A1,A2,A3,hv,AVal.cells,Zt,Zat,Zay,ZaM,Za9,Zbr,Zbp,ZbA,ZbE,ZaS,WG]
  simp -implicitDefEqProofs only [Zaw,gcA,Zn,Zx,XA,Xp,Xal,X7,XD,XL,Zo,Zi,Zp,ZS,Zg,Zm,Zf,XU,Ze,Zv,Zb,Zu,ZD,ZaH,eq_self,Xo,Xg,ne_eq,reduceCtorEq,↓reduceIte,gcA,Zn,Zi,Ze,Zg,Zv,Zb,Zu,Zm,Zp]
 | some x =>
  have h1:(i:Int) < l.length:=by have:=(Xd.1 hx).1;omega
  have h1n:i < l.length:=(Xd.1 hx).1
  have e1:=iad hx Zc (k:=3) rfl
  have e5:=ZbG h1 (by omega)
  have hc:(Zc x).cells=[.str x.f,.str x.k,.int .i64 x.v]:=rfl
  rw [hc] at e1
  cases hf:(x.f == s.f) with
  | false =>
   have er:ZcI l s i=l.drop i:=by unfold ZcI ZaG;rw [hx];simp [hf]
   rw [er] at A3
   have g2:=fun σ=>Zik σ l i hi
   generalize (putAt l s i).length=n at *
   generalize (putAt l s i).map Zc=W at *
   generalize (l.take i++[s]).map Zc=P2 at *
   generalize (l.take i).map Zc=P at *
   generalize (l.drop i).map Zc=Q at *
   generalize l.map Zc=S at *
   simp -implicitDefEqProofs only [EQA,Xj,Xe,Xo,Xc,Xk,Z7,Zs,Z4,unG,reduceCtorEq,↓reduceIte,Zj1,Zjj,ZgD,h1,hm,e1,hf,g1,g2,A1,A2,A3,hv,AVal.cells,Zt,Zat,Zay,ZaM,Za9,Zbr,Zbp,ZbA,ZbE,ZaS,WG]
   simp -implicitDefEqProofs only [Zaw,gcA,Zn,Zx,XA,Xp,Xal,X7,XD,XL,Zo,Zi,Zp,ZS,Zg,Zm,Zf,XU,Ze,Zv,Zb,Zu,ZD,ZaH,eq_self,Xo,Xg,ne_eq,reduceCtorEq,↓reduceIte,gcA,Zn,Zi,Ze,Zg,Zv,Zb,Zu,Zm,Zp]
  | true =>
   cases hk:(x.k == s.k) with
   | false =>
    have er:ZcI l s i=l.drop i:=by unfold ZcI ZaG;rw [hx];simp [hk]
    rw [er] at A3
    have g2:=fun σ=>Zik σ l i hi
    generalize (putAt l s i).length=n at *
    generalize (putAt l s i).map Zc=W at *
    generalize (l.take i++[s]).map Zc=P2 at *
    generalize (l.take i).map Zc=P at *
    generalize (l.drop i).map Zc=Q at *
    generalize l.map Zc=S at *
    simp -implicitDefEqProofs only [EQA,Xj,Xe,Xo,Xc,Xk,Z7,Zs,unG,reduceCtorEq,↓reduceIte,Zj1,Zjj,ZgD,h1,hm,e1,hf,hk,g1,g2,A1,A2,A3,hv,AVal.cells,Zt,Zat,Zay,ZaM,Za9,Zbr,Zbp,ZbA,ZbE,ZaS,WG]
    simp -implicitDefEqProofs only [Zaw,gcA,Zn,Zx,XA,Xp,Xal,X7,XD,XL,Zo,Zi,Zp,ZS,Zg,Zm,Zf,XU,Ze,Zv,Zb,Zu,ZD,ZaH,eq_self,Xo,Xg,ne_eq,reduceCtorEq,↓reduceIte,gcA,Zn,Zi,Ze,Zg,Zv,Zb,Zu,Zm,Zp]
   | true =>
    have er:ZcI l s i=l.drop (i+1):=by unfold ZcI ZaG;rw [hx];simp [hf,hk]
    rw [er] at A3
    have g2:=fun σ=>Zik σ l (i+1) (by omega)
    generalize (putAt l s i).length=n at *
    generalize (putAt l s i).map Zc=W at *
    generalize (l.take i++[s]).map Zc=P2 at *
    generalize (l.take i).map Zc=P at *
    generalize (l.drop (i+1)).map Zc=Q at *
    generalize l.map Zc=S at *
    simp -implicitDefEqProofs only [EQA,Xj,Xe,Xo,Xc,Xk,Z7,Zs,unG,reduceCtorEq,↓reduceIte,Zj1,Zjj,ZgD,h1,hm,e1,e5,hf,hk,g1,g2,A1,A2,A3,hv,AVal.cells,Zt,Zat,Zay,ZaM,Za9,Zbr,Zbp,ZbA,ZbE,ZaS,WG]
    simp -implicitDefEqProofs only [Zaw,gcA,Zn,Zx,XA,Xp,Xal,X7,XD,XL,Zo,Zi,Zp,ZS,Zg,Zm,Zf,XU,Ze,Zv,Zb,Zu,ZD,ZaH,eq_self,Xo,Xg,ne_eq,reduceCtorEq,↓reduceIte,gcA,Zn,Zi,Ze,Zg,Zv,Zb,Zu,Zm,Zp]
end
section
theorem ZrT {O:ZG} {bf:Nat->Bool} {f:Nat} {args args':List AVal} {r':AVal} (h:Zaj true 0 (O f args' [])=some (r',[])) (hb:bf f=false) (hp:args.all Z6=true) (hn:args.map ZV=args') (hr:∀ sq,Zf (Zaf [] [] sq) r'=r') (σ:Za) (sq own:Nat):Zr O bf σ sq f own true args=some (r',σ,{}):=by
 cases hO:O f args' [] with
 | none =>
  rw [hO] at h
  unfold Zaj at h
  split at h <;> cases h
 | some q =>
  rw [Zol hb hp,hn,h]
  exact ZlO _ _ _ _ (hr _)
end
section
theorem Zs3 (l:List Zl) (s:Zl) (hl:l.length<=1000000):∀ (r:List Zl) (i:Nat),l.drop i=r->i<=l.length ->
  Zhu 0 [(5,.int .i64 (i:Int)),(3,.ref 0 0),(0,.lst false (l.map Zc))] [.var [.str s.f,.str s.k,.int .i64 s.v]]=some (.sl 0 0 0 (putAt l s (i+Zb2 s r)).length,[.row 0 3 ((putAt l s (i+Zb2 s r)).map Zc)])
 | [],i,h,hi=>by
  have h1:=ZcS h
  have hm:(l.map Zc).length=l.length:=by simp
  have hk:=ZsR l s hl i hi
  have e0:i+Zb2 s []=i:=rfl
  rw [e0]
  unfold Zhu
  generalize l.map Zc=S at *
  rw [ZO]
  simp -implicitDefEqProofs only [EQA,Xe,Xc,Xk,Zs,Z4,reduceCtorEq,↓reduceIte,Znf,Zg9,h1,hm]
  exact hk
 | x::r,i,h,hi=>by
  obtain ⟨g1,d1,l1⟩:=Zau h
  have h1:(i:Int) < l.length:=by omega
  have hm:(l.map Zc).length=l.length:=by simp
  have e1:=iad g1 Zc (k:=3) rfl
  have hc:(Zc x).cells=[.str x.f,.str x.k,.int .i64 x.v]:=rfl
  rw [hc] at e1
  have e3:=ZbG h1 (by omega)
  have hq:=fun σ sq own view=>ZCH σ sq own view x s
  cases hx:ZcK x s with
  | true =>
   have ih:=Zs3 l s hl r (i+1) d1 (by omega)
   have e0:i+Zb2 s (x::r)=i+1+Zb2 s r:=by
    show i+(if ZcK x s=true then Zb2 s r+1 else 0)=_
    rw [if_pos hx];omega
   rw [e0]
   rw [hx] at hq
   generalize (putAt l s (i+1+Zb2 s r)).length=n at *
   generalize (putAt l s (i+1+Zb2 s r)).map Zc=W at *
   unfold Zhu at *
   generalize l.map Zc=S at *
   rw [ZO]
   simp -implicitDefEqProofs only [EQA,ZE,ZaH,Xj,Xe,Xo,Xc,Xk,Zs,unG,reduceCtorEq,↓reduceIte,gcT,gcA,Zn,Zi,Ze,Zg,Zv,Zb,Zu,Zm,Zp,Znf,Zg9,h1,hm,e1,e3,hq]
   exact ih
  | false =>
   have hk:=ZsR l s hl i hi
   have e0:i+Zb2 s (x::r)=i:=by
    show i+(if ZcK x s=true then Zb2 s r+1 else 0)=_
    rw [if_neg (by simp [hx])];rfl
   rw [e0]
   rw [hx] at hq
   generalize (putAt l s i).length=n at *
   generalize (putAt l s i).map Zc=W at *
   unfold Zhu at *
   generalize l.map Zc=S at *
   rw [ZO]
   simp -implicitDefEqProofs only [EQA,Xj,Xe,Xo,Xc,Xk,Zs,unG,reduceCtorEq,↓reduceIte,Znf,Zg9,h1,hm,e1,hq]
   exact hk
def ZbW (l:List Zl) (s:Zl):List Zl:=putAt l s (Zb2 s l)
theorem ZDw (l:List Zl) (s:Zl) (hl:l.length<=1000000):E 17 [.lst false (l.map Zc),.agg [.str s.f,.str s.k,.int .i64 s.v]] []=some (.sl 0 0 0 (ZbW l s).length,[.row 0 3 ((ZbW l s).map Zc)]):=by
 have h:=Zs3 l s hl l 0 rfl (XaM _)
 rw [XC] at h
 unfold ZbW
 have z0:((0:Nat):Int)=0:=rfl
 rw [z0] at h
 generalize (putAt l s (Zb2 s l)).length=n at *
 generalize (putAt l s (Zb2 s l)).map Zc=W at *
 unfold Zhu at h
 generalize l.map Zc=S at *
 rw [ZQ (by rfl) ZBh]
 simp -implicitDefEqProofs only [EQA,ZE,ZaH,Xe,Xo,Xc,Xk,reduceCtorEq,↓reduceIte,gcT,gcA,Zn,Zi,Ze,Zg,Zv,Zb,Zu,Zm,Zp,ZyM,ZlL,AVal.cells]
 exact h
theorem ZB9 (l:List Zl) (s:Zl) (hl:l.length<=1000000):Zaj true 0 (E 17 [.lst false (l.map Zc),.agg [.str s.f,.str s.k,.int .i64 s.v]] [])=some (.lst false ((ZbW l s).map Zc),[]):=by
 rw [ZDw l s hl]
 unfold Zaj
 rw [if_pos rfl]
 rw [Zpu (k:=3) (g:=0) (t:=0) (xs:=(ZbW l s).map Zc) rfl (by simp),Wi (by simp)]
theorem ZML (l:List Zl) (b:Bool) (s:Zl) (hl:l.length<=1000000) (σ:Za) (sq own:Nat):Zr E BY σ sq 17 own true [.lst b (l.map Zc),.agg [.str s.f,.str s.k,.int .i64 s.v]]=some (.lst false ((ZbW l s).map Zc),σ,{}) :=
 ZrT (ZB9 l s hl) (by kernel_rfl) rfl rfl (fun _=>rfl) σ sq own
end
section
theorem ZCl (l:List Tx):kOk 1 (l.map AVal.str)=true:=by cases l <;> rfl
theorem ZoQ (σ:Za) (l:Tx) (r:List Tx):ZbN σ 1 (.lst false ((l::r).map AVal.str)) (some (.int .i64 1)) none none=some (.lst false (r.map AVal.str),σ,{}):=by
 have hm:((l::r).map AVal.str).length=r.length+1:=by simp
 have ht:((l::r).map AVal.str).take (r.length+1)=(l::r).map AVal.str:=Wi (by simp)
 have hb:Zcr (.int .i64 1) (r.length+1)=some 1:=Zk6 (i:=1) (by omega)
 simp only [ZbN,ZaF,hm,hb,ZCl,Xbq,if_true,Xad,Xg,if_false,Xai,ht]
 rfl
def Small (ns:List TN):Prop:=∀ (j:Nat) (d:TN),ns[j]?=some d->d.1.length+d.2.length<=1000000
def ZL (k : Tx) : List Tx -> List TN -> Nat -> List TN × Bool
  | [], ns, j => match ns[j]? with
    | some d => (ns.set j (Zav k d.1, d.2), (Zq k d.1).isSome)
    | none => (ns, false)
  | l :: r, ns, j => match ns[j]? with
    | some d => match Zq l d.2 with
      | some i => if (ZL k r ns i).2 then
          match (ZL k r ns i).1[i]?, (ZL k r ns i).1[j]? with
          | some di, some dj => if di.1.length + di.2.length = 0 then ((ZL k r ns i).1.set j (dj.1, Zav l dj.2), true) else ((ZL k r ns i).1, true)
          | _, _ => (ns, false)
        else ((ZL k r ns i).1, false)
      | none => (ns, false)
    | none => (ns, false)
theorem ZhU (k:Tx):∀ (r:List Tx) (ns:List TN) (j:Nat),(ZL k r ns j).1.length=ns.length
 | [],ns,j=>by simp only [ZL];split <;> simp
 | l::r,ns,j=>by
  simp only [ZL]
  split
  ·split
   ·rename_i i hi
    have:=ZhU k r ns i
    split
    ·split
     ·split
      ·simp [this]
      ·exact this
     ·rfl
    ·exact this
   ·rfl
  ·rfl
theorem Zkf {α:Type} {n:Tx} {q:Tx×α}:∀ {M:List (Tx×α)},q ∈ Zav n M->q ∈ M
 | [],h=>h
 | p::M,h=>by
  simp only [Zav] at h
  split at h
  ·exact X9 _ h
  ·rcases XB.1 h with h | h
   ·rw [h];simp
   ·exact X9 _ (Zkf h)
theorem Zhe {α:Type} (n:Tx):∀ M:List (Tx×α),(Zav n M).length<=M.length
 | []=>Xz _
 | p::M=>by
  simp only [Zav]
  split
  ·simp
  ·simp [Zhe n M]
theorem Closed.next1 {ns:List TN} (hC:Closed ns) {j:Nat} {d:TN} (hd:ns[j]?=some d) (l:Tx):Closed (ns.set j (d.1,Zav l d.2)):=by
 have hj:=(Xd.1 hd).1
 intro i d' hi p hp
 rw [Wt]
 rw [Xn] at hi
 by_cases e:j=i
 ·subst e
  rw [if_pos rfl,if_pos hj] at hi
  injection hi with hi
  subst hi
  exact hC _ d hd p (Zkf hp)
 ·rw [if_neg e] at hi
  exact hC i d' hi p hp
theorem Small.set {ns:List TN} (h:Small ns) {j:Nat} {d:TN} (hd:d.1.length+d.2.length<=1000000):Small (ns.set j d):=by
 intro i d' hi
 rw [Xn] at hi
 by_cases e:j=i
 ·rw [if_pos e] at hi
  split at hi
  ·injection hi with hi;subst hi;exact hd
  ·cases hi
 ·rw [if_neg e] at hi;exact h i d' hi
theorem Zuo (k:Tx):∀ (r:List Tx) (ns:List TN) (j:Nat),Small ns->Small (ZL k r ns j).1
 | [],ns,j,h=>by
  simp only [ZL]
  split
  ·rename_i d hd
   refine h.set ?_
   have:=h j d hd
   have:=Zhe k d.1
   simp only;omega
  ·exact h
 | l::r,ns,j,h=>by
  simp only [ZL]
  split
  ·split
   ·rename_i i hi
    have h0:=Zuo k r ns i h
    split
    ·split
     ·rename_i di dj h1 h2
      split
      ·refine h0.set ?_
       have:=h0 j dj h2
       have:=Zhe l dj.2
       simp only;omega
      ·exact h0
     ·exact h
    ·exact h0
   ·exact h
  ·exact h
theorem ZIZ {x y:Nat} (h:x+y<=1000000):IntKind.i64.wrap ((x:Int)+(y:Int))=((x+y:Nat):Int):=by
 rw [Zbx (by omega) (by omega)]
 omega
theorem Zru {A A':ZF} {b:Bool} {S:List AVal} {k:Tx} {j:Nat} (h:E 32 [.nref 0 j 0,.lst false S,.str k] [.arena A]=some (.bool b,[.arena A'])) (hlen:A.length<=A'.length) (hp:(AVal.lst false S::[AVal.str k]).all Z6=true) {σ:Za} {t sq:Nat} (hs:σ[t]?=some (.arena A)) :
  Zr E BY σ sq 32 0 true [.nref t j 0,.lst false S,.str k]=some (.bool b,σ.set t (.arena A'),{ any:=true }) :=
 Zke (q:=.bool b) (r:=.bool b) h (Zsv (Xm rfl) rfl) (by kernel_rfl) hp rfl hs hlen rfl rfl
theorem Zqj (k : Tx) : ∀ (ls : List Tx) (hl : ls.length <= 2000000) (ns : List TN) (hC : Closed ns) (hS : Small ns) (j : Nat) (hj : j < ns.length),
    E 32 [.nref 0 j 0, .lst false (ls.map AVal.str), .str k] [.arena (eNs ns)] = some (.bool (ZL k ls ns j).2, [.arena (eNs (ZL k ls ns j).1)])
  | [], hl, ns, hC, hS, j, hj => by
    obtain ⟨d, hd⟩ : ∃ d, ns[j]? = some d := ⟨_, Xl hj⟩
    have hs : ZY [.arena (eNs ns)] 0 = some (eNs ns) := rfl
    have q1 := ZaV hd
    have q2 := Zm3 hs hd k
    have q3 := Zyc (σ := [.arena (eNs ns)]) (t := 0) rfl hd k
    have e0 : ZL k [] ns j = (ns.set j (Zav k d.1, d.2), (Zq k d.1).isSome) := by simp only [ZL, hd]
    rw [e0]
    have ho := fun σ => ZeG (r := .bool (Zq k d.1).isSome) (Xm rfl) (eNs (ns.set j (Zav k d.1, d.2))) σ
    simp only [WX] at q3
    simp only [List.map_nil]
    generalize eNs (ns.set j (Zav k d.1, d.2)) = B at *
    generalize eN d = D at *
    generalize eNs ns = A at *
    generalize (Zq k d.1).isSome = b at *
    rw [ZQ (by rfl) Zip]
    have hz : (((0 : Nat) : Int) == 0) = true := rfl
    simp -implicitDefEqProofs only [EQA,Zad,Xj,Xe,Xc,reduceCtorEq,↓reduceIte,ZhI,ZfV,Zhv,hs,q1,q2,q3,ho,hz]
  | l :: r, hl, ns, hC, hS, j, hj => by
    obtain ⟨d, hd⟩ : ∃ d, ns[j]? = some d := ⟨_, Xl hj⟩
    have hs : ∀ σ, ZY (.arena (eNs ns) :: σ) 0 = some (eNs ns) := fun _ => rfl
    have q1 := ZaV hd
    have q2 := fun σ => ZdX (hs σ) hd l
    obtain ⟨n, hm, hz⟩ : ∃ n : Nat, ((l :: r).map AVal.str).length = n /\ ((n : Int) == 0) = false := ⟨r.length + 1, by simp, by simp; omega⟩
    have g0 : ((l :: r).map AVal.str)[0]? = some (.str l) := rfl
    have g1 := fun σ => ZoQ σ l r
    have hcell : (AVal.str l).cells = [.str l] := rfl
    cases hk : Zq l d.2 with
    | none =>
      have e0 : ZL k (l :: r) ns j = (ns, false) := by simp only [ZL, hd, hk]
      rw [e0]
      simp only [hk, nxV] at q2
      have ho := fun σ => ZeG (r := .bool false) (Xm rfl) (eNs ns) σ
      generalize (l :: r).map AVal.str = S at *
      generalize r.map AVal.str = S1 at *
      generalize eN d = D at *
      generalize eNs ns = A at *
      rw [ZQ (by rfl) Zip]
      simp -implicitDefEqProofs only [EQA,Zad,Xj,Xe,Xc,Xk,Zs,Z4,reduceCtorEq,↓reduceIte,ZhI,ZfV,Zhv,hs,hm,hz,g0,q1,q2,ho,Zbd,XaO,Ws,AVal.cells]
    | some i =>
      have hc := hC.next hd hk
      simp only [hk, nxV] at q2
      have ih := Zqj k r (by simp only [XE] at hl; omega) ns hC hS i hc.2
      have hl1 := ZhU k r ns i
      have hS1 := Zuo k r ns i hS
      have e1 : ZL k (l :: r) ns j = if (ZL k r ns i).2 then
          match (ZL k r ns i).1[i]?, (ZL k r ns i).1[j]? with
          | some di, some dj => if di.1.length + di.2.length = 0 then ((ZL k r ns i).1.set j (dj.1, Zav l dj.2), true) else ((ZL k r ns i).1, true)
          | _, _ => (ns, false)
        else ((ZL k r ns i).1, false) := by simp only [ZL, hd, hk]
      rw [e1]
      generalize (ZL k r ns i).1 = ns1 at *
      generalize (ZL k r ns i).2 = b at *
      have hcall := fun {σ : Za} {sq : Nat} hs => Zru (σ := σ) (t := 0) (sq := sq) ih (by rw [Ze7, Ze7, hl1]; exact Xz _) (by simp [Z6, Zan]) hs
      cases b with
      | false =>
        simp only [Xg, if_false]
        have ho := fun σ => ZeG (r := .bool false) (Xm rfl) (eNs ns1) σ
        generalize (l :: r).map AVal.str = S at *
        generalize r.map AVal.str = S1 at *
        generalize eN d = D at *
        generalize eNs ns = A at *
        generalize eNs ns1 = A1 at *
        rw [ZQ (by rfl) Zip]
        simp -implicitDefEqProofs only [EQA,Zad,Xj,Xe,Xc,Xk,unA,Zs,unG,reduceCtorEq,↓reduceIte,ZhI,ZfV,Zhv,hs,hm,hz,g0,g1,q1,q2,ho,hcall,Zbd,XaO,Ws,AVal.cells]
      | true =>
        obtain ⟨di, hdi⟩ : ∃ d, ns1[i]? = some d := ⟨_, Xl (by rw [hl1]; exact hc.2)⟩
        obtain ⟨dj, hdj⟩ : ∃ d, ns1[j]? = some d := ⟨_, Xl (by rw [hl1]; exact hj)⟩
        simp only [if_true, hdi, hdj]
        have hsm := hS1 i di hdi
        have hs1 : ∀ σ, ZY (.arena (eNs ns1) :: σ) 0 = some (eNs ns1) := fun _ => rfl
        have p1 := ZaV hdi
        have p2 := ZaV hdj
        have p3 := fun σ => ZC3 (hs1 σ) hdi
        have p4 := fun σ => Zx6 (hs1 σ) hdi
        have p5 := ZCE (σ := [.arena (eNs ns1)]) (t := 0) rfl hdj l
        have w := ZIZ (x := di.1.length) (y := di.2.length) (by omega)
        have ho := fun σ => ZeG (r := .bool true) (Xm rfl) (eNs ns1) σ
        have ho2 := fun σ => ZeG (r := .bool true) (Xm rfl) (eNs (ns1.set j (dj.1, Zav l dj.2))) σ
        simp only [WX] at p5
        by_cases h0 : di.1.length + di.2.length = 0
        . rw [if_pos h0]
          rw [h0] at w
          have hz0 : (((0 : Nat) : Int) == 0) = true := rfl
          generalize (l :: r).map AVal.str = S at *
          generalize r.map AVal.str = S1 at *
          generalize eN d = D at *
          generalize eN di = D1 at *
          generalize eN dj = D2 at *
          generalize eNs (ns1.set j (dj.1, Zav l dj.2)) = A2 at *
          generalize eNs ns = A at *
          generalize eNs ns1 = A1 at *
          generalize di.1.length = x at *
          generalize di.2.length = y at *
          rw [ZQ (by rfl) Zip]
          simp -implicitDefEqProofs only [EQA,Zad,Xj,Xe,Xc,Xk,unA,Zs,unG,reduceCtorEq,↓reduceIte,ZhI,ZfV,Zhv,hs,hs1,hm,hz,g0,g1,q1,q2,p1,p2,p3,p4,p5,w,hz0,ho2,hcall,Zbd,XaO,Ws,AVal.cells,Zat,Zay,ZaM,Za9,Zbr,Zbp,ZbA,ZbE,ZaS]
        . rw [if_neg h0]
          have hw : (((di.1.length + di.2.length : Nat) : Int) == 0) = false := by simp; omega
          generalize di.1.length + di.2.length = z at *
          generalize (l :: r).map AVal.str = S at *
          generalize r.map AVal.str = S1 at *
          generalize eN d = D at *
          generalize eN di = D1 at *
          generalize eN dj = D2 at *
          generalize eNs (ns1.set j (dj.1, Zav l dj.2)) = A2 at *
          generalize eNs ns = A at *
          generalize eNs ns1 = A1 at *
          generalize di.1.length = x at *
          generalize di.2.length = y at *
          rw [ZQ (by rfl) Zip]
          simp -implicitDefEqProofs only [EQA,Zad,Xj,Xe,Xc,Xk,unA,Zs,unG,reduceCtorEq,↓reduceIte,ZhI,ZfV,Zhv,hs,hs1,hm,hz,g0,g1,q1,q2,p1,p3,p4,w,hw,ho,hcall,Zbd,XaO,Ws,AVal.cells]
end
section
theorem Zsf {σ:Za} {sq t g n:Nat} {q:Bag} {x:Zl} (hs:σ[t]?=some (.bag g 3 q)) (hn:n=Zy q) (hb:n<=1000000):Zaz σ sq 3 40 (.sl t g 0 n) (.lst true [Zc x])=some (.sl t (g+1) 0 (n+1),σ.set t (.bag (g+1) 3 (ZaA q [Zc x])),{ wr:=[t] }):=by
 simp only [Zaz,Zag,hs]
 rw [if_pos (by rfl),if_pos ⟨trivial,trivial,trivial,by simp;omega,hn⟩]
 rfl
theorem ZrW {σ:Za} {sq:Nat} {x:Zl}:Zaz σ sq 3 40 (.lst true []) (.lst true [Zc x])=some (.sl sq 0 0 1,σ.set sq (.row 0 3 [Zc x]),{}):=by
 simp only [Zaz,Zag]
 rfl
theorem Zxt (x:Zl):E 35 [.str x.f,.str x.k,.int .i64 x.v,.ref 0 0] [.var [.lst true []]]=some (.tup [],[.var [.sl 1 0 0 1],.row 0 3 [Zc x]]):=by
 have A:=fun {σ:Za} {sq:Nat}=>ZrW (σ:=σ) (sq:=sq) (x:=x)
 have hv:∀ σ:Za,viewAs σ [.agg [.str x.f,.str x.k,.int .i64 x.v]]=some ([.agg [.str x.f,.str x.k,.int .i64 x.v]],[]):=fun _=>rfl
 have hr:Zc x=.agg [.str x.f,.str x.k,.int .i64 x.v]:=rfl
 rw [hr] at A ⊢
 rw [ZQ (by rfl) Zq7]
 simp -implicitDefEqProofs only [EQA,Zey,ZbK,Xj,Xe,Xo,Xc,Xk,reduceCtorEq,↓reduceIte,ZaB,Zqv,ZkD,ZsF,A,hv,ZcB,ZJ,Zt,AVal.cells]
 rfl
theorem ZvM (x:Zl) (q:Bag) (n:Nat) (hn:n=Zy q) (hb:n<=1000000):E 35 [.str x.f,.str x.k,.int .i64 x.v,.ref 0 0] [.var [.sl 1 0 0 n],.bag 0 3 q]=some (.tup [],[.var [.sl 1 1 0 (n+1)],.bag 1 3 (ZaA q [Zc x])]):=by
 have A:=fun {σ:Za} {sq t g:Nat} hs=>Zsf (σ:=σ) (sq:=sq) (t:=t) (g:=g) (x:=x) hs hn hb
 have hv:∀ σ:Za,viewAs σ [.agg [.str x.f,.str x.k,.int .i64 x.v]]=some ([.agg [.str x.f,.str x.k,.int .i64 x.v]],[]):=fun _=>rfl
 have hr:Zc x=.agg [.str x.f,.str x.k,.int .i64 x.v]:=rfl
 rw [hr] at A ⊢
 generalize ZaA q [.agg [.str x.f,.str x.k,.int .i64 x.v]]=q2 at *
 rw [ZQ (by rfl) Zq7]
 simp -implicitDefEqProofs only [EQA,Zey,Xj,Xe,Xo,Xc,Xk,reduceCtorEq,↓reduceIte,Zqv,ZkD,ZsF,A,hv,ZcB,ZJ,Zt,AVal.cells]
 rfl
theorem ZqJ (x:Zl) {σ:Za} {t sq:Nat} (hs:σ[t]?=some (.var [.lst true []])) (hff:Zai σ sq 4=true) (hne:t≠sq):Zr E BY σ sq 35 4 false [.str x.f,.str x.k,.int .i64 x.v,.ref t 0]=some (.tup [],(σ.set t (.var [.sl sq 0 0 1])).set sq (.row 0 3 [Zc x]),{ any:=true,upd:=[(t,[.sl sq 0 0 1])] }):=by
 have htl:t < σ.length:=(Xd.1 hs).1
 have h1:σ.getD t .free=.var [.lst true []]:=by simp [Xf,hs]
 have hre:Zi σ 1000 [t] []=[t]:=by
  simp only [Zi,XU,Xg,if_false,h1,Zp,Zx,ZS,Xp,XA]
 have hρ:Ze σ 0 [t] t 0=some (0,0):=by simp [Ze,Zv,hs,Zb,Zu]
 have hvs:Zo (Ze σ 0 [t]) [.str x.f,.str x.k,.int .i64 x.v,.ref t 0]=[.str x.f,.str x.k,.int .i64 x.v,.ref 0 0]:=by
  simp only [Zo,Zf,hρ]
 have hh:Zg σ 0 [t] (Ze σ 0 [t]) [t] 0=[.var [.lst true []]]:=by simp only [Zg,h1,Zm,Zo,Zf]
 have hall:([t].all fun t=>okB (σ.getD t .free))=true:=by simp only [X8,WC,h1,okB,Wm]
 have hk:Z5 σ [t] [.var [.sl 1 0 0 1],.row 0 3 [Zc x]] 0=true:=by simp [Z5,okB,Za1,Zb,hs]
 have hlay:ZW σ [t] sq [.var [.sl 1 0 0 1],.row 0 3 [Zc x]] 0 σ=(σ.set t (.var [.sl sq 0 0 1])).set sq (.row 0 3 [Zc x]):=by
  simp [ZW,ZT,ZaP,Zaf,Zb,Zm,Zo,Zf]
 refine Zb7 (r:=.tup []) (view:=false) (by kernel_rfl) rfl hre rfl hall hvs hh (Zxt x) rfl (by simp) (by simp) hk hff rfl hlay ?_
 have h3:((σ.set t (.var [.sl sq 0 0 1])).set sq (.row 0 3 [Zc x]))[t]?=some (.var [.sl sq 0 0 1]):=by
  rw [Xs (fun e=>hne e.symm),XF htl]
 simp [ZaK,h3]
theorem Zp1 (x:Zl) {σ:Za} {t r g n sq:Nat} {q:Bag} (hs:σ[t]?=some (.var [.sl r g 0 n])) (hq:σ[r]?=some (.bag g 3 q)) (hn:n=Zy q) (hb:n<=1000000) (hg:g < 1000) (hff:Zai σ sq 4=true) :
  Zr E BY σ sq 35 4 false [.str x.f,.str x.k,.int .i64 x.v,.ref t 0]=some (.tup [],(σ.set t (.var [.sl r (g+1) 0 (n+1)])).set r (.bag (g+1) 3 (ZaA q [Zc x])),{ any:=true,upd:=[(t,[.sl r (g+1) 0 (n+1)])] }):=by
 have htl:t < σ.length:=(Xd.1 hs).1
 have hne:t≠r:=by rintro rfl;rw [hs] at hq;cases hq
 have h1:σ.getD t .free=.var [.sl r g 0 n]:=by simp [Xf,hs]
 have h2:σ.getD r .free=.bag g 3 q:=by simp [Xf,hq]
 have hg':¬1000<=g:=by omega
 have hre:Zi σ 1000 [t] []=[t,r]:=by
  have e1:([t]:List Nat).contains r=false:=by simp;exact fun e=>hne e.symm
  simp only [Zi,XU,Xg,if_false,h1,Zp,Zx,ZS,Xp,XA,e1,h2,XaP]
 have hρ:Ze σ 0 [t,r] t 0=some (0,0):=by simp [Ze,Zv,hs,Zb,Zu]
 have hρ2:Ze σ 0 [t,r] r g=some (1,0):=by simp [Ze,Zv,hq,Zb,Zu,hne,hg']
 have hvs:Zo (Ze σ 0 [t,r]) [.str x.f,.str x.k,.int .i64 x.v,.ref t 0]=[.str x.f,.str x.k,.int .i64 x.v,.ref 0 0]:=by
  simp only [Zo,Zf,hρ]
 have hh:Zg σ 0 [t,r] (Ze σ 0 [t,r]) [t,r] 0=[.var [.sl 1 0 0 n],.bag 0 3 q]:=by
  simp [Zg,hs,hq,Zm,Zo,Zf,hρ2,Zu,Zb,hg']
 have hall:([t,r].all fun t=>okB (σ.getD t .free))=true:=by simp only [X8,WC,h1,h2,okB,Wm]
 have hk:Z5 σ [t,r] [.var [.sl 1 1 0 (n+1)],.bag 1 3 (ZaA q [Zc x])] 0=true:=by simp [Z5,okB,Za1,Zb,hs,hq,hg']
 have hlay:ZW σ [t,r] sq [.var [.sl 1 1 0 (n+1)],.bag 1 3 (ZaA q [Zc x])] 0 σ=(σ.set t (.var [.sl r (g+1) 0 (n+1)])).set r (.bag (g+1) 3 (ZaA q [Zc x])):=by
  simp [ZW,ZT,ZaP,Zaf,Zb,Zm,Zo,Zf,hq,hg',Xf]
 refine Zb7 (r:=.tup []) (view:=false) (by kernel_rfl) rfl hre rfl hall hvs hh (ZvM x q n hn hb) rfl (by simp) (by simp) hk hff rfl hlay ?_
 have h3:((σ.set t (.var [.sl r (g+1) 0 (n+1)])).set r (.bag (g+1) 3 (ZaA q [Zc x])))[t]?=some (.var [.sl r (g+1) 0 (n+1)]):=by
  rw [Xs (fun e=>hne e.symm),XF htl]
 have h4:∃ b,((σ.set t (.var [.sl r (g+1) 0 (n+1)])).set r (.bag (g+1) 3 (ZaA q [Zc x])))[r]?=some (.bag b 3 (ZaA q [Zc x])):=⟨g+1,by
  rw [XF (by simpa using (Xd.1 hq).1)]⟩
 obtain ⟨b,h4⟩:=h4
 simp [ZaK,h3,h4]
end
section
theorem ZjN {bf:Nat->Bool} {m:Nat} {live:List Nat} {ms en b1:Nat} {bg:Bool} {ent:List AOp} {run fin:Nat->Tms->Za->Option (ZA×Tms×Za)} {tm tm0:Tms} {σ σ0:Za} {t:Nat} {B:Zk} {es:List (AVal×AVal)} {out:ZA×Tms×Za} (hh:ZcW m live ms tm σ=some (t,B,es,tm0,σ0))
  (hall:∀ es':List (AVal×AVal),es'.Perm es->Zbi bf m live ms en b1 bg ent run fin es es' tm σ=some out):Zb1 bf m live ms en b1 bg ent run fin tm σ=some out:=by
 unfold Zb1
 rw [hh]
 match es,hh,hall with
 | [],hh,hall =>
  have h:=hall [] (XaG _)
  obtain ⟨h1,h2,_⟩:=Zj7 hh
  simp only [Zbi,ZaT,ZdE,h1,h2] at h
  exact h
 | [kv],hh,hall =>
  have h:=hall [kv] (XaG _)
  simp only [Zbi,ZaT,hh,if_true] at h
  simp only
  cases hr:ZaE bf ms en b1 bg ent run t B kv tm0 σ0 with
  | none=>rw [hr] at h;cases h
  | some q=>rw [hr] at h;exact h
 | a::b::r,hh,hall=>exact Zlg.2 hall
theorem Zjb {α:Type} {β:Type} (enc:α->β) (dec:β->α) (hd:∀ a,dec (enc a)=a) {M:List α} {es:List β} (h:es.Perm (M.map enc)):∃ l:List α,l.Perm M/\es=l.map enc:=by
 refine ⟨es.map dec,?_,?_⟩
 ·have:=h.map dec
  rw [Wb] at this
  have e:dec ∘ enc=id:=by funext a;exact hd a
  rw [e,List.map_id] at this
  exact this
 ·rw [Wb]
  have : es.map (enc ∘ dec)=es.map id:=by
   apply List.map_congr_left
   intro p hp
   obtain ⟨a,_,rfl⟩:=Xv.1 (h.mem_iff.1 hp)
   simp [hd]
  rw [this,List.map_id]
end
section
def ZH (p l:Tx):Tx:=if p=[0] then l else p++[47]++l
theorem Zwo (p l:Tx) (hb:p.length+l.length<=1000000000000):E 48 [.str p,.str l] []=some (.str (ZH p l),[]):=by
 unfold ZH
 by_cases h:p=[0]
 ·subst h
  rw [if_pos rfl]
  rw [ZQ (by rfl) Zsx]
  simp -implicitDefEqProofs only [EQA,ZbK,Xe,Xc,Z7,reduceCtorEq,↓reduceIte,Zui,Zkr,ZrD]
 ·have h1:(p == [0])=false:=by simpa using h
  rw [if_neg h]
  have b1:p.length<=9223372036854775806:=by omega
  have b2:(p++[47]).length+l.length<=9223372036854775807:=by simp;omega
  rw [ZQ (by rfl) Zsx]
  simp -implicitDefEqProofs only [EQA,Xe,Xo,Xc,Z7,reduceCtorEq,↓reduceIte,Zui,Zkr,h1,b1]
  generalize p++[47]=w at *
  simp -implicitDefEqProofs only [EQA,ZbK,Xe,Xc,↓reduceIte,ZrD,b2]
theorem ZfY (σ:Za) (sq own:Nat) (view:Bool) (p l:Tx) (hb:p.length+l.length<=1000000000000):Zr E BY σ sq 48 own view [.str p,.str l]=some (.str (ZH p l),σ,{}) :=
 Za6 (Zwo p l hb) (by kernel_rfl) rfl rfl rfl (fun _=>rfl) σ sq own view
def hM (B:Zk) (s:Option Bag) (g:Nat):Za:=match s with
 | none=>[B,.var [.lst true []]]
 | some q=>[B,.var [.sl 2 g 0 (Zy q)],.bag g 3 q]
def ZB (s:Option Bag) (R:List AVal):Option Bag:=match R with
 | []=>s
 | x::r=>match s with
  | none=>some (WZ _ (x::r))
  | some q=>some (ZaA q (x::r))
def vT1 (i j:Nat) (b:Bool) (S:List AVal) (p:Tx):Tms:=[(31,.mapg 0 i false),(4,.fn 35 [.ref 1 0]),(3,.bool b),(2,.lst false S),(1,.str p),(0,.nref 0 j 0)]
def ZgE:List AOp:=[oI 36 (.ext (.t 35) 0),oI 37 (.ext (.t 35) 1),oM 11 36,oM 12 37]
noncomputable abbrev Zg0 (A:ZF):=ZaE BY 31 35 1 true ZgE (fun m'=>evC FC PR BY m' ZhZ) 0 (.arena A)
theorem ZFJ (A:ZF) (i j:Nat) (b:Bool) (S:List AVal) (p k:Tx) (v:Int) (hb:p.length+1<=1000000000000):(Zg0 A (.str k,.int .i64 v) (vT1 i j b S p) (hM (.arena A) none 0)).map (fun q=>(keepL [31,4,3,2,1,0] q.1,q.2)) =
  some (vT1 i j b S p,[.arena A,.var [.sl 2 0 0 1],.bag 0 3 (WZ _ [Zc ⟨ZH p [35],k,v⟩]),.free,.free,.free]):=by
 have hq:=fun σ sq own view=>ZfY σ sq own view p [35] hb
 have hc:=fun {σ:Za} {t sq:Nat} h1 h2 h3=>ZqJ (σ:=σ) (t:=t) (sq:=sq) ⟨ZH p [35],k,v⟩ h1 h2 h3
 simp only at hc
 generalize Zc ⟨ZH p [35],k,v⟩=x at *
 unfold Zg0 ZaE vT1 hM ZgE
 simp -implicitDefEqProofs only [EQA,Xj,Xe,Xc,Xk,reduceCtorEq,↓reduceIte,ZuI,ZjR,hq,hc,ZaU,roB,Zbv,Zbj,ZbM,Zby,Zbl,Zbc,Zai,WA,Xz]
theorem ZjM (q:Bag) (ys:List AVal):Zy (ZaA q ys)=Zy q+ys.length:=by
 obtain ⟨xs,rfl⟩:=Xa3 q
 show (xs++ys).length=_
 rw [List.length_append];rfl
theorem Zwl (A:ZF) (i j:Nat) (b:Bool) (S:List AVal) (p k:Tx) (v:Int) (hb:p.length+1<=1000000000000) (q:Bag) (g:Nat) (hg:g < 1000) (hq0:Zy q<=1000000) :
  (Zg0 A (.str k,.int .i64 v) (vT1 i j b S p) (hM (.arena A) (some q) g)).map (fun q=>(keepL [31,4,3,2,1,0] q.1,q.2)) =
  some (vT1 i j b S p,[.arena A,.var [.sl 2 (g+1) 0 (Zy q+1)],.bag (g+1) 3 (ZaA q [Zc ⟨ZH p [35],k,v⟩]),.free,.free,.free,.free]):=by
 have hq:=fun σ sq own view=>ZfY σ sq own view p [35] hb
 have hc:=fun {σ:Za} {t r g n sq:Nat} {q:Bag} h1 h2 h3 h4 h5 h6=>Zp1 (σ:=σ) (t:=t) (r:=r) (g:=g) (n:=n) (sq:=sq) (q:=q) ⟨ZH p [35],k,v⟩ h1 h2 h3 h4 h5 h6
 simp only at hc
 generalize Zc ⟨ZH p [35],k,v⟩=x at *
 simp only [hM]
 have hc2:=fun {σ:Za} {sq:Nat} h1 h2 h6=>hc (σ:=σ) (t:=1) (r:=2) (g:=g) (n:=Zy q) (q:=q) (sq:=sq) h1 h2 rfl hq0 hg h6
 generalize ZaA q [x]=q2 at *
 generalize Zy q=n at *
 clear hc
 unfold Zg0 ZaE vT1 ZgE
 simp -implicitDefEqProofs only [EQA,Xj,Xe,Xc,Xk,reduceCtorEq,↓reduceIte,ZuI,ZjR,hq,hc2,ZaU,roB,Zbv,Zbj,ZbM,Zby,Zbl,Zbc,Zai,WA,Xz]
theorem ZHf (A:ZF) (i j:Nat) (b:Bool) (S:List AVal) (p:Tx) (q:Bag):gcT 2 (vT1 i j b S p) [.arena A,.var [.sl 2 0 0 (Zy q)],.bag 0 3 q,.free,.free,.free]=(vT1 i j b S p,hM (.arena A) (some q) 0):=by
 unfold vT1 hM
 simp -implicitDefEqProofs only [ZcA,ZE,ZD,eq_self,Xj,Xe,Xo,Xc,Xk,beq_self_eq_true,Xg,ne_eq,reduceCtorEq,↓reduceIte,gcT,gcA,Zn,Zi,Ze,Zg,Zv,Zb,Zu,Zm,Zp,XO,X6,gcT,gcA,Zn,ZC,ZaR,Zdj,ZcV]
theorem ZvR (A:ZF) (i j:Nat) (b:Bool) (S:List AVal) (p:Tx) (q:Bag) (g:Nat) (hg:g < 999):gcT 3 (vT1 i j b S p) [.arena A,.var [.sl 2 (g+1) 0 (Zy q)],.bag (g+1) 3 q,.free,.free,.free,.free]=(vT1 i j b S p,hM (.arena A) (some q) 1):=by
 have h1:(1000<=g+1)=False:=by simp;omega
 unfold vT1 hM
 simp -implicitDefEqProofs only [ZcA,ZE,ZD,eq_self,Xj,Xe,Xo,Xc,Xk,beq_self_eq_true,Xg,ne_eq,reduceCtorEq,↓reduceIte,gcT,gcA,Zn,Zi,Ze,Zg,Zv,Zb,Zu,Zm,Zp,XO,X6,gcT,gcA,Zn,ZC,h1,ZaR,Zdj,ZcV]
theorem Zvp (A:ZF) (i j:Nat) (b:Bool) (S:List AVal) (p:Tx) (q:Bag) (g:Nat) (hg:g < 999):gcT 2 (vT1 i j b S p) [.arena A,.var [.sl 2 (g+1) 0 (Zy q)],.bag (g+1) 3 q,.free,.free,.free,.free]=(vT1 i j b S p,hM (.arena A) (some q) 0):=by
 have h1:(1000<=g+1)=False:=by simp;omega
 unfold vT1 hM
 simp -implicitDefEqProofs only [ZcA,ZE,ZD,eq_self,Xj,Xe,Xo,Xc,Xk,beq_self_eq_true,Xg,ne_eq,reduceCtorEq,↓reduceIte,gcT,gcA,Zn,Zi,Ze,Zg,Zv,Zb,Zu,Zm,Zp,XO,X6,gcT,gcA,Zn,ZC,h1,ZaR,Zdj,ZcV]
end
section
def okS (m:Nat) (s:Option Bag) (g:Nat):Prop:=(m=2/\g=0)\/(m=3/\s≠none/\g<=1)
def ZbB (m:Nat):Nat:=if m=2 then 0 else 1
def Za3:Option Bag->Nat
 | none=>0
 | some q=>Zy q
theorem Zfj (s:Option Bag) (R:List AVal):Za3 (ZB s R)=Za3 s+R.length:=by
 cases R with
 | nil=>rfl
 | cons x R =>
  cases s with
  | none=>simp only [ZB,Za3,XC];rfl
  | some q=>simp only [ZB,Za3,ZjM]
theorem ZuH (s:Option Bag) (x:AVal) (R:List AVal):ZB (ZB s [x]) R=ZB s (x::R):=by
 cases R with
 | nil=>rfl
 | cons y R =>
  cases s with
  | none=>rfl
  | some q =>
   obtain ⟨xs,rfl⟩:=Xa3 q
   show some (WZ _ ((xs++[x])++(y::R)))=some (WZ _ (xs++(x::y::R)))
   rw [Xaj];rfl
theorem ZgR (s:Option Bag) (R R':List AVal):ZB (ZB s R) R'=ZB s (R++R'):=by
 cases R' with
 | nil=>rw [XA];rfl
 | cons y R' =>
  cases R with
  | nil=>rfl
  | cons x R =>
   cases s with
   | none=>rfl
   | some q =>
    obtain ⟨xs,rfl⟩:=Xa3 q
    show some (WZ _ ((xs++(x::R))++(y::R')))=some (WZ _ (xs++(x::R++(y::R'))))
    rw [Xaj]
theorem Zi8 (s:Option Bag) {R R':List AVal} (h:R.Perm R'):ZB s R=ZB s R':=by
 cases R with
 | nil=>rw [h.symm.eq_nil]
 | cons x R =>
  cases R' with
  | nil=>exact absurd h.eq_nil (by simp)
  | cons y R' =>
   cases s with
   | none=>simp only [ZB];congr 1;exact XbO h
   | some q =>
    obtain ⟨xs,rfl⟩:=Xa3 q
    simp only [ZB]
    congr 1
    exact XbO (List.Perm.append_left xs h)
theorem ZiL {m:Nat} {s:Option Bag} {g:Nat} (h:okS m s g) (R:List AVal):okS m (ZB s R) (ZbB m):=by
 rcases h with ⟨rfl,_⟩ | ⟨rfl,h,_⟩
 ·exact Xm ⟨rfl,rfl⟩
 ·refine Xr ⟨rfl,?_,Xz _⟩
  cases R with
  | nil=>exact h
  | cons x R=>cases s <;> simp [ZB]
theorem ZgB {m:Nat} {s:Option Bag} {g:Nat} (h:okS m s g):g < 999:=by
 rcases h with ⟨_,h⟩ | ⟨_,_,h⟩ <;> omega
section
variable (A:ZF) (i j:Nat) (b:Bool) (S:List AVal) (p:Tx) (hp:p.length+1<=1000000000000)
include hp
theorem ZKk {m:Nat} {s:Option Bag} {g:Nat} (ho:okS m s g) (hsz:Za3 s<=1000000) (k:Tx) (v:Int) :
  ∃ tm' σ',Zg0 A (.str k,.int .i64 v) (vT1 i j b S p) (hM (.arena A) s g)=some (tm',σ')/\gcT m (keepL [31,4,3,2,1,0] tm') σ'=(vT1 i j b S p,hM (.arena A) (ZB s [Zc ⟨ZH p [35],k,v⟩]) (ZbB m)):=by
 cases s with
 | none =>
  rcases ho with ⟨rfl,rfl⟩ | ⟨_,h,_⟩
  ·obtain ⟨⟨tm',σ'⟩,h1,h2⟩:=Xh.1 (ZFJ A i j b S p k v hp)
   simp only [Xb] at h2
   refine ⟨tm',σ',h1,?_⟩
   rw [h2.1,h2.2]
   exact ZHf A i j b S p (WZ _ [Zc ⟨ZH p [35],k,v⟩])
  ·exact absurd rfl h
 | some q =>
  have hg:=ZgB ho
  obtain ⟨⟨tm',σ'⟩,h1,h2⟩:=Xh.1 (Zwl A i j b S p k v hp q g (by omega) hsz)
  simp only [Xb] at h2
  refine ⟨tm',σ',h1,?_⟩
  have hn:Zy q+1=Zy (ZaA q [Zc ⟨ZH p [35],k,v⟩]):=by rw [ZjM];rfl
  rw [h2.1,h2.2,hn]
  rcases ho with ⟨rfl,_⟩ | ⟨rfl,_,_⟩
  ·exact Zvp A i j b S p (ZaA q [Zc ⟨ZH p [35],k,v⟩]) g hg
  ·exact ZvR A i j b S p (ZaA q [Zc ⟨ZH p [35],k,v⟩]) g hg
end
theorem Znl (n:Nat) (M:List (Tx×Int)):((eV M).all fun p=>ZeR n p.2)=true:=by
 rw [List.all_eq_true]
 unfold eV
 intro p hp
 obtain ⟨x,_,rfl⟩:=Xv.1 hp
 rfl
def Za7 (p:Tx) (M:List (Tx×Int)):List AVal:=M.map fun q=>Zc ⟨p,q.1,q.2⟩
section
variable (ns:List TN) (i j:Nat) (d:TN) (hd:ns[i]?=some d) (b:Bool) (S:List AVal) (p:Tx) (hp:p.length+1<=1000000000000)
include hd
theorem vh1 {m g:Nat} {s:Option Bag} {tm:Tms} {σ:Za} (h:gcT m (keepL [31,4,3,2,1,0] tm) σ=(vT1 i j b S p,hM (.arena (eNs ns)) s g)) :
  ZcW m [31,4,3,2,1,0] 31 tm σ=some (0,.arena (eNs ns),eV d.1,vT1 i j b S p,hM (.arena (eNs ns)) s g):=by
 have h1:ZdG (hM (.arena (eNs ns)) s g) (tget (vT1 i j b S p) 31)=some (0,.arena (eNs ns),eV d.1):=by
  rw [show tget (vT1 i j b S p) 31=.mapg 0 i false from rfl]
  have h0:(hM (.arena (eNs ns)) s g)[0]?=some (.arena (eNs ns)):=by cases s <;> rfl
  simp only [ZdG,h0,ZaV hd]
  rfl
 unfold ZcW
 rw [h]
 simp only [h1]
 rw [if_pos (Znl _ d.1)]
noncomputable abbrev Zle:Nat->Tms->Za->Option (ZA×Tms×Za):=fun m'=>evC FC PR BY m' ZhZ
include hp
theorem vf1 {m:Nat}:∀ (r:List (Tx×Int)) (s:Option Bag) (g:Nat) (tm:Tms) (σ:Za),okS m s g->Za3 s+r.length<=1000000->gcT m (keepL [31,4,3,2,1,0] tm) σ=(vT1 i j b S p,hM (.arena (eNs ns)) s g) ->
  ∃ tm' σ',ZaT BY m [31,4,3,2,1,0] 31 35 1 true ZgE Zle (eV d.1) (eV r) tm σ=some (tm',σ')/\gcT m (keepL [31,4,3,2,1,0] tm') σ'=(vT1 i j b S p,hM (.arena (eNs ns)) (ZB s (Za7 (ZH p [35]) r)) (if r=[] then g else ZbB m))
 | [],s,g,tm,σ,ho,hb,h=>⟨tm,σ,rfl,by rw [if_pos rfl];exact h⟩
 | (k,v)::r,s,g,tm,σ,ho,hb,h=>by
  simp only [XE] at hb
  obtain ⟨tm1,σ1,h1,h2⟩:=ZKk (eNs ns) i j b S p hp ho (by omega) k v
  obtain ⟨tm',σ',h3,h4⟩:=vf1 r (ZB s [Zc ⟨ZH p [35],k,v⟩]) (ZbB m) tm1 σ1 (ZiL ho _) (by rw [Zfj];simp only [Wz];omega) h2
  refine ⟨tm',σ',?_,?_⟩
  ·rw [show eV ((k,v)::r)=(.str k,.int .i64 v)::eV r from rfl]
   simp only [ZaT,vh1 ns i j d hd b S p h,if_true]
   unfold Zg0 at h1
   rw [h1]
   exact h3
  ·have e:(if r=[] then ZbB m else ZbB m)=ZbB m:=by split <;> rfl
   rw [h4,ZuH,e,if_neg (List.cons_ne_nil _ _)]
   rfl
theorem vx1 {m:Nat} {s:Option Bag} {g:Nat} {tm:Tms} {σ:Za} {fin:Nat->Tms->Za->Option (ZA×Tms×Za)} {out:ZA×Tms×Za} (ho:okS m s g) (hb:Za3 s+d.1.length<=1000000) (h:gcT m (keepL [31,4,3,2,1,0] tm) σ=(vT1 i j b S p,hM (.arena (eNs ns)) s g))
  (hfin:fin m (vT1 i j b S p) (hM (.arena (eNs ns)) (ZB s (Za7 (ZH p [35]) d.1)) (if d.1=[] then g else ZbB m))=some out):Zb1 BY m [31,4,3,2,1,0] 31 35 1 true ZgE Zle fin tm σ=some out:=by
 refine ZjN (vh1 ns i j d hd b S p h) fun es' hp2=>?_
 obtain ⟨l,hl,rfl⟩:=Zjb (fun p:Tx×Int=>(AVal.str p.1,AVal.int .i64 p.2)) (fun q=>(match q.1 with | .str s=>s | _=>[],match q.2 with | .int _ v=>v | _=>0)) (fun a=>rfl) hp2
 obtain ⟨tm',σ',h1,h2⟩:=vf1 ns i j d hd b S p hp l s g tm σ ho (by rw [hl.length_eq];exact hb) h
 have e1:ZB s (Za7 (ZH p [35]) l)=ZB s (Za7 (ZH p [35]) d.1):=Zi8 s (hl.map _)
 have e2:(if l=[] then g else ZbB m)=(if d.1=[] then g else ZbB m):=by
  by_cases hz:l=[]
  ·have : d.1=[]:=by rw [hz] at hl;exact hl.symm.eq_nil
   rw [if_pos hz,if_pos this]
  ·have : ¬d.1=[]:=fun e=>hz (by rw [e] at hl;exact hl.eq_nil)
   rw [if_neg hz,if_neg this]
 unfold Zbi
 rw [show l.map (fun p:Tx×Int=>(AVal.str p.1,AVal.int .i64 p.2))=eV l from rfl,h1]
 simp only [ZdE]
 rw [h2,e1,e2]
 exact hfin
end
end
section
def vT2 (j:Nat) (p:Tx):Tms:=[(50,.mapg 0 j false),(4,.fn 35 [.ref 1 0]),(1,.str p)]
def Zfx:List AOp:=[oI 55 (.ext (.t 54) 0),oI 56 (.ext (.t 54) 1),oM 13 55,oM 14 56]
noncomputable abbrev Zgx (A:ZF):=ZaE BY 50 54 3 true Zfx (fun m'=>evC FC PR BY m' ZiP) 0 (.arena A)
theorem ZKG (A:ZF) (j:Nat) (p k:Tx) (v:Int):(Zgx A (.str k,.int .i64 v) (vT2 j p) (hM (.arena A) none 0)).map (fun q=>(keepL [50,4,1] q.1,q.2)) =
  some (vT2 j p,[.arena A,.var [.sl 2 0 0 1],.bag 0 3 (WZ _ [Zc ⟨p,k,v⟩]),.free,.free,.free]):=by
 have hc:=fun {σ:Za} {t sq:Nat} h1 h2 h3=>ZqJ (σ:=σ) (t:=t) (sq:=sq) ⟨p,k,v⟩ h1 h2 h3
 simp only at hc
 generalize Zc ⟨p,k,v⟩=x at *
 unfold Zgx ZaE vT2 hM Zfx
 simp -implicitDefEqProofs only [EQA,Xj,Xe,Xc,Xk,↓reduceIte,Zrd,ZjU,hc,ZaU,roB,Zbv,Zbj,ZbM,Zby,Zbl,Zbc,Zai,WA,Xz]
theorem ZKY (A:ZF) (j:Nat) (p k:Tx) (v:Int) (q:Bag) (g:Nat) (hg:g < 1000) (hq0:Zy q<=1000000) :
  (Zgx A (.str k,.int .i64 v) (vT2 j p) (hM (.arena A) (some q) g)).map (fun q=>(keepL [50,4,1] q.1,q.2)) =
  some (vT2 j p,[.arena A,.var [.sl 2 (g+1) 0 (Zy q+1)],.bag (g+1) 3 (ZaA q [Zc ⟨p,k,v⟩]),.free,.free,.free,.free]):=by
 have hc:=fun {σ:Za} {t r g n sq:Nat} {q:Bag} h1 h2 h3 h4 h5 h6=>Zp1 (σ:=σ) (t:=t) (r:=r) (g:=g) (n:=n) (sq:=sq) (q:=q) ⟨p,k,v⟩ h1 h2 h3 h4 h5 h6
 simp only at hc
 generalize Zc ⟨p,k,v⟩=x at *
 simp only [hM]
 have hc2:=fun {σ:Za} {sq:Nat} h1 h2 h6=>hc (σ:=σ) (t:=1) (r:=2) (g:=g) (n:=Zy q) (q:=q) (sq:=sq) h1 h2 rfl hq0 hg h6
 generalize ZaA q [x]=q2 at *
 generalize Zy q=n at *
 clear hc
 unfold Zgx ZaE vT2 Zfx
 simp -implicitDefEqProofs only [EQA,Xj,Xe,Xc,Xk,↓reduceIte,Zrd,ZjU,hc2,ZaU,roB,Zbv,Zbj,ZbM,Zby,Zbl,Zbc,Zai,WA,Xz]
theorem ZDs (A:ZF) (j:Nat) (p:Tx) (q:Bag):gcT 2 (vT2 j p) [.arena A,.var [.sl 2 0 0 (Zy q)],.bag 0 3 q,.free,.free,.free]=(vT2 j p,hM (.arena A) (some q) 0):=by
 unfold vT2 hM
 simp -implicitDefEqProofs only [ZcA,ZE,ZD,eq_self,Xj,Xe,Xo,Xc,Xk,beq_self_eq_true,Xg,ne_eq,reduceCtorEq,↓reduceIte,gcT,gcA,Zn,Zi,Ze,Zg,Zv,Zb,Zu,Zm,Zp,XO,X6,gcT,gcA,Zn,ZC,ZaR,ZcV]
theorem Zyh (A:ZF) (j:Nat) (p:Tx) (q:Bag) (g:Nat) (hg:g < 999):gcT 3 (vT2 j p) [.arena A,.var [.sl 2 (g+1) 0 (Zy q)],.bag (g+1) 3 q,.free,.free,.free,.free]=(vT2 j p,hM (.arena A) (some q) 1):=by
 have h1:(1000<=g+1)=False:=by simp;omega
 unfold vT2 hM
 simp -implicitDefEqProofs only [ZcA,ZE,ZD,eq_self,Xj,Xe,Xo,Xc,Xk,beq_self_eq_true,Xg,ne_eq,reduceCtorEq,↓reduceIte,gcT,gcA,Zn,Zi,Ze,Zg,Zv,Zb,Zu,Zm,Zp,XO,X6,gcT,gcA,Zn,ZC,h1,ZaR,ZcV]
theorem ZzW (A:ZF) (j:Nat) (p:Tx) (q:Bag) (g:Nat) (hg:g < 999):gcT 2 (vT2 j p) [.arena A,.var [.sl 2 (g+1) 0 (Zy q)],.bag (g+1) 3 q,.free,.free,.free,.free]=(vT2 j p,hM (.arena A) (some q) 0):=by
 have h1:(1000<=g+1)=False:=by simp;omega
 unfold vT2 hM
 simp -implicitDefEqProofs only [ZcA,ZE,ZD,eq_self,Xj,Xe,Xo,Xc,Xk,beq_self_eq_true,Xg,ne_eq,reduceCtorEq,↓reduceIte,gcT,gcA,Zn,Zi,Ze,Zg,Zv,Zb,Zu,Zm,Zp,XO,X6,gcT,gcA,Zn,ZC,h1,ZaR,ZcV]
end
section
section
variable (A:ZF) (j:Nat) (p:Tx)
theorem ZEI {m:Nat} {s:Option Bag} {g:Nat} (ho:okS m s g) (hsz:Za3 s<=1000000) (k:Tx) (v:Int) :
  ∃ tm' σ',Zgx A (.str k,.int .i64 v) (vT2 j p) (hM (.arena A) s g)=some (tm',σ')/\gcT m (keepL [50,4,1] tm') σ'=(vT2 j p,hM (.arena A) (ZB s [Zc ⟨p,k,v⟩]) (ZbB m)):=by
 cases s with
 | none =>
  rcases ho with ⟨rfl,rfl⟩ | ⟨_,h,_⟩
  ·obtain ⟨⟨tm',σ'⟩,h1,h2⟩:=Xh.1 (ZKG A j p k v)
   simp only [Xb] at h2
   refine ⟨tm',σ',h1,?_⟩
   rw [h2.1,h2.2]
   exact ZDs A j p (WZ _ [Zc ⟨p,k,v⟩])
  ·exact absurd rfl h
 | some q =>
  have hg:=ZgB ho
  obtain ⟨⟨tm',σ'⟩,h1,h2⟩:=Xh.1 (ZKY A j p k v q g (by omega) hsz)
  simp only [Xb] at h2
  refine ⟨tm',σ',h1,?_⟩
  have hn:Zy q+1=Zy (ZaA q [Zc ⟨p,k,v⟩]):=by rw [ZjM];rfl
  rw [h2.1,h2.2,hn]
  rcases ho with ⟨rfl,_⟩ | ⟨rfl,_,_⟩
  ·exact ZzW A j p (ZaA q [Zc ⟨p,k,v⟩]) g hg
  ·exact Zyh A j p (ZaA q [Zc ⟨p,k,v⟩]) g hg
end
section
variable (ns:List TN) (j:Nat) (d:TN) (hd:ns[j]?=some d) (p:Tx)
include hd
theorem vh2 {m g:Nat} {s:Option Bag} {tm:Tms} {σ:Za} (h:gcT m (keepL [50,4,1] tm) σ=(vT2 j p,hM (.arena (eNs ns)) s g)) :
  ZcW m [50,4,1] 50 tm σ=some (0,.arena (eNs ns),eV d.1,vT2 j p,hM (.arena (eNs ns)) s g):=by
 have h1:ZdG (hM (.arena (eNs ns)) s g) (tget (vT2 j p) 50)=some (0,.arena (eNs ns),eV d.1):=by
  rw [show tget (vT2 j p) 50=.mapg 0 j false from rfl]
  have h0:(hM (.arena (eNs ns)) s g)[0]?=some (.arena (eNs ns)):=by cases s <;> rfl
  simp only [ZdG,h0,ZaV hd]
  rfl
 unfold ZcW
 rw [h]
 simp only [h1]
 rw [if_pos (Znl _ d.1)]
noncomputable abbrev ZjK:Nat->Tms->Za->Option (ZA×Tms×Za):=fun m'=>evC FC PR BY m' ZiP
theorem vf2 {m:Nat}:∀ (r:List (Tx×Int)) (s:Option Bag) (g:Nat) (tm:Tms) (σ:Za),okS m s g->Za3 s+r.length<=1000000->gcT m (keepL [50,4,1] tm) σ=(vT2 j p,hM (.arena (eNs ns)) s g) ->
  ∃ tm' σ',ZaT BY m [50,4,1] 50 54 3 true Zfx ZjK (eV d.1) (eV r) tm σ=some (tm',σ')/\gcT m (keepL [50,4,1] tm') σ'=(vT2 j p,hM (.arena (eNs ns)) (ZB s (Za7 p r)) (if r=[] then g else ZbB m))
 | [],s,g,tm,σ,ho,hb,h=>⟨tm,σ,rfl,by rw [if_pos rfl];exact h⟩
 | (k,v)::r,s,g,tm,σ,ho,hb,h=>by
  simp only [XE] at hb
  obtain ⟨tm1,σ1,h1,h2⟩:=ZEI (eNs ns) j p ho (by omega) k v
  obtain ⟨tm',σ',h3,h4⟩:=vf2 r (ZB s [Zc ⟨p,k,v⟩]) (ZbB m) tm1 σ1 (ZiL ho _) (by rw [Zfj];simp only [Wz];omega) h2
  refine ⟨tm',σ',?_,?_⟩
  ·rw [show eV ((k,v)::r)=(.str k,.int .i64 v)::eV r from rfl]
   simp only [ZaT,vh2 ns j d hd p h,if_true]
   unfold Zgx at h1
   rw [h1]
   exact h3
  ·have e:(if r=[] then ZbB m else ZbB m)=ZbB m:=by split <;> rfl
   rw [h4,ZuH,e,if_neg (List.cons_ne_nil _ _)]
   rfl
theorem vx2 {m:Nat} {s:Option Bag} {g:Nat} {tm:Tms} {σ:Za} {fin:Nat->Tms->Za->Option (ZA×Tms×Za)} {out:ZA×Tms×Za} (ho:okS m s g) (hb:Za3 s+d.1.length<=1000000) (h:gcT m (keepL [50,4,1] tm) σ=(vT2 j p,hM (.arena (eNs ns)) s g))
  (hfin:fin m (vT2 j p) (hM (.arena (eNs ns)) (ZB s (Za7 p d.1)) (if d.1=[] then g else ZbB m))=some out):Zb1 BY m [50,4,1] 50 54 3 true Zfx ZjK fin tm σ=some out:=by
 refine ZjN (vh2 ns j d hd p h) fun es' hp2=>?_
 obtain ⟨l,hl,rfl⟩:=Zjb (fun p:Tx×Int=>(AVal.str p.1,AVal.int .i64 p.2)) (fun q=>(match q.1 with | .str s=>s | _=>[],match q.2 with | .int _ v=>v | _=>0)) (fun a=>rfl) hp2
 obtain ⟨tm',σ',h1,h2⟩:=vf2 ns j d hd p l s g tm σ ho (by rw [hl.length_eq];exact hb) h
 have e1:ZB s (Za7 p l)=ZB s (Za7 p d.1):=Zi8 s (hl.map _)
 have e2:(if l=[] then g else ZbB m)=(if d.1=[] then g else ZbB m):=by
  by_cases hz:l=[]
  ·have : d.1=[]:=by rw [hz] at hl;exact hl.symm.eq_nil
   rw [if_pos hz,if_pos this]
  ·have : ¬d.1=[]:=fun e=>hz (by rw [e] at hl;exact hl.eq_nil)
   rw [if_neg hz,if_neg this]
 unfold Zbi
 rw [show l.map (fun p:Tx×Int=>(AVal.str p.1,AVal.int .i64 p.2))=eV l from rfl,h1]
 simp only [ZdE]
 rw [h2,e1,e2]
 exact hfin
end
end
section
def vS (b:Bool) (S:List AVal) (p:Tx) (j:Nat):Tms:=[(4,.fn 35 [.ref 1 0]),(3,.bool b),(2,.lst false S),(1,.str p),(0,.nref 0 j 0)]
def ZZ {α:Type} (m g:Nat) (M:List α):Nat:=match M with
 | []=>g
 | _::_=>ZbB m
theorem ZuW {α:Type} (m g:Nat) (M:List α) [Decidable (M=[])]:(if M=[] then g else ZbB m)=ZZ m g M:=by
 cases M with
 | nil=>simp [ZZ]
 | cons=>simp [ZZ]
theorem gc2 {m:Nat} {s:Option Bag} {g:Nat} (ho:okS m s g) (A:ZF) (j:Nat) (p:Tx):gcT m (vT2 j p) (hM (.arena A) s g)=(vT2 j p,hM (.arena A) s g):=by
 rcases ho with ⟨rfl,rfl⟩ | ⟨rfl,h,hg⟩
 ·cases s with
  | none =>
   unfold vT2 hM
   simp -implicitDefEqProofs only [ZcA,ZE,ZD,eq_self,Xe,Xo,Xk,beq_self_eq_true,Xg,ne_eq,reduceCtorEq,↓reduceIte,gcT,gcA,Zn,Zi,Ze,Zg,Zv,Zb,Zu,Zm,Zp,XO,X6,gcT,gcA,Zn,ZC,ZaR,ZcV]
  | some q =>
   unfold vT2 hM
   simp -implicitDefEqProofs only [ZcA,ZE,ZD,eq_self,Xj,Xe,Xo,Xc,Xk,beq_self_eq_true,Xg,ne_eq,reduceCtorEq,↓reduceIte,gcT,gcA,Zn,Zi,Ze,Zg,Zv,Zb,Zu,Zm,Zp,XO,X6,gcT,gcA,Zn,ZC,ZaR,ZcV]
 ·cases s with
  | none=>exact absurd rfl h
  | some q =>
   have : g=0\/g=1:=by omega
   rcases this with rfl | rfl
   ·unfold vT2 hM
    simp -implicitDefEqProofs only [ZcA,ZE,ZD,eq_self,Xj,Xe,Xo,Xc,Xk,beq_self_eq_true,Xg,ne_eq,reduceCtorEq,↓reduceIte,gcT,gcA,Zn,Zi,Ze,Zg,Zv,Zb,Zu,Zm,Zp,XO,X6,gcT,gcA,Zn,ZC,ZaR,ZcV]
   ·unfold vT2 hM
    simp -implicitDefEqProofs only [ZcA,ZE,ZD,eq_self,Xj,Xe,Xo,Xc,Xk,beq_self_eq_true,Xg,ne_eq,reduceCtorEq,↓reduceIte,gcT,gcA,Zn,Zi,Ze,Zg,Zv,Zb,Zu,Zm,Zp,XO,X6,gcT,gcA,Zn,ZC,ZaR,ZcV]
section
variable {m:Nat} {s:Option Bag} {g:Nat} (ns:List TN) (j:Nat) (d:TN) (hd:ns[j]?=some d) (b:Bool) (p:Tx) (ho:okS m s g)
include hd ho
theorem ZEy (hb:Za3 s+d.1.length<=1000000) (X Y:AVal) (pre:Tms) (hpre:pre=[(31,X)]\/pre=[(27,.bool false),(10,Y)]) :
  evC FC PR BY m Zie (pre++vS b [] p j) (hM (.arena (eNs ns)) s g)=some (.ret,vT2 j p,hM (.arena (eNs ns)) (ZB s (Za7 p d.1)) (ZZ m g d.1)):=by
 have hs:ZY (hM (.arena (eNs ns)) s g) 0=some (eNs ns):=by cases s <;> rfl
 have q1:=ZaV hd
 have hz:(((0:Nat):Int) == 0)=true:=rfl
 have hrun:=fun tm σ h=>vx2 ns j d hd p (m:=m) (s:=s) (g:=g) (tm:=tm) (σ:=σ) (fin:=fun m'=>evC FC PR BY m' ZlP) (out:=(.ret,vT2 j p,hM (.arena (eNs ns)) (ZB s (Za7 p d.1)) (ZZ m g d.1))) ho hb h (by rw [ZuW];simp -implicitDefEqProofs only [ZtG,eq_self,ZlP,Zp9])
 have hg:=gc2 ho (eNs ns) j p
 unfold vS
 generalize hM (.arena (eNs ns)) (ZB s (Za7 p d.1)) (ZZ m g d.1)=H2 at *
 generalize hM (.arena (eNs ns)) s g=H at *
 generalize eN d=D at *
 generalize eNs ns=A at *
 rcases hpre with rfl | rfl
 ·rw [ZiK]
  unfold Zgr
  simp only [XH,Xp]
  simp -implicitDefEqProofs only [EQA,Zad,Xe,Xc,reduceCtorEq,↓reduceIte,ZhN,ZaU,Zfp,hs,q1,hz]
  have h5:=hrun [(50,.mapg 0 j false),(49,.nref 0 j 0),(48,.nref 0 j 0),(47,.nref 0 j 0),(46,.bool true),(4,.fn 35 [.ref 1 0]),(3,.bool b),(2,.lst false []),(1,.str p),(0,.nref 0 j 0)] H hg
  unfold ZjK at h5
  simp only [Zfx,oI,oM,oF,oL] at h5
  rw [h5]
  rfl
 ·rw [ZiK]
  unfold Zgr
  simp only [XH,Xp]
  simp -implicitDefEqProofs only [EQA,Zad,Xe,Xc,reduceCtorEq,↓reduceIte,ZhN,ZaU,Zfp,hs,q1,hz]
  have h5:=hrun [(50,.mapg 0 j false),(49,.nref 0 j 0),(48,.nref 0 j 0),(47,.nref 0 j 0),(46,.bool true),(4,.fn 35 [.ref 1 0]),(3,.bool b),(2,.lst false []),(1,.str p),(0,.nref 0 j 0)] H hg
  unfold ZjK at h5
  simp only [Zfx,oI,oM,oF,oL] at h5
  rw [h5]
  rfl
theorem ZMr (S:List AVal) (hS:((S.length:Int) == 0)=false) (X Y:AVal) (pre:Tms) (hpre:pre=[(31,X)]\/pre=[(27,.bool false),(10,Y)]) (out:ZA×Tms×Za) (h:evC FC PR BY m Zj3 ((46,.bool false)::vS b S p j) (hM (.arena (eNs ns)) s g)=some out) :
  evC FC PR BY m Zie (pre++vS b S p j) (hM (.arena (eNs ns)) s g)=some out:=by
 unfold vS at *
 generalize hM (.arena (eNs ns)) s g=H at *
 rcases hpre with rfl | rfl
 ·rw [ZiK]
  unfold Zgr
  simp only [XH,Xp]
  simp -implicitDefEqProofs only [EQA,Xe,Xc,reduceCtorEq,↓reduceIte,hS]
  exact h
 ·rw [ZiK]
  unfold Zgr
  simp only [XH,Xp]
  simp -implicitDefEqProofs only [EQA,Xe,Xc,reduceCtorEq,↓reduceIte,hS]
  exact h
end
end
section
def Fr (A:ZF) (s:Option Bag) (r g:Nat) (σ:Za):Prop:=σ[0]?=some (.arena A)/\match s with
 | none=>σ[1]?=some (.var [.lst true []])
 | some q=>σ[1]?=some (.var [.sl r g 0 (Zy q)])/\σ[r]?=some (.bag g 3 q)/\2<=r/\g < 900
theorem ZlY {A:ZF} {s:Option Bag} {g:Nat} (hg:g < 900):Fr A s 2 g (hM (.arena A) s g):=by
 cases s with
 | none=>exact ⟨rfl,rfl⟩
 | some q=>exact ⟨rfl,rfl,rfl,Xz _,hg⟩
theorem Zdu {σ:Za} {t:Nat} {x:Zk} (h:σ[t]?=some x):σ.set t x=σ:=by
 apply List.ext_getElem?
 intro i
 by_cases e:t=i
 ·subst e;rw [XF (Xd.1 h).1,h]
 ·rw [Xs e]
abbrev Zb8 (i:Nat) (p:Tx) (S:List AVal):List AVal:=[.nref 0 i 0,.str p,.lst false S,.bool false,.fn 35 [.ref 1 0]]
section
variable {A:ZF} {i:Nat} {p:Tx} {S:List AVal} {σ:Za} {sq:Nat}
theorem ZKr (h0:σ[0]?=some (.arena A)) (h1:σ[1]?=some (.var [.lst true []])) (hff:Zai σ sq 1=true) (hne:2<=sq) (hS:Zx S=[]) {s':Option Bag} (hE:E 34 (Zb8 i p S) (hM (.arena A) none 0)=some (.tup [],hM (.arena A) s' 0)) :
  ∃ σ' c,Zr E BY σ sq 34 1 false (Zb8 i p S)=some (.tup [],σ',c)/\Fr A s' sq 0 σ'/\σ'.length=σ.length/\∀ k:Nat,k≠sq->σ[k]?=some Zk.free->σ'[k]?=some Zk.free:=by
 have hl0:0 < σ.length:=(Xd.1 h0).1
 have hl1:1 < σ.length:=(Xd.1 h1).1
 have g0:σ.getD 0 .free=.arena A:=by simp [Xf,h0]
 have g1:σ.getD 1 .free=.var [.lst true []]:=by simp [Xf,h1]
 have href:Zx (Zb8 i p S)=[0,1]:=rfl
 have hre:Zi σ 1000 (Zx (Zb8 i p S)) []=[0,1]:=by
  rw [href]
  simp only [Zi,XU,Xg,if_false,g0,g1,Zp,Zx,ZS,Xp,XA,XO,XaP,Xk,WA]
 have hρ:Ze σ 0 [0,1] 0 (1001+3*i)=some (0,1001+3*i):=ZdQ (j:=0) h0 rfl (by omega)
 have hρ1:Ze σ 0 [0,1] 1 0=some (1,0):=by simp [Ze,Zv,h1,Zb,Zu]
 have hvs:Zo (Ze σ 0 [0,1]) (Zb8 i p S)=Zb8 i p S:=by
  simp only [Zb8,Zo,Zf,hρ,hρ1,if_true]
 have hh:Zg σ 0 [0,1] (Ze σ 0 [0,1]) [0,1] 0=hM (.arena A) none 0:=by
  simp only [Zg,g0,g1,Zm,Zo,Zf];rfl
 have hall:([0,1].all fun t=>okB (σ.getD t .free))=true:=by simp only [X8,WC,g0,g1,okB,Wm]
 cases s' with
 | none =>
  have hk:Z5 σ [0,1] (hM (.arena A) none 0) 0=true:=by simp [hM,Z5,okB,Za1,Zb,h0,h1]
  refine ⟨σ,_,Zb7 (r:=.tup []) (r':=.tup []) (view:=false) (by kernel_rfl) rfl hre rfl hall hvs hh hE rfl (by simp [hM]) (by simp [hM]) hk hff rfl (σ':=σ) ?_ rfl,⟨h0,h1⟩,rfl,fun k _ h=>h⟩
  simp only [hM,ZW,ZT,XD,XL,Zm,Zo,Zf]
  rw [Zdu h0,Zdu h1]
 | some q =>
  have hsl:sq < σ.length:=by
   have:=Zes (i:=0) hff (by omega)
   exact (Xd.1 (by simpa using this)).1
  have hk:Z5 σ [0,1] (hM (.arena A) (some q) 0) 0=true:=by simp [hM,Z5,okB,Za1,Zb,h0,h1]
  have hlay:ZW σ [0,1] sq (hM (.arena A) (some q) 0) 0 σ=(σ.set 1 (.var [.sl sq 0 0 (Zy q)])).set sq (.bag 0 3 q):=by
   simp only [hM,ZW,ZT,XD,XL,Zm,Zo]
   rw [Zdu h0]
   simp [ZaP,Zaf,Zf,Zb,Xf]
  have h3:((σ.set 1 (.var [.sl sq 0 0 (Zy q)])).set sq (.bag 0 3 q))[1]?=some (.var [.sl sq 0 0 (Zy q)]):=by
   rw [Xs (by omega),XF hl1]
  have h4:((σ.set 1 (.var [.sl sq 0 0 (Zy q)])).set sq (.bag 0 3 q))[0]?=some (.arena A):=by
   rw [Xs (by omega),Xs (by omega)];exact h0
  refine ⟨_,_,Zb7 (r:=.tup []) (r':=.tup []) (view:=false) (by kernel_rfl) rfl hre rfl hall hvs hh hE rfl (by simp [hM]) (by simp [hM]) hk hff rfl hlay rfl,⟨h4,h3,?_,hne,by omega⟩,by simp,fun k hk1 hk2=>?_⟩
  ·rw [XF (by simpa using hsl)]
  ·have : k≠1:=by rintro rfl;rw [h1] at hk2;cases hk2
   rw [Xs (fun e=>hk1 e.symm),Xs (fun e=>this e.symm)]
   exact hk2
theorem ZwK {r g:Nat} {q q':Bag} {g':Nat} (h0:σ[0]?=some (.arena A)) (h1:σ[1]?=some (.var [.sl r g 0 (Zy q)])) (h2:σ[r]?=some (.bag g 3 q)) (hr:2<=r) (hg:g < 900) (hg':g'<=1) (hff:Zai σ sq 1=true) (hE:E 34 (Zb8 i p S) (hM (.arena A) (some q) 0)=some (.tup [],hM (.arena A) (some q') g')) :
  ∃ σ' c,Zr E BY σ sq 34 1 false (Zb8 i p S)=some (.tup [],σ',c)/\(σ'[0]?=some (.arena A)/\σ'[1]?=some (.var [.sl r (g+g') 0 (Zy q')])/\σ'[r]?=some (.bag (g+g') 3 q'))/\σ'.length=σ.length/\∀ k:Nat,σ[k]?=some Zk.free->σ'[k]?=some Zk.free:=by
 have hl0:0 < σ.length:=(Xd.1 h0).1
 have hl1:1 < σ.length:=(Xd.1 h1).1
 have hlr:r < σ.length:=(Xd.1 h2).1
 have g0:σ.getD 0 .free=.arena A:=by simp [Xf,h0]
 have g1:σ.getD 1 .free=.var [.sl r g 0 (Zy q)]:=by simp [Xf,h1]
 have g2:σ.getD r .free=.bag g 3 q:=by simp [Xf,h2]
 have n0:¬r=0:=by omega
 have n1:¬r=1:=by omega
 have n0':¬0=r:=by omega
 have n1':¬1=r:=by omega
 have ng:¬1000<=g:=by omega
 have href:Zx (Zb8 i p S)=[0,1]:=rfl
 have hre:Zi σ 1000 (Zx (Zb8 i p S)) []=[0,1,r]:=by
  rw [href]
  have c2:([0,1]:List Nat).contains r=false:=by simp [n0,n1]
  simp only [Zi,XU,Xg,if_false,g0,g1,g2,c2,Zp,Zx,ZS,Xp,XA,XO,XH,Xk,WA,Bool.or_false]
 have hρ:Ze σ 0 [0,1,r] 0 (1001+3*i)=some (0,1001+3*i):=ZdQ (j:=0) h0 rfl (by omega)
 have hρ1:Ze σ 0 [0,1,r] 1 0=some (1,0):=by simp [Ze,Zv,h1,Zb,Zu]
 have hρ2:Ze σ 0 [0,1,r] r g=some (2,0):=by simp [Ze,Zv,h2,Zb,Zu,n0',n1',ng]
 have hvs:Zo (Ze σ 0 [0,1,r]) (Zb8 i p S)=Zb8 i p S:=by
  simp only [Zb8,Zo,Zf,hρ,hρ1,if_true]
 have hh:Zg σ 0 [0,1,r] (Ze σ 0 [0,1,r]) [0,1,r] 0=hM (.arena A) (some q) 0:=by
  simp [Zg,h0,h1,h2,Zm,Zo,Zf,hρ2,Zu,Zb,ng,hM,Xf]
 have hall:([0,1,r].all fun t=>okB (σ.getD t .free))=true:=by simp only [X8,WC,g0,g1,g2,okB,Wm]
 have hk:Z5 σ [0,1,r] (hM (.arena A) (some q') g') 0=true:=by simp [hM,Z5,okB,Za1,Zb,h0,h1,h2,ng,hg']
 have hlay:ZW σ [0,1,r] sq (hM (.arena A) (some q') g') 0 σ=(σ.set 1 (.var [.sl r (g+g') 0 (Zy q')])).set r (.bag (g+g') 3 q'):=by
  simp only [hM,ZW,ZT,XD,XL,Zm,Zo]
  rw [Zdu h0]
  simp [ZaP,Zaf,Zf,Zb,h2,ng,Xf]
 refine ⟨_,_,Zb7 (r:=.tup []) (r':=.tup []) (view:=false) (by kernel_rfl) rfl hre rfl hall hvs hh hE rfl (by simp [hM]) (by simp [hM]) hk hff rfl hlay rfl,⟨?_,?_,?_⟩,by simp,fun k hk2=>?_⟩
 ·rw [Xs n0,Xs (by omega)];exact h0
 ·rw [Xs n1,XF hl1]
 ·rw [XF (by simpa using hlr)]
 ·have e1:k≠1:=by rintro rfl;rw [h1] at hk2;cases hk2
  have e2:k≠r:=by rintro rfl;rw [h2] at hk2;cases hk2
  rw [Xs (fun e=>e2 e.symm),Xs (fun e=>e1 e.symm)]
  exact hk2
def dR:List AVal->Nat
 | []=>0
 | _::_=>1
def Zhq (s:Option Bag) (g:Nat) (R:List AVal):Nat:=match s with
 | none=>0
 | some _=>g+dR R
def Zt3 (s:Option Bag) (sq r:Nat):Nat:=match s with
 | none=>sq
 | some _=>r
theorem ZmF (R:List AVal):ZZ 3 0 R=dR R:=by cases R <;> rfl
def mS:Option Bag->Nat
 | none=>2
 | some _=>3
theorem ZIA {s:Option Bag} {r g:Nat} {R:List AVal} (hF:Fr A s r g σ) (hff:Zai σ sq 1=true) (hne:2<=sq) (hS:Zx S=[]) (hg:g < 899)
  (hE:E 34 (Zb8 i p S) (hM (.arena A) s 0)=some (.tup [],hM (.arena A) (ZB s R) (ZZ (mS s) 0 R))) :
  ∃ σ' c,Zr E BY σ sq 34 1 false (Zb8 i p S)=some (.tup [],σ',c)/\Fr A (ZB s R) (Zt3 s sq r) (Zhq s g R) σ'/\σ'.length=σ.length/\(∀ k:Nat,k≠sq->σ[k]?=some Zk.free->σ'[k]?=some Zk.free):=by
 cases s with
 | none =>
  obtain ⟨σ',c,h1,h2,h3,h4⟩:=ZKr hF.1 hF.2 hff hne hS (s':=ZB none R) (by
   rw [hE]
   cases R <;> rfl)
  exact ⟨σ',c,h1,h2,h3,h4⟩
 | some q =>
  obtain ⟨h0,hq1,hq2,hr,hg9⟩:=hF
  obtain ⟨q',hq'⟩:∃ q',ZB (some q) R=some q':=by cases R <;> exact ⟨_,rfl⟩
  have hE':=hE
  rw [show mS (some q)=3 from rfl,ZmF,hq'] at hE'
  have hd:dR R<=1:=by cases R <;> simp [dR]
  obtain ⟨σ',c,h1,⟨h2,h3,h4⟩,h5,h6⟩:=ZwK h0 hq1 hq2 hr hg9 hd hff hE'
  refine ⟨σ',c,h1,?_,h5,fun k _ h=>h6 k h⟩
  rw [hq']
  exact ⟨h2,h3,h4,hr,by simp only [Zhq];omega⟩
theorem ZrN {s:Option Bag} {r g:Nat} (hF:Fr A s r g σ):Zaw 2 σ (.tup [])=some (.tup [],hM (.arena A) s 0):=by
 obtain ⟨h0,h⟩:=hF
 have g0:σ.getD 0 .free=.arena A:=by simp [Xf,h0]
 have hR:Wn 2=[0,1]:=rfl
 cases s with
 | none =>
  have h:σ[1]?=some (.var [.lst true []]):=h
  have g1:σ.getD 1 .free=.var [.lst true []]:=by simp [Xf,h]
  have hi:Zn 2 [.tup []] σ=[0,1]:=by
   simp only [Zn,Zx,ZS,hR,XI,X7,XA,g0,g1,Zp]
   rfl
  simp only [Zaw,gcA,hi,Zo,Zf,Zg,g0,g1,Zm,hM]
 | some q =>
  obtain ⟨h1,h2,hr,hg⟩:=h
  have g1:σ.getD 1 .free=.var [.sl r g 0 (Zy q)]:=by simp [Xf,h1]
  have g2:σ.getD r .free=.bag g 3 q:=by simp [Xf,h2]
  have n0:¬0=r:=by omega
  have n1:¬1=r:=by omega
  have m0:¬r=0:=by omega
  have m1:¬r=1:=by omega
  have ng:¬1000<=g:=by omega
  have nr:¬r < 2:=by omega
  have c2:([0,1]:List Nat).contains r=false:=by simp [m0,m1]
  have hi:Zn 2 [.tup []] σ=[0,1,r]:=by
   simp only [Zn,Zx,ZS,hR,XI,X7,XA,Xp,g0,g1,Zp]
   simp only [Zi,c2,Xg,if_false,g2,Zp,Xp,XH]
  have hρ:Ze σ 2 [0,1,r] r g=some (2,0):=by simp [Ze,Zv,h2,Zb,Zu,n0,n1,ng]
  simp only [Zaw,gcA,hi,Zo,Zf,Zg,g0,g1,g2,Zm,hM,hρ]
  simp [Zu,Zb,ng]
theorem Zr1 {q:Bag} {g:Nat} (hF:Fr A (some q) 2 g σ):Zaw 3 σ (.tup [])=some (.tup [],hM (.arena A) (some q) (if g=0 then 0 else 1)):=by
 obtain ⟨h0,h1,h2,hr,hg⟩:=hF
 have hR:Wn 3=[0,1,2]:=rfl
 have g0:σ.getD 0 .free=.arena A:=by simp [Xf,h0]
 have g1:σ.getD 1 .free=.var [.sl 2 g 0 (Zy q)]:=by simp [Xf,h1]
 have g2:σ.getD 2 .free=.bag g 3 q:=by simp [Xf,h2]
 have ng:¬1000<=g:=by omega
 have hi:Zn 3 [.tup []] σ=[0,1,2]:=by
  simp only [Zn,Zx,ZS,hR,XI,X7,XA,Xp,g0,g1,g2,Zp]
  rfl
 have hρ:Ze σ 3 [0,1,2] 2 g=some (2,if g=0 then 0 else 1):=by
  simp [Ze,Zv,h2,Zb,Zu,ng]
 simp only [Zaw,gcA,hi,Zo,Zf,Zg,g0,g1,g2,Zm,hM,hρ]
 simp [Zu,Zb,ng]
end
end
section
def ZaN (o:Option Nat) (f:Nat->List AVal):List AVal:=match o with
 | some i=>f i
 | none=>[]
theorem Zqk (l:List Tx):Zx (l.map AVal.str)=[]:=by
 induction l with
 | nil=>rfl
 | cons x l ih=>simp only [Xx,Zx,ZS,ih,XA]
def k0a:Zd:=(.seq (.region [oM 62 0,oI 63 (.nilchk (.t 62)),oF 64 1 63,oL 65 64,oM 66 2,oI 67 (.iaddr 1 (.t 66) (.c (.int .i64 0))),oL 68 67,oI 69 (.look 2 .nilp false (.t 65) (.t 68)),oM 15 69] (some [(3,5),(3,6)]) [15,4,3,2,1,0]) (.seq (.region [oM 70 15,oI 71 (.peq true (.t 70) (.c .nilp))] none [71,15,4,3,2,1,0]) (.cond (.t 71) (.region [oM 72 15,oM 73 1,oM 74 2,oI 75 (.iaddr 1 (.t 74) (.c (.int .i64 0))),oL 76 75,oI 77 (.call 48 0 true [(.t 73),(.t 76)]),oM 78 2,oI 79 (.slice 1 (.t 78) (some (.c (.int .i64 1))) none none),oM 80 4,oI 81 (.call 34 1 false [(.t 72),(.t 77),(.t 79),(.c (.bool false)),(.t 80)])] (some [(3,7),(4,7),(5,7),(9,9)]) [4,3,2,1,0]) .skip)))
def k0b:Zd:=(.seq (.region [oM 82 0,oI 83 (.nilchk (.t 82)),oF 84 1 83,oL 85 84,oI 86 (.look 2 .nilp false (.t 85) (.c (.str [43]))),oM 16 86] none [16,4,3,2,1]) (.seq (.region [oM 87 16,oI 88 (.peq true (.t 87) (.c .nilp)),oM 89 88,⟨(some 90),(.mov (.t 3)),(some (89,true)),[]⟩,⟨(some 91),(.un .not (.t 90)),(some (89,true)),[]⟩,oI 92 (.pick (.t 89) (.t 91) (.c (.bool false)))] none [92,16,4,2,1]) (.cond (.t 92) (.region [oM 93 16,oM 94 1,oI 95 (.call 48 0 true [(.t 94),(.c (.str [43]))]),oM 96 2,oI 97 (.slice 1 (.t 96) (some (.c (.int .i64 1))) none none),oM 98 4,oI 99 (.call 34 1 false [(.t 93),(.t 95),(.t 97),(.c (.bool false)),(.t 98)])] (some [(2,4),(6,6)]) []) .skip)))
theorem ZHn:Zna=.seq k0a k0b:=rfl
section
variable {m:Nat} {A:ZF} (ns:List TN) (j:Nat) (d:TN) (hd:ns[j]?=some d) (b:Bool) (S:List AVal) (p:Tx)
theorem ZKz {σ:Za} (hs:ZY σ 0=some (eNs ns)) (hd:ns[j]?=some d) (hn:b=true\/Zq [43] d.2=none) (pre:Tms) (hpre:pre=[]\/pre=[(71,.bool false),(15,.nilp)]) :
  (evC FC PR BY m k0b (pre++vS b S p j) σ).map (fun q=>(q.1,q.2.2))=some (.normal,σ):=by
 have q1:=ZaV hd
 have q2:=ZdX hs hd [43]
 unfold vS k0b
 generalize eN d=D at *
 generalize eNs ns=A at *
 have hz:∀ σ:Za,σ++Xq 0 Zk.free=σ:=fun σ=>by simp
 rcases hpre with rfl | rfl
 ·rcases hn with rfl | hn
  ·cases hk:Zq [43] d.2 with
   | none =>
    simp only [hk,nxV] at q2
    simp only [Xp]
    simp -implicitDefEqProofs only [EQA,Zad,Xe,Xc,Zs,Z4,reduceCtorEq,↓reduceIte,hs,q1,q2]
   | some i =>
    simp only [hk,nxV] at q2
    simp only [Xp]
    simp -implicitDefEqProofs only [EQA,Zad,Xe,Xc,unA,Zs,unG,reduceCtorEq,↓reduceIte,hs,q1,q2]
  ·simp only [hn,nxV] at q2
   simp only [Xp]
   simp -implicitDefEqProofs only [EQA,Zad,Xe,Xc,Zs,Z4,reduceCtorEq,↓reduceIte,hs,q1,q2]
 ·rcases hn with rfl | hn
  ·cases hk:Zq [43] d.2 with
   | none =>
    simp only [hk,nxV] at q2
    simp only [XH,Xp]
    simp -implicitDefEqProofs only [EQA,Zad,Xe,Xc,Zs,Z4,reduceCtorEq,↓reduceIte,hs,q1,q2]
   | some i =>
    simp only [hk,nxV] at q2
    simp only [XH,Xp]
    simp -implicitDefEqProofs only [EQA,Zad,Xe,Xc,unA,Zs,unG,reduceCtorEq,↓reduceIte,hs,q1,q2]
  ·simp only [hn,nxV] at q2
   simp only [XH,Xp]
   simp -implicitDefEqProofs only [EQA,Zad,Xe,Xc,Zs,Z4,reduceCtorEq,↓reduceIte,hs,q1,q2]
theorem ZG3 {σ σ2:Za} {c:Cls} {i:Nat} (hs:ZY σ 0=some (eNs ns)) (hs2:ZY (σ++[.free]) 0=some (eNs ns)) (hd:ns[j]?=some d) (hn:Zq [43] d.2=some i) (l:Tx) (r:List Tx) (hp:p.length+1<=1000000000000)
  (hcall:Zr E BY (σ++[.free]) σ.length 34 1 false [.nref 0 i 0,.str (ZH p [43]),.lst false (r.map AVal.str),.bool false,.fn 35 [.ref 1 0]]=some (.tup [],σ2,c)) (pre:Tms) (hpre:pre=[]\/pre=[(71,.bool false),(15,.nilp)]) :
  (evC FC PR BY m k0b (pre++vS false ((l::r).map AVal.str) p j) σ).map (fun q=>(q.1,q.2.2))=some (.normal,σ2):=by
 have q1:=ZaV hd
 have q2:=ZdX hs hd [43]
 have q3:=fun σ sq own view=>ZfY σ sq own view p [43] hp
 have q4:=fun σ=>ZoQ σ l r
 have hff:(σ++[Zk.free])[σ.length]?=some .free:=by simp
 have hz:∀ σ:Za,σ++Xq 0 Zk.free=σ:=fun σ=>by simp
 have hz1:∀ σ:Za,σ++Xq 1 Zk.free=σ++[Zk.free]:=fun σ=>rfl
 simp only [hn,nxV] at q2
 unfold vS k0b
 generalize (l::r).map AVal.str=S at *
 generalize r.map AVal.str=S1 at *
 generalize eN d=D at *
 generalize eNs ns=A at *
 generalize ZH p [43]=p2 at *
 rcases hpre with rfl | rfl
 ·simp only [Xp]
  simp -implicitDefEqProofs only [EQA,Zad,Xe,Xc,Xk,unA,Zs,unG,reduceCtorEq,↓reduceIte,hs,q1,q2,q3,q4,hcall,hff,Zat,Zay,ZaM,Za9,Zbr,Zbp,ZbA,ZbE,ZaS,ZgH]
 ·simp only [XH,Xp]
  simp -implicitDefEqProofs only [EQA,Zad,Xe,Xc,Xk,unA,Zs,unG,reduceCtorEq,↓reduceIte,hs,q1,q2,q3,q4,hcall,hff,Zat,Zay,ZaM,Za9,Zbr,Zbp,ZbA,ZbE,ZaS,ZgH]
theorem ZvO {σ:Za} (hs:ZY σ 0=some (eNs ns)) (hd:ns[j]?=some d) (l:Tx) (r:List Tx) (hn:Zq l d.2=none) :
  evC FC PR BY m k0a ((46,.bool false)::vS b ((l::r).map AVal.str) p j) σ=some (.normal,[(71,.bool false),(15,.nilp)]++vS b ((l::r).map AVal.str) p j,σ):=by
 have q1:=ZaV hd
 have q2:=ZdX hs hd l
 have g0:((l::r).map AVal.str)[0]?=some (.str l):=rfl
 have hz:∀ σ:Za,σ++Xq 0 Zk.free=σ:=fun σ=>by simp
 simp only [hn,nxV] at q2
 unfold vS k0a
 simp only [XH,Xp]
 generalize (l::r).map AVal.str=S at *
 generalize eN d=D at *
 generalize eNs ns=A at *
 simp -implicitDefEqProofs only [EQA,Zad,Xe,Xc,Xk,reduceCtorEq,↓reduceIte,hs,q1,q2,g0,Zbd,XaO,Ws,AVal.cells]
theorem ZEu {σ σ2:Za} {c:Cls} {i:Nat} (hs:ZY σ 0=some (eNs ns)) (hs2:ZY (σ++[.free]) 0=some (eNs ns)) (hd:ns[j]?=some d) (l:Tx) (r:List Tx) (hn:Zq l d.2=some i) (hp:p.length+l.length<=1000000000000)
  (hcall:Zr E BY (σ++[.free]) σ.length 34 1 false [.nref 0 i 0,.str (ZH p l),.lst false (r.map AVal.str),.bool false,.fn 35 [.ref 1 0]]=some (.tup [],σ2,c)) :
  evC FC PR BY m k0a ((46,.bool false)::vS b ((l::r).map AVal.str) p j) σ=some (.normal,vS b ((l::r).map AVal.str) p j,σ2):=by
 have q1:=ZaV hd
 have q2:=ZdX hs hd l
 have q3:=fun σ sq own view=>ZfY σ sq own view p l hp
 have q4:=fun σ=>ZoQ σ l r
 have g0:((l::r).map AVal.str)[0]?=some (.str l):=rfl
 have hz:∀ σ:Za,σ++Xq 0 Zk.free=σ:=fun σ=>by simp
 have hz1:∀ σ:Za,σ++Xq 1 Zk.free=σ++[Zk.free]:=fun σ=>rfl
 have hff:(σ++[Zk.free])[σ.length]?=some .free:=by simp
 simp only [hn,nxV] at q2
 unfold vS k0a
 generalize (l::r).map AVal.str=S at *
 generalize r.map AVal.str=S1 at *
 generalize eN d=D at *
 generalize eNs ns=A at *
 generalize ZH p l=p2 at *
 simp -implicitDefEqProofs only [EQA,Zad,Xe,Xc,Xk,reduceCtorEq,↓reduceIte,hs,q1,q2,q3,q4,g0,hcall,hff,Zbd,XaO,Ws,AVal.cells,Zat,Zay,ZaM,Za9,Zbr,Zbp,ZbA,ZbE,ZaS,ZgH]
end
end
section
def Zoi (A:ZF) (i:Nat) (p:Tx) (S:List AVal) (R:List AVal):Prop:=∀ (s:Option Bag),Za3 s+R.length<=1000000->E 34 (Zb8 i p S) (hM (.arena A) s 0)=some (.tup [],hM (.arena A) (ZB s R) (ZZ (mS s) 0 R))
theorem Zl3 {A:ZF} {s:Option Bag} {r g:Nat} {σ:Za} (h:Fr A s r g σ):Fr A s r g (σ++[.free]):=by
 obtain ⟨h0,h1⟩:=h
 have ap:∀ {t:Nat} {x:Zk},σ[t]?=some x->(σ++[.free])[t]?=some x:=fun {t x} h=>by
  rw [Wc (Xd.1 h).1];exact h
 refine ⟨ap h0,?_⟩
 cases s with
 | none=>exact ap h1
 | some q=>exact ⟨ap h1.1,ap h1.2.1,h1.2.2⟩
def ZJJ (s:Option Bag) (r g:Nat) (R:List AVal) (r' g':Nat):Prop:=s≠none->r'=r/\g<=g'/\(g'=g↔R=[])/\g'<=g+2
theorem way {A:ZF} {s:Option Bag} {r g:Nat} {σ:Za} {i:Nat} {p:Tx} {S:List AVal} {R:List AVal} (hF:Fr A s r g σ) (hl:2<=σ.length) (hS:Zx S=[]) (hg:g < 899) (hC:Zoi A i p S R) (hb:Za3 s+R.length<=1000000) :
  ∃ σ' c,Zr E BY (σ++[.free]) σ.length 34 1 false (Zb8 i p S)=some (.tup [],σ',c)/\Fr A (ZB s R) (Zt3 s σ.length r) (Zhq s g R) σ'/\2<=σ'.length:=by
 obtain ⟨σ',c,h1,h2,h3,_⟩:=ZIA (R:=R) (Zl3 hF) (sq:=σ.length) (by simp [Zai,freeAt]) hl hS hg (hC s hb)
 exact ⟨σ',c,h1,h2,by rw [h3];simp;omega⟩
section
variable {m:Nat} (ns:List TN) (j:Nat) (d:TN) (hd:ns[j]?=some d) (b:Bool) (p:Tx) (l:Tx) (r:List Tx) (hp:p.length+l.length+1<=1000000000000) (f1 f2:Nat->List AVal)
include hd hp
theorem Zyt {s : Option Bag} {rr gg : Nat} {σ : Za} (hF : Fr (eNs ns) s rr gg σ) (hl : 2 <= σ.length) (hg : gg < 800)
    (h1 : ∀ i, Zq l d.2 = some i -> Zoi (eNs ns) i (ZH p l) (r.map AVal.str) (f1 i)) (h2 : ∀ i, b = false -> Zq [43] d.2 = some i -> Zoi (eNs ns) i (ZH p [43]) (r.map AVal.str) (f2 i))
    (hb : Za3 s + (ZaN (Zq l d.2) f1).length + (if b then [] else ZaN (Zq [43] d.2) f2).length <= 1000000) :
    ∃ σ', (evC FC PR BY m Zj3 ((46, .bool false) :: vS b ((l :: r).map AVal.str) p j) σ).map (fun q => (q.1, q.2.2)) = some (.normal, σ') /\ ∃ r' g', Fr (eNs ns) (ZB s (ZaN (Zq l d.2) f1 ++ (if b then [] else ZaN (Zq [43] d.2) f2))) r' g' σ' /\ ZJJ s rr gg (ZaN (Zq l d.2) f1 ++ (if b then [] else ZaN (Zq [43] d.2) f2)) r' g' := by
  have hnd : ∀ {s : Option Bag} {r g : Nat} {σ : Za}, Fr (eNs ns) s r g σ -> ZY σ 0 = some (eNs ns) := fun h => ZCB h.1
  have first : ∃ pre σ1, (pre = [] \/ pre = [(71, .bool false), (15, .nilp)]) /\ evC FC PR BY m k0a ((46, .bool false) :: vS b ((l :: r).map AVal.str) p j) σ = some (.normal, pre ++ vS b ((l :: r).map AVal.str) p j, σ1) /\ ∃ r1 g1, Fr (eNs ns) (ZB s (ZaN (Zq l d.2) f1)) r1 g1 σ1 /\ 2 <= σ1.length /\ g1 < 850 /\ (s ≠ none -> r1 = rr /\ g1 = gg + dR (ZaN (Zq l d.2) f1)) := by
    cases hk : Zq l d.2 with
    | none =>
      refine ⟨_, σ, Xr rfl, ZvO ns j d b p (hnd hF) hd l r hk, rr, gg, hF, hl, by omega, fun _ => ⟨rfl, ?_⟩⟩
      simp [ZaN, dR]
    | some i =>
      obtain ⟨σ1, c, q1, q2, q3⟩ := way hF hl (Zqk r) (by omega) (h1 i hk) (by rw [hk] at hb; simp only [ZaN] at hb; omega)
      refine ⟨[], σ1, Xm rfl, ZEu ns j d b p (hnd hF) (hnd (Zl3 hF)) hd l r hk (by omega) q1, _, _, q2, q3, ?_, fun hs => ?_⟩
      . cases s with
        | none => simp only [Zhq]; omega
        | some q => simp only [Zhq]; have : dR (f1 i) <= 1 := by cases f1 i <;> simp [dR]
                    omega
      . cases s with
        | none => exact absurd rfl hs
        | some q => exact ⟨rfl, rfl⟩
  obtain ⟨pre, σ1, hpre, e1, r1, g1, hF1, hl1, hg1, hq1⟩ := first
  have hd1 : ∀ R : List AVal, dR R <= 1 := fun R => by cases R <;> simp [dR]
  have hd0 : ∀ R : List AVal, dR R = 0 ↔ R = [] := fun R => by cases R <;> simp [dR]
  have second : ∃ σ2, (evC FC PR BY m k0b (pre ++ vS b ((l :: r).map AVal.str) p j) σ1).map (fun q => (q.1, q.2.2)) = some (.normal, σ2) /\ ∃ r' g', Fr (eNs ns) (ZB (ZB s (ZaN (Zq l d.2) f1)) (if b then [] else ZaN (Zq [43] d.2) f2)) r' g' σ2 /\ (s ≠ none -> r' = rr /\ g' = g1 + dR (if b then [] else ZaN (Zq [43] d.2) f2)) := by
    by_cases hn : b = true \/ Zq [43] d.2 = none
    . have ew : (if b then [] else ZaN (Zq [43] d.2) f2) = [] := by
        rcases hn with hn | hn
        . rw [if_pos hn]
        . rw [hn]; split <;> rfl
      rw [ew]
      exact ⟨σ1, ZKz ns j d b _ p (hnd hF1) hd hn pre hpre, r1, g1, hF1, fun hs => ⟨(hq1 hs).1, rfl⟩⟩
    . have hb0 : b = false := by cases b <;> simp_all
      subst hb0
      cases hk : Zq [43] d.2 with
      | none => exact absurd (Xr hk) hn
      | some i =>
        simp only [Xg, if_false, ZaN] at hb ⊢
        rw [hk] at hb
        obtain ⟨σ2, c, q1, q2, q3⟩ := way hF1 hl1 (Zqk r) (by omega) (h2 i rfl hk) (by rw [Zfj]; exact hb)
        refine ⟨σ2, ZG3 ns j d p (hnd hF1) (hnd (Zl3 hF1)) hd hk l r (by omega) q1 pre hpre, _, _, q2, fun hs => ?_⟩
        have hs1 : ∃ q, ZB s (ZaN (Zq l d.2) f1) = some q := by
          cases s with
          | none => exact absurd rfl hs
          | some q => cases ZaN (Zq l d.2) f1 <;> exact ⟨_, rfl⟩
        obtain ⟨q, hs1⟩ := hs1
        rw [hs1]
        exact ⟨(hq1 hs).1, rfl⟩
  obtain ⟨σ2, e2, r', g', hF2, hq2⟩ := second
  refine ⟨σ2, ?_, r', g', by rw [<- ZgR]; exact hF2, fun hs => ?_⟩
  . rw [Zvy, ZHn]
    rw [Zj2 e1]
    exact e2
  . obtain ⟨a1, a2⟩ := hq1 hs
    obtain ⟨a3, a4⟩ := hq2 hs
    have := hd1 (ZaN (Zq l d.2) f1)
    have := hd1 (if b then [] else ZaN (Zq [43] d.2) f2)
    refine ⟨a3, by omega, ?_, by omega⟩
    rw [List.append_eq_nil_iff, <- hd0, <- hd0]
    omega
end
end
end Go.Proofs.YtbjflkbenobjjaaDoor
