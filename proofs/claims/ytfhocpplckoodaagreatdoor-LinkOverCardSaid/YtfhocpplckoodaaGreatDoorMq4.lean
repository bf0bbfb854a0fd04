/- packed -/
import Derived.Test.YtfhocpplckoodaaGreatDoorMq3
import Derived.Test.YtfhocpplckoodaaGreatDoorMq2
import Derived.Defers
import Derived.Recover
import Derived.Tactics
import Derived.Test.YtfhocpplckoodaaGreatDoorProg
import Derived.Shelf.Small.Strs
import Derived.Shelf.Strings.Search1
import Derived.Shelf.Strings.Count
import Derived.Shelf.Unicode.ValidAny
import Derived.Shelf.Strconv.Itoa3
import Derived.Shelf.Strconv.Atoi
import Derived.Lib.TrimAscii
set_option linter.defProp false
set_option linter.unusedSectionVars false
set_option linter.unusedSimpArgs false
set_option linter.unusedVariables false
open Nat renaming reduceEqDiff→Xa,reduceLT→Xc,reduceAdd→Xe,reduceLeDiff→Xf,reduceBEq→Xg,zero_add→XB,le_refl→XF,lt_or_ge→Wx,reduceSub→WK,pow_le_pow_right→WN,one_mul→W7,add_eq_zero_iff→Xaf,pow_succ→Xap,le_add_right→Xay,succ_ne_self→XaA
open Option.some renaming injEq→Xb
open List renaming getD_eq_getElem?_getD→Xh,length_append→Xi,getElem?_eq_some_iff→Xl,map_cons→Xm,getElem?_set_ne→Xn,append_nil→Xo,length_cons→Xp,map_nil→Xt,getD_cons_zero→Xu,length_nil→Xw,getElem?_set→Xx,lookup_nil→Xy,nil_append→XA,mem_of_getElem?→XC,length_map→XD,eq_nil_of_length_eq_zero→XG,take_of_length_le→XI,flatMap_cons→XK,lookup_cons→XL,getD_cons_succ→XN,all_cons→XO,getElem?_eq_none→XQ,mem_cons→XR,getElem?_take→XS,append_assoc→XU,cons_append→XV,drop_eq_nil_iff→XW,length_take→X0,map_append→X4,flatMap_nil→X5,getElem?_set_self→X7,length_drop→X9,range→Wa,range_succ→Wd,isEmpty_cons→Wm,flatten_cons→Wn,all_nil→Ws,singleton_append→WG,contains_cons→WI,flatten_nil→WU,contains_nil→W4,length→Xab,drop_left'→Xas,range_zero→XaH,any_cons→XaI,any_nil→XaR,not_mem_nil→Xbc
open Bool renaming false_eq_true→Xj,and_eq_true→Xk,and_self→Wg,false_and→WX,and_true→Xat,or_false→XaW
open Or renaming inl→Xr,inr→XE
open Int renaming reduceBEq→Xs,toNat→WW,tmod_lt_of_pos→XaJ,lt_tmod_of_pos→Xa2
open BitVec renaming ofInt→XP
open Option renaming map→XZ
open UInt8 renaming ofNat→X1,toNat_ofNat'→Wr,toNat→Xbk
open Classical renaming byContradiction→WP
open Array renaming getD→WY,replicate→W5
open List.range renaming loop→XaY
namespace Go.Proofs.YtfhocpplckoodaaGreatDoor
set_option maxHeartbeats 16000000
set_option maxRecDepth 10000
section
theorem ZWZ{O:ZV}{bf:Nat->Bool}{σ:Za}{t f own:Nat}{rest:List AVal}{cs cs':List AVal}{r r':AVal}(hb:bf f=false)(hp:rest.all Zan=true)(hc:Zf cs=true)(hc':Zf cs'=true)(hn:ZS r'=true)(hv:viewR [.var cs'] r=some (r',[]))
  (h:O f (.ref 0 0::rest.map ZN) [.var cs]=some (r,[.var cs'])) (hs:σ[t]?=some (.var cs)) (sq:Nat) (hff:ZaM σ sq own=true):Zj O bf σ sq f own true (.ref t 0::rest)=some (r',σ.set t (.var cs'),{ any:=true,upd:=[(t,cs')] }):=by
 have htl:t<σ.length:=by
  rcases Wx t σ.length with h |h
  ·exact h
  ·rw[XQ h]at hs;cases hs
 have hup:ZaZ (σ.set t (.var cs')) [t]=[(t,cs')]:=by
  simp only[ZaZ,Xx,if_pos htl,if_true]
 have hd:σ.getD t .free=.var cs:=by simp[Xh,hs]
 have hf0:Zr σ []=σ:=rfl
 have hsh:showAs σ (.ref t 0::rest)=some (.ref t 0::rest.map ZN,[]):=by
  rw[showAs,show showA σ (.ref t 0)=some (.ref t 0,[])from rfl,Zej hp]
  rfl
 have href:Zt (.ref t 0::rest.map ZN)=[t]:=by
  rw[Zt,ZdC hp];rfl
 unfold Zj ZbS
 rw[hb]
 simp only[Xj,if_false,hsh,hf0,href,Zff hs hc]
 unfold ZbK
 have hall:([t].all fun t=>okB (σ.getD t .free))=true:=by simp[XO,Ws,hs,okB]
 rw[if_pos hall]
 have hρ:Zk σ 0 [t] t 0=some (0,0):=by simp[Zk,ZI,hs,Zl,ZF]
 have hheap:Zn σ 0 [t] (Zk σ 0 [t]) [t] 0=[.var cs]:=by
  simp only[Zn,hd,Zy,(ZaV _ cs hc).1]
 have hargs:Zh (Zk σ 0 [t]) (.ref t 0::rest.map ZN)=.ref 0 0::rest.map ZN:=by
  rw[Zh,ZdE hp]
  simp only[Zo,hρ]
 rw[hargs,hheap,h]
 have hask:Z3 true [t].length (some (r,[.var cs']))=some (r',[.var cs']):=by
  unfold Z3
  rw[if_pos rfl]
  have hnp:∀ x,r≠.pan x:=by rintro x rfl;simp[viewR,ZP,ZK]at hv
  rw[show ZbB [t].length (some (r,[.var cs']))=(match viewR [.var cs'] r with
   |some (r',ts)=>match gcA [t].length [r'] (Zr [.var cs'] ts)with
    |([r''],σ')=>some (r'',σ')
    |_=>none
   |none=>none)from by cases r<;>first |rfl |exact absurd rfl (hnp _)]
  rw[hv]
  simp only[Xp,Xw,XB,show Zr [ZO.var cs'] []=[.var cs']from rfl,ZkP hn hc']
 rw[hask]
 have hk:ZaW σ [t] [.var cs'] 0=true:=by
  simp[ZaW,okB,hs,Zcr,Zl]
 simp only[ZaA,Wm,Xj,if_false,Xp,Xw,XB,Xay,XF,decide_true,hk,hff,Wg,if_true,Za9,ZaN,Xu,Zy,(Zbm _ r' hn).1,(ZaV _ cs' hc').1,hup]
theorem ZIJ{O:ZV}{bf:Nat->Bool}{σ:Za}{t f own:Nat}{rest:List AVal}{cs cs':List AVal}{x:AVal}{view:Bool}(hb:bf f=false)(hp:rest.all Zan=true)(hc:Zf cs=true)(hc':Zf cs'=true)(hn:ZS x=true)
  (h:O f (.ref 0 0::rest.map ZN) [.var cs]=some (.pan x,[.var cs'])) (hs:σ[t]?=some (.var cs)) (sq:Nat) (hff:ZaM σ sq own=true):Zj O bf σ sq f own view (.ref t 0::rest)=some (.pan x,σ.set t (.var cs'),{ any:=true,upd:=[(t,cs')] }):=by
 have htl:t<σ.length:=by
  rcases Wx t σ.length with h |h
  ·exact h
  ·rw[XQ h]at hs;cases hs
 have hup:ZaZ (σ.set t (.var cs')) [t]=[(t,cs')]:=by
  simp only[ZaZ,Xx,if_pos htl,if_true]
 have hd:σ.getD t .free=.var cs:=by simp[Xh,hs]
 have hf0:Zr σ []=σ:=rfl
 have hsh:showAs σ (.ref t 0::rest)=some (.ref t 0::rest.map ZN,[]):=by
  rw[showAs,show showA σ (.ref t 0)=some (.ref t 0,[])from rfl,Zej hp]
  rfl
 have href:Zt (.ref t 0::rest.map ZN)=[t]:=by
  rw[Zt,ZdC hp];rfl
 unfold Zj ZbS
 rw[hb]
 simp only[Xj,if_false,hsh,hf0,href,Zff hs hc]
 unfold ZbK
 have hall:([t].all fun t=>okB (σ.getD t .free))=true:=by simp[XO,Ws,hs,okB]
 rw[if_pos hall]
 have hρ:Zk σ 0 [t] t 0=some (0,0):=by simp[Zk,ZI,hs,Zl,ZF]
 have hheap:Zn σ 0 [t] (Zk σ 0 [t]) [t] 0=[.var cs]:=by
  simp only[Zn,hd,Zy,(ZaV _ cs hc).1]
 have hargs:Zh (Zk σ 0 [t]) (.ref t 0::rest.map ZN)=.ref 0 0::rest.map ZN:=by
  rw[Zh,ZdE hp]
  simp only[Zo,hρ]
 rw[hargs,hheap,h]
 have hask:Z3 view [t].length (some (.pan x,[.var cs']))=some (.pan x,[.var cs']):=by
  unfold Z3
  split<;>rfl
 rw[hask]
 have hk:ZaW σ [t] [.var cs'] 0=true:=by
  simp[ZaW,okB,hs,Zcr,Zl]
 have hnp:ZS (.pan x)=true:=by simpa only[ZS]using hn
 simp only[ZaA,Wm,Xj,if_false,Xp,Xw,XB,Xay,XF,decide_true,hk,hff,Wg,if_true,Za9,ZaN,Xu,Zy,(Zbm _ _ hnp).1,(ZaV _ cs' hc').1,hup]
theorem ZdG{O:ZV}{bf:Nat->Bool}{σ:Za}{sq f own:Nat}{view:Bool}{args vs vs':List AVal}{ids:List Nat}{h0 h:Za}{r0 r:AVal}(hb:bf f=false)(hsh:showAs σ args=some (vs,[]))(hre:Zs σ 1000 (Zt vs) []=ids)(hne:ids.isEmpty=false)
  (hall:(ids.all fun t=>okB (σ.getD t .free))=true) (hvs:Zh (Zk σ 0 ids) vs=vs') (hh:Zn σ 0 ids (Zk σ 0 ids) ids 0=h0) {hh0:Za} (hO:O f vs' h0=some (r0,hh0)) (hv:Z3 view ids.length (some (r0,hh0))=some (r,h))
  (hl1:h.length<=ids.length+own) (hl2:ids.length<=h.length) (hk:ZaW σ ids h 0=true) (hff:ZaM σ sq own=true) {r':AVal} (hr:Zo (ZaJ σ ids sq) r=r') {σ':Za} (hlay:Za9 σ ids sq h 0 σ=σ') {u:List (Nat×List AVal)} (hu:ZaZ σ' ids=u) :
  Zj O bf σ sq f own view args=some (r',σ',{ any:=true,upd:=u }):=by
 subst hr hlay hu
 unfold Zj ZbS
 rw[hb]
 simp only[Xj,if_false,hsh,show Zr σ []=σ from rfl,hre]
 unfold ZbK
 rw[if_pos hall,hvs,hh,hO,hv]
 simp only[ZaA,hne,WX,Xj,if_false,hl1,hl2,decide_true,hk,hff,Wg,if_true]
end
section
section
variable (P:List AVal)(hP:P.length=26)(hN:Zf P=true)(l:Zc)(hl:l.length<=140737488355328)
include hP hN hl
theorem ZJK(xs:List AVal){c:Int}(h:ZaD l=.error c):evC FC PR BY 4 ZdT [(1,.ref 3 0),(0,.ref 0 0)] [.var [.ref 1 0],.var (Zq P 11 2 0 xs.length++[.lst false (l.map Zb)]),.row 0 1 xs,.var [.ref 1 0]]=some (.panic (ZH c),[],[.var [.ref 1 0],.var (Zq P 11 2 0 xs.length++[.lst false (l.map Zb)]),.row 0 1 xs,.var [.ref 1 0],.free]):=by
 have hT:=fun σ sq hs hr=>ZwD P hP hN 11 (by omega) xs.length 1 xs l hl σ 1 2 0 sq (by omega) hs hr h
 have hL:=Zcj P hP hN 11 (by omega) xs.length 2 0
 have hc:(Zq P 11 2 0 xs.length)[11]?=some (.sl 2 0 0 xs.length):=by unfold Zq;rw[X7 (by omega)]
 have a4:=fun L=>(Zam _ hL 11 (by omega) L).trans hc
 simp -implicitDefEqProofs only[EQA,Xe,WK,Xc,Xf,Xa,Xg,reduceCtorEq,↓reduceIte,ZdT,Zd,hT,a4,Ziy,ZdN,XaI,XaR,Z6,Zaf,Zah,Zau,Zas,Zar,Zav,Zaw,Zag,ZdX,XL,Xy]
theorem ZTV(xs:List AVal)(k:Int)(hk:P[0]?=some (.int .i64 k)){e:Int}(h:ZaY k l=.error e):∃ r:Zc,evC FC PR BY 4 ZdI [(1,.ref 3 0),(0,.ref 0 0)] [.var [.ref 1 0],.var (Zq P 8 2 0 xs.length++[.lst false (l.map Zb)]),.row 0 1 xs,.var [.ref 1 0]]=some (.panic (ZH e),[],[.var [.ref 1 0],.var (Zq P 8 2 0 xs.length++[.lst false (r.map Zb)]),.row 0 1 xs,.var [.ref 1 0],.free]):=by
 have hk0:(Zq P 8 1 0 xs.length)[0]?=some (.int .i64 k):=by unfold Zq;rw[Xn (by omega)];exact hk
 have hT0:=fun(σ:Za) sq (hs:σ[1]?=some (.var (Zq P 8 2 0 xs.length++[.lst false (l.map Zb)]))) (hr:σ[2]?=some (.row 0 1 xs))=>ZS6 P hP hN 8 (by omega) xs.length 1 xs l hl k hk0 σ 1 2 0 sq (by omega) hs hr h
 have hL:=Zcj P hP hN 8 (by omega) xs.length 2 0
 have hc:(Zq P 8 2 0 xs.length)[8]?=some (.sl 2 0 0 xs.length):=by unfold Zq;rw[X7 (by omega)]
 have a4:=fun L=>(Zam _ hL 8 (by omega) L).trans hc
 obtain⟨r,hT⟩:=hT0 [.var [.ref 1 0],.var (Zq P 8 2 0 xs.length++[.lst false (l.map Zb)]),.row 0 1 xs,.var [.ref 1 0],.free] 4 rfl rfl
 refine⟨r,?_⟩
 simp -implicitDefEqProofs only[EQA,Xe,WK,Xc,Xf,Xa,Xg,reduceCtorEq,↓reduceIte,ZdI,Zd,hT,a4,Ziy,ZdN,XaI,XaR,Z6,Zaf,Zah,Zau,Zas,Zar,Zav,Zaw,Zag,ZdX,XL,Xy]
end
section
variable {cs:List AVal}{r:AVal}{σ:Za}
theorem Zzo(hr:ZS r=true)(hc:Zf cs=true):Z4 3 (.var [.ref 1 0]::.var cs::.var [.ref 1 0]::σ) r=some (r,[.var [.ref 1 0],.var cs,.var [.ref 1 0]]):=by
 have e1:=fun ρ=>Zbm ρ r hr
 have e2:=fun ρ=>ZaV ρ cs hc
 have hi:Zu 3 [r] (.var [.ref 1 0]::.var cs::.var [.ref 1 0]::σ)=[0,1,2]:=by
  have : Zt [r]=[]:=by simp only[Zt,(e1 (fun _ _=>none)).2,Xo]
  have hR:Wa 3=[0,1,2]:=rfl
  simp only[Zu,this,XA,hR,XK,X5,Xo,Xu,XN,Zx,(e2 (fun _ _=>none)).2]
  rfl
 have hρ:Zk (.var [.ref 1 0]::.var cs::.var [.ref 1 0]::σ) 3 [0,1,2] 1 0=some (1,0):=rfl
 simp only[Z4,gcA,hi,Zh,(e1 _).1,Zn,Xu,XN,Zy,Zo,hρ,(e2 _).1]
theorem Zv3{w:Nat}{xs:List AVal}(hr:ZS r=true)(hc:Zt cs=[3])(hren:∀ ρ:Rho,ρ 3 0=some (3,0)->Zh ρ cs=cs):Z4 3 (.var [.ref 1 0]::.var cs::.var [.ref 1 0]::.row 0 w xs::σ) r=some (r,[.var [.ref 1 0],.var cs,.var [.ref 1 0],.row 0 w xs]):=by
 have e1:=fun ρ=>Zbm ρ r hr
 have hi:Zu 3 [r] (.var [.ref 1 0]::.var cs::.var [.ref 1 0]::.row 0 w xs::σ)=[0,1,2,3]:=by
  have : Zt [r]=[]:=by simp only[Zt,(e1 (fun _ _=>none)).2,Xo]
  have hR:Wa 3=[0,1,2]:=rfl
  simp only[Zu,this,XA,hR,XK,X5,Xo,Xu,XN,Zx,hc]
  rfl
 have hρ:Zk (.var [.ref 1 0]::.var cs::.var [.ref 1 0]::.row 0 w xs::σ) 3 [0,1,2,3] 1 0=some (1,0):=rfl
 have hρ3:Zk (.var [.ref 1 0]::.var cs::.var [.ref 1 0]::.row 0 w xs::σ) 3 [0,1,2,3] 3 0=some (3,0):=rfl
 simp only[Z4,gcA,hi,Zh,(e1 _).1,Zn,Xu,XN,ZF,Zl,Zy,Zo,hρ,hren _ hρ3]
 rfl
theorem ZmP{w g:Nat}{xs:List AVal}(hr:ZS r=true)(hg:g<=1)(hc:Zt cs=[2])(hren:∀ ρ:Rho,ρ 2 g=some (2,g)->Zh ρ cs=cs):Z4 4 (.var [.ref 1 0]::.var cs::.row g w xs::.var [.ref 1 0]::σ) r=some (r,[.var [.ref 1 0],.var cs,.row g w xs,.var [.ref 1 0]]):=by
 have e1:=fun ρ=>Zbm ρ r hr
 have hi:Zu 4 [r] (.var [.ref 1 0]::.var cs::.row g w xs::.var [.ref 1 0]::σ)=[0,1,2,3]:=by
  have : Zt [r]=[]:=by simp only[Zt,(e1 (fun _ _=>none)).2,Xo]
  have hR:Wa 4=[0,1,2,3]:=rfl
  simp only[Zu,this,XA,hR,XK,X5,Xo,Xu,XN,Zx,hc]
  rfl
 have hng:(if g=0 then 0 else 1)=g:=by split<;>omega
 have hρ:Zk (.var [.ref 1 0]::.var cs::.row g w xs::.var [.ref 1 0]::σ) 4 [0,1,2,3] 1 0=some (1,0):=rfl
 have hρ3:Zk (.var [.ref 1 0]::.var cs::.row g w xs::.var [.ref 1 0]::σ) 4 [0,1,2,3] 2 g=some (2,g):=by
  simp only[Zk,ZI,Zl,ZF,List.getElem?_cons_succ,List.getElem?_cons_zero]
  simp[hng]
 simp only[Z4,gcA,hi,Zh,(e1 _).1,Zn,Xu,XN,ZF,Zl,Zy,Zo,hρ,hren _ hρ3]
 simp[hng]
end
section
variable (P:List AVal)(hP:P.length=26)(hN:Zf P=true)(l:Zc)(hl:l.length<=140737488355328)
include hP hN hl
theorem Zit(k:Nat)(hk:k<26)(r g n:Nat)(L:Zc):Zt (Zq P k r g n++[.lst false (L.map Zb)])=[r]:=by
 rw[Zc8,Zq,ZkR hN (by omega)];rfl
theorem Zik(k r g n r' g':Nat)(L:Zc)(ρ:Rho)(h:ρ r g=some (r',g')):Zh ρ (Zq P k r g n++[.lst false (L.map Zb)])=Zq P k r' g' n++[.lst false (L.map Zb)]:=by
 rw[Zcb,Zq,Zj7 ρ hN,Zq]
 simp only[Zo,h,Zh]
theorem ZCY(h11:P[11]?=some (.lst true [])){s r:Zc}(h:ZaD l=.ok (s,r)):E 109 [.ref 0 0,.ref 2 0] [.var [.ref 1 0],.var (P++[.lst false (l.map Zb)]),.var [.ref 1 0]]=some (.tup [],[.var [.ref 1 0],.var (Zq P 11 3 0 1++[.lst false (r.map Zb)]),.var [.ref 1 0],.row 0 1 [.str s]]):=by
 rw[Zi (by rfl) Zmg]
 have:=ZBt P hP hN l hl h11 h
 have h2:=Zv3 (σ:=[]) (w:=1) (xs:=[.str s]) (r:=.tup []) rfl (Zit P hP hN l hl 11 (by omega) 3 0 1 r) (fun ρ hρ=>Zik P hP hN l hl 11 3 0 1 3 0 r ρ hρ)
 show Zap 3 _ (evC FC PR BY 3 ZdT [(1,.ref 2 0),(0,.ref 0 0)] _)=_
 rw[this]
 exact h2
theorem ZCd{c:Int}(h:ZaD l=.error c)(h11:P[11]?=some (.lst true [])):E 109 [.ref 0 0,.ref 2 0] [.var [.ref 1 0],.var (P++[.lst false (l.map Zb)]),.var [.ref 1 0]]=some (.pan (ZH c),[.var [.ref 1 0],.var (P++[.lst false (l.map Zb)]),.var [.ref 1 0]]):=by
 rw[Zi (by rfl) Zmg]
 have:=ZPZ P hP hN l hl h h11
 have h2:=Zzo (σ:=[.free]) (r:=.pan (ZH c)) rfl (ZG P hP hN false (l.map Zb))
 show Zap 3 _ (evC FC PR BY 3 ZdT [(1,.ref 2 0),(0,.ref 0 0)] _)=_
 rw[this]
 exact h2
theorem ZCu(h8:P[8]?=some (.lst true []))(k:Int)(hk:P[0]?=some (.int .i64 k)){c:Int}{r:Zc}(h:ZaY k l=.ok (c,r)):E 111 [.ref 0 0,.ref 2 0] [.var [.ref 1 0],.var (P++[.lst false (l.map Zb)]),.var [.ref 1 0]]=some (.tup [],[.var [.ref 1 0],.var (Zq P 8 3 0 1++[.lst false (r.map Zb)]),.var [.ref 1 0],.row 0 1 [.int .i64 c]]):=by
 rw[Zi (by rfl) ZlN]
 have:=ZGs P hP hN l hl h8 k hk h
 have h2:=Zv3 (σ:=[]) (w:=1) (xs:=[.int .i64 c]) (r:=.tup []) rfl (Zit P hP hN l hl 8 (by omega) 3 0 1 r) (fun ρ hρ=>Zik P hP hN l hl 8 3 0 1 3 0 r ρ hρ)
 show Zap 3 _ (evC FC PR BY 3 ZdI [(1,.ref 2 0),(0,.ref 0 0)] _)=_
 rw[this]
 exact h2
theorem ZJ0(h8:P[8]?=some (.lst true []))(k:Int)(hk:P[0]?=some (.int .i64 k)){e:Int}(h:ZaY k l=.error e):∃ r:Zc,E 111 [.ref 0 0,.ref 2 0] [.var [.ref 1 0],.var (P++[.lst false (l.map Zb)]),.var [.ref 1 0]]=some (.pan (ZH e),[.var [.ref 1 0],.var (P++[.lst false (r.map Zb)]),.var [.ref 1 0]]):=by
 obtain⟨r,this⟩:=ZGk P hP hN l hl h8 k hk h
 have h2:=Zzo (σ:=[.free]) (r:=.pan (ZH e)) rfl (ZG P hP hN false (r.map Zb))
 refine⟨r,?_⟩
 rw[Zi (by rfl) ZlN]
 show Zap 3 _ (evC FC PR BY 3 ZdI [(1,.ref 2 0),(0,.ref 0 0)] _)=_
 rw[this]
 exact h2
variable (xs:List AVal)
theorem ZUd(hx:xs.length*16+16<=140737488355328)(kk:kOk 1 xs=true){s r:Zc}(h:ZaD l=.ok (s,r)):E 109 [.ref 0 0,.ref 3 0] [.var [.ref 1 0],.var (Zq P 11 2 0 xs.length++[.lst false (l.map Zb)]),.row 0 1 xs,.var [.ref 1 0]]=some (.tup [],[.var [.ref 1 0],.var (Zq P 11 2 1 (xs.length+1)++[.lst false (r.map Zb)]),.row 1 1 (xs++[.str s]),.var [.ref 1 0]]):=by
 rw[Zi (by rfl) Zmg]
 have:=ZGz P hP hN l hl xs hx kk h
 have h2:=ZmP (σ:=[.free]) (w:=1) (g:=1) (xs:=xs++[.str s]) (r:=.tup []) rfl (by omega) (Zit P hP hN l hl 11 (by omega) 2 1 (xs.length+1) r) (fun ρ hρ=>Zik P hP hN l hl 11 2 1 (xs.length+1) 2 1 r ρ hρ)
 show Zap 4 _ (evC FC PR BY 4 ZdT [(1,.ref 3 0),(0,.ref 0 0)] _)=_
 rw[this]
 exact h2
theorem ZWx{c:Int}(h:ZaD l=.error c):E 109 [.ref 0 0,.ref 3 0] [.var [.ref 1 0],.var (Zq P 11 2 0 xs.length++[.lst false (l.map Zb)]),.row 0 1 xs,.var [.ref 1 0]]=some (.pan (ZH c),[.var [.ref 1 0],.var (Zq P 11 2 0 xs.length++[.lst false (l.map Zb)]),.row 0 1 xs,.var [.ref 1 0]]):=by
 rw[Zi (by rfl) Zmg]
 have:=ZJK P hP hN l hl xs h
 have h2:=ZmP (σ:=[.free]) (w:=1) (g:=0) (xs:=xs) (r:=.pan (ZH c)) rfl (by omega) (Zit P hP hN l hl 11 (by omega) 2 0 xs.length l) (fun ρ hρ=>Zik P hP hN l hl 11 2 0 xs.length 2 0 l ρ hρ)
 show Zap 4 _ (evC FC PR BY 4 ZdT [(1,.ref 3 0),(0,.ref 0 0)] _)=_
 rw[this]
 exact h2
theorem ZT0(hx:xs.length*8+8<=140737488355328)(kk:kOk 1 xs=true)(k:Int)(hk:P[0]?=some (.int .i64 k)){c:Int}{r:Zc}(h:ZaY k l=.ok (c,r)):E 111 [.ref 0 0,.ref 3 0] [.var [.ref 1 0],.var (Zq P 8 2 0 xs.length++[.lst false (l.map Zb)]),.row 0 1 xs,.var [.ref 1 0]]=some (.tup [],[.var [.ref 1 0],.var (Zq P 8 2 1 (xs.length+1)++[.lst false (r.map Zb)]),.row 1 1 (xs++[.int .i64 c]),.var [.ref 1 0]]):=by
 rw[Zi (by rfl) ZlN]
 have:=ZEJ P hP hN l hl xs hx kk k hk h
 have h2:=ZmP (σ:=[.free]) (w:=1) (g:=1) (xs:=xs++[.int .i64 c]) (r:=.tup []) rfl (by omega) (Zit P hP hN l hl 8 (by omega) 2 1 (xs.length+1) r) (fun ρ hρ=>Zik P hP hN l hl 8 2 1 (xs.length+1) 2 1 r ρ hρ)
 show Zap 4 _ (evC FC PR BY 4 ZdI [(1,.ref 3 0),(0,.ref 0 0)] _)=_
 rw[this]
 exact h2
theorem ZE3(k:Int)(hk:P[0]?=some (.int .i64 k)){e:Int}(h:ZaY k l=.error e):∃ r:Zc,E 111 [.ref 0 0,.ref 3 0] [.var [.ref 1 0],.var (Zq P 8 2 0 xs.length++[.lst false (l.map Zb)]),.row 0 1 xs,.var [.ref 1 0]]=some (.pan (ZH e),[.var [.ref 1 0],.var (Zq P 8 2 0 xs.length++[.lst false (r.map Zb)]),.row 0 1 xs,.var [.ref 1 0]]):=by
 obtain⟨r,this⟩:=ZTV P hP hN l hl xs k hk h
 have h2:=ZmP (σ:=[.free]) (w:=1) (g:=0) (xs:=xs) (r:=.pan (ZH e)) rfl (by omega) (Zit P hP hN l hl 8 (by omega) 2 0 xs.length r) (fun ρ hρ=>Zik P hP hN l hl 8 2 0 xs.length 2 0 r ρ hρ)
 refine⟨r,?_⟩
 rw[Zi (by rfl) ZlN]
 show Zap 4 _ (evC FC PR BY 4 ZdI [(1,.ref 3 0),(0,.ref 0 0)] _)=_
 rw[this]
 exact h2
end
end
section
def Zba{α:Type}(one:Zc->RK α):Nat->Zc->Except Int (List α)
 |0,l=>if l.length=0 then .ok []else .error 0
 |n+1,l=>if l.length=0 then .ok []else match one l with
  | .error e=>.error e
  | .ok (a,r)=>match Zba one n r with
   | .error e=>.error e
   | .ok t=>.ok (a::t)
section
variable {O:ZV}{bf:Nat->Bool}{f:Nat}{cs cs1 cs2 cs3 xs xs2:List AVal}{w w2 g2:Nat}{q:AVal}{σ:Za}{sq:Nat}
theorem ZAx(h0:σ[0]?=some (.var cs))(h1:σ[1]?=some (.var [.ref 0 0]))(h2:σ[2]?=some (.var [.ref 0 0]))(hc:Zt cs=[]):Zs σ 1000 [1,2] []=[1,0,2]:=by
 have d0:σ.getD 0 .free=.var cs:=by simp[Xh,h0]
 have d1:σ.getD 1 .free=.var [.ref 0 0]:=by simp[Xh,h1]
 have d2:σ.getD 2 .free=.var [.ref 0 0]:=by simp[Xh,h2]
 rw[show(1000:Nat)=995+1+1+1+1+1 from rfl]
 simp only[Zs,d0,d1,d2,Zx,Zt,ZT,hc,WI,W4,Xo,XA,XV,XaW,Xj,if_false]
 simp
theorem ZFj(h0:σ[0]?=some (.var cs))(h1:σ[1]?=some (.var [.ref 0 0]))(h2:σ[2]?=some (.var [.ref 0 0]))(h3:σ[3]?=some (.row 0 w xs))(hc:Zt cs=[3]):Zs σ 1000 [1,2] []=[1,0,3,2]:=by
 have d0:σ.getD 0 .free=.var cs:=by simp[Xh,h0]
 have d1:σ.getD 1 .free=.var [.ref 0 0]:=by simp[Xh,h1]
 have d2:σ.getD 2 .free=.var [.ref 0 0]:=by simp[Xh,h2]
 have d3:σ.getD 3 .free=.row 0 w xs:=by simp[Xh,h3]
 rw[show(1000:Nat)=994+1+1+1+1+1+1 from rfl]
 simp only[Zs,d0,d1,d2,d3,Zx,Zt,ZT,hc,WI,W4,Xo,XA,XV,XaW,Xj,if_false]
 simp
theorem ZPv(hb:bf f=false)(hc:Zf cs=true)(hq:ZS q=true)(hback:∀ ρ:Rho,ρ 3 0=some (3,0)->Zh ρ cs2=cs3)(hO:O f [.ref 0 0,.ref 2 0] [.var [.ref 1 0],.var cs,.var [.ref 1 0]]=some (q,[.var [.ref 1 0],.var cs2,.var [.ref 1 0],.row 0 w xs])) :
  Zj O bf [.var cs,.var [.ref 0 0],.var [.ref 0 0],.free,.free,.free,.free] 3 f 4 false [.ref 1 0,.ref 2 0]=some (q,[.var cs3,.var [.ref 0 0],.var [.ref 0 0],.row 0 w xs,.free,.free,.free],{ any:=true,upd:=[(1,[.ref 0 0]),(0,cs3),(2,[.ref 0 0])] }):=by
 have ec:=fun ρ=>ZaV ρ cs hc
 refine ZdG (ids:=[1,0,2]) (vs:=[.ref 1 0,.ref 2 0]) hb rfl (ZAx rfl rfl rfl (ec (fun _ _=>none)).2) rfl rfl rfl ?_ hO rfl (by simp) (by simp) rfl rfl (Zbm _ q hq).1 ?_ rfl
 ·show [ZO.var (Zh _ [.ref 0 0]),.var (Zh _ cs),.var (Zh _ [.ref 0 0])]=_
  rw[(ec _).1];rfl
 ·have hb3:=hback (ZaJ [.var cs,.var [.ref 0 0],.var [.ref 0 0],.free,.free,.free,.free] [1,0,2] 3) rfl
  show [ZO.var (Zh _ cs2),.var (Zh _ [.ref 1 0]),.var (Zh _ [.ref 1 0]),.row 0 w xs,.free,.free,.free]=_
  rw[hb3];rfl
theorem ZVZ(hb:bf f=false)(hc:Zf cs=true)(hq:ZS q=true)(hc2:Zf cs2=true)(hO:O f [.ref 0 0,.ref 2 0] [.var [.ref 1 0],.var cs,.var [.ref 1 0]]=some (q,[.var [.ref 1 0],.var cs2,.var [.ref 1 0]])) :
  Zj O bf [.var cs,.var [.ref 0 0],.var [.ref 0 0],.free,.free,.free,.free] 3 f 4 false [.ref 1 0,.ref 2 0]=some (q,[.var cs2,.var [.ref 0 0],.var [.ref 0 0],.free,.free,.free,.free],{ any:=true,upd:=[(1,[.ref 0 0]),(0,cs2),(2,[.ref 0 0])] }):=by
 have ec:=fun ρ=>ZaV ρ cs hc
 refine ZdG (ids:=[1,0,2]) (vs:=[.ref 1 0,.ref 2 0]) hb rfl (ZAx rfl rfl rfl (ec (fun _ _=>none)).2) rfl rfl rfl ?_ hO rfl (by simp) (by simp) rfl rfl (Zbm _ q hq).1 ?_ rfl
 ·show [ZO.var (Zh _ [.ref 0 0]),.var (Zh _ cs),.var (Zh _ [.ref 0 0])]=_
  rw[(ec _).1];rfl
 ·show [ZO.var (Zh _ cs2),.var (Zh _ [.ref 1 0]),.var (Zh _ [.ref 1 0]),.free,.free,.free,.free]=_
  rw[(ZaV _ cs2 hc2).1];rfl
theorem ZvM(hb:bf f=false)(hc:Zt cs=[3])(hren:∀ ρ:Rho,ρ 3 0=some (2,0)->Zh ρ cs=cs1)(hq:ZS q=true)(hg2:g2<=1)(hback:∀ ρ:Rho,ρ 2 g2=some (3,g2)->Zh ρ cs2=cs3)(hO:O f [.ref 0 0,.ref 3 0] [.var [.ref 1 0],.var cs1,.row 0 w xs,.var [.ref 1 0]]=some (q,[.var [.ref 1 0],.var cs2,.row g2 w2 xs2,.var [.ref 1 0]])) :
  Zj O bf [.var cs,.var [.ref 0 0],.var [.ref 0 0],.row 0 w xs,.free,.free,.free,.free] 4 f 4 false [.ref 1 0,.ref 2 0]=some (q,[.var cs3,.var [.ref 0 0],.var [.ref 0 0],.row g2 w2 xs2,.free,.free,.free,.free],{ any:=true,upd:=[(1,[.ref 0 0]),(0,cs3),(2,[.ref 0 0])] }):=by
 refine ZdG (ids:=[1,0,3,2]) (vs:=[.ref 1 0,.ref 2 0]) hb rfl (ZFj rfl rfl rfl rfl hc) rfl rfl rfl ?_ hO rfl (by simp) (by simp) ?_ rfl (Zbm _ q hq).1 ?_ rfl
 ·have h1:=hren (Zk [.var cs,.var [.ref 0 0],.var [.ref 0 0],.row 0 w xs,.free,.free,.free,.free] 0 [1,0,3,2]) rfl
  show [ZO.var (Zh _ [.ref 0 0]),.var (Zh _ cs),.row 0 w xs,.var (Zh _ [.ref 0 0])]=_
  rw[h1];rfl
 ·simp[ZaW,okB,Zcr,Zl,hg2]
 ·have hb3:=hback (ZaJ [.var cs,.var [.ref 0 0],.var [.ref 0 0],.row 0 w xs,.free,.free,.free,.free] [1,0,3,2] 4) (by simp[ZaJ,Zl])
  show [ZO.var (Zh _ cs2),.var (Zh _ [.ref 1 0]),.var (Zh _ [.ref 1 0]),.row (0+g2) w2 xs2,.free,.free,.free,.free]=_
  rw[hb3,XB];rfl
theorem Zy9{f g:Nat}(hc:Zt cs=[3])(hg:g<=1)(hren:∀ ρ:Rho,ρ 3 g=some (3,0)->Zh ρ cs=cs1)(τ:Za) :
  gcT 3 [(1,.fn f [.ref 1 0,.ref 2 0]),(0,.ref 0 0)] (.var cs::.var [.ref 0 0]::.var [.ref 0 0]::.row g w xs::τ)=([(1,.fn f [.ref 1 0,.ref 2 0]),(0,.ref 0 0)],[.var cs1,.var [.ref 0 0],.var [.ref 0 0],.row 0 w xs]):=by
 have hi:Zu 3 [.fn f [.ref 1 0,.ref 2 0],.ref 0 0] (.var cs::.var [.ref 0 0]::.var [.ref 0 0]::.row g w xs::τ)=[0,1,2,3]:=by
  have hR:Wa 3=[0,1,2]:=rfl
  simp only[Zu,hR,XK,X5,Xo,Xu,XN,Zx,Zt,ZT,hc]
  rfl
 have hρ:Zk (.var cs::.var [.ref 0 0]::.var [.ref 0 0]::.row g w xs::τ) 3 [0,1,2,3] 3 g=some (3,0):=by
  simp[Zk,ZI,Zl,ZF]
 have hρ0:Zk (.var cs::.var [.ref 0 0]::.var [.ref 0 0]::.row g w xs::τ) 3 [0,1,2,3] 0 0=some (0,0):=rfl
 have hρ1:Zk (.var cs::.var [.ref 0 0]::.var [.ref 0 0]::.row g w xs::τ) 3 [0,1,2,3] 1 0=some (1,0):=rfl
 have hρ2:Zk (.var cs::.var [.ref 0 0]::.var [.ref 0 0]::.row g w xs::τ) 3 [0,1,2,3] 2 0=some (2,0):=rfl
 simp only[gcT,gcA,Xm,Xt,hi,Zn,Xu,XN,ZF,Zl,Zy,Zh,Zo,hρ0,hρ1,hρ2,hren _ hρ]
 simp
theorem Zmb{r:AVal}(hr:ZS r=true)(hc:Zt cs=[3])(hren:∀ ρ:Rho,ρ 3 0=some (3,0)->Zh ρ cs=cs)(τ:Za):Z4 3 (.var cs::.var [.ref 0 0]::.var [.ref 0 0]::.row 0 w xs::τ) r=some (r,[.var cs,.var [.ref 0 0],.var [.ref 0 0],.row 0 w xs]):=by
 have e1:=fun ρ=>Zbm ρ r hr
 have hi:Zu 3 [r] (.var cs::.var [.ref 0 0]::.var [.ref 0 0]::.row 0 w xs::τ)=[0,1,2,3]:=by
  have hR:Wa 3=[0,1,2]:=rfl
  simp only[Zu,(e1 (fun _ _=>none)).2,XA,hR,XK,X5,Xo,Xu,XN,Zx,Zt,ZT,hc]
  rfl
 have hρ3:Zk (.var cs::.var [.ref 0 0]::.var [.ref 0 0]::.row 0 w xs::τ) 3 [0,1,2,3] 3 0=some (3,0):=rfl
 have hρ0:Zk (.var cs::.var [.ref 0 0]::.var [.ref 0 0]::.row 0 w xs::τ) 3 [0,1,2,3] 0 0=some (0,0):=rfl
 simp only[Z4,gcA,hi,Zh,(e1 _).1,Zn,Xu,XN,ZF,Zl,Zy,Zo,hρ0,hren _ hρ3]
 rfl
theorem Zn2{r:AVal}(hr:ZS r=true)(hc:Zf cs=true)(τ:Za):Z4 3 (.var cs::.var [.ref 0 0]::.var [.ref 0 0]::τ) r=some (r,[.var cs,.var [.ref 0 0],.var [.ref 0 0]]):=by
 have e1:=fun ρ=>Zbm ρ r hr
 have e2:=fun ρ=>ZaV ρ cs hc
 have hi:Zu 3 [r] (.var cs::.var [.ref 0 0]::.var [.ref 0 0]::τ)=[0,1,2]:=by
  have hR:Wa 3=[0,1,2]:=rfl
  simp only[Zu,(e1 (fun _ _=>none)).2,XA,hR,XK,X5,Xo,Xu,XN,Zx,Zt,ZT,(e2 (fun _ _=>none)).2]
  rfl
 have hρ0:Zk (.var cs::.var [.ref 0 0]::.var [.ref 0 0]::τ) 3 [0,1,2] 0 0=some (0,0):=rfl
 simp only[Z4,gcA,hi,Zh,(e1 _).1,Zn,Xu,XN,Zy,Zo,hρ0,(e2 _).1]
end
section
variable {α:Type}{one:Zc->RK α}{g:α->AVal}{f k:Nat}(P:List AVal)(hP:P.length=26)(hN:Zf P=true)(hk:k<26)(hf:f<1000000)(hby:BY f=false)
  (hlen:∀ {l s r},one l=.ok (s,r)->r.length<l.length)
  (hT1:∀ (xs:List α) (l:Zc) (s:α) (r:Zc),l.length<=1099511627776->xs.length<=1099511627776->one l=.ok (s,r)->E f [.ref 0 0,.ref 3 0] [.var [.ref 1 0],.var (Zq P k 2 0 xs.length++[.lst false (l.map Zb)]),.row 0 1 (xs.map g),.var [.ref 1 0]]=some (.tup [],[.var [.ref 1 0],.var (Zq P k 2 1 (xs.length+1)++[.lst false (r.map Zb)]),.row 1 1 ((xs++[s]).map g),.var [.ref 1 0]]))
  (hF1:∀ (xs:List α) (l:Zc) (e:Int),l.length<=1099511627776->one l=.error e->∃ r:Zc,E f [.ref 0 0,.ref 3 0] [.var [.ref 1 0],.var (Zq P k 2 0 xs.length++[.lst false (l.map Zb)]),.row 0 1 (xs.map g),.var [.ref 1 0]]=some (.pan (ZH e),[.var [.ref 1 0],.var (Zq P k 2 0 xs.length++[.lst false (r.map Zb)]),.row 0 1 (xs.map g),.var [.ref 1 0]]))
include hP hN hk
def H3(P:List AVal)(k n:Nat)(l:Zc)(ys:List AVal):Za:=[.var (Zq P k 3 0 n++[.lst false (l.map Zb)]),.var [.ref 0 0],.var [.ref 0 0],.row 0 1 ys]
theorem ZbO(r g n:Nat)(L:Zc):Zt (Zq P k r g n++[.lst false (L.map Zb)])=[r]:=by
 rw[Zc8,Zq,ZkR hN (by omega)];rfl
theorem Zbc(r g n r' g':Nat)(L:Zc)(ρ:Rho)(h:ρ r g=some (r',g')):Zh ρ (Zq P k r g n++[.lst false (L.map Zb)])=Zq P k r' g' n++[.lst false (L.map Zb)]:=by
 rw[Zcb,Zq,Zj7 ρ hN,Zq]
 simp only[Zo,h,Zh]
include hf hby hlen hT1 hF1
theorem ZAE:∀ (n:Nat) (l:Zc) (xs:List α),l.length<=n->n+xs.length<=1099511627776 ->
  (∀ ts,Zba one n l=.ok ts->Zbl 3 [(1,.fn f [.ref 1 0,.ref 2 0]),(0,.ref 0 0)] (H3 P k xs.length l (xs.map g))=some (.tup [],H3 P k (xs++ts).length [] ((xs++ts).map g))) /\
  (∀ e,Zba one n l=.error e->∃ (xs':List α) (r:Zc),Zbl 3 [(1,.fn f [.ref 1 0,.ref 2 0]),(0,.ref 0 0)] (H3 P k xs.length l (xs.map g))=some (.pan (ZH e),H3 P k xs'.length r (xs'.map g))):=by
 intro n
 induction n with
 |zero =>
  intro l xs hl hx
  have l0:l=[]:=XG (by omega)
  subst l0
  refine⟨fun ts h=>?_,fun e h=>by simp[Zba]at h⟩
  have : ts=[]:=by simpa[Zba]using h.symm
  subst this
  rw[Xo]
  have hL:=Zcj P hP hN k hk xs.length 3 0
  have b2:=ZaI _ hL
  have hO:=Zmb (w:=1) (xs:=xs.map g) (r:=.tup []) rfl (ZbO P hP hN hk 3 0 xs.length []) (fun ρ h=>Zbc P hP hN hk 3 0 xs.length 3 0 [] ρ h)
  unfold H3 Zbl
  rw[ZR]
  generalize Zq P k 3 0 xs.length=Q at *
  generalize xs.map g=ys at *
  simp -implicitDefEqProofs only[EQA,Xe,Xc,Xa,Xg,reduceCtorEq,decide_eq_true_eq,ite_self,↓reduceIte,ZmZ,Zd8,Zdt,Zd,b2]
  exact hO _
 |succ n ih =>
  intro l xs hl hx
  have hL:=Zcj P hP hN k hk xs.length 3 0
  have b2:=ZaI _ hL
  by_cases l0:l.length=0
  ·have l0:l=[]:=XG l0
   subst l0
   refine⟨fun ts h=>?_,fun e h=>by simp[Zba]at h⟩
   have : ts=[]:=by simpa[Zba]using h.symm
   subst this
   rw[Xo]
   have hO:=Zmb (w:=1) (xs:=xs.map g) (r:=.tup []) rfl (ZbO P hP hN hk 3 0 xs.length []) (fun ρ h=>Zbc P hP hN hk 3 0 xs.length 3 0 [] ρ h)
   unfold H3 Zbl
   rw[ZR]
   generalize Zq P k 3 0 xs.length=Q at *
   generalize xs.map g=ys at *
   simp -implicitDefEqProofs only[EQA,Xe,Xc,Xa,Xg,reduceCtorEq,decide_eq_true_eq,ite_self,↓reduceIte,ZmZ,Zd8,Zdt,Zd,b2]
   exact hO _
  ·have z1:((l.length:Nat):Int)>0:=by omega
   have z2:(0:Int)<((l.length:Nat):Int):=by omega
   cases ho:one l with
   |error e =>
    refine⟨fun ts h=>by simp[Zba,l0,ho]at h,fun e' h=>?_⟩
    have : e'=e:=by simpa[Zba,l0,ho]using h.symm
    subst this
    obtain⟨r,hE⟩:=hF1 xs l e' (by omega) ho
    have hC:=ZvM (O:=E) (bf:=BY) (cs:=Zq P k 3 0 xs.length++[.lst false (l.map Zb)]) (cs3:=Zq P k 3 0 xs.length++[.lst false (r.map Zb)]) hby (ZbO P hP hN hk 3 0 xs.length l) (fun ρ h=>Zbc P hP hN hk 3 0 xs.length 2 0 l ρ h) (q:=.pan (ZH e')) rfl (by omega) (fun ρ h=>Zbc P hP hN hk 2 0 xs.length 3 0 r ρ h) hE
    have hO:=Zmb (w:=1) (xs:=xs.map g) (r:=.pan (ZH e')) rfl (ZbO P hP hN hk 3 0 xs.length r) (fun ρ h=>Zbc P hP hN hk 3 0 xs.length 3 0 r ρ h)
    refine⟨xs,r,?_⟩
    unfold H3 Zbl
    rw[ZR]
    clear hE hT1 hF1 ih
    generalize Zq P k 3 0 xs.length=Q at *
    generalize xs.map g=ys at *
    generalize ZH e'=ce at *
    simp -implicitDefEqProofs only[EQA,Xe,Xc,Xa,Xg,reduceCtorEq,↓reduceIte,Zd8,Zdt,Zd,b2,hC,hf,z1]
    exact hO _
   |ok s =>
    obtain⟨s,r⟩:=s
    have hr:=hlen ho
    have hE:=hT1 xs l s r (by omega) (by omega) ho
    have hC:=ZvM (O:=E) (bf:=BY) (cs:=Zq P k 3 0 xs.length++[.lst false (l.map Zb)]) (cs3:=Zq P k 3 1 (xs.length+1)++[.lst false (r.map Zb)]) hby (ZbO P hP hN hk 3 0 xs.length l) (fun ρ h=>Zbc P hP hN hk 3 0 xs.length 2 0 l ρ h) (q:=.tup []) rfl (by omega) (fun ρ h=>Zbc P hP hN hk 2 1 (xs.length+1) 3 1 r ρ h) hE
    have hG:=Zy9 (f:=f) (w:=1) (xs:=(xs++[s]).map g) (g:=1) (ZbO P hP hN hk 3 1 (xs.length+1) r) (by omega) (fun ρ h=>Zbc P hP hN hk 3 1 (xs.length+1) 3 0 r ρ h)
    have step:Zbl 3 [(1,.fn f [.ref 1 0,.ref 2 0]),(0,.ref 0 0)] (H3 P k xs.length l (xs.map g))=Zbl 3 [(1,.fn f [.ref 1 0,.ref 2 0]),(0,.ref 0 0)] (H3 P k (xs++[s]).length r ((xs++[s]).map g)):=by
     rw[show(xs++[s]).length=xs.length+1 from by simp]
     unfold H3
     conv=>lhs;unfold Zbl
     conv=>rhs;unfold Zbl
     conv=>lhs;rw[ZR]
     clear hE hT1 hF1 ih
     generalize Zq P k 3 0 xs.length=Q at *
     generalize Zq P k 3 1 (xs.length+1)=Q2 at *
     generalize Zq P k 3 0 (xs.length+1)=Q3 at *
     generalize xs.map g=ys at *
     generalize (xs++[s]).map g=zs at *
     simp -implicitDefEqProofs only[EQA,ZM,Xe,Xc,Xa,Xg,reduceCtorEq,↓reduceIte,Zd8,Zdt,Zd,b2,hC,hG,hf,z1]
    obtain⟨i1,i2⟩:=ih r (xs++[s]) (by omega) (by simp;omega)
    refine⟨fun ts h=>?_,fun e h=>?_⟩
    ·rw[step]
     simp only[Zba,l0,ho,if_false]at h
     cases hl2:Zba one n r with
     |error e=>rw[hl2]at h;cases h
     |ok us =>
      rw[hl2]at h
      injection h with h;subst h
      have:=i1 us hl2
      rw[XU,WG]at this
      exact this
    ·rw[step]
     simp only[Zba,l0,ho,if_false]at h
     cases hl2:Zba one n r with
     |error e2 =>
      rw[hl2]at h
      injection h with h;subst h
      exact i2 e2 hl2
     |ok us=>rw[hl2]at h;cases h
end
end
section
open Go.RowKit
def Zga(m i j:Nat)(rs:List ZcV)(σ:Za):Option (AVal×Za):=match resA [(3,.ref j 0),(2,.ref i 0)] σ rs with
 |some r=>Z4 m σ r
 |none=>none
noncomputable def ZgX(fs:Nat->Option ZA)(prim:Zcu)(bf:Nat->Bool)(tc:Nat)(c2 c3:Ze)(rs:List ZcV)(m:Nat)(tm1:Tms)(σ1:Za)(i j:Nat):Option (AVal×Za) :=
 match evC fs prim bf σ1.length c2 tm1 σ1 with
 |some (.ret,_,σ2)=>Zga m i j rs σ2
 |some (.panic (.iface t x),_,σ2)=>if t=tc then match evC fs prim bf σ1.length c3 [(10,x),(1,.ref j 0),(0,.ref i 0)] σ2 with
  |some (.normal,_,σ3)=>Zga m i j rs σ3
  |_=>none
  else none
 |_=>none
noncomputable def Zjd(fs:Nat->Option ZA)(prim:Zcu)(bf:Nat->Bool)(tc:Nat)(c1 c2 c3:Ze)(rs:List ZcV)(args:List AVal)(σ:Za):Option (AVal×Za) :=
 match evC fs prim bf σ.length c1 (enterA 0 args []) σ with
 |some (.normal,tm1,σ1)=>match tget tm1 2,tget tm1 3 with
  | .ref i 0,.ref j 0=>if σ.length<=σ1.length/\i<σ1.length/\j<σ1.length then ZgX fs prim bf tc c2 c3 rs σ.length (tput tm1 (some 5) .top) σ1 i j else none
  |_,_=>none
 |_=>none
structure ZoC(P:Program)(f h:FuncId)(ti tc:TypeId)(an1 an2 an3:Ann)(c1 c2 c3:Ze)(rs:List ZcV):Prop where
 ex:∃ (F H:Func) (b1 b2 b3 b4:Code) (i0 j0 j1 j2 j3 bid:Nat) (t1 t2 t3 t4 t5 t6 t7 t8:TypeId) (p1 p2 p3 p4 p5 p6 p7 p8:String) (a1 a2 a3 a4 a5 a6 a7 a8:Array Edge) (at1 at2:Array TypeId) (ims:Array (String×TypeId)) (k:IntKind),
  P.funcs[f]?=some F/\(F.name == "runtime.NumGoroutine")=false/\F.ntmps=20/\Zfp P F.results.toList=some rs /\
  F.body=some (.seq b1 (.seq (.region i0 #[⟨some 5,.makeFunc (.func h) #[] #[.tmp 2,.tmp 3],t1,p1,a1,none⟩,⟨none,.defer ⟨.value (.tmp 5),#[],at1⟩,t2,p2,a2,none⟩] false) b2)) /\
  Zc3 (Zbf P an1 b1)=c1/\Zc3 (Zbf P an2 b2)=c2/\an1.nt=20/\an2.nt=20/\an2.keep=[2,3] /\
  P.funcs[h]?=some H/\(H.name == "runtime.NumGoroutine")=false/\H.ntmps=13/\H.results=#[] /\
  H.body=some (.seq (.region j0 #[⟨some 5,.call ⟨.builtin .recover,#[],at2⟩,t3,p3,a3,none⟩] false) (.block bid (.seq (.region j1 #[⟨some 7,.binOp .eql ti (.tmp 5) (.const .nilIface) ti,t4,p4,a4,none⟩] false)
   (.cond (.tmp 7) (.region j2 #[⟨some 2,.assign (.tmp 5),t5,p5,a5,none⟩] false)
    (.seq (.region j3 #[⟨some 8,.typeAssert (.tmp 5) ti tc true,t6,p6,a6,none⟩,⟨some 9,.extract (.tmp 8) 1,t7,p7,a7,none⟩,⟨some 10,.extract (.tmp 8) 0,t8,p8,a8,none⟩] false)
     (.cond (.tmp 9) b3 b4)))))) /\
  Zc3 (Zbf P an3 b3)=c3/\an3.nt=13/\P.underlying ti=some (.interface ims)/\P.underlying tc=some (.int k)
section
variable {P:Program}{O:ZV}{bf:Nat->Bool}{base:Nat->Prop}{w0 w:World}{I0 I:Imm}{β:Bmap}{σ:Za}
theorem Zi2{m:Nat}{I':Imm}{β':Bmap}{i:Nat}{v:Value}(hk:KeptE m β β')(hi:i<m)(h:VR I β (.ref i 0) v):VR I' β' (.ref i 0) v:=by
 simp only[VR]at h⊢
 obtain⟨b,k,c,h1,h2⟩:=h
 exact⟨b,k,c,hk i hi _ h1,h2⟩
theorem Zxl{F:Func}{rs:List ZcV}(hrs:Zfp P F.results.toList=some rs){m i j:Nat}{tmps:Array Value}{I':Imm}{β':Bmap}{σ' σ2:Za}{w':World}{r:AVal}(hI:I.le I')(hk:KeptE m β β')(R:Rel base w0 I0 I' β' σ2 w')(h2:VR I' β' (.ref i 0) (tmps.getD 2 undef))(h3:VR I' β' (.ref j 0) (tmps.getD 3 undef))(h:Zga m i j rs σ2=some (r,σ')) :
  ∃ v,(results F tmps).run P w'=.ok v w'/\∃ u,Ends r (.returned v) u/\ZbW m base w0 I0 I β r σ' u w':=by
 unfold Zga at h
 split at h
 ·rename_i x hx
  have T:TR I' β' [(3,.ref j 0),(2,.ref i 0)] tmps:=by
   intro n
   simp only[tget]
   split
   ·rename_i e;subst e;exact h3
   ·split
    ·rename_i e;subst e;exact h2
    ·simp only[VR]
  obtain⟨v,q1,q2⟩:=ZAo T R hrs hx
  have hnp:∀ y,x≠.pan y:=by rintro y rfl;simp only[VR]at q2
  obtain⟨p1,p2⟩:=Zlk (⟨I',β',hI,hk,R,by rw[ZgO hnp];exact q2⟩:ZbW m base w0 I0 I β x σ2 v w') h
  refine⟨v,q1,v,p2 _ ?_,p1⟩
  cases x<;>first |rfl |exact absurd rfl (hnp _)
 ·cases h
theorem pgs{a:Act}{d:Nat}{u:Value}(h:d<a.tmps.size):(a.put (some d) u).tmps.getD d undef=u:=by
 simp[Act.put,WY,h]
theorem Zjh{m:Sem Value}{u:Value}(h:m.run P w=.ok u w):(do let q <-m;pure (Next.value q):Sem Next).run P w=.ok (.value u) w:=by
 rw[Sem.run_bind,h];rfl
theorem pgn{a:Act}{d j:Nat}{u:Value}(h:d≠j):(a.put (some d) u).tmps.getD j undef=a.tmps.getD j undef:=by
 simp only[Act.put,Array.getD_eq_getD_getElem?]
 rw[Array.getElem?_setIfInBounds_ne h]
theorem ZSd(hm:P.follows .mixedOrders=true)(hO:ZaO P O){f h:FuncId}{ti tc:TypeId}{an1 an2 an3:Ann}{c1 c2 c3:Ze}{rs:List ZcV}(D:ZoC P f h ti tc an1 an2 an3 c1 c2 c3 rs)(hb:KLt base w0)(R:Rel base w0 I0 I β σ w)
  {i j m n:Nat} {x:AVal} {v2 v3 v:Value} (h2:VR I β (.ref i 0) v2) (h3:VR I β (.ref j 0) v3) (hv:VR I β x v) {tm':Tms} {σ':Za} (hx:Zak O bf m n c3 [(10,x),(1,.ref j 0),(0,.ref i 0)] σ=some (.normal,tm',σ')) :
  CallsD P h #[v2,v3] (.panicking [{ v:=.iface tc v,recovered:=false }]) w fun e u' w'=>e=.returned (.tuple #[])/\u'=.panicking [{ v:=.iface tc v,recovered:=true }]/\∃ I' β',I.le I'/\KeptE m β β'/\Rel base w0 I0 I' β' σ' w':=by
 obtain⟨F,H,b1,b2,b3,b4,i0,j0,j1,j2,j3,bid,t1,t2,t3,t4,t5,t6,t7,t8,p1,p2,p3,p4,p5,p6,p7,p8,a1,a2,a3,a4,a5,a6,a7,a8,at1,at2,ims,k,hF,hname,hnt,hrs,hbody,hc1,hc2,hn1,hn2,hk2,hH,hHname,hHn,hHr,hHb,hc3,hn3,hti,htc⟩:=D.ex
 refine callsD_of_wpS hH hHb fun c₀ cs hu=>?_
 apply wpS_seq
 apply wpS_region
 simp[wpOpsS,go_sem,recoverD,hu,hHn,Exit.thenS]
 refine wpS_of_wp ?_
 generalize hT:(#[v2,v3]++(W5 11 undef).setIfInBounds 3 (Value.iface tc v))=T
 have hs:T.size=13:=by rw[<-hT];simp
 have hT0:T.getD 0 undef=v2:=by rw[<-hT];simp[WY]
 have hT1:T.getD 1 undef=v3:=by rw[<-hT];simp[WY]
 have hT5:T.getD 5 undef=.iface tc v:=by rw[<-hT];simp[WY]
 clear hT
 refine wp_block (wp_seq (wp_region_list (ZfC rfl ?_)))
 unfold Oper.wp
 have e1:∀ o:Oper,o.op=.binOp .eql ti (.tmp 5) (.const .nilIface) ti->(execOp ({ tmps:=T,defers:=[] }:Act).eval o).run P w=.ok (.value (.bool false)) w:=by
  intro o ho
  unfold execOp;rw[ho]
  simp only[Act.eval,hT5]
  exact Zjh (ZAu (P:=P) (w:=w) (t1:=tc) (u:=v) hti false (op:=.eql) (.tmp 5) .nilIface rfl)
 rw[e1 _ rfl,Oper.upon_value]
 refine wpList_nil ?_
 simp only[Exit.then]
 refine wp_cond_false (by simp only[Act.eval];exact pgs (by simp[hs])) ?_
 refine wp_seq (wp_region_list (ZfC rfl ?_))
 unfold Oper.wp
 generalize hA1:({ tmps:=T,defers:=[] }:Act).put (some 7) (.bool false)=A1
 have hs1:A1.tmps.size=13:=by rw[<-hA1,Zfh];exact hs
 have g1:∀ j,j≠7->A1.tmps.getD j undef=T.getD j undef:=by intro j hj;rw[<-hA1];exact pgn (by omega)
 have hd1:A1.defers=[]:=by rw[<-hA1];rfl
 have e2:∀ o:Oper,o.op=.typeAssert (.tmp 5) ti tc true->(execOp A1.eval o).run P w=.ok (.value (.tuple #[v,.bool true])) w:=by
  intro o ho
  unfold execOp;rw[ho]
  simp only[Act.eval,g1 5 (by omega),hT5]
  refine Zjh ?_
  simp[Instr.typeAssert,underlying,htc]
 rw[e2 _ rfl,Oper.upon_value]
 generalize hA2:A1.put (some 8) (.tuple #[v,.bool true])=A2
 have hs2:A2.tmps.size=13:=by rw[<-hA2,Zfh];exact hs1
 have g2:∀ j,j≠8->A2.tmps.getD j undef=A1.tmps.getD j undef:=by intro j hj;rw[<-hA2];exact pgn (by omega)
 have g28:A2.tmps.getD 8 undef=.tuple #[v,.bool true]:=by rw[<-hA2];exact pgs (by omega)
 have hd2:A2.defers=[]:=by rw[<-hA2];exact hd1
 refine ZfC rfl ?_
 unfold Oper.wp
 have e3:∀ o:Oper,o.op=.extract (.tmp 8) 1->(execOp A2.eval o).run P w=.ok (.value (.bool true)) w:=by
  intro o ho
  unfold execOp;rw[ho]
  simp only[Act.eval,g28]
  refine Zjh ?_
  simp[Instr.extract]
 rw[e3 _ rfl,Oper.upon_value]
 generalize hA3:A2.put (some 9) (.bool true)=A3
 have hs3:A3.tmps.size=13:=by rw[<-hA3,Zfh];exact hs2
 have g3:∀ j,j≠9->A3.tmps.getD j undef=A2.tmps.getD j undef:=by intro j hj;rw[<-hA3];exact pgn (by omega)
 have g39:A3.tmps.getD 9 undef=.bool true:=by rw[<-hA3];exact pgs (by omega)
 have hd3:A3.defers=[]:=by rw[<-hA3];exact hd2
 refine ZfC rfl ?_
 unfold Oper.wp
 have e4:∀ o:Oper,o.op=.extract (.tmp 8) 0->(execOp A3.eval o).run P w=.ok (.value v) w:=by
  intro o ho
  unfold execOp;rw[ho]
  simp only[Act.eval,g3 8 (by omega),g28]
  refine Zjh ?_
  simp[Instr.extract]
 rw[e4 _ rfl,Oper.upon_value]
 generalize hA4:A3.put (some 10) v=A4
 have hs4:A4.tmps.size=13:=by rw[<-hA4,Zfh];exact hs3
 have g4:∀ j,j≠10->A4.tmps.getD j undef=A3.tmps.getD j undef:=by intro j hj;rw[<-hA4];exact pgn (by omega)
 have g410:A4.tmps.getD 10 undef=v:=by rw[<-hA4];exact pgs (by omega)
 have hd4:A4.defers=[]:=by rw[<-hA4];exact hd3
 refine wpList_nil ?_
 simp only[Exit.then]
 refine wp_cond_true (by simp only[Act.eval];rw[g4 9 (by omega),g39]) ?_
 have hst:StF Zb3 m an3.nt base w0 I0 I β [(10,x),(1,.ref j 0),(0,.ref i 0)] σ A4 w:=by
  refine⟨I,β,Imm.le.refl I,KeptE.refl _ β,fun n=>?_,⟨ZfL.2 hd4,by rw[hs4,hn3];omega⟩,R⟩
  simp only[tget]
  split
  ·rename_i e;subst e;rw[g410];exact hv
  ·split
   ·rename_i e;subst e;rw[g4 1 (by omega),g3 1 (by omega),g2 1 (by omega),g1 1 (by omega),hT1];exact h3
   ·split
    ·rename_i e;subst e;rw[g4 0 (by omega),g3 0 (by omega),g2 0 (by omega),g1 0 (by omega),hT0];exact h2
    ·simp only[VR]
 rw[<-hc3,ZeU]at hx
 refine ZjL (dr:=Zb3) (an:=an3) hO (fun n hn=>by simp[Zb3]at hn) hm hb m n rfl hst hx ?_
 intro a' w' ⟨I',β',k1,k2,k3,k4,k5⟩
 simp only[Exit.inBlock,bodyPostS]
 refine⟨ZfL.1 k4.1,_,rfl,.tuple #[],?_,rfl,rfl,I',k1,β',k2,k5⟩
 simp[results,hHr]
theorem ZPg{f h:FuncId}{ti tc:TypeId}{an1 an2 an3:Ann}{c1 c2 c3:Ze}{rs:List ZcV}(D:ZoC P f h ti tc an1 an2 an3 c1 c2 c3 rs){v2 v3:Value}{w:World} :
  CallsD P h #[v2,v3] .returning w fun e u' w'=>e=.returned (.tuple #[])/\u'=.returning/\w'=w:=by
 obtain⟨F,H,b1,b2,b3,b4,i0,j0,j1,j2,j3,bid,t1,t2,t3,t4,t5,t6,t7,t8,p1,p2,p3,p4,p5,p6,p7,p8,a1,a2,a3,a4,a5,a6,a7,a8,at1,at2,ims,k,hF,hname,hnt,hrs,hbody,hc1,hc2,hn1,hn2,hk2,hH,hHname,hHn,hHr,hHb,hc3,hn3,hti,htc⟩:=D.ex
 refine callsD_of_wpS hH hHb fun c₀ cs hu=>?_
 apply wpS_seq
 apply wpS_region
 simp[wpOpsS,go_sem,recoverD,hu,hHn,Exit.thenS]
 refine wpS_of_wp ?_
 generalize hT:(#[v2,v3]++(W5 11 undef).setIfInBounds 3 Value.nilIface)=T
 have hs:T.size=13:=by rw[<-hT];simp
 have hT5:T.getD 5 undef=.nilIface:=by rw[<-hT];simp[WY]
 clear hT
 refine wp_block (wp_seq (wp_region_list (ZfC rfl ?_)))
 unfold Oper.wp
 have e1:∀ o:Oper,o.op=.binOp .eql ti (.tmp 5) (.const .nilIface) ti->(execOp ({ tmps:=T,defers:=[] }:Act).eval o).run P w=.ok (.value (.bool true)) w:=by
  intro o ho
  unfold execOp;rw[ho]
  simp only[Act.eval,hT5]
  exact Zjh (ZA3 (P:=P) (w:=w) hti false (op:=.eql) (.tmp 5) .nilIface rfl)
 rw[e1 _ rfl,Oper.upon_value]
 refine wpList_nil ?_
 simp only[Exit.then]
 refine wp_cond_true (by simp only[Act.eval];exact pgs (by simp[hs])) ?_
 refine wp_region_list (ZfC rfl ?_)
 unfold Oper.wp
 generalize hA1:({ tmps:=T,defers:=[] }:Act).put (some 7) (.bool true)=A1
 have g1:∀ j,j≠7->A1.tmps.getD j undef=T.getD j undef:=by intro j hj;rw[<-hA1];exact pgn (by omega)
 have hd1:A1.defers=[]:=by rw[<-hA1];rfl
 have e2:∀ o:Oper,o.op=.assign (.tmp 5)->(execOp A1.eval o).run P w=.ok (.value .nilIface) w:=by
  intro o ho
  unfold execOp;rw[ho]
  simp[Act.eval,g1 5 (by omega),hT5]
 rw[e2 _ rfl,Oper.upon_value]
 refine wpList_nil ?_
 simp only[Exit.inBlock,bodyPostS]
 refine⟨hd1,.returning,?_,.tuple #[],?_,rfl,rfl,trivial⟩
 ·cases c₀;simp_all
 ·simp[results,hHr]
end
section
variable {P:Program}{fs:Nat->Option ZA}{prim:Zcu}{bf:Nat->Bool}
theorem ZHh(hm:P.follows .mixedOrders=true)(hO:∀ n,ZaO P (Zay fs prim bf n)){f h:FuncId}{ti tc:TypeId}{an1 an2 an3:Ann}{c1 c2 c3:Ze}{rs:List ZcV}(D:ZoC P f h ti tc an1 an2 an3 c1 c2 c3 rs)
  {args:List AVal} {σ σ':Za} {r:AVal} (hg:Zjd fs prim bf tc c1 c2 c3 rs args σ=some (r,σ')) :
  (∃ fn,P.funcs[f]?=some fn/\fn.body.isSome=true/\(fn.name == "runtime.NumGoroutine")=false) /\
  ∀ base w0 I0 I β w (vs:Array Value),KLt base w0->Rel base w0 I0 I β σ w->VRs I β args vs.toList ->
   Calls P f vs w (fun e w'=>∃ u,Ends r e u/\ZbW σ.length base w0 I0 I β r σ' u w'):=by
 obtain⟨F,H,b1,b2,b3,b4,i0,j0,j1,j2,j3,bid,t1,t2,t3,t4,t5,t6,t7,t8,p1,p2,p3,p4,p5,p6,p7,p8,a1,a2,a3,a4,a5,a6,a7,a8,at1,at2,ims,k,hF,hname,hnt,hrs,hbody,hc1,hc2,hn1,hn2,hk2,hH,hHname,hHn,hHr,hHb,hc3,hn3,hti,htc⟩:=D.ex
 refine⟨⟨F,hF,by rw[hbody];rfl,hname⟩,?_⟩
 intro base w0 I0 I β w vs hb R hargs
 unfold Zjd at hg
 split at hg
 case h_2=>cases hg
 rename_i tm1 σ1 hx1
 split at hg
 case h_2=>cases hg
 rename_i i j hi hj
 split at hg
 case isFalse=>cases hg
 rename_i hlen
 obtain⟨hl0,hli,hlj⟩:=hlen
 obtain⟨n1,hx1⟩:=ZbF.1 hx1
 rw[<-hc1,ZeU]at hx1
 refine calls_of_wp_defers hF hbody ?_
 have T:=Zq7 hargs (F.ntmps-vs.size)
 have hst:StF Zb3 σ.length an1.nt base w0 I0 I β (enterA 0 args []) σ { tmps:=vs++W5 (F.ntmps-vs.size) undef,defers:=[] } w:=⟨I,β,Imm.le.refl I,KeptE.refl _ β,T,⟨ZfL.2 rfl,by rw[hn1];simp;omega⟩,R⟩
 refine wp_seq ?_
 refine ZjL (dr:=Zb3) (an:=an1) (hO n1) (fun n hn=>by simp[Zb3]at hn) hm hb σ.length n1 rfl hst hx1 ?_
 rintro A0 w1 ⟨I1,β1,g1,g2,T1,⟨gd,gs⟩,R1⟩
 have gd:=ZfL.1 gd
 rw[hn1]at gs
 simp only[Exit.then]
 refine wp_seq (wp_region_list (ZfC rfl ?_))
 unfold Oper.wp
 have e1:∀ o:Oper,o.op=.makeFunc (.func h) #[] #[.tmp 2,.tmp 3]->(execOp A0.eval o).run P w1=.ok (.value (.func (.func h) #[] #[A0.tmps.getD 2 undef,A0.tmps.getD 3 undef])) w1:=by
  intro o ho
  unfold execOp;rw[ho]
  refine Zjh ?_
  simp[Instr.makeFunc,Act.eval]
 rw[e1 _ rfl,Oper.upon_value]
 generalize hv2:A0.tmps.getD 2 undef=v2
 generalize hv3:A0.tmps.getD 3 undef=v3
 have hr2:VR I1 β1 (.ref i 0) v2:=by rw[<-hv2,<-hi];exact T1 2
 have hr3:VR I1 β1 (.ref j 0) v3:=by rw[<-hv3,<-hj];exact T1 3
 generalize hA1:A0.put (some 5) (.func (.func h) #[] #[v2,v3])=A1
 have hs1:A1.tmps.size=A0.tmps.size:=by rw[<-hA1,Zfh]
 have q1:∀ j,j≠5->A1.tmps.getD j undef=A0.tmps.getD j undef:=by intro j hj;rw[<-hA1];exact pgn (by omega)
 have q5:A1.tmps.getD 5 undef=.func (.func h) #[] #[v2,v3]:=by rw[<-hA1];exact pgs (by omega)
 have hd1:A1.defers=[]:=by rw[<-hA1];exact gd
 refine ZfC rfl ?_
 unfold Oper.wp
 have e2:∀ o:Oper,o.op=.defer ⟨.value (.tmp 5),#[],at1⟩->(execOp A1.eval o).run P w1=.ok (.defer ⟨.fn (.func h) #[v2,v3],#[]⟩) w1:=by
  intro o ho
  unfold execOp;rw[ho]
  simp[resolve,Act.eval,q5,Deferred.ofValue]
 rw[e2 _ rfl,Oper.upon_defer]
 refine wpList_nil ?_
 simp only[Exit.then]
 generalize hd:(⟨.fn (.func h) #[v2,v3],#[]⟩:Deferred)=d
 have hA2:({ A1 with defers:=d::A1.defers }:Act).put none undef={ A1 with defers:=[d] }:=by rw[hd1];rfl
 rw[hA2]
 let dr:Door:=⟨[d],[2,3],fun n=>if n=2 then v2 else v3⟩
 have hdr:dr.ok { A1 with defers:=[d] }:=by
  refine⟨rfl,fun j hj=>?_⟩
  simp only[dr,XR,Xbc,or_false]at hj
  rcases hj with rfl |rfl
  ·show A1.tmps.getD 2 undef=_;rw[q1 2 (by omega),hv2];rfl
  ·show A1.tmps.getD 3 undef=_;rw[q1 3 (by omega),hv3];rfl
 have T2:TR I1 β1 (tput tm1 (some 5) .top) A1.tmps:=by
  rw[<-hA1]
  exact ZtI T1 (by simp only[VR]) (fun n hn=>by injection hn with hn;omega)
 unfold ZgX at hg
 have hst2:StF dr σ1.length an2.nt base w0 I0 I1 β1 (tput tm1 (some 5) .top) σ1 { A1 with defers:=[d] } w1:=⟨I1,β1,Imm.le.refl I1,KeptE.refl _ β1,T2,⟨hdr,by rw[hn2];show 20<=A1.tmps.size;omega⟩,R1⟩
 have lift:∀ {I':Imm} {β':Bmap},I1.le I'->KeptE σ1.length β1 β'->I.le I'/\KeptE σ.length β β':=fun h1 h2=>⟨g1.trans h1,g2.trans (fun t ht bi e=>h2 t (by omega) bi e)⟩
 have hinv:∀ w:World,(invoke (.fn (.func h) #[v2,v3]) #[]).run P w=.ok (.enter h #[v2,v3]) w:=fun w=>by
  unfold invoke
  simpa using Zl4 (args:=#[v2,v3]) (w:=w) hH (by rw[hHb];rfl) hHname
 have tm2:∀ {A:Act},dr.ok A->A.tmps.getD 2 undef=v2/\A.tmps.getD 3 undef=v3:=fun hA=>⟨hA.2 2 (by simp[dr]),hA.2 3 (by simp[dr])⟩
 split at hg
 case h_3=>cases hg
 ·rename_i tmx σ2 hx2
  obtain⟨n2,hx2⟩:=ZbF.1 hx2
  rw[<-hc2,ZeU]at hx2
  refine ZjL (dr:=dr) (an:=an2) (hO n2) (fun n hn=>by rw[hk2];exact hn) hm hb σ1.length n2 rfl hst2 hx2 ?_
  rintro A3 w3 ⟨I3,β3,k1,k2,T3,⟨kd,ks⟩,R3⟩
  show Leaves P F A3.tmps _ A3.defers .returning w3
  rw[kd.1]
  show Leaves P F A3.tmps _ [d] .returning w3
  rw[<-hd]
  refine leaves_cons (f:=h) (args:=#[v2,v3]) (by simp) (hinv w3) ?_
  refine(ZPg D).mono ?_
  rintro e u' w' ⟨rfl,rfl,rfl⟩
  simp only[settle,Leaves]
  obtain⟨l1,l2⟩:=lift k1 k2
  exact Zxl hrs l1 l2 R3 (by rw[(tm2 kd).1];exact Zi2 k2 hli hr2) (by rw[(tm2 kd).2];exact Zi2 k2 hlj hr3) hg
 ·rename_i t x tmx σ2 hx2
  split at hg
  case isFalse=>cases hg
  rename_i ht
  subst ht
  split at hg
  case h_2=>cases hg
  rename_i tmy σ3 hx3
  obtain⟨n2,hx2⟩:=ZbF.1 hx2
  rw[<-hc2,ZeU]at hx2
  obtain⟨n3,hx3⟩:=ZbF.1 hx3
  refine ZjL (dr:=dr) (an:=an2) (hO n2) (fun n hn=>by rw[hk2];exact hn) hm hb σ1.length n2 rfl hst2 hx2 ?_
  rintro A3 u w3 kd ⟨I3,β3,k1,k2,R3,kv⟩
  simp only[Zbg,VR]at kv
  obtain⟨v,rfl,kv⟩:=kv
  show Leaves P F A3.tmps _ A3.defers (.panicking [{ v:=.iface t v,recovered:=false }]) w3
  rw[kd.1]
  show Leaves P F A3.tmps _ [d] _ w3
  rw[<-hd]
  refine leaves_cons (f:=h) (args:=#[v2,v3]) (by simp) (hinv w3) ?_
  refine(ZSd hm (hO n3) D hb R3 (Zi2 k2 hli hr2) (Zi2 k2 hlj hr3) kv hx3).mono ?_
  rintro e u' w' ⟨rfl,rfl,I4,β4,m1,m2,R4⟩
  simp only[settle,List.dropWhile,Leaves]
  have k3:=k2.trans m2
  obtain⟨l1,l2⟩:=lift (k1.trans m1) k3
  exact Zxl hrs l1 l2 R4 (by rw[(tm2 kd).1];exact Zi2 k3 hli hr2) (by rw[(tm2 kd).2];exact Zi2 k3 hlj hr3) hg
end
section
variable {fs:Nat->Option ZA}{p p':Zcu}{bf:Nat->Bool}
theorem ZvE(h0:∀ f,p f=none->p' f=none)(h1:∀ f g,p f=some g->p' f=some g\/∀ a σ,g a σ=none):∀ n,OLe (Zay fs p bf n) (Zay fs p' bf n)
 |0=>by intro f a σ r h;simp only[Zay]at h;cases h
 |n+1=>by
  intro f a σ r h
  rw[Zay]at h⊢
  split at h
  ·rename_i g hg
   rcases h1 f g hg with h2 |h2
   ·rw[h2];exact h
   ·rw[h2]at h;cases h
  ·rename_i hg
   rw[h0 f hg]
   split at h
   ·cases h
   ·rename_i fn hfn
    exact ZkW (fun q hq=>ZdS (ZvE h0 h1 n) (XF n) hq) h
theorem ZKs(h0:∀ f,p f=none->p' f=none)(h1:∀ f g,p f=some g->p' f=some g\/∀ a σ,g a σ=none):OLe (EV fs p bf) (EV fs p' bf):=by
 intro f a σ r h
 obtain⟨n,hn⟩:=ZbQ.1 h
 exact ZbQ.2 ⟨n,ZvE h0 h1 n f a σ r hn⟩
end
end
section
open Go.Shelf
def ZSu:Ren:=⟨fun |137=>124 |217=>149 |266=>167 |n=>n,fun |9=>9 |5=>5 |3=>3 |n=>n,fun |n=>n⟩
theorem ZXi:Go.Proofs.Lays.n137 Tryz.prog ZSu:={ mixed:=by kernel_rfl,f137:=Tryz.func124.trans (congrArg some (by kernel_rfl)),f217:=Tryz.func149.trans (congrArg some (by kernel_rfl)),f266:=Tryz.func167.trans (congrArg some (by kernel_rfl)),t3:=Tryz.underlying3,a3:=Tryz.isAgg3,z3:=Tryz.sizeOf3,v3:=Tryz.zeroValue3,t5:=Tryz.underlying5,a5:=Tryz.isAgg5,z5:=Tryz.sizeOf5,v5:=Tryz.zeroValue5,t9:=Tryz.underlying9,a9:=Tryz.isAgg9,z9:=Tryz.sizeOf9,v9:=Tryz.zeroValue9 }
def ZQr:Ren:=⟨fun |217=>149 |266=>167 |n=>n,fun |9=>9 |5=>5 |3=>3 |n=>n,fun |n=>n⟩
theorem ZF6:Go.Proofs.Lays.n217 Tryz.prog ZQr:={ mixed:=by kernel_rfl,f217:=Tryz.func149.trans (congrArg some (by kernel_rfl)),f266:=Tryz.func167.trans (congrArg some (by kernel_rfl)),t3:=Tryz.underlying3,a3:=Tryz.isAgg3,z3:=Tryz.sizeOf3,v3:=Tryz.zeroValue3,t5:=Tryz.underlying5,a5:=Tryz.isAgg5,z5:=Tryz.sizeOf5,v5:=Tryz.zeroValue5,t9:=Tryz.underlying9,a9:=Tryz.isAgg9,z9:=Tryz.sizeOf9,v9:=Tryz.zeroValue9 }
section
open Go.Shelf
def ZMv:Ren:=⟨fun |138=>121 |195=>145 |218=>147 |143=>122 |219=>148 |217=>149 |225=>127 |224=>126 |267=>166 |266=>167 |314=>176 |n=>n,fun |9=>9 |3=>3 |4=>4 |5=>5 |0=>0 |46=>115 |146=>244 |51=>232 |n=>n,fun |1=>5 |n=>n⟩
theorem ZXa:Go.Proofs.Lays.n138 Tryz.prog ZMv:={ mixed:=by kernel_rfl,f138:=Tryz.func121.trans (congrArg some (by kernel_rfl)),f143:=Tryz.func122.trans (congrArg some (by kernel_rfl)),f195:=Tryz.func145.trans (congrArg some (by kernel_rfl)),f217:=Tryz.func149.trans (congrArg some (by kernel_rfl)),f218:=Tryz.func147.trans (congrArg some (by kernel_rfl)),f219:=Tryz.func148.trans (congrArg some (by kernel_rfl)),f224:=Tryz.func126.trans (congrArg some (by kernel_rfl)),f225:=Tryz.func127.trans (congrArg some (by kernel_rfl)),f266:=Tryz.func167.trans (congrArg some (by kernel_rfl)),f267:=Tryz.func166.trans (congrArg some (by kernel_rfl)),f314:=Tryz.func176.trans (congrArg some (by kernel_rfl)),t0:=Tryz.underlying0,a0:=Tryz.isAgg0,z0:=Tryz.sizeOf0,v0:=Tryz.zeroValue0,t3:=Tryz.underlying3,a3:=Tryz.isAgg3,z3:=Tryz.sizeOf3,v3:=Tryz.zeroValue3,t4:=Tryz.underlying4,a4:=Tryz.isAgg4,z4:=Tryz.sizeOf4,v4:=Tryz.zeroValue4,t5:=Tryz.underlying5,a5:=Tryz.isAgg5,z5:=Tryz.sizeOf5,v5:=Tryz.zeroValue5,t9:=Tryz.underlying9,a9:=Tryz.isAgg9,z9:=Tryz.sizeOf9,v9:=Tryz.zeroValue9,t46:=Tryz.underlying115,a46:=Tryz.isAgg115,z46:=Tryz.sizeOf115,v46:=Tryz.zeroValue115,t51:=Tryz.underlying232,a51:=Tryz.isAgg232,z51:=Tryz.sizeOf232,v51:=Tryz.zeroValue232,t146:=Tryz.underlying244,a146:=Tryz.isAgg244,z146:=Tryz.sizeOf244,v146:=Tryz.zeroValue244,g1:=by kernel_rfl }
end
end
section
open Go.Shelf
def ZOt:Ren:=⟨fun |196=>88 |259=>123 |n=>n,fun |9=>9 |4=>4 |3=>3 |5=>5 |12=>12 |119=>183 |0=>0 |46=>115 |139=>186 |138=>185 |53=>162 |n=>n,fun |3=>0 |4=>1 |n=>n⟩
theorem Zwc:Go.Proofs.Lays.n196 Tryz.prog ZOt:={ mixed:=by kernel_rfl,f196:=Tryz.func88.trans (congrArg some (by kernel_rfl)),f259:=Tryz.func123.trans (congrArg some (by kernel_rfl)),t0:=Tryz.underlying0,a0:=Tryz.isAgg0,z0:=Tryz.sizeOf0,v0:=Tryz.zeroValue0,t3:=Tryz.underlying3,a3:=Tryz.isAgg3,z3:=Tryz.sizeOf3,v3:=Tryz.zeroValue3,t4:=Tryz.underlying4,a4:=Tryz.isAgg4,z4:=Tryz.sizeOf4,v4:=Tryz.zeroValue4,t5:=Tryz.underlying5,a5:=Tryz.isAgg5,z5:=Tryz.sizeOf5,v5:=Tryz.zeroValue5,t9:=Tryz.underlying9,a9:=Tryz.isAgg9,z9:=Tryz.sizeOf9,v9:=Tryz.zeroValue9,t12:=Tryz.underlying12,a12:=Tryz.isAgg12,z12:=Tryz.sizeOf12,v12:=Tryz.zeroValue12,t46:=Tryz.underlying115,a46:=Tryz.isAgg115,z46:=Tryz.sizeOf115,v46:=Tryz.zeroValue115,t53:=Tryz.underlying162,a53:=Tryz.isAgg162,z53:=Tryz.sizeOf162,v53:=Tryz.zeroValue162,t119:=Tryz.underlying183,a119:=Tryz.isAgg183,z119:=Tryz.sizeOf183,t138:=Tryz.underlying185,a138:=Tryz.isAgg185,z138:=Tryz.sizeOf185,v138:=Tryz.zeroValue185,t139:=Tryz.underlying186,a139:=Tryz.isAgg186,z139:=Tryz.sizeOf186,v139:=Tryz.zeroValue186,g3:=by kernel_rfl,g4:=by kernel_rfl }
end
section
open Go.Shelf
def ZF8:Ren:=⟨fun |171=>60 |243=>85 |246=>119 |283=>141 |284=>142 |285=>143 |286=>144 |129=>161 |317=>160 |318=>162 |319=>163 |320=>164 |337=>174 |338=>175 |n=>n,fun |3=>3 |9=>9 |2=>2 |4=>4 |171=>205 |0=>0 |53=>162 |37=>22 |5=>5 |173=>208 |212=>231 |51=>232 |20=>20 |213=>233 |46=>115 |232=>247 |233=>248 |n=>n,fun |17=>6 |18=>7 |19=>8 |n=>n⟩
theorem ZTM:Go.Proofs.LaysM.n171 Tryz.prog ZF8:={ mixed:=by kernel_rfl,f129:=Tryz.func161.trans (congrArg some (by kernel_rfl)),f171:=Tryz.func60.trans (congrArg some (by kernel_rfl)),f243:=Tryz.func85.trans (congrArg some (by kernel_rfl)),f246:=Tryz.func119.trans (congrArg some (by kernel_rfl)),f283:=Tryz.func141.trans (congrArg some (by kernel_rfl)),f284:=Tryz.func142.trans (congrArg some (by kernel_rfl)),f285:=Tryz.func143.trans (congrArg some (by kernel_rfl)),f286:=Tryz.func144.trans (congrArg some (by kernel_rfl)),f317:=Tryz.func160.trans (congrArg some (by kernel_rfl)),f318:=Tryz.func162.trans (congrArg some (by kernel_rfl)),f319:=Tryz.func163.trans (congrArg some (by kernel_rfl)),f320:=Tryz.func164.trans (congrArg some (by kernel_rfl)),f337:=Tryz.func174.trans (congrArg some (by kernel_rfl)),f338:=Tryz.func175.trans (congrArg some (by kernel_rfl)),t0:=Tryz.underlying0,a0:=Tryz.isAgg0,z0:=Tryz.sizeOf0,v0:=Tryz.zeroValue0,t2:=Tryz.underlying2,a2:=Tryz.isAgg2,z2:=Tryz.sizeOf2,v2:=Tryz.zeroValue2,t3:=Tryz.underlying3,a3:=Tryz.isAgg3,z3:=Tryz.sizeOf3,v3:=Tryz.zeroValue3,t4:=Tryz.underlying4,a4:=Tryz.isAgg4,z4:=Tryz.sizeOf4,v4:=Tryz.zeroValue4,t5:=Tryz.underlying5,a5:=Tryz.isAgg5,z5:=Tryz.sizeOf5,v5:=Tryz.zeroValue5,t9:=Tryz.underlying9,a9:=Tryz.isAgg9,z9:=Tryz.sizeOf9,v9:=Tryz.zeroValue9,t20:=Tryz.underlying20,a20:=Tryz.isAgg20,z20:=Tryz.sizeOf20,v20:=Tryz.zeroValue20,t37:=Tryz.underlying22,a37:=Tryz.isAgg22,z37:=Tryz.sizeOf22,v37:=Tryz.zeroValue22,t46:=Tryz.underlying115,a46:=Tryz.isAgg115,z46:=Tryz.sizeOf115,v46:=Tryz.zeroValue115,t51:=Tryz.underlying232,a51:=Tryz.isAgg232,z51:=Tryz.sizeOf232,v51:=Tryz.zeroValue232,t53:=Tryz.underlying162,a53:=Tryz.isAgg162,z53:=Tryz.sizeOf162,v53:=Tryz.zeroValue162,t171:=Tryz.underlying205,a171:=Tryz.isAgg205,z171:=Tryz.sizeOf205,v171:=Tryz.zeroValue205,t173:=Tryz.underlying208,a173:=Tryz.isAgg208,z173:=Tryz.sizeOf208,v173:=Tryz.zeroValue208,t212:=Tryz.underlying231,a212:=Tryz.isAgg231,z212:=Tryz.sizeOf231,v212:=Tryz.zeroValue231,t213:=Tryz.underlying233,a213:=Tryz.isAgg233,z213:=Tryz.sizeOf233,t232:=Tryz.underlying247,a232:=Tryz.isAgg247,z232:=Tryz.sizeOf247,v232:=Tryz.zeroValue247,t233:=Tryz.underlying248,a233:=Tryz.isAgg248,z233:=Tryz.sizeOf248,v233:=Tryz.zeroValue248,g17:=by kernel_rfl,g18:=by kernel_rfl,g19:=by kernel_rfl,i0:=by kernel_rfl,i2:=by kernel_rfl,i3:=by kernel_rfl,i4:=by kernel_rfl,i5:=by kernel_rfl,i9:=by kernel_rfl,i20:=by kernel_rfl,i37:=by kernel_rfl,i46:=by kernel_rfl,i51:=by kernel_rfl,i53:=by kernel_rfl,i171:=by kernel_rfl,i173:=by kernel_rfl,i212:=by kernel_rfl,i232:=by kernel_rfl,i233:=by kernel_rfl,m17:=by kernel_rfl,m18:=by kernel_rfl,m19:=by kernel_rfl }
section
open Go.Shelf
def ZDM:Ren:=⟨fun |172=>59 |244=>83 |245=>84 |247=>114 |279=>115 |280=>116 |281=>117 |282=>118 |287=>138 |316=>139 |171=>60 |205=>140 |321=>158 |322=>159 |243=>85 |246=>119 |283=>141 |284=>142 |285=>143 |286=>144 |129=>161 |317=>160 |318=>162 |319=>163 |320=>164 |337=>174 |338=>175 |n=>n,fun |9=>9 |3=>3 |75=>124 |76=>125 |4=>4 |5=>5 |167=>174 |37=>22 |0=>0 |85=>175 |2=>2 |168=>177 |53=>162 |175=>199 |46=>115 |210=>203 |127=>226 |145=>229 |143=>227 |21=>21 |171=>205 |173=>208 |212=>231 |51=>232 |20=>20 |213=>233 |232=>247 |233=>248 |80=>171 |n=>n,fun |15=>3 |16=>4 |17=>6 |18=>7 |19=>8 |n=>n⟩
theorem ZHl:Go.Proofs.Lays.n172 Tryz.prog ZDM:={ mixed:=by kernel_rfl,f129:=Tryz.func161.trans (congrArg some (by kernel_rfl)),f171:=Tryz.func60.trans (congrArg some (by kernel_rfl)),f172:=Tryz.func59.trans (congrArg some (by kernel_rfl)),f205:=Tryz.func140.trans (congrArg some (by kernel_rfl)),f243:=Tryz.func85.trans (congrArg some (by kernel_rfl)),f244:=Tryz.func83.trans (congrArg some (by kernel_rfl)),f245:=Tryz.func84.trans (congrArg some (by kernel_rfl)),f246:=Tryz.func119.trans (congrArg some (by kernel_rfl)),f247:=Tryz.func114.trans (congrArg some (by kernel_rfl)),f279:=Tryz.func115.trans (congrArg some (by kernel_rfl)),f280:=Tryz.func116.trans (congrArg some (by kernel_rfl)),f281:=Tryz.func117.trans (congrArg some (by kernel_rfl)),f282:=Tryz.func118.trans (congrArg some (by kernel_rfl)),f283:=Tryz.func141.trans (congrArg some (by kernel_rfl)),f284:=Tryz.func142.trans (congrArg some (by kernel_rfl)),f285:=Tryz.func143.trans (congrArg some (by kernel_rfl)),f286:=Tryz.func144.trans (congrArg some (by kernel_rfl)),f287:=Tryz.func138.trans (congrArg some (by kernel_rfl)),f316:=Tryz.func139.trans (congrArg some (by kernel_rfl)),f317:=Tryz.func160.trans (congrArg some (by kernel_rfl)),f318:=Tryz.func162.trans (congrArg some (by kernel_rfl)),f319:=Tryz.func163.trans (congrArg some (by kernel_rfl)),f320:=Tryz.func164.trans (congrArg some (by kernel_rfl)),f321:=Tryz.func158.trans (congrArg some (by kernel_rfl)),f322:=Tryz.func159.trans (congrArg some (by kernel_rfl)),f337:=Tryz.func174.trans (congrArg some (by kernel_rfl)),f338:=Tryz.func175.trans (congrArg some (by kernel_rfl)),t0:=Tryz.underlying0,a0:=Tryz.isAgg0,z0:=Tryz.sizeOf0,v0:=Tryz.zeroValue0,t2:=Tryz.underlying2,a2:=Tryz.isAgg2,z2:=Tryz.sizeOf2,v2:=Tryz.zeroValue2,t3:=Tryz.underlying3,a3:=Tryz.isAgg3,z3:=Tryz.sizeOf3,v3:=Tryz.zeroValue3,t4:=Tryz.underlying4,a4:=Tryz.isAgg4,z4:=Tryz.sizeOf4,v4:=Tryz.zeroValue4,t5:=Tryz.underlying5,a5:=Tryz.isAgg5,z5:=Tryz.sizeOf5,v5:=Tryz.zeroValue5,t9:=Tryz.underlying9,a9:=Tryz.isAgg9,z9:=Tryz.sizeOf9,v9:=Tryz.zeroValue9,t20:=Tryz.underlying20,a20:=Tryz.isAgg20,z20:=Tryz.sizeOf20,v20:=Tryz.zeroValue20,t21:=Tryz.underlying21,a21:=Tryz.isAgg21,z21:=Tryz.sizeOf21,v21:=Tryz.zeroValue21,t37:=Tryz.underlying22,a37:=Tryz.isAgg22,z37:=Tryz.sizeOf22,v37:=Tryz.zeroValue22,t46:=Tryz.underlying115,a46:=Tryz.isAgg115,z46:=Tryz.sizeOf115,v46:=Tryz.zeroValue115,t51:=Tryz.underlying232,a51:=Tryz.isAgg232,z51:=Tryz.sizeOf232,v51:=Tryz.zeroValue232,t53:=Tryz.underlying162,a53:=Tryz.isAgg162,z53:=Tryz.sizeOf162,v53:=Tryz.zeroValue162,t75:=Tryz.underlying124,a75:=Tryz.isAgg124,z75:=Tryz.sizeOf124,v75:=Tryz.zeroValue124,t76:=Tryz.underlying125,a76:=Tryz.isAgg125,z76:=Tryz.sizeOf125,v76:=Tryz.zeroValue125,t85:=Tryz.underlying175,a85:=Tryz.isAgg175,z85:=Tryz.sizeOf175,v85:=Tryz.zeroValue175,t127:=Tryz.underlying226,a127:=Tryz.isAgg226,z127:=Tryz.sizeOf226,v127:=Tryz.zeroValue226,t143:=Tryz.underlying227,a143:=Tryz.isAgg227,z143:=Tryz.sizeOf227,v143:=Tryz.zeroValue227,t145:=Tryz.underlying229,a145:=Tryz.isAgg229,z145:=Tryz.sizeOf229,v145:=Tryz.zeroValue229,t167:=Tryz.underlying174,a167:=Tryz.isAgg174,z167:=Tryz.sizeOf174,v167:=Tryz.zeroValue174,t168:=Tryz.underlying177,a168:=Tryz.isAgg177,z168:=Tryz.sizeOf177,v168:=Tryz.zeroValue177,t171:=Tryz.underlying205,a171:=Tryz.isAgg205,z171:=Tryz.sizeOf205,v171:=Tryz.zeroValue205,t173:=Tryz.underlying208,a173:=Tryz.isAgg208,z173:=Tryz.sizeOf208,v173:=Tryz.zeroValue208,t175:=Tryz.underlying199,a175:=Tryz.isAgg199,z175:=Tryz.sizeOf199,v175:=Tryz.zeroValue199,t210:=Tryz.underlying203,a210:=Tryz.isAgg203,z210:=Tryz.sizeOf203,v210:=Tryz.zeroValue203,t212:=Tryz.underlying231,a212:=Tryz.isAgg231,z212:=Tryz.sizeOf231,v212:=Tryz.zeroValue231,t213:=Tryz.underlying233,a213:=Tryz.isAgg233,z213:=Tryz.sizeOf233,t232:=Tryz.underlying247,a232:=Tryz.isAgg247,z232:=Tryz.sizeOf247,v232:=Tryz.zeroValue247,t233:=Tryz.underlying248,a233:=Tryz.isAgg248,z233:=Tryz.sizeOf248,v233:=Tryz.zeroValue248,g15:=by kernel_rfl,g16:=by kernel_rfl,g17:=by kernel_rfl,g18:=by kernel_rfl,g19:=by kernel_rfl }
end
end
section
set_option maxRecDepth 100000
theorem Zi6:Tryz.prog.follows .mixedOrders=true:=by kernel_rfl
theorem ZLC:ZmS Tryz.prog 22 1 1 (.int .u8 0) 44:=⟨_,_,_,_,_,_,_,_,_,_,_,rfl,rfl,rfl,by kernel_rfl,rfl,rfl,rfl,rfl,rfl,rfl,rfl,rfl,by kernel_rfl,by kernel_rfl,⟨_,_,_,_,rfl⟩,rfl,by decide⟩
theorem ZPR:ZmS Tryz.prog 28 5 72 (.agg [.int .i64 0,.int .i64 0,.str [],.str [],.lst true []]) 45:=⟨_,_,_,_,_,_,_,_,_,_,_,rfl,rfl,rfl,by kernel_rfl,rfl,rfl,rfl,rfl,rfl,rfl,rfl,rfl,by kernel_rfl,by kernel_rfl,⟨_,_,_,_,rfl⟩,rfl,by decide⟩
theorem ZB2:ZmS Tryz.prog 65 11 136 (.agg [.int .i64 0,.str [],.lst true [],.int .i64 0,.bool false,.str [],.int .i64 0,.lst true [],.int .i64 0,.int .i64 0,.int .i64 0]) 41:=⟨_,_,_,_,_,_,_,_,_,_,_,rfl,rfl,rfl,by kernel_rfl,rfl,rfl,rfl,rfl,rfl,rfl,rfl,rfl,by kernel_rfl,by kernel_rfl,⟨_,_,_,_,rfl⟩,rfl,by decide⟩
theorem Zw7{α:Type}{d v:α}:∀ {l:List (Nat×α)} {n:Nat},Zfk d l n=v->v=d\/(n,v)∈l
 | [],n,h=>Xr h.symm
 |(k,w)::r,n,h=>by
  simp only[Zfk]at h
  split at h
  ·rename_i e;subst e h;exact XE (by simp)
  ·rcases Zw7 h with h |h
   ·exact Xr h
   ·exact XE (by simp[h])
theorem ZxZ:ZlO Tryz.prog PR:=by
 intro f g h args σ r σ' hg
 rcases Zw7 h with h |h
 ·cases h
 unfold Zz6 at h
 simp only[XR,Prod.mk.injEq,Xb,Xbc,or_false]at h
 rcases h with⟨rfl,rfl⟩ |h
 ·exact Zs7 Zi6 ZLC hg
 rcases h with⟨rfl,rfl⟩ |h
 ·exact Zs7 Zi6 ZPR hg
 rcases h with⟨rfl,rfl⟩ |h
 ·exact Zs7 Zi6 ZB2 hg
 rcases h with⟨rfl,rfl⟩ |h
 ·exact Zyq ⟨Tryz.f124,Tryz.func124,by kernel_rfl,by kernel_rfl⟩ (fun s c w=>Any.strings_IndexByte ZXi s c w) hg
 rcases h with⟨rfl,rfl⟩ |h
 ·exact Zyq ⟨Tryz.f149,Tryz.func149,by kernel_rfl,by kernel_rfl⟩ (fun s c w=>Any.stringslite_IndexByte ZF6 s c w) hg
 rcases h with⟨rfl,rfl⟩ |h
 ·exact ZT9 ⟨Tryz.f121,Tryz.func121,by kernel_rfl,by kernel_rfl⟩ (fun s c w=>Any.strings_Count_one ZXa s c w) hg
 rcases h with⟨rfl,rfl⟩ |h
 ·exact ZC8 ⟨Tryz.f88,Tryz.func88,by kernel_rfl,by kernel_rfl⟩ (fun s w hs hT=>Any.utf8_ValidString Zwc s w hs hT) hg
 rcases h with⟨rfl,rfl⟩ |h
 ·exact Zvq hg
 rcases h with⟨rfl,rfl⟩ |h
 ·exact Zvq hg
 rcases h with⟨rfl,rfl⟩ |h
 ·exact ZSF ⟨Tryz.f60,Tryz.func60,by kernel_rfl,by kernel_rfl⟩ (fun n w h0 h1 hT=>Any.strconv_Itoa ZTM n h0 h1 w hT) hg
 rcases h with⟨rfl,rfl⟩ |h
 ·exact ZMh ⟨Tryz.f59,Tryz.func59,by kernel_rfl,by kernel_rfl⟩ (fun s n w hl h=>Any.strconv_Atoi ZHl s n hl h w) hg
 exact absurd h.2 (by simp)
end
section
def Zb7:Nat:=70368744177664
def Zih(args:List AVal)(σ:Za):Option (AVal×Za):=match args,σ with
 | [.ref 0 0,.lst _ ys],[.var [.lst true [],.int .i64 0,.int .i8 _]] =>
  if ys.length<=Zb7/\kOk 1 ys=true then some (.tup [.int .i64 ys.length,.nili],[.var [.sl 1 0 0 ys.length,.int .i64 0,.int .i8 0],.row 0 1 ys])else none
 | [.ref 0 0,.lst _ ys],[.var [.sl 1 g 0 m,.int .i64 0,.int .i8 _],.row g' 1 xs] =>
  if g=g'/\m=xs.length/\xs.length+ys.length<=Zb7/\kOk 1 ys=true then some (.tup [.int .i64 ys.length,.nili],[.var [.sl 1 (g+1) 0 (xs++ys).length,.int .i64 0,.int .i8 0],.row (g+1) 1 (xs++ys)])else none
 |_,_=>none
end
section
set_option maxRecDepth 100000
def c1R:Ze :=  (.region [⟨(some 1),(.box (.t 0)),none,[]⟩,⟨(some 2),(.alloc [(.int .i64 0),(.bool false),(.int .i64 0),(.bool false),(.int .i64 0),(.str []),(.lst true []),(.int .i64 0),(.lst true []),(.lst true []),(.lst true []),(.lst true []),(.bool false),(.int .i64 0),(.str []),(.bool false),(.str []),(.lst true []),(.int .i64 0),(.bool false),(.lst true []),(.bool false),(.str []),(.bool false),(.lst true []),(.bool false)]),none,[]⟩,⟨(some 3),(.alloc [(.int .i64 0)]),none,[]⟩] none [3,2,1])
def c2R:Ze:=(.seq (.region [⟨(some 6),(.faddr 1 (.t 1)),none,[]⟩,⟨(some 7),(.ld none (.t 6)),none,[]⟩,⟨(some 8),(.build [(.int .i64 0),(.bool false),(.int .i64 0),(.bool false),(.int .i64 0),(.str []),(.lst true []),(.int .i64 0),(.lst true []),(.lst true []),(.lst true []),(.lst true []),(.bool false),(.int .i64 0),(.str []),(.bool false),(.str []),(.lst true []),(.int .i64 0),(.bool false),(.lst true []),(.bool false),(.str []),(.bool false),(.lst true []),(.bool false),(.lst true [])] [(26,1,(.t 7))]),none,[]⟩,⟨(some 9),(.box (.t 8)),none,[]⟩,⟨(some 4),(.mov (.t 9)),none,[]⟩] none [4,3,2,1]) (.seq (.region [⟨(some 10),(.mov (.t 4)),none,[]⟩,⟨(some 11),(.faddr 0 (.t 1)),none,[]⟩,⟨(some 12),(.ld none (.t 11)),none,[]⟩,⟨(some 13),(.call 77 0 true [(.t 10),(.t 12)]),none,[]⟩] none [4,3,2]) (.seq (.region [⟨(some 14),(.mov (.t 4)),none,[]⟩,⟨(some 15),(.call 78 1 true [(.t 14)]),none,[]⟩] none [4,3,2]) (.seq (.region [⟨(some 16),(.mov (.t 4)),none,[]⟩,⟨(some 17),(.nilchk (.t 16)),none,[]⟩,⟨(some 18),(.faddr 0 (.t 17)),none,[]⟩,⟨(some 19),(.ld (some 26) (.t 18)),none,[]⟩,⟨none,(.st 26 (.t 2) (.t 19)),none,[]⟩,⟨none,(.st 1 (.t 3) (.c (.int .i64 0))),none,[]⟩] none [3,2]) .ret))))
def c3R:Ze:=(.seq (.region [⟨(some 3),(.mov (.t 10)),none,[]⟩] none [3,1,0]) (.region [⟨(some 11),(.build [(.int .i64 0),(.bool false),(.int .i64 0),(.bool false),(.int .i64 0),(.str []),(.lst true []),(.int .i64 0),(.lst true []),(.lst true []),(.lst true []),(.lst true []),(.bool false),(.int .i64 0),(.str []),(.bool false),(.str []),(.lst true []),(.int .i64 0),(.bool false),(.lst true []),(.bool false),(.str []),(.bool false),(.lst true []),(.bool false)] []),none,[]⟩,⟨(some 12),(.mov (.t 3)),none,[]⟩,⟨none,(.st 26 (.t 0) (.t 11)),none,[]⟩,⟨none,(.st 1 (.t 1) (.t 12)),none,[]⟩] none []))
def rsR:List ZcV:=[(.cell 2 (some 26)),(.cell 3 none)]
def ZRx:Ann:={ nt:=20,lr:=fun _=>[3,2,1] }
def ZDg:Ann:={ ann 57 with nt:=20,keep:=[2,3],cfg:=fun f=>if f=78 then(1,true)else(0,true) }
def ZCr:Ann:={ ann 76 with nt:=13 }
theorem ZIm:ZoC Tryz.prog 57 76 20 41 ZRx ZDg ZCr c1R c2R c3R rsR :=
 ⟨_,_,_,_,_,_,_,_,_,_,_,_,_,_,_,_,_,_,_,_,_,_,_,_,_,_,_,_,_,_,_,_,_,_,_,_,_,_,#[],.i64,rfl,by kernel_rfl,rfl,by kernel_rfl,rfl,by kernel_rfl,by kernel_rfl,rfl,rfl,rfl,rfl,by kernel_rfl,rfl,rfl,rfl,by kernel_rfl,rfl,by kernel_rfl,by kernel_rfl⟩
noncomputable def Zfn:List AVal->Za->Option (AVal×Za):=Zjd FC PR BY 41 c1R c2R c3R rsR
noncomputable def PR1:Zcu:=fun f=>if f=57 then some Zfn else if f=73 then some Zih else PR f
noncomputable abbrev E1:ZV:=EV FC PR1 BY
theorem ZkM:OLe E E1:=by
 refine ZKs (fun f hf=>?_) (fun f g hg=>?_)
 ·unfold PR1
  rw[if_neg (by rintro rfl;revert hf;decide),if_neg (by rintro rfl;revert hf;decide)]
  exact hf
 ·by_cases h1:f=57
  ·subst h1
   have : PR 57=some Zhk:=by rfl
   rw[this]at hg;injection hg with hg;subst hg
   exact XE fun _ _=>rfl
  by_cases h2:f=73
  ·subst h2
   have : PR 73=some Zhk:=by rfl
   rw[this]at hg;injection hg with hg;subst hg
   exact XE fun _ _=>rfl
  refine Xr ?_
  unfold PR1
  rw[if_neg h1,if_neg h2]
  exact hg
theorem ZbE{f:Nat}{fn:ZA}(hp:PR1 f=none)(hf:FC f=some fn)(args:List AVal)(σ:Za):E1 f args σ=Zap σ.length fn (evC FC PR1 BY σ.length fn.body (enterA 0 args []) σ):=Zu0 hp hf args σ
theorem Zhl(args:List AVal)(σ:Za):E1 57 args σ=Zfn args σ:=Zwx (by rfl) args σ
theorem ZvT(args:List AVal)(σ:Za):E1 73 args σ=Zih args σ:=Zwx (by rfl) args σ
theorem ZNo{args:List AVal}{σ σ':Za}{r:AVal}(hg:Zfn args σ=some (r,σ')) :
  (∃ fn,Tryz.prog.funcs[57]?=some fn/\fn.body.isSome=true/\(fn.name == "runtime.NumGoroutine")=false) /\
  ∀ base w0 I0 I β w (vs:Array Value),KLt base w0->Rel base w0 I0 I β σ w->VRs I β args vs.toList ->
   Calls Tryz.prog 57 vs w (fun e w'=>∃ u,Ends r e u/\ZbW σ.length base w0 I0 I β r σ' u w') :=
 ZHh Zi6 (fun n=>by
  have h:Zay FC PR BY n=Zay CF PR BY n:=Zt1 CF PR BY n
  rw[h]
  exact Zp9 Zi6 ZxZ ann BY n) ZIm hg
end
section
def P0:List AVal:=[.int .i64 0,.bool false,.int .i64 0,.bool false,.int .i64 0,.str [],.lst true [],.int .i64 0,.lst true [],.lst true [],.lst true [],.lst true [],.bool false,.int .i64 0,.str [],.bool false,.str [],.lst true [],.int .i64 0,.bool false,.lst true [],.bool false,.str [],.bool false,.lst true [],.bool false]
def tmR:Tms:=[(3,.ref 2 0),(2,.ref 1 0),(1,.ref 0 0)]
def σR(b:Int)(l:Zc):Za:=[.var [.int .u8 b,.lst false (l.map Zb)],.var P0,.var [.int .i64 0]]
theorem ZpI(b:Int)(l:Zc):evC FC PR BY 0 c1R (enterA 0 [.agg [.int .u8 b,.lst false (l.map Zb)]] []) []=some (.normal,tmR,σR b l):=by
 unfold tmR σR P0
 simp -implicitDefEqProofs only[EQA,Xe,Xc,Xa,Xg,↓reduceIte,c1R,AVal.cells]
theorem ZIk(b:Int)(l:Zc){P1 Q:List AVal}{L:AVal}(h1:P1.length=26)(n1:Zf P1=true)(hQ:Q.length=26)(nQ:Zf Q=true)(oQ:Q.all ZX=true)(nL:ZS L=true)
  (hf:E 77 [.ref 0 0,.int .u8 b] (Zm P0 l)=some (.tup [],Zm P1 l)) (hb:E 78 [.ref 0 0] (Zm P1 l)=some (.tup [],[.var (Q++[L])])) :
  evC FC PR BY 3 c2R (tput tmR (some 5) .top) (σR b l)=some (.ret,[(3,.ref 2 0),(2,.ref 1 0)],[.var [.int .u8 b,.lst false (l.map Zb)],.var Q,.var [.int .i64 0],.var (Q++[L]),.free]):=by
 have hF:=fun(σ:Za) sq (hs:σ[3]?=some (.var (P0++[.lst false (l.map Zb)])))=>Zdn (O:=E) (bf:=BY) (f:=77) (rest:=[.int .u8 b]) (by kernel_rfl) rfl (by rfl) (ZaQ n1 (by rfl)) rfl rfl hf hs sq
 have hB:=fun(σ:Za) sq (hf:σ[sq]?=some .free) (hs:σ[3]?=some (.var (P1++[.lst false (l.map Zb)])))=>ZWZ (own:=1) (O:=E) (bf:=BY) (f:=78) (rest:=[]) (by kernel_rfl) rfl (ZaQ n1 (by rfl)) (ZaQ nQ (by simp[Zf,nL])) rfl rfl hb hs sq (by simp[ZaM,freeAt,hf])
 have b1:=Zal Q hQ
 have b2:=Zfs Q hQ
 unfold P0 at hF
 simp only[XV,XA]at hF
 unfold tmR σR P0
 simp -implicitDefEqProofs only[EQA,ZaG,Xe,Xc,Xf,Xa,Xg,↓reduceIte,c2R,AVal.cells,Zab,hF,hB,b1,b2,hQ,oQ]
theorem ZoE(b:Int)(l:Zc){cs:List AVal}{c:Int}(n1:Zf cs=true)
  (hf:E 77 [.ref 0 0,.int .u8 b] (Zm P0 l)=some (.pan (ZH c),[.var cs])) :
  evC FC PR BY 3 c2R (tput tmR (some 5) .top) (σR b l)=some (.panic (ZH c),[],[.var [.int .u8 b,.lst false (l.map Zb)],.var P0,.var [.int .i64 0],.var cs]):=by
 have hF:=fun(σ:Za) sq (hs:σ[3]?=some (.var (P0++[.lst false (l.map Zb)])))=>Zc1 (O:=E) (bf:=BY) (f:=77) (view:=true) (rest:=[.int .u8 b]) (by kernel_rfl) rfl (by rfl) n1 rfl hf hs sq
 unfold P0 at hF
 simp only[XV,XA]at hF
 unfold tmR σR P0
 simp -implicitDefEqProofs only[EQA,ZaG,Xe,Xc,Xf,Xa,Xg,↓reduceIte,c2R,AVal.cells,Zab,hF]
theorem Zyg(b:Int)(l:Zc){P1 cs:List AVal}{c:Int}(h1:P1.length=26)(n1:Zf P1=true)(n2:Zf cs=true)
  (hf:E 77 [.ref 0 0,.int .u8 b] (Zm P0 l)=some (.tup [],Zm P1 l)) (hb:E 78 [.ref 0 0] (Zm P1 l)=some (.pan (ZH c),[.var cs])) :
  evC FC PR BY 3 c2R (tput tmR (some 5) .top) (σR b l)=some (.panic (ZH c),[],[.var [.int .u8 b,.lst false (l.map Zb)],.var P0,.var [.int .i64 0],.var cs,.free]):=by
 have hF:=fun(σ:Za) sq (hs:σ[3]?=some (.var (P0++[.lst false (l.map Zb)])))=>Zdn (O:=E) (bf:=BY) (f:=77) (rest:=[.int .u8 b]) (by kernel_rfl) rfl (by rfl) (ZaQ n1 (by rfl)) rfl rfl hf hs sq
 have hB:=fun(σ:Za) sq (hf:σ[sq]?=some .free) (hs:σ[3]?=some (.var (P1++[.lst false (l.map Zb)])))=>ZIJ (own:=1) (O:=E) (bf:=BY) (f:=78) (view:=true) (rest:=[]) (by kernel_rfl) rfl (ZaQ n1 (by rfl)) n2 rfl hb hs sq (by simp[ZaM,freeAt,hf])
 unfold P0 at hF
 simp only[XV,XA]at hF
 unfold tmR σR P0
 simp -implicitDefEqProofs only[EQA,ZaG,Xe,Xc,Xf,Xa,Xg,↓reduceIte,c2R,AVal.cells,Zab,hF,hB]
theorem ZHV(b c:Int)(l:Zc)(τ:Za):evC FC PR BY 3 c3R [(10,.int .i64 c),(1,.ref 2 0),(0,.ref 1 0)] (.var [.int .u8 b,.lst false (l.map Zb)]::.var P0::.var [.int .i64 0]::τ)=some (.normal,[],.var [.int .u8 b,.lst false (l.map Zb)]::.var P0::.var [.int .i64 c]::τ):=by
 unfold P0
 simp -implicitDefEqProofs only[EQA,Xe,Xc,Xf,Xa,reduceCtorEq,↓reduceIte,c3R,AVal.cells,Zab,ZX]
theorem ZxU(b c:Int)(l:Zc){Q:List AVal}(τ:Za)(hQ:Q.length=26)(nQ:Zf Q=true):Zga 0 1 2 rsR (.var [.int .u8 b,.lst false (l.map Zb)]::.var Q::.var [.int .i64 c]::τ)=some (.tup [.agg Q,.int .i64 c],[]):=by
 have h1:resA [(3,.ref 2 0),(2,.ref 1 0)] (.var [.int .u8 b,.lst false (l.map Zb)]::.var Q::.var [.int .i64 c]::τ) rsR=some (.tup [.agg Q,.int .i64 c]):=by
  have h2:Q.take 26=Q:=XI (by omega)
  simp[resA,resAll,resOne,rsR,tget,ldA,partA,hQ,h2]
 unfold Zga
 rw[h1]
 generalize (.var [.int .u8 b,.lst false (l.map Zb)]::.var Q::.var [.int .i64 c]::τ:Za)=σ
 have e1:=ZaV (Zk σ 0 []) Q nQ
 have hr:Zt [AVal.tup [.agg Q,.int .i64 c]]=[]:=by simp[Zt,ZT,e1.2]
 have hi:Zu 0 [AVal.tup [.agg Q,.int .i64 c]] σ=[]:=by
  simp only[Zu,hr,XA,XaH,X5]
  rfl
 simp[Z4,gcA,hi,Zh,Zo,e1.1,Zn]
theorem ZAi(b:Int)(l:Zc){P1 Q:List AVal}{L:AVal}(h1:P1.length=26)(n1:Zf P1=true)(hQ:Q.length=26)(nQ:Zf Q=true)(oQ:Q.all ZX=true)(nL:ZS L=true)
  (hf:E 77 [.ref 0 0,.int .u8 b] (Zm P0 l)=some (.tup [],Zm P1 l)) (hb:E 78 [.ref 0 0] (Zm P1 l)=some (.tup [],[.var (Q++[L])])) :
  Zfn [.agg [.int .u8 b,.lst false (l.map Zb)]] []=some (.tup [.agg Q,.int .i64 0],[]):=by
 unfold Zfn Zjd
 show(match evC FC PR BY 0 c1R (enterA 0 [.agg [.int .u8 b,.lst false (l.map Zb)]] []) []with |some (.normal,tm1,σ1)=>_ |_=>none)=_
 rw[ZpI]
 show(if(0:Nat)<=(σR b l).length/\1<(σR b l).length/\2<(σR b l).length then ZgX FC PR BY 41 c2R c3R rsR 0 (tput tmR (some 5) .top) (σR b l) 1 2 else none)=_
 rw[if_pos (by simp[σR])]
 unfold ZgX
 rw[show(σR b l).length=3 from rfl,ZIk b l h1 n1 hQ nQ oQ nL hf hb]
 exact ZxU b 0 l _ hQ nQ
theorem Zhd(b c:Int)(l:Zc){τ:Za}(h:evC FC PR BY 3 c2R (tput tmR (some 5) .top) (σR b l)=some (.panic (ZH c),[],.var [.int .u8 b,.lst false (l.map Zb)]::.var P0::.var [.int .i64 0]::τ)) :
  Zfn [.agg [.int .u8 b,.lst false (l.map Zb)]] []=some (.tup [.agg P0,.int .i64 c],[]):=by
 unfold Zfn Zjd
 show(match evC FC PR BY 0 c1R (enterA 0 [.agg [.int .u8 b,.lst false (l.map Zb)]] []) []with |some (.normal,tm1,σ1)=>_ |_=>none)=_
 rw[ZpI]
 show(if(0:Nat)<=(σR b l).length/\1<(σR b l).length/\2<(σR b l).length then ZgX FC PR BY 41 c2R c3R rsR 0 (tput tmR (some 5) .top) (σR b l) 1 2 else none)=_
 rw[if_pos (by simp[σR])]
 unfold ZgX
 rw[show(σR b l).length=3 from rfl,h]
 show(if(41:Nat)=41 then(match evC FC PR BY 3 c3R [(10,.int .i64 c),(1,.ref 2 0),(0,.ref 1 0)] _ with |some (.normal,_,σ3)=>Zga 0 1 2 rsR σ3 |_=>none)else none)=_
 rw[if_pos rfl,ZHV]
 exact ZxU b c l _ rfl (by rfl)
end
section
theorem ZDD(b:Zc):List.take b.length (b.map Zb)=b.map Zb:=XI (by simp)
def ZU(x:Int):Nat:=(x%18446744073709551616).toNat
theorem Zso(x:Int):IntKind.u64.wrap x=((ZU x:Nat):Int):=by rw[IntKind.wrap_u64,ZU];omega
def Zce(k:Int)(p:Zp):Zc×Zc :=
 if k=1 then(beB (ZU p.num) 1,[])else if k=2 then(beB (ZU p.num) 2,[])else if k=3 then(beB (ZU p.num) 4,[])
 else if k=4 then((Zac p.num).1,[])else if k=5 then((Z5 p.text).1,[])else if k=6 then((Zbj p.data).1,[])
 else if k=7 then((Z5 p.text).1,(Z5 p.pair).1)else([],[])
def ZaF(p:Zp):Zc:=(Zac p.id).1++((Zce (Zbt p.id) p).1++(Zce (Zbt p.id) p).2)
theorem ZAk:∀ k n:Nat,(Zcf k n).length<=k+1
 |0,n=>by simp[Zcf]
 |k+1,n=>by
  unfold Zcf
  split
  ·simp
  ·have:=ZAk k (n/128)
   simp only[Xp];omega
theorem Zfx(n:Int):(Zac n).1.length<=4:=by
 unfold Zac
 split
 ·simp
 ·exact ZAk 3 _
theorem ZuM(b:Zc):(Zbj b).1.length<=65537:=by
 unfold Zbj
 split
 ·simp
 ·simp only[Xi,Za3];omega
theorem Zkv(b:Zc):(Z5 b).1.length<=65537:=by
 unfold Z5
 split
 ·exact ZuM b
 ·simp
theorem ZLL(k:Int)(p:Zp):(Zce k p).1.length<=65537/\(Zce k p).2.length<=65537:=by
 have h1:=Zfx p.num
 have h2:=Zkv p.text
 have h3:=Zkv p.pair
 have h4:=ZuM p.data
 unfold Zce
 repeat' split
 all_goals simp only[Za3,Xw]
 all_goals omega
theorem Zz3(p:Zp):(ZaF p).length<=200000:=by
 have h1:=Zfx p.id
 have h2:=ZLL (Zbt p.id) p
 unfold ZaF
 simp only[Xi];omega
theorem Zig(σ:Za)(sq own:Nat)(f:Bool)(a v w:Zc)(h:a.length+(v.length+w.length)<=140737488355328):Zj E BY σ sq 29 own true [.lst f [.lst false (a.map Zb),.lst false (v.map Zb),.lst false (w.map Zb)]]=some (.lst false ((a++(v++w)).map Zb),σ,{}):=by
 have:=Zid σ sq own f a [v,w] (by simp) (by simpa using h)
 simpa only[Xm,Xt,ZJ,Wn,WU,Xo]using this
theorem Ztx(p:Zp)(k:Int)(W:Nat)(hk:Zbt p.id=k)(hW:(k=1/\W=1)\/(k=2/\W=2)\/(k=3/\W=4)):E 129 [Zg p] []=some (.lst false (((Zac p.id).1++(beB (ZU p.num) W++[])).map Zb),[]):=by
 have hK:=fun σ sq own=>ZjM σ sq own p.id
 have hV:=fun σ sq own=>Zgq σ sq own p.id
 unfold Zfm at hV
 have l0:=Zfx p.id
 have hP:=fun σ sq own=>Znk σ sq own (ZU p.num) W (by omega) (by omega)
 have hJ:=fun σ sq own f=>Zig σ sq own f (Zac p.id).1 (beB (ZU p.num) W) [] (by simp only[Za3,Xw];omega)
 simp only[Xt]at hJ
 have hu:=Zso p.num
 rw[hk]at hK
 generalize beB (ZU p.num) W=B at *
 have z1:((1:Nat):Int)=1:=rfl
 have z2:((2:Nat):Int)=2:=rfl
 have z4:((4:Nat):Int)=4:=rfl
 rcases hW with⟨rfl,rfl⟩ |⟨rfl,rfl⟩ |⟨rfl,rfl⟩
 ·have w1:IntKind.i64.wrap (1-1)=0:=rfl
  have w2:IntKind.i64.wrap (1*2^min (WW 0) IntKind.i64.bits)=1:=rfl
  have ng:¬((0:Int)<0):=by decide
  rw[z1]at hP
  rw[Zi (by rfl) ZgT]
  simp -implicitDefEqProofs only[EQA,Zv,Xc,Xa,Xg,ZaR,↓reduceIte,Zgw,Ze7,Zgn,Zd,ZJ,Zg,Za0,hK,hV,hP,hJ,hu,w1,w2,ng,viewAs,ZP,ZK,Zr,AVal.cells]
 ·have w1:IntKind.i64.wrap (2-1)=1:=rfl
  have w2:IntKind.i64.wrap (1*2^min (WW 1) IntKind.i64.bits)=2:=rfl
  have ng:¬((1:Int)<0):=by decide
  rw[z2]at hP
  rw[Zi (by rfl) ZgT]
  simp -implicitDefEqProofs only[EQA,Zv,Xc,Xa,Xg,ZaR,↓reduceIte,Zgw,Ze7,Zgn,Zd,ZJ,Zg,Za0,hK,hV,hP,hJ,hu,w1,w2,ng,Xs,viewAs,ZP,ZK,Zr,AVal.cells]
 ·have w1:IntKind.i64.wrap (3-1)=2:=rfl
  have w2:IntKind.i64.wrap (1*2^min (WW 2) IntKind.i64.bits)=4:=rfl
  have ng:¬((2:Int)<0):=by decide
  rw[z4]at hP
  rw[Zi (by rfl) ZgT]
  simp -implicitDefEqProofs only[EQA,Zv,Xc,Xa,Xg,ZaR,↓reduceIte,Zgw,Ze7,Zgn,Zd,ZJ,Zg,Za0,hK,hV,hP,hJ,hu,w1,w2,ng,Xs,viewAs,ZP,ZK,Zr,AVal.cells]
theorem ZS9(p:Zp)(ht:p.text.length<=9223372036854775807)(hp:p.pair.length<=9223372036854775807)(hd:p.data.length<=9223372036854775807):E 129 [Zg p] []=some (.lst false ((ZaF p).map Zb),[]):=by
 have hK:=fun σ sq own=>ZjM σ sq own p.id
 have hV:=fun σ sq own=>Zgq σ sq own p.id
 unfold Zfm at hV
 have l0:=Zfx p.id
 unfold ZaF
 rcases ZoZ p.id with hk |hk |hk |hk |hk |hk |hk |hk
 ·rw[hk]at hK ⊢
  rw[show Zce 0 p=([],[])from rfl,Zi (by rfl) ZgT]
  have hJ:=fun σ sq own f=>Zig σ sq own f (Zac p.id).1 [] [] (by simp only[Xw];omega)
  simp only[Xt]at hJ
  simp -implicitDefEqProofs only[EQA,Zv,Xc,Xa,Xg,↓reduceIte,Zgw,Ze7,Zgn,Zd,ZJ,Zg,Za0,hK,hV,hJ,Xs,viewAs,ZP,ZK,Zr,AVal.cells]
 ·have h:=Ztx p 1 1 hk (by simp)
  rw[hk];exact h
 ·have h:=Ztx p 2 2 hk (by simp)
  rw[hk];exact h
 ·have h:=Ztx p 3 4 hk (by simp)
  rw[hk];exact h
 ·rw[hk]at hK ⊢
  rw[show Zce 4 p=((Zac p.num).1,[])from rfl,Zi (by rfl) ZgT]
  have l1:=Zfx p.num
  have hJ:=fun σ sq own f=>Zig σ sq own f (Zac p.id).1 (Zac p.num).1 [] (by simp only[Xw];omega)
  simp only[Xt]at hJ
  have hV2:=fun σ sq own=>Zgq σ sq own p.num
  unfold Zfm at hV2
  simp -implicitDefEqProofs only[EQA,Zv,Xc,Xa,Xg,↓reduceIte,Zgw,Ze7,Zgn,Zd,ZJ,Zg,Za0,hK,hV,hV2,hJ,Xs,viewAs,ZP,ZK,Zr,AVal.cells]
 ·rw[hk]at hK ⊢
  rw[show Zce 5 p=((Z5 p.text).1,[])from rfl,Zi (by rfl) ZgT]
  have l1:=Zkv p.text
  have hJ:=fun σ sq own f=>Zig σ sq own f (Zac p.id).1 (Z5 p.text).1 [] (by simp only[Xw];omega)
  simp only[Xt]at hJ
  have hV2:=fun σ sq own=>ZjI σ sq own p.text ht
  unfold byT at hV2
  simp -implicitDefEqProofs only[EQA,Zv,Xc,Xa,Xg,↓reduceIte,Zgw,Ze7,Zgn,Zd,ZJ,Zg,Za0,hK,hV,hV2,hJ,Xs,viewAs,ZP,ZK,Zr,AVal.cells]
 ·rw[hk]at hK ⊢
  rw[show Zce 6 p=((Zbj p.data).1,[])from rfl,Zi (by rfl) ZgT]
  have l1:=ZuM p.data
  have hJ:=fun σ sq own f=>Zig σ sq own f (Zac p.id).1 (Zbj p.data).1 [] (by simp only[Xw];omega)
  simp only[Xt]at hJ
  have hV2:=fun σ sq own f=>Zr7 σ sq own f p.data hd
  unfold byT at hV2
  simp -implicitDefEqProofs only[EQA,Zv,Xc,Xa,Xg,↓reduceIte,Zgw,Ze7,Zgn,Zd,ZJ,Zg,Za0,hK,hV,hV2,hJ,Xs,viewAs,ZP,ZK,Zr,AVal.cells]
 ·rw[hk]at hK ⊢
  rw[show Zce 7 p=((Z5 p.text).1,(Z5 p.pair).1)from rfl,Zi (by rfl) ZgT]
  have l1:=Zkv p.text
  have l2:=Zkv p.pair
  have hJ:=fun σ sq own f=>Zig σ sq own f (Zac p.id).1 (Z5 p.text).1 (Z5 p.pair).1 (by omega)
  have hV2:=fun σ sq own=>ZjI σ sq own p.text ht
  have hV3:=fun σ sq own=>ZjI σ sq own p.pair hp
  unfold byT at hV2 hV3
  simp -implicitDefEqProofs only[EQA,Zv,Xc,Xa,Xg,↓reduceIte,Zgw,Ze7,Zgn,Zd,ZJ,Zg,Za0,hK,hV,hV2,hV3,hJ,Xs,viewAs,ZP,ZK,Zr,AVal.cells]
def Zex(p:Zp):Prop:=p.text.length<=9223372036854775807/\p.pair.length<=9223372036854775807/\p.data.length<=9223372036854775807
theorem Zwq(σ:Za)(sq own:Nat)(p:Zp)(h:Zex p):Zj E BY σ sq 129 own true [.agg [.int .i64 p.id,.int .i64 p.num,.str p.text,.str p.pair,.lst false (p.data.map Zb)]]=some (.lst false ((ZaF p).map Zb),σ,{}) :=
 ZbD (ZS9 p h.1 h.2.1 h.2.2) (by kernel_rfl) rfl rfl rfl (fun _=>rfl) _ _ _
def ZfN(w:Int)(l:List Zp)(b:Zc):Zc×Int :=
 if(Zac b.length).2≠0 then([],129)
 else if(Z9 w ((Zac b.length).1++b)).2.2≠0\/(Z9 w ((Zac b.length).1++b)).2.1≠((Zac b.length).1++b).length\/((Z9 w ((Zac b.length).1++b)).1==l)=false then([],129)
 else((Zac b.length).1++b,0)
def Za8(w:Int)(l:List Zp):Zc×Int:=ZfN w l (l.map ZaF).flatten
theorem Zwa(σ:Za)(sq own:Nat)(f:Bool)(a v:Zc)(h:a.length+v.length<=140737488355328):Zj E BY σ sq 29 own true [.lst f [.lst false (a.map Zb),.lst false (v.map Zb)]]=some (.lst false ((a++v).map Zb),σ,{}):=by
 have:=Zid σ sq own f a [v] (by simp) (by simpa using h)
 simpa only[Xm,Xt,ZJ,Wn,WU,Xo]using this
end
section
theorem ZpK(w:Int):∀ (n:Nat) (b:Zc) (l:List Zp),(Zd3 w n b l).1.length<=l.length+b.length
 |n,[],l=>by rw[ZrO];simp
 |0,c::r,l=>by simp[Zd3]
 |n+1,c::r,l=>by
  rw[Zqe]
  split
  ·rename_i h
   have hu:=ZyV h
   have ih:=ZpK w n ((c::r).drop (Zb1 w (c::r) l).2.1) (l++[(Zb1 w (c::r) l).1])
   rw[X9,Xi,List.length_singleton]at ih
   omega
  ·simp
theorem ZGb(w:Int)(b:Zc):(Z9 w b).1.length<=b.length:=by
 unfold Z9
 split
 ·simp
 ·split
  ·have:=ZpK w (Z0 b).1 ((b.take ((Z0 b).2.1+(Z0 b).1)).drop (Z0 b).2.1) []
   simp only[X9,X0,Xw]at this
   simp only
   omega
  ·simp
def okV(k:Int)(p:Zp):Bool :=
 if k=1 then decide (p.num>=0)&&decide (p.num<256)else if k=2 then decide (p.num>=0)&&decide (p.num<65536)else if k=3 then decide (p.num>=0)&&decide (p.num<4294967296)
 else if k=4 then(Zac p.num).2==0 else if k=5 then(Z5 p.text).2==0 else if k=6 then(Zbj p.data).2==0
 else if k=7 then(Z5 p.text).2==0&&(Z5 p.pair).2==0 else false
def ZfR(p:Zp):Bool:=!(decide (p.id<1) ||decide (p.id>127))&&okV (Zbt p.id) p
theorem ZvV{b:Zc}(h:b.length<=65535):(Zbj b).2=0:=by
 unfold Zbj
 rw[if_neg (by omega)]
theorem ZLo{n:Nat}(h:n<268435456):(Zac (n:Int)).2=0:=by
 unfold Zac
 rw[if_neg (by omega)]
theorem ZNu{id:Int}(h:Zey id):1<=id/\id<=127/\Zbt id≠0:=by
 rcases h with rfl |rfl |rfl |rfl |rfl |rfl |rfl |rfl |rfl |rfl |rfl |rfl |rfl |rfl |rfl |rfl |rfl |rfl |rfl |rfl |rfl |rfl |rfl |rfl |rfl |rfl |rfl
 all_goals decide
def ZgC(p:Zp):Zc:=(Zce (Zbt p.id) p).1++(Zce (Zbt p.id) p).2
theorem ZKw{p:Zp}(h:¬(p.id<1\/p.id>127)):ZaF p=X1 p.id.toNat::ZgC p:=by
 unfold ZaF ZgC
 have e:(Zac p.id).1=[X1 p.id.toNat]:=by
  unfold Zac
  rw[if_neg (by omega)]
  simp only[Zcf]
  rw[if_pos (by omega)]
 rw[e];rfl
end
section
def Zhj(f:Bool)(x:Zc×Int):AVal:=.tup [.lst f (x.1.map Zb),.int .i64 x.2]
theorem ZXL(w:Int)(l:List Zp)(hl:l.length<=9223372036854775807)(b:Zc)(hb:b.length<=140737488355000)(i:Nat)(h1:¬(i:Int)<l.length) :
  ∃ f,Zj9 0 [(16,.int .i64 i),(15,.int .i64 l.length),(14,.lst false (l.map Zg)),(6,.sl 0 0 0 b.length),(1,.lst false (l.map Zg)),(0,.int .i64 w)] [.row 0 1 (b.map Zb)]=some (Zhj f (ZfN w l b),[]):=by
 have hV:=fun σ sq own=>Zgq σ sq own (b.length:Int)
 unfold Zfm at hV
 have l0:=Zfx (b.length:Int)
 have hJ:=fun σ sq own f=>Zwa σ sq own f (Zac b.length).1 b (by omega)
 have hR:=fun σ sq own f=>ZnG σ sq own f w ((Zac b.length).1++b) (by simp;omega)
 have hS:=fun σ sq own view (a:List Zp) (ha:a.length<=9223372036854775807)=>Znf σ sq own view a l ha
 have ht:=ZDD b
 have hlen:((Zac b.length).1++b).length<=140737488355328:=by simp;omega
 have hrl:=ZGb w ((Zac b.length).1++b)
 unfold ZfN Zhj
 generalize Zac b.length=V at *
 obtain⟨v,e⟩:=V
 simp only at hV hJ hR hlen hrl ⊢
 generalize hc:v++b=c at *
 generalize Z9 w c=R at *
 obtain⟨again,used,code⟩:=R
 simp only at hR hrl ⊢
 have hS2:=fun σ sq own view=>hS σ sq own view again (by omega)
 unfold Zj9
 by_cases he:e=0
 ·subst he
  have n0:((0:Int) != 0)=false:=rfl
  rw[if_neg (by simp)]
  by_cases hc0:code=0
  ·subst hc0
   by_cases hu:used=c.length
   ·have n2:((used:Int) != (c.length:Int))=false:=by simp[hu]
    cases hs:(again==l)<;>rw[hs]at hS2
    ·refine⟨true,?_⟩
     rw[if_pos (by simp),ZR]
     simp -implicitDefEqProofs only[EQA,Zv,Xc,Xa,unA,Zw,unG,reduceCtorEq,ZY,↓reduceIte,Zf,Ziw,ZiR,ZgD,Zg0,Zfj,Zd,h1,hV,hJ,hR,hS2,ht,n0,n2,viewAs,ZP,ZK,Zr,XF,AVal.cells]
    ·refine⟨false,?_⟩
     rw[if_neg (by simp[hu]),ZR]
     simp -implicitDefEqProofs only[EQA,Zv,Xc,Xa,unA,Zw,unG,reduceCtorEq,ZY,↓reduceIte,Zf,Ziw,ZiR,ZgD,Zg0,Zfj,Zd,h1,hV,hJ,hR,hS2,ht,n0,n2,viewAs,ZP,ZK,Zr,XF,AVal.cells]
   ·have n2:((used:Int) != (c.length:Int))=true:=by simp;omega
    refine⟨true,?_⟩
    rw[if_pos (by simp[hu]),ZR]
    simp -implicitDefEqProofs only[EQA,Zv,Xc,Xa,Zw,Zad,unG,reduceCtorEq,ZY,↓reduceIte,Zf,Ziw,ZiR,ZgD,Zg0,Zfj,Zd,h1,hV,hJ,hR,ht,n0,n2,viewAs,ZP,ZK,Zr,XF,AVal.cells]
  ·have n1:(code != 0)=true:=by simpa using hc0
   refine⟨true,?_⟩
   rw[if_pos (by simp[hc0]),ZR]
   simp -implicitDefEqProofs only[EQA,Zv,Xc,Xa,Zw,Zad,reduceCtorEq,ZY,↓reduceIte,Zf,Ziw,ZiR,ZgD,Zg0,Zfj,Zd,h1,hV,hJ,hR,ht,n0,n1,viewAs,ZP,ZK,Zr,XF,AVal.cells]
 ·have n1:(e != 0)=true:=by simpa using he
  refine⟨true,?_⟩
  rw[if_pos he,ZR]
  simp -implicitDefEqProofs only[EQA,Zv,Xc,Xa,reduceCtorEq,↓reduceIte,Zf,Ziw,ZiR,ZgD,Zg0,Zfj,Zd,h1,hV,n1]
theorem Zu5(w:Int)(l:List Zp)(hl:l.length<=9223372036854775807)(hx:∀ p∈l,Zex p):∀ (r:List Zp) (i:Nat) (acc:Zc),l.drop i=r->acc.length+r.length*200000<=140737488355000 ->
  ∃ f,Zj9 0 [(16,.int .i64 i),(15,.int .i64 l.length),(14,.lst false (l.map Zg)),(6,.sl 0 0 0 acc.length),(1,.lst false (l.map Zg)),(0,.int .i64 w)] [.row 0 1 (acc.map Zb)]=some (Zhj f (ZfN w l (acc++(r.map ZaF).flatten)),[])
 | [],i,acc,h,hn=>by
  simp only[Xt,WU,Xo]
  exact ZXL w l hl acc (by simpa using hn) i (Zcq h)
 |p::r,i,acc,h,hn=>by
  have hlp:=Zz3 p
  simp only[Xp]at hn
  obtain⟨f,ih⟩:=Zu5 w l hl hx r (i+1) (acc++ZaF p) (ZW h).2.1 (by rw[Xi];omega)
  refine⟨f,?_⟩
  have h1:(i:Int)<l.length:=by have:=(ZW h).2.2;omega
  have e1:=iad (ZW h).1 Zg (k:=5) rfl
  have e3:=Zcs h1 hl
  have hC:=fun σ sq own=>Zwq σ sq own p (hx p (XC (ZW h).1))
  rw[XU]at ih
  rw[Xm,Wn]
  generalize ZaF p=q at *
  have k1:=Zgf q
  have k2:(acc.length+q.length)*1<=140737488355328:=by omega
  have e4:(acc++q).map Zb=acc.map Zb++q.map Zb:=by simp
  have e5:(acc++q).length=acc.length+q.length:=by simp
  rw[e4,e5]at ih
  unfold Zj9 at ih ⊢
  rw[ZR]
  simp -implicitDefEqProofs only[EQA,ZM,Za7,Xe,Xc,Xa,Xg,reduceCtorEq,ZY,↓reduceIte,gcT,gcA,Zu,Zs,Zk,Zn,ZI,Zl,ZF,Zy,Zx,Zg0,Zfj,Zd,ZJ,Zg,Za0,h1,e1,e3,hC,k1,k2,ZaE,XF,AVal.cells]
  exact ih
theorem ZUz(w:Int)(l:List Zp)(hl:l.length<=700000000)(hx:∀ p∈l,Zex p):∃ f,E 95 [.int .i64 w,Zbh l] []=some (Zhj f (Za8 w l),[]):=by
 have z0:((0:Nat):Int)=0:=rfl
 unfold Za8
 cases l with
 |nil =>
  have hV:=fun σ sq own=>Zgq σ sq own 0
  have hv:Zac 0=([0],0):=rfl
  unfold Zfm at hV
  rw[hv]at hV
  have hJ:=fun σ sq own f=>Zwa σ sq own f [0] [] (by simp)
  have hR:=fun σ sq own f=>ZnG σ sq own f w [0] (by simp)
  have hr:Z9 w [0]=([],1,0):=rfl
  rw[hr]at hR
  have hS:=fun σ sq own view=>Znf σ sq own view [] [] (by simp)
  have e:ZfN w [] (([]:List Zp).map ZaF).flatten=([0],0):=by
   unfold ZfN
   simp only[Xt,WU,Xw,z0,hv,Xo,hr]
   rfl
  rw[e]
  refine⟨false,?_⟩
  rw[Zi (by rfl) ZwF]
  simp only[Xt,Xm,Zb]at hV hJ hR hS
  unfold Zhj
  have b0:Zb 0=.int .u8 0:=rfl
  have u0:(0:UInt8).toNat=0:=rfl
  have n0:((0:Int) != 0)=false:=rfl
  have n1:((1:Int) != 1)=false:=rfl
  rw[u0,z0]at hV hJ hR
  have z1:((1:Nat):Int)=1:=rfl
  rw[z1]at hR
  simp -implicitDefEqProofs only[EQA,ZM,Xc,Xa,reduceCtorEq,↓reduceIte,gcT,gcA,Zu,Zs,Zn,Zx,Zyw,Zni,Zd,Zbh]
  rw[ZR]
  simp -implicitDefEqProofs only[EQA,Zv,Xc,Xa,unA,Zw,unG,reduceCtorEq,↓reduceIte,Zf,Ziw,ZiR,ZgD,Zg0,Zfj,Zd,z0,z1,hV,hJ,hR,hS,n0,n1,b0,viewAs,ZP,ZK,Zr,AVal.cells,Int.reduceLT]
 |cons p r =>
  have hlp:=Zz3 p
  simp only[Xp]at hl
  obtain⟨f,ih⟩:=Zu5 w (p::r) (by simp only[Xp];omega) hx r 1 (ZaF p) rfl (by omega)
  refine⟨f,?_⟩
  have e1:=iad (l:=p::r) (i:=0) rfl Zg (k:=5) rfl
  have h1:(0:Int)<((p::r).length:Int):=by simp only[Xp];omega
  have w1:IntKind.i64.wrap (0+1)=1:=rfl
  have z1:((1:Nat):Int)=1:=rfl
  have hC:=fun σ sq own=>Zwq σ sq own p (hx p (by simp))
  rw[Xm,Wn]
  generalize ZaF p=q at *
  have k1:=Zgf q
  have k2:q.length*1<=140737488355328:=by omega
  have e6:(q.map Zb).length=q.length:=by simp
  rw[z0]at e1
  rw[z1]at ih
  generalize (r.map ZaF).flatten=t at *
  generalize hL:p::r=L at *
  rw[Zi (by rfl) ZwF]
  unfold Zj9 at ih
  simp -implicitDefEqProofs only[EQA,ZM,Xc,Xa,reduceCtorEq,↓reduceIte,gcT,gcA,Zu,Zs,Zn,Zx,Zyw,Zni,Zd,Zbh]
  rw[ZR]
  simp -implicitDefEqProofs only[EQA,ZM,Za7,Xe,Xc,Xa,Xg,reduceCtorEq,ZY,↓reduceIte,gcT,gcA,Zu,Zs,Zk,Zn,ZI,Zl,ZF,Zy,Zx,Zg0,Zfj,Zd,ZJ,Zg,Za0,h1,e1,w1,hC,k1,k2,ZaE,XF,AVal.cells]
  exact ih
theorem ZW8(σ:Za)(sq own:Nat)(f:Bool)(w:Int)(l:List Zp)(hl:l.length<=700000000)(hx:∀ p∈l,Zex p):Zj E BY σ sq 95 own true [.int .i64 w,.lst f (l.map Zg)]=some (Zhj false (Za8 w l),σ,{}):=by
 obtain⟨g,h⟩:=ZUz w l hl hx
 exact ZbD h (by kernel_rfl) rfl rfl rfl (fun _=>rfl) _ _ _
end
section
theorem Zw5(l:List Int)(hl:l.length<=9223372036854775807)(v:Int):∀ (r:List Int) (i:Nat),l.drop i=r ->
  ∃ z,ZkO 0 [(8,.int .i64 i),(7,.int .i64 l.length),(1,.int .i64 v),(0,.lst false (l.map (AVal.int .i64 ·)))] []=some (.int .i64 z,[])/\decide (z>=0)=r.contains v
 | [],i,h=>by
  have h1:=Zcq h
  refine⟨-1,?_,by simp⟩
  unfold ZkO
  rw[ZR]
  simp -implicitDefEqProofs only[EQA,Xc,Xa,reduceCtorEq,↓reduceIte,Zya,ZWi,ZsJ,ZsR,ZjS,Zd,h1]
 |x::r,i,h=>by
  obtain⟨z,ih,hz⟩:=Zw5 l hl v r (i+1) (ZW h).2.1
  have h1:(i:Int)<l.length:=by have:=(ZW h).2.2;omega
  have e1:=iad (ZW h).1 (AVal.int .i64 ·) (k:=1) rfl
  have e3:=Zcs h1 hl
  cases hb:(v==x)
  ·refine⟨z,?_,by rw[hz];simp only[WI,hb,Bool.false_or]⟩
   unfold ZkO at ih ⊢
   rw[ZR]
   have hb':(x==v)=false:=by simp only[beq_eq_false_iff_ne,ne_eq]at hb ⊢;exact fun e=>hb e.symm
   simp -implicitDefEqProofs only[EQA,Zz,ZM,Xc,Xa,reduceCtorEq,↓reduceIte,gcT,gcA,Zu,Zs,Zn,Zx,ZsR,ZjS,Zd,h1,e1,e3,hb]
   exact ih
  ·refine⟨i,?_,by simp only[WI,hb,Bool.true_or];simp⟩
   have hb':(x==v)=true:=by simp only[beq_iff_eq]at hb ⊢;exact hb.symm
   unfold ZkO at ih ⊢
   rw[ZR]
   simp -implicitDefEqProofs only[EQA,Zz,Xc,Xa,reduceCtorEq,↓reduceIte,Zya,ZsR,ZjS,Zd,h1,e1,hb]
theorem ZTL(l:List Int)(hl:l.length<=9223372036854775807)(v:Int):∃ z,E 86 [ZdJ l,.int .i64 v] []=some (.int .i64 z,[])/\decide (z>=0)=l.contains v:=by
 obtain⟨z,h,hz⟩:=Zw5 l hl v l 0 rfl
 refine⟨z,?_,hz⟩
 have z0:((0:Nat):Int)=0:=rfl
 rw[z0]at h
 unfold ZkO at h
 rw[Zi (by rfl) ZT2]
 simp -implicitDefEqProofs only[EQA,ZM,Xc,Xa,reduceCtorEq,↓reduceIte,gcT,gcA,Zu,Zs,Zn,Zx,ZG9,Zuk,Zd,ZdJ,ZdJ]
 exact h
theorem ZWb(l:List Int)(hl:l.length<=9223372036854775807)(v:Int):E 61 [ZdJ l,.int .i64 v] []=some (.bool (l.contains v),[]):=by
 obtain⟨z,h,hz⟩:=ZTL l hl v
 have hC:∀ (σ:Za) (sq own:Nat) (view:Bool),Zj E BY σ sq 86 own view [.lst false (l.map (AVal.int .i64 ·)),.int .i64 v]=some (.int .i64 z,σ,{}):=fun σ sq own view=>Za2 (h) (by kernel_rfl) (by simp -implicitDefEqProofs only[Zbu,Zai,eq_self,ZdJ,ZdJ]) (by simp -implicitDefEqProofs only[Zz,Zai,eq_self,ZdJ,ZdJ]) rfl (fun _=>rfl) _ _ _ _
 rw[Zi (by rfl) ZL3]
 rw[<-hz]
 simp -implicitDefEqProofs only[EQA,Xc,Xa,reduceCtorEq,↓reduceIte,ZJN,Zuf,ZBI,Zd,ZdJ,hC]
theorem ZFs(σ:Za)(sq own:Nat)(l:List Int)(hl:l.length<=9223372036854775807)(v:Int)(b:Bool):Zj E BY σ sq 61 own true [.lst b (l.map (AVal.int .i64 ·)),.int .i64 v]=some (.bool (l.contains v),σ,{}) :=
 ZbD (ZWb l hl v) (by kernel_rfl) rfl rfl rfl (fun _=>rfl) _ _ _
def Zcv(ids:List Int)(l:List Zp):List Zp:=l.filter fun p=>ids.contains p.id
theorem Zsf(ids:List Int)(hi:ids.length<=9223372036854775807)(l:List Zp)(hl:l.length*72<=140737488355328)(hd:∀ p∈l,p.data.length<=140737488355328)(full:List AVal):∀ (r:List Zp) (i:Nat) (acc:List Zp),l.drop i=r->acc.length+r.length<=l.length->full=(acc++Zcv ids r).map Zg ->
  Zk0 0 [(10,.int .i64 i),(9,.int .i64 l.length),(8,.lst false (l.map Zg)),(5,ZcL (acc.map Zg)),(1,.lst false (ids.map (AVal.int .i64 ·)))] (ZcI 5 (acc.map Zg))=some (ZcL full,ZcI 5 full)
 | [],i,acc,h,_,hf=>by
  have h1:=Zcq h
  have e:acc++Zcv ids []=acc:=by simp[Zcv]
  rw[e]at hf
  subst hf
  unfold Zk0
  rw[ZR]
  cases acc with
  |nil=>simp -implicitDefEqProofs only[EQA,Zv,Xc,Xa,↓reduceIte,Zu4,ZzL,Zlr,ZiS,Zgo,Zd,h1,Zdu,ZdB]
  |cons a acc=>simp -implicitDefEqProofs only[EQA,Xc,Xa,↓reduceIte,Zu4,ZzL,Zlr,ZiS,Zgo,Zd,ZJ,Zg,Za0,h1,ZdF,Zdr,ZAn]
 |p::r,i,acc,h,hn,hf=>by
  have h1:(i:Int)<l.length:=by have:=(ZW h).2.2;omega
  have e1:=iad (ZW h).1 Zg (k:=5) rfl
  have e3:=Zcs h1 (by omega)
  have hC:=fun σ sq own=>Zzf σ sq own p (hd p (XC (ZW h).1))
  have hK:=fun σ sq own b=>ZFs σ sq own ids hi p.id b
  cases hb:ids.contains p.id
  ·have e:Zcv ids (p::r)=Zcv ids r:=by unfold Zcv;rw[List.filter_cons,hb];rfl
   rw[e]at hf
   have ih:=Zsf ids hi l hl hd full r (i+1) acc (ZW h).2.1 (by simp at hn;omega) hf
   clear hf
   rw[hb]at hK
   unfold Zk0 at ih ⊢
   rw[ZR]
   cases acc with
   |nil =>
    simp -implicitDefEqProofs only[EQA,Zz,ZM,Xe,Xc,Xf,Xa,Xg,↓reduceIte,gcT,gcA,Zu,Zs,Zn,Zx,ZiS,Zgo,Zd,ZJ,Zg,Za0,h1,e1,e3,hK,Zdu,ZdB]
    exact ih
   |cons a acc =>
    simp -implicitDefEqProofs only[EQA,Zz,ZM,Za7,Xe,Xc,Xf,Xa,Xg,↓reduceIte,gcT,gcA,Zu,Zs,Zk,Zn,ZI,Zl,ZF,Zy,Zx,ZiS,Zgo,Zd,ZJ,Zg,Za0,h1,e1,e3,hK,ZdF,Zdr]
    simp only[Xm,ZdF,Zdr,Xp,XD,Zg,Za0,ZJ]at ih
    exact ih
  ·have e:acc++Zcv ids (p::r)=(acc++[p])++Zcv ids r:=by unfold Zcv;rw[List.filter_cons,hb];simp
   rw[e]at hf
   have ih:=Zsf ids hi l hl hd full r (i+1) (acc++[p]) (ZW h).2.1 (by simp at hn ⊢;omega) hf
   clear hf
   rw[hb]at hK
   unfold Zk0 at ih ⊢
   rw[ZR]
   cases acc with
   |nil =>
    simp -implicitDefEqProofs only[EQA,ZM,Za7,Xe,Xc,Xf,Xa,Xg,ZY,↓reduceIte,gcT,gcA,Zu,Zs,Zk,Zn,ZI,Zl,ZF,Zy,Zx,ZiS,Zgo,Zd,ZJ,Zg,Za0,h1,e1,e3,hK,hC,Zdu,ZdB,ZaE,kOk,viewAs,ZP,ZK,Zat,Zr,W7,AVal.cells]
    simp only[Xm,Xt,XA,ZdF,Zdr,Xp,Xw,Zg,Za0,ZJ,XB]at ih
    exact ih
   |cons a acc =>
    have hz:(acc.length+1+1)*72<=140737488355328:=by simp at hn;omega
    simp -implicitDefEqProofs only[EQA,ZM,Za7,Xe,Xc,Xf,Xa,Xg,reduceCtorEq,ZY,↓reduceIte,gcT,gcA,Zu,Zs,Zk,Zn,ZI,Zl,ZF,Zy,Zx,ZiS,Zgo,Zd,ZJ,Zg,Za0,h1,e1,e3,hK,hC,ZdF,Zdr,ZaE,kOk,viewAs,ZP,ZK,Zat,Zr,AVal.cells,hz]
    simp only[X4,Xm,Xt,XV,ZdF,Zdr,Xi,Xp,XD,Xw,Zg,Za0,ZJ,XB,Nat.add_assoc,Xe]at ih
    exact ih
theorem ZHf(ids:List Int)(hi:ids.length<=9223372036854775807)(l:List Zp)(hl:l.length*72<=140737488355328)(hd:∀ p∈l,p.data.length<=140737488355328):E 31 [Zbh l,ZdJ ids] []=some (ZcL ((Zcv ids l).map Zg),ZcI 5 ((Zcv ids l).map Zg)):=by
 have:=Zsf ids hi l hl hd ((Zcv ids l).map Zg) l 0 [] rfl (by simp) (by simp)
 have z0:((0:Nat):Int)=0:=rfl
 rw[z0,Xt,Zdu,ZdB]at this
 unfold Zk0 at this
 rw[Zi (by rfl) ZCP]
 simp -implicitDefEqProofs only[EQA,ZM,Xc,Xa,reduceCtorEq,↓reduceIte,gcT,gcA,Zu,Zs,Zn,Zx,ZBG,ZsM,Zd,ZdJ,Zbh,ZdJ]
 exact this
theorem Zva(σ:Za)(sq own:Nat)(b:Bool)(ids:List Int)(hi:ids.length<=9223372036854775807)(l:List Zp)(hl:l.length*72<=140737488355328)(hd:∀ p∈l,p.data.length<=140737488355328)(b':Bool):Zj E BY σ sq 31 own true [.lst b' (l.map Zg),.lst b (ids.map (AVal.int .i64 ·))]=some (.lst false ((Zcv ids l).map Zg),σ,{}) :=
 ZzV (ZHf ids hi l hl hd) (by kernel_rfl) rfl rfl σ sq own
def Zdx(l:List Zp):List Zp:=Zcv [1,3,8,9,38] l
theorem ZKu(l:List Zp)(hl:l.length*72<=140737488355328)(hd:∀ p∈l,p.data.length<=140737488355328):E 63 [Zbh l] []=some (Zbh (Zdx l),[]):=by
 have hC:=fun σ sq own b b'=>Zva σ sq own b [1,3,8,9,38] (by decide) l hl hd b'
 simp only[Xm,Xt]at hC
 have e:Zcv [1,3,8,9,38] l=Zdx l:=rfl
 rw[e]at hC
 rw[Zi (by rfl) ZSW]
 simp -implicitDefEqProofs only[EQA,Zv,Xc,Xa,reduceCtorEq,↓reduceIte,ZBN,ZpW,ZLw,Zd,Zbh,hC,viewAs,ZP,ZK,Zr,AVal.cells]
theorem ZWT(σ:Za)(sq own:Nat)(b:Bool)(l:List Zp)(hl:l.length*72<=140737488355328)(hd:∀ p∈l,p.data.length<=140737488355328):Zj E BY σ sq 63 own true [.lst b (l.map Zg)]=some (.lst false ((Zdx l).map Zg),σ,{}) :=
 ZbD (ZKu l hl hd) (by kernel_rfl) rfl rfl rfl (fun _=>rfl) σ sq own
end
section
theorem ZCw(w:Int)(b:Zc)(h:(Z9 w b).2.2=0):(Z9 w b).2.1<=268435460:=by
 have h1:=ZuW b
 have h2:(Z0 b).2.1<=5:=by
  have : ∀ (b:Zc) (i n:Nat),i<=4->(gvA i n b).2.1<=5:=by
   intro b
   induction b with
   |nil=>intro i n hi;unfold gvA;split<;>simp
   |cons c r ih =>
    intro i n hi
    unfold gvA
    repeat' split
    all_goals (try simp only)
    all_goals first
     |omega
     |exact ih _ _ (by omega)
  exact this b 0 0 (by omega)
 unfold Z9 at h⊢
 split
 ·rename_i hc;rw[if_pos hc]at h;simp at h
 ·rename_i hc
  rw[if_neg hc]at h
  split
  ·simp only;omega
  ·rename_i h3;rw[if_neg h3]at h;exact absurd h h3
structure ZUE(n:Zax):Prop where
 topic:n.topic.length<=9223372036854775807
 payload:n.payload.length<=9223372036854775807
 sender:n.sender.length<=9223372036854775807
 props:n.props.length<=700000000
 tx:∀ p∈n.props,Zex p
 dat:∀ p∈n.props,p.data.length<=140737488355328
end
section
def wn:List AVal:=[.lst true [],.int .i64 0,.int .i8 0]
def wv(r g n:Nat):List AVal:=[.sl r g 0 n,.int .i64 0,.int .i8 0]
def wH(g:Nat)(l:Zc):Za:=[.var (wv 1 g l.length),.row g 1 (l.map Zb)]
theorem ZbL{σ:Za}{sq f own:Nat}{view:Bool}{args:List AVal}{r:AVal×Za×Cls}(h:Zj E BY σ sq f own view args=some r):Zj E1 BY σ sq f own view args=some r:=ZqE ZkM h
theorem Zi5{O:ZV}{f:Nat}{args args':List AVal}{l l':Zc}{q:AVal}(hq:ZS q=true)(hw:viewR (wH 1 l') q=some (q,[])/\viewR (wH 0 l') q=some (q,[]))(g2:Nat)(hg2:g2<=1)(h:O f (.ref 0 0::args') (wH 0 l)=some (q,wH g2 l'))(hb:BY f=false)(hp:args.all Zan=true)(hn:args.map ZN=args'){σ:Za}{t r g sq own:Nat}(htr:t≠r)(hff:ZaM σ sq own=true)(hs:σ[t]?=some (.var (wv r g l.length)))(hr:σ[r]?=some (.row g 1 (l.map Zb))) :
  Zj O BY σ sq f own true (.ref t 0::args)=some (q,(σ.set t (.var (wv r (g+g2) l'.length))).set r (.row (g+g2) 1 (l'.map Zb)),{ any:=true,upd:=[(t,wv r (g+g2) l'.length)] }):=by
 subst hn
 have hw':viewR [.var (wv 1 g2 l'.length),.row g2 1 (l'.map Zb)] q=some (q,[]):=by
  rcases Wx g2 1 with e |e
  ·obtain rfl:g2=0:=by omega
   exact hw.2
  ·obtain rfl:g2=1:=by omega
   exact hw.1
 exact ZhO (cs1:=wv 1 0 l.length) (cs2:=wv 1 g2 l'.length) hs hr htr rfl hb hp (fun ρ hρ=>by simp only[wv,Zh,Zo,hρ]) hg2 hff hq h (Zm1 true hq hw' rfl hg2 (fun ρ hρ=>by simp only[wv,Zh,Zo,hρ])) (fun ρ hρ=>by simp only[wv,Zh,Zo,hρ])
theorem Zhc{O:ZV}{f:Nat}{args args':List AVal}{l':Zc}{q:AVal}(hq:ZS q=true)(hv:Z3 true 1 (some (q,wH 0 l'))=some (q,wH 0 l'))(h:O f (.ref 0 0::args') [.var wn]=some (q,wH 0 l'))(hb:BY f=false)(hp:args.all Zan=true)(hn:args.map ZN=args'){σ:Za}{t sq:Nat}(hf:σ[sq]?=some .free)(hs:σ[t]?=some (.var wn)) :
  Zj O BY σ sq f 1 true (.ref t 0::args)=some (q,(σ.set t (.var (wv sq 0 l'.length))).set sq (.row 0 1 (l'.map Zb)),{ any:=true,upd:=[(t,wv sq 0 l'.length)] }):=by
 subst hn
 have htl:t<σ.length:=(Xl.1 hs).1
 have hsl:sq<σ.length:=(Xl.1 hf).1
 have hne:sq≠t:=by rintro rfl;rw[hs]at hf;cases hf
 have h1:σ.getD t .free=.var wn:=by simp[Xh,hs]
 have hf0:Zr σ []=σ:=rfl
 have hsh:showAs σ (.ref t 0::args)=some (.ref t 0::args.map ZN,[]):=by
  rw[showAs,show showA σ (.ref t 0)=some (.ref t 0,[])from rfl,Zej hp]
  rfl
 have href:Zt (.ref t 0::args.map ZN)=[t]:=by
  rw[Zt,ZdC hp];rfl
 have hre:Zs σ 1000 [t] []=[t]:=by
  have e1:([]:List Nat).contains t=false:=rfl
  rw[show(1000:Nat)=998+1+1 from rfl,Zs,e1]
  simp only[Xj,if_false,h1,Zx]
  rfl
 unfold Zj ZbS
 rw[hb]
 simp only[Xj,if_false,hsh,hf0,href,hre]
 unfold ZbK
 have hall:([t].all fun t=>okB (σ.getD t .free))=true:=by simp only[XO,Ws,h1,okB,Xat]
 rw[if_pos hall]
 have hρt:Zk σ 0 [t] t 0=some (0,0):=by simp[Zk,ZI,hs,Zl,ZF]
 have hargs:Zh (Zk σ 0 [t]) (.ref t 0::args.map ZN)=.ref 0 0::args.map ZN:=by
  rw[Zh,ZdE hp]
  simp only[Zo,hρt]
 have hheap:Zn σ 0 [t] (Zk σ 0 [t]) [t] 0=[.var wn]:=by
  simp only[Zn,h1,Zy]
  rfl
 rw[hargs,hheap,h]
 rw[show [t].length=1 from rfl,hv]
 have hk:ZaW σ [t] (wH 0 l') 0=true:=by simp[wH,ZaW,okB,Zcr,Zl,hs]
 have hff:ZaM σ sq 1=true:=by simp[ZaM,freeAt,hf]
 have hup:ZaZ ((σ.set t (.var (wv sq 0 l'.length))).set sq (.row 0 1 (l'.map Zb))) [t]=[(t,wv sq 0 l'.length)]:=by
  have e1:((σ.set t (.var (wv sq 0 l'.length))).set sq (.row 0 1 (l'.map Zb)))[t]?=some (.var (wv sq 0 l'.length)):=by
   rw[Xn hne,X7 htl]
  simp only[ZaZ,e1]
 have hlay:Za9 σ [t] sq (wH 0 l') 0 σ=(σ.set t (.var (wv sq 0 l'.length))).set sq (.row 0 1 (l'.map Zb)):=by
  simp[wH,Za9,ZaN,Zch,Zy,Zl,wv,Zh,Zo,ZaJ]
 simp only[ZaA,Wm,WX,Xj,if_false,hk,hff,hlay,hup,(Zbm _ _ hq).1]
 rfl
theorem ZAf{O:ZV}{f:Nat}{args args':List AVal}(h:O f (.ref 0 0::args') [.var wn]=some (.tup [],[.var wn]))(hb:BY f=false)(hp:args.all Zan=true)(hn:args.map ZN=args'){σ:Za}{t sq own:Nat}(hff:ZaM σ sq own=true)(hs:σ[t]?=some (.var wn)) :
  Zj O BY σ sq f own true (.ref t 0::args)=some (.tup [],σ,{ any:=true,upd:=[(t,wn)] }):=by
 subst hn
 have htl:t<σ.length:=(Xl.1 hs).1
 have h1:σ.getD t .free=.var wn:=by simp[Xh,hs]
 have hf0:Zr σ []=σ:=rfl
 have hsh:showAs σ (.ref t 0::args)=some (.ref t 0::args.map ZN,[]):=by
  rw[showAs,show showA σ (.ref t 0)=some (.ref t 0,[])from rfl,Zej hp]
  rfl
 have href:Zt (.ref t 0::args.map ZN)=[t]:=by
  rw[Zt,ZdC hp];rfl
 have hre:Zs σ 1000 [t] []=[t]:=by
  have e1:([]:List Nat).contains t=false:=rfl
  rw[show(1000:Nat)=998+1+1 from rfl,Zs,e1]
  simp only[Xj,if_false,h1,Zx]
  rfl
 unfold Zj ZbS
 rw[hb]
 simp only[Xj,if_false,hsh,hf0,href,hre]
 unfold ZbK
 have hall:([t].all fun t=>okB (σ.getD t .free))=true:=by simp only[XO,Ws,h1,okB,Xat]
 rw[if_pos hall]
 have hρt:Zk σ 0 [t] t 0=some (0,0):=by simp[Zk,ZI,hs,Zl,ZF]
 have hargs:Zh (Zk σ 0 [t]) (.ref t 0::args.map ZN)=.ref 0 0::args.map ZN:=by
  rw[Zh,ZdE hp]
  simp only[Zo,hρt]
 have hheap:Zn σ 0 [t] (Zk σ 0 [t]) [t] 0=[.var wn]:=by
  simp only[Zn,h1,Zy]
  rfl
 rw[hargs,hheap,h]
 have hv:Z3 true 1 (some (.tup [],[.var wn]))=some (.tup [],[.var wn]):=rfl
 rw[show [t].length=1 from rfl,hv]
 have hk:ZaW σ [t] [.var wn] 0=true:=by simp[ZaW,okB,Zcr,Zl,hs]
 have hset:σ.set t (.var wn)=σ:=by
  apply List.ext_getElem?
  intro i
  rw[Xx]
  by_cases e:t=i
  ·subst e;rw[if_pos rfl,if_pos htl,hs]
  ·simp[e]
 have hup:ZaZ σ [t]=[(t,wn)]:=by simp only[ZaZ,hs]
 have hlay:Za9 σ [t] sq [.var wn] 0 σ=σ:=by
  simp only[Za9,ZaN,Zy,Xu]
  exact hset
 simp only[ZaA,Wm,Xj,if_false,hk,hff,hlay,hup,Zo,Zh,Xp,Xw,XB,Xay,XF,decide_true,Wg,if_true]
def wT(n:Nat):AVal:=.tup [.int .i64 (n:Nat),.nili]
theorem ZN0(x:Zc)(hx:x.length<=Zb7):E1 73 [.ref 0 0,.lst false (x.map Zb)] [.var wn]=some (wT x.length,wH 0 x):=by
 rw[ZvT]
 simp only[Zih,wn,XD,hx,Zgf,and_self,if_true]
 rfl
theorem ZQg(l x:Zc)(hx:l.length+x.length<=Zb7):E1 73 [.ref 0 0,.lst false (x.map Zb)] (wH 0 l)=some (wT x.length,wH 1 (l++x)):=by
 rw[ZvT]
 simp only[Zih,wH,wv,XD,hx,Zgf,and_self,if_true,X4,Xi]
 rfl
theorem ZvN(x:Zc)(hx:x.length<=Zb7){σ:Za}{t sq:Nat}(hf:σ[sq]?=some .free)(hs:σ[t]?=some (.var wn)) :
  Zj E1 BY σ sq 73 1 true [.ref t 0,.lst false (x.map Zb)]=some (wT x.length,(σ.set t (.var (wv sq 0 x.length))).set sq (.row 0 1 (x.map Zb)),{ any:=true,upd:=[(t,wv sq 0 x.length)] }) :=
 Zhc (args:=[.lst false (x.map Zb)]) rfl rfl (ZN0 x hx) (by kernel_rfl) rfl rfl hf hs
theorem ff1{σ:Za}{sq:Nat}(hf:σ[sq]?=some .free):ZaM σ sq 1=true:=by simp[ZaM,freeAt,hf]
theorem ZjK(l x:Zc)(hx:l.length+x.length<=Zb7){σ:Za}(t r g:Nat){sq:Nat}(htr:t≠r)(hf:σ[sq]?=some .free)(hs:σ[t]?=some (.var (wv r g l.length)))(hr:σ[r]?=some (.row g 1 (l.map Zb))) :
  Zj E1 BY σ sq 73 1 true [.ref t 0,.lst false (x.map Zb)]=some (wT x.length,(σ.set t (.var (wv r (g+1) (l++x).length))).set r (.row (g+1) 1 ((l++x).map Zb)),{ any:=true,upd:=[(t,wv r (g+1) (l++x).length)] }) :=
 Zi5 (args:=[.lst false (x.map Zb)]) rfl ⟨rfl,rfl⟩ 1 (by omega) (ZQg l x hx) (by kernel_rfl) rfl rfl htr (ff1 hf) hs hr
theorem Zzt(x:Zc)(σ:Za):Z4 1 (.var (wv 1 0 x.length)::.row 0 1 (x.map Zb)::σ) (.tup [])=some (.tup [],wH 0 x):=rfl
theorem Zh0(l:Zc)(g:Nat)(σ:Za):Z4 2 (.var (wv 1 (g+1) l.length)::.row (g+1) 1 (l.map Zb)::σ) (.tup [])=some (.tup [],wH 1 l):=by
 simp[Z4,gcA,Zu,Zt,ZT,Wa,XaY,Zx,wv,Zs,Zk,ZI,Zn,ZF,Zl,Zy,Zh,Zo,wH]
theorem ZEh(n:Int)(W:Nat)(h1:1<=W)(hW:W<=8):E1 70 [.ref 0 0,.int .i64 n,.int .i64 (W:Nat)] [.var wn]=some (.tup [],wH 0 (beB (ZU n) W)):=by
 have hw:=Zso n
 have hP:=fun σ sq own=>ZbL (Znk σ sq own (ZU n) W h1 hW)
 have hlen:(beB (ZU n) W).length<=Zb7:=by rw[Za3];unfold Zb7;omega
 generalize beB (ZU n) W=B at *
 have hC:=fun{σ:Za} {t sq:Nat}=>ZvN B hlen (σ:=σ) (t:=t) (sq:=sq)
 have hO:=fun σ=>Zzt B σ
 rw[ZbE (by rfl) Zxw]
 unfold wn at *
 simp -implicitDefEqProofs only[EQA,Xe,Xc,Xa,Xg,reduceCtorEq,↓reduceIte,ZyR,ZlV,ZAZ,Zd,hw,hP,hC,wT,hO,Z6,Zaf,Zah,Zau,Zas,Zar,Zav,Zaw,Zag]
theorem ZME(l:Zc)(n:Int)(W:Nat)(h1:1<=W)(hW:W<=8)(hl:l.length+W<=Zb7):E1 70 [.ref 0 0,.int .i64 n,.int .i64 (W:Nat)] (wH 0 l)=some (.tup [],wH 1 (l++beB (ZU n) W)):=by
 have hw:=Zso n
 have hP:=fun σ sq own=>ZbL (Znk σ sq own (ZU n) W h1 hW)
 have hlen:l.length+(beB (ZU n) W).length<=Zb7:=by rw[Za3];omega
 generalize beB (ZU n) W=B at *
 have hC:=fun{σ:Za} {sq:Nat}=>ZjK l B hlen (σ:=σ) 0 1 0 (sq:=sq) (by omega)
 have hO:=fun g σ=>Zh0 (l++B) g σ
 rw[ZbE (by rfl) Zxw]
 unfold wH at *
 simp -implicitDefEqProofs only[EQA,Xe,Xc,Xa,Xg,reduceCtorEq,↓reduceIte,ZyR,ZlV,ZAZ,Zd,hw,hP,hC,wT,hO,Z6,Zaf,Zah,Zau,Zas,Zar,Zav,Zaw,Zag]
end
section
def Zfy:Ze:=by apply Zd 15 [1,1,1,1,1] [];conv=>lhs;reduce;simp only[zi,zb]
@[irreducible] def Zth:Ze:=Zfy
def ZgY:=xw Zth Zfy (by kernel_rfl)
def Zec:Ze:=by apply Zd 15 [1,1,1,1,0,1,0,0] [];conv=>lhs;reduce;dsimp only[zi]
@[irreducible] def Zsq:Ze:=Zec
def ZfF:=xw Zsq Zec (by kernel_rfl)
def Zn4:Ze:=by apply Zd 15 [] [([1,1,1,1,0,1,0,0],Zsq),([1,1,1,1,1],Zth)];conv=>lhs;reduce;simp only[zi,zb]
def Znr:ZA:=⟨[(.cell 2 (some 14))],Zn4⟩
theorem ZRw:FC 15=some Znr:=by kernel_rfl
theorem Zzi:Znr.body=Zn4:=rfl
theorem Zg1:Znr.res=[(.cell 2 (some 14))]:=rfl
noncomputable def ZkB(m:Nat)(tm:Tms)(σ:Za):Option (AVal×Za):=(Zap m Znr (Zbo FC PR BY m Zth (XZ (ZaK 0) (evL FC PR BY m [5,4,2,1] Zsq tm σ))))
def Zii:Ze:=(.seq (.region [oM 62 3,oM 2 62] none [2]) .ret)
@[irreducible] def ZuT:Ze:=Zii
def Zoi:=xw ZuT Zii (by kernel_rfl)
def Zgh:Ze:=by apply Zd 35 [1,1,1,1,1,0,1,0,0] [];conv=>lhs;reduce;dsimp only[zi]
@[irreducible] def Zo3:Ze:=Zgh
def Zjg:=xw Zo3 Zgh (by kernel_rfl)
def ZsW:Ze:=by apply Zd 35 [] [([1,1,1,1,1,0,1,0,0],Zo3),([1,1,1,1,1,1],ZuT)];conv=>lhs;reduce;dsimp only[zi]
def Znu:ZA:=⟨[(.tmp 2)],ZsW⟩
theorem ZSl:FC 35=some Znu:=by kernel_rfl
theorem ZFO:Znu.body=ZsW:=rfl
theorem Zmz:Znu.res=[(.tmp 2)]:=rfl
noncomputable def ZlA(m:Nat)(tm:Tms)(σ:Za):Option (AVal×Za):=(Zap m Znu (Zbo FC PR BY m ZuT (XZ (ZaK 0) (evL FC PR BY m [4,3,1] Zo3 tm σ))))
def ZoB:Ze:=(.seq (.region [oM 25 3,oM 2 25] none [2]) .ret)
@[irreducible] def Zsw:Ze:=ZoB
def ZzP:=xw Zsw ZoB (by kernel_rfl)
def Zjw:Ze:=by apply Zd 33 [1,1,0,1,0,0] [];conv=>lhs;reduce;dsimp only[zi]
@[irreducible] def Zps:Ze:=Zjw
def ZrB:=xw Zps Zjw (by kernel_rfl)
def ZrS:Ze:=by apply Zd 33 [] [([1,1,0,1,0,0],Zps),([1,1,1],Zsw)];conv=>lhs;reduce;dsimp only[zi]
def Zmk:ZA:=⟨[(.tmp 2)],ZrS⟩
theorem ZV3:FC 33=some Zmk:=by kernel_rfl
theorem ZDZ:Zmk.body=ZrS:=rfl
theorem ZzS:Zmk.res=[(.tmp 2)]:=rfl
noncomputable def ZnP(m:Nat)(tm:Tms)(σ:Za):Option (AVal×Za):=(Zap m Zmk (Zbo FC PR BY m Zsw (XZ (ZaK 0) (evL FC PR BY m [4,3,0] Zps tm σ))))
end
section
theorem ZSg(b:Zc)(n:Int)(h0:0<=n):E 34 [ZJ b,.int .i64 n] []=some (ZJ (b.take n.toNat),[]):=by
 rw[Zi (by rfl) ZXD]
 by_cases h:n<(b.length:Int)
 ·have hl:n<=(b.length:Int):=by omega
  simp -implicitDefEqProofs only[EQA,Zv,Xc,Xa,reduceCtorEq,↓reduceIte,Zw4,ZmN,Zz4,Zd,ZJ,h0,h,hl,ZjQ]
 ·have hl:b.take n.toNat=b:=XI (by omega)
  simp -implicitDefEqProofs only[EQA,Zv,Xc,Xa,reduceCtorEq,↓reduceIte,Zw4,ZmN,Zz4,Zd,ZJ,h,hl]
theorem ZzA(σ:Za)(sq own:Nat)(view:Bool)(b:Zc)(n:Int)(h0:0<=n):Zj E BY σ sq 34 own view [.lst false (b.map Zb),.int .i64 n]=some (.lst false ((b.take n.toNat).map Zb),σ,{}) :=
 Za2 (ZSg b n h0) (by kernel_rfl) (by simp -implicitDefEqProofs only[Zbu,Zai,eq_self,ZJ]) (by simp -implicitDefEqProofs only[Zz,Zai,eq_self,ZJ]) rfl (fun _=>rfl) _ _ _ _
def Zdp(n lo hi:Int):Int:=lo+(if n.tmod (hi-lo+1)<0 then n.tmod (hi-lo+1)+(hi-lo+1)else n.tmod (hi-lo+1))
theorem ZOu(n:Int):E 5 [.int .i64 n,.int .i64 0,.int .i64 2] []=some (.int .i64 (Zdp n 0 2),[]):=by
 have w1:IntKind.i64.wrap (2-0)=2:=rfl
 have w2:IntKind.i64.wrap (2+1)=3:=rfl
 have hz:((3:Int)=0)=False:=by simp
 have hb:-3<n.tmod 3/\n.tmod 3<3:=by
  have h1:=XaJ n (show(0:Int)<3 by decide)
  have h2:=Xa2 n (show(0:Int)<3 by decide)
  omega
 unfold Zdp
 rw[show(2:Int)-0+1=3 from rfl]
 rw[Zi (by rfl) Zt4]
 by_cases h:n.tmod 3<0
 ·have w3:IntKind.i64.wrap (n.tmod 3+3)=n.tmod 3+3:=ZaC (by omega) (by omega)
  have w4:IntKind.i64.wrap (0+(n.tmod 3+3))=0+(n.tmod 3+3):=ZaC (by omega) (by omega)
  simp -implicitDefEqProofs only[EQA,Za7,Xe,Xc,Xa,reduceCtorEq,↓reduceIte,Zl7,Zjn,ZnN,Zd,w1,w2,w3,w4,hz,h]
 ·have w4:IntKind.i64.wrap (0+n.tmod 3)=0+n.tmod 3:=ZaC (by omega) (by omega)
  simp -implicitDefEqProofs only[EQA,Za7,Xe,Xc,Xa,reduceCtorEq,↓reduceIte,Zl7,Zjn,ZnN,Zd,w1,w2,w4,hz,h]
theorem Zw8(σ:Za)(sq own:Nat)(view:Bool)(n:Int):Zj E BY σ sq 5 own view [.int .i64 n,.int .i64 0,.int .i64 2]=some (.int .i64 (Zdp n 0 2),σ,{}) :=
 Za2 (ZOu n) (by kernel_rfl) rfl rfl rfl (fun _=>rfl) _ _ _ _
theorem ZWl(n:Int):Zdp n 0 2=0\/Zdp n 0 2=1\/Zdp n 0 2=2:=by
 have h1:=XaJ n (show(0:Int)<3 by decide)
 have h2:=Xa2 n (show(0:Int)<3 by decide)
 unfold Zdp
 rw[show(2:Int)-0+1=3 from rfl]
 split<;>omega
end
section
def ZeO(c:UInt8):UInt8:=X1 (97+c.toNat%26)
def Zb5(b:Zc):Zc:=(b.take 30).map ZeO
theorem ZWH(c:UInt8):IntKind.u8.wrap (97+(c.toNat:Int).tmod 26)=((ZeO c).toNat:Int):=by
 have h:(c.toNat:Int).tmod 26=((c.toNat%26:Nat):Int):=by rw[Int.tmod_eq_emod_of_nonneg (by omega)];omega
 rw[h,IntKind.wrap_u8,ZeO,Wr]
 omega
theorem ZxT(b:Zc)(hb:b.length<=9223372036854775807):∀ (r:Zc) (i:Nat) (acc:Zc),(b.take 30).drop i=r->acc.length<=i->i<=30 ->
  ZnP 0 [(4,.int .i64 i),(3,.str acc),(0,.lst false (b.map Zb))] []=some (.str (acc++r.map ZeO),[])
 | [],i,acc,h,ha,hi=>by
  rw[XW,X0]at h
  unfold ZnP
  rw[ZR]
  by_cases h1:(i:Int)<(b.length:Int)
  ·have h2:¬(i:Int)<30:=by omega
   simp -implicitDefEqProofs only[EQA,Zv,Xc,Xa,Zw,unG,reduceCtorEq,↓reduceIte,ZzS,ZzP,ZoB,ZrB,Zjw,Zd,h1,h2]
  ·simp -implicitDefEqProofs only[EQA,Zv,Xc,Xa,Zw,Zad,reduceCtorEq,↓reduceIte,ZzS,ZzP,ZoB,ZrB,Zjw,Zd,h1]
 |c::r,i,acc,h,ha,hi=>by
  have hd:=ZW h
  have hlt:i<min 30 b.length:=by have:=hd.2.2;rwa [X0]at this
  have ih:=ZxT b hb r (i+1) (acc++[ZeO c]) hd.2.1 (by simp;omega) (by omega)
  have hat:b[i]?=some c:=by
   have:=hd.1
   rw[XS]at this
   rw[if_pos (by omega)]at this
   exact this
  have h1:(i:Int)<(b.length:Int):=by omega
  have h2:(i:Int)<30:=by omega
  have e1:=iad hat Zb (k:=1) rfl
  have hw:IntKind.i64.wrap ((i:Int)+1)=((i+1:Nat):Int):=by rw[ZaC (by omega) (by omega)];rfl
  have hl:=ZWH c
  have hz:((26:Int)=0)=False:=by simp
  have k1:acc.length+1<=9223372036854775807:=by omega
  have hb2:Zf3 [AVal.int .u8 ((ZeO c).toNat:Int)]=some [ZeO c]:=by
   have:=Zxz [ZeO c];exact this
  rw[XU,WG,<-Xm]at ih
  unfold ZnP at ih ⊢
  rw[ZR]
  simp -implicitDefEqProofs only[EQA,ZM,Xc,Xa,Zbi,Zw,unG,reduceCtorEq,ZY,↓reduceIte,gcT,gcA,Zu,Zs,Zn,Zx,ZrB,Zjw,Zd,h1,h2,e1,hw,hl,hz,k1,hb2,Zb,AVal.cells,viewAs,ZP,ZK,Zr]
  exact ih
theorem ZG0(b:Zc)(hb:b.length<=9223372036854775807):E 33 [ZJ b] []=some (.str (Zb5 b),[]):=by
 have key:=ZxT b hb (b.take 30) 0 [] rfl (XF _) (by omega)
 have z0:((0:Nat):Int)=0:=rfl
 rw[z0]at key
 unfold ZnP at key
 rw[Zi (by rfl) ZV3]
 simp -implicitDefEqProofs only[EQA,ZM,Xc,Xa,reduceCtorEq,↓reduceIte,gcT,gcA,Zu,Zs,Zn,Zx,ZDZ,ZrS,Zd,ZJ]
 exact key
theorem ZiL(σ:Za)(sq own:Nat)(f:Bool)(b:Zc)(hb:b.length<=9223372036854775807):Zj E BY σ sq 33 own true [.lst f (b.map Zb)]=some (.str (Zb5 b),σ,{}) :=
 ZbD (ZG0 b hb) (by kernel_rfl) rfl rfl rfl (fun _=>rfl) _ _ _
structure ZdW where
 fmt:Int
 content:Zc
 corr:Zc
 users:Zc
def ZjD(x:Int):Int:=IntKind.i64.wrap (((XP IntKind.i64.bits x&&&XP IntKind.i64.bits 1).toNat:Nat):Int)
def Zfl(u:Zc)(c:UInt8):Zp:=⟨38,0,Zb5 [c],Zb5 u,[]⟩
def Zfg(p:ZdW):List Zp :=
 (if p.fmt>=0 then [⟨1,ZjD p.fmt,[],[],[]⟩]else [])++((if p.content.length>0 then [⟨3,0,Zb5 p.content,[],[]⟩]else [])++(if p.corr.length>0 then [⟨9,0,[],[],p.corr.take 30⟩]else []))
def Zb4(p:ZdW):List Zp:=Zfg p++(p.users.take 4).map (Zfl p.users)
def lsT(i:Int):List AVal->Tms
 | []=>[(4,.int .i64 i),(3,.lst true []),(1,.ref 0 0)]
 |x::xs=>[(4,.int .i64 i),(3,.sl 0 0 0 (x::xs).length),(1,.ref 1 0)]
def lsH(b:ZO):List AVal->Za
 | []=>[b]
 |x::xs=>[.row 0 5 (x::xs),b]
def pC(p:ZdW):List AVal:=[.int .i64 p.fmt,.lst false (p.content.map Zb),.lst false (p.corr.map Zb),.lst false (p.users.map Zb)]
theorem Zpp(i:Int){X:List AVal}(h:0<X.length):lsT i X=[(4,.int .i64 i),(3,.sl 0 0 0 X.length),(1,.ref 1 0)]:=by
 cases X with
 |nil=>simp at h
 |cons x xs=>rfl
theorem ZtZ(b:ZO){X:List AVal}(h:0<X.length):lsH b X=[.row 0 5 X,b]:=by
 cases X with
 |nil=>simp at h
 |cons x xs=>rfl
theorem ZwT(p:ZdW)(hu:p.users.length<=9223372036854775807):∀ (r:Zc) (i:Nat) (acc:List Zp),(p.users.take 4).drop i=r->acc.length<=3+i->i<=4 ->
  ZlA 0 (lsT i (acc.map Zg)) (lsH (.var (pC p)) (acc.map Zg))=some (ZcL ((acc++r.map (Zfl p.users)).map Zg),ZcI 5 ((acc++r.map (Zfl p.users)).map Zg))
 | [],i,acc,h,ha,hi=>by
  rw[XW,X0]at h
  simp only[Xt,Xo]
  unfold ZlA pC
  rw[ZR]
  cases acc with
  |nil =>
   simp only[Xt,Zdu,ZdB,lsT,lsH]
   by_cases h1:(i:Int)<(p.users.length:Int)
   ·have h2:¬(i:Int)<4:=by omega
    simp -implicitDefEqProofs only[EQA,Zv,Xc,Xa,Zw,unG,↓reduceIte,Zmz,Zoi,Zii,Zjg,Zgh,Zd,h1,h2]
    try (simp[Z4,gcA,Zu,Zs,Zt,ZT,Zk,Zn,ZI,Zl,ZF,Zh,Zo,Zy,Zx,Wd])
   ·simp -implicitDefEqProofs only[EQA,Zv,Xc,Xa,Zw,Zad,↓reduceIte,Zmz,Zoi,Zii,Zjg,Zgh,Zd,h1]
    try (simp[Z4,gcA,Zu,Zs,Zt,ZT,Zk,Zn,ZI,Zl,ZF,Zh,Zo,Zy,Zx,Wd])
  |cons a acc =>
   generalize hX:(a::acc).map Zg=X
   have hXp:0<X.length:=by rw[<-hX];simp
   rw[ZiT hXp,Zjp hXp,Zpp _ hXp,ZtZ _ hXp]
   by_cases h1:(i:Int)<(p.users.length:Int)
   ·have h2:¬(i:Int)<4:=by omega
    simp -implicitDefEqProofs only[EQA,Xe,Xc,Xa,Zw,unG,↓reduceIte,Zmz,Zoi,Zii,Zjg,Zgh,Zd,h1,h2]
    try (simp[Z4,gcA,Zu,Zs,Zt,ZT,Zk,Zn,ZI,Zl,ZF,Zh,Zo,Zy,Zx])
   ·simp -implicitDefEqProofs only[EQA,Xe,Xc,Xa,Zw,Zad,↓reduceIte,Zmz,Zoi,Zii,Zjg,Zgh,Zd,h1]
    try (simp[Z4,gcA,Zu,Zs,Zt,ZT,Zk,Zn,ZI,Zl,ZF,Zh,Zo,Zy,Zx])
 |c::r,i,acc,h,ha,hi=>by
  have hd:=ZW h
  have hlt:i<min 4 p.users.length:=by have:=hd.2.2;rwa [X0]at this
  have ih:=ZwT p hu r (i+1) (acc++[Zfl p.users c]) hd.2.1 (by simp;omega) (by omega)
  have hat:p.users[i]?=some c:=by
   have:=hd.1
   rw[XS]at this
   rw[if_pos (by omega)]at this
   exact this
  have hsl:(p.users.take (i+1)).drop i=[c]:=by
   rw[List.drop_take]
   have : i+1-i=1:=by omega
   rw[this]
   obtain⟨hl,he⟩:=Xl.1 hat
   rw[List.drop_eq_getElem_cons hl,he]
   rfl
  have h1:(i:Int)<(p.users.length:Int):=by omega
  have h2:(i:Int)<4:=by omega
  have hw:IntKind.i64.wrap ((i:Int)+1)=((i+1:Nat):Int):=by rw[ZaC (by omega) (by omega)];rfl
  have hs:=fun σ k1 k2=>Ztt σ p.users k1 k2 (i:Int) ((i+1:Nat):Int) (by omega) (by omega) (by omega)
  have t1:((i:Int)).toNat=i:=rfl
  have t2:(((i+1:Nat):Int)).toNat=i+1:=rfl
  rw[t1,t2,hsl]at hs
  have hP1:=fun σ sq own f=>ZiL σ sq own f [c] (by simp)
  have hP2:=fun σ sq own f=>ZiL σ sq own f p.users hu
  simp only[Xm,Xt]at hP1 hs
  rw[XU,WG,<-Xm]at ih
  generalize hR:acc++(c::r).map (Zfl p.users)=R at *
  unfold Zfl at ih
  unfold pC at ih ⊢
  generalize Zb5 [c]=U1 at *
  generalize Zb5 p.users=U2 at *
  unfold ZlA at ih ⊢
  rw[ZR]
  cases acc with
  |nil =>
   simp only[XA,Xt,Xm,lsT,lsH,Zg,Za0,ZJ,Xp,Xw,XB]at ih ⊢
   have hk:kOk 5 [AVal.agg [.int .i64 38,.int .i64 0,.str U1,.str U2,.lst false []]]=true:=rfl
   simp -implicitDefEqProofs only[EQA,ZaG,ZM,Za7,Xe,Xc,Xf,Xa,Xg,Zw,unG,reduceCtorEq,ZY,↓reduceIte,gcT,gcA,Zu,Zs,Zk,Zn,ZI,Zl,ZF,Zy,Zx,Zjg,Zgh,Zd,h1,h2,hw,hs,hP1,hP2,hk,Zab,AVal.cells,ZaE,viewAs,ZP,ZK,Zat,Zr,W7,Xf]
   exact ih
  |cons a acc =>
   rw[X4]at ih
   have hXl:((a::acc).map Zg).length=acc.length+1:=by simp
   simp only[Xp]at ha
   generalize hX:(a::acc).map Zg=X at *
   have hXp:0<X.length:=by omega
   have hXq:0<(X++[(⟨38,0,U1,U2,[]⟩:Zp)].map Zg).length:=by rw[Xi];omega
   rw[Zpp _ hXq,ZtZ _ hXq]at ih
   rw[Zpp _ hXp,ZtZ _ hXp]
   simp only[Xm,Xt,Zg,Za0,ZJ,Xi,Xp,Xw,XB]at ih
   have hk:kOk 5 [AVal.agg [.int .i64 38,.int .i64 0,.str U1,.str U2,.lst false []]]=true:=rfl
   have k2:(X.length+1)*72<=140737488355328:=by omega
   simp -implicitDefEqProofs only[EQA,ZaG,ZM,Za7,Xe,Xc,Xf,Xa,Xg,Zw,unG,reduceCtorEq,ZY,↓reduceIte,gcT,gcA,Zu,Zs,Zk,Zn,ZI,Zl,ZF,Zy,Zx,Zjg,Zgh,Zd,h1,h2,hw,hs,hP1,hP2,hk,k2,Zab,AVal.cells,Z6,Zaf,Zah,Zau,Zas,Zar,Zav,Zaw,Zag,Xy,ZaE,viewAs,ZP,ZK,Zat,Zr]
   exact ih
theorem ZVc(p:ZdW)(h1:p.content.length<=9223372036854775807)(h3:p.users.length<=9223372036854775807):E 35 [.agg (pC p)] []=some (ZcL ((Zb4 p).map Zg),ZcI 5 ((Zb4 p).map Zg)):=by
 have hlen:(Zfg p).length<=3:=by
  unfold Zfg
  repeat' split
  all_goals simp
 have key:=ZwT p h3 (p.users.take 4) 0 (Zfg p) rfl (by omega) (by omega)
 have hP:=fun σ sq own f=>ZiL σ sq own f p.content h1
 have hC:=fun σ sq own=>ZzA σ sq own true p.corr 30 (by omega)
 have z0:((0:Nat):Int)=0:=rfl
 have z30:(30:Int).toNat=30:=rfl
 rw[z30]at hC
 rw[z0]at key
 rw[show Zb4 p=Zfg p++(p.users.take 4).map (Zfl p.users)from rfl]
 generalize hR:Zfg p++(p.users.take 4).map (Zfl p.users)=R at *
 unfold Zfg ZjD at key
 unfold pC at key ⊢
 generalize Zb5 p.content=U1 at *
 generalize p.corr.take 30=U2 at *
 unfold ZlA at key
 have w1:kOk 5 [AVal.agg [.int .i64 1,.int .i64 (IntKind.i64.wrap (((XP IntKind.i64.bits p.fmt&&&XP IntKind.i64.bits 1).toNat:Nat):Int)),.str [],.str [],.lst false []]]=true:=rfl
 have w2:kOk 5 [AVal.agg [.int .i64 3,.int .i64 0,.str U1,.str [],.lst false []]]=true:=rfl
 have w3:kOk 5 [AVal.agg [.int .i64 9,.int .i64 0,.str [],.str [],.lst false (U2.map Zb)]]=true:=rfl
 by_cases c1:p.fmt>=0<;>by_cases c2:(p.content.length:Int)>0<;>by_cases c3:(p.corr.length:Int)>0
 all_goals (have d2:(p.content.length>0)=((p.content.length:Int)>0):=by simp)
 all_goals (have d3:(p.corr.length>0)=((p.corr.length:Int)>0):=by simp)
 all_goals simp only[c1,d2,c2,d3,c3,if_true,if_false,XA,Xo,XV,Xm,Xt,lsT,lsH,Zg,Za0,ZJ,Xp,Xw,XB]at key
 all_goals clear d2 d3
 all_goals rw[Zi (by rfl) ZSl]
 all_goals simp -implicitDefEqProofs only[EQA,ZaG,ZM,Za7,Xe,Xc,Xf,Xa,Xg,Nat.reduceMul,reduceCtorEq,ZY,↓reduceIte,gcT,gcA,Zu,Zs,Zk,Zn,ZI,Zl,ZF,Zy,Zx,ZFO,ZsW,Zd,c1,c2,c3,hP,hC,w1,w2,w3,Zab,AVal.cells,ZaE,viewAs,ZP,ZK,Zat,Zr,W7,XF,Nat.reduceMul,Xf]
 all_goals exact key
theorem ZTG(σ:Za)(sq own:Nat)(p:ZdW)(h1:p.content.length<=9223372036854775807)(h3:p.users.length<=9223372036854775807):Zj E BY σ sq 35 own true [.agg [.int .i64 p.fmt,.lst false (p.content.map Zb),.lst false (p.corr.map Zb),.lst false (p.users.map Zb)]]=some (.lst false ((Zb4 p).map Zg),σ,{}) :=
 ZzV (k:=5) (ZVc p h1 h3) (by kernel_rfl) rfl rfl _ _ _
end
section
end
section
structure ZXS where
 r1:Zc×ZeE
 r2:Zc×ZeE
 r3:Zc×ZeE
 r4:Zc×ZeE
 r5:Zc×ZeE
 r6:Zc×ZeE
 r7:Zc×ZeE
 r8:Zc×ZeE
end
section
theorem ZMb(w:Int)(b:Zc):(Z9 w b).1.length<=268435455:=by
 have hlt:=ZuW b
 unfold Z9
 split
 ·simp
 ·split
  ·have:=ZpK w (Z0 b).1 ((b.take ((Z0 b).2.1+(Z0 b).1)).drop (Z0 b).2.1) []
   simp only[X9,X0,Xw]at this
   simp only
   omega
  ·simp
end
section
structure ZXU(it:ZhZ):Prop where
 note:ZUE it.note
 ids:it.ids.length<=1000000
 share:it.share.length<=9223372036854775807
end
section
def itC(n:Zax)(q:Int)(rt:Bool)(ids:AVal)(sh:Zc):List AVal:=[.str n.topic,.lst false (n.payload.map Zb),.int .i64 n.qos,.bool n.retain,.str n.sender,.int .i64 n.expires,.lst false (n.props.map Zg),.int .i64 n.origin,.int .i64 n.number,.int .i64 n.hops,.int .i64 q,.bool rt,ids,.str sh]
def itZ:List AVal:=[.str [],.lst true [],.int .i64 0,.bool false,.str [],.int .i64 0,.lst true [],.int .i64 0,.int .i64 0,.int .i64 0,.int .i64 0,.bool false,.lst true [],.str []]
end
section
def ZaS(x k:Int):Int:=IntKind.i64.wrap (((XP IntKind.i64.bits x&&&XP IntKind.i64.bits k).toNat:Nat):Int)
structure ZcN where
 topic:Zc
 sender:Zc
 share:Zc
 payload:Zc
 qos:Int
 sub:Int
 retain:Bool
 keep:Bool
 life:Int
 p:ZdW
 ids:List Int
 origin:Int
 number:Int
def mC(m:ZcN):List AVal:=[.lst false (m.topic.map Zb),.lst false (m.sender.map Zb),.lst false (m.share.map Zb),.lst false (m.payload.map Zb),.int .i64 m.qos,.int .i64 m.sub,.bool m.retain,.bool m.keep,.int .i64 m.life,.int .i64 m.p.fmt,.lst false (m.p.content.map Zb),.lst false (m.p.corr.map Zb),.lst false (m.p.users.map Zb),.lst false (m.ids.map (AVal.int .i64)),.int .i64 m.origin,.int .i64 m.number]
structure Zhx(m:ZcN):Prop where
 topic:m.topic.length<=9223372036854775807
 sender:m.sender.length<=9223372036854775807
 share:m.share.length<=9223372036854775807
 content:m.p.content.length<=9223372036854775807
 users:m.p.users.length<=9223372036854775807
 ids:m.ids.length<=9223372036854775807
def ZgW(x:Int):Int:=IntKind.i64.wrap (1+ZaS x 16777215)
def ZbG(m:ZcN):Zax:=⟨116::Zb5 m.topic,m.payload.take 300,Zdp m.qos 0 2,m.retain,Zb5 m.sender,if m.life>0 then ZaS m.life 65535 else 0,Zb4 m.p,ZaS m.origin 255,ZaS m.number 16777215,0⟩
def ZhX(m:ZcN):Zc:=if(m.share.length:Int)>0 then [36,115,104,97,114,101,47,103,47]++Zb5 m.share else []
def Zbn(m:ZcN):ZhZ:=⟨ZbG m,Zdp m.sub 0 2,m.keep,(m.ids.take 4).map ZgW,ZhX m⟩
def itO(it:ZhZ):AVal×Za:=(.agg (itC it.note it.qos it.retain (ZcL (it.ids.map (AVal.int .i64))) it.share),ZcI 1 (it.ids.map (AVal.int .i64)))
def miT(i:Int):List AVal->Tms
 | []=>[(5,.int .i64 i),(4,.ref 0 0),(2,.ref 1 0),(1,.ref 2 0)]
 |_::_=>[(5,.int .i64 i),(4,.ref 0 0),(2,.ref 2 0),(1,.ref 3 0)]
def miH(n:Zax)(q:Int)(rt:Bool)(z b:ZO):List AVal->Za
 | []=>[.var (itC n q rt (.lst true []) []),z,b]
 |x::xs=>[.var (itC n q rt (.sl 1 0 0 (x::xs).length) []),.row 0 1 (x::xs),z,b]
theorem ZqI(i:Int){X:List AVal}(h:0<X.length):miT i X=[(5,.int .i64 i),(4,.ref 0 0),(2,.ref 2 0),(1,.ref 3 0)]:=by
 cases X with
 |nil=>simp at h
 |cons x xs=>rfl
theorem Zrt(n:Zax)(q:Int)(rt:Bool)(z b:ZO){X:List AVal}(h:0<X.length):miH n q rt z b X=[.var (itC n q rt (.sl 1 0 0 X.length) []),.row 0 1 X,z,b]:=by
 cases X with
 |nil=>simp at h
 |cons x xs=>rfl
theorem Zev(b:Zc):(Zb5 b).length<=30:=by simp[Zb5];omega
theorem ZCB(m:ZcN)(hm:Zhx m)(n:Zax)(q:Int)(rt:Bool)(ids:List Int)(i:Int)(h:¬i<(m.ids.length:Int)\/¬i<4) :
  ZkB 0 (miT i (ids.map (AVal.int .i64))) (miH n q rt (.var itZ) (.var (mC m)) (ids.map (AVal.int .i64)))=some (itO ⟨n,q,rt,ids,ZhX m⟩):=by
 have hP:=fun σ sq own f=>ZiL σ sq own f m.share hm.share
 have hl:=Zev m.share
 have k1:9+(Zb5 m.share).length<=9223372036854775807:=by omega
 unfold itO ZhX
 simp only
 have hh:(if i<(m.ids.length:Int)then decide (i<4)else false)=false:=by
  split
  ·rename_i h1
   have : ¬i<4:=h.resolve_left (by simpa using h1)
   simp[this]
  ·rfl
 unfold ZkB
 rw[ZR]
 cases hids:ids.map (AVal.int .i64)with
 |nil =>
  rw[Zdu,ZdB]
  unfold miT miH itC itZ mC
  by_cases c0:i<(m.ids.length:Int)
  ·have c1:¬i<4:=h.resolve_left (by simpa using c0)
   by_cases c2:(m.share.length:Int)>0
   ·rw[if_pos c2]
    simp -implicitDefEqProofs only[EQA,Zv,Xe,Xc,Xf,Xa,Zbi,Zw,unG,↓reduceIte,Zf,Zg1,ZgY,Zfy,ZfF,Zec,Zd,c0,c1,c2,hP,k1,AVal.cells]
    try (simp[Z4,gcA,Zu,Zs,Zt,ZT,Zk,Zn,ZI,Zl,ZF,Zh,Zo,Zy,Zx,Wd])
   ·rw[if_neg c2]
    simp -implicitDefEqProofs only[EQA,Zv,Xe,Xc,Xf,Xa,Zw,unG,↓reduceIte,Zf,Zg1,ZgY,Zfy,ZfF,Zec,Zd,c0,c1,c2,AVal.cells]
    try (simp[Z4,gcA,Zu,Zs,Zt,ZT,Zk,Zn,ZI,Zl,ZF,Zh,Zo,Zy,Zx,Wd])
  ·by_cases c2:(m.share.length:Int)>0
   ·rw[if_pos c2]
    simp -implicitDefEqProofs only[EQA,Zv,Xe,Xc,Xf,Xa,Zbi,Zw,Zad,↓reduceIte,Zf,Zg1,ZgY,Zfy,ZfF,Zec,Zd,c0,c2,hP,k1,AVal.cells]
    try (simp[Z4,gcA,Zu,Zs,Zt,ZT,Zk,Zn,ZI,Zl,ZF,Zh,Zo,Zy,Zx,Wd])
   ·rw[if_neg c2]
    simp -implicitDefEqProofs only[EQA,Zv,Xe,Xc,Xf,Xa,Zw,Zad,↓reduceIte,Zf,Zg1,ZgY,Zfy,ZfF,Zec,Zd,c0,c2,AVal.cells]
    try (simp[Z4,gcA,Zu,Zs,Zt,ZT,Zk,Zn,ZI,Zl,ZF,Zh,Zo,Zy,Zx,Wd])
 |cons x xs =>
  have hXp:0<(x::xs).length:=by simp
  rw[ZiT hXp,Zjp hXp,ZqI _ hXp,Zrt _ _ _ _ _ hXp]
  generalize x::xs=X at *
  unfold itC itZ mC
  by_cases c0:i<(m.ids.length:Int)
  ·have c1:¬i<4:=h.resolve_left (by simpa using c0)
   by_cases c2:(m.share.length:Int)>0
   ·rw[if_pos c2]
    simp -implicitDefEqProofs only[EQA,Xe,Xc,Xf,Xa,Zbi,Zw,unG,↓reduceIte,Zg1,ZgY,Zfy,ZfF,Zec,Zd,c0,c1,c2,hP,k1,AVal.cells]
    try (simp[Z4,gcA,Zu,Zs,Zt,ZT,Zk,Zn,ZI,Zl,ZF,Zh,Zo,Zy,Zx])
   ·rw[if_neg c2]
    simp -implicitDefEqProofs only[EQA,Xe,Xc,Xf,Xa,Zw,unG,↓reduceIte,Zg1,ZgY,Zfy,ZfF,Zec,Zd,c0,c1,c2,AVal.cells]
    try (simp[Z4,gcA,Zu,Zs,Zt,ZT,Zk,Zn,ZI,Zl,ZF,Zh,Zo,Zy,Zx])
  ·by_cases c2:(m.share.length:Int)>0
   ·rw[if_pos c2]
    simp -implicitDefEqProofs only[EQA,Xe,Xc,Xf,Xa,Zbi,Zw,Zad,↓reduceIte,Zg1,ZgY,Zfy,ZfF,Zec,Zd,c0,c2,hP,k1,AVal.cells]
    try (simp[Z4,gcA,Zu,Zs,Zt,ZT,Zk,Zn,ZI,Zl,ZF,Zh,Zo,Zy,Zx])
   ·rw[if_neg c2]
    simp -implicitDefEqProofs only[EQA,Xe,Xc,Xf,Xa,Zw,Zad,↓reduceIte,Zg1,ZgY,Zfy,ZfF,Zec,Zd,c0,c2,AVal.cells]
    try (simp[Z4,gcA,Zu,Zs,Zt,ZT,Zk,Zn,ZI,Zl,ZF,Zh,Zo,Zy,Zx])
theorem ZzC(m:ZcN)(hm:Zhx m)(n:Zax)(q:Int)(rt:Bool):∀ (r:List Int) (i:Nat) (ids:List Int),(m.ids.take 4).drop i=r->ids.length<=i->i<=4 ->
  ZkB 0 (miT i (ids.map (AVal.int .i64))) (miH n q rt (.var itZ) (.var (mC m)) (ids.map (AVal.int .i64)))=some (itO ⟨n,q,rt,ids++r.map ZgW,ZhX m⟩)
 | [],i,ids,h,ha,hi=>by
  rw[XW,X0]at h
  rw[Xt,Xo]
  exact ZCB m hm n q rt ids i (by omega)
 |x::r,i,ids,h,ha,hi=>by
  have hd:=ZW h
  have hlt:i<min 4 m.ids.length:=by have:=hd.2.2;rwa [X0]at this
  have ih:=ZzC m hm n q rt r (i+1) (ids++[ZgW x]) hd.2.1 (by simp;omega) (by omega)
  have hat:m.ids[i]?=some x:=by
   have:=hd.1
   rw[XS]at this
   rw[if_pos (by omega)]at this
   exact this
  have h1:(i:Int)<(m.ids.length:Int):=by omega
  have h2:(i:Int)<4:=by omega
  have e1:=iad hat (AVal.int .i64) (k:=1) rfl
  have hw:IntKind.i64.wrap ((i:Int)+1)=((i+1:Nat):Int):=by rw[ZaC (by omega) (by omega)];rfl
  have hk:kOk 1 [AVal.int .i64 (ZgW x)]=true:=rfl
  rw[XU,WG,<-Xm]at ih
  generalize hR:itO ⟨n,q,rt,ids++(x::r).map ZgW,ZhX m⟩=R at *
  have hXl:(ids.map (AVal.int .i64)).length=ids.length:=by simp
  rw[X4,Xm,Xt]at ih
  unfold ZgW ZaS at ih hk
  unfold ZkB at ih ⊢
  rw[ZR]
  cases hids:ids.map (AVal.int .i64)with
  |nil =>
   rw[hids]at ih
   rw[XA]at ih
   unfold miT miH itC itZ mC at ih ⊢
   simp only[Xp,Xw,XB]at ih
   simp -implicitDefEqProofs only[EQA,ZM,Za7,Xe,Xc,Xf,Xa,Xg,Zw,unG,reduceCtorEq,ZY,↓reduceIte,gcT,gcA,Zu,Zs,Zk,Zn,ZI,Zl,ZF,Zy,Zx,ZfF,Zec,Zd,h1,h2,e1,hw,hk,AVal.cells,Z6,Zaf,Zah,Zau,Zas,Zar,Zav,Zaw,Zag,Xy,ZaE,viewAs,ZP,ZK,Zr,W7,Xf]
   exact ih
  |cons y ys =>
   rw[hids]at ih hXl
   have hXp:0<(y::ys).length:=by simp
   rw[ZqI _ hXp,Zrt _ _ _ _ _ hXp]
   have hXq:∀ z:AVal,0<(y::ys++[z]).length:=fun z=>by simp
   rw[ZqI _ (hXq _),Zrt _ _ _ _ _ (hXq _)]at ih
   generalize y::ys=X at *
   have k2:(X.length+1)*8<=140737488355328:=by omega
   unfold itC itZ mC at ih ⊢
   simp only[Xi,Xp,Xw,XB]at ih
   simp -implicitDefEqProofs only[EQA,ZM,Za7,Xe,Xc,Xf,Xa,Xg,Zw,unG,reduceCtorEq,ZY,↓reduceIte,gcT,gcA,Zu,Zs,Zk,Zn,ZI,Zl,ZF,Zy,Zx,ZfF,Zec,Zd,h1,h2,e1,hw,hk,k2,AVal.cells,Z6,Zaf,Zah,Zau,Zas,Zar,Zav,Zaw,Zag,Xy,ZaE,viewAs,ZP,ZK,Zr]
   exact ih
theorem ZG6(m:ZcN)(hm:Zhx m):E 15 [.agg (mC m)] []=some (itO (Zbn m)):=by
 have key:=ZzC m hm (ZbG m) (Zdp m.sub 0 2) m.keep (m.ids.take 4) 0 [] rfl (XF _) (by omega)
 rw[XA]at key
 rw[show Zbn m=⟨ZbG m,Zdp m.sub 0 2,m.keep,(m.ids.take 4).map ZgW,ZhX m⟩from rfl]
 generalize hR:itO ⟨ZbG m,Zdp m.sub 0 2,m.keep,(m.ids.take 4).map ZgW,ZhX m⟩=R at *
 have h1:=fun σ sq own f=>ZiL σ sq own f m.topic hm.topic
 have h2:=fun σ sq own=>ZzA σ sq own true m.payload 300 (by omega)
 have h3:=fun σ sq own=>Zw8 σ sq own true m.qos
 have h4:=fun σ sq own f=>ZiL σ sq own f m.sender hm.sender
 have h5:=fun σ sq own=>ZTG σ sq own m.p hm.content hm.users
 have h6:=fun σ sq own=>Zw8 σ sq own true m.sub
 have z0:((0:Nat):Int)=0:=rfl
 have z300:(300:Int).toNat=300:=rfl
 rw[z300]at h2
 have hl:=Zev m.topic
 have k1:1+(Zb5 m.topic).length<=9223372036854775807:=by omega
 rw[z0]at key
 simp only[Xt]at key
 unfold miT miH ZbG ZaS at key
 unfold itC itZ mC at key
 unfold mC
 unfold ZkB at key
 generalize Zb5 m.topic=U1 at *
 generalize Zb5 m.sender=U2 at *
 generalize m.payload.take 300=U3 at *
 generalize Zb4 m.p=U4 at *
 generalize Zdp m.qos 0 2=U5 at *
 generalize Zdp m.sub 0 2=U6 at *
 rw[Zi (by rfl) ZRw]
 by_cases c:m.life>0
 ·simp only[c,if_true]at key
  simp -implicitDefEqProofs only[EQA,ZaG,ZM,Za7,Xe,Xc,Xf,Xa,Xg,Zbi,reduceCtorEq,↓reduceIte,gcT,gcA,Zu,Zs,Zk,Zn,ZI,Zl,ZF,Zy,Zx,Zzi,Zn4,Zd,h1,h2,h3,h4,h5,h6,k1,c,Zab,AVal.cells,Z6,Zaf,Zah,Zau,Zas,Zar,Zav,Zaw,Zag,Xy,XF]
  exact key
 ·simp only[c,if_false]at key
  simp -implicitDefEqProofs only[EQA,ZaG,ZM,Za7,Xe,Xc,Xf,Xa,Xg,Zbi,reduceCtorEq,↓reduceIte,gcT,gcA,Zu,Zs,Zk,Zn,ZI,Zl,ZF,Zy,Zx,Zzi,Zn4,Zd,h1,h2,h3,h4,h5,h6,k1,c,Zab,AVal.cells,Z6,Zaf,Zah,Zau,Zas,Zar,Zav,Zaw,Zag,Xy,XF]
  exact key
end
section
structure ZXV where
 d:Zc×ZeE
 m:Zc×ZeE
 k:Zc×ZeE
end
section
theorem ZJo(x:Nat)(a b:Zc):ZfB x (a++b)=ZfB (ZfB x a) b:=by
 unfold ZfB;rw[List.foldl_append]
theorem Zyk:∀ (w n:Nat),w<=8->n<256^w->ZfB 0 (beB n w)=n
 |0,n,_,h=>by simp at h;subst h;rfl
 |w+1,n,hw,h=>by
  have h1:n/256<256^w:=by rw[Xap]at h;omega
  have ih:=Zyk w (n/256) (by omega) h1
  have h2:256^w<=256^7:=WN (by decide) (by omega)
  rw[beB,ZJo,ih,Zdb,Zfa,Wr]
  have h3:(256:Nat)^7=72057594037927936:=rfl
  omega
theorem Zpn{w n:Nat}(hw:w<=8)(h:n<256^w):ZcR (beB n w)=n:=Zyk w n hw h
theorem ZEo{w n:Nat}(hw:w<=8)(h:n<256^w)(h2:n<=9223372036854775807):Zh9 (beB n w)=(n:Int):=by
 unfold Zh9
 rw[Zpn hw h,ZaC (by omega) (by omega)]
theorem ZA4(b rest:Zc)(h:b.length<=65535):ZaP ((Zbj b).1++rest)=(b,2+b.length,0):=by
 have hd:(Zbj b).1=beB b.length 2++b:=by unfold Zbj;rw[if_neg (by omega)]
 have hl:=Za3 2 b.length
 have ht:(beB b.length 2++b++rest).take 2=beB b.length 2:=by
  rw[XU];exact List.take_left' hl
 have hdr:(beB b.length 2++b++rest).drop 2=b++rest:=by
  rw[XU];exact Xas hl
 have hu:ZcR (beB b.length 2)=b.length:=Zpn (by decide) (by omega)
 unfold ZaP
 rw[hd,ht,hu,hdr,if_neg,List.take_left]
 simp only[Xi,hl]
 omega
theorem ZmB(s rest:Zc)(ht:Zct s=true)(h:s.length<=65535):Zaq ((Z5 s).1++rest)=(s,2+s.length,0):=by
 have e:(Z5 s).1=(Zbj s).1:=by unfold Z5;rw[if_pos ht]
 have hg:=ZA4 s rest h
 unfold Zaq
 rw[e,hg]
 simp only[ne_eq,not_true_eq_false,if_false,ht,if_true]
theorem Zng{b:Zc}(h:b.length<=65535):(Zbj b).1.length=2+b.length:=by
 unfold Zbj;rw[if_neg (by omega)];simp[Za3]
theorem Zkl{s:Zc}(ht:Zct s=true)(h:s.length<=65535):(Z5 s).1.length=2+s.length:=by
 unfold Z5;rw[if_pos ht];exact Zng h
theorem Zxe:∀ (k n i acc:Nat) (rest:Zc),i+k<=3->n<128^(k+1)->(0<i->0<n)->gvA i acc (Zcf k n++rest)=(acc+n*128^i,i+(Zcf k n).length,0)
 |0,n,i,acc,rest,hi,hn,hp=>by
  have h1:(X1 n).toNat=n:=by rw[Wr];omega
  have h2:n%128=n:=by omega
  unfold Zcf
  rw[WG]
  unfold gvA
  rw[if_neg (by omega),h1,if_pos (by omega),if_neg,h2]
  ·rfl
  ·rintro⟨a,b⟩
   have:=hp b
   have:=congrArg Xbk a
   rw[h1]at this
   simp at this;omega
 |k+1,n,i,acc,rest,hi,hn,hp=>by
  unfold Zcf
  by_cases h:n<128
  ·have h1:(X1 n).toNat=n:=by rw[Wr];omega
   have h2:n%128=n:=by omega
   rw[if_pos h,WG]
   unfold gvA
   rw[if_neg (by omega),h1,if_pos (by omega),if_neg,h2]
   ·rfl
   ·rintro⟨a,b⟩
    have:=hp b
    have:=congrArg Xbk a
    rw[h1]at this
    simp at this;omega
  ·have h1:(X1 (n%128+128)).toNat=n%128+128:=by rw[Wr];omega
   have hd:n/128<128^(k+1):=by rw[Xap]at hn;omega
   have ih:=Zxe k (n/128) (i+1) (acc+n%128*128^i) rest (by omega) hd (by omega)
   rw[if_neg h,XV]
   unfold gvA
   rw[if_neg (by omega),h1,if_neg (by omega)]
   have h3:(n%128+128)%128=n%128:=by omega
   rw[h3,ih,Xp,Xap]
   have h4:n=n/128*128+n%128:=by omega
   refine Prod.ext ?_ (Prod.ext ?_ rfl)
   ·simp only
    conv=>rhs;rw[h4]
    rw[Nat.add_mul,Nat.mul_assoc,Nat.mul_comm 128 (128^i)]
    omega
   ·simp only;omega
theorem ZrT(n:Nat)(rest:Zc)(h:n<268435456):Z0 ((Zac (n:Int)).1++rest)=(n,(Zac (n:Int)).1.length,0):=by
 have e:(Zac (n:Int)).1=Zcf 3 n:=by
  unfold Zac
  rw[if_neg (by omega)]
  rfl
 have:=Zxe 3 n 0 0 rest (by omega) h (by omega)
 rw[e]
 unfold Z0
 rw[this]
 simp
theorem ZyD{x:Int}(h0:0<=x)(h:x<18446744073709551616):ZU x=x.toNat:=by unfold ZU;omega
theorem Zp4{s:Zc}(h:(Z5 s).2=0):Zct s=true/\s.length<=65535:=by
 unfold Z5 at h
 split at h
 ·rename_i ht
  unfold Zbj at h
  split at h
  ·simp at h
  ·exact⟨ht,by omega⟩
 ·simp at h
theorem ZXv{s:Zc}(h:(Zbj s).2=0):s.length<=65535:=by
 unfold Zbj at h
 split at h
 ·simp at h
 ·omega
def Zho(k:Int)(p:Zp):Prop :=
 if k=1\/k=2\/k=3\/k=4 then p.text=[]/\p.pair=[]/\p.data=[]else if k=5 then p.num=0/\p.pair=[]/\p.data=[]
 else if k=6 then p.num=0/\p.text=[]/\p.pair=[]else p.num=0/\p.data=[]
theorem ZtH(id num:Int)(W:Nat)(rest:Zc)(hW:W<=4)(h0:0<=num)(h:num.toNat<256^W):Zfo id W (beB (ZU num) W++rest)=(⟨id,num,[],[],[]⟩,W,true):=by
 have hb:256^W<=256^4:=WN (by decide) hW
 have e4:(256:Nat)^4=4294967296:=rfl
 have hu:ZU num=num.toNat:=ZyD h0 (by omega)
 have hl:=Za3 W (ZU num)
 unfold Zfo
 rw[if_neg (by simp[hl]),List.take_left' hl,Zpn (by omega) (by rw[hu];exact h),hu]
 have : ((num.toNat:Nat):Int)=num:=by omega
 rw[this]
theorem ZE7(p:Zp)(rest:Zc)(hok:okV (Zbt p.id) p=true)(hc:Zho (Zbt p.id) p)(h0:Zbt p.id≠0):ZcZ p.id (ZgC p++rest)=(p,(ZgC p).length,true):=by
 obtain⟨id,num,text,pair,data⟩:=p
 unfold ZcZ ZgC
 simp only at hok hc h0 ⊢
 rcases ZoZ id with e |e |e |e |e |e |e |e
 ·exact absurd e h0
 all_goals rw[e]at hok hc ⊢
 ·simp only[okV,if_true,Xk,decide_eq_true_eq]at hok
  obtain⟨rfl,rfl,rfl⟩:text=[]/\pair=[]/\data=[]:=hc
  have:=ZtH id num 1 rest (by omega) (by omega) (by omega)
  simp only[Zc7,Zce,if_true,Xo,Za3]
  exact this
 ·simp only[okV,show¬((2:Int)=1)by decide,if_false,if_true,Xk,decide_eq_true_eq]at hok
  obtain⟨rfl,rfl,rfl⟩:text=[]/\pair=[]/\data=[]:=hc
  have:=ZtH id num 2 rest (by omega) (by omega) (by omega)
  simp only[Zc7,Zce,show¬((2:Int)=1)by decide,if_false,if_true,Xo,Za3]
  exact this
 ·simp only[okV,show¬((3:Int)=1)by decide,show¬((3:Int)=2)by decide,if_false,if_true,Xk,decide_eq_true_eq]at hok
  obtain⟨rfl,rfl,rfl⟩:text=[]/\pair=[]/\data=[]:=hc
  have:=ZtH id num 4 rest (by omega) (by omega) (by omega)
  simp only[Zc7,Zce,show¬((3:Int)=1)by decide,show¬((3:Int)=2)by decide,if_false,if_true,Xo,Za3]
  exact this
 ·simp only[okV,show¬((4:Int)=1)by decide,show¬((4:Int)=2)by decide,show¬((4:Int)=3)by decide,if_false,if_true,beq_iff_eq]at hok
  obtain⟨rfl,rfl,rfl⟩:text=[]/\pair=[]/\data=[]:=hc
  have hr:0<=num/\num<=268435455:=by
   unfold Zac at hok
   split at hok
   ·simp at hok
   ·omega
  have:=ZrT num.toNat rest (by omega)
  have e1:((num.toNat:Nat):Int)=num:=by omega
  rw[e1]at this
  simp only[Zc7,Zce,show¬((4:Int)=1)by decide,show¬((4:Int)=2)by decide,show¬((4:Int)=3)by decide,if_false,if_true,Xo,this,e1,beq_self_eq_true]
 ·simp only[okV,show¬((5:Int)=1)by decide,show¬((5:Int)=2)by decide,show¬((5:Int)=3)by decide,show¬((5:Int)=4)by decide,if_false,if_true,beq_iff_eq]at hok
  obtain⟨rfl,rfl,rfl⟩:num=0/\pair=[]/\data=[]:=hc
  obtain⟨t1,t2⟩:=Zp4 hok
  have:=ZmB text rest t1 t2
  simp only[Zc7,Zce,show¬((5:Int)=1)by decide,show¬((5:Int)=2)by decide,show¬((5:Int)=3)by decide,show¬((5:Int)=4)by decide,if_false,if_true,Xo,this,Zkl t1 t2,beq_self_eq_true]
 ·simp only[okV,show¬((6:Int)=1)by decide,show¬((6:Int)=2)by decide,show¬((6:Int)=3)by decide,show¬((6:Int)=4)by decide,show¬((6:Int)=5)by decide,if_false,if_true,beq_iff_eq]at hok
  obtain⟨rfl,rfl,rfl⟩:num=0/\text=[]/\pair=[]:=hc
  have t2:=ZXv hok
  have:=ZA4 data rest t2
  simp only[Zc7,Zce,show¬((6:Int)=1)by decide,show¬((6:Int)=2)by decide,show¬((6:Int)=3)by decide,show¬((6:Int)=4)by decide,show¬((6:Int)=5)by decide,if_false,if_true,Xo,this,Zng t2,beq_self_eq_true]
 ·simp only[okV,show¬((7:Int)=1)by decide,show¬((7:Int)=2)by decide,show¬((7:Int)=3)by decide,show¬((7:Int)=4)by decide,show¬((7:Int)=5)by decide,show¬((7:Int)=6)by decide,if_false,if_true,Xk,beq_iff_eq]at hok
  obtain⟨rfl,rfl⟩:num=0/\data=[]:=hc
  obtain⟨t1,t2⟩:=Zp4 hok.1
  obtain⟨t3,t4⟩:=Zp4 hok.2
  have g1:=ZmB text ((Z5 pair).1++rest) t1 t2
  have g2:=ZmB pair rest t3 t4
  have l1:=Zkl t1 t2
  have l2:=Zkl t3 t4
  have hd:((Z5 text).1++((Z5 pair).1++rest)).drop (2+text.length)=(Z5 pair).1++rest:=Xas l1
  simp only[Zc7,Zce,show¬((7:Int)=1)by decide,show¬((7:Int)=2)by decide,show¬((7:Int)=3)by decide,show¬((7:Int)=4)by decide,show¬((7:Int)=5)by decide,show¬((7:Int)=6)by decide,if_false,if_true,Zh5,XU,g1,hd,g2,beq_self_eq_true,Xi,l1,l2]
structure Zg3(w:Int)(acc:List Zp)(p:Zp):Prop where
 good:ZfR p=true
 may:ZcQ p.id w=true
 canon:Zho (Zbt p.id) p
 fits:Zer p.id p.num=true
 dup:((Zcm p.id acc).isSome && !Zh2 p.id w)=false
theorem ZIW{w:Int}{acc:List Zp}{p:Zp}(h:Zg3 w acc p)(rest:Zc):Zb1 w (ZaF p++rest) acc=(p,(ZaF p).length,0):=by
 have hT:Zey p.id:=by
  refine Decidable.byContradiction fun hT=>?_
  have:=h.may
  rw[ZD3 hT w]at this
  cases this
 obtain⟨t1,t2,t3⟩:=ZNu hT
 have hok:okV (Zbt p.id) p=true:=by
  have:=h.good
  unfold ZfR at this
  simp only[Xk]at this
  exact this.2
 have e:ZaF p=(Zac p.id).1++ZgC p:=rfl
 have g:=ZrT p.id.toNat (ZgC p++rest) (by omega)
 have ei:((p.id.toNat:Nat):Int)=p.id:=by omega
 rw[ei,<-XU,<-e]at g
 have hv:=ZE7 p rest hok h.canon t3
 have hd:(ZaF p++rest).drop (Zac p.id).1.length=ZgC p++rest:=by
  rw[e,XU];exact Xas rfl
 unfold Zb1
 rw[g]
 simp only
 rw[ei,hd,hv,h.may]
 rw[if_neg (by simp)]
 unfold ZmA
 simp only[h.dup,h.fits,Xj,if_false,if_true,Bool.true_eq_false]
 rw[e,Xi]
def ZeC(w:Int):List Zp->List Zp->Prop
 |_,[]=>True
 |acc,p::r=>Zg3 w acc p/\ZeC w (acc++[p]) r
theorem ZEA(p:Zp)(h:¬(p.id<1\/p.id>127)):0<(ZaF p).length:=by rw[ZKw h];simp
theorem ZTA{p:Zp}(h:ZfR p=true):¬(p.id<1\/p.id>127):=by
 unfold ZfR at h
 simp only[Xk,Bool.not_eq_true',Bool.or_eq_false_iff,decide_eq_false_iff_not]at h
 exact fun hc=>hc.elim h.1.1 h.1.2
theorem Zv0(w:Int):∀ (l acc:List Zp) (n:Nat),ZeC w acc l->(l.map ZaF).flatten.length<=n->Zd3 w n (l.map ZaF).flatten acc=(acc++l,0)
 | [],acc,n,_,_=>by simp[ZrO]
 |p::r,acc,n,h,hn=>by
  obtain⟨h1,h2⟩:=h
  have hp:=ZEA p (ZTA h1.good)
  simp only[Xm,Wn,Xi]at hn ⊢
  obtain⟨n,rfl⟩:∃ m,n=m+1:=⟨n-1,by omega⟩
  have ho:=ZIW h1 (r.map ZaF).flatten
  obtain⟨c,t,hct⟩:∃ c t,ZaF p++(r.map ZaF).flatten=c::t:=by
   cases hl:ZaF p with
   |nil=>rw[hl]at hp;simp at hp
   |cons c t=>exact⟨c,_,rfl⟩
  rw[hct,Zqe,<-hct,ho]
  simp only[if_true,Xas rfl]
  rw[Zv0 w r (acc++[p]) n h2 (by omega)]
  simp
theorem ZNk(w:Int)(l:List Zp)(h:ZeC w [] l)(hb:(l.map ZaF).flatten.length<268435456):Z9 w ((Zac ((l.map ZaF).flatten.length:Nat)).1++(l.map ZaF).flatten)=(l,(Zac ((l.map ZaF).flatten.length:Nat)).1.length+(l.map ZaF).flatten.length,0):=by
 generalize hB:(l.map ZaF).flatten=b at *
 have g:=ZrT b.length b hb
 have hr:=Zv0 w l [] b.length h (by rw[hB];exact XF _)
 rw[hB,XA]at hr
 have hs:(((Zac (b.length:Nat)).1++b).take ((Zac (b.length:Nat)).1.length+b.length)).drop (Zac (b.length:Nat)).1.length=b:=by
  rw[XI (by simp)]
  exact Xas rfl
 unfold Z9
 rw[g]
 simp only
 rw[if_neg (by simp;omega),hs,hr]
 simp
theorem Zyr(w:Int)(l:List Zp)(h:ZeC w [] l)(hb:(l.map ZaF).flatten.length<268435456):Za8 w l=((Zac ((l.map ZaF).flatten.length:Nat)).1++(l.map ZaF).flatten,0):=by
 have hr:=ZNk w l h hb
 unfold Za8 ZfN
 rw[if_neg (by rw[ZLo hb];simp),hr,if_neg (by simp)]
end
section
theorem ZkN(s:Zc):(Zbj s).1.length<=65537:=by
 unfold Zbj
 split
 ·simp
 ·simp[Za3];omega
theorem Zc9(s:Zc):(Z5 s).1.length<=65537:=by
 unfold Z5
 split
 ·exact ZkN s
 ·simp
theorem ZdP(w:Int)(l:List Zp):(Za8 w l).1.length<=268435460:=by
 unfold Za8 ZfN
 generalize (l.map ZaF).flatten=b
 by_cases h:(Zac b.length).2≠0
 ·rw[if_pos h];simp
 ·rw[if_neg h]
  split
  ·simp
  ·rename_i h2
   have h0:(Z9 w ((Zac b.length).1++b)).2.2=0:=WP fun e=>h2 (Xr e)
   have h1:(Z9 w ((Zac b.length).1++b)).2.1=((Zac b.length).1++b).length:=WP fun e=>h2 (XE (Xr e))
   have:=ZCw w _ h0
   rw[h1]at this
   exact this
theorem ZIZ(s:Zc)(hs:s.length<=9223372036854775807):E1 72 [.ref 0 0,.str s] [.var wn]=some (.tup [],wH 0 (Z5 s).1):=by
 have hP:=fun σ sq own=>ZbL (ZjI σ sq own s hs)
 unfold byT at hP
 have hlen:(Z5 s).1.length<=Zb7:=by have:=Zc9 s;unfold Zb7;omega
 generalize (Z5 s).1=B at *
 generalize (Z5 s).2=C at *
 have hC:=fun{σ:Za} {t sq:Nat}=>ZvN B hlen (σ:=σ) (t:=t) (sq:=sq)
 have hO:=fun σ=>Zzt B σ
 rw[ZbE (by rfl) Zwi]
 unfold wn at *
 simp -implicitDefEqProofs only[EQA,Xe,Xc,Xa,Xg,reduceCtorEq,↓reduceIte,Zwv,ZmW,ZwZ,Zd,hP,hC,wT,hO]
theorem ZHm(l:Zc)(s:Zc)(hs:s.length<=9223372036854775807)(hl:l.length+(Z5 s).1.length<=Zb7):E1 72 [.ref 0 0,.str s] (wH 0 l)=some (.tup [],wH 1 (l++(Z5 s).1)):=by
 have hP:=fun σ sq own=>ZbL (ZjI σ sq own s hs)
 unfold byT at hP
 generalize (Z5 s).1=B at *
 generalize (Z5 s).2=C at *
 have hC:=fun{σ:Za} {sq:Nat}=>ZjK l B hl (σ:=σ) 0 1 0 (sq:=sq) (by omega)
 have hO:=fun g σ=>Zh0 (l++B) g σ
 rw[ZbE (by rfl) Zwi]
 unfold wH at *
 simp -implicitDefEqProofs only[EQA,Xe,Xc,Xa,Xg,reduceCtorEq,↓reduceIte,Zwv,ZmW,ZwZ,Zd,hP,hC,wT,hO]
theorem ZAs(s:Zc)(hs:s.length<=9223372036854775807){σ:Za}{t sq:Nat}(hf:σ[sq]?=some .free)(hs0:σ[t]?=some (.var wn)) :
  Zj E1 BY σ sq 72 1 true [.ref t 0,.str s]=some (.tup [],(σ.set t (.var (wv sq 0 (Z5 s).1.length))).set sq (.row 0 1 ((Z5 s).1.map Zb)),{ any:=true,upd:=[(t,wv sq 0 (Z5 s).1.length)] }) :=
 Zhc (args:=[.str s]) rfl rfl (ZIZ s hs) (by kernel_rfl) rfl rfl hf hs0
theorem Zj6(l:Zc)(s:Zc)(hs:s.length<=9223372036854775807)(hl:l.length+(Z5 s).1.length<=Zb7){σ:Za}(t r g:Nat){sq:Nat}(htr:t≠r)(hf:σ[sq]?=some .free)(hs0:σ[t]?=some (.var (wv r g l.length)))(hr:σ[r]?=some (.row g 1 (l.map Zb))) :
  Zj E1 BY σ sq 72 1 true [.ref t 0,.str s]=some (.tup [],(σ.set t (.var (wv r (g+1) (l++(Z5 s).1).length))).set r (.row (g+1) 1 ((l++(Z5 s).1).map Zb)),{ any:=true,upd:=[(t,wv r (g+1) (l++(Z5 s).1).length)] }) :=
 Zi5 (args:=[.str s]) rfl ⟨rfl,rfl⟩ 1 (by omega) (ZHm l s hs hl) (by kernel_rfl) rfl rfl htr (ff1 hf) hs0 hr
theorem ZGt(l:Zc)(s:Zc)(hs:s.length<=9223372036854775807)(hl:l.length+(Zbj s).1.length<=Zb7):E1 93 [.ref 0 0,.lst false (s.map Zb)] (wH 0 l)=some (.tup [],wH 1 (l++(Zbj s).1)):=by
 have hP:=fun σ sq own=>ZbL (Zr7 σ sq own false s hs)
 unfold byT at hP
 generalize (Zbj s).1=B at *
 generalize (Zbj s).2=C at *
 have hC:=fun{σ:Za} {sq:Nat}=>ZjK l B hl (σ:=σ) 0 1 0 (sq:=sq) (by omega)
 have hO:=fun g σ=>Zh0 (l++B) g σ
 rw[ZbE (by rfl) ZWW]
 unfold wH at *
 simp -implicitDefEqProofs only[EQA,Xe,Xc,Xa,Xg,reduceCtorEq,↓reduceIte,ZMu,Zta,ZG3,Zd,hP,hC,wT,hO]
theorem Zxg(l:Zc)(s:Zc)(hs:s.length<=9223372036854775807)(hl:l.length+(Zbj s).1.length<=Zb7){σ:Za}(t r g:Nat){sq:Nat}(htr:t≠r)(hf:σ[sq]?=some .free)(hs0:σ[t]?=some (.var (wv r g l.length)))(hr:σ[r]?=some (.row g 1 (l.map Zb))) :
  Zj E1 BY σ sq 93 1 true [.ref t 0,.lst false (s.map Zb)]=some (.tup [],(σ.set t (.var (wv r (g+1) (l++(Zbj s).1).length))).set r (.row (g+1) 1 ((l++(Zbj s).1).map Zb)),{ any:=true,upd:=[(t,wv r (g+1) (l++(Zbj s).1).length)] }) :=
 Zi5 (args:=[.lst false (s.map Zb)]) rfl ⟨rfl,rfl⟩ 1 (by omega) (ZGt l s hs hl) (by kernel_rfl) rfl rfl htr (ff1 hf) hs0 hr
theorem ZXx(l:Zc)(w:Int)(ps:List Zp)(hp:ps.length<=700000000)(hx:∀ p∈ps,Zex p)(hl:l.length+(Za8 w ps).1.length<=Zb7):E1 71 [.ref 0 0,.int .i64 w,.lst false (ps.map Zg)] (wH 0 l)=some (.tup [],wH 1 (l++(Za8 w ps).1)):=by
 have hP:=fun σ sq own=>ZbL (ZW8 σ sq own false w ps hp hx)
 unfold Zhj at hP
 generalize (Za8 w ps).1=B at *
 generalize (Za8 w ps).2=C at *
 have hC:=fun{σ:Za} {sq:Nat}=>ZjK l B hl (σ:=σ) 0 1 0 (sq:=sq) (by omega)
 have hO:=fun g σ=>Zh0 (l++B) g σ
 rw[ZbE (by rfl) ZIy]
 unfold wH at *
 simp -implicitDefEqProofs only[EQA,Xe,Xc,Xa,Xg,reduceCtorEq,↓reduceIte,ZSy,ZuU,ZNV,Zd,hP,hC,wT,hO]
theorem Zhu(l:Zc)(w:Int)(ps:List Zp)(hp:ps.length<=700000000)(hx:∀ p∈ps,Zex p)(hl:l.length+(Za8 w ps).1.length<=Zb7){σ:Za}(t r g:Nat){sq:Nat}(htr:t≠r)(hf:σ[sq]?=some .free)(hs0:σ[t]?=some (.var (wv r g l.length)))(hr:σ[r]?=some (.row g 1 (l.map Zb))) :
  Zj E1 BY σ sq 71 1 true [.ref t 0,.int .i64 w,.lst false (ps.map Zg)]=some (.tup [],(σ.set t (.var (wv r (g+1) (l++(Za8 w ps).1).length))).set r (.row (g+1) 1 ((l++(Za8 w ps).1).map Zb)),{ any:=true,upd:=[(t,wv r (g+1) (l++(Za8 w ps).1).length)] }) :=
 Zi5 (args:=[.int .i64 w,.lst false (ps.map Zg)]) rfl ⟨rfl,rfl⟩ 1 (by omega) (ZXx l w ps hp hx hl) (by kernel_rfl) rfl rfl htr (ff1 hf) hs0 hr
theorem Zm6(n:Int)(W:Nat)(h1:1<=W)(hW:W<=8){m:Int}(hm:((W:Nat):Int)=m){σ:Za}{t sq:Nat}(hf:σ[sq]?=some .free)(hs0:σ[t]?=some (.var wn)) :
  Zj E1 BY σ sq 70 1 true [.ref t 0,.int .i64 n,.int .i64 m]=some (.tup [],(σ.set t (.var (wv sq 0 (beB (ZU n) W).length))).set sq (.row 0 1 ((beB (ZU n) W).map Zb)),{ any:=true,upd:=[(t,wv sq 0 (beB (ZU n) W).length)] }):=by
 subst hm
 exact Zhc (args:=[.int .i64 n,.int .i64 (W:Nat)]) rfl rfl (ZEh n W h1 hW) (by kernel_rfl) rfl rfl hf hs0
theorem Zg7(l:Zc)(n:Int)(W:Nat)(h1:1<=W)(hW:W<=8){m:Int}(hm:((W:Nat):Int)=m)(hl:l.length+W<=Zb7){σ:Za}(t r g:Nat){sq:Nat}(htr:t≠r)(hf:σ[sq]?=some .free)(hs0:σ[t]?=some (.var (wv r g l.length)))(hr:σ[r]?=some (.row g 1 (l.map Zb))) :
  Zj E1 BY σ sq 70 1 true [.ref t 0,.int .i64 n,.int .i64 m]=some (.tup [],(σ.set t (.var (wv r (g+1) (l++beB (ZU n) W).length))).set r (.row (g+1) 1 ((l++beB (ZU n) W).map Zb)),{ any:=true,upd:=[(t,wv r (g+1) (l++beB (ZU n) W).length)] }):=by
 subst hm
 exact Zi5 (args:=[.int .i64 n,.int .i64 (W:Nat)]) rfl ⟨rfl,rfl⟩ 1 (by omega) (ZME l n W h1 hW hl) (by kernel_rfl) rfl rfl htr (ff1 hf) hs0 hr
def Zaj(b:Bool)(n:Int):Int:=if b then n else 0
theorem ZWj(b:Bool)(n:Int):E 56 [.bool b,.int .i64 n] []=some (.int .i64 (Zaj b n),[]):=by
 rw[Zi (by rfl) ZFt]
 unfold Zaj
 cases b<;>simp -implicitDefEqProofs only[EQA,Xc,Xa,reduceCtorEq,↓reduceIte,ZDs,ZqA,ZGL,Zd]
theorem Zkt(b:Bool)(n:Int)(σ:Za)(sq own:Nat):Zj E1 BY σ sq 56 own true [.bool b,.int .i64 n]=some (.int .i64 (Zaj b n),σ,{}) :=
 ZbL (ZbD (ZWj b n) (by kernel_rfl) rfl rfl rfl (fun _=>rfl) _ _ _)
end
section
def ZB(p:ZE):List AVal:=[.int .i64 p.type,.bool p.dup,.int .i64 p.qos,.bool p.retain,.int .i64 p.id,.str p.topic,.lst false (p.payload.map Zb),.int .i64 p.code,.lst false (p.codes.map (AVal.int .i64)),.lst false (p.props.map Zg),.lst false (p.subs.map Zaa),.lst false (p.filters.map AVal.str),.bool p.clean,.int .i64 p.keep,.str p.client,.bool p.hasWill,.str p.will.topic,.lst false (p.will.data.map Zb),.int .i64 p.will.qos,.bool p.will.retain,.lst false (p.will.props.map Zg),.bool p.hasUser,.str p.user,.bool p.hasPassword,.lst false (p.password.map Zb),.bool p.present]
theorem Zb0(p:ZE):ZaH p=.agg (ZB p):=rfl
theorem Zck(p:ZE):(ZB p).length=26:=rfl
theorem Zet(p:ZE):Zan (.agg (ZB p))=true:=rfl
theorem ZeS(p:ZE):ZN (.agg (ZB p))=.agg (ZB p):=rfl
theorem Zdh(p:ZE):(ZB p).take 26=ZB p:=rfl
theorem Zp2(p:ZE):Zt (ZB p)=[]:=by
 have h:=ZvH (Zet p)
 rw[ZeS]at h
 simpa[ZT]using h
structure OkW(p:ZE):Prop where
 topic:p.topic.length<=9223372036854775807
 payload:p.payload.length<=1099511627776
 codes:p.codes.length<=1048576
 props:p.props.length<=700000000/\∀ q∈p.props,Zex q
 subs:p.subs.length<=1048576/\∀ s∈p.subs,s.filter.length<=9223372036854775807
 filters:p.filters.length<=1048576/\∀ f∈p.filters,f.length<=9223372036854775807
 client:p.client.length<=9223372036854775807
 wtopic:p.will.topic.length<=9223372036854775807
 wdata:p.will.data.length<=9223372036854775807
 wprops:p.will.props.length<=700000000/\∀ q∈p.will.props,Zex q
 user:p.user.length<=9223372036854775807
 password:p.password.length<=9223372036854775807
def wO:Option Zc->Za
 |none=>[.var wn]
 |some l=>wH 0 l
theorem ZeZ{j g:Nat}{l:Zc}{σ:Za}(hj:j≠0)(h0:σ[0]?=some (.var (wv j g l.length)))(h1:σ[j]?=some (.row g 1 (l.map Zb))):Z4 1 σ (.tup [])=some (.tup [],wH 0 l):=by
 have d0:σ.getD 0 .free=.var (wv j g l.length):=by simp[Xh,h0]
 have d1:σ.getD j .free=.row g 1 (l.map Zb):=by simp[Xh,h1]
 have ej:([0]:List Nat).contains j=false:=by simp;omega
 have hrf:Zt (wv j g l.length)=[j]:=rfl
 have hi:Zu 1 [.tup []] σ=[0,j]:=by
  have : Zt [AVal.tup []]=[]:=rfl
  have hR:Wa 1=[0]:=rfl
  simp only[Zu,this,XA,hR,XK,X5,Xo,d0,Zx,hrf]
  rw[show(1000:Nat)=998+1+1 from rfl,Zs,ej]
  simp only[Xj,if_false,d1,Zx,XA]
  rfl
 have hρ:Zk σ 1 [0,j] j g=some (1,0):=by
  have : ¬(0:Nat)=j:=fun e=>hj e.symm
  simp[Zk,ZI,Zl,ZF,h1,this]
 have hren:Zh (Zk σ 1 [0,j]) (wv j g l.length)=wv 1 0 l.length:=by simp only[wv,Zh,Zo,hρ]
 have ht:Zh (Zk σ 1 [0,j]) [AVal.tup []]=[.tup []]:=rfl
 simp only[Z4,gcA,hi,ht,Zn,d0,d1,ZF,Zl,Zy,hren,wH]
 simp
theorem ZKj(σ:Za):Z4 1 (.var wn::σ) (.tup [])=some (.tup [],[.var wn]):=rfl
theorem ZQ2(l:Zc)(σ:Za):Z4 2 (.var (wv 1 0 l.length)::.row 0 1 (l.map Zb)::σ) (.tup [])=some (.tup [],wH 0 l):=by
 simp[Z4,gcA,Zu,Zt,ZT,Wa,XaY,Zx,wv,Zs,Zk,ZI,Zn,ZF,Zl,Zy,Zh,Zo,wH]
def Zcc(p:ZE):Zc:=if p.code≠0\/p.props≠[]then beB (ZU p.code) 1++(if p.props≠[]then(Za8 p.type p.props).1 else [])else []
def ZdL(p:ZE):Option Zc:=if p.code≠0\/p.props≠[]then some (Zcc p)else none
theorem Ze3:Zb7=70368744177664:=rfl
section
variable (p:ZE)(h:OkW p)
include h
theorem ZyS:E1 74 [.ref 0 0,ZaH p] [.var wn]=some (.tup [],wO (ZdL p)):=by
 have l2:=ZdP p.type p.props
 have l1:=Za3 1 (ZU p.code)
 have hN:=fun{σ:Za} {t sq:Nat}=>Zm6 p.code 1 (by omega) (by omega) (m:=1) rfl (σ:=σ) (t:=t) (sq:=sq)
 have hPr:=fun{σ:Za} {sq:Nat}=>Zhu (beB (ZU p.code) 1) p.type p.props h.props.1 h.props.2 (by rw[Ze3];omega) (σ:=σ) 0 2 0 (sq:=sq) (by omega)
 have hO:=fun{j g:Nat} {l:Zc} {σ:Za}=>ZeZ (j:=j) (g:=g) (l:=l) (σ:=σ)
 have hl:(p.props.map Zg).length=p.props.length:=by simp
 rw[Zb0]
 have e1:=Zdh p
 have e0:=Zck p
 have a0:(ZB p)[0]?=some (.int .i64 p.type):=rfl
 have a7:(ZB p)[7]?=some (.int .i64 p.code):=rfl
 have a9:(ZB p)[9]?=some (.lst false (p.props.map Zg)):=rfl
 unfold ZdL Zcc
 generalize ZB p=P at *
 generalize p.type=ty at *
 generalize p.code=c at *
 generalize p.props=ps at *
 rw[ZbE (by rfl) Zxr]
 by_cases hc:c=0
 ·have b1:(c != 0)=false:=by simp[hc]
  cases ps with
  |nil =>
   rw[if_neg (by simp[hc])]
   unfold wn wO at *
   simp -implicitDefEqProofs only[EQA,Zv,ZM,ZAc,Xe,Xc,Xa,Xg,Zw,unG,reduceCtorEq,decide_eq_true_eq,↓reduceIte,Zf,ZgH,Zfe,ZgQ,Zd,AVal.cells,a0,a7,a9,b1]
   exact ZKj []
  |cons q ps =>
   rw[if_pos (by simp)]
   have g0:((((q::ps).map Zg).length:Nat):Int)>0:=by simp
   rw[if_pos (by simp)]
   generalize (Za8 ty (q::ps)).1=B at *
   generalize (q::ps).map Zg=qs at *
   generalize beB (ZU c) 1=D at *
   unfold wn wO at *
   simp -implicitDefEqProofs only[EQA,Zv,Xe,Xc,Xa,Xg,Zw,unG,reduceCtorEq,↓reduceIte,Zf,ZgH,Zfe,ZgQ,Zd,AVal.cells,a0,a7,a9,b1,g0,hN,hPr]
   exact hO (j:=2) (by decide) rfl rfl
 ·have b1:(c != 0)=true:=by simp[hc]
  rw[if_pos (by simp[hc]),if_pos (by simp[hc])]
  cases ps with
  |nil =>
   rw[if_neg (by simp),Xo]
   generalize beB (ZU c) 1=D at *
   unfold wn wO at *
   simp -implicitDefEqProofs only[EQA,Zv,Xe,Xc,Xa,Xg,Zw,Zad,reduceCtorEq,decide_eq_true_eq,↓reduceIte,Zf,ZgH,Zfe,ZgQ,Zd,AVal.cells,a0,a7,a9,b1,hN]
   exact hO (j:=2) (by decide) rfl rfl
  |cons q ps =>
   have g0:((((q::ps).map Zg).length:Nat):Int)>0:=by simp
   rw[if_pos (by simp)]
   generalize (Za8 ty (q::ps)).1=B at *
   generalize (q::ps).map Zg=qs at *
   generalize beB (ZU c) 1=D at *
   unfold wn wO at *
   simp -implicitDefEqProofs only[EQA,Zv,Xe,Xc,Xa,Xg,Zw,Zad,reduceCtorEq,↓reduceIte,Zf,ZgH,Zfe,ZgQ,Zd,AVal.cells,a0,a7,a9,b1,g0,hN,hPr]
   exact hO (j:=2) (by decide) rfl rfl
theorem ZH4(l:Zc)(hl:l.length<=1000000000):E1 74 [.ref 0 0,ZaH p] (wH 0 l)=some (.tup [],if Zcc p=[]then wH 0 l else wH 1 (l++Zcc p)):=by
 have l2:=ZdP p.type p.props
 have l1:=Za3 1 (ZU p.code)
 have hN:=fun{σ:Za} {sq:Nat}=>Zg7 l p.code 1 (by omega) (by omega) (m:=1) rfl (by rw[Ze3];omega) (σ:=σ) 0 1 0 (sq:=sq) (by omega)
 have hPr:=fun{σ:Za} {sq:Nat}=>Zhu (l++beB (ZU p.code) 1) p.type p.props h.props.1 h.props.2 (by rw[Ze3,Xi];omega) (σ:=σ) 0 1 1 (sq:=sq) (by omega)
 have hl:(p.props.map Zg).length=p.props.length:=by simp
 rw[Zb0]
 have e1:=Zdh p
 have e0:=Zck p
 have a0:(ZB p)[0]?=some (.int .i64 p.type):=rfl
 have a7:(ZB p)[7]?=some (.int .i64 p.code):=rfl
 have a9:(ZB p)[9]?=some (.lst false (p.props.map Zg)):=rfl
 obtain⟨R,hR⟩:∃ R,R=Zcc p:=⟨_,rfl⟩
 rw[<-hR]
 unfold Zcc at hR
 generalize ZB p=P at *
 generalize p.type=ty at *
 generalize p.code=c at *
 generalize p.props=ps at *
 rw[ZbE (by rfl) Zxr]
 by_cases hc:c=0
 ·have b1:(c != 0)=false:=by simp[hc]
  cases ps with
  |nil =>
   rw[if_neg (by simp[hc])]at hR
   subst hR
   rw[if_pos rfl]
   unfold wH at *
   simp -implicitDefEqProofs only[EQA,ZAc,Xe,Xc,Xa,Xg,Zw,unG,reduceCtorEq,decide_eq_true_eq,↓reduceIte,ZgH,Zfe,ZgQ,Zd,AVal.cells,a0,a7,a9,b1]
   exact ZQ2 _ _
  |cons q ps =>
   have g0:((((q::ps).map Zg).length:Nat):Int)>0:=by simp
   rw[if_pos (by simp),if_pos (by simp)]at hR
   subst hR
   rw[if_neg (by intro e;have:=congrArg Xab e;simp[l1]at this)]
   generalize (Za8 ty (q::ps)).1=B at *
   generalize (q::ps).map Zg=qs at *
   generalize beB (ZU c) 1=D at *
   rw[<-XU]
   unfold wH at *
   simp -implicitDefEqProofs only[EQA,Xe,Xc,Xa,Xg,Zw,unG,reduceCtorEq,↓reduceIte,ZgH,Zfe,ZgQ,Zd,AVal.cells,a0,a7,a9,b1,g0,hN,hPr]
   exact Zh0 _ 1 _
 ·have b1:(c != 0)=true:=by simp[hc]
  rw[if_pos (by simp[hc])]at hR
  cases ps with
  |nil =>
   rw[if_neg (by simp),Xo]at hR
   subst hR
   rw[if_neg (by intro e;have:=congrArg Xab e;simp[l1]at this)]
   generalize beB (ZU c) 1=D at *
   unfold wH at *
   simp -implicitDefEqProofs only[EQA,Xe,Xc,Xa,Xg,Zw,Zad,reduceCtorEq,decide_eq_true_eq,↓reduceIte,ZgH,Zfe,ZgQ,Zd,AVal.cells,a0,a7,a9,b1,hN]
   exact Zh0 _ 0 _
  |cons q ps =>
   have g0:((((q::ps).map Zg).length:Nat):Int)>0:=by simp
   rw[if_pos (by simp)]at hR
   subst hR
   rw[if_neg (by intro e;have:=congrArg Xab e;simp[l1]at this)]
   generalize (Za8 ty (q::ps)).1=B at *
   generalize (q::ps).map Zg=qs at *
   generalize beB (ZU c) 1=D at *
   rw[<-XU]
   unfold wH at *
   simp -implicitDefEqProofs only[EQA,Xe,Xc,Xa,Xg,Zw,Zad,reduceCtorEq,↓reduceIte,ZgH,Zfe,ZgQ,Zd,AVal.cells,a0,a7,a9,b1,g0,hN,hPr]
   exact Zh0 _ 1 _
def Zgr(p:ZE):Nat:=if Zcc p=[]then 0 else 1
theorem ZLj(l:Zc)(hl:l.length<=1000000000){σ:Za}(t r g:Nat){sq:Nat}(htr:t≠r)(hf:σ[sq]?=some .free)(hs0:σ[t]?=some (.var (wv r g l.length)))(hr:σ[r]?=some (.row g 1 (l.map Zb))) :
  Zj E1 BY σ sq 74 1 true [.ref t 0,.agg (ZB p)]=some (.tup [],(σ.set t (.var (wv r (g+Zgr p) (l++Zcc p).length))).set r (.row (g+Zgr p) 1 ((l++Zcc p).map Zb)),{ any:=true,upd:=[(t,wv r (g+Zgr p) (l++Zcc p).length)] }):=by
 have hw:=ZH4 p h l hl
 have hw':E1 74 [.ref 0 0,ZaH p] (wH 0 l)=some (.tup [],wH (Zgr p) (l++Zcc p)):=by
  rw[hw]
  unfold Zgr
  split
  ·rename_i e;rw[e,Xo]
  ·rfl
 exact Zi5 (args:=[.agg (ZB p)]) rfl ⟨rfl,rfl⟩ (Zgr p) (by unfold Zgr;split<;>omega) hw' (by kernel_rfl) (by rw[XO,Zet];rfl) (by rw[Xm,ZeS];rfl) htr (ff1 hf) hs0 hr
def Zb6(p:ZE):Zc:=beB (ZU p.id) 2++(Za8 p.type p.props).1
theorem ZPk:E1 75 [.ref 0 0,ZaH p] [.var wn]=some (.tup [],wH 0 (Zb6 p)):=by
 have l2:=ZdP p.type p.props
 have l1:=Za3 2 (ZU p.id)
 have hN:=fun{σ:Za} {t sq:Nat}=>Zm6 p.id 2 (by omega) (by omega) (m:=2) rfl (σ:=σ) (t:=t) (sq:=sq)
 have hPr:=fun{σ:Za} {sq:Nat}=>Zhu (beB (ZU p.id) 2) p.type p.props h.props.1 h.props.2 (by rw[Ze3];omega) (σ:=σ) 0 2 0 (sq:=sq) (by omega)
 have hO:=fun{j g:Nat} {l:Zc} {σ:Za}=>ZeZ (j:=j) (g:=g) (l:=l) (σ:=σ)
 rw[Zb0]
 have e0:=Zck p
 have a0:(ZB p)[0]?=some (.int .i64 p.type):=rfl
 have a4:(ZB p)[4]?=some (.int .i64 p.id):=rfl
 have a9:(ZB p)[9]?=some (.lst false (p.props.map Zg)):=rfl
 unfold Zb6
 generalize ZB p=P at *
 generalize p.type=ty at *
 generalize p.id=c at *
 generalize p.props=ps at *
 generalize (Za8 ty ps).1=B at *
 generalize ps.map Zg=qs at *
 generalize beB (ZU c) 2=D at *
 rw[ZbE (by rfl) ZVm]
 unfold wn at *
 simp -implicitDefEqProofs only[EQA,Zv,Xe,Xc,Xa,Xg,reduceCtorEq,↓reduceIte,Zf,ZSa,Zr2,ZCZ,Zd,AVal.cells,a0,a4,a9,hN,hPr]
 exact hO (j:=2) (by decide) rfl rfl
theorem Zs0{σ:Za}{t sq:Nat}(hf:σ[sq]?=some .free)(hs0:σ[t]?=some (.var wn)) :
  Zj E1 BY σ sq 75 1 true [.ref t 0,.agg (ZB p)]=some (.tup [],(σ.set t (.var (wv sq 0 (Zb6 p).length))).set sq (.row 0 1 ((Zb6 p).map Zb)),{ any:=true,upd:=[(t,wv sq 0 (Zb6 p).length)] }) :=
 Zhc (args:=[.agg (ZB p)]) rfl rfl (ZPk p h) (by kernel_rfl) (by rw[XO,Zet];rfl) (by rw[Xm,ZeS];rfl) hf hs0
end
end
section
theorem Zen(w:Int)(b:Zc):(Z9 w b).2.1<=b.length:=by
 unfold Z9
 split
 ·simp
 ·rename_i h
  split
  ·simp only
   have : ¬(((Z0 b).1:Int)>(b.length:Int)-((Z0 b).2.1:Nat)):=fun e=>h (XE e)
   omega
  ·simp
def ZaT:ZE:=⟨0,false,0,false,0,[],[],0,[],[],[],[],false,0,[],false,⟨[],[],0,false,[]⟩,false,[],false,[],false⟩
theorem Zlt(σ:Za):Zat σ P0=some (ZB ZaT,[]):=rfl
theorem ZlX(q:ZE)(ρ:Rho):Zh ρ (ZB q)=ZB q:=by
 have h:=ZAP (ρ:=ρ) (Zet q)
 rw[ZeS,Zo]at h
 injection h
theorem ZCv{Q:List AVal}{q:ZE}(c:Int)(h:∀ σ,Zat σ Q=some (ZB q,[])):ZbB 0 (some (.tup [.agg Q,.int .i64 c],[]))=some (.tup [ZaH q,.int .i64 c],[]):=by
 have h1:viewR [] (.tup [.agg Q,.int .i64 c])=some (.tup [ZaH q,.int .i64 c],[]):=by
  rw[viewR,viewAs,ZP,h]
  rfl
 unfold ZbB
 simp only[h1]
 have e1:=Zp2 q
 have e2:=ZlX q
 have hi:Zu 0 [AVal.tup [ZaH q,.int .i64 c]] []=[]:=by
  have : Zt [AVal.tup [ZaH q,.int .i64 c]]=[]:=by simp[Zt,ZT,Zb0,e1]
  simp only[Zu,this,XA,XaH,X5]
  rfl
 simp only[Zr,gcA,hi,Zh,Zo,Zn]
 rw[Zb0,Zo,e2]
def ZiM(b:Int)(l:Zc):ZE×Int :=
 if qoI b<3 then(if qoI b>0\/(ZbH b 8 != 0)=false then(match ZdO (qoI b) l with
  | .error e=>(ZaT,e)
  | .ok (tp,n,ps,pay)=>({ ZaT with type:=3,dup:=(ZbH b 8 != 0),qos:=qoI b,retain:=(ZbH b 1 != 0),id:=n,topic:=tp,props:=ps,payload:=pay },0))
  else(ZaT,130))else(ZaT,129)
theorem ZNF(b:Int)(h3:tyI b=3)(l:Zc)(hl:l.length<=140737488355328):∃ Q,E1 57 [.agg [.int .u8 b,.lst false (l.map Zb)]] []=some (.tup [.agg Q,.int .i64 (ZiM b l).2],[])/\∀ σ,Zat σ Q=some (ZB (ZiM b l).1,[]):=by
 have hf:=ZUj P0 rfl (by rfl) b l h3
 have hQ:(Zdi P0 b).length=26:=rfl
 have hN:Zf (Zdi P0 b)=true:=by rfl
 unfold ZiM
 by_cases hq:qoI b<3
 ·rw[if_pos hq]at hf ⊢
  by_cases hd:qoI b>0\/(ZbH b 8 != 0)=false
  ·rw[if_pos hd]at hf ⊢
   cases hp:ZdO (qoI b) l with
   |error e =>
    obtain⟨cs,hn,hb⟩:=ZTd (Zdi P0 b) hQ hN (qoI b) rfl rfl l hl hp
    refine⟨P0,?_,Zlt⟩
    rw[Zhl]
    exact Zhd b e l (Zyg b l hQ hN hn hf hb)
   |ok s =>
    obtain⟨tp,n,ps,pay⟩:=s
    have hb:=ZMD (Zdi P0 b) hQ hN (qoI b) rfl rfl rfl (fun r _=>Zen 3 r) l hl hp
    refine⟨((((Zdi P0 b).set 5 (.str tp)).set 4 (.int .i64 n)).set 9 (.lst false (ps.map Zg))).set 6 (.lst false (pay.map Zb)),?_,fun σ=>rfl⟩
    rw[Zhl]
    exact ZAi b l hQ hN rfl (by rfl) rfl rfl hf hb
  ·rw[if_neg hd]at hf ⊢
   refine⟨P0,?_,Zlt⟩
   rw[Zhl]
   exact Zhd b 130 l (ZoE b l (ZG _ hQ hN _ _) hf)
 ·rw[if_neg hq]at hf ⊢
  refine⟨P0,?_,Zlt⟩
  rw[Zhl]
  exact Zhd b 129 l (ZoE b l (ZG _ hQ hN _ _) hf)
end
section
def Zel(k:Int)(l:Zc):Except Int (Int×List Zp×Zc):=match idK l with
 | .error c=>.error c
 | .ok (n,r1)=>match ZbU k r1 with
  | .error c=>.error c
  | .ok (ps,r2)=>if r2.length=0 then .error 130 else .ok (n,ps,r2)
def Zcg(P:List AVal)(n:Int)(ps:List Zp):List AVal:=(P.set 4 (.int .i64 n)).set 9 (.lst false (ps.map Zg))
structure QOk(k:Int)(Q:List AVal):Prop where
 len:Q.length=26
 nor:Zf Q=true
 ty:Q[0]?=some (.int .i64 k)
 c8:Q[8]?=some (.lst true [])
 c10:Q[10]?=some (.lst true [])
 c11:Q[11]?=some (.lst true [])
theorem Zd7{k:Int}{P:List AVal}(h:QOk k P)(n:Int)(ps:List Zp):QOk k (Zcg P n ps):=by
 unfold Zcg
 refine⟨by simp[h.len],ZZ (Zcn _ _) _ (ZZ rfl _ h.nor),?_,?_,?_,?_⟩
 ·rw[Xn (by omega),Xn (by omega)];exact h.ty
 ·rw[Xn (by omega),Xn (by omega)];exact h.c8
 ·rw[Xn (by omega),Xn (by omega)];exact h.c10
 ·rw[Xn (by omega),Xn (by omega)];exact h.c11
theorem ZC5{f:Nat}{cs:List AVal}(hc:Zf cs=true)(τ:Za) :
  gcT 3 [(1,.fn f [.ref 1 0,.ref 2 0]),(0,.ref 0 0)] (.var cs::.var [.ref 0 0]::.var [.ref 0 0]::τ)=([(1,.fn f [.ref 1 0,.ref 2 0]),(0,.ref 0 0)],[.var cs,.var [.ref 0 0],.var [.ref 0 0]]):=by
 have e2:=fun ρ=>ZaV ρ cs hc
 have hi:Zu 3 [.fn f [.ref 1 0,.ref 2 0],.ref 0 0] (.var cs::.var [.ref 0 0]::.var [.ref 0 0]::τ)=[0,1,2]:=by
  have hR:Wa 3=[0,1,2]:=rfl
  simp only[Zu,hR,XK,X5,Xo,Xu,XN,Zx,Zt,ZT,(e2 (fun _ _=>none)).2]
  rfl
 have hρ0:Zk (.var cs::.var [.ref 0 0]::.var [.ref 0 0]::τ) 3 [0,1,2] 0 0=some (0,0):=rfl
 have hρ1:Zk (.var cs::.var [.ref 0 0]::.var [.ref 0 0]::τ) 3 [0,1,2] 1 0=some (1,0):=rfl
 have hρ2:Zk (.var cs::.var [.ref 0 0]::.var [.ref 0 0]::τ) 3 [0,1,2] 2 0=some (2,0):=rfl
 simp only[gcT,gcA,Xm,Xt,hi,Zn,Xu,XN,Zy,Zh,Zo,hρ0,hρ1,hρ2,(e2 _).1]
 rfl
theorem ZIz{f:Nat}{cs:List AVal}(hc:Zf cs=true)(τ:Za) :
  gcT 1 [(1,.fn f [.ref 0 0]),(0,.ref 0 0)] (.var cs::τ)=([(1,.fn f [.ref 0 0]),(0,.ref 0 0)],[.var cs]):=by
 have e2:=fun ρ=>ZaV ρ cs hc
 have hi:Zu 1 [.fn f [.ref 0 0],.ref 0 0] (.var cs::τ)=[0]:=by
  have hR:Wa 1=[0]:=rfl
  simp only[Zu,hR,XK,X5,Xo,Xu,Zx,Zt,ZT,(e2 (fun _ _=>none)).2]
  rfl
 have hρ0:Zk (.var cs::τ) 1 [0] 0 0=some (0,0):=rfl
 simp only[gcT,gcA,Xm,Xt,hi,Zn,Xu,Zy,Zh,Zo,hρ0,(e2 _).1]
 rfl
section
variable (k:Int)(f:Nat)(P:List AVal)(h:QOk k P)(l:Zc)(hl:l.length<=140737488355328)
include h hl
theorem Zx4{n:Int}{ps:List Zp}{r:Zc}(hk:Zel k l=.ok (n,ps,r)):E 107 [.ref 0 0,.fn f [.ref 1 0,.ref 2 0]] [.var (P++[.lst false (l.map Zb)]),.var [.ref 0 0],.var [.ref 0 0]]=Zbl 3 [(1,.fn f [.ref 1 0,.ref 2 0]),(0,.ref 0 0)] [.var (Zcg P n ps++[.lst false (r.map Zb)]),.var [.ref 0 0],.var [.ref 0 0]]:=by
 obtain⟨hP,hN,h0,-,-,-⟩:=h
 unfold Zel at hk
 split at hk
 ·cases hk
 rename_i n' r1 hi
 have l1:=ZfT hi
 split at hk
 ·cases hk
 rename_i ps' r2 hp
 split at hk
 ·cases hk
 rename_i hne
 injection hk with hk;injection hk with e1 hk;injection hk with e2 e3;subst e1 e2 e3
 have hI:=fun σ sq hs=>ZgL P hP hN l hl σ 0 sq hs hi
 have hP4:(P.set 4 (.int .i64 n')).length=26:=by simp[hP]
 have hN4:Zf (P.set 4 (.int .i64 n'))=true:=ZZ rfl 4 hN
 have h04:(P.set 4 (.int .i64 n'))[0]?=some (.int .i64 k):=by rw[Xn (by omega)];exact h0
 unfold Zcg
 generalize P.set 4 (.int .i64 n')=R at *
 have hG:=fun σ sq hs=>ZeY R hP4 hN4 r1 (by omega) σ 0 sq hs (Zen k r1) hp
 have c1:=Zal R hP4
 have c2:=ZaI R hP4
 have c4:=fun L=>(Zam R hP4 0 (by omega) L).trans h04
 have c3:=fun L=>ZaL R hP4 9 10 (by omega) rfl L (.lst false (ps'.map Zg))
 have hP9:(R.set 9 (.lst false (ps'.map Zg))).length=26:=by simp[hP4]
 have hN9:Zf (R.set 9 (.lst false (ps'.map Zg)))=true:=ZZ (Zcn _ _) 9 hN4
 generalize R.set 9 (.lst false (ps'.map Zg))=S at *
 have d2:=ZaI S hP9
 have m1:=Zbw
 have z:((r2.length:Nat):Int)>0:=by omega
 have z2:(0:Int)<((r2.length:Nat):Int):=by omega
 have gC:=fun τ=>ZC5 (f:=f) (ZG S hP9 hN9 false (r2.map Zb)) τ
 unfold Zbl
 rw[Zi (by rfl) ZgS]
 simp -implicitDefEqProofs only[EQA,Zz,ZM,Xe,Xc,Xf,Xa,reduceCtorEq,↓reduceIte,Zg8,ZfA,Zd,c1,c3,c4,hI,hG,d2,m1,z,gC]
theorem ZI0{e:Int}(hk:Zel k l=.error e):∃ cs,Zf cs=true/\E 107 [.ref 0 0,.fn f [.ref 1 0,.ref 2 0]] [.var (P++[.lst false (l.map Zb)]),.var [.ref 0 0],.var [.ref 0 0]]=some (.pan (ZH e),[.var (cs),.var [.ref 0 0],.var [.ref 0 0]]):=by
 obtain⟨hP,hN,h0,-,-,-⟩:=h
 unfold Zel at hk
 split at hk
 ·rename_i c hi
  injection hk with hk;subst hk
  obtain⟨cs,hn,he⟩:=Zl2 P hP hN l hl hi
  have hI:=fun(σ:Za) sq (hs:σ[0]?=some (.var (P++[.lst false (l.map Zb)])))=>Zc1 (O:=E) (bf:=BY) (f:=105) (view:=true) (rest:=[]) (by kernel_rfl) rfl (ZG P hP hN _ _) hn rfl he hs sq
  refine⟨cs,hn,?_⟩
  rw[Zi (by rfl) ZgS]
  simp -implicitDefEqProofs only[EQA,Xe,Xc,reduceCtorEq,↓reduceIte,Zg8,ZfA,Zd,hI]
  exact Zn2 rfl hn _
 rename_i n' r1 hi
 have l1:=ZfT hi
 have hI:=fun σ sq hs=>ZgL P hP hN l hl σ 0 sq hs hi
 have hP4:(P.set 4 (.int .i64 n')).length=26:=by simp[hP]
 have hN4:Zf (P.set 4 (.int .i64 n'))=true:=ZZ rfl 4 hN
 have h04:(P.set 4 (.int .i64 n'))[0]?=some (.int .i64 k):=by rw[Xn (by omega)];exact h0
 generalize P.set 4 (.int .i64 n')=R at *
 have c1:=Zal R hP4
 have c2:=ZaI R hP4
 have c4:=fun L=>(Zam R hP4 0 (by omega) L).trans h04
 split at hk
 ·rename_i c hp
  injection hk with hk;subst hk
  have hG:=fun σ sq hs=>Zgi R hP4 hN4 r1 (by omega) σ 0 sq hs hp
  refine⟨_,ZG R hP4 hN4 false (r1.map Zb),?_⟩
  rw[Zi (by rfl) ZgS]
  simp -implicitDefEqProofs only[EQA,Xe,Xc,Xa,reduceCtorEq,↓reduceIte,Zg8,ZfA,Zd,c4,hI,hG]
  exact Zn2 rfl (ZG R hP4 hN4 _ _) _
 rename_i ps' r2 hp
 split at hk
 case isFalse=>cases hk
 rename_i hne
 injection hk with hk;subst hk
 have hG:=fun σ sq hs=>ZeY R hP4 hN4 r1 (by omega) σ 0 sq hs (Zen k r1) hp
 have c3:=fun L=>ZaL R hP4 9 10 (by omega) rfl L (.lst false (ps'.map Zg))
 have hP9:(R.set 9 (.lst false (ps'.map Zg))).length=26:=by simp[hP4]
 have hN9:Zf (R.set 9 (.lst false (ps'.map Zg)))=true:=ZZ (Zcn _ _) 9 hN4
 generalize R.set 9 (.lst false (ps'.map Zg))=S at *
 have d2:=ZaI S hP9
 have m1:=ZbR
 have z:¬((r2.length:Nat):Int)>0:=by omega
 have z2:¬(0:Int)<((r2.length:Nat):Int):=by omega
 refine⟨_,ZG S hP9 hN9 false (r2.map Zb),?_⟩
 rw[Zi (by rfl) ZgS]
 simp -implicitDefEqProofs only[EQA,Zz,Xe,Xc,Xf,Xa,reduceCtorEq,↓reduceIte,Zg8,ZfA,Zd,c1,c3,c4,hI,hG,d2,m1,z]
 exact Zn2 rfl (ZG S hP9 hN9 _ _) _
theorem Zu1{n:Int}{ps:List Zp}{r:Zc}(hk:Zel k l=.ok (n,ps,r)):E 107 [.ref 0 0,.fn f [.ref 0 0]] [.var (P++[.lst false (l.map Zb)])]=Zbl 1 [(1,.fn f [.ref 0 0]),(0,.ref 0 0)] [.var (Zcg P n ps++[.lst false (r.map Zb)])]:=by
 obtain⟨hP,hN,h0,-,-,-⟩:=h
 unfold Zel at hk
 split at hk
 ·cases hk
 rename_i n' r1 hi
 have l1:=ZfT hi
 split at hk
 ·cases hk
 rename_i ps' r2 hp
 split at hk
 ·cases hk
 rename_i hne
 injection hk with hk;injection hk with e1 hk;injection hk with e2 e3;subst e1 e2 e3
 have hI:=fun σ sq hs=>ZgL P hP hN l hl σ 0 sq hs hi
 have hP4:(P.set 4 (.int .i64 n')).length=26:=by simp[hP]
 have hN4:Zf (P.set 4 (.int .i64 n'))=true:=ZZ rfl 4 hN
 have h04:(P.set 4 (.int .i64 n'))[0]?=some (.int .i64 k):=by rw[Xn (by omega)];exact h0
 unfold Zcg
 generalize P.set 4 (.int .i64 n')=R at *
 have hG:=fun σ sq hs=>ZeY R hP4 hN4 r1 (by omega) σ 0 sq hs (Zen k r1) hp
 have c1:=Zal R hP4
 have c2:=ZaI R hP4
 have c4:=fun L=>(Zam R hP4 0 (by omega) L).trans h04
 have c3:=fun L=>ZaL R hP4 9 10 (by omega) rfl L (.lst false (ps'.map Zg))
 have hP9:(R.set 9 (.lst false (ps'.map Zg))).length=26:=by simp[hP4]
 have hN9:Zf (R.set 9 (.lst false (ps'.map Zg)))=true:=ZZ (Zcn _ _) 9 hN4
 generalize R.set 9 (.lst false (ps'.map Zg))=S at *
 have d2:=ZaI S hP9
 have m1:=Zbw
 have z:((r2.length:Nat):Int)>0:=by omega
 have z2:(0:Int)<((r2.length:Nat):Int):=by omega
 have gC:=fun τ=>ZIz (f:=f) (ZG S hP9 hN9 false (r2.map Zb)) τ
 unfold Zbl
 rw[Zi (by rfl) ZgS]
 simp -implicitDefEqProofs only[EQA,Zz,ZM,Xe,Xc,Xf,Xa,reduceCtorEq,↓reduceIte,Zg8,ZfA,Zd,c1,c3,c4,hI,hG,d2,m1,z,gC]
theorem ZS7{e:Int}(hk:Zel k l=.error e):∃ cs,Zf cs=true/\E 107 [.ref 0 0,.fn f [.ref 0 0]] [.var (P++[.lst false (l.map Zb)])]=some (.pan (ZH e),[.var (cs)]):=by
 obtain⟨hP,hN,h0,-,-,-⟩:=h
 unfold Zel at hk
 split at hk
 ·rename_i c hi
  injection hk with hk;subst hk
  obtain⟨cs,hn,he⟩:=Zl2 P hP hN l hl hi
  have hI:=fun(σ:Za) sq (hs:σ[0]?=some (.var (P++[.lst false (l.map Zb)])))=>Zc1 (O:=E) (bf:=BY) (f:=105) (view:=true) (rest:=[]) (by kernel_rfl) rfl (ZG P hP hN _ _) hn rfl he hs sq
  refine⟨cs,hn,?_⟩
  rw[Zi (by rfl) ZgS]
  simp -implicitDefEqProofs only[EQA,Xc,reduceCtorEq,↓reduceIte,Zg8,ZfA,Zd,hI]
  exact Z7 rfl hn
 rename_i n' r1 hi
 have l1:=ZfT hi
 have hI:=fun σ sq hs=>ZgL P hP hN l hl σ 0 sq hs hi
 have hP4:(P.set 4 (.int .i64 n')).length=26:=by simp[hP]
 have hN4:Zf (P.set 4 (.int .i64 n'))=true:=ZZ rfl 4 hN
 have h04:(P.set 4 (.int .i64 n'))[0]?=some (.int .i64 k):=by rw[Xn (by omega)];exact h0
 generalize P.set 4 (.int .i64 n')=R at *
 have c1:=Zal R hP4
 have c2:=ZaI R hP4
 have c4:=fun L=>(Zam R hP4 0 (by omega) L).trans h04
 split at hk
 ·rename_i c hp
  injection hk with hk;subst hk
  have hG:=fun σ sq hs=>Zgi R hP4 hN4 r1 (by omega) σ 0 sq hs hp
  refine⟨_,ZG R hP4 hN4 false (r1.map Zb),?_⟩
  rw[Zi (by rfl) ZgS]
  simp -implicitDefEqProofs only[EQA,Xc,Xa,reduceCtorEq,↓reduceIte,Zg8,ZfA,Zd,c4,hI,hG]
  exact Z7 rfl (ZG R hP4 hN4 _ _)
 rename_i ps' r2 hp
 split at hk
 case isFalse=>cases hk
 rename_i hne
 injection hk with hk;subst hk
 have hG:=fun σ sq hs=>ZeY R hP4 hN4 r1 (by omega) σ 0 sq hs (Zen k r1) hp
 have c3:=fun L=>ZaL R hP4 9 10 (by omega) rfl L (.lst false (ps'.map Zg))
 have hP9:(R.set 9 (.lst false (ps'.map Zg))).length=26:=by simp[hP4]
 have hN9:Zf (R.set 9 (.lst false (ps'.map Zg)))=true:=ZZ (Zcn _ _) 9 hN4
 generalize R.set 9 (.lst false (ps'.map Zg))=S at *
 have d2:=ZaI S hP9
 have m1:=ZbR
 have z:¬((r2.length:Nat):Int)>0:=by omega
 have z2:¬(0:Int)<((r2.length:Nat):Int):=by omega
 refine⟨_,ZG S hP9 hN9 false (r2.map Zb),?_⟩
 rw[Zi (by rfl) ZgS]
 simp -implicitDefEqProofs only[EQA,Zz,Xe,Xc,Xf,Xa,reduceCtorEq,↓reduceIte,Zg8,ZfA,Zd,c1,c3,c4,hI,hG,d2,m1,z]
 exact Z7 rfl (ZG S hP9 hN9 _ _)
end
end
section
theorem ZBj{n:Nat}{l r:Zc}{a:Int}(hn:0<n)(h:ZaU n l=.ok (a,r)):r.length<l.length:=by
 unfold ZaU at h
 split at h
 ·cases h
 ·injection h with h;injection h with _ h;subst h;rw[X9];omega
theorem ZuN{l r a:Zc}(h:ZaD l=.ok (a,r)):r.length<l.length:=by
 unfold ZaD at h
 split at h
 ·rename_i h0
  injection h with h;injection h with _ h;subst h
  rw[X9]
  unfold Zaq at h0 ⊢
  split at h0
  ·rename_i h1;exact absurd h0 h1
  ·rename_i h1
   rw[if_neg h1]
   split at h0
   ·rename_i h2
    rw[if_pos h2]
    unfold ZaP at h0 ⊢
    split at h0
    ·cases h0
    ·rename_i h3
     rw[if_neg h3]
     simp only
     omega
   ·cases h0
 ·cases h
theorem Zm8{k:Int}{l r:Zc}{a:Int}(h:ZaY k l=.ok (a,r)):r.length<l.length:=by
 unfold ZaY at h
 split at h
 ·rename_i h1
  split at h
  ·injection h with h;injection h with _ h;subst h;exact ZBj (by omega) h1
  ·cases h
 ·cases h
theorem Zk1{l r:Zc}{a:ZbP}(h:ZbN l=.ok (a,r)):r.length<l.length:=by
 unfold ZbN at h
 split at h
 ·cases h
 rename_i f r1 ht
 have l1:=ZuN ht
 split at h
 ·cases h
 rename_i o r2 hn
 have l2:=ZBj (by omega) hn
 split at h
 case isFalse=>cases h
 split at h
 case isFalse=>cases h
 injection h with h;injection h with _ h;subst h
 omega
section
variable {O:ZV}{bf:Nat->Bool}{f:Nat}{cs cs1 cs2 cs3 xs xs2:List AVal}{w w2:Nat}{q:AVal}
theorem ZKa(hb:bf f=false)(hc:Zf cs=true)(hq:ZS q=true)(hback:∀ ρ:Rho,ρ 1 0=some (1,0)->Zh ρ cs2=cs2)(hO:O f [.ref 0 0] [.var cs]=some (q,[.var cs2,.row 0 w xs])) :
  Zj O bf [.var cs,.free,.free,.free,.free] 1 f 4 false [.ref 0 0]=some (q,[.var cs2,.row 0 w xs,.free,.free,.free],{ any:=true,upd:=[(0,cs2)] }):=by
 have ec:=fun ρ=>ZaV ρ cs hc
 refine ZdG (ids:=[0]) (vs:=[.ref 0 0]) hb rfl (Zff rfl hc) rfl rfl rfl ?_ hO rfl (by simp) (by simp) rfl rfl (Zbm _ q hq).1 ?_ rfl
 ·show [ZO.var (Zh _ cs)]=_
  rw[(ec _).1]
 ·have hb3:=hback (ZaJ [.var cs,.free,.free,.free,.free] [0] 1) rfl
  show [ZO.var (Zh _ cs2),.row 0 w xs,.free,.free,.free]=_
  rw[hb3]
theorem ZXH(hb:bf f=false)(hc:Zf cs=true)(hq:ZS q=true)(hc2:Zf cs2=true)(hO:O f [.ref 0 0] [.var cs]=some (q,[.var cs2])) :
  Zj O bf [.var cs,.free,.free,.free,.free] 1 f 4 false [.ref 0 0]=some (q,[.var cs2,.free,.free,.free,.free],{ any:=true,upd:=[(0,cs2)] }):=by
 have ec:=fun ρ=>ZaV ρ cs hc
 refine ZdG (ids:=[0]) (vs:=[.ref 0 0]) hb rfl (Zff rfl hc) rfl rfl rfl ?_ hO rfl (by simp) (by simp) rfl rfl (Zbm _ q hq).1 ?_ rfl
 ·show [ZO.var (Zh _ cs)]=_
  rw[(ec _).1]
 ·show [ZO.var (Zh _ cs2),.free,.free,.free,.free]=_
  rw[(ZaV _ cs2 hc2).1]
theorem Zv4{g2:Nat}(hb:bf f=false)(hc:Zt cs=[1])(hren:∀ ρ:Rho,ρ 1 0=some (1,0)->Zh ρ cs=cs)(hq:ZS q=true)(hg2:g2<=1)(hback:∀ ρ:Rho,ρ 1 g2=some (1,g2)->Zh ρ cs2=cs2)(hO:O f [.ref 0 0] [.var cs,.row 0 w xs]=some (q,[.var cs2,.row g2 w2 xs2])) :
  Zj O bf [.var cs,.row 0 w xs,.free,.free,.free,.free] 2 f 4 false [.ref 0 0]=some (q,[.var cs2,.row g2 w2 xs2,.free,.free,.free,.free],{ any:=true,upd:=[(0,cs2)] }):=by
 refine ZdG (ids:=[0,1]) (vs:=[.ref 0 0]) hb rfl (ZqJ (g:=0) (w:=w) (xs:=xs) rfl rfl (by omega) hc) rfl rfl rfl ?_ hO rfl (by simp) (by simp) ?_ rfl (Zbm _ q hq).1 ?_ rfl
 ·have h1:=hren (Zk [.var cs,.row 0 w xs,.free,.free,.free,.free] 0 [0,1]) rfl
  show [ZO.var (Zh _ cs),.row 0 w xs]=_
  rw[h1]
 ·simp[ZaW,okB,Zcr,Zl,hg2]
 ·have hb3:=hback (ZaJ [.var cs,.row 0 w xs,.free,.free,.free,.free] [0,1] 2) (by simp[ZaJ,Zl])
  show [ZO.var (Zh _ cs2),.row (0+g2) w2 xs2,.free,.free,.free,.free]=_
  rw[hb3,XB]
theorem Zwj{f g:Nat}(hc:Zt cs=[1])(hg:g<=1)(hren:∀ ρ:Rho,ρ 1 g=some (1,0)->Zh ρ cs=cs1)(τ:Za) :
  gcT 1 [(1,.fn f [.ref 0 0]),(0,.ref 0 0)] (.var cs::.row g w xs::τ)=([(1,.fn f [.ref 0 0]),(0,.ref 0 0)],[.var cs1,.row 0 w xs]):=by
 have hi:Zu 1 [.fn f [.ref 0 0],.ref 0 0] (.var cs::.row g w xs::τ)=[0,1]:=by
  have hR:Wa 1=[0]:=rfl
  simp only[Zu,hR,XK,X5,Xo,Xu,Zx,Zt,ZT,hc]
  rfl
 have hρ:Zk (.var cs::.row g w xs::τ) 1 [0,1] 1 g=some (1,0):=by
  simp[Zk,ZI,Zl,ZF]
 have hρ0:Zk (.var cs::.row g w xs::τ) 1 [0,1] 0 0=some (0,0):=rfl
 simp only[gcT,gcA,Xm,Xt,hi,Zn,Xu,XN,ZF,Zl,Zy,Zh,Zo,hρ0,hren _ hρ]
 simp
end
section
variable (Q:List AVal)(hQ:Q.length=26)(hN:Zf Q=true)(h10:Q[10]?=some (.lst true []))
include hQ hN
def H1(Q:List AVal)(n:Nat)(l:Zc)(ys:List AVal):Za:=[.var (Zq Q 10 1 0 n++[.lst false (l.map Zb)]),.row 0 6 ys]
def tmS:Tms:=[(1,.fn 1000108 [.ref 0 0]),(0,.ref 0 0)]
theorem Zye:∀ (n:Nat) (l:Zc) (xs:List ZbP),l.length<=n->n+xs.length<=1099511627776 ->
  (∀ ts,Zba ZbN n l=.ok ts->Zbl 1 tmS (H1 Q xs.length l (xs.map Zaa))=some (.tup [],H1 Q (xs++ts).length [] ((xs++ts).map Zaa))) /\
  (∀ e,Zba ZbN n l=.error e->∃ (xs':List ZbP) (r:Zc),Zbl 1 tmS (H1 Q xs.length l (xs.map Zaa))=some (.pan (ZH e),H1 Q xs'.length r (xs'.map Zaa))):=by
 have hk:(10:Nat)<26:=by omega
 intro n
 induction n with
 |zero =>
  intro l xs hl hx
  have l0:l=[]:=XG (by omega)
  subst l0
  refine⟨fun ts h=>?_,fun e h=>by simp[Zba]at h⟩
  have : ts=[]:=by simpa[Zba]using h.symm
  subst this
  rw[Xo]
  have hL:=Zcj Q hQ hN 10 hk xs.length 1 0
  have b2:=ZaI _ hL
  have hO:=fun τ=>Zdv (j:=1) (w:=6) (xs:=xs.map Zaa) (r:=.tup []) (σ:=.var (Zq Q 10 1 0 xs.length++[.lst false []])::.row 0 6 (xs.map Zaa)::τ) rfl (by omega) rfl rfl (ZbO Q hQ hN hk 1 0 xs.length []) (fun ρ h=>Zbc Q hQ hN hk 1 0 xs.length 1 0 [] ρ h)
  unfold H1 tmS Zbl
  rw[ZR]
  generalize Zq Q 10 1 0 xs.length=R at *
  generalize xs.map Zaa=ys at *
  simp -implicitDefEqProofs only[EQA,Zv,Xe,WK,Xc,Xa,Xg,reduceCtorEq,decide_eq_true_eq,↓reduceIte,Zf,ZmZ,Zd8,Zdt,Zd,b2]
  exact hO _
 |succ n ih =>
  intro l xs hl hx
  have hL:=Zcj Q hQ hN 10 hk xs.length 1 0
  have b2:=ZaI _ hL
  by_cases l0:l.length=0
  ·have l0:l=[]:=XG l0
   subst l0
   refine⟨fun ts h=>?_,fun e h=>by simp[Zba]at h⟩
   have : ts=[]:=by simpa[Zba]using h.symm
   subst this
   rw[Xo]
   have hO:=fun τ=>Zdv (j:=1) (w:=6) (xs:=xs.map Zaa) (r:=.tup []) (σ:=.var (Zq Q 10 1 0 xs.length++[.lst false []])::.row 0 6 (xs.map Zaa)::τ) rfl (by omega) rfl rfl (ZbO Q hQ hN hk 1 0 xs.length []) (fun ρ h=>Zbc Q hQ hN hk 1 0 xs.length 1 0 [] ρ h)
   unfold H1 tmS Zbl
   rw[ZR]
   generalize Zq Q 10 1 0 xs.length=R at *
   generalize xs.map Zaa=ys at *
   simp -implicitDefEqProofs only[EQA,Zv,Xe,WK,Xc,Xa,Xg,reduceCtorEq,decide_eq_true_eq,↓reduceIte,Zf,ZmZ,Zd8,Zdt,Zd,b2]
   exact hO _
  ·have z1:((l.length:Nat):Int)>0:=by omega
   have z2:(0:Int)<((l.length:Nat):Int):=by omega
   cases ho:ZbN l with
   |error e =>
    refine⟨fun ts h=>by simp[Zba,l0,ho]at h,fun e' h=>?_⟩
    have : e'=e:=by simpa[Zba,l0,ho]using h.symm
    subst this
    obtain⟨r,hE⟩:=ZQs Q hQ hN l (by omega) xs ho
    have hC:=Zv4 (O:=E) (bf:=BY) (f:=108) (g2:=0) (by kernel_rfl) (ZbO Q hQ hN hk 1 0 xs.length l) (fun ρ h=>Zbc Q hQ hN hk 1 0 xs.length 1 0 l ρ h) (q:=.pan (ZH e')) rfl (by omega) (fun ρ h=>Zbc Q hQ hN hk 1 0 xs.length 1 0 r ρ h) hE
    have hO:=fun τ=>Zdv (j:=1) (w:=6) (xs:=xs.map Zaa) (r:=.pan (ZH e')) (σ:=.var (Zq Q 10 1 0 xs.length++[.lst false (r.map Zb)])::.row 0 6 (xs.map Zaa)::τ) rfl (by omega) rfl rfl (ZbO Q hQ hN hk 1 0 xs.length r) (fun ρ h=>Zbc Q hQ hN hk 1 0 xs.length 1 0 r ρ h)
    refine⟨xs,r,?_⟩
    unfold H1 tmS Zbl
    rw[ZR]
    clear hE ih
    generalize Zq Q 10 1 0 xs.length=R at *
    generalize xs.map Zaa=ys at *
    generalize ZH e'=ce at *
    simp -implicitDefEqProofs only[EQA,Xe,WK,Xc,Xa,Xg,reduceCtorEq,↓reduceIte,Zd8,Zdt,Zd,b2,hC,z1]
    exact hO _
   |ok s =>
    obtain⟨s,r⟩:=s
    have hr:=Zk1 ho
    have hE:=ZJL Q hQ hN xs (by omega) l (by omega) ho
    have hC:=Zv4 (O:=E) (bf:=BY) (f:=108) (g2:=1) (by kernel_rfl) (ZbO Q hQ hN hk 1 0 xs.length l) (fun ρ h=>Zbc Q hQ hN hk 1 0 xs.length 1 0 l ρ h) (q:=.tup []) rfl (by omega) (fun ρ h=>Zbc Q hQ hN hk 1 1 (xs.length+1) 1 1 r ρ h) hE
    have hG:=Zwj (f:=1000108) (w:=6) (xs:=(xs++[s]).map Zaa) (g:=1) (ZbO Q hQ hN hk 1 1 (xs.length+1) r) (by omega) (fun ρ h=>Zbc Q hQ hN hk 1 1 (xs.length+1) 1 0 r ρ h)
    have step:Zbl 1 tmS (H1 Q xs.length l (xs.map Zaa))=Zbl 1 tmS (H1 Q (xs++[s]).length r ((xs++[s]).map Zaa)):=by
     rw[show(xs++[s]).length=xs.length+1 from by simp]
     unfold H1 tmS
     conv=>lhs;unfold Zbl
     conv=>rhs;unfold Zbl
     conv=>lhs;rw[ZR]
     clear hE ih
     generalize Zq Q 10 1 0 xs.length=R at *
     generalize Zq Q 10 1 1 (xs.length+1)=R2 at *
     generalize Zq Q 10 1 0 (xs.length+1)=R3 at *
     generalize xs.map Zaa=ys at *
     generalize (xs++[s]).map Zaa=zs at *
     simp -implicitDefEqProofs only[EQA,ZM,Xe,WK,Xc,Xa,Xg,reduceCtorEq,↓reduceIte,Zd8,Zdt,Zd,b2,hC,hG,z1]
    obtain⟨i1,i2⟩:=ih r (xs++[s]) (by omega) (by simp;omega)
    refine⟨fun ts h=>?_,fun e h=>?_⟩
    ·rw[step]
     simp only[Zba,l0,ho,if_false]at h
     cases hl2:Zba ZbN n r with
     |error e=>rw[hl2]at h;cases h
     |ok us =>
      rw[hl2]at h
      injection h with h;subst h
      have:=i1 us hl2
      rw[XU,WG]at this
      exact this
    ·rw[step]
     simp only[Zba,l0,ho,if_false]at h
     cases hl2:Zba ZbN n r with
     |error e2 =>
      rw[hl2]at h
      injection h with h;subst h
      exact i2 e2 hl2
     |ok us=>rw[hl2]at h;cases h
end
def ZbV{α:Type}(one:Zc->RK α)(k:Int)(l:Zc):Except Int (Int×List Zp×List α):=match Zel k l with
 | .error e=>.error e
 | .ok (n,ps,r)=>match Zba one r.length r with
  | .error e=>.error e
  | .ok ts=>.ok (n,ps,ts)
theorem Zkr{k:Int}{l:Zc}{n:Int}{ps:List Zp}{r:Zc}(h:Zel k l=.ok (n,ps,r)):r.length<=l.length/\r.length≠0:=by
 unfold Zel at h
 split at h
 ·cases h
 rename_i n' r1 hi
 have l1:=ZfT hi
 split at h
 ·cases h
 rename_i ps' r2 hp
 have l2:=Zhr hp
 split at h
 ·cases h
 rename_i hne
 injection h with h;injection h with e1 h;injection h with e2 e3;subst e1 e2 e3
 exact⟨by omega,hne⟩
theorem Zld{α:Type}{one:Zc->RK α}{n:Nat}{l:Zc}(h:l.length=n+1){s:α}{r:Zc}(ho:one l=.ok (s,r))(hlen:∀ {l s r},one l=.ok (s,r)->r.length<l.length):Zba one l.length l=match Zba one n r with
  | .error e=>.error e
  | .ok t=>.ok (s::t):=by
 rw[h]
 simp only[Zba,h,Xaf,XaA,and_false,if_false,ho]
 all_goals rfl
section
variable {α:Type}{one:Zc->RK α}{g:α->AVal}{f kk:Nat}{k:Int}(hk:kk<26)(hf:f<1000000)(hby:BY f=false)
  (hlen:∀ {l s r},one l=.ok (s,r)->r.length<l.length)
  (hT0:∀ Q,QOk k Q->∀ (l:Zc) (s:α) (r:Zc),l.length<=1099511627776->one l=.ok (s,r)->E f [.ref 0 0,.ref 2 0] [.var [.ref 1 0],.var (Q++[.lst false (l.map Zb)]),.var [.ref 1 0]]=some (.tup [],[.var [.ref 1 0],.var (Zq Q kk 3 0 1++[.lst false (r.map Zb)]),.var [.ref 1 0],.row 0 1 [g s]]))
  (hF0:∀ Q,QOk k Q->∀ (l:Zc) (e:Int),l.length<=1099511627776->one l=.error e->∃ r:Zc,E f [.ref 0 0,.ref 2 0] [.var [.ref 1 0],.var (Q++[.lst false (l.map Zb)]),.var [.ref 1 0]]=some (.pan (ZH e),[.var [.ref 1 0],.var (Q++[.lst false (r.map Zb)]),.var [.ref 1 0]]))
  (hT1:∀ Q,QOk k Q->∀ (xs:List α) (l:Zc) (s:α) (r:Zc),l.length<=1099511627776->xs.length<=1099511627776->one l=.ok (s,r)->E f [.ref 0 0,.ref 3 0] [.var [.ref 1 0],.var (Zq Q kk 2 0 xs.length++[.lst false (l.map Zb)]),.row 0 1 (xs.map g),.var [.ref 1 0]]=some (.tup [],[.var [.ref 1 0],.var (Zq Q kk 2 1 (xs.length+1)++[.lst false (r.map Zb)]),.row 1 1 ((xs++[s]).map g),.var [.ref 1 0]]))
  (hF1:∀ Q,QOk k Q->∀ (xs:List α) (l:Zc) (e:Int),l.length<=1099511627776->one l=.error e->∃ r:Zc,E f [.ref 0 0,.ref 3 0] [.var [.ref 1 0],.var (Zq Q kk 2 0 xs.length++[.lst false (l.map Zb)]),.row 0 1 (xs.map g),.var [.ref 1 0]]=some (.pan (ZH e),[.var [.ref 1 0],.var (Zq Q kk 2 0 xs.length++[.lst false (r.map Zb)]),.row 0 1 (xs.map g),.var [.ref 1 0]]))
include hk hf hby hT0
theorem ZA6{Q:List AVal}(hQ:QOk k Q){l r:Zc}{s:α}(hl:l.length<=1099511627776)(hl0:l.length≠0)(ho:one l=.ok (s,r)) :
  Zbl 3 [(1,.fn f [.ref 1 0,.ref 2 0]),(0,.ref 0 0)] [.var (Q++[.lst false (l.map Zb)]),.var [.ref 0 0],.var [.ref 0 0]]=Zbl 3 [(1,.fn f [.ref 1 0,.ref 2 0]),(0,.ref 0 0)] (H3 Q kk 1 r [g s]):=by
 have hE:=hT0 Q hQ l s r hl ho
 obtain⟨hL,hN,-,-,-,-⟩:=hQ
 have z1:((l.length:Nat):Int)>0:=by omega
 have z2:(0:Int)<((l.length:Nat):Int):=by omega
 have b2:=ZaI _ hL
 have hC:=ZPv (O:=E) (bf:=BY) (cs:=Q++[.lst false (l.map Zb)]) (cs3:=Zq Q kk 3 0 1++[.lst false (r.map Zb)]) hby (ZG Q hL hN false (l.map Zb)) (q:=.tup []) rfl (fun ρ h=>Zbc Q hL hN hk 3 0 1 3 0 r ρ h) hE
 have hG:=Zy9 (f:=f) (w:=1) (xs:=[g s]) (g:=0) (ZbO Q hL hN hk 3 0 1 r) (by omega) (fun ρ h=>Zbc Q hL hN hk 3 0 1 3 0 r ρ h)
 unfold H3
 conv=>lhs;unfold Zbl
 conv=>rhs;unfold Zbl
 conv=>lhs;rw[ZR]
 clear hE hT0
 generalize Zq Q kk 3 0 1=Q2 at *
 simp -implicitDefEqProofs only[EQA,ZM,Xe,Xc,Xa,Xg,reduceCtorEq,↓reduceIte,Zd8,Zdt,Zd,b2,hC,hG,hf,z1]
omit hT0
include hF0
theorem ZO0{Q:List AVal}(hQ:QOk k Q){l:Zc}{e:Int}(hl:l.length<=1099511627776)(hl0:l.length≠0)(ho:one l=.error e) :
  ∃ r:Zc,Zbl 3 [(1,.fn f [.ref 1 0,.ref 2 0]),(0,.ref 0 0)] [.var (Q++[.lst false (l.map Zb)]),.var [.ref 0 0],.var [.ref 0 0]]=some (.pan (ZH e),[.var (Q++[.lst false (r.map Zb)]),.var [.ref 0 0],.var [.ref 0 0]]):=by
 obtain⟨r,hE⟩:=hF0 Q hQ l e hl ho
 obtain⟨hL,hN,-,-,-,-⟩:=hQ
 have z1:((l.length:Nat):Int)>0:=by omega
 have z2:(0:Int)<((l.length:Nat):Int):=by omega
 have b2:=ZaI _ hL
 have hC:=ZVZ (O:=E) (bf:=BY) (cs:=Q++[.lst false (l.map Zb)]) (cs2:=Q++[.lst false (r.map Zb)]) hby (ZG Q hL hN false (l.map Zb)) (q:=.pan (ZH e)) rfl (ZG Q hL hN false (r.map Zb)) hE
 have hO:=fun τ=>Zn2 (r:=.pan (ZH e)) rfl (ZG Q hL hN false (r.map Zb)) τ
 refine⟨r,?_⟩
 unfold Zbl
 rw[ZR]
 clear hE hF0
 generalize ZH e=ce at *
 simp -implicitDefEqProofs only[EQA,Xe,Xc,Xa,Xg,reduceCtorEq,↓reduceIte,Zd8,Zdt,Zd,b2,hC,hf,z1]
 exact hO _
include hT0 hT1 hF1 hlen
theorem Zuy{P:List AVal}(hP:QOk k P){l:Zc}(hl:l.length<=1099511627775){n:Int}{ps:List Zp}{ts:List α}(h:ZbV one k l=.ok (n,ps,ts)) :
  E 107 [.ref 0 0,.fn f [.ref 1 0,.ref 2 0]] [.var (P++[.lst false (l.map Zb)]),.var [.ref 0 0],.var [.ref 0 0]]=some (.tup [],H3 (Zcg P n ps) kk ts.length [] (ts.map g)):=by
 unfold ZbV at h
 split at h
 ·cases h
 rename_i n' ps' r hm
 obtain⟨l1,l2⟩:=Zkr hm
 split at h
 ·cases h
 rename_i us hu
 injection h with h;injection h with e1 h;injection h with e2 e3;subst e1 e2 e3
 rw[Zx4 k f P hP l (by omega) hm]
 have hQ:=Zd7 hP n' ps'
 generalize Zcg P n' ps'=Q at *
 obtain⟨j,hj⟩:∃ j,r.length=j+1:=⟨r.length-1,by omega⟩
 cases ho:one r with
 |error e =>
  rw[hj]at hu
  simp only[Zba,hj,Xaf,XaA,and_false,if_false,ho]at hu
  cases hu
 |ok sr =>
  obtain⟨s,r'⟩:=sr
  have hr:=hlen ho
  rw[Zld hj ho hlen]at hu
  cases hl2:Zba one j r' with
  |error e=>rw[hl2]at hu;cases hu
  |ok vs =>
   rw[hl2]at hu
   injection hu with hu;subst hu
   rw[ZA6 hk hf hby hT0 hQ (by omega) l2 ho]
   exact(ZAE (g:=g) Q hQ.len hQ.nor hk hf hby hlen (hT1 Q hQ) (hF1 Q hQ) j r' [s] (by omega) (by simp;omega)).1 vs hl2
theorem Zry{P:List AVal}(hP:QOk k P){l:Zc}(hl:l.length<=1099511627775){e:Int}(h:ZbV one k l=.error e) :
  (∃ cs,Zf cs=true/\E 107 [.ref 0 0,.fn f [.ref 1 0,.ref 2 0]] [.var (P++[.lst false (l.map Zb)]),.var [.ref 0 0],.var [.ref 0 0]]=some (.pan (ZH e),[.var cs,.var [.ref 0 0],.var [.ref 0 0]])) \/
  (∃ (Q:List AVal) (xs:List α) (r:Zc),Q.length=26/\Zf Q=true/\E 107 [.ref 0 0,.fn f [.ref 1 0,.ref 2 0]] [.var (P++[.lst false (l.map Zb)]),.var [.ref 0 0],.var [.ref 0 0]]=some (.pan (ZH e),H3 Q kk xs.length r (xs.map g))):=by
 unfold ZbV at h
 split at h
 ·rename_i c hm
  injection h with h;subst h
  exact Xr (ZI0 k f P hP l (by omega) hm)
 rename_i n' ps' r hm
 obtain⟨l1,l2⟩:=Zkr hm
 rw[Zx4 k f P hP l (by omega) hm]
 have hQ:=Zd7 hP n' ps'
 generalize Zcg P n' ps'=Q at *
 obtain⟨j,hj⟩:∃ j,r.length=j+1:=⟨r.length-1,by omega⟩
 split at h
 case h_2=>cases h
 rename_i c hu
 injection h with h;subst h
 cases ho:one r with
 |error e =>
  have : e=c:=by
   rw[hj]at hu
   simp only[Zba,hj,Xaf,XaA,and_false,if_false,ho]at hu
   injection hu
  subst this
  obtain⟨r',hr'⟩:=ZO0 hk hf hby hF0 hQ (by omega) l2 ho
  exact Xr ⟨_,ZG Q hQ.len hQ.nor false (r'.map Zb),hr'⟩
 |ok sr =>
  obtain⟨s,r'⟩:=sr
  have hr:=hlen ho
  rw[Zld hj ho hlen]at hu
  cases hl2:Zba one j r' with
  |ok vs=>rw[hl2]at hu;cases hu
  |error e2 =>
   rw[hl2]at hu
   injection hu with hu;subst hu
   rw[ZA6 hk hf hby hT0 hQ (by omega) l2 ho]
   obtain⟨xs',r2,hx⟩:=(ZAE (g:=g) Q hQ.len hQ.nor hk hf hby hlen (hT1 Q hQ) (hF1 Q hQ) j r' [s] (by omega) (by simp;omega)).2 e2 hl2
   exact XE ⟨Q,xs',r2,hQ.len,hQ.nor,hx⟩
end
section
theorem Zy5{Q:List AVal}(hQ:QOk 8 Q){l r:Zc}{s:ZbP}(hl:l.length<=1099511627776)(hl0:l.length≠0)(ho:ZbN l=.ok (s,r)) :
  Zbl 1 tmS [.var (Q++[.lst false (l.map Zb)])]=Zbl 1 tmS (H1 Q 1 r [Zaa s]):=by
 obtain⟨hL,hN,-,-,h10,-⟩:=hQ
 have hk:(10:Nat)<26:=by omega
 have hE:=ZUs Q hL hN h10 l (by omega) ho
 unfold Zm at hE
 have z1:((l.length:Nat):Int)>0:=by omega
 have z2:(0:Int)<((l.length:Nat):Int):=by omega
 have b2:=ZaI _ hL
 have hC:=ZKa (O:=E) (bf:=BY) (f:=108) (cs:=Q++[.lst false (l.map Zb)]) (by kernel_rfl) (ZG Q hL hN false (l.map Zb)) (q:=.tup []) rfl (fun ρ h=>Zbc Q hL hN hk 1 0 1 1 0 r ρ h) hE
 have hG:=Zwj (f:=1000108) (w:=6) (xs:=[Zaa s]) (g:=0) (ZbO Q hL hN hk 1 0 1 r) (by omega) (fun ρ h=>Zbc Q hL hN hk 1 0 1 1 0 r ρ h)
 unfold H1 tmS
 conv=>lhs;unfold Zbl
 conv=>rhs;unfold Zbl
 conv=>lhs;rw[ZR]
 clear hE
 generalize Zq Q 10 1 0 1=Q2 at *
 generalize Zaa s=sv at *
 simp -implicitDefEqProofs only[EQA,ZM,Xe,WK,Xc,Xa,Xg,reduceCtorEq,↓reduceIte,Zd8,Zdt,Zd,b2,hC,hG,z1]
theorem ZOC{Q:List AVal}(hQ:QOk 8 Q){l:Zc}{e:Int}(hl:l.length<=1099511627776)(hl0:l.length≠0)(ho:ZbN l=.error e) :
  ∃ cs,Zf cs=true/\Zbl 1 tmS [.var (Q++[.lst false (l.map Zb)])]=some (.pan (ZH e),[.var cs]):=by
 obtain⟨hL,hN,-,-,h10,-⟩:=hQ
 obtain⟨cs,hc,hE⟩:=ZKN Q hL hN l (by omega) ho
 unfold Zm at hE
 have z1:((l.length:Nat):Int)>0:=by omega
 have z2:(0:Int)<((l.length:Nat):Int):=by omega
 have b2:=ZaI _ hL
 have hC:=ZXH (O:=E) (bf:=BY) (f:=108) (cs:=Q++[.lst false (l.map Zb)]) (by kernel_rfl) (ZG Q hL hN false (l.map Zb)) (q:=.pan (ZH e)) rfl hc hE
 have hO:=fun τ=>Z7 (r:=.pan (ZH e)) (σ:=τ) rfl hc
 refine⟨cs,hc,?_⟩
 unfold Zbl tmS
 rw[ZR]
 clear hE
 generalize ZH e=ce at *
 simp -implicitDefEqProofs only[EQA,Xe,WK,Xc,Xa,Xg,reduceCtorEq,↓reduceIte,Zd8,Zdt,Zd,b2,hC,z1]
 exact hO _
theorem ZE4{P:List AVal}(hP:QOk 8 P){l:Zc}(hl:l.length<=1099511627775){n:Int}{ps:List Zp}{ts:List ZbP}(h:ZbV ZbN 8 l=.ok (n,ps,ts)) :
  E 107 [.ref 0 0,.fn 1000108 [.ref 0 0]] [.var (P++[.lst false (l.map Zb)])]=some (.tup [],H1 (Zcg P n ps) ts.length [] (ts.map Zaa)):=by
 unfold ZbV at h
 split at h
 ·cases h
 rename_i n' ps' r hm
 obtain⟨l1,l2⟩:=Zkr hm
 split at h
 ·cases h
 rename_i us hu
 injection h with h;injection h with e1 h;injection h with e2 e3;subst e1 e2 e3
 rw[Zu1 8 1000108 P hP l (by omega) hm]
 have hQ:=Zd7 hP n' ps'
 generalize Zcg P n' ps'=Q at *
 obtain⟨j,hj⟩:∃ j,r.length=j+1:=⟨r.length-1,by omega⟩
 cases ho:ZbN r with
 |error e =>
  rw[hj]at hu
  simp only[Zba,hj,Xaf,XaA,and_false,if_false,ho]at hu
  cases hu
 |ok sr =>
  obtain⟨s,r'⟩:=sr
  have hr:=Zk1 ho
  rw[Zld hj ho Zk1]at hu
  cases hl2:Zba ZbN j r' with
  |error e=>rw[hl2]at hu;cases hu
  |ok vs =>
   rw[hl2]at hu
   injection hu with hu;subst hu
   show Zbl 1 tmS _=_
   rw[Zy5 hQ (by omega) l2 ho]
   exact(Zye Q hQ.len hQ.nor j r' [s] (by omega) (by simp;omega)).1 vs hl2
theorem ZOj{P:List AVal}(hP:QOk 8 P){l:Zc}(hl:l.length<=1099511627775){e:Int}(h:ZbV ZbN 8 l=.error e) :
  (∃ cs,Zf cs=true/\E 107 [.ref 0 0,.fn 1000108 [.ref 0 0]] [.var (P++[.lst false (l.map Zb)])]=some (.pan (ZH e),[.var cs])) \/
  (∃ (Q:List AVal) (xs:List ZbP) (r:Zc),Q.length=26/\Zf Q=true/\E 107 [.ref 0 0,.fn 1000108 [.ref 0 0]] [.var (P++[.lst false (l.map Zb)])]=some (.pan (ZH e),H1 Q xs.length r (xs.map Zaa))):=by
 unfold ZbV at h
 split at h
 ·rename_i c hm
  injection h with h;subst h
  exact Xr (ZS7 8 1000108 P hP l (by omega) hm)
 rename_i n' ps' r hm
 obtain⟨l1,l2⟩:=Zkr hm
 rw[Zu1 8 1000108 P hP l (by omega) hm]
 have hQ:=Zd7 hP n' ps'
 generalize Zcg P n' ps'=Q at *
 obtain⟨j,hj⟩:∃ j,r.length=j+1:=⟨r.length-1,by omega⟩
 split at h
 case h_2=>cases h
 rename_i c hu
 injection h with h;subst h
 show(∃ cs,Zf cs=true/\Zbl 1 tmS _=_)\/(∃ (Q:List AVal) (xs:List ZbP) (r:Zc),Q.length=26/\Zf Q=true/\Zbl 1 tmS _=_)
 cases ho:ZbN r with
 |error e =>
  have : e=c:=by
   rw[hj]at hu
   simp only[Zba,hj,Xaf,XaA,and_false,if_false,ho]at hu
   injection hu
  subst this
  exact Xr (ZOC hQ (by omega) l2 ho)
 |ok sr =>
  obtain⟨s,r'⟩:=sr
  have hr:=Zk1 ho
  rw[Zld hj ho Zk1]at hu
  cases hl2:Zba ZbN j r' with
  |ok vs=>rw[hl2]at hu;cases hu
  |error e2 =>
   rw[hl2]at hu
   injection hu with hu;subst hu
   rw[Zy5 hQ (by omega) l2 ho]
   obtain⟨xs',r2,hx⟩:=(Zye Q hQ.len hQ.nor j r' [s] (by omega) (by simp;omega)).2 e2 hl2
   exact XE ⟨Q,xs',r2,hQ.len,hQ.nor,hx⟩
end
end
section
section
variable {O:ZV}{bf:Nat->Bool}{fm f w:Nat}{cs cs2 cs3 ys:List AVal}{x:AVal}{σ:Za}
theorem Zuw(h0:σ[0]?=some (.var cs))(h1:σ[1]?=some (.var [.ref 0 0]))(h2:σ[2]?=some (.var [.ref 0 0]))(hc:Zt cs=[]):Zs σ 1000 [0,2,1] []=[0,2,1]:=by
 have d0:σ.getD 0 .free=.var cs:=by simp[Xh,h0]
 have d1:σ.getD 1 .free=.var [.ref 0 0]:=by simp[Xh,h1]
 have d2:σ.getD 2 .free=.var [.ref 0 0]:=by simp[Xh,h2]
 rw[show(1000:Nat)=994+1+1+1+1+1+1 from rfl]
 simp only[Zs,d0,d1,d2,Zx,Zt,ZT,hc,WI,W4,Xo,XA,XV,XaW,Xj,if_false]
 simp
theorem ZtB(h0:σ[0]?=some (.var cs))(hc:Zt cs=[]):Zs σ 1000 [0,0] []=[0]:=by
 have d0:σ.getD 0 .free=.var cs:=by simp[Xh,h0]
 rw[show(1000:Nat)=996+1+1+1+1 from rfl]
 simp only[Zs,d0,Zx,hc,WI,W4,Xo,XA,XV,XaW,Xj,if_false]
 simp
def hB(cs:List AVal)(b:ZO):Za:=[.var cs,.var [.ref 0 0],.var [.ref 0 0],b]
theorem ZtA(hb:bf fm=false)(hc:Zf cs=true)(hrf:Zt cs2=[3])(hren:∀ ρ:Rho,ρ 3 0=some (3,0)->Zh ρ cs2=cs2)
  (hO:O fm [.ref 0 0,.fn f [.ref 1 0,.ref 2 0]] [.var cs,.var [.ref 0 0],.var [.ref 0 0]]=some (.tup [],[.var cs2,.var [.ref 0 0],.var [.ref 0 0],.row 0 w ys])) :
  Zj O bf (hB cs .free) 3 fm 1 true [.ref 0 0,.fn f [.ref 2 0,.ref 1 0]]=some (.tup [],hB cs2 (.row 0 w ys),{ any:=true,upd:=[(0,cs2),(2,[.ref 0 0]),(1,[.ref 0 0])] }):=by
 have hv:Z3 true 3 (some (.tup [],[.var cs2,.var [.ref 0 0],.var [.ref 0 0],.row 0 w ys]))=some (.tup [],[.var cs2,.var [.ref 0 0],.var [.ref 0 0],.row 0 w ys]):=Zmb (r:=.tup []) rfl hrf hren []
 have ec:=fun ρ=>ZaV ρ cs hc
 unfold hB
 refine ZdG (ids:=[0,2,1]) (vs:=[.ref 0 0,.fn f [.ref 2 0,.ref 1 0]]) hb rfl (Zuw rfl rfl rfl (ec (fun _ _=>none)).2) rfl rfl rfl ?_ hO hv (by simp) (by simp) rfl rfl rfl ?_ rfl
 ·show [ZO.var (Zh _ cs),.var (Zh _ [.ref 0 0]),.var (Zh _ [.ref 0 0])]=_
  rw[(ec _).1];rfl
 ·have hb3:=hren (ZaJ [.var cs,.var [.ref 0 0],.var [.ref 0 0],.free] [0,2,1] 3) rfl
  show [ZO.var (Zh _ cs2),.var (Zh _ [.ref 0 0]),.var (Zh _ [.ref 0 0]),.row 0 w ys]=_
  rw[hb3];rfl
theorem Ztb(hb:bf fm=false)(hc:Zf cs=true)(hc2:Zf cs2=true)(hx:ZS x=true)
  (hO:O fm [.ref 0 0,.fn f [.ref 1 0,.ref 2 0]] [.var cs,.var [.ref 0 0],.var [.ref 0 0]]=some (.pan x,[.var cs2,.var [.ref 0 0],.var [.ref 0 0]])) :
  Zj O bf (hB cs .free) 3 fm 1 true [.ref 0 0,.fn f [.ref 2 0,.ref 1 0]]=some (.pan x,hB cs2 .free,{ any:=true,upd:=[(0,cs2),(2,[.ref 0 0]),(1,[.ref 0 0])] }):=by
 have ec:=fun ρ=>ZaV ρ cs hc
 have hnp:ZS (.pan x)=true:=by simpa only[ZS]using hx
 unfold hB
 refine ZdG (ids:=[0,2,1]) (vs:=[.ref 0 0,.fn f [.ref 2 0,.ref 1 0]]) hb rfl (Zuw rfl rfl rfl (ec (fun _ _=>none)).2) rfl rfl rfl ?_ hO rfl (by simp) (by simp) rfl rfl (Zbm _ _ hnp).1 ?_ rfl
 ·show [ZO.var (Zh _ cs),.var (Zh _ [.ref 0 0]),.var (Zh _ [.ref 0 0])]=_
  rw[(ec _).1];rfl
 ·show [ZO.var (Zh _ cs2),.var (Zh _ [.ref 0 0]),.var (Zh _ [.ref 0 0]),.free]=_
  rw[(ZaV _ cs2 hc2).1];rfl
theorem ZoS(hb:bf fm=false)(hc:Zf cs=true)(hren:∀ ρ:Rho,ρ 3 0=some (3,0)->Zh ρ cs2=cs2)(hx:ZS x=true)
  (hO:O fm [.ref 0 0,.fn f [.ref 1 0,.ref 2 0]] [.var cs,.var [.ref 0 0],.var [.ref 0 0]]=some (.pan x,[.var cs2,.var [.ref 0 0],.var [.ref 0 0],.row 0 w ys])) :
  Zj O bf (hB cs .free) 3 fm 1 true [.ref 0 0,.fn f [.ref 2 0,.ref 1 0]]=some (.pan x,hB cs2 (.row 0 w ys),{ any:=true,upd:=[(0,cs2),(2,[.ref 0 0]),(1,[.ref 0 0])] }):=by
 have ec:=fun ρ=>ZaV ρ cs hc
 have hnp:ZS (.pan x)=true:=by simpa only[ZS]using hx
 unfold hB
 refine ZdG (ids:=[0,2,1]) (vs:=[.ref 0 0,.fn f [.ref 2 0,.ref 1 0]]) hb rfl (Zuw rfl rfl rfl (ec (fun _ _=>none)).2) rfl rfl rfl ?_ hO rfl (by simp) (by simp) rfl rfl (Zbm _ _ hnp).1 ?_ rfl
 ·show [ZO.var (Zh _ cs),.var (Zh _ [.ref 0 0]),.var (Zh _ [.ref 0 0])]=_
  rw[(ec _).1];rfl
 ·have hb3:=hren (ZaJ [.var cs,.var [.ref 0 0],.var [.ref 0 0],.free] [0,2,1] 3) rfl
  show [ZO.var (Zh _ cs2),.var (Zh _ [.ref 0 0]),.var (Zh _ [.ref 0 0]),.row 0 w ys]=_
  rw[hb3];rfl
theorem ZPU(hb:bf fm=false)(hc:Zf cs=true)(hrf:Zt cs2=[1])(hren:∀ ρ:Rho,ρ 1 0=some (1,0)->Zh ρ cs2=cs2)(hback:∀ ρ:Rho,ρ 1 0=some (3,0)->Zh ρ cs2=cs3)
  (hO:O fm [.ref 0 0,.fn f [.ref 0 0]] [.var cs]=some (.tup [],[.var cs2,.row 0 w ys])) :
  Zj O bf (hB cs .free) 3 fm 1 true [.ref 0 0,.fn f [.ref 0 0]]=some (.tup [],hB cs3 (.row 0 w ys),{ any:=true,upd:=[(0,cs3)] }):=by
 have hv:Z3 true 1 (some (.tup [],[.var cs2,.row 0 w ys]))=some (.tup [],[.var cs2,.row 0 w ys]):=Zdv (j:=1) (σ:=[.var cs2,.row 0 w ys]) (r:=.tup []) rfl (by omega) rfl rfl hrf hren
 have ec:=fun ρ=>ZaV ρ cs hc
 unfold hB
 refine ZdG (ids:=[0]) (vs:=[.ref 0 0,.fn f [.ref 0 0]]) hb rfl (ZtB rfl (ec (fun _ _=>none)).2) rfl rfl rfl ?_ hO hv (by simp) (by simp) rfl rfl rfl ?_ rfl
 ·show [ZO.var (Zh _ cs)]=_
  rw[(ec _).1]
 ·have hb3:=hback (ZaJ [.var cs,.var [.ref 0 0],.var [.ref 0 0],.free] [0] 3) rfl
  show [ZO.var (Zh _ cs2),.var [.ref 0 0],.var [.ref 0 0],.row 0 w ys]=_
  rw[hb3]
theorem ZKo(hb:bf fm=false)(hc:Zf cs=true)(hc2:Zf cs2=true)(hx:ZS x=true)
  (hO:O fm [.ref 0 0,.fn f [.ref 0 0]] [.var cs]=some (.pan x,[.var cs2])) :
  Zj O bf (hB cs .free) 3 fm 1 true [.ref 0 0,.fn f [.ref 0 0]]=some (.pan x,hB cs2 .free,{ any:=true,upd:=[(0,cs2)] }):=by
 have ec:=fun ρ=>ZaV ρ cs hc
 have hnp:ZS (.pan x)=true:=by simpa only[ZS]using hx
 unfold hB
 refine ZdG (ids:=[0]) (vs:=[.ref 0 0,.fn f [.ref 0 0]]) hb rfl (ZtB rfl (ec (fun _ _=>none)).2) rfl rfl rfl ?_ hO rfl (by simp) (by simp) rfl rfl (Zbm _ _ hnp).1 ?_ rfl
 ·show [ZO.var (Zh _ cs)]=_
  rw[(ec _).1]
 ·show [ZO.var (Zh _ cs2),.var [.ref 0 0],.var [.ref 0 0],.free]=_
  rw[(ZaV _ cs2 hc2).1]
theorem ZIn(hb:bf fm=false)(hc:Zf cs=true)(hback:∀ ρ:Rho,ρ 1 0=some (3,0)->Zh ρ cs2=cs3)(hx:ZS x=true)
  (hO:O fm [.ref 0 0,.fn f [.ref 0 0]] [.var cs]=some (.pan x,[.var cs2,.row 0 w ys])) :
  Zj O bf (hB cs .free) 3 fm 1 true [.ref 0 0,.fn f [.ref 0 0]]=some (.pan x,hB cs3 (.row 0 w ys),{ any:=true,upd:=[(0,cs3)] }):=by
 have ec:=fun ρ=>ZaV ρ cs hc
 have hnp:ZS (.pan x)=true:=by simpa only[ZS]using hx
 unfold hB
 refine ZdG (ids:=[0]) (vs:=[.ref 0 0,.fn f [.ref 0 0]]) hb rfl (ZtB rfl (ec (fun _ _=>none)).2) rfl rfl rfl ?_ hO rfl (by simp) (by simp) rfl rfl (Zbm _ _ hnp).1 ?_ rfl
 ·show [ZO.var (Zh _ cs)]=_
  rw[(ec _).1]
 ·have hb3:=hback (ZaJ [.var cs,.var [.ref 0 0],.var [.ref 0 0],.free] [0] 3) rfl
  show [ZO.var (Zh _ cs2),.var [.ref 0 0],.var [.ref 0 0],.row 0 w ys]=_
  rw[hb3]
end
def ZcG(Q:List AVal)(kk n:Nat)(l:Zc)(w:Nat)(ys:List AVal):Za:=[.var (Zq Q kk 1 0 n++[.lst false (l.map Zb)]),.row 0 w ys]
def ZjP(kk w:Nat)(l:Zc)(P:List AVal)(e:Int):Prop :=
 (∃ cs,Zf cs=true/\E 78 [.ref 0 0] (Zm P l)=some (.pan (ZH e),[.var cs])) \/
 (∃ (Q:List AVal) (n:Nat) (r:Zc) (ys:List AVal),Q.length=26/\Zf Q=true/\E 78 [.ref 0 0] (Zm P l)=some (.pan (ZH e),ZcG Q kk n r w ys))
theorem ZLX(xs:List Zc):kOk 1 (xs.map AVal.str)=true:=by cases xs<;>rfl
theorem ZTZ(xs:List Int):kOk 1 (xs.map (AVal.int .i64))=true:=by cases xs<;>rfl
theorem fT0{k:Int}(Q:List AVal)(h:QOk k Q)(l s r:Zc)(hl:l.length<=1099511627776)(ho:ZaD l=.ok (s,r)):E 109 [.ref 0 0,.ref 2 0] [.var [.ref 1 0],.var (Q++[.lst false (l.map Zb)]),.var [.ref 1 0]]=some (.tup [],[.var [.ref 1 0],.var (Zq Q 11 3 0 1++[.lst false (r.map Zb)]),.var [.ref 1 0],.row 0 1 [AVal.str s]]) :=
 ZCY Q h.len h.nor l (by omega) h.c11 ho
theorem fF0{k:Int}(Q:List AVal)(h:QOk k Q)(l:Zc)(e:Int)(hl:l.length<=1099511627776)(ho:ZaD l=.error e):∃ r:Zc,E 109 [.ref 0 0,.ref 2 0] [.var [.ref 1 0],.var (Q++[.lst false (l.map Zb)]),.var [.ref 1 0]]=some (.pan (ZH e),[.var [.ref 1 0],.var (Q++[.lst false (r.map Zb)]),.var [.ref 1 0]]) :=
 ⟨l,ZCd Q h.len h.nor l (by omega) ho h.c11⟩
theorem fT1{k:Int}(Q:List AVal)(h:QOk k Q)(xs:List Zc)(l s r:Zc)(hl:l.length<=1099511627776)(hx:xs.length<=1099511627776)(ho:ZaD l=.ok (s,r)):E 109 [.ref 0 0,.ref 3 0] [.var [.ref 1 0],.var (Zq Q 11 2 0 xs.length++[.lst false (l.map Zb)]),.row 0 1 (xs.map AVal.str),.var [.ref 1 0]]=some (.tup [],[.var [.ref 1 0],.var (Zq Q 11 2 1 (xs.length+1)++[.lst false (r.map Zb)]),.row 1 1 ((xs++[s]).map AVal.str),.var [.ref 1 0]]):=by
 have:=ZUd Q h.len h.nor l (by omega) (xs.map AVal.str) (by simp;omega) (ZLX xs) ho
 rw[XD]at this
 rw[X4]
 exact this
theorem fF1{k:Int}(Q:List AVal)(h:QOk k Q)(xs:List Zc)(l:Zc)(e:Int)(hl:l.length<=1099511627776)(ho:ZaD l=.error e):∃ r:Zc,E 109 [.ref 0 0,.ref 3 0] [.var [.ref 1 0],.var (Zq Q 11 2 0 xs.length++[.lst false (l.map Zb)]),.row 0 1 (xs.map AVal.str),.var [.ref 1 0]]=some (.pan (ZH e),[.var [.ref 1 0],.var (Zq Q 11 2 0 xs.length++[.lst false (r.map Zb)]),.row 0 1 (xs.map AVal.str),.var [.ref 1 0]]):=by
 have:=ZWx Q h.len h.nor l (by omega) (xs.map AVal.str) ho
 rw[XD]at this
 exact⟨l,this⟩
theorem cT0{k:Int}(Q:List AVal)(h:QOk k Q)(l:Zc)(s:Int)(r:Zc)(hl:l.length<=1099511627776)(ho:ZaY k l=.ok (s,r)):E 111 [.ref 0 0,.ref 2 0] [.var [.ref 1 0],.var (Q++[.lst false (l.map Zb)]),.var [.ref 1 0]]=some (.tup [],[.var [.ref 1 0],.var (Zq Q 8 3 0 1++[.lst false (r.map Zb)]),.var [.ref 1 0],.row 0 1 [AVal.int .i64 s]]) :=
 ZCu Q h.len h.nor l (by omega) h.c8 k h.ty ho
theorem cF0{k:Int}(Q:List AVal)(h:QOk k Q)(l:Zc)(e:Int)(hl:l.length<=1099511627776)(ho:ZaY k l=.error e):∃ r:Zc,E 111 [.ref 0 0,.ref 2 0] [.var [.ref 1 0],.var (Q++[.lst false (l.map Zb)]),.var [.ref 1 0]]=some (.pan (ZH e),[.var [.ref 1 0],.var (Q++[.lst false (r.map Zb)]),.var [.ref 1 0]]) :=
 ZJ0 Q h.len h.nor l (by omega) h.c8 k h.ty ho
theorem cT1{k:Int}(Q:List AVal)(h:QOk k Q)(xs:List Int)(l:Zc)(s:Int)(r:Zc)(hl:l.length<=1099511627776)(hx:xs.length<=1099511627776)(ho:ZaY k l=.ok (s,r)):E 111 [.ref 0 0,.ref 3 0] [.var [.ref 1 0],.var (Zq Q 8 2 0 xs.length++[.lst false (l.map Zb)]),.row 0 1 (xs.map (AVal.int .i64)),.var [.ref 1 0]]=some (.tup [],[.var [.ref 1 0],.var (Zq Q 8 2 1 (xs.length+1)++[.lst false (r.map Zb)]),.row 1 1 ((xs++[s]).map (AVal.int .i64)),.var [.ref 1 0]]):=by
 have:=ZT0 Q h.len h.nor l (by omega) (xs.map (AVal.int .i64)) (by simp;omega) (ZTZ xs) k h.ty ho
 rw[XD]at this
 rw[X4]
 exact this
theorem cF1{k:Int}(Q:List AVal)(h:QOk k Q)(xs:List Int)(l:Zc)(e:Int)(hl:l.length<=1099511627776)(ho:ZaY k l=.error e):∃ r:Zc,E 111 [.ref 0 0,.ref 3 0] [.var [.ref 1 0],.var (Zq Q 8 2 0 xs.length++[.lst false (l.map Zb)]),.row 0 1 (xs.map (AVal.int .i64)),.var [.ref 1 0]]=some (.pan (ZH e),[.var [.ref 1 0],.var (Zq Q 8 2 0 xs.length++[.lst false (r.map Zb)]),.row 0 1 (xs.map (AVal.int .i64)),.var [.ref 1 0]]):=by
 have:=ZE3 Q h.len h.nor l (by omega) (xs.map (AVal.int .i64)) k h.ty ho
 rw[XD]at this
 exact this
section
variable (P:List AVal)(l:Zc)(hl:l.length<=1099511627775)
include hl
theorem ZPF(hP:QOk 10 P){n:Int}{ps:List Zp}{ts:List Zc}(h:ZbV ZaD 10 l=.ok (n,ps,ts)) :
  E 78 [.ref 0 0] (Zm P l)=some (.tup [],ZcG (Zcg P n ps) 11 ts.length [] 1 (ts.map AVal.str)):=by
 have hk:(11:Nat)<26:=by omega
 have hE:=Zuy (g:=AVal.str) (kk:=11) (f:=109) (by omega) (by decide) (by kernel_rfl) ZuN fT0 fF0 fT1 fF1 hP hl h
 have hQ:=Zd7 hP n ps
 obtain⟨hL,hN,h0,-,-,-⟩:=hP
 unfold H3 at hE
 generalize Zcg P n ps=Q at *
 have hC:=ZtA (O:=E) (bf:=BY) (fm:=107) (by kernel_rfl) (ZG P hL hN false (l.map Zb)) (ZbO Q hQ.len hQ.nor hk 3 0 ts.length []) (fun ρ h=>Zbc Q hQ.len hQ.nor hk 3 0 ts.length 3 0 [] ρ h) hE
 have a4:=fun L=>(Zam P hL 0 (by omega) L).trans h0
 have hR:=Zcj Q hQ.len hQ.nor 11 hk ts.length 3 0
 have b2:=ZaI _ hR
 have m1:=Zbw
 have z:=z0b
 have hO:=fun τ=>Zdv (j:=3) (w:=1) (xs:=ts.map AVal.str) (r:=.tup []) (σ:=.var (Zq Q 11 3 0 ts.length++[.lst false []])::.var [.ref 0 0]::.var [.ref 0 0]::.row 0 1 (ts.map AVal.str)::τ) rfl (by omega) rfl rfl (ZbO Q hQ.len hQ.nor hk 3 0 ts.length []) (fun ρ h=>Zbc Q hQ.len hQ.nor hk 3 0 ts.length 1 0 [] ρ h)
 unfold hB at hC
 simp only[Xt]at hC
 unfold Zm ZcG
 clear hE h
 generalize Zq Q 11 3 0 ts.length=R at *
 generalize Zq Q 11 1 0 ts.length=R1 at *
 generalize ts.map AVal.str=ys at *
 rw[Zi (by rfl) Zby]
 simp -implicitDefEqProofs only[EQA,Zz,Zv,Xe,Xc,Xf,Xa,Xg,↓reduceIte,Zf,Zbz,Zbs,Zfz,Zd,a4,b2,hC,m1,Xs,z]
 exact hO _
theorem ZMO(hP:QOk 10 P){e:Int}(h:ZbV ZaD 10 l=.error e):ZjP 11 1 l P e:=by
 have hk:(11:Nat)<26:=by omega
 have hF:=Zry (g:=AVal.str) (kk:=11) (f:=109) (by omega) (by decide) (by kernel_rfl) ZuN fT0 fF0 fT1 fF1 hP hl h
 obtain⟨hL,hN,h0,-,-,-⟩:=hP
 have a4:=fun L=>(Zam P hL 0 (by omega) L).trans h0
 rcases hF with⟨cs,hc,hE⟩ |⟨Q,xs,r,hQ,hQN,hE⟩
 ·have hC:=Ztb (O:=E) (bf:=BY) (fm:=107) (by kernel_rfl) (ZG P hL hN false (l.map Zb)) hc rfl hE
  refine Xr ⟨cs,hc,?_⟩
  unfold hB at hC
  unfold Zm
  clear hE h
  rw[Zi (by rfl) Zby]
  simp -implicitDefEqProofs only[EQA,Zz,Xe,Xc,Xf,Xa,Xg,↓reduceIte,Zbz,Zbs,Zd,a4,hC,Xs]
  exact Z7 rfl hc
 ·unfold H3 at hE
  have hC:=ZoS (O:=E) (bf:=BY) (fm:=107) (by kernel_rfl) (ZG P hL hN false (l.map Zb)) (fun ρ h=>Zbc Q hQ hQN hk 3 0 xs.length 3 0 r ρ h) rfl hE
  have hO:=fun τ=>Zdv (j:=3) (w:=1) (xs:=xs.map AVal.str) (r:=.pan (ZH e)) (σ:=.var (Zq Q 11 3 0 xs.length++[.lst false (r.map Zb)])::.var [.ref 0 0]::.var [.ref 0 0]::.row 0 1 (xs.map AVal.str)::τ) rfl (by omega) rfl rfl (ZbO Q hQ hQN hk 3 0 xs.length r) (fun ρ h=>Zbc Q hQ hQN hk 3 0 xs.length 1 0 r ρ h)
  refine XE ⟨Q,xs.length,r,xs.map AVal.str,hQ,hQN,?_⟩
  unfold hB at hC
  unfold Zm ZcG
  clear hE h
  generalize Zq Q 11 3 0 xs.length=R at *
  generalize Zq Q 11 1 0 xs.length=R1 at *
  generalize xs.map AVal.str=ys at *
  generalize ZH e=ce at *
  rw[Zi (by rfl) Zby]
  simp -implicitDefEqProofs only[EQA,Zz,Xe,Xc,Xf,Xa,Xg,↓reduceIte,Zbz,Zbs,Zd,a4,hC,Xs]
  exact hO _
theorem ZQC(hP:QOk 9 P){n:Int}{ps:List Zp}{ts:List Int}(h:ZbV (ZaY 9) 9 l=.ok (n,ps,ts)) :
  E 78 [.ref 0 0] (Zm P l)=some (.tup [],ZcG (Zcg P n ps) 8 ts.length [] 1 (ts.map (AVal.int .i64))):=by
 have hk:(8:Nat)<26:=by omega
 have hE:=Zuy (g:=(AVal.int .i64)) (kk:=8) (f:=111) (by omega) (by decide) (by kernel_rfl) Zm8 cT0 cF0 cT1 cF1 hP hl h
 have hQ:=Zd7 hP n ps
 obtain⟨hL,hN,h0,-,-,-⟩:=hP
 unfold H3 at hE
 generalize Zcg P n ps=Q at *
 have hC:=ZtA (O:=E) (bf:=BY) (fm:=107) (by kernel_rfl) (ZG P hL hN false (l.map Zb)) (ZbO Q hQ.len hQ.nor hk 3 0 ts.length []) (fun ρ h=>Zbc Q hQ.len hQ.nor hk 3 0 ts.length 3 0 [] ρ h) hE
 have a4:=fun L=>(Zam P hL 0 (by omega) L).trans h0
 have hR:=Zcj Q hQ.len hQ.nor 8 hk ts.length 3 0
 have b2:=ZaI _ hR
 have m1:=Zbw
 have z:=z0b
 have hO:=fun τ=>Zdv (j:=3) (w:=1) (xs:=ts.map (AVal.int .i64)) (r:=.tup []) (σ:=.var (Zq Q 8 3 0 ts.length++[.lst false []])::.var [.ref 0 0]::.var [.ref 0 0]::.row 0 1 (ts.map (AVal.int .i64))::τ) rfl (by omega) rfl rfl (ZbO Q hQ.len hQ.nor hk 3 0 ts.length []) (fun ρ h=>Zbc Q hQ.len hQ.nor hk 3 0 ts.length 1 0 [] ρ h)
 unfold hB at hC
 simp only[Xt]at hC
 unfold Zm ZcG
 clear hE h
 generalize Zq Q 8 3 0 ts.length=R at *
 generalize Zq Q 8 1 0 ts.length=R1 at *
 generalize ts.map (AVal.int .i64)=ys at *
 rw[Zi (by rfl) Zby]
 simp -implicitDefEqProofs only[EQA,Zz,Zv,Xe,Xc,Xf,Xa,Xg,↓reduceIte,Zf,Zbz,Zbs,Zfz,Zd,a4,b2,hC,m1,Xs,z]
 exact hO _
theorem ZOJ(hP:QOk 9 P){e:Int}(h:ZbV (ZaY 9) 9 l=.error e):ZjP 8 1 l P e:=by
 have hk:(8:Nat)<26:=by omega
 have hF:=Zry (g:=(AVal.int .i64)) (kk:=8) (f:=111) (by omega) (by decide) (by kernel_rfl) Zm8 cT0 cF0 cT1 cF1 hP hl h
 obtain⟨hL,hN,h0,-,-,-⟩:=hP
 have a4:=fun L=>(Zam P hL 0 (by omega) L).trans h0
 rcases hF with⟨cs,hc,hE⟩ |⟨Q,xs,r,hQ,hQN,hE⟩
 ·have hC:=Ztb (O:=E) (bf:=BY) (fm:=107) (by kernel_rfl) (ZG P hL hN false (l.map Zb)) hc rfl hE
  refine Xr ⟨cs,hc,?_⟩
  unfold hB at hC
  unfold Zm
  clear hE h
  rw[Zi (by rfl) Zby]
  simp -implicitDefEqProofs only[EQA,Zz,Xe,Xc,Xf,Xa,Xg,↓reduceIte,Zbz,Zbs,Zd,a4,hC,Xs]
  exact Z7 rfl hc
 ·unfold H3 at hE
  have hC:=ZoS (O:=E) (bf:=BY) (fm:=107) (by kernel_rfl) (ZG P hL hN false (l.map Zb)) (fun ρ h=>Zbc Q hQ hQN hk 3 0 xs.length 3 0 r ρ h) rfl hE
  have hO:=fun τ=>Zdv (j:=3) (w:=1) (xs:=xs.map (AVal.int .i64)) (r:=.pan (ZH e)) (σ:=.var (Zq Q 8 3 0 xs.length++[.lst false (r.map Zb)])::.var [.ref 0 0]::.var [.ref 0 0]::.row 0 1 (xs.map (AVal.int .i64))::τ) rfl (by omega) rfl rfl (ZbO Q hQ hQN hk 3 0 xs.length r) (fun ρ h=>Zbc Q hQ hQN hk 3 0 xs.length 1 0 r ρ h)
  refine XE ⟨Q,xs.length,r,xs.map (AVal.int .i64),hQ,hQN,?_⟩
  unfold hB at hC
  unfold Zm ZcG
  clear hE h
  generalize Zq Q 8 3 0 xs.length=R at *
  generalize Zq Q 8 1 0 xs.length=R1 at *
  generalize xs.map (AVal.int .i64)=ys at *
  generalize ZH e=ce at *
  rw[Zi (by rfl) Zby]
  simp -implicitDefEqProofs only[EQA,Zz,Xe,Xc,Xf,Xa,Xg,↓reduceIte,Zbz,Zbs,Zd,a4,hC,Xs]
  exact hO _
theorem ZVx(hP:QOk 11 P){n:Int}{ps:List Zp}{ts:List Int}(h:ZbV (ZaY 11) 11 l=.ok (n,ps,ts)) :
  E 78 [.ref 0 0] (Zm P l)=some (.tup [],ZcG (Zcg P n ps) 8 ts.length [] 1 (ts.map (AVal.int .i64))):=by
 have hk:(8:Nat)<26:=by omega
 have hE:=Zuy (g:=(AVal.int .i64)) (kk:=8) (f:=111) (by omega) (by decide) (by kernel_rfl) Zm8 cT0 cF0 cT1 cF1 hP hl h
 have hQ:=Zd7 hP n ps
 obtain⟨hL,hN,h0,-,-,-⟩:=hP
 unfold H3 at hE
 generalize Zcg P n ps=Q at *
 have hC:=ZtA (O:=E) (bf:=BY) (fm:=107) (by kernel_rfl) (ZG P hL hN false (l.map Zb)) (ZbO Q hQ.len hQ.nor hk 3 0 ts.length []) (fun ρ h=>Zbc Q hQ.len hQ.nor hk 3 0 ts.length 3 0 [] ρ h) hE
 have a4:=fun L=>(Zam P hL 0 (by omega) L).trans h0
 have hR:=Zcj Q hQ.len hQ.nor 8 hk ts.length 3 0
 have b2:=ZaI _ hR
 have m1:=Zbw
 have z:=z0b
 have hO:=fun τ=>Zdv (j:=3) (w:=1) (xs:=ts.map (AVal.int .i64)) (r:=.tup []) (σ:=.var (Zq Q 8 3 0 ts.length++[.lst false []])::.var [.ref 0 0]::.var [.ref 0 0]::.row 0 1 (ts.map (AVal.int .i64))::τ) rfl (by omega) rfl rfl (ZbO Q hQ.len hQ.nor hk 3 0 ts.length []) (fun ρ h=>Zbc Q hQ.len hQ.nor hk 3 0 ts.length 1 0 [] ρ h)
 unfold hB at hC
 simp only[Xt]at hC
 unfold Zm ZcG
 clear hE h
 generalize Zq Q 8 3 0 ts.length=R at *
 generalize Zq Q 8 1 0 ts.length=R1 at *
 generalize ts.map (AVal.int .i64)=ys at *
 rw[Zi (by rfl) Zby]
 simp -implicitDefEqProofs only[EQA,Zz,Zv,Xe,Xc,Xf,Xa,Xg,↓reduceIte,Zf,Zbz,Zbs,Zfz,Zd,a4,b2,hC,m1,Xs,z]
 exact hO _
theorem ZPx(hP:QOk 11 P){e:Int}(h:ZbV (ZaY 11) 11 l=.error e):ZjP 8 1 l P e:=by
 have hk:(8:Nat)<26:=by omega
 have hF:=Zry (g:=(AVal.int .i64)) (kk:=8) (f:=111) (by omega) (by decide) (by kernel_rfl) Zm8 cT0 cF0 cT1 cF1 hP hl h
 obtain⟨hL,hN,h0,-,-,-⟩:=hP
 have a4:=fun L=>(Zam P hL 0 (by omega) L).trans h0
 rcases hF with⟨cs,hc,hE⟩ |⟨Q,xs,r,hQ,hQN,hE⟩
 ·have hC:=Ztb (O:=E) (bf:=BY) (fm:=107) (by kernel_rfl) (ZG P hL hN false (l.map Zb)) hc rfl hE
  refine Xr ⟨cs,hc,?_⟩
  unfold hB at hC
  unfold Zm
  clear hE h
  rw[Zi (by rfl) Zby]
  simp -implicitDefEqProofs only[EQA,Zz,Xe,Xc,Xf,Xa,Xg,↓reduceIte,Zbz,Zbs,Zd,a4,hC,Xs]
  exact Z7 rfl hc
 ·unfold H3 at hE
  have hC:=ZoS (O:=E) (bf:=BY) (fm:=107) (by kernel_rfl) (ZG P hL hN false (l.map Zb)) (fun ρ h=>Zbc Q hQ hQN hk 3 0 xs.length 3 0 r ρ h) rfl hE
  have hO:=fun τ=>Zdv (j:=3) (w:=1) (xs:=xs.map (AVal.int .i64)) (r:=.pan (ZH e)) (σ:=.var (Zq Q 8 3 0 xs.length++[.lst false (r.map Zb)])::.var [.ref 0 0]::.var [.ref 0 0]::.row 0 1 (xs.map (AVal.int .i64))::τ) rfl (by omega) rfl rfl (ZbO Q hQ hQN hk 3 0 xs.length r) (fun ρ h=>Zbc Q hQ hQN hk 3 0 xs.length 1 0 r ρ h)
  refine XE ⟨Q,xs.length,r,xs.map (AVal.int .i64),hQ,hQN,?_⟩
  unfold hB at hC
  unfold Zm ZcG
  clear hE h
  generalize Zq Q 8 3 0 xs.length=R at *
  generalize Zq Q 8 1 0 xs.length=R1 at *
  generalize xs.map (AVal.int .i64)=ys at *
  generalize ZH e=ce at *
  rw[Zi (by rfl) Zby]
  simp -implicitDefEqProofs only[EQA,Zz,Xe,Xc,Xf,Xa,Xg,↓reduceIte,Zbz,Zbs,Zd,a4,hC,Xs]
  exact hO _
theorem ZSH(hP:QOk 8 P){n:Int}{ps:List Zp}{ts:List ZbP}(h:ZbV ZbN 8 l=.ok (n,ps,ts)) :
  E 78 [.ref 0 0] (Zm P l)=some (.tup [],ZcG (Zcg P n ps) 10 ts.length [] 6 (ts.map Zaa)):=by
 have hk:(10:Nat)<26:=by omega
 have hE:=ZE4 hP hl h
 have hQ:=Zd7 hP n ps
 obtain⟨hL,hN,h0,-,-,-⟩:=hP
 unfold H1 at hE
 generalize Zcg P n ps=Q at *
 have hC:=ZPU (O:=E) (bf:=BY) (fm:=107) (by kernel_rfl) (ZG P hL hN false (l.map Zb)) (ZbO Q hQ.len hQ.nor hk 1 0 ts.length []) (fun ρ h=>Zbc Q hQ.len hQ.nor hk 1 0 ts.length 1 0 [] ρ h) (fun ρ h=>Zbc Q hQ.len hQ.nor hk 1 0 ts.length 3 0 [] ρ h) hE
 have a4:=fun L=>(Zam P hL 0 (by omega) L).trans h0
 have hR:=Zcj Q hQ.len hQ.nor 10 hk ts.length 3 0
 have b2:=ZaI _ hR
 have m1:=Zbw
 have z:=z0b
 have hO:=fun τ=>Zdv (j:=3) (w:=6) (xs:=ts.map Zaa) (r:=.tup []) (σ:=.var (Zq Q 10 3 0 ts.length++[.lst false []])::.var [.ref 0 0]::.var [.ref 0 0]::.row 0 6 (ts.map Zaa)::τ) rfl (by omega) rfl rfl (ZbO Q hQ.len hQ.nor hk 3 0 ts.length []) (fun ρ h=>Zbc Q hQ.len hQ.nor hk 3 0 ts.length 1 0 [] ρ h)
 unfold hB at hC
 simp only[Xt]at hC
 unfold Zm ZcG
 clear hE h
 generalize Zq Q 10 3 0 ts.length=R at *
 generalize Zq Q 10 1 0 ts.length=R1 at *
 generalize ts.map Zaa=ys at *
 rw[Zi (by rfl) Zby]
 simp -implicitDefEqProofs only[EQA,Zz,Zv,Xe,Xc,Xf,Xa,Xg,↓reduceIte,Zf,Zbz,Zbs,Zfz,Zd,a4,b2,hC,m1,Xs,z]
 exact hO _
theorem ZLf(hP:QOk 8 P){e:Int}(h:ZbV ZbN 8 l=.error e):ZjP 10 6 l P e:=by
 have hk:(10:Nat)<26:=by omega
 have hF:=ZOj hP hl h
 obtain⟨hL,hN,h0,-,-,-⟩:=hP
 have a4:=fun L=>(Zam P hL 0 (by omega) L).trans h0
 rcases hF with⟨cs,hc,hE⟩ |⟨Q,xs,r,hQ,hQN,hE⟩
 ·have hC:=ZKo (O:=E) (bf:=BY) (fm:=107) (by kernel_rfl) (ZG P hL hN false (l.map Zb)) hc rfl hE
  refine Xr ⟨cs,hc,?_⟩
  unfold hB at hC
  unfold Zm
  clear hE h
  rw[Zi (by rfl) Zby]
  simp -implicitDefEqProofs only[EQA,Zz,Xe,Xc,Xf,Xa,Xg,↓reduceIte,Zbz,Zbs,Zd,a4,hC,Xs]
  exact Z7 rfl hc
 ·unfold H1 at hE
  have hC:=ZIn (O:=E) (bf:=BY) (fm:=107) (by kernel_rfl) (ZG P hL hN false (l.map Zb)) (fun ρ h=>Zbc Q hQ hQN hk 1 0 xs.length 3 0 r ρ h) rfl hE
  have hO:=fun τ=>Zdv (j:=3) (w:=6) (xs:=xs.map Zaa) (r:=.pan (ZH e)) (σ:=.var (Zq Q 10 3 0 xs.length++[.lst false (r.map Zb)])::.var [.ref 0 0]::.var [.ref 0 0]::.row 0 6 (xs.map Zaa)::τ) rfl (by omega) rfl rfl (ZbO Q hQ hQN hk 3 0 xs.length r) (fun ρ h=>Zbc Q hQ hQN hk 3 0 xs.length 1 0 r ρ h)
  refine XE ⟨Q,xs.length,r,xs.map Zaa,hQ,hQN,?_⟩
  unfold hB at hC
  unfold Zm ZcG
  clear hE h
  generalize Zq Q 10 3 0 xs.length=R at *
  generalize Zq Q 10 1 0 xs.length=R1 at *
  generalize xs.map Zaa=ys at *
  generalize ZH e=ce at *
  rw[Zi (by rfl) Zby]
  simp -implicitDefEqProofs only[EQA,Zz,Xe,Xc,Xf,Xa,Xg,↓reduceIte,Zbz,Zbs,Zd,a4,hC,Xs]
  exact hO _
end
end
end Go.Proofs.YtfhocpplckoodaaGreatDoor
