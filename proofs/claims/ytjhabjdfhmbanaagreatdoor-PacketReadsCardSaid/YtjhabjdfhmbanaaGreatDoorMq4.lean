/- packed -/
import Derived.Test.YtjhabjdfhmbanaaGreatDoorMq3
import Derived.Test.YtjhabjdfhmbanaaGreatDoorMq2
import Derived.Shelf.LaysM
import Derived.Shelf.Bytes.TryGrowAt
import Derived.Shelf.Bytes.GrowSliceCatch
import Derived.Lib.ByteType
import Derived.Lib.BufferAt
import Derived.Lib.BufferOwn
import Derived.Lib.AppendZeros
import Derived.Lib.Walk
import Derived.Lib.Hide
import Derived.Laws.CopyRow
import Derived.Laws.IdiomCopy
import Derived.Laws.MakeOwn
import Derived.WalkKit
import Derived.OwnWalk
import Derived.Defers
import Derived.Recover
import Derived.RegionTactic
import Derived.Shelf.RegionOpenPlain
import Derived.Deep.RegionWith
import Derived.Deep.Draws
import Derived.BigCall
import Derived.BigGuard
import Derived.Lib.BufferSrc
import Derived.Test.YtjhabjdfhmbanaaGreatDoorMq1
import Derived.Test.YtjhabjdfhmbanaaGreatDoorProg
set_option linter.defProp false
set_option linter.unusedSectionVars false
set_option linter.unusedSimpArgs false
set_option linter.unusedVariables false
open Nat renaming reduceEqDiff→Xa,reduceLT→Xc,reduceAdd→Xd,reduceLeDiff→Xf,reduceBEq→Xg,zero_add→XF,le_refl→XH,le_trans→Ww,one_mul→WL,zero_le→XaS,mul_one→XaU,sub_zero→Xbf
open Option.some renaming injEq→Xb,inj→WP
open Prod.mk renaming injEq→Xe
open List renaming getD_eq_getElem?_getD→Xh,getElem?_set_ne→Xl,getD_cons_zero→Xm,nil_append→Xp,append_nil→Xr,getD_cons_succ→Xs,map_cons→Xu,range_succ→Xv,length_nil→Xw,eq_nil_of_length_eq_zero→Xx,length_cons→Xz,flatMap_cons→XB,map_nil→XC,set_eq_take_append_cons_drop→XD,take_of_length_le→XG,replicate→XI,cons_append→XJ,length_append→XM,getElem?_cons_succ→XN,lookup_nil→XP,flatMap_nil→XQ,length_map→XS,getElem?_set_self→XV,all_cons→XW,all_nil→XX,drop_eq_nil_iff→XY,range→X5,lookup_cons→Wa,contains_nil→Wh,set_comm→Wj,map_append→Wl,take_append_of_le_length→Wn,length_drop→Wt,any_cons→Wu,getElem?_append_right→Wv,isEmpty_cons→WC,set_set→WD,take→WI,length_take→WK,drop→WO,contains_cons→W6,take_length→Xai,length→Xaz,take_zero→Xba
open Bool renaming false_eq_true→Xi,and_eq_true→Xk,and_self→XT,false_and→Wi,not_eq_true→Wm,true_or→WV,or_true→W7,or_false→Xaq,eq_iff_iff→XaE,not_false→XaH,not_true→Xa0
open Int renaming reduceBEq→Xj,reduceLT→Wc,toNat_natCast→WB,toNat→Xad
open Or renaming inl→Xq,inr→Xt
open BitVec renaming ofInt→XR
open Array renaming length_toList→XU,toList_inj→XaP
open Option renaming bind_some→Wk
namespace Go.Proofs.YtjhabjdfhmbanaaGreatDoor
set_option maxHeartbeats 16000000
set_option maxRecDepth 10000
section
section
variable {O:ZS}{bf:Nat->Bool}{fm f w:Nat}{cs cs2 cs3 ys:List AVal}{x:AVal}{G:Za}
theorem Zrs(h0:G[0]?=some (.var cs))(h1:G[1]?=some (.var [.ref 0 0]))(h2:G[2]?=some (.var [.ref 0 0]))(hc:Zl cs=[]):Zt G 1000 [0,2,1] []=[0,2,1]:=by
 have d0:G.getD 0 .free=.var cs:=by simp[Xh,h0]
 have d1:G.getD 1 .free=.var [.ref 0 0]:=by simp[Xh,h1]
 have d2:G.getD 2 .free=.var [.ref 0 0]:=by simp[Xh,h2]
 rw[show(1000:Nat)=994+1+1+1+1+1+1 from rfl]
 simp only[Zt,d0,d1,d2,ZB,Zl,ZH,hc,W6,Wh,Xr,Xp,XJ,Xaq,Xi,if_false]
 simp
theorem ZsA(h0:G[0]?=some (.var cs))(hc:Zl cs=[]):Zt G 1000 [0,0] []=[0]:=by
 have d0:G.getD 0 .free=.var cs:=by simp[Xh,h0]
 rw[show(1000:Nat)=996+1+1+1+1 from rfl]
 simp only[Zt,d0,ZB,hc,W6,Wh,Xr,Xp,XJ,Xaq,Xi,if_false]
 simp
def hB(cs:List AVal)(b:ZP):Za:=[.var cs,.var [.ref 0 0],.var [.ref 0 0],b]
theorem ZoU(hb:bf fm=false)(hc:Ze cs=true)(hrf:Zl cs2=[3])(hren:∀ C:Rho,C 3 0=some (3,0)->Zj C cs2=cs2)
  (hO:O fm [.ref 0 0,.fn f [.ref 1 0,.ref 2 0]] [.var cs,.var [.ref 0 0],.var [.ref 0 0]]=some (.tup [],[.var cs2,.var [.ref 0 0],.var [.ref 0 0],.row 0 w ys])) :
  Zq O bf (hB cs .free) 3 fm 1 true [.ref 0 0,.fn f [.ref 2 0,.ref 1 0]]=some (.tup [],hB cs2 (.row 0 w ys),{ any:=true,upd:=[(0,cs2),(2,[.ref 0 0]),(1,[.ref 0 0])] }):=by
 have hv:ZV true 3 (some (.tup [],[.var cs2,.var [.ref 0 0],.var [.ref 0 0],.row 0 w ys]))=some (.tup [],[.var cs2,.var [.ref 0 0],.var [.ref 0 0],.row 0 w ys]):=ZnF (r:=.tup []) rfl hrf hren []
 have ec:=fun C=>Z5 C cs hc
 unfold hB
 refine Zcf (ids:=[0,2,1]) (vs:=[.ref 0 0,.fn f [.ref 2 0,.ref 1 0]]) hb rfl (Zrs rfl rfl rfl (ec (fun _ _=>none)).2) rfl rfl rfl ?_ hO hv (by simp) (by simp) rfl rfl rfl ?_ rfl
 ·show [ZP.var (Zj _ cs),.var (Zj _ [.ref 0 0]),.var (Zj _ [.ref 0 0])]=_
  rw[(ec _).1];rfl
 ·have hb3:=hren (Zak [.var cs,.var [.ref 0 0],.var [.ref 0 0],.free] [0,2,1] 3) rfl
  show [ZP.var (Zj _ cs2),.var (Zj _ [.ref 0 0]),.var (Zj _ [.ref 0 0]),.row 0 w ys]=_
  rw[hb3];rfl
theorem ZrM(hb:bf fm=false)(hc:Ze cs=true)(hc2:Ze cs2=true)(hx:ZQ x=true)
  (hO:O fm [.ref 0 0,.fn f [.ref 1 0,.ref 2 0]] [.var cs,.var [.ref 0 0],.var [.ref 0 0]]=some (.pan x,[.var cs2,.var [.ref 0 0],.var [.ref 0 0]])) :
  Zq O bf (hB cs .free) 3 fm 1 true [.ref 0 0,.fn f [.ref 2 0,.ref 1 0]]=some (.pan x,hB cs2 .free,{ any:=true,upd:=[(0,cs2),(2,[.ref 0 0]),(1,[.ref 0 0])] }):=by
 have ec:=fun C=>Z5 C cs hc
 have hnp:ZQ (.pan x)=true:=by simpa only[ZQ]using hx
 unfold hB
 refine Zcf (ids:=[0,2,1]) (vs:=[.ref 0 0,.fn f [.ref 2 0,.ref 1 0]]) hb rfl (Zrs rfl rfl rfl (ec (fun _ _=>none)).2) rfl rfl rfl ?_ hO rfl (by simp) (by simp) rfl rfl (Zba _ _ hnp).1 ?_ rfl
 ·show [ZP.var (Zj _ cs),.var (Zj _ [.ref 0 0]),.var (Zj _ [.ref 0 0])]=_
  rw[(ec _).1];rfl
 ·show [ZP.var (Zj _ cs2),.var (Zj _ [.ref 0 0]),.var (Zj _ [.ref 0 0]),.free]=_
  rw[(Z5 _ cs2 hc2).1];rfl
theorem Zt0(hb:bf fm=false)(hc:Ze cs=true)(hren:∀ C:Rho,C 3 0=some (3,0)->Zj C cs2=cs2)(hx:ZQ x=true)
  (hO:O fm [.ref 0 0,.fn f [.ref 1 0,.ref 2 0]] [.var cs,.var [.ref 0 0],.var [.ref 0 0]]=some (.pan x,[.var cs2,.var [.ref 0 0],.var [.ref 0 0],.row 0 w ys])) :
  Zq O bf (hB cs .free) 3 fm 1 true [.ref 0 0,.fn f [.ref 2 0,.ref 1 0]]=some (.pan x,hB cs2 (.row 0 w ys),{ any:=true,upd:=[(0,cs2),(2,[.ref 0 0]),(1,[.ref 0 0])] }):=by
 have ec:=fun C=>Z5 C cs hc
 have hnp:ZQ (.pan x)=true:=by simpa only[ZQ]using hx
 unfold hB
 refine Zcf (ids:=[0,2,1]) (vs:=[.ref 0 0,.fn f [.ref 2 0,.ref 1 0]]) hb rfl (Zrs rfl rfl rfl (ec (fun _ _=>none)).2) rfl rfl rfl ?_ hO rfl (by simp) (by simp) rfl rfl (Zba _ _ hnp).1 ?_ rfl
 ·show [ZP.var (Zj _ cs),.var (Zj _ [.ref 0 0]),.var (Zj _ [.ref 0 0])]=_
  rw[(ec _).1];rfl
 ·have hb3:=hren (Zak [.var cs,.var [.ref 0 0],.var [.ref 0 0],.free] [0,2,1] 3) rfl
  show [ZP.var (Zj _ cs2),.var (Zj _ [.ref 0 0]),.var (Zj _ [.ref 0 0]),.row 0 w ys]=_
  rw[hb3];rfl
theorem ZKi(hb:bf fm=false)(hc:Ze cs=true)(hrf:Zl cs2=[1])(hren:∀ C:Rho,C 1 0=some (1,0)->Zj C cs2=cs2)(hback:∀ C:Rho,C 1 0=some (3,0)->Zj C cs2=cs3)
  (hO:O fm [.ref 0 0,.fn f [.ref 0 0]] [.var cs]=some (.tup [],[.var cs2,.row 0 w ys])) :
  Zq O bf (hB cs .free) 3 fm 1 true [.ref 0 0,.fn f [.ref 0 0]]=some (.tup [],hB cs3 (.row 0 w ys),{ any:=true,upd:=[(0,cs3)] }):=by
 have hv:ZV true 1 (some (.tup [],[.var cs2,.row 0 w ys]))=some (.tup [],[.var cs2,.row 0 w ys]):=Zb2 (j:=1) (G:=[.var cs2,.row 0 w ys]) (r:=.tup []) rfl (by omega) rfl rfl hrf hren
 have ec:=fun C=>Z5 C cs hc
 unfold hB
 refine Zcf (ids:=[0]) (vs:=[.ref 0 0,.fn f [.ref 0 0]]) hb rfl (ZsA rfl (ec (fun _ _=>none)).2) rfl rfl rfl ?_ hO hv (by simp) (by simp) rfl rfl rfl ?_ rfl
 ·show [ZP.var (Zj _ cs)]=_
  grind
 ·have hb3:=hback (Zak [.var cs,.var [.ref 0 0],.var [.ref 0 0],.free] [0] 3) rfl
  show [ZP.var (Zj _ cs2),.var [.ref 0 0],.var [.ref 0 0],.row 0 w ys]=_
  rw[hb3]
theorem ZQN(hb:bf fm=false)(hc:Ze cs=true)(hc2:Ze cs2=true)(hx:ZQ x=true)
  (hO:O fm [.ref 0 0,.fn f [.ref 0 0]] [.var cs]=some (.pan x,[.var cs2])) :
  Zq O bf (hB cs .free) 3 fm 1 true [.ref 0 0,.fn f [.ref 0 0]]=some (.pan x,hB cs2 .free,{ any:=true,upd:=[(0,cs2)] }):=by
 have ec:=fun C=>Z5 C cs hc
 have hnp:ZQ (.pan x)=true:=by simpa only[ZQ]using hx
 unfold hB
 refine Zcf (ids:=[0]) (vs:=[.ref 0 0,.fn f [.ref 0 0]]) hb rfl (ZsA rfl (ec (fun _ _=>none)).2) rfl rfl rfl ?_ hO rfl (by simp) (by simp) rfl rfl (Zba _ _ hnp).1 ?_ rfl
 ·show [ZP.var (Zj _ cs)]=_
  grind
 ·show [ZP.var (Zj _ cs2),.var [.ref 0 0],.var [.ref 0 0],.free]=_
  rw[(Z5 _ cs2 hc2).1]
theorem ZL8(hb:bf fm=false)(hc:Ze cs=true)(hback:∀ C:Rho,C 1 0=some (3,0)->Zj C cs2=cs3)(hx:ZQ x=true)
  (hO:O fm [.ref 0 0,.fn f [.ref 0 0]] [.var cs]=some (.pan x,[.var cs2,.row 0 w ys])) :
  Zq O bf (hB cs .free) 3 fm 1 true [.ref 0 0,.fn f [.ref 0 0]]=some (.pan x,hB cs3 (.row 0 w ys),{ any:=true,upd:=[(0,cs3)] }):=by
 have ec:=fun C=>Z5 C cs hc
 have hnp:ZQ (.pan x)=true:=by simpa only[ZQ]using hx
 unfold hB
 refine Zcf (ids:=[0]) (vs:=[.ref 0 0,.fn f [.ref 0 0]]) hb rfl (ZsA rfl (ec (fun _ _=>none)).2) rfl rfl rfl ?_ hO rfl (by simp) (by simp) rfl rfl (Zba _ _ hnp).1 ?_ rfl
 ·show [ZP.var (Zj _ cs)]=_
  grind
 ·have hb3:=hback (Zak [.var cs,.var [.ref 0 0],.var [.ref 0 0],.free] [0] 3) rfl
  show [ZP.var (Zj _ cs2),.var [.ref 0 0],.var [.ref 0 0],.row 0 w ys]=_
  rw[hb3]
end
def Zed(Q:List AVal)(kk n:Nat)(l:Zd)(w:Nat)(ys:List AVal):Za:=[.var (Zi Q kk 1 0 n++[.lnt l]),.row 0 w ys]
def Zj7(kk w:Nat)(l:Zd)(P:List AVal)(e:Int):Prop :=
 (∃ cs,Ze cs=true/\E 26 [.ref 0 0] (Zr P l)=some (.pan (ZG e),[.var cs])) \/
 (∃ (Q:List AVal) (n:Nat) (r:Zd) (ys:List AVal),Q.length=26/\Ze Q=true/\E 26 [.ref 0 0] (Zr P l)=some (.pan (ZG e),Zed Q kk n r w ys))
theorem ZDd(xs:List Zd):kOk 1 (xs.map AVal.str)=true:=by cases xs<;>rfl
theorem ZQy(xs:List Int):kOk 1 (xs.map (AVal.int .i64))=true:=by cases xs<;>rfl
theorem fT0{k:Int}(Q:List AVal)(h:QOk k Q)(l s r:Zd)(hl:l.length<=1099511627776)(ho:Zaf l=.ok (s,r)):E 62 [.ref 0 0,.ref 2 0] [.var [.ref 1 0],.var (Q++[.lnt l]),.var [.ref 1 0]]=some (.tup [],[.var [.ref 1 0],.var (Zi Q 11 3 0 1++[.lnt r]),.var [.ref 1 0],.row 0 1 [AVal.str s]]) :=
 ZR2 Q h.len h.nor l (by omega) h.c11 ho
theorem fF0{k:Int}(Q:List AVal)(h:QOk k Q)(l:Zd)(e:Int)(hl:l.length<=1099511627776)(ho:Zaf l=.error e):∃ r:Zd,E 62 [.ref 0 0,.ref 2 0] [.var [.ref 1 0],.var (Q++[.lnt l]),.var [.ref 1 0]]=some (.pan (ZG e),[.var [.ref 1 0],.var (Q++[.lnt r]),.var [.ref 1 0]]) :=
 ⟨l,ZIN Q h.len h.nor l (by omega) ho h.c11⟩
theorem fT1{k:Int}(Q:List AVal)(h:QOk k Q)(xs:List Zd)(l s r:Zd)(hl:l.length<=1099511627776)(hx:xs.length<=1099511627776)(ho:Zaf l=.ok (s,r)):E 62 [.ref 0 0,.ref 3 0] [.var [.ref 1 0],.var (Zi Q 11 2 0 xs.length++[.lnt l]),.row 0 1 (xs.map AVal.str),.var [.ref 1 0]]=some (.tup [],[.var [.ref 1 0],.var (Zi Q 11 2 1 (xs.length+1)++[.lnt r]),.row 1 1 ((xs++[s]).map AVal.str),.var [.ref 1 0]]):=by
 have:=ZFg Q h.len h.nor l (by omega) (xs.map AVal.str) (by simp;omega) (ZDd xs) ho
 rw[XS]at this
 rw[Wl]
 exact this
theorem fF1{k:Int}(Q:List AVal)(h:QOk k Q)(xs:List Zd)(l:Zd)(e:Int)(hl:l.length<=1099511627776)(ho:Zaf l=.error e):∃ r:Zd,E 62 [.ref 0 0,.ref 3 0] [.var [.ref 1 0],.var (Zi Q 11 2 0 xs.length++[.lnt l]),.row 0 1 (xs.map AVal.str),.var [.ref 1 0]]=some (.pan (ZG e),[.var [.ref 1 0],.var (Zi Q 11 2 0 xs.length++[.lnt r]),.row 0 1 (xs.map AVal.str),.var [.ref 1 0]]):=by
 have:=ZTG Q h.len h.nor l (by omega) (xs.map AVal.str) ho
 rw[XS]at this
 exact⟨l,this⟩
theorem cT0{k:Int}(Q:List AVal)(h:QOk k Q)(l:Zd)(s:Int)(r:Zd)(hl:l.length<=1099511627776)(ho:ZaI k l=.ok (s,r)):E 64 [.ref 0 0,.ref 2 0] [.var [.ref 1 0],.var (Q++[.lnt l]),.var [.ref 1 0]]=some (.tup [],[.var [.ref 1 0],.var (Zi Q 8 3 0 1++[.lnt r]),.var [.ref 1 0],.row 0 1 [AVal.int .i64 s]]) :=
 ZPR Q h.len h.nor l (by omega) h.c8 k h.ty ho
theorem cF0{k:Int}(Q:List AVal)(h:QOk k Q)(l:Zd)(e:Int)(hl:l.length<=1099511627776)(ho:ZaI k l=.error e):∃ r:Zd,E 64 [.ref 0 0,.ref 2 0] [.var [.ref 1 0],.var (Q++[.lnt l]),.var [.ref 1 0]]=some (.pan (ZG e),[.var [.ref 1 0],.var (Q++[.lnt r]),.var [.ref 1 0]]) :=
 ZOB Q h.len h.nor l (by omega) h.c8 k h.ty ho
theorem cT1{k:Int}(Q:List AVal)(h:QOk k Q)(xs:List Int)(l:Zd)(s:Int)(r:Zd)(hl:l.length<=1099511627776)(hx:xs.length<=1099511627776)(ho:ZaI k l=.ok (s,r)):E 64 [.ref 0 0,.ref 3 0] [.var [.ref 1 0],.var (Zi Q 8 2 0 xs.length++[.lnt l]),.row 0 1 (xs.map (AVal.int .i64)),.var [.ref 1 0]]=some (.tup [],[.var [.ref 1 0],.var (Zi Q 8 2 1 (xs.length+1)++[.lnt r]),.row 1 1 ((xs++[s]).map (AVal.int .i64)),.var [.ref 1 0]]):=by
 have:=ZMS Q h.len h.nor l (by omega) (xs.map (AVal.int .i64)) (by simp;omega) (ZQy xs) k h.ty ho
 rw[XS]at this
 rw[Wl]
 exact this
theorem cF1{k:Int}(Q:List AVal)(h:QOk k Q)(xs:List Int)(l:Zd)(e:Int)(hl:l.length<=1099511627776)(ho:ZaI k l=.error e):∃ r:Zd,E 64 [.ref 0 0,.ref 3 0] [.var [.ref 1 0],.var (Zi Q 8 2 0 xs.length++[.lnt l]),.row 0 1 (xs.map (AVal.int .i64)),.var [.ref 1 0]]=some (.pan (ZG e),[.var [.ref 1 0],.var (Zi Q 8 2 0 xs.length++[.lnt r]),.row 0 1 (xs.map (AVal.int .i64)),.var [.ref 1 0]]):=by
 have:=ZF6 Q h.len h.nor l (by omega) (xs.map (AVal.int .i64)) k h.ty ho
 rw[XS]at this
 exact this
section
variable (P:List AVal)(l:Zd)(hl:l.length<=1099511627775)
include hl
theorem ZPQ(hP:QOk 10 P){n:Int}{ps:List ZO}{ts:List Zd}(h:ZbG Zaf 10 l=.ok (n,ps,ts)) :
  E 26 [.ref 0 0] (Zr P l)=some (.tup [],Zed (Zbd P n ps) 11 ts.length [] 1 (ts.map AVal.str)):=by
 have hk:(11:Nat)<26:=by omega
 have hE:=Zr3 (g:=AVal.str) (kk:=11) (f:=62) (by omega) (by decide) (by kernel_rfl) Zlx fT0 fF0 fT1 fF1 hP hl h
 have hQ:=ZcC hP n ps
 obtain⟨hL,hN,h0,-,-,-⟩:=hP
 unfold H3 at hE
 generalize Zbd P n ps=Q at *
 have hC:=ZoU (O:=E) (bf:=BY) (fm:=60) (by kernel_rfl) (ZK P hL hN l) (ZbX Q hQ.len hQ.nor hk 3 0 ts.length []) (fun C h=>Zbe Q hQ.len hQ.nor hk 3 0 ts.length 3 0 [] C h) hE
 have a4:=fun L=>(Zap P hL 0 (by omega) L).trans h0
 have hR:=Zbp Q hQ.len hQ.nor 11 hk ts.length 3 0
 have b2:=ZaB _ hR
 have m1:=Zbt
 have z:=z0b
 have hO:=fun B=>Zb2 (j:=3) (w:=1) (xs:=ts.map AVal.str) (r:=.tup []) (G:=.var (Zi Q 11 3 0 ts.length++[.lnt []])::.var [.ref 0 0]::.var [.ref 0 0]::.row 0 1 (ts.map AVal.str)::B) rfl (by omega) rfl rfl (ZbX Q hQ.len hQ.nor hk 3 0 ts.length []) (fun C h=>Zbe Q hQ.len hQ.nor hk 3 0 ts.length 1 0 [] C h)
 unfold hB at hC
 unfold Zr Zed
 clear hE h
 generalize Zi Q 11 3 0 ts.length=R at *
 generalize Zi Q 11 1 0 ts.length=R1 at *
 generalize ts.map AVal.str=ys at *
 rw[Zg (by rfl) Za3]
 simp -implicitDefEqProofs only[EQA,Zs,ZE,Zc,Xd,Xc,Xf,Xa,Xg,↓reduceIte,Ze,Za4,ZaZ,Zek,Zb,a4,b2,hC,m1,Xj,z]
 exact hO _
theorem ZMy(hP:QOk 10 P){e:Int}(h:ZbG Zaf 10 l=.error e):Zj7 11 1 l P e:=by
 have hk:(11:Nat)<26:=by omega
 have hF:=ZtA (g:=AVal.str) (kk:=11) (f:=62) (by omega) (by decide) (by kernel_rfl) Zlx fT0 fF0 fT1 fF1 hP hl h
 obtain⟨hL,hN,h0,-,-,-⟩:=hP
 have a4:=fun L=>(Zap P hL 0 (by omega) L).trans h0
 rcases hF with⟨cs,hc,hE⟩ |⟨Q,xs,r,hQ,hQN,hE⟩
 ·have hC:=ZrM (O:=E) (bf:=BY) (fm:=60) (by kernel_rfl) (ZK P hL hN l) hc rfl hE
  refine Xq ⟨cs,hc,?_⟩
  unfold hB at hC
  unfold Zr
  clear hE h
  rw[Zg (by rfl) Za3]
  simp -implicitDefEqProofs only[EQA,Zs,ZE,Zc,Xd,Xc,Xf,Xa,Xg,↓reduceIte,Za4,ZaZ,Zb,a4,hC,Xj]
  exact Zah rfl hc
 ·unfold H3 at hE
  have hC:=Zt0 (O:=E) (bf:=BY) (fm:=60) (by kernel_rfl) (ZK P hL hN l) (fun C h=>Zbe Q hQ hQN hk 3 0 xs.length 3 0 r C h) rfl hE
  have hO:=fun B=>Zb2 (j:=3) (w:=1) (xs:=xs.map AVal.str) (r:=.pan (ZG e)) (G:=.var (Zi Q 11 3 0 xs.length++[.lnt r])::.var [.ref 0 0]::.var [.ref 0 0]::.row 0 1 (xs.map AVal.str)::B) rfl (by omega) rfl rfl (ZbX Q hQ hQN hk 3 0 xs.length r) (fun C h=>Zbe Q hQ hQN hk 3 0 xs.length 1 0 r C h)
  refine Xt ⟨Q,xs.length,r,xs.map AVal.str,hQ,hQN,?_⟩
  unfold hB at hC
  unfold Zr Zed
  clear hE h
  generalize Zi Q 11 3 0 xs.length=R at *
  generalize Zi Q 11 1 0 xs.length=R1 at *
  generalize xs.map AVal.str=ys at *
  generalize ZG e=ce at *
  rw[Zg (by rfl) Za3]
  simp -implicitDefEqProofs only[EQA,Zs,ZE,Zc,Xd,Xc,Xf,Xa,Xg,↓reduceIte,Za4,ZaZ,Zb,a4,hC,Xj]
  exact hO _
theorem ZIe(hP:QOk 9 P){n:Int}{ps:List ZO}{ts:List Int}(h:ZbG (ZaI 9) 9 l=.ok (n,ps,ts)) :
  E 26 [.ref 0 0] (Zr P l)=some (.tup [],Zed (Zbd P n ps) 8 ts.length [] 1 (ts.map (AVal.int .i64))):=by
 have hk:(8:Nat)<26:=by omega
 have hE:=Zr3 (g:=(AVal.int .i64)) (kk:=8) (f:=64) (by omega) (by decide) (by kernel_rfl) ZkW cT0 cF0 cT1 cF1 hP hl h
 have hQ:=ZcC hP n ps
 obtain⟨hL,hN,h0,-,-,-⟩:=hP
 unfold H3 at hE
 generalize Zbd P n ps=Q at *
 have hC:=ZoU (O:=E) (bf:=BY) (fm:=60) (by kernel_rfl) (ZK P hL hN l) (ZbX Q hQ.len hQ.nor hk 3 0 ts.length []) (fun C h=>Zbe Q hQ.len hQ.nor hk 3 0 ts.length 3 0 [] C h) hE
 have a4:=fun L=>(Zap P hL 0 (by omega) L).trans h0
 have hR:=Zbp Q hQ.len hQ.nor 8 hk ts.length 3 0
 have b2:=ZaB _ hR
 have m1:=Zbt
 have z:=z0b
 have hO:=fun B=>Zb2 (j:=3) (w:=1) (xs:=ts.map (AVal.int .i64)) (r:=.tup []) (G:=.var (Zi Q 8 3 0 ts.length++[.lnt []])::.var [.ref 0 0]::.var [.ref 0 0]::.row 0 1 (ts.map (AVal.int .i64))::B) rfl (by omega) rfl rfl (ZbX Q hQ.len hQ.nor hk 3 0 ts.length []) (fun C h=>Zbe Q hQ.len hQ.nor hk 3 0 ts.length 1 0 [] C h)
 unfold hB at hC
 unfold Zr Zed
 clear hE h
 generalize Zi Q 8 3 0 ts.length=R at *
 generalize Zi Q 8 1 0 ts.length=R1 at *
 generalize ts.map (AVal.int .i64)=ys at *
 rw[Zg (by rfl) Za3]
 simp -implicitDefEqProofs only[EQA,Zs,ZE,Zc,Xd,Xc,Xf,Xa,Xg,↓reduceIte,Ze,Za4,ZaZ,Zek,Zb,a4,b2,hC,m1,Xj,z]
 exact hO _
theorem ZJ1(hP:QOk 9 P){e:Int}(h:ZbG (ZaI 9) 9 l=.error e):Zj7 8 1 l P e:=by
 have hk:(8:Nat)<26:=by omega
 have hF:=ZtA (g:=(AVal.int .i64)) (kk:=8) (f:=64) (by omega) (by decide) (by kernel_rfl) ZkW cT0 cF0 cT1 cF1 hP hl h
 obtain⟨hL,hN,h0,-,-,-⟩:=hP
 have a4:=fun L=>(Zap P hL 0 (by omega) L).trans h0
 rcases hF with⟨cs,hc,hE⟩ |⟨Q,xs,r,hQ,hQN,hE⟩
 ·have hC:=ZrM (O:=E) (bf:=BY) (fm:=60) (by kernel_rfl) (ZK P hL hN l) hc rfl hE
  refine Xq ⟨cs,hc,?_⟩
  unfold hB at hC
  unfold Zr
  clear hE h
  rw[Zg (by rfl) Za3]
  simp -implicitDefEqProofs only[EQA,Zs,ZE,Zc,Xd,Xc,Xf,Xa,Xg,↓reduceIte,Za4,ZaZ,Zb,a4,hC,Xj]
  exact Zah rfl hc
 ·unfold H3 at hE
  have hC:=Zt0 (O:=E) (bf:=BY) (fm:=60) (by kernel_rfl) (ZK P hL hN l) (fun C h=>Zbe Q hQ hQN hk 3 0 xs.length 3 0 r C h) rfl hE
  have hO:=fun B=>Zb2 (j:=3) (w:=1) (xs:=xs.map (AVal.int .i64)) (r:=.pan (ZG e)) (G:=.var (Zi Q 8 3 0 xs.length++[.lnt r])::.var [.ref 0 0]::.var [.ref 0 0]::.row 0 1 (xs.map (AVal.int .i64))::B) rfl (by omega) rfl rfl (ZbX Q hQ hQN hk 3 0 xs.length r) (fun C h=>Zbe Q hQ hQN hk 3 0 xs.length 1 0 r C h)
  refine Xt ⟨Q,xs.length,r,xs.map (AVal.int .i64),hQ,hQN,?_⟩
  unfold hB at hC
  unfold Zr Zed
  clear hE h
  generalize Zi Q 8 3 0 xs.length=R at *
  generalize Zi Q 8 1 0 xs.length=R1 at *
  generalize xs.map (AVal.int .i64)=ys at *
  generalize ZG e=ce at *
  rw[Zg (by rfl) Za3]
  simp -implicitDefEqProofs only[EQA,Zs,ZE,Zc,Xd,Xc,Xf,Xa,Xg,↓reduceIte,Za4,ZaZ,Zb,a4,hC,Xj]
  exact hO _
theorem ZQo(hP:QOk 11 P){n:Int}{ps:List ZO}{ts:List Int}(h:ZbG (ZaI 11) 11 l=.ok (n,ps,ts)) :
  E 26 [.ref 0 0] (Zr P l)=some (.tup [],Zed (Zbd P n ps) 8 ts.length [] 1 (ts.map (AVal.int .i64))):=by
 have hk:(8:Nat)<26:=by omega
 have hE:=Zr3 (g:=(AVal.int .i64)) (kk:=8) (f:=64) (by omega) (by decide) (by kernel_rfl) ZkW cT0 cF0 cT1 cF1 hP hl h
 have hQ:=ZcC hP n ps
 obtain⟨hL,hN,h0,-,-,-⟩:=hP
 unfold H3 at hE
 generalize Zbd P n ps=Q at *
 have hC:=ZoU (O:=E) (bf:=BY) (fm:=60) (by kernel_rfl) (ZK P hL hN l) (ZbX Q hQ.len hQ.nor hk 3 0 ts.length []) (fun C h=>Zbe Q hQ.len hQ.nor hk 3 0 ts.length 3 0 [] C h) hE
 have a4:=fun L=>(Zap P hL 0 (by omega) L).trans h0
 have hR:=Zbp Q hQ.len hQ.nor 8 hk ts.length 3 0
 have b2:=ZaB _ hR
 have m1:=Zbt
 have z:=z0b
 have hO:=fun B=>Zb2 (j:=3) (w:=1) (xs:=ts.map (AVal.int .i64)) (r:=.tup []) (G:=.var (Zi Q 8 3 0 ts.length++[.lnt []])::.var [.ref 0 0]::.var [.ref 0 0]::.row 0 1 (ts.map (AVal.int .i64))::B) rfl (by omega) rfl rfl (ZbX Q hQ.len hQ.nor hk 3 0 ts.length []) (fun C h=>Zbe Q hQ.len hQ.nor hk 3 0 ts.length 1 0 [] C h)
 unfold hB at hC
 unfold Zr Zed
 clear hE h
 generalize Zi Q 8 3 0 ts.length=R at *
 generalize Zi Q 8 1 0 ts.length=R1 at *
 generalize ts.map (AVal.int .i64)=ys at *
 rw[Zg (by rfl) Za3]
 simp -implicitDefEqProofs only[EQA,Zs,ZE,Zc,Xd,Xc,Xf,Xa,Xg,↓reduceIte,Ze,Za4,ZaZ,Zek,Zb,a4,b2,hC,m1,Xj,z]
 exact hO _
theorem ZNp(hP:QOk 11 P){e:Int}(h:ZbG (ZaI 11) 11 l=.error e):Zj7 8 1 l P e:=by
 have hk:(8:Nat)<26:=by omega
 have hF:=ZtA (g:=(AVal.int .i64)) (kk:=8) (f:=64) (by omega) (by decide) (by kernel_rfl) ZkW cT0 cF0 cT1 cF1 hP hl h
 obtain⟨hL,hN,h0,-,-,-⟩:=hP
 have a4:=fun L=>(Zap P hL 0 (by omega) L).trans h0
 rcases hF with⟨cs,hc,hE⟩ |⟨Q,xs,r,hQ,hQN,hE⟩
 ·have hC:=ZrM (O:=E) (bf:=BY) (fm:=60) (by kernel_rfl) (ZK P hL hN l) hc rfl hE
  refine Xq ⟨cs,hc,?_⟩
  unfold hB at hC
  unfold Zr
  clear hE h
  rw[Zg (by rfl) Za3]
  simp -implicitDefEqProofs only[EQA,Zs,ZE,Zc,Xd,Xc,Xf,Xa,Xg,↓reduceIte,Za4,ZaZ,Zb,a4,hC,Xj]
  exact Zah rfl hc
 ·unfold H3 at hE
  have hC:=Zt0 (O:=E) (bf:=BY) (fm:=60) (by kernel_rfl) (ZK P hL hN l) (fun C h=>Zbe Q hQ hQN hk 3 0 xs.length 3 0 r C h) rfl hE
  have hO:=fun B=>Zb2 (j:=3) (w:=1) (xs:=xs.map (AVal.int .i64)) (r:=.pan (ZG e)) (G:=.var (Zi Q 8 3 0 xs.length++[.lnt r])::.var [.ref 0 0]::.var [.ref 0 0]::.row 0 1 (xs.map (AVal.int .i64))::B) rfl (by omega) rfl rfl (ZbX Q hQ hQN hk 3 0 xs.length r) (fun C h=>Zbe Q hQ hQN hk 3 0 xs.length 1 0 r C h)
  refine Xt ⟨Q,xs.length,r,xs.map (AVal.int .i64),hQ,hQN,?_⟩
  unfold hB at hC
  unfold Zr Zed
  clear hE h
  generalize Zi Q 8 3 0 xs.length=R at *
  generalize Zi Q 8 1 0 xs.length=R1 at *
  generalize xs.map (AVal.int .i64)=ys at *
  generalize ZG e=ce at *
  rw[Zg (by rfl) Za3]
  simp -implicitDefEqProofs only[EQA,Zs,ZE,Zc,Xd,Xc,Xf,Xa,Xg,↓reduceIte,Za4,ZaZ,Zb,a4,hC,Xj]
  exact hO _
theorem ZRs(hP:QOk 8 P){n:Int}{ps:List ZO}{ts:List ZcH}(h:ZbG Zbf 8 l=.ok (n,ps,ts)) :
  E 26 [.ref 0 0] (Zr P l)=some (.tup [],Zed (Zbd P n ps) 10 ts.length [] 6 (ts.map Z8)):=by
 have hk:(10:Nat)<26:=by omega
 have hE:=ZKn hP hl h
 have hQ:=ZcC hP n ps
 obtain⟨hL,hN,h0,-,-,-⟩:=hP
 unfold H1 at hE
 generalize Zbd P n ps=Q at *
 have hC:=ZKi (O:=E) (bf:=BY) (fm:=60) (by kernel_rfl) (ZK P hL hN l) (ZbX Q hQ.len hQ.nor hk 1 0 ts.length []) (fun C h=>Zbe Q hQ.len hQ.nor hk 1 0 ts.length 1 0 [] C h) (fun C h=>Zbe Q hQ.len hQ.nor hk 1 0 ts.length 3 0 [] C h) hE
 have a4:=fun L=>(Zap P hL 0 (by omega) L).trans h0
 have hR:=Zbp Q hQ.len hQ.nor 10 hk ts.length 3 0
 have b2:=ZaB _ hR
 have m1:=Zbt
 have z:=z0b
 have hO:=fun B=>Zb2 (j:=3) (w:=6) (xs:=ts.map Z8) (r:=.tup []) (G:=.var (Zi Q 10 3 0 ts.length++[.lnt []])::.var [.ref 0 0]::.var [.ref 0 0]::.row 0 6 (ts.map Z8)::B) rfl (by omega) rfl rfl (ZbX Q hQ.len hQ.nor hk 3 0 ts.length []) (fun C h=>Zbe Q hQ.len hQ.nor hk 3 0 ts.length 1 0 [] C h)
 unfold hB at hC
 unfold Zr Zed
 clear hE h
 generalize Zi Q 10 3 0 ts.length=R at *
 generalize Zi Q 10 1 0 ts.length=R1 at *
 generalize ts.map Z8=ys at *
 rw[Zg (by rfl) Za3]
 simp -implicitDefEqProofs only[EQA,Zs,ZE,Zc,Xd,Xc,Xf,Xa,Xg,↓reduceIte,Ze,Za4,ZaZ,Zek,Zb,a4,b2,hC,m1,Xj,z]
 exact hO _
theorem ZPV(hP:QOk 8 P){e:Int}(h:ZbG Zbf 8 l=.error e):Zj7 10 6 l P e:=by
 have hk:(10:Nat)<26:=by omega
 have hF:=ZLe hP hl h
 obtain⟨hL,hN,h0,-,-,-⟩:=hP
 have a4:=fun L=>(Zap P hL 0 (by omega) L).trans h0
 rcases hF with⟨cs,hc,hE⟩ |⟨Q,xs,r,hQ,hQN,hE⟩
 ·have hC:=ZQN (O:=E) (bf:=BY) (fm:=60) (by kernel_rfl) (ZK P hL hN l) hc rfl hE
  refine Xq ⟨cs,hc,?_⟩
  unfold hB at hC
  unfold Zr
  clear hE h
  rw[Zg (by rfl) Za3]
  simp -implicitDefEqProofs only[EQA,Zs,ZE,Zc,Xd,Xc,Xf,Xa,Xg,↓reduceIte,Za4,ZaZ,Zb,a4,hC,Xj]
  exact Zah rfl hc
 ·unfold H1 at hE
  have hC:=ZL8 (O:=E) (bf:=BY) (fm:=60) (by kernel_rfl) (ZK P hL hN l) (fun C h=>Zbe Q hQ hQN hk 1 0 xs.length 3 0 r C h) rfl hE
  have hO:=fun B=>Zb2 (j:=3) (w:=6) (xs:=xs.map Z8) (r:=.pan (ZG e)) (G:=.var (Zi Q 10 3 0 xs.length++[.lnt r])::.var [.ref 0 0]::.var [.ref 0 0]::.row 0 6 (xs.map Z8)::B) rfl (by omega) rfl rfl (ZbX Q hQ hQN hk 3 0 xs.length r) (fun C h=>Zbe Q hQ hQN hk 3 0 xs.length 1 0 r C h)
  refine Xt ⟨Q,xs.length,r,xs.map Z8,hQ,hQN,?_⟩
  unfold hB at hC
  unfold Zr Zed
  clear hE h
  generalize Zi Q 10 3 0 xs.length=R at *
  generalize Zi Q 10 1 0 xs.length=R1 at *
  generalize xs.map Z8=ys at *
  generalize ZG e=ce at *
  rw[Zg (by rfl) Za3]
  simp -implicitDefEqProofs only[EQA,Zs,ZE,Zc,Xd,Xc,Xf,Xa,Xg,↓reduceIte,Za4,ZaZ,Zb,a4,hC,Xj]
  exact hO _
end
end
section
def Zke(q:Zx)(m:Int):Zx:={ q with clean:=Zk m 2 != 0,hasWill:=Zk m 4 != 0,hasPassword:=Zk m 64 != 0,hasUser:=Zk m 128 != 0,will:={ q.will with qos:=Zk (Zdq m) 3,retain:=Zk m 32 != 0 } }
def headD(q:Zx)(k:Int)(ps:List ZO)(cl:Zd):Zx:={ q with keep:=k,props:=ps,client:=cl }
def Zh7(b:Bool)(q:Zx)(l:Zd):Except Int (Zx×Zd):=if b=true then(match ZbJ l with
 | .error c=>.error c
 | .ok (d,r)=>.ok ({ q with password:=d },r))else .ok (q,l)
def Zgg(b:Bool)(q:Zx)(l:Zd):Except Int (Zx×Zd):=if b=true then(match Zaf l with
 | .error c=>.error c
 | .ok (d,r)=>.ok ({ q with user:=d },r))else .ok (q,l)
def ZgV(b:Bool)(q:Zx)(l:Zd):Except Int (Zx×Zd):=if b=true then(match ZeT l with
 | .error c=>.error c
 | .ok (ps,tp,d,r)=>.ok ({ q with will:={ q.will with props:=ps,topic:=tp,data:=d } },r))else .ok (q,l)
def Zi3(m:Int)(q:Zx)(l:Zd):Except Int (Zx×Zd):=match ZgV (Zk m 4 != 0) q l with
 | .error c=>.error c
 | .ok (q,l)=>match Zgg (Zk m 128 != 0) q l with
  | .error c=>.error c
  | .ok (q,l)=>Zh7 (Zk m 64 != 0) q l
def ZiO(q:Zx)(m:Int)(l:Zd):Except Int (Zx×Zd):=match Zaw 2 l with
 | .error c=>.error c
 | .ok (k,r4)=>match Zbj 1 r4 with
  | .error c=>.error c
  | .ok (ps,r5)=>match Zaf r5 with
   | .error c=>.error c
   | .ok (cl,r6)=>Zi3 m (headD (Zke q m) k ps cl) r6
def Zgy(q:Zx)(l:Zd):Except Int (Zx×Zd):=match Zaf l with
 | .error c=>.error c
 | .ok (s,r1)=>if(s==[77,81,84,84])=true then(match Zaw 1 r1 with
  | .error c=>.error c
  | .ok (v,r2)=>if(v==5)=true then(match Zaw 1 r2 with
   | .error c=>.error c
   | .ok (m,r3)=>if ZgL m (Zk (Zdq m) 3) (Zk m 4 != 0) (Zk m 32 != 0)=true then ZiO q m r3 else .error 129)
   else .error 132)
  else .error 132
structure Is(P:List AVal)(q:Zx):Prop where
 view:∀ G,Zae G P=some (ZC q,[])
 ok:P.all ZY=true
theorem Zp1{G:Za}{v y:AVal}{ts:List Nat}(hv:ZN G v=some (y,ts)):∀ {P ys:List AVal} {k:Nat},Zae G P=some (ys,[])->k<P.length->Zae G (P.set k v)=some (ys.set k y,ts)
 | [],_,_,_,h=>by simp at h
 |x::P,ys,k,h,hk=>by
  rw[Zae]at h
  split at h
  ·rename_i y0 t0 h0
   split at h
   ·rename_i ys0 us0 h1
    injection h with h;injection h with h2 h3
    obtain⟨rfl,rfl⟩:=List.append_eq_nil_iff.1 h3
    subst h2
    cases k with
    |zero =>
     rw[List.set_cons_zero,Zae,hv]
     simp only[h1,Xr]
     rfl
    |succ k =>
     rw[List.set_cons_succ,Zae,h0]
     simp only[Zp1 hv h1 (by simpa using hk)]
     rfl
   ·cases h
  ·cases h
theorem ZAo{v:AVal}(hv:ZY v=true):∀ {P:List AVal} {k:Nat},P.all ZY=true->(P.set k v).all ZY=true
 | [],_,_=>rfl
 |x::P,0,h=>by
  grind
 |x::P,k+1,h=>by
  grind
theorem Is.set{P:List AVal}{q q':Zx}(h:Is P q){k:Nat}{v y:AVal}(hk:k<P.length)(hv:∀ G,ZN G v=some (y,[]))(ho:ZY v=true)(hc:(ZC q).set k y=ZC q'):Is (P.set k v) q' :=
 ⟨fun G=>by rw[Zp1 (hv G) (h.view G) hk,hc],ZAo ho h.ok⟩
theorem ZNu:Is P0 ZX:=⟨fun G=>rfl,rfl⟩
section
variable {P:List AVal}{q:Zx}(hP:P.length=26)(h:Is P q)
include hP h
theorem ZD2(m:Int):Is (Zb1 P m) (Zke q m):=by
 unfold Zb1
 have h1:=h.set (k:=12) (q':={ q with clean:=Zk m 2 != 0 }) (v:=.bool (Zk m 2 != 0)) (by omega) (fun _=>rfl) rfl rfl
 have h2:=h1.set (k:=15) (q':={ q with clean:=Zk m 2 != 0,hasWill:=Zk m 4 != 0 }) (v:=.bool (Zk m 4 != 0)) (by simp[hP]) (fun _=>rfl) rfl rfl
 have h3:=h2.set (k:=23) (q':={ q with clean:=Zk m 2 != 0,hasWill:=Zk m 4 != 0,hasPassword:=Zk m 64 != 0 }) (v:=.bool (Zk m 64 != 0)) (by simp[hP]) (fun _=>rfl) rfl rfl
 have h4:=h3.set (k:=21) (q':={ q with clean:=Zk m 2 != 0,hasWill:=Zk m 4 != 0,hasPassword:=Zk m 64 != 0,hasUser:=Zk m 128 != 0 }) (v:=.bool (Zk m 128 != 0)) (by simp[hP]) (fun _=>rfl) rfl rfl
 have h5:=h4.set (k:=18) (q':={ q with clean:=Zk m 2 != 0,hasWill:=Zk m 4 != 0,hasPassword:=Zk m 64 != 0,hasUser:=Zk m 128 != 0,will:={ q.will with qos:=Zk (Zdq m) 3 } }) (v:=.int .i64 (Zk (Zdq m) 3)) (by simp[hP]) (fun _=>rfl) rfl rfl
 exact h5.set (k:=19) (v:=.bool (Zk m 32 != 0)) (by simp[hP]) (fun _=>rfl) rfl rfl
theorem ZQq(k:Int)(ps:List ZO)(cl:Zd):Is (ZjF P k ps cl) (headD q k ps cl):=by
 unfold ZjF
 have h1:=h.set (k:=13) (q':={ q with keep:=k }) (v:=.int .i64 k) (by omega) (fun _=>rfl) rfl rfl
 have h2:=h1.set (k:=9) (q':={ q with keep:=k,props:=ps }) (v:=.lst false (ps.map Zu)) (by simp[hP]) (fun _=>rfl) rfl rfl
 exact h2.set (k:=14) (v:=.str cl) (by simp[hP]) (fun _=>rfl) rfl rfl
theorem ZNo(ps:List ZO)(tp:Zd):Is (ZhT P ps tp) { q with will:={ q.will with props:=ps,topic:=tp } }:=by
 unfold ZhT
 have h1:=h.set (k:=20) (q':={ q with will:={ q.will with props:=ps } }) (v:=.lst false (ps.map Zu)) (by omega) (fun _=>rfl) rfl rfl
 exact h1.set (k:=16) (q':={ q with will:={ q.will with props:=ps,topic:=tp } }) (v:=.str tp) (by simp[hP]) (fun _=>rfl) rfl rfl
end
structure Nil3(P:List AVal):Prop where
 c6:P[6]?=some (.lst true [])
 c17:P[17]?=some (.lst true [])
 c24:P[24]?=some (.lst true [])
theorem Nil3.set{P:List AVal}(h:Nil3 P){k:Nat}{v:AVal}(h6:k≠6)(h17:k≠17)(h24:k≠24):Nil3 (P.set k v) :=
 ⟨by rw[Xl h6];exact h.c6,by rw[Xl h17];exact h.c17,by rw[Xl h24];exact h.c24⟩
def ZiI(x:Except Int KSt)(y:Except Int (Zx×Zd)):Prop:=match x with
 | .error e=>y=.error e
 | .ok (P,rws,l)=>∃ q,y=.ok (q,l)/\P.length=26/\Nil3 P/\Is (Zc7 P rws) q
theorem Zqh(P:List AVal):∀ rws:Rws,(Zc7 P rws).length=P.length
 | []=>rfl
 |(k,d)::r=>by rw[Zc7,List.length_set,Zqh P r]
section
variable {P:List AVal}{q:Zx}(hP:P.length=26)(hz:Nil3 P){rws:Rws}(hr:rws=[]\/∃ d,rws=[(17,d)])(h:Is (Zc7 P rws) q)(l:Zd)
include hP hz hr h
theorem ZRh(b:Bool):ZiI (ZgW b (P,rws,l)) (Zh7 b q l):=by
 unfold ZgW Zh7
 cases b
 ·exact⟨q,rfl,hP,hz,h⟩
 ·rw[if_pos rfl,if_pos rfl]
  cases hd:ZbJ l with
  |error c=>simp only[];exact rfl
  |ok a =>
   simp only[]
   refine⟨_,rfl,hP,hz,?_⟩
   have h2:=h.set (k:=24) (q':={ q with password:=a.1 }) (v:=.lst false (a.1.map Zh)) (by rw[Zqh];omega) (fun _=>rfl) rfl rfl
   rcases hr with rfl |⟨d,rfl⟩
   ·exact h2
   ·simp only[Zc7,XJ,Xp]at h2 ⊢
    rw[Wj _ _ (by omega)]
    exact h2
theorem ZUn(b:Bool):ZiI (ZfW b (P,rws,l)) (Zgg b q l):=by
 unfold ZfW Zgg
 cases b
 ·exact⟨q,rfl,hP,hz,h⟩
 ·rw[if_pos rfl,if_pos rfl]
  cases hd:Zaf l with
  |error c=>simp only[];exact rfl
  |ok a =>
   simp only[]
   refine⟨_,rfl,by simp[hP],hz.set (by omega) (by omega) (by omega),?_⟩
   have h2:=h.set (k:=22) (q':={ q with user:=a.1 }) (v:=.str a.1) (by rw[Zqh];omega) (fun _=>rfl) rfl rfl
   rcases hr with rfl |⟨d,rfl⟩
   ·exact h2
   ·simp only[Zc7]at h2 ⊢
    rw[Wj _ _ (by omega)]
    exact h2
end
section
variable {P:List AVal}{q:Zx}(hP:P.length=26)(hz:Nil3 P)(h:Is P q)(l:Zd)
include hP hz h
theorem ZB3(b:Bool):ZiI (ZhL b (P,[],l)) (ZgV b q l):=by
 unfold ZhL ZgV
 cases b
 ·exact⟨q,rfl,hP,hz,h⟩
 ·rw[if_pos rfl,if_pos rfl]
  cases hd:ZeT l with
  |error c=>simp only[];exact rfl
  |ok a =>
   obtain⟨ps,tp,d,r⟩:=a
   simp only[]
   have hL:(ZhT P ps tp).length=26:=by simp[ZhT,hP]
   refine⟨_,rfl,hL,(hz.set (by omega) (by omega) (by omega)).set (by omega) (by omega) (by omega),?_⟩
   exact(ZNo hP h ps tp).set (k:=17) (v:=.lst false (d.map Zh)) (by omega) (fun _=>rfl) rfl rfl
theorem ZB9{b:Bool}{P1:List AVal}{r1:Rws}{l1:Zd}(hw:ZhL b (P,[],l)=.ok (P1,r1,l1)):r1=[]\/∃ d,r1=[(17,d)]:=by
 unfold ZhL at hw
 grind
theorem ZJD{b:Bool}{s:KSt}{P1:List AVal}{r1:Rws}{l1:Zd}(hw:ZfW b s=.ok (P1,r1,l1)):r1=s.2.1:=by
 unfold ZfW at hw
 grind
theorem ZM9(m:Int):ZiI (Zj6 m (P,[],l)) (Zi3 m q l):=by
 unfold Zj6 Zi3
 have h1:=ZB3 hP hz h l (Zk m 4 != 0)
 cases hw:ZhL (Zk m 4 != 0) (P,[],l)with
 |error e =>
  rw[hw]at h1
  rw[show ZgV (Zk m 4 != 0) q l=.error e from h1]
  exact rfl
 |ok s =>
  obtain⟨P1,r1,l1⟩:=s
  have hs1:=ZB9 hP hz h l hw
  rw[hw]at h1
  obtain⟨q1,e1,hP1,hz1,i1⟩:=h1
  rw[e1]
  simp only
  have h2:=ZUn hP1 hz1 hs1 i1 l1 (Zk m 128 != 0)
  cases hu:ZfW (Zk m 128 != 0) (P1,r1,l1)with
  |error e =>
   rw[hu]at h2
   rw[show Zgg (Zk m 128 != 0) q1 l1=.error e from h2]
   exact rfl
  |ok s =>
   obtain⟨P2,r2,l2⟩:=s
   have hs2:=ZJD hP hz h hu
   simp only at hs2
   subst hs2
   rw[hu]at h2
   obtain⟨q2,e2,hP2,hz2,i2⟩:=h2
   rw[e2]
   exact ZRh hP2 hz2 hs1 i2 l2 _
theorem ZI4(m:Int):ZiI (ZjY P m l) (ZiO q m l):=by
 unfold ZjY ZiO
 cases h1:Zaw 2 l with
 |error c=>exact rfl
 |ok a =>
 obtain⟨k,r4⟩:=a
 simp only
 cases h2:Zbj 1 r4 with
 |error c=>exact rfl
 |ok a =>
 obtain⟨ps,r5⟩:=a
 simp only
 cases h3:Zaf r5 with
 |error c=>exact rfl
 |ok a =>
 obtain⟨cl,r6⟩:=a
 exact ZM9 (by simp[ZjF,Zb1,hP]) (by unfold ZjF Zb1;exact((((((((hz.set (by omega) (by omega) (by omega)).set (by omega) (by omega) (by omega)).set (by omega) (by omega) (by omega)).set (by omega) (by omega) (by omega)).set (by omega) (by omega) (by omega)).set (by omega) (by omega) (by omega)).set (by omega) (by omega) (by omega)).set (by omega) (by omega) (by omega)).set (by omega) (by omega) (by omega)) (ZQq (by simp[Zb1,hP]) (ZD2 hP h m) k ps cl) r6 m
theorem ZPH:ZiI (Zlz P l) (Zgy q l):=by
 unfold Zlz Zgy
 cases h1:Zaf l with
 |error c=>exact rfl
 |ok a =>
 obtain⟨s,r1⟩:=a
 simp only
 split
 case isFalse=>exact rfl
 cases h2:Zaw 1 r1 with
 |error c=>exact rfl
 |ok a =>
 obtain⟨v,r2⟩:=a
 simp only
 split
 case isFalse=>exact rfl
 cases h3:Zaw 1 r2 with
 |error c=>exact rfl
 |ok a =>
 obtain⟨m,r3⟩:=a
 simp only
 split
 case isFalse=>exact rfl
 exact ZI4 hP hz h r3 m
end
def ZcO(x:Except Int (Zx×Zd)):Except Int Zx:=match x with
 | .error e=>.error e
 | .ok (q,r)=>if r.length=0 then .ok q else .error 129
def ZgH(q:Zx)(l:Zd):Except Int (Zx×Zd):=match ZdA q.type l with
 | .error e=>.error e
 | .ok ((c,ps),r)=>.ok ({ q with code:=c,props:=ps.getD [] },r)
def idQ(q:Zx)(l:Zd):Except Int (Zx×Zd):=match idK l with
 | .error e=>.error e
 | .ok (n,r)=>ZgH { q with id:=n } r
def Zji(q:Zx)(l:Zd):Except Int (Zx×Zd):=match Zaw 1 l with
 | .error e=>.error e
 | .ok (f,r)=>if f<2 then(match ZaI 2 r with
  | .error e=>.error e
  | .ok (c,r2)=>match Zbj 2 r2 with
   | .error e=>.error e
   | .ok (ps,r3)=>.ok ({ q with present:=f==1,code:=c,props:=ps },r3))else .error 129
def ZkI(q:Zx)(l:Zd):Except Int Zx:=match ZbG Zbf 8 l with
 | .error e=>.error e
 | .ok (n,ps,ts)=>.ok { q with id:=n,props:=ps,subs:=ts }
def Zkv(q:Zx)(l:Zd):Except Int Zx:=match ZbG Zaf 10 l with
 | .error e=>.error e
 | .ok (n,ps,ts)=>.ok { q with id:=n,props:=ps,filters:=ts }
def Zif(q:Zx)(l:Zd):Except Int Zx:=match ZbG (ZaI q.type) q.type l with
 | .error e=>.error e
 | .ok (n,ps,ts)=>.ok { q with id:=n,props:=ps,codes:=ts }
def ZhK(t:Int)(l:Zd):Except Int Zx :=
 if t=1 then ZcO (Zgy { ZX with type:=1 } l)
 else if t=2 then ZcO (Zji { ZX with type:=2 } l)
 else if t=4\/t=5\/t=6\/t=7 then ZcO (idQ { ZX with type:=t } l)
 else if t=8 then ZkI { ZX with type:=8 } l
 else if t=10 then Zkv { ZX with type:=10 } l
 else if t=9\/t=11 then Zif { ZX with type:=t } l
 else if t=14\/t=15 then ZcO (ZgH { ZX with type:=t } l)
 else ZcO (.ok ({ ZX with type:=t },l))
def ZdL(b:Int)(l:Zd):Zx×Int :=
 if tyI b=0 then(ZX,129)else if tyI b=3 then ZlK b l
 else if ZaF b 15=Zc6 (tyI b)then(match ZhK (tyI b) l with
  | .error e=>(ZX,e)
  | .ok q=>(q,0))else(ZX,129)
def ZNs(H:Za):Prop:=∃ Q d e l,Q.length=26/\Ze Q=true/\H=Zbu Q [(17,d),(24,e)] l
def Zet (t : Int) (l : Zd) (x : Except Int Zx) : Prop := match x with
  | .ok q => (∃ Q L, Q.length = 26 /\ Ze Q = true /\ ZQ L = true /\ Nil3 Q /\ Is Q q /\ E 26 [.ref 0 0] (Zr (P0.set 0 (.int .i64 t)) l) = some (.tup [], [.var (Q ++ [L])])) \/
      (∃ Q L kk w ys, Q.length = 26 /\ Ze Q = true /\ ZQ L = true /\ (kk < 26 /\ (kk = 10 \/ w = 1)) /\ Nil3 Q /\ Is (Q.set kk (.lst false ys)) q /\ E 26 [.ref 0 0] (Zr (P0.set 0 (.int .i64 t)) l) = some (.tup [], [.var (Zi Q kk 1 0 ys.length ++ [L]), .row 0 w ys])) \/
      (∃ Q L d e, Q.length = 26 /\ Ze Q = true /\ ZQ L = true /\ Nil3 Q /\ Is (Zc7 Q [(17, d), (24, e)]) q /\ E 26 [.ref 0 0] (Zr (P0.set 0 (.int .i64 t)) l) = some (.tup [], [.var (Zbw Q 1 2 d.length e.length ++ [L]), .row 0 1 (d.map Zh), .row 0 1 (e.map Zh)]))
  | .error e => (∃ cs, Ze cs = true /\ E 26 [.ref 0 0] (Zr (P0.set 0 (.int .i64 t)) l) = some (.pan (ZG e), [.var cs])) \/
      (∃ Q L kk n w ys, Q.length = 26 /\ Ze Q = true /\ ZQ L = true /\ kk < 26 /\ E 26 [.ref 0 0] (Zr (P0.set 0 (.int .i64 t)) l) = some (.pan (ZG e), [.var (Zi Q kk 1 0 n ++ [L]), .row 0 w ys])) \/
      (∃ H, ZNs H /\ E 26 [.ref 0 0] (Zr (P0.set 0 (.int .i64 t)) l) = some (.pan (ZG e), H))
theorem Zl7{t:Int}{l:Zd}{q:Zx}{Q:List AVal}{r:Zd}(hQ:Q.length=26)(hN:Ze Q=true)(hz:Nil3 Q)(hi:Is Q q)(h:E 26 [.ref 0 0] (Zr (P0.set 0 (.int .i64 t)) l)=some (if r.length=0 then .tup []else .pan (ZG 129),Zr Q r)):Zet t l (ZcO (.ok (q,r))):=by
 unfold ZcO
 simp only
 split at h
 ·rename_i h0
  rw[if_pos h0]
  exact Xq ⟨Q,_,hQ,hN,rfl,hz,hi,h⟩
 ·rename_i h0
  rw[if_neg h0]
  exact Xq ⟨_,ZK Q hQ hN _,h⟩
theorem ZIs{t:Int}{l:Zd}{q:Zx}{Q:List AVal}{rws:Rws}{r:Zd}(hs:Shp rws)(hQ:Q.length=26)(hN:Ze Q=true)(hz:Nil3 Q)(hi:Is (Zc7 Q rws) q)(h:E 26 [.ref 0 0] (Zr (P0.set 0 (.int .i64 t)) l)=some (if r.length=0 then .tup []else .pan (ZG 129),Zbu Q rws r)):Zet t l (ZcO (.ok (q,r))):=by
 unfold ZcO
 simp only
 split at h
 ·rename_i h0
  rw[if_pos h0]
  rcases hs with rfl |⟨d,rfl⟩ |⟨d,rfl⟩ |⟨d,e,rfl⟩
  ·exact Xq ⟨Q,_,hQ,hN,rfl,hz,hi,h⟩
  ·refine Xt (Xq ⟨Q,.lnt r,17,1,d.map Zh,hQ,hN,rfl,by omega,hz,hi,?_⟩)
   rw[XS];exact h
  ·refine Xt (Xq ⟨Q,.lnt r,24,1,d.map Zh,hQ,hN,rfl,by omega,hz,hi,?_⟩)
   rw[XS];exact h
  ·exact Xt (Xt ⟨Q,.lnt r,d,e,hQ,hN,rfl,hz,hi,h⟩)
 ·rename_i h0
  rw[if_neg h0]
  rcases hs with rfl |⟨d,rfl⟩ |⟨d,rfl⟩ |⟨d,e,rfl⟩
  ·exact Xq ⟨_,ZK Q hQ hN r,h⟩
  ·exact Xt (Xq ⟨Q,.lnt r,17,d.length,1,d.map Zh,hQ,hN,rfl,by omega,h⟩)
  ·exact Xt (Xq ⟨Q,.lnt r,24,d.length,1,d.map Zh,hQ,hN,rfl,by omega,h⟩)
  ·exact Xt (Xt ⟨_,⟨Q,d,e,r,hQ,hN,rfl⟩,h⟩)
theorem ZmE{t:Int}{l:Zd}{kk w:Nat}{e:Int}(hk:kk<26)(h:Zj7 kk w l (P0.set 0 (.int .i64 t)) e):Zet t l (.error e):=by
 rcases h with⟨cs,h1,h2⟩ |⟨Q,n,r,ys,h1,h2,h3⟩
 ·exact Xq ⟨cs,h1,h2⟩
 ·exact Xt (Xq ⟨Q,.lnt r,kk,n,w,ys,h1,h2,rfl,hk,h3⟩)
section
variable (l:Zd)(hl:l.length<=1099511627775)
include hl
theorem hlP:l.length<=140737488355328:=by omega
theorem Zju(t:Int):Nil3 (P0.set 0 (.int .i64 t)):=⟨rfl,rfl,rfl⟩
theorem ZUm:Zet 1 l (ZcO (Zgy { ZX with type:=1 } l)):=by
 have hs:=ZPH (P:=P0.set 0 (.int .i64 1)) (q:={ ZX with type:=1 }) rfl (Zju l hl 1) ⟨fun G=>rfl,rfl⟩ l
 have hr:=ZOr (P0.set 0 (.int .i64 1)) rfl (by rfl) l (hlP l hl) (fun r _=>Zcs 1 r) (fun r _=>Zcs 16 r)
 cases hc:Zlz (P0.set 0 (.int .i64 1)) l with
 |error e =>
  rw[hc]at hs hr
  rw[show Zgy { ZX with type:=1 } l=.error e from hs]
  obtain⟨H,hE,he⟩:=KRuns.fnF (f:=53) (fn:=Zqe) (by rfl) Zxo hr
  have hb:=ZH8 (P0.set 0 (.int .i64 1)) rfl (by rfl) rfl l (hlP l hl) hE he
  rcases hE with⟨cs,hn,rfl⟩ |⟨Q,d,r,hQ,hQN,rfl⟩
  ·exact Xq ⟨cs,hn,hb⟩
  ·exact Xt (Xq ⟨Q,.lnt r,17,d.length,1,d.map Zh,hQ,hQN,rfl,by omega,hb⟩)
 |ok s =>
  obtain⟨Q,rws,r⟩:=s
  rw[hc]at hs hr
  obtain⟨q,e1,hQ,hz,hi⟩:=hs
  rw[e1]
  have hQN:Ze Q=true:=by obtain⟨_,_,_,h3,_⟩:=hr;exact h3
  have hsh:Shp rws:=by obtain⟨_,_,_,_,h4,_⟩:=hr;exact h4
  have he:=KRuns.fnT (f:=53) (fn:=Zqe) (by rfl) Zxo rfl hr
  exact ZIs hsh hQ hQN hz hi (ZU3 (P0.set 0 (.int .i64 1)) rfl (by rfl) rfl l (hlP l hl) hsh he hQ hQN)
theorem ZHZ:Zet 2 l (ZcO (Zji { ZX with type:=2 } l)):=by
 have hP:(P0.set 0 (.int .i64 2)).length=26:=rfl
 have hN:Ze (P0.set 0 (.int .i64 2))=true:=by rfl
 unfold Zji
 cases h1:Zaw 1 l with
 |error e=>exact Xq (ZN0 _ hP hN rfl l (hlP l hl) h1)
 |ok a =>
 obtain⟨f,r⟩:=a
 simp only
 split
 case isFalse hf=>exact Xq (ZOP _ hP hN rfl l (hlP l hl) h1 hf)
 rename_i hf
 cases h2:ZaI 2 r with
 |error e=>exact Xq (ZDh _ hP hN rfl l (hlP l hl) h1 hf h2)
 |ok a =>
 obtain⟨c,r2⟩:=a
 simp only
 cases h3:Zbj 2 r2 with
 |error e=>exact Xq (ZRV _ hP hN rfl l (hlP l hl) h1 hf h2 h3)
 |ok a =>
 obtain⟨ps,r3⟩:=a
 exact Zl7 (by simp[hP]) (Z7 (ZdE _ _) _ (Z7 rfl _ (Z7 rfl _ hN))) ⟨rfl,rfl,rfl⟩ ⟨fun G=>rfl,rfl⟩ (ZIU _ hP hN rfl l (hlP l hl) h1 hf h2 h3 (Zcs 2 r2))
theorem ZwO{P:List AVal}{q:Zx}(hP:P.length=26)(h:Is P q)(c:Int)(ps:Option (List ZO)):Is (Zfb P c ps) { q with code:=c,props:=ps.getD [] }:=by
 unfold Zfb
 have h1:=h.set (k:=7) (q':={ q with code:=c }) (v:=.int .i64 c) (by omega) (fun _=>rfl) rfl rfl
 cases ps with
 |none=>exact h1.set (k:=9) (v:=.lst true []) (by simp[hP]) (fun _=>rfl) rfl rfl
 |some ps=>exact h1.set (k:=9) (v:=.lst false (ps.map Zu)) (by simp[hP]) (fun _=>rfl) rfl rfl
theorem ZuO(k:Int)(hk:k=14\/k=15):Zet k l (ZcO (ZgH { ZX with type:=k } l)):=by
 have hP:(P0.set 0 (.int .i64 k)).length=26:=rfl
 have hN:Ze (P0.set 0 (.int .i64 k))=true:=by rfl
 unfold ZgH
 simp only
 cases h1:ZdA k l with
 |error e=>exact Xq (ZPB _ hP hN k hk rfl (fun r _=>Zcs k r) l (hlP l hl) h1)
 |ok a =>
 obtain⟨⟨c,ps⟩,r⟩:=a
 obtain⟨i1,i2⟩:=Zl2 hP hN c ps
 exact Zl7 i1 i2 (((⟨rfl,rfl,rfl⟩:Nil3 _).set (by omega) (by omega) (by omega)).set (by omega) (by omega) (by omega)) (ZwO l hl (q:={ ZX with type:=k }) hP ⟨fun G=>rfl,rfl⟩ c ps) (ZMj _ hP hN k hk rfl rfl rfl (fun r _=>Zcs k r) l (hlP l hl) h1)
theorem Zmb(k:Int)(hk:k=4\/k=5\/k=6\/k=7):Zet k l (ZcO (idQ { ZX with type:=k } l)):=by
 have hP:(P0.set 0 (.int .i64 k)).length=26:=rfl
 have hN:Ze (P0.set 0 (.int .i64 k))=true:=by rfl
 unfold idQ ZgH
 simp only
 cases h0:idK l with
 |error e=>exact Xq (ZCc _ hP hN k hk rfl l (hlP l hl) h0)
 |ok a =>
 obtain⟨n,r1⟩:=a
 simp only
 cases h1:ZdA k r1 with
 |error e=>exact Xq (ZGX _ hP hN k hk rfl (fun r _=>Zcs k r) l (hlP l hl) h0 h1)
 |ok a =>
 obtain⟨⟨c,ps⟩,r⟩:=a
 obtain⟨i1,i2⟩:=Zl2 (P:=(P0.set 0 (.int .i64 k)).set 4 (.int .i64 n)) rfl (by rfl) c ps
 exact Zl7 i1 i2 (((⟨rfl,rfl,rfl⟩:Nil3 _).set (by omega) (by omega) (by omega)).set (by omega) (by omega) (by omega)) (ZwO l hl (q:={ ZX with type:=k,id:=n }) rfl ⟨fun G=>rfl,rfl⟩ c ps) (ZPf _ hP hN k hk rfl rfl rfl (fun r _=>Zcs k r) l (hlP l hl) h0 h1)
theorem ZvG(k:Int)(hk:k=12\/k=13):Zet k l (ZcO (.ok ({ ZX with type:=k },l))) :=
 Zl7 (Q:=P0.set 0 (.int .i64 k)) rfl (by rfl) (Zju l hl k) ⟨fun G=>rfl,rfl⟩ (ZAZ _ rfl (by rfl) k hk rfl l)
theorem Zeq(k:Int):QOk k (P0.set 0 (.int .i64 k)):=⟨rfl,by rfl,rfl,rfl,rfl,rfl⟩
theorem Ze6(k:Int)(n:Int)(ps:List ZO):Is (Zbd (P0.set 0 (.int .i64 k)) n ps) { ZX with type:=k,id:=n,props:=ps }:=⟨fun G=>rfl,rfl⟩
theorem ZIJ:Zet 8 l (ZkI { ZX with type:=8 } l):=by
 unfold ZkI
 cases h:ZbG Zbf 8 l with
 |error e=>exact ZmE (by omega) (ZPV _ l hl (Zeq l hl 8) h)
 |ok a =>
 obtain⟨n,ps,ts⟩:=a
 have hQ:=ZcC (Zeq l hl 8) n ps
 have:=ZRs _ l hl (Zeq l hl 8) h
 rw[<-XS (f:=Z8)]at this
 exact Xt (Xq ⟨_,.lnt [],10,6,ts.map Z8,hQ.len,hQ.nor,rfl,by omega,((Zju l hl 8).set (by omega) (by omega) (by omega)).set (by omega) (by omega) (by omega),(Ze6 l hl 8 n ps).set (by unfold Zbd;simp[P0]) (fun _=>rfl) rfl rfl,this⟩)
theorem ZS8:Zet 10 l (Zkv { ZX with type:=10 } l):=by
 unfold Zkv
 cases h:ZbG Zaf 10 l with
 |error e=>exact ZmE (by omega) (ZMy _ l hl (Zeq l hl 10) h)
 |ok a =>
 obtain⟨n,ps,ts⟩:=a
 have hQ:=ZcC (Zeq l hl 10) n ps
 have:=ZPQ _ l hl (Zeq l hl 10) h
 rw[<-XS (f:=AVal.str)]at this
 exact Xt (Xq ⟨_,.lnt [],11,1,ts.map AVal.str,hQ.len,hQ.nor,rfl,by omega,((Zju l hl 10).set (by omega) (by omega) (by omega)).set (by omega) (by omega) (by omega),(Ze6 l hl 10 n ps).set (by unfold Zbd;simp[P0]) (fun _=>rfl) rfl rfl,this⟩)
theorem ZCY:Zet 9 l (Zif { ZX with type:=9 } l):=by
 unfold Zif
 simp only
 cases h:ZbG (ZaI 9) 9 l with
 |error e=>exact ZmE (by omega) (ZJ1 _ l hl (Zeq l hl 9) h)
 |ok a =>
 obtain⟨n,ps,ts⟩:=a
 have hQ:=ZcC (Zeq l hl 9) n ps
 have:=ZIe _ l hl (Zeq l hl 9) h
 rw[<-XS (f:=AVal.int .i64)]at this
 exact Xt (Xq ⟨_,.lnt [],8,1,ts.map (AVal.int .i64),hQ.len,hQ.nor,rfl,by omega,((Zju l hl 9).set (by omega) (by omega) (by omega)).set (by omega) (by omega) (by omega),(Ze6 l hl 9 n ps).set (by unfold Zbd;simp[P0]) (fun _=>rfl) rfl rfl,this⟩)
theorem ZEX:Zet 11 l (Zif { ZX with type:=11 } l):=by
 unfold Zif
 simp only
 cases h:ZbG (ZaI 11) 11 l with
 |error e=>exact ZmE (by omega) (ZNp _ l hl (Zeq l hl 11) h)
 |ok a =>
 obtain⟨n,ps,ts⟩:=a
 have hQ:=ZcC (Zeq l hl 11) n ps
 have:=ZQo _ l hl (Zeq l hl 11) h
 rw[<-XS (f:=AVal.int .i64)]at this
 exact Xt (Xq ⟨_,.lnt [],8,1,ts.map (AVal.int .i64),hQ.len,hQ.nor,rfl,by omega,((Zju l hl 11).set (by omega) (by omega) (by omega)).set (by omega) (by omega) (by omega),(Ze6 l hl 11 n ps).set (by unfold Zbd;simp[P0]) (fun _=>rfl) rfl rfl,this⟩)
theorem ZHz(t:Int)(h1:1<=t/\t<=15)(h3:t≠3):Zet t l (ZhK t l):=by
 have : t=1\/t=2\/t=4\/t=5\/t=6\/t=7\/t=8\/t=9\/t=10\/t=11\/t=12\/t=13\/t=14\/t=15:=by omega
 unfold ZhK
 rcases this with rfl |rfl |rfl |rfl |rfl |rfl |rfl |rfl |rfl |rfl |rfl |rfl |rfl |rfl
 ·exact ZUm l hl
 ·exact ZHZ l hl
 ·exact Zmb l hl 4 (by decide)
 ·exact Zmb l hl 5 (by decide)
 ·exact Zmb l hl 6 (by decide)
 ·exact Zmb l hl 7 (by decide)
 ·exact ZIJ l hl
 ·exact ZCY l hl
 ·exact ZS8 l hl
 ·exact ZEX l hl
 ·exact ZvG l hl 12 (by decide)
 ·exact ZvG l hl 13 (by decide)
 ·exact ZuO l hl 14 (by decide)
 ·exact ZuO l hl 15 (by decide)
end
theorem Zxx(b:Int)(hb:0<=b/\b<256):0<=tyI b/\tyI b<=15:=by
 have h:∀ n:Nat,n<256->0<=tyI (n:Int)/\tyI (n:Int)<=15:=by decide +kernel
 have:=h b.toNat (by omega)
 rwa [Int.toNat_of_nonneg hb.1]at this
def Zwg(b:Int)(l:Zd)(q:Zx)(c:Int):Prop :=
 (∃ Q,Q.length=26/\Ze Q=true/\Nil3 Q/\Is Q q/\E1 7 [.agg [.int .u8 b,.lnt l]] []=some (.tup [.agg Q,.int .i64 c],[])) \/
 (∃ Q kk w ys,Q.length=26/\Ze Q=true/\(kk<26/\(kk=10\/w=1))/\Nil3 Q/\Is (Q.set kk (.lst false ys)) q/\E1 7 [.agg [.int .u8 b,.lnt l]] []=some (.tup [.agg (Zi Q kk 0 0 ys.length),.int .i64 c],[.row 0 w ys])) \/
 (∃ Q d e,Q.length=26/\Ze Q=true/\Nil3 Q/\Is (Zc7 Q [(17,d),(24,e)]) q/\E1 7 [.agg [.int .u8 b,.lnt l]] []=some (.tup [.agg (Zbw Q 0 1 d.length e.length),.int .i64 c],[.row 0 1 (d.map Zh),.row 0 1 (e.map Zh)]))
theorem Zjv{Q:List AVal}{kk:Nat}{v w:AVal}(h:(Q.set kk v).all ZY=true)(hw:ZY w=true):(Q.set kk w).all ZY=true:=by
 have:=ZAo hw (k:=kk) h
 rwa [WD]at this
theorem ZAD{Q:List AVal}{a b c d:AVal}(h:((Q.set 24 a).set 17 b).all ZY=true)(hc:ZY c=true)(hd:ZY d=true):((Q.set 24 c).set 17 d).all ZY=true:=by
 have h1:=Zjv h hd
 rw[Wj _ _ (by omega)]at h1
 have h2:=Zjv h1 hc
 rwa [Wj _ _ (by omega)]at h2
theorem ZFG(b:Int)(hb:0<=b/\b<256)(l:Zd)(hl:l.length<=1099511627775):Zwg b l (ZdL b l).1 (ZdL b l).2:=by
 have hr:=Zxx b hb
 have hF:∀ c,Zdg [.agg [.int .u8 b,.lnt l]] []=some (.tup [.agg P0,.int .i64 c],[])->Zwg b l ZX c:=fun c h =>
  Xq ⟨P0,rfl,by rfl,⟨rfl,rfl,rfl⟩,ZNu,by rw[Zlu];exact h⟩
 unfold ZdL
 by_cases h0:tyI b=0
 ·rw[if_pos h0]
  exact hF 129 (Zhf b 129 l (Zoh b l (ZK _ rfl (by rfl) _) (ZJe P0 rfl (by rfl) b l h0)))
 rw[if_neg h0]
 by_cases h3:tyI b=3
 ·rw[if_pos h3]
  have hf:=ZPS P0 rfl (by rfl) b l h3
  have hQ:(Zc9 P0 b).length=26:=rfl
  have hN:Ze (Zc9 P0 b)=true:=by rfl
  unfold ZlK
  by_cases hq:qoI b<3
  ·rw[if_pos hq]at hf ⊢
   by_cases hd:qoI b>0\/(ZaF b 8 != 0)=false
   ·rw[if_pos hd]at hf ⊢
    cases hp:ZcM (qoI b) l with
    |error e =>
     obtain⟨cs,hn,hb⟩:=ZHW (Zc9 P0 b) hQ hN (qoI b) rfl rfl l (hlP l hl) hp
     exact hF e (Zhf b e l (ZxM b l hQ hN hn hf hb))
    |ok s =>
     obtain⟨tp,n,ps,pay⟩:=s
     have hb:=ZLo (Zc9 P0 b) hQ hN (qoI b) rfl rfl rfl (fun r _=>Zcs 3 r) l (hlP l hl) hp
     have g1:((((Zc9 P0 b).set 5 (.str tp)).set 4 (.int .i64 n)).set 9 (.lst false (ps.map Zu))).length=26:=rfl
     have g2:Ze ((((Zc9 P0 b).set 5 (.str tp)).set 4 (.int .i64 n)).set 9 (.lst false (ps.map Zu)))=true:=Z7 (ZdE _ _) _ (Z7 rfl _ (Z7 rfl _ hN))
     have g3:Is (((((Zc9 P0 b).set 5 (.str tp)).set 4 (.int .i64 n)).set 9 (.lst false (ps.map Zu))).set 6 (.lst false (pay.map Zh))) { ZX with type:=3,dup:=(ZaF b 8 != 0),qos:=qoI b,retain:=(ZaF b 1 != 0),id:=n,topic:=tp,props:=ps,payload:=pay }:=⟨fun G=>rfl,rfl⟩
     refine Xt (Xq ⟨_,6,1,pay.map Zh,g1,g2,by omega,⟨rfl,rfl,rfl⟩,g3,?_⟩)
     rw[Zlu,XS]
     exact ZAl b l hQ hN g1 g2 (by omega) (L:=.lst true []) rfl (fun r g m=>Zjv g3.ok rfl) hf hb
   ·rw[if_neg hd]at hf ⊢
    exact hF 130 (Zhf b 130 l (Zoh b l (ZK _ hQ hN _) hf))
  ·rw[if_neg hq]at hf ⊢
   exact hF 129 (Zhf b 129 l (Zoh b l (ZK _ hQ hN _) hf))
 rw[if_neg h3]
 by_cases hf:ZaF b 15=Zc6 (tyI b)
 case neg =>
  rw[if_neg hf]
  exact hF 129 (Zhf b 129 l (Zoh b l (ZK _ rfl (by rfl) _) (ZKJ P0 rfl (by rfl) b (tyI b) l rfl h0 h3 hf)))
 rw[if_pos hf]
 have hfi:=ZLf P0 rfl (by rfl) b (tyI b) l rfl h0 h3 hf
 have hB:=ZHz l hl (tyI b) (by omega) h3
 generalize tyI b=t at *
 have p1:(P0.set 0 (.int .i64 t)).length=26:=rfl
 have p2:Ze (P0.set 0 (.int .i64 t))=true:=by rfl
 cases hx:ZhK t l with
 |error e =>
  rw[hx]at hB
  rcases hB with⟨cs,hn,hb⟩ |⟨Q,L,kk,n,w,ys,hQ,hN,hL,hk,hb⟩ |⟨H,⟨Q,d,e',r,hQ,hN,rfl⟩,hb⟩
  ·exact hF e (Zhf b e l (ZxM b l p1 p2 hn hfi hb))
  ·exact hF e (Zhf b e l (ZIc b l p1 p2 hQ hN hk hL hfi hb))
  ·exact hF e (Zhf b e l (ZJl b l p1 p2 hQ hN (L:=.lnt r) rfl hfi hb))
 |ok q =>
  rw[hx]at hB
  rcases hB with⟨Q,L,hQ,hN,nL,hz,hi,hb⟩ |⟨Q,L,kk,w,ys,hQ,hN,nL,hk,hz,hi,hb⟩ |⟨Q,L,d,e,hQ,hN,nL,hz,hi,hb⟩
  ·exact Xq ⟨Q,hQ,hN,hz,hi,by rw[Zlu];exact ZNx b l p1 p2 hQ hN hi.ok nL hfi hb⟩
  ·exact Xt (Xq ⟨Q,kk,w,ys,hQ,hN,hk,hz,hi,by rw[Zlu];exact ZAl b l p1 p2 hQ hN hk.1 nL (fun r g m=>Zjv hi.ok rfl) hfi hb⟩)
  ·exact Xt (Xt ⟨Q,d,e,hQ,hN,hz,hi,by rw[Zlu];exact ZJS b l p1 p2 hQ hN nL (fun r r' m m'=>ZAD hi.ok rfl rfl) hfi hb⟩)
end
section
end
section
theorem ZLM(a b:ZO):E 74 [Zu a,Zu b] []=some (.bool (a.id==b.id&&a.num==b.num&&a.text==b.text&&a.pair==b.pair&&a.data==b.data),[]):=by
 rw[Zg (by rfl) ZLy]
 simp -implicitDefEqProofs only[EQA,ZE,Zc,ZT,Zdk,ZzT,Xd,Xc,Xa,Xg,Zc8,Zy,Z6,unG,reduceCtorEq,ZZ,ite_self,↓reduceIte,ZF2,ZuG,ZEc,Zb,Z4,Zu,Zcw]
theorem ZUA(a b:ZO):(a.id==b.id&&a.num==b.num&&a.text==b.text&&a.pair==b.pair&&a.data==b.data)=(a==b):=by
 obtain⟨i,n,t,p,d⟩:=a
 obtain⟨i',n',t',p',d'⟩:=b
 grind
theorem ZBW(a:ZO):Zai (Zu a)=true:=by
 simp -implicitDefEqProofs only[eq_self,XT,XW,XX,Zww,ZwP,Zvx,ZAG,Zu,Zcw,Z4]
theorem ZJV(a:ZO):Z1 (Zu a)=Zu a:=by
 simp -implicitDefEqProofs only[eq_self,Xu,XC,Zvj,Zwx,Zxq,Zvc,Zu,Zcw,Z4]
theorem ZCb(G:Za)(sq own:Nat)(view:Bool)(i n:Int)(t p d:Zd)(i' n':Int)(t' p' d':Zd):Zq E BY G sq 74 own view [.agg [.int .i64 i,.int .i64 n,.str t,.str p,.lst false (d.map Zh)],.agg [.int .i64 i',.int .i64 n',.str t',.str p',.lst false (d'.map Zh)]]=some (.bool (i==i'&&n==n'&&t==t'&&p==p'&&d==d'),G,{}) :=
 ZdI (ZLM ⟨i,n,t,p,d⟩ ⟨i',n',t',p',d'⟩) (by kernel_rfl) (by simp only[XW,ZBW];rfl) (by simp only[Xu,ZJV];rfl) rfl (fun _=>rfl) _ _ _ _
theorem Zvw(a b:List ZO)(h:a.length=b.length)(hl:a.length<=9223372036854775807):∀ (r s:List ZO) (i:Nat),a.drop i=r->b.drop i=s->ZmT 0 [(5,.int .i64 i),(1,ZbI b),(0,ZbI a)] []=some (.bool (r==s),[])
 | [],s,i,ha,hb=>by
  have hs:s=[]:=by
   subst hb;rw[XY]at ha ⊢;omega
  subst hs
  have h1:=Zep ha
  unfold ZmT
  rw[Z9]
  simp -implicitDefEqProofs only[EQA,Zc,Xc,Xa,reduceCtorEq,↓reduceIte,Ztc,ZIl,ZtB,ZyZ,Zna,Zb,ZbI,h1]
 |x::r,[],i,ha,hb=>by
  have:=(Zar ha).2.2;rw[XY]at hb;omega
 |x::r,y::s,i,ha,hb=>by
  have ih:=Zvw a b h hl r s (i+1) (Zar ha).2.1 (Zar hb).2.1
  have h1:(i:Int)<a.length:=by have:=(Zar ha).2.2;omega
  have e1:=iad (Zar ha).1 Zu (k:=5) rfl
  have e2:=iad (Zar hb).1 Zu (k:=5) rfl
  have e3:=Zd1 h1 hl
  unfold ZmT at ih ⊢
  rw[Z9]
  simp -implicitDefEqProofs only[EQA,ZE,Zc,ZT,Xd,Xc,Xf,Xa,Xg,unA,reduceCtorEq,↓reduceIte,gcT,gcA,Zw,Zt,Zo,ZB,Ztc,ZyZ,Zna,Zb,Z4,ZbI,Zu,Zcw,h1,e1,e2,e3,ZCb]
  simp only[ZbI]at ih
  rw[ih,ZUA]
  by_cases hx:x=y<;>simp[hx]
theorem ZIX(a b:List ZO)(hl:a.length<=9223372036854775807):E 29 [ZbI a,ZbI b] []=some (.bool (a==b),[]):=by
 rw[Zg (by rfl) ZGs]
 by_cases h:a.length=b.length
 ·have:=Zvw a b h hl a b 0 rfl rfl
  unfold ZmT at this
  simp only[ZbI]at this
  have e:=ZGq h
  simp -implicitDefEqProofs only[EQA,Zc,ZT,Xc,Xa,reduceCtorEq,↓reduceIte,gcT,gcA,Zw,Zt,Zo,ZB,Zxp,Znf,Zb,ZbI,e]
  exact this
 ·have e:=ZJ3 h
  simp -implicitDefEqProofs only[EQA,Zc,Xc,Xa,reduceCtorEq,↓reduceIte,Zxp,Znf,Ztc,Zb,ZbI,e,ZPs h]
theorem Zzt(G:Za)(sq own:Nat)(view:Bool)(a b:List ZO)(hl:a.length<=9223372036854775807):Zq E BY G sq 29 own view [.lst false (a.map Zu),.lst false (b.map Zu)]=some (.bool (a==b),G,{}) :=
 ZdI (ZIX a b hl) (by kernel_rfl) (by simp -implicitDefEqProofs only[Zem,ZbW,eq_self,ZbI]) (by simp -implicitDefEqProofs only[ZE,ZbW,eq_self,ZbI]) rfl (fun _=>rfl) _ _ _ _
end
section
def ZkC(a b:Zx):Bool :=
 ((((((((((((a.codes==b.codes&&a.subs==b.subs&&a.filters==b.filters&&a.props==b.props&&a.will.props==b.will.props)
  && (a.payload==b.payload&&a.password==b.password&&a.will.data==b.will.data))
  && (a.will.topic==b.will.topic&&a.will.qos==b.will.qos&&a.will.retain==b.will.retain))
  && (a.dup==b.dup&&a.retain==b.retain&&a.clean==b.clean&&a.hasWill==b.hasWill&&a.hasUser==b.hasUser&&a.hasPassword==b.hasPassword&&a.present==b.present))
  && a.type==b.type)&&a.qos==b.qos)&&a.id==b.id)&&a.topic==b.topic)&&a.code==b.code)&&a.keep==b.keep)&&a.client==b.client)&&a.user==b.user)
theorem ZPZ(a b:Zx):ZkC a b=true↔a=b:=by
 obtain⟨a1,a2,a3,a4,a5,a6,a7,a8,a9,a10,a11,a12,a13,a14,a15,a16,⟨a17,a18,a19,a20,a21⟩,a22,a23,a24,a25,a26⟩:=a
 obtain⟨b1,b2,b3,b4,b5,b6,b7,b8,b9,b10,b11,b12,b13,b14,b15,b16,⟨b17,b18,b19,b20,b21⟩,b22,b23,b24,b25,b26⟩:=b
 simp only[ZkC,Xk,beq_iff_eq,Zx.mk.injEq,Zzn.mk.injEq]
 grind
structure OkL(p:Zx):Prop where
 codes:p.codes.length<=9223372036854775807
 props:p.props.length<=9223372036854775807
 subs:p.subs.length<=9223372036854775807
 filters:p.filters.length<=9223372036854775807
 wprops:p.will.props.length<=9223372036854775807
end
section
def Ztm:Zf:=by apply Zb 9 [0] [];conv=>lhs;reduce;dsimp only[zi]
def Zpk:Zf:=by apply Zb 9 [1,0] [];conv=>lhs;reduce;dsimp only[zi]
def Zqo:Zf:=by apply Zb 9 [1,1,0] [];conv=>lhs;reduce;dsimp only[zi]
def Zn4:Zf:=.seq (.region [⟨some 5,.mov (.c (.int .i64 0)),none,[]⟩] none [5,3,2]) (.block 0 (.loop [5,3,2] Zm7))
theorem ZKg:ZqE=(.seq Ztm (.seq Zpk (.seq Zqo (.seq Zn4 ZpO)))):=by kernel_rfl
def t32:Tms:=[(3,.ref 1 0),(2,.ref 0 0)]
def Zcr:Tms:=[(3,.ref 0 0),(2,.ref 1 0)]
def ZkD(p q:Zx):Bool:=p.type==q.type&&p.dup==q.dup&&p.qos==q.qos&&p.retain==q.retain&&p.id==q.id&&p.topic==q.topic&&p.code==q.code&&p.clean==q.clean&&p.keep==q.keep&&p.client==q.client&&p.hasWill==q.hasWill&&p.hasUser==q.hasUser&&p.user==q.user&&p.hasPassword==q.hasPassword&&p.present==q.present
def Zjn(p q:Zx):Bool:=p.payload==q.payload&&p.password==q.password&&p.props==q.props&&decide (p.codes.length=q.codes.length)&&decide (p.subs.length=q.subs.length)&&decide (p.filters.length=q.filters.length)
def Zos(p q:Zx):Bool:=p.will.topic==q.will.topic&&p.will.data==q.will.data&&p.will.qos==q.will.qos&&p.will.retain==q.will.retain&&p.will.props==q.will.props
theorem bq{D:Type}[BEq D](a b:D):(a==b)=!(a != b):=by simp[bne]
theorem tf(b:Bool):b=true\/b=false:=by cases b<;>simp
theorem bl(a b:Nat):decide (a=b)=!((a:Int) != (b:Int)):=by
 grind
section
variable (p q:Zx)
theorem ZCl:evC FC PR BY 0 Zpk t32 [.var (ZC p),.var (ZC q)]=if ZkD p q then some (.normal,(112,.bool false)::t32,[.var (ZC p),.var (ZC q)])else some (.ret,[(4,.bool false)],[.var (ZC p),.var (ZC q)]):=by
 have a0:(ZC p)[0]?=some (.int .i64 p.type):=rfl
 have b0:(ZC q)[0]?=some (.int .i64 q.type):=rfl
 have a1:(ZC p)[1]?=some (.bool p.dup):=rfl
 have b1:(ZC q)[1]?=some (.bool q.dup):=rfl
 have a2:(ZC p)[2]?=some (.int .i64 p.qos):=rfl
 have b2:(ZC q)[2]?=some (.int .i64 q.qos):=rfl
 have a3:(ZC p)[3]?=some (.bool p.retain):=rfl
 have b3:(ZC q)[3]?=some (.bool q.retain):=rfl
 have a4:(ZC p)[4]?=some (.int .i64 p.id):=rfl
 have b4:(ZC q)[4]?=some (.int .i64 q.id):=rfl
 have a5:(ZC p)[5]?=some (.str p.topic):=rfl
 have b5:(ZC q)[5]?=some (.str q.topic):=rfl
 have a7:(ZC p)[7]?=some (.int .i64 p.code):=rfl
 have b7:(ZC q)[7]?=some (.int .i64 q.code):=rfl
 have a12:(ZC p)[12]?=some (.bool p.clean):=rfl
 have b12:(ZC q)[12]?=some (.bool q.clean):=rfl
 have a13:(ZC p)[13]?=some (.int .i64 p.keep):=rfl
 have b13:(ZC q)[13]?=some (.int .i64 q.keep):=rfl
 have a14:(ZC p)[14]?=some (.str p.client):=rfl
 have b14:(ZC q)[14]?=some (.str q.client):=rfl
 have a15:(ZC p)[15]?=some (.bool p.hasWill):=rfl
 have b15:(ZC q)[15]?=some (.bool q.hasWill):=rfl
 have a21:(ZC p)[21]?=some (.bool p.hasUser):=rfl
 have b21:(ZC q)[21]?=some (.bool q.hasUser):=rfl
 have a22:(ZC p)[22]?=some (.str p.user):=rfl
 have b22:(ZC q)[22]?=some (.str q.user):=rfl
 have a23:(ZC p)[23]?=some (.bool p.hasPassword):=rfl
 have b23:(ZC q)[23]?=some (.bool q.hasPassword):=rfl
 have a25:(ZC p)[25]?=some (.bool p.present):=rfl
 have b25:(ZC q)[25]?=some (.bool q.present):=rfl
 unfold ZkD t32
 generalize ZC p=P at *
 generalize ZC q=Q at *
 rw[bq p.type q.type]
 rw[bq p.qos q.qos]
 rw[bq p.id q.id]
 rw[bq p.code q.code]
 rw[bq p.keep q.keep]
 generalize h0:(p.type != q.type)=c0
 generalize h1:(p.dup==q.dup)=c1
 generalize h2:(p.qos != q.qos)=c2
 generalize h3:(p.retain==q.retain)=c3
 generalize h4:(p.id != q.id)=c4
 generalize h5:(p.topic==q.topic)=c5
 generalize h7:(p.code != q.code)=c7
 generalize h12:(p.clean==q.clean)=c12
 generalize h13:(p.keep != q.keep)=c13
 generalize h14:(p.client==q.client)=c14
 generalize h15:(p.hasWill==q.hasWill)=c15
 generalize h21:(p.hasUser==q.hasUser)=c21
 generalize h22:(p.user==q.user)=c22
 generalize h23:(p.hasPassword==q.hasPassword)=c23
 generalize h25:(p.present==q.present)=c25
 cases c0;obtain rfl |rfl:=tf c1;cases c2;obtain rfl |rfl:=tf c3;cases c4;obtain rfl |rfl:=tf c5;cases c7;obtain rfl |rfl:=tf c12;cases c13;obtain rfl |rfl:=tf c14;obtain rfl |rfl:=tf c15;obtain rfl |rfl:=tf c21;obtain rfl |rfl:=tf c22;obtain rfl |rfl:=tf c23;obtain rfl |rfl:=tf c25
 all_goals simp -implicitDefEqProofs only[EQA,Zc,Xd,Xc,Xa,Zc8,Zy,Z6,unG,reduceCtorEq,↓reduceIte,Zb,Zpk,a0,b0,a1,b1,a2,b2,a3,b3,a4,b4,a5,b5,a7,b7,a12,b12,a13,b13,a14,b14,a15,b15,a21,b21,a22,b22,a23,b23,a25,b25,h0,h1,h2,h3,h4,h5,h7,h12,h13,h14,h15,h21,h22,h23,h25]
theorem ZIj(hp:p.props.length<=9223372036854775807):evC FC PR BY 0 Zqo ((112,.bool false)::t32) [.var (ZC p),.var (ZC q)]=if Zjn p q then some (.normal,(163,.bool false)::t32,[.var (ZC p),.var (ZC q)])else some (.ret,[(4,.bool false)],[.var (ZC p),.var (ZC q)]):=by
 have a6:(ZC p)[6]?=some (.lst false (p.payload.map Zh)):=rfl
 have b6:(ZC q)[6]?=some (.lst false (q.payload.map Zh)):=rfl
 have a24:(ZC p)[24]?=some (.lst false (p.password.map Zh)):=rfl
 have b24:(ZC q)[24]?=some (.lst false (q.password.map Zh)):=rfl
 have a9:(ZC p)[9]?=some (.lst false (p.props.map Zu)):=rfl
 have b9:(ZC q)[9]?=some (.lst false (q.props.map Zu)):=rfl
 have a8:(ZC p)[8]?=some (.lst false (p.codes.map (AVal.int .i64))):=rfl
 have b8:(ZC q)[8]?=some (.lst false (q.codes.map (AVal.int .i64))):=rfl
 have a10:(ZC p)[10]?=some (.lst false (p.subs.map Z8)):=rfl
 have b10:(ZC q)[10]?=some (.lst false (q.subs.map Z8)):=rfl
 have a11:(ZC p)[11]?=some (.lst false (p.filters.map AVal.str)):=rfl
 have b11:(ZC q)[11]?=some (.lst false (q.filters.map AVal.str)):=rfl
 have hps:=fun G sq own=>Zzt G sq own true p.props q.props hp
 unfold Zjn t32
 generalize ZC p=P at *
 generalize ZC q=Q at *
 rw[bl p.codes.length q.codes.length]
 rw[bl p.subs.length q.subs.length]
 rw[bl p.filters.length q.filters.length]
 generalize h6:(p.payload==q.payload)=c6
 generalize h24:(p.password==q.password)=c24
 generalize (p.props==q.props)=c9 at *
 generalize h8:((p.codes.length:Int) != (q.codes.length:Int))=c8
 generalize h10:((p.subs.length:Int) != (q.subs.length:Int))=c10
 generalize h11:((p.filters.length:Int) != (q.filters.length:Int))=c11
 obtain rfl |rfl:=tf c6;obtain rfl |rfl:=tf c24;obtain rfl |rfl:=tf c9;cases c8;cases c10;cases c11
 all_goals simp -implicitDefEqProofs only[EQA,Zc,Xd,Xc,Xa,Zc8,unA,Zy,Z6,unG,reduceCtorEq,ZZ,↓reduceIte,Zb,Zqo,a6,b6,a24,b24,a9,b9,a8,b8,a10,b10,a11,b11,hps,h6,h24,h8,h10,h11]
end
theorem ZzD(a b:List Int)(P Q:List AVal)(ha:P[8]?=some (.lst false (a.map (AVal.int .i64))))(hb:Q[8]?=some (.lst false (b.map (AVal.int .i64))))(hrP:Ze P=true)(hrQ:Ze Q=true)(h:a.length=b.length)(hl:a.length<=9223372036854775807):∀ (r s:List Int) (i:Nat),i<=a.length->a.drop i=r->b.drop i=s->evL FC PR BY 0 [5,3,2] Zm7 ((5,.int .i64 i)::Zcr) [.var Q,.var P]=if r==s then some (.exit 0,(168,.bool false)::(5,.int .i64 a.length)::Zcr,[.var Q,.var P])else some (.ret,[(4,.bool false)],[.var Q,.var P])
 | [],s,i,hi,h1,h2=>by
  have hs:s=[]:=by
   subst h2;rw[XY]at h1 ⊢;omega
  subst hs
  have g1:=Zep h1
  have : i=a.length:=by have:=XY.1 h1;omega
  subst this
  rw[Z9]
  unfold Zcr
  simp -implicitDefEqProofs only[EQA,Zc,Xd,Xc,Xa,↓reduceIte,ZpA,Zk4,ha,g1]
 |x::r,[],i,hi,h1,h2=>by
  have:=(Zar h1).2.2;rw[XY]at h2;omega
 |x::r,y::s,i,hi,h1,h2=>by
  have ih:=ZzD a b P Q ha hb hrP hrQ h hl r s (i+1) (Zar h1).2.2 (Zar h1).2.1 (Zar h2).2.1
  have g1:(i:Int)<a.length:=by have:=(Zar h1).2.2;omega
  have e1:=iad (Zar h1).1 (AVal.int .i64) (k:=1) rfl
  have e2:=iad (Zar h2).1 (AVal.int .i64) (k:=1) rfl
  have e3:=Zd1 g1 hl
  have p1:=fun C=>Z5 C P hrP
  have q1:=fun C=>Z5 C Q hrQ
  have p2:=fun C=>(p1 C).1
  have q2:=fun C=>(q1 C).1
  have p3:=(p1 (fun _ _=>none)).2
  have q3:=(q1 (fun _ _=>none)).2
  rw[Z9]
  unfold Zcr at ih ⊢
  by_cases hx:x=y
  ·subst hx
   rw[show((x::r)==(x::s))=(r==s)from by simp]
   simp -implicitDefEqProofs only[EQA,ZE,Zc,ZT,ZbH,Xd,Xc,Xa,Xg,reduceCtorEq,↓reduceIte,gcT,gcA,Zw,Zt,Zn,Zo,ZI,Zm,ZD,Zz,ZB,ZpA,Zk4,ha,hb,g1,e1,e2,e3,p2,q2,p3,q3,bne_self_eq_false]
   exact ih
  ·rw[show((x::r)==(y::s))=false from by simp[hx]]
   have m1:(x != y)=true:=by simpa using hx
   simp -implicitDefEqProofs only[EQA,ZE,Zc,Xd,Xc,Xa,Xg,↓reduceIte,ZpA,Zk4,ha,hb,g1,e1,e2,m1]
theorem Zvi(a b:List Zd)(P Q:List AVal)(ha:P[11]?=some (.lst false (a.map (AVal.str))))(hb:Q[11]?=some (.lst false (b.map (AVal.str))))(hrP:Ze P=true)(hrQ:Ze Q=true)(h:a.length=b.length)(hl:a.length<=9223372036854775807):∀ (r s:List Zd) (i:Nat),i<=a.length->a.drop i=r->b.drop i=s->evL FC PR BY 0 [7,3,2] Zko ((7,.int .i64 i)::Zcr) [.var Q,.var P]=if r==s then some (.exit 4,(204,.bool false)::(7,.int .i64 a.length)::Zcr,[.var Q,.var P])else some (.ret,[(4,.bool false)],[.var Q,.var P])
 | [],s,i,hi,h1,h2=>by
  have hs:s=[]:=by
   subst h2;rw[XY]at h1 ⊢;omega
  subst hs
  have g1:=Zep h1
  have : i=a.length:=by have:=XY.1 h1;omega
  subst this
  rw[Z9]
  unfold Zcr
  simp -implicitDefEqProofs only[EQA,Zc,Xd,Xc,Xa,↓reduceIte,Zqw,Zk0,ha,g1]
 |x::r,[],i,hi,h1,h2=>by
  have:=(Zar h1).2.2;rw[XY]at h2;omega
 |x::r,y::s,i,hi,h1,h2=>by
  have ih:=Zvi a b P Q ha hb hrP hrQ h hl r s (i+1) (Zar h1).2.2 (Zar h1).2.1 (Zar h2).2.1
  have g1:(i:Int)<a.length:=by have:=(Zar h1).2.2;omega
  have e1:=iad (Zar h1).1 (AVal.str) (k:=1) rfl
  have e2:=iad (Zar h2).1 (AVal.str) (k:=1) rfl
  have e3:=Zd1 g1 hl
  have p1:=fun C=>Z5 C P hrP
  have q1:=fun C=>Z5 C Q hrQ
  have p2:=fun C=>(p1 C).1
  have q2:=fun C=>(q1 C).1
  have p3:=(p1 (fun _ _=>none)).2
  have q3:=(q1 (fun _ _=>none)).2
  rw[Z9]
  unfold Zcr at ih ⊢
  by_cases hx:x=y
  ·subst hx
   rw[show((x::r)==(x::s))=(r==s)from by simp]
   have m1:(x==x)=true:=by simp
   simp -implicitDefEqProofs only[EQA,ZE,Zc,ZT,ZbH,Xd,Xc,Xa,Xg,Zc8,reduceCtorEq,↓reduceIte,gcT,gcA,Zw,Zt,Zn,Zo,ZI,Zm,ZD,Zz,ZB,Zqw,Zk0,ha,hb,g1,e1,e2,e3,p2,q2,p3,q3]
   exact ih
  ·rw[show((x::r)==(y::s))=false from by simp[hx]]
   have m1:(x==y)=false:=by simpa using hx
   simp -implicitDefEqProofs only[EQA,ZE,Zc,Xd,Xc,Xa,Xg,Zc8,↓reduceIte,Zqw,Zk0,ha,hb,g1,e1,e2,m1]
theorem ZuK(a b:List ZcH)(P Q:List AVal)(ha:P[10]?=some (.lst false (a.map (Z8))))(hb:Q[10]?=some (.lst false (b.map (Z8))))(hrP:Ze P=true)(hrQ:Ze Q=true)(h:a.length=b.length)(hl:a.length<=9223372036854775807):∀ (r s:List ZcH) (i:Nat),i<=a.length->a.drop i=r->b.drop i=s->evL FC PR BY 0 [6,3,2] Zkp ((6,.int .i64 i)::Zcr) [.var Q,.var P]=if r==s then some (.exit 2,(186,.bool false)::(6,.int .i64 a.length)::Zcr,[.var Q,.var P])else some (.ret,[(4,.bool false)],[.var Q,.var P])
 | [],s,i,hi,h1,h2=>by
  have hs:s=[]:=by
   subst h2;rw[XY]at h1 ⊢;omega
  subst hs
  have g1:=Zep h1
  have : i=a.length:=by have:=XY.1 h1;omega
  subst this
  rw[Z9]
  unfold Zcr
  simp -implicitDefEqProofs only[EQA,Zc,Xd,Xc,Xa,↓reduceIte,ZsS,Zkd,ha,g1]
 |x::r,[],i,hi,h1,h2=>by
  have:=(Zar h1).2.2;rw[XY]at h2;omega
 |x::r,y::s,i,hi,h1,h2=>by
  have ih:=ZuK a b P Q ha hb hrP hrQ h hl r s (i+1) (Zar h1).2.2 (Zar h1).2.1 (Zar h2).2.1
  have g1:(i:Int)<a.length:=by have:=(Zar h1).2.2;omega
  have e1:=iad (Zar h1).1 (Z8) (k:=6) rfl
  have e2:=iad (Zar h2).1 (Z8) (k:=6) rfl
  have e3:=Zd1 g1 hl
  have p1:=fun C=>Z5 C P hrP
  have q1:=fun C=>Z5 C Q hrQ
  have p2:=fun C=>(p1 C).1
  have q2:=fun C=>(q1 C).1
  have p3:=(p1 (fun _ _=>none)).2
  have q3:=(q1 (fun _ _=>none)).2
  rw[Z9]
  unfold Zcr at ih ⊢
  by_cases hx:x=y
  ·subst hx
   rw[show((x::r)==(x::s))=(r==s)from by simp]
   obtain⟨f1,q1',n1,a1,d1,i1⟩:=x
   simp only[Z8,AVal.cells]at e1 e2
   have kd:Zhu [2,0,1,1,0,0] [AVal.str f1,.int .i64 q1',.bool n1,.bool a1,.int .i64 d1,.int .i64 i1]=true:=rfl
   have ke:ZeO [AVal.str f1,.int .i64 q1',.bool n1,.bool a1,.int .i64 d1,.int .i64 i1] [AVal.str f1,.int .i64 q1',.bool n1,.bool a1,.int .i64 d1,.int .i64 i1]=some true:=by
    have : ZeO [AVal.str f1,.int .i64 q1',.bool n1,.bool a1,.int .i64 d1,.int .i64 i1] [AVal.str f1,.int .i64 q1',.bool n1,.bool a1,.int .i64 d1,.int .i64 i1]=some (f1==f1&&(q1'==q1'&&(n1==n1&&(a1==a1&&(d1==d1&&(i1==i1&&true)))))):=rfl
    rw[this];simp
   simp -implicitDefEqProofs only[EQA,Zc,ZT,ZbH,Xd,Xc,Xf,Xa,Xg,reduceCtorEq,↓reduceIte,gcT,gcA,Zw,Zt,Zn,Zo,ZI,Zm,ZD,Zz,ZB,ZsS,Zkd,ha,hb,g1,e1,e2,e3,p2,q2,p3,q3,kd,ke,bne_self_eq_false]
   exact ih
  ·rw[show((x::r)==(y::s))=false from by simp[hx]]
   obtain⟨f1,q1',n1,a1,d1,i1⟩:=x
   obtain⟨f2,q2',n2,a2,d2,i2⟩:=y
   simp only[Z8,AVal.cells]at e1 e2
   have kd:Zhu [2,0,1,1,0,0] [AVal.str f1,.int .i64 q1',.bool n1,.bool a1,.int .i64 d1,.int .i64 i1]=true:=rfl
   have ke:ZeO [AVal.str f1,.int .i64 q1',.bool n1,.bool a1,.int .i64 d1,.int .i64 i1] [AVal.str f2,.int .i64 q2',.bool n2,.bool a2,.int .i64 d2,.int .i64 i2]=some false:=by
    have : ZeO [AVal.str f1,.int .i64 q1',.bool n1,.bool a1,.int .i64 d1,.int .i64 i1] [AVal.str f2,.int .i64 q2',.bool n2,.bool a2,.int .i64 d2,.int .i64 i2]=some (f1==f2&&(q1'==q2'&&(n1==n2&&(a1==a2&&(d1==d2&&(i1==i2&&true)))))):=rfl
    rw[this]
    congr 1
    rw[Bool.eq_false_iff]
    intro hh
    simp only[Xk,beq_iff_eq,Bool.and_true]at hh
    obtain⟨rfl,rfl,rfl,rfl,rfl,rfl⟩:=hh
    exact hx rfl
   have bf:(false != true)=true:=rfl
   simp -implicitDefEqProofs only[EQA,Zc,Xd,Xc,Xf,Xa,Xg,↓reduceIte,ZsS,Zkd,ha,hb,g1,e1,e2,kd,ke,bf]
theorem ZSf(p q:Zx){tm:Tms}(ht:tm=(204,.bool false)::(7,.int .i64 p.filters.length)::Zcr)(hp:p.will.props.length<=9223372036854775807):∃ H,evC FC PR BY 0 Zm1 tm [.var (ZC q),.var (ZC p)]=some (.ret,[(4,.bool (Zos p q))],H):=by
 subst ht
 have hps:=fun G sq own=>Zzt G sq own true p.will.props q.will.props hp
 have tp:((ZC p).drop 16).take 5=[.str p.will.topic,.lst false (p.will.data.map Zh),.int .i64 p.will.qos,.bool p.will.retain,.lst false (p.will.props.map Zu)]:=rfl
 have tq:((ZC q).drop 16).take 5=[.str q.will.topic,.lst false (q.will.data.map Zh),.int .i64 q.will.qos,.bool q.will.retain,.lst false (q.will.props.map Zu)]:=rfl
 have lp:=Zub p
 have lq:=Zub q
 unfold Zos Zcr
 generalize ZC p=P at *
 generalize ZC q=Q at *
 refine⟨[.var Q,.var P,.var [.str p.will.topic,.lst false (p.will.data.map Zh),.int .i64 p.will.qos,.bool p.will.retain,.lst false (p.will.props.map Zu)],.var [.str q.will.topic,.lst false (q.will.data.map Zh),.int .i64 q.will.qos,.bool q.will.retain,.lst false (q.will.props.map Zu)]],?_⟩
 generalize h_topic:(p.will.topic==q.will.topic)=c_topic
 generalize h_data:(p.will.data==q.will.data)=c_data
 generalize h_qos:(p.will.qos==q.will.qos)=c_qos
 generalize h_retain:(p.will.retain==q.will.retain)=c_retain
 generalize (p.will.props==q.will.props)=c_p at *
 obtain rfl |rfl:=tf c_topic;obtain rfl |rfl:=tf c_data;obtain rfl |rfl:=tf c_qos;obtain rfl |rfl:=tf c_retain;cases c_p
 all_goals simp -implicitDefEqProofs only[EQA,Zc,Xd,Xc,Xf,Xa,Xg,Zc8,Zy,Z6,unG,ZZ,↓reduceIte,ZCo,Zq4,tp,tq,lp,lq,AVal.cells,ZY,hps,h_topic,h_data,h_qos,h_retain,ZaG,ZaP,ZaU,Zbi,Zbl,Zbg,Zbq,Zbo,ZaV,XP]
theorem Ze4(p:Zx):Ze (ZC p)=true:=rfl
theorem ZN2(p q:Zx)(h:p.codes.length=q.codes.length)(hl:p.codes.length<=9223372036854775807):evC FC PR BY 0 Zn4 ((163,.bool false)::t32) [.var (ZC p),.var (ZC q)]=if p.codes==q.codes then some (.normal,(168,.bool false)::(5,.int .i64 p.codes.length)::Zcr,[.var (ZC q),.var (ZC p)])else some (.ret,[(4,.bool false)],[.var (ZC q),.var (ZC p)]):=by
 have key:=ZzD p.codes q.codes (ZC p) (ZC q) rfl rfl (Ze4 p) (Ze4 q) h hl p.codes q.codes 0 (by omega) rfl rfl
 have p1:=fun C=>Z5 C (ZC p) (Ze4 p)
 have q1:=fun C=>Z5 C (ZC q) (Ze4 q)
 have p2:=fun C=>(p1 C).1
 have q2:=fun C=>(q1 C).1
 have p3:=(p1 (fun _ _=>none)).2
 have q3:=(q1 (fun _ _=>none)).2
 have z0:((0:Nat):Int)=0:=rfl
 rw[z0]at key
 generalize ZC p=P at *
 generalize ZC q=Q at *
 unfold Zcr at *
 try unfold t32
 cases hx:(p.codes==q.codes)<;>rw[hx]at key<;>simp only[Xi,if_false,if_true]at key ⊢
 ·simp -implicitDefEqProofs only[EQA,Zc,ZT,ZbH,Xd,Xc,Xa,Xg,reduceCtorEq,↓reduceIte,gcT,gcA,Zw,Zt,Zn,Zo,ZI,Zm,ZD,Zz,ZB,Zn4,p2,q2,p3,q3,key]
 ·simp -implicitDefEqProofs only[EQA,Zc,ZT,ZbH,Xd,Xc,Xa,Xg,reduceCtorEq,↓reduceIte,gcT,gcA,Zw,Zt,Zn,Zo,ZI,Zm,ZD,Zz,ZB,Zn4,p2,q2,p3,q3,key]
theorem ZSt(p q:Zx)(h:p.subs.length=q.subs.length)(hl:p.subs.length<=9223372036854775807):evC FC PR BY 0 (.seq (.region [⟨some 6,.mov (.c (.int .i64 0)),none,[]⟩] none [6,3,2]) (.block 2 (.loop [6,3,2] Zkp))) ((168,.bool false)::(5,.int .i64 p.codes.length)::Zcr) [.var (ZC q),.var (ZC p)]=if p.subs==q.subs then some (.normal,(186,.bool false)::(6,.int .i64 p.subs.length)::Zcr,[.var (ZC q),.var (ZC p)])else some (.ret,[(4,.bool false)],[.var (ZC q),.var (ZC p)]):=by
 have key:=ZuK p.subs q.subs (ZC p) (ZC q) rfl rfl (Ze4 p) (Ze4 q) h hl p.subs q.subs 0 (by omega) rfl rfl
 have p1:=fun C=>Z5 C (ZC p) (Ze4 p)
 have q1:=fun C=>Z5 C (ZC q) (Ze4 q)
 have p2:=fun C=>(p1 C).1
 have q2:=fun C=>(q1 C).1
 have p3:=(p1 (fun _ _=>none)).2
 have q3:=(q1 (fun _ _=>none)).2
 have z0:((0:Nat):Int)=0:=rfl
 rw[z0]at key
 generalize ZC p=P at *
 generalize ZC q=Q at *
 unfold Zcr at *
 try unfold t32
 cases hx:(p.subs==q.subs)<;>rw[hx]at key<;>simp only[Xi,if_false,if_true]at key ⊢
 ·simp -implicitDefEqProofs only[EQA,Zc,ZT,ZbH,Xd,Xc,Xa,Xg,reduceCtorEq,↓reduceIte,gcT,gcA,Zw,Zt,Zn,Zo,ZI,Zm,ZD,Zz,ZB,p2,q2,p3,q3,key]
 ·simp -implicitDefEqProofs only[EQA,Zc,ZT,ZbH,Xd,Xc,Xa,Xg,reduceCtorEq,↓reduceIte,gcT,gcA,Zw,Zt,Zn,Zo,ZI,Zm,ZD,Zz,ZB,p2,q2,p3,q3,key]
theorem ZLX(p q:Zx)(h:p.filters.length=q.filters.length)(hl:p.filters.length<=9223372036854775807):evC FC PR BY 0 (.seq (.region [⟨some 7,.mov (.c (.int .i64 0)),none,[]⟩] none [7,3,2]) (.block 4 (.loop [7,3,2] Zko))) ((186,.bool false)::(6,.int .i64 p.subs.length)::Zcr) [.var (ZC q),.var (ZC p)]=if p.filters==q.filters then some (.normal,(204,.bool false)::(7,.int .i64 p.filters.length)::Zcr,[.var (ZC q),.var (ZC p)])else some (.ret,[(4,.bool false)],[.var (ZC q),.var (ZC p)]):=by
 have key:=Zvi p.filters q.filters (ZC p) (ZC q) rfl rfl (Ze4 p) (Ze4 q) h hl p.filters q.filters 0 (by omega) rfl rfl
 have p1:=fun C=>Z5 C (ZC p) (Ze4 p)
 have q1:=fun C=>Z5 C (ZC q) (Ze4 q)
 have p2:=fun C=>(p1 C).1
 have q2:=fun C=>(q1 C).1
 have p3:=(p1 (fun _ _=>none)).2
 have q3:=(q1 (fun _ _=>none)).2
 have z0:((0:Nat):Int)=0:=rfl
 rw[z0]at key
 generalize ZC p=P at *
 generalize ZC q=Q at *
 unfold Zcr at *
 try unfold t32
 cases hx:(p.filters==q.filters)<;>rw[hx]at key<;>simp only[Xi,if_false,if_true]at key ⊢
 ·simp -implicitDefEqProofs only[EQA,Zc,ZT,ZbH,Xd,Xc,Xa,Xg,reduceCtorEq,↓reduceIte,gcT,gcA,Zw,Zt,Zn,Zo,ZI,Zm,ZD,Zz,ZB,p2,q2,p3,q3,key]
 ·simp -implicitDefEqProofs only[EQA,Zc,ZT,ZbH,Xd,Xc,Xa,Xg,reduceCtorEq,↓reduceIte,gcT,gcA,Zw,Zt,Zn,Zo,ZI,Zm,ZD,Zz,ZB,p2,q2,p3,q3,key]
theorem ZMI(m:Nat)(tm:Tms)(G:Za):evC FC PR BY m ZpO tm G=evC FC PR BY m (.seq (.seq (.region [⟨some 6,.mov (.c (.int .i64 0)),none,[]⟩] none [6,3,2]) (.block 2 (.loop [6,3,2] Zkp))) ZsT) tm G:=xw _ _ (by kernel_rfl) m tm G
theorem ZEV(m:Nat)(tm:Tms)(G:Za):evC FC PR BY m ZsT tm G=evC FC PR BY m (.seq (.seq (.region [⟨some 7,.mov (.c (.int .i64 0)),none,[]⟩] none [7,3,2]) (.block 4 (.loop [7,3,2] Zko))) Zm1) tm G:=xw _ _ (by kernel_rfl) m tm G
theorem ZKk(p q:Zx):ZkC p q=(ZkD p q&&Zjn p q&&(p.codes==q.codes)&&(p.subs==q.subs)&&(p.filters==q.filters)&&Zos p q):=by
 rw[XaE]
 unfold ZkC ZkD Zjn Zos
 grind
theorem ZI9(p q:Zx)(h:OkL p)(hw:p.will.props.length<=9223372036854775807):E 9 [ZcA p,ZcA q] []=some (.bool (ZkC p q),[]):=by
 have nop:∀ (b:Bool) (H:Za),Zax 0 ZrW (some (.ret,[(4,.bool b)],H))=some (.bool b,[]):=by
  intro b H
  show ZR 0 H (.bool b)=_
  simp[ZR,gcA,Zw,Zl,ZH,Zt,Zj,Zp,Zo]
 have h1:evC FC PR BY 0 Ztm (enterA 0 [ZcA p,ZcA q] []) []=some (.normal,t32,[.var (ZC p),.var (ZC q)]):=by
  rw[ZgY,ZgY]
  unfold t32
  simp -implicitDefEqProofs only[EQA,Zc,Xd,Xc,Xa,Xg,reduceCtorEq,↓reduceIte,Zb,Ztm,AVal.cells]
 rw[Zg (by rfl) ZSG]
 show Zax 0 ZrW (evC FC PR BY 0 ZqE (enterA 0 [ZcA p,ZcA q] []) [])=_
 rw[ZKg,Zb3 h1,ZKk]
 have h2:=ZCl p q
 cases e1:ZkD p q<;>rw[e1]at h2<;>simp only[Xi,if_false,if_true]at h2
 ·rw[Zfr (by simp) h2,nop];rfl
 rw[Zb3 h2]
 have h3:=ZIj p q h.props
 cases e2:Zjn p q<;>rw[e2]at h3<;>simp only[Xi,if_false,if_true]at h3
 ·rw[Zfr (by simp) h3,nop];rfl
 rw[Zb3 h3]
 have hlen:p.codes.length=q.codes.length/\p.subs.length=q.subs.length/\p.filters.length=q.filters.length:=by
  unfold Zjn at e2
  simp only[Xk,decide_eq_true_eq]at e2
  exact⟨e2.1.1.2,e2.1.2,e2.2⟩
 have h4:=ZN2 p q hlen.1 h.codes
 cases e3:(p.codes==q.codes)<;>rw[e3]at h4<;>simp only[Xi,if_false,if_true]at h4
 ·rw[Zfr (by simp) h4,nop];rfl
 rw[Zb3 h4,ZMI]
 have h5:=ZSt p q hlen.2.1 h.subs
 cases e4:(p.subs==q.subs)<;>rw[e4]at h5<;>simp only[Xi,if_false,if_true]at h5
 ·rw[Zfr (by simp) h5,nop];rfl
 rw[Zb3 h5,ZEV]
 have h6:=ZLX p q hlen.2.2 h.filters
 cases e5:(p.filters==q.filters)<;>rw[e5]at h6<;>simp only[Xi,if_false,if_true]at h6
 ·rw[Zfr (by simp) h6,nop];rfl
 rw[Zb3 h6]
 obtain⟨H,h7⟩:=ZSf p q rfl hw
 grind
end
section
theorem ZyO(w:Int):∀ (n:Nat) (b:Zd) (l:List ZO),(ZdR w n b l).1.length<=l.length+b.length
 |n,[],l=>by rw[Zrm];simp
 |0,c::r,l=>by simp[ZdR]
 |n+1,c::r,l=>by
  rw[Zro]
  split
  ·rename_i h
   have hu:=ZqW h
   have ih:=ZyO w n ((c::r).drop (Zci w (c::r) l).2.1) (l++[(Zci w (c::r) l).1])
   rw[Wt,XM,List.length_singleton]at ih
   omega
  ·simp
structure OkR(p:Zx):Prop where
 codes:p.codes.length<=9223372036854775807
 props:p.props.length<=9223372036854775807
 subs:p.subs.length<=9223372036854775807
 filters:p.filters.length<=9223372036854775807
 wprops:p.will.props.length<=9223372036854775807
 pay:p.payload.length<=1099511627776
 wd:p.will.data.length<=1099511627776
 pw:p.password.length<=1099511627776
theorem ZwB{l r d:Zd}(h:ZbJ l=.ok (d,r)):d.length<=1099511627776:=by
 unfold ZbJ at h
 split at h
 ·injection h with h;injection h with h _;subst h
  unfold ZL
  split
  ·simp
  ·have:=Zpi (l.take 2) (by simp;omega)
   simp only[WK,Wt]
   omega
 ·cases h
theorem Zh4{w:Int}{b r:Zd}{l:List ZO}(h:Zbj w b=.ok (l,r)):l.length<=9223372036854775807:=by
 have hlt:=ZrF b
 have:=ZyO w (Zas b).1 ((b.take ((Zas b).2.1+(Zas b).1)).drop (Zas b).2.1) []
 simp only[Wt,WK,Xw]at this
 unfold Zbj at h
 split at h
 ·injection h with h
  injection h with h1 h2
  subst h1
  unfold Zab
  grind
 ·cases h
theorem Zyz{D:Type}{one:Zd->RK D}:∀ {n:Nat} {l:Zd} {ts:List D},ZaR one n l=.ok ts->ts.length<=n
 |0,l,ts,h=>by
  unfold ZaR at h
  grind
 |n+1,l,ts,h=>by
  unfold ZaR at h
  split at h
  ·grind
  ·split at h
   ·cases h
   ·split at h
    ·cases h
    ·rename_i t ht
     injection h with h;subst h
     have:=Zyz ht
     simp;omega
theorem Zsw{D:Type}{one:Zd->RK D}{k:Int}{l:Zd}(hl:l.length<=9223372036854775807){n:Int}{ps:List ZO}{ts:List D}(h:ZbG one k l=.ok (n,ps,ts)):ps.length<=9223372036854775807/\ts.length<=9223372036854775807:=by
 unfold ZbG at h
 split at h
 ·cases h
 rename_i n' ps' r hm
 have l1:=Zk2 hm
 split at h
 ·cases h
 rename_i us hu
 injection h with h;injection h with e1 h;injection h with e2 e3;subst e1 e2 e3
 have:=Zyz hu
 refine⟨?_,by omega⟩
 unfold Zea at hm
 repeat' split at hm
 all_goals first |(cases hm;done) |(injection hm with hm;injection hm with _ hm;injection hm with e _;subst e;exact Zh4 ‹_›)
theorem ZRe{qos:Int}{l tp pay:Zd}{n:Int}{ps:List ZO}(e:ZcM qos l=.ok (tp,n,ps,pay)):ps.length<=9223372036854775807/\pay.length<=l.length:=by
 unfold ZcM at e
 split at e
 ·cases e
 rename_i ht
 have l1:=ZdP ht
 split at e
 ·split at e
  ·cases e
  rename_i hi
  have l2:=ZfR hi
  split at e
  ·cases e
  rename_i hp
  have l3:=ZgT hp
  injection e with e;injection e with _ e;injection e with _ e;injection e with e1 e2;subst e1 e2
  exact⟨Zh4 hp,by omega⟩
 ·split at e
  ·cases e
  rename_i hp
  have l3:=ZgT hp
  injection e with e;injection e with _ e;injection e with _ e;injection e with e1 e2;subst e1 e2
  exact⟨Zh4 hp,by omega⟩
theorem ZyX {q q' : Zx} {l r : Zd} (h : OkR q) (e : ZgH q l = .ok (q', r)) : OkR q' := by
  unfold ZgH ZdA at e
  repeat' split at e
  all_goals first
    | (cases e; done)
    | (rename_i e2
       injection e with e; injection e with e _; subst e
       repeat' split at e2
       all_goals first
         | (cases e2; done)
         | (injection e2 with e2; injection e2 with e2 _; injection e2 with _ e2; subst e2
            first
              | exact ⟨h.codes, Zh4 ‹_›, h.subs, h.filters, h.wprops, h.pay, h.wd, h.pw⟩
              | exact ⟨h.codes, by simp, h.subs, h.filters, h.wprops, h.pay, h.wd, h.pw⟩))
theorem ZGO {b : Bool} {q q' : Zx} {l r : Zd} (h : OkR q) (e : ZgV b q l = .ok (q', r)) : OkR q' := by
  unfold ZgV ZeT at e
  repeat' split at e
  all_goals first
    | (cases e; done)
    | (injection e with e; injection e with e _; subst e; exact h)
    | (rename_i e2
       injection e with e; injection e with e _; subst e
       repeat' split at e2
       all_goals first
         | (cases e2; done)
         | (injection e2 with e2; injection e2 with e1 e2; injection e2 with _ e2; injection e2 with e3 _; subst e1 e3
            exact ⟨h.codes, h.props, h.subs, h.filters, Zh4 ‹_›, h.pay, ZwB ‹_›, h.pw⟩))
theorem ZK2{b:Bool}{q q':Zx}{l r:Zd}(h:OkR q)(e:Zgg b q l=.ok (q',r)):OkR q':=by
 unfold Zgg at e
 repeat' split at e
 all_goals first |(cases e;done) |(injection e with e;injection e with e _;subst e;exact⟨h.codes,h.props,h.subs,h.filters,h.wprops,h.pay,h.wd,h.pw⟩)
theorem ZLE{b:Bool}{q q':Zx}{l r:Zd}(h:OkR q)(e:Zh7 b q l=.ok (q',r)):OkR q':=by
 unfold Zh7 at e
 repeat' split at e
 all_goals first |(cases e;done) |(injection e with e;injection e with e _;subst e;first |exact h |exact⟨h.codes,h.props,h.subs,h.filters,h.wprops,h.pay,h.wd,ZwB ‹_›⟩)
theorem ZFh {q q' : Zx} {l r : Zd} (h : OkR q) (e : Zgy q l = .ok (q', r)) : OkR q' := by
  unfold Zgy ZiO Zi3 at e
  repeat' split at e
  all_goals first
    | (cases e; done)
    | (refine ZLE (ZK2 (ZGO ?_ ‹_›) ‹_›) e
       exact ⟨h.codes, Zh4 ‹_›, h.subs, h.filters, h.wprops, h.pay, h.wd, h.pw⟩)
theorem Zkx{x:Except Int (Zx×Zd)}{q:Zx}(h:∀ q r,x=.ok (q,r)->OkR q)(e:ZcO x=.ok q):OkR q:=by
 unfold ZcO at e
 grind
theorem Zh6(k n:Int):OkR { ZX with type:=k,id:=n }:=⟨by simp[ZX],by simp[ZX],by simp[ZX],by simp[ZX],by simp[ZX],by simp[ZX],by simp[ZX],by simp[ZX]⟩
theorem ZF9{t:Int}{l:Zd}(hl:l.length<=9223372036854775807){q:Zx}(e:ZhK t l=.ok q):OkR q:=by
 unfold ZhK at e
 split at e
 ·exact Zkx (fun _ _ h=>ZFh (Zh6 1 0) h) e
 split at e
 ·refine Zkx (fun q r h=>?_) e
  unfold Zji at h
  repeat' split at h
  all_goals first |(cases h;done) |(injection h with h;injection h with h _;subst h;exact⟨by simp[ZX],Zh4 ‹_›,by simp[ZX],by simp[ZX],by simp[ZX],by simp[ZX],by simp[ZX],by simp[ZX]⟩)
 split at e
 ·refine Zkx (fun q r h=>?_) e
  unfold idQ at h
  split at h
  ·cases h
  exact ZyX (Zh6 t _) h
 split at e
 ·unfold ZkI at e
  split at e
  ·cases e
  have:=Zsw hl ‹_›
  injection e with e;subst e
  exact⟨by simp[ZX],this.1,this.2,by simp[ZX],by simp[ZX],by simp[ZX],by simp[ZX],by simp[ZX]⟩
 split at e
 ·unfold Zkv at e
  split at e
  ·cases e
  have:=Zsw hl ‹_›
  injection e with e;subst e
  exact⟨by simp[ZX],this.1,by simp[ZX],this.2,by simp[ZX],by simp[ZX],by simp[ZX],by simp[ZX]⟩
 split at e
 ·unfold Zif at e
  split at e
  ·cases e
  have:=Zsw hl ‹_›
  injection e with e;subst e
  exact⟨this.2,this.1,by simp[ZX],by simp[ZX],by simp[ZX],by simp[ZX],by simp[ZX],by simp[ZX]⟩
 split at e
 ·exact Zkx (fun _ _ h=>ZyX (Zh6 t 0) h) e
 ·exact Zkx (fun q r h=>by injection h with h;injection h with h _;subst h;exact Zh6 t 0) e
theorem ZAh (b : Int) (l : Zd) (hl : l.length <= 1099511627776) : OkR (ZdL b l).1 := by
  unfold ZdL
  split
  . exact Zh6 0 0
  split
  . unfold ZlK
    repeat' split
    all_goals first
      | exact Zh6 0 0
      | (have := ZRe ‹_›
         exact ⟨by simp [ZX], this.1, by simp [ZX], by simp [ZX], by simp [ZX], by grind, by simp [ZX], by simp [ZX]⟩)
  . repeat' split
    all_goals first | exact Zh6 0 0 | exact ZF9 (show l.length <= 9223372036854775807 by omega) ‹_›
end
section
def Zhz:Zf:=by apply Zb 12 [] [];conv=>lhs;reduce;dsimp only[zi]
def ZrR:ZM:=⟨[],Zhz⟩
theorem Zjf:FC 12=some ZrR:=by kernel_rfl
theorem Zi0:ZrR.body=Zhz:=rfl
theorem ZiY:ZrR.res=[]:=rfl
def Zso:Zf:=by apply Zb 13 [] [];conv=>lhs;reduce;dsimp only[zi]
def Zqa:ZM:=⟨[(.tmp 2)],Zso⟩
theorem ZTl:FC 13=some Zqa:=by kernel_rfl
theorem ZOa:Zqa.body=Zso:=rfl
theorem ZHY:Zqa.res=[(.tmp 2)]:=rfl
def ZpR:Zf:=(.seq (.region [oI 2 (.mov (.c (.bool true)))] none [2]) .ret)
@[irreducible] def ZuR:Zf:=ZpR
def ZJR:=xw ZuR ZpR (by kernel_rfl)
def Zra:Zf:=by apply Zb 31 [1,1,1,0,1,0,0] [];conv=>lhs;reduce;dsimp only[zi]
@[irreducible] def ZxY:Zf:=Zra
def ZSV:=xw ZxY Zra (by kernel_rfl)
def Zo3:Zf:=(.seq (.seq (.region [oI 5 (.mov (.c (.int .i64 0)))] none [5,0]) (.block 4 (.loop [5,0] ZxY))) ZuR)
@[irreducible] def Zvg:Zf:=Zo3
def ZKh:=xw Zvg Zo3 (by kernel_rfl)
def Zst:Zf:=by apply Zb 31 [1,1,0,1,0,0] [];conv=>lhs;reduce;dsimp only[zi]
@[irreducible] def ZyF:Zf:=Zst
def ZRQ:=xw ZyF Zst (by kernel_rfl)
def Ztg:Zf:=(.seq (.seq (.region [oI 4 (.mov (.c (.int .i64 0)))] none [4,0]) (.block 2 (.loop [4,0] ZyF))) Zvg)
@[irreducible] def ZwS:Zf:=Ztg
def ZQP:=xw ZwS Ztg (by kernel_rfl)
def Zuv:Zf:=by apply Zb 31 [1,0,1,0,0] [];conv=>lhs;reduce;dsimp only[zi]
@[irreducible] def Zy6:Zf:=Zuv
def ZS9:=xw Zy6 Zuv (by kernel_rfl)
def Zrb:Zf:=by apply Zb 31 [] [([1,0,1,0,0],Zy6),([1,1],ZwS)];conv=>lhs;reduce;dsimp only[zi]
def ZtK:ZM:=⟨[(.tmp 2)],Zrb⟩
theorem ZEz:FC 31=some ZtK:=by kernel_rfl
theorem ZHO:ZtK.body=Zrb:=rfl
theorem ZTt:ZtK.res=[(.tmp 2)]:=rfl
def Ztt:Zf:=(.seq (.region [oI 2 (.mov (.c (.bool true)))] none [2]) .ret)
@[irreducible] def Zws:Zf:=Ztt
def ZTC:=xw Zws Ztt (by kernel_rfl)
def ZMg:Zf:=(.region [oM 74 8,oI 75 (.bin .add (.t 74) (.c (.int .i64 1))),oM 8 75] none [8,5,0])
@[irreducible] def ZBJ:Zf:=ZMg
def ZT6:Zf:=by apply Zb 34 [1,1,1,1,0,1,0,0,1,0,0,1,1] [];conv=>lhs;reduce;dsimp only[zi]
@[irreducible] def ZLm:Zf:=ZT6
def ZDN:Zf:=by apply Zb 34 [1,1,1,1,0,1,0,0,1,0,0,1,0,1,0,0] [];conv=>lhs;reduce;dsimp only[zi]
@[irreducible] def ZIH:Zf:=ZDN
def ZqH:Zf:=by apply Zb 34 [1,1,1,1,0,1,0,0] [([1,0,0,1,0,1,0,0],ZIH),([1,0,0,1,1],ZLm),([1,1],ZBJ)];conv=>lhs;reduce;dsimp only[zi]
@[irreducible] def Zxm:Zf:=ZqH
def ZCR:=xw Zxm ZqH (by kernel_rfl)
def Zs2:Zf:=by apply Zb 34 [1,1,1,1] [([0,1,0,0],Zxm),([1],Zws)];conv=>lhs;reduce;dsimp only[zi]
@[irreducible] def ZzA:Zf:=Zs2
def ZRS:=xw ZzA Zs2 (by kernel_rfl)
def ZpH:Zf:=by apply Zb 34 [1,1,1,0,1,0,0] [];conv=>lhs;reduce;dsimp only[zi]
@[irreducible] def Zzi:Zf:=ZpH
def ZBY:=xw Zzi ZpH (by kernel_rfl)
def ZtQ:Zf:=by apply Zb 34 [1,1] [([1,0,1,0,0],Zzi),([1,1],ZzA)];conv=>lhs;reduce;dsimp only[zi]
@[irreducible] def Zyg:Zf:=ZtQ
def ZE5:=xw Zyg ZtQ (by kernel_rfl)
def ZG7:Zf:=(.region [oM 18 3,oI 19 (.bin .add (.t 18) (.c (.int .i64 1))),oM 3 19] none [3,0])
@[irreducible] def ZPE:Zf:=ZG7
def ZLn:Zf:=by apply Zb 34 [1,0,1,0,0,1,0,0,1,0,0] [];conv=>lhs;reduce;dsimp only[zi]
@[irreducible] def ZP3:Zf:=ZLn
def ZrG:Zf:=by apply Zb 34 [1,0,1,0,0] [([1,0,0,1,0,0],ZP3),([1,1],ZPE)];conv=>lhs;reduce;dsimp only[zi]
@[irreducible] def ZuJ:Zf:=ZrG
def ZQL:=xw ZuJ ZrG (by kernel_rfl)
def Zui:Zf:=by apply Zb 34 [] [([1,0,1,0,0],ZuJ),([1,1],Zyg)];conv=>lhs;reduce;dsimp only[zi]
def Zqs:ZM:=⟨[(.tmp 2)],Zui⟩
theorem ZJ0:FC 34=some Zqs:=by kernel_rfl
theorem ZFp:Zqs.body=Zui:=rfl
theorem ZIm:Zqs.res=[(.tmp 2)]:=rfl
def Zqg:Zf:=(.seq (.region [oI 2 (.mov (.c (.bool true)))] none [2]) .ret)
@[irreducible] def Zxn:Zf:=Zqg
def ZRN:=xw Zxn Zqg (by kernel_rfl)
def ZSp:Zf:=(.region [oM 77 8,oI 78 (.bin .add (.t 77) (.c (.int .i64 1))),oM 8 78] none [8,5,0])
@[irreducible] def ZPv:Zf:=ZSp
def ZTL:Zf:=by apply Zb 33 [1,1,1,1,0,1,0,0,1,0,0,1,1] [];conv=>lhs;reduce;dsimp only[zi]
@[irreducible] def ZFJ:Zf:=ZTL
def ZQ3:Zf:=by apply Zb 33 [1,1,1,1,0,1,0,0,1,0,0,1,0,1,0,0] [];conv=>lhs;reduce;dsimp only[zi]
@[irreducible] def ZL7:Zf:=ZQ3
def Zuh:Zf:=by apply Zb 33 [1,1,1,1,0,1,0,0] [([1,0,0,1,0,1,0,0],ZL7),([1,0,0,1,1],ZFJ),([1,1],ZPv)];conv=>lhs;reduce;dsimp only[zi]
@[irreducible] def Zwz:Zf:=Zuh
def ZBX:=xw Zwz Zuh (by kernel_rfl)
def ZtJ:Zf:=by apply Zb 33 [1,1,1,1] [([0,1,0,0],Zwz),([1],Zxn)];conv=>lhs;reduce;dsimp only[zi]
@[irreducible] def ZwJ:Zf:=ZtJ
def ZQa:=xw ZwJ ZtJ (by kernel_rfl)
def Zux:Zf:=by apply Zb 33 [1,1,1,0,1,0,0] [];conv=>lhs;reduce;dsimp only[zi]
@[irreducible] def ZuY:Zf:=Zux
def ZBd:=xw ZuY Zux (by kernel_rfl)
def ZrH:Zf:=by apply Zb 33 [1,1] [([1,0,1,0,0],ZuY),([1,1],ZwJ)];conv=>lhs;reduce;dsimp only[zi]
@[irreducible] def Zw8:Zf:=ZrH
def ZDT:=xw Zw8 ZrH (by kernel_rfl)
def ZKb:Zf:=(.region [oM 18 3,oI 19 (.bin .add (.t 18) (.c (.int .i64 1))),oM 3 19] none [3,0])
@[irreducible] def ZCO:Zf:=ZKb
def ZLK:Zf:=by apply Zb 33 [1,0,1,0,0,1,0,0,1,0,0] [];conv=>lhs;reduce;dsimp only[zi]
@[irreducible] def ZT3:Zf:=ZLK
def ZrX:Zf:=by apply Zb 33 [1,0,1,0,0] [([1,0,0,1,0,0],ZT3),([1,1],ZCO)];conv=>lhs;reduce;dsimp only[zi]
@[irreducible] def ZAk:Zf:=ZrX
def ZNl:=xw ZAk ZrX (by kernel_rfl)
def Zsi:Zf:=by apply Zb 33 [] [([1,0,1,0,0],ZAk),([1,1],Zw8)];conv=>lhs;reduce;dsimp only[zi]
def Zsp:ZM:=⟨[(.tmp 2)],Zsi⟩
theorem ZU8:FC 33=some Zsp:=by kernel_rfl
theorem ZSm:Zsp.body=Zsi:=rfl
theorem ZM2:Zsp.res=[(.tmp 2)]:=rfl
def ZqO:Zf:=(.seq (.region [oI 4 (.mov (.c (.bool true)))] none [4]) .ret)
@[irreducible] def Zun:Zf:=ZqO
def ZAW:=xw Zun ZqO (by kernel_rfl)
def Zmg:Zf:=by apply Zb 11 [1,1,1,1,0,1,0,0] [];conv=>lhs;reduce;dsimp only[zi]
@[irreducible] def ZoN:Zf:=Zmg
def Zy9:=xw ZoN Zmg (by kernel_rfl)
def Ztu:Zf:=by apply Zb 11 [] [([1,1,1,1,0,1,0,0],ZoN),([1,1,1,1,1],Zun)];conv=>lhs;reduce;dsimp only[zi]
def ZnG:ZM:=⟨[(.tmp 4)],Ztu⟩
theorem ZLO:FC 11=some ZnG:=by kernel_rfl
theorem ZA9:ZnG.body=Ztu:=rfl
theorem ZUP:ZnG.res=[(.tmp 4)]:=rfl
noncomputable def Zop(m:Nat)(tm:Tms)(G:Za):Option (AVal×Za):=(Zax m ZnG (Zb0 FC PR BY m Zun (Option.map (Zbm 0) (evL FC PR BY m [6,0] ZoN tm G))))
def ZmN:Zf:=by apply Zb 5 [] [];conv=>lhs;reduce;dsimp only[zi]
def ZqS:ZM:=⟨[(.tmp 4)],ZmN⟩
theorem ZCA:FC 5=some ZqS:=by kernel_rfl
theorem Zxg:ZqS.body=ZmN:=rfl
theorem Zzo:ZqS.res=[(.tmp 4)]:=rfl
def Zuq:Zf:=by apply Zb 6 [] [];conv=>lhs;reduce;dsimp only[zi]
def ZuC:ZM:=⟨[(.tmp 2)],Zuq⟩
theorem ZP5:FC 6=some ZuC:=by kernel_rfl
theorem ZBL:ZuC.body=Zuq:=rfl
theorem ZES:ZuC.res=[(.tmp 2)]:=rfl
def Zpj:Zf:=by apply Zb 20 [] [];conv=>lhs;reduce;dsimp only[zi]
def Zql:ZM:=⟨[(.tmp 4)],Zpj⟩
theorem ZTa:FC 20=some Zql:=by kernel_rfl
theorem ZIZ:Zql.body=Zpj:=rfl
theorem ZRy:Zql.res=[(.tmp 4)]:=rfl
def Znb:Zf:=by apply Zb 30 [] [];conv=>lhs;reduce;dsimp only[zi]
def Zus:ZM:=⟨[(.tmp 2)],Znb⟩
theorem Zwc:FC 30=some Zus:=by kernel_rfl
theorem Zyn:Zus.body=Znb:=rfl
theorem ZAv:Zus.res=[(.tmp 2)]:=rfl
end
section
theorem ZNE(b:Zd)(n:Int)(h0:0<=n):E 5 [Z4 b,.int .i64 n] []=some (Z4 (b.take n.toNat),[]):=by
 rw[Zg (by rfl) ZCA]
 by_cases h:n<(b.length:Int)
 ·have hl:n<=(b.length:Int):=by omega
  simp -implicitDefEqProofs only[EQA,Zc,Xc,Xa,reduceCtorEq,↓reduceIte,Zxg,ZmN,Zzo,Zb,Z4,h0,h,hl,Zjx]
 ·have hl:b.take n.toNat=b:=XG (by omega)
  simp -implicitDefEqProofs only[EQA,Zc,Xc,Xa,reduceCtorEq,↓reduceIte,Zxg,ZmN,Zzo,Zb,Z4,h,hl]
theorem ZFs(G:Za)(sq own:Nat)(view:Bool)(b:Zd)(n:Int)(h0:0<=n):Zq E BY G sq 5 own view [.lst false (b.map Zh),.int .i64 n]=some (.lst false ((b.take n.toNat).map Zh),G,{}) :=
 ZdI (ZNE b n h0) (by kernel_rfl) (by simp -implicitDefEqProofs only[Zem,ZbW,eq_self,Z4]) (by simp -implicitDefEqProofs only[ZE,ZbW,eq_self,Z4]) rfl (fun _=>rfl) _ _ _ _
end
section
theorem Zz8{O:ZS}{bf:Nat->Bool}{G:Za}{sq f own:Nat}{view:Bool}{args vs vs':List AVal}{ids:List Nat}{h0 h:Za}{r0 r:AVal}(hb:bf f=false)(hsh:showAs G args=some (vs,[]))(hre:Zt G 1000 (Zl vs) []=ids)(hne:ids.isEmpty=false)
  (hall:(ids.all fun t=>okB (G.getD t .free))=true) (hvs:Zj (Zn G 0 ids) vs=vs') (hh:Zo G 0 ids (Zn G 0 ids) ids 0=h0) {hh0:Za} (hO:O f vs' h0=some (r0,hh0)) (hv:ZV view ids.length (some (r0,hh0))=some (r,h))
  (hl1:h.length<=ids.length+own) (hl2:ids.length<=h.length) (hk:Za1 G ids h 0=true) (hff:Zaj G sq own=true) {r':AVal} (hr:Zp (Zak G ids sq) r=r') {G':Za} (hlay:ZaQ G ids sq h 0 G=G') {u:List (Nat×List AVal)} (hu:Za9 G' ids=u) (hvl:vs.any Zcx=false:=by first |rfl |exact ZcG ‹_› |(rw[Wu,ZcG ‹_›];rfl) |exact Zew ‹_›) :
  Zq O bf G sq f own view args=some (r',G',{ any:=true,upd:=u }):=by
 subst hr hlay hu
 unfold Zq
 rw[Zfx hb hsh hvl]
 simp only[show Zv G []=G from rfl,hre]
 unfold Zbk
 rw[if_pos hall,hvs,hh,hO,Zdo,hv]
 simp only[Zaz,hne,Wi,Xi,if_false,hl1,hl2,decide_true,hk,hff,XT,if_true]
theorem Zwo{O:ZS}{bf:Nat->Bool}{G:Za}{t sq f own k:Nat}{view:Bool}{args args' xs xs':List AVal}{r:AVal}{b':ZP}(hs:G[t]?=some (.row 0 k xs))(hb:bf f=true)(hb2:bf (f+2000000)=false)(hb3:bf (f+3000000)=false)(hff:Zaj G sq own=true)
  (href:Zl args=[t]) (hren:∀ C:Rho,C t 0=some (0,0)->Zj C args=args') (hr:∀ C:Rho,Zp C r=r) (hb':b'=.row 0 k xs'\/b'=.frow 0 k xs')
  (h:ZV view 1 (O f args' [.row 0 k xs])=some (r,[b'])):Zq O bf G sq f own view args=some (r,G.set t b',{ any:=true }):=by
 have hd:G.getD t .free=.row 0 k xs:=by simp[Xh,hs]
 have hf0:Zv G []=G:=rfl
 unfold Zq
 rw[ZwA hb hb2 hb3]
 simp only[hf0,href]
 have hreach:Zt G 1000 [t] []=[t]:=by
  simp only[Zt,Wh,Xi,if_false,hd,ZB,Xp]
 rw[hreach]
 unfold Zbk
 have hall:([t].all fun t=>okB (G.getD t .free))=true:=by simp[XW,XX,hs,okB]
 rw[if_pos hall]
 have hC:Zn G 0 [t] t 0=some (0,0):=by simp[Zn,ZI,hs,Zm,ZD]
 have hheap:Zo G 0 [t] (Zn G 0 [t]) [t] 0=[.row 0 k xs]:=by
  simp only[Zo,hd,ZD,Zm,Zz,Nat.not_lt_zero,false_and,if_false]
 rw[hren _ hC,hheap]
 simp only[Xz,Xw,XF,Zdo]
 rw[h]
 have hk:Za1 G [t] [b'] 0=true:=by
  rcases hb' with rfl |rfl<;>simp[Za1,okB,hs,Zcy,Zm]
 have hren':∀ C,Zz C (ZbZ G [t] 0 b') b'=b':=by
  intro C
  rcases hb' with rfl |rfl<;>simp[ZbZ,hs,Zm,Zz]
 simp only[Zaz,WC,Xi,if_false,Xz,Xw,XF,Nat.le_add_right,XH,decide_true,hk,hff,XT,if_true,ZaQ,Za9,ZaA,Xm,hr,hren']
 grind
end
section
theorem ZBA(b:Zd):(b.map Zh).all Za2=true:=by
 rw[List.all_map]
 exact List.all_eq_true.2 fun _ _=>rfl
def Zdr(b:Zd):List AVal:=b.map Zh++[.int .u8 165,.int .u8 90]
theorem ZBM(b:Zd)(hb:b.length<=140737488355326):E 6 [Z4 b] []=some (.sl 0 0 0 b.length,[.row 0 1 (Zdr b)]):=by
 obtain⟨n2,hn⟩:∃ n2,n2=b.length+2:=⟨_,rfl⟩
 have w1:IntKind.i64.wrap ((b.length:Int)+2)=((n2:Nat):Int):=by rw[ZaE (by omega) (by omega)];omega
 have m1:(0:Int)<=((n2:Nat):Int):=by omega
 have m2:((n2:Nat):Int)<=9223372036854775807:=by omega
 have m3:((1:Nat):Int)*((n2:Nat):Int)<=140737488355328:=by omega
 have r2:b.length<=n2:=by omega
 have r3:b.length*1<=140737488355328:=by omega
 have r4:(0=n2)=False:=by simp;omega
 have k1:=Zpo b
 have k2:kOk 1 [AVal.int .u8 165,.int .u8 90]=true:=rfl
 have hD:(XI n2 (AVal.int .u8 0)).drop b.length=[.int .u8 0,.int .u8 0]:=by simp[List.drop_replicate,hn]
 have L1:(b.map Zh++[AVal.int .u8 0,.int .u8 0]).length=n2:=by simp;omega
 have L1':b.length+1+1=n2:=by omega
 have L2:(b.length=n2)=False:=by simp;omega
 have L3:(b.map Zh++[AVal.int .u8 0,.int .u8 0]).take b.length=b.map Zh:=by rw[Wn (by simp)];simp[XG]
 have L4:(b.map Zh++[AVal.int .u8 0,.int .u8 0]).drop n2=[]:=List.drop_eq_nil_of_le (by simp;omega)
 have L5:n2*1<=140737488355328:=by omega
 have L6:(b.map Zh++[AVal.int .u8 165,.int .u8 90]).length=n2:=by simp;omega
 have L7:(b.length:Int)<=((n2:Nat):Int):=by omega
 have L8:(0:Int)<=(b.length:Int):=by omega
 have L9:n2<=n2:=XH _
 clear hn
 rw[Zg (by rfl) ZP5]
 unfold Zdr
 simp -implicitDefEqProofs only[EQA,Zc,Xd,Xc,Xa,Xg,reduceCtorEq,ZZ,↓reduceIte,ZBL,Zuq,ZES,Zb,Z4,w1,m1,m2,m3,r2,r3,r4,hD,k1,k2,L1,L1',L2,L3,L4,L5,L6,L7,L8,L9,Int.le_refl,Int.toNat_zero,WB,Xbf,AVal.cells,ZbO,Za5,ZdC,Zan,viewAs,Z3,ZN,Zv,List.length_replicate,Zzx]
theorem Zvl(a b:Zd):E 20 [Z4 a,Z4 b] []=some (.bool (a==b),[]):=by
 rw[Zg (by rfl) ZTa]
 simp -implicitDefEqProofs only[EQA,Zc,Xc,Xa,Zc8,reduceCtorEq,ZZ,↓reduceIte,ZIZ,Zpj,ZRy,Zb,Z4]
theorem ZAy(G:Za)(sq own:Nat)(a b:Zd)(t:Nat)(X:List AVal)(hs:G[t]?=some (.row 0 1 (a.map Zh++X))):Zq E BY G sq 20 own true [.sl t 0 0 a.length,.lst false (b.map Zh)]=some (.bool (a==b),G,{ rd:=[t] }):=by
 refine ZAf (vs:=[Z4 a,Z4 b]) (by kernel_rfl) ?_ rfl rfl (Zvl a b) rfl rfl sq own
 have h1:0+a.length<=(a.map Zh++X).length:=by simp
 have h2:(a.map Zh++X).take a.length=a.map Zh:=by rw[Wn (by simp)];simp[XG]
 simp only[showAs,showA,Zcu,ZZ,hs,h1,and_self,if_true,List.drop_zero,h2,Z4]
 rfl
theorem ZTJ(k:Nat)(b:Bool)(xs:List AVal)(G:Za):ZR 1 (.row 0 k xs::G) (.bool b)=some (.bool b,[.row 0 k xs]):=by
 simp[ZR,gcA,Zw,Zt,Zl,ZH,Zo,Zm,ZD,Zj,Zp,Zz,ZB]
theorem Zzg(N:Nat)(hN:N<=9223372036854775807):∀ (m i:Nat) (X:List AVal),i+m=N->(∀ j,j<N->∃ b:UInt8,X[j]?=some (Zh b))->N<=X.length ->
  ∃ X',Zop 1 [(6,.int .i64 i),(0,.sl 0 0 0 N)] [.row 0 1 X]=some (.bool true,[.row 0 1 X'])
 |0,i,X,h,_,_=>by
  have h1:¬(i:Int)<(N:Int):=by omega
  refine⟨X,?_⟩
  unfold Zop
  rw[Z9]
  simp -implicitDefEqProofs only[EQA,Zc,Xc,Xa,reduceCtorEq,↓reduceIte,ZUP,ZAW,ZqO,Zy9,Zmg,Zb,h1,ZTJ]
 |m+1,i,X,h,hb,hX=>by
  have h1:(i:Int)<(N:Int):=by omega
  have h2:i<N:=by omega
  have i0:(0:Int)<=(i:Int):=by omega
  have hw:=Zd1 h1 hN
  obtain⟨b,hg⟩:=hb i h2
  obtain⟨X',ih⟩:=Zzg N hN m (i+1) (X.set i (.int .u8 (IntKind.u8.wrap ((b.toNat:Int)+77)))) (by omega) (fun j hj=>by
   by_cases e:i=j
   ·subst e
    refine⟨UInt8.ofNat (IntKind.u8.wrap ((b.toNat:Int)+77)).toNat,?_⟩
    rw[XV (by omega)]
    simp only[Zh,IntKind.wrap_u8]
    rw[UInt8.toNat_ofNat']
    congr 2
    have:=Int.emod_nonneg ((b.toNat:Int)+77) (show(256:Int)≠0 by decide)
    have:=Int.emod_lt_of_pos ((b.toNat:Int)+77) (show(0:Int)<256 by decide)
    omega
   grind) (by grind)
  refine⟨X',?_⟩
  unfold Zh at hg
  unfold Zop at ih ⊢
  rw[Z9]
  simp -implicitDefEqProofs only[EQA,Zs,Zc,ZT,Xc,Xa,reduceCtorEq,↓reduceIte,gcT,gcA,Zw,Zt,Zn,Zo,ZI,Zm,ZD,Zz,ZB,Xv,Zy9,Zmg,Zb,h1,h2,i0,hw,hg,Zc5,WB,AVal.cells,Zae,ZN,Zkt,Zv]
  exact ih
theorem ZL6(b:Zd)(hb:b.length<=140737488355326):∃ X',E 11 [.sl 0 0 0 b.length,Z4 b] [.row 0 1 (Zdr b)]=some (.bool true,[.row 0 1 X']):=by
 obtain⟨n2,hn⟩:∃ n2,n2=b.length+2:=⟨_,rfl⟩
 obtain⟨X',key⟩:=Zzg b.length (by omega) b.length 0 (Zdr b) (by omega) (fun j hj=>by
  unfold Zdr
  rw[List.getElem?_append_left (by grind)]
  exact⟨b[j],by simp[hj]⟩) (by simp[Zdr])
 refine⟨X',?_⟩
 have w1:IntKind.i64.wrap ((b.length:Int)+2)=((n2:Nat):Int):=by rw[ZaE (by omega) (by omega)];omega
 have w2:IntKind.i64.wrap ((b.length:Int)+1)=((b.length+1:Nat):Int):=by rw[ZaE (by omega) (by omega)];rfl
 have hS:∀ (G:Za) (sq own:Nat),G[0]?=some (.row 0 1 (b.map Zh++[AVal.int .u8 165,.int .u8 90]))->_:=fun G sq own h=>ZAy G sq own b b 0 [.int .u8 165,.int .u8 90] h
 have e0:(b==b)=true:=by simp
 have L6:(Zdr b).length=n2:=by unfold Zdr;simp;omega
 have L7:(0:Int)<=((n2:Nat):Int):=by omega
 have L8:((n2:Nat):Int)<=((n2:Nat):Int):=by omega
 have L9:b.length<n2:=by omega
 have L10:b.length+1<n2:=by omega
 have L11:(0:Int)<=(b.length:Int):=by omega
 have L12:(0:Int)<=((b.length+1:Nat):Int):=by omega
 have L13:b.length<=n2:=by omega
 have g1:(Zdr b)[b.length]?=some (.int .u8 165):=by unfold Zdr;rw[Wv (by simp)];simp
 have g2:(Zdr b)[b.length+1]?=some (.int .u8 90):=by unfold Zdr;rw[Wv (by simp)];simp
 have n1:((165:Int) != 165)=false:=rfl
 have n3:((90:Int) != 90)=false:=rfl
 clear hn
 rw[show b.map Zh++[AVal.int .u8 165,.int .u8 90]=Zdr b from rfl,e0]at hS
 unfold Z4
 have z0:((0:Nat):Int)=0:=rfl
 rw[z0]at key
 generalize Zdr b=X at *
 unfold Zop at key
 rw[Zg (by rfl) ZLO]
 simp -implicitDefEqProofs only[EQA,Zc,ZT,Xc,Xa,unA,Zy,unG,reduceCtorEq,ZZ,↓reduceIte,gcT,gcA,Zw,Zt,Zn,Zo,ZI,Zm,ZD,Zz,ZB,Xv,ZA9,Ztu,Zb,hS,w1,w2,L6,L7,L8,L9,L10,L11,L12,L13,g1,g2,n1,n3,WB,Xbf,AVal.cells,ZbO,Zc5,Za5,ZdC]
 exact key
theorem ZRw(G:Za)(sq:Nat)(b:Zd)(hb:b.length<=140737488355326)(hs:freeAt G sq=true):Zq E BY G sq 6 1 false [.lst false (b.map Zh)]=some (.sl sq 0 0 b.length,G.set sq (.row 0 1 (b.map Zh++[.int .u8 165,.int .u8 90])),{}):=by
 have h:=ZND (bf:=BY) (ZBM b hb) rfl rfl G sq hs
 have hf:(Zdr b).all Za2=true:=by unfold Zdr;rw[List.all_append,ZBA];rfl
 rw[hf]at h
 exact h
theorem ZN7(b:Zd)(hb:b.length<=140737488355326):∃ X',∀ (G:Za) (sq t:Nat),G[t]?=some (.row 0 1 (b.map Zh++[.int .u8 165,.int .u8 90]))->Zq E BY G sq 11 0 true [.sl t 0 0 b.length,.lst false (b.map Zh)]=some (.bool true,G.set t (.row 0 1 X'),{ any:=true }):=by
 obtain⟨X',h⟩:=ZL6 b hb
 refine⟨X',fun G sq t hs=>?_⟩
 refine Zwo (args':=[.sl 0 0 0 b.length,Z4 b]) hs (by kernel_rfl) (by kernel_rfl) (by kernel_rfl) rfl rfl (fun C h=>by simp only[Zj,Zp,h];rfl) (fun C=>rfl) (Xq rfl) ?_
 have h':=h
 unfold Zdr at h'
 rw[h']
 unfold ZV
 rw[if_pos rfl]
 simp[ZbR,viewR,Z3,ZN,Zv,gcA,Zw,Zt,Zl,ZH,Zj,Zp,Zo,ZB,ZD,Zm,Zz,Xv]
end
section
open Go.Shelf Go.RowKit
section
variable {P:Program}{C:Ren}
theorem ZnZ(W:World)(dT sT ty elem:TypeId)(g o dLen dCap:Nat)(A:Option Addr)(sLen sCap:Nat)(cur:Array Value)(t:TypeId)(cs:List Value)
  (hu:P.underlying dT=some (.slice elem)) (hs:(P.info? elem).map (·.size)=some 1) (hg:W.heap[g]?=some (.cells cur t (0,0))) (hn:cs.length=sLen) (hd:sLen<=dLen)
  (hsrc:sLen=0\/∃ a,A=some a/\∀ j v,cs[j]?=some v->W.cell? (a.add j)=some v) (hfit:o+cs.length<=cur.size) (h1:∀ v∈cs,v.oneCell'=true) :
  ∃ W2 Y,(Builtin.copy_ #[dT,sT] ty #[.slice (some ⟨g,o,none⟩) dLen dCap,.slice A sLen sCap]).run P W=.ok (goInt sLen) W2/\W2.heap[g]?=some (.cells Y t (0,0)) /\
   Y.toList=cur.toList.take o++cs++cur.toList.drop (o+sLen)/\W.grownBy W2 (some g)/\W2.heap.size=W.heap.size:=by
 rcases hsrc with h0 |⟨a,rfl,hsrc⟩
 ·have hc:cs=[]:=Xx (by omega)
  subst hc
  subst h0
  exact⟨W,cur,run_copy_none W dT sT ty elem _ _ _ _ _ _ hu hs (by simp),hg,by simp,⟨rfl,rfl,rfl,XH _,fun _ _ _=>rfl⟩,rfl⟩
 ·have h:=run_copy_row (P:=P) W dT sT ty elem g o dLen dCap a sLen sCap cur t cs hu hs hg (by grind) hsrc hfit h1
  rw[hn]at h
  refine⟨_,_,h,setRow_heap _ _ _ _ _ _ hg,by simp,⟨rfl,rfl,rfl,by simp,fun k _ hk=>setRow_other _ _ _ _ (fun e=>hk (by rw[e]))⟩,by simp⟩
set_option maxRecDepth 100000 in
theorem ZpD(L:LaysM.n290 P C)(A:Option Addr)(l c n:Nat)(olds:List Value)(w:World)(ho:olds.length=l)(hlc:l<=c)(hn:1<=n)
  (hlim:l+n<=140737488355328) (hc2:c<=140737488355328) (hsrc:l=0\/∃ a,A=some a/\∀ j v,olds[j]?=some v->w.cell? (a.add j)=some v) (h1:∀ v∈olds,v.oneCell'=true) :
  Calls P (C.f 290) #[.slice A l c,.int .i64 n] w fun e w'=>∃ cap2 cells,e=.returned (.slice (some ⟨w.heap.size,0,none⟩) l cap2)/\w'.heap[w.heap.size]?=some (.cells cells (C.t 5) (0,0)) /\
   cells.size=cap2/\cells.toList.take l=olds/\l+n<=cap2/\cap2<=maxLen/\Below w.heap.size w w':=by
 have mixed:=L.mixed
 have t5:=L.t5;have a5:=L.a5;have z5:=L.z5;have v5:=L.v5
 have t37:=L.t37;have a37:=L.a37;have z37:=L.z37;have v37:=L.v37
 have t3:=L.t3;have a3:=L.a3;have z3:=L.z3;have v3:=L.v3
 have t0:=L.t0;have a0:=L.a0;have z0:=L.z0;have v0:=L.v0
 have t4:=L.t4;have a4:=L.a4;have z4:=L.z4;have v4:=L.v4
 obtain⟨i0,hi,hz0,hz1,hz2⟩:=info_parts L.i5
 have hsz1:(P.info? (C.t 5)).map (·.size)=some 1:=by rw[hi];simp[hz1]
 by_cases hC:l+n<2*c
 ·have happ:=Lib.run_append_nil_zeros (P:=P) w (C.t 37) (C.t 3) (C.t 37) (C.t 5) i0 (.int .u8 0) .i64 .i64 L.t37 L.t3 hi hz0 (2*c) (by omega) (by omega) (by omega) (by grind)
  rw[show(((2*c:Nat)):Int)=2*(c:Int)by omega]at happ
  generalize hcap:grownCap w (2*c) 0 (C.t 5)=cap2 at happ
  have hcapge:2*c<=cap2:=by rw[<-hcap];exact grownCap_ge w _ 0 (C.t 5)
  have hcaple:cap2<=maxLen:=by rw[<-hcap];exact grownCap_le_maxLen w _ 0 (C.t 5) (by unfold maxLen;omega)
  generalize hZ:(Builtin.zeroCells (Value.int .u8 0).cells (2*c)++Builtin.zeroCells (Value.int .u8 0).cells (cap2-(2*c)))=Z at happ
  have hZs:Z.size=cap2:=by rw[<-hZ];simp[size_zeroCells,Value.cells];omega
  clear hcap hZ
  have hsrc1:l=0\/∃ a,A=some a/\∀ j v,olds[j]?=some v->(w.alloc (.cells Z (C.t 5))).drew.cell? (a.add j)=some v:=hsrc.imp id fun⟨a,e,h⟩=>⟨a,e,fun j v hj=>(World.cell?_of_block (a:=a.add j) (Below.heap_alloc w _ _ (World.block_lt_of_cell? w _ (h j v hj)))).trans (h j v hj)⟩
  obtain⟨W2,Y,hcopy,hY,hYl,hgb,hsz⟩:=ZnZ (P:=P) (w.alloc (.cells Z (C.t 5))).drew (C.t 37) (C.t 37) (C.t 3) (C.t 5) w.heap.size 0 (2*c) cap2 A l c Z (C.t 5) olds L.t37 hsz1 (heap_alloc_new w _) ho (by omega) hsrc1 (by omega) h1
  go_enter_defers L.f290,Body.n290_ntmps C
  go_wp2_with (at_builtin;refine Lib.wpList_append_run _ rfl _ _ _ _ rfl _ _ rfl rfl _ _ happ ?_)
  refine leaves_cons (f:=(C.f 324)) (args:=#[]) (by simp) (enters_of L.f324 (by kernel_rfl) rfl _ _) ?_
  refine(Any.growSlice_catch_idle { L with } _).mono ?_
  rintro e u' w'' ⟨rfl,rfl,rfl⟩
  refine⟨_,results_tmp rfl _ _ _,?_⟩
  refine⟨cap2,Y,rfl,hY,?_,?_,by omega,hcaple,?_⟩
  ·have h3:=congrArg Xaz hYl
   simp only[XM,Wt,Xba,Xw,XU]at h3
   omega
  ·grind
  ·have hs1:(w.alloc (.cells Z (C.t 5))).drew.heap.size=w.heap.size+1:=by show(w.alloc (.cells Z (C.t 5))).heap.size=_;simp
   exact⟨hgb.os,hgb.tape,hgb.output,by omega,fun k hk=>(hgb.block k (by omega) (fun e=>by grind)).trans (Below.heap_alloc w _ k hk)⟩
 ·have happ:=Lib.run_append_nil_zeros (P:=P) w (C.t 37) (C.t 3) (C.t 37) (C.t 5) i0 (.int .u8 0) .i64 .i64 L.t37 L.t3 hi hz0 (l+n) (by omega) (by omega) (by omega) (by grind)
  rw[show(((l+n:Nat)):Int)=(l:Int)+(n:Int)by omega]at happ
  generalize hcap:grownCap w (l+n) 0 (C.t 5)=cap2 at happ
  have hcapge:l+n<=cap2:=by rw[<-hcap];exact grownCap_ge w _ 0 (C.t 5)
  have hcaple:cap2<=maxLen:=by rw[<-hcap];exact grownCap_le_maxLen w _ 0 (C.t 5) (by unfold maxLen;omega)
  generalize hZ:(Builtin.zeroCells (Value.int .u8 0).cells (l+n)++Builtin.zeroCells (Value.int .u8 0).cells (cap2-(l+n)))=Z at happ
  have hZs:Z.size=cap2:=by rw[<-hZ];simp[size_zeroCells,Value.cells];omega
  clear hcap hZ
  have hsrc1:l=0\/∃ a,A=some a/\∀ j v,olds[j]?=some v->(w.alloc (.cells Z (C.t 5))).drew.cell? (a.add j)=some v:=hsrc.imp id fun⟨a,e,h⟩=>⟨a,e,fun j v hj=>(World.cell?_of_block (a:=a.add j) (Below.heap_alloc w _ _ (World.block_lt_of_cell? w _ (h j v hj)))).trans (h j v hj)⟩
  obtain⟨W2,Y,hcopy,hY,hYl,hgb,hsz⟩:=ZnZ (P:=P) (w.alloc (.cells Z (C.t 5))).drew (C.t 37) (C.t 37) (C.t 3) (C.t 5) w.heap.size 0 (l+n) cap2 A l c Z (C.t 5) olds L.t37 hsz1 (heap_alloc_new w _) ho (by omega) hsrc1 (by omega) h1
  go_enter_defers L.f290,Body.n290_ntmps C
  go_wp2_with (at_builtin;refine Lib.wpList_append_run _ rfl _ _ _ _ rfl _ _ rfl rfl _ _ happ ?_)
  refine leaves_cons (f:=(C.f 324)) (args:=#[]) (by simp) (enters_of L.f324 (by kernel_rfl) rfl _ _) ?_
  refine(Any.growSlice_catch_idle { L with } _).mono ?_
  rintro e u' w'' ⟨rfl,rfl,rfl⟩
  refine⟨_,results_tmp rfl _ _ _,?_⟩
  refine⟨cap2,Y,rfl,hY,?_,?_,by omega,hcaple,?_⟩
  ·have h3:=congrArg Xaz hYl
   simp only[XM,Wt,Xba,Xw,XU]at h3
   omega
  ·grind
  ·have hs1:(w.alloc (.cells Z (C.t 5))).drew.heap.size=w.heap.size+1:=by show(w.alloc (.cells Z (C.t 5))).heap.size=_;simp
   exact⟨hgb.os,hgb.tape,hgb.output,by omega,fun k hk=>(hgb.block k (by omega) (fun e=>by grind)).trans (Below.heap_alloc w _ k hk)⟩
set_option maxRecDepth 100000 in
theorem Zm8(L:LaysM.n181 P C)(b:Nat)(ao:Option Addr)(l cap:Nat)(w:World)(c0:w.cell? ⟨b,0,none⟩=some (.slice ao l cap))(c1:w.cell? ⟨b,1,none⟩=some (.int .i64 0))(hmax:l<=maxLen) :
  Calls P (C.f 181) #[.pointer (some ⟨b,0,none⟩)] w fun e w'=>e=.returned (.int .i64 l)/\∃ n,w'=w.drewN n:=by
 have mixed:=L.mixed
 have t5:=L.t5;have a5:=L.a5;have z5:=L.z5;have v5:=L.v5
 have t130:=L.t130;have a130:=L.a130;have z130:=L.z130;have v130:=L.v130
 have t3:=L.t3;have a3:=L.a3;have z3:=L.z3;have v3:=L.v3
 have t0:=L.t0;have a0:=L.a0;have z0:=L.z0;have v0:=L.v0
 have t93:=L.t93;have u93:=run_underlying L.t93;have a93:=L.a93;have z93:=L.z93;have v93:=L.v93
 have t37:=L.t37;have a37:=L.a37;have z37:=L.z37;have v37:=L.v37
 unfold maxLen at hmax
 go_enter L.f181,Body.n181_ntmps C
 go_wp2
 go_region_o
 all_goals (go_wp2;go_ret;exact⟨by simp,1,rfl⟩)
def Zj9(w:World)(T:TypeId)(R:Nat->Option Value)(b l n:Nat)(olds:List Value)(lr:Int)(e:TypeId)(w':World):Prop :=
 ∃ cap2 cells,LibA.Three w' b 0 T R (.slice (some ⟨w.heap.size,0,none⟩) (l+n) cap2) (.int .i64 0) (.int .i8 lr)/\w'.heap[w.heap.size]?=some (.cells cells e (0,0)) /\
  cells.size=cap2/\cells.toList.take l=olds/\l+n<=cap2/\cap2<=maxLen/\w.grownBy w' (some b)
theorem ZrA{w:World}{b:Nat}{T:TypeId}{R:Nat->Option Value}{x y z:Value}(h:LibA.Three w b 0 T R x y z)(v1 s:Value) :
  LibA.Three (((w.setCell ⟨b,0,none⟩ v1).setCell ⟨b,1,none⟩ (.int .i64 0)).setCell ⟨b,0,none⟩ s) b 0 T R s (.int .i64 0) z:=((h.set0 v1).set1 (.int .i64 0)).set0 s
end
end
section
open Go.Shelf Go.RowKit
section
variable {P:Program}{C:Ren}
set_option maxRecDepth 100000 in
theorem ZLV(L:LaysM.n252 P C)(T:TypeId)(R:Nat->Option Value)(b:Nat)(n:Nat)(lr:Int)(w:World)
  (hbk:LibA.Three w b 0 T R (.slice none 0 0) (.int .i64 0) (.int .i8 lr)) (hn:1<=n) (h64:n<=64) :
  Calls P (C.f 252) #[.pointer (some ⟨b,0,none⟩),.int .i64 n] w fun e w'=>e=.returned (.int .i64 0)/\Zj9 w T R b 0 n [] lr (C.t 5) w':=by
 have mixed:=L.mixed
 have t5:=L.t5;have a5:=L.a5;have z5:=L.z5;have v5:=L.v5
 have t130:=L.t130;have a130:=L.a130;have z130:=L.z130;have v130:=L.v130
 have t3:=L.t3;have a3:=L.a3;have z3:=L.z3;have v3:=L.v3
 have t4:=L.t4;have a4:=L.a4;have z4:=L.z4;have v4:=L.v4
 have t0:=L.t0;have a0:=L.a0;have z0:=L.z0;have v0:=L.v0
 have t93:=L.t93;have u93:=run_underlying L.t93;have a93:=L.a93;have z93:=L.z93;have v93:=L.v93
 have t131:=L.t131;have a131:=L.a131;have z131:=L.z131;have v131:=L.v131
 have t37:=L.t37;have a37:=L.a37;have z37:=L.z37;have v37:=L.v37
 have t75:=L.t75;have a75:=L.a75;have z75:=L.z75;have v75:=L.v75
 have e181:∀ args w,(callFunc (C.f 181) args).run P w=.ok (.enter (C.f 181) args) w:=enters_of L.f181 (by kernel_rfl) rfl
 have e251:∀ args w,(callFunc (C.f 251) args).run P w=.ok (.enter (C.f 251) args) w:=enters_of L.f251 (by kernel_rfl) rfl
 have e290:∀ args w,(callFunc (C.f 290) args).run P w=.ok (.enter (C.f 290) args) w:=enters_of L.f290 (by kernel_rfl) rfl
 have hnil:∀ W,(binOp .eql (C.t 37) (.slice none 0 0) (.slice none 0 0)).run P W=.ok (.bool true) W:=fun W=>Lib.run_eql_slice_nil_nil W _ _ L.t37
 obtain⟨i0,hi,hz0,hz1,hz2⟩:=info_parts L.i5
 obtain⟨M,hM⟩:∃ M,M=madeCells (Value.int .u8 0).cells ((64:Int).toNat*i0.size):=⟨_,rfl⟩
 have hMs:M.size=64:=by rw[hM,size_madeCells,hz1];rfl
 have hmk:∀ W:World,(Instr.makeSlice (C.t 37) (.int .i64 (n:Int)) (.int .i64 64)).run P W=.ok (.slice (some ⟨W.heap.size,0,none⟩) n 64) (W.alloc (.cells M (C.t 5))):=fun W=>by
  have h:=run_makeSlice (P:=P) W (C.t 37) (C.t 5) i0 (.int .u8 0) L.t37 hi hz0 .i64 .i64 (n:Int) 64 (by omega) (by omega) (by rw[hz1];decide) (by rw[hz2];decide) (by decide)
  rw[<-hM]at h
  simpa using h
 clear hM
 go_enter L.f252,Body.n252_ntmps C
 go_wp2_with (go_at_fn (C.f 181);refine(Zm8 { L with } b none 0 0 _ hbk.c0 hbk.c1 (by grind)).mono ?_)
 rintro e W0 ⟨rfl,k,hW0⟩
 have hbk0:LibA.Three W0 b 0 T R (.slice none 0 0) (.int .i64 0) (.int .i8 lr):=by rw[hW0];exact hbk
 have c0:W0.cell? ⟨b,0,none⟩=some (.slice none 0 0):=hbk0.c0
 have c1:W0.cell? ⟨b,1,none⟩=some (.int .i64 0):=hbk0.c1
 have f0:W0.frozen? ⟨b,0,none⟩=false:=hbk0.f 0
 have f1:W0.frozen? ⟨b,1,none⟩=false:=hbk0.f 1
 have hbW0:=hbk0.lt
 have c0a:∀ o,(W0.alloc o).cell? ⟨b,0,none⟩=some (.slice none 0 0):=fun o=>(World.cell?_of_block (a:=⟨b,0,none⟩) (Below.heap_alloc W0 o b hbW0)).trans c0
 have f0a:∀ o,(W0.alloc o).frozen? ⟨b,0,none⟩=false:=fun o=>(World.frozen?_of_block (a:=⟨b,0,none⟩) (Below.heap_alloc W0 o b hbW0)).trans f0
 have HW0:=Lib.hid hW0
 clear hW0
 go_wp2_with (go_at_fn (C.f 251);refine(Any.Buffer_tryGrow_none_at { L with } b 0 _ 0 0 n _ c0 (XH _) (XaS _) (by omega)).mono ?_;rintro e w' ⟨rfl,rfl⟩)
 go_ret
 have hsz0:w'.heap.size=w.heap.size:=by rw[HW0.out];rfl
 have hg0:w.grownBy w' (some b):=by rw[HW0.out];exact⟨rfl,rfl,rfl,XH _,fun _ _ _=>rfl⟩
 have hszc:(w'.setCell ⟨b,0,none⟩ (.slice (some ⟨w'.heap.size,0,none⟩) n 64)).heap.size=w'.heap.size:=by simp[World.setCell]
 refine⟨rfl,64,M,?_,?_,hMs,by simp,by omega,by unfold maxLen;omega,Lib.grownBy_allocR (Lib.grownBy_setB hg0 0 _) _⟩
 ·rw[XF,<-hsz0]
  exact(hbk0.set0 (.slice (some ⟨w'.heap.size,0,none⟩) n 64)).of_heap (Below.heap_alloc _ _ b (by grind))
 ·have h:=heap_alloc_new (w'.setCell ⟨b,0,none⟩ (.slice (some ⟨w'.heap.size,0,none⟩) n 64)) (.cells M (C.t 5))
  rw[hszc]at h
  rw[<-hsz0]
  exact h
set_option maxRecDepth 100000 in
theorem ZKR (L : LaysM.n252 P C) (T : TypeId) (R : Nat -> Option Value) (b : Nat)  (n : Nat) (lr : Int) (w : World)
    (hbk : LibA.Three w b 0 T R (.slice none 0 0) (.int .i64 0) (.int .i8 lr)) (h64 : 64 < n) (hlim : n <= 70368744177664) :
    Calls P (C.f 252) #[.pointer (some ⟨b, 0, none⟩), .int .i64 n] w fun e w' => e = .returned (.int .i64 0) /\ Zj9 w T R b 0 n [] lr (C.t 5) w' := by
  have mixed := L.mixed
  have t5 := L.t5; have a5 := L.a5; have z5 := L.z5; have v5 := L.v5
  have t130 := L.t130; have a130 := L.a130; have z130 := L.z130; have v130 := L.v130
  have t3 := L.t3; have a3 := L.a3; have z3 := L.z3; have v3 := L.v3
  have t4 := L.t4; have a4 := L.a4; have z4 := L.z4; have v4 := L.v4
  have t0 := L.t0; have a0 := L.a0; have z0 := L.z0; have v0 := L.v0
  have t93 := L.t93; have u93 := run_underlying L.t93; have a93 := L.a93; have z93 := L.z93; have v93 := L.v93
  have t131 := L.t131; have a131 := L.a131; have z131 := L.z131; have v131 := L.v131
  have t37 := L.t37; have a37 := L.a37; have z37 := L.z37; have v37 := L.v37
  have t75 := L.t75; have a75 := L.a75; have z75 := L.z75; have v75 := L.v75
  have e181 : ∀ args w, (callFunc (C.f 181) args).run P w = .ok (.enter (C.f 181) args) w := enters_of L.f181 (by kernel_rfl) rfl
  have e251 : ∀ args w, (callFunc (C.f 251) args).run P w = .ok (.enter (C.f 251) args) w := enters_of L.f251 (by kernel_rfl) rfl
  have e290 : ∀ args w, (callFunc (C.f 290) args).run P w = .ok (.enter (C.f 290) args) w := enters_of L.f290 (by kernel_rfl) rfl
  have hnil : ∀ W, (binOp .eql (C.t 37) (.slice none 0 0) (.slice none 0 0)).run P W = .ok (.bool true) W := fun W => Lib.run_eql_slice_nil_nil W _ _ L.t37
  have hc2 : 0 <= 140737488355328 := by omega
  have hcm' : 0 <= maxLen := by unfold maxLen; omega
  go_enter L.f252, Body.n252_ntmps C
  go_wp2_with (go_at_fn (C.f 181); refine (Zm8 { L with } b none 0 0 _ hbk.c0 hbk.c1 (by grind)).mono ?_)
  rintro e W0 ⟨rfl, k, hW0⟩
  have hbk0 : LibA.Three W0 b 0 T R (.slice none 0 0) (.int .i64 0) (.int .i8 lr) := by rw [hW0]; exact hbk
  have c0 : W0.cell? ⟨b, 0, none⟩ = some (.slice none 0 0) := hbk0.c0
  have c1 : W0.cell? ⟨b, 1, none⟩ = some (.int .i64 0) := hbk0.c1
  have f0 : W0.frozen? ⟨b, 0, none⟩ = false := hbk0.f 0
  have f1 : W0.frozen? ⟨b, 1, none⟩ = false := hbk0.f 1
  have HW0 := Lib.hid hW0
  clear hW0
  go_wp2_with (go_at_fn (C.f 251); refine (Any.Buffer_tryGrow_none_at { L with } b 0 _ 0 0 n _ c0 (by omega) hcm' (by omega)).mono ?_; rintro e w' ⟨rfl, rfl⟩)
  have hbW := hbk0.lt
  have hwn : IntKind.i64.wrap (n : Int) = n := by rw [IntKind.wrap_i64]; omega
  go_region_with_o (
      go_at_fn (C.f 290)
      refine (ZpD { L with } none 0 0 n [] _ ?_ (by omega) (by omega) (by omega) hc2 ?_ ?_).mono ?_
      . grind
      . grind
      . grind
      rintro e w2 ⟨cap2, cells, rfl, hN, hcsz, htk, hcap2, hcm2, hbel⟩
      have hbk2 : LibA.Three w2 b 0 T R (.slice none 0 0) (.int .i64 0) (.int .i8 lr) := hbk0.of_heap (hbel.block b hbW)
      have d0 : w2.cell? ⟨b, 0, none⟩ = some (.slice none 0 0) := hbk2.c0
      have d1 : w2.cell? ⟨b, 1, none⟩ = some (.int .i64 0) := hbk2.c1
      have e0 : w2.frozen? ⟨b, 0, none⟩ = false := hbk2.f 0
      have e1 : w2.frozen? ⟨b, 1, none⟩ = false := hbk2.f 1)
  all_goals (
    go_wp2
    go_ret
    have hsz0 : w'.heap.size = w.heap.size := by rw [HW0.out]; rfl
    have hg2 : w.grownBy w2 (some b) := Lib.grownBy_below (w := w'.drew) (by rw [HW0.out]; exact ⟨rfl, rfl, rfl, XH _, fun _ _ _ => rfl⟩) hbel
    refine ⟨rfl, cap2, cells, ?_, ?_, hcsz, htk, hcap2, hcm2, Lib.grownBy_setB (Lib.grownBy_setB (Lib.grownBy_setB hg2 0 _) 1 _) 0 _⟩
    . rw [XF, <- hsz0]; exact ZrA hbk2 _ _
    . have hNb : w.heap.size ≠ b := by omega
      rw [Below.heap_setCell _ _ _ _ hNb, Below.heap_setCell _ _ _ _ hNb, Below.heap_setCell _ _ _ _ hNb]
      rw [<- hsz0]; exact hN)
end
end
section
open Go.Shelf Go.RowKit
section
variable {P:Program}{C:Ren}
set_option maxRecDepth 100000 in
theorem ZJf (L : LaysM.n252 P C) (T : TypeId) (R : Nat -> Option Value) (b : Nat) (x : Addr) (cap : Nat) (n : Nat) (lr : Int) (w : World)
    (hbk : LibA.Three w b 0 T R (.slice (some x) 0 cap) (.int .i64 0) (.int .i8 lr)) (hroom : cap < n) (hlim : n <= 70368744177664) :
    Calls P (C.f 252) #[.pointer (some ⟨b, 0, none⟩), .int .i64 n] w fun e w' => e = .returned (.int .i64 0) /\ Zj9 w T R b 0 n [] lr (C.t 5) w' := by
  have mixed := L.mixed
  have t5 := L.t5; have a5 := L.a5; have z5 := L.z5; have v5 := L.v5
  have t130 := L.t130; have a130 := L.a130; have z130 := L.z130; have v130 := L.v130
  have t3 := L.t3; have a3 := L.a3; have z3 := L.z3; have v3 := L.v3
  have t4 := L.t4; have a4 := L.a4; have z4 := L.z4; have v4 := L.v4
  have t0 := L.t0; have a0 := L.a0; have z0 := L.z0; have v0 := L.v0
  have t93 := L.t93; have u93 := run_underlying L.t93; have a93 := L.a93; have z93 := L.z93; have v93 := L.v93
  have t131 := L.t131; have a131 := L.a131; have z131 := L.z131; have v131 := L.v131
  have t37 := L.t37; have a37 := L.a37; have z37 := L.z37; have v37 := L.v37
  have t75 := L.t75; have a75 := L.a75; have z75 := L.z75; have v75 := L.v75
  have e181 : ∀ args w, (callFunc (C.f 181) args).run P w = .ok (.enter (C.f 181) args) w := enters_of L.f181 (by kernel_rfl) rfl
  have e251 : ∀ args w, (callFunc (C.f 251) args).run P w = .ok (.enter (C.f 251) args) w := enters_of L.f251 (by kernel_rfl) rfl
  have e290 : ∀ args w, (callFunc (C.f 290) args).run P w = .ok (.enter (C.f 290) args) w := enters_of L.f290 (by kernel_rfl) rfl
  have hnil : ∀ W, (binOp .eql (C.t 37) (.slice (some x) 0 cap) (.slice none 0 0)).run P W = .ok (.bool false) W := fun W => Lib.run_eql_slice_some_nil W _ _ _ L.t37
  have hc2 : cap <= 140737488355328 := by omega
  have hcm' : cap <= maxLen := by unfold maxLen; omega
  go_enter L.f252, Body.n252_ntmps C
  go_wp2_with (go_at_fn (C.f 181); refine (Zm8 { L with } b (some x) 0 cap _ hbk.c0 hbk.c1 (by grind)).mono ?_)
  rintro e W0 ⟨rfl, k, hW0⟩
  have hbk0 : LibA.Three W0 b 0 T R (.slice (some x) 0 cap) (.int .i64 0) (.int .i8 lr) := by rw [hW0]; exact hbk
  have c0 : W0.cell? ⟨b, 0, none⟩ = some (.slice (some x) 0 cap) := hbk0.c0
  have c1 : W0.cell? ⟨b, 1, none⟩ = some (.int .i64 0) := hbk0.c1
  have f0 : W0.frozen? ⟨b, 0, none⟩ = false := hbk0.f 0
  have f1 : W0.frozen? ⟨b, 1, none⟩ = false := hbk0.f 1
  have HW0 := Lib.hid hW0
  clear hW0
  go_wp2_with (go_at_fn (C.f 251); refine (Any.Buffer_tryGrow_none_at { L with } b 0 _ 0 cap n _ c0 (by omega) hcm' (by omega)).mono ?_; rintro e w' ⟨rfl, rfl⟩)
  have hbW := hbk0.lt
  have hwn : IntKind.i64.wrap (n : Int) = n := by rw [IntKind.wrap_i64]; omega
  go_region_with_o (
      go_at_fn (C.f 290)
      refine (ZpD { L with } (some x) 0 cap n [] _ ?_ (by omega) (by omega) (by omega) hc2 ?_ ?_).mono ?_
      . grind
      . grind
      . grind
      rintro e w2 ⟨cap2, cells, rfl, hN, hcsz, htk, hcap2, hcm2, hbel⟩
      have hbk2 : LibA.Three w2 b 0 T R (.slice (some x) 0 cap) (.int .i64 0) (.int .i8 lr) := hbk0.of_heap (hbel.block b hbW)
      have d0 : w2.cell? ⟨b, 0, none⟩ = some (.slice (some x) 0 cap) := hbk2.c0
      have d1 : w2.cell? ⟨b, 1, none⟩ = some (.int .i64 0) := hbk2.c1
      have e0 : w2.frozen? ⟨b, 0, none⟩ = false := hbk2.f 0
      have e1 : w2.frozen? ⟨b, 1, none⟩ = false := hbk2.f 1)
  all_goals (
    go_wp2
    go_ret
    have hsz0 : w'.heap.size = w.heap.size := by rw [HW0.out]; rfl
    have hg2 : w.grownBy w2 (some b) := Lib.grownBy_below (w := w'.drew) (by rw [HW0.out]; exact ⟨rfl, rfl, rfl, XH _, fun _ _ _ => rfl⟩) hbel
    refine ⟨rfl, cap2, cells, ?_, ?_, hcsz, htk, hcap2, hcm2, Lib.grownBy_setB (Lib.grownBy_setB (Lib.grownBy_setB hg2 0 _) 1 _) 0 _⟩
    . rw [XF, <- hsz0]; exact ZrA hbk2 _ _
    . have hNb : w.heap.size ≠ b := by omega
      rw [Below.heap_setCell _ _ _ _ hNb, Below.heap_setCell _ _ _ _ hNb, Below.heap_setCell _ _ _ _ hNb]
      rw [<- hsz0]; exact hN)
end
end
section
open Go.Shelf Go.RowKit
section
variable {P:Program}{C:Ren}
set_option maxRecDepth 100000 in
theorem ZMi (L : LaysM.n252 P C) (T : TypeId) (R : Nat -> Option Value) (b : Nat) (x : Addr) (l cap : Nat) (olds : List Value) (n : Nat) (lr : Int) (w : World)
    (hbk : LibA.Three w b 0 T R (.slice (some x) l cap) (.int .i64 0) (.int .i8 lr)) (hl0 : l ≠ 0) (ho : olds.length = l) (h1 : ∀ v ∈ olds, v.oneCell' = true) (hlc : l <= cap) (hroom : cap - l < n) (hlim : l + n <= 70368744177664)
    (hold : l = 0 \/ ∃ a, some x = some a /\ ∀ j v, (olds)[j]? = some v -> w.cell? (a.add j) = some v)  :
    Calls P (C.f 252) #[.pointer (some ⟨b, 0, none⟩), .int .i64 n] w fun e w' => e = .returned (.int .i64 l) /\ Zj9 w T R b l n olds lr (C.t 5) w' := by
  have mixed := L.mixed
  have t5 := L.t5; have a5 := L.a5; have z5 := L.z5; have v5 := L.v5
  have t130 := L.t130; have a130 := L.a130; have z130 := L.z130; have v130 := L.v130
  have t3 := L.t3; have a3 := L.a3; have z3 := L.z3; have v3 := L.v3
  have t4 := L.t4; have a4 := L.a4; have z4 := L.z4; have v4 := L.v4
  have t0 := L.t0; have a0 := L.a0; have z0 := L.z0; have v0 := L.v0
  have t93 := L.t93; have u93 := run_underlying L.t93; have a93 := L.a93; have z93 := L.z93; have v93 := L.v93
  have t131 := L.t131; have a131 := L.a131; have z131 := L.z131; have v131 := L.v131
  have t37 := L.t37; have a37 := L.a37; have z37 := L.z37; have v37 := L.v37
  have t75 := L.t75; have a75 := L.a75; have z75 := L.z75; have v75 := L.v75
  have e181 : ∀ args w, (callFunc (C.f 181) args).run P w = .ok (.enter (C.f 181) args) w := enters_of L.f181 (by kernel_rfl) rfl
  have e251 : ∀ args w, (callFunc (C.f 251) args).run P w = .ok (.enter (C.f 251) args) w := enters_of L.f251 (by kernel_rfl) rfl
  have e290 : ∀ args w, (callFunc (C.f 290) args).run P w = .ok (.enter (C.f 290) args) w := enters_of L.f290 (by kernel_rfl) rfl
  have hnil : ∀ W, (binOp .eql (C.t 37) (.slice (some x) l cap) (.slice none 0 0)).run P W = .ok (.bool false) W := fun W => Lib.run_eql_slice_some_nil W _ _ _ L.t37
  have hc2 : cap <= 140737488355328 := by omega
  have hcm' : cap <= maxLen := by unfold maxLen; omega
  go_enter L.f252, Body.n252_ntmps C
  go_wp2_with (go_at_fn (C.f 181); refine (Zm8 { L with } b (some x) l cap _ hbk.c0 hbk.c1 (by grind)).mono ?_)
  rintro e W0 ⟨rfl, k, hW0⟩
  have hbk0 : LibA.Three W0 b 0 T R (.slice (some x) l cap) (.int .i64 0) (.int .i8 lr) := by rw [hW0]; exact hbk
  have c0 : W0.cell? ⟨b, 0, none⟩ = some (.slice (some x) l cap) := hbk0.c0
  have c1 : W0.cell? ⟨b, 1, none⟩ = some (.int .i64 0) := hbk0.c1
  have f0 : W0.frozen? ⟨b, 0, none⟩ = false := hbk0.f 0
  have f1 : W0.frozen? ⟨b, 1, none⟩ = false := hbk0.f 1
  have hold0 : l = 0 \/ ∃ a, some x = some a /\ ∀ j v, (olds)[j]? = some v -> W0.cell? (a.add j) = some v := by rw [hW0]; exact hold
  have HW0 := Lib.hid hW0
  clear hW0 hold
  go_wp2_with (go_at_fn (C.f 251); refine (Any.Buffer_tryGrow_none_at { L with } b 0 _ l cap n _ c0 (by omega) hcm' (by omega)).mono ?_; rintro e w' ⟨rfl, rfl⟩)
  have hbW := hbk0.lt
  have hwn : IntKind.i64.wrap (n : Int) = n := by rw [IntKind.wrap_i64]; omega
  go_region_with_o (
      go_at_fn (C.f 290)
      refine (ZpD { L with } (some x) l cap n olds _ ?_ (by omega) (by omega) (by omega) hc2 ?_ ?_).mono ?_
      . grind
      . exact hold0
      . grind
      rintro e w2 ⟨cap2, cells, rfl, hN, hcsz, htk, hcap2, hcm2, hbel⟩
      have hbk2 : LibA.Three w2 b 0 T R (.slice (some x) l cap) (.int .i64 0) (.int .i8 lr) := hbk0.of_heap (hbel.block b hbW)
      have d0 : w2.cell? ⟨b, 0, none⟩ = some (.slice (some x) l cap) := hbk2.c0
      have d1 : w2.cell? ⟨b, 1, none⟩ = some (.int .i64 0) := hbk2.c1
      have e0 : w2.frozen? ⟨b, 0, none⟩ = false := hbk2.f 0
      have e1 : w2.frozen? ⟨b, 1, none⟩ = false := hbk2.f 1)
  all_goals (
    go_wp2
    go_ret
    have hsz0 : w'.heap.size = w.heap.size := by rw [HW0.out]; rfl
    have hg2 : w.grownBy w2 (some b) := Lib.grownBy_below (w := w'.drew) (by rw [HW0.out]; exact ⟨rfl, rfl, rfl, XH _, fun _ _ _ => rfl⟩) hbel
    refine ⟨rfl, cap2, cells, ?_, ?_, hcsz, htk, hcap2, hcm2, Lib.grownBy_setB (Lib.grownBy_setB (Lib.grownBy_setB hg2 0 _) 1 _) 0 _⟩
    . rw [<- hsz0]; exact ZrA hbk2 _ _
    . have hNb : w.heap.size ≠ b := by omega
      rw [Below.heap_setCell _ _ _ _ hNb, Below.heap_setCell _ _ _ _ hNb, Below.heap_setCell _ _ _ _ hNb]
      rw [<- hsz0]; exact hN)
end
end
section
open Go.Shelf Go.RowKit
section
variable {P:Program}{C:Ren}
def BufRow(w:World)(b:Nat)(A:Option Addr)(l cap:Nat)(olds:List Value):Prop :=
 olds.length=l/\l<=cap/\cap<=maxLen/\(∀ v∈olds,v.oneCell'=true)/\(cap=0\/∃ g cur t,A=some ⟨g,0,none⟩/\g≠b/\w.heap[g]?=some (.cells cur t (0,0))/\cur.size=cap/\cur.toList.take l=olds)
theorem BufRow.hold{w:World}{b:Nat}{A:Option Addr}{l cap:Nat}{olds:List Value}(h:BufRow w b A l cap olds):l=0\/∃ a,A=some a/\∀ j v,olds[j]?=some v->w.cell? (a.add j)=some v:=by
 obtain⟨h1,h2,h3,h4,h5 |⟨g,cur,t,h5,h6,h7,h8,h9⟩⟩:=h
 ·grind
 ·exact Xt ⟨_,h5,by rw[<-h9];exact Lib.cells_of_row h7 l⟩
theorem ZD1(L:LaysM.n252 P C)(T:TypeId)(R:Nat->Option Value)(b:Nat)(A:Option Addr)(l cap:Nat)(olds:List Value)(n:Nat)(lr:Int)(w:World)
  (hbk:LibA.Three w b 0 T R (.slice A l cap) (.int .i64 0) (.int .i8 lr)) (hr:BufRow w b A l cap olds) (hA:A=none->cap=0) (hroom:cap-l<n) (hlim:l+n<=70368744177664) :
  Calls P (C.f 252) #[.pointer (some ⟨b,0,none⟩),.int .i64 n] w fun e w'=>e=.returned (.int .i64 l)/\Zj9 w T R b l n olds lr (C.t 5) w':=by
 have hold:=hr.hold
 obtain⟨h1,h2,h3,h4,h5⟩:=hr
 cases A with
 |none =>
  have hc:=hA rfl
  subst hc
  have hl0:l=0:=by omega
  subst hl0
  have ho:olds=[]:=Xx h1
  subst ho
  by_cases h64:n<=64
  ·exact ZLV L T R b n lr w hbk (by omega) h64
  ·exact ZKR L T R b n lr w hbk (by omega) (by omega)
 |some x =>
  by_cases hl0:l=0
  ·subst hl0
   have ho:olds=[]:=Xx h1
   subst ho
   exact ZJf L T R b x cap n lr w hbk (by omega) (by omega)
  ·exact ZMi L T R b x l cap olds n lr w hbk hl0 h1 h4 h2 hroom hlim hold
def Zy3(w:World)(T:TypeId)(R:Nat->Option Value)(b:Nat)(A:Option Addr)(l n cap:Nat)(all:List Value)(w':World):Prop :=
 ∃ A' cap',LibA.Three w' b 0 T R (.slice A' (l+n) cap') (.int .i64 0) (.int .i8 0)/\l+n<=cap'/\cap'<=maxLen /\
  ((n=0/\A'=A/\cap'=cap/\w.grownBy w' (some b)) \/
   ∃ G W1 Y t,A'=some ⟨G,0,none⟩/\(G=w.heap.size\/(A=some ⟨G,0,none⟩/\cap≠0))/\G≠b/\w.grownBy W1 (some b)/\W1.grownBy w' (some G)/\w'.heap[G]?=some (.cells Y t (0,0))/\Y.size=cap'/\Y.toList.take (l+n)=all)
set_option maxRecDepth 100000 in
theorem ZRI(L:LaysM.n180 P C)(T:TypeId)(R:Nat->Option Value)(b:Nat)(A:Option Addr)(l cap:Nat)(lr:Int)(olds news:List Value)(pa:Option Addr)(n pc:Nat)(w:World)
  (hbk:LibA.Three w b 0 T R (.slice A l cap) (.int .i64 0) (.int .i8 lr)) (hr:BufRow w b A l cap olds) (hA:A=none->cap=0) (hnews:news.length=n) (h1c:∀ v∈news,v.oneCell'=true)
  (hsrc:n=0\/∃ a,pa=some a/\a.block≠b/\∀ j v,news[j]?=some v->w.cell? (a.add j)=some v) (hlim:l+n<=70368744177664) :
  Calls P (C.f 180) #[.pointer (some ⟨b,0,none⟩),.slice pa n pc] w fun e w'=>e=.returned (.tuple #[.int .i64 n,.nilIface])/\Zy3 w T R b A l n cap (olds++news) w':=by
 have mixed:=L.mixed
 have t5:=L.t5;have a5:=L.a5;have z5:=L.z5;have v5:=L.v5
 have t130:=L.t130;have a130:=L.a130;have z130:=L.z130;have v130:=L.v130
 have t37:=L.t37;have a37:=L.a37;have z37:=L.z37;have v37:=L.v37
 have t3:=L.t3;have a3:=L.a3;have z3:=L.z3;have v3:=L.v3
 have t75:=L.t75;have a75:=L.a75;have z75:=L.z75;have v75:=L.v75
 have t0:=L.t0;have a0:=L.a0;have z0:=L.z0;have v0:=L.v0
 have t93:=L.t93;have u93:=run_underlying L.t93;have a93:=L.a93;have z93:=L.z93;have v93:=L.v93
 have t91:=L.t91;have a91:=L.a91;have z91:=L.z91;have v91:=L.v91
 have t131:=L.t131;have a131:=L.a131;have z131:=L.z131;have v131:=L.v131
 have t4:=L.t4;have a4:=L.a4;have z4:=L.z4;have v4:=L.v4
 have e251:∀ args w,(callFunc (C.f 251) args).run P w=.ok (.enter (C.f 251) args) w:=enters_of L.f251 (by kernel_rfl) rfl
 have e252:∀ args w,(callFunc (C.f 252) args).run P w=.ok (.enter (C.f 252) args) w:=enters_of L.f252 (by kernel_rfl) rfl
 have c2:w.cell? ⟨b,2,none⟩=some (.int .i8 lr):=hbk.c2
 have f2:w.frozen? ⟨b,2,none⟩=false:=hbk.f 2
 have hinfo:(P.info? (C.t 5)).map (·.size)=some 1:=by
  obtain⟨i0,hi,-,hz1,-⟩:=info_parts L.i5
  rw[hi];simp[hz1]
 obtain⟨ho,hlc,hcm,h1,hrow⟩:=id hr
 have hbkA:LibA.Three (w.setCell ⟨b,2,none⟩ (.int .i8 0)) b 0 T R (.slice A l cap) (.int .i64 0) (.int .i8 0):=hbk.set2 _
 have hgA:w.grownBy (w.setCell ⟨b,2,none⟩ (.int .i8 0)) (some b):=Lib.grownBy_setCell w b 2 _
 have hszA:(w.setCell ⟨b,2,none⟩ (.int .i8 0)).heap.size=w.heap.size:=by simp[World.setCell]
 have hrA:BufRow (w.setCell ⟨b,2,none⟩ (.int .i8 0)) b A l cap olds:=⟨ho,hlc,hcm,h1,hrow.imp id fun⟨g,cur,t,e,hgb,hg,r⟩=>⟨g,cur,t,e,hgb,(Below.heap_setCell _ _ _ _ hgb).trans hg,r⟩⟩
 by_cases hroom:n<=cap-l
 ·by_cases hs0:n=0
  ·
   subst hs0
   have hc0:news=[]:=Xx hnews
   subst hc0
   have hce:∀ d dLen dCap W,(Builtin.copy_ #[(C.t 37),(C.t 37)] (C.t 3) #[.slice d dLen dCap,.slice pa 0 pc]).run P W=.ok (goInt 0) W:=fun d dLen dCap W=>run_copy_none W (C.t 37) (C.t 37) (C.t 3) (C.t 5) d pa dLen dCap 0 pc L.t37 hinfo (by simp)
   have hT:∀ W,W.cell? ⟨b,0,none⟩=some (.slice A l cap)->W.frozen? ⟨b,0,none⟩=false->Calls P (C.f 251) #[.pointer (some ⟨b,0,none⟩),.int .i64 0] W (fun e w'=>e=.returned (.tuple #[.int .i64 l,.bool true])/\w'=W.setCell ⟨b,0,none⟩ (.slice A l cap)):=fun W q1 q2=>Any.Buffer_tryGrow_room_at { L with } b 0 A l cap 0 W q1 q2 hlc hcm (XaS _)
   clear hsrc hroom hlim
   go_enter L.f180,Body.n180_ntmps C
   go_wp2_with (go_at_fn (C.f 251);refine(hT _ ?_ ?_).mono ?_)
   ·exact hbkA.c0
   ·exact hbkA.f 0
   rintro e W1 ⟨rfl,hW1⟩
   have hbk1:LibA.Three W1 b 0 T R (.slice A l cap) (.int .i64 0) (.int .i8 0):=by rw[hW1];exact hbkA.set0 _
   have hgW:w.grownBy W1 (some b):=by rw[hW1];exact Lib.grownBy_setB hgA 0 _
   clear hW1 hbkA hgA hszA hrA c2 f2 hT
   have d0:W1.cell? ⟨b,0,none⟩=some (.slice A l cap):=hbk1.c0
   have hcm':=hcm
   unfold maxLen at hcm'
   have hfin:Zy3 w T R b A l 0 cap (olds++[]) W1:=⟨A,cap,hbk1,hlc,hcm,Xq ⟨rfl,rfl,rfl,hgW⟩⟩
   clear hrow hr
   cases A
   all_goals (go_wp2;all_goals (go_ret2;first |exact⟨rfl,hfin⟩ |exact⟨by simp,by simpa using hfin⟩ |(refine⟨by simp,?_⟩;grind)))
  ·
   go_enter L.f180,Body.n180_ntmps C
   go_wp2_with (go_at_fn (C.f 251);refine(Any.Buffer_tryGrow_room_at { L with } b 0 A l cap n _ ?_ ?_ hlc hcm hroom).mono ?_)
   ·exact hbkA.c0
   ·exact hbkA.f 0
   rintro e W1 ⟨rfl,hW1⟩
   obtain⟨G,cap',cur,t,hbk1,hG,hcs,htk,hlc',hcm',hGb,hGw,hgW⟩:∃ G cap' cur t,LibA.Three W1 b 0 T R (.slice (some ⟨G,0,none⟩) (l+n) cap') (.int .i64 0) (.int .i8 0)/\W1.heap[G]?=some (.cells cur t (0,0))/\cur.size=cap'/\cur.toList.take l=olds/\l+n<=cap'/\cap'<=maxLen/\G≠b/\(G=w.heap.size\/(A=some ⟨G,0,none⟩/\cap≠0))/\w.grownBy W1 (some b):=by
    obtain hc |⟨g,cur,t,e,hgb,hg,hcs,htk⟩:=hrow
    ·omega
    ·refine⟨g,cap,cur,t,?_,?_,hcs,htk,by omega,hcm,hgb,Xt ⟨e,by omega⟩,?_⟩
     ·rw[hW1,e];rw[e]at hbkA;exact hbkA.set0 _
     ·rw[hW1,Below.heap_setCell _ _ _ _ hgb,Below.heap_setCell _ _ _ _ hgb];exact hg
     ·rw[hW1];exact Lib.grownBy_setB hgA 0 _
   clear hW1 hbkA hgA hszA hrA c2 f2 hrow
   have d0:W1.cell? ⟨b,0,none⟩=some (.slice (some ⟨G,0,none⟩) (l+n) cap'):=hbk1.c0
   have hne:¬cap'=l:=by omega
   have hsrc1:n=0\/∃ a,pa=some a/\∀ j v,news[j]?=some v->W1.cell? (a.add j)=some v:=hsrc.imp id fun⟨a,e,hab,h⟩=>⟨a,e,fun j v hj=>hgW.cell (h j v hj) (by rw[Lib.block_add];exact fun e=>hab (WP e))⟩
   obtain⟨W2,Y,hcp,hY,hYl,hgb,hsz⟩:=ZnZ (P:=P) W1 (C.t 37) (C.t 37) (C.t 3) (C.t 5) G l n (cap'-l) pa n pc cur t news L.t37 hinfo hG hnews (XH _) hsrc1 (by omega) h1c
   have hYs:Y.size=cap':=by
    have h3:=congrArg Xaz hYl
    simp only[XM,Wt,WK,XU]at h3
    omega
   have hYt:Y.toList.take (l+n)=olds++news:=by
    rw[hYl,htk,Wn (by simp;omega),XG (by simp;omega)]
   have hW2:LibA.Three W2 b 0 T R (.slice (some ⟨G,0,none⟩) (l+n) cap') (.int .i64 0) (.int .i8 0):=hbk1.of_heap (hgb.block b hbk1.lt (fun e=>hGb (WP e).symm))
   have hcm2:=hcm'
   unfold maxLen at hcm2
   have hgb0:=hgb
   have hYr:=hY
   clear hsrc hsrc1 hr hA
   go_wp2
   go_ret2
   exact⟨rfl,_,_,hW2,hlc',hcm',Xt ⟨G,W1,Y,t,rfl,hGw,hGb,hgW,hgb0,hYr,hYs,hYt⟩⟩
 ·
  go_enter L.f180,Body.n180_ntmps C
  go_wp2_with (go_at_fn (C.f 251);refine(Any.Buffer_tryGrow_none_at { L with } b 0 A l cap n _ ?_ hlc hcm (by omega)).mono ?_)
  ·exact hbkA.c0
  rintro e W0 ⟨rfl,hW0⟩
  rw[<-hW0]at hbkA hgA hszA hrA
  clear hW0 c2 f2
  have hroom':cap-l<n:=by omega
  go_wp2_with (go_at_fn (C.f 252);refine(ZD1 { L with } T R b A l cap olds n 0 _ ?_ ?_ hA hroom' hlim).mono ?_)
  ·exact hbkA
  ·exact hrA
  rintro e W1 ⟨rfl,cap',cur,hbk1,hG,hcs,htk,hlc',hcm',hgB⟩
  obtain⟨G,hGe⟩:∃ G,G=w.heap.size:=⟨_,rfl⟩
  rw[hszA,<-hGe]at hbk1 hG
  have hGw:G=w.heap.size\/(A=some ⟨G,0,none⟩/\cap≠0):=Xq hGe
  have hGb:G≠b:=by have:=hbk.lt;omega
  have hgW:w.grownBy W1 (some b):=Lib.grownBy_trans hgA hgB
  obtain⟨t,ht⟩:∃ t,t=C.t 5:=⟨_,rfl⟩
  rw[<-ht]at hG
  clear hbkA hgA hszA hrA hgB hGe hrow hroom
  have d0:W1.cell? ⟨b,0,none⟩=some (.slice (some ⟨G,0,none⟩) (l+n) cap'):=hbk1.c0
  have hne:¬cap'=l:=by omega
  have hsrc1:n=0\/∃ a,pa=some a/\∀ j v,news[j]?=some v->W1.cell? (a.add j)=some v:=hsrc.imp id fun⟨a,e,hab,h⟩=>⟨a,e,fun j v hj=>hgW.cell (h j v hj) (by rw[Lib.block_add];exact fun e=>hab (WP e))⟩
  obtain⟨W2,Y,hcp,hY,hYl,hgb,hsz⟩:=ZnZ (P:=P) W1 (C.t 37) (C.t 37) (C.t 3) (C.t 5) G l n (cap'-l) pa n pc cur t news L.t37 hinfo hG hnews (XH _) hsrc1 (by omega) h1c
  have hYs:Y.size=cap':=by
   have h3:=congrArg Xaz hYl
   simp only[XM,Wt,WK,XU]at h3
   omega
  have hYt:Y.toList.take (l+n)=olds++news:=by
   rw[hYl,htk,Wn (by simp;omega),XG (by simp;omega)]
  have hW2:LibA.Three W2 b 0 T R (.slice (some ⟨G,0,none⟩) (l+n) cap') (.int .i64 0) (.int .i8 0):=hbk1.of_heap (hgb.block b hbk1.lt (fun e=>hGb (WP e).symm))
  have hcm2:=hcm'
  unfold maxLen at hcm2
  have hgb0:=hgb
  have hYr:=hY
  clear hsrc hsrc1 hr hA
  go_wp2
  go_ret2
  exact⟨rfl,_,_,hW2,hlc',hcm',Xt ⟨G,W1,Y,t,rfl,hGw,hGb,hgW,hgb0,hYr,hYs,hYt⟩⟩
end
end
section
open Go.Shelf Go.RowKit
section
variable {P:Program}{C:Ren}{base:Nat->Prop}{w0 w w':World}{I0 I:Imm}{V:Bmap}{G:Za}
theorem ZQM{b:Nat}{ty:TypeId}{x y z:Value}(h:LibA.Three w b 0 ty (fun _=>none) x y z):w.heap[b]?=some (.cells #[x,y,z] ty (0,0)):=by
 obtain⟨cs,hb,h0,h1,h2,hr⟩:=h
 rw[hb]
 have : cs=#[x,y,z]:=by
  apply Array.ext_getElem?
  intro i
  grind
 rw[this]
theorem ZH1{k:Nat}{y:AVal}{ys:List AVal}{b off:Nat}(h:LR I V k (y::ys) b off)(hk:0<k):∃ u,I b off=some u:=by
 rw[Zhm]at h
 obtain⟨⟨h1,h2⟩,_⟩:=h
 cases hc:y.cells with
 |nil=>grind
 |cons c cs =>
  rw[hc]at h2
  simp only[CR]at h2
  grind
theorem ZBR(R:Rel base w0 I0 I V G w){b:Nat}(hb:∀ o,I b o=none){y:Bool}{ys:List AVal}{v:Value}(hv:VR I V (.lst y ys) v)(hk:kOk 1 ys=true) :
  ∃ A cap news,v=.slice A ys.length cap/\news.length=ys.length/\VRs I V (ys.flatMap AVal.cells) news/\Zaq ys=true/\(∀ x∈ys,x.cells.length=1)/\(∀ v∈news,v.oneCell'=true) /\
   (ys.length=0\/∃ a,A=some a/\a.block≠b/\∀ j v,news[j]?=some v->w.cell? (a.add j)=some v):=by
 have hv0:=hv
 obtain⟨A,cap,e,_,_,htree,hc⟩:=Zm6 R hv
 by_cases hne:ys=[]
 ·subst hne
  exact⟨A,cap,[],e,rfl,by simp[VRs],rfl,by simp,by simp,Xq rfl⟩
 ·rcases hc with hc |⟨b',off,k,us,hA,hk0,hl,hvs,hcell⟩
  ·grind
  have e1:=ZlU hk hl hne
  subst e1
  refine⟨A,cap,us,e,by rw[<-ZaO hvs,Zfi hl,XaU],hvs,htree,hl,Zih (fun z hz=>Zka (Zd0.1 (ZnK htree) z hz)) hvs,Xt ⟨⟨b',off,none⟩,hA,?_,fun j v hj=>by rw[Addr.add_mid];exact hcell j v hj⟩⟩
  rintro rfl
  simp only[VR]at hv0
  obtain⟨A',cap',e',_,_,_,h5,_⟩:=hv0
  rcases h5 with h5 |⟨b2,off2,k2,e2,hk2,h5⟩
  ·grind
  ·rw[e]at e'
   injection e' with e' _ _
   rw[e']at hA
   rw[hA]at e2
   injection e2 with e2
   injection e2 with e2 e3
   cases ys with
   |nil=>grind
   |cons z zs =>
    obtain⟨u,hu⟩:=ZH1 h5 hk2
    grind
theorem ZAj (L : LaysM.n180 P C) (hb : KLt base w0) {c0 : AVal} {lr : Int} {g : Nat} {xs : List AVal} (R : Rel base w0 I0 I V [.var [c0, .int .i64 0, .int .i8 lr], .row g 1 xs] w)
    {bi : BI} (hbi : V 1 g = some bi) {b kk cc : Nat} (hV0 : V 0 0 = some ⟨some b, kk, cc⟩) {A : Option Addr} {cap : Nat} {ty : TypeId}
    (hheap : w.heap[b]? = some (.cells #[.slice A xs.length cap, .int .i64 0, .int .i8 lr] ty (0, 0)))
    (hA : (∃ gb, bi.b = some gb /\ A = some ⟨gb, 0, none⟩ /\ cap = bi.cap) \/ (bi.b = none /\ cap = 0 /\ bi.cap = 0))
    {y : Bool} {ys : List AVal} {v1 : Value} (hv1 : VR I V (.lst y ys) v1) (hlim : xs.length + ys.length <= ZlR) (hk : kOk 1 ys = true) :
    Calls P (C.f 180) #[.pointer (some ⟨b, 0, none⟩), v1] w (fun e w' => ∃ u, Ends (.tup [.int .i64 ys.length, .nili]) e u /\ ∃ V', V.le V' /\
      Rel base w0 I0 I V' [.var [.sl 1 (g + 1) 0 (xs ++ ys).length, .int .i64 0, .int .i8 0], .row (g + 1) 1 (xs ++ ys)] w' /\ VR I V' (.tup [.int .i64 ys.length, .nili]) u) := by
  have hbw := R.base_le hb
  have how : ZJ V 0 (.var [c0, .int .i64 0, .int .i8 lr]) = some b := by simp only [ZJ, hV0, Wk]
  have hob := R.own 0 _ b rfl how
  obtain ⟨bi', hbi', hk1, _, hcap63, hxl, htree, hlens, hrow⟩ := R.blk 1 (.row g 1 xs) rfl
  rw [hbi] at hbi'; injection hbi' with hbi'; subst hbi'
  have hor : ZJ V 1 (.row g 1 xs) = bi.b := by simp only [ZJ, hbi, Wk]
  obtain ⟨olds, hBR, hvo, hA0⟩ : ∃ olds, BufRow w b A xs.length cap olds /\ VRs I V (xs.flatMap AVal.cells) olds /\ (A = none -> cap = 0) := by
    rcases hA with ⟨gb, e1, e2, e3⟩ | ⟨e1, e2, e3⟩
    . rcases hrow with ⟨h1, h2⟩ | ⟨gb', us, ty', h1, h2, h3, h4⟩
      . grind
      . rw [e1] at h1; injection h1 with h1; subst h1
        rw [XaU] at h3 h4
        have hgb : gb ≠ b := by
          rintro rfl
          have := R.apart 0 _ 1 _ gb rfl rfl how (by grind)
          omega
        refine ⟨us.toList.take xs.length, ⟨by grind, by omega, by unfold maxLen; omega, Zih (fun z hz => Zka (Zd0.1 (ZnK htree) z hz)) h4, Xt ⟨gb, us, ty', e2, hgb, h2, by omega, rfl⟩⟩, h4, by grind⟩
    . have hx : xs = [] := Xx (by omega)
      subst hx
      exact ⟨[], ⟨rfl, by simp, by grind, by simp, Xq e2⟩, by simp [VRs], fun _ => e2⟩
  obtain ⟨A1, cap1, news, rfl, hnl, hvn, htn, hln, hn1, hsrc⟩ := ZBR R hob.2 hv1 hk
  refine (ZRI L ty (fun _ => none) b A xs.length cap lr olds news A1 ys.length cap1 w (LibA.three_whole hheap) hBR hA0 hnl hn1 hsrc (by unfold ZlR at hlim; omega)).mono ?_
  rintro e w' ⟨rfl, A', cap', hT, hle, hcm, hcase⟩
  refine ⟨_, rfl, ?_⟩
  have hT' := ZQM hT
  unfold maxLen at hcm
  obtain ⟨w1, hw1⟩ : ∃ w1 : World, w1 = { w with heap := w.heap.setIfInBounds b (.cells #[.slice A' (xs.length + ys.length) cap', .int .i64 0, .int .i8 0] ty (0, 0)) } := ⟨_, rfl⟩
  have hbl : b < w.heap.size := Lib.lt_of_heap hheap
  have h1b : w1.heap[b]? = w'.heap[b]? := by rw [hw1, hT']; simp [hbl]
  have h1o : ∀ k, k ≠ b -> w1.heap[k]? = w.heap[k]? := fun k hk => by grind
  have h1s : w1.heap.size = w.heap.size := by rw [hw1]; simp
  have R1 : Rel base w0 I0 I V [.var [.top, .int .i64 0, .int .i8 0], .row g 1 xs] w1 := by
    have := R.putObj (t := 0) (x' := .var [.top, .int .i64 0, .int .i8 0]) rfl how (by simp only [ZJ, hV0, Wk]) (.cells #[.slice A' (xs.length + ys.length) cap', .int .i64 0, .int .i8 0] ty (0, 0))
      ⟨b, kk, cc, _, ty, hV0, by simp [hbl]; rfl, by simp [VRs, VR]⟩ rfl
    rw [hw1]; exact this
  obtain ⟨bi2, hB, keep, hbi2, hblk, hv2⟩ : ∃ bi2 : BI, KB base w1 w' /\ (∀ b', ZJ V 1 (.row g 1 xs) ≠ some b' -> b' < w1.heap.size -> w'.heap[b']? = w1.heap[b']?) /\ (bi2.b = none \/ ∃ b', bi2.b = some b' /\ (ZJ V 1 (.row g 1 xs) = some b' \/ b' = w1.heap.size)) /\
      BR I (V.put 1 (g + 1) bi2) w' 1 (.row (g + 1) 1 (xs ++ ys)) /\ VR I (V.put 1 (g + 1) bi2) (.sl 1 (g + 1) 0 (xs ++ ys).length) (.slice A' (xs.length + ys.length) cap') := by
    have hle2 : V.le (V.put 1 (g + 1) bi) -> True := fun _ => trivial
    have hnone : V 1 (g + 1) = none := R.gen 1 _ (g + 1) rfl (by simp [Zm])
    rcases hcase with ⟨hn0, rfl, rfl, hgB⟩ | ⟨G, W1, Y, t, rfl, hGw, hGb, hg1, hg2, hY, hYs, hYt⟩
    . have hy : ys = [] := Xx hn0
      subst hy
      simp only [Xr, Xw, Nat.add_zero]
      have hbl' : V.le (V.put 1 (g + 1) bi) := Bmap.put_le hnone
      have same : ∀ k, k < w.heap.size -> w'.heap[k]? = w1.heap[k]? := by
        intro k hk
        by_cases e : k = b
        . rw [e, h1b]
        . rw [h1o k e]; exact hgB.block k hk (fun h => e (WP h))
      refine ⟨bi, ⟨by rw [hw1]; exact hgB.os, by rw [hw1]; exact hgB.tape, by rw [hw1]; exact hgB.output, by grind, fun k hk => same k (hbw k hk)⟩, fun b' _ hb' => same b' (by omega), ?_, ?_, ?_⟩
      . grind
      . refine ⟨bi, Bmap.put_same V 1 (g + 1) bi, hk1, by omega, hcap63, hxl, htree, hlens, hrow.imp id ?_⟩
        rintro ⟨gb, us, ty', q1, q2, q3, q4⟩
        have hgb : gb ≠ b := by
          rintro rfl
          have := R.apart 0 _ 1 _ gb rfl rfl how (by grind)
          omega
        exact ⟨gb, us, ty', q1, by grind, q3, VRs.mono (Imm.le.refl I) hbl' _ _ q4⟩
      . rw [Zcl]
        refine ⟨bi, Bmap.put_same V 1 (g + 1) bi, hxl, hcap63, ?_⟩
        rcases hA with ⟨gb, e1, e2, e3⟩ | ⟨e1, e2, e3⟩
        . grind
        . have hx : xs.length = 0 := by omega
          grind
    . have hbl' : V.le (V.put 1 (g + 1) ⟨some G, 1, cap'⟩) := Bmap.put_le hnone
      have hGo : ZJ V 1 (.row g 1 xs) = some G \/ G = w1.heap.size := by
        rcases hGw with e | ⟨e, hc0⟩
        . exact Xt (by rw [h1s]; exact e)
        . refine Xq ?_
          rw [hor]
          rcases hA with ⟨gb, e1, e2, e3⟩ | ⟨e1, e2, e3⟩
          . rw [e2] at e; injection e with e; injection e with e; rw [e1, e]
          . exact absurd e2 hc0
      have hsz1 : w.heap.size <= W1.heap.size := hg1.size
      have same : ∀ k, k < w.heap.size -> k ≠ G -> w'.heap[k]? = w1.heap[k]? := by
        intro k hk hkG
        by_cases e : k = b
        . rw [e, h1b]
        . rw [h1o k e]; exact (hg2.block k (by omega) (fun h => hkG (WP h))).trans (hg1.block k hk (fun h => e (WP h)))
      refine ⟨⟨some G, 1, cap'⟩, ⟨by rw [hw1]; exact hg2.os.trans hg1.os, by rw [hw1]; exact hg2.tape.trans hg1.tape, by rw [hw1]; exact hg2.output.trans hg1.output, by grind, fun k hk => same k (hbw k hk) ?_⟩, fun b' hb1 hb' => same b' (by omega) ?_, Xt ⟨G, rfl, hGo⟩, ?_, ?_⟩
      . rintro rfl
        rcases hGo with e | e
        . exact (R.own 1 _ _ rfl e).1 hk
        . have := hbw _ hk; omega
      . grind
      . refine ⟨_, Bmap.put_same V 1 (g + 1) _, rfl, by omega, hcm, by grind, by rw [Zie htree htn], ?_, Xt ⟨G, Y, t, rfl, hY, by rw [hYs, XaU], ?_⟩⟩
        . grind
        . rw [XM, XaU, hYt, Zgl]
          exact Zc3 (VRs.mono (Imm.le.refl I) hbl' _ _ hvo) (VRs.mono (Imm.le.refl I) hbl' _ _ hvn)
      . rw [Zcl]
        exact ⟨_, Bmap.put_same V 1 (g + 1) _, by grind, hcm, Xq ⟨G, rfl, by grind⟩⟩
  have hbw1 : KLt base w1 := fun k hk => by rw [h1s]; exact hbw k hk
  obtain ⟨R2, hle2⟩ := R1.grow (t := 1) (g := g) (k := 1) (xs := xs) (xs' := xs ++ ys) rfl bi2 hB (by
    intro b' o u hI
    have hne : b' ≠ b := by rintro rfl; rw [hob.2 o] at hI; cases hI
    have hlt : b' < w1.heap.size := by rw [h1s]; exact Zez (R.imm _ _ _ hI)
    have hno : ZJ V 1 (.row g 1 xs) ≠ some b' := fun e => by have := (R.own 1 _ b' rfl e).2 o; rw [this] at hI; cases hI
    rw [<- R1.imm b' o u hI]
    simp only [World.cell?, keep b' hno hlt]) keep hbi2 hbw1 hblk
  have hV2 : (V.put 1 (g + 1) bi2) 0 0 = some ⟨some b, kk, cc⟩ := hle2 _ _ _ hV0
  refine ⟨V.put 1 (g + 1) bi2, hle2, ?_, by simp [VR, VRs]⟩
  refine R2.upd (Imm.le.refl I) (Bmap.le.refl _) (KB.refl _ _) (fun _ _ _ => rfl) R2.imm 0 (.var [.sl 1 (g + 1) 0 (xs ++ ys).length, .int .i64 0, .int .i8 0]) rfl (by simp) (fun _ _ _ => rfl) ?_ ?_ ?_ ?_ (by simp)
  . intro t' x b' hne hx hb'
    refine ⟨rfl, (R2.own t' x b' hx hb').2, ?_⟩
    simp only [ZJ, hV2, Wk]
    intro e; injection e with e; subst e
    exact hne (R2.apart t' x 0 _ b hx rfl hb' (by simp only [ZJ, hV2, Wk]))
  . exact ⟨b, kk, cc, _, ty, hV2, hT', by simp only [VRs]; exact ⟨_, _, rfl, hv2, _, _, rfl, by simp [VR], _, _, rfl, by simp [VR], rfl⟩⟩
  . intro b' e
    simp only [ZJ, hV2, Wk] at e; grind
  . intro g' hg'
    exact R2.gen 0 _ g' rfl (by simpa [Zm] using hg')
theorem ZFt(L:LaysM.n180 P C){f:FuncId}(hf:C.f 180=f)(hx:∃ fn,P.funcs[f]?=some fn/\fn.body.isSome=true/\(fn.name == "runtime.NumGoroutine")=false){args:List AVal}{G G':Za}{r:AVal}(hg:Zlv args G=some (r,G')) :
  (∃ fn,P.funcs[f]?=some fn/\fn.body.isSome=true/\(fn.name == "runtime.NumGoroutine")=false) /\
  ∀ base w0 I0 I V w (vs:Array Value),KLt base w0->Rel base w0 I0 I V G w->VRs I V args vs.toList ->
   Calls P f vs w (fun e w'=>∃ u,Ends r e u/\Zb6 G.length base w0 I0 I V r G' u w'):=by
 refine⟨hx,?_⟩
 intro base w0 I0 I V w vs hb R hargs
 subst hf
 unfold Zlv at hg
 split at hg
 ·
  rename_i y ys lr
  split at hg
  case isFalse=>cases hg
  rename_i hc
  simp only[Xb,Xe]at hg
  obtain⟨rfl,rfl⟩:=hg
  simp only[VRs]at hargs
  obtain⟨v0,_,hvs,h0,v1,_,rfl,h1,rfl⟩:=hargs
  have hvs':vs=#[v0,v1]:=by rw[<-XaP];exact hvs
  subst hvs'
  simp only[VR]at h0
  obtain⟨b,k,c,hV0,rfl⟩:=h0
  obtain⟨b',k',c',us,ty,hV,hheap,hcs⟩:=R.blk 0 _ rfl
  rw[hV0]at hV;injection hV with hV;injection hV with hV1 hV2 hV3;injection hV1 with hV1;subst hV1 hV2 hV3
  simp only[VRs]at hcs
  obtain⟨u0,_,hus,hu0,u1,_,rfl,hu1,u2,_,rfl,hu2,rfl⟩:=hcs
  simp only[VR]at hu0 hu1 hu2
  obtain⟨A,cap,rfl,_,_,hcap,_,_⟩:=hu0
  have hcap0:cap=0:=by simpa using hcap
  subst hu1 hu2 hcap0
  have hus':us=#[.slice A 0 0,.int .i64 0,.int .i8 lr]:=by rw[<-XaP];simpa using hus
  subst hus'
  have R1:=R.reserve 1
  have hfree:([.var [.lst true [],.int .i64 0,.int .i8 lr]]++XI 1 ZP.free)[1]?=some .free:=rfl
  obtain⟨R2,hle⟩:=R1.newNone hfree 1 (by omega)
  have R3:Rel base w0 I0 I (V.put 1 0 ⟨none,1,0⟩) [.var [.lst true [],.int .i64 0,.int .i8 lr],.row 0 1 []] w:=R2
  refine(ZAj L hb R3 (bi:=⟨none,1,0⟩) (Bmap.put_same V 1 0 _) (hle _ _ _ hV0) (A:=A) (cap:=0) hheap (Xt ⟨rfl,rfl,rfl⟩) (h1.mono (Imm.le.refl I) hle _ _) (by grind) hc.2).mono ?_
  rintro e w' ⟨u,he,V',hb',hR,hv⟩
  obtain⟨V2,hk2,hR2,_⟩:=ZqK hR 1 []
  refine⟨u,he,I,V2,Imm.le.refl I,(KeptE.of_le (hle.trans hb')).trans hk2,?_,by simpa[ZaX,VR,VRs]using hv⟩
  have hgc:(gcA 1 [] [.var [.sl 1 (0+1) 0 ([]++ys).length,.int .i64 0,.int .i8 0],.row (0+1) 1 ([]++ys)]).2=[.var [.sl 1 0 0 ys.length,.int .i64 0,.int .i8 0],.row 0 1 ys]:=rfl
  rw[hgc]at hR2
  exact hR2
 ·rename_i y ys g m lr g' xs
  split at hg
  case isFalse=>cases hg
  rename_i hc
  obtain⟨rfl,rfl,hc1,hc2⟩:=hc
  simp only[Xb,Xe]at hg
  obtain⟨rfl,rfl⟩:=hg
  simp only[VRs]at hargs
  obtain⟨v0,_,hvs,h0,v1,_,rfl,h1,rfl⟩:=hargs
  have hvs':vs=#[v0,v1]:=by rw[<-XaP];exact hvs
  subst hvs'
  simp only[VR]at h0
  obtain⟨b,k,c,hV0,rfl⟩:=h0
  obtain⟨b',k',c',us,ty,hV,hheap,hcs⟩:=R.blk 0 _ rfl
  rw[hV0]at hV;injection hV with hV;injection hV with hV1 hV2 hV3;injection hV1 with hV1;subst hV1 hV2 hV3
  obtain⟨bi,hbi,hk1,_⟩:=R.blk 1 (.row g 1 xs) rfl
  simp only[VRs]at hcs
  obtain⟨u0,_,hus,hu0,u1,_,rfl,hu1,u2,_,rfl,hu2,rfl⟩:=hcs
  rw[Zcl]at hu0
  simp only[VR]at hu1 hu2
  subst hu1 hu2
  obtain⟨bi',hbi',_,_,hcase⟩:=hu0
  rw[hbi]at hbi';injection hbi' with hbi';subst hbi'
  obtain⟨A,cap,rfl,hA⟩:∃ A cap,u0=.slice A xs.length cap/\((∃ gb,bi.b=some gb/\A=some ⟨gb,0,none⟩/\cap=bi.cap)\/(bi.b=none/\cap=0/\bi.cap=0)):=by
   grind
  have hus':us=#[.slice A xs.length cap,.int .i64 0,.int .i8 lr]:=by rw[<-XaP];simpa using hus
  subst hus'
  refine(ZAj L hb R hbi hV0 hheap hA h1 hc1 hc2).mono ?_
  rintro e w' ⟨u,he,V',hb',hR,hv⟩
  exact⟨u,he,I,V',Imm.le.refl I,KeptE.of_le hb',hR,hv⟩
 ·cases hg
end
end
section
open Go.Shelf
def ZOX:Ren:=⟨fun |180=>81 |251=>108 |252=>109 |181=>128 |184=>129 |290=>130 |324=>143 |n=>n,fun |130=>130 |37=>22 |3=>3 |75=>127 |0=>0 |93=>87 |91=>85 |131=>149 |4=>4 |20=>20 |5=>5 |80=>112 |9=>9 |n=>n,fun |14=>0 |n=>n⟩
theorem ZKC:Go.Proofs.LaysM.n180 Tryz.prog ZOX:={ mixed:=by kernel_rfl,f180:=Tryz.func81.trans (congrArg some (by kernel_rfl)),f181:=Tryz.func128.trans (congrArg some (by kernel_rfl)),f184:=Tryz.func129.trans (congrArg some (by kernel_rfl)),f251:=Tryz.func108.trans (congrArg some (by kernel_rfl)),f252:=Tryz.func109.trans (congrArg some (by kernel_rfl)),f290:=Tryz.func130.trans (congrArg some (by kernel_rfl)),f324:=Tryz.func143.trans (congrArg some (by kernel_rfl)),t0:=Tryz.underlying0,a0:=Tryz.isAgg0,z0:=Tryz.sizeOf0,v0:=Tryz.zeroValue0,t3:=Tryz.underlying3,a3:=Tryz.isAgg3,z3:=Tryz.sizeOf3,v3:=Tryz.zeroValue3,t4:=Tryz.underlying4,a4:=Tryz.isAgg4,z4:=Tryz.sizeOf4,v4:=Tryz.zeroValue4,t20:=Tryz.underlying20,a20:=Tryz.isAgg20,z20:=Tryz.sizeOf20,v20:=Tryz.zeroValue20,t37:=Tryz.underlying22,a37:=Tryz.isAgg22,z37:=Tryz.sizeOf22,v37:=Tryz.zeroValue22,t75:=Tryz.underlying127,a75:=Tryz.isAgg127,z75:=Tryz.sizeOf127,v75:=Tryz.zeroValue127,t91:=Tryz.underlying85,a91:=Tryz.isAgg85,z91:=Tryz.sizeOf85,v91:=Tryz.zeroValue85,t93:=Tryz.underlying87,a93:=Tryz.isAgg87,z93:=Tryz.sizeOf87,v93:=Tryz.zeroValue87,t130:=Tryz.underlying130,a130:=Tryz.isAgg130,z130:=Tryz.sizeOf130,v130:=Tryz.zeroValue130,t131:=Tryz.underlying149,a131:=Tryz.isAgg149,z131:=Tryz.sizeOf149,v131:=Tryz.zeroValue149,g14:=by kernel_rfl,t5:=Tryz.underlying5,a5:=Tryz.isAgg5,z5:=Tryz.sizeOf5,v5:=Tryz.zeroValue5,t9:=Tryz.underlying9,a9:=Tryz.isAgg9,z9:=Tryz.sizeOf9,v9:=Tryz.zeroValue9,t80:=Tryz.underlying112,a80:=Tryz.isAgg112,z80:=Tryz.sizeOf112,v80:=Tryz.zeroValue112,i0:=by kernel_rfl,i3:=by kernel_rfl,i4:=by kernel_rfl,i5:=by kernel_rfl,i9:=by kernel_rfl,i20:=by kernel_rfl,i37:=by kernel_rfl,i75:=by kernel_rfl,i80:=by kernel_rfl,i91:=by kernel_rfl,i93:=by kernel_rfl,i130:=by kernel_rfl,i131:=by kernel_rfl,m14:=by kernel_rfl }
end
section
theorem ZCx:∃ fn,Tryz.prog.funcs[81]?=some fn/\fn.body.isSome=true/\(fn.name == "runtime.NumGoroutine")=false:=⟨Tryz.f81,Tryz.func81,by kernel_rfl,by kernel_rfl⟩
theorem ZMG:ZmJ Tryz.prog PR1:=by
 intro f g h args G r G' hg
 unfold PR1 at h
 split at h
 ·rename_i e;subst e
  injection h with h;subst h
  exact ZPi hg
 ·split at h
  ·rename_i e;subst e
   injection h with h;subst h
   exact ZFt ZKC rfl ZCx hg
  ·exact ZuW f g h args G r G' hg
theorem ZSZ:ZaM Tryz.prog E1:=by
 have h:E1=EV CF PR1 BY:=ZGB CF PR1 BY
 rw[h]
 exact ZNh Zme ZMG ann BY
end
section
def Zr7:Zf:=by apply Zb 3 [] [];conv=>lhs;reduce;dsimp only[zi]
def ZsB:ZM:=⟨[(.tmp 2)],Zr7⟩
theorem ZQd:FC 3=some ZsB:=by kernel_rfl
theorem ZKS:ZsB.body=Zr7:=rfl
theorem ZGy:ZsB.res=[(.tmp 2)]:=rfl
def Zp0:Zf:=(.seq (.region [oI 2 (.mov (.c (.int .i64 0)))] none [0]) (.seq (.region [oM 3 0,oM 2 3] none [2]) .ret))
def Zqf:ZM:=⟨[(.tmp 2)],Zp0⟩
theorem ZBh:FC 10=some Zqf:=by kernel_rfl
theorem ZU6:Zqf.body=Zp0:=rfl
theorem ZJN:Zqf.res=[(.tmp 2)]:=rfl
end
section
end
section
set_option maxRecDepth 100000
def Zys:AVal:=.agg [.int .u8 64,.lnt [0,7,16]]
def Zu8:AVal:=.agg [.int .u8 50,.lst true [.int .u8 0,.int .u8 1,.int .u8 97,.int .u8 0,.int .u8 1,.int .u8 0,.int .u8 120]]
def ZnR:List AVal:=(P0.set 0 (.int .i64 4)).set 4 (.int .i64 7) |>.set 7 (.int .i64 16)
def ZmU:List AVal:=(((((P0.set 0 (.int .i64 3)).set 2 (.int .i64 1)).set 4 (.int .i64 1)).set 5 (.str [97])).set 9 (.lst false [])).set 6 (.sl 0 0 0 1)
theorem Zzd{a:AVal}{G1 G2:Za}{Q:List AVal}{H:Za}{tm:Tms}(h1:evC FC PR BY 0 c1R (enterA 0 [a] []) []=some (.normal,tmR,G1))(hl:G1.length=3)(h2:evC FC PR BY 3 c2R (tput tmR (some 5) .top) G1=some (.ret,tm,G2))(h3:Ze2 0 1 2 rsR G2=some (.tup [.agg Q,.int .i64 0],H)):Zdg [a] []=some (.tup [.agg Q,.int .i64 0],H):=by
 unfold Zdg ZhI
 show(match evC FC PR BY 0 c1R (enterA 0 [a] []) []with |some (.normal,tm1,G1)=>_ |_=>none)=_
 rw[h1]
 show(if(0:Nat)<=G1.length/\1<G1.length/\2<G1.length then ZeG FC PR BY 27 c2R c3R rsR 0 (tput tmR (some 5) .top) G1 1 2 else none)=_
 rw[if_pos (by omega)]
 unfold ZeG
 grind
theorem ZKz:Zdg [Zys] []=some (.tup [.agg ZnR,.int .i64 0],[]) :=
 Zzd (G1:=[.var [.int .u8 64,.lnt [0,7,16]],.var P0,.var [.int .i64 0]]) (Zbs.2 ⟨40,by kernel_rfl⟩) rfl (G2:=[.var [.int .u8 64,.lnt [0,7,16]],.var ZnR,.var [.int .i64 0],.var (ZnR++[.lnt []]),.free,.free]) (tm:=[(3,.ref 2 0),(2,.ref 1 0)]) (Zbs.2 ⟨60,by kernel_rfl⟩) (by kernel_rfl)
theorem ZHB:Zdg [Zu8] []=some (.tup [.agg ZmU,.int .i64 0],[.row 0 1 [.int .u8 120]]) :=
 Zzd (G1:=[.var [.int .u8 50,.lst true [.int .u8 0,.int .u8 1,.int .u8 97,.int .u8 0,.int .u8 1,.int .u8 0,.int .u8 120]],.var P0,.var [.int .i64 0]]) (Zbs.2 ⟨40,by kernel_rfl⟩) rfl (G2:=[.var [.int .u8 50,.lst true [.int .u8 0,.int .u8 1,.int .u8 97,.int .u8 0,.int .u8 1,.int .u8 0,.int .u8 120]],.var (ZmU.set 6 (.sl 4 0 0 1)),.var [.int .i64 0],.var (ZmU.set 6 (.sl 4 0 0 1)++[.lst true []]),.row 0 1 [.int .u8 120],.free]) (tm:=[(3,.ref 2 0),(2,.ref 1 0)]) (Zbs.2 ⟨60,by kernel_rfl⟩) (by kernel_rfl)
mutual
def eqV:AVal->AVal->Bool
 | .int k n,.int k' n'=>decide (k=k')&&n==n'
 | .lst a xs,.lst b ys=>a==b&&ZiA xs ys
 | .agg xs,.agg ys=>ZiA xs ys
 | .lnt l,.lnt m=>l==m
 |_,_=>false
def ZiA:List AVal->List AVal->Bool
 | [],[]=>true
 |x::xs,y::ys=>eqV x y&&ZiA xs ys
 |_,_=>false
end
mutual
theorem ZNJ:∀ {a b:AVal},eqV a b=true->a=b
 | .int k n,.int k' n',h=>by
  simp only[eqV,Xk,decide_eq_true_eq,beq_iff_eq]at h
  grind
 | .lst a xs,.lst b ys,h=>by
  simp only[eqV,Xk,beq_iff_eq]at h
  rw[h.1,Zli h.2]
 | .agg xs,.agg ys,h=>by
  simp only[eqV]at h
  rw[Zli h]
 | .lnt l,.lnt m,h=>by
  simp only[eqV,beq_iff_eq]at h
  rw[h]
theorem Zli:∀ {a b:List AVal},ZiA a b=true->a=b
 | [],[],_=>rfl
 |x::xs,y::ys,h=>by
  simp only[ZiA,Xk]at h
  rw[ZNJ h.1,Zli h.2]
end
section
variable {fs:Nat->Option ZM}{p p':ZcR}{bf:Nat->Bool}
theorem ZAg(K:Nat)(h0:∀ f,p f=none->p' f=none)(h1:∀ f g,p f=some g->∀ a G r,g a G=some r->Zau fs p' bf K f a G=some r):∀ n,OLe (Zau fs p bf n) (Zau fs p' bf (n+K))
 |0=>by intro f a G r h;simp only[Zau]at h;cases h
 |n+1=>by
  intro f a G r h
  rw[Zau]at h
  split at h
  ·rename_i g hg
   exact ZjL fs p' (by omega) f a G r (h1 f g hg a G r h)
  ·rename_i hg
   rw[show n+1+K=(n+K)+1 by omega,Zau,h0 f hg]
   split at h
   ·cases h
   ·rename_i fn hfn
    exact ZkB (fun q hq=>Zec (ZAg K h0 h1 n) (by omega) hq) h
end
def Zxu(a:List AVal)(G:Za):Option (AVal×Za):=if G.isEmpty then(if ZiA a [Zys]then some (.tup [.agg ZnR,.int .i64 0],[])else if ZiA a [Zu8]then some (.tup [.agg ZmU,.int .i64 0],[.row 0 1 [.int .u8 120]])else none)else none
def Zmq:ZcR:=fun f=>if f=7 then some Zxu else if f=81 then some Zlv else PR f
theorem ZFk{n f:Nat}{a:List AVal}{G:Za}{r:AVal×Za}(hr:Zau FC Zmq BY n f a G=some r):E1 f a G=some r:=by
 refine ZdD.2 ⟨_,ZAg (fs:=FC) (bf:=BY) (p:=Zmq) (p':=PR1) 1 (fun f hf'=>?_) (fun f g hg a G r hr=>?_) n f a G r hr⟩
 ·unfold Zmq at hf'
  unfold PR1
  grind
 ·rw[Zau]
  unfold Zmq at hg
  split at hg
  ·rename_i e
   subst e
   injection hg with hg;subst hg
   have : PR1 7=some Zdg:=by rfl
   rw[this]
   unfold Zxu at hr
   split at hr
   ·rename_i hs
    rw[List.isEmpty_iff]at hs
    subst hs
    split at hr
    ·rename_i e
     rw[Zli e]
     injection hr with hr;subst hr
     exact ZKz
    ·split at hr
     ·rename_i e
      rw[Zli e]
      injection hr with hr;subst hr
      exact ZHB
     ·cases hr
   ·cases hr
  ·rename_i h1
   split at hg
   ·rename_i e
    subst e
    injection hg with hg;subst hg
    have : PR1 81=some Zlv:=by rfl
    grind
   ·rename_i h2
    have : PR1 f=some g:=by unfold PR1;rw[if_neg h1,if_neg h2];exact hg
    grind
theorem ZLU:E1 14 [] []=some (.bool true,[]):=ZFk (n:=60) (by kernel_rfl)
theorem ZEZ(G:Za)(sq own:Nat)(view:Bool):Zq E1 BY G sq 14 own view []=some (.bool true,G,{}) :=
 ZdI ZLU (by kernel_rfl) rfl rfl rfl (fun _=>rfl) _ _ _ _
end
section
theorem ZFc(G:Za)(sq own:Nat)(id n:Int):Zq E BY G sq 124 own true [.int .i64 id,.int .i64 n]=some (.int .i64 (ZgP id n),G,{}) :=
 Zct (ZFm id n) (by kernel_rfl) rfl rfl rfl (fun _=>rfl) _ _ _
theorem ZPg(G:Za)(sq own:Nat)(id:Int)(l:List ZO)(hl2:l.length<=9223372036854775807) :
  Zq E BY (.row 0 5 (l.map Zu)::G) sq 123 own true [.int .i64 id,.sl 0 0 0 (l.map Zu).length]=some (ZiX false (ZdB id l),.row 0 5 (l.map Zu)::G,{ rd:=[0] }):=by
 have h:=ZxJ l hl2 id
 rw[Znt]at h
 refine ZSC (vs:=[.int .i64 id,ZbI l]) (by kernel_rfl) ?_ rfl rfl h (r':=ZiX false (ZdB id l)) ?_ ?_ _ _
 ·simp[showAs,showA,Zcu,ZZ,ZbI]
  exact XG (by simp)
 ·cases ZdB id l<;>rfl
 ·have h1:=Zwr l
  rw[ZlI]
  have h2:=ZyD ((ZdB id l).getD Zfq).data
  unfold Zda
  simp only[WC,XaH,Ziw,Zic,Zij,XW,XX,ZaJ,h2,Zej,List.getElem?_cons_zero,h1,XT]
theorem ZBN(G:Za)(sq own:Nat)(f:Bool)(l:List ZO)(hl:l.length<=9223372036854775807)(id:Int):Zq E BY G sq 123 own true [.int .i64 id,.lst f (l.map Zu)]=some (ZiX false (ZdB id l),G,{}):=by
 have h:=ZxJ l hl id
 rw[Znt]at h
 exact Zct h (by kernel_rfl) rfl rfl (by cases ZdB id l<;>rfl) (fun _=>by rw[ZlI];rfl) G sq own
theorem ZSl(w:Int)(l:List ZO)(id:Int)(u:Nat)(v:ZO×Nat×Bool)(hid:v.1.id=id):Zdz w l id u v =
  if v.2.2=false then(v.1,0,129)else if((ZdB id l).isSome && !ZdQ id w)=true then(v.1,0,130)else(v.1,if ZgP id v.1.num=0 then u+v.2.1 else 0,ZgP id v.1.num):=by
 unfold Zdz ZgP
 grind
theorem ZTi(w:Int)(N U:Nat)(hU:U+N<=140737488355328)(l:List ZO) :
  ZdK 0 [(11,ZeA (l.map Zu)),(10,.lst false []),(8,.int .i64 (U:Nat)),(7,.int .i64 (N:Nat)),(0,.int .i64 w)] (ZeS 5 (l.map Zu))=some (Zdl (U+N) (l,0)):=by
 have hw:IntKind.i64.wrap ((U:Int)+(N:Int))=((U+N:Nat):Int):=by rw[ZaE (by omega) (by omega)];rfl
 have h1:¬(((0:Nat):Int)>0):=by simp
 unfold Zdl ZdK
 rw[Z9]
 cases l with
 |nil =>
  simp -implicitDefEqProofs only[EQA,Zc,Xc,Xa,reduceCtorEq,↓reduceIte,Ze,ZcK,Zxb,ZlB,Zb8,ZbY,Zb,Zc0,ZcW,hw,h1]
  try (simp[ZR,gcA,Zw,Zt,Zl,ZH,Zn,Zo,ZI,Zm,ZD,Zj,Zp,Zz,ZB,Xv])
 |cons p l =>
  generalize hX:(p::l).map Zu=X
  have hpos:0<X.length:=by rw[<-hX];simp
  simp only[ZcT hpos,ZcU hpos]
  simp -implicitDefEqProofs only[EQA,Zc,Xc,Xa,reduceCtorEq,↓reduceIte,ZcK,Zxb,ZlB,Zb8,ZbY,Zb,hw,h1]
  simp[ZR,gcA,Zw,Zt,Zl,ZH,Zn,Zo,ZI,Zm,ZD,Zj,Zp,Zz,ZB]
theorem Zm3(w:Int)(N U:Nat)(hU:U+N<=140737488355328)(hN9:N<=1000000000):∀ (n:Nat) (b:Zd) (l:List ZO),b.length<=n->l.length+b.length<=N->(∀ p∈l,p.data.length<=140737488355328) ->
  ZdK 0 [(11,ZeA (l.map Zu)),(10,.lst false (b.map Zh)),(8,.int .i64 (U:Nat)),(7,.int .i64 (N:Nat)),(0,.int .i64 w)] (ZeS 5 (l.map Zu))=some (Zdl (U+N) (ZdR w n b l))
 |n,[],l,hb,hN,hd=>by
  rw[Zrm]
  exact ZTi w N U hU l
 |0,c::r,l,hb,hN,hd=>by simp at hb
 |n+1,c::r,l,hb,hN,hd=>by
  rw[Zro]
  generalize hB:c::r=b at *
  have hlen:0<b.length:=by rw[<-hB];simp
  have hpos:((b.length:Nat):Int)>0:=by omega
  have hu:=ZqW (w:=w) (b:=b) (l:=l)
  have hGV:=fun G sq own f=>ZpN G sq own f b (by omega)
  have hgu:=Zkw b
  unfold gvT at hGV
  unfold Zci at hu ⊢
  rcases hx:Zas b with⟨k,u,e⟩
  rw[hx]at hGV hu hgu
  simp only at hGV hu hgu ⊢
  have n0:((0:Int) != 0)=false:=rfl
  by_cases he:e=0
  ·subst he
   have hul:=(hgu rfl).2
   have hM:=fun G sq own=>ZUj G sq own (k:Int) w
   cases hm:Z0 (k:Int) w<;>rw[hm]at hM hu
   ·rw[if_pos (Xt rfl)]
    have e9:¬((129:Int)=0):=by decide
    rw[if_neg e9]
    unfold Zdl ZdK
    simp only
    rw[if_neg e9,Z9]
    cases l with
    |nil =>
     simp only[XC,Zc0,ZcW]
     simp -implicitDefEqProofs only[EQA,Zc,Xc,Xa,unA,Zy,unG,reduceCtorEq,↓reduceIte,Ze,ZcK,Zb8,ZbY,Zb,hpos,hGV,hM,n0]
     try (simp[ZR,gcA,Zw,Zt,Zl,ZH,Zn,Zo,ZI,Zm,ZD,Zj,Zp,Zz,ZB,Xv])
    |cons a l =>
     generalize hX:(a::l).map Zu=X at *
     have hXp:0<X.length:=by rw[<-hX];simp
     simp only[ZcT hXp,ZcU hXp]
     simp -implicitDefEqProofs only[EQA,Zc,Xc,Xa,unA,Zy,unG,reduceCtorEq,↓reduceIte,Ze,ZcK,Zb8,ZbY,Zb,hpos,hGV,hM,n0]
     try (simp[ZR,gcA,Zw,Zt,Zl,ZH,Zn,Zo,ZI,Zm,ZD,Zj,Zp,Zz,ZB,Xv])
   ·have hc:¬((0:Int)≠0\/true=false):=by simp
    rw[if_neg hc]at hu ⊢
    have hs:=fun G kk=>Zgw G b kk ((u:Nat):Int) (by omega) (by omega)
    have e2:(((u:Nat):Int)).toNat=u:=rfl
    rw[e2]at hs
    have hV:=fun G sq own f=>ZVg G sq own f (k:Int) (b.drop u) (by simp;omega)
    have hF:=fun G sq own f=>ZBN G sq own f l (by omega) (k:Int)
    have hS:=fun G sq own=>ZPg G sq own (k:Int) l (by omega)
    have hid:=Zzp (k:Int) (b.drop u)
    have hused:(Zcv (k:Int) (b.drop u)).2.1<=b.length:=Ww (Zuo _ _) (by simp)
    have hdat:(Zcv (k:Int) (b.drop u)).1.data.length<=b.length:=Ww (Zw6 _ _) (by simp)
    unfold Zbx at hV
    simp only[ZlI]at hF hS
    rw[ZSl w l _ u _ hid]at hu ⊢
    generalize Zcv (k:Int) (b.drop u)=v at *
    obtain⟨p,m,ok⟩:=v
    simp only at hV hid hused hdat hu ⊢
    have hC:=fun G sq own=>ZFc G sq own (k:Int) p.num
    generalize ZgP (k:Int) p.num=cd at *
    generalize (ZdB (k:Int) l).getD Zfq=q at *
    cases ok
    ·rw[if_pos rfl]
     have e9:¬((129:Int)=0):=by decide
     rw[if_neg e9]
     unfold Zdl ZdK
     simp only
     rw[if_neg e9,Z9]
     cases l with
     |nil =>
      simp only[XC,Zc0,ZcW]
      simp -implicitDefEqProofs only[EQA,Zs,Zc,Xd,Xc,Xf,Xa,Xg,unA,Zy,unG,reduceCtorEq,↓reduceIte,Ze,ZcK,Zb8,ZbY,Zb,hpos,hGV,hM,hs,hV,n0,AVal.cells]
      try (simp[ZR,gcA,Zw,Zt,Zl,ZH,Zn,Zo,ZI,Zm,ZD,Zj,Zp,Zz,ZB,Xv])
     |cons a l =>
      generalize hX:(a::l).map Zu=X at *
      have hXp:0<X.length:=by rw[<-hX];simp
      simp only[ZcT hXp,ZcU hXp]
      simp -implicitDefEqProofs only[EQA,Zs,Zc,Xd,Xc,Xf,Xa,Xg,unA,Zy,unG,reduceCtorEq,↓reduceIte,Ze,ZcK,Zb8,ZbY,Zb,hpos,hGV,hM,hs,hV,n0,AVal.cells]
      try (simp[ZR,gcA,Zw,Zt,Zl,ZH,Zn,Zo,ZI,Zm,ZD,Zj,Zp,Zz,ZB,Xv])
    ·have ht:¬(true=false):=by decide
     rw[if_neg ht]at hu ⊢
     have n3:∀ b:Bool,((k:Int)==38)=b->((k:Int) != 38)=!b:=fun b h=>by rw[bne,h]
     cases h4:(ZdB (k:Int) l).isSome<;>rw[h4]at hF hS
     ·have hb0:(false && !ZdQ (k:Int) w)=false:=rfl
      rw[h4]at hu
      by_cases hcd:cd=0
      ·subst hcd
       obtain⟨u1,u2,u3⟩:=hu (by simp[hb0])
       have hb1:¬(false=true):=by decide
       simp only[hb0,if_neg hb1,if_true]at u1 u2 u3 ⊢
       have hw2:IntKind.i64.wrap ((u:Int)+(m:Int))=((u+m:Nat):Int):=by rw[ZaE (by omega) (by omega)];rfl
       have hs2:=fun G kk=>Zgw G b kk ((u+m:Nat):Int) (by omega) (by omega)
       have e3:(((u+m:Nat):Int)).toNat=u+m:=rfl
       rw[e3]at hs2
       have ih:=Zm3 w N U hU hN9 n (b.drop (u+m)) (l++[p]) (by grind) (by grind) (by
        grind)
       generalize ZdR w n (b.drop (u+m)) (l++[p])=R at *
       unfold ZdK at ih ⊢
       rw[Z9]
       cases l with
       |nil =>
        simp only[XC]at hF
        simp only[Xp,Xu,XC,ZkJ,ZkG,Zc0,ZcW,Xz,Xw,XF,Zu,Zcw,Z4]at ih ⊢
        simp -implicitDefEqProofs only[EQA,Zs,Zc,ZT,ZbH,Xd,Xc,Xf,Xa,Xg,unA,Zy,Z6,unG,reduceCtorEq,ZZ,↓reduceIte,gcT,gcA,Zw,Zt,Zn,Zo,ZI,Zm,ZD,Zz,ZB,Zb8,ZbY,Zb,hpos,hGV,hM,hs,hV,hF,hC,hw2,hs2,n0,Zan,kOk,viewAs,Z3,ZN,Zae,Zv,WL,AVal.cells]
        exact ih
       |cons a l =>
        have hXl:((a::l).map Zu).length=l.length+1:=by simp
        rw[Wl]at ih
        generalize hX:(a::l).map Zu=X at *
        have hXp:0<X.length:=by omega
        have hXq:0<(X++[p].map Zu).length:=by rw[XM];omega
        simp only[ZcT hXp,ZcU hXp,ZcT hXq,ZcU hXq]at ih ⊢
        have hk:kOk 5 X=true:=by rw[<-hX];rfl
        have hb9:(X.length+1)*72<=140737488355328:=by simp at hN;omega
        try simp only[Xu,XC,Zu,Zcw,Z4,XM,Xz,Xw,XF]at ih
        simp -implicitDefEqProofs only[EQA,Zs,Zc,ZT,ZbH,Xd,Xc,Xf,Xa,Xg,unA,Zy,Z6,unG,reduceCtorEq,ZZ,↓reduceIte,gcT,gcA,Zw,Zt,Zn,Zo,ZI,Zm,ZD,Zz,ZB,Zb8,ZbY,Zb,hpos,hGV,hM,hs,hV,hS,hC,hw2,hs2,n0,hb9,Zan,kOk,viewAs,Z3,ZN,Zae,Zv,AVal.cells]
        exact ih
      ·have n1:(cd != 0)=true:=by simpa using hcd
       have hb1:¬(false=true):=by decide
       simp only[hb0,if_neg hb1,if_neg hcd]
       unfold Zdl ZdK
       simp only
       rw[if_neg hcd,Z9]
       cases l with
       |nil =>
        simp only[XC,Zc0,ZcW]at hF ⊢
        simp -implicitDefEqProofs only[EQA,Zs,Zc,Xd,Xc,Xf,Xa,Xg,unA,Zy,Z6,unG,reduceCtorEq,↓reduceIte,Ze,ZcK,Zb8,ZbY,Zb,hpos,hGV,hM,hs,hV,hF,hC,n1,n0,AVal.cells]
        try (simp[ZR,gcA,Zw,Zt,Zl,ZH,Zn,Zo,ZI,Zm,ZD,Zj,Zp,Zz,ZB,Xv])
       |cons a l =>
        generalize hX:(a::l).map Zu=X at *
        have hXp:0<X.length:=by rw[<-hX];simp
        simp only[ZcT hXp,ZcU hXp]
        simp -implicitDefEqProofs only[EQA,Zs,Zc,Xd,Xc,Xf,Xa,Xg,unA,Zy,Z6,unG,reduceCtorEq,↓reduceIte,Ze,ZcK,Zb8,ZbY,Zb,hpos,hGV,hM,hs,hV,hS,hC,n1,n0,AVal.cells]
        try (simp[ZR,gcA,Zw,Zt,Zl,ZH,Zn,Zo,ZI,Zm,ZD,Zj,Zp,Zz,ZB,Xv])
     ·cases h38:((k:Int)==38)<;>have h38':=n3 _ h38<;>simp only[Xa0,XaH]at h38'
      ·cases h11:((k:Int)==11)
       ·have hb0:(true && !ZdQ (k:Int) w)=true:=by simp[ZdQ,h38,h11]
        have e9:¬((130:Int)=0):=by decide
        rw[if_pos hb0,if_neg e9]
        unfold Zdl ZdK
        simp only
        rw[if_neg e9,Z9]
        cases l with
        |nil =>
         simp only[XC,Zc0,ZcW]at hF ⊢
         simp -implicitDefEqProofs only[EQA,Zs,Zc,Xd,Xc,Xf,Xa,Xg,unA,Zy,Z6,unG,reduceCtorEq,↓reduceIte,Ze,ZcK,Zb8,ZbY,Zb,hpos,hGV,hM,hs,hV,hF,h38',h11,n0,AVal.cells]
         try (simp[ZR,gcA,Zw,Zt,Zl,ZH,Zn,Zo,ZI,Zm,ZD,Zj,Zp,Zz,ZB,Xv])
        |cons a l =>
         generalize hX:(a::l).map Zu=X at *
         have hXp:0<X.length:=by rw[<-hX];simp
         simp only[ZcT hXp,ZcU hXp]
         simp -implicitDefEqProofs only[EQA,Zs,Zc,Xd,Xc,Xf,Xa,Xg,unA,Zy,Z6,unG,reduceCtorEq,↓reduceIte,Ze,ZcK,Zb8,ZbY,Zb,hpos,hGV,hM,hs,hV,hS,h38',h11,n0,AVal.cells]
         try (simp[ZR,gcA,Zw,Zt,Zl,ZH,Zn,Zo,ZI,Zm,ZD,Zj,Zp,Zz,ZB,Xv])
       ·cases h3:(w==3)
        ·have hb0:(true && !ZdQ (k:Int) w)=true:=by simp[ZdQ,h38,h11,h3]
         have e9:¬((130:Int)=0):=by decide
         rw[if_pos hb0,if_neg e9]
         unfold Zdl ZdK
         simp only
         rw[if_neg e9,Z9]
         cases l with
         |nil =>
          simp only[XC,Zc0,ZcW]at hF ⊢
          simp -implicitDefEqProofs only[EQA,Zs,Zc,Xd,Xc,Xf,Xa,Xg,unA,Zy,unG,reduceCtorEq,↓reduceIte,Ze,ZcK,Zb8,ZbY,Zb,hpos,hGV,hM,hs,hV,hF,h38',h11,h3,n0,AVal.cells]
          try (simp[ZR,gcA,Zw,Zt,Zl,ZH,Zn,Zo,ZI,Zm,ZD,Zj,Zp,Zz,ZB,Xv])
         |cons a l =>
          generalize hX:(a::l).map Zu=X at *
          have hXp:0<X.length:=by rw[<-hX];simp
          simp only[ZcT hXp,ZcU hXp]
          simp -implicitDefEqProofs only[EQA,Zs,Zc,Xd,Xc,Xf,Xa,Xg,unA,Zy,unG,reduceCtorEq,↓reduceIte,Ze,ZcK,Zb8,ZbY,Zb,hpos,hGV,hM,hs,hV,hS,h38',h11,h3,n0,AVal.cells]
          try (simp[ZR,gcA,Zw,Zt,Zl,ZH,Zn,Zo,ZI,Zm,ZD,Zj,Zp,Zz,ZB,Xv])
        ·have hb0:(true && !ZdQ (k:Int) w)=false:=by simp[ZdQ,h11,h3]
         rw[h4]at hu
         by_cases hcd:cd=0
         ·subst hcd
          obtain⟨u1,u2,u3⟩:=hu (by simp[hb0])
          have hb1:¬(false=true):=by decide
          simp only[hb0,if_neg hb1,if_true]at u1 u2 u3 ⊢
          have hw2:IntKind.i64.wrap ((u:Int)+(m:Int))=((u+m:Nat):Int):=by rw[ZaE (by omega) (by omega)];rfl
          have hs2:=fun G kk=>Zgw G b kk ((u+m:Nat):Int) (by omega) (by omega)
          have e3:(((u+m:Nat):Int)).toNat=u+m:=rfl
          rw[e3]at hs2
          have ih:=Zm3 w N U hU hN9 n (b.drop (u+m)) (l++[p]) (by grind) (by grind) (by
           grind)
          generalize ZdR w n (b.drop (u+m)) (l++[p])=R at *
          unfold ZdK at ih ⊢
          rw[Z9]
          cases l with
          |nil =>
           simp only[XC]at hF
           simp only[Xp,Xu,XC,ZkJ,ZkG,Zc0,ZcW,Xz,Xw,XF,Zu,Zcw,Z4]at ih ⊢
           simp -implicitDefEqProofs only[EQA,Zs,Zc,ZT,ZbH,Xd,Xc,Xf,Xa,Xg,unA,Zy,unG,reduceCtorEq,ZZ,↓reduceIte,gcT,gcA,Zw,Zt,Zn,Zo,ZI,Zm,ZD,Zz,ZB,Zb8,ZbY,Zb,hpos,hGV,hM,hs,hV,hF,hC,h38',h11,h3,hw2,hs2,n0,Zan,kOk,viewAs,Z3,ZN,Zae,Zv,WL,AVal.cells]
           exact ih
          |cons a l =>
           have hXl:((a::l).map Zu).length=l.length+1:=by simp
           rw[Wl]at ih
           generalize hX:(a::l).map Zu=X at *
           have hXp:0<X.length:=by omega
           have hXq:0<(X++[p].map Zu).length:=by rw[XM];omega
           simp only[ZcT hXp,ZcU hXp,ZcT hXq,ZcU hXq]at ih ⊢
           have hk:kOk 5 X=true:=by rw[<-hX];rfl
           have hb9:(X.length+1)*72<=140737488355328:=by simp at hN;omega
           try simp only[Xu,XC,Zu,Zcw,Z4,XM,Xz,Xw,XF]at ih
           simp -implicitDefEqProofs only[EQA,Zs,Zc,ZT,ZbH,Xd,Xc,Xf,Xa,Xg,unA,Zy,unG,reduceCtorEq,ZZ,↓reduceIte,gcT,gcA,Zw,Zt,Zn,Zo,ZI,Zm,ZD,Zz,ZB,Zb8,ZbY,Zb,hpos,hGV,hM,hs,hV,hS,hC,h38',h11,h3,hw2,hs2,n0,hb9,Zan,kOk,viewAs,Z3,ZN,Zae,Zv,AVal.cells]
           exact ih
         ·have n1:(cd != 0)=true:=by simpa using hcd
          have hb1:¬(false=true):=by decide
          simp only[hb0,if_neg hb1,if_neg hcd]
          unfold Zdl ZdK
          simp only
          rw[if_neg hcd,Z9]
          cases l with
          |nil =>
           simp only[XC,Zc0,ZcW]at hF ⊢
           simp -implicitDefEqProofs only[EQA,Zs,Zc,Xd,Xc,Xf,Xa,Xg,unA,Zy,unG,reduceCtorEq,↓reduceIte,Ze,ZcK,Zb8,ZbY,Zb,hpos,hGV,hM,hs,hV,hF,hC,h38',h11,h3,n1,n0,AVal.cells]
           try (simp[ZR,gcA,Zw,Zt,Zl,ZH,Zn,Zo,ZI,Zm,ZD,Zj,Zp,Zz,ZB,Xv])
          |cons a l =>
           generalize hX:(a::l).map Zu=X at *
           have hXp:0<X.length:=by rw[<-hX];simp
           simp only[ZcT hXp,ZcU hXp]
           simp -implicitDefEqProofs only[EQA,Zs,Zc,Xd,Xc,Xf,Xa,Xg,unA,Zy,unG,reduceCtorEq,↓reduceIte,Ze,ZcK,Zb8,ZbY,Zb,hpos,hGV,hM,hs,hV,hS,hC,h38',h11,h3,n1,n0,AVal.cells]
           try (simp[ZR,gcA,Zw,Zt,Zl,ZH,Zn,Zo,ZI,Zm,ZD,Zj,Zp,Zz,ZB,Xv])
      ·have hb0:(true && !ZdQ (k:Int) w)=false:=by simp[ZdQ,h38]
       rw[h4]at hu
       by_cases hcd:cd=0
       ·subst hcd
        obtain⟨u1,u2,u3⟩:=hu (by simp[hb0])
        have hb1:¬(false=true):=by decide
        simp only[hb0,if_neg hb1,if_true]at u1 u2 u3 ⊢
        have hw2:IntKind.i64.wrap ((u:Int)+(m:Int))=((u+m:Nat):Int):=by rw[ZaE (by omega) (by omega)];rfl
        have hs2:=fun G kk=>Zgw G b kk ((u+m:Nat):Int) (by omega) (by omega)
        have e3:(((u+m:Nat):Int)).toNat=u+m:=rfl
        rw[e3]at hs2
        have ih:=Zm3 w N U hU hN9 n (b.drop (u+m)) (l++[p]) (by grind) (by grind) (by
         grind)
        generalize ZdR w n (b.drop (u+m)) (l++[p])=R at *
        unfold ZdK at ih ⊢
        rw[Z9]
        cases l with
        |nil =>
         simp only[XC]at hF
         simp only[Xp,Xu,XC,ZkJ,ZkG,Zc0,ZcW,Xz,Xw,XF,Zu,Zcw,Z4]at ih ⊢
         simp -implicitDefEqProofs only[EQA,Zs,Zc,ZT,ZbH,Xd,Xc,Xf,Xa,Xg,unA,Zy,Z6,unG,reduceCtorEq,ZZ,↓reduceIte,gcT,gcA,Zw,Zt,Zn,Zo,ZI,Zm,ZD,Zz,ZB,Zb8,ZbY,Zb,hpos,hGV,hM,hs,hV,hF,hC,h38',hw2,hs2,n0,Zan,kOk,viewAs,Z3,ZN,Zae,Zv,WL,AVal.cells]
         exact ih
        |cons a l =>
         have hXl:((a::l).map Zu).length=l.length+1:=by simp
         rw[Wl]at ih
         generalize hX:(a::l).map Zu=X at *
         have hXp:0<X.length:=by omega
         have hXq:0<(X++[p].map Zu).length:=by rw[XM];omega
         simp only[ZcT hXp,ZcU hXp,ZcT hXq,ZcU hXq]at ih ⊢
         have hk:kOk 5 X=true:=by rw[<-hX];rfl
         have hb9:(X.length+1)*72<=140737488355328:=by simp at hN;omega
         try simp only[Xu,XC,Zu,Zcw,Z4,XM,Xz,Xw,XF]at ih
         simp -implicitDefEqProofs only[EQA,Zs,Zc,ZT,ZbH,Xd,Xc,Xf,Xa,Xg,unA,Zy,Z6,unG,reduceCtorEq,ZZ,↓reduceIte,gcT,gcA,Zw,Zt,Zn,Zo,ZI,Zm,ZD,Zz,ZB,Zb8,ZbY,Zb,hpos,hGV,hM,hs,hV,hS,hC,h38',hw2,hs2,n0,hb9,Zan,kOk,viewAs,Z3,ZN,Zae,Zv,AVal.cells]
         exact ih
       ·have n1:(cd != 0)=true:=by simpa using hcd
        have hb1:¬(false=true):=by decide
        simp only[hb0,if_neg hb1,if_neg hcd]
        unfold Zdl ZdK
        simp only
        rw[if_neg hcd,Z9]
        cases l with
        |nil =>
         simp only[XC,Zc0,ZcW]at hF ⊢
         simp -implicitDefEqProofs only[EQA,Zs,Zc,Xd,Xc,Xf,Xa,Xg,unA,Zy,Z6,unG,reduceCtorEq,↓reduceIte,Ze,ZcK,Zb8,ZbY,Zb,hpos,hGV,hM,hs,hV,hF,hC,h38',n1,n0,AVal.cells]
         try (simp[ZR,gcA,Zw,Zt,Zl,ZH,Zn,Zo,ZI,Zm,ZD,Zj,Zp,Zz,ZB,Xv])
        |cons a l =>
         generalize hX:(a::l).map Zu=X at *
         have hXp:0<X.length:=by rw[<-hX];simp
         simp only[ZcT hXp,ZcU hXp]
         simp -implicitDefEqProofs only[EQA,Zs,Zc,Xd,Xc,Xf,Xa,Xg,unA,Zy,Z6,unG,reduceCtorEq,↓reduceIte,Ze,ZcK,Zb8,ZbY,Zb,hpos,hGV,hM,hs,hV,hS,hC,h38',n1,n0,AVal.cells]
         try (simp[ZR,gcA,Zw,Zt,Zl,ZH,Zn,Zo,ZI,Zm,ZD,Zj,Zp,Zz,ZB,Xv])
  ·have n1:(e != 0)=true:=by simpa using he
   have e9:¬((129:Int)=0):=by decide
   rw[if_pos (Xq he)]
   rw[if_neg e9]
   unfold Zdl ZdK
   simp only
   rw[if_neg e9,Z9]
   cases l with
   |nil =>
    simp only[XC,Zc0,ZcW]
    simp -implicitDefEqProofs only[EQA,Zc,Xc,Xa,Zy,Z6,reduceCtorEq,↓reduceIte,Ze,ZcK,Zb8,ZbY,Zb,hpos,hGV,n1]
    try (simp[ZR,gcA,Zw,Zt,Zl,ZH,Zn,Zo,ZI,Zm,ZD,Zj,Zp,Zz,ZB,Xv])
   |cons a l =>
    generalize hX:(a::l).map Zu=X at *
    have hXp:0<X.length:=by rw[<-hX];simp
    simp only[ZcT hXp,ZcU hXp]
    simp -implicitDefEqProofs only[EQA,Zc,Xc,Xa,Zy,Z6,reduceCtorEq,↓reduceIte,Ze,ZcK,Zb8,ZbY,Zb,hpos,hGV,n1]
    try (simp[ZR,gcA,Zw,Zt,Zl,ZH,Zn,Zo,ZI,Zm,ZD,Zj,Zp,Zz,ZB,Xv])
end
section
theorem ZQJ(w:Int)(b:Zd)(hl:b.length<=140737488355328):E 102 [.int .i64 w,Z4 b] []=some (Zl8 (Zab w b)):=by
 have hGV:=fun G sq own f=>ZpN G sq own f b (by omega)
 have hu:=Zkw b
 have hlt:=ZrF b
 have hle:=Zuk b
 unfold Zab Zl8
 rcases hx:Zas b with⟨n,u,e⟩
 rw[hx]at hGV hu hlt hle
 unfold gvT at hGV
 simp only at hGV hu hlt hle ⊢
 have hw:IntKind.i64.wrap ((b.length:Int)-(u:Int))=(b.length:Int)-(u:Int):=ZaE (by omega) (by omega)
 by_cases he:e=0
 ·subst he
  have n0:((0:Int) != 0)=false:=rfl
  by_cases hn:(n:Int)>(b.length:Int)-(u:Int)
  ·rw[if_pos (Xt hn),Zg (by rfl) Zti]
   simp -implicitDefEqProofs only[EQA,Zc,Xc,Xa,Zy,unG,reduceCtorEq,↓reduceIte,Ze,Zr9,Zln,ZcK,Zb,Z4,hGV,n0,hw,hn]
   simp[]
   exact⟨rfl,rfl⟩
  ·have hc:¬((0:Int)≠0\/(n:Int)>(b.length:Int)-(u:Int)):=by simpa using hn
   rw[if_neg hc,Zg (by rfl) Zti]
   have hw2:IntKind.i64.wrap ((u:Int)+(n:Int))=((u+n:Nat):Int):=by rw[ZaE (by omega) (by omega)];rfl
   have hs:=fun G k1 k2=>ZoV G b k1 k2 ((u:Nat):Int) ((u+n:Nat):Int) (by omega) (by omega) (by omega)
   have e1:(((u:Nat):Int)).toNat=u:=rfl
   have e2:(((u+n:Nat):Int)).toNat=u+n:=rfl
   rw[e1,e2]at hs
   have key:=Zm3 w n u (by omega) (by omega) n ((b.take (u+n)).drop u) [] (by simp;omega) (by simp;omega) (by simp)
   generalize (b.take (u+n)).drop u=B at *
   unfold ZdK at key
   simp only[XC,Zc0,ZcW]at key
   simp -implicitDefEqProofs only[EQA,Zc,ZT,Xc,Xa,Zy,unG,reduceCtorEq,↓reduceIte,gcT,gcA,Zw,Zt,Zo,ZB,Zr9,Zln,Zb,Z4,hGV,n0,hw,hn,hw2,hs]
   rw[key]
   unfold Zdl
   split<;>rfl
 ·have n1:(e != 0)=true:=by simpa using he
  rw[if_pos (Xq he),Zg (by rfl) Zti]
  simp -implicitDefEqProofs only[EQA,Zc,Xc,Xa,Zy,Z6,reduceCtorEq,↓reduceIte,Ze,Zr9,Zln,ZcK,Zb,Z4,hGV,n1]
  simp[]
  exact⟨rfl,rfl⟩
theorem ZO6(G:Za)(sq own:Nat)(f:Bool)(w:Int)(b:Zd)(hl:b.length<=140737488355328):Zq E BY G sq 102 own true [.int .i64 w,.lst f (b.map Zh)]=some (.tup [.lst false ((Zab w b).1.map Zu),.int .i64 ((Zab w b).2.1:Nat),.int .i64 (Zab w b).2.2],G,{}) :=
 ZNf (k:=5) (ZQJ w b hl) rfl (by kernel_rfl) rfl rfl _ _ _
end
section
theorem ZyK{O:ZS}{bf:Nat->Bool}{G:Za}{t f n w:Nat}{rest:List AVal}{cs cs' xs:List AVal}(hb:bf f=false)(hp:rest.all Zai=true)(hc:Ze cs=true)(hc':Ze cs'=true)
  (h:O f (.ref 0 0::rest.map Z1) [.var cs]=some (.sl 1 0 0 n,[.var cs',.row 0 w xs])) (hx:xs.length=n) (hs:G[t]?=some (.var cs)) (sq:Nat):Zq O bf G sq f 0 true (.ref t 0::rest)=some (.lst false xs,G.set t (.var cs'),{ any:=true,upd:=[(t,cs')] }):=by
 have htl:t<G.length:=(List.getElem?_eq_some_iff.1 hs).1
 have hd:G.getD t .free=.var cs:=by simp[Xh,hs]
 have hsh:showAs G (.ref t 0::rest)=some (.ref t 0::rest.map Z1,[]):=by
  rw[showAs,show showA G (.ref t 0)=some (.ref t 0,[])from rfl,Zeg hp]
  rfl
 have href:Zl (.ref t 0::rest.map Z1)=[t]:=by
  rw[Zl,Zd8 hp];rfl
 have hC:Zn G 0 [t] t 0=some (0,0):=by simp[Zn,ZI,hs,Zm,ZD]
 have hask:ZV true [t].length (some (.sl 1 0 0 n,[.var cs',.row 0 w xs]))=some (.lst false xs,[.var cs']):=by
  have hv:viewR [.var cs',.row 0 w xs] (.sl 1 0 0 n)=some (.lst false xs,[1]):=by
   simp[viewR,Z3,ZN,ZZ,<-hx]
  have e2:=fun C=>Z5 C cs' hc'
  have hi:Zw 1 [AVal.lst false xs] (Zv [.var cs',.row 0 w xs] [1])=[0]:=by
   have hR:X5 1=[0]:=rfl
   have hf:Zv [.var cs',.row 0 w xs] [1]=[.var cs',.frow 0 w xs]:=rfl
   simp only[hf,Zw,hR,XB,XQ,Xr,Xm,ZB,(e2 (fun _ _=>none)).2,Zl,ZH]
   rfl
  unfold ZV
  rw[if_pos rfl]
  unfold ZbR
  simp only[hv,Xz,Xw,XF]
  have hf:Zv [.var cs',.row 0 w xs] [1]=[.var cs',.frow 0 w xs]:=rfl
  rw[hf]at hi ⊢
  simp only[gcA,hi,Zj,Zp,Zo,Xm,Zz,(e2 _).1]
 refine Zcf (ids:=[t]) hb hsh (by rw[href];exact Zeo hs hc) rfl (by simp[hs,okB]) ?_ ?_ h hask (by simp) (by simp) ?_ rfl rfl ?_ ?_
 ·rw[Zj,ZdV hp]
  simp only[Zp,hC]
 ·simp only[Zo,hd,Zz,(Z5 _ cs hc).1]
 ·simp[Za1,okB,hs,Zcy,Zm]
 ·simp only[ZaQ,ZaA,Xm,Zz,(Z5 _ cs' hc').1]
 ·have e1:(G.set t (.var cs'))[t]?=some (.var cs'):=XV htl
  simp only[Za9,e1]
abbrev RS:=Zd×Int
def rs(s:RS):List AVal:=[.lst false (s.1.map Zh),.int .i64 s.2]
theorem ZbA(s:RS):Ze (rs s)=true:=rfl
def Zav(c:Int)(s:RS):RS:=if s.2=0 then(s.1,c)else s
def Zck(n:Nat)(s:RS):Zd×RS:=if s.2≠0\/s.1.length<n then(XI n 0,Zav 129 s)else(s.1.take n,(s.1.drop n,s.2))
def Z2(s:RS):Int×RS:=(Ze0 (Zck 1 s).1,(Zck 1 s).2)
def ZbP(s:RS):Int×RS:=(Ze0 (Zck 2 s).1,(Zck 2 s).2)
def idR(s:RS):Int×RS:=((ZbP s).1,if(ZbP s).1=0 then Zav 130 (ZbP s).2 else(ZbP s).2)
def ZA(s:RS):Zd×RS:=if s.2≠0 then([],s)else if(ZU s.1).2.2≠0 then([],(s.1,129))else((ZU s.1).1,(s.1.drop (ZU s.1).2.1,0))
def Zcz(s:RS):Zd×RS:=if s.2≠0 then([],s)else if(ZL s.1).2.2≠0 then([],(s.1,129))else((ZL s.1).1,(s.1.drop (ZL s.1).2.1,0))
def Zaa(w:Int)(s:RS):List ZO×RS:=if s.2≠0 then([],s)else if(Zab w s.1).2.2≠0 then([],(s.1,(Zab w s.1).2.2))else((Zab w s.1).1,(s.1.drop (Zab w s.1).2.1,0))
def Zal(k:Int)(s:RS):Int×RS:=((Z2 s).1,if ZfS k (Z2 s).1=true then(Z2 s).2 else Zav 130 (Z2 s).2)
theorem ZvE(n:Nat)(s:RS):(Zck n s).1.length=n:=by
 unfold Zck
 grind
theorem ZLp(c:Int)(s:RS):E 28 [.ref 0 0,.int .i64 c] [.var (rs s)]=some (.tup [],[.var (rs (Zav c s))]):=by
 unfold Zav rs
 by_cases h:s.2=0
 ·have h0:(s.2==0)=true:=by simpa using h
  rw[if_pos h,Zg (by rfl) Zr2]
  simp -implicitDefEqProofs only[EQA,Zs,Zc,ZT,Xd,Xc,Xf,Xa,reduceCtorEq,↓reduceIte,Ze,ZoW,ZjU,ZoI,Zb,h0,AVal.cells]
 ·have h0:(s.2==0)=false:=by simpa using h
  rw[if_neg h,Zg (by rfl) Zr2]
  simp -implicitDefEqProofs only[EQA,Zc,ZT,Xc,Xa,reduceCtorEq,↓reduceIte,Ze,ZoW,ZjU,ZoI,Zb,h0]
section
variable (s:RS)(hl:s.1.length<=140737488355328)
theorem Zdj(c:Int)(G:Za)(t sq:Nat)(hs:G[t]?=some (.var (rs s))):Zq E BY G sq 28 0 true [.ref t 0,.int .i64 c]=some (.tup [],G.set t (.var (rs (Zav c s))),{ any:=true,upd:=[(t,rs (Zav c s))] }) :=
 Zce (rest:=[.int .i64 c]) (by kernel_rfl) rfl (ZbA _) (ZbA _) rfl rfl (ZLp c s) hs sq
include hl
theorem ZvC(n:Nat)(hn:n=1\/n=2)(m:Int)(hm:m=(n:Int))(G:Za)(t sq:Nat)(hs:G[t]?=some (.var (rs s))):Zq E BY G sq 101 0 true [.ref t 0,.int .i64 m]=some (.lst false ((Zck n s).1.map Zh),G.set t (.var (rs (Zck n s).2)),{ any:=true,upd:=[(t,rs (Zck n s).2)] }):=by
 subst hm
 unfold Zck
 by_cases h:s.2≠0\/s.1.length<n
 ·rw[if_pos h]
  have hf:=fun(G:Za) sq (hs:G[0]?=some (.var (rs s)))=>Zdj s 129 G 0 sq hs
  have key:E 101 [.ref 0 0,.int .i64 (n:Nat)] [.var (rs s)]=some (.sl 1 0 0 n,[.var (rs (Zav 129 s)),.row 0 1 ((XI n (0:UInt8)).map Zh)]):=by
   rw[Zg (by rfl) ZuS,show(XI n (0:UInt8)).map Zh=XI n (.int .u8 0)from by rw[List.map_replicate];rfl]
   unfold rs at hf ⊢
   generalize Zav 129 s=s' at *
   have mk:(0:Int)<=(n:Int)/\(n:Int)<=(n:Int)/\(n:Int)<=9223372036854775807/\((1:Nat):Int)*(n:Int)<=140737488355328:=by omega
   have e2:((n:Int)).toNat=n:=rfl
   rcases h with h |h
   ·have h0:(s.2 != 0)=true:=by simpa using h
    simp -implicitDefEqProofs only[EQA,Zc,Xd,Xc,Xa,Xg,Zy,Z6,reduceCtorEq,↓reduceIte,Zm0,Zi8,Zmd,Zb,h0,hf,mk,e2,AVal.cells]
    exact Zkr rfl
   ·have h1:(s.1.length:Int)<(n:Int):=by omega
    by_cases hz:s.2=0
    ·have h0:(s.2 != 0)=false:=by simpa using hz
     simp -implicitDefEqProofs only[EQA,Zc,Xd,Xc,Xa,Xg,Zy,unG,reduceCtorEq,↓reduceIte,Zm0,Zi8,Zmd,Zb,h0,h1,hf,mk,e2,AVal.cells]
     exact Zkr rfl
    ·have h0:(s.2 != 0)=true:=by simpa using hz
     simp -implicitDefEqProofs only[EQA,Zc,Xd,Xc,Xa,Xg,Zy,Z6,reduceCtorEq,↓reduceIte,Zm0,Zi8,Zmd,Zb,h0,hf,mk,e2,AVal.cells]
     exact Zkr rfl
  exact ZyK (rest:=[.int .i64 (n:Nat)]) (by kernel_rfl) rfl (ZbA _) (ZbA _) key (by simp) hs sq
 ·rw[if_neg h]
  have hz:s.2=0:=Decidable.byContradiction fun e=>h (Xq e)
  have hn':n<=s.1.length:=by
   have : ¬s.1.length<n:=fun e=>h (Xt e)
   omega
  have h0:(s.2 != 0)=false:=by simpa using hz
  have h1:¬(s.1.length:Int)<(n:Int):=by omega
  have s1:=fun G kk=>Zjx G 1 s.1 Zh kk (n:Int) (by omega) (by omega)
  have s2:=fun G kk=>Zgw G s.1 kk (n:Int) (by omega) (by omega)
  have e2:((n:Int)).toNat=n:=rfl
  rw[e2]at s1 s2
  have key:E 101 [.ref 0 0,.int .i64 (n:Nat)] [.var (rs s)]=some (.lst false ((s.1.take n).map Zh),[.var (rs (s.1.drop n,s.2))]):=by
   rw[Zg (by rfl) ZuS]
   unfold rs
   simp -implicitDefEqProofs only[EQA,Zs,Zc,ZT,Xd,Xc,Xf,Xa,Zy,unG,reduceCtorEq,↓reduceIte,Ze,Zm0,Zi8,Zmd,Zb,h0,h1,s1,s2,AVal.cells]
  exact Zce (rest:=[.int .i64 (n:Nat)]) (by kernel_rfl) rfl (ZbA _) (ZbA _) rfl rfl key hs sq
end
end
section
def Ze5(L:List (Int×Int)):List Int:=L.flatMap fun s=>[s.1,s.2]
theorem Zze(c:Int)(M:List Int)(hM:M.length<=1000):∀ (L:List (Int×Int)) (i:Nat),i<=M.length->M.drop i=Ze5 L ->
  Zoe 0 [(5,.int .i64 i),(1,.lst false (M.map (AVal.int .i64))),(0,.int .i64 c)] []=some (.bool (L.any (Zc1 c)),[])
 | [],i,hi,h=>by
  have h1:=Zep h
  have h2:¬((i+1:Nat):Int)<(M.length:Int):=by omega
  have w2:IntKind.i64.wrap ((i:Int)+1)=((i+1:Nat):Int):=by rw[ZaE (by omega) (by omega)];rfl
  unfold Zoe
  rw[Z9]
  simp -implicitDefEqProofs only[EQA,Zc,Xc,Xa,reduceCtorEq,↓reduceIte,ZzY,ZLa,Zpm,ZlE,ZiJ,Zb,h2,w2]
  rfl
 |s::L,i,hi,h=>by
  have d1:M.drop i=s.1::s.2::Ze5 L:=h
  have a1:=Zar d1
  have a2:=Zar a1.2.1
  have ih:=Zze c M hM L (i+2) (by omega) a2.2.1
  have h2:((i+1:Nat):Int)<(M.length:Int):=by omega
  have w2:IntKind.i64.wrap ((i:Int)+1)=((i+1:Nat):Int):=by rw[ZaE (by omega) (by omega)];rfl
  have w3:IntKind.i64.wrap ((i:Int)+2)=((i+2:Nat):Int):=by rw[ZaE (by omega) (by omega)];rfl
  have e1:=iad a1.1 (AVal.int .i64) (k:=1) rfl
  have e2:=iad a2.1 (AVal.int .i64) (k:=1) rfl
  unfold Zoe at ih ⊢
  rw[Z9]
  unfold Zc1 at ih ⊢
  simp only[Wu]
  by_cases g1:c>=s.1
  ·by_cases g2:c<=s.2
   ·have : (decide (c>=s.1)&&decide (c<=s.2) ||L.any fun s=>decide (c>=s.1)&&decide (c<=s.2))=true:=by simp[g1,g2]
    rw[this]
    simp -implicitDefEqProofs only[EQA,ZE,Zc,Xc,Xa,Zy,unG,reduceCtorEq,↓reduceIte,ZzY,ZlE,ZiJ,Zb,h2,w2,e1,e2,g1,g2]
   ·have : (decide (c>=s.1)&&decide (c<=s.2) ||L.any fun s=>decide (c>=s.1)&&decide (c<=s.2))=L.any fun s=>decide (c>=s.1)&&decide (c<=s.2):=by simp[g2]
    rw[this]
    simp -implicitDefEqProofs only[EQA,ZE,Zc,ZT,Xc,Xa,Zy,unG,reduceCtorEq,↓reduceIte,gcT,gcA,Zw,Zt,Zo,ZB,ZlE,ZiJ,Zb,h2,w2,w3,e1,e2,g1,g2]
    exact ih
  ·have : (decide (c>=s.1)&&decide (c<=s.2) ||L.any fun s=>decide (c>=s.1)&&decide (c<=s.2))=L.any fun s=>decide (c>=s.1)&&decide (c<=s.2):=by simp[g1]
   rw[this]
   simp -implicitDefEqProofs only[EQA,ZE,Zc,ZT,Xc,Xa,Zy,Z6,reduceCtorEq,↓reduceIte,gcT,gcA,Zw,Zt,Zo,ZB,ZlE,ZiJ,Zb,h2,w2,w3,e1,g1]
   exact ih
theorem ZQC(G:Za)(sq own:Nat)(f:Bool)(c:Int)(L:List (Int×Int))(hL:(Ze5 L).length<=1000):Zq E BY G sq 51 own true [.int .i64 c,.lst f ((Ze5 L).map (AVal.int .i64))]=some (.bool (L.any (Zc1 c)),G,{}):=by
 have h:E 51 [.int .i64 c,.lst false ((Ze5 L).map (AVal.int .i64))] []=some (.bool (L.any (Zc1 c)),[]):=by
  have:=Zze c (Ze5 L) hL L 0 (by omega) rfl
  rw[Zg (by rfl) ZOm]
  unfold Zoe at this
  have z0:((0:Nat):Int)=0:=rfl
  rw[z0]at this
  simp -implicitDefEqProofs only[EQA,Zc,ZT,Xc,Xa,reduceCtorEq,↓reduceIte,gcT,gcA,Zw,Zt,Zo,ZB,ZRk,ZoM,Zb,this]
 exact Zct h (by kernel_rfl) rfl rfl rfl (fun _=>rfl) _ _ _
theorem ZIV(k c:Int):E 23 [.int .i64 k,.int .i64 c] []=some (.bool (ZfS k c),[]):=by
 have hA:=fun G sq own f=>ZQC G sq own f c (Zcg k)
 unfold ZfS
 by_cases h2:k=2
 ·subst h2
  have hA:=fun G sq own f=>hA G sq own f (by decide)
  simp only[show(Ze5 (Zcg 2)).map (AVal.int .i64)=[.int .i64 0,.int .i64 0,.int .i64 128,.int .i64 138,.int .i64 140,.int .i64 140,.int .i64 144,.int .i64 144,.int .i64 149,.int .i64 149,.int .i64 151,.int .i64 151,.int .i64 153,.int .i64 157,.int .i64 159,.int .i64 159]from rfl]at hA
  rw[Zg (by rfl) Zf8]
  simp -implicitDefEqProofs only[EQA,Zc,Xc,Xa,reduceCtorEq,↓reduceIte,Zf1,ZeH,ZfN,Zb,hA,AVal.cells,viewAs,Z3,ZN,Zv]
 by_cases h4:k=4
 ·subst h4
  have hA:=fun G sq own f=>hA G sq own f (by decide)
  simp only[show(Ze5 (Zcg 4)).map (AVal.int .i64)=[.int .i64 0,.int .i64 0,.int .i64 16,.int .i64 16,.int .i64 128,.int .i64 128,.int .i64 131,.int .i64 131,.int .i64 135,.int .i64 135,.int .i64 144,.int .i64 145,.int .i64 151,.int .i64 151,.int .i64 153,.int .i64 153]from rfl]at hA
  rw[Zg (by rfl) Zf8]
  simp -implicitDefEqProofs only[EQA,Zc,Xc,Xa,reduceCtorEq,↓reduceIte,Zf1,ZeH,ZfN,Zb,Xj,hA,AVal.cells,viewAs,Z3,ZN,Zv]
 by_cases h5:k=5
 ·subst h5
  have hA:=fun G sq own f=>hA G sq own f (by decide)
  simp only[show(Ze5 (Zcg 5)).map (AVal.int .i64)=[.int .i64 0,.int .i64 0,.int .i64 16,.int .i64 16,.int .i64 128,.int .i64 128,.int .i64 131,.int .i64 131,.int .i64 135,.int .i64 135,.int .i64 144,.int .i64 145,.int .i64 151,.int .i64 151,.int .i64 153,.int .i64 153]from rfl]at hA
  rw[Zg (by rfl) Zf8]
  simp -implicitDefEqProofs only[EQA,Zc,Xc,Xa,reduceCtorEq,↓reduceIte,Zf1,ZeH,ZfN,Zb,Xj,hA,AVal.cells,viewAs,Z3,ZN,Zv]
 by_cases h6:k=6
 ·subst h6
  have e:(Zcg 6).any (Zc1 c)=(c==0 ||c==146):=by
   rw[show Zcg 6=[(0,0),(146,146)]from rfl]
   rw[XaE];simp[Zc1];omega
  rw[e]
  cases e0:(c==0)<;>cases e1:(c==146)
  all_goals
   rw[Zg (by rfl) Zf8]
   simp -implicitDefEqProofs only[EQA,Zc,Xc,Xa,Zy,Z6,unG,reduceCtorEq,↓reduceIte,Zf1,ZeH,ZfN,Zb,Xj,e0,e1]
   try rfl
 by_cases h7:k=7
 ·subst h7
  have e:(Zcg 7).any (Zc1 c)=(c==0 ||c==146):=by
   rw[show Zcg 7=[(0,0),(146,146)]from rfl]
   rw[XaE];simp[Zc1];omega
  rw[e]
  cases e0:(c==0)<;>cases e1:(c==146)
  all_goals
   rw[Zg (by rfl) Zf8]
   simp -implicitDefEqProofs only[EQA,Zc,Xc,Xa,Zy,Z6,unG,reduceCtorEq,↓reduceIte,Zf1,ZeH,ZfN,Zb,Xj,e0,e1]
   try rfl
 by_cases h9:k=9
 ·subst h9
  have hA:=fun G sq own f=>hA G sq own f (by decide)
  simp only[show(Ze5 (Zcg 9)).map (AVal.int .i64)=[.int .i64 0,.int .i64 2,.int .i64 128,.int .i64 128,.int .i64 131,.int .i64 131,.int .i64 135,.int .i64 135,.int .i64 143,.int .i64 143,.int .i64 145,.int .i64 145,.int .i64 151,.int .i64 151,.int .i64 158,.int .i64 158,.int .i64 161,.int .i64 162]from rfl]at hA
  rw[Zg (by rfl) Zf8]
  simp -implicitDefEqProofs only[EQA,Zc,Xc,Xa,reduceCtorEq,↓reduceIte,Zf1,ZeH,ZfN,Zb,Xj,hA,AVal.cells,viewAs,Z3,ZN,Zv]
 by_cases h11:k=11
 ·subst h11
  have hA:=fun G sq own f=>hA G sq own f (by decide)
  simp only[show(Ze5 (Zcg 11)).map (AVal.int .i64)=[.int .i64 0,.int .i64 0,.int .i64 17,.int .i64 17,.int .i64 128,.int .i64 128,.int .i64 131,.int .i64 131,.int .i64 135,.int .i64 135,.int .i64 143,.int .i64 143,.int .i64 145,.int .i64 145]from rfl]at hA
  rw[Zg (by rfl) Zf8]
  simp -implicitDefEqProofs only[EQA,Zc,Xc,Xa,reduceCtorEq,↓reduceIte,Zf1,ZeH,ZfN,Zb,Xj,hA,AVal.cells,viewAs,Z3,ZN,Zv]
 by_cases h14:k=14
 ·subst h14
  have hA:=fun G sq own f=>hA G sq own f (by decide)
  simp only[show(Ze5 (Zcg 14)).map (AVal.int .i64)=[.int .i64 0,.int .i64 0,.int .i64 4,.int .i64 4,.int .i64 128,.int .i64 131,.int .i64 135,.int .i64 135,.int .i64 137,.int .i64 137,.int .i64 139,.int .i64 139,.int .i64 141,.int .i64 144,.int .i64 147,.int .i64 162]from rfl]at hA
  rw[Zg (by rfl) Zf8]
  simp -implicitDefEqProofs only[EQA,Zc,Xc,Xa,reduceCtorEq,↓reduceIte,Zf1,ZeH,ZfN,Zb,Xj,hA,AVal.cells,viewAs,Z3,ZN,Zv]
 by_cases h15:k=15
 ·subst h15
  have e:(Zcg 15).any (Zc1 c)=(c==0 ||c==24 ||c==25):=by
   rw[show Zcg 15=[(0,0),(24,25)]from rfl]
   rw[XaE];simp[Zc1];omega
  rw[e]
  cases e0:(c==0)<;>cases e1:(c==24)<;>cases e2:(c==25)
  all_goals
   rw[Zg (by rfl) Zf8]
   simp -implicitDefEqProofs only[EQA,Zc,Xc,Xa,Zy,Z6,unG,reduceCtorEq,↓reduceIte,Zf1,ZeH,ZfN,Zb,Xj,e0,e1,e2]
   try rfl
 have b2:(k==2)=false:=by simpa using h2
 have b4:(k==4)=false:=by simpa using h4
 have b5:(k==5)=false:=by simpa using h5
 have b6:(k==6)=false:=by simpa using h6
 have b7:(k==7)=false:=by simpa using h7
 have b9:(k==9)=false:=by simpa using h9
 have b11:(k==11)=false:=by simpa using h11
 have b14:(k==14)=false:=by simpa using h14
 have b15:(k==15)=false:=by simpa using h15
 have e:Zcg k=[]:=by unfold Zcg;grind
 rw[e,Zg (by rfl) Zf8]
 simp -implicitDefEqProofs only[EQA,Zc,Xc,Xa,reduceCtorEq,↓reduceIte,Zf1,ZeH,ZfN,Zb,b2,b4,b5,b6,b7,b9,b11,b14,b15]
 rfl
theorem ZKf(k c:Int)(G:Za)(sq own:Nat):Zq E BY G sq 23 own true [.int .i64 k,.int .i64 c]=some (.bool (ZfS k c),G,{}) :=
 ZdI (ZIV k c) (by kernel_rfl) (by simp -implicitDefEqProofs only[Zem,ZbW,eq_self,eq_self]) (by simp -implicitDefEqProofs only[ZE,ZbW,eq_self,eq_self]) rfl (fun _=>rfl) _ _ _ _
section
variable (s:RS)(hl:s.1.length<=140737488355328)
include hl
theorem ZL3(c:Int):(Zav c s).1.length<=s.1.length:=by
 unfold Zav;split<;>simp
theorem Zw0(n:Nat):(Zck n s).2.1.length<=s.1.length:=by
 unfold Zck;split
 ·exact ZL3 s hl _
 ·simp
theorem ZBe:E 66 [.ref 0 0] [.var (rs s)]=some (.int .i64 (Z2 s).1,[.var (rs (Z2 s).2)]):=by
 have hT:=fun(G:Za) sq (hs:G[0]?=some (.var (rs s)))=>ZvC s hl 1 (Xq rfl) 1 rfl G 0 sq hs
 have hL:=ZvE 1 s
 unfold Z2
 generalize Zck 1 s=T at *
 obtain⟨a,ha⟩:∃ a,T.1=[a]:=by
  match T.1,hL with
  | [a],_=>exact⟨a,rfl⟩
 rw[ha]at hT ⊢
 have e1:∀ (G:Za) (n:Bool) kk,Zc5 G 1 (.lst n [.int .u8 (a.toNat:Int)]) (.int kk 0)=some (.iptr [.int .u8 (a.toNat:Int)] 0,G,{}):=fun G n kk=>iad (l:=[a]) (i:=0) rfl Zh (k:=1) rfl G n kk
 have n1:Ze0 [a]=(a.toNat:Int):=by
  have:=a.toNat_lt
  unfold Ze0 Zcj
  rw[Zds,ZeF]
  rw[ZaE (by omega) (by omega)]
  omega
 have b1:Zh a=.int .u8 (a.toNat:Int):=rfl
 simp only[Xu,XC,b1]at hT
 have w1:IntKind.i64.wrap (a.toNat:Int)=(a.toNat:Int):=by have:=a.toNat_lt;rw[ZaE (by omega) (by omega)]
 rw[n1,Zg (by rfl) ZBo]
 unfold rs at hT ⊢
 simp -implicitDefEqProofs only[EQA,Zc,ZT,Xc,Xa,reduceCtorEq,↓reduceIte,Ze,ZId,ZsZ,ZLb,Zb,hT,e1,w1]
theorem ZiU(G:Za)(t sq:Nat)(hs:G[t]?=some (.var (rs s))):Zq E BY G sq 66 0 true [.ref t 0]=some (.int .i64 (Z2 s).1,G.set t (.var (rs (Z2 s).2)),{ any:=true,upd:=[(t,rs (Z2 s).2)] }) :=
 Zce (rest:=[]) (by kernel_rfl) rfl (ZbA _) (ZbA _) rfl rfl (ZBe s hl) hs sq
theorem ZQQ:E 99 [.ref 0 0] [.var (rs s)]=some (.int .i64 (ZbP s).1,[.var (rs (ZbP s).2)]):=by
 have hT:=fun(G:Za) sq (hs:G[0]?=some (.var (rs s)))=>ZvC s hl 2 (Xt rfl) 2 rfl G 0 sq hs
 have hL:=ZvE 2 s
 have hG:=fun G sq own f=>ZlX G sq own (Zck 2 s).1 (by omega) f
 unfold ZbP Ze0
 generalize Zck 2 s=T at *
 rw[Zg (by rfl) ZGT]
 unfold rs at hT ⊢
 simp -implicitDefEqProofs only[EQA,Zc,ZT,Xc,Xa,reduceCtorEq,↓reduceIte,Ze,ZNY,Zri,ZDH,Zb,hT,hG]
theorem Zy4(G:Za)(t sq:Nat)(hs:G[t]?=some (.var (rs s))):Zq E BY G sq 99 0 true [.ref t 0]=some (.int .i64 (ZbP s).1,G.set t (.var (rs (ZbP s).2)),{ any:=true,upd:=[(t,rs (ZbP s).2)] }) :=
 Zce (rest:=[]) (by kernel_rfl) rfl (ZbA _) (ZbA _) rfl rfl (ZQQ s hl) hs sq
theorem ZHQ:E 70 [.ref 0 0] [.var (rs s)]=some (.int .i64 (idR s).1,[.var (rs (idR s).2)]):=by
 have hT:=fun(G:Za) sq (hs:G[0]?=some (.var (rs s)))=>Zy4 s hl G 0 sq hs
 have hF:=fun(G:Za) sq (hs:G[0]?=some (.var (rs (ZbP s).2)))=>Zdj (ZbP s).2 130 G 0 sq hs
 unfold idR
 generalize ZbP s=T at *
 by_cases h:T.1=0
 ·have h0:(T.1==0)=true:=by simpa using h
  rw[if_pos h,Zg (by rfl) ZvU]
  unfold rs at hT hF ⊢
  generalize Zav 130 T.2=s' at *
  simp -implicitDefEqProofs only[EQA,Zc,ZT,Xc,Xa,reduceCtorEq,↓reduceIte,Ze,Zv8,ZlC,ZuI,Zb,hT,hF,h0]
 ·have h0:(T.1==0)=false:=by simpa using h
  rw[if_neg h,Zg (by rfl) ZvU]
  unfold rs at hT ⊢
  simp -implicitDefEqProofs only[EQA,Zc,ZT,Xc,Xa,reduceCtorEq,↓reduceIte,Ze,Zv8,ZlC,ZuI,Zb,hT,h0]
theorem ZiW(G:Za)(t sq:Nat)(hs:G[t]?=some (.var (rs s))):Zq E BY G sq 70 0 true [.ref t 0]=some (.int .i64 (idR s).1,G.set t (.var (rs (idR s).2)),{ any:=true,upd:=[(t,rs (idR s).2)] }) :=
 Zce (rest:=[]) (by kernel_rfl) rfl (ZbA _) (ZbA _) rfl rfl (ZHQ s hl) hs sq
theorem ZSJ(k:Int):E 67 [.ref 0 0,.int .i64 k] [.var (rs s)]=some (.int .i64 (Zal k s).1,[.var (rs (Zal k s).2)]):=by
 have hT:=fun(G:Za) sq (hs:G[0]?=some (.var (rs s)))=>ZiU s hl G 0 sq hs
 have hF:=fun(G:Za) sq (hs:G[0]?=some (.var (rs (Z2 s).2)))=>Zdj (Z2 s).2 130 G 0 sq hs
 have hC:=fun G sq own=>ZKf k (Z2 s).1 G sq own
 unfold Zal
 generalize Z2 s=T at *
 cases h:ZfS k T.1
 ·rw[h]at hC
  rw[if_neg (by simp),Zg (by rfl) ZyT]
  unfold rs at hT hF ⊢
  generalize Zav 130 T.2=s' at *
  simp -implicitDefEqProofs only[EQA,Zc,ZT,Xc,Xa,unA,reduceCtorEq,↓reduceIte,Ze,Zyf,Zn1,Zv5,Zb,hT,hF,hC]
 ·rw[h]at hC
  rw[if_pos rfl,Zg (by rfl) ZyT]
  unfold rs at hT ⊢
  simp -implicitDefEqProofs only[EQA,Zc,ZT,Xc,Xa,unA,reduceCtorEq,↓reduceIte,Ze,Zyf,Zn1,Zv5,Zb,hT,hC]
theorem Zov(k:Int)(G:Za)(t sq:Nat)(hs:G[t]?=some (.var (rs s))):Zq E BY G sq 67 0 true [.ref t 0,.int .i64 k]=some (.int .i64 (Zal k s).1,G.set t (.var (rs (Zal k s).2)),{ any:=true,upd:=[(t,rs (Zal k s).2)] }) :=
 Zce (rest:=[.int .i64 k]) (by kernel_rfl) rfl (ZbA _) (ZbA _) rfl rfl (ZSJ s hl k) hs sq
theorem ZHh:E 69 [.ref 0 0] [.var (rs s)]=some (.str (ZA s).1,[.var (rs (ZA s).2)]):=by
 have hG:=fun G sq own f=>ZrQ G sq own f s.1 hl
 have hF:=fun(G:Za) sq (hs:G[0]?=some (.var (rs s)))=>Zdj s 129 G 0 sq hs
 have hu:=(Zgp s.1).1
 have s2:=fun G kk=>Zgw G s.1 kk ((ZU s.1).2.1:Int) (by omega) (by omega)
 have e2:(((ZU s.1).2.1:Nat):Int).toNat=(ZU s.1).2.1:=rfl
 rw[e2]at s2
 unfold gtT at hG
 unfold ZA
 by_cases h:s.2=0
 ·have h0:(s.2 != 0)=false:=by simpa using h
  rw[if_neg (by grind)]
  by_cases ht:(ZU s.1).2.2=0
  ·have h1:((ZU s.1).2.2 != 0)=false:=by simpa using ht
   rw[if_neg (by grind),Zg (by rfl) ZsG]
   unfold rs at hF ⊢
   rw[h]at hF ⊢
   have h0:((0:Int) != 0)=false:=rfl
   generalize ZU s.1=T at *
   simp -implicitDefEqProofs only[EQA,Zs,Zc,ZT,Xd,Xc,Xf,Xa,reduceCtorEq,↓reduceIte,Ze,ZqB,Zk9,ZoQ,Zb,hG,h0,h1,s2,AVal.cells]
  ·have h1:((ZU s.1).2.2 != 0)=true:=by simpa using ht
   have hf:Zav 129 s=(s.1,129):=by unfold Zav;grind
   rw[hf]at hF
   rw[if_pos ht,Zg (by rfl) ZsG]
   unfold rs at hF ⊢
   rw[h]at hF ⊢
   have h0:((0:Int) != 0)=false:=rfl
   generalize ZU s.1=T at *
   simp -implicitDefEqProofs only[EQA,Zc,ZT,Xc,Xa,reduceCtorEq,↓reduceIte,Ze,ZqB,Zk9,ZoQ,Zb,hG,hF,h0,h1]
 ·have h0:(s.2 != 0)=true:=by simpa using h
  rw[if_pos h,Zg (by rfl) ZsG]
  unfold rs
  simp -implicitDefEqProofs only[EQA,Zc,ZT,Xc,Xa,reduceCtorEq,↓reduceIte,Ze,ZqB,Zk9,ZoQ,Zb,h0]
theorem Zgx(G:Za)(t sq:Nat)(hs:G[t]?=some (.var (rs s))):Zq E BY G sq 69 0 true [.ref t 0]=some (.str (ZA s).1,G.set t (.var (rs (ZA s).2)),{ any:=true,upd:=[(t,rs (ZA s).2)] }) :=
 Zce (rest:=[]) (by kernel_rfl) rfl (ZbA _) (ZbA _) rfl rfl (ZHh s hl) hs sq
theorem ZH7(w:Int)(hu:(Zab w s.1).2.1<=s.1.length):∃ f,E 68 [.ref 0 0,.int .i64 w] [.var (rs s)]=some (.lst f ((Zaa w s).1.map Zu),[.var (rs (Zaa w s).2)]):=by
 have hG:=fun G sq own f=>ZO6 G sq own f w s.1 hl
 have hF:=fun(G:Za) sq (hs:G[0]?=some (.var (rs s)))=>Zdj s (Zab w s.1).2.2 G 0 sq hs
 have s2:=fun G kk=>Zgw G s.1 kk ((Zab w s.1).2.1:Int) (by omega) (by omega)
 have e2:(((Zab w s.1).2.1:Nat):Int).toNat=(Zab w s.1).2.1:=rfl
 rw[e2]at s2
 unfold Zaa
 by_cases h:s.2=0
 ·have h0:(s.2 != 0)=false:=by simpa using h
  rw[if_neg (by grind)]
  by_cases ht:(Zab w s.1).2.2=0
  ·have h1:((Zab w s.1).2.2 != 0)=false:=by simpa using ht
   refine⟨false,?_⟩
   rw[if_neg (by grind),Zg (by rfl) ZoO]
   unfold rs at hF ⊢
   rw[h]at hF ⊢
   have h0:((0:Int) != 0)=false:=rfl
   generalize Zab w s.1=T at *
   simp -implicitDefEqProofs only[EQA,Zs,Zc,ZT,Xd,Xc,Xf,Xa,reduceCtorEq,↓reduceIte,Ze,Ztr,ZkA,Zr0,Zb,hG,h0,h1,s2,AVal.cells]
  ·have h1:((Zab w s.1).2.2 != 0)=true:=by simpa using ht
   have hf:Zav (Zab w s.1).2.2 s=(s.1,(Zab w s.1).2.2):=by unfold Zav;grind
   rw[hf]at hF
   refine⟨true,?_⟩
   rw[if_pos ht,Zg (by rfl) ZoO]
   unfold rs at hF ⊢
   rw[h]at hF ⊢
   have h0:((0:Int) != 0)=false:=rfl
   generalize Zab w s.1=T at *
   simp -implicitDefEqProofs only[EQA,Zc,ZT,Xc,Xa,reduceCtorEq,↓reduceIte,Ze,Ztr,ZkA,Zr0,Zb,hG,hF,h0,h1]
 ·have h0:(s.2 != 0)=true:=by simpa using h
  refine⟨true,?_⟩
  rw[if_pos h,Zg (by rfl) ZoO]
  unfold rs
  simp -implicitDefEqProofs only[EQA,Zc,ZT,Xc,Xa,reduceCtorEq,↓reduceIte,Ze,Ztr,ZkA,Zr0,Zb,h0]
theorem ZfX(w:Int)(hu:(Zab w s.1).2.1<=s.1.length)(G:Za)(t sq:Nat)(hs:G[t]?=some (.var (rs s))):Zq E BY G sq 68 0 true [.ref t 0,.int .i64 w]=some (.lst false ((Zaa w s).1.map Zu),G.set t (.var (rs (Zaa w s).2)),{ any:=true,upd:=[(t,rs (Zaa w s).2)] }):=by
 obtain⟨f,h⟩:=ZH7 s hl w hu
 exact Zce (rest:=[.int .i64 w]) (by kernel_rfl) rfl (ZbA _) (ZbA _) rfl rfl h hs sq
theorem Zwy(G:Za)(t sq:Nat)(hs:G[t]?=some (.var (rs s))):Zq E BY G sq 100 0 true [.ref t 0]=some (.lst false ((Zcz s).1.map Zh),G.set t (.var (rs (Zcz s).2)),{ any:=true,upd:=[(t,rs (Zcz s).2)] }):=by
 have hG:=fun G sq own f=>Zp2 G sq own f s.1 hl
 have hF:=fun(G:Za) sq (hs:G[0]?=some (.var (rs s)))=>Zdj s 129 G 0 sq hs
 have hu:=(Zg0 s.1).1
 have hu2:=(Zg0 s.1).2
 have s2:=fun G kk=>Zgw G s.1 kk ((ZL s.1).2.1:Int) (by omega) (by omega)
 have e2:(((ZL s.1).2.1:Nat):Int).toNat=(ZL s.1).2.1:=rfl
 rw[e2]at s2
 unfold gdT at hG
 unfold Zcz
 by_cases h:s.2=0
 ·have h0:((0:Int) != 0)=false:=rfl
  have h00:¬(s.2≠0):=fun e=>e h
  rw[if_neg h00]
  by_cases ht:(ZL s.1).2.2=0
  ·have h1:((ZL s.1).2.2 != 0)=false:=by simpa using ht
   have hdl:(ZL s.1).1.length<=140737488355328:=by
    omega
   have ht':¬((ZL s.1).2.2≠0):=fun e=>e ht
   rw[if_neg ht']
   have key:E 100 [.ref 0 0] [.var (rs s)]=some (.sl 1 0 0 (ZL s.1).1.length,[.var (rs (s.1.drop (ZL s.1).2.1,0)),.row 0 1 ((ZL s.1).1.map Zh)]):=by
    rw[Zg (by rfl) ZoJ]
    unfold rs at hF ⊢
    rw[h]at hF ⊢
    have kk:=Zhe (ZL s.1).1
    have lim:(ZL s.1).1.length*1<=140737488355328:=by omega
    generalize ZL s.1=T at *
    simp -implicitDefEqProofs only[EQA,Zs,Zc,ZbH,Xd,Xc,Xf,Xa,Xg,reduceCtorEq,ZZ,↓reduceIte,Zuz,Zls,Zta,Zb,hG,h0,h1,s2,AVal.cells,Zan,viewAs,Zv,kk,lim]
    exact Zkr rfl
   exact ZyK (rest:=[]) (by kernel_rfl) rfl (ZbA _) (ZbA _) key (by simp) hs sq
  ·have h1:((ZL s.1).2.2 != 0)=true:=by simpa using ht
   have hf:Zav 129 s=(s.1,129):=by unfold Zav;grind
   rw[hf]at hF
   rw[if_pos ht]
   have key:E 100 [.ref 0 0] [.var (rs s)]=some (.lst true [],[.var (rs (s.1,129))]):=by
    rw[Zg (by rfl) ZoJ]
    unfold rs at hF ⊢
    rw[h]at hF ⊢
    generalize ZL s.1=T at *
    simp -implicitDefEqProofs only[EQA,Zc,ZT,Xc,Xa,reduceCtorEq,↓reduceIte,Ze,Zuz,Zls,Zta,Zb,hG,hF,h0,h1]
   exact Zce (rest:=[]) (by kernel_rfl) rfl (ZbA _) (ZbA _) rfl rfl key hs sq
 ·have h0:(s.2 != 0)=true:=by simpa using h
  rw[if_pos h]
  have key:E 100 [.ref 0 0] [.var (rs s)]=some (.lst true [],[.var (rs s)]):=by
   rw[Zg (by rfl) ZoJ]
   unfold rs
   simp -implicitDefEqProofs only[EQA,Zc,ZT,Xc,Xa,reduceCtorEq,↓reduceIte,Ze,Zuz,Zls,Zta,Zb,h0]
  exact Zce (rest:=[]) (by kernel_rfl) rfl (ZbA _) (ZbA _) rfl rfl key hs sq
end
end
section
def rc1:Zf:=by apply Zb 65 [0] [];conv=>lhs;reduce;simp only[zi,zb]
def rc2:Zf:=by apply Zb 65 [1,0] [];conv=>lhs;reduce;dsimp only[zi]
def rc3:Zf:=by apply Zb 65 [1,1,0] [];conv=>lhs;reduce;dsimp only[zi]
def rc4:Zf:=by apply Zb 65 [1,1,1,0] [];conv=>lhs;reduce;dsimp only[zi]
def rc5:Zf:=by apply Zb 65 [1,1,1,1,0] [];conv=>lhs;reduce;dsimp only[zi]
def rc6:Zf:=by apply Zb 65 [1,1,1,1,1,0] [];conv=>lhs;reduce;dsimp only[zi]
def rc7:Zf:=by apply Zb 65 [1,1,1,1,1,1,0] [];conv=>lhs;reduce;dsimp only[zi]
def rc8:Zf:=by apply Zb 65 [1,1,1,1,1,1,1,0] [];conv=>lhs;reduce;dsimp only[zi]
def rc9:Zf:=by apply Zb 65 [1,1,1,1,1,1,1,1,0] [];conv=>lhs;reduce;dsimp only[zi]
def ZgN:Zf:=by apply Zb 65 [1,1,1,1,1,1,1,1,1,0] [];conv=>lhs;reduce;dsimp only[zi]
def Zsh:Zf:=by apply Zb 65 [1,1,1,1,1,1,1,1,1,1,0] [];conv=>lhs;reduce;dsimp only[zi]
def Zq6:Zf:=by apply Zb 65 [1,1,1,1,1,1,1,1,1,1,1,0] [];conv=>lhs;reduce;dsimp only[zi]
def Zsg:Zf:=by apply Zb 65 [1,1,1,1,1,1,1,1,1,1,1,1,0] [];conv=>lhs;reduce;dsimp only[zi]
def Zok:Zf:=by apply Zb 65 [1,1,1,1,1,1,1,1,1,1,1,1,1,0] [];conv=>lhs;reduce;dsimp only[zi]
def ZnA:Zf:=by apply Zb 65 [1,1,1,1,1,1,1,1,1,1,1,1,1,1,0] [];conv=>lhs;reduce;dsimp only[zi]
def Zl3:Zf:=by apply Zb 65 [1,1,1,1,1,1,1,1,1,1,1,1,1,1,1,0] [];conv=>lhs;reduce;dsimp only[zi]
def Zol:Zf:=by apply Zb 65 [1,1,1,1,1,1,1,1,1,1,1,1,1,1,1,1] [];conv=>lhs;reduce;dsimp only[zi]
theorem ZRT:ZqV=(.seq rc1 (.seq rc2 (.seq rc3 (.seq rc4 (.seq rc5 (.seq rc6 (.seq rc7 (.seq rc8 (.seq rc9 (.seq ZgN (.seq Zsh (.seq Zq6 (.seq Zsg (.seq Zok (.seq ZnA (.seq Zl3 Zol)))))))))))))))):=rfl
def t10:Tms:=[(1,.ref 1 0),(0,.ref 0 0)]
def tX(n:Nat):Tms:=(n,.bool false)::t10
def Zb7(m:Int):Tms:=(4,.int .i64 m)::t10
def hr(s:RS)(P:List AVal):Za:=[.var (rs s),.var P]
structure RP(P:List AVal)(q:Zx):Prop where
 len:P.length=26
 nor:Ze P=true
 is:Is P q
theorem ZlY{G:Za}:∀ {P ys:List AVal} {ts:List Nat} {k:Nat} {y:AVal},Zae G P=some (ys,ts)->ys[k]?=some y->∃ x us,P[k]?=some x/\ZN G x=some (y,us)
 | [],ys,ts,k,y,h,hk=>by
  simp only[Zae,Xb,Xe]at h
  grind
 |x::P,ys,ts,k,y,h,hk=>by
  rw[Zae]at h
  split at h
  ·rename_i y0 t0 h0
   split at h
   ·rename_i ys0 us0 h1
    simp only[Xb,Xe]at h
    rw[<-h.1]at hk
    cases k with
    |zero=>grind
    |succ k=>simp only[XN]at hk ⊢;exact ZlY h1 hk
   ·cases h
  ·cases h
theorem ZUY{G:Za}{x:AVal}{b:Bool}{us:List Nat}(h:ZN G x=some (.bool b,us)):x=.bool b:=by
 unfold ZN at h
 grind
theorem ZUF{G:Za}{x:AVal}{k:IntKind}{n:Int}{us:List Nat}(h:ZN G x=some (.int k n,us)):x=.int k n:=by
 unfold ZN at h
 grind
section
variable {P:List AVal}{q:Zx}(h:RP P q)
include h
theorem RP.bool{k:Nat}{b:Bool}(hk:(ZC q)[k]?=some (.bool b)):P[k]?=some (.bool b):=by
 obtain⟨x,us,h1,h2⟩:=ZlY (h.is.view []) hk
 rw[h1,ZUY h2]
theorem RP.int{k:Nat}{n:Int}(hk:(ZC q)[k]?=some (.int .i64 n)):P[k]?=some (.int .i64 n):=by
 obtain⟨x,us,h1,h2⟩:=ZlY (h.is.view []) hk
 rw[h1,ZUF h2]
theorem RP.set{q':Zx}{k:Nat}{v y:AVal}(hk:k<26)(hn:ZQ v=true)(hv:∀ G,ZN G v=some (y,[]))(ho:ZY v=true)(hc:(ZC q).set k y=ZC q'):RP (P.set k v) q' :=
 ⟨by simp[h.len],Z7 hn k h.nor,h.is.set (by rw[h.len];exact hk) hv ho hc⟩
theorem ZbT(k k':Nat)(hk:k<26)(hk':k'=k+1)(v:AVal):WI k P++[v]++WO k' P=P.set k v:=by
 subst hk'
 rw[XD,if_pos (by rw[h.len];exact hk)]
 simp
end
def RStep(c:Zf)(tm:Tms)(s:RS)(q:Zx)(s':RS)(q':Zx)(T:Tms->Prop):Prop :=
 ∀ P,RP P q->∃ tm' P',T tm'/\RP P' q'/\evC FC PR BY 2 c tm (hr s P)=some (.normal,tm',hr s' P')
theorem RStep.seq{a b:Zf}{tm:Tms}{s s1 s2:RS}{q q1 q2:Zx}{T1 T2:Tms->Prop}(ha:RStep a tm s q s1 q1 T1)(hb:∀ tm1,T1 tm1->RStep b tm1 s1 q1 s2 q2 T2):RStep (.seq a b) tm s q s2 q2 T2:=by
 intro P hP
 obtain⟨tm1,P1,h1,h2,h3⟩:=ha P hP
 obtain⟨tm2,P2,g1,g2,g3⟩:=hb tm1 h1 P1 h2
 exact⟨tm2,P2,g1,g2,by rw[Zb3 h3];exact g3⟩
def T0(tm:Tms):Prop:=tm=t10
def TN(n:Nat)(tm:Tms):Prop:=tm=t10\/tm=tX n
def T4(m:Int)(tm:Tms):Prop:=tm=Zb7 m
def Zma(_:Tms):Prop:=True
theorem T0.n{n:Nat}{tm:Tms}(h:T0 tm):TN n tm:=Xq h
section
variable (s:RS)(hl:s.1.length<=140737488355328)(q:Zx)
include hl
theorem ZCw:RStep rc1 t10 s q (if(ZA s).1=[77,81,84,84]then(ZA s).2 else Zav 132 (ZA s).2) q (TN 7):=by
 intro P hP
 have hT:=fun(G:Za) sq hs=>Zgx s hl G 0 sq hs
 have hF:=fun(G:Za) sq hs=>Zdj (ZA s).2 132 G 0 sq hs
 generalize ZA s=T at *
 by_cases h:T.1=[77,81,84,84]
 ·have h0:(T.1==([77,81,84,84]:Zd))=true:=by simpa using h
  refine⟨tX 7,P,Xt rfl,hP,?_⟩
  rw[if_pos h]
  unfold hr t10 tX t10
  simp -implicitDefEqProofs only[EQA,Zc,Xd,Xc,Xa,Zc8,reduceCtorEq,↓reduceIte,Zb,rc1,hT,h0]
 ·have h0:(T.1==([77,81,84,84]:Zd))=false:=by simpa using h
  refine⟨t10,P,Xq rfl,hP,?_⟩
  rw[if_neg h]
  unfold hr t10
  simp -implicitDefEqProofs only[EQA,Zc,Xd,Xc,Xa,Zc8,reduceCtorEq,↓reduceIte,Zb,rc1,hT,hF,h0]
theorem ZLP{tm:Tms}(ht:TN 7 tm):RStep rc2 tm s q (if(Z2 s).1=5 then(Z2 s).2 else Zav 132 (Z2 s).2) q (TN 12):=by
 intro P hP
 have hT:=fun(G:Za) sq hs=>ZiU s hl G 0 sq hs
 have hF:=fun(G:Za) sq hs=>Zdj (Z2 s).2 132 G 0 sq hs
 generalize Z2 s=T at *
 by_cases h:T.1=5
 ·have h0:(T.1 != 5)=false:=by simpa using h
  refine⟨tX 12,P,Xt rfl,hP,?_⟩
  rw[if_pos h]
  unfold hr
  rcases ht with rfl |rfl<;>unfold tX t10<;>simp -implicitDefEqProofs only[EQA,Zc,Xd,Xc,Xa,reduceCtorEq,↓reduceIte,Zb,rc2,hT,h0]
 ·have h0:(T.1 != 5)=true:=by simpa using h
  refine⟨t10,P,Xq rfl,hP,?_⟩
  rw[if_neg h]
  unfold hr
  rcases ht with rfl |rfl<;>(try unfold tX)<;>unfold t10<;>simp -implicitDefEqProofs only[EQA,Zc,Xd,Xc,Xa,reduceCtorEq,↓reduceIte,Zb,rc2,hT,hF,h0]
theorem ZED{tm:Tms}(ht:TN 12 tm):RStep rc3 tm s q (Z2 s).2 q (T4 (Z2 s).1):=by
 intro P hP
 have hT:=fun(G:Za) sq hs=>ZiU s hl G 0 sq hs
 generalize Z2 s=T at *
 refine⟨Zb7 T.1,P,rfl,hP,?_⟩
 unfold hr
 rcases ht with rfl |rfl<;>unfold Zb7<;>(try unfold tX)<;>unfold t10<;>simp -implicitDefEqProofs only[EQA,Zc,Xd,Xc,Xa,reduceCtorEq,↓reduceIte,Zb,rc3,hT]
end
def ZaL(m k:Int):Int:=m.fdiv (2^min (Xad k) IntKind.i64.bits)
section
variable (s:RS)(hl:s.1.length<=140737488355328)(q:Zx)(m:Int)
include hl
theorem ZMp:RStep rc4 (Zb7 m) s q s { q with clean:=Zk m 2 != 0 } (T4 m):=by
 intro P hP
 have a1:=hP.len
 have a3:=ZbT hP 12 13 (by omega) rfl (.bool (Zk m 2 != 0))
 refine⟨Zb7 m,_,rfl,hP.set (k:=12) (v:=.bool (Zk m 2 != 0)) (by omega) rfl (fun _=>rfl) rfl rfl,?_⟩
 unfold hr Zb7 t10
 unfold Zk at *
 simp -implicitDefEqProofs only[EQA,Zs,ZE,Zc,Xd,Xc,Xf,Xa,reduceCtorEq,↓reduceIte,Zb,rc4,a1,a3]
theorem ZB7:RStep rc5 (Zb7 m) s q s { q with hasWill:=Zk m 4 != 0 } (T4 m):=by
 intro P hP
 have a1:=hP.len
 have a3:=ZbT hP 15 16 (by omega) rfl (.bool (Zk m 4 != 0))
 refine⟨Zb7 m,_,rfl,hP.set (k:=15) (v:=.bool (Zk m 4 != 0)) (by omega) rfl (fun _=>rfl) rfl rfl,?_⟩
 unfold hr Zb7 t10
 unfold Zk at *
 simp -implicitDefEqProofs only[EQA,Zs,ZE,Zc,Xd,Xc,Xf,Xa,reduceCtorEq,↓reduceIte,Zb,rc5,a1,a3]
theorem ZIB:RStep rc6 (Zb7 m) s q s { q with will:={ q.will with qos:=Zk (ZaL m 3) 3 } } (T4 m):=by
 intro P hP
 have a1:=hP.len
 have a3:=ZbT hP 18 19 (by omega) rfl (.int .i64 (Zk (ZaL m 3) 3))
 refine⟨Zb7 m,_,rfl,hP.set (k:=18) (v:=.int .i64 (Zk (ZaL m 3) 3)) (by omega) rfl (fun _=>rfl) rfl rfl,?_⟩
 unfold hr Zb7 t10
 unfold Zk ZaL at *
 simp -implicitDefEqProofs only[EQA,Zs,ZE,Zc,Xd,Xc,Xf,Xa,Zbh,reduceCtorEq,↓reduceIte,Zb,rc6,a1,a3,Wc]
theorem ZDY:RStep rc7 (Zb7 m) s q s { q with will:={ q.will with retain:=Zk m 32 != 0 } } (T4 m):=by
 intro P hP
 have a1:=hP.len
 have a3:=ZbT hP 19 20 (by omega) rfl (.bool (Zk m 32 != 0))
 refine⟨Zb7 m,_,rfl,hP.set (k:=19) (v:=.bool (Zk m 32 != 0)) (by omega) rfl (fun _=>rfl) rfl rfl,?_⟩
 unfold hr Zb7 t10
 unfold Zk at *
 simp -implicitDefEqProofs only[EQA,Zs,ZE,Zc,Xd,Xc,Xf,Xa,reduceCtorEq,↓reduceIte,Zb,rc7,a1,a3]
theorem ZLs:RStep rc8 (Zb7 m) s q s { q with hasPassword:=Zk m 64 != 0 } (T4 m):=by
 intro P hP
 have a1:=hP.len
 have a3:=ZbT hP 23 24 (by omega) rfl (.bool (Zk m 64 != 0))
 refine⟨Zb7 m,_,rfl,hP.set (k:=23) (v:=.bool (Zk m 64 != 0)) (by omega) rfl (fun _=>rfl) rfl rfl,?_⟩
 unfold hr Zb7 t10
 unfold Zk at *
 simp -implicitDefEqProofs only[EQA,Zs,ZE,Zc,Xd,Xc,Xf,Xa,reduceCtorEq,↓reduceIte,Zb,rc8,a1,a3]
theorem ZDm:RStep rc9 (Zb7 m) s q s { q with hasUser:=Zk m 128 != 0 } (T4 m):=by
 intro P hP
 have a1:=hP.len
 have a3:=ZbT hP 21 22 (by omega) rfl (.bool (Zk m 128 != 0))
 refine⟨Zb7 m,_,rfl,hP.set (k:=21) (v:=.bool (Zk m 128 != 0)) (by omega) rfl (fun _=>rfl) rfl rfl,?_⟩
 unfold hr Zb7 t10
 unfold Zk at *
 simp -implicitDefEqProofs only[EQA,Zs,ZE,Zc,Xd,Xc,Xf,Xa,reduceCtorEq,↓reduceIte,Zb,rc9,a1,a3]
end
def ZjQ(m:Int)(q:Zx):Bool:=(Zk m 1 != 0) ||((q.will.qos==3) ||(!q.hasWill&&(decide (q.will.qos>0) ||q.will.retain)))
section
variable (s:RS)(hl:s.1.length<=140737488355328)(q:Zx)
include hl
theorem ZNw(m:Int):RStep ZgN (Zb7 m) s q (if ZjQ m q=true then Zav 129 s else s) q (TN 87):=by
 intro P hP
 have a4:=hP.bool (k:=15) (b:=q.hasWill) rfl
 have a5:=hP.int (k:=18) (n:=q.will.qos) rfl
 have a6:=hP.bool (k:=19) (b:=q.will.retain) rfl
 have hF:=fun(G:Za) sq hs=>Zdj s 129 G 0 sq hs
 have key:∀ b,ZjQ m q=b->evC FC PR BY 2 ZgN (Zb7 m) (hr s P)=some (.normal,if b then t10 else tX 87,hr (if b then Zav 129 s else s) P):=by
  intro b hb
  unfold ZjQ Zk at hb
  unfold hr Zb7 t10 tX t10
  cases e1:(IntKind.i64.wrap (XR IntKind.i64.bits m&&&XR IntKind.i64.bits 1).toNat != 0)<;>rw[e1]at hb
  ·cases e2:(q.will.qos==3)<;>rw[e2]at hb
   ·cases e3:q.hasWill<;>rw[e3]at hb a4
    ·by_cases e4:q.will.qos>0
     ·simp only[e4,decide_true,WV,W7,XT,XaH]at hb
      subst hb
      simp -implicitDefEqProofs only[EQA,Zc,Xd,Xc,Xa,unA,Zy,Z6,unG,reduceCtorEq,↓reduceIte,Zb,ZgN,a4,a5,e1,e2,e4,hF]
     ·cases e5:q.will.retain<;>rw[e5]at hb a6<;>simp only[e4,decide_false,Bool.false_or,Xaq,XaH,Bool.true_and]at hb<;>subst hb
      ·simp -implicitDefEqProofs only[EQA,Zc,Xd,Xc,Xa,unA,Zy,unG,reduceCtorEq,↓reduceIte,Zb,ZgN,a4,a5,a6,e1,e2,e4]
      ·simp -implicitDefEqProofs only[EQA,Zc,Xd,Xc,Xa,unA,Zy,unG,reduceCtorEq,↓reduceIte,Zb,ZgN,a4,a5,a6,e1,e2,e4,hF]
    ·simp only[Xa0,Wi,Xaq]at hb
     subst hb
     simp -implicitDefEqProofs only[EQA,Zc,Xd,Xc,Xa,unA,Zy,Z6,unG,reduceCtorEq,↓reduceIte,Zb,ZgN,a4,a5,e1,e2]
   ·simp only[WV,W7]at hb
    subst hb
    simp -implicitDefEqProofs only[EQA,Zc,Xd,Xc,Xa,Zy,Z6,unG,reduceCtorEq,↓reduceIte,Zb,ZgN,a5,e1,e2,hF]
  ·simp only[WV]at hb
   subst hb
   simp -implicitDefEqProofs only[EQA,Zc,Xd,Xc,Xa,Zy,Z6,reduceCtorEq,↓reduceIte,Zb,ZgN,e1,hF]
 have:=key _ rfl
 refine⟨_,P,?_,hP,this⟩
 cases ZjQ m q
 ·exact Xt rfl
 ·exact Xq rfl
theorem ZNr{tm:Tms}(ht:TN 87 tm):RStep Zsh tm s q (ZbP s).2 { q with keep:=(ZbP s).1 } T0:=by
 intro P hP
 have hT:=fun(G:Za) sq hs=>Zy4 s hl G 0 sq hs
 generalize ZbP s=T at *
 have a1:=hP.len
 have a3:=ZbT hP 13 14 (by omega) rfl (.int .i64 T.1)
 refine⟨t10,_,rfl,hP.set (k:=13) (v:=.int .i64 T.1) (by omega) rfl (fun _=>rfl) rfl rfl,?_⟩
 unfold hr
 rcases ht with rfl |rfl<;>(try unfold tX)<;>unfold t10<;>simp -implicitDefEqProofs only[EQA,Zs,ZE,Zc,Xd,Xc,Xf,Xa,reduceCtorEq,↓reduceIte,Zb,Zsh,hT,a1,a3]
theorem ZRA{tm:Tms}(ht:T0 tm):RStep Zq6 tm s q (Zaa 1 s).2 { q with props:=(Zaa 1 s).1 } T0:=by
 intro P hP
 subst ht
 have hT:=fun(G:Za) sq hs=>ZfX s hl 1 (Zcs 1 s.1) G 0 sq hs
 generalize Zaa 1 s=T at *
 have a1:=hP.len
 have a3:=ZbT hP 9 10 (by omega) rfl (.lst false (T.1.map Zu))
 refine⟨t10,_,rfl,hP.set (k:=9) (v:=.lst false (T.1.map Zu)) (by omega) rfl (fun _=>rfl) rfl rfl,?_⟩
 unfold hr t10
 simp -implicitDefEqProofs only[EQA,Zs,ZE,Zc,Xd,Xc,Xf,Xa,reduceCtorEq,↓reduceIte,Zb,Zq6,hT,a1,a3]
theorem ZQZ{tm:Tms}(ht:T0 tm):RStep Zsg tm s q (ZA s).2 { q with client:=(ZA s).1 } T0:=by
 intro P hP
 subst ht
 have hT:=fun(G:Za) sq hs=>Zgx s hl G 0 sq hs
 generalize ZA s=T at *
 have a1:=hP.len
 have a3:=ZbT hP 14 15 (by omega) rfl (.str T.1)
 refine⟨t10,_,rfl,hP.set (k:=14) (v:=.str T.1) (by omega) rfl (fun _=>rfl) rfl rfl,?_⟩
 unfold hr t10
 simp -implicitDefEqProofs only[EQA,Zs,ZE,Zc,Xd,Xc,Xf,Xa,reduceCtorEq,↓reduceIte,Zb,Zsg,hT,a1,a3]
end
theorem ZeV(s:RS):(ZA s).2.1.length<=s.1.length:=by
 unfold ZA;grind
theorem ZT4(s:RS):(Zcz s).2.1.length<=s.1.length:=by
 unfold Zcz;grind
theorem Zgh(w:Int)(s:RS):(Zaa w s).2.1.length<=s.1.length:=by
 unfold Zaa;grind
theorem Zjo(s:RS)(hl:s.1.length<=140737488355328):(Z2 s).2.1.length<=s.1.length:=Zw0 s hl 1
theorem Zy8(s:RS)(hl:s.1.length<=140737488355328):(ZbP s).2.1.length<=s.1.length:=Zw0 s hl 2
theorem ZdS(c:Int)(s:RS):(Zav c s).1.length<=s.1.length:=by unfold Zav;split<;>simp
theorem ZhV(s:RS)(hl:s.1.length<=140737488355328):(idR s).2.1.length<=s.1.length:=by
 have:=Zy8 s hl
 unfold idR;simp only
 split
 ·exact Ww (ZdS _ _) this
 grind
theorem Zqi(k:Int)(s:RS)(hl:s.1.length<=140737488355328):(Zal k s).2.1.length<=s.1.length:=by
 have:=Zjo s hl
 unfold Zal;simp only
 split
 ·exact this
 ·exact Ww (ZdS _ _) this
def ZcX(q:Zx)(s:RS):Zx×RS:=if q.hasWill=true then({ q with will:={ q.will with props:=(Zaa 16 s).1,topic:=(ZA (Zaa 16 s).2).1,data:=(Zcz (ZA (Zaa 16 s).2).2).1 } },(Zcz (ZA (Zaa 16 s).2).2).2)else(q,s)
def Zdv(q:Zx)(s:RS):Zx×RS:=if q.hasUser=true then({ q with user:=(ZA s).1 },(ZA s).2)else(q,s)
def Zhx(q:Zx)(s:RS):Zx×RS:=if q.hasPassword=true then({ q with password:=(Zcz s).1 },(Zcz s).2)else(q,s)
section
variable (s:RS)(hl:s.1.length<=140737488355328)(q:Zx)
include hl
theorem ZAO{tm:Tms}(ht:T0 tm):RStep Zok tm s q (ZcX q s).2 (ZcX q s).1 (TN 108):=by
 intro P hP
 subst ht
 have a4:=hP.bool (k:=15) (b:=q.hasWill) rfl
 unfold ZcX
 by_cases hw:q.hasWill=true
 case neg =>
  rw[Wm _ |>.mp hw]at a4
  rw[if_neg hw]
  refine⟨tX 108,P,Xt rfl,hP,?_⟩
  unfold hr t10 tX t10
  simp -implicitDefEqProofs only[EQA,Zc,Xd,Xc,Xa,reduceCtorEq,↓reduceIte,Zb,Zok,a4]
 case pos =>
  rw[hw]at a4
  rw[if_pos hw]
  have l1:=Zgh 16 s
  have l2:=ZeV (Zaa 16 s).2
  have h1:=fun(G:Za) sq hs=>ZfX s hl 16 (Zcs 16 s.1) G 0 sq hs
  have h2:=fun(G:Za) sq hs=>Zgx (Zaa 16 s).2 (by omega) G 0 sq hs
  have h3:=fun(G:Za) sq hs=>Zwy (ZA (Zaa 16 s).2).2 (by omega) G 0 sq hs
  generalize Zcz (ZA (Zaa 16 s).2).2=D at *
  generalize ZA (Zaa 16 s).2=X at *
  generalize Zaa 16 s=Y at *
  have a1:=hP.len
  have a3:=ZbT hP 20 21 (by omega) rfl (.lst false (Y.1.map Zu))
  have hP1:=hP.set (k:=20) (q':={ q with will:={ q.will with props:=Y.1 } }) (v:=.lst false (Y.1.map Zu)) (by omega) rfl (fun _=>rfl) rfl rfl
  generalize P.set 20 (.lst false (Y.1.map Zu))=P1 at *
  have b1:=hP1.len
  have b3:=ZbT hP1 16 17 (by omega) rfl (.str X.1)
  have hP2:=hP1.set (k:=16) (q':={ q with will:={ q.will with props:=Y.1,topic:=X.1 } }) (v:=.str X.1) (by omega) rfl (fun _=>rfl) rfl rfl
  generalize P1.set 16 (.str X.1)=P2 at *
  have c1:=hP2.len
  have c3:=ZbT hP2 17 18 (by omega) rfl (.lst false (D.1.map Zh))
  refine⟨t10,_,Xq rfl,hP2.set (k:=17) (v:=.lst false (D.1.map Zh)) (by omega) rfl (fun _=>rfl) rfl rfl,?_⟩
  unfold hr t10
  simp -implicitDefEqProofs only[EQA,Zs,ZE,Zc,Xd,Xc,Xf,Xa,reduceCtorEq,↓reduceIte,Zb,Zok,a4,h1,h2,h3,a1,a3,b1,b3,c1,c3]
theorem ZGa{tm:Tms}(ht:TN 108 tm):RStep ZnA tm s q (Zdv q s).2 (Zdv q s).1 (TN 130):=by
 intro P hP
 have a4:=hP.bool (k:=21) (b:=q.hasUser) rfl
 unfold Zdv
 by_cases hw:q.hasUser=true
 case neg =>
  rw[Wm _ |>.mp hw]at a4
  rw[if_neg hw]
  refine⟨tX 130,P,Xt rfl,hP,?_⟩
  unfold hr
  rcases ht with rfl |rfl<;>unfold tX t10<;>simp -implicitDefEqProofs only[EQA,Zc,Xd,Xc,Xa,reduceCtorEq,↓reduceIte,Zb,ZnA,a4]<;>rfl
 case pos =>
  rw[hw]at a4
  rw[if_pos hw]
  have h2:=fun(G:Za) sq hs=>Zgx s hl G 0 sq hs
  generalize ZA s=X at *
  have a1:=hP.len
  have a3:=ZbT hP 22 23 (by omega) rfl (.str X.1)
  refine⟨t10,_,Xq rfl,hP.set (k:=22) (v:=.str X.1) (by omega) rfl (fun _=>rfl) rfl rfl,?_⟩
  unfold hr
  rcases ht with rfl |rfl<;>(try unfold tX)<;>unfold t10<;>simp -implicitDefEqProofs only[EQA,Zs,ZE,Zc,Xd,Xc,Xf,Xa,reduceCtorEq,↓reduceIte,Zb,ZnA,a4,h2,a1,a3]
theorem ZBj{tm:Tms}(ht:TN 130 tm):RStep (.seq Zl3 Zol) tm s q (Zhx q s).2 (Zhx q s).1 Zma:=by
 intro P hP
 have a4:=hP.bool (k:=23) (b:=q.hasPassword) rfl
 unfold Zhx
 by_cases hw:q.hasPassword=true
 case neg =>
  rw[Wm _ |>.mp hw]at a4
  rw[if_neg hw]
  refine⟨tX 139,P,trivial,hP,?_⟩
  unfold hr
  rcases ht with rfl |rfl<;>unfold tX t10<;>simp -implicitDefEqProofs only[EQA,Zc,Xd,Xc,Xa,reduceCtorEq,↓reduceIte,Zb,Zl3,Zol,a4]<;>rfl
 case pos =>
  rw[hw]at a4
  rw[if_pos hw]
  have h2:=fun(G:Za) sq hs=>Zwy s hl G 0 sq hs
  generalize Zcz s=X at *
  have a1:=hP.len
  have a3:=ZbT hP 24 25 (by omega) rfl (.lst false (X.1.map Zh))
  refine⟨[],_,trivial,hP.set (k:=24) (v:=.lst false (X.1.map Zh)) (by omega) rfl (fun _=>rfl) rfl rfl,?_⟩
  unfold hr
  rcases ht with rfl |rfl<;>(try unfold tX)<;>unfold t10<;>simp -implicitDefEqProofs only[EQA,Zs,ZE,Zc,Xd,Xc,Xf,Xa,reduceCtorEq,↓reduceIte,Zb,Zl3,Zol,a4,h2,a1,a3]
end
def Zhr(q:Zx)(m:Int):Zx:={ q with clean:=Zk m 2 != 0,hasWill:=Zk m 4 != 0,hasPassword:=Zk m 64 != 0,hasUser:=Zk m 128 != 0,will:={ q.will with qos:=Zk (ZaL m 3) 3,retain:=Zk m 32 != 0 } }
def ZdX(s:RS):RS:=if(ZA s).1=[77,81,84,84]then(ZA s).2 else Zav 132 (ZA s).2
def Zdy(s:RS):RS:=if(Z2 s).1=5 then(Z2 s).2 else Zav 132 (Z2 s).2
def Zhp(m:Int)(q:Zx)(s:RS):RS:=if ZjQ m q=true then Zav 129 s else s
def ZiP(q:Zx)(s:RS):Zx×RS:=Zhx (Zdv (ZcX q s).1 (ZcX q s).2).1 (Zdv (ZcX q s).1 (ZcX q s).2).2
def Zjs(q:Zx)(s:RS):Zx×RS:=ZiP { q with keep:=(ZbP s).1,props:=(Zaa 1 (ZbP s).2).1,client:=(ZA (Zaa 1 (ZbP s).2).2).1 } (ZA (Zaa 1 (ZbP s).2).2).2
def ZfV(q:Zx)(s:RS):Zx×RS:=Zjs (Zhr q (Z2 (Zdy (ZdX s))).1) (Zhp (Z2 (Zdy (ZdX s))).1 (Zhr q (Z2 (Zdy (ZdX s))).1) (Z2 (Zdy (ZdX s))).2)
theorem ZPw(s:RS):(ZdX s).1.length<=s.1.length:=by
 have:=ZeV s
 unfold ZdX;split
 ·exact this
 ·exact Ww (ZdS _ _) this
theorem ZRr(s:RS)(hl:s.1.length<=140737488355328):(Zdy s).1.length<=s.1.length:=by
 have:=Zjo s hl
 unfold Zdy;split
 ·exact this
 ·exact Ww (ZdS _ _) this
theorem ZSW(m:Int)(q:Zx)(s:RS):(Zhp m q s).1.length<=s.1.length:=by
 unfold Zhp;split
 ·exact ZdS _ _
 grind
theorem ZMN(q:Zx)(s:RS):(ZcX q s).2.1.length<=s.1.length:=by
 unfold ZcX;split
 ·exact Ww (ZT4 _) (Ww (ZeV _) (Zgh _ _))
 grind
theorem ZJA(q:Zx)(s:RS):(Zdv q s).2.1.length<=s.1.length:=by
 unfold Zdv;split
 ·exact ZeV _
 grind
theorem Zen{s:RS}{P:List AVal}(hn:Ze P=true)(B:Za):ZR 2 (.var (rs s)::.var P::B) (.tup [])=some (.tup [],hr s P):=by
 have e1:=fun C=>Z5 C (rs s) (ZbA s)
 have e2:=fun C=>Z5 C P hn
 have hi:Zw 2 [AVal.tup []] (.var (rs s)::.var P::B)=[0,1]:=by
  have hR:X5 2=[0,1]:=rfl
  have : Zl [AVal.tup []]=[]:=rfl
  simp only[Zw,this,hR,XB,XQ,Xr,Xm,Xs,ZB,(e1 (fun _ _=>none)).2,(e2 (fun _ _=>none)).2]
  rfl
 simp only[ZR,gcA,hi,Zj,Zp,Zo,Xm,Xs,Zz,(e1 _).1,(e2 _).1,hr]
theorem RStep.fn{f:Nat}{fn:ZM}(hp:PR f=none)(hf:FC f=some fn)(hr':fn.res=[]){s s':RS}{q q':Zx}{T:Tms->Prop}(h:RStep fn.body t10 s q s' q' T){P:List AVal}(hP:RP P q):∃ P',RP P' q'/\E f [.ref 0 0,.ref 1 0] (hr s P)=some (.tup [],hr s' P'):=by
 obtain⟨tm',P',h1,h2,h3⟩:=h P hP
 refine⟨P',h2,?_⟩
 rw[Zg hp hf]
 show Zax 2 fn (evC FC PR BY 2 fn.body t10 (hr s P))=_
 rw[h3]
 simp only[Zax,hr',resA,resAll]
 exact Zen h2.nor []
theorem ZUu(s:RS)(hl:s.1.length<=140737488355328)(q:Zx){P:List AVal}(hP:RP P q):∃ P',RP P' (ZfV q s).1/\E 65 [.ref 0 0,.ref 1 0] (hr s P)=some (.tup [],hr (ZfV q s).2 P'):=by
 refine RStep.fn (fn:=Zx6) (by rfl) ZJy rfl (T:=Zma) ?_ hP
 show RStep ZqV t10 s q _ _ _
 rw[ZRT]
 unfold ZfV Zjs ZiP
 refine(ZCw s hl q).seq fun tm ht=>?_
 have l1:=ZPw s
 show RStep _ _ (ZdX s) _ _ _ _
 generalize ZdX s=s1 at *
 refine(ZLP s1 (by omega) q ht).seq fun tm ht=>?_
 have l2:=ZRr s1 (by omega)
 show RStep _ _ (Zdy s1) _ _ _ _
 generalize Zdy s1=s2 at *
 refine(ZED s2 (by omega) q ht).seq fun tm ht=>?_
 have l3:=Zjo s2 (by omega)
 generalize Z2 s2=o at *
 obtain⟨m,s3⟩:=o
 simp only at l3 ⊢
 subst ht
 refine(ZMp s3 (by omega) q m).seq fun tm ht=>?_
 subst ht
 refine(ZB7 s3 (by omega) _ m).seq fun tm ht=>?_
 subst ht
 refine(ZIB s3 (by omega) _ m).seq fun tm ht=>?_
 subst ht
 refine(ZDY s3 (by omega) _ m).seq fun tm ht=>?_
 subst ht
 refine(ZLs s3 (by omega) _ m).seq fun tm ht=>?_
 subst ht
 refine(ZDm s3 (by omega) _ m).seq fun tm ht=>?_
 subst ht
 show RStep _ _ s3 (Zhr q m) _ _ _
 generalize Zhr q m=q1 at *
 refine(ZNw s3 (by omega) q1 m).seq fun tm ht=>?_
 have l4:=ZSW m q1 s3
 show RStep _ _ (Zhp m q1 s3) _ _ _ _
 generalize Zhp m q1 s3=s4 at *
 refine(ZNr s4 (by omega) q1 ht).seq fun tm ht=>?_
 have l5:=Zy8 s4 (by omega)
 generalize ZbP s4=w at *
 refine(ZRA w.2 (by omega) _ ht).seq fun tm ht=>?_
 have l6:=Zgh 1 w.2
 generalize Zaa 1 w.2=y at *
 refine(ZQZ y.2 (by omega) _ ht).seq fun tm ht=>?_
 have l7:=ZeV y.2
 generalize ZA y.2=x at *
 show RStep _ _ x.2 { q1 with keep:=w.1,props:=y.1,client:=x.1 } _ _ _
 generalize ({ q1 with keep:=w.1,props:=y.1,client:=x.1 }:Zx)=q2 at *
 refine(ZAO x.2 (by omega) q2 ht).seq fun tm ht=>?_
 have l8:=ZMN q2 x.2
 generalize ZcX q2 x.2=W at *
 refine(ZGa W.2 (by omega) W.1 ht).seq fun tm ht=>?_
 have l9:=ZJA W.1 W.2
 generalize Zdv W.1 W.2=U at *
 exact ZBj U.2 (by omega) U.1 ht
end
section
def ZbB(s:RS):Bool:=(s.2==0)&&decide (s.1.length>0)
def ZdU(q:Zx)(s:RS):Zx×RS:=if ZbB s=true then({ q with code:=(Zal q.type s).1 },(Zal q.type s).2)else(q,s)
def ZfI(q:Zx)(s:RS):Zx×RS:=if ZbB s=true then({ q with props:=(Zaa q.type s).1 },(Zaa q.type s).2)else(q,s)
def Zdh(q:Zx)(s:RS):Zx×RS:=ZfI (ZdU q s).1 (ZdU q s).2
theorem ZHq(q:Zx)(s:RS)(hl:s.1.length<=140737488355328):(ZdU q s).2.1.length<=s.1.length:=by
 unfold ZdU;split
 ·exact Zqi _ _ hl
 grind
theorem ZfL(s:RS):(ZbB s=true/\(s.2==0)=true/\((s.1.length:Int)>0))\/(ZbB s=false/\(s.2==0)=false)\/(ZbB s=false/\(s.2==0)=true/\¬((s.1.length:Int)>0)):=by
 unfold ZbB
 grind
def rt1:Zf:=by apply Zb 71 [0] [];conv=>lhs;reduce;dsimp only[zi]
def rt2:Zf:=by apply Zb 71 [1,0] [];conv=>lhs;reduce;dsimp only[zi]
def rt3:Zf:=by apply Zb 71 [1,1] [];conv=>lhs;reduce;dsimp only[zi]
theorem ZPx:ZtX=(.seq rt1 (.seq rt2 rt3)):=rfl
section
variable (s:RS)(hl:s.1.length<=140737488355328)(q:Zx)
include hl
theorem ZBC:RStep rt1 t10 s q (ZdU q s).2 (ZdU q s).1 (TN 16):=by
 intro P hP
 have a0:=hP.int (k:=0) (n:=q.type) rfl
 unfold ZdU
 rcases ZfL s with⟨h,h0,h1⟩ |⟨h,h0⟩ |⟨h,h0,h1⟩
 ·rw[if_pos h]
  have hT:=fun(G:Za) sq hs=>Zov s hl q.type G 0 sq hs
  generalize Zal q.type s=X at *
  have a1:=hP.len
  have a3:=ZbT hP 7 8 (by omega) rfl (.int .i64 X.1)
  refine⟨t10,_,Xq rfl,hP.set (k:=7) (v:=.int .i64 X.1) (by omega) rfl (fun _=>rfl) rfl rfl,?_⟩
  unfold hr t10
  unfold rs at hT ⊢
  simp -implicitDefEqProofs only[EQA,Zs,ZE,Zc,Xd,Xc,Xf,Xa,Zy,unG,reduceCtorEq,↓reduceIte,Zb,rt1,h0,h1,a0,hT,a1,a3]
 ·rw[if_neg (by simp[h])]
  refine⟨tX 16,P,Xt rfl,hP,?_⟩
  unfold hr tX t10 rs
  simp -implicitDefEqProofs only[EQA,Zc,Xd,Xc,Xa,Zy,Z6,reduceCtorEq,↓reduceIte,Zb,rt1,h0]
 ·rw[if_neg (by simp[h])]
  refine⟨tX 16,P,Xt rfl,hP,?_⟩
  unfold hr tX t10 rs
  simp -implicitDefEqProofs only[EQA,Zc,Xd,Xc,Xa,Zy,unG,reduceCtorEq,↓reduceIte,Zb,rt1,h0,h1]
theorem ZI6{tm:Tms}(ht:TN 16 tm):RStep (.seq rt2 rt3) tm s q (ZfI q s).2 (ZfI q s).1 Zma:=by
 intro P hP
 have a0:=hP.int (k:=0) (n:=q.type) rfl
 unfold ZfI
 rcases ZfL s with⟨h,h0,h1⟩ |⟨h,h0⟩ |⟨h,h0,h1⟩
 ·rw[if_pos h]
  have hT:=fun(G:Za) sq hs=>ZfX s hl q.type (Zcs q.type s.1) G 0 sq hs
  generalize Zaa q.type s=X at *
  have a1:=hP.len
  have a3:=ZbT hP 9 10 (by omega) rfl (.lst false (X.1.map Zu))
  refine⟨[],_,trivial,hP.set (k:=9) (v:=.lst false (X.1.map Zu)) (by omega) rfl (fun _=>rfl) rfl rfl,?_⟩
  unfold hr
  unfold rs at hT ⊢
  rcases ht with rfl |rfl<;>(try unfold tX)<;>unfold t10<;>simp -implicitDefEqProofs only[EQA,Zs,ZE,Zc,Xd,Xc,Xf,Xa,Zy,unG,reduceCtorEq,↓reduceIte,Zb,rt2,rt3,h0,h1,a0,hT,a1,a3]
 ·rw[if_neg (by simp[h])]
  refine⟨tX 38,P,trivial,hP,?_⟩
  unfold hr rs
  rcases ht with rfl |rfl<;>unfold tX t10<;>simp -implicitDefEqProofs only[EQA,Zc,Xd,Xc,Xa,Zy,Z6,reduceCtorEq,↓reduceIte,Zb,rt2,rt3,h0]
 ·rw[if_neg (by simp[h])]
  refine⟨tX 38,P,trivial,hP,?_⟩
  unfold hr rs
  rcases ht with rfl |rfl<;>unfold tX t10<;>simp -implicitDefEqProofs only[EQA,Zc,Xd,Xc,Xa,Zy,unG,reduceCtorEq,↓reduceIte,Zb,rt2,rt3,h0,h1]
end
theorem Zxw(s:RS)(hl:s.1.length<=140737488355328)(q:Zx){P:List AVal}(hP:RP P q):∃ P',RP P' (Zdh q s).1/\E 71 [.ref 0 0,.ref 1 0] (hr s P)=some (.tup [],hr (Zdh q s).2 P'):=by
 refine RStep.fn (fn:=Zxa) (by rfl) ZLJ rfl (T:=Zma) ?_ hP
 show RStep ZtX t10 s q _ _ _
 rw[ZPx]
 unfold Zdh
 refine(ZBC s hl q).seq fun tm ht=>?_
 have l1:=ZHq q s hl
 generalize ZdU q s=X at *
 exact ZI6 X.2 (by omega) X.1 ht
theorem Ziv{O:ZS}{bf:Nat->Bool}{f own sq:Nat}{s s':RS}{P P':List AVal}{B:Za}(hb:bf f=false)(hn:Ze P=true)(hn':Ze P'=true)(hff:Zaj (.var (rs s)::.var P::B) sq own=true)
  (h:O f [.ref 0 0,.ref 1 0] (hr s P)=some (.tup [],hr s' P')):Zq O bf (.var (rs s)::.var P::B) sq f own true [.ref 0 0,.ref 1 0]=some (.tup [],.var (rs s')::.var P'::B,{ any:=true,upd:=[(0,rs s'),(1,P')] }):=by
 have e1:=fun C s=>Z5 C (rs s) (ZbA s)
 have e2:=fun C=>Z5 C P hn
 have e3:=fun C=>Z5 C P' hn'
 have hask:ZV true 2 (some (.tup [],hr s' P'))=some (.tup [],hr s' P'):=by
  have:=Zen (s:=s') hn' []
  unfold ZV
  rw[if_pos rfl]
  exact this
 have hre:Zt (.var (rs s)::.var P::B) 1000 (Zl [.ref 0 0,.ref 1 0]) []=[0,1]:=by
  simp only[Zl,ZH,Xr,XJ,Xp]
  rw[show(1000:Nat)=997+1+1+1 from rfl,Zt]
  simp only[Wh,Xi,if_false,Xm,ZB,(e1 (fun _ _=>none) s).2,Xp]
  rw[Zt]
  have : ([0]:List Nat).contains 1=false:=rfl
  simp only[this,Xi,if_false,Xs,Xm,ZB,(e2 (fun _ _=>none)).2,Xr]
  rfl
 refine Zcf (vs:=[.ref 0 0,.ref 1 0]) (ids:=[0,1]) hb rfl hre rfl rfl rfl ?_ h hask (by simp[hr]) (by simp[hr]) rfl hff rfl ?_ rfl rfl
 ·simp only[Zo,Xm,Xs,Zz,(e1 _ _).1,(e2 _).1,hr]
 ·simp only[hr,ZaQ,ZaA,Xm,Xs,Zz,(e1 _ _).1,(e3 _).1]
  rfl
end
section
def Zde(s:RS):RS:=if(Z2 s).1>1 then Zav 129 (Z2 s).2 else(Z2 s).2
def ZiK(q:Zx)(s:RS):Zx×RS:=({ q with present:=(Z2 s).1==1,code:=(Zal 2 (Zde s)).1,props:=(Zaa 2 (Zal 2 (Zde s)).2).1 },(Zaa 2 (Zal 2 (Zde s)).2).2)
theorem ZFi(s:RS)(hl:s.1.length<=140737488355328):(Zde s).1.length<=s.1.length:=by
 have:=Zjo s hl
 unfold Zde;split
 ·exact Ww (ZdS _ _) this
 grind
def ZiS(q:Zx)(s:RS):Zx×RS:=Zdh { q with id:=(idR s).1 } (idR s).2
theorem ZgB{R:List AVal}{xs:List AVal}{w:Nat}{L c:AVal}{B:Za}(hrf:Zl R=[2])(hren:∀ C:Rho,C 2 0=some (2,0)->Zj C R=R)(hL:ZQ L=true:=by rfl)(hc:ZQ c=true:=by rfl):ZR 2 (.var [L,c]::.var R::.row 0 w xs::B) (.tup [])=some (.tup [],[.var [L,c],.var R,.row 0 w xs]):=by
 have e1:=fun C=>Z5 C [L,c] (by simp only[Ze,hL,hc];rfl)
 have hi:Zw 2 [AVal.tup []] (.var [L,c]::.var R::.row 0 w xs::B)=[0,1,2]:=by
  have hR:X5 2=[0,1]:=rfl
  have : Zl [AVal.tup []]=[]:=rfl
  simp only[Zw,this,hR,XB,XQ,Xr,Xp,Xm,Xs,ZB,(e1 (fun _ _=>none)).2,hrf]
  rfl
 have hC:Zn (.var [L,c]::.var R::.row 0 w xs::B) 2 [0,1,2] 2 0=some (2,0):=rfl
 simp only[ZR,gcA,hi,Zj,Zp,Zo,Xm,Xs,ZD,Zm,Zz,hren _ hC]
 have:=(e1 (Zn (.var [L,c]::.var R::.row 0 w xs::B) 2 [0,1,2])).1
 simp only[Zj]at this
 grind
section
variable (s:RS)(hl:s.1.length<=140737488355328)(q:Zx){P:List AVal}(hP:RP P q)
include hl hP
theorem ZGb(ht:q.type=1):∃ P',RP P' (ZfV q s).1/\E 27 [.ref 0 0,.ref 1 0] (hr s P)=some (.tup [],hr (ZfV q s).2 P'):=by
 obtain⟨P',h1,h2⟩:=ZUu s hl q hP
 refine⟨P',h1,?_⟩
 have a0:=hP.int (k:=0) (n:=1) (by rw[<-ht];rfl)
 have hG:=fun sq (B:Za)=>Ziv (O:=E) (bf:=BY) (f:=65) (own:=0) (sq:=sq) (B:=B) (by kernel_rfl) hP.nor h1.nor rfl h2
 have hO:=fun B=>Zen (s:=(ZfV q s).2) h1.nor B
 generalize ZfV q s=X at *
 rw[Zg (by rfl) Zdf]
 unfold hr at *
 simp -implicitDefEqProofs only[EQA,Zc,Xd,Xc,Xa,reduceCtorEq,↓reduceIte,Zdd,ZcL,Zdn,Zb,a0,hG,hO]
theorem Zzw(ht:q.type=14\/q.type=15):∃ P',RP P' (Zdh q s).1/\E 27 [.ref 0 0,.ref 1 0] (hr s P)=some (.tup [],hr (Zdh q s).2 P'):=by
 obtain⟨P',h1,h2⟩:=Zxw s hl q hP
 refine⟨P',h1,?_⟩
 have hG:=fun sq (B:Za)=>Ziv (O:=E) (bf:=BY) (f:=71) (own:=0) (sq:=sq) (B:=B) (by kernel_rfl) hP.nor h1.nor rfl h2
 have hO:=fun B=>Zen (s:=(Zdh q s).2) h1.nor B
 generalize Zdh q s=X at *
 rcases ht with ht |ht
 ·have a0:=hP.int (k:=0) (n:=14) (by rw[<-ht];rfl)
  rw[Zg (by rfl) Zdf]
  unfold hr at *
  simp -implicitDefEqProofs only[EQA,Zc,Xd,Xc,Xa,reduceCtorEq,↓reduceIte,Zdd,ZcL,Zdn,Zb,a0,hG,Xj,hO]
 ·have a0:=hP.int (k:=0) (n:=15) (by rw[<-ht];rfl)
  rw[Zg (by rfl) Zdf]
  unfold hr at *
  simp -implicitDefEqProofs only[EQA,Zc,Xd,Xc,Xa,reduceCtorEq,↓reduceIte,Zdd,ZcL,Zdn,Zb,a0,hG,Xj,hO]
theorem Zyq(ht:q.type=12\/q.type=13):E 27 [.ref 0 0,.ref 1 0] (hr s P)=some (.tup [],hr s P):=by
 have hO:=fun B=>Zen (s:=s) hP.nor B
 rcases ht with ht |ht
 ·have a0:=hP.int (k:=0) (n:=12) (by rw[<-ht];rfl)
  rw[Zg (by rfl) Zdf]
  unfold hr at *
  simp -implicitDefEqProofs only[EQA,Zc,Xd,Xc,Xa,reduceCtorEq,↓reduceIte,Zdd,ZcL,Zdn,Zb,a0,Xj,hO]
 ·have a0:=hP.int (k:=0) (n:=13) (by rw[<-ht];rfl)
  rw[Zg (by rfl) Zdf]
  unfold hr at *
  simp -implicitDefEqProofs only[EQA,Zc,Xd,Xc,Xa,reduceCtorEq,↓reduceIte,Zdd,ZcL,Zdn,Zb,a0,Xj,hO]
theorem ZmZ(ht:q.type=4\/q.type=5\/q.type=6\/q.type=7):∃ P',RP P' (ZiS q s).1/\E 27 [.ref 0 0,.ref 1 0] (hr s P)=some (.tup [],hr (ZiS q s).2 P'):=by
 have hI:=fun(G:Za) sq hs=>ZiW s hl G 0 sq hs
 have l1:=ZhV s hl
 unfold ZiS
 generalize idR s=I at *
 have hP1:=hP.set (k:=4) (q':={ q with id:=I.1 }) (v:=.int .i64 I.1) (by omega) rfl (fun _=>rfl) rfl rfl
 have a1:=hP.len
 have a3:=ZbT hP 4 5 (by omega) rfl (.int .i64 I.1)
 generalize P.set 4 (.int .i64 I.1)=P1 at *
 obtain⟨P',h1,h2⟩:=Zxw I.2 (by omega) _ hP1
 refine⟨P',h1,?_⟩
 have hG:=fun sq (B:Za)=>Ziv (O:=E) (bf:=BY) (f:=71) (own:=0) (sq:=sq) (B:=B) (by kernel_rfl) hP1.nor h1.nor rfl h2
 have hO:=fun B=>Zen (s:=(Zdh { q with id:=I.1 } I.2).2) h1.nor B
 generalize Zdh { q with id:=I.1 } I.2=X at *
 unfold hr at *
 rcases ht with ht |ht |ht |ht
 ·have a0:=hP.int (k:=0) (n:=4) (by rw[<-ht];rfl)
  rw[Zg (by rfl) Zdf]
  simp -implicitDefEqProofs only[EQA,Zs,ZE,Zc,Xd,Xc,Xf,Xa,reduceCtorEq,↓reduceIte,Zdd,ZcL,Zdn,Zb,a0,a1,a3,hI,hG,Xj,hO]
 ·have a0:=hP.int (k:=0) (n:=5) (by rw[<-ht];rfl)
  rw[Zg (by rfl) Zdf]
  simp -implicitDefEqProofs only[EQA,Zs,ZE,Zc,Xd,Xc,Xf,Xa,reduceCtorEq,↓reduceIte,Zdd,ZcL,Zdn,Zb,a0,a1,a3,hI,hG,Xj,hO]
 ·have a0:=hP.int (k:=0) (n:=6) (by rw[<-ht];rfl)
  rw[Zg (by rfl) Zdf]
  simp -implicitDefEqProofs only[EQA,Zs,ZE,Zc,Xd,Xc,Xf,Xa,reduceCtorEq,↓reduceIte,Zdd,ZcL,Zdn,Zb,a0,a1,a3,hI,hG,Xj,hO]
 ·have a0:=hP.int (k:=0) (n:=7) (by rw[<-ht];rfl)
  rw[Zg (by rfl) Zdf]
  simp -implicitDefEqProofs only[EQA,Zs,ZE,Zc,Xd,Xc,Xf,Xa,reduceCtorEq,↓reduceIte,Zdd,ZcL,Zdn,Zb,a0,a1,a3,hI,hG,Xj,hO]
theorem ZQT(ht:q.type=2):∃ P',RP P' (ZiK q s).1/\E 27 [.ref 0 0,.ref 1 0] (hr s P)=some (.tup [],hr (ZiK q s).2 P'):=by
 have a0:=hP.int (k:=0) (n:=2) (by rw[<-ht];rfl)
 have h1:=fun(G:Za) sq hs=>ZiU s hl G 0 sq hs
 have hF:=fun(G:Za) sq hs=>Zdj (Z2 s).2 129 G 0 sq hs
 have l1:=ZFi s hl
 have l2:=Zqi 2 (Zde s) (by omega)
 have h2:=fun(G:Za) sq hs=>Zov (Zde s) (by omega) 2 G 0 sq hs
 have h3:=fun(G:Za) sq hs=>ZfX (Zal 2 (Zde s)).2 (by omega) 2 (Zcs 2 _) G 0 sq hs
 unfold ZiK
 have hA:Zde s=if(Z2 s).1>1 then Zav 129 (Z2 s).2 else(Z2 s).2:=rfl
 generalize Zaa 2 (Zal 2 (Zde s)).2=Y at *
 generalize Zal 2 (Zde s)=X at *
 generalize Z2 s=O at *
 have a1:=hP.len
 have a3:=ZbT hP 25 26 (by omega) rfl (.bool (O.1==1))
 have hP1:=hP.set (k:=25) (q':={ q with present:=O.1==1 }) (v:=.bool (O.1==1)) (by omega) rfl (fun _=>rfl) rfl rfl
 generalize P.set 25 (.bool (O.1==1))=P1 at *
 have b1:=hP1.len
 have b3:=ZbT hP1 7 8 (by omega) rfl (.int .i64 X.1)
 have hP2:=hP1.set (k:=7) (q':={ q with present:=O.1==1,code:=X.1 }) (v:=.int .i64 X.1) (by omega) rfl (fun _=>rfl) rfl rfl
 generalize P1.set 7 (.int .i64 X.1)=P2 at *
 have c1:=hP2.len
 have c3:=ZbT hP2 9 10 (by omega) rfl (.lst false (Y.1.map Zu))
 have hP3:=hP2.set (k:=9) (q':={ q with present:=O.1==1,code:=X.1,props:=Y.1 }) (v:=.lst false (Y.1.map Zu)) (by omega) rfl (fun _=>rfl) rfl rfl
 generalize P2.set 9 (.lst false (Y.1.map Zu))=P3 at *
 refine⟨P3,hP3,?_⟩
 have hO:=fun B=>Zen (s:=Y.2) hP3.nor B
 unfold hr at *
 by_cases hb:O.1>1
 ·rw[if_pos hb]at hA
  rw[hA]at h2
  rw[Zg (by rfl) Zdf]
  simp -implicitDefEqProofs only[EQA,Zs,ZE,Zc,Xd,Xc,Xf,Xa,reduceCtorEq,↓reduceIte,Zdd,ZcL,Zdn,Zb,a0,h1,hb,hF,h2,h3,a1,a3,b1,b3,c1,c3,Xj,hO]
 ·rw[if_neg hb]at hA
  rw[hA]at h2
  rw[Zg (by rfl) Zdf]
  simp -implicitDefEqProofs only[EQA,Zs,ZE,Zc,Xd,Xc,Xf,Xa,reduceCtorEq,↓reduceIte,Zdd,ZcL,Zdn,Zb,a0,h1,hb,h2,h3,a1,a3,b1,b3,c1,c3,Xj,hO]
def ZcY(q:Zx)(s:RS):Zx×RS:=if q.qos>0 then({ q with topic:=(ZA s).1,id:=(idR (ZA s).2).1,props:=(Zaa 3 (idR (ZA s).2).2).1 },(Zaa 3 (idR (ZA s).2).2).2)
 else({ q with topic:=(ZA s).1,props:=(Zaa 3 (ZA s).2).1 },(Zaa 3 (ZA s).2).2)
theorem ZOn:(ZcY q s).2.1.length<=s.1.length:=by
 have l1:=ZeV s
 unfold ZcY;split
 ·have l2:=ZhV (ZA s).2 (by omega)
  have l3:=Zgh 3 (idR (ZA s).2).2
  simp only;omega
 ·have l3:=Zgh 3 (ZA s).2
  simp only;omega
theorem ZTn(ht:q.type=3):∃ P',RP P' (ZcY q s).1/\E 27 [.ref 0 0,.ref 1 0] (hr s P)=some (.tup [],[.var [.lst true [],.int .i64 (ZcY q s).2.2],.var (Zi P' 6 2 0 (ZcY q s).2.1.length),.row 0 1 ((ZcY q s).2.1.map Zh)]):=by
 have a0:=hP.int (k:=0) (n:=3) (by rw[<-ht];rfl)
 have aq:=hP.int (k:=2) (n:=q.qos) rfl
 have h1:=fun(G:Za) sq hs=>Zgx s hl G 0 sq hs
 have l1:=ZeV s
 have hX:=fun(P:List AVal) (X:Zx×RS) (hP:RP P X.1)=>Zbp P hP.len hP.nor 6 (by omega) X.2.1.length 2 0
 have l0:=ZOn s hl q hP
 unfold ZcY at l0 ⊢
 by_cases hq:q.qos>0
 ·rw[if_pos hq]at l0 ⊢
  have h2:=fun(G:Za) sq hs=>ZiW (ZA s).2 (by omega) G 0 sq hs
  have l2:=ZhV (ZA s).2 (by omega)
  have h3:=fun(G:Za) sq hs=>ZfX (idR (ZA s).2).2 (by omega) 3 (Zcs 3 _) G 0 sq hs
  generalize Zaa 3 (idR (ZA s).2).2=Y at *
  generalize idR (ZA s).2=I at *
  generalize ZA s=X at *
  have a1:=hP.len
  have a3:=ZbT hP 5 6 (by omega) rfl (.str X.1)
  have hP1:=hP.set (k:=5) (q':={ q with topic:=X.1 }) (v:=.str X.1) (by omega) rfl (fun _=>rfl) rfl rfl
  generalize P.set 5 (.str X.1)=P1 at *
  have bq:=hP1.int (k:=2) (n:=q.qos) rfl
  have b1:=hP1.len
  have b3:=ZbT hP1 4 5 (by omega) rfl (.int .i64 I.1)
  have hP2:=hP1.set (k:=4) (q':={ q with topic:=X.1,id:=I.1 }) (v:=.int .i64 I.1) (by omega) rfl (fun _=>rfl) rfl rfl
  generalize P1.set 4 (.int .i64 I.1)=P2 at *
  have c1:=hP2.len
  have c3:=ZbT hP2 9 10 (by omega) rfl (.lst false (Y.1.map Zu))
  have hP3:=hP2.set (k:=9) (q':={ q with topic:=X.1,id:=I.1,props:=Y.1 }) (v:=.lst false (Y.1.map Zu)) (by omega) rfl (fun _=>rfl) rfl rfl
  generalize P2.set 9 (.lst false (Y.1.map Zu))=P3 at *
  have d1:=hP3.len
  have d3:=ZbT hP3 6 7 (by omega) rfl (.sl 2 0 0 Y.2.1.length)
  refine⟨P3,hP3,?_⟩
  have kk:=Zhe Y.2.1
  have lim:Y.2.1.length*1<=140737488355328:=by simp only at l0;omega
  have hO:=fun B=>ZgB (xs:=Y.2.1.map Zh) (w:=1) (L:=.lst true []) (c:=.int .i64 Y.2.2) (B:=B) (Za0 P3 hP3.len hP3.nor 6 (by omega) Y.2.1.length 2 0) (fun C h=>ZaC P3 hP3.len hP3.nor 6 (by omega) Y.2.1.length C h)
  unfold Zi at hO ⊢
  unfold hr rs at *
  rw[Zg (by rfl) Zdf]
  simp -implicitDefEqProofs only[EQA,Zs,ZE,Zc,ZbH,Xd,Xc,Xf,Xa,Xg,reduceCtorEq,ZZ,↓reduceIte,Zdd,ZcL,Zdn,Zb,a0,h1,hq,bq,h2,h3,a1,a3,b1,b3,c1,c3,d1,d3,Zan,viewAs,Zv,kk,lim,Xj,hO]
 ·rw[if_neg hq]at l0 ⊢
  have h3:=fun(G:Za) sq hs=>ZfX (ZA s).2 (by omega) 3 (Zcs 3 _) G 0 sq hs
  generalize Zaa 3 (ZA s).2=Y at *
  generalize ZA s=X at *
  have a1:=hP.len
  have a3:=ZbT hP 5 6 (by omega) rfl (.str X.1)
  have hP1:=hP.set (k:=5) (q':={ q with topic:=X.1 }) (v:=.str X.1) (by omega) rfl (fun _=>rfl) rfl rfl
  generalize P.set 5 (.str X.1)=P1 at *
  have bq:=hP1.int (k:=2) (n:=q.qos) rfl
  have b1:=hP1.len
  have c3:=ZbT hP1 9 10 (by omega) rfl (.lst false (Y.1.map Zu))
  have hP3:=hP1.set (k:=9) (q':={ q with topic:=X.1,props:=Y.1 }) (v:=.lst false (Y.1.map Zu)) (by omega) rfl (fun _=>rfl) rfl rfl
  generalize P1.set 9 (.lst false (Y.1.map Zu))=P3 at *
  have d1:=hP3.len
  have d3:=ZbT hP3 6 7 (by omega) rfl (.sl 2 0 0 Y.2.1.length)
  refine⟨P3,hP3,?_⟩
  have kk:=Zhe Y.2.1
  have lim:Y.2.1.length*1<=140737488355328:=by simp only at l0;omega
  have hO:=fun B=>ZgB (xs:=Y.2.1.map Zh) (w:=1) (L:=.lst true []) (c:=.int .i64 Y.2.2) (B:=B) (Za0 P3 hP3.len hP3.nor 6 (by omega) Y.2.1.length 2 0) (fun C h=>ZaC P3 hP3.len hP3.nor 6 (by omega) Y.2.1.length C h)
  unfold Zi at hO ⊢
  unfold hr rs at *
  rw[Zg (by rfl) Zdf]
  simp -implicitDefEqProofs only[EQA,Zs,ZE,Zc,ZbH,Xd,Xc,Xf,Xa,Xg,reduceCtorEq,ZZ,↓reduceIte,Zdd,ZcL,Zdn,Zb,a0,h1,hq,bq,h3,a1,a3,b1,c3,d1,d3,Zan,viewAs,Zv,kk,lim,Xj,hO]
end
end
section
def Zc2{D:Type}(one:RS->D×RS):Nat->RS->List D×RS
 |0,s=>([],s)
 |n+1,s=>if ZbB s=true then((one s).1::(Zc2 one n (one s).2).1,(Zc2 one n (one s).2).2)else([],s)
def hdR{D:Type}(Q:List AVal)(k w:Nat)(g:D->AVal)(acc:List D)(s:RS):Za:=match acc with
 | []=>hr s Q
 |x::xs=>[.var (rs s),.var (Zi Q k 2 0 (x::xs).length),.row 0 w ((x::xs).map g)]
theorem Zpv{D:Type}(Q:List AVal)(k w:Nat)(g:D->AVal)(acc:List D)(x:D)(s:RS):hdR Q k w g (acc++[x]) s=[.var (rs s),.var (Zi Q k 2 0 (acc.length+1)),.row 0 w (acc.map g++[g x])]:=by
 cases acc with
 |nil=>rfl
 |cons y ys=>simp[hdR]
theorem Zjm{s:RS}{R R' xs:List AVal}{w g j:Nat}{G:Za}(h0:G[0]?=some (.var (rs s)))(h1:G[1]?=some (.var R))(hj:G[j]?=some (.row g w xs))(hj2:2<=j)(hrf:Zl R=[j])(hren:∀ C:Rho,C j g=some (2,0)->Zj C R=R'):gcT 2 [(1,.ref 1 0),(0,.ref 0 0)] G=([(1,.ref 1 0),(0,.ref 0 0)],[.var (rs s),.var R',.row 0 w xs]):=by
 have d0:G.getD 0 .free=.var (rs s):=by simp[Xh,h0]
 have d1:G.getD 1 .free=.var R:=by simp[Xh,h1]
 have dj:G.getD j .free=.row g w xs:=by simp[Xh,hj]
 have e1:=fun C=>Z5 C (rs s) (ZbA s)
 have ej:([0,1]:List Nat).contains j=false:=by simp;omega
 have hi:Zw 2 [.ref 1 0,.ref 0 0] G=[0,1,j]:=by
  have hR:X5 2=[0,1]:=rfl
  simp only[Zw,hR,XB,XQ,Xr,d0,d1,ZB,Zl,ZH,(e1 (fun _ _=>none)).2,hrf,Xp,XJ]
  rw[show(1000:Nat)=995+1+1+1+1+1 from rfl,Zt]
  simp only[show([0,1]:List Nat).contains 1=true from rfl,if_true]
  rw[Zt]
  simp only[show([0,1]:List Nat).contains 0=true from rfl,if_true]
  rw[Zt,ej]
  simp only[Xi,if_false,dj,ZB,Xp,Xr,XJ]
  rfl
 have hC0:Zn G 2 [0,1,j] 0 0=some (0,0):=by simp[Zn,ZI,h0,Zm,ZD]
 have hC1:Zn G 2 [0,1,j] 1 0=some (1,0):=by simp[Zn,ZI,h1,Zm,ZD]
 have hC:Zn G 2 [0,1,j] j g=some (2,0):=by
  have a:¬(0:Nat)=j:=by omega
  have b:¬(1:Nat)=j:=by omega
  simp[Zn,ZI,Zm,ZD,hj,a,b]
 simp only[gcT,gcA,Xu,XC,hi,Zo,d0,d1,dj,ZD,Zm,Zz,Zj,Zp,hC0,hC1,hren _ hC,(e1 _).1]
 simp
section
variable {D:Type}{one:RS->D×RS}{c:Zf}{lv:List Nat}{x n:Nat}{Q:List AVal}{k w:Nat}{g:D->AVal}
 (lim:Nat)
 (hstop:∀ acc s,ZbB s=false->evL FC PR BY 2 lv c t10 (hdR Q k w g acc s)=some (.exit n,tX x,hdR Q k w g acc s))
 (hgo:∀ acc s,s.1.length<=140737488355328->acc.length+s.1.length<=lim->ZbB s=true->evL FC PR BY 2 lv c t10 (hdR Q k w g acc s)=evL FC PR BY 2 lv c t10 (hdR Q k w g (acc++[(one s).1]) (one s).2))
 (hlen:∀ s,s.1.length<=140737488355328->ZbB s=true->(one s).2.1.length<=s.1.length/\((one s).2.2≠0\/(one s).2.1.length<s.1.length))
include hstop hgo hlen
theorem Zoj:∀ (m:Nat) (acc:List D) (s:RS),s.1.length<=140737488355328->acc.length+s.1.length<=lim->(s.2≠0\/s.1.length<=m)->evL FC PR BY 2 lv c t10 (hdR Q k w g acc s)=some (.exit n,tX x,hdR Q k w g (acc++(Zc2 one m s).1) (Zc2 one m s).2)
 |0,acc,s,hl,hlim,hm=>by
  have : ZbB s=false:=by
   unfold ZbB
   rcases hm with h |h
   ·simp[h]
   ·grind
  rw[hstop acc s this]
  simp[Zc2]
 |m+1,acc,s,hl,hlim,hm=>by
  unfold Zc2
  cases h:ZbB s
  ·grind
  ·rw[hgo acc s hl hlim h,if_pos rfl]
   obtain⟨l1,l2⟩:=hlen s hl h
   have hs0:s.2=0:=by
    unfold ZbB at h
    simp only[Xk,beq_iff_eq]at h
    exact h.1
   by_cases hc:(one s).2.2=0
   ·have hlt:(one s).2.1.length<s.1.length:=by
     rcases l2 with h2 |h2
     ·exact absurd hc h2
     ·exact h2
    have hm':s.1.length<=m+1:=by
     rcases hm with h3 |h3
     ·exact absurd hs0 h3
     ·exact h3
    rw[Zoj m (acc++[(one s).1]) (one s).2 (by omega) (by simp;omega) (Xt (by omega))]
    simp
   ·have hf:ZbB (one s).2=false:=by unfold ZbB;simp[hc]
    rw[hstop _ _ hf]
    have : Zc2 one m (one s).2=([],(one s).2):=by
     cases m with
     |zero=>rfl
     |succ m=>unfold Zc2;grind
    rw[this]
end
section
variable {Q:List AVal}{k:Int}(hQ:QOk k Q)
include hQ
theorem ZMn(acc:List Int)(s:RS)(hm:ZbB s=false):evL FC PR BY 2 [1,0] ZfB t10 (hdR Q 8 1 (AVal.int .i64) acc s)=some (.exit 0,tX 31,hdR Q 8 1 (AVal.int .i64) acc s):=by
 rw[Z9]
 have : ∃ R,hdR Q 8 1 (AVal.int .i64) acc s=.var (rs s)::R:=by cases acc<;>exact⟨_,rfl⟩
 obtain⟨R,hR⟩:=this
 rw[hR]
 unfold rs t10 tX t10
 rcases ZfL s with⟨h,h0,h1⟩ |⟨h,h0⟩ |⟨h,h0,h1⟩
 ·grind
 ·simp -implicitDefEqProofs only[EQA,Zc,Xc,Xa,Zy,Z6,reduceCtorEq,↓reduceIte,Zod,ZjC,Zb,h0]
 ·simp -implicitDefEqProofs only[EQA,Zc,Xc,Xa,Zy,unG,reduceCtorEq,↓reduceIte,Zod,ZjC,Zb,h0,h1]
theorem ZVk(s:RS)(hl:s.1.length<=140737488355328)(hm:ZbB s=true):evL FC PR BY 2 [1,0] ZfB t10 (hr s Q)=evL FC PR BY 2 [1,0] ZfB t10 [.var (rs (Zal k s).2),.var (Zi Q 8 2 0 1),.row 0 1 [.int .i64 (Zal k s).1]]:=by
 have a0:=hQ.ty
 have a1:=hQ.len
 have a8:=hQ.c8
 have hT:=fun(G:Za) sq hs=>Zov s hl k G 0 sq hs
 generalize Zal k s=X at *
 have a3:WI 8 Q++[AVal.sl 2 0 0 1]++WO 9 Q=Q.set 8 (.sl 2 0 0 1):=by rw[XD,if_pos (by grind)];simp
 have key:evC FC PR BY 2 ZfB t10 (hr s Q)=some (.normal,t10,[.var (rs X.2),.var (Q.set 8 (.sl 2 0 0 1)),.row 0 1 [.int .i64 X.1]]):=by
  unfold hr t10
  rcases ZfL s with⟨h,h0,h1⟩ |⟨h,h0⟩ |⟨h,h0,h1⟩
  ·unfold rs at *
   simp -implicitDefEqProofs only[EQA,Zs,ZE,Zc,Xd,Xc,Xf,Xa,Xg,Zy,unG,reduceCtorEq,ZZ,↓reduceIte,Zod,ZjC,Zb,h0,h1,a0,a1,a8,a3,hT,Zan,viewAs,Z3,ZN,Zv,WL,ZaG,ZaP,ZaU,Zbi,Zbl,Zbg,Zbq,Zbo,ZaV,Wa,XP,kOk]
  ·grind
  ·grind
 rw[Zh8 key]
 show evL _ _ _ _ _ _ (gcT 2 [(1,.ref 1 0),(0,.ref 0 0)] _).1 (gcT 2 [(1,.ref 1 0),(0,.ref 0 0)] _).2=_
 rw[Zjm (s:=X.2) (R:=Q.set 8 (.sl 2 0 0 1)) (R':=Q.set 8 (.sl 2 0 0 1)) (w:=1) (g:=0) (j:=2) (xs:=[.int .i64 X.1]) rfl rfl rfl (by omega) (Za0 Q hQ.len hQ.nor 8 (by omega) 1 2 0) (fun C h=>ZaC Q hQ.len hQ.nor 8 (by omega) 1 C h)]
 rfl
theorem ZDb(acc:List Int)(s:RS)(hl:s.1.length<=140737488355328)(ha:acc.length*8+8<=140737488355328)(hm:ZbB s=true):evL FC PR BY 2 [1,0] ZfB t10 [.var (rs s),.var (Zi Q 8 2 0 acc.length),.row 0 1 (acc.map (AVal.int .i64))]=evL FC PR BY 2 [1,0] ZfB t10 [.var (rs (Zal k s).2),.var (Zi Q 8 2 0 (acc.length+1)),.row 0 1 (acc.map (AVal.int .i64)++[.int .i64 (Zal k s).1])]:=by
 have hL:=Zbp Q hQ.len hQ.nor 8 (by omega) acc.length 2 0
 have a0:(Zi Q 8 2 0 acc.length)[0]?=some (.int .i64 k):=by unfold Zi;rw[Xl (by omega)];exact hQ.ty
 have a8:(Zi Q 8 2 0 acc.length)[8]?=some (.sl 2 0 0 acc.length):=by unfold Zi;rw[XV (by rw[hQ.len];omega)]
 have hT:=fun(G:Za) sq hs=>Zov s hl k G 0 sq hs
 generalize Zal k s=X at *
 have hset:(Zi Q 8 2 0 acc.length).set 8 (.sl 2 1 0 (acc.length+1))=Q.set 8 (.sl 2 1 0 (acc.length+1)):=by unfold Zi;rw[WD]
 have a3:WI 8 (Zi Q 8 2 0 acc.length)++[AVal.sl 2 1 0 (acc.length+1)]++WO 9 (Zi Q 8 2 0 acc.length)=Q.set 8 (.sl 2 1 0 (acc.length+1)):=by rw[<-hset,XD,if_pos (by grind)];simp
 generalize Zi Q 8 2 0 acc.length=R at *
 have kk:kOk 1 (acc.map (AVal.int .i64))=true:=by cases acc<;>rfl
 have k1:kOk 1 [AVal.int .i64 X.1]=true:=rfl
 have len:(acc.map (AVal.int .i64)).length=acc.length:=by simp
 have tk:(acc.map (AVal.int .i64)).take acc.length=acc.map (AVal.int .i64):=by rw[<-len,Xai]
 have lim:(acc.length+1)*8<=140737488355328:=by omega
 have lim2:8*(acc.length+1)<=140737488355328:=by omega
 have key:evC FC PR BY 2 ZfB t10 [.var (rs s),.var R,.row 0 1 (acc.map (AVal.int .i64))]=some (.normal,t10,[.var (rs X.2),.var (Q.set 8 (.sl 2 1 0 (acc.length+1))),.row 1 1 (acc.map (AVal.int .i64)++[.int .i64 X.1]),.free]):=by
  unfold t10
  rcases ZfL s with⟨h,h0,h1⟩ |⟨h,h0⟩ |⟨h,h0,h1⟩
  ·unfold rs at *
   simp -implicitDefEqProofs only[EQA,Zs,ZE,Zc,Xd,Xc,Xf,Xa,Xg,Zy,unG,reduceCtorEq,ZZ,↓reduceIte,Zod,ZjC,Zb,h0,h1,a0,hL,a8,a3,hT,Zan,viewAs,Z3,ZN,Zv,ZaG,ZaP,ZaU,Zbi,Zbl,Zbg,Zbq,Zbo,ZaV,Wa,XP,k1,len,lim]
  ·grind
  ·grind
 rw[Zh8 key]
 show evL _ _ _ _ _ _ (gcT 2 [(1,.ref 1 0),(0,.ref 0 0)] _).1 (gcT 2 [(1,.ref 1 0),(0,.ref 0 0)] _).2=_
 rw[Zjm (s:=X.2) (R:=Q.set 8 (.sl 2 1 0 (acc.length+1))) (R':=Q.set 8 (.sl 2 0 0 (acc.length+1))) (w:=1) (g:=1) (j:=2) (xs:=acc.map (AVal.int .i64)++[.int .i64 X.1]) rfl rfl rfl (by omega) (Za0 Q hQ.len hQ.nor 8 (by omega) (acc.length+1) 2 1) (fun C h=>ZaC Q hQ.len hQ.nor 8 (by omega) (acc.length+1) C h)]
 rfl
end
def ZcN(s:RS):RS:=if(Z2 s).1>=64 then Zav 129 (Z2 s).2 else(Z2 s).2
def ZhF(o:Int):Bool:=(Zk o 3==3) ||(Zk (ZaL o 4) 3==3)
def ZeY(s:RS):RS:=if ZhF (Z2 s).1=true then Zav 130 (ZcN s)else ZcN s
def ZaS(s:RS):ZcH×RS:=(⟨(ZA s).1,Zk (Z2 (ZA s).2).1 3,Zk (Z2 (ZA s).2).1 4 != 0,Zk (Z2 (ZA s).2).1 8 != 0,Zk (ZaL (Z2 (ZA s).2).1 4) 3,0⟩,ZeY (ZA s).2)
theorem ZTb{D:Type}(Q:List AVal)(k w:Nat)(g:D->AVal)(acc:List D)(s:RS):∃ R,hdR Q k w g acc s=.var (rs s)::R:=by cases acc<;>exact⟨_,rfl⟩
theorem Zu0{D:Type}{Q:List AVal}{k w:Nat}{g:D->AVal}(acc:List D)(s:RS)(hm:ZbB s=false):evL FC PR BY 2 [1,0] Zdp t10 (hdR Q k w g acc s)=some (.exit 0,tX 34,hdR Q k w g acc s):=by
 rw[Z9]
 obtain⟨R,hR⟩:=ZTb Q k w g acc s
 rw[hR]
 unfold rs t10 tX t10
 rcases ZfL s with⟨h,h0,h1⟩ |⟨h,h0⟩ |⟨h,h0,h1⟩
 ·grind
 ·simp -implicitDefEqProofs only[EQA,Zc,Xc,Xa,Zy,Z6,reduceCtorEq,↓reduceIte,Zf6,ZeX,Zb,h0]
 ·simp -implicitDefEqProofs only[EQA,Zc,Xc,Xa,Zy,unG,reduceCtorEq,↓reduceIte,Zf6,ZeX,Zb,h0,h1]
section
variable {Q:List AVal}(hQ:QOk 10 Q)
include hQ
theorem ZA8(s:RS)(hl:s.1.length<=140737488355328)(hm:ZbB s=true):evL FC PR BY 2 [1,0] Zdp t10 (hr s Q)=evL FC PR BY 2 [1,0] Zdp t10 [.var (rs (ZA s).2),.var (Zi Q 11 2 0 1),.row 0 1 [.str (ZA s).1]]:=by
 have a0:=hQ.ty
 have a1:=hQ.len
 have a8:=hQ.c11
 have hT:=fun(G:Za) sq hs=>Zgx s hl G 0 sq hs
 generalize ZA s=X at *
 have a3:WI 11 Q++[AVal.sl 2 0 0 1]++WO 12 Q=Q.set 11 (.sl 2 0 0 1):=by rw[XD,if_pos (by grind)];simp
 have key:evC FC PR BY 2 Zdp t10 (hr s Q)=some (.normal,t10,[.var (rs X.2),.var (Q.set 11 (.sl 2 0 0 1)),.row 0 1 [.str X.1]]):=by
  unfold hr t10
  rcases ZfL s with⟨h,h0,h1⟩ |⟨h,h0⟩ |⟨h,h0,h1⟩
  ·unfold rs at *
   simp -implicitDefEqProofs only[EQA,Zs,ZE,Zc,Xd,Xc,Xf,Xa,Xg,Zy,unG,reduceCtorEq,ZZ,↓reduceIte,Zf6,ZeX,Zb,h0,h1,a0,a1,a8,a3,hT,Zan,viewAs,Z3,ZN,Zv,WL,kOk]
  ·grind
  ·grind
 rw[Zh8 key]
 show evL _ _ _ _ _ _ (gcT 2 [(1,.ref 1 0),(0,.ref 0 0)] _).1 (gcT 2 [(1,.ref 1 0),(0,.ref 0 0)] _).2=_
 rw[Zjm (s:=X.2) (R:=Q.set 11 (.sl 2 0 0 1)) (R':=Q.set 11 (.sl 2 0 0 1)) (w:=1) (g:=0) (j:=2) (xs:=[.str X.1]) rfl rfl rfl (by omega) (Za0 Q hQ.len hQ.nor 11 (by omega) 1 2 0) (fun C h=>ZaC Q hQ.len hQ.nor 11 (by omega) 1 C h)]
 rfl
theorem ZHX(acc:List Zd)(s:RS)(hl:s.1.length<=140737488355328)(ha:acc.length*16+16<=140737488355328)(hm:ZbB s=true):evL FC PR BY 2 [1,0] Zdp t10 [.var (rs s),.var (Zi Q 11 2 0 acc.length),.row 0 1 (acc.map AVal.str)]=evL FC PR BY 2 [1,0] Zdp t10 [.var (rs (ZA s).2),.var (Zi Q 11 2 0 (acc.length+1)),.row 0 1 (acc.map AVal.str++[.str (ZA s).1])]:=by
 have hL:=Zbp Q hQ.len hQ.nor 11 (by omega) acc.length 2 0
 have a0:(Zi Q 11 2 0 acc.length)[0]?=some (.int .i64 10):=by unfold Zi;rw[Xl (by omega)];exact hQ.ty
 have a8:(Zi Q 11 2 0 acc.length)[11]?=some (.sl 2 0 0 acc.length):=by unfold Zi;rw[XV (by rw[hQ.len];omega)]
 have hT:=fun(G:Za) sq hs=>Zgx s hl G 0 sq hs
 generalize ZA s=X at *
 have hset:(Zi Q 11 2 0 acc.length).set 11 (.sl 2 1 0 (acc.length+1))=Q.set 11 (.sl 2 1 0 (acc.length+1)):=by unfold Zi;rw[WD]
 have a3:WI 11 (Zi Q 11 2 0 acc.length)++[AVal.sl 2 1 0 (acc.length+1)]++WO 12 (Zi Q 11 2 0 acc.length)=Q.set 11 (.sl 2 1 0 (acc.length+1)):=by rw[<-hset,XD,if_pos (by grind)];simp
 generalize Zi Q 11 2 0 acc.length=R at *
 have kk:kOk 1 (acc.map AVal.str)=true:=by cases acc<;>rfl
 have k1:kOk 1 [AVal.str X.1]=true:=rfl
 have len:(acc.map AVal.str).length=acc.length:=by simp
 have tk:(acc.map AVal.str).take acc.length=acc.map AVal.str:=by rw[<-len,Xai]
 have lim:(acc.length+1)*16<=140737488355328:=by omega
 have lim2:16*(acc.length+1)<=140737488355328:=by omega
 have key:evC FC PR BY 2 Zdp t10 [.var (rs s),.var R,.row 0 1 (acc.map AVal.str)]=some (.normal,t10,[.var (rs X.2),.var (Q.set 11 (.sl 2 1 0 (acc.length+1))),.row 1 1 (acc.map AVal.str++[.str X.1]),.free]):=by
  unfold t10
  rcases ZfL s with⟨h,h0,h1⟩ |⟨h,h0⟩ |⟨h,h0,h1⟩
  ·unfold rs at *
   simp -implicitDefEqProofs only[EQA,Zs,ZE,Zc,Xd,Xc,Xf,Xa,Xg,Zy,unG,reduceCtorEq,ZZ,↓reduceIte,Zf6,ZeX,Zb,h0,h1,a0,hL,a8,a3,hT,Zan,viewAs,Z3,ZN,Zv,k1,len,lim]
  ·grind
  ·grind
 rw[Zh8 key]
 show evL _ _ _ _ _ _ (gcT 2 [(1,.ref 1 0),(0,.ref 0 0)] _).1 (gcT 2 [(1,.ref 1 0),(0,.ref 0 0)] _).2=_
 rw[Zjm (s:=X.2) (R:=Q.set 11 (.sl 2 1 0 (acc.length+1))) (R':=Q.set 11 (.sl 2 0 0 (acc.length+1))) (w:=1) (g:=1) (j:=2) (xs:=acc.map AVal.str++[.str X.1]) rfl rfl rfl (by omega) (Za0 Q hQ.len hQ.nor 11 (by omega) (acc.length+1) 2 1) (fun C h=>ZaC Q hQ.len hQ.nor 11 (by omega) (acc.length+1) C h)]
 rfl
end
section
variable {Q:List AVal}(hQ:QOk 8 Q)
include hQ
theorem ZJn(s:RS)(hl:s.1.length<=140737488355328)(hm:ZbB s=true):evL FC PR BY 2 [1,0] Zdp t10 (hr s Q)=evL FC PR BY 2 [1,0] Zdp t10 [.var (rs (ZaS s).2),.var (Zi Q 10 2 0 1),.row 0 6 [Z8 (ZaS s).1]]:=by
 have a0:=hQ.ty
 have a1:=hQ.len
 have a8:=hQ.c10
 have l1:=ZeV s
 have hT:=fun(G:Za) sq hs=>Zgx s hl G 0 sq hs
 have hO:=fun(G:Za) sq hs=>ZiU (ZA s).2 (by omega) G 0 sq hs
 have hF1:=fun(G:Za) sq hs=>Zdj (Z2 (ZA s).2).2 129 G 0 sq hs
 have hF2:=fun(G:Za) sq hs=>Zdj (ZcN (ZA s).2) 130 G 0 sq hs
 have e2:ZcN (ZA s).2=if(Z2 (ZA s).2).1>=64 then Zav 129 (Z2 (ZA s).2).2 else(Z2 (ZA s).2).2:=rfl
 have e3:ZeY (ZA s).2=if ZhF (Z2 (ZA s).2).1=true then Zav 130 (ZcN (ZA s).2)else ZcN (ZA s).2:=rfl
 unfold ZaS
 generalize ZeY (ZA s).2=s3 at *
 generalize ZcN (ZA s).2=s2 at *
 generalize Z2 (ZA s).2=O at *
 generalize ZA s=X at *
 have a3:WI 10 Q++[AVal.sl 3 0 0 1]++WO 11 Q=Q.set 10 (.sl 3 0 0 1):=by rw[XD,if_pos (by grind)];simp
 have key:∃ V,evC FC PR BY 2 Zdp t10 (hr s Q)=some (.normal,t10,[.var (rs s3),.var (Q.set 10 (.sl 3 0 0 1)),V,.row 0 6 [Z8 ⟨X.1,Zk O.1 3,Zk O.1 4 != 0,Zk O.1 8 != 0,Zk (ZaL O.1 4) 3,0⟩]]):=by
  refine⟨.var [.str X.1,.int .i64 (Zk O.1 3),.bool (Zk O.1 4 != 0),.bool (Zk O.1 8 != 0),.int .i64 (Zk (ZaL O.1 4) 3),.int .i64 0],?_⟩
  unfold hr t10 Z8
  unfold ZhF at e3
  rcases ZfL s with⟨h,h0,h1⟩ |⟨h,h0⟩ |⟨h,h0,h1⟩
  ·unfold Zk ZaL rs at *
   by_cases g1:O.1>=64<;>first |rw[if_pos g1]at e2 |rw[if_neg g1]at e2
   all_goals
    cases b1:(IntKind.i64.wrap (XR IntKind.i64.bits O.1&&&XR IntKind.i64.bits 3).toNat==3)<;>rw[b1]at e3
    ·cases b2:(IntKind.i64.wrap (XR IntKind.i64.bits (O.1.fdiv (2^min (Xad 4) IntKind.i64.bits))&&&XR IntKind.i64.bits 3).toNat==3)<;>rw[b2]at e3
     ·rw[if_neg (by simp)]at e3
      subst e3
      subst e2
      simp -implicitDefEqProofs only[EQA,Zs,Zc,Xd,Xc,Xf,Xa,Xg,Zbh,Zy,unG,reduceCtorEq,ZZ,↓reduceIte,Zf6,ZeX,Zb,h0,h1,a0,a1,a8,a3,hT,hO,hF1,g1,b1,b2,Zao,AVal.cells,Zan,viewAs,Z3,ZN,Zae,Zv,WL,XH,ZaG,ZaP,ZaU,Zbi,Zbl,Zbg,Zbq,Zbo,ZaV,XP,kOk,Xj,Wc]
     ·rw[if_pos (by simp)]at e3
      subst e3
      subst e2
      simp -implicitDefEqProofs only[EQA,Zs,Zc,Xd,Xc,Xf,Xa,Xg,Zbh,Zy,unG,reduceCtorEq,ZZ,↓reduceIte,Zf6,ZeX,Zb,h0,h1,a0,a1,a8,a3,hT,hO,hF1,hF2,g1,b1,b2,Zao,AVal.cells,Zan,viewAs,Z3,ZN,Zae,Zv,WL,XH,ZaG,ZaP,ZaU,Zbi,Zbl,Zbg,Zbq,Zbo,ZaV,XP,kOk,Xj,Wc]
    ·rw[if_pos (by simp)]at e3
     subst e3
     subst e2
     simp -implicitDefEqProofs only[EQA,Zs,Zc,Xd,Xc,Xf,Xa,Xg,Zbh,Zy,Z6,unG,reduceCtorEq,ZZ,↓reduceIte,Zf6,ZeX,Zb,h0,h1,a0,a1,a8,a3,hT,hO,hF1,hF2,g1,b1,Zao,AVal.cells,Zan,viewAs,Z3,ZN,Zae,Zv,WL,XH,ZaG,ZaP,ZaU,Zbi,Zbl,Zbg,Zbq,Zbo,ZaV,XP,kOk,Xj,Wc]
  ·grind
  ·grind
 obtain⟨V,key⟩:=key
 rw[Zh8 key]
 show evL _ _ _ _ _ _ (gcT 2 [(1,.ref 1 0),(0,.ref 0 0)] _).1 (gcT 2 [(1,.ref 1 0),(0,.ref 0 0)] _).2=_
 rw[Zjm (s:=s3) (R:=Q.set 10 (.sl 3 0 0 1)) (R':=Q.set 10 (.sl 2 0 0 1)) (w:=6) (g:=0) (j:=3) (xs:=[Z8 ⟨X.1,Zk O.1 3,Zk O.1 4 != 0,Zk O.1 8 != 0,Zk (ZaL O.1 4) 3,0⟩]) rfl rfl rfl (by omega) (Za0 Q hQ.len hQ.nor 10 (by omega) 1 3 0) (fun C h=>ZaC Q hQ.len hQ.nor 10 (by omega) 1 C h)]
 rfl
end
end
section
section
variable {Q:List AVal}(hQ:QOk 8 Q)
include hQ
theorem ZP2(acc:List ZcH)(s:RS)(hl:s.1.length<=140737488355328)(ha:acc.length*48+48<=140737488355328)(hm:ZbB s=true):evL FC PR BY 2 [1,0] Zdp t10 [.var (rs s),.var (Zi Q 10 2 0 acc.length),.row 0 6 (acc.map Z8)]=evL FC PR BY 2 [1,0] Zdp t10 [.var (rs (ZaS s).2),.var (Zi Q 10 2 0 (acc.length+1)),.row 0 6 (acc.map Z8++[Z8 (ZaS s).1])]:=by
 have hL:=Zbp Q hQ.len hQ.nor 10 (by omega) acc.length 2 0
 have a0:(Zi Q 10 2 0 acc.length)[0]?=some (.int .i64 8):=by unfold Zi;rw[Xl (by omega)];exact hQ.ty
 have a8:(Zi Q 10 2 0 acc.length)[10]?=some (.sl 2 0 0 acc.length):=by unfold Zi;rw[XV (by rw[hQ.len];omega)]
 have l1:=ZeV s
 have hT:=fun(G:Za) sq hs=>Zgx s hl G 0 sq hs
 have hO:=fun(G:Za) sq hs=>ZiU (ZA s).2 (by omega) G 0 sq hs
 have hF1:=fun(G:Za) sq hs=>Zdj (Z2 (ZA s).2).2 129 G 0 sq hs
 have hF2:=fun(G:Za) sq hs=>Zdj (ZcN (ZA s).2) 130 G 0 sq hs
 have e2:ZcN (ZA s).2=if(Z2 (ZA s).2).1>=64 then Zav 129 (Z2 (ZA s).2).2 else(Z2 (ZA s).2).2:=rfl
 have e3:ZeY (ZA s).2=if ZhF (Z2 (ZA s).2).1=true then Zav 130 (ZcN (ZA s).2)else ZcN (ZA s).2:=rfl
 unfold ZaS
 generalize ZeY (ZA s).2=s3 at *
 generalize ZcN (ZA s).2=s2 at *
 generalize Z2 (ZA s).2=O at *
 generalize ZA s=X at *
 have hset:(Zi Q 10 2 0 acc.length).set 10 (.sl 2 1 0 (acc.length+1))=Q.set 10 (.sl 2 1 0 (acc.length+1)):=by unfold Zi;rw[WD]
 have a3:WI 10 (Zi Q 10 2 0 acc.length)++[AVal.sl 2 1 0 (acc.length+1)]++WO 11 (Zi Q 10 2 0 acc.length)=Q.set 10 (.sl 2 1 0 (acc.length+1)):=by rw[<-hset,XD,if_pos (by grind)];simp
 generalize Zi Q 10 2 0 acc.length=R at *
 have kk:=ZyJ acc
 have k1:∀ a b c d e f:AVal,kOk 6 [.agg [a,b,c,d,e,f]]=true:=fun _ _ _ _ _ _=>rfl
 have len:(acc.map Z8).length=acc.length:=by simp
 have tk:(acc.map Z8).take acc.length=acc.map Z8:=by rw[<-len,Xai]
 have lim:(acc.length+1)*48<=140737488355328:=by omega
 have lim2:48*(acc.length+1)<=140737488355328:=by omega
 have key:evC FC PR BY 2 Zdp t10 [.var (rs s),.var R,.row 0 6 (acc.map Z8)]=some (.normal,t10,[.var (rs s3),.var (Q.set 10 (.sl 2 1 0 (acc.length+1))),.row 1 6 (acc.map Z8++[Z8 ⟨X.1,Zk O.1 3,Zk O.1 4 != 0,Zk O.1 8 != 0,Zk (ZaL O.1 4) 3,0⟩]),.var [.str X.1,.int .i64 (Zk O.1 3),.bool (Zk O.1 4 != 0),.bool (Zk O.1 8 != 0),.int .i64 (Zk (ZaL O.1 4) 3),.int .i64 0],.free]):=by
  rw[show Z8 ⟨X.1,Zk O.1 3,Zk O.1 4 != 0,Zk O.1 8 != 0,Zk (ZaL O.1 4) 3,0⟩=.agg [.str X.1,.int .i64 (Zk O.1 3),.bool (Zk O.1 4 != 0),.bool (Zk O.1 8 != 0),.int .i64 (Zk (ZaL O.1 4) 3),.int .i64 0]from rfl]
  unfold t10
  unfold ZhF at e3
  rcases ZfL s with⟨h,h0,h1⟩ |⟨h,h0⟩ |⟨h,h0,h1⟩
  ·unfold Zk ZaL rs at *
   by_cases g1:O.1>=64<;>first |rw[if_pos g1]at e2 |rw[if_neg g1]at e2
   all_goals
    cases b1:(IntKind.i64.wrap (XR IntKind.i64.bits O.1&&&XR IntKind.i64.bits 3).toNat==3)<;>rw[b1]at e3
    ·cases b2:(IntKind.i64.wrap (XR IntKind.i64.bits (O.1.fdiv (2^min (Xad 4) IntKind.i64.bits))&&&XR IntKind.i64.bits 3).toNat==3)<;>rw[b2]at e3
     ·rw[if_neg (by simp)]at e3
      subst e3
      subst e2
      simp -implicitDefEqProofs only[EQA,Zs,Zc,Xd,Xc,Xf,Xa,Xg,Zbh,Zy,unG,reduceCtorEq,ZZ,↓reduceIte,Zf6,ZeX,Zb,h0,h1,a0,hL,a8,a3,hT,hO,hF1,g1,b1,b2,Zao,AVal.cells,Zan,viewAs,Z3,ZN,Zae,Zv,XH,ZaG,ZaP,ZaU,Zbi,Zbl,Zbg,Zbq,Zbo,ZaV,XP,k1,len,lim,Xj,Wc]
     ·rw[if_pos (by simp)]at e3
      subst e3
      subst e2
      simp -implicitDefEqProofs only[EQA,Zs,Zc,Xd,Xc,Xf,Xa,Xg,Zbh,Zy,unG,reduceCtorEq,ZZ,↓reduceIte,Zf6,ZeX,Zb,h0,h1,a0,hL,a8,a3,hT,hO,hF1,hF2,g1,b1,b2,Zao,AVal.cells,Zan,viewAs,Z3,ZN,Zae,Zv,XH,ZaG,ZaP,ZaU,Zbi,Zbl,Zbg,Zbq,Zbo,ZaV,XP,k1,len,lim,Xj,Wc]
    ·rw[if_pos (by simp)]at e3
     subst e3
     subst e2
     simp -implicitDefEqProofs only[EQA,Zs,Zc,Xd,Xc,Xf,Xa,Xg,Zbh,Zy,Z6,unG,reduceCtorEq,ZZ,↓reduceIte,Zf6,ZeX,Zb,h0,h1,a0,hL,a8,a3,hT,hO,hF1,hF2,g1,b1,Zao,AVal.cells,Zan,viewAs,Z3,ZN,Zae,Zv,XH,ZaG,ZaP,ZaU,Zbi,Zbl,Zbg,Zbq,Zbo,ZaV,XP,k1,len,lim,Xj,Wc]
  ·grind
  ·grind
 rw[Zh8 key]
 show evL _ _ _ _ _ _ (gcT 2 [(1,.ref 1 0),(0,.ref 0 0)] _).1 (gcT 2 [(1,.ref 1 0),(0,.ref 0 0)] _).2=_
 rw[Zjm (s:=s3) (R:=Q.set 10 (.sl 2 1 0 (acc.length+1))) (R':=Q.set 10 (.sl 2 0 0 (acc.length+1))) (w:=6) (g:=1) (j:=2) (xs:=acc.map Z8++[Z8 ⟨X.1,Zk O.1 3,Zk O.1 4 != 0,Zk O.1 8 != 0,Zk (ZaL O.1 4) 3,0⟩]) rfl rfl rfl (by omega) (Za0 Q hQ.len hQ.nor 10 (by omega) (acc.length+1) 2 1) (fun C h=>ZaC Q hQ.len hQ.nor 10 (by omega) (acc.length+1) C h)]
 rfl
end
theorem ZVn{n:Nat}(hn:0<n)(s:RS):(Zck n s).2.2≠0\/(Zck n s).2.1.length<s.1.length:=by
 unfold Zck
 split
 ·rename_i h
  left
  unfold Zav
  grind
 grind
theorem ZMM{c:Int}(hc:c≠0)(s:RS):(Zav c s).2≠0:=by
 unfold Zav;grind
theorem Zvb(s:RS):(ZA s).2.2≠0\/(ZA s).2.1.length<s.1.length:=by
 unfold ZA
 split
 ·grind
 ·split
  ·grind
  ·rename_i h
   right
   have h:=Decidable.not_not.1 h
   have hk:Zaf s.1=.ok ((ZU s.1).1,s.1.drop (ZU s.1).2.1):=by unfold Zaf;grind
   exact Zlx hk
theorem Zvz(n:Nat)(s:RS)(h:s.2≠0):(Zck n s).2=s:=by
 unfold Zck;rw[if_pos (Xq h)];simp only;unfold Zav;grind
theorem Zc4(c:Int)(s:RS)(h:s.2≠0):Zav c s=s:=by unfold Zav;grind
theorem Zf9(s:RS)(h:s.2≠0):(Z2 s).2=s:=Zvz 1 s h
theorem Zrd(s:RS)(h:s.2≠0):(ZbP s).2=s:=Zvz 2 s h
theorem ZB1(s:RS)(h:s.2≠0):(idR s).2=s:=by
 unfold idR;simp only[Zrd s h];split
 ·exact Zc4 _ s h
 ·rfl
theorem Zff(s:RS)(h:s.2≠0):(ZA s).2=s:=by unfold ZA;grind
theorem Zoa(s:RS)(h:s.2≠0):(Zcz s).2=s:=by unfold Zcz;grind
theorem ZeC(w:Int)(s:RS)(h:s.2≠0):(Zaa w s).2=s:=by unfold Zaa;grind
theorem ZpW(k:Int)(s:RS)(h:s.2≠0):(Zal k s).2=s:=by
 unfold Zal;simp only[Zf9 s h];split
 ·rfl
 ·exact Zc4 _ s h
theorem ZGe(s:RS)(h:s.2≠0):(ZaS s).2=s:=by
 unfold ZaS ZeY ZcN;simp only[Zff s h,Zf9 s h]
 have e1:(if(Z2 s).1>=64 then Zav 129 s else s)=s:=by split;exact Zc4 _ s h;rfl
 rw[e1];split
 ·exact Zc4 _ s h
 ·rfl
theorem ZGS(k:Int)(s:RS):(Zal k s).2.2≠0\/(Zal k s).2.1.length<s.1.length:=by
 unfold Zal;simp only
 split
 ·exact ZVn (by omega) s
 ·left;exact ZMM (by decide) _
theorem ZUN(s:RS)(hl:s.1.length<=140737488355328):(ZaS s).2.1.length<=s.1.length:=by
 have l1:=ZeV s
 have l2:=Zjo (ZA s).2 (by omega)
 unfold ZaS ZeY ZcN;simp only
 split<;>split
 ·have:=ZdS 130 (Zav 129 (Z2 (ZA s).2).2);have:=ZdS 129 (Z2 (ZA s).2).2;omega
 ·have:=ZdS 130 (Z2 (ZA s).2).2;omega
 ·have:=ZdS 129 (Z2 (ZA s).2).2;omega
 ·omega
theorem ZU1(s:RS)(hl:s.1.length<=140737488355328):(ZaS s).2.2≠0\/(ZaS s).2.1.length<s.1.length:=by
 have l1:=ZeV s
 rcases Zvb s with h |h
 ·left
  have : (ZaS s).2=(ZA s).2:=by
   unfold ZaS ZeY ZcN;simp only[Zf9 _ h]
   have e1:(if(Z2 (ZA s).2).1>=64 then Zav 129 (ZA s).2 else(ZA s).2)=(ZA s).2:=by split;exact Zc4 _ _ h;rfl
   rw[e1];split
   ·exact Zc4 _ _ h
   ·rfl
  grind
 ·right
  have l2:=Zjo (ZA s).2 (by omega)
  have : (ZaS s).2.1.length<=(ZA s).2.1.length:=by
   unfold ZaS ZeY ZcN;simp only
   split<;>split
   ·have:=ZdS 130 (Zav 129 (Z2 (ZA s).2).2);have:=ZdS 129 (Z2 (ZA s).2).2;omega
   ·have:=ZdS 130 (Z2 (ZA s).2).2;omega
   ·have:=ZdS 129 (Z2 (ZA s).2).2;omega
   ·exact l2
  omega
def ZcQ(s:RS):RS:=if s.2=0/\s.1.length=0 then Zav 130 s else s
def Zcb{D:Type}(one:RS->D×RS)(s:RS):List D×RS:=Zc2 one s.1.length (ZcQ s)
theorem Zrq(s:RS):(ZcQ s).1.length<=s.1.length:=by unfold ZcQ;split;exact ZdS _ _;grind
theorem Zq0(s:RS):(ZcQ s=Zav 130 s/\(s.2==0)=true/\((s.1.length:Int)==0)=true)\/(ZcQ s=s/\(s.2==0)=false)\/(ZcQ s=s/\(s.2==0)=true/\((s.1.length:Int)==0)=false):=by
 unfold ZcQ
 grind
theorem ZpJ{D:Type}{Q:List AVal}{k w:Nat}{g:D->AVal}(hL:Q.length=26)(hn:Ze Q=true)(hk:k<26)(acc:List D)(s:RS):ZR 2 (hdR Q k w g acc s) (.tup [])=some (.tup [],hdR Q k w g acc s):=by
 cases acc with
 |nil=>exact Zen hn []
 |cons x xs=>exact ZgB (Za0 Q hL hn k hk _ 2 0) (fun C h=>ZaC Q hL hn k hk _ C h) rfl rfl
section
variable (s:RS)(hl:s.1.length<=1099511627775){Q:List AVal}
include hl
theorem ZDR(hQ:QOk 10 Q):E 72 [.ref 0 0,.ref 1 0] (hr s Q)=some (.tup [],hdR Q 11 1 AVal.str (Zcb ZA s).1 (Zcb ZA s).2):=by
 have hF:=fun(G:Za) sq hs=>Zdj s 130 G 0 sq hs
 have lF:=Zrq s
 have key:=Zoj (one:=ZA) (lv:=[1,0]) (c:=Zdp) (x:=34) (n:=0) (Q:=Q) (k:=11) (w:=1) (g:=AVal.str) 1099511627775 (fun acc s hm=>Zu0 acc s hm)
  (fun acc s hl hlim hm=>by
   cases acc with
   |nil=>exact ZA8 hQ s hl hm
   |cons y ys=>rw[Zpv];exact ZHX hQ (y::ys) s hl (by omega) hm)
  (fun s hl hm=>⟨ZeV s,Zvb s⟩) s.1.length [] (ZcQ s) (by omega) (by grind) (by grind)
 simp only[Xp]at key
 have hO:=ZpJ (w:=1) (g:=AVal.str) hQ.len hQ.nor (k:=11) (by omega) (Zcb ZA s).1 (Zcb ZA s).2
 unfold Zcb at *
 generalize Zc2 ZA s.1.length (ZcQ s)=Z at *
 have hrf:=(Z5 (fun _ _=>none) Q hQ.nor).2
 have hrn:=fun C=>(Z5 C Q hQ.nor).1
 rw[Zg (by rfl) ZxR]
 unfold hdR at key
 simp only at key
 rcases Zq0 s with⟨h,h0,h1⟩ |⟨h,h0⟩ |⟨h,h0,h1⟩
 ·rw[h]at key
  unfold hr t10 tX t10 rs at *
  simp -implicitDefEqProofs only[EQA,Zc,ZT,Xd,Xc,Xa,Xg,Zy,unG,reduceCtorEq,↓reduceIte,gcT,gcA,Zw,Zt,Zn,Zo,ZI,Zm,ZD,Zz,ZB,Xv,Zjl,Zg8,Zjr,Zb,h0,h1,hF,key,hrf,hrn]
  exact hO
 ·rw[h]at key
  unfold hr t10 tX t10 rs at *
  simp -implicitDefEqProofs only[EQA,Zc,ZT,Xd,Xc,Xa,Xg,Zy,Z6,reduceCtorEq,↓reduceIte,gcT,gcA,Zw,Zt,Zn,Zo,ZI,Zm,ZD,Zz,ZB,Xv,Zjl,Zg8,Zjr,Zb,h0,key,hrf,hrn]
  exact hO
 ·rw[h]at key
  unfold hr t10 tX t10 rs at *
  simp -implicitDefEqProofs only[EQA,Zc,ZT,Xd,Xc,Xa,Xg,Zy,unG,reduceCtorEq,↓reduceIte,gcT,gcA,Zw,Zt,Zn,Zo,ZI,Zm,ZD,Zz,ZB,Xv,Zjl,Zg8,Zjr,Zb,h0,h1,key,hrf,hrn]
  exact hO
theorem ZKa(hQ:QOk 8 Q):E 72 [.ref 0 0,.ref 1 0] (hr s Q)=some (.tup [],hdR Q 10 6 Z8 (Zcb ZaS s).1 (Zcb ZaS s).2):=by
 have hF:=fun(G:Za) sq hs=>Zdj s 130 G 0 sq hs
 have lF:=Zrq s
 have key:=Zoj (one:=ZaS) (lv:=[1,0]) (c:=Zdp) (x:=34) (n:=0) (Q:=Q) (k:=10) (w:=6) (g:=Z8) 1099511627775 (fun acc s hm=>Zu0 acc s hm)
  (fun acc s hl hlim hm=>by
   cases acc with
   |nil=>exact ZJn hQ s hl hm
   |cons y ys=>rw[Zpv];exact ZP2 hQ (y::ys) s hl (by omega) hm)
  (fun s hl hm=>⟨ZUN s hl,ZU1 s hl⟩) s.1.length [] (ZcQ s) (by omega) (by grind) (by grind)
 simp only[Xp]at key
 have hO:=ZpJ (w:=6) (g:=Z8) hQ.len hQ.nor (k:=10) (by omega) (Zcb ZaS s).1 (Zcb ZaS s).2
 unfold Zcb at *
 generalize Zc2 ZaS s.1.length (ZcQ s)=Z at *
 have hrf:=(Z5 (fun _ _=>none) Q hQ.nor).2
 have hrn:=fun C=>(Z5 C Q hQ.nor).1
 rw[Zg (by rfl) ZxR]
 unfold hdR at key
 simp only at key
 rcases Zq0 s with⟨h,h0,h1⟩ |⟨h,h0⟩ |⟨h,h0,h1⟩
 ·rw[h]at key
  unfold hr t10 tX t10 rs at *
  simp -implicitDefEqProofs only[EQA,Zc,ZT,Xd,Xc,Xa,Xg,Zy,unG,reduceCtorEq,↓reduceIte,gcT,gcA,Zw,Zt,Zn,Zo,ZI,Zm,ZD,Zz,ZB,Xv,Zjl,Zg8,Zjr,Zb,h0,h1,hF,key,hrf,hrn]
  exact hO
 ·rw[h]at key
  unfold hr t10 tX t10 rs at *
  simp -implicitDefEqProofs only[EQA,Zc,ZT,Xd,Xc,Xa,Xg,Zy,Z6,reduceCtorEq,↓reduceIte,gcT,gcA,Zw,Zt,Zn,Zo,ZI,Zm,ZD,Zz,ZB,Xv,Zjl,Zg8,Zjr,Zb,h0,key,hrf,hrn]
  exact hO
 ·rw[h]at key
  unfold hr t10 tX t10 rs at *
  simp -implicitDefEqProofs only[EQA,Zc,ZT,Xd,Xc,Xa,Xg,Zy,unG,reduceCtorEq,↓reduceIte,gcT,gcA,Zw,Zt,Zn,Zo,ZI,Zm,ZD,Zz,ZB,Xv,Zjl,Zg8,Zjr,Zb,h0,h1,key,hrf,hrn]
  exact hO
theorem ZxP{kd:Int}(hQ:QOk kd Q):E 73 [.ref 0 0,.ref 1 0] (hr s Q)=some (.tup [],hdR Q 8 1 (AVal.int .i64) (Zcb (Zal kd) s).1 (Zcb (Zal kd) s).2):=by
 have hF:=fun(G:Za) sq hs=>Zdj s 130 G 0 sq hs
 have lF:=Zrq s
 have key:=Zoj (one:=(Zal kd)) (lv:=[1,0]) (c:=ZfB) (x:=31) (n:=0) (Q:=Q) (k:=8) (w:=1) (g:=AVal.int .i64) 1099511627775 (fun acc s hm=>ZMn hQ acc s hm)
  (fun acc s hl hlim hm=>by
   cases acc with
   |nil=>exact ZVk hQ s hl hm
   |cons y ys=>rw[Zpv];exact ZDb hQ (y::ys) s hl (by omega) hm)
  (fun s hl hm=>⟨Zqi kd s hl,ZGS kd s⟩) s.1.length [] (ZcQ s) (by omega) (by grind) (by grind)
 simp only[Xp]at key
 have hO:=ZpJ (w:=1) (g:=AVal.int .i64) hQ.len hQ.nor (k:=8) (by omega) (Zcb (Zal kd) s).1 (Zcb (Zal kd) s).2
 unfold Zcb at *
 generalize Zc2 (Zal kd) s.1.length (ZcQ s)=Z at *
 have hrf:=(Z5 (fun _ _=>none) Q hQ.nor).2
 have hrn:=fun C=>(Z5 C Q hQ.nor).1
 rw[Zg (by rfl) ZS3]
 unfold hdR at key
 simp only at key
 rcases Zq0 s with⟨h,h0,h1⟩ |⟨h,h0⟩ |⟨h,h0,h1⟩
 ·rw[h]at key
  unfold hr t10 tX t10 rs at *
  simp -implicitDefEqProofs only[EQA,Zc,ZT,Xd,Xc,Xa,Xg,Zy,unG,reduceCtorEq,↓reduceIte,gcT,gcA,Zw,Zt,Zn,Zo,ZI,Zm,ZD,Zz,ZB,Xv,Zqd,Zks,ZpC,Zb,h0,h1,hF,key,hrf,hrn]
  exact hO
 ·rw[h]at key
  unfold hr t10 tX t10 rs at *
  simp -implicitDefEqProofs only[EQA,Zc,ZT,Xd,Xc,Xa,Xg,Zy,Z6,reduceCtorEq,↓reduceIte,gcT,gcA,Zw,Zt,Zn,Zo,ZI,Zm,ZD,Zz,ZB,Xv,Zqd,Zks,ZpC,Zb,h0,key,hrf,hrn]
  exact hO
 ·rw[h]at key
  unfold hr t10 tX t10 rs at *
  simp -implicitDefEqProofs only[EQA,Zc,ZT,Xd,Xc,Xa,Xg,Zy,unG,reduceCtorEq,↓reduceIte,gcT,gcA,Zw,Zt,Zn,Zo,ZI,Zm,ZD,Zz,ZB,Xv,Zqd,Zks,ZpC,Zb,h0,h1,key,hrf,hrn]
  exact hO
end
theorem ZmY{O:ZS}{bf:Nat->Bool}{f k n w:Nat}{s s':RS}{P Q xs:List AVal}{B:Za}(hb:bf f=false)(hn:Ze P=true)(hL:Q.length=26)(hn':Ze Q=true)(hk:k<26)
  (h:O f [.ref 0 0,.ref 1 0] (hr s P)=some (.tup [],[.var (rs s'),.var (Zi Q k 2 0 n),.row 0 w xs])):Zq O bf (.var (rs s)::.var P::.free::B) 2 f 1 true [.ref 0 0,.ref 1 0]=some (.tup [],.var (rs s')::.var (Zi Q k 2 0 n)::.row 0 w xs::B,{ any:=true,upd:=[(0,rs s'),(1,Zi Q k 2 0 n)] }):=by
 have e1:=fun C s=>Z5 C (rs s) (ZbA s)
 have e2:=fun C=>Z5 C P hn
 have hask:ZV true 2 (some (.tup [],[.var (rs s'),.var (Zi Q k 2 0 n),.row 0 w xs]))=some (.tup [],[.var (rs s'),.var (Zi Q k 2 0 n),.row 0 w xs]):=by
  have:=ZgB (L:=.lst false (s'.1.map Zh)) (c:=.int .i64 s'.2) (w:=w) (xs:=xs) (B:=[]) (Za0 Q hL hn' k hk n 2 0) (fun C h=>ZaC Q hL hn' k hk n C h) rfl rfl
  unfold ZV
  rw[if_pos rfl]
  exact this
 have hre:Zt (.var (rs s)::.var P::.free::B) 1000 (Zl [.ref 0 0,.ref 1 0]) []=[0,1]:=by
  simp only[Zl,ZH,Xr,XJ,Xp]
  rw[show(1000:Nat)=997+1+1+1 from rfl,Zt]
  simp only[Wh,Xi,if_false,Xm,ZB,(e1 (fun _ _=>none) s).2,Xp]
  rw[Zt]
  have : ([0]:List Nat).contains 1=false:=rfl
  simp only[this,Xi,if_false,Xs,Xm,ZB,(e2 (fun _ _=>none)).2,Xr]
  rfl
 have hb3:Zj (Zak (.var (rs s)::.var P::.free::B) [0,1] 2) (Zi Q k 2 0 n)=Zi Q k 2 0 n:=ZaC Q hL hn' k hk n _ (by simp[Zak])
 refine Zcf (vs:=[.ref 0 0,.ref 1 0]) (ids:=[0,1]) hb rfl hre rfl rfl rfl ?_ h hask (by simp) (by simp) rfl rfl rfl ?_ rfl rfl
 ·simp only[Zo,Xm,Xs,Zz,(e1 _ _).1,(e2 _).1,hr]
 ·simp only[ZaQ,ZaA,Xm,Xs,ZbZ,XN,Zm,Zz,(e1 _ _).1,hb3]
  rfl
def ZaH{D:Type}(one:RS->D×RS)(k:Int)(s:RS):Int×List ZO×List D×RS:=((idR s).1,(Zaa k (idR s).2).1,(Zcb one (Zaa k (idR s).2).2).1,(Zcb one (Zaa k (idR s).2).2).2)
section
variable (s:RS)(hl:s.1.length<=1099511627775){P:List AVal}
include hl
theorem ZE0(hQ:QOk 10 P):E 27 [.ref 0 0,.ref 1 0] (hr s P)=some (.tup [],hdR (Zbd P (ZaH ZA 10 s).1 (ZaH ZA 10 s).2.1) 11 1 AVal.str (ZaH ZA 10 s).2.2.1 (ZaH ZA 10 s).2.2.2):=by
 have a0:=hQ.ty
 have a1:=hQ.len
 have l1:=ZhV s (by omega)
 have hI:=fun(G:Za) sq hs=>ZiW s (by omega) G 0 sq hs
 have l2:=Zgh 10 (idR s).2
 have hY:=fun(G:Za) sq hs=>ZfX (idR s).2 (by omega) 10 (Zcs 10 _) G 0 sq hs
 have hM:=ZcC hQ (idR s).1 (Zaa 10 (idR s).2).1
 have hZ:=ZDR (Zaa 10 (idR s).2).2 (by omega) hM
 unfold ZaH
 simp only
 generalize Zcb ZA (Zaa 10 (idR s).2).2=Z at *
 generalize Zaa 10 (idR s).2=Y at *
 generalize idR s=I at *
 have a3:WI 4 P++[AVal.int .i64 I.1]++WO 5 P=P.set 4 (.int .i64 I.1):=by rw[XD,if_pos (by grind)];simp
 have hP1:(P.set 4 (.int .i64 I.1)).length=26:=by simp[a1]
 have g0:(P.set 4 (.int .i64 I.1))[0]?=some (.int .i64 10):=by rw[Xl (by omega)];exact a0
 unfold Zbd at hM hZ ⊢
 generalize P.set 4 (.int .i64 I.1)=P1 at *
 have b3:WI 9 P1++[AVal.lst false (Y.1.map Zu)]++WO 10 P1=P1.set 9 (.lst false (Y.1.map Zu)):=by rw[XD,if_pos (by grind)];simp
 generalize P1.set 9 (.lst false (Y.1.map Zu))=M at *
 have hgo:∃ (H:Za) (u:List (Nat×List AVal)),Zq E BY [.var (rs Y.2),.var M,.free] 2 72 1 true [.ref 0 0,.ref 1 0]=some (.tup [],H,{ any:=true,upd:=u })/\ZR 2 H (.tup [])=some (.tup [],hdR M 11 1 AVal.str Z.1 Z.2):=by
  obtain⟨zs,s'⟩:=Z
  cases zs with
  |nil=>exact⟨_,_,Ziv (own:=1) (by kernel_rfl) hM.nor hM.nor rfl hZ,Zen hM.nor _⟩
  |cons z zs=>exact⟨_,_,ZmY (by kernel_rfl) hM.nor hM.len hM.nor (by omega) hZ,ZgB (Za0 M hM.len hM.nor 11 (by omega) _ 2 0) (fun C h=>ZaC M hM.len hM.nor 11 (by omega) _ C h) rfl rfl⟩
 obtain⟨H,u,hG,hO⟩:=hgo
 rw[Zg (by rfl) Zdf]
 unfold hr at *
 simp -implicitDefEqProofs only[EQA,Zs,ZE,Zc,Xd,Xc,Xf,Xa,Xg,reduceCtorEq,↓reduceIte,Zdd,ZcL,Zdn,Zb,a0,a1,a3,hI,hP1,g0,b3,hY,hG,Xj,hO]
theorem ZUW(hQ:QOk 8 P):E 27 [.ref 0 0,.ref 1 0] (hr s P)=some (.tup [],hdR (Zbd P (ZaH ZaS 8 s).1 (ZaH ZaS 8 s).2.1) 10 6 Z8 (ZaH ZaS 8 s).2.2.1 (ZaH ZaS 8 s).2.2.2):=by
 have a0:=hQ.ty
 have a1:=hQ.len
 have l1:=ZhV s (by omega)
 have hI:=fun(G:Za) sq hs=>ZiW s (by omega) G 0 sq hs
 have l2:=Zgh 8 (idR s).2
 have hY:=fun(G:Za) sq hs=>ZfX (idR s).2 (by omega) 8 (Zcs 8 _) G 0 sq hs
 have hM:=ZcC hQ (idR s).1 (Zaa 8 (idR s).2).1
 have hZ:=ZKa (Zaa 8 (idR s).2).2 (by omega) hM
 unfold ZaH
 simp only
 generalize Zcb ZaS (Zaa 8 (idR s).2).2=Z at *
 generalize Zaa 8 (idR s).2=Y at *
 generalize idR s=I at *
 have a3:WI 4 P++[AVal.int .i64 I.1]++WO 5 P=P.set 4 (.int .i64 I.1):=by rw[XD,if_pos (by grind)];simp
 have hP1:(P.set 4 (.int .i64 I.1)).length=26:=by simp[a1]
 have g0:(P.set 4 (.int .i64 I.1))[0]?=some (.int .i64 8):=by rw[Xl (by omega)];exact a0
 unfold Zbd at hM hZ ⊢
 generalize P.set 4 (.int .i64 I.1)=P1 at *
 have b3:WI 9 P1++[AVal.lst false (Y.1.map Zu)]++WO 10 P1=P1.set 9 (.lst false (Y.1.map Zu)):=by rw[XD,if_pos (by grind)];simp
 generalize P1.set 9 (.lst false (Y.1.map Zu))=M at *
 have hgo:∃ (H:Za) (u:List (Nat×List AVal)),Zq E BY [.var (rs Y.2),.var M,.free] 2 72 1 true [.ref 0 0,.ref 1 0]=some (.tup [],H,{ any:=true,upd:=u })/\ZR 2 H (.tup [])=some (.tup [],hdR M 10 6 Z8 Z.1 Z.2):=by
  obtain⟨zs,s'⟩:=Z
  cases zs with
  |nil=>exact⟨_,_,Ziv (own:=1) (by kernel_rfl) hM.nor hM.nor rfl hZ,Zen hM.nor _⟩
  |cons z zs=>exact⟨_,_,ZmY (by kernel_rfl) hM.nor hM.len hM.nor (by omega) hZ,ZgB (Za0 M hM.len hM.nor 10 (by omega) _ 2 0) (fun C h=>ZaC M hM.len hM.nor 10 (by omega) _ C h) rfl rfl⟩
 obtain⟨H,u,hG,hO⟩:=hgo
 rw[Zg (by rfl) Zdf]
 unfold hr at *
 simp -implicitDefEqProofs only[EQA,Zs,ZE,Zc,Xd,Xc,Xf,Xa,Xg,reduceCtorEq,↓reduceIte,Zdd,ZcL,Zdn,Zb,a0,a1,a3,hI,hP1,g0,b3,hY,hG,Xj,hO]
theorem ZM0(hQ:QOk 9 P):E 27 [.ref 0 0,.ref 1 0] (hr s P)=some (.tup [],hdR (Zbd P (ZaH (Zal 9) 9 s).1 (ZaH (Zal 9) 9 s).2.1) 8 1 (AVal.int .i64) (ZaH (Zal 9) 9 s).2.2.1 (ZaH (Zal 9) 9 s).2.2.2):=by
 have a0:=hQ.ty
 have a1:=hQ.len
 have l1:=ZhV s (by omega)
 have hI:=fun(G:Za) sq hs=>ZiW s (by omega) G 0 sq hs
 have l2:=Zgh 9 (idR s).2
 have hY:=fun(G:Za) sq hs=>ZfX (idR s).2 (by omega) 9 (Zcs 9 _) G 0 sq hs
 have hM:=ZcC hQ (idR s).1 (Zaa 9 (idR s).2).1
 have hZ:=ZxP (Zaa 9 (idR s).2).2 (by omega) hM
 unfold ZaH
 simp only
 generalize Zcb (Zal 9) (Zaa 9 (idR s).2).2=Z at *
 generalize Zaa 9 (idR s).2=Y at *
 generalize idR s=I at *
 have a3:WI 4 P++[AVal.int .i64 I.1]++WO 5 P=P.set 4 (.int .i64 I.1):=by rw[XD,if_pos (by grind)];simp
 have hP1:(P.set 4 (.int .i64 I.1)).length=26:=by simp[a1]
 have g0:(P.set 4 (.int .i64 I.1))[0]?=some (.int .i64 9):=by rw[Xl (by omega)];exact a0
 unfold Zbd at hM hZ ⊢
 generalize P.set 4 (.int .i64 I.1)=P1 at *
 have b3:WI 9 P1++[AVal.lst false (Y.1.map Zu)]++WO 10 P1=P1.set 9 (.lst false (Y.1.map Zu)):=by rw[XD,if_pos (by grind)];simp
 generalize P1.set 9 (.lst false (Y.1.map Zu))=M at *
 have hgo:∃ (H:Za) (u:List (Nat×List AVal)),Zq E BY [.var (rs Y.2),.var M,.free] 2 73 1 true [.ref 0 0,.ref 1 0]=some (.tup [],H,{ any:=true,upd:=u })/\ZR 2 H (.tup [])=some (.tup [],hdR M 8 1 (AVal.int .i64) Z.1 Z.2):=by
  obtain⟨zs,s'⟩:=Z
  cases zs with
  |nil=>exact⟨_,_,Ziv (own:=1) (by kernel_rfl) hM.nor hM.nor rfl hZ,Zen hM.nor _⟩
  |cons z zs=>exact⟨_,_,ZmY (by kernel_rfl) hM.nor hM.len hM.nor (by omega) hZ,ZgB (Za0 M hM.len hM.nor 8 (by omega) _ 2 0) (fun C h=>ZaC M hM.len hM.nor 8 (by omega) _ C h) rfl rfl⟩
 obtain⟨H,u,hG,hO⟩:=hgo
 rw[Zg (by rfl) Zdf]
 unfold hr at *
 simp -implicitDefEqProofs only[EQA,Zs,ZE,Zc,Xd,Xc,Xf,Xa,Xg,reduceCtorEq,↓reduceIte,Zdd,ZcL,Zdn,Zb,a0,a1,a3,hI,hP1,g0,b3,hY,hG,Xj,hO]
theorem ZUx(hQ:QOk 11 P):E 27 [.ref 0 0,.ref 1 0] (hr s P)=some (.tup [],hdR (Zbd P (ZaH (Zal 11) 11 s).1 (ZaH (Zal 11) 11 s).2.1) 8 1 (AVal.int .i64) (ZaH (Zal 11) 11 s).2.2.1 (ZaH (Zal 11) 11 s).2.2.2):=by
 have a0:=hQ.ty
 have a1:=hQ.len
 have l1:=ZhV s (by omega)
 have hI:=fun(G:Za) sq hs=>ZiW s (by omega) G 0 sq hs
 have l2:=Zgh 11 (idR s).2
 have hY:=fun(G:Za) sq hs=>ZfX (idR s).2 (by omega) 11 (Zcs 11 _) G 0 sq hs
 have hM:=ZcC hQ (idR s).1 (Zaa 11 (idR s).2).1
 have hZ:=ZxP (Zaa 11 (idR s).2).2 (by omega) hM
 unfold ZaH
 simp only
 generalize Zcb (Zal 11) (Zaa 11 (idR s).2).2=Z at *
 generalize Zaa 11 (idR s).2=Y at *
 generalize idR s=I at *
 have a3:WI 4 P++[AVal.int .i64 I.1]++WO 5 P=P.set 4 (.int .i64 I.1):=by rw[XD,if_pos (by grind)];simp
 have hP1:(P.set 4 (.int .i64 I.1)).length=26:=by simp[a1]
 have g0:(P.set 4 (.int .i64 I.1))[0]?=some (.int .i64 11):=by rw[Xl (by omega)];exact a0
 unfold Zbd at hM hZ ⊢
 generalize P.set 4 (.int .i64 I.1)=P1 at *
 have b3:WI 9 P1++[AVal.lst false (Y.1.map Zu)]++WO 10 P1=P1.set 9 (.lst false (Y.1.map Zu)):=by rw[XD,if_pos (by grind)];simp
 generalize P1.set 9 (.lst false (Y.1.map Zu))=M at *
 have hgo:∃ (H:Za) (u:List (Nat×List AVal)),Zq E BY [.var (rs Y.2),.var M,.free] 2 73 1 true [.ref 0 0,.ref 1 0]=some (.tup [],H,{ any:=true,upd:=u })/\ZR 2 H (.tup [])=some (.tup [],hdR M 8 1 (AVal.int .i64) Z.1 Z.2):=by
  obtain⟨zs,s'⟩:=Z
  cases zs with
  |nil=>exact⟨_,_,Ziv (own:=1) (by kernel_rfl) hM.nor hM.nor rfl hZ,Zen hM.nor _⟩
  |cons z zs=>exact⟨_,_,ZmY (by kernel_rfl) hM.nor hM.len hM.nor (by omega) hZ,ZgB (Za0 M hM.len hM.nor 8 (by omega) _ 2 0) (fun C h=>ZaC M hM.len hM.nor 8 (by omega) _ C h) rfl rfl⟩
 obtain⟨H,u,hG,hO⟩:=hgo
 rw[Zg (by rfl) Zdf]
 unfold hr at *
 simp -implicitDefEqProofs only[EQA,Zs,ZE,Zc,Xd,Xc,Xf,Xa,Xg,reduceCtorEq,↓reduceIte,Zdd,ZcL,Zdn,Zb,a0,a1,a3,hI,hP1,g0,b3,hY,hG,Xj,hO]
end
end
end Go.Proofs.YtjhabjdfhmbanaaGreatDoor
