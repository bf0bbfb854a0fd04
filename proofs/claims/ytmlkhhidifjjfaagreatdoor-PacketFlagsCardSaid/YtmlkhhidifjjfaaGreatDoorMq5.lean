/- The card of PacketFlags: for every input the law returns true, and each argument reads afterwards as it read before. No other condition; the tables of unicode/utf8 are tied to the program. -/
import Derived.Test.YtmlkhhidifjjfaaGreatDoorMq4
import Derived.Test.YtmlkhhidifjjfaaGreatDoorMq3
import Derived.Test.YtmlkhhidifjjfaaGreatDoorMq2
import Derived.Shelf.LaysM
import Derived.Shelf.Bytes.TryGrowAt
import Derived.Shelf.Bytes.GrowSliceCatch
import Derived.Lib.ByteType
import Derived.Lib.BufferAt
import Derived.Lib.BufferOwn
import Derived.Lib.AppendZeros
import Derived.Lib.Walk
import Derived.Lib.Hide
import Derived.Laws.CopyRow
import Derived.Laws.IdiomCopy
import Derived.Laws.MakeOwn
import Derived.WalkKit
import Derived.OwnWalk
import Derived.Defers
import Derived.Recover
import Derived.RegionTactic
import Derived.Shelf.RegionOpenPlain
import Derived.Deep.RegionWith
import Derived.Deep.Draws
import Derived.BigCall
import Derived.BigGuard
import Derived.Lib.BufferSrc
import Derived.Test.YtmlkhhidifjjfaaGreatDoorProg
import Derived.Lib.LaidU8T
import Derived.Test.YtmlkhhidifjjfaaGreatDoorRows
import Derived.Deep.Slices
import Derived.Test.YtmlkhhidifjjfaaGreatDoorCards
import Derived.Test.YtmlkhhidifjjfaaGreatDoorTie
import Derived.ProofKit
import Derived.OpenShut
import Derived.ShutString
import Derived.ChangeOld
import Derived.Below
import Derived.SevenTiedAt
import Derived.LaidByTextLater
import Derived.Lib.LaidIn
import Derived.Deep.DeepHandedRow
import Derived.MakeChecks
set_option linter.defProp false
set_option linter.unusedSectionVars false
set_option linter.unusedSimpArgs false
set_option linter.unusedVariables false
namespace Go.Proofs.YtmlkhhidifjjfaaGreatDoor
set_option maxHeartbeats 16000000
set_option maxRecDepth 10000
section
section
variable {O:ZL} {bf:Nat->Bool} {fm f w:Nat} {cs cs2 cs3 ys:List AVal} {x:AVal} {σ:Za}
theorem ZlT (h0:σ[0]?=some (.var cs)) (h1:σ[1]?=some (.var [.ref 0 0])) (h2:σ[2]?=some (.var [.ref 0 0])) (hc:Zp cs=[]):ZA σ 1000 [0,2,1] []=[0,2,1]:=by
 have d0:σ.getD 0 .free=.var cs:=by simp [List.getD_eq_getElem?_getD,h0]
 have d1:σ.getD 1 .free=.var [.ref 0 0]:=by simp [List.getD_eq_getElem?_getD,h1]
 have d2:σ.getD 2 .free=.var [.ref 0 0]:=by simp [List.getD_eq_getElem?_getD,h2]
 rw [show (1000:Nat)=994+1+1+1+1+1+1 from rfl]
 simp only [ZA,d0,d1,d2,ZN,Zp,ZV,hc,List.contains_cons,List.contains_nil,List.append_nil,List.nil_append,List.cons_append,Bool.or_false,Bool.false_eq_true,if_false]
 simp
theorem ZoV (h0:σ[0]?=some (.var cs)) (hc:Zp cs=[]):ZA σ 1000 [0,0] []=[0]:=by
 have d0:σ.getD 0 .free=.var cs:=by simp [List.getD_eq_getElem?_getD,h0]
 rw [show (1000:Nat)=996+1+1+1+1 from rfl]
 simp only [ZA,d0,ZN,hc,List.contains_cons,List.contains_nil,List.append_nil,List.nil_append,List.cons_append,Bool.or_false,Bool.false_eq_true,if_false]
 simp
def hB (cs:List AVal) (b:ZI):Za:=[.var cs,.var [.ref 0 0],.var [.ref 0 0],b]
theorem Zpc (hb:bf fm=false) (hc:Zd cs=true) (hrf:Zp cs2=[3]) (hren:∀ ρ:Rho,ρ 3 0=some (3,0)->Ze ρ cs2=cs2)
  (hO:O fm [.ref 0 0,.fn f [.ref 1 0,.ref 2 0]] [.var cs,.var [.ref 0 0],.var [.ref 0 0]]=some (.tup [],[.var cs2,.var [.ref 0 0],.var [.ref 0 0],.row 0 w ys])) :
  Zj O bf (hB cs .free) 3 fm 1 true [.ref 0 0,.fn f [.ref 2 0,.ref 1 0]]=some (.tup [],hB cs2 (.row 0 w ys),{ any:=true,upd:=[(0,cs2),(2,[.ref 0 0]),(1,[.ref 0 0])] }):=by
 have hv:Z6 true 3 (some (.tup [],[.var cs2,.var [.ref 0 0],.var [.ref 0 0],.row 0 w ys]))=some (.tup [],[.var cs2,.var [.ref 0 0],.var [.ref 0 0],.row 0 w ys]):=Zjq (r:=.tup []) rfl hrf hren []
 have ec:=fun ρ=>ZaM ρ cs hc
 unfold hB
 refine ZcP (ids:=[0,2,1]) (vs:=[.ref 0 0,.fn f [.ref 2 0,.ref 1 0]]) hb rfl (ZlT rfl rfl rfl (ec (fun _ _=>none)).2) rfl rfl rfl ?_ hO hv (by simp) (by simp) rfl rfl rfl ?_ rfl
 ·show [ZI.var (Ze _ cs),.var (Ze _ [.ref 0 0]),.var (Ze _ [.ref 0 0])]=_
  rw [(ec _).1];rfl
 ·have hb3:=hren (Zaz [.var cs,.var [.ref 0 0],.var [.ref 0 0],.free] [0,2,1] 3) rfl
  show [ZI.var (Ze _ cs2),.var (Ze _ [.ref 0 0]),.var (Ze _ [.ref 0 0]),.row 0 w ys]=_
  rw [hb3];rfl
theorem Zmc (hb:bf fm=false) (hc:Zd cs=true) (hc2:Zd cs2=true) (hx:ZG x=true)
  (hO:O fm [.ref 0 0,.fn f [.ref 1 0,.ref 2 0]] [.var cs,.var [.ref 0 0],.var [.ref 0 0]]=some (.pan x,[.var cs2,.var [.ref 0 0],.var [.ref 0 0]])) :
  Zj O bf (hB cs .free) 3 fm 1 true [.ref 0 0,.fn f [.ref 2 0,.ref 1 0]]=some (.pan x,hB cs2 .free,{ any:=true,upd:=[(0,cs2),(2,[.ref 0 0]),(1,[.ref 0 0])] }):=by
 have ec:=fun ρ=>ZaM ρ cs hc
 have hnp:ZG (.pan x)=true:=by simpa only [ZG] using hx
 unfold hB
 refine ZcP (ids:=[0,2,1]) (vs:=[.ref 0 0,.fn f [.ref 2 0,.ref 1 0]]) hb rfl (ZlT rfl rfl rfl (ec (fun _ _=>none)).2) rfl rfl rfl ?_ hO rfl (by simp) (by simp) rfl rfl (ZaW _ _ hnp).1 ?_ rfl
 ·show [ZI.var (Ze _ cs),.var (Ze _ [.ref 0 0]),.var (Ze _ [.ref 0 0])]=_
  rw [(ec _).1];rfl
 ·show [ZI.var (Ze _ cs2),.var (Ze _ [.ref 0 0]),.var (Ze _ [.ref 0 0]),.free]=_
  rw [(ZaM _ cs2 hc2).1];rfl
theorem Zmt (hb:bf fm=false) (hc:Zd cs=true) (hren:∀ ρ:Rho,ρ 3 0=some (3,0)->Ze ρ cs2=cs2) (hx:ZG x=true)
  (hO:O fm [.ref 0 0,.fn f [.ref 1 0,.ref 2 0]] [.var cs,.var [.ref 0 0],.var [.ref 0 0]]=some (.pan x,[.var cs2,.var [.ref 0 0],.var [.ref 0 0],.row 0 w ys])) :
  Zj O bf (hB cs .free) 3 fm 1 true [.ref 0 0,.fn f [.ref 2 0,.ref 1 0]]=some (.pan x,hB cs2 (.row 0 w ys),{ any:=true,upd:=[(0,cs2),(2,[.ref 0 0]),(1,[.ref 0 0])] }):=by
 have ec:=fun ρ=>ZaM ρ cs hc
 have hnp:ZG (.pan x)=true:=by simpa only [ZG] using hx
 unfold hB
 refine ZcP (ids:=[0,2,1]) (vs:=[.ref 0 0,.fn f [.ref 2 0,.ref 1 0]]) hb rfl (ZlT rfl rfl rfl (ec (fun _ _=>none)).2) rfl rfl rfl ?_ hO rfl (by simp) (by simp) rfl rfl (ZaW _ _ hnp).1 ?_ rfl
 ·show [ZI.var (Ze _ cs),.var (Ze _ [.ref 0 0]),.var (Ze _ [.ref 0 0])]=_
  rw [(ec _).1];rfl
 ·have hb3:=hren (Zaz [.var cs,.var [.ref 0 0],.var [.ref 0 0],.free] [0,2,1] 3) rfl
  show [ZI.var (Ze _ cs2),.var (Ze _ [.ref 0 0]),.var (Ze _ [.ref 0 0]),.row 0 w ys]=_
  rw [hb3];rfl
theorem ZKy (hb:bf fm=false) (hc:Zd cs=true) (hrf:Zp cs2=[1]) (hren:∀ ρ:Rho,ρ 1 0=some (1,0)->Ze ρ cs2=cs2) (hback:∀ ρ:Rho,ρ 1 0=some (3,0)->Ze ρ cs2=cs3)
  (hO:O fm [.ref 0 0,.fn f [.ref 0 0]] [.var cs]=some (.tup [],[.var cs2,.row 0 w ys])) :
  Zj O bf (hB cs .free) 3 fm 1 true [.ref 0 0,.fn f [.ref 0 0]]=some (.tup [],hB cs3 (.row 0 w ys),{ any:=true,upd:=[(0,cs3)] }):=by
 have hv:Z6 true 1 (some (.tup [],[.var cs2,.row 0 w ys]))=some (.tup [],[.var cs2,.row 0 w ys]):=ZcQ (j:=1) (σ:=[.var cs2,.row 0 w ys]) (r:=.tup []) rfl (by omega) rfl rfl hrf hren
 have ec:=fun ρ=>ZaM ρ cs hc
 unfold hB
 refine ZcP (ids:=[0]) (vs:=[.ref 0 0,.fn f [.ref 0 0]]) hb rfl (ZoV rfl (ec (fun _ _=>none)).2) rfl rfl rfl ?_ hO hv (by simp) (by simp) rfl rfl rfl ?_ rfl
 ·show [ZI.var (Ze _ cs)]=_
  rw [(ec _).1]
 ·have hb3:=hback (Zaz [.var cs,.var [.ref 0 0],.var [.ref 0 0],.free] [0] 3) rfl
  show [ZI.var (Ze _ cs2),.var [.ref 0 0],.var [.ref 0 0],.row 0 w ys]=_
  rw [hb3]
theorem ZH4 (hb:bf fm=false) (hc:Zd cs=true) (hc2:Zd cs2=true) (hx:ZG x=true)
  (hO:O fm [.ref 0 0,.fn f [.ref 0 0]] [.var cs]=some (.pan x,[.var cs2])) :
  Zj O bf (hB cs .free) 3 fm 1 true [.ref 0 0,.fn f [.ref 0 0]]=some (.pan x,hB cs2 .free,{ any:=true,upd:=[(0,cs2)] }):=by
 have ec:=fun ρ=>ZaM ρ cs hc
 have hnp:ZG (.pan x)=true:=by simpa only [ZG] using hx
 unfold hB
 refine ZcP (ids:=[0]) (vs:=[.ref 0 0,.fn f [.ref 0 0]]) hb rfl (ZoV rfl (ec (fun _ _=>none)).2) rfl rfl rfl ?_ hO rfl (by simp) (by simp) rfl rfl (ZaW _ _ hnp).1 ?_ rfl
 ·show [ZI.var (Ze _ cs)]=_
  rw [(ec _).1]
 ·show [ZI.var (Ze _ cs2),.var [.ref 0 0],.var [.ref 0 0],.free]=_
  rw [(ZaM _ cs2 hc2).1]
theorem Zyw (hb:bf fm=false) (hc:Zd cs=true) (hback:∀ ρ:Rho,ρ 1 0=some (3,0)->Ze ρ cs2=cs3) (hx:ZG x=true)
  (hO:O fm [.ref 0 0,.fn f [.ref 0 0]] [.var cs]=some (.pan x,[.var cs2,.row 0 w ys])) :
  Zj O bf (hB cs .free) 3 fm 1 true [.ref 0 0,.fn f [.ref 0 0]]=some (.pan x,hB cs3 (.row 0 w ys),{ any:=true,upd:=[(0,cs3)] }):=by
 have ec:=fun ρ=>ZaM ρ cs hc
 have hnp:ZG (.pan x)=true:=by simpa only [ZG] using hx
 unfold hB
 refine ZcP (ids:=[0]) (vs:=[.ref 0 0,.fn f [.ref 0 0]]) hb rfl (ZoV rfl (ec (fun _ _=>none)).2) rfl rfl rfl ?_ hO rfl (by simp) (by simp) rfl rfl (ZaW _ _ hnp).1 ?_ rfl
 ·show [ZI.var (Ze _ cs)]=_
  rw [(ec _).1]
 ·have hb3:=hback (Zaz [.var cs,.var [.ref 0 0],.var [.ref 0 0],.free] [0] 3) rfl
  show [ZI.var (Ze _ cs2),.var [.ref 0 0],.var [.ref 0 0],.row 0 w ys]=_
  rw [hb3]
end
def Zb8 (Q:List AVal) (kk n:Nat) (l:Zb) (w:Nat) (ys:List AVal):Za:=[.var (Zi Q kk 1 0 n++[.lst false (l.map Zc)]),.row 0 w ys]
def ZhW (kk w:Nat) (l:Zb) (P:List AVal) (e:Int):Prop :=
 (∃ cs,Zd cs=true/\E 27 [.ref 0 0] (Zg P l)=some (.pan (Zy e),[.var cs])) \/
 (∃ (Q:List AVal) (n:Nat) (r:Zb) (ys:List AVal),Q.length=26/\Zd Q=true/\E 27 [.ref 0 0] (Zg P l)=some (.pan (Zy e),Zb8 Q kk n r w ys))
theorem ZIM (xs:List Zb):kOk 1 (xs.map AVal.str)=true:=by cases xs <;> rfl
theorem ZBB (xs:List Int):kOk 1 (xs.map (AVal.int .i64))=true:=by cases xs <;> rfl
theorem fT0 {k:Int} (Q:List AVal) (h:QOk k Q) (l s r:Zb) (hl:l.length<=1099511627776) (ho:Zap l=.ok (s,r)):E 63 [.ref 0 0,.ref 2 0] [.var [.ref 1 0],.var (Q++[.lst false (l.map Zc)]),.var [.ref 1 0]]=some (.tup [],[.var [.ref 1 0],.var (Zi Q 11 3 0 1++[.lst false (r.map Zc)]),.var [.ref 1 0],.row 0 1 [AVal.str s]]) :=
 ZFU Q h.len h.nor l (by omega) h.c11 ho
theorem fF0 {k:Int} (Q:List AVal) (h:QOk k Q) (l:Zb) (e:Int) (hl:l.length<=1099511627776) (ho:Zap l=.error e):∃ r:Zb,E 63 [.ref 0 0,.ref 2 0] [.var [.ref 1 0],.var (Q++[.lst false (l.map Zc)]),.var [.ref 1 0]]=some (.pan (Zy e),[.var [.ref 1 0],.var (Q++[.lst false (r.map Zc)]),.var [.ref 1 0]]) :=
 ⟨l,ZJA Q h.len h.nor l (by omega) ho h.c11⟩
theorem fT1 {k:Int} (Q:List AVal) (h:QOk k Q) (xs:List Zb) (l s r:Zb) (hl:l.length<=1099511627776) (hx:xs.length<=1099511627776) (ho:Zap l=.ok (s,r)):E 63 [.ref 0 0,.ref 3 0] [.var [.ref 1 0],.var (Zi Q 11 2 0 xs.length++[.lst false (l.map Zc)]),.row 0 1 (xs.map AVal.str),.var [.ref 1 0]]=some (.tup [],[.var [.ref 1 0],.var (Zi Q 11 2 1 (xs.length+1)++[.lst false (r.map Zc)]),.row 1 1 ((xs++[s]).map AVal.str),.var [.ref 1 0]]):=by
 have:=ZvB Q h.len h.nor l (by omega) (xs.map AVal.str) (by simp;omega) (ZIM xs) ho
 rw [List.length_map] at this
 rw [List.map_append]
 exact this
theorem fF1 {k:Int} (Q:List AVal) (h:QOk k Q) (xs:List Zb) (l:Zb) (e:Int) (hl:l.length<=1099511627776) (ho:Zap l=.error e):∃ r:Zb,E 63 [.ref 0 0,.ref 3 0] [.var [.ref 1 0],.var (Zi Q 11 2 0 xs.length++[.lst false (l.map Zc)]),.row 0 1 (xs.map AVal.str),.var [.ref 1 0]]=some (.pan (Zy e),[.var [.ref 1 0],.var (Zi Q 11 2 0 xs.length++[.lst false (r.map Zc)]),.row 0 1 (xs.map AVal.str),.var [.ref 1 0]]):=by
 have:=Zyu Q h.len h.nor l (by omega) (xs.map AVal.str) ho
 rw [List.length_map] at this
 exact ⟨l,this⟩
theorem cT0 {k:Int} (Q:List AVal) (h:QOk k Q) (l:Zb) (s:Int) (r:Zb) (hl:l.length<=1099511627776) (ho:ZaD k l=.ok (s,r)):E 65 [.ref 0 0,.ref 2 0] [.var [.ref 1 0],.var (Q++[.lst false (l.map Zc)]),.var [.ref 1 0]]=some (.tup [],[.var [.ref 1 0],.var (Zi Q 8 3 0 1++[.lst false (r.map Zc)]),.var [.ref 1 0],.row 0 1 [AVal.int .i64 s]]) :=
 ZEN Q h.len h.nor l (by omega) h.c8 k h.ty ho
theorem cF0 {k:Int} (Q:List AVal) (h:QOk k Q) (l:Zb) (e:Int) (hl:l.length<=1099511627776) (ho:ZaD k l=.error e):∃ r:Zb,E 65 [.ref 0 0,.ref 2 0] [.var [.ref 1 0],.var (Q++[.lst false (l.map Zc)]),.var [.ref 1 0]]=some (.pan (Zy e),[.var [.ref 1 0],.var (Q++[.lst false (r.map Zc)]),.var [.ref 1 0]]) :=
 ZFm Q h.len h.nor l (by omega) h.c8 k h.ty ho
theorem cT1 {k:Int} (Q:List AVal) (h:QOk k Q) (xs:List Int) (l:Zb) (s:Int) (r:Zb) (hl:l.length<=1099511627776) (hx:xs.length<=1099511627776) (ho:ZaD k l=.ok (s,r)):E 65 [.ref 0 0,.ref 3 0] [.var [.ref 1 0],.var (Zi Q 8 2 0 xs.length++[.lst false (l.map Zc)]),.row 0 1 (xs.map (AVal.int .i64)),.var [.ref 1 0]]=some (.tup [],[.var [.ref 1 0],.var (Zi Q 8 2 1 (xs.length+1)++[.lst false (r.map Zc)]),.row 1 1 ((xs++[s]).map (AVal.int .i64)),.var [.ref 1 0]]):=by
 have:=Zwv Q h.len h.nor l (by omega) (xs.map (AVal.int .i64)) (by simp;omega) (ZBB xs) k h.ty ho
 rw [List.length_map] at this
 rw [List.map_append]
 exact this
theorem cF1 {k:Int} (Q:List AVal) (h:QOk k Q) (xs:List Int) (l:Zb) (e:Int) (hl:l.length<=1099511627776) (ho:ZaD k l=.error e):∃ r:Zb,E 65 [.ref 0 0,.ref 3 0] [.var [.ref 1 0],.var (Zi Q 8 2 0 xs.length++[.lst false (l.map Zc)]),.row 0 1 (xs.map (AVal.int .i64)),.var [.ref 1 0]]=some (.pan (Zy e),[.var [.ref 1 0],.var (Zi Q 8 2 0 xs.length++[.lst false (r.map Zc)]),.row 0 1 (xs.map (AVal.int .i64)),.var [.ref 1 0]]):=by
 have:=ZJ4 Q h.len h.nor l (by omega) (xs.map (AVal.int .i64)) k h.ty ho
 rw [List.length_map] at this
 exact this
section
variable (P:List AVal) (l:Zb) (hl:l.length<=1099511627775)
include hl
theorem Zzs (hP:QOk 10 P) {n:Int} {ps:List Zt} {ts:List Zb} (h:Zbw Zap 10 l=.ok (n,ps,ts)) :
  E 27 [.ref 0 0] (Zg P l)=some (.tup [],Zb8 (ZbO P n ps) 11 ts.length [] 1 (ts.map AVal.str)):=by
 have hk:(11:Nat) < 26:=by omega
 have hE:=ZnV (g:=AVal.str) (kk:=11) (f:=63) (by omega) (by decide) (by kernel_rfl) ZmH fT0 fF0 fT1 fF1 hP hl h
 have hQ:=Zdk hP n ps
 obtain ⟨hL,hN,h0,-,-,-⟩:=hP
 unfold H3 at hE
 generalize ZbO P n ps=Q at *
 have hC:=Zpc (O:=E) (bf:=BY) (fm:=61) (by kernel_rfl) (Zw P hL hN false (l.map Zc)) (Zbo Q hQ.len hQ.nor hk 3 0 ts.length []) (fun ρ h=>ZaJ Q hQ.len hQ.nor hk 3 0 ts.length 3 0 [] ρ h) hE
 have a4:=fun L=>(Z2 P hL 0 (by omega) L).trans h0
 have hR:=ZbP Q hQ.len hQ.nor 11 hk ts.length 3 0
 have b2:=Zao _ hR
 have m1:=Za5
 have z:=z0b
 have hO:=fun τ=>ZcQ (j:=3) (w:=1) (xs:=ts.map AVal.str) (r:=.tup []) (σ:=.var (Zi Q 11 3 0 ts.length++[.lst false []])::.var [.ref 0 0]::.var [.ref 0 0]::.row 0 1 (ts.map AVal.str)::τ) rfl (by omega) rfl rfl (Zbo Q hQ.len hQ.nor hk 3 0 ts.length []) (fun ρ h=>ZaJ Q hQ.len hQ.nor hk 3 0 ts.length 1 0 [] ρ h)
 unfold hB at hC
 simp only [List.map_nil] at hC
 unfold Zg Zb8
 clear hE h
 generalize Zi Q 11 3 0 ts.length=R at *
 generalize Zi Q 11 1 0 ts.length=R1 at *
 generalize ts.map AVal.str=ys at *
 rw [Zh (by rfl) Za6]
 simp -implicitDefEqProofs only [EQA,ZC,Zq,Nat.reduceAdd,Nat.reduceLT,Nat.reduceLeDiff,Nat.reduceEqDiff,Nat.reduceBEq,↓reduceIte,Zd,Za8,Za0,Zeb,oI,oN,a4,b2,hC,m1,Int.reduceBEq,z]
 exact hO _
theorem ZE3 (hP:QOk 10 P) {e:Int} (h:Zbw Zap 10 l=.error e):ZhW 11 1 l P e:=by
 have hk:(11:Nat) < 26:=by omega
 have hF:=ZpP (g:=AVal.str) (kk:=11) (f:=63) (by omega) (by decide) (by kernel_rfl) ZmH fT0 fF0 fT1 fF1 hP hl h
 obtain ⟨hL,hN,h0,-,-,-⟩:=hP
 have a4:=fun L=>(Z2 P hL 0 (by omega) L).trans h0
 rcases hF with ⟨cs,hc,hE⟩ | ⟨Q,xs,r,hQ,hQN,hE⟩
 ·have hC:=Zmc (O:=E) (bf:=BY) (fm:=61) (by kernel_rfl) (Zw P hL hN false (l.map Zc)) hc rfl hE
  refine Or.inl ⟨cs,hc,?_⟩
  unfold hB at hC
  unfold Zg
  clear hE h
  rw [Zh (by rfl) Za6]
  simp -implicitDefEqProofs only [EQA,ZC,Nat.reduceAdd,Nat.reduceLT,Nat.reduceLeDiff,Nat.reduceEqDiff,Nat.reduceBEq,↓reduceIte,Za8,Za0,oI,oN,a4,hC,Int.reduceBEq]
  exact ZS rfl hc
 ·unfold H3 at hE
  have hC:=Zmt (O:=E) (bf:=BY) (fm:=61) (by kernel_rfl) (Zw P hL hN false (l.map Zc)) (fun ρ h=>ZaJ Q hQ hQN hk 3 0 xs.length 3 0 r ρ h) rfl hE
  have hO:=fun τ=>ZcQ (j:=3) (w:=1) (xs:=xs.map AVal.str) (r:=.pan (Zy e)) (σ:=.var (Zi Q 11 3 0 xs.length++[.lst false (r.map Zc)])::.var [.ref 0 0]::.var [.ref 0 0]::.row 0 1 (xs.map AVal.str)::τ) rfl (by omega) rfl rfl (Zbo Q hQ hQN hk 3 0 xs.length r) (fun ρ h=>ZaJ Q hQ hQN hk 3 0 xs.length 1 0 r ρ h)
  refine Or.inr ⟨Q,xs.length,r,xs.map AVal.str,hQ,hQN,?_⟩
  unfold hB at hC
  unfold Zg Zb8
  clear hE h
  generalize Zi Q 11 3 0 xs.length=R at *
  generalize Zi Q 11 1 0 xs.length=R1 at *
  generalize xs.map AVal.str=ys at *
  generalize Zy e=ce at *
  rw [Zh (by rfl) Za6]
  simp -implicitDefEqProofs only [EQA,ZC,Nat.reduceAdd,Nat.reduceLT,Nat.reduceLeDiff,Nat.reduceEqDiff,Nat.reduceBEq,↓reduceIte,Za8,Za0,oI,oN,a4,hC,Int.reduceBEq]
  exact hO _
theorem ZFO (hP:QOk 9 P) {n:Int} {ps:List Zt} {ts:List Int} (h:Zbw (ZaD 9) 9 l=.ok (n,ps,ts)) :
  E 27 [.ref 0 0] (Zg P l)=some (.tup [],Zb8 (ZbO P n ps) 8 ts.length [] 1 (ts.map (AVal.int .i64))):=by
 have hk:(8:Nat) < 26:=by omega
 have hE:=ZnV (g:=(AVal.int .i64)) (kk:=8) (f:=65) (by omega) (by decide) (by kernel_rfl) ZkK cT0 cF0 cT1 cF1 hP hl h
 have hQ:=Zdk hP n ps
 obtain ⟨hL,hN,h0,-,-,-⟩:=hP
 unfold H3 at hE
 generalize ZbO P n ps=Q at *
 have hC:=Zpc (O:=E) (bf:=BY) (fm:=61) (by kernel_rfl) (Zw P hL hN false (l.map Zc)) (Zbo Q hQ.len hQ.nor hk 3 0 ts.length []) (fun ρ h=>ZaJ Q hQ.len hQ.nor hk 3 0 ts.length 3 0 [] ρ h) hE
 have a4:=fun L=>(Z2 P hL 0 (by omega) L).trans h0
 have hR:=ZbP Q hQ.len hQ.nor 8 hk ts.length 3 0
 have b2:=Zao _ hR
 have m1:=Za5
 have z:=z0b
 have hO:=fun τ=>ZcQ (j:=3) (w:=1) (xs:=ts.map (AVal.int .i64)) (r:=.tup []) (σ:=.var (Zi Q 8 3 0 ts.length++[.lst false []])::.var [.ref 0 0]::.var [.ref 0 0]::.row 0 1 (ts.map (AVal.int .i64))::τ) rfl (by omega) rfl rfl (Zbo Q hQ.len hQ.nor hk 3 0 ts.length []) (fun ρ h=>ZaJ Q hQ.len hQ.nor hk 3 0 ts.length 1 0 [] ρ h)
 unfold hB at hC
 simp only [List.map_nil] at hC
 unfold Zg Zb8
 clear hE h
 generalize Zi Q 8 3 0 ts.length=R at *
 generalize Zi Q 8 1 0 ts.length=R1 at *
 generalize ts.map (AVal.int .i64)=ys at *
 rw [Zh (by rfl) Za6]
 simp -implicitDefEqProofs only [EQA,ZC,Zq,Nat.reduceAdd,Nat.reduceLT,Nat.reduceLeDiff,Nat.reduceEqDiff,Nat.reduceBEq,↓reduceIte,Zd,Za8,Za0,Zeb,oI,oN,a4,b2,hC,m1,Int.reduceBEq,z]
 exact hO _
theorem ZxN (hP:QOk 9 P) {e:Int} (h:Zbw (ZaD 9) 9 l=.error e):ZhW 8 1 l P e:=by
 have hk:(8:Nat) < 26:=by omega
 have hF:=ZpP (g:=(AVal.int .i64)) (kk:=8) (f:=65) (by omega) (by decide) (by kernel_rfl) ZkK cT0 cF0 cT1 cF1 hP hl h
 obtain ⟨hL,hN,h0,-,-,-⟩:=hP
 have a4:=fun L=>(Z2 P hL 0 (by omega) L).trans h0
 rcases hF with ⟨cs,hc,hE⟩ | ⟨Q,xs,r,hQ,hQN,hE⟩
 ·have hC:=Zmc (O:=E) (bf:=BY) (fm:=61) (by kernel_rfl) (Zw P hL hN false (l.map Zc)) hc rfl hE
  refine Or.inl ⟨cs,hc,?_⟩
  unfold hB at hC
  unfold Zg
  clear hE h
  rw [Zh (by rfl) Za6]
  simp -implicitDefEqProofs only [EQA,ZC,Nat.reduceAdd,Nat.reduceLT,Nat.reduceLeDiff,Nat.reduceEqDiff,Nat.reduceBEq,↓reduceIte,Za8,Za0,oI,oN,a4,hC,Int.reduceBEq]
  exact ZS rfl hc
 ·unfold H3 at hE
  have hC:=Zmt (O:=E) (bf:=BY) (fm:=61) (by kernel_rfl) (Zw P hL hN false (l.map Zc)) (fun ρ h=>ZaJ Q hQ hQN hk 3 0 xs.length 3 0 r ρ h) rfl hE
  have hO:=fun τ=>ZcQ (j:=3) (w:=1) (xs:=xs.map (AVal.int .i64)) (r:=.pan (Zy e)) (σ:=.var (Zi Q 8 3 0 xs.length++[.lst false (r.map Zc)])::.var [.ref 0 0]::.var [.ref 0 0]::.row 0 1 (xs.map (AVal.int .i64))::τ) rfl (by omega) rfl rfl (Zbo Q hQ hQN hk 3 0 xs.length r) (fun ρ h=>ZaJ Q hQ hQN hk 3 0 xs.length 1 0 r ρ h)
  refine Or.inr ⟨Q,xs.length,r,xs.map (AVal.int .i64),hQ,hQN,?_⟩
  unfold hB at hC
  unfold Zg Zb8
  clear hE h
  generalize Zi Q 8 3 0 xs.length=R at *
  generalize Zi Q 8 1 0 xs.length=R1 at *
  generalize xs.map (AVal.int .i64)=ys at *
  generalize Zy e=ce at *
  rw [Zh (by rfl) Za6]
  simp -implicitDefEqProofs only [EQA,ZC,Nat.reduceAdd,Nat.reduceLT,Nat.reduceLeDiff,Nat.reduceEqDiff,Nat.reduceBEq,↓reduceIte,Za8,Za0,oI,oN,a4,hC,Int.reduceBEq]
  exact hO _
theorem Zvb (hP:QOk 11 P) {n:Int} {ps:List Zt} {ts:List Int} (h:Zbw (ZaD 11) 11 l=.ok (n,ps,ts)) :
  E 27 [.ref 0 0] (Zg P l)=some (.tup [],Zb8 (ZbO P n ps) 8 ts.length [] 1 (ts.map (AVal.int .i64))):=by
 have hk:(8:Nat) < 26:=by omega
 have hE:=ZnV (g:=(AVal.int .i64)) (kk:=8) (f:=65) (by omega) (by decide) (by kernel_rfl) ZkK cT0 cF0 cT1 cF1 hP hl h
 have hQ:=Zdk hP n ps
 obtain ⟨hL,hN,h0,-,-,-⟩:=hP
 unfold H3 at hE
 generalize ZbO P n ps=Q at *
 have hC:=Zpc (O:=E) (bf:=BY) (fm:=61) (by kernel_rfl) (Zw P hL hN false (l.map Zc)) (Zbo Q hQ.len hQ.nor hk 3 0 ts.length []) (fun ρ h=>ZaJ Q hQ.len hQ.nor hk 3 0 ts.length 3 0 [] ρ h) hE
 have a4:=fun L=>(Z2 P hL 0 (by omega) L).trans h0
 have hR:=ZbP Q hQ.len hQ.nor 8 hk ts.length 3 0
 have b2:=Zao _ hR
 have m1:=Za5
 have z:=z0b
 have hO:=fun τ=>ZcQ (j:=3) (w:=1) (xs:=ts.map (AVal.int .i64)) (r:=.tup []) (σ:=.var (Zi Q 8 3 0 ts.length++[.lst false []])::.var [.ref 0 0]::.var [.ref 0 0]::.row 0 1 (ts.map (AVal.int .i64))::τ) rfl (by omega) rfl rfl (Zbo Q hQ.len hQ.nor hk 3 0 ts.length []) (fun ρ h=>ZaJ Q hQ.len hQ.nor hk 3 0 ts.length 1 0 [] ρ h)
 unfold hB at hC
 simp only [List.map_nil] at hC
 unfold Zg Zb8
 clear hE h
 generalize Zi Q 8 3 0 ts.length=R at *
 generalize Zi Q 8 1 0 ts.length=R1 at *
 generalize ts.map (AVal.int .i64)=ys at *
 rw [Zh (by rfl) Za6]
 simp -implicitDefEqProofs only [EQA,ZC,Zq,Nat.reduceAdd,Nat.reduceLT,Nat.reduceLeDiff,Nat.reduceEqDiff,Nat.reduceBEq,↓reduceIte,Zd,Za8,Za0,Zeb,oI,oN,a4,b2,hC,m1,Int.reduceBEq,z]
 exact hO _
theorem ZDW (hP:QOk 11 P) {e:Int} (h:Zbw (ZaD 11) 11 l=.error e):ZhW 8 1 l P e:=by
 have hk:(8:Nat) < 26:=by omega
 have hF:=ZpP (g:=(AVal.int .i64)) (kk:=8) (f:=65) (by omega) (by decide) (by kernel_rfl) ZkK cT0 cF0 cT1 cF1 hP hl h
 obtain ⟨hL,hN,h0,-,-,-⟩:=hP
 have a4:=fun L=>(Z2 P hL 0 (by omega) L).trans h0
 rcases hF with ⟨cs,hc,hE⟩ | ⟨Q,xs,r,hQ,hQN,hE⟩
 ·have hC:=Zmc (O:=E) (bf:=BY) (fm:=61) (by kernel_rfl) (Zw P hL hN false (l.map Zc)) hc rfl hE
  refine Or.inl ⟨cs,hc,?_⟩
  unfold hB at hC
  unfold Zg
  clear hE h
  rw [Zh (by rfl) Za6]
  simp -implicitDefEqProofs only [EQA,ZC,Nat.reduceAdd,Nat.reduceLT,Nat.reduceLeDiff,Nat.reduceEqDiff,Nat.reduceBEq,↓reduceIte,Za8,Za0,oI,oN,a4,hC,Int.reduceBEq]
  exact ZS rfl hc
 ·unfold H3 at hE
  have hC:=Zmt (O:=E) (bf:=BY) (fm:=61) (by kernel_rfl) (Zw P hL hN false (l.map Zc)) (fun ρ h=>ZaJ Q hQ hQN hk 3 0 xs.length 3 0 r ρ h) rfl hE
  have hO:=fun τ=>ZcQ (j:=3) (w:=1) (xs:=xs.map (AVal.int .i64)) (r:=.pan (Zy e)) (σ:=.var (Zi Q 8 3 0 xs.length++[.lst false (r.map Zc)])::.var [.ref 0 0]::.var [.ref 0 0]::.row 0 1 (xs.map (AVal.int .i64))::τ) rfl (by omega) rfl rfl (Zbo Q hQ hQN hk 3 0 xs.length r) (fun ρ h=>ZaJ Q hQ hQN hk 3 0 xs.length 1 0 r ρ h)
  refine Or.inr ⟨Q,xs.length,r,xs.map (AVal.int .i64),hQ,hQN,?_⟩
  unfold hB at hC
  unfold Zg Zb8
  clear hE h
  generalize Zi Q 8 3 0 xs.length=R at *
  generalize Zi Q 8 1 0 xs.length=R1 at *
  generalize xs.map (AVal.int .i64)=ys at *
  generalize Zy e=ce at *
  rw [Zh (by rfl) Za6]
  simp -implicitDefEqProofs only [EQA,ZC,Nat.reduceAdd,Nat.reduceLT,Nat.reduceLeDiff,Nat.reduceEqDiff,Nat.reduceBEq,↓reduceIte,Za8,Za0,oI,oN,a4,hC,Int.reduceBEq]
  exact hO _
theorem ZLc (hP:QOk 8 P) {n:Int} {ps:List Zt} {ts:List Zbk} (h:Zbw Zbl 8 l=.ok (n,ps,ts)) :
  E 27 [.ref 0 0] (Zg P l)=some (.tup [],Zb8 (ZbO P n ps) 10 ts.length [] 6 (ts.map ZU)):=by
 have hk:(10:Nat) < 26:=by omega
 have hE:=Zy1 hP hl h
 have hQ:=Zdk hP n ps
 obtain ⟨hL,hN,h0,-,-,-⟩:=hP
 unfold H1 at hE
 generalize ZbO P n ps=Q at *
 have hC:=ZKy (O:=E) (bf:=BY) (fm:=61) (by kernel_rfl) (Zw P hL hN false (l.map Zc)) (Zbo Q hQ.len hQ.nor hk 1 0 ts.length []) (fun ρ h=>ZaJ Q hQ.len hQ.nor hk 1 0 ts.length 1 0 [] ρ h) (fun ρ h=>ZaJ Q hQ.len hQ.nor hk 1 0 ts.length 3 0 [] ρ h) hE
 have a4:=fun L=>(Z2 P hL 0 (by omega) L).trans h0
 have hR:=ZbP Q hQ.len hQ.nor 10 hk ts.length 3 0
 have b2:=Zao _ hR
 have m1:=Za5
 have z:=z0b
 have hO:=fun τ=>ZcQ (j:=3) (w:=6) (xs:=ts.map ZU) (r:=.tup []) (σ:=.var (Zi Q 10 3 0 ts.length++[.lst false []])::.var [.ref 0 0]::.var [.ref 0 0]::.row 0 6 (ts.map ZU)::τ) rfl (by omega) rfl rfl (Zbo Q hQ.len hQ.nor hk 3 0 ts.length []) (fun ρ h=>ZaJ Q hQ.len hQ.nor hk 3 0 ts.length 1 0 [] ρ h)
 unfold hB at hC
 simp only [List.map_nil] at hC
 unfold Zg Zb8
 clear hE h
 generalize Zi Q 10 3 0 ts.length=R at *
 generalize Zi Q 10 1 0 ts.length=R1 at *
 generalize ts.map ZU=ys at *
 rw [Zh (by rfl) Za6]
 simp -implicitDefEqProofs only [EQA,ZC,Zq,Nat.reduceAdd,Nat.reduceLT,Nat.reduceLeDiff,Nat.reduceEqDiff,Nat.reduceBEq,↓reduceIte,Zd,Za8,Za0,Zeb,oI,oN,a4,b2,hC,m1,Int.reduceBEq,z]
 exact hO _
theorem ZD5 (hP:QOk 8 P) {e:Int} (h:Zbw Zbl 8 l=.error e):ZhW 10 6 l P e:=by
 have hk:(10:Nat) < 26:=by omega
 have hF:=ZyX hP hl h
 obtain ⟨hL,hN,h0,-,-,-⟩:=hP
 have a4:=fun L=>(Z2 P hL 0 (by omega) L).trans h0
 rcases hF with ⟨cs,hc,hE⟩ | ⟨Q,xs,r,hQ,hQN,hE⟩
 ·have hC:=ZH4 (O:=E) (bf:=BY) (fm:=61) (by kernel_rfl) (Zw P hL hN false (l.map Zc)) hc rfl hE
  refine Or.inl ⟨cs,hc,?_⟩
  unfold hB at hC
  unfold Zg
  clear hE h
  rw [Zh (by rfl) Za6]
  simp -implicitDefEqProofs only [EQA,ZC,Nat.reduceAdd,Nat.reduceLT,Nat.reduceLeDiff,Nat.reduceEqDiff,Nat.reduceBEq,↓reduceIte,Za8,Za0,oI,oN,a4,hC,Int.reduceBEq]
  exact ZS rfl hc
 ·unfold H1 at hE
  have hC:=Zyw (O:=E) (bf:=BY) (fm:=61) (by kernel_rfl) (Zw P hL hN false (l.map Zc)) (fun ρ h=>ZaJ Q hQ hQN hk 1 0 xs.length 3 0 r ρ h) rfl hE
  have hO:=fun τ=>ZcQ (j:=3) (w:=6) (xs:=xs.map ZU) (r:=.pan (Zy e)) (σ:=.var (Zi Q 10 3 0 xs.length++[.lst false (r.map Zc)])::.var [.ref 0 0]::.var [.ref 0 0]::.row 0 6 (xs.map ZU)::τ) rfl (by omega) rfl rfl (Zbo Q hQ hQN hk 3 0 xs.length r) (fun ρ h=>ZaJ Q hQ hQN hk 3 0 xs.length 1 0 r ρ h)
  refine Or.inr ⟨Q,xs.length,r,xs.map ZU,hQ,hQN,?_⟩
  unfold hB at hC
  unfold Zg Zb8
  clear hE h
  generalize Zi Q 10 3 0 xs.length=R at *
  generalize Zi Q 10 1 0 xs.length=R1 at *
  generalize xs.map ZU=ys at *
  generalize Zy e=ce at *
  rw [Zh (by rfl) Za6]
  simp -implicitDefEqProofs only [EQA,ZC,Nat.reduceAdd,Nat.reduceLT,Nat.reduceLeDiff,Nat.reduceEqDiff,Nat.reduceBEq,↓reduceIte,Za8,Za0,oI,oN,a4,hC,Int.reduceBEq]
  exact hO _
end
end
section
section
variable {O:ZL} {bf:Nat->Bool} {σ:Za} {t f sq w:Nat} {rest:List AVal} {cs cs2 cs3 ys:List AVal}
theorem ZEd (hb:bf f=false) (hp:rest.all Z5=true) (hc:Zd cs=true) (hrf:Zp cs2=[1]) (hren:∀ ρ:Rho,ρ 1 0=some (1,0)->Ze ρ cs2=cs2) (hback:∀ ρ:Rho,ρ 1 0=some (sq,0)->Ze ρ cs2=cs3)
  (h:O f (.ref 0 0::rest.map ZD) [.var cs]=some (.tup [],[.var cs2,.row 0 w ys])) (hs:σ[t]?=some (.var cs)) (hff:ZaU σ sq 1=true):Zj O bf σ sq f 1 true (.ref t 0::rest)=some (.tup [],(σ.set t (.var cs3)).set sq (.row 0 w ys),{ any:=true,upd:=[(t,cs3)] }):=by
 have hfs:σ[sq]?=some .free:=Zgf (i:=0) hff (by omega)
 have hts:t≠sq:=by rintro rfl;rw [hs] at hfs;cases hfs
 have htl:t < σ.length:=(List.getElem?_eq_some_iff.1 hs).1
 have hd:σ.getD t .free=.var cs:=by simp [List.getD_eq_getElem?_getD,hs]
 have hsh:showAs σ (.ref t 0::rest)=some (.ref t 0::rest.map ZD,[]):=by
  rw [showAs,show showA σ (.ref t 0)=some (.ref t 0,[]) from rfl,ZdH hp]
  rfl
 have href:Zp (.ref t 0::rest.map ZD)=[t]:=by
  rw [Zp,Zc5 hp];rfl
 have hρ:Zl σ 0 [t] t 0=some (0,0):=by simp [Zl,ZZ,hs,Zm,ZR]
 have hask:Z6 true [t].length (some (.tup [],[.var cs2,.row 0 w ys]))=some (.tup [],[.var cs2,.row 0 w ys]):=ZcQ (j:=1) (σ:=[.var cs2,.row 0 w ys]) (r:=.tup []) rfl (by omega) rfl rfl hrf hren
 refine ZcP (ids:=[t]) hb hsh (by rw [href];exact ZeS hs hc) rfl (by simp [hs,okB]) ?_ ?_ h hask (by simp) (by simp) ?_ hff rfl ?_ ?_
 ·rw [Ze,Zdb hp]
  simp only [Zk,hρ]
 ·simp only [Zv,hd,ZF,(ZaM _ cs hc).1]
 ·simp [ZaV,okB,hs,Zb1,Zm]
 ·have hb3:Ze (Zaz σ [t] sq) cs2=cs3:=hback _ (by simp [Zaz])
  simp only [ZaY,ZaF,List.getD_cons_zero,Zb6,Zm,ZF,hb3]
  simp []
 ·have e1:((σ.set t (.var cs3)).set sq (.row 0 w ys))[t]?=some (.var cs3):=by
   rw [List.getElem?_set_ne (fun e=>hts e.symm),List.getElem?_set_self htl]
  simp only [Za2,e1]
theorem ZF6 {x:AVal} {view:Bool} (hb:bf f=false) (hp:rest.all Z5=true) (hc:Zd cs=true) (hback:∀ ρ:Rho,ρ 1 0=some (sq,0)->Ze ρ cs2=cs3) (hx:ZG x=true)
  (h:O f (.ref 0 0::rest.map ZD) [.var cs]=some (.pan x,[.var cs2,.row 0 w ys])) (hs:σ[t]?=some (.var cs)) (hff:ZaU σ sq 1=true):Zj O bf σ sq f 1 view (.ref t 0::rest)=some (.pan x,(σ.set t (.var cs3)).set sq (.row 0 w ys),{ any:=true,upd:=[(t,cs3)] }):=by
 have hfs:σ[sq]?=some .free:=Zgf (i:=0) hff (by omega)
 have hts:t≠sq:=by rintro rfl;rw [hs] at hfs;cases hfs
 have htl:t < σ.length:=(List.getElem?_eq_some_iff.1 hs).1
 have hd:σ.getD t .free=.var cs:=by simp [List.getD_eq_getElem?_getD,hs]
 have hnp:ZG (.pan x)=true:=by simpa only [ZG] using hx
 have hsh:showAs σ (.ref t 0::rest)=some (.ref t 0::rest.map ZD,[]):=by
  rw [showAs,show showA σ (.ref t 0)=some (.ref t 0,[]) from rfl,ZdH hp]
  rfl
 have href:Zp (.ref t 0::rest.map ZD)=[t]:=by
  rw [Zp,Zc5 hp];rfl
 have hρ:Zl σ 0 [t] t 0=some (0,0):=by simp [Zl,ZZ,hs,Zm,ZR]
 have hask:Z6 view [t].length (some (.pan x,[.var cs2,.row 0 w ys]))=some (.pan x,[.var cs2,.row 0 w ys]):=by
  unfold Z6
  split <;> rfl
 refine ZcP (ids:=[t]) hb hsh (by rw [href];exact ZeS hs hc) rfl (by simp [hs,okB]) ?_ ?_ h hask (by simp) (by simp) ?_ hff (ZaW _ _ hnp).1 ?_ ?_
 ·rw [Ze,Zdb hp]
  simp only [Zk,hρ]
 ·simp only [Zv,hd,ZF,(ZaM _ cs hc).1]
 ·simp [ZaV,okB,hs,Zb1,Zm]
 ·have hb3:Ze (Zaz σ [t] sq) cs2=cs3:=hback _ (by simp [Zaz])
  simp only [ZaY,ZaF,List.getD_cons_zero,Zb6,Zm,ZF,hb3]
  simp []
 ·have e1:((σ.set t (.var cs3)).set sq (.row 0 w ys))[t]?=some (.var cs3):=by
   rw [List.getElem?_set_ne (fun e=>hts e.symm),List.getElem?_set_self htl]
  simp only [Za2,e1]
end
section
variable (b:Int) (l:Zb) {P1 Q:List AVal} {kk n w:Nat} {ys:List AVal} (h1:P1.length=26) (n1:Zd P1=true) (hQ:Q.length=26) (nQ:Zd Q=true) (hk:kk < 26)
include h1 n1 hQ nQ hk
theorem ZF3 (oQ:∀ r g m,(Zi Q kk r g m).all ZX=true)
  (hf:E 26 [.ref 0 0,.int .u8 b] (Zg P0 l)=some (.tup [],Zg P1 l)) (hb:E 27 [.ref 0 0] (Zg P1 l)=some (.tup [],Zb8 Q kk n [] w ys)) :
  evC FC PR BY 3 c2R (tput tmR (some 5) .top) (σR b l)=some (.ret,[(3,.ref 2 0),(2,.ref 1 0)],[.var [.int .u8 b,.lst false (l.map Zc)],.var (Zi Q kk 4 0 n),.var [.int .i64 0],.var (Zi Q kk 4 0 n++[.lst false []]),.row 0 w ys]):=by
 have hF:=fun (σ:Za) sq (hs:σ[3]?=some (.var (P0++[.lst false (l.map Zc)])))=>ZcJ (O:=E) (bf:=BY) (f:=26) (rest:=[.int .u8 b]) (by kernel_rfl) rfl (by rfl) (ZaA n1 (by rfl)) rfl rfl hf hs sq
 have hB:=fun (σ:Za) (hs:σ[3]?=some (.var (P1++[.lst false (l.map Zc)]))) (hfr:σ[4]?=some .free)=>ZEd (O:=E) (bf:=BY) (f:=27) (sq:=4) (rest:=[]) (by kernel_rfl) rfl (ZaA n1 (by rfl)) (Zbo Q hQ nQ hk 1 0 n []) (fun ρ h=>ZaJ Q hQ nQ hk 1 0 n 1 0 [] ρ h) (fun ρ h=>ZaJ Q hQ nQ hk 1 0 n 4 0 [] ρ h) hb hs (by simp [ZaU,freeAt,hfr])
 have hR:=ZbP Q hQ nQ kk hk n 4 0
 have b1:=Z1 _ hR
 have b2:=Zej _ hR
 have o2:=oQ 4 0 n
 simp only [List.map_nil] at hB
 unfold P0 at hF
 simp only [List.cons_append,List.nil_append] at hF
 unfold tmR σR P0
 clear hf hb
 generalize Zi Q kk 4 0 n=R at *
 simp -implicitDefEqProofs only [EQA,Za1,Nat.reduceAdd,Nat.reduceLT,Nat.reduceLeDiff,Nat.reduceEqDiff,Nat.reduceBEq,↓reduceIte,c2R,AVal.cells,Zan,hF,hB,b1,b2,hR,o2]
theorem ZKl {c:Int} (hf:E 26 [.ref 0 0,.int .u8 b] (Zg P0 l)=some (.tup [],Zg P1 l)) {r:Zb} (hb:E 27 [.ref 0 0] (Zg P1 l)=some (.pan (Zy c),Zb8 Q kk n r w ys)) :
  evC FC PR BY 3 c2R (tput tmR (some 5) .top) (σR b l)=some (.panic (Zy c),[],[.var [.int .u8 b,.lst false (l.map Zc)],.var P0,.var [.int .i64 0],.var (Zi Q kk 4 0 n++[.lst false (r.map Zc)]),.row 0 w ys]):=by
 have hF:=fun (σ:Za) sq (hs:σ[3]?=some (.var (P0++[.lst false (l.map Zc)])))=>ZcJ (O:=E) (bf:=BY) (f:=26) (rest:=[.int .u8 b]) (by kernel_rfl) rfl (by rfl) (ZaA n1 (by rfl)) rfl rfl hf hs sq
 have hB:=fun (σ:Za) (hs:σ[3]?=some (.var (P1++[.lst false (l.map Zc)]))) (hff:ZaU σ 4 1=true)=>ZF6 (O:=E) (bf:=BY) (f:=27) (view:=true) (sq:=4) (rest:=[]) (by kernel_rfl) rfl (ZaA n1 (by rfl)) (fun ρ h=>ZaJ Q hQ nQ hk 1 0 n 4 0 r ρ h) rfl hb hs hff
 unfold P0 at hF
 simp only [List.cons_append,List.nil_append] at hF
 unfold tmR σR P0
 clear hf hb
 generalize Zi Q kk 4 0 n=R at *
 simp -implicitDefEqProofs only [EQA,Za1,Nat.reduceAdd,Nat.reduceLT,Nat.reduceLeDiff,Nat.reduceEqDiff,Nat.reduceBEq,↓reduceIte,c2R,AVal.cells,Zan,hF,hB,ZaU]
omit h1 n1
theorem ZFV (c:Int):ZeJ 0 1 2 rsR (.var [.int .u8 b,.lst false (l.map Zc)]::.var (Zi Q kk 4 0 n)::.var [.int .i64 c]::.var (Zi Q kk 4 0 n++[.lst false []])::.row 0 w ys::[])=some (.tup [.agg (Zi Q kk 0 0 n),.int .i64 c],[.row 0 w ys]):=by
 have hR:=ZbP Q hQ nQ kk hk n 4 0
 have hRf:=Zb7 Q hQ nQ kk hk n 4 0
 have hre:=fun ρ h=>ZbA Q hQ nQ kk hk n (r:=4) (g:=0) (r':=0) (g':=0) ρ h
 generalize Zi Q kk 4 0 n=R at *
 have h1:resA [(3,.ref 2 0),(2,.ref 1 0)] (.var [.int .u8 b,.lst false (l.map Zc)]::.var R::.var [.int .i64 c]::.var (R++[.lst false []])::.row 0 w ys::[]) rsR=some (.tup [.agg R,.int .i64 c]):=by
  have h2:R.take 26=R:=List.take_of_length_le (by omega)
  simp [resA,resAll,resOne,rsR,tget,ldA,partA,hR,h2]
 unfold ZeJ
 rw [h1]
 have hr:Zp [AVal.tup [.agg R,.int .i64 c]]=[4]:=by simp [Zp,ZV,hRf]
 have hi:ZB 0 [AVal.tup [.agg R,.int .i64 c]] (.var [.int .u8 b,.lst false (l.map Zc)]::.var R::.var [.int .i64 c]::.var (R++[.lst false []])::.row 0 w ys::[])=[4]:=by
  simp only [ZB,hr,List.range_zero,List.flatMap_nil,List.append_nil]
  rfl
 have hρ:Zl (.var [.int .u8 b,.lst false (l.map Zc)]::.var R::.var [.int .i64 c]::.var (R++[.lst false []])::.row 0 w ys::[]) 0 [4] 4 0=some (0,0):=rfl
 simp only [Zak,gcA,hi,Ze,Zk,hre _ hρ,Zv,List.getD_cons_zero,List.getD_cons_succ,ZR,Zm,ZF]
 simp
end
theorem ZLt (b:Int) (l:Zb) {P1 Q:List AVal} {kk n w:Nat} {ys:List AVal} (h1:P1.length=26) (n1:Zd P1=true) (hQ:Q.length=26) (nQ:Zd Q=true) (hk:kk < 26) (oQ:∀ r g m,(Zi Q kk r g m).all ZX=true)
  (hf:E 26 [.ref 0 0,.int .u8 b] (Zg P0 l)=some (.tup [],Zg P1 l)) (hb:E 27 [.ref 0 0] (Zg P1 l)=some (.tup [],Zb8 Q kk n [] w ys)) :
  Zee [.agg [.int .u8 b,.lst false (l.map Zc)]] []=some (.tup [.agg (Zi Q kk 0 0 n),.int .i64 0],[.row 0 w ys]):=by
 unfold Zee ZgV
 show (match evC FC PR BY 0 c1R (enterA 0 [.agg [.int .u8 b,.lst false (l.map Zc)]] []) [] with | some (.normal,tm1,σ1)=>_ | _=>none)=_
 rw [Zp0]
 show (if (0:Nat)<=(σR b l).length/\1 < (σR b l).length/\2 < (σR b l).length then Zfd FC PR BY 27 c2R c3R rsR 0 (tput tmR (some 5) .top) (σR b l) 1 2 else none)=_
 rw [if_pos (by simp [σR])]
 unfold Zfd
 rw [show (σR b l).length=3 from rfl,ZF3 b l h1 n1 hQ nQ hk oQ hf hb]
 exact ZFV b l hQ nQ hk 0
theorem Zyc {b c:Int} {l:Zb} {Q:List AVal} {q:Zs} {w:Nat} {ys:List AVal} (h:E1 8 [.agg [.int .u8 b,.lst false (l.map Zc)]] []=some (.tup [.agg Q,.int .i64 c],[.row 0 w ys])) (hv:∀ σ:Za,σ[0]?=some (.row 0 w ys)->ZaG σ Q=some (Zx q,[0])) :
  Z6 true 0 (E1 8 [.agg [.int .u8 b,.lst false (l.map Zc)]] [])=some (.tup [Z4 q,.int .i64 c],[]):=by
 rw [h]
 show Zbr 0 (some (.tup [.agg Q,.int .i64 c],[.row 0 w ys]))=some (.tup [Z4 q,.int .i64 c],[])
 have h1:viewR [.row 0 w ys] (.tup [.agg Q,.int .i64 c])=some (.tup [Z4 q,.int .i64 c],[0]):=by
  rw [viewR,viewAs,ZQ,hv _ rfl]
  rfl
 unfold Zbr
 simp only [h1]
 have e1:=Zuc q
 have e2:=Zkr q
 have hi:ZB 0 [AVal.tup [Z4 q,.int .i64 c]] (Zo [.row 0 w ys] [0])=[]:=by
  have : Zp [AVal.tup [Z4 q,.int .i64 c]]=[]:=by simp [Zp,ZV,Zbn,e1]
  simp only [ZB,this,List.nil_append,List.range_zero,List.flatMap_nil]
  rfl
 simp only [gcA,hi,Ze,Zk,Zv]
 rw [Zbn,Zk,e2]
end
section
def Zm8 (q:Zs) (m:Int):Zs:={ q with clean:=Zu m 2 != 0,hasWill:=Zu m 4 != 0,hasPassword:=Zu m 64 != 0,hasUser:=Zu m 128 != 0,will:={ q.will with qos:=Zu (ZdA m) 3,retain:=Zu m 32 != 0 } }
def Zmq (q:Zs) (k:Int) (ps:List Zt) (cl:Zb):Zs:={ q with keep:=k,props:=ps,client:=cl }
def ZiJ (b:Bool) (q:Zs) (l:Zb):Except Int (Zs×Zb):=if b=true then (match Zc1 l with
 | .error c=>.error c
 | .ok (d,r)=>.ok ({ q with password:=d },r)) else .ok (q,l)
def Zhd (b:Bool) (q:Zs) (l:Zb):Except Int (Zs×Zb):=if b=true then (match Zap l with
 | .error c=>.error c
 | .ok (d,r)=>.ok ({ q with user:=d },r)) else .ok (q,l)
def Zhl (b:Bool) (q:Zs) (l:Zb):Except Int (Zs×Zb):=if b=true then (match ZdS l with
 | .error c=>.error c
 | .ok (ps,tp,d,r)=>.ok ({ q with will:={ q.will with props:=ps,topic:=tp,data:=d } },r)) else .ok (q,l)
def Zlv (m:Int) (q:Zs) (l:Zb):Except Int (Zs×Zb):=match Zhl (Zu m 4 != 0) q l with
 | .error c=>.error c
 | .ok (q,l)=>match Zhd (Zu m 128 != 0) q l with
  | .error c=>.error c
  | .ok (q,l)=>ZiJ (Zu m 64 != 0) q l
def ZjZ (q:Zs) (m:Int) (l:Zb):Except Int (Zs×Zb):=match ZaE 2 l with
 | .error c=>.error c
 | .ok (k,r4)=>match ZbE 1 r4 with
  | .error c=>.error c
  | .ok (ps,r5)=>match Zap r5 with
   | .error c=>.error c
   | .ok (cl,r6)=>Zlv m (Zmq (Zm8 q m) k ps cl) r6
def Zf2 (q:Zs) (l:Zb):Except Int (Zs×Zb):=match Zap l with
 | .error c=>.error c
 | .ok (s,r1)=>if (s == [77,81,84,84])=true then (match ZaE 1 r1 with
  | .error c=>.error c
  | .ok (v,r2)=>if (v == 5)=true then (match ZaE 1 r2 with
   | .error c=>.error c
   | .ok (m,r3)=>if Zg7 m (Zu (ZdA m) 3) (Zu m 4 != 0) (Zu m 32 != 0)=true then ZjZ q m r3 else .error 129)
   else .error 132)
  else .error 132
structure Is (P:List AVal) (q:Zs):Prop where
 view:∀ σ,ZaG σ P=some (Zx q,[])
 ok:P.all ZX=true
theorem ZmJ {σ:Za} {v y:AVal} {ts:List Nat} (hv:ZK σ v=some (y,ts)):∀ {P ys:List AVal} {k:Nat},ZaG σ P=some (ys,[])->k < P.length->ZaG σ (P.set k v)=some (ys.set k y,ts)
 | [],_,_,_,h=>by simp at h
 | x::P,ys,k,h,hk=>by
  rw [ZaG] at h
  split at h
  ·rename_i y0 t0 h0
   split at h
   ·rename_i ys0 us0 h1
    injection h with h;injection h with h2 h3
    obtain ⟨rfl,rfl⟩:=List.append_eq_nil_iff.1 h3
    subst h2
    cases k with
    | zero =>
     rw [List.set_cons_zero,ZaG,hv]
     simp only [h1,List.append_nil]
     rfl
    | succ k =>
     rw [List.set_cons_succ,ZaG,h0]
     simp only [ZmJ hv h1 (by simpa using hk)]
     rfl
   ·cases h
  ·cases h
theorem Zl2 {v:AVal} (hv:ZX v=true):∀ {P:List AVal} {k:Nat},P.all ZX=true->(P.set k v).all ZX=true
 | [],_,_=>rfl
 | x::P,0,h=>by
  simp only [List.set_cons_zero,List.all_cons,Bool.and_eq_true] at h ⊢
  exact ⟨hv,h.2⟩
 | x::P,k+1,h=>by
  simp only [List.set_cons_succ,List.all_cons,Bool.and_eq_true] at h ⊢
  exact ⟨h.1,Zl2 hv h.2⟩
theorem Is.set {P:List AVal} {q q':Zs} (h:Is P q) {k:Nat} {v y:AVal} (hk:k < P.length) (hv:∀ σ,ZK σ v=some (y,[])) (ho:ZX v=true) (hc:(Zx q).set k y=Zx q'):Is (P.set k v) q' :=
 ⟨fun σ=>by rw [ZmJ (hv σ) (h.view σ) hk,hc],Zl2 ho h.ok⟩
section
variable {P:List AVal} {q:Zs} (hP:P.length=26) (h:Is P q)
include hP h
theorem ZKN (m:Int):Is (Zbu P m) (Zm8 q m):=by
 unfold Zbu
 have h1:=h.set (k:=12) (q':={ q with clean:=Zu m 2 != 0 }) (v:=.bool (Zu m 2 != 0)) (by omega) (fun _=>rfl) rfl rfl
 have h2:=h1.set (k:=15) (q':={ q with clean:=Zu m 2 != 0,hasWill:=Zu m 4 != 0 }) (v:=.bool (Zu m 4 != 0)) (by simp [hP]) (fun _=>rfl) rfl rfl
 have h3:=h2.set (k:=23) (q':={ q with clean:=Zu m 2 != 0,hasWill:=Zu m 4 != 0,hasPassword:=Zu m 64 != 0 }) (v:=.bool (Zu m 64 != 0)) (by simp [hP]) (fun _=>rfl) rfl rfl
 have h4:=h3.set (k:=21) (q':={ q with clean:=Zu m 2 != 0,hasWill:=Zu m 4 != 0,hasPassword:=Zu m 64 != 0,hasUser:=Zu m 128 != 0 }) (v:=.bool (Zu m 128 != 0)) (by simp [hP]) (fun _=>rfl) rfl rfl
 have h5:=h4.set (k:=18) (q':={ q with clean:=Zu m 2 != 0,hasWill:=Zu m 4 != 0,hasPassword:=Zu m 64 != 0,hasUser:=Zu m 128 != 0,will:={ q.will with qos:=Zu (ZdA m) 3 } }) (v:=.int .i64 (Zu (ZdA m) 3)) (by simp [hP]) (fun _=>rfl) rfl rfl
 exact h5.set (k:=19) (v:=.bool (Zu m 32 != 0)) (by simp [hP]) (fun _=>rfl) rfl rfl
theorem Zv0 (k:Int) (ps:List Zt) (cl:Zb):Is (ZiC P k ps cl) (Zmq q k ps cl):=by
 unfold ZiC
 have h1:=h.set (k:=13) (q':={ q with keep:=k }) (v:=.int .i64 k) (by omega) (fun _=>rfl) rfl rfl
 have h2:=h1.set (k:=9) (q':={ q with keep:=k,props:=ps }) (v:=.lst false (ps.map Zn)) (by simp [hP]) (fun _=>rfl) rfl rfl
 exact h2.set (k:=14) (v:=.str cl) (by simp [hP]) (fun _=>rfl) rfl rfl
theorem ZFA (ps:List Zt) (tp d:Zb):Is (ZgR P ps tp d) { q with will:={ q.will with props:=ps,topic:=tp,data:=d } }:=by
 unfold ZgR
 have h1:=h.set (k:=20) (q':={ q with will:={ q.will with props:=ps } }) (v:=.lst false (ps.map Zn)) (by omega) (fun _=>rfl) rfl rfl
 have h2:=h1.set (k:=16) (q':={ q with will:={ q.will with props:=ps,topic:=tp } }) (v:=.str tp) (by simp [hP]) (fun _=>rfl) rfl rfl
 exact h2.set (k:=17) (v:=.lst false (d.map Zc)) (by simp [hP]) (fun _=>rfl) rfl rfl
end
def Zg8 (x:Except Int KSt) (y:Except Int (Zs×Zb)):Prop:=match x with
 | .error e=>y=.error e
 | .ok (P,l)=>∃ q,y=.ok (q,l)/\P.length=26/\Is P q
section
variable {P:List AVal} {q:Zs} (hP:P.length=26) (h:Is P q) (l:Zb)
include hP h
theorem ZwB (b:Bool):Zg8 (Zhn b (P,l)) (ZiJ b q l):=by
 unfold Zhn ZiJ
 cases b
 ·exact ⟨q,rfl,hP,h⟩
 ·rw [if_pos rfl,if_pos rfl]
  cases hd:Zc1 l with
  | error c=>exact rfl
  | ok a=>exact ⟨_,rfl,by simp [hP],h.set (by omega) (fun _=>rfl) rfl rfl⟩
theorem ZGg (b:Bool):Zg8 (Zg9 b (P,l)) (Zhd b q l):=by
 unfold Zg9 Zhd
 cases b
 ·exact ⟨q,rfl,hP,h⟩
 ·rw [if_pos rfl,if_pos rfl]
  cases hd:Zap l with
  | error c=>exact rfl
  | ok a=>exact ⟨_,rfl,by simp [hP],h.set (by omega) (fun _=>rfl) rfl rfl⟩
theorem ZEP (b:Bool):Zg8 (Zh2 b (P,l)) (Zhl b q l):=by
 unfold Zh2 Zhl
 cases b
 ·exact ⟨q,rfl,hP,h⟩
 ·rw [if_pos rfl,if_pos rfl]
  cases hd:ZdS l with
  | error c=>exact rfl
  | ok a =>
   obtain ⟨ps,tp,d,r⟩:=a
   exact ⟨_,rfl,by simp [ZgR,hP],ZFA hP h ps tp d⟩
theorem ZDJ (m:Int):Zg8 (Zie m (P,l)) (Zlv m q l):=by
 unfold Zie Zlv
 have h1:=ZEP hP h l (Zu m 4 != 0)
 cases hw:Zh2 (Zu m 4 != 0) (P,l) with
 | error e =>
  rw [hw] at h1
  rw [show Zhl (Zu m 4 != 0) q l=.error e from h1]
  exact rfl
 | ok s =>
  obtain ⟨P1,l1⟩:=s
  rw [hw] at h1
  obtain ⟨q1,e1,hP1,i1⟩:=h1
  rw [e1]
  simp only
  have h2:=ZGg hP1 i1 l1 (Zu m 128 != 0)
  cases hu:Zg9 (Zu m 128 != 0) (P1,l1) with
  | error e =>
   rw [hu] at h2
   rw [show Zhd (Zu m 128 != 0) q1 l1=.error e from h2]
   exact rfl
  | ok s =>
   obtain ⟨P2,l2⟩:=s
   rw [hu] at h2
   obtain ⟨q2,e2,hP2,i2⟩:=h2
   rw [e2]
   exact ZwB hP2 i2 l2 _
theorem ZwT (m:Int):Zg8 (ZiO P m l) (ZjZ q m l):=by
 unfold ZiO ZjZ
 cases h1:ZaE 2 l with
 | error c=>exact rfl
 | ok a =>
 obtain ⟨k,r4⟩:=a
 simp only
 cases h2:ZbE 1 r4 with
 | error c=>exact rfl
 | ok a =>
 obtain ⟨ps,r5⟩:=a
 simp only
 cases h3:Zap r5 with
 | error c=>exact rfl
 | ok a =>
 obtain ⟨cl,r6⟩:=a
 exact ZDJ (by simp [ZiC,Zbu,hP]) (Zv0 (by simp [Zbu,hP]) (ZKN hP h m) k ps cl) r6 m
theorem Zx2:Zg8 (ZhS P l) (Zf2 q l):=by
 unfold ZhS Zf2
 cases h1:Zap l with
 | error c=>exact rfl
 | ok a =>
 obtain ⟨s,r1⟩:=a
 simp only
 split
 case isFalse=>exact rfl
 cases h2:ZaE 1 r1 with
 | error c=>exact rfl
 | ok a =>
 obtain ⟨v,r2⟩:=a
 simp only
 split
 case isFalse=>exact rfl
 cases h3:ZaE 1 r2 with
 | error c=>exact rfl
 | ok a =>
 obtain ⟨m,r3⟩:=a
 simp only
 split
 case isFalse=>exact rfl
 exact ZwT hP h r3 m
end
def ZcO (x:Except Int (Zs×Zb)):Except Int Zs:=match x with
 | .error e=>.error e
 | .ok (q,r)=>if r.length=0 then .ok q else .error 129
def ZfY (q:Zs) (l:Zb):Except Int (Zs×Zb):=match Zcs q.type l with
 | .error e=>.error e
 | .ok ((c,ps),r)=>.ok ({ q with code:=c,props:=ps.getD [] },r)
def idQ (q:Zs) (l:Zb):Except Int (Zs×Zb):=match idK l with
 | .error e=>.error e
 | .ok (n,r)=>ZfY { q with id:=n } r
def Zih (q:Zs) (l:Zb):Except Int (Zs×Zb):=match ZaE 1 l with
 | .error e=>.error e
 | .ok (f,r)=>if f < 2 then (match ZaD 2 r with
  | .error e=>.error e
  | .ok (c,r2)=>match ZbE 2 r2 with
   | .error e=>.error e
   | .ok (ps,r3)=>.ok ({ q with present:=f == 1,code:=c,props:=ps },r3)) else .error 129
def Zk3 (q:Zs) (l:Zb):Except Int Zs:=match Zbw Zbl 8 l with
 | .error e=>.error e
 | .ok (n,ps,ts)=>.ok { q with id:=n,props:=ps,subs:=ts }
def Zkp (q:Zs) (l:Zb):Except Int Zs:=match Zbw Zap 10 l with
 | .error e=>.error e
 | .ok (n,ps,ts)=>.ok { q with id:=n,props:=ps,filters:=ts }
def ZhB (q:Zs) (l:Zb):Except Int Zs:=match Zbw (ZaD q.type) q.type l with
 | .error e=>.error e
 | .ok (n,ps,ts)=>.ok { q with id:=n,props:=ps,codes:=ts }
def ZhG (t:Int) (l:Zb):Except Int Zs :=
 if t=1 then ZcO (Zf2 { Zam with type:=1 } l)
 else if t=2 then ZcO (Zih { Zam with type:=2 } l)
 else if t=4\/t=5\/t=6\/t=7 then ZcO (idQ { Zam with type:=t } l)
 else if t=8 then Zk3 { Zam with type:=8 } l
 else if t=10 then Zkp { Zam with type:=10 } l
 else if t=9\/t=11 then ZhB { Zam with type:=t } l
 else if t=14\/t=15 then ZcO (ZfY { Zam with type:=t } l)
 else ZcO (.ok ({ Zam with type:=t },l))
def Zbx (b:Int) (l:Zb):Zs×Int :=
 if tyI b=0 then (Zam,129) else if tyI b=3 then Zfk b l
 else if Zbg b 15=Zec (tyI b) then (match ZhG (tyI b) l with
  | .error e=>(Zam,e)
  | .ok q=>(q,0)) else (Zam,129)
def Zdh (t : Int) (l : Zb) (x : Except Int Zs) : Prop := match x with
  | .ok q => (∃ Q L, Q.length = 26 /\ Zd Q = true /\ ZG L = true /\ Is Q q /\ E 27 [.ref 0 0] (Zg (P0.set 0 (.int .i64 t)) l) = some (.tup [], [.var (Q ++ [L])])) \/
      (∃ Q q0 kk w ys, Q.length = 26 /\ Zd Q = true /\ kk < 26 /\ Is Q q0 /\ (Zx q0).set kk (.lst false ys) = Zx q /\ E 27 [.ref 0 0] (Zg (P0.set 0 (.int .i64 t)) l) = some (.tup [], Zb8 Q kk ys.length [] w ys))
  | .error e => (∃ cs, Zd cs = true /\ E 27 [.ref 0 0] (Zg (P0.set 0 (.int .i64 t)) l) = some (.pan (Zy e), [.var cs])) \/
      (∃ Q kk n r w ys, Q.length = 26 /\ Zd Q = true /\ kk < 26 /\ E 27 [.ref 0 0] (Zg (P0.set 0 (.int .i64 t)) l) = some (.pan (Zy e), Zb8 Q kk n r w ys))
theorem Zij {t:Int} {l:Zb} {q:Zs} {Q:List AVal} {r:Zb} (hQ:Q.length=26) (hN:Zd Q=true) (hi:Is Q q) (h:E 27 [.ref 0 0] (Zg (P0.set 0 (.int .i64 t)) l)=some (if r.length=0 then .tup [] else .pan (Zy 129),Zg Q r)):Zdh t l (ZcO (.ok (q,r))):=by
 unfold ZcO
 simp only
 split at h
 ·rename_i h0
  rw [if_pos h0]
  exact Or.inl ⟨Q,_,hQ,hN,rfl,hi,h⟩
 ·rename_i h0
  rw [if_neg h0]
  exact Or.inl ⟨_,Zw Q hQ hN _ _,h⟩
theorem Zj5 {t:Int} {l:Zb} {kk w:Nat} {e:Int} (hk:kk < 26) (h:ZhW kk w l (P0.set 0 (.int .i64 t)) e):Zdh t l (.error e):=by
 rcases h with ⟨cs,h1,h2⟩ | ⟨Q,n,r,ys,h1,h2,h3⟩
 ·exact Or.inl ⟨cs,h1,h2⟩
 ·exact Or.inr ⟨Q,kk,n,r,w,ys,h1,h2,hk,h3⟩
section
variable (l:Zb) (hl:l.length<=1099511627775)
include hl
theorem hlP:l.length<=140737488355328:=by omega
theorem ZLh:Zdh 1 l (ZcO (Zf2 { Zam with type:=1 } l)):=by
 have hs:=Zx2 (P:=P0.set 0 (.int .i64 1)) (q:={ Zam with type:=1 }) rfl ⟨fun σ=>rfl,rfl⟩ l
 have hr:=ZFM (P0.set 0 (.int .i64 1)) rfl (by rfl) l (hlP l hl) (fun r _=>ZcY 1 r) (fun r _=>ZcY 16 r)
 cases hc:ZhS (P0.set 0 (.int .i64 1)) l with
 | error e =>
  rw [hc] at hs hr
  rw [show Zf2 { Zam with type:=1 } l=.error e from hs]
  obtain ⟨cs,hn,he⟩:=KRuns.fnF (f:=54) (fn:=Zod) (by rfl) Zqd hr
  exact Or.inl ⟨cs,hn,ZHj (P0.set 0 (.int .i64 1)) rfl (by rfl) rfl l (hlP l hl) hn he⟩
 | ok s =>
  obtain ⟨Q,r⟩:=s
  rw [hc] at hs hr
  obtain ⟨q,e1,hQ,hi⟩:=hs
  rw [e1]
  have hQN:Zd Q=true:=by obtain ⟨_,_,_,h3,_⟩:=hr;exact h3
  have he:=KRuns.fnT (f:=54) (fn:=Zod) (by rfl) Zqd rfl hr
  refine Zij hQ hQN hi ?_
  by_cases h0:r.length=0
  ·rw [if_pos h0];exact ZMJ (P0.set 0 (.int .i64 1)) rfl (by rfl) rfl l (hlP l hl) he hQ hQN h0
  ·rw [if_neg h0];exact ZMt (P0.set 0 (.int .i64 1)) rfl (by rfl) rfl l (hlP l hl) he hQ hQN h0
theorem ZwC:Zdh 2 l (ZcO (Zih { Zam with type:=2 } l)):=by
 have hP:(P0.set 0 (.int .i64 2)).length=26:=rfl
 have hN:Zd (P0.set 0 (.int .i64 2))=true:=by rfl
 unfold Zih
 cases h1:ZaE 1 l with
 | error e=>exact Or.inl (ZKp _ hP hN rfl l (hlP l hl) h1)
 | ok a =>
 obtain ⟨f,r⟩:=a
 simp only
 split
 case isFalse hf=>exact Or.inl (Zzi _ hP hN rfl l (hlP l hl) h1 hf)
 rename_i hf
 cases h2:ZaD 2 r with
 | error e=>exact Or.inl (ZwW _ hP hN rfl l (hlP l hl) h1 hf h2)
 | ok a =>
 obtain ⟨c,r2⟩:=a
 simp only
 cases h3:ZbE 2 r2 with
 | error e=>exact Or.inl (ZvT _ hP hN rfl l (hlP l hl) h1 hf h2 h3)
 | ok a =>
 obtain ⟨ps,r3⟩:=a
 exact Zij (by simp [hP]) (ZO (ZbW _ _) _ (ZO rfl _ (ZO rfl _ hN))) ⟨fun σ=>rfl,rfl⟩ (ZLE _ hP hN rfl l (hlP l hl) h1 hf h2 h3 (ZcY 2 r2))
theorem Zse {P:List AVal} {q:Zs} (hP:P.length=26) (h:Is P q) (c:Int) (ps:Option (List Zt)):Is (Zdm P c ps) { q with code:=c,props:=ps.getD [] }:=by
 unfold Zdm
 have h1:=h.set (k:=7) (q':={ q with code:=c }) (v:=.int .i64 c) (by omega) (fun _=>rfl) rfl rfl
 cases ps with
 | none=>exact h1.set (k:=9) (v:=.lst true []) (by simp [hP]) (fun _=>rfl) rfl rfl
 | some ps=>exact h1.set (k:=9) (v:=.lst false (ps.map Zn)) (by simp [hP]) (fun _=>rfl) rfl rfl
theorem Ztw (k:Int) (hk:k=14\/k=15):Zdh k l (ZcO (ZfY { Zam with type:=k } l)):=by
 have hP:(P0.set 0 (.int .i64 k)).length=26:=rfl
 have hN:Zd (P0.set 0 (.int .i64 k))=true:=by rfl
 unfold ZfY
 simp only
 cases h1:Zcs k l with
 | error e=>exact Or.inl (ZCS _ hP hN k hk rfl (fun r _=>ZcY k r) l (hlP l hl) h1)
 | ok a =>
 obtain ⟨⟨c,ps⟩,r⟩:=a
 obtain ⟨i1,i2⟩:=Zls hP hN c ps
 exact Zij i1 i2 (Zse l hl (q:={ Zam with type:=k }) hP ⟨fun σ=>rfl,rfl⟩ c ps) (ZI6 _ hP hN k hk rfl rfl rfl (fun r _=>ZcY k r) l (hlP l hl) h1)
theorem Zki (k:Int) (hk:k=4\/k=5\/k=6\/k=7):Zdh k l (ZcO (idQ { Zam with type:=k } l)):=by
 have hP:(P0.set 0 (.int .i64 k)).length=26:=rfl
 have hN:Zd (P0.set 0 (.int .i64 k))=true:=by rfl
 unfold idQ ZfY
 simp only
 cases h0:idK l with
 | error e=>exact Or.inl (ZHE _ hP hN k hk rfl l (hlP l hl) h0)
 | ok a =>
 obtain ⟨n,r1⟩:=a
 simp only
 cases h1:Zcs k r1 with
 | error e=>exact Or.inl (Zw1 _ hP hN k hk rfl (fun r _=>ZcY k r) l (hlP l hl) h0 h1)
 | ok a =>
 obtain ⟨⟨c,ps⟩,r⟩:=a
 obtain ⟨i1,i2⟩:=Zls (P:=(P0.set 0 (.int .i64 k)).set 4 (.int .i64 n)) rfl (by rfl) c ps
 exact Zij i1 i2 (Zse l hl (q:={ Zam with type:=k,id:=n }) rfl ⟨fun σ=>rfl,rfl⟩ c ps) (ZrT _ hP hN k hk rfl rfl rfl (fun r _=>ZcY k r) l (hlP l hl) h0 h1)
theorem Zsh (k:Int) (hk:k=12\/k=13):Zdh k l (ZcO (.ok ({ Zam with type:=k },l))) :=
 Zij (Q:=P0.set 0 (.int .i64 k)) rfl (by rfl) ⟨fun σ=>rfl,rfl⟩ (Zz3 _ rfl (by rfl) k hk rfl l)
theorem Zdj (k:Int):QOk k (P0.set 0 (.int .i64 k)):=⟨rfl,by rfl,rfl,rfl,rfl,rfl⟩
theorem ZjU (k:Int) (n:Int) (ps:List Zt):Is (ZbO (P0.set 0 (.int .i64 k)) n ps) { Zam with type:=k,id:=n,props:=ps }:=⟨fun σ=>rfl,rfl⟩
theorem Zwg:Zdh 8 l (Zk3 { Zam with type:=8 } l):=by
 unfold Zk3
 cases h:Zbw Zbl 8 l with
 | error e=>exact Zj5 (by omega) (ZD5 _ l hl (Zdj l hl 8) h)
 | ok a =>
 obtain ⟨n,ps,ts⟩:=a
 have hQ:=Zdk (Zdj l hl 8) n ps
 have:=ZLc _ l hl (Zdj l hl 8) h
 rw [<-List.length_map (f:=ZU)] at this
 exact Or.inr ⟨_,_,10,6,ts.map ZU,hQ.len,hQ.nor,by omega,ZjU l hl 8 n ps,rfl,this⟩
theorem ZEJ:Zdh 10 l (Zkp { Zam with type:=10 } l):=by
 unfold Zkp
 cases h:Zbw Zap 10 l with
 | error e=>exact Zj5 (by omega) (ZE3 _ l hl (Zdj l hl 10) h)
 | ok a =>
 obtain ⟨n,ps,ts⟩:=a
 have hQ:=Zdk (Zdj l hl 10) n ps
 have:=Zzs _ l hl (Zdj l hl 10) h
 rw [<-List.length_map (f:=AVal.str)] at this
 exact Or.inr ⟨_,_,11,1,ts.map AVal.str,hQ.len,hQ.nor,by omega,ZjU l hl 10 n ps,rfl,this⟩
theorem ZFT:Zdh 9 l (ZhB { Zam with type:=9 } l):=by
 unfold ZhB
 simp only
 cases h:Zbw (ZaD 9) 9 l with
 | error e=>exact Zj5 (by omega) (ZxN _ l hl (Zdj l hl 9) h)
 | ok a =>
 obtain ⟨n,ps,ts⟩:=a
 have hQ:=Zdk (Zdj l hl 9) n ps
 have:=ZFO _ l hl (Zdj l hl 9) h
 rw [<-List.length_map (f:=AVal.int .i64)] at this
 exact Or.inr ⟨_,_,8,1,ts.map (AVal.int .i64),hQ.len,hQ.nor,by omega,ZjU l hl 9 n ps,rfl,this⟩
theorem ZAj:Zdh 11 l (ZhB { Zam with type:=11 } l):=by
 unfold ZhB
 simp only
 cases h:Zbw (ZaD 11) 11 l with
 | error e=>exact Zj5 (by omega) (ZDW _ l hl (Zdj l hl 11) h)
 | ok a =>
 obtain ⟨n,ps,ts⟩:=a
 have hQ:=Zdk (Zdj l hl 11) n ps
 have:=Zvb _ l hl (Zdj l hl 11) h
 rw [<-List.length_map (f:=AVal.int .i64)] at this
 exact Or.inr ⟨_,_,8,1,ts.map (AVal.int .i64),hQ.len,hQ.nor,by omega,ZjU l hl 11 n ps,rfl,this⟩
theorem ZAR (t:Int) (h1:1<=t/\t<=15) (h3:t≠3):Zdh t l (ZhG t l):=by
 have : t=1\/t=2\/t=4\/t=5\/t=6\/t=7\/t=8\/t=9\/t=10\/t=11\/t=12\/t=13\/t=14\/t=15:=by omega
 unfold ZhG
 rcases this with rfl | rfl | rfl | rfl | rfl | rfl | rfl | rfl | rfl | rfl | rfl | rfl | rfl | rfl
 ·exact ZLh l hl
 ·exact ZwC l hl
 ·exact Zki l hl 4 (by decide)
 ·exact Zki l hl 5 (by decide)
 ·exact Zki l hl 6 (by decide)
 ·exact Zki l hl 7 (by decide)
 ·exact Zwg l hl
 ·exact ZFT l hl
 ·exact ZEJ l hl
 ·exact ZAj l hl
 ·exact Zsh l hl 12 (by decide)
 ·exact Zsh l hl 13 (by decide)
 ·exact Ztw l hl 14 (by decide)
 ·exact Ztw l hl 15 (by decide)
end
theorem Zwk (b:Int) (hb:0<=b/\b < 256):0<=tyI b/\tyI b<=15:=by
 have h:∀ n:Nat,n < 256->0<=tyI (n:Int)/\tyI (n:Int)<=15:=by decide +kernel
 have:=h b.toNat (by omega)
 rwa [Int.toNat_of_nonneg hb.1] at this
theorem ZnI {b c:Int} {l:Zb} {Q:List AVal} {q:Zs} (h:E1 8 [.agg [.int .u8 b,.lst false (l.map Zc)]] []=some (.tup [.agg Q,.int .i64 c],[])) (hv:∀ σ,ZaG σ Q=some (Zx q,[])):Z6 true 0 (E1 8 [.agg [.int .u8 b,.lst false (l.map Zc)]] [])=some (.tup [Z4 q,.int .i64 c],[]):=by
 rw [h];exact Zp3 c hv
theorem ZHJ (b:Int) (hb:0<=b/\b < 256) (l:Zb) (hl:l.length<=1099511627775):Z6 true 0 (E1 8 [.agg [.int .u8 b,.lst false (l.map Zc)]] [])=some (.tup [Z4 (Zbx b l).1,.int .i64 (Zbx b l).2],[]):=by
 have hr:=Zwk b hb
 have hF:∀ c,Zee [.agg [.int .u8 b,.lst false (l.map Zc)]] []=some (.tup [.agg P0,.int .i64 c],[])->Z6 true 0 (E1 8 [.agg [.int .u8 b,.lst false (l.map Zc)]] [])=some (.tup [Z4 Zam,.int .i64 c],[]):=fun c h =>
  ZnI (by rw [Zfl];exact h) Zjv
 unfold Zbx
 by_cases h0:tyI b=0
 ·rw [if_pos h0]
  exact hF 129 (Zgd b 129 l (Zk8 b l (Zw _ rfl (by rfl) _ _) (Zzr P0 rfl (by rfl) b l h0)))
 rw [if_neg h0]
 by_cases h3:tyI b=3
 ·rw [if_pos h3]
  obtain ⟨Q,h,hv⟩:=Zun b h3 l (by omega)
  exact ZnI h hv
 rw [if_neg h3]
 by_cases hf:Zbg b 15=Zec (tyI b)
 case neg =>
  rw [if_neg hf]
  exact hF 129 (Zgd b 129 l (Zk8 b l (Zw _ rfl (by rfl) _ _) (Zzu P0 rfl (by rfl) b (tyI b) l rfl h0 h3 hf)))
 rw [if_pos hf]
 have hfi:=Ztb P0 rfl (by rfl) b (tyI b) l rfl h0 h3 hf
 have hB:=ZAR l hl (tyI b) (by omega) h3
 generalize tyI b=t at *
 have p1:(P0.set 0 (.int .i64 t)).length=26:=rfl
 have p2:Zd (P0.set 0 (.int .i64 t))=true:=by rfl
 cases hx:ZhG t l with
 | error e =>
  rw [hx] at hB
  rcases hB with ⟨cs,hn,hb⟩ | ⟨Q,kk,n,r,w,ys,hQ,hN,hk,hb⟩
  ·exact hF e (Zgd b e l (ZtQ b l p1 p2 hn hfi hb))
  ·exact hF e (Zgd b e l (ZKl b l p1 p2 hQ hN hk hfi hb))
 | ok q =>
  rw [hx] at hB
  rcases hB with ⟨Q,L,hQ,hN,nL,hi,hb⟩ | ⟨Q,q0,kk,w,ys,hQ,hN,hk,hi,hc,hb⟩
  ·exact ZnI (by rw [Zfl];exact ZmL b l p1 p2 hQ hN hi.ok nL hfi hb) hi.view
  ·refine Zyc (by rw [Zfl];exact ZLt b l p1 p2 hQ hN hk (fun r g m=>Zl2 rfl hi.ok) hfi hb) (fun σ hs=>?_)
   have hv:ZK σ (.sl 0 0 0 ys.length)=some (.lst false ys,[0]):=by
    simp [ZK,ZY,hs]
   unfold Zi
   rw [ZmJ hv (hi.view σ) (by omega),hc]
theorem Zms (b:Int) (hb:0<=b/\b < 256) (l:Zb) (hl:l.length<=1099511627775) (f:Bool) (σ:Za) (sq own:Nat) :
  Zj E1 BY σ sq 8 own true [.agg [.int .u8 b,.lst f (l.map Zc)]]=some (.tup [Z4 (Zbx b l).1,.int .i64 (Zbx b l).2],σ,{}):=by
 rw [ZfG (by kernel_rfl) rfl]
 show Zay σ σ [] [] sq own (Z6 true 0 (E1 8 [.agg [.int .u8 b,.lst false (l.map Zc)]] []))=_
 rw [ZHJ b hb l hl,ZgK _ _ _ _ (by simp only [Zk,Ze,Zbn,Zkr])]
end
section
def Zhw:Zb:=[77,81,84,84]
theorem ZhV (q:Int):0<=Zu q 3/\Zu q 3<=3:=by
 have h:∀ x:BitVec 64,(x &&& BitVec.ofInt 64 3).toNat<=3:=by
  intro x
  rw [BitVec.toNat_and]
  exact Nat.and_le_right
 have h2:=h (BitVec.ofInt 64 q)
 unfold Zu
 have h3:IntKind.i64.bits=64:=rfl
 rw [h3,ZbV (by omega) (by omega)]
 omega
def ZoB (p:Zs):Int:=Z3 p.clean 2+Z3 p.hasWill 4+Zu p.will.qos 3*8+Z3 p.will.retain 32+Z3 p.hasPassword 64+Z3 p.hasUser 128
theorem ZdN (b:Bool) (n:Int) (h:0<=n):0<=Z3 b n/\Z3 b n<=n:=by unfold Z3;split <;> omega
theorem Zcf (n:Int) (h0:0<=n) (h1:n < 9223372036854775808):IntKind.i64.wrap n=n:=by
 obtain ⟨m,rfl⟩:∃ m:Nat,n=m:=⟨n.toNat,by omega⟩
 exact ZbV (by omega) (by omega)
def ZlD (p:Zs):Zb:=((((Zag Zhw).1++beB (ZP 5) 1)++beB (ZP (ZoB p)) 1)++beB (ZP p.keep) 2)++(Zbj 1 p.props).1++(Zag p.client).1
def Zkb (p:Zs):Zb:=if p.hasWill then ((ZlD p++(Zbj 16 p.will.props).1)++(Zag p.will.topic).1)++(Zby p.will.data).1 else ZlD p
def Zlj (p:Zs):Zb:=if p.hasUser then Zkb p++(Zag p.user).1 else Zkb p
def Zd6 (p:Zs):Zb:=if p.hasPassword then Zlj p++(Zby p.password).1 else Zlj p
section
variable (p:Zs) (h:OkW p)
include h
theorem ZDQ:E1 78 [.ref 0 0,Z4 p] [.var wn]=some (.tup [],wH 0 (Zd6 p)):=by
 have hq:=ZhV p.will.qos
 have m1:=ZdN p.clean 2 (by omega)
 have m2:=ZdN p.hasWill 4 (by omega)
 have m3:=ZdN p.will.retain 32 (by omega)
 have m4:=ZdN p.hasPassword 64 (by omega)
 have m5:=ZdN p.hasUser 128 (by omega)
 have hm:=fun b n σ sq own=>Zip b n σ sq own
 have w1:=Zcf (Z3 p.clean 2+Z3 p.hasWill 4) (by omega) (by omega)
 have w2:=Zcf (Zu p.will.qos 3*8) (by omega) (by omega)
 have w3:=Zcf (Z3 p.clean 2+Z3 p.hasWill 4+Zu p.will.qos 3*8) (by omega) (by omega)
 have w4:=Zcf (Z3 p.clean 2+Z3 p.hasWill 4+Zu p.will.qos 3*8+Z3 p.will.retain 32) (by omega) (by omega)
 have w5:=Zcf (Z3 p.clean 2+Z3 p.hasWill 4+Zu p.will.qos 3*8+Z3 p.will.retain 32+Z3 p.hasPassword 64) (by omega) (by omega)
 have w6:=Zcf (Z3 p.clean 2+Z3 p.hasWill 4+Zu p.will.qos 3*8+Z3 p.will.retain 32+Z3 p.hasPassword 64+Z3 p.hasUser 128) (by omega) (by omega)
 have lim:=Zd1
 have t0:=Zcr Zhw
 have t1:=Zcr p.client
 have t2:=Zcr p.will.topic
 have t3:=Zcr p.user
 have d1:=ZiR p.will.data
 have d2:=ZiR p.password
 have y1:=ZcV 1 p.props
 have y2:=ZcV 16 p.will.props
 have f0:=fun {σ:Za} {t sq:Nat}=>Zp6 Zhw (by decide) (σ:=σ) (t:=t) (sq:=sq)
 unfold Zd6 Zlj Zkb ZlD ZoB
 have n1:=Zba 1 (ZP 5)
 generalize (Zag Zhw).1=l0 at *
 have f1:=fun {σ:Za} {sq:Nat}=>ZfT l0 5 1 (by omega) (by omega) (m:=1) rfl (by omega) (σ:=σ) 0 2 0 (sq:=sq) (by omega)
 generalize beB (ZP 5) 1=D1 at *
 obtain ⟨l1,e1⟩:∃ l1,l0++D1=l1:=⟨_,rfl⟩
 have k1:l1.length=l0.length+D1.length:=by rw [<-e1,List.length_append]
 simp only [e1] at f1 ⊢
 have n2:=Zba 1 (ZP (Z3 p.clean 2+Z3 p.hasWill 4+Zu p.will.qos 3*8+Z3 p.will.retain 32+Z3 p.hasPassword 64+Z3 p.hasUser 128))
 have f2:=fun {σ:Za} {sq:Nat}=>ZfT l1 (Z3 p.clean 2+Z3 p.hasWill 4+Zu p.will.qos 3*8+Z3 p.will.retain 32+Z3 p.hasPassword 64+Z3 p.hasUser 128) 1 (by omega) (by omega) (m:=1) rfl (by omega) (σ:=σ) 0 2 1 (sq:=sq) (by omega)
 generalize beB (ZP (Z3 p.clean 2+Z3 p.hasWill 4+Zu p.will.qos 3*8+Z3 p.will.retain 32+Z3 p.hasPassword 64+Z3 p.hasUser 128)) 1=D2 at *
 obtain ⟨l2,e2⟩:∃ l2,l1++D2=l2:=⟨_,rfl⟩
 have k2:l2.length=l1.length+D2.length:=by rw [<-e2,List.length_append]
 simp only [e2] at f2 ⊢
 have n3:=Zba 2 (ZP p.keep)
 have f3:=fun {σ:Za} {sq:Nat}=>ZfT l2 p.keep 2 (by omega) (by omega) (m:=2) rfl (by omega) (σ:=σ) 0 2 2 (sq:=sq) (by omega)
 generalize beB (ZP p.keep) 2=D3 at *
 obtain ⟨l3,e3⟩:∃ l3,l2++D3=l3:=⟨_,rfl⟩
 have k3:l3.length=l2.length+D3.length:=by rw [<-e3,List.length_append]
 simp only [e3] at f3 ⊢
 have f4:=fun {σ:Za} {sq:Nat}=>Zgh l3 1 p.props h.props.1 h.props.2 (by omega) (σ:=σ) 0 2 3 (sq:=sq) (by omega)
 generalize (Zbj 1 p.props).1=D4 at *
 obtain ⟨l4,e4⟩:∃ l4,l3++D4=l4:=⟨_,rfl⟩
 have k4:l4.length=l3.length+D4.length:=by rw [<-e4,List.length_append]
 simp only [e4] at f4 ⊢
 have f5:=fun {σ:Za} {sq:Nat}=>ZiY l4 p.client h.client (by omega) (σ:=σ) 0 2 4 (sq:=sq) (by omega)
 generalize (Zag p.client).1=D5 at *
 obtain ⟨l5,e5⟩:∃ l5,l4++D5=l5:=⟨_,rfl⟩
 have k5:l5.length=l4.length+D5.length:=by rw [<-e5,List.length_append]
 simp only [e5] at f5 ⊢
 have f6:=fun {σ:Za} {sq:Nat}=>Zgh l5 16 p.will.props h.wprops.1 h.wprops.2 (by omega) (σ:=σ) 0 2 5 (sq:=sq) (by omega)
 generalize (Zbj 16 p.will.props).1=D6 at *
 obtain ⟨l6,e6⟩:∃ l6,l5++D6=l6:=⟨_,rfl⟩
 have k6:l6.length=l5.length+D6.length:=by rw [<-e6,List.length_append]
 simp only [e6] at f6 ⊢
 have f7:=fun {σ:Za} {sq:Nat}=>ZiY l6 p.will.topic h.wtopic (by omega) (σ:=σ) 0 2 6 (sq:=sq) (by omega)
 generalize (Zag p.will.topic).1=D7 at *
 obtain ⟨l7,e7⟩:∃ l7,l6++D7=l7:=⟨_,rfl⟩
 have k7:l7.length=l6.length+D7.length:=by rw [<-e7,List.length_append]
 simp only [e7] at f7 ⊢
 have f8:=fun {σ:Za} {sq:Nat}=>Zto l7 p.will.data h.wdata (by omega) (σ:=σ) 0 2 7 (sq:=sq) (by omega)
 generalize (Zby p.will.data).1=D8 at *
 obtain ⟨l8,e8⟩:∃ l8,l7++D8=l8:=⟨_,rfl⟩
 have k8:l8.length=l7.length+D8.length:=by rw [<-e8,List.length_append]
 simp only [e8] at f8 ⊢
 have hO:=fun {j g:Nat} {l:Zb} {σ:Za}=>Zdz (j:=j) (g:=g) (l:=l) (σ:=σ)
 rw [Zbn]
 have e0:=ZbX p
 have a9:(Zx p)[9]?=some (.lst false (p.props.map Zn)):=rfl
 have a12:(Zx p)[12]?=some (.bool p.clean):=rfl
 have a13:(Zx p)[13]?=some (.int .i64 p.keep):=rfl
 have a14:(Zx p)[14]?=some (.str p.client):=rfl
 have a15:(Zx p)[15]?=some (.bool p.hasWill):=rfl
 have a16:(Zx p)[16]?=some (.str p.will.topic):=rfl
 have a17:(Zx p)[17]?=some (.lst false (p.will.data.map Zc)):=rfl
 have a18:(Zx p)[18]?=some (.int .i64 p.will.qos):=rfl
 have a19:(Zx p)[19]?=some (.bool p.will.retain):=rfl
 have a20:(Zx p)[20]?=some (.lst false (p.will.props.map Zn)):=rfl
 have a21:(Zx p)[21]?=some (.bool p.hasUser):=rfl
 have a22:(Zx p)[22]?=some (.str p.user):=rfl
 have a23:(Zx p)[23]?=some (.bool p.hasPassword):=rfl
 have a24:(Zx p)[24]?=some (.lst false (p.password.map Zc)):=rfl
 have b5:=h.user
 have b6:=h.password
 clear h
 generalize Zx p=P at *
 generalize p.will.qos=wq at *
 generalize p.will.retain=wr at *
 generalize p.will.topic=wt at *
 generalize p.will.data=wd at *
 generalize p.will.props=wp at *
 generalize p.clean=cl at *
 generalize p.keep=kp at *
 generalize p.client=ci at *
 generalize p.props=ps at *
 generalize p.hasWill=hw at *
 generalize p.hasUser=hu at *
 generalize p.hasPassword=hp at *
 generalize p.user=us at *
 generalize p.password=pw at *
 unfold Zu Zhw at *
 rw [Zbi (by rfl) ZGk]
 have fu:=fun (l:Zb) (g:Nat) (hl:l.length<=1000000000) {σ:Za} {sq:Nat}=>ZiY l us b5 (by omega) (σ:=σ) 0 2 g (sq:=sq) (by omega)
 have fp:=fun (l:Zb) (g:Nat) (hl:l.length<=1000000000) {σ:Za} {sq:Nat}=>Zto l pw b6 (by omega) (σ:=σ) 0 2 g (sq:=sq) (by omega)
 generalize (Zag us).1=Du at *
 generalize (Zby pw).1=Dp at *
 cases hw <;> cases hu <;> cases hp
 ·simp only [Bool.false_eq_true,if_false]
  unfold wn at *
  simp -implicitDefEqProofs only [EQA,Zq,Nat.reduceAdd,Nat.reduceLT,Nat.reduceEqDiff,Nat.reduceBEq,reduceCtorEq,↓reduceIte,Zd,Ze9,Zeu,Zfw,oI,AVal.cells,a9,a12,a13,a14,a15,a18,a19,a21,a23,hm,w1,w2,w3,w4,w5,w6,f0,f1,f2,f3,f4,f5,Zaf,Zaj,Zah,Zas,Zav,Zal,List.lookup_nil]
  exact hO (j:=2) (by decide) rfl rfl
 ·have g1:=fun {σ:Za} {sq:Nat}=>fp l5 5 (by omega) (σ:=σ) (sq:=sq)
  simp only [Bool.false_eq_true,if_false,if_true]
  unfold wn at *
  simp -implicitDefEqProofs only [EQA,Zq,Nat.reduceAdd,Nat.reduceLT,Nat.reduceEqDiff,Nat.reduceBEq,reduceCtorEq,↓reduceIte,Zd,Ze9,Zeu,Zfw,oI,AVal.cells,a9,a12,a13,a14,a15,a18,a19,a21,a23,a24,hm,w1,w2,w3,w4,w5,w6,f0,f1,f2,f3,f4,f5,g1,Zaf,Zaj,Zah,Zas,Zav,Zal,List.lookup_nil]
  exact hO (j:=2) (by decide) rfl rfl
 ·have g1:=fun {σ:Za} {sq:Nat}=>fu l5 5 (by omega) (σ:=σ) (sq:=sq)
  simp only [Bool.false_eq_true,if_false,if_true]
  unfold wn at *
  simp -implicitDefEqProofs only [EQA,Zq,Nat.reduceAdd,Nat.reduceLT,Nat.reduceEqDiff,Nat.reduceBEq,reduceCtorEq,↓reduceIte,Zd,Ze9,Zeu,Zfw,oI,AVal.cells,a9,a12,a13,a14,a15,a18,a19,a21,a22,a23,hm,w1,w2,w3,w4,w5,w6,f0,f1,f2,f3,f4,f5,g1,Zaf,Zaj,Zah,Zas,Zav,Zal,List.lookup_nil]
  exact hO (j:=2) (by decide) rfl rfl
 ·have g1:=fun {σ:Za} {sq:Nat}=>fu l5 5 (by omega) (σ:=σ) (sq:=sq)
  have g2:=fun {σ:Za} {sq:Nat}=>fp (l5++Du) 6 (by rw [List.length_append];omega) (σ:=σ) (sq:=sq)
  simp only [Bool.false_eq_true,if_false,if_true]
  unfold wn at *
  simp -implicitDefEqProofs only [EQA,Zq,Nat.reduceAdd,Nat.reduceLT,Nat.reduceEqDiff,Nat.reduceBEq,reduceCtorEq,↓reduceIte,Zd,Ze9,Zeu,Zfw,oI,AVal.cells,a9,a12,a13,a14,a15,a18,a19,a21,a22,a23,a24,hm,w1,w2,w3,w4,w5,w6,f0,f1,f2,f3,f4,f5,g1,g2,Zaf,Zaj,Zah,Zas,Zav,Zal,List.lookup_nil]
  exact hO (j:=2) (by decide) rfl rfl
 ·simp only [Bool.false_eq_true,if_false,if_true]
  unfold wn at *
  simp -implicitDefEqProofs only [EQA,Zq,Nat.reduceAdd,Nat.reduceLT,Nat.reduceEqDiff,Nat.reduceBEq,reduceCtorEq,↓reduceIte,Zd,Ze9,Zeu,Zfw,oI,AVal.cells,a9,a12,a13,a14,a15,a16,a17,a18,a19,a20,a21,a23,hm,w1,w2,w3,w4,w5,w6,f0,f1,f2,f3,f4,f5,f6,f7,f8,Zaf,Zaj,Zah,Zas,Zav,Zal,List.lookup_nil]
  exact hO (j:=2) (by decide) rfl rfl
 ·have g1:=fun {σ:Za} {sq:Nat}=>fp l8 8 (by omega) (σ:=σ) (sq:=sq)
  simp only [Bool.false_eq_true,if_false,if_true]
  unfold wn at *
  simp -implicitDefEqProofs only [EQA,Zq,Nat.reduceAdd,Nat.reduceLT,Nat.reduceEqDiff,Nat.reduceBEq,reduceCtorEq,↓reduceIte,Zd,Ze9,Zeu,Zfw,oI,AVal.cells,a9,a12,a13,a14,a15,a16,a17,a18,a19,a20,a21,a23,a24,hm,w1,w2,w3,w4,w5,w6,f0,f1,f2,f3,f4,f5,f6,f7,f8,g1,Zaf,Zaj,Zah,Zas,Zav,Zal,List.lookup_nil]
  exact hO (j:=2) (by decide) rfl rfl
 ·have g1:=fun {σ:Za} {sq:Nat}=>fu l8 8 (by omega) (σ:=σ) (sq:=sq)
  simp only [Bool.false_eq_true,if_false,if_true]
  unfold wn at *
  simp -implicitDefEqProofs only [EQA,Zq,Nat.reduceAdd,Nat.reduceLT,Nat.reduceEqDiff,Nat.reduceBEq,reduceCtorEq,↓reduceIte,Zd,Ze9,Zeu,Zfw,oI,AVal.cells,a9,a12,a13,a14,a15,a16,a17,a18,a19,a20,a21,a22,a23,hm,w1,w2,w3,w4,w5,w6,f0,f1,f2,f3,f4,f5,f6,f7,f8,g1,Zaf,Zaj,Zah,Zas,Zav,Zal,List.lookup_nil]
  exact hO (j:=2) (by decide) rfl rfl
 ·have g1:=fun {σ:Za} {sq:Nat}=>fu l8 8 (by omega) (σ:=σ) (sq:=sq)
  have g2:=fun {σ:Za} {sq:Nat}=>fp (l8++Du) 9 (by rw [List.length_append];omega) (σ:=σ) (sq:=sq)
  simp only [if_true]
  unfold wn at *
  simp -implicitDefEqProofs only [EQA,Zq,Nat.reduceAdd,Nat.reduceLT,Nat.reduceEqDiff,Nat.reduceBEq,reduceCtorEq,↓reduceIte,Zd,Ze9,Zeu,Zfw,oI,AVal.cells,a9,a12,a13,a14,a15,a16,a17,a18,a19,a20,a21,a22,a23,a24,hm,w1,w2,w3,w4,w5,w6,f0,f1,f2,f3,f4,f5,f6,f7,f8,g1,g2,Zaf,Zaj,Zah,Zas,Zav,Zal,List.lookup_nil]
  exact hO (j:=2) (by decide) rfl rfl
theorem ZKA:(Zd6 p).length<=1000000000:=by
 have t0:=Zcr Zhw
 have t1:=Zcr p.client
 have t2:=Zcr p.will.topic
 have t3:=Zcr p.user
 have d1:=ZiR p.will.data
 have d2:=ZiR p.password
 have y1:=ZcV 1 p.props
 have y2:=ZcV 16 p.will.props
 have n1:=Zba 1 (ZP 5)
 have n2:=Zba 1 (ZP (ZoB p))
 have n3:=Zba 2 (ZP p.keep)
 unfold Zd6 Zlj Zkb ZlD
 cases p.hasWill <;> cases p.hasUser <;> cases p.hasPassword <;> simp only [Bool.false_eq_true,if_false,if_true,List.length_append] <;> omega
theorem Zzb {σ:Za} {t sq:Nat} (hf:σ[sq]?=some .free) (hs0:σ[t]?=some (.var wn)) :
  Zj E1 BY σ sq 78 1 true [.ref t 0,.agg (Zx p)]=some (.tup [],(σ.set t (.var (wv sq 0 (Zd6 p).length))).set sq (.row 0 1 ((Zd6 p).map Zc)),{ any:=true,upd:=[(t,wv sq 0 (Zd6 p).length)] }) :=
 ZfW (args:=[.agg (Zx p)]) rfl rfl (ZDQ p h) (by kernel_rfl) (by rw [List.all_cons,ZdW];rfl) (by rw [List.map_cons,ZdB];rfl) hf hs0
end
end
section
def Zkc (p:Zs):Zb:=if p.qos > 0 then (Zag p.topic).1++beB (ZP p.id) 2 else (Zag p.topic).1
def Zkk (p:Zs):Zb:=(Zkc p++(Zbj 3 p.props).1)++p.payload
def Zi6 (p:Zs):Zb:=(beB (ZP (Z3 p.present 1)) 1++beB (ZP p.code) 1)++(Zbj 2 p.props).1
def ZfO (s:Zbk):Int:=Zu s.qos 3+Z3 s.noLocal 4+Z3 s.asPublished 8+Zu s.handling 3*16
def Zo2 (s:Zbk):Zb:=(Zag s.filter).1++beB (ZP (ZfO s)) 1
def ZdU (l:List Zbk):Zb:=(l.map Zo2).flatten
def ZdE (l:List Zb):Zb:=(l.map fun f=>(Zag f).1).flatten
def Zdy (l:List Int):Zb:=(l.map fun c=>beB (ZP c) 1).flatten
theorem Zyp (p:Zs) (h:OkW p) (hk:p.type=3):E1 39 [.ref 0 0,Z4 p] [.var wn]=some (.tup [],wH 0 (Zkk p)):=by
 have lim:=Zd1
 have t1:=Zcr p.topic
 have y1:=ZcV 3 p.props
 have n1:=Zba 2 (ZP p.id)
 have f0:=fun {σ:Za} {t sq:Nat}=>Zp6 p.topic h.topic (σ:=σ) (t:=t) (sq:=sq)
 have pl:=h.payload
 unfold Zkk Zkc
 generalize (Zag p.topic).1=l0 at *
 have f1:=fun {σ:Za} {sq:Nat}=>ZfT l0 p.id 2 (by omega) (by omega) (m:=2) rfl (by omega) (σ:=σ) 0 2 0 (sq:=sq) (by omega)
 generalize beB (ZP p.id) 2=D1 at *
 have f2:=fun (l:Zb) (g:Nat) (hl:l.length<=1000000000) {σ:Za} {sq:Nat}=>Zgh l 3 p.props h.props.1 h.props.2 (by omega) (σ:=σ) 0 2 g (sq:=sq) (by omega)
 generalize (Zbj 3 p.props).1=D2 at *
 have f3:=fun (l:Zb) (g:Nat) (hl:l.length<=2000000000) {σ:Za} {sq:Nat}=>Zis l p.payload (by omega) (σ:=σ) 0 2 g (sq:=sq) (by omega)
 have hO:=fun {j g:Nat} {l:Zb} {σ:Za}=>Zdz (j:=j) (g:=g) (l:=l) (σ:=σ)
 rw [Zbn]
 have e0:=ZbX p
 have a0:(Zx p)[0]?=some (.int .i64 p.type):=rfl
 have a2:(Zx p)[2]?=some (.int .i64 p.qos):=rfl
 have a4:(Zx p)[4]?=some (.int .i64 p.id):=rfl
 have a5:(Zx p)[5]?=some (.str p.topic):=rfl
 have a6:(Zx p)[6]?=some (.lst false (p.payload.map Zc)):=rfl
 have a9:(Zx p)[9]?=some (.lst false (p.props.map Zn)):=rfl
 rw [hk] at a0
 clear h hk
 generalize Zx p=P at *
 generalize p.qos=q at *
 generalize p.id=c at *
 generalize p.topic=tp at *
 generalize p.payload=pa at *
 generalize p.props=ps at *
 rw [Zbi (by rfl) ZdY]
 by_cases hq:q > 0
 ·rw [if_pos hq]
  have k1:(l0++D1).length=l0.length+D1.length:=List.length_append
  have k2:(l0++D1++D2).length=l0.length+D1.length+D2.length:=by rw [List.length_append,k1]
  have g2:=fun {σ:Za} {sq:Nat}=>f2 (l0++D1) 1 (by omega) (σ:=σ) (sq:=sq)
  have g3:=fun {σ:Za} {sq:Nat}=>f3 (l0++D1++D2) 2 (by omega) (σ:=σ) (sq:=sq)
  clear k1 k2 f2 f3
  unfold wn wT at *
  simp -implicitDefEqProofs only [EQA,Zq,Nat.reduceAdd,Nat.reduceLT,Nat.reduceEqDiff,Nat.reduceBEq,reduceCtorEq,↓reduceIte,Zd,ZdD,Zc9,ZdO,oI,AVal.cells,a0,a2,a4,a5,a6,a9,Int.reduceBEq,hq,f0,f1,g2,g3,Zaf,Zaj,Zah,Zas,Zav,Zal]
  exact hO (j:=2) (by decide) rfl rfl
 ·rw [if_neg hq]
  have k2:(l0++D2).length=l0.length+D2.length:=List.length_append
  have g2:=fun {σ:Za} {sq:Nat}=>f2 l0 0 (by omega) (σ:=σ) (sq:=sq)
  have g3:=fun {σ:Za} {sq:Nat}=>f3 (l0++D2) 1 (by omega) (σ:=σ) (sq:=sq)
  clear k2 f2 f3
  unfold wn wT at *
  simp -implicitDefEqProofs only [EQA,Zq,Nat.reduceAdd,Nat.reduceLT,Nat.reduceEqDiff,Nat.reduceBEq,reduceCtorEq,↓reduceIte,Zd,ZdD,Zc9,ZdO,oI,AVal.cells,a0,a2,a5,a6,a9,Int.reduceBEq,hq,f0,g2,g3,Zaf,Zaj,Zah,Zas,Zav,Zal]
  exact hO (j:=2) (by decide) rfl rfl
theorem Zw7 (p:Zs) (h:OkW p) (hk:p.type=1):E1 39 [.ref 0 0,Z4 p] [.var wn]=some (.tup [],wH 0 (Zd6 p)):=by
 have f0:=fun {σ:Za} {t sq:Nat}=>Zzb p h (σ:=σ) (t:=t) (sq:=sq)
 have hO:=fun {j g:Nat} {l:Zb} {σ:Za}=>Zdz (j:=j) (g:=g) (l:=l) (σ:=σ)
 rw [Zbn]
 generalize Zd6 p=B at *
 have e0:=ZbX p
 have e1:=ZcC p
 have a0:(Zx p)[0]?=some (.int .i64 p.type):=rfl
 rw [hk] at a0
 generalize Zx p=P at *
 rw [Zbi (by rfl) ZdY]
 unfold wn at *
 simp -implicitDefEqProofs only [EQA,Zq,Nat.reduceAdd,Nat.reduceLT,Nat.reduceLeDiff,Nat.reduceEqDiff,Nat.reduceBEq,reduceCtorEq,↓reduceIte,Zd,ZdD,Zc9,ZdO,oI,AVal.cells,a0,e0,e1,f0]
 exact hO (j:=2) (by decide) rfl rfl
theorem ZxC (p:Zs) (h:OkW p) (hk:p.type=2):E1 39 [.ref 0 0,Z4 p] [.var wn]=some (.tup [],wH 0 (Zi6 p)):=by
 have lim:=Zd1
 have y1:=ZcV 2 p.props
 have n1:=Zba 1 (ZP p.code)
 have n0:=Zba 1 (ZP (Z3 p.present 1))
 have hm:=fun b n σ sq own=>Zip b n σ sq own
 have f0:=fun {σ:Za} {t sq:Nat}=>Zkd (Z3 p.present 1) 1 (by omega) (by omega) (m:=1) rfl (σ:=σ) (t:=t) (sq:=sq)
 unfold Zi6
 generalize beB (ZP (Z3 p.present 1)) 1=l0 at *
 have f1:=fun {σ:Za} {sq:Nat}=>ZfT l0 p.code 1 (by omega) (by omega) (m:=1) rfl (by omega) (σ:=σ) 0 2 0 (sq:=sq) (by omega)
 generalize beB (ZP p.code) 1=D1 at *
 have k1:(l0++D1).length=l0.length+D1.length:=List.length_append
 have f2:=fun {σ:Za} {sq:Nat}=>Zgh (l0++D1) 2 p.props h.props.1 h.props.2 (by omega) (σ:=σ) 0 2 1 (sq:=sq) (by omega)
 generalize (Zbj 2 p.props).1=D2 at *
 have hO:=fun {j g:Nat} {l:Zb} {σ:Za}=>Zdz (j:=j) (g:=g) (l:=l) (σ:=σ)
 rw [Zbn]
 have e0:=ZbX p
 have a0:(Zx p)[0]?=some (.int .i64 p.type):=rfl
 have a7:(Zx p)[7]?=some (.int .i64 p.code):=rfl
 have a9:(Zx p)[9]?=some (.lst false (p.props.map Zn)):=rfl
 have a25:(Zx p)[25]?=some (.bool p.present):=rfl
 rw [hk] at a0
 clear h hk k1
 generalize Zx p=P at *
 generalize p.code=c at *
 generalize p.present=b at *
 generalize p.props=ps at *
 rw [Zbi (by rfl) ZdY]
 unfold wn at *
 simp -implicitDefEqProofs only [EQA,Zq,Nat.reduceAdd,Nat.reduceLT,Nat.reduceEqDiff,Nat.reduceBEq,reduceCtorEq,↓reduceIte,Zd,ZdD,Zc9,ZdO,oI,AVal.cells,a0,a7,a9,a25,Int.reduceBEq,hm,f0,f1,f2]
 exact hO (j:=2) (by decide) rfl rfl
theorem Zrd (p:Zs) (h:OkW p) (hk:p.type=4\/p.type=5\/p.type=6\/p.type=7):E1 39 [.ref 0 0,Z4 p] [.var wn]=some (.tup [],wH 0 (beB (ZP p.id) 2++ZbD p)):=by
 have n0:=Zba 2 (ZP p.id)
 have f0:=fun {σ:Za} {t sq:Nat}=>Zkd p.id 2 (by omega) (by omega) (m:=2) rfl (σ:=σ) (t:=t) (sq:=sq)
 generalize beB (ZP p.id) 2=l0 at *
 have f1:=fun {σ:Za} {sq:Nat}=>ZFr p h l0 (by omega) (σ:=σ) 0 2 0 (sq:=sq) (by omega)
 have hO:=fun {j g:Nat} {l:Zb} {σ:Za}=>Zdz (j:=j) (g:=g) (l:=l) (σ:=σ)
 rw [Zbn]
 generalize ZbD p=B at *
 generalize Zfu p=g0 at *
 have e0:=ZbX p
 have e1:=ZcC p
 have a0:(Zx p)[0]?=some (.int .i64 p.type):=rfl
 have a4:(Zx p)[4]?=some (.int .i64 p.id):=rfl
 clear h
 generalize Zx p=P at *
 generalize p.id=c at *
 generalize p.type=ty at *
 rw [Zbi (by rfl) ZdY]
 unfold wn at *
 rcases hk with rfl | rfl | rfl | rfl
 all_goals
  simp -implicitDefEqProofs only [EQA,Zq,Nat.reduceAdd,Nat.reduceLT,Nat.reduceLeDiff,Nat.reduceEqDiff,Nat.reduceBEq,reduceCtorEq,↓reduceIte,Zd,ZdD,Zc9,ZdO,oI,AVal.cells,a0,a4,e0,e1,Int.reduceBEq,f0,f1]
  exact hO (j:=2) (by decide) rfl rfl
theorem ZA6 (p:Zs) (h:OkW p) (hb:ZcU p=none) {σ:Za} {t sq:Nat} (hf:σ[sq]?=some .free) (hs0:σ[t]?=some (.var wn)) :
  Zj E1 BY σ sq 83 1 true [.ref t 0,.agg (Zx p)]=some (.tup [],σ,{ any:=true,upd:=[(t,wn)] }):=by
 have:=ZqE p h
 rw [hb] at this
 exact Zp4 (args:=[.agg (Zx p)]) this (by kernel_rfl) (by rw [List.all_cons,ZdW];rfl) (by rw [List.map_cons,ZdB];rfl) (ff1 hf) hs0
theorem ZBF (p:Zs) (h:OkW p) (hb:ZcU p≠none) {σ:Za} {t sq:Nat} (hf:σ[sq]?=some .free) (hs0:σ[t]?=some (.var wn)) :
  Zj E1 BY σ sq 83 1 true [.ref t 0,.agg (Zx p)]=some (.tup [],(σ.set t (.var (wv sq 0 (ZbD p).length))).set sq (.row 0 1 ((ZbD p).map Zc)),{ any:=true,upd:=[(t,wv sq 0 (ZbD p).length)] }):=by
 have:=ZqE p h
 unfold ZcU at this hb
 by_cases hc:p.code≠0\/p.props≠[]
 ·rw [if_pos hc] at this
  exact ZfW (args:=[.agg (Zx p)]) rfl rfl this (by kernel_rfl) (by rw [List.all_cons,ZdW];rfl) (by rw [List.map_cons,ZdB];rfl) hf hs0
 ·rw [if_neg hc] at hb;exact absurd rfl hb
theorem Zyg (p:Zs) (h:OkW p) (hk:p.type=14\/p.type=15):E1 39 [.ref 0 0,Z4 p] [.var wn]=some (.tup [],wO (ZcU p)):=by
 have hO:=fun {j g:Nat} {l:Zb} {σ:Za}=>Zdz (j:=j) (g:=g) (l:=l) (σ:=σ)
 have e0:=ZbX p
 have e1:=ZcC p
 have a0:(Zx p)[0]?=some (.int .i64 p.type):=rfl
 by_cases hb:ZcU p=none
 ·have f1:=fun {σ:Za} {t sq:Nat}=>ZA6 p h hb (σ:=σ) (t:=t) (sq:=sq)
  rw [hb,Zbn]
  clear h hb
  generalize Zx p=P at *
  generalize p.type=ty at *
  rw [Zbi (by rfl) ZdY]
  unfold wO wn at *
  rcases hk with rfl | rfl
  all_goals
   simp -implicitDefEqProofs only [EQA,Zq,Z7,Nat.reduceAdd,Nat.reduceLT,Nat.reduceLeDiff,Nat.reduceEqDiff,Nat.reduceBEq,reduceCtorEq,↓reduceIte,Zd,ZdD,Zc9,ZdO,oI,AVal.cells,a0,e0,e1,Int.reduceBEq,f1]
 ·have f1:=fun {σ:Za} {t sq:Nat}=>ZBF p h hb (σ:=σ) (t:=t) (sq:=sq)
  have hr:ZcU p=some (ZbD p):=by unfold ZcU at hb ⊢;split at hb <;> simp_all
  rw [hr,Zbn]
  clear h hb hr
  generalize ZbD p=B at *
  generalize Zx p=P at *
  generalize p.type=ty at *
  rw [Zbi (by rfl) ZdY]
  unfold wO wn at *
  rcases hk with rfl | rfl
  all_goals
   simp -implicitDefEqProofs only [EQA,Zq,Nat.reduceAdd,Nat.reduceLT,Nat.reduceLeDiff,Nat.reduceEqDiff,Nat.reduceBEq,reduceCtorEq,↓reduceIte,Zd,ZdD,Zc9,ZdO,oI,AVal.cells,a0,e0,e1,Int.reduceBEq,f1]
   exact hO (j:=2) (by decide) rfl rfl
theorem ZvA (p:Zs) (hk:p.type < 1\/p.type=12\/p.type=13\/15 < p.type):E1 39 [.ref 0 0,Z4 p] [.var wn]=some (.tup [],[.var wn]):=by
 have e0:=ZbX p
 have a0:(Zx p)[0]?=some (.int .i64 p.type):=rfl
 have b:∀ n:Int,n=1\/n=2\/n=3\/n=4\/n=5\/n=6\/n=7\/n=8\/n=9\/n=10\/n=11\/n=14\/n=15->(p.type == n)=false:=by
  intro n hn
  have : p.type≠n:=by omega
  simpa using this
 have b1:=b 1 (by simp)
 have b2:=b 2 (by simp)
 have b3:=b 3 (by simp)
 have b4:=b 4 (by simp)
 have b5:=b 5 (by simp)
 have b6:=b 6 (by simp)
 have b7:=b 7 (by simp)
 have b8:=b 8 (by simp)
 have b9:=b 9 (by simp)
 have b10:=b 10 (by simp)
 have b11:=b 11 (by simp)
 have b14:=b 14 (by simp)
 have b15:=b 15 (by simp)
 rw [Zbn]
 generalize Zx p=P at *
 generalize p.type=ty at *
 rw [Zbi (by rfl) ZdY]
 unfold wn at *
 simp -implicitDefEqProofs only [EQA,Zq,Z7,Nat.reduceAdd,Nat.reduceLT,Nat.reduceEqDiff,Nat.reduceBEq,reduceCtorEq,↓reduceIte,Zd,ZdD,Zc9,ZdO,oI,AVal.cells,a0,b1,b2,b3,b4,b5,b6,b7,b8,b9,b10,b11,b14,b15]
end
section
theorem xw1 (c d:Zf) (h:c=d) (m:Nat) (tm:Tms) (σ:Za):evC FC PR1 BY m c tm σ=evC FC PR1 BY m d tm σ:=by rw [h]
def ZrI:=xw1 ZpR Zj9 rfl
def Zsr:=xw1 Zl0 Zkj rfl
def Zqq:=xw1 Zph Zlc rfl
noncomputable def Zko (m:Nat) (tm:Tms) (σ:Za):Option (AVal×Za):=(Zar m Zhj (Option.map (ZaT 0) (Option.map (ZaT 1) (evL FC PR1 BY m [75,74,73,0] ZpR tm σ))))
noncomputable def Zle (m:Nat) (tm:Tms) (σ:Za):Option (AVal×Za):=(Zar m Zhj (Option.map (ZaT 0) (Option.map (ZaT 3) (evL FC PR1 BY m [110,109,108,0] Zl0 tm σ))))
noncomputable def ZkD (m:Nat) (tm:Tms) (σ:Za):Option (AVal×Za):=(Zar m Zhj (Option.map (ZaT 0) (Option.map (ZaT 5) (evL FC PR1 BY m [127,126,125,0] Zph tm σ))))
theorem ZhH {a b c d:Nat} {x y z:AVal} (hx:ZG x=true) (hy:ZG y=true) (hz:ZG z=true) (r g:Nat) (hr:r≠0) (l:Zb) (σ:Za) (h0:σ[0]?=some (.var (wv r g l.length))) (h1:σ[r]?=some (.row g 1 (l.map Zc))) :
  gcT 1 [(a,x),(b,y),(c,z),(d,.ref 0 0)] σ=([(a,x),(b,y),(c,z),(d,.ref 0 0)],[.var (wv 1 0 l.length),.row 0 1 (l.map Zc)]):=by
 have d0:σ.getD 0 .free=.var (wv r g l.length):=by simp [List.getD_eq_getElem?_getD,h0]
 have d1:σ.getD r .free=.row g 1 (l.map Zc):=by simp [List.getD_eq_getElem?_getD,h1]
 have ej:([0]:List Nat).contains r=false:=by simp;omega
 have hrf:Zp (wv r g l.length)=[r]:=rfl
 have e1:=fun ρ=>ZaW ρ x hx
 have e2:=fun ρ=>ZaW ρ y hy
 have e3:=fun ρ=>ZaW ρ z hz
 have hv:Zp [x,y,z,.ref 0 0]=[0]:=by
  simp only [Zp,(e1 (fun _ _=>none)).2,(e2 (fun _ _=>none)).2,(e3 (fun _ _=>none)).2];rfl
 have hi:ZB 1 [x,y,z,.ref 0 0] σ=[0,r]:=by
  have hR:List.range 1=[0]:=rfl
  have e0:([]:List Nat).contains r=false:=rfl
  simp only [ZB,hv,hR,List.flatMap_cons,List.flatMap_nil,List.append_nil,d0,ZN,hrf]
  rw [show (1000:Nat)=996+1+1+1+1 from rfl]
  simp only [List.cons_append,List.nil_append,ZA,ej,d1,ZN,List.append_nil,Bool.false_eq_true,if_false]
  have ej0:([0]:List Nat).contains 0=true:=rfl
  have ejr:([0,r]:List Nat).contains r=true:=by simp
  simp []
 have hρ:Zl σ 1 [0,r] r g=some (1,0):=by
  have : ¬(0:Nat)=r:=fun e=>hr e.symm
  simp [Zl,ZZ,Zm,ZR,h1,this]
 have hρ0:Zl σ 1 [0,r] 0 0=some (0,0):=by
  simp [Zl,ZZ,Zm,ZR,h0]
 have hren:Ze (Zl σ 1 [0,r]) (wv r g l.length)=wv 1 0 l.length:=by simp only [wv,Ze,Zk,hρ]
 simp only [gcT,gcA,hi,List.map_cons,List.map_nil,Zv,d0,d1,ZR,Zm,ZF,hren,Ze,(e1 _).1,(e2 _).1,(e3 _).1,Zk,hρ0]
 simp
theorem ZIX (r:List Zb):(ZdE r).length<=r.length*65537:=by
 induction r with
 | nil=>simp [ZdE]
 | cons x r ih =>
  have:=Zcr x
  simp only [ZdE,List.map_cons,List.flatten_cons,List.length_append,List.length_cons] at ih ⊢
  omega
theorem Zz1 (r:List Int):(Zdy r).length<=r.length:=by
 induction r with
 | nil=>simp [Zdy]
 | cons x r ih =>
  have:=Zba 1 (ZP x)
  simp only [Zdy,List.map_cons,List.flatten_cons,List.length_append,List.length_cons] at ih ⊢
  omega
theorem ZLm (r:List Zbk):(ZdU r).length<=r.length*65538:=by
 induction r with
 | nil=>simp [ZdU]
 | cons x r ih =>
  have:=Zcr x.filter
  have:=Zba 1 (ZP (ZfO x))
  simp only [ZdU,List.map_cons,List.flatten_cons,List.length_append,List.length_cons,Zo2] at ih ⊢
  omega
theorem Zrj (fs:List Zb) (hn:fs.length<=1048576) (hx:∀ f ∈ fs,f.length<=9223372036854775807):∀ (r:List Zb) (i:Nat) (l:Zb),fs.drop i=r->l.length+r.length*65537<=1000000000000 ->
  Zle 1 [(110,.int .i64 i),(109,.int .i64 fs.length),(108,.lst false (fs.map AVal.str)),(0,.ref 0 0)] [.var (wv 1 0 l.length),.row 0 1 (l.map Zc)]=some (.tup [],wH 0 (l++ZdE r))
 | [],i,l,h,hl=>by
  have h1:=Zc4 h
  have hO:=fun {j g:Nat} {l:Zb} {σ:Za}=>Zdz (j:=j) (g:=g) (l:=l) (σ:=σ)
  have e:l++ZdE []=l:=by simp [ZdE]
  rw [e]
  unfold Zle
  rw [Z9]
  simp -implicitDefEqProofs only [EQA,Zq,Nat.reduceAdd,Nat.reduceLT,Nat.reduceEqDiff,reduceCtorEq,↓reduceIte,Zd,ZdO,Zkj,oI,Zsr,h1]
  exact hO (j:=1) (by decide) rfl rfl
 | x::r,i,l,h,hl=>by
  have hx0:x.length<=9223372036854775807:=hx x (List.mem_of_getElem? (Zad h).1)
  have t1:=Zcr x
  have lim:=Zd1
  simp only [List.length_cons] at hl
  have ih:=Zrj fs hn hx r (i+1) (l++(Zag x).1) (Zad h).2.1 (by rw [List.length_append];omega)
  have h1:(i:Int) < fs.length:=by have:=(Zad h).2.2;omega
  have e1:=iad (Zad h).1 AVal.str (k:=1) rfl
  have e3:=Zdc h1 (by omega)
  have f1:=fun {σ:Za} {sq:Nat}=>ZiY l x hx0 (by omega) (σ:=σ) 0 1 0 (sq:=sq) (by omega)
  have e:l++ZdE (x::r)=l++(Zag x).1++ZdE r:=by simp [ZdE]
  rw [e]
  generalize (Zag x).1=D at *
  have hG:=fun {a b c d:Nat} {i n:Int} {σ:Za} h0 h1=>ZhH (a:=a) (b:=b) (c:=c) (d:=d) (x:=.int .i64 i) (y:=.int .i64 n) (z:=.lst false (fs.map AVal.str)) rfl rfl rfl 1 1 (by omega) (l++D) σ h0 h1
  unfold Zle at ih ⊢
  rw [Z9]
  simp -implicitDefEqProofs only [EQA,Z7,Nat.reduceAdd,Nat.reduceLT,Nat.reduceEqDiff,Nat.reduceBEq,reduceCtorEq,↓reduceIte,Zkj,oI,Zsr,AVal.cells,h1,e1,e3,f1,hG]
  exact ih
theorem Zr7 (fs:List Int) (hn:fs.length<=1048576):∀ (r:List Int) (i:Nat) (l:Zb),fs.drop i=r->l.length+r.length<=1000000000000 ->
  ZkD 1 [(127,.int .i64 i),(126,.int .i64 fs.length),(125,.lst false (fs.map (AVal.int .i64))),(0,.ref 0 0)] [.var (wv 1 0 l.length),.row 0 1 (l.map Zc)]=some (.tup [],wH 0 (l++Zdy r))
 | [],i,l,h,hl=>by
  have h1:=Zc4 h
  have hO:=fun {j g:Nat} {l:Zb} {σ:Za}=>Zdz (j:=j) (g:=g) (l:=l) (σ:=σ)
  have e:l++Zdy []=l:=by simp [Zdy]
  rw [e]
  unfold ZkD
  rw [Z9]
  simp -implicitDefEqProofs only [EQA,Zq,Nat.reduceAdd,Nat.reduceLT,Nat.reduceEqDiff,reduceCtorEq,↓reduceIte,Zd,ZdO,Zlc,oI,Zqq,h1]
  exact hO (j:=1) (by decide) rfl rfl
 | x::r,i,l,h,hl=>by
  have t1:=Zba 1 (ZP x)
  have lim:=Zd1
  simp only [List.length_cons] at hl
  have ih:=Zr7 fs hn r (i+1) (l++beB (ZP x) 1) (Zad h).2.1 (by rw [List.length_append];omega)
  have h1:(i:Int) < fs.length:=by have:=(Zad h).2.2;omega
  have e1:=iad (Zad h).1 (AVal.int .i64) (k:=1) rfl
  have e3:=Zdc h1 (by omega)
  have f1:=fun {σ:Za} {sq:Nat}=>ZfT l x 1 (by omega) (by omega) (m:=1) rfl (by omega) (σ:=σ) 0 1 0 (sq:=sq) (by omega)
  have e:l++Zdy (x::r)=l++beB (ZP x) 1++Zdy r:=by simp [Zdy]
  rw [e]
  generalize beB (ZP x) 1=D at *
  have hG:=fun {a b c d:Nat} {i n:Int} {σ:Za} h0 h1=>ZhH (a:=a) (b:=b) (c:=c) (d:=d) (x:=.int .i64 i) (y:=.int .i64 n) (z:=.lst false (fs.map (AVal.int .i64))) rfl rfl rfl 1 1 (by omega) (l++D) σ h0 h1
  unfold ZkD at ih ⊢
  rw [Z9]
  simp -implicitDefEqProofs only [EQA,Z7,Nat.reduceAdd,Nat.reduceLT,Nat.reduceEqDiff,Nat.reduceBEq,reduceCtorEq,↓reduceIte,Zlc,oI,Zqq,AVal.cells,h1,e1,e3,f1,hG]
  exact ih
theorem ZqH (fs:List Zbk) (hn:fs.length<=1048576) (hx:∀ f ∈ fs,f.filter.length<=9223372036854775807):∀ (r:List Zbk) (i:Nat) (l:Zb),fs.drop i=r->l.length+r.length*65538<=1000000000000 ->
  Zko 1 [(75,.int .i64 i),(74,.int .i64 fs.length),(73,.lst false (fs.map ZU)),(0,.ref 0 0)] [.var (wv 1 0 l.length),.row 0 1 (l.map Zc)]=some (.tup [],wH 0 (l++ZdU r))
 | [],i,l,h,hl=>by
  have h1:=Zc4 h
  have hO:=fun {j g:Nat} {l:Zb} {σ:Za}=>Zdz (j:=j) (g:=g) (l:=l) (σ:=σ)
  have e:l++ZdU []=l:=by simp [ZdU]
  rw [e]
  unfold Zko
  rw [Z9]
  simp -implicitDefEqProofs only [EQA,Zq,Nat.reduceAdd,Nat.reduceLT,Nat.reduceEqDiff,reduceCtorEq,↓reduceIte,Zd,ZdO,Zj9,oI,oN,ZrI,h1]
  exact hO (j:=1) (by decide) rfl rfl
 | x::r,i,l,h,hl=>by
  have hx0:x.filter.length<=9223372036854775807:=hx x (List.mem_of_getElem? (Zad h).1)
  have t1:=Zcr x.filter
  have t2:=Zba 1 (ZP (ZfO x))
  have lim:=Zd1
  simp only [List.length_cons] at hl
  have ih:=ZqH fs hn hx r (i+1) (l++(Zag x.filter).1++beB (ZP (ZfO x)) 1) (Zad h).2.1 (by rw [List.length_append,List.length_append];omega)
  have h1:(i:Int) < fs.length:=by have:=(Zad h).2.2;omega
  have e1:=iad (Zad h).1 ZU (k:=6) rfl
  have e3:=Zdc h1 (by omega)
  have hm:=fun b n σ sq own=>Zip b n σ sq own
  have q1:=ZhV x.qos
  have q2:=ZhV x.handling
  have m1:=ZdN x.noLocal 4 (by omega)
  have m2:=ZdN x.asPublished 8 (by omega)
  have w1:=Zcf (Zu x.qos 3+Z3 x.noLocal 4) (by omega) (by omega)
  have w2:=Zcf (Zu x.qos 3+Z3 x.noLocal 4+Z3 x.asPublished 8) (by omega) (by omega)
  have w3:=Zcf (Zu x.handling 3*16) (by omega) (by omega)
  have w4:=Zcf (Zu x.qos 3+Z3 x.noLocal 4+Z3 x.asPublished 8+Zu x.handling 3*16) (by omega) (by omega)
  have f1:=fun {σ:Za} {sq:Nat}=>ZiY l x.filter hx0 (by omega) (σ:=σ) 0 1 0 (sq:=sq) (by omega)
  have f2:=fun {σ:Za} {sq:Nat}=>ZfT (l++(Zag x.filter).1) (ZfO x) 1 (by omega) (by omega) (m:=1) rfl (by rw [List.length_append];omega) (σ:=σ) 0 1 1 (sq:=sq) (by omega)
  have e:l++ZdU (x::r)=l++(Zag x.filter).1++beB (ZP (ZfO x)) 1++ZdU r:=by simp [ZdU,Zo2]
  rw [e]
  generalize (Zag x.filter).1=D at *
  generalize beB (ZP (ZfO x)) 1=D2 at *
  have hG:=fun {a b c d:Nat} {i n:Int} {σ:Za} h0 h1=>ZhH (a:=a) (b:=b) (c:=c) (d:=d) (x:=.int .i64 i) (y:=.int .i64 n) (z:=.lst false (fs.map ZU)) rfl rfl rfl 1 2 (by omega) (l++D++D2) σ h0 h1
  unfold ZfO at f2
  unfold Zko at ih ⊢
  rw [Z9]
  simp only [ZU,AVal.cells] at e1
  unfold Zu at *
  simp -implicitDefEqProofs only [EQA,Z7,Nat.reduceAdd,Nat.reduceLT,Nat.reduceLeDiff,Nat.reduceEqDiff,Nat.reduceBEq,reduceCtorEq,↓reduceIte,Zj9,oI,oN,ZrI,AVal.cells,h1,e1,e3,hm,w1,w2,w3,w4,f1,f2,hG,Zaf,Zaj,Zah,Zas,Zav,Zal,List.lookup_nil]
  exact ih
section
variable (p:Zs) (h:OkW p)
include h
theorem Zi5:(ZbM p).length<=300000000:=by
 have:=ZcV p.type p.props
 have:=Zba 2 (ZP p.id)
 unfold ZbM
 rw [List.length_append];omega
theorem ZBn (hk:p.type=8):E1 39 [.ref 0 0,Z4 p] [.var wn]=some (.tup [],wH 0 (ZbM p++ZdU p.subs)):=by
 have hh:=Zi5 p h
 have f0:=fun {σ:Za} {t sq:Nat}=>Zof p h (σ:=σ) (t:=t) (sq:=sq)
 have hx:=h.subs
 have hL:=ZqH p.subs hx.1 hx.2 p.subs 0 (ZbM p) rfl (by omega)
 have z:((0:Nat):Int)=0:=rfl
 rw [z] at hL
 unfold Zko at hL
 have hG:=fun {a b c d:Nat} {i n:Int} {r g:Nat} {σ:Za} hr h0 h1=>ZhH (a:=a) (b:=b) (c:=c) (d:=d) (x:=.int .i64 i) (y:=.int .i64 n) (z:=.lst false (p.subs.map ZU)) rfl rfl rfl r g hr (ZbM p) σ h0 h1
 have hG2:=fun {a b c d:Nat} {i n:Int} {g:Nat} {σ:Za} h0 h1=>hG (a:=a) (b:=b) (c:=c) (d:=d) (i:=i) (n:=n) (r:=2) (g:=g) (σ:=σ) (by omega) h0 h1
 clear hG
 have hn:(p.subs.map ZU).length=p.subs.length:=by simp
 rw [Zbn]
 generalize ZbM p=B at *
 have e0:=ZbX p
 have e1:=ZcC p
 have a0:(Zx p)[0]?=some (.int .i64 p.type):=rfl
 have a10:(Zx p)[10]?=some (.lst false (p.subs.map ZU)):=rfl
 rw [hk] at a0
 clear h hk hx
 generalize Zx p=P at *
 generalize p.subs=ss at *
 rw [Zbi (by rfl) ZdY]
 unfold wn at *
 simp -implicitDefEqProofs only [EQA,Z7,Nat.reduceAdd,Nat.reduceLT,Nat.reduceLeDiff,Nat.reduceEqDiff,Nat.reduceBEq,reduceCtorEq,↓reduceIte,ZdD,Zc9,oI,AVal.cells,a0,a10,e0,e1,hn,Int.reduceBEq,f0]
 exact hL
theorem ZBA (hk:p.type=10):E1 39 [.ref 0 0,Z4 p] [.var wn]=some (.tup [],wH 0 (ZbM p++ZdE p.filters)):=by
 have hh:=Zi5 p h
 have f0:=fun {σ:Za} {t sq:Nat}=>Zof p h (σ:=σ) (t:=t) (sq:=sq)
 have hx:=h.filters
 have hL:=Zrj p.filters hx.1 hx.2 p.filters 0 (ZbM p) rfl (by omega)
 have z:((0:Nat):Int)=0:=rfl
 rw [z] at hL
 unfold Zle at hL
 have hG2:=fun {a b c d:Nat} {i n:Int} {g:Nat} {σ:Za} h0 h1=>ZhH (a:=a) (b:=b) (c:=c) (d:=d) (x:=.int .i64 i) (y:=.int .i64 n) (z:=.lst false (p.filters.map AVal.str)) rfl rfl rfl 2 g (by omega) (ZbM p) σ h0 h1
 have hn:(p.filters.map AVal.str).length=p.filters.length:=by simp
 rw [Zbn]
 generalize ZbM p=B at *
 have e0:=ZbX p
 have e1:=ZcC p
 have a0:(Zx p)[0]?=some (.int .i64 p.type):=rfl
 have a11:(Zx p)[11]?=some (.lst false (p.filters.map AVal.str)):=rfl
 rw [hk] at a0
 clear h hk hx
 generalize Zx p=P at *
 generalize p.filters=ss at *
 rw [Zbi (by rfl) ZdY]
 unfold wn at *
 simp -implicitDefEqProofs only [EQA,Z7,Nat.reduceAdd,Nat.reduceLT,Nat.reduceLeDiff,Nat.reduceEqDiff,Nat.reduceBEq,reduceCtorEq,↓reduceIte,ZdD,Zc9,oI,AVal.cells,a0,a11,e0,e1,hn,Int.reduceBEq,f0]
 exact hL
theorem Zw3 (hk:p.type=9\/p.type=11):E1 39 [.ref 0 0,Z4 p] [.var wn]=some (.tup [],wH 0 (ZbM p++Zdy p.codes)):=by
 have hh:=Zi5 p h
 have f0:=fun {σ:Za} {t sq:Nat}=>Zof p h (σ:=σ) (t:=t) (sq:=sq)
 have hx:=h.codes
 have hL:=Zr7 p.codes hx p.codes 0 (ZbM p) rfl (by omega)
 have z:((0:Nat):Int)=0:=rfl
 rw [z] at hL
 unfold ZkD at hL
 have hG2:=fun {a b c d:Nat} {i n:Int} {g:Nat} {σ:Za} h0 h1=>ZhH (a:=a) (b:=b) (c:=c) (d:=d) (x:=.int .i64 i) (y:=.int .i64 n) (z:=.lst false (p.codes.map (AVal.int .i64))) rfl rfl rfl 2 g (by omega) (ZbM p) σ h0 h1
 have hn:(p.codes.map (AVal.int .i64)).length=p.codes.length:=by simp
 rw [Zbn]
 generalize ZbM p=B at *
 have e0:=ZbX p
 have e1:=ZcC p
 have a0:(Zx p)[0]?=some (.int .i64 p.type):=rfl
 have a8:(Zx p)[8]?=some (.lst false (p.codes.map (AVal.int .i64))):=rfl
 clear h hx
 generalize Zx p=P at *
 generalize p.codes=ss at *
 generalize p.type=ty at *
 rw [Zbi (by rfl) ZdY]
 unfold wn at *
 rcases hk with rfl | rfl
 all_goals
  simp -implicitDefEqProofs only [EQA,Z7,Nat.reduceAdd,Nat.reduceLT,Nat.reduceLeDiff,Nat.reduceEqDiff,Nat.reduceBEq,reduceCtorEq,↓reduceIte,ZdD,Zc9,oI,AVal.cells,a0,a8,e0,e1,hn,Int.reduceBEq,f0]
  exact hL
end
end
section
theorem ZuE (a b:List Int) (h:a.length=b.length) (hl:a.length<=9223372036854775807):∀ (r s:List Int) (i:Nat),a.drop i=r->b.drop i=s->ZkX 0 [(13,.int .i64 i),(12,.int .i64 a.length),(1,.lst false (b.map (AVal.int .i64))),(0,.lst false (a.map (AVal.int .i64)))] []=some (.bool (r == s),[])
 | [],s,i,ha,hb=>by
  have hs:s=[]:=by
   subst hb;rw [List.drop_eq_nil_iff] at ha ⊢;omega
  subst hs
  have h1:=Zc4 ha
  unfold ZkX
  rw [Z9]
  simp -implicitDefEqProofs only [EQA,Nat.reduceLT,Nat.reduceEqDiff,reduceCtorEq,↓reduceIte,Zmv,ZJS,ZmM,Zq6,Zj1,oI,h1]
 | x::r,[],i,ha,hb=>by
  have:=(Zad ha).2.2;rw [List.drop_eq_nil_iff] at hb;omega
 | x::r,y::s,i,ha,hb=>by
  have ih:=ZuE a b h hl r s (i+1) (Zad ha).2.1 (Zad hb).2.1
  have h1:(i:Int) < a.length:=by have:=(Zad ha).2.2;omega
  have e1:=iad (Zad ha).1 (AVal.int .i64) (k:=1) rfl
  have e2:=iad (Zad hb).1 (AVal.int .i64) (k:=1) rfl
  have e3:=Zdc h1 hl
  unfold ZkX at ih ⊢
  rw [Z9]
  simp -implicitDefEqProofs only [EQA,ZC,Z7,Nat.reduceLT,Nat.reduceEqDiff,Nat.reduceBEq,reduceCtorEq,↓reduceIte,gcT,gcA,ZB,ZA,Zv,ZN,Zmv,Zq6,Zj1,oI,h1,e1,e2,e3]
  rw [ih]
  by_cases hx:x=y <;> simp [hx]
theorem ZB6 (a b:List Int) (hl:a.length<=9223372036854775807):E 45 [.lst false (a.map (AVal.int .i64)),.lst false (b.map (AVal.int .i64))] []=some (.bool (a == b),[]):=by
 rw [Zh (by rfl) ZHN]
 by_cases h:a.length=b.length
 ·have:=ZuE a b h hl a b 0 rfl rfl
  unfold ZkX at this
  have e:=Zlf h
  simp -implicitDefEqProofs only [EQA,Z7,Nat.reduceLT,Nat.reduceEqDiff,reduceCtorEq,↓reduceIte,gcT,gcA,ZB,ZA,Zv,ZN,ZrF,ZlN,oI,e]
  exact this
 ·have e:=ZjI h
  simp -implicitDefEqProofs only [EQA,Nat.reduceLT,Nat.reduceEqDiff,reduceCtorEq,↓reduceIte,ZrF,ZlN,Zmv,oI,e,ZjP h]
theorem ZJR (σ:Za) (sq own:Nat) (view:Bool) (a b:List Int) (hl:a.length<=9223372036854775807):Zj E BY σ sq 45 own view [.lst false (a.map (AVal.int .i64)),.lst false (b.map (AVal.int .i64))]=some (.bool (a == b),σ,{}) :=
 Zcl (ZB6 a b hl) (by kernel_rfl) (by simp -implicitDefEqProofs only [ZcR,Zbq,eq_self]) (by simp -implicitDefEqProofs only [ZC,Zbq,eq_self]) rfl (fun _=>rfl) _ _ _ _
theorem Zs9 (a b:List Zb) (h:a.length=b.length) (hl:a.length<=9223372036854775807):∀ (r s:List Zb) (i:Nat),a.drop i=r->b.drop i=s->ZkA 0 [(13,.int .i64 i),(12,.int .i64 a.length),(1,.lst false (b.map AVal.str)),(0,.lst false (a.map AVal.str))] []=some (.bool (r == s),[])
 | [],s,i,ha,hb=>by
  have hs:s=[]:=by
   subst hb;rw [List.drop_eq_nil_iff] at ha ⊢;omega
  subst hs
  have h1:=Zc4 ha
  unfold ZkA
  rw [Z9]
  simp -implicitDefEqProofs only [EQA,Nat.reduceLT,Nat.reduceEqDiff,reduceCtorEq,↓reduceIte,ZoI,ZA3,Zn7,Zuq,Zlx,oI,h1]
 | x::r,[],i,ha,hb=>by
  have:=(Zad ha).2.2;rw [List.drop_eq_nil_iff] at hb;omega
 | x::r,y::s,i,ha,hb=>by
  have ih:=Zs9 a b h hl r s (i+1) (Zad ha).2.1 (Zad hb).2.1
  have h1:(i:Int) < a.length:=by have:=(Zad ha).2.2;omega
  have e1:=iad (Zad ha).1 AVal.str (k:=1) rfl
  have e2:=iad (Zad hb).1 AVal.str (k:=1) rfl
  have e3:=Zdc h1 hl
  unfold ZkA at ih ⊢
  rw [Z9]
  simp -implicitDefEqProofs only [EQA,ZC,Z7,Nat.reduceLT,Nat.reduceEqDiff,Nat.reduceBEq,ZeK,reduceCtorEq,↓reduceIte,gcT,gcA,ZB,ZA,Zv,ZN,ZoI,Zuq,Zlx,oI,h1,e1,e2,e3]
  rw [ih]
  by_cases hx:x=y <;> simp [hx]
theorem ZF0 (a b:List Zb) (hl:a.length<=9223372036854775807):E 47 [.lst false (a.map AVal.str),.lst false (b.map AVal.str)] []=some (.bool (a == b),[]):=by
 rw [Zh (by rfl) ZIU]
 by_cases h:a.length=b.length
 ·have:=Zs9 a b h hl a b 0 rfl rfl
  unfold ZkA at this
  have e:=Zlf h
  simp -implicitDefEqProofs only [EQA,Z7,Nat.reduceLT,Nat.reduceEqDiff,reduceCtorEq,↓reduceIte,gcT,gcA,ZB,ZA,Zv,ZN,Zuk,ZlF,oI,e]
  exact this
 ·have e:=ZjI h
  simp -implicitDefEqProofs only [EQA,Nat.reduceLT,Nat.reduceEqDiff,reduceCtorEq,↓reduceIte,Zuk,ZlF,ZoI,oI,e,ZjP h]
theorem ZEk (σ:Za) (sq own:Nat) (view:Bool) (a b:List Zb) (hl:a.length<=9223372036854775807):Zj E BY σ sq 47 own view [.lst false (a.map AVal.str),.lst false (b.map AVal.str)]=some (.bool (a == b),σ,{}) :=
 Zcl (ZF0 a b hl) (by kernel_rfl) (by simp -implicitDefEqProofs only [ZcR,Zbq,eq_self]) (by simp -implicitDefEqProofs only [ZC,Zbq,eq_self]) rfl (fun _=>rfl) _ _ _ _
theorem ZtH (a b:List Zbk) (h:a.length=b.length) (hl:a.length<=9223372036854775807):∀ (r s:List Zbk) (i:Nat),a.drop i=r->b.drop i=s->ZjW 0 [(13,.int .i64 i),(12,.int .i64 a.length),(1,.lst false (b.map ZU)),(0,.lst false (a.map ZU))] []=some (.bool (r == s),[])
 | [],s,i,ha,hb=>by
  have hs:s=[]:=by
   subst hb;rw [List.drop_eq_nil_iff] at ha ⊢;omega
  subst hs
  have h1:=Zc4 ha
  unfold ZjW
  rw [Z9]
  simp -implicitDefEqProofs only [EQA,Nat.reduceLT,Nat.reduceEqDiff,reduceCtorEq,↓reduceIte,ZpV,ZFX,Zpm,Zui,ZkF,oI,h1]
 | x::r,[],i,ha,hb=>by
  have:=(Zad ha).2.2;rw [List.drop_eq_nil_iff] at hb;omega
 | x::r,y::s,i,ha,hb=>by
  have ih:=ZtH a b h hl r s (i+1) (Zad ha).2.1 (Zad hb).2.1
  have h1:(i:Int) < a.length:=by have:=(Zad ha).2.2;omega
  have e1:=iad (Zad ha).1 ZU (k:=6) rfl
  have e2:=iad (Zad hb).1 ZU (k:=6) rfl
  have e3:=Zdc h1 hl
  unfold ZjW at ih ⊢
  rw [Z9]
  obtain ⟨f1,q1,n1,a1,d1,i1⟩:=x
  obtain ⟨f2,q2,n2,a2,d2,i2⟩:=y
  simp only [ZU,AVal.cells] at e1 e2
  have kd:ZfE [2,0,1,1,0,0] [AVal.str f1,.int .i64 q1,.bool n1,.bool a1,.int .i64 d1,.int .i64 i1]=true:=rfl
  have ke:ZeG [AVal.str f1,.int .i64 q1,.bool n1,.bool a1,.int .i64 d1,.int .i64 i1] [AVal.str f2,.int .i64 q2,.bool n2,.bool a2,.int .i64 d2,.int .i64 i2]=some (f1 == f2 && (q1 == q2 && (n1 == n2 && (a1 == a2 && (d1 == d2 && (i1 == i2 && true)))))):=rfl
  have kd2:ZfE [2,0,1,1,0,0] [AVal.str f2,.int .i64 q2,.bool n2,.bool a2,.int .i64 d2,.int .i64 i2]=true:=rfl
  simp -implicitDefEqProofs only [EQA,Z7,Nat.reduceAdd,Nat.reduceLT,Nat.reduceLeDiff,Nat.reduceEqDiff,Nat.reduceBEq,reduceCtorEq,↓reduceIte,gcT,gcA,ZB,ZA,Zv,ZN,ZpV,Zui,ZkF,oI,h1,e1,e2,e3,kd,ke]
  rw [ih]
  have hb:((⟨f1,q1,n1,a1,d1,i1⟩:Zbk) == ⟨f2,q2,n2,a2,d2,i2⟩)=(f1 == f2 && (q1 == q2 && (n1 == n2 && (a1 == a2 && (d1 == d2 && (i1 == i2)))))):=by
   rw [Bool.eq_iff_iff];simp
  rw [List.cons_beq_cons,hb]
  cases f1 == f2 <;> cases q1 == q2 <;> cases n1 == n2 <;> cases a1 == a2 <;> cases d1 == d2 <;> cases i1 == i2 <;> rfl
theorem ZB4 (a b:List Zbk) (hl:a.length<=9223372036854775807):E 46 [.lst false (a.map ZU),.lst false (b.map ZU)] []=some (.bool (a == b),[]):=by
 rw [Zh (by rfl) Zxt]
 by_cases h:a.length=b.length
 ·have:=ZtH a b h hl a b 0 rfl rfl
  unfold ZjW at this
  have e:=Zlf h
  simp -implicitDefEqProofs only [EQA,Z7,Nat.reduceLT,Nat.reduceEqDiff,reduceCtorEq,↓reduceIte,gcT,gcA,ZB,ZA,Zv,ZN,Zq7,ZjY,oI,e]
  exact this
 ·have e:=ZjI h
  simp -implicitDefEqProofs only [EQA,Nat.reduceLT,Nat.reduceEqDiff,reduceCtorEq,↓reduceIte,Zq7,ZjY,ZpV,oI,e,ZjP h]
theorem ZL8 (σ:Za) (sq own:Nat) (view:Bool) (a b:List Zbk) (hl:a.length<=9223372036854775807):Zj E BY σ sq 46 own view [.lst false (a.map ZU),.lst false (b.map ZU)]=some (.bool (a == b),σ,{}) :=
 Zcl (ZB4 a b hl) (by kernel_rfl) (by simp -implicitDefEqProofs only [ZcR,Zbq,eq_self]) (by simp -implicitDefEqProofs only [ZC,Zbq,eq_self]) rfl (fun _=>rfl) _ _ _ _
def Zdv (a b:Zs):Bool :=
 ((((((((((((a.codes == b.codes && a.subs == b.subs && a.filters == b.filters && a.props == b.props && a.will.props == b.will.props)
  && (a.payload == b.payload && a.password == b.password && a.will.data == b.will.data))
  && (a.will.topic == b.will.topic && a.will.qos == b.will.qos && a.will.retain == b.will.retain))
  && (a.dup == b.dup && a.retain == b.retain && a.clean == b.clean && a.hasWill == b.hasWill && a.hasUser == b.hasUser && a.hasPassword == b.hasPassword && a.present == b.present))
  && a.type == b.type) && a.qos == b.qos) && a.id == b.id) && a.topic == b.topic) && a.code == b.code) && a.keep == b.keep) && a.client == b.client) && a.user == b.user)
theorem Zqb (a b:Zs):Zdv a b=true↔a=b:=by
 obtain ⟨a1,a2,a3,a4,a5,a6,a7,a8,a9,a10,a11,a12,a13,a14,a15,a16,⟨a17,a18,a19,a20,a21⟩,a22,a23,a24,a25,a26⟩:=a
 obtain ⟨b1,b2,b3,b4,b5,b6,b7,b8,b9,b10,b11,b12,b13,b14,b15,b16,⟨b17,b18,b19,b20,b21⟩,b22,b23,b24,b25,b26⟩:=b
 simp only [Zdv,Bool.and_eq_true,beq_iff_eq,Zs.mk.injEq,ZtC.mk.injEq]
 constructor
 ·rintro ⟨⟨⟨⟨⟨⟨⟨⟨⟨⟨⟨⟨⟨⟨⟨h1,h2⟩,h3⟩,h4⟩,h5⟩,⟨⟨h6,h7⟩,h8⟩⟩,⟨⟨h9,h10⟩,h11⟩⟩,⟨⟨⟨⟨⟨⟨h12,h13⟩,h14⟩,h15⟩,h16⟩,h17⟩,h18⟩⟩,h19⟩,h20⟩,h21⟩,h22⟩,h23⟩,h24⟩,h25⟩,h26⟩
  simp only [h1,h2,h3,h4,h5,h6,h7,h8,h9,h10,h11,h12,h13,h14,h15,h16,h17,h18,h19,h20,h21,h22,h23,h24,h25,h26,and_self]
 ·rintro ⟨h1,h2,h3,h4,h5,h6,h7,h8,h9,h10,h11,h12,h13,h14,h15,h16,⟨h17,h18,h19,h20,h21⟩,h22,h23,h24,h25,h26⟩
  simp only [h1,h2,h3,h4,h5,h6,h7,h8,h9,h10,h11,h12,h13,h14,h15,h16,h17,h18,h19,h20,h21,h22,h23,h24,h25,h26,and_self]
structure OkL (p:Zs):Prop where
 codes:p.codes.length<=9223372036854775807
 props:p.props.length<=9223372036854775807
 subs:p.subs.length<=9223372036854775807
 filters:p.filters.length<=9223372036854775807
 wprops:p.will.props.length<=9223372036854775807
theorem ZBY (a b:Zs) (h:OkL a):E 22 [Z4 a,Z4 b] []=some (.bool (Zdv a b),[]):=by
 have h1:=fun σ sq own view=>ZJR σ sq own view a.codes b.codes h.codes
 have h2:=fun σ sq own view=>ZL8 σ sq own view a.subs b.subs h.subs
 have h3:=fun σ sq own view=>ZEk σ sq own view a.filters b.filters h.filters
 have h4:=fun σ sq own view=>Zkx σ sq own view a.props b.props h.props
 have h5:=fun σ sq own view=>Zkx σ sq own view a.will.props b.will.props h.wprops
 rw [Zh (by rfl) ZKT]
 unfold Z4 Zdv
 simp -implicitDefEqProofs only [EQA,Z7,Zdw,Znx,Nat.reduceAdd,Nat.reduceLT,Nat.reduceEqDiff,Nat.reduceBEq,ZeK,ZH,Zau,unG,reduceCtorEq,ZY,ite_self,↓reduceIte,ZJ3,ZpI,ZMR,oI,AVal.cells,h1,h2,h3,h4,h5]
theorem Zqx (σ:Za) (sq own:Nat) (view:Bool) (a b:Zs) (h:OkL a):Zj E BY σ sq 22 own view [Z4 a,Z4 b]=some (.bool (Zdv a b),σ,{}) :=
 Zcl (ZBY a b h) (by kernel_rfl) rfl rfl rfl (fun _=>rfl) _ _ _ _
end
section
def ZkW:Zf:=(.seq (.region [oI 2 (.mov (.c (.lst true [])))] none [0]) (.seq (.region [oI 3 (.mov (.t 0)),oI 4 (.nilchk (.t 3)),oI 5 (.faddr 0 (.t 4)),oI 6 (.ld none (.t 5)),oI 7 (.mov (.t 0)),oI 8 (.nilchk (.t 7)),oI 9 (.faddr 1 (.t 8)),oI 10 (.ld none (.t 9)),oI 11 (.slice 1 (.t 6) (some (.t 10)) none none),oI 2 (.mov (.t 11))] (some [(3,7)]) [2]) .ret))
def ZoP:ZE:=⟨[(.tmp 2)],ZkW⟩
theorem ZqM:FC 41=some ZoP:=by kernel_rfl
theorem Zqp:ZoP.body=ZkW:=rfl
theorem Zss:ZoP.res=[(.tmp 2)]:=rfl
end
section
theorem Zzy {σ:Za} {t g k n:Nat} {xs:List AVal} (hs:σ[t]?=some (.row g k xs)) (hn:n=xs.length):ZbL σ k (.sl t g 0 n) (some (.int .i64 0)) none none=some (.sl t g 0 n,σ,{ rd:=[t] }):=by
 subst hn
 have he:ZY σ (.sl t g 0 xs.length)=some ((xs.drop 0).take xs.length,[t]):=by simp [ZY,hs]
 simp [ZbL,he,hs,Zbc,ZdC]
theorem ZyG (σ:Za) (k:Nat):ZbL σ k (.lst true []) (some (.int .i64 0)) none none=some (.lst true [],σ,{}):=by
 simp [ZbL,Zbc,ZdC]
theorem ZKR (l:Zb):E 41 [.ref 0 0] (wH 0 l)=some (.sl 1 0 0 l.length,wH 0 l):=by
 have h1:((l.map Zc).length)=l.length:=by simp
 rw [Zh (by rfl) ZqM]
 unfold wH wv
 have hS:=fun (σ:Za) (hs:σ[1]?=some (.row 0 1 (l.map Zc)))=>Zzy (n:=l.length) hs h1.symm
 simp -implicitDefEqProofs only [EQA,Nat.reduceAdd,Nat.reduceLT,Nat.reduceEqDiff,Nat.reduceBEq,reduceCtorEq,↓reduceIte,Zqp,ZkW,Zss,oI,hS]
 simp [Zak,gcA,ZB,ZA,Zp,ZV,ZN,Zl,ZZ,Zm,ZR,Zv,Ze,Zk,ZF,List.range,List.range.loop]
theorem ZI2:E 41 [.ref 0 0] [.var wn]=some (.lst true [],[.var wn]):=by
 rw [Zh (by rfl) ZqM]
 unfold wn
 simp -implicitDefEqProofs only [EQA,Zq,Z7,Nat.reduceLT,Nat.reduceEqDiff,Nat.reduceBEq,reduceCtorEq,↓reduceIte,Zd,Zqp,ZkW,Zss,oI,ZyG]
theorem ZLj (l:Zb):Z6 true 2 (some (.sl 1 0 0 l.length,wH 0 l))=some (.lst false (l.map Zc),[.var (wv 1 0 l.length),.frow 0 1 (l.map Zc)]):=by
 have e1:(0:Nat)+l.length<=(l.map Zc).length:=by simp
 have e2:((l.map Zc).drop 0).take l.length=l.map Zc:=by
  rw [List.drop_zero,<-List.length_map (f:=Zc),List.take_length]
 simp only [Z6,if_true,Zbr,viewR,ZQ,ZK,ZY,wH,List.getElem?_cons_succ,List.getElem?_cons_zero,e1,e2,and_self,Zo,List.set_cons_succ,List.set_cons_zero]
 simp [gcA,ZB,Zp,ZV,List.range,List.range.loop,ZN,wv,ZA,Zl,ZZ,Zv,ZR,Zm,ZF,Ze,Zk]
theorem ZHW (l:Zb) {σ:Za} (t r g:Nat) {sq:Nat} (htr:t≠r) (hs:σ[t]?=some (.var (wv r g l.length))) (hr:σ[r]?=some (.row g 1 (l.map Zc))) :
  Zj E1 BY σ sq 41 0 true [.ref t 0]=some (.lst false (l.map Zc),(σ.set t (.var (wv r g l.length))).set r (.frow g 1 (l.map Zc)),{ any:=true,upd:=[(t,wv r g l.length)] }):=by
 refine Zbp ?_
 have hrf:Zp (wv r g l.length)=[r]:=rfl
 have htl:t < σ.length:=(List.getElem?_eq_some_iff.1 hs).1
 have hrl:r < σ.length:=(List.getElem?_eq_some_iff.1 hr).1
 have h1:σ.getD t .free=.var (wv r g l.length):=by simp [List.getD_eq_getElem?_getD,hs]
 have h2:σ.getD r .free=.row g 1 (l.map Zc):=by simp [List.getD_eq_getElem?_getD,hr]
 have hf0:Zo σ []=σ:=rfl
 have hsh:showAs σ [.ref t 0]=some ([.ref t 0],[]):=rfl
 have href:Zp [AVal.ref t 0]=[t]:=rfl
 have hup:Za2 ((σ.set t (.var (wv r g l.length))).set r (.frow g 1 (l.map Zc))) [t,r]=[(t,wv r g l.length)]:=by
  have e1:((σ.set t (.var (wv r g l.length))).set r (.frow g 1 (l.map Zc)))[t]?=some (.var (wv r g l.length)):=by
   rw [List.getElem?_set_ne (fun e=>htr e.symm),List.getElem?_set_self htl]
  have e2:((σ.set t (.var (wv r g l.length))).set r (.frow g 1 (l.map Zc)))[r]?=some (.frow g 1 (l.map Zc)):=by
   rw [List.getElem?_set_self (by simpa using hrl)]
  simp only [Za2,e1,e2]
 unfold Zj ZbJ
 rw [show BY 41=false by kernel_rfl]
 simp only [Bool.false_eq_true,if_false,hsh,hf0,href,ZmQ hs hr htr hrf]
 unfold Zbt
 have hall:([t,r].all fun t=>okB (σ.getD t .free))=true:=by simp only [List.all_cons,List.all_nil,h1,h2,okB,Bool.and_true]
 rw [if_pos hall]
 have hρt:Zl σ 0 [t,r] t 0=some (0,0):=by simp [Zl,ZZ,hs,Zm,ZR]
 have hρr:Zl σ 0 [t,r] r g=some (1,0):=by simp [Zl,ZZ,hr,Zm,ZR,htr]
 have hargs:Ze (Zl σ 0 [t,r]) [.ref t 0]=[.ref 0 0]:=by simp only [Ze,Zk,hρt]
 have hren:Ze (Zl σ 0 [t,r]) (wv r g l.length)=wv 1 0 l.length:=by simp only [wv,Ze,Zk,hρr]
 have hheap:Zv σ 0 [t,r] (Zl σ 0 [t,r]) [t,r] 0=wH 0 l:=by
  simp only [Zv,h1,h2,ZR,Zm,ZF,hren,wH]
  simp
 rw [hargs,hheap,ZKR l,show [t,r].length=2 from rfl,ZLj l]
 have hk:ZaV σ [t,r] [.var (wv 1 0 l.length),.frow 0 1 (l.map Zc)] 0=true:=by simp [ZaV,okB,Zb1,Zm,hs,hr]
 have hff:ZaU σ sq 0=true:=by simp [ZaU]
 have hb3:Ze (Zaz σ [t,r] sq) (wv 1 0 l.length)=wv r g l.length:=by
  have : Zaz σ [t,r] sq 1 0=some (r,g):=by simp only [Zaz,List.getElem?_cons_succ,List.getElem?_cons_zero,h2,Zm];rfl
  simp only [wv,Ze,Zk,this]
 simp only [Zay,List.isEmpty_cons,Bool.false_eq_true,if_false,List.length_cons,List.length_nil,Nat.zero_add,Nat.reduceAdd,Nat.add_zero,Nat.le_refl,decide_true,hk,hff,Bool.and_self,if_true,ZaY,ZaF,List.getD_cons_zero,List.getD_cons_succ,Zb6,List.getElem?_cons_zero,List.getElem?_cons_succ,h2,Zm,ZF,Zk,hb3,hup]
theorem Zxu {σ:Za} {t sq:Nat} (hs:σ[t]?=some (.var wn)):Zj E1 BY σ sq 41 0 true [.ref t 0]=some (.lst false [],σ,{ any:=true,upd:=[(t,wn)] }):=by
 refine Zbp ?_
 have htl:t < σ.length:=(List.getElem?_eq_some_iff.1 hs).1
 have h1:σ.getD t .free=.var wn:=by simp [List.getD_eq_getElem?_getD,hs]
 have hf0:Zo σ []=σ:=rfl
 have hsh:showAs σ [.ref t 0]=some ([.ref t 0],[]):=rfl
 have href:Zp [AVal.ref t 0]=[t]:=rfl
 have hre:ZA σ 1000 [t] []=[t]:=by
  have e1:([]:List Nat).contains t=false:=rfl
  rw [show (1000:Nat)=998+1+1 from rfl,ZA,e1]
  simp only [Bool.false_eq_true,if_false,h1,ZN]
  rfl
 unfold Zj ZbJ
 rw [show BY 41=false by kernel_rfl]
 simp only [Bool.false_eq_true,if_false,hsh,hf0,href,hre]
 unfold Zbt
 have hall:([t].all fun t=>okB (σ.getD t .free))=true:=by simp only [List.all_cons,List.all_nil,h1,okB,Bool.and_true]
 rw [if_pos hall]
 have hρt:Zl σ 0 [t] t 0=some (0,0):=by simp [Zl,ZZ,hs,Zm,ZR]
 have hargs:Ze (Zl σ 0 [t]) [.ref t 0]=[.ref 0 0]:=by simp only [Ze,Zk,hρt]
 have hheap:Zv σ 0 [t] (Zl σ 0 [t]) [t] 0=[.var wn]:=by
  simp only [Zv,h1,ZF]
  rfl
 rw [hargs,hheap,ZI2]
 have hv:Z6 true 1 (some (.lst true [],[.var wn]))=some (.lst false [],[.var wn]):=rfl
 rw [show [t].length=1 from rfl,hv]
 have hk:ZaV σ [t] [.var wn] 0=true:=by simp [ZaV,okB,Zb1,Zm,hs]
 have hset:σ.set t (.var wn)=σ:=by
  apply List.ext_getElem?
  intro i
  rw [List.getElem?_set]
  by_cases e:t=i
  ·subst e;rw [if_pos rfl,if_pos htl,hs]
  ·simp [e]
 have hup:Za2 σ [t]=[(t,wn)]:=by simp only [Za2,hs]
 have hff:ZaU σ sq 0=true:=by simp [ZaU]
 have hlay:ZaY σ [t] sq [.var wn] 0 σ=σ:=by
  simp only [ZaY,ZaF,ZF,List.getD_cons_zero]
  exact hset
 simp only [Zay,List.isEmpty_cons,Bool.false_eq_true,if_false,hk,hff,hlay,hup,Zk,List.length_cons,List.length_nil,Nat.zero_add,Nat.add_zero,Nat.le_refl,decide_true,Bool.and_self,if_true]
theorem Zro (σ:Za) (sq own:Nat) (f:Bool) (a:Zb) (h:a.length<=140737488355328):Zj E BY σ sq 37 own true [.lst f [.lst false (a.map Zc)]]=some (.lst false (a.map Zc),σ,{}):=by
 have:=ZgW σ sq own f a [] (by simp) (by simpa using h)
 simpa [ZM] using this
theorem Zyy {p:Zs} {l:Zb} (h:E1 39 [.ref 0 0,Z4 p] [.var wn]=some (.tup [],wH 0 l)) {σ:Za} {t sq:Nat} (hf:σ[sq]?=some .free) (hs0:σ[t]?=some (.var wn)) :
  Zj E1 BY σ sq 39 1 true [.ref t 0,.agg (Zx p)]=some (.tup [],(σ.set t (.var (wv sq 0 l.length))).set sq (.row 0 1 (l.map Zc)),{ any:=true,upd:=[(t,wv sq 0 l.length)] }) :=
 ZfW (args:=[.agg (Zx p)]) rfl rfl h (by kernel_rfl) (by rw [List.all_cons,ZdW];rfl) (by rw [List.map_cons,ZdB];rfl) hf hs0
theorem ZAt {p:Zs} (h:E1 39 [.ref 0 0,Z4 p] [.var wn]=some (.tup [],[.var wn])) {σ:Za} {t sq:Nat} (hf:σ[sq]?=some .free) (hs0:σ[t]?=some (.var wn)) :
  Zj E1 BY σ sq 39 1 true [.ref t 0,.agg (Zx p)]=some (.tup [],σ,{ any:=true,upd:=[(t,wn)] }) :=
 Zp4 (args:=[.agg (Zx p)]) h (by kernel_rfl) (by rw [List.all_cons,ZdW];rfl) (by rw [List.map_cons,ZdB];rfl) (ff1 hf) hs0
def orU (a b:Int):Int:=IntKind.u8.wrap (BitVec.ofInt IntKind.u8.bits a ||| BitVec.ofInt IntKind.u8.bits b).toNat
def ZgL (t:Int):Int:=orU (IntKind.u8.wrap (IntKind.i64.wrap (t*2 ^ min (Int.toNat 4) IntKind.i64.bits))) (Zec t)
def Zp1 (p:Zs):Int:=IntKind.u8.wrap (Z3 p.dup 8+Zu p.qos 3*2+Z3 p.retain 1)
def ZbQ (p:Zs):Int:=if p.type=3 then orU (ZgL 3) (Zp1 p) else ZgL p.type
theorem ZMp (m:Nat) (h:m < 256):IntKind.u8.wrap (m:Int)=m:=by
 unfold IntKind.wrap IntKind.signed IntKind.bits
 simp
 omega
theorem Zrv (a b:Int):0<=orU a b/\orU a b < 256:=by
 have h:∀ x y:BitVec 8,(x ||| y).toNat < 256:=fun x y=>(x ||| y).isLt
 have h2:=h (BitVec.ofInt 8 a) (BitVec.ofInt 8 b)
 unfold orU
 rw [show IntKind.u8.bits=8 from rfl,ZMp _ h2]
 omega
theorem Zty (p:Zs):0<=ZbQ p/\ZbQ p < 256:=by
 unfold ZbQ
 split
 ·exact Zrv _ _
 ·exact Zrv _ _
theorem ZqI (B:Zb):(ZaB (B.length:Nat)).2=0↔B.length<=268435455:=by
 unfold ZaB
 split
 ·simp only []
  constructor
  ·intro h;simp at h
  ·intro h;omega
 ·simp only [true_iff]
  omega
def Zen (first:Int) (B:Zb) (c:Int) (s:Bool):AVal :=
 if B.length<=268435455/\c=0/\s=true then .tup [.agg [.int .u8 first,.lst false (B.map Zc)],.int .i64 0] else .tup [.agg [.int .u8 0,.lst true []],.int .i64 129]
section
variable (p q:Zs) (c:Int)
theorem Zrs (B:Zb) (hb:E1 39 [.ref 0 0,Z4 p] [.var wn]=some (.tup [],wH 0 B)) (hB:B.length<=140737488355328)
  (hr:∀ σ sq own,Zj E1 BY σ sq 8 own true [.agg [.int .u8 (ZbQ p),.lst false (B.map Zc)]]=some (.tup [Z4 q,.int .i64 c],σ,{})) (hq:OkL q) :
  E1 19 [Z4 p] []=some (Zen (ZbQ p) B c (Zdv q p),[]):=by
 have fb:=fun {σ:Za} {t sq:Nat}=>Zyy hb (σ:=σ) (t:=t) (sq:=sq)
 have fB:=fun {σ:Za} {sq:Nat}=>ZHW B 2 3 0 (by omega) (σ:=σ) (sq:=sq)
 have fj:=fun σ sq own f=>Zbp (Zro σ sq own f B hB)
 have ff:=fun σ sq own=>Zbp (Zly p.type σ sq own)
 have fm:=fun b n σ sq own=>Zip b n σ sq own
 have fv:=fun σ sq own=>Zbp (Ze8 σ sq own (B.length:Nat))
 have fs:=fun σ sq own=>Zbp (Zqx σ sq own true q p hq)
 have hn:(B.map Zc).length=B.length:=by simp
 unfold Zen
 generalize Zdv q p=s at *
 rw [Zbn] at *
 rw [Zbn] at *
 have e0:=ZbX p
 have e1:=ZcC p
 have a0:(Zx p)[0]?=some (.int .i64 p.type):=rfl
 have a1:(Zx p)[1]?=some (.bool p.dup):=rfl
 have a2:(Zx p)[2]?=some (.int .i64 p.qos):=rfl
 have a3:(Zx p)[3]?=some (.bool p.retain):=rfl
 have d0:=ZbX q
 have d1:=ZcC q
 have oq:(Zx q).all ZX=true:=rfl
 have m1:=ZdN p.dup 8 (by omega)
 have m2:=ZdN p.retain 1 (by omega)
 have m3:=ZhV p.qos
 have w2:=Zcf (Zu p.qos 3*2) (by omega) (by omega)
 have w3:=Zcf (Z3 p.dup 8+Zu p.qos 3*2) (by omega) (by omega)
 have w4:=Zcf (Z3 p.dup 8+Zu p.qos 3*2+Z3 p.retain 1) (by omega) (by omega)
 clear m1 m2 m3
 unfold ZbQ at hr ⊢
 have hv:=ZqI B
 unfold Zex at fv
 generalize (ZaB (B.length:Nat)).1=V at *
 generalize (ZaB (B.length:Nat)).2=v at *
 by_cases h3:p.type=3
 ·rw [if_pos h3] at hr ⊢
  rw [h3] at ff a0
  unfold ZgL Zp1 orU Zu at *
  clear h3
  generalize Zx p=P at *
  generalize Zx q=Q at *
  generalize p.dup=pd at *
  generalize p.qos=pq at *
  generalize p.retain=pr at *
  unfold wn at *
  rw [Zbi (by rfl) ZlO]
  by_cases v0:v=0
  ·have hL:=hv.1 v0
   subst v0
   by_cases c0:c=0
   ·subst c0
    cases s
    ·rw [if_neg (by simp)]
     simp -implicitDefEqProofs only [EQA,Za1,Zq,Nat.reduceAdd,Nat.reduceLT,Nat.reduceLeDiff,Nat.reduceEqDiff,Nat.reduceBEq,Zax,unA,ZH,unG,↓reduceIte,Zd,Zci,Zb9,Zch,oI,oN,AVal.cells,a0,a1,a2,a3,e0,e1,d0,d1,oq,Zan,fb,fB,fj,ff,fm,fv,fs,hr,hn,w2,w3,w4,Int.reduceLT,viewAs,ZQ,ZK,Zo,Zaf,Zaj,Zah,Zas,Zav,Zal,List.lookup_cons,List.lookup_nil,bne_self_eq_false]
    ·rw [if_pos ⟨hL,rfl,rfl⟩]
     simp -implicitDefEqProofs only [EQA,Za1,Zq,Nat.reduceAdd,Nat.reduceLT,Nat.reduceLeDiff,Nat.reduceEqDiff,Nat.reduceBEq,Zax,unA,ZH,unG,↓reduceIte,Zd,Zci,Zb9,Zch,oI,oN,AVal.cells,a0,a1,a2,a3,e0,e1,d0,d1,oq,Zan,fb,fB,fj,ff,fm,fv,fs,hr,hn,w2,w3,w4,Int.reduceLT,viewAs,ZQ,ZK,Zo,Zaf,Zaj,Zah,Zas,Zav,Zal,List.lookup_cons,List.lookup_nil,bne_self_eq_false]
   ·have c1:(c != 0)=true:=by simpa using c0
    rw [if_neg (fun h=>c0 h.2.1)]
    simp -implicitDefEqProofs only [EQA,Za1,Zq,Nat.reduceAdd,Nat.reduceLT,Nat.reduceLeDiff,Nat.reduceEqDiff,Nat.reduceBEq,Zax,ZH,Zau,unG,reduceCtorEq,↓reduceIte,Zd,Zci,Zb9,Zch,oI,oN,AVal.cells,a0,a1,a2,a3,e0,e1,d0,oq,Zan,fb,fB,fj,ff,fm,fv,hr,hn,w2,w3,w4,c1,Int.reduceLT,viewAs,ZQ,ZK,Zo,Zaf,Zaj,Zah,Zas,Zav,Zal,List.lookup_cons,List.lookup_nil,bne_self_eq_false]
  ·have v1:(v != 0)=true:=by simpa using v0
   rw [if_neg (fun h=>v0 (hv.2 h.1))]
   simp -implicitDefEqProofs only [EQA,Za1,Zq,Nat.reduceAdd,Nat.reduceLT,Nat.reduceLeDiff,Nat.reduceEqDiff,Nat.reduceBEq,Zax,ZH,Zau,reduceCtorEq,↓reduceIte,Zd,Zci,Zb9,Zch,oI,oN,AVal.cells,a0,a1,a2,a3,e0,e1,d0,oq,Zan,fb,fB,fj,ff,fm,fv,hr,hn,w2,w3,w4,v1,Int.reduceLT,viewAs,ZQ,ZK,Zo,Zaf,Zaj,Zah,Zas,Zav,Zal,List.lookup_cons,List.lookup_nil]
 ·rw [if_neg h3] at hr ⊢
  have h3b:(p.type == 3)=false:=by simpa using h3
  unfold ZgL orU at *
  clear h3
  generalize Zx p=P at *
  generalize Zx q=Q at *
  generalize p.dup=pd at *
  generalize p.qos=pq at *
  generalize p.retain=pr at *
  generalize p.type=ty at *
  unfold wn at *
  rw [Zbi (by rfl) ZlO]
  by_cases v0:v=0
  ·have hL:=hv.1 v0
   subst v0
   by_cases c0:c=0
   ·subst c0
    cases s
    ·rw [if_neg (by simp)]
     simp -implicitDefEqProofs only [EQA,Za1,Zq,Nat.reduceAdd,Nat.reduceLT,Nat.reduceLeDiff,Nat.reduceEqDiff,Nat.reduceBEq,Zax,unA,ZH,unG,↓reduceIte,Zd,Zci,Zb9,Zch,oI,oN,AVal.cells,a0,e0,e1,d0,d1,oq,Zan,fb,fB,fj,ff,fv,fs,hr,hn,h3b,Int.reduceLT,viewAs,ZQ,ZK,Zo,Zaf,Zaj,Zah,Zas,Zav,Zal,List.lookup_cons,List.lookup_nil,bne_self_eq_false]
    ·rw [if_pos ⟨hL,rfl,rfl⟩]
     simp -implicitDefEqProofs only [EQA,Za1,Zq,Nat.reduceAdd,Nat.reduceLT,Nat.reduceLeDiff,Nat.reduceEqDiff,Nat.reduceBEq,Zax,unA,ZH,unG,↓reduceIte,Zd,Zci,Zb9,Zch,oI,oN,AVal.cells,a0,e0,e1,d0,d1,oq,Zan,fb,fB,fj,ff,fv,fs,hr,hn,h3b,Int.reduceLT,viewAs,ZQ,ZK,Zo,Zaf,Zaj,Zah,Zas,Zav,Zal,List.lookup_cons,List.lookup_nil,bne_self_eq_false]
   ·have c1:(c != 0)=true:=by simpa using c0
    rw [if_neg (fun h=>c0 h.2.1)]
    simp -implicitDefEqProofs only [EQA,Za1,Zq,Nat.reduceAdd,Nat.reduceLT,Nat.reduceLeDiff,Nat.reduceEqDiff,Nat.reduceBEq,Zax,ZH,Zau,unG,reduceCtorEq,↓reduceIte,Zd,Zci,Zb9,Zch,oI,oN,AVal.cells,a0,e0,e1,d0,oq,Zan,fb,fB,fj,ff,fv,hr,hn,h3b,c1,Int.reduceLT,viewAs,ZQ,ZK,Zo,Zaf,Zaj,Zah,Zas,Zav,Zal,List.lookup_cons,List.lookup_nil,bne_self_eq_false]
  ·have v1:(v != 0)=true:=by simpa using v0
   rw [if_neg (fun h=>v0 (hv.2 h.1))]
   simp -implicitDefEqProofs only [EQA,Za1,Zq,Nat.reduceAdd,Nat.reduceLT,Nat.reduceLeDiff,Nat.reduceEqDiff,Nat.reduceBEq,Zax,ZH,Zau,reduceCtorEq,↓reduceIte,Zd,Zci,Zb9,Zch,oI,oN,AVal.cells,a0,e0,e1,d0,oq,Zan,fb,fB,fj,ff,fv,hr,hn,h3b,v1,Int.reduceLT,viewAs,ZQ,ZK,Zo,Zaf,Zaj,Zah,Zas,Zav,Zal,List.lookup_cons,List.lookup_nil]
theorem ZGr (hb:E1 39 [.ref 0 0,Z4 p] [.var wn]=some (.tup [],[.var wn]))
  (hr:∀ σ sq own,Zj E1 BY σ sq 8 own true [.agg [.int .u8 (ZbQ p),.lst false (([]:Zb).map Zc)]]=some (.tup [Z4 q,.int .i64 c],σ,{})) (hq:OkL q) :
  E1 19 [Z4 p] []=some (Zen (ZbQ p) [] c (Zdv q p),[]):=by
 have fb:=fun {σ:Za} {t sq:Nat}=>ZAt hb (σ:=σ) (t:=t) (sq:=sq)
 have fB:=fun {σ:Za} {sq:Nat}=>Zxu (σ:=σ) (t:=2) (sq:=sq)
 have fj:=fun σ sq own f=>Zbp (Zro σ sq own f [] (by decide))
 have ff:=fun σ sq own=>Zbp (Zly p.type σ sq own)
 have fm:=fun b n σ sq own=>Zip b n σ sq own
 have fv:=fun σ sq own=>Zbp (Ze8 σ sq own (([]:Zb).length:Nat))
 have fs:=fun σ sq own=>Zbp (Zqx σ sq own true q p hq)
 have hn:(([]:Zb).map Zc).length=([]:Zb).length:=by simp
 unfold Zen
 generalize Zdv q p=s at *
 rw [Zbn] at *
 rw [Zbn] at *
 have e0:=ZbX p
 have e1:=ZcC p
 have a0:(Zx p)[0]?=some (.int .i64 p.type):=rfl
 have a1:(Zx p)[1]?=some (.bool p.dup):=rfl
 have a2:(Zx p)[2]?=some (.int .i64 p.qos):=rfl
 have a3:(Zx p)[3]?=some (.bool p.retain):=rfl
 have d0:=ZbX q
 have d1:=ZcC q
 have oq:(Zx q).all ZX=true:=rfl
 have m1:=ZdN p.dup 8 (by omega)
 have m2:=ZdN p.retain 1 (by omega)
 have m3:=ZhV p.qos
 have w2:=Zcf (Zu p.qos 3*2) (by omega) (by omega)
 have w3:=Zcf (Z3 p.dup 8+Zu p.qos 3*2) (by omega) (by omega)
 have w4:=Zcf (Z3 p.dup 8+Zu p.qos 3*2+Z3 p.retain 1) (by omega) (by omega)
 clear m1 m2 m3
 unfold ZbQ at hr ⊢
 have hv:=ZqI []
 unfold Zex at fv
 generalize (ZaB (([]:Zb).length:Nat)).1=V at *
 generalize (ZaB (([]:Zb).length:Nat)).2=v at *
 simp only [List.map_nil,List.length_nil] at fj hr fv hn hv
 by_cases h3:p.type=3
 ·rw [if_pos h3] at hr ⊢
  rw [h3] at ff a0
  unfold ZgL Zp1 orU Zu at *
  clear h3
  generalize Zx p=P at *
  generalize Zx q=Q at *
  generalize p.dup=pd at *
  generalize p.qos=pq at *
  generalize p.retain=pr at *
  unfold wn at *
  rw [Zbi (by rfl) ZlO]
  by_cases v0:v=0
  ·have hL:=hv.1 v0
   subst v0
   by_cases c0:c=0
   ·subst c0
    cases s
    ·rw [if_neg (by simp)]
     simp -implicitDefEqProofs only [EQA,Za1,Zq,Nat.reduceAdd,Nat.reduceLT,Nat.reduceLeDiff,Nat.reduceEqDiff,Nat.reduceBEq,Zax,unA,ZH,unG,↓reduceIte,Zd,Zci,Zb9,Zch,oI,oN,AVal.cells,a0,a1,a2,a3,e0,e1,d0,d1,oq,Zan,fb,fB,fj,ff,fm,fv,fs,hr,w2,w3,w4,Int.reduceLT,viewAs,ZQ,ZK,Zo,Zaf,Zaj,Zah,Zas,Zav,Zal,List.lookup_cons,List.lookup_nil,bne_self_eq_false]
    ·rw [if_pos ⟨by decide,rfl,rfl⟩]
     simp -implicitDefEqProofs only [EQA,Za1,Zq,Nat.reduceAdd,Nat.reduceLT,Nat.reduceLeDiff,Nat.reduceEqDiff,Nat.reduceBEq,Zax,unA,ZH,unG,↓reduceIte,Zd,Zci,Zb9,Zch,oI,oN,AVal.cells,a0,a1,a2,a3,e0,e1,d0,d1,oq,Zan,fb,fB,fj,ff,fm,fv,fs,hr,w2,w3,w4,Int.reduceLT,viewAs,ZQ,ZK,Zo,Zaf,Zaj,Zah,Zas,Zav,Zal,List.lookup_cons,List.lookup_nil,bne_self_eq_false]
   ·have c1:(c != 0)=true:=by simpa using c0
    rw [if_neg (fun h=>c0 h.2.1)]
    simp -implicitDefEqProofs only [EQA,Za1,Zq,Nat.reduceAdd,Nat.reduceLT,Nat.reduceLeDiff,Nat.reduceEqDiff,Nat.reduceBEq,Zax,ZH,Zau,unG,reduceCtorEq,↓reduceIte,Zd,Zci,Zb9,Zch,oI,oN,AVal.cells,a0,a1,a2,a3,e0,e1,d0,oq,Zan,fb,fB,fj,ff,fm,fv,hr,w2,w3,w4,c1,Int.reduceLT,viewAs,ZQ,ZK,Zo,Zaf,Zaj,Zah,Zas,Zav,Zal,List.lookup_cons,List.lookup_nil,bne_self_eq_false]
  ·have v1:(v != 0)=true:=by simpa using v0
   rw [if_neg (fun h=>v0 (hv.2 (by decide)))]
   simp -implicitDefEqProofs only [EQA,Za1,Zq,Nat.reduceAdd,Nat.reduceLT,Nat.reduceLeDiff,Nat.reduceEqDiff,Nat.reduceBEq,Zax,ZH,Zau,reduceCtorEq,↓reduceIte,Zd,Zci,Zb9,Zch,oI,oN,AVal.cells,a0,a1,a2,a3,e0,e1,d0,oq,Zan,fb,fB,fj,ff,fm,fv,hr,w2,w3,w4,v1,Int.reduceLT,viewAs,ZQ,ZK,Zo,Zaf,Zaj,Zah,Zas,Zav,Zal,List.lookup_cons,List.lookup_nil]
 ·rw [if_neg h3] at hr ⊢
  have h3b:(p.type == 3)=false:=by simpa using h3
  unfold ZgL orU at *
  clear h3
  generalize Zx p=P at *
  generalize Zx q=Q at *
  generalize p.dup=pd at *
  generalize p.qos=pq at *
  generalize p.retain=pr at *
  generalize p.type=ty at *
  unfold wn at *
  rw [Zbi (by rfl) ZlO]
  by_cases v0:v=0
  ·have hL:=hv.1 v0
   subst v0
   by_cases c0:c=0
   ·subst c0
    cases s
    ·rw [if_neg (by simp)]
     simp -implicitDefEqProofs only [EQA,Za1,Zq,Nat.reduceAdd,Nat.reduceLT,Nat.reduceLeDiff,Nat.reduceEqDiff,Nat.reduceBEq,Zax,unA,ZH,unG,↓reduceIte,Zd,Zci,Zb9,Zch,oI,oN,AVal.cells,a0,e0,e1,d0,d1,oq,Zan,fb,fB,fj,ff,fv,fs,hr,h3b,Int.reduceLT,viewAs,ZQ,ZK,Zo,Zaf,Zaj,Zah,Zas,Zav,Zal,List.lookup_cons,List.lookup_nil,bne_self_eq_false]
    ·rw [if_pos ⟨by decide,rfl,rfl⟩]
     simp -implicitDefEqProofs only [EQA,Za1,Zq,Nat.reduceAdd,Nat.reduceLT,Nat.reduceLeDiff,Nat.reduceEqDiff,Nat.reduceBEq,Zax,unA,ZH,unG,↓reduceIte,Zd,Zci,Zb9,Zch,oI,oN,AVal.cells,a0,e0,e1,d0,d1,oq,Zan,fb,fB,fj,ff,fv,fs,hr,h3b,Int.reduceLT,viewAs,ZQ,ZK,Zo,Zaf,Zaj,Zah,Zas,Zav,Zal,List.lookup_cons,List.lookup_nil,bne_self_eq_false]
   ·have c1:(c != 0)=true:=by simpa using c0
    rw [if_neg (fun h=>c0 h.2.1)]
    simp -implicitDefEqProofs only [EQA,Za1,Zq,Nat.reduceAdd,Nat.reduceLT,Nat.reduceLeDiff,Nat.reduceEqDiff,Nat.reduceBEq,Zax,ZH,Zau,unG,reduceCtorEq,↓reduceIte,Zd,Zci,Zb9,Zch,oI,oN,AVal.cells,a0,e0,e1,d0,oq,Zan,fb,fB,fj,ff,fv,hr,h3b,c1,Int.reduceLT,viewAs,ZQ,ZK,Zo,Zaf,Zaj,Zah,Zas,Zav,Zal,List.lookup_cons,List.lookup_nil,bne_self_eq_false]
  ·have v1:(v != 0)=true:=by simpa using v0
   rw [if_neg (fun h=>v0 (hv.2 (by decide)))]
   simp -implicitDefEqProofs only [EQA,Za1,Zq,Nat.reduceAdd,Nat.reduceLT,Nat.reduceLeDiff,Nat.reduceEqDiff,Nat.reduceBEq,Zax,ZH,Zau,reduceCtorEq,↓reduceIte,Zd,Zci,Zb9,Zch,oI,oN,AVal.cells,a0,e0,e1,d0,oq,Zan,fb,fB,fj,ff,fv,hr,h3b,v1,Int.reduceLT,viewAs,ZQ,ZK,Zo,Zaf,Zaj,Zah,Zas,Zav,Zal,List.lookup_cons,List.lookup_nil]
end
end
section
def ZjC (x:UInt8) (B:Zb):AVal:=.tup [.agg [Zc x,.lst false (B.map Zc)],.int .i64 0]
def Zi7:AVal:=.tup [.agg [.int .u8 0,.lst false []],.int .i64 129]
theorem Zrh {args:List AVal} {p:Zs} {x:UInt8} {B:Zb} (h:E1 19 [Z4 p] []=some (Zen x.toNat B 0 true,[])) (hB:B.length<=268435455) (hp:args.all Z5=true) (hn:args.map ZD=[Z4 p]) (σ:Za) (sq own:Nat) :
  Zj E1 BY σ sq 19 own true args=some (ZjC x B,σ,{}):=by
 unfold Zen at h
 rw [if_pos ⟨hB,rfl,rfl⟩] at h
 exact Zbm h (by kernel_rfl) hp hn rfl (fun _=>rfl) σ sq own
theorem ZFf {args:List AVal} {p:Zs} {x c:Int} {B:Zb} {s:Bool} (h:E1 19 [Z4 p] []=some (Zen x B c s,[])) (hB:¬(B.length<=268435455/\c=0/\s=true)) (hp:args.all Z5=true) (hn:args.map ZD=[Z4 p]) (σ:Za) (sq own:Nat) :
  Zj E1 BY σ sq 19 own true args=some (Zi7,σ,{}):=by
 unfold Zen at h
 rw [if_neg hB] at h
 exact Zbm h (by kernel_rfl) hp hn rfl (fun _=>rfl) σ sq own
def Zgm (x:UInt8) (B:Zb):Zb:=x::((ZaB B.length).1++B)
theorem ZJc (σ:Za) (sq own:Nat) (f:Bool) (x:UInt8) (b c:Zb) (h:1+b.length+c.length<=140737488355328):Zj E BY σ sq 37 own true [.lst f [.lst false [Zc x],.lst false (b.map Zc),.lst false (c.map Zc)]]=some (.lst false ((x::(b++c)).map Zc),σ,{}):=by
 have:=ZgW σ sq own f [x] [b,c] (by simp) (by simp;omega)
 simpa only [List.map_cons,List.map_nil,ZM,List.flatten_cons,List.flatten_nil,List.append_nil,List.cons_append,List.nil_append] using this
theorem ZrM (p:Zs) (x:UInt8) (B:Zb) (hB:B.length<=268435455) (hF:∀ σ sq own,Zj E1 BY σ sq 19 own true [.agg (Zx p)]=some (ZjC x B,σ,{})) :
  E1 17 [Z4 p] []=some (.tup [.lst false ((Zgm x B).map Zc),.int .i64 0],[]):=by
 have hv:=Zgo (B.length:Nat)
 have fv:=fun σ sq own=>Zbp (Ze8 σ sq own (B.length:Nat))
 have fj:=fun σ sq own f=>Zbp (ZJc σ sq own f x (ZaB (B.length:Nat)).1 B (by omega))
 have hn:(B.map Zc).length=B.length:=by simp
 rw [Zbn]
 have e0:=ZbX p
 have e1:=ZcC p
 unfold Zgm
 unfold Zex at fv
 unfold ZjC at hF
 generalize (ZaB (B.length:Nat)).1=V at *
 generalize (ZaB (B.length:Nat)).2=c at *
 generalize Zx p=P at *
 generalize (x::(V++B)).map Zc=R at *
 generalize hBB:B.map Zc=BB at *
 have bx:Zc x=.int .u8 (x.toNat:Nat):=rfl
 simp only [bx] at fj hF
 rw [Zbi (by rfl) ZsA]
 simp -implicitDefEqProofs only [EQA,Zq,Nat.reduceAdd,Nat.reduceLT,Nat.reduceLeDiff,Nat.reduceEqDiff,Nat.reduceBEq,↓reduceIte,Zd,ZqB,Zlh,ZuN,oI,oN,AVal.cells,e0,e1,hF,fv,fj,hn,bne_self_eq_false,viewAs,ZQ,ZK,Zo]
theorem ZGw (p:Zs) (hF:∀ σ sq own,Zj E1 BY σ sq 19 own true [.agg (Zx p)]=some (Zi7,σ,{})) :
  E1 17 [Z4 p] []=some (.tup [.lst true [],.int .i64 129],[]):=by
 rw [Zbn]
 have e0:=ZbX p
 have e1:=ZcC p
 unfold Zi7 at hF
 generalize Zx p=P at *
 rw [Zbi (by rfl) ZsA]
 simp -implicitDefEqProofs only [EQA,Zq,Nat.reduceAdd,Nat.reduceLT,Nat.reduceLeDiff,Nat.reduceEqDiff,Nat.reduceBEq,↓reduceIte,Zd,ZqB,Zlh,ZuN,oI,oN,AVal.cells,e0,e1,hF,Int.reduceBNe]
end
section
def Zh1 (p:Zs):Option Zb :=
 if p.type=1 then some (Zd6 p) else if p.type=2 then some (Zi6 p) else if p.type=3 then some (Zkk p)
 else if p.type=4\/p.type=5\/p.type=6\/p.type=7 then some (beB (ZP p.id) 2++ZbD p)
 else if p.type=8 then some (ZbM p++ZdU p.subs) else if p.type=10 then some (ZbM p++ZdE p.filters)
 else if p.type=9\/p.type=11 then some (ZbM p++Zdy p.codes)
 else if p.type=14\/p.type=15 then ZcU p else none
def Zb5 (p:Zs):Zb:=(Zh1 p).getD []
theorem ZJu (p:Zs) (h:OkW p):E1 39 [.ref 0 0,Z4 p] [.var wn]=some (.tup [],wO (Zh1 p)):=by
 unfold Zh1
 by_cases h1:p.type=1
 ·rw [if_pos h1];exact Zw7 p h h1
 rw [if_neg h1]
 by_cases h2:p.type=2
 ·rw [if_pos h2];exact ZxC p h h2
 rw [if_neg h2]
 by_cases h3:p.type=3
 ·rw [if_pos h3];exact Zyp p h h3
 rw [if_neg h3]
 by_cases h4:p.type=4\/p.type=5\/p.type=6\/p.type=7
 ·rw [if_pos h4];exact Zrd p h h4
 rw [if_neg h4]
 by_cases h8:p.type=8
 ·rw [if_pos h8];exact ZBn p h h8
 rw [if_neg h8]
 by_cases h10:p.type=10
 ·rw [if_pos h10];exact ZBA p h h10
 rw [if_neg h10]
 by_cases h9:p.type=9\/p.type=11
 ·rw [if_pos h9];exact Zw3 p h h9
 rw [if_neg h9]
 by_cases h14:p.type=14\/p.type=15
 ·rw [if_pos h14];exact Zyg p h h14
 rw [if_neg h14]
 exact ZvA p (by omega)
theorem ZAv (p:Zs):(ZbD p).length<=300000000:=by
 have h1:=Zba 1 (ZP p.code)
 have h2:=ZcV p.type p.props
 unfold ZbD
 repeat' split
 all_goals simp only [List.length_append,List.length_nil]
 all_goals omega
theorem ZEa (p:Zs) (h:OkW p) (hp:p.payload.length<=1000000):(Zb5 p).length<=1000000000000:=by
 have a1:=ZKA p h
 have a2:=ZAv p
 have a3:=Zba 2 (ZP p.id)
 have a4:=Zba 1 (ZP p.code)
 have a5:=Zba 1 (ZP (Z3 p.present 1))
 have a6:=ZcV 2 p.props
 have a7:=ZcV 3 p.props
 have a8:=Zcr p.topic
 have a9:=Zi5 p h
 have b1:=ZLm p.subs
 have b2:=ZIX p.filters
 have b3:=Zz1 p.codes
 have c1:=h.subs.1
 have c2:=h.filters.1
 have c3:=h.codes
 have a10:(Zkc p).length<=70000:=by
  unfold Zkc
  split
  ·rw [List.length_append];omega
  ·omega
 have a11:((ZcU p).getD []).length<=300000000:=by
  unfold ZcU
  split
  ·simpa using a2
  ·simp
 unfold Zb5 Zh1
 generalize ZcU p=ro at *
 repeat' split
 all_goals try simp only [Option.getD_some,Option.getD_none,List.length_append,List.length_nil,Zi6,Zkk]
 all_goals omega
theorem Zgl {w:Int} {b:Zb} {l:List Zt} {r:Zb} (h:ZbE w b=.ok (l,r)):l.length<=268435455:=by
 unfold ZbE at h
 split at h
 ·injection h with h
  injection h with h1 h2
  rw [<-h1];exact ZLK w b
 ·cases h
theorem Zum {α:Type} {one:Zb->RK α}:∀ {n:Nat} {l:Zb} {ts:List α},ZaI one n l=.ok ts->ts.length<=n
 | 0,l,ts,h=>by
  unfold ZaI at h
  split at h
  ·injection h with h;subst h;simp
  ·cases h
 | n+1,l,ts,h=>by
  unfold ZaI at h
  split at h
  ·injection h with h;subst h;simp
  ·split at h
   ·cases h
   ·split at h
    ·cases h
    ·rename_i t ht
     injection h with h;subst h
     have:=Zum ht
     simp;omega
theorem ZmZ {α:Type} {one:Zb->RK α} {k:Int} {l:Zb} {n:Int} {ps:List Zt} {ts:List α} (h:Zbw one k l=.ok (n,ps,ts)):ps.length<=268435455/\ts.length<=l.length:=by
 unfold Zbw at h
 split at h
 ·cases h
 rename_i n' ps' r hm
 have l1:=Zir hm
 split at h
 ·cases h
 rename_i us hu
 injection h with h;injection h with e1 h;injection h with e2 e3;subst e1 e2 e3
 have:=Zum hu
 refine ⟨?_,by omega⟩
 unfold Zdo at hm
 split at hm
 ·cases hm
 split at hm
 ·cases hm
 rename_i hp
 split at hm
 ·cases hm
 injection hm with hm;injection hm with _ hm;injection hm with e _;subst e
 exact Zgl hp
theorem ZI9 {k:Int} {l:Zb} {c:Int} {ps:Option (List Zt)} {r:Zb} (h:Zcs k l=.ok ((c,ps),r)):(ps.getD []).length<=268435455:=by
 unfold Zcs at h
 split at h
 ·injection h with h;injection h with h _;injection h with _ h;subst h;simp
 split at h
 ·cases h
 split at h
 ·injection h with h;injection h with h _;injection h with _ h;subst h;simp
 split at h
 ·cases h
 rename_i hp
 injection h with h;injection h with h _;injection h with _ h;subst h
 exact Zgl hp
theorem Zcy:OkL Zam:=⟨by simp [Zam],by simp [Zam],by simp [Zam],by simp [Zam],by simp [Zam]⟩
theorem ZsZ {q q':Zs} {l r:Zb} (h:OkL q) (e:ZfY q l=.ok (q',r)):OkL q':=by
 unfold ZfY at e
 split at e
 ·cases e
 rename_i c ps r' hr
 injection e with e;injection e with e _;subst e
 have:=ZI9 hr
 exact ⟨h.codes,by simp only;omega,h.subs,h.filters,h.wprops⟩
theorem ZBJ {q q':Zs} {l r:Zb} (h:OkL q) (e:idQ q l=.ok (q',r)):OkL q':=by
 unfold idQ at e
 split at e
 ·cases e
 rename_i n r1 _
 exact ZsZ (q:={ q with id:=n }) ⟨h.codes,h.props,h.subs,h.filters,h.wprops⟩ e
theorem ZKK {q q':Zs} {l r:Zb} (h:OkL q) (e:Zih q l=.ok (q',r)):OkL q':=by
 unfold Zih at e
 split at e
 ·cases e
 split at e
 case isFalse=>cases e
 split at e
 ·cases e
 split at e
 ·cases e
 rename_i hp
 injection e with e;injection e with e _;subst e
 have:=Zgl hp
 exact ⟨h.codes,by simp only;omega,h.subs,h.filters,h.wprops⟩
theorem ZzC {b:Bool} {q q':Zs} {l r:Zb} (h:OkL q) (e:ZiJ b q l=.ok (q',r)):OkL q':=by
 unfold ZiJ at e
 split at e
 ·split at e
  ·cases e
  ·injection e with e;injection e with e _;subst e;exact ⟨h.codes,h.props,h.subs,h.filters,h.wprops⟩
 ·injection e with e;injection e with e _;subst e;exact h
theorem ZDI {b:Bool} {q q':Zs} {l r:Zb} (h:OkL q) (e:Zhd b q l=.ok (q',r)):OkL q':=by
 unfold Zhd at e
 split at e
 ·split at e
  ·cases e
  ·injection e with e;injection e with e _;subst e;exact ⟨h.codes,h.props,h.subs,h.filters,h.wprops⟩
 ·injection e with e;injection e with e _;subst e;exact h
theorem ZLo {b:Bool} {q q':Zs} {l r:Zb} (h:OkL q) (e:Zhl b q l=.ok (q',r)):OkL q':=by
 unfold Zhl at e
 split at e
 ·split at e
  ·cases e
  ·rename_i ps tp d r' hw
   injection e with e;injection e with e _;subst e
   refine ⟨h.codes,h.props,h.subs,h.filters,?_⟩
   unfold ZdS at hw
   split at hw
   ·cases hw
   rename_i hp
   split at hw
   ·cases hw
   split at hw
   ·cases hw
   injection hw with hw;injection hw with e1 _;subst e1
   have:=Zgl hp
   simp only;omega
 ·injection e with e;injection e with e _;subst e;exact h
theorem ZJl {q:Zs} (h:OkL q) (m k:Int) {ps:List Zt} (cl:Zb) (hp:ps.length<=268435455):OkL (Zmq (Zm8 q m) k ps cl):=⟨h.codes,Nat.le_trans hp (by decide),h.subs,h.filters,h.wprops⟩
theorem ZGu {q q':Zs} {l r:Zb} (h:OkL q) (e:Zf2 q l=.ok (q',r)):OkL q':=by
 unfold Zf2 at e
 split at e
 ·cases e
 split at e
 case isFalse=>cases e
 split at e
 ·cases e
 split at e
 case isFalse=>cases e
 split at e
 ·cases e
 split at e
 case isFalse=>cases e
 unfold ZjZ at e
 split at e
 ·cases e
 split at e
 ·cases e
 rename_i hp
 split at e
 ·cases e
 unfold Zlv at e
 split at e
 ·cases e
 rename_i hw
 split at e
 ·cases e
 rename_i hu
 exact ZzC (ZDI (ZLo (ZJl h _ _ _ (Zgl hp)) hw) hu) e
theorem ZhY {x:Except Int (Zs×Zb)} (h:∀ q r,x=.ok (q,r)->OkL q) {q:Zs} (e:ZcO x=.ok q):OkL q:=by
 unfold ZcO at e
 split at e
 ·cases e
 rename_i q' r'
 split at e
 ·injection e with e;subst e;exact h _ _ rfl
 ·cases e
theorem ZEc {t:Int} {l:Zb} (hl:l.length<=9223372036854775807) {q:Zs} (e:ZhG t l=.ok q):OkL q:=by
 have h0:∀ k:Int,OkL { Zam with type:=k }:=fun k=>⟨Zcy.codes,Zcy.props,Zcy.subs,Zcy.filters,Zcy.wprops⟩
 unfold ZhG at e
 split at e
 ·exact ZhY (fun _ _ h=>ZGu (h0 1) h) e
 split at e
 ·exact ZhY (fun _ _ h=>ZKK (h0 2) h) e
 split at e
 ·exact ZhY (fun _ _ h=>ZBJ (h0 t) h) e
 split at e
 ·unfold Zk3 at e
  split at e
  ·cases e
  rename_i hm
  injection e with e;subst e
  have:=ZmZ hm
  exact ⟨(h0 8).codes,by simp only;omega,by simp only;omega,(h0 8).filters,(h0 8).wprops⟩
 split at e
 ·unfold Zkp at e
  split at e
  ·cases e
  rename_i hm
  injection e with e;subst e
  have:=ZmZ hm
  exact ⟨(h0 8).codes,by simp only;omega,(h0 8).subs,by simp only;omega,(h0 8).wprops⟩
 split at e
 ·unfold ZhB at e
  split at e
  ·cases e
  rename_i hm
  injection e with e;subst e
  have:=ZmZ hm
  exact ⟨by simp only;omega,by simp only;omega,(h0 8).subs,(h0 8).filters,(h0 8).wprops⟩
 split at e
 ·exact ZhY (fun _ _ h=>ZsZ (h0 t) h) e
 ·exact ZhY (fun q r h=>by injection h with h;injection h with h _;subst h;exact h0 t) e
theorem Zv7 {qos:Int} {l:Zb} {tp:Zb} {n:Int} {ps:List Zt} {q:Zb} (e:Zed qos l=.ok (tp,n,ps,q)):ps.length<=268435455:=by
 unfold Zed at e
 split at e
 ·cases e
 split at e
 ·split at e
  ·cases e
  split at e
  ·cases e
  rename_i hp
  injection e with e;injection e with _ e;injection e with _ e;injection e with e _;subst e
  exact Zgl hp
 ·split at e
  ·cases e
  rename_i hp
  injection e with e;injection e with _ e;injection e with _ e;injection e with e _;subst e
  exact Zgl hp
theorem ZuJ (b:Int) (l:Zb) (hl:l.length<=9223372036854775807):OkL (Zbx b l).1:=by
 unfold Zbx
 split
 ·exact Zcy
 split
 ·unfold Zfk
  split
  ·split
   ·split
    ·exact Zcy
    ·rename_i h
     have:=Zv7 h
     exact ⟨Zcy.codes,by simp only;omega,Zcy.subs,Zcy.filters,Zcy.wprops⟩
   ·exact Zcy
  ·exact Zcy
 split
 ·split
  ·exact Zcy
  ·rename_i h
   exact ZEc hl h
 ·exact Zcy
theorem ZrD (p:Zs) (h:OkW p) (hp:p.payload.length<=1000000):E1 19 [Z4 p] []=some (Zen (ZbQ p) (Zb5 p) (Zbx (ZbQ p) (Zb5 p)).2 (Zdv (Zbx (ZbQ p) (Zb5 p)).1 p),[]):=by
 have hb:=ZJu p h
 have hl:=ZEa p h hp
 have hw:=Zty p
 unfold Zb5 at hl ⊢
 cases hB:Zh1 p with
 | none =>
  rw [hB] at hb
  exact ZGr p _ _ hb (fun σ sq own=>Zms _ hw [] (by decide) false σ sq own) (ZuJ _ _ (by decide))
 | some B =>
  rw [hB] at hb hl
  simp only [Option.getD_some] at hl ⊢
  exact Zrs p _ _ B hb (by omega) (fun σ sq own=>Zms _ hw B (by omega) false σ sq own) (ZuJ _ _ (by omega))
def Zc3 (p:Zs):Prop:=(Zb5 p).length<=268435455/\Zbx (ZbQ p) (Zb5 p)=(p,0)
instance (p:Zs):Decidable (Zc3 p):=inferInstanceAs (Decidable (_/\_))
def Ziz (p:Zs):UInt8:=UInt8.ofNat (ZbQ p).toNat
theorem ZJJ (p:Zs):((Ziz p).toNat:Int)=ZbQ p:=by
 have:=Zty p
 unfold Ziz
 rw [UInt8.toNat_ofNat']
 omega
section
variable (p:Zs) (h:OkW p) (hp:p.payload.length<=1000000)
include h hp
theorem ZtP:Zc3 p↔((Zb5 p).length<=268435455/\(Zbx (ZbQ p) (Zb5 p)).2=0/\Zdv (Zbx (ZbQ p) (Zb5 p)).1 p=true):=by
 unfold Zc3
 rw [Zqb]
 constructor
 ·rintro ⟨h1,h2⟩
  rw [h2];exact ⟨h1,rfl,rfl⟩
 ·rintro ⟨h1,h2,h3⟩
  exact ⟨h1,Prod.ext h3 h2⟩
theorem Zx0 (hg:Zc3 p) (args:List AVal) (ha:args.all Z5=true) (hn:args.map ZD=[Z4 p]) (σ:Za) (sq own:Nat):Zj E1 BY σ sq 19 own true args=some (ZjC (Ziz p) (Zb5 p),σ,{}):=by
 have hF:=ZrD p h hp
 obtain ⟨h1,h2,h3⟩:=(ZtP p h hp).1 hg
 rw [h2,h3,<-ZJJ p] at hF
 exact Zrh (by rw [hF]) h1 ha hn σ sq own
theorem ZzU (hg:¬Zc3 p) (args:List AVal) (ha:args.all Z5=true) (hn:args.map ZD=[Z4 p]) (σ:Za) (sq own:Nat):Zj E1 BY σ sq 19 own true args=some (Zi7,σ,{}) :=
 ZFf (ZrD p h hp) (fun e=>hg ((ZtP p h hp).2 e)) ha hn σ sq own
theorem Zk2 (p:Zs):([AVal.agg (Zx p)].all Z5=true)/\[AVal.agg (Zx p)].map ZD=[Z4 p]:=⟨by rw [List.all_cons,ZdW];rfl,by rw [List.map_cons,ZdB];rfl⟩
def Zeg (p:Zs):Zb:=Zgm (Ziz p) (Zb5 p)
theorem ZpD (hg:Zc3 p) (args:List AVal) (ha:args.all Z5=true) (hn:args.map ZD=[Z4 p]) (σ:Za) (sq own:Nat):Zj E1 BY σ sq 17 own true args=some (.tup [.lst false ((Zeg p).map Zc),.int .i64 0],σ,{}) :=
 Zbm (ZrM p (Ziz p) (Zb5 p) hg.1 fun σ sq own=>Zx0 p h hp hg _ (Zk2 p h hp p).1 (Zk2 p h hp p).2 σ sq own) (by kernel_rfl) ha hn rfl (fun _=>rfl) σ sq own
theorem Zos (hg:¬Zc3 p) (args:List AVal) (ha:args.all Z5=true) (hn:args.map ZD=[Z4 p]) (σ:Za) (sq own:Nat):Zj E1 BY σ sq 17 own true args=some (.tup [.lst false [],.int .i64 129],σ,{}) :=
 Zbm (ZGw p fun σ sq own=>ZzU p h hp hg _ (Zk2 p h hp p).1 (Zk2 p h hp p).2 σ sq own) (by kernel_rfl) ha hn rfl (fun _=>rfl) σ sq own
end
end
section
set_option maxRecDepth 100000
noncomputable def ZqT (n:Nat):Bool:=match Zaq FC PR BY 60 9 [.agg [.int .u8 (n:Int),.lst false []]] [] with
 | some (r,[])=>(match Zbr 0 (some (r,[])) with
  | some (.tup [.agg cs,.int .i64 c],[])=>ZG (.tup [.agg cs,.int .i64 c]) && cs.length == 26 && cs.all ZX && c == (Zbx (n:Int) []).2
  | _=>false)
 | _=>false
theorem ZB2:(List.range 256).all ZqT=true:=by kernel_rfl
theorem Zxl (n:Nat) (h:n < 256):∃ r cs,E 9 [.agg [.int .u8 (n:Int),.lst false []]] []=some (r,[])/\Zbr 0 (some (r,[]))=some (.tup [.agg cs,.int .i64 (Zbx (n:Int) []).2],[])/\ZG (.tup [.agg cs,.int .i64 (Zbx (n:Int) []).2])=true/\cs.length=26/\cs.all ZX=true:=by
 have hc:=List.all_eq_true.1 ZB2 n (List.mem_range.2 h)
 unfold ZqT at hc
 split at hc
 ·rename_i r he
  split at hc
  ·rename_i cs c hr
   simp only [Bool.and_eq_true,beq_iff_eq] at hc
   obtain ⟨⟨⟨h1,h2⟩,h3⟩,h4⟩:=hc
   subst h4
   exact ⟨r,cs,Zc8.2 ⟨60,he⟩,hr,h1,h2,h3⟩
  ·cases hc
 ·cases hc
theorem ZAB (n:Nat) (h:n < 256):∃ cs:List AVal,cs.length=26/\cs.take 26=cs/\cs.all ZX=true/\∀ σ sq own,Zj E1 BY σ sq 9 own true [.agg [.int .u8 (n:Int),.lst true []]]=some (.tup [.agg cs,.int .i64 (Zbx (n:Int) []).2],σ,{}):=by
 obtain ⟨r,cs,h1,h2,h3,h4,h5⟩:=Zxl n h
 refine ⟨cs,h4,List.take_of_length_le (by omega),h5,fun σ sq own=>Zbp ?_⟩
 rw [ZfG (by kernel_rfl) rfl]
 show Zay σ σ [] [] sq own (Z6 true 0 (E 9 [.agg [.int .u8 (n:Int),.lst false []]] []))=_
 rw [h1]
 have : Z6 true 0 (some (r,[]))=some (.tup [.agg cs,.int .i64 (Zbx (n:Int) []).2],[]):=by
  unfold Z6
  rw [if_pos rfl];exact h2
 rw [this,ZgK _ _ _ _ ((ZaW _ _ h3).1)]
end
section
end
section
def Zmh:Zf:=(.seq (.region [oI 42 (.build [(.int .i64 0),(.bool false),(.int .i64 0),(.bool false),(.int .i64 0),(.str []),(.lst true []),(.int .i64 0),(.lst true []),(.lst true []),(.lst true []),(.lst true []),(.bool false),(.int .i64 0),(.str []),(.bool false),(.str []),(.lst true []),(.int .i64 0),(.bool false),(.lst true []),(.bool false),(.str []),(.bool false),(.lst true []),(.bool false)] [(0,1,(.c (.int .i64 12)))]),oI 43 (.call 17 0 true [(.t 42)]),oI 41 (.mov (.t 43)),oI 44 (.ext (.t 41) 0),oI 45 (.ext (.t 41) 1),oI 6 (.mov (.t 44)),oI 7 (.mov (.t 45))] none [7,6]) (.seq (.region [oI 47 (.build [(.int .i64 0),(.bool false),(.int .i64 0),(.bool false),(.int .i64 0),(.str []),(.lst true []),(.int .i64 0),(.lst true []),(.lst true []),(.lst true []),(.lst true []),(.bool false),(.int .i64 0),(.str []),(.bool false),(.str []),(.lst true []),(.int .i64 0),(.bool false),(.lst true []),(.bool false),(.str []),(.bool false),(.lst true []),(.bool false)] [(0,1,(.c (.int .i64 14)))]),oI 48 (.call 17 0 true [(.t 47)]),oI 46 (.mov (.t 48)),oI 49 (.ext (.t 46) 0),oI 50 (.ext (.t 46) 1),oI 8 (.mov (.t 49)),oI 9 (.mov (.t 50))] none [9,8,7,6]) (.seq (.region [oI 52 (.build [(.int .i64 0),(.bool false),(.int .i64 0),(.bool false),(.int .i64 0),(.str []),(.lst true []),(.int .i64 0),(.lst true []),(.lst true []),(.lst true []),(.lst true []),(.bool false),(.int .i64 0),(.str []),(.bool false),(.str []),(.lst true []),(.int .i64 0),(.bool false),(.lst true []),(.bool false),(.str []),(.bool false),(.lst true []),(.bool false)] [(0,1,(.c (.int .i64 1))),(14,1,(.c (.str [97]))),(12,1,(.c (.bool true))),(13,1,(.c (.int .i64 5)))]),oI 53 (.call 17 0 true [(.t 52)]),oI 51 (.mov (.t 53)),oI 54 (.ext (.t 51) 0),oI 55 (.ext (.t 51) 1),oI 10 (.mov (.t 54)),oI 11 (.mov (.t 55))] none [11,10,9,8,7,6]) (.seq (.region [oI 57 (.build [(.int .i64 0),(.bool false),(.int .i64 0),(.bool false),(.int .i64 0),(.str []),(.lst true []),(.int .i64 0),(.lst true []),(.lst true []),(.lst true []),(.lst true []),(.bool false),(.int .i64 0),(.str []),(.bool false),(.str []),(.lst true []),(.int .i64 0),(.bool false),(.lst true []),(.bool false),(.str []),(.bool false),(.lst true []),(.bool false)] [(0,1,(.c (.int .i64 0)))]),oI 58 (.call 17 0 true [(.t 57)]),oI 56 (.mov (.t 58)),oI 59 (.ext (.t 56) 0),oI 60 (.ext (.t 56) 1),oI 12 (.mov (.t 59)),oI 13 (.mov (.t 60))] none [13,11,10,9,8,7,6]) (.seq (.region [oI 62 (.build [(.int .i64 0),(.bool false),(.int .i64 0),(.bool false),(.int .i64 0),(.str []),(.lst true []),(.int .i64 0),(.lst true []),(.lst true []),(.lst true []),(.lst true []),(.bool false),(.int .i64 0),(.str []),(.bool false),(.str []),(.lst true []),(.int .i64 0),(.bool false),(.lst true []),(.bool false),(.str []),(.bool false),(.lst true []),(.bool false)] [(0,1,(.c (.int .i64 16)))]),oI 63 (.call 17 0 true [(.t 62)]),oI 61 (.mov (.t 63)),oI 64 (.ext (.t 61) 0),oI 65 (.ext (.t 61) 1),oI 14 (.mov (.t 64)),oI 15 (.mov (.t 65))] none [15,13,11,10,9,8,7,6]) (.seq (.region [oI 67 (.build [(.int .i64 0),(.bool false),(.int .i64 0),(.bool false),(.int .i64 0),(.str []),(.lst true []),(.int .i64 0),(.lst true []),(.lst true []),(.lst true []),(.lst true []),(.bool false),(.int .i64 0),(.str []),(.bool false),(.str []),(.lst true []),(.int .i64 0),(.bool false),(.lst true []),(.bool false),(.str []),(.bool false),(.lst true []),(.bool false)] [(0,1,(.c (.int .i64 12))),(4,1,(.c (.int .i64 1)))]),oI 68 (.call 17 0 true [(.t 67)]),oI 66 (.mov (.t 68)),oI 69 (.ext (.t 66) 0),oI 70 (.ext (.t 66) 1),oI 16 (.mov (.t 69)),oI 17 (.mov (.t 70))] none [17,15,13,11,10,9,8,7,6]) (.seq (.region [oI 71 (.bslice false 1 16 (.int .u8 0) [(0,(.c (.int .u8 16))),(1,(.c (.int .u8 14))),(2,(.c (.int .u8 0))),(3,(.c (.int .u8 4))),(4,(.c (.int .u8 77))),(5,(.c (.int .u8 81))),(6,(.c (.int .u8 84))),(7,(.c (.int .u8 84))),(8,(.c (.int .u8 5))),(9,(.c (.int .u8 2))),(10,(.c (.int .u8 0))),(11,(.c (.int .u8 5))),(12,(.c (.int .u8 0))),(13,(.c (.int .u8 0))),(14,(.c (.int .u8 1))),(15,(.c (.int .u8 97)))]),oI 18 (.mov (.t 71))] none [18,17,15,13,11,10,9,8,7,6]) (.seq (.region [oI 72 (.mov (.t 7)),oI 73 (.call 11 0 true [(.t 72)]),oI 74 (.bin .eql (.t 73) (.c (.int .i64 0))),oI 75 (.mov (.t 74)),⟨(some 76),(.mov (.t 6)),(some (75,true)),[]⟩,⟨(some 77),(.bslice false 1 2 (.int .u8 0) [(0,(.c (.int .u8 192))),(1,(.c (.int .u8 0)))]),(some (75,true)),[]⟩,⟨(some 78),(.call 21 0 true [(.t 76),(.t 77)]),(some (75,true)),[]⟩,oI 79 (.pick (.t 75) (.t 78) (.c (.bool false))),oI 80 (.mov (.t 79)),⟨(some 81),(.mov (.t 9)),(some (80,true)),[]⟩,⟨(some 82),(.call 11 0 true [(.t 81)]),(some (80,true)),[]⟩,⟨(some 83),(.bin .eql (.t 82) (.c (.int .i64 0))),(some (80,true)),[]⟩,oI 84 (.pick (.t 80) (.t 83) (.c (.bool false))),oI 85 (.mov (.t 84)),⟨(some 86),(.mov (.t 8)),(some (85,true)),[]⟩,⟨(some 87),(.bslice false 1 2 (.int .u8 0) [(0,(.c (.int .u8 224))),(1,(.c (.int .u8 0)))]),(some (85,true)),[]⟩,⟨(some 88),(.call 21 0 true [(.t 86),(.t 87)]),(some (85,true)),[]⟩,oI 89 (.pick (.t 85) (.t 88) (.c (.bool false))),oI 90 (.mov (.t 89)),⟨(some 91),(.mov (.t 11)),(some (90,true)),[]⟩,⟨(some 92),(.call 11 0 true [(.t 91)]),(some (90,true)),[]⟩,⟨(some 93),(.bin .eql (.t 92) (.c (.int .i64 0))),(some (90,true)),[]⟩,oI 94 (.pick (.t 90) (.t 93) (.c (.bool false))),oI 95 (.mov (.t 94)),⟨(some 96),(.mov (.t 10)),(some (95,true)),[]⟩,⟨(some 97),(.mov (.t 18)),(some (95,true)),[]⟩,⟨(some 98),(.call 21 0 true [(.t 96),(.t 97)]),(some (95,true)),[]⟩,oI 99 (.pick (.t 95) (.t 98) (.c (.bool false))),oI 100 (.mov (.t 99)),⟨(some 101),(.mov (.t 13)),(some (100,true)),[]⟩,⟨(some 102),(.call 11 0 true [(.t 101)]),(some (100,true)),[]⟩,⟨(some 103),(.bin .eql (.t 102) (.c (.int .i64 129))),(some (100,true)),[]⟩,oI 104 (.pick (.t 100) (.t 103) (.c (.bool false))),oI 105 (.mov (.t 104)),⟨(some 106),(.mov (.t 15)),(some (105,true)),[]⟩,⟨(some 107),(.call 11 0 true [(.t 106)]),(some (105,true)),[]⟩,⟨(some 108),(.bin .eql (.t 107) (.c (.int .i64 129))),(some (105,true)),[]⟩,oI 109 (.pick (.t 105) (.t 108) (.c (.bool false))),oI 110 (.mov (.t 109)),⟨(some 111),(.mov (.t 17)),(some (110,true)),[]⟩,⟨(some 112),(.call 11 0 true [(.t 111)]),(some (110,true)),[]⟩,⟨(some 113),(.bin .eql (.t 112) (.c (.int .i64 129))),(some (110,true)),[]⟩,oI 114 (.pick (.t 110) (.t 113) (.c (.bool false))),oI 115 (.mov (.t 114)),⟨(some 116),(.call 15 0 true []),(some (115,true)),[]⟩,oI 117 (.pick (.t 115) (.t 116) (.c (.bool false))),oI 0 (.mov (.t 117))] none [0]) .ret))))))))
def ZsS:Zf:=Zmh
def Zjl:Zf:=(.seq (.seq (.region [oI 19 (.mov (.t 1)),oI 20 (.bin .lss (.t 19) (.c (.int .i64 256)))] none [20,1]) (.cond (.t 20) .skip (.exit 0))) (.seq (.block 1 (.seq (.region [oI 24 (.mov (.t 1)),oI 25 (.i2i .u8 (.t 24)),oI 26 (.build [(.int .u8 0),(.lst true [])] [(0,1,(.t 25)),(1,1,(.c (.lst true [])))]),oI 27 (.call 8 0 true [(.t 26)]),oI 23 (.mov (.t 27)),oI 28 (.ext (.t 23) 0),oI 29 (.ext (.t 23) 1),oI 2 (.alloc [(.int .i64 0),(.bool false),(.int .i64 0),(.bool false),(.int .i64 0),(.str []),(.lst true []),(.int .i64 0),(.lst true []),(.lst true []),(.lst true []),(.lst true []),(.bool false),(.int .i64 0),(.str []),(.bool false),(.str []),(.lst true []),(.int .i64 0),(.bool false),(.lst true []),(.bool false),(.str []),(.bool false),(.lst true []),(.bool false)]),oN (.st 26 (.t 2) (.t 28)),oI 3 (.mov (.t 29))] none [3,1]) (.seq (.region [oI 31 (.mov (.t 1)),oI 32 (.i2i .u8 (.t 31)),oI 33 (.build [(.int .u8 0),(.lst true [])] [(0,1,(.t 32)),(1,1,(.c (.lst true [])))]),oI 34 (.call 9 0 true [(.t 33)]),oI 30 (.mov (.t 34)),oI 35 (.ext (.t 30) 0),oI 36 (.ext (.t 30) 1),oI 4 (.alloc [(.int .i64 0),(.bool false),(.int .i64 0),(.bool false),(.int .i64 0),(.str []),(.lst true []),(.int .i64 0),(.lst true []),(.lst true []),(.lst true []),(.lst true []),(.bool false),(.int .i64 0),(.str []),(.bool false),(.str []),(.lst true []),(.int .i64 0),(.bool false),(.lst true []),(.bool false),(.str []),(.bool false),(.lst true []),(.bool false)]),oN (.st 26 (.t 4) (.t 35)),oI 5 (.mov (.t 36))] none [5,3,1]) (.seq (.region [oI 37 (.mov (.t 3)),oI 38 (.call 11 0 true [(.t 37)]),oI 39 (.mov (.t 5)),oI 40 (.bin .neq (.t 38) (.t 39))] none [40,1]) (.cond (.t 40) (.seq (.region [oI 0 (.mov (.c (.bool false)))] none [0]) .ret) .skip))))) (.region [oI 21 (.mov (.t 1)),oI 22 (.bin .add (.t 21) (.c (.int .i64 1))),oI 1 (.mov (.t 22))] none [1])))
def ZoM:Zf:=Zjl
def Zne:Zf:=(.seq (.region [oI 0 (.mov (.c (.bool false)))] none []) (.seq (.seq (.region [oI 1 (.mov (.c (.int .i64 0)))] none [1]) (.block 0 (.loop [1] ZoM))) ZsS))
def ZlZ:ZE:=⟨[(.tmp 0)],Zne⟩
theorem ZIq:FC 5=some ZlZ:=by kernel_rfl
theorem Zzg:ZlZ.body=Zne:=rfl
theorem ZvR:ZlZ.res=[(.tmp 0)]:=rfl
def Zma:Zf:=(.seq (.region [oI 2 (.mov (.c (.int .i64 0)))] none [0]) (.seq (.region [oI 3 (.mov (.t 0)),oI 2 (.mov (.t 3))] none [2]) .ret))
def Zmp:ZE:=⟨[(.tmp 2)],Zma⟩
theorem ZwX:FC 11=some Zmp:=by kernel_rfl
theorem Zy6:Zmp.body=Zma:=rfl
theorem ZMa:Zmp.res=[(.tmp 2)]:=rfl
def Zm4:Zf:=(.seq (.region [oI 0 (.mov (.c (.bool false)))] none []) (.seq (.region [oI 6 (.build [(.int .i64 0),(.bool false),(.int .i64 0),(.bool false),(.int .i64 0),(.str []),(.lst true []),(.int .i64 0),(.lst true []),(.lst true []),(.lst true []),(.lst true []),(.bool false),(.int .i64 0),(.str []),(.bool false),(.str []),(.lst true []),(.int .i64 0),(.bool false),(.lst true []),(.bool false),(.str []),(.bool false),(.lst true []),(.bool false)] [(0,1,(.c (.int .i64 4))),(4,1,(.c (.int .i64 7))),(7,1,(.c (.int .i64 16)))]),oI 7 (.call 17 0 true [(.t 6)]),oI 5 (.mov (.t 7)),oI 8 (.ext (.t 5) 0),oI 9 (.ext (.t 5) 1),oI 1 (.mov (.t 8)),oI 2 (.mov (.t 9))] none [2,1]) (.seq (.region [oI 11 (.bslice false 1 7 (.int .u8 0) [(0,(.c (.int .u8 0))),(1,(.c (.int .u8 1))),(2,(.c (.int .u8 97))),(3,(.c (.int .u8 0))),(4,(.c (.int .u8 1))),(5,(.c (.int .u8 0))),(6,(.c (.int .u8 120)))]),oI 12 (.build [(.int .u8 0),(.lst true [])] [(0,1,(.c (.int .u8 50))),(1,1,(.t 11))]),oI 13 (.call 8 0 true [(.t 12)]),oI 10 (.mov (.t 13)),oI 14 (.ext (.t 10) 0),oI 15 (.ext (.t 10) 1),oI 3 (.alloc [(.int .i64 0),(.bool false),(.int .i64 0),(.bool false),(.int .i64 0),(.str []),(.lst true []),(.int .i64 0),(.lst true []),(.lst true []),(.lst true []),(.lst true []),(.bool false),(.int .i64 0),(.str []),(.bool false),(.str []),(.lst true []),(.int .i64 0),(.bool false),(.lst true []),(.bool false),(.str []),(.bool false),(.lst true []),(.bool false)]),oN (.st 26 (.t 3) (.t 14)),oI 4 (.mov (.t 15))] none [4,3,2,1]) (.seq (.region [oI 16 (.mov (.t 2)),oI 17 (.call 11 0 true [(.t 16)]),oI 18 (.bin .eql (.t 17) (.c (.int .i64 0))),oI 19 (.mov (.t 18)),⟨(some 20),(.mov (.t 1)),(some (19,true)),[]⟩,⟨(some 21),(.bslice false 1 5 (.int .u8 0) [(0,(.c (.int .u8 64))),(1,(.c (.int .u8 3))),(2,(.c (.int .u8 0))),(3,(.c (.int .u8 7))),(4,(.c (.int .u8 16)))]),(some (19,true)),[]⟩,⟨(some 22),(.call 21 0 true [(.t 20),(.t 21)]),(some (19,true)),[]⟩,oI 23 (.pick (.t 19) (.t 22) (.c (.bool false))),oI 24 (.mov (.t 23)),⟨(some 25),(.mov (.t 4)),(some (24,true)),[]⟩,⟨(some 26),(.call 11 0 true [(.t 25)]),(some (24,true)),[]⟩,⟨(some 27),(.bin .eql (.t 26) (.c (.int .i64 0))),(some (24,true)),[]⟩,oI 28 (.pick (.t 24) (.t 27) (.c (.bool false))),oI 29 (.mov (.t 28)),⟨(some 30),(.faddr 5 (.t 3)),(some (29,true)),[]⟩,⟨(some 31),(.ld none (.t 30)),(some (29,true)),[]⟩,⟨(some 32),(.bin .eql (.t 31) (.c (.str [97]))),(some (29,true)),[]⟩,oI 33 (.pick (.t 29) (.t 32) (.c (.bool false))),oI 34 (.mov (.t 33)),⟨(some 35),(.faddr 2 (.t 3)),(some (34,true)),[]⟩,⟨(some 36),(.ld none (.t 35)),(some (34,true)),[]⟩,⟨(some 37),(.bin .eql (.t 36) (.c (.int .i64 1))),(some (34,true)),[]⟩,oI 38 (.pick (.t 34) (.t 37) (.c (.bool false))),oI 39 (.mov (.t 38)),⟨(some 40),(.faddr 4 (.t 3)),(some (39,true)),[]⟩,⟨(some 41),(.ld none (.t 40)),(some (39,true)),[]⟩,⟨(some 42),(.bin .eql (.t 41) (.c (.int .i64 1))),(some (39,true)),[]⟩,oI 43 (.pick (.t 39) (.t 42) (.c (.bool false))),oI 44 (.mov (.t 43)),⟨(some 45),(.faddr 6 (.t 3)),(some (44,true)),[]⟩,⟨(some 46),(.ld none (.t 45)),(some (44,true)),[]⟩,⟨(some 47),(.b2s (.t 46)),(some (44,true)),[]⟩,⟨(some 48),(.bin .eql (.t 47) (.c (.str [120]))),(some (44,true)),[]⟩,oI 49 (.pick (.t 44) (.t 48) (.c (.bool false))),oI 0 (.mov (.t 49))] none [0]) .ret))))
def Zng:ZE:=⟨[(.tmp 0)],Zm4⟩
theorem ZLG:FC 15=some Zng:=by kernel_rfl
theorem ZCW:Zng.body=Zm4:=rfl
theorem ZFz:Zng.res=[(.tmp 0)]:=rfl
end
section
theorem ZvU (a b:Zb):E 21 [ZM a,ZM b] []=some (.bool (a == b),[]):=by
 rw [Zh (by rfl) ZwV]
 simp -implicitDefEqProofs only [EQA,Nat.reduceLT,Nat.reduceEqDiff,ZeK,reduceCtorEq,ZY,↓reduceIte,ZHk,Zpk,ZI1,oI,ZM]
theorem Zlk (σ:Za) (sq own:Nat) (f g:Bool) (a b:Zb):Zj E BY σ sq 21 own true [.lst f (a.map Zc),.lst g (b.map Zc)]=some (.bool (a == b),σ,{}) :=
 Zbm (ZvU a b) (by kernel_rfl) rfl rfl rfl (fun _=>rfl) σ sq own
theorem ZML (e:Int):E 11 [.int .i64 e] []=some (.int .i64 e,[]):=by
 rw [Zh (by rfl) ZwX]
 simp -implicitDefEqProofs only [EQA,Nat.reduceLT,Nat.reduceEqDiff,reduceCtorEq,↓reduceIte,Zy6,Zma,ZMa,oI]
theorem ZmI (σ:Za) (sq own:Nat) (view:Bool) (e:Int):Zj E BY σ sq 11 own view [.int .i64 e]=some (.int .i64 e,σ,{}) :=
 Zcl (ZML e) (by kernel_rfl) (by simp -implicitDefEqProofs only [ZcR,Zbq,eq_self]) (by simp -implicitDefEqProofs only [ZC,Zbq,eq_self]) rfl (fun _=>rfl) _ _ _ _
def p7:Zs:={ Zam with type:=4,id:=7,code:=16 }
def b7:Zb:=[0,7,16]
theorem Zx7:OkW p7:=by
 refine ⟨?_,?_,?_,?_,?_,?_,?_,?_,?_,?_,?_,?_⟩ <;> simp [p7,Zam]
theorem ZyL:E1 39 [.ref 0 0,Z4 p7] [.var wn]=some (.tup [],wH 0 b7):=by
 have h:=Zrd p7 Zx7 (Or.inl rfl)
 have e:beB (ZP p7.id) 2++ZbD p7=b7:=by
  unfold ZbD
  rw [if_pos (Or.inl (by decide)),if_neg (by simp [p7,Zam])]
  decide
 rw [e] at h;exact h
def Q7:List AVal:=Zdm ((P0.set 0 (.int .i64 4)).set 4 (.int .i64 7)) 16 none
theorem ZJD:E1 8 [.agg [.int .u8 64,.lst false (b7.map Zc)]] []=some (.tup [.agg Q7,.int .i64 0],[]):=by
 have hi:idK b7=.ok (7,[16]):=by kernel_rfl
 have hr:Zcs 4 [16]=.ok ((16,none),[]):=by kernel_rfl
 have hf:=Ztb P0 rfl (by rfl) 64 4 b7 (by decide) (by decide) (by decide) (by decide)
 have hb:=ZrT (P0.set 0 (.int .i64 4)) (by rfl) (by rfl) 4 (Or.inl rfl) rfl rfl rfl (fun r _=>ZcY 4 r) b7 (by decide) hi hr
 rw [Zfl]
 exact ZmL 64 b7 (by rfl) (by rfl) rfl (by rfl) (by rfl) rfl hf hb
theorem ZKs (σ:Za) (sq own:Nat):Zj E1 BY σ sq 8 own true [.agg [.int .u8 64,.lst false (b7.map Zc)]]=some (.tup [Z4 p7,.int .i64 0],σ,{}) :=
 Zqj ZJD (fun σ=>rfl) false σ sq own
theorem ZJG:E1 19 [Z4 p7] []=some (Zen 64 b7 0 true,[]):=by
 have hf:ZbQ p7=64:=by decide
 have hs:Zdv p7 p7=true:=(Zqb _ _).2 rfl
 have:=Zrs p7 p7 0 b7 ZyL (by decide) (fun σ sq own=>by rw [hf];exact ZKs σ sq own) ⟨by decide,by decide,by decide,by decide,by decide⟩
 rw [hf,hs] at this
 exact this
theorem ZLs:E1 17 [Z4 p7] []=some (.tup [.lst false ((Zgm 64 b7).map Zc),.int .i64 0],[]) :=
 ZrM p7 64 b7 (by decide) fun σ sq own=>Zrh (x:=64) ZJG (by decide) (by rw [List.all_cons,ZdW];rfl) (by rw [List.map_cons,ZdB];rfl) σ sq own
def b50:Zb:=[0,1,97,0,1,0,120]
def p50:Zs:={ Zam with type:=3,qos:=1,id:=1,topic:=[97],payload:=[120] }
theorem ZC1:Zfk 50 b50=(p50,0):=by kernel_rfl
theorem ZKQ:E1 15 [] []=some (.bool true,[]):=by
 have h1:=fun (args:List AVal) (hp:args.all Z5=true) (hn:args.map ZD=[Z4 p7]) σ sq own=>Zbm (bf:=BY) (args:=args) ZLs (by kernel_rfl) hp hn rfl (fun _=>rfl) σ sq own
 have h2:∀ (σ:Za) (sq own:Nat) (f:Bool),Zj E1 BY σ sq 8 own true [.agg [.int .u8 50,.lst f [.int .u8 0,.int .u8 1,.int .u8 97,.int .u8 0,.int .u8 1,.int .u8 0,.int .u8 120]]]=some (.tup [.agg [.int .i64 3,.bool false,.int .i64 1,.bool false,.int .i64 1,.str [97],.lst false [.int .u8 120],.int .i64 0,.lst false [],.lst false [],.lst false [],.lst false [],.bool false,.int .i64 0,.str [],.bool false,.str [],.lst false [],.int .i64 0,.bool false,.lst false [],.bool false,.str [],.bool false,.lst false [],.bool false],.int .i64 0],σ,{}):=fun σ sq own f=>by
  have:=ZCI 50 (by decide) b50 (by decide) f σ sq own
  rw [ZC1] at this
  exact this
 have h3:=fun σ sq own f g a b=>Zbp (Zlk σ sq own f g a b)
 have h4:=fun σ sq own e=>Zbp (ZmI σ sq own true e)
 have h5:=h1 [.agg [.int .i64 4,.bool false,.int .i64 0,.bool false,.int .i64 7,.str [],.lst true [],.int .i64 16,.lst true [],.lst true [],.lst true [],.lst true [],.bool false,.int .i64 0,.str [],.bool false,.str [],.lst true [],.int .i64 0,.bool false,.lst true [],.bool false,.str [],.bool false,.lst true [],.bool false]] rfl rfl
 have h6:∀ (σ:Za) (sq own:Nat) (f g:Bool),Zj E1 BY σ sq 21 own true [.lst f ((Zgm 64 b7).map Zc),.lst g [.int .u8 64,.int .u8 3,.int .u8 0,.int .u8 7,.int .u8 16]]=some (.bool true,σ,{}):=fun σ sq own f g=>by
  have:=h3 σ sq own f g (Zgm 64 b7) [64,3,0,7,16]
  rw [show (Zgm 64 b7 == [64,3,0,7,16])=true from by decide] at this
  exact this
 have hb:ZeZ [AVal.int .u8 120]=some [120]:=by rfl
 clear h1 h3
 rw [Zbi (by rfl) ZLG]
 simp -implicitDefEqProofs only [EQA,Za1,Zck,Nat.reduceAdd,Nat.reduceLT,Nat.reduceLeDiff,Nat.reduceEqDiff,Nat.reduceBEq,ZeK,ZH,unG,reduceCtorEq,ZY,↓reduceIte,ZB,ZA,ZN,ZCW,Zm4,ZFz,oI,oN,AVal.cells,Zan,h2,h4,h5,h6,hb,viewAs,ZQ,ZK,Zo,ZX]
theorem ZwD (σ:Za) (sq own:Nat) (view:Bool):Zj E1 BY σ sq 15 own view []=some (.bool true,σ,{}) :=
 Zcl ZKQ (by kernel_rfl) rfl rfl rfl (fun _=>rfl) _ _ _ _
end
section
set_option maxRecDepth 100000
def ZEj:=xw1 ZsS Zmh rfl
def Zre:=xw1 ZoM Zjl rfl
theorem Zqo:∀ (r n:Nat),n+r=256->evL FC PR1 BY 0 [1] ZoM [(1,.int .i64 (n:Int))] []=some (.exit 0,[(20,.bool false),(1,.int .i64 256)],[])
 | 0,n,h=>by
  obtain rfl:n=256:=by omega
  have h0:¬((256:Nat):Int) < 256:=by decide
  rw [Z9]
  simp -implicitDefEqProofs only [EQA,Nat.reduceLT,Nat.reduceEqDiff,↓reduceIte,Zjl,oI,oN,Zre,h0]
  rfl
 | r+1,n,h=>by
  have h0:((n:Nat):Int) < 256:=by omega
  have hw:IntKind.i64.wrap (((n:Nat):Int)+1)=((n+1:Nat):Int):=by rw [ZbV (by omega) (by omega)];rfl
  have hu:IntKind.u8.wrap ((n:Nat):Int)=((n:Nat):Int):=by rw [IntKind.wrap_u8];omega
  have ih:=Zqo r (n+1) (by omega)
  obtain ⟨cs,l2,t2,o2,hR⟩:=ZAB n (by omega)
  have hP:=fun σ sq own=>Zms (n:Int) (by omega) [] (by simp) true σ sq own
  rw [List.map_nil] at hP
  have hn:=fun σ sq own e=>Zbp (ZmI σ sq own true e)
  rw [Zbn] at hP
  have l1:=ZbX (Zbx (n:Int) []).1
  have t1:=ZcC (Zbx (n:Int) []).1
  have o1:(Zx (Zbx (n:Int) []).1).all ZX=true:=rfl
  generalize Zx (Zbx (n:Int) []).1=Q at *
  generalize (Zbx (n:Int) []).2=c at *
  generalize ((n+1:Nat):Int)=N2 at *
  generalize ((n:Nat):Int)=N1 at *
  rw [Z9]
  simp -implicitDefEqProofs only [EQA,Za1,Z7,Nat.reduceAdd,Nat.reduceLT,Nat.reduceLeDiff,Nat.reduceEqDiff,Nat.reduceBEq,↓reduceIte,gcT,gcA,ZB,ZA,Zv,ZN,Zjl,oI,oN,Zre,h0,hw,hu,hP,hR,hn,l1,o1,l2,o2,Zan,AVal.cells,bne_self_eq_false]
  exact ih
def pkA:Zs:={ Zam with type:=12 }
def pkB:Zs:={ Zam with type:=14 }
def pkC:Zs:={ Zam with type:=1,client:=[97],clean:=true,keep:=5 }
def pkD:Zs:={ Zam with type:=0 }
def pkE:Zs:={ Zam with type:=16 }
def pkF:Zs:={ Zam with type:=12,id:=1 }
theorem Zht (p:Zs) (h1:p.topic=[]) (h2:p.payload=[]) (h3:p.codes=[]) (h4:p.props=[]) (h5:p.subs=[]) (h6:p.filters=[]) (h7:p.client.length<=1) (h8:p.will=Zam.will) (h9:p.user=[]) (h10:p.password=[]):OkW p:=by
 refine ⟨by rw [h1];simp,by rw [h2];simp,by rw [h3];simp,⟨by rw [h4];simp,fun q hq=>by rw [h4] at hq;cases hq⟩,⟨by rw [h5];simp,fun q hq=>by rw [h5] at hq;cases hq⟩,⟨by rw [h6];simp,fun q hq=>by rw [h6] at hq;cases hq⟩,by omega,by rw [h8];simp [Zam],by rw [h8];simp [Zam],⟨by rw [h8];simp [Zam],fun q hq=>by rw [h8] at hq;cases hq⟩,by rw [h9];simp,by rw [h10];simp⟩
theorem okA:OkW pkA:=Zht _ rfl rfl rfl rfl rfl rfl (by decide) rfl rfl rfl
theorem Zwp:OkW pkB:=Zht _ rfl rfl rfl rfl rfl rfl (by decide) rfl rfl rfl
theorem okC:OkW pkC:=Zht _ rfl rfl rfl rfl rfl rfl (by decide) rfl rfl rfl
theorem okD:OkW pkD:=Zht _ rfl rfl rfl rfl rfl rfl (by decide) rfl rfl rfl
theorem okE:OkW pkE:=Zht _ rfl rfl rfl rfl rfl rfl (by decide) rfl rfl rfl
theorem okF:OkW pkF:=Zht _ rfl rfl rfl rfl rfl rfl (by decide) rfl rfl rfl
theorem ZEL:Zc3 pkA:=⟨by decide,by kernel_rfl⟩
theorem Zxa:Zc3 pkB:=⟨by decide,by kernel_rfl⟩
theorem ZHc:(Zb5 pkC).length=14:=by kernel_rfl
theorem ZKB:Zc3 pkC:=⟨by rw [ZHc];decide,by kernel_rfl⟩
theorem ZDh:¬Zc3 pkD:=fun h=>by
 have e:(Zbx (ZbQ pkD) (Zb5 pkD)).2=129:=by kernel_rfl
 rw [h.2] at e;cases e
theorem ZKg:¬Zc3 pkE:=fun h=>by
 have e:(Zbx (ZbQ pkE) (Zb5 pkE)).2=129:=by kernel_rfl
 rw [h.2] at e;cases e
theorem ZCO:¬Zc3 pkF:=fun h=>by
 have e:(Zbx (ZbQ pkF) (Zb5 pkF)).1.id=0:=by kernel_rfl
 rw [h.2] at e;cases e
theorem ZvM:E1 5 [] []=some (.bool true,[]):=by
 have h2:=Zqo 256 0 rfl
 have z:((0:Nat):Int)=0:=rfl
 rw [z] at h2
 have hz:(0:Nat)<=1000000:=by decide
 have hA:=ZpD pkA okA hz ZEL [.agg [.int .i64 12,.bool false,.int .i64 0,.bool false,.int .i64 0,.str [],.lst true [],.int .i64 0,.lst true [],.lst true [],.lst true [],.lst true [],.bool false,.int .i64 0,.str [],.bool false,.str [],.lst true [],.int .i64 0,.bool false,.lst true [],.bool false,.str [],.bool false,.lst true [],.bool false]] rfl rfl
 have hB:=ZpD pkB Zwp hz Zxa [.agg [.int .i64 14,.bool false,.int .i64 0,.bool false,.int .i64 0,.str [],.lst true [],.int .i64 0,.lst true [],.lst true [],.lst true [],.lst true [],.bool false,.int .i64 0,.str [],.bool false,.str [],.lst true [],.int .i64 0,.bool false,.lst true [],.bool false,.str [],.bool false,.lst true [],.bool false]] rfl rfl
 have hC:=ZpD pkC okC hz ZKB [.agg [.int .i64 1,.bool false,.int .i64 0,.bool false,.int .i64 0,.str [],.lst true [],.int .i64 0,.lst true [],.lst true [],.lst true [],.lst true [],.bool true,.int .i64 5,.str [97],.bool false,.str [],.lst true [],.int .i64 0,.bool false,.lst true [],.bool false,.str [],.bool false,.lst true [],.bool false]] rfl rfl
 have hD:=Zos pkD okD hz ZDh [.agg [.int .i64 0,.bool false,.int .i64 0,.bool false,.int .i64 0,.str [],.lst true [],.int .i64 0,.lst true [],.lst true [],.lst true [],.lst true [],.bool false,.int .i64 0,.str [],.bool false,.str [],.lst true [],.int .i64 0,.bool false,.lst true [],.bool false,.str [],.bool false,.lst true [],.bool false]] rfl rfl
 have hE:=Zos pkE okE hz ZKg [.agg [.int .i64 16,.bool false,.int .i64 0,.bool false,.int .i64 0,.str [],.lst true [],.int .i64 0,.lst true [],.lst true [],.lst true [],.lst true [],.bool false,.int .i64 0,.str [],.bool false,.str [],.lst true [],.int .i64 0,.bool false,.lst true [],.bool false,.str [],.bool false,.lst true [],.bool false]] rfl rfl
 have hF:=Zos pkF okF hz ZCO [.agg [.int .i64 12,.bool false,.int .i64 0,.bool false,.int .i64 1,.str [],.lst true [],.int .i64 0,.lst true [],.lst true [],.lst true [],.lst true [],.bool false,.int .i64 0,.str [],.bool false,.str [],.lst true [],.int .i64 0,.bool false,.lst true [],.bool false,.str [],.bool false,.lst true [],.bool false]] rfl rfl
 have vA:(Zeg pkA).map Zc=[.int .u8 192,.int .u8 0]:=by kernel_rfl
 have vB:(Zeg pkB).map Zc=[.int .u8 224,.int .u8 0]:=by kernel_rfl
 have vC:(Zeg pkC).map Zc=[.int .u8 16,.int .u8 14,.int .u8 0,.int .u8 4,.int .u8 77,.int .u8 81,.int .u8 84,.int .u8 84,.int .u8 5,.int .u8 2,.int .u8 0,.int .u8 5,.int .u8 0,.int .u8 0,.int .u8 1,.int .u8 97]:=by kernel_rfl
 rw [vA] at hA
 rw [vB] at hB
 rw [vC] at hC
 have hn:=fun σ sq own e=>Zbp (ZmI σ sq own true e)
 have hw:=fun σ sq own=>ZwD σ sq own true
 have sA:=fun σ sq own=>Zbp (Zlk σ sq own false true (Zeg pkA) (Zeg pkA))
 have sB:=fun σ sq own=>Zbp (Zlk σ sq own false true (Zeg pkB) (Zeg pkB))
 have sC:=fun σ sq own=>Zbp (Zlk σ sq own false true (Zeg pkC) (Zeg pkC))
 rw [vA,beq_self_eq_true] at sA
 rw [vB,beq_self_eq_true] at sB
 rw [vC,beq_self_eq_true] at sC
 rw [Zbi (by rfl) ZIq]
 simp -implicitDefEqProofs only [EQA,Za1,Z7,Zck,Nat.reduceAdd,Nat.reduceLT,Nat.reduceLeDiff,Nat.reduceEqDiff,ZH,unG,reduceCtorEq,↓reduceIte,gcT,gcA,ZB,ZA,Zv,ZN,Zzg,Zne,ZvR,Zmh,oI,ZEj,h2,hA,hB,hC,hD,hE,hF,hn,hw,sA,sB,sC,Zan,AVal.cells,viewAs,ZQ,ZK,Zo]
end
section
open Go.Shelf Go.RowKit
section
variable {P:Program} {ρ:Ren}
theorem ZkL (W:World) (dT sT ty elem:TypeId) (g o dLen dCap:Nat) (A:Option Addr) (sLen sCap:Nat) (cur:Array Value) (t:TypeId) (cs:List Value)
  (hu:P.underlying dT=some (.slice elem)) (hs:(P.info? elem).map (·.size)=some 1) (hg:W.heap[g]?=some (.cells cur t (0,0))) (hn:cs.length=sLen) (hd:sLen<=dLen)
  (hsrc:sLen=0\/∃ a,A=some a/\∀ j v,cs[j]?=some v->W.cell? (a.add j)=some v) (hfit:o+cs.length<=cur.size) (h1:∀ v ∈ cs,v.oneCell'=true) :
  ∃ W2 Y,(Builtin.copy_ #[dT,sT] ty #[.slice (some ⟨g,o,none⟩) dLen dCap,.slice A sLen sCap]).run P W=.ok (goInt sLen) W2/\W2.heap[g]?=some (.cells Y t (0,0)) /\
   Y.toList=cur.toList.take o++cs++cur.toList.drop (o+sLen)/\W.grownBy W2 (some g)/\W2.heap.size=W.heap.size:=by
 rcases hsrc with h0 | ⟨a,rfl,hsrc⟩
 ·have hc:cs=[]:=List.eq_nil_of_length_eq_zero (by omega)
  subst hc
  subst h0
  exact ⟨W,cur,run_copy_none W dT sT ty elem _ _ _ _ _ _ hu hs (by simp),hg,by simp,⟨rfl,rfl,rfl,Nat.le_refl _,fun _ _ _=>rfl⟩,rfl⟩
 ·have h:=run_copy_row (P:=P) W dT sT ty elem g o dLen dCap a sLen sCap cur t cs hu hs hg (by rw [hn];exact (Nat.min_eq_left hd).symm) hsrc hfit h1
  rw [hn] at h
  refine ⟨_,_,h,setRow_heap _ _ _ _ _ _ hg,by simp,⟨rfl,rfl,rfl,by simp,fun k _ hk=>setRow_other _ _ _ _ (fun e=>hk (by rw [e]))⟩,by simp⟩
set_option maxRecDepth 100000 in
theorem ZpS (L:LaysM.n290 P ρ) (A:Option Addr) (l c n:Nat) (olds:List Value) (w:World) (ho:olds.length=l) (hlc:l<=c) (hn:1<=n)
  (hlim:l+n<=140737488355328) (hc2:c<=140737488355328) (hsrc:l=0\/∃ a,A=some a/\∀ j v,olds[j]?=some v->w.cell? (a.add j)=some v) (h1:∀ v ∈ olds,v.oneCell'=true) :
  Calls P (ρ.f 290) #[.slice A l c,.int .i64 n] w fun e w'=>∃ cap2 cells,e=.returned (.slice (some ⟨w.heap.size,0,none⟩) l cap2)/\w'.heap[w.heap.size]?=some (.cells cells (ρ.t 5) (0,0)) /\
   cells.size=cap2/\cells.toList.take l=olds/\l+n<=cap2/\cap2<=maxLen/\Below w.heap.size w w':=by
 have mixed:=L.mixed
 have t5:=L.t5;have a5:=L.a5;have z5:=L.z5;have v5:=L.v5
 have t37:=L.t37;have a37:=L.a37;have z37:=L.z37;have v37:=L.v37
 have t3:=L.t3;have a3:=L.a3;have z3:=L.z3;have v3:=L.v3
 have t0:=L.t0;have a0:=L.a0;have z0:=L.z0;have v0:=L.v0
 have t4:=L.t4;have a4:=L.a4;have z4:=L.z4;have v4:=L.v4
 obtain ⟨i0,hi,hz0,hz1,hz2⟩:=info_parts L.i5
 have hsz1:(P.info? (ρ.t 5)).map (·.size)=some 1:=by rw [hi];simp [hz1]
 by_cases hC:l+n < 2*c
 ·have happ:=Lib.run_append_nil_zeros (P:=P) w (ρ.t 37) (ρ.t 3) (ρ.t 37) (ρ.t 5) i0 (.int .u8 0) .i64 .i64 L.t37 L.t3 hi hz0 (2*c) (by omega) (by omega) (by omega) (by rw [hz2];omega)
  rw [show (((2*c:Nat)):Int)=2*(c:Int) by omega] at happ
  generalize hcap:grownCap w (2*c) 0 (ρ.t 5)=cap2 at happ
  have hcapge:2*c<=cap2:=by rw [<-hcap];exact grownCap_ge w _ 0 (ρ.t 5)
  have hcaple:cap2<=maxLen:=by rw [<-hcap];exact grownCap_le_maxLen w _ 0 (ρ.t 5) (by unfold maxLen;omega)
  generalize hZ:(Builtin.zeroCells (Value.int .u8 0).cells (2*c)++Builtin.zeroCells (Value.int .u8 0).cells (cap2 - (2*c)))=Z at happ
  have hZs:Z.size=cap2:=by rw [<-hZ];simp [size_zeroCells,Value.cells];omega
  clear hcap hZ
  have hsrc1:l=0\/∃ a,A=some a/\∀ j v,olds[j]?=some v->(w.alloc (.cells Z (ρ.t 5))).drew.cell? (a.add j)=some v:=hsrc.imp id fun ⟨a,e,h⟩=>⟨a,e,fun j v hj=>(World.cell?_of_block (a:=a.add j) (Below.heap_alloc w _ _ (World.block_lt_of_cell? w _ (h j v hj)))).trans (h j v hj)⟩
  obtain ⟨W2,Y,hcopy,hY,hYl,hgb,hsz⟩:=ZkL (P:=P) (w.alloc (.cells Z (ρ.t 5))).drew (ρ.t 37) (ρ.t 37) (ρ.t 3) (ρ.t 5) w.heap.size 0 (2*c) cap2 A l c Z (ρ.t 5) olds L.t37 hsz1 (heap_alloc_new w _) ho (by omega) hsrc1 (by omega) h1
  go_enter_defers L.f290,Body.n290_ntmps ρ
  go_wp2_with (at_builtin;refine Lib.wpList_append_run _ rfl _ _ _ _ rfl _ _ rfl rfl _ _ happ ?_)
  refine leaves_cons (f:=(ρ.f 324)) (args:=#[]) (by simp) (enters_of L.f324 (by kernel_rfl) rfl _ _) ?_
  refine (Any.growSlice_catch_idle { L with } _).mono ?_
  rintro e u' w'' ⟨rfl,rfl,rfl⟩
  refine ⟨_,results_tmp rfl _ _ _,?_⟩
  refine ⟨cap2,Y,rfl,hY,?_,?_,by omega,hcaple,?_⟩
  ·have h3:=congrArg List.length hYl
   simp only [List.length_append,List.length_drop,List.take_zero,List.length_nil,Array.length_toList] at h3
   omega
  ·rw [hYl,List.take_zero,List.nil_append,List.take_append_of_le_length (by omega),List.take_of_length_le (by omega)]
  ·have hs1:(w.alloc (.cells Z (ρ.t 5))).drew.heap.size=w.heap.size+1:=by show (w.alloc (.cells Z (ρ.t 5))).heap.size=_;simp
   exact ⟨hgb.os,hgb.tape,hgb.output,by omega,fun k hk=>(hgb.block k (by omega) (fun e=>by injection e with e;omega)).trans (Below.heap_alloc w _ k hk)⟩
 ·have happ:=Lib.run_append_nil_zeros (P:=P) w (ρ.t 37) (ρ.t 3) (ρ.t 37) (ρ.t 5) i0 (.int .u8 0) .i64 .i64 L.t37 L.t3 hi hz0 (l+n) (by omega) (by omega) (by omega) (by rw [hz2];omega)
  rw [show (((l+n:Nat)):Int)=(l:Int)+(n:Int) by omega] at happ
  generalize hcap:grownCap w (l+n) 0 (ρ.t 5)=cap2 at happ
  have hcapge:l+n<=cap2:=by rw [<-hcap];exact grownCap_ge w _ 0 (ρ.t 5)
  have hcaple:cap2<=maxLen:=by rw [<-hcap];exact grownCap_le_maxLen w _ 0 (ρ.t 5) (by unfold maxLen;omega)
  generalize hZ:(Builtin.zeroCells (Value.int .u8 0).cells (l+n)++Builtin.zeroCells (Value.int .u8 0).cells (cap2 - (l+n)))=Z at happ
  have hZs:Z.size=cap2:=by rw [<-hZ];simp [size_zeroCells,Value.cells];omega
  clear hcap hZ
  have hsrc1:l=0\/∃ a,A=some a/\∀ j v,olds[j]?=some v->(w.alloc (.cells Z (ρ.t 5))).drew.cell? (a.add j)=some v:=hsrc.imp id fun ⟨a,e,h⟩=>⟨a,e,fun j v hj=>(World.cell?_of_block (a:=a.add j) (Below.heap_alloc w _ _ (World.block_lt_of_cell? w _ (h j v hj)))).trans (h j v hj)⟩
  obtain ⟨W2,Y,hcopy,hY,hYl,hgb,hsz⟩:=ZkL (P:=P) (w.alloc (.cells Z (ρ.t 5))).drew (ρ.t 37) (ρ.t 37) (ρ.t 3) (ρ.t 5) w.heap.size 0 (l+n) cap2 A l c Z (ρ.t 5) olds L.t37 hsz1 (heap_alloc_new w _) ho (by omega) hsrc1 (by omega) h1
  go_enter_defers L.f290,Body.n290_ntmps ρ
  go_wp2_with (at_builtin;refine Lib.wpList_append_run _ rfl _ _ _ _ rfl _ _ rfl rfl _ _ happ ?_)
  refine leaves_cons (f:=(ρ.f 324)) (args:=#[]) (by simp) (enters_of L.f324 (by kernel_rfl) rfl _ _) ?_
  refine (Any.growSlice_catch_idle { L with } _).mono ?_
  rintro e u' w'' ⟨rfl,rfl,rfl⟩
  refine ⟨_,results_tmp rfl _ _ _,?_⟩
  refine ⟨cap2,Y,rfl,hY,?_,?_,by omega,hcaple,?_⟩
  ·have h3:=congrArg List.length hYl
   simp only [List.length_append,List.length_drop,List.take_zero,List.length_nil,Array.length_toList] at h3
   omega
  ·rw [hYl,List.take_zero,List.nil_append,List.take_append_of_le_length (by omega),List.take_of_length_le (by omega)]
  ·have hs1:(w.alloc (.cells Z (ρ.t 5))).drew.heap.size=w.heap.size+1:=by show (w.alloc (.cells Z (ρ.t 5))).heap.size=_;simp
   exact ⟨hgb.os,hgb.tape,hgb.output,by omega,fun k hk=>(hgb.block k (by omega) (fun e=>by injection e with e;omega)).trans (Below.heap_alloc w _ k hk)⟩
set_option maxRecDepth 100000 in
theorem Zlm (L:LaysM.n181 P ρ) (b:Nat) (ao:Option Addr) (l cap:Nat) (w:World) (c0:w.cell? ⟨b,0,none⟩=some (.slice ao l cap)) (c1:w.cell? ⟨b,1,none⟩=some (.int .i64 0)) (hmax:l<=maxLen) :
  Calls P (ρ.f 181) #[.pointer (some ⟨b,0,none⟩)] w fun e w'=>e=.returned (.int .i64 l)/\∃ n,w'=w.drewN n:=by
 have mixed:=L.mixed
 have t5:=L.t5;have a5:=L.a5;have z5:=L.z5;have v5:=L.v5
 have t130:=L.t130;have a130:=L.a130;have z130:=L.z130;have v130:=L.v130
 have t3:=L.t3;have a3:=L.a3;have z3:=L.z3;have v3:=L.v3
 have t0:=L.t0;have a0:=L.a0;have z0:=L.z0;have v0:=L.v0
 have t93:=L.t93;have u93:=run_underlying L.t93;have a93:=L.a93;have z93:=L.z93;have v93:=L.v93
 have t37:=L.t37;have a37:=L.a37;have z37:=L.z37;have v37:=L.v37
 unfold maxLen at hmax
 go_enter L.f181,Body.n181_ntmps ρ
 go_wp2
 go_region_o
 all_goals (go_wp2;go_ret;exact ⟨by simp,1,rfl⟩)
def ZhM (w:World) (T:TypeId) (R:Nat->Option Value) (b l n:Nat) (olds:List Value) (lr:Int) (e:TypeId) (w':World):Prop :=
 ∃ cap2 cells,LibA.Three w' b 0 T R (.slice (some ⟨w.heap.size,0,none⟩) (l+n) cap2) (.int .i64 0) (.int .i8 lr)/\w'.heap[w.heap.size]?=some (.cells cells e (0,0)) /\
  cells.size=cap2/\cells.toList.take l=olds/\l+n<=cap2/\cap2<=maxLen/\w.grownBy w' (some b)
theorem ZmE {w:World} {b:Nat} {T:TypeId} {R:Nat->Option Value} {x y z:Value} (h:LibA.Three w b 0 T R x y z) (v1 s:Value) :
  LibA.Three (((w.setCell ⟨b,0,none⟩ v1).setCell ⟨b,1,none⟩ (.int .i64 0)).setCell ⟨b,0,none⟩ s) b 0 T R s (.int .i64 0) z:=((h.set0 v1).set1 (.int .i64 0)).set0 s
end
end
section
open Go.Shelf Go.RowKit
section
variable {P:Program} {ρ:Ren}
set_option maxRecDepth 100000 in
theorem ZGW (L:LaysM.n252 P ρ) (T:TypeId) (R:Nat->Option Value) (b:Nat)  (n:Nat) (lr:Int) (w:World)
  (hbk:LibA.Three w b 0 T R (.slice none 0 0) (.int .i64 0) (.int .i8 lr)) (hn:1<=n) (h64:n<=64) :
  Calls P (ρ.f 252) #[.pointer (some ⟨b,0,none⟩),.int .i64 n] w fun e w'=>e=.returned (.int .i64 0)/\ZhM w T R b 0 n [] lr (ρ.t 5) w':=by
 have mixed:=L.mixed
 have t5:=L.t5;have a5:=L.a5;have z5:=L.z5;have v5:=L.v5
 have t130:=L.t130;have a130:=L.a130;have z130:=L.z130;have v130:=L.v130
 have t3:=L.t3;have a3:=L.a3;have z3:=L.z3;have v3:=L.v3
 have t4:=L.t4;have a4:=L.a4;have z4:=L.z4;have v4:=L.v4
 have t0:=L.t0;have a0:=L.a0;have z0:=L.z0;have v0:=L.v0
 have t93:=L.t93;have u93:=run_underlying L.t93;have a93:=L.a93;have z93:=L.z93;have v93:=L.v93
 have t131:=L.t131;have a131:=L.a131;have z131:=L.z131;have v131:=L.v131
 have t37:=L.t37;have a37:=L.a37;have z37:=L.z37;have v37:=L.v37
 have t75:=L.t75;have a75:=L.a75;have z75:=L.z75;have v75:=L.v75
 have e181:∀ args w,(callFunc (ρ.f 181) args).run P w=.ok (.enter (ρ.f 181) args) w:=enters_of L.f181 (by kernel_rfl) rfl
 have e251:∀ args w,(callFunc (ρ.f 251) args).run P w=.ok (.enter (ρ.f 251) args) w:=enters_of L.f251 (by kernel_rfl) rfl
 have e290:∀ args w,(callFunc (ρ.f 290) args).run P w=.ok (.enter (ρ.f 290) args) w:=enters_of L.f290 (by kernel_rfl) rfl
 have hnil:∀ W,(binOp .eql (ρ.t 37) (.slice none 0 0) (.slice none 0 0)).run P W=.ok (.bool true) W:=fun W=>Lib.run_eql_slice_nil_nil W _ _ L.t37
 obtain ⟨i0,hi,hz0,hz1,hz2⟩:=info_parts L.i5
 obtain ⟨M,hM⟩:∃ M,M=madeCells (Value.int .u8 0).cells ((64:Int).toNat*i0.size):=⟨_,rfl⟩
 have hMs:M.size=64:=by rw [hM,size_madeCells,hz1];rfl
 have hmk:∀ W:World,(Instr.makeSlice (ρ.t 37) (.int .i64 (n:Int)) (.int .i64 64)).run P W=.ok (.slice (some ⟨W.heap.size,0,none⟩) n 64) (W.alloc (.cells M (ρ.t 5))):=fun W=>by
  have h:=run_makeSlice (P:=P) W (ρ.t 37) (ρ.t 5) i0 (.int .u8 0) L.t37 hi hz0 .i64 .i64 (n:Int) 64 (by omega) (by omega) (by rw [hz1];decide) (by rw [hz2];decide) (by decide)
  rw [<-hM] at h
  simpa using h
 clear hM
 go_enter L.f252,Body.n252_ntmps ρ
 go_wp2_with (go_at_fn (ρ.f 181);refine (Zlm { L with } b none 0 0 _ hbk.c0 hbk.c1 (by unfold maxLen;omega)).mono ?_)
 rintro e W0 ⟨rfl,k,hW0⟩
 have hbk0:LibA.Three W0 b 0 T R (.slice none 0 0) (.int .i64 0) (.int .i8 lr):=by rw [hW0];exact hbk
 have c0:W0.cell? ⟨b,0,none⟩=some (.slice none 0 0):=hbk0.c0
 have c1:W0.cell? ⟨b,1,none⟩=some (.int .i64 0):=hbk0.c1
 have f0:W0.frozen? ⟨b,0,none⟩=false:=hbk0.f 0
 have f1:W0.frozen? ⟨b,1,none⟩=false:=hbk0.f 1
 have hbW0:=hbk0.lt
 have c0a:∀ o,(W0.alloc o).cell? ⟨b,0,none⟩=some (.slice none 0 0):=fun o=>(World.cell?_of_block (a:=⟨b,0,none⟩) (Below.heap_alloc W0 o b hbW0)).trans c0
 have f0a:∀ o,(W0.alloc o).frozen? ⟨b,0,none⟩=false:=fun o=>(World.frozen?_of_block (a:=⟨b,0,none⟩) (Below.heap_alloc W0 o b hbW0)).trans f0
 have HW0:=Lib.hid hW0
 clear hW0
 go_wp2_with (go_at_fn (ρ.f 251);refine (Any.Buffer_tryGrow_none_at { L with } b 0 _ 0 0 n _ c0 (Nat.le_refl _) (Nat.zero_le _) (by omega)).mono ?_;rintro e w' ⟨rfl,rfl⟩)
 go_ret
 have hsz0:w'.heap.size=w.heap.size:=by rw [HW0.out];rfl
 have hg0:w.grownBy w' (some b):=by rw [HW0.out];exact ⟨rfl,rfl,rfl,Nat.le_refl _,fun _ _ _=>rfl⟩
 have hszc:(w'.setCell ⟨b,0,none⟩ (.slice (some ⟨w'.heap.size,0,none⟩) n 64)).heap.size=w'.heap.size:=by simp [World.setCell]
 refine ⟨rfl,64,M,?_,?_,hMs,by simp,by omega,by unfold maxLen;omega,Lib.grownBy_allocR (Lib.grownBy_setB hg0 0 _) _⟩
 ·rw [Nat.zero_add,<-hsz0]
  exact (hbk0.set0 (.slice (some ⟨w'.heap.size,0,none⟩) n 64)).of_heap (Below.heap_alloc _ _ b (by rw [hszc];exact hbW0))
 ·have h:=heap_alloc_new (w'.setCell ⟨b,0,none⟩ (.slice (some ⟨w'.heap.size,0,none⟩) n 64)) (.cells M (ρ.t 5))
  rw [hszc] at h
  rw [<-hsz0]
  exact h
set_option maxRecDepth 100000 in
theorem ZCU (L : LaysM.n252 P ρ) (T : TypeId) (R : Nat -> Option Value) (b : Nat)  (n : Nat) (lr : Int) (w : World)
    (hbk : LibA.Three w b 0 T R (.slice none 0 0) (.int .i64 0) (.int .i8 lr)) (h64 : 64 < n) (hlim : n <= 70368744177664) :
    Calls P (ρ.f 252) #[.pointer (some ⟨b, 0, none⟩), .int .i64 n] w fun e w' => e = .returned (.int .i64 0) /\ ZhM w T R b 0 n [] lr (ρ.t 5) w' := by
  have mixed := L.mixed
  have t5 := L.t5; have a5 := L.a5; have z5 := L.z5; have v5 := L.v5
  have t130 := L.t130; have a130 := L.a130; have z130 := L.z130; have v130 := L.v130
  have t3 := L.t3; have a3 := L.a3; have z3 := L.z3; have v3 := L.v3
  have t4 := L.t4; have a4 := L.a4; have z4 := L.z4; have v4 := L.v4
  have t0 := L.t0; have a0 := L.a0; have z0 := L.z0; have v0 := L.v0
  have t93 := L.t93; have u93 := run_underlying L.t93; have a93 := L.a93; have z93 := L.z93; have v93 := L.v93
  have t131 := L.t131; have a131 := L.a131; have z131 := L.z131; have v131 := L.v131
  have t37 := L.t37; have a37 := L.a37; have z37 := L.z37; have v37 := L.v37
  have t75 := L.t75; have a75 := L.a75; have z75 := L.z75; have v75 := L.v75
  have e181 : ∀ args w, (callFunc (ρ.f 181) args).run P w = .ok (.enter (ρ.f 181) args) w := enters_of L.f181 (by kernel_rfl) rfl
  have e251 : ∀ args w, (callFunc (ρ.f 251) args).run P w = .ok (.enter (ρ.f 251) args) w := enters_of L.f251 (by kernel_rfl) rfl
  have e290 : ∀ args w, (callFunc (ρ.f 290) args).run P w = .ok (.enter (ρ.f 290) args) w := enters_of L.f290 (by kernel_rfl) rfl
  have hnil : ∀ W, (binOp .eql (ρ.t 37) (.slice none 0 0) (.slice none 0 0)).run P W = .ok (.bool true) W := fun W => Lib.run_eql_slice_nil_nil W _ _ L.t37
  have hc2 : 0 <= 140737488355328 := by omega
  have hcm' : 0 <= maxLen := by unfold maxLen; omega
  go_enter L.f252, Body.n252_ntmps ρ
  go_wp2_with (go_at_fn (ρ.f 181); refine (Zlm { L with } b none 0 0 _ hbk.c0 hbk.c1 (by unfold maxLen; omega)).mono ?_)
  rintro e W0 ⟨rfl, k, hW0⟩
  have hbk0 : LibA.Three W0 b 0 T R (.slice none 0 0) (.int .i64 0) (.int .i8 lr) := by rw [hW0]; exact hbk
  have c0 : W0.cell? ⟨b, 0, none⟩ = some (.slice none 0 0) := hbk0.c0
  have c1 : W0.cell? ⟨b, 1, none⟩ = some (.int .i64 0) := hbk0.c1
  have f0 : W0.frozen? ⟨b, 0, none⟩ = false := hbk0.f 0
  have f1 : W0.frozen? ⟨b, 1, none⟩ = false := hbk0.f 1
  have HW0 := Lib.hid hW0
  clear hW0
  go_wp2_with (go_at_fn (ρ.f 251); refine (Any.Buffer_tryGrow_none_at { L with } b 0 _ 0 0 n _ c0 (by omega) hcm' (by omega)).mono ?_; rintro e w' ⟨rfl, rfl⟩)
  have hbW := hbk0.lt
  have hwn : IntKind.i64.wrap (n : Int) = n := by rw [IntKind.wrap_i64]; omega
  go_region_with_o (
      go_at_fn (ρ.f 290)
      refine (ZpS { L with } none 0 0 n [] _ ?_ (by omega) (by omega) (by omega) hc2 ?_ ?_).mono ?_
      . first | exact ho | rfl
      . exact Or.inl rfl
      . first | exact h1 | exact fun v h => by cases h
      rintro e w2 ⟨cap2, cells, rfl, hN, hcsz, htk, hcap2, hcm2, hbel⟩
      have hbk2 : LibA.Three w2 b 0 T R (.slice none 0 0) (.int .i64 0) (.int .i8 lr) := hbk0.of_heap (hbel.block b hbW)
      have d0 : w2.cell? ⟨b, 0, none⟩ = some (.slice none 0 0) := hbk2.c0
      have d1 : w2.cell? ⟨b, 1, none⟩ = some (.int .i64 0) := hbk2.c1
      have e0 : w2.frozen? ⟨b, 0, none⟩ = false := hbk2.f 0
      have e1 : w2.frozen? ⟨b, 1, none⟩ = false := hbk2.f 1)
  all_goals (
    go_wp2
    go_ret
    have hsz0 : w'.heap.size = w.heap.size := by rw [HW0.out]; rfl
    have hg2 : w.grownBy w2 (some b) := Lib.grownBy_below (w := w'.drew) (by rw [HW0.out]; exact ⟨rfl, rfl, rfl, Nat.le_refl _, fun _ _ _ => rfl⟩) hbel
    refine ⟨rfl, cap2, cells, ?_, ?_, hcsz, htk, hcap2, hcm2, Lib.grownBy_setB (Lib.grownBy_setB (Lib.grownBy_setB hg2 0 _) 1 _) 0 _⟩
    . rw [Nat.zero_add, <- hsz0]; exact ZmE hbk2 _ _
    . have hNb : w.heap.size ≠ b := by omega
      rw [Below.heap_setCell _ _ _ _ hNb, Below.heap_setCell _ _ _ _ hNb, Below.heap_setCell _ _ _ _ hNb]
      rw [<- hsz0]; exact hN)
end
end
section
open Go.Shelf Go.RowKit
section
variable {P:Program} {ρ:Ren}
set_option maxRecDepth 100000 in
theorem ZMK (L : LaysM.n252 P ρ) (T : TypeId) (R : Nat -> Option Value) (b : Nat) (x : Addr) (cap : Nat) (n : Nat) (lr : Int) (w : World)
    (hbk : LibA.Three w b 0 T R (.slice (some x) 0 cap) (.int .i64 0) (.int .i8 lr)) (hroom : cap < n) (hlim : n <= 70368744177664) :
    Calls P (ρ.f 252) #[.pointer (some ⟨b, 0, none⟩), .int .i64 n] w fun e w' => e = .returned (.int .i64 0) /\ ZhM w T R b 0 n [] lr (ρ.t 5) w' := by
  have mixed := L.mixed
  have t5 := L.t5; have a5 := L.a5; have z5 := L.z5; have v5 := L.v5
  have t130 := L.t130; have a130 := L.a130; have z130 := L.z130; have v130 := L.v130
  have t3 := L.t3; have a3 := L.a3; have z3 := L.z3; have v3 := L.v3
  have t4 := L.t4; have a4 := L.a4; have z4 := L.z4; have v4 := L.v4
  have t0 := L.t0; have a0 := L.a0; have z0 := L.z0; have v0 := L.v0
  have t93 := L.t93; have u93 := run_underlying L.t93; have a93 := L.a93; have z93 := L.z93; have v93 := L.v93
  have t131 := L.t131; have a131 := L.a131; have z131 := L.z131; have v131 := L.v131
  have t37 := L.t37; have a37 := L.a37; have z37 := L.z37; have v37 := L.v37
  have t75 := L.t75; have a75 := L.a75; have z75 := L.z75; have v75 := L.v75
  have e181 : ∀ args w, (callFunc (ρ.f 181) args).run P w = .ok (.enter (ρ.f 181) args) w := enters_of L.f181 (by kernel_rfl) rfl
  have e251 : ∀ args w, (callFunc (ρ.f 251) args).run P w = .ok (.enter (ρ.f 251) args) w := enters_of L.f251 (by kernel_rfl) rfl
  have e290 : ∀ args w, (callFunc (ρ.f 290) args).run P w = .ok (.enter (ρ.f 290) args) w := enters_of L.f290 (by kernel_rfl) rfl
  have hnil : ∀ W, (binOp .eql (ρ.t 37) (.slice (some x) 0 cap) (.slice none 0 0)).run P W = .ok (.bool false) W := fun W => Lib.run_eql_slice_some_nil W _ _ _ L.t37
  have hc2 : cap <= 140737488355328 := by omega
  have hcm' : cap <= maxLen := by unfold maxLen; omega
  go_enter L.f252, Body.n252_ntmps ρ
  go_wp2_with (go_at_fn (ρ.f 181); refine (Zlm { L with } b (some x) 0 cap _ hbk.c0 hbk.c1 (by unfold maxLen; omega)).mono ?_)
  rintro e W0 ⟨rfl, k, hW0⟩
  have hbk0 : LibA.Three W0 b 0 T R (.slice (some x) 0 cap) (.int .i64 0) (.int .i8 lr) := by rw [hW0]; exact hbk
  have c0 : W0.cell? ⟨b, 0, none⟩ = some (.slice (some x) 0 cap) := hbk0.c0
  have c1 : W0.cell? ⟨b, 1, none⟩ = some (.int .i64 0) := hbk0.c1
  have f0 : W0.frozen? ⟨b, 0, none⟩ = false := hbk0.f 0
  have f1 : W0.frozen? ⟨b, 1, none⟩ = false := hbk0.f 1
  have HW0 := Lib.hid hW0
  clear hW0
  go_wp2_with (go_at_fn (ρ.f 251); refine (Any.Buffer_tryGrow_none_at { L with } b 0 _ 0 cap n _ c0 (by omega) hcm' (by omega)).mono ?_; rintro e w' ⟨rfl, rfl⟩)
  have hbW := hbk0.lt
  have hwn : IntKind.i64.wrap (n : Int) = n := by rw [IntKind.wrap_i64]; omega
  go_region_with_o (
      go_at_fn (ρ.f 290)
      refine (ZpS { L with } (some x) 0 cap n [] _ ?_ (by omega) (by omega) (by omega) hc2 ?_ ?_).mono ?_
      . first | exact ho | rfl
      . exact Or.inl rfl
      . first | exact h1 | exact fun v h => by cases h
      rintro e w2 ⟨cap2, cells, rfl, hN, hcsz, htk, hcap2, hcm2, hbel⟩
      have hbk2 : LibA.Three w2 b 0 T R (.slice (some x) 0 cap) (.int .i64 0) (.int .i8 lr) := hbk0.of_heap (hbel.block b hbW)
      have d0 : w2.cell? ⟨b, 0, none⟩ = some (.slice (some x) 0 cap) := hbk2.c0
      have d1 : w2.cell? ⟨b, 1, none⟩ = some (.int .i64 0) := hbk2.c1
      have e0 : w2.frozen? ⟨b, 0, none⟩ = false := hbk2.f 0
      have e1 : w2.frozen? ⟨b, 1, none⟩ = false := hbk2.f 1)
  all_goals (
    go_wp2
    go_ret
    have hsz0 : w'.heap.size = w.heap.size := by rw [HW0.out]; rfl
    have hg2 : w.grownBy w2 (some b) := Lib.grownBy_below (w := w'.drew) (by rw [HW0.out]; exact ⟨rfl, rfl, rfl, Nat.le_refl _, fun _ _ _ => rfl⟩) hbel
    refine ⟨rfl, cap2, cells, ?_, ?_, hcsz, htk, hcap2, hcm2, Lib.grownBy_setB (Lib.grownBy_setB (Lib.grownBy_setB hg2 0 _) 1 _) 0 _⟩
    . rw [Nat.zero_add, <- hsz0]; exact ZmE hbk2 _ _
    . have hNb : w.heap.size ≠ b := by omega
      rw [Below.heap_setCell _ _ _ _ hNb, Below.heap_setCell _ _ _ _ hNb, Below.heap_setCell _ _ _ _ hNb]
      rw [<- hsz0]; exact hN)
end
end
section
open Go.Shelf Go.RowKit
section
variable {P:Program} {ρ:Ren}
set_option maxRecDepth 100000 in
theorem ZAU (L : LaysM.n252 P ρ) (T : TypeId) (R : Nat -> Option Value) (b : Nat) (x : Addr) (l cap : Nat) (olds : List Value) (n : Nat) (lr : Int) (w : World)
    (hbk : LibA.Three w b 0 T R (.slice (some x) l cap) (.int .i64 0) (.int .i8 lr)) (hl0 : l ≠ 0) (ho : olds.length = l) (h1 : ∀ v ∈ olds, v.oneCell' = true) (hlc : l <= cap) (hroom : cap - l < n) (hlim : l + n <= 70368744177664)
    (hold : l = 0 \/ ∃ a, some x = some a /\ ∀ j v, (olds)[j]? = some v -> w.cell? (a.add j) = some v)  :
    Calls P (ρ.f 252) #[.pointer (some ⟨b, 0, none⟩), .int .i64 n] w fun e w' => e = .returned (.int .i64 l) /\ ZhM w T R b l n olds lr (ρ.t 5) w' := by
  have mixed := L.mixed
  have t5 := L.t5; have a5 := L.a5; have z5 := L.z5; have v5 := L.v5
  have t130 := L.t130; have a130 := L.a130; have z130 := L.z130; have v130 := L.v130
  have t3 := L.t3; have a3 := L.a3; have z3 := L.z3; have v3 := L.v3
  have t4 := L.t4; have a4 := L.a4; have z4 := L.z4; have v4 := L.v4
  have t0 := L.t0; have a0 := L.a0; have z0 := L.z0; have v0 := L.v0
  have t93 := L.t93; have u93 := run_underlying L.t93; have a93 := L.a93; have z93 := L.z93; have v93 := L.v93
  have t131 := L.t131; have a131 := L.a131; have z131 := L.z131; have v131 := L.v131
  have t37 := L.t37; have a37 := L.a37; have z37 := L.z37; have v37 := L.v37
  have t75 := L.t75; have a75 := L.a75; have z75 := L.z75; have v75 := L.v75
  have e181 : ∀ args w, (callFunc (ρ.f 181) args).run P w = .ok (.enter (ρ.f 181) args) w := enters_of L.f181 (by kernel_rfl) rfl
  have e251 : ∀ args w, (callFunc (ρ.f 251) args).run P w = .ok (.enter (ρ.f 251) args) w := enters_of L.f251 (by kernel_rfl) rfl
  have e290 : ∀ args w, (callFunc (ρ.f 290) args).run P w = .ok (.enter (ρ.f 290) args) w := enters_of L.f290 (by kernel_rfl) rfl
  have hnil : ∀ W, (binOp .eql (ρ.t 37) (.slice (some x) l cap) (.slice none 0 0)).run P W = .ok (.bool false) W := fun W => Lib.run_eql_slice_some_nil W _ _ _ L.t37
  have hc2 : cap <= 140737488355328 := by omega
  have hcm' : cap <= maxLen := by unfold maxLen; omega
  go_enter L.f252, Body.n252_ntmps ρ
  go_wp2_with (go_at_fn (ρ.f 181); refine (Zlm { L with } b (some x) l cap _ hbk.c0 hbk.c1 (by unfold maxLen; omega)).mono ?_)
  rintro e W0 ⟨rfl, k, hW0⟩
  have hbk0 : LibA.Three W0 b 0 T R (.slice (some x) l cap) (.int .i64 0) (.int .i8 lr) := by rw [hW0]; exact hbk
  have c0 : W0.cell? ⟨b, 0, none⟩ = some (.slice (some x) l cap) := hbk0.c0
  have c1 : W0.cell? ⟨b, 1, none⟩ = some (.int .i64 0) := hbk0.c1
  have f0 : W0.frozen? ⟨b, 0, none⟩ = false := hbk0.f 0
  have f1 : W0.frozen? ⟨b, 1, none⟩ = false := hbk0.f 1
  have hold0 : l = 0 \/ ∃ a, some x = some a /\ ∀ j v, (olds)[j]? = some v -> W0.cell? (a.add j) = some v := by rw [hW0]; exact hold
  have HW0 := Lib.hid hW0
  clear hW0 hold
  go_wp2_with (go_at_fn (ρ.f 251); refine (Any.Buffer_tryGrow_none_at { L with } b 0 _ l cap n _ c0 (by omega) hcm' (by omega)).mono ?_; rintro e w' ⟨rfl, rfl⟩)
  have hbW := hbk0.lt
  have hwn : IntKind.i64.wrap (n : Int) = n := by rw [IntKind.wrap_i64]; omega
  go_region_with_o (
      go_at_fn (ρ.f 290)
      refine (ZpS { L with } (some x) l cap n olds _ ?_ (by omega) (by omega) (by omega) hc2 ?_ ?_).mono ?_
      . first | exact ho | rfl
      . exact hold0
      . first | exact h1 | exact fun v h => by cases h
      rintro e w2 ⟨cap2, cells, rfl, hN, hcsz, htk, hcap2, hcm2, hbel⟩
      have hbk2 : LibA.Three w2 b 0 T R (.slice (some x) l cap) (.int .i64 0) (.int .i8 lr) := hbk0.of_heap (hbel.block b hbW)
      have d0 : w2.cell? ⟨b, 0, none⟩ = some (.slice (some x) l cap) := hbk2.c0
      have d1 : w2.cell? ⟨b, 1, none⟩ = some (.int .i64 0) := hbk2.c1
      have e0 : w2.frozen? ⟨b, 0, none⟩ = false := hbk2.f 0
      have e1 : w2.frozen? ⟨b, 1, none⟩ = false := hbk2.f 1)
  all_goals (
    go_wp2
    go_ret
    have hsz0 : w'.heap.size = w.heap.size := by rw [HW0.out]; rfl
    have hg2 : w.grownBy w2 (some b) := Lib.grownBy_below (w := w'.drew) (by rw [HW0.out]; exact ⟨rfl, rfl, rfl, Nat.le_refl _, fun _ _ _ => rfl⟩) hbel
    refine ⟨rfl, cap2, cells, ?_, ?_, hcsz, htk, hcap2, hcm2, Lib.grownBy_setB (Lib.grownBy_setB (Lib.grownBy_setB hg2 0 _) 1 _) 0 _⟩
    . rw [<- hsz0]; exact ZmE hbk2 _ _
    . have hNb : w.heap.size ≠ b := by omega
      rw [Below.heap_setCell _ _ _ _ hNb, Below.heap_setCell _ _ _ _ hNb, Below.heap_setCell _ _ _ _ hNb]
      rw [<- hsz0]; exact hN)
end
end
section
open Go.Shelf Go.RowKit
section
variable {P:Program} {ρ:Ren}
def BufRow (w:World) (b:Nat) (A:Option Addr) (l cap:Nat) (olds:List Value):Prop :=
 olds.length=l/\l<=cap/\cap<=maxLen/\(∀ v ∈ olds,v.oneCell'=true)/\(cap=0\/∃ g cur t,A=some ⟨g,0,none⟩/\g≠b/\w.heap[g]?=some (.cells cur t (0,0))/\cur.size=cap/\cur.toList.take l=olds)
theorem BufRow.hold {w:World} {b:Nat} {A:Option Addr} {l cap:Nat} {olds:List Value} (h:BufRow w b A l cap olds):l=0\/∃ a,A=some a/\∀ j v,olds[j]?=some v->w.cell? (a.add j)=some v:=by
 obtain ⟨h1,h2,h3,h4,h5 | ⟨g,cur,t,h5,h6,h7,h8,h9⟩⟩:=h
 ·exact Or.inl (by omega)
 ·exact Or.inr ⟨_,h5,by rw [<-h9];exact Lib.cells_of_row h7 l⟩
theorem ZzH (L:LaysM.n252 P ρ) (T:TypeId) (R:Nat->Option Value) (b:Nat) (A:Option Addr) (l cap:Nat) (olds:List Value) (n:Nat) (lr:Int) (w:World)
  (hbk:LibA.Three w b 0 T R (.slice A l cap) (.int .i64 0) (.int .i8 lr)) (hr:BufRow w b A l cap olds) (hA:A=none->cap=0) (hroom:cap - l < n) (hlim:l+n<=70368744177664) :
  Calls P (ρ.f 252) #[.pointer (some ⟨b,0,none⟩),.int .i64 n] w fun e w'=>e=.returned (.int .i64 l)/\ZhM w T R b l n olds lr (ρ.t 5) w':=by
 have hold:=hr.hold
 obtain ⟨h1,h2,h3,h4,h5⟩:=hr
 cases A with
 | none =>
  have hc:=hA rfl
  subst hc
  have hl0:l=0:=by omega
  subst hl0
  have ho:olds=[]:=List.eq_nil_of_length_eq_zero h1
  subst ho
  by_cases h64:n<=64
  ·exact ZGW L T R b n lr w hbk (by omega) h64
  ·exact ZCU L T R b n lr w hbk (by omega) (by omega)
 | some x =>
  by_cases hl0:l=0
  ·subst hl0
   have ho:olds=[]:=List.eq_nil_of_length_eq_zero h1
   subst ho
   exact ZMK L T R b x cap n lr w hbk (by omega) (by omega)
  ·exact ZAU L T R b x l cap olds n lr w hbk hl0 h1 h4 h2 hroom hlim hold
def Zt6 (w:World) (T:TypeId) (R:Nat->Option Value) (b:Nat) (A:Option Addr) (l n cap:Nat) (all:List Value) (w':World):Prop :=
 ∃ A' cap',LibA.Three w' b 0 T R (.slice A' (l+n) cap') (.int .i64 0) (.int .i8 0)/\l+n<=cap'/\cap'<=maxLen /\
  ((n=0/\A'=A/\cap'=cap/\w.grownBy w' (some b)) \/
   ∃ G W1 Y t,A'=some ⟨G,0,none⟩/\(G=w.heap.size\/(A=some ⟨G,0,none⟩/\cap≠0))/\G≠b/\w.grownBy W1 (some b)/\W1.grownBy w' (some G)/\w'.heap[G]?=some (.cells Y t (0,0))/\Y.size=cap'/\Y.toList.take (l+n)=all)
set_option maxRecDepth 100000 in
theorem ZDD (L:LaysM.n180 P ρ) (T:TypeId) (R:Nat->Option Value) (b:Nat) (A:Option Addr) (l cap:Nat) (lr:Int) (olds news:List Value) (pa:Option Addr) (n pc:Nat) (w:World)
  (hbk:LibA.Three w b 0 T R (.slice A l cap) (.int .i64 0) (.int .i8 lr)) (hr:BufRow w b A l cap olds) (hA:A=none->cap=0) (hnews:news.length=n) (h1c:∀ v ∈ news,v.oneCell'=true)
  (hsrc:n=0\/∃ a,pa=some a/\a.block≠b/\∀ j v,news[j]?=some v->w.cell? (a.add j)=some v) (hlim:l+n<=70368744177664) :
  Calls P (ρ.f 180) #[.pointer (some ⟨b,0,none⟩),.slice pa n pc] w fun e w'=>e=.returned (.tuple #[.int .i64 n,.nilIface])/\Zt6 w T R b A l n cap (olds++news) w':=by
 have mixed:=L.mixed
 have t5:=L.t5;have a5:=L.a5;have z5:=L.z5;have v5:=L.v5
 have t130:=L.t130;have a130:=L.a130;have z130:=L.z130;have v130:=L.v130
 have t37:=L.t37;have a37:=L.a37;have z37:=L.z37;have v37:=L.v37
 have t3:=L.t3;have a3:=L.a3;have z3:=L.z3;have v3:=L.v3
 have t75:=L.t75;have a75:=L.a75;have z75:=L.z75;have v75:=L.v75
 have t0:=L.t0;have a0:=L.a0;have z0:=L.z0;have v0:=L.v0
 have t93:=L.t93;have u93:=run_underlying L.t93;have a93:=L.a93;have z93:=L.z93;have v93:=L.v93
 have t91:=L.t91;have a91:=L.a91;have z91:=L.z91;have v91:=L.v91
 have t131:=L.t131;have a131:=L.a131;have z131:=L.z131;have v131:=L.v131
 have t4:=L.t4;have a4:=L.a4;have z4:=L.z4;have v4:=L.v4
 have e251:∀ args w,(callFunc (ρ.f 251) args).run P w=.ok (.enter (ρ.f 251) args) w:=enters_of L.f251 (by kernel_rfl) rfl
 have e252:∀ args w,(callFunc (ρ.f 252) args).run P w=.ok (.enter (ρ.f 252) args) w:=enters_of L.f252 (by kernel_rfl) rfl
 have c2:w.cell? ⟨b,2,none⟩=some (.int .i8 lr):=hbk.c2
 have f2:w.frozen? ⟨b,2,none⟩=false:=hbk.f 2
 have hinfo:(P.info? (ρ.t 5)).map (·.size)=some 1:=by
  obtain ⟨i0,hi,-,hz1,-⟩:=info_parts L.i5
  rw [hi];simp [hz1]
 obtain ⟨ho,hlc,hcm,h1,hrow⟩:=id hr
 have hbkA:LibA.Three (w.setCell ⟨b,2,none⟩ (.int .i8 0)) b 0 T R (.slice A l cap) (.int .i64 0) (.int .i8 0):=hbk.set2 _
 have hgA:w.grownBy (w.setCell ⟨b,2,none⟩ (.int .i8 0)) (some b):=Lib.grownBy_setCell w b 2 _
 have hszA:(w.setCell ⟨b,2,none⟩ (.int .i8 0)).heap.size=w.heap.size:=by simp [World.setCell]
 have hrA:BufRow (w.setCell ⟨b,2,none⟩ (.int .i8 0)) b A l cap olds:=⟨ho,hlc,hcm,h1,hrow.imp id fun ⟨g,cur,t,e,hgb,hg,r⟩=>⟨g,cur,t,e,hgb,(Below.heap_setCell _ _ _ _ hgb).trans hg,r⟩⟩
 by_cases hroom:n<=cap - l
 ·by_cases hs0:n=0
  ·
   subst hs0
   have hc0:news=[]:=List.eq_nil_of_length_eq_zero hnews
   subst hc0
   have hce:∀ d dLen dCap W,(Builtin.copy_ #[(ρ.t 37),(ρ.t 37)] (ρ.t 3) #[.slice d dLen dCap,.slice pa 0 pc]).run P W=.ok (goInt 0) W:=fun d dLen dCap W=>run_copy_none W (ρ.t 37) (ρ.t 37) (ρ.t 3) (ρ.t 5) d pa dLen dCap 0 pc L.t37 hinfo (by simp)
   have hT:∀ W,W.cell? ⟨b,0,none⟩=some (.slice A l cap)->W.frozen? ⟨b,0,none⟩=false->Calls P (ρ.f 251) #[.pointer (some ⟨b,0,none⟩),.int .i64 0] W (fun e w'=>e=.returned (.tuple #[.int .i64 l,.bool true])/\w'=W.setCell ⟨b,0,none⟩ (.slice A l cap)):=fun W q1 q2=>Any.Buffer_tryGrow_room_at { L with } b 0 A l cap 0 W q1 q2 hlc hcm (Nat.zero_le _)
   clear hsrc hroom hlim
   go_enter L.f180,Body.n180_ntmps ρ
   go_wp2_with (go_at_fn (ρ.f 251);refine (hT _ ?_ ?_).mono ?_)
   ·exact hbkA.c0
   ·exact hbkA.f 0
   rintro e W1 ⟨rfl,hW1⟩
   have hbk1:LibA.Three W1 b 0 T R (.slice A l cap) (.int .i64 0) (.int .i8 0):=by rw [hW1];exact hbkA.set0 _
   have hgW:w.grownBy W1 (some b):=by rw [hW1];exact Lib.grownBy_setB hgA 0 _
   clear hW1 hbkA hgA hszA hrA c2 f2 hT
   have d0:W1.cell? ⟨b,0,none⟩=some (.slice A l cap):=hbk1.c0
   have hcm':=hcm
   unfold maxLen at hcm'
   have hfin:Zt6 w T R b A l 0 cap (olds++[]) W1:=⟨A,cap,hbk1,hlc,hcm,Or.inl ⟨rfl,rfl,rfl,hgW⟩⟩
   clear hrow hr
   cases A
   all_goals (go_wp2;all_goals (go_ret2;first | exact ⟨rfl,hfin⟩ | exact ⟨by simp,by simpa using hfin⟩ | (refine ⟨by simp,?_⟩;have hcl:l=cap:=(by omega);simpa [hcl] using hfin)))
  ·
   go_enter L.f180,Body.n180_ntmps ρ
   go_wp2_with (go_at_fn (ρ.f 251);refine (Any.Buffer_tryGrow_room_at { L with } b 0 A l cap n _ ?_ ?_ hlc hcm hroom).mono ?_)
   ·exact hbkA.c0
   ·exact hbkA.f 0
   rintro e W1 ⟨rfl,hW1⟩
   obtain ⟨G,cap',cur,t,hbk1,hG,hcs,htk,hlc',hcm',hGb,hGw,hgW⟩:∃ G cap' cur t,LibA.Three W1 b 0 T R (.slice (some ⟨G,0,none⟩) (l+n) cap') (.int .i64 0) (.int .i8 0)/\W1.heap[G]?=some (.cells cur t (0,0))/\cur.size=cap'/\cur.toList.take l=olds/\l+n<=cap'/\cap'<=maxLen/\G≠b/\(G=w.heap.size\/(A=some ⟨G,0,none⟩/\cap≠0))/\w.grownBy W1 (some b):=by
    obtain hc | ⟨g,cur,t,e,hgb,hg,hcs,htk⟩:=hrow
    ·omega
    ·refine ⟨g,cap,cur,t,?_,?_,hcs,htk,by omega,hcm,hgb,Or.inr ⟨e,by omega⟩,?_⟩
     ·rw [hW1,e];rw [e] at hbkA;exact hbkA.set0 _
     ·rw [hW1,Below.heap_setCell _ _ _ _ hgb,Below.heap_setCell _ _ _ _ hgb];exact hg
     ·rw [hW1];exact Lib.grownBy_setB hgA 0 _
   clear hW1 hbkA hgA hszA hrA c2 f2 hrow
   have d0:W1.cell? ⟨b,0,none⟩=some (.slice (some ⟨G,0,none⟩) (l+n) cap'):=hbk1.c0
   have hne:¬cap'=l:=by omega
   have hsrc1:n=0\/∃ a,pa=some a/\∀ j v,news[j]?=some v->W1.cell? (a.add j)=some v:=hsrc.imp id fun ⟨a,e,hab,h⟩=>⟨a,e,fun j v hj=>hgW.cell (h j v hj) (by rw [Lib.block_add];exact fun e=>hab (Option.some.inj e))⟩
   obtain ⟨W2,Y,hcp,hY,hYl,hgb,hsz⟩:=ZkL (P:=P) W1 (ρ.t 37) (ρ.t 37) (ρ.t 3) (ρ.t 5) G l n (cap' - l) pa n pc cur t news L.t37 hinfo hG hnews (Nat.le_refl _) hsrc1 (by omega) h1c
   have hYs:Y.size=cap':=by
    have h3:=congrArg List.length hYl
    simp only [List.length_append,List.length_drop,List.length_take,Array.length_toList] at h3
    omega
   have hYt:Y.toList.take (l+n)=olds++news:=by
    rw [hYl,htk,List.take_append_of_le_length (by simp;omega),List.take_of_length_le (by simp;omega)]
   have hW2:LibA.Three W2 b 0 T R (.slice (some ⟨G,0,none⟩) (l+n) cap') (.int .i64 0) (.int .i8 0):=hbk1.of_heap (hgb.block b hbk1.lt (fun e=>hGb (Option.some.inj e).symm))
   have hcm2:=hcm'
   unfold maxLen at hcm2
   have hgb0:=hgb
   have hYr:=hY
   clear hsrc hsrc1 hr hA
   go_wp2
   go_ret2
   exact ⟨rfl,_,_,hW2,hlc',hcm',Or.inr ⟨G,W1,Y,t,rfl,hGw,hGb,hgW,hgb0,hYr,hYs,hYt⟩⟩
 ·
  go_enter L.f180,Body.n180_ntmps ρ
  go_wp2_with (go_at_fn (ρ.f 251);refine (Any.Buffer_tryGrow_none_at { L with } b 0 A l cap n _ ?_ hlc hcm (by omega)).mono ?_)
  ·exact hbkA.c0
  rintro e W0 ⟨rfl,hW0⟩
  rw [<-hW0] at hbkA hgA hszA hrA
  clear hW0 c2 f2
  have hroom':cap - l < n:=by omega
  go_wp2_with (go_at_fn (ρ.f 252);refine (ZzH { L with } T R b A l cap olds n 0 _ ?_ ?_ hA hroom' hlim).mono ?_)
  ·exact hbkA
  ·exact hrA
  rintro e W1 ⟨rfl,cap',cur,hbk1,hG,hcs,htk,hlc',hcm',hgB⟩
  obtain ⟨G,hGe⟩:∃ G,G=w.heap.size:=⟨_,rfl⟩
  rw [hszA,<-hGe] at hbk1 hG
  have hGw:G=w.heap.size\/(A=some ⟨G,0,none⟩/\cap≠0):=Or.inl hGe
  have hGb:G≠b:=by have:=hbk.lt;omega
  have hgW:w.grownBy W1 (some b):=Lib.grownBy_trans hgA hgB
  obtain ⟨t,ht⟩:∃ t,t=ρ.t 5:=⟨_,rfl⟩
  rw [<-ht] at hG
  clear hbkA hgA hszA hrA hgB hGe hrow hroom
  have d0:W1.cell? ⟨b,0,none⟩=some (.slice (some ⟨G,0,none⟩) (l+n) cap'):=hbk1.c0
  have hne:¬cap'=l:=by omega
  have hsrc1:n=0\/∃ a,pa=some a/\∀ j v,news[j]?=some v->W1.cell? (a.add j)=some v:=hsrc.imp id fun ⟨a,e,hab,h⟩=>⟨a,e,fun j v hj=>hgW.cell (h j v hj) (by rw [Lib.block_add];exact fun e=>hab (Option.some.inj e))⟩
  obtain ⟨W2,Y,hcp,hY,hYl,hgb,hsz⟩:=ZkL (P:=P) W1 (ρ.t 37) (ρ.t 37) (ρ.t 3) (ρ.t 5) G l n (cap' - l) pa n pc cur t news L.t37 hinfo hG hnews (Nat.le_refl _) hsrc1 (by omega) h1c
  have hYs:Y.size=cap':=by
   have h3:=congrArg List.length hYl
   simp only [List.length_append,List.length_drop,List.length_take,Array.length_toList] at h3
   omega
  have hYt:Y.toList.take (l+n)=olds++news:=by
   rw [hYl,htk,List.take_append_of_le_length (by simp;omega),List.take_of_length_le (by simp;omega)]
  have hW2:LibA.Three W2 b 0 T R (.slice (some ⟨G,0,none⟩) (l+n) cap') (.int .i64 0) (.int .i8 0):=hbk1.of_heap (hgb.block b hbk1.lt (fun e=>hGb (Option.some.inj e).symm))
  have hcm2:=hcm'
  unfold maxLen at hcm2
  have hgb0:=hgb
  have hYr:=hY
  clear hsrc hsrc1 hr hA
  go_wp2
  go_ret2
  exact ⟨rfl,_,_,hW2,hlc',hcm',Or.inr ⟨G,W1,Y,t,rfl,hGw,hGb,hgW,hgb0,hYr,hYs,hYt⟩⟩
end
end
section
open Go.Shelf Go.RowKit
section
variable {P:Program} {ρ:Ren} {base:Nat->Prop} {w0 w w':World} {I0 I:Imm} {β:Bmap} {σ:Za}
theorem ZKV {b:Nat} {ty:TypeId} {x y z:Value} (h:LibA.Three w b 0 ty (fun _=>none) x y z):w.heap[b]?=some (.cells #[x,y,z] ty (0,0)):=by
 obtain ⟨cs,hb,h0,h1,h2,hr⟩:=h
 rw [hb]
 have : cs=#[x,y,z]:=by
  apply Array.ext_getElem?
  intro i
  match i with
  | 0=>exact h0
  | 1=>exact h1
  | 2=>exact h2
  | i+3=>rw [hr (i+3) (Or.inr (by omega))];exact (Array.getElem?_eq_none (by simp)).symm
 rw [this]
theorem ZF1 {k:Nat} {y:AVal} {ys:List AVal} {b off:Nat} (h:LR I β k (y::ys) b off) (hk:0 < k):∃ u,I b off=some u:=by
 rw [ZgA] at h
 obtain ⟨⟨h1,h2⟩,_⟩:=h
 cases hc:y.cells with
 | nil=>rw [hc] at h1;simp at h1;omega
 | cons c cs =>
  rw [hc] at h2
  simp only [CR] at h2
  obtain ⟨⟨u,hu,_⟩,_⟩:=h2
  exact ⟨u,hu⟩
theorem ZEe (R:Rel base w0 I0 I β σ w) {b:Nat} (hb:∀ o,I b o=none) {y:Bool} {ys:List AVal} {v:Value} (hv:VR I β (.lst y ys) v) (hk:kOk 1 ys=true) :
  ∃ A cap news,v=.slice A ys.length cap/\news.length=ys.length/\VRs I β (ys.flatMap AVal.cells) news/\Zab ys=true/\(∀ x ∈ ys,x.cells.length=1)/\(∀ v ∈ news,v.oneCell'=true) /\
   (ys.length=0\/∃ a,A=some a/\a.block≠b/\∀ j v,news[j]?=some v->w.cell? (a.add j)=some v):=by
 have hv0:=hv
 obtain ⟨A,cap,e,_,_,htree,hc⟩:=ZlC R hv
 by_cases hne:ys=[]
 ·subst hne
  exact ⟨A,cap,[],e,rfl,by simp [VRs],rfl,by simp,by simp,Or.inl rfl⟩
 ·rcases hc with hc | ⟨b',off,k,us,hA,hk0,hl,hvs,hcell⟩
  ·exact absurd hc hne
  have e1:=ZlL hk hl hne
  subst e1
  refine ⟨A,cap,us,e,by rw [<-ZaO hvs,ZdJ hl,Nat.mul_one],hvs,htree,hl,Zf8 (fun z hz=>ZiB (ZcK.1 (Zkv htree) z hz)) hvs,Or.inr ⟨⟨b',off,none⟩,hA,?_,fun j v hj=>by rw [Addr.add_mid];exact hcell j v hj⟩⟩
  rintro rfl
  simp only [VR] at hv0
  obtain ⟨A',cap',e',_,_,_,h5,_⟩:=hv0
  rcases h5 with h5 | ⟨b2,off2,k2,e2,hk2,h5⟩
  ·exact hne h5
  ·rw [e] at e'
   injection e' with e' _ _
   rw [e'] at hA
   rw [hA] at e2
   injection e2 with e2
   injection e2 with e2 e3
   cases ys with
   | nil=>exact hne rfl
   | cons z zs =>
    obtain ⟨u,hu⟩:=ZF1 h5 hk2
    rw [<-e2,hb] at hu;cases hu
theorem Zqg (L : LaysM.n180 P ρ) (hb : KLt base w0) {c0 : AVal} {lr : Int} {g : Nat} {xs : List AVal} (R : Rel base w0 I0 I β [.var [c0, .int .i64 0, .int .i8 lr], .row g 1 xs] w)
    {bi : BI} (hbi : β 1 g = some bi) {b kk cc : Nat} (hβ0 : β 0 0 = some ⟨some b, kk, cc⟩) {A : Option Addr} {cap : Nat} {ty : TypeId}
    (hheap : w.heap[b]? = some (.cells #[.slice A xs.length cap, .int .i64 0, .int .i8 lr] ty (0, 0)))
    (hA : (∃ gb, bi.b = some gb /\ A = some ⟨gb, 0, none⟩ /\ cap = bi.cap) \/ (bi.b = none /\ cap = 0 /\ bi.cap = 0))
    {y : Bool} {ys : List AVal} {v1 : Value} (hv1 : VR I β (.lst y ys) v1) (hlim : xs.length + ys.length <= ZbN) (hk : kOk 1 ys = true) :
    Calls P (ρ.f 180) #[.pointer (some ⟨b, 0, none⟩), v1] w (fun e w' => ∃ u, Ends (.tup [.int .i64 ys.length, .nili]) e u /\ ∃ β', β.le β' /\
      Rel base w0 I0 I β' [.var [.sl 1 (g + 1) 0 (xs ++ ys).length, .int .i64 0, .int .i8 0], .row (g + 1) 1 (xs ++ ys)] w' /\ VR I β' (.tup [.int .i64 ys.length, .nili]) u) := by
  have hbw := R.base_le hb
  have how : Zz β 0 (.var [c0, .int .i64 0, .int .i8 lr]) = some b := by simp only [Zz, hβ0, Option.bind_some]
  have hob := R.own 0 _ b rfl how
  obtain ⟨bi', hbi', hk1, _, hcap63, hxl, htree, hlens, hrow⟩ := R.blk 1 (.row g 1 xs) rfl
  rw [hbi] at hbi'; injection hbi' with hbi'; subst hbi'
  have hor : Zz β 1 (.row g 1 xs) = bi.b := by simp only [Zz, hbi, Option.bind_some]
  obtain ⟨olds, hBR, hvo, hA0⟩ : ∃ olds, BufRow w b A xs.length cap olds /\ VRs I β (xs.flatMap AVal.cells) olds /\ (A = none -> cap = 0) := by
    rcases hA with ⟨gb, e1, e2, e3⟩ | ⟨e1, e2, e3⟩
    . rcases hrow with ⟨h1, h2⟩ | ⟨gb', us, ty', h1, h2, h3, h4⟩
      . rw [e1] at h1; cases h1
      . rw [e1] at h1; injection h1 with h1; subst h1
        rw [Nat.mul_one] at h3 h4
        have hgb : gb ≠ b := by
          rintro rfl
          have := R.apart 0 _ 1 _ gb rfl rfl how (by rw [hor, e1])
          omega
        refine ⟨us.toList.take xs.length, ⟨by have h9 : us.toList.length = us.size := us.length_toList; rw [List.length_take]; omega, by omega, by unfold maxLen; omega, Zf8 (fun z hz => ZiB (ZcK.1 (Zkv htree) z hz)) h4, Or.inr ⟨gb, us, ty', e2, hgb, h2, by omega, rfl⟩⟩, h4, by rw [e2]; intro h; cases h⟩
    . have hx : xs = [] := List.eq_nil_of_length_eq_zero (by omega)
      subst hx
      exact ⟨[], ⟨rfl, by simp, by unfold maxLen; omega, by simp, Or.inl e2⟩, by simp [VRs], fun _ => e2⟩
  obtain ⟨A1, cap1, news, rfl, hnl, hvn, htn, hln, hn1, hsrc⟩ := ZEe R hob.2 hv1 hk
  refine (ZDD L ty (fun _ => none) b A xs.length cap lr olds news A1 ys.length cap1 w (LibA.three_whole hheap) hBR hA0 hnl hn1 hsrc (by unfold ZbN at hlim; omega)).mono ?_
  rintro e w' ⟨rfl, A', cap', hT, hle, hcm, hcase⟩
  refine ⟨_, rfl, ?_⟩
  have hT' := ZKV hT
  unfold maxLen at hcm
  obtain ⟨w1, hw1⟩ : ∃ w1 : World, w1 = { w with heap := w.heap.setIfInBounds b (.cells #[.slice A' (xs.length + ys.length) cap', .int .i64 0, .int .i8 0] ty (0, 0)) } := ⟨_, rfl⟩
  have hbl : b < w.heap.size := Lib.lt_of_heap hheap
  have h1b : w1.heap[b]? = w'.heap[b]? := by rw [hw1, hT']; simp [hbl]
  have h1o : ∀ k, k ≠ b -> w1.heap[k]? = w.heap[k]? := fun k hk => by rw [hw1]; exact Array.getElem?_setIfInBounds_ne (fun e => hk e.symm)
  have h1s : w1.heap.size = w.heap.size := by rw [hw1]; simp
  have R1 : Rel base w0 I0 I β [.var [.top, .int .i64 0, .int .i8 0], .row g 1 xs] w1 := by
    have := R.putObj (t := 0) (x' := .var [.top, .int .i64 0, .int .i8 0]) rfl how (by simp only [Zz, hβ0, Option.bind_some]) (.cells #[.slice A' (xs.length + ys.length) cap', .int .i64 0, .int .i8 0] ty (0, 0))
      ⟨b, kk, cc, _, ty, hβ0, by simp [hbl]; rfl, by simp [VRs, VR]⟩ rfl
    rw [hw1]; exact this
  obtain ⟨bi2, hB, keep, hbi2, hblk, hv2⟩ : ∃ bi2 : BI, KB base w1 w' /\ (∀ b', Zz β 1 (.row g 1 xs) ≠ some b' -> b' < w1.heap.size -> w'.heap[b']? = w1.heap[b']?) /\ (bi2.b = none \/ ∃ b', bi2.b = some b' /\ (Zz β 1 (.row g 1 xs) = some b' \/ b' = w1.heap.size)) /\
      BR I (β.put 1 (g + 1) bi2) w' 1 (.row (g + 1) 1 (xs ++ ys)) /\ VR I (β.put 1 (g + 1) bi2) (.sl 1 (g + 1) 0 (xs ++ ys).length) (.slice A' (xs.length + ys.length) cap') := by
    have hle2 : β.le (β.put 1 (g + 1) bi) -> True := fun _ => trivial
    have hnone : β 1 (g + 1) = none := R.gen 1 _ (g + 1) rfl (by simp [Zm])
    rcases hcase with ⟨hn0, rfl, rfl, hgB⟩ | ⟨G, W1, Y, t, rfl, hGw, hGb, hg1, hg2, hY, hYs, hYt⟩
    . have hy : ys = [] := List.eq_nil_of_length_eq_zero hn0
      subst hy
      simp only [List.append_nil, List.length_nil, Nat.add_zero]
      have hbl' : β.le (β.put 1 (g + 1) bi) := Bmap.put_le hnone
      have same : ∀ k, k < w.heap.size -> w'.heap[k]? = w1.heap[k]? := by
        intro k hk
        by_cases e : k = b
        . rw [e, h1b]
        . rw [h1o k e]; exact hgB.block k hk (fun h => e (Option.some.inj h))
      refine ⟨bi, ⟨by rw [hw1]; exact hgB.os, by rw [hw1]; exact hgB.tape, by rw [hw1]; exact hgB.output, by rw [h1s]; exact hgB.size, fun k hk => same k (hbw k hk)⟩, fun b' _ hb' => same b' (by omega), ?_, ?_, ?_⟩
      . rw [hor]
        cases bi.b with
        | none => exact Or.inl rfl
        | some x => exact Or.inr ⟨x, rfl, Or.inl rfl⟩
      . refine ⟨bi, Bmap.put_same β 1 (g + 1) bi, hk1, by omega, hcap63, hxl, htree, hlens, hrow.imp id ?_⟩
        rintro ⟨gb, us, ty', q1, q2, q3, q4⟩
        have hgb : gb ≠ b := by
          rintro rfl
          have := R.apart 0 _ 1 _ gb rfl rfl how (by rw [hor, q1])
          omega
        exact ⟨gb, us, ty', q1, by rw [same gb (Lib.lt_of_heap q2), h1o gb hgb]; exact q2, q3, VRs.mono (Imm.le.refl I) hbl' _ _ q4⟩
      . rw [ZbY]
        refine ⟨bi, Bmap.put_same β 1 (g + 1) bi, hxl, hcap63, ?_⟩
        rcases hA with ⟨gb, e1, e2, e3⟩ | ⟨e1, e2, e3⟩
        . exact Or.inl ⟨gb, e1, by rw [e2, e3]⟩
        . have hx : xs.length = 0 := by omega
          exact Or.inr ⟨e1, e3, _, by rw [hx, e2]⟩
    . have hbl' : β.le (β.put 1 (g + 1) ⟨some G, 1, cap'⟩) := Bmap.put_le hnone
      have hGo : Zz β 1 (.row g 1 xs) = some G \/ G = w1.heap.size := by
        rcases hGw with e | ⟨e, hc0⟩
        . exact Or.inr (by rw [h1s]; exact e)
        . refine Or.inl ?_
          rw [hor]
          rcases hA with ⟨gb, e1, e2, e3⟩ | ⟨e1, e2, e3⟩
          . rw [e2] at e; injection e with e; injection e with e; rw [e1, e]
          . exact absurd e2 hc0
      have hsz1 : w.heap.size <= W1.heap.size := hg1.size
      have same : ∀ k, k < w.heap.size -> k ≠ G -> w'.heap[k]? = w1.heap[k]? := by
        intro k hk hkG
        by_cases e : k = b
        . rw [e, h1b]
        . rw [h1o k e]; exact (hg2.block k (by omega) (fun h => hkG (Option.some.inj h))).trans (hg1.block k hk (fun h => e (Option.some.inj h)))
      refine ⟨⟨some G, 1, cap'⟩, ⟨by rw [hw1]; exact hg2.os.trans hg1.os, by rw [hw1]; exact hg2.tape.trans hg1.tape, by rw [hw1]; exact hg2.output.trans hg1.output, by rw [h1s]; exact Nat.le_trans hg1.size hg2.size, fun k hk => same k (hbw k hk) ?_⟩, fun b' hb1 hb' => same b' (by omega) ?_, Or.inr ⟨G, rfl, hGo⟩, ?_, ?_⟩
      . rintro rfl
        rcases hGo with e | e
        . exact (R.own 1 _ _ rfl e).1 hk
        . have := hbw _ hk; omega
      . rintro rfl
        rcases hGo with e | e
        . exact hb1 e
        . omega
      . refine ⟨_, Bmap.put_same β 1 (g + 1) _, rfl, by omega, hcm, by rw [List.length_append]; exact hle, by rw [Zgg htree htn], ?_, Or.inr ⟨G, Y, t, rfl, hY, by rw [hYs, Nat.mul_one], ?_⟩⟩
        . intro x hx
          rcases List.mem_append.1 hx with h | h
          . exact hlens x h
          . exact hln x h
        . rw [List.length_append, Nat.mul_one, hYt, ZeA]
          exact Zcd (VRs.mono (Imm.le.refl I) hbl' _ _ hvo) (VRs.mono (Imm.le.refl I) hbl' _ _ hvn)
      . rw [ZbY]
        exact ⟨_, Bmap.put_same β 1 (g + 1) _, by rw [List.length_append]; exact hle, hcm, Or.inl ⟨G, rfl, by rw [List.length_append]⟩⟩
  have hbw1 : KLt base w1 := fun k hk => by rw [h1s]; exact hbw k hk
  obtain ⟨R2, hle2⟩ := R1.grow (t := 1) (g := g) (k := 1) (xs := xs) (xs' := xs ++ ys) rfl bi2 hB (by
    intro b' o u hI
    have hne : b' ≠ b := by rintro rfl; rw [hob.2 o] at hI; cases hI
    have hlt : b' < w1.heap.size := by rw [h1s]; exact ZdK (R.imm _ _ _ hI)
    have hno : Zz β 1 (.row g 1 xs) ≠ some b' := fun e => by have := (R.own 1 _ b' rfl e).2 o; rw [this] at hI; cases hI
    rw [<- R1.imm b' o u hI]
    simp only [World.cell?, keep b' hno hlt]) keep hbi2 hbw1 hblk
  have hβ2 : (β.put 1 (g + 1) bi2) 0 0 = some ⟨some b, kk, cc⟩ := hle2 _ _ _ hβ0
  refine ⟨β.put 1 (g + 1) bi2, hle2, ?_, by simp [VR, VRs]⟩
  refine R2.upd (Imm.le.refl I) (Bmap.le.refl _) (KB.refl _ _) (fun _ _ _ => rfl) R2.imm 0 (.var [.sl 1 (g + 1) 0 (xs ++ ys).length, .int .i64 0, .int .i8 0]) rfl (by simp) (fun _ _ _ => rfl) ?_ ?_ ?_ ?_ (by simp)
  . intro t' x b' hne hx hb'
    refine ⟨rfl, (R2.own t' x b' hx hb').2, ?_⟩
    simp only [Zz, hβ2, Option.bind_some]
    intro e; injection e with e; subst e
    exact hne (R2.apart t' x 0 _ b hx rfl hb' (by simp only [Zz, hβ2, Option.bind_some]))
  . exact ⟨b, kk, cc, _, ty, hβ2, hT', by simp only [VRs]; exact ⟨_, _, rfl, hv2, _, _, rfl, by simp [VR], _, _, rfl, by simp [VR], rfl⟩⟩
  . intro b' e
    simp only [Zz, hβ2, Option.bind_some] at e; injection e with e; subst e
    exact R2.own 0 _ b rfl (by simp only [Zz, hβ2, Option.bind_some])
  . intro g' hg'
    exact R2.gen 0 _ g' rfl (by simpa [Zm] using hg')
theorem ZCj (L:LaysM.n180 P ρ) {f:FuncId} (hf:ρ.f 180=f) (hx:∃ fn,P.funcs[f]?=some fn/\fn.body.isSome=true/\(fn.name == "runtime.NumGoroutine")=false) {args:List AVal} {σ σ':Za} {r:AVal} (hg:ZgG args σ=some (r,σ')) :
  (∃ fn,P.funcs[f]?=some fn/\fn.body.isSome=true/\(fn.name == "runtime.NumGoroutine")=false) /\
  ∀ base w0 I0 I β w (vs:Array Value),KLt base w0->Rel base w0 I0 I β σ w->VRs I β args vs.toList ->
   Calls P f vs w (fun e w'=>∃ u,Ends r e u/\ZbR σ.length base w0 I0 I β r σ' u w'):=by
 refine ⟨hx,?_⟩
 intro base w0 I0 I β w vs hb R hargs
 subst hf
 unfold ZgG at hg
 split at hg
 ·
  rename_i y ys lr
  split at hg
  case isFalse=>cases hg
  rename_i hc
  simp only [Option.some.injEq,Prod.mk.injEq] at hg
  obtain ⟨rfl,rfl⟩:=hg
  simp only [VRs] at hargs
  obtain ⟨v0,_,hvs,h0,v1,_,rfl,h1,rfl⟩:=hargs
  have hvs':vs=#[v0,v1]:=by rw [<-Array.toList_inj];exact hvs
  subst hvs'
  simp only [VR] at h0
  obtain ⟨b,k,c,hβ0,rfl⟩:=h0
  obtain ⟨b',k',c',us,ty,hβ,hheap,hcs⟩:=R.blk 0 _ rfl
  rw [hβ0] at hβ;injection hβ with hβ;injection hβ with hβ1 hβ2 hβ3;injection hβ1 with hβ1;subst hβ1 hβ2 hβ3
  simp only [VRs] at hcs
  obtain ⟨u0,_,hus,hu0,u1,_,rfl,hu1,u2,_,rfl,hu2,rfl⟩:=hcs
  simp only [VR] at hu0 hu1 hu2
  obtain ⟨A,cap,rfl,_,_,hcap,_,_⟩:=hu0
  have hcap0:cap=0:=by simpa using hcap
  subst hu1 hu2 hcap0
  have hus':us=#[.slice A 0 0,.int .i64 0,.int .i8 lr]:=by rw [<-Array.toList_inj];simpa using hus
  subst hus'
  have R1:=R.reserve 1
  have hfree:([.var [.lst true [],.int .i64 0,.int .i8 lr]]++List.replicate 1 ZI.free)[1]?=some .free:=rfl
  obtain ⟨R2,hle⟩:=R1.newNone hfree 1 (by omega)
  have R3:Rel base w0 I0 I (β.put 1 0 ⟨none,1,0⟩) [.var [.lst true [],.int .i64 0,.int .i8 lr],.row 0 1 []] w:=R2
  refine (Zqg L hb R3 (bi:=⟨none,1,0⟩) (Bmap.put_same β 1 0 _) (hle _ _ _ hβ0) (A:=A) (cap:=0) hheap (Or.inr ⟨rfl,rfl,rfl⟩) (h1.mono (Imm.le.refl I) hle _ _) (by simpa using hc.1) hc.2).mono ?_
  rintro e w' ⟨u,he,β',hb',hR,hv⟩
  obtain ⟨β2,hk2,hR2,_⟩:=ZpU hR 1 []
  refine ⟨u,he,I,β2,Imm.le.refl I,(KeptE.of_le (hle.trans hb')).trans hk2,?_,by simpa [ZaN,VR,VRs] using hv⟩
  have hgc:(gcA 1 [] [.var [.sl 1 (0+1) 0 ([]++ys).length,.int .i64 0,.int .i8 0],.row (0+1) 1 ([]++ys)]).2=[.var [.sl 1 0 0 ys.length,.int .i64 0,.int .i8 0],.row 0 1 ys]:=rfl
  rw [hgc] at hR2
  exact hR2
 ·rename_i y ys g m lr g' xs
  split at hg
  case isFalse=>cases hg
  rename_i hc
  obtain ⟨rfl,rfl,hc1,hc2⟩:=hc
  simp only [Option.some.injEq,Prod.mk.injEq] at hg
  obtain ⟨rfl,rfl⟩:=hg
  simp only [VRs] at hargs
  obtain ⟨v0,_,hvs,h0,v1,_,rfl,h1,rfl⟩:=hargs
  have hvs':vs=#[v0,v1]:=by rw [<-Array.toList_inj];exact hvs
  subst hvs'
  simp only [VR] at h0
  obtain ⟨b,k,c,hβ0,rfl⟩:=h0
  obtain ⟨b',k',c',us,ty,hβ,hheap,hcs⟩:=R.blk 0 _ rfl
  rw [hβ0] at hβ;injection hβ with hβ;injection hβ with hβ1 hβ2 hβ3;injection hβ1 with hβ1;subst hβ1 hβ2 hβ3
  obtain ⟨bi,hbi,hk1,_⟩:=R.blk 1 (.row g 1 xs) rfl
  simp only [VRs] at hcs
  obtain ⟨u0,_,hus,hu0,u1,_,rfl,hu1,u2,_,rfl,hu2,rfl⟩:=hcs
  rw [ZbY] at hu0
  simp only [VR] at hu1 hu2
  subst hu1 hu2
  obtain ⟨bi',hbi',_,_,hcase⟩:=hu0
  rw [hbi] at hbi';injection hbi' with hbi';subst hbi'
  obtain ⟨A,cap,rfl,hA⟩:∃ A cap,u0=.slice A xs.length cap/\((∃ gb,bi.b=some gb/\A=some ⟨gb,0,none⟩/\cap=bi.cap)\/(bi.b=none/\cap=0/\bi.cap=0)):=by
   rcases hcase with ⟨gb,e1,e2⟩ | ⟨e1,e2,A,e3⟩
   ·exact ⟨_,_,e2,Or.inl ⟨gb,e1,rfl,rfl⟩⟩
   ·obtain ⟨bi2,hbi2,_,_,_,hxl,_⟩:=R.blk 1 (.row g 1 xs) rfl
    rw [hbi] at hbi2;injection hbi2 with hbi2;subst hbi2
    exact ⟨A,0,by rw [e3,show xs.length=0 by omega],Or.inr ⟨e1,rfl,e2⟩⟩
  have hus':us=#[.slice A xs.length cap,.int .i64 0,.int .i8 lr]:=by rw [<-Array.toList_inj];simpa using hus
  subst hus'
  refine (Zqg L hb R hbi hβ0 hheap hA h1 hc1 hc2).mono ?_
  rintro e w' ⟨u,he,β',hb',hR,hv⟩
  exact ⟨u,he,I,β',Imm.le.refl I,KeptE.of_le hb',hR,hv⟩
 ·cases hg
end
end
section
open Go.Shelf
def ZDa:Ren:=⟨fun | 180=>82 | 251=>109 | 252=>110 | 181=>129 | 184=>130 | 290=>131 | 324=>144 | n=>n,fun | 130=>130 | 37=>22 | 3=>3 | 75=>127 | 0=>0 | 93=>87 | 91=>85 | 131=>149 | 4=>4 | 20=>20 | 5=>5 | 80=>112 | 9=>9 | n=>n,fun | 14=>0 | n=>n⟩
theorem ZGQ:Go.Proofs.LaysM.n180 Tryz.prog ZDa:={ mixed:=by kernel_rfl,f180:=Tryz.func82.trans (congrArg some (by kernel_rfl)),f181:=Tryz.func129.trans (congrArg some (by kernel_rfl)),f184:=Tryz.func130.trans (congrArg some (by kernel_rfl)),f251:=Tryz.func109.trans (congrArg some (by kernel_rfl)),f252:=Tryz.func110.trans (congrArg some (by kernel_rfl)),f290:=Tryz.func131.trans (congrArg some (by kernel_rfl)),f324:=Tryz.func144.trans (congrArg some (by kernel_rfl)),t0:=Tryz.underlying0,a0:=Tryz.isAgg0,z0:=Tryz.sizeOf0,v0:=Tryz.zeroValue0,t3:=Tryz.underlying3,a3:=Tryz.isAgg3,z3:=Tryz.sizeOf3,v3:=Tryz.zeroValue3,t4:=Tryz.underlying4,a4:=Tryz.isAgg4,z4:=Tryz.sizeOf4,v4:=Tryz.zeroValue4,t20:=Tryz.underlying20,a20:=Tryz.isAgg20,z20:=Tryz.sizeOf20,v20:=Tryz.zeroValue20,t37:=Tryz.underlying22,a37:=Tryz.isAgg22,z37:=Tryz.sizeOf22,v37:=Tryz.zeroValue22,t75:=Tryz.underlying127,a75:=Tryz.isAgg127,z75:=Tryz.sizeOf127,v75:=Tryz.zeroValue127,t91:=Tryz.underlying85,a91:=Tryz.isAgg85,z91:=Tryz.sizeOf85,v91:=Tryz.zeroValue85,t93:=Tryz.underlying87,a93:=Tryz.isAgg87,z93:=Tryz.sizeOf87,v93:=Tryz.zeroValue87,t130:=Tryz.underlying130,a130:=Tryz.isAgg130,z130:=Tryz.sizeOf130,v130:=Tryz.zeroValue130,t131:=Tryz.underlying149,a131:=Tryz.isAgg149,z131:=Tryz.sizeOf149,v131:=Tryz.zeroValue149,g14:=by kernel_rfl,t5:=Tryz.underlying5,a5:=Tryz.isAgg5,z5:=Tryz.sizeOf5,v5:=Tryz.zeroValue5,t9:=Tryz.underlying9,a9:=Tryz.isAgg9,z9:=Tryz.sizeOf9,v9:=Tryz.zeroValue9,t80:=Tryz.underlying112,a80:=Tryz.isAgg112,z80:=Tryz.sizeOf112,v80:=Tryz.zeroValue112,i0:=by kernel_rfl,i3:=by kernel_rfl,i4:=by kernel_rfl,i5:=by kernel_rfl,i9:=by kernel_rfl,i20:=by kernel_rfl,i37:=by kernel_rfl,i75:=by kernel_rfl,i80:=by kernel_rfl,i91:=by kernel_rfl,i93:=by kernel_rfl,i130:=by kernel_rfl,i131:=by kernel_rfl,m14:=by kernel_rfl }
end
section
theorem ZA0:∃ fn,Tryz.prog.funcs[82]?=some fn/\fn.body.isSome=true/\(fn.name == "runtime.NumGoroutine")=false:=⟨Tryz.f82,Tryz.func82,by kernel_rfl,by kernel_rfl⟩
theorem ZCu:Zkf Tryz.prog PR1:=by
 intro f g h args σ r σ' hg
 unfold PR1 at h
 split at h
 ·rename_i e;subst e
  injection h with h;subst h
  exact Zwd hg
 ·split at h
  ·rename_i e;subst e
   injection h with h;subst h
   exact ZCj ZGQ rfl ZA0 hg
  ·exact ZrL f g h args σ r σ' hg
theorem ZMn:Zaw Tryz.prog E1:=by
 have h:E1=EV CF PR1 BY:=ZJz CF PR1 BY
 rw [h]
 exact ZLe Zjd ZCu ann BY
end
section
open Go.RowKit Go.Shelf Go.Lib
theorem ZIB {W:World} (h:Lib.Utf8Tabs 1 2 W):Gl.le (Imm.of W):=by
 intro b o u hu
 unfold Gl at hu
 unfold Imm.of
 split at hu
 ·rename_i e;subst e
  split at hu
  ·rename_i ho
   rw [h.1 o ho,<-hu]
  ·cases hu
 ·split at hu
  ·rename_i e;subst e
   split at hu
   ·rename_i ho
    rw [<-hu]
    obtain ⟨h1,h2⟩:=h.2 (o / 2) (by omega)
    by_cases hp:o % 2=0
    ·rw [if_pos hp,<-h1];congr 2;omega
    ·rw [if_neg hp,<-h2];congr 2;omega
   ·cases hu
  ·cases hu
section
open Go.RowKit
variable {H:Type} {enc:TypeId×Value->H} {P:Program} {w:World} {spare:Nat->Bool} {held:Bool}
end
end
section
open Go.ChangeShapes Go.WideShapes Go.ChangeAt Go.RowKit Go.Deep
theorem ZIy:ownKnob Tryz.prog.godebug=none:=by kernel_rfl
theorem ZGd {W:World} (hLH:laidMetH Tryz.prog Rows.packetFlagsRow.laid W):Gl.le (Imm.of W):=by
 have hL:laidMet Tryz.prog Rows.packetFlagsRow.laid W:=by rw [<-MakeChecks.laidMetH_plain _ _ _ (by kernel_rfl)];exact hLH
 have e1:Rows.laid_unicode_utf8_first=Lib.firstData:=by kernel_rfl
 have e2:(Rows.laid_unicode_utf8_acceptRanges:DataW Unit)=Lib.acceptData:=by kernel_rfl
 have h1:Lib.VarReads Tryz.prog W "unicode/utf8.first" Lib.firstData:=by rw [<-e1];exact Lib.laidMet.reads hL (.tail _ (.tail _ (.head _)))
 have h2:Lib.VarReads Tryz.prog W "unicode/utf8.acceptRanges" Lib.acceptData:=by rw [<-e2];exact Lib.laidMet.reads hL (.head _)
 exact ZIB (utf8Tabs_of_readsT (U8Types.of196 ZrP) ⟨by kernel_rfl,by kernel_rfl,by kernel_rfl,by kernel_rfl,by kernel_rfl,by kernel_rfl,by kernel_rfl⟩ h1 h2)
set_option maxRecDepth 100000 in
theorem Zzh (H:Type) (enc:TypeId×Value->H) (W:World) (base:Nat) (args:Array Value) (ds gs:List (DataW H)) (before:List MemPlace)
  (hval0:∀ (j:Nat) t v,Tryz.f5.params[j]?=some t->args[j]?=some v->Value.okWide Tryz.prog W .any base t v)
  (hW:DataW.Whole enc Tryz.prog Tryz.f5.params.toList Rows.packetFlagsSpec.vars false W args.toList ds gs before) (hL:laidMetH Tryz.prog Rows.packetFlagsRow.laid W) :
  Calls Tryz.prog 5 args W fun e W'=>∃ v,e=.returned v/\Rows.packetFlagsSpec.post enc Tryz.prog Tryz.f5 false true false false W args v W':=by
 have hW':=hW
 obtain ⟨p,q,hA0,hV,rfl,hfz,hnd⟩:=hW
 have hval:∀ (j:Nat) t v,Tryz.f5.params[j]?=some t->args[j]?=some v->Value.okWide Tryz.prog W .any base t v:=hval0
 have hA:DataW.TrodAll enc Tryz.prog W 0 (fun _=>true) true Tryz.f5.params.toList args.toList ds p:=hA0
 rw [Tryz.params5] at hA hval
 obtain ⟨hargs,rfl,rfl⟩:=trodAll_nil hA
 obtain rfl:args=#[]:=by cases args;simp_all
 obtain ⟨rfl,rfl⟩:=trodVars_none hV
 clear hA0 hval0
 have hq:=ZvM
 refine (ZDt ZMn (ZGd hL) (args:=[]) (by simp only [VRs]) (hq)).mono fun e W' ⟨he,bel⟩=>?_
 subst he
 exact ⟨_,rfl,_,_,_,[],_,[],hW',trodAll_mk1 (shut_bool Tryz.underlying4 _),trodAll_mk0,rfl,bel.frame _,fun h=>by cases h⟩
noncomputable def Znj (os:Os):World :=
 let w0:=World.holding Tryz.prog os ⟨#[],#[],[]⟩
 let put (h:Array Obj) (g:Nat) (us:Array Value):Array Obj:=h.modify g fun
  | .cells _ t frozen=>.cells us t frozen
  | o=>o
 let h1:=put w0.heap 1 (Lib.firstTab.map fun z=>Value.int .u8 z).toArray
 let h2:=put h1 2 ((List.range 16).flatMap fun i=>[Value.int .u8 (Lib.accLo i),Value.int .u8 (Lib.accHi i)]).toArray
 let h3:=(put h2 0 #[Value.iface 188 (.pointer (some ⟨h2.size,0,none⟩))]).push (.cells #[Value.string ⟨#[98,121,116,101,115,46,66,117,102,102,101,114,58,32,116,111,111,32,108,97,114,103,101]⟩] 204)
 { w0 with heap:=h3 }
theorem ZLH (os:Os):laidMet Tryz.prog Rows.packetFlagsRow.laid ((Znj os).forCall (fun _ _=>0) ⟨#[],#[],[]⟩).memory :=
 laidMet_of_run' 8 (by kernel_rfl) (by kernel_rfl)
theorem ZDl (os:Os) {H:Type} (enc:TypeId×Value->H):∃ ds places,DataW.whole enc Tryz.prog ((Znj os).forCall (fun _ _=>0) ⟨#[],#[],[]⟩).memory Tryz.f5.params.toList Rows.packetFlagsSpec.vars false #[].toList 8=some (ds,[],places) :=
 ⟨[],[],by kernel_rfl⟩
set_option maxRecDepth 100000 in
theorem ZEH (os:Os) (started:os.Started) (H:Type) (enc:TypeId×Value->H) (F:Stop.Interp) :
  ReturnsInHanded {} Tryz.checked os 5 .any ((OpenSpec.ofChange Rows.packetFlagsSpec).preRow enc Tryz.prog Tryz.f5 Rows.packetFlagsRow.domain false Rows.packetFlagsRow.laid) (((OpenSpec.ofChange Rows.packetFlagsSpec).at F).post enc Tryz.prog Tryz.f5 false true false false):=by
 obtain ⟨ds,places,hx⟩:=ZDl os enc
 refine returnsInHanded_of_row (C:=Tryz.checked) (s:=(OpenSpec.ofChange Rows.packetFlagsSpec)) ZIy started (by kernel_rfl) Tryz.func5
  (witness_row_at (enc:=enc) (C:=Tryz.checked) false (Znj os) #[] rfl (by kernel_rfl) (by kernel_rfl) (by kernel_rfl)
   (OpenSpec.preRow_of_cond 8 hx (by kernel_rfl) (fun k hk=>by cases hk) (by kernel_rfl) (ZLH os))) ?_
 intro W base args ds gs before hval hW _ hcond _ hL _ _
 exact Zzh H enc W base args ds gs before hval hW hL
theorem ZIN:Rows.PacketFlagsSaid :=
 OpenClaim.holds_of_cond 5 Tryz.f5 rfl rfl rfl rfl rfl rfl rfl ⟨rfl,rfl,rfl,rfl,rfl⟩ rfl rfl rfl rfl rfl (by kernel_rfl) Tryz.func5 (by kernel_rfl)
  (of_decide_eq_true (by kernel_rfl)) (by unfold Func.isWrapper;first | (rw [if_pos (by decide +kernel)];kernel_rfl) | (rw [if_neg (by decide +kernel)];exact ⟨rfl,rfl⟩))
  (fun os started H enc _ F=>by rw [OpenClaim.pre_eq_preRow];exact ZEH os started H enc F)
theorem ZGe (f:FuncId) (fn:Func) (hf:Tryz.pinned.checked.prog.funcNamed "tidings/tidingslaw12.PacketFlags"=some f) (hfn:Tryz.pinned.checked.prog.funcs[f]?=some fn) :
  true=Tryz.pinned.checked.prog.looks []/\∀ (j:Nat) t,fn.params[j]?=some t->Tryz.pinned.checked.prog.wantsStandIn t=false:=by
 obtain rfl:f=5:=Option.some.inj ((show Tryz.prog.funcNamed "tidings/tidingslaw12.PacketFlags"=some 5 by kernel_rfl).symm.trans hf) |>.symm
 obtain rfl:fn=Tryz.f5:=(Option.some.inj (Tryz.func5.symm.trans hfn)).symm
 refine ⟨by kernel_rfl,fun j t ht=>?_⟩
 rw [Tryz.params5] at ht
 simp at ht
theorem packetFlags_card:Rows.PacketFlagsCardSaid :=
 Claim7.holds_tied_plain_at .later [] _ _ _ _ ZIN (fun _ h=>by cases h) (by kernel_rfl) (fun _ h=>by cases h) packetFlags_row_tie rfl ⟨rfl,rfl⟩ (by kernel_rfl) rfl ZGe (by kernel_rfl)
#print axioms packetFlags_card
end
end Go.Proofs.YtmlkhhidifjjfaaGreatDoor
