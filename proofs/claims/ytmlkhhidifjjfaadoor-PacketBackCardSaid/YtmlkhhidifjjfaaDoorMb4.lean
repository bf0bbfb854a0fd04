/- packed -/
import Derived.Test.YtmlkhhidifjjfaaDoorMb3
import Derived.Test.YtmlkhhidifjjfaaDoorMb2
import Derived.Defers
import Derived.Recover
import Derived.Tactics
import Derived.Test.YtmlkhhidifjjfaaDoorProg
import Derived.Shelf.Unicode.ValidAny
import Derived.Lib.TrimAscii
set_option linter.defProp false
set_option linter.unusedSectionVars false
set_option linter.unusedSimpArgs false
set_option linter.unusedVariables false
namespace Go.Proofs.YtmlkhhidifjjfaaDoor
set_option maxHeartbeats 16000000
set_option maxRecDepth 10000
section
section
variable (P:List AVal) (hP:P.length=26) (hF:Zt P=[1]) (hS:∀ ρ:Rho,ρ 1 0=some (1,0)->Zf ρ P=P) (w:Nat) (xs:List AVal)
include hP hF hS
theorem Zg7 {r:AVal} (hr:ZJ r=true) (f:Bool) (ys:List AVal):Zak 2 [.var (P++[.lst f ys]),.row 0 w xs] r=some (r,[.var (P++[.lst f ys]),.row 0 w xs]) :=
 ZpL hr (by rw [ZcI,hF];rfl) (by omega) (fun ρ h=>by rw [Zb3,hS ρ h];rfl)
theorem ZNX (l:Zb) (n:Nat) (hn:n<=l.length) (hl:l.length<=140737488355328):E 115 [.ref 0 0,.int .i64 (n:Nat)] [.var (P++[.lst false (l.map Zc)]),.row 0 w xs]=some (.int .i64 (ZeZ (l.take n)),[.var (P++[.lst false ((l.drop n).map Zc)]),.row 0 w xs]):=by
 have h1:(l.length:Int)>=((n:Nat):Int):=by omega
 have s1:=fun σ kk=>Zhi σ 1 l Zc kk (n:Int) (by omega) (by omega)
 have s2:=fun σ kk=>Zfg σ l kk (n:Int) (by omega) (by omega)
 have e2:((n:Int)).toNat=n:=rfl
 rw [e2] at s1 s2
 have ht:(l.take n).length<=9223372036854775807:=by simp;omega
 have hG:=fun σ sq own f=>Zk0 σ sq own (l.take n) ht f
 have a1:=Z7 P hP
 have a2:=Zaq P hP
 have a3:=ZeO P hP
 have a4:=Zf5 P hP
 have m1:=Zbe
 rw [Zh (by rfl) ZlA]
 simp -implicitDefEqProofs only [EQA,ZC,Nat.reduceAdd,Nat.reduceLT,Nat.reduceLeDiff,Nat.reduceEqDiff,reduceCtorEq,↓reduceIte,ZlQ,ZhL,Zut,oI,oN,h1,s1,s2,hG,a1,a2,a3,a4,m1,ZeZ]
 exact Zg7 P hP hF hS w xs rfl _ _
theorem ZyH (l:Zb) (n:Nat) (hn:l.length < n) (hn':n<=9223372036854775807):E 115 [.ref 0 0,.int .i64 (n:Nat)] [.var (P++[.lst false (l.map Zc)]),.row 0 w xs]=some (.pan (Zy 129),[.var (P++[.lst false (l.map Zc)]),.row 0 w xs]):=by
 have h1:¬(l.length:Int)>=((n:Nat):Int):=by omega
 have a2:=Zaq P hP
 have m1:=ZbD
 rw [Zh (by rfl) ZlA]
 simp -implicitDefEqProofs only [EQA,Nat.reduceAdd,Nat.reduceLT,Nat.reduceEqDiff,reduceCtorEq,↓reduceIte,ZlQ,ZhL,oI,oN,h1,a2,m1]
 exact Zg7 P hP hF hS w xs rfl _ _
theorem ZLu (l:Zb) (hl:l.length<=140737488355328) (h:(ZX l).2.2=0):E 124 [.ref 0 0] [.var (P++[.lst false (l.map Zc)]),.row 0 w xs]=some (.str (ZX l).1,[.var (P++[.lst false ((l.drop (ZX l).2.1).map Zc)]),.row 0 w xs]):=by
 have hG:=fun σ sq own f=>ZhR σ sq own f l hl
 have hu:=(Zh8 l).1
 unfold gtT at hG
 have s2:=fun σ kk=>Zfg σ l kk ((ZX l).2.1:Int) (by omega) (by omega)
 have e2:(((ZX l).2.1:Nat):Int).toNat=(ZX l).2.1:=rfl
 rw [e2] at s2
 rw [h] at hG
 have a1:=Z7 P hP
 have a2:=Zaq P hP
 have a3:=ZeO P hP
 have a4:=Zf5 P hP
 have m1:=Zbe
 rw [Zh (by rfl) Zj9]
 simp -implicitDefEqProofs only [EQA,ZC,Nat.reduceAdd,Nat.reduceLT,Nat.reduceLeDiff,Nat.reduceEqDiff,reduceCtorEq,↓reduceIte,ZjR,Zic,Zrv,oI,oN,s2,hG,a1,a2,a3,a4,m1]
 exact Zg7 P hP hF hS w xs rfl _ _
theorem ZOo (l:Zb) (hl:l.length<=140737488355328) (h:(ZX l).2.2≠0):E 124 [.ref 0 0] [.var (P++[.lst false (l.map Zc)]),.row 0 w xs]=some (.pan (Zy 129),[.var (P++[.lst false (l.map Zc)]),.row 0 w xs]):=by
 have hG:=fun σ sq own f=>ZhR σ sq own f l hl
 unfold gtT at hG
 have h0:((ZX l).2.2 == 0)=false:=by simpa using h
 have h1:=h
 have a2:=Zaq P hP
 have m1:=ZbD
 rw [Zh (by rfl) Zj9]
 simp -implicitDefEqProofs only [EQA,Nat.reduceAdd,Nat.reduceLT,Nat.reduceEqDiff,reduceCtorEq,↓reduceIte,ZjR,Zic,oI,oN,hG,a2,h0,m1]
 exact Zg7 P hP hF hS w xs rfl _ _
end
theorem ZkP {q:AVal} {cs xs:List AVal} {g w:Nat} (view:Bool) (hn:ZJ q=true) (hv:viewR [.var cs,.row g w xs] q=some (q,[])) (hrf:Zt cs=[1]) (hg:g<=1) (hren:∀ ρ:Rho,ρ 1 g=some (1,g)->Zf ρ cs=cs):Zaf view 2 (some (q,[.var cs,.row g w xs]))=some (q,[.var cs,.row g w xs]):=by
 unfold Zaf
 split
 ·have hnp:∀ x,q≠.pan x:=by rintro x rfl;simp [viewR,ZS,ZN] at hv
  rw [show ZbJ 2 (some (q,[.var cs,.row g w xs]))=(match viewR [.var cs,.row g w xs] q with
   | some (r',ts)=>match gcA 2 [r'] (Zs [.var cs,.row g w xs] ts) with
    | ([r''],σ')=>some (r'',σ')
    | _=>none
   | none=>none) from by cases q <;> first | rfl | exact absurd rfl (hnp _)]
  rw [hv]
  simp only [show Zs [ZK.var cs,.row g w xs] []=[.var cs,.row g w xs] from rfl,Zub hn hrf hg hren]
 ·rfl
theorem Zo2 {x:AVal} {σ:Za} (view:Bool):Zaf view 2 (some (.pan x,σ))=some (.pan x,σ):=by
 unfold Zaf
 split <;> rfl
def Zi (Q:List AVal) (k r g n:Nat):List AVal:=Q.set k (.sl r g 0 n)
section
variable (Q:List AVal) (hQ:Q.length=26) (hN:Zd Q=true) (k:Nat) (hk:k < 26) (n:Nat)
include hQ hN hk
theorem Zb8 (r g:Nat):(Zi Q k r g n).length=26:=by simp [Zi,hQ]
theorem Zcp (r g:Nat):Zt (Zi Q k r g n)=[r]:=by
 unfold Zi
 rw [Zin hN (by omega)]
 rfl
theorem ZbK {r g r' g':Nat} (ρ:Rho) (h:ρ r g=some (r',g')):Zf ρ (Zi Q k r g n)=Zi Q k r' g' n:=by
 unfold Zi
 rw [ZiZ ρ hN]
 simp only [Zm,h]
variable (w:Nat) (xs:List AVal) (l:Zb) (hl:l.length<=140737488355328) (σ:Za) (t r g sq:Nat) (htr:t≠r) (hs:σ[t]?=some (.var (Zi Q k r g n++[.lst false (l.map Zc)]))) (hr:σ[r]?=some (.row g w xs))
include hl htr hs hr
theorem ZlD {c:Nat} {m a:Int} {l2:Zb} (hm:((c:Nat):Int)=m) (h:Zar c l=.ok (a,l2)):Zj E BY σ sq 115 0 true [.ref t 0,.int .i64 m]=some (.int .i64 a,(σ.set t (.var (Zi Q k r g n++[.lst false (l2.map Zc)]))).set r (.row g w xs),{ any:=true,upd:=[(t,Zi Q k r g n++[.lst false (l2.map Zc)])] }):=by
 subst hm
 unfold Zar at h
 split at h
 ·cases h
 ·injection h with h;injection h with h1 h2;subst h1 h2
  have e:=ZNX (Zi Q k 1 0 n) (Zb8 Q hQ hN k hk n 1 0) (Zcp Q hQ hN k hk n 1 0) (fun ρ h=>ZbK Q hQ hN k hk n ρ h) w xs l c (by omega) hl
  exact ZgJ (g2:=0) (own:=0) (rest:=[.int .i64 (c:Nat)]) hs hr htr (by rw [ZcI,Zcp Q hQ hN k hk n];rfl) (by kernel_rfl) rfl (fun ρ h=>by rw [Zb3,ZbK Q hQ hN k hk n ρ h];rfl) (by omega) rfl rfl e
   (ZkP true rfl rfl (by rw [ZcI,Zcp Q hQ hN k hk n];rfl) (by omega) (fun ρ h=>by rw [Zb3,ZbK Q hQ hN k hk n ρ h];rfl)) (fun ρ h=>by rw [Zb3,ZbK Q hQ hN k hk n ρ (h 0)];rfl)
theorem ZqQ {c:Nat} {m e:Int} (hm:((c:Nat):Int)=m) (hc:c<=9223372036854775807) (h:Zar c l=.error e):Zj E BY σ sq 115 0 true [.ref t 0,.int .i64 m]=some (.pan (Zy e),(σ.set t (.var (Zi Q k r g n++[.lst false (l.map Zc)]))).set r (.row g w xs),{ any:=true,upd:=[(t,Zi Q k r g n++[.lst false (l.map Zc)])] }):=by
 subst hm
 unfold Zar at h
 split at h
 ·injection h with h;subst h
  have e:=ZyH (Zi Q k 1 0 n) (Zb8 Q hQ hN k hk n 1 0) (Zcp Q hQ hN k hk n 1 0) (fun ρ h=>ZbK Q hQ hN k hk n ρ h) w xs l c (by omega) hc
  exact ZgJ (g2:=0) (own:=0) (rest:=[.int .i64 (c:Nat)]) hs hr htr (by rw [ZcI,Zcp Q hQ hN k hk n];rfl) (by kernel_rfl) rfl (fun ρ h=>by rw [Zb3,ZbK Q hQ hN k hk n ρ h];rfl) (by omega) rfl rfl e
   (Zo2 true) (fun ρ h=>by rw [Zb3,ZbK Q hQ hN k hk n ρ (h 0)];rfl)
 ·cases h
theorem ZmU {a l2:Zb} (h:Zal l=.ok (a,l2)):Zj E BY σ sq 124 0 true [.ref t 0]=some (.str a,(σ.set t (.var (Zi Q k r g n++[.lst false (l2.map Zc)]))).set r (.row g w xs),{ any:=true,upd:=[(t,Zi Q k r g n++[.lst false (l2.map Zc)])] }):=by
 unfold Zal at h
 split at h
 ·rename_i h0
  injection h with h;injection h with h1 h2;subst h1 h2
  have e:=ZLu (Zi Q k 1 0 n) (Zb8 Q hQ hN k hk n 1 0) (Zcp Q hQ hN k hk n 1 0) (fun ρ h=>ZbK Q hQ hN k hk n ρ h) w xs l hl h0
  exact ZgJ (g2:=0) (own:=0) (rest:=[]) hs hr htr (by rw [ZcI,Zcp Q hQ hN k hk n];rfl) (by kernel_rfl) rfl (fun ρ h=>by rw [Zb3,ZbK Q hQ hN k hk n ρ h];rfl) (by omega) rfl rfl e
   (ZkP true rfl rfl (by rw [ZcI,Zcp Q hQ hN k hk n];rfl) (by omega) (fun ρ h=>by rw [Zb3,ZbK Q hQ hN k hk n ρ h];rfl)) (fun ρ h=>by rw [Zb3,ZbK Q hQ hN k hk n ρ (h 0)];rfl)
 ·cases h
theorem ZtV {c:Int} (h:Zal l=.error c):Zj E BY σ sq 124 0 true [.ref t 0]=some (.pan (Zy c),(σ.set t (.var (Zi Q k r g n++[.lst false (l.map Zc)]))).set r (.row g w xs),{ any:=true,upd:=[(t,Zi Q k r g n++[.lst false (l.map Zc)])] }):=by
 unfold Zal at h
 split at h
 ·cases h
 ·rename_i h0
  injection h with h;subst h
  have e:=ZOo (Zi Q k 1 0 n) (Zb8 Q hQ hN k hk n 1 0) (Zcp Q hQ hN k hk n 1 0) (fun ρ h=>ZbK Q hQ hN k hk n ρ h) w xs l hl h0
  exact ZgJ (g2:=0) (own:=0) (rest:=[]) hs hr htr (by rw [ZcI,Zcp Q hQ hN k hk n];rfl) (by kernel_rfl) rfl (fun ρ h=>by rw [Zb3,ZbK Q hQ hN k hk n ρ h];rfl) (by omega) rfl rfl e
   (Zo2 true) (fun ρ h=>by rw [Zb3,ZbK Q hQ hN k hk n ρ (h 0)];rfl)
end
section
variable (Q:List AVal) (hQ:Q.length=26) (hN:Zd Q=true) (k:Nat) (hk:k < 26) (n:Nat) (w:Nat) (xs:List AVal) (l:Zb) (hl:l.length<=140737488355328) (kd:Int) (h0:(Zi Q k 1 0 n)[0]?=some (.int .i64 kd))
include hQ hN hk hl h0
theorem ZHd {c:Int} {r:Zb} (h:Zat kd l=.ok (c,r)):E 116 [.ref 0 0] [.var (Zi Q k 1 0 n++[.lst false (l.map Zc)]),.row 0 w xs]=some (.int .i64 c,[.var (Zi Q k 1 0 n++[.lst false (r.map Zc)]),.row 0 w xs]):=by
 unfold Zat at h
 split at h
 case h_2=>cases h
 rename_i n' r' h2
 split at h
 case isFalse=>cases h
 rename_i hn
 injection h with h;injection h with h3 h4;subst h3 h4
 have hG:=fun σ sq hs hr=>ZlD Q hQ hN k hk n w xs l hl σ 0 1 0 sq (by omega) hs hr (m:=1) rfl h2
 have hL:=Zb8 Q hQ hN k hk n 1 0
 have hR:=Zcp Q hQ hN k hk n 1 0
 have hS:∀ ρ:Rho,ρ 1 0=some (1,0)->Zf ρ (Zi Q k 1 0 n)=Zi Q k 1 0 n:=fun ρ h=>ZbK Q hQ hN k hk n ρ h
 generalize Zi Q k 1 0 n=P at *
 have a4:=fun L=>(Zaa P hL 0 (by omega) L).trans h0
 have m1:=Zbe
 have hC:=fun σ sq own=>Zje kd n' σ sq own
 rw [hn] at hC
 rw [Zh (by rfl) ZfS]
 simp -implicitDefEqProofs only [EQA,Nat.reduceAdd,Nat.reduceLT,Nat.reduceEqDiff,reduceCtorEq,↓reduceIte,Zf4,Ze2,ZsX,oI,hG,hC,a4,m1]
 exact Zg7 P hL hR hS w xs rfl _ _
theorem ZAg {c:Int} (h:Zat kd l=.error c):∃ r:Zb,E 116 [.ref 0 0] [.var (Zi Q k 1 0 n++[.lst false (l.map Zc)]),.row 0 w xs]=some (.pan (Zy c),[.var (Zi Q k 1 0 n++[.lst false (r.map Zc)]),.row 0 w xs]):=by
 unfold Zat at h
 have hL:=Zb8 Q hQ hN k hk n 1 0
 have hR:=Zcp Q hQ hN k hk n 1 0
 have hS:∀ ρ:Rho,ρ 1 0=some (1,0)->Zf ρ (Zi Q k 1 0 n)=Zi Q k 1 0 n:=fun ρ h=>ZbK Q hQ hN k hk n ρ h
 split at h
 ·rename_i n' r' h2
  split at h
  case isTrue=>cases h
  rename_i hn
  injection h with h;subst h
  have hG:=fun σ sq hs hr=>ZlD Q hQ hN k hk n w xs l hl σ 0 1 0 sq (by omega) hs hr (m:=1) rfl h2
  refine ⟨r',?_⟩
  generalize Zi Q k 1 0 n=P at *
  have a4:=fun L=>(Zaa P hL 0 (by omega) L).trans h0
  have m1:=ZbD
  have hC:=fun σ sq own=>Zje kd n' σ sq own
  rw [Bool.not_eq_true _ |>.mp hn] at hC
  rw [Zh (by rfl) ZfS]
  simp -implicitDefEqProofs only [EQA,Nat.reduceAdd,Nat.reduceLT,Nat.reduceEqDiff,reduceCtorEq,↓reduceIte,Zf4,Ze2,oI,hG,hC,a4,m1]
  exact Zg7 P hL hR hS w xs rfl _ _
 ·rename_i c' h2
  injection h with h;subst h
  have hG:=fun σ sq hs hr=>ZqQ Q hQ hN k hk n w xs l hl σ 0 1 0 sq (by omega) hs hr (m:=1) rfl (by decide) h2
  refine ⟨l,?_⟩
  generalize Zi Q k 1 0 n=P at *
  rw [Zh (by rfl) ZfS]
  simp -implicitDefEqProofs only [EQA,Nat.reduceAdd,Nat.reduceLT,reduceCtorEq,↓reduceIte,Zf4,Ze2,oI,hG]
  exact Zg7 P hL hR hS w xs rfl _ _
variable (σ:Za) (t r g sq:Nat) (htr:t≠r) (hs:σ[t]?=some (.var (Zi Q k r g n++[.lst false (l.map Zc)]))) (hr:σ[r]?=some (.row g w xs))
include htr hs hr
theorem ZzJ {c:Int} {l2:Zb} (h:Zat kd l=.ok (c,l2)):Zj E BY σ sq 116 0 true [.ref t 0]=some (.int .i64 c,(σ.set t (.var (Zi Q k r g n++[.lst false (l2.map Zc)]))).set r (.row g w xs),{ any:=true,upd:=[(t,Zi Q k r g n++[.lst false (l2.map Zc)])] }):=by
 have e:=ZHd Q hQ hN k hk n w xs l hl kd h0 h
 exact ZgJ (g2:=0) (own:=0) (rest:=[]) hs hr htr (by rw [ZcI,Zcp Q hQ hN k hk n];rfl) (by kernel_rfl) rfl (fun ρ h=>by rw [Zb3,ZbK Q hQ hN k hk n ρ h];rfl) (by omega) rfl rfl e
  (ZkP true rfl rfl (by rw [ZcI,Zcp Q hQ hN k hk n];rfl) (by omega) (fun ρ h=>by rw [Zb3,ZbK Q hQ hN k hk n ρ h];rfl)) (fun ρ h=>by rw [Zb3,ZbK Q hQ hN k hk n ρ (h 0)];rfl)
theorem Zyr {c:Int} (h:Zat kd l=.error c):∃ l2:Zb,Zj E BY σ sq 116 0 true [.ref t 0]=some (.pan (Zy c),(σ.set t (.var (Zi Q k r g n++[.lst false (l2.map Zc)]))).set r (.row g w xs),{ any:=true,upd:=[(t,Zi Q k r g n++[.lst false (l2.map Zc)])] }):=by
 obtain ⟨l2,e⟩:=ZAg Q hQ hN k hk n w xs l hl kd h0 h
 exact ⟨l2,ZgJ (g2:=0) (own:=0) (rest:=[]) hs hr htr (by rw [ZcI,Zcp Q hQ hN k hk n];rfl) (by kernel_rfl) rfl (fun ρ h=>by rw [Zb3,ZbK Q hQ hN k hk n ρ h];rfl) (by omega) rfl rfl e
  (Zo2 true) (fun ρ h=>by rw [Zb3,ZbK Q hQ hN k hk n ρ (h 0)];rfl)⟩
end
end
section
structure Zbq where
 filter:Zb
 qos:Int
 noLocal:Bool
 asPublished:Bool
 handling:Int
 id:Int
 deriving DecidableEq
def ZW (s:Zbq):AVal:=.agg [.str s.filter,.int .i64 s.qos,.bool s.noLocal,.bool s.asPublished,.int .i64 s.handling,.int .i64 s.id]
structure Zvw where
 topic:Zb
 data:Zb
 qos:Int
 retain:Bool
 props:List Zp
 deriving DecidableEq
structure Zl where
 type:Int
 dup:Bool
 qos:Int
 retain:Bool
 id:Int
 topic:Zb
 payload:Zb
 code:Int
 codes:List Int
 props:List Zp
 subs:List Zbq
 filters:List Zb
 clean:Bool
 keep:Int
 client:Zb
 hasWill:Bool
 will:Zvw
 hasUser:Bool
 user:Zb
 hasPassword:Bool
 password:Zb
 present:Bool
 deriving DecidableEq
def Z4 (p:Zl):AVal:=.agg [.int .i64 p.type,.bool p.dup,.int .i64 p.qos,.bool p.retain,.int .i64 p.id,.str p.topic,.lst false (p.payload.map Zc),.int .i64 p.code,.lst false (p.codes.map (AVal.int .i64)),.lst false (p.props.map Zn),.lst false (p.subs.map ZW),.lst false (p.filters.map AVal.str),.bool p.clean,.int .i64 p.keep,.str p.client,.bool p.hasWill,.str p.will.topic,.lst false (p.will.data.map Zc),.int .i64 p.will.qos,.bool p.will.retain,.lst false (p.will.props.map Zn),.bool p.hasUser,.str p.user,.bool p.hasPassword,.lst false (p.password.map Zc),.bool p.present]
end
section
def Zdl (m:Int):Int:=IntKind.i64.wrap (m.tdiv 16)
def Zbf (l:Zb):RK Zbq:=match Zal l with
 | .error c=>.error c
 | .ok (f,r1)=>match Zar 1 r1 with
  | .error c=>.error c
  | .ok (o,r2)=>if o < 64 then (if Zk o 3 < 3/\Zdl o < 3 then .ok (⟨f,Zk o 3,Zk o 4 != 0,Zk o 8 != 0,Zdl o,0⟩,r2) else .error 130) else .error 129
theorem Zdg {cs cs' xs:List AVal} {w j:Nat} {r:AVal} {σ:Za} (hr:ZJ r=true) (hj:j≠0) (h0:σ[0]?=some (.var cs)) (h1:σ[j]?=some (.row 0 w xs)) (hrf:Zt cs=[j]) (hren:∀ ρ:Rho,ρ j 0=some (1,0)->Zf ρ cs=cs'):Zak 1 σ r=some (r,[.var cs',.row 0 w xs]):=by
 have d0:σ.getD 0 .free=.var cs:=by simp [List.getD_eq_getElem?_getD,h0]
 have d1:σ.getD j .free=.row 0 w xs:=by simp [List.getD_eq_getElem?_getD,h1]
 have e1:=(Za5 (Zo σ 1 [0,j]) r hr)
 have ej:([0]:List Nat).contains j=false:=by simp;omega
 have hi:ZB 1 [r] σ=[0,j]:=by
  have : Zt [r]=[]:=by simp only [Zt,e1.2,List.append_nil]
  have hR:List.range 1=[0]:=rfl
  simp only [ZB,this,List.nil_append,hR,List.flatMap_cons,List.flatMap_nil,List.append_nil,d0,ZM,hrf]
  rw [show (1000:Nat)=998+1+1 from rfl,Zz,ej]
  simp only [Bool.false_eq_true,if_false,d1,ZM,List.nil_append]
  rfl
 have hρ:Zo σ 1 [0,j] j 0=some (1,0):=by
  have : ¬(0:Nat)=j:=fun e=>hj e.symm
  simp [Zo,Z1,Zq,ZU,h1,this]
 simp only [Zak,gcA,hi,Zf,e1.1,Zw,d0,d1,ZU,Zq,ZG,hren _ hρ]
 simp
section
variable (P:List AVal) (hP:P.length=26) (hN:Zd P=true) (h10:P[10]?=some (.lst true [])) (l:Zb) (hl:l.length<=140737488355328)
include hP hN h10 hl
theorem ZAP {s:Zbq} {r:Zb} (h:Zbf l=.ok (s,r)):E 122 [.ref 0 0] (Zg P l)=some (.tup [],[.var (Zi P 10 1 0 1++[.lst false (r.map Zc)]),.row 0 6 [ZW s]]):=by
 unfold Zbf at h
 split at h
 ·cases h
 rename_i f r1 ht
 have l1:=Zdr ht
 split at h
 ·cases h
 rename_i o r2 hn
 split at h
 case isFalse=>cases h
 rename_i h64
 split at h
 case isFalse=>cases h
 rename_i hq
 obtain ⟨hq1,hq2⟩:=hq
 injection h with h;injection h with e1 e2;subst e1 e2
 have hT:=fun σ sq hs=>Zd3 P hP hN l hl σ 0 sq hs ht
 have hG:=fun σ sq hs=>ZcX P hP hN r1 (by omega) σ 0 sq hs (m:=1) rfl hn
 have m0:=Zbe
 have a1:=Z7 P hP
 have a3:=fun L v=>Zay P hP 10 11 (by omega) rfl L v
 have a4:=fun L=>(Zaa P hP 10 (by omega) L).trans h10
 have z:¬(16:Int)=0:=by decide
 unfold Zi ZW Zg
 unfold Zk Zdl at *
 rw [Zh (by rfl) ZdF]
 simp -implicitDefEqProofs only [EQA,Zbh,Zu,Nat.reduceAdd,Nat.reduceLT,Nat.reduceLeDiff,Nat.reduceEqDiff,Nat.reduceBEq,ZF,unG,reduceCtorEq,Z0,↓reduceIte,Zd,ZdX,Zdd,Zsm,oI,oN,hT,hG,m0,a1,a3,a4,z,h64,hq1,hq2,Zao,AVal.cells,ZaX,viewAs,ZS,ZN,ZaL,Zs,Nat.one_mul,Nat.le_refl,Zag,Zai,Zaj,Zau,Zax,Zam,List.lookup_nil,kOk]
 refine Zdg (j:=2) rfl (by omega) rfl rfl ?_ (fun ρ h=>?_)
 ·rw [ZcI,Zin hN (by omega)];rfl
 ·rw [Zb3,ZiZ ρ hN]
  simp only [Zm,h]
  rfl
end
theorem Zxc (ss:List Zbq):kOk 6 (ss.map ZW)=true:=by cases ss <;> rfl
section
variable (P:List AVal) (hP:P.length=26) (hN:Zd P=true) (ss:List Zbq) (hss:ss.length*48+48<=140737488355328) (l:Zb) (hl:l.length<=140737488355328)
include hP hN hss hl
theorem ZHy {s:Zbq} {r:Zb} (h:Zbf l=.ok (s,r)):E 122 [.ref 0 0] [.var (Zi P 10 1 0 ss.length++[.lst false (l.map Zc)]),.row 0 6 (ss.map ZW)]=some (.tup [],[.var (Zi P 10 1 1 (ss.length+1)++[.lst false (r.map Zc)]),.row 1 6 ((ss++[s]).map ZW)]):=by
 unfold Zbf at h
 split at h
 ·cases h
 rename_i f r1 ht
 have l1:=Zdr ht
 split at h
 ·cases h
 rename_i o r2 hn
 split at h
 case isFalse=>cases h
 rename_i h64
 split at h
 case isFalse=>cases h
 rename_i hq
 obtain ⟨hq1,hq2⟩:=hq
 injection h with h;injection h with e1 e2;subst e1 e2
 have hT:=fun σ sq hs hr=>ZmU P hP hN 10 (by omega) ss.length 6 (ss.map ZW) l hl σ 0 1 0 sq (by omega) hs hr ht
 have hG:=fun σ sq hs hr=>ZlD P hP hN 10 (by omega) ss.length 6 (ss.map ZW) r1 (by omega) σ 0 1 0 sq (by omega) hs hr (m:=1) rfl hn
 have m0:=Zbe
 have hL:=Zb8 P hP hN 10 (by omega) ss.length 1 0
 have a1:=Z7 _ hL
 have a3:=fun L v=>Zay _ hL 10 11 (by omega) rfl L v
 have h10:(Zi P 10 1 0 ss.length)[10]?=some (.sl 1 0 0 ss.length):=by unfold Zi;rw [List.getElem?_set_self (by omega)]
 have a4:=fun L=>(Zaa _ hL 10 (by omega) L).trans h10
 have hset:(Zi P 10 1 0 ss.length).set 10 (.sl 1 1 0 (ss.length+1))=Zi P 10 1 1 (ss.length+1):=by unfold Zi;rw [List.set_set]
 have z:¬(16:Int)=0:=by decide
 have kk:=Zxc ss
 have k1:∀ a b c d e f:AVal,kOk 6 [.agg [a,b,c,d,e,f]]=true:=fun _ _ _ _ _ _=>rfl
 have len:(ss.map ZW).length=ss.length:=by simp
 have tk:(ss.map ZW).take ss.length=ss.map ZW:=by rw [<-len,List.take_length]
 have lim:(ss.length+1)*48<=140737488355328:=by omega
 have lim2:48*(ss.length+1)<=140737488355328:=by omega
 unfold Zk Zdl at *
 rw [Zh (by rfl) ZdF]
 simp -implicitDefEqProofs only [EQA,Zbh,Nat.reduceAdd,Nat.reduceLT,Nat.reduceLeDiff,Nat.reduceEqDiff,Nat.reduceBEq,ZF,unG,reduceCtorEq,Z0,↓reduceIte,ZdX,Zdd,Zsm,oI,oN,hT,hG,m0,a1,a3,a4,z,h64,hq1,hq2,Zao,AVal.cells,ZaX,viewAs,ZS,ZN,ZaL,Zs,Nat.le_refl,Zag,Zai,Zaj,Zau,Zax,Zam,List.lookup_nil,k1,len,lim,hset]
 rw [ZpL (g:=1) rfl (by rw [ZcI,Zcp P hP hN 10 (by omega)];rfl) (by omega) (fun ρ h=>by rw [Zb3,ZbK P hP hN 10 (by omega) _ ρ h];rfl)]
 simp only [List.map_append,List.map_cons,List.map_nil]
 rfl
end
section
variable (P:List AVal) (hP:P.length=26) (hN:Zd P=true) (l:Zb) (hl:l.length<=140737488355328)
include hP hN hl
theorem ZD4 {e:Int} (h:Zbf l=.error e):∃ cs,Zd cs=true/\E 122 [.ref 0 0] (Zg P l)=some (.pan (Zy e),[.var cs]):=by
 unfold Zbf at h
 have z:¬(16:Int)=0:=by decide
 unfold Zg
 split at h
 ·rename_i c ht
  injection h with h;subst h
  have hT:=fun σ sq hs=>ZgX P hP hN l hl σ 0 sq hs ht
  refine ⟨_,Zx P hP hN false (l.map Zc),?_⟩
  rw [Zh (by rfl) ZdF]
  simp -implicitDefEqProofs only [EQA,Nat.reduceLT,↓reduceIte,ZdX,Zdd,oI,oN,hT]
  exact ZZ rfl (Zx P hP hN _ _)
 rename_i f r1 ht
 have l1:=Zdr ht
 have hT:=fun σ sq hs=>Zd3 P hP hN l hl σ 0 sq hs ht
 split at h
 ·rename_i c hn
  injection h with h;subst h
  have hG:=fun σ sq hs=>Zf9 P hP hN r1 (by omega) σ 0 sq hs (m:=1) rfl (by decide) hn
  refine ⟨_,Zx P hP hN false (r1.map Zc),?_⟩
  rw [Zh (by rfl) ZdF]
  simp -implicitDefEqProofs only [EQA,Zbh,Nat.reduceAdd,Nat.reduceLT,Nat.reduceLeDiff,Nat.reduceEqDiff,Nat.reduceBEq,reduceCtorEq,↓reduceIte,ZdX,Zdd,oI,oN,hT,hG,Zao,AVal.cells]
  exact ZZ rfl (Zx P hP hN _ _)
 rename_i o r2 hn
 have hG:=fun σ sq hs=>ZcX P hP hN r1 (by omega) σ 0 sq hs (m:=1) rfl hn
 have m0:=Zbe
 have m1:=ZbD
 refine ⟨_,Zx P hP hN false (r2.map Zc),?_⟩
 split at h
 case isFalse =>
  rename_i h64
  injection h with h;subst h
  rw [Zh (by rfl) ZdF]
  simp -implicitDefEqProofs only [EQA,Zbh,Nat.reduceAdd,Nat.reduceLT,Nat.reduceLeDiff,Nat.reduceEqDiff,Nat.reduceBEq,reduceCtorEq,↓reduceIte,ZdX,Zdd,oI,oN,hT,hG,m1,h64,Zao,AVal.cells]
  exact ZZ rfl (Zx P hP hN _ _)
 rename_i h64
 split at h
 ·cases h
 rename_i hq
 injection h with h;subst h
 by_cases hq1:Zk o 3 < 3
 ·have hq2:¬Zdl o < 3:=fun h=>hq ⟨hq1,h⟩
  unfold Zk Zdl at *
  rw [Zh (by rfl) ZdF]
  simp -implicitDefEqProofs only [EQA,Zbh,Nat.reduceAdd,Nat.reduceLT,Nat.reduceLeDiff,Nat.reduceEqDiff,Nat.reduceBEq,ZF,unG,reduceCtorEq,↓reduceIte,ZdX,Zdd,oI,oN,hT,hG,m0,m1,z,h64,hq1,hq2,Zao,AVal.cells]
  exact ZZ rfl (Zx P hP hN _ _)
 ·unfold Zk at *
  rw [Zh (by rfl) ZdF]
  simp -implicitDefEqProofs only [EQA,Zbh,Nat.reduceAdd,Nat.reduceLT,Nat.reduceLeDiff,Nat.reduceEqDiff,Nat.reduceBEq,ZF,Zav,reduceCtorEq,↓reduceIte,ZdX,Zdd,oI,oN,hT,hG,m0,m1,z,h64,hq1,Zao,AVal.cells]
  exact ZZ rfl (Zx P hP hN _ _)
variable (ss:List Zbq)
theorem ZwB {e:Int} (h:Zbf l=.error e):∃ r:Zb,E 122 [.ref 0 0] [.var (Zi P 10 1 0 ss.length++[.lst false (l.map Zc)]),.row 0 6 (ss.map ZW)]=some (.pan (Zy e),[.var (Zi P 10 1 0 ss.length++[.lst false (r.map Zc)]),.row 0 6 (ss.map ZW)]):=by
 unfold Zbf at h
 have z:¬(16:Int)=0:=by decide
 have fin:∀ (r:Zb) (σ:Za) (x:AVal),ZJ x=true->Zak 2 (.var (Zi P 10 1 0 ss.length++[.lst false (r.map Zc)])::.row 0 6 (ss.map ZW)::σ) x=some (x,[.var (Zi P 10 1 0 ss.length++[.lst false (r.map Zc)]),.row 0 6 (ss.map ZW)]):=fun r σ x hx =>
  ZpL (g:=0) hx (by rw [ZcI,Zcp P hP hN 10 (by omega)];rfl) (by omega) (fun ρ h=>by rw [Zb3,ZbK P hP hN 10 (by omega) _ ρ h];rfl)
 split at h
 ·rename_i c ht
  injection h with h;subst h
  have hT:=fun σ sq hs hr=>ZtV P hP hN 10 (by omega) ss.length 6 (ss.map ZW) l hl σ 0 1 0 sq (by omega) hs hr ht
  refine ⟨l,?_⟩
  rw [Zh (by rfl) ZdF]
  simp -implicitDefEqProofs only [EQA,Nat.reduceAdd,Nat.reduceLT,↓reduceIte,ZdX,Zdd,oI,oN,hT]
  exact fin _ _ _ rfl
 rename_i f r1 ht
 have l1:=Zdr ht
 have hT:=fun σ sq hs hr=>ZmU P hP hN 10 (by omega) ss.length 6 (ss.map ZW) l hl σ 0 1 0 sq (by omega) hs hr ht
 split at h
 ·rename_i c hn
  injection h with h;subst h
  have hG:=fun σ sq hs hr=>ZqQ P hP hN 10 (by omega) ss.length 6 (ss.map ZW) r1 (by omega) σ 0 1 0 sq (by omega) hs hr (m:=1) rfl (by decide) hn
  refine ⟨r1,?_⟩
  rw [Zh (by rfl) ZdF]
  simp -implicitDefEqProofs only [EQA,Zbh,Nat.reduceAdd,Nat.reduceLT,Nat.reduceLeDiff,Nat.reduceEqDiff,Nat.reduceBEq,reduceCtorEq,↓reduceIte,ZdX,Zdd,oI,oN,hT,hG,Zao,AVal.cells]
  exact fin _ _ _ rfl
 rename_i o r2 hn
 have hG:=fun σ sq hs hr=>ZlD P hP hN 10 (by omega) ss.length 6 (ss.map ZW) r1 (by omega) σ 0 1 0 sq (by omega) hs hr (m:=1) rfl hn
 have m0:=Zbe
 have m1:=ZbD
 refine ⟨r2,?_⟩
 split at h
 case isFalse =>
  rename_i h64
  injection h with h;subst h
  rw [Zh (by rfl) ZdF]
  simp -implicitDefEqProofs only [EQA,Zbh,Nat.reduceAdd,Nat.reduceLT,Nat.reduceLeDiff,Nat.reduceEqDiff,Nat.reduceBEq,reduceCtorEq,↓reduceIte,ZdX,Zdd,oI,oN,hT,hG,m1,h64,Zao,AVal.cells]
  exact fin _ _ _ rfl
 rename_i h64
 split at h
 ·cases h
 rename_i hq
 injection h with h;subst h
 by_cases hq1:Zk o 3 < 3
 ·have hq2:¬Zdl o < 3:=fun h=>hq ⟨hq1,h⟩
  unfold Zk Zdl at *
  rw [Zh (by rfl) ZdF]
  simp -implicitDefEqProofs only [EQA,Zbh,Nat.reduceAdd,Nat.reduceLT,Nat.reduceLeDiff,Nat.reduceEqDiff,Nat.reduceBEq,ZF,unG,reduceCtorEq,↓reduceIte,ZdX,Zdd,oI,oN,hT,hG,m0,m1,z,h64,hq1,hq2,Zao,AVal.cells]
  exact fin _ _ _ rfl
 ·unfold Zk at *
  rw [Zh (by rfl) ZdF]
  simp -implicitDefEqProofs only [EQA,Zbh,Nat.reduceAdd,Nat.reduceLT,Nat.reduceLeDiff,Nat.reduceEqDiff,Nat.reduceBEq,ZF,Zav,reduceCtorEq,↓reduceIte,ZdX,Zdd,oI,oN,hT,hG,m0,m1,z,h64,hq1,Zao,AVal.cells]
  exact fin _ _ _ rfl
end
end
section
section
variable (P:List AVal) (hP:P.length=26) (hN:Zd P=true)
include hP hN
theorem ZAI (k:Int) (hk:P[0]?=some (.int .i64 k)) (l:Zb) (hl:l.length<=140737488355328) {c:Int} (h:Zat k l=.error c):∃ r:Zb,E 116 [.ref 0 0] [.var (P++[.lst false (l.map Zc)])]=some (.pan (Zy c),[.var (P++[.lst false (r.map Zc)])]):=by
 unfold Zat at h
 split at h
 ·rename_i n' r' h2
  split at h
  case isTrue=>cases h
  rename_i hn
  injection h with h;subst h
  have hG:=fun σ sq hs=>ZcX P hP hN l hl σ 0 sq hs (m:=1) rfl h2
  have a4:=fun L=>(Zaa P hP 0 (by omega) L).trans hk
  have m1:=ZbD
  have hC:=fun σ sq own=>Zje k n' σ sq own
  rw [Bool.not_eq_true _ |>.mp hn] at hC
  refine ⟨r',?_⟩
  rw [Zh (by rfl) ZfS]
  simp -implicitDefEqProofs only [EQA,Nat.reduceLT,Nat.reduceEqDiff,reduceCtorEq,↓reduceIte,Zf4,Ze2,oI,hG,hC,a4,m1]
  exact ZZ rfl (ZaC hN (by rfl))
 ·rename_i c' h2
  injection h with h;subst h
  have hG:=fun σ sq hs=>Zf9 P hP hN l hl σ 0 sq hs (m:=1) rfl (by decide) h2
  refine ⟨l,?_⟩
  rw [Zh (by rfl) ZfS]
  simp -implicitDefEqProofs only [EQA,Nat.reduceLT,reduceCtorEq,↓reduceIte,Zf4,Ze2,oI,hG]
  exact ZZ rfl (ZaC hN (by rfl))
end
section
variable (P:List AVal) (hP:P.length=26) (hN:Zd P=true) (l:Zb) (hl:l.length<=140737488355328)
include hP hN hl
theorem ZyU (h11:P[11]?=some (.lst true [])) {s r:Zb} (h:Zal l=.ok (s,r)):evC FC PR BY 3 Zdu [(1,.ref 2 0),(0,.ref 0 0)] [.var [.ref 1 0],.var (P++[.lst false (l.map Zc)]),.var [.ref 1 0]]=some (.normal,[],[.var [.ref 1 0],.var (Zi P 11 3 0 1++[.lst false (r.map Zc)]),.var [.ref 1 0],.row 0 1 [.str s]]):=by
 have hT:=fun σ sq hs=>Zd3 P hP hN l hl σ 1 sq hs h
 have a1:=Z7 P hP
 have a3:=fun L v=>Zay P hP 11 12 (by omega) rfl L v
 have a4:=fun L=>(Zaa P hP 11 (by omega) L).trans h11
 unfold Zi
 simp -implicitDefEqProofs only [EQA,Nat.reduceAdd,Nat.reduceLT,Nat.reduceLeDiff,Nat.reduceEqDiff,Nat.reduceBEq,reduceCtorEq,Z0,↓reduceIte,Zdu,oI,oN,hT,a1,a3,a4,AVal.cells,ZaX,viewAs,ZS,ZN,Zs,Nat.one_mul,Zag,Zai,Zaj,Zau,Zax,Zam,Zdq,List.lookup_cons,List.lookup_nil,kOk]
theorem Zww {c:Int} (h:Zal l=.error c) (h11:P[11]?=some (.lst true [])):evC FC PR BY 3 Zdu [(1,.ref 2 0),(0,.ref 0 0)] [.var [.ref 1 0],.var (P++[.lst false (l.map Zc)]),.var [.ref 1 0]]=some (.panic (Zy c),[],[.var [.ref 1 0],.var (P++[.lst false (l.map Zc)]),.var [.ref 1 0],.free]):=by
 have hT:=fun σ sq hs=>ZgX P hP hN l hl σ 1 sq hs h
 have a4:=fun L=>(Zaa P hP 11 (by omega) L).trans h11
 simp -implicitDefEqProofs only [EQA,Nat.reduceAdd,Nat.reduceSub,Nat.reduceLT,Nat.reduceLeDiff,Nat.reduceEqDiff,Nat.reduceBEq,reduceCtorEq,↓reduceIte,Zdu,oI,oN,hT,a4,Zhy,Zdh,List.any_cons,List.any_nil,Zag,Zai,Zaj,Zau,Zax,Zam,Zdq,List.lookup_cons,List.lookup_nil]
theorem ZFY (h8:P[8]?=some (.lst true [])) (k:Int) (hk:P[0]?=some (.int .i64 k)) {c:Int} {r:Zb} (h:Zat k l=.ok (c,r)):evC FC PR BY 3 Zdy [(1,.ref 2 0),(0,.ref 0 0)] [.var [.ref 1 0],.var (P++[.lst false (l.map Zc)]),.var [.ref 1 0]]=some (.normal,[],[.var [.ref 1 0],.var (Zi P 8 3 0 1++[.lst false (r.map Zc)]),.var [.ref 1 0],.row 0 1 [.int .i64 c]]):=by
 have hT:=fun σ sq hs=>ZiW P hP hN l hl σ 1 sq hs k hk h
 have a1:=Z7 P hP
 have a3:=fun L v=>Zay P hP 8 9 (by omega) rfl L v
 have a4:=fun L=>(Zaa P hP 8 (by omega) L).trans h8
 unfold Zi
 simp -implicitDefEqProofs only [EQA,Nat.reduceAdd,Nat.reduceLT,Nat.reduceLeDiff,Nat.reduceEqDiff,Nat.reduceBEq,reduceCtorEq,Z0,↓reduceIte,Zdy,oI,oN,hT,a1,a3,a4,AVal.cells,ZaX,viewAs,ZS,ZN,Zs,Nat.one_mul,Zag,Zai,Zaj,Zau,Zax,Zam,Zdq,List.lookup_cons,List.lookup_nil,kOk]
theorem ZOw (h8:P[8]?=some (.lst true [])) (k:Int) (hk:P[0]?=some (.int .i64 k)) {e:Int} (h:Zat k l=.error e):∃ r:Zb,evC FC PR BY 3 Zdy [(1,.ref 2 0),(0,.ref 0 0)] [.var [.ref 1 0],.var (P++[.lst false (l.map Zc)]),.var [.ref 1 0]]=some (.panic (Zy e),[],[.var [.ref 1 0],.var (P++[.lst false (r.map Zc)]),.var [.ref 1 0],.free]):=by
 obtain ⟨r,he⟩:=ZAI P hP hN k hk l hl h
 have hT:=fun (σ:Za) sq (hs:σ[1]?=some (.var (P++[.lst false (l.map Zc)])))=>ZcP (O:=E) (bf:=BY) (f:=116) (view:=true) (rest:=[]) (by kernel_rfl) rfl (Zx P hP hN _ _) (Zx P hP hN _ _) rfl he hs sq
 have a4:=fun L=>(Zaa P hP 8 (by omega) L).trans h8
 refine ⟨r,?_⟩
 simp -implicitDefEqProofs only [EQA,Nat.reduceAdd,Nat.reduceSub,Nat.reduceLT,Nat.reduceLeDiff,Nat.reduceEqDiff,Nat.reduceBEq,reduceCtorEq,↓reduceIte,Zdy,oI,oN,hT,a4,Zhy,Zdh,List.any_cons,List.any_nil,Zag,Zai,Zaj,Zau,Zax,Zam,Zdq,List.lookup_cons,List.lookup_nil]
end
end
section
section
variable (P:List AVal) (hP:P.length=26) (hN:Zd P=true) (l:Zb) (hl:l.length<=140737488355328)
include hP hN hl
theorem Zyv (xs:List AVal) (hx:xs.length*16+16<=140737488355328) (kk:kOk 1 xs=true) {s r:Zb} (h:Zal l=.ok (s,r)):evC FC PR BY 4 Zdu [(1,.ref 3 0),(0,.ref 0 0)] [.var [.ref 1 0],.var (Zi P 11 2 0 xs.length++[.lst false (l.map Zc)]),.row 0 1 xs,.var [.ref 1 0]]=some (.normal,[],[.var [.ref 1 0],.var (Zi P 11 2 1 (xs.length+1)++[.lst false (r.map Zc)]),.row 1 1 (xs++[.str s]),.var [.ref 1 0],.free]):=by
 have hT:=fun σ sq hs hr=>ZmU P hP hN 11 (by omega) xs.length 1 xs l hl σ 1 2 0 sq (by omega) hs hr h
 have hL:=Zb8 P hP hN 11 (by omega) xs.length 2 0
 have a1:=Z7 _ hL
 have a3:=fun L v=>Zay _ hL 11 12 (by omega) rfl L v
 have hc:(Zi P 11 2 0 xs.length)[11]?=some (.sl 2 0 0 xs.length):=by unfold Zi;rw [List.getElem?_set_self (by omega)]
 have a4:=fun L=>(Zaa _ hL 11 (by omega) L).trans hc
 have hset:(Zi P 11 2 0 xs.length).set 11 (.sl 2 1 0 (xs.length+1))=Zi P 11 2 1 (xs.length+1):=by unfold Zi;rw [List.set_set]
 have k1:kOk 1 [.str s]=true:=rfl
 have tk:xs.take xs.length=xs:=List.take_length
 have lim:(xs.length+1)*16<=140737488355328:=by omega
 have lim2:16*(xs.length+1)<=140737488355328:=by omega
 simp -implicitDefEqProofs only [EQA,Nat.reduceAdd,Nat.reduceLT,Nat.reduceLeDiff,Nat.reduceEqDiff,Nat.reduceBEq,reduceCtorEq,Z0,↓reduceIte,Zdu,oI,oN,hT,a1,a3,a4,AVal.cells,ZaX,viewAs,ZS,ZN,Zs,Zag,Zai,Zaj,Zau,Zax,Zam,Zdq,List.lookup_cons,List.lookup_nil,k1,lim,hset]
theorem ZB1 (xs:List AVal) (hx:xs.length*8+8<=140737488355328) (kk:kOk 1 xs=true) (k:Int) (hk:P[0]?=some (.int .i64 k)) {c:Int} {r:Zb} (h:Zat k l=.ok (c,r)):evC FC PR BY 4 Zdy [(1,.ref 3 0),(0,.ref 0 0)] [.var [.ref 1 0],.var (Zi P 8 2 0 xs.length++[.lst false (l.map Zc)]),.row 0 1 xs,.var [.ref 1 0]]=some (.normal,[],[.var [.ref 1 0],.var (Zi P 8 2 1 (xs.length+1)++[.lst false (r.map Zc)]),.row 1 1 (xs++[.int .i64 c]),.var [.ref 1 0],.free]):=by
 have hk0:(Zi P 8 1 0 xs.length)[0]?=some (.int .i64 k):=by unfold Zi;rw [List.getElem?_set_ne (by omega)];exact hk
 have hT:=fun σ sq hs hr=>ZzJ P hP hN 8 (by omega) xs.length 1 xs l hl k hk0 σ 1 2 0 sq (by omega) hs hr h
 have hL:=Zb8 P hP hN 8 (by omega) xs.length 2 0
 have a1:=Z7 _ hL
 have a3:=fun L v=>Zay _ hL 8 9 (by omega) rfl L v
 have hc:(Zi P 8 2 0 xs.length)[8]?=some (.sl 2 0 0 xs.length):=by unfold Zi;rw [List.getElem?_set_self (by omega)]
 have a4:=fun L=>(Zaa _ hL 8 (by omega) L).trans hc
 have hset:(Zi P 8 2 0 xs.length).set 8 (.sl 2 1 0 (xs.length+1))=Zi P 8 2 1 (xs.length+1):=by unfold Zi;rw [List.set_set]
 have k1:kOk 1 [.int .i64 c]=true:=rfl
 have tk:xs.take xs.length=xs:=List.take_length
 have lim:(xs.length+1)*8<=140737488355328:=by omega
 have lim2:8*(xs.length+1)<=140737488355328:=by omega
 simp -implicitDefEqProofs only [EQA,Nat.reduceAdd,Nat.reduceLT,Nat.reduceLeDiff,Nat.reduceEqDiff,Nat.reduceBEq,reduceCtorEq,Z0,↓reduceIte,Zdy,oI,oN,hT,a1,a3,a4,AVal.cells,ZaX,viewAs,ZS,ZN,Zs,Zag,Zai,Zaj,Zau,Zax,Zam,Zdq,List.lookup_cons,List.lookup_nil,k1,lim,hset]
end
end
section
def ZuY (P:List AVal) (f c:Int) (ps:List Zp):List AVal:=((P.set 25 (.bool (f == 1))).set 7 (.int .i64 c)).set 9 (.lst false (ps.map Zn))
section
variable (P:List AVal) (hP:P.length=26) (hN:Zd P=true) (h0:P[0]?=some (.int .i64 2)) (l:Zb) (hl:l.length<=140737488355328)
include hP hN h0 hl
theorem ZHE {e:Int} (h:Zar 1 l=.error e):∃ cs,Zd cs=true/\E 77 [.ref 0 0] (Zg P l)=some (.pan (Zy e),[.var cs]):=by
 have a4:=fun L=>(Zaa P hP 0 (by omega) L).trans h0
 have hT:=fun σ sq hs=>Zf9 P hP hN l hl σ 0 sq hs (m:=1) rfl (by decide) h
 refine ⟨P++[.lst false (l.map Zc)],Zx P hP hN _ _,?_⟩
 unfold Zg
 rw [Zh (by rfl) Zbj]
 simp -implicitDefEqProofs only [EQA,ZC,Nat.reduceAdd,Nat.reduceLT,Nat.reduceLeDiff,Nat.reduceEqDiff,Nat.reduceBEq,↓reduceIte,Zbi,Zbb,oI,oN,a4,hT,Int.reduceBEq]
 exact ZZ rfl (Zx P hP hN _ _)
theorem ZIn {f:Int} {r:Zb} (h:Zar 1 l=.ok (f,r)) (hf:¬f < 2):∃ cs,Zd cs=true/\E 77 [.ref 0 0] (Zg P l)=some (.pan (Zy 129),[.var cs]):=by
 have a4:=fun L=>(Zaa P hP 0 (by omega) L).trans h0
 have hT:=fun σ sq hs=>ZcX P hP hN l hl σ 0 sq hs (m:=1) rfl h
 have m1:=ZbD
 refine ⟨P++[.lst false (r.map Zc)],Zx P hP hN _ _,?_⟩
 unfold Zg
 rw [Zh (by rfl) Zbj]
 simp -implicitDefEqProofs only [EQA,ZC,Nat.reduceAdd,Nat.reduceLT,Nat.reduceLeDiff,Nat.reduceEqDiff,Nat.reduceBEq,↓reduceIte,Zbi,Zbb,oI,oN,a4,hT,m1,hf,Int.reduceBEq]
 exact ZZ rfl (Zx P hP hN _ _)
theorem Zwj {f:Int} {r:Zb} (h:Zar 1 l=.ok (f,r)) (hf:f < 2) {e:Int} (hc:Zat 2 r=.error e):∃ cs,Zd cs=true/\E 77 [.ref 0 0] (Zg P l)=some (.pan (Zy e),[.var cs]):=by
 have hr:=ZgD h
 have a1:=Z7 P hP
 have a4:=fun L=>(Zaa P hP 0 (by omega) L).trans h0
 have hT:=fun σ sq hs=>ZcX P hP hN l hl σ 0 sq hs (m:=1) rfl h
 have m0:=Zbe
 have a3:=fun L=>Zay P hP 25 26 (by omega) rfl L (.bool (f == 1))
 have hP1:(P.set 25 (.bool (f == 1))).length=26:=by simp [hP]
 have hN1:Zd (P.set 25 (.bool (f == 1)))=true:=ZP rfl _ hN
 have g0:(P.set 25 (.bool (f == 1)))[0]?=some (.int .i64 2):=by rw [List.getElem?_set_ne (by omega)];exact h0
 generalize P.set 25 (.bool (f == 1))=Q at *
 obtain ⟨cs,hn,he⟩:=Ztp Q hP1 hN1 2 g0 r (by omega) hc
 have hC:=fun (σ:Za) sq (hs:σ[0]?=some (.var (Q++[.lst false (r.map Zc)])))=>ZcP (O:=E) (bf:=BY) (f:=116) (view:=true) (rest:=[]) (by kernel_rfl) rfl (Zx Q hP1 hN1 _ _) hn rfl he hs sq
 refine ⟨cs,hn,?_⟩
 unfold Zg
 rw [Zh (by rfl) Zbj]
 simp -implicitDefEqProofs only [EQA,ZC,Nat.reduceAdd,Nat.reduceSub,Nat.reduceLT,Nat.reduceLeDiff,Nat.reduceEqDiff,Nat.reduceBEq,↓reduceIte,Zbi,Zbb,oI,oN,a1,a3,a4,hT,hC,m0,hf,Int.reduceBEq,Zhy,Zdh,List.any_cons,List.any_nil,Zag,Zai,Zaj,Zau,Zax,Zam,Zdq,List.lookup_cons,List.lookup_nil]
 exact ZZ rfl hn
theorem ZLt {f:Int} {r:Zb} (h:Zar 1 l=.ok (f,r)) (hf:f < 2) {c:Int} {r2:Zb} (hc:Zat 2 r=.ok (c,r2)) {e:Int} (hp:Zbw 2 r2=.error e):∃ cs,Zd cs=true/\E 77 [.ref 0 0] (Zg P l)=some (.pan (Zy e),[.var cs]):=by
 have hr2:=Zlu hc
 have hr:=ZgD h
 have a1:=Z7 P hP
 have a4:=fun L=>(Zaa P hP 0 (by omega) L).trans h0
 have hT:=fun σ sq hs=>ZcX P hP hN l hl σ 0 sq hs (m:=1) rfl h
 have m0:=Zbe
 have a3:=fun L=>Zay P hP 25 26 (by omega) rfl L (.bool (f == 1))
 have hP1:(P.set 25 (.bool (f == 1))).length=26:=by simp [hP]
 have hN1:Zd (P.set 25 (.bool (f == 1)))=true:=ZP rfl _ hN
 have g0:(P.set 25 (.bool (f == 1)))[0]?=some (.int .i64 2):=by rw [List.getElem?_set_ne (by omega)];exact h0
 generalize P.set 25 (.bool (f == 1))=Q at *
 have hC:=fun σ sq hs=>ZiW Q hP1 hN1 r (by omega) σ 0 sq hs 2 g0 hc
 have b1:=Z7 _ hP1
 have b3:=fun L=>Zay _ hP1 7 8 (by omega) rfl L (.int .i64 c)
 have hP2:(Q.set 7 (.int .i64 c)).length=26:=by simp [hP1]
 have hN2:Zd (Q.set 7 (.int .i64 c))=true:=ZP rfl _ hN1
 generalize Q.set 7 (.int .i64 c)=S at *
 have hG:=fun σ sq hs=>ZfH S hP2 hN2 r2 (by omega) σ 0 sq hs hp
 have c1:=Z7 _ hP2
 refine ⟨S++[.lst false (r2.map Zc)],Zx _ hP2 hN2 _ _,?_⟩
 unfold Zg
 rw [Zh (by rfl) Zbj]
 simp -implicitDefEqProofs only [EQA,ZC,Nat.reduceAdd,Nat.reduceSub,Nat.reduceLT,Nat.reduceLeDiff,Nat.reduceEqDiff,Nat.reduceBEq,↓reduceIte,Zbi,Zbb,oI,oN,a1,a3,a4,b1,b3,hT,hC,hG,m0,hf,Int.reduceBEq,Zhy,Zdh,List.any_cons,List.any_nil,Zag,Zai,Zaj,Zau,Zax,Zam,Zdq,List.lookup_cons,List.lookup_nil]
 exact ZZ rfl (Zx _ hP2 hN2 _ _)
theorem ZI4 {f:Int} {r:Zb} (h:Zar 1 l=.ok (f,r)) (hf:f < 2) {c:Int} {r2:Zb} (hc:Zat 2 r=.ok (c,r2)) {ps:List Zp} {r3:Zb} (hp:Zbw 2 r2=.ok (ps,r3)) (hu:(Z3 2 r2).2.1<=r2.length):E 77 [.ref 0 0] (Zg P l)=some (if r3.length=0 then .tup [] else .pan (Zy 129),Zg (ZuY P f c ps) r3):=by
 have hr2:=Zlu hc
 have hr:=ZgD h
 have a1:=Z7 P hP
 have a4:=fun L=>(Zaa P hP 0 (by omega) L).trans h0
 have hT:=fun σ sq hs=>ZcX P hP hN l hl σ 0 sq hs (m:=1) rfl h
 have m0:=Zbe
 have a3:=fun L=>Zay P hP 25 26 (by omega) rfl L (.bool (f == 1))
 have hP1:(P.set 25 (.bool (f == 1))).length=26:=by simp [hP]
 have hN1:Zd (P.set 25 (.bool (f == 1)))=true:=ZP rfl _ hN
 have g0:(P.set 25 (.bool (f == 1)))[0]?=some (.int .i64 2):=by rw [List.getElem?_set_ne (by omega)];exact h0
 unfold ZuY
 generalize P.set 25 (.bool (f == 1))=Q at *
 have hC:=fun σ sq hs=>ZiW Q hP1 hN1 r (by omega) σ 0 sq hs 2 g0 hc
 have b1:=Z7 _ hP1
 have b3:=fun L=>Zay _ hP1 7 8 (by omega) rfl L (.int .i64 c)
 have hP2:(Q.set 7 (.int .i64 c)).length=26:=by simp [hP1]
 have hN2:Zd (Q.set 7 (.int .i64 c))=true:=ZP rfl _ hN1
 generalize Q.set 7 (.int .i64 c)=S at *
 have hG:=fun σ sq hs=>Zef S hP2 hN2 r2 (by omega) σ 0 sq hs hu hp
 have c1:=Z7 _ hP2
 have c3:=fun L=>Zay _ hP2 9 10 (by omega) rfl L (.lst false (ps.map Zn))
 have hP3:(S.set 9 (.lst false (ps.map Zn))).length=26:=by simp [hP2]
 have hN3:Zd (S.set 9 (.lst false (ps.map Zn)))=true:=ZP (Zcd _ _) _ hN2
 generalize S.set 9 (.lst false (ps.map Zn))=U at *
 have d2:=Zaq _ hP3
 unfold Zg
 by_cases hr3:r3.length=0
 ·have z:=Zex (l:=r3) (decide_eq_true hr3)
  rw [if_pos hr3]
  rw [Zh (by rfl) Zbj]
  simp -implicitDefEqProofs only [EQA,ZC,Zu,Nat.reduceAdd,Nat.reduceLT,Nat.reduceLeDiff,Nat.reduceEqDiff,Nat.reduceBEq,↓reduceIte,Zd,Zbi,Zbb,ZeU,oI,oN,a1,a3,a4,b1,b3,c1,c3,d2,z,hT,hC,hG,m0,hf,Int.reduceBEq,Zag,Zai,Zaj,Zau,Zax,Zam,List.lookup_cons,List.lookup_nil]
  exact ZZ rfl (Zx _ hP3 hN3 _ _)
 ·have z:=Zex (l:=r3) (decide_eq_false hr3)
  have m1:=ZbD
  rw [if_neg hr3]
  rw [Zh (by rfl) Zbj]
  simp -implicitDefEqProofs only [EQA,ZC,Nat.reduceAdd,Nat.reduceLT,Nat.reduceLeDiff,Nat.reduceEqDiff,Nat.reduceBEq,↓reduceIte,Zbi,Zbb,oI,oN,a1,a3,a4,b1,b3,c1,c3,d2,z,hT,hC,hG,m0,m1,hf,Int.reduceBEq,Zag,Zai,Zaj,Zau,Zax,Zam,List.lookup_cons,List.lookup_nil]
  exact ZZ rfl (Zx _ hP3 hN3 _ _)
end
end
section
theorem ZF8 {O:ZR} {bf:Nat->Bool} {σ:Za} {t f own:Nat} {rest:List AVal} {cs cs':List AVal} {r r':AVal} (hb:bf f=false) (hp:rest.all Zac=true) (hc:Zd cs=true) (hc':Zd cs'=true) (hn:ZJ r'=true) (hv:viewR [.var cs'] r=some (r',[]))
  (h:O f (.ref 0 0::rest.map ZH) [.var cs]=some (r,[.var cs'])) (hs:σ[t]?=some (.var cs)) (sq:Nat) (hff:Za4 σ sq own=true):Zj O bf σ sq f own true (.ref t 0::rest)=some (r',σ.set t (.var cs'),{ any:=true,upd:=[(t,cs')] }):=by
 have htl:t < σ.length:=by
  rcases Nat.lt_or_ge t σ.length with h | h
  ·exact h
  ·rw [List.getElem?_eq_none h] at hs;cases hs
 have hup:Zbd (σ.set t (.var cs')) [t]=[(t,cs')]:=by
  simp only [Zbd,List.getElem?_set,if_pos htl,if_true]
 have hd:σ.getD t .free=.var cs:=by simp [List.getD_eq_getElem?_getD,hs]
 have hf0:Zs σ []=σ:=rfl
 have hsh:showAs σ (.ref t 0::rest)=some (.ref t 0::rest.map ZH,[]):=by
  rw [showAs,show showA σ (.ref t 0)=some (.ref t 0,[]) from rfl,Zeb hp]
  rfl
 have href:Zt (.ref t 0::rest.map ZH)=[t]:=by
  rw [Zt,Zdp hp];rfl
 unfold Zj Zb2
 rw [hb]
 simp only [Bool.false_eq_true,if_false,hsh,hf0,href,Zfn hs hc]
 unfold ZbH
 have hall:([t].all fun t=>okB (σ.getD t .free))=true:=by simp [List.all_cons,List.all_nil,hs,okB]
 rw [if_pos hall]
 have hρ:Zo σ 0 [t] t 0=some (0,0):=by simp [Zo,Z1,hs,Zq,ZU]
 have hheap:Zw σ 0 [t] (Zo σ 0 [t]) [t] 0=[.var cs]:=by
  simp only [Zw,hd,ZG,(ZaP _ cs hc).1]
 have hargs:Zf (Zo σ 0 [t]) (.ref t 0::rest.map ZH)=.ref 0 0::rest.map ZH:=by
  rw [Zf,Zdk hp]
  simp only [Zm,hρ]
 rw [hargs,hheap,h]
 have hask:Zaf true [t].length (some (r,[.var cs']))=some (r',[.var cs']):=by
  unfold Zaf
  rw [if_pos rfl]
  have hnp:∀ x,r≠.pan x:=by rintro x rfl;simp [viewR,ZS,ZN] at hv
  rw [show ZbJ [t].length (some (r,[.var cs']))=(match viewR [.var cs'] r with
   | some (r',ts)=>match gcA [t].length [r'] (Zs [.var cs'] ts) with
    | ([r''],σ')=>some (r'',σ')
    | _=>none
   | none=>none) from by cases r <;> first | rfl | exact absurd rfl (hnp _)]
  rw [hv]
  simp only [List.length_cons,List.length_nil,Nat.zero_add,show Zs [ZK.var cs'] []=[.var cs'] from rfl,ZlZ hn hc']
 rw [hask]
 have hk:Za1 σ [t] [.var cs'] 0=true:=by
  simp [Za1,okB,hs,Zck,Zq]
 simp only [ZaE,List.isEmpty_cons,Bool.false_eq_true,if_false,List.length_cons,List.length_nil,Nat.zero_add,Nat.le_add_right,Nat.le_refl,decide_true,hk,hff,Bool.and_self,if_true,Za8,ZaJ,List.getD_cons_zero,ZG,(Za5 _ r' hn).1,(ZaP _ cs' hc').1,hup]
theorem ZM0 {O:ZR} {bf:Nat->Bool} {σ:Za} {t f own:Nat} {rest:List AVal} {cs cs':List AVal} {x:AVal} {view:Bool} (hb:bf f=false) (hp:rest.all Zac=true) (hc:Zd cs=true) (hc':Zd cs'=true) (hn:ZJ x=true)
  (h:O f (.ref 0 0::rest.map ZH) [.var cs]=some (.pan x,[.var cs'])) (hs:σ[t]?=some (.var cs)) (sq:Nat) (hff:Za4 σ sq own=true):Zj O bf σ sq f own view (.ref t 0::rest)=some (.pan x,σ.set t (.var cs'),{ any:=true,upd:=[(t,cs')] }):=by
 have htl:t < σ.length:=by
  rcases Nat.lt_or_ge t σ.length with h | h
  ·exact h
  ·rw [List.getElem?_eq_none h] at hs;cases hs
 have hup:Zbd (σ.set t (.var cs')) [t]=[(t,cs')]:=by
  simp only [Zbd,List.getElem?_set,if_pos htl,if_true]
 have hd:σ.getD t .free=.var cs:=by simp [List.getD_eq_getElem?_getD,hs]
 have hf0:Zs σ []=σ:=rfl
 have hsh:showAs σ (.ref t 0::rest)=some (.ref t 0::rest.map ZH,[]):=by
  rw [showAs,show showA σ (.ref t 0)=some (.ref t 0,[]) from rfl,Zeb hp]
  rfl
 have href:Zt (.ref t 0::rest.map ZH)=[t]:=by
  rw [Zt,Zdp hp];rfl
 unfold Zj Zb2
 rw [hb]
 simp only [Bool.false_eq_true,if_false,hsh,hf0,href,Zfn hs hc]
 unfold ZbH
 have hall:([t].all fun t=>okB (σ.getD t .free))=true:=by simp [List.all_cons,List.all_nil,hs,okB]
 rw [if_pos hall]
 have hρ:Zo σ 0 [t] t 0=some (0,0):=by simp [Zo,Z1,hs,Zq,ZU]
 have hheap:Zw σ 0 [t] (Zo σ 0 [t]) [t] 0=[.var cs]:=by
  simp only [Zw,hd,ZG,(ZaP _ cs hc).1]
 have hargs:Zf (Zo σ 0 [t]) (.ref t 0::rest.map ZH)=.ref 0 0::rest.map ZH:=by
  rw [Zf,Zdk hp]
  simp only [Zm,hρ]
 rw [hargs,hheap,h]
 have hask:Zaf view [t].length (some (.pan x,[.var cs']))=some (.pan x,[.var cs']):=by
  unfold Zaf
  split <;> rfl
 rw [hask]
 have hk:Za1 σ [t] [.var cs'] 0=true:=by
  simp [Za1,okB,hs,Zck,Zq]
 have hnp:ZJ (.pan x)=true:=by simpa only [ZJ] using hn
 simp only [ZaE,List.isEmpty_cons,Bool.false_eq_true,if_false,List.length_cons,List.length_nil,Nat.zero_add,Nat.le_add_right,Nat.le_refl,decide_true,hk,hff,Bool.and_self,if_true,Za8,ZaJ,List.getD_cons_zero,ZG,(Za5 _ _ hnp).1,(ZaP _ cs' hc').1,hup]
theorem Zdb {O:ZR} {bf:Nat->Bool} {σ:Za} {sq f own:Nat} {view:Bool} {args vs vs':List AVal} {ids:List Nat} {h0 h:Za} {r0 r:AVal} (hb:bf f=false) (hsh:showAs σ args=some (vs,[])) (hre:Zz σ 1000 (Zt vs) []=ids) (hne:ids.isEmpty=false)
  (hall:(ids.all fun t=>okB (σ.getD t .free))=true) (hvs:Zf (Zo σ 0 ids) vs=vs') (hh:Zw σ 0 ids (Zo σ 0 ids) ids 0=h0) {hh0:Za} (hO:O f vs' h0=some (r0,hh0)) (hv:Zaf view ids.length (some (r0,hh0))=some (r,h))
  (hl1:h.length<=ids.length+own) (hl2:ids.length<=h.length) (hk:Za1 σ ids h 0=true) (hff:Za4 σ sq own=true) {r':AVal} (hr:Zm (ZaD σ ids sq) r=r') {σ':Za} (hlay:Za8 σ ids sq h 0 σ=σ') {u:List (Nat×List AVal)} (hu:Zbd σ' ids=u) :
  Zj O bf σ sq f own view args=some (r',σ',{ any:=true,upd:=u }):=by
 subst hr hlay hu
 unfold Zj Zb2
 rw [hb]
 simp only [Bool.false_eq_true,if_false,hsh,show Zs σ []=σ from rfl,hre]
 unfold ZbH
 rw [if_pos hall,hvs,hh,hO,hv]
 simp only [ZaE,hne,Bool.false_and,Bool.false_eq_true,if_false,hl1,hl2,decide_true,hk,hff,Bool.and_self,if_true]
end
section
section
variable (P:List AVal) (hP:P.length=26) (hN:Zd P=true) (l:Zb) (hl:l.length<=140737488355328)
include hP hN hl
theorem ZGD (xs:List AVal) {c:Int} (h:Zal l=.error c):evC FC PR BY 4 Zdu [(1,.ref 3 0),(0,.ref 0 0)] [.var [.ref 1 0],.var (Zi P 11 2 0 xs.length++[.lst false (l.map Zc)]),.row 0 1 xs,.var [.ref 1 0]]=some (.panic (Zy c),[],[.var [.ref 1 0],.var (Zi P 11 2 0 xs.length++[.lst false (l.map Zc)]),.row 0 1 xs,.var [.ref 1 0],.free]):=by
 have hT:=fun σ sq hs hr=>ZtV P hP hN 11 (by omega) xs.length 1 xs l hl σ 1 2 0 sq (by omega) hs hr h
 have hL:=Zb8 P hP hN 11 (by omega) xs.length 2 0
 have hc:(Zi P 11 2 0 xs.length)[11]?=some (.sl 2 0 0 xs.length):=by unfold Zi;rw [List.getElem?_set_self (by omega)]
 have a4:=fun L=>(Zaa _ hL 11 (by omega) L).trans hc
 simp -implicitDefEqProofs only [EQA,Nat.reduceAdd,Nat.reduceSub,Nat.reduceLT,Nat.reduceLeDiff,Nat.reduceEqDiff,Nat.reduceBEq,reduceCtorEq,↓reduceIte,Zdu,oI,oN,hT,a4,Zhy,Zdh,List.any_cons,List.any_nil,Zag,Zai,Zaj,Zau,Zax,Zam,Zdq,List.lookup_cons,List.lookup_nil]
theorem ZCt (xs:List AVal) (k:Int) (hk:P[0]?=some (.int .i64 k)) {e:Int} (h:Zat k l=.error e):∃ r:Zb,evC FC PR BY 4 Zdy [(1,.ref 3 0),(0,.ref 0 0)] [.var [.ref 1 0],.var (Zi P 8 2 0 xs.length++[.lst false (l.map Zc)]),.row 0 1 xs,.var [.ref 1 0]]=some (.panic (Zy e),[],[.var [.ref 1 0],.var (Zi P 8 2 0 xs.length++[.lst false (r.map Zc)]),.row 0 1 xs,.var [.ref 1 0],.free]):=by
 have hk0:(Zi P 8 1 0 xs.length)[0]?=some (.int .i64 k):=by unfold Zi;rw [List.getElem?_set_ne (by omega)];exact hk
 have hT0:=fun (σ:Za) sq (hs:σ[1]?=some (.var (Zi P 8 2 0 xs.length++[.lst false (l.map Zc)]))) (hr:σ[2]?=some (.row 0 1 xs))=>Zyr P hP hN 8 (by omega) xs.length 1 xs l hl k hk0 σ 1 2 0 sq (by omega) hs hr h
 have hL:=Zb8 P hP hN 8 (by omega) xs.length 2 0
 have hc:(Zi P 8 2 0 xs.length)[8]?=some (.sl 2 0 0 xs.length):=by unfold Zi;rw [List.getElem?_set_self (by omega)]
 have a4:=fun L=>(Zaa _ hL 8 (by omega) L).trans hc
 obtain ⟨r,hT⟩:=hT0 [.var [.ref 1 0],.var (Zi P 8 2 0 xs.length++[.lst false (l.map Zc)]),.row 0 1 xs,.var [.ref 1 0],.free] 4 rfl rfl
 refine ⟨r,?_⟩
 simp -implicitDefEqProofs only [EQA,Nat.reduceAdd,Nat.reduceSub,Nat.reduceLT,Nat.reduceLeDiff,Nat.reduceEqDiff,Nat.reduceBEq,reduceCtorEq,↓reduceIte,Zdy,oI,oN,hT,a4,Zhy,Zdh,List.any_cons,List.any_nil,Zag,Zai,Zaj,Zau,Zax,Zam,Zdq,List.lookup_cons,List.lookup_nil]
end
section
variable {cs:List AVal} {r:AVal} {σ:Za}
theorem ZuH (hr:ZJ r=true) (hc:Zd cs=true):Zak 3 (.var [.ref 1 0]::.var cs::.var [.ref 1 0]::σ) r=some (r,[.var [.ref 1 0],.var cs,.var [.ref 1 0]]):=by
 have e1:=fun ρ=>Za5 ρ r hr
 have e2:=fun ρ=>ZaP ρ cs hc
 have hi:ZB 3 [r] (.var [.ref 1 0]::.var cs::.var [.ref 1 0]::σ)=[0,1,2]:=by
  have : Zt [r]=[]:=by simp only [Zt,(e1 (fun _ _=>none)).2,List.append_nil]
  have hR:List.range 3=[0,1,2]:=rfl
  simp only [ZB,this,List.nil_append,hR,List.flatMap_cons,List.flatMap_nil,List.append_nil,List.getD_cons_zero,List.getD_cons_succ,ZM,(e2 (fun _ _=>none)).2]
  rfl
 have hρ:Zo (.var [.ref 1 0]::.var cs::.var [.ref 1 0]::σ) 3 [0,1,2] 1 0=some (1,0):=rfl
 simp only [Zak,gcA,hi,Zf,(e1 _).1,Zw,List.getD_cons_zero,List.getD_cons_succ,ZG,Zm,hρ,(e2 _).1]
theorem Zu6 {w:Nat} {xs:List AVal} (hr:ZJ r=true) (hc:Zt cs=[3]) (hren:∀ ρ:Rho,ρ 3 0=some (3,0)->Zf ρ cs=cs):Zak 3 (.var [.ref 1 0]::.var cs::.var [.ref 1 0]::.row 0 w xs::σ) r=some (r,[.var [.ref 1 0],.var cs,.var [.ref 1 0],.row 0 w xs]):=by
 have e1:=fun ρ=>Za5 ρ r hr
 have hi:ZB 3 [r] (.var [.ref 1 0]::.var cs::.var [.ref 1 0]::.row 0 w xs::σ)=[0,1,2,3]:=by
  have : Zt [r]=[]:=by simp only [Zt,(e1 (fun _ _=>none)).2,List.append_nil]
  have hR:List.range 3=[0,1,2]:=rfl
  simp only [ZB,this,List.nil_append,hR,List.flatMap_cons,List.flatMap_nil,List.append_nil,List.getD_cons_zero,List.getD_cons_succ,ZM,hc]
  rfl
 have hρ:Zo (.var [.ref 1 0]::.var cs::.var [.ref 1 0]::.row 0 w xs::σ) 3 [0,1,2,3] 1 0=some (1,0):=rfl
 have hρ3:Zo (.var [.ref 1 0]::.var cs::.var [.ref 1 0]::.row 0 w xs::σ) 3 [0,1,2,3] 3 0=some (3,0):=rfl
 simp only [Zak,gcA,hi,Zf,(e1 _).1,Zw,List.getD_cons_zero,List.getD_cons_succ,ZU,Zq,ZG,Zm,hρ,hren _ hρ3]
 rfl
theorem ZkH {w g:Nat} {xs:List AVal} (hr:ZJ r=true) (hg:g<=1) (hc:Zt cs=[2]) (hren:∀ ρ:Rho,ρ 2 g=some (2,g)->Zf ρ cs=cs):Zak 4 (.var [.ref 1 0]::.var cs::.row g w xs::.var [.ref 1 0]::σ) r=some (r,[.var [.ref 1 0],.var cs,.row g w xs,.var [.ref 1 0]]):=by
 have e1:=fun ρ=>Za5 ρ r hr
 have hi:ZB 4 [r] (.var [.ref 1 0]::.var cs::.row g w xs::.var [.ref 1 0]::σ)=[0,1,2,3]:=by
  have : Zt [r]=[]:=by simp only [Zt,(e1 (fun _ _=>none)).2,List.append_nil]
  have hR:List.range 4=[0,1,2,3]:=rfl
  simp only [ZB,this,List.nil_append,hR,List.flatMap_cons,List.flatMap_nil,List.append_nil,List.getD_cons_zero,List.getD_cons_succ,ZM,hc]
  rfl
 have hng:(if g=0 then 0 else 1)=g:=by split <;> omega
 have hρ:Zo (.var [.ref 1 0]::.var cs::.row g w xs::.var [.ref 1 0]::σ) 4 [0,1,2,3] 1 0=some (1,0):=rfl
 have hρ3:Zo (.var [.ref 1 0]::.var cs::.row g w xs::.var [.ref 1 0]::σ) 4 [0,1,2,3] 2 g=some (2,g):=by
  simp only [Zo,Z1,Zq,ZU,List.getElem?_cons_succ,List.getElem?_cons_zero]
  simp [hng]
 simp only [Zak,gcA,hi,Zf,(e1 _).1,Zw,List.getD_cons_zero,List.getD_cons_succ,ZU,Zq,ZG,Zm,hρ,hren _ hρ3]
 simp [hng]
end
section
variable (P:List AVal) (hP:P.length=26) (hN:Zd P=true) (l:Zb) (hl:l.length<=140737488355328)
include hP hN hl
theorem ZhA (k:Nat) (hk:k < 26) (r g n:Nat) (L:Zb):Zt (Zi P k r g n++[.lst false (L.map Zc)])=[r]:=by
 rw [ZcI,Zi,Zin hN (by omega)];rfl
theorem Zhr (k r g n r' g':Nat) (L:Zb) (ρ:Rho) (h:ρ r g=some (r',g')):Zf ρ (Zi P k r g n++[.lst false (L.map Zc)])=Zi P k r' g' n++[.lst false (L.map Zc)]:=by
 rw [Zb3,Zi,ZiZ ρ hN,Zi]
 simp only [Zm,h,Zf]
theorem ZK3 (h11:P[11]?=some (.lst true [])) {s r:Zb} (h:Zal l=.ok (s,r)):E 123 [.ref 0 0,.ref 2 0] [.var [.ref 1 0],.var (P++[.lst false (l.map Zc)]),.var [.ref 1 0]]=some (.tup [],[.var [.ref 1 0],.var (Zi P 11 3 0 1++[.lst false (r.map Zc)]),.var [.ref 1 0],.row 0 1 [.str s]]):=by
 rw [Zh (by rfl) Zk1]
 have:=ZyU P hP hN l hl h11 h
 have h2:=Zu6 (σ:=[]) (w:=1) (xs:=[.str s]) (r:=.tup []) rfl (ZhA P hP hN l hl 11 (by omega) 3 0 1 r) (fun ρ hρ=>Zhr P hP hN l hl 11 3 0 1 3 0 r ρ hρ)
 show Zap 3 _ (evC FC PR BY 3 Zdu [(1,.ref 2 0),(0,.ref 0 0)] _)=_
 rw [this]
 exact h2
theorem ZOS {c:Int} (h:Zal l=.error c) (h11:P[11]?=some (.lst true [])):E 123 [.ref 0 0,.ref 2 0] [.var [.ref 1 0],.var (P++[.lst false (l.map Zc)]),.var [.ref 1 0]]=some (.pan (Zy c),[.var [.ref 1 0],.var (P++[.lst false (l.map Zc)]),.var [.ref 1 0]]):=by
 rw [Zh (by rfl) Zk1]
 have:=Zww P hP hN l hl h h11
 have h2:=ZuH (σ:=[.free]) (r:=.pan (Zy c)) rfl (Zx P hP hN false (l.map Zc))
 show Zap 3 _ (evC FC PR BY 3 Zdu [(1,.ref 2 0),(0,.ref 0 0)] _)=_
 rw [this]
 exact h2
theorem ZPc (h8:P[8]?=some (.lst true [])) (k:Int) (hk:P[0]?=some (.int .i64 k)) {c:Int} {r:Zb} (h:Zat k l=.ok (c,r)):E 125 [.ref 0 0,.ref 2 0] [.var [.ref 1 0],.var (P++[.lst false (l.map Zc)]),.var [.ref 1 0]]=some (.tup [],[.var [.ref 1 0],.var (Zi P 8 3 0 1++[.lst false (r.map Zc)]),.var [.ref 1 0],.row 0 1 [.int .i64 c]]):=by
 rw [Zh (by rfl) Zka]
 have:=ZFY P hP hN l hl h8 k hk h
 have h2:=Zu6 (σ:=[]) (w:=1) (xs:=[.int .i64 c]) (r:=.tup []) rfl (ZhA P hP hN l hl 8 (by omega) 3 0 1 r) (fun ρ hρ=>Zhr P hP hN l hl 8 3 0 1 3 0 r ρ hρ)
 show Zap 3 _ (evC FC PR BY 3 Zdy [(1,.ref 2 0),(0,.ref 0 0)] _)=_
 rw [this]
 exact h2
theorem ZBL (h8:P[8]?=some (.lst true [])) (k:Int) (hk:P[0]?=some (.int .i64 k)) {e:Int} (h:Zat k l=.error e):∃ r:Zb,E 125 [.ref 0 0,.ref 2 0] [.var [.ref 1 0],.var (P++[.lst false (l.map Zc)]),.var [.ref 1 0]]=some (.pan (Zy e),[.var [.ref 1 0],.var (P++[.lst false (r.map Zc)]),.var [.ref 1 0]]):=by
 obtain ⟨r,this⟩:=ZOw P hP hN l hl h8 k hk h
 have h2:=ZuH (σ:=[.free]) (r:=.pan (Zy e)) rfl (Zx P hP hN false (r.map Zc))
 refine ⟨r,?_⟩
 rw [Zh (by rfl) Zka]
 show Zap 3 _ (evC FC PR BY 3 Zdy [(1,.ref 2 0),(0,.ref 0 0)] _)=_
 rw [this]
 exact h2
variable (xs:List AVal)
theorem ZEO (hx:xs.length*16+16<=140737488355328) (kk:kOk 1 xs=true) {s r:Zb} (h:Zal l=.ok (s,r)):E 123 [.ref 0 0,.ref 3 0] [.var [.ref 1 0],.var (Zi P 11 2 0 xs.length++[.lst false (l.map Zc)]),.row 0 1 xs,.var [.ref 1 0]]=some (.tup [],[.var [.ref 1 0],.var (Zi P 11 2 1 (xs.length+1)++[.lst false (r.map Zc)]),.row 1 1 (xs++[.str s]),.var [.ref 1 0]]):=by
 rw [Zh (by rfl) Zk1]
 have:=Zyv P hP hN l hl xs hx kk h
 have h2:=ZkH (σ:=[.free]) (w:=1) (g:=1) (xs:=xs++[.str s]) (r:=.tup []) rfl (by omega) (ZhA P hP hN l hl 11 (by omega) 2 1 (xs.length+1) r) (fun ρ hρ=>Zhr P hP hN l hl 11 2 1 (xs.length+1) 2 1 r ρ hρ)
 show Zap 4 _ (evC FC PR BY 4 Zdu [(1,.ref 3 0),(0,.ref 0 0)] _)=_
 rw [this]
 exact h2
theorem ZM3 {c:Int} (h:Zal l=.error c):E 123 [.ref 0 0,.ref 3 0] [.var [.ref 1 0],.var (Zi P 11 2 0 xs.length++[.lst false (l.map Zc)]),.row 0 1 xs,.var [.ref 1 0]]=some (.pan (Zy c),[.var [.ref 1 0],.var (Zi P 11 2 0 xs.length++[.lst false (l.map Zc)]),.row 0 1 xs,.var [.ref 1 0]]):=by
 rw [Zh (by rfl) Zk1]
 have:=ZGD P hP hN l hl xs h
 have h2:=ZkH (σ:=[.free]) (w:=1) (g:=0) (xs:=xs) (r:=.pan (Zy c)) rfl (by omega) (ZhA P hP hN l hl 11 (by omega) 2 0 xs.length l) (fun ρ hρ=>Zhr P hP hN l hl 11 2 0 xs.length 2 0 l ρ hρ)
 show Zap 4 _ (evC FC PR BY 4 Zdu [(1,.ref 3 0),(0,.ref 0 0)] _)=_
 rw [this]
 exact h2
theorem ZDC (hx:xs.length*8+8<=140737488355328) (kk:kOk 1 xs=true) (k:Int) (hk:P[0]?=some (.int .i64 k)) {c:Int} {r:Zb} (h:Zat k l=.ok (c,r)):E 125 [.ref 0 0,.ref 3 0] [.var [.ref 1 0],.var (Zi P 8 2 0 xs.length++[.lst false (l.map Zc)]),.row 0 1 xs,.var [.ref 1 0]]=some (.tup [],[.var [.ref 1 0],.var (Zi P 8 2 1 (xs.length+1)++[.lst false (r.map Zc)]),.row 1 1 (xs++[.int .i64 c]),.var [.ref 1 0]]):=by
 rw [Zh (by rfl) Zka]
 have:=ZB1 P hP hN l hl xs hx kk k hk h
 have h2:=ZkH (σ:=[.free]) (w:=1) (g:=1) (xs:=xs++[.int .i64 c]) (r:=.tup []) rfl (by omega) (ZhA P hP hN l hl 8 (by omega) 2 1 (xs.length+1) r) (fun ρ hρ=>Zhr P hP hN l hl 8 2 1 (xs.length+1) 2 1 r ρ hρ)
 show Zap 4 _ (evC FC PR BY 4 Zdy [(1,.ref 3 0),(0,.ref 0 0)] _)=_
 rw [this]
 exact h2
theorem Zwm (k:Int) (hk:P[0]?=some (.int .i64 k)) {e:Int} (h:Zat k l=.error e):∃ r:Zb,E 125 [.ref 0 0,.ref 3 0] [.var [.ref 1 0],.var (Zi P 8 2 0 xs.length++[.lst false (l.map Zc)]),.row 0 1 xs,.var [.ref 1 0]]=some (.pan (Zy e),[.var [.ref 1 0],.var (Zi P 8 2 0 xs.length++[.lst false (r.map Zc)]),.row 0 1 xs,.var [.ref 1 0]]):=by
 obtain ⟨r,this⟩:=ZCt P hP hN l hl xs k hk h
 have h2:=ZkH (σ:=[.free]) (w:=1) (g:=0) (xs:=xs) (r:=.pan (Zy e)) rfl (by omega) (ZhA P hP hN l hl 8 (by omega) 2 0 xs.length r) (fun ρ hρ=>Zhr P hP hN l hl 8 2 0 xs.length 2 0 r ρ hρ)
 refine ⟨r,?_⟩
 rw [Zh (by rfl) Zka]
 show Zap 4 _ (evC FC PR BY 4 Zdy [(1,.ref 3 0),(0,.ref 0 0)] _)=_
 rw [this]
 exact h2
end
end
section
def Zas {α:Type} (one:Zb->RK α):Nat->Zb->Except Int (List α)
 | 0,l=>if l.length=0 then .ok [] else .error 0
 | n+1,l=>if l.length=0 then .ok [] else match one l with
  | .error e=>.error e
  | .ok (a,r)=>match Zas one n r with
   | .error e=>.error e
   | .ok t=>.ok (a::t)
section
variable {O:ZR} {bf:Nat->Bool} {f:Nat} {cs cs1 cs2 cs3 xs xs2:List AVal} {w w2 g2:Nat} {q:AVal} {σ:Za} {sq:Nat}
theorem ZsC (h0:σ[0]?=some (.var cs)) (h1:σ[1]?=some (.var [.ref 0 0])) (h2:σ[2]?=some (.var [.ref 0 0])) (hc:Zt cs=[]):Zz σ 1000 [1,2] []=[1,0,2]:=by
 have d0:σ.getD 0 .free=.var cs:=by simp [List.getD_eq_getElem?_getD,h0]
 have d1:σ.getD 1 .free=.var [.ref 0 0]:=by simp [List.getD_eq_getElem?_getD,h1]
 have d2:σ.getD 2 .free=.var [.ref 0 0]:=by simp [List.getD_eq_getElem?_getD,h2]
 rw [show (1000:Nat)=995+1+1+1+1+1 from rfl]
 simp only [Zz,d0,d1,d2,ZM,Zt,Z2,hc,List.contains_cons,List.contains_nil,List.append_nil,List.nil_append,List.cons_append,Bool.or_false,Bool.false_eq_true,if_false]
 simp
theorem ZHN (h0:σ[0]?=some (.var cs)) (h1:σ[1]?=some (.var [.ref 0 0])) (h2:σ[2]?=some (.var [.ref 0 0])) (h3:σ[3]?=some (.row 0 w xs)) (hc:Zt cs=[3]):Zz σ 1000 [1,2] []=[1,0,3,2]:=by
 have d0:σ.getD 0 .free=.var cs:=by simp [List.getD_eq_getElem?_getD,h0]
 have d1:σ.getD 1 .free=.var [.ref 0 0]:=by simp [List.getD_eq_getElem?_getD,h1]
 have d2:σ.getD 2 .free=.var [.ref 0 0]:=by simp [List.getD_eq_getElem?_getD,h2]
 have d3:σ.getD 3 .free=.row 0 w xs:=by simp [List.getD_eq_getElem?_getD,h3]
 rw [show (1000:Nat)=994+1+1+1+1+1+1 from rfl]
 simp only [Zz,d0,d1,d2,d3,ZM,Zt,Z2,hc,List.contains_cons,List.contains_nil,List.append_nil,List.nil_append,List.cons_append,Bool.or_false,Bool.false_eq_true,if_false]
 simp
theorem ZMF (hb:bf f=false) (hc:Zd cs=true) (hq:ZJ q=true) (hback:∀ ρ:Rho,ρ 3 0=some (3,0)->Zf ρ cs2=cs3) (hO:O f [.ref 0 0,.ref 2 0] [.var [.ref 1 0],.var cs,.var [.ref 1 0]]=some (q,[.var [.ref 1 0],.var cs2,.var [.ref 1 0],.row 0 w xs])) :
  Zj O bf [.var cs,.var [.ref 0 0],.var [.ref 0 0],.free,.free,.free,.free] 3 f 4 false [.ref 1 0,.ref 2 0]=some (q,[.var cs3,.var [.ref 0 0],.var [.ref 0 0],.row 0 w xs,.free,.free,.free],{ any:=true,upd:=[(1,[.ref 0 0]),(0,cs3),(2,[.ref 0 0])] }):=by
 have ec:=fun ρ=>ZaP ρ cs hc
 refine Zdb (ids:=[1,0,2]) (vs:=[.ref 1 0,.ref 2 0]) hb rfl (ZsC rfl rfl rfl (ec (fun _ _=>none)).2) rfl rfl rfl ?_ hO rfl (by simp) (by simp) rfl rfl (Za5 _ q hq).1 ?_ rfl
 ·show [ZK.var (Zf _ [.ref 0 0]),.var (Zf _ cs),.var (Zf _ [.ref 0 0])]=_
  rw [(ec _).1];rfl
 ·have hb3:=hback (ZaD [.var cs,.var [.ref 0 0],.var [.ref 0 0],.free,.free,.free,.free] [1,0,2] 3) rfl
  show [ZK.var (Zf _ cs2),.var (Zf _ [.ref 1 0]),.var (Zf _ [.ref 1 0]),.row 0 w xs,.free,.free,.free]=_
  rw [hb3];rfl
theorem ZLR (hb:bf f=false) (hc:Zd cs=true) (hq:ZJ q=true) (hc2:Zd cs2=true) (hO:O f [.ref 0 0,.ref 2 0] [.var [.ref 1 0],.var cs,.var [.ref 1 0]]=some (q,[.var [.ref 1 0],.var cs2,.var [.ref 1 0]])) :
  Zj O bf [.var cs,.var [.ref 0 0],.var [.ref 0 0],.free,.free,.free,.free] 3 f 4 false [.ref 1 0,.ref 2 0]=some (q,[.var cs2,.var [.ref 0 0],.var [.ref 0 0],.free,.free,.free,.free],{ any:=true,upd:=[(1,[.ref 0 0]),(0,cs2),(2,[.ref 0 0])] }):=by
 have ec:=fun ρ=>ZaP ρ cs hc
 refine Zdb (ids:=[1,0,2]) (vs:=[.ref 1 0,.ref 2 0]) hb rfl (ZsC rfl rfl rfl (ec (fun _ _=>none)).2) rfl rfl rfl ?_ hO rfl (by simp) (by simp) rfl rfl (Za5 _ q hq).1 ?_ rfl
 ·show [ZK.var (Zf _ [.ref 0 0]),.var (Zf _ cs),.var (Zf _ [.ref 0 0])]=_
  rw [(ec _).1];rfl
 ·show [ZK.var (Zf _ cs2),.var (Zf _ [.ref 1 0]),.var (Zf _ [.ref 1 0]),.free,.free,.free,.free]=_
  rw [(ZaP _ cs2 hc2).1];rfl
theorem ZrP (hb:bf f=false) (hc:Zt cs=[3]) (hren:∀ ρ:Rho,ρ 3 0=some (2,0)->Zf ρ cs=cs1) (hq:ZJ q=true) (hg2:g2<=1) (hback:∀ ρ:Rho,ρ 2 g2=some (3,g2)->Zf ρ cs2=cs3) (hO:O f [.ref 0 0,.ref 3 0] [.var [.ref 1 0],.var cs1,.row 0 w xs,.var [.ref 1 0]]=some (q,[.var [.ref 1 0],.var cs2,.row g2 w2 xs2,.var [.ref 1 0]])) :
  Zj O bf [.var cs,.var [.ref 0 0],.var [.ref 0 0],.row 0 w xs,.free,.free,.free,.free] 4 f 4 false [.ref 1 0,.ref 2 0]=some (q,[.var cs3,.var [.ref 0 0],.var [.ref 0 0],.row g2 w2 xs2,.free,.free,.free,.free],{ any:=true,upd:=[(1,[.ref 0 0]),(0,cs3),(2,[.ref 0 0])] }):=by
 refine Zdb (ids:=[1,0,3,2]) (vs:=[.ref 1 0,.ref 2 0]) hb rfl (ZHN rfl rfl rfl rfl hc) rfl rfl rfl ?_ hO rfl (by simp) (by simp) ?_ rfl (Za5 _ q hq).1 ?_ rfl
 ·have h1:=hren (Zo [.var cs,.var [.ref 0 0],.var [.ref 0 0],.row 0 w xs,.free,.free,.free,.free] 0 [1,0,3,2]) rfl
  show [ZK.var (Zf _ [.ref 0 0]),.var (Zf _ cs),.row 0 w xs,.var (Zf _ [.ref 0 0])]=_
  rw [h1];rfl
 ·simp [Za1,okB,Zck,Zq,hg2]
 ·have hb3:=hback (ZaD [.var cs,.var [.ref 0 0],.var [.ref 0 0],.row 0 w xs,.free,.free,.free,.free] [1,0,3,2] 4) (by simp [ZaD,Zq])
  show [ZK.var (Zf _ cs2),.var (Zf _ [.ref 1 0]),.var (Zf _ [.ref 1 0]),.row (0+g2) w2 xs2,.free,.free,.free,.free]=_
  rw [hb3,Nat.zero_add];rfl
theorem Ztz {f g:Nat} (hc:Zt cs=[3]) (hg:g<=1) (hren:∀ ρ:Rho,ρ 3 g=some (3,0)->Zf ρ cs=cs1) (τ:Za) :
  gcT 3 [(1,.fn f [.ref 1 0,.ref 2 0]),(0,.ref 0 0)] (.var cs::.var [.ref 0 0]::.var [.ref 0 0]::.row g w xs::τ)=([(1,.fn f [.ref 1 0,.ref 2 0]),(0,.ref 0 0)],[.var cs1,.var [.ref 0 0],.var [.ref 0 0],.row 0 w xs]):=by
 have hi:ZB 3 [.fn f [.ref 1 0,.ref 2 0],.ref 0 0] (.var cs::.var [.ref 0 0]::.var [.ref 0 0]::.row g w xs::τ)=[0,1,2,3]:=by
  have hR:List.range 3=[0,1,2]:=rfl
  simp only [ZB,hR,List.flatMap_cons,List.flatMap_nil,List.append_nil,List.getD_cons_zero,List.getD_cons_succ,ZM,Zt,Z2,hc]
  rfl
 have hρ:Zo (.var cs::.var [.ref 0 0]::.var [.ref 0 0]::.row g w xs::τ) 3 [0,1,2,3] 3 g=some (3,0):=by
  simp [Zo,Z1,Zq,ZU]
 have hρ0:Zo (.var cs::.var [.ref 0 0]::.var [.ref 0 0]::.row g w xs::τ) 3 [0,1,2,3] 0 0=some (0,0):=rfl
 have hρ1:Zo (.var cs::.var [.ref 0 0]::.var [.ref 0 0]::.row g w xs::τ) 3 [0,1,2,3] 1 0=some (1,0):=rfl
 have hρ2:Zo (.var cs::.var [.ref 0 0]::.var [.ref 0 0]::.row g w xs::τ) 3 [0,1,2,3] 2 0=some (2,0):=rfl
 simp only [gcT,gcA,List.map_cons,List.map_nil,hi,Zw,List.getD_cons_zero,List.getD_cons_succ,ZU,Zq,ZG,Zf,Zm,hρ0,hρ1,hρ2,hren _ hρ]
 simp
theorem ZjX {r:AVal} (hr:ZJ r=true) (hc:Zt cs=[3]) (hren:∀ ρ:Rho,ρ 3 0=some (3,0)->Zf ρ cs=cs) (τ:Za):Zak 3 (.var cs::.var [.ref 0 0]::.var [.ref 0 0]::.row 0 w xs::τ) r=some (r,[.var cs,.var [.ref 0 0],.var [.ref 0 0],.row 0 w xs]):=by
 have e1:=fun ρ=>Za5 ρ r hr
 have hi:ZB 3 [r] (.var cs::.var [.ref 0 0]::.var [.ref 0 0]::.row 0 w xs::τ)=[0,1,2,3]:=by
  have hR:List.range 3=[0,1,2]:=rfl
  simp only [ZB,(e1 (fun _ _=>none)).2,List.nil_append,hR,List.flatMap_cons,List.flatMap_nil,List.append_nil,List.getD_cons_zero,List.getD_cons_succ,ZM,Zt,Z2,hc]
  rfl
 have hρ3:Zo (.var cs::.var [.ref 0 0]::.var [.ref 0 0]::.row 0 w xs::τ) 3 [0,1,2,3] 3 0=some (3,0):=rfl
 have hρ0:Zo (.var cs::.var [.ref 0 0]::.var [.ref 0 0]::.row 0 w xs::τ) 3 [0,1,2,3] 0 0=some (0,0):=rfl
 simp only [Zak,gcA,hi,Zf,(e1 _).1,Zw,List.getD_cons_zero,List.getD_cons_succ,ZU,Zq,ZG,Zm,hρ0,hren _ hρ3]
 rfl
theorem Zj4 {r:AVal} (hr:ZJ r=true) (hc:Zd cs=true) (τ:Za):Zak 3 (.var cs::.var [.ref 0 0]::.var [.ref 0 0]::τ) r=some (r,[.var cs,.var [.ref 0 0],.var [.ref 0 0]]):=by
 have e1:=fun ρ=>Za5 ρ r hr
 have e2:=fun ρ=>ZaP ρ cs hc
 have hi:ZB 3 [r] (.var cs::.var [.ref 0 0]::.var [.ref 0 0]::τ)=[0,1,2]:=by
  have hR:List.range 3=[0,1,2]:=rfl
  simp only [ZB,(e1 (fun _ _=>none)).2,List.nil_append,hR,List.flatMap_cons,List.flatMap_nil,List.append_nil,List.getD_cons_zero,List.getD_cons_succ,ZM,Zt,Z2,(e2 (fun _ _=>none)).2]
  rfl
 have hρ0:Zo (.var cs::.var [.ref 0 0]::.var [.ref 0 0]::τ) 3 [0,1,2] 0 0=some (0,0):=rfl
 simp only [Zak,gcA,hi,Zf,(e1 _).1,Zw,List.getD_cons_zero,List.getD_cons_succ,ZG,Zm,hρ0,(e2 _).1]
end
section
variable {α:Type} {one:Zb->RK α} {g:α->AVal} {f k:Nat} (P:List AVal) (hP:P.length=26) (hN:Zd P=true) (hk:k < 26) (hf:f < 1000000) (hby:BY f=false)
  (hlen:∀ {l s r},one l=.ok (s,r)->r.length < l.length)
  (hT1:∀ (xs:List α) (l:Zb) (s:α) (r:Zb),l.length<=1099511627776->xs.length<=1099511627776->one l=.ok (s,r)->E f [.ref 0 0,.ref 3 0] [.var [.ref 1 0],.var (Zi P k 2 0 xs.length++[.lst false (l.map Zc)]),.row 0 1 (xs.map g),.var [.ref 1 0]]=some (.tup [],[.var [.ref 1 0],.var (Zi P k 2 1 (xs.length+1)++[.lst false (r.map Zc)]),.row 1 1 ((xs++[s]).map g),.var [.ref 1 0]]))
  (hF1:∀ (xs:List α) (l:Zb) (e:Int),l.length<=1099511627776->one l=.error e->∃ r:Zb,E f [.ref 0 0,.ref 3 0] [.var [.ref 1 0],.var (Zi P k 2 0 xs.length++[.lst false (l.map Zc)]),.row 0 1 (xs.map g),.var [.ref 1 0]]=some (.pan (Zy e),[.var [.ref 1 0],.var (Zi P k 2 0 xs.length++[.lst false (r.map Zc)]),.row 0 1 (xs.map g),.var [.ref 1 0]]))
include hP hN hk
def H3 (P:List AVal) (k n:Nat) (l:Zb) (ys:List AVal):Za:=[.var (Zi P k 3 0 n++[.lst false (l.map Zc)]),.var [.ref 0 0],.var [.ref 0 0],.row 0 1 ys]
theorem ZbA (r g n:Nat) (L:Zb):Zt (Zi P k r g n++[.lst false (L.map Zc)])=[r]:=by
 rw [ZcI,Zi,Zin hN (by omega)];rfl
theorem ZaO (r g n r' g':Nat) (L:Zb) (ρ:Rho) (h:ρ r g=some (r',g')):Zf ρ (Zi P k r g n++[.lst false (L.map Zc)])=Zi P k r' g' n++[.lst false (L.map Zc)]:=by
 rw [Zb3,Zi,ZiZ ρ hN,Zi]
 simp only [Zm,h,Zf]
include hf hby hlen hT1 hF1
theorem ZuP:∀ (n:Nat) (l:Zb) (xs:List α),l.length<=n->n+xs.length<=1099511627776 ->
  (∀ ts,Zas one n l=.ok ts->ZaZ 3 [(1,.fn f [.ref 1 0,.ref 2 0]),(0,.ref 0 0)] (H3 P k xs.length l (xs.map g))=some (.tup [],H3 P k (xs++ts).length [] ((xs++ts).map g))) /\
  (∀ e,Zas one n l=.error e->∃ (xs':List α) (r:Zb),ZaZ 3 [(1,.fn f [.ref 1 0,.ref 2 0]),(0,.ref 0 0)] (H3 P k xs.length l (xs.map g))=some (.pan (Zy e),H3 P k xs'.length r (xs'.map g))):=by
 intro n
 induction n with
 | zero =>
  intro l xs hl hx
  have l0:l=[]:=List.eq_nil_of_length_eq_zero (by omega)
  subst l0
  refine ⟨fun ts h=>?_,fun e h=>by simp [Zas] at h⟩
  have : ts=[]:=by simpa [Zas] using h.symm
  subst this
  rw [List.append_nil]
  have hL:=Zb8 P hP hN k hk xs.length 3 0
  have b2:=Zaq _ hL
  have hO:=ZjX (w:=1) (xs:=xs.map g) (r:=.tup []) rfl (ZbA P hP hN hk 3 0 xs.length []) (fun ρ h=>ZaO P hP hN hk 3 0 xs.length 3 0 [] ρ h)
  unfold H3 ZaZ
  rw [Z9]
  generalize Zi P k 3 0 xs.length=Q at *
  generalize xs.map g=ys at *
  simp -implicitDefEqProofs only [EQA,Nat.reduceAdd,Nat.reduceLT,Nat.reduceEqDiff,Nat.reduceBEq,reduceCtorEq,decide_eq_true_eq,ite_self,↓reduceIte,Zkm,ZdQ,Zc6,oI,b2]
  exact hO _
 | succ n ih =>
  intro l xs hl hx
  have hL:=Zb8 P hP hN k hk xs.length 3 0
  have b2:=Zaq _ hL
  by_cases l0:l.length=0
  ·have l0:l=[]:=List.eq_nil_of_length_eq_zero l0
   subst l0
   refine ⟨fun ts h=>?_,fun e h=>by simp [Zas] at h⟩
   have : ts=[]:=by simpa [Zas] using h.symm
   subst this
   rw [List.append_nil]
   have hO:=ZjX (w:=1) (xs:=xs.map g) (r:=.tup []) rfl (ZbA P hP hN hk 3 0 xs.length []) (fun ρ h=>ZaO P hP hN hk 3 0 xs.length 3 0 [] ρ h)
   unfold H3 ZaZ
   rw [Z9]
   generalize Zi P k 3 0 xs.length=Q at *
   generalize xs.map g=ys at *
   simp -implicitDefEqProofs only [EQA,Nat.reduceAdd,Nat.reduceLT,Nat.reduceEqDiff,Nat.reduceBEq,reduceCtorEq,decide_eq_true_eq,ite_self,↓reduceIte,Zkm,ZdQ,Zc6,oI,b2]
   exact hO _
  ·have z1:((l.length:Nat):Int) > 0:=by omega
   have z2:(0:Int) < ((l.length:Nat):Int):=by omega
   cases ho:one l with
   | error e =>
    refine ⟨fun ts h=>by simp [Zas,l0,ho] at h,fun e' h=>?_⟩
    have : e'=e:=by simpa [Zas,l0,ho] using h.symm
    subst this
    obtain ⟨r,hE⟩:=hF1 xs l e' (by omega) ho
    have hC:=ZrP (O:=E) (bf:=BY) (cs:=Zi P k 3 0 xs.length++[.lst false (l.map Zc)]) (cs3:=Zi P k 3 0 xs.length++[.lst false (r.map Zc)]) hby (ZbA P hP hN hk 3 0 xs.length l) (fun ρ h=>ZaO P hP hN hk 3 0 xs.length 2 0 l ρ h) (q:=.pan (Zy e')) rfl (by omega) (fun ρ h=>ZaO P hP hN hk 2 0 xs.length 3 0 r ρ h) hE
    have hO:=ZjX (w:=1) (xs:=xs.map g) (r:=.pan (Zy e')) rfl (ZbA P hP hN hk 3 0 xs.length r) (fun ρ h=>ZaO P hP hN hk 3 0 xs.length 3 0 r ρ h)
    refine ⟨xs,r,?_⟩
    unfold H3 ZaZ
    rw [Z9]
    clear hE hT1 hF1 ih
    generalize Zi P k 3 0 xs.length=Q at *
    generalize xs.map g=ys at *
    generalize Zy e'=ce at *
    simp -implicitDefEqProofs only [EQA,Nat.reduceAdd,Nat.reduceLT,Nat.reduceEqDiff,Nat.reduceBEq,reduceCtorEq,↓reduceIte,ZdQ,Zc6,oI,b2,hC,hf,z1]
    exact hO _
   | ok s =>
    obtain ⟨s,r⟩:=s
    have hr:=hlen ho
    have hE:=hT1 xs l s r (by omega) (by omega) ho
    have hC:=ZrP (O:=E) (bf:=BY) (cs:=Zi P k 3 0 xs.length++[.lst false (l.map Zc)]) (cs3:=Zi P k 3 1 (xs.length+1)++[.lst false (r.map Zc)]) hby (ZbA P hP hN hk 3 0 xs.length l) (fun ρ h=>ZaO P hP hN hk 3 0 xs.length 2 0 l ρ h) (q:=.tup []) rfl (by omega) (fun ρ h=>ZaO P hP hN hk 2 1 (xs.length+1) 3 1 r ρ h) hE
    have hG:=Ztz (f:=f) (w:=1) (xs:=(xs++[s]).map g) (g:=1) (ZbA P hP hN hk 3 1 (xs.length+1) r) (by omega) (fun ρ h=>ZaO P hP hN hk 3 1 (xs.length+1) 3 0 r ρ h)
    have step:ZaZ 3 [(1,.fn f [.ref 1 0,.ref 2 0]),(0,.ref 0 0)] (H3 P k xs.length l (xs.map g))=ZaZ 3 [(1,.fn f [.ref 1 0,.ref 2 0]),(0,.ref 0 0)] (H3 P k (xs++[s]).length r ((xs++[s]).map g)):=by
     rw [show (xs++[s]).length=xs.length+1 from by simp]
     unfold H3
     conv=>lhs;unfold ZaZ
     conv=>rhs;unfold ZaZ
     conv=>lhs;rw [Z9]
     clear hE hT1 hF1 ih
     generalize Zi P k 3 0 xs.length=Q at *
     generalize Zi P k 3 1 (xs.length+1)=Q2 at *
     generalize Zi P k 3 0 (xs.length+1)=Q3 at *
     generalize xs.map g=ys at *
     generalize (xs++[s]).map g=zs at *
     simp -implicitDefEqProofs only [EQA,Z5,Nat.reduceAdd,Nat.reduceLT,Nat.reduceEqDiff,Nat.reduceBEq,reduceCtorEq,↓reduceIte,ZdQ,Zc6,oI,b2,hC,hG,hf,z1]
    obtain ⟨i1,i2⟩:=ih r (xs++[s]) (by omega) (by simp;omega)
    refine ⟨fun ts h=>?_,fun e h=>?_⟩
    ·rw [step]
     simp only [Zas,l0,ho,if_false] at h
     cases hl2:Zas one n r with
     | error e=>rw [hl2] at h;cases h
     | ok us =>
      rw [hl2] at h
      injection h with h;subst h
      have:=i1 us hl2
      rw [List.append_assoc,List.singleton_append] at this
      exact this
    ·rw [step]
     simp only [Zas,l0,ho,if_false] at h
     cases hl2:Zas one n r with
     | error e2 =>
      rw [hl2] at h
      injection h with h;subst h
      exact i2 e2 hl2
     | ok us=>rw [hl2] at h;cases h
end
end
section
open Go.RowKit
def Zfr (m i j:Nat) (rs:List ZcD) (σ:Za):Option (AVal×Za):=match resA [(3,.ref j 0),(2,.ref i 0)] σ rs with
 | some r=>Zak m σ r
 | none=>none
noncomputable def Zgl (fs:Nat->Option ZE) (prim:Zcz) (bf:Nat->Bool) (tc:Nat) (c2 c3:Ze) (rs:List ZcD) (m:Nat) (tm1:Tms) (σ1:Za) (i j:Nat):Option (AVal×Za) :=
 match evC fs prim bf σ1.length c2 tm1 σ1 with
 | some (.ret,_,σ2)=>Zfr m i j rs σ2
 | some (.panic (.iface t x),_,σ2)=>if t=tc then match evC fs prim bf σ1.length c3 [(10,x),(1,.ref j 0),(0,.ref i 0)] σ2 with
  | some (.normal,_,σ3)=>Zfr m i j rs σ3
  | _=>none
  else none
 | _=>none
noncomputable def Zh0 (fs:Nat->Option ZE) (prim:Zcz) (bf:Nat->Bool) (tc:Nat) (c1 c2 c3:Ze) (rs:List ZcD) (args:List AVal) (σ:Za):Option (AVal×Za) :=
 match evC fs prim bf σ.length c1 (enterA 0 args []) σ with
 | some (.normal,tm1,σ1)=>match tget tm1 2,tget tm1 3 with
  | .ref i 0,.ref j 0=>if σ.length<=σ1.length/\i < σ1.length/\j < σ1.length then Zgl fs prim bf tc c2 c3 rs σ.length (tput tm1 (some 5) .top) σ1 i j else none
  | _,_=>none
 | _=>none
structure ZjL (P:Program) (f h:FuncId) (ti tc:TypeId) (an1 an2 an3:Ann) (c1 c2 c3:Ze) (rs:List ZcD):Prop where
 ex:∃ (F H:Func) (b1 b2 b3 b4:Code) (i0 j0 j1 j2 j3 bid:Nat) (t1 t2 t3 t4 t5 t6 t7 t8:TypeId) (p1 p2 p3 p4 p5 p6 p7 p8:String) (a1 a2 a3 a4 a5 a6 a7 a8:Array Edge) (at1 at2:Array TypeId) (ims:Array (String×TypeId)) (k:IntKind),
  P.funcs[f]?=some F/\(F.name == "runtime.NumGoroutine")=false/\F.ntmps=20/\Zet P F.results.toList=some rs /\
  F.body=some (.seq b1 (.seq (.region i0 #[⟨some 5,.makeFunc (.func h) #[] #[.tmp 2,.tmp 3],t1,p1,a1,none⟩,⟨none,.defer ⟨.value (.tmp 5),#[],at1⟩,t2,p2,a2,none⟩] false) b2)) /\
  ZcA (ZaR P an1 b1)=c1/\ZcA (ZaR P an2 b2)=c2/\an1.nt=20/\an2.nt=20/\an2.keep=[2,3] /\
  P.funcs[h]?=some H/\(H.name == "runtime.NumGoroutine")=false/\H.ntmps=13/\H.results=#[] /\
  H.body=some (.seq (.region j0 #[⟨some 5,.call ⟨.builtin .recover,#[],at2⟩,t3,p3,a3,none⟩] false) (.block bid (.seq (.region j1 #[⟨some 7,.binOp .eql ti (.tmp 5) (.const .nilIface) ti,t4,p4,a4,none⟩] false)
   (.cond (.tmp 7) (.region j2 #[⟨some 2,.assign (.tmp 5),t5,p5,a5,none⟩] false)
    (.seq (.region j3 #[⟨some 8,.typeAssert (.tmp 5) ti tc true,t6,p6,a6,none⟩,⟨some 9,.extract (.tmp 8) 1,t7,p7,a7,none⟩,⟨some 10,.extract (.tmp 8) 0,t8,p8,a8,none⟩] false)
     (.cond (.tmp 9) b3 b4)))))) /\
  ZcA (ZaR P an3 b3)=c3/\an3.nt=13/\P.underlying ti=some (.interface ims)/\P.underlying tc=some (.int k)
section
variable {P:Program} {O:ZR} {bf:Nat->Bool} {base:Nat->Prop} {w0 w:World} {I0 I:Imm} {β:Bmap} {σ:Za}
theorem Zhf {m:Nat} {I':Imm} {β':Bmap} {i:Nat} {v:Value} (hk:KeptE m β β') (hi:i < m) (h:VR I β (.ref i 0) v):VR I' β' (.ref i 0) v:=by
 simp only [VR] at h ⊢
 obtain ⟨b,k,c,h1,h2⟩:=h
 exact ⟨b,k,c,hk i hi _ h1,h2⟩
theorem ZtM {F:Func} {rs:List ZcD} (hrs:Zet P F.results.toList=some rs) {m i j:Nat} {tmps:Array Value} {I':Imm} {β':Bmap} {σ' σ2:Za} {w':World} {r:AVal} (hI:I.le I') (hk:KeptE m β β') (R:Rel base w0 I0 I' β' σ2 w') (h2:VR I' β' (.ref i 0) (tmps.getD 2 undef)) (h3:VR I' β' (.ref j 0) (tmps.getD 3 undef)) (h:Zfr m i j rs σ2=some (r,σ')) :
  ∃ v,(results F tmps).run P w'=.ok v w'/\∃ u,Ends r (.returned v) u/\Zb7 m base w0 I0 I β r σ' u w':=by
 unfold Zfr at h
 split at h
 ·rename_i x hx
  have T:TR I' β' [(3,.ref j 0),(2,.ref i 0)] tmps:=by
   intro n
   simp only [tget]
   split
   ·rename_i e;subst e;exact h3
   ·split
    ·rename_i e;subst e;exact h2
    ·simp only [VR]
  obtain ⟨v,q1,q2⟩:=Zq5 T R hrs hx
  have hnp:∀ y,x≠.pan y:=by rintro y rfl;simp only [VR] at q2
  obtain ⟨p1,p2⟩:=ZlY (⟨I',β',hI,hk,R,by rw [ZfP hnp];exact q2⟩:Zb7 m base w0 I0 I β x σ2 v w') h
  refine ⟨v,q1,v,p2 _ ?_,p1⟩
  cases x <;> first | rfl | exact absurd rfl (hnp _)
 ·cases h
theorem pgs {a:Act} {d:Nat} {u:Value} (h:d < a.tmps.size):(a.put (some d) u).tmps.getD d undef=u:=by
 simp [Act.put,Array.getD,h]
theorem ZhU {m:Sem Value} {u:Value} (h:m.run P w=.ok u w):(do let q <-m;pure (Next.value q):Sem Next).run P w=.ok (.value u) w:=by
 rw [Sem.run_bind,h];rfl
theorem pgn {a:Act} {d j:Nat} {u:Value} (h:d≠j):(a.put (some d) u).tmps.getD j undef=a.tmps.getD j undef:=by
 simp only [Act.put,Array.getD_eq_getD_getElem?]
 rw [Array.getElem?_setIfInBounds_ne h]
theorem ZCf (hm:P.follows .mixedOrders=true) (hO:ZaK P O) {f h:FuncId} {ti tc:TypeId} {an1 an2 an3:Ann} {c1 c2 c3:Ze} {rs:List ZcD} (D:ZjL P f h ti tc an1 an2 an3 c1 c2 c3 rs) (hb:KLt base w0) (R:Rel base w0 I0 I β σ w)
  {i j m n:Nat} {x:AVal} {v2 v3 v:Value} (h2:VR I β (.ref i 0) v2) (h3:VR I β (.ref j 0) v3) (hv:VR I β x v) {tm':Tms} {σ':Za} (hx:Z6 O bf m n c3 [(10,x),(1,.ref j 0),(0,.ref i 0)] σ=some (.normal,tm',σ')) :
  CallsD P h #[v2,v3] (.panicking [{ v:=.iface tc v,recovered:=false }]) w fun e u' w'=>e=.returned (.tuple #[])/\u'=.panicking [{ v:=.iface tc v,recovered:=true }]/\∃ I' β',I.le I'/\KeptE m β β'/\Rel base w0 I0 I' β' σ' w':=by
 obtain ⟨F,H,b1,b2,b3,b4,i0,j0,j1,j2,j3,bid,t1,t2,t3,t4,t5,t6,t7,t8,p1,p2,p3,p4,p5,p6,p7,p8,a1,a2,a3,a4,a5,a6,a7,a8,at1,at2,ims,k,hF,hname,hnt,hrs,hbody,hc1,hc2,hn1,hn2,hk2,hH,hHname,hHn,hHr,hHb,hc3,hn3,hti,htc⟩:=D.ex
 refine callsD_of_wpS hH hHb fun c₀ cs hu=>?_
 apply wpS_seq
 apply wpS_region
 simp [wpOpsS,go_sem,recoverD,hu,hHn,Exit.thenS]
 refine wpS_of_wp ?_
 generalize hT:(#[v2,v3]++(Array.replicate 11 undef).setIfInBounds 3 (Value.iface tc v))=T
 have hs:T.size=13:=by rw [<-hT];simp
 have hT0:T.getD 0 undef=v2:=by rw [<-hT];simp [Array.getD]
 have hT1:T.getD 1 undef=v3:=by rw [<-hT];simp [Array.getD]
 have hT5:T.getD 5 undef=.iface tc v:=by rw [<-hT];simp [Array.getD]
 clear hT
 refine wp_block (wp_seq (wp_region_list (ZeF rfl ?_)))
 unfold Oper.wp
 have e1:∀ o:Oper,o.op=.binOp .eql ti (.tmp 5) (.const .nilIface) ti->(execOp ({ tmps:=T,defers:=[] }:Act).eval o).run P w=.ok (.value (.bool false)) w:=by
  intro o ho
  unfold execOp;rw [ho]
  simp only [Act.eval,hT5]
  exact ZhU (Ztr (P:=P) (w:=w) (t1:=tc) (u:=v) hti false (op:=.eql) (.tmp 5) .nilIface rfl)
 rw [e1 _ rfl,Oper.upon_value]
 refine wpList_nil ?_
 simp only [Exit.then]
 refine wp_cond_false (by simp only [Act.eval];exact pgs (by simp [hs])) ?_
 refine wp_seq (wp_region_list (ZeF rfl ?_))
 unfold Oper.wp
 generalize hA1:({ tmps:=T,defers:=[] }:Act).put (some 7) (.bool false)=A1
 have hs1:A1.tmps.size=13:=by rw [<-hA1,Ze5];exact hs
 have g1:∀ j,j≠7->A1.tmps.getD j undef=T.getD j undef:=by intro j hj;rw [<-hA1];exact pgn (by omega)
 have hd1:A1.defers=[]:=by rw [<-hA1];rfl
 have e2:∀ o:Oper,o.op=.typeAssert (.tmp 5) ti tc true->(execOp A1.eval o).run P w=.ok (.value (.tuple #[v,.bool true])) w:=by
  intro o ho
  unfold execOp;rw [ho]
  simp only [Act.eval,g1 5 (by omega),hT5]
  refine ZhU ?_
  simp [Instr.typeAssert,underlying,htc]
 rw [e2 _ rfl,Oper.upon_value]
 generalize hA2:A1.put (some 8) (.tuple #[v,.bool true])=A2
 have hs2:A2.tmps.size=13:=by rw [<-hA2,Ze5];exact hs1
 have g2:∀ j,j≠8->A2.tmps.getD j undef=A1.tmps.getD j undef:=by intro j hj;rw [<-hA2];exact pgn (by omega)
 have g28:A2.tmps.getD 8 undef=.tuple #[v,.bool true]:=by rw [<-hA2];exact pgs (by omega)
 have hd2:A2.defers=[]:=by rw [<-hA2];exact hd1
 refine ZeF rfl ?_
 unfold Oper.wp
 have e3:∀ o:Oper,o.op=.extract (.tmp 8) 1->(execOp A2.eval o).run P w=.ok (.value (.bool true)) w:=by
  intro o ho
  unfold execOp;rw [ho]
  simp only [Act.eval,g28]
  refine ZhU ?_
  simp [Instr.extract]
 rw [e3 _ rfl,Oper.upon_value]
 generalize hA3:A2.put (some 9) (.bool true)=A3
 have hs3:A3.tmps.size=13:=by rw [<-hA3,Ze5];exact hs2
 have g3:∀ j,j≠9->A3.tmps.getD j undef=A2.tmps.getD j undef:=by intro j hj;rw [<-hA3];exact pgn (by omega)
 have g39:A3.tmps.getD 9 undef=.bool true:=by rw [<-hA3];exact pgs (by omega)
 have hd3:A3.defers=[]:=by rw [<-hA3];exact hd2
 refine ZeF rfl ?_
 unfold Oper.wp
 have e4:∀ o:Oper,o.op=.extract (.tmp 8) 0->(execOp A3.eval o).run P w=.ok (.value v) w:=by
  intro o ho
  unfold execOp;rw [ho]
  simp only [Act.eval,g3 8 (by omega),g28]
  refine ZhU ?_
  simp [Instr.extract]
 rw [e4 _ rfl,Oper.upon_value]
 generalize hA4:A3.put (some 10) v=A4
 have hs4:A4.tmps.size=13:=by rw [<-hA4,Ze5];exact hs3
 have g4:∀ j,j≠10->A4.tmps.getD j undef=A3.tmps.getD j undef:=by intro j hj;rw [<-hA4];exact pgn (by omega)
 have g410:A4.tmps.getD 10 undef=v:=by rw [<-hA4];exact pgs (by omega)
 have hd4:A4.defers=[]:=by rw [<-hA4];exact hd3
 refine wpList_nil ?_
 simp only [Exit.then]
 refine wp_cond_true (by simp only [Act.eval];rw [g4 9 (by omega),g39]) ?_
 have hst:StF ZbR m an3.nt base w0 I0 I β [(10,x),(1,.ref j 0),(0,.ref i 0)] σ A4 w:=by
  refine ⟨I,β,Imm.le.refl I,KeptE.refl _ β,fun n=>?_,⟨Zft.2 hd4,by rw [hs4,hn3];omega⟩,R⟩
  simp only [tget]
  split
  ·rename_i e;subst e;rw [g410];exact hv
  ·split
   ·rename_i e;subst e;rw [g4 1 (by omega),g3 1 (by omega),g2 1 (by omega),g1 1 (by omega),hT1];exact h3
   ·split
    ·rename_i e;subst e;rw [g4 0 (by omega),g3 0 (by omega),g2 0 (by omega),g1 0 (by omega),hT0];exact h2
    ·simp only [VR]
 rw [<-hc3,Zee] at hx
 refine Ziy (dr:=ZbR) (an:=an3) hO (fun n hn=>by simp [ZbR] at hn) hm hb m n rfl hst hx ?_
 intro a' w' ⟨I',β',k1,k2,k3,k4,k5⟩
 simp only [Exit.inBlock,bodyPostS]
 refine ⟨Zft.1 k4.1,_,rfl,.tuple #[],?_,rfl,rfl,I',k1,β',k2,k5⟩
 simp [results,hHr]
theorem ZEu {f h:FuncId} {ti tc:TypeId} {an1 an2 an3:Ann} {c1 c2 c3:Ze} {rs:List ZcD} (D:ZjL P f h ti tc an1 an2 an3 c1 c2 c3 rs) {v2 v3:Value} {w:World} :
  CallsD P h #[v2,v3] .returning w fun e u' w'=>e=.returned (.tuple #[])/\u'=.returning/\w'=w:=by
 obtain ⟨F,H,b1,b2,b3,b4,i0,j0,j1,j2,j3,bid,t1,t2,t3,t4,t5,t6,t7,t8,p1,p2,p3,p4,p5,p6,p7,p8,a1,a2,a3,a4,a5,a6,a7,a8,at1,at2,ims,k,hF,hname,hnt,hrs,hbody,hc1,hc2,hn1,hn2,hk2,hH,hHname,hHn,hHr,hHb,hc3,hn3,hti,htc⟩:=D.ex
 refine callsD_of_wpS hH hHb fun c₀ cs hu=>?_
 apply wpS_seq
 apply wpS_region
 simp [wpOpsS,go_sem,recoverD,hu,hHn,Exit.thenS]
 refine wpS_of_wp ?_
 generalize hT:(#[v2,v3]++(Array.replicate 11 undef).setIfInBounds 3 Value.nilIface)=T
 have hs:T.size=13:=by rw [<-hT];simp
 have hT5:T.getD 5 undef=.nilIface:=by rw [<-hT];simp [Array.getD]
 clear hT
 refine wp_block (wp_seq (wp_region_list (ZeF rfl ?_)))
 unfold Oper.wp
 have e1:∀ o:Oper,o.op=.binOp .eql ti (.tmp 5) (.const .nilIface) ti->(execOp ({ tmps:=T,defers:=[] }:Act).eval o).run P w=.ok (.value (.bool true)) w:=by
  intro o ho
  unfold execOp;rw [ho]
  simp only [Act.eval,hT5]
  exact ZhU (ZuN (P:=P) (w:=w) hti false (op:=.eql) (.tmp 5) .nilIface rfl)
 rw [e1 _ rfl,Oper.upon_value]
 refine wpList_nil ?_
 simp only [Exit.then]
 refine wp_cond_true (by simp only [Act.eval];exact pgs (by simp [hs])) ?_
 refine wp_region_list (ZeF rfl ?_)
 unfold Oper.wp
 generalize hA1:({ tmps:=T,defers:=[] }:Act).put (some 7) (.bool true)=A1
 have g1:∀ j,j≠7->A1.tmps.getD j undef=T.getD j undef:=by intro j hj;rw [<-hA1];exact pgn (by omega)
 have hd1:A1.defers=[]:=by rw [<-hA1];rfl
 have e2:∀ o:Oper,o.op=.assign (.tmp 5)->(execOp A1.eval o).run P w=.ok (.value .nilIface) w:=by
  intro o ho
  unfold execOp;rw [ho]
  simp [Act.eval,g1 5 (by omega),hT5]
 rw [e2 _ rfl,Oper.upon_value]
 refine wpList_nil ?_
 simp only [Exit.inBlock,bodyPostS]
 refine ⟨hd1,.returning,?_,.tuple #[],?_,rfl,rfl,trivial⟩
 ·cases c₀;simp_all
 ·simp [results,hHr]
end
section
variable {P:Program} {fs:Nat->Option ZE} {prim:Zcz} {bf:Nat->Bool}
theorem ZDn (hm:P.follows .mixedOrders=true) (hO:∀ n,ZaK P (Zaw fs prim bf n)) {f h:FuncId} {ti tc:TypeId} {an1 an2 an3:Ann} {c1 c2 c3:Ze} {rs:List ZcD} (D:ZjL P f h ti tc an1 an2 an3 c1 c2 c3 rs)
  {args:List AVal} {σ σ':Za} {r:AVal} (hg:Zh0 fs prim bf tc c1 c2 c3 rs args σ=some (r,σ')) :
  (∃ fn,P.funcs[f]?=some fn/\fn.body.isSome=true/\(fn.name == "runtime.NumGoroutine")=false) /\
  ∀ base w0 I0 I β w (vs:Array Value),KLt base w0->Rel base w0 I0 I β σ w->VRs I β args vs.toList ->
   Calls P f vs w (fun e w'=>∃ u,Ends r e u/\Zb7 σ.length base w0 I0 I β r σ' u w'):=by
 obtain ⟨F,H,b1,b2,b3,b4,i0,j0,j1,j2,j3,bid,t1,t2,t3,t4,t5,t6,t7,t8,p1,p2,p3,p4,p5,p6,p7,p8,a1,a2,a3,a4,a5,a6,a7,a8,at1,at2,ims,k,hF,hname,hnt,hrs,hbody,hc1,hc2,hn1,hn2,hk2,hH,hHname,hHn,hHr,hHb,hc3,hn3,hti,htc⟩:=D.ex
 refine ⟨⟨F,hF,by rw [hbody];rfl,hname⟩,?_⟩
 intro base w0 I0 I β w vs hb R hargs
 unfold Zh0 at hg
 split at hg
 case h_2=>cases hg
 rename_i tm1 σ1 hx1
 split at hg
 case h_2=>cases hg
 rename_i i j hi hj
 split at hg
 case isFalse=>cases hg
 rename_i hlen
 obtain ⟨hl0,hli,hlj⟩:=hlen
 obtain ⟨n1,hx1⟩:=Zbu.1 hx1
 rw [<-hc1,Zee] at hx1
 refine calls_of_wp_defers hF hbody ?_
 have T:=Zpu hargs (F.ntmps - vs.size)
 have hst:StF ZbR σ.length an1.nt base w0 I0 I β (enterA 0 args []) σ { tmps:=vs++Array.replicate (F.ntmps - vs.size) undef,defers:=[] } w:=⟨I,β,Imm.le.refl I,KeptE.refl _ β,T,⟨Zft.2 rfl,by rw [hn1];simp;omega⟩,R⟩
 refine wp_seq ?_
 refine Ziy (dr:=ZbR) (an:=an1) (hO n1) (fun n hn=>by simp [ZbR] at hn) hm hb σ.length n1 rfl hst hx1 ?_
 rintro A0 w1 ⟨I1,β1,g1,g2,T1,⟨gd,gs⟩,R1⟩
 have gd:=Zft.1 gd
 rw [hn1] at gs
 simp only [Exit.then]
 refine wp_seq (wp_region_list (ZeF rfl ?_))
 unfold Oper.wp
 have e1:∀ o:Oper,o.op=.makeFunc (.func h) #[] #[.tmp 2,.tmp 3]->(execOp A0.eval o).run P w1=.ok (.value (.func (.func h) #[] #[A0.tmps.getD 2 undef,A0.tmps.getD 3 undef])) w1:=by
  intro o ho
  unfold execOp;rw [ho]
  refine ZhU ?_
  simp [Instr.makeFunc,Act.eval]
 rw [e1 _ rfl,Oper.upon_value]
 generalize hv2:A0.tmps.getD 2 undef=v2
 generalize hv3:A0.tmps.getD 3 undef=v3
 have hr2:VR I1 β1 (.ref i 0) v2:=by rw [<-hv2,<-hi];exact T1 2
 have hr3:VR I1 β1 (.ref j 0) v3:=by rw [<-hv3,<-hj];exact T1 3
 generalize hA1:A0.put (some 5) (.func (.func h) #[] #[v2,v3])=A1
 have hs1:A1.tmps.size=A0.tmps.size:=by rw [<-hA1,Ze5]
 have q1:∀ j,j≠5->A1.tmps.getD j undef=A0.tmps.getD j undef:=by intro j hj;rw [<-hA1];exact pgn (by omega)
 have q5:A1.tmps.getD 5 undef=.func (.func h) #[] #[v2,v3]:=by rw [<-hA1];exact pgs (by omega)
 have hd1:A1.defers=[]:=by rw [<-hA1];exact gd
 refine ZeF rfl ?_
 unfold Oper.wp
 have e2:∀ o:Oper,o.op=.defer ⟨.value (.tmp 5),#[],at1⟩->(execOp A1.eval o).run P w1=.ok (.defer ⟨.fn (.func h) #[v2,v3],#[]⟩) w1:=by
  intro o ho
  unfold execOp;rw [ho]
  simp [resolve,Act.eval,q5,Deferred.ofValue]
 rw [e2 _ rfl,Oper.upon_defer]
 refine wpList_nil ?_
 simp only [Exit.then]
 generalize hd:(⟨.fn (.func h) #[v2,v3],#[]⟩:Deferred)=d
 have hA2:({ A1 with defers:=d::A1.defers }:Act).put none undef={ A1 with defers:=[d] }:=by rw [hd1];rfl
 rw [hA2]
 let dr:Door:=⟨[d],[2,3],fun n=>if n=2 then v2 else v3⟩
 have hdr:dr.ok { A1 with defers:=[d] }:=by
  refine ⟨rfl,fun j hj=>?_⟩
  simp only [dr,List.mem_cons,List.not_mem_nil,or_false] at hj
  rcases hj with rfl | rfl
  ·show A1.tmps.getD 2 undef=_;rw [q1 2 (by omega),hv2];rfl
  ·show A1.tmps.getD 3 undef=_;rw [q1 3 (by omega),hv3];rfl
 have T2:TR I1 β1 (tput tm1 (some 5) .top) A1.tmps:=by
  rw [<-hA1]
  exact ZqK T1 (by simp only [VR]) (fun n hn=>by injection hn with hn;omega)
 unfold Zgl at hg
 have hst2:StF dr σ1.length an2.nt base w0 I0 I1 β1 (tput tm1 (some 5) .top) σ1 { A1 with defers:=[d] } w1:=⟨I1,β1,Imm.le.refl I1,KeptE.refl _ β1,T2,⟨hdr,by rw [hn2];show 20<=A1.tmps.size;omega⟩,R1⟩
 have lift:∀ {I':Imm} {β':Bmap},I1.le I'->KeptE σ1.length β1 β'->I.le I'/\KeptE σ.length β β':=fun h1 h2=>⟨g1.trans h1,g2.trans (fun t ht bi e=>h2 t (by omega) bi e)⟩
 have hinv:∀ w:World,(invoke (.fn (.func h) #[v2,v3]) #[]).run P w=.ok (.enter h #[v2,v3]) w:=fun w=>by
  unfold invoke
  simpa using ZkR (args:=#[v2,v3]) (w:=w) hH (by rw [hHb];rfl) hHname
 have tm2:∀ {A:Act},dr.ok A->A.tmps.getD 2 undef=v2/\A.tmps.getD 3 undef=v3:=fun hA=>⟨hA.2 2 (by simp [dr]),hA.2 3 (by simp [dr])⟩
 split at hg
 case h_3=>cases hg
 ·rename_i tmx σ2 hx2
  obtain ⟨n2,hx2⟩:=Zbu.1 hx2
  rw [<-hc2,Zee] at hx2
  refine Ziy (dr:=dr) (an:=an2) (hO n2) (fun n hn=>by rw [hk2];exact hn) hm hb σ1.length n2 rfl hst2 hx2 ?_
  rintro A3 w3 ⟨I3,β3,k1,k2,T3,⟨kd,ks⟩,R3⟩
  show Leaves P F A3.tmps _ A3.defers .returning w3
  rw [kd.1]
  show Leaves P F A3.tmps _ [d] .returning w3
  rw [<-hd]
  refine leaves_cons (f:=h) (args:=#[v2,v3]) (by simp) (hinv w3) ?_
  refine (ZEu D).mono ?_
  rintro e u' w' ⟨rfl,rfl,rfl⟩
  simp only [settle,Leaves]
  obtain ⟨l1,l2⟩:=lift k1 k2
  exact ZtM hrs l1 l2 R3 (by rw [(tm2 kd).1];exact Zhf k2 hli hr2) (by rw [(tm2 kd).2];exact Zhf k2 hlj hr3) hg
 ·rename_i t x tmx σ2 hx2
  split at hg
  case isFalse=>cases hg
  rename_i ht
  subst ht
  split at hg
  case h_2=>cases hg
  rename_i tmy σ3 hx3
  obtain ⟨n2,hx2⟩:=Zbu.1 hx2
  rw [<-hc2,Zee] at hx2
  obtain ⟨n3,hx3⟩:=Zbu.1 hx3
  refine Ziy (dr:=dr) (an:=an2) (hO n2) (fun n hn=>by rw [hk2];exact hn) hm hb σ1.length n2 rfl hst2 hx2 ?_
  rintro A3 u w3 kd ⟨I3,β3,k1,k2,R3,kv⟩
  simp only [ZaS,VR] at kv
  obtain ⟨v,rfl,kv⟩:=kv
  show Leaves P F A3.tmps _ A3.defers (.panicking [{ v:=.iface t v,recovered:=false }]) w3
  rw [kd.1]
  show Leaves P F A3.tmps _ [d] _ w3
  rw [<-hd]
  refine leaves_cons (f:=h) (args:=#[v2,v3]) (by simp) (hinv w3) ?_
  refine (ZCf hm (hO n3) D hb R3 (Zhf k2 hli hr2) (Zhf k2 hlj hr3) kv hx3).mono ?_
  rintro e u' w' ⟨rfl,rfl,I4,β4,m1,m2,R4⟩
  simp only [settle,List.dropWhile,Leaves]
  have k3:=k2.trans m2
  obtain ⟨l1,l2⟩:=lift (k1.trans m1) k3
  exact ZtM hrs l1 l2 R4 (by rw [(tm2 kd).1];exact Zhf k3 hli hr2) (by rw [(tm2 kd).2];exact Zhf k3 hlj hr3) hg
end
section
variable {fs:Nat->Option ZE} {p p':Zcz} {bf:Nat->Bool}
theorem Zvj (h0:∀ f,p f=none->p' f=none) (h1:∀ f g,p f=some g->p' f=some g\/∀ a σ,g a σ=none):∀ n,OLe (Zaw fs p bf n) (Zaw fs p' bf n)
 | 0=>by intro f a σ r h;simp only [Zaw] at h;cases h
 | n+1=>by
  intro f a σ r h
  rw [Zaw] at h ⊢
  split at h
  ·rename_i g hg
   rcases h1 f g hg with h2 | h2
   ·rw [h2];exact h
   ·rw [h2] at h;cases h
  ·rename_i hg
   rw [h0 f hg]
   split at h
   ·cases h
   ·rename_i fn hfn
    exact ZlI (fun q hq=>ZdT (Zvj h0 h1 n) (Nat.le_refl n) hq) h
theorem ZPa (h0:∀ f,p f=none->p' f=none) (h1:∀ f g,p f=some g->p' f=some g\/∀ a σ,g a σ=none):OLe (EV fs p bf) (EV fs p' bf):=by
 intro f a σ r h
 obtain ⟨n,hn⟩:=ZdI.1 h
 exact ZdI.2 ⟨n,Zvj h0 h1 n f a σ r hn⟩
end
end
section
open Go.Shelf
def ZEx:Ren:=⟨fun | 196=>142 | 259=>157 | n=>n,fun | 9=>9 | 4=>4 | 3=>3 | 5=>5 | 12=>12 | 119=>213 | 0=>0 | 46=>139 | 139=>216 | 138=>215 | 53=>101 | n=>n,fun | 3=>0 | 4=>1 | n=>n⟩
theorem ZrN:Go.Proofs.Lays.n196 Tryd.prog ZEx:={ mixed:=by kernel_rfl,f196:=Tryd.func142.trans (congrArg some (by kernel_rfl)),f259:=Tryd.func157.trans (congrArg some (by kernel_rfl)),t0:=Tryd.underlying0,a0:=Tryd.isAgg0,z0:=Tryd.sizeOf0,v0:=Tryd.zeroValue0,t3:=Tryd.underlying3,a3:=Tryd.isAgg3,z3:=Tryd.sizeOf3,v3:=Tryd.zeroValue3,t4:=Tryd.underlying4,a4:=Tryd.isAgg4,z4:=Tryd.sizeOf4,v4:=Tryd.zeroValue4,t5:=Tryd.underlying5,a5:=Tryd.isAgg5,z5:=Tryd.sizeOf5,v5:=Tryd.zeroValue5,t9:=Tryd.underlying9,a9:=Tryd.isAgg9,z9:=Tryd.sizeOf9,v9:=Tryd.zeroValue9,t12:=Tryd.underlying12,a12:=Tryd.isAgg12,z12:=Tryd.sizeOf12,v12:=Tryd.zeroValue12,t46:=Tryd.underlying139,a46:=Tryd.isAgg139,z46:=Tryd.sizeOf139,v46:=Tryd.zeroValue139,t53:=Tryd.underlying101,a53:=Tryd.isAgg101,z53:=Tryd.sizeOf101,v53:=Tryd.zeroValue101,t119:=Tryd.underlying213,a119:=Tryd.isAgg213,z119:=Tryd.sizeOf213,t138:=Tryd.underlying215,a138:=Tryd.isAgg215,z138:=Tryd.sizeOf215,v138:=Tryd.zeroValue215,t139:=Tryd.underlying216,a139:=Tryd.isAgg216,z139:=Tryd.sizeOf216,v139:=Tryd.zeroValue216,g3:=by kernel_rfl,g4:=by kernel_rfl }
end
section
set_option maxRecDepth 100000
theorem Zim:Tryd.prog.follows .mixedOrders=true:=by kernel_rfl
theorem ZIf:ZnH Tryd.prog 22 1 1 (.int .u8 0) 111:=⟨_,_,_,_,_,_,_,_,_,_,_,rfl,rfl,rfl,by kernel_rfl,rfl,rfl,rfl,rfl,rfl,rfl,rfl,rfl,by kernel_rfl,by kernel_rfl,⟨_,_,_,_,rfl⟩,rfl,by decide⟩
theorem ZAb:ZnH Tryd.prog 28 5 72 (.agg [.int .i64 0,.int .i64 0,.str [],.str [],.lst true []]) 137:=⟨_,_,_,_,_,_,_,_,_,_,_,rfl,rfl,rfl,by kernel_rfl,rfl,rfl,rfl,rfl,rfl,rfl,rfl,rfl,by kernel_rfl,by kernel_rfl,⟨_,_,_,_,rfl⟩,rfl,by decide⟩
theorem Zty {α:Type} {d v:α}:∀ {l:List (Nat×α)} {n:Nat},Zes d l n=v->v=d\/(n,v) ∈ l
 | [],n,h=>Or.inl h.symm
 | (k,w)::r,n,h=>by
  simp only [Zes] at h
  split at h
  ·rename_i e;subst e h;exact Or.inr (by simp)
  ·rcases Zty h with h | h
   ·exact Or.inl h
   ·exact Or.inr (by simp [h])
theorem ZrT:ZjQ Tryd.prog PR:=by
 intro f g h args σ r σ' hg
 rcases Zty h with h | h
 ·cases h
 unfold ZtW at h
 simp only [List.mem_cons,Prod.mk.injEq,Option.some.injEq,List.not_mem_nil,or_false] at h
 rcases h with ⟨rfl,rfl⟩ | h
 ·exact ZvY Zim ZIf hg
 rcases h with ⟨rfl,rfl⟩ | h
 ·exact ZvY Zim ZAb hg
 rcases h with ⟨rfl,rfl⟩ | h
 ·exact ZO8 ⟨Tryd.f142,Tryd.func142,by kernel_rfl,by kernel_rfl⟩ (fun s w hs hT=>Any.utf8_ValidString ZrN s w hs hT) hg
 rcases h with ⟨rfl,rfl⟩ | h
 ·exact ZtZ hg
 rcases h with ⟨rfl,rfl⟩ | h
 ·exact ZtZ hg
 exact absurd h.2 (by simp)
end
section
def ZbU:Nat:=70368744177664
def Zhm (args:List AVal) (σ:Za):Option (AVal×Za):=match args,σ with
 | [.ref 0 0,.lst _ ys],[.var [.lst true [],.int .i64 0,.int .i8 _]] =>
  if ys.length<=ZbU/\kOk 1 ys=true then some (.tup [.int .i64 ys.length,.nili],[.var [.sl 1 0 0 ys.length,.int .i64 0,.int .i8 0],.row 0 1 ys]) else none
 | [.ref 0 0,.lst _ ys],[.var [.sl 1 g 0 m,.int .i64 0,.int .i8 _],.row g' 1 xs] =>
  if g=g'/\m=xs.length/\xs.length+ys.length<=ZbU/\kOk 1 ys=true then some (.tup [.int .i64 ys.length,.nili],[.var [.sl 1 (g+1) 0 (xs++ys).length,.int .i64 0,.int .i8 0],.row (g+1) 1 (xs++ys)]) else none
 | _,_=>none
end
section
set_option maxRecDepth 100000
def c1R:Ze :=  (.region [⟨(some 1),(.box (.t 0)),none,[]⟩,⟨(some 2),(.alloc [(.int .i64 0),(.bool false),(.int .i64 0),(.bool false),(.int .i64 0),(.str []),(.lst true []),(.int .i64 0),(.lst true []),(.lst true []),(.lst true []),(.lst true []),(.bool false),(.int .i64 0),(.str []),(.bool false),(.str []),(.lst true []),(.int .i64 0),(.bool false),(.lst true []),(.bool false),(.str []),(.bool false),(.lst true []),(.bool false)]),none,[]⟩,⟨(some 3),(.alloc [(.int .i64 0)]),none,[]⟩] none [3,2,1])
def c2R:Ze:=(.seq (.region [⟨(some 6),(.faddr 1 (.t 1)),none,[]⟩,⟨(some 7),(.ld none (.t 6)),none,[]⟩,⟨(some 8),(.build [(.int .i64 0),(.bool false),(.int .i64 0),(.bool false),(.int .i64 0),(.str []),(.lst true []),(.int .i64 0),(.lst true []),(.lst true []),(.lst true []),(.lst true []),(.bool false),(.int .i64 0),(.str []),(.bool false),(.str []),(.lst true []),(.int .i64 0),(.bool false),(.lst true []),(.bool false),(.str []),(.bool false),(.lst true []),(.bool false),(.lst true [])] [(26,1,(.t 7))]),none,[]⟩,⟨(some 9),(.box (.t 8)),none,[]⟩,⟨(some 4),(.mov (.t 9)),none,[]⟩] none [4,3,2,1]) (.seq (.region [⟨(some 10),(.mov (.t 4)),none,[]⟩,⟨(some 11),(.faddr 0 (.t 1)),none,[]⟩,⟨(some 12),(.ld none (.t 11)),none,[]⟩,⟨(some 13),(.call 76 0 true [(.t 10),(.t 12)]),none,[]⟩] none [4,3,2]) (.seq (.region [⟨(some 14),(.mov (.t 4)),none,[]⟩,⟨(some 15),(.call 77 1 true [(.t 14)]),none,[]⟩] none [4,3,2]) (.seq (.region [⟨(some 16),(.mov (.t 4)),none,[]⟩,⟨(some 17),(.nilchk (.t 16)),none,[]⟩,⟨(some 18),(.faddr 0 (.t 17)),none,[]⟩,⟨(some 19),(.ld (some 26) (.t 18)),none,[]⟩,⟨none,(.st 26 (.t 2) (.t 19)),none,[]⟩,⟨none,(.st 1 (.t 3) (.c (.int .i64 0))),none,[]⟩] none [3,2]) .ret))))
def c3R:Ze:=(.seq (.region [⟨(some 3),(.mov (.t 10)),none,[]⟩] none [3,1,0]) (.region [⟨(some 11),(.build [(.int .i64 0),(.bool false),(.int .i64 0),(.bool false),(.int .i64 0),(.str []),(.lst true []),(.int .i64 0),(.lst true []),(.lst true []),(.lst true []),(.lst true []),(.bool false),(.int .i64 0),(.str []),(.bool false),(.str []),(.lst true []),(.int .i64 0),(.bool false),(.lst true []),(.bool false),(.str []),(.bool false),(.lst true []),(.bool false)] []),none,[]⟩,⟨(some 12),(.mov (.t 3)),none,[]⟩,⟨none,(.st 26 (.t 0) (.t 11)),none,[]⟩,⟨none,(.st 1 (.t 1) (.t 12)),none,[]⟩] none []))
def rsR:List ZcD:=[(.cell 2 (some 26)),(.cell 3 none)]
def ZEW:Ann:={ nt:=20,lr:=fun _=>[3,2,1] }
def ZFW:Ann:={ ann 32 with nt:=20,keep:=[2,3],cfg:=fun f=>if f=77 then (1,true) else (0,true) }
def Zxf:Ann:={ ann 75 with nt:=13 }
theorem ZGP:ZjL Tryd.prog 32 75 20 61 ZEW ZFW Zxf c1R c2R c3R rsR :=
 ⟨_,_,_,_,_,_,_,_,_,_,_,_,_,_,_,_,_,_,_,_,_,_,_,_,_,_,_,_,_,_,_,_,_,_,_,_,_,_,#[],.i64,rfl,by kernel_rfl,rfl,by kernel_rfl,rfl,by kernel_rfl,by kernel_rfl,rfl,rfl,rfl,rfl,by kernel_rfl,rfl,rfl,rfl,by kernel_rfl,rfl,by kernel_rfl,by kernel_rfl⟩
noncomputable def Zez:List AVal->Za->Option (AVal×Za):=Zh0 FC PR BY 61 c1R c2R c3R rsR
noncomputable def PR1:Zcz:=fun f=>if f=32 then some Zez else if f=130 then some Zhm else PR f
noncomputable abbrev E1:ZR:=EV FC PR1 BY
theorem ZJ0:OLe E E1:=by
 refine ZPa (fun f hf=>?_) (fun f g hg=>?_)
 ·unfold PR1
  rw [if_neg (by rintro rfl;revert hf;decide),if_neg (by rintro rfl;revert hf;decide)]
  exact hf
 ·by_cases h1:f=32
  ·subst h1
   have : PR 32=some ZiO:=by rfl
   rw [this] at hg;injection hg with hg;subst hg
   exact Or.inr fun _ _=>rfl
  by_cases h2:f=130
  ·subst h2
   have : PR 130=some ZiO:=by rfl
   rw [this] at hg;injection hg with hg;subst hg
   exact Or.inr fun _ _=>rfl
  refine Or.inl ?_
  unfold PR1
  rw [if_neg h1,if_neg h2]
  exact hg
theorem Zbs {f:Nat} {fn:ZE} (hp:PR1 f=none) (hf:FC f=some fn) (args:List AVal) (σ:Za):E1 f args σ=Zap σ.length fn (evC FC PR1 BY σ.length fn.body (enterA 0 args []) σ):=ZuF hp hf args σ
theorem Zgo (args:List AVal) (σ:Za):E1 32 args σ=Zez args σ:=ZsF (by rfl) args σ
theorem ZqW (args:List AVal) (σ:Za):E1 130 args σ=Zhm args σ:=ZsF (by rfl) args σ
theorem ZDT {args:List AVal} {σ σ':Za} {r:AVal} (hg:Zez args σ=some (r,σ')) :
  (∃ fn,Tryd.prog.funcs[32]?=some fn/\fn.body.isSome=true/\(fn.name == "runtime.NumGoroutine")=false) /\
  ∀ base w0 I0 I β w (vs:Array Value),KLt base w0->Rel base w0 I0 I β σ w->VRs I β args vs.toList ->
   Calls Tryd.prog 32 vs w (fun e w'=>∃ u,Ends r e u/\Zb7 σ.length base w0 I0 I β r σ' u w') :=
 ZDn Zim (fun n=>by
  have h:Zaw FC PR BY n=Zaw CF PR BY n:=Zpo CF PR BY n
  rw [h]
  exact ZoK Zim ZrT ann BY n) ZGP hg
end
section
def P0:List AVal:=[.int .i64 0,.bool false,.int .i64 0,.bool false,.int .i64 0,.str [],.lst true [],.int .i64 0,.lst true [],.lst true [],.lst true [],.lst true [],.bool false,.int .i64 0,.str [],.bool false,.str [],.lst true [],.int .i64 0,.bool false,.lst true [],.bool false,.str [],.bool false,.lst true [],.bool false]
def tmR:Tms:=[(3,.ref 2 0),(2,.ref 1 0),(1,.ref 0 0)]
def σR (b:Int) (l:Zb):Za:=[.var [.int .u8 b,.lst false (l.map Zc)],.var P0,.var [.int .i64 0]]
theorem ZoH (b:Int) (l:Zb):evC FC PR BY 0 c1R (enterA 0 [.agg [.int .u8 b,.lst false (l.map Zc)]] []) []=some (.normal,tmR,σR b l):=by
 unfold tmR σR P0
 simp -implicitDefEqProofs only [EQA,Nat.reduceAdd,Nat.reduceLT,Nat.reduceEqDiff,Nat.reduceBEq,↓reduceIte,c1R,AVal.cells]
theorem ZLN (b:Int) (l:Zb) {P1 Q:List AVal} {L:AVal} (h1:P1.length=26) (n1:Zd P1=true) (hQ:Q.length=26) (nQ:Zd Q=true) (oQ:Q.all ZV=true) (nL:ZJ L=true)
  (hf:E 76 [.ref 0 0,.int .u8 b] (Zg P0 l)=some (.tup [],Zg P1 l)) (hb:E 77 [.ref 0 0] (Zg P1 l)=some (.tup [],[.var (Q++[L])])) :
  evC FC PR BY 3 c2R (tput tmR (some 5) .top) (σR b l)=some (.ret,[(3,.ref 2 0),(2,.ref 1 0)],[.var [.int .u8 b,.lst false (l.map Zc)],.var Q,.var [.int .i64 0],.var (Q++[L]),.free]):=by
 have hF:=fun (σ:Za) sq (hs:σ[3]?=some (.var (P0++[.lst false (l.map Zc)])))=>Zc7 (O:=E) (bf:=BY) (f:=76) (rest:=[.int .u8 b]) (by kernel_rfl) rfl (by rfl) (ZaC n1 (by rfl)) rfl rfl hf hs sq
 have hB:=fun (σ:Za) sq (hf:σ[sq]?=some .free) (hs:σ[3]?=some (.var (P1++[.lst false (l.map Zc)])))=>ZF8 (own:=1) (O:=E) (bf:=BY) (f:=77) (rest:=[]) (by kernel_rfl) rfl (ZaC n1 (by rfl)) (ZaC nQ (by simp [Zd,nL])) rfl rfl hb hs sq (by simp [Za4,freeAt,hf])
 have b1:=Z7 Q hQ
 have b2:=ZeO Q hQ
 unfold P0 at hF
 simp only [List.cons_append,List.nil_append] at hF
 unfold tmR σR P0
 simp -implicitDefEqProofs only [EQA,Zbh,Nat.reduceAdd,Nat.reduceLT,Nat.reduceLeDiff,Nat.reduceEqDiff,Nat.reduceBEq,↓reduceIte,c2R,AVal.cells,Zao,hF,hB,b1,b2,hQ,oQ]
theorem Zlb (b:Int) (l:Zb) {cs:List AVal} {c:Int} (n1:Zd cs=true)
  (hf:E 76 [.ref 0 0,.int .u8 b] (Zg P0 l)=some (.pan (Zy c),[.var cs])) :
  evC FC PR BY 3 c2R (tput tmR (some 5) .top) (σR b l)=some (.panic (Zy c),[],[.var [.int .u8 b,.lst false (l.map Zc)],.var P0,.var [.int .i64 0],.var cs]):=by
 have hF:=fun (σ:Za) sq (hs:σ[3]?=some (.var (P0++[.lst false (l.map Zc)])))=>ZcP (O:=E) (bf:=BY) (f:=76) (view:=true) (rest:=[.int .u8 b]) (by kernel_rfl) rfl (by rfl) n1 rfl hf hs sq
 unfold P0 at hF
 simp only [List.cons_append,List.nil_append] at hF
 unfold tmR σR P0
 simp -implicitDefEqProofs only [EQA,Zbh,Nat.reduceAdd,Nat.reduceLT,Nat.reduceLeDiff,Nat.reduceEqDiff,Nat.reduceBEq,↓reduceIte,c2R,AVal.cells,Zao,hF]
theorem Zv3 (b:Int) (l:Zb) {P1 cs:List AVal} {c:Int} (h1:P1.length=26) (n1:Zd P1=true) (n2:Zd cs=true)
  (hf:E 76 [.ref 0 0,.int .u8 b] (Zg P0 l)=some (.tup [],Zg P1 l)) (hb:E 77 [.ref 0 0] (Zg P1 l)=some (.pan (Zy c),[.var cs])) :
  evC FC PR BY 3 c2R (tput tmR (some 5) .top) (σR b l)=some (.panic (Zy c),[],[.var [.int .u8 b,.lst false (l.map Zc)],.var P0,.var [.int .i64 0],.var cs,.free]):=by
 have hF:=fun (σ:Za) sq (hs:σ[3]?=some (.var (P0++[.lst false (l.map Zc)])))=>Zc7 (O:=E) (bf:=BY) (f:=76) (rest:=[.int .u8 b]) (by kernel_rfl) rfl (by rfl) (ZaC n1 (by rfl)) rfl rfl hf hs sq
 have hB:=fun (σ:Za) sq (hf:σ[sq]?=some .free) (hs:σ[3]?=some (.var (P1++[.lst false (l.map Zc)])))=>ZM0 (own:=1) (O:=E) (bf:=BY) (f:=77) (view:=true) (rest:=[]) (by kernel_rfl) rfl (ZaC n1 (by rfl)) n2 rfl hb hs sq (by simp [Za4,freeAt,hf])
 unfold P0 at hF
 simp only [List.cons_append,List.nil_append] at hF
 unfold tmR σR P0
 simp -implicitDefEqProofs only [EQA,Zbh,Nat.reduceAdd,Nat.reduceLT,Nat.reduceLeDiff,Nat.reduceEqDiff,Nat.reduceBEq,↓reduceIte,c2R,AVal.cells,Zao,hF,hB]
theorem ZxR (b c:Int) (l:Zb) (τ:Za):evC FC PR BY 3 c3R [(10,.int .i64 c),(1,.ref 2 0),(0,.ref 1 0)] (.var [.int .u8 b,.lst false (l.map Zc)]::.var P0::.var [.int .i64 0]::τ)=some (.normal,[],.var [.int .u8 b,.lst false (l.map Zc)]::.var P0::.var [.int .i64 c]::τ):=by
 unfold P0
 simp -implicitDefEqProofs only [EQA,Nat.reduceAdd,Nat.reduceLT,Nat.reduceLeDiff,Nat.reduceEqDiff,reduceCtorEq,↓reduceIte,c3R,AVal.cells,Zao,ZV]
theorem ZtO (b c:Int) (l:Zb) {Q:List AVal} (τ:Za) (hQ:Q.length=26) (nQ:Zd Q=true):Zfr 0 1 2 rsR (.var [.int .u8 b,.lst false (l.map Zc)]::.var Q::.var [.int .i64 c]::τ)=some (.tup [.agg Q,.int .i64 c],[]):=by
 have h1:resA [(3,.ref 2 0),(2,.ref 1 0)] (.var [.int .u8 b,.lst false (l.map Zc)]::.var Q::.var [.int .i64 c]::τ) rsR=some (.tup [.agg Q,.int .i64 c]):=by
  have h2:Q.take 26=Q:=List.take_of_length_le (by omega)
  simp [resA,resAll,resOne,rsR,tget,ldA,partA,hQ,h2]
 unfold Zfr
 rw [h1]
 generalize (.var [.int .u8 b,.lst false (l.map Zc)]::.var Q::.var [.int .i64 c]::τ:Za)=σ
 have e1:=ZaP (Zo σ 0 []) Q nQ
 have hr:Zt [AVal.tup [.agg Q,.int .i64 c]]=[]:=by simp [Zt,Z2,e1.2]
 have hi:ZB 0 [AVal.tup [.agg Q,.int .i64 c]] σ=[]:=by
  simp only [ZB,hr,List.nil_append,List.range_zero,List.flatMap_nil]
  rfl
 simp [Zak,gcA,hi,Zf,Zm,e1.1,Zw]
theorem Zpw (b:Int) (l:Zb) {P1 Q:List AVal} {L:AVal} (h1:P1.length=26) (n1:Zd P1=true) (hQ:Q.length=26) (nQ:Zd Q=true) (oQ:Q.all ZV=true) (nL:ZJ L=true)
  (hf:E 76 [.ref 0 0,.int .u8 b] (Zg P0 l)=some (.tup [],Zg P1 l)) (hb:E 77 [.ref 0 0] (Zg P1 l)=some (.tup [],[.var (Q++[L])])) :
  Zez [.agg [.int .u8 b,.lst false (l.map Zc)]] []=some (.tup [.agg Q,.int .i64 0],[]):=by
 unfold Zez Zh0
 show (match evC FC PR BY 0 c1R (enterA 0 [.agg [.int .u8 b,.lst false (l.map Zc)]] []) [] with | some (.normal,tm1,σ1)=>_ | _=>none)=_
 rw [ZoH]
 show (if (0:Nat)<=(σR b l).length/\1 < (σR b l).length/\2 < (σR b l).length then Zgl FC PR BY 61 c2R c3R rsR 0 (tput tmR (some 5) .top) (σR b l) 1 2 else none)=_
 rw [if_pos (by simp [σR])]
 unfold Zgl
 rw [show (σR b l).length=3 from rfl,ZLN b l h1 n1 hQ nQ oQ nL hf hb]
 exact ZtO b 0 l _ hQ nQ
theorem ZgP (b c:Int) (l:Zb) {τ:Za} (h:evC FC PR BY 3 c2R (tput tmR (some 5) .top) (σR b l)=some (.panic (Zy c),[],.var [.int .u8 b,.lst false (l.map Zc)]::.var P0::.var [.int .i64 0]::τ)) :
  Zez [.agg [.int .u8 b,.lst false (l.map Zc)]] []=some (.tup [.agg P0,.int .i64 c],[]):=by
 unfold Zez Zh0
 show (match evC FC PR BY 0 c1R (enterA 0 [.agg [.int .u8 b,.lst false (l.map Zc)]] []) [] with | some (.normal,tm1,σ1)=>_ | _=>none)=_
 rw [ZoH]
 show (if (0:Nat)<=(σR b l).length/\1 < (σR b l).length/\2 < (σR b l).length then Zgl FC PR BY 61 c2R c3R rsR 0 (tput tmR (some 5) .top) (σR b l) 1 2 else none)=_
 rw [if_pos (by simp [σR])]
 unfold Zgl
 rw [show (σR b l).length=3 from rfl,h]
 show (if (61:Nat)=61 then (match evC FC PR BY 3 c3R [(10,.int .i64 c),(1,.ref 2 0),(0,.ref 1 0)] _ with | some (.normal,_,σ3)=>Zfr 0 1 2 rsR σ3 | _=>none) else none)=_
 rw [if_pos rfl,ZxR]
 exact ZtO b c l _ rfl (by rfl)
end
section
theorem ZFe (a b:Zp):E 92 [Zn a,Zn b] []=some (.bool (a.id == b.id && a.num == b.num && a.text == b.text && a.pair == b.pair && a.data == b.data),[]):=by
 rw [Zh (by rfl) ZMJ]
 simp -implicitDefEqProofs only [EQA,ZC,Z5,Zdx,ZkE,Nat.reduceAdd,Nat.reduceLT,Nat.reduceEqDiff,Nat.reduceBEq,ZdD,ZF,Zav,unG,reduceCtorEq,Z0,ite_self,↓reduceIte,ZG3,ZoV,ZKj,oI,ZI,Zn,ZbI]
theorem ZLO (a b:Zp):E 110 [Zn a,Zn b] []=some (.bool (a.id == b.id && a.num == b.num && a.text == b.text && a.pair == b.pair && a.data == b.data),[]):=by
 rw [Zh (by rfl) ZBp]
 simp -implicitDefEqProofs only [EQA,ZC,Z5,Zdx,ZkE,Nat.reduceAdd,Nat.reduceLT,Nat.reduceEqDiff,Nat.reduceBEq,ZdD,ZF,Zav,unG,reduceCtorEq,Z0,ite_self,↓reduceIte,ZBJ,Zm5,ZH1,oI,ZI,Zn,ZbI]
theorem ZsH (a b:Zp):(a.id == b.id && a.num == b.num && a.text == b.text && a.pair == b.pair && a.data == b.data)=(a == b):=by
 obtain ⟨i,n,t,p,d⟩:=a
 obtain ⟨i',n',t',p',d'⟩:=b
 rw [Bool.eq_iff_iff]
 simp [and_assoc]
theorem ZsY (a:Zp):Zac (Zn a)=true:=by
 simp -implicitDefEqProofs only [eq_self,Bool.and_self,List.all_cons,List.all_nil,ZsI,Zva,Zwe,ZsM,Zn,ZbI,ZI]
theorem Zt3 (a:Zp):ZH (Zn a)=Zn a:=by
 simp -implicitDefEqProofs only [eq_self,List.map_cons,List.map_nil,Zul,ZqP,ZsK,Zuq,Zn,ZbI,ZI]
theorem ZMc (σ:Za) (sq own:Nat) (view:Bool) (i n:Int) (t p d:Zb) (i' n':Int) (t' p' d':Zb):Zj E BY σ sq 92 own view [.agg [.int .i64 i,.int .i64 n,.str t,.str p,.lst false (d.map Zc)],.agg [.int .i64 i',.int .i64 n',.str t',.str p',.lst false (d'.map Zc)]]=some (.bool (i == i' && n == n' && t == t' && p == p' && d == d'),σ,{}) :=
 Zce (ZFe ⟨i,n,t,p,d⟩ ⟨i',n',t',p',d'⟩) (by kernel_rfl) (by simp only [List.all_cons,ZsY];rfl) (by simp only [List.map_cons,Zt3];rfl) rfl (fun _=>rfl) _ _ _ _
theorem ZJ5 (σ:Za) (sq own:Nat) (view:Bool) (i n:Int) (t p d:Zb) (i' n':Int) (t' p' d':Zb):Zj E BY σ sq 110 own view [.agg [.int .i64 i,.int .i64 n,.str t,.str p,.lst false (d.map Zc)],.agg [.int .i64 i',.int .i64 n',.str t',.str p',.lst false (d'.map Zc)]]=some (.bool (i == i' && n == n' && t == t' && p == p' && d == d'),σ,{}) :=
 Zce (ZLO ⟨i,n,t,p,d⟩ ⟨i',n',t',p',d'⟩) (by kernel_rfl) (by simp only [List.all_cons,ZsY];rfl) (by simp only [List.map_cons,Zt3];rfl) rfl (fun _=>rfl) _ _ _ _
theorem Zuh (a b:List Zp) (h:a.length=b.length) (hl:a.length<=9223372036854775807):∀ (r s:List Zp) (i:Nat),a.drop i=r->b.drop i=s->Zlc 0 [(17,.int .i64 i),(16,.int .i64 a.length),(15,ZaA a),(2,.fn 92 []),(1,ZaA b)] []=some (.bool (r == s),[])
 | [],s,i,ha,hb=>by
  have hs:s=[]:=by
   subst hb;rw [List.drop_eq_nil_iff] at ha ⊢;omega
  subst hs
  have h1:=Zda ha
  unfold Zlc
  rw [Z9]
  simp -implicitDefEqProofs only [EQA,Nat.reduceLT,Nat.reduceEqDiff,↓reduceIte,Zpq,ZxQ,Zo8,Zts,ZkT,oI,oN,ZaA,h1]
 | x::r,[],i,ha,hb=>by
  have:=(Z8 ha).2.2;rw [List.drop_eq_nil_iff] at hb;omega
 | x::r,y::s,i,ha,hb=>by
  have ih:=Zuh a b h hl r s (i+1) (Z8 ha).2.1 (Z8 hb).2.1
  have h1:(i:Int) < a.length:=by have:=(Z8 ha).2.2;omega
  have e1:=iad (Z8 ha).1 Zn (k:=5) rfl
  have e2:=iad (Z8 hb).1 Zn (k:=5) rfl
  have e3:=Zc9 h1 hl
  unfold Zlc at ih ⊢
  rw [Z9]
  simp -implicitDefEqProofs only [EQA,ZC,Z5,Nat.reduceAdd,Nat.reduceLT,Nat.reduceLeDiff,Nat.reduceEqDiff,Nat.reduceBEq,unA,↓reduceIte,gcT,gcA,ZB,Zz,Zw,ZM,Zpq,Zts,ZkT,oI,oN,ZI,ZaA,Zn,ZbI,h1,e1,e2,e3,ZMc]
  simp only [ZaA] at ih
  rw [ih,ZsH]
  by_cases hx:x=y <;> simp [hx]
theorem ZDh (a b:List Zp) (hl:a.length<=9223372036854775807):E 91 [ZaA a,ZaA b,.fn 92 []] []=some (.bool (a == b),[]):=by
 rw [Zh (by rfl) ZNT]
 by_cases h:a.length=b.length
 ·have:=Zuh a b h hl a b 0 rfl rfl
  unfold Zlc at this
  simp only [ZaA] at this
  have e:=Zju h
  simp -implicitDefEqProofs only [EQA,Z5,Nat.reduceAdd,Nat.reduceLT,Nat.reduceEqDiff,reduceCtorEq,↓reduceIte,gcT,gcA,ZB,Zz,Zw,ZM,Zr3,Zk4,oI,ZaA,e]
  exact this
 ·have e:=Zi1 h
  simp -implicitDefEqProofs only [EQA,Nat.reduceAdd,Nat.reduceLT,Nat.reduceEqDiff,reduceCtorEq,↓reduceIte,Zr3,Zk4,Zpq,oI,ZaA,e,Zjz h]
theorem ZAa (σ:Za) (sq own:Nat) (view:Bool) (a b:List Zp) (hl:a.length<=9223372036854775807):Zj E BY σ sq 91 own view [.lst false (a.map Zn),.lst false (b.map Zn),.fn 92 []]=some (.bool (a == b),σ,{}) :=
 Zce (ZDh a b hl) (by kernel_rfl) (by simp -implicitDefEqProofs only [ZcM,Zq9,Zbn,eq_self,ZaA]) (by simp -implicitDefEqProofs only [ZC,Zbn,eq_self,ZaA]) rfl (fun _=>rfl) _ _ _ _
theorem ZwP (a b:List Zp) (hl:a.length<=9223372036854775807):E 43 [ZaA a,ZaA b] []=some (.bool (a == b),[]):=by
 rw [Zh (by rfl) ZH3]
 simp -implicitDefEqProofs only [EQA,Nat.reduceLT,Nat.reduceEqDiff,reduceCtorEq,↓reduceIte,ZOD,ZnR,ZM4,oI,ZaA,ZAa,hl]
theorem ZjS (σ:Za) (sq own:Nat) (view:Bool) (a b:List Zp) (hl:a.length<=9223372036854775807):Zj E BY σ sq 43 own view [.lst false (a.map Zn),.lst false (b.map Zn)]=some (.bool (a == b),σ,{}) :=
 Zce (ZwP a b hl) (by kernel_rfl) (by simp -implicitDefEqProofs only [ZcM,Zbn,eq_self,ZaA]) (by simp -implicitDefEqProofs only [ZC,Zbn,eq_self,ZaA]) rfl (fun _=>rfl) _ _ _ _
theorem Zsv (a b:List Zp) (h:a.length=b.length) (hl:a.length<=9223372036854775807):∀ (r s:List Zp) (i:Nat),a.drop i=r->b.drop i=s->Zlg 0 [(5,.int .i64 i),(1,ZaA b),(0,ZaA a)] []=some (.bool (r == s),[])
 | [],s,i,ha,hb=>by
  have hs:s=[]:=by
   subst hb;rw [List.drop_eq_nil_iff] at ha ⊢;omega
  subst hs
  have h1:=Zda ha
  unfold Zlg
  rw [Z9]
  simp -implicitDefEqProofs only [EQA,Nat.reduceLT,Nat.reduceEqDiff,reduceCtorEq,↓reduceIte,Zoi,ZyG,Znu,Zsf,ZkN,oI,ZaA,h1]
 | x::r,[],i,ha,hb=>by
  have:=(Z8 ha).2.2;rw [List.drop_eq_nil_iff] at hb;omega
 | x::r,y::s,i,ha,hb=>by
  have ih:=Zsv a b h hl r s (i+1) (Z8 ha).2.1 (Z8 hb).2.1
  have h1:(i:Int) < a.length:=by have:=(Z8 ha).2.2;omega
  have e1:=iad (Z8 ha).1 Zn (k:=5) rfl
  have e2:=iad (Z8 hb).1 Zn (k:=5) rfl
  have e3:=Zc9 h1 hl
  unfold Zlg at ih ⊢
  rw [Z9]
  simp -implicitDefEqProofs only [EQA,ZC,Z5,Nat.reduceAdd,Nat.reduceLT,Nat.reduceLeDiff,Nat.reduceEqDiff,Nat.reduceBEq,unA,reduceCtorEq,↓reduceIte,gcT,gcA,ZB,Zz,Zw,ZM,Zoi,Zsf,ZkN,oI,ZI,ZaA,Zn,ZbI,h1,e1,e2,e3,ZJ5]
  simp only [ZaA] at ih
  rw [ih,ZsH]
  by_cases hx:x=y <;> simp [hx]
theorem ZOM (a b:List Zp) (hl:a.length<=9223372036854775807):E 72 [ZaA a,ZaA b] []=some (.bool (a == b),[]):=by
 rw [Zh (by rfl) ZID]
 by_cases h:a.length=b.length
 ·have:=Zsv a b h hl a b 0 rfl rfl
  unfold Zlg at this
  simp only [ZaA] at this
  have e:=Zju h
  simp -implicitDefEqProofs only [EQA,Z5,Nat.reduceLT,Nat.reduceEqDiff,reduceCtorEq,↓reduceIte,gcT,gcA,ZB,Zz,Zw,ZM,ZsZ,ZlB,oI,ZaA,e]
  exact this
 ·have e:=Zi1 h
  simp -implicitDefEqProofs only [EQA,Nat.reduceLT,Nat.reduceEqDiff,reduceCtorEq,↓reduceIte,ZsZ,ZlB,Zoi,oI,ZaA,e,Zjz h]
theorem ZBn (σ:Za) (sq own:Nat) (view:Bool) (a b:List Zp) (hl:a.length<=9223372036854775807):Zj E BY σ sq 72 own view [.lst false (a.map Zn),.lst false (b.map Zn)]=some (.bool (a == b),σ,{}) :=
 Zce (ZOM a b hl) (by kernel_rfl) (by simp -implicitDefEqProofs only [ZcM,Zbn,eq_self,ZaA]) (by simp -implicitDefEqProofs only [ZC,Zbn,eq_self,ZaA]) rfl (fun _=>rfl) _ _ _ _
end
section
theorem Zzu (b:Zb):List.take b.length (b.map Zc)=b.map Zc:=List.take_of_length_le (by simp)
def ZD (x:Int):Nat:=(x % 18446744073709551616).toNat
theorem Zoy (x:Int):IntKind.u64.wrap x=((ZD x:Nat):Int):=by rw [IntKind.wrap_u64,ZD];omega
def Zdo (k:Int) (p:Zp):Zb×Zb :=
 if k=1 then (beB (ZD p.num) 1,[]) else if k=2 then (beB (ZD p.num) 2,[]) else if k=3 then (beB (ZD p.num) 4,[])
 else if k=4 then ((Zah p.num).1,[]) else if k=5 then ((Zad p.text).1,[]) else if k=6 then ((Zbv p.data).1,[])
 else if k=7 then ((Zad p.text).1,(Zad p.pair).1) else ([],[])
def Zcx (p:Zp):Zb:=(Zah p.id).1++((Zdo (Zb5 p.id) p).1++(Zdo (Zb5 p.id) p).2)
theorem Zsl:∀ k n:Nat,(ZbO k n).length<=k+1
 | 0,n=>by simp [ZbO]
 | k+1,n=>by
  unfold ZbO
  split
  ·simp
  ·have:=Zsl k (n / 128)
   simp only [List.length_cons];omega
theorem ZgF (n:Int):(Zah n).1.length<=4:=by
 unfold Zah
 split
 ·simp
 ·exact Zsl 3 _
theorem ZqD (b:Zb):(Zbv b).1.length<=65537:=by
 unfold Zbv
 split
 ·simp
 ·simp only [List.length_append,Za2];omega
theorem Zil (b:Zb):(Zad b).1.length<=65537:=by
 unfold Zad
 split
 ·exact ZqD b
 ·simp
theorem ZMb (k:Int) (p:Zp):(Zdo k p).1.length<=65537/\(Zdo k p).2.length<=65537:=by
 have h1:=ZgF p.num
 have h2:=Zil p.text
 have h3:=Zil p.pair
 have h4:=ZqD p.data
 unfold Zdo
 repeat' split
 all_goals simp only [Za2,List.length_nil]
 all_goals omega
theorem ZuW (p:Zp):(Zcx p).length<=200000:=by
 have h1:=ZgF p.id
 have h2:=ZMb (Zb5 p.id) p
 unfold Zcx
 simp only [List.length_append];omega
theorem Zho (σ:Za) (sq own:Nat) (f:Bool) (a v w:Zb) (h:a.length+(v.length+w.length)<=140737488355328):Zj E BY σ sq 56 own true [.lst f [.lst false (a.map Zc),.lst false (v.map Zc),.lst false (w.map Zc)]]=some (.lst false ((a++(v++w)).map Zc),σ,{}):=by
 have:=Zhx σ sq own f a [v,w] (by simp) (by simpa using h)
 simpa only [List.map_cons,List.map_nil,ZI,List.flatten_cons,List.flatten_nil,List.append_nil] using this
theorem Zmv (p:Zp) (k:Int) (W:Nat) (hk:Zb5 p.id=k) (hW:(k=1/\W=1)\/(k=2/\W=2)\/(k=3/\W=4)):E 89 [Zn p] []=some (.lst false (((Zah p.id).1++(beB (ZD p.num) W++[])).map Zc),[]):=by
 have hK:=fun σ sq own=>Zjj σ sq own p.id
 have hV:=fun σ sq own=>ZfL σ sq own p.id
 unfold ZeK at hV
 have l0:=ZgF p.id
 have hP:=fun σ sq own=>ZkX σ sq own (ZD p.num) W (by omega) (by omega)
 have hJ:=fun σ sq own f=>Zho σ sq own f (Zah p.id).1 (beB (ZD p.num) W) [] (by simp only [Za2,List.length_nil];omega)
 simp only [List.map_nil] at hJ
 have hu:=Zoy p.num
 rw [hk] at hK
 generalize beB (ZD p.num) W=B at *
 have z1:((1:Nat):Int)=1:=rfl
 have z2:((2:Nat):Int)=2:=rfl
 have z4:((4:Nat):Int)=4:=rfl
 rcases hW with ⟨rfl,rfl⟩ | ⟨rfl,rfl⟩ | ⟨rfl,rfl⟩
 ·have w1:IntKind.i64.wrap (1 - 1)=0:=rfl
  have w2:IntKind.i64.wrap (1*2 ^ min (Int.toNat 0) IntKind.i64.bits)=1:=rfl
  have ng:¬((0:Int) < 0):=by decide
  rw [z1] at hP
  rw [Zh (by rfl) Zgj]
  simp -implicitDefEqProofs only [EQA,Zu,Nat.reduceLT,Nat.reduceEqDiff,Nat.reduceBEq,ZaB,↓reduceIte,ZfQ,Zev,ZfE,oI,ZI,Zn,ZbI,hK,hV,hP,hJ,hu,w1,w2,ng,viewAs,ZS,ZN,Zs,AVal.cells]
 ·have w1:IntKind.i64.wrap (2 - 1)=1:=rfl
  have w2:IntKind.i64.wrap (1*2 ^ min (Int.toNat 1) IntKind.i64.bits)=2:=rfl
  have ng:¬((1:Int) < 0):=by decide
  rw [z2] at hP
  rw [Zh (by rfl) Zgj]
  simp -implicitDefEqProofs only [EQA,Zu,Nat.reduceLT,Nat.reduceEqDiff,Nat.reduceBEq,ZaB,↓reduceIte,ZfQ,Zev,ZfE,oI,ZI,Zn,ZbI,hK,hV,hP,hJ,hu,w1,w2,ng,Int.reduceBEq,viewAs,ZS,ZN,Zs,AVal.cells]
 ·have w1:IntKind.i64.wrap (3 - 1)=2:=rfl
  have w2:IntKind.i64.wrap (1*2 ^ min (Int.toNat 2) IntKind.i64.bits)=4:=rfl
  have ng:¬((2:Int) < 0):=by decide
  rw [z4] at hP
  rw [Zh (by rfl) Zgj]
  simp -implicitDefEqProofs only [EQA,Zu,Nat.reduceLT,Nat.reduceEqDiff,Nat.reduceBEq,ZaB,↓reduceIte,ZfQ,Zev,ZfE,oI,ZI,Zn,ZbI,hK,hV,hP,hJ,hu,w1,w2,ng,Int.reduceBEq,viewAs,ZS,ZN,Zs,AVal.cells]
theorem ZDj (p:Zp) (ht:p.text.length<=9223372036854775807) (hp:p.pair.length<=9223372036854775807) (hd:p.data.length<=9223372036854775807):E 89 [Zn p] []=some (.lst false ((Zcx p).map Zc),[]):=by
 have hK:=fun σ sq own=>Zjj σ sq own p.id
 have hV:=fun σ sq own=>ZfL σ sq own p.id
 unfold ZeK at hV
 have l0:=ZgF p.id
 unfold Zcx
 rcases ZnO p.id with hk | hk | hk | hk | hk | hk | hk | hk
 ·rw [hk] at hK ⊢
  rw [show Zdo 0 p=([],[]) from rfl,Zh (by rfl) Zgj]
  have hJ:=fun σ sq own f=>Zho σ sq own f (Zah p.id).1 [] [] (by simp only [List.length_nil];omega)
  simp only [List.map_nil] at hJ
  simp -implicitDefEqProofs only [EQA,Zu,Nat.reduceLT,Nat.reduceEqDiff,Nat.reduceBEq,↓reduceIte,ZfQ,Zev,ZfE,oI,ZI,Zn,ZbI,hK,hV,hJ,Int.reduceBEq,viewAs,ZS,ZN,Zs,AVal.cells]
 ·have h:=Zmv p 1 1 hk (by simp)
  rw [hk];exact h
 ·have h:=Zmv p 2 2 hk (by simp)
  rw [hk];exact h
 ·have h:=Zmv p 3 4 hk (by simp)
  rw [hk];exact h
 ·rw [hk] at hK ⊢
  rw [show Zdo 4 p=((Zah p.num).1,[]) from rfl,Zh (by rfl) Zgj]
  have l1:=ZgF p.num
  have hJ:=fun σ sq own f=>Zho σ sq own f (Zah p.id).1 (Zah p.num).1 [] (by simp only [List.length_nil];omega)
  simp only [List.map_nil] at hJ
  have hV2:=fun σ sq own=>ZfL σ sq own p.num
  unfold ZeK at hV2
  simp -implicitDefEqProofs only [EQA,Zu,Nat.reduceLT,Nat.reduceEqDiff,Nat.reduceBEq,↓reduceIte,ZfQ,Zev,ZfE,oI,ZI,Zn,ZbI,hK,hV,hV2,hJ,Int.reduceBEq,viewAs,ZS,ZN,Zs,AVal.cells]
 ·rw [hk] at hK ⊢
  rw [show Zdo 5 p=((Zad p.text).1,[]) from rfl,Zh (by rfl) Zgj]
  have l1:=Zil p.text
  have hJ:=fun σ sq own f=>Zho σ sq own f (Zah p.id).1 (Zad p.text).1 [] (by simp only [List.length_nil];omega)
  simp only [List.map_nil] at hJ
  have hV2:=fun σ sq own=>Zjb σ sq own p.text ht
  unfold byT at hV2
  simp -implicitDefEqProofs only [EQA,Zu,Nat.reduceLT,Nat.reduceEqDiff,Nat.reduceBEq,↓reduceIte,ZfQ,Zev,ZfE,oI,ZI,Zn,ZbI,hK,hV,hV2,hJ,Int.reduceBEq,viewAs,ZS,ZN,Zs,AVal.cells]
 ·rw [hk] at hK ⊢
  rw [show Zdo 6 p=((Zbv p.data).1,[]) from rfl,Zh (by rfl) Zgj]
  have l1:=ZqD p.data
  have hJ:=fun σ sq own f=>Zho σ sq own f (Zah p.id).1 (Zbv p.data).1 [] (by simp only [List.length_nil];omega)
  simp only [List.map_nil] at hJ
  have hV2:=fun σ sq own f=>Zo5 σ sq own f p.data hd
  unfold byT at hV2
  simp -implicitDefEqProofs only [EQA,Zu,Nat.reduceLT,Nat.reduceEqDiff,Nat.reduceBEq,↓reduceIte,ZfQ,Zev,ZfE,oI,ZI,Zn,ZbI,hK,hV,hV2,hJ,Int.reduceBEq,viewAs,ZS,ZN,Zs,AVal.cells]
 ·rw [hk] at hK ⊢
  rw [show Zdo 7 p=((Zad p.text).1,(Zad p.pair).1) from rfl,Zh (by rfl) Zgj]
  have l1:=Zil p.text
  have l2:=Zil p.pair
  have hJ:=fun σ sq own f=>Zho σ sq own f (Zah p.id).1 (Zad p.text).1 (Zad p.pair).1 (by omega)
  have hV2:=fun σ sq own=>Zjb σ sq own p.text ht
  have hV3:=fun σ sq own=>Zjb σ sq own p.pair hp
  unfold byT at hV2 hV3
  simp -implicitDefEqProofs only [EQA,Zu,Nat.reduceLT,Nat.reduceEqDiff,Nat.reduceBEq,↓reduceIte,ZfQ,Zev,ZfE,oI,ZI,Zn,ZbI,hK,hV,hV2,hV3,hJ,Int.reduceBEq,viewAs,ZS,ZN,Zs,AVal.cells]
def ZcQ (p:Zp):Prop:=p.text.length<=9223372036854775807/\p.pair.length<=9223372036854775807/\p.data.length<=9223372036854775807
theorem Zrs (σ:Za) (sq own:Nat) (p:Zp) (h:ZcQ p):Zj E BY σ sq 89 own true [.agg [.int .i64 p.id,.int .i64 p.num,.str p.text,.str p.pair,.lst false (p.data.map Zc)]]=some (.lst false ((Zcx p).map Zc),σ,{}) :=
 ZbC (ZDj p h.1 h.2.1 h.2.2) (by kernel_rfl) rfl rfl rfl (fun _=>rfl) _ _ _
def Zgs (w:Int) (l:List Zp) (b:Zb):Zb×Int :=
 if (Zah b.length).2≠0 then ([],129)
 else if (Z3 w ((Zah b.length).1++b)).2.2≠0\/(Z3 w ((Zah b.length).1++b)).2.1≠((Zah b.length).1++b).length\/((Z3 w ((Zah b.length).1++b)).1 == l)=false then ([],129)
 else ((Zah b.length).1++b,0)
def Zbc (w:Int) (l:List Zp):Zb×Int:=Zgs w l (l.map Zcx).flatten
theorem Zu9 (σ:Za) (sq own:Nat) (f:Bool) (a v:Zb) (h:a.length+v.length<=140737488355328):Zj E BY σ sq 56 own true [.lst f [.lst false (a.map Zc),.lst false (v.map Zc)]]=some (.lst false ((a++v).map Zc),σ,{}):=by
 have:=Zhx σ sq own f a [v] (by simp) (by simpa using h)
 simpa only [List.map_cons,List.map_nil,ZI,List.flatten_cons,List.flatten_nil,List.append_nil] using this
end
section
theorem Zn0 (w:Int):∀ (n:Nat) (b:Zb) (l:List Zp),(Zch w n b l).1.length<=l.length+b.length
 | n,[],l=>by rw [Znz];simp
 | 0,c::r,l=>by simp [Zch]
 | n+1,c::r,l=>by
  rw [ZnT]
  split
  ·rename_i h
   have hu:=ZvP h
   have ih:=Zn0 w n ((c::r).drop (Za7 w (c::r) l).2.1) (l++[(Za7 w (c::r) l).1])
   rw [List.length_drop,List.length_append,List.length_singleton] at ih
   omega
  ·simp
theorem ZGH (w:Int) (b:Zb):(Z3 w b).1.length<=b.length:=by
 unfold Z3
 split
 ·simp
 ·split
  ·have:=Zn0 w (ZO b).1 ((b.take ((ZO b).2.1+(ZO b).1)).drop (ZO b).2.1) []
   simp only [List.length_drop,List.length_take,List.length_nil] at this
   simp only
   omega
  ·simp
def okV (k:Int) (p:Zp):Bool :=
 if k=1 then decide (p.num>=0) && decide (p.num < 256) else if k=2 then decide (p.num>=0) && decide (p.num < 65536) else if k=3 then decide (p.num>=0) && decide (p.num < 4294967296)
 else if k=4 then (Zah p.num).2 == 0 else if k=5 then (Zad p.text).2 == 0 else if k=6 then (Zbv p.data).2 == 0
 else if k=7 then (Zad p.text).2 == 0 && (Zad p.pair).2 == 0 else false
def ZMz (p:Zp):Bool:=!(decide (p.id < 1) || decide (p.id > 127)) && okV (Zb5 p.id) p
theorem ZtE (b:Zb):(Zan b).1.length<=65535:=by
 unfold Zan
 split
 ·simp
 ·have:=ZrF (b.take 2) (by simp;omega)
  simp only [List.length_take,List.length_drop]
  omega
end
section
def ZgY (f:Bool) (x:Zb×Int):AVal:=.tup [.lst f (x.1.map Zc),.int .i64 x.2]
theorem ZCE (w:Int) (l:List Zp) (hl:l.length<=9223372036854775807) (b:Zb) (hb:b.length<=140737488355000) (i:Nat) (h1:¬(i:Int) < l.length) :
  ∃ f,ZiX 0 [(16,.int .i64 i),(15,.int .i64 l.length),(14,.lst false (l.map Zn)),(6,.sl 0 0 0 b.length),(1,.lst false (l.map Zn)),(0,.int .i64 w)] [.row 0 1 (b.map Zc)]=some (ZgY f (Zgs w l b),[]):=by
 have hV:=fun σ sq own=>ZfL σ sq own (b.length:Int)
 unfold ZeK at hV
 have l0:=ZgF (b.length:Int)
 have hJ:=fun σ sq own f=>Zu9 σ sq own f (Zah b.length).1 b (by omega)
 have hR:=fun σ sq own f=>ZjT σ sq own f w ((Zah b.length).1++b) (by simp;omega)
 have hS:=fun σ sq own view (a:List Zp) (ha:a.length<=9223372036854775807)=>ZjS σ sq own view a l ha
 have ht:=Zzu b
 have hlen:((Zah b.length).1++b).length<=140737488355328:=by simp;omega
 have hrl:=ZGH w ((Zah b.length).1++b)
 unfold Zgs ZgY
 generalize Zah b.length=V at *
 obtain ⟨v,e⟩:=V
 simp only at hV hJ hR hlen hrl ⊢
 generalize hc:v++b=c at *
 generalize Z3 w c=R at *
 obtain ⟨again,used,code⟩:=R
 simp only at hR hrl ⊢
 have hS2:=fun σ sq own view=>hS σ sq own view again (by omega)
 unfold ZiX
 by_cases he:e=0
 ·subst he
  have n0:((0:Int) != 0)=false:=rfl
  rw [if_neg (by simp)]
  by_cases hc0:code=0
  ·subst hc0
   by_cases hu:used=c.length
   ·have n2:((used:Int) != (c.length:Int))=false:=by simp [hu]
    cases hs:(again == l) <;> rw [hs] at hS2
    ·refine ⟨true,?_⟩
     rw [if_pos (by simp),Z9]
     simp -implicitDefEqProofs only [EQA,Zu,Nat.reduceLT,Nat.reduceEqDiff,unA,ZF,unG,reduceCtorEq,Z0,↓reduceIte,Zd,Zhz,Zhp,ZfB,Zf2,ZeJ,oI,oN,h1,hV,hJ,hR,hS2,ht,n0,n2,viewAs,ZS,ZN,Zs,Nat.le_refl,AVal.cells]
    ·refine ⟨false,?_⟩
     rw [if_neg (by simp [hu]),Z9]
     simp -implicitDefEqProofs only [EQA,Zu,Nat.reduceLT,Nat.reduceEqDiff,unA,ZF,unG,reduceCtorEq,Z0,↓reduceIte,Zd,Zhz,Zhp,ZfB,Zf2,ZeJ,oI,oN,h1,hV,hJ,hR,hS2,ht,n0,n2,viewAs,ZS,ZN,Zs,Nat.le_refl,AVal.cells]
   ·have n2:((used:Int) != (c.length:Int))=true:=by simp;omega
    refine ⟨true,?_⟩
    rw [if_pos (by simp [hu]),Z9]
    simp -implicitDefEqProofs only [EQA,Zu,Nat.reduceLT,Nat.reduceEqDiff,ZF,Zav,unG,reduceCtorEq,Z0,↓reduceIte,Zd,Zhz,Zhp,ZfB,Zf2,ZeJ,oI,oN,h1,hV,hJ,hR,ht,n0,n2,viewAs,ZS,ZN,Zs,Nat.le_refl,AVal.cells]
  ·have n1:(code != 0)=true:=by simpa using hc0
   refine ⟨true,?_⟩
   rw [if_pos (by simp [hc0]),Z9]
   simp -implicitDefEqProofs only [EQA,Zu,Nat.reduceLT,Nat.reduceEqDiff,ZF,Zav,reduceCtorEq,Z0,↓reduceIte,Zd,Zhz,Zhp,ZfB,Zf2,ZeJ,oI,oN,h1,hV,hJ,hR,ht,n0,n1,viewAs,ZS,ZN,Zs,Nat.le_refl,AVal.cells]
 ·have n1:(e != 0)=true:=by simpa using he
  refine ⟨true,?_⟩
  rw [if_pos he,Z9]
  simp -implicitDefEqProofs only [EQA,Zu,Nat.reduceLT,Nat.reduceEqDiff,reduceCtorEq,↓reduceIte,Zd,Zhz,Zhp,ZfB,Zf2,ZeJ,oI,oN,h1,hV,n1]
theorem Zwa (w:Int) (l:List Zp) (hl:l.length<=9223372036854775807) (hx:∀ p ∈ l,ZcQ p):∀ (r:List Zp) (i:Nat) (acc:Zb),l.drop i=r->acc.length+r.length*200000<=140737488355000 ->
  ∃ f,ZiX 0 [(16,.int .i64 i),(15,.int .i64 l.length),(14,.lst false (l.map Zn)),(6,.sl 0 0 0 acc.length),(1,.lst false (l.map Zn)),(0,.int .i64 w)] [.row 0 1 (acc.map Zc)]=some (ZgY f (Zgs w l (acc++(r.map Zcx).flatten)),[])
 | [],i,acc,h,hn=>by
  simp only [List.map_nil,List.flatten_nil,List.append_nil]
  exact ZCE w l hl acc (by simpa using hn) i (Zda h)
 | p::r,i,acc,h,hn=>by
  have hlp:=ZuW p
  simp only [List.length_cons] at hn
  obtain ⟨f,ih⟩:=Zwa w l hl hx r (i+1) (acc++Zcx p) (Z8 h).2.1 (by rw [List.length_append];omega)
  refine ⟨f,?_⟩
  have h1:(i:Int) < l.length:=by have:=(Z8 h).2.2;omega
  have e1:=iad (Z8 h).1 Zn (k:=5) rfl
  have e3:=Zc9 h1 hl
  have hC:=fun σ sq own=>Zrs σ sq own p (hx p (List.mem_of_getElem? (Z8 h).1))
  rw [List.append_assoc] at ih
  rw [List.map_cons,List.flatten_cons]
  generalize Zcx p=q at *
  have k1:=ZfW q
  have k2:(acc.length+q.length)*1<=140737488355328:=by omega
  have e4:(acc++q).map Zc=acc.map Zc++q.map Zc:=by simp
  have e5:(acc++q).length=acc.length+q.length:=by simp
  rw [e4,e5] at ih
  unfold ZiX at ih ⊢
  rw [Z9]
  simp -implicitDefEqProofs only [EQA,Z5,Zcq,Nat.reduceAdd,Nat.reduceLT,Nat.reduceEqDiff,Nat.reduceBEq,reduceCtorEq,Z0,↓reduceIte,gcT,gcA,ZB,Zz,Zo,Zw,Z1,Zq,ZU,ZG,ZM,Zf2,ZeJ,oI,oN,ZI,Zn,ZbI,h1,e1,e3,hC,k1,k2,ZaX,Nat.le_refl,AVal.cells]
  exact ih
theorem ZB9 (w:Int) (l:List Zp) (hl:l.length<=700000000) (hx:∀ p ∈ l,ZcQ p):∃ f,E 42 [.int .i64 w,ZaA l] []=some (ZgY f (Zbc w l),[]):=by
 have z0:((0:Nat):Int)=0:=rfl
 unfold Zbc
 cases l with
 | nil =>
  have hV:=fun σ sq own=>ZfL σ sq own 0
  have hv:Zah 0=([0],0):=rfl
  unfold ZeK at hV
  rw [hv] at hV
  have hJ:=fun σ sq own f=>Zu9 σ sq own f [0] [] (by simp)
  have hR:=fun σ sq own f=>ZjT σ sq own f w [0] (by simp)
  have hr:Z3 w [0]=([],1,0):=rfl
  rw [hr] at hR
  have hS:=fun σ sq own view=>ZjS σ sq own view [] [] (by simp)
  have e:Zgs w [] (([]:List Zp).map Zcx).flatten=([0],0):=by
   unfold Zgs
   simp only [List.map_nil,List.flatten_nil,List.length_nil,z0,hv,List.append_nil,hr]
   rfl
  rw [e]
  refine ⟨false,?_⟩
  rw [Zh (by rfl) Zsh]
  simp only [List.map_nil,List.map_cons,Zc] at hV hJ hR hS
  unfold ZgY
  have b0:Zc 0=.int .u8 0:=rfl
  have u0:(0:UInt8).toNat=0:=rfl
  have n0:((0:Int) != 0)=false:=rfl
  have n1:((1:Int) != 1)=false:=rfl
  rw [u0,z0] at hV hJ hR
  have z1:((1:Nat):Int)=1:=rfl
  rw [z1] at hR
  simp -implicitDefEqProofs only [EQA,Z5,Nat.reduceLT,Nat.reduceEqDiff,reduceCtorEq,↓reduceIte,gcT,gcA,ZB,Zz,Zw,ZM,ZrW,Zlk,oI,ZaA]
  rw [Z9]
  simp -implicitDefEqProofs only [EQA,Zu,Nat.reduceLT,Nat.reduceEqDiff,unA,ZF,unG,reduceCtorEq,↓reduceIte,Zd,Zhz,Zhp,ZfB,Zf2,ZeJ,oI,oN,z0,z1,hV,hJ,hR,hS,n0,n1,b0,viewAs,ZS,ZN,Zs,AVal.cells,Int.reduceLT]
 | cons p r =>
  have hlp:=ZuW p
  simp only [List.length_cons] at hl
  obtain ⟨f,ih⟩:=Zwa w (p::r) (by simp only [List.length_cons];omega) hx r 1 (Zcx p) rfl (by omega)
  refine ⟨f,?_⟩
  have e1:=iad (l:=p::r) (i:=0) rfl Zn (k:=5) rfl
  have h1:(0:Int) < ((p::r).length:Int):=by simp only [List.length_cons];omega
  have w1:IntKind.i64.wrap (0+1)=1:=rfl
  have z1:((1:Nat):Int)=1:=rfl
  have hC:=fun σ sq own=>Zrs σ sq own p (hx p (by simp))
  rw [List.map_cons,List.flatten_cons]
  generalize Zcx p=q at *
  have k1:=ZfW q
  have k2:q.length*1<=140737488355328:=by omega
  have e6:(q.map Zc).length=q.length:=by simp
  rw [z0] at e1
  rw [z1] at ih
  generalize (r.map Zcx).flatten=t at *
  generalize hL:p::r=L at *
  rw [Zh (by rfl) Zsh]
  unfold ZiX at ih
  simp -implicitDefEqProofs only [EQA,Z5,Nat.reduceLT,Nat.reduceEqDiff,reduceCtorEq,↓reduceIte,gcT,gcA,ZB,Zz,Zw,ZM,ZrW,Zlk,oI,ZaA]
  rw [Z9]
  simp -implicitDefEqProofs only [EQA,Z5,Zcq,Nat.reduceAdd,Nat.reduceLT,Nat.reduceEqDiff,Nat.reduceBEq,reduceCtorEq,Z0,↓reduceIte,gcT,gcA,ZB,Zz,Zo,Zw,Z1,Zq,ZU,ZG,ZM,Zf2,ZeJ,oI,oN,ZI,Zn,ZbI,h1,e1,w1,hC,k1,k2,ZaX,Nat.le_refl,AVal.cells]
  exact ih
theorem ZNM (σ:Za) (sq own:Nat) (f:Bool) (w:Int) (l:List Zp) (hl:l.length<=700000000) (hx:∀ p ∈ l,ZcQ p):Zj E BY σ sq 42 own true [.int .i64 w,.lst f (l.map Zn)]=some (ZgY false (Zbc w l),σ,{}):=by
 obtain ⟨g,h⟩:=ZB9 w l hl hx
 exact ZbC h (by kernel_rfl) rfl rfl rfl (fun _=>rfl) _ _ _
end
section
end
section
def Zl5:Ze:=(.seq (.region [oI 4 (.mov (.c (.lst true [])))] none [1,0]) (.seq (.seq (.region [oI 5 (.mov (.t 0)),oI 6 (.len (.t 5)),oI 7 (.mov (.t 1)),oI 8 (.bin .gtr (.t 6) (.t 7))] none [8,1,0]) (.cond (.t 8) (.seq (.region [oI 9 (.mov (.t 0)),oI 10 (.mov (.t 1)),oI 11 (.slice 1 (.t 9) none (some (.t 10)) none),oI 4 (.mov (.t 11))] none [4]) .ret) .skip)) (.seq (.region [oI 12 (.mov (.t 0)),oI 4 (.mov (.t 12))] none [4]) .ret)))
def Zp0:ZE:=⟨[(.tmp 4)],Zl5⟩
theorem ZKo:FC 18=some Zp0:=by kernel_rfl
theorem ZvL:Zp0.body=Zl5:=rfl
theorem Zq7:Zp0.res=[(.tmp 4)]:=rfl
def ZqE:Ze:=(.seq (.region [oI 4 (.mov (.c (.bool false)))] none [1,0]) (.seq (.region [oI 5 (.mov (.t 0)),oI 6 (.b2s (.t 5)),oI 7 (.mov (.t 1)),oI 8 (.b2s (.t 7)),oI 9 (.bin .eql (.t 6) (.t 8)),oI 4 (.mov (.t 9))] none [4]) .ret))
def ZnQ:ZE:=⟨[(.tmp 4)],ZqE⟩
theorem ZEI:FC 15=some ZnQ:=by kernel_rfl
theorem Zy9:ZnQ.body=ZqE:=rfl
theorem ZBa:ZnQ.res=[(.tmp 4)]:=rfl
end
section
end
section
structure Zv8 where
 topic:Zb
 payload:Zb
 qos:Int
 retain:Bool
 sender:Zb
 expires:Int
 props:List Zp
 origin:Int
 number:Int
 hops:Int
 deriving DecidableEq
structure ZGN where
 note:Zv8
 qos:Int
 retain:Bool
 ids:List Int
 share:Zb
 deriving DecidableEq
end
section
theorem ZOq (w:Int) (b:Zb) (h:(Z3 w b).2.2=0):(Z3 w b).2.1<=268435460:=by
 have h1:=Zjn b
 have h2:(ZO b).2.1<=5:=by
  have : ∀ (b:Zb) (i n:Nat),i<=4->(gvA i n b).2.1<=5:=by
   intro b
   induction b with
   | nil=>intro i n hi;unfold gvA;split <;> simp
   | cons c r ih =>
    intro i n hi
    unfold gvA
    repeat' split
    all_goals (try simp only)
    all_goals first
     | omega
     | exact ih _ _ (by omega)
  exact this b 0 0 (by omega)
 unfold Z3 at h ⊢
 split
 ·rename_i hc;rw [if_pos hc] at h;simp at h
 ·rename_i hc
  rw [if_neg hc] at h
  split
  ·simp only;omega
  ·rename_i h3;rw [if_neg h3] at h;exact absurd h h3
structure ZG9 (n:Zv8):Prop where
 topic:n.topic.length<=9223372036854775807
 payload:n.payload.length<=9223372036854775807
 sender:n.sender.length<=9223372036854775807
 props:n.props.length<=700000000
 tx:∀ p ∈ n.props,ZcQ p
 dat:∀ p ∈ n.props,p.data.length<=140737488355328
end
section
def wn:List AVal:=[.lst true [],.int .i64 0,.int .i8 0]
def wv (r g n:Nat):List AVal:=[.sl r g 0 n,.int .i64 0,.int .i8 0]
def wH (g:Nat) (l:Zb):Za:=[.var (wv 1 g l.length),.row g 1 (l.map Zc)]
theorem ZbB {σ:Za} {sq f own:Nat} {view:Bool} {args:List AVal} {r:AVal×Za×Cls} (h:Zj E BY σ sq f own view args=some r):Zj E1 BY σ sq f own view args=some r:=Zmp ZJ0 h
theorem Zhv {O:ZR} {f:Nat} {args args':List AVal} {l l':Zb} {q:AVal} (hq:ZJ q=true) (hw:viewR (wH 1 l') q=some (q,[])/\viewR (wH 0 l') q=some (q,[])) (g2:Nat) (hg2:g2<=1) (h:O f (.ref 0 0::args') (wH 0 l)=some (q,wH g2 l')) (hb:BY f=false) (hp:args.all Zac=true) (hn:args.map ZH=args') {σ:Za} {t r g sq own:Nat} (htr:t≠r) (hff:Za4 σ sq own=true) (hs:σ[t]?=some (.var (wv r g l.length))) (hr:σ[r]?=some (.row g 1 (l.map Zc))) :
  Zj O BY σ sq f own true (.ref t 0::args)=some (q,(σ.set t (.var (wv r (g+g2) l'.length))).set r (.row (g+g2) 1 (l'.map Zc)),{ any:=true,upd:=[(t,wv r (g+g2) l'.length)] }):=by
 subst hn
 have hw':viewR [.var (wv 1 g2 l'.length),.row g2 1 (l'.map Zc)] q=some (q,[]):=by
  rcases Nat.lt_or_ge g2 1 with e | e
  ·obtain rfl:g2=0:=by omega
   exact hw.2
  ·obtain rfl:g2=1:=by omega
   exact hw.1
 exact ZgJ (cs1:=wv 1 0 l.length) (cs2:=wv 1 g2 l'.length) hs hr htr rfl hb hp (fun ρ hρ=>by simp only [wv,Zf,Zm,hρ]) hg2 hff hq h (ZkP true hq hw' rfl hg2 (fun ρ hρ=>by simp only [wv,Zf,Zm,hρ])) (fun ρ hρ=>by simp only [wv,Zf,Zm,hρ])
theorem ZgB {O:ZR} {f:Nat} {args args':List AVal} {l':Zb} {q:AVal} (hq:ZJ q=true) (hv:Zaf true 1 (some (q,wH 0 l'))=some (q,wH 0 l')) (h:O f (.ref 0 0::args') [.var wn]=some (q,wH 0 l')) (hb:BY f=false) (hp:args.all Zac=true) (hn:args.map ZH=args') {σ:Za} {t sq:Nat} (hf:σ[sq]?=some .free) (hs:σ[t]?=some (.var wn)) :
  Zj O BY σ sq f 1 true (.ref t 0::args)=some (q,(σ.set t (.var (wv sq 0 l'.length))).set sq (.row 0 1 (l'.map Zc)),{ any:=true,upd:=[(t,wv sq 0 l'.length)] }):=by
 subst hn
 have htl:t < σ.length:=(List.getElem?_eq_some_iff.1 hs).1
 have hsl:sq < σ.length:=(List.getElem?_eq_some_iff.1 hf).1
 have hne:sq≠t:=by rintro rfl;rw [hs] at hf;cases hf
 have h1:σ.getD t .free=.var wn:=by simp [List.getD_eq_getElem?_getD,hs]
 have hf0:Zs σ []=σ:=rfl
 have hsh:showAs σ (.ref t 0::args)=some (.ref t 0::args.map ZH,[]):=by
  rw [showAs,show showA σ (.ref t 0)=some (.ref t 0,[]) from rfl,Zeb hp]
  rfl
 have href:Zt (.ref t 0::args.map ZH)=[t]:=by
  rw [Zt,Zdp hp];rfl
 have hre:Zz σ 1000 [t] []=[t]:=by
  have e1:([]:List Nat).contains t=false:=rfl
  rw [show (1000:Nat)=998+1+1 from rfl,Zz,e1]
  simp only [Bool.false_eq_true,if_false,h1,ZM]
  rfl
 unfold Zj Zb2
 rw [hb]
 simp only [Bool.false_eq_true,if_false,hsh,hf0,href,hre]
 unfold ZbH
 have hall:([t].all fun t=>okB (σ.getD t .free))=true:=by simp only [List.all_cons,List.all_nil,h1,okB,Bool.and_true]
 rw [if_pos hall]
 have hρt:Zo σ 0 [t] t 0=some (0,0):=by simp [Zo,Z1,hs,Zq,ZU]
 have hargs:Zf (Zo σ 0 [t]) (.ref t 0::args.map ZH)=.ref 0 0::args.map ZH:=by
  rw [Zf,Zdk hp]
  simp only [Zm,hρt]
 have hheap:Zw σ 0 [t] (Zo σ 0 [t]) [t] 0=[.var wn]:=by
  simp only [Zw,h1,ZG]
  rfl
 rw [hargs,hheap,h]
 rw [show [t].length=1 from rfl,hv]
 have hk:Za1 σ [t] (wH 0 l') 0=true:=by simp [wH,Za1,okB,Zck,Zq,hs]
 have hff:Za4 σ sq 1=true:=by simp [Za4,freeAt,hf]
 have hup:Zbd ((σ.set t (.var (wv sq 0 l'.length))).set sq (.row 0 1 (l'.map Zc))) [t]=[(t,wv sq 0 l'.length)]:=by
  have e1:((σ.set t (.var (wv sq 0 l'.length))).set sq (.row 0 1 (l'.map Zc)))[t]?=some (.var (wv sq 0 l'.length)):=by
   rw [List.getElem?_set_ne hne,List.getElem?_set_self htl]
  simp only [Zbd,e1]
 have hlay:Za8 σ [t] sq (wH 0 l') 0 σ=(σ.set t (.var (wv sq 0 l'.length))).set sq (.row 0 1 (l'.map Zc)):=by
  simp [wH,Za8,ZaJ,Zcr,ZG,Zq,wv,Zf,Zm,ZaD]
 simp only [ZaE,List.isEmpty_cons,Bool.false_and,Bool.false_eq_true,if_false,hk,hff,hlay,hup,(Za5 _ _ hq).1]
 rfl
theorem Zq4 {O:ZR} {f:Nat} {args args':List AVal} (h:O f (.ref 0 0::args') [.var wn]=some (.tup [],[.var wn])) (hb:BY f=false) (hp:args.all Zac=true) (hn:args.map ZH=args') {σ:Za} {t sq own:Nat} (hff:Za4 σ sq own=true) (hs:σ[t]?=some (.var wn)) :
  Zj O BY σ sq f own true (.ref t 0::args)=some (.tup [],σ,{ any:=true,upd:=[(t,wn)] }):=by
 subst hn
 have htl:t < σ.length:=(List.getElem?_eq_some_iff.1 hs).1
 have h1:σ.getD t .free=.var wn:=by simp [List.getD_eq_getElem?_getD,hs]
 have hf0:Zs σ []=σ:=rfl
 have hsh:showAs σ (.ref t 0::args)=some (.ref t 0::args.map ZH,[]):=by
  rw [showAs,show showA σ (.ref t 0)=some (.ref t 0,[]) from rfl,Zeb hp]
  rfl
 have href:Zt (.ref t 0::args.map ZH)=[t]:=by
  rw [Zt,Zdp hp];rfl
 have hre:Zz σ 1000 [t] []=[t]:=by
  have e1:([]:List Nat).contains t=false:=rfl
  rw [show (1000:Nat)=998+1+1 from rfl,Zz,e1]
  simp only [Bool.false_eq_true,if_false,h1,ZM]
  rfl
 unfold Zj Zb2
 rw [hb]
 simp only [Bool.false_eq_true,if_false,hsh,hf0,href,hre]
 unfold ZbH
 have hall:([t].all fun t=>okB (σ.getD t .free))=true:=by simp only [List.all_cons,List.all_nil,h1,okB,Bool.and_true]
 rw [if_pos hall]
 have hρt:Zo σ 0 [t] t 0=some (0,0):=by simp [Zo,Z1,hs,Zq,ZU]
 have hargs:Zf (Zo σ 0 [t]) (.ref t 0::args.map ZH)=.ref 0 0::args.map ZH:=by
  rw [Zf,Zdk hp]
  simp only [Zm,hρt]
 have hheap:Zw σ 0 [t] (Zo σ 0 [t]) [t] 0=[.var wn]:=by
  simp only [Zw,h1,ZG]
  rfl
 rw [hargs,hheap,h]
 have hv:Zaf true 1 (some (.tup [],[.var wn]))=some (.tup [],[.var wn]):=rfl
 rw [show [t].length=1 from rfl,hv]
 have hk:Za1 σ [t] [.var wn] 0=true:=by simp [Za1,okB,Zck,Zq,hs]
 have hset:σ.set t (.var wn)=σ:=by
  apply List.ext_getElem?
  intro i
  rw [List.getElem?_set]
  by_cases e:t=i
  ·subst e;rw [if_pos rfl,if_pos htl,hs]
  ·simp [e]
 have hup:Zbd σ [t]=[(t,wn)]:=by simp only [Zbd,hs]
 have hlay:Za8 σ [t] sq [.var wn] 0 σ=σ:=by
  simp only [Za8,ZaJ,ZG,List.getD_cons_zero]
  exact hset
 simp only [ZaE,List.isEmpty_cons,Bool.false_eq_true,if_false,hk,hff,hlay,hup,Zm,Zf,List.length_cons,List.length_nil,Nat.zero_add,Nat.le_add_right,Nat.le_refl,decide_true,Bool.and_self,if_true]
def wT (n:Nat):AVal:=.tup [.int .i64 (n:Nat),.nili]
theorem ZxC (x:Zb) (hx:x.length<=ZbU):E1 130 [.ref 0 0,.lst false (x.map Zc)] [.var wn]=some (wT x.length,wH 0 x):=by
 rw [ZqW]
 simp only [Zhm,wn,List.length_map,hx,ZfW,and_self,if_true]
 rfl
theorem ZwK (l x:Zb) (hx:l.length+x.length<=ZbU):E1 130 [.ref 0 0,.lst false (x.map Zc)] (wH 0 l)=some (wT x.length,wH 1 (l++x)):=by
 rw [ZqW]
 simp only [Zhm,wH,wv,List.length_map,hx,ZfW,and_self,if_true,List.map_append,List.length_append]
 rfl
theorem Zsi (x:Zb) (hx:x.length<=ZbU) {σ:Za} {t sq:Nat} (hf:σ[sq]?=some .free) (hs:σ[t]?=some (.var wn)) :
  Zj E1 BY σ sq 130 1 true [.ref t 0,.lst false (x.map Zc)]=some (wT x.length,(σ.set t (.var (wv sq 0 x.length))).set sq (.row 0 1 (x.map Zc)),{ any:=true,upd:=[(t,wv sq 0 x.length)] }) :=
 ZgB (args:=[.lst false (x.map Zc)]) rfl rfl (ZxC x hx) (by kernel_rfl) rfl rfl hf hs
theorem ff1 {σ:Za} {sq:Nat} (hf:σ[sq]?=some .free):Za4 σ sq 1=true:=by simp [Za4,freeAt,hf]
theorem Zi9 (l x:Zb) (hx:l.length+x.length<=ZbU) {σ:Za} (t r g:Nat) {sq:Nat} (htr:t≠r) (hf:σ[sq]?=some .free) (hs:σ[t]?=some (.var (wv r g l.length))) (hr:σ[r]?=some (.row g 1 (l.map Zc))) :
  Zj E1 BY σ sq 130 1 true [.ref t 0,.lst false (x.map Zc)]=some (wT x.length,(σ.set t (.var (wv r (g+1) (l++x).length))).set r (.row (g+1) 1 ((l++x).map Zc)),{ any:=true,upd:=[(t,wv r (g+1) (l++x).length)] }) :=
 Zhv (args:=[.lst false (x.map Zc)]) rfl ⟨rfl,rfl⟩ 1 (by omega) (ZwK l x hx) (by kernel_rfl) rfl rfl htr (ff1 hf) hs hr
theorem Ztd (x:Zb) (σ:Za):Zak 1 (.var (wv 1 0 x.length)::.row 0 1 (x.map Zc)::σ) (.tup [])=some (.tup [],wH 0 x):=rfl
theorem ZgO (l:Zb) (g:Nat) (σ:Za):Zak 2 (.var (wv 1 (g+1) l.length)::.row (g+1) 1 (l.map Zc)::σ) (.tup [])=some (.tup [],wH 1 l):=by
 simp [Zak,gcA,ZB,Zt,Z2,List.range,List.range.loop,ZM,wv,Zz,Zo,Z1,Zw,ZU,Zq,ZG,Zf,Zm,wH]
theorem ZNg (n:Int) (W:Nat) (h1:1<=W) (hW:W<=8):E1 127 [.ref 0 0,.int .i64 n,.int .i64 (W:Nat)] [.var wn]=some (.tup [],wH 0 (beB (ZD n) W)):=by
 have hw:=Zoy n
 have hP:=fun σ sq own=>ZbB (ZkX σ sq own (ZD n) W h1 hW)
 have hlen:(beB (ZD n) W).length<=ZbU:=by rw [Za2];unfold ZbU;omega
 generalize beB (ZD n) W=B at *
 have hC:=fun {σ:Za} {t sq:Nat}=>Zsi B hlen (σ:=σ) (t:=t) (sq:=sq)
 have hO:=fun σ=>Ztd B σ
 rw [Zbs (by rfl) Zuc]
 unfold wn at *
 simp -implicitDefEqProofs only [EQA,Nat.reduceAdd,Nat.reduceLT,Nat.reduceEqDiff,Nat.reduceBEq,reduceCtorEq,↓reduceIte,Zrm,Zks,Zs0,oI,hw,hP,hC,wT,hO,Zag,Zai,Zaj,Zau,Zax,Zam]
theorem ZC8 (l:Zb) (n:Int) (W:Nat) (h1:1<=W) (hW:W<=8) (hl:l.length+W<=ZbU):E1 127 [.ref 0 0,.int .i64 n,.int .i64 (W:Nat)] (wH 0 l)=some (.tup [],wH 1 (l++beB (ZD n) W)):=by
 have hw:=Zoy n
 have hP:=fun σ sq own=>ZbB (ZkX σ sq own (ZD n) W h1 hW)
 have hlen:l.length+(beB (ZD n) W).length<=ZbU:=by rw [Za2];omega
 generalize beB (ZD n) W=B at *
 have hC:=fun {σ:Za} {sq:Nat}=>Zi9 l B hlen (σ:=σ) 0 1 0 (sq:=sq) (by omega)
 have hO:=fun g σ=>ZgO (l++B) g σ
 rw [Zbs (by rfl) Zuc]
 unfold wH at *
 simp -implicitDefEqProofs only [EQA,Nat.reduceAdd,Nat.reduceLT,Nat.reduceEqDiff,Nat.reduceBEq,reduceCtorEq,↓reduceIte,Zrm,Zks,Zs0,oI,hw,hP,hC,wT,hO,Zag,Zai,Zaj,Zau,Zax,Zam]
end
section
end
section
theorem ZMo (b:Zb) (n:Int) (h0:0<=n):E 18 [ZI b,.int .i64 n] []=some (ZI (b.take n.toNat),[]):=by
 rw [Zh (by rfl) ZKo]
 by_cases h:n < (b.length:Int)
 ·have hl:n<=(b.length:Int):=by omega
  simp -implicitDefEqProofs only [EQA,Zu,Nat.reduceLT,Nat.reduceEqDiff,reduceCtorEq,↓reduceIte,ZvL,Zl5,Zq7,oI,ZI,h0,h,hl,Zhi]
 ·have hl:b.take n.toNat=b:=List.take_of_length_le (by omega)
  simp -implicitDefEqProofs only [EQA,Zu,Nat.reduceLT,Nat.reduceEqDiff,reduceCtorEq,↓reduceIte,ZvL,Zl5,Zq7,oI,ZI,h,hl]
theorem Zu5 (σ:Za) (sq own:Nat) (view:Bool) (b:Zb) (n:Int) (h0:0<=n):Zj E BY σ sq 18 own view [.lst false (b.map Zc),.int .i64 n]=some (.lst false ((b.take n.toNat).map Zc),σ,{}) :=
 Zce (ZMo b n h0) (by kernel_rfl) (by simp -implicitDefEqProofs only [ZcM,Zbn,eq_self,ZI]) (by simp -implicitDefEqProofs only [ZC,Zbn,eq_self,ZI]) rfl (fun _=>rfl) _ _ _ _
end
section
structure ZK1 where
 fmt:Int
 content:Zb
 corr:Zb
 users:Zb
end
section
end
section
structure ZPr where
 r1:Zb×Zd4
 r2:Zb×Zd4
 r3:Zb×Zd4
 r4:Zb×Zd4
 r5:Zb×Zd4
 r6:Zb×Zd4
 r7:Zb×Zd4
 r8:Zb×Zd4
end
section
theorem ZrG (P:Zp->Prop) (w:Int) (N:Nat) (h1:∀ (b:Zb) (l:List Zp),b.length<=N->(Za7 w b l).2.2=0->P (Za7 w b l).1):∀ (n:Nat) (b:Zb) (l:List Zp),b.length<=N->(∀ p ∈ l,P p)->∀ p ∈ (Zch w n b l).1,P p
 | n,[],l,_,hl=>by rw [Znz];exact hl
 | 0,c::r,l,_,hl=>by simp [Zch]
 | n+1,c::r,l,hb,hl=>by
  rw [ZnT]
  split
  ·rename_i h
   refine ZrG P w N h1 n _ _ (by rw [List.length_drop];omega) ?_
   intro p hp
   rcases List.mem_append.1 hp with hp | hp
   ·exact hl p hp
   ·simp only [List.mem_singleton] at hp
    subst hp
    exact h1 _ _ hb h
  ·simp
theorem ZBy (P:Zp->Prop) (w:Int) (b:Zb) (h1:∀ (b':Zb) (l:List Zp),b'.length<=b.length->(Za7 w b' l).2.2=0->P (Za7 w b' l).1):∀ p ∈ (Z3 w b).1,P p:=by
 unfold Z3
 split
 ·simp
 ·split
  ·exact ZrG P w b.length h1 _ _ [] (by simp;omega) (by simp)
  ·simp
theorem ZCZ (w:Int) (b:Zb):(Z3 w b).1.length<=268435455:=by
 have hlt:=Zjn b
 unfold Z3
 split
 ·simp
 ·split
  ·have:=Zn0 w (ZO b).1 ((b.take ((ZO b).2.1+(ZO b).1)).drop (ZO b).2.1) []
   simp only [List.length_drop,List.length_take,List.length_nil] at this
   simp only
   omega
  ·simp
theorem ZrK (b:Zb):(ZX b).1.length<=65535:=by
 have:=ZtE b
 unfold ZX
 split
 ·simp
 ·split
  ·exact this
  ·simp
theorem ZL9 (id:Int) (b:Zb):(Zcb id b).1.text.length<=65535/\(Zcb id b).1.pair.length<=65535/\(Zcb id b).1.data.length<=65535:=by
 have h1:=ZrK b
 have h2:=ZrK (b.drop (ZX b).2.1)
 have h3:=ZtE b
 unfold Zcb ZdK Zd8 ZfJ
 repeat' split
 all_goals exact ⟨by first | exact h1 | exact Nat.zero_le _,by first | exact h2 | exact Nat.zero_le _,by first | exact h3 | exact Nat.zero_le _⟩
theorem ZFn {w:Int} {b:Zb} {l:List Zp}:(Za7 w b l).1.text.length<=65535/\(Za7 w b l).1.pair.length<=65535/\(Za7 w b l).1.data.length<=65535:=by
 unfold Za7 Zjg
 repeat' split
 all_goals first
  | exact ZL9 _ _
  | exact ⟨Nat.zero_le _,Nat.zero_le _,Nat.zero_le _⟩
theorem ZHf (w:Int) (b:Zb):∀ p ∈ (Z3 w b).1,p.text.length<=65535/\p.pair.length<=65535/\p.data.length<=65535:=ZBy _ w b fun _ _ _ _=>ZFn
theorem Zxh (w:Int) (b:Zb):∀ p ∈ (Z3 w b).1,ZcQ p:=fun p hp=>by
 have:=ZHf w b p hp
 exact ⟨by omega,by omega,by omega⟩
end
section
structure ZPp (it:ZGN):Prop where
 note:ZG9 it.note
 ids:it.ids.length<=1000000
 share:it.share.length<=9223372036854775807
end
section
end
section
structure ZJ8 where
 topic:Zb
 sender:Zb
 share:Zb
 payload:Zb
 qos:Int
 sub:Int
 retain:Bool
 keep:Bool
 life:Int
 p:ZK1
 ids:List Int
 origin:Int
 number:Int
structure ZPo (m:ZJ8):Prop where
 topic:m.topic.length<=9223372036854775807
 sender:m.sender.length<=9223372036854775807
 share:m.share.length<=9223372036854775807
 content:m.p.content.length<=9223372036854775807
 users:m.p.users.length<=9223372036854775807
 ids:m.ids.length<=9223372036854775807
end
section
structure ZPs where
 d:Zb×Zd4
 m:Zb×Zd4
 k:Zb×Zd4
end
section
theorem ZBl (x:Nat) (a b:Zb):ZeP x (a++b)=ZeP (ZeP x a) b:=by
 unfold ZeP;rw [List.foldl_append]
theorem ZtU:∀ (w n:Nat),w<=8->n < 256 ^ w->ZeP 0 (beB n w)=n
 | 0,n,_,h=>by simp at h;subst h;rfl
 | w+1,n,hw,h=>by
  have h1:n / 256 < 256 ^ w:=by rw [Nat.pow_succ] at h;omega
  have ih:=ZtU w (n / 256) (by omega) h1
  have h2:256 ^ w<=256 ^ 7:=Nat.pow_le_pow_right (by decide) (by omega)
  rw [beB,ZBl,ih,Zbz,Zcy,UInt8.toNat_ofNat']
  have h3:(256:Nat) ^ 7=72057594037927936:=rfl
  omega
theorem ZGS {w n:Nat} (hw:w<=8) (h:n < 256 ^ w):Zba (beB n w)=n:=ZtU w n hw h
theorem Zxw {w n:Nat} (hw:w<=8) (h:n < 256 ^ w) (h2:n<=9223372036854775807):ZeZ (beB n w)=(n:Int):=by
 unfold ZeZ
 rw [ZGS hw h,ZbX (by omega) (by omega)]
theorem ZtJ:∀ (k n i acc:Nat) (rest:Zb),i+k<=3->n < 128 ^ (k+1)->(0 < i->0 < n)->gvA i acc (ZbO k n++rest)=(acc+n*128 ^ i,i+(ZbO k n).length,0)
 | 0,n,i,acc,rest,hi,hn,hp=>by
  have h1:(UInt8.ofNat n).toNat=n:=by rw [UInt8.toNat_ofNat'];omega
  have h2:n % 128=n:=by omega
  unfold ZbO
  rw [List.singleton_append]
  unfold gvA
  rw [if_neg (by omega),h1,if_pos (by omega),if_neg,h2]
  ·rfl
  ·rintro ⟨a,b⟩
   have:=hp b
   have:=congrArg UInt8.toNat a
   rw [h1] at this
   simp at this;omega
 | k+1,n,i,acc,rest,hi,hn,hp=>by
  unfold ZbO
  by_cases h:n < 128
  ·have h1:(UInt8.ofNat n).toNat=n:=by rw [UInt8.toNat_ofNat'];omega
   have h2:n % 128=n:=by omega
   rw [if_pos h,List.singleton_append]
   unfold gvA
   rw [if_neg (by omega),h1,if_pos (by omega),if_neg,h2]
   ·rfl
   ·rintro ⟨a,b⟩
    have:=hp b
    have:=congrArg UInt8.toNat a
    rw [h1] at this
    simp at this;omega
  ·have h1:(UInt8.ofNat (n % 128+128)).toNat=n % 128+128:=by rw [UInt8.toNat_ofNat'];omega
   have hd:n / 128 < 128 ^ (k+1):=by rw [Nat.pow_succ] at hn;omega
   have ih:=ZtJ k (n / 128) (i+1) (acc+n % 128*128 ^ i) rest (by omega) hd (by omega)
   rw [if_neg h,List.cons_append]
   unfold gvA
   rw [if_neg (by omega),h1,if_neg (by omega)]
   have h3:(n % 128+128) % 128=n % 128:=by omega
   rw [h3,ih,List.length_cons,Nat.pow_succ]
   have h4:n=n / 128*128+n % 128:=by omega
   refine Prod.ext ?_ (Prod.ext ?_ rfl)
   ·simp only
    conv=>rhs;rw [h4]
    rw [Nat.add_mul,Nat.mul_assoc,Nat.mul_comm 128 (128 ^ i)]
    omega
   ·simp only;omega
theorem ZC1 (n:Nat) (rest:Zb) (h:n < 268435456):ZO ((Zah (n:Int)).1++rest)=(n,(Zah (n:Int)).1.length,0):=by
 have e:(Zah (n:Int)).1=ZbO 3 n:=by
  unfold Zah
  rw [if_neg (by omega)]
  rfl
 have:=ZtJ 3 n 0 0 rest (by omega) h (by omega)
 rw [e]
 unfold ZO
 rw [this]
 simp
theorem ZmI {x:Int} (h0:0<=x) (h:x < 18446744073709551616):ZD x=x.toNat:=by unfold ZD;omega
def ZBD (k:Int) (p:Zp):Prop :=
 if k=1\/k=2\/k=3\/k=4 then p.text=[]/\p.pair=[]/\p.data=[] else if k=5 then p.num=0/\p.pair=[]/\p.data=[]
 else if k=6 then p.num=0/\p.text=[]/\p.pair=[] else p.num=0/\p.data=[]
structure ZPq (w:Int) (acc:List Zp) (p:Zp):Prop where
 good:ZMz p=true
 may:ZgM p.id w=true
 canon:ZBD (Zb5 p.id) p
 fits:Zg9 p.id p.num=true
 dup:((Zgg p.id acc).isSome && !Zhj p.id w)=false
end
section
theorem ZiU (s:Zb):(Zbv s).1.length<=65537:=by
 unfold Zbv
 split
 ·simp
 ·simp [Za2];omega
theorem ZcY (s:Zb):(Zad s).1.length<=65537:=by
 unfold Zad
 split
 ·exact ZiU s
 ·simp
theorem Zdz (w:Int) (l:List Zp):(Zbc w l).1.length<=268435460:=by
 unfold Zbc Zgs
 generalize (l.map Zcx).flatten=b
 by_cases h:(Zah b.length).2≠0
 ·rw [if_pos h];simp
 ·rw [if_neg h]
  split
  ·simp
  ·rename_i h2
   have h0:(Z3 w ((Zah b.length).1++b)).2.2=0:=Classical.byContradiction fun e=>h2 (Or.inl e)
   have h1:(Z3 w ((Zah b.length).1++b)).2.1=((Zah b.length).1++b).length:=Classical.byContradiction fun e=>h2 (Or.inr (Or.inl e))
   have:=ZOq w _ h0
   rw [h1] at this
   exact this
theorem ZAS (s:Zb) (hs:s.length<=9223372036854775807):E1 129 [.ref 0 0,.str s] [.var wn]=some (.tup [],wH 0 (Zad s).1):=by
 have hP:=fun σ sq own=>ZbB (Zjb σ sq own s hs)
 unfold byT at hP
 have hlen:(Zad s).1.length<=ZbU:=by have:=ZcY s;unfold ZbU;omega
 generalize (Zad s).1=B at *
 generalize (Zad s).2=C at *
 have hC:=fun {σ:Za} {t sq:Nat}=>Zsi B hlen (σ:=σ) (t:=t) (sq:=sq)
 have hO:=fun σ=>Ztd B σ
 rw [Zbs (by rfl) ZrA]
 unfold wn at *
 simp -implicitDefEqProofs only [EQA,Nat.reduceAdd,Nat.reduceLT,Nat.reduceEqDiff,Nat.reduceBEq,reduceCtorEq,↓reduceIte,ZqT,ZkB,ZrS,oI,hP,hC,wT,hO]
theorem ZDX (l:Zb) (s:Zb) (hs:s.length<=9223372036854775807) (hl:l.length+(Zad s).1.length<=ZbU):E1 129 [.ref 0 0,.str s] (wH 0 l)=some (.tup [],wH 1 (l++(Zad s).1)):=by
 have hP:=fun σ sq own=>ZbB (Zjb σ sq own s hs)
 unfold byT at hP
 generalize (Zad s).1=B at *
 generalize (Zad s).2=C at *
 have hC:=fun {σ:Za} {sq:Nat}=>Zi9 l B hl (σ:=σ) 0 1 0 (sq:=sq) (by omega)
 have hO:=fun g σ=>ZgO (l++B) g σ
 rw [Zbs (by rfl) ZrA]
 unfold wH at *
 simp -implicitDefEqProofs only [EQA,Nat.reduceAdd,Nat.reduceLT,Nat.reduceEqDiff,Nat.reduceBEq,reduceCtorEq,↓reduceIte,ZqT,ZkB,ZrS,oI,hP,hC,wT,hO]
theorem Zq6 (s:Zb) (hs:s.length<=9223372036854775807) {σ:Za} {t sq:Nat} (hf:σ[sq]?=some .free) (hs0:σ[t]?=some (.var wn)) :
  Zj E1 BY σ sq 129 1 true [.ref t 0,.str s]=some (.tup [],(σ.set t (.var (wv sq 0 (Zad s).1.length))).set sq (.row 0 1 ((Zad s).1.map Zc)),{ any:=true,upd:=[(t,wv sq 0 (Zad s).1.length)] }) :=
 ZgB (args:=[.str s]) rfl rfl (ZAS s hs) (by kernel_rfl) rfl rfl hf hs0
theorem ZiS (l:Zb) (s:Zb) (hs:s.length<=9223372036854775807) (hl:l.length+(Zad s).1.length<=ZbU) {σ:Za} (t r g:Nat) {sq:Nat} (htr:t≠r) (hf:σ[sq]?=some .free) (hs0:σ[t]?=some (.var (wv r g l.length))) (hr:σ[r]?=some (.row g 1 (l.map Zc))) :
  Zj E1 BY σ sq 129 1 true [.ref t 0,.str s]=some (.tup [],(σ.set t (.var (wv r (g+1) (l++(Zad s).1).length))).set r (.row (g+1) 1 ((l++(Zad s).1).map Zc)),{ any:=true,upd:=[(t,wv r (g+1) (l++(Zad s).1).length)] }) :=
 Zhv (args:=[.str s]) rfl ⟨rfl,rfl⟩ 1 (by omega) (ZDX l s hs hl) (by kernel_rfl) rfl rfl htr (ff1 hf) hs0 hr
theorem ZC9 (l:Zb) (s:Zb) (hs:s.length<=9223372036854775807) (hl:l.length+(Zbv s).1.length<=ZbU):E1 149 [.ref 0 0,.lst false (s.map Zc)] (wH 0 l)=some (.tup [],wH 1 (l++(Zbv s).1)):=by
 have hP:=fun σ sq own=>ZbB (Zo5 σ sq own false s hs)
 unfold byT at hP
 generalize (Zbv s).1=B at *
 generalize (Zbv s).2=C at *
 have hC:=fun {σ:Za} {sq:Nat}=>Zi9 l B hl (σ:=σ) 0 1 0 (sq:=sq) (by omega)
 have hO:=fun g σ=>ZgO (l++B) g σ
 rw [Zbs (by rfl) ZGn]
 unfold wH at *
 simp -implicitDefEqProofs only [EQA,Nat.reduceAdd,Nat.reduceLT,Nat.reduceEqDiff,Nat.reduceBEq,reduceCtorEq,↓reduceIte,ZMs,Zp7,ZI7,oI,hP,hC,wT,hO]
theorem Zth (l:Zb) (s:Zb) (hs:s.length<=9223372036854775807) (hl:l.length+(Zbv s).1.length<=ZbU) {σ:Za} (t r g:Nat) {sq:Nat} (htr:t≠r) (hf:σ[sq]?=some .free) (hs0:σ[t]?=some (.var (wv r g l.length))) (hr:σ[r]?=some (.row g 1 (l.map Zc))) :
  Zj E1 BY σ sq 149 1 true [.ref t 0,.lst false (s.map Zc)]=some (.tup [],(σ.set t (.var (wv r (g+1) (l++(Zbv s).1).length))).set r (.row (g+1) 1 ((l++(Zbv s).1).map Zc)),{ any:=true,upd:=[(t,wv r (g+1) (l++(Zbv s).1).length)] }) :=
 Zhv (args:=[.lst false (s.map Zc)]) rfl ⟨rfl,rfl⟩ 1 (by omega) (ZC9 l s hs hl) (by kernel_rfl) rfl rfl htr (ff1 hf) hs0 hr
theorem ZJi (l:Zb) (w:Int) (ps:List Zp) (hp:ps.length<=700000000) (hx:∀ p ∈ ps,ZcQ p) (hl:l.length+(Zbc w ps).1.length<=ZbU):E1 128 [.ref 0 0,.int .i64 w,.lst false (ps.map Zn)] (wH 0 l)=some (.tup [],wH 1 (l++(Zbc w ps).1)):=by
 have hP:=fun σ sq own=>ZbB (ZNM σ sq own false w ps hp hx)
 unfold ZgY at hP
 generalize (Zbc w ps).1=B at *
 generalize (Zbc w ps).2=C at *
 have hC:=fun {σ:Za} {sq:Nat}=>Zi9 l B hl (σ:=σ) 0 1 0 (sq:=sq) (by omega)
 have hO:=fun g σ=>ZgO (l++B) g σ
 rw [Zbs (by rfl) ZIM]
 unfold wH at *
 simp -implicitDefEqProofs only [EQA,Nat.reduceAdd,Nat.reduceLT,Nat.reduceEqDiff,Nat.reduceBEq,reduceCtorEq,↓reduceIte,Zxa,Zp9,ZGG,oI,hP,hC,wT,hO]
theorem ZgZ (l:Zb) (w:Int) (ps:List Zp) (hp:ps.length<=700000000) (hx:∀ p ∈ ps,ZcQ p) (hl:l.length+(Zbc w ps).1.length<=ZbU) {σ:Za} (t r g:Nat) {sq:Nat} (htr:t≠r) (hf:σ[sq]?=some .free) (hs0:σ[t]?=some (.var (wv r g l.length))) (hr:σ[r]?=some (.row g 1 (l.map Zc))) :
  Zj E1 BY σ sq 128 1 true [.ref t 0,.int .i64 w,.lst false (ps.map Zn)]=some (.tup [],(σ.set t (.var (wv r (g+1) (l++(Zbc w ps).1).length))).set r (.row (g+1) 1 ((l++(Zbc w ps).1).map Zc)),{ any:=true,upd:=[(t,wv r (g+1) (l++(Zbc w ps).1).length)] }) :=
 Zhv (args:=[.int .i64 w,.lst false (ps.map Zn)]) rfl ⟨rfl,rfl⟩ 1 (by omega) (ZJi l w ps hp hx hl) (by kernel_rfl) rfl rfl htr (ff1 hf) hs0 hr
theorem Zlh (n:Int) (W:Nat) (h1:1<=W) (hW:W<=8) {m:Int} (hm:((W:Nat):Int)=m) {σ:Za} {t sq:Nat} (hf:σ[sq]?=some .free) (hs0:σ[t]?=some (.var wn)) :
  Zj E1 BY σ sq 127 1 true [.ref t 0,.int .i64 n,.int .i64 m]=some (.tup [],(σ.set t (.var (wv sq 0 (beB (ZD n) W).length))).set sq (.row 0 1 ((beB (ZD n) W).map Zc)),{ any:=true,upd:=[(t,wv sq 0 (beB (ZD n) W).length)] }):=by
 subst hm
 exact ZgB (args:=[.int .i64 n,.int .i64 (W:Nat)]) rfl rfl (ZNg n W h1 hW) (by kernel_rfl) rfl rfl hf hs0
theorem ZfC (l:Zb) (n:Int) (W:Nat) (h1:1<=W) (hW:W<=8) {m:Int} (hm:((W:Nat):Int)=m) (hl:l.length+W<=ZbU) {σ:Za} (t r g:Nat) {sq:Nat} (htr:t≠r) (hf:σ[sq]?=some .free) (hs0:σ[t]?=some (.var (wv r g l.length))) (hr:σ[r]?=some (.row g 1 (l.map Zc))) :
  Zj E1 BY σ sq 127 1 true [.ref t 0,.int .i64 n,.int .i64 m]=some (.tup [],(σ.set t (.var (wv r (g+1) (l++beB (ZD n) W).length))).set r (.row (g+1) 1 ((l++beB (ZD n) W).map Zc)),{ any:=true,upd:=[(t,wv r (g+1) (l++beB (ZD n) W).length)] }):=by
 subst hm
 exact Zhv (args:=[.int .i64 n,.int .i64 (W:Nat)]) rfl ⟨rfl,rfl⟩ 1 (by omega) (ZC8 l n W h1 hW hl) (by kernel_rfl) rfl rfl htr (ff1 hf) hs0 hr
def ZQ (b:Bool) (n:Int):Int:=if b then n else 0
theorem ZxU (b:Bool) (n:Int):E 81 [.bool b,.int .i64 n] []=some (.int .i64 (ZQ b n),[]):=by
 rw [Zh (by rfl) ZFQ]
 unfold ZQ
 cases b <;> simp -implicitDefEqProofs only [EQA,Nat.reduceLT,Nat.reduceEqDiff,reduceCtorEq,↓reduceIte,ZJP,ZmE,Zx7,oI]
theorem Zi2 (b:Bool) (n:Int) (σ:Za) (sq own:Nat):Zj E1 BY σ sq 81 own true [.bool b,.int .i64 n]=some (.int .i64 (ZQ b n),σ,{}) :=
 ZbB (ZbC (ZxU b n) (by kernel_rfl) rfl rfl rfl (fun _=>rfl) _ _ _)
end
section
def Zv (p:Zl):List AVal:=[.int .i64 p.type,.bool p.dup,.int .i64 p.qos,.bool p.retain,.int .i64 p.id,.str p.topic,.lst false (p.payload.map Zc),.int .i64 p.code,.lst false (p.codes.map (AVal.int .i64)),.lst false (p.props.map Zn),.lst false (p.subs.map ZW),.lst false (p.filters.map AVal.str),.bool p.clean,.int .i64 p.keep,.str p.client,.bool p.hasWill,.str p.will.topic,.lst false (p.will.data.map Zc),.int .i64 p.will.qos,.bool p.will.retain,.lst false (p.will.props.map Zn),.bool p.hasUser,.str p.user,.bool p.hasPassword,.lst false (p.password.map Zc),.bool p.present]
theorem Zbt (p:Zl):Z4 p=.agg (Zv p):=rfl
theorem ZbZ (p:Zl):(Zv p).length=26:=rfl
theorem Zd2 (p:Zl):Zac (.agg (Zv p))=true:=rfl
theorem Zd0 (p:Zl):ZH (.agg (Zv p))=.agg (Zv p):=rfl
theorem Zcw (p:Zl):(Zv p).take 26=Zv p:=rfl
theorem Zu0 (p:Zl):Zt (Zv p)=[]:=by
 have h:=Zs8 (Zd2 p)
 rw [Zd0] at h
 simpa [Z2] using h
structure OkW (p:Zl):Prop where
 topic:p.topic.length<=9223372036854775807
 payload:p.payload.length<=1099511627776
 codes:p.codes.length<=1048576
 props:p.props.length<=700000000/\∀ q ∈ p.props,ZcQ q
 subs:p.subs.length<=1048576/\∀ s ∈ p.subs,s.filter.length<=9223372036854775807
 filters:p.filters.length<=1048576/\∀ f ∈ p.filters,f.length<=9223372036854775807
 client:p.client.length<=9223372036854775807
 wtopic:p.will.topic.length<=9223372036854775807
 wdata:p.will.data.length<=9223372036854775807
 wprops:p.will.props.length<=700000000/\∀ q ∈ p.will.props,ZcQ q
 user:p.user.length<=9223372036854775807
 password:p.password.length<=9223372036854775807
def wO:Option Zb->Za
 | none=>[.var wn]
 | some l=>wH 0 l
theorem Zeg {j g:Nat} {l:Zb} {σ:Za} (hj:j≠0) (h0:σ[0]?=some (.var (wv j g l.length))) (h1:σ[j]?=some (.row g 1 (l.map Zc))):Zak 1 σ (.tup [])=some (.tup [],wH 0 l):=by
 have d0:σ.getD 0 .free=.var (wv j g l.length):=by simp [List.getD_eq_getElem?_getD,h0]
 have d1:σ.getD j .free=.row g 1 (l.map Zc):=by simp [List.getD_eq_getElem?_getD,h1]
 have ej:([0]:List Nat).contains j=false:=by simp;omega
 have hrf:Zt (wv j g l.length)=[j]:=rfl
 have hi:ZB 1 [.tup []] σ=[0,j]:=by
  have : Zt [AVal.tup []]=[]:=rfl
  have hR:List.range 1=[0]:=rfl
  simp only [ZB,this,List.nil_append,hR,List.flatMap_cons,List.flatMap_nil,List.append_nil,d0,ZM,hrf]
  rw [show (1000:Nat)=998+1+1 from rfl,Zz,ej]
  simp only [Bool.false_eq_true,if_false,d1,ZM,List.nil_append]
  rfl
 have hρ:Zo σ 1 [0,j] j g=some (1,0):=by
  have : ¬(0:Nat)=j:=fun e=>hj e.symm
  simp [Zo,Z1,Zq,ZU,h1,this]
 have hren:Zf (Zo σ 1 [0,j]) (wv j g l.length)=wv 1 0 l.length:=by simp only [wv,Zf,Zm,hρ]
 have ht:Zf (Zo σ 1 [0,j]) [AVal.tup []]=[.tup []]:=rfl
 simp only [Zak,gcA,hi,ht,Zw,d0,d1,ZU,Zq,ZG,hren,wH]
 simp
theorem ZyQ (σ:Za):Zak 1 (.var wn::σ) (.tup [])=some (.tup [],[.var wn]):=rfl
theorem ZJe (l:Zb) (σ:Za):Zak 2 (.var (wv 1 0 l.length)::.row 0 1 (l.map Zc)::σ) (.tup [])=some (.tup [],wH 0 l):=by
 simp [Zak,gcA,ZB,Zt,Z2,List.range,List.range.loop,ZM,wv,Zz,Zo,Z1,Zw,ZU,Zq,ZG,Zf,Zm,wH]
def ZaH (p:Zl):Zb:=if p.code≠0\/p.props≠[] then beB (ZD p.code) 1++(if p.props≠[] then (Zbc p.type p.props).1 else []) else []
def Zde (p:Zl):Option Zb:=if p.code≠0\/p.props≠[] then some (ZaH p) else none
theorem ZeG:ZbU=70368744177664:=rfl
section
variable (p:Zl) (h:OkW p)
include h
theorem Ztc:E1 131 [.ref 0 0,Z4 p] [.var wn]=some (.tup [],wO (Zde p)):=by
 have l2:=Zdz p.type p.props
 have l1:=Za2 1 (ZD p.code)
 have hN:=fun {σ:Za} {t sq:Nat}=>Zlh p.code 1 (by omega) (by omega) (m:=1) rfl (σ:=σ) (t:=t) (sq:=sq)
 have hPr:=fun {σ:Za} {sq:Nat}=>ZgZ (beB (ZD p.code) 1) p.type p.props h.props.1 h.props.2 (by rw [ZeG];omega) (σ:=σ) 0 2 0 (sq:=sq) (by omega)
 have hO:=fun {j g:Nat} {l:Zb} {σ:Za}=>Zeg (j:=j) (g:=g) (l:=l) (σ:=σ)
 have hl:(p.props.map Zn).length=p.props.length:=by simp
 rw [Zbt]
 have e1:=Zcw p
 have e0:=ZbZ p
 have a0:(Zv p)[0]?=some (.int .i64 p.type):=rfl
 have a7:(Zv p)[7]?=some (.int .i64 p.code):=rfl
 have a9:(Zv p)[9]?=some (.lst false (p.props.map Zn)):=rfl
 unfold Zde ZaH
 generalize Zv p=P at *
 generalize p.type=ty at *
 generalize p.code=c at *
 generalize p.props=ps at *
 rw [Zbs (by rfl) Zsz]
 by_cases hc:c=0
 ·have b1:(c != 0)=false:=by simp [hc]
  cases ps with
  | nil =>
   rw [if_neg (by simp [hc])]
   unfold wn wO at *
   simp -implicitDefEqProofs only [EQA,Zu,Z5,Zse,Nat.reduceAdd,Nat.reduceLT,Nat.reduceEqDiff,Nat.reduceBEq,ZF,unG,reduceCtorEq,decide_eq_true_eq,↓reduceIte,Zd,Zgn,ZeW,ZfM,oI,AVal.cells,a0,a7,a9,b1]
   exact ZyQ []
  | cons q ps =>
   rw [if_pos (by simp)]
   have g0:((((q::ps).map Zn).length:Nat):Int) > 0:=by simp
   rw [if_pos (by simp)]
   generalize (Zbc ty (q::ps)).1=B at *
   generalize (q::ps).map Zn=qs at *
   generalize beB (ZD c) 1=D at *
   unfold wn wO at *
   simp -implicitDefEqProofs only [EQA,Zu,Nat.reduceAdd,Nat.reduceLT,Nat.reduceEqDiff,Nat.reduceBEq,ZF,unG,reduceCtorEq,↓reduceIte,Zd,Zgn,ZeW,ZfM,oI,AVal.cells,a0,a7,a9,b1,g0,hN,hPr]
   exact hO (j:=2) (by decide) rfl rfl
 ·have b1:(c != 0)=true:=by simp [hc]
  rw [if_pos (by simp [hc]),if_pos (by simp [hc])]
  cases ps with
  | nil =>
   rw [if_neg (by simp),List.append_nil]
   generalize beB (ZD c) 1=D at *
   unfold wn wO at *
   simp -implicitDefEqProofs only [EQA,Zu,Nat.reduceAdd,Nat.reduceLT,Nat.reduceEqDiff,Nat.reduceBEq,ZF,Zav,reduceCtorEq,decide_eq_true_eq,↓reduceIte,Zd,Zgn,ZeW,ZfM,oI,AVal.cells,a0,a7,a9,b1,hN]
   exact hO (j:=2) (by decide) rfl rfl
  | cons q ps =>
   have g0:((((q::ps).map Zn).length:Nat):Int) > 0:=by simp
   rw [if_pos (by simp)]
   generalize (Zbc ty (q::ps)).1=B at *
   generalize (q::ps).map Zn=qs at *
   generalize beB (ZD c) 1=D at *
   unfold wn wO at *
   simp -implicitDefEqProofs only [EQA,Zu,Nat.reduceAdd,Nat.reduceLT,Nat.reduceEqDiff,Nat.reduceBEq,ZF,Zav,reduceCtorEq,↓reduceIte,Zd,Zgn,ZeW,ZfM,oI,AVal.cells,a0,a7,a9,b1,g0,hN,hPr]
   exact hO (j:=2) (by decide) rfl rfl
theorem ZHq (l:Zb) (hl:l.length<=1000000000):E1 131 [.ref 0 0,Z4 p] (wH 0 l)=some (.tup [],if ZaH p=[] then wH 0 l else wH 1 (l++ZaH p)):=by
 have l2:=Zdz p.type p.props
 have l1:=Za2 1 (ZD p.code)
 have hN:=fun {σ:Za} {sq:Nat}=>ZfC l p.code 1 (by omega) (by omega) (m:=1) rfl (by rw [ZeG];omega) (σ:=σ) 0 1 0 (sq:=sq) (by omega)
 have hPr:=fun {σ:Za} {sq:Nat}=>ZgZ (l++beB (ZD p.code) 1) p.type p.props h.props.1 h.props.2 (by rw [ZeG,List.length_append];omega) (σ:=σ) 0 1 1 (sq:=sq) (by omega)
 have hl:(p.props.map Zn).length=p.props.length:=by simp
 rw [Zbt]
 have e1:=Zcw p
 have e0:=ZbZ p
 have a0:(Zv p)[0]?=some (.int .i64 p.type):=rfl
 have a7:(Zv p)[7]?=some (.int .i64 p.code):=rfl
 have a9:(Zv p)[9]?=some (.lst false (p.props.map Zn)):=rfl
 obtain ⟨R,hR⟩:∃ R,R=ZaH p:=⟨_,rfl⟩
 rw [<-hR]
 unfold ZaH at hR
 generalize Zv p=P at *
 generalize p.type=ty at *
 generalize p.code=c at *
 generalize p.props=ps at *
 rw [Zbs (by rfl) Zsz]
 by_cases hc:c=0
 ·have b1:(c != 0)=false:=by simp [hc]
  cases ps with
  | nil =>
   rw [if_neg (by simp [hc])] at hR
   subst hR
   rw [if_pos rfl]
   unfold wH at *
   simp -implicitDefEqProofs only [EQA,Zse,Nat.reduceAdd,Nat.reduceLT,Nat.reduceEqDiff,Nat.reduceBEq,ZF,unG,reduceCtorEq,decide_eq_true_eq,↓reduceIte,Zgn,ZeW,ZfM,oI,AVal.cells,a0,a7,a9,b1]
   exact ZJe _ _
  | cons q ps =>
   have g0:((((q::ps).map Zn).length:Nat):Int) > 0:=by simp
   rw [if_pos (by simp),if_pos (by simp)] at hR
   subst hR
   rw [if_neg (by intro e;have:=congrArg List.length e;simp [l1] at this)]
   generalize (Zbc ty (q::ps)).1=B at *
   generalize (q::ps).map Zn=qs at *
   generalize beB (ZD c) 1=D at *
   rw [<-List.append_assoc]
   unfold wH at *
   simp -implicitDefEqProofs only [EQA,Nat.reduceAdd,Nat.reduceLT,Nat.reduceEqDiff,Nat.reduceBEq,ZF,unG,reduceCtorEq,↓reduceIte,Zgn,ZeW,ZfM,oI,AVal.cells,a0,a7,a9,b1,g0,hN,hPr]
   exact ZgO _ 1 _
 ·have b1:(c != 0)=true:=by simp [hc]
  rw [if_pos (by simp [hc])] at hR
  cases ps with
  | nil =>
   rw [if_neg (by simp),List.append_nil] at hR
   subst hR
   rw [if_neg (by intro e;have:=congrArg List.length e;simp [l1] at this)]
   generalize beB (ZD c) 1=D at *
   unfold wH at *
   simp -implicitDefEqProofs only [EQA,Nat.reduceAdd,Nat.reduceLT,Nat.reduceEqDiff,Nat.reduceBEq,ZF,Zav,reduceCtorEq,decide_eq_true_eq,↓reduceIte,Zgn,ZeW,ZfM,oI,AVal.cells,a0,a7,a9,b1,hN]
   exact ZgO _ 0 _
  | cons q ps =>
   have g0:((((q::ps).map Zn).length:Nat):Int) > 0:=by simp
   rw [if_pos (by simp)] at hR
   subst hR
   rw [if_neg (by intro e;have:=congrArg List.length e;simp [l1] at this)]
   generalize (Zbc ty (q::ps)).1=B at *
   generalize (q::ps).map Zn=qs at *
   generalize beB (ZD c) 1=D at *
   rw [<-List.append_assoc]
   unfold wH at *
   simp -implicitDefEqProofs only [EQA,Nat.reduceAdd,Nat.reduceLT,Nat.reduceEqDiff,Nat.reduceBEq,ZF,Zav,reduceCtorEq,↓reduceIte,Zgn,ZeW,ZfM,oI,AVal.cells,a0,a7,a9,b1,g0,hN,hPr]
   exact ZgO _ 1 _
def ZfK (p:Zl):Nat:=if ZaH p=[] then 0 else 1
theorem ZNW (l:Zb) (hl:l.length<=1000000000) {σ:Za} (t r g:Nat) {sq:Nat} (htr:t≠r) (hf:σ[sq]?=some .free) (hs0:σ[t]?=some (.var (wv r g l.length))) (hr:σ[r]?=some (.row g 1 (l.map Zc))) :
  Zj E1 BY σ sq 131 1 true [.ref t 0,.agg (Zv p)]=some (.tup [],(σ.set t (.var (wv r (g+ZfK p) (l++ZaH p).length))).set r (.row (g+ZfK p) 1 ((l++ZaH p).map Zc)),{ any:=true,upd:=[(t,wv r (g+ZfK p) (l++ZaH p).length)] }):=by
 have hw:=ZHq p h l hl
 have hw':E1 131 [.ref 0 0,Z4 p] (wH 0 l)=some (.tup [],wH (ZfK p) (l++ZaH p)):=by
  rw [hw]
  unfold ZfK
  split
  ·rename_i e;rw [e,List.append_nil]
  ·rfl
 exact Zhv (args:=[.agg (Zv p)]) rfl ⟨rfl,rfl⟩ (ZfK p) (by unfold ZfK;split <;> omega) hw' (by kernel_rfl) (by rw [List.all_cons,Zd2];rfl) (by rw [List.map_cons,Zd0];rfl) htr (ff1 hf) hs0 hr
def ZbV (p:Zl):Zb:=beB (ZD p.id) 2++(Zbc p.type p.props).1
theorem ZEA:E1 132 [.ref 0 0,Z4 p] [.var wn]=some (.tup [],wH 0 (ZbV p)):=by
 have l2:=Zdz p.type p.props
 have l1:=Za2 2 (ZD p.id)
 have hN:=fun {σ:Za} {t sq:Nat}=>Zlh p.id 2 (by omega) (by omega) (m:=2) rfl (σ:=σ) (t:=t) (sq:=sq)
 have hPr:=fun {σ:Za} {sq:Nat}=>ZgZ (beB (ZD p.id) 2) p.type p.props h.props.1 h.props.2 (by rw [ZeG];omega) (σ:=σ) 0 2 0 (sq:=sq) (by omega)
 have hO:=fun {j g:Nat} {l:Zb} {σ:Za}=>Zeg (j:=j) (g:=g) (l:=l) (σ:=σ)
 rw [Zbt]
 have e0:=ZbZ p
 have a0:(Zv p)[0]?=some (.int .i64 p.type):=rfl
 have a4:(Zv p)[4]?=some (.int .i64 p.id):=rfl
 have a9:(Zv p)[9]?=some (.lst false (p.props.map Zn)):=rfl
 unfold ZbV
 generalize Zv p=P at *
 generalize p.type=ty at *
 generalize p.id=c at *
 generalize p.props=ps at *
 generalize (Zbc ty ps).1=B at *
 generalize ps.map Zn=qs at *
 generalize beB (ZD c) 2=D at *
 rw [Zbs (by rfl) ZJl]
 unfold wn at *
 simp -implicitDefEqProofs only [EQA,Zu,Nat.reduceAdd,Nat.reduceLT,Nat.reduceEqDiff,Nat.reduceBEq,reduceCtorEq,↓reduceIte,Zd,ZDe,ZoA,ZzV,oI,AVal.cells,a0,a4,a9,hN,hPr]
 exact hO (j:=2) (by decide) rfl rfl
theorem Zqd {σ:Za} {t sq:Nat} (hf:σ[sq]?=some .free) (hs0:σ[t]?=some (.var wn)) :
  Zj E1 BY σ sq 132 1 true [.ref t 0,.agg (Zv p)]=some (.tup [],(σ.set t (.var (wv sq 0 (ZbV p).length))).set sq (.row 0 1 ((ZbV p).map Zc)),{ any:=true,upd:=[(t,wv sq 0 (ZbV p).length)] }) :=
 ZgB (args:=[.agg (Zv p)]) rfl rfl (ZEA p h) (by kernel_rfl) (by rw [List.all_cons,Zd2];rfl) (by rw [List.map_cons,Zd0];rfl) hf hs0
end
end
section
theorem Zdm (w:Int) (b:Zb):(Z3 w b).2.1<=b.length:=by
 unfold Z3
 split
 ·simp
 ·rename_i h
  split
  ·simp only
   have : ¬(((ZO b).1:Int) > (b.length:Int) - ((ZO b).2.1:Nat)):=fun e=>h (Or.inr e)
   omega
  ·simp
def ZT:Zl:=⟨0,false,0,false,0,[],[],0,[],[],[],[],false,0,[],false,⟨[],[],0,false,[]⟩,false,[],false,[],false⟩
theorem Zk8 (σ:Za):ZaL σ P0=some (Zv ZT,[]):=rfl
theorem Zk2 (q:Zl) (ρ:Rho):Zf ρ (Zv q)=Zv q:=by
 have h:=Zwb (ρ:=ρ) (Zd2 q)
 rw [Zd0,Zm] at h
 injection h
theorem Zvr {Q:List AVal} {q:Zl} (c:Int) (h:∀ σ,ZaL σ Q=some (Zv q,[])):ZbJ 0 (some (.tup [.agg Q,.int .i64 c],[]))=some (.tup [Z4 q,.int .i64 c],[]):=by
 have h1:viewR [] (.tup [.agg Q,.int .i64 c])=some (.tup [Z4 q,.int .i64 c],[]):=by
  rw [viewR,viewAs,ZS,h]
  rfl
 unfold ZbJ
 simp only [h1]
 have e1:=Zu0 q
 have e2:=Zk2 q
 have hi:ZB 0 [AVal.tup [Z4 q,.int .i64 c]] []=[]:=by
  have : Zt [AVal.tup [Z4 q,.int .i64 c]]=[]:=by simp [Zt,Z2,Zbt,e1]
  simp only [ZB,this,List.nil_append,List.range_zero,List.flatMap_nil]
  rfl
 simp only [Zs,gcA,hi,Zf,Zm,Zw]
 rw [Zbt,Zm,e2]
theorem ZtD {b c:Int} {l:Zb} {Q:List AVal} {q:Zl} (h:E1 32 [.agg [.int .u8 b,.lst false (l.map Zc)]] []=some (.tup [.agg Q,.int .i64 c],[])) (hv:∀ σ,ZaL σ Q=some (Zv q,[])) (f:Bool) (σ:Za) (sq own:Nat) :
  Zj E1 BY σ sq 32 own true [.agg [.int .u8 b,.lst f (l.map Zc)]]=some (.tup [Z4 q,.int .i64 c],σ,{}):=by
 refine ZbC h (by kernel_rfl) rfl rfl (Zvr c hv) (fun sq=>?_) σ sq own
 simp only [Zm,Zf,Zbt,Zk2]
def Zdw (b:Int) (l:Zb):Zl×Int :=
 if qoI b < 3 then (if qoI b > 0\/(ZaU b 8 != 0)=false then (match Zcv (qoI b) l with
  | .error e=>(ZT,e)
  | .ok (tp,n,ps,pay)=>({ ZT with type:=3,dup:=(ZaU b 8 != 0),qos:=qoI b,retain:=(ZaU b 1 != 0),id:=n,topic:=tp,props:=ps,payload:=pay },0))
  else (ZT,130)) else (ZT,129)
theorem Zt5 (b:Int) (h3:tyI b=3) (l:Zb) (hl:l.length<=140737488355328):∃ Q,E1 32 [.agg [.int .u8 b,.lst false (l.map Zc)]] []=some (.tup [.agg Q,.int .i64 (Zdw b l).2],[])/\∀ σ,ZaL σ Q=some (Zv (Zdw b l).1,[]):=by
 have hf:=ZLi P0 rfl (by rfl) b l h3
 have hQ:(Zc0 P0 b).length=26:=rfl
 have hN:Zd (Zc0 P0 b)=true:=by rfl
 unfold Zdw
 by_cases hq:qoI b < 3
 ·rw [if_pos hq] at hf ⊢
  by_cases hd:qoI b > 0\/(ZaU b 8 != 0)=false
  ·rw [if_pos hd] at hf ⊢
   cases hp:Zcv (qoI b) l with
   | error e =>
    obtain ⟨cs,hn,hb⟩:=Zxq (Zc0 P0 b) hQ hN (qoI b) rfl rfl l hl hp
    refine ⟨P0,?_,Zk8⟩
    rw [Zgo]
    exact ZgP b e l (Zv3 b l hQ hN hn hf hb)
   | ok s =>
    obtain ⟨tp,n,ps,pay⟩:=s
    have hb:=Zyl (Zc0 P0 b) hQ hN (qoI b) rfl rfl rfl (fun r _=>Zdm 3 r) l hl hp
    refine ⟨((((Zc0 P0 b).set 5 (.str tp)).set 4 (.int .i64 n)).set 9 (.lst false (ps.map Zn))).set 6 (.lst false (pay.map Zc)),?_,fun σ=>rfl⟩
    rw [Zgo]
    exact Zpw b l hQ hN rfl (by rfl) rfl rfl hf hb
  ·rw [if_neg hd] at hf ⊢
   refine ⟨P0,?_,Zk8⟩
   rw [Zgo]
   exact ZgP b 130 l (Zlb b l (Zx _ hQ hN _ _) hf)
 ·rw [if_neg hq] at hf ⊢
  refine ⟨P0,?_,Zk8⟩
  rw [Zgo]
  exact ZgP b 129 l (Zlb b l (Zx _ hQ hN _ _) hf)
theorem ZxA (b:Int) (h3:tyI b=3) (l:Zb) (hl:l.length<=140737488355328) (f:Bool) (σ:Za) (sq own:Nat) :
  Zj E1 BY σ sq 32 own true [.agg [.int .u8 b,.lst f (l.map Zc)]]=some (.tup [Z4 (Zdw b l).1,.int .i64 (Zdw b l).2],σ,{}):=by
 obtain ⟨Q,h,hv⟩:=Zt5 b h3 l hl
 exact ZtD h hv f σ sq own
end
section
def ZcL (k:Int) (l:Zb):Except Int (Int×List Zp×Zb):=match idK l with
 | .error c=>.error c
 | .ok (n,r1)=>match Zbw k r1 with
  | .error c=>.error c
  | .ok (ps,r2)=>if r2.length=0 then .error 130 else .ok (n,ps,r2)
def Zb9 (P:List AVal) (n:Int) (ps:List Zp):List AVal:=(P.set 4 (.int .i64 n)).set 9 (.lst false (ps.map Zn))
structure QOk (k:Int) (Q:List AVal):Prop where
 len:Q.length=26
 nor:Zd Q=true
 ty:Q[0]?=some (.int .i64 k)
 c8:Q[8]?=some (.lst true [])
 c10:Q[10]?=some (.lst true [])
 c11:Q[11]?=some (.lst true [])
theorem Zd1 {k:Int} {P:List AVal} (h:QOk k P) (n:Int) (ps:List Zp):QOk k (Zb9 P n ps):=by
 unfold Zb9
 refine ⟨by simp [h.len],ZP (Zcd _ _) _ (ZP rfl _ h.nor),?_,?_,?_,?_⟩
 ·rw [List.getElem?_set_ne (by omega),List.getElem?_set_ne (by omega)];exact h.ty
 ·rw [List.getElem?_set_ne (by omega),List.getElem?_set_ne (by omega)];exact h.c8
 ·rw [List.getElem?_set_ne (by omega),List.getElem?_set_ne (by omega)];exact h.c10
 ·rw [List.getElem?_set_ne (by omega),List.getElem?_set_ne (by omega)];exact h.c11
theorem ZHz {f:Nat} {cs:List AVal} (hc:Zd cs=true) (τ:Za) :
  gcT 3 [(1,.fn f [.ref 1 0,.ref 2 0]),(0,.ref 0 0)] (.var cs::.var [.ref 0 0]::.var [.ref 0 0]::τ)=([(1,.fn f [.ref 1 0,.ref 2 0]),(0,.ref 0 0)],[.var cs,.var [.ref 0 0],.var [.ref 0 0]]):=by
 have e2:=fun ρ=>ZaP ρ cs hc
 have hi:ZB 3 [.fn f [.ref 1 0,.ref 2 0],.ref 0 0] (.var cs::.var [.ref 0 0]::.var [.ref 0 0]::τ)=[0,1,2]:=by
  have hR:List.range 3=[0,1,2]:=rfl
  simp only [ZB,hR,List.flatMap_cons,List.flatMap_nil,List.append_nil,List.getD_cons_zero,List.getD_cons_succ,ZM,Zt,Z2,(e2 (fun _ _=>none)).2]
  rfl
 have hρ0:Zo (.var cs::.var [.ref 0 0]::.var [.ref 0 0]::τ) 3 [0,1,2] 0 0=some (0,0):=rfl
 have hρ1:Zo (.var cs::.var [.ref 0 0]::.var [.ref 0 0]::τ) 3 [0,1,2] 1 0=some (1,0):=rfl
 have hρ2:Zo (.var cs::.var [.ref 0 0]::.var [.ref 0 0]::τ) 3 [0,1,2] 2 0=some (2,0):=rfl
 simp only [gcT,gcA,List.map_cons,List.map_nil,hi,Zw,List.getD_cons_zero,List.getD_cons_succ,ZG,Zf,Zm,hρ0,hρ1,hρ2,(e2 _).1]
 rfl
theorem ZLP {f:Nat} {cs:List AVal} (hc:Zd cs=true) (τ:Za) :
  gcT 1 [(1,.fn f [.ref 0 0]),(0,.ref 0 0)] (.var cs::τ)=([(1,.fn f [.ref 0 0]),(0,.ref 0 0)],[.var cs]):=by
 have e2:=fun ρ=>ZaP ρ cs hc
 have hi:ZB 1 [.fn f [.ref 0 0],.ref 0 0] (.var cs::τ)=[0]:=by
  have hR:List.range 1=[0]:=rfl
  simp only [ZB,hR,List.flatMap_cons,List.flatMap_nil,List.append_nil,List.getD_cons_zero,ZM,Zt,Z2,(e2 (fun _ _=>none)).2]
  rfl
 have hρ0:Zo (.var cs::τ) 1 [0] 0 0=some (0,0):=rfl
 simp only [gcT,gcA,List.map_cons,List.map_nil,hi,Zw,List.getD_cons_zero,ZG,Zf,Zm,hρ0,(e2 _).1]
 rfl
section
variable (k:Int) (f:Nat) (P:List AVal) (h:QOk k P) (l:Zb) (hl:l.length<=140737488355328)
include h hl
theorem ZvA {n:Int} {ps:List Zp} {r:Zb} (hk:ZcL k l=.ok (n,ps,r)):E 121 [.ref 0 0,.fn f [.ref 1 0,.ref 2 0]] [.var (P++[.lst false (l.map Zc)]),.var [.ref 0 0],.var [.ref 0 0]]=ZaZ 3 [(1,.fn f [.ref 1 0,.ref 2 0]),(0,.ref 0 0)] [.var (Zb9 P n ps++[.lst false (r.map Zc)]),.var [.ref 0 0],.var [.ref 0 0]]:=by
 obtain ⟨hP,hN,h0,-,-,-⟩:=h
 unfold ZcL at hk
 split at hk
 ·cases hk
 rename_i n' r1 hi
 have l1:=ZeE hi
 split at hk
 ·cases hk
 rename_i ps' r2 hp
 split at hk
 ·cases hk
 rename_i hne
 injection hk with hk;injection hk with e1 hk;injection hk with e2 e3;subst e1 e2 e3
 have hI:=fun σ sq hs=>ZfR P hP hN l hl σ 0 sq hs hi
 have hP4:(P.set 4 (.int .i64 n')).length=26:=by simp [hP]
 have hN4:Zd (P.set 4 (.int .i64 n'))=true:=ZP rfl 4 hN
 have h04:(P.set 4 (.int .i64 n'))[0]?=some (.int .i64 k):=by rw [List.getElem?_set_ne (by omega)];exact h0
 unfold Zb9
 generalize P.set 4 (.int .i64 n')=R at *
 have hG:=fun σ sq hs=>Zef R hP4 hN4 r1 (by omega) σ 0 sq hs (Zdm k r1) hp
 have c1:=Z7 R hP4
 have c2:=Zaq R hP4
 have c4:=fun L=>(Zaa R hP4 0 (by omega) L).trans h04
 have c3:=fun L=>Zay R hP4 9 10 (by omega) rfl L (.lst false (ps'.map Zn))
 have hP9:(R.set 9 (.lst false (ps'.map Zn))).length=26:=by simp [hP4]
 have hN9:Zd (R.set 9 (.lst false (ps'.map Zn)))=true:=ZP (Zcd _ _) 9 hN4
 generalize R.set 9 (.lst false (ps'.map Zn))=S at *
 have d2:=Zaq S hP9
 have m1:=Zbe
 have z:((r2.length:Nat):Int) > 0:=by omega
 have z2:(0:Int) < ((r2.length:Nat):Int):=by omega
 have gC:=fun τ=>ZHz (f:=f) (Zx S hP9 hN9 false (r2.map Zc)) τ
 unfold ZaZ
 rw [Zh (by rfl) Zgb]
 simp -implicitDefEqProofs only [EQA,ZC,Z5,Nat.reduceAdd,Nat.reduceLT,Nat.reduceLeDiff,Nat.reduceEqDiff,reduceCtorEq,↓reduceIte,ZfV,ZeA,oI,oN,c1,c3,c4,hI,hG,d2,m1,z,gC]
theorem ZG7 {e:Int} (hk:ZcL k l=.error e):∃ cs,Zd cs=true/\E 121 [.ref 0 0,.fn f [.ref 1 0,.ref 2 0]] [.var (P++[.lst false (l.map Zc)]),.var [.ref 0 0],.var [.ref 0 0]]=some (.pan (Zy e),[.var (cs),.var [.ref 0 0],.var [.ref 0 0]]):=by
 obtain ⟨hP,hN,h0,-,-,-⟩:=h
 unfold ZcL at hk
 split at hk
 ·rename_i c hi
  injection hk with hk;subst hk
  obtain ⟨cs,hn,he⟩:=Zj5 P hP hN l hl hi
  have hI:=fun (σ:Za) sq (hs:σ[0]?=some (.var (P++[.lst false (l.map Zc)])))=>ZcP (O:=E) (bf:=BY) (f:=119) (view:=true) (rest:=[]) (by kernel_rfl) rfl (Zx P hP hN _ _) hn rfl he hs sq
  refine ⟨cs,hn,?_⟩
  rw [Zh (by rfl) Zgb]
  simp -implicitDefEqProofs only [EQA,Nat.reduceAdd,Nat.reduceLT,reduceCtorEq,↓reduceIte,ZfV,ZeA,oI,oN,hI]
  exact Zj4 rfl hn _
 rename_i n' r1 hi
 have l1:=ZeE hi
 have hI:=fun σ sq hs=>ZfR P hP hN l hl σ 0 sq hs hi
 have hP4:(P.set 4 (.int .i64 n')).length=26:=by simp [hP]
 have hN4:Zd (P.set 4 (.int .i64 n'))=true:=ZP rfl 4 hN
 have h04:(P.set 4 (.int .i64 n'))[0]?=some (.int .i64 k):=by rw [List.getElem?_set_ne (by omega)];exact h0
 generalize P.set 4 (.int .i64 n')=R at *
 have c1:=Z7 R hP4
 have c2:=Zaq R hP4
 have c4:=fun L=>(Zaa R hP4 0 (by omega) L).trans h04
 split at hk
 ·rename_i c hp
  injection hk with hk;subst hk
  have hG:=fun σ sq hs=>ZfH R hP4 hN4 r1 (by omega) σ 0 sq hs hp
  refine ⟨_,Zx R hP4 hN4 false (r1.map Zc),?_⟩
  rw [Zh (by rfl) Zgb]
  simp -implicitDefEqProofs only [EQA,Nat.reduceAdd,Nat.reduceLT,Nat.reduceEqDiff,reduceCtorEq,↓reduceIte,ZfV,ZeA,oI,oN,c4,hI,hG]
  exact Zj4 rfl (Zx R hP4 hN4 _ _) _
 rename_i ps' r2 hp
 split at hk
 case isFalse=>cases hk
 rename_i hne
 injection hk with hk;subst hk
 have hG:=fun σ sq hs=>Zef R hP4 hN4 r1 (by omega) σ 0 sq hs (Zdm k r1) hp
 have c3:=fun L=>Zay R hP4 9 10 (by omega) rfl L (.lst false (ps'.map Zn))
 have hP9:(R.set 9 (.lst false (ps'.map Zn))).length=26:=by simp [hP4]
 have hN9:Zd (R.set 9 (.lst false (ps'.map Zn)))=true:=ZP (Zcd _ _) 9 hN4
 generalize R.set 9 (.lst false (ps'.map Zn))=S at *
 have d2:=Zaq S hP9
 have m1:=ZbD
 have z:¬((r2.length:Nat):Int) > 0:=by omega
 have z2:¬(0:Int) < ((r2.length:Nat):Int):=by omega
 refine ⟨_,Zx S hP9 hN9 false (r2.map Zc),?_⟩
 rw [Zh (by rfl) Zgb]
 simp -implicitDefEqProofs only [EQA,ZC,Nat.reduceAdd,Nat.reduceLT,Nat.reduceLeDiff,Nat.reduceEqDiff,reduceCtorEq,↓reduceIte,ZfV,ZeA,oI,oN,c1,c3,c4,hI,hG,d2,m1,z]
 exact Zj4 rfl (Zx S hP9 hN9 _ _) _
theorem Zsc {n:Int} {ps:List Zp} {r:Zb} (hk:ZcL k l=.ok (n,ps,r)):E 121 [.ref 0 0,.fn f [.ref 0 0]] [.var (P++[.lst false (l.map Zc)])]=ZaZ 1 [(1,.fn f [.ref 0 0]),(0,.ref 0 0)] [.var (Zb9 P n ps++[.lst false (r.map Zc)])]:=by
 obtain ⟨hP,hN,h0,-,-,-⟩:=h
 unfold ZcL at hk
 split at hk
 ·cases hk
 rename_i n' r1 hi
 have l1:=ZeE hi
 split at hk
 ·cases hk
 rename_i ps' r2 hp
 split at hk
 ·cases hk
 rename_i hne
 injection hk with hk;injection hk with e1 hk;injection hk with e2 e3;subst e1 e2 e3
 have hI:=fun σ sq hs=>ZfR P hP hN l hl σ 0 sq hs hi
 have hP4:(P.set 4 (.int .i64 n')).length=26:=by simp [hP]
 have hN4:Zd (P.set 4 (.int .i64 n'))=true:=ZP rfl 4 hN
 have h04:(P.set 4 (.int .i64 n'))[0]?=some (.int .i64 k):=by rw [List.getElem?_set_ne (by omega)];exact h0
 unfold Zb9
 generalize P.set 4 (.int .i64 n')=R at *
 have hG:=fun σ sq hs=>Zef R hP4 hN4 r1 (by omega) σ 0 sq hs (Zdm k r1) hp
 have c1:=Z7 R hP4
 have c2:=Zaq R hP4
 have c4:=fun L=>(Zaa R hP4 0 (by omega) L).trans h04
 have c3:=fun L=>Zay R hP4 9 10 (by omega) rfl L (.lst false (ps'.map Zn))
 have hP9:(R.set 9 (.lst false (ps'.map Zn))).length=26:=by simp [hP4]
 have hN9:Zd (R.set 9 (.lst false (ps'.map Zn)))=true:=ZP (Zcd _ _) 9 hN4
 generalize R.set 9 (.lst false (ps'.map Zn))=S at *
 have d2:=Zaq S hP9
 have m1:=Zbe
 have z:((r2.length:Nat):Int) > 0:=by omega
 have z2:(0:Int) < ((r2.length:Nat):Int):=by omega
 have gC:=fun τ=>ZLP (f:=f) (Zx S hP9 hN9 false (r2.map Zc)) τ
 unfold ZaZ
 rw [Zh (by rfl) Zgb]
 simp -implicitDefEqProofs only [EQA,ZC,Z5,Nat.reduceAdd,Nat.reduceLT,Nat.reduceLeDiff,Nat.reduceEqDiff,reduceCtorEq,↓reduceIte,ZfV,ZeA,oI,oN,c1,c3,c4,hI,hG,d2,m1,z,gC]
theorem ZyZ {e:Int} (hk:ZcL k l=.error e):∃ cs,Zd cs=true/\E 121 [.ref 0 0,.fn f [.ref 0 0]] [.var (P++[.lst false (l.map Zc)])]=some (.pan (Zy e),[.var (cs)]):=by
 obtain ⟨hP,hN,h0,-,-,-⟩:=h
 unfold ZcL at hk
 split at hk
 ·rename_i c hi
  injection hk with hk;subst hk
  obtain ⟨cs,hn,he⟩:=Zj5 P hP hN l hl hi
  have hI:=fun (σ:Za) sq (hs:σ[0]?=some (.var (P++[.lst false (l.map Zc)])))=>ZcP (O:=E) (bf:=BY) (f:=119) (view:=true) (rest:=[]) (by kernel_rfl) rfl (Zx P hP hN _ _) hn rfl he hs sq
  refine ⟨cs,hn,?_⟩
  rw [Zh (by rfl) Zgb]
  simp -implicitDefEqProofs only [EQA,Nat.reduceLT,reduceCtorEq,↓reduceIte,ZfV,ZeA,oI,oN,hI]
  exact ZZ rfl hn
 rename_i n' r1 hi
 have l1:=ZeE hi
 have hI:=fun σ sq hs=>ZfR P hP hN l hl σ 0 sq hs hi
 have hP4:(P.set 4 (.int .i64 n')).length=26:=by simp [hP]
 have hN4:Zd (P.set 4 (.int .i64 n'))=true:=ZP rfl 4 hN
 have h04:(P.set 4 (.int .i64 n'))[0]?=some (.int .i64 k):=by rw [List.getElem?_set_ne (by omega)];exact h0
 generalize P.set 4 (.int .i64 n')=R at *
 have c1:=Z7 R hP4
 have c2:=Zaq R hP4
 have c4:=fun L=>(Zaa R hP4 0 (by omega) L).trans h04
 split at hk
 ·rename_i c hp
  injection hk with hk;subst hk
  have hG:=fun σ sq hs=>ZfH R hP4 hN4 r1 (by omega) σ 0 sq hs hp
  refine ⟨_,Zx R hP4 hN4 false (r1.map Zc),?_⟩
  rw [Zh (by rfl) Zgb]
  simp -implicitDefEqProofs only [EQA,Nat.reduceLT,Nat.reduceEqDiff,reduceCtorEq,↓reduceIte,ZfV,ZeA,oI,oN,c4,hI,hG]
  exact ZZ rfl (Zx R hP4 hN4 _ _)
 rename_i ps' r2 hp
 split at hk
 case isFalse=>cases hk
 rename_i hne
 injection hk with hk;subst hk
 have hG:=fun σ sq hs=>Zef R hP4 hN4 r1 (by omega) σ 0 sq hs (Zdm k r1) hp
 have c3:=fun L=>Zay R hP4 9 10 (by omega) rfl L (.lst false (ps'.map Zn))
 have hP9:(R.set 9 (.lst false (ps'.map Zn))).length=26:=by simp [hP4]
 have hN9:Zd (R.set 9 (.lst false (ps'.map Zn)))=true:=ZP (Zcd _ _) 9 hN4
 generalize R.set 9 (.lst false (ps'.map Zn))=S at *
 have d2:=Zaq S hP9
 have m1:=ZbD
 have z:¬((r2.length:Nat):Int) > 0:=by omega
 have z2:¬(0:Int) < ((r2.length:Nat):Int):=by omega
 refine ⟨_,Zx S hP9 hN9 false (r2.map Zc),?_⟩
 rw [Zh (by rfl) Zgb]
 simp -implicitDefEqProofs only [EQA,ZC,Nat.reduceAdd,Nat.reduceLT,Nat.reduceLeDiff,Nat.reduceEqDiff,reduceCtorEq,↓reduceIte,ZfV,ZeA,oI,oN,c1,c3,c4,hI,hG,d2,m1,z]
 exact ZZ rfl (Zx S hP9 hN9 _ _)
end
end
section
theorem ZuT {n:Nat} {l r:Zb} {a:Int} (hn:0 < n) (h:Zar n l=.ok (a,r)):r.length < l.length:=by
 unfold Zar at h
 split at h
 ·cases h
 ·injection h with h;injection h with _ h;subst h;rw [List.length_drop];omega
theorem Zly {l r a:Zb} (h:Zal l=.ok (a,r)):r.length < l.length:=by
 unfold Zal at h
 split at h
 ·rename_i h0
  injection h with h;injection h with _ h;subst h
  rw [List.length_drop]
  unfold ZX at h0 ⊢
  split at h0
  ·rename_i h1;exact absurd h0 h1
  ·rename_i h1
   rw [if_neg h1]
   split at h0
   ·rename_i h2
    rw [if_pos h2]
    unfold Zan at h0 ⊢
    split at h0
    ·cases h0
    ·rename_i h3
     rw [if_neg h3]
     simp only
     omega
   ·cases h0
 ·cases h
theorem ZiP {k:Int} {l r:Zb} {a:Int} (h:Zat k l=.ok (a,r)):r.length < l.length:=by
 unfold Zat at h
 split at h
 ·rename_i h1
  split at h
  ·injection h with h;injection h with _ h;subst h;exact ZuT (by omega) h1
  ·cases h
 ·cases h
theorem ZhB {l r:Zb} {a:Zbq} (h:Zbf l=.ok (a,r)):r.length < l.length:=by
 unfold Zbf at h
 split at h
 ·cases h
 rename_i f r1 ht
 have l1:=Zly ht
 split at h
 ·cases h
 rename_i o r2 hn
 have l2:=ZuT (by omega) hn
 split at h
 case isFalse=>cases h
 split at h
 case isFalse=>cases h
 injection h with h;injection h with _ h;subst h
 omega
section
variable {O:ZR} {bf:Nat->Bool} {f:Nat} {cs cs1 cs2 cs3 xs xs2:List AVal} {w w2:Nat} {q:AVal}
theorem Zz1 (hb:bf f=false) (hc:Zd cs=true) (hq:ZJ q=true) (hback:∀ ρ:Rho,ρ 1 0=some (1,0)->Zf ρ cs2=cs2) (hO:O f [.ref 0 0] [.var cs]=some (q,[.var cs2,.row 0 w xs])) :
  Zj O bf [.var cs,.free,.free,.free,.free] 1 f 4 false [.ref 0 0]=some (q,[.var cs2,.row 0 w xs,.free,.free,.free],{ any:=true,upd:=[(0,cs2)] }):=by
 have ec:=fun ρ=>ZaP ρ cs hc
 refine Zdb (ids:=[0]) (vs:=[.ref 0 0]) hb rfl (Zfn rfl hc) rfl rfl rfl ?_ hO rfl (by simp) (by simp) rfl rfl (Za5 _ q hq).1 ?_ rfl
 ·show [ZK.var (Zf _ cs)]=_
  rw [(ec _).1]
 ·have hb3:=hback (ZaD [.var cs,.free,.free,.free,.free] [0] 1) rfl
  show [ZK.var (Zf _ cs2),.row 0 w xs,.free,.free,.free]=_
  rw [hb3]
theorem ZKB (hb:bf f=false) (hc:Zd cs=true) (hq:ZJ q=true) (hc2:Zd cs2=true) (hO:O f [.ref 0 0] [.var cs]=some (q,[.var cs2])) :
  Zj O bf [.var cs,.free,.free,.free,.free] 1 f 4 false [.ref 0 0]=some (q,[.var cs2,.free,.free,.free,.free],{ any:=true,upd:=[(0,cs2)] }):=by
 have ec:=fun ρ=>ZaP ρ cs hc
 refine Zdb (ids:=[0]) (vs:=[.ref 0 0]) hb rfl (Zfn rfl hc) rfl rfl rfl ?_ hO rfl (by simp) (by simp) rfl rfl (Za5 _ q hq).1 ?_ rfl
 ·show [ZK.var (Zf _ cs)]=_
  rw [(ec _).1]
 ·show [ZK.var (Zf _ cs2),.free,.free,.free,.free]=_
  rw [(ZaP _ cs2 hc2).1]
theorem Zvz {g2:Nat} (hb:bf f=false) (hc:Zt cs=[1]) (hren:∀ ρ:Rho,ρ 1 0=some (1,0)->Zf ρ cs=cs) (hq:ZJ q=true) (hg2:g2<=1) (hback:∀ ρ:Rho,ρ 1 g2=some (1,g2)->Zf ρ cs2=cs2) (hO:O f [.ref 0 0] [.var cs,.row 0 w xs]=some (q,[.var cs2,.row g2 w2 xs2])) :
  Zj O bf [.var cs,.row 0 w xs,.free,.free,.free,.free] 2 f 4 false [.ref 0 0]=some (q,[.var cs2,.row g2 w2 xs2,.free,.free,.free,.free],{ any:=true,upd:=[(0,cs2)] }):=by
 refine Zdb (ids:=[0,1]) (vs:=[.ref 0 0]) hb rfl (Zmj (g:=0) (w:=w) (xs:=xs) rfl rfl (by omega) hc) rfl rfl rfl ?_ hO rfl (by simp) (by simp) ?_ rfl (Za5 _ q hq).1 ?_ rfl
 ·have h1:=hren (Zo [.var cs,.row 0 w xs,.free,.free,.free,.free] 0 [0,1]) rfl
  show [ZK.var (Zf _ cs),.row 0 w xs]=_
  rw [h1]
 ·simp [Za1,okB,Zck,Zq,hg2]
 ·have hb3:=hback (ZaD [.var cs,.row 0 w xs,.free,.free,.free,.free] [0,1] 2) (by simp [ZaD,Zq])
  show [ZK.var (Zf _ cs2),.row (0+g2) w2 xs2,.free,.free,.free,.free]=_
  rw [hb3,Nat.zero_add]
theorem Zr2 {f g:Nat} (hc:Zt cs=[1]) (hg:g<=1) (hren:∀ ρ:Rho,ρ 1 g=some (1,0)->Zf ρ cs=cs1) (τ:Za) :
  gcT 1 [(1,.fn f [.ref 0 0]),(0,.ref 0 0)] (.var cs::.row g w xs::τ)=([(1,.fn f [.ref 0 0]),(0,.ref 0 0)],[.var cs1,.row 0 w xs]):=by
 have hi:ZB 1 [.fn f [.ref 0 0],.ref 0 0] (.var cs::.row g w xs::τ)=[0,1]:=by
  have hR:List.range 1=[0]:=rfl
  simp only [ZB,hR,List.flatMap_cons,List.flatMap_nil,List.append_nil,List.getD_cons_zero,ZM,Zt,Z2,hc]
  rfl
 have hρ:Zo (.var cs::.row g w xs::τ) 1 [0,1] 1 g=some (1,0):=by
  simp [Zo,Z1,Zq,ZU]
 have hρ0:Zo (.var cs::.row g w xs::τ) 1 [0,1] 0 0=some (0,0):=rfl
 simp only [gcT,gcA,List.map_cons,List.map_nil,hi,Zw,List.getD_cons_zero,List.getD_cons_succ,ZU,Zq,ZG,Zf,Zm,hρ0,hren _ hρ]
 simp
end
section
variable (Q:List AVal) (hQ:Q.length=26) (hN:Zd Q=true) (h10:Q[10]?=some (.lst true []))
include hQ hN
def H1 (Q:List AVal) (n:Nat) (l:Zb) (ys:List AVal):Za:=[.var (Zi Q 10 1 0 n++[.lst false (l.map Zc)]),.row 0 6 ys]
def tmS:Tms:=[(1,.fn 1000122 [.ref 0 0]),(0,.ref 0 0)]
theorem ZtT:∀ (n:Nat) (l:Zb) (xs:List Zbq),l.length<=n->n+xs.length<=1099511627776 ->
  (∀ ts,Zas Zbf n l=.ok ts->ZaZ 1 tmS (H1 Q xs.length l (xs.map ZW))=some (.tup [],H1 Q (xs++ts).length [] ((xs++ts).map ZW))) /\
  (∀ e,Zas Zbf n l=.error e->∃ (xs':List Zbq) (r:Zb),ZaZ 1 tmS (H1 Q xs.length l (xs.map ZW))=some (.pan (Zy e),H1 Q xs'.length r (xs'.map ZW))):=by
 have hk:(10:Nat) < 26:=by omega
 intro n
 induction n with
 | zero =>
  intro l xs hl hx
  have l0:l=[]:=List.eq_nil_of_length_eq_zero (by omega)
  subst l0
  refine ⟨fun ts h=>?_,fun e h=>by simp [Zas] at h⟩
  have : ts=[]:=by simpa [Zas] using h.symm
  subst this
  rw [List.append_nil]
  have hL:=Zb8 Q hQ hN 10 hk xs.length 1 0
  have b2:=Zaq _ hL
  have hO:=fun τ=>Zdg (j:=1) (w:=6) (xs:=xs.map ZW) (r:=.tup []) (σ:=.var (Zi Q 10 1 0 xs.length++[.lst false []])::.row 0 6 (xs.map ZW)::τ) rfl (by omega) rfl rfl (ZbA Q hQ hN hk 1 0 xs.length []) (fun ρ h=>ZaO Q hQ hN hk 1 0 xs.length 1 0 [] ρ h)
  unfold H1 tmS ZaZ
  rw [Z9]
  generalize Zi Q 10 1 0 xs.length=R at *
  generalize xs.map ZW=ys at *
  simp -implicitDefEqProofs only [EQA,Zu,Nat.reduceAdd,Nat.reduceSub,Nat.reduceLT,Nat.reduceEqDiff,Nat.reduceBEq,reduceCtorEq,decide_eq_true_eq,↓reduceIte,Zd,Zkm,ZdQ,Zc6,oI,b2]
  exact hO _
 | succ n ih =>
  intro l xs hl hx
  have hL:=Zb8 Q hQ hN 10 hk xs.length 1 0
  have b2:=Zaq _ hL
  by_cases l0:l.length=0
  ·have l0:l=[]:=List.eq_nil_of_length_eq_zero l0
   subst l0
   refine ⟨fun ts h=>?_,fun e h=>by simp [Zas] at h⟩
   have : ts=[]:=by simpa [Zas] using h.symm
   subst this
   rw [List.append_nil]
   have hO:=fun τ=>Zdg (j:=1) (w:=6) (xs:=xs.map ZW) (r:=.tup []) (σ:=.var (Zi Q 10 1 0 xs.length++[.lst false []])::.row 0 6 (xs.map ZW)::τ) rfl (by omega) rfl rfl (ZbA Q hQ hN hk 1 0 xs.length []) (fun ρ h=>ZaO Q hQ hN hk 1 0 xs.length 1 0 [] ρ h)
   unfold H1 tmS ZaZ
   rw [Z9]
   generalize Zi Q 10 1 0 xs.length=R at *
   generalize xs.map ZW=ys at *
   simp -implicitDefEqProofs only [EQA,Zu,Nat.reduceAdd,Nat.reduceSub,Nat.reduceLT,Nat.reduceEqDiff,Nat.reduceBEq,reduceCtorEq,decide_eq_true_eq,↓reduceIte,Zd,Zkm,ZdQ,Zc6,oI,b2]
   exact hO _
  ·have z1:((l.length:Nat):Int) > 0:=by omega
   have z2:(0:Int) < ((l.length:Nat):Int):=by omega
   cases ho:Zbf l with
   | error e =>
    refine ⟨fun ts h=>by simp [Zas,l0,ho] at h,fun e' h=>?_⟩
    have : e'=e:=by simpa [Zas,l0,ho] using h.symm
    subst this
    obtain ⟨r,hE⟩:=ZwB Q hQ hN l (by omega) xs ho
    have hC:=Zvz (O:=E) (bf:=BY) (f:=122) (g2:=0) (by kernel_rfl) (ZbA Q hQ hN hk 1 0 xs.length l) (fun ρ h=>ZaO Q hQ hN hk 1 0 xs.length 1 0 l ρ h) (q:=.pan (Zy e')) rfl (by omega) (fun ρ h=>ZaO Q hQ hN hk 1 0 xs.length 1 0 r ρ h) hE
    have hO:=fun τ=>Zdg (j:=1) (w:=6) (xs:=xs.map ZW) (r:=.pan (Zy e')) (σ:=.var (Zi Q 10 1 0 xs.length++[.lst false (r.map Zc)])::.row 0 6 (xs.map ZW)::τ) rfl (by omega) rfl rfl (ZbA Q hQ hN hk 1 0 xs.length r) (fun ρ h=>ZaO Q hQ hN hk 1 0 xs.length 1 0 r ρ h)
    refine ⟨xs,r,?_⟩
    unfold H1 tmS ZaZ
    rw [Z9]
    clear hE ih
    generalize Zi Q 10 1 0 xs.length=R at *
    generalize xs.map ZW=ys at *
    generalize Zy e'=ce at *
    simp -implicitDefEqProofs only [EQA,Nat.reduceAdd,Nat.reduceSub,Nat.reduceLT,Nat.reduceEqDiff,Nat.reduceBEq,reduceCtorEq,↓reduceIte,ZdQ,Zc6,oI,b2,hC,z1]
    exact hO _
   | ok s =>
    obtain ⟨s,r⟩:=s
    have hr:=ZhB ho
    have hE:=ZHy Q hQ hN xs (by omega) l (by omega) ho
    have hC:=Zvz (O:=E) (bf:=BY) (f:=122) (g2:=1) (by kernel_rfl) (ZbA Q hQ hN hk 1 0 xs.length l) (fun ρ h=>ZaO Q hQ hN hk 1 0 xs.length 1 0 l ρ h) (q:=.tup []) rfl (by omega) (fun ρ h=>ZaO Q hQ hN hk 1 1 (xs.length+1) 1 1 r ρ h) hE
    have hG:=Zr2 (f:=1000122) (w:=6) (xs:=(xs++[s]).map ZW) (g:=1) (ZbA Q hQ hN hk 1 1 (xs.length+1) r) (by omega) (fun ρ h=>ZaO Q hQ hN hk 1 1 (xs.length+1) 1 0 r ρ h)
    have step:ZaZ 1 tmS (H1 Q xs.length l (xs.map ZW))=ZaZ 1 tmS (H1 Q (xs++[s]).length r ((xs++[s]).map ZW)):=by
     rw [show (xs++[s]).length=xs.length+1 from by simp]
     unfold H1 tmS
     conv=>lhs;unfold ZaZ
     conv=>rhs;unfold ZaZ
     conv=>lhs;rw [Z9]
     clear hE ih
     generalize Zi Q 10 1 0 xs.length=R at *
     generalize Zi Q 10 1 1 (xs.length+1)=R2 at *
     generalize Zi Q 10 1 0 (xs.length+1)=R3 at *
     generalize xs.map ZW=ys at *
     generalize (xs++[s]).map ZW=zs at *
     simp -implicitDefEqProofs only [EQA,Z5,Nat.reduceAdd,Nat.reduceSub,Nat.reduceLT,Nat.reduceEqDiff,Nat.reduceBEq,reduceCtorEq,↓reduceIte,ZdQ,Zc6,oI,b2,hC,hG,z1]
    obtain ⟨i1,i2⟩:=ih r (xs++[s]) (by omega) (by simp;omega)
    refine ⟨fun ts h=>?_,fun e h=>?_⟩
    ·rw [step]
     simp only [Zas,l0,ho,if_false] at h
     cases hl2:Zas Zbf n r with
     | error e=>rw [hl2] at h;cases h
     | ok us =>
      rw [hl2] at h
      injection h with h;subst h
      have:=i1 us hl2
      rw [List.append_assoc,List.singleton_append] at this
      exact this
    ·rw [step]
     simp only [Zas,l0,ho,if_false] at h
     cases hl2:Zas Zbf n r with
     | error e2 =>
      rw [hl2] at h
      injection h with h;subst h
      exact i2 e2 hl2
     | ok us=>rw [hl2] at h;cases h
end
def Zbl {α:Type} (one:Zb->RK α) (k:Int) (l:Zb):Except Int (Int×List Zp×List α):=match ZcL k l with
 | .error e=>.error e
 | .ok (n,ps,r)=>match Zas one r.length r with
  | .error e=>.error e
  | .ok ts=>.ok (n,ps,ts)
theorem Zij {k:Int} {l:Zb} {n:Int} {ps:List Zp} {r:Zb} (h:ZcL k l=.ok (n,ps,r)):r.length<=l.length/\r.length≠0:=by
 unfold ZcL at h
 split at h
 ·cases h
 rename_i n' r1 hi
 have l1:=ZeE hi
 split at h
 ·cases h
 rename_i ps' r2 hp
 have l2:=Zfp hp
 split at h
 ·cases h
 rename_i hne
 injection h with h;injection h with e1 h;injection h with e2 e3;subst e1 e2 e3
 exact ⟨by omega,hne⟩
theorem Zkn {α:Type} {one:Zb->RK α} {n:Nat} {l:Zb} (h:l.length=n+1) {s:α} {r:Zb} (ho:one l=.ok (s,r)) (hlen:∀ {l s r},one l=.ok (s,r)->r.length < l.length):Zas one l.length l=match Zas one n r with
  | .error e=>.error e
  | .ok t=>.ok (s::t):=by
 rw [h]
 simp only [Zas,h,Nat.add_eq_zero_iff,Nat.succ_ne_self,and_false,if_false,ho]
 all_goals rfl
section
variable {α:Type} {one:Zb->RK α} {g:α->AVal} {f kk:Nat} {k:Int} (hk:kk < 26) (hf:f < 1000000) (hby:BY f=false)
  (hlen:∀ {l s r},one l=.ok (s,r)->r.length < l.length)
  (hT0:∀ Q,QOk k Q->∀ (l:Zb) (s:α) (r:Zb),l.length<=1099511627776->one l=.ok (s,r)->E f [.ref 0 0,.ref 2 0] [.var [.ref 1 0],.var (Q++[.lst false (l.map Zc)]),.var [.ref 1 0]]=some (.tup [],[.var [.ref 1 0],.var (Zi Q kk 3 0 1++[.lst false (r.map Zc)]),.var [.ref 1 0],.row 0 1 [g s]]))
  (hF0:∀ Q,QOk k Q->∀ (l:Zb) (e:Int),l.length<=1099511627776->one l=.error e->∃ r:Zb,E f [.ref 0 0,.ref 2 0] [.var [.ref 1 0],.var (Q++[.lst false (l.map Zc)]),.var [.ref 1 0]]=some (.pan (Zy e),[.var [.ref 1 0],.var (Q++[.lst false (r.map Zc)]),.var [.ref 1 0]]))
  (hT1:∀ Q,QOk k Q->∀ (xs:List α) (l:Zb) (s:α) (r:Zb),l.length<=1099511627776->xs.length<=1099511627776->one l=.ok (s,r)->E f [.ref 0 0,.ref 3 0] [.var [.ref 1 0],.var (Zi Q kk 2 0 xs.length++[.lst false (l.map Zc)]),.row 0 1 (xs.map g),.var [.ref 1 0]]=some (.tup [],[.var [.ref 1 0],.var (Zi Q kk 2 1 (xs.length+1)++[.lst false (r.map Zc)]),.row 1 1 ((xs++[s]).map g),.var [.ref 1 0]]))
  (hF1:∀ Q,QOk k Q->∀ (xs:List α) (l:Zb) (e:Int),l.length<=1099511627776->one l=.error e->∃ r:Zb,E f [.ref 0 0,.ref 3 0] [.var [.ref 1 0],.var (Zi Q kk 2 0 xs.length++[.lst false (l.map Zc)]),.row 0 1 (xs.map g),.var [.ref 1 0]]=some (.pan (Zy e),[.var [.ref 1 0],.var (Zi Q kk 2 0 xs.length++[.lst false (r.map Zc)]),.row 0 1 (xs.map g),.var [.ref 1 0]]))
include hk hf hby hT0
theorem Zv0 {Q:List AVal} (hQ:QOk k Q) {l r:Zb} {s:α} (hl:l.length<=1099511627776) (hl0:l.length≠0) (ho:one l=.ok (s,r)) :
  ZaZ 3 [(1,.fn f [.ref 1 0,.ref 2 0]),(0,.ref 0 0)] [.var (Q++[.lst false (l.map Zc)]),.var [.ref 0 0],.var [.ref 0 0]]=ZaZ 3 [(1,.fn f [.ref 1 0,.ref 2 0]),(0,.ref 0 0)] (H3 Q kk 1 r [g s]):=by
 have hE:=hT0 Q hQ l s r hl ho
 obtain ⟨hL,hN,-,-,-,-⟩:=hQ
 have z1:((l.length:Nat):Int) > 0:=by omega
 have z2:(0:Int) < ((l.length:Nat):Int):=by omega
 have b2:=Zaq _ hL
 have hC:=ZMF (O:=E) (bf:=BY) (cs:=Q++[.lst false (l.map Zc)]) (cs3:=Zi Q kk 3 0 1++[.lst false (r.map Zc)]) hby (Zx Q hL hN false (l.map Zc)) (q:=.tup []) rfl (fun ρ h=>ZaO Q hL hN hk 3 0 1 3 0 r ρ h) hE
 have hG:=Ztz (f:=f) (w:=1) (xs:=[g s]) (g:=0) (ZbA Q hL hN hk 3 0 1 r) (by omega) (fun ρ h=>ZaO Q hL hN hk 3 0 1 3 0 r ρ h)
 unfold H3
 conv=>lhs;unfold ZaZ
 conv=>rhs;unfold ZaZ
 conv=>lhs;rw [Z9]
 clear hE hT0
 generalize Zi Q kk 3 0 1=Q2 at *
 simp -implicitDefEqProofs only [EQA,Z5,Nat.reduceAdd,Nat.reduceLT,Nat.reduceEqDiff,Nat.reduceBEq,reduceCtorEq,↓reduceIte,ZdQ,Zc6,oI,b2,hC,hG,hf,z1]
omit hT0
include hF0
theorem ZEc {Q:List AVal} (hQ:QOk k Q) {l:Zb} {e:Int} (hl:l.length<=1099511627776) (hl0:l.length≠0) (ho:one l=.error e) :
  ∃ r:Zb,ZaZ 3 [(1,.fn f [.ref 1 0,.ref 2 0]),(0,.ref 0 0)] [.var (Q++[.lst false (l.map Zc)]),.var [.ref 0 0],.var [.ref 0 0]]=some (.pan (Zy e),[.var (Q++[.lst false (r.map Zc)]),.var [.ref 0 0],.var [.ref 0 0]]):=by
 obtain ⟨r,hE⟩:=hF0 Q hQ l e hl ho
 obtain ⟨hL,hN,-,-,-,-⟩:=hQ
 have z1:((l.length:Nat):Int) > 0:=by omega
 have z2:(0:Int) < ((l.length:Nat):Int):=by omega
 have b2:=Zaq _ hL
 have hC:=ZLR (O:=E) (bf:=BY) (cs:=Q++[.lst false (l.map Zc)]) (cs2:=Q++[.lst false (r.map Zc)]) hby (Zx Q hL hN false (l.map Zc)) (q:=.pan (Zy e)) rfl (Zx Q hL hN false (r.map Zc)) hE
 have hO:=fun τ=>Zj4 (r:=.pan (Zy e)) rfl (Zx Q hL hN false (r.map Zc)) τ
 refine ⟨r,?_⟩
 unfold ZaZ
 rw [Z9]
 clear hE hF0
 generalize Zy e=ce at *
 simp -implicitDefEqProofs only [EQA,Nat.reduceAdd,Nat.reduceLT,Nat.reduceEqDiff,Nat.reduceBEq,reduceCtorEq,↓reduceIte,ZdQ,Zc6,oI,b2,hC,hf,z1]
 exact hO _
include hT0 hT1 hF1 hlen
theorem ZpN {P:List AVal} (hP:QOk k P) {l:Zb} (hl:l.length<=1099511627775) {n:Int} {ps:List Zp} {ts:List α} (h:Zbl one k l=.ok (n,ps,ts)) :
  E 121 [.ref 0 0,.fn f [.ref 1 0,.ref 2 0]] [.var (P++[.lst false (l.map Zc)]),.var [.ref 0 0],.var [.ref 0 0]]=some (.tup [],H3 (Zb9 P n ps) kk ts.length [] (ts.map g)):=by
 unfold Zbl at h
 split at h
 ·cases h
 rename_i n' ps' r hm
 obtain ⟨l1,l2⟩:=Zij hm
 split at h
 ·cases h
 rename_i us hu
 injection h with h;injection h with e1 h;injection h with e2 e3;subst e1 e2 e3
 rw [ZvA k f P hP l (by omega) hm]
 have hQ:=Zd1 hP n' ps'
 generalize Zb9 P n' ps'=Q at *
 obtain ⟨j,hj⟩:∃ j,r.length=j+1:=⟨r.length - 1,by omega⟩
 cases ho:one r with
 | error e =>
  rw [hj] at hu
  simp only [Zas,hj,Nat.add_eq_zero_iff,Nat.succ_ne_self,and_false,if_false,ho] at hu
  cases hu
 | ok sr =>
  obtain ⟨s,r'⟩:=sr
  have hr:=hlen ho
  rw [Zkn hj ho hlen] at hu
  cases hl2:Zas one j r' with
  | error e=>rw [hl2] at hu;cases hu
  | ok vs =>
   rw [hl2] at hu
   injection hu with hu;subst hu
   rw [Zv0 hk hf hby hT0 hQ (by omega) l2 ho]
   exact (ZuP (g:=g) Q hQ.len hQ.nor hk hf hby hlen (hT1 Q hQ) (hF1 Q hQ) j r' [s] (by omega) (by simp;omega)).1 vs hl2
theorem Zph {P:List AVal} (hP:QOk k P) {l:Zb} (hl:l.length<=1099511627775) {e:Int} (h:Zbl one k l=.error e) :
  (∃ cs,Zd cs=true/\E 121 [.ref 0 0,.fn f [.ref 1 0,.ref 2 0]] [.var (P++[.lst false (l.map Zc)]),.var [.ref 0 0],.var [.ref 0 0]]=some (.pan (Zy e),[.var cs,.var [.ref 0 0],.var [.ref 0 0]])) \/
  (∃ (Q:List AVal) (xs:List α) (r:Zb),Q.length=26/\Zd Q=true/\E 121 [.ref 0 0,.fn f [.ref 1 0,.ref 2 0]] [.var (P++[.lst false (l.map Zc)]),.var [.ref 0 0],.var [.ref 0 0]]=some (.pan (Zy e),H3 Q kk xs.length r (xs.map g))):=by
 unfold Zbl at h
 split at h
 ·rename_i c hm
  injection h with h;subst h
  exact Or.inl (ZG7 k f P hP l (by omega) hm)
 rename_i n' ps' r hm
 obtain ⟨l1,l2⟩:=Zij hm
 rw [ZvA k f P hP l (by omega) hm]
 have hQ:=Zd1 hP n' ps'
 generalize Zb9 P n' ps'=Q at *
 obtain ⟨j,hj⟩:∃ j,r.length=j+1:=⟨r.length - 1,by omega⟩
 split at h
 case h_2=>cases h
 rename_i c hu
 injection h with h;subst h
 cases ho:one r with
 | error e =>
  have : e=c:=by
   rw [hj] at hu
   simp only [Zas,hj,Nat.add_eq_zero_iff,Nat.succ_ne_self,and_false,if_false,ho] at hu
   injection hu
  subst this
  obtain ⟨r',hr'⟩:=ZEc hk hf hby hF0 hQ (by omega) l2 ho
  exact Or.inl ⟨_,Zx Q hQ.len hQ.nor false (r'.map Zc),hr'⟩
 | ok sr =>
  obtain ⟨s,r'⟩:=sr
  have hr:=hlen ho
  rw [Zkn hj ho hlen] at hu
  cases hl2:Zas one j r' with
  | ok vs=>rw [hl2] at hu;cases hu
  | error e2 =>
   rw [hl2] at hu
   injection hu with hu;subst hu
   rw [Zv0 hk hf hby hT0 hQ (by omega) l2 ho]
   obtain ⟨xs',r2,hx⟩:=(ZuP (g:=g) Q hQ.len hQ.nor hk hf hby hlen (hT1 Q hQ) (hF1 Q hQ) j r' [s] (by omega) (by simp;omega)).2 e2 hl2
   exact Or.inr ⟨Q,xs',r2,hQ.len,hQ.nor,hx⟩
end
section
theorem Zv5 {Q:List AVal} (hQ:QOk 8 Q) {l r:Zb} {s:Zbq} (hl:l.length<=1099511627776) (hl0:l.length≠0) (ho:Zbf l=.ok (s,r)) :
  ZaZ 1 tmS [.var (Q++[.lst false (l.map Zc)])]=ZaZ 1 tmS (H1 Q 1 r [ZW s]):=by
 obtain ⟨hL,hN,-,-,h10,-⟩:=hQ
 have hk:(10:Nat) < 26:=by omega
 have hE:=ZAP Q hL hN h10 l (by omega) ho
 unfold Zg at hE
 have z1:((l.length:Nat):Int) > 0:=by omega
 have z2:(0:Int) < ((l.length:Nat):Int):=by omega
 have b2:=Zaq _ hL
 have hC:=Zz1 (O:=E) (bf:=BY) (f:=122) (cs:=Q++[.lst false (l.map Zc)]) (by kernel_rfl) (Zx Q hL hN false (l.map Zc)) (q:=.tup []) rfl (fun ρ h=>ZaO Q hL hN hk 1 0 1 1 0 r ρ h) hE
 have hG:=Zr2 (f:=1000122) (w:=6) (xs:=[ZW s]) (g:=0) (ZbA Q hL hN hk 1 0 1 r) (by omega) (fun ρ h=>ZaO Q hL hN hk 1 0 1 1 0 r ρ h)
 unfold H1 tmS
 conv=>lhs;unfold ZaZ
 conv=>rhs;unfold ZaZ
 conv=>lhs;rw [Z9]
 clear hE
 generalize Zi Q 10 1 0 1=Q2 at *
 generalize ZW s=sv at *
 simp -implicitDefEqProofs only [EQA,Z5,Nat.reduceAdd,Nat.reduceSub,Nat.reduceLT,Nat.reduceEqDiff,Nat.reduceBEq,reduceCtorEq,↓reduceIte,ZdQ,Zc6,oI,b2,hC,hG,z1]
theorem ZKw {Q:List AVal} (hQ:QOk 8 Q) {l:Zb} {e:Int} (hl:l.length<=1099511627776) (hl0:l.length≠0) (ho:Zbf l=.error e) :
  ∃ cs,Zd cs=true/\ZaZ 1 tmS [.var (Q++[.lst false (l.map Zc)])]=some (.pan (Zy e),[.var cs]):=by
 obtain ⟨hL,hN,-,-,h10,-⟩:=hQ
 obtain ⟨cs,hc,hE⟩:=ZD4 Q hL hN l (by omega) ho
 unfold Zg at hE
 have z1:((l.length:Nat):Int) > 0:=by omega
 have z2:(0:Int) < ((l.length:Nat):Int):=by omega
 have b2:=Zaq _ hL
 have hC:=ZKB (O:=E) (bf:=BY) (f:=122) (cs:=Q++[.lst false (l.map Zc)]) (by kernel_rfl) (Zx Q hL hN false (l.map Zc)) (q:=.pan (Zy e)) rfl hc hE
 have hO:=fun τ=>ZZ (r:=.pan (Zy e)) (σ:=τ) rfl hc
 refine ⟨cs,hc,?_⟩
 unfold ZaZ tmS
 rw [Z9]
 clear hE
 generalize Zy e=ce at *
 simp -implicitDefEqProofs only [EQA,Nat.reduceAdd,Nat.reduceSub,Nat.reduceLT,Nat.reduceEqDiff,Nat.reduceBEq,reduceCtorEq,↓reduceIte,ZdQ,Zc6,oI,b2,hC,z1]
 exact hO _
theorem ZI3 {P:List AVal} (hP:QOk 8 P) {l:Zb} (hl:l.length<=1099511627775) {n:Int} {ps:List Zp} {ts:List Zbq} (h:Zbl Zbf 8 l=.ok (n,ps,ts)) :
  E 121 [.ref 0 0,.fn 1000122 [.ref 0 0]] [.var (P++[.lst false (l.map Zc)])]=some (.tup [],H1 (Zb9 P n ps) ts.length [] (ts.map ZW)):=by
 unfold Zbl at h
 split at h
 ·cases h
 rename_i n' ps' r hm
 obtain ⟨l1,l2⟩:=Zij hm
 split at h
 ·cases h
 rename_i us hu
 injection h with h;injection h with e1 h;injection h with e2 e3;subst e1 e2 e3
 rw [Zsc 8 1000122 P hP l (by omega) hm]
 have hQ:=Zd1 hP n' ps'
 generalize Zb9 P n' ps'=Q at *
 obtain ⟨j,hj⟩:∃ j,r.length=j+1:=⟨r.length - 1,by omega⟩
 cases ho:Zbf r with
 | error e =>
  rw [hj] at hu
  simp only [Zas,hj,Nat.add_eq_zero_iff,Nat.succ_ne_self,and_false,if_false,ho] at hu
  cases hu
 | ok sr =>
  obtain ⟨s,r'⟩:=sr
  have hr:=ZhB ho
  rw [Zkn hj ho ZhB] at hu
  cases hl2:Zas Zbf j r' with
  | error e=>rw [hl2] at hu;cases hu
  | ok vs =>
   rw [hl2] at hu
   injection hu with hu;subst hu
   show ZaZ 1 tmS _=_
   rw [Zv5 hQ (by omega) l2 ho]
   exact (ZtT Q hQ.len hQ.nor j r' [s] (by omega) (by simp;omega)).1 vs hl2
theorem ZMq {P:List AVal} (hP:QOk 8 P) {l:Zb} (hl:l.length<=1099511627775) {e:Int} (h:Zbl Zbf 8 l=.error e) :
  (∃ cs,Zd cs=true/\E 121 [.ref 0 0,.fn 1000122 [.ref 0 0]] [.var (P++[.lst false (l.map Zc)])]=some (.pan (Zy e),[.var cs])) \/
  (∃ (Q:List AVal) (xs:List Zbq) (r:Zb),Q.length=26/\Zd Q=true/\E 121 [.ref 0 0,.fn 1000122 [.ref 0 0]] [.var (P++[.lst false (l.map Zc)])]=some (.pan (Zy e),H1 Q xs.length r (xs.map ZW))):=by
 unfold Zbl at h
 split at h
 ·rename_i c hm
  injection h with h;subst h
  exact Or.inl (ZyZ 8 1000122 P hP l (by omega) hm)
 rename_i n' ps' r hm
 obtain ⟨l1,l2⟩:=Zij hm
 rw [Zsc 8 1000122 P hP l (by omega) hm]
 have hQ:=Zd1 hP n' ps'
 generalize Zb9 P n' ps'=Q at *
 obtain ⟨j,hj⟩:∃ j,r.length=j+1:=⟨r.length - 1,by omega⟩
 split at h
 case h_2=>cases h
 rename_i c hu
 injection h with h;subst h
 show (∃ cs,Zd cs=true/\ZaZ 1 tmS _=_)\/(∃ (Q:List AVal) (xs:List Zbq) (r:Zb),Q.length=26/\Zd Q=true/\ZaZ 1 tmS _=_)
 cases ho:Zbf r with
 | error e =>
  have : e=c:=by
   rw [hj] at hu
   simp only [Zas,hj,Nat.add_eq_zero_iff,Nat.succ_ne_self,and_false,if_false,ho] at hu
   injection hu
  subst this
  exact Or.inl (ZKw hQ (by omega) l2 ho)
 | ok sr =>
  obtain ⟨s,r'⟩:=sr
  have hr:=ZhB ho
  rw [Zkn hj ho ZhB] at hu
  cases hl2:Zas Zbf j r' with
  | ok vs=>rw [hl2] at hu;cases hu
  | error e2 =>
   rw [hl2] at hu
   injection hu with hu;subst hu
   rw [Zv5 hQ (by omega) l2 ho]
   obtain ⟨xs',r2,hx⟩:=(ZtT Q hQ.len hQ.nor j r' [s] (by omega) (by simp;omega)).2 e2 hl2
   exact Or.inr ⟨Q,xs',r2,hQ.len,hQ.nor,hx⟩
end
end
section
section
variable {O:ZR} {bf:Nat->Bool} {fm f w:Nat} {cs cs2 cs3 ys:List AVal} {x:AVal} {σ:Za}
theorem Zns (h0:σ[0]?=some (.var cs)) (h1:σ[1]?=some (.var [.ref 0 0])) (h2:σ[2]?=some (.var [.ref 0 0])) (hc:Zt cs=[]):Zz σ 1000 [0,2,1] []=[0,2,1]:=by
 have d0:σ.getD 0 .free=.var cs:=by simp [List.getD_eq_getElem?_getD,h0]
 have d1:σ.getD 1 .free=.var [.ref 0 0]:=by simp [List.getD_eq_getElem?_getD,h1]
 have d2:σ.getD 2 .free=.var [.ref 0 0]:=by simp [List.getD_eq_getElem?_getD,h2]
 rw [show (1000:Nat)=994+1+1+1+1+1+1 from rfl]
 simp only [Zz,d0,d1,d2,ZM,Zt,Z2,hc,List.contains_cons,List.contains_nil,List.append_nil,List.nil_append,List.cons_append,Bool.or_false,Bool.false_eq_true,if_false]
 simp
theorem ZmF (h0:σ[0]?=some (.var cs)) (hc:Zt cs=[]):Zz σ 1000 [0,0] []=[0]:=by
 have d0:σ.getD 0 .free=.var cs:=by simp [List.getD_eq_getElem?_getD,h0]
 rw [show (1000:Nat)=996+1+1+1+1 from rfl]
 simp only [Zz,d0,ZM,hc,List.contains_cons,List.contains_nil,List.append_nil,List.nil_append,List.cons_append,Bool.or_false,Bool.false_eq_true,if_false]
 simp
def hB (cs:List AVal) (b:ZK):Za:=[.var cs,.var [.ref 0 0],.var [.ref 0 0],b]
theorem Zqf (hb:bf fm=false) (hc:Zd cs=true) (hrf:Zt cs2=[3]) (hren:∀ ρ:Rho,ρ 3 0=some (3,0)->Zf ρ cs2=cs2)
  (hO:O fm [.ref 0 0,.fn f [.ref 1 0,.ref 2 0]] [.var cs,.var [.ref 0 0],.var [.ref 0 0]]=some (.tup [],[.var cs2,.var [.ref 0 0],.var [.ref 0 0],.row 0 w ys])) :
  Zj O bf (hB cs .free) 3 fm 1 true [.ref 0 0,.fn f [.ref 2 0,.ref 1 0]]=some (.tup [],hB cs2 (.row 0 w ys),{ any:=true,upd:=[(0,cs2),(2,[.ref 0 0]),(1,[.ref 0 0])] }):=by
 have hv:Zaf true 3 (some (.tup [],[.var cs2,.var [.ref 0 0],.var [.ref 0 0],.row 0 w ys]))=some (.tup [],[.var cs2,.var [.ref 0 0],.var [.ref 0 0],.row 0 w ys]):=ZjX (r:=.tup []) rfl hrf hren []
 have ec:=fun ρ=>ZaP ρ cs hc
 unfold hB
 refine Zdb (ids:=[0,2,1]) (vs:=[.ref 0 0,.fn f [.ref 2 0,.ref 1 0]]) hb rfl (Zns rfl rfl rfl (ec (fun _ _=>none)).2) rfl rfl rfl ?_ hO hv (by simp) (by simp) rfl rfl rfl ?_ rfl
 ·show [ZK.var (Zf _ cs),.var (Zf _ [.ref 0 0]),.var (Zf _ [.ref 0 0])]=_
  rw [(ec _).1];rfl
 ·have hb3:=hren (ZaD [.var cs,.var [.ref 0 0],.var [.ref 0 0],.free] [0,2,1] 3) rfl
  show [ZK.var (Zf _ cs2),.var (Zf _ [.ref 0 0]),.var (Zf _ [.ref 0 0]),.row 0 w ys]=_
  rw [hb3];rfl
theorem Zof (hb:bf fm=false) (hc:Zd cs=true) (hc2:Zd cs2=true) (hx:ZJ x=true)
  (hO:O fm [.ref 0 0,.fn f [.ref 1 0,.ref 2 0]] [.var cs,.var [.ref 0 0],.var [.ref 0 0]]=some (.pan x,[.var cs2,.var [.ref 0 0],.var [.ref 0 0]])) :
  Zj O bf (hB cs .free) 3 fm 1 true [.ref 0 0,.fn f [.ref 2 0,.ref 1 0]]=some (.pan x,hB cs2 .free,{ any:=true,upd:=[(0,cs2),(2,[.ref 0 0]),(1,[.ref 0 0])] }):=by
 have ec:=fun ρ=>ZaP ρ cs hc
 have hnp:ZJ (.pan x)=true:=by simpa only [ZJ] using hx
 unfold hB
 refine Zdb (ids:=[0,2,1]) (vs:=[.ref 0 0,.fn f [.ref 2 0,.ref 1 0]]) hb rfl (Zns rfl rfl rfl (ec (fun _ _=>none)).2) rfl rfl rfl ?_ hO rfl (by simp) (by simp) rfl rfl (Za5 _ _ hnp).1 ?_ rfl
 ·show [ZK.var (Zf _ cs),.var (Zf _ [.ref 0 0]),.var (Zf _ [.ref 0 0])]=_
  rw [(ec _).1];rfl
 ·show [ZK.var (Zf _ cs2),.var (Zf _ [.ref 0 0]),.var (Zf _ [.ref 0 0]),.free]=_
  rw [(ZaP _ cs2 hc2).1];rfl
theorem Zpb (hb:bf fm=false) (hc:Zd cs=true) (hren:∀ ρ:Rho,ρ 3 0=some (3,0)->Zf ρ cs2=cs2) (hx:ZJ x=true)
  (hO:O fm [.ref 0 0,.fn f [.ref 1 0,.ref 2 0]] [.var cs,.var [.ref 0 0],.var [.ref 0 0]]=some (.pan x,[.var cs2,.var [.ref 0 0],.var [.ref 0 0],.row 0 w ys])) :
  Zj O bf (hB cs .free) 3 fm 1 true [.ref 0 0,.fn f [.ref 2 0,.ref 1 0]]=some (.pan x,hB cs2 (.row 0 w ys),{ any:=true,upd:=[(0,cs2),(2,[.ref 0 0]),(1,[.ref 0 0])] }):=by
 have ec:=fun ρ=>ZaP ρ cs hc
 have hnp:ZJ (.pan x)=true:=by simpa only [ZJ] using hx
 unfold hB
 refine Zdb (ids:=[0,2,1]) (vs:=[.ref 0 0,.fn f [.ref 2 0,.ref 1 0]]) hb rfl (Zns rfl rfl rfl (ec (fun _ _=>none)).2) rfl rfl rfl ?_ hO rfl (by simp) (by simp) rfl rfl (Za5 _ _ hnp).1 ?_ rfl
 ·show [ZK.var (Zf _ cs),.var (Zf _ [.ref 0 0]),.var (Zf _ [.ref 0 0])]=_
  rw [(ec _).1];rfl
 ·have hb3:=hren (ZaD [.var cs,.var [.ref 0 0],.var [.ref 0 0],.free] [0,2,1] 3) rfl
  show [ZK.var (Zf _ cs2),.var (Zf _ [.ref 0 0]),.var (Zf _ [.ref 0 0]),.row 0 w ys]=_
  rw [hb3];rfl
theorem Zze (hb:bf fm=false) (hc:Zd cs=true) (hrf:Zt cs2=[1]) (hren:∀ ρ:Rho,ρ 1 0=some (1,0)->Zf ρ cs2=cs2) (hback:∀ ρ:Rho,ρ 1 0=some (3,0)->Zf ρ cs2=cs3)
  (hO:O fm [.ref 0 0,.fn f [.ref 0 0]] [.var cs]=some (.tup [],[.var cs2,.row 0 w ys])) :
  Zj O bf (hB cs .free) 3 fm 1 true [.ref 0 0,.fn f [.ref 0 0]]=some (.tup [],hB cs3 (.row 0 w ys),{ any:=true,upd:=[(0,cs3)] }):=by
 have hv:Zaf true 1 (some (.tup [],[.var cs2,.row 0 w ys]))=some (.tup [],[.var cs2,.row 0 w ys]):=Zdg (j:=1) (σ:=[.var cs2,.row 0 w ys]) (r:=.tup []) rfl (by omega) rfl rfl hrf hren
 have ec:=fun ρ=>ZaP ρ cs hc
 unfold hB
 refine Zdb (ids:=[0]) (vs:=[.ref 0 0,.fn f [.ref 0 0]]) hb rfl (ZmF rfl (ec (fun _ _=>none)).2) rfl rfl rfl ?_ hO hv (by simp) (by simp) rfl rfl rfl ?_ rfl
 ·show [ZK.var (Zf _ cs)]=_
  rw [(ec _).1]
 ·have hb3:=hback (ZaD [.var cs,.var [.ref 0 0],.var [.ref 0 0],.free] [0] 3) rfl
  show [ZK.var (Zf _ cs2),.var [.ref 0 0],.var [.ref 0 0],.row 0 w ys]=_
  rw [hb3]
theorem ZHb (hb:bf fm=false) (hc:Zd cs=true) (hc2:Zd cs2=true) (hx:ZJ x=true)
  (hO:O fm [.ref 0 0,.fn f [.ref 0 0]] [.var cs]=some (.pan x,[.var cs2])) :
  Zj O bf (hB cs .free) 3 fm 1 true [.ref 0 0,.fn f [.ref 0 0]]=some (.pan x,hB cs2 .free,{ any:=true,upd:=[(0,cs2)] }):=by
 have ec:=fun ρ=>ZaP ρ cs hc
 have hnp:ZJ (.pan x)=true:=by simpa only [ZJ] using hx
 unfold hB
 refine Zdb (ids:=[0]) (vs:=[.ref 0 0,.fn f [.ref 0 0]]) hb rfl (ZmF rfl (ec (fun _ _=>none)).2) rfl rfl rfl ?_ hO rfl (by simp) (by simp) rfl rfl (Za5 _ _ hnp).1 ?_ rfl
 ·show [ZK.var (Zf _ cs)]=_
  rw [(ec _).1]
 ·show [ZK.var (Zf _ cs2),.var [.ref 0 0],.var [.ref 0 0],.free]=_
  rw [(ZaP _ cs2 hc2).1]
theorem Zzz (hb:bf fm=false) (hc:Zd cs=true) (hback:∀ ρ:Rho,ρ 1 0=some (3,0)->Zf ρ cs2=cs3) (hx:ZJ x=true)
  (hO:O fm [.ref 0 0,.fn f [.ref 0 0]] [.var cs]=some (.pan x,[.var cs2,.row 0 w ys])) :
  Zj O bf (hB cs .free) 3 fm 1 true [.ref 0 0,.fn f [.ref 0 0]]=some (.pan x,hB cs3 (.row 0 w ys),{ any:=true,upd:=[(0,cs3)] }):=by
 have ec:=fun ρ=>ZaP ρ cs hc
 have hnp:ZJ (.pan x)=true:=by simpa only [ZJ] using hx
 unfold hB
 refine Zdb (ids:=[0]) (vs:=[.ref 0 0,.fn f [.ref 0 0]]) hb rfl (ZmF rfl (ec (fun _ _=>none)).2) rfl rfl rfl ?_ hO rfl (by simp) (by simp) rfl rfl (Za5 _ _ hnp).1 ?_ rfl
 ·show [ZK.var (Zf _ cs)]=_
  rw [(ec _).1]
 ·have hb3:=hback (ZaD [.var cs,.var [.ref 0 0],.var [.ref 0 0],.free] [0] 3) rfl
  show [ZK.var (Zf _ cs2),.var [.ref 0 0],.var [.ref 0 0],.row 0 w ys]=_
  rw [hb3]
end
def Zcm (Q:List AVal) (kk n:Nat) (l:Zb) (w:Nat) (ys:List AVal):Za:=[.var (Zi Q kk 1 0 n++[.lst false (l.map Zc)]),.row 0 w ys]
def ZiQ (kk w:Nat) (l:Zb) (P:List AVal) (e:Int):Prop :=
 (∃ cs,Zd cs=true/\E 77 [.ref 0 0] (Zg P l)=some (.pan (Zy e),[.var cs])) \/
 (∃ (Q:List AVal) (n:Nat) (r:Zb) (ys:List AVal),Q.length=26/\Zd Q=true/\E 77 [.ref 0 0] (Zg P l)=some (.pan (Zy e),Zcm Q kk n r w ys))
theorem ZyW (xs:List Zb):kOk 1 (xs.map AVal.str)=true:=by cases xs <;> rfl
theorem ZEs (xs:List Int):kOk 1 (xs.map (AVal.int .i64))=true:=by cases xs <;> rfl
theorem fT0 {k:Int} (Q:List AVal) (h:QOk k Q) (l s r:Zb) (hl:l.length<=1099511627776) (ho:Zal l=.ok (s,r)):E 123 [.ref 0 0,.ref 2 0] [.var [.ref 1 0],.var (Q++[.lst false (l.map Zc)]),.var [.ref 1 0]]=some (.tup [],[.var [.ref 1 0],.var (Zi Q 11 3 0 1++[.lst false (r.map Zc)]),.var [.ref 1 0],.row 0 1 [AVal.str s]]) :=
 ZK3 Q h.len h.nor l (by omega) h.c11 ho
theorem fF0 {k:Int} (Q:List AVal) (h:QOk k Q) (l:Zb) (e:Int) (hl:l.length<=1099511627776) (ho:Zal l=.error e):∃ r:Zb,E 123 [.ref 0 0,.ref 2 0] [.var [.ref 1 0],.var (Q++[.lst false (l.map Zc)]),.var [.ref 1 0]]=some (.pan (Zy e),[.var [.ref 1 0],.var (Q++[.lst false (r.map Zc)]),.var [.ref 1 0]]) :=
 ⟨l,ZOS Q h.len h.nor l (by omega) ho h.c11⟩
theorem fT1 {k:Int} (Q:List AVal) (h:QOk k Q) (xs:List Zb) (l s r:Zb) (hl:l.length<=1099511627776) (hx:xs.length<=1099511627776) (ho:Zal l=.ok (s,r)):E 123 [.ref 0 0,.ref 3 0] [.var [.ref 1 0],.var (Zi Q 11 2 0 xs.length++[.lst false (l.map Zc)]),.row 0 1 (xs.map AVal.str),.var [.ref 1 0]]=some (.tup [],[.var [.ref 1 0],.var (Zi Q 11 2 1 (xs.length+1)++[.lst false (r.map Zc)]),.row 1 1 ((xs++[s]).map AVal.str),.var [.ref 1 0]]):=by
 have:=ZEO Q h.len h.nor l (by omega) (xs.map AVal.str) (by simp;omega) (ZyW xs) ho
 rw [List.length_map] at this
 rw [List.map_append]
 exact this
theorem fF1 {k:Int} (Q:List AVal) (h:QOk k Q) (xs:List Zb) (l:Zb) (e:Int) (hl:l.length<=1099511627776) (ho:Zal l=.error e):∃ r:Zb,E 123 [.ref 0 0,.ref 3 0] [.var [.ref 1 0],.var (Zi Q 11 2 0 xs.length++[.lst false (l.map Zc)]),.row 0 1 (xs.map AVal.str),.var [.ref 1 0]]=some (.pan (Zy e),[.var [.ref 1 0],.var (Zi Q 11 2 0 xs.length++[.lst false (r.map Zc)]),.row 0 1 (xs.map AVal.str),.var [.ref 1 0]]):=by
 have:=ZM3 Q h.len h.nor l (by omega) (xs.map AVal.str) ho
 rw [List.length_map] at this
 exact ⟨l,this⟩
theorem cT0 {k:Int} (Q:List AVal) (h:QOk k Q) (l:Zb) (s:Int) (r:Zb) (hl:l.length<=1099511627776) (ho:Zat k l=.ok (s,r)):E 125 [.ref 0 0,.ref 2 0] [.var [.ref 1 0],.var (Q++[.lst false (l.map Zc)]),.var [.ref 1 0]]=some (.tup [],[.var [.ref 1 0],.var (Zi Q 8 3 0 1++[.lst false (r.map Zc)]),.var [.ref 1 0],.row 0 1 [AVal.int .i64 s]]) :=
 ZPc Q h.len h.nor l (by omega) h.c8 k h.ty ho
theorem cF0 {k:Int} (Q:List AVal) (h:QOk k Q) (l:Zb) (e:Int) (hl:l.length<=1099511627776) (ho:Zat k l=.error e):∃ r:Zb,E 125 [.ref 0 0,.ref 2 0] [.var [.ref 1 0],.var (Q++[.lst false (l.map Zc)]),.var [.ref 1 0]]=some (.pan (Zy e),[.var [.ref 1 0],.var (Q++[.lst false (r.map Zc)]),.var [.ref 1 0]]) :=
 ZBL Q h.len h.nor l (by omega) h.c8 k h.ty ho
theorem cT1 {k:Int} (Q:List AVal) (h:QOk k Q) (xs:List Int) (l:Zb) (s:Int) (r:Zb) (hl:l.length<=1099511627776) (hx:xs.length<=1099511627776) (ho:Zat k l=.ok (s,r)):E 125 [.ref 0 0,.ref 3 0] [.var [.ref 1 0],.var (Zi Q 8 2 0 xs.length++[.lst false (l.map Zc)]),.row 0 1 (xs.map (AVal.int .i64)),.var [.ref 1 0]]=some (.tup [],[.var [.ref 1 0],.var (Zi Q 8 2 1 (xs.length+1)++[.lst false (r.map Zc)]),.row 1 1 ((xs++[s]).map (AVal.int .i64)),.var [.ref 1 0]]):=by
 have:=ZDC Q h.len h.nor l (by omega) (xs.map (AVal.int .i64)) (by simp;omega) (ZEs xs) k h.ty ho
 rw [List.length_map] at this
 rw [List.map_append]
 exact this
theorem cF1 {k:Int} (Q:List AVal) (h:QOk k Q) (xs:List Int) (l:Zb) (e:Int) (hl:l.length<=1099511627776) (ho:Zat k l=.error e):∃ r:Zb,E 125 [.ref 0 0,.ref 3 0] [.var [.ref 1 0],.var (Zi Q 8 2 0 xs.length++[.lst false (l.map Zc)]),.row 0 1 (xs.map (AVal.int .i64)),.var [.ref 1 0]]=some (.pan (Zy e),[.var [.ref 1 0],.var (Zi Q 8 2 0 xs.length++[.lst false (r.map Zc)]),.row 0 1 (xs.map (AVal.int .i64)),.var [.ref 1 0]]):=by
 have:=Zwm Q h.len h.nor l (by omega) (xs.map (AVal.int .i64)) k h.ty ho
 rw [List.length_map] at this
 exact this
section
variable (P:List AVal) (l:Zb) (hl:l.length<=1099511627775)
include hl
theorem ZGf (hP:QOk 10 P) {n:Int} {ps:List Zp} {ts:List Zb} (h:Zbl Zal 10 l=.ok (n,ps,ts)) :
  E 77 [.ref 0 0] (Zg P l)=some (.tup [],Zcm (Zb9 P n ps) 11 ts.length [] 1 (ts.map AVal.str)):=by
 have hk:(11:Nat) < 26:=by omega
 have hE:=ZpN (g:=AVal.str) (kk:=11) (f:=123) (by omega) (by decide) (by kernel_rfl) Zly fT0 fF0 fT1 fF1 hP hl h
 have hQ:=Zd1 hP n ps
 obtain ⟨hL,hN,h0,-,-,-⟩:=hP
 unfold H3 at hE
 generalize Zb9 P n ps=Q at *
 have hC:=Zqf (O:=E) (bf:=BY) (fm:=121) (by kernel_rfl) (Zx P hL hN false (l.map Zc)) (ZbA Q hQ.len hQ.nor hk 3 0 ts.length []) (fun ρ h=>ZaO Q hQ.len hQ.nor hk 3 0 ts.length 3 0 [] ρ h) hE
 have a4:=fun L=>(Zaa P hL 0 (by omega) L).trans h0
 have hR:=Zb8 Q hQ.len hQ.nor 11 hk ts.length 3 0
 have b2:=Zaq _ hR
 have m1:=Zbe
 have z:=z0b
 have hO:=fun τ=>Zdg (j:=3) (w:=1) (xs:=ts.map AVal.str) (r:=.tup []) (σ:=.var (Zi Q 11 3 0 ts.length++[.lst false []])::.var [.ref 0 0]::.var [.ref 0 0]::.row 0 1 (ts.map AVal.str)::τ) rfl (by omega) rfl rfl (ZbA Q hQ.len hQ.nor hk 3 0 ts.length []) (fun ρ h=>ZaO Q hQ.len hQ.nor hk 3 0 ts.length 1 0 [] ρ h)
 unfold hB at hC
 simp only [List.map_nil] at hC
 unfold Zg Zcm
 clear hE h
 generalize Zi Q 11 3 0 ts.length=R at *
 generalize Zi Q 11 1 0 ts.length=R1 at *
 generalize ts.map AVal.str=ys at *
 rw [Zh (by rfl) Zbj]
 simp -implicitDefEqProofs only [EQA,ZC,Zu,Nat.reduceAdd,Nat.reduceLT,Nat.reduceLeDiff,Nat.reduceEqDiff,Nat.reduceBEq,↓reduceIte,Zd,Zbi,Zbb,ZeU,oI,oN,a4,b2,hC,m1,Int.reduceBEq,z]
 exact hO _
theorem ZAK (hP:QOk 10 P) {e:Int} (h:Zbl Zal 10 l=.error e):ZiQ 11 1 l P e:=by
 have hk:(11:Nat) < 26:=by omega
 have hF:=Zph (g:=AVal.str) (kk:=11) (f:=123) (by omega) (by decide) (by kernel_rfl) Zly fT0 fF0 fT1 fF1 hP hl h
 obtain ⟨hL,hN,h0,-,-,-⟩:=hP
 have a4:=fun L=>(Zaa P hL 0 (by omega) L).trans h0
 rcases hF with ⟨cs,hc,hE⟩ | ⟨Q,xs,r,hQ,hQN,hE⟩
 ·have hC:=Zof (O:=E) (bf:=BY) (fm:=121) (by kernel_rfl) (Zx P hL hN false (l.map Zc)) hc rfl hE
  refine Or.inl ⟨cs,hc,?_⟩
  unfold hB at hC
  unfold Zg
  clear hE h
  rw [Zh (by rfl) Zbj]
  simp -implicitDefEqProofs only [EQA,ZC,Nat.reduceAdd,Nat.reduceLT,Nat.reduceLeDiff,Nat.reduceEqDiff,Nat.reduceBEq,↓reduceIte,Zbi,Zbb,oI,oN,a4,hC,Int.reduceBEq]
  exact ZZ rfl hc
 ·unfold H3 at hE
  have hC:=Zpb (O:=E) (bf:=BY) (fm:=121) (by kernel_rfl) (Zx P hL hN false (l.map Zc)) (fun ρ h=>ZaO Q hQ hQN hk 3 0 xs.length 3 0 r ρ h) rfl hE
  have hO:=fun τ=>Zdg (j:=3) (w:=1) (xs:=xs.map AVal.str) (r:=.pan (Zy e)) (σ:=.var (Zi Q 11 3 0 xs.length++[.lst false (r.map Zc)])::.var [.ref 0 0]::.var [.ref 0 0]::.row 0 1 (xs.map AVal.str)::τ) rfl (by omega) rfl rfl (ZbA Q hQ hQN hk 3 0 xs.length r) (fun ρ h=>ZaO Q hQ hQN hk 3 0 xs.length 1 0 r ρ h)
  refine Or.inr ⟨Q,xs.length,r,xs.map AVal.str,hQ,hQN,?_⟩
  unfold hB at hC
  unfold Zg Zcm
  clear hE h
  generalize Zi Q 11 3 0 xs.length=R at *
  generalize Zi Q 11 1 0 xs.length=R1 at *
  generalize xs.map AVal.str=ys at *
  generalize Zy e=ce at *
  rw [Zh (by rfl) Zbj]
  simp -implicitDefEqProofs only [EQA,ZC,Nat.reduceAdd,Nat.reduceLT,Nat.reduceLeDiff,Nat.reduceEqDiff,Nat.reduceBEq,↓reduceIte,Zbi,Zbb,oI,oN,a4,hC,Int.reduceBEq]
  exact hO _
theorem ZK4 (hP:QOk 9 P) {n:Int} {ps:List Zp} {ts:List Int} (h:Zbl (Zat 9) 9 l=.ok (n,ps,ts)) :
  E 77 [.ref 0 0] (Zg P l)=some (.tup [],Zcm (Zb9 P n ps) 8 ts.length [] 1 (ts.map (AVal.int .i64))):=by
 have hk:(8:Nat) < 26:=by omega
 have hE:=ZpN (g:=(AVal.int .i64)) (kk:=8) (f:=125) (by omega) (by decide) (by kernel_rfl) ZiP cT0 cF0 cT1 cF1 hP hl h
 have hQ:=Zd1 hP n ps
 obtain ⟨hL,hN,h0,-,-,-⟩:=hP
 unfold H3 at hE
 generalize Zb9 P n ps=Q at *
 have hC:=Zqf (O:=E) (bf:=BY) (fm:=121) (by kernel_rfl) (Zx P hL hN false (l.map Zc)) (ZbA Q hQ.len hQ.nor hk 3 0 ts.length []) (fun ρ h=>ZaO Q hQ.len hQ.nor hk 3 0 ts.length 3 0 [] ρ h) hE
 have a4:=fun L=>(Zaa P hL 0 (by omega) L).trans h0
 have hR:=Zb8 Q hQ.len hQ.nor 8 hk ts.length 3 0
 have b2:=Zaq _ hR
 have m1:=Zbe
 have z:=z0b
 have hO:=fun τ=>Zdg (j:=3) (w:=1) (xs:=ts.map (AVal.int .i64)) (r:=.tup []) (σ:=.var (Zi Q 8 3 0 ts.length++[.lst false []])::.var [.ref 0 0]::.var [.ref 0 0]::.row 0 1 (ts.map (AVal.int .i64))::τ) rfl (by omega) rfl rfl (ZbA Q hQ.len hQ.nor hk 3 0 ts.length []) (fun ρ h=>ZaO Q hQ.len hQ.nor hk 3 0 ts.length 1 0 [] ρ h)
 unfold hB at hC
 simp only [List.map_nil] at hC
 unfold Zg Zcm
 clear hE h
 generalize Zi Q 8 3 0 ts.length=R at *
 generalize Zi Q 8 1 0 ts.length=R1 at *
 generalize ts.map (AVal.int .i64)=ys at *
 rw [Zh (by rfl) Zbj]
 simp -implicitDefEqProofs only [EQA,ZC,Zu,Nat.reduceAdd,Nat.reduceLT,Nat.reduceLeDiff,Nat.reduceEqDiff,Nat.reduceBEq,↓reduceIte,Zd,Zbi,Zbb,ZeU,oI,oN,a4,b2,hC,m1,Int.reduceBEq,z]
 exact hO _
theorem ZLL (hP:QOk 9 P) {e:Int} (h:Zbl (Zat 9) 9 l=.error e):ZiQ 8 1 l P e:=by
 have hk:(8:Nat) < 26:=by omega
 have hF:=Zph (g:=(AVal.int .i64)) (kk:=8) (f:=125) (by omega) (by decide) (by kernel_rfl) ZiP cT0 cF0 cT1 cF1 hP hl h
 obtain ⟨hL,hN,h0,-,-,-⟩:=hP
 have a4:=fun L=>(Zaa P hL 0 (by omega) L).trans h0
 rcases hF with ⟨cs,hc,hE⟩ | ⟨Q,xs,r,hQ,hQN,hE⟩
 ·have hC:=Zof (O:=E) (bf:=BY) (fm:=121) (by kernel_rfl) (Zx P hL hN false (l.map Zc)) hc rfl hE
  refine Or.inl ⟨cs,hc,?_⟩
  unfold hB at hC
  unfold Zg
  clear hE h
  rw [Zh (by rfl) Zbj]
  simp -implicitDefEqProofs only [EQA,ZC,Nat.reduceAdd,Nat.reduceLT,Nat.reduceLeDiff,Nat.reduceEqDiff,Nat.reduceBEq,↓reduceIte,Zbi,Zbb,oI,oN,a4,hC,Int.reduceBEq]
  exact ZZ rfl hc
 ·unfold H3 at hE
  have hC:=Zpb (O:=E) (bf:=BY) (fm:=121) (by kernel_rfl) (Zx P hL hN false (l.map Zc)) (fun ρ h=>ZaO Q hQ hQN hk 3 0 xs.length 3 0 r ρ h) rfl hE
  have hO:=fun τ=>Zdg (j:=3) (w:=1) (xs:=xs.map (AVal.int .i64)) (r:=.pan (Zy e)) (σ:=.var (Zi Q 8 3 0 xs.length++[.lst false (r.map Zc)])::.var [.ref 0 0]::.var [.ref 0 0]::.row 0 1 (xs.map (AVal.int .i64))::τ) rfl (by omega) rfl rfl (ZbA Q hQ hQN hk 3 0 xs.length r) (fun ρ h=>ZaO Q hQ hQN hk 3 0 xs.length 1 0 r ρ h)
  refine Or.inr ⟨Q,xs.length,r,xs.map (AVal.int .i64),hQ,hQN,?_⟩
  unfold hB at hC
  unfold Zg Zcm
  clear hE h
  generalize Zi Q 8 3 0 xs.length=R at *
  generalize Zi Q 8 1 0 xs.length=R1 at *
  generalize xs.map (AVal.int .i64)=ys at *
  generalize Zy e=ce at *
  rw [Zh (by rfl) Zbj]
  simp -implicitDefEqProofs only [EQA,ZC,Nat.reduceAdd,Nat.reduceLT,Nat.reduceLeDiff,Nat.reduceEqDiff,Nat.reduceBEq,↓reduceIte,Zbi,Zbb,oI,oN,a4,hC,Int.reduceBEq]
  exact hO _
theorem ZLq (hP:QOk 11 P) {n:Int} {ps:List Zp} {ts:List Int} (h:Zbl (Zat 11) 11 l=.ok (n,ps,ts)) :
  E 77 [.ref 0 0] (Zg P l)=some (.tup [],Zcm (Zb9 P n ps) 8 ts.length [] 1 (ts.map (AVal.int .i64))):=by
 have hk:(8:Nat) < 26:=by omega
 have hE:=ZpN (g:=(AVal.int .i64)) (kk:=8) (f:=125) (by omega) (by decide) (by kernel_rfl) ZiP cT0 cF0 cT1 cF1 hP hl h
 have hQ:=Zd1 hP n ps
 obtain ⟨hL,hN,h0,-,-,-⟩:=hP
 unfold H3 at hE
 generalize Zb9 P n ps=Q at *
 have hC:=Zqf (O:=E) (bf:=BY) (fm:=121) (by kernel_rfl) (Zx P hL hN false (l.map Zc)) (ZbA Q hQ.len hQ.nor hk 3 0 ts.length []) (fun ρ h=>ZaO Q hQ.len hQ.nor hk 3 0 ts.length 3 0 [] ρ h) hE
 have a4:=fun L=>(Zaa P hL 0 (by omega) L).trans h0
 have hR:=Zb8 Q hQ.len hQ.nor 8 hk ts.length 3 0
 have b2:=Zaq _ hR
 have m1:=Zbe
 have z:=z0b
 have hO:=fun τ=>Zdg (j:=3) (w:=1) (xs:=ts.map (AVal.int .i64)) (r:=.tup []) (σ:=.var (Zi Q 8 3 0 ts.length++[.lst false []])::.var [.ref 0 0]::.var [.ref 0 0]::.row 0 1 (ts.map (AVal.int .i64))::τ) rfl (by omega) rfl rfl (ZbA Q hQ.len hQ.nor hk 3 0 ts.length []) (fun ρ h=>ZaO Q hQ.len hQ.nor hk 3 0 ts.length 1 0 [] ρ h)
 unfold hB at hC
 simp only [List.map_nil] at hC
 unfold Zg Zcm
 clear hE h
 generalize Zi Q 8 3 0 ts.length=R at *
 generalize Zi Q 8 1 0 ts.length=R1 at *
 generalize ts.map (AVal.int .i64)=ys at *
 rw [Zh (by rfl) Zbj]
 simp -implicitDefEqProofs only [EQA,ZC,Zu,Nat.reduceAdd,Nat.reduceLT,Nat.reduceLeDiff,Nat.reduceEqDiff,Nat.reduceBEq,↓reduceIte,Zd,Zbi,Zbb,ZeU,oI,oN,a4,b2,hC,m1,Int.reduceBEq,z]
 exact hO _
theorem ZAB (hP:QOk 11 P) {e:Int} (h:Zbl (Zat 11) 11 l=.error e):ZiQ 8 1 l P e:=by
 have hk:(8:Nat) < 26:=by omega
 have hF:=Zph (g:=(AVal.int .i64)) (kk:=8) (f:=125) (by omega) (by decide) (by kernel_rfl) ZiP cT0 cF0 cT1 cF1 hP hl h
 obtain ⟨hL,hN,h0,-,-,-⟩:=hP
 have a4:=fun L=>(Zaa P hL 0 (by omega) L).trans h0
 rcases hF with ⟨cs,hc,hE⟩ | ⟨Q,xs,r,hQ,hQN,hE⟩
 ·have hC:=Zof (O:=E) (bf:=BY) (fm:=121) (by kernel_rfl) (Zx P hL hN false (l.map Zc)) hc rfl hE
  refine Or.inl ⟨cs,hc,?_⟩
  unfold hB at hC
  unfold Zg
  clear hE h
  rw [Zh (by rfl) Zbj]
  simp -implicitDefEqProofs only [EQA,ZC,Nat.reduceAdd,Nat.reduceLT,Nat.reduceLeDiff,Nat.reduceEqDiff,Nat.reduceBEq,↓reduceIte,Zbi,Zbb,oI,oN,a4,hC,Int.reduceBEq]
  exact ZZ rfl hc
 ·unfold H3 at hE
  have hC:=Zpb (O:=E) (bf:=BY) (fm:=121) (by kernel_rfl) (Zx P hL hN false (l.map Zc)) (fun ρ h=>ZaO Q hQ hQN hk 3 0 xs.length 3 0 r ρ h) rfl hE
  have hO:=fun τ=>Zdg (j:=3) (w:=1) (xs:=xs.map (AVal.int .i64)) (r:=.pan (Zy e)) (σ:=.var (Zi Q 8 3 0 xs.length++[.lst false (r.map Zc)])::.var [.ref 0 0]::.var [.ref 0 0]::.row 0 1 (xs.map (AVal.int .i64))::τ) rfl (by omega) rfl rfl (ZbA Q hQ hQN hk 3 0 xs.length r) (fun ρ h=>ZaO Q hQ hQN hk 3 0 xs.length 1 0 r ρ h)
  refine Or.inr ⟨Q,xs.length,r,xs.map (AVal.int .i64),hQ,hQN,?_⟩
  unfold hB at hC
  unfold Zg Zcm
  clear hE h
  generalize Zi Q 8 3 0 xs.length=R at *
  generalize Zi Q 8 1 0 xs.length=R1 at *
  generalize xs.map (AVal.int .i64)=ys at *
  generalize Zy e=ce at *
  rw [Zh (by rfl) Zbj]
  simp -implicitDefEqProofs only [EQA,ZC,Nat.reduceAdd,Nat.reduceLT,Nat.reduceLeDiff,Nat.reduceEqDiff,Nat.reduceBEq,↓reduceIte,Zbi,Zbb,oI,oN,a4,hC,Int.reduceBEq]
  exact hO _
theorem Zzp (hP:QOk 8 P) {n:Int} {ps:List Zp} {ts:List Zbq} (h:Zbl Zbf 8 l=.ok (n,ps,ts)) :
  E 77 [.ref 0 0] (Zg P l)=some (.tup [],Zcm (Zb9 P n ps) 10 ts.length [] 6 (ts.map ZW)):=by
 have hk:(10:Nat) < 26:=by omega
 have hE:=ZI3 hP hl h
 have hQ:=Zd1 hP n ps
 obtain ⟨hL,hN,h0,-,-,-⟩:=hP
 unfold H1 at hE
 generalize Zb9 P n ps=Q at *
 have hC:=Zze (O:=E) (bf:=BY) (fm:=121) (by kernel_rfl) (Zx P hL hN false (l.map Zc)) (ZbA Q hQ.len hQ.nor hk 1 0 ts.length []) (fun ρ h=>ZaO Q hQ.len hQ.nor hk 1 0 ts.length 1 0 [] ρ h) (fun ρ h=>ZaO Q hQ.len hQ.nor hk 1 0 ts.length 3 0 [] ρ h) hE
 have a4:=fun L=>(Zaa P hL 0 (by omega) L).trans h0
 have hR:=Zb8 Q hQ.len hQ.nor 10 hk ts.length 3 0
 have b2:=Zaq _ hR
 have m1:=Zbe
 have z:=z0b
 have hO:=fun τ=>Zdg (j:=3) (w:=6) (xs:=ts.map ZW) (r:=.tup []) (σ:=.var (Zi Q 10 3 0 ts.length++[.lst false []])::.var [.ref 0 0]::.var [.ref 0 0]::.row 0 6 (ts.map ZW)::τ) rfl (by omega) rfl rfl (ZbA Q hQ.len hQ.nor hk 3 0 ts.length []) (fun ρ h=>ZaO Q hQ.len hQ.nor hk 3 0 ts.length 1 0 [] ρ h)
 unfold hB at hC
 simp only [List.map_nil] at hC
 unfold Zg Zcm
 clear hE h
 generalize Zi Q 10 3 0 ts.length=R at *
 generalize Zi Q 10 1 0 ts.length=R1 at *
 generalize ts.map ZW=ys at *
 rw [Zh (by rfl) Zbj]
 simp -implicitDefEqProofs only [EQA,ZC,Zu,Nat.reduceAdd,Nat.reduceLT,Nat.reduceLeDiff,Nat.reduceEqDiff,Nat.reduceBEq,↓reduceIte,Zd,Zbi,Zbb,ZeU,oI,oN,a4,b2,hC,m1,Int.reduceBEq,z]
 exact hO _
theorem ZEl (hP:QOk 8 P) {e:Int} (h:Zbl Zbf 8 l=.error e):ZiQ 10 6 l P e:=by
 have hk:(10:Nat) < 26:=by omega
 have hF:=ZMq hP hl h
 obtain ⟨hL,hN,h0,-,-,-⟩:=hP
 have a4:=fun L=>(Zaa P hL 0 (by omega) L).trans h0
 rcases hF with ⟨cs,hc,hE⟩ | ⟨Q,xs,r,hQ,hQN,hE⟩
 ·have hC:=ZHb (O:=E) (bf:=BY) (fm:=121) (by kernel_rfl) (Zx P hL hN false (l.map Zc)) hc rfl hE
  refine Or.inl ⟨cs,hc,?_⟩
  unfold hB at hC
  unfold Zg
  clear hE h
  rw [Zh (by rfl) Zbj]
  simp -implicitDefEqProofs only [EQA,ZC,Nat.reduceAdd,Nat.reduceLT,Nat.reduceLeDiff,Nat.reduceEqDiff,Nat.reduceBEq,↓reduceIte,Zbi,Zbb,oI,oN,a4,hC,Int.reduceBEq]
  exact ZZ rfl hc
 ·unfold H1 at hE
  have hC:=Zzz (O:=E) (bf:=BY) (fm:=121) (by kernel_rfl) (Zx P hL hN false (l.map Zc)) (fun ρ h=>ZaO Q hQ hQN hk 1 0 xs.length 3 0 r ρ h) rfl hE
  have hO:=fun τ=>Zdg (j:=3) (w:=6) (xs:=xs.map ZW) (r:=.pan (Zy e)) (σ:=.var (Zi Q 10 3 0 xs.length++[.lst false (r.map Zc)])::.var [.ref 0 0]::.var [.ref 0 0]::.row 0 6 (xs.map ZW)::τ) rfl (by omega) rfl rfl (ZbA Q hQ hQN hk 3 0 xs.length r) (fun ρ h=>ZaO Q hQ hQN hk 3 0 xs.length 1 0 r ρ h)
  refine Or.inr ⟨Q,xs.length,r,xs.map ZW,hQ,hQN,?_⟩
  unfold hB at hC
  unfold Zg Zcm
  clear hE h
  generalize Zi Q 10 3 0 xs.length=R at *
  generalize Zi Q 10 1 0 xs.length=R1 at *
  generalize xs.map ZW=ys at *
  generalize Zy e=ce at *
  rw [Zh (by rfl) Zbj]
  simp -implicitDefEqProofs only [EQA,ZC,Nat.reduceAdd,Nat.reduceLT,Nat.reduceLeDiff,Nat.reduceEqDiff,Nat.reduceBEq,↓reduceIte,Zbi,Zbb,oI,oN,a4,hC,Int.reduceBEq]
  exact hO _
end
end
section
section
variable {O:ZR} {bf:Nat->Bool} {σ:Za} {t f sq w:Nat} {rest:List AVal} {cs cs2 cs3 ys:List AVal}
theorem ZwC (hb:bf f=false) (hp:rest.all Zac=true) (hc:Zd cs=true) (hrf:Zt cs2=[1]) (hren:∀ ρ:Rho,ρ 1 0=some (1,0)->Zf ρ cs2=cs2) (hback:∀ ρ:Rho,ρ 1 0=some (sq,0)->Zf ρ cs2=cs3)
  (h:O f (.ref 0 0::rest.map ZH) [.var cs]=some (.tup [],[.var cs2,.row 0 w ys])) (hs:σ[t]?=some (.var cs)) (hff:Za4 σ sq 1=true):Zj O bf σ sq f 1 true (.ref t 0::rest)=some (.tup [],(σ.set t (.var cs3)).set sq (.row 0 w ys),{ any:=true,upd:=[(t,cs3)] }):=by
 have hfs:σ[sq]?=some .free:=Zgx (i:=0) hff (by omega)
 have hts:t≠sq:=by rintro rfl;rw [hs] at hfs;cases hfs
 have htl:t < σ.length:=(List.getElem?_eq_some_iff.1 hs).1
 have hd:σ.getD t .free=.var cs:=by simp [List.getD_eq_getElem?_getD,hs]
 have hsh:showAs σ (.ref t 0::rest)=some (.ref t 0::rest.map ZH,[]):=by
  rw [showAs,show showA σ (.ref t 0)=some (.ref t 0,[]) from rfl,Zeb hp]
  rfl
 have href:Zt (.ref t 0::rest.map ZH)=[t]:=by
  rw [Zt,Zdp hp];rfl
 have hρ:Zo σ 0 [t] t 0=some (0,0):=by simp [Zo,Z1,hs,Zq,ZU]
 have hask:Zaf true [t].length (some (.tup [],[.var cs2,.row 0 w ys]))=some (.tup [],[.var cs2,.row 0 w ys]):=Zdg (j:=1) (σ:=[.var cs2,.row 0 w ys]) (r:=.tup []) rfl (by omega) rfl rfl hrf hren
 refine Zdb (ids:=[t]) hb hsh (by rw [href];exact Zfn hs hc) rfl (by simp [hs,okB]) ?_ ?_ h hask (by simp) (by simp) ?_ hff rfl ?_ ?_
 ·rw [Zf,Zdk hp]
  simp only [Zm,hρ]
 ·simp only [Zw,hd,ZG,(ZaP _ cs hc).1]
 ·simp [Za1,okB,hs,Zck,Zq]
 ·have hb3:Zf (ZaD σ [t] sq) cs2=cs3:=hback _ (by simp [ZaD])
  simp only [Za8,ZaJ,List.getD_cons_zero,Zcr,Zq,ZG,hb3]
  simp []
 ·have e1:((σ.set t (.var cs3)).set sq (.row 0 w ys))[t]?=some (.var cs3):=by
   rw [List.getElem?_set_ne (fun e=>hts e.symm),List.getElem?_set_self htl]
  simp only [Zbd,e1]
theorem ZGT {x:AVal} {view:Bool} (hb:bf f=false) (hp:rest.all Zac=true) (hc:Zd cs=true) (hback:∀ ρ:Rho,ρ 1 0=some (sq,0)->Zf ρ cs2=cs3) (hx:ZJ x=true)
  (h:O f (.ref 0 0::rest.map ZH) [.var cs]=some (.pan x,[.var cs2,.row 0 w ys])) (hs:σ[t]?=some (.var cs)) (hff:Za4 σ sq 1=true):Zj O bf σ sq f 1 view (.ref t 0::rest)=some (.pan x,(σ.set t (.var cs3)).set sq (.row 0 w ys),{ any:=true,upd:=[(t,cs3)] }):=by
 have hfs:σ[sq]?=some .free:=Zgx (i:=0) hff (by omega)
 have hts:t≠sq:=by rintro rfl;rw [hs] at hfs;cases hfs
 have htl:t < σ.length:=(List.getElem?_eq_some_iff.1 hs).1
 have hd:σ.getD t .free=.var cs:=by simp [List.getD_eq_getElem?_getD,hs]
 have hnp:ZJ (.pan x)=true:=by simpa only [ZJ] using hx
 have hsh:showAs σ (.ref t 0::rest)=some (.ref t 0::rest.map ZH,[]):=by
  rw [showAs,show showA σ (.ref t 0)=some (.ref t 0,[]) from rfl,Zeb hp]
  rfl
 have href:Zt (.ref t 0::rest.map ZH)=[t]:=by
  rw [Zt,Zdp hp];rfl
 have hρ:Zo σ 0 [t] t 0=some (0,0):=by simp [Zo,Z1,hs,Zq,ZU]
 have hask:Zaf view [t].length (some (.pan x,[.var cs2,.row 0 w ys]))=some (.pan x,[.var cs2,.row 0 w ys]):=by
  unfold Zaf
  split <;> rfl
 refine Zdb (ids:=[t]) hb hsh (by rw [href];exact Zfn hs hc) rfl (by simp [hs,okB]) ?_ ?_ h hask (by simp) (by simp) ?_ hff (Za5 _ _ hnp).1 ?_ ?_
 ·rw [Zf,Zdk hp]
  simp only [Zm,hρ]
 ·simp only [Zw,hd,ZG,(ZaP _ cs hc).1]
 ·simp [Za1,okB,hs,Zck,Zq]
 ·have hb3:Zf (ZaD σ [t] sq) cs2=cs3:=hback _ (by simp [ZaD])
  simp only [Za8,ZaJ,List.getD_cons_zero,Zcr,Zq,ZG,hb3]
  simp []
 ·have e1:((σ.set t (.var cs3)).set sq (.row 0 w ys))[t]?=some (.var cs3):=by
   rw [List.getElem?_set_ne (fun e=>hts e.symm),List.getElem?_set_self htl]
  simp only [Zbd,e1]
end
section
variable (b:Int) (l:Zb) {P1 Q:List AVal} {kk n w:Nat} {ys:List AVal} (h1:P1.length=26) (n1:Zd P1=true) (hQ:Q.length=26) (nQ:Zd Q=true) (hk:kk < 26)
include h1 n1 hQ nQ hk
theorem ZIo (oQ:∀ r g m,(Zi Q kk r g m).all ZV=true)
  (hf:E 76 [.ref 0 0,.int .u8 b] (Zg P0 l)=some (.tup [],Zg P1 l)) (hb:E 77 [.ref 0 0] (Zg P1 l)=some (.tup [],Zcm Q kk n [] w ys)) :
  evC FC PR BY 3 c2R (tput tmR (some 5) .top) (σR b l)=some (.ret,[(3,.ref 2 0),(2,.ref 1 0)],[.var [.int .u8 b,.lst false (l.map Zc)],.var (Zi Q kk 4 0 n),.var [.int .i64 0],.var (Zi Q kk 4 0 n++[.lst false []]),.row 0 w ys]):=by
 have hF:=fun (σ:Za) sq (hs:σ[3]?=some (.var (P0++[.lst false (l.map Zc)])))=>Zc7 (O:=E) (bf:=BY) (f:=76) (rest:=[.int .u8 b]) (by kernel_rfl) rfl (by rfl) (ZaC n1 (by rfl)) rfl rfl hf hs sq
 have hB:=fun (σ:Za) (hs:σ[3]?=some (.var (P1++[.lst false (l.map Zc)]))) (hfr:σ[4]?=some .free)=>ZwC (O:=E) (bf:=BY) (f:=77) (sq:=4) (rest:=[]) (by kernel_rfl) rfl (ZaC n1 (by rfl)) (ZbA Q hQ nQ hk 1 0 n []) (fun ρ h=>ZaO Q hQ nQ hk 1 0 n 1 0 [] ρ h) (fun ρ h=>ZaO Q hQ nQ hk 1 0 n 4 0 [] ρ h) hb hs (by simp [Za4,freeAt,hfr])
 have hR:=Zb8 Q hQ nQ kk hk n 4 0
 have b1:=Z7 _ hR
 have b2:=ZeO _ hR
 have o2:=oQ 4 0 n
 simp only [List.map_nil] at hB
 unfold P0 at hF
 simp only [List.cons_append,List.nil_append] at hF
 unfold tmR σR P0
 clear hf hb
 generalize Zi Q kk 4 0 n=R at *
 simp -implicitDefEqProofs only [EQA,Zbh,Nat.reduceAdd,Nat.reduceLT,Nat.reduceLeDiff,Nat.reduceEqDiff,Nat.reduceBEq,↓reduceIte,c2R,AVal.cells,Zao,hF,hB,b1,b2,hR,o2]
theorem ZF6 {c:Int} (hf:E 76 [.ref 0 0,.int .u8 b] (Zg P0 l)=some (.tup [],Zg P1 l)) {r:Zb} (hb:E 77 [.ref 0 0] (Zg P1 l)=some (.pan (Zy c),Zcm Q kk n r w ys)) :
  evC FC PR BY 3 c2R (tput tmR (some 5) .top) (σR b l)=some (.panic (Zy c),[],[.var [.int .u8 b,.lst false (l.map Zc)],.var P0,.var [.int .i64 0],.var (Zi Q kk 4 0 n++[.lst false (r.map Zc)]),.row 0 w ys]):=by
 have hF:=fun (σ:Za) sq (hs:σ[3]?=some (.var (P0++[.lst false (l.map Zc)])))=>Zc7 (O:=E) (bf:=BY) (f:=76) (rest:=[.int .u8 b]) (by kernel_rfl) rfl (by rfl) (ZaC n1 (by rfl)) rfl rfl hf hs sq
 have hB:=fun (σ:Za) (hs:σ[3]?=some (.var (P1++[.lst false (l.map Zc)]))) (hff:Za4 σ 4 1=true)=>ZGT (O:=E) (bf:=BY) (f:=77) (view:=true) (sq:=4) (rest:=[]) (by kernel_rfl) rfl (ZaC n1 (by rfl)) (fun ρ h=>ZaO Q hQ nQ hk 1 0 n 4 0 r ρ h) rfl hb hs hff
 unfold P0 at hF
 simp only [List.cons_append,List.nil_append] at hF
 unfold tmR σR P0
 clear hf hb
 generalize Zi Q kk 4 0 n=R at *
 simp -implicitDefEqProofs only [EQA,Zbh,Nat.reduceAdd,Nat.reduceLT,Nat.reduceLeDiff,Nat.reduceEqDiff,Nat.reduceBEq,↓reduceIte,c2R,AVal.cells,Zao,hF,hB,Za4]
omit h1 n1
theorem ZAy (c:Int):Zfr 0 1 2 rsR (.var [.int .u8 b,.lst false (l.map Zc)]::.var (Zi Q kk 4 0 n)::.var [.int .i64 c]::.var (Zi Q kk 4 0 n++[.lst false []])::.row 0 w ys::[])=some (.tup [.agg (Zi Q kk 0 0 n),.int .i64 c],[.row 0 w ys]):=by
 have hR:=Zb8 Q hQ nQ kk hk n 4 0
 have hRf:=Zcp Q hQ nQ kk hk n 4 0
 have hre:=fun ρ h=>ZbK Q hQ nQ kk hk n (r:=4) (g:=0) (r':=0) (g':=0) ρ h
 generalize Zi Q kk 4 0 n=R at *
 have h1:resA [(3,.ref 2 0),(2,.ref 1 0)] (.var [.int .u8 b,.lst false (l.map Zc)]::.var R::.var [.int .i64 c]::.var (R++[.lst false []])::.row 0 w ys::[]) rsR=some (.tup [.agg R,.int .i64 c]):=by
  have h2:R.take 26=R:=List.take_of_length_le (by omega)
  simp [resA,resAll,resOne,rsR,tget,ldA,partA,hR,h2]
 unfold Zfr
 rw [h1]
 have hr:Zt [AVal.tup [.agg R,.int .i64 c]]=[4]:=by simp [Zt,Z2,hRf]
 have hi:ZB 0 [AVal.tup [.agg R,.int .i64 c]] (.var [.int .u8 b,.lst false (l.map Zc)]::.var R::.var [.int .i64 c]::.var (R++[.lst false []])::.row 0 w ys::[])=[4]:=by
  simp only [ZB,hr,List.range_zero,List.flatMap_nil,List.append_nil]
  rfl
 have hρ:Zo (.var [.int .u8 b,.lst false (l.map Zc)]::.var R::.var [.int .i64 c]::.var (R++[.lst false []])::.row 0 w ys::[]) 0 [4] 4 0=some (0,0):=rfl
 simp only [Zak,gcA,hi,Zf,Zm,hre _ hρ,Zw,List.getD_cons_zero,List.getD_cons_succ,ZU,Zq,ZG]
 simp
end
theorem ZIy (b:Int) (l:Zb) {P1 Q:List AVal} {kk n w:Nat} {ys:List AVal} (h1:P1.length=26) (n1:Zd P1=true) (hQ:Q.length=26) (nQ:Zd Q=true) (hk:kk < 26) (oQ:∀ r g m,(Zi Q kk r g m).all ZV=true)
  (hf:E 76 [.ref 0 0,.int .u8 b] (Zg P0 l)=some (.tup [],Zg P1 l)) (hb:E 77 [.ref 0 0] (Zg P1 l)=some (.tup [],Zcm Q kk n [] w ys)) :
  Zez [.agg [.int .u8 b,.lst false (l.map Zc)]] []=some (.tup [.agg (Zi Q kk 0 0 n),.int .i64 0],[.row 0 w ys]):=by
 unfold Zez Zh0
 show (match evC FC PR BY 0 c1R (enterA 0 [.agg [.int .u8 b,.lst false (l.map Zc)]] []) [] with | some (.normal,tm1,σ1)=>_ | _=>none)=_
 rw [ZoH]
 show (if (0:Nat)<=(σR b l).length/\1 < (σR b l).length/\2 < (σR b l).length then Zgl FC PR BY 61 c2R c3R rsR 0 (tput tmR (some 5) .top) (σR b l) 1 2 else none)=_
 rw [if_pos (by simp [σR])]
 unfold Zgl
 rw [show (σR b l).length=3 from rfl,ZIo b l h1 n1 hQ nQ hk oQ hf hb]
 exact ZAy b l hQ nQ hk 0
theorem ZBZ {b c:Int} {l:Zb} {Q:List AVal} {q:Zl} {w:Nat} {ys:List AVal} (h:E1 32 [.agg [.int .u8 b,.lst false (l.map Zc)]] []=some (.tup [.agg Q,.int .i64 c],[.row 0 w ys])) (hv:∀ σ:Za,σ[0]?=some (.row 0 w ys)->ZaL σ Q=some (Zv q,[0])) :
  Zaf true 0 (E1 32 [.agg [.int .u8 b,.lst false (l.map Zc)]] [])=some (.tup [Z4 q,.int .i64 c],[]):=by
 rw [h]
 show ZbJ 0 (some (.tup [.agg Q,.int .i64 c],[.row 0 w ys]))=some (.tup [Z4 q,.int .i64 c],[])
 have h1:viewR [.row 0 w ys] (.tup [.agg Q,.int .i64 c])=some (.tup [Z4 q,.int .i64 c],[0]):=by
  rw [viewR,viewAs,ZS,hv _ rfl]
  rfl
 unfold ZbJ
 simp only [h1]
 have e1:=Zu0 q
 have e2:=Zk2 q
 have hi:ZB 0 [AVal.tup [Z4 q,.int .i64 c]] (Zs [.row 0 w ys] [0])=[]:=by
  have : Zt [AVal.tup [Z4 q,.int .i64 c]]=[]:=by simp [Zt,Z2,Zbt,e1]
  simp only [ZB,this,List.nil_append,List.range_zero,List.flatMap_nil]
  rfl
 simp only [gcA,hi,Zf,Zm,Zw]
 rw [Zbt,Zm,e2]
end
end Go.Proofs.YtmlkhhidifjjfaaDoor
