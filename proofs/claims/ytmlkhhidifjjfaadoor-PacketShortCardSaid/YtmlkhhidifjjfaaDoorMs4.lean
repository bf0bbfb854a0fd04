/- packed -/
import Derived.Test.YtmlkhhidifjjfaaDoorMs3
import Derived.Test.YtmlkhhidifjjfaaDoorMs2
import Derived.Defers
import Derived.Recover
import Derived.Tactics
import Derived.Test.YtmlkhhidifjjfaaDoorProg
import Derived.Shelf.Unicode.ValidAny
import Derived.Lib.TrimAscii
set_option linter.defProp false
set_option linter.unusedSectionVars false
set_option linter.unusedSimpArgs false
set_option linter.unusedVariables false
namespace Go.Proofs.YtmlkhhidifjjfaaDoor
set_option maxHeartbeats 8000000
set_option maxRecDepth 10000
section
variable (P:List AVal) (hP:P.length=26) (hF:Zr P=[1]) (hS:∀ ρ:Rho,ρ 1 0=some (1,0)→Zf ρ P=P) (w:Nat) (xs:List AVal)
include hP hF hS
theorem Zgi {r:AVal} (hr:ZI r=true) (f:Bool) (ys:List AVal):Zak 2 [.var (P++[.lst f ys]),.row 0 w xs] r=some (r,[.var (P++[.lst f ys]),.row 0 w xs]) :=
 Zo6 hr (by rw [Zct,hF];rfl) (by omega) (fun ρ h=>by rw [ZbQ,hS ρ h];rfl)
theorem ZJP (l:Zb) (n:Nat) (hn:n≤l.length) (hl:l.length≤140737488355328):E 115 [.ref 0 0,.int .i64 (n:Nat)] [.var (P++[.lst false (l.map Zc)]),.row 0 w xs]=some (.int .i64 (ZiR (l.take n)),[.var (P++[.lst false ((l.drop n).map Zc)]),.row 0 w xs]):=by
 have h1:(l.length:Int)≥((n:Nat):Int):=by omega
 have s1:=fun σ kk=>Zgu σ 1 l Zc kk (n:Int) (by omega) (by omega)
 have s2:=fun σ kk=>Ze1 σ l kk (n:Int) (by omega) (by omega)
 have e2:((n:Int)).toNat=n:=rfl
 rw [e2] at s1 s2
 have ht:(l.take n).length≤9223372036854775807:=by simp;omega
 have hG:=fun σ site own f=>Zkk σ site own (l.take n) ht f
 have a1:=Z3 P hP
 have a2:=Zap P hP
 have a3:=Zes P hP
 have a4:=ZfP P hP
 have m1:=Za7
 rw [Zh (by rfl) ZlX]
 simp -implicitDefEqProofs only [EQA,ZC,Nat.reduceAdd,Nat.reduceLT,Nat.reduceLeDiff,Nat.reduceEqDiff,reduceCtorEq,decide_true,↓reduceIte,ZkY,Zhh,ZqP,oI,oN,h1,s1,s2,hG,a1,a2,a3,a4,m1,ZiR]
 exact Zgi P hP hF hS w xs rfl _ _
theorem ZHQ (l:Zb) (n:Nat) (hn:l.length < n) (hn':n≤9223372036854775807):E 115 [.ref 0 0,.int .i64 (n:Nat)] [.var (P++[.lst false (l.map Zc)]),.row 0 w xs]=some (.pan (Zy 129),[.var (P++[.lst false (l.map Zc)]),.row 0 w xs]):=by
 have h1:¬(l.length:Int)≥((n:Nat):Int):=by omega
 have a2:=Zap P hP
 have m1:=Zbx
 rw [Zh (by rfl) ZlX]
 simp -implicitDefEqProofs only [EQA,Nat.reduceAdd,Nat.reduceLT,Nat.reduceEqDiff,reduceCtorEq,decide_false,↓reduceIte,ZkY,Zhh,oI,oN,h1,a2,m1]
 exact Zgi P hP hF hS w xs rfl _ _
theorem ZBi (l:Zb) (hl:l.length≤140737488355328) (h:(Z1 l).2.2=0):E 124 [.ref 0 0] [.var (P++[.lst false (l.map Zc)]),.row 0 w xs]=some (.str (Z1 l).1,[.var (P++[.lst false ((l.drop (Z1 l).2.1).map Zc)]),.row 0 w xs]):=by
 have hG:=fun σ site own f=>ZhL σ site own f l hl
 have hu:=(ZgO l).1
 unfold gtT at hG
 have s2:=fun σ kk=>Ze1 σ l kk ((Z1 l).2.1:Int) (by omega) (by omega)
 have e2:(((Z1 l).2.1:Nat):Int).toNat=(Z1 l).2.1:=rfl
 rw [e2] at s2
 rw [h] at hG
 have a1:=Z3 P hP
 have a2:=Zap P hP
 have a3:=Zes P hP
 have a4:=ZfP P hP
 have m1:=Za7
 rw [Zh (by rfl) Zjp]
 simp -implicitDefEqProofs only [EQA,ZC,Nat.reduceAdd,Nat.reduceLT,Nat.reduceLeDiff,Nat.reduceEqDiff,reduceCtorEq,↓reduceIte,ZjE,Zhe,Zsp,oI,oN,s2,hG,a1,a2,a3,a4,m1]
 exact Zgi P hP hF hS w xs rfl _ _
theorem ZBI (l:Zb) (hl:l.length≤140737488355328) (h:(Z1 l).2.2≠0):E 124 [.ref 0 0] [.var (P++[.lst false (l.map Zc)]),.row 0 w xs]=some (.pan (Zy 129),[.var (P++[.lst false (l.map Zc)]),.row 0 w xs]):=by
 have hG:=fun σ site own f=>ZhL σ site own f l hl
 unfold gtT at hG
 have h0:((Z1 l).2.2 == 0)=false:=by simpa using h
 have h1:=h
 have a2:=Zap P hP
 have m1:=Zbx
 rw [Zh (by rfl) Zjp]
 simp -implicitDefEqProofs only [EQA,Nat.reduceAdd,Nat.reduceLT,Nat.reduceEqDiff,reduceCtorEq,↓reduceIte,ZjE,Zhe,oI,oN,hG,a2,h0,m1]
 exact Zgi P hP hF hS w xs rfl _ _
end
theorem Zjs {q:AVal} {cs xs:List AVal} {g w:Nat} (view:Bool) (hn:ZI q=true) (hv:viewR [.var cs,.row g w xs] q=some (q,[])) (hrf:Zr cs=[1]) (hg:g≤1) (hren:∀ ρ:Rho,ρ 1 g=some (1,g)→Zf ρ cs=cs):Zad view 2 (some (q,[.var cs,.row g w xs]))=some (q,[.var cs,.row g w xs]):=by
 unfold Zad
 split
 ·have hnp:∀ x,q≠.pan x:=by rintro x rfl;simp [viewR,ZR,ZL] at hv
  rw [show ZbH 2 (some (q,[.var cs,.row g w xs]))=(match viewR [.var cs,.row g w xs] q with
   | some (r',ts)=>match gcA 2 [r'] (Zq [.var cs,.row g w xs] ts) with
    | ([r''],σ')=>some (r'',σ')
    | _=>none
   | none=>none) from by cases q <;> first | rfl | exact absurd rfl (hnp _)]
  rw [hv]
  simp only [show Zq [ZK.var cs,.row g w xs] []=[.var cs,.row g w xs] from rfl,ZsN hn hrf hg hren]
 ·rfl
theorem Zo0 {x:AVal} {σ:Za} (view:Bool):Zad view 2 (some (.pan x,σ))=some (.pan x,σ):=by
 unfold Zad
 split <;> rfl
def Zi (Q:List AVal) (k r g n:Nat):List AVal:=Q.set k (.sl r g 0 n)
section
variable (Q:List AVal) (hQ:Q.length=26) (hN:Zd Q=true) (k:Nat) (hk:k < 26) (n:Nat)
include hQ hN hk
theorem ZbY (r g:Nat):(Zi Q k r g n).length=26:=by simp [Zi,hQ]
theorem Zcg (r g:Nat):Zr (Zi Q k r g n)=[r]:=by
 unfold Zi
 rw [Zjc hN (by omega)]
 rfl
theorem ZbF {r g r' g':Nat} (ρ:Rho) (h:ρ r g=some (r',g')):Zf ρ (Zi Q k r g n)=Zi Q k r' g' n:=by
 unfold Zi
 rw [ZiT ρ hN]
 simp only [Zk,h]
variable (w:Nat) (xs:List AVal) (l:Zb) (hl:l.length≤140737488355328) (σ:Za) (t r g site:Nat) (htr:t≠r) (hs:σ[t]?=some (.var (Zi Q k r g n++[.lst false (l.map Zc)]))) (hr:σ[r]?=some (.row g w xs))
include hl htr hs hr
theorem Zjf {c:Nat} {m a:Int} {l2:Zb} (hm:((c:Nat):Int)=m) (h:Zav c l=.ok (a,l2)):Zj E BY σ site 115 0 true [.ref t 0,.int .i64 m]=some (.int .i64 a,(σ.set t (.var (Zi Q k r g n++[.lst false (l2.map Zc)]))).set r (.row g w xs),{ any:=true,upd:=[(t,Zi Q k r g n++[.lst false (l2.map Zc)])] }):=by
 subst hm
 unfold Zav at h
 split at h
 ·cases h
 ·injection h with h;injection h with h1 h2;subst h1 h2
  have e:=ZJP (Zi Q k 1 0 n) (ZbY Q hQ hN k hk n 1 0) (Zcg Q hQ hN k hk n 1 0) (fun ρ h=>ZbF Q hQ hN k hk n ρ h) w xs l c (by omega) hl
  exact ZgC (g2:=0) (own:=0) (rest:=[.int .i64 (c:Nat)]) hs hr htr (by rw [Zct,Zcg Q hQ hN k hk n];rfl) (by kernel_rfl) rfl (fun ρ h=>by rw [ZbQ,ZbF Q hQ hN k hk n ρ h];rfl) (by omega) rfl rfl e
   (Zjs true rfl rfl (by rw [Zct,Zcg Q hQ hN k hk n];rfl) (by omega) (fun ρ h=>by rw [ZbQ,ZbF Q hQ hN k hk n ρ h];rfl)) (fun ρ h=>by rw [ZbQ,ZbF Q hQ hN k hk n ρ (h 0)];rfl)
theorem Zs4 {c:Nat} {m e:Int} (hm:((c:Nat):Int)=m) (hc:c≤9223372036854775807) (h:Zav c l=.error e):Zj E BY σ site 115 0 true [.ref t 0,.int .i64 m]=some (.pan (Zy e),(σ.set t (.var (Zi Q k r g n++[.lst false (l.map Zc)]))).set r (.row g w xs),{ any:=true,upd:=[(t,Zi Q k r g n++[.lst false (l.map Zc)])] }):=by
 subst hm
 unfold Zav at h
 split at h
 ·injection h with h;subst h
  have e:=ZHQ (Zi Q k 1 0 n) (ZbY Q hQ hN k hk n 1 0) (Zcg Q hQ hN k hk n 1 0) (fun ρ h=>ZbF Q hQ hN k hk n ρ h) w xs l c (by omega) hc
  exact ZgC (g2:=0) (own:=0) (rest:=[.int .i64 (c:Nat)]) hs hr htr (by rw [Zct,Zcg Q hQ hN k hk n];rfl) (by kernel_rfl) rfl (fun ρ h=>by rw [ZbQ,ZbF Q hQ hN k hk n ρ h];rfl) (by omega) rfl rfl e
   (Zo0 true) (fun ρ h=>by rw [ZbQ,ZbF Q hQ hN k hk n ρ (h 0)];rfl)
 ·cases h
theorem Zpb {a l2:Zb} (h:Zai l=.ok (a,l2)):Zj E BY σ site 124 0 true [.ref t 0]=some (.str a,(σ.set t (.var (Zi Q k r g n++[.lst false (l2.map Zc)]))).set r (.row g w xs),{ any:=true,upd:=[(t,Zi Q k r g n++[.lst false (l2.map Zc)])] }):=by
 unfold Zai at h
 split at h
 ·rename_i h0
  injection h with h;injection h with h1 h2;subst h1 h2
  have e:=ZBi (Zi Q k 1 0 n) (ZbY Q hQ hN k hk n 1 0) (Zcg Q hQ hN k hk n 1 0) (fun ρ h=>ZbF Q hQ hN k hk n ρ h) w xs l hl h0
  exact ZgC (g2:=0) (own:=0) (rest:=[]) hs hr htr (by rw [Zct,Zcg Q hQ hN k hk n];rfl) (by kernel_rfl) rfl (fun ρ h=>by rw [ZbQ,ZbF Q hQ hN k hk n ρ h];rfl) (by omega) rfl rfl e
   (Zjs true rfl rfl (by rw [Zct,Zcg Q hQ hN k hk n];rfl) (by omega) (fun ρ h=>by rw [ZbQ,ZbF Q hQ hN k hk n ρ h];rfl)) (fun ρ h=>by rw [ZbQ,ZbF Q hQ hN k hk n ρ (h 0)];rfl)
 ·cases h
theorem Zt8 {c:Int} (h:Zai l=.error c):Zj E BY σ site 124 0 true [.ref t 0]=some (.pan (Zy c),(σ.set t (.var (Zi Q k r g n++[.lst false (l.map Zc)]))).set r (.row g w xs),{ any:=true,upd:=[(t,Zi Q k r g n++[.lst false (l.map Zc)])] }):=by
 unfold Zai at h
 split at h
 ·cases h
 ·rename_i h0
  injection h with h;subst h
  have e:=ZBI (Zi Q k 1 0 n) (ZbY Q hQ hN k hk n 1 0) (Zcg Q hQ hN k hk n 1 0) (fun ρ h=>ZbF Q hQ hN k hk n ρ h) w xs l hl h0
  exact ZgC (g2:=0) (own:=0) (rest:=[]) hs hr htr (by rw [Zct,Zcg Q hQ hN k hk n];rfl) (by kernel_rfl) rfl (fun ρ h=>by rw [ZbQ,ZbF Q hQ hN k hk n ρ h];rfl) (by omega) rfl rfl e
   (Zo0 true) (fun ρ h=>by rw [ZbQ,ZbF Q hQ hN k hk n ρ (h 0)];rfl)
end
section
variable (Q:List AVal) (hQ:Q.length=26) (hN:Zd Q=true) (k:Nat) (hk:k < 26) (n:Nat) (w:Nat) (xs:List AVal) (l:Zb) (hl:l.length≤140737488355328) (kd:Int) (h0:(Zi Q k 1 0 n)[0]?=some (.int .i64 kd))
include hQ hN hk hl h0
theorem Zzh {c:Int} {r:Zb} (h:Zau kd l=.ok (c,r)):E 116 [.ref 0 0] [.var (Zi Q k 1 0 n++[.lst false (l.map Zc)]),.row 0 w xs]=some (.int .i64 c,[.var (Zi Q k 1 0 n++[.lst false (r.map Zc)]),.row 0 w xs]):=by
 unfold Zau at h
 split at h
 case h_2=>cases h
 rename_i n' r' h2
 split at h
 case isFalse=>cases h
 rename_i hn
 injection h with h;injection h with h3 h4;subst h3 h4
 have hG:=fun σ site hs hr=>Zjf Q hQ hN k hk n w xs l hl σ 0 1 0 site (by omega) hs hr (m:=1) rfl h2
 have hL:=ZbY Q hQ hN k hk n 1 0
 have hR:=Zcg Q hQ hN k hk n 1 0
 have hS:∀ ρ:Rho,ρ 1 0=some (1,0)→Zf ρ (Zi Q k 1 0 n)=Zi Q k 1 0 n:=fun ρ h=>ZbF Q hQ hN k hk n ρ h
 generalize Zi Q k 1 0 n=P at *
 have a4:=fun L=>(Z8 P hL 0 (by omega) L).trans h0
 have m1:=Za7
 have hC:=fun σ site own=>Zig kd n' σ site own
 rw [hn] at hC
 rw [Zh (by rfl) Zfe]
 simp -implicitDefEqProofs only [EQA,Nat.reduceAdd,Nat.reduceLT,Nat.reduceEqDiff,reduceCtorEq,↓reduceIte,Zfg,Zeo,Zvz,oI,hG,hC,a4,m1]
 exact Zgi P hL hR hS w xs rfl _ _
theorem ZwC {c:Int} (h:Zau kd l=.error c):∃ r:Zb,E 116 [.ref 0 0] [.var (Zi Q k 1 0 n++[.lst false (l.map Zc)]),.row 0 w xs]=some (.pan (Zy c),[.var (Zi Q k 1 0 n++[.lst false (r.map Zc)]),.row 0 w xs]):=by
 unfold Zau at h
 have hL:=ZbY Q hQ hN k hk n 1 0
 have hR:=Zcg Q hQ hN k hk n 1 0
 have hS:∀ ρ:Rho,ρ 1 0=some (1,0)→Zf ρ (Zi Q k 1 0 n)=Zi Q k 1 0 n:=fun ρ h=>ZbF Q hQ hN k hk n ρ h
 split at h
 ·rename_i n' r' h2
  split at h
  case isTrue=>cases h
  rename_i hn
  injection h with h;subst h
  have hG:=fun σ site hs hr=>Zjf Q hQ hN k hk n w xs l hl σ 0 1 0 site (by omega) hs hr (m:=1) rfl h2
  refine ⟨r',?_⟩
  generalize Zi Q k 1 0 n=P at *
  have a4:=fun L=>(Z8 P hL 0 (by omega) L).trans h0
  have m1:=Zbx
  have hC:=fun σ site own=>Zig kd n' σ site own
  rw [Bool.not_eq_true _ |>.mp hn] at hC
  rw [Zh (by rfl) Zfe]
  simp -implicitDefEqProofs only [EQA,Nat.reduceAdd,Nat.reduceLT,Nat.reduceEqDiff,reduceCtorEq,↓reduceIte,Zfg,Zeo,oI,hG,hC,a4,m1]
  exact Zgi P hL hR hS w xs rfl _ _
 ·rename_i c' h2
  injection h with h;subst h
  have hG:=fun σ site hs hr=>Zs4 Q hQ hN k hk n w xs l hl σ 0 1 0 site (by omega) hs hr (m:=1) rfl (by decide) h2
  refine ⟨l,?_⟩
  generalize Zi Q k 1 0 n=P at *
  rw [Zh (by rfl) Zfe]
  simp -implicitDefEqProofs only [EQA,Nat.reduceAdd,Nat.reduceLT,reduceCtorEq,↓reduceIte,Zfg,Zeo,oI,hG]
  exact Zgi P hL hR hS w xs rfl _ _
variable (σ:Za) (t r g site:Nat) (htr:t≠r) (hs:σ[t]?=some (.var (Zi Q k r g n++[.lst false (l.map Zc)]))) (hr:σ[r]?=some (.row g w xs))
include htr hs hr
theorem Zwx {c:Int} {l2:Zb} (h:Zau kd l=.ok (c,l2)):Zj E BY σ site 116 0 true [.ref t 0]=some (.int .i64 c,(σ.set t (.var (Zi Q k r g n++[.lst false (l2.map Zc)]))).set r (.row g w xs),{ any:=true,upd:=[(t,Zi Q k r g n++[.lst false (l2.map Zc)])] }):=by
 have e:=Zzh Q hQ hN k hk n w xs l hl kd h0 h
 exact ZgC (g2:=0) (own:=0) (rest:=[]) hs hr htr (by rw [Zct,Zcg Q hQ hN k hk n];rfl) (by kernel_rfl) rfl (fun ρ h=>by rw [ZbQ,ZbF Q hQ hN k hk n ρ h];rfl) (by omega) rfl rfl e
  (Zjs true rfl rfl (by rw [Zct,Zcg Q hQ hN k hk n];rfl) (by omega) (fun ρ h=>by rw [ZbQ,ZbF Q hQ hN k hk n ρ h];rfl)) (fun ρ h=>by rw [ZbQ,ZbF Q hQ hN k hk n ρ (h 0)];rfl)
theorem ZGc {c:Int} (h:Zau kd l=.error c):∃ l2:Zb,Zj E BY σ site 116 0 true [.ref t 0]=some (.pan (Zy c),(σ.set t (.var (Zi Q k r g n++[.lst false (l2.map Zc)]))).set r (.row g w xs),{ any:=true,upd:=[(t,Zi Q k r g n++[.lst false (l2.map Zc)])] }):=by
 obtain ⟨l2,e⟩:=ZwC Q hQ hN k hk n w xs l hl kd h0 h
 exact ⟨l2,ZgC (g2:=0) (own:=0) (rest:=[]) hs hr htr (by rw [Zct,Zcg Q hQ hN k hk n];rfl) (by kernel_rfl) rfl (fun ρ h=>by rw [ZbQ,ZbF Q hQ hN k hk n ρ h];rfl) (by omega) rfl rfl e
  (Zo0 true) (fun ρ h=>by rw [ZbQ,ZbF Q hQ hN k hk n ρ (h 0)];rfl)⟩
end
end Go.Proofs.YtmlkhhidifjjfaaDoor
namespace Go.Proofs.YtmlkhhidifjjfaaDoor
structure Zbq where
 filter:Zb
 qos:Int
 noLocal:Bool
 asPublished:Bool
 handling:Int
 id:Int
 deriving DecidableEq
def ZU (s:Zbq):AVal:=.agg [.str s.filter,.int .i64 s.qos,.bool s.noLocal,.bool s.asPublished,.int .i64 s.handling,.int .i64 s.id]
structure ZvN where
 topic:Zb
 data:Zb
 qos:Int
 retain:Bool
 props:List Zt
 deriving DecidableEq
structure Zn where
 type:Int
 dup:Bool
 qos:Int
 retain:Bool
 id:Int
 topic:Zb
 payload:Zb
 code:Int
 codes:List Int
 props:List Zt
 subs:List Zbq
 filters:List Zb
 clean:Bool
 keep:Int
 client:Zb
 hasWill:Bool
 will:ZvN
 hasUser:Bool
 user:Zb
 hasPassword:Bool
 password:Zb
 present:Bool
 deriving DecidableEq
def ZZ (p:Zn):AVal:=.agg [.int .i64 p.type,.bool p.dup,.int .i64 p.qos,.bool p.retain,.int .i64 p.id,.str p.topic,.lst false (p.payload.map Zc),.int .i64 p.code,.lst false (p.codes.map (AVal.int .i64)),.lst false (p.props.map Zl),.lst false (p.subs.map ZU),.lst false (p.filters.map AVal.str),.bool p.clean,.int .i64 p.keep,.str p.client,.bool p.hasWill,.str p.will.topic,.lst false (p.will.data.map Zc),.int .i64 p.will.qos,.bool p.will.retain,.lst false (p.will.props.map Zl),.bool p.hasUser,.str p.user,.bool p.hasPassword,.lst false (p.password.map Zc),.bool p.present]
end Go.Proofs.YtmlkhhidifjjfaaDoor
namespace Go.Proofs.YtmlkhhidifjjfaaDoor
set_option maxHeartbeats 8000000
set_option maxRecDepth 10000
def ZfF (m:Int):Int:=IntKind.i64.wrap (m.tdiv 16)
def Zbn (l:Zb):RK Zbq:=match Zai l with
 | .error c=>.error c
 | .ok (f,r1)=>match Zav 1 r1 with
  | .error c=>.error c
  | .ok (o,r2)=>if o < 64 then (if Zw o 3 < 3∧ZfF o < 3 then .ok (⟨f,Zw o 3,Zw o 4 != 0,Zw o 8 != 0,ZfF o,0⟩,r2) else .error 130) else .error 129
theorem ZcU {cs cs' xs:List AVal} {w j:Nat} {r:AVal} {σ:Za} (hr:ZI r=true) (hj:j≠0) (h0:σ[0]?=some (.var cs)) (h1:σ[j]?=some (.row 0 w xs)) (hrf:Zr cs=[j]) (hren:∀ ρ:Rho,ρ j 0=some (1,0)→Zf ρ cs=cs'):Zak 1 σ r=some (r,[.var cs',.row 0 w xs]):=by
 have d0:σ.getD 0 .free=.var cs:=by simp [List.getD_eq_getElem?_getD,h0]
 have d1:σ.getD j .free=.row 0 w xs:=by simp [List.getD_eq_getElem?_getD,h1]
 have e1:=(Za1 (Zm σ 1 [0,j]) r hr)
 have ej:([0]:List Nat).contains j=false:=by simp;omega
 have hi:ZB 1 [r] σ=[0,j]:=by
  have : Zr [r]=[]:=by simp only [Zr,e1.2,List.append_nil]
  have hR:List.range 1=[0]:=rfl
  simp only [ZB,this,List.nil_append,hR,List.flatMap_cons,List.flatMap_nil,List.append_nil,d0,ZJ,hrf]
  rw [show (1000:Nat)=998+1+1 from rfl,Zz,ej]
  simp only [Bool.false_eq_true,if_false,d1,ZJ,List.nil_append]
  rfl
 have hρ:Zm σ 1 [0,j] j 0=some (1,0):=by
  have : ¬(0:Nat)=j:=fun e=>hj e.symm
  simp [Zm,ZY,Zo,ZQ,h1,this]
 simp only [Zak,gcA,hi,Zf,e1.1,Zv,d0,d1,ZQ,Zo,ZF,hren _ hρ]
 simp
section
variable (P:List AVal) (hP:P.length=26) (hN:Zd P=true) (h10:P[10]?=some (.lst true [])) (l:Zb) (hl:l.length≤140737488355328)
include hP hN h10 hl
theorem ZD8 {s:Zbq} {r:Zb} (h:Zbn l=.ok (s,r)):E 122 [.ref 0 0] (Zg P l)=some (.tup [],[.var (Zi P 10 1 0 1++[.lst false (r.map Zc)]),.row 0 6 [ZU s]]):=by
 unfold Zbn at h
 split at h
 ·cases h
 rename_i f r1 ht
 have l1:=Zdo ht
 split at h
 ·cases h
 rename_i o r2 hn
 split at h
 case isFalse=>cases h
 rename_i h64
 split at h
 case isFalse=>cases h
 rename_i hq
 obtain ⟨hq1,hq2⟩:=hq
 injection h with h;injection h with e1 e2;subst e1 e2
 have hT:=fun σ site hs=>ZdQ P hP hN l hl σ 0 site hs ht
 have hG:=fun σ site hs=>ZcI P hP hN r1 (by omega) σ 0 site hs (m:=1) rfl hn
 have m0:=Za7
 have a1:=Z3 P hP
 have a3:=fun L v=>Zaw P hP 10 11 (by omega) rfl L v
 have a4:=fun L=>(Z8 P hP 10 (by omega) L).trans h10
 have z:¬(16:Int)=0:=by decide
 unfold Zi ZU Zg
 unfold Zw ZfF at *
 rw [Zh (by rfl) ZdI]
 simp -implicitDefEqProofs only [EQA,Za6,Zs,Nat.reduceAdd,Nat.reduceLT,Nat.reduceLeDiff,Nat.reduceEqDiff,Nat.reduceBEq,ZE,unG,ne_eq,Option.some.injEq,reduceCtorEq,decide_true,decide_false,Z0,↓reduceIte,Zd,List.contains_cons,ZdB,Zc0,Zvn,oI,oN,hT,hG,m0,a1,a3,a4,z,h64,hq1,hq2,Zal,AVal.cells,Zbi,viewAs,ZR,ZL,ZaJ,Zq,List.foldl_cons,List.foldl_nil,Nat.one_mul,Nat.le_refl,Zae,Zaf,Zam,Zao,Zar,Zah,List.lookup_nil,kOk]
 refine ZcU (j:=2) rfl (by omega) rfl rfl ?_ (fun ρ h=>?_)
 ·rw [Zct,Zjc hN (by omega)];rfl
 ·rw [ZbQ,ZiT ρ hN]
  simp only [Zk,h]
  rfl
end
theorem Zwm (ss:List Zbq):kOk 6 (ss.map ZU)=true:=by cases ss <;> rfl
section
variable (P:List AVal) (hP:P.length=26) (hN:Zd P=true) (ss:List Zbq) (hss:ss.length*48+48≤140737488355328) (l:Zb) (hl:l.length≤140737488355328)
include hP hN hss hl
theorem ZCN {s:Zbq} {r:Zb} (h:Zbn l=.ok (s,r)):E 122 [.ref 0 0] [.var (Zi P 10 1 0 ss.length++[.lst false (l.map Zc)]),.row 0 6 (ss.map ZU)]=some (.tup [],[.var (Zi P 10 1 1 (ss.length+1)++[.lst false (r.map Zc)]),.row 1 6 ((ss++[s]).map ZU)]):=by
 unfold Zbn at h
 split at h
 ·cases h
 rename_i f r1 ht
 have l1:=Zdo ht
 split at h
 ·cases h
 rename_i o r2 hn
 split at h
 case isFalse=>cases h
 rename_i h64
 split at h
 case isFalse=>cases h
 rename_i hq
 obtain ⟨hq1,hq2⟩:=hq
 injection h with h;injection h with e1 e2;subst e1 e2
 have hT:=fun σ site hs hr=>Zpb P hP hN 10 (by omega) ss.length 6 (ss.map ZU) l hl σ 0 1 0 site (by omega) hs hr ht
 have hG:=fun σ site hs hr=>Zjf P hP hN 10 (by omega) ss.length 6 (ss.map ZU) r1 (by omega) σ 0 1 0 site (by omega) hs hr (m:=1) rfl hn
 have m0:=Za7
 have hL:=ZbY P hP hN 10 (by omega) ss.length 1 0
 have a1:=Z3 _ hL
 have a3:=fun L v=>Zaw _ hL 10 11 (by omega) rfl L v
 have h10:(Zi P 10 1 0 ss.length)[10]?=some (.sl 1 0 0 ss.length):=by unfold Zi;rw [List.getElem?_set_self (by omega)]
 have a4:=fun L=>(Z8 _ hL 10 (by omega) L).trans h10
 have hset:(Zi P 10 1 0 ss.length).set 10 (.sl 1 1 0 (ss.length+1))=Zi P 10 1 1 (ss.length+1):=by unfold Zi;rw [List.set_set]
 have z:¬(16:Int)=0:=by decide
 have kk:=Zwm ss
 have k1:∀ a b c d e f:AVal,kOk 6 [.agg [a,b,c,d,e,f]]=true:=fun _ _ _ _ _ _=>rfl
 have len:(ss.map ZU).length=ss.length:=by simp
 have tk:(ss.map ZU).take ss.length=ss.map ZU:=by rw [←len,List.take_length]
 have lim:(ss.length+1)*48≤140737488355328:=by omega
 have lim2:48*(ss.length+1)≤140737488355328:=by omega
 unfold Zw ZfF at *
 rw [Zh (by rfl) ZdI]
 simp -implicitDefEqProofs only [EQA,Za6,Nat.reduceAdd,Nat.reduceLT,Nat.reduceLeDiff,Nat.reduceEqDiff,Nat.reduceBEq,ZE,unG,ne_eq,Option.some.injEq,reduceCtorEq,decide_true,decide_false,Z0,↓reduceIte,List.contains_cons,ZdB,Zc0,Zvn,oI,oN,hT,hG,m0,a1,a3,a4,z,h64,hq1,hq2,Zal,AVal.cells,Zbi,viewAs,ZR,ZL,ZaJ,Zq,List.foldl_cons,List.foldl_nil,Nat.le_refl,Zae,Zaf,Zam,Zao,Zar,Zah,List.lookup_nil,k1,len,lim,hset]
 rw [Zo6 (g:=1) rfl (by rw [Zct,Zcg P hP hN 10 (by omega)];rfl) (by omega) (fun ρ h=>by rw [ZbQ,ZbF P hP hN 10 (by omega) _ ρ h];rfl)]
 simp only [List.map_append,List.map_cons,List.map_nil]
 rfl
end
section
variable (P:List AVal) (hP:P.length=26) (hN:Zd P=true) (l:Zb) (hl:l.length≤140737488355328)
include hP hN hl
theorem ZwX {e:Int} (h:Zbn l=.error e):∃ cs,Zd cs=true∧E 122 [.ref 0 0] (Zg P l)=some (.pan (Zy e),[.var cs]):=by
 unfold Zbn at h
 have z:¬(16:Int)=0:=by decide
 unfold Zg
 split at h
 ·rename_i c ht
  injection h with h;subst h
  have hT:=fun σ site hs=>Zgd P hP hN l hl σ 0 site hs ht
  refine ⟨_,Zx P hP hN false (l.map Zc),?_⟩
  rw [Zh (by rfl) ZdI]
  simp -implicitDefEqProofs only [EQA,Nat.reduceLT,↓reduceIte,ZdB,Zc0,oI,oN,hT]
  exact ZV rfl (Zx P hP hN _ _)
 rename_i f r1 ht
 have l1:=Zdo ht
 have hT:=fun σ site hs=>ZdQ P hP hN l hl σ 0 site hs ht
 split at h
 ·rename_i c hn
  injection h with h;subst h
  have hG:=fun σ site hs=>Zfw P hP hN r1 (by omega) σ 0 site hs (m:=1) rfl (by decide) hn
  refine ⟨_,Zx P hP hN false (r1.map Zc),?_⟩
  rw [Zh (by rfl) ZdI]
  simp -implicitDefEqProofs only [EQA,Za6,Nat.reduceAdd,Nat.reduceLT,Nat.reduceLeDiff,Nat.reduceEqDiff,Nat.reduceBEq,reduceCtorEq,↓reduceIte,ZdB,Zc0,oI,oN,hT,hG,Zal,AVal.cells]
  exact ZV rfl (Zx P hP hN _ _)
 rename_i o r2 hn
 have hG:=fun σ site hs=>ZcI P hP hN r1 (by omega) σ 0 site hs (m:=1) rfl hn
 have m0:=Za7
 have m1:=Zbx
 refine ⟨_,Zx P hP hN false (r2.map Zc),?_⟩
 split at h
 case isFalse =>
  rename_i h64
  injection h with h;subst h
  rw [Zh (by rfl) ZdI]
  simp -implicitDefEqProofs only [EQA,Za6,Nat.reduceAdd,Nat.reduceLT,Nat.reduceLeDiff,Nat.reduceEqDiff,Nat.reduceBEq,reduceCtorEq,decide_false,↓reduceIte,ZdB,Zc0,oI,oN,hT,hG,m1,h64,Zal,AVal.cells]
  exact ZV rfl (Zx P hP hN _ _)
 rename_i h64
 split at h
 ·cases h
 rename_i hq
 injection h with h;subst h
 by_cases hq1:Zw o 3 < 3
 ·have hq2:¬ZfF o < 3:=fun h=>hq ⟨hq1,h⟩
  unfold Zw ZfF at *
  rw [Zh (by rfl) ZdI]
  simp -implicitDefEqProofs only [EQA,Za6,Nat.reduceAdd,Nat.reduceLT,Nat.reduceLeDiff,Nat.reduceEqDiff,Nat.reduceBEq,ZE,unG,ne_eq,Option.some.injEq,reduceCtorEq,decide_true,decide_false,↓reduceIte,ZdB,Zc0,oI,oN,hT,hG,m0,m1,z,h64,hq1,hq2,Zal,AVal.cells]
  exact ZV rfl (Zx P hP hN _ _)
 ·unfold Zw at *
  rw [Zh (by rfl) ZdI]
  simp -implicitDefEqProofs only [EQA,Za6,Nat.reduceAdd,Nat.reduceLT,Nat.reduceLeDiff,Nat.reduceEqDiff,Nat.reduceBEq,ZE,Zaq,ne_eq,Option.some.injEq,reduceCtorEq,decide_true,decide_false,↓reduceIte,ZdB,Zc0,oI,oN,hT,hG,m0,m1,z,h64,hq1,Zal,AVal.cells]
  exact ZV rfl (Zx P hP hN _ _)
variable (ss:List Zbq)
theorem Zv8 {e:Int} (h:Zbn l=.error e):∃ r:Zb,E 122 [.ref 0 0] [.var (Zi P 10 1 0 ss.length++[.lst false (l.map Zc)]),.row 0 6 (ss.map ZU)]=some (.pan (Zy e),[.var (Zi P 10 1 0 ss.length++[.lst false (r.map Zc)]),.row 0 6 (ss.map ZU)]):=by
 unfold Zbn at h
 have z:¬(16:Int)=0:=by decide
 have fin:∀ (r:Zb) (σ:Za) (x:AVal),ZI x=true→Zak 2 (.var (Zi P 10 1 0 ss.length++[.lst false (r.map Zc)])::.row 0 6 (ss.map ZU)::σ) x=some (x,[.var (Zi P 10 1 0 ss.length++[.lst false (r.map Zc)]),.row 0 6 (ss.map ZU)]):=fun r σ x hx =>
  Zo6 (g:=0) hx (by rw [Zct,Zcg P hP hN 10 (by omega)];rfl) (by omega) (fun ρ h=>by rw [ZbQ,ZbF P hP hN 10 (by omega) _ ρ h];rfl)
 split at h
 ·rename_i c ht
  injection h with h;subst h
  have hT:=fun σ site hs hr=>Zt8 P hP hN 10 (by omega) ss.length 6 (ss.map ZU) l hl σ 0 1 0 site (by omega) hs hr ht
  refine ⟨l,?_⟩
  rw [Zh (by rfl) ZdI]
  simp -implicitDefEqProofs only [EQA,Nat.reduceAdd,Nat.reduceLT,↓reduceIte,ZdB,Zc0,oI,oN,hT]
  exact fin _ _ _ rfl
 rename_i f r1 ht
 have l1:=Zdo ht
 have hT:=fun σ site hs hr=>Zpb P hP hN 10 (by omega) ss.length 6 (ss.map ZU) l hl σ 0 1 0 site (by omega) hs hr ht
 split at h
 ·rename_i c hn
  injection h with h;subst h
  have hG:=fun σ site hs hr=>Zs4 P hP hN 10 (by omega) ss.length 6 (ss.map ZU) r1 (by omega) σ 0 1 0 site (by omega) hs hr (m:=1) rfl (by decide) hn
  refine ⟨r1,?_⟩
  rw [Zh (by rfl) ZdI]
  simp -implicitDefEqProofs only [EQA,Za6,Nat.reduceAdd,Nat.reduceLT,Nat.reduceLeDiff,Nat.reduceEqDiff,Nat.reduceBEq,reduceCtorEq,↓reduceIte,ZdB,Zc0,oI,oN,hT,hG,Zal,AVal.cells]
  exact fin _ _ _ rfl
 rename_i o r2 hn
 have hG:=fun σ site hs hr=>Zjf P hP hN 10 (by omega) ss.length 6 (ss.map ZU) r1 (by omega) σ 0 1 0 site (by omega) hs hr (m:=1) rfl hn
 have m0:=Za7
 have m1:=Zbx
 refine ⟨r2,?_⟩
 split at h
 case isFalse =>
  rename_i h64
  injection h with h;subst h
  rw [Zh (by rfl) ZdI]
  simp -implicitDefEqProofs only [EQA,Za6,Nat.reduceAdd,Nat.reduceLT,Nat.reduceLeDiff,Nat.reduceEqDiff,Nat.reduceBEq,reduceCtorEq,decide_false,↓reduceIte,ZdB,Zc0,oI,oN,hT,hG,m1,h64,Zal,AVal.cells]
  exact fin _ _ _ rfl
 rename_i h64
 split at h
 ·cases h
 rename_i hq
 injection h with h;subst h
 by_cases hq1:Zw o 3 < 3
 ·have hq2:¬ZfF o < 3:=fun h=>hq ⟨hq1,h⟩
  unfold Zw ZfF at *
  rw [Zh (by rfl) ZdI]
  simp -implicitDefEqProofs only [EQA,Za6,Nat.reduceAdd,Nat.reduceLT,Nat.reduceLeDiff,Nat.reduceEqDiff,Nat.reduceBEq,ZE,unG,ne_eq,Option.some.injEq,reduceCtorEq,decide_true,decide_false,↓reduceIte,ZdB,Zc0,oI,oN,hT,hG,m0,m1,z,h64,hq1,hq2,Zal,AVal.cells]
  exact fin _ _ _ rfl
 ·unfold Zw at *
  rw [Zh (by rfl) ZdI]
  simp -implicitDefEqProofs only [EQA,Za6,Nat.reduceAdd,Nat.reduceLT,Nat.reduceLeDiff,Nat.reduceEqDiff,Nat.reduceBEq,ZE,Zaq,ne_eq,Option.some.injEq,reduceCtorEq,decide_true,decide_false,↓reduceIte,ZdB,Zc0,oI,oN,hT,hG,m0,m1,z,h64,hq1,Zal,AVal.cells]
  exact fin _ _ _ rfl
end
end Go.Proofs.YtmlkhhidifjjfaaDoor
namespace Go.Proofs.YtmlkhhidifjjfaaDoor
set_option maxHeartbeats 8000000
set_option maxRecDepth 10000
section
variable (P:List AVal) (hP:P.length=26) (hN:Zd P=true)
include hP hN
theorem ZF0 (k:Int) (hk:P[0]?=some (.int .i64 k)) (l:Zb) (hl:l.length≤140737488355328) {c:Int} (h:Zau k l=.error c):∃ r:Zb,E 116 [.ref 0 0] [.var (P++[.lst false (l.map Zc)])]=some (.pan (Zy c),[.var (P++[.lst false (r.map Zc)])]):=by
 unfold Zau at h
 split at h
 ·rename_i n' r' h2
  split at h
  case isTrue=>cases h
  rename_i hn
  injection h with h;subst h
  have hG:=fun σ site hs=>ZcI P hP hN l hl σ 0 site hs (m:=1) rfl h2
  have a4:=fun L=>(Z8 P hP 0 (by omega) L).trans hk
  have m1:=Zbx
  have hC:=fun σ site own=>Zig k n' σ site own
  rw [Bool.not_eq_true _ |>.mp hn] at hC
  refine ⟨r',?_⟩
  rw [Zh (by rfl) Zfe]
  simp -implicitDefEqProofs only [EQA,Nat.reduceLT,Nat.reduceEqDiff,reduceCtorEq,↓reduceIte,Zfg,Zeo,oI,hG,hC,a4,m1]
  exact ZV rfl (Zaz hN (by rfl))
 ·rename_i c' h2
  injection h with h;subst h
  have hG:=fun σ site hs=>Zfw P hP hN l hl σ 0 site hs (m:=1) rfl (by decide) h2
  refine ⟨l,?_⟩
  rw [Zh (by rfl) Zfe]
  simp -implicitDefEqProofs only [EQA,Nat.reduceLT,reduceCtorEq,↓reduceIte,Zfg,Zeo,oI,hG]
  exact ZV rfl (Zaz hN (by rfl))
end
section
variable (P:List AVal) (hP:P.length=26) (hN:Zd P=true) (l:Zb) (hl:l.length≤140737488355328)
include hP hN hl
theorem ZEI (h11:P[11]?=some (.lst true [])) {s r:Zb} (h:Zai l=.ok (s,r)):evC FC PR BY 3 Zdj [(1,.ref 2 0),(0,.ref 0 0)] [.var [.ref 1 0],.var (P++[.lst false (l.map Zc)]),.var [.ref 1 0]]=some (.normal,[],[.var [.ref 1 0],.var (Zi P 11 3 0 1++[.lst false (r.map Zc)]),.var [.ref 1 0],.row 0 1 [.str s]]):=by
 have hT:=fun σ site hs=>ZdQ P hP hN l hl σ 1 site hs h
 have a1:=Z3 P hP
 have a3:=fun L v=>Zaw P hP 11 12 (by omega) rfl L v
 have a4:=fun L=>(Z8 P hP 11 (by omega) L).trans h11
 unfold Zi
 simp -implicitDefEqProofs only [EQA,Nat.reduceAdd,Nat.reduceLT,Nat.reduceLeDiff,Nat.reduceEqDiff,Nat.reduceBEq,reduceCtorEq,decide_true,Z0,↓reduceIte,List.contains_cons,Zdj,oI,oN,hT,a1,a3,a4,AVal.cells,Zbi,viewAs,ZR,ZL,Zq,List.foldl_cons,List.foldl_nil,Nat.one_mul,Zae,Zaf,Zam,Zao,Zar,Zah,Zc9,List.lookup_cons,List.lookup_nil,kOk]
theorem ZwT {c:Int} (h:Zai l=.error c) (h11:P[11]?=some (.lst true [])):evC FC PR BY 3 Zdj [(1,.ref 2 0),(0,.ref 0 0)] [.var [.ref 1 0],.var (P++[.lst false (l.map Zc)]),.var [.ref 1 0]]=some (.panic (Zy c),[],[.var [.ref 1 0],.var (P++[.lst false (l.map Zc)]),.var [.ref 1 0],.free]):=by
 have hT:=fun σ site hs=>Zgd P hP hN l hl σ 1 site hs h
 have a4:=fun L=>(Z8 P hP 11 (by omega) L).trans h11
 simp -implicitDefEqProofs only [EQA,Nat.reduceAdd,Nat.reduceSub,Nat.reduceLT,Nat.reduceLeDiff,Nat.reduceEqDiff,Nat.reduceBEq,reduceCtorEq,decide_true,decide_false,↓reduceIte,List.contains_cons,Zdj,oI,oN,hT,a4,Zg7,Zdm,List.any_cons,List.any_nil,Zae,Zaf,Zam,Zao,Zar,Zah,Zc9,List.lookup_cons,List.lookup_nil]
theorem Zw3 (h8:P[8]?=some (.lst true [])) (k:Int) (hk:P[0]?=some (.int .i64 k)) {c:Int} {r:Zb} (h:Zau k l=.ok (c,r)):evC FC PR BY 3 Zc4 [(1,.ref 2 0),(0,.ref 0 0)] [.var [.ref 1 0],.var (P++[.lst false (l.map Zc)]),.var [.ref 1 0]]=some (.normal,[],[.var [.ref 1 0],.var (Zi P 8 3 0 1++[.lst false (r.map Zc)]),.var [.ref 1 0],.row 0 1 [.int .i64 c]]):=by
 have hT:=fun σ site hs=>ZiO P hP hN l hl σ 1 site hs k hk h
 have a1:=Z3 P hP
 have a3:=fun L v=>Zaw P hP 8 9 (by omega) rfl L v
 have a4:=fun L=>(Z8 P hP 8 (by omega) L).trans h8
 unfold Zi
 simp -implicitDefEqProofs only [EQA,Nat.reduceAdd,Nat.reduceLT,Nat.reduceLeDiff,Nat.reduceEqDiff,Nat.reduceBEq,reduceCtorEq,decide_true,Z0,↓reduceIte,List.contains_cons,Zc4,oI,oN,hT,a1,a3,a4,AVal.cells,Zbi,viewAs,ZR,ZL,Zq,List.foldl_cons,List.foldl_nil,Nat.one_mul,Zae,Zaf,Zam,Zao,Zar,Zah,Zc9,List.lookup_cons,List.lookup_nil,kOk]
theorem Zzt (h8:P[8]?=some (.lst true [])) (k:Int) (hk:P[0]?=some (.int .i64 k)) {e:Int} (h:Zau k l=.error e):∃ r:Zb,evC FC PR BY 3 Zc4 [(1,.ref 2 0),(0,.ref 0 0)] [.var [.ref 1 0],.var (P++[.lst false (l.map Zc)]),.var [.ref 1 0]]=some (.panic (Zy e),[],[.var [.ref 1 0],.var (P++[.lst false (r.map Zc)]),.var [.ref 1 0],.free]):=by
 obtain ⟨r,he⟩:=ZF0 P hP hN k hk l hl h
 have hT:=fun (σ:Za) site (hs:σ[1]?=some (.var (P++[.lst false (l.map Zc)])))=>Zcz (O:=E) (byref:=BY) (f:=116) (view:=true) (rest:=[]) (by kernel_rfl) rfl (Zx P hP hN _ _) (Zx P hP hN _ _) rfl he hs site
 have a4:=fun L=>(Z8 P hP 8 (by omega) L).trans h8
 refine ⟨r,?_⟩
 simp -implicitDefEqProofs only [EQA,Nat.reduceAdd,Nat.reduceSub,Nat.reduceLT,Nat.reduceLeDiff,Nat.reduceEqDiff,Nat.reduceBEq,reduceCtorEq,decide_true,decide_false,↓reduceIte,List.contains_cons,Zc4,oI,oN,hT,a4,Zg7,Zdm,List.any_cons,List.any_nil,Zae,Zaf,Zam,Zao,Zar,Zah,Zc9,List.lookup_cons,List.lookup_nil]
end
end Go.Proofs.YtmlkhhidifjjfaaDoor
namespace Go.Proofs.YtmlkhhidifjjfaaDoor
set_option maxHeartbeats 8000000
set_option maxRecDepth 10000
section
variable (P:List AVal) (hP:P.length=26) (hN:Zd P=true) (l:Zb) (hl:l.length≤140737488355328)
include hP hN hl
theorem ZFW (xs:List AVal) (hx:xs.length*16+16≤140737488355328) (kk:kOk 1 xs=true) {s r:Zb} (h:Zai l=.ok (s,r)):evC FC PR BY 4 Zdj [(1,.ref 3 0),(0,.ref 0 0)] [.var [.ref 1 0],.var (Zi P 11 2 0 xs.length++[.lst false (l.map Zc)]),.row 0 1 xs,.var [.ref 1 0]]=some (.normal,[],[.var [.ref 1 0],.var (Zi P 11 2 1 (xs.length+1)++[.lst false (r.map Zc)]),.row 1 1 (xs++[.str s]),.var [.ref 1 0],.free]):=by
 have hT:=fun σ site hs hr=>Zpb P hP hN 11 (by omega) xs.length 1 xs l hl σ 1 2 0 site (by omega) hs hr h
 have hL:=ZbY P hP hN 11 (by omega) xs.length 2 0
 have a1:=Z3 _ hL
 have a3:=fun L v=>Zaw _ hL 11 12 (by omega) rfl L v
 have hc:(Zi P 11 2 0 xs.length)[11]?=some (.sl 2 0 0 xs.length):=by unfold Zi;rw [List.getElem?_set_self (by omega)]
 have a4:=fun L=>(Z8 _ hL 11 (by omega) L).trans hc
 have hset:(Zi P 11 2 0 xs.length).set 11 (.sl 2 1 0 (xs.length+1))=Zi P 11 2 1 (xs.length+1):=by unfold Zi;rw [List.set_set]
 have k1:kOk 1 [.str s]=true:=rfl
 have tk:xs.take xs.length=xs:=List.take_length
 have lim:(xs.length+1)*16≤140737488355328:=by omega
 have lim2:16*(xs.length+1)≤140737488355328:=by omega
 simp -implicitDefEqProofs only [EQA,Nat.reduceAdd,Nat.reduceLT,Nat.reduceLeDiff,Nat.reduceEqDiff,Nat.reduceBEq,reduceCtorEq,decide_true,Z0,↓reduceIte,List.contains_cons,Zdj,oI,oN,hT,a1,a3,a4,AVal.cells,Zbi,viewAs,ZR,ZL,Zq,List.foldl_cons,List.foldl_nil,Zae,Zaf,Zam,Zao,Zar,Zah,Zc9,List.lookup_cons,List.lookup_nil,k1,lim,hset]
theorem ZJT (xs:List AVal) (hx:xs.length*8+8≤140737488355328) (kk:kOk 1 xs=true) (k:Int) (hk:P[0]?=some (.int .i64 k)) {c:Int} {r:Zb} (h:Zau k l=.ok (c,r)):evC FC PR BY 4 Zc4 [(1,.ref 3 0),(0,.ref 0 0)] [.var [.ref 1 0],.var (Zi P 8 2 0 xs.length++[.lst false (l.map Zc)]),.row 0 1 xs,.var [.ref 1 0]]=some (.normal,[],[.var [.ref 1 0],.var (Zi P 8 2 1 (xs.length+1)++[.lst false (r.map Zc)]),.row 1 1 (xs++[.int .i64 c]),.var [.ref 1 0],.free]):=by
 have hk0:(Zi P 8 1 0 xs.length)[0]?=some (.int .i64 k):=by unfold Zi;rw [List.getElem?_set_ne (by omega)];exact hk
 have hT:=fun σ site hs hr=>Zwx P hP hN 8 (by omega) xs.length 1 xs l hl k hk0 σ 1 2 0 site (by omega) hs hr h
 have hL:=ZbY P hP hN 8 (by omega) xs.length 2 0
 have a1:=Z3 _ hL
 have a3:=fun L v=>Zaw _ hL 8 9 (by omega) rfl L v
 have hc:(Zi P 8 2 0 xs.length)[8]?=some (.sl 2 0 0 xs.length):=by unfold Zi;rw [List.getElem?_set_self (by omega)]
 have a4:=fun L=>(Z8 _ hL 8 (by omega) L).trans hc
 have hset:(Zi P 8 2 0 xs.length).set 8 (.sl 2 1 0 (xs.length+1))=Zi P 8 2 1 (xs.length+1):=by unfold Zi;rw [List.set_set]
 have k1:kOk 1 [.int .i64 c]=true:=rfl
 have tk:xs.take xs.length=xs:=List.take_length
 have lim:(xs.length+1)*8≤140737488355328:=by omega
 have lim2:8*(xs.length+1)≤140737488355328:=by omega
 simp -implicitDefEqProofs only [EQA,Nat.reduceAdd,Nat.reduceLT,Nat.reduceLeDiff,Nat.reduceEqDiff,Nat.reduceBEq,reduceCtorEq,decide_true,Z0,↓reduceIte,List.contains_cons,Zc4,oI,oN,hT,a1,a3,a4,AVal.cells,Zbi,viewAs,ZR,ZL,Zq,List.foldl_cons,List.foldl_nil,Zae,Zaf,Zam,Zao,Zar,Zah,Zc9,List.lookup_cons,List.lookup_nil,k1,lim,hset]
end
end Go.Proofs.YtmlkhhidifjjfaaDoor
namespace Go.Proofs.YtmlkhhidifjjfaaDoor
set_option maxHeartbeats 8000000
set_option maxRecDepth 10000
def Zrh (P:List AVal) (f c:Int) (ps:List Zt):List AVal:=((P.set 25 (.bool (f == 1))).set 7 (.int .i64 c)).set 9 (.lst false (ps.map Zl))
section
variable (P:List AVal) (hP:P.length=26) (hN:Zd P=true) (h0:P[0]?=some (.int .i64 2)) (l:Zb) (hl:l.length≤140737488355328)
include hP hN h0 hl
theorem ZLx {e:Int} (h:Zav 1 l=.error e):∃ cs,Zd cs=true∧E 77 [.ref 0 0] (Zg P l)=some (.pan (Zy e),[.var cs]):=by
 have a4:=fun L=>(Z8 P hP 0 (by omega) L).trans h0
 have hT:=fun σ site hs=>Zfw P hP hN l hl σ 0 site hs (m:=1) rfl (by decide) h
 refine ⟨P++[.lst false (l.map Zc)],Zx P hP hN _ _,?_⟩
 unfold Zg
 rw [Zh (by rfl) Za8]
 simp -implicitDefEqProofs only [EQA,ZC,Nat.reduceAdd,Nat.reduceLT,Nat.reduceLeDiff,Nat.reduceEqDiff,Nat.reduceBEq,↓reduceIte,Za9,Za5,oI,oN,a4,hT,Int.reduceBEq]
 exact ZV rfl (Zx P hP hN _ _)
theorem ZyM {f:Int} {r:Zb} (h:Zav 1 l=.ok (f,r)) (hf:¬f < 2):∃ cs,Zd cs=true∧E 77 [.ref 0 0] (Zg P l)=some (.pan (Zy 129),[.var cs]):=by
 have a4:=fun L=>(Z8 P hP 0 (by omega) L).trans h0
 have hT:=fun σ site hs=>ZcI P hP hN l hl σ 0 site hs (m:=1) rfl h
 have m1:=Zbx
 refine ⟨P++[.lst false (r.map Zc)],Zx P hP hN _ _,?_⟩
 unfold Zg
 rw [Zh (by rfl) Za8]
 simp -implicitDefEqProofs only [EQA,ZC,Nat.reduceAdd,Nat.reduceLT,Nat.reduceLeDiff,Nat.reduceEqDiff,Nat.reduceBEq,decide_false,↓reduceIte,Za9,Za5,oI,oN,a4,hT,m1,hf,Int.reduceBEq]
 exact ZV rfl (Zx P hP hN _ _)
theorem ZNo {f:Int} {r:Zb} (h:Zav 1 l=.ok (f,r)) (hf:f < 2) {e:Int} (hc:Zau 2 r=.error e):∃ cs,Zd cs=true∧E 77 [.ref 0 0] (Zg P l)=some (.pan (Zy e),[.var cs]):=by
 have hr:=Zf9 h
 have a1:=Z3 P hP
 have a4:=fun L=>(Z8 P hP 0 (by omega) L).trans h0
 have hT:=fun σ site hs=>ZcI P hP hN l hl σ 0 site hs (m:=1) rfl h
 have m0:=Za7
 have a3:=fun L=>Zaw P hP 25 26 (by omega) rfl L (.bool (f == 1))
 have hP1:(P.set 25 (.bool (f == 1))).length=26:=by simp [hP]
 have hN1:Zd (P.set 25 (.bool (f == 1)))=true:=ZM rfl _ hN
 have g0:(P.set 25 (.bool (f == 1)))[0]?=some (.int .i64 2):=by rw [List.getElem?_set_ne (by omega)];exact h0
 generalize P.set 25 (.bool (f == 1))=Q at *
 obtain ⟨cs,hn,he⟩:=ZrM Q hP1 hN1 2 g0 r (by omega) hc
 have hC:=fun (σ:Za) site (hs:σ[0]?=some (.var (Q++[.lst false (r.map Zc)])))=>Zcz (O:=E) (byref:=BY) (f:=116) (view:=true) (rest:=[]) (by kernel_rfl) rfl (Zx Q hP1 hN1 _ _) hn rfl he hs site
 refine ⟨cs,hn,?_⟩
 unfold Zg
 rw [Zh (by rfl) Za8]
 simp -implicitDefEqProofs only [EQA,ZC,Nat.reduceAdd,Nat.reduceSub,Nat.reduceLT,Nat.reduceLeDiff,Nat.reduceEqDiff,Nat.reduceBEq,decide_true,decide_false,↓reduceIte,List.contains_cons,Za9,Za5,oI,oN,a1,a3,a4,hT,hC,m0,hf,Int.reduceBEq,Zg7,Zdm,List.any_cons,List.any_nil,Zae,Zaf,Zam,Zao,Zar,Zah,Zc9,List.lookup_cons,List.lookup_nil]
 exact ZV rfl hn
theorem ZHx {f:Int} {r:Zb} (h:Zav 1 l=.ok (f,r)) (hf:f < 2) {c:Int} {r2:Zb} (hc:Zau 2 r=.ok (c,r2)) {e:Int} (hp:Zbr 2 r2=.error e):∃ cs,Zd cs=true∧E 77 [.ref 0 0] (Zg P l)=some (.pan (Zy e),[.var cs]):=by
 have hr2:=Zlo hc
 have hr:=Zf9 h
 have a1:=Z3 P hP
 have a4:=fun L=>(Z8 P hP 0 (by omega) L).trans h0
 have hT:=fun σ site hs=>ZcI P hP hN l hl σ 0 site hs (m:=1) rfl h
 have m0:=Za7
 have a3:=fun L=>Zaw P hP 25 26 (by omega) rfl L (.bool (f == 1))
 have hP1:(P.set 25 (.bool (f == 1))).length=26:=by simp [hP]
 have hN1:Zd (P.set 25 (.bool (f == 1)))=true:=ZM rfl _ hN
 have g0:(P.set 25 (.bool (f == 1)))[0]?=some (.int .i64 2):=by rw [List.getElem?_set_ne (by omega)];exact h0
 generalize P.set 25 (.bool (f == 1))=Q at *
 have hC:=fun σ site hs=>ZiO Q hP1 hN1 r (by omega) σ 0 site hs 2 g0 hc
 have b1:=Z3 _ hP1
 have b3:=fun L=>Zaw _ hP1 7 8 (by omega) rfl L (.int .i64 c)
 have hP2:(Q.set 7 (.int .i64 c)).length=26:=by simp [hP1]
 have hN2:Zd (Q.set 7 (.int .i64 c))=true:=ZM rfl _ hN1
 generalize Q.set 7 (.int .i64 c)=S at *
 have hG:=fun σ site hs=>Zfi S hP2 hN2 r2 (by omega) σ 0 site hs hp
 have c1:=Z3 _ hP2
 refine ⟨S++[.lst false (r2.map Zc)],Zx _ hP2 hN2 _ _,?_⟩
 unfold Zg
 rw [Zh (by rfl) Za8]
 simp -implicitDefEqProofs only [EQA,ZC,Nat.reduceAdd,Nat.reduceSub,Nat.reduceLT,Nat.reduceLeDiff,Nat.reduceEqDiff,Nat.reduceBEq,decide_true,decide_false,↓reduceIte,List.contains_cons,Za9,Za5,oI,oN,a1,a3,a4,b1,b3,hT,hC,hG,m0,hf,Int.reduceBEq,Zg7,Zdm,List.any_cons,List.any_nil,Zae,Zaf,Zam,Zao,Zar,Zah,Zc9,List.lookup_cons,List.lookup_nil]
 exact ZV rfl (Zx _ hP2 hN2 _ _)
theorem ZLK {f:Int} {r:Zb} (h:Zav 1 l=.ok (f,r)) (hf:f < 2) {c:Int} {r2:Zb} (hc:Zau 2 r=.ok (c,r2)) {ps:List Zt} {r3:Zb} (hp:Zbr 2 r2=.ok (ps,r3)) (hu:(Zaa 2 r2).2.1≤r2.length):E 77 [.ref 0 0] (Zg P l)=some (if r3.length=0 then .tup [] else .pan (Zy 129),Zg (Zrh P f c ps) r3):=by
 have hr2:=Zlo hc
 have hr:=Zf9 h
 have a1:=Z3 P hP
 have a4:=fun L=>(Z8 P hP 0 (by omega) L).trans h0
 have hT:=fun σ site hs=>ZcI P hP hN l hl σ 0 site hs (m:=1) rfl h
 have m0:=Za7
 have a3:=fun L=>Zaw P hP 25 26 (by omega) rfl L (.bool (f == 1))
 have hP1:(P.set 25 (.bool (f == 1))).length=26:=by simp [hP]
 have hN1:Zd (P.set 25 (.bool (f == 1)))=true:=ZM rfl _ hN
 have g0:(P.set 25 (.bool (f == 1)))[0]?=some (.int .i64 2):=by rw [List.getElem?_set_ne (by omega)];exact h0
 unfold Zrh
 generalize P.set 25 (.bool (f == 1))=Q at *
 have hC:=fun σ site hs=>ZiO Q hP1 hN1 r (by omega) σ 0 site hs 2 g0 hc
 have b1:=Z3 _ hP1
 have b3:=fun L=>Zaw _ hP1 7 8 (by omega) rfl L (.int .i64 c)
 have hP2:(Q.set 7 (.int .i64 c)).length=26:=by simp [hP1]
 have hN2:Zd (Q.set 7 (.int .i64 c))=true:=ZM rfl _ hN1
 generalize Q.set 7 (.int .i64 c)=S at *
 have hG:=fun σ site hs=>Zd7 S hP2 hN2 r2 (by omega) σ 0 site hs hu hp
 have c1:=Z3 _ hP2
 have c3:=fun L=>Zaw _ hP2 9 10 (by omega) rfl L (.lst false (ps.map Zl))
 have hP3:(S.set 9 (.lst false (ps.map Zl))).length=26:=by simp [hP2]
 have hN3:Zd (S.set 9 (.lst false (ps.map Zl)))=true:=ZM (Zb4 _ _) _ hN2
 generalize S.set 9 (.lst false (ps.map Zl))=U at *
 have d2:=Zap _ hP3
 unfold Zg
 by_cases hr3:r3.length=0
 ·have z:=ZeJ (l:=r3) (decide_eq_true hr3)
  rw [if_pos hr3]
  rw [Zh (by rfl) Za8]
  simp -implicitDefEqProofs only [EQA,ZC,Zs,Nat.reduceAdd,Nat.reduceLT,Nat.reduceLeDiff,Nat.reduceEqDiff,Nat.reduceBEq,decide_true,↓reduceIte,Zd,List.contains_cons,Za9,Za5,Zew,oI,oN,a1,a3,a4,b1,b3,c1,c3,d2,z,hT,hC,hG,m0,hf,Int.reduceBEq,Zae,Zaf,Zam,Zao,Zar,Zah,List.lookup_cons,List.lookup_nil]
  exact ZV rfl (Zx _ hP3 hN3 _ _)
 ·have z:=ZeJ (l:=r3) (decide_eq_false hr3)
  have m1:=Zbx
  rw [if_neg hr3]
  rw [Zh (by rfl) Za8]
  simp -implicitDefEqProofs only [EQA,ZC,Nat.reduceAdd,Nat.reduceLT,Nat.reduceLeDiff,Nat.reduceEqDiff,Nat.reduceBEq,decide_true,↓reduceIte,List.contains_cons,Za9,Za5,oI,oN,a1,a3,a4,b1,b3,c1,c3,d2,z,hT,hC,hG,m0,m1,hf,Int.reduceBEq,Zae,Zaf,Zam,Zao,Zar,Zah,List.lookup_cons,List.lookup_nil]
  exact ZV rfl (Zx _ hP3 hN3 _ _)
end
end Go.Proofs.YtmlkhhidifjjfaaDoor
namespace Go.Proofs.YtmlkhhidifjjfaaDoor
set_option maxHeartbeats 4000000
theorem ZxO {O:ZO} {byref:Nat→Bool} {σ:Za} {t f own:Nat} {rest:List AVal} {cs cs':List AVal} {r r':AVal} (hb:byref f=false) (hp:rest.all Zab=true) (hc:Zd cs=true) (hc':Zd cs'=true) (hn:ZI r'=true) (hv:viewR [.var cs'] r=some (r',[]))
  (h:O f (.ref 0 0::rest.map ZG) [.var cs]=some (r,[.var cs'])) (hs:σ[t]?=some (.var cs)) (site:Nat) (hff:ZaY σ site own=true):Zj O byref σ site f own true (.ref t 0::rest)=some (r',σ.set t (.var cs'),{ any:=true,upd:=[(t,cs')] }):=by
 have htl:t < σ.length:=by
  rcases Nat.lt_or_ge t σ.length with h | h
  ·exact h
  ·rw [List.getElem?_eq_none h] at hs;cases hs
 have hup:Za4 (σ.set t (.var cs')) [t]=[(t,cs')]:=by
  simp only [Za4,List.getElem?_set,if_pos htl,if_true]
 have hd:σ.getD t .free=.var cs:=by simp [List.getD_eq_getElem?_getD,hs]
 have hf0:Zq σ []=σ:=rfl
 have hsh:showAs σ (.ref t 0::rest)=some (.ref t 0::rest.map ZG,[]):=by
  rw [showAs,show showA σ (.ref t 0)=some (.ref t 0,[]) from rfl,Zd1 hp]
  rfl
 have href:Zr (.ref t 0::rest.map ZG)=[t]:=by
  rw [Zr,Zdg hp];rfl
 unfold Zj ZbV
 rw [hb]
 simp only [Bool.false_eq_true,if_false,hsh,hf0,href,Ze0 hs hc]
 unfold ZbB
 have hall:([t].all fun t=>okB (σ.getD t .free))=true:=by simp [List.all_cons,List.all_nil,hs,okB]
 rw [if_pos hall]
 have hρ:Zm σ 0 [t] t 0=some (0,0):=by simp [Zm,ZY,hs,Zo,ZQ]
 have hheap:Zv σ 0 [t] (Zm σ 0 [t]) [t] 0=[.var cs]:=by
  simp only [Zv,hd,ZF,(ZaS _ cs hc).1]
 have hargs:Zf (Zm σ 0 [t]) (.ref t 0::rest.map ZG)=.ref 0 0::rest.map ZG:=by
  rw [Zf,Zdf hp]
  simp only [Zk,hρ]
 rw [hargs,hheap,h]
 have hask:Zad true [t].length (some (r,[.var cs']))=some (r',[.var cs']):=by
  unfold Zad
  rw [if_pos rfl]
  have hnp:∀ x,r≠.pan x:=by rintro x rfl;simp [viewR,ZR,ZL] at hv
  rw [show ZbH [t].length (some (r,[.var cs']))=(match viewR [.var cs'] r with
   | some (r',ts)=>match gcA [t].length [r'] (Zq [.var cs'] ts) with
    | ([r''],σ')=>some (r'',σ')
    | _=>none
   | none=>none) from by cases r <;> first | rfl | exact absurd rfl (hnp _)]
  rw [hv]
  simp only [List.length_cons,List.length_nil,Nat.zero_add,show Zq [ZK.var cs'] []=[.var cs'] from rfl,Zkx hn hc']
 rw [hask]
 have hk:ZaZ σ [t] [.var cs'] 0=true:=by
  simp [ZaZ,okB,hs,Zcb,Zo]
 simp only [ZaC,List.isEmpty_cons,Bool.false_eq_true,if_false,List.length_cons,List.length_nil,Nat.zero_add,Nat.le_add_right,Nat.le_refl,decide_true,hk,hff,Bool.and_self,if_true,Za2,ZaH,List.getD_cons_zero,ZF,(Za1 _ r' hn).1,(ZaS _ cs' hc').1,hup]
theorem ZNr {O:ZO} {byref:Nat→Bool} {σ:Za} {t f own:Nat} {rest:List AVal} {cs cs':List AVal} {x:AVal} {view:Bool} (hb:byref f=false) (hp:rest.all Zab=true) (hc:Zd cs=true) (hc':Zd cs'=true) (hn:ZI x=true)
  (h:O f (.ref 0 0::rest.map ZG) [.var cs]=some (.pan x,[.var cs'])) (hs:σ[t]?=some (.var cs)) (site:Nat) (hff:ZaY σ site own=true):Zj O byref σ site f own view (.ref t 0::rest)=some (.pan x,σ.set t (.var cs'),{ any:=true,upd:=[(t,cs')] }):=by
 have htl:t < σ.length:=by
  rcases Nat.lt_or_ge t σ.length with h | h
  ·exact h
  ·rw [List.getElem?_eq_none h] at hs;cases hs
 have hup:Za4 (σ.set t (.var cs')) [t]=[(t,cs')]:=by
  simp only [Za4,List.getElem?_set,if_pos htl,if_true]
 have hd:σ.getD t .free=.var cs:=by simp [List.getD_eq_getElem?_getD,hs]
 have hf0:Zq σ []=σ:=rfl
 have hsh:showAs σ (.ref t 0::rest)=some (.ref t 0::rest.map ZG,[]):=by
  rw [showAs,show showA σ (.ref t 0)=some (.ref t 0,[]) from rfl,Zd1 hp]
  rfl
 have href:Zr (.ref t 0::rest.map ZG)=[t]:=by
  rw [Zr,Zdg hp];rfl
 unfold Zj ZbV
 rw [hb]
 simp only [Bool.false_eq_true,if_false,hsh,hf0,href,Ze0 hs hc]
 unfold ZbB
 have hall:([t].all fun t=>okB (σ.getD t .free))=true:=by simp [List.all_cons,List.all_nil,hs,okB]
 rw [if_pos hall]
 have hρ:Zm σ 0 [t] t 0=some (0,0):=by simp [Zm,ZY,hs,Zo,ZQ]
 have hheap:Zv σ 0 [t] (Zm σ 0 [t]) [t] 0=[.var cs]:=by
  simp only [Zv,hd,ZF,(ZaS _ cs hc).1]
 have hargs:Zf (Zm σ 0 [t]) (.ref t 0::rest.map ZG)=.ref 0 0::rest.map ZG:=by
  rw [Zf,Zdf hp]
  simp only [Zk,hρ]
 rw [hargs,hheap,h]
 have hask:Zad view [t].length (some (.pan x,[.var cs']))=some (.pan x,[.var cs']):=by
  unfold Zad
  split <;> rfl
 rw [hask]
 have hk:ZaZ σ [t] [.var cs'] 0=true:=by
  simp [ZaZ,okB,hs,Zcb,Zo]
 have hnp:ZI (.pan x)=true:=by simpa only [ZI] using hn
 simp only [ZaC,List.isEmpty_cons,Bool.false_eq_true,if_false,List.length_cons,List.length_nil,Nat.zero_add,Nat.le_add_right,Nat.le_refl,decide_true,hk,hff,Bool.and_self,if_true,Za2,ZaH,List.getD_cons_zero,ZF,(Za1 _ _ hnp).1,(ZaS _ cs' hc').1,hup]
theorem ZcS {O:ZO} {byref:Nat→Bool} {σ:Za} {site f own:Nat} {view:Bool} {args vs vs':List AVal} {ids:List Nat} {h0 h:Za} {r0 r:AVal} (hb:byref f=false) (hsh:showAs σ args=some (vs,[])) (hre:Zz σ 1000 (Zr vs) []=ids) (hne:ids.isEmpty=false)
  (hall:(ids.all fun t=>okB (σ.getD t .free))=true) (hvs:Zf (Zm σ 0 ids) vs=vs') (hh:Zv σ 0 ids (Zm σ 0 ids) ids 0=h0) {hh0:Za} (hO:O f vs' h0=some (r0,hh0)) (hv:Zad view ids.length (some (r0,hh0))=some (r,h))
  (hl1:h.length≤ids.length+own) (hl2:ids.length≤h.length) (hk:ZaZ σ ids h 0=true) (hff:ZaY σ site own=true) {r':AVal} (hr:Zk (ZaA σ ids site) r=r') {σ':Za} (hlay:Za2 σ ids site h 0 σ=σ') {u:List (Nat×List AVal)} (hu:Za4 σ' ids=u) :
  Zj O byref σ site f own view args=some (r',σ',{ any:=true,upd:=u }):=by
 subst hr hlay hu
 unfold Zj ZbV
 rw [hb]
 simp only [Bool.false_eq_true,if_false,hsh,show Zq σ []=σ from rfl,hre]
 unfold ZbB
 rw [if_pos hall,hvs,hh,hO,hv]
 simp only [ZaC,hne,Bool.false_and,Bool.false_eq_true,if_false,hl1,hl2,decide_true,hk,hff,Bool.and_self,if_true]
end Go.Proofs.YtmlkhhidifjjfaaDoor
namespace Go.Proofs.YtmlkhhidifjjfaaDoor
set_option maxHeartbeats 8000000
set_option maxRecDepth 10000
section
variable (P:List AVal) (hP:P.length=26) (hN:Zd P=true) (l:Zb) (hl:l.length≤140737488355328)
include hP hN hl
theorem ZA0 (xs:List AVal) {c:Int} (h:Zai l=.error c):evC FC PR BY 4 Zdj [(1,.ref 3 0),(0,.ref 0 0)] [.var [.ref 1 0],.var (Zi P 11 2 0 xs.length++[.lst false (l.map Zc)]),.row 0 1 xs,.var [.ref 1 0]]=some (.panic (Zy c),[],[.var [.ref 1 0],.var (Zi P 11 2 0 xs.length++[.lst false (l.map Zc)]),.row 0 1 xs,.var [.ref 1 0],.free]):=by
 have hT:=fun σ site hs hr=>Zt8 P hP hN 11 (by omega) xs.length 1 xs l hl σ 1 2 0 site (by omega) hs hr h
 have hL:=ZbY P hP hN 11 (by omega) xs.length 2 0
 have hc:(Zi P 11 2 0 xs.length)[11]?=some (.sl 2 0 0 xs.length):=by unfold Zi;rw [List.getElem?_set_self (by omega)]
 have a4:=fun L=>(Z8 _ hL 11 (by omega) L).trans hc
 simp -implicitDefEqProofs only [EQA,Nat.reduceAdd,Nat.reduceSub,Nat.reduceLT,Nat.reduceLeDiff,Nat.reduceEqDiff,Nat.reduceBEq,reduceCtorEq,decide_true,decide_false,↓reduceIte,List.contains_cons,Zdj,oI,oN,hT,a4,Zg7,Zdm,List.any_cons,List.any_nil,Zae,Zaf,Zam,Zao,Zar,Zah,Zc9,List.lookup_cons,List.lookup_nil]
theorem ZxF (xs:List AVal) (k:Int) (hk:P[0]?=some (.int .i64 k)) {e:Int} (h:Zau k l=.error e):∃ r:Zb,evC FC PR BY 4 Zc4 [(1,.ref 3 0),(0,.ref 0 0)] [.var [.ref 1 0],.var (Zi P 8 2 0 xs.length++[.lst false (l.map Zc)]),.row 0 1 xs,.var [.ref 1 0]]=some (.panic (Zy e),[],[.var [.ref 1 0],.var (Zi P 8 2 0 xs.length++[.lst false (r.map Zc)]),.row 0 1 xs,.var [.ref 1 0],.free]):=by
 have hk0:(Zi P 8 1 0 xs.length)[0]?=some (.int .i64 k):=by unfold Zi;rw [List.getElem?_set_ne (by omega)];exact hk
 have hT0:=fun (σ:Za) site (hs:σ[1]?=some (.var (Zi P 8 2 0 xs.length++[.lst false (l.map Zc)]))) (hr:σ[2]?=some (.row 0 1 xs))=>ZGc P hP hN 8 (by omega) xs.length 1 xs l hl k hk0 σ 1 2 0 site (by omega) hs hr h
 have hL:=ZbY P hP hN 8 (by omega) xs.length 2 0
 have hc:(Zi P 8 2 0 xs.length)[8]?=some (.sl 2 0 0 xs.length):=by unfold Zi;rw [List.getElem?_set_self (by omega)]
 have a4:=fun L=>(Z8 _ hL 8 (by omega) L).trans hc
 obtain ⟨r,hT⟩:=hT0 [.var [.ref 1 0],.var (Zi P 8 2 0 xs.length++[.lst false (l.map Zc)]),.row 0 1 xs,.var [.ref 1 0],.free] 4 rfl rfl
 refine ⟨r,?_⟩
 simp -implicitDefEqProofs only [EQA,Nat.reduceAdd,Nat.reduceSub,Nat.reduceLT,Nat.reduceLeDiff,Nat.reduceEqDiff,Nat.reduceBEq,reduceCtorEq,decide_true,decide_false,↓reduceIte,List.contains_cons,Zc4,oI,oN,hT,a4,Zg7,Zdm,List.any_cons,List.any_nil,Zae,Zaf,Zam,Zao,Zar,Zah,Zc9,List.lookup_cons,List.lookup_nil]
end
section
variable {cs:List AVal} {r:AVal} {σ:Za}
theorem Zr6 (hr:ZI r=true) (hc:Zd cs=true):Zak 3 (.var [.ref 1 0]::.var cs::.var [.ref 1 0]::σ) r=some (r,[.var [.ref 1 0],.var cs,.var [.ref 1 0]]):=by
 have e1:=fun ρ=>Za1 ρ r hr
 have e2:=fun ρ=>ZaS ρ cs hc
 have hi:ZB 3 [r] (.var [.ref 1 0]::.var cs::.var [.ref 1 0]::σ)=[0,1,2]:=by
  have : Zr [r]=[]:=by simp only [Zr,(e1 (fun _ _=>none)).2,List.append_nil]
  have hR:List.range 3=[0,1,2]:=rfl
  simp only [ZB,this,List.nil_append,hR,List.flatMap_cons,List.flatMap_nil,List.append_nil,List.getD_cons_zero,List.getD_cons_succ,ZJ,(e2 (fun _ _=>none)).2]
  rfl
 have hρ:Zm (.var [.ref 1 0]::.var cs::.var [.ref 1 0]::σ) 3 [0,1,2] 1 0=some (1,0):=rfl
 simp only [Zak,gcA,hi,Zf,(e1 _).1,Zv,List.getD_cons_zero,List.getD_cons_succ,ZF,Zk,hρ,(e2 _).1]
theorem Zsj {w:Nat} {xs:List AVal} (hr:ZI r=true) (hc:Zr cs=[3]) (hren:∀ ρ:Rho,ρ 3 0=some (3,0)→Zf ρ cs=cs):Zak 3 (.var [.ref 1 0]::.var cs::.var [.ref 1 0]::.row 0 w xs::σ) r=some (r,[.var [.ref 1 0],.var cs,.var [.ref 1 0],.row 0 w xs]):=by
 have e1:=fun ρ=>Za1 ρ r hr
 have hi:ZB 3 [r] (.var [.ref 1 0]::.var cs::.var [.ref 1 0]::.row 0 w xs::σ)=[0,1,2,3]:=by
  have : Zr [r]=[]:=by simp only [Zr,(e1 (fun _ _=>none)).2,List.append_nil]
  have hR:List.range 3=[0,1,2]:=rfl
  simp only [ZB,this,List.nil_append,hR,List.flatMap_cons,List.flatMap_nil,List.append_nil,List.getD_cons_zero,List.getD_cons_succ,ZJ,hc]
  rfl
 have hρ:Zm (.var [.ref 1 0]::.var cs::.var [.ref 1 0]::.row 0 w xs::σ) 3 [0,1,2,3] 1 0=some (1,0):=rfl
 have hρ3:Zm (.var [.ref 1 0]::.var cs::.var [.ref 1 0]::.row 0 w xs::σ) 3 [0,1,2,3] 3 0=some (3,0):=rfl
 simp only [Zak,gcA,hi,Zf,(e1 _).1,Zv,List.getD_cons_zero,List.getD_cons_succ,ZQ,Zo,ZF,Zk,hρ,hren _ hρ3]
 rfl
theorem ZlP {w g:Nat} {xs:List AVal} (hr:ZI r=true) (hg:g≤1) (hc:Zr cs=[2]) (hren:∀ ρ:Rho,ρ 2 g=some (2,g)→Zf ρ cs=cs):Zak 4 (.var [.ref 1 0]::.var cs::.row g w xs::.var [.ref 1 0]::σ) r=some (r,[.var [.ref 1 0],.var cs,.row g w xs,.var [.ref 1 0]]):=by
 have e1:=fun ρ=>Za1 ρ r hr
 have hi:ZB 4 [r] (.var [.ref 1 0]::.var cs::.row g w xs::.var [.ref 1 0]::σ)=[0,1,2,3]:=by
  have : Zr [r]=[]:=by simp only [Zr,(e1 (fun _ _=>none)).2,List.append_nil]
  have hR:List.range 4=[0,1,2,3]:=rfl
  simp only [ZB,this,List.nil_append,hR,List.flatMap_cons,List.flatMap_nil,List.append_nil,List.getD_cons_zero,List.getD_cons_succ,ZJ,hc]
  rfl
 have hng:(if g=0 then 0 else 1)=g:=by split <;> omega
 have hρ:Zm (.var [.ref 1 0]::.var cs::.row g w xs::.var [.ref 1 0]::σ) 4 [0,1,2,3] 1 0=some (1,0):=rfl
 have hρ3:Zm (.var [.ref 1 0]::.var cs::.row g w xs::.var [.ref 1 0]::σ) 4 [0,1,2,3] 2 g=some (2,g):=by
  simp only [Zm,ZY,Zo,ZQ,List.getElem?_cons_succ,List.getElem?_cons_zero]
  simp [hng]
 simp only [Zak,gcA,hi,Zf,(e1 _).1,Zv,List.getD_cons_zero,List.getD_cons_succ,ZQ,Zo,ZF,Zk,hρ,hren _ hρ3]
 simp [hng]
end
section
variable (P:List AVal) (hP:P.length=26) (hN:Zd P=true) (l:Zb) (hl:l.length≤140737488355328)
include hP hN hl
theorem Zhs (k:Nat) (hk:k < 26) (r g n:Nat) (L:Zb):Zr (Zi P k r g n++[.lst false (L.map Zc)])=[r]:=by
 rw [Zct,Zi,Zjc hN (by omega)];rfl
theorem ZhK (k r g n r' g':Nat) (L:Zb) (ρ:Rho) (h:ρ r g=some (r',g')):Zf ρ (Zi P k r g n++[.lst false (L.map Zc)])=Zi P k r' g' n++[.lst false (L.map Zc)]:=by
 rw [ZbQ,Zi,ZiT ρ hN,Zi]
 simp only [Zk,h,Zf]
theorem Zwu (h11:P[11]?=some (.lst true [])) {s r:Zb} (h:Zai l=.ok (s,r)):E 123 [.ref 0 0,.ref 2 0] [.var [.ref 1 0],.var (P++[.lst false (l.map Zc)]),.var [.ref 1 0]]=some (.tup [],[.var [.ref 1 0],.var (Zi P 11 3 0 1++[.lst false (r.map Zc)]),.var [.ref 1 0],.row 0 1 [.str s]]):=by
 rw [Zh (by rfl) Zlh]
 have:=ZEI P hP hN l hl h11 h
 have h2:=Zsj (σ:=[]) (w:=1) (xs:=[.str s]) (r:=.tup []) rfl (Zhs P hP hN l hl 11 (by omega) 3 0 1 r) (fun ρ hρ=>ZhK P hP hN l hl 11 3 0 1 3 0 r ρ hρ)
 show Zan 3 _ (evC FC PR BY 3 Zdj [(1,.ref 2 0),(0,.ref 0 0)] _)=_
 rw [this]
 exact h2
theorem ZGH {c:Int} (h:Zai l=.error c) (h11:P[11]?=some (.lst true [])):E 123 [.ref 0 0,.ref 2 0] [.var [.ref 1 0],.var (P++[.lst false (l.map Zc)]),.var [.ref 1 0]]=some (.pan (Zy c),[.var [.ref 1 0],.var (P++[.lst false (l.map Zc)]),.var [.ref 1 0]]):=by
 rw [Zh (by rfl) Zlh]
 have:=ZwT P hP hN l hl h h11
 have h2:=Zr6 (σ:=[.free]) (r:=.pan (Zy c)) rfl (Zx P hP hN false (l.map Zc))
 show Zan 3 _ (evC FC PR BY 3 Zdj [(1,.ref 2 0),(0,.ref 0 0)] _)=_
 rw [this]
 exact h2
theorem ZyN (h8:P[8]?=some (.lst true [])) (k:Int) (hk:P[0]?=some (.int .i64 k)) {c:Int} {r:Zb} (h:Zau k l=.ok (c,r)):E 125 [.ref 0 0,.ref 2 0] [.var [.ref 1 0],.var (P++[.lst false (l.map Zc)]),.var [.ref 1 0]]=some (.tup [],[.var [.ref 1 0],.var (Zi P 8 3 0 1++[.lst false (r.map Zc)]),.var [.ref 1 0],.row 0 1 [.int .i64 c]]):=by
 rw [Zh (by rfl) Zj4]
 have:=Zw3 P hP hN l hl h8 k hk h
 have h2:=Zsj (σ:=[]) (w:=1) (xs:=[.int .i64 c]) (r:=.tup []) rfl (Zhs P hP hN l hl 8 (by omega) 3 0 1 r) (fun ρ hρ=>ZhK P hP hN l hl 8 3 0 1 3 0 r ρ hρ)
 show Zan 3 _ (evC FC PR BY 3 Zc4 [(1,.ref 2 0),(0,.ref 0 0)] _)=_
 rw [this]
 exact h2
theorem ZEU (h8:P[8]?=some (.lst true [])) (k:Int) (hk:P[0]?=some (.int .i64 k)) {e:Int} (h:Zau k l=.error e):∃ r:Zb,E 125 [.ref 0 0,.ref 2 0] [.var [.ref 1 0],.var (P++[.lst false (l.map Zc)]),.var [.ref 1 0]]=some (.pan (Zy e),[.var [.ref 1 0],.var (P++[.lst false (r.map Zc)]),.var [.ref 1 0]]):=by
 obtain ⟨r,this⟩:=Zzt P hP hN l hl h8 k hk h
 have h2:=Zr6 (σ:=[.free]) (r:=.pan (Zy e)) rfl (Zx P hP hN false (r.map Zc))
 refine ⟨r,?_⟩
 rw [Zh (by rfl) Zj4]
 show Zan 3 _ (evC FC PR BY 3 Zc4 [(1,.ref 2 0),(0,.ref 0 0)] _)=_
 rw [this]
 exact h2
variable (xs:List AVal)
theorem ZzI (hx:xs.length*16+16≤140737488355328) (kk:kOk 1 xs=true) {s r:Zb} (h:Zai l=.ok (s,r)):E 123 [.ref 0 0,.ref 3 0] [.var [.ref 1 0],.var (Zi P 11 2 0 xs.length++[.lst false (l.map Zc)]),.row 0 1 xs,.var [.ref 1 0]]=some (.tup [],[.var [.ref 1 0],.var (Zi P 11 2 1 (xs.length+1)++[.lst false (r.map Zc)]),.row 1 1 (xs++[.str s]),.var [.ref 1 0]]):=by
 rw [Zh (by rfl) Zlh]
 have:=ZFW P hP hN l hl xs hx kk h
 have h2:=ZlP (σ:=[.free]) (w:=1) (g:=1) (xs:=xs++[.str s]) (r:=.tup []) rfl (by omega) (Zhs P hP hN l hl 11 (by omega) 2 1 (xs.length+1) r) (fun ρ hρ=>ZhK P hP hN l hl 11 2 1 (xs.length+1) 2 1 r ρ hρ)
 show Zan 4 _ (evC FC PR BY 4 Zdj [(1,.ref 3 0),(0,.ref 0 0)] _)=_
 rw [this]
 exact h2
theorem ZKM {c:Int} (h:Zai l=.error c):E 123 [.ref 0 0,.ref 3 0] [.var [.ref 1 0],.var (Zi P 11 2 0 xs.length++[.lst false (l.map Zc)]),.row 0 1 xs,.var [.ref 1 0]]=some (.pan (Zy c),[.var [.ref 1 0],.var (Zi P 11 2 0 xs.length++[.lst false (l.map Zc)]),.row 0 1 xs,.var [.ref 1 0]]):=by
 rw [Zh (by rfl) Zlh]
 have:=ZA0 P hP hN l hl xs h
 have h2:=ZlP (σ:=[.free]) (w:=1) (g:=0) (xs:=xs) (r:=.pan (Zy c)) rfl (by omega) (Zhs P hP hN l hl 11 (by omega) 2 0 xs.length l) (fun ρ hρ=>ZhK P hP hN l hl 11 2 0 xs.length 2 0 l ρ hρ)
 show Zan 4 _ (evC FC PR BY 4 Zdj [(1,.ref 3 0),(0,.ref 0 0)] _)=_
 rw [this]
 exact h2
theorem ZMH (hx:xs.length*8+8≤140737488355328) (kk:kOk 1 xs=true) (k:Int) (hk:P[0]?=some (.int .i64 k)) {c:Int} {r:Zb} (h:Zau k l=.ok (c,r)):E 125 [.ref 0 0,.ref 3 0] [.var [.ref 1 0],.var (Zi P 8 2 0 xs.length++[.lst false (l.map Zc)]),.row 0 1 xs,.var [.ref 1 0]]=some (.tup [],[.var [.ref 1 0],.var (Zi P 8 2 1 (xs.length+1)++[.lst false (r.map Zc)]),.row 1 1 (xs++[.int .i64 c]),.var [.ref 1 0]]):=by
 rw [Zh (by rfl) Zj4]
 have:=ZJT P hP hN l hl xs hx kk k hk h
 have h2:=ZlP (σ:=[.free]) (w:=1) (g:=1) (xs:=xs++[.int .i64 c]) (r:=.tup []) rfl (by omega) (Zhs P hP hN l hl 8 (by omega) 2 1 (xs.length+1) r) (fun ρ hρ=>ZhK P hP hN l hl 8 2 1 (xs.length+1) 2 1 r ρ hρ)
 show Zan 4 _ (evC FC PR BY 4 Zc4 [(1,.ref 3 0),(0,.ref 0 0)] _)=_
 rw [this]
 exact h2
theorem ZN9 (k:Int) (hk:P[0]?=some (.int .i64 k)) {e:Int} (h:Zau k l=.error e):∃ r:Zb,E 125 [.ref 0 0,.ref 3 0] [.var [.ref 1 0],.var (Zi P 8 2 0 xs.length++[.lst false (l.map Zc)]),.row 0 1 xs,.var [.ref 1 0]]=some (.pan (Zy e),[.var [.ref 1 0],.var (Zi P 8 2 0 xs.length++[.lst false (r.map Zc)]),.row 0 1 xs,.var [.ref 1 0]]):=by
 obtain ⟨r,this⟩:=ZxF P hP hN l hl xs k hk h
 have h2:=ZlP (σ:=[.free]) (w:=1) (g:=0) (xs:=xs) (r:=.pan (Zy e)) rfl (by omega) (Zhs P hP hN l hl 8 (by omega) 2 0 xs.length r) (fun ρ hρ=>ZhK P hP hN l hl 8 2 0 xs.length 2 0 r ρ hρ)
 refine ⟨r,?_⟩
 rw [Zh (by rfl) Zj4]
 show Zan 4 _ (evC FC PR BY 4 Zc4 [(1,.ref 3 0),(0,.ref 0 0)] _)=_
 rw [this]
 exact h2
end
end Go.Proofs.YtmlkhhidifjjfaaDoor
namespace Go.Proofs.YtmlkhhidifjjfaaDoor
set_option maxHeartbeats 8000000
set_option maxRecDepth 10000
def ZaE {α:Type} (one:Zb→RK α):Nat→Zb→Except Int (List α)
 | 0,l=>if l.length=0 then .ok [] else .error 0
 | n+1,l=>if l.length=0 then .ok [] else match one l with
  | .error e=>.error e
  | .ok (a,r)=>match ZaE one n r with
   | .error e=>.error e
   | .ok t=>.ok (a::t)
section
variable {O:ZO} {byref:Nat→Bool} {f:Nat} {cs cs1 cs2 cs3 xs xs2:List AVal} {w w2 g2:Nat} {q:AVal} {σ:Za} {site:Nat}
theorem ZrQ (h0:σ[0]?=some (.var cs)) (h1:σ[1]?=some (.var [.ref 0 0])) (h2:σ[2]?=some (.var [.ref 0 0])) (hc:Zr cs=[]):Zz σ 1000 [1,2] []=[1,0,2]:=by
 have d0:σ.getD 0 .free=.var cs:=by simp [List.getD_eq_getElem?_getD,h0]
 have d1:σ.getD 1 .free=.var [.ref 0 0]:=by simp [List.getD_eq_getElem?_getD,h1]
 have d2:σ.getD 2 .free=.var [.ref 0 0]:=by simp [List.getD_eq_getElem?_getD,h2]
 rw [show (1000:Nat)=995+1+1+1+1+1 from rfl]
 simp only [Zz,d0,d1,d2,ZJ,Zr,ZX,hc,List.contains_cons,List.contains_nil,List.append_nil,List.nil_append,List.cons_append,Bool.or_false,Bool.false_eq_true,if_false]
 simp
theorem ZDU (h0:σ[0]?=some (.var cs)) (h1:σ[1]?=some (.var [.ref 0 0])) (h2:σ[2]?=some (.var [.ref 0 0])) (h3:σ[3]?=some (.row 0 w xs)) (hc:Zr cs=[3]):Zz σ 1000 [1,2] []=[1,0,3,2]:=by
 have d0:σ.getD 0 .free=.var cs:=by simp [List.getD_eq_getElem?_getD,h0]
 have d1:σ.getD 1 .free=.var [.ref 0 0]:=by simp [List.getD_eq_getElem?_getD,h1]
 have d2:σ.getD 2 .free=.var [.ref 0 0]:=by simp [List.getD_eq_getElem?_getD,h2]
 have d3:σ.getD 3 .free=.row 0 w xs:=by simp [List.getD_eq_getElem?_getD,h3]
 rw [show (1000:Nat)=994+1+1+1+1+1+1 from rfl]
 simp only [Zz,d0,d1,d2,d3,ZJ,Zr,ZX,hc,List.contains_cons,List.contains_nil,List.append_nil,List.nil_append,List.cons_append,Bool.or_false,Bool.false_eq_true,if_false]
 simp
theorem ZKJ (hb:byref f=false) (hc:Zd cs=true) (hq:ZI q=true) (hback:∀ ρ:Rho,ρ 3 0=some (3,0)→Zf ρ cs2=cs3) (hO:O f [.ref 0 0,.ref 2 0] [.var [.ref 1 0],.var cs,.var [.ref 1 0]]=some (q,[.var [.ref 1 0],.var cs2,.var [.ref 1 0],.row 0 w xs])) :
  Zj O byref [.var cs,.var [.ref 0 0],.var [.ref 0 0],.free,.free,.free,.free] 3 f 4 false [.ref 1 0,.ref 2 0]=some (q,[.var cs3,.var [.ref 0 0],.var [.ref 0 0],.row 0 w xs,.free,.free,.free],{ any:=true,upd:=[(1,[.ref 0 0]),(0,cs3),(2,[.ref 0 0])] }):=by
 have ec:=fun ρ=>ZaS ρ cs hc
 refine ZcS (ids:=[1,0,2]) (vs:=[.ref 1 0,.ref 2 0]) hb rfl (ZrQ rfl rfl rfl (ec (fun _ _=>none)).2) rfl rfl rfl ?_ hO rfl (by simp) (by simp) rfl rfl (Za1 _ q hq).1 ?_ rfl
 ·show [ZK.var (Zf _ [.ref 0 0]),.var (Zf _ cs),.var (Zf _ [.ref 0 0])]=_
  rw [(ec _).1];rfl
 ·have hb3:=hback (ZaA [.var cs,.var [.ref 0 0],.var [.ref 0 0],.free,.free,.free,.free] [1,0,2] 3) rfl
  show [ZK.var (Zf _ cs2),.var (Zf _ [.ref 1 0]),.var (Zf _ [.ref 1 0]),.row 0 w xs,.free,.free,.free]=_
  rw [hb3];rfl
theorem ZNE (hb:byref f=false) (hc:Zd cs=true) (hq:ZI q=true) (hc2:Zd cs2=true) (hO:O f [.ref 0 0,.ref 2 0] [.var [.ref 1 0],.var cs,.var [.ref 1 0]]=some (q,[.var [.ref 1 0],.var cs2,.var [.ref 1 0]])) :
  Zj O byref [.var cs,.var [.ref 0 0],.var [.ref 0 0],.free,.free,.free,.free] 3 f 4 false [.ref 1 0,.ref 2 0]=some (q,[.var cs2,.var [.ref 0 0],.var [.ref 0 0],.free,.free,.free,.free],{ any:=true,upd:=[(1,[.ref 0 0]),(0,cs2),(2,[.ref 0 0])] }):=by
 have ec:=fun ρ=>ZaS ρ cs hc
 refine ZcS (ids:=[1,0,2]) (vs:=[.ref 1 0,.ref 2 0]) hb rfl (ZrQ rfl rfl rfl (ec (fun _ _=>none)).2) rfl rfl rfl ?_ hO rfl (by simp) (by simp) rfl rfl (Za1 _ q hq).1 ?_ rfl
 ·show [ZK.var (Zf _ [.ref 0 0]),.var (Zf _ cs),.var (Zf _ [.ref 0 0])]=_
  rw [(ec _).1];rfl
 ·show [ZK.var (Zf _ cs2),.var (Zf _ [.ref 1 0]),.var (Zf _ [.ref 1 0]),.free,.free,.free,.free]=_
  rw [(ZaS _ cs2 hc2).1];rfl
theorem Zro (hb:byref f=false) (hc:Zr cs=[3]) (hren:∀ ρ:Rho,ρ 3 0=some (2,0)→Zf ρ cs=cs1) (hq:ZI q=true) (hg2:g2≤1) (hback:∀ ρ:Rho,ρ 2 g2=some (3,g2)→Zf ρ cs2=cs3) (hO:O f [.ref 0 0,.ref 3 0] [.var [.ref 1 0],.var cs1,.row 0 w xs,.var [.ref 1 0]]=some (q,[.var [.ref 1 0],.var cs2,.row g2 w2 xs2,.var [.ref 1 0]])) :
  Zj O byref [.var cs,.var [.ref 0 0],.var [.ref 0 0],.row 0 w xs,.free,.free,.free,.free] 4 f 4 false [.ref 1 0,.ref 2 0]=some (q,[.var cs3,.var [.ref 0 0],.var [.ref 0 0],.row g2 w2 xs2,.free,.free,.free,.free],{ any:=true,upd:=[(1,[.ref 0 0]),(0,cs3),(2,[.ref 0 0])] }):=by
 refine ZcS (ids:=[1,0,3,2]) (vs:=[.ref 1 0,.ref 2 0]) hb rfl (ZDU rfl rfl rfl rfl hc) rfl rfl rfl ?_ hO rfl (by simp) (by simp) ?_ rfl (Za1 _ q hq).1 ?_ rfl
 ·have h1:=hren (Zm [.var cs,.var [.ref 0 0],.var [.ref 0 0],.row 0 w xs,.free,.free,.free,.free] 0 [1,0,3,2]) rfl
  show [ZK.var (Zf _ [.ref 0 0]),.var (Zf _ cs),.row 0 w xs,.var (Zf _ [.ref 0 0])]=_
  rw [h1];rfl
 ·simp [ZaZ,okB,Zcb,Zo,hg2]
 ·have hb3:=hback (ZaA [.var cs,.var [.ref 0 0],.var [.ref 0 0],.row 0 w xs,.free,.free,.free,.free] [1,0,3,2] 4) (by simp [ZaA,Zo])
  show [ZK.var (Zf _ cs2),.var (Zf _ [.ref 1 0]),.var (Zf _ [.ref 1 0]),.row (0+g2) w2 xs2,.free,.free,.free,.free]=_
  rw [hb3,Nat.zero_add];rfl
theorem ZrR {f g:Nat} (hc:Zr cs=[3]) (hg:g≤1) (hren:∀ ρ:Rho,ρ 3 g=some (3,0)→Zf ρ cs=cs1) (τ:Za) :
  gcT 3 [(1,.fn f [.ref 1 0,.ref 2 0]),(0,.ref 0 0)] (.var cs::.var [.ref 0 0]::.var [.ref 0 0]::.row g w xs::τ)=([(1,.fn f [.ref 1 0,.ref 2 0]),(0,.ref 0 0)],[.var cs1,.var [.ref 0 0],.var [.ref 0 0],.row 0 w xs]):=by
 have hi:ZB 3 [.fn f [.ref 1 0,.ref 2 0],.ref 0 0] (.var cs::.var [.ref 0 0]::.var [.ref 0 0]::.row g w xs::τ)=[0,1,2,3]:=by
  have hR:List.range 3=[0,1,2]:=rfl
  simp only [ZB,hR,List.flatMap_cons,List.flatMap_nil,List.append_nil,List.getD_cons_zero,List.getD_cons_succ,ZJ,Zr,ZX,hc]
  rfl
 have hρ:Zm (.var cs::.var [.ref 0 0]::.var [.ref 0 0]::.row g w xs::τ) 3 [0,1,2,3] 3 g=some (3,0):=by
  simp [Zm,ZY,Zo,ZQ]
 have hρ0:Zm (.var cs::.var [.ref 0 0]::.var [.ref 0 0]::.row g w xs::τ) 3 [0,1,2,3] 0 0=some (0,0):=rfl
 have hρ1:Zm (.var cs::.var [.ref 0 0]::.var [.ref 0 0]::.row g w xs::τ) 3 [0,1,2,3] 1 0=some (1,0):=rfl
 have hρ2:Zm (.var cs::.var [.ref 0 0]::.var [.ref 0 0]::.row g w xs::τ) 3 [0,1,2,3] 2 0=some (2,0):=rfl
 simp only [gcT,gcA,List.map_cons,List.map_nil,hi,Zv,List.getD_cons_zero,List.getD_cons_succ,ZQ,Zo,ZF,Zf,Zk,hρ0,hρ1,hρ2,hren _ hρ]
 simp
theorem Zjx {r:AVal} (hr:ZI r=true) (hc:Zr cs=[3]) (hren:∀ ρ:Rho,ρ 3 0=some (3,0)→Zf ρ cs=cs) (τ:Za):Zak 3 (.var cs::.var [.ref 0 0]::.var [.ref 0 0]::.row 0 w xs::τ) r=some (r,[.var cs,.var [.ref 0 0],.var [.ref 0 0],.row 0 w xs]):=by
 have e1:=fun ρ=>Za1 ρ r hr
 have hi:ZB 3 [r] (.var cs::.var [.ref 0 0]::.var [.ref 0 0]::.row 0 w xs::τ)=[0,1,2,3]:=by
  have hR:List.range 3=[0,1,2]:=rfl
  simp only [ZB,(e1 (fun _ _=>none)).2,List.nil_append,hR,List.flatMap_cons,List.flatMap_nil,List.append_nil,List.getD_cons_zero,List.getD_cons_succ,ZJ,Zr,ZX,hc]
  rfl
 have hρ3:Zm (.var cs::.var [.ref 0 0]::.var [.ref 0 0]::.row 0 w xs::τ) 3 [0,1,2,3] 3 0=some (3,0):=rfl
 have hρ0:Zm (.var cs::.var [.ref 0 0]::.var [.ref 0 0]::.row 0 w xs::τ) 3 [0,1,2,3] 0 0=some (0,0):=rfl
 simp only [Zak,gcA,hi,Zf,(e1 _).1,Zv,List.getD_cons_zero,List.getD_cons_succ,ZQ,Zo,ZF,Zk,hρ0,hren _ hρ3]
 rfl
theorem Zld {r:AVal} (hr:ZI r=true) (hc:Zd cs=true) (τ:Za):Zak 3 (.var cs::.var [.ref 0 0]::.var [.ref 0 0]::τ) r=some (r,[.var cs,.var [.ref 0 0],.var [.ref 0 0]]):=by
 have e1:=fun ρ=>Za1 ρ r hr
 have e2:=fun ρ=>ZaS ρ cs hc
 have hi:ZB 3 [r] (.var cs::.var [.ref 0 0]::.var [.ref 0 0]::τ)=[0,1,2]:=by
  have hR:List.range 3=[0,1,2]:=rfl
  simp only [ZB,(e1 (fun _ _=>none)).2,List.nil_append,hR,List.flatMap_cons,List.flatMap_nil,List.append_nil,List.getD_cons_zero,List.getD_cons_succ,ZJ,Zr,ZX,(e2 (fun _ _=>none)).2]
  rfl
 have hρ0:Zm (.var cs::.var [.ref 0 0]::.var [.ref 0 0]::τ) 3 [0,1,2] 0 0=some (0,0):=rfl
 simp only [Zak,gcA,hi,Zf,(e1 _).1,Zv,List.getD_cons_zero,List.getD_cons_succ,ZF,Zk,hρ0,(e2 _).1]
end
section
variable {α:Type} {one:Zb→RK α} {g:α→AVal} {f k:Nat} (P:List AVal) (hP:P.length=26) (hN:Zd P=true) (hk:k < 26) (hf:f < 1000000) (hby:BY f=false)
  (hlen:∀ {l s r},one l=.ok (s,r)→r.length < l.length)
  (hT1:∀ (xs:List α) (l:Zb) (s:α) (r:Zb),l.length≤1099511627776→xs.length≤1099511627776→one l=.ok (s,r)→E f [.ref 0 0,.ref 3 0] [.var [.ref 1 0],.var (Zi P k 2 0 xs.length++[.lst false (l.map Zc)]),.row 0 1 (xs.map g),.var [.ref 1 0]]=some (.tup [],[.var [.ref 1 0],.var (Zi P k 2 1 (xs.length+1)++[.lst false (r.map Zc)]),.row 1 1 ((xs++[s]).map g),.var [.ref 1 0]]))
  (hF1:∀ (xs:List α) (l:Zb) (e:Int),l.length≤1099511627776→one l=.error e→∃ r:Zb,E f [.ref 0 0,.ref 3 0] [.var [.ref 1 0],.var (Zi P k 2 0 xs.length++[.lst false (l.map Zc)]),.row 0 1 (xs.map g),.var [.ref 1 0]]=some (.pan (Zy e),[.var [.ref 1 0],.var (Zi P k 2 0 xs.length++[.lst false (r.map Zc)]),.row 0 1 (xs.map g),.var [.ref 1 0]]))
include hP hN hk
def H3 (P:List AVal) (k n:Nat) (l:Zb) (ys:List AVal):Za:=[.var (Zi P k 3 0 n++[.lst false (l.map Zc)]),.var [.ref 0 0],.var [.ref 0 0],.row 0 1 ys]
theorem Zbt (r g n:Nat) (L:Zb):Zr (Zi P k r g n++[.lst false (L.map Zc)])=[r]:=by
 rw [Zct,Zi,Zjc hN (by omega)];rfl
theorem ZaM (r g n r' g':Nat) (L:Zb) (ρ:Rho) (h:ρ r g=some (r',g')):Zf ρ (Zi P k r g n++[.lst false (L.map Zc)])=Zi P k r' g' n++[.lst false (L.map Zc)]:=by
 rw [ZbQ,Zi,ZiT ρ hN,Zi]
 simp only [Zk,h,Zf]
include hf hby hlen hT1 hF1
theorem Zsa:∀ (n:Nat) (l:Zb) (xs:List α),l.length≤n→n+xs.length≤1099511627776 →
  (∀ ts,ZaE one n l=.ok ts→ZaX 3 [(1,.fn f [.ref 1 0,.ref 2 0]),(0,.ref 0 0)] (H3 P k xs.length l (xs.map g))=some (.tup [],H3 P k (xs++ts).length [] ((xs++ts).map g))) ∧
  (∀ e,ZaE one n l=.error e→∃ (xs':List α) (r:Zb),ZaX 3 [(1,.fn f [.ref 1 0,.ref 2 0]),(0,.ref 0 0)] (H3 P k xs.length l (xs.map g))=some (.pan (Zy e),H3 P k xs'.length r (xs'.map g))):=by
 intro n
 induction n with
 | zero =>
  intro l xs hl hx
  have l0:l=[]:=List.eq_nil_of_length_eq_zero (by omega)
  subst l0
  refine ⟨fun ts h=>?_,fun e h=>by simp [ZaE] at h⟩
  have : ts=[]:=by simpa [ZaE] using h.symm
  subst this
  rw [List.append_nil]
  have hL:=ZbY P hP hN k hk xs.length 3 0
  have b2:=Zap _ hL
  have hO:=Zjx (w:=1) (xs:=xs.map g) (r:=.tup []) rfl (Zbt P hP hN hk 3 0 xs.length []) (fun ρ h=>ZaM P hP hN hk 3 0 xs.length 3 0 [] ρ h)
  unfold H3 ZaX
  rw [Z5]
  generalize Zi P k 3 0 xs.length=Q at *
  generalize xs.map g=ys at *
  simp -implicitDefEqProofs only [EQA,Nat.reduceAdd,Nat.reduceLT,Nat.reduceEqDiff,Nat.reduceBEq,reduceCtorEq,decide_eq_true_eq,ite_self,↓reduceIte,ZjG,Zdp,Zc2,oI,b2]
  exact hO _
 | succ n ih =>
  intro l xs hl hx
  have hL:=ZbY P hP hN k hk xs.length 3 0
  have b2:=Zap _ hL
  by_cases l0:l.length=0
  ·have l0:l=[]:=List.eq_nil_of_length_eq_zero l0
   subst l0
   refine ⟨fun ts h=>?_,fun e h=>by simp [ZaE] at h⟩
   have : ts=[]:=by simpa [ZaE] using h.symm
   subst this
   rw [List.append_nil]
   have hO:=Zjx (w:=1) (xs:=xs.map g) (r:=.tup []) rfl (Zbt P hP hN hk 3 0 xs.length []) (fun ρ h=>ZaM P hP hN hk 3 0 xs.length 3 0 [] ρ h)
   unfold H3 ZaX
   rw [Z5]
   generalize Zi P k 3 0 xs.length=Q at *
   generalize xs.map g=ys at *
   simp -implicitDefEqProofs only [EQA,Nat.reduceAdd,Nat.reduceLT,Nat.reduceEqDiff,Nat.reduceBEq,reduceCtorEq,decide_eq_true_eq,ite_self,↓reduceIte,ZjG,Zdp,Zc2,oI,b2]
   exact hO _
  ·have z1:((l.length:Nat):Int) > 0:=by omega
   have z2:(0:Int) < ((l.length:Nat):Int):=by omega
   cases ho:one l with
   | error e =>
    refine ⟨fun ts h=>by simp [ZaE,l0,ho] at h,fun e' h=>?_⟩
    have : e'=e:=by simpa [ZaE,l0,ho] using h.symm
    subst this
    obtain ⟨r,hE⟩:=hF1 xs l e' (by omega) ho
    have hC:=Zro (O:=E) (byref:=BY) (cs:=Zi P k 3 0 xs.length++[.lst false (l.map Zc)]) (cs3:=Zi P k 3 0 xs.length++[.lst false (r.map Zc)]) hby (Zbt P hP hN hk 3 0 xs.length l) (fun ρ h=>ZaM P hP hN hk 3 0 xs.length 2 0 l ρ h) (q:=.pan (Zy e')) rfl (by omega) (fun ρ h=>ZaM P hP hN hk 2 0 xs.length 3 0 r ρ h) hE
    have hO:=Zjx (w:=1) (xs:=xs.map g) (r:=.pan (Zy e')) rfl (Zbt P hP hN hk 3 0 xs.length r) (fun ρ h=>ZaM P hP hN hk 3 0 xs.length 3 0 r ρ h)
    refine ⟨xs,r,?_⟩
    unfold H3 ZaX
    rw [Z5]
    clear hE hT1 hF1 ih
    generalize Zi P k 3 0 xs.length=Q at *
    generalize xs.map g=ys at *
    generalize Zy e'=ce at *
    simp -implicitDefEqProofs only [EQA,Nat.reduceAdd,Nat.reduceLT,Nat.reduceEqDiff,Nat.reduceBEq,reduceCtorEq,decide_true,↓reduceIte,Zdp,Zc2,oI,b2,hC,hf,z1]
    exact hO _
   | ok s =>
    obtain ⟨s,r⟩:=s
    have hr:=hlen ho
    have hE:=hT1 xs l s r (by omega) (by omega) ho
    have hC:=Zro (O:=E) (byref:=BY) (cs:=Zi P k 3 0 xs.length++[.lst false (l.map Zc)]) (cs3:=Zi P k 3 1 (xs.length+1)++[.lst false (r.map Zc)]) hby (Zbt P hP hN hk 3 0 xs.length l) (fun ρ h=>ZaM P hP hN hk 3 0 xs.length 2 0 l ρ h) (q:=.tup []) rfl (by omega) (fun ρ h=>ZaM P hP hN hk 2 1 (xs.length+1) 3 1 r ρ h) hE
    have hG:=ZrR (f:=f) (w:=1) (xs:=(xs++[s]).map g) (g:=1) (Zbt P hP hN hk 3 1 (xs.length+1) r) (by omega) (fun ρ h=>ZaM P hP hN hk 3 1 (xs.length+1) 3 0 r ρ h)
    have step:ZaX 3 [(1,.fn f [.ref 1 0,.ref 2 0]),(0,.ref 0 0)] (H3 P k xs.length l (xs.map g))=ZaX 3 [(1,.fn f [.ref 1 0,.ref 2 0]),(0,.ref 0 0)] (H3 P k (xs++[s]).length r ((xs++[s]).map g)):=by
     rw [show (xs++[s]).length=xs.length+1 from by simp]
     unfold H3
     conv=>lhs;unfold ZaX
     conv=>rhs;unfold ZaX
     conv=>lhs;rw [Z5]
     clear hE hT1 hF1 ih
     generalize Zi P k 3 0 xs.length=Q at *
     generalize Zi P k 3 1 (xs.length+1)=Q2 at *
     generalize Zi P k 3 0 (xs.length+1)=Q3 at *
     generalize xs.map g=ys at *
     generalize (xs++[s]).map g=zs at *
     simp -implicitDefEqProofs only [EQA,Z2,Nat.reduceAdd,Nat.reduceLT,Nat.reduceEqDiff,Nat.reduceBEq,reduceCtorEq,decide_true,↓reduceIte,Zdp,Zc2,oI,b2,hC,hG,hf,z1]
    obtain ⟨i1,i2⟩:=ih r (xs++[s]) (by omega) (by simp;omega)
    refine ⟨fun ts h=>?_,fun e h=>?_⟩
    ·rw [step]
     simp only [ZaE,l0,ho,if_false] at h
     cases hl2:ZaE one n r with
     | error e=>rw [hl2] at h;cases h
     | ok us =>
      rw [hl2] at h
      injection h with h;subst h
      have:=i1 us hl2
      rw [List.append_assoc,List.singleton_append] at this
      exact this
    ·rw [step]
     simp only [ZaE,l0,ho,if_false] at h
     cases hl2:ZaE one n r with
     | error e2 =>
      rw [hl2] at h
      injection h with h;subst h
      exact i2 e2 hl2
     | ok us=>rw [hl2] at h;cases h
end
end Go.Proofs.YtmlkhhidifjjfaaDoor
namespace Go.Proofs.YtmlkhhidifjjfaaDoor
open Go.RowKit
def Ze7 (m i j:Nat) (rs:List Zcy) (σ:Za):Option (AVal×Za):=match resA [(3,.ref j 0),(2,.ref i 0)] σ rs with
 | some r=>Zak m σ r
 | none=>none
noncomputable def ZfK (fs:Nat→Option ZD) (prim:Zcm) (byref:Nat→Bool) (tc:Nat) (c2 c3:Ze) (rs:List Zcy) (m:Nat) (tm1:Tms) (σ1:Za) (i j:Nat):Option (AVal×Za) :=
 match evC fs prim byref σ1.length c2 tm1 σ1 with
 | some (.ret,_,σ2)=>Ze7 m i j rs σ2
 | some (.panic (.iface t x),_,σ2)=>if t=tc then match evC fs prim byref σ1.length c3 [(10,x),(1,.ref j 0),(0,.ref i 0)] σ2 with
  | some (.normal,_,σ3)=>Ze7 m i j rs σ3
  | _=>none
  else none
 | _=>none
noncomputable def Zhd (fs:Nat→Option ZD) (prim:Zcm) (byref:Nat→Bool) (tc:Nat) (c1 c2 c3:Ze) (rs:List Zcy) (args:List AVal) (σ:Za):Option (AVal×Za) :=
 match evC fs prim byref σ.length c1 (enterA 0 args []) σ with
 | some (.normal,tm1,σ1)=>match tget tm1 2,tget tm1 3 with
  | .ref i 0,.ref j 0=>if σ.length≤σ1.length∧i < σ1.length∧j < σ1.length then ZfK fs prim byref tc c2 c3 rs σ.length (tput tm1 (some 5) .top) σ1 i j else none
  | _,_=>none
 | _=>none
structure ZjR (P:Program) (f h:FuncId) (ti tc:TypeId) (an1 an2 an3:Ann) (c1 c2 c3:Ze) (rs:List Zcy):Prop where
 ex:∃ (F H:Func) (b1 b2 b3 b4:Code) (i0 j0 j1 j2 j3 bid:Nat) (t1 t2 t3 t4 t5 t6 t7 t8:TypeId) (p1 p2 p3 p4 p5 p6 p7 p8:String) (a1 a2 a3 a4 a5 a6 a7 a8:Array Edge) (at1 at2:Array TypeId) (ims:Array (String×TypeId)) (k:IntKind),
  P.funcs[f]?=some F∧(F.name == "runtime.NumGoroutine")=false∧F.ntmps=20∧Zev P F.results.toList=some rs ∧
  F.body=some (.seq b1 (.seq (.region i0 #[⟨some 5,.makeFunc (.func h) #[] #[.tmp 2,.tmp 3],t1,p1,a1,none⟩,⟨none,.defer ⟨.value (.tmp 5),#[],at1⟩,t2,p2,a2,none⟩] false) b2)) ∧
  Zcr (ZaR P an1 b1)=c1∧Zcr (ZaR P an2 b2)=c2∧an1.nt=20∧an2.nt=20∧an2.keep=[2,3] ∧
  P.funcs[h]?=some H∧(H.name == "runtime.NumGoroutine")=false∧H.ntmps=13∧H.results=#[] ∧
  H.body=some (.seq (.region j0 #[⟨some 5,.call ⟨.builtin .recover,#[],at2⟩,t3,p3,a3,none⟩] false) (.block bid (.seq (.region j1 #[⟨some 7,.binOp .eql ti (.tmp 5) (.const .nilIface) ti,t4,p4,a4,none⟩] false)
   (.cond (.tmp 7) (.region j2 #[⟨some 2,.assign (.tmp 5),t5,p5,a5,none⟩] false)
    (.seq (.region j3 #[⟨some 8,.typeAssert (.tmp 5) ti tc true,t6,p6,a6,none⟩,⟨some 9,.extract (.tmp 8) 1,t7,p7,a7,none⟩,⟨some 10,.extract (.tmp 8) 0,t8,p8,a8,none⟩] false)
     (.cond (.tmp 9) b3 b4)))))) ∧
  Zcr (ZaR P an3 b3)=c3∧an3.nt=13∧P.underlying ti=some (.interface ims)∧P.underlying tc=some (.int k)
section
variable {P:Program} {O:ZO} {byref:Nat→Bool} {base:Nat→Prop} {w0 w:World} {I0 I:Imm} {β:Bmap} {σ:Za}
theorem Zhc {m:Nat} {I':Imm} {β':Bmap} {i:Nat} {v:Value} (hk:KeptE m β β') (hi:i < m) (h:VR I β (.ref i 0) v):VR I' β' (.ref i 0) v:=by
 simp only [VR] at h ⊢
 obtain ⟨b,k,c,h1,h2⟩:=h
 exact ⟨b,k,c,hk i hi _ h1,h2⟩
theorem Zrw {F:Func} {rs:List Zcy} (hrs:Zev P F.results.toList=some rs) {m i j:Nat} {tmps:Array Value} {I':Imm} {β':Bmap} {σ' σ2:Za} {w':World} {r:AVal} (hI:I.le I') (hk:KeptE m β β') (R:Rel base w0 I0 I' β' σ2 w') (h2:VR I' β' (.ref i 0) (tmps.getD 2 undef)) (h3:VR I' β' (.ref j 0) (tmps.getD 3 undef)) (h:Ze7 m i j rs σ2=some (r,σ')) :
  ∃ v,(results F tmps).run P w'=.ok v w'∧∃ u,Ends r (.returned v) u∧ZbZ m base w0 I0 I β r σ' u w':=by
 unfold Ze7 at h
 split at h
 ·rename_i x hx
  have T:TR I' β' [(3,.ref j 0),(2,.ref i 0)] tmps:=by
   intro n
   simp only [tget]
   split
   ·rename_i e;subst e;exact h3
   ·split
    ·rename_i e;subst e;exact h2
    ·simp only [VR]
  obtain ⟨v,q1,q2⟩:=ZrP T R hrs hx
  have hnp:∀ y,x≠.pan y:=by rintro y rfl;simp only [VR] at q2
  obtain ⟨p1,p2⟩:=ZjJ (⟨I',β',hI,hk,R,by rw [Zft hnp];exact q2⟩:ZbZ m base w0 I0 I β x σ2 v w') h
  refine ⟨v,q1,v,p2 _ ?_,p1⟩
  cases x <;> first | rfl | exact absurd rfl (hnp _)
 ·cases h
theorem pgs {a:Act} {d:Nat} {u:Value} (h:d < a.tmps.size):(a.put (some d) u).tmps.getD d undef=u:=by
 simp [Act.put,Array.getD,h]
theorem ZhC {m:Sem Value} {u:Value} (h:m.run P w=.ok u w):(do let q ←m;pure (Next.value q):Sem Next).run P w=.ok (.value u) w:=by
 rw [Sem.run_bind,h];rfl
theorem pgn {a:Act} {d j:Nat} {u:Value} (h:d≠j):(a.put (some d) u).tmps.getD j undef=a.tmps.getD j undef:=by
 simp only [Act.put,Array.getD_eq_getD_getElem?]
 rw [Array.getElem?_setIfInBounds_ne h]
theorem ZCe (hm:P.follows .mixedOrders=true) (hO:ZaK P O) {f h:FuncId} {ti tc:TypeId} {an1 an2 an3:Ann} {c1 c2 c3:Ze} {rs:List Zcy} (D:ZjR P f h ti tc an1 an2 an3 c1 c2 c3 rs) (hb:KLt base w0) (R:Rel base w0 I0 I β σ w)
  {i j m n:Nat} {x:AVal} {v2 v3 v:Value} (h2:VR I β (.ref i 0) v2) (h3:VR I β (.ref j 0) v3) (hv:VR I β x v) {tm':Tms} {σ':Za} (hx:Z4 O byref m n c3 [(10,x),(1,.ref j 0),(0,.ref i 0)] σ=some (.normal,tm',σ')) :
  CallsD P h #[v2,v3] (.panicking [{ v:=.iface tc v,recovered:=false }]) w fun e u' w'=>e=.returned (.tuple #[])∧u'=.panicking [{ v:=.iface tc v,recovered:=true }]∧∃ I' β',I.le I'∧KeptE m β β'∧Rel base w0 I0 I' β' σ' w':=by
 obtain ⟨F,H,b1,b2,b3,b4,i0,j0,j1,j2,j3,bid,t1,t2,t3,t4,t5,t6,t7,t8,p1,p2,p3,p4,p5,p6,p7,p8,a1,a2,a3,a4,a5,a6,a7,a8,at1,at2,ims,k,hF,hname,hnt,hrs,hbody,hc1,hc2,hn1,hn2,hk2,hH,hHname,hHn,hHr,hHb,hc3,hn3,hti,htc⟩:=D.ex
 refine callsD_of_wpS hH hHb fun c₀ cs hu=>?_
 apply wpS_seq
 apply wpS_region
 simp [wpOpsS,go_sem,recoverD,hu,hHn,Exit.thenS]
 refine wpS_of_wp ?_
 generalize hT:(#[v2,v3]++(Array.replicate 11 undef).setIfInBounds 3 (Value.iface tc v))=T
 have hs:T.size=13:=by rw [←hT];simp
 have hT0:T.getD 0 undef=v2:=by rw [←hT];simp [Array.getD]
 have hT1:T.getD 1 undef=v3:=by rw [←hT];simp [Array.getD]
 have hT5:T.getD 5 undef=.iface tc v:=by rw [←hT];simp [Array.getD]
 clear hT
 refine wp_block (wp_seq (wp_region_list (Zef rfl ?_)))
 unfold Oper.wp
 have e1:∀ o:Oper,o.op=.binOp .eql ti (.tmp 5) (.const .nilIface) ti→(execOp ({ tmps:=T,defers:=[] }:Act).eval o).run P w=.ok (.value (.bool false)) w:=by
  intro o ho
  unfold execOp;rw [ho]
  simp only [Act.eval,hT5]
  exact ZhC (Zs9 (P:=P) (w:=w) (t1:=tc) (u:=v) hti false (op:=.eql) (.tmp 5) .nilIface rfl)
 rw [e1 _ rfl,Oper.upon_value]
 refine wpList_nil ?_
 simp only [Exit.then]
 refine wp_cond_false (by simp only [Act.eval];exact pgs (by simp [hs])) ?_
 refine wp_seq (wp_region_list (Zef rfl ?_))
 unfold Oper.wp
 generalize hA1:({ tmps:=T,defers:=[] }:Act).put (some 7) (.bool false)=A1
 have hs1:A1.tmps.size=13:=by rw [←hA1,ZeM];exact hs
 have g1:∀ j,j≠7→A1.tmps.getD j undef=T.getD j undef:=by intro j hj;rw [←hA1];exact pgn (by omega)
 have hd1:A1.defers=[]:=by rw [←hA1];rfl
 have e2:∀ o:Oper,o.op=.typeAssert (.tmp 5) ti tc true→(execOp A1.eval o).run P w=.ok (.value (.tuple #[v,.bool true])) w:=by
  intro o ho
  unfold execOp;rw [ho]
  simp only [Act.eval,g1 5 (by omega),hT5]
  refine ZhC ?_
  simp [Instr.typeAssert,underlying,htc]
 rw [e2 _ rfl,Oper.upon_value]
 generalize hA2:A1.put (some 8) (.tuple #[v,.bool true])=A2
 have hs2:A2.tmps.size=13:=by rw [←hA2,ZeM];exact hs1
 have g2:∀ j,j≠8→A2.tmps.getD j undef=A1.tmps.getD j undef:=by intro j hj;rw [←hA2];exact pgn (by omega)
 have g28:A2.tmps.getD 8 undef=.tuple #[v,.bool true]:=by rw [←hA2];exact pgs (by omega)
 have hd2:A2.defers=[]:=by rw [←hA2];exact hd1
 refine Zef rfl ?_
 unfold Oper.wp
 have e3:∀ o:Oper,o.op=.extract (.tmp 8) 1→(execOp A2.eval o).run P w=.ok (.value (.bool true)) w:=by
  intro o ho
  unfold execOp;rw [ho]
  simp only [Act.eval,g28]
  refine ZhC ?_
  simp [Instr.extract]
 rw [e3 _ rfl,Oper.upon_value]
 generalize hA3:A2.put (some 9) (.bool true)=A3
 have hs3:A3.tmps.size=13:=by rw [←hA3,ZeM];exact hs2
 have g3:∀ j,j≠9→A3.tmps.getD j undef=A2.tmps.getD j undef:=by intro j hj;rw [←hA3];exact pgn (by omega)
 have g39:A3.tmps.getD 9 undef=.bool true:=by rw [←hA3];exact pgs (by omega)
 have hd3:A3.defers=[]:=by rw [←hA3];exact hd2
 refine Zef rfl ?_
 unfold Oper.wp
 have e4:∀ o:Oper,o.op=.extract (.tmp 8) 0→(execOp A3.eval o).run P w=.ok (.value v) w:=by
  intro o ho
  unfold execOp;rw [ho]
  simp only [Act.eval,g3 8 (by omega),g28]
  refine ZhC ?_
  simp [Instr.extract]
 rw [e4 _ rfl,Oper.upon_value]
 generalize hA4:A3.put (some 10) v=A4
 have hs4:A4.tmps.size=13:=by rw [←hA4,ZeM];exact hs3
 have g4:∀ j,j≠10→A4.tmps.getD j undef=A3.tmps.getD j undef:=by intro j hj;rw [←hA4];exact pgn (by omega)
 have g410:A4.tmps.getD 10 undef=v:=by rw [←hA4];exact pgs (by omega)
 have hd4:A4.defers=[]:=by rw [←hA4];exact hd3
 refine wpList_nil ?_
 simp only [Exit.then]
 refine wp_cond_true (by simp only [Act.eval];rw [g4 9 (by omega),g39]) ?_
 have hst:StF ZbI m an3.nt base w0 I0 I β [(10,x),(1,.ref j 0),(0,.ref i 0)] σ A4 w:=by
  refine ⟨I,β,Imm.le.refl I,KeptE.refl _ β,fun n=>?_,⟨ZeN.2 hd4,by rw [hs4,hn3];omega⟩,R⟩
  simp only [tget]
  split
  ·rename_i e;subst e;rw [g410];exact hv
  ·split
   ·rename_i e;subst e;rw [g4 1 (by omega),g3 1 (by omega),g2 1 (by omega),g1 1 (by omega),hT1];exact h3
   ·split
    ·rename_i e;subst e;rw [g4 0 (by omega),g3 0 (by omega),g2 0 (by omega),g1 0 (by omega),hT0];exact h2
    ·simp only [VR]
 rw [←hc3,Zd2] at hx
 refine ZiH (dr:=ZbI) (an:=an3) hO (fun n hn=>by simp [ZbI] at hn) hm hb m n rfl hst hx ?_
 intro a' w' ⟨I',β',k1,k2,k3,k4,k5⟩
 simp only [Exit.inBlock,bodyPostS]
 refine ⟨ZeN.1 k4.1,_,rfl,.tuple #[],?_,rfl,rfl,I',k1,β',k2,k5⟩
 simp [results,hHr]
theorem ZIh {f h:FuncId} {ti tc:TypeId} {an1 an2 an3:Ann} {c1 c2 c3:Ze} {rs:List Zcy} (D:ZjR P f h ti tc an1 an2 an3 c1 c2 c3 rs) {v2 v3:Value} {w:World} :
  CallsD P h #[v2,v3] .returning w fun e u' w'=>e=.returned (.tuple #[])∧u'=.returning∧w'=w:=by
 obtain ⟨F,H,b1,b2,b3,b4,i0,j0,j1,j2,j3,bid,t1,t2,t3,t4,t5,t6,t7,t8,p1,p2,p3,p4,p5,p6,p7,p8,a1,a2,a3,a4,a5,a6,a7,a8,at1,at2,ims,k,hF,hname,hnt,hrs,hbody,hc1,hc2,hn1,hn2,hk2,hH,hHname,hHn,hHr,hHb,hc3,hn3,hti,htc⟩:=D.ex
 refine callsD_of_wpS hH hHb fun c₀ cs hu=>?_
 apply wpS_seq
 apply wpS_region
 simp [wpOpsS,go_sem,recoverD,hu,hHn,Exit.thenS]
 refine wpS_of_wp ?_
 generalize hT:(#[v2,v3]++(Array.replicate 11 undef).setIfInBounds 3 Value.nilIface)=T
 have hs:T.size=13:=by rw [←hT];simp
 have hT5:T.getD 5 undef=.nilIface:=by rw [←hT];simp [Array.getD]
 clear hT
 refine wp_block (wp_seq (wp_region_list (Zef rfl ?_)))
 unfold Oper.wp
 have e1:∀ o:Oper,o.op=.binOp .eql ti (.tmp 5) (.const .nilIface) ti→(execOp ({ tmps:=T,defers:=[] }:Act).eval o).run P w=.ok (.value (.bool true)) w:=by
  intro o ho
  unfold execOp;rw [ho]
  simp only [Act.eval,hT5]
  exact ZhC (Zsc (P:=P) (w:=w) hti false (op:=.eql) (.tmp 5) .nilIface rfl)
 rw [e1 _ rfl,Oper.upon_value]
 refine wpList_nil ?_
 simp only [Exit.then]
 refine wp_cond_true (by simp only [Act.eval];exact pgs (by simp [hs])) ?_
 refine wp_region_list (Zef rfl ?_)
 unfold Oper.wp
 generalize hA1:({ tmps:=T,defers:=[] }:Act).put (some 7) (.bool true)=A1
 have g1:∀ j,j≠7→A1.tmps.getD j undef=T.getD j undef:=by intro j hj;rw [←hA1];exact pgn (by omega)
 have hd1:A1.defers=[]:=by rw [←hA1];rfl
 have e2:∀ o:Oper,o.op=.assign (.tmp 5)→(execOp A1.eval o).run P w=.ok (.value .nilIface) w:=by
  intro o ho
  unfold execOp;rw [ho]
  simp [Act.eval,g1 5 (by omega),hT5]
 rw [e2 _ rfl,Oper.upon_value]
 refine wpList_nil ?_
 simp only [Exit.inBlock,bodyPostS]
 refine ⟨hd1,.returning,?_,.tuple #[],?_,rfl,rfl,trivial⟩
 ·cases c₀;simp_all
 ·simp [results,hHr]
end
section
variable {P:Program} {fs:Nat→Option ZD} {prim:Zcm} {byref:Nat→Bool}
theorem ZDq (hm:P.follows .mixedOrders=true) (hO:∀ n,ZaK P (Zat fs prim byref n)) {f h:FuncId} {ti tc:TypeId} {an1 an2 an3:Ann} {c1 c2 c3:Ze} {rs:List Zcy} (D:ZjR P f h ti tc an1 an2 an3 c1 c2 c3 rs)
  {args:List AVal} {σ σ':Za} {r:AVal} (hg:Zhd fs prim byref tc c1 c2 c3 rs args σ=some (r,σ')) :
  (∃ fn,P.funcs[f]?=some fn∧fn.body.isSome=true∧(fn.name == "runtime.NumGoroutine")=false) ∧
  ∀ base w0 I0 I β w (vs:Array Value),KLt base w0→Rel base w0 I0 I β σ w→VRs I β args vs.toList →
   Calls P f vs w (fun e w'=>∃ u,Ends r e u∧ZbZ σ.length base w0 I0 I β r σ' u w'):=by
 obtain ⟨F,H,b1,b2,b3,b4,i0,j0,j1,j2,j3,bid,t1,t2,t3,t4,t5,t6,t7,t8,p1,p2,p3,p4,p5,p6,p7,p8,a1,a2,a3,a4,a5,a6,a7,a8,at1,at2,ims,k,hF,hname,hnt,hrs,hbody,hc1,hc2,hn1,hn2,hk2,hH,hHname,hHn,hHr,hHb,hc3,hn3,hti,htc⟩:=D.ex
 refine ⟨⟨F,hF,by rw [hbody];rfl,hname⟩,?_⟩
 intro base w0 I0 I β w vs hb R hargs
 unfold Zhd at hg
 split at hg
 case h_2=>cases hg
 rename_i tm1 σ1 hx1
 split at hg
 case h_2=>cases hg
 rename_i i j hi hj
 split at hg
 case isFalse=>cases hg
 rename_i hlen
 obtain ⟨hl0,hli,hlj⟩:=hlen
 obtain ⟨n1,hx1⟩:=Zbh.1 hx1
 rw [←hc1,Zd2] at hx1
 refine calls_of_wp_defers hF hbody ?_
 have T:=ZnW hargs (F.ntmps - vs.size)
 have hst:StF ZbI σ.length an1.nt base w0 I0 I β (enterA 0 args []) σ { tmps:=vs++Array.replicate (F.ntmps - vs.size) undef,defers:=[] } w:=⟨I,β,Imm.le.refl I,KeptE.refl _ β,T,⟨ZeN.2 rfl,by rw [hn1];simp;omega⟩,R⟩
 refine wp_seq ?_
 refine ZiH (dr:=ZbI) (an:=an1) (hO n1) (fun n hn=>by simp [ZbI] at hn) hm hb σ.length n1 rfl hst hx1 ?_
 rintro A0 w1 ⟨I1,β1,g1,g2,T1,⟨gd,gs⟩,R1⟩
 have gd:=ZeN.1 gd
 rw [hn1] at gs
 simp only [Exit.then]
 refine wp_seq (wp_region_list (Zef rfl ?_))
 unfold Oper.wp
 have e1:∀ o:Oper,o.op=.makeFunc (.func h) #[] #[.tmp 2,.tmp 3]→(execOp A0.eval o).run P w1=.ok (.value (.func (.func h) #[] #[A0.tmps.getD 2 undef,A0.tmps.getD 3 undef])) w1:=by
  intro o ho
  unfold execOp;rw [ho]
  refine ZhC ?_
  simp [Instr.makeFunc,Act.eval]
 rw [e1 _ rfl,Oper.upon_value]
 generalize hv2:A0.tmps.getD 2 undef=v2
 generalize hv3:A0.tmps.getD 3 undef=v3
 have hr2:VR I1 β1 (.ref i 0) v2:=by rw [←hv2,←hi];exact T1 2
 have hr3:VR I1 β1 (.ref j 0) v3:=by rw [←hv3,←hj];exact T1 3
 generalize hA1:A0.put (some 5) (.func (.func h) #[] #[v2,v3])=A1
 have hs1:A1.tmps.size=A0.tmps.size:=by rw [←hA1,ZeM]
 have q1:∀ j,j≠5→A1.tmps.getD j undef=A0.tmps.getD j undef:=by intro j hj;rw [←hA1];exact pgn (by omega)
 have q5:A1.tmps.getD 5 undef=.func (.func h) #[] #[v2,v3]:=by rw [←hA1];exact pgs (by omega)
 have hd1:A1.defers=[]:=by rw [←hA1];exact gd
 refine Zef rfl ?_
 unfold Oper.wp
 have e2:∀ o:Oper,o.op=.defer ⟨.value (.tmp 5),#[],at1⟩→(execOp A1.eval o).run P w1=.ok (.defer ⟨.fn (.func h) #[v2,v3],#[]⟩) w1:=by
  intro o ho
  unfold execOp;rw [ho]
  simp [resolve,Act.eval,q5,Deferred.ofValue]
 rw [e2 _ rfl,Oper.upon_defer]
 refine wpList_nil ?_
 simp only [Exit.then]
 generalize hd:(⟨.fn (.func h) #[v2,v3],#[]⟩:Deferred)=d
 have hA2:({ A1 with defers:=d::A1.defers }:Act).put none undef={ A1 with defers:=[d] }:=by rw [hd1];rfl
 rw [hA2]
 let dr:Door:=⟨[d],[2,3],fun n=>if n=2 then v2 else v3⟩
 have hdr:dr.ok { A1 with defers:=[d] }:=by
  refine ⟨rfl,fun j hj=>?_⟩
  simp only [dr,List.mem_cons,List.not_mem_nil,or_false] at hj
  rcases hj with rfl | rfl
  ·show A1.tmps.getD 2 undef=_;rw [q1 2 (by omega),hv2];rfl
  ·show A1.tmps.getD 3 undef=_;rw [q1 3 (by omega),hv3];rfl
 have T2:TR I1 β1 (tput tm1 (some 5) .top) A1.tmps:=by
  rw [←hA1]
  exact Zl2 T1 (by simp only [VR]) (fun n hn=>by injection hn with hn;omega)
 unfold ZfK at hg
 have hst2:StF dr σ1.length an2.nt base w0 I0 I1 β1 (tput tm1 (some 5) .top) σ1 { A1 with defers:=[d] } w1:=⟨I1,β1,Imm.le.refl I1,KeptE.refl _ β1,T2,⟨hdr,by rw [hn2];show 20≤A1.tmps.size;omega⟩,R1⟩
 have lift:∀ {I':Imm} {β':Bmap},I1.le I'→KeptE σ1.length β1 β'→I.le I'∧KeptE σ.length β β':=fun h1 h2=>⟨g1.trans h1,g2.trans (fun t ht bi e=>h2 t (by omega) bi e)⟩
 have hinv:∀ w:World,(invoke (.fn (.func h) #[v2,v3]) #[]).run P w=.ok (.enter h #[v2,v3]) w:=fun w=>by
  unfold invoke
  simpa using ZkQ (args:=#[v2,v3]) (w:=w) hH (by rw [hHb];rfl) hHname
 have tm2:∀ {A:Act},dr.ok A→A.tmps.getD 2 undef=v2∧A.tmps.getD 3 undef=v3:=fun hA=>⟨hA.2 2 (by simp [dr]),hA.2 3 (by simp [dr])⟩
 split at hg
 case h_3=>cases hg
 ·rename_i tmx σ2 hx2
  obtain ⟨n2,hx2⟩:=Zbh.1 hx2
  rw [←hc2,Zd2] at hx2
  refine ZiH (dr:=dr) (an:=an2) (hO n2) (fun n hn=>by rw [hk2];exact hn) hm hb σ1.length n2 rfl hst2 hx2 ?_
  rintro A3 w3 ⟨I3,β3,k1,k2,T3,⟨kd,ks⟩,R3⟩
  show Leaves P F A3.tmps _ A3.defers .returning w3
  rw [kd.1]
  show Leaves P F A3.tmps _ [d] .returning w3
  rw [←hd]
  refine leaves_cons (f:=h) (args:=#[v2,v3]) (by simp) (hinv w3) ?_
  refine (ZIh D).mono ?_
  rintro e u' w' ⟨rfl,rfl,rfl⟩
  simp only [settle,Leaves]
  obtain ⟨l1,l2⟩:=lift k1 k2
  exact Zrw hrs l1 l2 R3 (by rw [(tm2 kd).1];exact Zhc k2 hli hr2) (by rw [(tm2 kd).2];exact Zhc k2 hlj hr3) hg
 ·rename_i t x tmx σ2 hx2
  split at hg
  case isFalse=>cases hg
  rename_i ht
  subst ht
  split at hg
  case h_2=>cases hg
  rename_i tmy σ3 hx3
  obtain ⟨n2,hx2⟩:=Zbh.1 hx2
  rw [←hc2,Zd2] at hx2
  obtain ⟨n3,hx3⟩:=Zbh.1 hx3
  refine ZiH (dr:=dr) (an:=an2) (hO n2) (fun n hn=>by rw [hk2];exact hn) hm hb σ1.length n2 rfl hst2 hx2 ?_
  rintro A3 u w3 kd ⟨I3,β3,k1,k2,R3,kv⟩
  simp only [ZaP,VR] at kv
  obtain ⟨v,rfl,kv⟩:=kv
  show Leaves P F A3.tmps _ A3.defers (.panicking [{ v:=.iface t v,recovered:=false }]) w3
  rw [kd.1]
  show Leaves P F A3.tmps _ [d] _ w3
  rw [←hd]
  refine leaves_cons (f:=h) (args:=#[v2,v3]) (by simp) (hinv w3) ?_
  refine (ZCe hm (hO n3) D hb R3 (Zhc k2 hli hr2) (Zhc k2 hlj hr3) kv hx3).mono ?_
  rintro e u' w' ⟨rfl,rfl,I4,β4,m1,m2,R4⟩
  simp only [settle,List.dropWhile,Leaves]
  have k3:=k2.trans m2
  obtain ⟨l1,l2⟩:=lift (k1.trans m1) k3
  exact Zrw hrs l1 l2 R4 (by rw [(tm2 kd).1];exact Zhc k3 hli hr2) (by rw [(tm2 kd).2];exact Zhc k3 hlj hr3) hg
end
section
variable {fs:Nat→Option ZD} {p p':Zcm} {byref:Nat→Bool}
theorem ZtB (h0:∀ f,p f=none→p' f=none) (h1:∀ f g,p f=some g→p' f=some g∨∀ a σ,g a σ=none):∀ n,OLe (Zat fs p byref n) (Zat fs p' byref n)
 | 0=>by intro f a σ r h;simp only [Zat] at h;cases h
 | n+1=>by
  intro f a σ r h
  rw [Zat] at h ⊢
  split at h
  ·rename_i g hg
   rcases h1 f g hg with h2 | h2
   ·rw [h2];exact h
   ·rw [h2] at h;cases h
  ·rename_i hg
   rw [h0 f hg]
   split at h
   ·cases h
   ·rename_i fn hfn
    exact Zk0 (fun q hq=>ZdF (ZtB h0 h1 n) (Nat.le_refl n) hq) h
theorem ZMD (h0:∀ f,p f=none→p' f=none) (h1:∀ f g,p f=some g→p' f=some g∨∀ a σ,g a σ=none):OLe (EV fs p byref) (EV fs p' byref):=by
 intro f a σ r h
 obtain ⟨n,hn⟩:=Zdr.1 h
 exact Zdr.2 ⟨n,ZtB h0 h1 n f a σ r hn⟩
end
end Go.Proofs.YtmlkhhidifjjfaaDoor
namespace Go.Proofs.YtmlkhhidifjjfaaDoor
open Go.Shelf
def ZCZ:Ren:=⟨fun | 196=>142 | 259=>157 | n=>n,fun | 9=>9 | 4=>4 | 3=>3 | 5=>5 | 12=>12 | 119=>213 | 0=>0 | 46=>139 | 139=>216 | 138=>215 | 53=>101 | n=>n,fun | 3=>0 | 4=>1 | n=>n⟩
theorem Zuj:Go.Proofs.Lays.n196 Tryd.prog ZCZ:={ mixed:=by kernel_rfl,f196:=Tryd.func142.trans (congrArg some (by kernel_rfl)),f259:=Tryd.func157.trans (congrArg some (by kernel_rfl)),t0:=Tryd.underlying0,a0:=Tryd.isAgg0,z0:=Tryd.sizeOf0,v0:=Tryd.zeroValue0,t3:=Tryd.underlying3,a3:=Tryd.isAgg3,z3:=Tryd.sizeOf3,v3:=Tryd.zeroValue3,t4:=Tryd.underlying4,a4:=Tryd.isAgg4,z4:=Tryd.sizeOf4,v4:=Tryd.zeroValue4,t5:=Tryd.underlying5,a5:=Tryd.isAgg5,z5:=Tryd.sizeOf5,v5:=Tryd.zeroValue5,t9:=Tryd.underlying9,a9:=Tryd.isAgg9,z9:=Tryd.sizeOf9,v9:=Tryd.zeroValue9,t12:=Tryd.underlying12,a12:=Tryd.isAgg12,z12:=Tryd.sizeOf12,v12:=Tryd.zeroValue12,t46:=Tryd.underlying139,a46:=Tryd.isAgg139,z46:=Tryd.sizeOf139,v46:=Tryd.zeroValue139,t53:=Tryd.underlying101,a53:=Tryd.isAgg101,z53:=Tryd.sizeOf101,v53:=Tryd.zeroValue101,t119:=Tryd.underlying213,a119:=Tryd.isAgg213,z119:=Tryd.sizeOf213,t138:=Tryd.underlying215,a138:=Tryd.isAgg215,z138:=Tryd.sizeOf215,v138:=Tryd.zeroValue215,t139:=Tryd.underlying216,a139:=Tryd.isAgg216,z139:=Tryd.sizeOf216,v139:=Tryd.zeroValue216,g3:=by kernel_rfl,g4:=by kernel_rfl }
end Go.Proofs.YtmlkhhidifjjfaaDoor
namespace Go.Proofs.YtmlkhhidifjjfaaDoor
set_option maxRecDepth 100000
set_option maxHeartbeats 2000000
theorem ZiD:Tryd.prog.follows .mixedOrders=true:=by kernel_rfl
theorem ZBm:Znm Tryd.prog 22 1 1 (.int .u8 0) 111:=⟨_,_,_,_,_,_,_,_,_,_,_,rfl,rfl,rfl,by kernel_rfl,rfl,rfl,rfl,rfl,rfl,rfl,rfl,rfl,by kernel_rfl,by kernel_rfl,⟨_,_,_,_,rfl⟩,rfl,by decide⟩
theorem ZxV:Znm Tryd.prog 28 5 72 (.agg [.int .i64 0,.int .i64 0,.str [],.str [],.lst true []]) 137:=⟨_,_,_,_,_,_,_,_,_,_,_,rfl,rfl,rfl,by kernel_rfl,rfl,rfl,rfl,rfl,rfl,rfl,rfl,rfl,by kernel_rfl,by kernel_rfl,⟨_,_,_,_,rfl⟩,rfl,by decide⟩
theorem ZqJ {α:Type} {d v:α}:∀ {l:List (Nat×α)} {n:Nat},Zet d l n=v→v=d∨(n,v) ∈ l
 | [],n,h=>Or.inl h.symm
 | (k,w)::r,n,h=>by
  simp only [Zet] at h
  split at h
  ·rename_i e;subst e h;exact Or.inr (by simp)
  ·rcases ZqJ h with h | h
   ·exact Or.inl h
   ·exact Or.inr (by simp [h])
theorem ZqB:Zjr Tryd.prog PR:=by
 intro f g h args σ r σ' hg
 rcases ZqJ h with h | h
 ·cases h
 unfold ZuS at h
 simp only [List.mem_cons,Prod.mk.injEq,Option.some.injEq,List.not_mem_nil,or_false] at h
 rcases h with ⟨rfl,rfl⟩ | h
 ·exact ZrN ZiD ZBm hg
 rcases h with ⟨rfl,rfl⟩ | h
 ·exact ZrN ZiD ZxV hg
 rcases h with ⟨rfl,rfl⟩ | h
 ·exact ZAs ⟨Tryd.f142,Tryd.func142,by kernel_rfl,by kernel_rfl⟩ (fun s w hs hT=>Any.utf8_ValidString Zuj s w hs hT) hg
 rcases h with ⟨rfl,rfl⟩ | h
 ·exact ZuM hg
 rcases h with ⟨rfl,rfl⟩ | h
 ·exact ZuM hg
 exact absurd h.2 (by simp)
end Go.Proofs.YtmlkhhidifjjfaaDoor
namespace Go.Proofs.YtmlkhhidifjjfaaDoor
def ZbN:Nat:=70368744177664
def Zht (args:List AVal) (σ:Za):Option (AVal×Za):=match args,σ with
 | [.ref 0 0,.lst _ ys],[.var [.lst true [],.int .i64 0,.int .i8 _]] =>
  if ys.length≤ZbN∧kOk 1 ys=true then some (.tup [.int .i64 ys.length,.nili],[.var [.sl 1 0 0 ys.length,.int .i64 0,.int .i8 0],.row 0 1 ys]) else none
 | [.ref 0 0,.lst _ ys],[.var [.sl 1 g 0 m,.int .i64 0,.int .i8 _],.row g' 1 xs] =>
  if g=g'∧m=xs.length∧xs.length+ys.length≤ZbN∧kOk 1 ys=true then some (.tup [.int .i64 ys.length,.nili],[.var [.sl 1 (g+1) 0 (xs++ys).length,.int .i64 0,.int .i8 0],.row (g+1) 1 (xs++ys)]) else none
 | _,_=>none
end Go.Proofs.YtmlkhhidifjjfaaDoor
namespace Go.Proofs.YtmlkhhidifjjfaaDoor
set_option maxRecDepth 100000
set_option maxHeartbeats 4000000
def c1R:Ze :=  (.region [⟨(some 1),(.box (.t 0)),none,[]⟩,⟨(some 2),(.alloc [(.int .i64 0),(.bool false),(.int .i64 0),(.bool false),(.int .i64 0),(.str []),(.lst true []),(.int .i64 0),(.lst true []),(.lst true []),(.lst true []),(.lst true []),(.bool false),(.int .i64 0),(.str []),(.bool false),(.str []),(.lst true []),(.int .i64 0),(.bool false),(.lst true []),(.bool false),(.str []),(.bool false),(.lst true []),(.bool false)]),none,[]⟩,⟨(some 3),(.alloc [(.int .i64 0)]),none,[]⟩] none [3,2,1])
def c2R:Ze:=(.seq (.region [⟨(some 6),(.faddr 1 (.t 1)),none,[]⟩,⟨(some 7),(.ld none (.t 6)),none,[]⟩,⟨(some 8),(.build [(.int .i64 0),(.bool false),(.int .i64 0),(.bool false),(.int .i64 0),(.str []),(.lst true []),(.int .i64 0),(.lst true []),(.lst true []),(.lst true []),(.lst true []),(.bool false),(.int .i64 0),(.str []),(.bool false),(.str []),(.lst true []),(.int .i64 0),(.bool false),(.lst true []),(.bool false),(.str []),(.bool false),(.lst true []),(.bool false),(.lst true [])] [(26,1,(.t 7))]),none,[]⟩,⟨(some 9),(.box (.t 8)),none,[]⟩,⟨(some 4),(.mov (.t 9)),none,[]⟩] none [4,3,2,1]) (.seq (.region [⟨(some 10),(.mov (.t 4)),none,[]⟩,⟨(some 11),(.faddr 0 (.t 1)),none,[]⟩,⟨(some 12),(.ld none (.t 11)),none,[]⟩,⟨(some 13),(.call 76 0 true [(.t 10),(.t 12)]),none,[]⟩] none [4,3,2]) (.seq (.region [⟨(some 14),(.mov (.t 4)),none,[]⟩,⟨(some 15),(.call 77 1 true [(.t 14)]),none,[]⟩] none [4,3,2]) (.seq (.region [⟨(some 16),(.mov (.t 4)),none,[]⟩,⟨(some 17),(.nilchk (.t 16)),none,[]⟩,⟨(some 18),(.faddr 0 (.t 17)),none,[]⟩,⟨(some 19),(.ld (some 26) (.t 18)),none,[]⟩,⟨none,(.st 26 (.t 2) (.t 19)),none,[]⟩,⟨none,(.st 1 (.t 3) (.c (.int .i64 0))),none,[]⟩] none [3,2]) .ret))))
def c3R:Ze:=(.seq (.region [⟨(some 3),(.mov (.t 10)),none,[]⟩] none [3,1,0]) (.region [⟨(some 11),(.build [(.int .i64 0),(.bool false),(.int .i64 0),(.bool false),(.int .i64 0),(.str []),(.lst true []),(.int .i64 0),(.lst true []),(.lst true []),(.lst true []),(.lst true []),(.bool false),(.int .i64 0),(.str []),(.bool false),(.str []),(.lst true []),(.int .i64 0),(.bool false),(.lst true []),(.bool false),(.str []),(.bool false),(.lst true []),(.bool false)] []),none,[]⟩,⟨(some 12),(.mov (.t 3)),none,[]⟩,⟨none,(.st 26 (.t 0) (.t 11)),none,[]⟩,⟨none,(.st 1 (.t 1) (.t 12)),none,[]⟩] none []))
def rsR:List Zcy:=[(.cell 2 (some 26)),(.cell 3 none)]
def ZxT:Ann:={ nt:=20,lr:=fun _=>[3,2,1] }
def ZDZ:Ann:={ ann 32 with nt:=20,keep:=[2,3],cfg:=fun f=>if f=77 then (1,true) else (0,true) }
def ZKl:Ann:={ ann 75 with nt:=13 }
theorem Zy6:ZjR Tryd.prog 32 75 20 61 ZxT ZDZ ZKl c1R c2R c3R rsR :=
 ⟨_,_,_,_,_,_,_,_,_,_,_,_,_,_,_,_,_,_,_,_,_,_,_,_,_,_,_,_,_,_,_,_,_,_,_,_,_,_,#[],.i64,rfl,by kernel_rfl,rfl,by kernel_rfl,rfl,by kernel_rfl,by kernel_rfl,rfl,rfl,rfl,rfl,by kernel_rfl,rfl,rfl,rfl,by kernel_rfl,rfl,by kernel_rfl,by kernel_rfl⟩
noncomputable def ZeC:List AVal→Za→Option (AVal×Za):=Zhd FC PR BY 61 c1R c2R c3R rsR
noncomputable def PR1:Zcm:=fun f=>if f=32 then some ZeC else if f=130 then some Zht else PR f
noncomputable abbrev E1:ZO:=EV FC PR1 BY
theorem Zzd:OLe E E1:=by
 refine ZMD (fun f hf=>?_) (fun f g hg=>?_)
 ·unfold PR1
  rw [if_neg (by rintro rfl;revert hf;decide),if_neg (by rintro rfl;revert hf;decide)]
  exact hf
 ·by_cases h1:f=32
  ·subst h1
   have : PR 32=some ZiN:=by rfl
   rw [this] at hg;injection hg with hg;subst hg
   exact Or.inr fun _ _=>rfl
  by_cases h2:f=130
  ·subst h2
   have : PR 130=some ZiN:=by rfl
   rw [this] at hg;injection hg with hg;subst hg
   exact Or.inr fun _ _=>rfl
  refine Or.inl ?_
  unfold PR1
  rw [if_neg h1,if_neg h2]
  exact hg
theorem Zbj {f:Nat} {fn:ZD} (hp:PR1 f=none) (hf:FC f=some fn) (args:List AVal) (σ:Za):E1 f args σ=Zan σ.length fn (evC FC PR1 BY σ.length fn.body (enterA 0 args []) σ):=ZtK hp hf args σ
theorem ZfH (args:List AVal) (σ:Za):E1 32 args σ=ZeC args σ:=ZqI (by rfl) args σ
theorem Zuh (args:List AVal) (σ:Za):E1 130 args σ=Zht args σ:=ZqI (by rfl) args σ
theorem ZJ4 {args:List AVal} {σ σ':Za} {r:AVal} (hg:ZeC args σ=some (r,σ')) :
  (∃ fn,Tryd.prog.funcs[32]?=some fn∧fn.body.isSome=true∧(fn.name == "runtime.NumGoroutine")=false) ∧
  ∀ base w0 I0 I β w (vs:Array Value),KLt base w0→Rel base w0 I0 I β σ w→VRs I β args vs.toList →
   Calls Tryd.prog 32 vs w (fun e w'=>∃ u,Ends r e u∧ZbZ σ.length base w0 I0 I β r σ' u w') :=
 ZDq ZiD (fun n=>by
  have h:Zat FC PR BY n=Zat CF PR BY n:=Zos CF PR BY n
  rw [h]
  exact ZoY ZiD ZqB ann BY n) Zy6 hg
end Go.Proofs.YtmlkhhidifjjfaaDoor
namespace Go.Proofs.YtmlkhhidifjjfaaDoor
set_option maxHeartbeats 8000000
set_option maxRecDepth 10000
def P0:List AVal:=[.int .i64 0,.bool false,.int .i64 0,.bool false,.int .i64 0,.str [],.lst true [],.int .i64 0,.lst true [],.lst true [],.lst true [],.lst true [],.bool false,.int .i64 0,.str [],.bool false,.str [],.lst true [],.int .i64 0,.bool false,.lst true [],.bool false,.str [],.bool false,.lst true [],.bool false]
def tmR:Tms:=[(3,.ref 2 0),(2,.ref 1 0),(1,.ref 0 0)]
def σR (b:Int) (l:Zb):Za:=[.var [.int .u8 b,.lst false (l.map Zc)],.var P0,.var [.int .i64 0]]
theorem Zo7 (b:Int) (l:Zb):evC FC PR BY 0 c1R (enterA 0 [.agg [.int .u8 b,.lst false (l.map Zc)]] []) []=some (.normal,tmR,σR b l):=by
 unfold tmR σR P0
 simp -implicitDefEqProofs only [EQA,Nat.reduceAdd,Nat.reduceLT,Nat.reduceEqDiff,Nat.reduceBEq,↓reduceIte,c1R,AVal.cells]
theorem ZBr (b:Int) (l:Zb) {P1 Q:List AVal} {L:AVal} (h1:P1.length=26) (n1:Zd P1=true) (hQ:Q.length=26) (nQ:Zd Q=true) (oQ:Q.all ZT=true) (nL:ZI L=true)
  (hf:E 76 [.ref 0 0,.int .u8 b] (Zg P0 l)=some (.tup [],Zg P1 l)) (hb:E 77 [.ref 0 0] (Zg P1 l)=some (.tup [],[.var (Q++[L])])) :
  evC FC PR BY 3 c2R (tput tmR (some 5) .top) (σR b l)=some (.ret,[(3,.ref 2 0),(2,.ref 1 0)],[.var [.int .u8 b,.lst false (l.map Zc)],.var Q,.var [.int .i64 0],.var (Q++[L]),.free]):=by
 have hF:=fun (σ:Za) site (hs:σ[3]?=some (.var (P0++[.lst false (l.map Zc)])))=>Zc3 (O:=E) (byref:=BY) (f:=76) (rest:=[.int .u8 b]) (by kernel_rfl) rfl (by rfl) (Zaz n1 (by rfl)) rfl rfl hf hs site
 have hB:=fun (σ:Za) site (hf:σ[site]?=some .free) (hs:σ[3]?=some (.var (P1++[.lst false (l.map Zc)])))=>ZxO (own:=1) (O:=E) (byref:=BY) (f:=77) (rest:=[]) (by kernel_rfl) rfl (Zaz n1 (by rfl)) (Zaz nQ (by simp [Zd,nL])) rfl rfl hb hs site (by simp [ZaY,freeAt,hf])
 have b1:=Z3 Q hQ
 have b2:=Zes Q hQ
 unfold P0 at hF
 simp only [List.cons_append,List.nil_append] at hF
 unfold tmR σR P0
 simp -implicitDefEqProofs only [EQA,Za6,Nat.reduceAdd,Nat.reduceLT,Nat.reduceLeDiff,Nat.reduceEqDiff,Nat.reduceBEq,↓reduceIte,c2R,AVal.cells,Zal,hF,hB,b1,b2,hQ,oQ]
theorem Zlv (b:Int) (l:Zb) {cs:List AVal} {c:Int} (n1:Zd cs=true)
  (hf:E 76 [.ref 0 0,.int .u8 b] (Zg P0 l)=some (.pan (Zy c),[.var cs])) :
  evC FC PR BY 3 c2R (tput tmR (some 5) .top) (σR b l)=some (.panic (Zy c),[],[.var [.int .u8 b,.lst false (l.map Zc)],.var P0,.var [.int .i64 0],.var cs]):=by
 have hF:=fun (σ:Za) site (hs:σ[3]?=some (.var (P0++[.lst false (l.map Zc)])))=>Zcz (O:=E) (byref:=BY) (f:=76) (view:=true) (rest:=[.int .u8 b]) (by kernel_rfl) rfl (by rfl) n1 rfl hf hs site
 unfold P0 at hF
 simp only [List.cons_append,List.nil_append] at hF
 unfold tmR σR P0
 simp -implicitDefEqProofs only [EQA,Za6,Nat.reduceAdd,Nat.reduceLT,Nat.reduceLeDiff,Nat.reduceEqDiff,Nat.reduceBEq,↓reduceIte,c2R,AVal.cells,Zal,hF]
theorem Zrz (b:Int) (l:Zb) {P1 cs:List AVal} {c:Int} (h1:P1.length=26) (n1:Zd P1=true) (n2:Zd cs=true)
  (hf:E 76 [.ref 0 0,.int .u8 b] (Zg P0 l)=some (.tup [],Zg P1 l)) (hb:E 77 [.ref 0 0] (Zg P1 l)=some (.pan (Zy c),[.var cs])) :
  evC FC PR BY 3 c2R (tput tmR (some 5) .top) (σR b l)=some (.panic (Zy c),[],[.var [.int .u8 b,.lst false (l.map Zc)],.var P0,.var [.int .i64 0],.var cs,.free]):=by
 have hF:=fun (σ:Za) site (hs:σ[3]?=some (.var (P0++[.lst false (l.map Zc)])))=>Zc3 (O:=E) (byref:=BY) (f:=76) (rest:=[.int .u8 b]) (by kernel_rfl) rfl (by rfl) (Zaz n1 (by rfl)) rfl rfl hf hs site
 have hB:=fun (σ:Za) site (hf:σ[site]?=some .free) (hs:σ[3]?=some (.var (P1++[.lst false (l.map Zc)])))=>ZNr (own:=1) (O:=E) (byref:=BY) (f:=77) (view:=true) (rest:=[]) (by kernel_rfl) rfl (Zaz n1 (by rfl)) n2 rfl hb hs site (by simp [ZaY,freeAt,hf])
 unfold P0 at hF
 simp only [List.cons_append,List.nil_append] at hF
 unfold tmR σR P0
 simp -implicitDefEqProofs only [EQA,Za6,Nat.reduceAdd,Nat.reduceLT,Nat.reduceLeDiff,Nat.reduceEqDiff,Nat.reduceBEq,↓reduceIte,c2R,AVal.cells,Zal,hF,hB]
theorem ZJO (b c:Int) (l:Zb) (τ:Za):evC FC PR BY 3 c3R [(10,.int .i64 c),(1,.ref 2 0),(0,.ref 1 0)] (.var [.int .u8 b,.lst false (l.map Zc)]::.var P0::.var [.int .i64 0]::τ)=some (.normal,[],.var [.int .u8 b,.lst false (l.map Zc)]::.var P0::.var [.int .i64 c]::τ):=by
 unfold P0
 simp -implicitDefEqProofs only [EQA,Nat.reduceAdd,Nat.reduceLT,Nat.reduceLeDiff,Nat.reduceEqDiff,reduceCtorEq,↓reduceIte,c3R,AVal.cells,Zal,ZT]
theorem Zti (b c:Int) (l:Zb) {Q:List AVal} (τ:Za) (hQ:Q.length=26) (nQ:Zd Q=true):Ze7 0 1 2 rsR (.var [.int .u8 b,.lst false (l.map Zc)]::.var Q::.var [.int .i64 c]::τ)=some (.tup [.agg Q,.int .i64 c],[]):=by
 have h1:resA [(3,.ref 2 0),(2,.ref 1 0)] (.var [.int .u8 b,.lst false (l.map Zc)]::.var Q::.var [.int .i64 c]::τ) rsR=some (.tup [.agg Q,.int .i64 c]):=by
  have h2:Q.take 26=Q:=List.take_of_length_le (by omega)
  simp [resA,resAll,resOne,rsR,tget,ldA,partA,hQ,h2]
 unfold Ze7
 rw [h1]
 generalize (.var [.int .u8 b,.lst false (l.map Zc)]::.var Q::.var [.int .i64 c]::τ:Za)=σ
 have e1:=ZaS (Zm σ 0 []) Q nQ
 have hr:Zr [AVal.tup [.agg Q,.int .i64 c]]=[]:=by simp [Zr,ZX,e1.2]
 have hi:ZB 0 [AVal.tup [.agg Q,.int .i64 c]] σ=[]:=by
  simp only [ZB,hr,List.nil_append,List.range_zero,List.flatMap_nil]
  rfl
 simp [Zak,gcA,hi,Zf,Zk,e1.1,Zv]
theorem Zox (b:Int) (l:Zb) {P1 Q:List AVal} {L:AVal} (h1:P1.length=26) (n1:Zd P1=true) (hQ:Q.length=26) (nQ:Zd Q=true) (oQ:Q.all ZT=true) (nL:ZI L=true)
  (hf:E 76 [.ref 0 0,.int .u8 b] (Zg P0 l)=some (.tup [],Zg P1 l)) (hb:E 77 [.ref 0 0] (Zg P1 l)=some (.tup [],[.var (Q++[L])])) :
  ZeC [.agg [.int .u8 b,.lst false (l.map Zc)]] []=some (.tup [.agg Q,.int .i64 0],[]):=by
 unfold ZeC Zhd
 show (match evC FC PR BY 0 c1R (enterA 0 [.agg [.int .u8 b,.lst false (l.map Zc)]] []) [] with | some (.normal,tm1,σ1)=>_ | _=>none)=_
 rw [Zo7]
 show (if (0:Nat)≤(σR b l).length∧1 < (σR b l).length∧2 < (σR b l).length then ZfK FC PR BY 61 c2R c3R rsR 0 (tput tmR (some 5) .top) (σR b l) 1 2 else none)=_
 rw [if_pos (by simp [σR])]
 unfold ZfK
 rw [show (σR b l).length=3 from rfl,ZBr b l h1 n1 hQ nQ oQ nL hf hb]
 exact Zti b 0 l _ hQ nQ
theorem ZgB (b c:Int) (l:Zb) {τ:Za} (h:evC FC PR BY 3 c2R (tput tmR (some 5) .top) (σR b l)=some (.panic (Zy c),[],.var [.int .u8 b,.lst false (l.map Zc)]::.var P0::.var [.int .i64 0]::τ)) :
  ZeC [.agg [.int .u8 b,.lst false (l.map Zc)]] []=some (.tup [.agg P0,.int .i64 c],[]):=by
 unfold ZeC Zhd
 show (match evC FC PR BY 0 c1R (enterA 0 [.agg [.int .u8 b,.lst false (l.map Zc)]] []) [] with | some (.normal,tm1,σ1)=>_ | _=>none)=_
 rw [Zo7]
 show (if (0:Nat)≤(σR b l).length∧1 < (σR b l).length∧2 < (σR b l).length then ZfK FC PR BY 61 c2R c3R rsR 0 (tput tmR (some 5) .top) (σR b l) 1 2 else none)=_
 rw [if_pos (by simp [σR])]
 unfold ZfK
 rw [show (σR b l).length=3 from rfl,h]
 show (if (61:Nat)=61 then (match evC FC PR BY 3 c3R [(10,.int .i64 c),(1,.ref 2 0),(0,.ref 1 0)] _ with | some (.normal,_,σ3)=>Ze7 0 1 2 rsR σ3 | _=>none) else none)=_
 rw [if_pos rfl,ZJO]
 exact Zti b c l _ rfl (by rfl)
end Go.Proofs.YtmlkhhidifjjfaaDoor
namespace Go.Proofs.YtmlkhhidifjjfaaDoor
set_option maxHeartbeats 2000000
set_option maxRecDepth 10000
theorem ZAk (a b:Zt):E 92 [Zl a,Zl b] []=some (.bool (a.id == b.id && a.num == b.num && a.text == b.text && a.pair == b.pair && a.data == b.data),[]):=by
 rw [Zh (by rfl) ZI9]
 simp -implicitDefEqProofs only [EQA,ZC,Z2,Zc5,Zlx,Nat.reduceAdd,Nat.reduceLT,Nat.reduceEqDiff,Nat.reduceBEq,Zdw,ZE,Zaq,unG,ne_eq,Option.some.injEq,reduceCtorEq,decide_false,Z0,ite_self,↓reduceIte,ZGo,Zny,ZHu,oI,ZH,Zl,Zby]
theorem ZAH (a b:Zt):E 110 [Zl a,Zl b] []=some (.bool (a.id == b.id && a.num == b.num && a.text == b.text && a.pair == b.pair && a.data == b.data),[]):=by
 rw [Zh (by rfl) ZKt]
 simp -implicitDefEqProofs only [EQA,ZC,Z2,Zc5,Zlx,Nat.reduceAdd,Nat.reduceLT,Nat.reduceEqDiff,Nat.reduceBEq,Zdw,ZE,Zaq,unG,ne_eq,Option.some.injEq,reduceCtorEq,decide_false,Z0,ite_self,↓reduceIte,ZGf,ZpU,ZB7,oI,ZH,Zl,Zby]
theorem Ztw (a b:Zt):(a.id == b.id && a.num == b.num && a.text == b.text && a.pair == b.pair && a.data == b.data)=(a == b):=by
 obtain ⟨i,n,t,p,d⟩:=a
 obtain ⟨i',n',t',p',d'⟩:=b
 rw [Bool.eq_iff_iff]
 simp [and_assoc]
theorem ZrF (a:Zt):Zab (Zl a)=true:=by
 simp -implicitDefEqProofs only [eq_self,Bool.and_self,List.all_cons,List.all_nil,Ztb,ZsX,ZrD,Zuq,Zl,Zby,ZH]
theorem Zsw (a:Zt):ZG (Zl a)=Zl a:=by
 simp -implicitDefEqProofs only [eq_self,List.map_cons,List.map_nil,Zsl,ZrS,ZtG,Zqz,Zl,Zby,ZH]
theorem ZIG (σ:Za) (site own:Nat) (view:Bool) (i n:Int) (t p d:Zb) (i' n':Int) (t' p' d':Zb):Zj E BY σ site 92 own view [.agg [.int .i64 i,.int .i64 n,.str t,.str p,.lst false (d.map Zc)],.agg [.int .i64 i',.int .i64 n',.str t',.str p',.lst false (d'.map Zc)]]=some (.bool (i == i' && n == n' && t == t' && p == p' && d == d'),σ,{}) :=
 Zb6 (ZAk ⟨i,n,t,p,d⟩ ⟨i',n',t',p',d'⟩) (by kernel_rfl) (by simp only [List.all_cons,ZrF];rfl) (by simp only [List.map_cons,Zsw];rfl) rfl (fun _=>rfl) _ _ _ _
theorem ZLo (σ:Za) (site own:Nat) (view:Bool) (i n:Int) (t p d:Zb) (i' n':Int) (t' p' d':Zb):Zj E BY σ site 110 own view [.agg [.int .i64 i,.int .i64 n,.str t,.str p,.lst false (d.map Zc)],.agg [.int .i64 i',.int .i64 n',.str t',.str p',.lst false (d'.map Zc)]]=some (.bool (i == i' && n == n' && t == t' && p == p' && d == d'),σ,{}) :=
 Zb6 (ZAH ⟨i,n,t,p,d⟩ ⟨i',n',t',p',d'⟩) (by kernel_rfl) (by simp only [List.all_cons,ZrF];rfl) (by simp only [List.map_cons,Zsw];rfl) rfl (fun _=>rfl) _ _ _ _
theorem ZrH (a b:List Zt) (h:a.length=b.length) (hl:a.length≤9223372036854775807):∀ (r s:List Zt) (i:Nat),a.drop i=r→b.drop i=s→ZkK 0 [(17,.int .i64 i),(16,.int .i64 a.length),(15,Zax a),(2,.fn 92 []),(1,Zax b)] []=some (.bool (r == s),[])
 | [],s,i,ha,hb=>by
  have hs:s=[]:=by
   subst hb;rw [List.drop_eq_nil_iff] at ha ⊢;omega
  subst hs
  have h1:=ZcO ha
  unfold ZkK
  rw [Z5]
  simp -implicitDefEqProofs only [EQA,Nat.reduceLT,Nat.reduceEqDiff,decide_false,↓reduceIte,Zn9,ZGU,Zmu,Zq1,Zkn,oI,oN,Zax,h1]
 | x::r,[],i,ha,hb=>by
  have:=(Z7 ha).2.2;rw [List.drop_eq_nil_iff] at hb;omega
 | x::r,y::s,i,ha,hb=>by
  have ih:=ZrH a b h hl r s (i+1) (Z7 ha).2.1 (Z7 hb).2.1
  have h1:(i:Int) < a.length:=by have:=(Z7 ha).2.2;omega
  have e1:=iad (Z7 ha).1 Zl (k:=5) rfl
  have e2:=iad (Z7 hb).1 Zl (k:=5) rfl
  have e3:=ZcT h1 hl
  unfold ZkK at ih ⊢
  rw [Z5]
  simp -implicitDefEqProofs only [EQA,ZC,Z2,Nat.reduceAdd,Nat.reduceLT,Nat.reduceLeDiff,Nat.reduceEqDiff,Nat.reduceBEq,unA,decide_true,↓reduceIte,gcT,gcA,ZB,Zz,Zv,ZJ,Zn9,Zq1,Zkn,oI,oN,ZH,Zax,Zl,Zby,h1,e1,e2,e3,ZIG]
  simp only [Zax] at ih
  rw [ih,Ztw]
  by_cases hx:x=y <;> simp [hx]
theorem ZwG (a b:List Zt) (hl:a.length≤9223372036854775807):E 91 [Zax a,Zax b,.fn 92 []] []=some (.bool (a == b),[]):=by
 rw [Zh (by rfl) ZEj]
 by_cases h:a.length=b.length
 ·have:=ZrH a b h hl a b 0 rfl rfl
  unfold ZkK at this
  simp only [Zax] at this
  have e:=ZiZ h
  simp -implicitDefEqProofs only [EQA,Z2,Nat.reduceAdd,Nat.reduceLT,Nat.reduceEqDiff,reduceCtorEq,↓reduceIte,gcT,gcA,ZB,Zz,Zv,ZJ,Zvj,ZlY,oI,Zax,e]
  exact this
 ·have e:=Zi0 h
  simp -implicitDefEqProofs only [EQA,Nat.reduceAdd,Nat.reduceLT,Nat.reduceEqDiff,reduceCtorEq,↓reduceIte,Zvj,ZlY,Zn9,oI,Zax,e,ZiS h]
theorem Zzu (σ:Za) (site own:Nat) (view:Bool) (a b:List Zt) (hl:a.length≤9223372036854775807):Zj E BY σ site 91 own view [.lst false (a.map Zl),.lst false (b.map Zl),.fn 92 []]=some (.bool (a == b),σ,{}) :=
 Zb6 (ZwG a b hl) (by kernel_rfl) (by simp -implicitDefEqProofs only [Zcw,Ztq,Zbg,eq_self,Zax]) (by simp -implicitDefEqProofs only [ZC,Zbg,eq_self,Zax]) rfl (fun _=>rfl) _ _ _ _
theorem ZIV (a b:List Zt) (hl:a.length≤9223372036854775807):E 43 [Zax a,Zax b] []=some (.bool (a == b),[]):=by
 rw [Zh (by rfl) Zz7]
 simp -implicitDefEqProofs only [EQA,Nat.reduceLT,Nat.reduceEqDiff,reduceCtorEq,↓reduceIte,ZGx,Zqm,ZGR,oI,Zax,Zzu,hl]
theorem ZlS (σ:Za) (site own:Nat) (view:Bool) (a b:List Zt) (hl:a.length≤9223372036854775807):Zj E BY σ site 43 own view [.lst false (a.map Zl),.lst false (b.map Zl)]=some (.bool (a == b),σ,{}) :=
 Zb6 (ZIV a b hl) (by kernel_rfl) (by simp -implicitDefEqProofs only [Zcw,Zbg,eq_self,Zax]) (by simp -implicitDefEqProofs only [ZC,Zbg,eq_self,Zax]) rfl (fun _=>rfl) _ _ _ _
theorem ZqE (a b:List Zt) (h:a.length=b.length) (hl:a.length≤9223372036854775807):∀ (r s:List Zt) (i:Nat),a.drop i=r→b.drop i=s→ZlK 0 [(5,.int .i64 i),(1,Zax b),(0,Zax a)] []=some (.bool (r == s),[])
 | [],s,i,ha,hb=>by
  have hs:s=[]:=by
   subst hb;rw [List.drop_eq_nil_iff] at ha ⊢;omega
  subst hs
  have h1:=ZcO ha
  unfold ZlK
  rw [Z5]
  simp -implicitDefEqProofs only [EQA,Nat.reduceLT,Nat.reduceEqDiff,reduceCtorEq,decide_false,↓reduceIte,ZnL,ZAG,Zpa,ZuD,Zkp,oI,Zax,h1]
 | x::r,[],i,ha,hb=>by
  have:=(Z7 ha).2.2;rw [List.drop_eq_nil_iff] at hb;omega
 | x::r,y::s,i,ha,hb=>by
  have ih:=ZqE a b h hl r s (i+1) (Z7 ha).2.1 (Z7 hb).2.1
  have h1:(i:Int) < a.length:=by have:=(Z7 ha).2.2;omega
  have e1:=iad (Z7 ha).1 Zl (k:=5) rfl
  have e2:=iad (Z7 hb).1 Zl (k:=5) rfl
  have e3:=ZcT h1 hl
  unfold ZlK at ih ⊢
  rw [Z5]
  simp -implicitDefEqProofs only [EQA,ZC,Z2,Nat.reduceAdd,Nat.reduceLT,Nat.reduceLeDiff,Nat.reduceEqDiff,Nat.reduceBEq,unA,reduceCtorEq,decide_true,↓reduceIte,gcT,gcA,ZB,Zz,Zv,ZJ,ZnL,ZuD,Zkp,oI,ZH,Zax,Zl,Zby,h1,e1,e2,e3,ZLo]
  simp only [Zax] at ih
  rw [ih,Ztw]
  by_cases hx:x=y <;> simp [hx]
theorem ZHy (a b:List Zt) (hl:a.length≤9223372036854775807):E 72 [Zax a,Zax b] []=some (.bool (a == b),[]):=by
 rw [Zh (by rfl) ZL6]
 by_cases h:a.length=b.length
 ·have:=ZqE a b h hl a b 0 rfl rfl
  unfold ZlK at this
  simp only [Zax] at this
  have e:=ZiZ h
  simp -implicitDefEqProofs only [EQA,Z2,Nat.reduceLT,Nat.reduceEqDiff,reduceCtorEq,↓reduceIte,gcT,gcA,ZB,Zz,Zv,ZJ,Zsb,Zj2,oI,Zax,e]
  exact this
 ·have e:=Zi0 h
  simp -implicitDefEqProofs only [EQA,Nat.reduceLT,Nat.reduceEqDiff,reduceCtorEq,↓reduceIte,Zsb,Zj2,ZnL,oI,Zax,e,ZiS h]
theorem ZAL (σ:Za) (site own:Nat) (view:Bool) (a b:List Zt) (hl:a.length≤9223372036854775807):Zj E BY σ site 72 own view [.lst false (a.map Zl),.lst false (b.map Zl)]=some (.bool (a == b),σ,{}) :=
 Zb6 (ZHy a b hl) (by kernel_rfl) (by simp -implicitDefEqProofs only [Zcw,Zbg,eq_self,Zax]) (by simp -implicitDefEqProofs only [ZC,Zbg,eq_self,Zax]) rfl (fun _=>rfl) _ _ _ _
end Go.Proofs.YtmlkhhidifjjfaaDoor
namespace Go.Proofs.YtmlkhhidifjjfaaDoor
set_option maxHeartbeats 8000000
set_option maxRecDepth 10000
theorem ZFH (b:Zb):List.take b.length (b.map Zc)=b.map Zc:=List.take_of_length_le (by simp)
def ZN (x:Int):Nat:=(x % 18446744073709551616).toNat
theorem Zp7 (x:Int):IntKind.u64.wrap x=((ZN x:Nat):Int):=by rw [IntKind.wrap_u64,ZN];omega
def Zep (k:Int) (p:Zt):Zb×Zb :=
 if k=1 then (beB (ZN p.num) 1,[]) else if k=2 then (beB (ZN p.num) 2,[]) else if k=3 then (beB (ZN p.num) 4,[])
 else if k=4 then ((ZaG p.num).1,[]) else if k=5 then ((Zag p.text).1,[]) else if k=6 then ((ZbC p.data).1,[])
 else if k=7 then ((Zag p.text).1,(Zag p.pair).1) else ([],[])
def ZcW (p:Zt):Zb:=(ZaG p.id).1++((Zep (ZbX p.id) p).1++(Zep (ZbX p.id) p).2)
theorem ZqH:∀ k n:Nat,(ZcJ k n).length≤k+1
 | 0,n=>by simp [ZcJ]
 | k+1,n=>by
  unfold ZcJ
  split
  ·simp
  ·have:=ZqH k (n / 128)
   simp only [List.length_cons];omega
theorem Zgj (n:Int):(ZaG n).1.length≤4:=by
 unfold ZaG
 split
 ·simp
 ·exact ZqH 3 _
theorem ZoG (b:Zb):(ZbC b).1.length≤65537:=by
 unfold ZbC
 split
 ·simp
 ·simp only [List.length_append,Zbc];omega
theorem ZiC (b:Zb):(Zag b).1.length≤65537:=by
 unfold Zag
 split
 ·exact ZoG b
 ·simp
theorem Zzn (k:Int) (p:Zt):(Zep k p).1.length≤65537∧(Zep k p).2.length≤65537:=by
 have h1:=Zgj p.num
 have h2:=ZiC p.text
 have h3:=ZiC p.pair
 have h4:=ZoG p.data
 unfold Zep
 repeat' split
 all_goals simp only [Zbc,List.length_nil]
 all_goals omega
theorem Ztg (p:Zt):(ZcW p).length≤200000:=by
 have h1:=Zgj p.id
 have h2:=Zzn (ZbX p.id) p
 unfold ZcW
 simp only [List.length_append];omega
theorem Zhl (σ:Za) (site own:Nat) (f:Bool) (a v w:Zb) (h:a.length+(v.length+w.length)≤140737488355328):Zj E BY σ site 56 own true [.lst f [.lst false (a.map Zc),.lst false (v.map Zc),.lst false (w.map Zc)]]=some (.lst false ((a++(v++w)).map Zc),σ,{}):=by
 have:=ZgX σ site own f a [v,w] (by simp) (by simpa using h)
 simpa only [List.map_cons,List.map_nil,ZH,List.flatten_cons,List.flatten_nil,List.append_nil] using this
theorem ZoX (p:Zt) (k:Int) (W:Nat) (hk:ZbX p.id=k) (hW:(k=1∧W=1)∨(k=2∧W=2)∨(k=3∧W=4)):E 89 [Zl p] []=some (.lst false (((ZaG p.id).1++(beB (ZN p.num) W++[])).map Zc),[]):=by
 have hK:=fun σ site own=>Zi9 σ site own p.id
 have hV:=fun σ site own=>Zfh σ site own p.id
 unfold Zez at hV
 have l0:=Zgj p.id
 have hP:=fun σ site own=>Zjw σ site own (ZN p.num) W (by omega) (by omega)
 have hJ:=fun σ site own f=>Zhl σ site own f (ZaG p.id).1 (beB (ZN p.num) W) [] (by simp only [Zbc,List.length_nil];omega)
 simp only [List.map_nil] at hJ
 have hu:=Zp7 p.num
 rw [hk] at hK
 generalize beB (ZN p.num) W=B at *
 have z1:((1:Nat):Int)=1:=rfl
 have z2:((2:Nat):Int)=2:=rfl
 have z4:((4:Nat):Int)=4:=rfl
 rcases hW with ⟨rfl,rfl⟩ | ⟨rfl,rfl⟩ | ⟨rfl,rfl⟩
 ·have w1:IntKind.i64.wrap (1 - 1)=0:=rfl
  have w2:IntKind.i64.wrap (1*2 ^ min (Int.toNat 0) IntKind.i64.bits)=1:=rfl
  have ng:¬((0:Int) < 0):=by decide
  rw [z1] at hP
  rw [Zh (by rfl) ZfB]
  simp -implicitDefEqProofs only [EQA,Zs,Nat.reduceLT,Nat.reduceEqDiff,Nat.reduceBEq,ZaB,decide_true,↓reduceIte,ZfC,Zej,Zfl,oI,ZH,Zl,Zby,hK,hV,hP,hJ,hu,w1,w2,ng,viewAs,ZR,ZL,Zq,List.foldl_cons,List.foldl_nil,AVal.cells]
 ·have w1:IntKind.i64.wrap (2 - 1)=1:=rfl
  have w2:IntKind.i64.wrap (1*2 ^ min (Int.toNat 1) IntKind.i64.bits)=2:=rfl
  have ng:¬((1:Int) < 0):=by decide
  rw [z2] at hP
  rw [Zh (by rfl) ZfB]
  simp -implicitDefEqProofs only [EQA,Zs,Nat.reduceLT,Nat.reduceEqDiff,Nat.reduceBEq,ZaB,decide_true,↓reduceIte,ZfC,Zej,Zfl,oI,ZH,Zl,Zby,hK,hV,hP,hJ,hu,w1,w2,ng,Int.reduceBEq,viewAs,ZR,ZL,Zq,List.foldl_cons,List.foldl_nil,AVal.cells]
 ·have w1:IntKind.i64.wrap (3 - 1)=2:=rfl
  have w2:IntKind.i64.wrap (1*2 ^ min (Int.toNat 2) IntKind.i64.bits)=4:=rfl
  have ng:¬((2:Int) < 0):=by decide
  rw [z4] at hP
  rw [Zh (by rfl) ZfB]
  simp -implicitDefEqProofs only [EQA,Zs,Nat.reduceLT,Nat.reduceEqDiff,Nat.reduceBEq,ZaB,decide_true,↓reduceIte,ZfC,Zej,Zfl,oI,ZH,Zl,Zby,hK,hV,hP,hJ,hu,w1,w2,ng,Int.reduceBEq,viewAs,ZR,ZL,Zq,List.foldl_cons,List.foldl_nil,AVal.cells]
theorem ZNl (p:Zt) (ht:p.text.length≤9223372036854775807) (hp:p.pair.length≤9223372036854775807) (hd:p.data.length≤9223372036854775807):E 89 [Zl p] []=some (.lst false ((ZcW p).map Zc),[]):=by
 have hK:=fun σ site own=>Zi9 σ site own p.id
 have hV:=fun σ site own=>Zfh σ site own p.id
 unfold Zez at hV
 have l0:=Zgj p.id
 unfold ZcW
 rcases Zva p.id with hk | hk | hk | hk | hk | hk | hk | hk
 ·rw [hk] at hK ⊢
  rw [show Zep 0 p=([],[]) from rfl,Zh (by rfl) ZfB]
  have hJ:=fun σ site own f=>Zhl σ site own f (ZaG p.id).1 [] [] (by simp only [List.length_nil];omega)
  simp only [List.map_nil] at hJ
  simp -implicitDefEqProofs only [EQA,Zs,Nat.reduceLT,Nat.reduceEqDiff,Nat.reduceBEq,decide_true,↓reduceIte,ZfC,Zej,Zfl,oI,ZH,Zl,Zby,hK,hV,hJ,Int.reduceBEq,viewAs,ZR,ZL,Zq,List.foldl_cons,List.foldl_nil,AVal.cells]
 ·have h:=ZoX p 1 1 hk (by simp)
  rw [hk];exact h
 ·have h:=ZoX p 2 2 hk (by simp)
  rw [hk];exact h
 ·have h:=ZoX p 3 4 hk (by simp)
  rw [hk];exact h
 ·rw [hk] at hK ⊢
  rw [show Zep 4 p=((ZaG p.num).1,[]) from rfl,Zh (by rfl) ZfB]
  have l1:=Zgj p.num
  have hJ:=fun σ site own f=>Zhl σ site own f (ZaG p.id).1 (ZaG p.num).1 [] (by simp only [List.length_nil];omega)
  simp only [List.map_nil] at hJ
  have hV2:=fun σ site own=>Zfh σ site own p.num
  unfold Zez at hV2
  simp -implicitDefEqProofs only [EQA,Zs,Nat.reduceLT,Nat.reduceEqDiff,Nat.reduceBEq,decide_true,↓reduceIte,ZfC,Zej,Zfl,oI,ZH,Zl,Zby,hK,hV,hV2,hJ,Int.reduceBEq,viewAs,ZR,ZL,Zq,List.foldl_cons,List.foldl_nil,AVal.cells]
 ·rw [hk] at hK ⊢
  rw [show Zep 5 p=((Zag p.text).1,[]) from rfl,Zh (by rfl) ZfB]
  have l1:=ZiC p.text
  have hJ:=fun σ site own f=>Zhl σ site own f (ZaG p.id).1 (Zag p.text).1 [] (by simp only [List.length_nil];omega)
  simp only [List.map_nil] at hJ
  have hV2:=fun σ site own=>ZiV σ site own p.text ht
  unfold byT at hV2
  simp -implicitDefEqProofs only [EQA,Zs,Nat.reduceLT,Nat.reduceEqDiff,Nat.reduceBEq,decide_true,↓reduceIte,ZfC,Zej,Zfl,oI,ZH,Zl,Zby,hK,hV,hV2,hJ,Int.reduceBEq,viewAs,ZR,ZL,Zq,List.foldl_cons,List.foldl_nil,AVal.cells]
 ·rw [hk] at hK ⊢
  rw [show Zep 6 p=((ZbC p.data).1,[]) from rfl,Zh (by rfl) ZfB]
  have l1:=ZoG p.data
  have hJ:=fun σ site own f=>Zhl σ site own f (ZaG p.id).1 (ZbC p.data).1 [] (by simp only [List.length_nil];omega)
  simp only [List.map_nil] at hJ
  have hV2:=fun σ site own f=>ZmE σ site own f p.data hd
  unfold byT at hV2
  simp -implicitDefEqProofs only [EQA,Zs,Nat.reduceLT,Nat.reduceEqDiff,Nat.reduceBEq,decide_true,↓reduceIte,ZfC,Zej,Zfl,oI,ZH,Zl,Zby,hK,hV,hV2,hJ,Int.reduceBEq,viewAs,ZR,ZL,Zq,List.foldl_cons,List.foldl_nil,AVal.cells]
 ·rw [hk] at hK ⊢
  rw [show Zep 7 p=((Zag p.text).1,(Zag p.pair).1) from rfl,Zh (by rfl) ZfB]
  have l1:=ZiC p.text
  have l2:=ZiC p.pair
  have hJ:=fun σ site own f=>Zhl σ site own f (ZaG p.id).1 (Zag p.text).1 (Zag p.pair).1 (by omega)
  have hV2:=fun σ site own=>ZiV σ site own p.text ht
  have hV3:=fun σ site own=>ZiV σ site own p.pair hp
  unfold byT at hV2 hV3
  simp -implicitDefEqProofs only [EQA,Zs,Nat.reduceLT,Nat.reduceEqDiff,Nat.reduceBEq,decide_true,↓reduceIte,ZfC,Zej,Zfl,oI,ZH,Zl,Zby,hK,hV,hV2,hV3,hJ,Int.reduceBEq,viewAs,ZR,ZL,Zq,List.foldl_cons,List.foldl_nil,AVal.cells]
def Zeq (p:Zt):Prop:=p.text.length≤9223372036854775807∧p.pair.length≤9223372036854775807∧p.data.length≤9223372036854775807
theorem ZtR (σ:Za) (site own:Nat) (p:Zt) (h:Zeq p):Zj E BY σ site 89 own true [.agg [.int .i64 p.id,.int .i64 p.num,.str p.text,.str p.pair,.lst false (p.data.map Zc)]]=some (.lst false ((ZcW p).map Zc),σ,{}) :=
 Zbu (ZNl p h.1 h.2.1 h.2.2) (by kernel_rfl) rfl rfl rfl (fun _=>rfl) _ _ _
def Zgk (w:Int) (l:List Zt) (b:Zb):Zb×Int :=
 if (ZaG b.length).2≠0 then ([],129)
 else if (Zaa w ((ZaG b.length).1++b)).2.2≠0∨(Zaa w ((ZaG b.length).1++b)).2.1≠((ZaG b.length).1++b).length∨((Zaa w ((ZaG b.length).1++b)).1 == l)=false then ([],129)
 else ((ZaG b.length).1++b,0)
def Zbs (w:Int) (l:List Zt):Zb×Int:=Zgk w l (l.map ZcW).flatten
theorem ZqA (σ:Za) (site own:Nat) (f:Bool) (a v:Zb) (h:a.length+v.length≤140737488355328):Zj E BY σ site 56 own true [.lst f [.lst false (a.map Zc),.lst false (v.map Zc)]]=some (.lst false ((a++v).map Zc),σ,{}):=by
 have:=ZgX σ site own f a [v] (by simp) (by simpa using h)
 simpa only [List.map_cons,List.map_nil,ZH,List.flatten_cons,List.flatten_nil,List.append_nil] using this
end Go.Proofs.YtmlkhhidifjjfaaDoor
namespace Go.Proofs.YtmlkhhidifjjfaaDoor
set_option maxHeartbeats 8000000
set_option maxRecDepth 10000
theorem Zqb (w:Int):∀ (n:Nat) (b:Zb) (l:List Zt),(Zd5 w n b l).1.length≤l.length+b.length
 | n,[],l=>by rw [Zrd];simp
 | 0,c::r,l=>by simp [Zd5]
 | n+1,c::r,l=>by
  rw [Zt3]
  split
  ·rename_i h
   have hu:=Zsu h
   have ih:=Zqb w n ((c::r).drop (ZbU w (c::r) l).2.1) (l++[(ZbU w (c::r) l).1])
   rw [List.length_drop,List.length_append,List.length_singleton] at ih
   omega
  ·simp
theorem ZEl (w:Int) (b:Zb):(Zaa w b).1.length≤b.length:=by
 unfold Zaa
 split
 ·simp
 ·split
  ·have:=Zqb w (ZS b).1 ((b.take ((ZS b).2.1+(ZS b).1)).drop (ZS b).2.1) []
   simp only [List.length_drop,List.length_take,List.length_nil] at this
   simp only
   omega
  ·simp
def okV (k:Int) (p:Zt):Bool :=
 if k=1 then decide (p.num≥0) && decide (p.num < 256) else if k=2 then decide (p.num≥0) && decide (p.num < 65536) else if k=3 then decide (p.num≥0) && decide (p.num < 4294967296)
 else if k=4 then (ZaG p.num).2 == 0 else if k=5 then (Zag p.text).2 == 0 else if k=6 then (ZbC p.data).2 == 0
 else if k=7 then (Zag p.text).2 == 0 && (Zag p.pair).2 == 0 else false
def ZLh (p:Zt):Bool:=!(decide (p.id < 1) || decide (p.id > 127)) && okV (ZbX p.id) p
end Go.Proofs.YtmlkhhidifjjfaaDoor
namespace Go.Proofs.YtmlkhhidifjjfaaDoor
set_option maxHeartbeats 8000000
set_option maxRecDepth 10000
def Zgs (f:Bool) (x:Zb×Int):AVal:=.tup [.lst f (x.1.map Zc),.int .i64 x.2]
theorem ZHp (w:Int) (l:List Zt) (hl:l.length≤9223372036854775807) (b:Zb) (hb:b.length≤140737488355000) (i:Nat) (h1:¬(i:Int) < l.length) :
  ∃ f,Ziw 0 [(16,.int .i64 i),(15,.int .i64 l.length),(14,.lst false (l.map Zl)),(6,.sl 0 0 0 b.length),(1,.lst false (l.map Zl)),(0,.int .i64 w)] [.row 0 1 (b.map Zc)]=some (Zgs f (Zgk w l b),[]):=by
 have hV:=fun σ site own=>Zfh σ site own (b.length:Int)
 unfold Zez at hV
 have l0:=Zgj (b.length:Int)
 have hJ:=fun σ site own f=>ZqA σ site own f (ZaG b.length).1 b (by omega)
 have hR:=fun σ site own f=>Zjg σ site own f w ((ZaG b.length).1++b) (by simp;omega)
 have hS:=fun σ site own view (a:List Zt) (ha:a.length≤9223372036854775807)=>ZlS σ site own view a l ha
 have ht:=ZFH b
 have hlen:((ZaG b.length).1++b).length≤140737488355328:=by simp;omega
 have hrl:=ZEl w ((ZaG b.length).1++b)
 unfold Zgk Zgs
 generalize ZaG b.length=V at *
 obtain ⟨v,e⟩:=V
 simp only at hV hJ hR hlen hrl ⊢
 generalize hc:v++b=c at *
 generalize Zaa w c=R at *
 obtain ⟨again,used,code⟩:=R
 simp only at hR hrl ⊢
 have hS2:=fun σ site own view=>hS σ site own view again (by omega)
 unfold Ziw
 by_cases he:e=0
 ·subst he
  have n0:((0:Int) != 0)=false:=rfl
  rw [if_neg (by simp)]
  by_cases hc0:code=0
  ·subst hc0
   by_cases hu:used=c.length
   ·have n2:((used:Int) != (c.length:Int))=false:=by simp [hu]
    cases hs:(again == l) <;> rw [hs] at hS2
    ·refine ⟨true,?_⟩
     rw [if_pos (by simp),Z5]
     simp -implicitDefEqProofs only [EQA,Zs,Nat.reduceLT,Nat.reduceEqDiff,unA,ZE,unG,ne_eq,Option.some.injEq,reduceCtorEq,decide_true,decide_false,Z0,↓reduceIte,Zd,Zg9,ZhN,ZfS,Zf2,ZeF,oI,oN,h1,hV,hJ,hR,hS2,ht,n0,n2,viewAs,ZR,ZL,Zq,List.foldl_cons,List.foldl_nil,Nat.le_refl,AVal.cells]
    ·refine ⟨false,?_⟩
     rw [if_neg (by simp [hu]),Z5]
     simp -implicitDefEqProofs only [EQA,Zs,Nat.reduceLT,Nat.reduceEqDiff,unA,ZE,unG,ne_eq,Option.some.injEq,reduceCtorEq,decide_true,decide_false,Z0,↓reduceIte,Zd,Zg9,ZhN,ZfS,Zf2,ZeF,oI,oN,h1,hV,hJ,hR,hS2,ht,n0,n2,viewAs,ZR,ZL,Zq,List.foldl_cons,List.foldl_nil,Nat.le_refl,AVal.cells]
   ·have n2:((used:Int) != (c.length:Int))=true:=by simp;omega
    refine ⟨true,?_⟩
    rw [if_pos (by simp [hu]),Z5]
    simp -implicitDefEqProofs only [EQA,Zs,Nat.reduceLT,Nat.reduceEqDiff,ZE,Zaq,unG,ne_eq,Option.some.injEq,reduceCtorEq,decide_true,decide_false,Z0,↓reduceIte,Zd,Zg9,ZhN,ZfS,Zf2,ZeF,oI,oN,h1,hV,hJ,hR,ht,n0,n2,viewAs,ZR,ZL,Zq,List.foldl_cons,List.foldl_nil,Nat.le_refl,AVal.cells]
  ·have n1:(code != 0)=true:=by simpa using hc0
   refine ⟨true,?_⟩
   rw [if_pos (by simp [hc0]),Z5]
   simp -implicitDefEqProofs only [EQA,Zs,Nat.reduceLT,Nat.reduceEqDiff,ZE,Zaq,ne_eq,Option.some.injEq,reduceCtorEq,decide_true,decide_false,Z0,↓reduceIte,Zd,Zg9,ZhN,ZfS,Zf2,ZeF,oI,oN,h1,hV,hJ,hR,ht,n0,n1,viewAs,ZR,ZL,Zq,List.foldl_cons,List.foldl_nil,Nat.le_refl,AVal.cells]
 ·have n1:(e != 0)=true:=by simpa using he
  refine ⟨true,?_⟩
  rw [if_pos he,Z5]
  simp -implicitDefEqProofs only [EQA,Zs,Nat.reduceLT,Nat.reduceEqDiff,reduceCtorEq,decide_false,↓reduceIte,Zd,Zg9,ZhN,ZfS,Zf2,ZeF,oI,oN,h1,hV,n1]
theorem ZuI (w:Int) (l:List Zt) (hl:l.length≤9223372036854775807) (hx:∀ p ∈ l,Zeq p):∀ (r:List Zt) (i:Nat) (acc:Zb),l.drop i=r→acc.length+r.length*200000≤140737488355000 →
  ∃ f,Ziw 0 [(16,.int .i64 i),(15,.int .i64 l.length),(14,.lst false (l.map Zl)),(6,.sl 0 0 0 acc.length),(1,.lst false (l.map Zl)),(0,.int .i64 w)] [.row 0 1 (acc.map Zc)]=some (Zgs f (Zgk w l (acc++(r.map ZcW).flatten)),[])
 | [],i,acc,h,hn=>by
  simp only [List.map_nil,List.flatten_nil,List.append_nil]
  exact ZHp w l hl acc (by simpa using hn) i (ZcO h)
 | p::r,i,acc,h,hn=>by
  have hlp:=Ztg p
  simp only [List.length_cons] at hn
  obtain ⟨f,ih⟩:=ZuI w l hl hx r (i+1) (acc++ZcW p) (Z7 h).2.1 (by rw [List.length_append];omega)
  refine ⟨f,?_⟩
  have h1:(i:Int) < l.length:=by have:=(Z7 h).2.2;omega
  have e1:=iad (Z7 h).1 Zl (k:=5) rfl
  have e3:=ZcT h1 hl
  have hC:=fun σ site own=>ZtR σ site own p (hx p (List.mem_of_getElem? (Z7 h).1))
  rw [List.append_assoc] at ih
  rw [List.map_cons,List.flatten_cons]
  generalize ZcW p=q at *
  have k1:=Zfp q
  have k2:(acc.length+q.length)*1≤140737488355328:=by omega
  have e4:(acc++q).map Zc=acc.map Zc++q.map Zc:=by simp
  have e5:(acc++q).length=acc.length+q.length:=by simp
  rw [e4,e5] at ih
  unfold Ziw at ih ⊢
  rw [Z5]
  simp -implicitDefEqProofs only [EQA,Z2,Zb1,Nat.reduceAdd,Nat.reduceLT,Nat.reduceEqDiff,Nat.reduceBEq,ne_eq,reduceCtorEq,decide_true,Z0,↓reduceIte,gcT,gcA,ZB,Zz,Zm,Zv,ZY,Zo,ZQ,ZF,ZJ,Zf2,ZeF,oI,oN,ZH,Zl,Zby,h1,e1,e3,hC,k1,k2,Zbi,Nat.le_refl,AVal.cells]
  exact ih
theorem ZzK (w:Int) (l:List Zt) (hl:l.length≤700000000) (hx:∀ p ∈ l,Zeq p):∃ f,E 42 [.int .i64 w,Zax l] []=some (Zgs f (Zbs w l),[]):=by
 have z0:((0:Nat):Int)=0:=rfl
 unfold Zbs
 cases l with
 | nil =>
  have hV:=fun σ site own=>Zfh σ site own 0
  have hv:ZaG 0=([0],0):=rfl
  unfold Zez at hV
  rw [hv] at hV
  have hJ:=fun σ site own f=>ZqA σ site own f [0] [] (by simp)
  have hR:=fun σ site own f=>Zjg σ site own f w [0] (by simp)
  have hr:Zaa w [0]=([],1,0):=rfl
  rw [hr] at hR
  have hS:=fun σ site own view=>ZlS σ site own view [] [] (by simp)
  have e:Zgk w [] (([]:List Zt).map ZcW).flatten=([0],0):=by
   unfold Zgk
   simp only [List.map_nil,List.flatten_nil,List.length_nil,z0,hv,List.append_nil,hr]
   rfl
  rw [e]
  refine ⟨false,?_⟩
  rw [Zh (by rfl) Zui]
  simp only [List.map_nil,List.map_cons,Zc] at hV hJ hR hS
  unfold Zgs
  have b0:Zc 0=.int .u8 0:=rfl
  have u0:(0:UInt8).toNat=0:=rfl
  have n0:((0:Int) != 0)=false:=rfl
  have n1:((1:Int) != 1)=false:=rfl
  rw [u0,z0] at hV hJ hR
  have z1:((1:Nat):Int)=1:=rfl
  rw [z1] at hR
  simp -implicitDefEqProofs only [EQA,Z2,Nat.reduceLT,Nat.reduceEqDiff,reduceCtorEq,↓reduceIte,gcT,gcA,ZB,Zz,Zv,ZJ,Zuz,ZlW,oI,Zax]
  rw [Z5]
  simp -implicitDefEqProofs only [EQA,Zs,Nat.reduceLT,Nat.reduceEqDiff,unA,ZE,unG,ne_eq,Option.some.injEq,reduceCtorEq,decide_true,decide_false,↓reduceIte,Zd,Zg9,ZhN,ZfS,Zf2,ZeF,oI,oN,z0,z1,hV,hJ,hR,hS,n0,n1,b0,viewAs,ZR,ZL,Zq,List.foldl_cons,List.foldl_nil,AVal.cells,Int.reduceLT]
 | cons p r =>
  have hlp:=Ztg p
  simp only [List.length_cons] at hl
  obtain ⟨f,ih⟩:=ZuI w (p::r) (by simp only [List.length_cons];omega) hx r 1 (ZcW p) rfl (by omega)
  refine ⟨f,?_⟩
  have e1:=iad (l:=p::r) (i:=0) rfl Zl (k:=5) rfl
  have h1:(0:Int) < ((p::r).length:Int):=by simp only [List.length_cons];omega
  have w1:IntKind.i64.wrap (0+1)=1:=rfl
  have z1:((1:Nat):Int)=1:=rfl
  have hC:=fun σ site own=>ZtR σ site own p (hx p (by simp))
  rw [List.map_cons,List.flatten_cons]
  generalize ZcW p=q at *
  have k1:=Zfp q
  have k2:q.length*1≤140737488355328:=by omega
  have e6:(q.map Zc).length=q.length:=by simp
  rw [z0] at e1
  rw [z1] at ih
  generalize (r.map ZcW).flatten=t at *
  generalize hL:p::r=L at *
  rw [Zh (by rfl) Zui]
  unfold Ziw at ih
  simp -implicitDefEqProofs only [EQA,Z2,Nat.reduceLT,Nat.reduceEqDiff,reduceCtorEq,↓reduceIte,gcT,gcA,ZB,Zz,Zv,ZJ,Zuz,ZlW,oI,Zax]
  rw [Z5]
  simp -implicitDefEqProofs only [EQA,Z2,Zb1,Nat.reduceAdd,Nat.reduceLT,Nat.reduceEqDiff,Nat.reduceBEq,ne_eq,reduceCtorEq,decide_true,Z0,↓reduceIte,gcT,gcA,ZB,Zz,Zm,Zv,ZY,Zo,ZQ,ZF,ZJ,Zf2,ZeF,oI,oN,ZH,Zl,Zby,h1,e1,w1,hC,k1,k2,Zbi,Nat.le_refl,AVal.cells]
  exact ih
theorem ZwD (σ:Za) (site own:Nat) (f:Bool) (w:Int) (l:List Zt) (hl:l.length≤700000000) (hx:∀ p ∈ l,Zeq p):Zj E BY σ site 42 own true [.int .i64 w,.lst f (l.map Zl)]=some (Zgs false (Zbs w l),σ,{}):=by
 obtain ⟨g,h⟩:=ZzK w l hl hx
 exact Zbu h (by kernel_rfl) rfl rfl rfl (fun _=>rfl) _ _ _
end Go.Proofs.YtmlkhhidifjjfaaDoor
namespace Go.Proofs.YtmlkhhidifjjfaaDoor
set_option maxHeartbeats 4000000
set_option maxRecDepth 10000
end Go.Proofs.YtmlkhhidifjjfaaDoor
namespace Go.Proofs.YtmlkhhidifjjfaaDoor
def ZlB:Ze:=(.seq (.region [oI 4 (.mov (.c (.lst true [])))] none [1,0]) (.seq (.seq (.region [oI 5 (.mov (.t 0)),oI 6 (.len (.t 5)),oI 7 (.mov (.t 1)),oI 8 (.bin .gtr (.t 6) (.t 7))] none [8,1,0]) (.cond (.t 8) (.seq (.region [oI 9 (.mov (.t 0)),oI 10 (.mov (.t 1)),oI 11 (.slice 1 (.t 9) none (some (.t 10)) none),oI 4 (.mov (.t 11))] none [4]) .ret) .skip)) (.seq (.region [oI 12 (.mov (.t 0)),oI 4 (.mov (.t 12))] none [4]) .ret)))
def ZnD:ZD:=⟨[(.tmp 4)],ZlB⟩
theorem ZNa:FC 18=some ZnD:=by kernel_rfl
theorem ZuU:ZnD.body=ZlB:=rfl
theorem ZvG:ZnD.res=[(.tmp 4)]:=rfl
def Zoz:Ze:=(.seq (.region [oI 4 (.mov (.c (.bool false)))] none [1,0]) (.seq (.region [oI 5 (.mov (.t 0)),oI 6 (.b2s (.t 5)),oI 7 (.mov (.t 1)),oI 8 (.b2s (.t 7)),oI 9 (.bin .eql (.t 6) (.t 8)),oI 4 (.mov (.t 9))] none [4]) .ret))
def Zqh:ZD:=⟨[(.tmp 4)],Zoz⟩
theorem ZFr:FC 15=some Zqh:=by kernel_rfl
theorem ZJK:Zqh.body=Zoz:=rfl
theorem ZKO:Zqh.res=[(.tmp 4)]:=rfl
def Zln:Ze:=(.seq (.region [oI 6 (.mov (.c (.int .i64 0)))] none [2,1,0]) (.seq (.region [oI 8 (.mov (.t 2)),oI 9 (.mov (.t 1)),oI 10 (.bin .sub (.t 8) (.t 9)),oI 11 (.bin .add (.t 10) (.c (.int .i64 1))),oI 7 (.mov (.t 11))] none [7,1,0]) (.seq (.region [oI 12 (.mov (.t 0)),oI 13 (.mov (.t 7)),oI 14 (.bin .rem (.t 12) (.t 13)),oI 0 (.mov (.t 14))] none [7,1,0]) (.seq (.seq (.region [oI 15 (.mov (.t 0)),oI 16 (.bin .lss (.t 15) (.c (.int .i64 0)))] none [16,7,1,0]) (.cond (.t 16) (.region [oI 17 (.mov (.t 0)),oI 18 (.mov (.t 7)),oI 19 (.bin .add (.t 17) (.t 18)),oI 0 (.mov (.t 19))] none [1,0]) .skip)) (.seq (.region [oI 20 (.mov (.t 1)),oI 21 (.mov (.t 0)),oI 22 (.bin .add (.t 20) (.t 21)),oI 6 (.mov (.t 22))] none [6]) .ret)))))
def Zm9:ZD:=⟨[(.tmp 6)],Zln⟩
theorem Zzo:FC 39=some Zm9:=by kernel_rfl
theorem Zrf:Zm9.body=Zln:=rfl
theorem Zvc:Zm9.res=[(.tmp 6)]:=rfl
end Go.Proofs.YtmlkhhidifjjfaaDoor
namespace Go.Proofs.YtmlkhhidifjjfaaDoor
set_option maxHeartbeats 2000000
set_option maxRecDepth 10000
end Go.Proofs.YtmlkhhidifjjfaaDoor
namespace Go.Proofs.YtmlkhhidifjjfaaDoor
set_option maxHeartbeats 4000000
set_option maxRecDepth 10000
structure Zs8 where
 topic:Zb
 payload:Zb
 qos:Int
 retain:Bool
 sender:Zb
 expires:Int
 props:List Zt
 origin:Int
 number:Int
 hops:Int
 deriving DecidableEq
structure ZJ0 where
 note:Zs8
 qos:Int
 retain:Bool
 ids:List Int
 share:Zb
 deriving DecidableEq
end Go.Proofs.YtmlkhhidifjjfaaDoor
namespace Go.Proofs.YtmlkhhidifjjfaaDoor
set_option maxHeartbeats 8000000
set_option maxRecDepth 10000
theorem ZCb (w:Int) (b:Zb) (h:(Zaa w b).2.2=0):(Zaa w b).2.1≤268435460:=by
 have h1:=ZmC b
 have h2:(ZS b).2.1≤5:=by
  have : ∀ (b:Zb) (i n:Nat),i≤4→(gvA i n b).2.1≤5:=by
   intro b
   induction b with
   | nil=>intro i n hi;unfold gvA;split <;> simp
   | cons c r ih =>
    intro i n hi
    unfold gvA
    repeat' split
    all_goals (try simp only)
    all_goals first
     | omega
     | exact ih _ _ (by omega)
  exact this b 0 0 (by omega)
 unfold Zaa at h ⊢
 split
 ·rename_i hc;rw [if_pos hc] at h;simp at h
 ·rename_i hc
  rw [if_neg hc] at h
  split
  ·simp only;omega
  ·rename_i h3;rw [if_neg h3] at h;exact absurd h h3
structure ZOE (n:Zs8):Prop where
 topic:n.topic.length≤9223372036854775807
 payload:n.payload.length≤9223372036854775807
 sender:n.sender.length≤9223372036854775807
 props:n.props.length≤700000000
 tx:∀ p ∈ n.props,Zeq p
 dat:∀ p ∈ n.props,p.data.length≤140737488355328
end Go.Proofs.YtmlkhhidifjjfaaDoor
namespace Go.Proofs.YtmlkhhidifjjfaaDoor
set_option maxHeartbeats 8000000
set_option maxRecDepth 10000
def wn:List AVal:=[.lst true [],.int .i64 0,.int .i8 0]
def wv (r g n:Nat):List AVal:=[.sl r g 0 n,.int .i64 0,.int .i8 0]
def wH (g:Nat) (l:Zb):Za:=[.var (wv 1 g l.length),.row g 1 (l.map Zc)]
theorem ZbD {σ:Za} {site f own:Nat} {view:Bool} {args:List AVal} {r:AVal×Za×Cls} (h:Zj E BY σ site f own view args=some r):Zj E1 BY σ site f own view args=some r:=ZpM Zzd h
theorem Zhq {O:ZO} {f:Nat} {args args':List AVal} {l l':Zb} {q:AVal} (hq:ZI q=true) (hw:viewR (wH 1 l') q=some (q,[])∧viewR (wH 0 l') q=some (q,[])) (g2:Nat) (hg2:g2≤1) (h:O f (.ref 0 0::args') (wH 0 l)=some (q,wH g2 l')) (hb:BY f=false) (hp:args.all Zab=true) (hn:args.map ZG=args') {σ:Za} {t r g site own:Nat} (htr:t≠r) (hff:ZaY σ site own=true) (hs:σ[t]?=some (.var (wv r g l.length))) (hr:σ[r]?=some (.row g 1 (l.map Zc))) :
  Zj O BY σ site f own true (.ref t 0::args)=some (q,(σ.set t (.var (wv r (g+g2) l'.length))).set r (.row (g+g2) 1 (l'.map Zc)),{ any:=true,upd:=[(t,wv r (g+g2) l'.length)] }):=by
 subst hn
 have hw':viewR [.var (wv 1 g2 l'.length),.row g2 1 (l'.map Zc)] q=some (q,[]):=by
  rcases Nat.lt_or_ge g2 1 with e | e
  ·obtain rfl:g2=0:=by omega
   exact hw.2
  ·obtain rfl:g2=1:=by omega
   exact hw.1
 exact ZgC (cs1:=wv 1 0 l.length) (cs2:=wv 1 g2 l'.length) hs hr htr rfl hb hp (fun ρ hρ=>by simp only [wv,Zf,Zk,hρ]) hg2 hff hq h (Zjs true hq hw' rfl hg2 (fun ρ hρ=>by simp only [wv,Zf,Zk,hρ])) (fun ρ hρ=>by simp only [wv,Zf,Zk,hρ])
theorem Zgy {O:ZO} {f:Nat} {args args':List AVal} {l':Zb} {q:AVal} (hq:ZI q=true) (hv:Zad true 1 (some (q,wH 0 l'))=some (q,wH 0 l')) (h:O f (.ref 0 0::args') [.var wn]=some (q,wH 0 l')) (hb:BY f=false) (hp:args.all Zab=true) (hn:args.map ZG=args') {σ:Za} {t site:Nat} (hf:σ[site]?=some .free) (hs:σ[t]?=some (.var wn)) :
  Zj O BY σ site f 1 true (.ref t 0::args)=some (q,(σ.set t (.var (wv site 0 l'.length))).set site (.row 0 1 (l'.map Zc)),{ any:=true,upd:=[(t,wv site 0 l'.length)] }):=by
 subst hn
 have htl:t < σ.length:=(List.getElem?_eq_some_iff.1 hs).1
 have hsl:site < σ.length:=(List.getElem?_eq_some_iff.1 hf).1
 have hne:site≠t:=by rintro rfl;rw [hs] at hf;cases hf
 have h1:σ.getD t .free=.var wn:=by simp [List.getD_eq_getElem?_getD,hs]
 have hf0:Zq σ []=σ:=rfl
 have hsh:showAs σ (.ref t 0::args)=some (.ref t 0::args.map ZG,[]):=by
  rw [showAs,show showA σ (.ref t 0)=some (.ref t 0,[]) from rfl,Zd1 hp]
  rfl
 have href:Zr (.ref t 0::args.map ZG)=[t]:=by
  rw [Zr,Zdg hp];rfl
 have hre:Zz σ 1000 [t] []=[t]:=by
  have e1:([]:List Nat).contains t=false:=rfl
  rw [show (1000:Nat)=998+1+1 from rfl,Zz,e1]
  simp only [Bool.false_eq_true,if_false,h1,ZJ]
  rfl
 unfold Zj ZbV
 rw [hb]
 simp only [Bool.false_eq_true,if_false,hsh,hf0,href,hre]
 unfold ZbB
 have hall:([t].all fun t=>okB (σ.getD t .free))=true:=by simp only [List.all_cons,List.all_nil,h1,okB,Bool.and_true]
 rw [if_pos hall]
 have hρt:Zm σ 0 [t] t 0=some (0,0):=by simp [Zm,ZY,hs,Zo,ZQ]
 have hargs:Zf (Zm σ 0 [t]) (.ref t 0::args.map ZG)=.ref 0 0::args.map ZG:=by
  rw [Zf,Zdf hp]
  simp only [Zk,hρt]
 have hheap:Zv σ 0 [t] (Zm σ 0 [t]) [t] 0=[.var wn]:=by
  simp only [Zv,h1,ZF]
  rfl
 rw [hargs,hheap,h]
 rw [show [t].length=1 from rfl,hv]
 have hk:ZaZ σ [t] (wH 0 l') 0=true:=by simp [wH,ZaZ,okB,Zcb,Zo,hs]
 have hff:ZaY σ site 1=true:=by simp [ZaY,freeAt,hf]
 have hup:Za4 ((σ.set t (.var (wv site 0 l'.length))).set site (.row 0 1 (l'.map Zc))) [t]=[(t,wv site 0 l'.length)]:=by
  have e1:((σ.set t (.var (wv site 0 l'.length))).set site (.row 0 1 (l'.map Zc)))[t]?=some (.var (wv site 0 l'.length)):=by
   rw [List.getElem?_set_ne hne,List.getElem?_set_self htl]
  simp only [Za4,e1]
 have hlay:Za2 σ [t] site (wH 0 l') 0 σ=(σ.set t (.var (wv site 0 l'.length))).set site (.row 0 1 (l'.map Zc)):=by
  simp [wH,Za2,ZaH,Zce,ZF,Zo,wv,Zf,Zk,ZaA]
 simp only [ZaC,List.isEmpty_cons,Bool.false_and,Bool.false_eq_true,if_false,hk,hff,hlay,hup,(Za1 _ _ hq).1]
 rfl
theorem ZtQ {O:ZO} {f:Nat} {args args':List AVal} (h:O f (.ref 0 0::args') [.var wn]=some (.tup [],[.var wn])) (hb:BY f=false) (hp:args.all Zab=true) (hn:args.map ZG=args') {σ:Za} {t site own:Nat} (hff:ZaY σ site own=true) (hs:σ[t]?=some (.var wn)) :
  Zj O BY σ site f own true (.ref t 0::args)=some (.tup [],σ,{ any:=true,upd:=[(t,wn)] }):=by
 subst hn
 have htl:t < σ.length:=(List.getElem?_eq_some_iff.1 hs).1
 have h1:σ.getD t .free=.var wn:=by simp [List.getD_eq_getElem?_getD,hs]
 have hf0:Zq σ []=σ:=rfl
 have hsh:showAs σ (.ref t 0::args)=some (.ref t 0::args.map ZG,[]):=by
  rw [showAs,show showA σ (.ref t 0)=some (.ref t 0,[]) from rfl,Zd1 hp]
  rfl
 have href:Zr (.ref t 0::args.map ZG)=[t]:=by
  rw [Zr,Zdg hp];rfl
 have hre:Zz σ 1000 [t] []=[t]:=by
  have e1:([]:List Nat).contains t=false:=rfl
  rw [show (1000:Nat)=998+1+1 from rfl,Zz,e1]
  simp only [Bool.false_eq_true,if_false,h1,ZJ]
  rfl
 unfold Zj ZbV
 rw [hb]
 simp only [Bool.false_eq_true,if_false,hsh,hf0,href,hre]
 unfold ZbB
 have hall:([t].all fun t=>okB (σ.getD t .free))=true:=by simp only [List.all_cons,List.all_nil,h1,okB,Bool.and_true]
 rw [if_pos hall]
 have hρt:Zm σ 0 [t] t 0=some (0,0):=by simp [Zm,ZY,hs,Zo,ZQ]
 have hargs:Zf (Zm σ 0 [t]) (.ref t 0::args.map ZG)=.ref 0 0::args.map ZG:=by
  rw [Zf,Zdf hp]
  simp only [Zk,hρt]
 have hheap:Zv σ 0 [t] (Zm σ 0 [t]) [t] 0=[.var wn]:=by
  simp only [Zv,h1,ZF]
  rfl
 rw [hargs,hheap,h]
 have hv:Zad true 1 (some (.tup [],[.var wn]))=some (.tup [],[.var wn]):=rfl
 rw [show [t].length=1 from rfl,hv]
 have hk:ZaZ σ [t] [.var wn] 0=true:=by simp [ZaZ,okB,Zcb,Zo,hs]
 have hset:σ.set t (.var wn)=σ:=by
  apply List.ext_getElem?
  intro i
  rw [List.getElem?_set]
  by_cases e:t=i
  ·subst e;rw [if_pos rfl,if_pos htl,hs]
  ·simp [e]
 have hup:Za4 σ [t]=[(t,wn)]:=by simp only [Za4,hs]
 have hlay:Za2 σ [t] site [.var wn] 0 σ=σ:=by
  simp only [Za2,ZaH,ZF,List.getD_cons_zero]
  exact hset
 simp only [ZaC,List.isEmpty_cons,Bool.false_eq_true,if_false,hk,hff,hlay,hup,Zk,Zf,List.length_cons,List.length_nil,Nat.zero_add,Nat.le_add_right,Nat.le_refl,decide_true,Bool.and_self,if_true]
def wT (n:Nat):AVal:=.tup [.int .i64 (n:Nat),.nili]
theorem ZxU (x:Zb) (hx:x.length≤ZbN):E1 130 [.ref 0 0,.lst false (x.map Zc)] [.var wn]=some (wT x.length,wH 0 x):=by
 rw [Zuh]
 simp only [Zht,wn,List.length_map,hx,Zfp,and_self,if_true]
 rfl
theorem ZA2 (l x:Zb) (hx:l.length+x.length≤ZbN):E1 130 [.ref 0 0,.lst false (x.map Zc)] (wH 0 l)=some (wT x.length,wH 1 (l++x)):=by
 rw [Zuh]
 simp only [Zht,wH,wv,List.length_map,hx,Zfp,and_self,if_true,List.map_append,List.length_append]
 rfl
theorem Zrn (x:Zb) (hx:x.length≤ZbN) {σ:Za} {t site:Nat} (hf:σ[site]?=some .free) (hs:σ[t]?=some (.var wn)) :
  Zj E1 BY σ site 130 1 true [.ref t 0,.lst false (x.map Zc)]=some (wT x.length,(σ.set t (.var (wv site 0 x.length))).set site (.row 0 1 (x.map Zc)),{ any:=true,upd:=[(t,wv site 0 x.length)] }) :=
 Zgy (args:=[.lst false (x.map Zc)]) rfl rfl (ZxU x hx) (by kernel_rfl) rfl rfl hf hs
theorem ff1 {σ:Za} {site:Nat} (hf:σ[site]?=some .free):ZaY σ site 1=true:=by simp [ZaY,freeAt,hf]
theorem ZhV (l x:Zb) (hx:l.length+x.length≤ZbN) {σ:Za} (t r g:Nat) {site:Nat} (htr:t≠r) (hf:σ[site]?=some .free) (hs:σ[t]?=some (.var (wv r g l.length))) (hr:σ[r]?=some (.row g 1 (l.map Zc))) :
  Zj E1 BY σ site 130 1 true [.ref t 0,.lst false (x.map Zc)]=some (wT x.length,(σ.set t (.var (wv r (g+1) (l++x).length))).set r (.row (g+1) 1 ((l++x).map Zc)),{ any:=true,upd:=[(t,wv r (g+1) (l++x).length)] }) :=
 Zhq (args:=[.lst false (x.map Zc)]) rfl ⟨rfl,rfl⟩ 1 (by omega) (ZA2 l x hx) (by kernel_rfl) rfl rfl htr (ff1 hf) hs hr
theorem ZsA (x:Zb) (σ:Za):Zak 1 (.var (wv 1 0 x.length)::.row 0 1 (x.map Zc)::σ) (.tup [])=some (.tup [],wH 0 x):=rfl
theorem Zgz (l:Zb) (g:Nat) (σ:Za):Zak 2 (.var (wv 1 (g+1) l.length)::.row (g+1) 1 (l.map Zc)::σ) (.tup [])=some (.tup [],wH 1 l):=by
 simp [Zak,gcA,ZB,Zr,ZX,List.range,List.range.loop,ZJ,wv,Zz,Zm,ZY,Zv,ZQ,Zo,ZF,Zf,Zk,wH]
theorem ZBc (n:Int) (W:Nat) (h1:1≤W) (hW:W≤8):E1 127 [.ref 0 0,.int .i64 n,.int .i64 (W:Nat)] [.var wn]=some (.tup [],wH 0 (beB (ZN n) W)):=by
 have hw:=Zp7 n
 have hP:=fun σ site own=>ZbD (Zjw σ site own (ZN n) W h1 hW)
 have hlen:(beB (ZN n) W).length≤ZbN:=by rw [Zbc];unfold ZbN;omega
 generalize beB (ZN n) W=B at *
 have hC:=fun {σ:Za} {t site:Nat}=>Zrn B hlen (σ:=σ) (t:=t) (site:=site)
 have hO:=fun σ=>ZsA B σ
 rw [Zbj (by rfl) Zsz]
 unfold wn at *
 simp -implicitDefEqProofs only [EQA,Nat.reduceAdd,Nat.reduceLT,Nat.reduceEqDiff,Nat.reduceBEq,reduceCtorEq,↓reduceIte,Ztt,Zku,Zve,oI,hw,hP,hC,wT,hO,Zae,Zaf,Zam,Zao,Zar,Zah]
theorem ZFs (l:Zb) (n:Int) (W:Nat) (h1:1≤W) (hW:W≤8) (hl:l.length+W≤ZbN):E1 127 [.ref 0 0,.int .i64 n,.int .i64 (W:Nat)] (wH 0 l)=some (.tup [],wH 1 (l++beB (ZN n) W)):=by
 have hw:=Zp7 n
 have hP:=fun σ site own=>ZbD (Zjw σ site own (ZN n) W h1 hW)
 have hlen:l.length+(beB (ZN n) W).length≤ZbN:=by rw [Zbc];omega
 generalize beB (ZN n) W=B at *
 have hC:=fun {σ:Za} {site:Nat}=>ZhV l B hlen (σ:=σ) 0 1 0 (site:=site) (by omega)
 have hO:=fun g σ=>Zgz (l++B) g σ
 rw [Zbj (by rfl) Zsz]
 unfold wH at *
 simp -implicitDefEqProofs only [EQA,Nat.reduceAdd,Nat.reduceLT,Nat.reduceEqDiff,Nat.reduceBEq,reduceCtorEq,↓reduceIte,Ztt,Zku,Zve,oI,hw,hP,hC,wT,hO,Zae,Zaf,Zam,Zao,Zar,Zah]
end Go.Proofs.YtmlkhhidifjjfaaDoor
namespace Go.Proofs.YtmlkhhidifjjfaaDoor
end Go.Proofs.YtmlkhhidifjjfaaDoor
namespace Go.Proofs.YtmlkhhidifjjfaaDoor
set_option maxHeartbeats 4000000
set_option maxRecDepth 10000
theorem ZAE (b:Zb) (n:Int) (h0:0≤n):E 18 [ZH b,.int .i64 n] []=some (ZH (b.take n.toNat),[]):=by
 rw [Zh (by rfl) ZNa]
 by_cases h:n < (b.length:Int)
 ·have hl:n≤(b.length:Int):=by omega
  simp -implicitDefEqProofs only [EQA,Zs,Nat.reduceLT,Nat.reduceEqDiff,reduceCtorEq,decide_true,↓reduceIte,ZuU,ZlB,ZvG,oI,ZH,h0,h,hl,Zgu]
 ·have hl:b.take n.toNat=b:=List.take_of_length_le (by omega)
  simp -implicitDefEqProofs only [EQA,Zs,Nat.reduceLT,Nat.reduceEqDiff,reduceCtorEq,decide_false,↓reduceIte,ZuU,ZlB,ZvG,oI,ZH,h,hl]
theorem Zw7 (σ:Za) (site own:Nat) (view:Bool) (b:Zb) (n:Int) (h0:0≤n):Zj E BY σ site 18 own view [.lst false (b.map Zc),.int .i64 n]=some (.lst false ((b.take n.toNat).map Zc),σ,{}) :=
 Zb6 (ZAE b n h0) (by kernel_rfl) (by simp -implicitDefEqProofs only [Zcw,Zbg,eq_self,ZH]) (by simp -implicitDefEqProofs only [ZC,Zbg,eq_self,ZH]) rfl (fun _=>rfl) _ _ _ _
end Go.Proofs.YtmlkhhidifjjfaaDoor
namespace Go.Proofs.YtmlkhhidifjjfaaDoor
set_option maxHeartbeats 16000000
set_option maxRecDepth 10000
structure ZKj where
 fmt:Int
 content:Zb
 corr:Zb
 users:Zb
end Go.Proofs.YtmlkhhidifjjfaaDoor
namespace Go.Proofs.YtmlkhhidifjjfaaDoor
set_option maxHeartbeats 4000000
set_option maxRecDepth 10000
end Go.Proofs.YtmlkhhidifjjfaaDoor
namespace Go.Proofs.YtmlkhhidifjjfaaDoor
set_option maxHeartbeats 16000000
set_option maxRecDepth 10000
structure ZOH where
 r1:Zb×ZdW
 r2:Zb×ZdW
 r3:Zb×ZdW
 r4:Zb×ZdW
 r5:Zb×ZdW
 r6:Zb×ZdW
 r7:Zb×ZdW
 r8:Zb×ZdW
end Go.Proofs.YtmlkhhidifjjfaaDoor
namespace Go.Proofs.YtmlkhhidifjjfaaDoor
set_option maxHeartbeats 16000000
set_option maxRecDepth 10000
theorem ZCG (w:Int) (b:Zb):(Zaa w b).1.length≤268435455:=by
 have hlt:=ZmC b
 unfold Zaa
 split
 ·simp
 ·split
  ·have:=Zqb w (ZS b).1 ((b.take ((ZS b).2.1+(ZS b).1)).drop (ZS b).2.1) []
   simp only [List.length_drop,List.length_take,List.length_nil] at this
   simp only
   omega
  ·simp
end Go.Proofs.YtmlkhhidifjjfaaDoor
namespace Go.Proofs.YtmlkhhidifjjfaaDoor
set_option maxHeartbeats 16000000
set_option maxRecDepth 10000
structure ZOL (it:ZJ0):Prop where
 note:ZOE it.note
 ids:it.ids.length≤1000000
 share:it.share.length≤9223372036854775807
end Go.Proofs.YtmlkhhidifjjfaaDoor
namespace Go.Proofs.YtmlkhhidifjjfaaDoor
set_option maxHeartbeats 16000000
set_option maxRecDepth 10000
end Go.Proofs.YtmlkhhidifjjfaaDoor
namespace Go.Proofs.YtmlkhhidifjjfaaDoor
set_option maxHeartbeats 16000000
set_option maxRecDepth 10000
structure ZEF where
 topic:Zb
 sender:Zb
 share:Zb
 payload:Zb
 qos:Int
 sub:Int
 retain:Bool
 keep:Bool
 life:Int
 p:ZKj
 ids:List Int
 origin:Int
 number:Int
structure ZOM (m:ZEF):Prop where
 topic:m.topic.length≤9223372036854775807
 sender:m.sender.length≤9223372036854775807
 share:m.share.length≤9223372036854775807
 content:m.p.content.length≤9223372036854775807
 users:m.p.users.length≤9223372036854775807
 ids:m.ids.length≤9223372036854775807
end Go.Proofs.YtmlkhhidifjjfaaDoor
namespace Go.Proofs.YtmlkhhidifjjfaaDoor
set_option maxHeartbeats 16000000
set_option maxRecDepth 10000
structure ZOI where
 d:Zb×ZdW
 m:Zb×ZdW
 k:Zb×ZdW
end Go.Proofs.YtmlkhhidifjjfaaDoor
namespace Go.Proofs.YtmlkhhidifjjfaaDoor
set_option maxHeartbeats 8000000
set_option maxRecDepth 10000
def ZDK (k:Int) (p:Zt):Prop :=
 if k=1∨k=2∨k=3∨k=4 then p.text=[]∧p.pair=[]∧p.data=[] else if k=5 then p.num=0∧p.pair=[]∧p.data=[]
 else if k=6 then p.num=0∧p.text=[]∧p.pair=[] else p.num=0∧p.data=[]
structure ZOK (w:Int) (acc:List Zt) (p:Zt):Prop where
 good:ZLh p=true
 may:Zgr p.id w=true
 canon:ZDK (ZbX p.id) p
 fits:ZgI p.id p.num=true
 dup:((ZfO p.id acc).isSome && !ZhM p.id w)=false
end Go.Proofs.YtmlkhhidifjjfaaDoor
namespace Go.Proofs.YtmlkhhidifjjfaaDoor
set_option maxHeartbeats 8000000
set_option maxRecDepth 10000
theorem Zi7 (s:Zb):(ZbC s).1.length≤65537:=by
 unfold ZbC
 split
 ·simp
 ·simp [Zbc];omega
theorem ZcK (s:Zb):(Zag s).1.length≤65537:=by
 unfold Zag
 split
 ·exact Zi7 s
 ·simp
theorem Zdh (w:Int) (l:List Zt):(Zbs w l).1.length≤268435460:=by
 unfold Zbs Zgk
 generalize (l.map ZcW).flatten=b
 by_cases h:(ZaG b.length).2≠0
 ·rw [if_pos h];simp
 ·rw [if_neg h]
  split
  ·simp
  ·rename_i h2
   have h0:(Zaa w ((ZaG b.length).1++b)).2.2=0:=Classical.byContradiction fun e=>h2 (Or.inl e)
   have h1:(Zaa w ((ZaG b.length).1++b)).2.1=((ZaG b.length).1++b).length:=Classical.byContradiction fun e=>h2 (Or.inr (Or.inl e))
   have:=ZCb w _ h0
   rw [h1] at this
   exact this
theorem ZxH (s:Zb) (hs:s.length≤9223372036854775807):E1 129 [.ref 0 0,.str s] [.var wn]=some (.tup [],wH 0 (Zag s).1):=by
 have hP:=fun σ site own=>ZbD (ZiV σ site own s hs)
 unfold byT at hP
 have hlen:(Zag s).1.length≤ZbN:=by have:=ZcK s;unfold ZbN;omega
 generalize (Zag s).1=B at *
 generalize (Zag s).2=C at *
 have hC:=fun {σ:Za} {t site:Nat}=>Zrn B hlen (σ:=σ) (t:=t) (site:=site)
 have hO:=fun σ=>ZsA B σ
 rw [Zbj (by rfl) Ztc]
 unfold wn at *
 simp -implicitDefEqProofs only [EQA,Nat.reduceAdd,Nat.reduceLT,Nat.reduceEqDiff,Nat.reduceBEq,reduceCtorEq,↓reduceIte,ZuT,Zle,Zr1,oI,hP,hC,wT,hO]
theorem ZB2 (l:Zb) (s:Zb) (hs:s.length≤9223372036854775807) (hl:l.length+(Zag s).1.length≤ZbN):E1 129 [.ref 0 0,.str s] (wH 0 l)=some (.tup [],wH 1 (l++(Zag s).1)):=by
 have hP:=fun σ site own=>ZbD (ZiV σ site own s hs)
 unfold byT at hP
 generalize (Zag s).1=B at *
 generalize (Zag s).2=C at *
 have hC:=fun {σ:Za} {site:Nat}=>ZhV l B hl (σ:=σ) 0 1 0 (site:=site) (by omega)
 have hO:=fun g σ=>Zgz (l++B) g σ
 rw [Zbj (by rfl) Ztc]
 unfold wH at *
 simp -implicitDefEqProofs only [EQA,Nat.reduceAdd,Nat.reduceLT,Nat.reduceEqDiff,Nat.reduceBEq,reduceCtorEq,↓reduceIte,ZuT,Zle,Zr1,oI,hP,hC,wT,hO]
theorem Ztd (s:Zb) (hs:s.length≤9223372036854775807) {σ:Za} {t site:Nat} (hf:σ[site]?=some .free) (hs0:σ[t]?=some (.var wn)) :
  Zj E1 BY σ site 129 1 true [.ref t 0,.str s]=some (.tup [],(σ.set t (.var (wv site 0 (Zag s).1.length))).set site (.row 0 1 ((Zag s).1.map Zc)),{ any:=true,upd:=[(t,wv site 0 (Zag s).1.length)] }) :=
 Zgy (args:=[.str s]) rfl rfl (ZxH s hs) (by kernel_rfl) rfl rfl hf hs0
theorem Zil (l:Zb) (s:Zb) (hs:s.length≤9223372036854775807) (hl:l.length+(Zag s).1.length≤ZbN) {σ:Za} (t r g:Nat) {site:Nat} (htr:t≠r) (hf:σ[site]?=some .free) (hs0:σ[t]?=some (.var (wv r g l.length))) (hr:σ[r]?=some (.row g 1 (l.map Zc))) :
  Zj E1 BY σ site 129 1 true [.ref t 0,.str s]=some (.tup [],(σ.set t (.var (wv r (g+1) (l++(Zag s).1).length))).set r (.row (g+1) 1 ((l++(Zag s).1).map Zc)),{ any:=true,upd:=[(t,wv r (g+1) (l++(Zag s).1).length)] }) :=
 Zhq (args:=[.str s]) rfl ⟨rfl,rfl⟩ 1 (by omega) (ZB2 l s hs hl) (by kernel_rfl) rfl rfl htr (ff1 hf) hs0 hr
theorem ZzM (l:Zb) (s:Zb) (hs:s.length≤9223372036854775807) (hl:l.length+(ZbC s).1.length≤ZbN):E1 149 [.ref 0 0,.lst false (s.map Zc)] (wH 0 l)=some (.tup [],wH 1 (l++(ZbC s).1)):=by
 have hP:=fun σ site own=>ZbD (ZmE σ site own false s hs)
 unfold byT at hP
 generalize (ZbC s).1=B at *
 generalize (ZbC s).2=C at *
 have hC:=fun {σ:Za} {site:Nat}=>ZhV l B hl (σ:=σ) 0 1 0 (site:=site) (by omega)
 have hO:=fun g σ=>Zgz (l++B) g σ
 rw [Zbj (by rfl) ZNw]
 unfold wH at *
 simp -implicitDefEqProofs only [EQA,Nat.reduceAdd,Nat.reduceLT,Nat.reduceEqDiff,Nat.reduceBEq,reduceCtorEq,↓reduceIte,ZIE,Zn4,ZM0,oI,hP,hC,wT,hO]
theorem ZuY (l:Zb) (s:Zb) (hs:s.length≤9223372036854775807) (hl:l.length+(ZbC s).1.length≤ZbN) {σ:Za} (t r g:Nat) {site:Nat} (htr:t≠r) (hf:σ[site]?=some .free) (hs0:σ[t]?=some (.var (wv r g l.length))) (hr:σ[r]?=some (.row g 1 (l.map Zc))) :
  Zj E1 BY σ site 149 1 true [.ref t 0,.lst false (s.map Zc)]=some (.tup [],(σ.set t (.var (wv r (g+1) (l++(ZbC s).1).length))).set r (.row (g+1) 1 ((l++(ZbC s).1).map Zc)),{ any:=true,upd:=[(t,wv r (g+1) (l++(ZbC s).1).length)] }) :=
 Zhq (args:=[.lst false (s.map Zc)]) rfl ⟨rfl,rfl⟩ 1 (by omega) (ZzM l s hs hl) (by kernel_rfl) rfl rfl htr (ff1 hf) hs0 hr
theorem ZBG (l:Zb) (w:Int) (ps:List Zt) (hp:ps.length≤700000000) (hx:∀ p ∈ ps,Zeq p) (hl:l.length+(Zbs w ps).1.length≤ZbN):E1 128 [.ref 0 0,.int .i64 w,.lst false (ps.map Zl)] (wH 0 l)=some (.tup [],wH 1 (l++(Zbs w ps).1)):=by
 have hP:=fun σ site own=>ZbD (ZwD σ site own false w ps hp hx)
 unfold Zgs at hP
 generalize (Zbs w ps).1=B at *
 generalize (Zbs w ps).2=C at *
 have hC:=fun {σ:Za} {site:Nat}=>ZhV l B hl (σ:=σ) 0 1 0 (site:=site) (by omega)
 have hO:=fun g σ=>Zgz (l++B) g σ
 rw [Zbj (by rfl) ZyR]
 unfold wH at *
 simp -implicitDefEqProofs only [EQA,Nat.reduceAdd,Nat.reduceLT,Nat.reduceEqDiff,Nat.reduceBEq,reduceCtorEq,↓reduceIte,ZBd,Zm7,ZCS,oI,hP,hC,wT,hO]
theorem Zgh (l:Zb) (w:Int) (ps:List Zt) (hp:ps.length≤700000000) (hx:∀ p ∈ ps,Zeq p) (hl:l.length+(Zbs w ps).1.length≤ZbN) {σ:Za} (t r g:Nat) {site:Nat} (htr:t≠r) (hf:σ[site]?=some .free) (hs0:σ[t]?=some (.var (wv r g l.length))) (hr:σ[r]?=some (.row g 1 (l.map Zc))) :
  Zj E1 BY σ site 128 1 true [.ref t 0,.int .i64 w,.lst false (ps.map Zl)]=some (.tup [],(σ.set t (.var (wv r (g+1) (l++(Zbs w ps).1).length))).set r (.row (g+1) 1 ((l++(Zbs w ps).1).map Zc)),{ any:=true,upd:=[(t,wv r (g+1) (l++(Zbs w ps).1).length)] }) :=
 Zhq (args:=[.int .i64 w,.lst false (ps.map Zl)]) rfl ⟨rfl,rfl⟩ 1 (by omega) (ZBG l w ps hp hx hl) (by kernel_rfl) rfl rfl htr (ff1 hf) hs0 hr
theorem ZjS (n:Int) (W:Nat) (h1:1≤W) (hW:W≤8) {m:Int} (hm:((W:Nat):Int)=m) {σ:Za} {t site:Nat} (hf:σ[site]?=some .free) (hs0:σ[t]?=some (.var wn)) :
  Zj E1 BY σ site 127 1 true [.ref t 0,.int .i64 n,.int .i64 m]=some (.tup [],(σ.set t (.var (wv site 0 (beB (ZN n) W).length))).set site (.row 0 1 ((beB (ZN n) W).map Zc)),{ any:=true,upd:=[(t,wv site 0 (beB (ZN n) W).length)] }):=by
 subst hm
 exact Zgy (args:=[.int .i64 n,.int .i64 (W:Nat)]) rfl rfl (ZBc n W h1 hW) (by kernel_rfl) rfl rfl hf hs0
theorem ZfZ (l:Zb) (n:Int) (W:Nat) (h1:1≤W) (hW:W≤8) {m:Int} (hm:((W:Nat):Int)=m) (hl:l.length+W≤ZbN) {σ:Za} (t r g:Nat) {site:Nat} (htr:t≠r) (hf:σ[site]?=some .free) (hs0:σ[t]?=some (.var (wv r g l.length))) (hr:σ[r]?=some (.row g 1 (l.map Zc))) :
  Zj E1 BY σ site 127 1 true [.ref t 0,.int .i64 n,.int .i64 m]=some (.tup [],(σ.set t (.var (wv r (g+1) (l++beB (ZN n) W).length))).set r (.row (g+1) 1 ((l++beB (ZN n) W).map Zc)),{ any:=true,upd:=[(t,wv r (g+1) (l++beB (ZN n) W).length)] }):=by
 subst hm
 exact Zhq (args:=[.int .i64 n,.int .i64 (W:Nat)]) rfl ⟨rfl,rfl⟩ 1 (by omega) (ZFs l n W h1 hW hl) (by kernel_rfl) rfl rfl htr (ff1 hf) hs0 hr
def Z6 (b:Bool) (n:Int):Int:=if b then n else 0
theorem ZA9 (b:Bool) (n:Int):E 81 [.bool b,.int .i64 n] []=some (.int .i64 (Z6 b n),[]):=by
 rw [Zh (by rfl) ZJf]
 unfold Z6
 cases b <;> simp -implicitDefEqProofs only [EQA,Nat.reduceLT,Nat.reduceEqDiff,reduceCtorEq,↓reduceIte,ZGh,Zqc,ZBx,oI]
theorem Zih (b:Bool) (n:Int) (σ:Za) (site own:Nat):Zj E1 BY σ site 81 own true [.bool b,.int .i64 n]=some (.int .i64 (Z6 b n),σ,{}) :=
 ZbD (Zbu (ZA9 b n) (by kernel_rfl) rfl rfl rfl (fun _=>rfl) _ _ _)
end Go.Proofs.YtmlkhhidifjjfaaDoor
namespace Go.Proofs.YtmlkhhidifjjfaaDoor
set_option maxHeartbeats 8000000
set_option maxRecDepth 10000
def Zu (p:Zn):List AVal:=[.int .i64 p.type,.bool p.dup,.int .i64 p.qos,.bool p.retain,.int .i64 p.id,.str p.topic,.lst false (p.payload.map Zc),.int .i64 p.code,.lst false (p.codes.map (AVal.int .i64)),.lst false (p.props.map Zl),.lst false (p.subs.map ZU),.lst false (p.filters.map AVal.str),.bool p.clean,.int .i64 p.keep,.str p.client,.bool p.hasWill,.str p.will.topic,.lst false (p.will.data.map Zc),.int .i64 p.will.qos,.bool p.will.retain,.lst false (p.will.props.map Zl),.bool p.hasUser,.str p.user,.bool p.hasPassword,.lst false (p.password.map Zc),.bool p.present]
theorem Zbo (p:Zn):ZZ p=.agg (Zu p):=rfl
theorem ZbP (p:Zn):(Zu p).length=26:=rfl
theorem ZdG (p:Zn):Zab (.agg (Zu p))=true:=rfl
theorem Zdv (p:Zn):ZG (.agg (Zu p))=.agg (Zu p):=rfl
theorem Zcj (p:Zn):(Zu p).take 26=Zu p:=rfl
theorem Zu6 (p:Zn):Zr (Zu p)=[]:=by
 have h:=Zr8 (ZdG p)
 rw [Zdv] at h
 simpa [ZX] using h
structure OkW (p:Zn):Prop where
 topic:p.topic.length≤9223372036854775807
 payload:p.payload.length≤1099511627776
 codes:p.codes.length≤1048576
 props:p.props.length≤700000000∧∀ q ∈ p.props,Zeq q
 subs:p.subs.length≤1048576∧∀ s ∈ p.subs,s.filter.length≤9223372036854775807
 filters:p.filters.length≤1048576∧∀ f ∈ p.filters,f.length≤9223372036854775807
 client:p.client.length≤9223372036854775807
 wtopic:p.will.topic.length≤9223372036854775807
 wdata:p.will.data.length≤9223372036854775807
 wprops:p.will.props.length≤700000000∧∀ q ∈ p.will.props,Zeq q
 user:p.user.length≤9223372036854775807
 password:p.password.length≤9223372036854775807
def wO:Option Zb→Za
 | none=>[.var wn]
 | some l=>wH 0 l
theorem ZdZ {j g:Nat} {l:Zb} {σ:Za} (hj:j≠0) (h0:σ[0]?=some (.var (wv j g l.length))) (h1:σ[j]?=some (.row g 1 (l.map Zc))):Zak 1 σ (.tup [])=some (.tup [],wH 0 l):=by
 have d0:σ.getD 0 .free=.var (wv j g l.length):=by simp [List.getD_eq_getElem?_getD,h0]
 have d1:σ.getD j .free=.row g 1 (l.map Zc):=by simp [List.getD_eq_getElem?_getD,h1]
 have ej:([0]:List Nat).contains j=false:=by simp;omega
 have hrf:Zr (wv j g l.length)=[j]:=rfl
 have hi:ZB 1 [.tup []] σ=[0,j]:=by
  have : Zr [AVal.tup []]=[]:=rfl
  have hR:List.range 1=[0]:=rfl
  simp only [ZB,this,List.nil_append,hR,List.flatMap_cons,List.flatMap_nil,List.append_nil,d0,ZJ,hrf]
  rw [show (1000:Nat)=998+1+1 from rfl,Zz,ej]
  simp only [Bool.false_eq_true,if_false,d1,ZJ,List.nil_append]
  rfl
 have hρ:Zm σ 1 [0,j] j g=some (1,0):=by
  have : ¬(0:Nat)=j:=fun e=>hj e.symm
  simp [Zm,ZY,Zo,ZQ,h1,this]
 have hren:Zf (Zm σ 1 [0,j]) (wv j g l.length)=wv 1 0 l.length:=by simp only [wv,Zf,Zk,hρ]
 have ht:Zf (Zm σ 1 [0,j]) [AVal.tup []]=[.tup []]:=rfl
 simp only [Zak,gcA,hi,ht,Zv,d0,d1,ZQ,Zo,ZF,hren,wH]
 simp
theorem ZDS (σ:Za):Zak 1 (.var wn::σ) (.tup [])=some (.tup [],[.var wn]):=rfl
theorem ZvV (l:Zb) (σ:Za):Zak 2 (.var (wv 1 0 l.length)::.row 0 1 (l.map Zc)::σ) (.tup [])=some (.tup [],wH 0 l):=by
 simp [Zak,gcA,ZB,Zr,ZX,List.range,List.range.loop,ZJ,wv,Zz,Zm,ZY,Zv,ZQ,Zo,ZF,Zf,Zk,wH]
def ZbJ (p:Zn):Zb:=if p.code≠0∨p.props≠[] then beB (ZN p.code) 1++(if p.props≠[] then (Zbs p.type p.props).1 else []) else []
def Zdi (p:Zn):Option Zb:=if p.code≠0∨p.props≠[] then some (ZbJ p) else none
theorem Zeu:ZbN=70368744177664:=rfl
section
variable (p:Zn) (h:OkW p)
include h
theorem ZtX:E1 131 [.ref 0 0,ZZ p] [.var wn]=some (.tup [],wO (Zdi p)):=by
 have l2:=Zdh p.type p.props
 have l1:=Zbc 1 (ZN p.code)
 have hN:=fun {σ:Za} {t site:Nat}=>ZjS p.code 1 (by omega) (by omega) (m:=1) rfl (σ:=σ) (t:=t) (site:=site)
 have hPr:=fun {σ:Za} {site:Nat}=>Zgh (beB (ZN p.code) 1) p.type p.props h.props.1 h.props.2 (by rw [Zeu];omega) (σ:=σ) 0 2 0 (site:=site) (by omega)
 have hO:=fun {j g:Nat} {l:Zb} {σ:Za}=>ZdZ (j:=j) (g:=g) (l:=l) (σ:=σ)
 have hl:(p.props.map Zl).length=p.props.length:=by simp
 rw [Zbo]
 have e1:=Zcj p
 have e0:=ZbP p
 have a0:(Zu p)[0]?=some (.int .i64 p.type):=rfl
 have a7:(Zu p)[7]?=some (.int .i64 p.code):=rfl
 have a9:(Zu p)[9]?=some (.lst false (p.props.map Zl)):=rfl
 unfold Zdi ZbJ
 generalize Zu p=P at *
 generalize p.type=ty at *
 generalize p.code=c at *
 generalize p.props=ps at *
 rw [Zbj (by rfl) ZuL]
 by_cases hc:c=0
 ·have b1:(c != 0)=false:=by simp [hc]
  cases ps with
  | nil =>
   rw [if_neg (by simp [hc])]
   unfold wn wO at *
   simp -implicitDefEqProofs only [EQA,Zs,Z2,Zvl,Nat.reduceAdd,Nat.reduceLT,Nat.reduceEqDiff,Nat.reduceBEq,ZE,unG,ne_eq,Option.some.injEq,reduceCtorEq,decide_false,decide_eq_true_eq,↓reduceIte,Zd,ZfQ,Zee,Zf1,oI,AVal.cells,a0,a7,a9,b1]
   exact ZDS []
  | cons q ps =>
   rw [if_pos (by simp)]
   have g0:((((q::ps).map Zl).length:Nat):Int) > 0:=by simp
   rw [if_pos (by simp)]
   generalize (Zbs ty (q::ps)).1=B at *
   generalize (q::ps).map Zl=qs at *
   generalize beB (ZN c) 1=D at *
   unfold wn wO at *
   simp -implicitDefEqProofs only [EQA,Zs,Nat.reduceAdd,Nat.reduceLT,Nat.reduceEqDiff,Nat.reduceBEq,ZE,unG,ne_eq,Option.some.injEq,reduceCtorEq,decide_true,decide_false,↓reduceIte,Zd,ZfQ,Zee,Zf1,oI,AVal.cells,a0,a7,a9,b1,g0,hN,hPr]
   exact hO (j:=2) (by decide) rfl rfl
 ·have b1:(c != 0)=true:=by simp [hc]
  rw [if_pos (by simp [hc]),if_pos (by simp [hc])]
  cases ps with
  | nil =>
   rw [if_neg (by simp),List.append_nil]
   generalize beB (ZN c) 1=D at *
   unfold wn wO at *
   simp -implicitDefEqProofs only [EQA,Zs,Nat.reduceAdd,Nat.reduceLT,Nat.reduceEqDiff,Nat.reduceBEq,ZE,Zaq,ne_eq,Option.some.injEq,reduceCtorEq,decide_false,decide_eq_true_eq,↓reduceIte,Zd,ZfQ,Zee,Zf1,oI,AVal.cells,a0,a7,a9,b1,hN]
   exact hO (j:=2) (by decide) rfl rfl
  | cons q ps =>
   have g0:((((q::ps).map Zl).length:Nat):Int) > 0:=by simp
   rw [if_pos (by simp)]
   generalize (Zbs ty (q::ps)).1=B at *
   generalize (q::ps).map Zl=qs at *
   generalize beB (ZN c) 1=D at *
   unfold wn wO at *
   simp -implicitDefEqProofs only [EQA,Zs,Nat.reduceAdd,Nat.reduceLT,Nat.reduceEqDiff,Nat.reduceBEq,ZE,Zaq,ne_eq,Option.some.injEq,reduceCtorEq,decide_true,decide_false,↓reduceIte,Zd,ZfQ,Zee,Zf1,oI,AVal.cells,a0,a7,a9,b1,g0,hN,hPr]
   exact hO (j:=2) (by decide) rfl rfl
theorem ZMu (l:Zb) (hl:l.length≤1000000000):E1 131 [.ref 0 0,ZZ p] (wH 0 l)=some (.tup [],if ZbJ p=[] then wH 0 l else wH 1 (l++ZbJ p)):=by
 have l2:=Zdh p.type p.props
 have l1:=Zbc 1 (ZN p.code)
 have hN:=fun {σ:Za} {site:Nat}=>ZfZ l p.code 1 (by omega) (by omega) (m:=1) rfl (by rw [Zeu];omega) (σ:=σ) 0 1 0 (site:=site) (by omega)
 have hPr:=fun {σ:Za} {site:Nat}=>Zgh (l++beB (ZN p.code) 1) p.type p.props h.props.1 h.props.2 (by rw [Zeu,List.length_append];omega) (σ:=σ) 0 1 1 (site:=site) (by omega)
 have hl:(p.props.map Zl).length=p.props.length:=by simp
 rw [Zbo]
 have e1:=Zcj p
 have e0:=ZbP p
 have a0:(Zu p)[0]?=some (.int .i64 p.type):=rfl
 have a7:(Zu p)[7]?=some (.int .i64 p.code):=rfl
 have a9:(Zu p)[9]?=some (.lst false (p.props.map Zl)):=rfl
 obtain ⟨R,hR⟩:∃ R,R=ZbJ p:=⟨_,rfl⟩
 rw [←hR]
 unfold ZbJ at hR
 generalize Zu p=P at *
 generalize p.type=ty at *
 generalize p.code=c at *
 generalize p.props=ps at *
 rw [Zbj (by rfl) ZuL]
 by_cases hc:c=0
 ·have b1:(c != 0)=false:=by simp [hc]
  cases ps with
  | nil =>
   rw [if_neg (by simp [hc])] at hR
   subst hR
   rw [if_pos rfl]
   unfold wH at *
   simp -implicitDefEqProofs only [EQA,Zvl,Nat.reduceAdd,Nat.reduceLT,Nat.reduceEqDiff,Nat.reduceBEq,ZE,unG,ne_eq,Option.some.injEq,reduceCtorEq,decide_false,decide_eq_true_eq,↓reduceIte,ZfQ,Zee,Zf1,oI,AVal.cells,a0,a7,a9,b1]
   exact ZvV _ _
  | cons q ps =>
   have g0:((((q::ps).map Zl).length:Nat):Int) > 0:=by simp
   rw [if_pos (by simp),if_pos (by simp)] at hR
   subst hR
   rw [if_neg (by intro e;have:=congrArg List.length e;simp [l1] at this)]
   generalize (Zbs ty (q::ps)).1=B at *
   generalize (q::ps).map Zl=qs at *
   generalize beB (ZN c) 1=D at *
   rw [←List.append_assoc]
   unfold wH at *
   simp -implicitDefEqProofs only [EQA,Nat.reduceAdd,Nat.reduceLT,Nat.reduceEqDiff,Nat.reduceBEq,ZE,unG,ne_eq,Option.some.injEq,reduceCtorEq,decide_true,decide_false,↓reduceIte,ZfQ,Zee,Zf1,oI,AVal.cells,a0,a7,a9,b1,g0,hN,hPr]
   exact Zgz _ 1 _
 ·have b1:(c != 0)=true:=by simp [hc]
  rw [if_pos (by simp [hc])] at hR
  cases ps with
  | nil =>
   rw [if_neg (by simp),List.append_nil] at hR
   subst hR
   rw [if_neg (by intro e;have:=congrArg List.length e;simp [l1] at this)]
   generalize beB (ZN c) 1=D at *
   unfold wH at *
   simp -implicitDefEqProofs only [EQA,Nat.reduceAdd,Nat.reduceLT,Nat.reduceEqDiff,Nat.reduceBEq,ZE,Zaq,ne_eq,Option.some.injEq,reduceCtorEq,decide_false,decide_eq_true_eq,↓reduceIte,ZfQ,Zee,Zf1,oI,AVal.cells,a0,a7,a9,b1,hN]
   exact Zgz _ 0 _
  | cons q ps =>
   have g0:((((q::ps).map Zl).length:Nat):Int) > 0:=by simp
   rw [if_pos (by simp)] at hR
   subst hR
   rw [if_neg (by intro e;have:=congrArg List.length e;simp [l1] at this)]
   generalize (Zbs ty (q::ps)).1=B at *
   generalize (q::ps).map Zl=qs at *
   generalize beB (ZN c) 1=D at *
   rw [←List.append_assoc]
   unfold wH at *
   simp -implicitDefEqProofs only [EQA,Nat.reduceAdd,Nat.reduceLT,Nat.reduceEqDiff,Nat.reduceBEq,ZE,Zaq,ne_eq,Option.some.injEq,reduceCtorEq,decide_true,decide_false,↓reduceIte,ZfQ,Zee,Zf1,oI,AVal.cells,a0,a7,a9,b1,g0,hN,hPr]
   exact Zgz _ 1 _
def Zfq (p:Zn):Nat:=if ZbJ p=[] then 0 else 1
theorem ZNS (l:Zb) (hl:l.length≤1000000000) {σ:Za} (t r g:Nat) {site:Nat} (htr:t≠r) (hf:σ[site]?=some .free) (hs0:σ[t]?=some (.var (wv r g l.length))) (hr:σ[r]?=some (.row g 1 (l.map Zc))) :
  Zj E1 BY σ site 131 1 true [.ref t 0,.agg (Zu p)]=some (.tup [],(σ.set t (.var (wv r (g+Zfq p) (l++ZbJ p).length))).set r (.row (g+Zfq p) 1 ((l++ZbJ p).map Zc)),{ any:=true,upd:=[(t,wv r (g+Zfq p) (l++ZbJ p).length)] }):=by
 have hw:=ZMu p h l hl
 have hw':E1 131 [.ref 0 0,ZZ p] (wH 0 l)=some (.tup [],wH (Zfq p) (l++ZbJ p)):=by
  rw [hw]
  unfold Zfq
  split
  ·rename_i e;rw [e,List.append_nil]
  ·rfl
 exact Zhq (args:=[.agg (Zu p)]) rfl ⟨rfl,rfl⟩ (Zfq p) (by unfold Zfq;split <;> omega) hw' (by kernel_rfl) (by rw [List.all_cons,ZdG];rfl) (by rw [List.map_cons,Zdv];rfl) htr (ff1 hf) hs0 hr
def ZbM (p:Zn):Zb:=beB (ZN p.id) 2++(Zbs p.type p.props).1
theorem Zyu:E1 132 [.ref 0 0,ZZ p] [.var wn]=some (.tup [],wH 0 (ZbM p)):=by
 have l2:=Zdh p.type p.props
 have l1:=Zbc 2 (ZN p.id)
 have hN:=fun {σ:Za} {t site:Nat}=>ZjS p.id 2 (by omega) (by omega) (m:=2) rfl (σ:=σ) (t:=t) (site:=site)
 have hPr:=fun {σ:Za} {site:Nat}=>Zgh (beB (ZN p.id) 2) p.type p.props h.props.1 h.props.2 (by rw [Zeu];omega) (σ:=σ) 0 2 0 (site:=site) (by omega)
 have hO:=fun {j g:Nat} {l:Zb} {σ:Za}=>ZdZ (j:=j) (g:=g) (l:=l) (σ:=σ)
 rw [Zbo]
 have e0:=ZbP p
 have a0:(Zu p)[0]?=some (.int .i64 p.type):=rfl
 have a4:(Zu p)[4]?=some (.int .i64 p.id):=rfl
 have a9:(Zu p)[9]?=some (.lst false (p.props.map Zl)):=rfl
 unfold ZbM
 generalize Zu p=P at *
 generalize p.type=ty at *
 generalize p.id=c at *
 generalize p.props=ps at *
 generalize (Zbs ty ps).1=B at *
 generalize ps.map Zl=qs at *
 generalize beB (ZN c) 2=D at *
 rw [Zbj (by rfl) ZEY]
 unfold wn at *
 simp -implicitDefEqProofs only [EQA,Zs,Nat.reduceAdd,Nat.reduceLT,Nat.reduceEqDiff,Nat.reduceBEq,reduceCtorEq,↓reduceIte,Zd,ZzC,ZoL,ZxQ,oI,AVal.cells,a0,a4,a9,hN,hPr]
 exact hO (j:=2) (by decide) rfl rfl
theorem ZnE {σ:Za} {t site:Nat} (hf:σ[site]?=some .free) (hs0:σ[t]?=some (.var wn)) :
  Zj E1 BY σ site 132 1 true [.ref t 0,.agg (Zu p)]=some (.tup [],(σ.set t (.var (wv site 0 (ZbM p).length))).set site (.row 0 1 ((ZbM p).map Zc)),{ any:=true,upd:=[(t,wv site 0 (ZbM p).length)] }) :=
 Zgy (args:=[.agg (Zu p)]) rfl rfl (Zyu p h) (by kernel_rfl) (by rw [List.all_cons,ZdG];rfl) (by rw [List.map_cons,Zdv];rfl) hf hs0
end
end Go.Proofs.YtmlkhhidifjjfaaDoor
namespace Go.Proofs.YtmlkhhidifjjfaaDoor
set_option maxHeartbeats 8000000
set_option maxRecDepth 10000
theorem ZcQ (w:Int) (b:Zb):(Zaa w b).2.1≤b.length:=by
 unfold Zaa
 split
 ·simp
 ·rename_i h
  split
  ·simp only
   have : ¬(((ZS b).1:Int) > (b.length:Int) - ((ZS b).2.1:Nat)):=fun e=>h (Or.inr e)
   omega
  ·simp
def Zaj:Zn:=⟨0,false,0,false,0,[],[],0,[],[],[],[],false,0,[],false,⟨[],[],0,false,[]⟩,false,[],false,[],false⟩
theorem Zkv (σ:Za):ZaJ σ P0=some (Zu Zaj,[]):=rfl
theorem Zlu (q:Zn) (ρ:Rho):Zf ρ (Zu q)=Zu q:=by
 have h:=Zuu (ρ:=ρ) (ZdG q)
 rw [Zdv,Zk] at h
 injection h
theorem ZvB {Q:List AVal} {q:Zn} (c:Int) (h:∀ σ,ZaJ σ Q=some (Zu q,[])):ZbH 0 (some (.tup [.agg Q,.int .i64 c],[]))=some (.tup [ZZ q,.int .i64 c],[]):=by
 have h1:viewR [] (.tup [.agg Q,.int .i64 c])=some (.tup [ZZ q,.int .i64 c],[]):=by
  rw [viewR,viewAs,ZR,h]
  rfl
 unfold ZbH
 simp only [h1]
 have e1:=Zu6 q
 have e2:=Zlu q
 have hi:ZB 0 [AVal.tup [ZZ q,.int .i64 c]] []=[]:=by
  have : Zr [AVal.tup [ZZ q,.int .i64 c]]=[]:=by simp [Zr,ZX,Zbo,e1]
  simp only [ZB,this,List.nil_append,List.range_zero,List.flatMap_nil]
  rfl
 simp only [Zq,gcA,hi,Zf,Zk,Zv]
 rw [Zbo,Zk,e2]
theorem ZvF {b c:Int} {l:Zb} {Q:List AVal} {q:Zn} (h:E1 32 [.agg [.int .u8 b,.lst false (l.map Zc)]] []=some (.tup [.agg Q,.int .i64 c],[])) (hv:∀ σ,ZaJ σ Q=some (Zu q,[])) (f:Bool) (σ:Za) (site own:Nat) :
  Zj E1 BY σ site 32 own true [.agg [.int .u8 b,.lst f (l.map Zc)]]=some (.tup [ZZ q,.int .i64 c],σ,{}):=by
 refine Zbu h (by kernel_rfl) rfl rfl (ZvB c hv) (fun site=>?_) σ site own
 simp only [Zk,Zf,Zbo,Zlu]
def ZeT (b:Int) (l:Zb):Zn×Int :=
 if qoI b < 3 then (if qoI b > 0∨(Zbl b 8 != 0)=false then (match Zdy (qoI b) l with
  | .error e=>(Zaj,e)
  | .ok (tp,n,ps,pay)=>({ Zaj with type:=3,dup:=(Zbl b 8 != 0),qos:=qoI b,retain:=(Zbl b 1 != 0),id:=n,topic:=tp,props:=ps,payload:=pay },0))
  else (Zaj,130)) else (Zaj,129)
theorem ZtC (b:Int) (h3:tyI b=3) (l:Zb) (hl:l.length≤140737488355328):∃ Q,E1 32 [.agg [.int .u8 b,.lst false (l.map Zc)]] []=some (.tup [.agg Q,.int .i64 (ZeT b l).2],[])∧∀ σ,ZaJ σ Q=some (Zu (ZeT b l).1,[]):=by
 have hf:=ZFQ P0 rfl (by rfl) b l h3
 have hQ:(ZcM P0 b).length=26:=rfl
 have hN:Zd (ZcM P0 b)=true:=by rfl
 unfold ZeT
 by_cases hq:qoI b < 3
 ·rw [if_pos hq] at hf ⊢
  by_cases hd:qoI b > 0∨(Zbl b 8 != 0)=false
  ·rw [if_pos hd] at hf ⊢
   cases hp:Zdy (qoI b) l with
   | error e =>
    obtain ⟨cs,hn,hb⟩:=ZHb (ZcM P0 b) hQ hN (qoI b) rfl rfl l hl hp
    refine ⟨P0,?_,Zkv⟩
    rw [ZfH]
    exact ZgB b e l (Zrz b l hQ hN hn hf hb)
   | ok s =>
    obtain ⟨tp,n,ps,pay⟩:=s
    have hb:=ZLm (ZcM P0 b) hQ hN (qoI b) rfl rfl rfl (fun r _=>ZcQ 3 r) l hl hp
    refine ⟨((((ZcM P0 b).set 5 (.str tp)).set 4 (.int .i64 n)).set 9 (.lst false (ps.map Zl))).set 6 (.lst false (pay.map Zc)),?_,fun σ=>rfl⟩
    rw [ZfH]
    exact Zox b l hQ hN rfl (by rfl) rfl rfl hf hb
  ·rw [if_neg hd] at hf ⊢
   refine ⟨P0,?_,Zkv⟩
   rw [ZfH]
   exact ZgB b 130 l (Zlv b l (Zx _ hQ hN _ _) hf)
 ·rw [if_neg hq] at hf ⊢
  refine ⟨P0,?_,Zkv⟩
  rw [ZfH]
  exact ZgB b 129 l (Zlv b l (Zx _ hQ hN _ _) hf)
theorem ZDm (b:Int) (h3:tyI b=3) (l:Zb) (hl:l.length≤140737488355328) (f:Bool) (σ:Za) (site own:Nat) :
  Zj E1 BY σ site 32 own true [.agg [.int .u8 b,.lst f (l.map Zc)]]=some (.tup [ZZ (ZeT b l).1,.int .i64 (ZeT b l).2],σ,{}):=by
 obtain ⟨Q,h,hv⟩:=ZtC b h3 l hl
 exact ZvF h hv f σ site own
end Go.Proofs.YtmlkhhidifjjfaaDoor
namespace Go.Proofs.YtmlkhhidifjjfaaDoor
set_option maxHeartbeats 8000000
set_option maxRecDepth 10000
def ZcY (k:Int) (l:Zb):Except Int (Int×List Zt×Zb):=match idK l with
 | .error c=>.error c
 | .ok (n,r1)=>match Zbr k r1 with
  | .error c=>.error c
  | .ok (ps,r2)=>if r2.length=0 then .error 130 else .ok (n,ps,r2)
def Zb0 (P:List AVal) (n:Int) (ps:List Zt):List AVal:=(P.set 4 (.int .i64 n)).set 9 (.lst false (ps.map Zl))
structure QOk (k:Int) (Q:List AVal):Prop where
 len:Q.length=26
 nor:Zd Q=true
 ty:Q[0]?=some (.int .i64 k)
 c8:Q[8]?=some (.lst true [])
 c10:Q[10]?=some (.lst true [])
 c11:Q[11]?=some (.lst true [])
theorem Zdu {k:Int} {P:List AVal} (h:QOk k P) (n:Int) (ps:List Zt):QOk k (Zb0 P n ps):=by
 unfold Zb0
 refine ⟨by simp [h.len],ZM (Zb4 _ _) _ (ZM rfl _ h.nor),?_,?_,?_,?_⟩
 ·rw [List.getElem?_set_ne (by omega),List.getElem?_set_ne (by omega)];exact h.ty
 ·rw [List.getElem?_set_ne (by omega),List.getElem?_set_ne (by omega)];exact h.c8
 ·rw [List.getElem?_set_ne (by omega),List.getElem?_set_ne (by omega)];exact h.c10
 ·rw [List.getElem?_set_ne (by omega),List.getElem?_set_ne (by omega)];exact h.c11
theorem ZHc {f:Nat} {cs:List AVal} (hc:Zd cs=true) (τ:Za) :
  gcT 3 [(1,.fn f [.ref 1 0,.ref 2 0]),(0,.ref 0 0)] (.var cs::.var [.ref 0 0]::.var [.ref 0 0]::τ)=([(1,.fn f [.ref 1 0,.ref 2 0]),(0,.ref 0 0)],[.var cs,.var [.ref 0 0],.var [.ref 0 0]]):=by
 have e2:=fun ρ=>ZaS ρ cs hc
 have hi:ZB 3 [.fn f [.ref 1 0,.ref 2 0],.ref 0 0] (.var cs::.var [.ref 0 0]::.var [.ref 0 0]::τ)=[0,1,2]:=by
  have hR:List.range 3=[0,1,2]:=rfl
  simp only [ZB,hR,List.flatMap_cons,List.flatMap_nil,List.append_nil,List.getD_cons_zero,List.getD_cons_succ,ZJ,Zr,ZX,(e2 (fun _ _=>none)).2]
  rfl
 have hρ0:Zm (.var cs::.var [.ref 0 0]::.var [.ref 0 0]::τ) 3 [0,1,2] 0 0=some (0,0):=rfl
 have hρ1:Zm (.var cs::.var [.ref 0 0]::.var [.ref 0 0]::τ) 3 [0,1,2] 1 0=some (1,0):=rfl
 have hρ2:Zm (.var cs::.var [.ref 0 0]::.var [.ref 0 0]::τ) 3 [0,1,2] 2 0=some (2,0):=rfl
 simp only [gcT,gcA,List.map_cons,List.map_nil,hi,Zv,List.getD_cons_zero,List.getD_cons_succ,ZF,Zf,Zk,hρ0,hρ1,hρ2,(e2 _).1]
 rfl
theorem ZLS {f:Nat} {cs:List AVal} (hc:Zd cs=true) (τ:Za) :
  gcT 1 [(1,.fn f [.ref 0 0]),(0,.ref 0 0)] (.var cs::τ)=([(1,.fn f [.ref 0 0]),(0,.ref 0 0)],[.var cs]):=by
 have e2:=fun ρ=>ZaS ρ cs hc
 have hi:ZB 1 [.fn f [.ref 0 0],.ref 0 0] (.var cs::τ)=[0]:=by
  have hR:List.range 1=[0]:=rfl
  simp only [ZB,hR,List.flatMap_cons,List.flatMap_nil,List.append_nil,List.getD_cons_zero,ZJ,Zr,ZX,(e2 (fun _ _=>none)).2]
  rfl
 have hρ0:Zm (.var cs::τ) 1 [0] 0 0=some (0,0):=rfl
 simp only [gcT,gcA,List.map_cons,List.map_nil,hi,Zv,List.getD_cons_zero,ZF,Zf,Zk,hρ0,(e2 _).1]
 rfl
section
variable (k:Int) (f:Nat) (P:List AVal) (h:QOk k P) (l:Zb) (hl:l.length≤140737488355328)
include h hl
theorem Ztu {n:Int} {ps:List Zt} {r:Zb} (hk:ZcY k l=.ok (n,ps,r)):E 121 [.ref 0 0,.fn f [.ref 1 0,.ref 2 0]] [.var (P++[.lst false (l.map Zc)]),.var [.ref 0 0],.var [.ref 0 0]]=ZaX 3 [(1,.fn f [.ref 1 0,.ref 2 0]),(0,.ref 0 0)] [.var (Zb0 P n ps++[.lst false (r.map Zc)]),.var [.ref 0 0],.var [.ref 0 0]]:=by
 obtain ⟨hP,hN,h0,-,-,-⟩:=h
 unfold ZcY at hk
 split at hk
 ·cases hk
 rename_i n' r1 hi
 have l1:=ZeX hi
 split at hk
 ·cases hk
 rename_i ps' r2 hp
 split at hk
 ·cases hk
 rename_i hne
 injection hk with hk;injection hk with e1 hk;injection hk with e2 e3;subst e1 e2 e3
 have hI:=fun σ site hs=>Zfz P hP hN l hl σ 0 site hs hi
 have hP4:(P.set 4 (.int .i64 n')).length=26:=by simp [hP]
 have hN4:Zd (P.set 4 (.int .i64 n'))=true:=ZM rfl 4 hN
 have h04:(P.set 4 (.int .i64 n'))[0]?=some (.int .i64 k):=by rw [List.getElem?_set_ne (by omega)];exact h0
 unfold Zb0
 generalize P.set 4 (.int .i64 n')=R at *
 have hG:=fun σ site hs=>Zd7 R hP4 hN4 r1 (by omega) σ 0 site hs (ZcQ k r1) hp
 have c1:=Z3 R hP4
 have c2:=Zap R hP4
 have c4:=fun L=>(Z8 R hP4 0 (by omega) L).trans h04
 have c3:=fun L=>Zaw R hP4 9 10 (by omega) rfl L (.lst false (ps'.map Zl))
 have hP9:(R.set 9 (.lst false (ps'.map Zl))).length=26:=by simp [hP4]
 have hN9:Zd (R.set 9 (.lst false (ps'.map Zl)))=true:=ZM (Zb4 _ _) 9 hN4
 generalize R.set 9 (.lst false (ps'.map Zl))=S at *
 have d2:=Zap S hP9
 have m1:=Za7
 have z:((r2.length:Nat):Int) > 0:=by omega
 have z2:(0:Int) < ((r2.length:Nat):Int):=by omega
 have gC:=fun τ=>ZHc (f:=f) (Zx S hP9 hN9 false (r2.map Zc)) τ
 unfold ZaX
 rw [Zh (by rfl) ZfV]
 simp -implicitDefEqProofs only [EQA,ZC,Z2,Nat.reduceAdd,Nat.reduceLT,Nat.reduceLeDiff,Nat.reduceEqDiff,reduceCtorEq,decide_true,↓reduceIte,ZfL,Zel,oI,oN,c1,c3,c4,hI,hG,d2,m1,z,gC]
theorem ZEX {e:Int} (hk:ZcY k l=.error e):∃ cs,Zd cs=true∧E 121 [.ref 0 0,.fn f [.ref 1 0,.ref 2 0]] [.var (P++[.lst false (l.map Zc)]),.var [.ref 0 0],.var [.ref 0 0]]=some (.pan (Zy e),[.var (cs),.var [.ref 0 0],.var [.ref 0 0]]):=by
 obtain ⟨hP,hN,h0,-,-,-⟩:=h
 unfold ZcY at hk
 split at hk
 ·rename_i c hi
  injection hk with hk;subst hk
  obtain ⟨cs,hn,he⟩:=ZjV P hP hN l hl hi
  have hI:=fun (σ:Za) site (hs:σ[0]?=some (.var (P++[.lst false (l.map Zc)])))=>Zcz (O:=E) (byref:=BY) (f:=119) (view:=true) (rest:=[]) (by kernel_rfl) rfl (Zx P hP hN _ _) hn rfl he hs site
  refine ⟨cs,hn,?_⟩
  rw [Zh (by rfl) ZfV]
  simp -implicitDefEqProofs only [EQA,Nat.reduceAdd,Nat.reduceLT,reduceCtorEq,↓reduceIte,ZfL,Zel,oI,oN,hI]
  exact Zld rfl hn _
 rename_i n' r1 hi
 have l1:=ZeX hi
 have hI:=fun σ site hs=>Zfz P hP hN l hl σ 0 site hs hi
 have hP4:(P.set 4 (.int .i64 n')).length=26:=by simp [hP]
 have hN4:Zd (P.set 4 (.int .i64 n'))=true:=ZM rfl 4 hN
 have h04:(P.set 4 (.int .i64 n'))[0]?=some (.int .i64 k):=by rw [List.getElem?_set_ne (by omega)];exact h0
 generalize P.set 4 (.int .i64 n')=R at *
 have c1:=Z3 R hP4
 have c2:=Zap R hP4
 have c4:=fun L=>(Z8 R hP4 0 (by omega) L).trans h04
 split at hk
 ·rename_i c hp
  injection hk with hk;subst hk
  have hG:=fun σ site hs=>Zfi R hP4 hN4 r1 (by omega) σ 0 site hs hp
  refine ⟨_,Zx R hP4 hN4 false (r1.map Zc),?_⟩
  rw [Zh (by rfl) ZfV]
  simp -implicitDefEqProofs only [EQA,Nat.reduceAdd,Nat.reduceLT,Nat.reduceEqDiff,reduceCtorEq,↓reduceIte,ZfL,Zel,oI,oN,c4,hI,hG]
  exact Zld rfl (Zx R hP4 hN4 _ _) _
 rename_i ps' r2 hp
 split at hk
 case isFalse=>cases hk
 rename_i hne
 injection hk with hk;subst hk
 have hG:=fun σ site hs=>Zd7 R hP4 hN4 r1 (by omega) σ 0 site hs (ZcQ k r1) hp
 have c3:=fun L=>Zaw R hP4 9 10 (by omega) rfl L (.lst false (ps'.map Zl))
 have hP9:(R.set 9 (.lst false (ps'.map Zl))).length=26:=by simp [hP4]
 have hN9:Zd (R.set 9 (.lst false (ps'.map Zl)))=true:=ZM (Zb4 _ _) 9 hN4
 generalize R.set 9 (.lst false (ps'.map Zl))=S at *
 have d2:=Zap S hP9
 have m1:=Zbx
 have z:¬((r2.length:Nat):Int) > 0:=by omega
 have z2:¬(0:Int) < ((r2.length:Nat):Int):=by omega
 refine ⟨_,Zx S hP9 hN9 false (r2.map Zc),?_⟩
 rw [Zh (by rfl) ZfV]
 simp -implicitDefEqProofs only [EQA,ZC,Nat.reduceAdd,Nat.reduceLT,Nat.reduceLeDiff,Nat.reduceEqDiff,reduceCtorEq,decide_false,↓reduceIte,ZfL,Zel,oI,oN,c1,c3,c4,hI,hG,d2,m1,z]
 exact Zld rfl (Zx S hP9 hN9 _ _) _
theorem Zs6 {n:Int} {ps:List Zt} {r:Zb} (hk:ZcY k l=.ok (n,ps,r)):E 121 [.ref 0 0,.fn f [.ref 0 0]] [.var (P++[.lst false (l.map Zc)])]=ZaX 1 [(1,.fn f [.ref 0 0]),(0,.ref 0 0)] [.var (Zb0 P n ps++[.lst false (r.map Zc)])]:=by
 obtain ⟨hP,hN,h0,-,-,-⟩:=h
 unfold ZcY at hk
 split at hk
 ·cases hk
 rename_i n' r1 hi
 have l1:=ZeX hi
 split at hk
 ·cases hk
 rename_i ps' r2 hp
 split at hk
 ·cases hk
 rename_i hne
 injection hk with hk;injection hk with e1 hk;injection hk with e2 e3;subst e1 e2 e3
 have hI:=fun σ site hs=>Zfz P hP hN l hl σ 0 site hs hi
 have hP4:(P.set 4 (.int .i64 n')).length=26:=by simp [hP]
 have hN4:Zd (P.set 4 (.int .i64 n'))=true:=ZM rfl 4 hN
 have h04:(P.set 4 (.int .i64 n'))[0]?=some (.int .i64 k):=by rw [List.getElem?_set_ne (by omega)];exact h0
 unfold Zb0
 generalize P.set 4 (.int .i64 n')=R at *
 have hG:=fun σ site hs=>Zd7 R hP4 hN4 r1 (by omega) σ 0 site hs (ZcQ k r1) hp
 have c1:=Z3 R hP4
 have c2:=Zap R hP4
 have c4:=fun L=>(Z8 R hP4 0 (by omega) L).trans h04
 have c3:=fun L=>Zaw R hP4 9 10 (by omega) rfl L (.lst false (ps'.map Zl))
 have hP9:(R.set 9 (.lst false (ps'.map Zl))).length=26:=by simp [hP4]
 have hN9:Zd (R.set 9 (.lst false (ps'.map Zl)))=true:=ZM (Zb4 _ _) 9 hN4
 generalize R.set 9 (.lst false (ps'.map Zl))=S at *
 have d2:=Zap S hP9
 have m1:=Za7
 have z:((r2.length:Nat):Int) > 0:=by omega
 have z2:(0:Int) < ((r2.length:Nat):Int):=by omega
 have gC:=fun τ=>ZLS (f:=f) (Zx S hP9 hN9 false (r2.map Zc)) τ
 unfold ZaX
 rw [Zh (by rfl) ZfV]
 simp -implicitDefEqProofs only [EQA,ZC,Z2,Nat.reduceAdd,Nat.reduceLT,Nat.reduceLeDiff,Nat.reduceEqDiff,reduceCtorEq,decide_true,↓reduceIte,ZfL,Zel,oI,oN,c1,c3,c4,hI,hG,d2,m1,z,gC]
theorem Zwp {e:Int} (hk:ZcY k l=.error e):∃ cs,Zd cs=true∧E 121 [.ref 0 0,.fn f [.ref 0 0]] [.var (P++[.lst false (l.map Zc)])]=some (.pan (Zy e),[.var (cs)]):=by
 obtain ⟨hP,hN,h0,-,-,-⟩:=h
 unfold ZcY at hk
 split at hk
 ·rename_i c hi
  injection hk with hk;subst hk
  obtain ⟨cs,hn,he⟩:=ZjV P hP hN l hl hi
  have hI:=fun (σ:Za) site (hs:σ[0]?=some (.var (P++[.lst false (l.map Zc)])))=>Zcz (O:=E) (byref:=BY) (f:=119) (view:=true) (rest:=[]) (by kernel_rfl) rfl (Zx P hP hN _ _) hn rfl he hs site
  refine ⟨cs,hn,?_⟩
  rw [Zh (by rfl) ZfV]
  simp -implicitDefEqProofs only [EQA,Nat.reduceLT,reduceCtorEq,↓reduceIte,ZfL,Zel,oI,oN,hI]
  exact ZV rfl hn
 rename_i n' r1 hi
 have l1:=ZeX hi
 have hI:=fun σ site hs=>Zfz P hP hN l hl σ 0 site hs hi
 have hP4:(P.set 4 (.int .i64 n')).length=26:=by simp [hP]
 have hN4:Zd (P.set 4 (.int .i64 n'))=true:=ZM rfl 4 hN
 have h04:(P.set 4 (.int .i64 n'))[0]?=some (.int .i64 k):=by rw [List.getElem?_set_ne (by omega)];exact h0
 generalize P.set 4 (.int .i64 n')=R at *
 have c1:=Z3 R hP4
 have c2:=Zap R hP4
 have c4:=fun L=>(Z8 R hP4 0 (by omega) L).trans h04
 split at hk
 ·rename_i c hp
  injection hk with hk;subst hk
  have hG:=fun σ site hs=>Zfi R hP4 hN4 r1 (by omega) σ 0 site hs hp
  refine ⟨_,Zx R hP4 hN4 false (r1.map Zc),?_⟩
  rw [Zh (by rfl) ZfV]
  simp -implicitDefEqProofs only [EQA,Nat.reduceLT,Nat.reduceEqDiff,reduceCtorEq,↓reduceIte,ZfL,Zel,oI,oN,c4,hI,hG]
  exact ZV rfl (Zx R hP4 hN4 _ _)
 rename_i ps' r2 hp
 split at hk
 case isFalse=>cases hk
 rename_i hne
 injection hk with hk;subst hk
 have hG:=fun σ site hs=>Zd7 R hP4 hN4 r1 (by omega) σ 0 site hs (ZcQ k r1) hp
 have c3:=fun L=>Zaw R hP4 9 10 (by omega) rfl L (.lst false (ps'.map Zl))
 have hP9:(R.set 9 (.lst false (ps'.map Zl))).length=26:=by simp [hP4]
 have hN9:Zd (R.set 9 (.lst false (ps'.map Zl)))=true:=ZM (Zb4 _ _) 9 hN4
 generalize R.set 9 (.lst false (ps'.map Zl))=S at *
 have d2:=Zap S hP9
 have m1:=Zbx
 have z:¬((r2.length:Nat):Int) > 0:=by omega
 have z2:¬(0:Int) < ((r2.length:Nat):Int):=by omega
 refine ⟨_,Zx S hP9 hN9 false (r2.map Zc),?_⟩
 rw [Zh (by rfl) ZfV]
 simp -implicitDefEqProofs only [EQA,ZC,Nat.reduceAdd,Nat.reduceLT,Nat.reduceLeDiff,Nat.reduceEqDiff,reduceCtorEq,decide_false,↓reduceIte,ZfL,Zel,oI,oN,c1,c3,c4,hI,hG,d2,m1,z]
 exact ZV rfl (Zx S hP9 hN9 _ _)
end
end Go.Proofs.YtmlkhhidifjjfaaDoor
namespace Go.Proofs.YtmlkhhidifjjfaaDoor
set_option maxHeartbeats 8000000
set_option maxRecDepth 10000
theorem ZsV {n:Nat} {l r:Zb} {a:Int} (hn:0 < n) (h:Zav n l=.ok (a,r)):r.length < l.length:=by
 unfold Zav at h
 split at h
 ·cases h
 ·injection h with h;injection h with _ h;subst h;rw [List.length_drop];omega
theorem Zkm {l r a:Zb} (h:Zai l=.ok (a,r)):r.length < l.length:=by
 unfold Zai at h
 split at h
 ·rename_i h0
  injection h with h;injection h with _ h;subst h
  rw [List.length_drop]
  unfold Z1 at h0 ⊢
  split at h0
  ·rename_i h1;exact absurd h0 h1
  ·rename_i h1
   rw [if_neg h1]
   split at h0
   ·rename_i h2
    rw [if_pos h2]
    unfold Zas at h0 ⊢
    split at h0
    ·cases h0
    ·rename_i h3
     rw [if_neg h3]
     simp only
     omega
   ·cases h0
 ·cases h
theorem Zh3 {k:Int} {l r:Zb} {a:Int} (h:Zau k l=.ok (a,r)):r.length < l.length:=by
 unfold Zau at h
 split at h
 ·rename_i h1
  split at h
  ·injection h with h;injection h with _ h;subst h;exact ZsV (by omega) h1
  ·cases h
 ·cases h
theorem ZgP {l r:Zb} {a:Zbq} (h:Zbn l=.ok (a,r)):r.length < l.length:=by
 unfold Zbn at h
 split at h
 ·cases h
 rename_i f r1 ht
 have l1:=Zkm ht
 split at h
 ·cases h
 rename_i o r2 hn
 have l2:=ZsV (by omega) hn
 split at h
 case isFalse=>cases h
 split at h
 case isFalse=>cases h
 injection h with h;injection h with _ h;subst h
 omega
section
variable {O:ZO} {byref:Nat→Bool} {f:Nat} {cs cs1 cs2 cs3 xs xs2:List AVal} {w w2:Nat} {q:AVal}
theorem ZB5 (hb:byref f=false) (hc:Zd cs=true) (hq:ZI q=true) (hback:∀ ρ:Rho,ρ 1 0=some (1,0)→Zf ρ cs2=cs2) (hO:O f [.ref 0 0] [.var cs]=some (q,[.var cs2,.row 0 w xs])) :
  Zj O byref [.var cs,.free,.free,.free,.free] 1 f 4 false [.ref 0 0]=some (q,[.var cs2,.row 0 w xs,.free,.free,.free],{ any:=true,upd:=[(0,cs2)] }):=by
 have ec:=fun ρ=>ZaS ρ cs hc
 refine ZcS (ids:=[0]) (vs:=[.ref 0 0]) hb rfl (Ze0 rfl hc) rfl rfl rfl ?_ hO rfl (by simp) (by simp) rfl rfl (Za1 _ q hq).1 ?_ rfl
 ·show [ZK.var (Zf _ cs)]=_
  rw [(ec _).1]
 ·have hb3:=hback (ZaA [.var cs,.free,.free,.free,.free] [0] 1) rfl
  show [ZK.var (Zf _ cs2),.row 0 w xs,.free,.free,.free]=_
  rw [hb3]
theorem ZCi (hb:byref f=false) (hc:Zd cs=true) (hq:ZI q=true) (hc2:Zd cs2=true) (hO:O f [.ref 0 0] [.var cs]=some (q,[.var cs2])) :
  Zj O byref [.var cs,.free,.free,.free,.free] 1 f 4 false [.ref 0 0]=some (q,[.var cs2,.free,.free,.free,.free],{ any:=true,upd:=[(0,cs2)] }):=by
 have ec:=fun ρ=>ZaS ρ cs hc
 refine ZcS (ids:=[0]) (vs:=[.ref 0 0]) hb rfl (Ze0 rfl hc) rfl rfl rfl ?_ hO rfl (by simp) (by simp) rfl rfl (Za1 _ q hq).1 ?_ rfl
 ·show [ZK.var (Zf _ cs)]=_
  rw [(ec _).1]
 ·show [ZK.var (Zf _ cs2),.free,.free,.free,.free]=_
  rw [(ZaS _ cs2 hc2).1]
theorem Zq3 {g2:Nat} (hb:byref f=false) (hc:Zr cs=[1]) (hren:∀ ρ:Rho,ρ 1 0=some (1,0)→Zf ρ cs=cs) (hq:ZI q=true) (hg2:g2≤1) (hback:∀ ρ:Rho,ρ 1 g2=some (1,g2)→Zf ρ cs2=cs2) (hO:O f [.ref 0 0] [.var cs,.row 0 w xs]=some (q,[.var cs2,.row g2 w2 xs2])) :
  Zj O byref [.var cs,.row 0 w xs,.free,.free,.free,.free] 2 f 4 false [.ref 0 0]=some (q,[.var cs2,.row g2 w2 xs2,.free,.free,.free,.free],{ any:=true,upd:=[(0,cs2)] }):=by
 refine ZcS (ids:=[0,1]) (vs:=[.ref 0 0]) hb rfl (Zo5 (g:=0) (w:=w) (xs:=xs) rfl rfl (by omega) hc) rfl rfl rfl ?_ hO rfl (by simp) (by simp) ?_ rfl (Za1 _ q hq).1 ?_ rfl
 ·have h1:=hren (Zm [.var cs,.row 0 w xs,.free,.free,.free,.free] 0 [0,1]) rfl
  show [ZK.var (Zf _ cs),.row 0 w xs]=_
  rw [h1]
 ·simp [ZaZ,okB,Zcb,Zo,hg2]
 ·have hb3:=hback (ZaA [.var cs,.row 0 w xs,.free,.free,.free,.free] [0,1] 2) (by simp [ZaA,Zo])
  show [ZK.var (Zf _ cs2),.row (0+g2) w2 xs2,.free,.free,.free,.free]=_
  rw [hb3,Nat.zero_add]
theorem Zu9 {f g:Nat} (hc:Zr cs=[1]) (hg:g≤1) (hren:∀ ρ:Rho,ρ 1 g=some (1,0)→Zf ρ cs=cs1) (τ:Za) :
  gcT 1 [(1,.fn f [.ref 0 0]),(0,.ref 0 0)] (.var cs::.row g w xs::τ)=([(1,.fn f [.ref 0 0]),(0,.ref 0 0)],[.var cs1,.row 0 w xs]):=by
 have hi:ZB 1 [.fn f [.ref 0 0],.ref 0 0] (.var cs::.row g w xs::τ)=[0,1]:=by
  have hR:List.range 1=[0]:=rfl
  simp only [ZB,hR,List.flatMap_cons,List.flatMap_nil,List.append_nil,List.getD_cons_zero,ZJ,Zr,ZX,hc]
  rfl
 have hρ:Zm (.var cs::.row g w xs::τ) 1 [0,1] 1 g=some (1,0):=by
  simp [Zm,ZY,Zo,ZQ]
 have hρ0:Zm (.var cs::.row g w xs::τ) 1 [0,1] 0 0=some (0,0):=rfl
 simp only [gcT,gcA,List.map_cons,List.map_nil,hi,Zv,List.getD_cons_zero,List.getD_cons_succ,ZQ,Zo,ZF,Zf,Zk,hρ0,hren _ hρ]
 simp
end
section
variable (Q:List AVal) (hQ:Q.length=26) (hN:Zd Q=true) (h10:Q[10]?=some (.lst true []))
include hQ hN
def H1 (Q:List AVal) (n:Nat) (l:Zb) (ys:List AVal):Za:=[.var (Zi Q 10 1 0 n++[.lst false (l.map Zc)]),.row 0 6 ys]
def tmS:Tms:=[(1,.fn 1000122 [.ref 0 0]),(0,.ref 0 0)]
theorem Zuy:∀ (n:Nat) (l:Zb) (xs:List Zbq),l.length≤n→n+xs.length≤1099511627776 →
  (∀ ts,ZaE Zbn n l=.ok ts→ZaX 1 tmS (H1 Q xs.length l (xs.map ZU))=some (.tup [],H1 Q (xs++ts).length [] ((xs++ts).map ZU))) ∧
  (∀ e,ZaE Zbn n l=.error e→∃ (xs':List Zbq) (r:Zb),ZaX 1 tmS (H1 Q xs.length l (xs.map ZU))=some (.pan (Zy e),H1 Q xs'.length r (xs'.map ZU))):=by
 have hk:(10:Nat) < 26:=by omega
 intro n
 induction n with
 | zero =>
  intro l xs hl hx
  have l0:l=[]:=List.eq_nil_of_length_eq_zero (by omega)
  subst l0
  refine ⟨fun ts h=>?_,fun e h=>by simp [ZaE] at h⟩
  have : ts=[]:=by simpa [ZaE] using h.symm
  subst this
  rw [List.append_nil]
  have hL:=ZbY Q hQ hN 10 hk xs.length 1 0
  have b2:=Zap _ hL
  have hO:=fun τ=>ZcU (j:=1) (w:=6) (xs:=xs.map ZU) (r:=.tup []) (σ:=.var (Zi Q 10 1 0 xs.length++[.lst false []])::.row 0 6 (xs.map ZU)::τ) rfl (by omega) rfl rfl (Zbt Q hQ hN hk 1 0 xs.length []) (fun ρ h=>ZaM Q hQ hN hk 1 0 xs.length 1 0 [] ρ h)
  unfold H1 tmS ZaX
  rw [Z5]
  generalize Zi Q 10 1 0 xs.length=R at *
  generalize xs.map ZU=ys at *
  simp -implicitDefEqProofs only [EQA,Zs,Nat.reduceAdd,Nat.reduceSub,Nat.reduceLT,Nat.reduceEqDiff,Nat.reduceBEq,reduceCtorEq,decide_eq_true_eq,↓reduceIte,Zd,ZjG,Zdp,Zc2,oI,b2]
  exact hO _
 | succ n ih =>
  intro l xs hl hx
  have hL:=ZbY Q hQ hN 10 hk xs.length 1 0
  have b2:=Zap _ hL
  by_cases l0:l.length=0
  ·have l0:l=[]:=List.eq_nil_of_length_eq_zero l0
   subst l0
   refine ⟨fun ts h=>?_,fun e h=>by simp [ZaE] at h⟩
   have : ts=[]:=by simpa [ZaE] using h.symm
   subst this
   rw [List.append_nil]
   have hO:=fun τ=>ZcU (j:=1) (w:=6) (xs:=xs.map ZU) (r:=.tup []) (σ:=.var (Zi Q 10 1 0 xs.length++[.lst false []])::.row 0 6 (xs.map ZU)::τ) rfl (by omega) rfl rfl (Zbt Q hQ hN hk 1 0 xs.length []) (fun ρ h=>ZaM Q hQ hN hk 1 0 xs.length 1 0 [] ρ h)
   unfold H1 tmS ZaX
   rw [Z5]
   generalize Zi Q 10 1 0 xs.length=R at *
   generalize xs.map ZU=ys at *
   simp -implicitDefEqProofs only [EQA,Zs,Nat.reduceAdd,Nat.reduceSub,Nat.reduceLT,Nat.reduceEqDiff,Nat.reduceBEq,reduceCtorEq,decide_eq_true_eq,↓reduceIte,Zd,ZjG,Zdp,Zc2,oI,b2]
   exact hO _
  ·have z1:((l.length:Nat):Int) > 0:=by omega
   have z2:(0:Int) < ((l.length:Nat):Int):=by omega
   cases ho:Zbn l with
   | error e =>
    refine ⟨fun ts h=>by simp [ZaE,l0,ho] at h,fun e' h=>?_⟩
    have : e'=e:=by simpa [ZaE,l0,ho] using h.symm
    subst this
    obtain ⟨r,hE⟩:=Zv8 Q hQ hN l (by omega) xs ho
    have hC:=Zq3 (O:=E) (byref:=BY) (f:=122) (g2:=0) (by kernel_rfl) (Zbt Q hQ hN hk 1 0 xs.length l) (fun ρ h=>ZaM Q hQ hN hk 1 0 xs.length 1 0 l ρ h) (q:=.pan (Zy e')) rfl (by omega) (fun ρ h=>ZaM Q hQ hN hk 1 0 xs.length 1 0 r ρ h) hE
    have hO:=fun τ=>ZcU (j:=1) (w:=6) (xs:=xs.map ZU) (r:=.pan (Zy e')) (σ:=.var (Zi Q 10 1 0 xs.length++[.lst false (r.map Zc)])::.row 0 6 (xs.map ZU)::τ) rfl (by omega) rfl rfl (Zbt Q hQ hN hk 1 0 xs.length r) (fun ρ h=>ZaM Q hQ hN hk 1 0 xs.length 1 0 r ρ h)
    refine ⟨xs,r,?_⟩
    unfold H1 tmS ZaX
    rw [Z5]
    clear hE ih
    generalize Zi Q 10 1 0 xs.length=R at *
    generalize xs.map ZU=ys at *
    generalize Zy e'=ce at *
    simp -implicitDefEqProofs only [EQA,Nat.reduceAdd,Nat.reduceSub,Nat.reduceLT,Nat.reduceEqDiff,Nat.reduceBEq,reduceCtorEq,decide_true,↓reduceIte,Zdp,Zc2,oI,b2,hC,z1]
    exact hO _
   | ok s =>
    obtain ⟨s,r⟩:=s
    have hr:=ZgP ho
    have hE:=ZCN Q hQ hN xs (by omega) l (by omega) ho
    have hC:=Zq3 (O:=E) (byref:=BY) (f:=122) (g2:=1) (by kernel_rfl) (Zbt Q hQ hN hk 1 0 xs.length l) (fun ρ h=>ZaM Q hQ hN hk 1 0 xs.length 1 0 l ρ h) (q:=.tup []) rfl (by omega) (fun ρ h=>ZaM Q hQ hN hk 1 1 (xs.length+1) 1 1 r ρ h) hE
    have hG:=Zu9 (f:=1000122) (w:=6) (xs:=(xs++[s]).map ZU) (g:=1) (Zbt Q hQ hN hk 1 1 (xs.length+1) r) (by omega) (fun ρ h=>ZaM Q hQ hN hk 1 1 (xs.length+1) 1 0 r ρ h)
    have step:ZaX 1 tmS (H1 Q xs.length l (xs.map ZU))=ZaX 1 tmS (H1 Q (xs++[s]).length r ((xs++[s]).map ZU)):=by
     rw [show (xs++[s]).length=xs.length+1 from by simp]
     unfold H1 tmS
     conv=>lhs;unfold ZaX
     conv=>rhs;unfold ZaX
     conv=>lhs;rw [Z5]
     clear hE ih
     generalize Zi Q 10 1 0 xs.length=R at *
     generalize Zi Q 10 1 1 (xs.length+1)=R2 at *
     generalize Zi Q 10 1 0 (xs.length+1)=R3 at *
     generalize xs.map ZU=ys at *
     generalize (xs++[s]).map ZU=zs at *
     simp -implicitDefEqProofs only [EQA,Z2,Nat.reduceAdd,Nat.reduceSub,Nat.reduceLT,Nat.reduceEqDiff,Nat.reduceBEq,reduceCtorEq,decide_true,↓reduceIte,Zdp,Zc2,oI,b2,hC,hG,z1]
    obtain ⟨i1,i2⟩:=ih r (xs++[s]) (by omega) (by simp;omega)
    refine ⟨fun ts h=>?_,fun e h=>?_⟩
    ·rw [step]
     simp only [ZaE,l0,ho,if_false] at h
     cases hl2:ZaE Zbn n r with
     | error e=>rw [hl2] at h;cases h
     | ok us =>
      rw [hl2] at h
      injection h with h;subst h
      have:=i1 us hl2
      rw [List.append_assoc,List.singleton_append] at this
      exact this
    ·rw [step]
     simp only [ZaE,l0,ho,if_false] at h
     cases hl2:ZaE Zbn n r with
     | error e2 =>
      rw [hl2] at h
      injection h with h;subst h
      exact i2 e2 hl2
     | ok us=>rw [hl2] at h;cases h
end
def Zbv {α:Type} (one:Zb→RK α) (k:Int) (l:Zb):Except Int (Int×List Zt×List α):=match ZcY k l with
 | .error e=>.error e
 | .ok (n,ps,r)=>match ZaE one r.length r with
  | .error e=>.error e
  | .ok ts=>.ok (n,ps,ts)
theorem Zja {k:Int} {l:Zb} {n:Int} {ps:List Zt} {r:Zb} (h:ZcY k l=.ok (n,ps,r)):r.length≤l.length∧r.length≠0:=by
 unfold ZcY at h
 split at h
 ·cases h
 rename_i n' r1 hi
 have l1:=ZeX hi
 split at h
 ·cases h
 rename_i ps' r2 hp
 have l2:=ZgJ hp
 split at h
 ·cases h
 rename_i hne
 injection h with h;injection h with e1 h;injection h with e2 e3;subst e1 e2 e3
 exact ⟨by omega,hne⟩
theorem ZjA {α:Type} {one:Zb→RK α} {n:Nat} {l:Zb} (h:l.length=n+1) {s:α} {r:Zb} (ho:one l=.ok (s,r)) (hlen:∀ {l s r},one l=.ok (s,r)→r.length < l.length):ZaE one l.length l=match ZaE one n r with
  | .error e=>.error e
  | .ok t=>.ok (s::t):=by
 rw [h]
 simp only [ZaE,h,Nat.add_eq_zero_iff,Nat.succ_ne_self,and_false,if_false,ho]
 all_goals rfl
section
variable {α:Type} {one:Zb→RK α} {g:α→AVal} {f kk:Nat} {k:Int} (hk:kk < 26) (hf:f < 1000000) (hby:BY f=false)
  (hlen:∀ {l s r},one l=.ok (s,r)→r.length < l.length)
  (hT0:∀ Q,QOk k Q→∀ (l:Zb) (s:α) (r:Zb),l.length≤1099511627776→one l=.ok (s,r)→E f [.ref 0 0,.ref 2 0] [.var [.ref 1 0],.var (Q++[.lst false (l.map Zc)]),.var [.ref 1 0]]=some (.tup [],[.var [.ref 1 0],.var (Zi Q kk 3 0 1++[.lst false (r.map Zc)]),.var [.ref 1 0],.row 0 1 [g s]]))
  (hF0:∀ Q,QOk k Q→∀ (l:Zb) (e:Int),l.length≤1099511627776→one l=.error e→∃ r:Zb,E f [.ref 0 0,.ref 2 0] [.var [.ref 1 0],.var (Q++[.lst false (l.map Zc)]),.var [.ref 1 0]]=some (.pan (Zy e),[.var [.ref 1 0],.var (Q++[.lst false (r.map Zc)]),.var [.ref 1 0]]))
  (hT1:∀ Q,QOk k Q→∀ (xs:List α) (l:Zb) (s:α) (r:Zb),l.length≤1099511627776→xs.length≤1099511627776→one l=.ok (s,r)→E f [.ref 0 0,.ref 3 0] [.var [.ref 1 0],.var (Zi Q kk 2 0 xs.length++[.lst false (l.map Zc)]),.row 0 1 (xs.map g),.var [.ref 1 0]]=some (.tup [],[.var [.ref 1 0],.var (Zi Q kk 2 1 (xs.length+1)++[.lst false (r.map Zc)]),.row 1 1 ((xs++[s]).map g),.var [.ref 1 0]]))
  (hF1:∀ Q,QOk k Q→∀ (xs:List α) (l:Zb) (e:Int),l.length≤1099511627776→one l=.error e→∃ r:Zb,E f [.ref 0 0,.ref 3 0] [.var [.ref 1 0],.var (Zi Q kk 2 0 xs.length++[.lst false (l.map Zc)]),.row 0 1 (xs.map g),.var [.ref 1 0]]=some (.pan (Zy e),[.var [.ref 1 0],.var (Zi Q kk 2 0 xs.length++[.lst false (r.map Zc)]),.row 0 1 (xs.map g),.var [.ref 1 0]]))
include hk hf hby hT0
theorem ZuK {Q:List AVal} (hQ:QOk k Q) {l r:Zb} {s:α} (hl:l.length≤1099511627776) (hl0:l.length≠0) (ho:one l=.ok (s,r)) :
  ZaX 3 [(1,.fn f [.ref 1 0,.ref 2 0]),(0,.ref 0 0)] [.var (Q++[.lst false (l.map Zc)]),.var [.ref 0 0],.var [.ref 0 0]]=ZaX 3 [(1,.fn f [.ref 1 0,.ref 2 0]),(0,.ref 0 0)] (H3 Q kk 1 r [g s]):=by
 have hE:=hT0 Q hQ l s r hl ho
 obtain ⟨hL,hN,-,-,-,-⟩:=hQ
 have z1:((l.length:Nat):Int) > 0:=by omega
 have z2:(0:Int) < ((l.length:Nat):Int):=by omega
 have b2:=Zap _ hL
 have hC:=ZKJ (O:=E) (byref:=BY) (cs:=Q++[.lst false (l.map Zc)]) (cs3:=Zi Q kk 3 0 1++[.lst false (r.map Zc)]) hby (Zx Q hL hN false (l.map Zc)) (q:=.tup []) rfl (fun ρ h=>ZaM Q hL hN hk 3 0 1 3 0 r ρ h) hE
 have hG:=ZrR (f:=f) (w:=1) (xs:=[g s]) (g:=0) (Zbt Q hL hN hk 3 0 1 r) (by omega) (fun ρ h=>ZaM Q hL hN hk 3 0 1 3 0 r ρ h)
 unfold H3
 conv=>lhs;unfold ZaX
 conv=>rhs;unfold ZaX
 conv=>lhs;rw [Z5]
 clear hE hT0
 generalize Zi Q kk 3 0 1=Q2 at *
 simp -implicitDefEqProofs only [EQA,Z2,Nat.reduceAdd,Nat.reduceLT,Nat.reduceEqDiff,Nat.reduceBEq,reduceCtorEq,decide_true,↓reduceIte,Zdp,Zc2,oI,b2,hC,hG,hf,z1]
omit hT0
include hF0
theorem ZOc {Q:List AVal} (hQ:QOk k Q) {l:Zb} {e:Int} (hl:l.length≤1099511627776) (hl0:l.length≠0) (ho:one l=.error e) :
  ∃ r:Zb,ZaX 3 [(1,.fn f [.ref 1 0,.ref 2 0]),(0,.ref 0 0)] [.var (Q++[.lst false (l.map Zc)]),.var [.ref 0 0],.var [.ref 0 0]]=some (.pan (Zy e),[.var (Q++[.lst false (r.map Zc)]),.var [.ref 0 0],.var [.ref 0 0]]):=by
 obtain ⟨r,hE⟩:=hF0 Q hQ l e hl ho
 obtain ⟨hL,hN,-,-,-,-⟩:=hQ
 have z1:((l.length:Nat):Int) > 0:=by omega
 have z2:(0:Int) < ((l.length:Nat):Int):=by omega
 have b2:=Zap _ hL
 have hC:=ZNE (O:=E) (byref:=BY) (cs:=Q++[.lst false (l.map Zc)]) (cs2:=Q++[.lst false (r.map Zc)]) hby (Zx Q hL hN false (l.map Zc)) (q:=.pan (Zy e)) rfl (Zx Q hL hN false (r.map Zc)) hE
 have hO:=fun τ=>Zld (r:=.pan (Zy e)) rfl (Zx Q hL hN false (r.map Zc)) τ
 refine ⟨r,?_⟩
 unfold ZaX
 rw [Z5]
 clear hE hF0
 generalize Zy e=ce at *
 simp -implicitDefEqProofs only [EQA,Nat.reduceAdd,Nat.reduceLT,Nat.reduceEqDiff,Nat.reduceBEq,reduceCtorEq,decide_true,↓reduceIte,Zdp,Zc2,oI,b2,hC,hf,z1]
 exact hO _
include hT0 hT1 hF1 hlen
theorem Zmw {P:List AVal} (hP:QOk k P) {l:Zb} (hl:l.length≤1099511627775) {n:Int} {ps:List Zt} {ts:List α} (h:Zbv one k l=.ok (n,ps,ts)) :
  E 121 [.ref 0 0,.fn f [.ref 1 0,.ref 2 0]] [.var (P++[.lst false (l.map Zc)]),.var [.ref 0 0],.var [.ref 0 0]]=some (.tup [],H3 (Zb0 P n ps) kk ts.length [] (ts.map g)):=by
 unfold Zbv at h
 split at h
 ·cases h
 rename_i n' ps' r hm
 obtain ⟨l1,l2⟩:=Zja hm
 split at h
 ·cases h
 rename_i us hu
 injection h with h;injection h with e1 h;injection h with e2 e3;subst e1 e2 e3
 rw [Ztu k f P hP l (by omega) hm]
 have hQ:=Zdu hP n' ps'
 generalize Zb0 P n' ps'=Q at *
 obtain ⟨j,hj⟩:∃ j,r.length=j+1:=⟨r.length - 1,by omega⟩
 cases ho:one r with
 | error e =>
  rw [hj] at hu
  simp only [ZaE,hj,Nat.add_eq_zero_iff,Nat.succ_ne_self,and_false,if_false,ho] at hu
  cases hu
 | ok sr =>
  obtain ⟨s,r'⟩:=sr
  have hr:=hlen ho
  rw [ZjA hj ho hlen] at hu
  cases hl2:ZaE one j r' with
  | error e=>rw [hl2] at hu;cases hu
  | ok vs =>
   rw [hl2] at hu
   injection hu with hu;subst hu
   rw [ZuK hk hf hby hT0 hQ (by omega) l2 ho]
   exact (Zsa (g:=g) Q hQ.len hQ.nor hk hf hby hlen (hT1 Q hQ) (hF1 Q hQ) j r' [s] (by omega) (by simp;omega)).1 vs hl2
theorem Zn7 {P:List AVal} (hP:QOk k P) {l:Zb} (hl:l.length≤1099511627775) {e:Int} (h:Zbv one k l=.error e) :
  (∃ cs,Zd cs=true∧E 121 [.ref 0 0,.fn f [.ref 1 0,.ref 2 0]] [.var (P++[.lst false (l.map Zc)]),.var [.ref 0 0],.var [.ref 0 0]]=some (.pan (Zy e),[.var cs,.var [.ref 0 0],.var [.ref 0 0]])) ∨
  (∃ (Q:List AVal) (xs:List α) (r:Zb),Q.length=26∧Zd Q=true∧E 121 [.ref 0 0,.fn f [.ref 1 0,.ref 2 0]] [.var (P++[.lst false (l.map Zc)]),.var [.ref 0 0],.var [.ref 0 0]]=some (.pan (Zy e),H3 Q kk xs.length r (xs.map g))):=by
 unfold Zbv at h
 split at h
 ·rename_i c hm
  injection h with h;subst h
  exact Or.inl (ZEX k f P hP l (by omega) hm)
 rename_i n' ps' r hm
 obtain ⟨l1,l2⟩:=Zja hm
 rw [Ztu k f P hP l (by omega) hm]
 have hQ:=Zdu hP n' ps'
 generalize Zb0 P n' ps'=Q at *
 obtain ⟨j,hj⟩:∃ j,r.length=j+1:=⟨r.length - 1,by omega⟩
 split at h
 case h_2=>cases h
 rename_i c hu
 injection h with h;subst h
 cases ho:one r with
 | error e =>
  have : e=c:=by
   rw [hj] at hu
   simp only [ZaE,hj,Nat.add_eq_zero_iff,Nat.succ_ne_self,and_false,if_false,ho] at hu
   injection hu
  subst this
  obtain ⟨r',hr'⟩:=ZOc hk hf hby hF0 hQ (by omega) l2 ho
  exact Or.inl ⟨_,Zx Q hQ.len hQ.nor false (r'.map Zc),hr'⟩
 | ok sr =>
  obtain ⟨s,r'⟩:=sr
  have hr:=hlen ho
  rw [ZjA hj ho hlen] at hu
  cases hl2:ZaE one j r' with
  | ok vs=>rw [hl2] at hu;cases hu
  | error e2 =>
   rw [hl2] at hu
   injection hu with hu;subst hu
   rw [ZuK hk hf hby hT0 hQ (by omega) l2 ho]
   obtain ⟨xs',r2,hx⟩:=(Zsa (g:=g) Q hQ.len hQ.nor hk hf hby hlen (hT1 Q hQ) (hF1 Q hQ) j r' [s] (by omega) (by simp;omega)).2 e2 hl2
   exact Or.inr ⟨Q,xs',r2,hQ.len,hQ.nor,hx⟩
end
section
theorem Zq2 {Q:List AVal} (hQ:QOk 8 Q) {l r:Zb} {s:Zbq} (hl:l.length≤1099511627776) (hl0:l.length≠0) (ho:Zbn l=.ok (s,r)) :
  ZaX 1 tmS [.var (Q++[.lst false (l.map Zc)])]=ZaX 1 tmS (H1 Q 1 r [ZU s]):=by
 obtain ⟨hL,hN,-,-,h10,-⟩:=hQ
 have hk:(10:Nat) < 26:=by omega
 have hE:=ZD8 Q hL hN h10 l (by omega) ho
 unfold Zg at hE
 have z1:((l.length:Nat):Int) > 0:=by omega
 have z2:(0:Int) < ((l.length:Nat):Int):=by omega
 have b2:=Zap _ hL
 have hC:=ZB5 (O:=E) (byref:=BY) (f:=122) (cs:=Q++[.lst false (l.map Zc)]) (by kernel_rfl) (Zx Q hL hN false (l.map Zc)) (q:=.tup []) rfl (fun ρ h=>ZaM Q hL hN hk 1 0 1 1 0 r ρ h) hE
 have hG:=Zu9 (f:=1000122) (w:=6) (xs:=[ZU s]) (g:=0) (Zbt Q hL hN hk 1 0 1 r) (by omega) (fun ρ h=>ZaM Q hL hN hk 1 0 1 1 0 r ρ h)
 unfold H1 tmS
 conv=>lhs;unfold ZaX
 conv=>rhs;unfold ZaX
 conv=>lhs;rw [Z5]
 clear hE
 generalize Zi Q 10 1 0 1=Q2 at *
 generalize ZU s=sv at *
 simp -implicitDefEqProofs only [EQA,Z2,Nat.reduceAdd,Nat.reduceSub,Nat.reduceLT,Nat.reduceEqDiff,Nat.reduceBEq,reduceCtorEq,decide_true,↓reduceIte,Zdp,Zc2,oI,b2,hC,hG,z1]
theorem ZOj {Q:List AVal} (hQ:QOk 8 Q) {l:Zb} {e:Int} (hl:l.length≤1099511627776) (hl0:l.length≠0) (ho:Zbn l=.error e) :
  ∃ cs,Zd cs=true∧ZaX 1 tmS [.var (Q++[.lst false (l.map Zc)])]=some (.pan (Zy e),[.var cs]):=by
 obtain ⟨hL,hN,-,-,h10,-⟩:=hQ
 obtain ⟨cs,hc,hE⟩:=ZwX Q hL hN l (by omega) ho
 unfold Zg at hE
 have z1:((l.length:Nat):Int) > 0:=by omega
 have z2:(0:Int) < ((l.length:Nat):Int):=by omega
 have b2:=Zap _ hL
 have hC:=ZCi (O:=E) (byref:=BY) (f:=122) (cs:=Q++[.lst false (l.map Zc)]) (by kernel_rfl) (Zx Q hL hN false (l.map Zc)) (q:=.pan (Zy e)) rfl hc hE
 have hO:=fun τ=>ZV (r:=.pan (Zy e)) (σ:=τ) rfl hc
 refine ⟨cs,hc,?_⟩
 unfold ZaX tmS
 rw [Z5]
 clear hE
 generalize Zy e=ce at *
 simp -implicitDefEqProofs only [EQA,Nat.reduceAdd,Nat.reduceSub,Nat.reduceLT,Nat.reduceEqDiff,Nat.reduceBEq,reduceCtorEq,decide_true,↓reduceIte,Zdp,Zc2,oI,b2,hC,z1]
 exact hO _
theorem ZH4 {P:List AVal} (hP:QOk 8 P) {l:Zb} (hl:l.length≤1099511627775) {n:Int} {ps:List Zt} {ts:List Zbq} (h:Zbv Zbn 8 l=.ok (n,ps,ts)) :
  E 121 [.ref 0 0,.fn 1000122 [.ref 0 0]] [.var (P++[.lst false (l.map Zc)])]=some (.tup [],H1 (Zb0 P n ps) ts.length [] (ts.map ZU)):=by
 unfold Zbv at h
 split at h
 ·cases h
 rename_i n' ps' r hm
 obtain ⟨l1,l2⟩:=Zja hm
 split at h
 ·cases h
 rename_i us hu
 injection h with h;injection h with e1 h;injection h with e2 e3;subst e1 e2 e3
 rw [Zs6 8 1000122 P hP l (by omega) hm]
 have hQ:=Zdu hP n' ps'
 generalize Zb0 P n' ps'=Q at *
 obtain ⟨j,hj⟩:∃ j,r.length=j+1:=⟨r.length - 1,by omega⟩
 cases ho:Zbn r with
 | error e =>
  rw [hj] at hu
  simp only [ZaE,hj,Nat.add_eq_zero_iff,Nat.succ_ne_self,and_false,if_false,ho] at hu
  cases hu
 | ok sr =>
  obtain ⟨s,r'⟩:=sr
  have hr:=ZgP ho
  rw [ZjA hj ho ZgP] at hu
  cases hl2:ZaE Zbn j r' with
  | error e=>rw [hl2] at hu;cases hu
  | ok vs =>
   rw [hl2] at hu
   injection hu with hu;subst hu
   show ZaX 1 tmS _=_
   rw [Zq2 hQ (by omega) l2 ho]
   exact (Zuy Q hQ.len hQ.nor j r' [s] (by omega) (by simp;omega)).1 vs hl2
theorem ZIM {P:List AVal} (hP:QOk 8 P) {l:Zb} (hl:l.length≤1099511627775) {e:Int} (h:Zbv Zbn 8 l=.error e) :
  (∃ cs,Zd cs=true∧E 121 [.ref 0 0,.fn 1000122 [.ref 0 0]] [.var (P++[.lst false (l.map Zc)])]=some (.pan (Zy e),[.var cs])) ∨
  (∃ (Q:List AVal) (xs:List Zbq) (r:Zb),Q.length=26∧Zd Q=true∧E 121 [.ref 0 0,.fn 1000122 [.ref 0 0]] [.var (P++[.lst false (l.map Zc)])]=some (.pan (Zy e),H1 Q xs.length r (xs.map ZU))):=by
 unfold Zbv at h
 split at h
 ·rename_i c hm
  injection h with h;subst h
  exact Or.inl (Zwp 8 1000122 P hP l (by omega) hm)
 rename_i n' ps' r hm
 obtain ⟨l1,l2⟩:=Zja hm
 rw [Zs6 8 1000122 P hP l (by omega) hm]
 have hQ:=Zdu hP n' ps'
 generalize Zb0 P n' ps'=Q at *
 obtain ⟨j,hj⟩:∃ j,r.length=j+1:=⟨r.length - 1,by omega⟩
 split at h
 case h_2=>cases h
 rename_i c hu
 injection h with h;subst h
 show (∃ cs,Zd cs=true∧ZaX 1 tmS _=_)∨(∃ (Q:List AVal) (xs:List Zbq) (r:Zb),Q.length=26∧Zd Q=true∧ZaX 1 tmS _=_)
 cases ho:Zbn r with
 | error e =>
  have : e=c:=by
   rw [hj] at hu
   simp only [ZaE,hj,Nat.add_eq_zero_iff,Nat.succ_ne_self,and_false,if_false,ho] at hu
   injection hu
  subst this
  exact Or.inl (ZOj hQ (by omega) l2 ho)
 | ok sr =>
  obtain ⟨s,r'⟩:=sr
  have hr:=ZgP ho
  rw [ZjA hj ho ZgP] at hu
  cases hl2:ZaE Zbn j r' with
  | ok vs=>rw [hl2] at hu;cases hu
  | error e2 =>
   rw [hl2] at hu
   injection hu with hu;subst hu
   rw [Zq2 hQ (by omega) l2 ho]
   obtain ⟨xs',r2,hx⟩:=(Zuy Q hQ.len hQ.nor j r' [s] (by omega) (by simp;omega)).2 e2 hl2
   exact Or.inr ⟨Q,xs',r2,hQ.len,hQ.nor,hx⟩
end
end Go.Proofs.YtmlkhhidifjjfaaDoor
namespace Go.Proofs.YtmlkhhidifjjfaaDoor
set_option maxHeartbeats 8000000
set_option maxRecDepth 10000
section
variable {O:ZO} {byref:Nat→Bool} {fm f w:Nat} {cs cs2 cs3 ys:List AVal} {x:AVal} {σ:Za}
theorem ZmQ (h0:σ[0]?=some (.var cs)) (h1:σ[1]?=some (.var [.ref 0 0])) (h2:σ[2]?=some (.var [.ref 0 0])) (hc:Zr cs=[]):Zz σ 1000 [0,2,1] []=[0,2,1]:=by
 have d0:σ.getD 0 .free=.var cs:=by simp [List.getD_eq_getElem?_getD,h0]
 have d1:σ.getD 1 .free=.var [.ref 0 0]:=by simp [List.getD_eq_getElem?_getD,h1]
 have d2:σ.getD 2 .free=.var [.ref 0 0]:=by simp [List.getD_eq_getElem?_getD,h2]
 rw [show (1000:Nat)=994+1+1+1+1+1+1 from rfl]
 simp only [Zz,d0,d1,d2,ZJ,Zr,ZX,hc,List.contains_cons,List.contains_nil,List.append_nil,List.nil_append,List.cons_append,Bool.or_false,Bool.false_eq_true,if_false]
 simp
theorem Zov (h0:σ[0]?=some (.var cs)) (hc:Zr cs=[]):Zz σ 1000 [0,0] []=[0]:=by
 have d0:σ.getD 0 .free=.var cs:=by simp [List.getD_eq_getElem?_getD,h0]
 rw [show (1000:Nat)=996+1+1+1+1 from rfl]
 simp only [Zz,d0,ZJ,hc,List.contains_cons,List.contains_nil,List.append_nil,List.nil_append,List.cons_append,Bool.or_false,Bool.false_eq_true,if_false]
 simp
def hB (cs:List AVal) (b:ZK):Za:=[.var cs,.var [.ref 0 0],.var [.ref 0 0],b]
theorem Zok (hb:byref fm=false) (hc:Zd cs=true) (hrf:Zr cs2=[3]) (hren:∀ ρ:Rho,ρ 3 0=some (3,0)→Zf ρ cs2=cs2)
  (hO:O fm [.ref 0 0,.fn f [.ref 1 0,.ref 2 0]] [.var cs,.var [.ref 0 0],.var [.ref 0 0]]=some (.tup [],[.var cs2,.var [.ref 0 0],.var [.ref 0 0],.row 0 w ys])) :
  Zj O byref (hB cs .free) 3 fm 1 true [.ref 0 0,.fn f [.ref 2 0,.ref 1 0]]=some (.tup [],hB cs2 (.row 0 w ys),{ any:=true,upd:=[(0,cs2),(2,[.ref 0 0]),(1,[.ref 0 0])] }):=by
 have hv:Zad true 3 (some (.tup [],[.var cs2,.var [.ref 0 0],.var [.ref 0 0],.row 0 w ys]))=some (.tup [],[.var cs2,.var [.ref 0 0],.var [.ref 0 0],.row 0 w ys]):=Zjx (r:=.tup []) rfl hrf hren []
 have ec:=fun ρ=>ZaS ρ cs hc
 unfold hB
 refine ZcS (ids:=[0,2,1]) (vs:=[.ref 0 0,.fn f [.ref 2 0,.ref 1 0]]) hb rfl (ZmQ rfl rfl rfl (ec (fun _ _=>none)).2) rfl rfl rfl ?_ hO hv (by simp) (by simp) rfl rfl rfl ?_ rfl
 ·show [ZK.var (Zf _ cs),.var (Zf _ [.ref 0 0]),.var (Zf _ [.ref 0 0])]=_
  rw [(ec _).1];rfl
 ·have hb3:=hren (ZaA [.var cs,.var [.ref 0 0],.var [.ref 0 0],.free] [0,2,1] 3) rfl
  show [ZK.var (Zf _ cs2),.var (Zf _ [.ref 0 0]),.var (Zf _ [.ref 0 0]),.row 0 w ys]=_
  rw [hb3];rfl
theorem Zmr (hb:byref fm=false) (hc:Zd cs=true) (hc2:Zd cs2=true) (hx:ZI x=true)
  (hO:O fm [.ref 0 0,.fn f [.ref 1 0,.ref 2 0]] [.var cs,.var [.ref 0 0],.var [.ref 0 0]]=some (.pan x,[.var cs2,.var [.ref 0 0],.var [.ref 0 0]])) :
  Zj O byref (hB cs .free) 3 fm 1 true [.ref 0 0,.fn f [.ref 2 0,.ref 1 0]]=some (.pan x,hB cs2 .free,{ any:=true,upd:=[(0,cs2),(2,[.ref 0 0]),(1,[.ref 0 0])] }):=by
 have ec:=fun ρ=>ZaS ρ cs hc
 have hnp:ZI (.pan x)=true:=by simpa only [ZI] using hx
 unfold hB
 refine ZcS (ids:=[0,2,1]) (vs:=[.ref 0 0,.fn f [.ref 2 0,.ref 1 0]]) hb rfl (ZmQ rfl rfl rfl (ec (fun _ _=>none)).2) rfl rfl rfl ?_ hO rfl (by simp) (by simp) rfl rfl (Za1 _ _ hnp).1 ?_ rfl
 ·show [ZK.var (Zf _ cs),.var (Zf _ [.ref 0 0]),.var (Zf _ [.ref 0 0])]=_
  rw [(ec _).1];rfl
 ·show [ZK.var (Zf _ cs2),.var (Zf _ [.ref 0 0]),.var (Zf _ [.ref 0 0]),.free]=_
  rw [(ZaS _ cs2 hc2).1];rfl
theorem Zmc (hb:byref fm=false) (hc:Zd cs=true) (hren:∀ ρ:Rho,ρ 3 0=some (3,0)→Zf ρ cs2=cs2) (hx:ZI x=true)
  (hO:O fm [.ref 0 0,.fn f [.ref 1 0,.ref 2 0]] [.var cs,.var [.ref 0 0],.var [.ref 0 0]]=some (.pan x,[.var cs2,.var [.ref 0 0],.var [.ref 0 0],.row 0 w ys])) :
  Zj O byref (hB cs .free) 3 fm 1 true [.ref 0 0,.fn f [.ref 2 0,.ref 1 0]]=some (.pan x,hB cs2 (.row 0 w ys),{ any:=true,upd:=[(0,cs2),(2,[.ref 0 0]),(1,[.ref 0 0])] }):=by
 have ec:=fun ρ=>ZaS ρ cs hc
 have hnp:ZI (.pan x)=true:=by simpa only [ZI] using hx
 unfold hB
 refine ZcS (ids:=[0,2,1]) (vs:=[.ref 0 0,.fn f [.ref 2 0,.ref 1 0]]) hb rfl (ZmQ rfl rfl rfl (ec (fun _ _=>none)).2) rfl rfl rfl ?_ hO rfl (by simp) (by simp) rfl rfl (Za1 _ _ hnp).1 ?_ rfl
 ·show [ZK.var (Zf _ cs),.var (Zf _ [.ref 0 0]),.var (Zf _ [.ref 0 0])]=_
  rw [(ec _).1];rfl
 ·have hb3:=hren (ZaA [.var cs,.var [.ref 0 0],.var [.ref 0 0],.free] [0,2,1] 3) rfl
  show [ZK.var (Zf _ cs2),.var (Zf _ [.ref 0 0]),.var (Zf _ [.ref 0 0]),.row 0 w ys]=_
  rw [hb3];rfl
theorem ZFI (hb:byref fm=false) (hc:Zd cs=true) (hrf:Zr cs2=[1]) (hren:∀ ρ:Rho,ρ 1 0=some (1,0)→Zf ρ cs2=cs2) (hback:∀ ρ:Rho,ρ 1 0=some (3,0)→Zf ρ cs2=cs3)
  (hO:O fm [.ref 0 0,.fn f [.ref 0 0]] [.var cs]=some (.tup [],[.var cs2,.row 0 w ys])) :
  Zj O byref (hB cs .free) 3 fm 1 true [.ref 0 0,.fn f [.ref 0 0]]=some (.tup [],hB cs3 (.row 0 w ys),{ any:=true,upd:=[(0,cs3)] }):=by
 have hv:Zad true 1 (some (.tup [],[.var cs2,.row 0 w ys]))=some (.tup [],[.var cs2,.row 0 w ys]):=ZcU (j:=1) (σ:=[.var cs2,.row 0 w ys]) (r:=.tup []) rfl (by omega) rfl rfl hrf hren
 have ec:=fun ρ=>ZaS ρ cs hc
 unfold hB
 refine ZcS (ids:=[0]) (vs:=[.ref 0 0,.fn f [.ref 0 0]]) hb rfl (Zov rfl (ec (fun _ _=>none)).2) rfl rfl rfl ?_ hO hv (by simp) (by simp) rfl rfl rfl ?_ rfl
 ·show [ZK.var (Zf _ cs)]=_
  rw [(ec _).1]
 ·have hb3:=hback (ZaA [.var cs,.var [.ref 0 0],.var [.ref 0 0],.free] [0] 3) rfl
  show [ZK.var (Zf _ cs2),.var [.ref 0 0],.var [.ref 0 0],.row 0 w ys]=_
  rw [hb3]
theorem ZwY (hb:byref fm=false) (hc:Zd cs=true) (hc2:Zd cs2=true) (hx:ZI x=true)
  (hO:O fm [.ref 0 0,.fn f [.ref 0 0]] [.var cs]=some (.pan x,[.var cs2])) :
  Zj O byref (hB cs .free) 3 fm 1 true [.ref 0 0,.fn f [.ref 0 0]]=some (.pan x,hB cs2 .free,{ any:=true,upd:=[(0,cs2)] }):=by
 have ec:=fun ρ=>ZaS ρ cs hc
 have hnp:ZI (.pan x)=true:=by simpa only [ZI] using hx
 unfold hB
 refine ZcS (ids:=[0]) (vs:=[.ref 0 0,.fn f [.ref 0 0]]) hb rfl (Zov rfl (ec (fun _ _=>none)).2) rfl rfl rfl ?_ hO rfl (by simp) (by simp) rfl rfl (Za1 _ _ hnp).1 ?_ rfl
 ·show [ZK.var (Zf _ cs)]=_
  rw [(ec _).1]
 ·show [ZK.var (Zf _ cs2),.var [.ref 0 0],.var [.ref 0 0],.free]=_
  rw [(ZaS _ cs2 hc2).1]
theorem Zyo (hb:byref fm=false) (hc:Zd cs=true) (hback:∀ ρ:Rho,ρ 1 0=some (3,0)→Zf ρ cs2=cs3) (hx:ZI x=true)
  (hO:O fm [.ref 0 0,.fn f [.ref 0 0]] [.var cs]=some (.pan x,[.var cs2,.row 0 w ys])) :
  Zj O byref (hB cs .free) 3 fm 1 true [.ref 0 0,.fn f [.ref 0 0]]=some (.pan x,hB cs3 (.row 0 w ys),{ any:=true,upd:=[(0,cs3)] }):=by
 have ec:=fun ρ=>ZaS ρ cs hc
 have hnp:ZI (.pan x)=true:=by simpa only [ZI] using hx
 unfold hB
 refine ZcS (ids:=[0]) (vs:=[.ref 0 0,.fn f [.ref 0 0]]) hb rfl (Zov rfl (ec (fun _ _=>none)).2) rfl rfl rfl ?_ hO rfl (by simp) (by simp) rfl rfl (Za1 _ _ hnp).1 ?_ rfl
 ·show [ZK.var (Zf _ cs)]=_
  rw [(ec _).1]
 ·have hb3:=hback (ZaA [.var cs,.var [.ref 0 0],.var [.ref 0 0],.free] [0] 3) rfl
  show [ZK.var (Zf _ cs2),.var [.ref 0 0],.var [.ref 0 0],.row 0 w ys]=_
  rw [hb3]
end
def Zch (Q:List AVal) (kk n:Nat) (l:Zb) (w:Nat) (ys:List AVal):Za:=[.var (Zi Q kk 1 0 n++[.lst false (l.map Zc)]),.row 0 w ys]
def Zh2 (kk w:Nat) (l:Zb) (P:List AVal) (e:Int):Prop :=
 (∃ cs,Zd cs=true∧E 77 [.ref 0 0] (Zg P l)=some (.pan (Zy e),[.var cs])) ∨
 (∃ (Q:List AVal) (n:Nat) (r:Zb) (ys:List AVal),Q.length=26∧Zd Q=true∧E 77 [.ref 0 0] (Zg P l)=some (.pan (Zy e),Zch Q kk n r w ys))
theorem ZzA (xs:List Zb):kOk 1 (xs.map AVal.str)=true:=by cases xs <;> rfl
theorem ZAf (xs:List Int):kOk 1 (xs.map (AVal.int .i64))=true:=by cases xs <;> rfl
theorem fT0 {k:Int} (Q:List AVal) (h:QOk k Q) (l s r:Zb) (hl:l.length≤1099511627776) (ho:Zai l=.ok (s,r)):E 123 [.ref 0 0,.ref 2 0] [.var [.ref 1 0],.var (Q++[.lst false (l.map Zc)]),.var [.ref 1 0]]=some (.tup [],[.var [.ref 1 0],.var (Zi Q 11 3 0 1++[.lst false (r.map Zc)]),.var [.ref 1 0],.row 0 1 [AVal.str s]]) :=
 Zwu Q h.len h.nor l (by omega) h.c11 ho
theorem fF0 {k:Int} (Q:List AVal) (h:QOk k Q) (l:Zb) (e:Int) (hl:l.length≤1099511627776) (ho:Zai l=.error e):∃ r:Zb,E 123 [.ref 0 0,.ref 2 0] [.var [.ref 1 0],.var (Q++[.lst false (l.map Zc)]),.var [.ref 1 0]]=some (.pan (Zy e),[.var [.ref 1 0],.var (Q++[.lst false (r.map Zc)]),.var [.ref 1 0]]) :=
 ⟨l,ZGH Q h.len h.nor l (by omega) ho h.c11⟩
theorem fT1 {k:Int} (Q:List AVal) (h:QOk k Q) (xs:List Zb) (l s r:Zb) (hl:l.length≤1099511627776) (hx:xs.length≤1099511627776) (ho:Zai l=.ok (s,r)):E 123 [.ref 0 0,.ref 3 0] [.var [.ref 1 0],.var (Zi Q 11 2 0 xs.length++[.lst false (l.map Zc)]),.row 0 1 (xs.map AVal.str),.var [.ref 1 0]]=some (.tup [],[.var [.ref 1 0],.var (Zi Q 11 2 1 (xs.length+1)++[.lst false (r.map Zc)]),.row 1 1 ((xs++[s]).map AVal.str),.var [.ref 1 0]]):=by
 have:=ZzI Q h.len h.nor l (by omega) (xs.map AVal.str) (by simp;omega) (ZzA xs) ho
 rw [List.length_map] at this
 rw [List.map_append]
 exact this
theorem fF1 {k:Int} (Q:List AVal) (h:QOk k Q) (xs:List Zb) (l:Zb) (e:Int) (hl:l.length≤1099511627776) (ho:Zai l=.error e):∃ r:Zb,E 123 [.ref 0 0,.ref 3 0] [.var [.ref 1 0],.var (Zi Q 11 2 0 xs.length++[.lst false (l.map Zc)]),.row 0 1 (xs.map AVal.str),.var [.ref 1 0]]=some (.pan (Zy e),[.var [.ref 1 0],.var (Zi Q 11 2 0 xs.length++[.lst false (r.map Zc)]),.row 0 1 (xs.map AVal.str),.var [.ref 1 0]]):=by
 have:=ZKM Q h.len h.nor l (by omega) (xs.map AVal.str) ho
 rw [List.length_map] at this
 exact ⟨l,this⟩
theorem cT0 {k:Int} (Q:List AVal) (h:QOk k Q) (l:Zb) (s:Int) (r:Zb) (hl:l.length≤1099511627776) (ho:Zau k l=.ok (s,r)):E 125 [.ref 0 0,.ref 2 0] [.var [.ref 1 0],.var (Q++[.lst false (l.map Zc)]),.var [.ref 1 0]]=some (.tup [],[.var [.ref 1 0],.var (Zi Q 8 3 0 1++[.lst false (r.map Zc)]),.var [.ref 1 0],.row 0 1 [AVal.int .i64 s]]) :=
 ZyN Q h.len h.nor l (by omega) h.c8 k h.ty ho
theorem cF0 {k:Int} (Q:List AVal) (h:QOk k Q) (l:Zb) (e:Int) (hl:l.length≤1099511627776) (ho:Zau k l=.error e):∃ r:Zb,E 125 [.ref 0 0,.ref 2 0] [.var [.ref 1 0],.var (Q++[.lst false (l.map Zc)]),.var [.ref 1 0]]=some (.pan (Zy e),[.var [.ref 1 0],.var (Q++[.lst false (r.map Zc)]),.var [.ref 1 0]]) :=
 ZEU Q h.len h.nor l (by omega) h.c8 k h.ty ho
theorem cT1 {k:Int} (Q:List AVal) (h:QOk k Q) (xs:List Int) (l:Zb) (s:Int) (r:Zb) (hl:l.length≤1099511627776) (hx:xs.length≤1099511627776) (ho:Zau k l=.ok (s,r)):E 125 [.ref 0 0,.ref 3 0] [.var [.ref 1 0],.var (Zi Q 8 2 0 xs.length++[.lst false (l.map Zc)]),.row 0 1 (xs.map (AVal.int .i64)),.var [.ref 1 0]]=some (.tup [],[.var [.ref 1 0],.var (Zi Q 8 2 1 (xs.length+1)++[.lst false (r.map Zc)]),.row 1 1 ((xs++[s]).map (AVal.int .i64)),.var [.ref 1 0]]):=by
 have:=ZMH Q h.len h.nor l (by omega) (xs.map (AVal.int .i64)) (by simp;omega) (ZAf xs) k h.ty ho
 rw [List.length_map] at this
 rw [List.map_append]
 exact this
theorem cF1 {k:Int} (Q:List AVal) (h:QOk k Q) (xs:List Int) (l:Zb) (e:Int) (hl:l.length≤1099511627776) (ho:Zau k l=.error e):∃ r:Zb,E 125 [.ref 0 0,.ref 3 0] [.var [.ref 1 0],.var (Zi Q 8 2 0 xs.length++[.lst false (l.map Zc)]),.row 0 1 (xs.map (AVal.int .i64)),.var [.ref 1 0]]=some (.pan (Zy e),[.var [.ref 1 0],.var (Zi Q 8 2 0 xs.length++[.lst false (r.map Zc)]),.row 0 1 (xs.map (AVal.int .i64)),.var [.ref 1 0]]):=by
 have:=ZN9 Q h.len h.nor l (by omega) (xs.map (AVal.int .i64)) k h.ty ho
 rw [List.length_map] at this
 exact this
section
variable (P:List AVal) (l:Zb) (hl:l.length≤1099511627775)
include hl
theorem ZBV (hP:QOk 10 P) {n:Int} {ps:List Zt} {ts:List Zb} (h:Zbv Zai 10 l=.ok (n,ps,ts)) :
  E 77 [.ref 0 0] (Zg P l)=some (.tup [],Zch (Zb0 P n ps) 11 ts.length [] 1 (ts.map AVal.str)):=by
 have hk:(11:Nat) < 26:=by omega
 have hE:=Zmw (g:=AVal.str) (kk:=11) (f:=123) (by omega) (by decide) (by kernel_rfl) Zkm fT0 fF0 fT1 fF1 hP hl h
 have hQ:=Zdu hP n ps
 obtain ⟨hL,hN,h0,-,-,-⟩:=hP
 unfold H3 at hE
 generalize Zb0 P n ps=Q at *
 have hC:=Zok (O:=E) (byref:=BY) (fm:=121) (by kernel_rfl) (Zx P hL hN false (l.map Zc)) (Zbt Q hQ.len hQ.nor hk 3 0 ts.length []) (fun ρ h=>ZaM Q hQ.len hQ.nor hk 3 0 ts.length 3 0 [] ρ h) hE
 have a4:=fun L=>(Z8 P hL 0 (by omega) L).trans h0
 have hR:=ZbY Q hQ.len hQ.nor 11 hk ts.length 3 0
 have b2:=Zap _ hR
 have m1:=Za7
 have z:=z0b
 have hO:=fun τ=>ZcU (j:=3) (w:=1) (xs:=ts.map AVal.str) (r:=.tup []) (σ:=.var (Zi Q 11 3 0 ts.length++[.lst false []])::.var [.ref 0 0]::.var [.ref 0 0]::.row 0 1 (ts.map AVal.str)::τ) rfl (by omega) rfl rfl (Zbt Q hQ.len hQ.nor hk 3 0 ts.length []) (fun ρ h=>ZaM Q hQ.len hQ.nor hk 3 0 ts.length 1 0 [] ρ h)
 unfold hB at hC
 simp only [List.map_nil] at hC
 unfold Zg Zch
 clear hE h
 generalize Zi Q 11 3 0 ts.length=R at *
 generalize Zi Q 11 1 0 ts.length=R1 at *
 generalize ts.map AVal.str=ys at *
 rw [Zh (by rfl) Za8]
 simp -implicitDefEqProofs only [EQA,ZC,Zs,Nat.reduceAdd,Nat.reduceLT,Nat.reduceLeDiff,Nat.reduceEqDiff,Nat.reduceBEq,↓reduceIte,Zd,Za9,Za5,Zew,oI,oN,a4,b2,hC,m1,Int.reduceBEq,z]
 exact hO _
theorem ZL5 (hP:QOk 10 P) {e:Int} (h:Zbv Zai 10 l=.error e):Zh2 11 1 l P e:=by
 have hk:(11:Nat) < 26:=by omega
 have hF:=Zn7 (g:=AVal.str) (kk:=11) (f:=123) (by omega) (by decide) (by kernel_rfl) Zkm fT0 fF0 fT1 fF1 hP hl h
 obtain ⟨hL,hN,h0,-,-,-⟩:=hP
 have a4:=fun L=>(Z8 P hL 0 (by omega) L).trans h0
 rcases hF with ⟨cs,hc,hE⟩ | ⟨Q,xs,r,hQ,hQN,hE⟩
 ·have hC:=Zmr (O:=E) (byref:=BY) (fm:=121) (by kernel_rfl) (Zx P hL hN false (l.map Zc)) hc rfl hE
  refine Or.inl ⟨cs,hc,?_⟩
  unfold hB at hC
  unfold Zg
  clear hE h
  rw [Zh (by rfl) Za8]
  simp -implicitDefEqProofs only [EQA,ZC,Nat.reduceAdd,Nat.reduceLT,Nat.reduceLeDiff,Nat.reduceEqDiff,Nat.reduceBEq,↓reduceIte,Za9,Za5,oI,oN,a4,hC,Int.reduceBEq]
  exact ZV rfl hc
 ·unfold H3 at hE
  have hC:=Zmc (O:=E) (byref:=BY) (fm:=121) (by kernel_rfl) (Zx P hL hN false (l.map Zc)) (fun ρ h=>ZaM Q hQ hQN hk 3 0 xs.length 3 0 r ρ h) rfl hE
  have hO:=fun τ=>ZcU (j:=3) (w:=1) (xs:=xs.map AVal.str) (r:=.pan (Zy e)) (σ:=.var (Zi Q 11 3 0 xs.length++[.lst false (r.map Zc)])::.var [.ref 0 0]::.var [.ref 0 0]::.row 0 1 (xs.map AVal.str)::τ) rfl (by omega) rfl rfl (Zbt Q hQ hQN hk 3 0 xs.length r) (fun ρ h=>ZaM Q hQ hQN hk 3 0 xs.length 1 0 r ρ h)
  refine Or.inr ⟨Q,xs.length,r,xs.map AVal.str,hQ,hQN,?_⟩
  unfold hB at hC
  unfold Zg Zch
  clear hE h
  generalize Zi Q 11 3 0 xs.length=R at *
  generalize Zi Q 11 1 0 xs.length=R1 at *
  generalize xs.map AVal.str=ys at *
  generalize Zy e=ce at *
  rw [Zh (by rfl) Za8]
  simp -implicitDefEqProofs only [EQA,ZC,Nat.reduceAdd,Nat.reduceLT,Nat.reduceLeDiff,Nat.reduceEqDiff,Nat.reduceBEq,↓reduceIte,Za9,Za5,oI,oN,a4,hC,Int.reduceBEq]
  exact hO _
theorem Zzw (hP:QOk 9 P) {n:Int} {ps:List Zt} {ts:List Int} (h:Zbv (Zau 9) 9 l=.ok (n,ps,ts)) :
  E 77 [.ref 0 0] (Zg P l)=some (.tup [],Zch (Zb0 P n ps) 8 ts.length [] 1 (ts.map (AVal.int .i64))):=by
 have hk:(8:Nat) < 26:=by omega
 have hE:=Zmw (g:=(AVal.int .i64)) (kk:=8) (f:=125) (by omega) (by decide) (by kernel_rfl) Zh3 cT0 cF0 cT1 cF1 hP hl h
 have hQ:=Zdu hP n ps
 obtain ⟨hL,hN,h0,-,-,-⟩:=hP
 unfold H3 at hE
 generalize Zb0 P n ps=Q at *
 have hC:=Zok (O:=E) (byref:=BY) (fm:=121) (by kernel_rfl) (Zx P hL hN false (l.map Zc)) (Zbt Q hQ.len hQ.nor hk 3 0 ts.length []) (fun ρ h=>ZaM Q hQ.len hQ.nor hk 3 0 ts.length 3 0 [] ρ h) hE
 have a4:=fun L=>(Z8 P hL 0 (by omega) L).trans h0
 have hR:=ZbY Q hQ.len hQ.nor 8 hk ts.length 3 0
 have b2:=Zap _ hR
 have m1:=Za7
 have z:=z0b
 have hO:=fun τ=>ZcU (j:=3) (w:=1) (xs:=ts.map (AVal.int .i64)) (r:=.tup []) (σ:=.var (Zi Q 8 3 0 ts.length++[.lst false []])::.var [.ref 0 0]::.var [.ref 0 0]::.row 0 1 (ts.map (AVal.int .i64))::τ) rfl (by omega) rfl rfl (Zbt Q hQ.len hQ.nor hk 3 0 ts.length []) (fun ρ h=>ZaM Q hQ.len hQ.nor hk 3 0 ts.length 1 0 [] ρ h)
 unfold hB at hC
 simp only [List.map_nil] at hC
 unfold Zg Zch
 clear hE h
 generalize Zi Q 8 3 0 ts.length=R at *
 generalize Zi Q 8 1 0 ts.length=R1 at *
 generalize ts.map (AVal.int .i64)=ys at *
 rw [Zh (by rfl) Za8]
 simp -implicitDefEqProofs only [EQA,ZC,Zs,Nat.reduceAdd,Nat.reduceLT,Nat.reduceLeDiff,Nat.reduceEqDiff,Nat.reduceBEq,↓reduceIte,Zd,Za9,Za5,Zew,oI,oN,a4,b2,hC,m1,Int.reduceBEq,z]
 exact hO _
theorem Zxv (hP:QOk 9 P) {e:Int} (h:Zbv (Zau 9) 9 l=.error e):Zh2 8 1 l P e:=by
 have hk:(8:Nat) < 26:=by omega
 have hF:=Zn7 (g:=(AVal.int .i64)) (kk:=8) (f:=125) (by omega) (by decide) (by kernel_rfl) Zh3 cT0 cF0 cT1 cF1 hP hl h
 obtain ⟨hL,hN,h0,-,-,-⟩:=hP
 have a4:=fun L=>(Z8 P hL 0 (by omega) L).trans h0
 rcases hF with ⟨cs,hc,hE⟩ | ⟨Q,xs,r,hQ,hQN,hE⟩
 ·have hC:=Zmr (O:=E) (byref:=BY) (fm:=121) (by kernel_rfl) (Zx P hL hN false (l.map Zc)) hc rfl hE
  refine Or.inl ⟨cs,hc,?_⟩
  unfold hB at hC
  unfold Zg
  clear hE h
  rw [Zh (by rfl) Za8]
  simp -implicitDefEqProofs only [EQA,ZC,Nat.reduceAdd,Nat.reduceLT,Nat.reduceLeDiff,Nat.reduceEqDiff,Nat.reduceBEq,↓reduceIte,Za9,Za5,oI,oN,a4,hC,Int.reduceBEq]
  exact ZV rfl hc
 ·unfold H3 at hE
  have hC:=Zmc (O:=E) (byref:=BY) (fm:=121) (by kernel_rfl) (Zx P hL hN false (l.map Zc)) (fun ρ h=>ZaM Q hQ hQN hk 3 0 xs.length 3 0 r ρ h) rfl hE
  have hO:=fun τ=>ZcU (j:=3) (w:=1) (xs:=xs.map (AVal.int .i64)) (r:=.pan (Zy e)) (σ:=.var (Zi Q 8 3 0 xs.length++[.lst false (r.map Zc)])::.var [.ref 0 0]::.var [.ref 0 0]::.row 0 1 (xs.map (AVal.int .i64))::τ) rfl (by omega) rfl rfl (Zbt Q hQ hQN hk 3 0 xs.length r) (fun ρ h=>ZaM Q hQ hQN hk 3 0 xs.length 1 0 r ρ h)
  refine Or.inr ⟨Q,xs.length,r,xs.map (AVal.int .i64),hQ,hQN,?_⟩
  unfold hB at hC
  unfold Zg Zch
  clear hE h
  generalize Zi Q 8 3 0 xs.length=R at *
  generalize Zi Q 8 1 0 xs.length=R1 at *
  generalize xs.map (AVal.int .i64)=ys at *
  generalize Zy e=ce at *
  rw [Zh (by rfl) Za8]
  simp -implicitDefEqProofs only [EQA,ZC,Nat.reduceAdd,Nat.reduceLT,Nat.reduceLeDiff,Nat.reduceEqDiff,Nat.reduceBEq,↓reduceIte,Za9,Za5,oI,oN,a4,hC,Int.reduceBEq]
  exact hO _
theorem Zx1 (hP:QOk 11 P) {n:Int} {ps:List Zt} {ts:List Int} (h:Zbv (Zau 11) 11 l=.ok (n,ps,ts)) :
  E 77 [.ref 0 0] (Zg P l)=some (.tup [],Zch (Zb0 P n ps) 8 ts.length [] 1 (ts.map (AVal.int .i64))):=by
 have hk:(8:Nat) < 26:=by omega
 have hE:=Zmw (g:=(AVal.int .i64)) (kk:=8) (f:=125) (by omega) (by decide) (by kernel_rfl) Zh3 cT0 cF0 cT1 cF1 hP hl h
 have hQ:=Zdu hP n ps
 obtain ⟨hL,hN,h0,-,-,-⟩:=hP
 unfold H3 at hE
 generalize Zb0 P n ps=Q at *
 have hC:=Zok (O:=E) (byref:=BY) (fm:=121) (by kernel_rfl) (Zx P hL hN false (l.map Zc)) (Zbt Q hQ.len hQ.nor hk 3 0 ts.length []) (fun ρ h=>ZaM Q hQ.len hQ.nor hk 3 0 ts.length 3 0 [] ρ h) hE
 have a4:=fun L=>(Z8 P hL 0 (by omega) L).trans h0
 have hR:=ZbY Q hQ.len hQ.nor 8 hk ts.length 3 0
 have b2:=Zap _ hR
 have m1:=Za7
 have z:=z0b
 have hO:=fun τ=>ZcU (j:=3) (w:=1) (xs:=ts.map (AVal.int .i64)) (r:=.tup []) (σ:=.var (Zi Q 8 3 0 ts.length++[.lst false []])::.var [.ref 0 0]::.var [.ref 0 0]::.row 0 1 (ts.map (AVal.int .i64))::τ) rfl (by omega) rfl rfl (Zbt Q hQ.len hQ.nor hk 3 0 ts.length []) (fun ρ h=>ZaM Q hQ.len hQ.nor hk 3 0 ts.length 1 0 [] ρ h)
 unfold hB at hC
 simp only [List.map_nil] at hC
 unfold Zg Zch
 clear hE h
 generalize Zi Q 8 3 0 ts.length=R at *
 generalize Zi Q 8 1 0 ts.length=R1 at *
 generalize ts.map (AVal.int .i64)=ys at *
 rw [Zh (by rfl) Za8]
 simp -implicitDefEqProofs only [EQA,ZC,Zs,Nat.reduceAdd,Nat.reduceLT,Nat.reduceLeDiff,Nat.reduceEqDiff,Nat.reduceBEq,↓reduceIte,Zd,Za9,Za5,Zew,oI,oN,a4,b2,hC,m1,Int.reduceBEq,z]
 exact hO _
theorem ZM4 (hP:QOk 11 P) {e:Int} (h:Zbv (Zau 11) 11 l=.error e):Zh2 8 1 l P e:=by
 have hk:(8:Nat) < 26:=by omega
 have hF:=Zn7 (g:=(AVal.int .i64)) (kk:=8) (f:=125) (by omega) (by decide) (by kernel_rfl) Zh3 cT0 cF0 cT1 cF1 hP hl h
 obtain ⟨hL,hN,h0,-,-,-⟩:=hP
 have a4:=fun L=>(Z8 P hL 0 (by omega) L).trans h0
 rcases hF with ⟨cs,hc,hE⟩ | ⟨Q,xs,r,hQ,hQN,hE⟩
 ·have hC:=Zmr (O:=E) (byref:=BY) (fm:=121) (by kernel_rfl) (Zx P hL hN false (l.map Zc)) hc rfl hE
  refine Or.inl ⟨cs,hc,?_⟩
  unfold hB at hC
  unfold Zg
  clear hE h
  rw [Zh (by rfl) Za8]
  simp -implicitDefEqProofs only [EQA,ZC,Nat.reduceAdd,Nat.reduceLT,Nat.reduceLeDiff,Nat.reduceEqDiff,Nat.reduceBEq,↓reduceIte,Za9,Za5,oI,oN,a4,hC,Int.reduceBEq]
  exact ZV rfl hc
 ·unfold H3 at hE
  have hC:=Zmc (O:=E) (byref:=BY) (fm:=121) (by kernel_rfl) (Zx P hL hN false (l.map Zc)) (fun ρ h=>ZaM Q hQ hQN hk 3 0 xs.length 3 0 r ρ h) rfl hE
  have hO:=fun τ=>ZcU (j:=3) (w:=1) (xs:=xs.map (AVal.int .i64)) (r:=.pan (Zy e)) (σ:=.var (Zi Q 8 3 0 xs.length++[.lst false (r.map Zc)])::.var [.ref 0 0]::.var [.ref 0 0]::.row 0 1 (xs.map (AVal.int .i64))::τ) rfl (by omega) rfl rfl (Zbt Q hQ hQN hk 3 0 xs.length r) (fun ρ h=>ZaM Q hQ hQN hk 3 0 xs.length 1 0 r ρ h)
  refine Or.inr ⟨Q,xs.length,r,xs.map (AVal.int .i64),hQ,hQN,?_⟩
  unfold hB at hC
  unfold Zg Zch
  clear hE h
  generalize Zi Q 8 3 0 xs.length=R at *
  generalize Zi Q 8 1 0 xs.length=R1 at *
  generalize xs.map (AVal.int .i64)=ys at *
  generalize Zy e=ce at *
  rw [Zh (by rfl) Za8]
  simp -implicitDefEqProofs only [EQA,ZC,Nat.reduceAdd,Nat.reduceLT,Nat.reduceLeDiff,Nat.reduceEqDiff,Nat.reduceBEq,↓reduceIte,Za9,Za5,oI,oN,a4,hC,Int.reduceBEq]
  exact hO _
theorem ZCK (hP:QOk 8 P) {n:Int} {ps:List Zt} {ts:List Zbq} (h:Zbv Zbn 8 l=.ok (n,ps,ts)) :
  E 77 [.ref 0 0] (Zg P l)=some (.tup [],Zch (Zb0 P n ps) 10 ts.length [] 6 (ts.map ZU)):=by
 have hk:(10:Nat) < 26:=by omega
 have hE:=ZH4 hP hl h
 have hQ:=Zdu hP n ps
 obtain ⟨hL,hN,h0,-,-,-⟩:=hP
 unfold H1 at hE
 generalize Zb0 P n ps=Q at *
 have hC:=ZFI (O:=E) (byref:=BY) (fm:=121) (by kernel_rfl) (Zx P hL hN false (l.map Zc)) (Zbt Q hQ.len hQ.nor hk 1 0 ts.length []) (fun ρ h=>ZaM Q hQ.len hQ.nor hk 1 0 ts.length 1 0 [] ρ h) (fun ρ h=>ZaM Q hQ.len hQ.nor hk 1 0 ts.length 3 0 [] ρ h) hE
 have a4:=fun L=>(Z8 P hL 0 (by omega) L).trans h0
 have hR:=ZbY Q hQ.len hQ.nor 10 hk ts.length 3 0
 have b2:=Zap _ hR
 have m1:=Za7
 have z:=z0b
 have hO:=fun τ=>ZcU (j:=3) (w:=6) (xs:=ts.map ZU) (r:=.tup []) (σ:=.var (Zi Q 10 3 0 ts.length++[.lst false []])::.var [.ref 0 0]::.var [.ref 0 0]::.row 0 6 (ts.map ZU)::τ) rfl (by omega) rfl rfl (Zbt Q hQ.len hQ.nor hk 3 0 ts.length []) (fun ρ h=>ZaM Q hQ.len hQ.nor hk 3 0 ts.length 1 0 [] ρ h)
 unfold hB at hC
 simp only [List.map_nil] at hC
 unfold Zg Zch
 clear hE h
 generalize Zi Q 10 3 0 ts.length=R at *
 generalize Zi Q 10 1 0 ts.length=R1 at *
 generalize ts.map ZU=ys at *
 rw [Zh (by rfl) Za8]
 simp -implicitDefEqProofs only [EQA,ZC,Zs,Nat.reduceAdd,Nat.reduceLT,Nat.reduceLeDiff,Nat.reduceEqDiff,Nat.reduceBEq,↓reduceIte,Zd,Za9,Za5,Zew,oI,oN,a4,b2,hC,m1,Int.reduceBEq,z]
 exact hO _
theorem Zxh (hP:QOk 8 P) {e:Int} (h:Zbv Zbn 8 l=.error e):Zh2 10 6 l P e:=by
 have hk:(10:Nat) < 26:=by omega
 have hF:=ZIM hP hl h
 obtain ⟨hL,hN,h0,-,-,-⟩:=hP
 have a4:=fun L=>(Z8 P hL 0 (by omega) L).trans h0
 rcases hF with ⟨cs,hc,hE⟩ | ⟨Q,xs,r,hQ,hQN,hE⟩
 ·have hC:=ZwY (O:=E) (byref:=BY) (fm:=121) (by kernel_rfl) (Zx P hL hN false (l.map Zc)) hc rfl hE
  refine Or.inl ⟨cs,hc,?_⟩
  unfold hB at hC
  unfold Zg
  clear hE h
  rw [Zh (by rfl) Za8]
  simp -implicitDefEqProofs only [EQA,ZC,Nat.reduceAdd,Nat.reduceLT,Nat.reduceLeDiff,Nat.reduceEqDiff,Nat.reduceBEq,↓reduceIte,Za9,Za5,oI,oN,a4,hC,Int.reduceBEq]
  exact ZV rfl hc
 ·unfold H1 at hE
  have hC:=Zyo (O:=E) (byref:=BY) (fm:=121) (by kernel_rfl) (Zx P hL hN false (l.map Zc)) (fun ρ h=>ZaM Q hQ hQN hk 1 0 xs.length 3 0 r ρ h) rfl hE
  have hO:=fun τ=>ZcU (j:=3) (w:=6) (xs:=xs.map ZU) (r:=.pan (Zy e)) (σ:=.var (Zi Q 10 3 0 xs.length++[.lst false (r.map Zc)])::.var [.ref 0 0]::.var [.ref 0 0]::.row 0 6 (xs.map ZU)::τ) rfl (by omega) rfl rfl (Zbt Q hQ hQN hk 3 0 xs.length r) (fun ρ h=>ZaM Q hQ hQN hk 3 0 xs.length 1 0 r ρ h)
  refine Or.inr ⟨Q,xs.length,r,xs.map ZU,hQ,hQN,?_⟩
  unfold hB at hC
  unfold Zg Zch
  clear hE h
  generalize Zi Q 10 3 0 xs.length=R at *
  generalize Zi Q 10 1 0 xs.length=R1 at *
  generalize xs.map ZU=ys at *
  generalize Zy e=ce at *
  rw [Zh (by rfl) Za8]
  simp -implicitDefEqProofs only [EQA,ZC,Nat.reduceAdd,Nat.reduceLT,Nat.reduceLeDiff,Nat.reduceEqDiff,Nat.reduceBEq,↓reduceIte,Za9,Za5,oI,oN,a4,hC,Int.reduceBEq]
  exact hO _
end
end Go.Proofs.YtmlkhhidifjjfaaDoor
namespace Go.Proofs.YtmlkhhidifjjfaaDoor
set_option maxHeartbeats 8000000
set_option maxRecDepth 10000
section
variable {O:ZO} {byref:Nat→Bool} {σ:Za} {t f site w:Nat} {rest:List AVal} {cs cs2 cs3 ys:List AVal}
theorem ZGN (hb:byref f=false) (hp:rest.all Zab=true) (hc:Zd cs=true) (hrf:Zr cs2=[1]) (hren:∀ ρ:Rho,ρ 1 0=some (1,0)→Zf ρ cs2=cs2) (hback:∀ ρ:Rho,ρ 1 0=some (site,0)→Zf ρ cs2=cs3)
  (h:O f (.ref 0 0::rest.map ZG) [.var cs]=some (.tup [],[.var cs2,.row 0 w ys])) (hs:σ[t]?=some (.var cs)) (hff:ZaY σ site 1=true):Zj O byref σ site f 1 true (.ref t 0::rest)=some (.tup [],(σ.set t (.var cs3)).set site (.row 0 w ys),{ any:=true,upd:=[(t,cs3)] }):=by
 have hfs:σ[site]?=some .free:=Zgf (i:=0) hff (by omega)
 have hts:t≠site:=by rintro rfl;rw [hs] at hfs;cases hfs
 have htl:t < σ.length:=(List.getElem?_eq_some_iff.1 hs).1
 have hd:σ.getD t .free=.var cs:=by simp [List.getD_eq_getElem?_getD,hs]
 have hsh:showAs σ (.ref t 0::rest)=some (.ref t 0::rest.map ZG,[]):=by
  rw [showAs,show showA σ (.ref t 0)=some (.ref t 0,[]) from rfl,Zd1 hp]
  rfl
 have href:Zr (.ref t 0::rest.map ZG)=[t]:=by
  rw [Zr,Zdg hp];rfl
 have hρ:Zm σ 0 [t] t 0=some (0,0):=by simp [Zm,ZY,hs,Zo,ZQ]
 have hask:Zad true [t].length (some (.tup [],[.var cs2,.row 0 w ys]))=some (.tup [],[.var cs2,.row 0 w ys]):=ZcU (j:=1) (σ:=[.var cs2,.row 0 w ys]) (r:=.tup []) rfl (by omega) rfl rfl hrf hren
 refine ZcS (ids:=[t]) hb hsh (by rw [href];exact Ze0 hs hc) rfl (by simp [hs,okB]) ?_ ?_ h hask (by simp) (by simp) ?_ hff rfl ?_ ?_
 ·rw [Zf,Zdf hp]
  simp only [Zk,hρ]
 ·simp only [Zv,hd,ZF,(ZaS _ cs hc).1]
 ·simp [ZaZ,okB,hs,Zcb,Zo]
 ·have hb3:Zf (ZaA σ [t] site) cs2=cs3:=hback _ (by simp [ZaA])
  simp only [Za2,ZaH,List.getD_cons_zero,Zce,Zo,ZF,hb3]
  simp []
 ·have e1:((σ.set t (.var cs3)).set site (.row 0 w ys))[t]?=some (.var cs3):=by
   rw [List.getElem?_set_ne (fun e=>hts e.symm),List.getElem?_set_self htl]
  simp only [Za4,e1]
theorem ZGB {x:AVal} {view:Bool} (hb:byref f=false) (hp:rest.all Zab=true) (hc:Zd cs=true) (hback:∀ ρ:Rho,ρ 1 0=some (site,0)→Zf ρ cs2=cs3) (hx:ZI x=true)
  (h:O f (.ref 0 0::rest.map ZG) [.var cs]=some (.pan x,[.var cs2,.row 0 w ys])) (hs:σ[t]?=some (.var cs)) (hff:ZaY σ site 1=true):Zj O byref σ site f 1 view (.ref t 0::rest)=some (.pan x,(σ.set t (.var cs3)).set site (.row 0 w ys),{ any:=true,upd:=[(t,cs3)] }):=by
 have hfs:σ[site]?=some .free:=Zgf (i:=0) hff (by omega)
 have hts:t≠site:=by rintro rfl;rw [hs] at hfs;cases hfs
 have htl:t < σ.length:=(List.getElem?_eq_some_iff.1 hs).1
 have hd:σ.getD t .free=.var cs:=by simp [List.getD_eq_getElem?_getD,hs]
 have hnp:ZI (.pan x)=true:=by simpa only [ZI] using hx
 have hsh:showAs σ (.ref t 0::rest)=some (.ref t 0::rest.map ZG,[]):=by
  rw [showAs,show showA σ (.ref t 0)=some (.ref t 0,[]) from rfl,Zd1 hp]
  rfl
 have href:Zr (.ref t 0::rest.map ZG)=[t]:=by
  rw [Zr,Zdg hp];rfl
 have hρ:Zm σ 0 [t] t 0=some (0,0):=by simp [Zm,ZY,hs,Zo,ZQ]
 have hask:Zad view [t].length (some (.pan x,[.var cs2,.row 0 w ys]))=some (.pan x,[.var cs2,.row 0 w ys]):=by
  unfold Zad
  split <;> rfl
 refine ZcS (ids:=[t]) hb hsh (by rw [href];exact Ze0 hs hc) rfl (by simp [hs,okB]) ?_ ?_ h hask (by simp) (by simp) ?_ hff (Za1 _ _ hnp).1 ?_ ?_
 ·rw [Zf,Zdf hp]
  simp only [Zk,hρ]
 ·simp only [Zv,hd,ZF,(ZaS _ cs hc).1]
 ·simp [ZaZ,okB,hs,Zcb,Zo]
 ·have hb3:Zf (ZaA σ [t] site) cs2=cs3:=hback _ (by simp [ZaA])
  simp only [Za2,ZaH,List.getD_cons_zero,Zce,Zo,ZF,hb3]
  simp []
 ·have e1:((σ.set t (.var cs3)).set site (.row 0 w ys))[t]?=some (.var cs3):=by
   rw [List.getElem?_set_ne (fun e=>hts e.symm),List.getElem?_set_self htl]
  simp only [Za4,e1]
end
section
variable (b:Int) (l:Zb) {P1 Q:List AVal} {kk n w:Nat} {ys:List AVal} (h1:P1.length=26) (n1:Zd P1=true) (hQ:Q.length=26) (nQ:Zd Q=true) (hk:kk < 26)
include h1 n1 hQ nQ hk
theorem ZHs (oQ:∀ r g m,(Zi Q kk r g m).all ZT=true)
  (hf:E 76 [.ref 0 0,.int .u8 b] (Zg P0 l)=some (.tup [],Zg P1 l)) (hb:E 77 [.ref 0 0] (Zg P1 l)=some (.tup [],Zch Q kk n [] w ys)) :
  evC FC PR BY 3 c2R (tput tmR (some 5) .top) (σR b l)=some (.ret,[(3,.ref 2 0),(2,.ref 1 0)],[.var [.int .u8 b,.lst false (l.map Zc)],.var (Zi Q kk 4 0 n),.var [.int .i64 0],.var (Zi Q kk 4 0 n++[.lst false []]),.row 0 w ys]):=by
 have hF:=fun (σ:Za) site (hs:σ[3]?=some (.var (P0++[.lst false (l.map Zc)])))=>Zc3 (O:=E) (byref:=BY) (f:=76) (rest:=[.int .u8 b]) (by kernel_rfl) rfl (by rfl) (Zaz n1 (by rfl)) rfl rfl hf hs site
 have hB:=fun (σ:Za) (hs:σ[3]?=some (.var (P1++[.lst false (l.map Zc)]))) (hfr:σ[4]?=some .free)=>ZGN (O:=E) (byref:=BY) (f:=77) (site:=4) (rest:=[]) (by kernel_rfl) rfl (Zaz n1 (by rfl)) (Zbt Q hQ nQ hk 1 0 n []) (fun ρ h=>ZaM Q hQ nQ hk 1 0 n 1 0 [] ρ h) (fun ρ h=>ZaM Q hQ nQ hk 1 0 n 4 0 [] ρ h) hb hs (by simp [ZaY,freeAt,hfr])
 have hR:=ZbY Q hQ nQ kk hk n 4 0
 have b1:=Z3 _ hR
 have b2:=Zes _ hR
 have o2:=oQ 4 0 n
 simp only [List.map_nil] at hB
 unfold P0 at hF
 simp only [List.cons_append,List.nil_append] at hF
 unfold tmR σR P0
 clear hf hb
 generalize Zi Q kk 4 0 n=R at *
 simp -implicitDefEqProofs only [EQA,Za6,Nat.reduceAdd,Nat.reduceLT,Nat.reduceLeDiff,Nat.reduceEqDiff,Nat.reduceBEq,↓reduceIte,c2R,AVal.cells,Zal,hF,hB,b1,b2,hR,o2]
theorem ZBn {c:Int} (hf:E 76 [.ref 0 0,.int .u8 b] (Zg P0 l)=some (.tup [],Zg P1 l)) {r:Zb} (hb:E 77 [.ref 0 0] (Zg P1 l)=some (.pan (Zy c),Zch Q kk n r w ys)) :
  evC FC PR BY 3 c2R (tput tmR (some 5) .top) (σR b l)=some (.panic (Zy c),[],[.var [.int .u8 b,.lst false (l.map Zc)],.var P0,.var [.int .i64 0],.var (Zi Q kk 4 0 n++[.lst false (r.map Zc)]),.row 0 w ys]):=by
 have hF:=fun (σ:Za) site (hs:σ[3]?=some (.var (P0++[.lst false (l.map Zc)])))=>Zc3 (O:=E) (byref:=BY) (f:=76) (rest:=[.int .u8 b]) (by kernel_rfl) rfl (by rfl) (Zaz n1 (by rfl)) rfl rfl hf hs site
 have hB:=fun (σ:Za) (hs:σ[3]?=some (.var (P1++[.lst false (l.map Zc)]))) (hff:ZaY σ 4 1=true)=>ZGB (O:=E) (byref:=BY) (f:=77) (view:=true) (site:=4) (rest:=[]) (by kernel_rfl) rfl (Zaz n1 (by rfl)) (fun ρ h=>ZaM Q hQ nQ hk 1 0 n 4 0 r ρ h) rfl hb hs hff
 unfold P0 at hF
 simp only [List.cons_append,List.nil_append] at hF
 unfold tmR σR P0
 clear hf hb
 generalize Zi Q kk 4 0 n=R at *
 simp -implicitDefEqProofs only [EQA,Za6,Nat.reduceAdd,Nat.reduceLT,Nat.reduceLeDiff,Nat.reduceEqDiff,Nat.reduceBEq,↓reduceIte,c2R,AVal.cells,Zal,hF,hB,ZaY]
omit h1 n1
theorem ZLl (c:Int):Ze7 0 1 2 rsR (.var [.int .u8 b,.lst false (l.map Zc)]::.var (Zi Q kk 4 0 n)::.var [.int .i64 c]::.var (Zi Q kk 4 0 n++[.lst false []])::.row 0 w ys::[])=some (.tup [.agg (Zi Q kk 0 0 n),.int .i64 c],[.row 0 w ys]):=by
 have hR:=ZbY Q hQ nQ kk hk n 4 0
 have hRf:=Zcg Q hQ nQ kk hk n 4 0
 have hre:=fun ρ h=>ZbF Q hQ nQ kk hk n (r:=4) (g:=0) (r':=0) (g':=0) ρ h
 generalize Zi Q kk 4 0 n=R at *
 have h1:resA [(3,.ref 2 0),(2,.ref 1 0)] (.var [.int .u8 b,.lst false (l.map Zc)]::.var R::.var [.int .i64 c]::.var (R++[.lst false []])::.row 0 w ys::[]) rsR=some (.tup [.agg R,.int .i64 c]):=by
  have h2:R.take 26=R:=List.take_of_length_le (by omega)
  simp [resA,resAll,resOne,rsR,tget,ldA,partA,hR,h2]
 unfold Ze7
 rw [h1]
 have hr:Zr [AVal.tup [.agg R,.int .i64 c]]=[4]:=by simp [Zr,ZX,hRf]
 have hi:ZB 0 [AVal.tup [.agg R,.int .i64 c]] (.var [.int .u8 b,.lst false (l.map Zc)]::.var R::.var [.int .i64 c]::.var (R++[.lst false []])::.row 0 w ys::[])=[4]:=by
  simp only [ZB,hr,List.range_zero,List.flatMap_nil,List.append_nil]
  rfl
 have hρ:Zm (.var [.int .u8 b,.lst false (l.map Zc)]::.var R::.var [.int .i64 c]::.var (R++[.lst false []])::.row 0 w ys::[]) 0 [4] 4 0=some (0,0):=rfl
 simp only [Zak,gcA,hi,Zf,Zk,hre _ hρ,Zv,List.getD_cons_zero,List.getD_cons_succ,ZQ,Zo,ZF]
 simp
end
theorem ZLP (b:Int) (l:Zb) {P1 Q:List AVal} {kk n w:Nat} {ys:List AVal} (h1:P1.length=26) (n1:Zd P1=true) (hQ:Q.length=26) (nQ:Zd Q=true) (hk:kk < 26) (oQ:∀ r g m,(Zi Q kk r g m).all ZT=true)
  (hf:E 76 [.ref 0 0,.int .u8 b] (Zg P0 l)=some (.tup [],Zg P1 l)) (hb:E 77 [.ref 0 0] (Zg P1 l)=some (.tup [],Zch Q kk n [] w ys)) :
  ZeC [.agg [.int .u8 b,.lst false (l.map Zc)]] []=some (.tup [.agg (Zi Q kk 0 0 n),.int .i64 0],[.row 0 w ys]):=by
 unfold ZeC Zhd
 show (match evC FC PR BY 0 c1R (enterA 0 [.agg [.int .u8 b,.lst false (l.map Zc)]] []) [] with | some (.normal,tm1,σ1)=>_ | _=>none)=_
 rw [Zo7]
 show (if (0:Nat)≤(σR b l).length∧1 < (σR b l).length∧2 < (σR b l).length then ZfK FC PR BY 61 c2R c3R rsR 0 (tput tmR (some 5) .top) (σR b l) 1 2 else none)=_
 rw [if_pos (by simp [σR])]
 unfold ZfK
 rw [show (σR b l).length=3 from rfl,ZHs b l h1 n1 hQ nQ hk oQ hf hb]
 exact ZLl b l hQ nQ hk 0
theorem ZIn {b c:Int} {l:Zb} {Q:List AVal} {q:Zn} {w:Nat} {ys:List AVal} (h:E1 32 [.agg [.int .u8 b,.lst false (l.map Zc)]] []=some (.tup [.agg Q,.int .i64 c],[.row 0 w ys])) (hv:∀ σ:Za,σ[0]?=some (.row 0 w ys)→ZaJ σ Q=some (Zu q,[0])) :
  Zad true 0 (E1 32 [.agg [.int .u8 b,.lst false (l.map Zc)]] [])=some (.tup [ZZ q,.int .i64 c],[]):=by
 rw [h]
 show ZbH 0 (some (.tup [.agg Q,.int .i64 c],[.row 0 w ys]))=some (.tup [ZZ q,.int .i64 c],[])
 have h1:viewR [.row 0 w ys] (.tup [.agg Q,.int .i64 c])=some (.tup [ZZ q,.int .i64 c],[0]):=by
  rw [viewR,viewAs,ZR,hv _ rfl]
  rfl
 unfold ZbH
 simp only [h1]
 have e1:=Zu6 q
 have e2:=Zlu q
 have hi:ZB 0 [AVal.tup [ZZ q,.int .i64 c]] (Zq [.row 0 w ys] [0])=[]:=by
  have : Zr [AVal.tup [ZZ q,.int .i64 c]]=[]:=by simp [Zr,ZX,Zbo,e1]
  simp only [ZB,this,List.nil_append,List.range_zero,List.flatMap_nil]
  rfl
 simp only [gcA,hi,Zf,Zk,Zv]
 rw [Zbo,Zk,e2]
end Go.Proofs.YtmlkhhidifjjfaaDoor
