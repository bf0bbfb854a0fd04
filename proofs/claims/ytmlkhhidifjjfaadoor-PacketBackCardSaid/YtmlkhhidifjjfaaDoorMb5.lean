/- packed -/
import Derived.Test.YtmlkhhidifjjfaaDoorMb4
import Derived.Test.YtmlkhhidifjjfaaDoorMb3
import Derived.Test.YtmlkhhidifjjfaaDoorMb2
import Derived.Shelf.LaysM
import Derived.Shelf.Bytes.TryGrowAt
import Derived.Shelf.Bytes.GrowSliceCatch
import Derived.Lib.ByteType
import Derived.Lib.BufferAt
import Derived.Lib.BufferOwn
import Derived.Lib.AppendZeros
import Derived.Lib.Walk
import Derived.Lib.Hide
import Derived.Laws.CopyRow
import Derived.Laws.IdiomCopy
import Derived.Laws.MakeOwn
import Derived.WalkKit
import Derived.OwnWalk
import Derived.Defers
import Derived.Recover
import Derived.RegionTactic
import Derived.Shelf.RegionOpenPlain
import Derived.Deep.RegionWith
import Derived.Deep.Draws
import Derived.BigCall
import Derived.BigGuard
import Derived.Lib.BufferSrc
set_option linter.defProp false
set_option linter.unusedSectionVars false
set_option linter.unusedSimpArgs false
set_option linter.unusedVariables false
namespace Go.Proofs.YtmlkhhidifjjfaaDoor
set_option maxHeartbeats 16000000
set_option maxRecDepth 10000
section
def ZbL (q:Zl) (m:Int):Zl:={ q with clean:=Zk m 2 != 0,hasWill:=Zk m 4 != 0,hasPassword:=Zk m 64 != 0,hasUser:=Zk m 128 != 0,will:={ q.will with qos:=Zk (ZcN m) 3,retain:=Zk m 32 != 0 } }
def headD (q:Zl) (k:Int) (ps:List Zp) (cl:Zb):Zl:={ q with keep:=k,props:=ps,client:=cl }
def ZdO (b:Bool) (q:Zl) (l:Zb):Except Int (Zl×Zb):=if b=true then (match Zcu l with
 | .error c=>.error c
 | .ok (d,r)=>.ok ({ q with password:=d },r)) else .ok (q,l)
def Zds (b:Bool) (q:Zl) (l:Zb):Except Int (Zl×Zb):=if b=true then (match Zal l with
 | .error c=>.error c
 | .ok (d,r)=>.ok ({ q with user:=d },r)) else .ok (q,l)
def Zdn (b:Bool) (q:Zl) (l:Zb):Except Int (Zl×Zb):=if b=true then (match ZcS l with
 | .error c=>.error c
 | .ok (ps,tp,d,r)=>.ok ({ q with will:={ q.will with props:=ps,topic:=tp,data:=d } },r)) else .ok (q,l)
def Ze6 (m:Int) (q:Zl) (l:Zb):Except Int (Zl×Zb):=match Zdn (Zk m 4 != 0) q l with
 | .error c=>.error c
 | .ok (q,l)=>match Zds (Zk m 128 != 0) q l with
  | .error c=>.error c
  | .ok (q,l)=>ZdO (Zk m 64 != 0) q l
def ZeD (q:Zl) (m:Int) (l:Zb):Except Int (Zl×Zb):=match Zar 2 l with
 | .error c=>.error c
 | .ok (k,r4)=>match Zbw 1 r4 with
  | .error c=>.error c
  | .ok (ps,r5)=>match Zal r5 with
   | .error c=>.error c
   | .ok (cl,r6)=>Ze6 m (headD (ZbL q m) k ps cl) r6
def ZcG (q:Zl) (l:Zb):Except Int (Zl×Zb):=match Zal l with
 | .error c=>.error c
 | .ok (s,r1)=>if (s == [77,81,84,84])=true then (match Zar 1 r1 with
  | .error c=>.error c
  | .ok (v,r2)=>if (v == 5)=true then (match Zar 1 r2 with
   | .error c=>.error c
   | .ok (m,r3)=>if Zgk m (Zk (ZcN m) 3) (Zk m 4 != 0) (Zk m 32 != 0)=true then ZeD q m r3 else .error 129)
   else .error 132)
  else .error 132
structure Is (P:List AVal) (q:Zl):Prop where
 view:∀ σ,ZaL σ P=some (Zv q,[])
 ok:P.all ZV=true
theorem ZnX {σ:Za} {v y:AVal} {ts:List Nat} (hv:ZN σ v=some (y,ts)):∀ {P ys:List AVal} {k:Nat},ZaL σ P=some (ys,[])->k < P.length->ZaL σ (P.set k v)=some (ys.set k y,ts)
 | [],_,_,_,h=>by simp at h
 | x::P,ys,k,h,hk=>by
  rw [ZaL] at h
  split at h
  ·rename_i y0 t0 h0
   split at h
   ·rename_i ys0 us0 h1
    injection h with h;injection h with h2 h3
    obtain ⟨rfl,rfl⟩:=List.append_eq_nil_iff.1 h3
    subst h2
    cases k with
    | zero =>
     rw [List.set_cons_zero,ZaL,hv]
     simp only [h1,List.append_nil]
     rfl
    | succ k =>
     rw [List.set_cons_succ,ZaL,h0]
     simp only [ZnX hv h1 (by simpa using hk)]
     rfl
   ·cases h
  ·cases h
theorem Zn1 {v:AVal} (hv:ZV v=true):∀ {P:List AVal} {k:Nat},P.all ZV=true->(P.set k v).all ZV=true
 | [],_,_=>rfl
 | x::P,0,h=>by
  simp only [List.set_cons_zero,List.all_cons,Bool.and_eq_true] at h ⊢
  exact ⟨hv,h.2⟩
 | x::P,k+1,h=>by
  simp only [List.set_cons_succ,List.all_cons,Bool.and_eq_true] at h ⊢
  exact ⟨h.1,Zn1 hv h.2⟩
theorem Is.set {P:List AVal} {q q':Zl} (h:Is P q) {k:Nat} {v y:AVal} (hk:k < P.length) (hv:∀ σ,ZN σ v=some (y,[])) (ho:ZV v=true) (hc:(Zv q).set k y=Zv q'):Is (P.set k v) q' :=
 ⟨fun σ=>by rw [ZnX (hv σ) (h.view σ) hk,hc],Zn1 ho h.ok⟩
section
variable {P:List AVal} {q:Zl} (hP:P.length=26) (h:Is P q)
include hP h
theorem ZMy (m:Int):Is (ZbF P m) (ZbL q m):=by
 unfold ZbF
 have h1:=h.set (k:=12) (q':={ q with clean:=Zk m 2 != 0 }) (v:=.bool (Zk m 2 != 0)) (by omega) (fun _=>rfl) rfl rfl
 have h2:=h1.set (k:=15) (q':={ q with clean:=Zk m 2 != 0,hasWill:=Zk m 4 != 0 }) (v:=.bool (Zk m 4 != 0)) (by simp [hP]) (fun _=>rfl) rfl rfl
 have h3:=h2.set (k:=23) (q':={ q with clean:=Zk m 2 != 0,hasWill:=Zk m 4 != 0,hasPassword:=Zk m 64 != 0 }) (v:=.bool (Zk m 64 != 0)) (by simp [hP]) (fun _=>rfl) rfl rfl
 have h4:=h3.set (k:=21) (q':={ q with clean:=Zk m 2 != 0,hasWill:=Zk m 4 != 0,hasPassword:=Zk m 64 != 0,hasUser:=Zk m 128 != 0 }) (v:=.bool (Zk m 128 != 0)) (by simp [hP]) (fun _=>rfl) rfl rfl
 have h5:=h4.set (k:=18) (q':={ q with clean:=Zk m 2 != 0,hasWill:=Zk m 4 != 0,hasPassword:=Zk m 64 != 0,hasUser:=Zk m 128 != 0,will:={ q.will with qos:=Zk (ZcN m) 3 } }) (v:=.int .i64 (Zk (ZcN m) 3)) (by simp [hP]) (fun _=>rfl) rfl rfl
 exact h5.set (k:=19) (v:=.bool (Zk m 32 != 0)) (by simp [hP]) (fun _=>rfl) rfl rfl
theorem ZxZ (k:Int) (ps:List Zp) (cl:Zb):Is (ZiM P k ps cl) (headD q k ps cl):=by
 unfold ZiM
 have h1:=h.set (k:=13) (q':={ q with keep:=k }) (v:=.int .i64 k) (by omega) (fun _=>rfl) rfl rfl
 have h2:=h1.set (k:=9) (q':={ q with keep:=k,props:=ps }) (v:=.lst false (ps.map Zn)) (by simp [hP]) (fun _=>rfl) rfl rfl
 exact h2.set (k:=14) (v:=.str cl) (by simp [hP]) (fun _=>rfl) rfl rfl
theorem ZKL (ps:List Zp) (tp d:Zb):Is (Zh1 P ps tp d) { q with will:={ q.will with props:=ps,topic:=tp,data:=d } }:=by
 unfold Zh1
 have h1:=h.set (k:=20) (q':={ q with will:={ q.will with props:=ps } }) (v:=.lst false (ps.map Zn)) (by omega) (fun _=>rfl) rfl rfl
 have h2:=h1.set (k:=16) (q':={ q with will:={ q.will with props:=ps,topic:=tp } }) (v:=.str tp) (by simp [hP]) (fun _=>rfl) rfl rfl
 exact h2.set (k:=17) (v:=.lst false (d.map Zc)) (by simp [hP]) (fun _=>rfl) rfl rfl
end
def Zh4 (x:Except Int KSt) (y:Except Int (Zl×Zb)):Prop:=match x with
 | .error e=>y=.error e
 | .ok (P,l)=>∃ q,y=.ok (q,l)/\P.length=26/\Is P q
section
variable {P:List AVal} {q:Zl} (hP:P.length=26) (h:Is P q) (l:Zb)
include hP h
theorem ZFM (b:Bool):Zh4 (Zhu b (P,l)) (ZdO b q l):=by
 unfold Zhu ZdO
 cases b
 ·exact ⟨q,rfl,hP,h⟩
 ·rw [if_pos rfl,if_pos rfl]
  cases hd:Zcu l with
  | error c=>exact rfl
  | ok a=>exact ⟨_,rfl,by simp [hP],h.set (by omega) (fun _=>rfl) rfl rfl⟩
theorem ZMp (b:Bool):Zh4 (ZhQ b (P,l)) (Zds b q l):=by
 unfold ZhQ Zds
 cases b
 ·exact ⟨q,rfl,hP,h⟩
 ·rw [if_pos rfl,if_pos rfl]
  cases hd:Zal l with
  | error c=>exact rfl
  | ok a=>exact ⟨_,rfl,by simp [hP],h.set (by omega) (fun _=>rfl) rfl rfl⟩
theorem ZJQ (b:Bool):Zh4 (ZiV b (P,l)) (Zdn b q l):=by
 unfold ZiV Zdn
 cases b
 ·exact ⟨q,rfl,hP,h⟩
 ·rw [if_pos rfl,if_pos rfl]
  cases hd:ZcS l with
  | error c=>exact rfl
  | ok a =>
   obtain ⟨ps,tp,d,r⟩:=a
   exact ⟨_,rfl,by simp [Zh1,hP],ZKL hP h ps tp d⟩
theorem ZwG (m:Int):Zh4 (Zix m (P,l)) (Ze6 m q l):=by
 unfold Zix Ze6
 have h1:=ZJQ hP h l (Zk m 4 != 0)
 cases hw:ZiV (Zk m 4 != 0) (P,l) with
 | error e =>
  rw [hw] at h1
  rw [show Zdn (Zk m 4 != 0) q l=.error e from h1]
  exact rfl
 | ok s =>
  obtain ⟨P1,l1⟩:=s
  rw [hw] at h1
  obtain ⟨q1,e1,hP1,i1⟩:=h1
  rw [e1]
  simp only
  have h2:=ZMp hP1 i1 l1 (Zk m 128 != 0)
  cases hu:ZhQ (Zk m 128 != 0) (P1,l1) with
  | error e =>
   rw [hu] at h2
   rw [show Zds (Zk m 128 != 0) q1 l1=.error e from h2]
   exact rfl
  | ok s =>
   obtain ⟨P2,l2⟩:=s
   rw [hu] at h2
   obtain ⟨q2,e2,hP2,i2⟩:=h2
   rw [e2]
   exact ZFM hP2 i2 l2 _
theorem ZIX (m:Int):Zh4 (ZjC P m l) (ZeD q m l):=by
 unfold ZjC ZeD
 cases h1:Zar 2 l with
 | error c=>exact rfl
 | ok a =>
 obtain ⟨k,r4⟩:=a
 simp only
 cases h2:Zbw 1 r4 with
 | error c=>exact rfl
 | ok a =>
 obtain ⟨ps,r5⟩:=a
 simp only
 cases h3:Zal r5 with
 | error c=>exact rfl
 | ok a =>
 obtain ⟨cl,r6⟩:=a
 exact ZwG (by simp [ZiM,ZbF,hP]) (ZxZ (by simp [ZbF,hP]) (ZMy hP h m) k ps cl) r6 m
theorem ZIm:Zh4 (Zih P l) (ZcG q l):=by
 unfold Zih ZcG
 cases h1:Zal l with
 | error c=>exact rfl
 | ok a =>
 obtain ⟨s,r1⟩:=a
 simp only
 split
 case isFalse=>exact rfl
 cases h2:Zar 1 r1 with
 | error c=>exact rfl
 | ok a =>
 obtain ⟨v,r2⟩:=a
 simp only
 split
 case isFalse=>exact rfl
 cases h3:Zar 1 r2 with
 | error c=>exact rfl
 | ok a =>
 obtain ⟨m,r3⟩:=a
 simp only
 split
 case isFalse=>exact rfl
 exact ZIX hP h r3 m
end
def Zb4 (x:Except Int (Zl×Zb)):Except Int Zl:=match x with
 | .error e=>.error e
 | .ok (q,r)=>if r.length=0 then .ok q else .error 129
def Zb0 (q:Zl) (l:Zb):Except Int (Zl×Zb):=match ZbW q.type l with
 | .error e=>.error e
 | .ok ((c,ps),r)=>.ok ({ q with code:=c,props:=ps.getD [] },r)
def idQ (q:Zl) (l:Zb):Except Int (Zl×Zb):=match idK l with
 | .error e=>.error e
 | .ok (n,r)=>Zb0 { q with id:=n } r
def Zdf (q:Zl) (l:Zb):Except Int (Zl×Zb):=match Zar 1 l with
 | .error e=>.error e
 | .ok (f,r)=>if f < 2 then (match Zat 2 r with
  | .error e=>.error e
  | .ok (c,r2)=>match Zbw 2 r2 with
   | .error e=>.error e
   | .ok (ps,r3)=>.ok ({ q with present:=f == 1,code:=c,props:=ps },r3)) else .error 129
def Zfh (q:Zl) (l:Zb):Except Int Zl:=match Zbl Zbf 8 l with
 | .error e=>.error e
 | .ok (n,ps,ts)=>.ok { q with id:=n,props:=ps,subs:=ts }
def Zfa (q:Zl) (l:Zb):Except Int Zl:=match Zbl Zal 10 l with
 | .error e=>.error e
 | .ok (n,ps,ts)=>.ok { q with id:=n,props:=ps,filters:=ts }
def Zej (q:Zl) (l:Zb):Except Int Zl:=match Zbl (Zat q.type) q.type l with
 | .error e=>.error e
 | .ok (n,ps,ts)=>.ok { q with id:=n,props:=ps,codes:=ts }
def ZbQ (t:Int) (l:Zb):Except Int Zl :=
 if t=1 then Zb4 (ZcG { ZT with type:=1 } l)
 else if t=2 then Zb4 (Zdf { ZT with type:=2 } l)
 else if t=4\/t=5\/t=6\/t=7 then Zb4 (idQ { ZT with type:=t } l)
 else if t=8 then Zfh { ZT with type:=8 } l
 else if t=10 then Zfa { ZT with type:=10 } l
 else if t=9\/t=11 then Zej { ZT with type:=t } l
 else if t=14\/t=15 then Zb4 (Zb0 { ZT with type:=t } l)
 else Zb4 (.ok ({ ZT with type:=t },l))
def Za6 (b:Int) (l:Zb):Zl×Int :=
 if tyI b=0 then (ZT,129) else if tyI b=3 then Zdw b l
 else if ZaU b 15=Zc2 (tyI b) then (match ZbQ (tyI b) l with
  | .error e=>(ZT,e)
  | .ok q=>(q,0)) else (ZT,129)
def ZdW (t : Int) (l : Zb) (x : Except Int Zl) : Prop := match x with
  | .ok q => (∃ Q L, Q.length = 26 /\ Zd Q = true /\ ZJ L = true /\ Is Q q /\ E 77 [.ref 0 0] (Zg (P0.set 0 (.int .i64 t)) l) = some (.tup [], [.var (Q ++ [L])])) \/
      (∃ Q q0 kk w ys, Q.length = 26 /\ Zd Q = true /\ kk < 26 /\ Is Q q0 /\ (Zv q0).set kk (.lst false ys) = Zv q /\ E 77 [.ref 0 0] (Zg (P0.set 0 (.int .i64 t)) l) = some (.tup [], Zcm Q kk ys.length [] w ys))
  | .error e => (∃ cs, Zd cs = true /\ E 77 [.ref 0 0] (Zg (P0.set 0 (.int .i64 t)) l) = some (.pan (Zy e), [.var cs])) \/
      (∃ Q kk n r w ys, Q.length = 26 /\ Zd Q = true /\ kk < 26 /\ E 77 [.ref 0 0] (Zg (P0.set 0 (.int .i64 t)) l) = some (.pan (Zy e), Zcm Q kk n r w ys))
theorem Zi5 {t:Int} {l:Zb} {q:Zl} {Q:List AVal} {r:Zb} (hQ:Q.length=26) (hN:Zd Q=true) (hi:Is Q q) (h:E 77 [.ref 0 0] (Zg (P0.set 0 (.int .i64 t)) l)=some (if r.length=0 then .tup [] else .pan (Zy 129),Zg Q r)):ZdW t l (Zb4 (.ok (q,r))):=by
 unfold Zb4
 simp only
 split at h
 ·rename_i h0
  rw [if_pos h0]
  exact Or.inl ⟨Q,_,hQ,hN,rfl,hi,h⟩
 ·rename_i h0
  rw [if_neg h0]
  exact Or.inl ⟨_,Zx Q hQ hN _ _,h⟩
theorem ZjI {t:Int} {l:Zb} {kk w:Nat} {e:Int} (hk:kk < 26) (h:ZiQ kk w l (P0.set 0 (.int .i64 t)) e):ZdW t l (.error e):=by
 rcases h with ⟨cs,h1,h2⟩ | ⟨Q,n,r,ys,h1,h2,h3⟩
 ·exact Or.inl ⟨cs,h1,h2⟩
 ·exact Or.inr ⟨Q,kk,n,r,w,ys,h1,h2,hk,h3⟩
section
variable (l:Zb) (hl:l.length<=1099511627775)
include hl
theorem hlP:l.length<=140737488355328:=by omega
theorem ZNc:ZdW 1 l (Zb4 (ZcG { ZT with type:=1 } l)):=by
 have hs:=ZIm (P:=P0.set 0 (.int .i64 1)) (q:={ ZT with type:=1 }) rfl ⟨fun σ=>rfl,rfl⟩ l
 have hr:=ZB6 (P0.set 0 (.int .i64 1)) rfl (by rfl) l (hlP l hl) (fun r _=>Zdm 1 r) (fun r _=>Zdm 16 r)
 cases hc:Zih (P0.set 0 (.int .i64 1)) l with
 | error e =>
  rw [hc] at hs hr
  rw [show ZcG { ZT with type:=1 } l=.error e from hs]
  obtain ⟨cs,hn,he⟩:=KRuns.fnF (f:=114) (fn:=ZnV) (by rfl) Zu1 hr
  exact Or.inl ⟨cs,hn,ZzE (P0.set 0 (.int .i64 1)) rfl (by rfl) rfl l (hlP l hl) hn he⟩
 | ok s =>
  obtain ⟨Q,r⟩:=s
  rw [hc] at hs hr
  obtain ⟨q,e1,hQ,hi⟩:=hs
  rw [e1]
  have hQN:Zd Q=true:=by obtain ⟨_,_,_,h3,_⟩:=hr;exact h3
  have he:=KRuns.fnT (f:=114) (fn:=ZnV) (by rfl) Zu1 rfl hr
  refine Zi5 hQ hQN hi ?_
  by_cases h0:r.length=0
  ·rw [if_pos h0];exact ZJW (P0.set 0 (.int .i64 1)) rfl (by rfl) rfl l (hlP l hl) he hQ hQN h0
  ·rw [if_neg h0];exact ZAf (P0.set 0 (.int .i64 1)) rfl (by rfl) rfl l (hlP l hl) he hQ hQN h0
theorem ZE5:ZdW 2 l (Zb4 (Zdf { ZT with type:=2 } l)):=by
 have hP:(P0.set 0 (.int .i64 2)).length=26:=rfl
 have hN:Zd (P0.set 0 (.int .i64 2))=true:=by rfl
 unfold Zdf
 cases h1:Zar 1 l with
 | error e=>exact Or.inl (ZHE _ hP hN rfl l (hlP l hl) h1)
 | ok a =>
 obtain ⟨f,r⟩:=a
 simp only
 split
 case isFalse hf=>exact Or.inl (ZIn _ hP hN rfl l (hlP l hl) h1 hf)
 rename_i hf
 cases h2:Zat 2 r with
 | error e=>exact Or.inl (Zwj _ hP hN rfl l (hlP l hl) h1 hf h2)
 | ok a =>
 obtain ⟨c,r2⟩:=a
 simp only
 cases h3:Zbw 2 r2 with
 | error e=>exact Or.inl (ZLt _ hP hN rfl l (hlP l hl) h1 hf h2 h3)
 | ok a =>
 obtain ⟨ps,r3⟩:=a
 exact Zi5 (by simp [hP]) (ZP (Zcd _ _) _ (ZP rfl _ (ZP rfl _ hN))) ⟨fun σ=>rfl,rfl⟩ (ZI4 _ hP hN rfl l (hlP l hl) h1 hf h2 h3 (Zdm 2 r2))
theorem Zt7 {P:List AVal} {q:Zl} (hP:P.length=26) (h:Is P q) (c:Int) (ps:Option (List Zp)):Is (ZdG P c ps) { q with code:=c,props:=ps.getD [] }:=by
 unfold ZdG
 have h1:=h.set (k:=7) (q':={ q with code:=c }) (v:=.int .i64 c) (by omega) (fun _=>rfl) rfl rfl
 cases ps with
 | none=>exact h1.set (k:=9) (v:=.lst true []) (by simp [hP]) (fun _=>rfl) rfl rfl
 | some ps=>exact h1.set (k:=9) (v:=.lst false (ps.map Zn)) (by simp [hP]) (fun _=>rfl) rfl rfl
theorem ZuJ (k:Int) (hk:k=14\/k=15):ZdW k l (Zb4 (Zb0 { ZT with type:=k } l)):=by
 have hP:(P0.set 0 (.int .i64 k)).length=26:=rfl
 have hN:Zd (P0.set 0 (.int .i64 k))=true:=by rfl
 unfold Zb0
 simp only
 cases h1:ZbW k l with
 | error e=>exact Or.inl (ZN0 _ hP hN k hk rfl (fun r _=>Zdm k r) l (hlP l hl) h1)
 | ok a =>
 obtain ⟨⟨c,ps⟩,r⟩:=a
 obtain ⟨i1,i2⟩:=Zll hP hN c ps
 exact Zi5 i1 i2 (Zt7 l hl (q:={ ZT with type:=k }) hP ⟨fun σ=>rfl,rfl⟩ c ps) (ZGu _ hP hN k hk rfl rfl rfl (fun r _=>Zdm k r) l (hlP l hl) h1)
theorem Zle (k:Int) (hk:k=4\/k=5\/k=6\/k=7):ZdW k l (Zb4 (idQ { ZT with type:=k } l)):=by
 have hP:(P0.set 0 (.int .i64 k)).length=26:=rfl
 have hN:Zd (P0.set 0 (.int .i64 k))=true:=by rfl
 unfold idQ Zb0
 simp only
 cases h0:idK l with
 | error e=>exact Or.inl (ZJ4 _ hP hN k hk rfl l (hlP l hl) h0)
 | ok a =>
 obtain ⟨n,r1⟩:=a
 simp only
 cases h1:ZbW k r1 with
 | error e=>exact Or.inl (ZJZ _ hP hN k hk rfl (fun r _=>Zdm k r) l (hlP l hl) h0 h1)
 | ok a =>
 obtain ⟨⟨c,ps⟩,r⟩:=a
 obtain ⟨i1,i2⟩:=Zll (P:=(P0.set 0 (.int .i64 k)).set 4 (.int .i64 n)) rfl (by rfl) c ps
 exact Zi5 i1 i2 (Zt7 l hl (q:={ ZT with type:=k,id:=n }) rfl ⟨fun σ=>rfl,rfl⟩ c ps) (ZtH _ hP hN k hk rfl rfl rfl (fun r _=>Zdm k r) l (hlP l hl) h0 h1)
theorem ZsW (k:Int) (hk:k=12\/k=13):ZdW k l (Zb4 (.ok ({ ZT with type:=k },l))) :=
 Zi5 (Q:=P0.set 0 (.int .i64 k)) rfl (by rfl) ⟨fun σ=>rfl,rfl⟩ (ZBT _ rfl (by rfl) k hk rfl l)
theorem ZdV (k:Int):QOk k (P0.set 0 (.int .i64 k)):=⟨rfl,by rfl,rfl,rfl,rfl,rfl⟩
theorem ZkU (k:Int) (n:Int) (ps:List Zp):Is (Zb9 (P0.set 0 (.int .i64 k)) n ps) { ZT with type:=k,id:=n,props:=ps }:=⟨fun σ=>rfl,rfl⟩
theorem ZOt:ZdW 8 l (Zfh { ZT with type:=8 } l):=by
 unfold Zfh
 cases h:Zbl Zbf 8 l with
 | error e=>exact ZjI (by omega) (ZEl _ l hl (ZdV l hl 8) h)
 | ok a =>
 obtain ⟨n,ps,ts⟩:=a
 have hQ:=Zd1 (ZdV l hl 8) n ps
 have:=Zzp _ l hl (ZdV l hl 8) h
 rw [<-List.length_map (f:=ZW)] at this
 exact Or.inr ⟨_,_,10,6,ts.map ZW,hQ.len,hQ.nor,by omega,ZkU l hl 8 n ps,rfl,this⟩
theorem ZFq:ZdW 10 l (Zfa { ZT with type:=10 } l):=by
 unfold Zfa
 cases h:Zbl Zal 10 l with
 | error e=>exact ZjI (by omega) (ZAK _ l hl (ZdV l hl 10) h)
 | ok a =>
 obtain ⟨n,ps,ts⟩:=a
 have hQ:=Zd1 (ZdV l hl 10) n ps
 have:=ZGf _ l hl (ZdV l hl 10) h
 rw [<-List.length_map (f:=AVal.str)] at this
 exact Or.inr ⟨_,_,11,1,ts.map AVal.str,hQ.len,hQ.nor,by omega,ZkU l hl 10 n ps,rfl,this⟩
theorem ZMg:ZdW 9 l (Zej { ZT with type:=9 } l):=by
 unfold Zej
 simp only
 cases h:Zbl (Zat 9) 9 l with
 | error e=>exact ZjI (by omega) (ZLL _ l hl (ZdV l hl 9) h)
 | ok a =>
 obtain ⟨n,ps,ts⟩:=a
 have hQ:=Zd1 (ZdV l hl 9) n ps
 have:=ZK4 _ l hl (ZdV l hl 9) h
 rw [<-List.length_map (f:=AVal.int .i64)] at this
 exact Or.inr ⟨_,_,8,1,ts.map (AVal.int .i64),hQ.len,hQ.nor,by omega,ZkU l hl 9 n ps,rfl,this⟩
theorem ZDr:ZdW 11 l (Zej { ZT with type:=11 } l):=by
 unfold Zej
 simp only
 cases h:Zbl (Zat 11) 11 l with
 | error e=>exact ZjI (by omega) (ZAB _ l hl (ZdV l hl 11) h)
 | ok a =>
 obtain ⟨n,ps,ts⟩:=a
 have hQ:=Zd1 (ZdV l hl 11) n ps
 have:=ZLq _ l hl (ZdV l hl 11) h
 rw [<-List.length_map (f:=AVal.int .i64)] at this
 exact Or.inr ⟨_,_,8,1,ts.map (AVal.int .i64),hQ.len,hQ.nor,by omega,ZkU l hl 11 n ps,rfl,this⟩
theorem ZCq (t:Int) (h1:1<=t/\t<=15) (h3:t≠3):ZdW t l (ZbQ t l):=by
 have : t=1\/t=2\/t=4\/t=5\/t=6\/t=7\/t=8\/t=9\/t=10\/t=11\/t=12\/t=13\/t=14\/t=15:=by omega
 unfold ZbQ
 rcases this with rfl | rfl | rfl | rfl | rfl | rfl | rfl | rfl | rfl | rfl | rfl | rfl | rfl | rfl
 ·exact ZNc l hl
 ·exact ZE5 l hl
 ·exact Zle l hl 4 (by decide)
 ·exact Zle l hl 5 (by decide)
 ·exact Zle l hl 6 (by decide)
 ·exact Zle l hl 7 (by decide)
 ·exact ZOt l hl
 ·exact ZMg l hl
 ·exact ZFq l hl
 ·exact ZDr l hl
 ·exact ZsW l hl 12 (by decide)
 ·exact ZsW l hl 13 (by decide)
 ·exact ZuJ l hl 14 (by decide)
 ·exact ZuJ l hl 15 (by decide)
end
theorem Zrn (b:Int) (hb:0<=b/\b < 256):0<=tyI b/\tyI b<=15:=by
 have h:∀ n:Nat,n < 256->0<=tyI (n:Int)/\tyI (n:Int)<=15:=by decide +kernel
 have:=h b.toNat (by omega)
 rwa [Int.toNat_of_nonneg hb.1] at this
theorem Zm1 {b c:Int} {l:Zb} {Q:List AVal} {q:Zl} (h:E1 32 [.agg [.int .u8 b,.lst false (l.map Zc)]] []=some (.tup [.agg Q,.int .i64 c],[])) (hv:∀ σ,ZaL σ Q=some (Zv q,[])):Zaf true 0 (E1 32 [.agg [.int .u8 b,.lst false (l.map Zc)]] [])=some (.tup [Z4 q,.int .i64 c],[]):=by
 rw [h];exact Zvr c hv
theorem ZIU (b:Int) (hb:0<=b/\b < 256) (l:Zb) (hl:l.length<=1099511627775):Zaf true 0 (E1 32 [.agg [.int .u8 b,.lst false (l.map Zc)]] [])=some (.tup [Z4 (Za6 b l).1,.int .i64 (Za6 b l).2],[]):=by
 have hr:=Zrn b hb
 have hF:∀ c,Zez [.agg [.int .u8 b,.lst false (l.map Zc)]] []=some (.tup [.agg P0,.int .i64 c],[])->Zaf true 0 (E1 32 [.agg [.int .u8 b,.lst false (l.map Zc)]] [])=some (.tup [Z4 ZT,.int .i64 c],[]):=fun c h =>
  Zm1 (by rw [Zgo];exact h) Zk8
 unfold Za6
 by_cases h0:tyI b=0
 ·rw [if_pos h0]
  exact hF 129 (ZgP b 129 l (Zlb b l (Zx _ rfl (by rfl) _ _) (ZPk P0 rfl (by rfl) b l h0)))
 rw [if_neg h0]
 by_cases h3:tyI b=3
 ·rw [if_pos h3]
  obtain ⟨Q,h,hv⟩:=Zt5 b h3 l (by omega)
  exact Zm1 h hv
 rw [if_neg h3]
 by_cases hf:ZaU b 15=Zc2 (tyI b)
 case neg =>
  rw [if_neg hf]
  exact hF 129 (ZgP b 129 l (Zlb b l (Zx _ rfl (by rfl) _ _) (ZHQ P0 rfl (by rfl) b (tyI b) l rfl h0 h3 hf)))
 rw [if_pos hf]
 have hfi:=ZvR P0 rfl (by rfl) b (tyI b) l rfl h0 h3 hf
 have hB:=ZCq l hl (tyI b) (by omega) h3
 generalize tyI b=t at *
 have p1:(P0.set 0 (.int .i64 t)).length=26:=rfl
 have p2:Zd (P0.set 0 (.int .i64 t))=true:=by rfl
 cases hx:ZbQ t l with
 | error e =>
  rw [hx] at hB
  rcases hB with ⟨cs,hn,hb⟩ | ⟨Q,kk,n,r,w,ys,hQ,hN,hk,hb⟩
  ·exact hF e (ZgP b e l (Zv3 b l p1 p2 hn hfi hb))
  ·exact hF e (ZgP b e l (ZF6 b l p1 p2 hQ hN hk hfi hb))
 | ok q =>
  rw [hx] at hB
  rcases hB with ⟨Q,L,hQ,hN,nL,hi,hb⟩ | ⟨Q,q0,kk,w,ys,hQ,hN,hk,hi,hc,hb⟩
  ·exact Zm1 (by rw [Zgo];exact Zpw b l p1 p2 hQ hN hi.ok nL hfi hb) hi.view
  ·refine ZBZ (by rw [Zgo];exact ZIy b l p1 p2 hQ hN hk (fun r g m=>Zn1 rfl hi.ok) hfi hb) (fun σ hs=>?_)
   have hv:ZN σ (.sl 0 0 0 ys.length)=some (.lst false ys,[0]):=by
    simp [ZN,Z0,hs]
   unfold Zi
   rw [ZnX hv (hi.view σ) (by omega),hc]
theorem Zi3 (b:Int) (hb:0<=b/\b < 256) (l:Zb) (hl:l.length<=1099511627775) (f:Bool) (σ:Za) (sq own:Nat) :
  Zj E1 BY σ sq 32 own true [.agg [.int .u8 b,.lst f (l.map Zc)]]=some (.tup [Z4 (Za6 b l).1,.int .i64 (Za6 b l).2],σ,{}):=by
 rw [Zgz (by kernel_rfl) rfl]
 show ZaE σ σ [] [] sq own (Zaf true 0 (E1 32 [.agg [.int .u8 b,.lst false (l.map Zc)]] []))=_
 rw [ZIU b hb l hl,Zjx _ _ _ _ (by simp only [Zm,Zf,Zbt,Zk2])]
end
section
def ZgC:Zb:=[77,81,84,84]
theorem Ziq (q:Int):0<=Zk q 3/\Zk q 3<=3:=by
 have h:∀ x:BitVec 64,(x &&& BitVec.ofInt 64 3).toNat<=3:=by
  intro x
  rw [BitVec.toNat_and]
  exact Nat.and_le_right
 have h2:=h (BitVec.ofInt 64 q)
 unfold Zk
 have h3:IntKind.i64.bits=64:=rfl
 rw [h3,ZbX (by omega) (by omega)]
 omega
def ZhD (p:Zl):Int:=ZQ p.clean 2+ZQ p.hasWill 4+Zk p.will.qos 3*8+ZQ p.will.retain 32+ZQ p.hasPassword 64+ZQ p.hasUser 128
theorem Zep (b:Bool) (n:Int) (h:0<=n):0<=ZQ b n/\ZQ b n<=n:=by unfold ZQ;split <;> omega
theorem ZcH (n:Int) (h0:0<=n) (h1:n < 9223372036854775808):IntKind.i64.wrap n=n:=by
 obtain ⟨m,rfl⟩:∃ m:Nat,n=m:=⟨n.toNat,by omega⟩
 exact ZbX (by omega) (by omega)
def Zc3 (p:Zl):Zb:=((((Zad ZgC).1++beB (ZD 5) 1)++beB (ZD (ZhD p)) 1)++beB (ZD p.keep) 2)++(Zbc 1 p.props).1++(Zad p.client).1
def ZdY (p:Zl):Zb:=if p.hasWill then ((Zc3 p++(Zbc 16 p.will.props).1)++(Zad p.will.topic).1)++(Zbv p.will.data).1 else Zc3 p
def ZdS (p:Zl):Zb:=if p.hasUser then ZdY p++(Zad p.user).1 else ZdY p
def Zci (p:Zl):Zb:=if p.hasPassword then ZdS p++(Zbv p.password).1 else ZdS p
section
variable (p:Zl) (h:OkW p)
include h
theorem Zwx:E1 126 [.ref 0 0,Z4 p] [.var wn]=some (.tup [],wH 0 (Zci p)):=by
 have hq:=Ziq p.will.qos
 have m1:=Zep p.clean 2 (by omega)
 have m2:=Zep p.hasWill 4 (by omega)
 have m3:=Zep p.will.retain 32 (by omega)
 have m4:=Zep p.hasPassword 64 (by omega)
 have m5:=Zep p.hasUser 128 (by omega)
 have hm:=fun b n σ sq own=>Zi2 b n σ sq own
 have w1:=ZcH (ZQ p.clean 2+ZQ p.hasWill 4) (by omega) (by omega)
 have w2:=ZcH (Zk p.will.qos 3*8) (by omega) (by omega)
 have w3:=ZcH (ZQ p.clean 2+ZQ p.hasWill 4+Zk p.will.qos 3*8) (by omega) (by omega)
 have w4:=ZcH (ZQ p.clean 2+ZQ p.hasWill 4+Zk p.will.qos 3*8+ZQ p.will.retain 32) (by omega) (by omega)
 have w5:=ZcH (ZQ p.clean 2+ZQ p.hasWill 4+Zk p.will.qos 3*8+ZQ p.will.retain 32+ZQ p.hasPassword 64) (by omega) (by omega)
 have w6:=ZcH (ZQ p.clean 2+ZQ p.hasWill 4+Zk p.will.qos 3*8+ZQ p.will.retain 32+ZQ p.hasPassword 64+ZQ p.hasUser 128) (by omega) (by omega)
 have lim:=ZeG
 have t0:=ZcY ZgC
 have t1:=ZcY p.client
 have t2:=ZcY p.will.topic
 have t3:=ZcY p.user
 have d1:=ZiU p.will.data
 have d2:=ZiU p.password
 have y1:=Zdz 1 p.props
 have y2:=Zdz 16 p.will.props
 have f0:=fun {σ:Za} {t sq:Nat}=>Zq6 ZgC (by decide) (σ:=σ) (t:=t) (sq:=sq)
 unfold Zci ZdS ZdY Zc3 ZhD
 have n1:=Za2 1 (ZD 5)
 generalize (Zad ZgC).1=l0 at *
 have f1:=fun {σ:Za} {sq:Nat}=>ZfC l0 5 1 (by omega) (by omega) (m:=1) rfl (by omega) (σ:=σ) 0 2 0 (sq:=sq) (by omega)
 generalize beB (ZD 5) 1=D1 at *
 obtain ⟨l1,e1⟩:∃ l1,l0++D1=l1:=⟨_,rfl⟩
 have k1:l1.length=l0.length+D1.length:=by rw [<-e1,List.length_append]
 simp only [e1] at f1 ⊢
 have n2:=Za2 1 (ZD (ZQ p.clean 2+ZQ p.hasWill 4+Zk p.will.qos 3*8+ZQ p.will.retain 32+ZQ p.hasPassword 64+ZQ p.hasUser 128))
 have f2:=fun {σ:Za} {sq:Nat}=>ZfC l1 (ZQ p.clean 2+ZQ p.hasWill 4+Zk p.will.qos 3*8+ZQ p.will.retain 32+ZQ p.hasPassword 64+ZQ p.hasUser 128) 1 (by omega) (by omega) (m:=1) rfl (by omega) (σ:=σ) 0 2 1 (sq:=sq) (by omega)
 generalize beB (ZD (ZQ p.clean 2+ZQ p.hasWill 4+Zk p.will.qos 3*8+ZQ p.will.retain 32+ZQ p.hasPassword 64+ZQ p.hasUser 128)) 1=D2 at *
 obtain ⟨l2,e2⟩:∃ l2,l1++D2=l2:=⟨_,rfl⟩
 have k2:l2.length=l1.length+D2.length:=by rw [<-e2,List.length_append]
 simp only [e2] at f2 ⊢
 have n3:=Za2 2 (ZD p.keep)
 have f3:=fun {σ:Za} {sq:Nat}=>ZfC l2 p.keep 2 (by omega) (by omega) (m:=2) rfl (by omega) (σ:=σ) 0 2 2 (sq:=sq) (by omega)
 generalize beB (ZD p.keep) 2=D3 at *
 obtain ⟨l3,e3⟩:∃ l3,l2++D3=l3:=⟨_,rfl⟩
 have k3:l3.length=l2.length+D3.length:=by rw [<-e3,List.length_append]
 simp only [e3] at f3 ⊢
 have f4:=fun {σ:Za} {sq:Nat}=>ZgZ l3 1 p.props h.props.1 h.props.2 (by omega) (σ:=σ) 0 2 3 (sq:=sq) (by omega)
 generalize (Zbc 1 p.props).1=D4 at *
 obtain ⟨l4,e4⟩:∃ l4,l3++D4=l4:=⟨_,rfl⟩
 have k4:l4.length=l3.length+D4.length:=by rw [<-e4,List.length_append]
 simp only [e4] at f4 ⊢
 have f5:=fun {σ:Za} {sq:Nat}=>ZiS l4 p.client h.client (by omega) (σ:=σ) 0 2 4 (sq:=sq) (by omega)
 generalize (Zad p.client).1=D5 at *
 obtain ⟨l5,e5⟩:∃ l5,l4++D5=l5:=⟨_,rfl⟩
 have k5:l5.length=l4.length+D5.length:=by rw [<-e5,List.length_append]
 simp only [e5] at f5 ⊢
 have f6:=fun {σ:Za} {sq:Nat}=>ZgZ l5 16 p.will.props h.wprops.1 h.wprops.2 (by omega) (σ:=σ) 0 2 5 (sq:=sq) (by omega)
 generalize (Zbc 16 p.will.props).1=D6 at *
 obtain ⟨l6,e6⟩:∃ l6,l5++D6=l6:=⟨_,rfl⟩
 have k6:l6.length=l5.length+D6.length:=by rw [<-e6,List.length_append]
 simp only [e6] at f6 ⊢
 have f7:=fun {σ:Za} {sq:Nat}=>ZiS l6 p.will.topic h.wtopic (by omega) (σ:=σ) 0 2 6 (sq:=sq) (by omega)
 generalize (Zad p.will.topic).1=D7 at *
 obtain ⟨l7,e7⟩:∃ l7,l6++D7=l7:=⟨_,rfl⟩
 have k7:l7.length=l6.length+D7.length:=by rw [<-e7,List.length_append]
 simp only [e7] at f7 ⊢
 have f8:=fun {σ:Za} {sq:Nat}=>Zth l7 p.will.data h.wdata (by omega) (σ:=σ) 0 2 7 (sq:=sq) (by omega)
 generalize (Zbv p.will.data).1=D8 at *
 obtain ⟨l8,e8⟩:∃ l8,l7++D8=l8:=⟨_,rfl⟩
 have k8:l8.length=l7.length+D8.length:=by rw [<-e8,List.length_append]
 simp only [e8] at f8 ⊢
 have hO:=fun {j g:Nat} {l:Zb} {σ:Za}=>Zeg (j:=j) (g:=g) (l:=l) (σ:=σ)
 rw [Zbt]
 have e0:=ZbZ p
 have a9:(Zv p)[9]?=some (.lst false (p.props.map Zn)):=rfl
 have a12:(Zv p)[12]?=some (.bool p.clean):=rfl
 have a13:(Zv p)[13]?=some (.int .i64 p.keep):=rfl
 have a14:(Zv p)[14]?=some (.str p.client):=rfl
 have a15:(Zv p)[15]?=some (.bool p.hasWill):=rfl
 have a16:(Zv p)[16]?=some (.str p.will.topic):=rfl
 have a17:(Zv p)[17]?=some (.lst false (p.will.data.map Zc)):=rfl
 have a18:(Zv p)[18]?=some (.int .i64 p.will.qos):=rfl
 have a19:(Zv p)[19]?=some (.bool p.will.retain):=rfl
 have a20:(Zv p)[20]?=some (.lst false (p.will.props.map Zn)):=rfl
 have a21:(Zv p)[21]?=some (.bool p.hasUser):=rfl
 have a22:(Zv p)[22]?=some (.str p.user):=rfl
 have a23:(Zv p)[23]?=some (.bool p.hasPassword):=rfl
 have a24:(Zv p)[24]?=some (.lst false (p.password.map Zc)):=rfl
 have b5:=h.user
 have b6:=h.password
 clear h
 generalize Zv p=P at *
 generalize p.will.qos=wq at *
 generalize p.will.retain=wr at *
 generalize p.will.topic=wt at *
 generalize p.will.data=wd at *
 generalize p.will.props=wp at *
 generalize p.clean=cl at *
 generalize p.keep=kp at *
 generalize p.client=ci at *
 generalize p.props=ps at *
 generalize p.hasWill=hw at *
 generalize p.hasUser=hu at *
 generalize p.hasPassword=hp at *
 generalize p.user=us at *
 generalize p.password=pw at *
 unfold Zk ZgC at *
 rw [Zbs (by rfl) ZGz]
 have fu:=fun (l:Zb) (g:Nat) (hl:l.length<=1000000000) {σ:Za} {sq:Nat}=>ZiS l us b5 (by omega) (σ:=σ) 0 2 g (sq:=sq) (by omega)
 have fp:=fun (l:Zb) (g:Nat) (hl:l.length<=1000000000) {σ:Za} {sq:Nat}=>Zth l pw b6 (by omega) (σ:=σ) 0 2 g (sq:=sq) (by omega)
 generalize (Zad us).1=Du at *
 generalize (Zbv pw).1=Dp at *
 cases hw <;> cases hu <;> cases hp
 ·simp only [Bool.false_eq_true,if_false]
  unfold wn at *
  simp -implicitDefEqProofs only [EQA,Zu,Nat.reduceAdd,Nat.reduceLT,Nat.reduceEqDiff,Nat.reduceBEq,reduceCtorEq,↓reduceIte,Zd,ZfZ,Ze1,Zgf,oI,AVal.cells,a9,a12,a13,a14,a15,a18,a19,a21,a23,hm,w1,w2,w3,w4,w5,w6,f0,f1,f2,f3,f4,f5,Zag,Zai,Zaj,Zau,Zax,Zam,List.lookup_nil]
  exact hO (j:=2) (by decide) rfl rfl
 ·have g1:=fun {σ:Za} {sq:Nat}=>fp l5 5 (by omega) (σ:=σ) (sq:=sq)
  simp only [Bool.false_eq_true,if_false,if_true]
  unfold wn at *
  simp -implicitDefEqProofs only [EQA,Zu,Nat.reduceAdd,Nat.reduceLT,Nat.reduceEqDiff,Nat.reduceBEq,reduceCtorEq,↓reduceIte,Zd,ZfZ,Ze1,Zgf,oI,AVal.cells,a9,a12,a13,a14,a15,a18,a19,a21,a23,a24,hm,w1,w2,w3,w4,w5,w6,f0,f1,f2,f3,f4,f5,g1,Zag,Zai,Zaj,Zau,Zax,Zam,List.lookup_nil]
  exact hO (j:=2) (by decide) rfl rfl
 ·have g1:=fun {σ:Za} {sq:Nat}=>fu l5 5 (by omega) (σ:=σ) (sq:=sq)
  simp only [Bool.false_eq_true,if_false,if_true]
  unfold wn at *
  simp -implicitDefEqProofs only [EQA,Zu,Nat.reduceAdd,Nat.reduceLT,Nat.reduceEqDiff,Nat.reduceBEq,reduceCtorEq,↓reduceIte,Zd,ZfZ,Ze1,Zgf,oI,AVal.cells,a9,a12,a13,a14,a15,a18,a19,a21,a22,a23,hm,w1,w2,w3,w4,w5,w6,f0,f1,f2,f3,f4,f5,g1,Zag,Zai,Zaj,Zau,Zax,Zam,List.lookup_nil]
  exact hO (j:=2) (by decide) rfl rfl
 ·have g1:=fun {σ:Za} {sq:Nat}=>fu l5 5 (by omega) (σ:=σ) (sq:=sq)
  have g2:=fun {σ:Za} {sq:Nat}=>fp (l5++Du) 6 (by rw [List.length_append];omega) (σ:=σ) (sq:=sq)
  simp only [Bool.false_eq_true,if_false,if_true]
  unfold wn at *
  simp -implicitDefEqProofs only [EQA,Zu,Nat.reduceAdd,Nat.reduceLT,Nat.reduceEqDiff,Nat.reduceBEq,reduceCtorEq,↓reduceIte,Zd,ZfZ,Ze1,Zgf,oI,AVal.cells,a9,a12,a13,a14,a15,a18,a19,a21,a22,a23,a24,hm,w1,w2,w3,w4,w5,w6,f0,f1,f2,f3,f4,f5,g1,g2,Zag,Zai,Zaj,Zau,Zax,Zam,List.lookup_nil]
  exact hO (j:=2) (by decide) rfl rfl
 ·simp only [Bool.false_eq_true,if_false,if_true]
  unfold wn at *
  simp -implicitDefEqProofs only [EQA,Zu,Nat.reduceAdd,Nat.reduceLT,Nat.reduceEqDiff,Nat.reduceBEq,reduceCtorEq,↓reduceIte,Zd,ZfZ,Ze1,Zgf,oI,AVal.cells,a9,a12,a13,a14,a15,a16,a17,a18,a19,a20,a21,a23,hm,w1,w2,w3,w4,w5,w6,f0,f1,f2,f3,f4,f5,f6,f7,f8,Zag,Zai,Zaj,Zau,Zax,Zam,List.lookup_nil]
  exact hO (j:=2) (by decide) rfl rfl
 ·have g1:=fun {σ:Za} {sq:Nat}=>fp l8 8 (by omega) (σ:=σ) (sq:=sq)
  simp only [Bool.false_eq_true,if_false,if_true]
  unfold wn at *
  simp -implicitDefEqProofs only [EQA,Zu,Nat.reduceAdd,Nat.reduceLT,Nat.reduceEqDiff,Nat.reduceBEq,reduceCtorEq,↓reduceIte,Zd,ZfZ,Ze1,Zgf,oI,AVal.cells,a9,a12,a13,a14,a15,a16,a17,a18,a19,a20,a21,a23,a24,hm,w1,w2,w3,w4,w5,w6,f0,f1,f2,f3,f4,f5,f6,f7,f8,g1,Zag,Zai,Zaj,Zau,Zax,Zam,List.lookup_nil]
  exact hO (j:=2) (by decide) rfl rfl
 ·have g1:=fun {σ:Za} {sq:Nat}=>fu l8 8 (by omega) (σ:=σ) (sq:=sq)
  simp only [Bool.false_eq_true,if_false,if_true]
  unfold wn at *
  simp -implicitDefEqProofs only [EQA,Zu,Nat.reduceAdd,Nat.reduceLT,Nat.reduceEqDiff,Nat.reduceBEq,reduceCtorEq,↓reduceIte,Zd,ZfZ,Ze1,Zgf,oI,AVal.cells,a9,a12,a13,a14,a15,a16,a17,a18,a19,a20,a21,a22,a23,hm,w1,w2,w3,w4,w5,w6,f0,f1,f2,f3,f4,f5,f6,f7,f8,g1,Zag,Zai,Zaj,Zau,Zax,Zam,List.lookup_nil]
  exact hO (j:=2) (by decide) rfl rfl
 ·have g1:=fun {σ:Za} {sq:Nat}=>fu l8 8 (by omega) (σ:=σ) (sq:=sq)
  have g2:=fun {σ:Za} {sq:Nat}=>fp (l8++Du) 9 (by rw [List.length_append];omega) (σ:=σ) (sq:=sq)
  simp only [if_true]
  unfold wn at *
  simp -implicitDefEqProofs only [EQA,Zu,Nat.reduceAdd,Nat.reduceLT,Nat.reduceEqDiff,Nat.reduceBEq,reduceCtorEq,↓reduceIte,Zd,ZfZ,Ze1,Zgf,oI,AVal.cells,a9,a12,a13,a14,a15,a16,a17,a18,a19,a20,a21,a22,a23,a24,hm,w1,w2,w3,w4,w5,w6,f0,f1,f2,f3,f4,f5,f6,f7,f8,g1,g2,Zag,Zai,Zaj,Zau,Zax,Zam,List.lookup_nil]
  exact hO (j:=2) (by decide) rfl rfl
theorem ZIR:(Zci p).length<=1000000000:=by
 have t0:=ZcY ZgC
 have t1:=ZcY p.client
 have t2:=ZcY p.will.topic
 have t3:=ZcY p.user
 have d1:=ZiU p.will.data
 have d2:=ZiU p.password
 have y1:=Zdz 1 p.props
 have y2:=Zdz 16 p.will.props
 have n1:=Za2 1 (ZD 5)
 have n2:=Za2 1 (ZD (ZhD p))
 have n3:=Za2 2 (ZD p.keep)
 unfold Zci ZdS ZdY Zc3
 cases p.hasWill <;> cases p.hasUser <;> cases p.hasPassword <;> simp only [Bool.false_eq_true,if_false,if_true,List.length_append] <;> omega
theorem ZEf {σ:Za} {t sq:Nat} (hf:σ[sq]?=some .free) (hs0:σ[t]?=some (.var wn)) :
  Zj E1 BY σ sq 126 1 true [.ref t 0,.agg (Zv p)]=some (.tup [],(σ.set t (.var (wv sq 0 (Zci p).length))).set sq (.row 0 1 ((Zci p).map Zc)),{ any:=true,upd:=[(t,wv sq 0 (Zci p).length)] }) :=
 ZgB (args:=[.agg (Zv p)]) rfl rfl (Zwx p h) (by kernel_rfl) (by rw [List.all_cons,Zd2];rfl) (by rw [List.map_cons,Zd0];rfl) hf hs0
end
end
section
def Zjo (p:Zl):Zb:=if p.qos > 0 then (Zad p.topic).1++beB (ZD p.id) 2 else (Zad p.topic).1
def Zhb (p:Zl):Zb:=(Zjo p++(Zbc 3 p.props).1)++p.payload
def Zh7 (p:Zl):Zb:=(beB (ZD (ZQ p.present 1)) 1++beB (ZD p.code) 1)++(Zbc 2 p.props).1
def Zfe (s:Zbq):Int:=Zk s.qos 3+ZQ s.noLocal 4+ZQ s.asPublished 8+Zk s.handling 3*16
def Zh9 (s:Zbq):Zb:=(Zad s.filter).1++beB (ZD (Zfe s)) 1
def Zel (l:List Zbq):Zb:=(l.map Zh9).flatten
def Zea (l:List Zb):Zb:=(l.map fun f=>(Zad f).1).flatten
def Zen (l:List Int):Zb:=(l.map fun c=>beB (ZD c) 1).flatten
theorem ZGw (p:Zl) (h:OkW p) (hk:p.type=3):E1 78 [.ref 0 0,Z4 p] [.var wn]=some (.tup [],wH 0 (Zhb p)):=by
 have lim:=ZeG
 have t1:=ZcY p.topic
 have y1:=Zdz 3 p.props
 have n1:=Za2 2 (ZD p.id)
 have f0:=fun {σ:Za} {t sq:Nat}=>Zq6 p.topic h.topic (σ:=σ) (t:=t) (sq:=sq)
 have pl:=h.payload
 unfold Zhb Zjo
 generalize (Zad p.topic).1=l0 at *
 have f1:=fun {σ:Za} {sq:Nat}=>ZfC l0 p.id 2 (by omega) (by omega) (m:=2) rfl (by omega) (σ:=σ) 0 2 0 (sq:=sq) (by omega)
 generalize beB (ZD p.id) 2=D1 at *
 have f2:=fun (l:Zb) (g:Nat) (hl:l.length<=1000000000) {σ:Za} {sq:Nat}=>ZgZ l 3 p.props h.props.1 h.props.2 (by omega) (σ:=σ) 0 2 g (sq:=sq) (by omega)
 generalize (Zbc 3 p.props).1=D2 at *
 have f3:=fun (l:Zb) (g:Nat) (hl:l.length<=2000000000) {σ:Za} {sq:Nat}=>Zi9 l p.payload (by omega) (σ:=σ) 0 2 g (sq:=sq) (by omega)
 have hO:=fun {j g:Nat} {l:Zb} {σ:Za}=>Zeg (j:=j) (g:=g) (l:=l) (σ:=σ)
 rw [Zbt]
 have e0:=ZbZ p
 have a0:(Zv p)[0]?=some (.int .i64 p.type):=rfl
 have a2:(Zv p)[2]?=some (.int .i64 p.qos):=rfl
 have a4:(Zv p)[4]?=some (.int .i64 p.id):=rfl
 have a5:(Zv p)[5]?=some (.str p.topic):=rfl
 have a6:(Zv p)[6]?=some (.lst false (p.payload.map Zc)):=rfl
 have a9:(Zv p)[9]?=some (.lst false (p.props.map Zn)):=rfl
 rw [hk] at a0
 clear h hk
 generalize Zv p=P at *
 generalize p.qos=q at *
 generalize p.id=c at *
 generalize p.topic=tp at *
 generalize p.payload=pa at *
 generalize p.props=ps at *
 rw [Zbs (by rfl) Zeu]
 by_cases hq:q > 0
 ·rw [if_pos hq]
  have k1:(l0++D1).length=l0.length+D1.length:=List.length_append
  have k2:(l0++D1++D2).length=l0.length+D1.length+D2.length:=by rw [List.length_append,k1]
  have g2:=fun {σ:Za} {sq:Nat}=>f2 (l0++D1) 1 (by omega) (σ:=σ) (sq:=sq)
  have g3:=fun {σ:Za} {sq:Nat}=>f3 (l0++D1++D2) 2 (by omega) (σ:=σ) (sq:=sq)
  clear k1 k2 f2 f3
  unfold wn wT at *
  simp -implicitDefEqProofs only [EQA,Zu,Nat.reduceAdd,Nat.reduceLT,Nat.reduceEqDiff,Nat.reduceBEq,reduceCtorEq,↓reduceIte,Zd,Zer,Zdj,Zd7,oI,AVal.cells,a0,a2,a4,a5,a6,a9,Int.reduceBEq,hq,f0,f1,g2,g3,Zag,Zai,Zaj,Zau,Zax,Zam]
  exact hO (j:=2) (by decide) rfl rfl
 ·rw [if_neg hq]
  have k2:(l0++D2).length=l0.length+D2.length:=List.length_append
  have g2:=fun {σ:Za} {sq:Nat}=>f2 l0 0 (by omega) (σ:=σ) (sq:=sq)
  have g3:=fun {σ:Za} {sq:Nat}=>f3 (l0++D2) 1 (by omega) (σ:=σ) (sq:=sq)
  clear k2 f2 f3
  unfold wn wT at *
  simp -implicitDefEqProofs only [EQA,Zu,Nat.reduceAdd,Nat.reduceLT,Nat.reduceEqDiff,Nat.reduceBEq,reduceCtorEq,↓reduceIte,Zd,Zer,Zdj,Zd7,oI,AVal.cells,a0,a2,a5,a6,a9,Int.reduceBEq,hq,f0,g2,g3,Zag,Zai,Zaj,Zau,Zax,Zam]
  exact hO (j:=2) (by decide) rfl rfl
theorem Zzv (p:Zl) (h:OkW p) (hk:p.type=1):E1 78 [.ref 0 0,Z4 p] [.var wn]=some (.tup [],wH 0 (Zci p)):=by
 have f0:=fun {σ:Za} {t sq:Nat}=>ZEf p h (σ:=σ) (t:=t) (sq:=sq)
 have hO:=fun {j g:Nat} {l:Zb} {σ:Za}=>Zeg (j:=j) (g:=g) (l:=l) (σ:=σ)
 rw [Zbt]
 generalize Zci p=B at *
 have e0:=ZbZ p
 have e1:=Zcw p
 have a0:(Zv p)[0]?=some (.int .i64 p.type):=rfl
 rw [hk] at a0
 generalize Zv p=P at *
 rw [Zbs (by rfl) Zeu]
 unfold wn at *
 simp -implicitDefEqProofs only [EQA,Zu,Nat.reduceAdd,Nat.reduceLT,Nat.reduceLeDiff,Nat.reduceEqDiff,Nat.reduceBEq,reduceCtorEq,↓reduceIte,Zd,Zer,Zdj,Zd7,oI,AVal.cells,a0,e0,e1,f0]
 exact hO (j:=2) (by decide) rfl rfl
theorem Zx8 (p:Zl) (h:OkW p) (hk:p.type=2):E1 78 [.ref 0 0,Z4 p] [.var wn]=some (.tup [],wH 0 (Zh7 p)):=by
 have lim:=ZeG
 have y1:=Zdz 2 p.props
 have n1:=Za2 1 (ZD p.code)
 have n0:=Za2 1 (ZD (ZQ p.present 1))
 have hm:=fun b n σ sq own=>Zi2 b n σ sq own
 have f0:=fun {σ:Za} {t sq:Nat}=>Zlh (ZQ p.present 1) 1 (by omega) (by omega) (m:=1) rfl (σ:=σ) (t:=t) (sq:=sq)
 unfold Zh7
 generalize beB (ZD (ZQ p.present 1)) 1=l0 at *
 have f1:=fun {σ:Za} {sq:Nat}=>ZfC l0 p.code 1 (by omega) (by omega) (m:=1) rfl (by omega) (σ:=σ) 0 2 0 (sq:=sq) (by omega)
 generalize beB (ZD p.code) 1=D1 at *
 have k1:(l0++D1).length=l0.length+D1.length:=List.length_append
 have f2:=fun {σ:Za} {sq:Nat}=>ZgZ (l0++D1) 2 p.props h.props.1 h.props.2 (by omega) (σ:=σ) 0 2 1 (sq:=sq) (by omega)
 generalize (Zbc 2 p.props).1=D2 at *
 have hO:=fun {j g:Nat} {l:Zb} {σ:Za}=>Zeg (j:=j) (g:=g) (l:=l) (σ:=σ)
 rw [Zbt]
 have e0:=ZbZ p
 have a0:(Zv p)[0]?=some (.int .i64 p.type):=rfl
 have a7:(Zv p)[7]?=some (.int .i64 p.code):=rfl
 have a9:(Zv p)[9]?=some (.lst false (p.props.map Zn)):=rfl
 have a25:(Zv p)[25]?=some (.bool p.present):=rfl
 rw [hk] at a0
 clear h hk k1
 generalize Zv p=P at *
 generalize p.code=c at *
 generalize p.present=b at *
 generalize p.props=ps at *
 rw [Zbs (by rfl) Zeu]
 unfold wn at *
 simp -implicitDefEqProofs only [EQA,Zu,Nat.reduceAdd,Nat.reduceLT,Nat.reduceEqDiff,Nat.reduceBEq,reduceCtorEq,↓reduceIte,Zd,Zer,Zdj,Zd7,oI,AVal.cells,a0,a7,a9,a25,Int.reduceBEq,hm,f0,f1,f2]
 exact hO (j:=2) (by decide) rfl rfl
theorem Zv6 (p:Zl) (h:OkW p) (hk:p.type=4\/p.type=5\/p.type=6\/p.type=7):E1 78 [.ref 0 0,Z4 p] [.var wn]=some (.tup [],wH 0 (beB (ZD p.id) 2++ZaH p)):=by
 have n0:=Za2 2 (ZD p.id)
 have f0:=fun {σ:Za} {t sq:Nat}=>Zlh p.id 2 (by omega) (by omega) (m:=2) rfl (σ:=σ) (t:=t) (sq:=sq)
 generalize beB (ZD p.id) 2=l0 at *
 have f1:=fun {σ:Za} {sq:Nat}=>ZNW p h l0 (by omega) (σ:=σ) 0 2 0 (sq:=sq) (by omega)
 have hO:=fun {j g:Nat} {l:Zb} {σ:Za}=>Zeg (j:=j) (g:=g) (l:=l) (σ:=σ)
 rw [Zbt]
 generalize ZaH p=B at *
 generalize ZfK p=g0 at *
 have e0:=ZbZ p
 have e1:=Zcw p
 have a0:(Zv p)[0]?=some (.int .i64 p.type):=rfl
 have a4:(Zv p)[4]?=some (.int .i64 p.id):=rfl
 clear h
 generalize Zv p=P at *
 generalize p.id=c at *
 generalize p.type=ty at *
 rw [Zbs (by rfl) Zeu]
 unfold wn at *
 rcases hk with rfl | rfl | rfl | rfl
 all_goals
  simp -implicitDefEqProofs only [EQA,Zu,Nat.reduceAdd,Nat.reduceLT,Nat.reduceLeDiff,Nat.reduceEqDiff,Nat.reduceBEq,reduceCtorEq,↓reduceIte,Zd,Zer,Zdj,Zd7,oI,AVal.cells,a0,a4,e0,e1,Int.reduceBEq,f0,f1]
  exact hO (j:=2) (by decide) rfl rfl
theorem ZEe (p:Zl) (h:OkW p) (hb:Zde p=none) {σ:Za} {t sq:Nat} (hf:σ[sq]?=some .free) (hs0:σ[t]?=some (.var wn)) :
  Zj E1 BY σ sq 131 1 true [.ref t 0,.agg (Zv p)]=some (.tup [],σ,{ any:=true,upd:=[(t,wn)] }):=by
 have:=Ztc p h
 rw [hb] at this
 exact Zq4 (args:=[.agg (Zv p)]) this (by kernel_rfl) (by rw [List.all_cons,Zd2];rfl) (by rw [List.map_cons,Zd0];rfl) (ff1 hf) hs0
theorem ZGR (p:Zl) (h:OkW p) (hb:Zde p≠none) {σ:Za} {t sq:Nat} (hf:σ[sq]?=some .free) (hs0:σ[t]?=some (.var wn)) :
  Zj E1 BY σ sq 131 1 true [.ref t 0,.agg (Zv p)]=some (.tup [],(σ.set t (.var (wv sq 0 (ZaH p).length))).set sq (.row 0 1 ((ZaH p).map Zc)),{ any:=true,upd:=[(t,wv sq 0 (ZaH p).length)] }):=by
 have:=Ztc p h
 unfold Zde at this hb
 by_cases hc:p.code≠0\/p.props≠[]
 ·rw [if_pos hc] at this
  exact ZgB (args:=[.agg (Zv p)]) rfl rfl this (by kernel_rfl) (by rw [List.all_cons,Zd2];rfl) (by rw [List.map_cons,Zd0];rfl) hf hs0
 ·rw [if_neg hc] at hb;exact absurd rfl hb
theorem ZOG (p:Zl) (h:OkW p) (hk:p.type=14\/p.type=15):E1 78 [.ref 0 0,Z4 p] [.var wn]=some (.tup [],wO (Zde p)):=by
 have hO:=fun {j g:Nat} {l:Zb} {σ:Za}=>Zeg (j:=j) (g:=g) (l:=l) (σ:=σ)
 have e0:=ZbZ p
 have e1:=Zcw p
 have a0:(Zv p)[0]?=some (.int .i64 p.type):=rfl
 by_cases hb:Zde p=none
 ·have f1:=fun {σ:Za} {t sq:Nat}=>ZEe p h hb (σ:=σ) (t:=t) (sq:=sq)
  rw [hb,Zbt]
  clear h hb
  generalize Zv p=P at *
  generalize p.type=ty at *
  rw [Zbs (by rfl) Zeu]
  unfold wO wn at *
  rcases hk with rfl | rfl
  all_goals
   simp -implicitDefEqProofs only [EQA,Zu,Z5,Nat.reduceAdd,Nat.reduceLT,Nat.reduceLeDiff,Nat.reduceEqDiff,Nat.reduceBEq,reduceCtorEq,↓reduceIte,Zd,Zer,Zdj,Zd7,oI,AVal.cells,a0,e0,e1,Int.reduceBEq,f1]
 ·have f1:=fun {σ:Za} {t sq:Nat}=>ZGR p h hb (σ:=σ) (t:=t) (sq:=sq)
  have hr:Zde p=some (ZaH p):=by unfold Zde at hb ⊢;split at hb <;> simp_all
  rw [hr,Zbt]
  clear h hb hr
  generalize ZaH p=B at *
  generalize Zv p=P at *
  generalize p.type=ty at *
  rw [Zbs (by rfl) Zeu]
  unfold wO wn at *
  rcases hk with rfl | rfl
  all_goals
   simp -implicitDefEqProofs only [EQA,Zu,Nat.reduceAdd,Nat.reduceLT,Nat.reduceLeDiff,Nat.reduceEqDiff,Nat.reduceBEq,reduceCtorEq,↓reduceIte,Zd,Zer,Zdj,Zd7,oI,AVal.cells,a0,e0,e1,Int.reduceBEq,f1]
   exact hO (j:=2) (by decide) rfl rfl
theorem ZFZ (p:Zl) (hk:p.type < 1\/p.type=12\/p.type=13\/15 < p.type):E1 78 [.ref 0 0,Z4 p] [.var wn]=some (.tup [],[.var wn]):=by
 have e0:=ZbZ p
 have a0:(Zv p)[0]?=some (.int .i64 p.type):=rfl
 have b:∀ n:Int,n=1\/n=2\/n=3\/n=4\/n=5\/n=6\/n=7\/n=8\/n=9\/n=10\/n=11\/n=14\/n=15->(p.type == n)=false:=by
  intro n hn
  have : p.type≠n:=by omega
  simpa using this
 have b1:=b 1 (by simp)
 have b2:=b 2 (by simp)
 have b3:=b 3 (by simp)
 have b4:=b 4 (by simp)
 have b5:=b 5 (by simp)
 have b6:=b 6 (by simp)
 have b7:=b 7 (by simp)
 have b8:=b 8 (by simp)
 have b9:=b 9 (by simp)
 have b10:=b 10 (by simp)
 have b11:=b 11 (by simp)
 have b14:=b 14 (by simp)
 have b15:=b 15 (by simp)
 rw [Zbt]
 generalize Zv p=P at *
 generalize p.type=ty at *
 rw [Zbs (by rfl) Zeu]
 unfold wn at *
 simp -implicitDefEqProofs only [EQA,Zu,Z5,Nat.reduceAdd,Nat.reduceLT,Nat.reduceEqDiff,Nat.reduceBEq,reduceCtorEq,↓reduceIte,Zd,Zer,Zdj,Zd7,oI,AVal.cells,a0,b1,b2,b3,b4,b5,b6,b7,b8,b9,b10,b11,b14,b15]
end
section
theorem xw1 (c d:Ze) (h:c=d) (m:Nat) (tm:Tms) (σ:Za):evC FC PR1 BY m c tm σ=evC FC PR1 BY m d tm σ:=by rw [h]
def ZuG:=xw1 Zmt Zlj rfl
def ZsG:=xw1 Zoc ZlW rfl
def ZsP:=xw1 Znl Zlo rfl
noncomputable def ZjN (m:Nat) (tm:Tms) (σ:Za):Option (AVal×Za):=(Zap m Zhd (Option.map (ZaW 0) (Option.map (ZaW 1) (evL FC PR1 BY m [75,74,73,0] Zmt tm σ))))
noncomputable def ZjO (m:Nat) (tm:Tms) (σ:Za):Option (AVal×Za):=(Zap m Zhd (Option.map (ZaW 0) (Option.map (ZaW 3) (evL FC PR1 BY m [110,109,108,0] Zoc tm σ))))
noncomputable def Zlt (m:Nat) (tm:Tms) (σ:Za):Option (AVal×Za):=(Zap m Zhd (Option.map (ZaW 0) (Option.map (ZaW 5) (evL FC PR1 BY m [127,126,125,0] Znl tm σ))))
theorem Zib {a b c d:Nat} {x y z:AVal} (hx:ZJ x=true) (hy:ZJ y=true) (hz:ZJ z=true) (r g:Nat) (hr:r≠0) (l:Zb) (σ:Za) (h0:σ[0]?=some (.var (wv r g l.length))) (h1:σ[r]?=some (.row g 1 (l.map Zc))) :
  gcT 1 [(a,x),(b,y),(c,z),(d,.ref 0 0)] σ=([(a,x),(b,y),(c,z),(d,.ref 0 0)],[.var (wv 1 0 l.length),.row 0 1 (l.map Zc)]):=by
 have d0:σ.getD 0 .free=.var (wv r g l.length):=by simp [List.getD_eq_getElem?_getD,h0]
 have d1:σ.getD r .free=.row g 1 (l.map Zc):=by simp [List.getD_eq_getElem?_getD,h1]
 have ej:([0]:List Nat).contains r=false:=by simp;omega
 have hrf:Zt (wv r g l.length)=[r]:=rfl
 have e1:=fun ρ=>Za5 ρ x hx
 have e2:=fun ρ=>Za5 ρ y hy
 have e3:=fun ρ=>Za5 ρ z hz
 have hv:Zt [x,y,z,.ref 0 0]=[0]:=by
  simp only [Zt,(e1 (fun _ _=>none)).2,(e2 (fun _ _=>none)).2,(e3 (fun _ _=>none)).2];rfl
 have hi:ZB 1 [x,y,z,.ref 0 0] σ=[0,r]:=by
  have hR:List.range 1=[0]:=rfl
  have e0:([]:List Nat).contains r=false:=rfl
  simp only [ZB,hv,hR,List.flatMap_cons,List.flatMap_nil,List.append_nil,d0,ZM,hrf]
  rw [show (1000:Nat)=996+1+1+1+1 from rfl]
  simp only [List.cons_append,List.nil_append,Zz,ej,d1,ZM,List.append_nil,Bool.false_eq_true,if_false]
  have ej0:([0]:List Nat).contains 0=true:=rfl
  have ejr:([0,r]:List Nat).contains r=true:=by simp
  simp []
 have hρ:Zo σ 1 [0,r] r g=some (1,0):=by
  have : ¬(0:Nat)=r:=fun e=>hr e.symm
  simp [Zo,Z1,Zq,ZU,h1,this]
 have hρ0:Zo σ 1 [0,r] 0 0=some (0,0):=by
  simp [Zo,Z1,Zq,ZU,h0]
 have hren:Zf (Zo σ 1 [0,r]) (wv r g l.length)=wv 1 0 l.length:=by simp only [wv,Zf,Zm,hρ]
 simp only [gcT,gcA,hi,List.map_cons,List.map_nil,Zw,d0,d1,ZU,Zq,ZG,hren,Zf,(e1 _).1,(e2 _).1,(e3 _).1,Zm,hρ0]
 simp
theorem ZwX (r:List Zb):(Zea r).length<=r.length*65537:=by
 induction r with
 | nil=>simp [Zea]
 | cons x r ih =>
  have:=ZcY x
  simp only [Zea,List.map_cons,List.flatten_cons,List.length_append,List.length_cons] at ih ⊢
  omega
theorem ZPl (r:List Int):(Zen r).length<=r.length:=by
 induction r with
 | nil=>simp [Zen]
 | cons x r ih =>
  have:=Za2 1 (ZD x)
  simp only [Zen,List.map_cons,List.flatten_cons,List.length_append,List.length_cons] at ih ⊢
  omega
theorem ZDH (r:List Zbq):(Zel r).length<=r.length*65538:=by
 induction r with
 | nil=>simp [Zel]
 | cons x r ih =>
  have:=ZcY x.filter
  have:=Za2 1 (ZD (Zfe x))
  simp only [Zel,List.map_cons,List.flatten_cons,List.length_append,List.length_cons,Zh9] at ih ⊢
  omega
theorem Zt4 (fs:List Zb) (hn:fs.length<=1048576) (hx:∀ f ∈ fs,f.length<=9223372036854775807):∀ (r:List Zb) (i:Nat) (l:Zb),fs.drop i=r->l.length+r.length*65537<=1000000000000 ->
  ZjO 1 [(110,.int .i64 i),(109,.int .i64 fs.length),(108,.lst false (fs.map AVal.str)),(0,.ref 0 0)] [.var (wv 1 0 l.length),.row 0 1 (l.map Zc)]=some (.tup [],wH 0 (l++Zea r))
 | [],i,l,h,hl=>by
  have h1:=Zda h
  have hO:=fun {j g:Nat} {l:Zb} {σ:Za}=>Zeg (j:=j) (g:=g) (l:=l) (σ:=σ)
  have e:l++Zea []=l:=by simp [Zea]
  rw [e]
  unfold ZjO
  rw [Z9]
  simp -implicitDefEqProofs only [EQA,Zu,Nat.reduceAdd,Nat.reduceLT,Nat.reduceEqDiff,reduceCtorEq,↓reduceIte,Zd,Zd7,ZlW,oI,ZsG,h1]
  exact hO (j:=1) (by decide) rfl rfl
 | x::r,i,l,h,hl=>by
  have hx0:x.length<=9223372036854775807:=hx x (List.mem_of_getElem? (Z8 h).1)
  have t1:=ZcY x
  have lim:=ZeG
  simp only [List.length_cons] at hl
  have ih:=Zt4 fs hn hx r (i+1) (l++(Zad x).1) (Z8 h).2.1 (by rw [List.length_append];omega)
  have h1:(i:Int) < fs.length:=by have:=(Z8 h).2.2;omega
  have e1:=iad (Z8 h).1 AVal.str (k:=1) rfl
  have e3:=Zc9 h1 (by omega)
  have f1:=fun {σ:Za} {sq:Nat}=>ZiS l x hx0 (by omega) (σ:=σ) 0 1 0 (sq:=sq) (by omega)
  have e:l++Zea (x::r)=l++(Zad x).1++Zea r:=by simp [Zea]
  rw [e]
  generalize (Zad x).1=D at *
  have hG:=fun {a b c d:Nat} {i n:Int} {σ:Za} h0 h1=>Zib (a:=a) (b:=b) (c:=c) (d:=d) (x:=.int .i64 i) (y:=.int .i64 n) (z:=.lst false (fs.map AVal.str)) rfl rfl rfl 1 1 (by omega) (l++D) σ h0 h1
  unfold ZjO at ih ⊢
  rw [Z9]
  simp -implicitDefEqProofs only [EQA,Z5,Nat.reduceAdd,Nat.reduceLT,Nat.reduceEqDiff,Nat.reduceBEq,reduceCtorEq,↓reduceIte,ZlW,oI,ZsG,AVal.cells,h1,e1,e3,f1,hG]
  exact ih
theorem Zs1 (fs:List Int) (hn:fs.length<=1048576):∀ (r:List Int) (i:Nat) (l:Zb),fs.drop i=r->l.length+r.length<=1000000000000 ->
  Zlt 1 [(127,.int .i64 i),(126,.int .i64 fs.length),(125,.lst false (fs.map (AVal.int .i64))),(0,.ref 0 0)] [.var (wv 1 0 l.length),.row 0 1 (l.map Zc)]=some (.tup [],wH 0 (l++Zen r))
 | [],i,l,h,hl=>by
  have h1:=Zda h
  have hO:=fun {j g:Nat} {l:Zb} {σ:Za}=>Zeg (j:=j) (g:=g) (l:=l) (σ:=σ)
  have e:l++Zen []=l:=by simp [Zen]
  rw [e]
  unfold Zlt
  rw [Z9]
  simp -implicitDefEqProofs only [EQA,Zu,Nat.reduceAdd,Nat.reduceLT,Nat.reduceEqDiff,reduceCtorEq,↓reduceIte,Zd,Zd7,Zlo,oI,ZsP,h1]
  exact hO (j:=1) (by decide) rfl rfl
 | x::r,i,l,h,hl=>by
  have t1:=Za2 1 (ZD x)
  have lim:=ZeG
  simp only [List.length_cons] at hl
  have ih:=Zs1 fs hn r (i+1) (l++beB (ZD x) 1) (Z8 h).2.1 (by rw [List.length_append];omega)
  have h1:(i:Int) < fs.length:=by have:=(Z8 h).2.2;omega
  have e1:=iad (Z8 h).1 (AVal.int .i64) (k:=1) rfl
  have e3:=Zc9 h1 (by omega)
  have f1:=fun {σ:Za} {sq:Nat}=>ZfC l x 1 (by omega) (by omega) (m:=1) rfl (by omega) (σ:=σ) 0 1 0 (sq:=sq) (by omega)
  have e:l++Zen (x::r)=l++beB (ZD x) 1++Zen r:=by simp [Zen]
  rw [e]
  generalize beB (ZD x) 1=D at *
  have hG:=fun {a b c d:Nat} {i n:Int} {σ:Za} h0 h1=>Zib (a:=a) (b:=b) (c:=c) (d:=d) (x:=.int .i64 i) (y:=.int .i64 n) (z:=.lst false (fs.map (AVal.int .i64))) rfl rfl rfl 1 1 (by omega) (l++D) σ h0 h1
  unfold Zlt at ih ⊢
  rw [Z9]
  simp -implicitDefEqProofs only [EQA,Z5,Nat.reduceAdd,Nat.reduceLT,Nat.reduceEqDiff,Nat.reduceBEq,reduceCtorEq,↓reduceIte,Zlo,oI,ZsP,AVal.cells,h1,e1,e3,f1,hG]
  exact ih
theorem Zq0 (fs:List Zbq) (hn:fs.length<=1048576) (hx:∀ f ∈ fs,f.filter.length<=9223372036854775807):∀ (r:List Zbq) (i:Nat) (l:Zb),fs.drop i=r->l.length+r.length*65538<=1000000000000 ->
  ZjN 1 [(75,.int .i64 i),(74,.int .i64 fs.length),(73,.lst false (fs.map ZW)),(0,.ref 0 0)] [.var (wv 1 0 l.length),.row 0 1 (l.map Zc)]=some (.tup [],wH 0 (l++Zel r))
 | [],i,l,h,hl=>by
  have h1:=Zda h
  have hO:=fun {j g:Nat} {l:Zb} {σ:Za}=>Zeg (j:=j) (g:=g) (l:=l) (σ:=σ)
  have e:l++Zel []=l:=by simp [Zel]
  rw [e]
  unfold ZjN
  rw [Z9]
  simp -implicitDefEqProofs only [EQA,Zu,Nat.reduceAdd,Nat.reduceLT,Nat.reduceEqDiff,reduceCtorEq,↓reduceIte,Zd,Zd7,Zlj,oI,oN,ZuG,h1]
  exact hO (j:=1) (by decide) rfl rfl
 | x::r,i,l,h,hl=>by
  have hx0:x.filter.length<=9223372036854775807:=hx x (List.mem_of_getElem? (Z8 h).1)
  have t1:=ZcY x.filter
  have t2:=Za2 1 (ZD (Zfe x))
  have lim:=ZeG
  simp only [List.length_cons] at hl
  have ih:=Zq0 fs hn hx r (i+1) (l++(Zad x.filter).1++beB (ZD (Zfe x)) 1) (Z8 h).2.1 (by rw [List.length_append,List.length_append];omega)
  have h1:(i:Int) < fs.length:=by have:=(Z8 h).2.2;omega
  have e1:=iad (Z8 h).1 ZW (k:=6) rfl
  have e3:=Zc9 h1 (by omega)
  have hm:=fun b n σ sq own=>Zi2 b n σ sq own
  have q1:=Ziq x.qos
  have q2:=Ziq x.handling
  have m1:=Zep x.noLocal 4 (by omega)
  have m2:=Zep x.asPublished 8 (by omega)
  have w1:=ZcH (Zk x.qos 3+ZQ x.noLocal 4) (by omega) (by omega)
  have w2:=ZcH (Zk x.qos 3+ZQ x.noLocal 4+ZQ x.asPublished 8) (by omega) (by omega)
  have w3:=ZcH (Zk x.handling 3*16) (by omega) (by omega)
  have w4:=ZcH (Zk x.qos 3+ZQ x.noLocal 4+ZQ x.asPublished 8+Zk x.handling 3*16) (by omega) (by omega)
  have f1:=fun {σ:Za} {sq:Nat}=>ZiS l x.filter hx0 (by omega) (σ:=σ) 0 1 0 (sq:=sq) (by omega)
  have f2:=fun {σ:Za} {sq:Nat}=>ZfC (l++(Zad x.filter).1) (Zfe x) 1 (by omega) (by omega) (m:=1) rfl (by rw [List.length_append];omega) (σ:=σ) 0 1 1 (sq:=sq) (by omega)
  have e:l++Zel (x::r)=l++(Zad x.filter).1++beB (ZD (Zfe x)) 1++Zel r:=by simp [Zel,Zh9]
  rw [e]
  generalize (Zad x.filter).1=D at *
  generalize beB (ZD (Zfe x)) 1=D2 at *
  have hG:=fun {a b c d:Nat} {i n:Int} {σ:Za} h0 h1=>Zib (a:=a) (b:=b) (c:=c) (d:=d) (x:=.int .i64 i) (y:=.int .i64 n) (z:=.lst false (fs.map ZW)) rfl rfl rfl 1 2 (by omega) (l++D++D2) σ h0 h1
  unfold Zfe at f2
  unfold ZjN at ih ⊢
  rw [Z9]
  simp only [ZW,AVal.cells] at e1
  unfold Zk at *
  simp -implicitDefEqProofs only [EQA,Z5,Nat.reduceAdd,Nat.reduceLT,Nat.reduceLeDiff,Nat.reduceEqDiff,Nat.reduceBEq,reduceCtorEq,↓reduceIte,Zlj,oI,oN,ZuG,AVal.cells,h1,e1,e3,hm,w1,w2,w3,w4,f1,f2,hG,Zag,Zai,Zaj,Zau,Zax,Zam,List.lookup_nil]
  exact ih
section
variable (p:Zl) (h:OkW p)
include h
theorem Zli:(ZbV p).length<=300000000:=by
 have:=Zdz p.type p.props
 have:=Za2 2 (ZD p.id)
 unfold ZbV
 rw [List.length_append];omega
theorem ZH0 (hk:p.type=8):E1 78 [.ref 0 0,Z4 p] [.var wn]=some (.tup [],wH 0 (ZbV p++Zel p.subs)):=by
 have hh:=Zli p h
 have f0:=fun {σ:Za} {t sq:Nat}=>Zqd p h (σ:=σ) (t:=t) (sq:=sq)
 have hx:=h.subs
 have hL:=Zq0 p.subs hx.1 hx.2 p.subs 0 (ZbV p) rfl (by omega)
 have z:((0:Nat):Int)=0:=rfl
 rw [z] at hL
 unfold ZjN at hL
 have hG:=fun {a b c d:Nat} {i n:Int} {r g:Nat} {σ:Za} hr h0 h1=>Zib (a:=a) (b:=b) (c:=c) (d:=d) (x:=.int .i64 i) (y:=.int .i64 n) (z:=.lst false (p.subs.map ZW)) rfl rfl rfl r g hr (ZbV p) σ h0 h1
 have hG2:=fun {a b c d:Nat} {i n:Int} {g:Nat} {σ:Za} h0 h1=>hG (a:=a) (b:=b) (c:=c) (d:=d) (i:=i) (n:=n) (r:=2) (g:=g) (σ:=σ) (by omega) h0 h1
 clear hG
 have hn:(p.subs.map ZW).length=p.subs.length:=by simp
 rw [Zbt]
 generalize ZbV p=B at *
 have e0:=ZbZ p
 have e1:=Zcw p
 have a0:(Zv p)[0]?=some (.int .i64 p.type):=rfl
 have a10:(Zv p)[10]?=some (.lst false (p.subs.map ZW)):=rfl
 rw [hk] at a0
 clear h hk hx
 generalize Zv p=P at *
 generalize p.subs=ss at *
 rw [Zbs (by rfl) Zeu]
 unfold wn at *
 simp -implicitDefEqProofs only [EQA,Z5,Nat.reduceAdd,Nat.reduceLT,Nat.reduceLeDiff,Nat.reduceEqDiff,Nat.reduceBEq,reduceCtorEq,↓reduceIte,Zer,Zdj,oI,AVal.cells,a0,a10,e0,e1,hn,Int.reduceBEq,f0]
 exact hL
theorem ZFl (hk:p.type=10):E1 78 [.ref 0 0,Z4 p] [.var wn]=some (.tup [],wH 0 (ZbV p++Zea p.filters)):=by
 have hh:=Zli p h
 have f0:=fun {σ:Za} {t sq:Nat}=>Zqd p h (σ:=σ) (t:=t) (sq:=sq)
 have hx:=h.filters
 have hL:=Zt4 p.filters hx.1 hx.2 p.filters 0 (ZbV p) rfl (by omega)
 have z:((0:Nat):Int)=0:=rfl
 rw [z] at hL
 unfold ZjO at hL
 have hG2:=fun {a b c d:Nat} {i n:Int} {g:Nat} {σ:Za} h0 h1=>Zib (a:=a) (b:=b) (c:=c) (d:=d) (x:=.int .i64 i) (y:=.int .i64 n) (z:=.lst false (p.filters.map AVal.str)) rfl rfl rfl 2 g (by omega) (ZbV p) σ h0 h1
 have hn:(p.filters.map AVal.str).length=p.filters.length:=by simp
 rw [Zbt]
 generalize ZbV p=B at *
 have e0:=ZbZ p
 have e1:=Zcw p
 have a0:(Zv p)[0]?=some (.int .i64 p.type):=rfl
 have a11:(Zv p)[11]?=some (.lst false (p.filters.map AVal.str)):=rfl
 rw [hk] at a0
 clear h hk hx
 generalize Zv p=P at *
 generalize p.filters=ss at *
 rw [Zbs (by rfl) Zeu]
 unfold wn at *
 simp -implicitDefEqProofs only [EQA,Z5,Nat.reduceAdd,Nat.reduceLT,Nat.reduceLeDiff,Nat.reduceEqDiff,Nat.reduceBEq,reduceCtorEq,↓reduceIte,Zer,Zdj,oI,AVal.cells,a0,a11,e0,e1,hn,Int.reduceBEq,f0]
 exact hL
theorem ZFD (hk:p.type=9\/p.type=11):E1 78 [.ref 0 0,Z4 p] [.var wn]=some (.tup [],wH 0 (ZbV p++Zen p.codes)):=by
 have hh:=Zli p h
 have f0:=fun {σ:Za} {t sq:Nat}=>Zqd p h (σ:=σ) (t:=t) (sq:=sq)
 have hx:=h.codes
 have hL:=Zs1 p.codes hx p.codes 0 (ZbV p) rfl (by omega)
 have z:((0:Nat):Int)=0:=rfl
 rw [z] at hL
 unfold Zlt at hL
 have hG2:=fun {a b c d:Nat} {i n:Int} {g:Nat} {σ:Za} h0 h1=>Zib (a:=a) (b:=b) (c:=c) (d:=d) (x:=.int .i64 i) (y:=.int .i64 n) (z:=.lst false (p.codes.map (AVal.int .i64))) rfl rfl rfl 2 g (by omega) (ZbV p) σ h0 h1
 have hn:(p.codes.map (AVal.int .i64)).length=p.codes.length:=by simp
 rw [Zbt]
 generalize ZbV p=B at *
 have e0:=ZbZ p
 have e1:=Zcw p
 have a0:(Zv p)[0]?=some (.int .i64 p.type):=rfl
 have a8:(Zv p)[8]?=some (.lst false (p.codes.map (AVal.int .i64))):=rfl
 clear h hx
 generalize Zv p=P at *
 generalize p.codes=ss at *
 generalize p.type=ty at *
 rw [Zbs (by rfl) Zeu]
 unfold wn at *
 rcases hk with rfl | rfl
 all_goals
  simp -implicitDefEqProofs only [EQA,Z5,Nat.reduceAdd,Nat.reduceLT,Nat.reduceLeDiff,Nat.reduceEqDiff,Nat.reduceBEq,reduceCtorEq,↓reduceIte,Zer,Zdj,oI,AVal.cells,a0,a8,e0,e1,hn,Int.reduceBEq,f0]
  exact hL
end
end
section
theorem ZsJ (a b:List Int) (h:a.length=b.length) (hl:a.length<=9223372036854775807):∀ (r s:List Int) (i:Nat),a.drop i=r->b.drop i=s->Zl9 0 [(13,.int .i64 i),(12,.int .i64 a.length),(1,.lst false (b.map (AVal.int .i64))),(0,.lst false (a.map (AVal.int .i64)))] []=some (.bool (r == s),[])
 | [],s,i,ha,hb=>by
  have hs:s=[]:=by
   subst hb;rw [List.drop_eq_nil_iff] at ha ⊢;omega
  subst hs
  have h1:=Zda ha
  unfold Zl9
  rw [Z9]
  simp -implicitDefEqProofs only [EQA,Nat.reduceLT,Nat.reduceEqDiff,reduceCtorEq,↓reduceIte,Zna,ZJX,Znr,Zus,ZkO,oI,h1]
 | x::r,[],i,ha,hb=>by
  have:=(Z8 ha).2.2;rw [List.drop_eq_nil_iff] at hb;omega
 | x::r,y::s,i,ha,hb=>by
  have ih:=ZsJ a b h hl r s (i+1) (Z8 ha).2.1 (Z8 hb).2.1
  have h1:(i:Int) < a.length:=by have:=(Z8 ha).2.2;omega
  have e1:=iad (Z8 ha).1 (AVal.int .i64) (k:=1) rfl
  have e2:=iad (Z8 hb).1 (AVal.int .i64) (k:=1) rfl
  have e3:=Zc9 h1 hl
  unfold Zl9 at ih ⊢
  rw [Z9]
  simp -implicitDefEqProofs only [EQA,ZC,Z5,Nat.reduceLT,Nat.reduceEqDiff,Nat.reduceBEq,reduceCtorEq,↓reduceIte,gcT,gcA,ZB,Zz,Zw,ZM,Zna,Zus,ZkO,oI,h1,e1,e2,e3]
  rw [ih]
  by_cases hx:x=y <;> simp [hx]
theorem Zxp (a b:List Int) (hl:a.length<=9223372036854775807):E 83 [.lst false (a.map (AVal.int .i64)),.lst false (b.map (AVal.int .i64))] []=some (.bool (a == b),[]):=by
 rw [Zh (by rfl) ZJj]
 by_cases h:a.length=b.length
 ·have:=ZsJ a b h hl a b 0 rfl rfl
  unfold Zl9 at this
  have e:=Zju h
  simp -implicitDefEqProofs only [EQA,Z5,Nat.reduceLT,Nat.reduceEqDiff,reduceCtorEq,↓reduceIte,gcT,gcA,ZB,Zz,Zw,ZM,ZvS,Zlm,oI,e]
  exact this
 ·have e:=Zi1 h
  simp -implicitDefEqProofs only [EQA,Nat.reduceLT,Nat.reduceEqDiff,reduceCtorEq,↓reduceIte,ZvS,Zlm,Zna,oI,e,Zjz h]
theorem ZyY (σ:Za) (sq own:Nat) (view:Bool) (a b:List Int) (hl:a.length<=9223372036854775807):Zj E BY σ sq 83 own view [.lst false (a.map (AVal.int .i64)),.lst false (b.map (AVal.int .i64))]=some (.bool (a == b),σ,{}) :=
 Zce (Zxp a b hl) (by kernel_rfl) (by simp -implicitDefEqProofs only [ZcM,Zbn,eq_self]) (by simp -implicitDefEqProofs only [ZC,Zbn,eq_self]) rfl (fun _=>rfl) _ _ _ _
theorem Zu2 (a b:List Zb) (h:a.length=b.length) (hl:a.length<=9223372036854775807):∀ (r s:List Zb) (i:Nat),a.drop i=r->b.drop i=s->ZkV 0 [(13,.int .i64 i),(12,.int .i64 a.length),(1,.lst false (b.map AVal.str)),(0,.lst false (a.map AVal.str))] []=some (.bool (r == s),[])
 | [],s,i,ha,hb=>by
  have hs:s=[]:=by
   subst hb;rw [List.drop_eq_nil_iff] at ha ⊢;omega
  subst hs
  have h1:=Zda ha
  unfold ZkV
  rw [Z9]
  simp -implicitDefEqProofs only [EQA,Nat.reduceLT,Nat.reduceEqDiff,reduceCtorEq,↓reduceIte,Zox,ZHK,Zo9,ZrI,ZlN,oI,h1]
 | x::r,[],i,ha,hb=>by
  have:=(Z8 ha).2.2;rw [List.drop_eq_nil_iff] at hb;omega
 | x::r,y::s,i,ha,hb=>by
  have ih:=Zu2 a b h hl r s (i+1) (Z8 ha).2.1 (Z8 hb).2.1
  have h1:(i:Int) < a.length:=by have:=(Z8 ha).2.2;omega
  have e1:=iad (Z8 ha).1 AVal.str (k:=1) rfl
  have e2:=iad (Z8 hb).1 AVal.str (k:=1) rfl
  have e3:=Zc9 h1 hl
  unfold ZkV at ih ⊢
  rw [Z9]
  simp -implicitDefEqProofs only [EQA,ZC,Z5,Nat.reduceLT,Nat.reduceEqDiff,Nat.reduceBEq,ZdD,reduceCtorEq,↓reduceIte,gcT,gcA,ZB,Zz,Zw,ZM,Zox,ZrI,ZlN,oI,h1,e1,e2,e3]
  rw [ih]
  by_cases hx:x=y <;> simp [hx]
theorem ZNZ (a b:List Zb) (hl:a.length<=9223372036854775807):E 85 [.lst false (a.map AVal.str),.lst false (b.map AVal.str)] []=some (.bool (a == b),[]):=by
 rw [Zh (by rfl) ZED]
 by_cases h:a.length=b.length
 ·have:=Zu2 a b h hl a b 0 rfl rfl
  unfold ZkV at this
  have e:=Zju h
  simp -implicitDefEqProofs only [EQA,Z5,Nat.reduceLT,Nat.reduceEqDiff,reduceCtorEq,↓reduceIte,gcT,gcA,ZB,Zz,Zw,ZM,Zsy,Zk5,oI,e]
  exact this
 ·have e:=Zi1 h
  simp -implicitDefEqProofs only [EQA,Nat.reduceLT,Nat.reduceEqDiff,reduceCtorEq,↓reduceIte,Zsy,Zk5,Zox,oI,e,Zjz h]
theorem ZAo (σ:Za) (sq own:Nat) (view:Bool) (a b:List Zb) (hl:a.length<=9223372036854775807):Zj E BY σ sq 85 own view [.lst false (a.map AVal.str),.lst false (b.map AVal.str)]=some (.bool (a == b),σ,{}) :=
 Zce (ZNZ a b hl) (by kernel_rfl) (by simp -implicitDefEqProofs only [ZcM,Zbn,eq_self]) (by simp -implicitDefEqProofs only [ZC,Zbn,eq_self]) rfl (fun _=>rfl) _ _ _ _
theorem ZrM (a b:List Zbq) (h:a.length=b.length) (hl:a.length<=9223372036854775807):∀ (r s:List Zbq) (i:Nat),a.drop i=r->b.drop i=s->Zlz 0 [(13,.int .i64 i),(12,.int .i64 a.length),(1,.lst false (b.map ZW)),(0,.lst false (a.map ZW))] []=some (.bool (r == s),[])
 | [],s,i,ha,hb=>by
  have hs:s=[]:=by
   subst hb;rw [List.drop_eq_nil_iff] at ha ⊢;omega
  subst hs
  have h1:=Zda ha
  unfold Zlz
  rw [Z9]
  simp -implicitDefEqProofs only [EQA,Nat.reduceLT,Nat.reduceEqDiff,reduceCtorEq,↓reduceIte,ZqJ,ZCw,ZnU,Ztl,ZkZ,oI,h1]
 | x::r,[],i,ha,hb=>by
  have:=(Z8 ha).2.2;rw [List.drop_eq_nil_iff] at hb;omega
 | x::r,y::s,i,ha,hb=>by
  have ih:=ZrM a b h hl r s (i+1) (Z8 ha).2.1 (Z8 hb).2.1
  have h1:(i:Int) < a.length:=by have:=(Z8 ha).2.2;omega
  have e1:=iad (Z8 ha).1 ZW (k:=6) rfl
  have e2:=iad (Z8 hb).1 ZW (k:=6) rfl
  have e3:=Zc9 h1 hl
  unfold Zlz at ih ⊢
  rw [Z9]
  obtain ⟨f1,q1,n1,a1,d1,i1⟩:=x
  obtain ⟨f2,q2,n2,a2,d2,i2⟩:=y
  simp only [ZW,AVal.cells] at e1 e2
  have kd:Zgt [2,0,1,1,0,0] [AVal.str f1,.int .i64 q1,.bool n1,.bool a1,.int .i64 d1,.int .i64 i1]=true:=rfl
  have ke:Zfd [AVal.str f1,.int .i64 q1,.bool n1,.bool a1,.int .i64 d1,.int .i64 i1] [AVal.str f2,.int .i64 q2,.bool n2,.bool a2,.int .i64 d2,.int .i64 i2]=some (f1 == f2 && (q1 == q2 && (n1 == n2 && (a1 == a2 && (d1 == d2 && (i1 == i2 && true)))))):=rfl
  have kd2:Zgt [2,0,1,1,0,0] [AVal.str f2,.int .i64 q2,.bool n2,.bool a2,.int .i64 d2,.int .i64 i2]=true:=rfl
  simp -implicitDefEqProofs only [EQA,Z5,Nat.reduceAdd,Nat.reduceLT,Nat.reduceLeDiff,Nat.reduceEqDiff,Nat.reduceBEq,reduceCtorEq,↓reduceIte,gcT,gcA,ZB,Zz,Zw,ZM,ZqJ,Ztl,ZkZ,oI,h1,e1,e2,e3,kd,ke]
  rw [ih]
  have hb:((⟨f1,q1,n1,a1,d1,i1⟩:Zbq) == ⟨f2,q2,n2,a2,d2,i2⟩)=(f1 == f2 && (q1 == q2 && (n1 == n2 && (a1 == a2 && (d1 == d2 && (i1 == i2)))))):=by
   rw [Bool.eq_iff_iff];simp
  rw [List.cons_beq_cons,hb]
  cases f1 == f2 <;> cases q1 == q2 <;> cases n1 == n2 <;> cases a1 == a2 <;> cases d1 == d2 <;> cases i1 == i2 <;> rfl
theorem ZIj (a b:List Zbq) (hl:a.length<=9223372036854775807):E 84 [.lst false (a.map ZW),.lst false (b.map ZW)] []=some (.bool (a == b),[]):=by
 rw [Zh (by rfl) ZL2]
 by_cases h:a.length=b.length
 ·have:=ZrM a b h hl a b 0 rfl rfl
  unfold Zlz at this
  have e:=Zju h
  simp -implicitDefEqProofs only [EQA,Z5,Nat.reduceLT,Nat.reduceEqDiff,reduceCtorEq,↓reduceIte,gcT,gcA,ZB,Zz,Zw,ZM,ZqY,Zmb,oI,e]
  exact this
 ·have e:=Zi1 h
  simp -implicitDefEqProofs only [EQA,Nat.reduceLT,Nat.reduceEqDiff,reduceCtorEq,↓reduceIte,ZqY,Zmb,ZqJ,oI,e,Zjz h]
theorem ZHW (σ:Za) (sq own:Nat) (view:Bool) (a b:List Zbq) (hl:a.length<=9223372036854775807):Zj E BY σ sq 84 own view [.lst false (a.map ZW),.lst false (b.map ZW)]=some (.bool (a == b),σ,{}) :=
 Zce (ZIj a b hl) (by kernel_rfl) (by simp -implicitDefEqProofs only [ZcM,Zbn,eq_self]) (by simp -implicitDefEqProofs only [ZC,Zbn,eq_self]) rfl (fun _=>rfl) _ _ _ _
def ZdZ (a b:Zl):Bool :=
 ((((((((((((a.codes == b.codes && a.subs == b.subs && a.filters == b.filters && a.props == b.props && a.will.props == b.will.props)
  && (a.payload == b.payload && a.password == b.password && a.will.data == b.will.data))
  && (a.will.topic == b.will.topic && a.will.qos == b.will.qos && a.will.retain == b.will.retain))
  && (a.dup == b.dup && a.retain == b.retain && a.clean == b.clean && a.hasWill == b.hasWill && a.hasUser == b.hasUser && a.hasPassword == b.hasPassword && a.present == b.present))
  && a.type == b.type) && a.qos == b.qos) && a.id == b.id) && a.topic == b.topic) && a.code == b.code) && a.keep == b.keep) && a.client == b.client) && a.user == b.user)
theorem Zl0 (a b:Zl):ZdZ a b=true↔a=b:=by
 obtain ⟨a1,a2,a3,a4,a5,a6,a7,a8,a9,a10,a11,a12,a13,a14,a15,a16,⟨a17,a18,a19,a20,a21⟩,a22,a23,a24,a25,a26⟩:=a
 obtain ⟨b1,b2,b3,b4,b5,b6,b7,b8,b9,b10,b11,b12,b13,b14,b15,b16,⟨b17,b18,b19,b20,b21⟩,b22,b23,b24,b25,b26⟩:=b
 simp only [ZdZ,Bool.and_eq_true,beq_iff_eq,Zl.mk.injEq,Zvw.mk.injEq]
 constructor
 ·rintro ⟨⟨⟨⟨⟨⟨⟨⟨⟨⟨⟨⟨⟨⟨⟨h1,h2⟩,h3⟩,h4⟩,h5⟩,⟨⟨h6,h7⟩,h8⟩⟩,⟨⟨h9,h10⟩,h11⟩⟩,⟨⟨⟨⟨⟨⟨h12,h13⟩,h14⟩,h15⟩,h16⟩,h17⟩,h18⟩⟩,h19⟩,h20⟩,h21⟩,h22⟩,h23⟩,h24⟩,h25⟩,h26⟩
  simp only [h1,h2,h3,h4,h5,h6,h7,h8,h9,h10,h11,h12,h13,h14,h15,h16,h17,h18,h19,h20,h21,h22,h23,h24,h25,h26,and_self]
 ·rintro ⟨h1,h2,h3,h4,h5,h6,h7,h8,h9,h10,h11,h12,h13,h14,h15,h16,⟨h17,h18,h19,h20,h21⟩,h22,h23,h24,h25,h26⟩
  simp only [h1,h2,h3,h4,h5,h6,h7,h8,h9,h10,h11,h12,h13,h14,h15,h16,h17,h18,h19,h20,h21,h22,h23,h24,h25,h26,and_self]
structure OkL (p:Zl):Prop where
 codes:p.codes.length<=9223372036854775807
 props:p.props.length<=9223372036854775807
 subs:p.subs.length<=9223372036854775807
 filters:p.filters.length<=9223372036854775807
 wprops:p.will.props.length<=9223372036854775807
theorem ZLX (a b:Zl) (h:OkL a):E 35 [Z4 a,Z4 b] []=some (.bool (ZdZ a b),[]):=by
 have h1:=fun σ sq own view=>ZyY σ sq own view a.codes b.codes h.codes
 have h2:=fun σ sq own view=>ZHW σ sq own view a.subs b.subs h.subs
 have h3:=fun σ sq own view=>ZAo σ sq own view a.filters b.filters h.filters
 have h4:=fun σ sq own view=>ZjS σ sq own view a.props b.props h.props
 have h5:=fun σ sq own view=>ZjS σ sq own view a.will.props b.will.props h.wprops
 rw [Zh (by rfl) Zx4]
 unfold Z4 ZdZ
 simp -implicitDefEqProofs only [EQA,Z5,Zdx,ZkE,Nat.reduceAdd,Nat.reduceLT,Nat.reduceEqDiff,Nat.reduceBEq,ZdD,ZF,Zav,unG,reduceCtorEq,Z0,ite_self,↓reduceIte,ZKd,ZoZ,ZOf,oI,AVal.cells,h1,h2,h3,h4,h5]
theorem Zk3 (σ:Za) (sq own:Nat) (view:Bool) (a b:Zl) (h:OkL a):Zj E BY σ sq 35 own view [Z4 a,Z4 b]=some (.bool (ZdZ a b),σ,{}) :=
 Zce (ZLX a b h) (by kernel_rfl) rfl rfl rfl (fun _=>rfl) _ _ _ _
end
section
def Zln:Ze:=(.seq (.region [oI 2 (.mov (.c (.lst true [])))] none [0]) (.seq (.region [oI 3 (.mov (.t 0)),oI 4 (.nilchk (.t 3)),oI 5 (.faddr 0 (.t 4)),oI 6 (.ld none (.t 5)),oI 7 (.mov (.t 0)),oI 8 (.nilchk (.t 7)),oI 9 (.faddr 1 (.t 8)),oI 10 (.ld none (.t 9)),oI 11 (.slice 1 (.t 6) (some (.t 10)) none none),oI 2 (.mov (.t 11))] (some [(3,7)]) [2]) .ret))
def Zp3:ZE:=⟨[(.tmp 2)],Zln⟩
theorem ZvD:FC 80=some Zp3:=by kernel_rfl
theorem ZtA:Zp3.body=Zln:=rfl
theorem Zro:Zp3.res=[(.tmp 2)]:=rfl
end
section
theorem ZKc {σ:Za} {t g k n:Nat} {xs:List AVal} (hs:σ[t]?=some (.row g k xs)) (hn:n=xs.length):ZbY σ k (.sl t g 0 n) (some (.int .i64 0)) none none=some (.sl t g 0 n,σ,{ rd:=[t] }):=by
 subst hn
 have he:Z0 σ (.sl t g 0 xs.length)=some ((xs.drop 0).take xs.length,[t]):=by simp [Z0,hs]
 simp [ZbY,he,hs,Zbr,Zem]
theorem ZId (σ:Za) (k:Nat):ZbY σ k (.lst true []) (some (.int .i64 0)) none none=some (.lst true [],σ,{}):=by
 simp [ZbY,Zbr,Zem]
theorem ZHv (l:Zb):E 80 [.ref 0 0] (wH 0 l)=some (.sl 1 0 0 l.length,wH 0 l):=by
 have h1:((l.map Zc).length)=l.length:=by simp
 rw [Zh (by rfl) ZvD]
 unfold wH wv
 have hS:=fun (σ:Za) (hs:σ[1]?=some (.row 0 1 (l.map Zc)))=>ZKc (n:=l.length) hs h1.symm
 simp -implicitDefEqProofs only [EQA,Nat.reduceAdd,Nat.reduceLT,Nat.reduceEqDiff,Nat.reduceBEq,reduceCtorEq,↓reduceIte,ZtA,Zln,Zro,oI,hS]
 simp [Zak,gcA,ZB,Zz,Zt,Z2,ZM,Zo,Z1,Zq,ZU,Zw,Zf,Zm,ZG,List.range,List.range.loop]
theorem ZJY:E 80 [.ref 0 0] [.var wn]=some (.lst true [],[.var wn]):=by
 rw [Zh (by rfl) ZvD]
 unfold wn
 simp -implicitDefEqProofs only [EQA,Zu,Z5,Nat.reduceLT,Nat.reduceEqDiff,Nat.reduceBEq,reduceCtorEq,↓reduceIte,Zd,ZtA,Zln,Zro,oI,ZId]
theorem ZLy (l:Zb):Zaf true 2 (some (.sl 1 0 0 l.length,wH 0 l))=some (.lst false (l.map Zc),[.var (wv 1 0 l.length),.frow 0 1 (l.map Zc)]):=by
 have e1:(0:Nat)+l.length<=(l.map Zc).length:=by simp
 have e2:((l.map Zc).drop 0).take l.length=l.map Zc:=by
  rw [List.drop_zero,<-List.length_map (f:=Zc),List.take_length]
 simp only [Zaf,if_true,ZbJ,viewR,ZS,ZN,Z0,wH,List.getElem?_cons_succ,List.getElem?_cons_zero,e1,e2,and_self,Zs,List.set_cons_succ,List.set_cons_zero]
 simp [gcA,ZB,Zt,Z2,List.range,List.range.loop,ZM,wv,Zz,Zo,Z1,Zw,ZU,Zq,ZG,Zf,Zm]
theorem ZAG (l:Zb) {σ:Za} (t r g:Nat) {sq:Nat} (htr:t≠r) (hs:σ[t]?=some (.var (wv r g l.length))) (hr:σ[r]?=some (.row g 1 (l.map Zc))) :
  Zj E1 BY σ sq 80 0 true [.ref t 0]=some (.lst false (l.map Zc),(σ.set t (.var (wv r g l.length))).set r (.frow g 1 (l.map Zc)),{ any:=true,upd:=[(t,wv r g l.length)] }):=by
 refine ZbB ?_
 have hrf:Zt (wv r g l.length)=[r]:=rfl
 have htl:t < σ.length:=(List.getElem?_eq_some_iff.1 hs).1
 have hrl:r < σ.length:=(List.getElem?_eq_some_iff.1 hr).1
 have h1:σ.getD t .free=.var (wv r g l.length):=by simp [List.getD_eq_getElem?_getD,hs]
 have h2:σ.getD r .free=.row g 1 (l.map Zc):=by simp [List.getD_eq_getElem?_getD,hr]
 have hf0:Zs σ []=σ:=rfl
 have hsh:showAs σ [.ref t 0]=some ([.ref t 0],[]):=rfl
 have href:Zt [AVal.ref t 0]=[t]:=rfl
 have hup:Zbd ((σ.set t (.var (wv r g l.length))).set r (.frow g 1 (l.map Zc))) [t,r]=[(t,wv r g l.length)]:=by
  have e1:((σ.set t (.var (wv r g l.length))).set r (.frow g 1 (l.map Zc)))[t]?=some (.var (wv r g l.length)):=by
   rw [List.getElem?_set_ne (fun e=>htr e.symm),List.getElem?_set_self htl]
  have e2:((σ.set t (.var (wv r g l.length))).set r (.frow g 1 (l.map Zc)))[r]?=some (.frow g 1 (l.map Zc)):=by
   rw [List.getElem?_set_self (by simpa using hrl)]
  simp only [Zbd,e1,e2]
 unfold Zj Zb2
 rw [show BY 80=false by kernel_rfl]
 simp only [Bool.false_eq_true,if_false,hsh,hf0,href,Zmj hs hr htr hrf]
 unfold ZbH
 have hall:([t,r].all fun t=>okB (σ.getD t .free))=true:=by simp only [List.all_cons,List.all_nil,h1,h2,okB,Bool.and_true]
 rw [if_pos hall]
 have hρt:Zo σ 0 [t,r] t 0=some (0,0):=by simp [Zo,Z1,hs,Zq,ZU]
 have hρr:Zo σ 0 [t,r] r g=some (1,0):=by simp [Zo,Z1,hr,Zq,ZU,htr]
 have hargs:Zf (Zo σ 0 [t,r]) [.ref t 0]=[.ref 0 0]:=by simp only [Zf,Zm,hρt]
 have hren:Zf (Zo σ 0 [t,r]) (wv r g l.length)=wv 1 0 l.length:=by simp only [wv,Zf,Zm,hρr]
 have hheap:Zw σ 0 [t,r] (Zo σ 0 [t,r]) [t,r] 0=wH 0 l:=by
  simp only [Zw,h1,h2,ZU,Zq,ZG,hren,wH]
  simp
 rw [hargs,hheap,ZHv l,show [t,r].length=2 from rfl,ZLy l]
 have hk:Za1 σ [t,r] [.var (wv 1 0 l.length),.frow 0 1 (l.map Zc)] 0=true:=by simp [Za1,okB,Zck,Zq,hs,hr]
 have hff:Za4 σ sq 0=true:=by simp [Za4]
 have hb3:Zf (ZaD σ [t,r] sq) (wv 1 0 l.length)=wv r g l.length:=by
  have : ZaD σ [t,r] sq 1 0=some (r,g):=by simp only [ZaD,List.getElem?_cons_succ,List.getElem?_cons_zero,h2,Zq];rfl
  simp only [wv,Zf,Zm,this]
 simp only [ZaE,List.isEmpty_cons,Bool.false_eq_true,if_false,List.length_cons,List.length_nil,Nat.zero_add,Nat.reduceAdd,Nat.add_zero,Nat.le_refl,decide_true,hk,hff,Bool.and_self,if_true,Za8,ZaJ,List.getD_cons_zero,List.getD_cons_succ,Zcr,List.getElem?_cons_zero,List.getElem?_cons_succ,h2,Zq,ZG,Zm,hb3,hup]
theorem ZI6 {σ:Za} {t sq:Nat} (hs:σ[t]?=some (.var wn)):Zj E1 BY σ sq 80 0 true [.ref t 0]=some (.lst false [],σ,{ any:=true,upd:=[(t,wn)] }):=by
 refine ZbB ?_
 have htl:t < σ.length:=(List.getElem?_eq_some_iff.1 hs).1
 have h1:σ.getD t .free=.var wn:=by simp [List.getD_eq_getElem?_getD,hs]
 have hf0:Zs σ []=σ:=rfl
 have hsh:showAs σ [.ref t 0]=some ([.ref t 0],[]):=rfl
 have href:Zt [AVal.ref t 0]=[t]:=rfl
 have hre:Zz σ 1000 [t] []=[t]:=by
  have e1:([]:List Nat).contains t=false:=rfl
  rw [show (1000:Nat)=998+1+1 from rfl,Zz,e1]
  simp only [Bool.false_eq_true,if_false,h1,ZM]
  rfl
 unfold Zj Zb2
 rw [show BY 80=false by kernel_rfl]
 simp only [Bool.false_eq_true,if_false,hsh,hf0,href,hre]
 unfold ZbH
 have hall:([t].all fun t=>okB (σ.getD t .free))=true:=by simp only [List.all_cons,List.all_nil,h1,okB,Bool.and_true]
 rw [if_pos hall]
 have hρt:Zo σ 0 [t] t 0=some (0,0):=by simp [Zo,Z1,hs,Zq,ZU]
 have hargs:Zf (Zo σ 0 [t]) [.ref t 0]=[.ref 0 0]:=by simp only [Zf,Zm,hρt]
 have hheap:Zw σ 0 [t] (Zo σ 0 [t]) [t] 0=[.var wn]:=by
  simp only [Zw,h1,ZG]
  rfl
 rw [hargs,hheap,ZJY]
 have hv:Zaf true 1 (some (.lst true [],[.var wn]))=some (.lst false [],[.var wn]):=rfl
 rw [show [t].length=1 from rfl,hv]
 have hk:Za1 σ [t] [.var wn] 0=true:=by simp [Za1,okB,Zck,Zq,hs]
 have hset:σ.set t (.var wn)=σ:=by
  apply List.ext_getElem?
  intro i
  rw [List.getElem?_set]
  by_cases e:t=i
  ·subst e;rw [if_pos rfl,if_pos htl,hs]
  ·simp [e]
 have hup:Zbd σ [t]=[(t,wn)]:=by simp only [Zbd,hs]
 have hff:Za4 σ sq 0=true:=by simp [Za4]
 have hlay:Za8 σ [t] sq [.var wn] 0 σ=σ:=by
  simp only [Za8,ZaJ,ZG,List.getD_cons_zero]
  exact hset
 simp only [ZaE,List.isEmpty_cons,Bool.false_eq_true,if_false,hk,hff,hlay,hup,Zm,List.length_cons,List.length_nil,Nat.zero_add,Nat.add_zero,Nat.le_refl,decide_true,Bool.and_self,if_true]
theorem ZuA (σ:Za) (sq own:Nat) (f:Bool) (a:Zb) (h:a.length<=140737488355328):Zj E BY σ sq 56 own true [.lst f [.lst false (a.map Zc)]]=some (.lst false (a.map Zc),σ,{}):=by
 have:=Zhx σ sq own f a [] (by simp) (by simpa using h)
 simpa [ZI] using this
theorem ZAW {p:Zl} {l:Zb} (h:E1 78 [.ref 0 0,Z4 p] [.var wn]=some (.tup [],wH 0 l)) {σ:Za} {t sq:Nat} (hf:σ[sq]?=some .free) (hs0:σ[t]?=some (.var wn)) :
  Zj E1 BY σ sq 78 1 true [.ref t 0,.agg (Zv p)]=some (.tup [],(σ.set t (.var (wv sq 0 l.length))).set sq (.row 0 1 (l.map Zc)),{ any:=true,upd:=[(t,wv sq 0 l.length)] }) :=
 ZgB (args:=[.agg (Zv p)]) rfl rfl h (by kernel_rfl) (by rw [List.all_cons,Zd2];rfl) (by rw [List.map_cons,Zd0];rfl) hf hs0
theorem ZLT {p:Zl} (h:E1 78 [.ref 0 0,Z4 p] [.var wn]=some (.tup [],[.var wn])) {σ:Za} {t sq:Nat} (hf:σ[sq]?=some .free) (hs0:σ[t]?=some (.var wn)) :
  Zj E1 BY σ sq 78 1 true [.ref t 0,.agg (Zv p)]=some (.tup [],σ,{ any:=true,upd:=[(t,wn)] }) :=
 Zq4 (args:=[.agg (Zv p)]) h (by kernel_rfl) (by rw [List.all_cons,Zd2];rfl) (by rw [List.map_cons,Zd0];rfl) (ff1 hf) hs0
def orU (a b:Int):Int:=IntKind.u8.wrap (BitVec.ofInt IntKind.u8.bits a ||| BitVec.ofInt IntKind.u8.bits b).toNat
def ZeN (t:Int):Int:=orU (IntKind.u8.wrap (IntKind.i64.wrap (t*2 ^ min (Int.toNat 4) IntKind.i64.bits))) (Zc2 t)
def Zqm (p:Zl):Int:=IntKind.u8.wrap (ZQ p.dup 8+Zk p.qos 3*2+ZQ p.retain 1)
def ZbE (p:Zl):Int:=if p.type=3 then orU (ZeN 3) (Zqm p) else ZeN p.type
theorem ZBm (m:Nat) (h:m < 256):IntKind.u8.wrap (m:Int)=m:=by
 unfold IntKind.wrap IntKind.signed IntKind.bits
 simp
 omega
theorem Zvp (a b:Int):0<=orU a b/\orU a b < 256:=by
 have h:∀ x y:BitVec 8,(x ||| y).toNat < 256:=fun x y=>(x ||| y).isLt
 have h2:=h (BitVec.ofInt 8 a) (BitVec.ofInt 8 b)
 unfold orU
 rw [show IntKind.u8.bits=8 from rfl,ZBm _ h2]
 omega
theorem Zkh (p:Zl):0<=ZbE p/\ZbE p < 256:=by
 unfold ZbE
 split
 ·exact Zvp _ _
 ·exact Zvp _ _
theorem ZsQ (B:Zb):(Zah (B.length:Nat)).2=0↔B.length<=268435455:=by
 unfold Zah
 split
 ·simp only []
  constructor
  ·intro h;simp at h
  ·intro h;omega
 ·simp only [true_iff]
  omega
def ZeV (first:Int) (B:Zb) (c:Int) (s:Bool):AVal :=
 if B.length<=268435455/\c=0/\s=true then .tup [.agg [.int .u8 first,.lst false (B.map Zc)],.int .i64 0] else .tup [.agg [.int .u8 0,.lst true []],.int .i64 129]
section
variable (p q:Zl) (c:Int)
theorem Zri (B:Zb) (hb:E1 78 [.ref 0 0,Z4 p] [.var wn]=some (.tup [],wH 0 B)) (hB:B.length<=140737488355328)
  (hr:∀ σ sq own,Zj E1 BY σ sq 32 own true [.agg [.int .u8 (ZbE p),.lst false (B.map Zc)]]=some (.tup [Z4 q,.int .i64 c],σ,{})) (hq:OkL q) :
  E1 34 [Z4 p] []=some (ZeV (ZbE p) B c (ZdZ q p),[]):=by
 have fb:=fun {σ:Za} {t sq:Nat}=>ZAW hb (σ:=σ) (t:=t) (sq:=sq)
 have fB:=fun {σ:Za} {sq:Nat}=>ZAG B 2 3 0 (by omega) (σ:=σ) (sq:=sq)
 have fj:=fun σ sq own f=>ZbB (ZuA σ sq own f B hB)
 have ff:=fun σ sq own=>ZbB (ZjM p.type σ sq own)
 have fm:=fun b n σ sq own=>Zi2 b n σ sq own
 have fv:=fun σ sq own=>ZbB (ZfL σ sq own (B.length:Nat))
 have fs:=fun σ sq own=>ZbB (Zk3 σ sq own true q p hq)
 have hn:(B.map Zc).length=B.length:=by simp
 unfold ZeV
 generalize ZdZ q p=s at *
 rw [Zbt] at *
 rw [Zbt] at *
 have e0:=ZbZ p
 have e1:=Zcw p
 have a0:(Zv p)[0]?=some (.int .i64 p.type):=rfl
 have a1:(Zv p)[1]?=some (.bool p.dup):=rfl
 have a2:(Zv p)[2]?=some (.int .i64 p.qos):=rfl
 have a3:(Zv p)[3]?=some (.bool p.retain):=rfl
 have d0:=ZbZ q
 have d1:=Zcw q
 have oq:(Zv q).all ZV=true:=rfl
 have m1:=Zep p.dup 8 (by omega)
 have m2:=Zep p.retain 1 (by omega)
 have m3:=Ziq p.qos
 have w2:=ZcH (Zk p.qos 3*2) (by omega) (by omega)
 have w3:=ZcH (ZQ p.dup 8+Zk p.qos 3*2) (by omega) (by omega)
 have w4:=ZcH (ZQ p.dup 8+Zk p.qos 3*2+ZQ p.retain 1) (by omega) (by omega)
 clear m1 m2 m3
 unfold ZbE at hr ⊢
 have hv:=ZsQ B
 unfold ZeK at fv
 generalize (Zah (B.length:Nat)).1=V at *
 generalize (Zah (B.length:Nat)).2=v at *
 by_cases h3:p.type=3
 ·rw [if_pos h3] at hr ⊢
  rw [h3] at ff a0
  unfold ZeN Zqm orU Zk at *
  clear h3
  generalize Zv p=P at *
  generalize Zv q=Q at *
  generalize p.dup=pd at *
  generalize p.qos=pq at *
  generalize p.retain=pr at *
  unfold wn at *
  rw [Zbs (by rfl) Zki]
  by_cases v0:v=0
  ·have hL:=hv.1 v0
   subst v0
   by_cases c0:c=0
   ·subst c0
    cases s
    ·rw [if_neg (by simp)]
     simp -implicitDefEqProofs only [EQA,Zbh,Zu,Nat.reduceAdd,Nat.reduceLT,Nat.reduceLeDiff,Nat.reduceEqDiff,Nat.reduceBEq,ZaB,unA,ZF,unG,↓reduceIte,Zd,ZcK,Zcs,ZcO,oI,oN,AVal.cells,a0,a1,a2,a3,e0,e1,d0,d1,oq,Zao,fb,fB,fj,ff,fm,fv,fs,hr,hn,w2,w3,w4,Int.reduceLT,viewAs,ZS,ZN,Zs,Zag,Zai,Zaj,Zau,Zax,Zam,List.lookup_cons,List.lookup_nil,bne_self_eq_false]
    ·rw [if_pos ⟨hL,rfl,rfl⟩]
     simp -implicitDefEqProofs only [EQA,Zbh,Zu,Nat.reduceAdd,Nat.reduceLT,Nat.reduceLeDiff,Nat.reduceEqDiff,Nat.reduceBEq,ZaB,unA,ZF,unG,↓reduceIte,Zd,ZcK,Zcs,ZcO,oI,oN,AVal.cells,a0,a1,a2,a3,e0,e1,d0,d1,oq,Zao,fb,fB,fj,ff,fm,fv,fs,hr,hn,w2,w3,w4,Int.reduceLT,viewAs,ZS,ZN,Zs,Zag,Zai,Zaj,Zau,Zax,Zam,List.lookup_cons,List.lookup_nil,bne_self_eq_false]
   ·have c1:(c != 0)=true:=by simpa using c0
    rw [if_neg (fun h=>c0 h.2.1)]
    simp -implicitDefEqProofs only [EQA,Zbh,Zu,Nat.reduceAdd,Nat.reduceLT,Nat.reduceLeDiff,Nat.reduceEqDiff,Nat.reduceBEq,ZaB,ZF,Zav,unG,reduceCtorEq,↓reduceIte,Zd,ZcK,Zcs,ZcO,oI,oN,AVal.cells,a0,a1,a2,a3,e0,e1,d0,oq,Zao,fb,fB,fj,ff,fm,fv,hr,hn,w2,w3,w4,c1,Int.reduceLT,viewAs,ZS,ZN,Zs,Zag,Zai,Zaj,Zau,Zax,Zam,List.lookup_cons,List.lookup_nil,bne_self_eq_false]
  ·have v1:(v != 0)=true:=by simpa using v0
   rw [if_neg (fun h=>v0 (hv.2 h.1))]
   simp -implicitDefEqProofs only [EQA,Zbh,Zu,Nat.reduceAdd,Nat.reduceLT,Nat.reduceLeDiff,Nat.reduceEqDiff,Nat.reduceBEq,ZaB,ZF,Zav,reduceCtorEq,↓reduceIte,Zd,ZcK,Zcs,ZcO,oI,oN,AVal.cells,a0,a1,a2,a3,e0,e1,d0,oq,Zao,fb,fB,fj,ff,fm,fv,hr,hn,w2,w3,w4,v1,Int.reduceLT,viewAs,ZS,ZN,Zs,Zag,Zai,Zaj,Zau,Zax,Zam,List.lookup_cons,List.lookup_nil]
 ·rw [if_neg h3] at hr ⊢
  have h3b:(p.type == 3)=false:=by simpa using h3
  unfold ZeN orU at *
  clear h3
  generalize Zv p=P at *
  generalize Zv q=Q at *
  generalize p.dup=pd at *
  generalize p.qos=pq at *
  generalize p.retain=pr at *
  generalize p.type=ty at *
  unfold wn at *
  rw [Zbs (by rfl) Zki]
  by_cases v0:v=0
  ·have hL:=hv.1 v0
   subst v0
   by_cases c0:c=0
   ·subst c0
    cases s
    ·rw [if_neg (by simp)]
     simp -implicitDefEqProofs only [EQA,Zbh,Zu,Nat.reduceAdd,Nat.reduceLT,Nat.reduceLeDiff,Nat.reduceEqDiff,Nat.reduceBEq,ZaB,unA,ZF,unG,↓reduceIte,Zd,ZcK,Zcs,ZcO,oI,oN,AVal.cells,a0,e0,e1,d0,d1,oq,Zao,fb,fB,fj,ff,fv,fs,hr,hn,h3b,Int.reduceLT,viewAs,ZS,ZN,Zs,Zag,Zai,Zaj,Zau,Zax,Zam,List.lookup_cons,List.lookup_nil,bne_self_eq_false]
    ·rw [if_pos ⟨hL,rfl,rfl⟩]
     simp -implicitDefEqProofs only [EQA,Zbh,Zu,Nat.reduceAdd,Nat.reduceLT,Nat.reduceLeDiff,Nat.reduceEqDiff,Nat.reduceBEq,ZaB,unA,ZF,unG,↓reduceIte,Zd,ZcK,Zcs,ZcO,oI,oN,AVal.cells,a0,e0,e1,d0,d1,oq,Zao,fb,fB,fj,ff,fv,fs,hr,hn,h3b,Int.reduceLT,viewAs,ZS,ZN,Zs,Zag,Zai,Zaj,Zau,Zax,Zam,List.lookup_cons,List.lookup_nil,bne_self_eq_false]
   ·have c1:(c != 0)=true:=by simpa using c0
    rw [if_neg (fun h=>c0 h.2.1)]
    simp -implicitDefEqProofs only [EQA,Zbh,Zu,Nat.reduceAdd,Nat.reduceLT,Nat.reduceLeDiff,Nat.reduceEqDiff,Nat.reduceBEq,ZaB,ZF,Zav,unG,reduceCtorEq,↓reduceIte,Zd,ZcK,Zcs,ZcO,oI,oN,AVal.cells,a0,e0,e1,d0,oq,Zao,fb,fB,fj,ff,fv,hr,hn,h3b,c1,Int.reduceLT,viewAs,ZS,ZN,Zs,Zag,Zai,Zaj,Zau,Zax,Zam,List.lookup_cons,List.lookup_nil,bne_self_eq_false]
  ·have v1:(v != 0)=true:=by simpa using v0
   rw [if_neg (fun h=>v0 (hv.2 h.1))]
   simp -implicitDefEqProofs only [EQA,Zbh,Zu,Nat.reduceAdd,Nat.reduceLT,Nat.reduceLeDiff,Nat.reduceEqDiff,Nat.reduceBEq,ZaB,ZF,Zav,reduceCtorEq,↓reduceIte,Zd,ZcK,Zcs,ZcO,oI,oN,AVal.cells,a0,e0,e1,d0,oq,Zao,fb,fB,fj,ff,fv,hr,hn,h3b,v1,Int.reduceLT,viewAs,ZS,ZN,Zs,Zag,Zai,Zaj,Zau,Zax,Zam,List.lookup_cons,List.lookup_nil]
theorem ZKO (hb:E1 78 [.ref 0 0,Z4 p] [.var wn]=some (.tup [],[.var wn]))
  (hr:∀ σ sq own,Zj E1 BY σ sq 32 own true [.agg [.int .u8 (ZbE p),.lst false (([]:Zb).map Zc)]]=some (.tup [Z4 q,.int .i64 c],σ,{})) (hq:OkL q) :
  E1 34 [Z4 p] []=some (ZeV (ZbE p) [] c (ZdZ q p),[]):=by
 have fb:=fun {σ:Za} {t sq:Nat}=>ZLT hb (σ:=σ) (t:=t) (sq:=sq)
 have fB:=fun {σ:Za} {sq:Nat}=>ZI6 (σ:=σ) (t:=2) (sq:=sq)
 have fj:=fun σ sq own f=>ZbB (ZuA σ sq own f [] (by decide))
 have ff:=fun σ sq own=>ZbB (ZjM p.type σ sq own)
 have fm:=fun b n σ sq own=>Zi2 b n σ sq own
 have fv:=fun σ sq own=>ZbB (ZfL σ sq own (([]:Zb).length:Nat))
 have fs:=fun σ sq own=>ZbB (Zk3 σ sq own true q p hq)
 have hn:(([]:Zb).map Zc).length=([]:Zb).length:=by simp
 unfold ZeV
 generalize ZdZ q p=s at *
 rw [Zbt] at *
 rw [Zbt] at *
 have e0:=ZbZ p
 have e1:=Zcw p
 have a0:(Zv p)[0]?=some (.int .i64 p.type):=rfl
 have a1:(Zv p)[1]?=some (.bool p.dup):=rfl
 have a2:(Zv p)[2]?=some (.int .i64 p.qos):=rfl
 have a3:(Zv p)[3]?=some (.bool p.retain):=rfl
 have d0:=ZbZ q
 have d1:=Zcw q
 have oq:(Zv q).all ZV=true:=rfl
 have m1:=Zep p.dup 8 (by omega)
 have m2:=Zep p.retain 1 (by omega)
 have m3:=Ziq p.qos
 have w2:=ZcH (Zk p.qos 3*2) (by omega) (by omega)
 have w3:=ZcH (ZQ p.dup 8+Zk p.qos 3*2) (by omega) (by omega)
 have w4:=ZcH (ZQ p.dup 8+Zk p.qos 3*2+ZQ p.retain 1) (by omega) (by omega)
 clear m1 m2 m3
 unfold ZbE at hr ⊢
 have hv:=ZsQ []
 unfold ZeK at fv
 generalize (Zah (([]:Zb).length:Nat)).1=V at *
 generalize (Zah (([]:Zb).length:Nat)).2=v at *
 simp only [List.map_nil,List.length_nil] at fj hr fv hn hv
 by_cases h3:p.type=3
 ·rw [if_pos h3] at hr ⊢
  rw [h3] at ff a0
  unfold ZeN Zqm orU Zk at *
  clear h3
  generalize Zv p=P at *
  generalize Zv q=Q at *
  generalize p.dup=pd at *
  generalize p.qos=pq at *
  generalize p.retain=pr at *
  unfold wn at *
  rw [Zbs (by rfl) Zki]
  by_cases v0:v=0
  ·have hL:=hv.1 v0
   subst v0
   by_cases c0:c=0
   ·subst c0
    cases s
    ·rw [if_neg (by simp)]
     simp -implicitDefEqProofs only [EQA,Zbh,Zu,Nat.reduceAdd,Nat.reduceLT,Nat.reduceLeDiff,Nat.reduceEqDiff,Nat.reduceBEq,ZaB,unA,ZF,unG,↓reduceIte,Zd,ZcK,Zcs,ZcO,oI,oN,AVal.cells,a0,a1,a2,a3,e0,e1,d0,d1,oq,Zao,fb,fB,fj,ff,fm,fv,fs,hr,w2,w3,w4,Int.reduceLT,viewAs,ZS,ZN,Zs,Zag,Zai,Zaj,Zau,Zax,Zam,List.lookup_cons,List.lookup_nil,bne_self_eq_false]
    ·rw [if_pos ⟨by decide,rfl,rfl⟩]
     simp -implicitDefEqProofs only [EQA,Zbh,Zu,Nat.reduceAdd,Nat.reduceLT,Nat.reduceLeDiff,Nat.reduceEqDiff,Nat.reduceBEq,ZaB,unA,ZF,unG,↓reduceIte,Zd,ZcK,Zcs,ZcO,oI,oN,AVal.cells,a0,a1,a2,a3,e0,e1,d0,d1,oq,Zao,fb,fB,fj,ff,fm,fv,fs,hr,w2,w3,w4,Int.reduceLT,viewAs,ZS,ZN,Zs,Zag,Zai,Zaj,Zau,Zax,Zam,List.lookup_cons,List.lookup_nil,bne_self_eq_false]
   ·have c1:(c != 0)=true:=by simpa using c0
    rw [if_neg (fun h=>c0 h.2.1)]
    simp -implicitDefEqProofs only [EQA,Zbh,Zu,Nat.reduceAdd,Nat.reduceLT,Nat.reduceLeDiff,Nat.reduceEqDiff,Nat.reduceBEq,ZaB,ZF,Zav,unG,reduceCtorEq,↓reduceIte,Zd,ZcK,Zcs,ZcO,oI,oN,AVal.cells,a0,a1,a2,a3,e0,e1,d0,oq,Zao,fb,fB,fj,ff,fm,fv,hr,w2,w3,w4,c1,Int.reduceLT,viewAs,ZS,ZN,Zs,Zag,Zai,Zaj,Zau,Zax,Zam,List.lookup_cons,List.lookup_nil,bne_self_eq_false]
  ·have v1:(v != 0)=true:=by simpa using v0
   rw [if_neg (fun h=>v0 (hv.2 (by decide)))]
   simp -implicitDefEqProofs only [EQA,Zbh,Zu,Nat.reduceAdd,Nat.reduceLT,Nat.reduceLeDiff,Nat.reduceEqDiff,Nat.reduceBEq,ZaB,ZF,Zav,reduceCtorEq,↓reduceIte,Zd,ZcK,Zcs,ZcO,oI,oN,AVal.cells,a0,a1,a2,a3,e0,e1,d0,oq,Zao,fb,fB,fj,ff,fm,fv,hr,w2,w3,w4,v1,Int.reduceLT,viewAs,ZS,ZN,Zs,Zag,Zai,Zaj,Zau,Zax,Zam,List.lookup_cons,List.lookup_nil]
 ·rw [if_neg h3] at hr ⊢
  have h3b:(p.type == 3)=false:=by simpa using h3
  unfold ZeN orU at *
  clear h3
  generalize Zv p=P at *
  generalize Zv q=Q at *
  generalize p.dup=pd at *
  generalize p.qos=pq at *
  generalize p.retain=pr at *
  generalize p.type=ty at *
  unfold wn at *
  rw [Zbs (by rfl) Zki]
  by_cases v0:v=0
  ·have hL:=hv.1 v0
   subst v0
   by_cases c0:c=0
   ·subst c0
    cases s
    ·rw [if_neg (by simp)]
     simp -implicitDefEqProofs only [EQA,Zbh,Zu,Nat.reduceAdd,Nat.reduceLT,Nat.reduceLeDiff,Nat.reduceEqDiff,Nat.reduceBEq,ZaB,unA,ZF,unG,↓reduceIte,Zd,ZcK,Zcs,ZcO,oI,oN,AVal.cells,a0,e0,e1,d0,d1,oq,Zao,fb,fB,fj,ff,fv,fs,hr,h3b,Int.reduceLT,viewAs,ZS,ZN,Zs,Zag,Zai,Zaj,Zau,Zax,Zam,List.lookup_cons,List.lookup_nil,bne_self_eq_false]
    ·rw [if_pos ⟨by decide,rfl,rfl⟩]
     simp -implicitDefEqProofs only [EQA,Zbh,Zu,Nat.reduceAdd,Nat.reduceLT,Nat.reduceLeDiff,Nat.reduceEqDiff,Nat.reduceBEq,ZaB,unA,ZF,unG,↓reduceIte,Zd,ZcK,Zcs,ZcO,oI,oN,AVal.cells,a0,e0,e1,d0,d1,oq,Zao,fb,fB,fj,ff,fv,fs,hr,h3b,Int.reduceLT,viewAs,ZS,ZN,Zs,Zag,Zai,Zaj,Zau,Zax,Zam,List.lookup_cons,List.lookup_nil,bne_self_eq_false]
   ·have c1:(c != 0)=true:=by simpa using c0
    rw [if_neg (fun h=>c0 h.2.1)]
    simp -implicitDefEqProofs only [EQA,Zbh,Zu,Nat.reduceAdd,Nat.reduceLT,Nat.reduceLeDiff,Nat.reduceEqDiff,Nat.reduceBEq,ZaB,ZF,Zav,unG,reduceCtorEq,↓reduceIte,Zd,ZcK,Zcs,ZcO,oI,oN,AVal.cells,a0,e0,e1,d0,oq,Zao,fb,fB,fj,ff,fv,hr,h3b,c1,Int.reduceLT,viewAs,ZS,ZN,Zs,Zag,Zai,Zaj,Zau,Zax,Zam,List.lookup_cons,List.lookup_nil,bne_self_eq_false]
  ·have v1:(v != 0)=true:=by simpa using v0
   rw [if_neg (fun h=>v0 (hv.2 (by decide)))]
   simp -implicitDefEqProofs only [EQA,Zbh,Zu,Nat.reduceAdd,Nat.reduceLT,Nat.reduceLeDiff,Nat.reduceEqDiff,Nat.reduceBEq,ZaB,ZF,Zav,reduceCtorEq,↓reduceIte,Zd,ZcK,Zcs,ZcO,oI,oN,AVal.cells,a0,e0,e1,d0,oq,Zao,fb,fB,fj,ff,fv,hr,h3b,v1,Int.reduceLT,viewAs,ZS,ZN,Zs,Zag,Zai,Zaj,Zau,Zax,Zam,List.lookup_cons,List.lookup_nil]
end
end
section
def ZhJ (x:UInt8) (B:Zb):AVal:=.tup [.agg [Zc x,.lst false (B.map Zc)],.int .i64 0]
def Zwg:AVal:=.tup [.agg [.int .u8 0,.lst false []],.int .i64 129]
theorem ZuX {args:List AVal} {p:Zl} {x:UInt8} {B:Zb} (h:E1 34 [Z4 p] []=some (ZeV x.toNat B 0 true,[])) (hB:B.length<=268435455) (hp:args.all Zac=true) (hn:args.map ZH=[Z4 p]) (σ:Za) (sq own:Nat) :
  Zj E1 BY σ sq 34 own true args=some (ZhJ x B,σ,{}):=by
 unfold ZeV at h
 rw [if_pos ⟨hB,rfl,rfl⟩] at h
 exact ZbC h (by kernel_rfl) hp hn rfl (fun _=>rfl) σ sq own
theorem ZEF {args:List AVal} {p:Zl} {x c:Int} {B:Zb} {s:Bool} (h:E1 34 [Z4 p] []=some (ZeV x B c s,[])) (hB:¬(B.length<=268435455/\c=0/\s=true)) (hp:args.all Zac=true) (hn:args.map ZH=[Z4 p]) (σ:Za) (sq own:Nat) :
  Zj E1 BY σ sq 34 own true args=some (Zwg,σ,{}):=by
 unfold ZeV at h
 rw [if_neg hB] at h
 exact ZbC h (by kernel_rfl) hp hn rfl (fun _=>rfl) σ sq own
def ZhG (x:UInt8) (B:Zb):Zb:=x::((Zah B.length).1++B)
theorem ZLd (σ:Za) (sq own:Nat) (f:Bool) (x:UInt8) (b c:Zb) (h:1+b.length+c.length<=140737488355328):Zj E BY σ sq 56 own true [.lst f [.lst false [Zc x],.lst false (b.map Zc),.lst false (c.map Zc)]]=some (.lst false ((x::(b++c)).map Zc),σ,{}):=by
 have:=Zhx σ sq own f [x] [b,c] (by simp) (by simp;omega)
 simpa only [List.map_cons,List.map_nil,ZI,List.flatten_cons,List.flatten_nil,List.append_nil,List.cons_append,List.nil_append] using this
theorem ZAT (p:Zl) (x:UInt8) (B:Zb) (hB:B.length<=268435455) (hF:∀ σ sq own,Zj E1 BY σ sq 34 own true [.agg (Zv p)]=some (ZhJ x B,σ,{})) :
  E1 40 [Z4 p] []=some (.tup [.lst false ((ZhG x B).map Zc),.int .i64 0],[]):=by
 have hv:=ZgF (B.length:Nat)
 have fv:=fun σ sq own=>ZbB (ZfL σ sq own (B.length:Nat))
 have fj:=fun σ sq own f=>ZbB (ZLd σ sq own f x (Zah (B.length:Nat)).1 B (by omega))
 have hn:(B.map Zc).length=B.length:=by simp
 rw [Zbt]
 have e0:=ZbZ p
 have e1:=Zcw p
 unfold ZhG
 unfold ZeK at fv
 unfold ZhJ at hF
 generalize (Zah (B.length:Nat)).1=V at *
 generalize (Zah (B.length:Nat)).2=c at *
 generalize Zv p=P at *
 generalize (x::(V++B)).map Zc=R at *
 generalize hBB:B.map Zc=BB at *
 have bx:Zc x=.int .u8 (x.toNat:Nat):=rfl
 simp only [bx] at fj hF
 rw [Zbs (by rfl) ZDx]
 simp -implicitDefEqProofs only [EQA,Zu,Nat.reduceAdd,Nat.reduceLT,Nat.reduceLeDiff,Nat.reduceEqDiff,Nat.reduceBEq,↓reduceIte,Zd,ZMS,ZoW,ZJu,oI,oN,AVal.cells,e0,e1,hF,fv,fj,hn,bne_self_eq_false,viewAs,ZS,ZN,Zs]
end
section
def ZeC (p:Zl):Option Zb :=
 if p.type=1 then some (Zci p) else if p.type=2 then some (Zh7 p) else if p.type=3 then some (Zhb p)
 else if p.type=4\/p.type=5\/p.type=6\/p.type=7 then some (beB (ZD p.id) 2++ZaH p)
 else if p.type=8 then some (ZbV p++Zel p.subs) else if p.type=10 then some (ZbV p++Zea p.filters)
 else if p.type=9\/p.type=11 then some (ZbV p++Zen p.codes)
 else if p.type=14\/p.type=15 then Zde p else none
def Za0 (p:Zl):Zb:=(ZeC p).getD []
theorem ZCP (p:Zl) (h:OkW p):E1 78 [.ref 0 0,Z4 p] [.var wn]=some (.tup [],wO (ZeC p)):=by
 unfold ZeC
 by_cases h1:p.type=1
 ·rw [if_pos h1];exact Zzv p h h1
 rw [if_neg h1]
 by_cases h2:p.type=2
 ·rw [if_pos h2];exact Zx8 p h h2
 rw [if_neg h2]
 by_cases h3:p.type=3
 ·rw [if_pos h3];exact ZGw p h h3
 rw [if_neg h3]
 by_cases h4:p.type=4\/p.type=5\/p.type=6\/p.type=7
 ·rw [if_pos h4];exact Zv6 p h h4
 rw [if_neg h4]
 by_cases h8:p.type=8
 ·rw [if_pos h8];exact ZH0 p h h8
 rw [if_neg h8]
 by_cases h10:p.type=10
 ·rw [if_pos h10];exact ZFl p h h10
 rw [if_neg h10]
 by_cases h9:p.type=9\/p.type=11
 ·rw [if_pos h9];exact ZFD p h h9
 rw [if_neg h9]
 by_cases h14:p.type=14\/p.type=15
 ·rw [if_pos h14];exact ZOG p h h14
 rw [if_neg h14]
 exact ZFZ p (by omega)
theorem ZNG (p:Zl):(ZaH p).length<=300000000:=by
 have h1:=Za2 1 (ZD p.code)
 have h2:=Zdz p.type p.props
 unfold ZaH
 repeat' split
 all_goals simp only [List.length_append,List.length_nil]
 all_goals omega
theorem ZIa (p:Zl) (h:OkW p) (hp:p.payload.length<=1000000):(Za0 p).length<=1000000000000:=by
 have a1:=ZIR p h
 have a2:=ZNG p
 have a3:=Za2 2 (ZD p.id)
 have a4:=Za2 1 (ZD p.code)
 have a5:=Za2 1 (ZD (ZQ p.present 1))
 have a6:=Zdz 2 p.props
 have a7:=Zdz 3 p.props
 have a8:=ZcY p.topic
 have a9:=Zli p h
 have b1:=ZDH p.subs
 have b2:=ZwX p.filters
 have b3:=ZPl p.codes
 have c1:=h.subs.1
 have c2:=h.filters.1
 have c3:=h.codes
 have a10:(Zjo p).length<=70000:=by
  unfold Zjo
  split
  ·rw [List.length_append];omega
  ·omega
 have a11:((Zde p).getD []).length<=300000000:=by
  unfold Zde
  split
  ·simpa using a2
  ·simp
 unfold Za0 ZeC
 generalize Zde p=ro at *
 repeat' split
 all_goals try simp only [Option.getD_some,Option.getD_none,List.length_append,List.length_nil,Zh7,Zhb]
 all_goals omega
theorem ZfU {w:Int} {b:Zb} {l:List Zp} {r:Zb} (h:Zbw w b=.ok (l,r)):l.length<=268435455:=by
 unfold Zbw at h
 split at h
 ·injection h with h
  injection h with h1 h2
  rw [<-h1];exact ZCZ w b
 ·cases h
theorem ZrU {α:Type} {one:Zb->RK α}:∀ {n:Nat} {l:Zb} {ts:List α},Zas one n l=.ok ts->ts.length<=n
 | 0,l,ts,h=>by
  unfold Zas at h
  split at h
  ·injection h with h;subst h;simp
  ·cases h
 | n+1,l,ts,h=>by
  unfold Zas at h
  split at h
  ·injection h with h;subst h;simp
  ·split at h
   ·cases h
   ·split at h
    ·cases h
    ·rename_i t ht
     injection h with h;subst h
     have:=ZrU ht
     simp;omega
theorem Zhs {α:Type} {one:Zb->RK α} {k:Int} {l:Zb} {n:Int} {ps:List Zp} {ts:List α} (h:Zbl one k l=.ok (n,ps,ts)):ps.length<=268435455/\ts.length<=l.length:=by
 unfold Zbl at h
 split at h
 ·cases h
 rename_i n' ps' r hm
 have l1:=Zij hm
 split at h
 ·cases h
 rename_i us hu
 injection h with h;injection h with e1 h;injection h with e2 e3;subst e1 e2 e3
 have:=ZrU hu
 refine ⟨?_,by omega⟩
 unfold ZcL at hm
 split at hm
 ·cases hm
 split at hm
 ·cases hm
 rename_i hp
 split at hm
 ·cases hm
 injection hm with hm;injection hm with _ hm;injection hm with e _;subst e
 exact ZfU hp
theorem ZzF {k:Int} {l:Zb} {c:Int} {ps:Option (List Zp)} {r:Zb} (h:ZbW k l=.ok ((c,ps),r)):(ps.getD []).length<=268435455:=by
 unfold ZbW at h
 split at h
 ·injection h with h;injection h with h _;injection h with _ h;subst h;simp
 split at h
 ·cases h
 split at h
 ·injection h with h;injection h with h _;injection h with _ h;subst h;simp
 split at h
 ·cases h
 rename_i hp
 injection h with h;injection h with h _;injection h with _ h;subst h
 exact ZfU hp
theorem ZcV:OkL ZT:=⟨by simp [ZT],by simp [ZT],by simp [ZT],by simp [ZT],by simp [ZT]⟩
theorem ZrY {q q':Zl} {l r:Zb} (h:OkL q) (e:Zb0 q l=.ok (q',r)):OkL q':=by
 unfold Zb0 at e
 split at e
 ·cases e
 rename_i c ps r' hr
 injection e with e;injection e with e _;subst e
 have:=ZzF hr
 exact ⟨h.codes,by simp only;omega,h.subs,h.filters,h.wprops⟩
theorem Zw6 {q q':Zl} {l r:Zb} (h:OkL q) (e:idQ q l=.ok (q',r)):OkL q':=by
 unfold idQ at e
 split at e
 ·cases e
 rename_i n r1 _
 exact ZrY (q:={ q with id:=n }) ⟨h.codes,h.props,h.subs,h.filters,h.wprops⟩ e
theorem ZH2 {q q':Zl} {l r:Zb} (h:OkL q) (e:Zdf q l=.ok (q',r)):OkL q':=by
 unfold Zdf at e
 split at e
 ·cases e
 split at e
 case isFalse=>cases e
 split at e
 ·cases e
 split at e
 ·cases e
 rename_i hp
 injection e with e;injection e with e _;subst e
 have:=ZfU hp
 exact ⟨h.codes,by simp only;omega,h.subs,h.filters,h.wprops⟩
theorem ZFB {b:Bool} {q q':Zl} {l r:Zb} (h:OkL q) (e:ZdO b q l=.ok (q',r)):OkL q':=by
 unfold ZdO at e
 split at e
 ·split at e
  ·cases e
  ·injection e with e;injection e with e _;subst e;exact ⟨h.codes,h.props,h.subs,h.filters,h.wprops⟩
 ·injection e with e;injection e with e _;subst e;exact h
theorem ZMw {b:Bool} {q q':Zl} {l r:Zb} (h:OkL q) (e:Zds b q l=.ok (q',r)):OkL q':=by
 unfold Zds at e
 split at e
 ·split at e
  ·cases e
  ·injection e with e;injection e with e _;subst e;exact ⟨h.codes,h.props,h.subs,h.filters,h.wprops⟩
 ·injection e with e;injection e with e _;subst e;exact h
theorem ZBM {b:Bool} {q q':Zl} {l r:Zb} (h:OkL q) (e:Zdn b q l=.ok (q',r)):OkL q':=by
 unfold Zdn at e
 split at e
 ·split at e
  ·cases e
  ·rename_i ps tp d r' hw
   injection e with e;injection e with e _;subst e
   refine ⟨h.codes,h.props,h.subs,h.filters,?_⟩
   unfold ZcS at hw
   split at hw
   ·cases hw
   rename_i hp
   split at hw
   ·cases hw
   split at hw
   ·cases hw
   injection hw with hw;injection hw with e1 _;subst e1
   have:=ZfU hp
   simp only;omega
 ·injection e with e;injection e with e _;subst e;exact h
theorem ZK6 {q:Zl} (h:OkL q) (m k:Int) {ps:List Zp} (cl:Zb) (hp:ps.length<=268435455):OkL (headD (ZbL q m) k ps cl):=⟨h.codes,Nat.le_trans hp (by decide),h.subs,h.filters,h.wprops⟩
theorem ZGI {q q':Zl} {l r:Zb} (h:OkL q) (e:ZcG q l=.ok (q',r)):OkL q':=by
 unfold ZcG at e
 split at e
 ·cases e
 split at e
 case isFalse=>cases e
 split at e
 ·cases e
 split at e
 case isFalse=>cases e
 split at e
 ·cases e
 split at e
 case isFalse=>cases e
 unfold ZeD at e
 split at e
 ·cases e
 split at e
 ·cases e
 rename_i hp
 split at e
 ·cases e
 unfold Ze6 at e
 split at e
 ·cases e
 rename_i hw
 split at e
 ·cases e
 rename_i hu
 exact ZFB (ZMw (ZBM (ZK6 h _ _ _ (ZfU hp)) hw) hu) e
theorem ZiT {x:Except Int (Zl×Zb)} (h:∀ q r,x=.ok (q,r)->OkL q) {q:Zl} (e:Zb4 x=.ok q):OkL q:=by
 unfold Zb4 at e
 split at e
 ·cases e
 rename_i q' r'
 split at e
 ·injection e with e;subst e;exact h _ _ rfl
 ·cases e
theorem ZwE {t:Int} {l:Zb} (hl:l.length<=9223372036854775807) {q:Zl} (e:ZbQ t l=.ok q):OkL q:=by
 have h0:∀ k:Int,OkL { ZT with type:=k }:=fun k=>⟨ZcV.codes,ZcV.props,ZcV.subs,ZcV.filters,ZcV.wprops⟩
 unfold ZbQ at e
 split at e
 ·exact ZiT (fun _ _ h=>ZGI (h0 1) h) e
 split at e
 ·exact ZiT (fun _ _ h=>ZH2 (h0 2) h) e
 split at e
 ·exact ZiT (fun _ _ h=>Zw6 (h0 t) h) e
 split at e
 ·unfold Zfh at e
  split at e
  ·cases e
  rename_i hm
  injection e with e;subst e
  have:=Zhs hm
  exact ⟨(h0 8).codes,by simp only;omega,by simp only;omega,(h0 8).filters,(h0 8).wprops⟩
 split at e
 ·unfold Zfa at e
  split at e
  ·cases e
  rename_i hm
  injection e with e;subst e
  have:=Zhs hm
  exact ⟨(h0 8).codes,by simp only;omega,(h0 8).subs,by simp only;omega,(h0 8).wprops⟩
 split at e
 ·unfold Zej at e
  split at e
  ·cases e
  rename_i hm
  injection e with e;subst e
  have:=Zhs hm
  exact ⟨by simp only;omega,by simp only;omega,(h0 8).subs,(h0 8).filters,(h0 8).wprops⟩
 split at e
 ·exact ZiT (fun _ _ h=>ZrY (h0 t) h) e
 ·exact ZiT (fun q r h=>by injection h with h;injection h with h _;subst h;exact h0 t) e
theorem Zw8 {qos:Int} {l:Zb} {tp:Zb} {n:Int} {ps:List Zp} {q:Zb} (e:Zcv qos l=.ok (tp,n,ps,q)):ps.length<=268435455:=by
 unfold Zcv at e
 split at e
 ·cases e
 split at e
 ·split at e
  ·cases e
  split at e
  ·cases e
  rename_i hp
  injection e with e;injection e with _ e;injection e with _ e;injection e with e _;subst e
  exact ZfU hp
 ·split at e
  ·cases e
  rename_i hp
  injection e with e;injection e with _ e;injection e with _ e;injection e with e _;subst e
  exact ZfU hp
theorem Zu8 (b:Int) (l:Zb) (hl:l.length<=9223372036854775807):OkL (Za6 b l).1:=by
 unfold Za6
 split
 ·exact ZcV
 split
 ·unfold Zdw
  split
  ·split
   ·split
    ·exact ZcV
    ·rename_i h
     have:=Zw8 h
     exact ⟨ZcV.codes,by simp only;omega,ZcV.subs,ZcV.filters,ZcV.wprops⟩
   ·exact ZcV
  ·exact ZcV
 split
 ·split
  ·exact ZcV
  ·rename_i h
   exact ZwE hl h
 ·exact ZcV
theorem ZuU (p:Zl) (h:OkW p) (hp:p.payload.length<=1000000):E1 34 [Z4 p] []=some (ZeV (ZbE p) (Za0 p) (Za6 (ZbE p) (Za0 p)).2 (ZdZ (Za6 (ZbE p) (Za0 p)).1 p),[]):=by
 have hb:=ZCP p h
 have hl:=ZIa p h hp
 have hw:=Zkh p
 unfold Za0 at hl ⊢
 cases hB:ZeC p with
 | none =>
  rw [hB] at hb
  exact ZKO p _ _ hb (fun σ sq own=>Zi3 _ hw [] (by decide) false σ sq own) (Zu8 _ _ (by decide))
 | some B =>
  rw [hB] at hb hl
  simp only [Option.getD_some] at hl ⊢
  exact Zri p _ _ B hb (by omega) (fun σ sq own=>Zi3 _ hw B (by omega) false σ sq own) (Zu8 _ _ (by omega))
def ZgW (p:Zl):Prop:=(Za0 p).length<=268435455/\Za6 (ZbE p) (Za0 p)=(p,0)
instance (p:Zl):Decidable (ZgW p):=inferInstanceAs (Decidable (_/\_))
def Zjw (p:Zl):UInt8:=UInt8.ofNat (ZbE p).toNat
theorem ZmG (p:Zl):((Zjw p).toNat:Int)=ZbE p:=by
 have:=Zkh p
 unfold Zjw
 rw [UInt8.toNat_ofNat']
 omega
section
variable (p:Zl) (h:OkW p) (hp:p.payload.length<=1000000)
include h hp
theorem ZqZ:ZgW p↔((Za0 p).length<=268435455/\(Za6 (ZbE p) (Za0 p)).2=0/\ZdZ (Za6 (ZbE p) (Za0 p)).1 p=true):=by
 unfold ZgW
 rw [Zl0]
 constructor
 ·rintro ⟨h1,h2⟩
  rw [h2];exact ⟨h1,rfl,rfl⟩
 ·rintro ⟨h1,h2,h3⟩
  exact ⟨h1,Prod.ext h3 h2⟩
theorem ZsU (hg:ZgW p) (args:List AVal) (ha:args.all Zac=true) (hn:args.map ZH=[Z4 p]) (σ:Za) (sq own:Nat):Zj E1 BY σ sq 34 own true args=some (ZhJ (Zjw p) (Za0 p),σ,{}):=by
 have hF:=ZuU p h hp
 obtain ⟨h1,h2,h3⟩:=(ZqZ p h hp).1 hg
 rw [h2,h3,<-ZmG p] at hF
 exact ZuX (by rw [hF]) h1 ha hn σ sq own
theorem ZN6 (hg:¬ZgW p) (args:List AVal) (ha:args.all Zac=true) (hn:args.map ZH=[Z4 p]) (σ:Za) (sq own:Nat):Zj E1 BY σ sq 34 own true args=some (Zwg,σ,{}) :=
 ZEF (ZuU p h hp) (fun e=>hg ((ZqZ p h hp).2 e)) ha hn σ sq own
theorem Ztu (p:Zl):([AVal.agg (Zv p)].all Zac=true)/\[AVal.agg (Zv p)].map ZH=[Z4 p]:=⟨by rw [List.all_cons,Zd2];rfl,by rw [List.map_cons,Zd0];rfl⟩
end
end
section
end
section
def ZqB:Ze:=(.seq (.region [oI 1 (.box (.t 0)),oI 2 (.alloc [(.int .i64 0),(.bool false),(.int .i64 0),(.bool false),(.int .i64 0),(.str []),(.lst true []),(.int .i64 0),(.lst true []),(.lst true []),(.lst true []),(.lst true []),(.bool false),(.int .i64 0),(.str []),(.bool false),(.str []),(.lst true []),(.int .i64 0),(.bool false),(.lst true []),(.bool false),(.str []),(.bool false),(.lst true []),(.bool false)])] none [2,1]) (.seq (.seq (.region [oI 3 (.faddr 10 (.t 1)),oI 4 (.ld none (.t 3)),oI 5 (.len (.t 4)),oI 6 (.bin .gtr (.t 5) (.c (.int .i64 8)))] none [6,2,1]) (.cond (.t 6) (.region [oI 7 (.faddr 10 (.t 1)),oI 8 (.ld none (.t 7)),oI 9 (.slice 6 (.t 8) none (some (.c (.int .i64 8))) none),oI 10 (.faddr 10 (.t 1)),oN (.st 1 (.t 10) (.t 9))] none [2,1]) .skip)) (.seq (.seq (.region [oI 11 (.faddr 11 (.t 1)),oI 12 (.ld none (.t 11)),oI 13 (.len (.t 12)),oI 14 (.bin .gtr (.t 13) (.c (.int .i64 8)))] none [14,2,1]) (.cond (.t 14) (.region [oI 15 (.faddr 11 (.t 1)),oI 16 (.ld none (.t 15)),oI 17 (.slice 1 (.t 16) none (some (.c (.int .i64 8))) none),oI 18 (.faddr 11 (.t 1)),oN (.st 1 (.t 18) (.t 17))] none [2,1]) .skip)) (.seq (.seq (.region [oI 19 (.faddr 8 (.t 1)),oI 20 (.ld none (.t 19)),oI 21 (.len (.t 20)),oI 22 (.bin .gtr (.t 21) (.c (.int .i64 8)))] none [22,2,1]) (.cond (.t 22) (.region [oI 23 (.faddr 8 (.t 1)),oI 24 (.ld none (.t 23)),oI 25 (.slice 1 (.t 24) none (some (.c (.int .i64 8))) none),oI 26 (.faddr 8 (.t 1)),oN (.st 1 (.t 26) (.t 25))] none [2,1]) .skip)) (.seq (.seq (.region [oI 27 (.faddr 9 (.t 1)),oI 28 (.ld none (.t 27)),oI 29 (.len (.t 28)),oI 30 (.bin .gtr (.t 29) (.c (.int .i64 12)))] none [30,2,1]) (.cond (.t 30) (.region [oI 31 (.faddr 9 (.t 1)),oI 32 (.ld none (.t 31)),oI 33 (.slice 5 (.t 32) none (some (.c (.int .i64 12))) none),oI 34 (.faddr 9 (.t 1)),oN (.st 1 (.t 34) (.t 33))] none [2,1]) .skip)) (.seq (.seq (.region [oI 35 (.faddr 16 (.t 1)),oI 36 (.faddr 4 (.t 35)),oI 37 (.ld none (.t 36)),oI 38 (.len (.t 37)),oI 39 (.bin .gtr (.t 38) (.c (.int .i64 12)))] none [39,2,1]) (.cond (.t 39) (.region [oI 40 (.faddr 16 (.t 1)),oI 41 (.faddr 4 (.t 40)),oI 42 (.ld none (.t 41)),oI 43 (.slice 5 (.t 42) none (some (.c (.int .i64 12))) none),oI 44 (.faddr 16 (.t 1)),oI 45 (.faddr 4 (.t 44)),oN (.st 1 (.t 45) (.t 43))] none [2,1]) .skip)) (.seq (.region [oI 46 (.faddr 6 (.t 1)),oI 47 (.ld none (.t 46)),oI 48 (.call 18 0 true [(.t 47),(.c (.int .i64 600))]),oI 49 (.faddr 24 (.t 1)),oI 50 (.ld none (.t 49)),oI 51 (.call 18 0 true [(.t 50),(.c (.int .i64 100))]),oI 52 (.faddr 16 (.t 1)),oI 53 (.faddr 1 (.t 52)),oI 54 (.ld none (.t 53)),oI 55 (.call 18 0 true [(.t 54),(.c (.int .i64 100))]),oI 56 (.faddr 6 (.t 1)),oN (.st 1 (.t 56) (.t 48)),oI 57 (.faddr 24 (.t 1)),oN (.st 1 (.t 57) (.t 51)),oI 58 (.faddr 16 (.t 1)),oI 59 (.faddr 1 (.t 58)),oN (.st 1 (.t 59) (.t 55))] (some [(1,4),(2,4),(1,8),(2,8),(4,8),(5,8)]) [2,1]) (.seq (.region [oI 60 (.ld (some 26) (.t 1)),oN (.st 26 (.t 2) (.t 60))] none [2]) .ret))))))))
def Zn2:ZE:=⟨[(.cell 2 (some 26))],ZqB⟩
theorem ZKf:FC 37=some Zn2:=by kernel_rfl
theorem ZBe:Zn2.body=ZqB:=rfl
theorem ZwH:Zn2.res=[(.cell 2 (some 26))]:=rfl
def ZhN:Ze:=(.seq (.region [oI 2 (.box (.t 0)),oI 3 (.box (.t 1)),oI 4 (.mov (.c (.bool false)))] none [3,2]) (.seq (.region [oI 15 (.faddr 1 (.t 2)),oI 16 (.ld none (.t 15)),oI 17 (.call 18 0 true [(.t 16),(.c (.int .i64 1200))]),oI 18 (.faddr 1 (.t 2)),oN (.st 1 (.t 18) (.t 17))] none [3,2]) (.seq (.region [oI 20 (.ld (some 2) (.t 2)),oI 21 (.call 32 0 true [(.t 20)]),oI 19 (.mov (.t 21)),oI 22 (.ext (.t 19) 0),oI 23 (.ext (.t 19) 1),oI 5 (.alloc [(.int .i64 0),(.bool false),(.int .i64 0),(.bool false),(.int .i64 0),(.str []),(.lst true []),(.int .i64 0),(.lst true []),(.lst true []),(.lst true []),(.lst true []),(.bool false),(.int .i64 0),(.str []),(.bool false),(.str []),(.lst true []),(.int .i64 0),(.bool false),(.lst true []),(.bool false),(.str []),(.bool false),(.lst true []),(.bool false)]),oN (.st 26 (.t 5) (.t 22)),oI 6 (.mov (.t 23))] none [6,5,3,2]) (.seq (.seq (.region [oI 24 (.mov (.t 6)),oI 25 (.call 33 0 true [(.t 24)]),oI 26 (.bin .eql (.t 25) (.c (.int .i64 0)))] none [26,5,3,2]) (.cond (.t 26) (.seq (.region [oI 28 (.ld (some 26) (.t 5)),oI 29 (.call 34 0 true [(.t 28)]),oI 27 (.mov (.t 29)),oI 30 (.ext (.t 27) 0),oI 31 (.ext (.t 27) 1),oI 7 (.alloc [(.int .u8 0),(.lst true [])]),oN (.st 2 (.t 7) (.t 30)),oI 8 (.mov (.t 31))] none [8,7,5,3,2]) (.seq (.region [oI 33 (.ld (some 2) (.t 7)),oI 34 (.call 32 0 true [(.t 33)]),oI 32 (.mov (.t 34)),oI 35 (.ext (.t 32) 0),oI 36 (.ext (.t 32) 1),oI 9 (.alloc [(.int .i64 0),(.bool false),(.int .i64 0),(.bool false),(.int .i64 0),(.str []),(.lst true []),(.int .i64 0),(.lst true []),(.lst true []),(.lst true []),(.lst true []),(.bool false),(.int .i64 0),(.str []),(.bool false),(.str []),(.lst true []),(.int .i64 0),(.bool false),(.lst true []),(.bool false),(.str []),(.bool false),(.lst true []),(.bool false)]),oN (.st 26 (.t 9) (.t 35)),oI 10 (.mov (.t 36))] none [10,9,8,7,5,3,2]) (.seq (.region [oI 37 (.mov (.t 8)),oI 38 (.call 33 0 true [(.t 37)]),oI 39 (.bin .neq (.t 38) (.c (.int .i64 0))),oI 40 (.mov (.t 39)),⟨(some 41),(.mov (.t 10)),(some (40,false)),[]⟩,⟨(some 42),(.call 33 0 true [(.t 41)]),(some (40,false)),[]⟩,⟨(some 43),(.bin .neq (.t 42) (.c (.int .i64 0))),(some (40,false)),[]⟩,oI 44 (.pick (.t 40) (.c (.bool true)) (.t 43)),oI 45 (.mov (.t 44)),⟨(some 46),(.ld (some 26) (.t 5)),(some (45,false)),[]⟩,⟨(some 47),(.ld (some 26) (.t 9)),(some (45,false)),[]⟩,⟨(some 48),(.call 35 0 true [(.t 46),(.t 47)]),(some (45,false)),[]⟩,⟨(some 49),(.un .not (.t 48)),(some (45,false)),[]⟩,oI 50 (.pick (.t 45) (.c (.bool true)) (.t 49)),oI 51 (.mov (.t 50)),⟨(some 52),(.faddr 1 (.t 7)),(some (51,false)),[]⟩,⟨(some 53),(.ld none (.t 52)),(some (51,false)),[]⟩,⟨(some 54),(.len (.t 53)),(some (51,false)),[]⟩,⟨(some 55),(.faddr 1 (.t 2)),(some (51,false)),[]⟩,⟨(some 56),(.ld none (.t 55)),(some (51,false)),[]⟩,⟨(some 57),(.len (.t 56)),(some (51,false)),[]⟩,⟨(some 58),(.bin .gtr (.t 54) (.t 57)),(some (51,false)),[]⟩,oI 59 (.pick (.t 51) (.c (.bool true)) (.t 58)),oI 60 (.mov (.t 59)),⟨(some 61),(.faddr 0 (.t 7)),(some (60,false)),[]⟩,⟨(some 62),(.ld none (.t 61)),(some (60,false)),[]⟩,⟨(some 63),(.faddr 0 (.t 2)),(some (60,false)),[]⟩,⟨(some 64),(.ld none (.t 63)),(some (60,false)),[]⟩,⟨(some 65),(.bin .neq (.t 62) (.t 64)),(some (60,false)),[]⟩,oI 66 (.pick (.t 60) (.c (.bool true)) (.t 65))] none [66,3]) (.cond (.t 66) (.seq (.region [oI 4 (.mov (.c (.bool false)))] none [4]) .ret) .skip)))) (.seq (.region [oI 67 (.ld (some 26) (.t 5)),oI 68 (.build [(.int .i64 0),(.bool false),(.int .i64 0),(.bool false),(.int .i64 0),(.str []),(.lst true []),(.int .i64 0),(.lst true []),(.lst true []),(.lst true []),(.lst true []),(.bool false),(.int .i64 0),(.str []),(.bool false),(.str []),(.lst true []),(.int .i64 0),(.bool false),(.lst true []),(.bool false),(.str []),(.bool false),(.lst true []),(.bool false)] []),oI 69 (.call 36 0 true [(.t 67),(.t 68)]),oI 70 (.un .not (.t 69))] none [70,3]) (.cond (.t 70) (.seq (.region [oI 4 (.mov (.c (.bool false)))] none [4]) .ret) .skip)))) (.seq (.region [oI 71 (.ld (some 26) (.t 3)),oI 72 (.call 37 0 true [(.t 71)]),oN (.st 26 (.t 3) (.t 72))] none [3]) (.seq (.region [oI 74 (.ld (some 26) (.t 3)),oI 75 (.call 34 0 true [(.t 74)]),oI 73 (.mov (.t 75)),oI 76 (.ext (.t 73) 0),oI 77 (.ext (.t 73) 1),oI 11 (.alloc [(.int .u8 0),(.lst true [])]),oN (.st 2 (.t 11) (.t 76)),oI 12 (.mov (.t 77))] none [12,11,3]) (.seq (.seq (.region [oI 78 (.mov (.t 12)),oI 79 (.call 33 0 true [(.t 78)]),oI 80 (.bin .neq (.t 79) (.c (.int .i64 0)))] none [80,12,11,3]) (.cond (.t 80) (.seq (.region [oI 81 (.mov (.t 12)),oI 82 (.call 33 0 true [(.t 81)]),oI 83 (.bin .eql (.t 82) (.c (.int .i64 129))),oI 84 (.mov (.t 83)),⟨(some 85),(.faddr 1 (.t 11)),(some (84,true)),[]⟩,⟨(some 86),(.ld none (.t 85)),(some (84,true)),[]⟩,⟨(some 87),(.len (.t 86)),(some (84,true)),[]⟩,⟨(some 88),(.bin .eql (.t 87) (.c (.int .i64 0))),(some (84,true)),[]⟩,oI 89 (.pick (.t 84) (.t 88) (.c (.bool false))),oI 90 (.mov (.t 89)),⟨(some 91),(.faddr 0 (.t 11)),(some (90,true)),[]⟩,⟨(some 92),(.ld none (.t 91)),(some (90,true)),[]⟩,⟨(some 93),(.bin .eql (.t 92) (.c (.int .u8 0))),(some (90,true)),[]⟩,oI 94 (.pick (.t 90) (.t 93) (.c (.bool false))),oI 95 (.mov (.t 94)),⟨(some 96),(.call 38 0 true []),(some (95,true)),[]⟩,oI 97 (.pick (.t 95) (.t 96) (.c (.bool false))),oI 4 (.mov (.t 97))] none [4]) .ret) .skip)) (.seq (.region [oI 99 (.ld (some 2) (.t 11)),oI 100 (.call 32 0 true [(.t 99)]),oI 98 (.mov (.t 100)),oI 101 (.ext (.t 98) 0),oI 102 (.ext (.t 98) 1),oI 13 (.alloc [(.int .i64 0),(.bool false),(.int .i64 0),(.bool false),(.int .i64 0),(.str []),(.lst true []),(.int .i64 0),(.lst true []),(.lst true []),(.lst true []),(.lst true []),(.bool false),(.int .i64 0),(.str []),(.bool false),(.str []),(.lst true []),(.int .i64 0),(.bool false),(.lst true []),(.bool false),(.str []),(.bool false),(.lst true []),(.bool false)]),oN (.st 26 (.t 13) (.t 101)),oI 14 (.mov (.t 102))] none [14,13,3]) (.seq (.region [oI 103 (.mov (.t 14)),oI 104 (.call 33 0 true [(.t 103)]),oI 105 (.bin .eql (.t 104) (.c (.int .i64 0))),oI 106 (.mov (.t 105)),⟨(some 107),(.ld (some 26) (.t 3)),(some (106,true)),[]⟩,⟨(some 108),(.ld (some 26) (.t 13)),(some (106,true)),[]⟩,⟨(some 109),(.call 35 0 true [(.t 107),(.t 108)]),(some (106,true)),[]⟩,oI 110 (.pick (.t 106) (.t 109) (.c (.bool false))),oI 111 (.mov (.t 110)),⟨(some 112),(.call 38 0 true []),(some (111,true)),[]⟩,oI 113 (.pick (.t 111) (.t 112) (.c (.bool false))),oI 4 (.mov (.t 113))] none [4]) .ret)))))))))
def Zqy:ZE:=⟨[(.tmp 4)],ZhN⟩
theorem Zko:FC 5=some Zqy:=by kernel_rfl
theorem Zkd:Zqy.body=ZhN:=rfl
theorem Zma:Zqy.res=[(.tmp 4)]:=rfl
def ZqL:Ze:=(.seq (.region [oI 2 (.mov (.c (.int .i64 0)))] none [0]) (.seq (.region [oI 3 (.mov (.t 0)),oI 2 (.mov (.t 3))] none [2]) .ret))
def Znx:ZE:=⟨[(.tmp 2)],ZqL⟩
theorem Zxb:FC 33=some Znx:=by kernel_rfl
theorem Zzn:Znx.body=ZqL:=rfl
theorem ZCV:Znx.res=[(.tmp 2)]:=rfl
def Zn8:Ze:=(.seq (.region [oI 0 (.mov (.c (.bool false)))] none []) (.seq (.region [oI 6 (.build [(.int .i64 0),(.bool false),(.int .i64 0),(.bool false),(.int .i64 0),(.str []),(.lst true []),(.int .i64 0),(.lst true []),(.lst true []),(.lst true []),(.lst true []),(.bool false),(.int .i64 0),(.str []),(.bool false),(.str []),(.lst true []),(.int .i64 0),(.bool false),(.lst true []),(.bool false),(.str []),(.bool false),(.lst true []),(.bool false)] [(0,1,(.c (.int .i64 4))),(4,1,(.c (.int .i64 7))),(7,1,(.c (.int .i64 16)))]),oI 7 (.call 40 0 true [(.t 6)]),oI 5 (.mov (.t 7)),oI 8 (.ext (.t 5) 0),oI 9 (.ext (.t 5) 1),oI 1 (.mov (.t 8)),oI 2 (.mov (.t 9))] none [2,1]) (.seq (.region [oI 11 (.bslice false 1 7 (.int .u8 0) [(0,(.c (.int .u8 0))),(1,(.c (.int .u8 1))),(2,(.c (.int .u8 97))),(3,(.c (.int .u8 0))),(4,(.c (.int .u8 1))),(5,(.c (.int .u8 0))),(6,(.c (.int .u8 120)))]),oI 12 (.build [(.int .u8 0),(.lst true [])] [(0,1,(.c (.int .u8 50))),(1,1,(.t 11))]),oI 13 (.call 32 0 true [(.t 12)]),oI 10 (.mov (.t 13)),oI 14 (.ext (.t 10) 0),oI 15 (.ext (.t 10) 1),oI 3 (.alloc [(.int .i64 0),(.bool false),(.int .i64 0),(.bool false),(.int .i64 0),(.str []),(.lst true []),(.int .i64 0),(.lst true []),(.lst true []),(.lst true []),(.lst true []),(.bool false),(.int .i64 0),(.str []),(.bool false),(.str []),(.lst true []),(.int .i64 0),(.bool false),(.lst true []),(.bool false),(.str []),(.bool false),(.lst true []),(.bool false)]),oN (.st 26 (.t 3) (.t 14)),oI 4 (.mov (.t 15))] none [4,3,2,1]) (.seq (.region [oI 16 (.mov (.t 2)),oI 17 (.call 33 0 true [(.t 16)]),oI 18 (.bin .eql (.t 17) (.c (.int .i64 0))),oI 19 (.mov (.t 18)),⟨(some 20),(.mov (.t 1)),(some (19,true)),[]⟩,⟨(some 21),(.bslice false 1 5 (.int .u8 0) [(0,(.c (.int .u8 64))),(1,(.c (.int .u8 3))),(2,(.c (.int .u8 0))),(3,(.c (.int .u8 7))),(4,(.c (.int .u8 16)))]),(some (19,true)),[]⟩,⟨(some 22),(.call 15 0 true [(.t 20),(.t 21)]),(some (19,true)),[]⟩,oI 23 (.pick (.t 19) (.t 22) (.c (.bool false))),oI 24 (.mov (.t 23)),⟨(some 25),(.mov (.t 4)),(some (24,true)),[]⟩,⟨(some 26),(.call 33 0 true [(.t 25)]),(some (24,true)),[]⟩,⟨(some 27),(.bin .eql (.t 26) (.c (.int .i64 0))),(some (24,true)),[]⟩,oI 28 (.pick (.t 24) (.t 27) (.c (.bool false))),oI 29 (.mov (.t 28)),⟨(some 30),(.faddr 5 (.t 3)),(some (29,true)),[]⟩,⟨(some 31),(.ld none (.t 30)),(some (29,true)),[]⟩,⟨(some 32),(.bin .eql (.t 31) (.c (.str [97]))),(some (29,true)),[]⟩,oI 33 (.pick (.t 29) (.t 32) (.c (.bool false))),oI 34 (.mov (.t 33)),⟨(some 35),(.faddr 2 (.t 3)),(some (34,true)),[]⟩,⟨(some 36),(.ld none (.t 35)),(some (34,true)),[]⟩,⟨(some 37),(.bin .eql (.t 36) (.c (.int .i64 1))),(some (34,true)),[]⟩,oI 38 (.pick (.t 34) (.t 37) (.c (.bool false))),oI 39 (.mov (.t 38)),⟨(some 40),(.faddr 4 (.t 3)),(some (39,true)),[]⟩,⟨(some 41),(.ld none (.t 40)),(some (39,true)),[]⟩,⟨(some 42),(.bin .eql (.t 41) (.c (.int .i64 1))),(some (39,true)),[]⟩,oI 43 (.pick (.t 39) (.t 42) (.c (.bool false))),oI 44 (.mov (.t 43)),⟨(some 45),(.faddr 6 (.t 3)),(some (44,true)),[]⟩,⟨(some 46),(.ld none (.t 45)),(some (44,true)),[]⟩,⟨(some 47),(.b2s (.t 46)),(some (44,true)),[]⟩,⟨(some 48),(.bin .eql (.t 47) (.c (.str [120]))),(some (44,true)),[]⟩,oI 49 (.pick (.t 44) (.t 48) (.c (.bool false))),oI 0 (.mov (.t 49))] none [0]) .ret))))
def Zot:ZE:=⟨[(.tmp 0)],Zn8⟩
theorem ZEo:FC 38=some Zot:=by kernel_rfl
theorem ZHY:Zot.body=Zn8:=rfl
theorem ZzX:Zot.res=[(.tmp 0)]:=rfl
end
section
theorem ZCr (a b:Zb):E 15 [ZI a,ZI b] []=some (.bool (a == b),[]):=by
 rw [Zh (by rfl) ZEI]
 simp -implicitDefEqProofs only [EQA,Nat.reduceLT,Nat.reduceEqDiff,ZdD,reduceCtorEq,Z0,↓reduceIte,Zy9,ZqE,ZBa,oI,ZI]
theorem ZHX (σ:Za) (sq own:Nat) (f g:Bool) (a b:Zb):Zj E BY σ sq 15 own true [.lst f (a.map Zc),.lst g (b.map Zc)]=some (.bool (a == b),σ,{}) :=
 ZbC (ZCr a b) (by kernel_rfl) rfl rfl rfl (fun _=>rfl) σ sq own
theorem ZKA (e:Int):E 33 [.int .i64 e] []=some (.int .i64 e,[]):=by
 rw [Zh (by rfl) Zxb]
 simp -implicitDefEqProofs only [EQA,Nat.reduceLT,Nat.reduceEqDiff,reduceCtorEq,↓reduceIte,Zzn,ZqL,ZCV,oI]
theorem Zs5 (σ:Za) (sq own:Nat) (view:Bool) (e:Int):Zj E BY σ sq 33 own view [.int .i64 e]=some (.int .i64 e,σ,{}) :=
 Zce (ZKA e) (by kernel_rfl) (by simp -implicitDefEqProofs only [ZcM,Zbn,eq_self]) (by simp -implicitDefEqProofs only [ZC,Zbn,eq_self]) rfl (fun _=>rfl) _ _ _ _
def p7:Zl:={ ZT with type:=4,id:=7,code:=16 }
def b7:Zb:=[0,7,16]
theorem ZMx:OkW p7:=by
 refine ⟨?_,?_,?_,?_,?_,?_,?_,?_,?_,?_,?_,?_⟩ <;> simp [p7,ZT]
theorem Zyt:E1 78 [.ref 0 0,Z4 p7] [.var wn]=some (.tup [],wH 0 b7):=by
 have h:=Zv6 p7 ZMx (Or.inl rfl)
 have e:beB (ZD p7.id) 2++ZaH p7=b7:=by
  unfold ZaH
  rw [if_pos (Or.inl (by decide)),if_neg (by simp [p7,ZT])]
  decide
 rw [e] at h;exact h
def Q7:List AVal:=ZdG ((P0.set 0 (.int .i64 4)).set 4 (.int .i64 7)) 16 none
theorem ZAc:E1 32 [.agg [.int .u8 64,.lst false (b7.map Zc)]] []=some (.tup [.agg Q7,.int .i64 0],[]):=by
 have hi:idK b7=.ok (7,[16]):=by kernel_rfl
 have hr:ZbW 4 [16]=.ok ((16,none),[]):=by kernel_rfl
 have hf:=ZvR P0 rfl (by rfl) 64 4 b7 (by decide) (by decide) (by decide) (by decide)
 have hb:=ZtH (P0.set 0 (.int .i64 4)) (by rfl) (by rfl) 4 (Or.inl rfl) rfl rfl rfl (fun r _=>Zdm 4 r) b7 (by decide) hi hr
 rw [Zgo]
 exact Zpw 64 b7 (by rfl) (by rfl) rfl (by rfl) (by rfl) rfl hf hb
theorem ZBo (σ:Za) (sq own:Nat):Zj E1 BY σ sq 32 own true [.agg [.int .u8 64,.lst false (b7.map Zc)]]=some (.tup [Z4 p7,.int .i64 0],σ,{}) :=
 ZtD ZAc (fun σ=>rfl) false σ sq own
theorem ZDG:E1 34 [Z4 p7] []=some (ZeV 64 b7 0 true,[]):=by
 have hf:ZbE p7=64:=by decide
 have hs:ZdZ p7 p7=true:=(Zl0 _ _).2 rfl
 have:=Zri p7 p7 0 b7 Zyt (by decide) (fun σ sq own=>by rw [hf];exact ZBo σ sq own) ⟨by decide,by decide,by decide,by decide,by decide⟩
 rw [hf,hs] at this
 exact this
theorem ZKh:E1 40 [Z4 p7] []=some (.tup [.lst false ((ZhG 64 b7).map Zc),.int .i64 0],[]) :=
 ZAT p7 64 b7 (by decide) fun σ sq own=>ZuX (x:=64) ZDG (by decide) (by rw [List.all_cons,Zd2];rfl) (by rw [List.map_cons,Zd0];rfl) σ sq own
def b50:Zb:=[0,1,97,0,1,0,120]
def p50:Zl:={ ZT with type:=3,qos:=1,id:=1,topic:=[97],payload:=[120] }
theorem ZCa:Zdw 50 b50=(p50,0):=by kernel_rfl
theorem ZMH:E1 38 [] []=some (.bool true,[]):=by
 have h1:=fun (args:List AVal) (hp:args.all Zac=true) (hn:args.map ZH=[Z4 p7]) σ sq own=>ZbC (bf:=BY) (args:=args) ZKh (by kernel_rfl) hp hn rfl (fun _=>rfl) σ sq own
 have h2:∀ (σ:Za) (sq own:Nat) (f:Bool),Zj E1 BY σ sq 32 own true [.agg [.int .u8 50,.lst f [.int .u8 0,.int .u8 1,.int .u8 97,.int .u8 0,.int .u8 1,.int .u8 0,.int .u8 120]]]=some (.tup [.agg [.int .i64 3,.bool false,.int .i64 1,.bool false,.int .i64 1,.str [97],.lst false [.int .u8 120],.int .i64 0,.lst false [],.lst false [],.lst false [],.lst false [],.bool false,.int .i64 0,.str [],.bool false,.str [],.lst false [],.int .i64 0,.bool false,.lst false [],.bool false,.str [],.bool false,.lst false [],.bool false],.int .i64 0],σ,{}):=fun σ sq own f=>by
  have:=ZxA 50 (by decide) b50 (by decide) f σ sq own
  rw [ZCa] at this
  exact this
 have h3:=fun σ sq own f g a b=>ZbB (ZHX σ sq own f g a b)
 have h4:=fun σ sq own e=>ZbB (Zs5 σ sq own true e)
 have h5:=h1 [.agg [.int .i64 4,.bool false,.int .i64 0,.bool false,.int .i64 7,.str [],.lst true [],.int .i64 16,.lst true [],.lst true [],.lst true [],.lst true [],.bool false,.int .i64 0,.str [],.bool false,.str [],.lst true [],.int .i64 0,.bool false,.lst true [],.bool false,.str [],.bool false,.lst true [],.bool false]] rfl rfl
 have h6:∀ (σ:Za) (sq own:Nat) (f g:Bool),Zj E1 BY σ sq 15 own true [.lst f ((ZhG 64 b7).map Zc),.lst g [.int .u8 64,.int .u8 3,.int .u8 0,.int .u8 7,.int .u8 16]]=some (.bool true,σ,{}):=fun σ sq own f g=>by
  have:=h3 σ sq own f g (ZhG 64 b7) [64,3,0,7,16]
  rw [show (ZhG 64 b7 == [64,3,0,7,16])=true from by decide] at this
  exact this
 have hb:bytesOf [AVal.int .u8 120]=some [120]:=by rfl
 clear h1 h3
 rw [Zbs (by rfl) ZEo]
 simp -implicitDefEqProofs only [EQA,Zbh,Zcq,Nat.reduceAdd,Nat.reduceLT,Nat.reduceLeDiff,Nat.reduceEqDiff,Nat.reduceBEq,ZdD,ZF,unG,reduceCtorEq,Z0,↓reduceIte,ZB,Zz,ZM,ZHY,Zn8,ZzX,oI,oN,AVal.cells,Zao,h2,h4,h5,h6,hb,viewAs,ZS,ZN,Zs,ZV]
theorem ZOP (σ:Za) (sq own:Nat) (view:Bool):Zj E1 BY σ sq 38 own view []=some (.bool true,σ,{}) :=
 Zce ZMH (by kernel_rfl) rfl rfl rfl (fun _=>rfl) _ _ _ _
end
section
open Go.RowKit
def ZfX (P:Program):Nat->TypeId->Bool
 | 0,_=>true
 | n+1,t=>match P.underlying t with
  | some (.slice e)=>decide (1<=P.bytesOf e) && ZfX P n e
  | some (.struct fs)=>fs.toList.all fun f=>ZfX P n f.type
  | _=>true
mutual
def TyR (R:Nat):Ty->List AVal->Prop
 | .bool,xs=>∃ b,xs=[.bool b]
 | .int k,xs=>∃ n,(Lit.int k n).wf=true/\xs=[.int k n]
 | .str,xs=>∃ l:List UInt8,l.length<=R/\xs=[.str l]
 | .slice s e,xs=>∃ ys:List (List AVal),xs=[.lst false (ys.map (ZbS s))]/\ys.length<=R/\∀ y ∈ ys,TyR R e y
 | .struct fs,xs=>Ze4 R fs xs
def Ze4 (R:Nat):List Ty->List AVal->Prop
 | [],xs=>xs=[]
 | f::fs,xs=>∃ a b,xs=a++b/\TyR R f a/\Ze4 R fs b
end
section
variable {H:Type} {enc:TypeId×Value->H} {P:Program} {w:World} {spare:Nat->Bool} {held:Bool} {R:Nat}
theorem Zwh {d:DataW H} {e:TypeId} {n:Nat}:∀ {l:List (DataW H)},d ∈ l->n ∈ d.weights P e->n ∈ DataW.weightsAll P e l
 | x::l,h,hn=>by
  simp only [DataW.weightsAll,List.mem_append]
  rcases List.mem_cons.1 h with rfl | h
  ·exact Or.inl hn
  ·exact Or.inr (Zwh h hn)
theorem ZEP {t e:TypeId} {l m:List (DataW H)} {d:DataW H} (hu:P.underlying t=some (.slice e)) (hd:d ∈ l) {n:Nat} (hn:n ∈ d.weights P e):n ∈ (DataW.slice l m).weights P t:=by
 simp only [DataW.weights,hu,List.mem_cons,List.mem_append]
 exact Or.inr (Or.inl (Zwh hd hn))
theorem ZqR {n fuel:Nat} {cs:List Value} (ih:∀ (t:TypeId) (cs:List Value) (x:DataW H×List MemPlace) (T:Ty),ZdA P n t=some T->ZfX P n t=true->(∀ m ∈ x.1.weights P t,m<=R)->DataW.trod enc P w 0 spare held fuel t cs=some x->∃ xs,TyR R T xs/\VRs (Imm.of w) B0 xs cs/\ZaG xs=true) :
  ∀ (fs:List Field) (at':Nat) (Ts:List Ty) (ys:List (DataW H×List MemPlace)),(fs.all fun f=>ZfX P n f.type)=true->(∀ m ∈ DataW.weightsEach P (fs.map (·.type)) (ys.map (·.1)),m<=R)->Zii P at' fs cs.length=true->fs.mapM (fun f=>ZdA P n f.type)=some Ts ->
   fs.mapM (fun f=>DataW.trod enc P w 0 spare held fuel f.type ((cs.drop f.offset).take (P.cellsOf f.type)))=some ys->∃ xs,Ze4 R Ts xs/\VRs (Imm.of w) B0 xs (cs.drop at')/\ZaG xs=true
 | [],at',Ts,ys,_,_,ho,hT,_=>by
  simp only [Zii,beq_iff_eq] at ho
  simp only [List.mapM_nil,Option.pure_def,Option.some.injEq] at hT
  subst hT ho
  exact ⟨[],by simp only [Ze4],by simp [VRs],rfl⟩
 | f::fs,at',Ts,ys,hby,hwt,ho,hT,h=>by
  simp only [Zii,Bool.and_eq_true,beq_iff_eq] at ho
  obtain ⟨T,Ts',h1,h2,rfl⟩:=ZuB hT
  obtain ⟨y,ys',h3,h4,rfl⟩:=ZuB h
  simp only [List.all_cons,Bool.and_eq_true] at hby
  simp only [List.map_cons,DataW.weightsEach,List.mem_append] at hwt
  obtain ⟨a,a1,a2,a3⟩:=ih _ _ _ _ h1 hby.1 (fun m hm=>hwt m (Or.inl hm)) h3
  obtain ⟨b,b1,b2,b3⟩:=ZqR ih fs _ _ _ hby.2 (fun m hm=>hwt m (Or.inr hm)) ho.2 h2 h4
  rw [ho.1] at a2
  refine ⟨a++b,by simp only [Ze4];exact ⟨a,b,rfl,a1,b1⟩,ZHU a2 (by rw [List.drop_drop];exact b2),Zwq a3 b3⟩
theorem ZuC {n:Nat} {e:TypeId} {T:Ty} (hT:ZdA P n e=some T) (hs:ZdU (P.underlying e)=false) {xs:List AVal} (h:TyR R T xs):xs.length=1:=by
 cases n with
 | zero=>simp [ZdA] at hT
 | succ n =>
  simp only [ZdA] at hT
  split at hT
  ·injection hT with hT;subst hT;simp only [TyR] at h;obtain ⟨_,rfl⟩:=h;rfl
  ·injection hT with hT;subst hT;simp only [TyR] at h;obtain ⟨_,_,rfl⟩:=h;rfl
  ·injection hT with hT;subst hT;simp only [TyR] at h;obtain ⟨_,_,rfl⟩:=h;rfl
  ·split at hT
   ·simp only [Option.map_eq_some_iff] at hT
    obtain ⟨T',_,rfl⟩:=hT
    simp only [TyR] at h;obtain ⟨_,rfl,_⟩:=h;rfl
   ·cases hT
  ·rename_i hu;rw [hu] at hs;simp [ZdU] at hs
  ·cases hT
theorem ZpX:∀ (n fuel:Nat) (t:TypeId) (cs:List Value) (x:DataW H×List MemPlace) (T:Ty),ZdA P n t=some T->ZfX P n t=true->(∀ m ∈ x.1.weights P t,m<=R)->DataW.trod enc P w 0 spare held fuel t cs=some x ->
  ∃ xs,TyR R T xs/\VRs (Imm.of w) B0 xs cs/\ZaG xs=true
 | 0,fuel,t,cs,x,T,hT,_,_,_=>by simp [ZdA] at hT
 | n+1,0,t,cs,x,T,_,_,_,h=>by simp [DataW.trod] at h
 | n+1,fuel+1,t,cs,x,T,hT,hby,hwt,h=>by
  have h0:=h
  simp only [ZdA] at hT
  unfold DataW.trod at h
  split at hT
  ·rename_i hu
   injection hT with hT;subst hT
   obtain ⟨b,rfl,_⟩:=DataW.trod_bool hu h0
   exact ⟨[.bool b],by simp only [TyR];exact ⟨b,rfl⟩,by simp [VRs,VR],rfl⟩
  ·rename_i k hu
   injection hT with hT;subst hT
   obtain ⟨n',rfl,_,hk⟩:=DataW.trod_int hu h0
   exact ⟨[.int k n'],by simp only [TyR];exact ⟨n',hk,rfl⟩,by simp [VRs,VR],rfl⟩
  ·rename_i hu
   injection hT with hT;subst hT
   obtain ⟨s,rfl,hx,hs⟩:=DataW.trod_string hu h0
   have hs':s.data.toList.length<=9223372036854775807:=by
    rw [Array.length_toList];exact Nat.le_trans hs (by simp [maxLen])
   have hR:s.data.toList.length<=R:=by
    subst hx
    exact hwt _ (by simp [DataW.weights])
   exact ⟨[.str s.data.toList],by simp only [TyR];exact ⟨_,hR,rfl⟩,by simp only [VRs,VR];exact ⟨_,_,rfl,⟨by simp,hs'⟩,rfl⟩,rfl⟩
  ·rename_i e hu
   split at hT
   case isFalse=>cases hT
   rename_i hc
   simp only [Option.map_eq_some_iff] at hT
   obtain ⟨T,hT,rfl⟩:=hT
   rcases Go.Deep.open_slice hu h0 with ⟨hcs,_⟩ | ⟨a,len,cap,m,n',D,Pl,hcs,_,hl,hm,hmm,hx,hi⟩
   ·subst hcs
    exact ⟨[.lst false []],by simp only [TyR];exact ⟨[],by simp,by simp,by simp⟩,by simp only [VRs,VR];exact ⟨_,_,rfl,⟨none,0,rfl,by simp,by simp,by simp,by simp,by simp [Zab]⟩,rfl⟩,rfl⟩
   ·have hlm:len<=m:=by split at hmm <;> omega
    unfold ZfX at hby
    rw [hu] at hby
    simp only [Bool.and_eq_true,decide_eq_true_eq] at hby
    have hlR:len<=R:=by
     have:=hwt _ (by rw [hx];simp only [DataW.weights,hu];exact List.mem_cons_self ..)
     simp only [List.length_map,List.length_range] at this
     have h1:=Nat.le_mul_of_pos_right (len+(m - len)) hby.1
     omega
    have hspot:0 < len->a.spot=none:=by
     intro h0
     obtain ⟨cs',h1,h2⟩:=hi 0 (by omega)
     obtain ⟨_,h6,h7⟩:=World.cells?_some h1
     have h8:=h7 0 hc
     obtain ⟨u,hu⟩:∃ u,cs'[0]?=some u:=⟨cs'[0]'(by omega),by simp⟩
     rw [hu] at h8
     simp only [Nat.zero_mul,Addr.add,if_true] at h8
     exact ZNV (b:=a.block) (off:=a.off) (s:=a.spot) (u:=u) h8
    have hall:∀ i,∃ xs,i < len->TyR R T xs/\(ZbS (ZdU (P.underlying e)) xs).cells=xs/\xs.length=P.cellsOf e/\CR (Imm.of w) B0 xs a.block (a.off+i*P.cellsOf e)/\ZaG xs=true:=by
     intro i
     by_cases hlt:i < len
     ·obtain ⟨cs',h1,h2⟩:=hi i (by omega)
      obtain ⟨xs,h3,h4,h5⟩:=ZpX n n' e cs' _ T hT hby.2 (fun q hq=>hwt q (by rw [hx];exact ZEP hu (List.mem_map.2 ⟨i,List.mem_range.2 hlt,rfl⟩) hq)) h2
      obtain ⟨_,h6,h7⟩:=World.cells?_some h1
      have hlen:=ZaV h4
      refine ⟨xs,fun _=>⟨h3,Zxz (fun hs=>ZuC hT hs h3) (fun _=>Zq2 h5),by omega,ZuS xs cs' _ h4 (fun j hj=>?_),h5⟩⟩
      have h8:=h7 j (by omega)
      rw [Go.Deep.add_add,ZBz (hspot (by omega)),<-Nat.add_assoc] at h8
      exact h8
     ·exact ⟨[],fun h=>absurd h hlt⟩
    obtain ⟨Y,hY⟩:=Classical.axiomOfChoice hall
    subst hcs
    have hmx:maxLen=9223372036854775807:=by simp [maxLen]
    rw [hmx] at hm
    refine ⟨[.lst false ((List.range len).map fun i=>ZbS (ZdU (P.underlying e)) (Y i))],?_,?_,?_⟩
    ·simp only [TyR]
     refine ⟨(List.range len).map Y,by rw [List.map_map];rfl,by simpa using hlR,?_⟩
     intro y hy
     obtain ⟨i,hi',rfl⟩:=List.mem_map.1 hy
     exact (hY i (List.mem_range.1 hi')).1
    ·simp only [VRs,VR,List.length_map,List.length_range]
     refine ⟨_,_,rfl,⟨some a,cap,rfl,hl,hm,by simp,?_,ZpG len Y fun i hlt=>by rw [(hY i hlt).2.1];exact (hY i hlt).2.2.2.2⟩,rfl⟩
     cases len with
     | zero=>exact Or.inl (by simp)
     | succ len =>
      refine Or.inr ⟨a.block,a.off,P.cellsOf e,?_,hc,Zvg (len+1) a.off Y fun i hlt=>?_⟩
      ·have:=hspot (by omega)
       cases a;simp_all
      ·rw [(hY i hlt).2.1];exact ⟨(hY i hlt).2.2.1,(hY i hlt).2.2.2.1⟩
    ·simp only [ZaG,ZaN,Bool.and_true]
     exact ZpG len Y fun i hlt=>by rw [(hY i hlt).2.1];exact (hY i hlt).2.2.2.2
  ·rename_i fs hu
   split at hT
   case isFalse=>cases hT
   rename_i ho
   simp only [Option.map_eq_some_iff] at hT
   obtain ⟨Ts,hT,rfl⟩:=hT
   rw [hu] at h
   simp only at h
   split at h
   ·rename_i hl
    simp only [Option.map_eq_some_iff] at h
    obtain ⟨ys,hy,rfl⟩:=h
    unfold ZfX at hby
    rw [hu] at hby
    simp only [DataW.weights,hu] at hwt
    obtain ⟨xs,h1,h2,h3⟩:=ZqR (fun t cs x T h h1 h2 h'=>ZpX n fuel t cs x T h h1 h2 h') fs.toList 0 Ts ys hby hwt (by rw [hl];exact ho) hT hy
    exact ⟨xs,by simp only [TyR];exact h1,h2,h3⟩
   ·cases h
  ·cases hT
def Zqn (R:Nat) (s:Bool) (T:Ty) (x:AVal):Prop:=∃ xs,TyR R T xs/\x=ZbS s xs
theorem Zu3 {n:Nat} {t:TypeId} {v:Value} {d:DataW H} {ps:List MemPlace} {T:Ty} {r:Reach} {b0:Nat} (hT:ZdA P n t=some T) (hby:ZfX P n t=true) (hwt:∀ m ∈ d.weights P t,m<=R) (hv:Value.okWide P w r b0 t v) (h:DataW.Trod enc P w 0 spare held t v d ps) :
  ∃ x,Zqn R (ZdU (P.underlying t)) T x/\VR (Imm.of w) B0 x v/\ZaG x.cells=true:=by
 obtain ⟨fuel,h⟩:=h
 obtain ⟨xs,h1,h2,h3⟩:=ZpX n fuel t _ _ T hT hby hwt h
 refine ⟨ZbS (ZdU (P.underlying t)) xs,⟨xs,h1,rfl⟩,?_⟩
 by_cases hs:ZdU (P.underlying t)=true
 ·have : ∃ cs,v=.agg cs:=by
   unfold Value.okWide at hv
   cases hu:P.underlying t with
   | none=>rw [hu] at hs;simp [ZdU] at hs
   | some dd =>
    rw [hu] at hv hs
    cases dd <;> first | (simp [ZdU] at hs;done) | (obtain ⟨cs,e,_⟩:=hv;exact ⟨cs,e⟩)
  obtain ⟨cs,rfl⟩:=this
  rw [hs]
  exact ⟨by simp only [ZbS,if_true,VR];exact ⟨cs,rfl,h2⟩,h3⟩
 ·have hs':ZdU (P.underlying t)=false:=by simpa using hs
  have hl:=ZuC hT hs' h1
  have hlen:=ZaV h2
  rw [hs']
  match xs,hl with
  | [x],_ =>
   simp only [ZbS,Bool.false_eq_true,if_false,List.headD_cons]
   have hvc:v.cells=#[v]:=by
    cases n with
    | zero=>simp [ZdA] at hT
    | succ n =>
     simp only [ZdA] at hT
     split at hT
     ·rename_i hu;obtain ⟨b,rfl⟩:=Go.WideShapes.okWide_bool hu hv;rfl
     ·rename_i k hu;obtain ⟨b,rfl⟩:=Go.WideShapes.okWide_int hu hv;rfl
     ·rename_i hu;obtain ⟨b,rfl⟩:=Go.WideShapes.okWide_string hu hv;rfl
     ·rename_i e hu;obtain ⟨a,l,c,rfl⟩:=Go.WideShapes.okWide_slice hu hv;rfl
     ·rename_i fs hu;rw [hu] at hs';simp [ZdU] at hs'
     ·cases hT
   rw [hvc] at h2
   simp only [VRs] at h2
   obtain ⟨v',vs',e,h2,_⟩:=h2
   simp only [List.cons.injEq] at e
   rw [e.1]
   refine ⟨h2,?_⟩
   have hok:=Zq2 h3 x (by simp)
   have hx:x.cells=[x]:=by cases x <;> first | rfl | (simp [ZV] at hok;done)
   rw [hx];exact h3
end
end
section
open Go.RowKit
variable {R:Nat}
theorem ZiL {α:Type} {T:Ty} {s:Bool} {f:α->AVal} {Q:α->Prop} (h:∀ y,TyR R T y->∃ a,Q a/\ZbS s y=f a) {xs:List AVal} (hx:TyR R (.slice s T) xs):∃ l:List α,(l.length<=R/\∀ a ∈ l,Q a)/\xs=[.lst false (l.map f)]:=by
 simp only [TyR] at hx
 obtain ⟨ys,rfl,h1,h2⟩:=hx
 have : ∀ ys:List (List AVal),(∀ y ∈ ys,TyR R T y)->∃ l:List α,(∀ a ∈ l,Q a)/\ys.map (ZbS s)=l.map f:=by
  intro ys
  induction ys with
  | nil=>intro _;exact ⟨[],by simp,rfl⟩
  | cons y ys ih =>
   intro hy
   obtain ⟨a,hq,ha⟩:=h y (hy y (by simp))
   obtain ⟨l,hql,hl⟩:=ih fun y' h'=>hy y' (by simp [h'])
   exact ⟨a::l,by simpa using ⟨hq,hql⟩,by simp [ha,hl]⟩
 obtain ⟨l,hq,hl⟩:=this ys h2
 refine ⟨l,⟨?_,hq⟩,by rw [hl]⟩
 have:=congrArg List.length hl
 simp only [List.length_map] at this
 omega
theorem ZrB {y:List AVal} (h:TyR R (.int .u8) y):∃ b,True/\ZbS false y=Zc b:=by
 simp only [TyR] at h
 obtain ⟨n,hw,rfl⟩:=h
 have h1:0<=n/\n<=255:=by
  simp only [Lit.wf,Bool.and_eq_true,decide_eq_true_eq] at hw
  exact hw
 refine ⟨UInt8.ofNat n.toNat,trivial,?_⟩
 simp only [ZbS,Bool.false_eq_true,if_false,List.headD_cons,Zc,AVal.int.injEq,true_and]
 rw [UInt8.toNat_ofNat']
 omega
theorem Zjy {xs:List AVal} (h:TyR R (.slice false (.int .u8)) xs):∃ b:Zb,b.length<=R/\xs=[ZI b]:=by
 obtain ⟨b,h1,h2⟩:=ZiL (Q:=fun _=>True) (fun _=>ZrB) h
 exact ⟨b,h1.1,h2⟩
def okI (n:Int):Prop:=-9223372036854775808<=n/\n<=9223372036854775807
theorem ZdL {y:List AVal} (h:TyR R (.int .i64) y):∃ n,okI n/\y=[.int .i64 n]:=by
 simp only [TyR] at h
 obtain ⟨n,hw,rfl⟩:=h
 refine ⟨n,?_,rfl⟩
 simp only [Lit.wf,Bool.and_eq_true,decide_eq_true_eq] at hw
 exact hw
theorem Zew {y:List AVal} (h:TyR R .bool y):∃ b,y=[.bool b]:=by
 simp only [TyR] at h;exact h
theorem Zf3 {y:List AVal} (h:TyR R .str y):∃ l:Zb,l.length<=R/\y=[.str l]:=by
 simp only [TyR] at h;exact h
theorem ZzP {xs:List AVal} (h:TyR R (.slice false .str) xs):∃ l:List Zb,(l.length<=R/\∀ x ∈ l,x.length<=R)/\xs=[.lst false (l.map AVal.str)] :=
 ZiL (fun y hy=>by obtain ⟨l,h1,rfl⟩:=Zf3 hy;exact ⟨l,h1,rfl⟩) h
theorem ZGv {xs:List AVal} (h:TyR R (.slice false (.int .i64)) xs):∃ l:List Int,(l.length<=R/\∀ n ∈ l,okI n)/\xs=[.lst false (l.map (AVal.int .i64))] :=
 ZiL (fun y hy=>by obtain ⟨n,h1,rfl⟩:=ZdL hy;exact ⟨n,h1,rfl⟩) h
def Zjc:Ty:=.struct [.int .i64,.int .i64,.str,.str,.slice false (.int .u8)]
def ZoB (R:Nat) (p:Zp):Prop:=okI p.id/\okI p.num/\p.text.length<=R/\p.pair.length<=R/\p.data.length<=R
theorem ZHx {y:List AVal} (h:TyR R Zjc y):∃ p,ZoB R p/\ZbS true y=Zn p:=by
 unfold Zjc at h
 rw [TyR] at h
 simp only [Ze4] at h
 obtain ⟨_,_,rfl,h1,_,_,rfl,h2,_,_,rfl,h3,_,_,rfl,h4,_,_,rfl,h5,rfl⟩:=h
 obtain ⟨i,i1,rfl⟩:=ZdL h1
 obtain ⟨n,n1,rfl⟩:=ZdL h2
 obtain ⟨t,t1,rfl⟩:=Zf3 h3
 obtain ⟨q,q1,rfl⟩:=Zf3 h4
 obtain ⟨d,d1,rfl⟩:=Zjy h5
 exact ⟨⟨i,n,t,q,d⟩,⟨i1,n1,t1,q1,d1⟩,rfl⟩
def Znd (R:Nat) (l:List Zp):Prop:=l.length<=R/\∀ p ∈ l,ZoB R p
theorem Zup {xs:List AVal} (h:TyR R (.slice true Zjc) xs):∃ l:List Zp,Znd R l/\xs=[ZaA l]:=ZiL (fun _=>ZHx) h
def ZpZ:Ty:=.struct [.str,.int .i64,.bool,.bool,.int .i64,.int .i64]
theorem ZKJ {y:List AVal} (h:TyR R ZpZ y):∃ p:Zbq,(p.filter.length<=R/\okI p.qos/\okI p.handling/\okI p.id)/\ZbS true y=ZW p:=by
 unfold ZpZ at h
 rw [TyR] at h
 simp only [Ze4] at h
 obtain ⟨_,_,rfl,h1,_,_,rfl,h2,_,_,rfl,h3,_,_,rfl,h4,_,_,rfl,h5,_,_,rfl,h6,rfl⟩:=h
 obtain ⟨f,f1,rfl⟩:=Zf3 h1
 obtain ⟨q,q1,rfl⟩:=ZdL h2
 obtain ⟨n,rfl⟩:=Zew h3
 obtain ⟨a,rfl⟩:=Zew h4
 obtain ⟨k,k1,rfl⟩:=ZdL h5
 obtain ⟨i,i1,rfl⟩:=ZdL h6
 exact ⟨⟨f,q,n,a,k,i⟩,⟨f1,q1,k1,i1⟩,rfl⟩
def Zrt:Ty:=.struct [.str,.slice false (.int .u8),.int .i64,.bool,.slice true Zjc]
def Zqh:Ty:=.struct [.int .i64,.bool,.int .i64,.bool,.int .i64,.str,.slice false (.int .u8),.int .i64,.slice false (.int .i64),.slice true Zjc,.slice true ZpZ,.slice false .str,.bool,.int .i64,.str,.bool,Zrt,.bool,.str,.bool,.slice false (.int .u8),.bool]
structure Zux (R:Nat) (p:Zl):Prop where
 topic:p.topic.length<=R
 payload:p.payload.length<=R
 codes:p.codes.length<=R/\∀ n ∈ p.codes,okI n
 props:Znd R p.props
 subs:p.subs.length<=R/\∀ s ∈ p.subs,s.filter.length<=R/\okI s.qos/\okI s.handling/\okI s.id
 filters:p.filters.length<=R/\∀ f ∈ p.filters,f.length<=R
 client:p.client.length<=R
 wtopic:p.will.topic.length<=R
 wdata:p.will.data.length<=R
 wprops:Znd R p.will.props
 user:p.user.length<=R
 password:p.password.length<=R
 ints:okI p.type/\okI p.qos/\okI p.id/\okI p.code/\okI p.keep/\okI p.will.qos
theorem ZN7 {x:AVal} (h:Zqn R true Zqh x):∃ p,Zux R p/\x=Z4 p:=by
 obtain ⟨y,h,rfl⟩:=h
 unfold Zqh at h
 rw [TyR] at h
 simp only [Ze4] at h
 obtain ⟨_,_,rfl,h1,_,_,rfl,h2,_,_,rfl,h3,_,_,rfl,h4,_,_,rfl,h5,_,_,rfl,h6,_,_,rfl,h7,_,_,rfl,h8,_,_,rfl,h9,_,_,rfl,h10,_,_,rfl,h11,_,_,rfl,h12,_,_,rfl,h13,_,_,rfl,h14,_,_,rfl,h15,_,_,rfl,h16,_,_,rfl,h17,_,_,rfl,h18,_,_,rfl,h19,_,_,rfl,h20,_,_,rfl,h21,_,_,rfl,h22,rfl⟩:=h
 unfold Zrt at h17
 rw [TyR] at h17
 simp only [Ze4] at h17
 obtain ⟨_,_,rfl,w1,_,_,rfl,w2,_,_,rfl,w3,_,_,rfl,w4,_,_,rfl,w5,rfl⟩:=h17
 obtain ⟨a1,b1,rfl⟩:=ZdL h1
 obtain ⟨a2,rfl⟩:=Zew h2
 obtain ⟨a3,b3,rfl⟩:=ZdL h3
 obtain ⟨a4,rfl⟩:=Zew h4
 obtain ⟨a5,b5,rfl⟩:=ZdL h5
 obtain ⟨a6,b6,rfl⟩:=Zf3 h6
 obtain ⟨a7,b7,rfl⟩:=Zjy h7
 obtain ⟨a8,b8,rfl⟩:=ZdL h8
 obtain ⟨a9,b9,rfl⟩:=ZGv h9
 obtain ⟨a10,b10,rfl⟩:=Zup h10
 obtain ⟨a11,b11,rfl⟩:=ZiL (fun _=>ZKJ) h11
 obtain ⟨a12,b12,rfl⟩:=ZzP h12
 obtain ⟨a13,rfl⟩:=Zew h13
 obtain ⟨a14,b14,rfl⟩:=ZdL h14
 obtain ⟨a15,b15,rfl⟩:=Zf3 h15
 obtain ⟨a16,rfl⟩:=Zew h16
 obtain ⟨v1,u1,rfl⟩:=Zf3 w1
 obtain ⟨v2,u2,rfl⟩:=Zjy w2
 obtain ⟨v3,u3,rfl⟩:=ZdL w3
 obtain ⟨v4,rfl⟩:=Zew w4
 obtain ⟨v5,u5,rfl⟩:=Zup w5
 obtain ⟨a18,rfl⟩:=Zew h18
 obtain ⟨a19,b19,rfl⟩:=Zf3 h19
 obtain ⟨a20,rfl⟩:=Zew h20
 obtain ⟨a21,b21,rfl⟩:=Zjy h21
 obtain ⟨a22,rfl⟩:=Zew h22
 exact ⟨⟨a1,a2,a3,a4,a5,a6,a7,a8,a9,a10,a11,a12,a13,a14,a15,a16,⟨v1,v2,v3,v4,v5⟩,a18,a19,a20,a21,a22⟩,⟨b6,b7,b9,b10,b11,b12,b15,u1,u2,u5,b19,b21,b1,b3,b5,b8,b14,u3⟩,rfl⟩
end
section
theorem ZoS {α:Type} (l:List α):((8:Int) < l.length/\(8:Int)<=l.length)\/(¬(8:Int) < l.length/\l.take 8=l):=by
 by_cases h:(8:Int) < l.length
 ·exact Or.inl ⟨h,by omega⟩
 ·exact Or.inr ⟨h,List.take_of_length_le (by omega)⟩
theorem Ztw {α:Type} (l:List α):((12:Int) < l.length/\(12:Int)<=l.length)\/(¬(12:Int) < l.length/\l.take 12=l):=by
 by_cases h:(12:Int) < l.length
 ·exact Or.inl ⟨h,by omega⟩
 ·exact Or.inr ⟨h,List.take_of_length_le (by omega)⟩
def Za3 (p:Zl):Zl:={ p with subs:=p.subs.take 8,filters:=p.filters.take 8,codes:=p.codes.take 8,props:=p.props.take 12,payload:=p.payload.take 600,password:=p.password.take 100,will:={ p.will with props:=p.will.props.take 12,data:=p.will.data.take 100 } }
theorem ZAu (p:Zl):E 37 [.agg [.int .i64 p.type,.bool p.dup,.int .i64 p.qos,.bool p.retain,.int .i64 p.id,.str p.topic,.lst false (p.payload.map Zc),.int .i64 p.code,.lst false (p.codes.map (AVal.int .i64)),.lst false (p.props.map Zn),.lst false (p.subs.map ZW),.lst false (p.filters.map AVal.str),.bool p.clean,.int .i64 p.keep,.str p.client,.bool p.hasWill,.str p.will.topic,.lst false (p.will.data.map Zc),.int .i64 p.will.qos,.bool p.will.retain,.lst false (p.will.props.map Zn),.bool p.hasUser,.str p.user,.bool p.hasPassword,.lst false (p.password.map Zc),.bool p.present]] []=some (.agg [.int .i64 (Za3 p).type,.bool (Za3 p).dup,.int .i64 (Za3 p).qos,.bool (Za3 p).retain,.int .i64 (Za3 p).id,.str (Za3 p).topic,.lst false ((Za3 p).payload.map Zc),.int .i64 (Za3 p).code,.lst false ((Za3 p).codes.map (AVal.int .i64)),.lst false ((Za3 p).props.map Zn),.lst false ((Za3 p).subs.map ZW),.lst false ((Za3 p).filters.map AVal.str),.bool (Za3 p).clean,.int .i64 (Za3 p).keep,.str (Za3 p).client,.bool (Za3 p).hasWill,.str (Za3 p).will.topic,.lst false ((Za3 p).will.data.map Zc),.int .i64 (Za3 p).will.qos,.bool (Za3 p).will.retain,.lst false ((Za3 p).will.props.map Zn),.bool (Za3 p).hasUser,.str (Za3 p).user,.bool (Za3 p).hasPassword,.lst false ((Za3 p).password.map Zc),.bool (Za3 p).present],[]):=by
 rw [Zh (by rfl) ZKf]
 have k6:(600:Int).toNat=600:=rfl
 have k1:(100:Int).toNat=100:=rfl
 unfold Za3
 rcases ZoS p.subs with ⟨h1,h2⟩ | ⟨h1,h2⟩ <;> rcases ZoS p.filters with ⟨h3,h4⟩ | ⟨h3,h4⟩ <;> rcases ZoS p.codes with ⟨h5,h6⟩ | ⟨h5,h6⟩ <;> rcases Ztw p.props with ⟨h7,h8⟩ | ⟨h7,h8⟩ <;> rcases Ztw p.will.props with ⟨h9,h10⟩ | ⟨h9,h10⟩
 all_goals simp -implicitDefEqProofs only [EQA,ZC,Zu,Nat.reduceAdd,Nat.reduceLT,Nat.reduceLeDiff,Nat.reduceEqDiff,Nat.reduceBEq,↓reduceIte,Zd,ZBe,ZqB,ZwH,oI,oN,gt_iff_lt,Zu5,Zhi,h1,h2,h3,h4,h5,h6,h7,h8,h9,h10,k6,k1,Int.reduceToNat,Int.reduceLE]
theorem ZIe (p:Zl) (σ:Za) (sq own:Nat):Zj E1 BY σ sq 37 own true [.agg (Zv p)]=some (.agg (Zv (Za3 p)),σ,{}) :=
 ZbB (ZbC (ZAu p) (by kernel_rfl) (by rw [List.all_cons,Zd2];rfl) (by rw [List.map_cons,Zd0];rfl) rfl (fun _=>rfl) σ sq own)
theorem ZJm {p:Zl} {R:Nat} (h:Zux R p) (hR:R<=9223372036854775807):OkW (Za3 p):=by
 have t:∀ {q:Zp},ZoB R q->ZcQ q:=fun {q} k=>⟨Nat.le_trans k.2.2.1 hR,Nat.le_trans k.2.2.2.1 hR,Nat.le_trans k.2.2.2.2 hR⟩
 refine ⟨Nat.le_trans h.topic hR,?_,?_,⟨?_,fun q hq=>t (h.props.2 q (List.mem_of_mem_take hq))⟩,⟨?_,fun s hs=>Nat.le_trans (h.subs.2 s (List.mem_of_mem_take hs)).1 hR⟩,⟨?_,fun f hf=>Nat.le_trans (h.filters.2 f (List.mem_of_mem_take hf)) hR⟩,Nat.le_trans h.client hR,Nat.le_trans h.wtopic hR,?_,⟨?_,fun q hq=>t (h.wprops.2 q (List.mem_of_mem_take hq))⟩,Nat.le_trans h.user hR,?_⟩
 all_goals simp only [Za3,List.length_take]
 all_goals omega
theorem ZA2 (p:Zl):(Za3 p).payload.length<=1000000:=by simp only [Za3,List.length_take];omega
theorem Ztf {p:Zl} (h:OkW p):OkL p:=⟨by have:=h.codes;omega,by have:=h.props.1;omega,by have:=h.subs.1;omega,by have:=h.filters.1;omega,by have:=h.wprops.1;omega⟩
end
section
def NZ {α:Type} (x:Except Int α):Prop:=∀ e,x=.error e->e≠0
theorem Zbk {α:Type} (a:α):NZ (.ok a:Except Int α):=fun _ h=>by cases h
theorem Zc1 {α:Type} {e:Int} (h:e≠0):NZ (.error e:Except Int α):=fun _ k=>by injection k with k;subst k;exact h
theorem Zg8 (n:Nat) (l:Zb):NZ (Zar n l):=by unfold Zar;split;exact Zc1 (by decide);exact Zbk _
theorem ZgK (l:Zb):NZ (Zal l):=by unfold Zal;split;exact Zbk _;exact Zc1 (by decide)
theorem Ztg (l:Zb):NZ (Zcu l):=by unfold Zcu;split;exact Zbk _;exact Zc1 (by decide)
theorem ZgT (w:Int) (l:Zb):NZ (Zbw w l):=by
 unfold Zbw
 split
 ·exact Zbk _
 ·rename_i h;exact Zc1 h
theorem ZaQ {α β:Type} {x:Except Int α} (h:NZ x) {e:Int} (k:x=.error e):NZ (.error e:Except Int β):=Zc1 (h e k)
theorem ZnF (l:Zb):NZ (idK l):=by
 unfold idK
 split
 ·split
  ·exact Zc1 (by decide)
  ·exact Zbk _
 ·rename_i h;exact ZaQ (Zg8 2 l) h
theorem Zmq (k:Int) (l:Zb):NZ (Zat k l):=by
 unfold Zat
 split
 ·split
  ·exact Zbk _
  ·exact Zc1 (by decide)
 ·rename_i h;exact ZaQ (Zg8 1 l) h
theorem ZGy (k:Int) (l:Zb):NZ (ZbW k l):=by
 unfold ZbW
 split
 ·exact Zbk _
 split
 ·rename_i h;exact ZaQ (Zmq k l) h
 split
 ·exact Zbk _
 split
 ·rename_i h;exact ZaQ (ZgT k _) h
 ·exact Zbk _
theorem ZwI (l:Zb):NZ (Zbf l):=by
 unfold Zbf
 split
 ·rename_i h;exact ZaQ (ZgK l) h
 split
 ·rename_i h;exact ZaQ (Zg8 1 _) h
 split
 ·split
  ·exact Zbk _
  ·exact Zc1 (by decide)
 ·exact Zc1 (by decide)
theorem Zrg {α:Type} {one:Zb->RK α} (h1:∀ l,NZ (one l)) (hlen:∀ {l s r},one l=.ok (s,r)->r.length < l.length):∀ (n:Nat) (l:Zb),l.length<=n->NZ (Zas one n l)
 | 0,l,h=>by
  unfold Zas
  rw [if_pos (by omega)]
  exact Zbk _
 | n+1,l,h=>by
  unfold Zas
  split
  ·exact Zbk _
  split
  ·rename_i k;exact ZaQ (h1 l) k
  ·rename_i s r k
   have:=hlen k
   split
   ·rename_i k2;exact ZaQ (Zrg h1 hlen n r (by omega)) k2
   ·exact Zbk _
theorem ZDD (k:Int) (l:Zb):NZ (ZcL k l):=by
 unfold ZcL
 split
 ·rename_i h;exact ZaQ (ZnF l) h
 split
 ·rename_i h;exact ZaQ (ZgT k _) h
 split
 ·exact Zc1 (by decide)
 ·exact Zbk _
theorem Zmi {α:Type} {one:Zb->RK α} (h1:∀ l,NZ (one l)) (hlen:∀ {l s r},one l=.ok (s,r)->r.length < l.length) (k:Int) (l:Zb):NZ (Zbl one k l):=by
 unfold Zbl
 split
 ·rename_i h;exact ZaQ (ZDD k l) h
 split
 ·rename_i h;exact ZaQ (Zrg h1 hlen _ _ (Nat.le_refl _)) h
 ·exact Zbk _
theorem Zip {x:Except Int (Zl×Zb)} (h:NZ x):NZ (Zb4 x):=by
 unfold Zb4
 split
 ·exact ZaQ h rfl
 split
 ·exact Zbk _
 ·exact Zc1 (by decide)
theorem ZuZ (q:Zl) (l:Zb):NZ (Zb0 q l):=by
 unfold Zb0
 split
 ·rename_i h;exact ZaQ (ZGy _ l) h
 ·exact Zbk _
theorem ZLD (q:Zl) (l:Zb):NZ (idQ q l):=by
 unfold idQ
 split
 ·rename_i h;exact ZaQ (ZnF l) h
 ·exact ZuZ _ _
theorem ZKx (q:Zl) (l:Zb):NZ (Zdf q l):=by
 unfold Zdf
 split
 ·rename_i h;exact ZaQ (Zg8 1 l) h
 split
 ·split
  ·rename_i h;exact ZaQ (Zmq 2 _) h
  split
  ·rename_i h;exact ZaQ (ZgT 2 _) h
  ·exact Zbk _
 ·exact Zc1 (by decide)
theorem ZzG (b:Bool) (q:Zl) (l:Zb):NZ (ZdO b q l):=by
 unfold ZdO
 split
 ·split
  ·rename_i h;exact ZaQ (Ztg l) h
  ·exact Zbk _
 ·exact Zbk _
theorem Zy1 (b:Bool) (q:Zl) (l:Zb):NZ (Zds b q l):=by
 unfold Zds
 split
 ·split
  ·rename_i h;exact ZaQ (ZgK l) h
  ·exact Zbk _
 ·exact Zbk _
theorem ZNL (l:Zb):NZ (ZcS l):=by
 unfold ZcS
 split
 ·rename_i h;exact ZaQ (ZgT 16 l) h
 split
 ·rename_i h;exact ZaQ (ZgK _) h
 split
 ·rename_i h;exact ZaQ (Ztg _) h
 ·exact Zbk _
theorem ZLY (b:Bool) (q:Zl) (l:Zb):NZ (Zdn b q l):=by
 unfold Zdn
 split
 ·split
  ·rename_i h;exact ZaQ (ZNL l) h
  ·exact Zbk _
 ·exact Zbk _
theorem ZK7 (m:Int) (q:Zl) (l:Zb):NZ (Ze6 m q l):=by
 unfold Ze6
 split
 ·rename_i h;exact ZaQ (ZLY _ q l) h
 split
 ·rename_i h;exact ZaQ (Zy1 _ _ _) h
 ·exact ZzG _ _ _
theorem ZAz (q:Zl) (m:Int) (l:Zb):NZ (ZeD q m l):=by
 unfold ZeD
 split
 ·rename_i h;exact ZaQ (Zg8 2 l) h
 split
 ·rename_i h;exact ZaQ (ZgT 1 _) h
 split
 ·rename_i h;exact ZaQ (ZgK _) h
 ·exact ZK7 _ _ _
theorem ZCg (q:Zl) (l:Zb):NZ (ZcG q l):=by
 unfold ZcG
 split
 ·rename_i h;exact ZaQ (ZgK l) h
 split
 case isFalse=>exact Zc1 (by decide)
 split
 ·rename_i h;exact ZaQ (Zg8 1 _) h
 split
 case isFalse=>exact Zc1 (by decide)
 split
 ·rename_i h;exact ZaQ (Zg8 1 _) h
 split
 case isFalse=>exact Zc1 (by decide)
 exact ZAz _ _ _
theorem ZxW (t:Int) (l:Zb):NZ (ZbQ t l):=by
 unfold ZbQ
 split
 ·exact Zip (ZCg _ l)
 split
 ·exact Zip (ZKx _ l)
 split
 ·exact Zip (ZLD _ l)
 split
 ·unfold Zfh
  split
  ·rename_i h;exact ZaQ (Zmi ZwI ZhB 8 l) h
  ·exact Zbk _
 split
 ·unfold Zfa
  split
  ·rename_i h;exact ZaQ (Zmi ZgK Zly 10 l) h
  ·exact Zbk _
 split
 ·unfold Zej
  split
  ·rename_i h;exact ZaQ (Zmi (Zmq _) ZiP _ l) h
  ·exact Zbk _
 split
 ·exact Zip (ZuZ _ l)
 ·exact Zip (Zbk _)
theorem Ztq (q:Int) (l:Zb):NZ (Zcv q l):=by
 unfold Zcv
 split
 ·rename_i h;exact ZaQ (ZgK l) h
 split
 ·split
  ·rename_i h;exact ZaQ (ZnF _) h
  split
  ·rename_i h;exact ZaQ (ZgT 3 _) h
  ·exact Zbk _
 ·split
  ·rename_i h;exact ZaQ (ZgT 3 _) h
  ·exact Zbk _
theorem ZjE {t:Int} {x:Except Int (Zl×Zb)} (h:∀ q r,x=.ok (q,r)->q.type=t) {q:Zl} (e:Zb4 x=.ok q):q.type=t:=by
 unfold Zb4 at e
 split at e
 ·cases e
 rename_i q' r'
 split at e
 ·injection e with e;subst e;exact h _ _ rfl
 ·cases e
theorem ZrV {q q':Zl} {l r:Zb} (e:Zb0 q l=.ok (q',r)):q'.type=q.type:=by
 unfold Zb0 at e
 split at e
 ·cases e
 ·injection e with e;injection e with e _;subst e;rfl
theorem Zw4 {q q':Zl} {l r:Zb} (e:idQ q l=.ok (q',r)):q'.type=q.type:=by
 unfold idQ at e
 split at e
 ·cases e
 ·rename_i n r1 _
  exact ZrV (q:={ q with id:=n }) e
theorem ZB4 {q q':Zl} {l r:Zb} (e:Zdf q l=.ok (q',r)):q'.type=q.type:=by
 unfold Zdf at e
 split at e
 ·cases e
 split at e
 case isFalse=>cases e
 split at e
 ·cases e
 split at e
 ·cases e
 injection e with e;injection e with e _;subst e;rfl
theorem ZCG {b:Bool} {q q':Zl} {l r:Zb} (e:ZdO b q l=.ok (q',r)):q'.type=q.type:=by
 unfold ZdO at e
 split at e
 ·split at e
  ·cases e
  ·injection e with e;injection e with e _;subst e;rfl
 ·injection e with e;injection e with e _;subst e;rfl
theorem ZHn {b:Bool} {q q':Zl} {l r:Zb} (e:Zds b q l=.ok (q',r)):q'.type=q.type:=by
 unfold Zds at e
 split at e
 ·split at e
  ·cases e
  ·injection e with e;injection e with e _;subst e;rfl
 ·injection e with e;injection e with e _;subst e;rfl
theorem ZJJ {b:Bool} {q q':Zl} {l r:Zb} (e:Zdn b q l=.ok (q',r)):q'.type=q.type:=by
 unfold Zdn at e
 split at e
 ·split at e
  ·cases e
  ·injection e with e;injection e with e _;subst e;rfl
 ·injection e with e;injection e with e _;subst e;rfl
theorem ZNA {q q':Zl} {l r:Zb} (e:ZcG q l=.ok (q',r)):q'.type=q.type:=by
 unfold ZcG at e
 split at e
 ·cases e
 split at e
 case isFalse=>cases e
 split at e
 ·cases e
 split at e
 case isFalse=>cases e
 split at e
 ·cases e
 split at e
 case isFalse=>cases e
 unfold ZeD at e
 split at e
 ·cases e
 split at e
 ·cases e
 split at e
 ·cases e
 unfold Ze6 at e
 split at e
 ·cases e
 rename_i hw
 split at e
 ·cases e
 rename_i hu
 rw [ZCG e,ZHn hu,ZJJ hw]
 rfl
theorem Zn6 {t:Int} {l:Zb} {q:Zl} (e:ZbQ t l=.ok q):q.type=t:=by
 unfold ZbQ at e
 split at e
 ·rename_i h;subst h;exact ZjE (fun _ _ h=>ZNA h) e
 split at e
 ·rename_i h;subst h;exact ZjE (fun _ _ h=>ZB4 h) e
 split at e
 ·exact ZjE (fun _ _ h=>Zw4 h) e
 split at e
 ·rename_i h;subst h
  unfold Zfh at e
  split at e
  ·cases e
  ·injection e with e;subst e;rfl
 split at e
 ·rename_i h;subst h
  unfold Zfa at e
  split at e
  ·cases e
  ·injection e with e;subst e;rfl
 split at e
 ·unfold Zej at e
  split at e
  ·cases e
  ·injection e with e;subst e;rfl
 split at e
 ·exact ZjE (fun _ _ h=>ZrV h) e
 ·exact ZjE (fun q r h=>by injection h with h;injection h with h _;subst h;rfl) e
theorem Zrj (b:Int) (l:Zb):((Za6 b l).1=ZT/\(Za6 b l).2≠0)\/((Za6 b l).2=0/\(Za6 b l).1.type=tyI b/\tyI b≠0):=by
 unfold Za6
 split
 ·exact Or.inl ⟨rfl,by decide⟩
 rename_i h0
 split
 ·rename_i h3
  unfold Zdw
  split
  ·split
   ·split
    ·rename_i h;exact Or.inl ⟨rfl,Ztq _ _ _ h⟩
    ·exact Or.inr ⟨rfl,h3.symm,h0⟩
   ·exact Or.inl ⟨rfl,by decide⟩
  ·exact Or.inl ⟨rfl,by decide⟩
 split
 ·split
  ·rename_i h;exact Or.inl ⟨rfl,ZxW _ _ _ h⟩
  ·rename_i h;exact Or.inr ⟨rfl,Zn6 h,h0⟩
 ·exact Or.inl ⟨rfl,by decide⟩
theorem Zd9 {x:Except Int (Zl×Zb)} {q:Zl} (h:Zb4 x=.ok q):∃ r:Zb,x=.ok (q,r)/\r.length=0:=by
 unfold Zb4 at h
 split at h
 ·cases h
 ·split at h
  ·rename_i hr
   injection h with h;subst h
   exact ⟨_,rfl,hr⟩
  ·cases h
theorem ZNv {b:Int} {l:Zb} {q:Zl} (h:Za6 b l=(q,0)) (h3:tyI b≠3):ZbQ (tyI b) l=.ok q/\tyI b≠0/\ZaU b 15=Zc2 (tyI b):=by
 have ho:=Zrj b l
 unfold Za6 at h ho
 split at h
 ·injection h with _ h;cases h
 rename_i h0
 rw [if_neg h0] at ho
 simp only [if_neg h3] at ho h
 split at h
 ·rename_i hf
  refine ⟨?_,h0,hf⟩
  rw [if_pos hf] at ho
  cases hb:ZbQ (tyI b) l with
  | error e =>
   rw [hb] at h ho
   simp only at h ho
   injection h with e1 e2
   subst e2
   rcases ho with ⟨_,h2⟩ | ⟨_,h2,h4⟩
   ·exact absurd rfl h2
   ·rw [<-h2] at h4;exact absurd rfl h4
  | ok q' =>
   rw [hb] at h
   injection h with e1 _
   rw [e1]
 ·injection h with _ h;cases h
theorem Zyq {b:Int} (h0:tyI b≠0) (h3:tyI b≠3) (hf:ZaU b 15=Zc2 (tyI b)) (l:Zb):Za6 b l=match ZbQ (tyI b) l with
  | .error e=>(ZT,e)
  | .ok q=>(q,0):=by
 unfold Za6
 rw [if_neg h0,if_neg h3,if_pos hf]
 all_goals rfl
end
section
theorem Zf8 {n:Nat} {a:UInt8} (h:n=a.toNat):UInt8.ofNat n=a:=by subst h;exact UInt8.ofNat_toNat
theorem be1 (a:UInt8):beB (Zba [a]) 1=[a]:=by
 have ha:=a.toNat_lt
 unfold Zba
 rw [Zbz,Zcy]
 show []++[UInt8.ofNat _]=_
 rw [List.nil_append,Zf8 (a:=a) (by omega)]
theorem be2 (a c:UInt8):beB (Zba [a,c]) 2=[a,c]:=by
 have ha:=a.toNat_lt;have hc:=c.toNat_lt
 unfold Zba
 rw [Zbz,Zbz,Zcy]
 show ([]++[UInt8.ofNat _])++[UInt8.ofNat _]=_
 rw [List.nil_append,Zf8 (a:=a) (by omega),Zf8 (a:=c) (by omega)]
 rfl
theorem be4 (a c d e:UInt8):beB (Zba [a,c,d,e]) 4=[a,c,d,e]:=by
 have ha:=a.toNat_lt;have hc:=c.toNat_lt;have hd:=d.toNat_lt;have he:=e.toNat_lt
 unfold Zba
 rw [Zbz,Zbz,Zbz,Zbz,Zcy]
 show ((([]++[UInt8.ofNat _])++[UInt8.ofNat _])++[UInt8.ofNat _])++[UInt8.ofNat _]=_
 rw [List.nil_append,Zf8 (a:=a) (by omega),Zf8 (a:=c) (by omega),Zf8 (a:=d) (by omega),Zf8 (a:=e) (by omega)]
 rfl
theorem ZmL {n:Nat} (hn:n=1\/n=2\/n=4) {l:Zb} (hl:n<=l.length):beB (Zba (l.take n)) n=l.take n:=by
 rcases hn with rfl | rfl | rfl
 ·match l,hl with
  | a::_,_=>exact be1 a
 ·match l,hl with
  | a::c::_,_=>exact be2 a c
 ·match l,hl with
  | a::c::d::e::_,_=>exact be4 a c d e
theorem ZgI {n:Nat} (hn:n=1\/n=2) {l r:Zb} {a:Int} (h:Zar n l=.ok (a,r)):l=beB (ZD a) n++r/\0<=a/\a < 65536:=by
 unfold Zar at h
 split at h
 ·cases h
 rename_i hl
 injection h with h;injection h with e1 e2;subst e1 e2
 have hb:Zba (l.take n) < 65536:=by
  have : (l.take n).length=n:=by rw [List.length_take];omega
  generalize l.take n=t at *
  unfold Zba
  rcases hn with rfl | rfl
  ·match t,this with
   | [x],_=>rw [Zbz,Zcy];have:=x.toNat_lt;omega
  ·match t,this with
   | [x,y],_=>rw [Zbz,Zbz,Zcy];have:=x.toNat_lt;have:=y.toNat_lt;omega
 have hw:ZeZ (l.take n)=((Zba (l.take n):Nat):Int):=by unfold ZeZ;exact ZbX (by omega) (by omega)
 rw [hw]
 refine ⟨?_,by omega,by omega⟩
 rw [ZmI (by omega) (by omega),Int.toNat_natCast,ZmL (by omega) (by omega),List.take_append_drop]
theorem Zn5 {b:Zb} (h:(Zan b).2.2=0):b.take (Zan b).2.1=(Zbv (Zan b).1).1/\(Zan b).1.length<=65535:=by
 unfold Zan at h ⊢
 split at h
 ·simp at h
 rename_i hn
 rw [if_neg hn]
 simp only
 have h2:(b.take 2).length=2:=by rw [List.length_take];omega
 have hb:Zba (b.take 2) < 65536:=by
  generalize b.take 2=t at *
  unfold Zba
  match t,h2 with
  | [x,y],_=>rw [Zbz,Zbz,Zcy];have:=x.toNat_lt;have:=y.toNat_lt;omega
 have hl:((b.drop 2).take (Zba (b.take 2))).length=Zba (b.take 2):=by rw [List.length_take,List.length_drop];omega
 refine ⟨?_,by omega⟩
 unfold Zbv
 rw [if_neg (by omega),hl,ZmL (by omega) (by omega),<-List.take_add]
theorem ZjH {b:Zb} (h:(ZX b).2.2=0):b.take (ZX b).2.1=(Zad (ZX b).1).1/\(ZX b).1.length<=65535:=by
 have hd:(Zan b).2.2=0:=by
  unfold ZX at h
  split at h
  ·rename_i h1;exact absurd h h1
  ·rename_i h1;exact Classical.byContradiction h1
 unfold ZX at h ⊢
 rw [if_neg (by simp [hd])] at h ⊢
 split at h
 ·rename_i ht
  rw [if_pos ht]
  obtain ⟨h1,h2⟩:=Zn5 hd
  unfold Zad
  rw [if_pos ht]
  exact ⟨h1,h2⟩
 ·simp at h
theorem Zco {l r s:Zb} (h:Zal l=.ok (s,r)):l=(Zad s).1++r/\s.length<=65535:=by
 unfold Zal at h
 split at h
 ·rename_i h0
  injection h with h;injection h with e1 e2;subst e1 e2
  obtain ⟨h1,h2⟩:=ZjH h0
  rw [<-h1,List.take_append_drop]
  exact ⟨rfl,h2⟩
 ·cases h
theorem ZgG {l r s:Zb} (h:Zcu l=.ok (s,r)):l=(Zbv s).1++r/\s.length<=65535:=by
 unfold Zcu at h
 split at h
 ·rename_i h0
  injection h with h;injection h with e1 e2;subst e1 e2
  obtain ⟨h1,h2⟩:=Zn5 h0
  rw [<-h1,List.take_append_drop]
  exact ⟨rfl,h2⟩
 ·cases h
theorem Zua:∀ (b:Zb) (i n:Nat),i<=4->(gvA i n b).2.2=0->∃ m k,(gvA i n b).1=n+m*128 ^ i/\(gvA i n b).2.1=i+k/\b.take k=ZbO (3 - i) m/\i<=3/\(0 < i->0 < m)
 | [],i,n,_,h=>by
  unfold gvA at h
  split at h <;> simp at h
 | c::r,i,n,hi,h=>by
  have hc:=c.toNat_lt
  unfold gvA at h ⊢
  split at h
  ·simp at h
  rename_i h4
  rw [if_neg h4]
  split at h
  ·rename_i hlt
   rw [if_pos hlt]
   split at h
   ·simp at h
   rename_i h0
   rw [if_neg h0]
   refine ⟨c.toNat,1,?_,rfl,?_,by omega,?_⟩
   ·simp only
    rw [Nat.mod_eq_of_lt hlt]
   ·show [c]=_
    have : ZbO (3 - i) c.toNat=[UInt8.ofNat c.toNat]:=by
     cases 3 - i with
     | zero=>rfl
     | succ k=>unfold ZbO;rw [if_pos hlt]
    rw [this,UInt8.ofNat_toNat]
   ·intro hp
    rcases Nat.eq_zero_or_pos c.toNat with hz | hz
    ·exact absurd ⟨by rw [<-UInt8.ofNat_toNat (x:=c),hz];rfl,hp⟩ h0
    ·exact hz
  ·rename_i hge
   rw [if_neg hge]
   obtain ⟨m,k,e1,e2,e3,e4,e5⟩:=Zua r (i+1) _ (by omega) h
   have hm:=e5 (by omega)
   refine ⟨c.toNat % 128+128*m,k+1,?_,by omega,?_,by omega,fun _=>by omega⟩
   ·rw [e1,Nat.pow_succ,Nat.add_mul,Nat.add_assoc]
    congr 2
    rw [Nat.mul_comm 128 m,Nat.mul_assoc,Nat.mul_comm (128 ^ i) 128]
   ·rw [List.take_succ_cons,e3,show 3 - i=(3 - (i+1))+1 from by omega]
    conv=>rhs;unfold ZbO
    rw [if_neg (by omega)]
    have a1:(c.toNat % 128+128*m) % 128=c.toNat % 128:=by omega
    have a2:(c.toNat % 128+128*m) / 128=m:=by omega
    rw [a1,a2,Zf8 (a:=c) (by omega)]
theorem Zpk {b:Zb} (h:(ZO b).2.2=0):b.take (ZO b).2.1=(Zah ((ZO b).1:Nat)).1:=by
 have hl:=Zjn b
 obtain ⟨m,k,e1,e2,e3,_,_⟩:=Zua b 0 0 (by omega) h
 have e1':(ZO b).1=m:=by
  show (gvA 0 0 b).1=m
  rw [e1];simp
 have e2':(ZO b).2.1=k:=by
  show (gvA 0 0 b).2.1=k
  rw [e2];simp
 rw [e1'] at hl ⊢
 rw [e2',e3]
 unfold Zah
 rw [if_neg (by omega)]
 rfl
theorem Zm9 {id:Int} {W:Nat} (hW:W=1\/W=2\/W=4) {b:Zb} {p:Zp} {u:Nat} (h:Zd8 id W b=(p,u,true)):b.take u=beB (ZD p.num) W/\p.id=id:=by
 unfold Zd8 at h
 split at h
 ·injection h with _ h;injection h with _ h;cases h
 rename_i hl
 injection h with h1 h;injection h with h2 _;subst h1 h2
 have hg:Zba (b.take W) < 4294967296:=ZtS _ (by rw [List.length_take];omega)
 refine ⟨?_,rfl⟩
 simp only
 rw [ZmI (by omega) (by omega),Int.toNat_natCast,ZmL hW (by omega)]
theorem ZDS {k id:Int} {b:Zb} {p:Zp} {u:Nat} (hk:k=0\/k=1\/k=2\/k=3\/k=4\/k=5\/k=6\/k=7) (h:ZdK k id b=(p,u,true)):b.take u=(Zdo k p).1++(Zdo k p).2/\p.id=id:=by
 unfold ZdK at h
 unfold Zdo
 rcases hk with rfl | rfl | rfl | rfl | rfl | rfl | rfl | rfl
 ·simp only [show ¬(0:Int)=1 by decide,show ¬(0:Int)=2 by decide,show ¬(0:Int)=3 by decide,show ¬(0:Int)=4 by decide,show ¬(0:Int)=5 by decide,show ¬(0:Int)=6 by decide,show ¬(0:Int)=7 by decide,if_false] at h ⊢
  injection h with h1 h;injection h with h2 _;subst h1 h2
  exact ⟨rfl,rfl⟩
 ·rw [if_pos rfl] at h ⊢
  obtain ⟨h1,h2⟩:=Zm9 (by omega) h
  exact ⟨by rw [h1,List.append_nil],h2⟩
 ·rw [if_neg (by decide),if_pos rfl] at h ⊢
  obtain ⟨h1,h2⟩:=Zm9 (by omega) h
  exact ⟨by rw [h1,List.append_nil],h2⟩
 ·rw [if_neg (by decide),if_neg (by decide),if_pos rfl] at h ⊢
  obtain ⟨h1,h2⟩:=Zm9 (by omega) h
  exact ⟨by rw [h1,List.append_nil],h2⟩
 ·rw [if_neg (by decide),if_neg (by decide),if_neg (by decide),if_pos rfl] at h ⊢
  injection h with h1 h;injection h with h2 h3;subst h1 h2
  have h3:(ZO b).2.2=0:=by simpa using h3
  exact ⟨by rw [Zpk h3,List.append_nil],rfl⟩
 ·rw [if_neg (by decide),if_neg (by decide),if_neg (by decide),if_neg (by decide),if_pos rfl] at h ⊢
  injection h with h1 h;injection h with h2 h3;subst h1 h2
  have h3:(ZX b).2.2=0:=by simpa using h3
  exact ⟨by rw [(ZjH h3).1,List.append_nil],rfl⟩
 ·rw [if_neg (by decide),if_neg (by decide),if_neg (by decide),if_neg (by decide),if_neg (by decide),if_pos rfl] at h ⊢
  injection h with h1 h;injection h with h2 h3;subst h1 h2
  have h3:(Zan b).2.2=0:=by simpa using h3
  exact ⟨by rw [(Zn5 h3).1,List.append_nil],rfl⟩
 ·rw [if_neg (by decide),if_neg (by decide),if_neg (by decide),if_neg (by decide),if_neg (by decide),if_neg (by decide),if_pos rfl] at h ⊢
  unfold ZfJ at h
  split at h
  ·rename_i h0
   injection h with h1 h;injection h with h2 h3;subst h1 h2
   have h3:(ZX (b.drop (ZX b).2.1)).2.2=0:=by simpa using h3
   refine ⟨?_,rfl⟩
   simp only
   rw [List.take_add,(ZjH h0).1,(ZjH h3).1]
  ·injection h with _ h;injection h with _ h;cases h
theorem ZDV {w:Int} {b:Zb} {l:List Zp} {p:Zp} {u:Nat} (h:Za7 w b l=(p,u,0)):b.take u=Zcx p:=by
 unfold Za7 at h
 split at h
 ·injection h with _ h;injection h with _ h;cases h
 rename_i hv
 have hv:(ZO b).2.2=0:=Classical.byContradiction fun e=>hv (Or.inl e)
 unfold Zjg at h
 split at h
 ·injection h with _ h;injection h with _ h;cases h
 rename_i h1
 split at h
 ·injection h with _ h;injection h with _ h;cases h
 split at h
 case isFalse =>
  split at h
  ·injection h with _ h;injection h with _ h;cases h
  ·injection h with _ h;injection h with _ h;cases h
 injection h with e1 h;injection h with e2 _
 generalize hx:Zcb ((ZO b).1:Nat) (b.drop (ZO b).2.1)=x at *
 obtain ⟨p',u',t⟩:=x
 simp only at e1 e2 h1
 have ht:t=true:=by simpa using h1
 subst e1 e2 ht
 unfold Zcb at hx
 obtain ⟨h2,h3⟩:=ZDS (ZnO _) hx
 unfold Zcx
 rw [List.take_add,h2,Zpk hv,h3]
theorem Zr9 {w:Int}:∀ {n:Nat} {b:Zb} {acc res:List Zp},Zch w n b acc=(res,0)->∃ ps,res=acc++ps/\b=(ps.map Zcx).flatten
 | n,[],acc,res,h=>by
  have h:(acc,(0:Int))=(res,0):=by
   cases n <;> simpa [Zch] using h
  injection h with h _
  exact ⟨[],by simp [h],by simp⟩
 | 0,_::_,acc,res,h=>by
  simp only [Zch] at h
  injection h with _ h;cases h
 | n+1,c::r,acc,res,h=>by
  simp only [Zch] at h
  split at h
  ·rename_i h0
   obtain ⟨ps,e1,e2⟩:=Zr9 h
   have h1:=ZDV (w:=w) (b:=c::r) (l:=acc) (p:=(Za7 w (c::r) acc).1) (u:=(Za7 w (c::r) acc).2.1) (by rw [<-h0])
   refine ⟨(Za7 w (c::r) acc).1::ps,by rw [e1];simp,?_⟩
   rw [List.map_cons,List.flatten_cons,<-h1,<-e2,List.take_append_drop]
  ·rename_i h0
   injection h with _ h
   exact absurd h h0
theorem ZCM {w:Int} {b:Zb} (h:(Z3 w b).2.2=0):(Zbc w (Z3 w b).1).2=0/\b.take (Z3 w b).2.1=(Zbc w (Z3 w b).1).1:=by
 unfold Z3 at h ⊢
 split at h
 ·simp at h
 rename_i hx
 rw [if_neg hx]
 have h1:(ZO b).2.2=0:=Classical.byContradiction fun e=>hx (Or.inl e)
 have h2:¬(((ZO b).1:Int) > (b.length:Int) - ((ZO b).2.1:Nat)):=fun e=>hx (Or.inr e)
 have hlt:=Zjn b
 have hv:=Zpk h1
 have hu:=ZpE b
 split at h
 case isFalse hne=>exact absurd h hne
 rename_i h0
 rw [if_pos h0]
 simp only
 generalize hb:(b.take ((ZO b).2.1+(ZO b).1)).drop (ZO b).2.1=buf at *
 have hbl:buf.length=(ZO b).1:=by rw [<-hb,List.length_drop,List.length_take];omega
 have hpair:Zch w (ZO b).1 buf []=((Zch w (ZO b).1 buf []).1,0):=by rw [<-h0]
 obtain ⟨ps,e1,e2⟩:=Zr9 hpair
 rw [List.nil_append] at e1
 have hall:b.take ((ZO b).2.1+(ZO b).1)=(Zah ((ZO b).1:Nat)).1++buf:=by
  rw [<-hv,<-hb,List.drop_take,Nat.add_sub_cancel_left,List.take_add]
 rw [e1,hall]
 rw [e1] at hpair
 generalize (ZO b).1=n at *
 have hgl:=ZC1 n buf (by omega)
 have hr:Z3 w ((Zah (n:Nat)).1++buf)=(ps,((Zah (n:Nat)).1++buf).length,0):=by
  unfold Z3
  rw [hgl]
  simp only
  rw [if_neg (by simp only [List.length_append,not_or];exact ⟨by simp,by omega⟩)]
  have ht:(((Zah (n:Nat)).1++buf).take ((Zah (n:Nat)).1.length+n)).drop (Zah (n:Nat)).1.length=buf:=by
   rw [List.take_of_length_le (by rw [List.length_append];omega),List.drop_left]
  rw [ht,hpair]
  simp only [if_true,List.length_append,hbl]
 unfold Zbc Zgs
 rw [<-e2,hbl]
 have hc:(Zah (n:Nat)).2=0:=by
  unfold Zah
  rw [if_neg (by omega)]
 rw [if_neg (by simp [hc]),hr]
 simp
theorem Zf7 {w:Int} {l r:Zb} {ps:List Zp} (h:Zbw w l=.ok (ps,r)):l=(Zbc w ps).1++r:=by
 unfold Zbw at h
 split at h
 ·rename_i h0
  injection h with h;injection h with e1 e2;subst e1 e2
  rw [<-(ZCM h0).2,List.take_append_drop]
 ·cases h
theorem Zo6 {l r:Zb} {n:Int} (h:idK l=.ok (n,r)):l=beB (ZD n) 2++r/\1<=n/\n < 65536:=by
 unfold idK at h
 split at h
 ·rename_i h1
  split at h
  ·cases h
  rename_i h2
  injection h with h;injection h with e1 e2;subst e1 e2
  obtain ⟨h3,h4,h5⟩:=ZgI (Or.inr rfl) h1
  exact ⟨h3,by omega,h5⟩
 ·cases h
theorem ZlT {k:Int} {l r:Zb} {c:Int} (h:Zat k l=.ok (c,r)):l=beB (ZD c) 1++r/\0<=c:=by
 unfold Zat at h
 split at h
 ·rename_i h1
  split at h
  ·injection h with h;injection h with e1 e2;subst e1 e2
   obtain ⟨h3,h4,_⟩:=ZgI (Or.inl rfl) h1
   exact ⟨h3,h4⟩
  ·cases h
 ·cases h
theorem ZrH {α:Type} {one:Zb->RK α} {W:α->Zb} (hi:∀ {l r a},one l=.ok (a,r)->l=W a++r):∀ {n:Nat} {l:Zb} {ts:List α},Zas one n l=.ok ts->l=(ts.map W).flatten
 | 0,l,ts,h=>by
  unfold Zas at h
  split at h
  ·rename_i h0
   injection h with h;subst h
   exact List.eq_nil_of_length_eq_zero h0
  ·cases h
 | n+1,l,ts,h=>by
  unfold Zas at h
  split at h
  ·rename_i h0
   injection h with h;subst h
   exact List.eq_nil_of_length_eq_zero h0
  split at h
  ·cases h
  rename_i a r ho
  split at h
  ·cases h
  rename_i t ht
  injection h with h;subst h
  rw [List.map_cons,List.flatten_cons,<-ZrH hi ht]
  exact hi ho
theorem Zp6 {α:Type} {one:Zb->RK α} {W:α->Zb} (hi:∀ {l r a},one l=.ok (a,r)->l=W a++r) {k:Int} {l:Zb} {n:Int} {ps:List Zp} {ts:List α} (h:Zbl one k l=.ok (n,ps,ts)):l=beB (ZD n) 2++((Zbc k ps).1++(ts.map W).flatten):=by
 unfold Zbl at h
 split at h
 ·cases h
 rename_i n' ps' r hm
 split at h
 ·cases h
 rename_i us hu
 injection h with h;injection h with e1 h;injection h with e2 e3;subst e1 e2 e3
 unfold ZcL at hm
 split at hm
 ·cases hm
 rename_i h1
 split at hm
 ·cases hm
 rename_i h2
 split at hm
 ·cases hm
 injection hm with hm;injection hm with e1 hm;injection hm with e2 e3;subst e1 e2 e3
 have a1:=(Zo6 h1).1
 have a2:=Zf7 h2
 have a3:=ZrH hi hu
 rw [a1,a2,a3]
end
section
theorem ZsD {w:Nat} {x:Int} (r:Zb) (hw:w<=4) (h0:0<=x) (h:x.toNat < 256 ^ w):Zar w (beB (ZD x) w++r)=.ok (x,r):=by
 have hl:=Za2 w (ZD x)
 have hu:ZD x=x.toNat:=by
  refine ZmI h0 ?_
  have : (256:Nat) ^ w<=256 ^ 4:=Nat.pow_le_pow_right (by omega) hw
  have e4:(256:Nat) ^ 4=4294967296:=rfl
  omega
 have hp:(256:Nat) ^ w<=4294967296:=by
  have : (256:Nat) ^ w<=256 ^ 4:=Nat.pow_le_pow_right (by omega) hw
  have e4:(256:Nat) ^ 4=4294967296:=rfl
  omega
 have hx:ZD x<=4294967296:=by rw [hu];omega
 unfold Zar
 rw [if_neg (by rw [List.length_append];omega),List.take_append_of_le_length (by omega),List.take_of_length_le (by omega),List.drop_append_of_le_length (by omega),List.drop_of_length_le (by omega),List.nil_append,hu,Zxw (by omega) h (by omega)]
 have : ((x.toNat:Nat):Int)=x:=by omega
 rw [this]
theorem ZIc {x:Int} (r:Zb) (h0:1<=x) (h:x<=65535):idK (beB (ZD x) 2++r)=.ok (x,r):=by
 unfold idK
 rw [ZsD r (by omega) (by omega) (by have : (256:Nat) ^ 2=65536:=rfl;omega)]
 simp only
 rw [if_neg (by omega)]
theorem ZPe (k:Int) {x:Int} (r:Zb) (h0:0<=x) (h:x<=255):Zat k (beB (ZD x) 1++r)=if Zfj k x=true then .ok (x,r) else .error 130:=by
 unfold Zat
 rw [ZsD r (by omega) (by omega) (by have : (256:Nat) ^ 1=256:=rfl;omega)]
theorem Zrp (k:Int) (h:k=2\/k=4\/k=5\/k=6\/k=7\/k=14\/k=15):Zfj k 0=true:=by
 rcases h with rfl | rfl | rfl | rfl | rfl | rfl | rfl <;> decide
section
variable (c id:Int) (hc:0<=c/\c<=255) (hi:1<=id/\id<=4096)
include hc hi
end
end
section
theorem ZMT (b:Int) (hb:0<=b/\b < 256) (h0:tyI b≠0) (h3:tyI b≠3) (hf:ZaU b 15=Zc2 (tyI b)):ZeN (tyI b)=b:=by
 have h:∀ n:Nat,n < 256->tyI (n:Int)≠0->tyI (n:Int)≠3->ZaU (n:Int) 15=Zc2 (tyI (n:Int))->ZeN (tyI (n:Int))=(n:Int):=by decide +kernel
 have:=h b.toNat (by omega)
 rw [Int.toNat_of_nonneg hb.1] at this
 exact this h0 h3 hf
theorem ZMI (b:Int) (hb:0<=b/\b < 256) (h3:tyI b=3) (hq:qoI b < 3):orU (ZeN 3) (IntKind.u8.wrap (ZQ (ZaU b 8 != 0) 8+Zk (qoI b) 3*2+ZQ (ZaU b 1 != 0) 1))=b:=by
 have h:∀ n:Nat,n < 256->tyI (n:Int)=3->qoI (n:Int) < 3->orU (ZeN 3) (IntKind.u8.wrap (ZQ (ZaU (n:Int) 8 != 0) 8+Zk (qoI (n:Int)) 3*2+ZQ (ZaU (n:Int) 1 != 0) 1))=(n:Int):=by decide +kernel
 have:=h b.toNat (by omega)
 rw [Int.toNat_of_nonneg hb.1] at this
 exact this h3 hq
theorem ZIL (m:Int) (h0:0<=m) (h:m < 256) (hok:Zgk m (Zk (ZcN m) 3) (Zk m 4 != 0) (Zk m 32 != 0)=true) :
  ZQ (Zk m 2 != 0) 2+ZQ (Zk m 4 != 0) 4+Zk (Zk (ZcN m) 3) 3*8+ZQ (Zk m 32 != 0) 32+ZQ (Zk m 64 != 0) 64+ZQ (Zk m 128 != 0) 128=m:=by
 have h':∀ n:Nat,n < 256->Zgk (n:Int) (Zk (ZcN (n:Int)) 3) (Zk (n:Int) 4 != 0) (Zk (n:Int) 32 != 0)=true->ZQ (Zk (n:Int) 2 != 0) 2+ZQ (Zk (n:Int) 4 != 0) 4+Zk (Zk (ZcN (n:Int)) 3) 3*8+ZQ (Zk (n:Int) 32 != 0) 32+ZQ (Zk (n:Int) 64 != 0) 64+ZQ (Zk (n:Int) 128 != 0) 128=(n:Int):=by decide +kernel
 have:=h' m.toNat (by omega)
 rw [Int.toNat_of_nonneg h0] at this
 exact this hok
theorem Zxj (o:Int) (h0:0<=o) (h:o < 64) (hok:Zk o 3 < 3/\Zdl o < 3):Zk (Zk o 3) 3+ZQ (Zk o 4 != 0) 4+ZQ (Zk o 8 != 0) 8+Zk (Zdl o) 3*16=o:=by
 have h':∀ n:Nat,n < 64->Zk (n:Int) 3 < 3/\Zdl (n:Int) < 3->Zk (Zk (n:Int) 3) 3+ZQ (Zk (n:Int) 4 != 0) 4+ZQ (Zk (n:Int) 8 != 0) 8+Zk (Zdl (n:Int)) 3*16=(n:Int):=by decide +kernel
 have:=h' o.toNat (by omega)
 rw [Int.toNat_of_nonneg h0] at this
 exact this hok
theorem ZsB {l r:Zb} {a:Int} (h:Zar 1 l=.ok (a,r)):a < 256:=by
 unfold Zar at h
 split at h
 ·cases h
 rename_i hl
 injection h with h;injection h with e1 _;subst e1
 match l,hl with
 | x::t,_ =>
  have hx:=x.toNat_lt
  have e:Zba ((x::t).take 1)=x.toNat:=by
   show Zba [x]=_
   unfold Zba
   rw [Zbz,Zcy]
   omega
  unfold ZeZ
  rw [e,ZbX (by omega) (by omega)]
  omega
theorem ZGb {l r:Zb} {s:Zbq} (h:Zbf l=.ok (s,r)):l=Zh9 s++r:=by
 unfold Zbf at h
 split at h
 ·cases h
 rename_i f r1 ht
 split at h
 ·cases h
 rename_i o r2 hn
 split at h
 case isFalse=>cases h
 rename_i h64
 split at h
 case isFalse=>cases h
 rename_i hq
 injection h with h;injection h with e1 e2;subst e1 e2
 obtain ⟨a1,_⟩:=Zco ht
 obtain ⟨a2,a3,_⟩:=ZgI (Or.inl rfl) hn
 have hm:Zfe ⟨f,Zk o 3,Zk o 4 != 0,Zk o 8 != 0,Zdl o,0⟩=o:=Zxj o a3 h64 hq
 unfold Zh9
 rw [hm,a1,a2,List.append_assoc]
theorem ZOy {q q':Zl} (hq:q={ ZT with type:=1 }) {l r:Zb} (h:ZcG q l=.ok (q',r)):l=Zci q'++r:=by
 unfold ZcG at h
 split at h
 ·cases h
 rename_i s r1 h1
 split at h
 case isFalse=>cases h
 rename_i c1
 split at h
 ·cases h
 rename_i v r2 h2
 split at h
 case isFalse=>cases h
 rename_i c2
 split at h
 ·cases h
 rename_i m r3 h3
 split at h
 case isFalse=>cases h
 rename_i c3
 unfold ZeD at h
 split at h
 ·cases h
 rename_i k r4 h4
 split at h
 ·cases h
 rename_i ps r5 h5
 split at h
 ·cases h
 rename_i cl r6 h6
 have c1:=eq_of_beq c1
 have c2:=eq_of_beq c2
 obtain ⟨a1,_⟩:=Zco h1
 obtain ⟨a2,_⟩:=ZgI (Or.inl rfl) h2
 obtain ⟨a3,a3',_⟩:=ZgI (Or.inl rfl) h3
 have a3'':=ZsB h3
 obtain ⟨a4,_⟩:=ZgI (Or.inr rfl) h4
 have a5:=Zf7 h5
 obtain ⟨a6,_⟩:=Zco h6
 have hm:=ZIL m a3' a3'' c3
 have hmk:∀ p:Zl,p.clean=(Zk m 2 != 0)->p.hasWill=(Zk m 4 != 0)->p.will.qos=Zk (ZcN m) 3->p.will.retain=(Zk m 32 != 0)->p.hasPassword=(Zk m 64 != 0)->p.hasUser=(Zk m 128 != 0)->ZhD p=m:=by
  intro p e1 e2 e3 e4 e5 e6
  unfold ZhD
  rw [e1,e2,e3,e4,e5,e6]
  exact hm
 have hB1:∀ p:Zl,ZhD p=m->p.keep=k->p.props=ps->p.client=cl->l=Zc3 p++r6:=by
  intro p e1 e2 e3 e4
  unfold Zc3 ZgC
  rw [e1,e2,e3,e4,a1,a2,a3,a4,a5,a6,c1,c2]
  simp only [List.append_assoc]
 subst hq
 unfold Ze6 at h
 split at h
 ·cases h
 rename_i q1 l1 hw
 split at h
 ·cases h
 rename_i q2 l2 hu
 unfold Zdn at hw
 unfold Zds at hu
 unfold ZdO at h
 by_cases b4:(Zk m 4 != 0)=true
 ·rw [if_pos b4] at hw
  split at hw
  ·cases hw
  rename_i wps wt wd wr hk
  injection hw with hw;injection hw with e1 e2;subst e1 e2
  have hwl:r6=((Zbc 16 wps).1++((Zad wt).1++(Zbv wd).1))++wr:=by
   unfold ZcS at hk
   split at hk
   ·cases hk
   rename_i k1
   split at hk
   ·cases hk
   rename_i k2
   split at hk
   ·cases hk
   rename_i k3
   injection hk with hk;injection hk with e1 hk;injection hk with e2 hk;injection hk with e3 e4;subst e1 e2 e3 e4
   rw [Zf7 k1,(Zco k2).1,(ZgG k3).1]
   simp only [List.append_assoc]
  by_cases b128:(Zk m 128 != 0)=true
  ·rw [if_pos b128] at hu
   split at hu
   ·cases hu
   rename_i us ur hk2
   injection hu with hu;injection hu with e1 e2;subst e1 e2
   by_cases b64:(Zk m 64 != 0)=true
   ·rw [if_pos b64] at h
    split at h
    ·cases h
    rename_i pw pr hk3
    injection h with h;injection h with e1 e2;subst e1 e2
    have hp:=hB1 { headD (ZbL { ZT with type:=1 } m) k ps cl with will:={ (ZbL { ZT with type:=1 } m).will with props:=wps,topic:=wt,data:=wd },user:=us,password:=pw } (hmk _ rfl rfl rfl rfl rfl rfl) rfl rfl rfl
    rw [hp,hwl,(Zco hk2).1,(ZgG hk3).1]
    simp only [Zci,ZdS,ZdY,Zc3,headD,ZbL,b4,b128,b64,if_true,List.append_assoc]
    all_goals rfl
   ·rw [if_neg b64] at h
    injection h with h;injection h with e1 e2;subst e1 e2
    have hp:=hB1 { headD (ZbL { ZT with type:=1 } m) k ps cl with will:={ (ZbL { ZT with type:=1 } m).will with props:=wps,topic:=wt,data:=wd },user:=us } (hmk _ rfl rfl rfl rfl rfl rfl) rfl rfl rfl
    rw [hp,hwl,(Zco hk2).1]
    simp only [Zci,ZdS,ZdY,Zc3,headD,ZbL,b4,b128,b64,if_true,if_false,Bool.false_eq_true,List.append_assoc]
    all_goals rfl
  ·rw [if_neg b128] at hu
   injection hu with hu;injection hu with e1 e2;subst e1 e2
   by_cases b64:(Zk m 64 != 0)=true
   ·rw [if_pos b64] at h
    split at h
    ·cases h
    rename_i pw pr hk3
    injection h with h;injection h with e1 e2;subst e1 e2
    have hp:=hB1 { headD (ZbL { ZT with type:=1 } m) k ps cl with will:={ (ZbL { ZT with type:=1 } m).will with props:=wps,topic:=wt,data:=wd },password:=pw } (hmk _ rfl rfl rfl rfl rfl rfl) rfl rfl rfl
    rw [hp,hwl,(ZgG hk3).1]
    simp only [Zci,ZdS,ZdY,Zc3,headD,ZbL,b4,b128,b64,if_true,if_false,Bool.false_eq_true,List.append_assoc]
    all_goals rfl
   ·rw [if_neg b64] at h
    injection h with h;injection h with e1 e2;subst e1 e2
    have hp:=hB1 { headD (ZbL { ZT with type:=1 } m) k ps cl with will:={ (ZbL { ZT with type:=1 } m).will with props:=wps,topic:=wt,data:=wd } } (hmk _ rfl rfl rfl rfl rfl rfl) rfl rfl rfl
    rw [hp,hwl]
    simp only [Zci,ZdS,ZdY,Zc3,headD,ZbL,b4,b128,b64,if_true,if_false,Bool.false_eq_true,List.append_assoc]
    all_goals rfl
 ·rw [if_neg b4] at hw
  injection hw with hw;injection hw with e1 e2;subst e1 e2
  by_cases b128:(Zk m 128 != 0)=true
  ·rw [if_pos b128] at hu
   split at hu
   ·cases hu
   rename_i us ur hk2
   injection hu with hu;injection hu with e1 e2;subst e1 e2
   by_cases b64:(Zk m 64 != 0)=true
   ·rw [if_pos b64] at h
    split at h
    ·cases h
    rename_i pw pr hk3
    injection h with h;injection h with e1 e2;subst e1 e2
    have hp:=hB1 { headD (ZbL { ZT with type:=1 } m) k ps cl with user:=us,password:=pw } (hmk _ rfl rfl rfl rfl rfl rfl) rfl rfl rfl
    rw [hp,(Zco hk2).1,(ZgG hk3).1]
    simp only [Zci,ZdS,ZdY,Zc3,headD,ZbL,b4,b128,b64,if_true,if_false,Bool.false_eq_true,List.append_assoc]
    all_goals rfl
   ·rw [if_neg b64] at h
    injection h with h;injection h with e1 e2;subst e1 e2
    have hp:=hB1 { headD (ZbL { ZT with type:=1 } m) k ps cl with user:=us } (hmk _ rfl rfl rfl rfl rfl rfl) rfl rfl rfl
    rw [hp,(Zco hk2).1]
    simp only [Zci,ZdS,ZdY,Zc3,headD,ZbL,b4,b128,b64,if_true,if_false,Bool.false_eq_true,List.append_assoc]
    all_goals rfl
  ·rw [if_neg b128] at hu
   injection hu with hu;injection hu with e1 e2;subst e1 e2
   by_cases b64:(Zk m 64 != 0)=true
   ·rw [if_pos b64] at h
    split at h
    ·cases h
    rename_i pw pr hk3
    injection h with h;injection h with e1 e2;subst e1 e2
    have hp:=hB1 { headD (ZbL { ZT with type:=1 } m) k ps cl with password:=pw } (hmk _ rfl rfl rfl rfl rfl rfl) rfl rfl rfl
    rw [hp,(ZgG hk3).1]
    simp only [Zci,ZdS,ZdY,Zc3,headD,ZbL,b4,b128,b64,if_true,if_false,Bool.false_eq_true,List.append_assoc]
    all_goals rfl
   ·rw [if_neg b64] at h
    injection h with h;injection h with e1 e2;subst e1 e2
    have hp:=hB1 (headD (ZbL { ZT with type:=1 } m) k ps cl) (hmk _ rfl rfl rfl rfl rfl rfl) rfl rfl rfl
    rw [hp]
    simp only [Zci,ZdS,ZdY,Zc3,headD,ZbL,b4,b128,b64,if_false,Bool.false_eq_true,List.append_assoc]
    all_goals rfl
theorem ZO9 {q q':Zl} (hq:q={ ZT with type:=2 }) {l r:Zb} (h:Zdf q l=.ok (q',r)):l=Zh7 q'++r:=by
 unfold Zdf at h
 split at h
 ·cases h
 rename_i f r1 h1
 split at h
 case isFalse=>cases h
 rename_i h2
 split at h
 ·cases h
 rename_i c r2 h3
 split at h
 ·cases h
 rename_i ps r3 h4
 injection h with h;injection h with e1 e2;subst e1 e2
 obtain ⟨a1,a2,_⟩:=ZgI (Or.inl rfl) h1
 have a3:=(ZlT h3).1
 have a4:=Zf7 h4
 have hf:ZQ (f == 1) 1=f:=by
  have : f=0\/f=1:=by omega
  rcases this with rfl | rfl <;> rfl
 unfold Zh7
 simp only
 rw [hf,a1,a3,a4]
 simp only [List.append_assoc]
theorem ZrO {q q':Zl} (hk:Zfj q.type 0=true) {l r:Zb} (hr:r.length=0) (h:Zb0 q l=.ok (q',r)):Zb0 q (ZaH q')=.ok (q',[])/\(ZaH q').length<=l.length/\q'.type=q.type/\q'.id=q.id:=by
 have h00:Zb0 q []=.ok ({ q with code:=0,props:=[] },[]):=rfl
 have hc1:∀ c:Int,0<=c->c < 256->Zfj q.type c=true->Zb0 q (beB (ZD c) 1++[])=.ok ({ q with code:=c,props:=[] },[]):=by
  intro c c0 c1 hc
  unfold Zb0 ZbW
  rw [if_neg (by rw [List.length_append,Za2];simp),ZPe q.type [] c0 (by omega),if_pos hc]
  rfl
 unfold Zb0 at h
 split at h
 ·cases h
 rename_i c ps r' hR
 injection h with h;injection h with e1 e2;subst e1 e2
 refine ⟨?_,?_,rfl,rfl⟩
 all_goals unfold ZbW at hR
 all_goals split at hR
 ·injection hR with hR;injection hR with hR e;injection hR with e1 e2;subst e1 e2
  have : ZaH { q with code:=0,props:=(none:Option (List Zp)).getD [] }=[]:=by simp [ZaH]
  rw [this]
  exact h00
 ·rename_i hl
  split at hR
  ·cases hR
  rename_i c' r1 hc
  obtain ⟨a1,a2⟩:=ZlT hc
  have hok:Zfj q.type c'=true/\c' < 256:=by
   unfold Zat at hc
   split at hc
   ·rename_i hn
    split at hc
    ·rename_i hb
     injection hc with hc;injection hc with e1 e2;subst e1
     exact ⟨hb,ZsB hn⟩
    ·cases hc
   ·cases hc
  split at hR
  ·injection hR with hR;injection hR with hR e;injection hR with e1 e2;subst e1 e2
   by_cases h0:c'=0
   ·subst h0
    have : ZaH { q with code:=0,props:=(none:Option (List Zp)).getD [] }=[]:=by simp [ZaH]
    rw [this]
    exact h00
   ·have : ZaH { q with code:=c',props:=(none:Option (List Zp)).getD [] }=beB (ZD c') 1++[]:=by
     unfold ZaH
     rw [if_pos (Or.inl h0)]
     rfl
    rw [this]
    exact hc1 c' a2 hok.2 hok.1
  ·rename_i hr1
   split at hR
   ·cases hR
   rename_i ps' r2 hp
   injection hR with hR;injection hR with hR e;injection hR with e1 e2;subst e1 e2 e
   have a3:=Zf7 hp
   cases ps' with
   | nil =>
    by_cases h0:c'=0
    ·subst h0
     have : ZaH { q with code:=0,props:=(some ([]:List Zp)).getD [] }=[]:=by simp [ZaH]
     rw [this]
     exact h00
    ·have : ZaH { q with code:=c',props:=(some ([]:List Zp)).getD [] }=beB (ZD c') 1++[]:=by
      unfold ZaH
      rw [if_pos (Or.inl h0)]
      rfl
     rw [this]
     exact hc1 c' a2 hok.2 hok.1
   | cons x t =>
    have hb:ZaH { q with code:=c',props:=(some (x::t)).getD [] }=l:=by
     unfold ZaH
     rw [if_pos (Or.inr (by simp)),if_pos (by simp),a1,a3]
     have : r2=[]:=List.eq_nil_of_length_eq_zero hr
     rw [this,List.append_nil]
     rfl
    rw [hb]
    have hr2:r2=[]:=List.eq_nil_of_length_eq_zero hr
    unfold Zb0 ZbW
    rw [if_neg hl,hc]
    simp only
    rw [if_neg hr1,hp,hr2]
 ·injection hR with hR;injection hR with hR e;injection hR with e1 e2;subst e1 e2
  simp [ZaH]
 ·rename_i hl
  split at hR
  ·cases hR
  rename_i c' r1 hc
  obtain ⟨a1,a2⟩:=ZlT hc
  have l1:l.length=1+r1.length:=by rw [a1,List.length_append,Za2]
  split at hR
  ·injection hR with hR;injection hR with hR e;injection hR with e1 e2;subst e1 e2
   have:=Za2 1 (ZD c')
   unfold ZaH
   split
   ·simp only [Option.getD_none,ne_eq,not_true,if_false,List.append_nil];omega
   ·simp
  ·split at hR
   ·cases hR
   rename_i ps' r2 hp
   injection hR with hR;injection hR with hR e;injection hR with e1 e2;subst e1 e2 e
   have a3:=congrArg List.length (Zf7 hp)
   rw [List.length_append] at a3
   have:=Za2 1 (ZD c')
   unfold ZaH
   split
   ·split
    ·simp only [Option.getD_some,List.length_append];omega
    ·simp only [List.append_nil];omega
   ·simp
theorem ZML (t:Int) (ht:1<=t/\t<=15) (h3:t≠3) {l:Zb} {q:Zl} (h:ZbQ t l=.ok q):ZbQ t (Za0 q)=.ok q/\(Za0 q).length<=l.length:=by
 have hty:=Zn6 h
 have hexact:l=Za0 q->ZbQ t (Za0 q)=.ok q/\(Za0 q).length<=l.length:=fun e=>by
  rw [<-e];exact ⟨h,Nat.le_refl _⟩
 have : t=1\/t=2\/(t=4\/t=5\/t=6\/t=7)\/t=8\/t=10\/(t=9\/t=11)\/(t=14\/t=15)\/(t=12\/t=13):=by omega
 have h0:=h
 unfold ZbQ at h
 rcases this with rfl | rfl | hk | rfl | rfl | hk | hk | hk
 ·rw [if_pos rfl] at h
  obtain ⟨r,e1,e2⟩:=Zd9 h
  have:=ZOy rfl e1
  rw [List.eq_nil_of_length_eq_zero e2,List.append_nil] at this
  refine hexact ?_
  unfold Za0 ZeC
  rw [if_pos hty]
  exact this
 ·rw [if_neg (by decide),if_pos rfl] at h
  obtain ⟨r,e1,e2⟩:=Zd9 h
  have:=ZO9 rfl e1
  rw [List.eq_nil_of_length_eq_zero e2,List.append_nil] at this
  refine hexact ?_
  unfold Za0 ZeC
  rw [if_neg (by omega),if_pos hty]
  exact this
 ·rw [if_neg (by omega),if_neg (by omega),if_pos hk] at h
  obtain ⟨r,e1,e2⟩:=Zd9 h
  unfold idQ at e1
  split at e1
  ·cases e1
  rename_i n r1 hi
  obtain ⟨a1,a2,a3⟩:=Zo6 hi
  obtain ⟨b1,b2,b3,b4⟩:=ZrO (q:={ ZT with type:=t,id:=n }) (Zrp t (by omega)) e2 e1
  have hB:Za0 q=beB (ZD n) 2++ZaH q:=by
   unfold Za0 ZeC
   rw [if_neg (by omega),if_neg (by omega),if_neg (by omega),if_pos (by omega),Option.getD_some,b4]
  rw [hB]
  constructor
  ·unfold ZbQ
   rw [if_neg (by omega),if_neg (by omega),if_pos hk]
   unfold idQ
   rw [ZIc _ a2 (by omega)]
   simp only
   rw [b1]
   rfl
  ·rw [a1,List.length_append,List.length_append];omega
 ·rw [if_neg (by decide),if_neg (by decide),if_neg (by decide),if_pos rfl] at h
  unfold Zfh at h
  split at h
  ·cases h
  rename_i n ps ts hm
  injection h with h;subst h
  refine hexact ?_
  have:=Zp6 (W:=Zh9) (fun {l r a} h=>ZGb h) hm
  rw [this,<-List.append_assoc]
  rfl
 ·rw [if_neg (by decide),if_neg (by decide),if_neg (by decide),if_neg (by decide),if_pos rfl] at h
  unfold Zfa at h
  split at h
  ·cases h
  rename_i n ps ts hm
  injection h with h;subst h
  refine hexact ?_
  have:=Zp6 (W:=fun f=>(Zad f).1) (fun {l r a} h=>(Zco h).1) hm
  rw [this,<-List.append_assoc]
  rfl
 ·rw [if_neg (by omega),if_neg (by omega),if_neg (by omega),if_neg (by omega),if_neg (by omega),if_pos hk] at h
  unfold Zej at h
  split at h
  ·cases h
  rename_i n ps ts hm
  injection h with h;subst h
  refine hexact ?_
  have:=Zp6 (W:=fun c=>beB (ZD c) 1) (fun {l r a} h=>(ZlT h).1) hm
  rw [this,<-List.append_assoc]
  rcases hk with rfl | rfl <;> rfl
 ·rw [if_neg (by omega),if_neg (by omega),if_neg (by omega),if_neg (by omega),if_neg (by omega),if_neg (by omega),if_pos hk] at h
  obtain ⟨r,e1,e2⟩:=Zd9 h
  obtain ⟨b1,b2,b3,b4⟩:=ZrO (q:={ ZT with type:=t }) (Zrp t (by omega)) e2 e1
  have hB:Za0 q=ZaH q:=by
   unfold Za0 ZeC
   rw [if_neg (by omega),if_neg (by omega),if_neg (by omega),if_neg (by omega),if_neg (by omega),if_neg (by omega),if_neg (by omega),if_pos (by omega)]
   unfold Zde
   split
   ·rfl
   ·rename_i hn
    unfold ZaH
    rw [if_neg hn];rfl
  rw [hB]
  refine ⟨?_,b2⟩
  unfold ZbQ
  rw [if_neg (by omega),if_neg (by omega),if_neg (by omega),if_neg (by omega),if_neg (by omega),if_neg (by omega),if_pos hk,b1]
  rfl
 ·rw [if_neg (by omega),if_neg (by omega),if_neg (by omega),if_neg (by omega),if_neg (by omega),if_neg (by omega),if_neg (by omega)] at h
  obtain ⟨r,e1,e2⟩:=Zd9 h
  injection e1 with e1;injection e1 with e1 e3;subst e1 e3
  refine hexact ?_
  rw [List.eq_nil_of_length_eq_zero e2]
  rcases hk with rfl | rfl <;> rfl
theorem ZI0 {qos:Int} (hq:0<=qos) {l tp pay:Zb} {n:Int} {ps:List Zp} (h:Zcv qos l=.ok (tp,n,ps,pay)) (p:Zl) (h1:p.qos=qos) (h2:p.topic=tp) (h3:p.id=n) (h4:p.props=ps) (h5:p.payload=pay):l=Zhb p:=by
 unfold Zhb Zjo
 rw [h1,h2,h3,h4,h5]
 unfold Zcv at h
 split at h
 ·cases h
 rename_i t r1 k1
 split at h
 ·rename_i hg
  rw [if_pos hg]
  split at h
  ·cases h
  rename_i k2
  split at h
  ·cases h
  rename_i k3
  injection h with h;injection h with e1 h;injection h with e2 h;injection h with e3 e4;subst e1 e2 e3 e4
  rw [(Zco k1).1,(Zo6 k2).1,Zf7 k3]
  simp only [List.append_assoc]
 ·rename_i hg
  rw [if_neg hg]
  split at h
  ·cases h
  rename_i k3
  injection h with h;injection h with e1 h;injection h with e2 h;injection h with e3 e4;subst e1 e2 e3 e4
  rw [(Zco k1).1,Zf7 k3]
  simp only [List.append_assoc]
theorem ZFs (b:Int) (hb:0<=b/\b < 256) (l:Zb) (hl:l.length<=268435455) (h:(Za6 b l).2=0):ZgW (Za6 b l).1/\ZbE (Za6 b l).1=b/\(Za0 (Za6 b l).1).length<=l.length:=by
 have hr:=Zrn b hb
 by_cases h3:tyI b=3
 ·have h0:tyI b≠0:=by omega
  have hd:Za6 b l=Zdw b l:=by unfold Za6;rw [if_neg h0,if_pos h3]
  rw [hd] at h ⊢
  have hq0:0<=qoI b:=by
   have h:∀ n:Nat,n < 256->0<=qoI (n:Int):=by decide +kernel
   have:=h b.toNat (by omega)
   rwa [Int.toNat_of_nonneg hb.1] at this
  unfold Zdw at h ⊢
  split at h
  case isFalse=>cases h
  rename_i c1
  rw [if_pos c1]
  split at h
  case isFalse=>cases h
  rename_i c2
  rw [if_pos c2]
  cases hp:Zcv (qoI b) l with
  | error e =>
   rw [hp] at h
   exact absurd h (Ztq _ _ _ hp)
  | ok x =>
   obtain ⟨tp,n,ps,pay⟩:=x
   simp only
   generalize hP:({ ZT with type:=3,dup:=(ZaU b 8 != 0),qos:=qoI b,retain:=(ZaU b 1 != 0),id:=n,topic:=tp,props:=ps,payload:=pay }:Zl)=p
   have hw:ZbE p=b:=by
    rw [<-hP]
    exact ZMI b hb h3 c1
   have hB:l=Za0 p:=by
    have e:=ZI0 hq0 hp p (by rw [<-hP]) (by rw [<-hP]) (by rw [<-hP]) (by rw [<-hP]) (by rw [<-hP])
    rw [e]
    unfold Za0 ZeC
    have ht:p.type=3:=by rw [<-hP]
    rw [if_neg (by omega),if_neg (by omega),if_pos ht]
    rfl
   refine ⟨⟨by rw [<-hB];exact hl,?_⟩,hw,by rw [<-hB];exact Nat.le_refl _⟩
   rw [hw,<-hB,hd]
   unfold Zdw
   rw [if_pos c1,if_pos c2,hp]
   simp only
   rw [hP]
 ·generalize hq:(Za6 b l).1=q
  have hrd:Za6 b l=(q,0):=Prod.ext hq h
  obtain ⟨b1,b2,b3⟩:=ZNv hrd h3
  obtain ⟨c1,c2⟩:=ZML (tyI b) (by omega) h3 b1
  have ht:=Zn6 b1
  have hf:=ZMT b hb b2 h3 b3
  have hw:ZbE q=b:=by
   unfold ZbE
   rw [if_neg (by rw [ht];exact h3),ht,hf]
  refine ⟨⟨by omega,?_⟩,hw,c2⟩
  rw [hw,Zyq b2 h3 b3,c1]
end
section
theorem ZLr:E 36 [Z4 ZT,Z4 ZT] []=some (.bool true,[]):=by
 have h1:Z4 ZT=.agg [.int .i64 0,.bool false,.int .i64 0,.bool false,.int .i64 0,.str [],.lst false [],.int .i64 0,.lst false [],.lst false [],.lst false [],.lst false [],.bool false,.int .i64 0,.str [],.bool false,.str [],.lst false [],.int .i64 0,.bool false,.lst false [],.bool false,.str [],.bool false,.lst false [],.bool false]:=rfl
 rw [h1]
 have hb:bytesOf []=some []:=rfl
 have zl:¬(((0:Nat):Int) < ((0:Nat):Int)):=by omega
 have zl2:¬((0:Int) < ((0:Nat):Int)):=by omega
 have zn:(((0:Nat):Int) != ((0:Nat):Int))=false:=rfl
 have hps:∀ (σ:Za) (sq own:Nat),Zj E BY σ sq 72 own true [.lst false [],.lst false []]=some (.bool true,σ,{}):=fun σ sq own=>ZBn σ sq own true [] [] (by decide)
 rw [Zh (by rfl) ZBg]
 simp -implicitDefEqProofs only [EQA,Z5,Zcq,Nat.reduceAdd,Nat.reduceLT,Nat.reduceEqDiff,Nat.reduceBEq,ZdD,unA,ZF,unG,reduceCtorEq,Z0,↓reduceIte,gcT,gcA,ZB,Zz,Zo,Zw,Z1,Zq,ZU,ZG,ZM,ZMv,Zpl,oI,AVal.cells,hb,zn,hps,bne_self_eq_false]
 rw [Z9]
 simp -implicitDefEqProofs only [EQA,Z5,Zcq,Nat.reduceAdd,Nat.reduceLT,Nat.reduceEqDiff,Nat.reduceBEq,reduceCtorEq,↓reduceIte,gcT,gcA,ZB,Zz,Zo,Zw,Z1,Zq,ZU,ZG,ZM,Zz7,ZmH,ZC3,Zqr,oI,zl2]
 rw [Z9]
 simp -implicitDefEqProofs only [EQA,Z5,Zcq,Nat.reduceAdd,Nat.reduceLT,Nat.reduceEqDiff,Nat.reduceBEq,reduceCtorEq,↓reduceIte,gcT,gcA,ZB,Zz,Zo,Zw,Z1,Zq,ZU,ZG,ZM,ZJw,ZpH,ZNd,ZnK,oI,zl2]
 rw [Z9]
 simp -implicitDefEqProofs only [EQA,Nat.reduceAdd,Nat.reduceLT,Nat.reduceLeDiff,Nat.reduceEqDiff,Nat.reduceBEq,ZdD,ZF,unG,Z0,↓reduceIte,ZIY,ZL7,ZnZ,ZJz,ZmR,oI,oN,AVal.cells,hb,zl2,hps,ZV,Zag,Zai,Zaj,Zau,Zax,Zam,List.lookup_nil]
end
section
theorem ZGC (args:List AVal) (hp:args.all Zac=true) (hn:args.map ZH=[Z4 ZT,Z4 ZT]) (σ:Za) (sq own:Nat):Zj E1 BY σ sq 36 own true args=some (.bool true,σ,{}) :=
 ZbB (ZbC ZLr (by kernel_rfl) hp hn rfl (fun _=>rfl) σ sq own)
end
section
theorem Zg6 {w:Int} {b r:Zb} {l:List Zp} (h:Zbw w b=.ok (l,r)):l.length<=700000000/\∀ p ∈ l,ZcQ p:=by
 have hc:=ZfU h
 refine ⟨by omega,?_⟩
 unfold Zbw at h
 split at h
 ·injection h with h;injection h with e _;subst e
  exact Zxh w b
 ·cases h
theorem ZC5 {k:Int} {l r:Zb} {c:Int} {ps:Option (List Zp)} (h:ZbW k l=.ok ((c,ps),r)):(ps.getD []).length<=700000000/\∀ p ∈ ps.getD [],ZcQ p:=by
 unfold ZbW at h
 split at h
 ·injection h with h;injection h with h _;injection h with _ h;subst h;simp
 split at h
 ·cases h
 split at h
 ·injection h with h;injection h with h _;injection h with _ h;subst h;simp
 split at h
 ·cases h
 rename_i hp
 injection h with h;injection h with h _;injection h with _ h;subst h
 exact Zg6 hp
theorem ZaI:OkW ZT:=by
 refine ⟨?_,?_,?_,?_,?_,?_,?_,?_,?_,?_,?_,?_⟩ <;> simp [ZT]
theorem Zvh {q q':Zl} {l r:Zb} (h:OkW q) (e:Zb0 q l=.ok (q',r)):OkW q':=by
 unfold Zb0 at e
 split at e
 ·cases e
 rename_i hr
 injection e with e;injection e with e _;subst e
 exact ⟨h.topic,h.payload,h.codes,ZC5 hr,h.subs,h.filters,h.client,h.wtopic,h.wdata,h.wprops,h.user,h.password⟩
theorem ZH4 {q:Zl} (h:OkW q) (t n:Int):OkW { q with type:=t,id:=n }:=⟨h.topic,h.payload,h.codes,h.props,h.subs,h.filters,h.client,h.wtopic,h.wdata,h.wprops,h.user,h.password⟩
theorem ZOK {q:Zl} (h:OkW q) (t:Int):OkW { q with type:=t }:=⟨h.topic,h.payload,h.codes,h.props,h.subs,h.filters,h.client,h.wtopic,h.wdata,h.wprops,h.user,h.password⟩
theorem Zw1 {q q':Zl} {l r:Zb} (h:OkW q) (e:Zdf q l=.ok (q',r)):OkW q':=by
 unfold Zdf at e
 split at e
 ·cases e
 split at e
 case isFalse=>cases e
 split at e
 ·cases e
 split at e
 ·cases e
 rename_i hp
 injection e with e;injection e with e _;subst e
 exact ⟨h.topic,h.payload,h.codes,Zg6 hp,h.subs,h.filters,h.client,h.wtopic,h.wdata,h.wprops,h.user,h.password⟩
theorem ZGK {q q':Zl} {l r:Zb} (h:OkW q) (e:ZcG q l=.ok (q',r)):OkW q':=by
 unfold ZcG at e
 split at e
 ·cases e
 split at e
 case isFalse=>cases e
 split at e
 ·cases e
 split at e
 case isFalse=>cases e
 split at e
 ·cases e
 rename_i m r3 _
 split at e
 case isFalse=>cases e
 unfold ZeD at e
 split at e
 ·cases e
 rename_i k r4 _
 split at e
 ·cases e
 rename_i ps r5 hp
 split at e
 ·cases e
 rename_i cl r6 hc
 have h1:OkW (headD (ZbL q m) k ps cl):=⟨h.topic,h.payload,h.codes,Zg6 hp,h.subs,h.filters,Nat.le_trans (Zco hc).2 (by decide),h.wtopic,h.wdata,h.wprops,h.user,h.password⟩
 unfold Ze6 at e
 split at e
 ·cases e
 rename_i q1 l1 hw
 have h2:OkW q1:=by
  unfold Zdn at hw
  split at hw
  ·split at hw
   ·cases hw
   rename_i hk
   injection hw with hw;injection hw with e1 _;subst e1
   unfold ZcS at hk
   split at hk
   ·cases hk
   rename_i k1
   split at hk
   ·cases hk
   rename_i k2
   split at hk
   ·cases hk
   rename_i k3
   injection hk with hk;injection hk with e1 hk;injection hk with e2 hk;injection hk with e3 _;subst e1 e2 e3
   exact ⟨h1.topic,h1.payload,h1.codes,h1.props,h1.subs,h1.filters,h1.client,Nat.le_trans (Zco k2).2 (by decide),Nat.le_trans (ZgG k3).2 (by decide),Zg6 k1,h1.user,h1.password⟩
  ·injection hw with hw;injection hw with e1 _;subst e1;exact h1
 split at e
 ·cases e
 rename_i q2 l2 hu
 have h3:OkW q2:=by
  unfold Zds at hu
  split at hu
  ·split at hu
   ·cases hu
   rename_i k1
   injection hu with hu;injection hu with e1 _;subst e1
   exact ⟨h2.topic,h2.payload,h2.codes,h2.props,h2.subs,h2.filters,h2.client,h2.wtopic,h2.wdata,h2.wprops,Nat.le_trans (Zco k1).2 (by decide),h2.password⟩
  ·injection hu with hu;injection hu with e1 _;subst e1;exact h2
 unfold ZdO at e
 split at e
 ·split at e
  ·cases e
  rename_i k1
  injection e with e;injection e with e1 _;subst e1
  exact ⟨h3.topic,h3.payload,h3.codes,h3.props,h3.subs,h3.filters,h3.client,h3.wtopic,h3.wdata,h3.wprops,h3.user,Nat.le_trans (ZgG k1).2 (by decide)⟩
 ·injection e with e;injection e with e1 _;subst e1;exact h3
theorem Zjl {x:Except Int (Zl×Zb)} (h:∀ q r,x=.ok (q,r)->OkW q) {q:Zl} (e:Zb4 x=.ok q):OkW q:=by
 obtain ⟨r,e1,_⟩:=Zd9 e
 exact h q r e1
theorem ZrQ {α:Type} {one:Zb->RK α} {Q:α->Prop} (hi:∀ {l r a},one l=.ok (a,r)->Q a):∀ {n:Nat} {l:Zb} {ts:List α},Zas one n l=.ok ts->∀ a ∈ ts,Q a
 | 0,l,ts,h=>by
  unfold Zas at h
  split at h
  ·injection h with h;subst h;simp
  ·cases h
 | n+1,l,ts,h=>by
  unfold Zas at h
  split at h
  ·injection h with h;subst h;simp
  split at h
  ·cases h
  rename_i a r ho
  split at h
  ·cases h
  rename_i t ht
  injection h with h;subst h
  intro x hx
  rcases List.mem_cons.1 hx with rfl | hx
  ·exact hi ho
  ·exact ZrQ hi ht x hx
theorem ZmY {α:Type} {one:Zb->RK α} {Q:α->Prop} (hi:∀ {l r a},one l=.ok (a,r)->Q a) {k:Int} {l:Zb} {n:Int} {ps:List Zp} {ts:List α} (h:Zbl one k l=.ok (n,ps,ts)):(ps.length<=700000000/\∀ p ∈ ps,ZcQ p)/\∀ a ∈ ts,Q a:=by
 unfold Zbl at h
 split at h
 ·cases h
 rename_i n' ps' r hm
 split at h
 ·cases h
 rename_i us hu
 injection h with h;injection h with e1 h;injection h with e2 e3;subst e1 e2 e3
 refine ⟨?_,ZrQ hi hu⟩
 unfold ZcL at hm
 split at hm
 ·cases hm
 split at hm
 ·cases hm
 rename_i hp
 split at hm
 ·cases hm
 injection hm with hm;injection hm with _ hm;injection hm with e2 _;subst e2
 exact Zg6 hp
theorem ZBd {t:Int} {l:Zb} (hl:l.length<=1000000) {q:Zl} (e:ZbQ t l=.ok q):OkW q:=by
 have h0:∀ k:Int,OkW { ZT with type:=k }:=fun k=>ZOK ZaI k
 unfold ZbQ at e
 split at e
 ·exact Zjl (fun _ _ h=>ZGK (h0 1) h) e
 split at e
 ·exact Zjl (fun _ _ h=>Zw1 (h0 2) h) e
 split at e
 ·refine Zjl (fun q r h=>?_) e
  unfold idQ at h
  split at h
  ·cases h
  rename_i n r1 _
  exact Zvh (q:={ ZT with type:=t,id:=n }) (ZH4 ZaI t n) h
 split at e
 ·unfold Zfh at e
  split at e
  ·cases e
  rename_i hm
  injection e with e;subst e
  have hc:=Zhs hm
  have ha:=ZmY (Q:=fun s:Zbq=>s.filter.length<=9223372036854775807) (fun {l r a} h=>by
   unfold Zbf at h
   split at h
   ·cases h
   rename_i ht
   split at h
   ·cases h
   split at h
   case isFalse=>cases h
   split at h
   case isFalse=>cases h
   injection h with h;injection h with e _;subst e
   exact Nat.le_trans (Zco ht).2 (by decide)) hm
  exact ⟨ZaI.topic,ZaI.payload,ZaI.codes,ha.1,⟨by simp only;omega,ha.2⟩,ZaI.filters,ZaI.client,ZaI.wtopic,ZaI.wdata,ZaI.wprops,ZaI.user,ZaI.password⟩
 split at e
 ·unfold Zfa at e
  split at e
  ·cases e
  rename_i hm
  injection e with e;subst e
  have hc:=Zhs hm
  have ha:=ZmY (Q:=fun s:Zb=>s.length<=9223372036854775807) (fun {l r a} h=>Nat.le_trans (Zco h).2 (by decide)) hm
  exact ⟨ZaI.topic,ZaI.payload,ZaI.codes,ha.1,ZaI.subs,⟨by simp only;omega,ha.2⟩,ZaI.client,ZaI.wtopic,ZaI.wdata,ZaI.wprops,ZaI.user,ZaI.password⟩
 split at e
 ·unfold Zej at e
  split at e
  ·cases e
  rename_i hm
  injection e with e;subst e
  have hc:=Zhs hm
  have ha:=ZmY (Q:=fun _:Int=>True) (fun {l r a} h=>trivial) hm
  exact ⟨ZaI.topic,ZaI.payload,by simp only;omega,ha.1,ZaI.subs,ZaI.filters,ZaI.client,ZaI.wtopic,ZaI.wdata,ZaI.wprops,ZaI.user,ZaI.password⟩
 split at e
 ·exact Zjl (fun _ _ h=>Zvh (h0 t) h) e
 ·exact Zjl (fun q r h=>by injection h with h;injection h with h _;subst h;exact h0 t) e
theorem Zyn {qos:Int} {l:Zb} {tp:Zb} {n:Int} {ps:List Zp} {pay:Zb} (e:Zcv qos l=.ok (tp,n,ps,pay)):tp.length<=65535/\(ps.length<=700000000/\∀ p ∈ ps,ZcQ p)/\pay.length<=l.length:=by
 unfold Zcv at e
 split at e
 ·cases e
 rename_i ht
 have l1:=Zdr ht
 split at e
 ·split at e
  ·cases e
  rename_i hi
  have l2:=ZeE hi
  split at e
  ·cases e
  rename_i hp
  have l3:=Zfp hp
  injection e with e;injection e with e1 e;injection e with e2 e;injection e with e3 e4;subst e1 e2 e3 e4
  exact ⟨(Zco ht).2,Zg6 hp,by omega⟩
 ·split at e
  ·cases e
  rename_i hp
  have l3:=Zfp hp
  injection e with e;injection e with e1 e;injection e with e2 e;injection e with e3 e4;subst e1 e2 e3 e4
  exact ⟨(Zco ht).2,Zg6 hp,by omega⟩
theorem ZFX {t:Int} {l:Zb} {q:Zl} (e:ZbQ t l=.ok q):q.payload=[]:=by
 have hrest:∀ {q q':Zl} {l r:Zb},Zb0 q l=.ok (q',r)->q'.payload=q.payload:=by
  intro q q' l r e
  unfold Zb0 at e
  split at e
  ·cases e
  ·injection e with e;injection e with e _;subst e;rfl
 unfold ZbQ at e
 split at e
 ·obtain ⟨r,e1,_⟩:=Zd9 e
  unfold ZcG at e1
  split at e1
  ·cases e1
  split at e1
  case isFalse=>cases e1
  split at e1
  ·cases e1
  split at e1
  case isFalse=>cases e1
  split at e1
  ·cases e1
  split at e1
  case isFalse=>cases e1
  unfold ZeD at e1
  split at e1
  ·cases e1
  split at e1
  ·cases e1
  split at e1
  ·cases e1
  unfold Ze6 at e1
  split at e1
  ·cases e1
  rename_i q1 l1 hw
  split at e1
  ·cases e1
  rename_i q2 l2 hu
  have h1:q1.payload=[]:=by
   unfold Zdn at hw
   split at hw
   ·split at hw
    ·cases hw
    ·injection hw with hw;injection hw with e _;subst e;rfl
   ·injection hw with hw;injection hw with e _;subst e;rfl
  have h2:q2.payload=[]:=by
   unfold Zds at hu
   split at hu
   ·split at hu
    ·cases hu
    ·injection hu with hu;injection hu with e _;subst e;exact h1
   ·injection hu with hu;injection hu with e _;subst e;exact h1
  unfold ZdO at e1
  split at e1
  ·split at e1
   ·cases e1
   ·injection e1 with e1;injection e1 with e _;subst e;exact h2
  ·injection e1 with e1;injection e1 with e _;subst e;exact h2
 split at e
 ·obtain ⟨r,e1,_⟩:=Zd9 e
  unfold Zdf at e1
  split at e1
  ·cases e1
  split at e1
  case isFalse=>cases e1
  split at e1
  ·cases e1
  split at e1
  ·cases e1
  injection e1 with e1;injection e1 with e _;subst e;rfl
 split at e
 ·obtain ⟨r,e1,_⟩:=Zd9 e
  unfold idQ at e1
  split at e1
  ·cases e1
  rw [hrest e1];rfl
 split at e
 ·unfold Zfh at e
  split at e
  ·cases e
  ·injection e with e;subst e;rfl
 split at e
 ·unfold Zfa at e
  split at e
  ·cases e
  ·injection e with e;subst e;rfl
 split at e
 ·unfold Zej at e
  split at e
  ·cases e
  ·injection e with e;subst e;rfl
 split at e
 ·obtain ⟨r,e1,_⟩:=Zd9 e
  rw [hrest e1];rfl
 ·obtain ⟨r,e1,_⟩:=Zd9 e
  injection e1 with e1;injection e1 with e _;subst e;rfl
theorem ZFJ (b:Int) (l:Zb) (hl:l.length<=1000000):OkW (Za6 b l).1/\(Za6 b l).1.payload.length<=1000000:=by
 have z:OkW ZT/\ZT.payload.length<=1000000:=⟨ZaI,by simp [ZT]⟩
 unfold Za6
 split
 ·exact z
 split
 ·unfold Zdw
  split
  ·split
   ·split
    ·exact z
    ·rename_i h
     obtain ⟨h1,h2,h3⟩:=Zyn h
     exact ⟨⟨Nat.le_trans h1 (by decide),by simp only;omega,ZaI.codes,h2,ZaI.subs,ZaI.filters,ZaI.client,ZaI.wtopic,ZaI.wdata,ZaI.wprops,ZaI.user,ZaI.password⟩,by simp only;omega⟩
   ·exact z
  ·exact z
 split
 ·split
  ·exact z
  ·rename_i h
   exact ⟨ZBd hl h,by rw [ZFX h];simp⟩
 ·exact z
theorem Zy6 (x:UInt8) (body:Zb) (p:Zl) (hp:OkW (Za3 p)):E1 5 [.agg [Zc x,.lst false (body.map Zc)],Z4 p] []=some (.bool true,[]):=by
 have fk:=fun σ sq own=>ZbB (Zu5 σ sq own true body 1200 (by omega))
 rw [show (1200:Int).toNat=1200 from rfl] at fk
 have hl:(body.take 1200).length<=1200:=by rw [List.length_take];omega
 generalize body.take 1200=l at *
 have hx:(0:Int)<=((x.toNat:Nat):Int)/\((x.toNat:Nat):Int) < 256:=by have:=x.toNat_lt;omega
 have fR:=fun σ sq own=>Zi3 (x.toNat:Nat) hx l (by omega) false σ sq own
 have ho:=Zrj (x.toNat:Nat) l
 have hbk:=ZFs (x.toNat:Nat) hx l (by omega)
 have hok:=ZFJ (x.toNat:Nat) l (by omega)
 have fp:=ZIe p
 have fw:=fun σ sq own=>ZOP σ sq own true
 have fn:=fun σ sq own e=>ZbB (Zs5 σ sq own true e)
 have yp:=ZA2 p
 rw [Zbt]
 have e0:=ZbZ p
 have e1:=Zcw p
 have e2:(Zv p).drop 26=[]:=rfl
 have pa:=Ztu (Za3 p) hp yp (Za3 p)
 generalize Za3 p=a at *
 have a0:=ZbZ a
 have a1:=Zcw a
 have ao:(Zv a).all ZV=true:=rfl
 have fz:=ZGC [.agg (Zv ZT),.agg [.int .i64 0,.bool false,.int .i64 0,.bool false,.int .i64 0,.str [],.lst true [],.int .i64 0,.lst true [],.lst true [],.lst true [],.lst true [],.bool false,.int .i64 0,.str [],.bool false,.str [],.lst true [],.int .i64 0,.bool false,.lst true [],.bool false,.str [],.bool false,.lst true [],.bool false]] rfl rfl
 have hnz:(Zv ZT).all ZV=true:=rfl
 have lz:=ZbZ ZT
 have lt:=Zcw ZT
 have hll:(l.map Zc).length=l.length:=by simp
 rw [show Zc x=.int .u8 ((x.toNat:Nat):Int) from rfl]
 generalize hX:((x.toNat:Nat):Int)=X at *
 have hg:∃ (g1:Int) (B:Zb) (d:Int) (s:Bool),(∀ σ sq own,Zj E1 BY σ sq 34 own true [.agg (Zv a)]=some (.tup [.agg [.int .u8 g1,.lst false (B.map Zc)],.int .i64 d],σ,{}))/\((d=0/\s=true/\(∀ σ sq own,Zj E1 BY σ sq 32 own true [.agg [.int .u8 g1,.lst false (B.map Zc)]]=some (.tup [.agg (Zv a),.int .i64 0],σ,{})))\/(d=129/\s=false/\g1=0/\B=[])):=by
  by_cases ga:ZgW a
  ·have fF:=ZsU a hp yp ga [.agg (Zv a)] pa.1 pa.2
   have hxx:Zc (Zjw a)=.int .u8 (ZbE a):=by rw [<-ZmG];rfl
   unfold ZhJ at fF
   rw [hxx] at fF
   refine ⟨ZbE a,Za0 a,0,true,fF,Or.inl ⟨rfl,rfl,fun σ sq own=>?_⟩⟩
   have:=Zi3 (ZbE a) (Zkh a) (Za0 a) (by have:=ga.1;omega) false σ sq own
   rw [ga.2] at this
   exact this
  ·exact ⟨0,[],129,false,ZN6 a hp yp ga [.agg (Zv a)] pa.1 pa.2,Or.inr ⟨rfl,rfl,rfl,rfl⟩⟩
 have fSa:=fun σ sq own=>ZbB (Zk3 σ sq own true a a (Ztf hp))
 rw [(Zl0 a a).2 rfl,Zbt] at fSa
 obtain ⟨g1,B,d,s,fF,hs⟩:=hg
 clear pa hp yp
 rcases ho with ⟨ho1,ho2⟩ | ⟨ho1,_⟩
 ·rw [ho1,Zbt] at fR
  have cz:((Za6 X l).2 == 0)=false:=by simpa using ho2
  generalize (Za6 X l).2=c at *
  clear hbk hok ho1
  rcases hs with ⟨rfl,rfl,fG⟩ | ⟨rfl,rfl,rfl,rfl⟩
  ·generalize Zv ZT=Z at *
   generalize Zv a=A at *
   generalize Zv p=P at *
   generalize l.map Zc=L at *
   generalize B.map Zc=BB at *
   rw [Zbs (by rfl) Zko]
   simp -implicitDefEqProofs only [EQA,Nat.reduceAdd,Nat.reduceLT,Nat.reduceLeDiff,Nat.reduceEqDiff,Nat.reduceBEq,unA,ZF,unG,reduceCtorEq,↓reduceIte,Zkd,ZhN,Zma,oI,oN,AVal.cells,Zao,ZV,e0,e1,e2,a0,a1,ao,fk,fR,fp,fF,fG,fSa,fw,fn,fz,cz,hnz,lz,lt,bne_self_eq_false]
  ·generalize Zv ZT=Z at *
   generalize Zv a=A at *
   generalize Zv p=P at *
   generalize l.map Zc=L at *
   rw [Zbs (by rfl) Zko]
   simp -implicitDefEqProofs only [EQA,Nat.reduceAdd,Nat.reduceLT,Nat.reduceLeDiff,Nat.reduceEqDiff,Nat.reduceBEq,unA,ZF,unG,reduceCtorEq,↓reduceIte,Zkd,ZhN,Zma,oI,oN,AVal.cells,Zao,ZV,e0,e1,e2,a0,a1,ao,fk,fR,fp,fF,fw,fn,fz,cz,hnz,lz,lt,z0b,Int.reduceBNe]
 ·obtain ⟨k1,k2,k3⟩:=hbk ho1
  obtain ⟨w1,w2⟩:=hok
  rw [ho1] at fR
  generalize (Za6 X l).1=q at *
  have pq:=Ztu q w1 w2 q
  have fQ:=ZsU q w1 w2 k1 [.agg (Zv q)] pq.1 pq.2
  have hxx:Zc (Zjw q)=.int .u8 X:=by
   rw [<-k2,<-ZmG];rfl
  unfold ZhJ at fQ
  rw [hxx] at fQ
  have fRq:∀ (σ:Za) (sq own:Nat),Zj E1 BY σ sq 32 own true [.agg [.int .u8 X,.lst false ((Za0 q).map Zc)]]=some (.tup [.agg (Zv q),.int .i64 0],σ,{}):=fun σ sq own=>by
   have:=Zi3 (ZbE q) (Zkh q) (Za0 q) (by have:=k1.1;omega) false σ sq own
   rw [k1.2,k2] at this
   exact this
  have fSq:=fun σ sq own=>ZbB (Zk3 σ sq own true q q (Ztf w1))
  rw [(Zl0 q q).2 rfl,Zbt] at fSq
  rw [Zbt] at fR
  have q0:=ZbZ q
  have q1:=Zcw q
  have qo:(Zv q).all ZV=true:=rfl
  have hbl:((Za0 q).map Zc).length=(Za0 q).length:=by simp
  have hgt:¬(((Za0 q).length:Nat):Int) > ((l.length:Nat):Int):=by omega
  have hgt2:¬((l.length:Nat):Int) < (((Za0 q).length:Nat):Int):=by omega
  clear pq k1 k3 w1 w2 fz hxx k2 hx hX
  generalize (Za0 q).length=bq at *
  generalize (Za0 q).map Zc=BQ at *
  generalize Zv q=Q at *
  rcases hs with ⟨rfl,rfl,fG⟩ | ⟨rfl,rfl,rfl,rfl⟩
  ·generalize Zv a=A at *
   generalize Zv p=P at *
   generalize B.map Zc=BB at *
   generalize hLL:l.length=ll at *
   generalize l.map Zc=L at *
   rw [Zbs (by rfl) Zko]
   simp -implicitDefEqProofs only [EQA,Nat.reduceAdd,Nat.reduceLT,Nat.reduceLeDiff,Nat.reduceEqDiff,Nat.reduceBEq,unA,ZF,unG,reduceCtorEq,↓reduceIte,Zkd,ZhN,Zma,oI,oN,AVal.cells,ZV,e0,e1,e2,a0,a1,ao,q0,q1,qo,hbl,hll,hgt,fk,fR,fQ,fRq,fSq,fp,fF,fG,fSa,fw,fn,bne_self_eq_false]
  ·generalize Zv a=A at *
   generalize Zv p=P at *
   generalize hLL:l.length=ll at *
   generalize l.map Zc=L at *
   rw [Zbs (by rfl) Zko]
   simp -implicitDefEqProofs only [EQA,Nat.reduceAdd,Nat.reduceLT,Nat.reduceLeDiff,Nat.reduceEqDiff,Nat.reduceBEq,unA,ZF,unG,reduceCtorEq,↓reduceIte,Zkd,ZhN,Zma,oI,oN,AVal.cells,ZV,e0,e1,e2,a0,a1,ao,q0,q1,qo,hbl,hll,hgt,fk,fR,fQ,fRq,fSq,fp,fF,fw,fn,z0b,bne_self_eq_false,Int.reduceBNe]
end
section
open Go.Shelf Go.RowKit
section
variable {P:Program} {ρ:Ren}
theorem ZlO (W:World) (dT sT ty elem:TypeId) (g o dLen dCap:Nat) (A:Option Addr) (sLen sCap:Nat) (cur:Array Value) (t:TypeId) (cs:List Value)
  (hu:P.underlying dT=some (.slice elem)) (hs:(P.info? elem).map (·.size)=some 1) (hg:W.heap[g]?=some (.cells cur t (0,0))) (hn:cs.length=sLen) (hd:sLen<=dLen)
  (hsrc:sLen=0\/∃ a,A=some a/\∀ j v,cs[j]?=some v->W.cell? (a.add j)=some v) (hfit:o+cs.length<=cur.size) (h1:∀ v ∈ cs,v.oneCell'=true) :
  ∃ W2 Y,(Builtin.copy_ #[dT,sT] ty #[.slice (some ⟨g,o,none⟩) dLen dCap,.slice A sLen sCap]).run P W=.ok (goInt sLen) W2/\W2.heap[g]?=some (.cells Y t (0,0)) /\
   Y.toList=cur.toList.take o++cs++cur.toList.drop (o+sLen)/\W.grownBy W2 (some g)/\W2.heap.size=W.heap.size:=by
 rcases hsrc with h0 | ⟨a,rfl,hsrc⟩
 ·have hc:cs=[]:=List.eq_nil_of_length_eq_zero (by omega)
  subst hc
  subst h0
  exact ⟨W,cur,run_copy_none W dT sT ty elem _ _ _ _ _ _ hu hs (by simp),hg,by simp,⟨rfl,rfl,rfl,Nat.le_refl _,fun _ _ _=>rfl⟩,rfl⟩
 ·have h:=run_copy_row (P:=P) W dT sT ty elem g o dLen dCap a sLen sCap cur t cs hu hs hg (by rw [hn];exact (Nat.min_eq_left hd).symm) hsrc hfit h1
  rw [hn] at h
  refine ⟨_,_,h,setRow_heap _ _ _ _ _ _ hg,by simp,⟨rfl,rfl,rfl,by simp,fun k _ hk=>setRow_other _ _ _ _ (fun e=>hk (by rw [e]))⟩,by simp⟩
set_option maxRecDepth 100000 in
theorem ZmJ (L:LaysM.n290 P ρ) (A:Option Addr) (l c n:Nat) (olds:List Value) (w:World) (ho:olds.length=l) (hlc:l<=c) (hn:1<=n)
  (hlim:l+n<=140737488355328) (hc2:c<=140737488355328) (hsrc:l=0\/∃ a,A=some a/\∀ j v,olds[j]?=some v->w.cell? (a.add j)=some v) (h1:∀ v ∈ olds,v.oneCell'=true) :
  Calls P (ρ.f 290) #[.slice A l c,.int .i64 n] w fun e w'=>∃ cap2 cells,e=.returned (.slice (some ⟨w.heap.size,0,none⟩) l cap2)/\w'.heap[w.heap.size]?=some (.cells cells (ρ.t 5) (0,0)) /\
   cells.size=cap2/\cells.toList.take l=olds/\l+n<=cap2/\cap2<=maxLen/\Below w.heap.size w w':=by
 have mixed:=L.mixed
 have t5:=L.t5;have a5:=L.a5;have z5:=L.z5;have v5:=L.v5
 have t37:=L.t37;have a37:=L.a37;have z37:=L.z37;have v37:=L.v37
 have t3:=L.t3;have a3:=L.a3;have z3:=L.z3;have v3:=L.v3
 have t0:=L.t0;have a0:=L.a0;have z0:=L.z0;have v0:=L.v0
 have t4:=L.t4;have a4:=L.a4;have z4:=L.z4;have v4:=L.v4
 obtain ⟨i0,hi,hz0,hz1,hz2⟩:=info_parts L.i5
 have hsz1:(P.info? (ρ.t 5)).map (·.size)=some 1:=by rw [hi];simp [hz1]
 by_cases hC:l+n < 2*c
 ·have happ:=Lib.run_append_nil_zeros (P:=P) w (ρ.t 37) (ρ.t 3) (ρ.t 37) (ρ.t 5) i0 (.int .u8 0) .i64 .i64 L.t37 L.t3 hi hz0 (2*c) (by omega) (by omega) (by omega) (by rw [hz2];omega)
  rw [show (((2*c:Nat)):Int)=2*(c:Int) by omega] at happ
  generalize hcap:grownCap w (2*c) 0 (ρ.t 5)=cap2 at happ
  have hcapge:2*c<=cap2:=by rw [<-hcap];exact grownCap_ge w _ 0 (ρ.t 5)
  have hcaple:cap2<=maxLen:=by rw [<-hcap];exact grownCap_le_maxLen w _ 0 (ρ.t 5) (by unfold maxLen;omega)
  generalize hZ:(Builtin.zeroCells (Value.int .u8 0).cells (2*c)++Builtin.zeroCells (Value.int .u8 0).cells (cap2 - (2*c)))=Z at happ
  have hZs:Z.size=cap2:=by rw [<-hZ];simp [size_zeroCells,Value.cells];omega
  clear hcap hZ
  have hsrc1:l=0\/∃ a,A=some a/\∀ j v,olds[j]?=some v->(w.alloc (.cells Z (ρ.t 5))).drew.cell? (a.add j)=some v:=hsrc.imp id fun ⟨a,e,h⟩=>⟨a,e,fun j v hj=>(World.cell?_of_block (a:=a.add j) (Below.heap_alloc w _ _ (World.block_lt_of_cell? w _ (h j v hj)))).trans (h j v hj)⟩
  obtain ⟨W2,Y,hcopy,hY,hYl,hgb,hsz⟩:=ZlO (P:=P) (w.alloc (.cells Z (ρ.t 5))).drew (ρ.t 37) (ρ.t 37) (ρ.t 3) (ρ.t 5) w.heap.size 0 (2*c) cap2 A l c Z (ρ.t 5) olds L.t37 hsz1 (heap_alloc_new w _) ho (by omega) hsrc1 (by omega) h1
  go_enter_defers L.f290,Body.n290_ntmps ρ
  go_wp2_with (at_builtin;refine Lib.wpList_append_run _ rfl _ _ _ _ rfl _ _ rfl rfl _ _ happ ?_)
  refine leaves_cons (f:=(ρ.f 324)) (args:=#[]) (by simp) (enters_of L.f324 (by kernel_rfl) rfl _ _) ?_
  refine (Any.growSlice_catch_idle { L with } _).mono ?_
  rintro e u' w'' ⟨rfl,rfl,rfl⟩
  refine ⟨_,results_tmp rfl _ _ _,?_⟩
  refine ⟨cap2,Y,rfl,hY,?_,?_,by omega,hcaple,?_⟩
  ·have h3:=congrArg List.length hYl
   simp only [List.length_append,List.length_drop,List.take_zero,List.length_nil,Array.length_toList] at h3
   omega
  ·rw [hYl,List.take_zero,List.nil_append,List.take_append_of_le_length (by omega),List.take_of_length_le (by omega)]
  ·have hs1:(w.alloc (.cells Z (ρ.t 5))).drew.heap.size=w.heap.size+1:=by show (w.alloc (.cells Z (ρ.t 5))).heap.size=_;simp
   exact ⟨hgb.os,hgb.tape,hgb.output,by omega,fun k hk=>(hgb.block k (by omega) (fun e=>by injection e with e;omega)).trans (Below.heap_alloc w _ k hk)⟩
 ·have happ:=Lib.run_append_nil_zeros (P:=P) w (ρ.t 37) (ρ.t 3) (ρ.t 37) (ρ.t 5) i0 (.int .u8 0) .i64 .i64 L.t37 L.t3 hi hz0 (l+n) (by omega) (by omega) (by omega) (by rw [hz2];omega)
  rw [show (((l+n:Nat)):Int)=(l:Int)+(n:Int) by omega] at happ
  generalize hcap:grownCap w (l+n) 0 (ρ.t 5)=cap2 at happ
  have hcapge:l+n<=cap2:=by rw [<-hcap];exact grownCap_ge w _ 0 (ρ.t 5)
  have hcaple:cap2<=maxLen:=by rw [<-hcap];exact grownCap_le_maxLen w _ 0 (ρ.t 5) (by unfold maxLen;omega)
  generalize hZ:(Builtin.zeroCells (Value.int .u8 0).cells (l+n)++Builtin.zeroCells (Value.int .u8 0).cells (cap2 - (l+n)))=Z at happ
  have hZs:Z.size=cap2:=by rw [<-hZ];simp [size_zeroCells,Value.cells];omega
  clear hcap hZ
  have hsrc1:l=0\/∃ a,A=some a/\∀ j v,olds[j]?=some v->(w.alloc (.cells Z (ρ.t 5))).drew.cell? (a.add j)=some v:=hsrc.imp id fun ⟨a,e,h⟩=>⟨a,e,fun j v hj=>(World.cell?_of_block (a:=a.add j) (Below.heap_alloc w _ _ (World.block_lt_of_cell? w _ (h j v hj)))).trans (h j v hj)⟩
  obtain ⟨W2,Y,hcopy,hY,hYl,hgb,hsz⟩:=ZlO (P:=P) (w.alloc (.cells Z (ρ.t 5))).drew (ρ.t 37) (ρ.t 37) (ρ.t 3) (ρ.t 5) w.heap.size 0 (l+n) cap2 A l c Z (ρ.t 5) olds L.t37 hsz1 (heap_alloc_new w _) ho (by omega) hsrc1 (by omega) h1
  go_enter_defers L.f290,Body.n290_ntmps ρ
  go_wp2_with (at_builtin;refine Lib.wpList_append_run _ rfl _ _ _ _ rfl _ _ rfl rfl _ _ happ ?_)
  refine leaves_cons (f:=(ρ.f 324)) (args:=#[]) (by simp) (enters_of L.f324 (by kernel_rfl) rfl _ _) ?_
  refine (Any.growSlice_catch_idle { L with } _).mono ?_
  rintro e u' w'' ⟨rfl,rfl,rfl⟩
  refine ⟨_,results_tmp rfl _ _ _,?_⟩
  refine ⟨cap2,Y,rfl,hY,?_,?_,by omega,hcaple,?_⟩
  ·have h3:=congrArg List.length hYl
   simp only [List.length_append,List.length_drop,List.take_zero,List.length_nil,Array.length_toList] at h3
   omega
  ·rw [hYl,List.take_zero,List.nil_append,List.take_append_of_le_length (by omega),List.take_of_length_le (by omega)]
  ·have hs1:(w.alloc (.cells Z (ρ.t 5))).drew.heap.size=w.heap.size+1:=by show (w.alloc (.cells Z (ρ.t 5))).heap.size=_;simp
   exact ⟨hgb.os,hgb.tape,hgb.output,by omega,fun k hk=>(hgb.block k (by omega) (fun e=>by injection e with e;omega)).trans (Below.heap_alloc w _ k hk)⟩
set_option maxRecDepth 100000 in
theorem Zkr (L:LaysM.n181 P ρ) (b:Nat) (ao:Option Addr) (l cap:Nat) (w:World) (c0:w.cell? ⟨b,0,none⟩=some (.slice ao l cap)) (c1:w.cell? ⟨b,1,none⟩=some (.int .i64 0)) (hmax:l<=maxLen) :
  Calls P (ρ.f 181) #[.pointer (some ⟨b,0,none⟩)] w fun e w'=>e=.returned (.int .i64 l)/\∃ n,w'=w.drewN n:=by
 have mixed:=L.mixed
 have t5:=L.t5;have a5:=L.a5;have z5:=L.z5;have v5:=L.v5
 have t130:=L.t130;have a130:=L.a130;have z130:=L.z130;have v130:=L.v130
 have t3:=L.t3;have a3:=L.a3;have z3:=L.z3;have v3:=L.v3
 have t0:=L.t0;have a0:=L.a0;have z0:=L.z0;have v0:=L.v0
 have t93:=L.t93;have u93:=run_underlying L.t93;have a93:=L.a93;have z93:=L.z93;have v93:=L.v93
 have t37:=L.t37;have a37:=L.a37;have z37:=L.z37;have v37:=L.v37
 unfold maxLen at hmax
 go_enter L.f181,Body.n181_ntmps ρ
 go_wp2
 go_region_o
 all_goals (go_wp2;go_ret;exact ⟨by simp,1,rfl⟩)
def Zis (w:World) (T:TypeId) (R:Nat->Option Value) (b l n:Nat) (olds:List Value) (lr:Int) (e:TypeId) (w':World):Prop :=
 ∃ cap2 cells,LibA.Three w' b 0 T R (.slice (some ⟨w.heap.size,0,none⟩) (l+n) cap2) (.int .i64 0) (.int .i8 lr)/\w'.heap[w.heap.size]?=some (.cells cells e (0,0)) /\
  cells.size=cap2/\cells.toList.take l=olds/\l+n<=cap2/\cap2<=maxLen/\w.grownBy w' (some b)
theorem Zqs {w:World} {b:Nat} {T:TypeId} {R:Nat->Option Value} {x y z:Value} (h:LibA.Three w b 0 T R x y z) (v1 s:Value) :
  LibA.Three (((w.setCell ⟨b,0,none⟩ v1).setCell ⟨b,1,none⟩ (.int .i64 0)).setCell ⟨b,0,none⟩ s) b 0 T R s (.int .i64 0) z:=((h.set0 v1).set1 (.int .i64 0)).set0 s
end
end
section
open Go.Shelf Go.RowKit
section
variable {P:Program} {ρ:Ren}
set_option maxRecDepth 100000 in
theorem ZIw (L:LaysM.n252 P ρ) (T:TypeId) (R:Nat->Option Value) (b:Nat)  (n:Nat) (lr:Int) (w:World)
  (hbk:LibA.Three w b 0 T R (.slice none 0 0) (.int .i64 0) (.int .i8 lr)) (hn:1<=n) (h64:n<=64) :
  Calls P (ρ.f 252) #[.pointer (some ⟨b,0,none⟩),.int .i64 n] w fun e w'=>e=.returned (.int .i64 0)/\Zis w T R b 0 n [] lr (ρ.t 5) w':=by
 have mixed:=L.mixed
 have t5:=L.t5;have a5:=L.a5;have z5:=L.z5;have v5:=L.v5
 have t130:=L.t130;have a130:=L.a130;have z130:=L.z130;have v130:=L.v130
 have t3:=L.t3;have a3:=L.a3;have z3:=L.z3;have v3:=L.v3
 have t4:=L.t4;have a4:=L.a4;have z4:=L.z4;have v4:=L.v4
 have t0:=L.t0;have a0:=L.a0;have z0:=L.z0;have v0:=L.v0
 have t93:=L.t93;have u93:=run_underlying L.t93;have a93:=L.a93;have z93:=L.z93;have v93:=L.v93
 have t131:=L.t131;have a131:=L.a131;have z131:=L.z131;have v131:=L.v131
 have t37:=L.t37;have a37:=L.a37;have z37:=L.z37;have v37:=L.v37
 have t75:=L.t75;have a75:=L.a75;have z75:=L.z75;have v75:=L.v75
 have e181:∀ args w,(callFunc (ρ.f 181) args).run P w=.ok (.enter (ρ.f 181) args) w:=enters_of L.f181 (by kernel_rfl) rfl
 have e251:∀ args w,(callFunc (ρ.f 251) args).run P w=.ok (.enter (ρ.f 251) args) w:=enters_of L.f251 (by kernel_rfl) rfl
 have e290:∀ args w,(callFunc (ρ.f 290) args).run P w=.ok (.enter (ρ.f 290) args) w:=enters_of L.f290 (by kernel_rfl) rfl
 have hnil:∀ W,(binOp .eql (ρ.t 37) (.slice none 0 0) (.slice none 0 0)).run P W=.ok (.bool true) W:=fun W=>Lib.run_eql_slice_nil_nil W _ _ L.t37
 obtain ⟨i0,hi,hz0,hz1,hz2⟩:=info_parts L.i5
 obtain ⟨M,hM⟩:∃ M,M=madeCells (Value.int .u8 0).cells ((64:Int).toNat*i0.size):=⟨_,rfl⟩
 have hMs:M.size=64:=by rw [hM,size_madeCells,hz1];rfl
 have hmk:∀ W:World,(Instr.makeSlice (ρ.t 37) (.int .i64 (n:Int)) (.int .i64 64)).run P W=.ok (.slice (some ⟨W.heap.size,0,none⟩) n 64) (W.alloc (.cells M (ρ.t 5))):=fun W=>by
  have h:=run_makeSlice (P:=P) W (ρ.t 37) (ρ.t 5) i0 (.int .u8 0) L.t37 hi hz0 .i64 .i64 (n:Int) 64 (by omega) (by omega) (by rw [hz1];decide) (by rw [hz2];decide) (by decide)
  rw [<-hM] at h
  simpa using h
 clear hM
 go_enter L.f252,Body.n252_ntmps ρ
 go_wp2_with (go_at_fn (ρ.f 181);refine (Zkr { L with } b none 0 0 _ hbk.c0 hbk.c1 (by unfold maxLen;omega)).mono ?_)
 rintro e W0 ⟨rfl,k,hW0⟩
 have hbk0:LibA.Three W0 b 0 T R (.slice none 0 0) (.int .i64 0) (.int .i8 lr):=by rw [hW0];exact hbk
 have c0:W0.cell? ⟨b,0,none⟩=some (.slice none 0 0):=hbk0.c0
 have c1:W0.cell? ⟨b,1,none⟩=some (.int .i64 0):=hbk0.c1
 have f0:W0.frozen? ⟨b,0,none⟩=false:=hbk0.f 0
 have f1:W0.frozen? ⟨b,1,none⟩=false:=hbk0.f 1
 have hbW0:=hbk0.lt
 have c0a:∀ o,(W0.alloc o).cell? ⟨b,0,none⟩=some (.slice none 0 0):=fun o=>(World.cell?_of_block (a:=⟨b,0,none⟩) (Below.heap_alloc W0 o b hbW0)).trans c0
 have f0a:∀ o,(W0.alloc o).frozen? ⟨b,0,none⟩=false:=fun o=>(World.frozen?_of_block (a:=⟨b,0,none⟩) (Below.heap_alloc W0 o b hbW0)).trans f0
 have HW0:=Lib.hid hW0
 clear hW0
 go_wp2_with (go_at_fn (ρ.f 251);refine (Any.Buffer_tryGrow_none_at { L with } b 0 _ 0 0 n _ c0 (Nat.le_refl _) (Nat.zero_le _) (by omega)).mono ?_;rintro e w' ⟨rfl,rfl⟩)
 go_ret
 have hsz0:w'.heap.size=w.heap.size:=by rw [HW0.out];rfl
 have hg0:w.grownBy w' (some b):=by rw [HW0.out];exact ⟨rfl,rfl,rfl,Nat.le_refl _,fun _ _ _=>rfl⟩
 have hszc:(w'.setCell ⟨b,0,none⟩ (.slice (some ⟨w'.heap.size,0,none⟩) n 64)).heap.size=w'.heap.size:=by simp [World.setCell]
 refine ⟨rfl,64,M,?_,?_,hMs,by simp,by omega,by unfold maxLen;omega,Lib.grownBy_allocR (Lib.grownBy_setB hg0 0 _) _⟩
 ·rw [Nat.zero_add,<-hsz0]
  exact (hbk0.set0 (.slice (some ⟨w'.heap.size,0,none⟩) n 64)).of_heap (Below.heap_alloc _ _ b (by rw [hszc];exact hbW0))
 ·have h:=heap_alloc_new (w'.setCell ⟨b,0,none⟩ (.slice (some ⟨w'.heap.size,0,none⟩) n 64)) (.cells M (ρ.t 5))
  rw [hszc] at h
  rw [<-hsz0]
  exact h
set_option maxRecDepth 100000 in
theorem ZMu (L : LaysM.n252 P ρ) (T : TypeId) (R : Nat -> Option Value) (b : Nat)  (n : Nat) (lr : Int) (w : World)
    (hbk : LibA.Three w b 0 T R (.slice none 0 0) (.int .i64 0) (.int .i8 lr)) (h64 : 64 < n) (hlim : n <= 70368744177664) :
    Calls P (ρ.f 252) #[.pointer (some ⟨b, 0, none⟩), .int .i64 n] w fun e w' => e = .returned (.int .i64 0) /\ Zis w T R b 0 n [] lr (ρ.t 5) w' := by
  have mixed := L.mixed
  have t5 := L.t5; have a5 := L.a5; have z5 := L.z5; have v5 := L.v5
  have t130 := L.t130; have a130 := L.a130; have z130 := L.z130; have v130 := L.v130
  have t3 := L.t3; have a3 := L.a3; have z3 := L.z3; have v3 := L.v3
  have t4 := L.t4; have a4 := L.a4; have z4 := L.z4; have v4 := L.v4
  have t0 := L.t0; have a0 := L.a0; have z0 := L.z0; have v0 := L.v0
  have t93 := L.t93; have u93 := run_underlying L.t93; have a93 := L.a93; have z93 := L.z93; have v93 := L.v93
  have t131 := L.t131; have a131 := L.a131; have z131 := L.z131; have v131 := L.v131
  have t37 := L.t37; have a37 := L.a37; have z37 := L.z37; have v37 := L.v37
  have t75 := L.t75; have a75 := L.a75; have z75 := L.z75; have v75 := L.v75
  have e181 : ∀ args w, (callFunc (ρ.f 181) args).run P w = .ok (.enter (ρ.f 181) args) w := enters_of L.f181 (by kernel_rfl) rfl
  have e251 : ∀ args w, (callFunc (ρ.f 251) args).run P w = .ok (.enter (ρ.f 251) args) w := enters_of L.f251 (by kernel_rfl) rfl
  have e290 : ∀ args w, (callFunc (ρ.f 290) args).run P w = .ok (.enter (ρ.f 290) args) w := enters_of L.f290 (by kernel_rfl) rfl
  have hnil : ∀ W, (binOp .eql (ρ.t 37) (.slice none 0 0) (.slice none 0 0)).run P W = .ok (.bool true) W := fun W => Lib.run_eql_slice_nil_nil W _ _ L.t37
  have hc2 : 0 <= 140737488355328 := by omega
  have hcm' : 0 <= maxLen := by unfold maxLen; omega
  go_enter L.f252, Body.n252_ntmps ρ
  go_wp2_with (go_at_fn (ρ.f 181); refine (Zkr { L with } b none 0 0 _ hbk.c0 hbk.c1 (by unfold maxLen; omega)).mono ?_)
  rintro e W0 ⟨rfl, k, hW0⟩
  have hbk0 : LibA.Three W0 b 0 T R (.slice none 0 0) (.int .i64 0) (.int .i8 lr) := by rw [hW0]; exact hbk
  have c0 : W0.cell? ⟨b, 0, none⟩ = some (.slice none 0 0) := hbk0.c0
  have c1 : W0.cell? ⟨b, 1, none⟩ = some (.int .i64 0) := hbk0.c1
  have f0 : W0.frozen? ⟨b, 0, none⟩ = false := hbk0.f 0
  have f1 : W0.frozen? ⟨b, 1, none⟩ = false := hbk0.f 1
  have HW0 := Lib.hid hW0
  clear hW0
  go_wp2_with (go_at_fn (ρ.f 251); refine (Any.Buffer_tryGrow_none_at { L with } b 0 _ 0 0 n _ c0 (by omega) hcm' (by omega)).mono ?_; rintro e w' ⟨rfl, rfl⟩)
  have hbW := hbk0.lt
  have hwn : IntKind.i64.wrap (n : Int) = n := by rw [IntKind.wrap_i64]; omega
  go_region_with_o (
      go_at_fn (ρ.f 290)
      refine (ZmJ { L with } none 0 0 n [] _ ?_ (by omega) (by omega) (by omega) hc2 ?_ ?_).mono ?_
      . first | exact ho | rfl
      . exact Or.inl rfl
      . first | exact h1 | exact fun v h => by cases h
      rintro e w2 ⟨cap2, cells, rfl, hN, hcsz, htk, hcap2, hcm2, hbel⟩
      have hbk2 : LibA.Three w2 b 0 T R (.slice none 0 0) (.int .i64 0) (.int .i8 lr) := hbk0.of_heap (hbel.block b hbW)
      have d0 : w2.cell? ⟨b, 0, none⟩ = some (.slice none 0 0) := hbk2.c0
      have d1 : w2.cell? ⟨b, 1, none⟩ = some (.int .i64 0) := hbk2.c1
      have e0 : w2.frozen? ⟨b, 0, none⟩ = false := hbk2.f 0
      have e1 : w2.frozen? ⟨b, 1, none⟩ = false := hbk2.f 1)
  all_goals (
    go_wp2
    go_ret
    have hsz0 : w'.heap.size = w.heap.size := by rw [HW0.out]; rfl
    have hg2 : w.grownBy w2 (some b) := Lib.grownBy_below (w := w'.drew) (by rw [HW0.out]; exact ⟨rfl, rfl, rfl, Nat.le_refl _, fun _ _ _ => rfl⟩) hbel
    refine ⟨rfl, cap2, cells, ?_, ?_, hcsz, htk, hcap2, hcm2, Lib.grownBy_setB (Lib.grownBy_setB (Lib.grownBy_setB hg2 0 _) 1 _) 0 _⟩
    . rw [Nat.zero_add, <- hsz0]; exact Zqs hbk2 _ _
    . have hNb : w.heap.size ≠ b := by omega
      rw [Below.heap_setCell _ _ _ _ hNb, Below.heap_setCell _ _ _ _ hNb, Below.heap_setCell _ _ _ _ hNb]
      rw [<- hsz0]; exact hN)
end
end
section
open Go.Shelf Go.RowKit
section
variable {P:Program} {ρ:Ren}
set_option maxRecDepth 100000 in
theorem ZCj (L : LaysM.n252 P ρ) (T : TypeId) (R : Nat -> Option Value) (b : Nat) (x : Addr) (cap : Nat) (n : Nat) (lr : Int) (w : World)
    (hbk : LibA.Three w b 0 T R (.slice (some x) 0 cap) (.int .i64 0) (.int .i8 lr)) (hroom : cap < n) (hlim : n <= 70368744177664) :
    Calls P (ρ.f 252) #[.pointer (some ⟨b, 0, none⟩), .int .i64 n] w fun e w' => e = .returned (.int .i64 0) /\ Zis w T R b 0 n [] lr (ρ.t 5) w' := by
  have mixed := L.mixed
  have t5 := L.t5; have a5 := L.a5; have z5 := L.z5; have v5 := L.v5
  have t130 := L.t130; have a130 := L.a130; have z130 := L.z130; have v130 := L.v130
  have t3 := L.t3; have a3 := L.a3; have z3 := L.z3; have v3 := L.v3
  have t4 := L.t4; have a4 := L.a4; have z4 := L.z4; have v4 := L.v4
  have t0 := L.t0; have a0 := L.a0; have z0 := L.z0; have v0 := L.v0
  have t93 := L.t93; have u93 := run_underlying L.t93; have a93 := L.a93; have z93 := L.z93; have v93 := L.v93
  have t131 := L.t131; have a131 := L.a131; have z131 := L.z131; have v131 := L.v131
  have t37 := L.t37; have a37 := L.a37; have z37 := L.z37; have v37 := L.v37
  have t75 := L.t75; have a75 := L.a75; have z75 := L.z75; have v75 := L.v75
  have e181 : ∀ args w, (callFunc (ρ.f 181) args).run P w = .ok (.enter (ρ.f 181) args) w := enters_of L.f181 (by kernel_rfl) rfl
  have e251 : ∀ args w, (callFunc (ρ.f 251) args).run P w = .ok (.enter (ρ.f 251) args) w := enters_of L.f251 (by kernel_rfl) rfl
  have e290 : ∀ args w, (callFunc (ρ.f 290) args).run P w = .ok (.enter (ρ.f 290) args) w := enters_of L.f290 (by kernel_rfl) rfl
  have hnil : ∀ W, (binOp .eql (ρ.t 37) (.slice (some x) 0 cap) (.slice none 0 0)).run P W = .ok (.bool false) W := fun W => Lib.run_eql_slice_some_nil W _ _ _ L.t37
  have hc2 : cap <= 140737488355328 := by omega
  have hcm' : cap <= maxLen := by unfold maxLen; omega
  go_enter L.f252, Body.n252_ntmps ρ
  go_wp2_with (go_at_fn (ρ.f 181); refine (Zkr { L with } b (some x) 0 cap _ hbk.c0 hbk.c1 (by unfold maxLen; omega)).mono ?_)
  rintro e W0 ⟨rfl, k, hW0⟩
  have hbk0 : LibA.Three W0 b 0 T R (.slice (some x) 0 cap) (.int .i64 0) (.int .i8 lr) := by rw [hW0]; exact hbk
  have c0 : W0.cell? ⟨b, 0, none⟩ = some (.slice (some x) 0 cap) := hbk0.c0
  have c1 : W0.cell? ⟨b, 1, none⟩ = some (.int .i64 0) := hbk0.c1
  have f0 : W0.frozen? ⟨b, 0, none⟩ = false := hbk0.f 0
  have f1 : W0.frozen? ⟨b, 1, none⟩ = false := hbk0.f 1
  have HW0 := Lib.hid hW0
  clear hW0
  go_wp2_with (go_at_fn (ρ.f 251); refine (Any.Buffer_tryGrow_none_at { L with } b 0 _ 0 cap n _ c0 (by omega) hcm' (by omega)).mono ?_; rintro e w' ⟨rfl, rfl⟩)
  have hbW := hbk0.lt
  have hwn : IntKind.i64.wrap (n : Int) = n := by rw [IntKind.wrap_i64]; omega
  go_region_with_o (
      go_at_fn (ρ.f 290)
      refine (ZmJ { L with } (some x) 0 cap n [] _ ?_ (by omega) (by omega) (by omega) hc2 ?_ ?_).mono ?_
      . first | exact ho | rfl
      . exact Or.inl rfl
      . first | exact h1 | exact fun v h => by cases h
      rintro e w2 ⟨cap2, cells, rfl, hN, hcsz, htk, hcap2, hcm2, hbel⟩
      have hbk2 : LibA.Three w2 b 0 T R (.slice (some x) 0 cap) (.int .i64 0) (.int .i8 lr) := hbk0.of_heap (hbel.block b hbW)
      have d0 : w2.cell? ⟨b, 0, none⟩ = some (.slice (some x) 0 cap) := hbk2.c0
      have d1 : w2.cell? ⟨b, 1, none⟩ = some (.int .i64 0) := hbk2.c1
      have e0 : w2.frozen? ⟨b, 0, none⟩ = false := hbk2.f 0
      have e1 : w2.frozen? ⟨b, 1, none⟩ = false := hbk2.f 1)
  all_goals (
    go_wp2
    go_ret
    have hsz0 : w'.heap.size = w.heap.size := by rw [HW0.out]; rfl
    have hg2 : w.grownBy w2 (some b) := Lib.grownBy_below (w := w'.drew) (by rw [HW0.out]; exact ⟨rfl, rfl, rfl, Nat.le_refl _, fun _ _ _ => rfl⟩) hbel
    refine ⟨rfl, cap2, cells, ?_, ?_, hcsz, htk, hcap2, hcm2, Lib.grownBy_setB (Lib.grownBy_setB (Lib.grownBy_setB hg2 0 _) 1 _) 0 _⟩
    . rw [Nat.zero_add, <- hsz0]; exact Zqs hbk2 _ _
    . have hNb : w.heap.size ≠ b := by omega
      rw [Below.heap_setCell _ _ _ _ hNb, Below.heap_setCell _ _ _ _ hNb, Below.heap_setCell _ _ _ _ hNb]
      rw [<- hsz0]; exact hN)
end
end
section
open Go.Shelf Go.RowKit
section
variable {P:Program} {ρ:Ren}
set_option maxRecDepth 100000 in
theorem ZEh (L : LaysM.n252 P ρ) (T : TypeId) (R : Nat -> Option Value) (b : Nat) (x : Addr) (l cap : Nat) (olds : List Value) (n : Nat) (lr : Int) (w : World)
    (hbk : LibA.Three w b 0 T R (.slice (some x) l cap) (.int .i64 0) (.int .i8 lr)) (hl0 : l ≠ 0) (ho : olds.length = l) (h1 : ∀ v ∈ olds, v.oneCell' = true) (hlc : l <= cap) (hroom : cap - l < n) (hlim : l + n <= 70368744177664)
    (hold : l = 0 \/ ∃ a, some x = some a /\ ∀ j v, (olds)[j]? = some v -> w.cell? (a.add j) = some v)  :
    Calls P (ρ.f 252) #[.pointer (some ⟨b, 0, none⟩), .int .i64 n] w fun e w' => e = .returned (.int .i64 l) /\ Zis w T R b l n olds lr (ρ.t 5) w' := by
  have mixed := L.mixed
  have t5 := L.t5; have a5 := L.a5; have z5 := L.z5; have v5 := L.v5
  have t130 := L.t130; have a130 := L.a130; have z130 := L.z130; have v130 := L.v130
  have t3 := L.t3; have a3 := L.a3; have z3 := L.z3; have v3 := L.v3
  have t4 := L.t4; have a4 := L.a4; have z4 := L.z4; have v4 := L.v4
  have t0 := L.t0; have a0 := L.a0; have z0 := L.z0; have v0 := L.v0
  have t93 := L.t93; have u93 := run_underlying L.t93; have a93 := L.a93; have z93 := L.z93; have v93 := L.v93
  have t131 := L.t131; have a131 := L.a131; have z131 := L.z131; have v131 := L.v131
  have t37 := L.t37; have a37 := L.a37; have z37 := L.z37; have v37 := L.v37
  have t75 := L.t75; have a75 := L.a75; have z75 := L.z75; have v75 := L.v75
  have e181 : ∀ args w, (callFunc (ρ.f 181) args).run P w = .ok (.enter (ρ.f 181) args) w := enters_of L.f181 (by kernel_rfl) rfl
  have e251 : ∀ args w, (callFunc (ρ.f 251) args).run P w = .ok (.enter (ρ.f 251) args) w := enters_of L.f251 (by kernel_rfl) rfl
  have e290 : ∀ args w, (callFunc (ρ.f 290) args).run P w = .ok (.enter (ρ.f 290) args) w := enters_of L.f290 (by kernel_rfl) rfl
  have hnil : ∀ W, (binOp .eql (ρ.t 37) (.slice (some x) l cap) (.slice none 0 0)).run P W = .ok (.bool false) W := fun W => Lib.run_eql_slice_some_nil W _ _ _ L.t37
  have hc2 : cap <= 140737488355328 := by omega
  have hcm' : cap <= maxLen := by unfold maxLen; omega
  go_enter L.f252, Body.n252_ntmps ρ
  go_wp2_with (go_at_fn (ρ.f 181); refine (Zkr { L with } b (some x) l cap _ hbk.c0 hbk.c1 (by unfold maxLen; omega)).mono ?_)
  rintro e W0 ⟨rfl, k, hW0⟩
  have hbk0 : LibA.Three W0 b 0 T R (.slice (some x) l cap) (.int .i64 0) (.int .i8 lr) := by rw [hW0]; exact hbk
  have c0 : W0.cell? ⟨b, 0, none⟩ = some (.slice (some x) l cap) := hbk0.c0
  have c1 : W0.cell? ⟨b, 1, none⟩ = some (.int .i64 0) := hbk0.c1
  have f0 : W0.frozen? ⟨b, 0, none⟩ = false := hbk0.f 0
  have f1 : W0.frozen? ⟨b, 1, none⟩ = false := hbk0.f 1
  have hold0 : l = 0 \/ ∃ a, some x = some a /\ ∀ j v, (olds)[j]? = some v -> W0.cell? (a.add j) = some v := by rw [hW0]; exact hold
  have HW0 := Lib.hid hW0
  clear hW0 hold
  go_wp2_with (go_at_fn (ρ.f 251); refine (Any.Buffer_tryGrow_none_at { L with } b 0 _ l cap n _ c0 (by omega) hcm' (by omega)).mono ?_; rintro e w' ⟨rfl, rfl⟩)
  have hbW := hbk0.lt
  have hwn : IntKind.i64.wrap (n : Int) = n := by rw [IntKind.wrap_i64]; omega
  go_region_with_o (
      go_at_fn (ρ.f 290)
      refine (ZmJ { L with } (some x) l cap n olds _ ?_ (by omega) (by omega) (by omega) hc2 ?_ ?_).mono ?_
      . first | exact ho | rfl
      . exact hold0
      . first | exact h1 | exact fun v h => by cases h
      rintro e w2 ⟨cap2, cells, rfl, hN, hcsz, htk, hcap2, hcm2, hbel⟩
      have hbk2 : LibA.Three w2 b 0 T R (.slice (some x) l cap) (.int .i64 0) (.int .i8 lr) := hbk0.of_heap (hbel.block b hbW)
      have d0 : w2.cell? ⟨b, 0, none⟩ = some (.slice (some x) l cap) := hbk2.c0
      have d1 : w2.cell? ⟨b, 1, none⟩ = some (.int .i64 0) := hbk2.c1
      have e0 : w2.frozen? ⟨b, 0, none⟩ = false := hbk2.f 0
      have e1 : w2.frozen? ⟨b, 1, none⟩ = false := hbk2.f 1)
  all_goals (
    go_wp2
    go_ret
    have hsz0 : w'.heap.size = w.heap.size := by rw [HW0.out]; rfl
    have hg2 : w.grownBy w2 (some b) := Lib.grownBy_below (w := w'.drew) (by rw [HW0.out]; exact ⟨rfl, rfl, rfl, Nat.le_refl _, fun _ _ _ => rfl⟩) hbel
    refine ⟨rfl, cap2, cells, ?_, ?_, hcsz, htk, hcap2, hcm2, Lib.grownBy_setB (Lib.grownBy_setB (Lib.grownBy_setB hg2 0 _) 1 _) 0 _⟩
    . rw [<- hsz0]; exact Zqs hbk2 _ _
    . have hNb : w.heap.size ≠ b := by omega
      rw [Below.heap_setCell _ _ _ _ hNb, Below.heap_setCell _ _ _ _ hNb, Below.heap_setCell _ _ _ _ hNb]
      rw [<- hsz0]; exact hN)
end
end
section
open Go.Shelf Go.RowKit
section
variable {P:Program} {ρ:Ren}
def BufRow (w:World) (b:Nat) (A:Option Addr) (l cap:Nat) (olds:List Value):Prop :=
 olds.length=l/\l<=cap/\cap<=maxLen/\(∀ v ∈ olds,v.oneCell'=true)/\(cap=0\/∃ g cur t,A=some ⟨g,0,none⟩/\g≠b/\w.heap[g]?=some (.cells cur t (0,0))/\cur.size=cap/\cur.toList.take l=olds)
theorem BufRow.hold {w:World} {b:Nat} {A:Option Addr} {l cap:Nat} {olds:List Value} (h:BufRow w b A l cap olds):l=0\/∃ a,A=some a/\∀ j v,olds[j]?=some v->w.cell? (a.add j)=some v:=by
 obtain ⟨h1,h2,h3,h4,h5 | ⟨g,cur,t,h5,h6,h7,h8,h9⟩⟩:=h
 ·exact Or.inl (by omega)
 ·exact Or.inr ⟨_,h5,by rw [<-h9];exact Lib.cells_of_row h7 l⟩
theorem ZN5 (L:LaysM.n252 P ρ) (T:TypeId) (R:Nat->Option Value) (b:Nat) (A:Option Addr) (l cap:Nat) (olds:List Value) (n:Nat) (lr:Int) (w:World)
  (hbk:LibA.Three w b 0 T R (.slice A l cap) (.int .i64 0) (.int .i8 lr)) (hr:BufRow w b A l cap olds) (hA:A=none->cap=0) (hroom:cap - l < n) (hlim:l+n<=70368744177664) :
  Calls P (ρ.f 252) #[.pointer (some ⟨b,0,none⟩),.int .i64 n] w fun e w'=>e=.returned (.int .i64 l)/\Zis w T R b l n olds lr (ρ.t 5) w':=by
 have hold:=hr.hold
 obtain ⟨h1,h2,h3,h4,h5⟩:=hr
 cases A with
 | none =>
  have hc:=hA rfl
  subst hc
  have hl0:l=0:=by omega
  subst hl0
  have ho:olds=[]:=List.eq_nil_of_length_eq_zero h1
  subst ho
  by_cases h64:n<=64
  ·exact ZIw L T R b n lr w hbk (by omega) h64
  ·exact ZMu L T R b n lr w hbk (by omega) (by omega)
 | some x =>
  by_cases hl0:l=0
  ·subst hl0
   have ho:olds=[]:=List.eq_nil_of_length_eq_zero h1
   subst ho
   exact ZCj L T R b x cap n lr w hbk (by omega) (by omega)
  ·exact ZEh L T R b x l cap olds n lr w hbk hl0 h1 h4 h2 hroom hlim hold
def ZvO (w:World) (T:TypeId) (R:Nat->Option Value) (b:Nat) (A:Option Addr) (l n cap:Nat) (all:List Value) (w':World):Prop :=
 ∃ A' cap',LibA.Three w' b 0 T R (.slice A' (l+n) cap') (.int .i64 0) (.int .i8 0)/\l+n<=cap'/\cap'<=maxLen /\
  ((n=0/\A'=A/\cap'=cap/\w.grownBy w' (some b)) \/
   ∃ G W1 Y t,A'=some ⟨G,0,none⟩/\(G=w.heap.size\/(A=some ⟨G,0,none⟩/\cap≠0))/\G≠b/\w.grownBy W1 (some b)/\W1.grownBy w' (some G)/\w'.heap[G]?=some (.cells Y t (0,0))/\Y.size=cap'/\Y.toList.take (l+n)=all)
set_option maxRecDepth 100000 in
theorem ZJC (L:LaysM.n180 P ρ) (T:TypeId) (R:Nat->Option Value) (b:Nat) (A:Option Addr) (l cap:Nat) (lr:Int) (olds news:List Value) (pa:Option Addr) (n pc:Nat) (w:World)
  (hbk:LibA.Three w b 0 T R (.slice A l cap) (.int .i64 0) (.int .i8 lr)) (hr:BufRow w b A l cap olds) (hA:A=none->cap=0) (hnews:news.length=n) (h1c:∀ v ∈ news,v.oneCell'=true)
  (hsrc:n=0\/∃ a,pa=some a/\a.block≠b/\∀ j v,news[j]?=some v->w.cell? (a.add j)=some v) (hlim:l+n<=70368744177664) :
  Calls P (ρ.f 180) #[.pointer (some ⟨b,0,none⟩),.slice pa n pc] w fun e w'=>e=.returned (.tuple #[.int .i64 n,.nilIface])/\ZvO w T R b A l n cap (olds++news) w':=by
 have mixed:=L.mixed
 have t5:=L.t5;have a5:=L.a5;have z5:=L.z5;have v5:=L.v5
 have t130:=L.t130;have a130:=L.a130;have z130:=L.z130;have v130:=L.v130
 have t37:=L.t37;have a37:=L.a37;have z37:=L.z37;have v37:=L.v37
 have t3:=L.t3;have a3:=L.a3;have z3:=L.z3;have v3:=L.v3
 have t75:=L.t75;have a75:=L.a75;have z75:=L.z75;have v75:=L.v75
 have t0:=L.t0;have a0:=L.a0;have z0:=L.z0;have v0:=L.v0
 have t93:=L.t93;have u93:=run_underlying L.t93;have a93:=L.a93;have z93:=L.z93;have v93:=L.v93
 have t91:=L.t91;have a91:=L.a91;have z91:=L.z91;have v91:=L.v91
 have t131:=L.t131;have a131:=L.a131;have z131:=L.z131;have v131:=L.v131
 have t4:=L.t4;have a4:=L.a4;have z4:=L.z4;have v4:=L.v4
 have e251:∀ args w,(callFunc (ρ.f 251) args).run P w=.ok (.enter (ρ.f 251) args) w:=enters_of L.f251 (by kernel_rfl) rfl
 have e252:∀ args w,(callFunc (ρ.f 252) args).run P w=.ok (.enter (ρ.f 252) args) w:=enters_of L.f252 (by kernel_rfl) rfl
 have c2:w.cell? ⟨b,2,none⟩=some (.int .i8 lr):=hbk.c2
 have f2:w.frozen? ⟨b,2,none⟩=false:=hbk.f 2
 have hinfo:(P.info? (ρ.t 5)).map (·.size)=some 1:=by
  obtain ⟨i0,hi,-,hz1,-⟩:=info_parts L.i5
  rw [hi];simp [hz1]
 obtain ⟨ho,hlc,hcm,h1,hrow⟩:=id hr
 have hbkA:LibA.Three (w.setCell ⟨b,2,none⟩ (.int .i8 0)) b 0 T R (.slice A l cap) (.int .i64 0) (.int .i8 0):=hbk.set2 _
 have hgA:w.grownBy (w.setCell ⟨b,2,none⟩ (.int .i8 0)) (some b):=Lib.grownBy_setCell w b 2 _
 have hszA:(w.setCell ⟨b,2,none⟩ (.int .i8 0)).heap.size=w.heap.size:=by simp [World.setCell]
 have hrA:BufRow (w.setCell ⟨b,2,none⟩ (.int .i8 0)) b A l cap olds:=⟨ho,hlc,hcm,h1,hrow.imp id fun ⟨g,cur,t,e,hgb,hg,r⟩=>⟨g,cur,t,e,hgb,(Below.heap_setCell _ _ _ _ hgb).trans hg,r⟩⟩
 by_cases hroom:n<=cap - l
 ·by_cases hs0:n=0
  ·
   subst hs0
   have hc0:news=[]:=List.eq_nil_of_length_eq_zero hnews
   subst hc0
   have hce:∀ d dLen dCap W,(Builtin.copy_ #[(ρ.t 37),(ρ.t 37)] (ρ.t 3) #[.slice d dLen dCap,.slice pa 0 pc]).run P W=.ok (goInt 0) W:=fun d dLen dCap W=>run_copy_none W (ρ.t 37) (ρ.t 37) (ρ.t 3) (ρ.t 5) d pa dLen dCap 0 pc L.t37 hinfo (by simp)
   have hT:∀ W,W.cell? ⟨b,0,none⟩=some (.slice A l cap)->W.frozen? ⟨b,0,none⟩=false->Calls P (ρ.f 251) #[.pointer (some ⟨b,0,none⟩),.int .i64 0] W (fun e w'=>e=.returned (.tuple #[.int .i64 l,.bool true])/\w'=W.setCell ⟨b,0,none⟩ (.slice A l cap)):=fun W q1 q2=>Any.Buffer_tryGrow_room_at { L with } b 0 A l cap 0 W q1 q2 hlc hcm (Nat.zero_le _)
   clear hsrc hroom hlim
   go_enter L.f180,Body.n180_ntmps ρ
   go_wp2_with (go_at_fn (ρ.f 251);refine (hT _ ?_ ?_).mono ?_)
   ·exact hbkA.c0
   ·exact hbkA.f 0
   rintro e W1 ⟨rfl,hW1⟩
   have hbk1:LibA.Three W1 b 0 T R (.slice A l cap) (.int .i64 0) (.int .i8 0):=by rw [hW1];exact hbkA.set0 _
   have hgW:w.grownBy W1 (some b):=by rw [hW1];exact Lib.grownBy_setB hgA 0 _
   clear hW1 hbkA hgA hszA hrA c2 f2 hT
   have d0:W1.cell? ⟨b,0,none⟩=some (.slice A l cap):=hbk1.c0
   have hcm':=hcm
   unfold maxLen at hcm'
   have hfin:ZvO w T R b A l 0 cap (olds++[]) W1:=⟨A,cap,hbk1,hlc,hcm,Or.inl ⟨rfl,rfl,rfl,hgW⟩⟩
   clear hrow hr
   cases A
   all_goals (go_wp2;all_goals (go_ret2;first | exact ⟨rfl,hfin⟩ | exact ⟨by simp,by simpa using hfin⟩ | (refine ⟨by simp,?_⟩;have hcl:l=cap:=(by omega);simpa [hcl] using hfin)))
  ·
   go_enter L.f180,Body.n180_ntmps ρ
   go_wp2_with (go_at_fn (ρ.f 251);refine (Any.Buffer_tryGrow_room_at { L with } b 0 A l cap n _ ?_ ?_ hlc hcm hroom).mono ?_)
   ·exact hbkA.c0
   ·exact hbkA.f 0
   rintro e W1 ⟨rfl,hW1⟩
   obtain ⟨G,cap',cur,t,hbk1,hG,hcs,htk,hlc',hcm',hGb,hGw,hgW⟩:∃ G cap' cur t,LibA.Three W1 b 0 T R (.slice (some ⟨G,0,none⟩) (l+n) cap') (.int .i64 0) (.int .i8 0)/\W1.heap[G]?=some (.cells cur t (0,0))/\cur.size=cap'/\cur.toList.take l=olds/\l+n<=cap'/\cap'<=maxLen/\G≠b/\(G=w.heap.size\/(A=some ⟨G,0,none⟩/\cap≠0))/\w.grownBy W1 (some b):=by
    obtain hc | ⟨g,cur,t,e,hgb,hg,hcs,htk⟩:=hrow
    ·omega
    ·refine ⟨g,cap,cur,t,?_,?_,hcs,htk,by omega,hcm,hgb,Or.inr ⟨e,by omega⟩,?_⟩
     ·rw [hW1,e];rw [e] at hbkA;exact hbkA.set0 _
     ·rw [hW1,Below.heap_setCell _ _ _ _ hgb,Below.heap_setCell _ _ _ _ hgb];exact hg
     ·rw [hW1];exact Lib.grownBy_setB hgA 0 _
   clear hW1 hbkA hgA hszA hrA c2 f2 hrow
   have d0:W1.cell? ⟨b,0,none⟩=some (.slice (some ⟨G,0,none⟩) (l+n) cap'):=hbk1.c0
   have hne:¬cap'=l:=by omega
   have hsrc1:n=0\/∃ a,pa=some a/\∀ j v,news[j]?=some v->W1.cell? (a.add j)=some v:=hsrc.imp id fun ⟨a,e,hab,h⟩=>⟨a,e,fun j v hj=>hgW.cell (h j v hj) (by rw [Lib.block_add];exact fun e=>hab (Option.some.inj e))⟩
   obtain ⟨W2,Y,hcp,hY,hYl,hgb,hsz⟩:=ZlO (P:=P) W1 (ρ.t 37) (ρ.t 37) (ρ.t 3) (ρ.t 5) G l n (cap' - l) pa n pc cur t news L.t37 hinfo hG hnews (Nat.le_refl _) hsrc1 (by omega) h1c
   have hYs:Y.size=cap':=by
    have h3:=congrArg List.length hYl
    simp only [List.length_append,List.length_drop,List.length_take,Array.length_toList] at h3
    omega
   have hYt:Y.toList.take (l+n)=olds++news:=by
    rw [hYl,htk,List.take_append_of_le_length (by simp;omega),List.take_of_length_le (by simp;omega)]
   have hW2:LibA.Three W2 b 0 T R (.slice (some ⟨G,0,none⟩) (l+n) cap') (.int .i64 0) (.int .i8 0):=hbk1.of_heap (hgb.block b hbk1.lt (fun e=>hGb (Option.some.inj e).symm))
   have hcm2:=hcm'
   unfold maxLen at hcm2
   have hgb0:=hgb
   have hYr:=hY
   clear hsrc hsrc1 hr hA
   go_wp2
   go_ret2
   exact ⟨rfl,_,_,hW2,hlc',hcm',Or.inr ⟨G,W1,Y,t,rfl,hGw,hGb,hgW,hgb0,hYr,hYs,hYt⟩⟩
 ·
  go_enter L.f180,Body.n180_ntmps ρ
  go_wp2_with (go_at_fn (ρ.f 251);refine (Any.Buffer_tryGrow_none_at { L with } b 0 A l cap n _ ?_ hlc hcm (by omega)).mono ?_)
  ·exact hbkA.c0
  rintro e W0 ⟨rfl,hW0⟩
  rw [<-hW0] at hbkA hgA hszA hrA
  clear hW0 c2 f2
  have hroom':cap - l < n:=by omega
  go_wp2_with (go_at_fn (ρ.f 252);refine (ZN5 { L with } T R b A l cap olds n 0 _ ?_ ?_ hA hroom' hlim).mono ?_)
  ·exact hbkA
  ·exact hrA
  rintro e W1 ⟨rfl,cap',cur,hbk1,hG,hcs,htk,hlc',hcm',hgB⟩
  obtain ⟨G,hGe⟩:∃ G,G=w.heap.size:=⟨_,rfl⟩
  rw [hszA,<-hGe] at hbk1 hG
  have hGw:G=w.heap.size\/(A=some ⟨G,0,none⟩/\cap≠0):=Or.inl hGe
  have hGb:G≠b:=by have:=hbk.lt;omega
  have hgW:w.grownBy W1 (some b):=Lib.grownBy_trans hgA hgB
  obtain ⟨t,ht⟩:∃ t,t=ρ.t 5:=⟨_,rfl⟩
  rw [<-ht] at hG
  clear hbkA hgA hszA hrA hgB hGe hrow hroom
  have d0:W1.cell? ⟨b,0,none⟩=some (.slice (some ⟨G,0,none⟩) (l+n) cap'):=hbk1.c0
  have hne:¬cap'=l:=by omega
  have hsrc1:n=0\/∃ a,pa=some a/\∀ j v,news[j]?=some v->W1.cell? (a.add j)=some v:=hsrc.imp id fun ⟨a,e,hab,h⟩=>⟨a,e,fun j v hj=>hgW.cell (h j v hj) (by rw [Lib.block_add];exact fun e=>hab (Option.some.inj e))⟩
  obtain ⟨W2,Y,hcp,hY,hYl,hgb,hsz⟩:=ZlO (P:=P) W1 (ρ.t 37) (ρ.t 37) (ρ.t 3) (ρ.t 5) G l n (cap' - l) pa n pc cur t news L.t37 hinfo hG hnews (Nat.le_refl _) hsrc1 (by omega) h1c
  have hYs:Y.size=cap':=by
   have h3:=congrArg List.length hYl
   simp only [List.length_append,List.length_drop,List.length_take,Array.length_toList] at h3
   omega
  have hYt:Y.toList.take (l+n)=olds++news:=by
   rw [hYl,htk,List.take_append_of_le_length (by simp;omega),List.take_of_length_le (by simp;omega)]
  have hW2:LibA.Three W2 b 0 T R (.slice (some ⟨G,0,none⟩) (l+n) cap') (.int .i64 0) (.int .i8 0):=hbk1.of_heap (hgb.block b hbk1.lt (fun e=>hGb (Option.some.inj e).symm))
  have hcm2:=hcm'
  unfold maxLen at hcm2
  have hgb0:=hgb
  have hYr:=hY
  clear hsrc hsrc1 hr hA
  go_wp2
  go_ret2
  exact ⟨rfl,_,_,hW2,hlc',hcm',Or.inr ⟨G,W1,Y,t,rfl,hGw,hGb,hgW,hgb0,hYr,hYs,hYt⟩⟩
end
end
end Go.Proofs.YtmlkhhidifjjfaaDoor
