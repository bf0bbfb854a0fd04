/- The card of PacketMore: for every input the law returns true, and each argument reads afterwards as it read before. No other condition; the tables of unicode/utf8 are tied to the program. -/
import Derived.Test.YtmlkhhidifjjfaaDoorMm4
import Derived.Test.YtmlkhhidifjjfaaDoorMm3
import Derived.Test.YtmlkhhidifjjfaaDoorMm2
import Derived.Shelf.LaysM
import Derived.Shelf.Bytes.TryGrowAt
import Derived.Shelf.Bytes.GrowSliceCatch
import Derived.Lib.ByteType
import Derived.Lib.BufferAt
import Derived.Lib.BufferOwn
import Derived.Lib.AppendZeros
import Derived.Lib.Walk
import Derived.Lib.Hide
import Derived.Laws.CopyRow
import Derived.Laws.IdiomCopy
import Derived.Laws.MakeOwn
import Derived.WalkKit
import Derived.OwnWalk
import Derived.Defers
import Derived.Recover
import Derived.RegionTactic
import Derived.Shelf.RegionOpenPlain
import Derived.Deep.RegionWith
import Derived.Deep.Draws
import Derived.BigCall
import Derived.BigGuard
import Derived.Lib.BufferSrc
import Derived.Test.YtmlkhhidifjjfaaDoorMm1
import Derived.Test.YtmlkhhidifjjfaaDoorProg
import Derived.Lib.LaidU8T
import Derived.Test.YtmlkhhidifjjfaaDoorRows
import Derived.Deep.Slices
import Derived.Test.YtmlkhhidifjjfaaDoorCards
import Derived.Test.YtmlkhhidifjjfaaDoorTie
import Derived.ProofKit
import Derived.OpenShut
import Derived.ShutString
import Derived.ChangeOld
import Derived.Below
import Derived.SevenTiedAt
import Derived.LaidByTextLater
import Derived.Lib.LaidIn
import Derived.Deep.DeepHandedRow
import Derived.MakeChecks
import Derived.SizedLaws
set_option linter.defProp false
set_option linter.unusedSectionVars false
set_option linter.unusedSimpArgs false
set_option linter.unusedVariables false
namespace Go.Proofs.YtmlkhhidifjjfaaDoor
set_option maxHeartbeats 8000000
set_option maxRecDepth 10000
def ZoM (q:Zn) (m:Int):Zn:={ q with clean:=Zw m 2 != 0,hasWill:=Zw m 4 != 0,hasPassword:=Zw m 64 != 0,hasUser:=Zw m 128 != 0,will:={ q.will with qos:=Zw (ZdT m) 3,retain:=Zw m 32 != 0 } }
def headD (q:Zn) (k:Int) (ps:List Zu) (cl:Zb):Zn:={ q with keep:=k,props:=ps,client:=cl }
def Zdx (b:Bool) (q:Zn) (l:Zb):Except Int (Zn×Zb):=if b=true then (match Zcc l with
 | .error c=>.error c
 | .ok (d,r)=>.ok ({ q with password:=d },r)) else .ok (q,l)
def Zde (b:Bool) (q:Zn) (l:Zb):Except Int (Zn×Zb):=if b=true then (match Zak l with
 | .error c=>.error c
 | .ok (d,r)=>.ok ({ q with user:=d },r)) else .ok (q,l)
def Zdk (b:Bool) (q:Zn) (l:Zb):Except Int (Zn×Zb):=if b=true then (match ZcM l with
 | .error c=>.error c
 | .ok (ps,tp,d,r)=>.ok ({ q with will:={ q.will with props:=ps,topic:=tp,data:=d } },r)) else .ok (q,l)
def ZfC (m:Int) (q:Zn) (l:Zb):Except Int (Zn×Zb):=match Zdk (Zw m 4 != 0) q l with
 | .error c=>.error c
 | .ok (q,l)=>match Zde (Zw m 128 != 0) q l with
  | .error c=>.error c
  | .ok (q,l)=>Zdx (Zw m 64 != 0) q l
def Zfh (q:Zn) (m:Int) (l:Zb):Except Int (Zn×Zb):=match Zav 2 l with
 | .error c=>.error c
 | .ok (k,r4)=>match Zbs 1 r4 with
  | .error c=>.error c
  | .ok (ps,r5)=>match Zak r5 with
   | .error c=>.error c
   | .ok (cl,r6)=>ZfC m (headD (ZoM q m) k ps cl) r6
def ZcT (q:Zn) (l:Zb):Except Int (Zn×Zb):=match Zak l with
 | .error c=>.error c
 | .ok (s,r1)=>if (s == [77,81,84,84])=true then (match Zav 1 r1 with
  | .error c=>.error c
  | .ok (v,r2)=>if (v == 5)=true then (match Zav 1 r2 with
   | .error c=>.error c
   | .ok (m,r3)=>if Zg6 m (Zw (ZdT m) 3) (Zw m 4 != 0) (Zw m 32 != 0)=true then Zfh q m r3 else .error 129)
   else .error 132)
  else .error 132
structure Is (P:List AVal) (q:Zn):Prop where
 view:∀ σ,ZaK σ P=some (Zt q,[])
 ok:P.all ZS=true
theorem Zos {σ:Za} {v y:AVal} {ts:List Nat} (hv:ZK σ v=some (y,ts)):∀ {P ys:List AVal} {k:Nat},ZaK σ P=some (ys,[])→k < P.length→ZaK σ (P.set k v)=some (ys.set k y,ts)
 | [],_,_,_,h=>by simp at h
 | x::P,ys,k,h,hk=>by
  rw [ZaK] at h
  split at h
  ·rename_i y0 t0 h0
   split at h
   ·rename_i ys0 us0 h1
    injection h with h;injection h with h2 h3
    obtain ⟨rfl,rfl⟩:=List.append_eq_nil_iff.1 h3
    subst h2
    cases k with
    | zero =>
     rw [List.set_cons_zero,ZaK,hv]
     simp only [h1,List.append_nil]
     rfl
    | succ k =>
     rw [List.set_cons_succ,ZaK,h0]
     simp only [Zos hv h1 (by simpa using hk)]
     rfl
   ·cases h
  ·cases h
theorem ZpW {v:AVal} (hv:ZS v=true):∀ {P:List AVal} {k:Nat},P.all ZS=true→(P.set k v).all ZS=true
 | [],_,_=>rfl
 | x::P,0,h=>by
  simp only [List.set_cons_zero,List.all_cons,Bool.and_eq_true] at h ⊢
  exact ⟨hv,h.2⟩
 | x::P,k+1,h=>by
  simp only [List.set_cons_succ,List.all_cons,Bool.and_eq_true] at h ⊢
  exact ⟨h.1,ZpW hv h.2⟩
theorem Is.set {P:List AVal} {q q':Zn} (h:Is P q) {k:Nat} {v y:AVal} (hk:k < P.length) (hv:∀ σ,ZK σ v=some (y,[])) (ho:ZS v=true) (hc:(Zt q).set k y=Zt q'):Is (P.set k v) q' :=
 ⟨fun σ=>by rw [Zos (hv σ) (h.view σ) hk,hc],ZpW ho h.ok⟩
section
variable {P:List AVal} {q:Zn} (hP:P.length=26) (h:Is P q)
include hP h
theorem ZAt (m:Int):Is (ZbC P m) (ZoM q m):=by
 unfold ZbC
 have h1:=h.set (k:=12) (q':={ q with clean:=Zw m 2 != 0 }) (v:=.bool (Zw m 2 != 0)) (by omega) (fun _=>rfl) rfl rfl
 have h2:=h1.set (k:=15) (q':={ q with clean:=Zw m 2 != 0,hasWill:=Zw m 4 != 0 }) (v:=.bool (Zw m 4 != 0)) (by simp [hP]) (fun _=>rfl) rfl rfl
 have h3:=h2.set (k:=23) (q':={ q with clean:=Zw m 2 != 0,hasWill:=Zw m 4 != 0,hasPassword:=Zw m 64 != 0 }) (v:=.bool (Zw m 64 != 0)) (by simp [hP]) (fun _=>rfl) rfl rfl
 have h4:=h3.set (k:=21) (q':={ q with clean:=Zw m 2 != 0,hasWill:=Zw m 4 != 0,hasPassword:=Zw m 64 != 0,hasUser:=Zw m 128 != 0 }) (v:=.bool (Zw m 128 != 0)) (by simp [hP]) (fun _=>rfl) rfl rfl
 have h5:=h4.set (k:=18) (q':={ q with clean:=Zw m 2 != 0,hasWill:=Zw m 4 != 0,hasPassword:=Zw m 64 != 0,hasUser:=Zw m 128 != 0,will:={ q.will with qos:=Zw (ZdT m) 3 } }) (v:=.int .i64 (Zw (ZdT m) 3)) (by simp [hP]) (fun _=>rfl) rfl rfl
 exact h5.set (k:=19) (v:=.bool (Zw m 32 != 0)) (by simp [hP]) (fun _=>rfl) rfl rfl
theorem ZND (k:Int) (ps:List Zu) (cl:Zb):Is (Zh5 P k ps cl) (headD q k ps cl):=by
 unfold Zh5
 have h1:=h.set (k:=13) (q':={ q with keep:=k }) (v:=.int .i64 k) (by omega) (fun _=>rfl) rfl rfl
 have h2:=h1.set (k:=9) (q':={ q with keep:=k,props:=ps }) (v:=.lst false (ps.map Zl)) (by simp [hP]) (fun _=>rfl) rfl rfl
 exact h2.set (k:=14) (v:=.str cl) (by simp [hP]) (fun _=>rfl) rfl rfl
theorem ZyW (ps:List Zu) (tp d:Zb):Is (ZgW P ps tp d) { q with will:={ q.will with props:=ps,topic:=tp,data:=d } }:=by
 unfold ZgW
 have h1:=h.set (k:=20) (q':={ q with will:={ q.will with props:=ps } }) (v:=.lst false (ps.map Zl)) (by omega) (fun _=>rfl) rfl rfl
 have h2:=h1.set (k:=16) (q':={ q with will:={ q.will with props:=ps,topic:=tp } }) (v:=.str tp) (by simp [hP]) (fun _=>rfl) rfl rfl
 exact h2.set (k:=17) (v:=.lst false (d.map Zc)) (by simp [hP]) (fun _=>rfl) rfl rfl
end
def ZgS (x:Except Int KSt) (y:Except Int (Zn×Zb)):Prop:=match x with
 | .error e=>y=.error e
 | .ok (P,l)=>∃ q,y=.ok (q,l)∧P.length=26∧Is P q
section
variable {P:List AVal} {q:Zn} (hP:P.length=26) (h:Is P q) (l:Zb)
include hP h
theorem Zxi (b:Bool):ZgS (Zhe b (P,l)) (Zdx b q l):=by
 unfold Zhe Zdx
 cases b
 ·exact ⟨q,rfl,hP,h⟩
 ·rw [if_pos rfl,if_pos rfl]
  cases hd:Zcc l with
  | error c=>exact rfl
  | ok a=>exact ⟨_,rfl,by simp [hP],h.set (by omega) (fun _=>rfl) rfl rfl⟩
theorem ZGI (b:Bool):ZgS (Zhg b (P,l)) (Zde b q l):=by
 unfold Zhg Zde
 cases b
 ·exact ⟨q,rfl,hP,h⟩
 ·rw [if_pos rfl,if_pos rfl]
  cases hd:Zak l with
  | error c=>exact rfl
  | ok a=>exact ⟨_,rfl,by simp [hP],h.set (by omega) (fun _=>rfl) rfl rfl⟩
theorem ZC9 (b:Bool):ZgS (Zi3 b (P,l)) (Zdk b q l):=by
 unfold Zi3 Zdk
 cases b
 ·exact ⟨q,rfl,hP,h⟩
 ·rw [if_pos rfl,if_pos rfl]
  cases hd:ZcM l with
  | error c=>exact rfl
  | ok a =>
   obtain ⟨ps,tp,d,r⟩:=a
   exact ⟨_,rfl,by simp [ZgW,hP],ZyW hP h ps tp d⟩
theorem ZEo (m:Int):ZgS (ZiA m (P,l)) (ZfC m q l):=by
 unfold ZiA ZfC
 have h1:=ZC9 hP h l (Zw m 4 != 0)
 cases hw:Zi3 (Zw m 4 != 0) (P,l) with
 | error e =>
  rw [hw] at h1
  rw [show Zdk (Zw m 4 != 0) q l=.error e from h1]
  exact rfl
 | ok s =>
  obtain ⟨P1,l1⟩:=s
  rw [hw] at h1
  obtain ⟨q1,e1,hP1,i1⟩:=h1
  rw [e1]
  simp only
  have h2:=ZGI hP1 i1 l1 (Zw m 128 != 0)
  cases hu:Zhg (Zw m 128 != 0) (P1,l1) with
  | error e =>
   rw [hu] at h2
   rw [show Zde (Zw m 128 != 0) q1 l1=.error e from h2]
   exact rfl
  | ok s =>
   obtain ⟨P2,l2⟩:=s
   rw [hu] at h2
   obtain ⟨q2,e2,hP2,i2⟩:=h2
   rw [e2]
   exact Zxi hP2 i2 l2 _
theorem ZCB (m:Int):ZgS (Zi6 P m l) (Zfh q m l):=by
 unfold Zi6 Zfh
 cases h1:Zav 2 l with
 | error c=>exact rfl
 | ok a =>
 obtain ⟨k,r4⟩:=a
 simp only
 cases h2:Zbs 1 r4 with
 | error c=>exact rfl
 | ok a =>
 obtain ⟨ps,r5⟩:=a
 simp only
 cases h3:Zak r5 with
 | error c=>exact rfl
 | ok a =>
 obtain ⟨cl,r6⟩:=a
 exact ZEo (by simp [Zh5,ZbC,hP]) (ZND (by simp [ZbC,hP]) (ZAt hP h m) k ps cl) r6 m
theorem ZHT:ZgS (ZiP P l) (ZcT q l):=by
 unfold ZiP ZcT
 cases h1:Zak l with
 | error c=>exact rfl
 | ok a =>
 obtain ⟨s,r1⟩:=a
 simp only
 split
 case isFalse=>exact rfl
 cases h2:Zav 1 r1 with
 | error c=>exact rfl
 | ok a =>
 obtain ⟨v,r2⟩:=a
 simp only
 split
 case isFalse=>exact rfl
 cases h3:Zav 1 r2 with
 | error c=>exact rfl
 | ok a =>
 obtain ⟨m,r3⟩:=a
 simp only
 split
 case isFalse=>exact rfl
 exact ZCB hP h r3 m
end
def ZbN (x:Except Int (Zn×Zb)):Except Int Zn:=match x with
 | .error e=>.error e
 | .ok (q,r)=>if r.length=0 then .ok q else .error 129
def ZdP (q:Zn) (l:Zb):Except Int (Zn×Zb):=match Zck q.type l with
 | .error e=>.error e
 | .ok ((c,ps),r)=>.ok ({ q with code:=c,props:=ps.getD [] },r)
def idQ (q:Zn) (l:Zb):Except Int (Zn×Zb):=match idK l with
 | .error e=>.error e
 | .ok (n,r)=>ZdP { q with id:=n } r
def ZdF (q:Zn) (l:Zb):Except Int (Zn×Zb):=match Zav 1 l with
 | .error e=>.error e
 | .ok (f,r)=>if f < 2 then (match Zau 2 r with
  | .error e=>.error e
  | .ok (c,r2)=>match Zbs 2 r2 with
   | .error e=>.error e
   | .ok (ps,r3)=>.ok ({ q with present:=f == 1,code:=c,props:=ps },r3)) else .error 129
def ZgY (q:Zn) (l:Zb):Except Int Zn:=match Zbw Zbo 8 l with
 | .error e=>.error e
 | .ok (n,ps,ts)=>.ok { q with id:=n,props:=ps,subs:=ts }
def ZhC (q:Zn) (l:Zb):Except Int Zn:=match Zbw Zak 10 l with
 | .error e=>.error e
 | .ok (n,ps,ts)=>.ok { q with id:=n,props:=ps,filters:=ts }
def Zfy (q:Zn) (l:Zb):Except Int Zn:=match Zbw (Zau q.type) q.type l with
 | .error e=>.error e
 | .ok (n,ps,ts)=>.ok { q with id:=n,props:=ps,codes:=ts }
def Zcs (t:Int) (l:Zb):Except Int Zn :=
 if t=1 then ZbN (ZcT { Zai with type:=1 } l)
 else if t=2 then ZbN (ZdF { Zai with type:=2 } l)
 else if t=4∨t=5∨t=6∨t=7 then ZbN (idQ { Zai with type:=t } l)
 else if t=8 then ZgY { Zai with type:=8 } l
 else if t=10 then ZhC { Zai with type:=10 } l
 else if t=9∨t=11 then Zfy { Zai with type:=t } l
 else if t=14∨t=15 then ZbN (ZdP { Zai with type:=t } l)
 else ZbN (.ok ({ Zai with type:=t },l))
def ZaM (b:Int) (l:Zb):Zn×Int :=
 if tyI b=0 then (Zai,129) else if tyI b=3 then ZeM b l
 else if Zbm b 15=Zdn (tyI b) then (match Zcs (tyI b) l with
  | .error e=>(Zai,e)
  | .ok q=>(q,0)) else (Zai,129)
def ZdM (t : Int) (l : Zb) (x : Except Int Zn) : Prop := match x with
  | .ok q => (∃ Q L, Q.length = 26 ∧ Zd Q = true ∧ ZI L = true ∧ Is Q q ∧ E 77 [.ref 0 0] (Zg (P0.set 0 (.int .i64 t)) l) = some (.tup [], [.var (Q ++ [L])])) ∨
      (∃ Q q0 kk w ys, Q.length = 26 ∧ Zd Q = true ∧ kk < 26 ∧ Is Q q0 ∧ (Zt q0).set kk (.lst false ys) = Zt q ∧ E 77 [.ref 0 0] (Zg (P0.set 0 (.int .i64 t)) l) = some (.tup [], Zch Q kk ys.length [] w ys))
  | .error e => (∃ cs, Zd cs = true ∧ E 77 [.ref 0 0] (Zg (P0.set 0 (.int .i64 t)) l) = some (.pan (Zy e), [.var cs])) ∨
      (∃ Q kk n r w ys, Q.length = 26 ∧ Zd Q = true ∧ kk < 26 ∧ E 77 [.ref 0 0] (Zg (P0.set 0 (.int .i64 t)) l) = some (.pan (Zy e), Zch Q kk n r w ys))
theorem Zi0 {t:Int} {l:Zb} {q:Zn} {Q:List AVal} {r:Zb} (hQ:Q.length=26) (hN:Zd Q=true) (hi:Is Q q) (h:E 77 [.ref 0 0] (Zg (P0.set 0 (.int .i64 t)) l)=some (if r.length=0 then .tup [] else .pan (Zy 129),Zg Q r)):ZdM t l (ZbN (.ok (q,r))):=by
 unfold ZbN
 simp only
 split at h
 ·rename_i h0
  rw [if_pos h0]
  exact Or.inl ⟨Q,_,hQ,hN,rfl,hi,h⟩
 ·rename_i h0
  rw [if_neg h0]
  exact Or.inl ⟨_,Zx Q hQ hN _ _,h⟩
theorem ZjS {t:Int} {l:Zb} {kk w:Nat} {e:Int} (hk:kk < 26) (h:Zh0 kk w l (P0.set 0 (.int .i64 t)) e):ZdM t l (.error e):=by
 rcases h with ⟨cs,h1,h2⟩ | ⟨Q,n,r,ys,h1,h2,h3⟩
 ·exact Or.inl ⟨cs,h1,h2⟩
 ·exact Or.inr ⟨Q,kk,n,r,w,ys,h1,h2,hk,h3⟩
section
variable (l:Zb) (hl:l.length≤1099511627775)
include hl
theorem hlP:l.length≤140737488355328:=by omega
theorem ZMm:ZdM 1 l (ZbN (ZcT { Zai with type:=1 } l)):=by
 have hs:=ZHT (P:=P0.set 0 (.int .i64 1)) (q:={ Zai with type:=1 }) rfl ⟨fun σ=>rfl,rfl⟩ l
 have hr:=ZMQ (P0.set 0 (.int .i64 1)) rfl (by rfl) l (hlP l hl) (fun r _=>Zc6 1 r) (fun r _=>Zc6 16 r)
 cases hc:ZiP (P0.set 0 (.int .i64 1)) l with
 | error e =>
  rw [hc] at hs hr
  rw [show ZcT { Zai with type:=1 } l=.error e from hs]
  obtain ⟨cs,hn,he⟩:=KRuns.fnF (f:=114) (fn:=ZoZ) (by rfl) Zq5 hr
  exact Or.inl ⟨cs,hn,ZMt (P0.set 0 (.int .i64 1)) rfl (by rfl) rfl l (hlP l hl) hn he⟩
 | ok s =>
  obtain ⟨Q,r⟩:=s
  rw [hc] at hs hr
  obtain ⟨q,e1,hQ,hi⟩:=hs
  rw [e1]
  have hQN:Zd Q=true:=by obtain ⟨_,_,_,h3,_⟩:=hr;exact h3
  have he:=KRuns.fnT (f:=114) (fn:=ZoZ) (by rfl) Zq5 rfl hr
  refine Zi0 hQ hQN hi ?_
  by_cases h0:r.length=0
  ·rw [if_pos h0];exact ZEw (P0.set 0 (.int .i64 1)) rfl (by rfl) rfl l (hlP l hl) he hQ hQN h0
  ·rw [if_neg h0];exact ZMe (P0.set 0 (.int .i64 1)) rfl (by rfl) rfl l (hlP l hl) he hQ hQN h0
theorem ZBW:ZdM 2 l (ZbN (ZdF { Zai with type:=2 } l)):=by
 have hP:(P0.set 0 (.int .i64 2)).length=26:=rfl
 have hN:Zd (P0.set 0 (.int .i64 2))=true:=by rfl
 unfold ZdF
 cases h1:Zav 1 l with
 | error e=>exact Or.inl (ZGr _ hP hN rfl l (hlP l hl) h1)
 | ok a =>
 obtain ⟨f,r⟩:=a
 simp only
 split
 case isFalse hf=>exact Or.inl (ZMR _ hP hN rfl l (hlP l hl) h1 hf)
 rename_i hf
 cases h2:Zau 2 r with
 | error e=>exact Or.inl (ZF3 _ hP hN rfl l (hlP l hl) h1 hf h2)
 | ok a =>
 obtain ⟨c,r2⟩:=a
 simp only
 cases h3:Zbs 2 r2 with
 | error e=>exact Or.inl (Zv3 _ hP hN rfl l (hlP l hl) h1 hf h2 h3)
 | ok a =>
 obtain ⟨ps,r3⟩:=a
 exact Zi0 (by simp [hP]) (ZO (Zb1 _ _) _ (ZO rfl _ (ZO rfl _ hN))) ⟨fun σ=>rfl,rfl⟩ (Zz7 _ hP hN rfl l (hlP l hl) h1 hf h2 h3 (Zc6 2 r2))
theorem Zq1 {P:List AVal} {q:Zn} (hP:P.length=26) (h:Is P q) (c:Int) (ps:Option (List Zu)):Is (Zdq P c ps) { q with code:=c,props:=ps.getD [] }:=by
 unfold Zdq
 have h1:=h.set (k:=7) (q':={ q with code:=c }) (v:=.int .i64 c) (by omega) (fun _=>rfl) rfl rfl
 cases ps with
 | none=>exact h1.set (k:=9) (v:=.lst true []) (by simp [hP]) (fun _=>rfl) rfl rfl
 | some ps=>exact h1.set (k:=9) (v:=.lst false (ps.map Zl)) (by simp [hP]) (fun _=>rfl) rfl rfl
theorem Zs7 (k:Int) (hk:k=14∨k=15):ZdM k l (ZbN (ZdP { Zai with type:=k } l)):=by
 have hP:(P0.set 0 (.int .i64 k)).length=26:=rfl
 have hN:Zd (P0.set 0 (.int .i64 k))=true:=by rfl
 unfold ZdP
 simp only
 cases h1:Zck k l with
 | error e=>exact Or.inl (ZxE _ hP hN k hk rfl (fun r _=>Zc6 k r) l (hlP l hl) h1)
 | ok a =>
 obtain ⟨⟨c,ps⟩,r⟩:=a
 obtain ⟨i1,i2⟩:=Zk1 hP hN c ps
 exact Zi0 i1 i2 (Zq1 l hl (q:={ Zai with type:=k }) hP ⟨fun σ=>rfl,rfl⟩ c ps) (ZIZ _ hP hN k hk rfl rfl rfl (fun r _=>Zc6 k r) l (hlP l hl) h1)
theorem Zlg (k:Int) (hk:k=4∨k=5∨k=6∨k=7):ZdM k l (ZbN (idQ { Zai with type:=k } l)):=by
 have hP:(P0.set 0 (.int .i64 k)).length=26:=rfl
 have hN:Zd (P0.set 0 (.int .i64 k))=true:=by rfl
 unfold idQ ZdP
 simp only
 cases h0:idK l with
 | error e=>exact Or.inl (ZML _ hP hN k hk rfl l (hlP l hl) h0)
 | ok a =>
 obtain ⟨n,r1⟩:=a
 simp only
 cases h1:Zck k r1 with
 | error e=>exact Or.inl (ZwO _ hP hN k hk rfl (fun r _=>Zc6 k r) l (hlP l hl) h0 h1)
 | ok a =>
 obtain ⟨⟨c,ps⟩,r⟩:=a
 obtain ⟨i1,i2⟩:=Zk1 (P:=(P0.set 0 (.int .i64 k)).set 4 (.int .i64 n)) rfl (by rfl) c ps
 exact Zi0 i1 i2 (Zq1 l hl (q:={ Zai with type:=k,id:=n }) rfl ⟨fun σ=>rfl,rfl⟩ c ps) (ZuS _ hP hN k hk rfl rfl rfl (fun r _=>Zc6 k r) l (hlP l hl) h0 h1)
theorem ZtB (k:Int) (hk:k=12∨k=13):ZdM k l (ZbN (.ok ({ Zai with type:=k },l))) :=
 Zi0 (Q:=P0.set 0 (.int .i64 k)) rfl (by rfl) ⟨fun σ=>rfl,rfl⟩ (ZIE _ rfl (by rfl) k hk rfl l)
theorem ZdE (k:Int):QOk k (P0.set 0 (.int .i64 k)):=⟨rfl,by rfl,rfl,rfl,rfl,rfl⟩
theorem Zj4 (k:Int) (n:Int) (ps:List Zu):Is (ZbW (P0.set 0 (.int .i64 k)) n ps) { Zai with type:=k,id:=n,props:=ps }:=⟨fun σ=>rfl,rfl⟩
theorem ZNb:ZdM 8 l (ZgY { Zai with type:=8 } l):=by
 unfold ZgY
 cases h:Zbw Zbo 8 l with
 | error e=>exact ZjS (by omega) (ZC5 _ l hl (ZdE l hl 8) h)
 | ok a =>
 obtain ⟨n,ps,ts⟩:=a
 have hQ:=ZdG (ZdE l hl 8) n ps
 have:=ZHa _ l hl (ZdE l hl 8) h
 rw [←List.length_map (f:=ZU)] at this
 exact Or.inr ⟨_,_,10,6,ts.map ZU,hQ.len,hQ.nor,by omega,Zj4 l hl 8 n ps,rfl,this⟩
theorem Zw5:ZdM 10 l (ZhC { Zai with type:=10 } l):=by
 unfold ZhC
 cases h:Zbw Zak 10 l with
 | error e=>exact ZjS (by omega) (ZDF _ l hl (ZdE l hl 10) h)
 | ok a =>
 obtain ⟨n,ps,ts⟩:=a
 have hQ:=ZdG (ZdE l hl 10) n ps
 have:=ZKM _ l hl (ZdE l hl 10) h
 rw [←List.length_map (f:=AVal.str)] at this
 exact Or.inr ⟨_,_,11,1,ts.map AVal.str,hQ.len,hQ.nor,by omega,Zj4 l hl 10 n ps,rfl,this⟩
theorem ZLZ:ZdM 9 l (Zfy { Zai with type:=9 } l):=by
 unfold Zfy
 simp only
 cases h:Zbw (Zau 9) 9 l with
 | error e=>exact ZjS (by omega) (ZHI _ l hl (ZdE l hl 9) h)
 | ok a =>
 obtain ⟨n,ps,ts⟩:=a
 have hQ:=ZdG (ZdE l hl 9) n ps
 have:=ZwW _ l hl (ZdE l hl 9) h
 rw [←List.length_map (f:=AVal.int .i64)] at this
 exact Or.inr ⟨_,_,8,1,ts.map (AVal.int .i64),hQ.len,hQ.nor,by omega,Zj4 l hl 9 n ps,rfl,this⟩
theorem ZCs:ZdM 11 l (Zfy { Zai with type:=11 } l):=by
 unfold Zfy
 simp only
 cases h:Zbw (Zau 11) 11 l with
 | error e=>exact ZjS (by omega) (ZCb _ l hl (ZdE l hl 11) h)
 | ok a =>
 obtain ⟨n,ps,ts⟩:=a
 have hQ:=ZdG (ZdE l hl 11) n ps
 have:=ZDI _ l hl (ZdE l hl 11) h
 rw [←List.length_map (f:=AVal.int .i64)] at this
 exact Or.inr ⟨_,_,8,1,ts.map (AVal.int .i64),hQ.len,hQ.nor,by omega,Zj4 l hl 11 n ps,rfl,this⟩
theorem Zx9 (t:Int) (h1:1≤t∧t≤15) (h3:t≠3):ZdM t l (Zcs t l):=by
 have : t=1∨t=2∨t=4∨t=5∨t=6∨t=7∨t=8∨t=9∨t=10∨t=11∨t=12∨t=13∨t=14∨t=15:=by omega
 unfold Zcs
 rcases this with rfl | rfl | rfl | rfl | rfl | rfl | rfl | rfl | rfl | rfl | rfl | rfl | rfl | rfl
 ·exact ZMm l hl
 ·exact ZBW l hl
 ·exact Zlg l hl 4 (by decide)
 ·exact Zlg l hl 5 (by decide)
 ·exact Zlg l hl 6 (by decide)
 ·exact Zlg l hl 7 (by decide)
 ·exact ZNb l hl
 ·exact ZLZ l hl
 ·exact Zw5 l hl
 ·exact ZCs l hl
 ·exact ZtB l hl 12 (by decide)
 ·exact ZtB l hl 13 (by decide)
 ·exact Zs7 l hl 14 (by decide)
 ·exact Zs7 l hl 15 (by decide)
end
theorem ZNe (b:Int) (hb:0≤b∧b < 256):0≤tyI b∧tyI b≤15:=by
 have h:∀ n:Nat,n < 256→0≤tyI (n:Int)∧tyI (n:Int)≤15:=by decide +kernel
 have:=h b.toNat (by omega)
 rwa [Int.toNat_of_nonneg hb.1] at this
theorem Zns {b c:Int} {l:Zb} {Q:List AVal} {q:Zn} (h:E1 32 [.agg [.int .u8 b,.lst false (l.map Zc)]] []=some (.tup [.agg Q,.int .i64 c],[])) (hv:∀ σ,ZaK σ Q=some (Zt q,[])):Zah true 0 (E1 32 [.agg [.int .u8 b,.lst false (l.map Zc)]] [])=some (.tup [ZW q,.int .i64 c],[]):=by
 rw [h];exact Zrn c hv
theorem Zsb (b:Int) (hb:0≤b∧b < 256) (l:Zb) (hl:l.length≤1099511627775):Zah true 0 (E1 32 [.agg [.int .u8 b,.lst false (l.map Zc)]] [])=some (.tup [ZW (ZaM b l).1,.int .i64 (ZaM b l).2],[]):=by
 have hr:=ZNe b hb
 have hF:∀ c,Zec [.agg [.int .u8 b,.lst false (l.map Zc)]] []=some (.tup [.agg P0,.int .i64 c],[])→Zah true 0 (E1 32 [.agg [.int .u8 b,.lst false (l.map Zc)]] [])=some (.tup [ZW Zai,.int .i64 c],[]):=fun c h =>
  Zns (by rw [ZfO];exact h) ZjN
 unfold ZaM
 by_cases h0:tyI b=0
 ·rw [if_pos h0]
  exact hF 129 (Zgo b 129 l (Zlh b l (Zx _ rfl (by rfl) _ _) (ZFn P0 rfl (by rfl) b l h0)))
 rw [if_neg h0]
 by_cases h3:tyI b=3
 ·rw [if_pos h3]
  obtain ⟨Q,h,hv⟩:=ZuM b h3 l (by omega)
  exact Zns h hv
 rw [if_neg h3]
 by_cases hf:Zbm b 15=Zdn (tyI b)
 case neg =>
  rw [if_neg hf]
  exact hF 129 (Zgo b 129 l (Zlh b l (Zx _ rfl (by rfl) _ _) (ZFo P0 rfl (by rfl) b (tyI b) l rfl h0 h3 hf)))
 rw [if_pos hf]
 have hfi:=ZuX P0 rfl (by rfl) b (tyI b) l rfl h0 h3 hf
 have hB:=Zx9 l hl (tyI b) (by omega) h3
 generalize tyI b=t at *
 have p1:(P0.set 0 (.int .i64 t)).length=26:=rfl
 have p2:Zd (P0.set 0 (.int .i64 t))=true:=by rfl
 cases hx:Zcs t l with
 | error e =>
  rw [hx] at hB
  rcases hB with ⟨cs,hn,hb⟩ | ⟨Q,kk,n,r,w,ys,hQ,hN,hk,hb⟩
  ·exact hF e (Zgo b e l (ZvD b l p1 p2 hn hfi hb))
  ·exact hF e (Zgo b e l (ZIn b l p1 p2 hQ hN hk hfi hb))
 | ok q =>
  rw [hx] at hB
  rcases hB with ⟨Q,L,hQ,hN,nL,hi,hb⟩ | ⟨Q,q0,kk,w,ys,hQ,hN,hk,hi,hc,hb⟩
  ·exact Zns (by rw [ZfO];exact ZpR b l p1 p2 hQ hN hi.ok nL hfi hb) hi.view
  ·refine ZA2 (by rw [ZfO];exact Zxy b l p1 p2 hQ hN hk (fun r g m=>ZpW rfl hi.ok) hfi hb) (fun σ hs=>?_)
   have hv:ZK σ (.sl 0 0 0 ys.length)=some (.lst false ys,[0]):=by
    simp [ZK,ZV,hs]
   unfold Zi
   rw [Zos hv (hi.view σ) (by omega),hc]
theorem Zt1 (b:Int) (hb:0≤b∧b < 256) (l:Zb) (hl:l.length≤1099511627775) (f:Bool) (σ:Za) (site own:Nat) :
  Zj E1 BY σ site 32 own true [.agg [.int .u8 b,.lst f (l.map Zc)]]=some (.tup [ZW (ZaM b l).1,.int .i64 (ZaM b l).2],σ,{}):=by
 rw [Zgf (by kernel_rfl) rfl]
 show ZaA σ σ [] [] site own (Zah true 0 (E1 32 [.agg [.int .u8 b,.lst false (l.map Zc)]] []))=_
 rw [Zsb b hb l hl,Zi8 _ _ _ _ (by simp only [Zk,Zf,Zbk,ZiF])]
theorem ZKV (b:Int) (hb:0≤b∧b < 256) (l:Zb) (hl0:l≠[]) (hl:l.length≤1099511627775) (σ:Za) (site own t g n:Nat) (hn:n=l.length) (hs:σ[t]?=some (.row g 1 (l.map Zc))) :
  Zj E1 BY σ site 32 own true [.agg [.int .u8 b,.sl t g 0 n]]=some (.tup [ZW (ZaM b l).1,.int .i64 (ZaM b l).2],Zo σ [t],{ rd:=[t],wr:=[t] }):=by
 subst hn
 have h1:0+l.length≤(l.map Zc).length:=by simp
 have h2:(l.map Zc).take l.length=l.map Zc:=List.take_of_length_le (by simp)
 have hsh:showAs σ [.agg [.int .u8 b,.sl t g 0 l.length]]=some ([.agg [.int .u8 b,.lst false (l.map Zc)]],[t]):=by
  simp only [showAs,showA,Zcl,ZcA,ZV,hs,h1,and_self,if_true,List.drop_zero,h2,List.nil_append,List.append_nil]
 have hp:([.agg [.int .u8 b,.lst false (l.map Zc)]]:List AVal).all Z9=true:=rfl
 have hm:([.agg [.int .u8 b,.lst false (l.map Zc)]]:List AVal).map ZG=[.agg [.int .u8 b,.lst false (l.map Zc)]]:=rfl
 have hr:=Zc1 hp
 have hre:=fun ρ=>ZcZ (ρ:=ρ) hp
 rw [hm] at hr
 simp only [hm] at hre
 unfold Zj ZbM
 rw [show BY 32=false from by kernel_rfl]
 simp only [Bool.false_eq_true,if_false,hsh]
 rw [hr]
 have h2:∀ σ,Zz σ 1000 [] []=[]:=fun _=>rfl
 rw [h2]
 unfold Zbz
 simp only [List.all_nil,if_true,hre,Zv,List.length_nil]
 rw [Zsb b hb l hl]
 have hf:Zby (.tup [ZW (ZaM b l).1,.int .i64 (ZaM b l).2])=false:=rfl
 have hap:ZcO σ [t] (.tup [ZW (ZaM b l).1,.int .i64 (ZaM b l).2])=false:=by
  have : Zeg σ t=false:=by
   unfold Zeg
   rw [hs]
   cases l with
   | nil=>exact absurd rfl hl0
   | cons x r=>rfl
  simp [ZcO,this]
 have hrv:∀ site,Zk (Zax [] [] site) (.tup [ZW (ZaM b l).1,.int .i64 (ZaM b l).2])=.tup [ZW (ZaM b l).1,.int .i64 (ZaM b l).2]:=fun site=>by simp only [Zk,Zf,Zbk,ZiF]
 simp only [ZaA,List.isEmpty_nil,Bool.and_self,if_true,hf,hap,Bool.false_eq_true,if_false,hrv]
end Go.Proofs.YtmlkhhidifjjfaaDoor
namespace Go.Proofs.YtmlkhhidifjjfaaDoor
set_option maxHeartbeats 16000000
set_option maxRecDepth 10000
def Zg3:Zb:=[77,81,84,84]
theorem ZhZ (q:Int):0≤Zw q 3∧Zw q 3≤3:=by
 have h:∀ x:BitVec 64,(x &&& BitVec.ofInt 64 3).toNat≤3:=by
  intro x
  rw [BitVec.toNat_and]
  exact Nat.and_le_right
 have h2:=h (BitVec.ofInt 64 q)
 unfold Zw
 have h3:IntKind.i64.bits=64:=rfl
 rw [h3,Zb2 (by omega) (by omega)]
 omega
def ZpI (p:Zn):Int:=Z6 p.clean 2+Z6 p.hasWill 4+Zw p.will.qos 3*8+Z6 p.will.retain 32+Z6 p.hasPassword 64+Z6 p.hasUser 128
theorem ZdU (b:Bool) (n:Int) (h:0≤n):0≤Z6 b n∧Z6 b n≤n:=by unfold Z6;split <;> omega
theorem Zcn (n:Int) (h0:0≤n) (h1:n < 9223372036854775808):IntKind.i64.wrap n=n:=by
 obtain ⟨m,rfl⟩:∃ m:Nat,n=m:=⟨n.toNat,by omega⟩
 exact Zb2 (by omega) (by omega)
def Zlm (p:Zn):Zb:=((((Zaj Zg3).1++beB (ZP 5) 1)++beB (ZP (ZpI p)) 1)++beB (ZP p.keep) 2)++(Zbq 1 p.props).1++(Zaj p.client).1
def Zlb (p:Zn):Zb:=if p.hasWill then ((Zlm p++(Zbq 16 p.will.props).1)++(Zaj p.will.topic).1)++(ZbA p.will.data).1 else Zlm p
def Zld (p:Zn):Zb:=if p.hasUser then Zlb p++(Zaj p.user).1 else Zlb p
def ZeG (p:Zn):Zb:=if p.hasPassword then Zld p++(ZbA p.password).1 else Zld p
section
variable (p:Zn) (h:OkW p)
include h
theorem ZJR:E1 126 [.ref 0 0,ZW p] [.var wn]=some (.tup [],wH 0 (ZeG p)):=by
 have hq:=ZhZ p.will.qos
 have m1:=ZdU p.clean 2 (by omega)
 have m2:=ZdU p.hasWill 4 (by omega)
 have m3:=ZdU p.will.retain 32 (by omega)
 have m4:=ZdU p.hasPassword 64 (by omega)
 have m5:=ZdU p.hasUser 128 (by omega)
 have hm:=fun b n σ site own=>Zh8 b n σ site own
 have w1:=Zcn (Z6 p.clean 2+Z6 p.hasWill 4) (by omega) (by omega)
 have w2:=Zcn (Zw p.will.qos 3*8) (by omega) (by omega)
 have w3:=Zcn (Z6 p.clean 2+Z6 p.hasWill 4+Zw p.will.qos 3*8) (by omega) (by omega)
 have w4:=Zcn (Z6 p.clean 2+Z6 p.hasWill 4+Zw p.will.qos 3*8+Z6 p.will.retain 32) (by omega) (by omega)
 have w5:=Zcn (Z6 p.clean 2+Z6 p.hasWill 4+Zw p.will.qos 3*8+Z6 p.will.retain 32+Z6 p.hasPassword 64) (by omega) (by omega)
 have w6:=Zcn (Z6 p.clean 2+Z6 p.hasWill 4+Zw p.will.qos 3*8+Z6 p.will.retain 32+Z6 p.hasPassword 64+Z6 p.hasUser 128) (by omega) (by omega)
 have lim:=ZeJ
 have t0:=ZcG Zg3
 have t1:=ZcG p.client
 have t2:=ZcG p.will.topic
 have t3:=ZcG p.user
 have d1:=ZiM p.will.data
 have d2:=ZiM p.password
 have y1:=Zdj 1 p.props
 have y2:=Zdj 16 p.will.props
 have f0:=fun {σ:Za} {t site:Nat}=>Zs4 Zg3 (by decide) (σ:=σ) (t:=t) (site:=site)
 unfold ZeG Zld Zlb Zlm ZpI
 have n1:=Zbg 1 (ZP 5)
 generalize (Zaj Zg3).1=l0 at *
 have f1:=fun {σ:Za} {site:Nat}=>Zf4 l0 5 1 (by omega) (by omega) (m:=1) rfl (by omega) (σ:=σ) 0 2 0 (site:=site) (by omega)
 generalize beB (ZP 5) 1=D1 at *
 obtain ⟨l1,e1⟩:∃ l1,l0++D1=l1:=⟨_,rfl⟩
 have k1:l1.length=l0.length+D1.length:=by rw [←e1,List.length_append]
 simp only [e1] at f1 ⊢
 have n2:=Zbg 1 (ZP (Z6 p.clean 2+Z6 p.hasWill 4+Zw p.will.qos 3*8+Z6 p.will.retain 32+Z6 p.hasPassword 64+Z6 p.hasUser 128))
 have f2:=fun {σ:Za} {site:Nat}=>Zf4 l1 (Z6 p.clean 2+Z6 p.hasWill 4+Zw p.will.qos 3*8+Z6 p.will.retain 32+Z6 p.hasPassword 64+Z6 p.hasUser 128) 1 (by omega) (by omega) (m:=1) rfl (by omega) (σ:=σ) 0 2 1 (site:=site) (by omega)
 generalize beB (ZP (Z6 p.clean 2+Z6 p.hasWill 4+Zw p.will.qos 3*8+Z6 p.will.retain 32+Z6 p.hasPassword 64+Z6 p.hasUser 128)) 1=D2 at *
 obtain ⟨l2,e2⟩:∃ l2,l1++D2=l2:=⟨_,rfl⟩
 have k2:l2.length=l1.length+D2.length:=by rw [←e2,List.length_append]
 simp only [e2] at f2 ⊢
 have n3:=Zbg 2 (ZP p.keep)
 have f3:=fun {σ:Za} {site:Nat}=>Zf4 l2 p.keep 2 (by omega) (by omega) (m:=2) rfl (by omega) (σ:=σ) 0 2 2 (site:=site) (by omega)
 generalize beB (ZP p.keep) 2=D3 at *
 obtain ⟨l3,e3⟩:∃ l3,l2++D3=l3:=⟨_,rfl⟩
 have k3:l3.length=l2.length+D3.length:=by rw [←e3,List.length_append]
 simp only [e3] at f3 ⊢
 have f4:=fun {σ:Za} {site:Nat}=>Zgz l3 1 p.props h.props.1 h.props.2 (by omega) (σ:=σ) 0 2 3 (site:=site) (by omega)
 generalize (Zbq 1 p.props).1=D4 at *
 obtain ⟨l4,e4⟩:∃ l4,l3++D4=l4:=⟨_,rfl⟩
 have k4:l4.length=l3.length+D4.length:=by rw [←e4,List.length_append]
 simp only [e4] at f4 ⊢
 have f5:=fun {σ:Za} {site:Nat}=>Zib l4 p.client h.client (by omega) (σ:=σ) 0 2 4 (site:=site) (by omega)
 generalize (Zaj p.client).1=D5 at *
 obtain ⟨l5,e5⟩:∃ l5,l4++D5=l5:=⟨_,rfl⟩
 have k5:l5.length=l4.length+D5.length:=by rw [←e5,List.length_append]
 simp only [e5] at f5 ⊢
 have f6:=fun {σ:Za} {site:Nat}=>Zgz l5 16 p.will.props h.wprops.1 h.wprops.2 (by omega) (σ:=σ) 0 2 5 (site:=site) (by omega)
 generalize (Zbq 16 p.will.props).1=D6 at *
 obtain ⟨l6,e6⟩:∃ l6,l5++D6=l6:=⟨_,rfl⟩
 have k6:l6.length=l5.length+D6.length:=by rw [←e6,List.length_append]
 simp only [e6] at f6 ⊢
 have f7:=fun {σ:Za} {site:Nat}=>Zib l6 p.will.topic h.wtopic (by omega) (σ:=σ) 0 2 6 (site:=site) (by omega)
 generalize (Zaj p.will.topic).1=D7 at *
 obtain ⟨l7,e7⟩:∃ l7,l6++D7=l7:=⟨_,rfl⟩
 have k7:l7.length=l6.length+D7.length:=by rw [←e7,List.length_append]
 simp only [e7] at f7 ⊢
 have f8:=fun {σ:Za} {site:Nat}=>Zre l7 p.will.data h.wdata (by omega) (σ:=σ) 0 2 7 (site:=site) (by omega)
 generalize (ZbA p.will.data).1=D8 at *
 obtain ⟨l8,e8⟩:∃ l8,l7++D8=l8:=⟨_,rfl⟩
 have k8:l8.length=l7.length+D8.length:=by rw [←e8,List.length_append]
 simp only [e8] at f8 ⊢
 have hO:=fun {j g:Nat} {l:Zb} {σ:Za}=>Zd8 (j:=j) (g:=g) (l:=l) (σ:=σ)
 rw [Zbk]
 have e0:=ZbK p
 have a9:(Zt p)[9]?=some (.lst false (p.props.map Zl)):=rfl
 have a12:(Zt p)[12]?=some (.bool p.clean):=rfl
 have a13:(Zt p)[13]?=some (.int .i64 p.keep):=rfl
 have a14:(Zt p)[14]?=some (.str p.client):=rfl
 have a15:(Zt p)[15]?=some (.bool p.hasWill):=rfl
 have a16:(Zt p)[16]?=some (.str p.will.topic):=rfl
 have a17:(Zt p)[17]?=some (.lst false (p.will.data.map Zc)):=rfl
 have a18:(Zt p)[18]?=some (.int .i64 p.will.qos):=rfl
 have a19:(Zt p)[19]?=some (.bool p.will.retain):=rfl
 have a20:(Zt p)[20]?=some (.lst false (p.will.props.map Zl)):=rfl
 have a21:(Zt p)[21]?=some (.bool p.hasUser):=rfl
 have a22:(Zt p)[22]?=some (.str p.user):=rfl
 have a23:(Zt p)[23]?=some (.bool p.hasPassword):=rfl
 have a24:(Zt p)[24]?=some (.lst false (p.password.map Zc)):=rfl
 have b5:=h.user
 have b6:=h.password
 clear h
 generalize Zt p=P at *
 generalize p.will.qos=wq at *
 generalize p.will.retain=wr at *
 generalize p.will.topic=wt at *
 generalize p.will.data=wd at *
 generalize p.will.props=wp at *
 generalize p.clean=cl at *
 generalize p.keep=kp at *
 generalize p.client=ci at *
 generalize p.props=ps at *
 generalize p.hasWill=hw at *
 generalize p.hasUser=hu at *
 generalize p.hasPassword=hp at *
 generalize p.user=us at *
 generalize p.password=pw at *
 unfold Zw Zg3 at *
 rw [Zbe (by rfl) ZyF]
 have fu:=fun (l:Zb) (g:Nat) (hl:l.length≤1000000000) {σ:Za} {site:Nat}=>Zib l us b5 (by omega) (σ:=σ) 0 2 g (site:=site) (by omega)
 have fp:=fun (l:Zb) (g:Nat) (hl:l.length≤1000000000) {σ:Za} {site:Nat}=>Zre l pw b6 (by omega) (σ:=σ) 0 2 g (site:=site) (by omega)
 generalize (Zaj us).1=Du at *
 generalize (ZbA pw).1=Dp at *
 cases hw <;> cases hu <;> cases hp
 ·simp only [Bool.false_eq_true,if_false]
  unfold wn at *
  simp -implicitDefEqProofs only [EQA,Zs,Nat.reduceAdd,Nat.reduceLT,Nat.reduceEqDiff,Nat.reduceBEq,reduceCtorEq,↓reduceIte,Zd,List.contains_cons,ZfU,Zez,Zfv,oI,AVal.cells,a9,a12,a13,a14,a15,a18,a19,a21,a23,hm,w1,w2,w3,w4,w5,w6,f0,f1,f2,f3,f4,f5,Zab,Zaf,Zae,Zan,Zao,Zag,List.lookup_nil]
  exact hO (j:=2) (by decide) rfl rfl
 ·have g1:=fun {σ:Za} {site:Nat}=>fp l5 5 (by omega) (σ:=σ) (site:=site)
  simp only [Bool.false_eq_true,if_false,if_true]
  unfold wn at *
  simp -implicitDefEqProofs only [EQA,Zs,Nat.reduceAdd,Nat.reduceLT,Nat.reduceEqDiff,Nat.reduceBEq,reduceCtorEq,↓reduceIte,Zd,List.contains_cons,ZfU,Zez,Zfv,oI,AVal.cells,a9,a12,a13,a14,a15,a18,a19,a21,a23,a24,hm,w1,w2,w3,w4,w5,w6,f0,f1,f2,f3,f4,f5,g1,Zab,Zaf,Zae,Zan,Zao,Zag,List.lookup_nil]
  exact hO (j:=2) (by decide) rfl rfl
 ·have g1:=fun {σ:Za} {site:Nat}=>fu l5 5 (by omega) (σ:=σ) (site:=site)
  simp only [Bool.false_eq_true,if_false,if_true]
  unfold wn at *
  simp -implicitDefEqProofs only [EQA,Zs,Nat.reduceAdd,Nat.reduceLT,Nat.reduceEqDiff,Nat.reduceBEq,reduceCtorEq,↓reduceIte,Zd,List.contains_cons,ZfU,Zez,Zfv,oI,AVal.cells,a9,a12,a13,a14,a15,a18,a19,a21,a22,a23,hm,w1,w2,w3,w4,w5,w6,f0,f1,f2,f3,f4,f5,g1,Zab,Zaf,Zae,Zan,Zao,Zag,List.lookup_nil]
  exact hO (j:=2) (by decide) rfl rfl
 ·have g1:=fun {σ:Za} {site:Nat}=>fu l5 5 (by omega) (σ:=σ) (site:=site)
  have g2:=fun {σ:Za} {site:Nat}=>fp (l5++Du) 6 (by rw [List.length_append];omega) (σ:=σ) (site:=site)
  simp only [Bool.false_eq_true,if_false,if_true]
  unfold wn at *
  simp -implicitDefEqProofs only [EQA,Zs,Nat.reduceAdd,Nat.reduceLT,Nat.reduceEqDiff,Nat.reduceBEq,reduceCtorEq,↓reduceIte,Zd,List.contains_cons,ZfU,Zez,Zfv,oI,AVal.cells,a9,a12,a13,a14,a15,a18,a19,a21,a22,a23,a24,hm,w1,w2,w3,w4,w5,w6,f0,f1,f2,f3,f4,f5,g1,g2,Zab,Zaf,Zae,Zan,Zao,Zag,List.lookup_nil]
  exact hO (j:=2) (by decide) rfl rfl
 ·simp only [Bool.false_eq_true,if_false,if_true]
  unfold wn at *
  simp -implicitDefEqProofs only [EQA,Zs,Nat.reduceAdd,Nat.reduceLT,Nat.reduceEqDiff,Nat.reduceBEq,reduceCtorEq,↓reduceIte,Zd,List.contains_cons,ZfU,Zez,Zfv,oI,AVal.cells,a9,a12,a13,a14,a15,a16,a17,a18,a19,a20,a21,a23,hm,w1,w2,w3,w4,w5,w6,f0,f1,f2,f3,f4,f5,f6,f7,f8,Zab,Zaf,Zae,Zan,Zao,Zag,List.lookup_nil]
  exact hO (j:=2) (by decide) rfl rfl
 ·have g1:=fun {σ:Za} {site:Nat}=>fp l8 8 (by omega) (σ:=σ) (site:=site)
  simp only [Bool.false_eq_true,if_false,if_true]
  unfold wn at *
  simp -implicitDefEqProofs only [EQA,Zs,Nat.reduceAdd,Nat.reduceLT,Nat.reduceEqDiff,Nat.reduceBEq,reduceCtorEq,↓reduceIte,Zd,List.contains_cons,ZfU,Zez,Zfv,oI,AVal.cells,a9,a12,a13,a14,a15,a16,a17,a18,a19,a20,a21,a23,a24,hm,w1,w2,w3,w4,w5,w6,f0,f1,f2,f3,f4,f5,f6,f7,f8,g1,Zab,Zaf,Zae,Zan,Zao,Zag,List.lookup_nil]
  exact hO (j:=2) (by decide) rfl rfl
 ·have g1:=fun {σ:Za} {site:Nat}=>fu l8 8 (by omega) (σ:=σ) (site:=site)
  simp only [Bool.false_eq_true,if_false,if_true]
  unfold wn at *
  simp -implicitDefEqProofs only [EQA,Zs,Nat.reduceAdd,Nat.reduceLT,Nat.reduceEqDiff,Nat.reduceBEq,reduceCtorEq,↓reduceIte,Zd,List.contains_cons,ZfU,Zez,Zfv,oI,AVal.cells,a9,a12,a13,a14,a15,a16,a17,a18,a19,a20,a21,a22,a23,hm,w1,w2,w3,w4,w5,w6,f0,f1,f2,f3,f4,f5,f6,f7,f8,g1,Zab,Zaf,Zae,Zan,Zao,Zag,List.lookup_nil]
  exact hO (j:=2) (by decide) rfl rfl
 ·have g1:=fun {σ:Za} {site:Nat}=>fu l8 8 (by omega) (σ:=σ) (site:=site)
  have g2:=fun {σ:Za} {site:Nat}=>fp (l8++Du) 9 (by rw [List.length_append];omega) (σ:=σ) (site:=site)
  simp only [if_true]
  unfold wn at *
  simp -implicitDefEqProofs only [EQA,Zs,Nat.reduceAdd,Nat.reduceLT,Nat.reduceEqDiff,Nat.reduceBEq,reduceCtorEq,↓reduceIte,Zd,List.contains_cons,ZfU,Zez,Zfv,oI,AVal.cells,a9,a12,a13,a14,a15,a16,a17,a18,a19,a20,a21,a22,a23,a24,hm,w1,w2,w3,w4,w5,w6,f0,f1,f2,f3,f4,f5,f6,f7,f8,g1,g2,Zab,Zaf,Zae,Zan,Zao,Zag,List.lookup_nil]
  exact hO (j:=2) (by decide) rfl rfl
theorem ZK7:(ZeG p).length≤1000000000:=by
 have t0:=ZcG Zg3
 have t1:=ZcG p.client
 have t2:=ZcG p.will.topic
 have t3:=ZcG p.user
 have d1:=ZiM p.will.data
 have d2:=ZiM p.password
 have y1:=Zdj 1 p.props
 have y2:=Zdj 16 p.will.props
 have n1:=Zbg 1 (ZP 5)
 have n2:=Zbg 1 (ZP (ZpI p))
 have n3:=Zbg 2 (ZP p.keep)
 unfold ZeG Zld Zlb Zlm
 cases p.hasWill <;> cases p.hasUser <;> cases p.hasPassword <;> simp only [Bool.false_eq_true,if_false,if_true,List.length_append] <;> omega
theorem ZKf {σ:Za} {t site:Nat} (hf:σ[site]?=some .free) (hs0:σ[t]?=some (.var wn)) :
  Zj E1 BY σ site 126 1 true [.ref t 0,.agg (Zt p)]=some (.tup [],(σ.set t (.var (wv site 0 (ZeG p).length))).set site (.row 0 1 ((ZeG p).map Zc)),{ any:=true,upd:=[(t,wv site 0 (ZeG p).length)] }) :=
 ZgD (args:=[.agg (Zt p)]) rfl rfl (ZJR p h) (by kernel_rfl) (by rw [List.all_cons,ZdH];rfl) (by rw [List.map_cons,ZdC];rfl) hf hs0
end
end Go.Proofs.YtmlkhhidifjjfaaDoor
namespace Go.Proofs.YtmlkhhidifjjfaaDoor
set_option maxHeartbeats 16000000
set_option maxRecDepth 10000
def Zka (p:Zn):Zb:=if p.qos > 0 then (Zaj p.topic).1++beB (ZP p.id) 2 else (Zaj p.topic).1
def Zjo (p:Zn):Zb:=(Zka p++(Zbq 3 p.props).1)++p.payload
def Zkc (p:Zn):Zb:=(beB (ZP (Z6 p.present 1)) 1++beB (ZP p.code) 1)++(Zbq 2 p.props).1
def Zf8 (s:Zbt):Int:=Zw s.qos 3+Z6 s.noLocal 4+Z6 s.asPublished 8+Zw s.handling 3*16
def Zpz (s:Zbt):Zb:=(Zaj s.filter).1++beB (ZP (Zf8 s)) 1
def ZdW (l:List Zbt):Zb:=(l.map Zpz).flatten
def Zea (l:List Zb):Zb:=(l.map fun f=>(Zaj f).1).flatten
def Zd6 (l:List Int):Zb:=(l.map fun c=>beB (ZP c) 1).flatten
theorem ZKb (p:Zn) (h:OkW p) (hk:p.type=3):E1 78 [.ref 0 0,ZW p] [.var wn]=some (.tup [],wH 0 (Zjo p)):=by
 have lim:=ZeJ
 have t1:=ZcG p.topic
 have y1:=Zdj 3 p.props
 have n1:=Zbg 2 (ZP p.id)
 have f0:=fun {σ:Za} {t site:Nat}=>Zs4 p.topic h.topic (σ:=σ) (t:=t) (site:=site)
 have pl:=h.payload
 unfold Zjo Zka
 generalize (Zaj p.topic).1=l0 at *
 have f1:=fun {σ:Za} {site:Nat}=>Zf4 l0 p.id 2 (by omega) (by omega) (m:=2) rfl (by omega) (σ:=σ) 0 2 0 (site:=site) (by omega)
 generalize beB (ZP p.id) 2=D1 at *
 have f2:=fun (l:Zb) (g:Nat) (hl:l.length≤1000000000) {σ:Za} {site:Nat}=>Zgz l 3 p.props h.props.1 h.props.2 (by omega) (σ:=σ) 0 2 g (site:=site) (by omega)
 generalize (Zbq 3 p.props).1=D2 at *
 have f3:=fun (l:Zb) (g:Nat) (hl:l.length≤2000000000) {σ:Za} {site:Nat}=>Zjj l p.payload (by omega) (σ:=σ) 0 2 g (site:=site) (by omega)
 have hO:=fun {j g:Nat} {l:Zb} {σ:Za}=>Zd8 (j:=j) (g:=g) (l:=l) (σ:=σ)
 rw [Zbk]
 have e0:=ZbK p
 have a0:(Zt p)[0]?=some (.int .i64 p.type):=rfl
 have a2:(Zt p)[2]?=some (.int .i64 p.qos):=rfl
 have a4:(Zt p)[4]?=some (.int .i64 p.id):=rfl
 have a5:(Zt p)[5]?=some (.str p.topic):=rfl
 have a6:(Zt p)[6]?=some (.lst false (p.payload.map Zc)):=rfl
 have a9:(Zt p)[9]?=some (.lst false (p.props.map Zl)):=rfl
 rw [hk] at a0
 clear h hk
 generalize Zt p=P at *
 generalize p.qos=q at *
 generalize p.id=c at *
 generalize p.topic=tp at *
 generalize p.payload=pa at *
 generalize p.props=ps at *
 rw [Zbe (by rfl) Zee]
 by_cases hq:q > 0
 ·rw [if_pos hq]
  have k1:(l0++D1).length=l0.length+D1.length:=List.length_append
  have k2:(l0++D1++D2).length=l0.length+D1.length+D2.length:=by rw [List.length_append,k1]
  have g2:=fun {σ:Za} {site:Nat}=>f2 (l0++D1) 1 (by omega) (σ:=σ) (site:=site)
  have g3:=fun {σ:Za} {site:Nat}=>f3 (l0++D1++D2) 2 (by omega) (σ:=σ) (site:=site)
  clear k1 k2 f2 f3
  unfold wn wT at *
  simp -implicitDefEqProofs only [EQA,Zs,Nat.reduceAdd,Nat.reduceLT,Nat.reduceEqDiff,Nat.reduceBEq,reduceCtorEq,decide_true,↓reduceIte,Zd,Zd7,Zdd,ZdS,oI,AVal.cells,a0,a2,a4,a5,a6,a9,Int.reduceBEq,hq,f0,f1,g2,g3,Zab,Zaf,Zae,Zan,Zao,Zag]
  exact hO (j:=2) (by decide) rfl rfl
 ·rw [if_neg hq]
  have k2:(l0++D2).length=l0.length+D2.length:=List.length_append
  have g2:=fun {σ:Za} {site:Nat}=>f2 l0 0 (by omega) (σ:=σ) (site:=site)
  have g3:=fun {σ:Za} {site:Nat}=>f3 (l0++D2) 1 (by omega) (σ:=σ) (site:=site)
  clear k2 f2 f3
  unfold wn wT at *
  simp -implicitDefEqProofs only [EQA,Zs,Nat.reduceAdd,Nat.reduceLT,Nat.reduceEqDiff,Nat.reduceBEq,reduceCtorEq,decide_false,↓reduceIte,Zd,Zd7,Zdd,ZdS,oI,AVal.cells,a0,a2,a5,a6,a9,Int.reduceBEq,hq,f0,g2,g3,Zab,Zaf,Zae,Zan,Zao,Zag]
  exact hO (j:=2) (by decide) rfl rfl
theorem ZvO (p:Zn) (h:OkW p) (hk:p.type=1):E1 78 [.ref 0 0,ZW p] [.var wn]=some (.tup [],wH 0 (ZeG p)):=by
 have f0:=fun {σ:Za} {t site:Nat}=>ZKf p h (σ:=σ) (t:=t) (site:=site)
 have hO:=fun {j g:Nat} {l:Zb} {σ:Za}=>Zd8 (j:=j) (g:=g) (l:=l) (σ:=σ)
 rw [Zbk]
 generalize ZeG p=B at *
 have e0:=ZbK p
 have e1:=Zci p
 have a0:(Zt p)[0]?=some (.int .i64 p.type):=rfl
 rw [hk] at a0
 generalize Zt p=P at *
 rw [Zbe (by rfl) Zee]
 unfold wn at *
 simp -implicitDefEqProofs only [EQA,Zs,Nat.reduceAdd,Nat.reduceLT,Nat.reduceLeDiff,Nat.reduceEqDiff,Nat.reduceBEq,reduceCtorEq,↓reduceIte,Zd,Zd7,Zdd,ZdS,oI,AVal.cells,a0,e0,e1,f0]
 exact hO (j:=2) (by decide) rfl rfl
theorem ZFw (p:Zn) (h:OkW p) (hk:p.type=2):E1 78 [.ref 0 0,ZW p] [.var wn]=some (.tup [],wH 0 (Zkc p)):=by
 have lim:=ZeJ
 have y1:=Zdj 2 p.props
 have n1:=Zbg 1 (ZP p.code)
 have n0:=Zbg 1 (ZP (Z6 p.present 1))
 have hm:=fun b n σ site own=>Zh8 b n σ site own
 have f0:=fun {σ:Za} {t site:Nat}=>Zk4 (Z6 p.present 1) 1 (by omega) (by omega) (m:=1) rfl (σ:=σ) (t:=t) (site:=site)
 unfold Zkc
 generalize beB (ZP (Z6 p.present 1)) 1=l0 at *
 have f1:=fun {σ:Za} {site:Nat}=>Zf4 l0 p.code 1 (by omega) (by omega) (m:=1) rfl (by omega) (σ:=σ) 0 2 0 (site:=site) (by omega)
 generalize beB (ZP p.code) 1=D1 at *
 have k1:(l0++D1).length=l0.length+D1.length:=List.length_append
 have f2:=fun {σ:Za} {site:Nat}=>Zgz (l0++D1) 2 p.props h.props.1 h.props.2 (by omega) (σ:=σ) 0 2 1 (site:=site) (by omega)
 generalize (Zbq 2 p.props).1=D2 at *
 have hO:=fun {j g:Nat} {l:Zb} {σ:Za}=>Zd8 (j:=j) (g:=g) (l:=l) (σ:=σ)
 rw [Zbk]
 have e0:=ZbK p
 have a0:(Zt p)[0]?=some (.int .i64 p.type):=rfl
 have a7:(Zt p)[7]?=some (.int .i64 p.code):=rfl
 have a9:(Zt p)[9]?=some (.lst false (p.props.map Zl)):=rfl
 have a25:(Zt p)[25]?=some (.bool p.present):=rfl
 rw [hk] at a0
 clear h hk k1
 generalize Zt p=P at *
 generalize p.code=c at *
 generalize p.present=b at *
 generalize p.props=ps at *
 rw [Zbe (by rfl) Zee]
 unfold wn at *
 simp -implicitDefEqProofs only [EQA,Zs,Nat.reduceAdd,Nat.reduceLT,Nat.reduceEqDiff,Nat.reduceBEq,reduceCtorEq,↓reduceIte,Zd,Zd7,Zdd,ZdS,oI,AVal.cells,a0,a7,a9,a25,Int.reduceBEq,hm,f0,f1,f2]
 exact hO (j:=2) (by decide) rfl rfl
theorem Zt9 (p:Zn) (h:OkW p) (hk:p.type=4∨p.type=5∨p.type=6∨p.type=7):E1 78 [.ref 0 0,ZW p] [.var wn]=some (.tup [],wH 0 (beB (ZP p.id) 2++ZbL p)):=by
 have n0:=Zbg 2 (ZP p.id)
 have f0:=fun {σ:Za} {t site:Nat}=>Zk4 p.id 2 (by omega) (by omega) (m:=2) rfl (σ:=σ) (t:=t) (site:=site)
 generalize beB (ZP p.id) 2=l0 at *
 have f1:=fun {σ:Za} {site:Nat}=>ZB0 p h l0 (by omega) (σ:=σ) 0 2 0 (site:=site) (by omega)
 have hO:=fun {j g:Nat} {l:Zb} {σ:Za}=>Zd8 (j:=j) (g:=g) (l:=l) (σ:=σ)
 rw [Zbk]
 generalize ZbL p=B at *
 generalize ZfR p=g0 at *
 have e0:=ZbK p
 have e1:=Zci p
 have a0:(Zt p)[0]?=some (.int .i64 p.type):=rfl
 have a4:(Zt p)[4]?=some (.int .i64 p.id):=rfl
 clear h
 generalize Zt p=P at *
 generalize p.id=c at *
 generalize p.type=ty at *
 rw [Zbe (by rfl) Zee]
 unfold wn at *
 rcases hk with rfl | rfl | rfl | rfl
 all_goals
  simp -implicitDefEqProofs only [EQA,Zs,Nat.reduceAdd,Nat.reduceLT,Nat.reduceLeDiff,Nat.reduceEqDiff,Nat.reduceBEq,reduceCtorEq,↓reduceIte,Zd,Zd7,Zdd,ZdS,oI,AVal.cells,a0,a4,e0,e1,Int.reduceBEq,f0,f1]
  exact hO (j:=2) (by decide) rfl rfl
theorem ZxQ (p:Zn) (h:OkW p) (hb:Zdh p=none) {σ:Za} {t site:Nat} (hf:σ[site]?=some .free) (hs0:σ[t]?=some (.var wn)) :
  Zj E1 BY σ site 131 1 true [.ref t 0,.agg (Zt p)]=some (.tup [],σ,{ any:=true,upd:=[(t,wn)] }):=by
 have:=Zra p h
 rw [hb] at this
 exact Zrh (args:=[.agg (Zt p)]) this (by kernel_rfl) (by rw [List.all_cons,ZdH];rfl) (by rw [List.map_cons,ZdC];rfl) (ff1 hf) hs0
theorem ZF4 (p:Zn) (h:OkW p) (hb:Zdh p≠none) {σ:Za} {t site:Nat} (hf:σ[site]?=some .free) (hs0:σ[t]?=some (.var wn)) :
  Zj E1 BY σ site 131 1 true [.ref t 0,.agg (Zt p)]=some (.tup [],(σ.set t (.var (wv site 0 (ZbL p).length))).set site (.row 0 1 ((ZbL p).map Zc)),{ any:=true,upd:=[(t,wv site 0 (ZbL p).length)] }):=by
 have:=Zra p h
 unfold Zdh at this hb
 by_cases hc:p.code≠0∨p.props≠[]
 ·rw [if_pos hc] at this
  exact ZgD (args:=[.agg (Zt p)]) rfl rfl this (by kernel_rfl) (by rw [List.all_cons,ZdH];rfl) (by rw [List.map_cons,ZdC];rfl) hf hs0
 ·rw [if_neg hc] at hb;exact absurd rfl hb
theorem ZDx (p:Zn) (h:OkW p) (hk:p.type=14∨p.type=15):E1 78 [.ref 0 0,ZW p] [.var wn]=some (.tup [],wO (Zdh p)):=by
 have hO:=fun {j g:Nat} {l:Zb} {σ:Za}=>Zd8 (j:=j) (g:=g) (l:=l) (σ:=σ)
 have e0:=ZbK p
 have e1:=Zci p
 have a0:(Zt p)[0]?=some (.int .i64 p.type):=rfl
 by_cases hb:Zdh p=none
 ·have f1:=fun {σ:Za} {t site:Nat}=>ZxQ p h hb (σ:=σ) (t:=t) (site:=site)
  rw [hb,Zbk]
  clear h hb
  generalize Zt p=P at *
  generalize p.type=ty at *
  rw [Zbe (by rfl) Zee]
  unfold wO wn at *
  rcases hk with rfl | rfl
  all_goals
   simp -implicitDefEqProofs only [EQA,Zs,Z2,Nat.reduceAdd,Nat.reduceLT,Nat.reduceLeDiff,Nat.reduceEqDiff,Nat.reduceBEq,reduceCtorEq,↓reduceIte,Zd,Zd7,Zdd,ZdS,oI,AVal.cells,a0,e0,e1,Int.reduceBEq,f1]
 ·have f1:=fun {σ:Za} {t site:Nat}=>ZF4 p h hb (σ:=σ) (t:=t) (site:=site)
  have hr:Zdh p=some (ZbL p):=by unfold Zdh at hb ⊢;split at hb <;> simp_all
  rw [hr,Zbk]
  clear h hb hr
  generalize ZbL p=B at *
  generalize Zt p=P at *
  generalize p.type=ty at *
  rw [Zbe (by rfl) Zee]
  unfold wO wn at *
  rcases hk with rfl | rfl
  all_goals
   simp -implicitDefEqProofs only [EQA,Zs,Nat.reduceAdd,Nat.reduceLT,Nat.reduceLeDiff,Nat.reduceEqDiff,Nat.reduceBEq,reduceCtorEq,↓reduceIte,Zd,Zd7,Zdd,ZdS,oI,AVal.cells,a0,e0,e1,Int.reduceBEq,f1]
   exact hO (j:=2) (by decide) rfl rfl
theorem ZBN (p:Zn) (hk:p.type < 1∨p.type=12∨p.type=13∨15 < p.type):E1 78 [.ref 0 0,ZW p] [.var wn]=some (.tup [],[.var wn]):=by
 have e0:=ZbK p
 have a0:(Zt p)[0]?=some (.int .i64 p.type):=rfl
 have b:∀ n:Int,n=1∨n=2∨n=3∨n=4∨n=5∨n=6∨n=7∨n=8∨n=9∨n=10∨n=11∨n=14∨n=15→(p.type == n)=false:=by
  intro n hn
  have : p.type≠n:=by omega
  simpa using this
 have b1:=b 1 (by simp)
 have b2:=b 2 (by simp)
 have b3:=b 3 (by simp)
 have b4:=b 4 (by simp)
 have b5:=b 5 (by simp)
 have b6:=b 6 (by simp)
 have b7:=b 7 (by simp)
 have b8:=b 8 (by simp)
 have b9:=b 9 (by simp)
 have b10:=b 10 (by simp)
 have b11:=b 11 (by simp)
 have b14:=b 14 (by simp)
 have b15:=b 15 (by simp)
 rw [Zbk]
 generalize Zt p=P at *
 generalize p.type=ty at *
 rw [Zbe (by rfl) Zee]
 unfold wn at *
 simp -implicitDefEqProofs only [EQA,Zs,Z2,Nat.reduceAdd,Nat.reduceLT,Nat.reduceEqDiff,Nat.reduceBEq,reduceCtorEq,↓reduceIte,Zd,Zd7,Zdd,ZdS,oI,AVal.cells,a0,b1,b2,b3,b4,b5,b6,b7,b8,b9,b10,b11,b14,b15]
end Go.Proofs.YtmlkhhidifjjfaaDoor
namespace Go.Proofs.YtmlkhhidifjjfaaDoor
set_option maxHeartbeats 16000000
set_option maxRecDepth 10000
theorem xw1 (c d:Ze) (h:c=d) (m:Nat) (tm:Tms) (σ:Za):evC FC PR1 BY m c tm σ=evC FC PR1 BY m d tm σ:=by rw [h]
def Zvy:=xw1 ZnE Zkv rfl
def ZrE:=xw1 Znr ZlV rfl
def Zry:=xw1 ZoV ZkG rfl
noncomputable def Zk3 (m:Nat) (tm:Tms) (σ:Za):Option (AVal×Za):=(Zaq m Zhc (Option.map (ZaW 0) (Option.map (ZaW 1) (evL FC PR1 BY m [75,74,73,0] ZnE tm σ))))
noncomputable def ZjC (m:Nat) (tm:Tms) (σ:Za):Option (AVal×Za):=(Zaq m Zhc (Option.map (ZaW 0) (Option.map (ZaW 3) (evL FC PR1 BY m [110,109,108,0] Znr tm σ))))
noncomputable def ZkC (m:Nat) (tm:Tms) (σ:Za):Option (AVal×Za):=(Zaq m Zhc (Option.map (ZaW 0) (Option.map (ZaW 5) (evL FC PR1 BY m [127,126,125,0] ZoV tm σ))))
theorem Zht {a b c d:Nat} {x y z:AVal} (hx:ZI x=true) (hy:ZI y=true) (hz:ZI z=true) (r g:Nat) (hr:r≠0) (l:Zb) (σ:Za) (h0:σ[0]?=some (.var (wv r g l.length))) (h1:σ[r]?=some (.row g 1 (l.map Zc))) :
  gcT 1 [(a,x),(b,y),(c,z),(d,.ref 0 0)] σ=([(a,x),(b,y),(c,z),(d,.ref 0 0)],[.var (wv 1 0 l.length),.row 0 1 (l.map Zc)]):=by
 have d0:σ.getD 0 .free=.var (wv r g l.length):=by simp [List.getD_eq_getElem?_getD,h0]
 have d1:σ.getD r .free=.row g 1 (l.map Zc):=by simp [List.getD_eq_getElem?_getD,h1]
 have ej:([0]:List Nat).contains r=false:=by simp;omega
 have hrf:Zr (wv r g l.length)=[r]:=rfl
 have e1:=fun ρ=>Za5 ρ x hx
 have e2:=fun ρ=>Za5 ρ y hy
 have e3:=fun ρ=>Za5 ρ z hz
 have hv:Zr [x,y,z,.ref 0 0]=[0]:=by
  simp only [Zr,(e1 (fun _ _=>none)).2,(e2 (fun _ _=>none)).2,(e3 (fun _ _=>none)).2];rfl
 have hi:ZB 1 [x,y,z,.ref 0 0] σ=[0,r]:=by
  have hR:List.range 1=[0]:=rfl
  have e0:([]:List Nat).contains r=false:=rfl
  simp only [ZB,hv,hR,List.flatMap_cons,List.flatMap_nil,List.append_nil,d0,ZM,hrf]
  rw [show (1000:Nat)=996+1+1+1+1 from rfl]
  simp only [List.cons_append,List.nil_append,Zz,ej,d1,ZM,List.append_nil,Bool.false_eq_true,if_false]
  have ej0:([0]:List Nat).contains 0=true:=rfl
  have ejr:([0,r]:List Nat).contains r=true:=by simp
  simp []
 have hρ:Zm σ 1 [0,r] r g=some (1,0):=by
  have : ¬(0:Nat)=r:=fun e=>hr e.symm
  simp [Zm,Z0,Zp,ZR,h1,this]
 have hρ0:Zm σ 1 [0,r] 0 0=some (0,0):=by
  simp [Zm,Z0,Zp,ZR,h0]
 have hren:Zf (Zm σ 1 [0,r]) (wv r g l.length)=wv 1 0 l.length:=by simp only [wv,Zf,Zk,hρ]
 simp only [gcT,gcA,hi,List.map_cons,List.map_nil,Zv,d0,d1,ZR,Zp,ZF,hren,Zf,(e1 _).1,(e2 _).1,(e3 _).1,Zk,hρ0]
 simp
theorem ZHZ (r:List Zb):(Zea r).length≤r.length*65537:=by
 induction r with
 | nil=>simp [Zea]
 | cons x r ih =>
  have:=ZcG x
  simp only [Zea,List.map_cons,List.flatten_cons,List.length_append,List.length_cons] at ih ⊢
  omega
theorem ZMS (r:List Int):(Zd6 r).length≤r.length:=by
 induction r with
 | nil=>simp [Zd6]
 | cons x r ih =>
  have:=Zbg 1 (ZP x)
  simp only [Zd6,List.map_cons,List.flatten_cons,List.length_append,List.length_cons] at ih ⊢
  omega
theorem Zwr (r:List Zbt):(ZdW r).length≤r.length*65538:=by
 induction r with
 | nil=>simp [ZdW]
 | cons x r ih =>
  have:=ZcG x.filter
  have:=Zbg 1 (ZP (Zf8 x))
  simp only [ZdW,List.map_cons,List.flatten_cons,List.length_append,List.length_cons,Zpz] at ih ⊢
  omega
theorem Zrs (fs:List Zb) (hn:fs.length≤1048576) (hx:∀ f ∈ fs,f.length≤9223372036854775807):∀ (r:List Zb) (i:Nat) (l:Zb),fs.drop i=r→l.length+r.length*65537≤1000000000000 →
  ZjC 1 [(110,.int .i64 i),(109,.int .i64 fs.length),(108,.lst false (fs.map AVal.str)),(0,.ref 0 0)] [.var (wv 1 0 l.length),.row 0 1 (l.map Zc)]=some (.tup [],wH 0 (l++Zea r))
 | [],i,l,h,hl=>by
  have h1:=Zc7 h
  have hO:=fun {j g:Nat} {l:Zb} {σ:Za}=>Zd8 (j:=j) (g:=g) (l:=l) (σ:=σ)
  have e:l++Zea []=l:=by simp [Zea]
  rw [e]
  unfold ZjC
  rw [Z8]
  simp -implicitDefEqProofs only [EQA,Zs,Nat.reduceAdd,Nat.reduceLT,Nat.reduceEqDiff,reduceCtorEq,decide_false,↓reduceIte,Zd,ZdS,ZlV,oI,ZrE,h1]
  exact hO (j:=1) (by decide) rfl rfl
 | x::r,i,l,h,hl=>by
  have hx0:x.length≤9223372036854775807:=hx x (List.mem_of_getElem? (Z7 h).1)
  have t1:=ZcG x
  have lim:=ZeJ
  simp only [List.length_cons] at hl
  have ih:=Zrs fs hn hx r (i+1) (l++(Zaj x).1) (Z7 h).2.1 (by rw [List.length_append];omega)
  have h1:(i:Int) < fs.length:=by have:=(Z7 h).2.2;omega
  have e1:=iad (Z7 h).1 AVal.str (k:=1) rfl
  have e3:=ZcW h1 (by omega)
  have f1:=fun {σ:Za} {site:Nat}=>Zib l x hx0 (by omega) (σ:=σ) 0 1 0 (site:=site) (by omega)
  have e:l++Zea (x::r)=l++(Zaj x).1++Zea r:=by simp [Zea]
  rw [e]
  generalize (Zaj x).1=D at *
  have hG:=fun {a b c d:Nat} {i n:Int} {σ:Za} h0 h1=>Zht (a:=a) (b:=b) (c:=c) (d:=d) (x:=.int .i64 i) (y:=.int .i64 n) (z:=.lst false (fs.map AVal.str)) rfl rfl rfl 1 1 (by omega) (l++D) σ h0 h1
  unfold ZjC at ih ⊢
  rw [Z8]
  simp -implicitDefEqProofs only [EQA,Z2,Nat.reduceAdd,Nat.reduceLT,Nat.reduceEqDiff,Nat.reduceBEq,reduceCtorEq,decide_true,↓reduceIte,ZlV,oI,ZrE,AVal.cells,h1,e1,e3,f1,hG]
  exact ih
theorem ZsN (fs:List Int) (hn:fs.length≤1048576):∀ (r:List Int) (i:Nat) (l:Zb),fs.drop i=r→l.length+r.length≤1000000000000 →
  ZkC 1 [(127,.int .i64 i),(126,.int .i64 fs.length),(125,.lst false (fs.map (AVal.int .i64))),(0,.ref 0 0)] [.var (wv 1 0 l.length),.row 0 1 (l.map Zc)]=some (.tup [],wH 0 (l++Zd6 r))
 | [],i,l,h,hl=>by
  have h1:=Zc7 h
  have hO:=fun {j g:Nat} {l:Zb} {σ:Za}=>Zd8 (j:=j) (g:=g) (l:=l) (σ:=σ)
  have e:l++Zd6 []=l:=by simp [Zd6]
  rw [e]
  unfold ZkC
  rw [Z8]
  simp -implicitDefEqProofs only [EQA,Zs,Nat.reduceAdd,Nat.reduceLT,Nat.reduceEqDiff,reduceCtorEq,decide_false,↓reduceIte,Zd,ZdS,ZkG,oI,Zry,h1]
  exact hO (j:=1) (by decide) rfl rfl
 | x::r,i,l,h,hl=>by
  have t1:=Zbg 1 (ZP x)
  have lim:=ZeJ
  simp only [List.length_cons] at hl
  have ih:=ZsN fs hn r (i+1) (l++beB (ZP x) 1) (Z7 h).2.1 (by rw [List.length_append];omega)
  have h1:(i:Int) < fs.length:=by have:=(Z7 h).2.2;omega
  have e1:=iad (Z7 h).1 (AVal.int .i64) (k:=1) rfl
  have e3:=ZcW h1 (by omega)
  have f1:=fun {σ:Za} {site:Nat}=>Zf4 l x 1 (by omega) (by omega) (m:=1) rfl (by omega) (σ:=σ) 0 1 0 (site:=site) (by omega)
  have e:l++Zd6 (x::r)=l++beB (ZP x) 1++Zd6 r:=by simp [Zd6]
  rw [e]
  generalize beB (ZP x) 1=D at *
  have hG:=fun {a b c d:Nat} {i n:Int} {σ:Za} h0 h1=>Zht (a:=a) (b:=b) (c:=c) (d:=d) (x:=.int .i64 i) (y:=.int .i64 n) (z:=.lst false (fs.map (AVal.int .i64))) rfl rfl rfl 1 1 (by omega) (l++D) σ h0 h1
  unfold ZkC at ih ⊢
  rw [Z8]
  simp -implicitDefEqProofs only [EQA,Z2,Nat.reduceAdd,Nat.reduceLT,Nat.reduceEqDiff,Nat.reduceBEq,reduceCtorEq,decide_true,↓reduceIte,ZkG,oI,Zry,AVal.cells,h1,e1,e3,f1,hG]
  exact ih
theorem Zvq (fs:List Zbt) (hn:fs.length≤1048576) (hx:∀ f ∈ fs,f.filter.length≤9223372036854775807):∀ (r:List Zbt) (i:Nat) (l:Zb),fs.drop i=r→l.length+r.length*65538≤1000000000000 →
  Zk3 1 [(75,.int .i64 i),(74,.int .i64 fs.length),(73,.lst false (fs.map ZU)),(0,.ref 0 0)] [.var (wv 1 0 l.length),.row 0 1 (l.map Zc)]=some (.tup [],wH 0 (l++ZdW r))
 | [],i,l,h,hl=>by
  have h1:=Zc7 h
  have hO:=fun {j g:Nat} {l:Zb} {σ:Za}=>Zd8 (j:=j) (g:=g) (l:=l) (σ:=σ)
  have e:l++ZdW []=l:=by simp [ZdW]
  rw [e]
  unfold Zk3
  rw [Z8]
  simp -implicitDefEqProofs only [EQA,Zs,Nat.reduceAdd,Nat.reduceLT,Nat.reduceEqDiff,reduceCtorEq,decide_false,↓reduceIte,Zd,ZdS,Zkv,oI,oN,Zvy,h1]
  exact hO (j:=1) (by decide) rfl rfl
 | x::r,i,l,h,hl=>by
  have hx0:x.filter.length≤9223372036854775807:=hx x (List.mem_of_getElem? (Z7 h).1)
  have t1:=ZcG x.filter
  have t2:=Zbg 1 (ZP (Zf8 x))
  have lim:=ZeJ
  simp only [List.length_cons] at hl
  have ih:=Zvq fs hn hx r (i+1) (l++(Zaj x.filter).1++beB (ZP (Zf8 x)) 1) (Z7 h).2.1 (by rw [List.length_append,List.length_append];omega)
  have h1:(i:Int) < fs.length:=by have:=(Z7 h).2.2;omega
  have e1:=iad (Z7 h).1 ZU (k:=6) rfl
  have e3:=ZcW h1 (by omega)
  have hm:=fun b n σ site own=>Zh8 b n σ site own
  have q1:=ZhZ x.qos
  have q2:=ZhZ x.handling
  have m1:=ZdU x.noLocal 4 (by omega)
  have m2:=ZdU x.asPublished 8 (by omega)
  have w1:=Zcn (Zw x.qos 3+Z6 x.noLocal 4) (by omega) (by omega)
  have w2:=Zcn (Zw x.qos 3+Z6 x.noLocal 4+Z6 x.asPublished 8) (by omega) (by omega)
  have w3:=Zcn (Zw x.handling 3*16) (by omega) (by omega)
  have w4:=Zcn (Zw x.qos 3+Z6 x.noLocal 4+Z6 x.asPublished 8+Zw x.handling 3*16) (by omega) (by omega)
  have f1:=fun {σ:Za} {site:Nat}=>Zib l x.filter hx0 (by omega) (σ:=σ) 0 1 0 (site:=site) (by omega)
  have f2:=fun {σ:Za} {site:Nat}=>Zf4 (l++(Zaj x.filter).1) (Zf8 x) 1 (by omega) (by omega) (m:=1) rfl (by rw [List.length_append];omega) (σ:=σ) 0 1 1 (site:=site) (by omega)
  have e:l++ZdW (x::r)=l++(Zaj x.filter).1++beB (ZP (Zf8 x)) 1++ZdW r:=by simp [ZdW,Zpz]
  rw [e]
  generalize (Zaj x.filter).1=D at *
  generalize beB (ZP (Zf8 x)) 1=D2 at *
  have hG:=fun {a b c d:Nat} {i n:Int} {σ:Za} h0 h1=>Zht (a:=a) (b:=b) (c:=c) (d:=d) (x:=.int .i64 i) (y:=.int .i64 n) (z:=.lst false (fs.map ZU)) rfl rfl rfl 1 2 (by omega) (l++D++D2) σ h0 h1
  unfold Zf8 at f2
  unfold Zk3 at ih ⊢
  rw [Z8]
  simp only [ZU,AVal.cells] at e1
  unfold Zw at *
  simp -implicitDefEqProofs only [EQA,Z2,Nat.reduceAdd,Nat.reduceLT,Nat.reduceLeDiff,Nat.reduceEqDiff,Nat.reduceBEq,reduceCtorEq,decide_true,↓reduceIte,List.contains_cons,Zkv,oI,oN,Zvy,AVal.cells,h1,e1,e3,hm,w1,w2,w3,w4,f1,f2,hG,Zab,Zaf,Zae,Zan,Zao,Zag,List.lookup_nil]
  exact ih
section
variable (p:Zn) (h:OkW p)
include h
theorem Zkp:(ZbT p).length≤300000000:=by
 have:=Zdj p.type p.props
 have:=Zbg 2 (ZP p.id)
 unfold ZbT
 rw [List.length_append];omega
theorem Zws (hk:p.type=8):E1 78 [.ref 0 0,ZW p] [.var wn]=some (.tup [],wH 0 (ZbT p++ZdW p.subs)):=by
 have hh:=Zkp p h
 have f0:=fun {σ:Za} {t site:Nat}=>Zpq p h (σ:=σ) (t:=t) (site:=site)
 have hx:=h.subs
 have hL:=Zvq p.subs hx.1 hx.2 p.subs 0 (ZbT p) rfl (by omega)
 have z:((0:Nat):Int)=0:=rfl
 rw [z] at hL
 unfold Zk3 at hL
 have hG:=fun {a b c d:Nat} {i n:Int} {r g:Nat} {σ:Za} hr h0 h1=>Zht (a:=a) (b:=b) (c:=c) (d:=d) (x:=.int .i64 i) (y:=.int .i64 n) (z:=.lst false (p.subs.map ZU)) rfl rfl rfl r g hr (ZbT p) σ h0 h1
 have hG2:=fun {a b c d:Nat} {i n:Int} {g:Nat} {σ:Za} h0 h1=>hG (a:=a) (b:=b) (c:=c) (d:=d) (i:=i) (n:=n) (r:=2) (g:=g) (σ:=σ) (by omega) h0 h1
 clear hG
 have hn:(p.subs.map ZU).length=p.subs.length:=by simp
 rw [Zbk]
 generalize ZbT p=B at *
 have e0:=ZbK p
 have e1:=Zci p
 have a0:(Zt p)[0]?=some (.int .i64 p.type):=rfl
 have a10:(Zt p)[10]?=some (.lst false (p.subs.map ZU)):=rfl
 rw [hk] at a0
 clear h hk hx
 generalize Zt p=P at *
 generalize p.subs=ss at *
 rw [Zbe (by rfl) Zee]
 unfold wn at *
 simp -implicitDefEqProofs only [EQA,Z2,Nat.reduceAdd,Nat.reduceLT,Nat.reduceLeDiff,Nat.reduceEqDiff,Nat.reduceBEq,reduceCtorEq,↓reduceIte,Zd7,Zdd,oI,AVal.cells,a0,a10,e0,e1,hn,Int.reduceBEq,f0]
 exact hL
theorem ZI1 (hk:p.type=10):E1 78 [.ref 0 0,ZW p] [.var wn]=some (.tup [],wH 0 (ZbT p++Zea p.filters)):=by
 have hh:=Zkp p h
 have f0:=fun {σ:Za} {t site:Nat}=>Zpq p h (σ:=σ) (t:=t) (site:=site)
 have hx:=h.filters
 have hL:=Zrs p.filters hx.1 hx.2 p.filters 0 (ZbT p) rfl (by omega)
 have z:((0:Nat):Int)=0:=rfl
 rw [z] at hL
 unfold ZjC at hL
 have hG2:=fun {a b c d:Nat} {i n:Int} {g:Nat} {σ:Za} h0 h1=>Zht (a:=a) (b:=b) (c:=c) (d:=d) (x:=.int .i64 i) (y:=.int .i64 n) (z:=.lst false (p.filters.map AVal.str)) rfl rfl rfl 2 g (by omega) (ZbT p) σ h0 h1
 have hn:(p.filters.map AVal.str).length=p.filters.length:=by simp
 rw [Zbk]
 generalize ZbT p=B at *
 have e0:=ZbK p
 have e1:=Zci p
 have a0:(Zt p)[0]?=some (.int .i64 p.type):=rfl
 have a11:(Zt p)[11]?=some (.lst false (p.filters.map AVal.str)):=rfl
 rw [hk] at a0
 clear h hk hx
 generalize Zt p=P at *
 generalize p.filters=ss at *
 rw [Zbe (by rfl) Zee]
 unfold wn at *
 simp -implicitDefEqProofs only [EQA,Z2,Nat.reduceAdd,Nat.reduceLT,Nat.reduceLeDiff,Nat.reduceEqDiff,Nat.reduceBEq,reduceCtorEq,↓reduceIte,Zd7,Zdd,oI,AVal.cells,a0,a11,e0,e1,hn,Int.reduceBEq,f0]
 exact hL
theorem ZL2 (hk:p.type=9∨p.type=11):E1 78 [.ref 0 0,ZW p] [.var wn]=some (.tup [],wH 0 (ZbT p++Zd6 p.codes)):=by
 have hh:=Zkp p h
 have f0:=fun {σ:Za} {t site:Nat}=>Zpq p h (σ:=σ) (t:=t) (site:=site)
 have hx:=h.codes
 have hL:=ZsN p.codes hx p.codes 0 (ZbT p) rfl (by omega)
 have z:((0:Nat):Int)=0:=rfl
 rw [z] at hL
 unfold ZkC at hL
 have hG2:=fun {a b c d:Nat} {i n:Int} {g:Nat} {σ:Za} h0 h1=>Zht (a:=a) (b:=b) (c:=c) (d:=d) (x:=.int .i64 i) (y:=.int .i64 n) (z:=.lst false (p.codes.map (AVal.int .i64))) rfl rfl rfl 2 g (by omega) (ZbT p) σ h0 h1
 have hn:(p.codes.map (AVal.int .i64)).length=p.codes.length:=by simp
 rw [Zbk]
 generalize ZbT p=B at *
 have e0:=ZbK p
 have e1:=Zci p
 have a0:(Zt p)[0]?=some (.int .i64 p.type):=rfl
 have a8:(Zt p)[8]?=some (.lst false (p.codes.map (AVal.int .i64))):=rfl
 clear h hx
 generalize Zt p=P at *
 generalize p.codes=ss at *
 generalize p.type=ty at *
 rw [Zbe (by rfl) Zee]
 unfold wn at *
 rcases hk with rfl | rfl
 all_goals
  simp -implicitDefEqProofs only [EQA,Z2,Nat.reduceAdd,Nat.reduceLT,Nat.reduceLeDiff,Nat.reduceEqDiff,Nat.reduceBEq,reduceCtorEq,↓reduceIte,Zd7,Zdd,oI,AVal.cells,a0,a8,e0,e1,hn,Int.reduceBEq,f0]
  exact hL
end
end Go.Proofs.YtmlkhhidifjjfaaDoor
namespace Go.Proofs.YtmlkhhidifjjfaaDoor
set_option maxHeartbeats 8000000
set_option maxRecDepth 10000
theorem ZqQ (a b:List Int) (h:a.length=b.length) (hl:a.length≤9223372036854775807):∀ (r s:List Int) (i:Nat),a.drop i=r→b.drop i=s→Zlp 0 [(13,.int .i64 i),(12,.int .i64 a.length),(1,.lst false (b.map (AVal.int .i64))),(0,.lst false (a.map (AVal.int .i64)))] []=some (.bool (r == s),[])
 | [],s,i,ha,hb=>by
  have hs:s=[]:=by
   subst hb;rw [List.drop_eq_nil_iff] at ha ⊢;omega
  subst hs
  have h1:=Zc7 ha
  unfold Zlp
  rw [Z8]
  simp -implicitDefEqProofs only [EQA,Nat.reduceLT,Nat.reduceEqDiff,reduceCtorEq,decide_false,↓reduceIte,Znx,ZK3,Zo6,Zs9,ZkF,oI,h1]
 | x::r,[],i,ha,hb=>by
  have:=(Z7 ha).2.2;rw [List.drop_eq_nil_iff] at hb;omega
 | x::r,y::s,i,ha,hb=>by
  have ih:=ZqQ a b h hl r s (i+1) (Z7 ha).2.1 (Z7 hb).2.1
  have h1:(i:Int) < a.length:=by have:=(Z7 ha).2.2;omega
  have e1:=iad (Z7 ha).1 (AVal.int .i64) (k:=1) rfl
  have e2:=iad (Z7 hb).1 (AVal.int .i64) (k:=1) rfl
  have e3:=ZcW h1 hl
  unfold Zlp at ih ⊢
  rw [Z8]
  simp -implicitDefEqProofs only [EQA,ZC,Z2,Nat.reduceLT,Nat.reduceEqDiff,Nat.reduceBEq,reduceCtorEq,decide_true,↓reduceIte,gcT,gcA,ZB,Zz,Zv,ZM,Znx,Zs9,ZkF,oI,h1,e1,e2,e3]
  rw [ih]
  by_cases hx:x=y <;> simp [hx]
theorem ZzW (a b:List Int) (hl:a.length≤9223372036854775807):E 83 [.lst false (a.map (AVal.int .i64)),.lst false (b.map (AVal.int .i64))] []=some (.bool (a == b),[]):=by
 rw [Zh (by rfl) ZIz]
 by_cases h:a.length=b.length
 ·have:=ZqQ a b h hl a b 0 rfl rfl
  unfold Zlp at this
  have e:=Zic h
  simp -implicitDefEqProofs only [EQA,Z2,Nat.reduceLT,Nat.reduceEqDiff,reduceCtorEq,↓reduceIte,gcT,gcA,ZB,Zz,Zv,ZM,Ztb,ZkV,oI,e]
  exact this
 ·have e:=ZiW h
  simp -implicitDefEqProofs only [EQA,Nat.reduceLT,Nat.reduceEqDiff,reduceCtorEq,↓reduceIte,Ztb,ZkV,Znx,oI,e,Zi9 h]
theorem ZK4 (σ:Za) (site own:Nat) (view:Bool) (a b:List Int) (hl:a.length≤9223372036854775807):Zj E BY σ site 83 own view [.lst false (a.map (AVal.int .i64)),.lst false (b.map (AVal.int .i64))]=some (.bool (a == b),σ,{}) :=
 Zb9 (ZzW a b hl) (by kernel_rfl) (by simp -implicitDefEqProofs only [Zct,Zbd,eq_self]) (by simp -implicitDefEqProofs only [ZC,Zbd,eq_self]) rfl (fun _=>rfl) _ _ _ _
theorem Zuj (a b:List Zb) (h:a.length=b.length) (hl:a.length≤9223372036854775807):∀ (r s:List Zb) (i:Nat),a.drop i=r→b.drop i=s→Zkk 0 [(13,.int .i64 i),(12,.int .i64 a.length),(1,.lst false (b.map AVal.str)),(0,.lst false (a.map AVal.str))] []=some (.bool (r == s),[])
 | [],s,i,ha,hb=>by
  have hs:s=[]:=by
   subst hb;rw [List.drop_eq_nil_iff] at ha ⊢;omega
  subst hs
  have h1:=Zc7 ha
  unfold Zkk
  rw [Z8]
  simp -implicitDefEqProofs only [EQA,Nat.reduceLT,Nat.reduceEqDiff,reduceCtorEq,decide_false,↓reduceIte,Zmt,ZAd,Zo5,ZrX,Zlx,oI,h1]
 | x::r,[],i,ha,hb=>by
  have:=(Z7 ha).2.2;rw [List.drop_eq_nil_iff] at hb;omega
 | x::r,y::s,i,ha,hb=>by
  have ih:=Zuj a b h hl r s (i+1) (Z7 ha).2.1 (Z7 hb).2.1
  have h1:(i:Int) < a.length:=by have:=(Z7 ha).2.2;omega
  have e1:=iad (Z7 ha).1 AVal.str (k:=1) rfl
  have e2:=iad (Z7 hb).1 AVal.str (k:=1) rfl
  have e3:=ZcW h1 hl
  unfold Zkk at ih ⊢
  rw [Z8]
  simp -implicitDefEqProofs only [EQA,ZC,Z2,Nat.reduceLT,Nat.reduceEqDiff,Nat.reduceBEq,Zds,reduceCtorEq,decide_true,↓reduceIte,gcT,gcA,ZB,Zz,Zv,ZM,Zmt,ZrX,Zlx,oI,h1,e1,e2,e3]
  rw [ih]
  by_cases hx:x=y <;> simp [hx]
theorem ZMb (a b:List Zb) (hl:a.length≤9223372036854775807):E 85 [.lst false (a.map AVal.str),.lst false (b.map AVal.str)] []=some (.bool (a == b),[]):=by
 rw [Zh (by rfl) ZEK]
 by_cases h:a.length=b.length
 ·have:=Zuj a b h hl a b 0 rfl rfl
  unfold Zkk at this
  have e:=Zic h
  simp -implicitDefEqProofs only [EQA,Z2,Nat.reduceLT,Nat.reduceEqDiff,reduceCtorEq,↓reduceIte,gcT,gcA,ZB,Zz,Zv,ZM,Zsq,ZkW,oI,e]
  exact this
 ·have e:=ZiW h
  simp -implicitDefEqProofs only [EQA,Nat.reduceLT,Nat.reduceEqDiff,reduceCtorEq,↓reduceIte,Zsq,ZkW,Zmt,oI,e,Zi9 h]
theorem ZHX (σ:Za) (site own:Nat) (view:Bool) (a b:List Zb) (hl:a.length≤9223372036854775807):Zj E BY σ site 85 own view [.lst false (a.map AVal.str),.lst false (b.map AVal.str)]=some (.bool (a == b),σ,{}) :=
 Zb9 (ZMb a b hl) (by kernel_rfl) (by simp -implicitDefEqProofs only [Zct,Zbd,eq_self]) (by simp -implicitDefEqProofs only [ZC,Zbd,eq_self]) rfl (fun _=>rfl) _ _ _ _
theorem Zr5 (a b:List Zbt) (h:a.length=b.length) (hl:a.length≤9223372036854775807):∀ (r s:List Zbt) (i:Nat),a.drop i=r→b.drop i=s→Zlr 0 [(13,.int .i64 i),(12,.int .i64 a.length),(1,.lst false (b.map ZU)),(0,.lst false (a.map ZU))] []=some (.bool (r == s),[])
 | [],s,i,ha,hb=>by
  have hs:s=[]:=by
   subst hb;rw [List.drop_eq_nil_iff] at ha ⊢;omega
  subst hs
  have h1:=Zc7 ha
  unfold Zlr
  rw [Z8]
  simp -implicitDefEqProofs only [EQA,Nat.reduceLT,Nat.reduceEqDiff,reduceCtorEq,decide_false,↓reduceIte,Zqj,ZCn,Zm6,ZsF,Zle,oI,h1]
 | x::r,[],i,ha,hb=>by
  have:=(Z7 ha).2.2;rw [List.drop_eq_nil_iff] at hb;omega
 | x::r,y::s,i,ha,hb=>by
  have ih:=Zr5 a b h hl r s (i+1) (Z7 ha).2.1 (Z7 hb).2.1
  have h1:(i:Int) < a.length:=by have:=(Z7 ha).2.2;omega
  have e1:=iad (Z7 ha).1 ZU (k:=6) rfl
  have e2:=iad (Z7 hb).1 ZU (k:=6) rfl
  have e3:=ZcW h1 hl
  unfold Zlr at ih ⊢
  rw [Z8]
  obtain ⟨f1,q1,n1,a1,d1,i1⟩:=x
  obtain ⟨f2,q2,n2,a2,d2,i2⟩:=y
  simp only [ZU,AVal.cells] at e1 e2
  have kd:ZfA [2,0,1,1,0,0] [AVal.str f1,.int .i64 q1,.bool n1,.bool a1,.int .i64 d1,.int .i64 i1]=true:=rfl
  have ke:Ze6 [AVal.str f1,.int .i64 q1,.bool n1,.bool a1,.int .i64 d1,.int .i64 i1] [AVal.str f2,.int .i64 q2,.bool n2,.bool a2,.int .i64 d2,.int .i64 i2]=some (f1 == f2 && (q1 == q2 && (n1 == n2 && (a1 == a2 && (d1 == d2 && (i1 == i2 && true)))))):=rfl
  have kd2:ZfA [2,0,1,1,0,0] [AVal.str f2,.int .i64 q2,.bool n2,.bool a2,.int .i64 d2,.int .i64 i2]=true:=rfl
  simp -implicitDefEqProofs only [EQA,Z2,Nat.reduceAdd,Nat.reduceLT,Nat.reduceLeDiff,Nat.reduceEqDiff,Nat.reduceBEq,reduceCtorEq,decide_true,↓reduceIte,gcT,gcA,ZB,Zz,Zv,ZM,Zqj,ZsF,Zle,oI,h1,e1,e2,e3,kd,ke]
  rw [ih]
  have hb:((⟨f1,q1,n1,a1,d1,i1⟩:Zbt) == ⟨f2,q2,n2,a2,d2,i2⟩)=(f1 == f2 && (q1 == q2 && (n1 == n2 && (a1 == a2 && (d1 == d2 && (i1 == i2)))))):=by
   rw [Bool.eq_iff_iff];simp
  rw [List.cons_beq_cons,hb]
  cases f1 == f2 <;> cases q1 == q2 <;> cases n1 == n2 <;> cases a1 == a2 <;> cases d1 == d2 <;> cases i1 == i2 <;> rfl
theorem ZLw (a b:List Zbt) (hl:a.length≤9223372036854775807):E 84 [.lst false (a.map ZU),.lst false (b.map ZU)] []=some (.bool (a == b),[]):=by
 rw [Zh (by rfl) ZM6]
 by_cases h:a.length=b.length
 ·have:=Zr5 a b h hl a b 0 rfl rfl
  unfold Zlr at this
  have e:=Zic h
  simp -implicitDefEqProofs only [EQA,Z2,Nat.reduceLT,Nat.reduceEqDiff,reduceCtorEq,↓reduceIte,gcT,gcA,ZB,Zz,Zv,ZM,Zr9,ZjQ,oI,e]
  exact this
 ·have e:=ZiW h
  simp -implicitDefEqProofs only [EQA,Nat.reduceLT,Nat.reduceEqDiff,reduceCtorEq,↓reduceIte,Zr9,ZjQ,Zqj,oI,e,Zi9 h]
theorem Zyf (σ:Za) (site own:Nat) (view:Bool) (a b:List Zbt) (hl:a.length≤9223372036854775807):Zj E BY σ site 84 own view [.lst false (a.map ZU),.lst false (b.map ZU)]=some (.bool (a == b),σ,{}) :=
 Zb9 (ZLw a b hl) (by kernel_rfl) (by simp -implicitDefEqProofs only [Zct,Zbd,eq_self]) (by simp -implicitDefEqProofs only [ZC,Zbd,eq_self]) rfl (fun _=>rfl) _ _ _ _
def Zdo (a b:Zn):Bool :=
 ((((((((((((a.codes == b.codes && a.subs == b.subs && a.filters == b.filters && a.props == b.props && a.will.props == b.will.props)
  && (a.payload == b.payload && a.password == b.password && a.will.data == b.will.data))
  && (a.will.topic == b.will.topic && a.will.qos == b.will.qos && a.will.retain == b.will.retain))
  && (a.dup == b.dup && a.retain == b.retain && a.clean == b.clean && a.hasWill == b.hasWill && a.hasUser == b.hasUser && a.hasPassword == b.hasPassword && a.present == b.present))
  && a.type == b.type) && a.qos == b.qos) && a.id == b.id) && a.topic == b.topic) && a.code == b.code) && a.keep == b.keep) && a.client == b.client) && a.user == b.user)
theorem Ztl (a b:Zn):Zdo a b=true↔a=b:=by
 obtain ⟨a1,a2,a3,a4,a5,a6,a7,a8,a9,a10,a11,a12,a13,a14,a15,a16,⟨a17,a18,a19,a20,a21⟩,a22,a23,a24,a25,a26⟩:=a
 obtain ⟨b1,b2,b3,b4,b5,b6,b7,b8,b9,b10,b11,b12,b13,b14,b15,b16,⟨b17,b18,b19,b20,b21⟩,b22,b23,b24,b25,b26⟩:=b
 simp only [Zdo,Bool.and_eq_true,beq_iff_eq,Zn.mk.injEq,Zru.mk.injEq]
 constructor
 ·rintro ⟨⟨⟨⟨⟨⟨⟨⟨⟨⟨⟨⟨⟨⟨⟨h1,h2⟩,h3⟩,h4⟩,h5⟩,⟨⟨h6,h7⟩,h8⟩⟩,⟨⟨h9,h10⟩,h11⟩⟩,⟨⟨⟨⟨⟨⟨h12,h13⟩,h14⟩,h15⟩,h16⟩,h17⟩,h18⟩⟩,h19⟩,h20⟩,h21⟩,h22⟩,h23⟩,h24⟩,h25⟩,h26⟩
  simp only [h1,h2,h3,h4,h5,h6,h7,h8,h9,h10,h11,h12,h13,h14,h15,h16,h17,h18,h19,h20,h21,h22,h23,h24,h25,h26,and_self]
 ·rintro ⟨h1,h2,h3,h4,h5,h6,h7,h8,h9,h10,h11,h12,h13,h14,h15,h16,⟨h17,h18,h19,h20,h21⟩,h22,h23,h24,h25,h26⟩
  simp only [h1,h2,h3,h4,h5,h6,h7,h8,h9,h10,h11,h12,h13,h14,h15,h16,h17,h18,h19,h20,h21,h22,h23,h24,h25,h26,and_self]
structure OkL (p:Zn):Prop where
 codes:p.codes.length≤9223372036854775807
 props:p.props.length≤9223372036854775807
 subs:p.subs.length≤9223372036854775807
 filters:p.filters.length≤9223372036854775807
 wprops:p.will.props.length≤9223372036854775807
theorem ZHy (a b:Zn) (h:OkL a):E 35 [ZW a,ZW b] []=some (.bool (Zdo a b),[]):=by
 have h1:=fun σ site own view=>ZK4 σ site own view a.codes b.codes h.codes
 have h2:=fun σ site own view=>Zyf σ site own view a.subs b.subs h.subs
 have h3:=fun σ site own view=>ZHX σ site own view a.filters b.filters h.filters
 have h4:=fun σ site own view=>ZjW σ site own view a.props b.props h.props
 have h5:=fun σ site own view=>ZjW σ site own view a.will.props b.will.props h.wprops
 rw [Zh (by rfl) ZD8]
 unfold ZW Zdo
 simp -implicitDefEqProofs only [EQA,Z2,Zc9,Zj9,Nat.reduceAdd,Nat.reduceLT,Nat.reduceEqDiff,Nat.reduceBEq,Zds,ZE,Zas,unG,ne_eq,Option.some.injEq,reduceCtorEq,decide_false,ZV,ite_self,↓reduceIte,ZMU,ZnH,ZET,oI,AVal.cells,h1,h2,h3,h4,h5]
theorem Zvt (σ:Za) (site own:Nat) (view:Bool) (a b:Zn) (h:OkL a):Zj E BY σ site 35 own view [ZW a,ZW b]=some (.bool (Zdo a b),σ,{}) :=
 Zb9 (ZHy a b h) (by kernel_rfl) rfl rfl rfl (fun _=>rfl) _ _ _ _
end Go.Proofs.YtmlkhhidifjjfaaDoor
namespace Go.Proofs.YtmlkhhidifjjfaaDoor
def ZlP:Ze:=(.seq (.region [oI 2 (.mov (.c (.lst true [])))] none [0]) (.seq (.region [oI 3 (.mov (.t 0)),oI 4 (.nilchk (.t 3)),oI 5 (.faddr 0 (.t 4)),oI 6 (.ld none (.t 5)),oI 7 (.mov (.t 0)),oI 8 (.nilchk (.t 7)),oI 9 (.faddr 1 (.t 8)),oI 10 (.ld none (.t 9)),oI 11 (.slice 1 (.t 6) (some (.t 10)) none none),oI 2 (.mov (.t 11))] (some [(3,7)]) [2]) .ret))
def Zqk:ZD:=⟨[(.tmp 2)],ZlP⟩
theorem ZvB:FC 80=some Zqk:=by kernel_rfl
theorem Zqv:Zqk.body=ZlP:=rfl
theorem ZsD:Zqk.res=[(.tmp 2)]:=rfl
end Go.Proofs.YtmlkhhidifjjfaaDoor
namespace Go.Proofs.YtmlkhhidifjjfaaDoor
set_option maxHeartbeats 16000000
set_option maxRecDepth 10000
theorem Zzb {σ:Za} {t g k n:Nat} {xs:List AVal} (hs:σ[t]?=some (.row g k xs)) (hn:n=xs.length):ZbP σ k (.sl t g 0 n) (some (.int .i64 0)) none none=some (.sl t g 0 n,σ,{ rd:=[t] }):=by
 subst hn
 have he:ZV σ (.sl t g 0 xs.length)=some ((xs.drop 0).take xs.length,[t]):=by simp [ZV,hs]
 simp [ZbP,he,hs,Zbl,Zd5]
theorem ZH3 (σ:Za) (k:Nat):ZbP σ k (.lst true []) (some (.int .i64 0)) none none=some (.lst true [],σ,{}):=by
 simp [ZbP,Zbl,Zd5]
theorem ZGo (l:Zb):E 80 [.ref 0 0] (wH 0 l)=some (.sl 1 0 0 l.length,wH 0 l):=by
 have h1:((l.map Zc).length)=l.length:=by simp
 rw [Zh (by rfl) ZvB]
 unfold wH wv
 have hS:=fun (σ:Za) (hs:σ[1]?=some (.row 0 1 (l.map Zc)))=>Zzb (n:=l.length) hs h1.symm
 simp -implicitDefEqProofs only [EQA,Nat.reduceAdd,Nat.reduceLT,Nat.reduceEqDiff,Nat.reduceBEq,reduceCtorEq,↓reduceIte,Zqv,ZlP,ZsD,oI,hS]
 simp [Zal,gcA,ZB,Zz,Zr,ZZ,ZM,Zm,Z0,Zp,ZR,Zv,Zf,Zk,ZF,List.range,List.range.loop]
theorem ZzT:E 80 [.ref 0 0] [.var wn]=some (.lst true [],[.var wn]):=by
 rw [Zh (by rfl) ZvB]
 unfold wn
 simp -implicitDefEqProofs only [EQA,Zs,Z2,Nat.reduceLT,Nat.reduceEqDiff,Nat.reduceBEq,reduceCtorEq,↓reduceIte,Zd,Zqv,ZlP,ZsD,oI,ZH3]
theorem Zxt (l:Zb):Zah true 2 (some (.sl 1 0 0 l.length,wH 0 l))=some (.lst false (l.map Zc),[.var (wv 1 0 l.length),.frow 0 1 (l.map Zc)]):=by
 have e1:(0:Nat)+l.length≤(l.map Zc).length:=by simp
 have e2:((l.map Zc).drop 0).take l.length=l.map Zc:=by
  rw [List.drop_zero,←List.length_map (f:=Zc),List.take_length]
 simp only [Zah,if_true,ZbH,viewR,ZN,ZK,ZV,wH,List.getElem?_cons_succ,List.getElem?_cons_zero,e1,e2,and_self,Zo,List.set_cons_succ,List.set_cons_zero]
 simp [gcA,ZB,Zr,ZZ,List.range,List.range.loop,ZM,wv,Zz,Zm,Z0,Zv,ZR,Zp,ZF,Zf,Zk]
theorem ZGS (l:Zb) {σ:Za} (t r g:Nat) {site:Nat} (htr:t≠r) (hs:σ[t]?=some (.var (wv r g l.length))) (hr:σ[r]?=some (.row g 1 (l.map Zc))) :
  Zj E1 BY σ site 80 0 true [.ref t 0]=some (.lst false (l.map Zc),(σ.set t (.var (wv r g l.length))).set r (.frow g 1 (l.map Zc)),{ any:=true,upd:=[(t,wv r g l.length)] }):=by
 refine ZbE ?_
 have hrf:Zr (wv r g l.length)=[r]:=rfl
 have htl:t < σ.length:=(List.getElem?_eq_some_iff.1 hs).1
 have hrl:r < σ.length:=(List.getElem?_eq_some_iff.1 hr).1
 have h1:σ.getD t .free=.var (wv r g l.length):=by simp [List.getD_eq_getElem?_getD,hs]
 have h2:σ.getD r .free=.row g 1 (l.map Zc):=by simp [List.getD_eq_getElem?_getD,hr]
 have hf0:Zo σ []=σ:=rfl
 have hsh:showAs σ [.ref t 0]=some ([.ref t 0],[]):=rfl
 have href:Zr [AVal.ref t 0]=[t]:=rfl
 have hup:Za8 ((σ.set t (.var (wv r g l.length))).set r (.frow g 1 (l.map Zc))) [t,r]=[(t,wv r g l.length)]:=by
  have e1:((σ.set t (.var (wv r g l.length))).set r (.frow g 1 (l.map Zc)))[t]?=some (.var (wv r g l.length)):=by
   rw [List.getElem?_set_ne (fun e=>htr e.symm),List.getElem?_set_self htl]
  have e2:((σ.set t (.var (wv r g l.length))).set r (.frow g 1 (l.map Zc)))[r]?=some (.frow g 1 (l.map Zc)):=by
   rw [List.getElem?_set_self (by simpa using hrl)]
  simp only [Za8,e1,e2]
 unfold Zj ZbM
 rw [show BY 80=false by kernel_rfl]
 simp only [Bool.false_eq_true,if_false,hsh,hf0,href,ZpA hs hr htr hrf]
 unfold Zbz
 have hall:([t,r].all fun t=>okB (σ.getD t .free))=true:=by simp only [List.all_cons,List.all_nil,h1,h2,okB,Bool.and_true]
 rw [if_pos hall]
 have hρt:Zm σ 0 [t,r] t 0=some (0,0):=by simp [Zm,Z0,hs,Zp,ZR]
 have hρr:Zm σ 0 [t,r] r g=some (1,0):=by simp [Zm,Z0,hr,Zp,ZR,htr]
 have hargs:Zf (Zm σ 0 [t,r]) [.ref t 0]=[.ref 0 0]:=by simp only [Zf,Zk,hρt]
 have hren:Zf (Zm σ 0 [t,r]) (wv r g l.length)=wv 1 0 l.length:=by simp only [wv,Zf,Zk,hρr]
 have hheap:Zv σ 0 [t,r] (Zm σ 0 [t,r]) [t,r] 0=wH 0 l:=by
  simp only [Zv,h1,h2,ZR,Zp,ZF,hren,wH]
  simp
 rw [hargs,hheap,ZGo l,show [t,r].length=2 from rfl,Zxt l]
 have hk:Za0 σ [t,r] [.var (wv 1 0 l.length),.frow 0 1 (l.map Zc)] 0=true:=by simp [Za0,okB,Zb7,Zp,hs,hr]
 have hff:Za1 σ site 0=true:=by simp [Za1]
 have hb3:Zf (Zax σ [t,r] site) (wv 1 0 l.length)=wv r g l.length:=by
  have : Zax σ [t,r] site 1 0=some (r,g):=by simp only [Zax,List.getElem?_cons_succ,List.getElem?_cons_zero,h2,Zp];rfl
  simp only [wv,Zf,Zk,this]
 simp only [ZaA,List.isEmpty_cons,Bool.false_eq_true,if_false,List.length_cons,List.length_nil,Nat.zero_add,Nat.reduceAdd,Nat.add_zero,Nat.le_refl,decide_true,hk,hff,Bool.and_self,if_true,Za6,ZaI,List.getD_cons_zero,List.getD_cons_succ,Zcg,List.getElem?_cons_zero,List.getElem?_cons_succ,h2,Zp,ZF,Zk,hb3,hup]
theorem ZBs {σ:Za} {t site:Nat} (hs:σ[t]?=some (.var wn)):Zj E1 BY σ site 80 0 true [.ref t 0]=some (.lst false [],σ,{ any:=true,upd:=[(t,wn)] }):=by
 refine ZbE ?_
 have htl:t < σ.length:=(List.getElem?_eq_some_iff.1 hs).1
 have h1:σ.getD t .free=.var wn:=by simp [List.getD_eq_getElem?_getD,hs]
 have hf0:Zo σ []=σ:=rfl
 have hsh:showAs σ [.ref t 0]=some ([.ref t 0],[]):=rfl
 have href:Zr [AVal.ref t 0]=[t]:=rfl
 have hre:Zz σ 1000 [t] []=[t]:=by
  have e1:([]:List Nat).contains t=false:=rfl
  rw [show (1000:Nat)=998+1+1 from rfl,Zz,e1]
  simp only [Bool.false_eq_true,if_false,h1,ZM]
  rfl
 unfold Zj ZbM
 rw [show BY 80=false by kernel_rfl]
 simp only [Bool.false_eq_true,if_false,hsh,hf0,href,hre]
 unfold Zbz
 have hall:([t].all fun t=>okB (σ.getD t .free))=true:=by simp only [List.all_cons,List.all_nil,h1,okB,Bool.and_true]
 rw [if_pos hall]
 have hρt:Zm σ 0 [t] t 0=some (0,0):=by simp [Zm,Z0,hs,Zp,ZR]
 have hargs:Zf (Zm σ 0 [t]) [.ref t 0]=[.ref 0 0]:=by simp only [Zf,Zk,hρt]
 have hheap:Zv σ 0 [t] (Zm σ 0 [t]) [t] 0=[.var wn]:=by
  simp only [Zv,h1,ZF]
  rfl
 rw [hargs,hheap,ZzT]
 have hv:Zah true 1 (some (.lst true [],[.var wn]))=some (.lst false [],[.var wn]):=rfl
 rw [show [t].length=1 from rfl,hv]
 have hk:Za0 σ [t] [.var wn] 0=true:=by simp [Za0,okB,Zb7,Zp,hs]
 have hset:σ.set t (.var wn)=σ:=by
  apply List.ext_getElem?
  intro i
  rw [List.getElem?_set]
  by_cases e:t=i
  ·subst e;rw [if_pos rfl,if_pos htl,hs]
  ·simp [e]
 have hup:Za8 σ [t]=[(t,wn)]:=by simp only [Za8,hs]
 have hff:Za1 σ site 0=true:=by simp [Za1]
 have hlay:Za6 σ [t] site [.var wn] 0 σ=σ:=by
  simp only [Za6,ZaI,ZF,List.getD_cons_zero]
  exact hset
 simp only [ZaA,List.isEmpty_cons,Bool.false_eq_true,if_false,hk,hff,hlay,hup,Zk,List.length_cons,List.length_nil,Nat.zero_add,Nat.add_zero,Nat.le_refl,decide_true,Bool.and_self,if_true]
theorem Zq8 (σ:Za) (site own:Nat) (f:Bool) (a:Zb) (h:a.length≤140737488355328):Zj E BY σ site 56 own true [.lst f [.lst false (a.map Zc)]]=some (.lst false (a.map Zc),σ,{}):=by
 have:=ZhI σ site own f a [] (by simp) (by simpa using h)
 simpa [ZH] using this
theorem ZEY {p:Zn} {l:Zb} (h:E1 78 [.ref 0 0,ZW p] [.var wn]=some (.tup [],wH 0 l)) {σ:Za} {t site:Nat} (hf:σ[site]?=some .free) (hs0:σ[t]?=some (.var wn)) :
  Zj E1 BY σ site 78 1 true [.ref t 0,.agg (Zt p)]=some (.tup [],(σ.set t (.var (wv site 0 l.length))).set site (.row 0 1 (l.map Zc)),{ any:=true,upd:=[(t,wv site 0 l.length)] }) :=
 ZgD (args:=[.agg (Zt p)]) rfl rfl h (by kernel_rfl) (by rw [List.all_cons,ZdH];rfl) (by rw [List.map_cons,ZdC];rfl) hf hs0
theorem ZMY {p:Zn} (h:E1 78 [.ref 0 0,ZW p] [.var wn]=some (.tup [],[.var wn])) {σ:Za} {t site:Nat} (hf:σ[site]?=some .free) (hs0:σ[t]?=some (.var wn)) :
  Zj E1 BY σ site 78 1 true [.ref t 0,.agg (Zt p)]=some (.tup [],σ,{ any:=true,upd:=[(t,wn)] }) :=
 Zrh (args:=[.agg (Zt p)]) h (by kernel_rfl) (by rw [List.all_cons,ZdH];rfl) (by rw [List.map_cons,ZdC];rfl) (ff1 hf) hs0
def orU (a b:Int):Int:=IntKind.u8.wrap (BitVec.ofInt IntKind.u8.bits a ||| BitVec.ofInt IntKind.u8.bits b).toNat
def ZgT (t:Int):Int:=orU (IntKind.u8.wrap (IntKind.i64.wrap (t*2 ^ min (Int.toNat 4) IntKind.i64.bits))) (Zdn t)
def ZmD (p:Zn):Int:=IntKind.u8.wrap (Z6 p.dup 8+Zw p.qos 3*2+Z6 p.retain 1)
def ZaR (p:Zn):Int:=if p.type=3 then orU (ZgT 3) (ZmD p) else ZgT p.type
theorem ZFZ (m:Nat) (h:m < 256):IntKind.u8.wrap (m:Int)=m:=by
 unfold IntKind.wrap IntKind.signed IntKind.bits
 simp
 omega
theorem Zsg (a b:Int):0≤orU a b∧orU a b < 256:=by
 have h:∀ x y:BitVec 8,(x ||| y).toNat < 256:=fun x y=>(x ||| y).isLt
 have h2:=h (BitVec.ofInt 8 a) (BitVec.ofInt 8 b)
 unfold orU
 rw [show IntKind.u8.bits=8 from rfl,ZFZ _ h2]
 omega
theorem ZoC (p:Zn):0≤ZaR p∧ZaR p < 256:=by
 unfold ZaR
 split
 ·exact Zsg _ _
 ·exact Zsg _ _
theorem Zvs (B:Zb):(ZaG (B.length:Nat)).2=0↔B.length≤268435455:=by
 unfold ZaG
 split
 ·simp only []
  constructor
  ·intro h;simp at h
  ·intro h;omega
 ·simp only [true_iff]
  omega
def Zey (first:Int) (B:Zb) (c:Int) (s:Bool):AVal :=
 if B.length≤268435455∧c=0∧s=true then .tup [.agg [.int .u8 first,.lst false (B.map Zc)],.int .i64 0] else .tup [.agg [.int .u8 0,.lst true []],.int .i64 129]
section
variable (p q:Zn) (c:Int)
theorem Zsy (B:Zb) (hb:E1 78 [.ref 0 0,ZW p] [.var wn]=some (.tup [],wH 0 B)) (hB:B.length≤140737488355328)
  (hr:∀ σ site own,Zj E1 BY σ site 32 own true [.agg [.int .u8 (ZaR p),.lst false (B.map Zc)]]=some (.tup [ZW q,.int .i64 c],σ,{})) (hq:OkL q) :
  E1 34 [ZW p] []=some (Zey (ZaR p) B c (Zdo q p),[]):=by
 have fb:=fun {σ:Za} {t site:Nat}=>ZEY hb (σ:=σ) (t:=t) (site:=site)
 have fB:=fun {σ:Za} {site:Nat}=>ZGS B 2 3 0 (by omega) (σ:=σ) (site:=site)
 have fj:=fun σ site own f=>ZbE (Zq8 σ site own f B hB)
 have ff:=fun σ site own=>ZbE (ZjF p.type σ site own)
 have fm:=fun b n σ site own=>Zh8 b n σ site own
 have fv:=fun σ site own=>ZbE (ZfG σ site own (B.length:Nat))
 have fs:=fun σ site own=>ZbE (Zvt σ site own true q p hq)
 have hn:(B.map Zc).length=B.length:=by simp
 unfold Zey
 generalize Zdo q p=s at *
 rw [Zbk] at *
 rw [Zbk] at *
 have e0:=ZbK p
 have e1:=Zci p
 have a0:(Zt p)[0]?=some (.int .i64 p.type):=rfl
 have a1:(Zt p)[1]?=some (.bool p.dup):=rfl
 have a2:(Zt p)[2]?=some (.int .i64 p.qos):=rfl
 have a3:(Zt p)[3]?=some (.bool p.retain):=rfl
 have d0:=ZbK q
 have d1:=Zci q
 have oq:(Zt q).all ZS=true:=rfl
 have m1:=ZdU p.dup 8 (by omega)
 have m2:=ZdU p.retain 1 (by omega)
 have m3:=ZhZ p.qos
 have w2:=Zcn (Zw p.qos 3*2) (by omega) (by omega)
 have w3:=Zcn (Z6 p.dup 8+Zw p.qos 3*2) (by omega) (by omega)
 have w4:=Zcn (Z6 p.dup 8+Zw p.qos 3*2+Z6 p.retain 1) (by omega) (by omega)
 clear m1 m2 m3
 unfold ZaR at hr ⊢
 have hv:=Zvs B
 unfold ZeD at fv
 generalize (ZaG (B.length:Nat)).1=V at *
 generalize (ZaG (B.length:Nat)).2=v at *
 by_cases h3:p.type=3
 ·rw [if_pos h3] at hr ⊢
  rw [h3] at ff a0
  unfold ZgT ZmD orU Zw at *
  clear h3
  generalize Zt p=P at *
  generalize Zt q=Q at *
  generalize p.dup=pd at *
  generalize p.qos=pq at *
  generalize p.retain=pr at *
  unfold wn at *
  rw [Zbe (by rfl) Zk9]
  by_cases v0:v=0
  ·have hL:=hv.1 v0
   subst v0
   by_cases c0:c=0
   ·subst c0
    cases s
    ·rw [if_neg (by simp)]
     simp -implicitDefEqProofs only [EQA,Za3,Zs,Nat.reduceAdd,Nat.reduceLT,Nat.reduceLeDiff,Nat.reduceEqDiff,Nat.reduceBEq,ZaC,unA,ZE,unG,ne_eq,Option.some.injEq,decide_true,decide_false,↓reduceIte,Zd,List.contains_cons,Zcz,Zcd,Zcw,oI,oN,AVal.cells,a0,a1,a2,a3,e0,e1,d0,d1,oq,Zam,fb,fB,fj,ff,fm,fv,fs,hr,hn,w2,w3,w4,Int.reduceLT,viewAs,ZN,ZK,Zo,List.foldl_cons,List.foldl_nil,Zab,Zaf,Zae,Zan,Zao,Zag,List.lookup_cons,List.lookup_nil,bne_self_eq_false]
    ·rw [if_pos ⟨hL,rfl,rfl⟩]
     simp -implicitDefEqProofs only [EQA,Za3,Zs,Nat.reduceAdd,Nat.reduceLT,Nat.reduceLeDiff,Nat.reduceEqDiff,Nat.reduceBEq,ZaC,unA,ZE,unG,ne_eq,Option.some.injEq,decide_true,decide_false,↓reduceIte,Zd,List.contains_cons,Zcz,Zcd,Zcw,oI,oN,AVal.cells,a0,a1,a2,a3,e0,e1,d0,d1,oq,Zam,fb,fB,fj,ff,fm,fv,fs,hr,hn,w2,w3,w4,Int.reduceLT,viewAs,ZN,ZK,Zo,List.foldl_cons,List.foldl_nil,Zab,Zaf,Zae,Zan,Zao,Zag,List.lookup_cons,List.lookup_nil,bne_self_eq_false]
   ·have c1:(c != 0)=true:=by simpa using c0
    rw [if_neg (fun h=>c0 h.2.1)]
    simp -implicitDefEqProofs only [EQA,Za3,Zs,Nat.reduceAdd,Nat.reduceLT,Nat.reduceLeDiff,Nat.reduceEqDiff,Nat.reduceBEq,ZaC,ZE,Zas,unG,ne_eq,Option.some.injEq,reduceCtorEq,decide_true,decide_false,↓reduceIte,Zd,List.contains_cons,Zcz,Zcd,Zcw,oI,oN,AVal.cells,a0,a1,a2,a3,e0,e1,d0,oq,Zam,fb,fB,fj,ff,fm,fv,hr,hn,w2,w3,w4,c1,Int.reduceLT,viewAs,ZN,ZK,Zo,List.foldl_cons,List.foldl_nil,Zab,Zaf,Zae,Zan,Zao,Zag,List.lookup_cons,List.lookup_nil,bne_self_eq_false]
  ·have v1:(v != 0)=true:=by simpa using v0
   rw [if_neg (fun h=>v0 (hv.2 h.1))]
   simp -implicitDefEqProofs only [EQA,Za3,Zs,Nat.reduceAdd,Nat.reduceLT,Nat.reduceLeDiff,Nat.reduceEqDiff,Nat.reduceBEq,ZaC,ZE,Zas,ne_eq,Option.some.injEq,reduceCtorEq,decide_true,decide_false,↓reduceIte,Zd,List.contains_cons,Zcz,Zcd,Zcw,oI,oN,AVal.cells,a0,a1,a2,a3,e0,e1,d0,oq,Zam,fb,fB,fj,ff,fm,fv,hr,hn,w2,w3,w4,v1,Int.reduceLT,viewAs,ZN,ZK,Zo,List.foldl_cons,List.foldl_nil,Zab,Zaf,Zae,Zan,Zao,Zag,List.lookup_cons,List.lookup_nil]
 ·rw [if_neg h3] at hr ⊢
  have h3b:(p.type == 3)=false:=by simpa using h3
  unfold ZgT orU at *
  clear h3
  generalize Zt p=P at *
  generalize Zt q=Q at *
  generalize p.dup=pd at *
  generalize p.qos=pq at *
  generalize p.retain=pr at *
  generalize p.type=ty at *
  unfold wn at *
  rw [Zbe (by rfl) Zk9]
  by_cases v0:v=0
  ·have hL:=hv.1 v0
   subst v0
   by_cases c0:c=0
   ·subst c0
    cases s
    ·rw [if_neg (by simp)]
     simp -implicitDefEqProofs only [EQA,Za3,Zs,Nat.reduceAdd,Nat.reduceLT,Nat.reduceLeDiff,Nat.reduceEqDiff,Nat.reduceBEq,ZaC,unA,ZE,unG,ne_eq,Option.some.injEq,decide_true,decide_false,↓reduceIte,Zd,List.contains_cons,Zcz,Zcd,Zcw,oI,oN,AVal.cells,a0,e0,e1,d0,d1,oq,Zam,fb,fB,fj,ff,fv,fs,hr,hn,h3b,Int.reduceLT,viewAs,ZN,ZK,Zo,List.foldl_cons,List.foldl_nil,Zab,Zaf,Zae,Zan,Zao,Zag,List.lookup_cons,List.lookup_nil,bne_self_eq_false]
    ·rw [if_pos ⟨hL,rfl,rfl⟩]
     simp -implicitDefEqProofs only [EQA,Za3,Zs,Nat.reduceAdd,Nat.reduceLT,Nat.reduceLeDiff,Nat.reduceEqDiff,Nat.reduceBEq,ZaC,unA,ZE,unG,ne_eq,Option.some.injEq,decide_true,decide_false,↓reduceIte,Zd,List.contains_cons,Zcz,Zcd,Zcw,oI,oN,AVal.cells,a0,e0,e1,d0,d1,oq,Zam,fb,fB,fj,ff,fv,fs,hr,hn,h3b,Int.reduceLT,viewAs,ZN,ZK,Zo,List.foldl_cons,List.foldl_nil,Zab,Zaf,Zae,Zan,Zao,Zag,List.lookup_cons,List.lookup_nil,bne_self_eq_false]
   ·have c1:(c != 0)=true:=by simpa using c0
    rw [if_neg (fun h=>c0 h.2.1)]
    simp -implicitDefEqProofs only [EQA,Za3,Zs,Nat.reduceAdd,Nat.reduceLT,Nat.reduceLeDiff,Nat.reduceEqDiff,Nat.reduceBEq,ZaC,ZE,Zas,unG,ne_eq,Option.some.injEq,reduceCtorEq,decide_true,decide_false,↓reduceIte,Zd,List.contains_cons,Zcz,Zcd,Zcw,oI,oN,AVal.cells,a0,e0,e1,d0,oq,Zam,fb,fB,fj,ff,fv,hr,hn,h3b,c1,Int.reduceLT,viewAs,ZN,ZK,Zo,List.foldl_cons,List.foldl_nil,Zab,Zaf,Zae,Zan,Zao,Zag,List.lookup_cons,List.lookup_nil,bne_self_eq_false]
  ·have v1:(v != 0)=true:=by simpa using v0
   rw [if_neg (fun h=>v0 (hv.2 h.1))]
   simp -implicitDefEqProofs only [EQA,Za3,Zs,Nat.reduceAdd,Nat.reduceLT,Nat.reduceLeDiff,Nat.reduceEqDiff,Nat.reduceBEq,ZaC,ZE,Zas,ne_eq,Option.some.injEq,reduceCtorEq,decide_true,decide_false,↓reduceIte,Zd,List.contains_cons,Zcz,Zcd,Zcw,oI,oN,AVal.cells,a0,e0,e1,d0,oq,Zam,fb,fB,fj,ff,fv,hr,hn,h3b,v1,Int.reduceLT,viewAs,ZN,ZK,Zo,List.foldl_cons,List.foldl_nil,Zab,Zaf,Zae,Zan,Zao,Zag,List.lookup_cons,List.lookup_nil]
theorem ZzC (hb:E1 78 [.ref 0 0,ZW p] [.var wn]=some (.tup [],[.var wn]))
  (hr:∀ σ site own,Zj E1 BY σ site 32 own true [.agg [.int .u8 (ZaR p),.lst false (([]:Zb).map Zc)]]=some (.tup [ZW q,.int .i64 c],σ,{})) (hq:OkL q) :
  E1 34 [ZW p] []=some (Zey (ZaR p) [] c (Zdo q p),[]):=by
 have fb:=fun {σ:Za} {t site:Nat}=>ZMY hb (σ:=σ) (t:=t) (site:=site)
 have fB:=fun {σ:Za} {site:Nat}=>ZBs (σ:=σ) (t:=2) (site:=site)
 have fj:=fun σ site own f=>ZbE (Zq8 σ site own f [] (by decide))
 have ff:=fun σ site own=>ZbE (ZjF p.type σ site own)
 have fm:=fun b n σ site own=>Zh8 b n σ site own
 have fv:=fun σ site own=>ZbE (ZfG σ site own (([]:Zb).length:Nat))
 have fs:=fun σ site own=>ZbE (Zvt σ site own true q p hq)
 have hn:(([]:Zb).map Zc).length=([]:Zb).length:=by simp
 unfold Zey
 generalize Zdo q p=s at *
 rw [Zbk] at *
 rw [Zbk] at *
 have e0:=ZbK p
 have e1:=Zci p
 have a0:(Zt p)[0]?=some (.int .i64 p.type):=rfl
 have a1:(Zt p)[1]?=some (.bool p.dup):=rfl
 have a2:(Zt p)[2]?=some (.int .i64 p.qos):=rfl
 have a3:(Zt p)[3]?=some (.bool p.retain):=rfl
 have d0:=ZbK q
 have d1:=Zci q
 have oq:(Zt q).all ZS=true:=rfl
 have m1:=ZdU p.dup 8 (by omega)
 have m2:=ZdU p.retain 1 (by omega)
 have m3:=ZhZ p.qos
 have w2:=Zcn (Zw p.qos 3*2) (by omega) (by omega)
 have w3:=Zcn (Z6 p.dup 8+Zw p.qos 3*2) (by omega) (by omega)
 have w4:=Zcn (Z6 p.dup 8+Zw p.qos 3*2+Z6 p.retain 1) (by omega) (by omega)
 clear m1 m2 m3
 unfold ZaR at hr ⊢
 have hv:=Zvs []
 unfold ZeD at fv
 generalize (ZaG (([]:Zb).length:Nat)).1=V at *
 generalize (ZaG (([]:Zb).length:Nat)).2=v at *
 simp only [List.map_nil,List.length_nil] at fj hr fv hn hv
 by_cases h3:p.type=3
 ·rw [if_pos h3] at hr ⊢
  rw [h3] at ff a0
  unfold ZgT ZmD orU Zw at *
  clear h3
  generalize Zt p=P at *
  generalize Zt q=Q at *
  generalize p.dup=pd at *
  generalize p.qos=pq at *
  generalize p.retain=pr at *
  unfold wn at *
  rw [Zbe (by rfl) Zk9]
  by_cases v0:v=0
  ·have hL:=hv.1 v0
   subst v0
   by_cases c0:c=0
   ·subst c0
    cases s
    ·rw [if_neg (by simp)]
     simp -implicitDefEqProofs only [EQA,Za3,Zs,Nat.reduceAdd,Nat.reduceLT,Nat.reduceLeDiff,Nat.reduceEqDiff,Nat.reduceBEq,ZaC,unA,ZE,unG,ne_eq,Option.some.injEq,decide_true,decide_false,↓reduceIte,Zd,List.contains_cons,Zcz,Zcd,Zcw,oI,oN,AVal.cells,a0,a1,a2,a3,e0,e1,d0,d1,oq,Zam,fb,fB,fj,ff,fm,fv,fs,hr,w2,w3,w4,Int.reduceLT,viewAs,ZN,ZK,Zo,List.foldl_cons,List.foldl_nil,Zab,Zaf,Zae,Zan,Zao,Zag,List.lookup_cons,List.lookup_nil,bne_self_eq_false]
    ·rw [if_pos ⟨by decide,rfl,rfl⟩]
     simp -implicitDefEqProofs only [EQA,Za3,Zs,Nat.reduceAdd,Nat.reduceLT,Nat.reduceLeDiff,Nat.reduceEqDiff,Nat.reduceBEq,ZaC,unA,ZE,unG,ne_eq,Option.some.injEq,decide_true,decide_false,↓reduceIte,Zd,List.contains_cons,Zcz,Zcd,Zcw,oI,oN,AVal.cells,a0,a1,a2,a3,e0,e1,d0,d1,oq,Zam,fb,fB,fj,ff,fm,fv,fs,hr,w2,w3,w4,Int.reduceLT,viewAs,ZN,ZK,Zo,List.foldl_cons,List.foldl_nil,Zab,Zaf,Zae,Zan,Zao,Zag,List.lookup_cons,List.lookup_nil,bne_self_eq_false]
   ·have c1:(c != 0)=true:=by simpa using c0
    rw [if_neg (fun h=>c0 h.2.1)]
    simp -implicitDefEqProofs only [EQA,Za3,Zs,Nat.reduceAdd,Nat.reduceLT,Nat.reduceLeDiff,Nat.reduceEqDiff,Nat.reduceBEq,ZaC,ZE,Zas,unG,ne_eq,Option.some.injEq,reduceCtorEq,decide_true,decide_false,↓reduceIte,Zd,List.contains_cons,Zcz,Zcd,Zcw,oI,oN,AVal.cells,a0,a1,a2,a3,e0,e1,d0,oq,Zam,fb,fB,fj,ff,fm,fv,hr,w2,w3,w4,c1,Int.reduceLT,viewAs,ZN,ZK,Zo,List.foldl_cons,List.foldl_nil,Zab,Zaf,Zae,Zan,Zao,Zag,List.lookup_cons,List.lookup_nil,bne_self_eq_false]
  ·have v1:(v != 0)=true:=by simpa using v0
   rw [if_neg (fun h=>v0 (hv.2 (by decide)))]
   simp -implicitDefEqProofs only [EQA,Za3,Zs,Nat.reduceAdd,Nat.reduceLT,Nat.reduceLeDiff,Nat.reduceEqDiff,Nat.reduceBEq,ZaC,ZE,Zas,ne_eq,Option.some.injEq,reduceCtorEq,decide_true,decide_false,↓reduceIte,Zd,List.contains_cons,Zcz,Zcd,Zcw,oI,oN,AVal.cells,a0,a1,a2,a3,e0,e1,d0,oq,Zam,fb,fB,fj,ff,fm,fv,hr,w2,w3,w4,v1,Int.reduceLT,viewAs,ZN,ZK,Zo,List.foldl_cons,List.foldl_nil,Zab,Zaf,Zae,Zan,Zao,Zag,List.lookup_cons,List.lookup_nil]
 ·rw [if_neg h3] at hr ⊢
  have h3b:(p.type == 3)=false:=by simpa using h3
  unfold ZgT orU at *
  clear h3
  generalize Zt p=P at *
  generalize Zt q=Q at *
  generalize p.dup=pd at *
  generalize p.qos=pq at *
  generalize p.retain=pr at *
  generalize p.type=ty at *
  unfold wn at *
  rw [Zbe (by rfl) Zk9]
  by_cases v0:v=0
  ·have hL:=hv.1 v0
   subst v0
   by_cases c0:c=0
   ·subst c0
    cases s
    ·rw [if_neg (by simp)]
     simp -implicitDefEqProofs only [EQA,Za3,Zs,Nat.reduceAdd,Nat.reduceLT,Nat.reduceLeDiff,Nat.reduceEqDiff,Nat.reduceBEq,ZaC,unA,ZE,unG,ne_eq,Option.some.injEq,decide_true,decide_false,↓reduceIte,Zd,List.contains_cons,Zcz,Zcd,Zcw,oI,oN,AVal.cells,a0,e0,e1,d0,d1,oq,Zam,fb,fB,fj,ff,fv,fs,hr,h3b,Int.reduceLT,viewAs,ZN,ZK,Zo,List.foldl_cons,List.foldl_nil,Zab,Zaf,Zae,Zan,Zao,Zag,List.lookup_cons,List.lookup_nil,bne_self_eq_false]
    ·rw [if_pos ⟨by decide,rfl,rfl⟩]
     simp -implicitDefEqProofs only [EQA,Za3,Zs,Nat.reduceAdd,Nat.reduceLT,Nat.reduceLeDiff,Nat.reduceEqDiff,Nat.reduceBEq,ZaC,unA,ZE,unG,ne_eq,Option.some.injEq,decide_true,decide_false,↓reduceIte,Zd,List.contains_cons,Zcz,Zcd,Zcw,oI,oN,AVal.cells,a0,e0,e1,d0,d1,oq,Zam,fb,fB,fj,ff,fv,fs,hr,h3b,Int.reduceLT,viewAs,ZN,ZK,Zo,List.foldl_cons,List.foldl_nil,Zab,Zaf,Zae,Zan,Zao,Zag,List.lookup_cons,List.lookup_nil,bne_self_eq_false]
   ·have c1:(c != 0)=true:=by simpa using c0
    rw [if_neg (fun h=>c0 h.2.1)]
    simp -implicitDefEqProofs only [EQA,Za3,Zs,Nat.reduceAdd,Nat.reduceLT,Nat.reduceLeDiff,Nat.reduceEqDiff,Nat.reduceBEq,ZaC,ZE,Zas,unG,ne_eq,Option.some.injEq,reduceCtorEq,decide_true,decide_false,↓reduceIte,Zd,List.contains_cons,Zcz,Zcd,Zcw,oI,oN,AVal.cells,a0,e0,e1,d0,oq,Zam,fb,fB,fj,ff,fv,hr,h3b,c1,Int.reduceLT,viewAs,ZN,ZK,Zo,List.foldl_cons,List.foldl_nil,Zab,Zaf,Zae,Zan,Zao,Zag,List.lookup_cons,List.lookup_nil,bne_self_eq_false]
  ·have v1:(v != 0)=true:=by simpa using v0
   rw [if_neg (fun h=>v0 (hv.2 (by decide)))]
   simp -implicitDefEqProofs only [EQA,Za3,Zs,Nat.reduceAdd,Nat.reduceLT,Nat.reduceLeDiff,Nat.reduceEqDiff,Nat.reduceBEq,ZaC,ZE,Zas,ne_eq,Option.some.injEq,reduceCtorEq,decide_true,decide_false,↓reduceIte,Zd,List.contains_cons,Zcz,Zcd,Zcw,oI,oN,AVal.cells,a0,e0,e1,d0,oq,Zam,fb,fB,fj,ff,fv,hr,h3b,v1,Int.reduceLT,viewAs,ZN,ZK,Zo,List.foldl_cons,List.foldl_nil,Zab,Zaf,Zae,Zan,Zao,Zag,List.lookup_cons,List.lookup_nil]
end
end Go.Proofs.YtmlkhhidifjjfaaDoor
namespace Go.Proofs.YtmlkhhidifjjfaaDoor
set_option maxHeartbeats 16000000
set_option maxRecDepth 10000
def Zik (x:UInt8) (B:Zb):AVal:=.tup [.agg [Zc x,.lst false (B.map Zc)],.int .i64 0]
def ZmK:AVal:=.tup [.agg [.int .u8 0,.lst false []],.int .i64 129]
theorem ZtF {args:List AVal} {p:Zn} {x:UInt8} {B:Zb} (h:E1 34 [ZW p] []=some (Zey x.toNat B 0 true,[])) (hB:B.length≤268435455) (hp:args.all Z9=true) (hn:args.map ZG=[ZW p]) (σ:Za) (site own:Nat) :
  Zj E1 BY σ site 34 own true args=some (Zik x B,σ,{}):=by
 unfold Zey at h
 rw [if_pos ⟨hB,rfl,rfl⟩] at h
 exact Zbv h (by kernel_rfl) hp hn rfl (fun _=>rfl) σ site own
theorem ZEE {args:List AVal} {p:Zn} {x c:Int} {B:Zb} {s:Bool} (h:E1 34 [ZW p] []=some (Zey x B c s,[])) (hB:¬(B.length≤268435455∧c=0∧s=true)) (hp:args.all Z9=true) (hn:args.map ZG=[ZW p]) (σ:Za) (site own:Nat) :
  Zj E1 BY σ site 34 own true args=some (ZmK,σ,{}):=by
 unfold Zey at h
 rw [if_neg hB] at h
 exact Zbv h (by kernel_rfl) hp hn rfl (fun _=>rfl) σ site own
def Zg4 (x:UInt8) (B:Zb):Zb:=x::((ZaG B.length).1++B)
theorem ZOB (σ:Za) (site own:Nat) (f:Bool) (x:UInt8) (b c:Zb) (h:1+b.length+c.length≤140737488355328):Zj E BY σ site 56 own true [.lst f [.lst false [Zc x],.lst false (b.map Zc),.lst false (c.map Zc)]]=some (.lst false ((x::(b++c)).map Zc),σ,{}):=by
 have:=ZhI σ site own f [x] [b,c] (by simp) (by simp;omega)
 simpa only [List.map_cons,List.map_nil,ZH,List.flatten_cons,List.flatten_nil,List.append_nil,List.cons_append,List.nil_append] using this
theorem ZOh (p:Zn) (x:UInt8) (B:Zb) (hB:B.length≤268435455) (hF:∀ σ site own,Zj E1 BY σ site 34 own true [.agg (Zt p)]=some (Zik x B,σ,{})) :
  E1 40 [ZW p] []=some (.tup [.lst false ((Zg4 x B).map Zc),.int .i64 0],[]):=by
 have hv:=ZgL (B.length:Nat)
 have fv:=fun σ site own=>ZbE (ZfG σ site own (B.length:Nat))
 have fj:=fun σ site own f=>ZbE (ZOB σ site own f x (ZaG (B.length:Nat)).1 B (by omega))
 have hn:(B.map Zc).length=B.length:=by simp
 rw [Zbk]
 have e0:=ZbK p
 have e1:=Zci p
 unfold Zg4
 unfold ZeD at fv
 unfold Zik at hF
 generalize (ZaG (B.length:Nat)).1=V at *
 generalize (ZaG (B.length:Nat)).2=c at *
 generalize Zt p=P at *
 generalize (x::(V++B)).map Zc=R at *
 generalize hBB:B.map Zc=BB at *
 have bx:Zc x=.int .u8 (x.toNat:Nat):=rfl
 simp only [bx] at fj hF
 rw [Zbe (by rfl) ZH5]
 simp -implicitDefEqProofs only [EQA,Zs,Nat.reduceAdd,Nat.reduceLT,Nat.reduceLeDiff,Nat.reduceEqDiff,Nat.reduceBEq,decide_true,↓reduceIte,Zd,ZEt,Zod,ZEg,oI,oN,AVal.cells,e0,e1,hF,fv,fj,hn,bne_self_eq_false,viewAs,ZN,ZK,Zo,List.foldl_cons,List.foldl_nil]
end Go.Proofs.YtmlkhhidifjjfaaDoor
namespace Go.Proofs.YtmlkhhidifjjfaaDoor
set_option maxHeartbeats 8000000
set_option maxRecDepth 10000
def Zje (p:Zn):Option Zb :=
 if p.type=1 then some (ZeG p) else if p.type=2 then some (Zkc p) else if p.type=3 then some (Zjo p)
 else if p.type=4∨p.type=5∨p.type=6∨p.type=7 then some (beB (ZP p.id) 2++ZbL p)
 else if p.type=8 then some (ZbT p++ZdW p.subs) else if p.type=10 then some (ZbT p++Zea p.filters)
 else if p.type=9∨p.type=11 then some (ZbT p++Zd6 p.codes)
 else if p.type=14∨p.type=15 then Zdh p else none
def ZaF (p:Zn):Zb:=(Zje p).getD []
theorem ZNQ (p:Zn) (h:OkW p):E1 78 [.ref 0 0,ZW p] [.var wn]=some (.tup [],wO (Zje p)):=by
 unfold Zje
 by_cases h1:p.type=1
 ·rw [if_pos h1];exact ZvO p h h1
 rw [if_neg h1]
 by_cases h2:p.type=2
 ·rw [if_pos h2];exact ZFw p h h2
 rw [if_neg h2]
 by_cases h3:p.type=3
 ·rw [if_pos h3];exact ZKb p h h3
 rw [if_neg h3]
 by_cases h4:p.type=4∨p.type=5∨p.type=6∨p.type=7
 ·rw [if_pos h4];exact Zt9 p h h4
 rw [if_neg h4]
 by_cases h8:p.type=8
 ·rw [if_pos h8];exact Zws p h h8
 rw [if_neg h8]
 by_cases h10:p.type=10
 ·rw [if_pos h10];exact ZI1 p h h10
 rw [if_neg h10]
 by_cases h9:p.type=9∨p.type=11
 ·rw [if_pos h9];exact ZL2 p h h9
 rw [if_neg h9]
 by_cases h14:p.type=14∨p.type=15
 ·rw [if_pos h14];exact ZDx p h h14
 rw [if_neg h14]
 exact ZBN p (by omega)
theorem ZDi (p:Zn):(ZbL p).length≤300000000:=by
 have h1:=Zbg 1 (ZP p.code)
 have h2:=Zdj p.type p.props
 unfold ZbL
 repeat' split
 all_goals simp only [List.length_append,List.length_nil]
 all_goals omega
theorem ZDd (p:Zn) (h:OkW p) (hp:p.payload.length≤1000000):(ZaF p).length≤1000000000000:=by
 have a1:=ZK7 p h
 have a2:=ZDi p
 have a3:=Zbg 2 (ZP p.id)
 have a4:=Zbg 1 (ZP p.code)
 have a5:=Zbg 1 (ZP (Z6 p.present 1))
 have a6:=Zdj 2 p.props
 have a7:=Zdj 3 p.props
 have a8:=ZcG p.topic
 have a9:=Zkp p h
 have b1:=Zwr p.subs
 have b2:=ZHZ p.filters
 have b3:=ZMS p.codes
 have c1:=h.subs.1
 have c2:=h.filters.1
 have c3:=h.codes
 have a10:(Zka p).length≤70000:=by
  unfold Zka
  split
  ·rw [List.length_append];omega
  ·omega
 have a11:((Zdh p).getD []).length≤300000000:=by
  unfold Zdh
  split
  ·simpa using a2
  ·simp
 unfold ZaF Zje
 generalize Zdh p=ro at *
 repeat' split
 all_goals try simp only [Option.getD_some,Option.getD_none,List.length_append,List.length_nil,Zkc,Zjo]
 all_goals omega
theorem Zgy {w:Int} {b:Zb} {l:List Zu} {r:Zb} (h:Zbs w b=.ok (l,r)):l.length≤268435455:=by
 unfold Zbs at h
 split at h
 ·injection h with h
  injection h with h1 h2
  rw [←h1];exact ZM3 w b
 ·cases h
theorem Zr6 {α:Type} {one:Zb→RK α}:∀ {n:Nat} {l:Zb} {ts:List α},ZaE one n l=.ok ts→ts.length≤n
 | 0,l,ts,h=>by
  unfold ZaE at h
  split at h
  ·injection h with h;subst h;simp
  ·cases h
 | n+1,l,ts,h=>by
  unfold ZaE at h
  split at h
  ·injection h with h;subst h;simp
  ·split at h
   ·cases h
   ·split at h
    ·cases h
    ·rename_i t ht
     injection h with h;subst h
     have:=Zr6 ht
     simp;omega
theorem Zol {α:Type} {one:Zb→RK α} {k:Int} {l:Zb} {n:Int} {ps:List Zu} {ts:List α} (h:Zbw one k l=.ok (n,ps,ts)):ps.length≤268435455∧ts.length≤l.length:=by
 unfold Zbw at h
 split at h
 ·cases h
 rename_i n' ps' r hm
 have l1:=Zja hm
 split at h
 ·cases h
 rename_i us hu
 injection h with h;injection h with e1 h;injection h with e2 e3;subst e1 e2 e3
 have:=Zr6 hu
 refine ⟨?_,by omega⟩
 unfold Zc3 at hm
 split at hm
 ·cases hm
 split at hm
 ·cases hm
 rename_i hp
 split at hm
 ·cases hm
 injection hm with hm;injection hm with _ hm;injection hm with e _;subst e
 exact Zgy hp
theorem ZCY {k:Int} {l:Zb} {c:Int} {ps:Option (List Zu)} {r:Zb} (h:Zck k l=.ok ((c,ps),r)):(ps.getD []).length≤268435455:=by
 unfold Zck at h
 split at h
 ·injection h with h;injection h with h _;injection h with _ h;subst h;simp
 split at h
 ·cases h
 split at h
 ·injection h with h;injection h with h _;injection h with _ h;subst h;simp
 split at h
 ·cases h
 rename_i hp
 injection h with h;injection h with h _;injection h with _ h;subst h
 exact Zgy hp
theorem ZcE:OkL Zai:=⟨by simp [Zai],by simp [Zai],by simp [Zai],by simp [Zai],by simp [Zai]⟩
theorem ZqI {q q':Zn} {l r:Zb} (h:OkL q) (e:ZdP q l=.ok (q',r)):OkL q':=by
 unfold ZdP at e
 split at e
 ·cases e
 rename_i c ps r' hr
 injection e with e;injection e with e _;subst e
 have:=ZCY hr
 exact ⟨h.codes,by simp only;omega,h.subs,h.filters,h.wprops⟩
theorem ZFB {q q':Zn} {l r:Zb} (h:OkL q) (e:idQ q l=.ok (q',r)):OkL q':=by
 unfold idQ at e
 split at e
 ·cases e
 rename_i n r1 _
 exact ZqI (q:={ q with id:=n }) ⟨h.codes,h.props,h.subs,h.filters,h.wprops⟩ e
theorem ZL0 {q q':Zn} {l r:Zb} (h:OkL q) (e:ZdF q l=.ok (q',r)):OkL q':=by
 unfold ZdF at e
 split at e
 ·cases e
 split at e
 case isFalse=>cases e
 split at e
 ·cases e
 split at e
 ·cases e
 rename_i hp
 injection e with e;injection e with e _;subst e
 have:=Zgy hp
 exact ⟨h.codes,by simp only;omega,h.subs,h.filters,h.wprops⟩
theorem Zyu {b:Bool} {q q':Zn} {l r:Zb} (h:OkL q) (e:Zdx b q l=.ok (q',r)):OkL q':=by
 unfold Zdx at e
 split at e
 ·split at e
  ·cases e
  ·injection e with e;injection e with e _;subst e;exact ⟨h.codes,h.props,h.subs,h.filters,h.wprops⟩
 ·injection e with e;injection e with e _;subst e;exact h
theorem ZwJ {b:Bool} {q q':Zn} {l r:Zb} (h:OkL q) (e:Zde b q l=.ok (q',r)):OkL q':=by
 unfold Zde at e
 split at e
 ·split at e
  ·cases e
  ·injection e with e;injection e with e _;subst e;exact ⟨h.codes,h.props,h.subs,h.filters,h.wprops⟩
 ·injection e with e;injection e with e _;subst e;exact h
theorem ZBM {b:Bool} {q q':Zn} {l r:Zb} (h:OkL q) (e:Zdk b q l=.ok (q',r)):OkL q':=by
 unfold Zdk at e
 split at e
 ·split at e
  ·cases e
  ·rename_i ps tp d r' hw
   injection e with e;injection e with e _;subst e
   refine ⟨h.codes,h.props,h.subs,h.filters,?_⟩
   unfold ZcM at hw
   split at hw
   ·cases hw
   rename_i hp
   split at hw
   ·cases hw
   split at hw
   ·cases hw
   injection hw with hw;injection hw with e1 _;subst e1
   have:=Zgy hp
   simp only;omega
 ·injection e with e;injection e with e _;subst e;exact h
theorem ZOx {q:Zn} (h:OkL q) (m k:Int) {ps:List Zu} (cl:Zb) (hp:ps.length≤268435455):OkL (headD (ZoM q m) k ps cl):=⟨h.codes,Nat.le_trans hp (by decide),h.subs,h.filters,h.wprops⟩
theorem Zxa {q q':Zn} {l r:Zb} (h:OkL q) (e:ZcT q l=.ok (q',r)):OkL q':=by
 unfold ZcT at e
 split at e
 ·cases e
 split at e
 case isFalse=>cases e
 split at e
 ·cases e
 split at e
 case isFalse=>cases e
 split at e
 ·cases e
 split at e
 case isFalse=>cases e
 unfold Zfh at e
 split at e
 ·cases e
 split at e
 ·cases e
 rename_i hp
 split at e
 ·cases e
 unfold ZfC at e
 split at e
 ·cases e
 rename_i hw
 split at e
 ·cases e
 rename_i hu
 exact Zyu (ZwJ (ZBM (ZOx h _ _ _ (Zgy hp)) hw) hu) e
theorem ZiR {x:Except Int (Zn×Zb)} (h:∀ q r,x=.ok (q,r)→OkL q) {q:Zn} (e:ZbN x=.ok q):OkL q:=by
 unfold ZbN at e
 split at e
 ·cases e
 rename_i q' r'
 split at e
 ·injection e with e;subst e;exact h _ _ rfl
 ·cases e
theorem ZL6 {t:Int} {l:Zb} (hl:l.length≤9223372036854775807) {q:Zn} (e:Zcs t l=.ok q):OkL q:=by
 have h0:∀ k:Int,OkL { Zai with type:=k }:=fun k=>⟨ZcE.codes,ZcE.props,ZcE.subs,ZcE.filters,ZcE.wprops⟩
 unfold Zcs at e
 split at e
 ·exact ZiR (fun _ _ h=>Zxa (h0 1) h) e
 split at e
 ·exact ZiR (fun _ _ h=>ZL0 (h0 2) h) e
 split at e
 ·exact ZiR (fun _ _ h=>ZFB (h0 t) h) e
 split at e
 ·unfold ZgY at e
  split at e
  ·cases e
  rename_i hm
  injection e with e;subst e
  have:=Zol hm
  exact ⟨(h0 8).codes,by simp only;omega,by simp only;omega,(h0 8).filters,(h0 8).wprops⟩
 split at e
 ·unfold ZhC at e
  split at e
  ·cases e
  rename_i hm
  injection e with e;subst e
  have:=Zol hm
  exact ⟨(h0 8).codes,by simp only;omega,(h0 8).subs,by simp only;omega,(h0 8).wprops⟩
 split at e
 ·unfold Zfy at e
  split at e
  ·cases e
  rename_i hm
  injection e with e;subst e
  have:=Zol hm
  exact ⟨by simp only;omega,by simp only;omega,(h0 8).subs,(h0 8).filters,(h0 8).wprops⟩
 split at e
 ·exact ZiR (fun _ _ h=>ZqI (h0 t) h) e
 ·exact ZiR (fun q r h=>by injection h with h;injection h with h _;subst h;exact h0 t) e
theorem ZL8 {qos:Int} {l:Zb} {tp:Zb} {n:Int} {ps:List Zu} {q:Zb} (e:ZcB qos l=.ok (tp,n,ps,q)):ps.length≤268435455:=by
 unfold ZcB at e
 split at e
 ·cases e
 split at e
 ·split at e
  ·cases e
  split at e
  ·cases e
  rename_i hp
  injection e with e;injection e with _ e;injection e with _ e;injection e with e _;subst e
  exact Zgy hp
 ·split at e
  ·cases e
  rename_i hp
  injection e with e;injection e with _ e;injection e with _ e;injection e with e _;subst e
  exact Zgy hp
theorem ZuV (b:Int) (l:Zb) (hl:l.length≤9223372036854775807):OkL (ZaM b l).1:=by
 unfold ZaM
 split
 ·exact ZcE
 split
 ·unfold ZeM
  split
  ·split
   ·split
    ·exact ZcE
    ·rename_i h
     have:=ZL8 h
     exact ⟨ZcE.codes,by simp only;omega,ZcE.subs,ZcE.filters,ZcE.wprops⟩
   ·exact ZcE
  ·exact ZcE
 split
 ·split
  ·exact ZcE
  ·rename_i h
   exact ZL6 hl h
 ·exact ZcE
theorem Ztc (p:Zn) (h:OkW p) (hp:p.payload.length≤1000000):E1 34 [ZW p] []=some (Zey (ZaR p) (ZaF p) (ZaM (ZaR p) (ZaF p)).2 (Zdo (ZaM (ZaR p) (ZaF p)).1 p),[]):=by
 have hb:=ZNQ p h
 have hl:=ZDd p h hp
 have hw:=ZoC p
 unfold ZaF at hl ⊢
 cases hB:Zje p with
 | none =>
  rw [hB] at hb
  exact ZzC p _ _ hb (fun σ site own=>Zt1 _ hw [] (by decide) false σ site own) (ZuV _ _ (by decide))
 | some B =>
  rw [hB] at hb hl
  simp only [Option.getD_some] at hl ⊢
  exact Zsy p _ _ B hb (by omega) (fun σ site own=>Zt1 _ hw B (by omega) false σ site own) (ZuV _ _ (by omega))
def Zfb (p:Zn):Prop:=(ZaF p).length≤268435455∧ZaM (ZaR p) (ZaF p)=(p,0)
instance (p:Zn):Decidable (Zfb p):=inferInstanceAs (Decidable (_∧_))
def Zkr (p:Zn):UInt8:=UInt8.ofNat (ZaR p).toNat
theorem Zrw (p:Zn):((Zkr p).toNat:Int)=ZaR p:=by
 have:=ZoC p
 unfold Zkr
 rw [UInt8.toNat_ofNat']
 omega
section
variable (p:Zn) (h:OkW p) (hp:p.payload.length≤1000000)
include h hp
theorem ZrZ:Zfb p↔((ZaF p).length≤268435455∧(ZaM (ZaR p) (ZaF p)).2=0∧Zdo (ZaM (ZaR p) (ZaF p)).1 p=true):=by
 unfold Zfb
 rw [Ztl]
 constructor
 ·rintro ⟨h1,h2⟩
  rw [h2];exact ⟨h1,rfl,rfl⟩
 ·rintro ⟨h1,h2,h3⟩
  exact ⟨h1,Prod.ext h3 h2⟩
theorem ZzP (hg:Zfb p) (args:List AVal) (ha:args.all Z9=true) (hn:args.map ZG=[ZW p]) (σ:Za) (site own:Nat):Zj E1 BY σ site 34 own true args=some (Zik (Zkr p) (ZaF p),σ,{}):=by
 have hF:=Ztc p h hp
 obtain ⟨h1,h2,h3⟩:=(ZrZ p h hp).1 hg
 rw [h2,h3,←Zrw p] at hF
 exact ZtF (by rw [hF]) h1 ha hn σ site own
theorem ZMo (hg:¬Zfb p) (args:List AVal) (ha:args.all Z9=true) (hn:args.map ZG=[ZW p]) (σ:Za) (site own:Nat):Zj E1 BY σ site 34 own true args=some (ZmK,σ,{}) :=
 ZEE (Ztc p h hp) (fun e=>hg ((ZrZ p h hp).2 e)) ha hn σ site own
theorem ZIT (p:Zn):([AVal.agg (Zt p)].all Z9=true)∧[AVal.agg (Zt p)].map ZG=[ZW p]:=⟨by rw [List.all_cons,ZdH];rfl,by rw [List.map_cons,ZdC];rfl⟩
end
end Go.Proofs.YtmlkhhidifjjfaaDoor
namespace Go.Proofs.YtmlkhhidifjjfaaDoor
set_option maxHeartbeats 4000000
theorem ZrQ (rest:Zb):∀ (b:Zb) (i n:Nat),(gvA i n b).2.2=0→gvA i n (b++rest)=gvA i n b
 | [],i,n,h=>by
  unfold gvA at h
  split at h <;> simp at h
 | c::r,i,n,h=>by
  rw [List.cons_append]
  unfold gvA at h ⊢
  split at h
  ·simp at h
  ·rename_i h4
   rw [if_neg h4,if_neg h4]
   split at h
   ·rename_i hc
    rw [if_pos hc,if_pos hc]
   ·rename_i hc
    rw [if_neg hc,if_neg hc]
    exact ZrQ rest r (i+1) _ h
theorem Zz3 (b rest:Zb) (h:(ZT b).2.2=0):ZT (b++rest)=ZT b:=ZrQ rest b 0 0 h
theorem ZCz (w:Int) (b rest:Zb) (h:(Zac w b).2.2=0):Zac w (b++rest)=Zac w b:=by
 have hx:¬((ZT b).2.2≠0∨((ZT b).1:Int) > (b.length:Int) - ((ZT b).2.1:Nat)):=by
  intro hx
  unfold Zac at h
  rw [if_pos hx] at h
  simp at h
 have h1:(ZT b).2.2=0:=Classical.byContradiction fun e=>hx (Or.inl e)
 have h2:¬(((ZT b).1:Int) > (b.length:Int) - ((ZT b).2.1:Nat)):=fun e=>hx (Or.inr e)
 have hg:=Zz3 b rest h1
 have hle:(ZT b).2.1+(ZT b).1≤b.length:=by omega
 have ht:(b++rest).take ((ZT b).2.1+(ZT b).1)=b.take ((ZT b).2.1+(ZT b).1):=List.take_append_of_le_length hle
 have hl:(b++rest).length=b.length+rest.length:=List.length_append
 have hx':¬((ZT b).2.2≠0∨((ZT b).1:Int) > ((b++rest).length:Int) - ((ZT b).2.1:Nat)):=by
  rintro (e | e)
  ·exact e h1
  ·rw [hl] at e;omega
 unfold Zac
 rw [hg,ht,if_neg hx,if_neg hx']
end Go.Proofs.YtmlkhhidifjjfaaDoor
namespace Go.Proofs.YtmlkhhidifjjfaaDoor
def Zmc:Ze:=(.seq (.region [oI 1 (.box (.t 0)),oI 2 (.alloc [(.int .i64 0),(.bool false),(.int .i64 0),(.bool false),(.int .i64 0),(.str []),(.lst true []),(.int .i64 0),(.lst true []),(.lst true []),(.lst true []),(.lst true []),(.bool false),(.int .i64 0),(.str []),(.bool false),(.str []),(.lst true []),(.int .i64 0),(.bool false),(.lst true []),(.bool false),(.str []),(.bool false),(.lst true []),(.bool false)])] none [2,1]) (.seq (.seq (.region [oI 3 (.faddr 10 (.t 1)),oI 4 (.ld none (.t 3)),oI 5 (.len (.t 4)),oI 6 (.bin .gtr (.t 5) (.c (.int .i64 8)))] none [6,2,1]) (.cond (.t 6) (.region [oI 7 (.faddr 10 (.t 1)),oI 8 (.ld none (.t 7)),oI 9 (.slice 6 (.t 8) none (some (.c (.int .i64 8))) none),oI 10 (.faddr 10 (.t 1)),oN (.st 1 (.t 10) (.t 9))] none [2,1]) .skip)) (.seq (.seq (.region [oI 11 (.faddr 11 (.t 1)),oI 12 (.ld none (.t 11)),oI 13 (.len (.t 12)),oI 14 (.bin .gtr (.t 13) (.c (.int .i64 8)))] none [14,2,1]) (.cond (.t 14) (.region [oI 15 (.faddr 11 (.t 1)),oI 16 (.ld none (.t 15)),oI 17 (.slice 1 (.t 16) none (some (.c (.int .i64 8))) none),oI 18 (.faddr 11 (.t 1)),oN (.st 1 (.t 18) (.t 17))] none [2,1]) .skip)) (.seq (.seq (.region [oI 19 (.faddr 8 (.t 1)),oI 20 (.ld none (.t 19)),oI 21 (.len (.t 20)),oI 22 (.bin .gtr (.t 21) (.c (.int .i64 8)))] none [22,2,1]) (.cond (.t 22) (.region [oI 23 (.faddr 8 (.t 1)),oI 24 (.ld none (.t 23)),oI 25 (.slice 1 (.t 24) none (some (.c (.int .i64 8))) none),oI 26 (.faddr 8 (.t 1)),oN (.st 1 (.t 26) (.t 25))] none [2,1]) .skip)) (.seq (.seq (.region [oI 27 (.faddr 9 (.t 1)),oI 28 (.ld none (.t 27)),oI 29 (.len (.t 28)),oI 30 (.bin .gtr (.t 29) (.c (.int .i64 12)))] none [30,2,1]) (.cond (.t 30) (.region [oI 31 (.faddr 9 (.t 1)),oI 32 (.ld none (.t 31)),oI 33 (.slice 5 (.t 32) none (some (.c (.int .i64 12))) none),oI 34 (.faddr 9 (.t 1)),oN (.st 1 (.t 34) (.t 33))] none [2,1]) .skip)) (.seq (.seq (.region [oI 35 (.faddr 16 (.t 1)),oI 36 (.faddr 4 (.t 35)),oI 37 (.ld none (.t 36)),oI 38 (.len (.t 37)),oI 39 (.bin .gtr (.t 38) (.c (.int .i64 12)))] none [39,2,1]) (.cond (.t 39) (.region [oI 40 (.faddr 16 (.t 1)),oI 41 (.faddr 4 (.t 40)),oI 42 (.ld none (.t 41)),oI 43 (.slice 5 (.t 42) none (some (.c (.int .i64 12))) none),oI 44 (.faddr 16 (.t 1)),oI 45 (.faddr 4 (.t 44)),oN (.st 1 (.t 45) (.t 43))] none [2,1]) .skip)) (.seq (.region [oI 46 (.faddr 6 (.t 1)),oI 47 (.ld none (.t 46)),oI 48 (.call 18 0 true [(.t 47),(.c (.int .i64 600))]),oI 49 (.faddr 24 (.t 1)),oI 50 (.ld none (.t 49)),oI 51 (.call 18 0 true [(.t 50),(.c (.int .i64 100))]),oI 52 (.faddr 16 (.t 1)),oI 53 (.faddr 1 (.t 52)),oI 54 (.ld none (.t 53)),oI 55 (.call 18 0 true [(.t 54),(.c (.int .i64 100))]),oI 56 (.faddr 6 (.t 1)),oN (.st 1 (.t 56) (.t 48)),oI 57 (.faddr 24 (.t 1)),oN (.st 1 (.t 57) (.t 51)),oI 58 (.faddr 16 (.t 1)),oI 59 (.faddr 1 (.t 58)),oN (.st 1 (.t 59) (.t 55))] (some [(1,4),(2,4),(1,8),(2,8),(4,8),(5,8)]) [2,1]) (.seq (.region [oI 60 (.ld (some 26) (.t 1)),oN (.st 26 (.t 2) (.t 60))] none [2]) .ret))))))))
def Zob:ZD:=⟨[(.cell 2 (some 26))],Zmc⟩
theorem ZwP:FC 37=some Zob:=by kernel_rfl
theorem ZA5:Zob.body=Zmc:=rfl
theorem ZE1:Zob.res=[(.cell 2 (some 26))]:=rfl
def Zgn:Ze:=(.seq (.region [oI 2 (.box (.t 0)),oI 4 (.mov (.c (.bool false)))] none [2,1]) (.seq (.region [oI 9 (.ld (some 26) (.t 2)),oI 10 (.call 37 0 true [(.t 9)]),oN (.st 26 (.t 2) (.t 10))] none [2,1]) (.seq (.region [oI 12 (.ld (some 26) (.t 2)),oI 13 (.call 34 0 true [(.t 12)]),oI 11 (.mov (.t 13)),oI 14 (.ext (.t 11) 0),oI 15 (.ext (.t 11) 1),oI 5 (.alloc [(.int .u8 0),(.lst true [])]),oN (.st 2 (.t 5) (.t 14)),oI 6 (.mov (.t 15))] none [6,5,2,1]) (.seq (.seq (.region [oI 16 (.mov (.t 6)),oI 17 (.call 33 0 true [(.t 16)]),oI 18 (.bin .neq (.t 17) (.c (.int .i64 0)))] none [18,5,2,1]) (.cond (.t 18) (.seq (.region [oI 19 (.call 38 0 true []),oI 4 (.mov (.t 19))] none [4]) .ret) .skip)) (.seq (.region [oI 21 (.faddr 0 (.t 5)),oI 22 (.ld none (.t 21)),oI 23 (.bslice false 1 0 (.int .u8 0) []),oI 24 (.faddr 1 (.t 5)),oI 25 (.ld none (.t 24)),oI 26 (.app 1 1 (.int .u8 0) (.t 23) (.t 25)),oI 27 (.mov (.t 1)),oI 28 (.bslice false 1 1 (.int .u8 0) [(0,(.t 27))]),oI 29 (.app 1 1 (.int .u8 0) (.t 26) (.t 28)),oI 30 (.build [(.int .u8 0),(.lst true [])] [(0,1,(.t 22)),(1,1,(.t 29))]),oI 31 (.call 32 0 true [(.t 30)]),oI 20 (.mov (.t 31)),oI 32 (.ext (.t 20) 0),oI 33 (.ext (.t 20) 1),oI 7 (.alloc [(.int .i64 0),(.bool false),(.int .i64 0),(.bool false),(.int .i64 0),(.str []),(.lst true []),(.int .i64 0),(.lst true []),(.lst true []),(.lst true []),(.lst true []),(.bool false),(.int .i64 0),(.str []),(.bool false),(.str []),(.lst true []),(.int .i64 0),(.bool false),(.lst true []),(.bool false),(.str []),(.bool false),(.lst true []),(.bool false)]),oN (.st 26 (.t 7) (.t 32)),oI 8 (.mov (.t 33))] (some [(1,2),(1,4),(2,4),(1,5),(1,7),(2,7),(4,7),(5,7),(1,8),(1,14),(2,14),(4,14),(5,14),(7,14),(8,14),(10,14)]) [8,7,2]) (.seq (.seq (.region [oI 34 (.faddr 0 (.t 2)),oI 35 (.ld none (.t 34))] none [35,8,7,2]) (.block 0 (.seq (.seq (.region [oI 37 (.bin .eql (.t 35) (.c (.int .i64 1))),oI 36 (.mov (.t 37))] none [36,35,8,7,2]) (.cond (.t 36) .skip (.seq (.region [oI 38 (.bin .eql (.t 35) (.c (.int .i64 2))),oI 36 (.mov (.t 38))] none [36,35,8,7,2]) (.cond (.t 36) .skip (.seq (.region [oI 39 (.bin .eql (.t 35) (.c (.int .i64 12))),oI 36 (.mov (.t 39))] none [36,35,8,7,2]) (.cond (.t 36) .skip (.region [oI 40 (.bin .eql (.t 35) (.c (.int .i64 13))),oI 36 (.mov (.t 40))] none [36,35,8,7,2]))))))) (.cond (.t 36) (.seq (.region [oI 41 (.mov (.t 8)),oI 42 (.call 33 0 true [(.t 41)]),oI 43 (.bin .eql (.t 42) (.c (.int .i64 129))),oI 44 (.mov (.t 43)),⟨(some 45),(.ld (some 26) (.t 7)),(some (44,true)),[]⟩,⟨(some 46),(.build [(.int .i64 0),(.bool false),(.int .i64 0),(.bool false),(.int .i64 0),(.str []),(.lst true []),(.int .i64 0),(.lst true []),(.lst true []),(.lst true []),(.lst true []),(.bool false),(.int .i64 0),(.str []),(.bool false),(.str []),(.lst true []),(.int .i64 0),(.bool false),(.lst true []),(.bool false),(.str []),(.bool false),(.lst true []),(.bool false)] []),(some (44,true)),[]⟩,⟨(some 47),(.call 36 0 true [(.t 45),(.t 46)]),(some (44,true)),[]⟩,oI 48 (.pick (.t 44) (.t 47) (.c (.bool false))),oI 49 (.mov (.t 48)),⟨(some 50),(.call 38 0 true []),(some (49,true)),[]⟩,oI 51 (.pick (.t 49) (.t 50) (.c (.bool false))),oI 4 (.mov (.t 51))] none [4]) .ret) (.seq (.region [oI 53 (.bin .eql (.t 35) (.c (.int .i64 3))),oI 52 (.mov (.t 53))] none [52,8,7,2]) (.cond (.t 52) (.seq (.region [oI 54 (.mov (.t 8)),oI 55 (.call 33 0 true [(.t 54)]),oI 56 (.bin .eql (.t 55) (.c (.int .i64 0))),oI 57 (.mov (.t 56)),⟨(some 58),(.faddr 6 (.t 7)),(some (57,true)),[]⟩,⟨(some 59),(.ld none (.t 58)),(some (57,true)),[]⟩,⟨(some 60),(.len (.t 59)),(some (57,true)),[]⟩,⟨(some 61),(.faddr 6 (.t 2)),(some (57,true)),[]⟩,⟨(some 62),(.ld none (.t 61)),(some (57,true)),[]⟩,⟨(some 63),(.len (.t 62)),(some (57,true)),[]⟩,⟨(some 64),(.bin .add (.t 63) (.c (.int .i64 1))),(some (57,true)),[]⟩,⟨(some 65),(.bin .eql (.t 60) (.t 64)),(some (57,true)),[]⟩,oI 66 (.pick (.t 57) (.t 65) (.c (.bool false))),oI 67 (.mov (.t 66)),⟨(some 68),(.call 38 0 true []),(some (67,true)),[]⟩,oI 69 (.pick (.t 67) (.t 68) (.c (.bool false))),oI 4 (.mov (.t 69))] none [4]) .ret) .skip)))))) (.seq (.region [oI 70 (.mov (.t 8)),oI 71 (.call 33 0 true [(.t 70)]),oI 72 (.bin .eql (.t 71) (.c (.int .i64 0))),oI 73 (.mov (.t 72)),⟨(some 74),(.ld (some 26) (.t 7)),(some (73,false)),[]⟩,⟨(some 75),(.build [(.int .i64 0),(.bool false),(.int .i64 0),(.bool false),(.int .i64 0),(.str []),(.lst true []),(.int .i64 0),(.lst true []),(.lst true []),(.lst true []),(.lst true []),(.bool false),(.int .i64 0),(.str []),(.bool false),(.str []),(.lst true []),(.int .i64 0),(.bool false),(.lst true []),(.bool false),(.str []),(.bool false),(.lst true []),(.bool false)] []),(some (73,false)),[]⟩,⟨(some 76),(.call 36 0 true [(.t 74),(.t 75)]),(some (73,false)),[]⟩,oI 77 (.pick (.t 73) (.c (.bool true)) (.t 76)),oI 78 (.mov (.t 77)),⟨(some 79),(.call 38 0 true []),(some (78,true)),[]⟩,oI 80 (.pick (.t 78) (.t 79) (.c (.bool false))),oI 4 (.mov (.t 80))] none [4]) .ret)))))))
def Zl4:ZD:=⟨[(.tmp 4)],Zgn⟩
theorem Zif:FC 7=some Zl4:=by kernel_rfl
theorem ZiG:Zl4.body=Zgn:=rfl
theorem Zjb:Zl4.res=[(.tmp 4)]:=rfl
def Zp8:Ze:=(.seq (.region [oI 2 (.mov (.c (.int .i64 0)))] none [0]) (.seq (.region [oI 3 (.mov (.t 0)),oI 2 (.mov (.t 3))] none [2]) .ret))
def ZoP:ZD:=⟨[(.tmp 2)],Zp8⟩
theorem ZGg:FC 33=some ZoP:=by kernel_rfl
theorem ZFE:ZoP.body=Zp8:=rfl
theorem ZHx:ZoP.res=[(.tmp 2)]:=rfl
def Zo2:Ze:=(.seq (.region [oI 0 (.mov (.c (.bool false)))] none []) (.seq (.region [oI 6 (.build [(.int .i64 0),(.bool false),(.int .i64 0),(.bool false),(.int .i64 0),(.str []),(.lst true []),(.int .i64 0),(.lst true []),(.lst true []),(.lst true []),(.lst true []),(.bool false),(.int .i64 0),(.str []),(.bool false),(.str []),(.lst true []),(.int .i64 0),(.bool false),(.lst true []),(.bool false),(.str []),(.bool false),(.lst true []),(.bool false)] [(0,1,(.c (.int .i64 4))),(4,1,(.c (.int .i64 7))),(7,1,(.c (.int .i64 16)))]),oI 7 (.call 40 0 true [(.t 6)]),oI 5 (.mov (.t 7)),oI 8 (.ext (.t 5) 0),oI 9 (.ext (.t 5) 1),oI 1 (.mov (.t 8)),oI 2 (.mov (.t 9))] none [2,1]) (.seq (.region [oI 11 (.bslice false 1 7 (.int .u8 0) [(0,(.c (.int .u8 0))),(1,(.c (.int .u8 1))),(2,(.c (.int .u8 97))),(3,(.c (.int .u8 0))),(4,(.c (.int .u8 1))),(5,(.c (.int .u8 0))),(6,(.c (.int .u8 120)))]),oI 12 (.build [(.int .u8 0),(.lst true [])] [(0,1,(.c (.int .u8 50))),(1,1,(.t 11))]),oI 13 (.call 32 0 true [(.t 12)]),oI 10 (.mov (.t 13)),oI 14 (.ext (.t 10) 0),oI 15 (.ext (.t 10) 1),oI 3 (.alloc [(.int .i64 0),(.bool false),(.int .i64 0),(.bool false),(.int .i64 0),(.str []),(.lst true []),(.int .i64 0),(.lst true []),(.lst true []),(.lst true []),(.lst true []),(.bool false),(.int .i64 0),(.str []),(.bool false),(.str []),(.lst true []),(.int .i64 0),(.bool false),(.lst true []),(.bool false),(.str []),(.bool false),(.lst true []),(.bool false)]),oN (.st 26 (.t 3) (.t 14)),oI 4 (.mov (.t 15))] none [4,3,2,1]) (.seq (.region [oI 16 (.mov (.t 2)),oI 17 (.call 33 0 true [(.t 16)]),oI 18 (.bin .eql (.t 17) (.c (.int .i64 0))),oI 19 (.mov (.t 18)),⟨(some 20),(.mov (.t 1)),(some (19,true)),[]⟩,⟨(some 21),(.bslice false 1 5 (.int .u8 0) [(0,(.c (.int .u8 64))),(1,(.c (.int .u8 3))),(2,(.c (.int .u8 0))),(3,(.c (.int .u8 7))),(4,(.c (.int .u8 16)))]),(some (19,true)),[]⟩,⟨(some 22),(.call 15 0 true [(.t 20),(.t 21)]),(some (19,true)),[]⟩,oI 23 (.pick (.t 19) (.t 22) (.c (.bool false))),oI 24 (.mov (.t 23)),⟨(some 25),(.mov (.t 4)),(some (24,true)),[]⟩,⟨(some 26),(.call 33 0 true [(.t 25)]),(some (24,true)),[]⟩,⟨(some 27),(.bin .eql (.t 26) (.c (.int .i64 0))),(some (24,true)),[]⟩,oI 28 (.pick (.t 24) (.t 27) (.c (.bool false))),oI 29 (.mov (.t 28)),⟨(some 30),(.faddr 5 (.t 3)),(some (29,true)),[]⟩,⟨(some 31),(.ld none (.t 30)),(some (29,true)),[]⟩,⟨(some 32),(.bin .eql (.t 31) (.c (.str [97]))),(some (29,true)),[]⟩,oI 33 (.pick (.t 29) (.t 32) (.c (.bool false))),oI 34 (.mov (.t 33)),⟨(some 35),(.faddr 2 (.t 3)),(some (34,true)),[]⟩,⟨(some 36),(.ld none (.t 35)),(some (34,true)),[]⟩,⟨(some 37),(.bin .eql (.t 36) (.c (.int .i64 1))),(some (34,true)),[]⟩,oI 38 (.pick (.t 34) (.t 37) (.c (.bool false))),oI 39 (.mov (.t 38)),⟨(some 40),(.faddr 4 (.t 3)),(some (39,true)),[]⟩,⟨(some 41),(.ld none (.t 40)),(some (39,true)),[]⟩,⟨(some 42),(.bin .eql (.t 41) (.c (.int .i64 1))),(some (39,true)),[]⟩,oI 43 (.pick (.t 39) (.t 42) (.c (.bool false))),oI 44 (.mov (.t 43)),⟨(some 45),(.faddr 6 (.t 3)),(some (44,true)),[]⟩,⟨(some 46),(.ld none (.t 45)),(some (44,true)),[]⟩,⟨(some 47),(.b2s (.t 46)),(some (44,true)),[]⟩,⟨(some 48),(.bin .eql (.t 47) (.c (.str [120]))),(some (44,true)),[]⟩,oI 49 (.pick (.t 44) (.t 48) (.c (.bool false))),oI 0 (.mov (.t 49))] none [0]) .ret))))
def Zml:ZD:=⟨[(.tmp 0)],Zo2⟩
theorem ZzA:FC 38=some Zml:=by kernel_rfl
theorem ZHQ:Zml.body=Zo2:=rfl
theorem ZBe:Zml.res=[(.tmp 0)]:=rfl
end Go.Proofs.YtmlkhhidifjjfaaDoor
namespace Go.Proofs.YtmlkhhidifjjfaaDoor
set_option maxHeartbeats 16000000
set_option maxRecDepth 10000
theorem Zzg (a b:Zb):E 15 [ZH a,ZH b] []=some (.bool (a == b),[]):=by
 rw [Zh (by rfl) ZMM]
 simp -implicitDefEqProofs only [EQA,Nat.reduceLT,Nat.reduceEqDiff,Zds,reduceCtorEq,ZV,↓reduceIte,ZKH,ZmP,ZKA,oI,ZH]
theorem ZJd (σ:Za) (site own:Nat) (f g:Bool) (a b:Zb):Zj E BY σ site 15 own true [.lst f (a.map Zc),.lst g (b.map Zc)]=some (.bool (a == b),σ,{}) :=
 Zbv (Zzg a b) (by kernel_rfl) rfl rfl rfl (fun _=>rfl) σ site own
theorem Zx3 (e:Int):E 33 [.int .i64 e] []=some (.int .i64 e,[]):=by
 rw [Zh (by rfl) ZGg]
 simp -implicitDefEqProofs only [EQA,Nat.reduceLT,Nat.reduceEqDiff,reduceCtorEq,↓reduceIte,ZFE,Zp8,ZHx,oI]
theorem Zq7 (σ:Za) (site own:Nat) (view:Bool) (e:Int):Zj E BY σ site 33 own view [.int .i64 e]=some (.int .i64 e,σ,{}) :=
 Zb9 (Zx3 e) (by kernel_rfl) (by simp -implicitDefEqProofs only [Zct,Zbd,eq_self]) (by simp -implicitDefEqProofs only [ZC,Zbd,eq_self]) rfl (fun _=>rfl) _ _ _ _
def p7:Zn:={ Zai with type:=4,id:=7,code:=16 }
def b7:Zb:=[0,7,16]
theorem ZJ6:OkW p7:=by
 refine ⟨?_,?_,?_,?_,?_,?_,?_,?_,?_,?_,?_,?_⟩ <;> simp [p7,Zai]
theorem ZGY:E1 78 [.ref 0 0,ZW p7] [.var wn]=some (.tup [],wH 0 b7):=by
 have h:=Zt9 p7 ZJ6 (Or.inl rfl)
 have e:beB (ZP p7.id) 2++ZbL p7=b7:=by
  unfold ZbL
  rw [if_pos (Or.inl (by decide)),if_neg (by simp [p7,Zai])]
  decide
 rw [e] at h;exact h
def Q7:List AVal:=Zdq ((P0.set 0 (.int .i64 4)).set 4 (.int .i64 7)) 16 none
theorem Zz5:E1 32 [.agg [.int .u8 64,.lst false (b7.map Zc)]] []=some (.tup [.agg Q7,.int .i64 0],[]):=by
 have hi:idK b7=.ok (7,[16]):=by kernel_rfl
 have hr:Zck 4 [16]=.ok ((16,none),[]):=by kernel_rfl
 have hf:=ZuX P0 rfl (by rfl) 64 4 b7 (by decide) (by decide) (by decide) (by decide)
 have hb:=ZuS (P0.set 0 (.int .i64 4)) (by rfl) (by rfl) 4 (Or.inl rfl) rfl rfl rfl (fun r _=>Zc6 4 r) b7 (by decide) hi hr
 rw [ZfO]
 exact ZpR 64 b7 (by rfl) (by rfl) rfl (by rfl) (by rfl) rfl hf hb
theorem ZDU (σ:Za) (site own:Nat):Zj E1 BY σ site 32 own true [.agg [.int .u8 64,.lst false (b7.map Zc)]]=some (.tup [ZW p7,.int .i64 0],σ,{}) :=
 ZrH Zz5 (fun σ=>rfl) false σ site own
theorem ZzN:E1 34 [ZW p7] []=some (Zey 64 b7 0 true,[]):=by
 have hf:ZaR p7=64:=by decide
 have hs:Zdo p7 p7=true:=(Ztl _ _).2 rfl
 have:=Zsy p7 p7 0 b7 ZGY (by decide) (fun σ site own=>by rw [hf];exact ZDU σ site own) ⟨by decide,by decide,by decide,by decide,by decide⟩
 rw [hf,hs] at this
 exact this
theorem ZJw:E1 40 [ZW p7] []=some (.tup [.lst false ((Zg4 64 b7).map Zc),.int .i64 0],[]) :=
 ZOh p7 64 b7 (by decide) fun σ site own=>ZtF (x:=64) ZzN (by decide) (by rw [List.all_cons,ZdH];rfl) (by rw [List.map_cons,ZdC];rfl) σ site own
def b50:Zb:=[0,1,97,0,1,0,120]
def p50:Zn:={ Zai with type:=3,qos:=1,id:=1,topic:=[97],payload:=[120] }
theorem ZHJ:ZeM 50 b50=(p50,0):=by kernel_rfl
theorem ZLo:E1 38 [] []=some (.bool true,[]):=by
 have h1:=fun (args:List AVal) (hp:args.all Z9=true) (hn:args.map ZG=[ZW p7]) σ site own=>Zbv (byref:=BY) (args:=args) ZJw (by kernel_rfl) hp hn rfl (fun _=>rfl) σ site own
 have h2:∀ (σ:Za) (site own:Nat) (f:Bool),Zj E1 BY σ site 32 own true [.agg [.int .u8 50,.lst f [.int .u8 0,.int .u8 1,.int .u8 97,.int .u8 0,.int .u8 1,.int .u8 0,.int .u8 120]]]=some (.tup [.agg [.int .i64 3,.bool false,.int .i64 1,.bool false,.int .i64 1,.str [97],.lst false [.int .u8 120],.int .i64 0,.lst false [],.lst false [],.lst false [],.lst false [],.bool false,.int .i64 0,.str [],.bool false,.str [],.lst false [],.int .i64 0,.bool false,.lst false [],.bool false,.str [],.bool false,.lst false [],.bool false],.int .i64 0],σ,{}):=fun σ site own f=>by
  have:=ZD1 50 (by decide) b50 (by decide) f σ site own
  rw [ZHJ] at this
  exact this
 have h3:=fun σ site own f g a b=>ZbE (ZJd σ site own f g a b)
 have h4:=fun σ site own e=>ZbE (Zq7 σ site own true e)
 have h5:=h1 [.agg [.int .i64 4,.bool false,.int .i64 0,.bool false,.int .i64 7,.str [],.lst true [],.int .i64 16,.lst true [],.lst true [],.lst true [],.lst true [],.bool false,.int .i64 0,.str [],.bool false,.str [],.lst true [],.int .i64 0,.bool false,.lst true [],.bool false,.str [],.bool false,.lst true [],.bool false]] rfl rfl
 have h6:∀ (σ:Za) (site own:Nat) (f g:Bool),Zj E1 BY σ site 15 own true [.lst f ((Zg4 64 b7).map Zc),.lst g [.int .u8 64,.int .u8 3,.int .u8 0,.int .u8 7,.int .u8 16]]=some (.bool true,σ,{}):=fun σ site own f g=>by
  have:=h3 σ site own f g (Zg4 64 b7) [64,3,0,7,16]
  rw [show (Zg4 64 b7 == [64,3,0,7,16])=true from by decide] at this
  exact this
 have hb:bytesOf [AVal.int .u8 120]=some [120]:=by rfl
 clear h1 h3
 rw [Zbe (by rfl) ZzA]
 simp -implicitDefEqProofs only [EQA,Za3,ZbR,Nat.reduceAdd,Nat.reduceLT,Nat.reduceLeDiff,Nat.reduceEqDiff,Nat.reduceBEq,Zds,ZE,unG,ne_eq,Option.some.injEq,reduceCtorEq,decide_true,decide_false,ZV,↓reduceIte,ZB,Zz,ZM,ZHQ,Zo2,ZBe,oI,oN,AVal.cells,Zam,h2,h4,h5,h6,hb,viewAs,ZN,ZK,Zo,List.foldl_cons,List.foldl_nil,ZS]
theorem ZGM (σ:Za) (site own:Nat) (view:Bool):Zj E1 BY σ site 38 own view []=some (.bool true,σ,{}) :=
 Zb9 ZLo (by kernel_rfl) rfl rfl rfl (fun _=>rfl) _ _ _ _
end Go.Proofs.YtmlkhhidifjjfaaDoor
namespace Go.Proofs.YtmlkhhidifjjfaaDoor
open Go.RowKit
def ZfN (P:Program):Nat→TypeId→Bool
 | 0,_=>true
 | n+1,t=>match P.underlying t with
  | some (.slice e)=>decide (1≤P.bytesOf e) && ZfN P n e
  | some (.struct fs)=>fs.toList.all fun f=>ZfN P n f.type
  | _=>true
mutual
def TyR (R:Nat):Ty→List AVal→Prop
 | .bool,xs=>∃ b,xs=[.bool b]
 | .int k,xs=>∃ n,(Lit.int k n).wf=true∧xs=[.int k n]
 | .str,xs=>∃ l:List UInt8,l.length≤R∧xs=[.str l]
 | .slice s e,xs=>∃ ys:List (List AVal),xs=[.lst false (ys.map (Zb4 s))]∧ys.length≤R∧∀ y ∈ ys,TyR R e y
 | .struct fs,xs=>ZeR R fs xs
def ZeR (R:Nat):List Ty→List AVal→Prop
 | [],xs=>xs=[]
 | f::fs,xs=>∃ a b,xs=a++b∧TyR R f a∧ZeR R fs b
end
section
variable {H:Type} {enc:TypeId×Value→H} {P:Program} {w:World} {spare:Nat→Bool} {held:Bool} {R:Nat}
theorem ZsM {d:DataW H} {e:TypeId} {n:Nat}:∀ {l:List (DataW H)},d ∈ l→n ∈ d.weights P e→n ∈ DataW.weightsAll P e l
 | x::l,h,hn=>by
  simp only [DataW.weightsAll,List.mem_append]
  rcases List.mem_cons.1 h with rfl | h
  ·exact Or.inl hn
  ·exact Or.inr (ZsM h hn)
theorem ZKG {t e:TypeId} {l m:List (DataW H)} {d:DataW H} (hu:P.underlying t=some (.slice e)) (hd:d ∈ l) {n:Nat} (hn:n ∈ d.weights P e):n ∈ (DataW.slice l m).weights P t:=by
 simp only [DataW.weights,hu,List.mem_cons,List.mem_append]
 exact Or.inr (Or.inl (ZsM hd hn))
theorem Zst {n fuel:Nat} {cs:List Value} (ih:∀ (t:TypeId) (cs:List Value) (x:DataW H×List MemPlace) (T:Ty),Zdf P n t=some T→ZfN P n t=true→(∀ m ∈ x.1.weights P t,m≤R)→DataW.trod enc P w 0 spare held fuel t cs=some x→∃ xs,TyR R T xs∧VRs (Imm.of w) B0 xs cs∧ZaH xs=true) :
  ∀ (fs:List Field) (at':Nat) (Ts:List Ty) (ys:List (DataW H×List MemPlace)),(fs.all fun f=>ZfN P n f.type)=true→(∀ m ∈ DataW.weightsEach P (fs.map (·.type)) (ys.map (·.1)),m≤R)→Zip P at' fs cs.length=true→fs.mapM (fun f=>Zdf P n f.type)=some Ts →
   fs.mapM (fun f=>DataW.trod enc P w 0 spare held fuel f.type ((cs.drop f.offset).take (P.cellsOf f.type)))=some ys→∃ xs,ZeR R Ts xs∧VRs (Imm.of w) B0 xs (cs.drop at')∧ZaH xs=true
 | [],at',Ts,ys,_,_,ho,hT,_=>by
  simp only [Zip,beq_iff_eq] at ho
  simp only [List.mapM_nil,Option.pure_def,Option.some.injEq] at hT
  subst hT ho
  exact ⟨[],by simp only [ZeR],by simp [VRs],rfl⟩
 | f::fs,at',Ts,ys,hby,hwt,ho,hT,h=>by
  simp only [Zip,Bool.and_eq_true,beq_iff_eq] at ho
  obtain ⟨T,Ts',h1,h2,rfl⟩:=ZtJ hT
  obtain ⟨y,ys',h3,h4,rfl⟩:=ZtJ h
  simp only [List.all_cons,Bool.and_eq_true] at hby
  simp only [List.map_cons,DataW.weightsEach,List.mem_append] at hwt
  obtain ⟨a,a1,a2,a3⟩:=ih _ _ _ _ h1 hby.1 (fun m hm=>hwt m (Or.inl hm)) h3
  obtain ⟨b,b1,b2,b3⟩:=Zst ih fs _ _ _ hby.2 (fun m hm=>hwt m (Or.inr hm)) ho.2 h2 h4
  rw [ho.1] at a2
  refine ⟨a++b,by simp only [ZeR];exact ⟨a,b,rfl,a1,b1⟩,Zy3 a2 (by rw [List.drop_drop];exact b2),ZIR a3 b3⟩
theorem ZvF {n:Nat} {e:TypeId} {T:Ty} (hT:Zdf P n e=some T) (hs:ZdD (P.underlying e)=false) {xs:List AVal} (h:TyR R T xs):xs.length=1:=by
 cases n with
 | zero=>simp [Zdf] at hT
 | succ n =>
  simp only [Zdf] at hT
  split at hT
  ·injection hT with hT;subst hT;simp only [TyR] at h;obtain ⟨_,rfl⟩:=h;rfl
  ·injection hT with hT;subst hT;simp only [TyR] at h;obtain ⟨_,_,rfl⟩:=h;rfl
  ·injection hT with hT;subst hT;simp only [TyR] at h;obtain ⟨_,_,rfl⟩:=h;rfl
  ·split at hT
   ·simp only [Option.map_eq_some_iff] at hT
    obtain ⟨T',_,rfl⟩:=hT
    simp only [TyR] at h;obtain ⟨_,rfl,_⟩:=h;rfl
   ·cases hT
  ·rename_i hu;rw [hu] at hs;simp [ZdD] at hs
  ·cases hT
theorem Znn:∀ (n fuel:Nat) (t:TypeId) (cs:List Value) (x:DataW H×List MemPlace) (T:Ty),Zdf P n t=some T→ZfN P n t=true→(∀ m ∈ x.1.weights P t,m≤R)→DataW.trod enc P w 0 spare held fuel t cs=some x →
  ∃ xs,TyR R T xs∧VRs (Imm.of w) B0 xs cs∧ZaH xs=true
 | 0,fuel,t,cs,x,T,hT,_,_,_=>by simp [Zdf] at hT
 | n+1,0,t,cs,x,T,_,_,_,h=>by simp [DataW.trod] at h
 | n+1,fuel+1,t,cs,x,T,hT,hby,hwt,h=>by
  have h0:=h
  simp only [Zdf] at hT
  unfold DataW.trod at h
  split at hT
  ·rename_i hu
   injection hT with hT;subst hT
   obtain ⟨b,rfl,_⟩:=DataW.trod_bool hu h0
   exact ⟨[.bool b],by simp only [TyR];exact ⟨b,rfl⟩,by simp [VRs,VR],rfl⟩
  ·rename_i k hu
   injection hT with hT;subst hT
   obtain ⟨n',rfl,_,hk⟩:=DataW.trod_int hu h0
   exact ⟨[.int k n'],by simp only [TyR];exact ⟨n',hk,rfl⟩,by simp [VRs,VR],rfl⟩
  ·rename_i hu
   injection hT with hT;subst hT
   obtain ⟨s,rfl,hx,hs⟩:=DataW.trod_string hu h0
   have hs':s.data.toList.length≤9223372036854775807:=by
    rw [Array.length_toList];exact Nat.le_trans hs (by simp [maxLen])
   have hR:s.data.toList.length≤R:=by
    subst hx
    exact hwt _ (by simp [DataW.weights])
   exact ⟨[.str s.data.toList],by simp only [TyR];exact ⟨_,hR,rfl⟩,by simp only [VRs,VR];exact ⟨_,_,rfl,⟨by simp,hs'⟩,rfl⟩,rfl⟩
  ·rename_i e hu
   split at hT
   case isFalse=>cases hT
   rename_i hc
   simp only [Option.map_eq_some_iff] at hT
   obtain ⟨T,hT,rfl⟩:=hT
   rcases Go.Deep.open_slice hu h0 with ⟨hcs,_⟩ | ⟨a,len,cap,m,n',D,Pl,hcs,_,hl,hm,hmm,hx,hi⟩
   ·subst hcs
    exact ⟨[.lst false []],by simp only [TyR];exact ⟨[],by simp,by simp,by simp⟩,by simp only [VRs,VR];exact ⟨_,_,rfl,⟨none,0,rfl,by simp,by simp,by simp,by simp,by simp [Zaa]⟩,rfl⟩,rfl⟩
   ·have hlm:len≤m:=by split at hmm <;> omega
    unfold ZfN at hby
    rw [hu] at hby
    simp only [Bool.and_eq_true,decide_eq_true_eq] at hby
    have hlR:len≤R:=by
     have:=hwt _ (by rw [hx];simp only [DataW.weights,hu];exact List.mem_cons_self ..)
     simp only [List.length_map,List.length_range] at this
     have h1:=Nat.le_mul_of_pos_right (len+(m - len)) hby.1
     omega
    have hspot:0 < len→a.spot=none:=by
     intro h0
     obtain ⟨cs',h1,h2⟩:=hi 0 (by omega)
     obtain ⟨_,h6,h7⟩:=World.cells?_some h1
     have h8:=h7 0 hc
     obtain ⟨u,hu⟩:∃ u,cs'[0]?=some u:=⟨cs'[0]'(by omega),by simp⟩
     rw [hu] at h8
     simp only [Nat.zero_mul,Addr.add,if_true] at h8
     exact Zzi (b:=a.block) (off:=a.off) (s:=a.spot) (u:=u) h8
    have hall:∀ i,∃ xs,i < len→TyR R T xs∧(Zb4 (ZdD (P.underlying e)) xs).cells=xs∧xs.length=P.cellsOf e∧CR (Imm.of w) B0 xs a.block (a.off+i*P.cellsOf e)∧ZaH xs=true:=by
     intro i
     by_cases hlt:i < len
     ·obtain ⟨cs',h1,h2⟩:=hi i (by omega)
      obtain ⟨xs,h3,h4,h5⟩:=Znn n n' e cs' _ T hT hby.2 (fun q hq=>hwt q (by rw [hx];exact ZKG hu (List.mem_map.2 ⟨i,List.mem_range.2 hlt,rfl⟩) hq)) h2
      obtain ⟨_,h6,h7⟩:=World.cells?_some h1
      have hlen:=ZaX h4
      refine ⟨xs,fun _=>⟨h3,ZKU (fun hs=>ZvF hT hs h3) (fun _=>Zvp h5),by omega,Zu3 xs cs' _ h4 (fun j hj=>?_),h5⟩⟩
      have h8:=h7 j (by omega)
      rw [Go.Deep.add_add,Zx7 (hspot (by omega)),←Nat.add_assoc] at h8
      exact h8
     ·exact ⟨[],fun h=>absurd h hlt⟩
    obtain ⟨Y,hY⟩:=Classical.axiomOfChoice hall
    subst hcs
    have hmx:maxLen=9223372036854775807:=by simp [maxLen]
    rw [hmx] at hm
    refine ⟨[.lst false ((List.range len).map fun i=>Zb4 (ZdD (P.underlying e)) (Y i))],?_,?_,?_⟩
    ·simp only [TyR]
     refine ⟨(List.range len).map Y,by rw [List.map_map];rfl,by simpa using hlR,?_⟩
     intro y hy
     obtain ⟨i,hi',rfl⟩:=List.mem_map.1 hy
     exact (hY i (List.mem_range.1 hi')).1
    ·simp only [VRs,VR,List.length_map,List.length_range]
     refine ⟨_,_,rfl,⟨some a,cap,rfl,hl,hm,by simp,?_,ZmC len Y fun i hlt=>by rw [(hY i hlt).2.1];exact (hY i hlt).2.2.2.2⟩,rfl⟩
     cases len with
     | zero=>exact Or.inl (by simp)
     | succ len =>
      refine Or.inr ⟨a.block,a.off,P.cellsOf e,?_,hc,ZqK (len+1) a.off Y fun i hlt=>?_⟩
      ·have:=hspot (by omega)
       cases a;simp_all
      ·rw [(hY i hlt).2.1];exact ⟨(hY i hlt).2.2.1,(hY i hlt).2.2.2.1⟩
    ·simp only [ZaH,ZaN,Bool.and_true]
     exact ZmC len Y fun i hlt=>by rw [(hY i hlt).2.1];exact (hY i hlt).2.2.2.2
  ·rename_i fs hu
   split at hT
   case isFalse=>cases hT
   rename_i ho
   simp only [Option.map_eq_some_iff] at hT
   obtain ⟨Ts,hT,rfl⟩:=hT
   rw [hu] at h
   simp only at h
   split at h
   ·rename_i hl
    simp only [Option.map_eq_some_iff] at h
    obtain ⟨ys,hy,rfl⟩:=h
    unfold ZfN at hby
    rw [hu] at hby
    simp only [DataW.weights,hu] at hwt
    obtain ⟨xs,h1,h2,h3⟩:=Zst (fun t cs x T h h1 h2 h'=>Znn n fuel t cs x T h h1 h2 h') fs.toList 0 Ts ys hby hwt (by rw [hl];exact ho) hT hy
    exact ⟨xs,by simp only [TyR];exact h1,h2,h3⟩
   ·cases h
  ·cases hT
def Zo3 (R:Nat) (s:Bool) (T:Ty) (x:AVal):Prop:=∃ xs,TyR R T xs∧x=Zb4 s xs
theorem Zud {n:Nat} {t:TypeId} {v:Value} {d:DataW H} {ps:List MemPlace} {T:Ty} {r:Reach} {b0:Nat} (hT:Zdf P n t=some T) (hby:ZfN P n t=true) (hwt:∀ m ∈ d.weights P t,m≤R) (hv:Value.okWide P w r b0 t v) (h:DataW.Trod enc P w 0 spare held t v d ps) :
  ∃ x,Zo3 R (ZdD (P.underlying t)) T x∧VR (Imm.of w) B0 x v∧ZaH x.cells=true:=by
 obtain ⟨fuel,h⟩:=h
 obtain ⟨xs,h1,h2,h3⟩:=Znn n fuel t _ _ T hT hby hwt h
 refine ⟨Zb4 (ZdD (P.underlying t)) xs,⟨xs,h1,rfl⟩,?_⟩
 by_cases hs:ZdD (P.underlying t)=true
 ·have : ∃ cs,v=.agg cs:=by
   unfold Value.okWide at hv
   cases hu:P.underlying t with
   | none=>rw [hu] at hs;simp [ZdD] at hs
   | some dd =>
    rw [hu] at hv hs
    cases dd <;> first | (simp [ZdD] at hs;done) | (obtain ⟨cs,e,_⟩:=hv;exact ⟨cs,e⟩)
  obtain ⟨cs,rfl⟩:=this
  rw [hs]
  exact ⟨by simp only [Zb4,if_true,VR];exact ⟨cs,rfl,h2⟩,h3⟩
 ·have hs':ZdD (P.underlying t)=false:=by simpa using hs
  have hl:=ZvF hT hs' h1
  have hlen:=ZaX h2
  rw [hs']
  match xs,hl with
  | [x],_ =>
   simp only [Zb4,Bool.false_eq_true,if_false,List.headD_cons]
   have hvc:v.cells=#[v]:=by
    cases n with
    | zero=>simp [Zdf] at hT
    | succ n =>
     simp only [Zdf] at hT
     split at hT
     ·rename_i hu;obtain ⟨b,rfl⟩:=Go.WideShapes.okWide_bool hu hv;rfl
     ·rename_i k hu;obtain ⟨b,rfl⟩:=Go.WideShapes.okWide_int hu hv;rfl
     ·rename_i hu;obtain ⟨b,rfl⟩:=Go.WideShapes.okWide_string hu hv;rfl
     ·rename_i e hu;obtain ⟨a,l,c,rfl⟩:=Go.WideShapes.okWide_slice hu hv;rfl
     ·rename_i fs hu;rw [hu] at hs';simp [ZdD] at hs'
     ·cases hT
   rw [hvc] at h2
   simp only [VRs] at h2
   obtain ⟨v',vs',e,h2,_⟩:=h2
   simp only [List.cons.injEq] at e
   rw [e.1]
   refine ⟨h2,?_⟩
   have hok:=Zvp h3 x (by simp)
   have hx:x.cells=[x]:=by cases x <;> first | rfl | (simp [ZS] at hok;done)
   rw [hx];exact h3
end
end Go.Proofs.YtmlkhhidifjjfaaDoor
namespace Go.Proofs.YtmlkhhidifjjfaaDoor
open Go.RowKit
variable {R:Nat}
theorem ZhX {α:Type} {T:Ty} {s:Bool} {f:α→AVal} {Q:α→Prop} (h:∀ y,TyR R T y→∃ a,Q a∧Zb4 s y=f a) {xs:List AVal} (hx:TyR R (.slice s T) xs):∃ l:List α,(l.length≤R∧∀ a ∈ l,Q a)∧xs=[.lst false (l.map f)]:=by
 simp only [TyR] at hx
 obtain ⟨ys,rfl,h1,h2⟩:=hx
 have : ∀ ys:List (List AVal),(∀ y ∈ ys,TyR R T y)→∃ l:List α,(∀ a ∈ l,Q a)∧ys.map (Zb4 s)=l.map f:=by
  intro ys
  induction ys with
  | nil=>intro _;exact ⟨[],by simp,rfl⟩
  | cons y ys ih =>
   intro hy
   obtain ⟨a,hq,ha⟩:=h y (hy y (by simp))
   obtain ⟨l,hql,hl⟩:=ih fun y' h'=>hy y' (by simp [h'])
   exact ⟨a::l,by simpa using ⟨hq,hql⟩,by simp [ha,hl]⟩
 obtain ⟨l,hq,hl⟩:=this ys h2
 refine ⟨l,⟨?_,hq⟩,by rw [hl]⟩
 have:=congrArg List.length hl
 simp only [List.length_map] at this
 omega
theorem ZsC {y:List AVal} (h:TyR R (.int .u8) y):∃ b,True∧Zb4 false y=Zc b:=by
 simp only [TyR] at h
 obtain ⟨n,hw,rfl⟩:=h
 have h1:0≤n∧n≤255:=by
  simp only [Lit.wf,Bool.and_eq_true,decide_eq_true_eq] at hw
  exact hw
 refine ⟨UInt8.ofNat n.toNat,trivial,?_⟩
 simp only [Zb4,Bool.false_eq_true,if_false,List.headD_cons,Zc,AVal.int.injEq,true_and]
 rw [UInt8.toNat_ofNat']
 omega
theorem ZlZ {xs:List AVal} (h:TyR R (.slice false (.int .u8)) xs):∃ b:Zb,b.length≤R∧xs=[ZH b]:=by
 obtain ⟨b,h1,h2⟩:=ZhX (Q:=fun _=>True) (fun _=>ZsC) h
 exact ⟨b,h1.1,h2⟩
def okI (n:Int):Prop:=-9223372036854775808≤n∧n≤9223372036854775807
theorem Zdw {y:List AVal} (h:TyR R (.int .i64) y):∃ n,okI n∧y=[.int .i64 n]:=by
 simp only [TyR] at h
 obtain ⟨n,hw,rfl⟩:=h
 refine ⟨n,?_,rfl⟩
 simp only [Lit.wf,Bool.and_eq_true,decide_eq_true_eq] at hw
 exact hw
theorem Zem {y:List AVal} (h:TyR R .bool y):∃ b,y=[.bool b]:=by
 simp only [TyR] at h;exact h
theorem Zfw {y:List AVal} (h:TyR R .str y):∃ l:Zb,l.length≤R∧y=[.str l]:=by
 simp only [TyR] at h;exact h
theorem ZFz {xs:List AVal} (h:TyR R (.slice false .str) xs):∃ l:List Zb,(l.length≤R∧∀ x ∈ l,x.length≤R)∧xs=[.lst false (l.map AVal.str)] :=
 ZhX (fun y hy=>by obtain ⟨l,h1,rfl⟩:=Zfw hy;exact ⟨l,h1,rfl⟩) h
theorem ZAQ {xs:List AVal} (h:TyR R (.slice false (.int .i64)) xs):∃ l:List Int,(l.length≤R∧∀ n ∈ l,okI n)∧xs=[.lst false (l.map (AVal.int .i64))] :=
 ZhX (fun y hy=>by obtain ⟨n,h1,rfl⟩:=Zdw hy;exact ⟨n,h1,rfl⟩) h
def Zid:Ty:=.struct [.int .i64,.int .i64,.str,.str,.slice false (.int .u8)]
def Zoe (R:Nat) (p:Zu):Prop:=okI p.id∧okI p.num∧p.text.length≤R∧p.pair.length≤R∧p.data.length≤R
theorem ZLR {y:List AVal} (h:TyR R Zid y):∃ p,Zoe R p∧Zb4 true y=Zl p:=by
 unfold Zid at h
 rw [TyR] at h
 simp only [ZeR] at h
 obtain ⟨_,_,rfl,h1,_,_,rfl,h2,_,_,rfl,h3,_,_,rfl,h4,_,_,rfl,h5,rfl⟩:=h
 obtain ⟨i,i1,rfl⟩:=Zdw h1
 obtain ⟨n,n1,rfl⟩:=Zdw h2
 obtain ⟨t,t1,rfl⟩:=Zfw h3
 obtain ⟨q,q1,rfl⟩:=Zfw h4
 obtain ⟨d,d1,rfl⟩:=ZlZ h5
 exact ⟨⟨i,n,t,q,d⟩,⟨i1,n1,t1,q1,d1⟩,rfl⟩
def Zmy (R:Nat) (l:List Zu):Prop:=l.length≤R∧∀ p ∈ l,Zoe R p
theorem Zve {xs:List AVal} (h:TyR R (.slice true Zid) xs):∃ l:List Zu,Zmy R l∧xs=[Zaz l]:=ZhX (fun _=>ZLR) h
def Zps:Ty:=.struct [.str,.int .i64,.bool,.bool,.int .i64,.int .i64]
theorem ZED {y:List AVal} (h:TyR R Zps y):∃ p:Zbt,(p.filter.length≤R∧okI p.qos∧okI p.handling∧okI p.id)∧Zb4 true y=ZU p:=by
 unfold Zps at h
 rw [TyR] at h
 simp only [ZeR] at h
 obtain ⟨_,_,rfl,h1,_,_,rfl,h2,_,_,rfl,h3,_,_,rfl,h4,_,_,rfl,h5,_,_,rfl,h6,rfl⟩:=h
 obtain ⟨f,f1,rfl⟩:=Zfw h1
 obtain ⟨q,q1,rfl⟩:=Zdw h2
 obtain ⟨n,rfl⟩:=Zem h3
 obtain ⟨a,rfl⟩:=Zem h4
 obtain ⟨k,k1,rfl⟩:=Zdw h5
 obtain ⟨i,i1,rfl⟩:=Zdw h6
 exact ⟨⟨f,q,n,a,k,i⟩,⟨f1,q1,k1,i1⟩,rfl⟩
def Zuf:Ty:=.struct [.str,.slice false (.int .u8),.int .i64,.bool,.slice true Zid]
def Zmx:Ty:=.struct [.int .i64,.bool,.int .i64,.bool,.int .i64,.str,.slice false (.int .u8),.int .i64,.slice false (.int .i64),.slice true Zid,.slice true Zps,.slice false .str,.bool,.int .i64,.str,.bool,Zuf,.bool,.str,.bool,.slice false (.int .u8),.bool]
structure ZvC (R:Nat) (p:Zn):Prop where
 topic:p.topic.length≤R
 payload:p.payload.length≤R
 codes:p.codes.length≤R∧∀ n ∈ p.codes,okI n
 props:Zmy R p.props
 subs:p.subs.length≤R∧∀ s ∈ p.subs,s.filter.length≤R∧okI s.qos∧okI s.handling∧okI s.id
 filters:p.filters.length≤R∧∀ f ∈ p.filters,f.length≤R
 client:p.client.length≤R
 wtopic:p.will.topic.length≤R
 wdata:p.will.data.length≤R
 wprops:Zmy R p.will.props
 user:p.user.length≤R
 password:p.password.length≤R
 ints:okI p.type∧okI p.qos∧okI p.id∧okI p.code∧okI p.keep∧okI p.will.qos
theorem ZOk {x:AVal} (h:Zo3 R true Zmx x):∃ p,ZvC R p∧x=ZW p:=by
 obtain ⟨y,h,rfl⟩:=h
 unfold Zmx at h
 rw [TyR] at h
 simp only [ZeR] at h
 obtain ⟨_,_,rfl,h1,_,_,rfl,h2,_,_,rfl,h3,_,_,rfl,h4,_,_,rfl,h5,_,_,rfl,h6,_,_,rfl,h7,_,_,rfl,h8,_,_,rfl,h9,_,_,rfl,h10,_,_,rfl,h11,_,_,rfl,h12,_,_,rfl,h13,_,_,rfl,h14,_,_,rfl,h15,_,_,rfl,h16,_,_,rfl,h17,_,_,rfl,h18,_,_,rfl,h19,_,_,rfl,h20,_,_,rfl,h21,_,_,rfl,h22,rfl⟩:=h
 unfold Zuf at h17
 rw [TyR] at h17
 simp only [ZeR] at h17
 obtain ⟨_,_,rfl,w1,_,_,rfl,w2,_,_,rfl,w3,_,_,rfl,w4,_,_,rfl,w5,rfl⟩:=h17
 obtain ⟨a1,b1,rfl⟩:=Zdw h1
 obtain ⟨a2,rfl⟩:=Zem h2
 obtain ⟨a3,b3,rfl⟩:=Zdw h3
 obtain ⟨a4,rfl⟩:=Zem h4
 obtain ⟨a5,b5,rfl⟩:=Zdw h5
 obtain ⟨a6,b6,rfl⟩:=Zfw h6
 obtain ⟨a7,b7,rfl⟩:=ZlZ h7
 obtain ⟨a8,b8,rfl⟩:=Zdw h8
 obtain ⟨a9,b9,rfl⟩:=ZAQ h9
 obtain ⟨a10,b10,rfl⟩:=Zve h10
 obtain ⟨a11,b11,rfl⟩:=ZhX (fun _=>ZED) h11
 obtain ⟨a12,b12,rfl⟩:=ZFz h12
 obtain ⟨a13,rfl⟩:=Zem h13
 obtain ⟨a14,b14,rfl⟩:=Zdw h14
 obtain ⟨a15,b15,rfl⟩:=Zfw h15
 obtain ⟨a16,rfl⟩:=Zem h16
 obtain ⟨v1,u1,rfl⟩:=Zfw w1
 obtain ⟨v2,u2,rfl⟩:=ZlZ w2
 obtain ⟨v3,u3,rfl⟩:=Zdw w3
 obtain ⟨v4,rfl⟩:=Zem w4
 obtain ⟨v5,u5,rfl⟩:=Zve w5
 obtain ⟨a18,rfl⟩:=Zem h18
 obtain ⟨a19,b19,rfl⟩:=Zfw h19
 obtain ⟨a20,rfl⟩:=Zem h20
 obtain ⟨a21,b21,rfl⟩:=ZlZ h21
 obtain ⟨a22,rfl⟩:=Zem h22
 exact ⟨⟨a1,a2,a3,a4,a5,a6,a7,a8,a9,a10,a11,a12,a13,a14,a15,a16,⟨v1,v2,v3,v4,v5⟩,a18,a19,a20,a21,a22⟩,⟨b6,b7,b9,b10,b11,b12,b15,u1,u2,u5,b19,b21,b1,b3,b5,b8,b14,u3⟩,rfl⟩
end Go.Proofs.YtmlkhhidifjjfaaDoor
namespace Go.Proofs.YtmlkhhidifjjfaaDoor
set_option maxHeartbeats 16000000
set_option maxRecDepth 10000
theorem Zm0 {α:Type} (l:List α):((8:Int) < l.length∧(8:Int)≤l.length)∨(¬(8:Int) < l.length∧l.take 8=l):=by
 by_cases h:(8:Int) < l.length
 ·exact Or.inl ⟨h,by omega⟩
 ·exact Or.inr ⟨h,List.take_of_length_le (by omega)⟩
theorem Zt6 {α:Type} (l:List α):((12:Int) < l.length∧(12:Int)≤l.length)∨(¬(12:Int) < l.length∧l.take 12=l):=by
 by_cases h:(12:Int) < l.length
 ·exact Or.inl ⟨h,by omega⟩
 ·exact Or.inr ⟨h,List.take_of_length_le (by omega)⟩
def Za2 (p:Zn):Zn:={ p with subs:=p.subs.take 8,filters:=p.filters.take 8,codes:=p.codes.take 8,props:=p.props.take 12,payload:=p.payload.take 600,password:=p.password.take 100,will:={ p.will with props:=p.will.props.take 12,data:=p.will.data.take 100 } }
theorem ZDw (p:Zn):E 37 [.agg [.int .i64 p.type,.bool p.dup,.int .i64 p.qos,.bool p.retain,.int .i64 p.id,.str p.topic,.lst false (p.payload.map Zc),.int .i64 p.code,.lst false (p.codes.map (AVal.int .i64)),.lst false (p.props.map Zl),.lst false (p.subs.map ZU),.lst false (p.filters.map AVal.str),.bool p.clean,.int .i64 p.keep,.str p.client,.bool p.hasWill,.str p.will.topic,.lst false (p.will.data.map Zc),.int .i64 p.will.qos,.bool p.will.retain,.lst false (p.will.props.map Zl),.bool p.hasUser,.str p.user,.bool p.hasPassword,.lst false (p.password.map Zc),.bool p.present]] []=some (.agg [.int .i64 (Za2 p).type,.bool (Za2 p).dup,.int .i64 (Za2 p).qos,.bool (Za2 p).retain,.int .i64 (Za2 p).id,.str (Za2 p).topic,.lst false ((Za2 p).payload.map Zc),.int .i64 (Za2 p).code,.lst false ((Za2 p).codes.map (AVal.int .i64)),.lst false ((Za2 p).props.map Zl),.lst false ((Za2 p).subs.map ZU),.lst false ((Za2 p).filters.map AVal.str),.bool (Za2 p).clean,.int .i64 (Za2 p).keep,.str (Za2 p).client,.bool (Za2 p).hasWill,.str (Za2 p).will.topic,.lst false ((Za2 p).will.data.map Zc),.int .i64 (Za2 p).will.qos,.bool (Za2 p).will.retain,.lst false ((Za2 p).will.props.map Zl),.bool (Za2 p).hasUser,.str (Za2 p).user,.bool (Za2 p).hasPassword,.lst false ((Za2 p).password.map Zc),.bool (Za2 p).present],[]):=by
 rw [Zh (by rfl) ZwP]
 have k6:(600:Int).toNat=600:=rfl
 have k1:(100:Int).toNat=100:=rfl
 unfold Za2
 rcases Zm0 p.subs with ⟨h1,h2⟩ | ⟨h1,h2⟩ <;> rcases Zm0 p.filters with ⟨h3,h4⟩ | ⟨h3,h4⟩ <;> rcases Zm0 p.codes with ⟨h5,h6⟩ | ⟨h5,h6⟩ <;> rcases Zt6 p.props with ⟨h7,h8⟩ | ⟨h7,h8⟩ <;> rcases Zt6 p.will.props with ⟨h9,h10⟩ | ⟨h9,h10⟩
 all_goals simp -implicitDefEqProofs only [EQA,ZC,Zs,Nat.reduceAdd,Nat.reduceLT,Nat.reduceLeDiff,Nat.reduceEqDiff,Nat.reduceBEq,decide_true,decide_false,↓reduceIte,Zd,List.contains_cons,ZA5,Zmc,ZE1,oI,oN,gt_iff_lt,ZyG,Zhn,h1,h2,h3,h4,h5,h6,h7,h8,h9,h10,k6,k1,Int.reduceToNat,Int.reduceLE]
theorem ZC8 (p:Zn) (σ:Za) (site own:Nat):Zj E1 BY σ site 37 own true [.agg (Zt p)]=some (.agg (Zt (Za2 p)),σ,{}) :=
 ZbE (Zbv (ZDw p) (by kernel_rfl) (by rw [List.all_cons,ZdH];rfl) (by rw [List.map_cons,ZdC];rfl) rfl (fun _=>rfl) σ site own)
theorem ZyE {p:Zn} {R:Nat} (h:ZvC R p) (hR:R≤9223372036854775807):OkW (Za2 p):=by
 have t:∀ {q:Zu},Zoe R q→Zei q:=fun {q} k=>⟨Nat.le_trans k.2.2.1 hR,Nat.le_trans k.2.2.2.1 hR,Nat.le_trans k.2.2.2.2 hR⟩
 refine ⟨Nat.le_trans h.topic hR,?_,?_,⟨?_,fun q hq=>t (h.props.2 q (List.mem_of_mem_take hq))⟩,⟨?_,fun s hs=>Nat.le_trans (h.subs.2 s (List.mem_of_mem_take hs)).1 hR⟩,⟨?_,fun f hf=>Nat.le_trans (h.filters.2 f (List.mem_of_mem_take hf)) hR⟩,Nat.le_trans h.client hR,Nat.le_trans h.wtopic hR,?_,⟨?_,fun q hq=>t (h.wprops.2 q (List.mem_of_mem_take hq))⟩,Nat.le_trans h.user hR,?_⟩
 all_goals simp only [Za2,List.length_take]
 all_goals omega
theorem ZL9 (p:Zn):(Za2 p).payload.length≤1000000:=by simp only [Za2,List.length_take];omega
end Go.Proofs.YtmlkhhidifjjfaaDoor
namespace Go.Proofs.YtmlkhhidifjjfaaDoor
set_option maxHeartbeats 4000000
def NZ {α:Type} (x:Except Int α):Prop:=∀ e,x=.error e→e≠0
theorem Zbj {α:Type} (a:α):NZ (.ok a:Except Int α):=fun _ h=>by cases h
theorem ZcD {α:Type} {e:Int} (h:e≠0):NZ (.error e:Except Int α):=fun _ k=>by injection k with k;subst k;exact h
theorem Zgb (n:Nat) (l:Zb):NZ (Zav n l):=by unfold Zav;split;exact ZcD (by decide);exact Zbj _
theorem Zgs (l:Zb):NZ (Zak l):=by unfold Zak;split;exact Zbj _;exact ZcD (by decide)
theorem ZuC (l:Zb):NZ (Zcc l):=by unfold Zcc;split;exact Zbj _;exact ZcD (by decide)
theorem Zgm (w:Int) (l:Zb):NZ (Zbs w l):=by
 unfold Zbs
 split
 ·exact Zbj _
 ·rename_i h;exact ZcD h
theorem ZaS {α β:Type} {x:Except Int α} (h:NZ x) {e:Int} (k:x=.error e):NZ (.error e:Except Int β):=ZcD (h e k)
theorem ZpH (l:Zb):NZ (idK l):=by
 unfold idK
 split
 ·split
  ·exact ZcD (by decide)
  ·exact Zbj _
 ·rename_i h;exact ZaS (Zgb 2 l) h
theorem Zl3 (k:Int) (l:Zb):NZ (Zau k l):=by
 unfold Zau
 split
 ·split
  ·exact Zbj _
  ·exact ZcD (by decide)
 ·rename_i h;exact ZaS (Zgb 1 l) h
theorem ZKi (k:Int) (l:Zb):NZ (Zck k l):=by
 unfold Zck
 split
 ·exact Zbj _
 split
 ·rename_i h;exact ZaS (Zl3 k l) h
 split
 ·exact Zbj _
 split
 ·rename_i h;exact ZaS (Zgm k _) h
 ·exact Zbj _
theorem ZM0 (l:Zb):NZ (Zbo l):=by
 unfold Zbo
 split
 ·rename_i h;exact ZaS (Zgs l) h
 split
 ·rename_i h;exact ZaS (Zgb 1 _) h
 split
 ·split
  ·exact Zbj _
  ·exact ZcD (by decide)
 ·exact ZcD (by decide)
theorem Zs0 {α:Type} {one:Zb→RK α} (h1:∀ l,NZ (one l)) (hlen:∀ {l s r},one l=.ok (s,r)→r.length < l.length):∀ (n:Nat) (l:Zb),l.length≤n→NZ (ZaE one n l)
 | 0,l,h=>by
  unfold ZaE
  rw [if_pos (by omega)]
  exact Zbj _
 | n+1,l,h=>by
  unfold ZaE
  split
  ·exact Zbj _
  split
  ·rename_i k;exact ZaS (h1 l) k
  ·rename_i s r k
   have:=hlen k
   split
   ·rename_i k2;exact ZaS (Zs0 h1 hlen n r (by omega)) k2
   ·exact Zbj _
theorem ZNZ (k:Int) (l:Zb):NZ (Zc3 k l):=by
 unfold Zc3
 split
 ·rename_i h;exact ZaS (ZpH l) h
 split
 ·rename_i h;exact ZaS (Zgm k _) h
 split
 ·exact ZcD (by decide)
 ·exact Zbj _
theorem Zm1 {α:Type} {one:Zb→RK α} (h1:∀ l,NZ (one l)) (hlen:∀ {l s r},one l=.ok (s,r)→r.length < l.length) (k:Int) (l:Zb):NZ (Zbw one k l):=by
 unfold Zbw
 split
 ·rename_i h;exact ZaS (ZNZ k l) h
 split
 ·rename_i h;exact ZaS (Zs0 h1 hlen _ _ (Nat.le_refl _)) h
 ·exact Zbj _
theorem ZiJ {x:Except Int (Zn×Zb)} (h:NZ x):NZ (ZbN x):=by
 unfold ZbN
 split
 ·exact ZaS h rfl
 split
 ·exact Zbj _
 ·exact ZcD (by decide)
theorem ZqM (q:Zn) (l:Zb):NZ (ZdP q l):=by
 unfold ZdP
 split
 ·rename_i h;exact ZaS (ZKi _ l) h
 ·exact Zbj _
theorem ZvT (q:Zn) (l:Zb):NZ (idQ q l):=by
 unfold idQ
 split
 ·rename_i h;exact ZaS (ZpH l) h
 ·exact ZqM _ _
theorem ZAT (q:Zn) (l:Zb):NZ (ZdF q l):=by
 unfold ZdF
 split
 ·rename_i h;exact ZaS (Zgb 1 l) h
 split
 ·split
  ·rename_i h;exact ZaS (Zl3 2 _) h
  split
  ·rename_i h;exact ZaS (Zgm 2 _) h
  ·exact Zbj _
 ·exact ZcD (by decide)
theorem ZyJ (b:Bool) (q:Zn) (l:Zb):NZ (Zdx b q l):=by
 unfold Zdx
 split
 ·split
  ·rename_i h;exact ZaS (ZuC l) h
  ·exact Zbj _
 ·exact Zbj _
theorem ZJL (b:Bool) (q:Zn) (l:Zb):NZ (Zde b q l):=by
 unfold Zde
 split
 ·split
  ·rename_i h;exact ZaS (Zgs l) h
  ·exact Zbj _
 ·exact Zbj _
theorem ZAV (l:Zb):NZ (ZcM l):=by
 unfold ZcM
 split
 ·rename_i h;exact ZaS (Zgm 16 l) h
 split
 ·rename_i h;exact ZaS (Zgs _) h
 split
 ·rename_i h;exact ZaS (ZuC _) h
 ·exact Zbj _
theorem Zwt (b:Bool) (q:Zn) (l:Zb):NZ (Zdk b q l):=by
 unfold Zdk
 split
 ·split
  ·rename_i h;exact ZaS (ZAV l) h
  ·exact Zbj _
 ·exact Zbj _
theorem ZCV (m:Int) (q:Zn) (l:Zb):NZ (ZfC m q l):=by
 unfold ZfC
 split
 ·rename_i h;exact ZaS (Zwt _ q l) h
 split
 ·rename_i h;exact ZaS (ZJL _ _ _) h
 ·exact ZyJ _ _ _
theorem ZCG (q:Zn) (m:Int) (l:Zb):NZ (Zfh q m l):=by
 unfold Zfh
 split
 ·rename_i h;exact ZaS (Zgb 2 l) h
 split
 ·rename_i h;exact ZaS (Zgm 1 _) h
 split
 ·rename_i h;exact ZaS (Zgs _) h
 ·exact ZCV _ _ _
theorem Zw7 (q:Zn) (l:Zb):NZ (ZcT q l):=by
 unfold ZcT
 split
 ·rename_i h;exact ZaS (Zgs l) h
 split
 case isFalse=>exact ZcD (by decide)
 split
 ·rename_i h;exact ZaS (Zgb 1 _) h
 split
 case isFalse=>exact ZcD (by decide)
 split
 ·rename_i h;exact ZaS (Zgb 1 _) h
 split
 case isFalse=>exact ZcD (by decide)
 exact ZCG _ _ _
theorem ZI9 (t:Int) (l:Zb):NZ (Zcs t l):=by
 unfold Zcs
 split
 ·exact ZiJ (Zw7 _ l)
 split
 ·exact ZiJ (ZAT _ l)
 split
 ·exact ZiJ (ZvT _ l)
 split
 ·unfold ZgY
  split
  ·rename_i h;exact ZaS (Zm1 ZM0 Zhb 8 l) h
  ·exact Zbj _
 split
 ·unfold ZhC
  split
  ·rename_i h;exact ZaS (Zm1 Zgs Zj3 10 l) h
  ·exact Zbj _
 split
 ·unfold Zfy
  split
  ·rename_i h;exact ZaS (Zm1 (Zl3 _) Zil _ l) h
  ·exact Zbj _
 split
 ·exact ZiJ (ZqM _ l)
 ·exact ZiJ (Zbj _)
theorem Zvv (q:Int) (l:Zb):NZ (ZcB q l):=by
 unfold ZcB
 split
 ·rename_i h;exact ZaS (Zgs l) h
 split
 ·split
  ·rename_i h;exact ZaS (ZpH _) h
  split
  ·rename_i h;exact ZaS (Zgm 3 _) h
  ·exact Zbj _
 ·split
  ·rename_i h;exact ZaS (Zgm 3 _) h
  ·exact Zbj _
theorem ZiY {t:Int} {x:Except Int (Zn×Zb)} (h:∀ q r,x=.ok (q,r)→q.type=t) {q:Zn} (e:ZbN x=.ok q):q.type=t:=by
 unfold ZbN at e
 split at e
 ·cases e
 rename_i q' r'
 split at e
 ·injection e with e;subst e;exact h _ _ rfl
 ·cases e
theorem ZqF {q q':Zn} {l r:Zb} (e:ZdP q l=.ok (q',r)):q'.type=q.type:=by
 unfold ZdP at e
 split at e
 ·cases e
 ·injection e with e;injection e with e _;subst e;rfl
theorem ZI4 {q q':Zn} {l r:Zb} (e:idQ q l=.ok (q',r)):q'.type=q.type:=by
 unfold idQ at e
 split at e
 ·cases e
 ·rename_i n r1 _
  exact ZqF (q:={ q with id:=n }) e
theorem ZHd {q q':Zn} {l r:Zb} (e:ZdF q l=.ok (q',r)):q'.type=q.type:=by
 unfold ZdF at e
 split at e
 ·cases e
 split at e
 case isFalse=>cases e
 split at e
 ·cases e
 split at e
 ·cases e
 injection e with e;injection e with e _;subst e;rfl
theorem ZFe {b:Bool} {q q':Zn} {l r:Zb} (e:Zdx b q l=.ok (q',r)):q'.type=q.type:=by
 unfold Zdx at e
 split at e
 ·split at e
  ·cases e
  ·injection e with e;injection e with e _;subst e;rfl
 ·injection e with e;injection e with e _;subst e;rfl
theorem ZFp {b:Bool} {q q':Zn} {l r:Zb} (e:Zde b q l=.ok (q',r)):q'.type=q.type:=by
 unfold Zde at e
 split at e
 ·split at e
  ·cases e
  ·injection e with e;injection e with e _;subst e;rfl
 ·injection e with e;injection e with e _;subst e;rfl
theorem ZLT {b:Bool} {q q':Zn} {l r:Zb} (e:Zdk b q l=.ok (q',r)):q'.type=q.type:=by
 unfold Zdk at e
 split at e
 ·split at e
  ·cases e
  ·injection e with e;injection e with e _;subst e;rfl
 ·injection e with e;injection e with e _;subst e;rfl
theorem ZxR {q q':Zn} {l r:Zb} (e:ZcT q l=.ok (q',r)):q'.type=q.type:=by
 unfold ZcT at e
 split at e
 ·cases e
 split at e
 case isFalse=>cases e
 split at e
 ·cases e
 split at e
 case isFalse=>cases e
 split at e
 ·cases e
 split at e
 case isFalse=>cases e
 unfold Zfh at e
 split at e
 ·cases e
 split at e
 ·cases e
 split at e
 ·cases e
 unfold ZfC at e
 split at e
 ·cases e
 rename_i hw
 split at e
 ·cases e
 rename_i hu
 rw [ZFe e,ZFp hu,ZLT hw]
 rfl
theorem ZEH {t:Int} {l:Zb} {q:Zn} (e:Zcs t l=.ok q):q.type=t:=by
 unfold Zcs at e
 split at e
 ·rename_i h;subst h;exact ZiY (fun _ _ h=>ZxR h) e
 split at e
 ·rename_i h;subst h;exact ZiY (fun _ _ h=>ZHd h) e
 split at e
 ·exact ZiY (fun _ _ h=>ZI4 h) e
 split at e
 ·rename_i h;subst h
  unfold ZgY at e
  split at e
  ·cases e
  ·injection e with e;subst e;rfl
 split at e
 ·rename_i h;subst h
  unfold ZhC at e
  split at e
  ·cases e
  ·injection e with e;subst e;rfl
 split at e
 ·unfold Zfy at e
  split at e
  ·cases e
  ·injection e with e;subst e;rfl
 split at e
 ·exact ZiY (fun _ _ h=>ZqF h) e
 ·exact ZiY (fun q r h=>by injection h with h;injection h with h _;subst h;rfl) e
theorem Zmv (b:Int) (l:Zb):((ZaM b l).1=Zai∧(ZaM b l).2≠0)∨((ZaM b l).2=0∧(ZaM b l).1.type=tyI b∧tyI b≠0):=by
 unfold ZaM
 split
 ·exact Or.inl ⟨rfl,by decide⟩
 rename_i h0
 split
 ·rename_i h3
  unfold ZeM
  split
  ·split
   ·split
    ·rename_i h;exact Or.inl ⟨rfl,Zvv _ _ _ h⟩
    ·exact Or.inr ⟨rfl,h3.symm,h0⟩
   ·exact Or.inl ⟨rfl,by decide⟩
  ·exact Or.inl ⟨rfl,by decide⟩
 split
 ·split
  ·rename_i h;exact Or.inl ⟨rfl,ZI9 _ _ _ h⟩
  ·rename_i h;exact Or.inr ⟨rfl,ZEH h,h0⟩
 ·exact Or.inl ⟨rfl,by decide⟩
theorem Zrx {p:Zn} (h:Zfb p):p.type=tyI (ZaR p)∧p.type≠0:=by
 rcases Zmv (ZaR p) (ZaF p) with ⟨_,h2⟩ | ⟨_,h1,h2⟩
 ·rw [h.2] at h2;exact absurd rfl h2
 ·rw [h.2] at h1;exact ⟨h1,by rw [h1];exact h2⟩
theorem Zhp {n:Nat} {l r s:Zb} {a:Int} (h:Zav n l=.ok (a,r)):Zav n (l++s)=.ok (a,r++s):=by
 unfold Zav at h ⊢
 split at h
 ·cases h
 ·rename_i hl
  injection h with h;injection h with e1 e2;subst e1 e2
  rw [if_neg (by rw [List.length_append];omega),List.take_append_of_le_length (by omega),List.drop_append_of_le_length (by omega)]
theorem Zq0 (b s:Zb) (h:(Zar b).2.2=0):Zar (b++s)=Zar b∧(Zar b).2.1≤b.length:=by
 unfold Zar at h ⊢
 split at h
 ·simp at h
 ·rename_i hn
  have ht:(b++s).take 2=b.take 2:=List.take_append_of_le_length (by omega)
  rw [ht,if_neg hn,if_neg (by rw [List.length_append];omega),List.drop_append_of_le_length (by omega),List.take_append_of_le_length (by rw [List.length_drop];omega)]
  exact ⟨rfl,by simp only;omega⟩
theorem Zxg (b s:Zb) (h:(Z1 b).2.2=0):Z1 (b++s)=Z1 b∧(Z1 b).2.1≤b.length:=by
 have hd:(Zar b).2.2=0:=by
  unfold Z1 at h
  split at h
  ·rename_i h1;exact absurd h h1
  ·rename_i h1;exact Classical.byContradiction h1
 obtain ⟨e1,e2⟩:=Zq0 b s hd
 unfold Z1 at h ⊢
 rw [e1]
 refine ⟨rfl,?_⟩
 split
 ·simp
 split
 ·exact e2
 ·simp
theorem Zjl {l r s a:Zb} (h:Zak l=.ok (a,r)):Zak (l++s)=.ok (a,r++s):=by
 unfold Zak at h ⊢
 split at h
 ·rename_i h0
  obtain ⟨e1,e2⟩:=Zxg l s h0
  injection h with h;injection h with h1 h2;subst h1 h2
  rw [e1,if_pos h0,List.drop_append_of_le_length e2]
 ·cases h
theorem ZtN {l r s a:Zb} (h:Zcc l=.ok (a,r)):Zcc (l++s)=.ok (a,r++s):=by
 unfold Zcc at h ⊢
 split at h
 ·rename_i h0
  obtain ⟨e1,e2⟩:=Zq0 l s h0
  injection h with h;injection h with h1 h2;subst h1 h2
  rw [e1,if_pos h0,List.drop_append_of_le_length e2]
 ·cases h
theorem Zh6 {w:Int} {l r s:Zb} {a:List Zu} (h:Zbs w l=.ok (a,r)):Zbs w (l++s)=.ok (a,r++s):=by
 unfold Zbs at h ⊢
 split at h
 ·rename_i h0
  have e1:=ZCz w l s h0
  injection h with h;injection h with h1 h2;subst h1 h2
  rw [e1,if_pos h0,List.drop_append_of_le_length (Zc6 w l)]
 ·cases h
theorem ZHP {l r s:Zb} {a:Int} (h:idK l=.ok (a,r)):idK (l++s)=.ok (a,r++s):=by
 unfold idK at h ⊢
 split at h
 ·rename_i h1
  rw [Zhp h1]
  simp only
  split at h
  ·cases h
  ·rename_i h2
   rw [if_neg h2]
   injection h with h;injection h with e1 e2;subst e1 e2;rfl
 ·cases h
theorem ZBa {k:Int} {l r s:Zb} {a:Int} (h:Zau k l=.ok (a,r)):Zau k (l++s)=.ok (a,r++s):=by
 unfold Zau at h ⊢
 split at h
 ·rename_i h1
  rw [Zhp h1]
  simp only
  split at h
  ·rename_i h2
   rw [if_pos h2]
   injection h with h;injection h with e1 e2;subst e1 e2;rfl
  ·cases h
 ·cases h
theorem ZIN {q q':Zn} {l r s:Zb} (h:ZdF q l=.ok (q',r)):ZdF q (l++s)=.ok (q',r++s):=by
 unfold ZdF at h ⊢
 split at h
 ·cases h
 rename_i h1
 rw [Zhp h1]
 simp only
 split at h
 case isFalse=>cases h
 rename_i h2
 rw [if_pos h2]
 split at h
 ·cases h
 rename_i h3
 rw [ZBa h3]
 simp only
 split at h
 ·cases h
 rename_i h4
 rw [Zh6 h4]
 simp only
 injection h with h;injection h with e1 e2;subst e1 e2;rfl
theorem ZA7 {b:Bool} {q q':Zn} {l r s:Zb} (h:Zdx b q l=.ok (q',r)):Zdx b q (l++s)=.ok (q',r++s):=by
 unfold Zdx at h ⊢
 split at h
 ·rename_i hb
  rw [if_pos hb]
  split at h
  ·cases h
  rename_i h1
  rw [ZtN h1]
  injection h with h;injection h with e1 e2;subst e1 e2;rfl
 ·rename_i hb
  rw [if_neg hb]
  injection h with h;injection h with e1 e2;subst e1 e2;rfl
theorem Zv5 {b:Bool} {q q':Zn} {l r s:Zb} (h:Zde b q l=.ok (q',r)):Zde b q (l++s)=.ok (q',r++s):=by
 unfold Zde at h ⊢
 split at h
 ·rename_i hb
  rw [if_pos hb]
  split at h
  ·cases h
  rename_i h1
  rw [Zjl h1]
  injection h with h;injection h with e1 e2;subst e1 e2;rfl
 ·rename_i hb
  rw [if_neg hb]
  injection h with h;injection h with e1 e2;subst e1 e2;rfl
theorem ZBp {b:Bool} {q q':Zn} {l r s:Zb} (h:Zdk b q l=.ok (q',r)):Zdk b q (l++s)=.ok (q',r++s):=by
 unfold Zdk at h ⊢
 split at h
 ·rename_i hb
  rw [if_pos hb]
  split at h
  ·cases h
  rename_i ps tp d r' h1
  have e:ZcM (l++s)=.ok (ps,tp,d,r'++s):=by
   unfold ZcM at h1 ⊢
   split at h1
   ·cases h1
   rename_i k1
   rw [Zh6 k1]
   simp only
   split at h1
   ·cases h1
   rename_i k2
   rw [Zjl k2]
   simp only
   split at h1
   ·cases h1
   rename_i k3
   rw [ZtN k3]
   injection h1 with h1;injection h1 with e1 h1;injection h1 with e2 h1;injection h1 with e3 e4;subst e1 e2 e3 e4;rfl
  rw [e]
  injection h with h;injection h with e1 e2;subst e1 e2;rfl
 ·rename_i hb
  rw [if_neg hb]
  injection h with h;injection h with e1 e2;subst e1 e2;rfl
theorem ZAl {q q':Zn} {l r s:Zb} (h:ZcT q l=.ok (q',r)):ZcT q (l++s)=.ok (q',r++s):=by
 unfold ZcT at h ⊢
 split at h
 ·cases h
 rename_i h1
 rw [Zjl h1]
 simp only
 split at h
 case isFalse=>cases h
 rename_i c1
 rw [if_pos c1]
 split at h
 ·cases h
 rename_i h2
 rw [Zhp h2]
 simp only
 split at h
 case isFalse=>cases h
 rename_i c2
 rw [if_pos c2]
 split at h
 ·cases h
 rename_i h3
 rw [Zhp h3]
 simp only
 split at h
 case isFalse=>cases h
 rename_i c3
 rw [if_pos c3]
 unfold Zfh at h ⊢
 split at h
 ·cases h
 rename_i h4
 rw [Zhp h4]
 simp only
 split at h
 ·cases h
 rename_i h5
 rw [Zh6 h5]
 simp only
 split at h
 ·cases h
 rename_i h6
 rw [Zjl h6]
 simp only
 unfold ZfC at h ⊢
 split at h
 ·cases h
 rename_i h7
 rw [ZBp h7]
 simp only
 split at h
 ·cases h
 rename_i h8
 rw [Zv5 h8]
 simp only
 exact ZA7 h
theorem ZAB {q:Int} {l s tp:Zb} {n:Int} {ps:List Zu} {pay:Zb} (h:ZcB q l=.ok (tp,n,ps,pay)):ZcB q (l++s)=.ok (tp,n,ps,pay++s):=by
 unfold ZcB at h ⊢
 split at h
 ·cases h
 rename_i h1
 rw [Zjl h1]
 simp only
 split at h
 ·rename_i hq
  rw [if_pos hq]
  split at h
  ·cases h
  rename_i h2
  rw [ZHP h2]
  simp only
  split at h
  ·cases h
  rename_i h3
  rw [Zh6 h3]
  injection h with h;injection h with e1 h;injection h with e2 h;injection h with e3 e4;subst e1 e2 e3 e4;rfl
 ·rename_i hq
  rw [if_neg hq]
  split at h
  ·cases h
  rename_i h3
  rw [Zh6 h3]
  injection h with h;injection h with e1 h;injection h with e2 h;injection h with e3 e4;subst e1 e2 e3 e4;rfl
theorem ZtR {x:Except Int (Zn×Zb)} {q:Zn} (h:ZbN x=.ok q):∃ r:Zb,x=.ok (q,r)∧r.length=0:=by
 unfold ZbN at h
 split at h
 ·cases h
 ·split at h
  ·rename_i hr
   injection h with h;subst h
   exact ⟨_,rfl,hr⟩
  ·cases h
theorem Zli {q:Zn} {r:Zb} (h:r.length≠0):ZbN (.ok (q,r))=.error 129:=by
 unfold ZbN
 exact if_neg h
def ZhY (t:Int):Prop:=t=1∨t=2∨t=12∨t=13
theorem ZMG {t:Int} (ht:ZhY t) {l s:Zb} {q:Zn} (h:Zcs t l=.ok q) (hs:s.length≠0):Zcs t (l++s)=.error 129:=by
 unfold Zcs at h ⊢
 rcases ht with rfl | rfl | rfl | rfl
 ·rw [if_pos rfl] at h ⊢
  obtain ⟨r,e1,e2⟩:=ZtR h
  rw [ZAl e1]
  exact Zli (by rw [List.length_append];omega)
 ·rw [if_neg (by decide),if_pos rfl] at h ⊢
  obtain ⟨r,e1,e2⟩:=ZtR h
  rw [ZIN e1]
  exact Zli (by rw [List.length_append];omega)
 ·exact Zli (by rw [List.length_append];omega)
 ·exact Zli (by rw [List.length_append];omega)
theorem ZEz {b:Int} {l:Zb} {q:Zn} (h:ZaM b l=(q,0)) (h3:tyI b≠3):Zcs (tyI b) l=.ok q∧tyI b≠0∧Zbm b 15=Zdn (tyI b):=by
 have ho:=Zmv b l
 unfold ZaM at h ho
 split at h
 ·injection h with _ h;cases h
 rename_i h0
 rw [if_neg h0] at ho
 simp only [if_neg h3] at ho h
 split at h
 ·rename_i hf
  refine ⟨?_,h0,hf⟩
  rw [if_pos hf] at ho
  cases hb:Zcs (tyI b) l with
  | error e =>
   rw [hb] at h ho
   simp only at h ho
   injection h with e1 e2
   subst e2
   rcases ho with ⟨_,h2⟩ | ⟨_,h2,h4⟩
   ·exact absurd rfl h2
   ·rw [←h2] at h4;exact absurd rfl h4
  | ok q' =>
   rw [hb] at h
   injection h with e1 _
   rw [e1]
 ·injection h with _ h;cases h
theorem ZOq {b:Int} (h0:tyI b≠0) (h3:tyI b≠3) (hf:Zbm b 15=Zdn (tyI b)) (l:Zb):ZaM b l=match Zcs (tyI b) l with
  | .error e=>(Zai,e)
  | .ok q=>(q,0):=by
 unfold ZaM
 rw [if_neg h0,if_neg h3,if_pos hf]
 all_goals rfl
theorem Zy6 {p:Zn} (h:Zfb p) (ht:ZhY p.type) {s:Zb} (hs:s.length≠0):ZaM (ZaR p) (ZaF p++s)=(Zai,129):=by
 obtain ⟨t1,_⟩:=Zrx h
 rw [t1] at ht
 have h3:tyI (ZaR p)≠3:=by rcases ht with h | h | h | h <;> rw [h] <;> decide
 obtain ⟨b1,b2,b3⟩:=ZEz h.2 h3
 rw [ZOq b2 h3 b3,ZMG ht b1 hs]
theorem ZEn {p:Zn} (h:Zfb p) (ht:p.type=3) (s:Zb):ZaM (ZaR p) (ZaF p++s)=({ p with payload:=p.payload++s },0):=by
 obtain ⟨t1,_⟩:=Zrx h
 have h3:tyI (ZaR p)=3:=by rw [←t1];exact ht
 have hg:=h.2
 have h0:tyI (ZaR p)≠0:=by rw [h3];decide
 clear h ht t1
 generalize ZaR p=b at *
 generalize ZaF p=B at *
 unfold ZaM at hg ⊢
 rw [if_neg h0,if_pos h3] at hg ⊢
 unfold ZeM at hg ⊢
 split at hg
 case isFalse=>injection hg with _ hg;cases hg
 rename_i c1
 rw [if_pos c1]
 split at hg
 case isFalse=>injection hg with _ hg;cases hg
 rename_i c2
 rw [if_pos c2]
 cases hp:ZcB (qoI b) B with
 | error e =>
  rw [hp] at hg
  injection hg with _ hg
  exact absurd hg (Zvv _ _ _ hp)
 | ok x =>
  obtain ⟨tp,n,ps,pay⟩:=x
  rw [hp] at hg
  rw [ZAB hp]
  injection hg with hg _
  subst hg
  rfl
end Go.Proofs.YtmlkhhidifjjfaaDoor
namespace Go.Proofs.YtmlkhhidifjjfaaDoor
set_option maxHeartbeats 16000000
set_option maxRecDepth 10000
theorem ZD3:E 36 [ZW Zai,ZW Zai] []=some (.bool true,[]):=by
 have h1:ZW Zai=.agg [.int .i64 0,.bool false,.int .i64 0,.bool false,.int .i64 0,.str [],.lst false [],.int .i64 0,.lst false [],.lst false [],.lst false [],.lst false [],.bool false,.int .i64 0,.str [],.bool false,.str [],.lst false [],.int .i64 0,.bool false,.lst false [],.bool false,.str [],.bool false,.lst false [],.bool false]:=rfl
 rw [h1]
 have hb:bytesOf []=some []:=rfl
 have zl:¬(((0:Nat):Int) < ((0:Nat):Int)):=by omega
 have zl2:¬((0:Int) < ((0:Nat):Int)):=by omega
 have zn:(((0:Nat):Int) != ((0:Nat):Int))=false:=rfl
 have hps:∀ (σ:Za) (site own:Nat),Zj E BY σ site 72 own true [.lst false [],.lst false []]=some (.bool true,σ,{}):=fun σ site own=>Zze σ site own true [] [] (by decide)
 rw [Zh (by rfl) ZKe]
 simp -implicitDefEqProofs only [EQA,Z2,ZbR,Nat.reduceAdd,Nat.reduceLT,Nat.reduceEqDiff,Nat.reduceBEq,Zds,unA,ZE,unG,ne_eq,Option.some.injEq,reduceCtorEq,decide_false,ZV,↓reduceIte,gcT,gcA,ZB,Zz,Zm,Zv,Z0,Zp,ZR,ZF,ZM,List.contains_cons,ZFc,Zn8,oI,AVal.cells,hb,zn,hps,bne_self_eq_false]
 rw [Z8]
 simp -implicitDefEqProofs only [EQA,Z2,ZbR,Nat.reduceAdd,Nat.reduceLT,Nat.reduceEqDiff,Nat.reduceBEq,ne_eq,reduceCtorEq,decide_false,↓reduceIte,gcT,gcA,ZB,Zz,Zm,Zv,Z0,Zp,ZR,ZF,ZM,List.contains_cons,ZxN,ZoT,ZMr,Zok,oI,zl2]
 rw [Z8]
 simp -implicitDefEqProofs only [EQA,Z2,ZbR,Nat.reduceAdd,Nat.reduceLT,Nat.reduceEqDiff,Nat.reduceBEq,ne_eq,reduceCtorEq,decide_false,↓reduceIte,gcT,gcA,ZB,Zz,Zm,Zv,Z0,Zp,ZR,ZF,ZM,List.contains_cons,ZFd,ZmH,Zys,Zpx,oI,zl2]
 rw [Z8]
 simp -implicitDefEqProofs only [EQA,Nat.reduceAdd,Nat.reduceLT,Nat.reduceLeDiff,Nat.reduceEqDiff,Nat.reduceBEq,Zds,ZE,unG,ne_eq,Option.some.injEq,decide_false,ZV,↓reduceIte,List.contains_cons,ZzZ,ZHN,Zl7,ZIQ,Zn7,oI,oN,AVal.cells,hb,zl2,hps,ZS,Zab,Zaf,Zae,Zan,Zao,Zag,List.lookup_nil]
end Go.Proofs.YtmlkhhidifjjfaaDoor
namespace Go.Proofs.YtmlkhhidifjjfaaDoor
set_option maxHeartbeats 16000000
set_option maxRecDepth 10000
theorem ZAa (args:List AVal) (hp:args.all Z9=true) (hn:args.map ZG=[ZW Zai,ZW Zai]) (σ:Za) (site own:Nat):Zj E1 BY σ site 36 own true args=some (.bool true,σ,{}) :=
 ZbE (Zbv ZD3 (by kernel_rfl) hp hn rfl (fun _=>rfl) σ site own)
end Go.Proofs.YtmlkhhidifjjfaaDoor
namespace Go.Proofs.YtmlkhhidifjjfaaDoor
set_option maxHeartbeats 16000000
set_option maxRecDepth 10000
theorem ZCC (σ:Za) (site:Nat) (L:Zb) (hl:L.length≤1000000000):ZaJ σ site 1 1 (.lst true []) (.lst false (L.map Zc))=some (.sl site 0 0 L.length,σ.set site (.row 0 1 (L.map Zc)),{}):=by
 have hk:=Ze4 L
 have h2:L.length*1≤140737488355328:=by omega
 simp only [ZaJ,ZV,hk,if_true,List.length_map,h2]
theorem Zwp {σ:Za} {site t n:Nat} {L:Zb} (b:UInt8) (hs:σ[t]?=some (.row 0 1 (L.map Zc))) (hn:n=L.length) (hl:L.length≤1000000000) (f:Bool):ZaJ σ site 1 1 (.sl t 0 0 n) (.lst f [.int .u8 (b.toNat:Nat)])=some (.sl t 1 0 (L++[b]).length,σ.set t (.row 1 1 ((L++[b]).map Zc)),{ wr:=[t] }):=by
 subst hn
 have hk:kOk 1 [AVal.int .u8 (b.toNat:Nat)]=true:=rfl
 have h2:(L.length+([AVal.int .u8 (b.toNat:Nat)]:List AVal).length)*1≤140737488355328:=by simp;omega
 simp only [ZaJ,ZV,hk,if_true,hs,h2,and_self,List.length_map]
 simp only [List.length_append,List.length_cons,List.length_nil,List.map_append,List.map_cons,List.map_nil,Nat.zero_add]
 rfl
theorem ZAL (p:Zn) (b:UInt8) (hp:OkW (Za2 p)):E1 7 [ZW p,Zc b] []=some (.bool true,[]):=by
 have fp:=ZC8 p
 have fw:=fun σ site own=>ZGM σ site own true
 have fn:=fun σ site own e=>ZbE (Zq7 σ site own true e)
 have yp:=ZL9 p
 rw [Zbk]
 have e0:=ZbK p
 have e1:=Zci p
 have e2:(Zt p).drop 26=[]:=rfl
 have pa:=ZIT (Za2 p) hp yp (Za2 p)
 generalize Za2 p=a at *
 have a0:=ZbK a
 have a1:=Zci a
 have ao:(Zt a).all ZS=true:=rfl
 have ty:(Zt a)[0]?=some (.int .i64 a.type):=rfl
 have a6:(Zt a)[6]?=some (.lst false (a.payload.map Zc)):=rfl
 unfold Zc
 by_cases ga:Zfb a
 ·have fF:=ZzP a hp yp ga [.agg (Zt a)] pa.1 pa.2
  have hx:Zc (Zkr a)=.int .u8 (ZaR a):=by rw [←Zrw];rfl
  unfold Zik at fF
  rw [hx] at fF
  have hB:=ga.1
  have ap1:=fun σ site=>ZCC σ site (ZaF a) (by omega)
  have ap2:∀ (σ:Za) (site:Nat) (f:Bool),σ[2]?=some (.row 0 1 ((ZaF a).map Zc))→_:=fun σ site f hs=>Zwp (site:=site) b hs rfl (by omega) f
  have fR:∀ (σ:Za) (site own:Nat),σ[2]?=some (.row 1 1 ((ZaF a++[b]).map Zc))→_:=fun σ site own hs=>ZKV (ZaR a) (ZoC a) (ZaF a++[b]) (by simp) (by rw [List.length_append];simp;omega) σ site own 2 1 _ rfl hs
  have fz:=ZAa [.agg (Zt Zai),.agg [.int .i64 0,.bool false,.int .i64 0,.bool false,.int .i64 0,.str [],.lst true [],.int .i64 0,.lst true [],.lst true [],.lst true [],.lst true [],.bool false,.int .i64 0,.str [],.bool false,.str [],.lst true [],.int .i64 0,.bool false,.lst true [],.bool false,.str [],.bool false,.lst true [],.bool false]] rfl rfl
  have hnz:(Zt Zai).all ZS=true:=rfl
  have lz:=ZbK Zai
  have lt:=Zci Zai
  have hkind:ZhY a.type∨a.type=3∨((a.type == 1)=false∧(a.type == 2)=false∧(a.type == 12)=false∧(a.type == 13)=false∧(a.type == 3)=false):=by
   unfold ZhY
   by_cases h1:a.type=1
   ·exact Or.inl (Or.inl h1)
   by_cases h2:a.type=2
   ·exact Or.inl (Or.inr (Or.inl h2))
   by_cases h3:a.type=12
   ·exact Or.inl (Or.inr (Or.inr (Or.inl h3)))
   by_cases h4:a.type=13
   ·exact Or.inl (Or.inr (Or.inr (Or.inr h4)))
   by_cases h5:a.type=3
   ·exact Or.inr (Or.inl h5)
   exact Or.inr (Or.inr ⟨by simpa using h1,by simpa using h2,by simpa using h3,by simpa using h4,by simpa using h5⟩)
  rcases hkind with hk | hk | ⟨k1,k2,k3,k4,k5⟩
  ·have hm:=Zy6 ga hk (s:=[b]) (by simp)
   rw [hm,Zbk] at fR
   generalize Zt Zai=Z at *
   generalize ZaR a=x at *
   generalize (ZaF a++[b]).length=n2 at *
   generalize (ZaF a++[b]).map Zc=B2 at *
   generalize (ZaF a).length=n1 at *
   generalize (ZaF a).map Zc=B1 at *
   clear pa hm hp ga yp hB
   generalize a.payload=py at *
   generalize Zt a=A at *
   generalize Zt p=P at *
   rw [Zbe (by rfl) Zif]
   unfold ZhY at hk
   generalize a.type=tp at *
   rcases hk with rfl | rfl | rfl | rfl
   all_goals simp -implicitDefEqProofs only [EQA,Za3,ZbR,Nat.reduceAdd,Nat.reduceLT,Nat.reduceLeDiff,Nat.reduceEqDiff,Nat.reduceBEq,ZE,unG,ne_eq,Option.some.injEq,reduceCtorEq,decide_true,decide_false,↓reduceIte,List.contains_cons,ZiG,Zgn,Zjb,oI,oN,AVal.cells,Zam,ZS,e0,e1,e2,a0,a1,ao,ty,fp,fF,fw,fn,ap1,ap2,fR,fz,hnz,lz,lt,bne_self_eq_false,Int.reduceBEq,viewAs,ZN,ZK,Zo,List.foldl_cons,List.foldl_nil,Zab,Zaf,Zae,Zan,Zao,Zag,List.lookup_nil]
  ·have hm:=ZEn ga hk [b]
   rw [hm,Zbk] at fR
   have q6:(Zt { a with payload:=a.payload++[b] })[6]?=some (.lst false ((a.payload++[b]).map Zc)):=rfl
   have l0:=ZbK { a with payload:=a.payload++[b] }
   have l1:=Zci { a with payload:=a.payload++[b] }
   have lo:(Zt { a with payload:=a.payload++[b] }).all ZS=true:=rfl
   have hl1:((a.payload++[b]).map Zc).length=a.payload.length+1:=by simp
   have hl2:(a.payload.map Zc).length=a.payload.length:=by simp
   have w1:IntKind.i64.wrap (((a.payload.length:Nat):Int)+1)=((a.payload.length+1:Nat):Int):=by
    rw [show (((a.payload.length:Nat):Int)+1)=((a.payload.length+1:Nat):Int) from by omega];exact Zb2 (by omega) (by omega)
   have tt:∀ z:Int,(z == z)=true:=fun z=>by simp
   rw [hk] at ty
   generalize Zt { a with payload:=a.payload++[b] }=Q at *
   generalize (a.payload++[b]).map Zc=PB2 at *
   generalize ZaR a=x at *
   generalize (ZaF a++[b]).length=n2 at *
   generalize (ZaF a++[b]).map Zc=B2 at *
   generalize (ZaF a).length=n1 at *
   generalize (ZaF a).map Zc=B1 at *
   clear pa hm hp ga yp fz hB
   generalize a.payload.map Zc=PB1 at *
   generalize a.payload.length=pl at *
   generalize Zt a=A at *
   generalize Zt p=P at *
   rw [Zbe (by rfl) Zif]
   simp -implicitDefEqProofs only [EQA,Za3,ZbR,Nat.reduceAdd,Nat.reduceLT,Nat.reduceLeDiff,Nat.reduceEqDiff,Nat.reduceBEq,ZE,unG,ne_eq,Option.some.injEq,reduceCtorEq,decide_true,decide_false,↓reduceIte,List.contains_cons,ZiG,Zgn,Zjb,oI,oN,AVal.cells,Zam,ZS,e0,e1,e2,a0,a1,ao,ty,a6,fp,fF,fw,fn,ap1,ap2,fR,q6,l0,lo,hl1,hl2,w1,bne_self_eq_false,Int.reduceBEq,viewAs,ZN,ZK,Zo,List.foldl_cons,List.foldl_nil,Zab,Zaf,Zae,Zan,Zao,Zag,List.lookup_nil]
  ·have ho:=Zmv (ZaR a) (ZaF a++[b])
   rw [Zbk] at fR
   rcases ho with ⟨ho1,ho2⟩ | ⟨ho1,_⟩
   ·rw [ho1] at fR
    have cz:((ZaM (ZaR a) (ZaF a++[b])).2 == 0)=false:=by simpa using ho2
    generalize (ZaM (ZaR a) (ZaF a++[b])).2=c at *
    generalize Zt Zai=Z at *
    generalize ZaR a=x at *
    generalize (ZaF a++[b]).length=n2 at *
    generalize (ZaF a++[b]).map Zc=B2 at *
    generalize (ZaF a).length=n1 at *
    generalize (ZaF a).map Zc=B1 at *
    clear pa hp ga yp ho1 hB
    generalize a.type=tp at *
    generalize Zt a=A at *
    generalize Zt p=P at *
    rw [Zbe (by rfl) Zif]
    simp -implicitDefEqProofs only [EQA,Za3,ZbR,Nat.reduceAdd,Nat.reduceLT,Nat.reduceLeDiff,Nat.reduceEqDiff,Nat.reduceBEq,ZE,unG,ne_eq,Option.some.injEq,reduceCtorEq,decide_true,decide_false,↓reduceIte,List.contains_cons,ZiG,Zgn,Zjb,oI,oN,AVal.cells,Zam,ZS,e0,e1,e2,a0,a1,ao,ty,k1,k2,k3,k4,k5,fp,fF,fw,fn,ap1,ap2,fR,fz,cz,hnz,lz,lt,bne_self_eq_false,viewAs,ZN,ZK,Zo,List.foldl_cons,List.foldl_nil,Zab,Zaf,Zae,Zan,Zao,Zag,List.lookup_nil]
   ·rw [ho1] at fR
    have l0:=ZbK (ZaM (ZaR a) (ZaF a++[b])).1
    have l1:=Zci (ZaM (ZaR a) (ZaF a++[b])).1
    have lo:(Zt (ZaM (ZaR a) (ZaF a++[b])).1).all ZS=true:=rfl
    generalize Zt (ZaM (ZaR a) (ZaF a++[b])).1=Q at *
    generalize ZaR a=x at *
    generalize (ZaF a++[b]).length=n2 at *
    generalize (ZaF a++[b]).map Zc=B2 at *
    generalize (ZaF a).length=n1 at *
    generalize (ZaF a).map Zc=B1 at *
    clear pa hp ga yp ho1 fz hB
    generalize a.type=tp at *
    generalize Zt a=A at *
    generalize Zt p=P at *
    rw [Zbe (by rfl) Zif]
    simp -implicitDefEqProofs only [EQA,Za3,ZbR,Nat.reduceAdd,Nat.reduceLT,Nat.reduceLeDiff,Nat.reduceEqDiff,Nat.reduceBEq,ZE,Zas,unG,ne_eq,Option.some.injEq,reduceCtorEq,decide_true,decide_false,↓reduceIte,List.contains_cons,ZiG,Zgn,Zjb,oI,oN,AVal.cells,Zam,ZS,e0,e1,e2,a0,a1,ao,ty,k1,k2,k3,k4,k5,fp,fF,fw,fn,ap1,ap2,fR,l0,lo,bne_self_eq_false,viewAs,ZN,ZK,Zo,List.foldl_cons,List.foldl_nil,Zab,Zaf,Zae,Zan,Zao,Zag,List.lookup_nil]
 ·have fF:=ZMo a hp yp ga [.agg (Zt a)] pa.1 pa.2
  unfold ZmK at fF
  clear pa
  generalize Zt a=A at *
  generalize Zt p=P at *
  rw [Zbe (by rfl) Zif]
  simp -implicitDefEqProofs only [EQA,Nat.reduceAdd,Nat.reduceLT,Nat.reduceLeDiff,Nat.reduceEqDiff,Nat.reduceBEq,reduceCtorEq,↓reduceIte,ZiG,Zgn,Zjb,oI,oN,AVal.cells,ZS,e0,e1,e2,a0,a1,ao,fp,fF,fw,fn,Int.reduceBNe]
end Go.Proofs.YtmlkhhidifjjfaaDoor
namespace Go.Proofs.YtmlkhhidifjjfaaDoor
open Go.Shelf Go.RowKit
section
variable {P:Program} {ρ:Ren}
theorem ZlW (W:World) (dT sT ty elem:TypeId) (g o dLen dCap:Nat) (A:Option Addr) (sLen sCap:Nat) (cur:Array Value) (t:TypeId) (cs:List Value)
  (hu:P.underlying dT=some (.slice elem)) (hs:(P.info? elem).map (·.size)=some 1) (hg:W.heap[g]?=some (.cells cur t (0,0))) (hn:cs.length=sLen) (hd:sLen≤dLen)
  (hsrc:sLen=0∨∃ a,A=some a∧∀ j v,cs[j]?=some v→W.cell? (a.add j)=some v) (hfit:o+cs.length≤cur.size) (h1:∀ v ∈ cs,v.oneCell'=true) :
  ∃ W2 Y,(Builtin.copy_ #[dT,sT] ty #[.slice (some ⟨g,o,none⟩) dLen dCap,.slice A sLen sCap]).run P W=.ok (goInt sLen) W2∧W2.heap[g]?=some (.cells Y t (0,0)) ∧
   Y.toList=cur.toList.take o++cs++cur.toList.drop (o+sLen)∧W.grownBy W2 (some g)∧W2.heap.size=W.heap.size:=by
 rcases hsrc with h0 | ⟨a,rfl,hsrc⟩
 ·have hc:cs=[]:=List.eq_nil_of_length_eq_zero (by omega)
  subst hc
  subst h0
  exact ⟨W,cur,run_copy_none W dT sT ty elem _ _ _ _ _ _ hu hs (by simp),hg,by simp,⟨rfl,rfl,rfl,Nat.le_refl _,fun _ _ _=>rfl⟩,rfl⟩
 ·have h:=run_copy_row (P:=P) W dT sT ty elem g o dLen dCap a sLen sCap cur t cs hu hs hg (by rw [hn];exact (Nat.min_eq_left hd).symm) hsrc hfit h1
  rw [hn] at h
  refine ⟨_,_,h,setRow_heap _ _ _ _ _ _ hg,by simp,⟨rfl,rfl,rfl,by simp,fun k _ hk=>setRow_other _ _ _ _ (fun e=>hk (by rw [e]))⟩,by simp⟩
set_option maxHeartbeats 6400000 in
set_option maxRecDepth 100000 in
theorem Zmb (L:LaysM.n290 P ρ) (A:Option Addr) (l c n:Nat) (olds:List Value) (w:World) (ho:olds.length=l) (hlc:l≤c) (hn:1≤n)
  (hlim:l+n≤140737488355328) (hc2:c≤140737488355328) (hsrc:l=0∨∃ a,A=some a∧∀ j v,olds[j]?=some v→w.cell? (a.add j)=some v) (h1:∀ v ∈ olds,v.oneCell'=true) :
  Calls P (ρ.f 290) #[.slice A l c,.int .i64 n] w fun e w'=>∃ cap2 cells,e=.returned (.slice (some ⟨w.heap.size,0,none⟩) l cap2)∧w'.heap[w.heap.size]?=some (.cells cells (ρ.t 5) (0,0)) ∧
   cells.size=cap2∧cells.toList.take l=olds∧l+n≤cap2∧cap2≤maxLen∧Below w.heap.size w w':=by
 have mixed:=L.mixed
 have t5:=L.t5;have a5:=L.a5;have z5:=L.z5;have v5:=L.v5
 have t37:=L.t37;have a37:=L.a37;have z37:=L.z37;have v37:=L.v37
 have t3:=L.t3;have a3:=L.a3;have z3:=L.z3;have v3:=L.v3
 have t0:=L.t0;have a0:=L.a0;have z0:=L.z0;have v0:=L.v0
 have t4:=L.t4;have a4:=L.a4;have z4:=L.z4;have v4:=L.v4
 obtain ⟨i0,hi,hz0,hz1,hz2⟩:=info_parts L.i5
 have hsz1:(P.info? (ρ.t 5)).map (·.size)=some 1:=by rw [hi];simp [hz1]
 by_cases hC:l+n < 2*c
 ·have happ:=Lib.run_append_nil_zeros (P:=P) w (ρ.t 37) (ρ.t 3) (ρ.t 37) (ρ.t 5) i0 (.int .u8 0) .i64 .i64 L.t37 L.t3 hi hz0 (2*c) (by omega) (by omega) (by omega) (by rw [hz2];omega)
  rw [show (((2*c:Nat)):Int)=2*(c:Int) by omega] at happ
  generalize hcap:grownCap w (2*c) 0 (ρ.t 5)=cap2 at happ
  have hcapge:2*c≤cap2:=by rw [←hcap];exact grownCap_ge w _ 0 (ρ.t 5)
  have hcaple:cap2≤maxLen:=by rw [←hcap];exact grownCap_le_maxLen w _ 0 (ρ.t 5) (by unfold maxLen;omega)
  generalize hZ:(Builtin.zeroCells (Value.int .u8 0).cells (2*c)++Builtin.zeroCells (Value.int .u8 0).cells (cap2 - (2*c)))=Z at happ
  have hZs:Z.size=cap2:=by rw [←hZ];simp [size_zeroCells,Value.cells];omega
  clear hcap hZ
  have hsrc1:l=0∨∃ a,A=some a∧∀ j v,olds[j]?=some v→(w.alloc (.cells Z (ρ.t 5))).drew.cell? (a.add j)=some v:=hsrc.imp id fun ⟨a,e,h⟩=>⟨a,e,fun j v hj=>(World.cell?_of_block (a:=a.add j) (Below.heap_alloc w _ _ (World.block_lt_of_cell? w _ (h j v hj)))).trans (h j v hj)⟩
  obtain ⟨W2,Y,hcopy,hY,hYl,hgb,hsz⟩:=ZlW (P:=P) (w.alloc (.cells Z (ρ.t 5))).drew (ρ.t 37) (ρ.t 37) (ρ.t 3) (ρ.t 5) w.heap.size 0 (2*c) cap2 A l c Z (ρ.t 5) olds L.t37 hsz1 (heap_alloc_new w _) ho (by omega) hsrc1 (by omega) h1
  go_enter_defers L.f290,Body.n290_ntmps ρ
  go_wp2_with (at_builtin;refine Lib.wpList_append_run _ rfl _ _ _ _ rfl _ _ rfl rfl _ _ happ ?_)
  refine leaves_cons (f:=(ρ.f 324)) (args:=#[]) (by simp) (enters_of L.f324 (by kernel_rfl) rfl _ _) ?_
  refine (Any.growSlice_catch_idle { L with } _).mono ?_
  rintro e u' w'' ⟨rfl,rfl,rfl⟩
  refine ⟨_,results_tmp rfl _ _ _,?_⟩
  refine ⟨cap2,Y,rfl,hY,?_,?_,by omega,hcaple,?_⟩
  ·have h3:=congrArg List.length hYl
   simp only [List.length_append,List.length_drop,List.take_zero,List.length_nil,Array.length_toList] at h3
   omega
  ·rw [hYl,List.take_zero,List.nil_append,List.take_append_of_le_length (by omega),List.take_of_length_le (by omega)]
  ·have hs1:(w.alloc (.cells Z (ρ.t 5))).drew.heap.size=w.heap.size+1:=by show (w.alloc (.cells Z (ρ.t 5))).heap.size=_;simp
   exact ⟨hgb.os,hgb.tape,hgb.output,by omega,fun k hk=>(hgb.block k (by omega) (fun e=>by injection e with e;omega)).trans (Below.heap_alloc w _ k hk)⟩
 ·have happ:=Lib.run_append_nil_zeros (P:=P) w (ρ.t 37) (ρ.t 3) (ρ.t 37) (ρ.t 5) i0 (.int .u8 0) .i64 .i64 L.t37 L.t3 hi hz0 (l+n) (by omega) (by omega) (by omega) (by rw [hz2];omega)
  rw [show (((l+n:Nat)):Int)=(l:Int)+(n:Int) by omega] at happ
  generalize hcap:grownCap w (l+n) 0 (ρ.t 5)=cap2 at happ
  have hcapge:l+n≤cap2:=by rw [←hcap];exact grownCap_ge w _ 0 (ρ.t 5)
  have hcaple:cap2≤maxLen:=by rw [←hcap];exact grownCap_le_maxLen w _ 0 (ρ.t 5) (by unfold maxLen;omega)
  generalize hZ:(Builtin.zeroCells (Value.int .u8 0).cells (l+n)++Builtin.zeroCells (Value.int .u8 0).cells (cap2 - (l+n)))=Z at happ
  have hZs:Z.size=cap2:=by rw [←hZ];simp [size_zeroCells,Value.cells];omega
  clear hcap hZ
  have hsrc1:l=0∨∃ a,A=some a∧∀ j v,olds[j]?=some v→(w.alloc (.cells Z (ρ.t 5))).drew.cell? (a.add j)=some v:=hsrc.imp id fun ⟨a,e,h⟩=>⟨a,e,fun j v hj=>(World.cell?_of_block (a:=a.add j) (Below.heap_alloc w _ _ (World.block_lt_of_cell? w _ (h j v hj)))).trans (h j v hj)⟩
  obtain ⟨W2,Y,hcopy,hY,hYl,hgb,hsz⟩:=ZlW (P:=P) (w.alloc (.cells Z (ρ.t 5))).drew (ρ.t 37) (ρ.t 37) (ρ.t 3) (ρ.t 5) w.heap.size 0 (l+n) cap2 A l c Z (ρ.t 5) olds L.t37 hsz1 (heap_alloc_new w _) ho (by omega) hsrc1 (by omega) h1
  go_enter_defers L.f290,Body.n290_ntmps ρ
  go_wp2_with (at_builtin;refine Lib.wpList_append_run _ rfl _ _ _ _ rfl _ _ rfl rfl _ _ happ ?_)
  refine leaves_cons (f:=(ρ.f 324)) (args:=#[]) (by simp) (enters_of L.f324 (by kernel_rfl) rfl _ _) ?_
  refine (Any.growSlice_catch_idle { L with } _).mono ?_
  rintro e u' w'' ⟨rfl,rfl,rfl⟩
  refine ⟨_,results_tmp rfl _ _ _,?_⟩
  refine ⟨cap2,Y,rfl,hY,?_,?_,by omega,hcaple,?_⟩
  ·have h3:=congrArg List.length hYl
   simp only [List.length_append,List.length_drop,List.take_zero,List.length_nil,Array.length_toList] at h3
   omega
  ·rw [hYl,List.take_zero,List.nil_append,List.take_append_of_le_length (by omega),List.take_of_length_le (by omega)]
  ·have hs1:(w.alloc (.cells Z (ρ.t 5))).drew.heap.size=w.heap.size+1:=by show (w.alloc (.cells Z (ρ.t 5))).heap.size=_;simp
   exact ⟨hgb.os,hgb.tape,hgb.output,by omega,fun k hk=>(hgb.block k (by omega) (fun e=>by injection e with e;omega)).trans (Below.heap_alloc w _ k hk)⟩
set_option maxHeartbeats 2000000 in
set_option maxRecDepth 100000 in
theorem ZkU (L:LaysM.n181 P ρ) (b:Nat) (ao:Option Addr) (l cap:Nat) (w:World) (c0:w.cell? ⟨b,0,none⟩=some (.slice ao l cap)) (c1:w.cell? ⟨b,1,none⟩=some (.int .i64 0)) (hmax:l≤maxLen) :
  Calls P (ρ.f 181) #[.pointer (some ⟨b,0,none⟩)] w fun e w'=>e=.returned (.int .i64 l)∧∃ n,w'=w.drewN n:=by
 have mixed:=L.mixed
 have t5:=L.t5;have a5:=L.a5;have z5:=L.z5;have v5:=L.v5
 have t130:=L.t130;have a130:=L.a130;have z130:=L.z130;have v130:=L.v130
 have t3:=L.t3;have a3:=L.a3;have z3:=L.z3;have v3:=L.v3
 have t0:=L.t0;have a0:=L.a0;have z0:=L.z0;have v0:=L.v0
 have t93:=L.t93;have u93:=run_underlying L.t93;have a93:=L.a93;have z93:=L.z93;have v93:=L.v93
 have t37:=L.t37;have a37:=L.a37;have z37:=L.z37;have v37:=L.v37
 unfold maxLen at hmax
 go_enter L.f181,Body.n181_ntmps ρ
 go_wp2
 go_region_o
 all_goals (go_wp2;go_ret;exact ⟨by simp,1,rfl⟩)
def Ziv (w:World) (T:TypeId) (R:Nat→Option Value) (b l n:Nat) (olds:List Value) (lr:Int) (e:TypeId) (w':World):Prop :=
 ∃ cap2 cells,LibA.Three w' b 0 T R (.slice (some ⟨w.heap.size,0,none⟩) (l+n) cap2) (.int .i64 0) (.int .i8 lr)∧w'.heap[w.heap.size]?=some (.cells cells e (0,0)) ∧
  cells.size=cap2∧cells.toList.take l=olds∧l+n≤cap2∧cap2≤maxLen∧w.grownBy w' (some b)
theorem Zno {w:World} {b:Nat} {T:TypeId} {R:Nat→Option Value} {x y z:Value} (h:LibA.Three w b 0 T R x y z) (v1 s:Value) :
  LibA.Three (((w.setCell ⟨b,0,none⟩ v1).setCell ⟨b,1,none⟩ (.int .i64 0)).setCell ⟨b,0,none⟩ s) b 0 T R s (.int .i64 0) z:=((h.set0 v1).set1 (.int .i64 0)).set0 s
end
end Go.Proofs.YtmlkhhidifjjfaaDoor
namespace Go.Proofs.YtmlkhhidifjjfaaDoor
open Go.Shelf Go.RowKit
section
variable {P:Program} {ρ:Ren}
set_option maxHeartbeats 12800000 in
set_option maxRecDepth 100000 in
theorem ZOl (L:LaysM.n252 P ρ) (T:TypeId) (R:Nat→Option Value) (b:Nat)  (n:Nat) (lr:Int) (w:World)
  (hbk:LibA.Three w b 0 T R (.slice none 0 0) (.int .i64 0) (.int .i8 lr)) (hn:1≤n) (h64:n≤64) :
  Calls P (ρ.f 252) #[.pointer (some ⟨b,0,none⟩),.int .i64 n] w fun e w'=>e=.returned (.int .i64 0)∧Ziv w T R b 0 n [] lr (ρ.t 5) w':=by
 have mixed:=L.mixed
 have t5:=L.t5;have a5:=L.a5;have z5:=L.z5;have v5:=L.v5
 have t130:=L.t130;have a130:=L.a130;have z130:=L.z130;have v130:=L.v130
 have t3:=L.t3;have a3:=L.a3;have z3:=L.z3;have v3:=L.v3
 have t4:=L.t4;have a4:=L.a4;have z4:=L.z4;have v4:=L.v4
 have t0:=L.t0;have a0:=L.a0;have z0:=L.z0;have v0:=L.v0
 have t93:=L.t93;have u93:=run_underlying L.t93;have a93:=L.a93;have z93:=L.z93;have v93:=L.v93
 have t131:=L.t131;have a131:=L.a131;have z131:=L.z131;have v131:=L.v131
 have t37:=L.t37;have a37:=L.a37;have z37:=L.z37;have v37:=L.v37
 have t75:=L.t75;have a75:=L.a75;have z75:=L.z75;have v75:=L.v75
 have e181:∀ args w,(callFunc (ρ.f 181) args).run P w=.ok (.enter (ρ.f 181) args) w:=enters_of L.f181 (by kernel_rfl) rfl
 have e251:∀ args w,(callFunc (ρ.f 251) args).run P w=.ok (.enter (ρ.f 251) args) w:=enters_of L.f251 (by kernel_rfl) rfl
 have e290:∀ args w,(callFunc (ρ.f 290) args).run P w=.ok (.enter (ρ.f 290) args) w:=enters_of L.f290 (by kernel_rfl) rfl
 have hnil:∀ W,(binOp .eql (ρ.t 37) (.slice none 0 0) (.slice none 0 0)).run P W=.ok (.bool true) W:=fun W=>Lib.run_eql_slice_nil_nil W _ _ L.t37
 obtain ⟨i0,hi,hz0,hz1,hz2⟩:=info_parts L.i5
 obtain ⟨M,hM⟩:∃ M,M=madeCells (Value.int .u8 0).cells ((64:Int).toNat*i0.size):=⟨_,rfl⟩
 have hMs:M.size=64:=by rw [hM,size_madeCells,hz1];rfl
 have hmk:∀ W:World,(Instr.makeSlice (ρ.t 37) (.int .i64 (n:Int)) (.int .i64 64)).run P W=.ok (.slice (some ⟨W.heap.size,0,none⟩) n 64) (W.alloc (.cells M (ρ.t 5))):=fun W=>by
  have h:=run_makeSlice (P:=P) W (ρ.t 37) (ρ.t 5) i0 (.int .u8 0) L.t37 hi hz0 .i64 .i64 (n:Int) 64 (by omega) (by omega) (by rw [hz1];decide) (by rw [hz2];decide) (by decide)
  rw [←hM] at h
  simpa using h
 clear hM
 go_enter L.f252,Body.n252_ntmps ρ
 go_wp2_with (go_at_fn (ρ.f 181);refine (ZkU { L with } b none 0 0 _ hbk.c0 hbk.c1 (by unfold maxLen;omega)).mono ?_)
 rintro e W0 ⟨rfl,k,hW0⟩
 have hbk0:LibA.Three W0 b 0 T R (.slice none 0 0) (.int .i64 0) (.int .i8 lr):=by rw [hW0];exact hbk
 have c0:W0.cell? ⟨b,0,none⟩=some (.slice none 0 0):=hbk0.c0
 have c1:W0.cell? ⟨b,1,none⟩=some (.int .i64 0):=hbk0.c1
 have f0:W0.frozen? ⟨b,0,none⟩=false:=hbk0.f 0
 have f1:W0.frozen? ⟨b,1,none⟩=false:=hbk0.f 1
 have hbW0:=hbk0.lt
 have c0a:∀ o,(W0.alloc o).cell? ⟨b,0,none⟩=some (.slice none 0 0):=fun o=>(World.cell?_of_block (a:=⟨b,0,none⟩) (Below.heap_alloc W0 o b hbW0)).trans c0
 have f0a:∀ o,(W0.alloc o).frozen? ⟨b,0,none⟩=false:=fun o=>(World.frozen?_of_block (a:=⟨b,0,none⟩) (Below.heap_alloc W0 o b hbW0)).trans f0
 have HW0:=Lib.hid hW0
 clear hW0
 go_wp2_with (go_at_fn (ρ.f 251);refine (Any.Buffer_tryGrow_none_at { L with } b 0 _ 0 0 n _ c0 (Nat.le_refl _) (Nat.zero_le _) (by omega)).mono ?_;rintro e w' ⟨rfl,rfl⟩)
 go_ret
 have hsz0:w'.heap.size=w.heap.size:=by rw [HW0.out];rfl
 have hg0:w.grownBy w' (some b):=by rw [HW0.out];exact ⟨rfl,rfl,rfl,Nat.le_refl _,fun _ _ _=>rfl⟩
 have hszc:(w'.setCell ⟨b,0,none⟩ (.slice (some ⟨w'.heap.size,0,none⟩) n 64)).heap.size=w'.heap.size:=by simp [World.setCell]
 refine ⟨rfl,64,M,?_,?_,hMs,by simp,by omega,by unfold maxLen;omega,Lib.grownBy_allocR (Lib.grownBy_setB hg0 0 _) _⟩
 ·rw [Nat.zero_add,←hsz0]
  exact (hbk0.set0 (.slice (some ⟨w'.heap.size,0,none⟩) n 64)).of_heap (Below.heap_alloc _ _ b (by rw [hszc];exact hbW0))
 ·have h:=heap_alloc_new (w'.setCell ⟨b,0,none⟩ (.slice (some ⟨w'.heap.size,0,none⟩) n 64)) (.cells M (ρ.t 5))
  rw [hszc] at h
  rw [←hsz0]
  exact h
set_option maxHeartbeats 12800000 in
set_option maxRecDepth 100000 in
theorem ZJ7 (L : LaysM.n252 P ρ) (T : TypeId) (R : Nat → Option Value) (b : Nat)  (n : Nat) (lr : Int) (w : World)
    (hbk : LibA.Three w b 0 T R (.slice none 0 0) (.int .i64 0) (.int .i8 lr)) (h64 : 64 < n) (hlim : n ≤ 70368744177664) :
    Calls P (ρ.f 252) #[.pointer (some ⟨b, 0, none⟩), .int .i64 n] w fun e w' => e = .returned (.int .i64 0) ∧ Ziv w T R b 0 n [] lr (ρ.t 5) w' := by
  have mixed := L.mixed
  have t5 := L.t5; have a5 := L.a5; have z5 := L.z5; have v5 := L.v5
  have t130 := L.t130; have a130 := L.a130; have z130 := L.z130; have v130 := L.v130
  have t3 := L.t3; have a3 := L.a3; have z3 := L.z3; have v3 := L.v3
  have t4 := L.t4; have a4 := L.a4; have z4 := L.z4; have v4 := L.v4
  have t0 := L.t0; have a0 := L.a0; have z0 := L.z0; have v0 := L.v0
  have t93 := L.t93; have u93 := run_underlying L.t93; have a93 := L.a93; have z93 := L.z93; have v93 := L.v93
  have t131 := L.t131; have a131 := L.a131; have z131 := L.z131; have v131 := L.v131
  have t37 := L.t37; have a37 := L.a37; have z37 := L.z37; have v37 := L.v37
  have t75 := L.t75; have a75 := L.a75; have z75 := L.z75; have v75 := L.v75
  have e181 : ∀ args w, (callFunc (ρ.f 181) args).run P w = .ok (.enter (ρ.f 181) args) w := enters_of L.f181 (by kernel_rfl) rfl
  have e251 : ∀ args w, (callFunc (ρ.f 251) args).run P w = .ok (.enter (ρ.f 251) args) w := enters_of L.f251 (by kernel_rfl) rfl
  have e290 : ∀ args w, (callFunc (ρ.f 290) args).run P w = .ok (.enter (ρ.f 290) args) w := enters_of L.f290 (by kernel_rfl) rfl
  have hnil : ∀ W, (binOp .eql (ρ.t 37) (.slice none 0 0) (.slice none 0 0)).run P W = .ok (.bool true) W := fun W => Lib.run_eql_slice_nil_nil W _ _ L.t37
  have hc2 : 0 ≤ 140737488355328 := by omega
  have hcm' : 0 ≤ maxLen := by unfold maxLen; omega
  go_enter L.f252, Body.n252_ntmps ρ
  go_wp2_with (go_at_fn (ρ.f 181); refine (ZkU { L with } b none 0 0 _ hbk.c0 hbk.c1 (by unfold maxLen; omega)).mono ?_)
  rintro e W0 ⟨rfl, k, hW0⟩
  have hbk0 : LibA.Three W0 b 0 T R (.slice none 0 0) (.int .i64 0) (.int .i8 lr) := by rw [hW0]; exact hbk
  have c0 : W0.cell? ⟨b, 0, none⟩ = some (.slice none 0 0) := hbk0.c0
  have c1 : W0.cell? ⟨b, 1, none⟩ = some (.int .i64 0) := hbk0.c1
  have f0 : W0.frozen? ⟨b, 0, none⟩ = false := hbk0.f 0
  have f1 : W0.frozen? ⟨b, 1, none⟩ = false := hbk0.f 1
  have HW0 := Lib.hid hW0
  clear hW0
  go_wp2_with (go_at_fn (ρ.f 251); refine (Any.Buffer_tryGrow_none_at { L with } b 0 _ 0 0 n _ c0 (by omega) hcm' (by omega)).mono ?_; rintro e w' ⟨rfl, rfl⟩)
  have hbW := hbk0.lt
  have hwn : IntKind.i64.wrap (n : Int) = n := by rw [IntKind.wrap_i64]; omega
  go_region_with_o (
      go_at_fn (ρ.f 290)
      refine (Zmb { L with } none 0 0 n [] _ ?_ (by omega) (by omega) (by omega) hc2 ?_ ?_).mono ?_
      · first | exact ho | rfl
      · exact Or.inl rfl
      · first | exact h1 | exact fun v h => by cases h
      rintro e w2 ⟨cap2, cells, rfl, hN, hcsz, htk, hcap2, hcm2, hbel⟩
      have hbk2 : LibA.Three w2 b 0 T R (.slice none 0 0) (.int .i64 0) (.int .i8 lr) := hbk0.of_heap (hbel.block b hbW)
      have d0 : w2.cell? ⟨b, 0, none⟩ = some (.slice none 0 0) := hbk2.c0
      have d1 : w2.cell? ⟨b, 1, none⟩ = some (.int .i64 0) := hbk2.c1
      have e0 : w2.frozen? ⟨b, 0, none⟩ = false := hbk2.f 0
      have e1 : w2.frozen? ⟨b, 1, none⟩ = false := hbk2.f 1)
  all_goals (
    go_wp2
    go_ret
    have hsz0 : w'.heap.size = w.heap.size := by rw [HW0.out]; rfl
    have hg2 : w.grownBy w2 (some b) := Lib.grownBy_below (w := w'.drew) (by rw [HW0.out]; exact ⟨rfl, rfl, rfl, Nat.le_refl _, fun _ _ _ => rfl⟩) hbel
    refine ⟨rfl, cap2, cells, ?_, ?_, hcsz, htk, hcap2, hcm2, Lib.grownBy_setB (Lib.grownBy_setB (Lib.grownBy_setB hg2 0 _) 1 _) 0 _⟩
    · rw [Nat.zero_add, ← hsz0]; exact Zno hbk2 _ _
    · have hNb : w.heap.size ≠ b := by omega
      rw [Below.heap_setCell _ _ _ _ hNb, Below.heap_setCell _ _ _ _ hNb, Below.heap_setCell _ _ _ _ hNb]
      rw [← hsz0]; exact hN)
end
end Go.Proofs.YtmlkhhidifjjfaaDoor
namespace Go.Proofs.YtmlkhhidifjjfaaDoor
open Go.Shelf Go.RowKit
section
variable {P:Program} {ρ:Ren}
set_option maxHeartbeats 12800000 in
set_option maxRecDepth 100000 in
theorem ZNJ (L : LaysM.n252 P ρ) (T : TypeId) (R : Nat → Option Value) (b : Nat) (x : Addr) (cap : Nat) (n : Nat) (lr : Int) (w : World)
    (hbk : LibA.Three w b 0 T R (.slice (some x) 0 cap) (.int .i64 0) (.int .i8 lr)) (hroom : cap < n) (hlim : n ≤ 70368744177664) :
    Calls P (ρ.f 252) #[.pointer (some ⟨b, 0, none⟩), .int .i64 n] w fun e w' => e = .returned (.int .i64 0) ∧ Ziv w T R b 0 n [] lr (ρ.t 5) w' := by
  have mixed := L.mixed
  have t5 := L.t5; have a5 := L.a5; have z5 := L.z5; have v5 := L.v5
  have t130 := L.t130; have a130 := L.a130; have z130 := L.z130; have v130 := L.v130
  have t3 := L.t3; have a3 := L.a3; have z3 := L.z3; have v3 := L.v3
  have t4 := L.t4; have a4 := L.a4; have z4 := L.z4; have v4 := L.v4
  have t0 := L.t0; have a0 := L.a0; have z0 := L.z0; have v0 := L.v0
  have t93 := L.t93; have u93 := run_underlying L.t93; have a93 := L.a93; have z93 := L.z93; have v93 := L.v93
  have t131 := L.t131; have a131 := L.a131; have z131 := L.z131; have v131 := L.v131
  have t37 := L.t37; have a37 := L.a37; have z37 := L.z37; have v37 := L.v37
  have t75 := L.t75; have a75 := L.a75; have z75 := L.z75; have v75 := L.v75
  have e181 : ∀ args w, (callFunc (ρ.f 181) args).run P w = .ok (.enter (ρ.f 181) args) w := enters_of L.f181 (by kernel_rfl) rfl
  have e251 : ∀ args w, (callFunc (ρ.f 251) args).run P w = .ok (.enter (ρ.f 251) args) w := enters_of L.f251 (by kernel_rfl) rfl
  have e290 : ∀ args w, (callFunc (ρ.f 290) args).run P w = .ok (.enter (ρ.f 290) args) w := enters_of L.f290 (by kernel_rfl) rfl
  have hnil : ∀ W, (binOp .eql (ρ.t 37) (.slice (some x) 0 cap) (.slice none 0 0)).run P W = .ok (.bool false) W := fun W => Lib.run_eql_slice_some_nil W _ _ _ L.t37
  have hc2 : cap ≤ 140737488355328 := by omega
  have hcm' : cap ≤ maxLen := by unfold maxLen; omega
  go_enter L.f252, Body.n252_ntmps ρ
  go_wp2_with (go_at_fn (ρ.f 181); refine (ZkU { L with } b (some x) 0 cap _ hbk.c0 hbk.c1 (by unfold maxLen; omega)).mono ?_)
  rintro e W0 ⟨rfl, k, hW0⟩
  have hbk0 : LibA.Three W0 b 0 T R (.slice (some x) 0 cap) (.int .i64 0) (.int .i8 lr) := by rw [hW0]; exact hbk
  have c0 : W0.cell? ⟨b, 0, none⟩ = some (.slice (some x) 0 cap) := hbk0.c0
  have c1 : W0.cell? ⟨b, 1, none⟩ = some (.int .i64 0) := hbk0.c1
  have f0 : W0.frozen? ⟨b, 0, none⟩ = false := hbk0.f 0
  have f1 : W0.frozen? ⟨b, 1, none⟩ = false := hbk0.f 1
  have HW0 := Lib.hid hW0
  clear hW0
  go_wp2_with (go_at_fn (ρ.f 251); refine (Any.Buffer_tryGrow_none_at { L with } b 0 _ 0 cap n _ c0 (by omega) hcm' (by omega)).mono ?_; rintro e w' ⟨rfl, rfl⟩)
  have hbW := hbk0.lt
  have hwn : IntKind.i64.wrap (n : Int) = n := by rw [IntKind.wrap_i64]; omega
  go_region_with_o (
      go_at_fn (ρ.f 290)
      refine (Zmb { L with } (some x) 0 cap n [] _ ?_ (by omega) (by omega) (by omega) hc2 ?_ ?_).mono ?_
      · first | exact ho | rfl
      · exact Or.inl rfl
      · first | exact h1 | exact fun v h => by cases h
      rintro e w2 ⟨cap2, cells, rfl, hN, hcsz, htk, hcap2, hcm2, hbel⟩
      have hbk2 : LibA.Three w2 b 0 T R (.slice (some x) 0 cap) (.int .i64 0) (.int .i8 lr) := hbk0.of_heap (hbel.block b hbW)
      have d0 : w2.cell? ⟨b, 0, none⟩ = some (.slice (some x) 0 cap) := hbk2.c0
      have d1 : w2.cell? ⟨b, 1, none⟩ = some (.int .i64 0) := hbk2.c1
      have e0 : w2.frozen? ⟨b, 0, none⟩ = false := hbk2.f 0
      have e1 : w2.frozen? ⟨b, 1, none⟩ = false := hbk2.f 1)
  all_goals (
    go_wp2
    go_ret
    have hsz0 : w'.heap.size = w.heap.size := by rw [HW0.out]; rfl
    have hg2 : w.grownBy w2 (some b) := Lib.grownBy_below (w := w'.drew) (by rw [HW0.out]; exact ⟨rfl, rfl, rfl, Nat.le_refl _, fun _ _ _ => rfl⟩) hbel
    refine ⟨rfl, cap2, cells, ?_, ?_, hcsz, htk, hcap2, hcm2, Lib.grownBy_setB (Lib.grownBy_setB (Lib.grownBy_setB hg2 0 _) 1 _) 0 _⟩
    · rw [Nat.zero_add, ← hsz0]; exact Zno hbk2 _ _
    · have hNb : w.heap.size ≠ b := by omega
      rw [Below.heap_setCell _ _ _ _ hNb, Below.heap_setCell _ _ _ _ hNb, Below.heap_setCell _ _ _ _ hNb]
      rw [← hsz0]; exact hN)
end
end Go.Proofs.YtmlkhhidifjjfaaDoor
namespace Go.Proofs.YtmlkhhidifjjfaaDoor
open Go.Shelf Go.RowKit
section
variable {P:Program} {ρ:Ren}
set_option maxHeartbeats 12800000 in
set_option maxRecDepth 100000 in
theorem ZLp (L : LaysM.n252 P ρ) (T : TypeId) (R : Nat → Option Value) (b : Nat) (x : Addr) (l cap : Nat) (olds : List Value) (n : Nat) (lr : Int) (w : World)
    (hbk : LibA.Three w b 0 T R (.slice (some x) l cap) (.int .i64 0) (.int .i8 lr)) (hl0 : l ≠ 0) (ho : olds.length = l) (h1 : ∀ v ∈ olds, v.oneCell' = true) (hlc : l ≤ cap) (hroom : cap - l < n) (hlim : l + n ≤ 70368744177664)
    (hold : l = 0 ∨ ∃ a, some x = some a ∧ ∀ j v, (olds)[j]? = some v → w.cell? (a.add j) = some v)  :
    Calls P (ρ.f 252) #[.pointer (some ⟨b, 0, none⟩), .int .i64 n] w fun e w' => e = .returned (.int .i64 l) ∧ Ziv w T R b l n olds lr (ρ.t 5) w' := by
  have mixed := L.mixed
  have t5 := L.t5; have a5 := L.a5; have z5 := L.z5; have v5 := L.v5
  have t130 := L.t130; have a130 := L.a130; have z130 := L.z130; have v130 := L.v130
  have t3 := L.t3; have a3 := L.a3; have z3 := L.z3; have v3 := L.v3
  have t4 := L.t4; have a4 := L.a4; have z4 := L.z4; have v4 := L.v4
  have t0 := L.t0; have a0 := L.a0; have z0 := L.z0; have v0 := L.v0
  have t93 := L.t93; have u93 := run_underlying L.t93; have a93 := L.a93; have z93 := L.z93; have v93 := L.v93
  have t131 := L.t131; have a131 := L.a131; have z131 := L.z131; have v131 := L.v131
  have t37 := L.t37; have a37 := L.a37; have z37 := L.z37; have v37 := L.v37
  have t75 := L.t75; have a75 := L.a75; have z75 := L.z75; have v75 := L.v75
  have e181 : ∀ args w, (callFunc (ρ.f 181) args).run P w = .ok (.enter (ρ.f 181) args) w := enters_of L.f181 (by kernel_rfl) rfl
  have e251 : ∀ args w, (callFunc (ρ.f 251) args).run P w = .ok (.enter (ρ.f 251) args) w := enters_of L.f251 (by kernel_rfl) rfl
  have e290 : ∀ args w, (callFunc (ρ.f 290) args).run P w = .ok (.enter (ρ.f 290) args) w := enters_of L.f290 (by kernel_rfl) rfl
  have hnil : ∀ W, (binOp .eql (ρ.t 37) (.slice (some x) l cap) (.slice none 0 0)).run P W = .ok (.bool false) W := fun W => Lib.run_eql_slice_some_nil W _ _ _ L.t37
  have hc2 : cap ≤ 140737488355328 := by omega
  have hcm' : cap ≤ maxLen := by unfold maxLen; omega
  go_enter L.f252, Body.n252_ntmps ρ
  go_wp2_with (go_at_fn (ρ.f 181); refine (ZkU { L with } b (some x) l cap _ hbk.c0 hbk.c1 (by unfold maxLen; omega)).mono ?_)
  rintro e W0 ⟨rfl, k, hW0⟩
  have hbk0 : LibA.Three W0 b 0 T R (.slice (some x) l cap) (.int .i64 0) (.int .i8 lr) := by rw [hW0]; exact hbk
  have c0 : W0.cell? ⟨b, 0, none⟩ = some (.slice (some x) l cap) := hbk0.c0
  have c1 : W0.cell? ⟨b, 1, none⟩ = some (.int .i64 0) := hbk0.c1
  have f0 : W0.frozen? ⟨b, 0, none⟩ = false := hbk0.f 0
  have f1 : W0.frozen? ⟨b, 1, none⟩ = false := hbk0.f 1
  have hold0 : l = 0 ∨ ∃ a, some x = some a ∧ ∀ j v, (olds)[j]? = some v → W0.cell? (a.add j) = some v := by rw [hW0]; exact hold
  have HW0 := Lib.hid hW0
  clear hW0 hold
  go_wp2_with (go_at_fn (ρ.f 251); refine (Any.Buffer_tryGrow_none_at { L with } b 0 _ l cap n _ c0 (by omega) hcm' (by omega)).mono ?_; rintro e w' ⟨rfl, rfl⟩)
  have hbW := hbk0.lt
  have hwn : IntKind.i64.wrap (n : Int) = n := by rw [IntKind.wrap_i64]; omega
  go_region_with_o (
      go_at_fn (ρ.f 290)
      refine (Zmb { L with } (some x) l cap n olds _ ?_ (by omega) (by omega) (by omega) hc2 ?_ ?_).mono ?_
      · first | exact ho | rfl
      · exact hold0
      · first | exact h1 | exact fun v h => by cases h
      rintro e w2 ⟨cap2, cells, rfl, hN, hcsz, htk, hcap2, hcm2, hbel⟩
      have hbk2 : LibA.Three w2 b 0 T R (.slice (some x) l cap) (.int .i64 0) (.int .i8 lr) := hbk0.of_heap (hbel.block b hbW)
      have d0 : w2.cell? ⟨b, 0, none⟩ = some (.slice (some x) l cap) := hbk2.c0
      have d1 : w2.cell? ⟨b, 1, none⟩ = some (.int .i64 0) := hbk2.c1
      have e0 : w2.frozen? ⟨b, 0, none⟩ = false := hbk2.f 0
      have e1 : w2.frozen? ⟨b, 1, none⟩ = false := hbk2.f 1)
  all_goals (
    go_wp2
    go_ret
    have hsz0 : w'.heap.size = w.heap.size := by rw [HW0.out]; rfl
    have hg2 : w.grownBy w2 (some b) := Lib.grownBy_below (w := w'.drew) (by rw [HW0.out]; exact ⟨rfl, rfl, rfl, Nat.le_refl _, fun _ _ _ => rfl⟩) hbel
    refine ⟨rfl, cap2, cells, ?_, ?_, hcsz, htk, hcap2, hcm2, Lib.grownBy_setB (Lib.grownBy_setB (Lib.grownBy_setB hg2 0 _) 1 _) 0 _⟩
    · rw [← hsz0]; exact Zno hbk2 _ _
    · have hNb : w.heap.size ≠ b := by omega
      rw [Below.heap_setCell _ _ _ _ hNb, Below.heap_setCell _ _ _ _ hNb, Below.heap_setCell _ _ _ _ hNb]
      rw [← hsz0]; exact hN)
end
end Go.Proofs.YtmlkhhidifjjfaaDoor
namespace Go.Proofs.YtmlkhhidifjjfaaDoor
open Go.Shelf Go.RowKit
section
variable {P:Program} {ρ:Ren}
def BufRow (w:World) (b:Nat) (A:Option Addr) (l cap:Nat) (olds:List Value):Prop :=
 olds.length=l∧l≤cap∧cap≤maxLen∧(∀ v ∈ olds,v.oneCell'=true)∧(cap=0∨∃ g cur t,A=some ⟨g,0,none⟩∧g≠b∧w.heap[g]?=some (.cells cur t (0,0))∧cur.size=cap∧cur.toList.take l=olds)
theorem BufRow.hold {w:World} {b:Nat} {A:Option Addr} {l cap:Nat} {olds:List Value} (h:BufRow w b A l cap olds):l=0∨∃ a,A=some a∧∀ j v,olds[j]?=some v→w.cell? (a.add j)=some v:=by
 obtain ⟨h1,h2,h3,h4,h5 | ⟨g,cur,t,h5,h6,h7,h8,h9⟩⟩:=h
 ·exact Or.inl (by omega)
 ·exact Or.inr ⟨_,h5,by rw [←h9];exact Lib.cells_of_row h7 l⟩
theorem ZLW (L:LaysM.n252 P ρ) (T:TypeId) (R:Nat→Option Value) (b:Nat) (A:Option Addr) (l cap:Nat) (olds:List Value) (n:Nat) (lr:Int) (w:World)
  (hbk:LibA.Three w b 0 T R (.slice A l cap) (.int .i64 0) (.int .i8 lr)) (hr:BufRow w b A l cap olds) (hA:A=none→cap=0) (hroom:cap - l < n) (hlim:l+n≤70368744177664) :
  Calls P (ρ.f 252) #[.pointer (some ⟨b,0,none⟩),.int .i64 n] w fun e w'=>e=.returned (.int .i64 l)∧Ziv w T R b l n olds lr (ρ.t 5) w':=by
 have hold:=hr.hold
 obtain ⟨h1,h2,h3,h4,h5⟩:=hr
 cases A with
 | none =>
  have hc:=hA rfl
  subst hc
  have hl0:l=0:=by omega
  subst hl0
  have ho:olds=[]:=List.eq_nil_of_length_eq_zero h1
  subst ho
  by_cases h64:n≤64
  ·exact ZOl L T R b n lr w hbk (by omega) h64
  ·exact ZJ7 L T R b n lr w hbk (by omega) (by omega)
 | some x =>
  by_cases hl0:l=0
  ·subst hl0
   have ho:olds=[]:=List.eq_nil_of_length_eq_zero h1
   subst ho
   exact ZNJ L T R b x cap n lr w hbk (by omega) (by omega)
  ·exact ZLp L T R b x l cap olds n lr w hbk hl0 h1 h4 h2 hroom hlim hold
def ZqW (w:World) (T:TypeId) (R:Nat→Option Value) (b:Nat) (A:Option Addr) (l n cap:Nat) (all:List Value) (w':World):Prop :=
 ∃ A' cap',LibA.Three w' b 0 T R (.slice A' (l+n) cap') (.int .i64 0) (.int .i8 0)∧l+n≤cap'∧cap'≤maxLen ∧
  ((n=0∧A'=A∧cap'=cap∧w.grownBy w' (some b)) ∨
   ∃ G W1 Y t,A'=some ⟨G,0,none⟩∧(G=w.heap.size∨(A=some ⟨G,0,none⟩∧cap≠0))∧G≠b∧w.grownBy W1 (some b)∧W1.grownBy w' (some G)∧w'.heap[G]?=some (.cells Y t (0,0))∧Y.size=cap'∧Y.toList.take (l+n)=all)
set_option maxHeartbeats 6400000 in
set_option maxRecDepth 100000 in
theorem ZK2 (L:LaysM.n180 P ρ) (T:TypeId) (R:Nat→Option Value) (b:Nat) (A:Option Addr) (l cap:Nat) (lr:Int) (olds news:List Value) (pa:Option Addr) (n pc:Nat) (w:World)
  (hbk:LibA.Three w b 0 T R (.slice A l cap) (.int .i64 0) (.int .i8 lr)) (hr:BufRow w b A l cap olds) (hA:A=none→cap=0) (hnews:news.length=n) (h1c:∀ v ∈ news,v.oneCell'=true)
  (hsrc:n=0∨∃ a,pa=some a∧a.block≠b∧∀ j v,news[j]?=some v→w.cell? (a.add j)=some v) (hlim:l+n≤70368744177664) :
  Calls P (ρ.f 180) #[.pointer (some ⟨b,0,none⟩),.slice pa n pc] w fun e w'=>e=.returned (.tuple #[.int .i64 n,.nilIface])∧ZqW w T R b A l n cap (olds++news) w':=by
 have mixed:=L.mixed
 have t5:=L.t5;have a5:=L.a5;have z5:=L.z5;have v5:=L.v5
 have t130:=L.t130;have a130:=L.a130;have z130:=L.z130;have v130:=L.v130
 have t37:=L.t37;have a37:=L.a37;have z37:=L.z37;have v37:=L.v37
 have t3:=L.t3;have a3:=L.a3;have z3:=L.z3;have v3:=L.v3
 have t75:=L.t75;have a75:=L.a75;have z75:=L.z75;have v75:=L.v75
 have t0:=L.t0;have a0:=L.a0;have z0:=L.z0;have v0:=L.v0
 have t93:=L.t93;have u93:=run_underlying L.t93;have a93:=L.a93;have z93:=L.z93;have v93:=L.v93
 have t91:=L.t91;have a91:=L.a91;have z91:=L.z91;have v91:=L.v91
 have t131:=L.t131;have a131:=L.a131;have z131:=L.z131;have v131:=L.v131
 have t4:=L.t4;have a4:=L.a4;have z4:=L.z4;have v4:=L.v4
 have e251:∀ args w,(callFunc (ρ.f 251) args).run P w=.ok (.enter (ρ.f 251) args) w:=enters_of L.f251 (by kernel_rfl) rfl
 have e252:∀ args w,(callFunc (ρ.f 252) args).run P w=.ok (.enter (ρ.f 252) args) w:=enters_of L.f252 (by kernel_rfl) rfl
 have c2:w.cell? ⟨b,2,none⟩=some (.int .i8 lr):=hbk.c2
 have f2:w.frozen? ⟨b,2,none⟩=false:=hbk.f 2
 have hinfo:(P.info? (ρ.t 5)).map (·.size)=some 1:=by
  obtain ⟨i0,hi,-,hz1,-⟩:=info_parts L.i5
  rw [hi];simp [hz1]
 obtain ⟨ho,hlc,hcm,h1,hrow⟩:=id hr
 have hbkA:LibA.Three (w.setCell ⟨b,2,none⟩ (.int .i8 0)) b 0 T R (.slice A l cap) (.int .i64 0) (.int .i8 0):=hbk.set2 _
 have hgA:w.grownBy (w.setCell ⟨b,2,none⟩ (.int .i8 0)) (some b):=Lib.grownBy_setCell w b 2 _
 have hszA:(w.setCell ⟨b,2,none⟩ (.int .i8 0)).heap.size=w.heap.size:=by simp [World.setCell]
 have hrA:BufRow (w.setCell ⟨b,2,none⟩ (.int .i8 0)) b A l cap olds:=⟨ho,hlc,hcm,h1,hrow.imp id fun ⟨g,cur,t,e,hgb,hg,r⟩=>⟨g,cur,t,e,hgb,(Below.heap_setCell _ _ _ _ hgb).trans hg,r⟩⟩
 by_cases hroom:n≤cap - l
 ·by_cases hs0:n=0
  ·
   subst hs0
   have hc0:news=[]:=List.eq_nil_of_length_eq_zero hnews
   subst hc0
   have hce:∀ d dLen dCap W,(Builtin.copy_ #[(ρ.t 37),(ρ.t 37)] (ρ.t 3) #[.slice d dLen dCap,.slice pa 0 pc]).run P W=.ok (goInt 0) W:=fun d dLen dCap W=>run_copy_none W (ρ.t 37) (ρ.t 37) (ρ.t 3) (ρ.t 5) d pa dLen dCap 0 pc L.t37 hinfo (by simp)
   have hT:∀ W,W.cell? ⟨b,0,none⟩=some (.slice A l cap)→W.frozen? ⟨b,0,none⟩=false→Calls P (ρ.f 251) #[.pointer (some ⟨b,0,none⟩),.int .i64 0] W (fun e w'=>e=.returned (.tuple #[.int .i64 l,.bool true])∧w'=W.setCell ⟨b,0,none⟩ (.slice A l cap)):=fun W q1 q2=>Any.Buffer_tryGrow_room_at { L with } b 0 A l cap 0 W q1 q2 hlc hcm (Nat.zero_le _)
   clear hsrc hroom hlim
   go_enter L.f180,Body.n180_ntmps ρ
   go_wp2_with (go_at_fn (ρ.f 251);refine (hT _ ?_ ?_).mono ?_)
   ·exact hbkA.c0
   ·exact hbkA.f 0
   rintro e W1 ⟨rfl,hW1⟩
   have hbk1:LibA.Three W1 b 0 T R (.slice A l cap) (.int .i64 0) (.int .i8 0):=by rw [hW1];exact hbkA.set0 _
   have hgW:w.grownBy W1 (some b):=by rw [hW1];exact Lib.grownBy_setB hgA 0 _
   clear hW1 hbkA hgA hszA hrA c2 f2 hT
   have d0:W1.cell? ⟨b,0,none⟩=some (.slice A l cap):=hbk1.c0
   have hcm':=hcm
   unfold maxLen at hcm'
   have hfin:ZqW w T R b A l 0 cap (olds++[]) W1:=⟨A,cap,hbk1,hlc,hcm,Or.inl ⟨rfl,rfl,rfl,hgW⟩⟩
   clear hrow hr
   cases A
   all_goals (go_wp2;all_goals (go_ret2;first | exact ⟨rfl,hfin⟩ | exact ⟨by simp,by simpa using hfin⟩ | (refine ⟨by simp,?_⟩;have hcl:l=cap:=(by omega);simpa [hcl] using hfin)))
  ·
   go_enter L.f180,Body.n180_ntmps ρ
   go_wp2_with (go_at_fn (ρ.f 251);refine (Any.Buffer_tryGrow_room_at { L with } b 0 A l cap n _ ?_ ?_ hlc hcm hroom).mono ?_)
   ·exact hbkA.c0
   ·exact hbkA.f 0
   rintro e W1 ⟨rfl,hW1⟩
   obtain ⟨G,cap',cur,t,hbk1,hG,hcs,htk,hlc',hcm',hGb,hGw,hgW⟩:∃ G cap' cur t,LibA.Three W1 b 0 T R (.slice (some ⟨G,0,none⟩) (l+n) cap') (.int .i64 0) (.int .i8 0)∧W1.heap[G]?=some (.cells cur t (0,0))∧cur.size=cap'∧cur.toList.take l=olds∧l+n≤cap'∧cap'≤maxLen∧G≠b∧(G=w.heap.size∨(A=some ⟨G,0,none⟩∧cap≠0))∧w.grownBy W1 (some b):=by
    obtain hc | ⟨g,cur,t,e,hgb,hg,hcs,htk⟩:=hrow
    ·omega
    ·refine ⟨g,cap,cur,t,?_,?_,hcs,htk,by omega,hcm,hgb,Or.inr ⟨e,by omega⟩,?_⟩
     ·rw [hW1,e];rw [e] at hbkA;exact hbkA.set0 _
     ·rw [hW1,Below.heap_setCell _ _ _ _ hgb,Below.heap_setCell _ _ _ _ hgb];exact hg
     ·rw [hW1];exact Lib.grownBy_setB hgA 0 _
   clear hW1 hbkA hgA hszA hrA c2 f2 hrow
   have d0:W1.cell? ⟨b,0,none⟩=some (.slice (some ⟨G,0,none⟩) (l+n) cap'):=hbk1.c0
   have hne:¬cap'=l:=by omega
   have hsrc1:n=0∨∃ a,pa=some a∧∀ j v,news[j]?=some v→W1.cell? (a.add j)=some v:=hsrc.imp id fun ⟨a,e,hab,h⟩=>⟨a,e,fun j v hj=>hgW.cell (h j v hj) (by rw [Lib.block_add];exact fun e=>hab (Option.some.inj e))⟩
   obtain ⟨W2,Y,hcp,hY,hYl,hgb,hsz⟩:=ZlW (P:=P) W1 (ρ.t 37) (ρ.t 37) (ρ.t 3) (ρ.t 5) G l n (cap' - l) pa n pc cur t news L.t37 hinfo hG hnews (Nat.le_refl _) hsrc1 (by omega) h1c
   have hYs:Y.size=cap':=by
    have h3:=congrArg List.length hYl
    simp only [List.length_append,List.length_drop,List.length_take,Array.length_toList] at h3
    omega
   have hYt:Y.toList.take (l+n)=olds++news:=by
    rw [hYl,htk,List.take_append_of_le_length (by simp;omega),List.take_of_length_le (by simp;omega)]
   have hW2:LibA.Three W2 b 0 T R (.slice (some ⟨G,0,none⟩) (l+n) cap') (.int .i64 0) (.int .i8 0):=hbk1.of_heap (hgb.block b hbk1.lt (fun e=>hGb (Option.some.inj e).symm))
   have hcm2:=hcm'
   unfold maxLen at hcm2
   have hgb0:=hgb
   have hYr:=hY
   clear hsrc hsrc1 hr hA
   go_wp2
   go_ret2
   exact ⟨rfl,_,_,hW2,hlc',hcm',Or.inr ⟨G,W1,Y,t,rfl,hGw,hGb,hgW,hgb0,hYr,hYs,hYt⟩⟩
 ·
  go_enter L.f180,Body.n180_ntmps ρ
  go_wp2_with (go_at_fn (ρ.f 251);refine (Any.Buffer_tryGrow_none_at { L with } b 0 A l cap n _ ?_ hlc hcm (by omega)).mono ?_)
  ·exact hbkA.c0
  rintro e W0 ⟨rfl,hW0⟩
  rw [←hW0] at hbkA hgA hszA hrA
  clear hW0 c2 f2
  have hroom':cap - l < n:=by omega
  go_wp2_with (go_at_fn (ρ.f 252);refine (ZLW { L with } T R b A l cap olds n 0 _ ?_ ?_ hA hroom' hlim).mono ?_)
  ·exact hbkA
  ·exact hrA
  rintro e W1 ⟨rfl,cap',cur,hbk1,hG,hcs,htk,hlc',hcm',hgB⟩
  obtain ⟨G,hGe⟩:∃ G,G=w.heap.size:=⟨_,rfl⟩
  rw [hszA,←hGe] at hbk1 hG
  have hGw:G=w.heap.size∨(A=some ⟨G,0,none⟩∧cap≠0):=Or.inl hGe
  have hGb:G≠b:=by have:=hbk.lt;omega
  have hgW:w.grownBy W1 (some b):=Lib.grownBy_trans hgA hgB
  obtain ⟨t,ht⟩:∃ t,t=ρ.t 5:=⟨_,rfl⟩
  rw [←ht] at hG
  clear hbkA hgA hszA hrA hgB hGe hrow hroom
  have d0:W1.cell? ⟨b,0,none⟩=some (.slice (some ⟨G,0,none⟩) (l+n) cap'):=hbk1.c0
  have hne:¬cap'=l:=by omega
  have hsrc1:n=0∨∃ a,pa=some a∧∀ j v,news[j]?=some v→W1.cell? (a.add j)=some v:=hsrc.imp id fun ⟨a,e,hab,h⟩=>⟨a,e,fun j v hj=>hgW.cell (h j v hj) (by rw [Lib.block_add];exact fun e=>hab (Option.some.inj e))⟩
  obtain ⟨W2,Y,hcp,hY,hYl,hgb,hsz⟩:=ZlW (P:=P) W1 (ρ.t 37) (ρ.t 37) (ρ.t 3) (ρ.t 5) G l n (cap' - l) pa n pc cur t news L.t37 hinfo hG hnews (Nat.le_refl _) hsrc1 (by omega) h1c
  have hYs:Y.size=cap':=by
   have h3:=congrArg List.length hYl
   simp only [List.length_append,List.length_drop,List.length_take,Array.length_toList] at h3
   omega
  have hYt:Y.toList.take (l+n)=olds++news:=by
   rw [hYl,htk,List.take_append_of_le_length (by simp;omega),List.take_of_length_le (by simp;omega)]
  have hW2:LibA.Three W2 b 0 T R (.slice (some ⟨G,0,none⟩) (l+n) cap') (.int .i64 0) (.int .i8 0):=hbk1.of_heap (hgb.block b hbk1.lt (fun e=>hGb (Option.some.inj e).symm))
  have hcm2:=hcm'
  unfold maxLen at hcm2
  have hgb0:=hgb
  have hYr:=hY
  clear hsrc hsrc1 hr hA
  go_wp2
  go_ret2
  exact ⟨rfl,_,_,hW2,hlc',hcm',Or.inr ⟨G,W1,Y,t,rfl,hGw,hGb,hgW,hgb0,hYr,hYs,hYt⟩⟩
end
end Go.Proofs.YtmlkhhidifjjfaaDoor
namespace Go.Proofs.YtmlkhhidifjjfaaDoor
open Go.Shelf Go.RowKit
section
variable {P:Program} {ρ:Ren} {base:Nat→Prop} {w0 w w':World} {I0 I:Imm} {β:Bmap} {σ:Za}
theorem ZIH {b:Nat} {ty:TypeId} {x y z:Value} (h:LibA.Three w b 0 ty (fun _=>none) x y z):w.heap[b]?=some (.cells #[x,y,z] ty (0,0)):=by
 obtain ⟨cs,hb,h0,h1,h2,hr⟩:=h
 rw [hb]
 have : cs=#[x,y,z]:=by
  apply Array.ext_getElem?
  intro i
  match i with
  | 0=>exact h0
  | 1=>exact h1
  | 2=>exact h2
  | i+3=>rw [hr (i+3) (Or.inr (by omega))];exact (Array.getElem?_eq_none (by simp)).symm
 rw [this]
theorem Zyg {k:Nat} {y:AVal} {ys:List AVal} {b off:Nat} (h:LR I β k (y::ys) b off) (hk:0 < k):∃ u,I b off=some u:=by
 rw [ZfB] at h
 obtain ⟨⟨h1,h2⟩,_⟩:=h
 cases hc:y.cells with
 | nil=>rw [hc] at h1;simp at h1;omega
 | cons c cs =>
  rw [hc] at h2
  simp only [CR] at h2
  obtain ⟨⟨u,hu,_⟩,_⟩:=h2
  exact ⟨u,hu⟩
theorem ZDl (R:Rel base w0 I0 I β σ w) {b:Nat} (hb:∀ o,I b o=none) {y:Bool} {ys:List AVal} {v:Value} (hv:VR I β (.lst y ys) v) (hk:kOk 1 ys=true) :
  ∃ A cap news,v=.slice A ys.length cap∧news.length=ys.length∧VRs I β (ys.flatMap AVal.cells) news∧Zaa ys=true∧(∀ x ∈ ys,x.cells.length=1)∧(∀ v ∈ news,v.oneCell'=true) ∧
   (ys.length=0∨∃ a,A=some a∧a.block≠b∧∀ j v,news[j]?=some v→w.cell? (a.add j)=some v):=by
 have hv0:=hv
 obtain ⟨A,cap,e,_,_,htree,hc⟩:=ZlN R hv
 by_cases hne:ys=[]
 ·subst hne
  exact ⟨A,cap,[],e,rfl,by simp [VRs],rfl,by simp,by simp,Or.inl rfl⟩
 ·rcases hc with hc | ⟨b',off,k,us,hA,hk0,hl,hvs,hcell⟩
  ·exact absurd hc hne
  have e1:=ZjP hk hl hne
  subst e1
  refine ⟨A,cap,us,e,by rw [←ZaX hvs,Zd4 hl,Nat.mul_one],hvs,htree,hl,Zgh (fun z hz=>Ziu (ZcY.1 (Zlf htree) z hz)) hvs,Or.inr ⟨⟨b',off,none⟩,hA,?_,fun j v hj=>by rw [Addr.add_mid];exact hcell j v hj⟩⟩
  rintro rfl
  simp only [VR] at hv0
  obtain ⟨A',cap',e',_,_,_,h5,_⟩:=hv0
  rcases h5 with h5 | ⟨b2,off2,k2,e2,hk2,h5⟩
  ·exact hne h5
  ·rw [e] at e'
   injection e' with e' _ _
   rw [e'] at hA
   rw [hA] at e2
   injection e2 with e2
   injection e2 with e2 e3
   cases ys with
   | nil=>exact hne rfl
   | cons z zs =>
    obtain ⟨u,hu⟩:=Zyg h5 hk2
    rw [←e2,hb] at hu;cases hu
theorem Zvo (L : LaysM.n180 P ρ) (hb : KLt base w0) {c0 : AVal} {lr : Int} {g : Nat} {xs : List AVal} (R : Rel base w0 I0 I β [.var [c0, .int .i64 0, .int .i8 lr], .row g 1 xs] w)
    {bi : BI} (hbi : β 1 g = some bi) {b kk cc : Nat} (hβ0 : β 0 0 = some ⟨some b, kk, cc⟩) {A : Option Addr} {cap : Nat} {ty : TypeId}
    (hheap : w.heap[b]? = some (.cells #[.slice A xs.length cap, .int .i64 0, .int .i8 lr] ty (0, 0)))
    (hA : (∃ gb, bi.b = some gb ∧ A = some ⟨gb, 0, none⟩ ∧ cap = bi.cap) ∨ (bi.b = none ∧ cap = 0 ∧ bi.cap = 0))
    {y : Bool} {ys : List AVal} {v1 : Value} (hv1 : VR I β (.lst y ys) v1) (hlim : xs.length + ys.length ≤ ZbS) (hk : kOk 1 ys = true) :
    Calls P (ρ.f 180) #[.pointer (some ⟨b, 0, none⟩), v1] w (fun e w' => ∃ u, Ends (.tup [.int .i64 ys.length, .nili]) e u ∧ ∃ β', β.le β' ∧
      Rel base w0 I0 I β' [.var [.sl 1 (g + 1) 0 (xs ++ ys).length, .int .i64 0, .int .i8 0], .row (g + 1) 1 (xs ++ ys)] w' ∧ VR I β' (.tup [.int .i64 ys.length, .nili]) u) := by
  have hbw := R.base_le hb
  have how : ZA β 0 (.var [c0, .int .i64 0, .int .i8 lr]) = some b := by simp only [ZA, hβ0, Option.bind_some]
  have hob := R.own 0 _ b rfl how
  obtain ⟨bi', hbi', hk1, _, hcap63, hxl, htree, hlens, hrow⟩ := R.blk 1 (.row g 1 xs) rfl
  rw [hbi] at hbi'; injection hbi' with hbi'; subst hbi'
  have hor : ZA β 1 (.row g 1 xs) = bi.b := by simp only [ZA, hbi, Option.bind_some]
  obtain ⟨olds, hBR, hvo, hA0⟩ : ∃ olds, BufRow w b A xs.length cap olds ∧ VRs I β (xs.flatMap AVal.cells) olds ∧ (A = none → cap = 0) := by
    rcases hA with ⟨gb, e1, e2, e3⟩ | ⟨e1, e2, e3⟩
    · rcases hrow with ⟨h1, h2⟩ | ⟨gb', us, ty', h1, h2, h3, h4⟩
      · rw [e1] at h1; cases h1
      · rw [e1] at h1; injection h1 with h1; subst h1
        rw [Nat.mul_one] at h3 h4
        have hgb : gb ≠ b := by
          rintro rfl
          have := R.apart 0 _ 1 _ gb rfl rfl how (by rw [hor, e1])
          omega
        refine ⟨us.toList.take xs.length, ⟨by have h9 : us.toList.length = us.size := us.length_toList; rw [List.length_take]; omega, by omega, by unfold maxLen; omega, Zgh (fun z hz => Ziu (ZcY.1 (Zlf htree) z hz)) h4, Or.inr ⟨gb, us, ty', e2, hgb, h2, by omega, rfl⟩⟩, h4, by rw [e2]; intro h; cases h⟩
    · have hx : xs = [] := List.eq_nil_of_length_eq_zero (by omega)
      subst hx
      exact ⟨[], ⟨rfl, by simp, by unfold maxLen; omega, by simp, Or.inl e2⟩, by simp [VRs], fun _ => e2⟩
  obtain ⟨A1, cap1, news, rfl, hnl, hvn, htn, hln, hn1, hsrc⟩ := ZDl R hob.2 hv1 hk
  refine (ZK2 L ty (fun _ => none) b A xs.length cap lr olds news A1 ys.length cap1 w (LibA.three_whole hheap) hBR hA0 hnl hn1 hsrc (by unfold ZbS at hlim; omega)).mono ?_
  rintro e w' ⟨rfl, A', cap', hT, hle, hcm, hcase⟩
  refine ⟨_, rfl, ?_⟩
  have hT' := ZIH hT
  unfold maxLen at hcm
  obtain ⟨w1, hw1⟩ : ∃ w1 : World, w1 = { w with heap := w.heap.setIfInBounds b (.cells #[.slice A' (xs.length + ys.length) cap', .int .i64 0, .int .i8 0] ty (0, 0)) } := ⟨_, rfl⟩
  have hbl : b < w.heap.size := Lib.lt_of_heap hheap
  have h1b : w1.heap[b]? = w'.heap[b]? := by rw [hw1, hT']; simp [hbl]
  have h1o : ∀ k, k ≠ b → w1.heap[k]? = w.heap[k]? := fun k hk => by rw [hw1]; exact Array.getElem?_setIfInBounds_ne (fun e => hk e.symm)
  have h1s : w1.heap.size = w.heap.size := by rw [hw1]; simp
  have R1 : Rel base w0 I0 I β [.var [.top, .int .i64 0, .int .i8 0], .row g 1 xs] w1 := by
    have := R.putObj (t := 0) (x' := .var [.top, .int .i64 0, .int .i8 0]) rfl how (by simp only [ZA, hβ0, Option.bind_some]) (.cells #[.slice A' (xs.length + ys.length) cap', .int .i64 0, .int .i8 0] ty (0, 0))
      ⟨b, kk, cc, _, ty, hβ0, by simp [hbl]; rfl, by simp [VRs, VR]⟩ rfl
    rw [hw1]; exact this
  obtain ⟨bi2, hB, keep, hbi2, hblk, hv2⟩ : ∃ bi2 : BI, KB base w1 w' ∧ (∀ b', ZA β 1 (.row g 1 xs) ≠ some b' → b' < w1.heap.size → w'.heap[b']? = w1.heap[b']?) ∧ (bi2.b = none ∨ ∃ b', bi2.b = some b' ∧ (ZA β 1 (.row g 1 xs) = some b' ∨ b' = w1.heap.size)) ∧
      BR I (β.put 1 (g + 1) bi2) w' 1 (.row (g + 1) 1 (xs ++ ys)) ∧ VR I (β.put 1 (g + 1) bi2) (.sl 1 (g + 1) 0 (xs ++ ys).length) (.slice A' (xs.length + ys.length) cap') := by
    have hle2 : β.le (β.put 1 (g + 1) bi) → True := fun _ => trivial
    have hnone : β 1 (g + 1) = none := R.gen 1 _ (g + 1) rfl (by simp [Zp])
    rcases hcase with ⟨hn0, rfl, rfl, hgB⟩ | ⟨G, W1, Y, t, rfl, hGw, hGb, hg1, hg2, hY, hYs, hYt⟩
    · have hy : ys = [] := List.eq_nil_of_length_eq_zero hn0
      subst hy
      simp only [List.append_nil, List.length_nil, Nat.add_zero]
      have hbl' : β.le (β.put 1 (g + 1) bi) := Bmap.put_le hnone
      have same : ∀ k, k < w.heap.size → w'.heap[k]? = w1.heap[k]? := by
        intro k hk
        by_cases e : k = b
        · rw [e, h1b]
        · rw [h1o k e]; exact hgB.block k hk (fun h => e (Option.some.inj h))
      refine ⟨bi, ⟨by rw [hw1]; exact hgB.os, by rw [hw1]; exact hgB.tape, by rw [hw1]; exact hgB.output, by rw [h1s]; exact hgB.size, fun k hk => same k (hbw k hk)⟩, fun b' _ hb' => same b' (by omega), ?_, ?_, ?_⟩
      · rw [hor]
        cases bi.b with
        | none => exact Or.inl rfl
        | some x => exact Or.inr ⟨x, rfl, Or.inl rfl⟩
      · refine ⟨bi, Bmap.put_same β 1 (g + 1) bi, hk1, by omega, hcap63, hxl, htree, hlens, hrow.imp id ?_⟩
        rintro ⟨gb, us, ty', q1, q2, q3, q4⟩
        have hgb : gb ≠ b := by
          rintro rfl
          have := R.apart 0 _ 1 _ gb rfl rfl how (by rw [hor, q1])
          omega
        exact ⟨gb, us, ty', q1, by rw [same gb (Lib.lt_of_heap q2), h1o gb hgb]; exact q2, q3, VRs.mono (Imm.le.refl I) hbl' _ _ q4⟩
      · rw [Zb5]
        refine ⟨bi, Bmap.put_same β 1 (g + 1) bi, hxl, hcap63, ?_⟩
        rcases hA with ⟨gb, e1, e2, e3⟩ | ⟨e1, e2, e3⟩
        · exact Or.inl ⟨gb, e1, by rw [e2, e3]⟩
        · have hx : xs.length = 0 := by omega
          exact Or.inr ⟨e1, e3, _, by rw [hx, e2]⟩
    · have hbl' : β.le (β.put 1 (g + 1) ⟨some G, 1, cap'⟩) := Bmap.put_le hnone
      have hGo : ZA β 1 (.row g 1 xs) = some G ∨ G = w1.heap.size := by
        rcases hGw with e | ⟨e, hc0⟩
        · exact Or.inr (by rw [h1s]; exact e)
        · refine Or.inl ?_
          rw [hor]
          rcases hA with ⟨gb, e1, e2, e3⟩ | ⟨e1, e2, e3⟩
          · rw [e2] at e; injection e with e; injection e with e; rw [e1, e]
          · exact absurd e2 hc0
      have hsz1 : w.heap.size ≤ W1.heap.size := hg1.size
      have same : ∀ k, k < w.heap.size → k ≠ G → w'.heap[k]? = w1.heap[k]? := by
        intro k hk hkG
        by_cases e : k = b
        · rw [e, h1b]
        · rw [h1o k e]; exact (hg2.block k (by omega) (fun h => hkG (Option.some.inj h))).trans (hg1.block k hk (fun h => e (Option.some.inj h)))
      refine ⟨⟨some G, 1, cap'⟩, ⟨by rw [hw1]; exact hg2.os.trans hg1.os, by rw [hw1]; exact hg2.tape.trans hg1.tape, by rw [hw1]; exact hg2.output.trans hg1.output, by rw [h1s]; exact Nat.le_trans hg1.size hg2.size, fun k hk => same k (hbw k hk) ?_⟩, fun b' hb1 hb' => same b' (by omega) ?_, Or.inr ⟨G, rfl, hGo⟩, ?_, ?_⟩
      · rintro rfl
        rcases hGo with e | e
        · exact (R.own 1 _ _ rfl e).1 hk
        · have := hbw _ hk; omega
      · rintro rfl
        rcases hGo with e | e
        · exact hb1 e
        · omega
      · refine ⟨_, Bmap.put_same β 1 (g + 1) _, rfl, by omega, hcm, by rw [List.length_append]; exact hle, by rw [ZgI htree htn], ?_, Or.inr ⟨G, Y, t, rfl, hY, by rw [hYs, Nat.mul_one], ?_⟩⟩
        · intro x hx
          rcases List.mem_append.1 hx with h | h
          · exact hlens x h
          · exact hln x h
        · rw [List.length_append, Nat.mul_one, hYt, Ze7]
          exact Zcy (VRs.mono (Imm.le.refl I) hbl' _ _ hvo) (VRs.mono (Imm.le.refl I) hbl' _ _ hvn)
      · rw [Zb5]
        exact ⟨_, Bmap.put_same β 1 (g + 1) _, by rw [List.length_append]; exact hle, hcm, Or.inl ⟨G, rfl, by rw [List.length_append]⟩⟩
  have hbw1 : KLt base w1 := fun k hk => by rw [h1s]; exact hbw k hk
  obtain ⟨R2, hle2⟩ := R1.grow (t := 1) (g := g) (k := 1) (xs := xs) (xs' := xs ++ ys) rfl bi2 hB (by
    intro b' o u hI
    have hne : b' ≠ b := by rintro rfl; rw [hob.2 o] at hI; cases hI
    have hlt : b' < w1.heap.size := by rw [h1s]; exact ZdR (R.imm _ _ _ hI)
    have hno : ZA β 1 (.row g 1 xs) ≠ some b' := fun e => by have := (R.own 1 _ b' rfl e).2 o; rw [this] at hI; cases hI
    rw [← R1.imm b' o u hI]
    simp only [World.cell?, keep b' hno hlt]) keep hbi2 hbw1 hblk
  have hβ2 : (β.put 1 (g + 1) bi2) 0 0 = some ⟨some b, kk, cc⟩ := hle2 _ _ _ hβ0
  refine ⟨β.put 1 (g + 1) bi2, hle2, ?_, by simp [VR, VRs]⟩
  refine R2.upd (Imm.le.refl I) (Bmap.le.refl _) (KB.refl _ _) (fun _ _ _ => rfl) R2.imm 0 (.var [.sl 1 (g + 1) 0 (xs ++ ys).length, .int .i64 0, .int .i8 0]) rfl (by simp) (fun _ _ _ => rfl) ?_ ?_ ?_ ?_ (by simp)
  · intro t' x b' hne hx hb'
    refine ⟨rfl, (R2.own t' x b' hx hb').2, ?_⟩
    simp only [ZA, hβ2, Option.bind_some]
    intro e; injection e with e; subst e
    exact hne (R2.apart t' x 0 _ b hx rfl hb' (by simp only [ZA, hβ2, Option.bind_some]))
  · exact ⟨b, kk, cc, _, ty, hβ2, hT', by simp only [VRs]; exact ⟨_, _, rfl, hv2, _, _, rfl, by simp [VR], _, _, rfl, by simp [VR], rfl⟩⟩
  · intro b' e
    simp only [ZA, hβ2, Option.bind_some] at e; injection e with e; subst e
    exact R2.own 0 _ b rfl (by simp only [ZA, hβ2, Option.bind_some])
  · intro g' hg'
    exact R2.gen 0 _ g' rfl (by simpa [Zp] using hg')
theorem ZOz (L:LaysM.n180 P ρ) {f:FuncId} (hf:ρ.f 180=f) (hx:∃ fn,P.funcs[f]?=some fn∧fn.body.isSome=true∧(fn.name == "runtime.NumGoroutine")=false) {args:List AVal} {σ σ':Za} {r:AVal} (hg:Zg9 args σ=some (r,σ')) :
  (∃ fn,P.funcs[f]?=some fn∧fn.body.isSome=true∧(fn.name == "runtime.NumGoroutine")=false) ∧
  ∀ base w0 I0 I β w (vs:Array Value),KLt base w0→Rel base w0 I0 I β σ w→VRs I β args vs.toList →
   Calls P f vs w (fun e w'=>∃ u,Ends r e u∧ZbY σ.length base w0 I0 I β r σ' u w'):=by
 refine ⟨hx,?_⟩
 intro base w0 I0 I β w vs hb R hargs
 subst hf
 unfold Zg9 at hg
 split at hg
 ·
  rename_i y ys lr
  split at hg
  case isFalse=>cases hg
  rename_i hc
  simp only [Option.some.injEq,Prod.mk.injEq] at hg
  obtain ⟨rfl,rfl⟩:=hg
  simp only [VRs] at hargs
  obtain ⟨v0,_,hvs,h0,v1,_,rfl,h1,rfl⟩:=hargs
  have hvs':vs=#[v0,v1]:=by rw [←Array.toList_inj];exact hvs
  subst hvs'
  simp only [VR] at h0
  obtain ⟨b,k,c,hβ0,rfl⟩:=h0
  obtain ⟨b',k',c',us,ty,hβ,hheap,hcs⟩:=R.blk 0 _ rfl
  rw [hβ0] at hβ;injection hβ with hβ;injection hβ with hβ1 hβ2 hβ3;injection hβ1 with hβ1;subst hβ1 hβ2 hβ3
  simp only [VRs] at hcs
  obtain ⟨u0,_,hus,hu0,u1,_,rfl,hu1,u2,_,rfl,hu2,rfl⟩:=hcs
  simp only [VR] at hu0 hu1 hu2
  obtain ⟨A,cap,rfl,_,_,hcap,_,_⟩:=hu0
  have hcap0:cap=0:=by simpa using hcap
  subst hu1 hu2 hcap0
  have hus':us=#[.slice A 0 0,.int .i64 0,.int .i8 lr]:=by rw [←Array.toList_inj];simpa using hus
  subst hus'
  have R1:=R.reserve 1
  have hfree:([.var [.lst true [],.int .i64 0,.int .i8 lr]]++List.replicate 1 ZJ.free)[1]?=some .free:=rfl
  obtain ⟨R2,hle⟩:=R1.newNone hfree 1 (by omega)
  have R3:Rel base w0 I0 I (β.put 1 0 ⟨none,1,0⟩) [.var [.lst true [],.int .i64 0,.int .i8 lr],.row 0 1 []] w:=R2
  refine (Zvo L hb R3 (bi:=⟨none,1,0⟩) (Bmap.put_same β 1 0 _) (hle _ _ _ hβ0) (A:=A) (cap:=0) hheap (Or.inr ⟨rfl,rfl,rfl⟩) (h1.mono (Imm.le.refl I) hle _ _) (by simpa using hc.1) hc.2).mono ?_
  rintro e w' ⟨u,he,β',hb',hR,hv⟩
  obtain ⟨β2,hk2,hR2,_⟩:=Znt hR 1 []
  refine ⟨u,he,I,β2,Imm.le.refl I,(KeptE.of_le (hle.trans hb')).trans hk2,?_,by simpa [ZaU,VR,VRs] using hv⟩
  have hgc:(gcA 1 [] [.var [.sl 1 (0+1) 0 ([]++ys).length,.int .i64 0,.int .i8 0],.row (0+1) 1 ([]++ys)]).2=[.var [.sl 1 0 0 ys.length,.int .i64 0,.int .i8 0],.row 0 1 ys]:=rfl
  rw [hgc] at hR2
  exact hR2
 ·rename_i y ys g m lr g' xs
  split at hg
  case isFalse=>cases hg
  rename_i hc
  obtain ⟨rfl,rfl,hc1,hc2⟩:=hc
  simp only [Option.some.injEq,Prod.mk.injEq] at hg
  obtain ⟨rfl,rfl⟩:=hg
  simp only [VRs] at hargs
  obtain ⟨v0,_,hvs,h0,v1,_,rfl,h1,rfl⟩:=hargs
  have hvs':vs=#[v0,v1]:=by rw [←Array.toList_inj];exact hvs
  subst hvs'
  simp only [VR] at h0
  obtain ⟨b,k,c,hβ0,rfl⟩:=h0
  obtain ⟨b',k',c',us,ty,hβ,hheap,hcs⟩:=R.blk 0 _ rfl
  rw [hβ0] at hβ;injection hβ with hβ;injection hβ with hβ1 hβ2 hβ3;injection hβ1 with hβ1;subst hβ1 hβ2 hβ3
  obtain ⟨bi,hbi,hk1,_⟩:=R.blk 1 (.row g 1 xs) rfl
  simp only [VRs] at hcs
  obtain ⟨u0,_,hus,hu0,u1,_,rfl,hu1,u2,_,rfl,hu2,rfl⟩:=hcs
  rw [Zb5] at hu0
  simp only [VR] at hu1 hu2
  subst hu1 hu2
  obtain ⟨bi',hbi',_,_,hcase⟩:=hu0
  rw [hbi] at hbi';injection hbi' with hbi';subst hbi'
  obtain ⟨A,cap,rfl,hA⟩:∃ A cap,u0=.slice A xs.length cap∧((∃ gb,bi.b=some gb∧A=some ⟨gb,0,none⟩∧cap=bi.cap)∨(bi.b=none∧cap=0∧bi.cap=0)):=by
   rcases hcase with ⟨gb,e1,e2⟩ | ⟨e1,e2,A,e3⟩
   ·exact ⟨_,_,e2,Or.inl ⟨gb,e1,rfl,rfl⟩⟩
   ·obtain ⟨bi2,hbi2,_,_,_,hxl,_⟩:=R.blk 1 (.row g 1 xs) rfl
    rw [hbi] at hbi2;injection hbi2 with hbi2;subst hbi2
    exact ⟨A,0,by rw [e3,show xs.length=0 by omega],Or.inr ⟨e1,rfl,e2⟩⟩
  have hus':us=#[.slice A xs.length cap,.int .i64 0,.int .i8 lr]:=by rw [←Array.toList_inj];simpa using hus
  subst hus'
  refine (Zvo L hb R hbi hβ0 hheap hA h1 hc1 hc2).mono ?_
  rintro e w' ⟨u,he,β',hb',hR,hv⟩
  exact ⟨u,he,I,β',Imm.le.refl I,KeptE.of_le hb',hR,hv⟩
 ·cases hg
end
end Go.Proofs.YtmlkhhidifjjfaaDoor
namespace Go.Proofs.YtmlkhhidifjjfaaDoor
open Go.Shelf
def ZC7:Ren:=⟨fun | 180=>130 | 251=>150 | 252=>151 | 181=>159 | 184=>160 | 290=>161 | 324=>164 | n=>n,fun | 130=>190 | 37=>22 | 3=>3 | 75=>187 | 0=>0 | 93=>135 | 91=>133 | 131=>123 | 4=>4 | 20=>20 | 5=>5 | 80=>118 | 9=>9 | n=>n,fun | 14=>2 | n=>n⟩
theorem ZCH:Go.Proofs.LaysM.n180 Tryd.prog ZC7:={ mixed:=by kernel_rfl,f180:=Tryd.func130.trans (congrArg some (by kernel_rfl)),f181:=Tryd.func159.trans (congrArg some (by kernel_rfl)),f184:=Tryd.func160.trans (congrArg some (by kernel_rfl)),f251:=Tryd.func150.trans (congrArg some (by kernel_rfl)),f252:=Tryd.func151.trans (congrArg some (by kernel_rfl)),f290:=Tryd.func161.trans (congrArg some (by kernel_rfl)),f324:=Tryd.func164.trans (congrArg some (by kernel_rfl)),t0:=Tryd.underlying0,a0:=Tryd.isAgg0,z0:=Tryd.sizeOf0,v0:=Tryd.zeroValue0,t3:=Tryd.underlying3,a3:=Tryd.isAgg3,z3:=Tryd.sizeOf3,v3:=Tryd.zeroValue3,t4:=Tryd.underlying4,a4:=Tryd.isAgg4,z4:=Tryd.sizeOf4,v4:=Tryd.zeroValue4,t20:=Tryd.underlying20,a20:=Tryd.isAgg20,z20:=Tryd.sizeOf20,v20:=Tryd.zeroValue20,t37:=Tryd.underlying22,a37:=Tryd.isAgg22,z37:=Tryd.sizeOf22,v37:=Tryd.zeroValue22,t75:=Tryd.underlying187,a75:=Tryd.isAgg187,z75:=Tryd.sizeOf187,v75:=Tryd.zeroValue187,t91:=Tryd.underlying133,a91:=Tryd.isAgg133,z91:=Tryd.sizeOf133,v91:=Tryd.zeroValue133,t93:=Tryd.underlying135,a93:=Tryd.isAgg135,z93:=Tryd.sizeOf135,v93:=Tryd.zeroValue135,t130:=Tryd.underlying190,a130:=Tryd.isAgg190,z130:=Tryd.sizeOf190,v130:=Tryd.zeroValue190,t131:=Tryd.underlying123,a131:=Tryd.isAgg123,z131:=Tryd.sizeOf123,v131:=Tryd.zeroValue123,g14:=by kernel_rfl,t5:=Tryd.underlying5,a5:=Tryd.isAgg5,z5:=Tryd.sizeOf5,v5:=Tryd.zeroValue5,t9:=Tryd.underlying9,a9:=Tryd.isAgg9,z9:=Tryd.sizeOf9,v9:=Tryd.zeroValue9,t80:=Tryd.underlying118,a80:=Tryd.isAgg118,z80:=Tryd.sizeOf118,v80:=Tryd.zeroValue118,i0:=by kernel_rfl,i3:=by kernel_rfl,i4:=by kernel_rfl,i5:=by kernel_rfl,i9:=by kernel_rfl,i20:=by kernel_rfl,i37:=by kernel_rfl,i75:=by kernel_rfl,i80:=by kernel_rfl,i91:=by kernel_rfl,i93:=by kernel_rfl,i130:=by kernel_rfl,i131:=by kernel_rfl,m14:=by kernel_rfl }
end Go.Proofs.YtmlkhhidifjjfaaDoor
namespace Go.Proofs.YtmlkhhidifjjfaaDoor
theorem ZDh:∃ fn,Tryd.prog.funcs[130]?=some fn∧fn.body.isSome=true∧(fn.name == "runtime.NumGoroutine")=false:=⟨Tryd.f130,Tryd.func130,by kernel_rfl,by kernel_rfl⟩
theorem ZBB:ZjH Tryd.prog PR1:=by
 intro f g h args σ r σ' hg
 unfold PR1 at h
 split at h
 ·rename_i e;subst e
  injection h with h;subst h
  exact Zz8 hg
 ·split at h
  ·rename_i e;subst e
   injection h with h;subst h
   exact ZOz ZCH rfl ZDh hg
  ·exact Zqw f g h args σ r σ' hg
theorem ZLE:ZaL Tryd.prog E1:=by
 have h:E1=EV CF PR1 BY:=ZC3 CF PR1 BY
 rw [h]
 exact ZLm ZiC ZBB ann BY
end Go.Proofs.YtmlkhhidifjjfaaDoor
namespace Go.Proofs.YtmlkhhidifjjfaaDoor
open Go.RowKit
variable {R:Nat}
theorem ZDp {x:AVal} (h:Zo3 R false (.int .u8) x):∃ b:UInt8,True∧x=Zc b:=by
 obtain ⟨y,h,rfl⟩:=h
 obtain ⟨b,_,h1⟩:=ZsC h
 exact ⟨b,trivial,h1⟩
end Go.Proofs.YtmlkhhidifjjfaaDoor
namespace Go.Proofs.YtmlkhhidifjjfaaDoor
open Go.RowKit Go.Shelf Go.Lib
theorem ZKJ {W:World} (h:Lib.Utf8Tabs 0 1 W):Gl.le (Imm.of W):=by
 intro b o u hu
 unfold Gl at hu
 unfold Imm.of
 split at hu
 ·rename_i e;subst e
  split at hu
  ·rename_i ho
   rw [h.1 o ho,←hu]
  ·cases hu
 ·split at hu
  ·rename_i e;subst e
   split at hu
   ·rename_i ho
    rw [←hu]
    obtain ⟨h1,h2⟩:=h.2 (o / 2) (by omega)
    by_cases hp:o % 2=0
    ·rw [if_pos hp,←h1];congr 2;omega
    ·rw [if_neg hp,←h2];congr 2;omega
   ·cases hu
  ·cases hu
section
open Go.RowKit
variable {H:Type} {enc:TypeId×Value→H} {P:Program} {w:World} {spare:Nat→Bool} {held:Bool}
end
end Go.Proofs.YtmlkhhidifjjfaaDoor
namespace Go.Proofs.YtmlkhhidifjjfaaDoor
open Go.ChangeShapes Go.WideShapes Go.ChangeAt Go.RowKit Go.Deep
theorem ZOr:ownKnob Tryd.prog.godebug=none:=by kernel_rfl
theorem Ztu:laidOutB Tryd.prog=true:=by kernel_rfl
theorem ZBL {W:World} (hLH:laidMetH Tryd.prog Rows.packetMoreRow.laid W):Gl.le (Imm.of W):=by
 have hL:laidMet Tryd.prog Rows.packetMoreRow.laid W:=by rw [←MakeChecks.laidMetH_plain _ _ _ (by kernel_rfl)];exact hLH
 have e1:Rows.laid_unicode_utf8_first=Lib.firstData:=by kernel_rfl
 have e2:(Rows.laid_unicode_utf8_acceptRanges:DataW Unit)=Lib.acceptData:=by kernel_rfl
 have h1:Lib.VarReads Tryd.prog W "unicode/utf8.first" Lib.firstData:=by rw [←e1];exact Lib.laidMet.reads hL (.tail _ (.tail _ (.head _)))
 have h2:Lib.VarReads Tryd.prog W "unicode/utf8.acceptRanges" Lib.acceptData:=by rw [←e2];exact Lib.laidMet.reads hL (.head _)
 exact ZKJ (utf8Tabs_of_readsT (U8Types.of196 Zuq) ⟨by kernel_rfl,by kernel_rfl,by kernel_rfl,by kernel_rfl,by kernel_rfl,by kernel_rfl,by kernel_rfl⟩ h1 h2)
set_option maxRecDepth 100000 in
set_option maxHeartbeats 1000000 in
theorem Zxn (H:Type) (enc:TypeId×Value→H) (W:World) (base:Nat) (args:Array Value) (ds gs:List (DataW H)) (before:List MemPlace) (vts:List TypeId)
  (hval0:∀ (j:Nat) t v,Tryd.f7.params[j]?=some t→args[j]?=some v→Value.okWide Tryd.prog W .any base t v)
  (hW:DataW.Whole enc Tryd.prog Tryd.f7.params.toList Rows.packetMoreSpec.vars false W args.toList ds gs before) (hL:laidMetH Tryd.prog Rows.packetMoreRow.laid W) (hwt:(DataW.weightsEach Tryd.prog (Tryd.f7.params.toList++vts) (ds++gs)).all (·≤reachBytes)=true) :
  Calls Tryd.prog 7 args W fun e W'=>∃ v,e=.returned v∧Rows.packetMoreSpec.post enc Tryd.prog Tryd.f7 false true false false W args v W':=by
 have hW':=hW
 obtain ⟨p,q,hA0,hV,rfl,hfz,hnd⟩:=hW
 have hval:∀ (j:Nat) t v,Tryd.f7.params[j]?=some t→args[j]?=some v→Value.okWide Tryd.prog W .any base t v:=hval0
 have hA:DataW.TrodAll enc Tryd.prog W 0 (fun _=>true) true Tryd.f7.params.toList args.toList ds p:=hA0
 rw [Tryd.params7] at hA hval hwt
 obtain ⟨v0,vs0,d0,ds0,p0,q0,hargs,rfl,rfl,h0,r0⟩:=trodAll_cons hA
 obtain ⟨v1,vs1,d1,ds1,p1,q1,rfl,rfl,rfl,h1,r1⟩:=trodAll_cons r0
 obtain ⟨rfl,rfl,rfl⟩:=trodAll_nil r1
 obtain rfl:args=#[v0,v1]:=by cases args;simp_all
 obtain ⟨rfl,rfl⟩:=trodVars_none hV
 have k0:=h0
 have lt0:∀ x ∈ p0,x.block < W.heap.size:=by obtain ⟨m,hm⟩:=k0;exact DataW.trod_lt m _ _ _ hm
 obtain ⟨x0,y0,z0,_⟩:=Zud (R:=reachBytes) (n:=12) (T:=Zmx) (by kernel_rfl) (by kernel_rfl) (fun m hm=>of_decide_eq_true (List.all_eq_true.1 hwt m (DataW.weights_mem_each (j:=0) rfl rfl m hm))) (hval 0 68 v0 rfl rfl) h0
 rw [Tryd.underlying68] at y0
 obtain ⟨a0,b0,rfl⟩:=ZOk y0
 have k1:=h1
 have lt1:∀ x ∈ p1,x.block < W.heap.size:=by obtain ⟨m,hm⟩:=k1;exact DataW.trod_lt m _ _ _ hm
 obtain ⟨x1,y1,z1,_⟩:=Zud (R:=reachBytes) (n:=12) (T:=(.int .u8)) (by kernel_rfl) (by kernel_rfl) (fun m hm=>of_decide_eq_true (List.all_eq_true.1 hwt m (DataW.weights_mem_each (j:=1) rfl rfl m hm))) (hval 1 5 v1 rfl rfl) h1
 rw [Tryd.underlying5] at y1
 obtain ⟨a1,b1,rfl⟩:=ZDp y1
 clear hA0 hval0
 have rb:reachBytes≤9223372036854775807:=by decide
 have hq:=ZAL a0 a1 (ZyE b0 rb)
 refine (ZJ8 ZLE (ZBL hL) (args:=[ZW a0,Zc a1]) (by simp only [VRs];exact ⟨_,_,rfl,z0,_,_,rfl,z1,rfl⟩) (hq)).mono fun e W' ⟨he,bel⟩=>?_
 subst he
 exact ⟨_,rfl,_,_,_,[],_,[],hW',trodAll_mk1 (shut_bool Tryd.underlying4 _),(trodAll_cons_mk (Below.trod Ztu (by kernel_rfl) (of_decide_eq_true (by kernel_rfl)) k0 bel lt0) (trodAll_cons_mk (Below.trod Ztu (by kernel_rfl) (of_decide_eq_true (by kernel_rfl)) k1 bel lt1) trodAll_mk0)),rfl,bel.frame _,fun h=>by cases h⟩
noncomputable def ZpO (os:Os):World :=
 let w0:=World.holding Tryd.prog os ⟨#[],#[],[]⟩
 let put (h:Array Obj) (g:Nat) (us:Array Value):Array Obj:=h.modify g fun
  | .cells _ t frozen=>.cells us t frozen
  | o=>o
 let h1:=put w0.heap 0 (Lib.firstTab.map fun z=>Value.int .u8 z).toArray
 let h2:=put h1 1 ((List.range 16).flatMap fun i=>[Value.int .u8 (Lib.accLo i),Value.int .u8 (Lib.accHi i)]).toArray
 let h3:=(put h2 2 #[Value.iface 221 (.pointer (some ⟨h2.size,0,none⟩))]).push (.cells #[Value.string ⟨#[98,121,116,101,115,46,66,117,102,102,101,114,58,32,116,111,111,32,108,97,114,103,101]⟩] 237)
 { w0 with heap:=h3 }
theorem Zxv (os:Os):laidMet Tryd.prog Rows.packetMoreRow.laid ((ZpO os).forCall (fun _ _=>0) ⟨#[],#[.agg #[.int .i64 0,.bool false,.int .i64 0,.bool false,.int .i64 0,.string ByteArray.empty,.slice none 0 0,.int .i64 0,.slice none 0 0,.slice none 0 0,.slice none 0 0,.slice none 0 0,.bool false,.int .i64 0,.string ByteArray.empty,.bool false,.string ByteArray.empty,.slice none 0 0,.int .i64 0,.bool false,.slice none 0 0,.bool false,.string ByteArray.empty,.bool false,.slice none 0 0,.bool false],.int .u8 0],[]⟩).memory :=
 laidMet_of_run' 8 (by kernel_rfl) (by kernel_rfl)
theorem ZvY (os:Os) {H:Type} (enc:TypeId×Value→H):∃ ds places,DataW.whole enc Tryd.prog ((ZpO os).forCall (fun _ _=>0) ⟨#[],#[.agg #[.int .i64 0,.bool false,.int .i64 0,.bool false,.int .i64 0,.string ByteArray.empty,.slice none 0 0,.int .i64 0,.slice none 0 0,.slice none 0 0,.slice none 0 0,.slice none 0 0,.bool false,.int .i64 0,.string ByteArray.empty,.bool false,.string ByteArray.empty,.slice none 0 0,.int .i64 0,.bool false,.slice none 0 0,.bool false,.string ByteArray.empty,.bool false,.slice none 0 0,.bool false],.int .u8 0],[]⟩).memory Tryd.f7.params.toList Rows.packetMoreSpec.vars false #[.agg #[.int .i64 0,.bool false,.int .i64 0,.bool false,.int .i64 0,.string ByteArray.empty,.slice none 0 0,.int .i64 0,.slice none 0 0,.slice none 0 0,.slice none 0 0,.slice none 0 0,.bool false,.int .i64 0,.string ByteArray.empty,.bool false,.string ByteArray.empty,.slice none 0 0,.int .i64 0,.bool false,.slice none 0 0,.bool false,.string ByteArray.empty,.bool false,.slice none 0 0,.bool false],.int .u8 0].toList 8=some (ds,[],places) :=
 ⟨[.agg [.lit (.int .i64 0),.lit (.bool false),.lit (.int .i64 0),.lit (.bool false),.lit (.int .i64 0),.lit (.string []),.nil,.lit (.int .i64 0),.nil,.nil,.nil,.nil,.lit (.bool false),.lit (.int .i64 0),.lit (.string []),.lit (.bool false),.agg [.lit (.string []),.nil,.lit (.int .i64 0),.lit (.bool false),.nil],.lit (.bool false),.lit (.string []),.lit (.bool false),.nil,.lit (.bool false)],.lit (.int .u8 0)],[],by kernel_rfl⟩
set_option maxRecDepth 100000 in
set_option maxHeartbeats 1000000 in
theorem ZxL (os:Os) (started:os.Started) (H:Type) (enc:TypeId×Value→H) (F:Stop.Interp) :
  ReturnsInHanded {} Tryd.checked os 7 .any ((OpenSpec.ofChange Rows.packetMoreSpec).preRow enc Tryd.prog Tryd.f7 Rows.packetMoreRow.domain false Rows.packetMoreRow.laid) (((OpenSpec.ofChange Rows.packetMoreSpec).at F).post enc Tryd.prog Tryd.f7 false true false false):=by
 obtain ⟨ds,places,hx⟩:=ZvY os enc
 refine returnsInHanded_of_row (C:=Tryd.checked) (s:=(OpenSpec.ofChange Rows.packetMoreSpec)) ZOr started (by kernel_rfl) Tryd.func7
  (witness_row_at (enc:=enc) (C:=Tryd.checked) false (ZpO os) #[.agg #[.int .i64 0,.bool false,.int .i64 0,.bool false,.int .i64 0,.string ByteArray.empty,.slice none 0 0,.int .i64 0,.slice none 0 0,.slice none 0 0,.slice none 0 0,.slice none 0 0,.bool false,.int .i64 0,.string ByteArray.empty,.bool false,.string ByteArray.empty,.slice none 0 0,.int .i64 0,.bool false,.slice none 0 0,.bool false,.string ByteArray.empty,.bool false,.slice none 0 0,.bool false],.int .u8 0] rfl (by kernel_rfl) (by kernel_rfl) (by kernel_rfl)
   (OpenSpec.preRow_of_cond 8 hx (by kernel_rfl) (fun k hk=>by cases hk) (by kernel_rfl) (Zxv os))) ?_
 intro W base args ds gs before hval hW _ hcond hwt hL _ _
 exact Zxn H enc W base args ds gs before _ hval hW hL hwt
theorem ZLG:Rows.PacketMoreSaid :=
 OpenClaim.holds_of_cond 7 Tryd.f7 rfl rfl rfl rfl rfl rfl rfl ⟨rfl,rfl,rfl,rfl,rfl⟩ rfl rfl rfl rfl rfl (by kernel_rfl) Tryd.func7 (by kernel_rfl)
  (of_decide_eq_true (by kernel_rfl)) (by unfold Func.isWrapper;first | (rw [if_pos (by decide +kernel)];kernel_rfl) | (rw [if_neg (by decide +kernel)];exact ⟨rfl,rfl⟩))
  (fun os started H enc _ F=>by rw [OpenClaim.pre_eq_preRow];exact ZxL os started H enc F)
theorem ZxG (f:FuncId) (fn:Func) (hf:Tryd.pinned.checked.prog.funcNamed "tidings/tidingslaw12.PacketMore"=some f) (hfn:Tryd.pinned.checked.prog.funcs[f]?=some fn) :
  true=Tryd.pinned.checked.prog.looks []∧∀ (j:Nat) t,fn.params[j]?=some t→Tryd.pinned.checked.prog.wantsStandIn t=false:=by
 obtain rfl:f=7:=Option.some.inj ((show Tryd.prog.funcNamed "tidings/tidingslaw12.PacketMore"=some 7 by kernel_rfl).symm.trans hf) |>.symm
 obtain rfl:fn=Tryd.f7:=(Option.some.inj (Tryd.func7.symm.trans hfn)).symm
 refine ⟨by kernel_rfl,fun j t ht=>?_⟩
 rw [Tryd.params7] at ht
 have hm:t=68∨t=5:=by
  have:=Array.mem_of_getElem? ht
  simp at this
  first | exact this | exact this.symm | omega | (rcases this with h | h | h <;> simp [h]) | (rcases this with h | h | h | h <;> simp [h]) | (rcases this with h | h | h | h | h <;> simp [h]) | (rcases this with h | h | h | h | h | h <;> simp [h]) | (rcases this with h | h | h | h | h | h | h <;> simp [h])
 rcases hm with rfl | rfl
 ·exact (show Tryd.prog.wantsStandIn 68=false by kernel_rfl)
 ·exact (show Tryd.prog.wantsStandIn 5=false by kernel_rfl)
theorem packetMore_card:Rows.PacketMoreCardSaid :=
 Claim7.holds_tied_plain_at .later [] _ _ _ _ ZLG (fun _ h=>by cases h) (by kernel_rfl) (fun _ h=>by cases h) packetMore_row_tie rfl ⟨rfl,rfl⟩ (by kernel_rfl) rfl ZxG (by kernel_rfl)
#print axioms packetMore_card
end Go.Proofs.YtmlkhhidifjjfaaDoor
