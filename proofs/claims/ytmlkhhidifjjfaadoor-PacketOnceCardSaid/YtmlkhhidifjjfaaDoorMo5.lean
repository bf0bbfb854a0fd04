/- The card of PacketOnce: for every input the law returns true, and each argument reads afterwards as it read before. No other condition; the tables of unicode/utf8 are tied to the program. -/
import Derived.Test.YtmlkhhidifjjfaaDoorMo4
import Derived.Test.YtmlkhhidifjjfaaDoorMo3
import Derived.Test.YtmlkhhidifjjfaaDoorMo2
import Derived.Shelf.LaysM
import Derived.Shelf.Bytes.TryGrowAt
import Derived.Shelf.Bytes.GrowSliceCatch
import Derived.Lib.ByteType
import Derived.Lib.BufferAt
import Derived.Lib.BufferOwn
import Derived.Lib.AppendZeros
import Derived.Lib.Walk
import Derived.Lib.Hide
import Derived.Laws.CopyRow
import Derived.Laws.IdiomCopy
import Derived.Laws.MakeOwn
import Derived.WalkKit
import Derived.OwnWalk
import Derived.Defers
import Derived.Recover
import Derived.RegionTactic
import Derived.Shelf.RegionOpenPlain
import Derived.Deep.RegionWith
import Derived.Deep.Draws
import Derived.BigCall
import Derived.BigGuard
import Derived.Lib.BufferSrc
import Derived.Test.YtmlkhhidifjjfaaDoorMo1
import Derived.Test.YtmlkhhidifjjfaaDoorProg
import Derived.Lib.LaidU8T
import Derived.Test.YtmlkhhidifjjfaaDoorRows
import Derived.Deep.Slices
import Derived.Test.YtmlkhhidifjjfaaDoorCards
import Derived.Test.YtmlkhhidifjjfaaDoorTie
import Derived.ProofKit
import Derived.OpenShut
import Derived.ShutString
import Derived.ChangeOld
import Derived.Below
import Derived.SevenTiedAt
import Derived.LaidByTextLater
import Derived.Lib.LaidIn
import Derived.Deep.DeepHandedRow
import Derived.MakeChecks
import Derived.SizedLaws
set_option linter.defProp false
set_option linter.unusedSectionVars false
set_option linter.unusedSimpArgs false
set_option linter.unusedVariables false
namespace Go.Proofs.YtmlkhhidifjjfaaDoor
set_option maxHeartbeats 8000000
set_option maxRecDepth 10000
def ZlP (q:Zt) (m:Int):Zt:={ q with clean:=Zv m 2 != 0,hasWill:=Zv m 4 != 0,hasPassword:=Zv m 64 != 0,hasUser:=Zv m 128 != 0,will:={ q.will with qos:=Zv (ZdL m) 3,retain:=Zv m 32 != 0 } }
def headD (q:Zt) (k:Int) (ps:List Zu) (cl:Zb):Zt:={ q with keep:=k,props:=ps,client:=cl }
def ZiY (b:Bool) (q:Zt) (l:Zb):Except Int (Zt×Zb):=if b=true then (match ZcV l with
 | .error c=>.error c
 | .ok (d,r)=>.ok ({ q with password:=d },r)) else .ok (q,l)
def Zhg (b:Bool) (q:Zt) (l:Zb):Except Int (Zt×Zb):=if b=true then (match Zao l with
 | .error c=>.error c
 | .ok (d,r)=>.ok ({ q with user:=d },r)) else .ok (q,l)
def Zg1 (b:Bool) (q:Zt) (l:Zb):Except Int (Zt×Zb):=if b=true then (match ZdR l with
 | .error c=>.error c
 | .ok (ps,tp,d,r)=>.ok ({ q with will:={ q.will with props:=ps,topic:=tp,data:=d } },r)) else .ok (q,l)
def Zll (m:Int) (q:Zt) (l:Zb):Except Int (Zt×Zb):=match Zg1 (Zv m 4 != 0) q l with
 | .error c=>.error c
 | .ok (q,l)=>match Zhg (Zv m 128 != 0) q l with
  | .error c=>.error c
  | .ok (q,l)=>ZiY (Zv m 64 != 0) q l
def Zlq (q:Zt) (m:Int) (l:Zb):Except Int (Zt×Zb):=match ZaC 2 l with
 | .error c=>.error c
 | .ok (k,r4)=>match ZbE 1 r4 with
  | .error c=>.error c
  | .ok (ps,r5)=>match Zao r5 with
   | .error c=>.error c
   | .ok (cl,r6)=>Zll m (headD (ZlP q m) k ps cl) r6
def Zgu (q:Zt) (l:Zb):Except Int (Zt×Zb):=match Zao l with
 | .error c=>.error c
 | .ok (s,r1)=>if (s == [77,81,84,84])=true then (match ZaC 1 r1 with
  | .error c=>.error c
  | .ok (v,r2)=>if (v == 5)=true then (match ZaC 1 r2 with
   | .error c=>.error c
   | .ok (m,r3)=>if ZgE m (Zv (ZdL m) 3) (Zv m 4 != 0) (Zv m 32 != 0)=true then Zlq q m r3 else .error 129)
   else .error 132)
  else .error 132
structure Is (P:List AVal) (q:Zt):Prop where
 view:∀ σ,ZaG σ P=some (Zq q,[])
 ok:P.all ZV=true
theorem ZpD {σ:Za} {v y:AVal} {ts:List Nat} (hv:ZK σ v=some (y,ts)):∀ {P ys:List AVal} {k:Nat},ZaG σ P=some (ys,[])→k < P.length→ZaG σ (P.set k v)=some (ys.set k y,ts)
 | [],_,_,_,h=>by simp at h
 | x::P,ys,k,h,hk=>by
  rw [ZaG] at h
  split at h
  ·rename_i y0 t0 h0
   split at h
   ·rename_i ys0 us0 h1
    injection h with h;injection h with h2 h3
    obtain ⟨rfl,rfl⟩:=List.append_eq_nil_iff.1 h3
    subst h2
    cases k with
    | zero =>
     rw [List.set_cons_zero,ZaG,hv]
     simp only [h1,List.append_nil]
     rfl
    | succ k =>
     rw [List.set_cons_succ,ZaG,h0]
     simp only [ZpD hv h1 (by simpa using hk)]
     rfl
   ·cases h
  ·cases h
theorem Znq {v:AVal} (hv:ZV v=true):∀ {P:List AVal} {k:Nat},P.all ZV=true→(P.set k v).all ZV=true
 | [],_,_=>rfl
 | x::P,0,h=>by
  simp only [List.set_cons_zero,List.all_cons,Bool.and_eq_true] at h ⊢
  exact ⟨hv,h.2⟩
 | x::P,k+1,h=>by
  simp only [List.set_cons_succ,List.all_cons,Bool.and_eq_true] at h ⊢
  exact ⟨h.1,Znq hv h.2⟩
theorem Is.set {P:List AVal} {q q':Zt} (h:Is P q) {k:Nat} {v y:AVal} (hk:k < P.length) (hv:∀ σ,ZK σ v=some (y,[])) (ho:ZV v=true) (hc:(Zq q).set k y=Zq q'):Is (P.set k v) q' :=
 ⟨fun σ=>by rw [ZpD (hv σ) (h.view σ) hk,hc],Znq ho h.ok⟩
section
variable {P:List AVal} {q:Zt} (hP:P.length=26) (h:Is P q)
include hP h
theorem ZDI (m:Int):Is (Zbs P m) (ZlP q m):=by
 unfold Zbs
 have h1:=h.set (k:=12) (q':={ q with clean:=Zv m 2 != 0 }) (v:=.bool (Zv m 2 != 0)) (by omega) (fun _=>rfl) rfl rfl
 have h2:=h1.set (k:=15) (q':={ q with clean:=Zv m 2 != 0,hasWill:=Zv m 4 != 0 }) (v:=.bool (Zv m 4 != 0)) (by simp [hP]) (fun _=>rfl) rfl rfl
 have h3:=h2.set (k:=23) (q':={ q with clean:=Zv m 2 != 0,hasWill:=Zv m 4 != 0,hasPassword:=Zv m 64 != 0 }) (v:=.bool (Zv m 64 != 0)) (by simp [hP]) (fun _=>rfl) rfl rfl
 have h4:=h3.set (k:=21) (q':={ q with clean:=Zv m 2 != 0,hasWill:=Zv m 4 != 0,hasPassword:=Zv m 64 != 0,hasUser:=Zv m 128 != 0 }) (v:=.bool (Zv m 128 != 0)) (by simp [hP]) (fun _=>rfl) rfl rfl
 have h5:=h4.set (k:=18) (q':={ q with clean:=Zv m 2 != 0,hasWill:=Zv m 4 != 0,hasPassword:=Zv m 64 != 0,hasUser:=Zv m 128 != 0,will:={ q.will with qos:=Zv (ZdL m) 3 } }) (v:=.int .i64 (Zv (ZdL m) 3)) (by simp [hP]) (fun _=>rfl) rfl rfl
 exact h5.set (k:=19) (v:=.bool (Zv m 32 != 0)) (by simp [hP]) (fun _=>rfl) rfl rfl
theorem ZBd (k:Int) (ps:List Zu) (cl:Zb):Is (ZhN P k ps cl) (headD q k ps cl):=by
 unfold ZhN
 have h1:=h.set (k:=13) (q':={ q with keep:=k }) (v:=.int .i64 k) (by omega) (fun _=>rfl) rfl rfl
 have h2:=h1.set (k:=9) (q':={ q with keep:=k,props:=ps }) (v:=.lst false (ps.map Zm)) (by simp [hP]) (fun _=>rfl) rfl rfl
 exact h2.set (k:=14) (v:=.str cl) (by simp [hP]) (fun _=>rfl) rfl rfl
theorem ZwM (ps:List Zu) (tp d:Zb):Is (ZhF P ps tp d) { q with will:={ q.will with props:=ps,topic:=tp,data:=d } }:=by
 unfold ZhF
 have h1:=h.set (k:=20) (q':={ q with will:={ q.will with props:=ps } }) (v:=.lst false (ps.map Zm)) (by omega) (fun _=>rfl) rfl rfl
 have h2:=h1.set (k:=16) (q':={ q with will:={ q.will with props:=ps,topic:=tp } }) (v:=.str tp) (by simp [hP]) (fun _=>rfl) rfl rfl
 exact h2.set (k:=17) (v:=.lst false (d.map Zc)) (by simp [hP]) (fun _=>rfl) rfl rfl
end
def Zhh (x:Except Int KSt) (y:Except Int (Zt×Zb)):Prop:=match x with
 | .error e=>y=.error e
 | .ok (P,l)=>∃ q,y=.ok (q,l)∧P.length=26∧Is P q
section
variable {P:List AVal} {q:Zt} (hP:P.length=26) (h:Is P q) (l:Zb)
include hP h
theorem ZAK (b:Bool):Zhh (Zhw b (P,l)) (ZiY b q l):=by
 unfold Zhw ZiY
 cases b
 ·exact ⟨q,rfl,hP,h⟩
 ·rw [if_pos rfl,if_pos rfl]
  cases hd:ZcV l with
  | error c=>exact rfl
  | ok a=>exact ⟨_,rfl,by simp [hP],h.set (by omega) (fun _=>rfl) rfl rfl⟩
theorem ZJs (b:Bool):Zhh (ZgX b (P,l)) (Zhg b q l):=by
 unfold ZgX Zhg
 cases b
 ·exact ⟨q,rfl,hP,h⟩
 ·rw [if_pos rfl,if_pos rfl]
  cases hd:Zao l with
  | error c=>exact rfl
  | ok a=>exact ⟨_,rfl,by simp [hP],h.set (by omega) (fun _=>rfl) rfl rfl⟩
theorem ZBP (b:Bool):Zhh (ZiF b (P,l)) (Zg1 b q l):=by
 unfold ZiF Zg1
 cases b
 ·exact ⟨q,rfl,hP,h⟩
 ·rw [if_pos rfl,if_pos rfl]
  cases hd:ZdR l with
  | error c=>exact rfl
  | ok a =>
   obtain ⟨ps,tp,d,r⟩:=a
   exact ⟨_,rfl,by simp [ZhF,hP],ZwM hP h ps tp d⟩
theorem ZIg (m:Int):Zhh (ZiR m (P,l)) (Zll m q l):=by
 unfold ZiR Zll
 have h1:=ZBP hP h l (Zv m 4 != 0)
 cases hw:ZiF (Zv m 4 != 0) (P,l) with
 | error e =>
  rw [hw] at h1
  rw [show Zg1 (Zv m 4 != 0) q l=.error e from h1]
  exact rfl
 | ok s =>
  obtain ⟨P1,l1⟩:=s
  rw [hw] at h1
  obtain ⟨q1,e1,hP1,i1⟩:=h1
  rw [e1]
  simp only
  have h2:=ZJs hP1 i1 l1 (Zv m 128 != 0)
  cases hu:ZgX (Zv m 128 != 0) (P1,l1) with
  | error e =>
   rw [hu] at h2
   rw [show Zhg (Zv m 128 != 0) q1 l1=.error e from h2]
   exact rfl
  | ok s =>
   obtain ⟨P2,l2⟩:=s
   rw [hu] at h2
   obtain ⟨q2,e2,hP2,i2⟩:=h2
   rw [e2]
   exact ZAK hP2 i2 l2 _
theorem ZvF (m:Int):Zhh (ZiI P m l) (Zlq q m l):=by
 unfold ZiI Zlq
 cases h1:ZaC 2 l with
 | error c=>exact rfl
 | ok a =>
 obtain ⟨k,r4⟩:=a
 simp only
 cases h2:ZbE 1 r4 with
 | error c=>exact rfl
 | ok a =>
 obtain ⟨ps,r5⟩:=a
 simp only
 cases h3:Zao r5 with
 | error c=>exact rfl
 | ok a =>
 obtain ⟨cl,r6⟩:=a
 exact ZIg (by simp [ZhN,Zbs,hP]) (ZBd (by simp [Zbs,hP]) (ZDI hP h m) k ps cl) r6 m
theorem ZGM:Zhh (Zim P l) (Zgu q l):=by
 unfold Zim Zgu
 cases h1:Zao l with
 | error c=>exact rfl
 | ok a =>
 obtain ⟨s,r1⟩:=a
 simp only
 split
 case isFalse=>exact rfl
 cases h2:ZaC 1 r1 with
 | error c=>exact rfl
 | ok a =>
 obtain ⟨v,r2⟩:=a
 simp only
 split
 case isFalse=>exact rfl
 cases h3:ZaC 1 r2 with
 | error c=>exact rfl
 | ok a =>
 obtain ⟨m,r3⟩:=a
 simp only
 split
 case isFalse=>exact rfl
 exact ZvF hP h r3 m
end
def ZcO (x:Except Int (Zt×Zb)):Except Int Zt:=match x with
 | .error e=>.error e
 | .ok (q,r)=>if r.length=0 then .ok q else .error 129
def Zge (q:Zt) (l:Zb):Except Int (Zt×Zb):=match Zct q.type l with
 | .error e=>.error e
 | .ok ((c,ps),r)=>.ok ({ q with code:=c,props:=ps.getD [] },r)
def idQ (q:Zt) (l:Zb):Except Int (Zt×Zb):=match idK l with
 | .error e=>.error e
 | .ok (n,r)=>Zge { q with id:=n } r
def Zic (q:Zt) (l:Zb):Except Int (Zt×Zb):=match ZaC 1 l with
 | .error e=>.error e
 | .ok (f,r)=>if f < 2 then (match ZaE 2 r with
  | .error e=>.error e
  | .ok (c,r2)=>match ZbE 2 r2 with
   | .error e=>.error e
   | .ok (ps,r3)=>.ok ({ q with present:=f == 1,code:=c,props:=ps },r3)) else .error 129
def Zke (q:Zt) (l:Zb):Except Int Zt:=match Zbr Zbp 8 l with
 | .error e=>.error e
 | .ok (n,ps,ts)=>.ok { q with id:=n,props:=ps,subs:=ts }
def Zkw (q:Zt) (l:Zb):Except Int Zt:=match Zbr Zao 10 l with
 | .error e=>.error e
 | .ok (n,ps,ts)=>.ok { q with id:=n,props:=ps,filters:=ts }
def Zhy (q:Zt) (l:Zb):Except Int Zt:=match Zbr (ZaE q.type) q.type l with
 | .error e=>.error e
 | .ok (n,ps,ts)=>.ok { q with id:=n,props:=ps,codes:=ts }
def Zhz (t:Int) (l:Zb):Except Int Zt :=
 if t=1 then ZcO (Zgu { ZaF with type:=1 } l)
 else if t=2 then ZcO (Zic { ZaF with type:=2 } l)
 else if t=4∨t=5∨t=6∨t=7 then ZcO (idQ { ZaF with type:=t } l)
 else if t=8 then Zke { ZaF with type:=8 } l
 else if t=10 then Zkw { ZaF with type:=10 } l
 else if t=9∨t=11 then Zhy { ZaF with type:=t } l
 else if t=14∨t=15 then ZcO (Zge { ZaF with type:=t } l)
 else ZcO (.ok ({ ZaF with type:=t },l))
def Zdv (b:Int) (l:Zb):Zt×Int :=
 if tyI b=0 then (ZaF,129) else if tyI b=3 then Zft b l
 else if Zbm b 15=Zeh (tyI b) then (match Zhz (tyI b) l with
  | .error e=>(ZaF,e)
  | .ok q=>(q,0)) else (ZaF,129)
def Zdo (t : Int) (l : Zb) (x : Except Int Zt) : Prop := match x with
  | .ok q => (∃ Q L, Q.length = 26 ∧ Zd Q = true ∧ ZH L = true ∧ Is Q q ∧ E 77 [.ref 0 0] (Zg (P0.set 0 (.int .i64 t)) l) = some (.tup [], [.var (Q ++ [L])])) ∨
      (∃ Q q0 kk w ys, Q.length = 26 ∧ Zd Q = true ∧ kk < 26 ∧ Is Q q0 ∧ (Zq q0).set kk (.lst false ys) = Zq q ∧ E 77 [.ref 0 0] (Zg (P0.set 0 (.int .i64 t)) l) = some (.tup [], Zb9 Q kk ys.length [] w ys))
  | .error e => (∃ cs, Zd cs = true ∧ E 77 [.ref 0 0] (Zg (P0.set 0 (.int .i64 t)) l) = some (.pan (Zy e), [.var cs])) ∨
      (∃ Q kk n r w ys, Q.length = 26 ∧ Zd Q = true ∧ kk < 26 ∧ E 77 [.ref 0 0] (Zg (P0.set 0 (.int .i64 t)) l) = some (.pan (Zy e), Zb9 Q kk n r w ys))
theorem ZiA {t:Int} {l:Zb} {q:Zt} {Q:List AVal} {r:Zb} (hQ:Q.length=26) (hN:Zd Q=true) (hi:Is Q q) (h:E 77 [.ref 0 0] (Zg (P0.set 0 (.int .i64 t)) l)=some (if r.length=0 then .tup [] else .pan (Zy 129),Zg Q r)):Zdo t l (ZcO (.ok (q,r))):=by
 unfold ZcO
 simp only
 split at h
 ·rename_i h0
  rw [if_pos h0]
  exact Or.inl ⟨Q,_,hQ,hN,rfl,hi,h⟩
 ·rename_i h0
  rw [if_neg h0]
  exact Or.inl ⟨_,Zx Q hQ hN _ _,h⟩
theorem Zj5 {t:Int} {l:Zb} {kk w:Nat} {e:Int} (hk:kk < 26) (h:ZhP kk w l (P0.set 0 (.int .i64 t)) e):Zdo t l (.error e):=by
 rcases h with ⟨cs,h1,h2⟩ | ⟨Q,n,r,ys,h1,h2,h3⟩
 ·exact Or.inl ⟨cs,h1,h2⟩
 ·exact Or.inr ⟨Q,kk,n,r,w,ys,h1,h2,hk,h3⟩
section
variable (l:Zb) (hl:l.length≤1099511627775)
include hl
theorem hlP:l.length≤140737488355328:=by omega
theorem ZxD:Zdo 1 l (ZcO (Zgu { ZaF with type:=1 } l)):=by
 have hs:=ZGM (P:=P0.set 0 (.int .i64 1)) (q:={ ZaF with type:=1 }) rfl ⟨fun σ=>rfl,rfl⟩ l
 have hr:=ZB9 (P0.set 0 (.int .i64 1)) rfl (by rfl) l (hlP l hl) (fun r _=>Zc1 1 r) (fun r _=>Zc1 16 r)
 cases hc:Zim (P0.set 0 (.int .i64 1)) l with
 | error e =>
  rw [hc] at hs hr
  rw [show Zgu { ZaF with type:=1 } l=.error e from hs]
  obtain ⟨cs,hn,he⟩:=KRuns.fnF (f:=114) (fn:=Znm) (by rfl) Zt0 hr
  exact Or.inl ⟨cs,hn,ZI6 (P0.set 0 (.int .i64 1)) rfl (by rfl) rfl l (hlP l hl) hn he⟩
 | ok s =>
  obtain ⟨Q,r⟩:=s
  rw [hc] at hs hr
  obtain ⟨q,e1,hQ,hi⟩:=hs
  rw [e1]
  have hQN:Zd Q=true:=by obtain ⟨_,_,_,h3,_⟩:=hr;exact h3
  have he:=KRuns.fnT (f:=114) (fn:=Znm) (by rfl) Zt0 rfl hr
  refine ZiA hQ hQN hi ?_
  by_cases h0:r.length=0
  ·rw [if_pos h0];exact Zvx (P0.set 0 (.int .i64 1)) rfl (by rfl) rfl l (hlP l hl) he hQ hQN h0
  ·rw [if_neg h0];exact ZJx (P0.set 0 (.int .i64 1)) rfl (by rfl) rfl l (hlP l hl) he hQ hQN h0
theorem Zvz:Zdo 2 l (ZcO (Zic { ZaF with type:=2 } l)):=by
 have hP:(P0.set 0 (.int .i64 2)).length=26:=rfl
 have hN:Zd (P0.set 0 (.int .i64 2))=true:=by rfl
 unfold Zic
 cases h1:ZaC 1 l with
 | error e=>exact Or.inl (ZBx _ hP hN rfl l (hlP l hl) h1)
 | ok a =>
 obtain ⟨f,r⟩:=a
 simp only
 split
 case isFalse hf=>exact Or.inl (Zwb _ hP hN rfl l (hlP l hl) h1 hf)
 rename_i hf
 cases h2:ZaE 2 r with
 | error e=>exact Or.inl (ZGc _ hP hN rfl l (hlP l hl) h1 hf h2)
 | ok a =>
 obtain ⟨c,r2⟩:=a
 simp only
 cases h3:ZbE 2 r2 with
 | error e=>exact Or.inl (ZGf _ hP hN rfl l (hlP l hl) h1 hf h2 h3)
 | ok a =>
 obtain ⟨ps,r3⟩:=a
 exact ZiA (by simp [hP]) (ZL (ZbW _ _) _ (ZL rfl _ (ZL rfl _ hN))) ⟨fun σ=>rfl,rfl⟩ (Zwe _ hP hN rfl l (hlP l hl) h1 hf h2 h3 (Zc1 2 r2))
theorem Zp3 {P:List AVal} {q:Zt} (hP:P.length=26) (h:Is P q) (c:Int) (ps:Option (List Zu)):Is (Zdt P c ps) { q with code:=c,props:=ps.getD [] }:=by
 unfold Zdt
 have h1:=h.set (k:=7) (q':={ q with code:=c }) (v:=.int .i64 c) (by omega) (fun _=>rfl) rfl rfl
 cases ps with
 | none=>exact h1.set (k:=9) (v:=.lst true []) (by simp [hP]) (fun _=>rfl) rfl rfl
 | some ps=>exact h1.set (k:=9) (v:=.lst false (ps.map Zm)) (by simp [hP]) (fun _=>rfl) rfl rfl
theorem ZqN (k:Int) (hk:k=14∨k=15):Zdo k l (ZcO (Zge { ZaF with type:=k } l)):=by
 have hP:(P0.set 0 (.int .i64 k)).length=26:=rfl
 have hN:Zd (P0.set 0 (.int .i64 k))=true:=by rfl
 unfold Zge
 simp only
 cases h1:Zct k l with
 | error e=>exact Or.inl (ZFV _ hP hN k hk rfl (fun r _=>Zc1 k r) l (hlP l hl) h1)
 | ok a =>
 obtain ⟨⟨c,ps⟩,r⟩:=a
 obtain ⟨i1,i2⟩:=ZlE hP hN c ps
 exact ZiA i1 i2 (Zp3 l hl (q:={ ZaF with type:=k }) hP ⟨fun σ=>rfl,rfl⟩ c ps) (ZB2 _ hP hN k hk rfl rfl rfl (fun r _=>Zc1 k r) l (hlP l hl) h1)
theorem Zjv (k:Int) (hk:k=4∨k=5∨k=6∨k=7):Zdo k l (ZcO (idQ { ZaF with type:=k } l)):=by
 have hP:(P0.set 0 (.int .i64 k)).length=26:=rfl
 have hN:Zd (P0.set 0 (.int .i64 k))=true:=by rfl
 unfold idQ Zge
 simp only
 cases h0:idK l with
 | error e=>exact Or.inl (Zvo _ hP hN k hk rfl l (hlP l hl) h0)
 | ok a =>
 obtain ⟨n,r1⟩:=a
 simp only
 cases h1:Zct k r1 with
 | error e=>exact Or.inl (ZBH _ hP hN k hk rfl (fun r _=>Zc1 k r) l (hlP l hl) h0 h1)
 | ok a =>
 obtain ⟨⟨c,ps⟩,r⟩:=a
 obtain ⟨i1,i2⟩:=ZlE (P:=(P0.set 0 (.int .i64 k)).set 4 (.int .i64 n)) rfl (by rfl) c ps
 exact ZiA i1 i2 (Zp3 l hl (q:={ ZaF with type:=k,id:=n }) rfl ⟨fun σ=>rfl,rfl⟩ c ps) (Ztk _ hP hN k hk rfl rfl rfl (fun r _=>Zc1 k r) l (hlP l hl) h0 h1)
theorem Zrz (k:Int) (hk:k=12∨k=13):Zdo k l (ZcO (.ok ({ ZaF with type:=k },l))) :=
 ZiA (Q:=P0.set 0 (.int .i64 k)) rfl (by rfl) ⟨fun σ=>rfl,rfl⟩ (ZKJ _ rfl (by rfl) k hk rfl l)
theorem Zdd (k:Int):QOk k (P0.set 0 (.int .i64 k)):=⟨rfl,by rfl,rfl,rfl,rfl,rfl⟩
theorem ZkN (k:Int) (n:Int) (ps:List Zu):Is (ZbS (P0.set 0 (.int .i64 k)) n ps) { ZaF with type:=k,id:=n,props:=ps }:=⟨fun σ=>rfl,rfl⟩
theorem ZLS:Zdo 8 l (Zke { ZaF with type:=8 } l):=by
 unfold Zke
 cases h:Zbr Zbp 8 l with
 | error e=>exact Zj5 (by omega) (ZyP _ l hl (Zdd l hl 8) h)
 | ok a =>
 obtain ⟨n,ps,ts⟩:=a
 have hQ:=Zdy (Zdd l hl 8) n ps
 have:=Zyd _ l hl (Zdd l hl 8) h
 rw [←List.length_map (f:=ZS)] at this
 exact Or.inr ⟨_,_,10,6,ts.map ZS,hQ.len,hQ.nor,by omega,ZkN l hl 8 n ps,rfl,this⟩
theorem ZBk:Zdo 10 l (Zkw { ZaF with type:=10 } l):=by
 unfold Zkw
 cases h:Zbr Zao 10 l with
 | error e=>exact Zj5 (by omega) (ZHG _ l hl (Zdd l hl 10) h)
 | ok a =>
 obtain ⟨n,ps,ts⟩:=a
 have hQ:=Zdy (Zdd l hl 10) n ps
 have:=ZMv _ l hl (Zdd l hl 10) h
 rw [←List.length_map (f:=AVal.str)] at this
 exact Or.inr ⟨_,_,11,1,ts.map AVal.str,hQ.len,hQ.nor,by omega,ZkN l hl 10 n ps,rfl,this⟩
theorem ZHD:Zdo 9 l (Zhy { ZaF with type:=9 } l):=by
 unfold Zhy
 simp only
 cases h:Zbr (ZaE 9) 9 l with
 | error e=>exact Zj5 (by omega) (Zvl _ l hl (Zdd l hl 9) h)
 | ok a =>
 obtain ⟨n,ps,ts⟩:=a
 have hQ:=Zdy (Zdd l hl 9) n ps
 have:=ZDk _ l hl (Zdd l hl 9) h
 rw [←List.length_map (f:=AVal.int .i64)] at this
 exact Or.inr ⟨_,_,8,1,ts.map (AVal.int .i64),hQ.len,hQ.nor,by omega,ZkN l hl 9 n ps,rfl,this⟩
theorem ZLu:Zdo 11 l (Zhy { ZaF with type:=11 } l):=by
 unfold Zhy
 simp only
 cases h:Zbr (ZaE 11) 11 l with
 | error e=>exact Zj5 (by omega) (ZCI _ l hl (Zdd l hl 11) h)
 | ok a =>
 obtain ⟨n,ps,ts⟩:=a
 have hQ:=Zdy (Zdd l hl 11) n ps
 have:=ZEx _ l hl (Zdd l hl 11) h
 rw [←List.length_map (f:=AVal.int .i64)] at this
 exact Or.inr ⟨_,_,8,1,ts.map (AVal.int .i64),hQ.len,hQ.nor,by omega,ZkN l hl 11 n ps,rfl,this⟩
theorem ZCH (t:Int) (h1:1≤t∧t≤15) (h3:t≠3):Zdo t l (Zhz t l):=by
 have : t=1∨t=2∨t=4∨t=5∨t=6∨t=7∨t=8∨t=9∨t=10∨t=11∨t=12∨t=13∨t=14∨t=15:=by omega
 unfold Zhz
 rcases this with rfl | rfl | rfl | rfl | rfl | rfl | rfl | rfl | rfl | rfl | rfl | rfl | rfl | rfl
 ·exact ZxD l hl
 ·exact Zvz l hl
 ·exact Zjv l hl 4 (by decide)
 ·exact Zjv l hl 5 (by decide)
 ·exact Zjv l hl 6 (by decide)
 ·exact Zjv l hl 7 (by decide)
 ·exact ZLS l hl
 ·exact ZHD l hl
 ·exact ZBk l hl
 ·exact ZLu l hl
 ·exact Zrz l hl 12 (by decide)
 ·exact Zrz l hl 13 (by decide)
 ·exact ZqN l hl 14 (by decide)
 ·exact ZqN l hl 15 (by decide)
end
theorem ZFJ (b:Int) (hb:0≤b∧b < 256):0≤tyI b∧tyI b≤15:=by
 have h:∀ n:Nat,n < 256→0≤tyI (n:Int)∧tyI (n:Int)≤15:=by decide +kernel
 have:=h b.toNat (by omega)
 rwa [Int.toNat_of_nonneg hb.1] at this
theorem ZmJ {b c:Int} {l:Zb} {Q:List AVal} {q:Zt} (h:E1 32 [.agg [.int .u8 b,.lst false (l.map Zc)]] []=some (.tup [.agg Q,.int .i64 c],[])) (hv:∀ σ,ZaG σ Q=some (Zq q,[])):Zad true 0 (E1 32 [.agg [.int .u8 b,.lst false (l.map Zc)]] [])=some (.tup [ZX q,.int .i64 c],[]):=by
 rw [h];exact Ztx c hv
theorem ZyX (b:Int) (hb:0≤b∧b < 256) (l:Zb) (hl:l.length≤1099511627775):Zad true 0 (E1 32 [.agg [.int .u8 b,.lst false (l.map Zc)]] [])=some (.tup [ZX (Zdv b l).1,.int .i64 (Zdv b l).2],[]):=by
 have hr:=ZFJ b hb
 have hF:∀ c,Zeb [.agg [.int .u8 b,.lst false (l.map Zc)]] []=some (.tup [.agg P0,.int .i64 c],[])→Zad true 0 (E1 32 [.agg [.int .u8 b,.lst false (l.map Zc)]] [])=some (.tup [ZX ZaF,.int .i64 c],[]):=fun c h =>
  ZmJ (by rw [Zfw];exact h) ZkB
 unfold Zdv
 by_cases h0:tyI b=0
 ·rw [if_pos h0]
  exact hF 129 (Zf0 b 129 l (Zlw b l (Zx _ rfl (by rfl) _ _) (ZGA P0 rfl (by rfl) b l h0)))
 rw [if_neg h0]
 by_cases h3:tyI b=3
 ·rw [if_pos h3]
  obtain ⟨Q,h,hv⟩:=Zsi b h3 l (by omega)
  exact ZmJ h hv
 rw [if_neg h3]
 by_cases hf:Zbm b 15=Zeh (tyI b)
 case neg =>
  rw [if_neg hf]
  exact hF 129 (Zf0 b 129 l (Zlw b l (Zx _ rfl (by rfl) _ _) (ZvZ P0 rfl (by rfl) b (tyI b) l rfl h0 h3 hf)))
 rw [if_pos hf]
 have hfi:=Zp9 P0 rfl (by rfl) b (tyI b) l rfl h0 h3 hf
 have hB:=ZCH l hl (tyI b) (by omega) h3
 generalize tyI b=t at *
 have p1:(P0.set 0 (.int .i64 t)).length=26:=rfl
 have p2:Zd (P0.set 0 (.int .i64 t))=true:=by rfl
 cases hx:Zhz t l with
 | error e =>
  rw [hx] at hB
  rcases hB with ⟨cs,hn,hb⟩ | ⟨Q,kk,n,r,w,ys,hQ,hN,hk,hb⟩
  ·exact hF e (Zf0 b e l (Zsx b l p1 p2 hn hfi hb))
  ·exact hF e (Zf0 b e l (ZBI b l p1 p2 hQ hN hk hfi hb))
 | ok q =>
  rw [hx] at hB
  rcases hB with ⟨Q,L,hQ,hN,nL,hi,hb⟩ | ⟨Q,q0,kk,w,ys,hQ,hN,hk,hi,hc,hb⟩
  ·exact ZmJ (by rw [Zfw];exact ZpS b l p1 p2 hQ hN hi.ok nL hfi hb) hi.view
  ·refine ZBX (by rw [Zfw];exact Zw2 b l p1 p2 hQ hN hk (fun r g m=>Znq rfl hi.ok) hfi hb) (fun σ hs=>?_)
   have hv:ZK σ (.sl 0 0 0 ys.length)=some (.lst false ys,[0]):=by
    simp [ZK,Z2,hs]
   unfold Zi
   rw [ZpD hv (hi.view σ) (by omega),hc]
theorem Zrk (b:Int) (hb:0≤b∧b < 256) (l:Zb) (hl:l.length≤1099511627775) (f:Bool) (σ:Za) (site own:Nat) :
  Zj E1 BY σ site 32 own true [.agg [.int .u8 b,.lst f (l.map Zc)]]=some (.tup [ZX (Zdv b l).1,.int .i64 (Zdv b l).2],σ,{}):=by
 rw [Zf5 (by kernel_rfl) rfl]
 show Zaz σ σ [] [] site own (Zad true 0 (E1 32 [.agg [.int .u8 b,.lst false (l.map Zc)]] []))=_
 rw [ZyX b hb l hl,Zh4 _ _ _ _ (by simp only [Zk,Ze,Zbg,Zj4])]
end Go.Proofs.YtmlkhhidifjjfaaDoor
namespace Go.Proofs.YtmlkhhidifjjfaaDoor
set_option maxHeartbeats 16000000
set_option maxRecDepth 10000
def ZhH:Zb:=[77,81,84,84]
theorem ZhJ (q:Int):0≤Zv q 3∧Zv q 3≤3:=by
 have h:∀ x:BitVec 64,(x &&& BitVec.ofInt 64 3).toNat≤3:=by
  intro x
  rw [BitVec.toNat_and]
  exact Nat.and_le_right
 have h2:=h (BitVec.ofInt 64 q)
 unfold Zv
 have h3:IntKind.i64.bits=64:=rfl
 rw [h3,Zb0 (by omega) (by omega)]
 omega
def Zl7 (p:Zt):Int:=Z1 p.clean 2+Z1 p.hasWill 4+Zv p.will.qos 3*8+Z1 p.will.retain 32+Z1 p.hasPassword 64+Z1 p.hasUser 128
theorem ZdW (b:Bool) (n:Int) (h:0≤n):0≤Z1 b n∧Z1 b n≤n:=by unfold Z1;split <;> omega
theorem Zcp (n:Int) (h0:0≤n) (h1:n < 9223372036854775808):IntKind.i64.wrap n=n:=by
 obtain ⟨m,rfl⟩:∃ m:Nat,n=m:=⟨n.toNat,by omega⟩
 exact Zb0 (by omega) (by omega)
def Zi6 (p:Zt):Zb:=((((Zah ZhH).1++beB (ZN 5) 1)++beB (ZN (Zl7 p)) 1)++beB (ZN p.keep) 2)++(Zbl 1 p.props).1++(Zah p.client).1
def Zka (p:Zt):Zb:=if p.hasWill then ((Zi6 p++(Zbl 16 p.will.props).1)++(Zah p.will.topic).1)++(Zbt p.will.data).1 else Zi6 p
def Zkv (p:Zt):Zb:=if p.hasUser then Zka p++(Zah p.user).1 else Zka p
def ZeC (p:Zt):Zb:=if p.hasPassword then Zkv p++(Zbt p.password).1 else Zkv p
section
variable (p:Zt) (h:OkW p)
include h
theorem ZDy:E1 126 [.ref 0 0,ZX p] [.var wn]=some (.tup [],wH 0 (ZeC p)):=by
 have hq:=ZhJ p.will.qos
 have m1:=ZdW p.clean 2 (by omega)
 have m2:=ZdW p.hasWill 4 (by omega)
 have m3:=ZdW p.will.retain 32 (by omega)
 have m4:=ZdW p.hasPassword 64 (by omega)
 have m5:=ZdW p.hasUser 128 (by omega)
 have hm:=fun b n σ site own=>Ziy b n σ site own
 have w1:=Zcp (Z1 p.clean 2+Z1 p.hasWill 4) (by omega) (by omega)
 have w2:=Zcp (Zv p.will.qos 3*8) (by omega) (by omega)
 have w3:=Zcp (Z1 p.clean 2+Z1 p.hasWill 4+Zv p.will.qos 3*8) (by omega) (by omega)
 have w4:=Zcp (Z1 p.clean 2+Z1 p.hasWill 4+Zv p.will.qos 3*8+Z1 p.will.retain 32) (by omega) (by omega)
 have w5:=Zcp (Z1 p.clean 2+Z1 p.hasWill 4+Zv p.will.qos 3*8+Z1 p.will.retain 32+Z1 p.hasPassword 64) (by omega) (by omega)
 have w6:=Zcp (Z1 p.clean 2+Z1 p.hasWill 4+Zv p.will.qos 3*8+Z1 p.will.retain 32+Z1 p.hasPassword 64+Z1 p.hasUser 128) (by omega) (by omega)
 have lim:=Zee
 have t0:=ZcB ZhH
 have t1:=ZcB p.client
 have t2:=ZcB p.will.topic
 have t3:=ZcB p.user
 have d1:=Zit p.will.data
 have d2:=Zit p.password
 have y1:=Zc8 1 p.props
 have y2:=Zc8 16 p.will.props
 have f0:=fun {σ:Za} {t site:Nat}=>ZuM ZhH (by decide) (σ:=σ) (t:=t) (site:=site)
 unfold ZeC Zkv Zka Zi6 Zl7
 have n1:=Zbc 1 (ZN 5)
 generalize (Zah ZhH).1=l0 at *
 have f1:=fun {σ:Za} {site:Nat}=>ZfF l0 5 1 (by omega) (by omega) (m:=1) rfl (by omega) (σ:=σ) 0 2 0 (site:=site) (by omega)
 generalize beB (ZN 5) 1=D1 at *
 obtain ⟨l1,e1⟩:∃ l1,l0++D1=l1:=⟨_,rfl⟩
 have k1:l1.length=l0.length+D1.length:=by rw [←e1,List.length_append]
 simp only [e1] at f1 ⊢
 have n2:=Zbc 1 (ZN (Z1 p.clean 2+Z1 p.hasWill 4+Zv p.will.qos 3*8+Z1 p.will.retain 32+Z1 p.hasPassword 64+Z1 p.hasUser 128))
 have f2:=fun {σ:Za} {site:Nat}=>ZfF l1 (Z1 p.clean 2+Z1 p.hasWill 4+Zv p.will.qos 3*8+Z1 p.will.retain 32+Z1 p.hasPassword 64+Z1 p.hasUser 128) 1 (by omega) (by omega) (m:=1) rfl (by omega) (σ:=σ) 0 2 1 (site:=site) (by omega)
 generalize beB (ZN (Z1 p.clean 2+Z1 p.hasWill 4+Zv p.will.qos 3*8+Z1 p.will.retain 32+Z1 p.hasPassword 64+Z1 p.hasUser 128)) 1=D2 at *
 obtain ⟨l2,e2⟩:∃ l2,l1++D2=l2:=⟨_,rfl⟩
 have k2:l2.length=l1.length+D2.length:=by rw [←e2,List.length_append]
 simp only [e2] at f2 ⊢
 have n3:=Zbc 2 (ZN p.keep)
 have f3:=fun {σ:Za} {site:Nat}=>ZfF l2 p.keep 2 (by omega) (by omega) (m:=2) rfl (by omega) (σ:=σ) 0 2 2 (site:=site) (by omega)
 generalize beB (ZN p.keep) 2=D3 at *
 obtain ⟨l3,e3⟩:∃ l3,l2++D3=l3:=⟨_,rfl⟩
 have k3:l3.length=l2.length+D3.length:=by rw [←e3,List.length_append]
 simp only [e3] at f3 ⊢
 have f4:=fun {σ:Za} {site:Nat}=>Zf9 l3 1 p.props h.props.1 h.props.2 (by omega) (σ:=σ) 0 2 3 (site:=site) (by omega)
 generalize (Zbl 1 p.props).1=D4 at *
 obtain ⟨l4,e4⟩:∃ l4,l3++D4=l4:=⟨_,rfl⟩
 have k4:l4.length=l3.length+D4.length:=by rw [←e4,List.length_append]
 simp only [e4] at f4 ⊢
 have f5:=fun {σ:Za} {site:Nat}=>Zif l4 p.client h.client (by omega) (σ:=σ) 0 2 4 (site:=site) (by omega)
 generalize (Zah p.client).1=D5 at *
 obtain ⟨l5,e5⟩:∃ l5,l4++D5=l5:=⟨_,rfl⟩
 have k5:l5.length=l4.length+D5.length:=by rw [←e5,List.length_append]
 simp only [e5] at f5 ⊢
 have f6:=fun {σ:Za} {site:Nat}=>Zf9 l5 16 p.will.props h.wprops.1 h.wprops.2 (by omega) (σ:=σ) 0 2 5 (site:=site) (by omega)
 generalize (Zbl 16 p.will.props).1=D6 at *
 obtain ⟨l6,e6⟩:∃ l6,l5++D6=l6:=⟨_,rfl⟩
 have k6:l6.length=l5.length+D6.length:=by rw [←e6,List.length_append]
 simp only [e6] at f6 ⊢
 have f7:=fun {σ:Za} {site:Nat}=>Zif l6 p.will.topic h.wtopic (by omega) (σ:=σ) 0 2 6 (site:=site) (by omega)
 generalize (Zah p.will.topic).1=D7 at *
 obtain ⟨l7,e7⟩:∃ l7,l6++D7=l7:=⟨_,rfl⟩
 have k7:l7.length=l6.length+D7.length:=by rw [←e7,List.length_append]
 simp only [e7] at f7 ⊢
 have f8:=fun {σ:Za} {site:Nat}=>Zqm l7 p.will.data h.wdata (by omega) (σ:=σ) 0 2 7 (site:=site) (by omega)
 generalize (Zbt p.will.data).1=D8 at *
 obtain ⟨l8,e8⟩:∃ l8,l7++D8=l8:=⟨_,rfl⟩
 have k8:l8.length=l7.length+D8.length:=by rw [←e8,List.length_append]
 simp only [e8] at f8 ⊢
 have hO:=fun {j g:Nat} {l:Zb} {σ:Za}=>ZdD (j:=j) (g:=g) (l:=l) (σ:=σ)
 rw [Zbg]
 have e0:=ZbC p
 have a9:(Zq p)[9]?=some (.lst false (p.props.map Zm)):=rfl
 have a12:(Zq p)[12]?=some (.bool p.clean):=rfl
 have a13:(Zq p)[13]?=some (.int .i64 p.keep):=rfl
 have a14:(Zq p)[14]?=some (.str p.client):=rfl
 have a15:(Zq p)[15]?=some (.bool p.hasWill):=rfl
 have a16:(Zq p)[16]?=some (.str p.will.topic):=rfl
 have a17:(Zq p)[17]?=some (.lst false (p.will.data.map Zc)):=rfl
 have a18:(Zq p)[18]?=some (.int .i64 p.will.qos):=rfl
 have a19:(Zq p)[19]?=some (.bool p.will.retain):=rfl
 have a20:(Zq p)[20]?=some (.lst false (p.will.props.map Zm)):=rfl
 have a21:(Zq p)[21]?=some (.bool p.hasUser):=rfl
 have a22:(Zq p)[22]?=some (.str p.user):=rfl
 have a23:(Zq p)[23]?=some (.bool p.hasPassword):=rfl
 have a24:(Zq p)[24]?=some (.lst false (p.password.map Zc)):=rfl
 have b5:=h.user
 have b6:=h.password
 clear h
 generalize Zq p=P at *
 generalize p.will.qos=wq at *
 generalize p.will.retain=wr at *
 generalize p.will.topic=wt at *
 generalize p.will.data=wd at *
 generalize p.will.props=wp at *
 generalize p.clean=cl at *
 generalize p.keep=kp at *
 generalize p.client=ci at *
 generalize p.props=ps at *
 generalize p.hasWill=hw at *
 generalize p.hasUser=hu at *
 generalize p.hasPassword=hp at *
 generalize p.user=us at *
 generalize p.password=pw at *
 unfold Zv ZhH at *
 rw [Zbb (by rfl) ZCN]
 have fu:=fun (l:Zb) (g:Nat) (hl:l.length≤1000000000) {σ:Za} {site:Nat}=>Zif l us b5 (by omega) (σ:=σ) 0 2 g (site:=site) (by omega)
 have fp:=fun (l:Zb) (g:Nat) (hl:l.length≤1000000000) {σ:Za} {site:Nat}=>Zqm l pw b6 (by omega) (σ:=σ) 0 2 g (site:=site) (by omega)
 generalize (Zah us).1=Du at *
 generalize (Zbt pw).1=Dp at *
 cases hw <;> cases hu <;> cases hp
 ·simp only [Bool.false_eq_true,if_false]
  unfold wn at *
  simp -implicitDefEqProofs only [EQA,Zs,Nat.reduceAdd,Nat.reduceLT,Nat.reduceEqDiff,Nat.reduceBEq,reduceCtorEq,↓reduceIte,Zd,List.contains_cons,ZfM,Zel,Ze4,oI,AVal.cells,a9,a12,a13,a14,a15,a18,a19,a21,a23,hm,w1,w2,w3,w4,w5,w6,f0,f1,f2,f3,f4,f5,Z9,Zab,Zak,Zal,Zam,Zae,List.lookup_nil]
  exact hO (j:=2) (by decide) rfl rfl
 ·have g1:=fun {σ:Za} {site:Nat}=>fp l5 5 (by omega) (σ:=σ) (site:=site)
  simp only [Bool.false_eq_true,if_false,if_true]
  unfold wn at *
  simp -implicitDefEqProofs only [EQA,Zs,Nat.reduceAdd,Nat.reduceLT,Nat.reduceEqDiff,Nat.reduceBEq,reduceCtorEq,↓reduceIte,Zd,List.contains_cons,ZfM,Zel,Ze4,oI,AVal.cells,a9,a12,a13,a14,a15,a18,a19,a21,a23,a24,hm,w1,w2,w3,w4,w5,w6,f0,f1,f2,f3,f4,f5,g1,Z9,Zab,Zak,Zal,Zam,Zae,List.lookup_nil]
  exact hO (j:=2) (by decide) rfl rfl
 ·have g1:=fun {σ:Za} {site:Nat}=>fu l5 5 (by omega) (σ:=σ) (site:=site)
  simp only [Bool.false_eq_true,if_false,if_true]
  unfold wn at *
  simp -implicitDefEqProofs only [EQA,Zs,Nat.reduceAdd,Nat.reduceLT,Nat.reduceEqDiff,Nat.reduceBEq,reduceCtorEq,↓reduceIte,Zd,List.contains_cons,ZfM,Zel,Ze4,oI,AVal.cells,a9,a12,a13,a14,a15,a18,a19,a21,a22,a23,hm,w1,w2,w3,w4,w5,w6,f0,f1,f2,f3,f4,f5,g1,Z9,Zab,Zak,Zal,Zam,Zae,List.lookup_nil]
  exact hO (j:=2) (by decide) rfl rfl
 ·have g1:=fun {σ:Za} {site:Nat}=>fu l5 5 (by omega) (σ:=σ) (site:=site)
  have g2:=fun {σ:Za} {site:Nat}=>fp (l5++Du) 6 (by rw [List.length_append];omega) (σ:=σ) (site:=site)
  simp only [Bool.false_eq_true,if_false,if_true]
  unfold wn at *
  simp -implicitDefEqProofs only [EQA,Zs,Nat.reduceAdd,Nat.reduceLT,Nat.reduceEqDiff,Nat.reduceBEq,reduceCtorEq,↓reduceIte,Zd,List.contains_cons,ZfM,Zel,Ze4,oI,AVal.cells,a9,a12,a13,a14,a15,a18,a19,a21,a22,a23,a24,hm,w1,w2,w3,w4,w5,w6,f0,f1,f2,f3,f4,f5,g1,g2,Z9,Zab,Zak,Zal,Zam,Zae,List.lookup_nil]
  exact hO (j:=2) (by decide) rfl rfl
 ·simp only [Bool.false_eq_true,if_false,if_true]
  unfold wn at *
  simp -implicitDefEqProofs only [EQA,Zs,Nat.reduceAdd,Nat.reduceLT,Nat.reduceEqDiff,Nat.reduceBEq,reduceCtorEq,↓reduceIte,Zd,List.contains_cons,ZfM,Zel,Ze4,oI,AVal.cells,a9,a12,a13,a14,a15,a16,a17,a18,a19,a20,a21,a23,hm,w1,w2,w3,w4,w5,w6,f0,f1,f2,f3,f4,f5,f6,f7,f8,Z9,Zab,Zak,Zal,Zam,Zae,List.lookup_nil]
  exact hO (j:=2) (by decide) rfl rfl
 ·have g1:=fun {σ:Za} {site:Nat}=>fp l8 8 (by omega) (σ:=σ) (site:=site)
  simp only [Bool.false_eq_true,if_false,if_true]
  unfold wn at *
  simp -implicitDefEqProofs only [EQA,Zs,Nat.reduceAdd,Nat.reduceLT,Nat.reduceEqDiff,Nat.reduceBEq,reduceCtorEq,↓reduceIte,Zd,List.contains_cons,ZfM,Zel,Ze4,oI,AVal.cells,a9,a12,a13,a14,a15,a16,a17,a18,a19,a20,a21,a23,a24,hm,w1,w2,w3,w4,w5,w6,f0,f1,f2,f3,f4,f5,f6,f7,f8,g1,Z9,Zab,Zak,Zal,Zam,Zae,List.lookup_nil]
  exact hO (j:=2) (by decide) rfl rfl
 ·have g1:=fun {σ:Za} {site:Nat}=>fu l8 8 (by omega) (σ:=σ) (site:=site)
  simp only [Bool.false_eq_true,if_false,if_true]
  unfold wn at *
  simp -implicitDefEqProofs only [EQA,Zs,Nat.reduceAdd,Nat.reduceLT,Nat.reduceEqDiff,Nat.reduceBEq,reduceCtorEq,↓reduceIte,Zd,List.contains_cons,ZfM,Zel,Ze4,oI,AVal.cells,a9,a12,a13,a14,a15,a16,a17,a18,a19,a20,a21,a22,a23,hm,w1,w2,w3,w4,w5,w6,f0,f1,f2,f3,f4,f5,f6,f7,f8,g1,Z9,Zab,Zak,Zal,Zam,Zae,List.lookup_nil]
  exact hO (j:=2) (by decide) rfl rfl
 ·have g1:=fun {σ:Za} {site:Nat}=>fu l8 8 (by omega) (σ:=σ) (site:=site)
  have g2:=fun {σ:Za} {site:Nat}=>fp (l8++Du) 9 (by rw [List.length_append];omega) (σ:=σ) (site:=site)
  simp only [if_true]
  unfold wn at *
  simp -implicitDefEqProofs only [EQA,Zs,Nat.reduceAdd,Nat.reduceLT,Nat.reduceEqDiff,Nat.reduceBEq,reduceCtorEq,↓reduceIte,Zd,List.contains_cons,ZfM,Zel,Ze4,oI,AVal.cells,a9,a12,a13,a14,a15,a16,a17,a18,a19,a20,a21,a22,a23,a24,hm,w1,w2,w3,w4,w5,w6,f0,f1,f2,f3,f4,f5,f6,f7,f8,g1,g2,Z9,Zab,Zak,Zal,Zam,Zae,List.lookup_nil]
  exact hO (j:=2) (by decide) rfl rfl
theorem ZL2:(ZeC p).length≤1000000000:=by
 have t0:=ZcB ZhH
 have t1:=ZcB p.client
 have t2:=ZcB p.will.topic
 have t3:=ZcB p.user
 have d1:=Zit p.will.data
 have d2:=Zit p.password
 have y1:=Zc8 1 p.props
 have y2:=Zc8 16 p.will.props
 have n1:=Zbc 1 (ZN 5)
 have n2:=Zbc 1 (ZN (Zl7 p))
 have n3:=Zbc 2 (ZN p.keep)
 unfold ZeC Zkv Zka Zi6
 cases p.hasWill <;> cases p.hasUser <;> cases p.hasPassword <;> simp only [Bool.false_eq_true,if_false,if_true,List.length_append] <;> omega
theorem Zzy {σ:Za} {t site:Nat} (hf:σ[site]?=some .free) (hs0:σ[t]?=some (.var wn)) :
  Zj E1 BY σ site 126 1 true [.ref t 0,.agg (Zq p)]=some (.tup [],(σ.set t (.var (wv site 0 (ZeC p).length))).set site (.row 0 1 ((ZeC p).map Zc)),{ any:=true,upd:=[(t,wv site 0 (ZeC p).length)] }) :=
 Zgj (args:=[.agg (Zq p)]) rfl rfl (ZDy p h) (by kernel_rfl) (by rw [List.all_cons,Zdj];rfl) (by rw [List.map_cons,Zdp];rfl) hf hs0
end
end Go.Proofs.YtmlkhhidifjjfaaDoor
namespace Go.Proofs.YtmlkhhidifjjfaaDoor
set_option maxHeartbeats 16000000
set_option maxRecDepth 10000
def Zj7 (p:Zt):Zb:=if p.qos > 0 then (Zah p.topic).1++beB (ZN p.id) 2 else (Zah p.topic).1
def Zjb (p:Zt):Zb:=(Zj7 p++(Zbl 3 p.props).1)++p.payload
def Zkh (p:Zt):Zb:=(beB (ZN (Z1 p.present 1)) 1++beB (ZN p.code) 1)++(Zbl 2 p.props).1
def ZfB (s:Zbi):Int:=Zv s.qos 3+Z1 s.noLocal 4+Z1 s.asPublished 8+Zv s.handling 3*16
def ZpK (s:Zbi):Zb:=(Zah s.filter).1++beB (ZN (ZfB s)) 1
def ZdO (l:List Zbi):Zb:=(l.map ZpK).flatten
def ZdT (l:List Zb):Zb:=(l.map fun f=>(Zah f).1).flatten
def ZdC (l:List Int):Zb:=(l.map fun c=>beB (ZN c) 1).flatten
theorem ZH0 (p:Zt) (h:OkW p) (hk:p.type=3):E1 78 [.ref 0 0,ZX p] [.var wn]=some (.tup [],wH 0 (Zjb p)):=by
 have lim:=Zee
 have t1:=ZcB p.topic
 have y1:=Zc8 3 p.props
 have n1:=Zbc 2 (ZN p.id)
 have f0:=fun {σ:Za} {t site:Nat}=>ZuM p.topic h.topic (σ:=σ) (t:=t) (site:=site)
 have pl:=h.payload
 unfold Zjb Zj7
 generalize (Zah p.topic).1=l0 at *
 have f1:=fun {σ:Za} {site:Nat}=>ZfF l0 p.id 2 (by omega) (by omega) (m:=2) rfl (by omega) (σ:=σ) 0 2 0 (site:=site) (by omega)
 generalize beB (ZN p.id) 2=D1 at *
 have f2:=fun (l:Zb) (g:Nat) (hl:l.length≤1000000000) {σ:Za} {site:Nat}=>Zf9 l 3 p.props h.props.1 h.props.2 (by omega) (σ:=σ) 0 2 g (site:=site) (by omega)
 generalize (Zbl 3 p.props).1=D2 at *
 have f3:=fun (l:Zb) (g:Nat) (hl:l.length≤2000000000) {σ:Za} {site:Nat}=>ZiG l p.payload (by omega) (σ:=σ) 0 2 g (site:=site) (by omega)
 have hO:=fun {j g:Nat} {l:Zb} {σ:Za}=>ZdD (j:=j) (g:=g) (l:=l) (σ:=σ)
 rw [Zbg]
 have e0:=ZbC p
 have a0:(Zq p)[0]?=some (.int .i64 p.type):=rfl
 have a2:(Zq p)[2]?=some (.int .i64 p.qos):=rfl
 have a4:(Zq p)[4]?=some (.int .i64 p.id):=rfl
 have a5:(Zq p)[5]?=some (.str p.topic):=rfl
 have a6:(Zq p)[6]?=some (.lst false (p.payload.map Zc)):=rfl
 have a9:(Zq p)[9]?=some (.lst false (p.props.map Zm)):=rfl
 rw [hk] at a0
 clear h hk
 generalize Zq p=P at *
 generalize p.qos=q at *
 generalize p.id=c at *
 generalize p.topic=tp at *
 generalize p.payload=pa at *
 generalize p.props=ps at *
 rw [Zbb (by rfl) Zd3]
 by_cases hq:q > 0
 ·rw [if_pos hq]
  have k1:(l0++D1).length=l0.length+D1.length:=List.length_append
  have k2:(l0++D1++D2).length=l0.length+D1.length+D2.length:=by rw [List.length_append,k1]
  have g2:=fun {σ:Za} {site:Nat}=>f2 (l0++D1) 1 (by omega) (σ:=σ) (site:=site)
  have g3:=fun {σ:Za} {site:Nat}=>f3 (l0++D1++D2) 2 (by omega) (σ:=σ) (site:=site)
  clear k1 k2 f2 f3
  unfold wn wT at *
  simp -implicitDefEqProofs only [EQA,Zs,Nat.reduceAdd,Nat.reduceLT,Nat.reduceEqDiff,Nat.reduceBEq,reduceCtorEq,decide_true,↓reduceIte,Zd,ZdG,Zc9,ZdH,oI,AVal.cells,a0,a2,a4,a5,a6,a9,Int.reduceBEq,hq,f0,f1,g2,g3,Z9,Zab,Zak,Zal,Zam,Zae]
  exact hO (j:=2) (by decide) rfl rfl
 ·rw [if_neg hq]
  have k2:(l0++D2).length=l0.length+D2.length:=List.length_append
  have g2:=fun {σ:Za} {site:Nat}=>f2 l0 0 (by omega) (σ:=σ) (site:=site)
  have g3:=fun {σ:Za} {site:Nat}=>f3 (l0++D2) 1 (by omega) (σ:=σ) (site:=site)
  clear k2 f2 f3
  unfold wn wT at *
  simp -implicitDefEqProofs only [EQA,Zs,Nat.reduceAdd,Nat.reduceLT,Nat.reduceEqDiff,Nat.reduceBEq,reduceCtorEq,decide_false,↓reduceIte,Zd,ZdG,Zc9,ZdH,oI,AVal.cells,a0,a2,a5,a6,a9,Int.reduceBEq,hq,f0,g2,g3,Z9,Zab,Zak,Zal,Zam,Zae]
  exact hO (j:=2) (by decide) rfl rfl
theorem Zys (p:Zt) (h:OkW p) (hk:p.type=1):E1 78 [.ref 0 0,ZX p] [.var wn]=some (.tup [],wH 0 (ZeC p)):=by
 have f0:=fun {σ:Za} {t site:Nat}=>Zzy p h (σ:=σ) (t:=t) (site:=site)
 have hO:=fun {j g:Nat} {l:Zb} {σ:Za}=>ZdD (j:=j) (g:=g) (l:=l) (σ:=σ)
 rw [Zbg]
 generalize ZeC p=B at *
 have e0:=ZbC p
 have e1:=Zcb p
 have a0:(Zq p)[0]?=some (.int .i64 p.type):=rfl
 rw [hk] at a0
 generalize Zq p=P at *
 rw [Zbb (by rfl) Zd3]
 unfold wn at *
 simp -implicitDefEqProofs only [EQA,Zs,Nat.reduceAdd,Nat.reduceLT,Nat.reduceLeDiff,Nat.reduceEqDiff,Nat.reduceBEq,reduceCtorEq,↓reduceIte,Zd,ZdG,Zc9,ZdH,oI,AVal.cells,a0,e0,e1,f0]
 exact hO (j:=2) (by decide) rfl rfl
theorem ZEL (p:Zt) (h:OkW p) (hk:p.type=2):E1 78 [.ref 0 0,ZX p] [.var wn]=some (.tup [],wH 0 (Zkh p)):=by
 have lim:=Zee
 have y1:=Zc8 2 p.props
 have n1:=Zbc 1 (ZN p.code)
 have n0:=Zbc 1 (ZN (Z1 p.present 1))
 have hm:=fun b n σ site own=>Ziy b n σ site own
 have f0:=fun {σ:Za} {t site:Nat}=>ZjH (Z1 p.present 1) 1 (by omega) (by omega) (m:=1) rfl (σ:=σ) (t:=t) (site:=site)
 unfold Zkh
 generalize beB (ZN (Z1 p.present 1)) 1=l0 at *
 have f1:=fun {σ:Za} {site:Nat}=>ZfF l0 p.code 1 (by omega) (by omega) (m:=1) rfl (by omega) (σ:=σ) 0 2 0 (site:=site) (by omega)
 generalize beB (ZN p.code) 1=D1 at *
 have k1:(l0++D1).length=l0.length+D1.length:=List.length_append
 have f2:=fun {σ:Za} {site:Nat}=>Zf9 (l0++D1) 2 p.props h.props.1 h.props.2 (by omega) (σ:=σ) 0 2 1 (site:=site) (by omega)
 generalize (Zbl 2 p.props).1=D2 at *
 have hO:=fun {j g:Nat} {l:Zb} {σ:Za}=>ZdD (j:=j) (g:=g) (l:=l) (σ:=σ)
 rw [Zbg]
 have e0:=ZbC p
 have a0:(Zq p)[0]?=some (.int .i64 p.type):=rfl
 have a7:(Zq p)[7]?=some (.int .i64 p.code):=rfl
 have a9:(Zq p)[9]?=some (.lst false (p.props.map Zm)):=rfl
 have a25:(Zq p)[25]?=some (.bool p.present):=rfl
 rw [hk] at a0
 clear h hk k1
 generalize Zq p=P at *
 generalize p.code=c at *
 generalize p.present=b at *
 generalize p.props=ps at *
 rw [Zbb (by rfl) Zd3]
 unfold wn at *
 simp -implicitDefEqProofs only [EQA,Zs,Nat.reduceAdd,Nat.reduceLT,Nat.reduceEqDiff,Nat.reduceBEq,reduceCtorEq,↓reduceIte,Zd,ZdG,Zc9,ZdH,oI,AVal.cells,a0,a7,a9,a25,Int.reduceBEq,hm,f0,f1,f2]
 exact hO (j:=2) (by decide) rfl rfl
theorem Zre (p:Zt) (h:OkW p) (hk:p.type=4∨p.type=5∨p.type=6∨p.type=7):E1 78 [.ref 0 0,ZX p] [.var wn]=some (.tup [],wH 0 (beB (ZN p.id) 2++ZbF p)):=by
 have n0:=Zbc 2 (ZN p.id)
 have f0:=fun {σ:Za} {t site:Nat}=>ZjH p.id 2 (by omega) (by omega) (m:=2) rfl (σ:=σ) (t:=t) (site:=site)
 generalize beB (ZN p.id) 2=l0 at *
 have f1:=fun {σ:Za} {site:Nat}=>Zyz p h l0 (by omega) (σ:=σ) 0 2 0 (site:=site) (by omega)
 have hO:=fun {j g:Nat} {l:Zb} {σ:Za}=>ZdD (j:=j) (g:=g) (l:=l) (σ:=σ)
 rw [Zbg]
 generalize ZbF p=B at *
 generalize Zfj p=g0 at *
 have e0:=ZbC p
 have e1:=Zcb p
 have a0:(Zq p)[0]?=some (.int .i64 p.type):=rfl
 have a4:(Zq p)[4]?=some (.int .i64 p.id):=rfl
 clear h
 generalize Zq p=P at *
 generalize p.id=c at *
 generalize p.type=ty at *
 rw [Zbb (by rfl) Zd3]
 unfold wn at *
 rcases hk with rfl | rfl | rfl | rfl
 all_goals
  simp -implicitDefEqProofs only [EQA,Zs,Nat.reduceAdd,Nat.reduceLT,Nat.reduceLeDiff,Nat.reduceEqDiff,Nat.reduceBEq,reduceCtorEq,↓reduceIte,Zd,ZdG,Zc9,ZdH,oI,AVal.cells,a0,a4,e0,e1,Int.reduceBEq,f0,f1]
  exact hO (j:=2) (by decide) rfl rfl
theorem ZBZ (p:Zt) (h:OkW p) (hb:Zc4 p=none) {σ:Za} {t site:Nat} (hf:σ[site]?=some .free) (hs0:σ[t]?=some (.var wn)) :
  Zj E1 BY σ site 131 1 true [.ref t 0,.agg (Zq p)]=some (.tup [],σ,{ any:=true,upd:=[(t,wn)] }):=by
 have:=Zs4 p h
 rw [hb] at this
 exact ZrV (args:=[.agg (Zq p)]) this (by kernel_rfl) (by rw [List.all_cons,Zdj];rfl) (by rw [List.map_cons,Zdp];rfl) (ff1 hf) hs0
theorem Zzq (p:Zt) (h:OkW p) (hb:Zc4 p≠none) {σ:Za} {t site:Nat} (hf:σ[site]?=some .free) (hs0:σ[t]?=some (.var wn)) :
  Zj E1 BY σ site 131 1 true [.ref t 0,.agg (Zq p)]=some (.tup [],(σ.set t (.var (wv site 0 (ZbF p).length))).set site (.row 0 1 ((ZbF p).map Zc)),{ any:=true,upd:=[(t,wv site 0 (ZbF p).length)] }):=by
 have:=Zs4 p h
 unfold Zc4 at this hb
 by_cases hc:p.code≠0∨p.props≠[]
 ·rw [if_pos hc] at this
  exact Zgj (args:=[.agg (Zq p)]) rfl rfl this (by kernel_rfl) (by rw [List.all_cons,Zdj];rfl) (by rw [List.map_cons,Zdp];rfl) hf hs0
 ·rw [if_neg hc] at hb;exact absurd rfl hb
theorem Zzg (p:Zt) (h:OkW p) (hk:p.type=14∨p.type=15):E1 78 [.ref 0 0,ZX p] [.var wn]=some (.tup [],wO (Zc4 p)):=by
 have hO:=fun {j g:Nat} {l:Zb} {σ:Za}=>ZdD (j:=j) (g:=g) (l:=l) (σ:=σ)
 have e0:=ZbC p
 have e1:=Zcb p
 have a0:(Zq p)[0]?=some (.int .i64 p.type):=rfl
 by_cases hb:Zc4 p=none
 ·have f1:=fun {σ:Za} {t site:Nat}=>ZBZ p h hb (σ:=σ) (t:=t) (site:=site)
  rw [hb,Zbg]
  clear h hb
  generalize Zq p=P at *
  generalize p.type=ty at *
  rw [Zbb (by rfl) Zd3]
  unfold wO wn at *
  rcases hk with rfl | rfl
  all_goals
   simp -implicitDefEqProofs only [EQA,Zs,Zaa,Nat.reduceAdd,Nat.reduceLT,Nat.reduceLeDiff,Nat.reduceEqDiff,Nat.reduceBEq,reduceCtorEq,↓reduceIte,Zd,ZdG,Zc9,ZdH,oI,AVal.cells,a0,e0,e1,Int.reduceBEq,f1]
 ·have f1:=fun {σ:Za} {t site:Nat}=>Zzq p h hb (σ:=σ) (t:=t) (site:=site)
  have hr:Zc4 p=some (ZbF p):=by unfold Zc4 at hb ⊢;split at hb <;> simp_all
  rw [hr,Zbg]
  clear h hb hr
  generalize ZbF p=B at *
  generalize Zq p=P at *
  generalize p.type=ty at *
  rw [Zbb (by rfl) Zd3]
  unfold wO wn at *
  rcases hk with rfl | rfl
  all_goals
   simp -implicitDefEqProofs only [EQA,Zs,Nat.reduceAdd,Nat.reduceLT,Nat.reduceLeDiff,Nat.reduceEqDiff,Nat.reduceBEq,reduceCtorEq,↓reduceIte,Zd,ZdG,Zc9,ZdH,oI,AVal.cells,a0,e0,e1,Int.reduceBEq,f1]
   exact hO (j:=2) (by decide) rfl rfl
theorem ZMU (p:Zt) (hk:p.type < 1∨p.type=12∨p.type=13∨15 < p.type):E1 78 [.ref 0 0,ZX p] [.var wn]=some (.tup [],[.var wn]):=by
 have e0:=ZbC p
 have a0:(Zq p)[0]?=some (.int .i64 p.type):=rfl
 have b:∀ n:Int,n=1∨n=2∨n=3∨n=4∨n=5∨n=6∨n=7∨n=8∨n=9∨n=10∨n=11∨n=14∨n=15→(p.type == n)=false:=by
  intro n hn
  have : p.type≠n:=by omega
  simpa using this
 have b1:=b 1 (by simp)
 have b2:=b 2 (by simp)
 have b3:=b 3 (by simp)
 have b4:=b 4 (by simp)
 have b5:=b 5 (by simp)
 have b6:=b 6 (by simp)
 have b7:=b 7 (by simp)
 have b8:=b 8 (by simp)
 have b9:=b 9 (by simp)
 have b10:=b 10 (by simp)
 have b11:=b 11 (by simp)
 have b14:=b 14 (by simp)
 have b15:=b 15 (by simp)
 rw [Zbg]
 generalize Zq p=P at *
 generalize p.type=ty at *
 rw [Zbb (by rfl) Zd3]
 unfold wn at *
 simp -implicitDefEqProofs only [EQA,Zs,Zaa,Nat.reduceAdd,Nat.reduceLT,Nat.reduceEqDiff,Nat.reduceBEq,reduceCtorEq,↓reduceIte,Zd,ZdG,Zc9,ZdH,oI,AVal.cells,a0,b1,b2,b3,b4,b5,b6,b7,b8,b9,b10,b11,b14,b15]
end Go.Proofs.YtmlkhhidifjjfaaDoor
namespace Go.Proofs.YtmlkhhidifjjfaaDoor
set_option maxHeartbeats 16000000
set_option maxRecDepth 10000
theorem xw1 (c d:Zf) (h:c=d) (m:Nat) (tm:Tms) (σ:Za):evC FC PR1 BY m c tm σ=evC FC PR1 BY m d tm σ:=by rw [h]
def Zsa:=xw1 Zmi Zju rfl
def Zq2:=xw1 ZnH Zkq rfl
def Zr5:=xw1 ZmF ZjM rfl
noncomputable def Zkd (m:Nat) (tm:Tms) (σ:Za):Option (AVal×Za):=(Zaq m Zg4 (Option.map (ZaS 0) (Option.map (ZaS 1) (evL FC PR1 BY m [75,74,73,0] Zmi tm σ))))
noncomputable def Zkg (m:Nat) (tm:Tms) (σ:Za):Option (AVal×Za):=(Zaq m Zg4 (Option.map (ZaS 0) (Option.map (ZaS 3) (evL FC PR1 BY m [110,109,108,0] ZnH tm σ))))
noncomputable def Zkp (m:Nat) (tm:Tms) (σ:Za):Option (AVal×Za):=(Zaq m Zg4 (Option.map (ZaS 0) (Option.map (ZaS 5) (evL FC PR1 BY m [127,126,125,0] ZmF tm σ))))
theorem ZgS {a b c d:Nat} {x y z:AVal} (hx:ZH x=true) (hy:ZH y=true) (hz:ZH z=true) (r g:Nat) (hr:r≠0) (l:Zb) (σ:Za) (h0:σ[0]?=some (.var (wv r g l.length))) (h1:σ[r]?=some (.row g 1 (l.map Zc))) :
  gcT 1 [(a,x),(b,y),(c,z),(d,.ref 0 0)] σ=([(a,x),(b,y),(c,z),(d,.ref 0 0)],[.var (wv 1 0 l.length),.row 0 1 (l.map Zc)]):=by
 have d0:σ.getD 0 .free=.var (wv r g l.length):=by simp [List.getD_eq_getElem?_getD,h0]
 have d1:σ.getD r .free=.row g 1 (l.map Zc):=by simp [List.getD_eq_getElem?_getD,h1]
 have ej:([0]:List Nat).contains r=false:=by simp;omega
 have hrf:Zr (wv r g l.length)=[r]:=rfl
 have e1:=fun ρ=>ZaX ρ x hx
 have e2:=fun ρ=>ZaX ρ y hy
 have e3:=fun ρ=>ZaX ρ z hz
 have hv:Zr [x,y,z,.ref 0 0]=[0]:=by
  simp only [Zr,(e1 (fun _ _=>none)).2,(e2 (fun _ _=>none)).2,(e3 (fun _ _=>none)).2];rfl
 have hi:ZB 1 [x,y,z,.ref 0 0] σ=[0,r]:=by
  have hR:List.range 1=[0]:=rfl
  have e0:([]:List Nat).contains r=false:=rfl
  simp only [ZB,hv,hR,List.flatMap_cons,List.flatMap_nil,List.append_nil,d0,ZM,hrf]
  rw [show (1000:Nat)=996+1+1+1+1 from rfl]
  simp only [List.cons_append,List.nil_append,Zz,ej,d1,ZM,List.append_nil,Bool.false_eq_true,if_false]
  have ej0:([0]:List Nat).contains 0=true:=rfl
  have ejr:([0,r]:List Nat).contains r=true:=by simp
  simp []
 have hρ:Zl σ 1 [0,r] r g=some (1,0):=by
  have : ¬(0:Nat)=r:=fun e=>hr e.symm
  simp [Zl,ZY,Zo,ZR,h1,this]
 have hρ0:Zl σ 1 [0,r] 0 0=some (0,0):=by
  simp [Zl,ZY,Zo,ZR,h0]
 have hren:Ze (Zl σ 1 [0,r]) (wv r g l.length)=wv 1 0 l.length:=by simp only [wv,Ze,Zk,hρ]
 simp only [gcT,gcA,hi,List.map_cons,List.map_nil,Zw,d0,d1,ZR,Zo,ZG,hren,Ze,(e1 _).1,(e2 _).1,(e3 _).1,Zk,hρ0]
 simp
theorem ZDw (r:List Zb):(ZdT r).length≤r.length*65537:=by
 induction r with
 | nil=>simp [ZdT]
 | cons x r ih =>
  have:=ZcB x
  simp only [ZdT,List.map_cons,List.flatten_cons,List.length_append,List.length_cons] at ih ⊢
  omega
theorem ZCz (r:List Int):(ZdC r).length≤r.length:=by
 induction r with
 | nil=>simp [ZdC]
 | cons x r ih =>
  have:=Zbc 1 (ZN x)
  simp only [ZdC,List.map_cons,List.flatten_cons,List.length_append,List.length_cons] at ih ⊢
  omega
theorem ZMn (r:List Zbi):(ZdO r).length≤r.length*65538:=by
 induction r with
 | nil=>simp [ZdO]
 | cons x r ih =>
  have:=ZcB x.filter
  have:=Zbc 1 (ZN (ZfB x))
  simp only [ZdO,List.map_cons,List.flatten_cons,List.length_append,List.length_cons,ZpK] at ih ⊢
  omega
theorem ZsP (fs:List Zb) (hn:fs.length≤1048576) (hx:∀ f ∈ fs,f.length≤9223372036854775807):∀ (r:List Zb) (i:Nat) (l:Zb),fs.drop i=r→l.length+r.length*65537≤1000000000000 →
  Zkg 1 [(110,.int .i64 i),(109,.int .i64 fs.length),(108,.lst false (fs.map AVal.str)),(0,.ref 0 0)] [.var (wv 1 0 l.length),.row 0 1 (l.map Zc)]=some (.tup [],wH 0 (l++ZdT r))
 | [],i,l,h,hl=>by
  have h1:=ZcZ h
  have hO:=fun {j g:Nat} {l:Zb} {σ:Za}=>ZdD (j:=j) (g:=g) (l:=l) (σ:=σ)
  have e:l++ZdT []=l:=by simp [ZdT]
  rw [e]
  unfold Zkg
  rw [Zac]
  simp -implicitDefEqProofs only [EQA,Zs,Nat.reduceAdd,Nat.reduceLT,Nat.reduceEqDiff,reduceCtorEq,decide_false,↓reduceIte,Zd,ZdH,Zkq,oI,Zq2,h1]
  exact hO (j:=1) (by decide) rfl rfl
 | x::r,i,l,h,hl=>by
  have hx0:x.length≤9223372036854775807:=hx x (List.mem_of_getElem? (Zaf h).1)
  have t1:=ZcB x
  have lim:=Zee
  simp only [List.length_cons] at hl
  have ih:=ZsP fs hn hx r (i+1) (l++(Zah x).1) (Zaf h).2.1 (by rw [List.length_append];omega)
  have h1:(i:Int) < fs.length:=by have:=(Zaf h).2.2;omega
  have e1:=iad (Zaf h).1 AVal.str (k:=1) rfl
  have e3:=Zc7 h1 (by omega)
  have f1:=fun {σ:Za} {site:Nat}=>Zif l x hx0 (by omega) (σ:=σ) 0 1 0 (site:=site) (by omega)
  have e:l++ZdT (x::r)=l++(Zah x).1++ZdT r:=by simp [ZdT]
  rw [e]
  generalize (Zah x).1=D at *
  have hG:=fun {a b c d:Nat} {i n:Int} {σ:Za} h0 h1=>ZgS (a:=a) (b:=b) (c:=c) (d:=d) (x:=.int .i64 i) (y:=.int .i64 n) (z:=.lst false (fs.map AVal.str)) rfl rfl rfl 1 1 (by omega) (l++D) σ h0 h1
  unfold Zkg at ih ⊢
  rw [Zac]
  simp -implicitDefEqProofs only [EQA,Zaa,Nat.reduceAdd,Nat.reduceLT,Nat.reduceEqDiff,Nat.reduceBEq,reduceCtorEq,decide_true,↓reduceIte,Zkq,oI,Zq2,AVal.cells,h1,e1,e3,f1,hG]
  exact ih
theorem Zrq (fs:List Int) (hn:fs.length≤1048576):∀ (r:List Int) (i:Nat) (l:Zb),fs.drop i=r→l.length+r.length≤1000000000000 →
  Zkp 1 [(127,.int .i64 i),(126,.int .i64 fs.length),(125,.lst false (fs.map (AVal.int .i64))),(0,.ref 0 0)] [.var (wv 1 0 l.length),.row 0 1 (l.map Zc)]=some (.tup [],wH 0 (l++ZdC r))
 | [],i,l,h,hl=>by
  have h1:=ZcZ h
  have hO:=fun {j g:Nat} {l:Zb} {σ:Za}=>ZdD (j:=j) (g:=g) (l:=l) (σ:=σ)
  have e:l++ZdC []=l:=by simp [ZdC]
  rw [e]
  unfold Zkp
  rw [Zac]
  simp -implicitDefEqProofs only [EQA,Zs,Nat.reduceAdd,Nat.reduceLT,Nat.reduceEqDiff,reduceCtorEq,decide_false,↓reduceIte,Zd,ZdH,ZjM,oI,Zr5,h1]
  exact hO (j:=1) (by decide) rfl rfl
 | x::r,i,l,h,hl=>by
  have t1:=Zbc 1 (ZN x)
  have lim:=Zee
  simp only [List.length_cons] at hl
  have ih:=Zrq fs hn r (i+1) (l++beB (ZN x) 1) (Zaf h).2.1 (by rw [List.length_append];omega)
  have h1:(i:Int) < fs.length:=by have:=(Zaf h).2.2;omega
  have e1:=iad (Zaf h).1 (AVal.int .i64) (k:=1) rfl
  have e3:=Zc7 h1 (by omega)
  have f1:=fun {σ:Za} {site:Nat}=>ZfF l x 1 (by omega) (by omega) (m:=1) rfl (by omega) (σ:=σ) 0 1 0 (site:=site) (by omega)
  have e:l++ZdC (x::r)=l++beB (ZN x) 1++ZdC r:=by simp [ZdC]
  rw [e]
  generalize beB (ZN x) 1=D at *
  have hG:=fun {a b c d:Nat} {i n:Int} {σ:Za} h0 h1=>ZgS (a:=a) (b:=b) (c:=c) (d:=d) (x:=.int .i64 i) (y:=.int .i64 n) (z:=.lst false (fs.map (AVal.int .i64))) rfl rfl rfl 1 1 (by omega) (l++D) σ h0 h1
  unfold Zkp at ih ⊢
  rw [Zac]
  simp -implicitDefEqProofs only [EQA,Zaa,Nat.reduceAdd,Nat.reduceLT,Nat.reduceEqDiff,Nat.reduceBEq,reduceCtorEq,decide_true,↓reduceIte,ZjM,oI,Zr5,AVal.cells,h1,e1,e3,f1,hG]
  exact ih
theorem Zqq (fs:List Zbi) (hn:fs.length≤1048576) (hx:∀ f ∈ fs,f.filter.length≤9223372036854775807):∀ (r:List Zbi) (i:Nat) (l:Zb),fs.drop i=r→l.length+r.length*65538≤1000000000000 →
  Zkd 1 [(75,.int .i64 i),(74,.int .i64 fs.length),(73,.lst false (fs.map ZS)),(0,.ref 0 0)] [.var (wv 1 0 l.length),.row 0 1 (l.map Zc)]=some (.tup [],wH 0 (l++ZdO r))
 | [],i,l,h,hl=>by
  have h1:=ZcZ h
  have hO:=fun {j g:Nat} {l:Zb} {σ:Za}=>ZdD (j:=j) (g:=g) (l:=l) (σ:=σ)
  have e:l++ZdO []=l:=by simp [ZdO]
  rw [e]
  unfold Zkd
  rw [Zac]
  simp -implicitDefEqProofs only [EQA,Zs,Nat.reduceAdd,Nat.reduceLT,Nat.reduceEqDiff,reduceCtorEq,decide_false,↓reduceIte,Zd,ZdH,Zju,oI,oN,Zsa,h1]
  exact hO (j:=1) (by decide) rfl rfl
 | x::r,i,l,h,hl=>by
  have hx0:x.filter.length≤9223372036854775807:=hx x (List.mem_of_getElem? (Zaf h).1)
  have t1:=ZcB x.filter
  have t2:=Zbc 1 (ZN (ZfB x))
  have lim:=Zee
  simp only [List.length_cons] at hl
  have ih:=Zqq fs hn hx r (i+1) (l++(Zah x.filter).1++beB (ZN (ZfB x)) 1) (Zaf h).2.1 (by rw [List.length_append,List.length_append];omega)
  have h1:(i:Int) < fs.length:=by have:=(Zaf h).2.2;omega
  have e1:=iad (Zaf h).1 ZS (k:=6) rfl
  have e3:=Zc7 h1 (by omega)
  have hm:=fun b n σ site own=>Ziy b n σ site own
  have q1:=ZhJ x.qos
  have q2:=ZhJ x.handling
  have m1:=ZdW x.noLocal 4 (by omega)
  have m2:=ZdW x.asPublished 8 (by omega)
  have w1:=Zcp (Zv x.qos 3+Z1 x.noLocal 4) (by omega) (by omega)
  have w2:=Zcp (Zv x.qos 3+Z1 x.noLocal 4+Z1 x.asPublished 8) (by omega) (by omega)
  have w3:=Zcp (Zv x.handling 3*16) (by omega) (by omega)
  have w4:=Zcp (Zv x.qos 3+Z1 x.noLocal 4+Z1 x.asPublished 8+Zv x.handling 3*16) (by omega) (by omega)
  have f1:=fun {σ:Za} {site:Nat}=>Zif l x.filter hx0 (by omega) (σ:=σ) 0 1 0 (site:=site) (by omega)
  have f2:=fun {σ:Za} {site:Nat}=>ZfF (l++(Zah x.filter).1) (ZfB x) 1 (by omega) (by omega) (m:=1) rfl (by rw [List.length_append];omega) (σ:=σ) 0 1 1 (site:=site) (by omega)
  have e:l++ZdO (x::r)=l++(Zah x.filter).1++beB (ZN (ZfB x)) 1++ZdO r:=by simp [ZdO,ZpK]
  rw [e]
  generalize (Zah x.filter).1=D at *
  generalize beB (ZN (ZfB x)) 1=D2 at *
  have hG:=fun {a b c d:Nat} {i n:Int} {σ:Za} h0 h1=>ZgS (a:=a) (b:=b) (c:=c) (d:=d) (x:=.int .i64 i) (y:=.int .i64 n) (z:=.lst false (fs.map ZS)) rfl rfl rfl 1 2 (by omega) (l++D++D2) σ h0 h1
  unfold ZfB at f2
  unfold Zkd at ih ⊢
  rw [Zac]
  simp only [ZS,AVal.cells] at e1
  unfold Zv at *
  simp -implicitDefEqProofs only [EQA,Zaa,Nat.reduceAdd,Nat.reduceLT,Nat.reduceLeDiff,Nat.reduceEqDiff,Nat.reduceBEq,reduceCtorEq,decide_true,↓reduceIte,List.contains_cons,Zju,oI,oN,Zsa,AVal.cells,h1,e1,e3,hm,w1,w2,w3,w4,f1,f2,hG,Z9,Zab,Zak,Zal,Zam,Zae,List.lookup_nil]
  exact ih
section
variable (p:Zt) (h:OkW p)
include h
theorem ZjT:(ZbK p).length≤300000000:=by
 have:=Zc8 p.type p.props
 have:=Zbc 2 (ZN p.id)
 unfold ZbK
 rw [List.length_append];omega
theorem ZCL (hk:p.type=8):E1 78 [.ref 0 0,ZX p] [.var wn]=some (.tup [],wH 0 (ZbK p++ZdO p.subs)):=by
 have hh:=ZjT p h
 have f0:=fun {σ:Za} {t site:Nat}=>ZnD p h (σ:=σ) (t:=t) (site:=site)
 have hx:=h.subs
 have hL:=Zqq p.subs hx.1 hx.2 p.subs 0 (ZbK p) rfl (by omega)
 have z:((0:Nat):Int)=0:=rfl
 rw [z] at hL
 unfold Zkd at hL
 have hG:=fun {a b c d:Nat} {i n:Int} {r g:Nat} {σ:Za} hr h0 h1=>ZgS (a:=a) (b:=b) (c:=c) (d:=d) (x:=.int .i64 i) (y:=.int .i64 n) (z:=.lst false (p.subs.map ZS)) rfl rfl rfl r g hr (ZbK p) σ h0 h1
 have hG2:=fun {a b c d:Nat} {i n:Int} {g:Nat} {σ:Za} h0 h1=>hG (a:=a) (b:=b) (c:=c) (d:=d) (i:=i) (n:=n) (r:=2) (g:=g) (σ:=σ) (by omega) h0 h1
 clear hG
 have hn:(p.subs.map ZS).length=p.subs.length:=by simp
 rw [Zbg]
 generalize ZbK p=B at *
 have e0:=ZbC p
 have e1:=Zcb p
 have a0:(Zq p)[0]?=some (.int .i64 p.type):=rfl
 have a10:(Zq p)[10]?=some (.lst false (p.subs.map ZS)):=rfl
 rw [hk] at a0
 clear h hk hx
 generalize Zq p=P at *
 generalize p.subs=ss at *
 rw [Zbb (by rfl) Zd3]
 unfold wn at *
 simp -implicitDefEqProofs only [EQA,Zaa,Nat.reduceAdd,Nat.reduceLT,Nat.reduceLeDiff,Nat.reduceEqDiff,Nat.reduceBEq,reduceCtorEq,↓reduceIte,ZdG,Zc9,oI,AVal.cells,a0,a10,e0,e1,hn,Int.reduceBEq,f0]
 exact hL
theorem ZME (hk:p.type=10):E1 78 [.ref 0 0,ZX p] [.var wn]=some (.tup [],wH 0 (ZbK p++ZdT p.filters)):=by
 have hh:=ZjT p h
 have f0:=fun {σ:Za} {t site:Nat}=>ZnD p h (σ:=σ) (t:=t) (site:=site)
 have hx:=h.filters
 have hL:=ZsP p.filters hx.1 hx.2 p.filters 0 (ZbK p) rfl (by omega)
 have z:((0:Nat):Int)=0:=rfl
 rw [z] at hL
 unfold Zkg at hL
 have hG2:=fun {a b c d:Nat} {i n:Int} {g:Nat} {σ:Za} h0 h1=>ZgS (a:=a) (b:=b) (c:=c) (d:=d) (x:=.int .i64 i) (y:=.int .i64 n) (z:=.lst false (p.filters.map AVal.str)) rfl rfl rfl 2 g (by omega) (ZbK p) σ h0 h1
 have hn:(p.filters.map AVal.str).length=p.filters.length:=by simp
 rw [Zbg]
 generalize ZbK p=B at *
 have e0:=ZbC p
 have e1:=Zcb p
 have a0:(Zq p)[0]?=some (.int .i64 p.type):=rfl
 have a11:(Zq p)[11]?=some (.lst false (p.filters.map AVal.str)):=rfl
 rw [hk] at a0
 clear h hk hx
 generalize Zq p=P at *
 generalize p.filters=ss at *
 rw [Zbb (by rfl) Zd3]
 unfold wn at *
 simp -implicitDefEqProofs only [EQA,Zaa,Nat.reduceAdd,Nat.reduceLT,Nat.reduceLeDiff,Nat.reduceEqDiff,Nat.reduceBEq,reduceCtorEq,↓reduceIte,ZdG,Zc9,oI,AVal.cells,a0,a11,e0,e1,hn,Int.reduceBEq,f0]
 exact hL
theorem ZCq (hk:p.type=9∨p.type=11):E1 78 [.ref 0 0,ZX p] [.var wn]=some (.tup [],wH 0 (ZbK p++ZdC p.codes)):=by
 have hh:=ZjT p h
 have f0:=fun {σ:Za} {t site:Nat}=>ZnD p h (σ:=σ) (t:=t) (site:=site)
 have hx:=h.codes
 have hL:=Zrq p.codes hx p.codes 0 (ZbK p) rfl (by omega)
 have z:((0:Nat):Int)=0:=rfl
 rw [z] at hL
 unfold Zkp at hL
 have hG2:=fun {a b c d:Nat} {i n:Int} {g:Nat} {σ:Za} h0 h1=>ZgS (a:=a) (b:=b) (c:=c) (d:=d) (x:=.int .i64 i) (y:=.int .i64 n) (z:=.lst false (p.codes.map (AVal.int .i64))) rfl rfl rfl 2 g (by omega) (ZbK p) σ h0 h1
 have hn:(p.codes.map (AVal.int .i64)).length=p.codes.length:=by simp
 rw [Zbg]
 generalize ZbK p=B at *
 have e0:=ZbC p
 have e1:=Zcb p
 have a0:(Zq p)[0]?=some (.int .i64 p.type):=rfl
 have a8:(Zq p)[8]?=some (.lst false (p.codes.map (AVal.int .i64))):=rfl
 clear h hx
 generalize Zq p=P at *
 generalize p.codes=ss at *
 generalize p.type=ty at *
 rw [Zbb (by rfl) Zd3]
 unfold wn at *
 rcases hk with rfl | rfl
 all_goals
  simp -implicitDefEqProofs only [EQA,Zaa,Nat.reduceAdd,Nat.reduceLT,Nat.reduceLeDiff,Nat.reduceEqDiff,Nat.reduceBEq,reduceCtorEq,↓reduceIte,ZdG,Zc9,oI,AVal.cells,a0,a8,e0,e1,hn,Int.reduceBEq,f0]
  exact hL
end
end Go.Proofs.YtmlkhhidifjjfaaDoor
namespace Go.Proofs.YtmlkhhidifjjfaaDoor
set_option maxHeartbeats 8000000
set_option maxRecDepth 10000
theorem ZrK (a b:List Int) (h:a.length=b.length) (hl:a.length≤9223372036854775807):∀ (r s:List Int) (i:Nat),a.drop i=r→b.drop i=s→Zjx 0 [(13,.int .i64 i),(12,.int .i64 a.length),(1,.lst false (b.map (AVal.int .i64))),(0,.lst false (a.map (AVal.int .i64)))] []=some (.bool (r == s),[])
 | [],s,i,ha,hb=>by
  have hs:s=[]:=by
   subst hb;rw [List.drop_eq_nil_iff] at ha ⊢;omega
  subst hs
  have h1:=ZcZ ha
  unfold Zjx
  rw [Zac]
  simp -implicitDefEqProofs only [EQA,Nat.reduceLT,Nat.reduceEqDiff,reduceCtorEq,decide_false,↓reduceIte,ZmL,Zwx,ZpR,Zrm,Zki,oI,h1]
 | x::r,[],i,ha,hb=>by
  have:=(Zaf ha).2.2;rw [List.drop_eq_nil_iff] at hb;omega
 | x::r,y::s,i,ha,hb=>by
  have ih:=ZrK a b h hl r s (i+1) (Zaf ha).2.1 (Zaf hb).2.1
  have h1:(i:Int) < a.length:=by have:=(Zaf ha).2.2;omega
  have e1:=iad (Zaf ha).1 (AVal.int .i64) (k:=1) rfl
  have e2:=iad (Zaf hb).1 (AVal.int .i64) (k:=1) rfl
  have e3:=Zc7 h1 hl
  unfold Zjx at ih ⊢
  rw [Zac]
  simp -implicitDefEqProofs only [EQA,ZC,Zaa,Nat.reduceLT,Nat.reduceEqDiff,Nat.reduceBEq,reduceCtorEq,decide_true,↓reduceIte,gcT,gcA,ZB,Zz,Zw,ZM,ZmL,Zrm,Zki,oI,h1,e1,e2,e3]
  rw [ih]
  by_cases hx:x=y <;> simp [hx]
theorem ZCB (a b:List Int) (hl:a.length≤9223372036854775807):E 83 [.lst false (a.map (AVal.int .i64)),.lst false (b.map (AVal.int .i64))] []=some (.bool (a == b),[]):=by
 rw [Zh (by rfl) ZCs]
 by_cases h:a.length=b.length
 ·have:=ZrK a b h hl a b 0 rfl rfl
  unfold Zjx at this
  have e:=Zjr h
  simp -implicitDefEqProofs only [EQA,Zaa,Nat.reduceLT,Nat.reduceEqDiff,reduceCtorEq,↓reduceIte,gcT,gcA,ZB,Zz,Zw,ZM,ZtB,ZlI,oI,e]
  exact this
 ·have e:=Zkk h
  simp -implicitDefEqProofs only [EQA,Nat.reduceLT,Nat.reduceEqDiff,reduceCtorEq,↓reduceIte,ZtB,ZlI,ZmL,oI,e,ZjE h]
theorem Zyh (σ:Za) (site own:Nat) (view:Bool) (a b:List Int) (hl:a.length≤9223372036854775807):Zj E BY σ site 83 own view [.lst false (a.map (AVal.int .i64)),.lst false (b.map (AVal.int .i64))]=some (.bool (a == b),σ,{}) :=
 Zcd (ZCB a b hl) (by kernel_rfl) (by simp -implicitDefEqProofs only [Zcv,Zbh,eq_self]) (by simp -implicitDefEqProofs only [ZC,Zbh,eq_self]) rfl (fun _=>rfl) _ _ _ _
theorem Zrl (a b:List Zb) (h:a.length=b.length) (hl:a.length≤9223372036854775807):∀ (r s:List Zb) (i:Nat),a.drop i=r→b.drop i=s→Zjt 0 [(13,.int .i64 i),(12,.int .i64 a.length),(1,.lst false (b.map AVal.str)),(0,.lst false (a.map AVal.str))] []=some (.bool (r == s),[])
 | [],s,i,ha,hb=>by
  have hs:s=[]:=by
   subst hb;rw [List.drop_eq_nil_iff] at ha ⊢;omega
  subst hs
  have h1:=ZcZ ha
  unfold Zjt
  rw [Zac]
  simp -implicitDefEqProofs only [EQA,Nat.reduceLT,Nat.reduceEqDiff,reduceCtorEq,decide_false,↓reduceIte,Zl6,ZI0,ZoH,Zqe,ZkD,oI,h1]
 | x::r,[],i,ha,hb=>by
  have:=(Zaf ha).2.2;rw [List.drop_eq_nil_iff] at hb;omega
 | x::r,y::s,i,ha,hb=>by
  have ih:=Zrl a b h hl r s (i+1) (Zaf ha).2.1 (Zaf hb).2.1
  have h1:(i:Int) < a.length:=by have:=(Zaf ha).2.2;omega
  have e1:=iad (Zaf ha).1 AVal.str (k:=1) rfl
  have e2:=iad (Zaf hb).1 AVal.str (k:=1) rfl
  have e3:=Zc7 h1 hl
  unfold Zjt at ih ⊢
  rw [Zac]
  simp -implicitDefEqProofs only [EQA,ZC,Zaa,Nat.reduceLT,Nat.reduceEqDiff,Nat.reduceBEq,ZeU,reduceCtorEq,decide_true,↓reduceIte,gcT,gcA,ZB,Zz,Zw,ZM,Zl6,Zqe,ZkD,oI,h1,e1,e2,e3]
  rw [ih]
  by_cases hx:x=y <;> simp [hx]
theorem Zz7 (a b:List Zb) (hl:a.length≤9223372036854775807):E 85 [.lst false (a.map AVal.str),.lst false (b.map AVal.str)] []=some (.bool (a == b),[]):=by
 rw [Zh (by rfl) ZA4]
 by_cases h:a.length=b.length
 ·have:=Zrl a b h hl a b 0 rfl rfl
  unfold Zjt at this
  have e:=Zjr h
  simp -implicitDefEqProofs only [EQA,Zaa,Nat.reduceLT,Nat.reduceEqDiff,reduceCtorEq,↓reduceIte,gcT,gcA,ZB,Zz,Zw,ZM,ZtN,ZkF,oI,e]
  exact this
 ·have e:=Zkk h
  simp -implicitDefEqProofs only [EQA,Nat.reduceLT,Nat.reduceEqDiff,reduceCtorEq,↓reduceIte,ZtN,ZkF,Zl6,oI,e,ZjE h]
theorem ZIx (σ:Za) (site own:Nat) (view:Bool) (a b:List Zb) (hl:a.length≤9223372036854775807):Zj E BY σ site 85 own view [.lst false (a.map AVal.str),.lst false (b.map AVal.str)]=some (.bool (a == b),σ,{}) :=
 Zcd (Zz7 a b hl) (by kernel_rfl) (by simp -implicitDefEqProofs only [Zcv,Zbh,eq_self]) (by simp -implicitDefEqProofs only [ZC,Zbh,eq_self]) rfl (fun _=>rfl) _ _ _ _
theorem Zsq (a b:List Zbi) (h:a.length=b.length) (hl:a.length≤9223372036854775807):∀ (r s:List Zbi) (i:Nat),a.drop i=r→b.drop i=s→Zk2 0 [(13,.int .i64 i),(12,.int .i64 a.length),(1,.lst false (b.map ZS)),(0,.lst false (a.map ZS))] []=some (.bool (r == s),[])
 | [],s,i,ha,hb=>by
  have hs:s=[]:=by
   subst hb;rw [List.drop_eq_nil_iff] at ha ⊢;omega
  subst hs
  have h1:=ZcZ ha
  unfold Zk2
  rw [Zac]
  simp -implicitDefEqProofs only [EQA,Nat.reduceLT,Nat.reduceEqDiff,reduceCtorEq,decide_false,↓reduceIte,ZmE,ZI5,Zpk,ZuR,Zjw,oI,h1]
 | x::r,[],i,ha,hb=>by
  have:=(Zaf ha).2.2;rw [List.drop_eq_nil_iff] at hb;omega
 | x::r,y::s,i,ha,hb=>by
  have ih:=Zsq a b h hl r s (i+1) (Zaf ha).2.1 (Zaf hb).2.1
  have h1:(i:Int) < a.length:=by have:=(Zaf ha).2.2;omega
  have e1:=iad (Zaf ha).1 ZS (k:=6) rfl
  have e2:=iad (Zaf hb).1 ZS (k:=6) rfl
  have e3:=Zc7 h1 hl
  unfold Zk2 at ih ⊢
  rw [Zac]
  obtain ⟨f1,q1,n1,a1,d1,i1⟩:=x
  obtain ⟨f2,q2,n2,a2,d2,i2⟩:=y
  simp only [ZS,AVal.cells] at e1 e2
  have kd:Zfy [2,0,1,1,0,0] [AVal.str f1,.int .i64 q1,.bool n1,.bool a1,.int .i64 d1,.int .i64 i1]=true:=rfl
  have ke:ZeN [AVal.str f1,.int .i64 q1,.bool n1,.bool a1,.int .i64 d1,.int .i64 i1] [AVal.str f2,.int .i64 q2,.bool n2,.bool a2,.int .i64 d2,.int .i64 i2]=some (f1 == f2 && (q1 == q2 && (n1 == n2 && (a1 == a2 && (d1 == d2 && (i1 == i2 && true)))))):=rfl
  have kd2:Zfy [2,0,1,1,0,0] [AVal.str f2,.int .i64 q2,.bool n2,.bool a2,.int .i64 d2,.int .i64 i2]=true:=rfl
  simp -implicitDefEqProofs only [EQA,Zaa,Nat.reduceAdd,Nat.reduceLT,Nat.reduceLeDiff,Nat.reduceEqDiff,Nat.reduceBEq,reduceCtorEq,decide_true,↓reduceIte,gcT,gcA,ZB,Zz,Zw,ZM,ZmE,ZuR,Zjw,oI,h1,e1,e2,e3,kd,ke]
  rw [ih]
  have hb:((⟨f1,q1,n1,a1,d1,i1⟩:Zbi) == ⟨f2,q2,n2,a2,d2,i2⟩)=(f1 == f2 && (q1 == q2 && (n1 == n2 && (a1 == a2 && (d1 == d2 && (i1 == i2)))))):=by
   rw [Bool.eq_iff_iff];simp
  rw [List.cons_beq_cons,hb]
  cases f1 == f2 <;> cases q1 == q2 <;> cases n1 == n2 <;> cases a1 == a2 <;> cases d1 == d2 <;> cases i1 == i2 <;> rfl
theorem Zwv (a b:List Zbi) (hl:a.length≤9223372036854775807):E 84 [.lst false (a.map ZS),.lst false (b.map ZS)] []=some (.bool (a == b),[]):=by
 rw [Zh (by rfl) ZyK]
 by_cases h:a.length=b.length
 ·have:=Zsq a b h hl a b 0 rfl rfl
  unfold Zk2 at this
  have e:=Zjr h
  simp -implicitDefEqProofs only [EQA,Zaa,Nat.reduceLT,Nat.reduceEqDiff,reduceCtorEq,↓reduceIte,gcT,gcA,ZB,Zz,Zw,ZM,Zp2,Zjq,oI,e]
  exact this
 ·have e:=Zkk h
  simp -implicitDefEqProofs only [EQA,Nat.reduceLT,Nat.reduceEqDiff,reduceCtorEq,↓reduceIte,Zp2,Zjq,ZmE,oI,e,ZjE h]
theorem ZKu (σ:Za) (site own:Nat) (view:Bool) (a b:List Zbi) (hl:a.length≤9223372036854775807):Zj E BY σ site 84 own view [.lst false (a.map ZS),.lst false (b.map ZS)]=some (.bool (a == b),σ,{}) :=
 Zcd (Zwv a b hl) (by kernel_rfl) (by simp -implicitDefEqProofs only [Zcv,Zbh,eq_self]) (by simp -implicitDefEqProofs only [ZC,Zbh,eq_self]) rfl (fun _=>rfl) _ _ _ _
def ZcM (a b:Zt):Bool :=
 ((((((((((((a.codes == b.codes && a.subs == b.subs && a.filters == b.filters && a.props == b.props && a.will.props == b.will.props)
  && (a.payload == b.payload && a.password == b.password && a.will.data == b.will.data))
  && (a.will.topic == b.will.topic && a.will.qos == b.will.qos && a.will.retain == b.will.retain))
  && (a.dup == b.dup && a.retain == b.retain && a.clean == b.clean && a.hasWill == b.hasWill && a.hasUser == b.hasUser && a.hasPassword == b.hasPassword && a.present == b.present))
  && a.type == b.type) && a.qos == b.qos) && a.id == b.id) && a.topic == b.topic) && a.code == b.code) && a.keep == b.keep) && a.client == b.client) && a.user == b.user)
theorem Zpe (a b:Zt):ZcM a b=true↔a=b:=by
 obtain ⟨a1,a2,a3,a4,a5,a6,a7,a8,a9,a10,a11,a12,a13,a14,a15,a16,⟨a17,a18,a19,a20,a21⟩,a22,a23,a24,a25,a26⟩:=a
 obtain ⟨b1,b2,b3,b4,b5,b6,b7,b8,b9,b10,b11,b12,b13,b14,b15,b16,⟨b17,b18,b19,b20,b21⟩,b22,b23,b24,b25,b26⟩:=b
 simp only [ZcM,Bool.and_eq_true,beq_iff_eq,Zt.mk.injEq,Zuh.mk.injEq]
 constructor
 ·rintro ⟨⟨⟨⟨⟨⟨⟨⟨⟨⟨⟨⟨⟨⟨⟨h1,h2⟩,h3⟩,h4⟩,h5⟩,⟨⟨h6,h7⟩,h8⟩⟩,⟨⟨h9,h10⟩,h11⟩⟩,⟨⟨⟨⟨⟨⟨h12,h13⟩,h14⟩,h15⟩,h16⟩,h17⟩,h18⟩⟩,h19⟩,h20⟩,h21⟩,h22⟩,h23⟩,h24⟩,h25⟩,h26⟩
  simp only [h1,h2,h3,h4,h5,h6,h7,h8,h9,h10,h11,h12,h13,h14,h15,h16,h17,h18,h19,h20,h21,h22,h23,h24,h25,h26,and_self]
 ·rintro ⟨h1,h2,h3,h4,h5,h6,h7,h8,h9,h10,h11,h12,h13,h14,h15,h16,⟨h17,h18,h19,h20,h21⟩,h22,h23,h24,h25,h26⟩
  simp only [h1,h2,h3,h4,h5,h6,h7,h8,h9,h10,h11,h12,h13,h14,h15,h16,h17,h18,h19,h20,h21,h22,h23,h24,h25,h26,and_self]
structure OkL (p:Zt):Prop where
 codes:p.codes.length≤9223372036854775807
 props:p.props.length≤9223372036854775807
 subs:p.subs.length≤9223372036854775807
 filters:p.filters.length≤9223372036854775807
 wprops:p.will.props.length≤9223372036854775807
theorem ZBr (a b:Zt) (h:OkL a):E 35 [ZX a,ZX b] []=some (.bool (ZcM a b),[]):=by
 have h1:=fun σ site own view=>Zyh σ site own view a.codes b.codes h.codes
 have h2:=fun σ site own view=>ZKu σ site own view a.subs b.subs h.subs
 have h3:=fun σ site own view=>ZIx σ site own view a.filters b.filters h.filters
 have h4:=fun σ site own view=>Zi3 σ site own view a.props b.props h.props
 have h5:=fun σ site own view=>Zi3 σ site own view a.will.props b.will.props h.wprops
 rw [Zh (by rfl) ZHe]
 unfold ZX ZcM
 simp -implicitDefEqProofs only [EQA,Zaa,Zdw,Zou,Nat.reduceAdd,Nat.reduceLT,Nat.reduceEqDiff,Nat.reduceBEq,ZeU,ZE,Zar,unG,ne_eq,Option.some.injEq,reduceCtorEq,decide_false,Z2,ite_self,↓reduceIte,ZFx,ZnF,ZDd,oI,AVal.cells,h1,h2,h3,h4,h5]
theorem ZmW (σ:Za) (site own:Nat) (view:Bool) (a b:Zt) (h:OkL a):Zj E BY σ site 35 own view [ZX a,ZX b]=some (.bool (ZcM a b),σ,{}) :=
 Zcd (ZBr a b h) (by kernel_rfl) rfl rfl rfl (fun _=>rfl) _ _ _ _
end Go.Proofs.YtmlkhhidifjjfaaDoor
namespace Go.Proofs.YtmlkhhidifjjfaaDoor
def Zkt:Zf:=(.seq (.region [oI 2 (.mov (.c (.lst true [])))] none [0]) (.seq (.region [oI 3 (.mov (.t 0)),oI 4 (.nilchk (.t 3)),oI 5 (.faddr 0 (.t 4)),oI 6 (.ld none (.t 5)),oI 7 (.mov (.t 0)),oI 8 (.nilchk (.t 7)),oI 9 (.faddr 1 (.t 8)),oI 10 (.ld none (.t 9)),oI 11 (.slice 1 (.t 6) (some (.t 10)) none none),oI 2 (.mov (.t 11))] (some [(3,7)]) [2]) .ret))
def Zmp:ZD:=⟨[(.tmp 2)],Zkt⟩
theorem ZsV:FC 80=some Zmp:=by kernel_rfl
theorem Zqh:Zmp.body=Zkt:=rfl
theorem Zu2:Zmp.res=[(.tmp 2)]:=rfl
end Go.Proofs.YtmlkhhidifjjfaaDoor
namespace Go.Proofs.YtmlkhhidifjjfaaDoor
set_option maxHeartbeats 16000000
set_option maxRecDepth 10000
theorem ZGg {σ:Za} {t g k n:Nat} {xs:List AVal} (hs:σ[t]?=some (.row g k xs)) (hn:n=xs.length):ZbN σ k (.sl t g 0 n) (some (.int .i64 0)) none none=some (.sl t g 0 n,σ,{ rd:=[t] }):=by
 subst hn
 have he:Z2 σ (.sl t g 0 xs.length)=some ((xs.drop 0).take xs.length,[t]):=by simp [Z2,hs]
 simp [ZbN,he,hs,Zbf,ZdZ]
theorem ZJU (σ:Za) (k:Nat):ZbN σ k (.lst true []) (some (.int .i64 0)) none none=some (.lst true [],σ,{}):=by
 simp [ZbN,Zbf,ZdZ]
theorem ZKa (l:Zb):E 80 [.ref 0 0] (wH 0 l)=some (.sl 1 0 0 l.length,wH 0 l):=by
 have h1:((l.map Zc).length)=l.length:=by simp
 rw [Zh (by rfl) ZsV]
 unfold wH wv
 have hS:=fun (σ:Za) (hs:σ[1]?=some (.row 0 1 (l.map Zc)))=>ZGg (n:=l.length) hs h1.symm
 simp -implicitDefEqProofs only [EQA,Nat.reduceAdd,Nat.reduceLT,Nat.reduceEqDiff,Nat.reduceBEq,reduceCtorEq,↓reduceIte,Zqh,Zkt,Zu2,oI,hS]
 simp [Zai,gcA,ZB,Zz,Zr,ZW,ZM,Zl,ZY,Zo,ZR,Zw,Ze,Zk,ZG,List.range,List.range.loop]
theorem ZMS:E 80 [.ref 0 0] [.var wn]=some (.lst true [],[.var wn]):=by
 rw [Zh (by rfl) ZsV]
 unfold wn
 simp -implicitDefEqProofs only [EQA,Zs,Zaa,Nat.reduceLT,Nat.reduceEqDiff,Nat.reduceBEq,reduceCtorEq,↓reduceIte,Zd,Zqh,Zkt,Zu2,oI,ZJU]
theorem ZHr (l:Zb):Zad true 2 (some (.sl 1 0 0 l.length,wH 0 l))=some (.lst false (l.map Zc),[.var (wv 1 0 l.length),.frow 0 1 (l.map Zc)]):=by
 have e1:(0:Nat)+l.length≤(l.map Zc).length:=by simp
 have e2:((l.map Zc).drop 0).take l.length=l.map Zc:=by
  rw [List.drop_zero,←List.length_map (f:=Zc),List.take_length]
 simp only [Zad,if_true,Zbx,viewR,ZQ,ZK,Z2,wH,List.getElem?_cons_succ,List.getElem?_cons_zero,e1,e2,and_self,Zp,List.set_cons_succ,List.set_cons_zero]
 simp [gcA,ZB,Zr,ZW,List.range,List.range.loop,ZM,wv,Zz,Zl,ZY,Zw,ZR,Zo,ZG,Ze,Zk]
theorem Zwq (l:Zb) {σ:Za} (t r g:Nat) {site:Nat} (htr:t≠r) (hs:σ[t]?=some (.var (wv r g l.length))) (hr:σ[r]?=some (.row g 1 (l.map Zc))) :
  Zj E1 BY σ site 80 0 true [.ref t 0]=some (.lst false (l.map Zc),(σ.set t (.var (wv r g l.length))).set r (.frow g 1 (l.map Zc)),{ any:=true,upd:=[(t,wv r g l.length)] }):=by
 refine Zbv ?_
 have hrf:Zr (wv r g l.length)=[r]:=rfl
 have htl:t < σ.length:=(List.getElem?_eq_some_iff.1 hs).1
 have hrl:r < σ.length:=(List.getElem?_eq_some_iff.1 hr).1
 have h1:σ.getD t .free=.var (wv r g l.length):=by simp [List.getD_eq_getElem?_getD,hs]
 have h2:σ.getD r .free=.row g 1 (l.map Zc):=by simp [List.getD_eq_getElem?_getD,hr]
 have hf0:Zp σ []=σ:=rfl
 have hsh:showAs σ [.ref t 0]=some ([.ref t 0],[]):=rfl
 have href:Zr [AVal.ref t 0]=[t]:=rfl
 have hup:Za0 ((σ.set t (.var (wv r g l.length))).set r (.frow g 1 (l.map Zc))) [t,r]=[(t,wv r g l.length)]:=by
  have e1:((σ.set t (.var (wv r g l.length))).set r (.frow g 1 (l.map Zc)))[t]?=some (.var (wv r g l.length)):=by
   rw [List.getElem?_set_ne (fun e=>htr e.symm),List.getElem?_set_self htl]
  have e2:((σ.set t (.var (wv r g l.length))).set r (.frow g 1 (l.map Zc)))[r]?=some (.frow g 1 (l.map Zc)):=by
   rw [List.getElem?_set_self (by simpa using hrl)]
  simp only [Za0,e1,e2]
 unfold Zj ZbH
 rw [show BY 80=false by kernel_rfl]
 simp only [Bool.false_eq_true,if_false,hsh,hf0,href,ZnG hs hr htr hrf]
 unfold Zbu
 have hall:([t,r].all fun t=>okB (σ.getD t .free))=true:=by simp only [List.all_cons,List.all_nil,h1,h2,okB,Bool.and_true]
 rw [if_pos hall]
 have hρt:Zl σ 0 [t,r] t 0=some (0,0):=by simp [Zl,ZY,hs,Zo,ZR]
 have hρr:Zl σ 0 [t,r] r g=some (1,0):=by simp [Zl,ZY,hr,Zo,ZR,htr]
 have hargs:Ze (Zl σ 0 [t,r]) [.ref t 0]=[.ref 0 0]:=by simp only [Ze,Zk,hρt]
 have hren:Ze (Zl σ 0 [t,r]) (wv r g l.length)=wv 1 0 l.length:=by simp only [wv,Ze,Zk,hρr]
 have hheap:Zw σ 0 [t,r] (Zl σ 0 [t,r]) [t,r] 0=wH 0 l:=by
  simp only [Zw,h1,h2,ZR,Zo,ZG,hren,wH]
  simp
 rw [hargs,hheap,ZKa l,show [t,r].length=2 from rfl,ZHr l]
 have hk:ZaW σ [t,r] [.var (wv 1 0 l.length),.frow 0 1 (l.map Zc)] 0=true:=by simp [ZaW,okB,Zb1,Zo,hs,hr]
 have hff:ZaU σ site 0=true:=by simp [ZaU]
 have hb3:Ze (Zav σ [t,r] site) (wv 1 0 l.length)=wv r g l.length:=by
  have : Zav σ [t,r] site 1 0=some (r,g):=by simp only [Zav,List.getElem?_cons_succ,List.getElem?_cons_zero,h2,Zo];rfl
  simp only [wv,Ze,Zk,this]
 simp only [Zaz,List.isEmpty_cons,Bool.false_eq_true,if_false,List.length_cons,List.length_nil,Nat.zero_add,Nat.reduceAdd,Nat.add_zero,Nat.le_refl,decide_true,hk,hff,Bool.and_self,if_true,ZaZ,ZaD,List.getD_cons_zero,List.getD_cons_succ,Zb6,List.getElem?_cons_zero,List.getElem?_cons_succ,h2,Zo,ZG,Zk,hb3,hup]
theorem ZAA {σ:Za} {t site:Nat} (hs:σ[t]?=some (.var wn)):Zj E1 BY σ site 80 0 true [.ref t 0]=some (.lst false [],σ,{ any:=true,upd:=[(t,wn)] }):=by
 refine Zbv ?_
 have htl:t < σ.length:=(List.getElem?_eq_some_iff.1 hs).1
 have h1:σ.getD t .free=.var wn:=by simp [List.getD_eq_getElem?_getD,hs]
 have hf0:Zp σ []=σ:=rfl
 have hsh:showAs σ [.ref t 0]=some ([.ref t 0],[]):=rfl
 have href:Zr [AVal.ref t 0]=[t]:=rfl
 have hre:Zz σ 1000 [t] []=[t]:=by
  have e1:([]:List Nat).contains t=false:=rfl
  rw [show (1000:Nat)=998+1+1 from rfl,Zz,e1]
  simp only [Bool.false_eq_true,if_false,h1,ZM]
  rfl
 unfold Zj ZbH
 rw [show BY 80=false by kernel_rfl]
 simp only [Bool.false_eq_true,if_false,hsh,hf0,href,hre]
 unfold Zbu
 have hall:([t].all fun t=>okB (σ.getD t .free))=true:=by simp only [List.all_cons,List.all_nil,h1,okB,Bool.and_true]
 rw [if_pos hall]
 have hρt:Zl σ 0 [t] t 0=some (0,0):=by simp [Zl,ZY,hs,Zo,ZR]
 have hargs:Ze (Zl σ 0 [t]) [.ref t 0]=[.ref 0 0]:=by simp only [Ze,Zk,hρt]
 have hheap:Zw σ 0 [t] (Zl σ 0 [t]) [t] 0=[.var wn]:=by
  simp only [Zw,h1,ZG]
  rfl
 rw [hargs,hheap,ZMS]
 have hv:Zad true 1 (some (.lst true [],[.var wn]))=some (.lst false [],[.var wn]):=rfl
 rw [show [t].length=1 from rfl,hv]
 have hk:ZaW σ [t] [.var wn] 0=true:=by simp [ZaW,okB,Zb1,Zo,hs]
 have hset:σ.set t (.var wn)=σ:=by
  apply List.ext_getElem?
  intro i
  rw [List.getElem?_set]
  by_cases e:t=i
  ·subst e;rw [if_pos rfl,if_pos htl,hs]
  ·simp [e]
 have hup:Za0 σ [t]=[(t,wn)]:=by simp only [Za0,hs]
 have hff:ZaU σ site 0=true:=by simp [ZaU]
 have hlay:ZaZ σ [t] site [.var wn] 0 σ=σ:=by
  simp only [ZaZ,ZaD,ZG,List.getD_cons_zero]
  exact hset
 simp only [Zaz,List.isEmpty_cons,Bool.false_eq_true,if_false,hk,hff,hlay,hup,Zk,List.length_cons,List.length_nil,Nat.zero_add,Nat.add_zero,Nat.le_refl,decide_true,Bool.and_self,if_true]
theorem Zqp (σ:Za) (site own:Nat) (f:Bool) (a:Zb) (h:a.length≤140737488355328):Zj E BY σ site 56 own true [.lst f [.lst false (a.map Zc)]]=some (.lst false (a.map Zc),σ,{}):=by
 have:=Zg2 σ site own f a [] (by simp) (by simpa using h)
 simpa [ZI] using this
theorem Zz6 {p:Zt} {l:Zb} (h:E1 78 [.ref 0 0,ZX p] [.var wn]=some (.tup [],wH 0 l)) {σ:Za} {t site:Nat} (hf:σ[site]?=some .free) (hs0:σ[t]?=some (.var wn)) :
  Zj E1 BY σ site 78 1 true [.ref t 0,.agg (Zq p)]=some (.tup [],(σ.set t (.var (wv site 0 l.length))).set site (.row 0 1 (l.map Zc)),{ any:=true,upd:=[(t,wv site 0 l.length)] }) :=
 Zgj (args:=[.agg (Zq p)]) rfl rfl h (by kernel_rfl) (by rw [List.all_cons,Zdj];rfl) (by rw [List.map_cons,Zdp];rfl) hf hs0
theorem ZxX {p:Zt} (h:E1 78 [.ref 0 0,ZX p] [.var wn]=some (.tup [],[.var wn])) {σ:Za} {t site:Nat} (hf:σ[site]?=some .free) (hs0:σ[t]?=some (.var wn)) :
  Zj E1 BY σ site 78 1 true [.ref t 0,.agg (Zq p)]=some (.tup [],σ,{ any:=true,upd:=[(t,wn)] }) :=
 ZrV (args:=[.agg (Zq p)]) h (by kernel_rfl) (by rw [List.all_cons,Zdj];rfl) (by rw [List.map_cons,Zdp];rfl) (ff1 hf) hs0
def orU (a b:Int):Int:=IntKind.u8.wrap (BitVec.ofInt IntKind.u8.bits a ||| BitVec.ofInt IntKind.u8.bits b).toNat
def Zhp (t:Int):Int:=orU (IntKind.u8.wrap (IntKind.i64.wrap (t*2 ^ min (Int.toNat 4) IntKind.i64.bits))) (Zeh t)
def Zne (p:Zt):Int:=IntKind.u8.wrap (Z1 p.dup 8+Zv p.qos 3*2+Z1 p.retain 1)
def ZbY (p:Zt):Int:=if p.type=3 then orU (Zhp 3) (Zne p) else Zhp p.type
theorem ZDv (m:Nat) (h:m < 256):IntKind.u8.wrap (m:Int)=m:=by
 unfold IntKind.wrap IntKind.signed IntKind.bits
 simp
 omega
theorem Zs0 (a b:Int):0≤orU a b∧orU a b < 256:=by
 have h:∀ x y:BitVec 8,(x ||| y).toNat < 256:=fun x y=>(x ||| y).isLt
 have h2:=h (BitVec.ofInt 8 a) (BitVec.ofInt 8 b)
 unfold orU
 rw [show IntKind.u8.bits=8 from rfl,ZDv _ h2]
 omega
theorem Ztr (p:Zt):0≤ZbY p∧ZbY p < 256:=by
 unfold ZbY
 split
 ·exact Zs0 _ _
 ·exact Zs0 _ _
theorem ZsH (B:Zb):(Zaj (B.length:Nat)).2=0↔B.length≤268435455:=by
 unfold Zaj
 split
 ·simp only []
  constructor
  ·intro h;simp at h
  ·intro h;omega
 ·simp only [true_iff]
  omega
def Zeg (first:Int) (B:Zb) (c:Int) (s:Bool):AVal :=
 if B.length≤268435455∧c=0∧s=true then .tup [.agg [.int .u8 first,.lst false (B.map Zc)],.int .i64 0] else .tup [.agg [.int .u8 0,.lst true []],.int .i64 129]
section
variable (p q:Zt) (c:Int)
theorem ZpZ (B:Zb) (hb:E1 78 [.ref 0 0,ZX p] [.var wn]=some (.tup [],wH 0 B)) (hB:B.length≤140737488355328)
  (hr:∀ σ site own,Zj E1 BY σ site 32 own true [.agg [.int .u8 (ZbY p),.lst false (B.map Zc)]]=some (.tup [ZX q,.int .i64 c],σ,{})) (hq:OkL q) :
  E1 34 [ZX p] []=some (Zeg (ZbY p) B c (ZcM q p),[]):=by
 have fb:=fun {σ:Za} {t site:Nat}=>Zz6 hb (σ:=σ) (t:=t) (site:=site)
 have fB:=fun {σ:Za} {site:Nat}=>Zwq B 2 3 0 (by omega) (σ:=σ) (site:=site)
 have fj:=fun σ site own f=>Zbv (Zqp σ site own f B hB)
 have ff:=fun σ site own=>Zbv (Zjl p.type σ site own)
 have fm:=fun b n σ site own=>Ziy b n σ site own
 have fv:=fun σ site own=>Zbv (Zfm σ site own (B.length:Nat))
 have fs:=fun σ site own=>Zbv (ZmW σ site own true q p hq)
 have hn:(B.map Zc).length=B.length:=by simp
 unfold Zeg
 generalize ZcM q p=s at *
 rw [Zbg] at *
 rw [Zbg] at *
 have e0:=ZbC p
 have e1:=Zcb p
 have a0:(Zq p)[0]?=some (.int .i64 p.type):=rfl
 have a1:(Zq p)[1]?=some (.bool p.dup):=rfl
 have a2:(Zq p)[2]?=some (.int .i64 p.qos):=rfl
 have a3:(Zq p)[3]?=some (.bool p.retain):=rfl
 have d0:=ZbC q
 have d1:=Zcb q
 have oq:(Zq q).all ZV=true:=rfl
 have m1:=ZdW p.dup 8 (by omega)
 have m2:=ZdW p.retain 1 (by omega)
 have m3:=ZhJ p.qos
 have w2:=Zcp (Zv p.qos 3*2) (by omega) (by omega)
 have w3:=Zcp (Z1 p.dup 8+Zv p.qos 3*2) (by omega) (by omega)
 have w4:=Zcp (Z1 p.dup 8+Zv p.qos 3*2+Z1 p.retain 1) (by omega) (by omega)
 clear m1 m2 m3
 unfold ZbY at hr ⊢
 have hv:=ZsH B
 unfold Zef at fv
 generalize (Zaj (B.length:Nat)).1=V at *
 generalize (Zaj (B.length:Nat)).2=v at *
 by_cases h3:p.type=3
 ·rw [if_pos h3] at hr ⊢
  rw [h3] at ff a0
  unfold Zhp Zne orU Zv at *
  clear h3
  generalize Zq p=P at *
  generalize Zq q=Q at *
  generalize p.dup=pd at *
  generalize p.qos=pq at *
  generalize p.retain=pr at *
  unfold wn at *
  rw [Zbb (by rfl) ZjI]
  by_cases v0:v=0
  ·have hL:=hv.1 v0
   subst v0
   by_cases c0:c=0
   ·subst c0
    cases s
    ·rw [if_neg (by simp)]
     simp -implicitDefEqProofs only [EQA,Za6,Zs,Nat.reduceAdd,Nat.reduceLT,Nat.reduceLeDiff,Nat.reduceEqDiff,Nat.reduceBEq,Zaw,unA,ZE,unG,ne_eq,Option.some.injEq,decide_true,decide_false,↓reduceIte,Zd,List.contains_cons,Zcm,Zca,Zci,oI,oN,AVal.cells,a0,a1,a2,a3,e0,e1,d0,d1,oq,Zan,fb,fB,fj,ff,fm,fv,fs,hr,hn,w2,w3,w4,Int.reduceLT,viewAs,ZQ,ZK,Zp,List.foldl_cons,List.foldl_nil,Z9,Zab,Zak,Zal,Zam,Zae,List.lookup_cons,List.lookup_nil,bne_self_eq_false]
    ·rw [if_pos ⟨hL,rfl,rfl⟩]
     simp -implicitDefEqProofs only [EQA,Za6,Zs,Nat.reduceAdd,Nat.reduceLT,Nat.reduceLeDiff,Nat.reduceEqDiff,Nat.reduceBEq,Zaw,unA,ZE,unG,ne_eq,Option.some.injEq,decide_true,decide_false,↓reduceIte,Zd,List.contains_cons,Zcm,Zca,Zci,oI,oN,AVal.cells,a0,a1,a2,a3,e0,e1,d0,d1,oq,Zan,fb,fB,fj,ff,fm,fv,fs,hr,hn,w2,w3,w4,Int.reduceLT,viewAs,ZQ,ZK,Zp,List.foldl_cons,List.foldl_nil,Z9,Zab,Zak,Zal,Zam,Zae,List.lookup_cons,List.lookup_nil,bne_self_eq_false]
   ·have c1:(c != 0)=true:=by simpa using c0
    rw [if_neg (fun h=>c0 h.2.1)]
    simp -implicitDefEqProofs only [EQA,Za6,Zs,Nat.reduceAdd,Nat.reduceLT,Nat.reduceLeDiff,Nat.reduceEqDiff,Nat.reduceBEq,Zaw,ZE,Zar,unG,ne_eq,Option.some.injEq,reduceCtorEq,decide_true,decide_false,↓reduceIte,Zd,List.contains_cons,Zcm,Zca,Zci,oI,oN,AVal.cells,a0,a1,a2,a3,e0,e1,d0,oq,Zan,fb,fB,fj,ff,fm,fv,hr,hn,w2,w3,w4,c1,Int.reduceLT,viewAs,ZQ,ZK,Zp,List.foldl_cons,List.foldl_nil,Z9,Zab,Zak,Zal,Zam,Zae,List.lookup_cons,List.lookup_nil,bne_self_eq_false]
  ·have v1:(v != 0)=true:=by simpa using v0
   rw [if_neg (fun h=>v0 (hv.2 h.1))]
   simp -implicitDefEqProofs only [EQA,Za6,Zs,Nat.reduceAdd,Nat.reduceLT,Nat.reduceLeDiff,Nat.reduceEqDiff,Nat.reduceBEq,Zaw,ZE,Zar,ne_eq,Option.some.injEq,reduceCtorEq,decide_true,decide_false,↓reduceIte,Zd,List.contains_cons,Zcm,Zca,Zci,oI,oN,AVal.cells,a0,a1,a2,a3,e0,e1,d0,oq,Zan,fb,fB,fj,ff,fm,fv,hr,hn,w2,w3,w4,v1,Int.reduceLT,viewAs,ZQ,ZK,Zp,List.foldl_cons,List.foldl_nil,Z9,Zab,Zak,Zal,Zam,Zae,List.lookup_cons,List.lookup_nil]
 ·rw [if_neg h3] at hr ⊢
  have h3b:(p.type == 3)=false:=by simpa using h3
  unfold Zhp orU at *
  clear h3
  generalize Zq p=P at *
  generalize Zq q=Q at *
  generalize p.dup=pd at *
  generalize p.qos=pq at *
  generalize p.retain=pr at *
  generalize p.type=ty at *
  unfold wn at *
  rw [Zbb (by rfl) ZjI]
  by_cases v0:v=0
  ·have hL:=hv.1 v0
   subst v0
   by_cases c0:c=0
   ·subst c0
    cases s
    ·rw [if_neg (by simp)]
     simp -implicitDefEqProofs only [EQA,Za6,Zs,Nat.reduceAdd,Nat.reduceLT,Nat.reduceLeDiff,Nat.reduceEqDiff,Nat.reduceBEq,Zaw,unA,ZE,unG,ne_eq,Option.some.injEq,decide_true,decide_false,↓reduceIte,Zd,List.contains_cons,Zcm,Zca,Zci,oI,oN,AVal.cells,a0,e0,e1,d0,d1,oq,Zan,fb,fB,fj,ff,fv,fs,hr,hn,h3b,Int.reduceLT,viewAs,ZQ,ZK,Zp,List.foldl_cons,List.foldl_nil,Z9,Zab,Zak,Zal,Zam,Zae,List.lookup_cons,List.lookup_nil,bne_self_eq_false]
    ·rw [if_pos ⟨hL,rfl,rfl⟩]
     simp -implicitDefEqProofs only [EQA,Za6,Zs,Nat.reduceAdd,Nat.reduceLT,Nat.reduceLeDiff,Nat.reduceEqDiff,Nat.reduceBEq,Zaw,unA,ZE,unG,ne_eq,Option.some.injEq,decide_true,decide_false,↓reduceIte,Zd,List.contains_cons,Zcm,Zca,Zci,oI,oN,AVal.cells,a0,e0,e1,d0,d1,oq,Zan,fb,fB,fj,ff,fv,fs,hr,hn,h3b,Int.reduceLT,viewAs,ZQ,ZK,Zp,List.foldl_cons,List.foldl_nil,Z9,Zab,Zak,Zal,Zam,Zae,List.lookup_cons,List.lookup_nil,bne_self_eq_false]
   ·have c1:(c != 0)=true:=by simpa using c0
    rw [if_neg (fun h=>c0 h.2.1)]
    simp -implicitDefEqProofs only [EQA,Za6,Zs,Nat.reduceAdd,Nat.reduceLT,Nat.reduceLeDiff,Nat.reduceEqDiff,Nat.reduceBEq,Zaw,ZE,Zar,unG,ne_eq,Option.some.injEq,reduceCtorEq,decide_true,decide_false,↓reduceIte,Zd,List.contains_cons,Zcm,Zca,Zci,oI,oN,AVal.cells,a0,e0,e1,d0,oq,Zan,fb,fB,fj,ff,fv,hr,hn,h3b,c1,Int.reduceLT,viewAs,ZQ,ZK,Zp,List.foldl_cons,List.foldl_nil,Z9,Zab,Zak,Zal,Zam,Zae,List.lookup_cons,List.lookup_nil,bne_self_eq_false]
  ·have v1:(v != 0)=true:=by simpa using v0
   rw [if_neg (fun h=>v0 (hv.2 h.1))]
   simp -implicitDefEqProofs only [EQA,Za6,Zs,Nat.reduceAdd,Nat.reduceLT,Nat.reduceLeDiff,Nat.reduceEqDiff,Nat.reduceBEq,Zaw,ZE,Zar,ne_eq,Option.some.injEq,reduceCtorEq,decide_true,decide_false,↓reduceIte,Zd,List.contains_cons,Zcm,Zca,Zci,oI,oN,AVal.cells,a0,e0,e1,d0,oq,Zan,fb,fB,fj,ff,fv,hr,hn,h3b,v1,Int.reduceLT,viewAs,ZQ,ZK,Zp,List.foldl_cons,List.foldl_nil,Z9,Zab,Zak,Zal,Zam,Zae,List.lookup_cons,List.lookup_nil]
theorem ZLB (hb:E1 78 [.ref 0 0,ZX p] [.var wn]=some (.tup [],[.var wn]))
  (hr:∀ σ site own,Zj E1 BY σ site 32 own true [.agg [.int .u8 (ZbY p),.lst false (([]:Zb).map Zc)]]=some (.tup [ZX q,.int .i64 c],σ,{})) (hq:OkL q) :
  E1 34 [ZX p] []=some (Zeg (ZbY p) [] c (ZcM q p),[]):=by
 have fb:=fun {σ:Za} {t site:Nat}=>ZxX hb (σ:=σ) (t:=t) (site:=site)
 have fB:=fun {σ:Za} {site:Nat}=>ZAA (σ:=σ) (t:=2) (site:=site)
 have fj:=fun σ site own f=>Zbv (Zqp σ site own f [] (by decide))
 have ff:=fun σ site own=>Zbv (Zjl p.type σ site own)
 have fm:=fun b n σ site own=>Ziy b n σ site own
 have fv:=fun σ site own=>Zbv (Zfm σ site own (([]:Zb).length:Nat))
 have fs:=fun σ site own=>Zbv (ZmW σ site own true q p hq)
 have hn:(([]:Zb).map Zc).length=([]:Zb).length:=by simp
 unfold Zeg
 generalize ZcM q p=s at *
 rw [Zbg] at *
 rw [Zbg] at *
 have e0:=ZbC p
 have e1:=Zcb p
 have a0:(Zq p)[0]?=some (.int .i64 p.type):=rfl
 have a1:(Zq p)[1]?=some (.bool p.dup):=rfl
 have a2:(Zq p)[2]?=some (.int .i64 p.qos):=rfl
 have a3:(Zq p)[3]?=some (.bool p.retain):=rfl
 have d0:=ZbC q
 have d1:=Zcb q
 have oq:(Zq q).all ZV=true:=rfl
 have m1:=ZdW p.dup 8 (by omega)
 have m2:=ZdW p.retain 1 (by omega)
 have m3:=ZhJ p.qos
 have w2:=Zcp (Zv p.qos 3*2) (by omega) (by omega)
 have w3:=Zcp (Z1 p.dup 8+Zv p.qos 3*2) (by omega) (by omega)
 have w4:=Zcp (Z1 p.dup 8+Zv p.qos 3*2+Z1 p.retain 1) (by omega) (by omega)
 clear m1 m2 m3
 unfold ZbY at hr ⊢
 have hv:=ZsH []
 unfold Zef at fv
 generalize (Zaj (([]:Zb).length:Nat)).1=V at *
 generalize (Zaj (([]:Zb).length:Nat)).2=v at *
 simp only [List.map_nil,List.length_nil] at fj hr fv hn hv
 by_cases h3:p.type=3
 ·rw [if_pos h3] at hr ⊢
  rw [h3] at ff a0
  unfold Zhp Zne orU Zv at *
  clear h3
  generalize Zq p=P at *
  generalize Zq q=Q at *
  generalize p.dup=pd at *
  generalize p.qos=pq at *
  generalize p.retain=pr at *
  unfold wn at *
  rw [Zbb (by rfl) ZjI]
  by_cases v0:v=0
  ·have hL:=hv.1 v0
   subst v0
   by_cases c0:c=0
   ·subst c0
    cases s
    ·rw [if_neg (by simp)]
     simp -implicitDefEqProofs only [EQA,Za6,Zs,Nat.reduceAdd,Nat.reduceLT,Nat.reduceLeDiff,Nat.reduceEqDiff,Nat.reduceBEq,Zaw,unA,ZE,unG,ne_eq,Option.some.injEq,decide_true,decide_false,↓reduceIte,Zd,List.contains_cons,Zcm,Zca,Zci,oI,oN,AVal.cells,a0,a1,a2,a3,e0,e1,d0,d1,oq,Zan,fb,fB,fj,ff,fm,fv,fs,hr,w2,w3,w4,Int.reduceLT,viewAs,ZQ,ZK,Zp,List.foldl_cons,List.foldl_nil,Z9,Zab,Zak,Zal,Zam,Zae,List.lookup_cons,List.lookup_nil,bne_self_eq_false]
    ·rw [if_pos ⟨by decide,rfl,rfl⟩]
     simp -implicitDefEqProofs only [EQA,Za6,Zs,Nat.reduceAdd,Nat.reduceLT,Nat.reduceLeDiff,Nat.reduceEqDiff,Nat.reduceBEq,Zaw,unA,ZE,unG,ne_eq,Option.some.injEq,decide_true,decide_false,↓reduceIte,Zd,List.contains_cons,Zcm,Zca,Zci,oI,oN,AVal.cells,a0,a1,a2,a3,e0,e1,d0,d1,oq,Zan,fb,fB,fj,ff,fm,fv,fs,hr,w2,w3,w4,Int.reduceLT,viewAs,ZQ,ZK,Zp,List.foldl_cons,List.foldl_nil,Z9,Zab,Zak,Zal,Zam,Zae,List.lookup_cons,List.lookup_nil,bne_self_eq_false]
   ·have c1:(c != 0)=true:=by simpa using c0
    rw [if_neg (fun h=>c0 h.2.1)]
    simp -implicitDefEqProofs only [EQA,Za6,Zs,Nat.reduceAdd,Nat.reduceLT,Nat.reduceLeDiff,Nat.reduceEqDiff,Nat.reduceBEq,Zaw,ZE,Zar,unG,ne_eq,Option.some.injEq,reduceCtorEq,decide_true,decide_false,↓reduceIte,Zd,List.contains_cons,Zcm,Zca,Zci,oI,oN,AVal.cells,a0,a1,a2,a3,e0,e1,d0,oq,Zan,fb,fB,fj,ff,fm,fv,hr,w2,w3,w4,c1,Int.reduceLT,viewAs,ZQ,ZK,Zp,List.foldl_cons,List.foldl_nil,Z9,Zab,Zak,Zal,Zam,Zae,List.lookup_cons,List.lookup_nil,bne_self_eq_false]
  ·have v1:(v != 0)=true:=by simpa using v0
   rw [if_neg (fun h=>v0 (hv.2 (by decide)))]
   simp -implicitDefEqProofs only [EQA,Za6,Zs,Nat.reduceAdd,Nat.reduceLT,Nat.reduceLeDiff,Nat.reduceEqDiff,Nat.reduceBEq,Zaw,ZE,Zar,ne_eq,Option.some.injEq,reduceCtorEq,decide_true,decide_false,↓reduceIte,Zd,List.contains_cons,Zcm,Zca,Zci,oI,oN,AVal.cells,a0,a1,a2,a3,e0,e1,d0,oq,Zan,fb,fB,fj,ff,fm,fv,hr,w2,w3,w4,v1,Int.reduceLT,viewAs,ZQ,ZK,Zp,List.foldl_cons,List.foldl_nil,Z9,Zab,Zak,Zal,Zam,Zae,List.lookup_cons,List.lookup_nil]
 ·rw [if_neg h3] at hr ⊢
  have h3b:(p.type == 3)=false:=by simpa using h3
  unfold Zhp orU at *
  clear h3
  generalize Zq p=P at *
  generalize Zq q=Q at *
  generalize p.dup=pd at *
  generalize p.qos=pq at *
  generalize p.retain=pr at *
  generalize p.type=ty at *
  unfold wn at *
  rw [Zbb (by rfl) ZjI]
  by_cases v0:v=0
  ·have hL:=hv.1 v0
   subst v0
   by_cases c0:c=0
   ·subst c0
    cases s
    ·rw [if_neg (by simp)]
     simp -implicitDefEqProofs only [EQA,Za6,Zs,Nat.reduceAdd,Nat.reduceLT,Nat.reduceLeDiff,Nat.reduceEqDiff,Nat.reduceBEq,Zaw,unA,ZE,unG,ne_eq,Option.some.injEq,decide_true,decide_false,↓reduceIte,Zd,List.contains_cons,Zcm,Zca,Zci,oI,oN,AVal.cells,a0,e0,e1,d0,d1,oq,Zan,fb,fB,fj,ff,fv,fs,hr,h3b,Int.reduceLT,viewAs,ZQ,ZK,Zp,List.foldl_cons,List.foldl_nil,Z9,Zab,Zak,Zal,Zam,Zae,List.lookup_cons,List.lookup_nil,bne_self_eq_false]
    ·rw [if_pos ⟨by decide,rfl,rfl⟩]
     simp -implicitDefEqProofs only [EQA,Za6,Zs,Nat.reduceAdd,Nat.reduceLT,Nat.reduceLeDiff,Nat.reduceEqDiff,Nat.reduceBEq,Zaw,unA,ZE,unG,ne_eq,Option.some.injEq,decide_true,decide_false,↓reduceIte,Zd,List.contains_cons,Zcm,Zca,Zci,oI,oN,AVal.cells,a0,e0,e1,d0,d1,oq,Zan,fb,fB,fj,ff,fv,fs,hr,h3b,Int.reduceLT,viewAs,ZQ,ZK,Zp,List.foldl_cons,List.foldl_nil,Z9,Zab,Zak,Zal,Zam,Zae,List.lookup_cons,List.lookup_nil,bne_self_eq_false]
   ·have c1:(c != 0)=true:=by simpa using c0
    rw [if_neg (fun h=>c0 h.2.1)]
    simp -implicitDefEqProofs only [EQA,Za6,Zs,Nat.reduceAdd,Nat.reduceLT,Nat.reduceLeDiff,Nat.reduceEqDiff,Nat.reduceBEq,Zaw,ZE,Zar,unG,ne_eq,Option.some.injEq,reduceCtorEq,decide_true,decide_false,↓reduceIte,Zd,List.contains_cons,Zcm,Zca,Zci,oI,oN,AVal.cells,a0,e0,e1,d0,oq,Zan,fb,fB,fj,ff,fv,hr,h3b,c1,Int.reduceLT,viewAs,ZQ,ZK,Zp,List.foldl_cons,List.foldl_nil,Z9,Zab,Zak,Zal,Zam,Zae,List.lookup_cons,List.lookup_nil,bne_self_eq_false]
  ·have v1:(v != 0)=true:=by simpa using v0
   rw [if_neg (fun h=>v0 (hv.2 (by decide)))]
   simp -implicitDefEqProofs only [EQA,Za6,Zs,Nat.reduceAdd,Nat.reduceLT,Nat.reduceLeDiff,Nat.reduceEqDiff,Nat.reduceBEq,Zaw,ZE,Zar,ne_eq,Option.some.injEq,reduceCtorEq,decide_true,decide_false,↓reduceIte,Zd,List.contains_cons,Zcm,Zca,Zci,oI,oN,AVal.cells,a0,e0,e1,d0,oq,Zan,fb,fB,fj,ff,fv,hr,h3b,v1,Int.reduceLT,viewAs,ZQ,ZK,Zp,List.foldl_cons,List.foldl_nil,Z9,Zab,Zak,Zal,Zam,Zae,List.lookup_cons,List.lookup_nil]
end
end Go.Proofs.YtmlkhhidifjjfaaDoor
namespace Go.Proofs.YtmlkhhidifjjfaaDoor
set_option maxHeartbeats 16000000
set_option maxRecDepth 10000
def Zjs (x:UInt8) (B:Zb):AVal:=.tup [.agg [Zc x,.lst false (B.map Zc)],.int .i64 0]
def Zkm:AVal:=.tup [.agg [.int .u8 0,.lst false []],.int .i64 129]
theorem Zu1 {args:List AVal} {p:Zt} {x:UInt8} {B:Zb} (h:E1 34 [ZX p] []=some (Zeg x.toNat B 0 true,[])) (hB:B.length≤268435455) (hp:args.all Z6=true) (hn:args.map ZF=[ZX p]) (σ:Za) (site own:Nat) :
  Zj E1 BY σ site 34 own true args=some (Zjs x B,σ,{}):=by
 unfold Zeg at h
 rw [if_pos ⟨hB,rfl,rfl⟩] at h
 exact Zbj h (by kernel_rfl) hp hn rfl (fun _=>rfl) σ site own
theorem ZBN {args:List AVal} {p:Zt} {x c:Int} {B:Zb} {s:Bool} (h:E1 34 [ZX p] []=some (Zeg x B c s,[])) (hB:¬(B.length≤268435455∧c=0∧s=true)) (hp:args.all Z6=true) (hn:args.map ZF=[ZX p]) (σ:Za) (site own:Nat) :
  Zj E1 BY σ site 34 own true args=some (Zkm,σ,{}):=by
 unfold Zeg at h
 rw [if_neg hB] at h
 exact Zbj h (by kernel_rfl) hp hn rfl (fun _=>rfl) σ site own
def Zfo (x:UInt8) (B:Zb):Zb:=x::((Zaj B.length).1++B)
theorem ZD8 (σ:Za) (site own:Nat) (f:Bool) (x:UInt8) (b c:Zb) (h:1+b.length+c.length≤140737488355328):Zj E BY σ site 56 own true [.lst f [.lst false [Zc x],.lst false (b.map Zc),.lst false (c.map Zc)]]=some (.lst false ((x::(b++c)).map Zc),σ,{}):=by
 have:=Zg2 σ site own f [x] [b,c] (by simp) (by simp;omega)
 simpa only [List.map_cons,List.map_nil,ZI,List.flatten_cons,List.flatten_nil,List.append_nil,List.cons_append,List.nil_append] using this
theorem Zum (p:Zt) (x:UInt8) (B:Zb) (hB:B.length≤268435455) (hF:∀ σ site own,Zj E1 BY σ site 34 own true [.agg (Zq p)]=some (Zjs x B,σ,{})) :
  E1 40 [ZX p] []=some (.tup [.lst false ((Zfo x B).map Zc),.int .i64 0],[]):=by
 have hv:=Zgn (B.length:Nat)
 have fv:=fun σ site own=>Zbv (Zfm σ site own (B.length:Nat))
 have fj:=fun σ site own f=>Zbv (ZD8 σ site own f x (Zaj (B.length:Nat)).1 B (by omega))
 have hn:(B.map Zc).length=B.length:=by simp
 rw [Zbg]
 have e0:=ZbC p
 have e1:=Zcb p
 unfold Zfo
 unfold Zef at fv
 unfold Zjs at hF
 generalize (Zaj (B.length:Nat)).1=V at *
 generalize (Zaj (B.length:Nat)).2=c at *
 generalize Zq p=P at *
 generalize (x::(V++B)).map Zc=R at *
 generalize hBB:B.map Zc=BB at *
 have bx:Zc x=.int .u8 (x.toNat:Nat):=rfl
 simp only [bx] at fj hF
 rw [Zbb (by rfl) Zr0]
 simp -implicitDefEqProofs only [EQA,Zs,Nat.reduceAdd,Nat.reduceLT,Nat.reduceLeDiff,Nat.reduceEqDiff,Nat.reduceBEq,decide_true,↓reduceIte,Zd,ZuO,ZkW,ZrQ,oI,oN,AVal.cells,e0,e1,hF,fv,fj,hn,bne_self_eq_false,viewAs,ZQ,ZK,Zp,List.foldl_cons,List.foldl_nil]
theorem ZBW (p:Zt) (hF:∀ σ site own,Zj E1 BY σ site 34 own true [.agg (Zq p)]=some (Zkm,σ,{})) :
  E1 40 [ZX p] []=some (.tup [.lst true [],.int .i64 129],[]):=by
 rw [Zbg]
 have e0:=ZbC p
 have e1:=Zcb p
 unfold Zkm at hF
 generalize Zq p=P at *
 rw [Zbb (by rfl) Zr0]
 simp -implicitDefEqProofs only [EQA,Zs,Nat.reduceAdd,Nat.reduceLT,Nat.reduceLeDiff,Nat.reduceEqDiff,Nat.reduceBEq,↓reduceIte,Zd,ZuO,ZkW,ZrQ,oI,oN,AVal.cells,e0,e1,hF,Int.reduceBNe]
end Go.Proofs.YtmlkhhidifjjfaaDoor
namespace Go.Proofs.YtmlkhhidifjjfaaDoor
set_option maxHeartbeats 8000000
set_option maxRecDepth 10000
def Ziv (p:Zt):Option Zb :=
 if p.type=1 then some (ZeC p) else if p.type=2 then some (Zkh p) else if p.type=3 then some (Zjb p)
 else if p.type=4∨p.type=5∨p.type=6∨p.type=7 then some (beB (ZN p.id) 2++ZbF p)
 else if p.type=8 then some (ZbK p++ZdO p.subs) else if p.type=10 then some (ZbK p++ZdT p.filters)
 else if p.type=9∨p.type=11 then some (ZbK p++ZdC p.codes)
 else if p.type=14∨p.type=15 then Zc4 p else none
def ZcF (p:Zt):Zb:=(Ziv p).getD []
theorem ZJd (p:Zt) (h:OkW p):E1 78 [.ref 0 0,ZX p] [.var wn]=some (.tup [],wO (Ziv p)):=by
 unfold Ziv
 by_cases h1:p.type=1
 ·rw [if_pos h1];exact Zys p h h1
 rw [if_neg h1]
 by_cases h2:p.type=2
 ·rw [if_pos h2];exact ZEL p h h2
 rw [if_neg h2]
 by_cases h3:p.type=3
 ·rw [if_pos h3];exact ZH0 p h h3
 rw [if_neg h3]
 by_cases h4:p.type=4∨p.type=5∨p.type=6∨p.type=7
 ·rw [if_pos h4];exact Zre p h h4
 rw [if_neg h4]
 by_cases h8:p.type=8
 ·rw [if_pos h8];exact ZCL p h h8
 rw [if_neg h8]
 by_cases h10:p.type=10
 ·rw [if_pos h10];exact ZME p h h10
 rw [if_neg h10]
 by_cases h9:p.type=9∨p.type=11
 ·rw [if_pos h9];exact ZCq p h h9
 rw [if_neg h9]
 by_cases h14:p.type=14∨p.type=15
 ·rw [if_pos h14];exact Zzg p h h14
 rw [if_neg h14]
 exact ZMU p (by omega)
theorem ZCh (p:Zt):(ZbF p).length≤300000000:=by
 have h1:=Zbc 1 (ZN p.code)
 have h2:=Zc8 p.type p.props
 unfold ZbF
 repeat' split
 all_goals simp only [List.length_append,List.length_nil]
 all_goals omega
theorem Zy8 (p:Zt) (h:OkW p) (hp:p.payload.length≤1000000):(ZcF p).length≤1000000000000:=by
 have a1:=ZL2 p h
 have a2:=ZCh p
 have a3:=Zbc 2 (ZN p.id)
 have a4:=Zbc 1 (ZN p.code)
 have a5:=Zbc 1 (ZN (Z1 p.present 1))
 have a6:=Zc8 2 p.props
 have a7:=Zc8 3 p.props
 have a8:=ZcB p.topic
 have a9:=ZjT p h
 have b1:=ZMn p.subs
 have b2:=ZDw p.filters
 have b3:=ZCz p.codes
 have c1:=h.subs.1
 have c2:=h.filters.1
 have c3:=h.codes
 have a10:(Zj7 p).length≤70000:=by
  unfold Zj7
  split
  ·rw [List.length_append];omega
  ·omega
 have a11:((Zc4 p).getD []).length≤300000000:=by
  unfold Zc4
  split
  ·simpa using a2
  ·simp
 unfold ZcF Ziv
 generalize Zc4 p=ro at *
 repeat' split
 all_goals try simp only [Option.getD_some,Option.getD_none,List.length_append,List.length_nil,Zkh,Zjb]
 all_goals omega
theorem Zgx {w:Int} {b:Zb} {l:List Zu} {r:Zb} (h:ZbE w b=.ok (l,r)):l.length≤268435455:=by
 unfold ZbE at h
 split at h
 ·injection h with h
  injection h with h1 h2
  rw [←h1];exact ZHW w b
 ·cases h
theorem ZuK {α:Type} {one:Zb→RK α}:∀ {n:Nat} {l:Zb} {ts:List α},ZaK one n l=.ok ts→ts.length≤n
 | 0,l,ts,h=>by
  unfold ZaK at h
  split at h
  ·injection h with h;subst h;simp
  ·cases h
 | n+1,l,ts,h=>by
  unfold ZaK at h
  split at h
  ·injection h with h;subst h;simp
  ·split at h
   ·cases h
   ·split at h
    ·cases h
    ·rename_i t ht
     injection h with h;subst h
     have:=ZuK ht
     simp;omega
theorem ZnE {α:Type} {one:Zb→RK α} {k:Int} {l:Zb} {n:Int} {ps:List Zu} {ts:List α} (h:Zbr one k l=.ok (n,ps,ts)):ps.length≤268435455∧ts.length≤l.length:=by
 unfold Zbr at h
 split at h
 ·cases h
 rename_i n' ps' r hm
 have l1:=ZiQ hm
 split at h
 ·cases h
 rename_i us hu
 injection h with h;injection h with e1 h;injection h with e2 e3;subst e1 e2 e3
 have:=ZuK hu
 refine ⟨?_,by omega⟩
 unfold Zdx at hm
 split at hm
 ·cases hm
 split at hm
 ·cases hm
 rename_i hp
 split at hm
 ·cases hm
 injection hm with hm;injection hm with _ hm;injection hm with e _;subst e
 exact Zgx hp
theorem ZH7 {k:Int} {l:Zb} {c:Int} {ps:Option (List Zu)} {r:Zb} (h:Zct k l=.ok ((c,ps),r)):(ps.getD []).length≤268435455:=by
 unfold Zct at h
 split at h
 ·injection h with h;injection h with h _;injection h with _ h;subst h;simp
 split at h
 ·cases h
 split at h
 ·injection h with h;injection h with h _;injection h with _ h;subst h;simp
 split at h
 ·cases h
 rename_i hp
 injection h with h;injection h with h _;injection h with _ h;subst h
 exact Zgx hp
theorem Zcx:OkL ZaF:=⟨by simp [ZaF],by simp [ZaF],by simp [ZaF],by simp [ZaF],by simp [ZaF]⟩
theorem Zrd {q q':Zt} {l r:Zb} (h:OkL q) (e:Zge q l=.ok (q',r)):OkL q':=by
 unfold Zge at e
 split at e
 ·cases e
 rename_i c ps r' hr
 injection e with e;injection e with e _;subst e
 have:=ZH7 hr
 exact ⟨h.codes,by simp only;omega,h.subs,h.filters,h.wprops⟩
theorem ZIV {q q':Zt} {l r:Zb} (h:OkL q) (e:idQ q l=.ok (q',r)):OkL q':=by
 unfold idQ at e
 split at e
 ·cases e
 rename_i n r1 _
 exact Zrd (q:={ q with id:=n }) ⟨h.codes,h.props,h.subs,h.filters,h.wprops⟩ e
theorem ZHR {q q':Zt} {l r:Zb} (h:OkL q) (e:Zic q l=.ok (q',r)):OkL q':=by
 unfold Zic at e
 split at e
 ·cases e
 split at e
 case isFalse=>cases e
 split at e
 ·cases e
 split at e
 ·cases e
 rename_i hp
 injection e with e;injection e with e _;subst e
 have:=Zgx hp
 exact ⟨h.codes,by simp only;omega,h.subs,h.filters,h.wprops⟩
theorem ZLF {b:Bool} {q q':Zt} {l r:Zb} (h:OkL q) (e:ZiY b q l=.ok (q',r)):OkL q':=by
 unfold ZiY at e
 split at e
 ·split at e
  ·cases e
  ·injection e with e;injection e with e _;subst e;exact ⟨h.codes,h.props,h.subs,h.filters,h.wprops⟩
 ·injection e with e;injection e with e _;subst e;exact h
theorem ZE2 {b:Bool} {q q':Zt} {l r:Zb} (h:OkL q) (e:Zhg b q l=.ok (q',r)):OkL q':=by
 unfold Zhg at e
 split at e
 ·split at e
  ·cases e
  ·injection e with e;injection e with e _;subst e;exact ⟨h.codes,h.props,h.subs,h.filters,h.wprops⟩
 ·injection e with e;injection e with e _;subst e;exact h
theorem ZI9 {b:Bool} {q q':Zt} {l r:Zb} (h:OkL q) (e:Zg1 b q l=.ok (q',r)):OkL q':=by
 unfold Zg1 at e
 split at e
 ·split at e
  ·cases e
  ·rename_i ps tp d r' hw
   injection e with e;injection e with e _;subst e
   refine ⟨h.codes,h.props,h.subs,h.filters,?_⟩
   unfold ZdR at hw
   split at hw
   ·cases hw
   rename_i hp
   split at hw
   ·cases hw
   split at hw
   ·cases hw
   injection hw with hw;injection hw with e1 _;subst e1
   have:=Zgx hp
   simp only;omega
 ·injection e with e;injection e with e _;subst e;exact h
theorem ZMO {q:Zt} (h:OkL q) (m k:Int) {ps:List Zu} (cl:Zb) (hp:ps.length≤268435455):OkL (headD (ZlP q m) k ps cl):=⟨h.codes,Nat.le_trans hp (by decide),h.subs,h.filters,h.wprops⟩
theorem ZIu {q q':Zt} {l r:Zb} (h:OkL q) (e:Zgu q l=.ok (q',r)):OkL q':=by
 unfold Zgu at e
 split at e
 ·cases e
 split at e
 case isFalse=>cases e
 split at e
 ·cases e
 split at e
 case isFalse=>cases e
 split at e
 ·cases e
 split at e
 case isFalse=>cases e
 unfold Zlq at e
 split at e
 ·cases e
 split at e
 ·cases e
 rename_i hp
 split at e
 ·cases e
 unfold Zll at e
 split at e
 ·cases e
 rename_i hw
 split at e
 ·cases e
 rename_i hu
 exact ZLF (ZE2 (ZI9 (ZMO h _ _ _ (Zgx hp)) hw) hu) e
theorem Zh6 {x:Except Int (Zt×Zb)} (h:∀ q r,x=.ok (q,r)→OkL q) {q:Zt} (e:ZcO x=.ok q):OkL q:=by
 unfold ZcO at e
 split at e
 ·cases e
 rename_i q' r'
 split at e
 ·injection e with e;subst e;exact h _ _ rfl
 ·cases e
theorem ZDW {t:Int} {l:Zb} (hl:l.length≤9223372036854775807) {q:Zt} (e:Zhz t l=.ok q):OkL q:=by
 have h0:∀ k:Int,OkL { ZaF with type:=k }:=fun k=>⟨Zcx.codes,Zcx.props,Zcx.subs,Zcx.filters,Zcx.wprops⟩
 unfold Zhz at e
 split at e
 ·exact Zh6 (fun _ _ h=>ZIu (h0 1) h) e
 split at e
 ·exact Zh6 (fun _ _ h=>ZHR (h0 2) h) e
 split at e
 ·exact Zh6 (fun _ _ h=>ZIV (h0 t) h) e
 split at e
 ·unfold Zke at e
  split at e
  ·cases e
  rename_i hm
  injection e with e;subst e
  have:=ZnE hm
  exact ⟨(h0 8).codes,by simp only;omega,by simp only;omega,(h0 8).filters,(h0 8).wprops⟩
 split at e
 ·unfold Zkw at e
  split at e
  ·cases e
  rename_i hm
  injection e with e;subst e
  have:=ZnE hm
  exact ⟨(h0 8).codes,by simp only;omega,(h0 8).subs,by simp only;omega,(h0 8).wprops⟩
 split at e
 ·unfold Zhy at e
  split at e
  ·cases e
  rename_i hm
  injection e with e;subst e
  have:=ZnE hm
  exact ⟨by simp only;omega,by simp only;omega,(h0 8).subs,(h0 8).filters,(h0 8).wprops⟩
 split at e
 ·exact Zh6 (fun _ _ h=>Zrd (h0 t) h) e
 ·exact Zh6 (fun q r h=>by injection h with h;injection h with h _;subst h;exact h0 t) e
theorem ZJX {qos:Int} {l:Zb} {tp:Zb} {n:Int} {ps:List Zu} {q:Zb} (e:Zd5 qos l=.ok (tp,n,ps,q)):ps.length≤268435455:=by
 unfold Zd5 at e
 split at e
 ·cases e
 split at e
 ·split at e
  ·cases e
  split at e
  ·cases e
  rename_i hp
  injection e with e;injection e with _ e;injection e with _ e;injection e with e _;subst e
  exact Zgx hp
 ·split at e
  ·cases e
  rename_i hp
  injection e with e;injection e with _ e;injection e with _ e;injection e with e _;subst e
  exact Zgx hp
theorem Zs7 (b:Int) (l:Zb) (hl:l.length≤9223372036854775807):OkL (Zdv b l).1:=by
 unfold Zdv
 split
 ·exact Zcx
 split
 ·unfold Zft
  split
  ·split
   ·split
    ·exact Zcx
    ·rename_i h
     have:=ZJX h
     exact ⟨Zcx.codes,by simp only;omega,Zcx.subs,Zcx.filters,Zcx.wprops⟩
   ·exact Zcx
  ·exact Zcx
 split
 ·split
  ·exact Zcx
  ·rename_i h
   exact ZDW hl h
 ·exact Zcx
theorem Zud (p:Zt) (h:OkW p) (hp:p.payload.length≤1000000):E1 34 [ZX p] []=some (Zeg (ZbY p) (ZcF p) (Zdv (ZbY p) (ZcF p)).2 (ZcM (Zdv (ZbY p) (ZcF p)).1 p),[]):=by
 have hb:=ZJd p h
 have hl:=Zy8 p h hp
 have hw:=Ztr p
 unfold ZcF at hl ⊢
 cases hB:Ziv p with
 | none =>
  rw [hB] at hb
  exact ZLB p _ _ hb (fun σ site own=>Zrk _ hw [] (by decide) false σ site own) (Zs7 _ _ (by decide))
 | some B =>
  rw [hB] at hb hl
  simp only [Option.getD_some] at hl ⊢
  exact ZpZ p _ _ B hb (by omega) (fun σ site own=>Zrk _ hw B (by omega) false σ site own) (Zs7 _ _ (by omega))
def ZcS (p:Zt):Prop:=(ZcF p).length≤268435455∧Zdv (ZbY p) (ZcF p)=(p,0)
instance (p:Zt):Decidable (ZcS p):=inferInstanceAs (Decidable (_∧_))
def ZiJ (p:Zt):UInt8:=UInt8.ofNat (ZbY p).toNat
theorem ZnO (p:Zt):((ZiJ p).toNat:Int)=ZbY p:=by
 have:=Ztr p
 unfold ZiJ
 rw [UInt8.toNat_ofNat']
 omega
section
variable (p:Zt) (h:OkW p) (hp:p.payload.length≤1000000)
include h hp
theorem ZrN:ZcS p↔((ZcF p).length≤268435455∧(Zdv (ZbY p) (ZcF p)).2=0∧ZcM (Zdv (ZbY p) (ZcF p)).1 p=true):=by
 unfold ZcS
 rw [Zpe]
 constructor
 ·rintro ⟨h1,h2⟩
  rw [h2];exact ⟨h1,rfl,rfl⟩
 ·rintro ⟨h1,h2,h3⟩
  exact ⟨h1,Prod.ext h3 h2⟩
theorem ZxC (hg:ZcS p) (args:List AVal) (ha:args.all Z6=true) (hn:args.map ZF=[ZX p]) (σ:Za) (site own:Nat):Zj E1 BY σ site 34 own true args=some (Zjs (ZiJ p) (ZcF p),σ,{}):=by
 have hF:=Zud p h hp
 obtain ⟨h1,h2,h3⟩:=(ZrN p h hp).1 hg
 rw [h2,h3,←ZnO p] at hF
 exact Zu1 (by rw [hF]) h1 ha hn σ site own
theorem ZzN (hg:¬ZcS p) (args:List AVal) (ha:args.all Z6=true) (hn:args.map ZF=[ZX p]) (σ:Za) (site own:Nat):Zj E1 BY σ site 34 own true args=some (Zkm,σ,{}) :=
 ZBN (Zud p h hp) (fun e=>hg ((ZrN p h hp).2 e)) ha hn σ site own
theorem ZgC (p:Zt):([AVal.agg (Zq p)].all Z6=true)∧[AVal.agg (Zq p)].map ZF=[ZX p]:=⟨by rw [List.all_cons,Zdj];rfl,by rw [List.map_cons,Zdp];rfl⟩
def Zfk (p:Zt):Zb:=Zfo (ZiJ p) (ZcF p)
theorem ZmA (hg:ZcS p) (args:List AVal) (ha:args.all Z6=true) (hn:args.map ZF=[ZX p]) (σ:Za) (site own:Nat):Zj E1 BY σ site 40 own true args=some (.tup [.lst false ((Zfk p).map Zc),.int .i64 0],σ,{}) :=
 Zbj (Zum p (ZiJ p) (ZcF p) hg.1 fun σ site own=>ZxC p h hp hg _ (ZgC p h hp p).1 (ZgC p h hp p).2 σ site own) (by kernel_rfl) ha hn rfl (fun _=>rfl) σ site own
theorem ZnL (hg:¬ZcS p) (args:List AVal) (ha:args.all Z6=true) (hn:args.map ZF=[ZX p]) (σ:Za) (site own:Nat):Zj E1 BY σ site 40 own true args=some (.tup [.lst false [],.int .i64 129],σ,{}) :=
 Zbj (ZBW p fun σ site own=>ZzN p h hp hg _ (ZgC p h hp p).1 (ZgC p h hp p).2 σ site own) (by kernel_rfl) ha hn rfl (fun _=>rfl) σ site own
end
end Go.Proofs.YtmlkhhidifjjfaaDoor
namespace Go.Proofs.YtmlkhhidifjjfaaDoor
set_option maxHeartbeats 4000000
end Go.Proofs.YtmlkhhidifjjfaaDoor
namespace Go.Proofs.YtmlkhhidifjjfaaDoor
def Zpp:Zf:=(.seq (.region [oI 1 (.box (.t 0)),oI 2 (.alloc [(.int .i64 0),(.bool false),(.int .i64 0),(.bool false),(.int .i64 0),(.str []),(.lst true []),(.int .i64 0),(.lst true []),(.lst true []),(.lst true []),(.lst true []),(.bool false),(.int .i64 0),(.str []),(.bool false),(.str []),(.lst true []),(.int .i64 0),(.bool false),(.lst true []),(.bool false),(.str []),(.bool false),(.lst true []),(.bool false)])] none [2,1]) (.seq (.seq (.region [oI 3 (.faddr 10 (.t 1)),oI 4 (.ld none (.t 3)),oI 5 (.len (.t 4)),oI 6 (.bin .gtr (.t 5) (.c (.int .i64 8)))] none [6,2,1]) (.cond (.t 6) (.region [oI 7 (.faddr 10 (.t 1)),oI 8 (.ld none (.t 7)),oI 9 (.slice 6 (.t 8) none (some (.c (.int .i64 8))) none),oI 10 (.faddr 10 (.t 1)),oN (.st 1 (.t 10) (.t 9))] none [2,1]) .skip)) (.seq (.seq (.region [oI 11 (.faddr 11 (.t 1)),oI 12 (.ld none (.t 11)),oI 13 (.len (.t 12)),oI 14 (.bin .gtr (.t 13) (.c (.int .i64 8)))] none [14,2,1]) (.cond (.t 14) (.region [oI 15 (.faddr 11 (.t 1)),oI 16 (.ld none (.t 15)),oI 17 (.slice 1 (.t 16) none (some (.c (.int .i64 8))) none),oI 18 (.faddr 11 (.t 1)),oN (.st 1 (.t 18) (.t 17))] none [2,1]) .skip)) (.seq (.seq (.region [oI 19 (.faddr 8 (.t 1)),oI 20 (.ld none (.t 19)),oI 21 (.len (.t 20)),oI 22 (.bin .gtr (.t 21) (.c (.int .i64 8)))] none [22,2,1]) (.cond (.t 22) (.region [oI 23 (.faddr 8 (.t 1)),oI 24 (.ld none (.t 23)),oI 25 (.slice 1 (.t 24) none (some (.c (.int .i64 8))) none),oI 26 (.faddr 8 (.t 1)),oN (.st 1 (.t 26) (.t 25))] none [2,1]) .skip)) (.seq (.seq (.region [oI 27 (.faddr 9 (.t 1)),oI 28 (.ld none (.t 27)),oI 29 (.len (.t 28)),oI 30 (.bin .gtr (.t 29) (.c (.int .i64 12)))] none [30,2,1]) (.cond (.t 30) (.region [oI 31 (.faddr 9 (.t 1)),oI 32 (.ld none (.t 31)),oI 33 (.slice 5 (.t 32) none (some (.c (.int .i64 12))) none),oI 34 (.faddr 9 (.t 1)),oN (.st 1 (.t 34) (.t 33))] none [2,1]) .skip)) (.seq (.seq (.region [oI 35 (.faddr 16 (.t 1)),oI 36 (.faddr 4 (.t 35)),oI 37 (.ld none (.t 36)),oI 38 (.len (.t 37)),oI 39 (.bin .gtr (.t 38) (.c (.int .i64 12)))] none [39,2,1]) (.cond (.t 39) (.region [oI 40 (.faddr 16 (.t 1)),oI 41 (.faddr 4 (.t 40)),oI 42 (.ld none (.t 41)),oI 43 (.slice 5 (.t 42) none (some (.c (.int .i64 12))) none),oI 44 (.faddr 16 (.t 1)),oI 45 (.faddr 4 (.t 44)),oN (.st 1 (.t 45) (.t 43))] none [2,1]) .skip)) (.seq (.region [oI 46 (.faddr 6 (.t 1)),oI 47 (.ld none (.t 46)),oI 48 (.call 18 0 true [(.t 47),(.c (.int .i64 600))]),oI 49 (.faddr 24 (.t 1)),oI 50 (.ld none (.t 49)),oI 51 (.call 18 0 true [(.t 50),(.c (.int .i64 100))]),oI 52 (.faddr 16 (.t 1)),oI 53 (.faddr 1 (.t 52)),oI 54 (.ld none (.t 53)),oI 55 (.call 18 0 true [(.t 54),(.c (.int .i64 100))]),oI 56 (.faddr 6 (.t 1)),oN (.st 1 (.t 56) (.t 48)),oI 57 (.faddr 24 (.t 1)),oN (.st 1 (.t 57) (.t 51)),oI 58 (.faddr 16 (.t 1)),oI 59 (.faddr 1 (.t 58)),oN (.st 1 (.t 59) (.t 55))] (some [(1,4),(2,4),(1,8),(2,8),(4,8),(5,8)]) [2,1]) (.seq (.region [oI 60 (.ld (some 26) (.t 1)),oN (.st 26 (.t 2) (.t 60))] none [2]) .ret))))))))
def ZoW:ZD:=⟨[(.cell 2 (some 26))],Zpp⟩
theorem ZCb:FC 37=some ZoW:=by kernel_rfl
theorem ZGD:ZoW.body=Zpp:=rfl
theorem ZKt:ZoW.res=[(.cell 2 (some 26))]:=rfl
def Zg6:Zf:=(.seq (.region [oI 2 (.box (.t 0)),oI 3 (.box (.t 1)),oI 4 (.mov (.c (.bool false)))] none [3,2]) (.seq (.region [oI 9 (.ld (some 26) (.t 2)),oI 10 (.call 37 0 true [(.t 9)]),oI 11 (.ld (some 26) (.t 3)),oI 12 (.call 37 0 true [(.t 11)]),oN (.st 26 (.t 2) (.t 10)),oN (.st 26 (.t 3) (.t 12))] (some [(0,2),(1,2),(3,3)]) [3,2]) (.seq (.region [oI 14 (.ld (some 26) (.t 2)),oI 15 (.call 40 0 true [(.t 14)]),oI 13 (.mov (.t 15)),oI 16 (.ext (.t 13) 0),oI 17 (.ext (.t 13) 1),oI 5 (.mov (.t 16)),oI 6 (.mov (.t 17))] none [6,5,3,2]) (.seq (.region [oI 19 (.ld (some 26) (.t 3)),oI 20 (.call 40 0 true [(.t 19)]),oI 18 (.mov (.t 20)),oI 21 (.ext (.t 18) 0),oI 22 (.ext (.t 18) 1),oI 7 (.mov (.t 21)),oI 8 (.mov (.t 22))] none [8,7,6,5,3,2]) (.seq (.seq (.region [oI 23 (.mov (.t 6)),oI 24 (.call 33 0 true [(.t 23)]),oI 25 (.bin .neq (.t 24) (.c (.int .i64 0))),oI 26 (.mov (.t 25)),⟨(some 27),(.mov (.t 8)),(some (26,false)),[]⟩,⟨(some 28),(.call 33 0 true [(.t 27)]),(some (26,false)),[]⟩,⟨(some 29),(.bin .neq (.t 28) (.c (.int .i64 0))),(some (26,false)),[]⟩,oI 30 (.pick (.t 26) (.c (.bool true)) (.t 29))] none [30,7,5,3,2]) (.cond (.t 30) (.seq (.region [oI 31 (.call 38 0 true []),oI 4 (.mov (.t 31))] none [4]) .ret) .skip)) (.seq (.region [oI 32 (.mov (.t 5)),oI 33 (.mov (.t 7)),oI 34 (.call 15 0 true [(.t 32),(.t 33)]),oI 35 (.ld (some 26) (.t 2)),oI 36 (.ld (some 26) (.t 3)),oI 37 (.call 35 0 true [(.t 35),(.t 36)]),oI 38 (.beq false (.t 34) (.t 37)),oI 39 (.mov (.t 38)),⟨(some 40),(.call 38 0 true []),(some (39,true)),[]⟩,oI 41 (.pick (.t 39) (.t 40) (.c (.bool false))),oI 4 (.mov (.t 41))] (some [(2,3),(2,4),(3,4),(5,5),(8,8)]) [4]) .ret))))))
def Zm8:ZD:=⟨[(.tmp 4)],Zg6⟩
theorem Zjy:FC 8=some Zm8:=by kernel_rfl
theorem ZkY:Zm8.body=Zg6:=rfl
theorem Zjd:Zm8.res=[(.tmp 4)]:=rfl
def ZoI:Zf:=(.seq (.region [oI 2 (.mov (.c (.int .i64 0)))] none [0]) (.seq (.region [oI 3 (.mov (.t 0)),oI 2 (.mov (.t 3))] none [2]) .ret))
def Zn3:ZD:=⟨[(.tmp 2)],ZoI⟩
theorem ZAJ:FC 33=some Zn3:=by kernel_rfl
theorem ZGX:Zn3.body=ZoI:=rfl
theorem ZI4:Zn3.res=[(.tmp 2)]:=rfl
def ZnP:Zf:=(.seq (.region [oI 0 (.mov (.c (.bool false)))] none []) (.seq (.region [oI 6 (.build [(.int .i64 0),(.bool false),(.int .i64 0),(.bool false),(.int .i64 0),(.str []),(.lst true []),(.int .i64 0),(.lst true []),(.lst true []),(.lst true []),(.lst true []),(.bool false),(.int .i64 0),(.str []),(.bool false),(.str []),(.lst true []),(.int .i64 0),(.bool false),(.lst true []),(.bool false),(.str []),(.bool false),(.lst true []),(.bool false)] [(0,1,(.c (.int .i64 4))),(4,1,(.c (.int .i64 7))),(7,1,(.c (.int .i64 16)))]),oI 7 (.call 40 0 true [(.t 6)]),oI 5 (.mov (.t 7)),oI 8 (.ext (.t 5) 0),oI 9 (.ext (.t 5) 1),oI 1 (.mov (.t 8)),oI 2 (.mov (.t 9))] none [2,1]) (.seq (.region [oI 11 (.bslice false 1 7 (.int .u8 0) [(0,(.c (.int .u8 0))),(1,(.c (.int .u8 1))),(2,(.c (.int .u8 97))),(3,(.c (.int .u8 0))),(4,(.c (.int .u8 1))),(5,(.c (.int .u8 0))),(6,(.c (.int .u8 120)))]),oI 12 (.build [(.int .u8 0),(.lst true [])] [(0,1,(.c (.int .u8 50))),(1,1,(.t 11))]),oI 13 (.call 32 0 true [(.t 12)]),oI 10 (.mov (.t 13)),oI 14 (.ext (.t 10) 0),oI 15 (.ext (.t 10) 1),oI 3 (.alloc [(.int .i64 0),(.bool false),(.int .i64 0),(.bool false),(.int .i64 0),(.str []),(.lst true []),(.int .i64 0),(.lst true []),(.lst true []),(.lst true []),(.lst true []),(.bool false),(.int .i64 0),(.str []),(.bool false),(.str []),(.lst true []),(.int .i64 0),(.bool false),(.lst true []),(.bool false),(.str []),(.bool false),(.lst true []),(.bool false)]),oN (.st 26 (.t 3) (.t 14)),oI 4 (.mov (.t 15))] none [4,3,2,1]) (.seq (.region [oI 16 (.mov (.t 2)),oI 17 (.call 33 0 true [(.t 16)]),oI 18 (.bin .eql (.t 17) (.c (.int .i64 0))),oI 19 (.mov (.t 18)),⟨(some 20),(.mov (.t 1)),(some (19,true)),[]⟩,⟨(some 21),(.bslice false 1 5 (.int .u8 0) [(0,(.c (.int .u8 64))),(1,(.c (.int .u8 3))),(2,(.c (.int .u8 0))),(3,(.c (.int .u8 7))),(4,(.c (.int .u8 16)))]),(some (19,true)),[]⟩,⟨(some 22),(.call 15 0 true [(.t 20),(.t 21)]),(some (19,true)),[]⟩,oI 23 (.pick (.t 19) (.t 22) (.c (.bool false))),oI 24 (.mov (.t 23)),⟨(some 25),(.mov (.t 4)),(some (24,true)),[]⟩,⟨(some 26),(.call 33 0 true [(.t 25)]),(some (24,true)),[]⟩,⟨(some 27),(.bin .eql (.t 26) (.c (.int .i64 0))),(some (24,true)),[]⟩,oI 28 (.pick (.t 24) (.t 27) (.c (.bool false))),oI 29 (.mov (.t 28)),⟨(some 30),(.faddr 5 (.t 3)),(some (29,true)),[]⟩,⟨(some 31),(.ld none (.t 30)),(some (29,true)),[]⟩,⟨(some 32),(.bin .eql (.t 31) (.c (.str [97]))),(some (29,true)),[]⟩,oI 33 (.pick (.t 29) (.t 32) (.c (.bool false))),oI 34 (.mov (.t 33)),⟨(some 35),(.faddr 2 (.t 3)),(some (34,true)),[]⟩,⟨(some 36),(.ld none (.t 35)),(some (34,true)),[]⟩,⟨(some 37),(.bin .eql (.t 36) (.c (.int .i64 1))),(some (34,true)),[]⟩,oI 38 (.pick (.t 34) (.t 37) (.c (.bool false))),oI 39 (.mov (.t 38)),⟨(some 40),(.faddr 4 (.t 3)),(some (39,true)),[]⟩,⟨(some 41),(.ld none (.t 40)),(some (39,true)),[]⟩,⟨(some 42),(.bin .eql (.t 41) (.c (.int .i64 1))),(some (39,true)),[]⟩,oI 43 (.pick (.t 39) (.t 42) (.c (.bool false))),oI 44 (.mov (.t 43)),⟨(some 45),(.faddr 6 (.t 3)),(some (44,true)),[]⟩,⟨(some 46),(.ld none (.t 45)),(some (44,true)),[]⟩,⟨(some 47),(.b2s (.t 46)),(some (44,true)),[]⟩,⟨(some 48),(.bin .eql (.t 47) (.c (.str [120]))),(some (44,true)),[]⟩,oI 49 (.pick (.t 44) (.t 48) (.c (.bool false))),oI 0 (.mov (.t 49))] none [0]) .ret))))
def Zmf:ZD:=⟨[(.tmp 0)],ZnP⟩
theorem ZyA:FC 38=some Zmf:=by kernel_rfl
theorem ZF1:Zmf.body=ZnP:=rfl
theorem ZCd:Zmf.res=[(.tmp 0)]:=rfl
end Go.Proofs.YtmlkhhidifjjfaaDoor
namespace Go.Proofs.YtmlkhhidifjjfaaDoor
set_option maxHeartbeats 16000000
set_option maxRecDepth 10000
theorem ZCk (a b:Zb):E 15 [ZI a,ZI b] []=some (.bool (a == b),[]):=by
 rw [Zh (by rfl) ZEM]
 simp -implicitDefEqProofs only [EQA,Nat.reduceLT,Nat.reduceEqDiff,ZeU,reduceCtorEq,Z2,↓reduceIte,Zx3,Zn4,ZEw,oI,ZI]
theorem Zri (σ:Za) (site own:Nat) (f g:Bool) (a b:Zb):Zj E BY σ site 15 own true [.lst f (a.map Zc),.lst g (b.map Zc)]=some (.bool (a == b),σ,{}) :=
 Zbj (ZCk a b) (by kernel_rfl) rfl rfl rfl (fun _=>rfl) σ site own
theorem ZHk (e:Int):E 33 [.int .i64 e] []=some (.int .i64 e,[]):=by
 rw [Zh (by rfl) ZAJ]
 simp -implicitDefEqProofs only [EQA,Nat.reduceLT,Nat.reduceEqDiff,reduceCtorEq,↓reduceIte,ZGX,ZoI,ZI4,oI]
theorem ZrA (σ:Za) (site own:Nat) (view:Bool) (e:Int):Zj E BY σ site 33 own view [.int .i64 e]=some (.int .i64 e,σ,{}) :=
 Zcd (ZHk e) (by kernel_rfl) (by simp -implicitDefEqProofs only [Zcv,Zbh,eq_self]) (by simp -implicitDefEqProofs only [ZC,Zbh,eq_self]) rfl (fun _=>rfl) _ _ _ _
def p7:Zt:={ ZaF with type:=4,id:=7,code:=16 }
def b7:Zb:=[0,7,16]
theorem ZAa:OkW p7:=by
 refine ⟨?_,?_,?_,?_,?_,?_,?_,?_,?_,?_,?_,?_⟩ <;> simp [p7,ZaF]
theorem ZDb:E1 78 [.ref 0 0,ZX p7] [.var wn]=some (.tup [],wH 0 b7):=by
 have h:=Zre p7 ZAa (Or.inl rfl)
 have e:beB (ZN p7.id) 2++ZbF p7=b7:=by
  unfold ZbF
  rw [if_pos (Or.inl (by decide)),if_neg (by simp [p7,ZaF])]
  decide
 rw [e] at h;exact h
def Q7:List AVal:=Zdt ((P0.set 0 (.int .i64 4)).set 4 (.int .i64 7)) 16 none
theorem ZxR:E1 32 [.agg [.int .u8 64,.lst false (b7.map Zc)]] []=some (.tup [.agg Q7,.int .i64 0],[]):=by
 have hi:idK b7=.ok (7,[16]):=by kernel_rfl
 have hr:Zct 4 [16]=.ok ((16,none),[]):=by kernel_rfl
 have hf:=Zp9 P0 rfl (by rfl) 64 4 b7 (by decide) (by decide) (by decide) (by decide)
 have hb:=Ztk (P0.set 0 (.int .i64 4)) (by rfl) (by rfl) 4 (Or.inl rfl) rfl rfl rfl (fun r _=>Zc1 4 r) b7 (by decide) hi hr
 rw [Zfw]
 exact ZpS 64 b7 (by rfl) (by rfl) rfl (by rfl) (by rfl) rfl hf hb
theorem ZIo (σ:Za) (site own:Nat):Zj E1 BY σ site 32 own true [.agg [.int .u8 64,.lst false (b7.map Zc)]]=some (.tup [ZX p7,.int .i64 0],σ,{}) :=
 Zrx ZxR (fun σ=>rfl) false σ site own
theorem ZHK:E1 34 [ZX p7] []=some (Zeg 64 b7 0 true,[]):=by
 have hf:ZbY p7=64:=by decide
 have hs:ZcM p7 p7=true:=(Zpe _ _).2 rfl
 have:=ZpZ p7 p7 0 b7 ZDb (by decide) (fun σ site own=>by rw [hf];exact ZIo σ site own) ⟨by decide,by decide,by decide,by decide,by decide⟩
 rw [hf,hs] at this
 exact this
theorem ZHC:E1 40 [ZX p7] []=some (.tup [.lst false ((Zfo 64 b7).map Zc),.int .i64 0],[]) :=
 Zum p7 64 b7 (by decide) fun σ site own=>Zu1 (x:=64) ZHK (by decide) (by rw [List.all_cons,Zdj];rfl) (by rw [List.map_cons,Zdp];rfl) σ site own
def b50:Zb:=[0,1,97,0,1,0,120]
def p50:Zt:={ ZaF with type:=3,qos:=1,id:=1,topic:=[97],payload:=[120] }
theorem ZEe:Zft 50 b50=(p50,0):=by kernel_rfl
theorem ZvS:E1 38 [] []=some (.bool true,[]):=by
 have h1:=fun (args:List AVal) (hp:args.all Z6=true) (hn:args.map ZF=[ZX p7]) σ site own=>Zbj (byref:=BY) (args:=args) ZHC (by kernel_rfl) hp hn rfl (fun _=>rfl) σ site own
 have h2:∀ (σ:Za) (site own:Nat) (f:Bool),Zj E1 BY σ site 32 own true [.agg [.int .u8 50,.lst f [.int .u8 0,.int .u8 1,.int .u8 97,.int .u8 0,.int .u8 1,.int .u8 0,.int .u8 120]]]=some (.tup [.agg [.int .i64 3,.bool false,.int .i64 1,.bool false,.int .i64 1,.str [97],.lst false [.int .u8 120],.int .i64 0,.lst false [],.lst false [],.lst false [],.lst false [],.bool false,.int .i64 0,.str [],.bool false,.str [],.lst false [],.int .i64 0,.bool false,.lst false [],.bool false,.str [],.bool false,.lst false [],.bool false],.int .i64 0],σ,{}):=fun σ site own f=>by
  have:=ZF3 50 (by decide) b50 (by decide) f σ site own
  rw [ZEe] at this
  exact this
 have h3:=fun σ site own f g a b=>Zbv (Zri σ site own f g a b)
 have h4:=fun σ site own e=>Zbv (ZrA σ site own true e)
 have h5:=h1 [.agg [.int .i64 4,.bool false,.int .i64 0,.bool false,.int .i64 7,.str [],.lst true [],.int .i64 16,.lst true [],.lst true [],.lst true [],.lst true [],.bool false,.int .i64 0,.str [],.bool false,.str [],.lst true [],.int .i64 0,.bool false,.lst true [],.bool false,.str [],.bool false,.lst true [],.bool false]] rfl rfl
 have h6:∀ (σ:Za) (site own:Nat) (f g:Bool),Zj E1 BY σ site 15 own true [.lst f ((Zfo 64 b7).map Zc),.lst g [.int .u8 64,.int .u8 3,.int .u8 0,.int .u8 7,.int .u8 16]]=some (.bool true,σ,{}):=fun σ site own f g=>by
  have:=h3 σ site own f g (Zfo 64 b7) [64,3,0,7,16]
  rw [show (Zfo 64 b7 == [64,3,0,7,16])=true from by decide] at this
  exact this
 have hb:bytesOf [AVal.int .u8 120]=some [120]:=by rfl
 clear h1 h3
 rw [Zbb (by rfl) ZyA]
 simp -implicitDefEqProofs only [EQA,Za6,Zcy,Nat.reduceAdd,Nat.reduceLT,Nat.reduceLeDiff,Nat.reduceEqDiff,Nat.reduceBEq,ZeU,ZE,unG,ne_eq,Option.some.injEq,reduceCtorEq,decide_true,decide_false,Z2,↓reduceIte,ZB,Zz,ZM,ZF1,ZnP,ZCd,oI,oN,AVal.cells,Zan,h2,h4,h5,h6,hb,viewAs,ZQ,ZK,Zp,List.foldl_cons,List.foldl_nil,ZV]
theorem ZvX (σ:Za) (site own:Nat) (view:Bool):Zj E1 BY σ site 38 own view []=some (.bool true,σ,{}) :=
 Zcd ZvS (by kernel_rfl) rfl rfl rfl (fun _=>rfl) _ _ _ _
end Go.Proofs.YtmlkhhidifjjfaaDoor
namespace Go.Proofs.YtmlkhhidifjjfaaDoor
open Go.RowKit
def ZfN (P:Program):Nat→TypeId→Bool
 | 0,_=>true
 | n+1,t=>match P.underlying t with
  | some (.slice e)=>decide (1≤P.bytesOf e) && ZfN P n e
  | some (.struct fs)=>fs.toList.all fun f=>ZfN P n f.type
  | _=>true
mutual
def TyR (R:Nat):Ty→List AVal→Prop
 | .bool,xs=>∃ b,xs=[.bool b]
 | .int k,xs=>∃ n,(Lit.int k n).wf=true∧xs=[.int k n]
 | .str,xs=>∃ l:List UInt8,l.length≤R∧xs=[.str l]
 | .slice s e,xs=>∃ ys:List (List AVal),xs=[.lst false (ys.map (ZbZ s))]∧ys.length≤R∧∀ y ∈ ys,TyR R e y
 | .struct fs,xs=>ZeP R fs xs
def ZeP (R:Nat):List Ty→List AVal→Prop
 | [],xs=>xs=[]
 | f::fs,xs=>∃ a b,xs=a++b∧TyR R f a∧ZeP R fs b
end
section
variable {H:Type} {enc:TypeId×Value→H} {P:Program} {w:World} {spare:Nat→Bool} {held:Bool} {R:Nat}
theorem ZsW {d:DataW H} {e:TypeId} {n:Nat}:∀ {l:List (DataW H)},d ∈ l→n ∈ d.weights P e→n ∈ DataW.weightsAll P e l
 | x::l,h,hn=>by
  simp only [DataW.weightsAll,List.mem_append]
  rcases List.mem_cons.1 h with rfl | h
  ·exact Or.inl hn
  ·exact Or.inr (ZsW h hn)
theorem ZCe {t e:TypeId} {l m:List (DataW H)} {d:DataW H} (hu:P.underlying t=some (.slice e)) (hd:d ∈ l) {n:Nat} (hn:n ∈ d.weights P e):n ∈ (DataW.slice l m).weights P t:=by
 simp only [DataW.weights,hu,List.mem_cons,List.mem_append]
 exact Or.inr (Or.inl (ZsW hd hn))
theorem Zup {n fuel:Nat} {cs:List Value} (ih:∀ (t:TypeId) (cs:List Value) (x:DataW H×List MemPlace) (T:Ty),ZcX P n t=some T→ZfN P n t=true→(∀ m ∈ x.1.weights P t,m≤R)→DataW.trod enc P w 0 spare held fuel t cs=some x→∃ xs,TyR R T xs∧VRs (Imm.of w) B0 xs cs∧ZaB xs=true) :
  ∀ (fs:List Field) (at':Nat) (Ts:List Ty) (ys:List (DataW H×List MemPlace)),(fs.all fun f=>ZfN P n f.type)=true→(∀ m ∈ DataW.weightsEach P (fs.map (·.type)) (ys.map (·.1)),m≤R)→Zis P at' fs cs.length=true→fs.mapM (fun f=>ZcX P n f.type)=some Ts →
   fs.mapM (fun f=>DataW.trod enc P w 0 spare held fuel f.type ((cs.drop f.offset).take (P.cellsOf f.type)))=some ys→∃ xs,ZeP R Ts xs∧VRs (Imm.of w) B0 xs (cs.drop at')∧ZaB xs=true
 | [],at',Ts,ys,_,_,ho,hT,_=>by
  simp only [Zis,beq_iff_eq] at ho
  simp only [List.mapM_nil,Option.pure_def,Option.some.injEq] at hT
  subst hT ho
  exact ⟨[],by simp only [ZeP],by simp [VRs],rfl⟩
 | f::fs,at',Ts,ys,hby,hwt,ho,hT,h=>by
  simp only [Zis,Bool.and_eq_true,beq_iff_eq] at ho
  obtain ⟨T,Ts',h1,h2,rfl⟩:=ZuS hT
  obtain ⟨y,ys',h3,h4,rfl⟩:=ZuS h
  simp only [List.all_cons,Bool.and_eq_true] at hby
  simp only [List.map_cons,DataW.weightsEach,List.mem_append] at hwt
  obtain ⟨a,a1,a2,a3⟩:=ih _ _ _ _ h1 hby.1 (fun m hm=>hwt m (Or.inl hm)) h3
  obtain ⟨b,b1,b2,b3⟩:=Zup ih fs _ _ _ hby.2 (fun m hm=>hwt m (Or.inr hm)) ho.2 h2 h4
  rw [ho.1] at a2
  refine ⟨a++b,by simp only [ZeP];exact ⟨a,b,rfl,a1,b1⟩,ZwU a2 (by rw [List.drop_drop];exact b2),ZDl a3 b3⟩
theorem ZrW {n:Nat} {e:TypeId} {T:Ty} (hT:ZcX P n e=some T) (hs:Zde (P.underlying e)=false) {xs:List AVal} (h:TyR R T xs):xs.length=1:=by
 cases n with
 | zero=>simp [ZcX] at hT
 | succ n =>
  simp only [ZcX] at hT
  split at hT
  ·injection hT with hT;subst hT;simp only [TyR] at h;obtain ⟨_,rfl⟩:=h;rfl
  ·injection hT with hT;subst hT;simp only [TyR] at h;obtain ⟨_,_,rfl⟩:=h;rfl
  ·injection hT with hT;subst hT;simp only [TyR] at h;obtain ⟨_,_,rfl⟩:=h;rfl
  ·split at hT
   ·simp only [Option.map_eq_some_iff] at hT
    obtain ⟨T',_,rfl⟩:=hT
    simp only [TyR] at h;obtain ⟨_,rfl,_⟩:=h;rfl
   ·cases hT
  ·rename_i hu;rw [hu] at hs;simp [Zde] at hs
  ·cases hT
theorem ZpO:∀ (n fuel:Nat) (t:TypeId) (cs:List Value) (x:DataW H×List MemPlace) (T:Ty),ZcX P n t=some T→ZfN P n t=true→(∀ m ∈ x.1.weights P t,m≤R)→DataW.trod enc P w 0 spare held fuel t cs=some x →
  ∃ xs,TyR R T xs∧VRs (Imm.of w) B0 xs cs∧ZaB xs=true
 | 0,fuel,t,cs,x,T,hT,_,_,_=>by simp [ZcX] at hT
 | n+1,0,t,cs,x,T,_,_,_,h=>by simp [DataW.trod] at h
 | n+1,fuel+1,t,cs,x,T,hT,hby,hwt,h=>by
  have h0:=h
  simp only [ZcX] at hT
  unfold DataW.trod at h
  split at hT
  ·rename_i hu
   injection hT with hT;subst hT
   obtain ⟨b,rfl,_⟩:=DataW.trod_bool hu h0
   exact ⟨[.bool b],by simp only [TyR];exact ⟨b,rfl⟩,by simp [VRs,VR],rfl⟩
  ·rename_i k hu
   injection hT with hT;subst hT
   obtain ⟨n',rfl,_,hk⟩:=DataW.trod_int hu h0
   exact ⟨[.int k n'],by simp only [TyR];exact ⟨n',hk,rfl⟩,by simp [VRs,VR],rfl⟩
  ·rename_i hu
   injection hT with hT;subst hT
   obtain ⟨s,rfl,hx,hs⟩:=DataW.trod_string hu h0
   have hs':s.data.toList.length≤9223372036854775807:=by
    rw [Array.length_toList];exact Nat.le_trans hs (by simp [maxLen])
   have hR:s.data.toList.length≤R:=by
    subst hx
    exact hwt _ (by simp [DataW.weights])
   exact ⟨[.str s.data.toList],by simp only [TyR];exact ⟨_,hR,rfl⟩,by simp only [VRs,VR];exact ⟨_,_,rfl,⟨by simp,hs'⟩,rfl⟩,rfl⟩
  ·rename_i e hu
   split at hT
   case isFalse=>cases hT
   rename_i hc
   simp only [Option.map_eq_some_iff] at hT
   obtain ⟨T,hT,rfl⟩:=hT
   rcases Go.Deep.open_slice hu h0 with ⟨hcs,_⟩ | ⟨a,len,cap,m,n',D,Pl,hcs,_,hl,hm,hmm,hx,hi⟩
   ·subst hcs
    exact ⟨[.lst false []],by simp only [TyR];exact ⟨[],by simp,by simp,by simp⟩,by simp only [VRs,VR];exact ⟨_,_,rfl,⟨none,0,rfl,by simp,by simp,by simp,by simp,by simp [Z5]⟩,rfl⟩,rfl⟩
   ·have hlm:len≤m:=by split at hmm <;> omega
    unfold ZfN at hby
    rw [hu] at hby
    simp only [Bool.and_eq_true,decide_eq_true_eq] at hby
    have hlR:len≤R:=by
     have:=hwt _ (by rw [hx];simp only [DataW.weights,hu];exact List.mem_cons_self ..)
     simp only [List.length_map,List.length_range] at this
     have h1:=Nat.le_mul_of_pos_right (len+(m - len)) hby.1
     omega
    have hspot:0 < len→a.spot=none:=by
     intro h0
     obtain ⟨cs',h1,h2⟩:=hi 0 (by omega)
     obtain ⟨_,h6,h7⟩:=World.cells?_some h1
     have h8:=h7 0 hc
     obtain ⟨u,hu⟩:∃ u,cs'[0]?=some u:=⟨cs'[0]'(by omega),by simp⟩
     rw [hu] at h8
     simp only [Nat.zero_mul,Addr.add,if_true] at h8
     exact ZLV (b:=a.block) (off:=a.off) (s:=a.spot) (u:=u) h8
    have hall:∀ i,∃ xs,i < len→TyR R T xs∧(ZbZ (Zde (P.underlying e)) xs).cells=xs∧xs.length=P.cellsOf e∧CR (Imm.of w) B0 xs a.block (a.off+i*P.cellsOf e)∧ZaB xs=true:=by
     intro i
     by_cases hlt:i < len
     ·obtain ⟨cs',h1,h2⟩:=hi i (by omega)
      obtain ⟨xs,h3,h4,h5⟩:=ZpO n n' e cs' _ T hT hby.2 (fun q hq=>hwt q (by rw [hx];exact ZCe hu (List.mem_map.2 ⟨i,List.mem_range.2 hlt,rfl⟩) hq)) h2
      obtain ⟨_,h6,h7⟩:=World.cells?_some h1
      have hlen:=ZaQ h4
      refine ⟨xs,fun _=>⟨h3,ZwD (fun hs=>ZrW hT hs h3) (fun _=>ZtL h5),by omega,ZsZ xs cs' _ h4 (fun j hj=>?_),h5⟩⟩
      have h8:=h7 j (by omega)
      rw [Go.Deep.add_add,ZBD (hspot (by omega)),←Nat.add_assoc] at h8
      exact h8
     ·exact ⟨[],fun h=>absurd h hlt⟩
    obtain ⟨Y,hY⟩:=Classical.axiomOfChoice hall
    subst hcs
    have hmx:maxLen=9223372036854775807:=by simp [maxLen]
    rw [hmx] at hm
    refine ⟨[.lst false ((List.range len).map fun i=>ZbZ (Zde (P.underlying e)) (Y i))],?_,?_,?_⟩
    ·simp only [TyR]
     refine ⟨(List.range len).map Y,by rw [List.map_map];rfl,by simpa using hlR,?_⟩
     intro y hy
     obtain ⟨i,hi',rfl⟩:=List.mem_map.1 hy
     exact (hY i (List.mem_range.1 hi')).1
    ·simp only [VRs,VR,List.length_map,List.length_range]
     refine ⟨_,_,rfl,⟨some a,cap,rfl,hl,hm,by simp,?_,ZmR len Y fun i hlt=>by rw [(hY i hlt).2.1];exact (hY i hlt).2.2.2.2⟩,rfl⟩
     cases len with
     | zero=>exact Or.inl (by simp)
     | succ len =>
      refine Or.inr ⟨a.block,a.off,P.cellsOf e,?_,hc,Zty (len+1) a.off Y fun i hlt=>?_⟩
      ·have:=hspot (by omega)
       cases a;simp_all
      ·rw [(hY i hlt).2.1];exact ⟨(hY i hlt).2.2.1,(hY i hlt).2.2.2.1⟩
    ·simp only [ZaB,ZaI,Bool.and_true]
     exact ZmR len Y fun i hlt=>by rw [(hY i hlt).2.1];exact (hY i hlt).2.2.2.2
  ·rename_i fs hu
   split at hT
   case isFalse=>cases hT
   rename_i ho
   simp only [Option.map_eq_some_iff] at hT
   obtain ⟨Ts,hT,rfl⟩:=hT
   rw [hu] at h
   simp only at h
   split at h
   ·rename_i hl
    simp only [Option.map_eq_some_iff] at h
    obtain ⟨ys,hy,rfl⟩:=h
    unfold ZfN at hby
    rw [hu] at hby
    simp only [DataW.weights,hu] at hwt
    obtain ⟨xs,h1,h2,h3⟩:=Zup (fun t cs x T h h1 h2 h'=>ZpO n fuel t cs x T h h1 h2 h') fs.toList 0 Ts ys hby hwt (by rw [hl];exact ho) hT hy
    exact ⟨xs,by simp only [TyR];exact h1,h2,h3⟩
   ·cases h
  ·cases hT
def Zra (R:Nat) (s:Bool) (T:Ty) (x:AVal):Prop:=∃ xs,TyR R T xs∧x=ZbZ s xs
theorem ZtG {n:Nat} {t:TypeId} {v:Value} {d:DataW H} {ps:List MemPlace} {T:Ty} {r:Reach} {b0:Nat} (hT:ZcX P n t=some T) (hby:ZfN P n t=true) (hwt:∀ m ∈ d.weights P t,m≤R) (hv:Value.okWide P w r b0 t v) (h:DataW.Trod enc P w 0 spare held t v d ps) :
  ∃ x,Zra R (Zde (P.underlying t)) T x∧VR (Imm.of w) B0 x v∧ZaB x.cells=true:=by
 obtain ⟨fuel,h⟩:=h
 obtain ⟨xs,h1,h2,h3⟩:=ZpO n fuel t _ _ T hT hby hwt h
 refine ⟨ZbZ (Zde (P.underlying t)) xs,⟨xs,h1,rfl⟩,?_⟩
 by_cases hs:Zde (P.underlying t)=true
 ·have : ∃ cs,v=.agg cs:=by
   unfold Value.okWide at hv
   cases hu:P.underlying t with
   | none=>rw [hu] at hs;simp [Zde] at hs
   | some dd =>
    rw [hu] at hv hs
    cases dd <;> first | (simp [Zde] at hs;done) | (obtain ⟨cs,e,_⟩:=hv;exact ⟨cs,e⟩)
  obtain ⟨cs,rfl⟩:=this
  rw [hs]
  exact ⟨by simp only [ZbZ,if_true,VR];exact ⟨cs,rfl,h2⟩,h3⟩
 ·have hs':Zde (P.underlying t)=false:=by simpa using hs
  have hl:=ZrW hT hs' h1
  have hlen:=ZaQ h2
  rw [hs']
  match xs,hl with
  | [x],_ =>
   simp only [ZbZ,Bool.false_eq_true,if_false,List.headD_cons]
   have hvc:v.cells=#[v]:=by
    cases n with
    | zero=>simp [ZcX] at hT
    | succ n =>
     simp only [ZcX] at hT
     split at hT
     ·rename_i hu;obtain ⟨b,rfl⟩:=Go.WideShapes.okWide_bool hu hv;rfl
     ·rename_i k hu;obtain ⟨b,rfl⟩:=Go.WideShapes.okWide_int hu hv;rfl
     ·rename_i hu;obtain ⟨b,rfl⟩:=Go.WideShapes.okWide_string hu hv;rfl
     ·rename_i e hu;obtain ⟨a,l,c,rfl⟩:=Go.WideShapes.okWide_slice hu hv;rfl
     ·rename_i fs hu;rw [hu] at hs';simp [Zde] at hs'
     ·cases hT
   rw [hvc] at h2
   simp only [VRs] at h2
   obtain ⟨v',vs',e,h2,_⟩:=h2
   simp only [List.cons.injEq] at e
   rw [e.1]
   refine ⟨h2,?_⟩
   have hok:=ZtL h3 x (by simp)
   have hx:x.cells=[x]:=by cases x <;> first | rfl | (simp [ZV] at hok;done)
   rw [hx];exact h3
end
end Go.Proofs.YtmlkhhidifjjfaaDoor
namespace Go.Proofs.YtmlkhhidifjjfaaDoor
open Go.RowKit
variable {R:Nat}
theorem Zir {α:Type} {T:Ty} {s:Bool} {f:α→AVal} {Q:α→Prop} (h:∀ y,TyR R T y→∃ a,Q a∧ZbZ s y=f a) {xs:List AVal} (hx:TyR R (.slice s T) xs):∃ l:List α,(l.length≤R∧∀ a ∈ l,Q a)∧xs=[.lst false (l.map f)]:=by
 simp only [TyR] at hx
 obtain ⟨ys,rfl,h1,h2⟩:=hx
 have : ∀ ys:List (List AVal),(∀ y ∈ ys,TyR R T y)→∃ l:List α,(∀ a ∈ l,Q a)∧ys.map (ZbZ s)=l.map f:=by
  intro ys
  induction ys with
  | nil=>intro _;exact ⟨[],by simp,rfl⟩
  | cons y ys ih =>
   intro hy
   obtain ⟨a,hq,ha⟩:=h y (hy y (by simp))
   obtain ⟨l,hql,hl⟩:=ih fun y' h'=>hy y' (by simp [h'])
   exact ⟨a::l,by simpa using ⟨hq,hql⟩,by simp [ha,hl]⟩
 obtain ⟨l,hq,hl⟩:=this ys h2
 refine ⟨l,⟨?_,hq⟩,by rw [hl]⟩
 have:=congrArg List.length hl
 simp only [List.length_map] at this
 omega
theorem ZDo {y:List AVal} (h:TyR R (.int .u8) y):∃ b,True∧ZbZ false y=Zc b:=by
 simp only [TyR] at h
 obtain ⟨n,hw,rfl⟩:=h
 have h1:0≤n∧n≤255:=by
  simp only [Lit.wf,Bool.and_eq_true,decide_eq_true_eq] at hw
  exact hw
 refine ⟨UInt8.ofNat n.toNat,trivial,?_⟩
 simp only [ZbZ,Bool.false_eq_true,if_false,List.headD_cons,Zc,AVal.int.injEq,true_and]
 rw [UInt8.toNat_ofNat']
 omega
theorem Zlz {xs:List AVal} (h:TyR R (.slice false (.int .u8)) xs):∃ b:Zb,b.length≤R∧xs=[ZI b]:=by
 obtain ⟨b,h1,h2⟩:=Zir (Q:=fun _=>True) (fun _=>ZDo) h
 exact ⟨b,h1.1,h2⟩
def okI (n:Int):Prop:=-9223372036854775808≤n∧n≤9223372036854775807
theorem Zdz {y:List AVal} (h:TyR R (.int .i64) y):∃ n,okI n∧y=[.int .i64 n]:=by
 simp only [TyR] at h
 obtain ⟨n,hw,rfl⟩:=h
 refine ⟨n,?_,rfl⟩
 simp only [Lit.wf,Bool.and_eq_true,decide_eq_true_eq] at hw
 exact hw
theorem Zd1 {y:List AVal} (h:TyR R .bool y):∃ b,y=[.bool b]:=by
 simp only [TyR] at h;exact h
theorem Ze5 {y:List AVal} (h:TyR R .str y):∃ l:Zb,l.length≤R∧y=[.str l]:=by
 simp only [TyR] at h;exact h
theorem ZML {xs:List AVal} (h:TyR R (.slice false .str) xs):∃ l:List Zb,(l.length≤R∧∀ x ∈ l,x.length≤R)∧xs=[.lst false (l.map AVal.str)] :=
 Zir (fun y hy=>by obtain ⟨l,h1,rfl⟩:=Ze5 hy;exact ⟨l,h1,rfl⟩) h
theorem ZzV {xs:List AVal} (h:TyR R (.slice false (.int .i64)) xs):∃ l:List Int,(l.length≤R∧∀ n ∈ l,okI n)∧xs=[.lst false (l.map (AVal.int .i64))] :=
 Zir (fun y hy=>by obtain ⟨n,h1,rfl⟩:=Zdz hy;exact ⟨n,h1,rfl⟩) h
def ZhQ:Ty:=.struct [.int .i64,.int .i64,.str,.str,.slice false (.int .u8)]
def Zmc (R:Nat) (p:Zu):Prop:=okI p.id∧okI p.num∧p.text.length≤R∧p.pair.length≤R∧p.data.length≤R
theorem ZLe {y:List AVal} (h:TyR R ZhQ y):∃ p,Zmc R p∧ZbZ true y=Zm p:=by
 unfold ZhQ at h
 rw [TyR] at h
 simp only [ZeP] at h
 obtain ⟨_,_,rfl,h1,_,_,rfl,h2,_,_,rfl,h3,_,_,rfl,h4,_,_,rfl,h5,rfl⟩:=h
 obtain ⟨i,i1,rfl⟩:=Zdz h1
 obtain ⟨n,n1,rfl⟩:=Zdz h2
 obtain ⟨t,t1,rfl⟩:=Ze5 h3
 obtain ⟨q,q1,rfl⟩:=Ze5 h4
 obtain ⟨d,d1,rfl⟩:=Zlz h5
 exact ⟨⟨i,n,t,q,d⟩,⟨i1,n1,t1,q1,d1⟩,rfl⟩
def Znk (R:Nat) (l:List Zu):Prop:=l.length≤R∧∀ p ∈ l,Zmc R p
theorem Zrv {xs:List AVal} (h:TyR R (.slice true ZhQ) xs):∃ l:List Zu,Znk R l∧xs=[Za1 l]:=Zir (fun _=>ZLe) h
def ZpV:Ty:=.struct [.str,.int .i64,.bool,.bool,.int .i64,.int .i64]
theorem ZHX {y:List AVal} (h:TyR R ZpV y):∃ p:Zbi,(p.filter.length≤R∧okI p.qos∧okI p.handling∧okI p.id)∧ZbZ true y=ZS p:=by
 unfold ZpV at h
 rw [TyR] at h
 simp only [ZeP] at h
 obtain ⟨_,_,rfl,h1,_,_,rfl,h2,_,_,rfl,h3,_,_,rfl,h4,_,_,rfl,h5,_,_,rfl,h6,rfl⟩:=h
 obtain ⟨f,f1,rfl⟩:=Ze5 h1
 obtain ⟨q,q1,rfl⟩:=Zdz h2
 obtain ⟨n,rfl⟩:=Zd1 h3
 obtain ⟨a,rfl⟩:=Zd1 h4
 obtain ⟨k,k1,rfl⟩:=Zdz h5
 obtain ⟨i,i1,rfl⟩:=Zdz h6
 exact ⟨⟨f,q,n,a,k,i⟩,⟨f1,q1,k1,i1⟩,rfl⟩
def Zub:Ty:=.struct [.str,.slice false (.int .u8),.int .i64,.bool,.slice true ZhQ]
def Zls:Ty:=.struct [.int .i64,.bool,.int .i64,.bool,.int .i64,.str,.slice false (.int .u8),.int .i64,.slice false (.int .i64),.slice true ZhQ,.slice true ZpV,.slice false .str,.bool,.int .i64,.str,.bool,Zub,.bool,.str,.bool,.slice false (.int .u8),.bool]
structure ZuY (R:Nat) (p:Zt):Prop where
 topic:p.topic.length≤R
 payload:p.payload.length≤R
 codes:p.codes.length≤R∧∀ n ∈ p.codes,okI n
 props:Znk R p.props
 subs:p.subs.length≤R∧∀ s ∈ p.subs,s.filter.length≤R∧okI s.qos∧okI s.handling∧okI s.id
 filters:p.filters.length≤R∧∀ f ∈ p.filters,f.length≤R
 client:p.client.length≤R
 wtopic:p.will.topic.length≤R
 wdata:p.will.data.length≤R
 wprops:Znk R p.will.props
 user:p.user.length≤R
 password:p.password.length≤R
 ints:okI p.type∧okI p.qos∧okI p.id∧okI p.code∧okI p.keep∧okI p.will.qos
theorem ZqF {x:AVal} (h:Zra R true Zls x):∃ p,ZuY R p∧x=ZX p:=by
 obtain ⟨y,h,rfl⟩:=h
 unfold Zls at h
 rw [TyR] at h
 simp only [ZeP] at h
 obtain ⟨_,_,rfl,h1,_,_,rfl,h2,_,_,rfl,h3,_,_,rfl,h4,_,_,rfl,h5,_,_,rfl,h6,_,_,rfl,h7,_,_,rfl,h8,_,_,rfl,h9,_,_,rfl,h10,_,_,rfl,h11,_,_,rfl,h12,_,_,rfl,h13,_,_,rfl,h14,_,_,rfl,h15,_,_,rfl,h16,_,_,rfl,h17,_,_,rfl,h18,_,_,rfl,h19,_,_,rfl,h20,_,_,rfl,h21,_,_,rfl,h22,rfl⟩:=h
 unfold Zub at h17
 rw [TyR] at h17
 simp only [ZeP] at h17
 obtain ⟨_,_,rfl,w1,_,_,rfl,w2,_,_,rfl,w3,_,_,rfl,w4,_,_,rfl,w5,rfl⟩:=h17
 obtain ⟨a1,b1,rfl⟩:=Zdz h1
 obtain ⟨a2,rfl⟩:=Zd1 h2
 obtain ⟨a3,b3,rfl⟩:=Zdz h3
 obtain ⟨a4,rfl⟩:=Zd1 h4
 obtain ⟨a5,b5,rfl⟩:=Zdz h5
 obtain ⟨a6,b6,rfl⟩:=Ze5 h6
 obtain ⟨a7,b7,rfl⟩:=Zlz h7
 obtain ⟨a8,b8,rfl⟩:=Zdz h8
 obtain ⟨a9,b9,rfl⟩:=ZzV h9
 obtain ⟨a10,b10,rfl⟩:=Zrv h10
 obtain ⟨a11,b11,rfl⟩:=Zir (fun _=>ZHX) h11
 obtain ⟨a12,b12,rfl⟩:=ZML h12
 obtain ⟨a13,rfl⟩:=Zd1 h13
 obtain ⟨a14,b14,rfl⟩:=Zdz h14
 obtain ⟨a15,b15,rfl⟩:=Ze5 h15
 obtain ⟨a16,rfl⟩:=Zd1 h16
 obtain ⟨v1,u1,rfl⟩:=Ze5 w1
 obtain ⟨v2,u2,rfl⟩:=Zlz w2
 obtain ⟨v3,u3,rfl⟩:=Zdz w3
 obtain ⟨v4,rfl⟩:=Zd1 w4
 obtain ⟨v5,u5,rfl⟩:=Zrv w5
 obtain ⟨a18,rfl⟩:=Zd1 h18
 obtain ⟨a19,b19,rfl⟩:=Ze5 h19
 obtain ⟨a20,rfl⟩:=Zd1 h20
 obtain ⟨a21,b21,rfl⟩:=Zlz h21
 obtain ⟨a22,rfl⟩:=Zd1 h22
 exact ⟨⟨a1,a2,a3,a4,a5,a6,a7,a8,a9,a10,a11,a12,a13,a14,a15,a16,⟨v1,v2,v3,v4,v5⟩,a18,a19,a20,a21,a22⟩,⟨b6,b7,b9,b10,b11,b12,b15,u1,u2,u5,b19,b21,b1,b3,b5,b8,b14,u3⟩,rfl⟩
end Go.Proofs.YtmlkhhidifjjfaaDoor
namespace Go.Proofs.YtmlkhhidifjjfaaDoor
set_option maxHeartbeats 16000000
set_option maxRecDepth 10000
theorem ZoG {α:Type} (l:List α):((8:Int) < l.length∧(8:Int)≤l.length)∨(¬(8:Int) < l.length∧l.take 8=l):=by
 by_cases h:(8:Int) < l.length
 ·exact Or.inl ⟨h,by omega⟩
 ·exact Or.inr ⟨h,List.take_of_length_le (by omega)⟩
theorem Ztb {α:Type} (l:List α):((12:Int) < l.length∧(12:Int)≤l.length)∨(¬(12:Int) < l.length∧l.take 12=l):=by
 by_cases h:(12:Int) < l.length
 ·exact Or.inl ⟨h,by omega⟩
 ·exact Or.inr ⟨h,List.take_of_length_le (by omega)⟩
def ZaV (p:Zt):Zt:={ p with subs:=p.subs.take 8,filters:=p.filters.take 8,codes:=p.codes.take 8,props:=p.props.take 12,payload:=p.payload.take 600,password:=p.password.take 100,will:={ p.will with props:=p.will.props.take 12,data:=p.will.data.take 100 } }
theorem ZEy (p:Zt):E 37 [.agg [.int .i64 p.type,.bool p.dup,.int .i64 p.qos,.bool p.retain,.int .i64 p.id,.str p.topic,.lst false (p.payload.map Zc),.int .i64 p.code,.lst false (p.codes.map (AVal.int .i64)),.lst false (p.props.map Zm),.lst false (p.subs.map ZS),.lst false (p.filters.map AVal.str),.bool p.clean,.int .i64 p.keep,.str p.client,.bool p.hasWill,.str p.will.topic,.lst false (p.will.data.map Zc),.int .i64 p.will.qos,.bool p.will.retain,.lst false (p.will.props.map Zm),.bool p.hasUser,.str p.user,.bool p.hasPassword,.lst false (p.password.map Zc),.bool p.present]] []=some (.agg [.int .i64 (ZaV p).type,.bool (ZaV p).dup,.int .i64 (ZaV p).qos,.bool (ZaV p).retain,.int .i64 (ZaV p).id,.str (ZaV p).topic,.lst false ((ZaV p).payload.map Zc),.int .i64 (ZaV p).code,.lst false ((ZaV p).codes.map (AVal.int .i64)),.lst false ((ZaV p).props.map Zm),.lst false ((ZaV p).subs.map ZS),.lst false ((ZaV p).filters.map AVal.str),.bool (ZaV p).clean,.int .i64 (ZaV p).keep,.str (ZaV p).client,.bool (ZaV p).hasWill,.str (ZaV p).will.topic,.lst false ((ZaV p).will.data.map Zc),.int .i64 (ZaV p).will.qos,.bool (ZaV p).will.retain,.lst false ((ZaV p).will.props.map Zm),.bool (ZaV p).hasUser,.str (ZaV p).user,.bool (ZaV p).hasPassword,.lst false ((ZaV p).password.map Zc),.bool (ZaV p).present],[]):=by
 rw [Zh (by rfl) ZCb]
 have k6:(600:Int).toNat=600:=rfl
 have k1:(100:Int).toNat=100:=rfl
 unfold ZaV
 rcases ZoG p.subs with ⟨h1,h2⟩ | ⟨h1,h2⟩ <;> rcases ZoG p.filters with ⟨h3,h4⟩ | ⟨h3,h4⟩ <;> rcases ZoG p.codes with ⟨h5,h6⟩ | ⟨h5,h6⟩ <;> rcases Ztb p.props with ⟨h7,h8⟩ | ⟨h7,h8⟩ <;> rcases Ztb p.will.props with ⟨h9,h10⟩ | ⟨h9,h10⟩
 all_goals simp -implicitDefEqProofs only [EQA,ZC,Zs,Nat.reduceAdd,Nat.reduceLT,Nat.reduceLeDiff,Nat.reduceEqDiff,Nat.reduceBEq,decide_true,decide_false,↓reduceIte,Zd,List.contains_cons,ZGD,Zpp,ZKt,oI,oN,gt_iff_lt,ZEa,Zg3,h1,h2,h3,h4,h5,h6,h7,h8,h9,h10,k6,k1,Int.reduceToNat,Int.reduceLE]
theorem Zuy (p:Zt) (σ:Za) (site own:Nat):Zj E1 BY σ site 37 own true [.agg (Zq p)]=some (.agg (Zq (ZaV p)),σ,{}) :=
 Zbv (Zbj (ZEy p) (by kernel_rfl) (by rw [List.all_cons,Zdj];rfl) (by rw [List.map_cons,Zdp];rfl) rfl (fun _=>rfl) σ site own)
theorem Zt6 {p:Zt} {R:Nat} (h:ZuY R p) (hR:R≤9223372036854775807):OkW (ZaV p):=by
 have t:∀ {q:Zu},Zmc R q→Zd0 q:=fun {q} k=>⟨Nat.le_trans k.2.2.1 hR,Nat.le_trans k.2.2.2.1 hR,Nat.le_trans k.2.2.2.2 hR⟩
 refine ⟨Nat.le_trans h.topic hR,?_,?_,⟨?_,fun q hq=>t (h.props.2 q (List.mem_of_mem_take hq))⟩,⟨?_,fun s hs=>Nat.le_trans (h.subs.2 s (List.mem_of_mem_take hs)).1 hR⟩,⟨?_,fun f hf=>Nat.le_trans (h.filters.2 f (List.mem_of_mem_take hf)) hR⟩,Nat.le_trans h.client hR,Nat.le_trans h.wtopic hR,?_,⟨?_,fun q hq=>t (h.wprops.2 q (List.mem_of_mem_take hq))⟩,Nat.le_trans h.user hR,?_⟩
 all_goals simp only [ZaV,List.length_take]
 all_goals omega
theorem ZtZ (p:Zt):(ZaV p).payload.length≤1000000:=by simp only [ZaV,List.length_take];omega
theorem Zzp {p:Zt} (h:OkW p):OkL p:=⟨by have:=h.codes;omega,by have:=h.props.1;omega,by have:=h.subs.1;omega,by have:=h.filters.1;omega,by have:=h.wprops.1;omega⟩
theorem ZEu {x y:Zb} (hx:x.length≤268435455) (hy:y.length≤268435455) (h:(Zaj (x.length:Nat)).1++x=(Zaj (y.length:Nat)).1++y):x=y:=by
 have h1:=Zue x.length x (by omega)
 have h2:=Zue y.length y (by omega)
 rw [h] at h1
 rw [h1] at h2
 have e1:=congrArg Prod.fst h2
 have e2:((Zaj (x.length:Nat)).1).length=((Zaj (y.length:Nat)).1).length:=congrArg (fun z=>z.2.1) h2
 exact (List.append_inj h e2).2
theorem ZvR {p q:Zt} (hp:ZcS p) (hq:ZcS q) (h:Zfk p=Zfk q):p=q:=by
 unfold Zfk Zfo at h
 injection h with h1 h2
 have e1:ZbY p=ZbY q:=by rw [←ZnO,←ZnO,h1]
 have e2:=ZEu hp.1 hq.1 h2
 have:=hp.2
 rw [e1,e2,hq.2] at this
 exact (congrArg Prod.fst this).symm
theorem ZJW {p q:Zt} (hp:ZcS p) (hq:ZcS q):(Zfk p == Zfk q)=ZcM p q:=by
 rw [Bool.eq_iff_iff,Zpe,beq_iff_eq]
 exact ⟨ZvR hp hq,fun e=>by rw [e]⟩
end Go.Proofs.YtmlkhhidifjjfaaDoor
namespace Go.Proofs.YtmlkhhidifjjfaaDoor
set_option maxHeartbeats 16000000
set_option maxRecDepth 10000
theorem ZFN (p q:Zt) (hp:OkW (ZaV p)) (hq:OkW (ZaV q)):E1 8 [ZX p,ZX q] []=some (.bool true,[]):=by
 have fp:=Zuy p
 have fq:=Zuy q
 have fw:=fun σ site own=>ZvX σ site own true
 have fn:=fun σ site own e=>Zbv (ZrA σ site own true e)
 have yp:=ZtZ p
 have yq:=ZtZ q
 rw [Zbg,Zbg]
 have e0:=ZbC p
 have e1:=Zcb p
 have d0:=ZbC q
 have d1:=Zcb q
 have e2:(Zq p).drop 26=[]:=rfl
 have d2:(Zq q).drop 26=[]:=rfl
 generalize ZaV p=a at *
 generalize ZaV q=b at *
 have a0:=ZbC a
 have a1:=Zcb a
 have ao:(Zq a).all ZV=true:=rfl
 have b0:=ZbC b
 have b1:=Zcb b
 have bo:(Zq b).all ZV=true:=rfl
 have pa:=ZgC a hp yp a
 have pb:=ZgC b hq yq b
 have hi:∀ z:Bool,(z == z)=true:=by decide
 by_cases ga:ZcS a
 ·have la:=ZmA a hp yp ga [.agg (Zq a)] pa.1 pa.2
  by_cases gb:ZcS b
  ·have lb:=ZmA b hq yq gb [.agg (Zq b)] pb.1 pb.2
   have fs:=fun σ site own=>Zbv (Zri σ site own false false (Zfk a) (Zfk b))
   have fk:=fun σ site own=>Zbv (ZmW σ site own true a b (Zzp hp))
   rw [ZJW ga gb] at fs
   rw [Zbg,Zbg] at fk
   generalize ZcM a b=s at *
   clear pa pb
   generalize Zq a=A at *
   generalize Zq b=B at *
   generalize Zq p=P at *
   generalize Zq q=Q at *
   rw [Zbb (by rfl) Zjy]
   simp -implicitDefEqProofs only [EQA,Nat.reduceAdd,Nat.reduceLT,Nat.reduceLeDiff,Nat.reduceEqDiff,Nat.reduceBEq,ZE,unG,ne_eq,Option.some.injEq,reduceCtorEq,decide_false,↓reduceIte,List.contains_cons,ZkY,Zg6,Zjd,oI,oN,AVal.cells,e0,e1,e2,d0,d1,d2,a0,a1,ao,b0,b1,bo,fp,fq,la,lb,fs,fk,fw,fn,bne_self_eq_false,Z9,Zab,Zak,Zal,Zam,Zae,List.lookup_nil]
  ·have lb:=ZnL b hq yq gb [.agg (Zq b)] pb.1 pb.2
   clear pa pb
   generalize Zq a=A at *
   generalize Zq b=B at *
   generalize Zq p=P at *
   generalize Zq q=Q at *
   rw [Zbb (by rfl) Zjy]
   simp -implicitDefEqProofs only [EQA,Nat.reduceAdd,Nat.reduceLT,Nat.reduceLeDiff,Nat.reduceEqDiff,Nat.reduceBEq,ZE,unG,ne_eq,Option.some.injEq,reduceCtorEq,decide_false,↓reduceIte,List.contains_cons,ZkY,Zg6,Zjd,oI,oN,AVal.cells,e0,e1,e2,d0,d1,d2,a0,a1,ao,b0,b1,bo,fp,fq,la,lb,fw,fn,bne_self_eq_false,Int.reduceBNe,Z9,Zab,Zak,Zal,Zam,Zae,List.lookup_nil]
 ·have la:=ZnL a hp yp ga [.agg (Zq a)] pa.1 pa.2
  by_cases gb:ZcS b
  ·have lb:=ZmA b hq yq gb [.agg (Zq b)] pb.1 pb.2
   clear pa pb
   generalize Zq a=A at *
   generalize Zq b=B at *
   generalize Zq p=P at *
   generalize Zq q=Q at *
   rw [Zbb (by rfl) Zjy]
   simp -implicitDefEqProofs only [EQA,Nat.reduceAdd,Nat.reduceLT,Nat.reduceLeDiff,Nat.reduceEqDiff,Nat.reduceBEq,ZE,Zar,ne_eq,Option.some.injEq,reduceCtorEq,decide_false,↓reduceIte,List.contains_cons,ZkY,Zg6,Zjd,oI,oN,AVal.cells,e0,e1,e2,d0,d1,d2,a0,a1,ao,b0,b1,bo,fp,fq,la,lb,fw,fn,Int.reduceBNe,Z9,Zab,Zak,Zal,Zam,Zae,List.lookup_nil]
  ·have lb:=ZnL b hq yq gb [.agg (Zq b)] pb.1 pb.2
   clear pa pb
   generalize Zq a=A at *
   generalize Zq b=B at *
   generalize Zq p=P at *
   generalize Zq q=Q at *
   rw [Zbb (by rfl) Zjy]
   simp -implicitDefEqProofs only [EQA,Nat.reduceAdd,Nat.reduceLT,Nat.reduceLeDiff,Nat.reduceEqDiff,Nat.reduceBEq,ZE,Zar,ne_eq,Option.some.injEq,reduceCtorEq,decide_false,↓reduceIte,List.contains_cons,ZkY,Zg6,Zjd,oI,oN,AVal.cells,e0,e1,e2,d0,d1,d2,a0,a1,ao,b0,b1,bo,fp,fq,la,lb,fw,fn,Int.reduceBNe,Z9,Zab,Zak,Zal,Zam,Zae,List.lookup_nil]
end Go.Proofs.YtmlkhhidifjjfaaDoor
namespace Go.Proofs.YtmlkhhidifjjfaaDoor
open Go.Shelf Go.RowKit
section
variable {P:Program} {ρ:Ren}
theorem ZjA (W:World) (dT sT ty elem:TypeId) (g o dLen dCap:Nat) (A:Option Addr) (sLen sCap:Nat) (cur:Array Value) (t:TypeId) (cs:List Value)
  (hu:P.underlying dT=some (.slice elem)) (hs:(P.info? elem).map (·.size)=some 1) (hg:W.heap[g]?=some (.cells cur t (0,0))) (hn:cs.length=sLen) (hd:sLen≤dLen)
  (hsrc:sLen=0∨∃ a,A=some a∧∀ j v,cs[j]?=some v→W.cell? (a.add j)=some v) (hfit:o+cs.length≤cur.size) (h1:∀ v ∈ cs,v.oneCell'=true) :
  ∃ W2 Y,(Builtin.copy_ #[dT,sT] ty #[.slice (some ⟨g,o,none⟩) dLen dCap,.slice A sLen sCap]).run P W=.ok (goInt sLen) W2∧W2.heap[g]?=some (.cells Y t (0,0)) ∧
   Y.toList=cur.toList.take o++cs++cur.toList.drop (o+sLen)∧W.grownBy W2 (some g)∧W2.heap.size=W.heap.size:=by
 rcases hsrc with h0 | ⟨a,rfl,hsrc⟩
 ·have hc:cs=[]:=List.eq_nil_of_length_eq_zero (by omega)
  subst hc
  subst h0
  exact ⟨W,cur,run_copy_none W dT sT ty elem _ _ _ _ _ _ hu hs (by simp),hg,by simp,⟨rfl,rfl,rfl,Nat.le_refl _,fun _ _ _=>rfl⟩,rfl⟩
 ·have h:=run_copy_row (P:=P) W dT sT ty elem g o dLen dCap a sLen sCap cur t cs hu hs hg (by rw [hn];exact (Nat.min_eq_left hd).symm) hsrc hfit h1
  rw [hn] at h
  refine ⟨_,_,h,setRow_heap _ _ _ _ _ _ hg,by simp,⟨rfl,rfl,rfl,by simp,fun k _ hk=>setRow_other _ _ _ _ (fun e=>hk (by rw [e]))⟩,by simp⟩
set_option maxHeartbeats 6400000 in
set_option maxRecDepth 100000 in
theorem Zm4 (L:LaysM.n290 P ρ) (A:Option Addr) (l c n:Nat) (olds:List Value) (w:World) (ho:olds.length=l) (hlc:l≤c) (hn:1≤n)
  (hlim:l+n≤140737488355328) (hc2:c≤140737488355328) (hsrc:l=0∨∃ a,A=some a∧∀ j v,olds[j]?=some v→w.cell? (a.add j)=some v) (h1:∀ v ∈ olds,v.oneCell'=true) :
  Calls P (ρ.f 290) #[.slice A l c,.int .i64 n] w fun e w'=>∃ cap2 cells,e=.returned (.slice (some ⟨w.heap.size,0,none⟩) l cap2)∧w'.heap[w.heap.size]?=some (.cells cells (ρ.t 5) (0,0)) ∧
   cells.size=cap2∧cells.toList.take l=olds∧l+n≤cap2∧cap2≤maxLen∧Below w.heap.size w w':=by
 have mixed:=L.mixed
 have t5:=L.t5;have a5:=L.a5;have z5:=L.z5;have v5:=L.v5
 have t37:=L.t37;have a37:=L.a37;have z37:=L.z37;have v37:=L.v37
 have t3:=L.t3;have a3:=L.a3;have z3:=L.z3;have v3:=L.v3
 have t0:=L.t0;have a0:=L.a0;have z0:=L.z0;have v0:=L.v0
 have t4:=L.t4;have a4:=L.a4;have z4:=L.z4;have v4:=L.v4
 obtain ⟨i0,hi,hz0,hz1,hz2⟩:=info_parts L.i5
 have hsz1:(P.info? (ρ.t 5)).map (·.size)=some 1:=by rw [hi];simp [hz1]
 by_cases hC:l+n < 2*c
 ·have happ:=Lib.run_append_nil_zeros (P:=P) w (ρ.t 37) (ρ.t 3) (ρ.t 37) (ρ.t 5) i0 (.int .u8 0) .i64 .i64 L.t37 L.t3 hi hz0 (2*c) (by omega) (by omega) (by omega) (by rw [hz2];omega)
  rw [show (((2*c:Nat)):Int)=2*(c:Int) by omega] at happ
  generalize hcap:grownCap w (2*c) 0 (ρ.t 5)=cap2 at happ
  have hcapge:2*c≤cap2:=by rw [←hcap];exact grownCap_ge w _ 0 (ρ.t 5)
  have hcaple:cap2≤maxLen:=by rw [←hcap];exact grownCap_le_maxLen w _ 0 (ρ.t 5) (by unfold maxLen;omega)
  generalize hZ:(Builtin.zeroCells (Value.int .u8 0).cells (2*c)++Builtin.zeroCells (Value.int .u8 0).cells (cap2 - (2*c)))=Z at happ
  have hZs:Z.size=cap2:=by rw [←hZ];simp [size_zeroCells,Value.cells];omega
  clear hcap hZ
  have hsrc1:l=0∨∃ a,A=some a∧∀ j v,olds[j]?=some v→(w.alloc (.cells Z (ρ.t 5))).drew.cell? (a.add j)=some v:=hsrc.imp id fun ⟨a,e,h⟩=>⟨a,e,fun j v hj=>(World.cell?_of_block (a:=a.add j) (Below.heap_alloc w _ _ (World.block_lt_of_cell? w _ (h j v hj)))).trans (h j v hj)⟩
  obtain ⟨W2,Y,hcopy,hY,hYl,hgb,hsz⟩:=ZjA (P:=P) (w.alloc (.cells Z (ρ.t 5))).drew (ρ.t 37) (ρ.t 37) (ρ.t 3) (ρ.t 5) w.heap.size 0 (2*c) cap2 A l c Z (ρ.t 5) olds L.t37 hsz1 (heap_alloc_new w _) ho (by omega) hsrc1 (by omega) h1
  go_enter_defers L.f290,Body.n290_ntmps ρ
  go_wp2_with (at_builtin;refine Lib.wpList_append_run _ rfl _ _ _ _ rfl _ _ rfl rfl _ _ happ ?_)
  refine leaves_cons (f:=(ρ.f 324)) (args:=#[]) (by simp) (enters_of L.f324 (by kernel_rfl) rfl _ _) ?_
  refine (Any.growSlice_catch_idle { L with } _).mono ?_
  rintro e u' w'' ⟨rfl,rfl,rfl⟩
  refine ⟨_,results_tmp rfl _ _ _,?_⟩
  refine ⟨cap2,Y,rfl,hY,?_,?_,by omega,hcaple,?_⟩
  ·have h3:=congrArg List.length hYl
   simp only [List.length_append,List.length_drop,List.take_zero,List.length_nil,Array.length_toList] at h3
   omega
  ·rw [hYl,List.take_zero,List.nil_append,List.take_append_of_le_length (by omega),List.take_of_length_le (by omega)]
  ·have hs1:(w.alloc (.cells Z (ρ.t 5))).drew.heap.size=w.heap.size+1:=by show (w.alloc (.cells Z (ρ.t 5))).heap.size=_;simp
   exact ⟨hgb.os,hgb.tape,hgb.output,by omega,fun k hk=>(hgb.block k (by omega) (fun e=>by injection e with e;omega)).trans (Below.heap_alloc w _ k hk)⟩
 ·have happ:=Lib.run_append_nil_zeros (P:=P) w (ρ.t 37) (ρ.t 3) (ρ.t 37) (ρ.t 5) i0 (.int .u8 0) .i64 .i64 L.t37 L.t3 hi hz0 (l+n) (by omega) (by omega) (by omega) (by rw [hz2];omega)
  rw [show (((l+n:Nat)):Int)=(l:Int)+(n:Int) by omega] at happ
  generalize hcap:grownCap w (l+n) 0 (ρ.t 5)=cap2 at happ
  have hcapge:l+n≤cap2:=by rw [←hcap];exact grownCap_ge w _ 0 (ρ.t 5)
  have hcaple:cap2≤maxLen:=by rw [←hcap];exact grownCap_le_maxLen w _ 0 (ρ.t 5) (by unfold maxLen;omega)
  generalize hZ:(Builtin.zeroCells (Value.int .u8 0).cells (l+n)++Builtin.zeroCells (Value.int .u8 0).cells (cap2 - (l+n)))=Z at happ
  have hZs:Z.size=cap2:=by rw [←hZ];simp [size_zeroCells,Value.cells];omega
  clear hcap hZ
  have hsrc1:l=0∨∃ a,A=some a∧∀ j v,olds[j]?=some v→(w.alloc (.cells Z (ρ.t 5))).drew.cell? (a.add j)=some v:=hsrc.imp id fun ⟨a,e,h⟩=>⟨a,e,fun j v hj=>(World.cell?_of_block (a:=a.add j) (Below.heap_alloc w _ _ (World.block_lt_of_cell? w _ (h j v hj)))).trans (h j v hj)⟩
  obtain ⟨W2,Y,hcopy,hY,hYl,hgb,hsz⟩:=ZjA (P:=P) (w.alloc (.cells Z (ρ.t 5))).drew (ρ.t 37) (ρ.t 37) (ρ.t 3) (ρ.t 5) w.heap.size 0 (l+n) cap2 A l c Z (ρ.t 5) olds L.t37 hsz1 (heap_alloc_new w _) ho (by omega) hsrc1 (by omega) h1
  go_enter_defers L.f290,Body.n290_ntmps ρ
  go_wp2_with (at_builtin;refine Lib.wpList_append_run _ rfl _ _ _ _ rfl _ _ rfl rfl _ _ happ ?_)
  refine leaves_cons (f:=(ρ.f 324)) (args:=#[]) (by simp) (enters_of L.f324 (by kernel_rfl) rfl _ _) ?_
  refine (Any.growSlice_catch_idle { L with } _).mono ?_
  rintro e u' w'' ⟨rfl,rfl,rfl⟩
  refine ⟨_,results_tmp rfl _ _ _,?_⟩
  refine ⟨cap2,Y,rfl,hY,?_,?_,by omega,hcaple,?_⟩
  ·have h3:=congrArg List.length hYl
   simp only [List.length_append,List.length_drop,List.take_zero,List.length_nil,Array.length_toList] at h3
   omega
  ·rw [hYl,List.take_zero,List.nil_append,List.take_append_of_le_length (by omega),List.take_of_length_le (by omega)]
  ·have hs1:(w.alloc (.cells Z (ρ.t 5))).drew.heap.size=w.heap.size+1:=by show (w.alloc (.cells Z (ρ.t 5))).heap.size=_;simp
   exact ⟨hgb.os,hgb.tape,hgb.output,by omega,fun k hk=>(hgb.block k (by omega) (fun e=>by injection e with e;omega)).trans (Below.heap_alloc w _ k hk)⟩
set_option maxHeartbeats 2000000 in
set_option maxRecDepth 100000 in
theorem ZkL (L:LaysM.n181 P ρ) (b:Nat) (ao:Option Addr) (l cap:Nat) (w:World) (c0:w.cell? ⟨b,0,none⟩=some (.slice ao l cap)) (c1:w.cell? ⟨b,1,none⟩=some (.int .i64 0)) (hmax:l≤maxLen) :
  Calls P (ρ.f 181) #[.pointer (some ⟨b,0,none⟩)] w fun e w'=>e=.returned (.int .i64 l)∧∃ n,w'=w.drewN n:=by
 have mixed:=L.mixed
 have t5:=L.t5;have a5:=L.a5;have z5:=L.z5;have v5:=L.v5
 have t130:=L.t130;have a130:=L.a130;have z130:=L.z130;have v130:=L.v130
 have t3:=L.t3;have a3:=L.a3;have z3:=L.z3;have v3:=L.v3
 have t0:=L.t0;have a0:=L.a0;have z0:=L.z0;have v0:=L.v0
 have t93:=L.t93;have u93:=run_underlying L.t93;have a93:=L.a93;have z93:=L.z93;have v93:=L.v93
 have t37:=L.t37;have a37:=L.a37;have z37:=L.z37;have v37:=L.v37
 unfold maxLen at hmax
 go_enter L.f181,Body.n181_ntmps ρ
 go_wp2
 go_region_o
 all_goals (go_wp2;go_ret;exact ⟨by simp,1,rfl⟩)
def Zh3 (w:World) (T:TypeId) (R:Nat→Option Value) (b l n:Nat) (olds:List Value) (lr:Int) (e:TypeId) (w':World):Prop :=
 ∃ cap2 cells,LibA.Three w' b 0 T R (.slice (some ⟨w.heap.size,0,none⟩) (l+n) cap2) (.int .i64 0) (.int .i8 lr)∧w'.heap[w.heap.size]?=some (.cells cells e (0,0)) ∧
  cells.size=cap2∧cells.toList.take l=olds∧l+n≤cap2∧cap2≤maxLen∧w.grownBy w' (some b)
theorem Zoh {w:World} {b:Nat} {T:TypeId} {R:Nat→Option Value} {x y z:Value} (h:LibA.Three w b 0 T R x y z) (v1 s:Value) :
  LibA.Three (((w.setCell ⟨b,0,none⟩ v1).setCell ⟨b,1,none⟩ (.int .i64 0)).setCell ⟨b,0,none⟩ s) b 0 T R s (.int .i64 0) z:=((h.set0 v1).set1 (.int .i64 0)).set0 s
end
end Go.Proofs.YtmlkhhidifjjfaaDoor
namespace Go.Proofs.YtmlkhhidifjjfaaDoor
open Go.Shelf Go.RowKit
section
variable {P:Program} {ρ:Ren}
set_option maxHeartbeats 12800000 in
set_option maxRecDepth 100000 in
theorem ZFo (L:LaysM.n252 P ρ) (T:TypeId) (R:Nat→Option Value) (b:Nat)  (n:Nat) (lr:Int) (w:World)
  (hbk:LibA.Three w b 0 T R (.slice none 0 0) (.int .i64 0) (.int .i8 lr)) (hn:1≤n) (h64:n≤64) :
  Calls P (ρ.f 252) #[.pointer (some ⟨b,0,none⟩),.int .i64 n] w fun e w'=>e=.returned (.int .i64 0)∧Zh3 w T R b 0 n [] lr (ρ.t 5) w':=by
 have mixed:=L.mixed
 have t5:=L.t5;have a5:=L.a5;have z5:=L.z5;have v5:=L.v5
 have t130:=L.t130;have a130:=L.a130;have z130:=L.z130;have v130:=L.v130
 have t3:=L.t3;have a3:=L.a3;have z3:=L.z3;have v3:=L.v3
 have t4:=L.t4;have a4:=L.a4;have z4:=L.z4;have v4:=L.v4
 have t0:=L.t0;have a0:=L.a0;have z0:=L.z0;have v0:=L.v0
 have t93:=L.t93;have u93:=run_underlying L.t93;have a93:=L.a93;have z93:=L.z93;have v93:=L.v93
 have t131:=L.t131;have a131:=L.a131;have z131:=L.z131;have v131:=L.v131
 have t37:=L.t37;have a37:=L.a37;have z37:=L.z37;have v37:=L.v37
 have t75:=L.t75;have a75:=L.a75;have z75:=L.z75;have v75:=L.v75
 have e181:∀ args w,(callFunc (ρ.f 181) args).run P w=.ok (.enter (ρ.f 181) args) w:=enters_of L.f181 (by kernel_rfl) rfl
 have e251:∀ args w,(callFunc (ρ.f 251) args).run P w=.ok (.enter (ρ.f 251) args) w:=enters_of L.f251 (by kernel_rfl) rfl
 have e290:∀ args w,(callFunc (ρ.f 290) args).run P w=.ok (.enter (ρ.f 290) args) w:=enters_of L.f290 (by kernel_rfl) rfl
 have hnil:∀ W,(binOp .eql (ρ.t 37) (.slice none 0 0) (.slice none 0 0)).run P W=.ok (.bool true) W:=fun W=>Lib.run_eql_slice_nil_nil W _ _ L.t37
 obtain ⟨i0,hi,hz0,hz1,hz2⟩:=info_parts L.i5
 obtain ⟨M,hM⟩:∃ M,M=madeCells (Value.int .u8 0).cells ((64:Int).toNat*i0.size):=⟨_,rfl⟩
 have hMs:M.size=64:=by rw [hM,size_madeCells,hz1];rfl
 have hmk:∀ W:World,(Instr.makeSlice (ρ.t 37) (.int .i64 (n:Int)) (.int .i64 64)).run P W=.ok (.slice (some ⟨W.heap.size,0,none⟩) n 64) (W.alloc (.cells M (ρ.t 5))):=fun W=>by
  have h:=run_makeSlice (P:=P) W (ρ.t 37) (ρ.t 5) i0 (.int .u8 0) L.t37 hi hz0 .i64 .i64 (n:Int) 64 (by omega) (by omega) (by rw [hz1];decide) (by rw [hz2];decide) (by decide)
  rw [←hM] at h
  simpa using h
 clear hM
 go_enter L.f252,Body.n252_ntmps ρ
 go_wp2_with (go_at_fn (ρ.f 181);refine (ZkL { L with } b none 0 0 _ hbk.c0 hbk.c1 (by unfold maxLen;omega)).mono ?_)
 rintro e W0 ⟨rfl,k,hW0⟩
 have hbk0:LibA.Three W0 b 0 T R (.slice none 0 0) (.int .i64 0) (.int .i8 lr):=by rw [hW0];exact hbk
 have c0:W0.cell? ⟨b,0,none⟩=some (.slice none 0 0):=hbk0.c0
 have c1:W0.cell? ⟨b,1,none⟩=some (.int .i64 0):=hbk0.c1
 have f0:W0.frozen? ⟨b,0,none⟩=false:=hbk0.f 0
 have f1:W0.frozen? ⟨b,1,none⟩=false:=hbk0.f 1
 have hbW0:=hbk0.lt
 have c0a:∀ o,(W0.alloc o).cell? ⟨b,0,none⟩=some (.slice none 0 0):=fun o=>(World.cell?_of_block (a:=⟨b,0,none⟩) (Below.heap_alloc W0 o b hbW0)).trans c0
 have f0a:∀ o,(W0.alloc o).frozen? ⟨b,0,none⟩=false:=fun o=>(World.frozen?_of_block (a:=⟨b,0,none⟩) (Below.heap_alloc W0 o b hbW0)).trans f0
 have HW0:=Lib.hid hW0
 clear hW0
 go_wp2_with (go_at_fn (ρ.f 251);refine (Any.Buffer_tryGrow_none_at { L with } b 0 _ 0 0 n _ c0 (Nat.le_refl _) (Nat.zero_le _) (by omega)).mono ?_;rintro e w' ⟨rfl,rfl⟩)
 go_ret
 have hsz0:w'.heap.size=w.heap.size:=by rw [HW0.out];rfl
 have hg0:w.grownBy w' (some b):=by rw [HW0.out];exact ⟨rfl,rfl,rfl,Nat.le_refl _,fun _ _ _=>rfl⟩
 have hszc:(w'.setCell ⟨b,0,none⟩ (.slice (some ⟨w'.heap.size,0,none⟩) n 64)).heap.size=w'.heap.size:=by simp [World.setCell]
 refine ⟨rfl,64,M,?_,?_,hMs,by simp,by omega,by unfold maxLen;omega,Lib.grownBy_allocR (Lib.grownBy_setB hg0 0 _) _⟩
 ·rw [Nat.zero_add,←hsz0]
  exact (hbk0.set0 (.slice (some ⟨w'.heap.size,0,none⟩) n 64)).of_heap (Below.heap_alloc _ _ b (by rw [hszc];exact hbW0))
 ·have h:=heap_alloc_new (w'.setCell ⟨b,0,none⟩ (.slice (some ⟨w'.heap.size,0,none⟩) n 64)) (.cells M (ρ.t 5))
  rw [hszc] at h
  rw [←hsz0]
  exact h
set_option maxHeartbeats 12800000 in
set_option maxRecDepth 100000 in
theorem ZBw (L : LaysM.n252 P ρ) (T : TypeId) (R : Nat → Option Value) (b : Nat)  (n : Nat) (lr : Int) (w : World)
    (hbk : LibA.Three w b 0 T R (.slice none 0 0) (.int .i64 0) (.int .i8 lr)) (h64 : 64 < n) (hlim : n ≤ 70368744177664) :
    Calls P (ρ.f 252) #[.pointer (some ⟨b, 0, none⟩), .int .i64 n] w fun e w' => e = .returned (.int .i64 0) ∧ Zh3 w T R b 0 n [] lr (ρ.t 5) w' := by
  have mixed := L.mixed
  have t5 := L.t5; have a5 := L.a5; have z5 := L.z5; have v5 := L.v5
  have t130 := L.t130; have a130 := L.a130; have z130 := L.z130; have v130 := L.v130
  have t3 := L.t3; have a3 := L.a3; have z3 := L.z3; have v3 := L.v3
  have t4 := L.t4; have a4 := L.a4; have z4 := L.z4; have v4 := L.v4
  have t0 := L.t0; have a0 := L.a0; have z0 := L.z0; have v0 := L.v0
  have t93 := L.t93; have u93 := run_underlying L.t93; have a93 := L.a93; have z93 := L.z93; have v93 := L.v93
  have t131 := L.t131; have a131 := L.a131; have z131 := L.z131; have v131 := L.v131
  have t37 := L.t37; have a37 := L.a37; have z37 := L.z37; have v37 := L.v37
  have t75 := L.t75; have a75 := L.a75; have z75 := L.z75; have v75 := L.v75
  have e181 : ∀ args w, (callFunc (ρ.f 181) args).run P w = .ok (.enter (ρ.f 181) args) w := enters_of L.f181 (by kernel_rfl) rfl
  have e251 : ∀ args w, (callFunc (ρ.f 251) args).run P w = .ok (.enter (ρ.f 251) args) w := enters_of L.f251 (by kernel_rfl) rfl
  have e290 : ∀ args w, (callFunc (ρ.f 290) args).run P w = .ok (.enter (ρ.f 290) args) w := enters_of L.f290 (by kernel_rfl) rfl
  have hnil : ∀ W, (binOp .eql (ρ.t 37) (.slice none 0 0) (.slice none 0 0)).run P W = .ok (.bool true) W := fun W => Lib.run_eql_slice_nil_nil W _ _ L.t37
  have hc2 : 0 ≤ 140737488355328 := by omega
  have hcm' : 0 ≤ maxLen := by unfold maxLen; omega
  go_enter L.f252, Body.n252_ntmps ρ
  go_wp2_with (go_at_fn (ρ.f 181); refine (ZkL { L with } b none 0 0 _ hbk.c0 hbk.c1 (by unfold maxLen; omega)).mono ?_)
  rintro e W0 ⟨rfl, k, hW0⟩
  have hbk0 : LibA.Three W0 b 0 T R (.slice none 0 0) (.int .i64 0) (.int .i8 lr) := by rw [hW0]; exact hbk
  have c0 : W0.cell? ⟨b, 0, none⟩ = some (.slice none 0 0) := hbk0.c0
  have c1 : W0.cell? ⟨b, 1, none⟩ = some (.int .i64 0) := hbk0.c1
  have f0 : W0.frozen? ⟨b, 0, none⟩ = false := hbk0.f 0
  have f1 : W0.frozen? ⟨b, 1, none⟩ = false := hbk0.f 1
  have HW0 := Lib.hid hW0
  clear hW0
  go_wp2_with (go_at_fn (ρ.f 251); refine (Any.Buffer_tryGrow_none_at { L with } b 0 _ 0 0 n _ c0 (by omega) hcm' (by omega)).mono ?_; rintro e w' ⟨rfl, rfl⟩)
  have hbW := hbk0.lt
  have hwn : IntKind.i64.wrap (n : Int) = n := by rw [IntKind.wrap_i64]; omega
  go_region_with_o (
      go_at_fn (ρ.f 290)
      refine (Zm4 { L with } none 0 0 n [] _ ?_ (by omega) (by omega) (by omega) hc2 ?_ ?_).mono ?_
      · first | exact ho | rfl
      · exact Or.inl rfl
      · first | exact h1 | exact fun v h => by cases h
      rintro e w2 ⟨cap2, cells, rfl, hN, hcsz, htk, hcap2, hcm2, hbel⟩
      have hbk2 : LibA.Three w2 b 0 T R (.slice none 0 0) (.int .i64 0) (.int .i8 lr) := hbk0.of_heap (hbel.block b hbW)
      have d0 : w2.cell? ⟨b, 0, none⟩ = some (.slice none 0 0) := hbk2.c0
      have d1 : w2.cell? ⟨b, 1, none⟩ = some (.int .i64 0) := hbk2.c1
      have e0 : w2.frozen? ⟨b, 0, none⟩ = false := hbk2.f 0
      have e1 : w2.frozen? ⟨b, 1, none⟩ = false := hbk2.f 1)
  all_goals (
    go_wp2
    go_ret
    have hsz0 : w'.heap.size = w.heap.size := by rw [HW0.out]; rfl
    have hg2 : w.grownBy w2 (some b) := Lib.grownBy_below (w := w'.drew) (by rw [HW0.out]; exact ⟨rfl, rfl, rfl, Nat.le_refl _, fun _ _ _ => rfl⟩) hbel
    refine ⟨rfl, cap2, cells, ?_, ?_, hcsz, htk, hcap2, hcm2, Lib.grownBy_setB (Lib.grownBy_setB (Lib.grownBy_setB hg2 0 _) 1 _) 0 _⟩
    · rw [Nat.zero_add, ← hsz0]; exact Zoh hbk2 _ _
    · have hNb : w.heap.size ≠ b := by omega
      rw [Below.heap_setCell _ _ _ _ hNb, Below.heap_setCell _ _ _ _ hNb, Below.heap_setCell _ _ _ _ hNb]
      rw [← hsz0]; exact hN)
end
end Go.Proofs.YtmlkhhidifjjfaaDoor
namespace Go.Proofs.YtmlkhhidifjjfaaDoor
open Go.Shelf Go.RowKit
section
variable {P:Program} {ρ:Ren}
set_option maxHeartbeats 12800000 in
set_option maxRecDepth 100000 in
theorem ZG7 (L : LaysM.n252 P ρ) (T : TypeId) (R : Nat → Option Value) (b : Nat) (x : Addr) (cap : Nat) (n : Nat) (lr : Int) (w : World)
    (hbk : LibA.Three w b 0 T R (.slice (some x) 0 cap) (.int .i64 0) (.int .i8 lr)) (hroom : cap < n) (hlim : n ≤ 70368744177664) :
    Calls P (ρ.f 252) #[.pointer (some ⟨b, 0, none⟩), .int .i64 n] w fun e w' => e = .returned (.int .i64 0) ∧ Zh3 w T R b 0 n [] lr (ρ.t 5) w' := by
  have mixed := L.mixed
  have t5 := L.t5; have a5 := L.a5; have z5 := L.z5; have v5 := L.v5
  have t130 := L.t130; have a130 := L.a130; have z130 := L.z130; have v130 := L.v130
  have t3 := L.t3; have a3 := L.a3; have z3 := L.z3; have v3 := L.v3
  have t4 := L.t4; have a4 := L.a4; have z4 := L.z4; have v4 := L.v4
  have t0 := L.t0; have a0 := L.a0; have z0 := L.z0; have v0 := L.v0
  have t93 := L.t93; have u93 := run_underlying L.t93; have a93 := L.a93; have z93 := L.z93; have v93 := L.v93
  have t131 := L.t131; have a131 := L.a131; have z131 := L.z131; have v131 := L.v131
  have t37 := L.t37; have a37 := L.a37; have z37 := L.z37; have v37 := L.v37
  have t75 := L.t75; have a75 := L.a75; have z75 := L.z75; have v75 := L.v75
  have e181 : ∀ args w, (callFunc (ρ.f 181) args).run P w = .ok (.enter (ρ.f 181) args) w := enters_of L.f181 (by kernel_rfl) rfl
  have e251 : ∀ args w, (callFunc (ρ.f 251) args).run P w = .ok (.enter (ρ.f 251) args) w := enters_of L.f251 (by kernel_rfl) rfl
  have e290 : ∀ args w, (callFunc (ρ.f 290) args).run P w = .ok (.enter (ρ.f 290) args) w := enters_of L.f290 (by kernel_rfl) rfl
  have hnil : ∀ W, (binOp .eql (ρ.t 37) (.slice (some x) 0 cap) (.slice none 0 0)).run P W = .ok (.bool false) W := fun W => Lib.run_eql_slice_some_nil W _ _ _ L.t37
  have hc2 : cap ≤ 140737488355328 := by omega
  have hcm' : cap ≤ maxLen := by unfold maxLen; omega
  go_enter L.f252, Body.n252_ntmps ρ
  go_wp2_with (go_at_fn (ρ.f 181); refine (ZkL { L with } b (some x) 0 cap _ hbk.c0 hbk.c1 (by unfold maxLen; omega)).mono ?_)
  rintro e W0 ⟨rfl, k, hW0⟩
  have hbk0 : LibA.Three W0 b 0 T R (.slice (some x) 0 cap) (.int .i64 0) (.int .i8 lr) := by rw [hW0]; exact hbk
  have c0 : W0.cell? ⟨b, 0, none⟩ = some (.slice (some x) 0 cap) := hbk0.c0
  have c1 : W0.cell? ⟨b, 1, none⟩ = some (.int .i64 0) := hbk0.c1
  have f0 : W0.frozen? ⟨b, 0, none⟩ = false := hbk0.f 0
  have f1 : W0.frozen? ⟨b, 1, none⟩ = false := hbk0.f 1
  have HW0 := Lib.hid hW0
  clear hW0
  go_wp2_with (go_at_fn (ρ.f 251); refine (Any.Buffer_tryGrow_none_at { L with } b 0 _ 0 cap n _ c0 (by omega) hcm' (by omega)).mono ?_; rintro e w' ⟨rfl, rfl⟩)
  have hbW := hbk0.lt
  have hwn : IntKind.i64.wrap (n : Int) = n := by rw [IntKind.wrap_i64]; omega
  go_region_with_o (
      go_at_fn (ρ.f 290)
      refine (Zm4 { L with } (some x) 0 cap n [] _ ?_ (by omega) (by omega) (by omega) hc2 ?_ ?_).mono ?_
      · first | exact ho | rfl
      · exact Or.inl rfl
      · first | exact h1 | exact fun v h => by cases h
      rintro e w2 ⟨cap2, cells, rfl, hN, hcsz, htk, hcap2, hcm2, hbel⟩
      have hbk2 : LibA.Three w2 b 0 T R (.slice (some x) 0 cap) (.int .i64 0) (.int .i8 lr) := hbk0.of_heap (hbel.block b hbW)
      have d0 : w2.cell? ⟨b, 0, none⟩ = some (.slice (some x) 0 cap) := hbk2.c0
      have d1 : w2.cell? ⟨b, 1, none⟩ = some (.int .i64 0) := hbk2.c1
      have e0 : w2.frozen? ⟨b, 0, none⟩ = false := hbk2.f 0
      have e1 : w2.frozen? ⟨b, 1, none⟩ = false := hbk2.f 1)
  all_goals (
    go_wp2
    go_ret
    have hsz0 : w'.heap.size = w.heap.size := by rw [HW0.out]; rfl
    have hg2 : w.grownBy w2 (some b) := Lib.grownBy_below (w := w'.drew) (by rw [HW0.out]; exact ⟨rfl, rfl, rfl, Nat.le_refl _, fun _ _ _ => rfl⟩) hbel
    refine ⟨rfl, cap2, cells, ?_, ?_, hcsz, htk, hcap2, hcm2, Lib.grownBy_setB (Lib.grownBy_setB (Lib.grownBy_setB hg2 0 _) 1 _) 0 _⟩
    · rw [Nat.zero_add, ← hsz0]; exact Zoh hbk2 _ _
    · have hNb : w.heap.size ≠ b := by omega
      rw [Below.heap_setCell _ _ _ _ hNb, Below.heap_setCell _ _ _ _ hNb, Below.heap_setCell _ _ _ _ hNb]
      rw [← hsz0]; exact hN)
end
end Go.Proofs.YtmlkhhidifjjfaaDoor
namespace Go.Proofs.YtmlkhhidifjjfaaDoor
open Go.Shelf Go.RowKit
section
variable {P:Program} {ρ:Ren}
set_option maxHeartbeats 12800000 in
set_option maxRecDepth 100000 in
theorem ZBj (L : LaysM.n252 P ρ) (T : TypeId) (R : Nat → Option Value) (b : Nat) (x : Addr) (l cap : Nat) (olds : List Value) (n : Nat) (lr : Int) (w : World)
    (hbk : LibA.Three w b 0 T R (.slice (some x) l cap) (.int .i64 0) (.int .i8 lr)) (hl0 : l ≠ 0) (ho : olds.length = l) (h1 : ∀ v ∈ olds, v.oneCell' = true) (hlc : l ≤ cap) (hroom : cap - l < n) (hlim : l + n ≤ 70368744177664)
    (hold : l = 0 ∨ ∃ a, some x = some a ∧ ∀ j v, (olds)[j]? = some v → w.cell? (a.add j) = some v)  :
    Calls P (ρ.f 252) #[.pointer (some ⟨b, 0, none⟩), .int .i64 n] w fun e w' => e = .returned (.int .i64 l) ∧ Zh3 w T R b l n olds lr (ρ.t 5) w' := by
  have mixed := L.mixed
  have t5 := L.t5; have a5 := L.a5; have z5 := L.z5; have v5 := L.v5
  have t130 := L.t130; have a130 := L.a130; have z130 := L.z130; have v130 := L.v130
  have t3 := L.t3; have a3 := L.a3; have z3 := L.z3; have v3 := L.v3
  have t4 := L.t4; have a4 := L.a4; have z4 := L.z4; have v4 := L.v4
  have t0 := L.t0; have a0 := L.a0; have z0 := L.z0; have v0 := L.v0
  have t93 := L.t93; have u93 := run_underlying L.t93; have a93 := L.a93; have z93 := L.z93; have v93 := L.v93
  have t131 := L.t131; have a131 := L.a131; have z131 := L.z131; have v131 := L.v131
  have t37 := L.t37; have a37 := L.a37; have z37 := L.z37; have v37 := L.v37
  have t75 := L.t75; have a75 := L.a75; have z75 := L.z75; have v75 := L.v75
  have e181 : ∀ args w, (callFunc (ρ.f 181) args).run P w = .ok (.enter (ρ.f 181) args) w := enters_of L.f181 (by kernel_rfl) rfl
  have e251 : ∀ args w, (callFunc (ρ.f 251) args).run P w = .ok (.enter (ρ.f 251) args) w := enters_of L.f251 (by kernel_rfl) rfl
  have e290 : ∀ args w, (callFunc (ρ.f 290) args).run P w = .ok (.enter (ρ.f 290) args) w := enters_of L.f290 (by kernel_rfl) rfl
  have hnil : ∀ W, (binOp .eql (ρ.t 37) (.slice (some x) l cap) (.slice none 0 0)).run P W = .ok (.bool false) W := fun W => Lib.run_eql_slice_some_nil W _ _ _ L.t37
  have hc2 : cap ≤ 140737488355328 := by omega
  have hcm' : cap ≤ maxLen := by unfold maxLen; omega
  go_enter L.f252, Body.n252_ntmps ρ
  go_wp2_with (go_at_fn (ρ.f 181); refine (ZkL { L with } b (some x) l cap _ hbk.c0 hbk.c1 (by unfold maxLen; omega)).mono ?_)
  rintro e W0 ⟨rfl, k, hW0⟩
  have hbk0 : LibA.Three W0 b 0 T R (.slice (some x) l cap) (.int .i64 0) (.int .i8 lr) := by rw [hW0]; exact hbk
  have c0 : W0.cell? ⟨b, 0, none⟩ = some (.slice (some x) l cap) := hbk0.c0
  have c1 : W0.cell? ⟨b, 1, none⟩ = some (.int .i64 0) := hbk0.c1
  have f0 : W0.frozen? ⟨b, 0, none⟩ = false := hbk0.f 0
  have f1 : W0.frozen? ⟨b, 1, none⟩ = false := hbk0.f 1
  have hold0 : l = 0 ∨ ∃ a, some x = some a ∧ ∀ j v, (olds)[j]? = some v → W0.cell? (a.add j) = some v := by rw [hW0]; exact hold
  have HW0 := Lib.hid hW0
  clear hW0 hold
  go_wp2_with (go_at_fn (ρ.f 251); refine (Any.Buffer_tryGrow_none_at { L with } b 0 _ l cap n _ c0 (by omega) hcm' (by omega)).mono ?_; rintro e w' ⟨rfl, rfl⟩)
  have hbW := hbk0.lt
  have hwn : IntKind.i64.wrap (n : Int) = n := by rw [IntKind.wrap_i64]; omega
  go_region_with_o (
      go_at_fn (ρ.f 290)
      refine (Zm4 { L with } (some x) l cap n olds _ ?_ (by omega) (by omega) (by omega) hc2 ?_ ?_).mono ?_
      · first | exact ho | rfl
      · exact hold0
      · first | exact h1 | exact fun v h => by cases h
      rintro e w2 ⟨cap2, cells, rfl, hN, hcsz, htk, hcap2, hcm2, hbel⟩
      have hbk2 : LibA.Three w2 b 0 T R (.slice (some x) l cap) (.int .i64 0) (.int .i8 lr) := hbk0.of_heap (hbel.block b hbW)
      have d0 : w2.cell? ⟨b, 0, none⟩ = some (.slice (some x) l cap) := hbk2.c0
      have d1 : w2.cell? ⟨b, 1, none⟩ = some (.int .i64 0) := hbk2.c1
      have e0 : w2.frozen? ⟨b, 0, none⟩ = false := hbk2.f 0
      have e1 : w2.frozen? ⟨b, 1, none⟩ = false := hbk2.f 1)
  all_goals (
    go_wp2
    go_ret
    have hsz0 : w'.heap.size = w.heap.size := by rw [HW0.out]; rfl
    have hg2 : w.grownBy w2 (some b) := Lib.grownBy_below (w := w'.drew) (by rw [HW0.out]; exact ⟨rfl, rfl, rfl, Nat.le_refl _, fun _ _ _ => rfl⟩) hbel
    refine ⟨rfl, cap2, cells, ?_, ?_, hcsz, htk, hcap2, hcm2, Lib.grownBy_setB (Lib.grownBy_setB (Lib.grownBy_setB hg2 0 _) 1 _) 0 _⟩
    · rw [← hsz0]; exact Zoh hbk2 _ _
    · have hNb : w.heap.size ≠ b := by omega
      rw [Below.heap_setCell _ _ _ _ hNb, Below.heap_setCell _ _ _ _ hNb, Below.heap_setCell _ _ _ _ hNb]
      rw [← hsz0]; exact hN)
end
end Go.Proofs.YtmlkhhidifjjfaaDoor
namespace Go.Proofs.YtmlkhhidifjjfaaDoor
open Go.Shelf Go.RowKit
section
variable {P:Program} {ρ:Ren}
def BufRow (w:World) (b:Nat) (A:Option Addr) (l cap:Nat) (olds:List Value):Prop :=
 olds.length=l∧l≤cap∧cap≤maxLen∧(∀ v ∈ olds,v.oneCell'=true)∧(cap=0∨∃ g cur t,A=some ⟨g,0,none⟩∧g≠b∧w.heap[g]?=some (.cells cur t (0,0))∧cur.size=cap∧cur.toList.take l=olds)
theorem BufRow.hold {w:World} {b:Nat} {A:Option Addr} {l cap:Nat} {olds:List Value} (h:BufRow w b A l cap olds):l=0∨∃ a,A=some a∧∀ j v,olds[j]?=some v→w.cell? (a.add j)=some v:=by
 obtain ⟨h1,h2,h3,h4,h5 | ⟨g,cur,t,h5,h6,h7,h8,h9⟩⟩:=h
 ·exact Or.inl (by omega)
 ·exact Or.inr ⟨_,h5,by rw [←h9];exact Lib.cells_of_row h7 l⟩
theorem Zyn (L:LaysM.n252 P ρ) (T:TypeId) (R:Nat→Option Value) (b:Nat) (A:Option Addr) (l cap:Nat) (olds:List Value) (n:Nat) (lr:Int) (w:World)
  (hbk:LibA.Three w b 0 T R (.slice A l cap) (.int .i64 0) (.int .i8 lr)) (hr:BufRow w b A l cap olds) (hA:A=none→cap=0) (hroom:cap - l < n) (hlim:l+n≤70368744177664) :
  Calls P (ρ.f 252) #[.pointer (some ⟨b,0,none⟩),.int .i64 n] w fun e w'=>e=.returned (.int .i64 l)∧Zh3 w T R b l n olds lr (ρ.t 5) w':=by
 have hold:=hr.hold
 obtain ⟨h1,h2,h3,h4,h5⟩:=hr
 cases A with
 | none =>
  have hc:=hA rfl
  subst hc
  have hl0:l=0:=by omega
  subst hl0
  have ho:olds=[]:=List.eq_nil_of_length_eq_zero h1
  subst ho
  by_cases h64:n≤64
  ·exact ZFo L T R b n lr w hbk (by omega) h64
  ·exact ZBw L T R b n lr w hbk (by omega) (by omega)
 | some x =>
  by_cases hl0:l=0
  ·subst hl0
   have ho:olds=[]:=List.eq_nil_of_length_eq_zero h1
   subst ho
   exact ZG7 L T R b x cap n lr w hbk (by omega) (by omega)
  ·exact ZBj L T R b x l cap olds n lr w hbk hl0 h1 h4 h2 hroom hlim hold
def ZqC (w:World) (T:TypeId) (R:Nat→Option Value) (b:Nat) (A:Option Addr) (l n cap:Nat) (all:List Value) (w':World):Prop :=
 ∃ A' cap',LibA.Three w' b 0 T R (.slice A' (l+n) cap') (.int .i64 0) (.int .i8 0)∧l+n≤cap'∧cap'≤maxLen ∧
  ((n=0∧A'=A∧cap'=cap∧w.grownBy w' (some b)) ∨
   ∃ G W1 Y t,A'=some ⟨G,0,none⟩∧(G=w.heap.size∨(A=some ⟨G,0,none⟩∧cap≠0))∧G≠b∧w.grownBy W1 (some b)∧W1.grownBy w' (some G)∧w'.heap[G]?=some (.cells Y t (0,0))∧Y.size=cap'∧Y.toList.take (l+n)=all)
set_option maxHeartbeats 6400000 in
set_option maxRecDepth 100000 in
theorem ZJY (L:LaysM.n180 P ρ) (T:TypeId) (R:Nat→Option Value) (b:Nat) (A:Option Addr) (l cap:Nat) (lr:Int) (olds news:List Value) (pa:Option Addr) (n pc:Nat) (w:World)
  (hbk:LibA.Three w b 0 T R (.slice A l cap) (.int .i64 0) (.int .i8 lr)) (hr:BufRow w b A l cap olds) (hA:A=none→cap=0) (hnews:news.length=n) (h1c:∀ v ∈ news,v.oneCell'=true)
  (hsrc:n=0∨∃ a,pa=some a∧a.block≠b∧∀ j v,news[j]?=some v→w.cell? (a.add j)=some v) (hlim:l+n≤70368744177664) :
  Calls P (ρ.f 180) #[.pointer (some ⟨b,0,none⟩),.slice pa n pc] w fun e w'=>e=.returned (.tuple #[.int .i64 n,.nilIface])∧ZqC w T R b A l n cap (olds++news) w':=by
 have mixed:=L.mixed
 have t5:=L.t5;have a5:=L.a5;have z5:=L.z5;have v5:=L.v5
 have t130:=L.t130;have a130:=L.a130;have z130:=L.z130;have v130:=L.v130
 have t37:=L.t37;have a37:=L.a37;have z37:=L.z37;have v37:=L.v37
 have t3:=L.t3;have a3:=L.a3;have z3:=L.z3;have v3:=L.v3
 have t75:=L.t75;have a75:=L.a75;have z75:=L.z75;have v75:=L.v75
 have t0:=L.t0;have a0:=L.a0;have z0:=L.z0;have v0:=L.v0
 have t93:=L.t93;have u93:=run_underlying L.t93;have a93:=L.a93;have z93:=L.z93;have v93:=L.v93
 have t91:=L.t91;have a91:=L.a91;have z91:=L.z91;have v91:=L.v91
 have t131:=L.t131;have a131:=L.a131;have z131:=L.z131;have v131:=L.v131
 have t4:=L.t4;have a4:=L.a4;have z4:=L.z4;have v4:=L.v4
 have e251:∀ args w,(callFunc (ρ.f 251) args).run P w=.ok (.enter (ρ.f 251) args) w:=enters_of L.f251 (by kernel_rfl) rfl
 have e252:∀ args w,(callFunc (ρ.f 252) args).run P w=.ok (.enter (ρ.f 252) args) w:=enters_of L.f252 (by kernel_rfl) rfl
 have c2:w.cell? ⟨b,2,none⟩=some (.int .i8 lr):=hbk.c2
 have f2:w.frozen? ⟨b,2,none⟩=false:=hbk.f 2
 have hinfo:(P.info? (ρ.t 5)).map (·.size)=some 1:=by
  obtain ⟨i0,hi,-,hz1,-⟩:=info_parts L.i5
  rw [hi];simp [hz1]
 obtain ⟨ho,hlc,hcm,h1,hrow⟩:=id hr
 have hbkA:LibA.Three (w.setCell ⟨b,2,none⟩ (.int .i8 0)) b 0 T R (.slice A l cap) (.int .i64 0) (.int .i8 0):=hbk.set2 _
 have hgA:w.grownBy (w.setCell ⟨b,2,none⟩ (.int .i8 0)) (some b):=Lib.grownBy_setCell w b 2 _
 have hszA:(w.setCell ⟨b,2,none⟩ (.int .i8 0)).heap.size=w.heap.size:=by simp [World.setCell]
 have hrA:BufRow (w.setCell ⟨b,2,none⟩ (.int .i8 0)) b A l cap olds:=⟨ho,hlc,hcm,h1,hrow.imp id fun ⟨g,cur,t,e,hgb,hg,r⟩=>⟨g,cur,t,e,hgb,(Below.heap_setCell _ _ _ _ hgb).trans hg,r⟩⟩
 by_cases hroom:n≤cap - l
 ·by_cases hs0:n=0
  ·
   subst hs0
   have hc0:news=[]:=List.eq_nil_of_length_eq_zero hnews
   subst hc0
   have hce:∀ d dLen dCap W,(Builtin.copy_ #[(ρ.t 37),(ρ.t 37)] (ρ.t 3) #[.slice d dLen dCap,.slice pa 0 pc]).run P W=.ok (goInt 0) W:=fun d dLen dCap W=>run_copy_none W (ρ.t 37) (ρ.t 37) (ρ.t 3) (ρ.t 5) d pa dLen dCap 0 pc L.t37 hinfo (by simp)
   have hT:∀ W,W.cell? ⟨b,0,none⟩=some (.slice A l cap)→W.frozen? ⟨b,0,none⟩=false→Calls P (ρ.f 251) #[.pointer (some ⟨b,0,none⟩),.int .i64 0] W (fun e w'=>e=.returned (.tuple #[.int .i64 l,.bool true])∧w'=W.setCell ⟨b,0,none⟩ (.slice A l cap)):=fun W q1 q2=>Any.Buffer_tryGrow_room_at { L with } b 0 A l cap 0 W q1 q2 hlc hcm (Nat.zero_le _)
   clear hsrc hroom hlim
   go_enter L.f180,Body.n180_ntmps ρ
   go_wp2_with (go_at_fn (ρ.f 251);refine (hT _ ?_ ?_).mono ?_)
   ·exact hbkA.c0
   ·exact hbkA.f 0
   rintro e W1 ⟨rfl,hW1⟩
   have hbk1:LibA.Three W1 b 0 T R (.slice A l cap) (.int .i64 0) (.int .i8 0):=by rw [hW1];exact hbkA.set0 _
   have hgW:w.grownBy W1 (some b):=by rw [hW1];exact Lib.grownBy_setB hgA 0 _
   clear hW1 hbkA hgA hszA hrA c2 f2 hT
   have d0:W1.cell? ⟨b,0,none⟩=some (.slice A l cap):=hbk1.c0
   have hcm':=hcm
   unfold maxLen at hcm'
   have hfin:ZqC w T R b A l 0 cap (olds++[]) W1:=⟨A,cap,hbk1,hlc,hcm,Or.inl ⟨rfl,rfl,rfl,hgW⟩⟩
   clear hrow hr
   cases A
   all_goals (go_wp2;all_goals (go_ret2;first | exact ⟨rfl,hfin⟩ | exact ⟨by simp,by simpa using hfin⟩ | (refine ⟨by simp,?_⟩;have hcl:l=cap:=(by omega);simpa [hcl] using hfin)))
  ·
   go_enter L.f180,Body.n180_ntmps ρ
   go_wp2_with (go_at_fn (ρ.f 251);refine (Any.Buffer_tryGrow_room_at { L with } b 0 A l cap n _ ?_ ?_ hlc hcm hroom).mono ?_)
   ·exact hbkA.c0
   ·exact hbkA.f 0
   rintro e W1 ⟨rfl,hW1⟩
   obtain ⟨G,cap',cur,t,hbk1,hG,hcs,htk,hlc',hcm',hGb,hGw,hgW⟩:∃ G cap' cur t,LibA.Three W1 b 0 T R (.slice (some ⟨G,0,none⟩) (l+n) cap') (.int .i64 0) (.int .i8 0)∧W1.heap[G]?=some (.cells cur t (0,0))∧cur.size=cap'∧cur.toList.take l=olds∧l+n≤cap'∧cap'≤maxLen∧G≠b∧(G=w.heap.size∨(A=some ⟨G,0,none⟩∧cap≠0))∧w.grownBy W1 (some b):=by
    obtain hc | ⟨g,cur,t,e,hgb,hg,hcs,htk⟩:=hrow
    ·omega
    ·refine ⟨g,cap,cur,t,?_,?_,hcs,htk,by omega,hcm,hgb,Or.inr ⟨e,by omega⟩,?_⟩
     ·rw [hW1,e];rw [e] at hbkA;exact hbkA.set0 _
     ·rw [hW1,Below.heap_setCell _ _ _ _ hgb,Below.heap_setCell _ _ _ _ hgb];exact hg
     ·rw [hW1];exact Lib.grownBy_setB hgA 0 _
   clear hW1 hbkA hgA hszA hrA c2 f2 hrow
   have d0:W1.cell? ⟨b,0,none⟩=some (.slice (some ⟨G,0,none⟩) (l+n) cap'):=hbk1.c0
   have hne:¬cap'=l:=by omega
   have hsrc1:n=0∨∃ a,pa=some a∧∀ j v,news[j]?=some v→W1.cell? (a.add j)=some v:=hsrc.imp id fun ⟨a,e,hab,h⟩=>⟨a,e,fun j v hj=>hgW.cell (h j v hj) (by rw [Lib.block_add];exact fun e=>hab (Option.some.inj e))⟩
   obtain ⟨W2,Y,hcp,hY,hYl,hgb,hsz⟩:=ZjA (P:=P) W1 (ρ.t 37) (ρ.t 37) (ρ.t 3) (ρ.t 5) G l n (cap' - l) pa n pc cur t news L.t37 hinfo hG hnews (Nat.le_refl _) hsrc1 (by omega) h1c
   have hYs:Y.size=cap':=by
    have h3:=congrArg List.length hYl
    simp only [List.length_append,List.length_drop,List.length_take,Array.length_toList] at h3
    omega
   have hYt:Y.toList.take (l+n)=olds++news:=by
    rw [hYl,htk,List.take_append_of_le_length (by simp;omega),List.take_of_length_le (by simp;omega)]
   have hW2:LibA.Three W2 b 0 T R (.slice (some ⟨G,0,none⟩) (l+n) cap') (.int .i64 0) (.int .i8 0):=hbk1.of_heap (hgb.block b hbk1.lt (fun e=>hGb (Option.some.inj e).symm))
   have hcm2:=hcm'
   unfold maxLen at hcm2
   have hgb0:=hgb
   have hYr:=hY
   clear hsrc hsrc1 hr hA
   go_wp2
   go_ret2
   exact ⟨rfl,_,_,hW2,hlc',hcm',Or.inr ⟨G,W1,Y,t,rfl,hGw,hGb,hgW,hgb0,hYr,hYs,hYt⟩⟩
 ·
  go_enter L.f180,Body.n180_ntmps ρ
  go_wp2_with (go_at_fn (ρ.f 251);refine (Any.Buffer_tryGrow_none_at { L with } b 0 A l cap n _ ?_ hlc hcm (by omega)).mono ?_)
  ·exact hbkA.c0
  rintro e W0 ⟨rfl,hW0⟩
  rw [←hW0] at hbkA hgA hszA hrA
  clear hW0 c2 f2
  have hroom':cap - l < n:=by omega
  go_wp2_with (go_at_fn (ρ.f 252);refine (Zyn { L with } T R b A l cap olds n 0 _ ?_ ?_ hA hroom' hlim).mono ?_)
  ·exact hbkA
  ·exact hrA
  rintro e W1 ⟨rfl,cap',cur,hbk1,hG,hcs,htk,hlc',hcm',hgB⟩
  obtain ⟨G,hGe⟩:∃ G,G=w.heap.size:=⟨_,rfl⟩
  rw [hszA,←hGe] at hbk1 hG
  have hGw:G=w.heap.size∨(A=some ⟨G,0,none⟩∧cap≠0):=Or.inl hGe
  have hGb:G≠b:=by have:=hbk.lt;omega
  have hgW:w.grownBy W1 (some b):=Lib.grownBy_trans hgA hgB
  obtain ⟨t,ht⟩:∃ t,t=ρ.t 5:=⟨_,rfl⟩
  rw [←ht] at hG
  clear hbkA hgA hszA hrA hgB hGe hrow hroom
  have d0:W1.cell? ⟨b,0,none⟩=some (.slice (some ⟨G,0,none⟩) (l+n) cap'):=hbk1.c0
  have hne:¬cap'=l:=by omega
  have hsrc1:n=0∨∃ a,pa=some a∧∀ j v,news[j]?=some v→W1.cell? (a.add j)=some v:=hsrc.imp id fun ⟨a,e,hab,h⟩=>⟨a,e,fun j v hj=>hgW.cell (h j v hj) (by rw [Lib.block_add];exact fun e=>hab (Option.some.inj e))⟩
  obtain ⟨W2,Y,hcp,hY,hYl,hgb,hsz⟩:=ZjA (P:=P) W1 (ρ.t 37) (ρ.t 37) (ρ.t 3) (ρ.t 5) G l n (cap' - l) pa n pc cur t news L.t37 hinfo hG hnews (Nat.le_refl _) hsrc1 (by omega) h1c
  have hYs:Y.size=cap':=by
   have h3:=congrArg List.length hYl
   simp only [List.length_append,List.length_drop,List.length_take,Array.length_toList] at h3
   omega
  have hYt:Y.toList.take (l+n)=olds++news:=by
   rw [hYl,htk,List.take_append_of_le_length (by simp;omega),List.take_of_length_le (by simp;omega)]
  have hW2:LibA.Three W2 b 0 T R (.slice (some ⟨G,0,none⟩) (l+n) cap') (.int .i64 0) (.int .i8 0):=hbk1.of_heap (hgb.block b hbk1.lt (fun e=>hGb (Option.some.inj e).symm))
  have hcm2:=hcm'
  unfold maxLen at hcm2
  have hgb0:=hgb
  have hYr:=hY
  clear hsrc hsrc1 hr hA
  go_wp2
  go_ret2
  exact ⟨rfl,_,_,hW2,hlc',hcm',Or.inr ⟨G,W1,Y,t,rfl,hGw,hGb,hgW,hgb0,hYr,hYs,hYt⟩⟩
end
end Go.Proofs.YtmlkhhidifjjfaaDoor
namespace Go.Proofs.YtmlkhhidifjjfaaDoor
open Go.Shelf Go.RowKit
section
variable {P:Program} {ρ:Ren} {base:Nat→Prop} {w0 w w':World} {I0 I:Imm} {β:Bmap} {σ:Za}
theorem Zz1 {b:Nat} {ty:TypeId} {x y z:Value} (h:LibA.Three w b 0 ty (fun _=>none) x y z):w.heap[b]?=some (.cells #[x,y,z] ty (0,0)):=by
 obtain ⟨cs,hb,h0,h1,h2,hr⟩:=h
 rw [hb]
 have : cs=#[x,y,z]:=by
  apply Array.ext_getElem?
  intro i
  match i with
  | 0=>exact h0
  | 1=>exact h1
  | 2=>exact h2
  | i+3=>rw [hr (i+3) (Or.inr (by omega))];exact (Array.getElem?_eq_none (by simp)).symm
 rw [this]
theorem ZDx {k:Nat} {y:AVal} {ys:List AVal} {b off:Nat} (h:LR I β k (y::ys) b off) (hk:0 < k):∃ u,I b off=some u:=by
 rw [Zfl] at h
 obtain ⟨⟨h1,h2⟩,_⟩:=h
 cases hc:y.cells with
 | nil=>rw [hc] at h1;simp at h1;omega
 | cons c cs =>
  rw [hc] at h2
  simp only [CR] at h2
  obtain ⟨⟨u,hu,_⟩,_⟩:=h2
  exact ⟨u,hu⟩
theorem ZBb (R:Rel base w0 I0 I β σ w) {b:Nat} (hb:∀ o,I b o=none) {y:Bool} {ys:List AVal} {v:Value} (hv:VR I β (.lst y ys) v) (hk:kOk 1 ys=true) :
  ∃ A cap news,v=.slice A ys.length cap∧news.length=ys.length∧VRs I β (ys.flatMap AVal.cells) news∧Z5 ys=true∧(∀ x ∈ ys,x.cells.length=1)∧(∀ v ∈ news,v.oneCell'=true) ∧
   (ys.length=0∨∃ a,A=some a∧a.block≠b∧∀ j v,news[j]?=some v→w.cell? (a.add j)=some v):=by
 have hv0:=hv
 obtain ⟨A,cap,e,_,_,htree,hc⟩:=Zko R hv
 by_cases hne:ys=[]
 ·subst hne
  exact ⟨A,cap,[],e,rfl,by simp [VRs],rfl,by simp,by simp,Or.inl rfl⟩
 ·rcases hc with hc | ⟨b',off,k,us,hA,hk0,hl,hvs,hcell⟩
  ·exact absurd hc hne
  have e1:=ZjJ hk hl hne
  subst e1
  refine ⟨A,cap,us,e,by rw [←ZaQ hvs,ZdV hl,Nat.mul_one],hvs,htree,hl,Zf2 (fun z hz=>Zij (ZcQ.1 (ZkR htree) z hz)) hvs,Or.inr ⟨⟨b',off,none⟩,hA,?_,fun j v hj=>by rw [Addr.add_mid];exact hcell j v hj⟩⟩
  rintro rfl
  simp only [VR] at hv0
  obtain ⟨A',cap',e',_,_,_,h5,_⟩:=hv0
  rcases h5 with h5 | ⟨b2,off2,k2,e2,hk2,h5⟩
  ·exact hne h5
  ·rw [e] at e'
   injection e' with e' _ _
   rw [e'] at hA
   rw [hA] at e2
   injection e2 with e2
   injection e2 with e2 e3
   cases ys with
   | nil=>exact hne rfl
   | cons z zs =>
    obtain ⟨u,hu⟩:=ZDx h5 hk2
    rw [←e2,hb] at hu;cases hu
theorem Zqw (L : LaysM.n180 P ρ) (hb : KLt base w0) {c0 : AVal} {lr : Int} {g : Nat} {xs : List AVal} (R : Rel base w0 I0 I β [.var [c0, .int .i64 0, .int .i8 lr], .row g 1 xs] w)
    {bi : BI} (hbi : β 1 g = some bi) {b kk cc : Nat} (hβ0 : β 0 0 = some ⟨some b, kk, cc⟩) {A : Option Addr} {cap : Nat} {ty : TypeId}
    (hheap : w.heap[b]? = some (.cells #[.slice A xs.length cap, .int .i64 0, .int .i8 lr] ty (0, 0)))
    (hA : (∃ gb, bi.b = some gb ∧ A = some ⟨gb, 0, none⟩ ∧ cap = bi.cap) ∨ (bi.b = none ∧ cap = 0 ∧ bi.cap = 0))
    {y : Bool} {ys : List AVal} {v1 : Value} (hv1 : VR I β (.lst y ys) v1) (hlim : xs.length + ys.length ≤ ZbO) (hk : kOk 1 ys = true) :
    Calls P (ρ.f 180) #[.pointer (some ⟨b, 0, none⟩), v1] w (fun e w' => ∃ u, Ends (.tup [.int .i64 ys.length, .nili]) e u ∧ ∃ β', β.le β' ∧
      Rel base w0 I0 I β' [.var [.sl 1 (g + 1) 0 (xs ++ ys).length, .int .i64 0, .int .i8 0], .row (g + 1) 1 (xs ++ ys)] w' ∧ VR I β' (.tup [.int .i64 ys.length, .nili]) u) := by
  have hbw := R.base_le hb
  have how : ZA β 0 (.var [c0, .int .i64 0, .int .i8 lr]) = some b := by simp only [ZA, hβ0, Option.bind_some]
  have hob := R.own 0 _ b rfl how
  obtain ⟨bi', hbi', hk1, _, hcap63, hxl, htree, hlens, hrow⟩ := R.blk 1 (.row g 1 xs) rfl
  rw [hbi] at hbi'; injection hbi' with hbi'; subst hbi'
  have hor : ZA β 1 (.row g 1 xs) = bi.b := by simp only [ZA, hbi, Option.bind_some]
  obtain ⟨olds, hBR, hvo, hA0⟩ : ∃ olds, BufRow w b A xs.length cap olds ∧ VRs I β (xs.flatMap AVal.cells) olds ∧ (A = none → cap = 0) := by
    rcases hA with ⟨gb, e1, e2, e3⟩ | ⟨e1, e2, e3⟩
    · rcases hrow with ⟨h1, h2⟩ | ⟨gb', us, ty', h1, h2, h3, h4⟩
      · rw [e1] at h1; cases h1
      · rw [e1] at h1; injection h1 with h1; subst h1
        rw [Nat.mul_one] at h3 h4
        have hgb : gb ≠ b := by
          rintro rfl
          have := R.apart 0 _ 1 _ gb rfl rfl how (by rw [hor, e1])
          omega
        refine ⟨us.toList.take xs.length, ⟨by have h9 : us.toList.length = us.size := us.length_toList; rw [List.length_take]; omega, by omega, by unfold maxLen; omega, Zf2 (fun z hz => Zij (ZcQ.1 (ZkR htree) z hz)) h4, Or.inr ⟨gb, us, ty', e2, hgb, h2, by omega, rfl⟩⟩, h4, by rw [e2]; intro h; cases h⟩
    · have hx : xs = [] := List.eq_nil_of_length_eq_zero (by omega)
      subst hx
      exact ⟨[], ⟨rfl, by simp, by unfold maxLen; omega, by simp, Or.inl e2⟩, by simp [VRs], fun _ => e2⟩
  obtain ⟨A1, cap1, news, rfl, hnl, hvn, htn, hln, hn1, hsrc⟩ := ZBb R hob.2 hv1 hk
  refine (ZJY L ty (fun _ => none) b A xs.length cap lr olds news A1 ys.length cap1 w (LibA.three_whole hheap) hBR hA0 hnl hn1 hsrc (by unfold ZbO at hlim; omega)).mono ?_
  rintro e w' ⟨rfl, A', cap', hT, hle, hcm, hcase⟩
  refine ⟨_, rfl, ?_⟩
  have hT' := Zz1 hT
  unfold maxLen at hcm
  obtain ⟨w1, hw1⟩ : ∃ w1 : World, w1 = { w with heap := w.heap.setIfInBounds b (.cells #[.slice A' (xs.length + ys.length) cap', .int .i64 0, .int .i8 0] ty (0, 0)) } := ⟨_, rfl⟩
  have hbl : b < w.heap.size := Lib.lt_of_heap hheap
  have h1b : w1.heap[b]? = w'.heap[b]? := by rw [hw1, hT']; simp [hbl]
  have h1o : ∀ k, k ≠ b → w1.heap[k]? = w.heap[k]? := fun k hk => by rw [hw1]; exact Array.getElem?_setIfInBounds_ne (fun e => hk e.symm)
  have h1s : w1.heap.size = w.heap.size := by rw [hw1]; simp
  have R1 : Rel base w0 I0 I β [.var [.top, .int .i64 0, .int .i8 0], .row g 1 xs] w1 := by
    have := R.putObj (t := 0) (x' := .var [.top, .int .i64 0, .int .i8 0]) rfl how (by simp only [ZA, hβ0, Option.bind_some]) (.cells #[.slice A' (xs.length + ys.length) cap', .int .i64 0, .int .i8 0] ty (0, 0))
      ⟨b, kk, cc, _, ty, hβ0, by simp [hbl]; rfl, by simp [VRs, VR]⟩ rfl
    rw [hw1]; exact this
  obtain ⟨bi2, hB, keep, hbi2, hblk, hv2⟩ : ∃ bi2 : BI, KB base w1 w' ∧ (∀ b', ZA β 1 (.row g 1 xs) ≠ some b' → b' < w1.heap.size → w'.heap[b']? = w1.heap[b']?) ∧ (bi2.b = none ∨ ∃ b', bi2.b = some b' ∧ (ZA β 1 (.row g 1 xs) = some b' ∨ b' = w1.heap.size)) ∧
      BR I (β.put 1 (g + 1) bi2) w' 1 (.row (g + 1) 1 (xs ++ ys)) ∧ VR I (β.put 1 (g + 1) bi2) (.sl 1 (g + 1) 0 (xs ++ ys).length) (.slice A' (xs.length + ys.length) cap') := by
    have hle2 : β.le (β.put 1 (g + 1) bi) → True := fun _ => trivial
    have hnone : β 1 (g + 1) = none := R.gen 1 _ (g + 1) rfl (by simp [Zo])
    rcases hcase with ⟨hn0, rfl, rfl, hgB⟩ | ⟨G, W1, Y, t, rfl, hGw, hGb, hg1, hg2, hY, hYs, hYt⟩
    · have hy : ys = [] := List.eq_nil_of_length_eq_zero hn0
      subst hy
      simp only [List.append_nil, List.length_nil, Nat.add_zero]
      have hbl' : β.le (β.put 1 (g + 1) bi) := Bmap.put_le hnone
      have same : ∀ k, k < w.heap.size → w'.heap[k]? = w1.heap[k]? := by
        intro k hk
        by_cases e : k = b
        · rw [e, h1b]
        · rw [h1o k e]; exact hgB.block k hk (fun h => e (Option.some.inj h))
      refine ⟨bi, ⟨by rw [hw1]; exact hgB.os, by rw [hw1]; exact hgB.tape, by rw [hw1]; exact hgB.output, by rw [h1s]; exact hgB.size, fun k hk => same k (hbw k hk)⟩, fun b' _ hb' => same b' (by omega), ?_, ?_, ?_⟩
      · rw [hor]
        cases bi.b with
        | none => exact Or.inl rfl
        | some x => exact Or.inr ⟨x, rfl, Or.inl rfl⟩
      · refine ⟨bi, Bmap.put_same β 1 (g + 1) bi, hk1, by omega, hcap63, hxl, htree, hlens, hrow.imp id ?_⟩
        rintro ⟨gb, us, ty', q1, q2, q3, q4⟩
        have hgb : gb ≠ b := by
          rintro rfl
          have := R.apart 0 _ 1 _ gb rfl rfl how (by rw [hor, q1])
          omega
        exact ⟨gb, us, ty', q1, by rw [same gb (Lib.lt_of_heap q2), h1o gb hgb]; exact q2, q3, VRs.mono (Imm.le.refl I) hbl' _ _ q4⟩
      · rw [ZbX]
        refine ⟨bi, Bmap.put_same β 1 (g + 1) bi, hxl, hcap63, ?_⟩
        rcases hA with ⟨gb, e1, e2, e3⟩ | ⟨e1, e2, e3⟩
        · exact Or.inl ⟨gb, e1, by rw [e2, e3]⟩
        · have hx : xs.length = 0 := by omega
          exact Or.inr ⟨e1, e3, _, by rw [hx, e2]⟩
    · have hbl' : β.le (β.put 1 (g + 1) ⟨some G, 1, cap'⟩) := Bmap.put_le hnone
      have hGo : ZA β 1 (.row g 1 xs) = some G ∨ G = w1.heap.size := by
        rcases hGw with e | ⟨e, hc0⟩
        · exact Or.inr (by rw [h1s]; exact e)
        · refine Or.inl ?_
          rw [hor]
          rcases hA with ⟨gb, e1, e2, e3⟩ | ⟨e1, e2, e3⟩
          · rw [e2] at e; injection e with e; injection e with e; rw [e1, e]
          · exact absurd e2 hc0
      have hsz1 : w.heap.size ≤ W1.heap.size := hg1.size
      have same : ∀ k, k < w.heap.size → k ≠ G → w'.heap[k]? = w1.heap[k]? := by
        intro k hk hkG
        by_cases e : k = b
        · rw [e, h1b]
        · rw [h1o k e]; exact (hg2.block k (by omega) (fun h => hkG (Option.some.inj h))).trans (hg1.block k hk (fun h => e (Option.some.inj h)))
      refine ⟨⟨some G, 1, cap'⟩, ⟨by rw [hw1]; exact hg2.os.trans hg1.os, by rw [hw1]; exact hg2.tape.trans hg1.tape, by rw [hw1]; exact hg2.output.trans hg1.output, by rw [h1s]; exact Nat.le_trans hg1.size hg2.size, fun k hk => same k (hbw k hk) ?_⟩, fun b' hb1 hb' => same b' (by omega) ?_, Or.inr ⟨G, rfl, hGo⟩, ?_, ?_⟩
      · rintro rfl
        rcases hGo with e | e
        · exact (R.own 1 _ _ rfl e).1 hk
        · have := hbw _ hk; omega
      · rintro rfl
        rcases hGo with e | e
        · exact hb1 e
        · omega
      · refine ⟨_, Bmap.put_same β 1 (g + 1) _, rfl, by omega, hcm, by rw [List.length_append]; exact hle, by rw [Zgz htree htn], ?_, Or.inr ⟨G, Y, t, rfl, hY, by rw [hYs, Nat.mul_one], ?_⟩⟩
        · intro x hx
          rcases List.mem_append.1 hx with h | h
          · exact hlens x h
          · exact hln x h
        · rw [List.length_append, Nat.mul_one, hYt, ZeJ]
          exact Zcf (VRs.mono (Imm.le.refl I) hbl' _ _ hvo) (VRs.mono (Imm.le.refl I) hbl' _ _ hvn)
      · rw [ZbX]
        exact ⟨_, Bmap.put_same β 1 (g + 1) _, by rw [List.length_append]; exact hle, hcm, Or.inl ⟨G, rfl, by rw [List.length_append]⟩⟩
  have hbw1 : KLt base w1 := fun k hk => by rw [h1s]; exact hbw k hk
  obtain ⟨R2, hle2⟩ := R1.grow (t := 1) (g := g) (k := 1) (xs := xs) (xs' := xs ++ ys) rfl bi2 hB (by
    intro b' o u hI
    have hne : b' ≠ b := by rintro rfl; rw [hob.2 o] at hI; cases hI
    have hlt : b' < w1.heap.size := by rw [h1s]; exact ZdI (R.imm _ _ _ hI)
    have hno : ZA β 1 (.row g 1 xs) ≠ some b' := fun e => by have := (R.own 1 _ b' rfl e).2 o; rw [this] at hI; cases hI
    rw [← R1.imm b' o u hI]
    simp only [World.cell?, keep b' hno hlt]) keep hbi2 hbw1 hblk
  have hβ2 : (β.put 1 (g + 1) bi2) 0 0 = some ⟨some b, kk, cc⟩ := hle2 _ _ _ hβ0
  refine ⟨β.put 1 (g + 1) bi2, hle2, ?_, by simp [VR, VRs]⟩
  refine R2.upd (Imm.le.refl I) (Bmap.le.refl _) (KB.refl _ _) (fun _ _ _ => rfl) R2.imm 0 (.var [.sl 1 (g + 1) 0 (xs ++ ys).length, .int .i64 0, .int .i8 0]) rfl (by simp) (fun _ _ _ => rfl) ?_ ?_ ?_ ?_ (by simp)
  · intro t' x b' hne hx hb'
    refine ⟨rfl, (R2.own t' x b' hx hb').2, ?_⟩
    simp only [ZA, hβ2, Option.bind_some]
    intro e; injection e with e; subst e
    exact hne (R2.apart t' x 0 _ b hx rfl hb' (by simp only [ZA, hβ2, Option.bind_some]))
  · exact ⟨b, kk, cc, _, ty, hβ2, hT', by simp only [VRs]; exact ⟨_, _, rfl, hv2, _, _, rfl, by simp [VR], _, _, rfl, by simp [VR], rfl⟩⟩
  · intro b' e
    simp only [ZA, hβ2, Option.bind_some] at e; injection e with e; subst e
    exact R2.own 0 _ b rfl (by simp only [ZA, hβ2, Option.bind_some])
  · intro g' hg'
    exact R2.gen 0 _ g' rfl (by simpa [Zo] using hg')
theorem Zx2 (L:LaysM.n180 P ρ) {f:FuncId} (hf:ρ.f 180=f) (hx:∃ fn,P.funcs[f]?=some fn∧fn.body.isSome=true∧(fn.name == "runtime.NumGoroutine")=false) {args:List AVal} {σ σ':Za} {r:AVal} (hg:ZgF args σ=some (r,σ')) :
  (∃ fn,P.funcs[f]?=some fn∧fn.body.isSome=true∧(fn.name == "runtime.NumGoroutine")=false) ∧
  ∀ base w0 I0 I β w (vs:Array Value),KLt base w0→Rel base w0 I0 I β σ w→VRs I β args vs.toList →
   Calls P f vs w (fun e w'=>∃ u,Ends r e u∧ZbR σ.length base w0 I0 I β r σ' u w'):=by
 refine ⟨hx,?_⟩
 intro base w0 I0 I β w vs hb R hargs
 subst hf
 unfold ZgF at hg
 split at hg
 ·
  rename_i y ys lr
  split at hg
  case isFalse=>cases hg
  rename_i hc
  simp only [Option.some.injEq,Prod.mk.injEq] at hg
  obtain ⟨rfl,rfl⟩:=hg
  simp only [VRs] at hargs
  obtain ⟨v0,_,hvs,h0,v1,_,rfl,h1,rfl⟩:=hargs
  have hvs':vs=#[v0,v1]:=by rw [←Array.toList_inj];exact hvs
  subst hvs'
  simp only [VR] at h0
  obtain ⟨b,k,c,hβ0,rfl⟩:=h0
  obtain ⟨b',k',c',us,ty,hβ,hheap,hcs⟩:=R.blk 0 _ rfl
  rw [hβ0] at hβ;injection hβ with hβ;injection hβ with hβ1 hβ2 hβ3;injection hβ1 with hβ1;subst hβ1 hβ2 hβ3
  simp only [VRs] at hcs
  obtain ⟨u0,_,hus,hu0,u1,_,rfl,hu1,u2,_,rfl,hu2,rfl⟩:=hcs
  simp only [VR] at hu0 hu1 hu2
  obtain ⟨A,cap,rfl,_,_,hcap,_,_⟩:=hu0
  have hcap0:cap=0:=by simpa using hcap
  subst hu1 hu2 hcap0
  have hus':us=#[.slice A 0 0,.int .i64 0,.int .i8 lr]:=by rw [←Array.toList_inj];simpa using hus
  subst hus'
  have R1:=R.reserve 1
  have hfree:([.var [.lst true [],.int .i64 0,.int .i8 lr]]++List.replicate 1 ZJ.free)[1]?=some .free:=rfl
  obtain ⟨R2,hle⟩:=R1.newNone hfree 1 (by omega)
  have R3:Rel base w0 I0 I (β.put 1 0 ⟨none,1,0⟩) [.var [.lst true [],.int .i64 0,.int .i8 lr],.row 0 1 []] w:=R2
  refine (Zqw L hb R3 (bi:=⟨none,1,0⟩) (Bmap.put_same β 1 0 _) (hle _ _ _ hβ0) (A:=A) (cap:=0) hheap (Or.inr ⟨rfl,rfl,rfl⟩) (h1.mono (Imm.le.refl I) hle _ _) (by simpa using hc.1) hc.2).mono ?_
  rintro e w' ⟨u,he,β',hb',hR,hv⟩
  obtain ⟨β2,hk2,hR2,_⟩:=ZoN hR 1 []
  refine ⟨u,he,I,β2,Imm.le.refl I,(KeptE.of_le (hle.trans hb')).trans hk2,?_,by simpa [ZaP,VR,VRs] using hv⟩
  have hgc:(gcA 1 [] [.var [.sl 1 (0+1) 0 ([]++ys).length,.int .i64 0,.int .i8 0],.row (0+1) 1 ([]++ys)]).2=[.var [.sl 1 0 0 ys.length,.int .i64 0,.int .i8 0],.row 0 1 ys]:=rfl
  rw [hgc] at hR2
  exact hR2
 ·rename_i y ys g m lr g' xs
  split at hg
  case isFalse=>cases hg
  rename_i hc
  obtain ⟨rfl,rfl,hc1,hc2⟩:=hc
  simp only [Option.some.injEq,Prod.mk.injEq] at hg
  obtain ⟨rfl,rfl⟩:=hg
  simp only [VRs] at hargs
  obtain ⟨v0,_,hvs,h0,v1,_,rfl,h1,rfl⟩:=hargs
  have hvs':vs=#[v0,v1]:=by rw [←Array.toList_inj];exact hvs
  subst hvs'
  simp only [VR] at h0
  obtain ⟨b,k,c,hβ0,rfl⟩:=h0
  obtain ⟨b',k',c',us,ty,hβ,hheap,hcs⟩:=R.blk 0 _ rfl
  rw [hβ0] at hβ;injection hβ with hβ;injection hβ with hβ1 hβ2 hβ3;injection hβ1 with hβ1;subst hβ1 hβ2 hβ3
  obtain ⟨bi,hbi,hk1,_⟩:=R.blk 1 (.row g 1 xs) rfl
  simp only [VRs] at hcs
  obtain ⟨u0,_,hus,hu0,u1,_,rfl,hu1,u2,_,rfl,hu2,rfl⟩:=hcs
  rw [ZbX] at hu0
  simp only [VR] at hu1 hu2
  subst hu1 hu2
  obtain ⟨bi',hbi',_,_,hcase⟩:=hu0
  rw [hbi] at hbi';injection hbi' with hbi';subst hbi'
  obtain ⟨A,cap,rfl,hA⟩:∃ A cap,u0=.slice A xs.length cap∧((∃ gb,bi.b=some gb∧A=some ⟨gb,0,none⟩∧cap=bi.cap)∨(bi.b=none∧cap=0∧bi.cap=0)):=by
   rcases hcase with ⟨gb,e1,e2⟩ | ⟨e1,e2,A,e3⟩
   ·exact ⟨_,_,e2,Or.inl ⟨gb,e1,rfl,rfl⟩⟩
   ·obtain ⟨bi2,hbi2,_,_,_,hxl,_⟩:=R.blk 1 (.row g 1 xs) rfl
    rw [hbi] at hbi2;injection hbi2 with hbi2;subst hbi2
    exact ⟨A,0,by rw [e3,show xs.length=0 by omega],Or.inr ⟨e1,rfl,e2⟩⟩
  have hus':us=#[.slice A xs.length cap,.int .i64 0,.int .i8 lr]:=by rw [←Array.toList_inj];simpa using hus
  subst hus'
  refine (Zqw L hb R hbi hβ0 hheap hA h1 hc1 hc2).mono ?_
  rintro e w' ⟨u,he,β',hb',hR,hv⟩
  exact ⟨u,he,I,β',Imm.le.refl I,KeptE.of_le hb',hR,hv⟩
 ·cases hg
end
end Go.Proofs.YtmlkhhidifjjfaaDoor
namespace Go.Proofs.YtmlkhhidifjjfaaDoor
open Go.Shelf
def ZCP:Ren:=⟨fun | 180=>130 | 251=>150 | 252=>151 | 181=>159 | 184=>160 | 290=>161 | 324=>164 | n=>n,fun | 130=>190 | 37=>22 | 3=>3 | 75=>187 | 0=>0 | 93=>135 | 91=>133 | 131=>123 | 4=>4 | 20=>20 | 5=>5 | 80=>118 | 9=>9 | n=>n,fun | 14=>2 | n=>n⟩
theorem ZE3:Go.Proofs.LaysM.n180 Tryd.prog ZCP:={ mixed:=by kernel_rfl,f180:=Tryd.func130.trans (congrArg some (by kernel_rfl)),f181:=Tryd.func159.trans (congrArg some (by kernel_rfl)),f184:=Tryd.func160.trans (congrArg some (by kernel_rfl)),f251:=Tryd.func150.trans (congrArg some (by kernel_rfl)),f252:=Tryd.func151.trans (congrArg some (by kernel_rfl)),f290:=Tryd.func161.trans (congrArg some (by kernel_rfl)),f324:=Tryd.func164.trans (congrArg some (by kernel_rfl)),t0:=Tryd.underlying0,a0:=Tryd.isAgg0,z0:=Tryd.sizeOf0,v0:=Tryd.zeroValue0,t3:=Tryd.underlying3,a3:=Tryd.isAgg3,z3:=Tryd.sizeOf3,v3:=Tryd.zeroValue3,t4:=Tryd.underlying4,a4:=Tryd.isAgg4,z4:=Tryd.sizeOf4,v4:=Tryd.zeroValue4,t20:=Tryd.underlying20,a20:=Tryd.isAgg20,z20:=Tryd.sizeOf20,v20:=Tryd.zeroValue20,t37:=Tryd.underlying22,a37:=Tryd.isAgg22,z37:=Tryd.sizeOf22,v37:=Tryd.zeroValue22,t75:=Tryd.underlying187,a75:=Tryd.isAgg187,z75:=Tryd.sizeOf187,v75:=Tryd.zeroValue187,t91:=Tryd.underlying133,a91:=Tryd.isAgg133,z91:=Tryd.sizeOf133,v91:=Tryd.zeroValue133,t93:=Tryd.underlying135,a93:=Tryd.isAgg135,z93:=Tryd.sizeOf135,v93:=Tryd.zeroValue135,t130:=Tryd.underlying190,a130:=Tryd.isAgg190,z130:=Tryd.sizeOf190,v130:=Tryd.zeroValue190,t131:=Tryd.underlying123,a131:=Tryd.isAgg123,z131:=Tryd.sizeOf123,v131:=Tryd.zeroValue123,g14:=by kernel_rfl,t5:=Tryd.underlying5,a5:=Tryd.isAgg5,z5:=Tryd.sizeOf5,v5:=Tryd.zeroValue5,t9:=Tryd.underlying9,a9:=Tryd.isAgg9,z9:=Tryd.sizeOf9,v9:=Tryd.zeroValue9,t80:=Tryd.underlying118,a80:=Tryd.isAgg118,z80:=Tryd.sizeOf118,v80:=Tryd.zeroValue118,i0:=by kernel_rfl,i3:=by kernel_rfl,i4:=by kernel_rfl,i5:=by kernel_rfl,i9:=by kernel_rfl,i20:=by kernel_rfl,i37:=by kernel_rfl,i75:=by kernel_rfl,i80:=by kernel_rfl,i91:=by kernel_rfl,i93:=by kernel_rfl,i130:=by kernel_rfl,i131:=by kernel_rfl,m14:=by kernel_rfl }
end Go.Proofs.YtmlkhhidifjjfaaDoor
namespace Go.Proofs.YtmlkhhidifjjfaaDoor
theorem ZBg:∃ fn,Tryd.prog.funcs[130]?=some fn∧fn.body.isSome=true∧(fn.name == "runtime.NumGoroutine")=false:=⟨Tryd.f130,Tryd.func130,by kernel_rfl,by kernel_rfl⟩
theorem ZDX:Zk7 Tryd.prog PR1:=by
 intro f g h args σ r σ' hg
 unfold PR1 at h
 split at h
 ·rename_i e;subst e
  injection h with h;subst h
  exact ZEn hg
 ·split at h
  ·rename_i e;subst e
   injection h with h;subst h
   exact Zx2 ZE3 rfl ZBg hg
  ·exact Zss f g h args σ r σ' hg
theorem ZHJ:ZaH Tryd.prog E1:=by
 have h:E1=EV CF PR1 BY:=ZGx CF PR1 BY
 rw [h]
 exact ZBE ZiB ZDX ann BY
end Go.Proofs.YtmlkhhidifjjfaaDoor
namespace Go.Proofs.YtmlkhhidifjjfaaDoor
open Go.RowKit Go.Shelf Go.Lib
theorem ZL0 {W:World} (h:Lib.Utf8Tabs 0 1 W):Gl.le (Imm.of W):=by
 intro b o u hu
 unfold Gl at hu
 unfold Imm.of
 split at hu
 ·rename_i e;subst e
  split at hu
  ·rename_i ho
   rw [h.1 o ho,←hu]
  ·cases hu
 ·split at hu
  ·rename_i e;subst e
   split at hu
   ·rename_i ho
    rw [←hu]
    obtain ⟨h1,h2⟩:=h.2 (o / 2) (by omega)
    by_cases hp:o % 2=0
    ·rw [if_pos hp,←h1];congr 2;omega
    ·rw [if_neg hp,←h2];congr 2;omega
   ·cases hu
  ·cases hu
section
open Go.RowKit
variable {H:Type} {enc:TypeId×Value→H} {P:Program} {w:World} {spare:Nat→Bool} {held:Bool}
end
end Go.Proofs.YtmlkhhidifjjfaaDoor
namespace Go.Proofs.YtmlkhhidifjjfaaDoor
open Go.ChangeShapes Go.WideShapes Go.ChangeAt Go.RowKit Go.Deep
theorem ZFR:ownKnob Tryd.prog.godebug=none:=by kernel_rfl
theorem ZuU:laidOutB Tryd.prog=true:=by kernel_rfl
theorem ZHm {W:World} (hLH:laidMetH Tryd.prog Rows.packetOnceRow.laid W):Gl.le (Imm.of W):=by
 have hL:laidMet Tryd.prog Rows.packetOnceRow.laid W:=by rw [←MakeChecks.laidMetH_plain _ _ _ (by kernel_rfl)];exact hLH
 have e1:Rows.laid_unicode_utf8_first=Lib.firstData:=by kernel_rfl
 have e2:(Rows.laid_unicode_utf8_acceptRanges:DataW Unit)=Lib.acceptData:=by kernel_rfl
 have h1:Lib.VarReads Tryd.prog W "unicode/utf8.first" Lib.firstData:=by rw [←e1];exact Lib.laidMet.reads hL (.tail _ (.tail _ (.head _)))
 have h2:Lib.VarReads Tryd.prog W "unicode/utf8.acceptRanges" Lib.acceptData:=by rw [←e2];exact Lib.laidMet.reads hL (.head _)
 exact ZL0 (utf8Tabs_of_readsT (U8Types.of196 Zqg) ⟨by kernel_rfl,by kernel_rfl,by kernel_rfl,by kernel_rfl,by kernel_rfl,by kernel_rfl,by kernel_rfl⟩ h1 h2)
set_option maxRecDepth 100000 in
set_option maxHeartbeats 1000000 in
theorem ZGY (H:Type) (enc:TypeId×Value→H) (W:World) (base:Nat) (args:Array Value) (ds gs:List (DataW H)) (before:List MemPlace) (vts:List TypeId)
  (hval0:∀ (j:Nat) t v,Tryd.f8.params[j]?=some t→args[j]?=some v→Value.okWide Tryd.prog W .any base t v)
  (hW:DataW.Whole enc Tryd.prog Tryd.f8.params.toList Rows.packetOnceSpec.vars false W args.toList ds gs before) (hL:laidMetH Tryd.prog Rows.packetOnceRow.laid W) (hwt:(DataW.weightsEach Tryd.prog (Tryd.f8.params.toList++vts) (ds++gs)).all (·≤reachBytes)=true) :
  Calls Tryd.prog 8 args W fun e W'=>∃ v,e=.returned v∧Rows.packetOnceSpec.post enc Tryd.prog Tryd.f8 false true false false W args v W':=by
 have hW':=hW
 obtain ⟨p,q,hA0,hV,rfl,hfz,hnd⟩:=hW
 have hval:∀ (j:Nat) t v,Tryd.f8.params[j]?=some t→args[j]?=some v→Value.okWide Tryd.prog W .any base t v:=hval0
 have hA:DataW.TrodAll enc Tryd.prog W 0 (fun _=>true) true Tryd.f8.params.toList args.toList ds p:=hA0
 rw [Tryd.params8] at hA hval hwt
 obtain ⟨v0,vs0,d0,ds0,p0,q0,hargs,rfl,rfl,h0,r0⟩:=trodAll_cons hA
 obtain ⟨v1,vs1,d1,ds1,p1,q1,rfl,rfl,rfl,h1,r1⟩:=trodAll_cons r0
 obtain ⟨rfl,rfl,rfl⟩:=trodAll_nil r1
 obtain rfl:args=#[v0,v1]:=by cases args;simp_all
 obtain ⟨rfl,rfl⟩:=trodVars_none hV
 have k0:=h0
 have lt0:∀ x ∈ p0,x.block < W.heap.size:=by obtain ⟨m,hm⟩:=k0;exact DataW.trod_lt m _ _ _ hm
 obtain ⟨x0,y0,z0,_⟩:=ZtG (R:=reachBytes) (n:=12) (T:=Zls) (by kernel_rfl) (by kernel_rfl) (fun m hm=>of_decide_eq_true (List.all_eq_true.1 hwt m (DataW.weights_mem_each (j:=0) rfl rfl m hm))) (hval 0 68 v0 rfl rfl) h0
 rw [Tryd.underlying68] at y0
 obtain ⟨a0,b0,rfl⟩:=ZqF y0
 have k1:=h1
 have lt1:∀ x ∈ p1,x.block < W.heap.size:=by obtain ⟨m,hm⟩:=k1;exact DataW.trod_lt m _ _ _ hm
 obtain ⟨x1,y1,z1,_⟩:=ZtG (R:=reachBytes) (n:=12) (T:=Zls) (by kernel_rfl) (by kernel_rfl) (fun m hm=>of_decide_eq_true (List.all_eq_true.1 hwt m (DataW.weights_mem_each (j:=1) rfl rfl m hm))) (hval 1 68 v1 rfl rfl) h1
 rw [Tryd.underlying68] at y1
 obtain ⟨a1,b1,rfl⟩:=ZqF y1
 clear hA0 hval0
 have rb:reachBytes≤9223372036854775807:=by decide
 have hq:=ZFN a0 a1 (Zt6 b0 rb) (Zt6 b1 rb)
 refine (ZCJ ZHJ (ZHm hL) (args:=[ZX a0,ZX a1]) (by simp only [VRs];exact ⟨_,_,rfl,z0,_,_,rfl,z1,rfl⟩) (hq)).mono fun e W' ⟨he,bel⟩=>?_
 subst he
 exact ⟨_,rfl,_,_,_,[],_,[],hW',trodAll_mk1 (shut_bool Tryd.underlying4 _),(trodAll_cons_mk (Below.trod ZuU (by kernel_rfl) (of_decide_eq_true (by kernel_rfl)) k0 bel lt0) (trodAll_cons_mk (Below.trod ZuU (by kernel_rfl) (of_decide_eq_true (by kernel_rfl)) k1 bel lt1) trodAll_mk0)),rfl,bel.frame _,fun h=>by cases h⟩
noncomputable def Znz (os:Os):World :=
 let w0:=World.holding Tryd.prog os ⟨#[],#[],[]⟩
 let put (h:Array Obj) (g:Nat) (us:Array Value):Array Obj:=h.modify g fun
  | .cells _ t frozen=>.cells us t frozen
  | o=>o
 let h1:=put w0.heap 0 (Lib.firstTab.map fun z=>Value.int .u8 z).toArray
 let h2:=put h1 1 ((List.range 16).flatMap fun i=>[Value.int .u8 (Lib.accLo i),Value.int .u8 (Lib.accHi i)]).toArray
 let h3:=(put h2 2 #[Value.iface 221 (.pointer (some ⟨h2.size,0,none⟩))]).push (.cells #[Value.string ⟨#[98,121,116,101,115,46,66,117,102,102,101,114,58,32,116,111,111,32,108,97,114,103,101]⟩] 237)
 { w0 with heap:=h3 }
theorem ZKy (os:Os):laidMet Tryd.prog Rows.packetOnceRow.laid ((Znz os).forCall (fun _ _=>0) ⟨#[],#[.agg #[.int .i64 0,.bool false,.int .i64 0,.bool false,.int .i64 0,.string ByteArray.empty,.slice none 0 0,.int .i64 0,.slice none 0 0,.slice none 0 0,.slice none 0 0,.slice none 0 0,.bool false,.int .i64 0,.string ByteArray.empty,.bool false,.string ByteArray.empty,.slice none 0 0,.int .i64 0,.bool false,.slice none 0 0,.bool false,.string ByteArray.empty,.bool false,.slice none 0 0,.bool false],.agg #[.int .i64 0,.bool false,.int .i64 0,.bool false,.int .i64 0,.string ByteArray.empty,.slice none 0 0,.int .i64 0,.slice none 0 0,.slice none 0 0,.slice none 0 0,.slice none 0 0,.bool false,.int .i64 0,.string ByteArray.empty,.bool false,.string ByteArray.empty,.slice none 0 0,.int .i64 0,.bool false,.slice none 0 0,.bool false,.string ByteArray.empty,.bool false,.slice none 0 0,.bool false]],[]⟩).memory :=
 laidMet_of_run' 8 (by kernel_rfl) (by kernel_rfl)
theorem ZDN (os:Os) {H:Type} (enc:TypeId×Value→H):∃ ds places,DataW.whole enc Tryd.prog ((Znz os).forCall (fun _ _=>0) ⟨#[],#[.agg #[.int .i64 0,.bool false,.int .i64 0,.bool false,.int .i64 0,.string ByteArray.empty,.slice none 0 0,.int .i64 0,.slice none 0 0,.slice none 0 0,.slice none 0 0,.slice none 0 0,.bool false,.int .i64 0,.string ByteArray.empty,.bool false,.string ByteArray.empty,.slice none 0 0,.int .i64 0,.bool false,.slice none 0 0,.bool false,.string ByteArray.empty,.bool false,.slice none 0 0,.bool false],.agg #[.int .i64 0,.bool false,.int .i64 0,.bool false,.int .i64 0,.string ByteArray.empty,.slice none 0 0,.int .i64 0,.slice none 0 0,.slice none 0 0,.slice none 0 0,.slice none 0 0,.bool false,.int .i64 0,.string ByteArray.empty,.bool false,.string ByteArray.empty,.slice none 0 0,.int .i64 0,.bool false,.slice none 0 0,.bool false,.string ByteArray.empty,.bool false,.slice none 0 0,.bool false]],[]⟩).memory Tryd.f8.params.toList Rows.packetOnceSpec.vars false #[.agg #[.int .i64 0,.bool false,.int .i64 0,.bool false,.int .i64 0,.string ByteArray.empty,.slice none 0 0,.int .i64 0,.slice none 0 0,.slice none 0 0,.slice none 0 0,.slice none 0 0,.bool false,.int .i64 0,.string ByteArray.empty,.bool false,.string ByteArray.empty,.slice none 0 0,.int .i64 0,.bool false,.slice none 0 0,.bool false,.string ByteArray.empty,.bool false,.slice none 0 0,.bool false],.agg #[.int .i64 0,.bool false,.int .i64 0,.bool false,.int .i64 0,.string ByteArray.empty,.slice none 0 0,.int .i64 0,.slice none 0 0,.slice none 0 0,.slice none 0 0,.slice none 0 0,.bool false,.int .i64 0,.string ByteArray.empty,.bool false,.string ByteArray.empty,.slice none 0 0,.int .i64 0,.bool false,.slice none 0 0,.bool false,.string ByteArray.empty,.bool false,.slice none 0 0,.bool false]].toList 8=some (ds,[],places) :=
 ⟨[.agg [.lit (.int .i64 0),.lit (.bool false),.lit (.int .i64 0),.lit (.bool false),.lit (.int .i64 0),.lit (.string []),.nil,.lit (.int .i64 0),.nil,.nil,.nil,.nil,.lit (.bool false),.lit (.int .i64 0),.lit (.string []),.lit (.bool false),.agg [.lit (.string []),.nil,.lit (.int .i64 0),.lit (.bool false),.nil],.lit (.bool false),.lit (.string []),.lit (.bool false),.nil,.lit (.bool false)],.agg [.lit (.int .i64 0),.lit (.bool false),.lit (.int .i64 0),.lit (.bool false),.lit (.int .i64 0),.lit (.string []),.nil,.lit (.int .i64 0),.nil,.nil,.nil,.nil,.lit (.bool false),.lit (.int .i64 0),.lit (.string []),.lit (.bool false),.agg [.lit (.string []),.nil,.lit (.int .i64 0),.lit (.bool false),.nil],.lit (.bool false),.lit (.string []),.lit (.bool false),.nil,.lit (.bool false)]],[],by kernel_rfl⟩
set_option maxRecDepth 100000 in
set_option maxHeartbeats 1000000 in
theorem ZB0 (os:Os) (started:os.Started) (H:Type) (enc:TypeId×Value→H) (F:Stop.Interp) :
  ReturnsInHanded {} Tryd.checked os 8 .any ((OpenSpec.ofChange Rows.packetOnceSpec).preRow enc Tryd.prog Tryd.f8 Rows.packetOnceRow.domain false Rows.packetOnceRow.laid) (((OpenSpec.ofChange Rows.packetOnceSpec).at F).post enc Tryd.prog Tryd.f8 false true false false):=by
 obtain ⟨ds,places,hx⟩:=ZDN os enc
 refine returnsInHanded_of_row (C:=Tryd.checked) (s:=(OpenSpec.ofChange Rows.packetOnceSpec)) ZFR started (by kernel_rfl) Tryd.func8
  (witness_row_at (enc:=enc) (C:=Tryd.checked) false (Znz os) #[.agg #[.int .i64 0,.bool false,.int .i64 0,.bool false,.int .i64 0,.string ByteArray.empty,.slice none 0 0,.int .i64 0,.slice none 0 0,.slice none 0 0,.slice none 0 0,.slice none 0 0,.bool false,.int .i64 0,.string ByteArray.empty,.bool false,.string ByteArray.empty,.slice none 0 0,.int .i64 0,.bool false,.slice none 0 0,.bool false,.string ByteArray.empty,.bool false,.slice none 0 0,.bool false],.agg #[.int .i64 0,.bool false,.int .i64 0,.bool false,.int .i64 0,.string ByteArray.empty,.slice none 0 0,.int .i64 0,.slice none 0 0,.slice none 0 0,.slice none 0 0,.slice none 0 0,.bool false,.int .i64 0,.string ByteArray.empty,.bool false,.string ByteArray.empty,.slice none 0 0,.int .i64 0,.bool false,.slice none 0 0,.bool false,.string ByteArray.empty,.bool false,.slice none 0 0,.bool false]] rfl (by kernel_rfl) (by kernel_rfl) (by kernel_rfl)
   (OpenSpec.preRow_of_cond 8 hx (by kernel_rfl) (fun k hk=>by cases hk) (by kernel_rfl) (ZKy os))) ?_
 intro W base args ds gs before hval hW _ hcond hwt hL _ _
 exact ZGY H enc W base args ds gs before _ hval hW hL hwt
theorem ZDa:Rows.PacketOnceSaid :=
 OpenClaim.holds_of_cond 8 Tryd.f8 rfl rfl rfl rfl rfl rfl rfl ⟨rfl,rfl,rfl,rfl,rfl⟩ rfl rfl rfl rfl rfl (by kernel_rfl) Tryd.func8 (by kernel_rfl)
  (of_decide_eq_true (by kernel_rfl)) (by unfold Func.isWrapper;first | (rw [if_pos (by decide +kernel)];kernel_rfl) | (rw [if_neg (by decide +kernel)];exact ⟨rfl,rfl⟩))
  (fun os started H enc _ F=>by rw [OpenClaim.pre_eq_preRow];exact ZB0 os started H enc F)
theorem ZwL (f:FuncId) (fn:Func) (hf:Tryd.pinned.checked.prog.funcNamed "tidings/tidingslaw12.PacketOnce"=some f) (hfn:Tryd.pinned.checked.prog.funcs[f]?=some fn) :
  true=Tryd.pinned.checked.prog.looks []∧∀ (j:Nat) t,fn.params[j]?=some t→Tryd.pinned.checked.prog.wantsStandIn t=false:=by
 obtain rfl:f=8:=Option.some.inj ((show Tryd.prog.funcNamed "tidings/tidingslaw12.PacketOnce"=some 8 by kernel_rfl).symm.trans hf) |>.symm
 obtain rfl:fn=Tryd.f8:=(Option.some.inj (Tryd.func8.symm.trans hfn)).symm
 refine ⟨by kernel_rfl,fun j t ht=>?_⟩
 rw [Tryd.params8] at ht
 have hm:t=68:=by
  have:=Array.mem_of_getElem? ht
  simp at this
  first | exact this | exact this.symm | omega | (rcases this with h | h | h <;> simp [h]) | (rcases this with h | h | h | h <;> simp [h]) | (rcases this with h | h | h | h | h <;> simp [h]) | (rcases this with h | h | h | h | h | h <;> simp [h]) | (rcases this with h | h | h | h | h | h | h <;> simp [h])
 subst hm
 exact (show Tryd.prog.wantsStandIn 68=false by kernel_rfl)
theorem packetOnce_card:Rows.PacketOnceCardSaid :=
 Claim7.holds_tied_plain_at .later [] _ _ _ _ ZDa (fun _ h=>by cases h) (by kernel_rfl) (fun _ h=>by cases h) packetOnce_row_tie rfl ⟨rfl,rfl⟩ (by kernel_rfl) rfl ZwL (by kernel_rfl)
#print axioms packetOnce_card
end Go.Proofs.YtmlkhhidifjjfaaDoor
