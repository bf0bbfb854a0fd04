/- The card of PacketShort: for every input the law returns true, and each argument reads afterwards as it read before. No other condition; the tables of unicode/utf8 are tied to the program. -/
import Derived.Test.YtmlkhhidifjjfaaDoorMs4
import Derived.Test.YtmlkhhidifjjfaaDoorMs3
import Derived.Test.YtmlkhhidifjjfaaDoorMs2
import Derived.Shelf.LaysM
import Derived.Shelf.Bytes.TryGrowAt
import Derived.Shelf.Bytes.GrowSliceCatch
import Derived.Lib.ByteType
import Derived.Lib.BufferAt
import Derived.Lib.BufferOwn
import Derived.Lib.AppendZeros
import Derived.Lib.Walk
import Derived.Lib.Hide
import Derived.Laws.CopyRow
import Derived.Laws.IdiomCopy
import Derived.Laws.MakeOwn
import Derived.WalkKit
import Derived.OwnWalk
import Derived.Defers
import Derived.Recover
import Derived.RegionTactic
import Derived.Shelf.RegionOpenPlain
import Derived.Deep.RegionWith
import Derived.Deep.Draws
import Derived.BigCall
import Derived.BigGuard
import Derived.Lib.BufferSrc
import Derived.Test.YtmlkhhidifjjfaaDoorMs1
import Derived.Test.YtmlkhhidifjjfaaDoorProg
import Derived.Lib.LaidU8T
import Derived.Test.YtmlkhhidifjjfaaDoorRows
import Derived.Deep.Slices
import Derived.Test.YtmlkhhidifjjfaaDoorCards
import Derived.Test.YtmlkhhidifjjfaaDoorTie
import Derived.ProofKit
import Derived.OpenShut
import Derived.ShutString
import Derived.ChangeOld
import Derived.Below
import Derived.SevenTiedAt
import Derived.LaidByTextLater
import Derived.Lib.LaidIn
import Derived.Deep.DeepHandedRow
import Derived.MakeChecks
import Derived.SizedLaws
set_option linter.defProp false
set_option linter.unusedSectionVars false
set_option linter.unusedSimpArgs false
set_option linter.unusedVariables false
namespace Go.Proofs.YtmlkhhidifjjfaaDoor
set_option maxHeartbeats 8000000
set_option maxRecDepth 10000
def ZmD (q:Zn) (m:Int):Zn:={ q with clean:=Zw m 2 != 0,hasWill:=Zw m 4 != 0,hasPassword:=Zw m 64 != 0,hasUser:=Zw m 128 != 0,will:={ q.will with qos:=Zw (ZdT m) 3,retain:=Zw m 32 != 0 } }
def headD (q:Zn) (k:Int) (ps:List Zt) (cl:Zb):Zn:={ q with keep:=k,props:=ps,client:=cl }
def ZdE (b:Bool) (q:Zn) (l:Zb):Except Int (Zn×Zb):=if b=true then (match Zcf l with
 | .error c=>.error c
 | .ok (d,r)=>.ok ({ q with password:=d },r)) else .ok (q,l)
def Zc7 (b:Bool) (q:Zn) (l:Zb):Except Int (Zn×Zb):=if b=true then (match Zai l with
 | .error c=>.error c
 | .ok (d,r)=>.ok ({ q with user:=d },r)) else .ok (q,l)
def Zdb (b:Bool) (q:Zn) (l:Zb):Except Int (Zn×Zb):=if b=true then (match ZcE l with
 | .error c=>.error c
 | .ok (ps,tp,d,r)=>.ok ({ q with will:={ q.will with props:=ps,topic:=tp,data:=d } },r)) else .ok (q,l)
def Zfk (m:Int) (q:Zn) (l:Zb):Except Int (Zn×Zb):=match Zdb (Zw m 4 != 0) q l with
 | .error c=>.error c
 | .ok (q,l)=>match Zc7 (Zw m 128 != 0) q l with
  | .error c=>.error c
  | .ok (q,l)=>ZdE (Zw m 64 != 0) q l
def Zfx (q:Zn) (m:Int) (l:Zb):Except Int (Zn×Zb):=match Zav 2 l with
 | .error c=>.error c
 | .ok (k,r4)=>match Zbr 1 r4 with
  | .error c=>.error c
  | .ok (ps,r5)=>match Zai r5 with
   | .error c=>.error c
   | .ok (cl,r6)=>Zfk m (headD (ZmD q m) k ps cl) r6
def ZcR (q:Zn) (l:Zb):Except Int (Zn×Zb):=match Zai l with
 | .error c=>.error c
 | .ok (s,r1)=>if (s == [77,81,84,84])=true then (match Zav 1 r1 with
  | .error c=>.error c
  | .ok (v,r2)=>if (v == 5)=true then (match Zav 1 r2 with
   | .error c=>.error c
   | .ok (m,r3)=>if Zg0 m (Zw (ZdT m) 3) (Zw m 4 != 0) (Zw m 32 != 0)=true then Zfx q m r3 else .error 129)
   else .error 132)
  else .error 132
structure Is (P:List AVal) (q:Zn):Prop where
 view:∀ σ,ZaJ σ P=some (Zu q,[])
 ok:P.all ZT=true
theorem ZmU {σ:Za} {v y:AVal} {ts:List Nat} (hv:ZL σ v=some (y,ts)):∀ {P ys:List AVal} {k:Nat},ZaJ σ P=some (ys,[])→k < P.length→ZaJ σ (P.set k v)=some (ys.set k y,ts)
 | [],_,_,_,h=>by simp at h
 | x::P,ys,k,h,hk=>by
  rw [ZaJ] at h
  split at h
  ·rename_i y0 t0 h0
   split at h
   ·rename_i ys0 us0 h1
    injection h with h;injection h with h2 h3
    obtain ⟨rfl,rfl⟩:=List.append_eq_nil_iff.1 h3
    subst h2
    cases k with
    | zero =>
     rw [List.set_cons_zero,ZaJ,hv]
     simp only [h1,List.append_nil]
     rfl
    | succ k =>
     rw [List.set_cons_succ,ZaJ,h0]
     simp only [ZmU hv h1 (by simpa using hk)]
     rfl
   ·cases h
  ·cases h
theorem Zp4 {v:AVal} (hv:ZT v=true):∀ {P:List AVal} {k:Nat},P.all ZT=true→(P.set k v).all ZT=true
 | [],_,_=>rfl
 | x::P,0,h=>by
  simp only [List.set_cons_zero,List.all_cons,Bool.and_eq_true] at h ⊢
  exact ⟨hv,h.2⟩
 | x::P,k+1,h=>by
  simp only [List.set_cons_succ,List.all_cons,Bool.and_eq_true] at h ⊢
  exact ⟨h.1,Zp4 hv h.2⟩
theorem Is.set {P:List AVal} {q q':Zn} (h:Is P q) {k:Nat} {v y:AVal} (hk:k < P.length) (hv:∀ σ,ZL σ v=some (y,[])) (ho:ZT v=true) (hc:(Zu q).set k y=Zu q'):Is (P.set k v) q' :=
 ⟨fun σ=>by rw [ZmU (hv σ) (h.view σ) hk,hc],Zp4 ho h.ok⟩
section
variable {P:List AVal} {q:Zn} (hP:P.length=26) (h:Is P q)
include hP h
theorem ZDI (m:Int):Is (Zbz P m) (ZmD q m):=by
 unfold Zbz
 have h1:=h.set (k:=12) (q':={ q with clean:=Zw m 2 != 0 }) (v:=.bool (Zw m 2 != 0)) (by omega) (fun _=>rfl) rfl rfl
 have h2:=h1.set (k:=15) (q':={ q with clean:=Zw m 2 != 0,hasWill:=Zw m 4 != 0 }) (v:=.bool (Zw m 4 != 0)) (by simp [hP]) (fun _=>rfl) rfl rfl
 have h3:=h2.set (k:=23) (q':={ q with clean:=Zw m 2 != 0,hasWill:=Zw m 4 != 0,hasPassword:=Zw m 64 != 0 }) (v:=.bool (Zw m 64 != 0)) (by simp [hP]) (fun _=>rfl) rfl rfl
 have h4:=h3.set (k:=21) (q':={ q with clean:=Zw m 2 != 0,hasWill:=Zw m 4 != 0,hasPassword:=Zw m 64 != 0,hasUser:=Zw m 128 != 0 }) (v:=.bool (Zw m 128 != 0)) (by simp [hP]) (fun _=>rfl) rfl rfl
 have h5:=h4.set (k:=18) (q':={ q with clean:=Zw m 2 != 0,hasWill:=Zw m 4 != 0,hasPassword:=Zw m 64 != 0,hasUser:=Zw m 128 != 0,will:={ q.will with qos:=Zw (ZdT m) 3 } }) (v:=.int .i64 (Zw (ZdT m) 3)) (by simp [hP]) (fun _=>rfl) rfl rfl
 exact h5.set (k:=19) (v:=.bool (Zw m 32 != 0)) (by simp [hP]) (fun _=>rfl) rfl rfl
theorem Zv3 (k:Int) (ps:List Zt) (cl:Zb):Is (ZiL P k ps cl) (headD q k ps cl):=by
 unfold ZiL
 have h1:=h.set (k:=13) (q':={ q with keep:=k }) (v:=.int .i64 k) (by omega) (fun _=>rfl) rfl rfl
 have h2:=h1.set (k:=9) (q':={ q with keep:=k,props:=ps }) (v:=.lst false (ps.map Zl)) (by simp [hP]) (fun _=>rfl) rfl rfl
 exact h2.set (k:=14) (v:=.str cl) (by simp [hP]) (fun _=>rfl) rfl rfl
theorem ZDE (ps:List Zt) (tp d:Zb):Is (Zhj P ps tp d) { q with will:={ q.will with props:=ps,topic:=tp,data:=d } }:=by
 unfold Zhj
 have h1:=h.set (k:=20) (q':={ q with will:={ q.will with props:=ps } }) (v:=.lst false (ps.map Zl)) (by omega) (fun _=>rfl) rfl rfl
 have h2:=h1.set (k:=16) (q':={ q with will:={ q.will with props:=ps,topic:=tp } }) (v:=.str tp) (by simp [hP]) (fun _=>rfl) rfl rfl
 exact h2.set (k:=17) (v:=.lst false (d.map Zc)) (by simp [hP]) (fun _=>rfl) rfl rfl
end
def Zhy (x:Except Int KSt) (y:Except Int (Zn×Zb)):Prop:=match x with
 | .error e=>y=.error e
 | .ok (P,l)=>∃ q,y=.ok (q,l)∧P.length=26∧Is P q
section
variable {P:List AVal} {q:Zn} (hP:P.length=26) (h:Is P q) (l:Zb)
include hP h
theorem ZIP (b:Bool):Zhy (ZhO b (P,l)) (ZdE b q l):=by
 unfold ZhO ZdE
 cases b
 ·exact ⟨q,rfl,hP,h⟩
 ·rw [if_pos rfl,if_pos rfl]
  cases hd:Zcf l with
  | error c=>exact rfl
  | ok a=>exact ⟨_,rfl,by simp [hP],h.set (by omega) (fun _=>rfl) rfl rfl⟩
theorem ZyP (b:Bool):Zhy (ZgT b (P,l)) (Zc7 b q l):=by
 unfold ZgT Zc7
 cases b
 ·exact ⟨q,rfl,hP,h⟩
 ·rw [if_pos rfl,if_pos rfl]
  cases hd:Zai l with
  | error c=>exact rfl
  | ok a=>exact ⟨_,rfl,by simp [hP],h.set (by omega) (fun _=>rfl) rfl rfl⟩
theorem ZD4 (b:Bool):Zhy (ZiY b (P,l)) (Zdb b q l):=by
 unfold ZiY Zdb
 cases b
 ·exact ⟨q,rfl,hP,h⟩
 ·rw [if_pos rfl,if_pos rfl]
  cases hd:ZcE l with
  | error c=>exact rfl
  | ok a =>
   obtain ⟨ps,tp,d,r⟩:=a
   exact ⟨_,rfl,by simp [Zhj,hP],ZDE hP h ps tp d⟩
theorem ZOo (m:Int):Zhy (ZhW m (P,l)) (Zfk m q l):=by
 unfold ZhW Zfk
 have h1:=ZD4 hP h l (Zw m 4 != 0)
 cases hw:ZiY (Zw m 4 != 0) (P,l) with
 | error e =>
  rw [hw] at h1
  rw [show Zdb (Zw m 4 != 0) q l=.error e from h1]
  exact rfl
 | ok s =>
  obtain ⟨P1,l1⟩:=s
  rw [hw] at h1
  obtain ⟨q1,e1,hP1,i1⟩:=h1
  rw [e1]
  simp only
  have h2:=ZyP hP1 i1 l1 (Zw m 128 != 0)
  cases hu:ZgT (Zw m 128 != 0) (P1,l1) with
  | error e =>
   rw [hu] at h2
   rw [show Zc7 (Zw m 128 != 0) q1 l1=.error e from h2]
   exact rfl
  | ok s =>
   obtain ⟨P2,l2⟩:=s
   rw [hu] at h2
   obtain ⟨q2,e2,hP2,i2⟩:=h2
   rw [e2]
   exact ZIP hP2 i2 l2 _
theorem Zy2 (m:Int):Zhy (ZiK P m l) (Zfx q m l):=by
 unfold ZiK Zfx
 cases h1:Zav 2 l with
 | error c=>exact rfl
 | ok a =>
 obtain ⟨k,r4⟩:=a
 simp only
 cases h2:Zbr 1 r4 with
 | error c=>exact rfl
 | ok a =>
 obtain ⟨ps,r5⟩:=a
 simp only
 cases h3:Zai r5 with
 | error c=>exact rfl
 | ok a =>
 obtain ⟨cl,r6⟩:=a
 exact ZOo (by simp [ZiL,Zbz,hP]) (Zv3 (by simp [Zbz,hP]) (ZDI hP h m) k ps cl) r6 m
theorem ZAd:Zhy (ZiI P l) (ZcR q l):=by
 unfold ZiI ZcR
 cases h1:Zai l with
 | error c=>exact rfl
 | ok a =>
 obtain ⟨s,r1⟩:=a
 simp only
 split
 case isFalse=>exact rfl
 cases h2:Zav 1 r1 with
 | error c=>exact rfl
 | ok a =>
 obtain ⟨v,r2⟩:=a
 simp only
 split
 case isFalse=>exact rfl
 cases h3:Zav 1 r2 with
 | error c=>exact rfl
 | ok a =>
 obtain ⟨m,r3⟩:=a
 simp only
 split
 case isFalse=>exact rfl
 exact Zy2 hP h r3 m
end
def ZbR (x:Except Int (Zn×Zb)):Except Int Zn:=match x with
 | .error e=>.error e
 | .ok (q,r)=>if r.length=0 then .ok q else .error 129
def Zeb (q:Zn) (l:Zb):Except Int (Zn×Zb):=match Zcl q.type l with
 | .error e=>.error e
 | .ok ((c,ps),r)=>.ok ({ q with code:=c,props:=ps.getD [] },r)
def idQ (q:Zn) (l:Zb):Except Int (Zn×Zb):=match idK l with
 | .error e=>.error e
 | .ok (n,r)=>Zeb { q with id:=n } r
def Zdt (q:Zn) (l:Zb):Except Int (Zn×Zb):=match Zav 1 l with
 | .error e=>.error e
 | .ok (f,r)=>if f < 2 then (match Zau 2 r with
  | .error e=>.error e
  | .ok (c,r2)=>match Zbr 2 r2 with
   | .error e=>.error e
   | .ok (ps,r3)=>.ok ({ q with present:=f == 1,code:=c,props:=ps },r3)) else .error 129
def Zhn (q:Zn) (l:Zb):Except Int Zn:=match Zbv Zbn 8 l with
 | .error e=>.error e
 | .ok (n,ps,ts)=>.ok { q with id:=n,props:=ps,subs:=ts }
def ZhF (q:Zn) (l:Zb):Except Int Zn:=match Zbv Zai 10 l with
 | .error e=>.error e
 | .ok (n,ps,ts)=>.ok { q with id:=n,props:=ps,filters:=ts }
def ZfN (q:Zn) (l:Zb):Except Int Zn:=match Zbv (Zau q.type) q.type l with
 | .error e=>.error e
 | .ok (n,ps,ts)=>.ok { q with id:=n,props:=ps,codes:=ts }
def Zcn (t:Int) (l:Zb):Except Int Zn :=
 if t=1 then ZbR (ZcR { Zaj with type:=1 } l)
 else if t=2 then ZbR (Zdt { Zaj with type:=2 } l)
 else if t=4∨t=5∨t=6∨t=7 then ZbR (idQ { Zaj with type:=t } l)
 else if t=8 then Zhn { Zaj with type:=8 } l
 else if t=10 then ZhF { Zaj with type:=10 } l
 else if t=9∨t=11 then ZfN { Zaj with type:=t } l
 else if t=14∨t=15 then ZbR (Zeb { Zaj with type:=t } l)
 else ZbR (.ok ({ Zaj with type:=t },l))
def Zbm (b:Int) (l:Zb):Zn×Int :=
 if tyI b=0 then (Zaj,129) else if tyI b=3 then ZeT b l
 else if Zbl b 15=Zdq (tyI b) then (match Zcn (tyI b) l with
  | .error e=>(Zaj,e)
  | .ok q=>(q,0)) else (Zaj,129)
def ZdD (t : Int) (l : Zb) (x : Except Int Zn) : Prop := match x with
  | .ok q => (∃ Q L, Q.length = 26 ∧ Zd Q = true ∧ ZI L = true ∧ Is Q q ∧ E 77 [.ref 0 0] (Zg (P0.set 0 (.int .i64 t)) l) = some (.tup [], [.var (Q ++ [L])])) ∨
      (∃ Q q0 kk w ys, Q.length = 26 ∧ Zd Q = true ∧ kk < 26 ∧ Is Q q0 ∧ (Zu q0).set kk (.lst false ys) = Zu q ∧ E 77 [.ref 0 0] (Zg (P0.set 0 (.int .i64 t)) l) = some (.tup [], Zch Q kk ys.length [] w ys))
  | .error e => (∃ cs, Zd cs = true ∧ E 77 [.ref 0 0] (Zg (P0.set 0 (.int .i64 t)) l) = some (.pan (Zy e), [.var cs])) ∨
      (∃ Q kk n r w ys, Q.length = 26 ∧ Zd Q = true ∧ kk < 26 ∧ E 77 [.ref 0 0] (Zg (P0.set 0 (.int .i64 t)) l) = some (.pan (Zy e), Zch Q kk n r w ys))
theorem Zh1 {t:Int} {l:Zb} {q:Zn} {Q:List AVal} {r:Zb} (hQ:Q.length=26) (hN:Zd Q=true) (hi:Is Q q) (h:E 77 [.ref 0 0] (Zg (P0.set 0 (.int .i64 t)) l)=some (if r.length=0 then .tup [] else .pan (Zy 129),Zg Q r)):ZdD t l (ZbR (.ok (q,r))):=by
 unfold ZbR
 simp only
 split at h
 ·rename_i h0
  rw [if_pos h0]
  exact Or.inl ⟨Q,_,hQ,hN,rfl,hi,h⟩
 ·rename_i h0
  rw [if_neg h0]
  exact Or.inl ⟨_,Zx Q hQ hN _ _,h⟩
theorem ZlO {t:Int} {l:Zb} {kk w:Nat} {e:Int} (hk:kk < 26) (h:Zh2 kk w l (P0.set 0 (.int .i64 t)) e):ZdD t l (.error e):=by
 rcases h with ⟨cs,h1,h2⟩ | ⟨Q,n,r,ys,h1,h2,h3⟩
 ·exact Or.inl ⟨cs,h1,h2⟩
 ·exact Or.inr ⟨Q,kk,n,r,w,ys,h1,h2,hk,h3⟩
section
variable (l:Zb) (hl:l.length≤1099511627775)
include hl
theorem hlP:l.length≤140737488355328:=by omega
theorem ZEb:ZdD 1 l (ZbR (ZcR { Zaj with type:=1 } l)):=by
 have hs:=ZAd (P:=P0.set 0 (.int .i64 1)) (q:={ Zaj with type:=1 }) rfl ⟨fun σ=>rfl,rfl⟩ l
 have hr:=ZLq (P0.set 0 (.int .i64 1)) rfl (by rfl) l (hlP l hl) (fun r _=>ZcQ 1 r) (fun r _=>ZcQ 16 r)
 cases hc:ZiI (P0.set 0 (.int .i64 1)) l with
 | error e =>
  rw [hc] at hs hr
  rw [show ZcR { Zaj with type:=1 } l=.error e from hs]
  obtain ⟨cs,hn,he⟩:=KRuns.fnF (f:=114) (fn:=Znn) (by rfl) ZtD hr
  exact Or.inl ⟨cs,hn,ZDW (P0.set 0 (.int .i64 1)) rfl (by rfl) rfl l (hlP l hl) hn he⟩
 | ok s =>
  obtain ⟨Q,r⟩:=s
  rw [hc] at hs hr
  obtain ⟨q,e1,hQ,hi⟩:=hs
  rw [e1]
  have hQN:Zd Q=true:=by obtain ⟨_,_,_,h3,_⟩:=hr;exact h3
  have he:=KRuns.fnT (f:=114) (fn:=Znn) (by rfl) ZtD rfl hr
  refine Zh1 hQ hQN hi ?_
  by_cases h0:r.length=0
  ·rw [if_pos h0];exact ZBg (P0.set 0 (.int .i64 1)) rfl (by rfl) rfl l (hlP l hl) he hQ hQN h0
  ·rw [if_neg h0];exact ZCD (P0.set 0 (.int .i64 1)) rfl (by rfl) rfl l (hlP l hl) he hQ hQN h0
theorem ZyU:ZdD 2 l (ZbR (Zdt { Zaj with type:=2 } l)):=by
 have hP:(P0.set 0 (.int .i64 2)).length=26:=rfl
 have hN:Zd (P0.set 0 (.int .i64 2))=true:=by rfl
 unfold Zdt
 cases h1:Zav 1 l with
 | error e=>exact Or.inl (ZLx _ hP hN rfl l (hlP l hl) h1)
 | ok a =>
 obtain ⟨f,r⟩:=a
 simp only
 split
 case isFalse hf=>exact Or.inl (ZyM _ hP hN rfl l (hlP l hl) h1 hf)
 rename_i hf
 cases h2:Zau 2 r with
 | error e=>exact Or.inl (ZNo _ hP hN rfl l (hlP l hl) h1 hf h2)
 | ok a =>
 obtain ⟨c,r2⟩:=a
 simp only
 cases h3:Zbr 2 r2 with
 | error e=>exact Or.inl (ZHx _ hP hN rfl l (hlP l hl) h1 hf h2 h3)
 | ok a =>
 obtain ⟨ps,r3⟩:=a
 exact Zh1 (by simp [hP]) (ZM (Zb4 _ _) _ (ZM rfl _ (ZM rfl _ hN))) ⟨fun σ=>rfl,rfl⟩ (ZLK _ hP hN rfl l (hlP l hl) h1 hf h2 h3 (ZcQ 2 r2))
theorem ZuC {P:List AVal} {q:Zn} (hP:P.length=26) (h:Is P q) (c:Int) (ps:Option (List Zt)):Is (ZdL P c ps) { q with code:=c,props:=ps.getD [] }:=by
 unfold ZdL
 have h1:=h.set (k:=7) (q':={ q with code:=c }) (v:=.int .i64 c) (by omega) (fun _=>rfl) rfl rfl
 cases ps with
 | none=>exact h1.set (k:=9) (v:=.lst true []) (by simp [hP]) (fun _=>rfl) rfl rfl
 | some ps=>exact h1.set (k:=9) (v:=.lst false (ps.map Zl)) (by simp [hP]) (fun _=>rfl) rfl rfl
theorem ZtE (k:Int) (hk:k=14∨k=15):ZdD k l (ZbR (Zeb { Zaj with type:=k } l)):=by
 have hP:(P0.set 0 (.int .i64 k)).length=26:=rfl
 have hN:Zd (P0.set 0 (.int .i64 k))=true:=by rfl
 unfold Zeb
 simp only
 cases h1:Zcl k l with
 | error e=>exact Or.inl (ZEm _ hP hN k hk rfl (fun r _=>ZcQ k r) l (hlP l hl) h1)
 | ok a =>
 obtain ⟨⟨c,ps⟩,r⟩:=a
 obtain ⟨i1,i2⟩:=ZjD hP hN c ps
 exact Zh1 i1 i2 (ZuC l hl (q:={ Zaj with type:=k }) hP ⟨fun σ=>rfl,rfl⟩ c ps) (ZDu _ hP hN k hk rfl rfl rfl (fun r _=>ZcQ k r) l (hlP l hl) h1)
theorem ZlE (k:Int) (hk:k=4∨k=5∨k=6∨k=7):ZdD k l (ZbR (idQ { Zaj with type:=k } l)):=by
 have hP:(P0.set 0 (.int .i64 k)).length=26:=rfl
 have hN:Zd (P0.set 0 (.int .i64 k))=true:=by rfl
 unfold idQ Zeb
 simp only
 cases h0:idK l with
 | error e=>exact Or.inl (ZAj _ hP hN k hk rfl l (hlP l hl) h0)
 | ok a =>
 obtain ⟨n,r1⟩:=a
 simp only
 cases h1:Zcl k r1 with
 | error e=>exact Or.inl (ZOu _ hP hN k hk rfl (fun r _=>ZcQ k r) l (hlP l hl) h0 h1)
 | ok a =>
 obtain ⟨⟨c,ps⟩,r⟩:=a
 obtain ⟨i1,i2⟩:=ZjD (P:=(P0.set 0 (.int .i64 k)).set 4 (.int .i64 n)) rfl (by rfl) c ps
 exact Zh1 i1 i2 (ZuC l hl (q:={ Zaj with type:=k,id:=n }) rfl ⟨fun σ=>rfl,rfl⟩ c ps) (ZtS _ hP hN k hk rfl rfl rfl (fun r _=>ZcQ k r) l (hlP l hl) h0 h1)
theorem Zta (k:Int) (hk:k=12∨k=13):ZdD k l (ZbR (.ok ({ Zaj with type:=k },l))) :=
 Zh1 (Q:=P0.set 0 (.int .i64 k)) rfl (by rfl) ⟨fun σ=>rfl,rfl⟩ (ZNY _ rfl (by rfl) k hk rfl l)
theorem ZdK (k:Int):QOk k (P0.set 0 (.int .i64 k)):=⟨rfl,by rfl,rfl,rfl,rfl,rfl⟩
theorem Zkb (k:Int) (n:Int) (ps:List Zt):Is (Zb0 (P0.set 0 (.int .i64 k)) n ps) { Zaj with type:=k,id:=n,props:=ps }:=⟨fun σ=>rfl,rfl⟩
theorem Zza:ZdD 8 l (Zhn { Zaj with type:=8 } l):=by
 unfold Zhn
 cases h:Zbv Zbn 8 l with
 | error e=>exact ZlO (by omega) (Zxh _ l hl (ZdK l hl 8) h)
 | ok a =>
 obtain ⟨n,ps,ts⟩:=a
 have hQ:=Zdu (ZdK l hl 8) n ps
 have:=ZCK _ l hl (ZdK l hl 8) h
 rw [←List.length_map (f:=ZU)] at this
 exact Or.inr ⟨_,_,10,6,ts.map ZU,hQ.len,hQ.nor,by omega,Zkb l hl 8 n ps,rfl,this⟩
theorem ZIf:ZdD 10 l (ZhF { Zaj with type:=10 } l):=by
 unfold ZhF
 cases h:Zbv Zai 10 l with
 | error e=>exact ZlO (by omega) (ZL5 _ l hl (ZdK l hl 10) h)
 | ok a =>
 obtain ⟨n,ps,ts⟩:=a
 have hQ:=Zdu (ZdK l hl 10) n ps
 have:=ZBV _ l hl (ZdK l hl 10) h
 rw [←List.length_map (f:=AVal.str)] at this
 exact Or.inr ⟨_,_,11,1,ts.map AVal.str,hQ.len,hQ.nor,by omega,Zkb l hl 10 n ps,rfl,this⟩
theorem ZEn:ZdD 9 l (ZfN { Zaj with type:=9 } l):=by
 unfold ZfN
 simp only
 cases h:Zbv (Zau 9) 9 l with
 | error e=>exact ZlO (by omega) (Zxv _ l hl (ZdK l hl 9) h)
 | ok a =>
 obtain ⟨n,ps,ts⟩:=a
 have hQ:=Zdu (ZdK l hl 9) n ps
 have:=Zzw _ l hl (ZdK l hl 9) h
 rw [←List.length_map (f:=AVal.int .i64)] at this
 exact Or.inr ⟨_,_,8,1,ts.map (AVal.int .i64),hQ.len,hQ.nor,by omega,Zkb l hl 9 n ps,rfl,this⟩
theorem ZJv:ZdD 11 l (ZfN { Zaj with type:=11 } l):=by
 unfold ZfN
 simp only
 cases h:Zbv (Zau 11) 11 l with
 | error e=>exact ZlO (by omega) (ZM4 _ l hl (ZdK l hl 11) h)
 | ok a =>
 obtain ⟨n,ps,ts⟩:=a
 have hQ:=Zdu (ZdK l hl 11) n ps
 have:=Zx1 _ l hl (ZdK l hl 11) h
 rw [←List.length_map (f:=AVal.int .i64)] at this
 exact Or.inr ⟨_,_,8,1,ts.map (AVal.int .i64),hQ.len,hQ.nor,by omega,Zkb l hl 11 n ps,rfl,this⟩
theorem ZzF (t:Int) (h1:1≤t∧t≤15) (h3:t≠3):ZdD t l (Zcn t l):=by
 have : t=1∨t=2∨t=4∨t=5∨t=6∨t=7∨t=8∨t=9∨t=10∨t=11∨t=12∨t=13∨t=14∨t=15:=by omega
 unfold Zcn
 rcases this with rfl | rfl | rfl | rfl | rfl | rfl | rfl | rfl | rfl | rfl | rfl | rfl | rfl | rfl
 ·exact ZEb l hl
 ·exact ZyU l hl
 ·exact ZlE l hl 4 (by decide)
 ·exact ZlE l hl 5 (by decide)
 ·exact ZlE l hl 6 (by decide)
 ·exact ZlE l hl 7 (by decide)
 ·exact Zza l hl
 ·exact ZEn l hl
 ·exact ZIf l hl
 ·exact ZJv l hl
 ·exact Zta l hl 12 (by decide)
 ·exact Zta l hl 13 (by decide)
 ·exact ZtE l hl 14 (by decide)
 ·exact ZtE l hl 15 (by decide)
end
theorem Zu3 (b:Int) (hb:0≤b∧b < 256):0≤tyI b∧tyI b≤15:=by
 have h:∀ n:Nat,n < 256→0≤tyI (n:Int)∧tyI (n:Int)≤15:=by decide +kernel
 have:=h b.toNat (by omega)
 rwa [Int.toNat_of_nonneg hb.1] at this
theorem ZpR {b c:Int} {l:Zb} {Q:List AVal} {q:Zn} (h:E1 32 [.agg [.int .u8 b,.lst false (l.map Zc)]] []=some (.tup [.agg Q,.int .i64 c],[])) (hv:∀ σ,ZaJ σ Q=some (Zu q,[])):Zad true 0 (E1 32 [.agg [.int .u8 b,.lst false (l.map Zc)]] [])=some (.tup [ZZ q,.int .i64 c],[]):=by
 rw [h];exact ZvB c hv
theorem ZBO (b:Int) (hb:0≤b∧b < 256) (l:Zb) (hl:l.length≤1099511627775):Zad true 0 (E1 32 [.agg [.int .u8 b,.lst false (l.map Zc)]] [])=some (.tup [ZZ (Zbm b l).1,.int .i64 (Zbm b l).2],[]):=by
 have hr:=Zu3 b hb
 have hF:∀ c,ZeC [.agg [.int .u8 b,.lst false (l.map Zc)]] []=some (.tup [.agg P0,.int .i64 c],[])→Zad true 0 (E1 32 [.agg [.int .u8 b,.lst false (l.map Zc)]] [])=some (.tup [ZZ Zaj,.int .i64 c],[]):=fun c h =>
  ZpR (by rw [ZfH];exact h) Zkv
 unfold Zbm
 by_cases h0:tyI b=0
 ·rw [if_pos h0]
  exact hF 129 (ZgB b 129 l (Zlv b l (Zx _ rfl (by rfl) _ _) (ZNm P0 rfl (by rfl) b l h0)))
 rw [if_neg h0]
 by_cases h3:tyI b=3
 ·rw [if_pos h3]
  obtain ⟨Q,h,hv⟩:=ZtC b h3 l (by omega)
  exact ZpR h hv
 rw [if_neg h3]
 by_cases hf:Zbl b 15=Zdq (tyI b)
 case neg =>
  rw [if_neg hf]
  exact hF 129 (ZgB b 129 l (Zlv b l (Zx _ rfl (by rfl) _ _) (ZHA P0 rfl (by rfl) b (tyI b) l rfl h0 h3 hf)))
 rw [if_pos hf]
 have hfi:=ZtT P0 rfl (by rfl) b (tyI b) l rfl h0 h3 hf
 have hB:=ZzF l hl (tyI b) (by omega) h3
 generalize tyI b=t at *
 have p1:(P0.set 0 (.int .i64 t)).length=26:=rfl
 have p2:Zd (P0.set 0 (.int .i64 t))=true:=by rfl
 cases hx:Zcn t l with
 | error e =>
  rw [hx] at hB
  rcases hB with ⟨cs,hn,hb⟩ | ⟨Q,kk,n,r,w,ys,hQ,hN,hk,hb⟩
  ·exact hF e (ZgB b e l (Zrz b l p1 p2 hn hfi hb))
  ·exact hF e (ZgB b e l (ZBn b l p1 p2 hQ hN hk hfi hb))
 | ok q =>
  rw [hx] at hB
  rcases hB with ⟨Q,L,hQ,hN,nL,hi,hb⟩ | ⟨Q,q0,kk,w,ys,hQ,hN,hk,hi,hc,hb⟩
  ·exact ZpR (by rw [ZfH];exact Zox b l p1 p2 hQ hN hi.ok nL hfi hb) hi.view
  ·refine ZIn (by rw [ZfH];exact ZLP b l p1 p2 hQ hN hk (fun r g m=>Zp4 rfl hi.ok) hfi hb) (fun σ hs=>?_)
   have hv:ZL σ (.sl 0 0 0 ys.length)=some (.lst false ys,[0]):=by
    simp [ZL,Z0,hs]
   unfold Zi
   rw [ZmU hv (hi.view σ) (by omega),hc]
theorem Zpv (b:Int) (hb:0≤b∧b < 256) (l:Zb) (hl:l.length≤1099511627775) (f:Bool) (σ:Za) (site own:Nat) :
  Zj E1 BY σ site 32 own true [.agg [.int .u8 b,.lst f (l.map Zc)]]=some (.tup [ZZ (Zbm b l).1,.int .i64 (Zbm b l).2],σ,{}):=by
 rw [ZgA (by kernel_rfl) rfl]
 show ZaC σ σ [] [] site own (Zad true 0 (E1 32 [.agg [.int .u8 b,.lst false (l.map Zc)]] []))=_
 rw [ZBO b hb l hl,ZiX _ _ _ _ (by simp only [Zk,Zf,Zbo,Zlu])]
end Go.Proofs.YtmlkhhidifjjfaaDoor
namespace Go.Proofs.YtmlkhhidifjjfaaDoor
set_option maxHeartbeats 16000000
set_option maxRecDepth 10000
def ZhH:Zb:=[77,81,84,84]
theorem ZiF (q:Int):0≤Zw q 3∧Zw q 3≤3:=by
 have h:∀ x:BitVec 64,(x &&& BitVec.ofInt 64 3).toNat≤3:=by
  intro x
  rw [BitVec.toNat_and]
  exact Nat.and_le_right
 have h2:=h (BitVec.ofInt 64 q)
 unfold Zw
 have h3:IntKind.i64.bits=64:=rfl
 rw [h3,ZbL (by omega) (by omega)]
 omega
def Zqe (p:Zn):Int:=Z6 p.clean 2+Z6 p.hasWill 4+Zw p.will.qos 3*8+Z6 p.will.retain 32+Z6 p.hasPassword 64+Z6 p.hasUser 128
theorem ZdV (b:Bool) (n:Int) (h:0≤n):0≤Z6 b n∧Z6 b n≤n:=by unfold Z6;split <;> omega
theorem Zci (n:Int) (h0:0≤n) (h1:n < 9223372036854775808):IntKind.i64.wrap n=n:=by
 obtain ⟨m,rfl⟩:∃ m:Nat,n=m:=⟨n.toNat,by omega⟩
 exact ZbL (by omega) (by omega)
def ZlR (p:Zn):Zb:=((((Zag ZhH).1++beB (ZN 5) 1)++beB (ZN (Zqe p)) 1)++beB (ZN p.keep) 2)++(Zbs 1 p.props).1++(Zag p.client).1
def Zkg (p:Zn):Zb:=if p.hasWill then ((ZlR p++(Zbs 16 p.will.props).1)++(Zag p.will.topic).1)++(ZbC p.will.data).1 else ZlR p
def ZjY (p:Zn):Zb:=if p.hasUser then Zkg p++(Zag p.user).1 else Zkg p
def ZeA (p:Zn):Zb:=if p.hasPassword then ZjY p++(ZbC p.password).1 else ZjY p
section
variable (p:Zn) (h:OkW p)
include h
theorem ZIZ:E1 126 [.ref 0 0,ZZ p] [.var wn]=some (.tup [],wH 0 (ZeA p)):=by
 have hq:=ZiF p.will.qos
 have m1:=ZdV p.clean 2 (by omega)
 have m2:=ZdV p.hasWill 4 (by omega)
 have m3:=ZdV p.will.retain 32 (by omega)
 have m4:=ZdV p.hasPassword 64 (by omega)
 have m5:=ZdV p.hasUser 128 (by omega)
 have hm:=fun b n σ site own=>Zih b n σ site own
 have w1:=Zci (Z6 p.clean 2+Z6 p.hasWill 4) (by omega) (by omega)
 have w2:=Zci (Zw p.will.qos 3*8) (by omega) (by omega)
 have w3:=Zci (Z6 p.clean 2+Z6 p.hasWill 4+Zw p.will.qos 3*8) (by omega) (by omega)
 have w4:=Zci (Z6 p.clean 2+Z6 p.hasWill 4+Zw p.will.qos 3*8+Z6 p.will.retain 32) (by omega) (by omega)
 have w5:=Zci (Z6 p.clean 2+Z6 p.hasWill 4+Zw p.will.qos 3*8+Z6 p.will.retain 32+Z6 p.hasPassword 64) (by omega) (by omega)
 have w6:=Zci (Z6 p.clean 2+Z6 p.hasWill 4+Zw p.will.qos 3*8+Z6 p.will.retain 32+Z6 p.hasPassword 64+Z6 p.hasUser 128) (by omega) (by omega)
 have lim:=Zeu
 have t0:=ZcK ZhH
 have t1:=ZcK p.client
 have t2:=ZcK p.will.topic
 have t3:=ZcK p.user
 have d1:=Zi7 p.will.data
 have d2:=Zi7 p.password
 have y1:=Zdh 1 p.props
 have y2:=Zdh 16 p.will.props
 have f0:=fun {σ:Za} {t site:Nat}=>Ztd ZhH (by decide) (σ:=σ) (t:=t) (site:=site)
 unfold ZeA ZjY Zkg ZlR Zqe
 have n1:=Zbc 1 (ZN 5)
 generalize (Zag ZhH).1=l0 at *
 have f1:=fun {σ:Za} {site:Nat}=>ZfZ l0 5 1 (by omega) (by omega) (m:=1) rfl (by omega) (σ:=σ) 0 2 0 (site:=site) (by omega)
 generalize beB (ZN 5) 1=D1 at *
 obtain ⟨l1,e1⟩:∃ l1,l0++D1=l1:=⟨_,rfl⟩
 have k1:l1.length=l0.length+D1.length:=by rw [←e1,List.length_append]
 simp only [e1] at f1 ⊢
 have n2:=Zbc 1 (ZN (Z6 p.clean 2+Z6 p.hasWill 4+Zw p.will.qos 3*8+Z6 p.will.retain 32+Z6 p.hasPassword 64+Z6 p.hasUser 128))
 have f2:=fun {σ:Za} {site:Nat}=>ZfZ l1 (Z6 p.clean 2+Z6 p.hasWill 4+Zw p.will.qos 3*8+Z6 p.will.retain 32+Z6 p.hasPassword 64+Z6 p.hasUser 128) 1 (by omega) (by omega) (m:=1) rfl (by omega) (σ:=σ) 0 2 1 (site:=site) (by omega)
 generalize beB (ZN (Z6 p.clean 2+Z6 p.hasWill 4+Zw p.will.qos 3*8+Z6 p.will.retain 32+Z6 p.hasPassword 64+Z6 p.hasUser 128)) 1=D2 at *
 obtain ⟨l2,e2⟩:∃ l2,l1++D2=l2:=⟨_,rfl⟩
 have k2:l2.length=l1.length+D2.length:=by rw [←e2,List.length_append]
 simp only [e2] at f2 ⊢
 have n3:=Zbc 2 (ZN p.keep)
 have f3:=fun {σ:Za} {site:Nat}=>ZfZ l2 p.keep 2 (by omega) (by omega) (m:=2) rfl (by omega) (σ:=σ) 0 2 2 (site:=site) (by omega)
 generalize beB (ZN p.keep) 2=D3 at *
 obtain ⟨l3,e3⟩:∃ l3,l2++D3=l3:=⟨_,rfl⟩
 have k3:l3.length=l2.length+D3.length:=by rw [←e3,List.length_append]
 simp only [e3] at f3 ⊢
 have f4:=fun {σ:Za} {site:Nat}=>Zgh l3 1 p.props h.props.1 h.props.2 (by omega) (σ:=σ) 0 2 3 (site:=site) (by omega)
 generalize (Zbs 1 p.props).1=D4 at *
 obtain ⟨l4,e4⟩:∃ l4,l3++D4=l4:=⟨_,rfl⟩
 have k4:l4.length=l3.length+D4.length:=by rw [←e4,List.length_append]
 simp only [e4] at f4 ⊢
 have f5:=fun {σ:Za} {site:Nat}=>Zil l4 p.client h.client (by omega) (σ:=σ) 0 2 4 (site:=site) (by omega)
 generalize (Zag p.client).1=D5 at *
 obtain ⟨l5,e5⟩:∃ l5,l4++D5=l5:=⟨_,rfl⟩
 have k5:l5.length=l4.length+D5.length:=by rw [←e5,List.length_append]
 simp only [e5] at f5 ⊢
 have f6:=fun {σ:Za} {site:Nat}=>Zgh l5 16 p.will.props h.wprops.1 h.wprops.2 (by omega) (σ:=σ) 0 2 5 (site:=site) (by omega)
 generalize (Zbs 16 p.will.props).1=D6 at *
 obtain ⟨l6,e6⟩:∃ l6,l5++D6=l6:=⟨_,rfl⟩
 have k6:l6.length=l5.length+D6.length:=by rw [←e6,List.length_append]
 simp only [e6] at f6 ⊢
 have f7:=fun {σ:Za} {site:Nat}=>Zil l6 p.will.topic h.wtopic (by omega) (σ:=σ) 0 2 6 (site:=site) (by omega)
 generalize (Zag p.will.topic).1=D7 at *
 obtain ⟨l7,e7⟩:∃ l7,l6++D7=l7:=⟨_,rfl⟩
 have k7:l7.length=l6.length+D7.length:=by rw [←e7,List.length_append]
 simp only [e7] at f7 ⊢
 have f8:=fun {σ:Za} {site:Nat}=>ZuY l7 p.will.data h.wdata (by omega) (σ:=σ) 0 2 7 (site:=site) (by omega)
 generalize (ZbC p.will.data).1=D8 at *
 obtain ⟨l8,e8⟩:∃ l8,l7++D8=l8:=⟨_,rfl⟩
 have k8:l8.length=l7.length+D8.length:=by rw [←e8,List.length_append]
 simp only [e8] at f8 ⊢
 have hO:=fun {j g:Nat} {l:Zb} {σ:Za}=>ZdZ (j:=j) (g:=g) (l:=l) (σ:=σ)
 rw [Zbo]
 have e0:=ZbP p
 have a9:(Zu p)[9]?=some (.lst false (p.props.map Zl)):=rfl
 have a12:(Zu p)[12]?=some (.bool p.clean):=rfl
 have a13:(Zu p)[13]?=some (.int .i64 p.keep):=rfl
 have a14:(Zu p)[14]?=some (.str p.client):=rfl
 have a15:(Zu p)[15]?=some (.bool p.hasWill):=rfl
 have a16:(Zu p)[16]?=some (.str p.will.topic):=rfl
 have a17:(Zu p)[17]?=some (.lst false (p.will.data.map Zc)):=rfl
 have a18:(Zu p)[18]?=some (.int .i64 p.will.qos):=rfl
 have a19:(Zu p)[19]?=some (.bool p.will.retain):=rfl
 have a20:(Zu p)[20]?=some (.lst false (p.will.props.map Zl)):=rfl
 have a21:(Zu p)[21]?=some (.bool p.hasUser):=rfl
 have a22:(Zu p)[22]?=some (.str p.user):=rfl
 have a23:(Zu p)[23]?=some (.bool p.hasPassword):=rfl
 have a24:(Zu p)[24]?=some (.lst false (p.password.map Zc)):=rfl
 have b5:=h.user
 have b6:=h.password
 clear h
 generalize Zu p=P at *
 generalize p.will.qos=wq at *
 generalize p.will.retain=wr at *
 generalize p.will.topic=wt at *
 generalize p.will.data=wd at *
 generalize p.will.props=wp at *
 generalize p.clean=cl at *
 generalize p.keep=kp at *
 generalize p.client=ci at *
 generalize p.props=ps at *
 generalize p.hasWill=hw at *
 generalize p.hasUser=hu at *
 generalize p.hasPassword=hp at *
 generalize p.user=us at *
 generalize p.password=pw at *
 unfold Zw ZhH at *
 rw [Zbj (by rfl) ZOt]
 have fu:=fun (l:Zb) (g:Nat) (hl:l.length≤1000000000) {σ:Za} {site:Nat}=>Zil l us b5 (by omega) (σ:=σ) 0 2 g (site:=site) (by omega)
 have fp:=fun (l:Zb) (g:Nat) (hl:l.length≤1000000000) {σ:Za} {site:Nat}=>ZuY l pw b6 (by omega) (σ:=σ) 0 2 g (site:=site) (by omega)
 generalize (Zag us).1=Du at *
 generalize (ZbC pw).1=Dp at *
 cases hw <;> cases hu <;> cases hp
 ·simp only [Bool.false_eq_true,if_false]
  unfold wn at *
  simp -implicitDefEqProofs only [EQA,Zs,Nat.reduceAdd,Nat.reduceLT,Nat.reduceEqDiff,Nat.reduceBEq,reduceCtorEq,↓reduceIte,Zd,List.contains_cons,Zfo,ZeH,Zf7,oI,AVal.cells,a9,a12,a13,a14,a15,a18,a19,a21,a23,hm,w1,w2,w3,w4,w5,w6,f0,f1,f2,f3,f4,f5,Zae,Zaf,Zam,Zao,Zar,Zah,List.lookup_nil]
  exact hO (j:=2) (by decide) rfl rfl
 ·have g1:=fun {σ:Za} {site:Nat}=>fp l5 5 (by omega) (σ:=σ) (site:=site)
  simp only [Bool.false_eq_true,if_false,if_true]
  unfold wn at *
  simp -implicitDefEqProofs only [EQA,Zs,Nat.reduceAdd,Nat.reduceLT,Nat.reduceEqDiff,Nat.reduceBEq,reduceCtorEq,↓reduceIte,Zd,List.contains_cons,Zfo,ZeH,Zf7,oI,AVal.cells,a9,a12,a13,a14,a15,a18,a19,a21,a23,a24,hm,w1,w2,w3,w4,w5,w6,f0,f1,f2,f3,f4,f5,g1,Zae,Zaf,Zam,Zao,Zar,Zah,List.lookup_nil]
  exact hO (j:=2) (by decide) rfl rfl
 ·have g1:=fun {σ:Za} {site:Nat}=>fu l5 5 (by omega) (σ:=σ) (site:=site)
  simp only [Bool.false_eq_true,if_false,if_true]
  unfold wn at *
  simp -implicitDefEqProofs only [EQA,Zs,Nat.reduceAdd,Nat.reduceLT,Nat.reduceEqDiff,Nat.reduceBEq,reduceCtorEq,↓reduceIte,Zd,List.contains_cons,Zfo,ZeH,Zf7,oI,AVal.cells,a9,a12,a13,a14,a15,a18,a19,a21,a22,a23,hm,w1,w2,w3,w4,w5,w6,f0,f1,f2,f3,f4,f5,g1,Zae,Zaf,Zam,Zao,Zar,Zah,List.lookup_nil]
  exact hO (j:=2) (by decide) rfl rfl
 ·have g1:=fun {σ:Za} {site:Nat}=>fu l5 5 (by omega) (σ:=σ) (site:=site)
  have g2:=fun {σ:Za} {site:Nat}=>fp (l5++Du) 6 (by rw [List.length_append];omega) (σ:=σ) (site:=site)
  simp only [Bool.false_eq_true,if_false,if_true]
  unfold wn at *
  simp -implicitDefEqProofs only [EQA,Zs,Nat.reduceAdd,Nat.reduceLT,Nat.reduceEqDiff,Nat.reduceBEq,reduceCtorEq,↓reduceIte,Zd,List.contains_cons,Zfo,ZeH,Zf7,oI,AVal.cells,a9,a12,a13,a14,a15,a18,a19,a21,a22,a23,a24,hm,w1,w2,w3,w4,w5,w6,f0,f1,f2,f3,f4,f5,g1,g2,Zae,Zaf,Zam,Zao,Zar,Zah,List.lookup_nil]
  exact hO (j:=2) (by decide) rfl rfl
 ·simp only [Bool.false_eq_true,if_false,if_true]
  unfold wn at *
  simp -implicitDefEqProofs only [EQA,Zs,Nat.reduceAdd,Nat.reduceLT,Nat.reduceEqDiff,Nat.reduceBEq,reduceCtorEq,↓reduceIte,Zd,List.contains_cons,Zfo,ZeH,Zf7,oI,AVal.cells,a9,a12,a13,a14,a15,a16,a17,a18,a19,a20,a21,a23,hm,w1,w2,w3,w4,w5,w6,f0,f1,f2,f3,f4,f5,f6,f7,f8,Zae,Zaf,Zam,Zao,Zar,Zah,List.lookup_nil]
  exact hO (j:=2) (by decide) rfl rfl
 ·have g1:=fun {σ:Za} {site:Nat}=>fp l8 8 (by omega) (σ:=σ) (site:=site)
  simp only [Bool.false_eq_true,if_false,if_true]
  unfold wn at *
  simp -implicitDefEqProofs only [EQA,Zs,Nat.reduceAdd,Nat.reduceLT,Nat.reduceEqDiff,Nat.reduceBEq,reduceCtorEq,↓reduceIte,Zd,List.contains_cons,Zfo,ZeH,Zf7,oI,AVal.cells,a9,a12,a13,a14,a15,a16,a17,a18,a19,a20,a21,a23,a24,hm,w1,w2,w3,w4,w5,w6,f0,f1,f2,f3,f4,f5,f6,f7,f8,g1,Zae,Zaf,Zam,Zao,Zar,Zah,List.lookup_nil]
  exact hO (j:=2) (by decide) rfl rfl
 ·have g1:=fun {σ:Za} {site:Nat}=>fu l8 8 (by omega) (σ:=σ) (site:=site)
  simp only [Bool.false_eq_true,if_false,if_true]
  unfold wn at *
  simp -implicitDefEqProofs only [EQA,Zs,Nat.reduceAdd,Nat.reduceLT,Nat.reduceEqDiff,Nat.reduceBEq,reduceCtorEq,↓reduceIte,Zd,List.contains_cons,Zfo,ZeH,Zf7,oI,AVal.cells,a9,a12,a13,a14,a15,a16,a17,a18,a19,a20,a21,a22,a23,hm,w1,w2,w3,w4,w5,w6,f0,f1,f2,f3,f4,f5,f6,f7,f8,g1,Zae,Zaf,Zam,Zao,Zar,Zah,List.lookup_nil]
  exact hO (j:=2) (by decide) rfl rfl
 ·have g1:=fun {σ:Za} {site:Nat}=>fu l8 8 (by omega) (σ:=σ) (site:=site)
  have g2:=fun {σ:Za} {site:Nat}=>fp (l8++Du) 9 (by rw [List.length_append];omega) (σ:=σ) (site:=site)
  simp only [if_true]
  unfold wn at *
  simp -implicitDefEqProofs only [EQA,Zs,Nat.reduceAdd,Nat.reduceLT,Nat.reduceEqDiff,Nat.reduceBEq,reduceCtorEq,↓reduceIte,Zd,List.contains_cons,Zfo,ZeH,Zf7,oI,AVal.cells,a9,a12,a13,a14,a15,a16,a17,a18,a19,a20,a21,a22,a23,a24,hm,w1,w2,w3,w4,w5,w6,f0,f1,f2,f3,f4,f5,f6,f7,f8,g1,g2,Zae,Zaf,Zam,Zao,Zar,Zah,List.lookup_nil]
  exact hO (j:=2) (by decide) rfl rfl
theorem ZMQ:(ZeA p).length≤1000000000:=by
 have t0:=ZcK ZhH
 have t1:=ZcK p.client
 have t2:=ZcK p.will.topic
 have t3:=ZcK p.user
 have d1:=Zi7 p.will.data
 have d2:=Zi7 p.password
 have y1:=Zdh 1 p.props
 have y2:=Zdh 16 p.will.props
 have n1:=Zbc 1 (ZN 5)
 have n2:=Zbc 1 (ZN (Zqe p))
 have n3:=Zbc 2 (ZN p.keep)
 unfold ZeA ZjY Zkg ZlR
 cases p.hasWill <;> cases p.hasUser <;> cases p.hasPassword <;> simp only [Bool.false_eq_true,if_false,if_true,List.length_append] <;> omega
theorem ZJh {σ:Za} {t site:Nat} (hf:σ[site]?=some .free) (hs0:σ[t]?=some (.var wn)) :
  Zj E1 BY σ site 126 1 true [.ref t 0,.agg (Zu p)]=some (.tup [],(σ.set t (.var (wv site 0 (ZeA p).length))).set site (.row 0 1 ((ZeA p).map Zc)),{ any:=true,upd:=[(t,wv site 0 (ZeA p).length)] }) :=
 Zgy (args:=[.agg (Zu p)]) rfl rfl (ZIZ p h) (by kernel_rfl) (by rw [List.all_cons,ZdG];rfl) (by rw [List.map_cons,Zdv];rfl) hf hs0
end
end Go.Proofs.YtmlkhhidifjjfaaDoor
namespace Go.Proofs.YtmlkhhidifjjfaaDoor
set_option maxHeartbeats 16000000
set_option maxRecDepth 10000
def ZkU (p:Zn):Zb:=if p.qos > 0 then (Zag p.topic).1++beB (ZN p.id) 2 else (Zag p.topic).1
def ZkB (p:Zn):Zb:=(ZkU p++(Zbs 3 p.props).1)++p.payload
def ZkD (p:Zn):Zb:=(beB (ZN (Z6 p.present 1)) 1++beB (ZN p.code) 1)++(Zbs 2 p.props).1
def ZfY (s:Zbq):Int:=Zw s.qos 3+Z6 s.noLocal 4+Z6 s.asPublished 8+Zw s.handling 3*16
def Zmq (s:Zbq):Zb:=(Zag s.filter).1++beB (ZN (ZfY s)) 1
def Zd4 (l:List Zbq):Zb:=(l.map Zmq).flatten
def Zd9 (l:List Zb):Zb:=(l.map fun f=>(Zag f).1).flatten
def Zea (l:List Int):Zb:=(l.map fun c=>beB (ZN c) 1).flatten
theorem Zwn (p:Zn) (h:OkW p) (hk:p.type=3):E1 78 [.ref 0 0,ZZ p] [.var wn]=some (.tup [],wH 0 (ZkB p)):=by
 have lim:=Zeu
 have t1:=ZcK p.topic
 have y1:=Zdh 3 p.props
 have n1:=Zbc 2 (ZN p.id)
 have f0:=fun {σ:Za} {t site:Nat}=>Ztd p.topic h.topic (σ:=σ) (t:=t) (site:=site)
 have pl:=h.payload
 unfold ZkB ZkU
 generalize (Zag p.topic).1=l0 at *
 have f1:=fun {σ:Za} {site:Nat}=>ZfZ l0 p.id 2 (by omega) (by omega) (m:=2) rfl (by omega) (σ:=σ) 0 2 0 (site:=site) (by omega)
 generalize beB (ZN p.id) 2=D1 at *
 have f2:=fun (l:Zb) (g:Nat) (hl:l.length≤1000000000) {σ:Za} {site:Nat}=>Zgh l 3 p.props h.props.1 h.props.2 (by omega) (σ:=σ) 0 2 g (site:=site) (by omega)
 generalize (Zbs 3 p.props).1=D2 at *
 have f3:=fun (l:Zb) (g:Nat) (hl:l.length≤2000000000) {σ:Za} {site:Nat}=>ZhV l p.payload (by omega) (σ:=σ) 0 2 g (site:=site) (by omega)
 have hO:=fun {j g:Nat} {l:Zb} {σ:Za}=>ZdZ (j:=j) (g:=g) (l:=l) (σ:=σ)
 rw [Zbo]
 have e0:=ZbP p
 have a0:(Zu p)[0]?=some (.int .i64 p.type):=rfl
 have a2:(Zu p)[2]?=some (.int .i64 p.qos):=rfl
 have a4:(Zu p)[4]?=some (.int .i64 p.id):=rfl
 have a5:(Zu p)[5]?=some (.str p.topic):=rfl
 have a6:(Zu p)[6]?=some (.lst false (p.payload.map Zc)):=rfl
 have a9:(Zu p)[9]?=some (.lst false (p.props.map Zl)):=rfl
 rw [hk] at a0
 clear h hk
 generalize Zu p=P at *
 generalize p.qos=q at *
 generalize p.id=c at *
 generalize p.topic=tp at *
 generalize p.payload=pa at *
 generalize p.props=ps at *
 rw [Zbj (by rfl) ZeI]
 by_cases hq:q > 0
 ·rw [if_pos hq]
  have k1:(l0++D1).length=l0.length+D1.length:=List.length_append
  have k2:(l0++D1++D2).length=l0.length+D1.length+D2.length:=by rw [List.length_append,k1]
  have g2:=fun {σ:Za} {site:Nat}=>f2 (l0++D1) 1 (by omega) (σ:=σ) (site:=site)
  have g3:=fun {σ:Za} {site:Nat}=>f3 (l0++D1++D2) 2 (by omega) (σ:=σ) (site:=site)
  clear k1 k2 f2 f3
  unfold wn wT at *
  simp -implicitDefEqProofs only [EQA,Zs,Nat.reduceAdd,Nat.reduceLT,Nat.reduceEqDiff,Nat.reduceBEq,reduceCtorEq,decide_true,↓reduceIte,Zd,Zd8,Zdl,ZdP,oI,AVal.cells,a0,a2,a4,a5,a6,a9,Int.reduceBEq,hq,f0,f1,g2,g3,Zae,Zaf,Zam,Zao,Zar,Zah]
  exact hO (j:=2) (by decide) rfl rfl
 ·rw [if_neg hq]
  have k2:(l0++D2).length=l0.length+D2.length:=List.length_append
  have g2:=fun {σ:Za} {site:Nat}=>f2 l0 0 (by omega) (σ:=σ) (site:=site)
  have g3:=fun {σ:Za} {site:Nat}=>f3 (l0++D2) 1 (by omega) (σ:=σ) (site:=site)
  clear k2 f2 f3
  unfold wn wT at *
  simp -implicitDefEqProofs only [EQA,Zs,Nat.reduceAdd,Nat.reduceLT,Nat.reduceEqDiff,Nat.reduceBEq,reduceCtorEq,decide_false,↓reduceIte,Zd,Zd8,Zdl,ZdP,oI,AVal.cells,a0,a2,a5,a6,a9,Int.reduceBEq,hq,f0,g2,g3,Zae,Zaf,Zam,Zao,Zar,Zah]
  exact hO (j:=2) (by decide) rfl rfl
theorem Zx8 (p:Zn) (h:OkW p) (hk:p.type=1):E1 78 [.ref 0 0,ZZ p] [.var wn]=some (.tup [],wH 0 (ZeA p)):=by
 have f0:=fun {σ:Za} {t site:Nat}=>ZJh p h (σ:=σ) (t:=t) (site:=site)
 have hO:=fun {j g:Nat} {l:Zb} {σ:Za}=>ZdZ (j:=j) (g:=g) (l:=l) (σ:=σ)
 rw [Zbo]
 generalize ZeA p=B at *
 have e0:=ZbP p
 have e1:=Zcj p
 have a0:(Zu p)[0]?=some (.int .i64 p.type):=rfl
 rw [hk] at a0
 generalize Zu p=P at *
 rw [Zbj (by rfl) ZeI]
 unfold wn at *
 simp -implicitDefEqProofs only [EQA,Zs,Nat.reduceAdd,Nat.reduceLT,Nat.reduceLeDiff,Nat.reduceEqDiff,Nat.reduceBEq,reduceCtorEq,↓reduceIte,Zd,Zd8,Zdl,ZdP,oI,AVal.cells,a0,e0,e1,f0]
 exact hO (j:=2) (by decide) rfl rfl
theorem ZGj (p:Zn) (h:OkW p) (hk:p.type=2):E1 78 [.ref 0 0,ZZ p] [.var wn]=some (.tup [],wH 0 (ZkD p)):=by
 have lim:=Zeu
 have y1:=Zdh 2 p.props
 have n1:=Zbc 1 (ZN p.code)
 have n0:=Zbc 1 (ZN (Z6 p.present 1))
 have hm:=fun b n σ site own=>Zih b n σ site own
 have f0:=fun {σ:Za} {t site:Nat}=>ZjS (Z6 p.present 1) 1 (by omega) (by omega) (m:=1) rfl (σ:=σ) (t:=t) (site:=site)
 unfold ZkD
 generalize beB (ZN (Z6 p.present 1)) 1=l0 at *
 have f1:=fun {σ:Za} {site:Nat}=>ZfZ l0 p.code 1 (by omega) (by omega) (m:=1) rfl (by omega) (σ:=σ) 0 2 0 (site:=site) (by omega)
 generalize beB (ZN p.code) 1=D1 at *
 have k1:(l0++D1).length=l0.length+D1.length:=List.length_append
 have f2:=fun {σ:Za} {site:Nat}=>Zgh (l0++D1) 2 p.props h.props.1 h.props.2 (by omega) (σ:=σ) 0 2 1 (site:=site) (by omega)
 generalize (Zbs 2 p.props).1=D2 at *
 have hO:=fun {j g:Nat} {l:Zb} {σ:Za}=>ZdZ (j:=j) (g:=g) (l:=l) (σ:=σ)
 rw [Zbo]
 have e0:=ZbP p
 have a0:(Zu p)[0]?=some (.int .i64 p.type):=rfl
 have a7:(Zu p)[7]?=some (.int .i64 p.code):=rfl
 have a9:(Zu p)[9]?=some (.lst false (p.props.map Zl)):=rfl
 have a25:(Zu p)[25]?=some (.bool p.present):=rfl
 rw [hk] at a0
 clear h hk k1
 generalize Zu p=P at *
 generalize p.code=c at *
 generalize p.present=b at *
 generalize p.props=ps at *
 rw [Zbj (by rfl) ZeI]
 unfold wn at *
 simp -implicitDefEqProofs only [EQA,Zs,Nat.reduceAdd,Nat.reduceLT,Nat.reduceEqDiff,Nat.reduceBEq,reduceCtorEq,↓reduceIte,Zd,Zd8,Zdl,ZdP,oI,AVal.cells,a0,a7,a9,a25,Int.reduceBEq,hm,f0,f1,f2]
 exact hO (j:=2) (by decide) rfl rfl
theorem ZsF (p:Zn) (h:OkW p) (hk:p.type=4∨p.type=5∨p.type=6∨p.type=7):E1 78 [.ref 0 0,ZZ p] [.var wn]=some (.tup [],wH 0 (beB (ZN p.id) 2++ZbJ p)):=by
 have n0:=Zbc 2 (ZN p.id)
 have f0:=fun {σ:Za} {t site:Nat}=>ZjS p.id 2 (by omega) (by omega) (m:=2) rfl (σ:=σ) (t:=t) (site:=site)
 generalize beB (ZN p.id) 2=l0 at *
 have f1:=fun {σ:Za} {site:Nat}=>ZNS p h l0 (by omega) (σ:=σ) 0 2 0 (site:=site) (by omega)
 have hO:=fun {j g:Nat} {l:Zb} {σ:Za}=>ZdZ (j:=j) (g:=g) (l:=l) (σ:=σ)
 rw [Zbo]
 generalize ZbJ p=B at *
 generalize Zfq p=g0 at *
 have e0:=ZbP p
 have e1:=Zcj p
 have a0:(Zu p)[0]?=some (.int .i64 p.type):=rfl
 have a4:(Zu p)[4]?=some (.int .i64 p.id):=rfl
 clear h
 generalize Zu p=P at *
 generalize p.id=c at *
 generalize p.type=ty at *
 rw [Zbj (by rfl) ZeI]
 unfold wn at *
 rcases hk with rfl | rfl | rfl | rfl
 all_goals
  simp -implicitDefEqProofs only [EQA,Zs,Nat.reduceAdd,Nat.reduceLT,Nat.reduceLeDiff,Nat.reduceEqDiff,Nat.reduceBEq,reduceCtorEq,↓reduceIte,Zd,Zd8,Zdl,ZdP,oI,AVal.cells,a0,a4,e0,e1,Int.reduceBEq,f0,f1]
  exact hO (j:=2) (by decide) rfl rfl
theorem ZBy (p:Zn) (h:OkW p) (hb:Zdi p=none) {σ:Za} {t site:Nat} (hf:σ[site]?=some .free) (hs0:σ[t]?=some (.var wn)) :
  Zj E1 BY σ site 131 1 true [.ref t 0,.agg (Zu p)]=some (.tup [],σ,{ any:=true,upd:=[(t,wn)] }):=by
 have:=ZtX p h
 rw [hb] at this
 exact ZtQ (args:=[.agg (Zu p)]) this (by kernel_rfl) (by rw [List.all_cons,ZdG];rfl) (by rw [List.map_cons,Zdv];rfl) (ff1 hf) hs0
theorem ZEe (p:Zn) (h:OkW p) (hb:Zdi p≠none) {σ:Za} {t site:Nat} (hf:σ[site]?=some .free) (hs0:σ[t]?=some (.var wn)) :
  Zj E1 BY σ site 131 1 true [.ref t 0,.agg (Zu p)]=some (.tup [],(σ.set t (.var (wv site 0 (ZbJ p).length))).set site (.row 0 1 ((ZbJ p).map Zc)),{ any:=true,upd:=[(t,wv site 0 (ZbJ p).length)] }):=by
 have:=ZtX p h
 unfold Zdi at this hb
 by_cases hc:p.code≠0∨p.props≠[]
 ·rw [if_pos hc] at this
  exact Zgy (args:=[.agg (Zu p)]) rfl rfl this (by kernel_rfl) (by rw [List.all_cons,ZdG];rfl) (by rw [List.map_cons,Zdv];rfl) hf hs0
 ·rw [if_neg hc] at hb;exact absurd rfl hb
theorem ZCV (p:Zn) (h:OkW p) (hk:p.type=14∨p.type=15):E1 78 [.ref 0 0,ZZ p] [.var wn]=some (.tup [],wO (Zdi p)):=by
 have hO:=fun {j g:Nat} {l:Zb} {σ:Za}=>ZdZ (j:=j) (g:=g) (l:=l) (σ:=σ)
 have e0:=ZbP p
 have e1:=Zcj p
 have a0:(Zu p)[0]?=some (.int .i64 p.type):=rfl
 by_cases hb:Zdi p=none
 ·have f1:=fun {σ:Za} {t site:Nat}=>ZBy p h hb (σ:=σ) (t:=t) (site:=site)
  rw [hb,Zbo]
  clear h hb
  generalize Zu p=P at *
  generalize p.type=ty at *
  rw [Zbj (by rfl) ZeI]
  unfold wO wn at *
  rcases hk with rfl | rfl
  all_goals
   simp -implicitDefEqProofs only [EQA,Zs,Z2,Nat.reduceAdd,Nat.reduceLT,Nat.reduceLeDiff,Nat.reduceEqDiff,Nat.reduceBEq,reduceCtorEq,↓reduceIte,Zd,Zd8,Zdl,ZdP,oI,AVal.cells,a0,e0,e1,Int.reduceBEq,f1]
 ·have f1:=fun {σ:Za} {t site:Nat}=>ZEe p h hb (σ:=σ) (t:=t) (site:=site)
  have hr:Zdi p=some (ZbJ p):=by unfold Zdi at hb ⊢;split at hb <;> simp_all
  rw [hr,Zbo]
  clear h hb hr
  generalize ZbJ p=B at *
  generalize Zu p=P at *
  generalize p.type=ty at *
  rw [Zbj (by rfl) ZeI]
  unfold wO wn at *
  rcases hk with rfl | rfl
  all_goals
   simp -implicitDefEqProofs only [EQA,Zs,Nat.reduceAdd,Nat.reduceLT,Nat.reduceLeDiff,Nat.reduceEqDiff,Nat.reduceBEq,reduceCtorEq,↓reduceIte,Zd,Zd8,Zdl,ZdP,oI,AVal.cells,a0,e0,e1,Int.reduceBEq,f1]
   exact hO (j:=2) (by decide) rfl rfl
theorem Zzl (p:Zn) (hk:p.type < 1∨p.type=12∨p.type=13∨15 < p.type):E1 78 [.ref 0 0,ZZ p] [.var wn]=some (.tup [],[.var wn]):=by
 have e0:=ZbP p
 have a0:(Zu p)[0]?=some (.int .i64 p.type):=rfl
 have b:∀ n:Int,n=1∨n=2∨n=3∨n=4∨n=5∨n=6∨n=7∨n=8∨n=9∨n=10∨n=11∨n=14∨n=15→(p.type == n)=false:=by
  intro n hn
  have : p.type≠n:=by omega
  simpa using this
 have b1:=b 1 (by simp)
 have b2:=b 2 (by simp)
 have b3:=b 3 (by simp)
 have b4:=b 4 (by simp)
 have b5:=b 5 (by simp)
 have b6:=b 6 (by simp)
 have b7:=b 7 (by simp)
 have b8:=b 8 (by simp)
 have b9:=b 9 (by simp)
 have b10:=b 10 (by simp)
 have b11:=b 11 (by simp)
 have b14:=b 14 (by simp)
 have b15:=b 15 (by simp)
 rw [Zbo]
 generalize Zu p=P at *
 generalize p.type=ty at *
 rw [Zbj (by rfl) ZeI]
 unfold wn at *
 simp -implicitDefEqProofs only [EQA,Zs,Z2,Nat.reduceAdd,Nat.reduceLT,Nat.reduceEqDiff,Nat.reduceBEq,reduceCtorEq,↓reduceIte,Zd,Zd8,Zdl,ZdP,oI,AVal.cells,a0,b1,b2,b3,b4,b5,b6,b7,b8,b9,b10,b11,b14,b15]
end Go.Proofs.YtmlkhhidifjjfaaDoor
namespace Go.Proofs.YtmlkhhidifjjfaaDoor
set_option maxHeartbeats 16000000
set_option maxRecDepth 10000
theorem xw1 (c d:Ze) (h:c=d) (m:Nat) (tm:Tms) (σ:Za):evC FC PR1 BY m c tm σ=evC FC PR1 BY m d tm σ:=by rw [h]
def ZqT:=xw1 Zoj Zlw rfl
def Zus:=xw1 ZoS Zlb rfl
def ZuN:=xw1 ZpO Zk8 rfl
noncomputable def Zlj (m:Nat) (tm:Tms) (σ:Za):Option (AVal×Za):=(Zan m ZgW (Option.map (ZaW 0) (Option.map (ZaW 1) (evL FC PR1 BY m [75,74,73,0] Zoj tm σ))))
noncomputable def Zkh (m:Nat) (tm:Tms) (σ:Za):Option (AVal×Za):=(Zan m ZgW (Option.map (ZaW 0) (Option.map (ZaW 3) (evL FC PR1 BY m [110,109,108,0] ZoS tm σ))))
noncomputable def Zk3 (m:Nat) (tm:Tms) (σ:Za):Option (AVal×Za):=(Zan m ZgW (Option.map (ZaW 0) (Option.map (ZaW 5) (evL FC PR1 BY m [127,126,125,0] ZpO tm σ))))
theorem ZhI {a b c d:Nat} {x y z:AVal} (hx:ZI x=true) (hy:ZI y=true) (hz:ZI z=true) (r g:Nat) (hr:r≠0) (l:Zb) (σ:Za) (h0:σ[0]?=some (.var (wv r g l.length))) (h1:σ[r]?=some (.row g 1 (l.map Zc))) :
  gcT 1 [(a,x),(b,y),(c,z),(d,.ref 0 0)] σ=([(a,x),(b,y),(c,z),(d,.ref 0 0)],[.var (wv 1 0 l.length),.row 0 1 (l.map Zc)]):=by
 have d0:σ.getD 0 .free=.var (wv r g l.length):=by simp [List.getD_eq_getElem?_getD,h0]
 have d1:σ.getD r .free=.row g 1 (l.map Zc):=by simp [List.getD_eq_getElem?_getD,h1]
 have ej:([0]:List Nat).contains r=false:=by simp;omega
 have hrf:Zr (wv r g l.length)=[r]:=rfl
 have e1:=fun ρ=>Za1 ρ x hx
 have e2:=fun ρ=>Za1 ρ y hy
 have e3:=fun ρ=>Za1 ρ z hz
 have hv:Zr [x,y,z,.ref 0 0]=[0]:=by
  simp only [Zr,(e1 (fun _ _=>none)).2,(e2 (fun _ _=>none)).2,(e3 (fun _ _=>none)).2];rfl
 have hi:ZB 1 [x,y,z,.ref 0 0] σ=[0,r]:=by
  have hR:List.range 1=[0]:=rfl
  have e0:([]:List Nat).contains r=false:=rfl
  simp only [ZB,hv,hR,List.flatMap_cons,List.flatMap_nil,List.append_nil,d0,ZJ,hrf]
  rw [show (1000:Nat)=996+1+1+1+1 from rfl]
  simp only [List.cons_append,List.nil_append,Zz,ej,d1,ZJ,List.append_nil,Bool.false_eq_true,if_false]
  have ej0:([0]:List Nat).contains 0=true:=rfl
  have ejr:([0,r]:List Nat).contains r=true:=by simp
  simp []
 have hρ:Zm σ 1 [0,r] r g=some (1,0):=by
  have : ¬(0:Nat)=r:=fun e=>hr e.symm
  simp [Zm,ZY,Zo,ZQ,h1,this]
 have hρ0:Zm σ 1 [0,r] 0 0=some (0,0):=by
  simp [Zm,ZY,Zo,ZQ,h0]
 have hren:Zf (Zm σ 1 [0,r]) (wv r g l.length)=wv 1 0 l.length:=by simp only [wv,Zf,Zk,hρ]
 simp only [gcT,gcA,hi,List.map_cons,List.map_nil,Zv,d0,d1,ZQ,Zo,ZF,hren,Zf,(e1 _).1,(e2 _).1,(e3 _).1,Zk,hρ0]
 simp
theorem ZEk (r:List Zb):(Zd9 r).length≤r.length*65537:=by
 induction r with
 | nil=>simp [Zd9]
 | cons x r ih =>
  have:=ZcK x
  simp only [Zd9,List.map_cons,List.flatten_cons,List.length_append,List.length_cons] at ih ⊢
  omega
theorem ZFX (r:List Int):(Zea r).length≤r.length:=by
 induction r with
 | nil=>simp [Zea]
 | cons x r ih =>
  have:=Zbc 1 (ZN x)
  simp only [Zea,List.map_cons,List.flatten_cons,List.length_append,List.length_cons] at ih ⊢
  omega
theorem ZEy (r:List Zbq):(Zd4 r).length≤r.length*65538:=by
 induction r with
 | nil=>simp [Zd4]
 | cons x r ih =>
  have:=ZcK x.filter
  have:=Zbc 1 (ZN (ZfY x))
  simp only [Zd4,List.map_cons,List.flatten_cons,List.length_append,List.length_cons,Zmq] at ih ⊢
  omega
theorem Zvf (fs:List Zb) (hn:fs.length≤1048576) (hx:∀ f ∈ fs,f.length≤9223372036854775807):∀ (r:List Zb) (i:Nat) (l:Zb),fs.drop i=r→l.length+r.length*65537≤1000000000000 →
  Zkh 1 [(110,.int .i64 i),(109,.int .i64 fs.length),(108,.lst false (fs.map AVal.str)),(0,.ref 0 0)] [.var (wv 1 0 l.length),.row 0 1 (l.map Zc)]=some (.tup [],wH 0 (l++Zd9 r))
 | [],i,l,h,hl=>by
  have h1:=ZcO h
  have hO:=fun {j g:Nat} {l:Zb} {σ:Za}=>ZdZ (j:=j) (g:=g) (l:=l) (σ:=σ)
  have e:l++Zd9 []=l:=by simp [Zd9]
  rw [e]
  unfold Zkh
  rw [Z5]
  simp -implicitDefEqProofs only [EQA,Zs,Nat.reduceAdd,Nat.reduceLT,Nat.reduceEqDiff,reduceCtorEq,decide_false,↓reduceIte,Zd,ZdP,Zlb,oI,Zus,h1]
  exact hO (j:=1) (by decide) rfl rfl
 | x::r,i,l,h,hl=>by
  have hx0:x.length≤9223372036854775807:=hx x (List.mem_of_getElem? (Z7 h).1)
  have t1:=ZcK x
  have lim:=Zeu
  simp only [List.length_cons] at hl
  have ih:=Zvf fs hn hx r (i+1) (l++(Zag x).1) (Z7 h).2.1 (by rw [List.length_append];omega)
  have h1:(i:Int) < fs.length:=by have:=(Z7 h).2.2;omega
  have e1:=iad (Z7 h).1 AVal.str (k:=1) rfl
  have e3:=ZcT h1 (by omega)
  have f1:=fun {σ:Za} {site:Nat}=>Zil l x hx0 (by omega) (σ:=σ) 0 1 0 (site:=site) (by omega)
  have e:l++Zd9 (x::r)=l++(Zag x).1++Zd9 r:=by simp [Zd9]
  rw [e]
  generalize (Zag x).1=D at *
  have hG:=fun {a b c d:Nat} {i n:Int} {σ:Za} h0 h1=>ZhI (a:=a) (b:=b) (c:=c) (d:=d) (x:=.int .i64 i) (y:=.int .i64 n) (z:=.lst false (fs.map AVal.str)) rfl rfl rfl 1 1 (by omega) (l++D) σ h0 h1
  unfold Zkh at ih ⊢
  rw [Z5]
  simp -implicitDefEqProofs only [EQA,Z2,Nat.reduceAdd,Nat.reduceLT,Nat.reduceEqDiff,Nat.reduceBEq,reduceCtorEq,decide_true,↓reduceIte,Zlb,oI,Zus,AVal.cells,h1,e1,e3,f1,hG]
  exact ih
theorem Zrk (fs:List Int) (hn:fs.length≤1048576):∀ (r:List Int) (i:Nat) (l:Zb),fs.drop i=r→l.length+r.length≤1000000000000 →
  Zk3 1 [(127,.int .i64 i),(126,.int .i64 fs.length),(125,.lst false (fs.map (AVal.int .i64))),(0,.ref 0 0)] [.var (wv 1 0 l.length),.row 0 1 (l.map Zc)]=some (.tup [],wH 0 (l++Zea r))
 | [],i,l,h,hl=>by
  have h1:=ZcO h
  have hO:=fun {j g:Nat} {l:Zb} {σ:Za}=>ZdZ (j:=j) (g:=g) (l:=l) (σ:=σ)
  have e:l++Zea []=l:=by simp [Zea]
  rw [e]
  unfold Zk3
  rw [Z5]
  simp -implicitDefEqProofs only [EQA,Zs,Nat.reduceAdd,Nat.reduceLT,Nat.reduceEqDiff,reduceCtorEq,decide_false,↓reduceIte,Zd,ZdP,Zk8,oI,ZuN,h1]
  exact hO (j:=1) (by decide) rfl rfl
 | x::r,i,l,h,hl=>by
  have t1:=Zbc 1 (ZN x)
  have lim:=Zeu
  simp only [List.length_cons] at hl
  have ih:=Zrk fs hn r (i+1) (l++beB (ZN x) 1) (Z7 h).2.1 (by rw [List.length_append];omega)
  have h1:(i:Int) < fs.length:=by have:=(Z7 h).2.2;omega
  have e1:=iad (Z7 h).1 (AVal.int .i64) (k:=1) rfl
  have e3:=ZcT h1 (by omega)
  have f1:=fun {σ:Za} {site:Nat}=>ZfZ l x 1 (by omega) (by omega) (m:=1) rfl (by omega) (σ:=σ) 0 1 0 (site:=site) (by omega)
  have e:l++Zea (x::r)=l++beB (ZN x) 1++Zea r:=by simp [Zea]
  rw [e]
  generalize beB (ZN x) 1=D at *
  have hG:=fun {a b c d:Nat} {i n:Int} {σ:Za} h0 h1=>ZhI (a:=a) (b:=b) (c:=c) (d:=d) (x:=.int .i64 i) (y:=.int .i64 n) (z:=.lst false (fs.map (AVal.int .i64))) rfl rfl rfl 1 1 (by omega) (l++D) σ h0 h1
  unfold Zk3 at ih ⊢
  rw [Z5]
  simp -implicitDefEqProofs only [EQA,Z2,Nat.reduceAdd,Nat.reduceLT,Nat.reduceEqDiff,Nat.reduceBEq,reduceCtorEq,decide_true,↓reduceIte,Zk8,oI,ZuN,AVal.cells,h1,e1,e3,f1,hG]
  exact ih
theorem ZsH (fs:List Zbq) (hn:fs.length≤1048576) (hx:∀ f ∈ fs,f.filter.length≤9223372036854775807):∀ (r:List Zbq) (i:Nat) (l:Zb),fs.drop i=r→l.length+r.length*65538≤1000000000000 →
  Zlj 1 [(75,.int .i64 i),(74,.int .i64 fs.length),(73,.lst false (fs.map ZU)),(0,.ref 0 0)] [.var (wv 1 0 l.length),.row 0 1 (l.map Zc)]=some (.tup [],wH 0 (l++Zd4 r))
 | [],i,l,h,hl=>by
  have h1:=ZcO h
  have hO:=fun {j g:Nat} {l:Zb} {σ:Za}=>ZdZ (j:=j) (g:=g) (l:=l) (σ:=σ)
  have e:l++Zd4 []=l:=by simp [Zd4]
  rw [e]
  unfold Zlj
  rw [Z5]
  simp -implicitDefEqProofs only [EQA,Zs,Nat.reduceAdd,Nat.reduceLT,Nat.reduceEqDiff,reduceCtorEq,decide_false,↓reduceIte,Zd,ZdP,Zlw,oI,oN,ZqT,h1]
  exact hO (j:=1) (by decide) rfl rfl
 | x::r,i,l,h,hl=>by
  have hx0:x.filter.length≤9223372036854775807:=hx x (List.mem_of_getElem? (Z7 h).1)
  have t1:=ZcK x.filter
  have t2:=Zbc 1 (ZN (ZfY x))
  have lim:=Zeu
  simp only [List.length_cons] at hl
  have ih:=ZsH fs hn hx r (i+1) (l++(Zag x.filter).1++beB (ZN (ZfY x)) 1) (Z7 h).2.1 (by rw [List.length_append,List.length_append];omega)
  have h1:(i:Int) < fs.length:=by have:=(Z7 h).2.2;omega
  have e1:=iad (Z7 h).1 ZU (k:=6) rfl
  have e3:=ZcT h1 (by omega)
  have hm:=fun b n σ site own=>Zih b n σ site own
  have q1:=ZiF x.qos
  have q2:=ZiF x.handling
  have m1:=ZdV x.noLocal 4 (by omega)
  have m2:=ZdV x.asPublished 8 (by omega)
  have w1:=Zci (Zw x.qos 3+Z6 x.noLocal 4) (by omega) (by omega)
  have w2:=Zci (Zw x.qos 3+Z6 x.noLocal 4+Z6 x.asPublished 8) (by omega) (by omega)
  have w3:=Zci (Zw x.handling 3*16) (by omega) (by omega)
  have w4:=Zci (Zw x.qos 3+Z6 x.noLocal 4+Z6 x.asPublished 8+Zw x.handling 3*16) (by omega) (by omega)
  have f1:=fun {σ:Za} {site:Nat}=>Zil l x.filter hx0 (by omega) (σ:=σ) 0 1 0 (site:=site) (by omega)
  have f2:=fun {σ:Za} {site:Nat}=>ZfZ (l++(Zag x.filter).1) (ZfY x) 1 (by omega) (by omega) (m:=1) rfl (by rw [List.length_append];omega) (σ:=σ) 0 1 1 (site:=site) (by omega)
  have e:l++Zd4 (x::r)=l++(Zag x.filter).1++beB (ZN (ZfY x)) 1++Zd4 r:=by simp [Zd4,Zmq]
  rw [e]
  generalize (Zag x.filter).1=D at *
  generalize beB (ZN (ZfY x)) 1=D2 at *
  have hG:=fun {a b c d:Nat} {i n:Int} {σ:Za} h0 h1=>ZhI (a:=a) (b:=b) (c:=c) (d:=d) (x:=.int .i64 i) (y:=.int .i64 n) (z:=.lst false (fs.map ZU)) rfl rfl rfl 1 2 (by omega) (l++D++D2) σ h0 h1
  unfold ZfY at f2
  unfold Zlj at ih ⊢
  rw [Z5]
  simp only [ZU,AVal.cells] at e1
  unfold Zw at *
  simp -implicitDefEqProofs only [EQA,Z2,Nat.reduceAdd,Nat.reduceLT,Nat.reduceLeDiff,Nat.reduceEqDiff,Nat.reduceBEq,reduceCtorEq,decide_true,↓reduceIte,List.contains_cons,Zlw,oI,oN,ZqT,AVal.cells,h1,e1,e3,hm,w1,w2,w3,w4,f1,f2,hG,Zae,Zaf,Zam,Zao,Zar,Zah,List.lookup_nil]
  exact ih
section
variable (p:Zn) (h:OkW p)
include h
theorem ZlJ:(ZbM p).length≤300000000:=by
 have:=Zdh p.type p.props
 have:=Zbc 2 (ZN p.id)
 unfold ZbM
 rw [List.length_append];omega
theorem Zy0 (hk:p.type=8):E1 78 [.ref 0 0,ZZ p] [.var wn]=some (.tup [],wH 0 (ZbM p++Zd4 p.subs)):=by
 have hh:=ZlJ p h
 have f0:=fun {σ:Za} {t site:Nat}=>ZnE p h (σ:=σ) (t:=t) (site:=site)
 have hx:=h.subs
 have hL:=ZsH p.subs hx.1 hx.2 p.subs 0 (ZbM p) rfl (by omega)
 have z:((0:Nat):Int)=0:=rfl
 rw [z] at hL
 unfold Zlj at hL
 have hG:=fun {a b c d:Nat} {i n:Int} {r g:Nat} {σ:Za} hr h0 h1=>ZhI (a:=a) (b:=b) (c:=c) (d:=d) (x:=.int .i64 i) (y:=.int .i64 n) (z:=.lst false (p.subs.map ZU)) rfl rfl rfl r g hr (ZbM p) σ h0 h1
 have hG2:=fun {a b c d:Nat} {i n:Int} {g:Nat} {σ:Za} h0 h1=>hG (a:=a) (b:=b) (c:=c) (d:=d) (i:=i) (n:=n) (r:=2) (g:=g) (σ:=σ) (by omega) h0 h1
 clear hG
 have hn:(p.subs.map ZU).length=p.subs.length:=by simp
 rw [Zbo]
 generalize ZbM p=B at *
 have e0:=ZbP p
 have e1:=Zcj p
 have a0:(Zu p)[0]?=some (.int .i64 p.type):=rfl
 have a10:(Zu p)[10]?=some (.lst false (p.subs.map ZU)):=rfl
 rw [hk] at a0
 clear h hk hx
 generalize Zu p=P at *
 generalize p.subs=ss at *
 rw [Zbj (by rfl) ZeI]
 unfold wn at *
 simp -implicitDefEqProofs only [EQA,Z2,Nat.reduceAdd,Nat.reduceLT,Nat.reduceLeDiff,Nat.reduceEqDiff,Nat.reduceBEq,reduceCtorEq,↓reduceIte,Zd8,Zdl,oI,AVal.cells,a0,a10,e0,e1,hn,Int.reduceBEq,f0]
 exact hL
theorem ZMN (hk:p.type=10):E1 78 [.ref 0 0,ZZ p] [.var wn]=some (.tup [],wH 0 (ZbM p++Zd9 p.filters)):=by
 have hh:=ZlJ p h
 have f0:=fun {σ:Za} {t site:Nat}=>ZnE p h (σ:=σ) (t:=t) (site:=site)
 have hx:=h.filters
 have hL:=Zvf p.filters hx.1 hx.2 p.filters 0 (ZbM p) rfl (by omega)
 have z:((0:Nat):Int)=0:=rfl
 rw [z] at hL
 unfold Zkh at hL
 have hG2:=fun {a b c d:Nat} {i n:Int} {g:Nat} {σ:Za} h0 h1=>ZhI (a:=a) (b:=b) (c:=c) (d:=d) (x:=.int .i64 i) (y:=.int .i64 n) (z:=.lst false (p.filters.map AVal.str)) rfl rfl rfl 2 g (by omega) (ZbM p) σ h0 h1
 have hn:(p.filters.map AVal.str).length=p.filters.length:=by simp
 rw [Zbo]
 generalize ZbM p=B at *
 have e0:=ZbP p
 have e1:=Zcj p
 have a0:(Zu p)[0]?=some (.int .i64 p.type):=rfl
 have a11:(Zu p)[11]?=some (.lst false (p.filters.map AVal.str)):=rfl
 rw [hk] at a0
 clear h hk hx
 generalize Zu p=P at *
 generalize p.filters=ss at *
 rw [Zbj (by rfl) ZeI]
 unfold wn at *
 simp -implicitDefEqProofs only [EQA,Z2,Nat.reduceAdd,Nat.reduceLT,Nat.reduceLeDiff,Nat.reduceEqDiff,Nat.reduceBEq,reduceCtorEq,↓reduceIte,Zd8,Zdl,oI,AVal.cells,a0,a11,e0,e1,hn,Int.reduceBEq,f0]
 exact hL
theorem ZE1 (hk:p.type=9∨p.type=11):E1 78 [.ref 0 0,ZZ p] [.var wn]=some (.tup [],wH 0 (ZbM p++Zea p.codes)):=by
 have hh:=ZlJ p h
 have f0:=fun {σ:Za} {t site:Nat}=>ZnE p h (σ:=σ) (t:=t) (site:=site)
 have hx:=h.codes
 have hL:=Zrk p.codes hx p.codes 0 (ZbM p) rfl (by omega)
 have z:((0:Nat):Int)=0:=rfl
 rw [z] at hL
 unfold Zk3 at hL
 have hG2:=fun {a b c d:Nat} {i n:Int} {g:Nat} {σ:Za} h0 h1=>ZhI (a:=a) (b:=b) (c:=c) (d:=d) (x:=.int .i64 i) (y:=.int .i64 n) (z:=.lst false (p.codes.map (AVal.int .i64))) rfl rfl rfl 2 g (by omega) (ZbM p) σ h0 h1
 have hn:(p.codes.map (AVal.int .i64)).length=p.codes.length:=by simp
 rw [Zbo]
 generalize ZbM p=B at *
 have e0:=ZbP p
 have e1:=Zcj p
 have a0:(Zu p)[0]?=some (.int .i64 p.type):=rfl
 have a8:(Zu p)[8]?=some (.lst false (p.codes.map (AVal.int .i64))):=rfl
 clear h hx
 generalize Zu p=P at *
 generalize p.codes=ss at *
 generalize p.type=ty at *
 rw [Zbj (by rfl) ZeI]
 unfold wn at *
 rcases hk with rfl | rfl
 all_goals
  simp -implicitDefEqProofs only [EQA,Z2,Nat.reduceAdd,Nat.reduceLT,Nat.reduceLeDiff,Nat.reduceEqDiff,Nat.reduceBEq,reduceCtorEq,↓reduceIte,Zd8,Zdl,oI,AVal.cells,a0,a8,e0,e1,hn,Int.reduceBEq,f0]
  exact hL
end
end Go.Proofs.YtmlkhhidifjjfaaDoor
namespace Go.Proofs.YtmlkhhidifjjfaaDoor
set_option maxHeartbeats 8000000
set_option maxRecDepth 10000
theorem Zum (a b:List Int) (h:a.length=b.length) (hl:a.length≤9223372036854775807):∀ (r s:List Int) (i:Nat),a.drop i=r→b.drop i=s→ZlH 0 [(13,.int .i64 i),(12,.int .i64 a.length),(1,.lst false (b.map (AVal.int .i64))),(0,.lst false (a.map (AVal.int .i64)))] []=some (.bool (r == s),[])
 | [],s,i,ha,hb=>by
  have hs:s=[]:=by
   subst hb;rw [List.drop_eq_nil_iff] at ha ⊢;omega
  subst hs
  have h1:=ZcO ha
  unfold ZlH
  rw [Z5]
  simp -implicitDefEqProofs only [EQA,Nat.reduceLT,Nat.reduceEqDiff,reduceCtorEq,decide_false,↓reduceIte,Zp6,ZJC,Zpq,Zra,ZjI,oI,h1]
 | x::r,[],i,ha,hb=>by
  have:=(Z7 ha).2.2;rw [List.drop_eq_nil_iff] at hb;omega
 | x::r,y::s,i,ha,hb=>by
  have ih:=Zum a b h hl r s (i+1) (Z7 ha).2.1 (Z7 hb).2.1
  have h1:(i:Int) < a.length:=by have:=(Z7 ha).2.2;omega
  have e1:=iad (Z7 ha).1 (AVal.int .i64) (k:=1) rfl
  have e2:=iad (Z7 hb).1 (AVal.int .i64) (k:=1) rfl
  have e3:=ZcT h1 hl
  unfold ZlH at ih ⊢
  rw [Z5]
  simp -implicitDefEqProofs only [EQA,ZC,Z2,Nat.reduceLT,Nat.reduceEqDiff,Nat.reduceBEq,reduceCtorEq,decide_true,↓reduceIte,gcT,gcA,ZB,Zz,Zv,ZJ,Zp6,Zra,ZjI,oI,h1,e1,e2,e3]
  rw [ih]
  by_cases hx:x=y <;> simp [hx]
theorem ZNx (a b:List Int) (hl:a.length≤9223372036854775807):E 83 [.lst false (a.map (AVal.int .i64)),.lst false (b.map (AVal.int .i64))] []=some (.bool (a == b),[]):=by
 rw [Zh (by rfl) ZEE]
 by_cases h:a.length=b.length
 ·have:=Zum a b h hl a b 0 rfl rfl
  unfold ZlH at this
  have e:=ZiZ h
  simp -implicitDefEqProofs only [EQA,Z2,Nat.reduceLT,Nat.reduceEqDiff,reduceCtorEq,↓reduceIte,gcT,gcA,ZB,Zz,Zv,ZJ,Zrr,ZjP,oI,e]
  exact this
 ·have e:=Zi0 h
  simp -implicitDefEqProofs only [EQA,Nat.reduceLT,Nat.reduceEqDiff,reduceCtorEq,↓reduceIte,Zrr,ZjP,Zp6,oI,e,ZiS h]
theorem ZB9 (σ:Za) (site own:Nat) (view:Bool) (a b:List Int) (hl:a.length≤9223372036854775807):Zj E BY σ site 83 own view [.lst false (a.map (AVal.int .i64)),.lst false (b.map (AVal.int .i64))]=some (.bool (a == b),σ,{}) :=
 Zb6 (ZNx a b hl) (by kernel_rfl) (by simp -implicitDefEqProofs only [Zcw,Zbg,eq_self]) (by simp -implicitDefEqProofs only [ZC,Zbg,eq_self]) rfl (fun _=>rfl) _ _ _ _
theorem Zvt (a b:List Zb) (h:a.length=b.length) (hl:a.length≤9223372036854775807):∀ (r s:List Zb) (i:Nat),a.drop i=r→b.drop i=s→Zk2 0 [(13,.int .i64 i),(12,.int .i64 a.length),(1,.lst false (b.map AVal.str)),(0,.lst false (a.map AVal.str))] []=some (.bool (r == s),[])
 | [],s,i,ha,hb=>by
  have hs:s=[]:=by
   subst hb;rw [List.drop_eq_nil_iff] at ha ⊢;omega
  subst hs
  have h1:=ZcO ha
  unfold Zk2
  rw [Z5]
  simp -implicitDefEqProofs only [EQA,Nat.reduceLT,Nat.reduceEqDiff,reduceCtorEq,decide_false,↓reduceIte,ZnT,ZNP,Znh,Zvv,ZjW,oI,h1]
 | x::r,[],i,ha,hb=>by
  have:=(Z7 ha).2.2;rw [List.drop_eq_nil_iff] at hb;omega
 | x::r,y::s,i,ha,hb=>by
  have ih:=Zvt a b h hl r s (i+1) (Z7 ha).2.1 (Z7 hb).2.1
  have h1:(i:Int) < a.length:=by have:=(Z7 ha).2.2;omega
  have e1:=iad (Z7 ha).1 AVal.str (k:=1) rfl
  have e2:=iad (Z7 hb).1 AVal.str (k:=1) rfl
  have e3:=ZcT h1 hl
  unfold Zk2 at ih ⊢
  rw [Z5]
  simp -implicitDefEqProofs only [EQA,ZC,Z2,Nat.reduceLT,Nat.reduceEqDiff,Nat.reduceBEq,Zdw,reduceCtorEq,decide_true,↓reduceIte,gcT,gcA,ZB,Zz,Zv,ZJ,ZnT,Zvv,ZjW,oI,h1,e1,e2,e3]
  rw [ih]
  by_cases hx:x=y <;> simp [hx]
theorem ZNt (a b:List Zb) (hl:a.length≤9223372036854775807):E 85 [.lst false (a.map AVal.str),.lst false (b.map AVal.str)] []=some (.bool (a == b),[]):=by
 rw [Zh (by rfl) ZAN]
 by_cases h:a.length=b.length
 ·have:=Zvt a b h hl a b 0 rfl rfl
  unfold Zk2 at this
  have e:=ZiZ h
  simp -implicitDefEqProofs only [EQA,Z2,Nat.reduceLT,Nat.reduceEqDiff,reduceCtorEq,↓reduceIte,gcT,gcA,ZB,Zz,Zv,ZJ,ZtA,Zk1,oI,e]
  exact this
 ·have e:=Zi0 h
  simp -implicitDefEqProofs only [EQA,Nat.reduceLT,Nat.reduceEqDiff,reduceCtorEq,↓reduceIte,ZtA,Zk1,ZnT,oI,e,ZiS h]
theorem ZG5 (σ:Za) (site own:Nat) (view:Bool) (a b:List Zb) (hl:a.length≤9223372036854775807):Zj E BY σ site 85 own view [.lst false (a.map AVal.str),.lst false (b.map AVal.str)]=some (.bool (a == b),σ,{}) :=
 Zb6 (ZNt a b hl) (by kernel_rfl) (by simp -implicitDefEqProofs only [Zcw,Zbg,eq_self]) (by simp -implicitDefEqProofs only [ZC,Zbg,eq_self]) rfl (fun _=>rfl) _ _ _ _
theorem ZuG (a b:List Zbq) (h:a.length=b.length) (hl:a.length≤9223372036854775807):∀ (r s:List Zbq) (i:Nat),a.drop i=r→b.drop i=s→ZjM 0 [(13,.int .i64 i),(12,.int .i64 a.length),(1,.lst false (b.map ZU)),(0,.lst false (a.map ZU))] []=some (.bool (r == s),[])
 | [],s,i,ha,hb=>by
  have hs:s=[]:=by
   subst hb;rw [List.drop_eq_nil_iff] at ha ⊢;omega
  subst hs
  have h1:=ZcO ha
  unfold ZjM
  rw [Z5]
  simp -implicitDefEqProofs only [EQA,Nat.reduceLT,Nat.reduceEqDiff,reduceCtorEq,decide_false,↓reduceIte,ZpH,ZBu,Zpl,ZtN,Zju,oI,h1]
 | x::r,[],i,ha,hb=>by
  have:=(Z7 ha).2.2;rw [List.drop_eq_nil_iff] at hb;omega
 | x::r,y::s,i,ha,hb=>by
  have ih:=ZuG a b h hl r s (i+1) (Z7 ha).2.1 (Z7 hb).2.1
  have h1:(i:Int) < a.length:=by have:=(Z7 ha).2.2;omega
  have e1:=iad (Z7 ha).1 ZU (k:=6) rfl
  have e2:=iad (Z7 hb).1 ZU (k:=6) rfl
  have e3:=ZcT h1 hl
  unfold ZjM at ih ⊢
  rw [Z5]
  obtain ⟨f1,q1,n1,a1,d1,i1⟩:=x
  obtain ⟨f2,q2,n2,a2,d2,i2⟩:=y
  simp only [ZU,AVal.cells] at e1 e2
  have kd:ZfT [2,0,1,1,0,0] [AVal.str f1,.int .i64 q1,.bool n1,.bool a1,.int .i64 d1,.int .i64 i1]=true:=rfl
  have ke:Zfb [AVal.str f1,.int .i64 q1,.bool n1,.bool a1,.int .i64 d1,.int .i64 i1] [AVal.str f2,.int .i64 q2,.bool n2,.bool a2,.int .i64 d2,.int .i64 i2]=some (f1 == f2 && (q1 == q2 && (n1 == n2 && (a1 == a2 && (d1 == d2 && (i1 == i2 && true)))))):=rfl
  have kd2:ZfT [2,0,1,1,0,0] [AVal.str f2,.int .i64 q2,.bool n2,.bool a2,.int .i64 d2,.int .i64 i2]=true:=rfl
  simp -implicitDefEqProofs only [EQA,Z2,Nat.reduceAdd,Nat.reduceLT,Nat.reduceLeDiff,Nat.reduceEqDiff,Nat.reduceBEq,reduceCtorEq,decide_true,↓reduceIte,gcT,gcA,ZB,Zz,Zv,ZJ,ZpH,ZtN,Zju,oI,h1,e1,e2,e3,kd,ke]
  rw [ih]
  have hb:((⟨f1,q1,n1,a1,d1,i1⟩:Zbq) == ⟨f2,q2,n2,a2,d2,i2⟩)=(f1 == f2 && (q1 == q2 && (n1 == n2 && (a1 == a2 && (d1 == d2 && (i1 == i2)))))):=by
   rw [Bool.eq_iff_iff];simp
  rw [List.cons_beq_cons,hb]
  cases f1 == f2 <;> cases q1 == q2 <;> cases n1 == n2 <;> cases a1 == a2 <;> cases d1 == d2 <;> cases i1 == i2 <;> rfl
theorem ZJB (a b:List Zbq) (hl:a.length≤9223372036854775807):E 84 [.lst false (a.map ZU),.lst false (b.map ZU)] []=some (.bool (a == b),[]):=by
 rw [Zh (by rfl) ZNC]
 by_cases h:a.length=b.length
 ·have:=ZuG a b h hl a b 0 rfl rfl
  unfold ZjM at this
  have e:=ZiZ h
  simp -implicitDefEqProofs only [EQA,Z2,Nat.reduceLT,Nat.reduceEqDiff,reduceCtorEq,↓reduceIte,gcT,gcA,ZB,Zz,Zv,ZJ,ZrA,Zla,oI,e]
  exact this
 ·have e:=Zi0 h
  simp -implicitDefEqProofs only [EQA,Nat.reduceLT,Nat.reduceEqDiff,reduceCtorEq,↓reduceIte,ZrA,Zla,ZpH,oI,e,ZiS h]
theorem ZyW (σ:Za) (site own:Nat) (view:Bool) (a b:List Zbq) (hl:a.length≤9223372036854775807):Zj E BY σ site 84 own view [.lst false (a.map ZU),.lst false (b.map ZU)]=some (.bool (a == b),σ,{}) :=
 Zb6 (ZJB a b hl) (by kernel_rfl) (by simp -implicitDefEqProofs only [Zcw,Zbg,eq_self]) (by simp -implicitDefEqProofs only [ZC,Zbg,eq_self]) rfl (fun _=>rfl) _ _ _ _
def Zdz (a b:Zn):Bool :=
 ((((((((((((a.codes == b.codes && a.subs == b.subs && a.filters == b.filters && a.props == b.props && a.will.props == b.will.props)
  && (a.payload == b.payload && a.password == b.password && a.will.data == b.will.data))
  && (a.will.topic == b.will.topic && a.will.qos == b.will.qos && a.will.retain == b.will.retain))
  && (a.dup == b.dup && a.retain == b.retain && a.clean == b.clean && a.hasWill == b.hasWill && a.hasUser == b.hasUser && a.hasPassword == b.hasPassword && a.present == b.present))
  && a.type == b.type) && a.qos == b.qos) && a.id == b.id) && a.topic == b.topic) && a.code == b.code) && a.keep == b.keep) && a.client == b.client) && a.user == b.user)
theorem ZvI (a b:Zn):Zdz a b=true↔a=b:=by
 obtain ⟨a1,a2,a3,a4,a5,a6,a7,a8,a9,a10,a11,a12,a13,a14,a15,a16,⟨a17,a18,a19,a20,a21⟩,a22,a23,a24,a25,a26⟩:=a
 obtain ⟨b1,b2,b3,b4,b5,b6,b7,b8,b9,b10,b11,b12,b13,b14,b15,b16,⟨b17,b18,b19,b20,b21⟩,b22,b23,b24,b25,b26⟩:=b
 simp only [Zdz,Bool.and_eq_true,beq_iff_eq,Zn.mk.injEq,ZvN.mk.injEq]
 constructor
 ·rintro ⟨⟨⟨⟨⟨⟨⟨⟨⟨⟨⟨⟨⟨⟨⟨h1,h2⟩,h3⟩,h4⟩,h5⟩,⟨⟨h6,h7⟩,h8⟩⟩,⟨⟨h9,h10⟩,h11⟩⟩,⟨⟨⟨⟨⟨⟨h12,h13⟩,h14⟩,h15⟩,h16⟩,h17⟩,h18⟩⟩,h19⟩,h20⟩,h21⟩,h22⟩,h23⟩,h24⟩,h25⟩,h26⟩
  simp only [h1,h2,h3,h4,h5,h6,h7,h8,h9,h10,h11,h12,h13,h14,h15,h16,h17,h18,h19,h20,h21,h22,h23,h24,h25,h26,and_self]
 ·rintro ⟨h1,h2,h3,h4,h5,h6,h7,h8,h9,h10,h11,h12,h13,h14,h15,h16,⟨h17,h18,h19,h20,h21⟩,h22,h23,h24,h25,h26⟩
  simp only [h1,h2,h3,h4,h5,h6,h7,h8,h9,h10,h11,h12,h13,h14,h15,h16,h17,h18,h19,h20,h21,h22,h23,h24,h25,h26,and_self]
structure OkL (p:Zn):Prop where
 codes:p.codes.length≤9223372036854775807
 props:p.props.length≤9223372036854775807
 subs:p.subs.length≤9223372036854775807
 filters:p.filters.length≤9223372036854775807
 wprops:p.will.props.length≤9223372036854775807
theorem ZLO (a b:Zn) (h:OkL a):E 35 [ZZ a,ZZ b] []=some (.bool (Zdz a b),[]):=by
 have h1:=fun σ site own view=>ZB9 σ site own view a.codes b.codes h.codes
 have h2:=fun σ site own view=>ZyW σ site own view a.subs b.subs h.subs
 have h3:=fun σ site own view=>ZG5 σ site own view a.filters b.filters h.filters
 have h4:=fun σ site own view=>ZlS σ site own view a.props b.props h.props
 have h5:=fun σ site own view=>ZlS σ site own view a.will.props b.will.props h.wprops
 rw [Zh (by rfl) ZLE]
 unfold ZZ Zdz
 simp -implicitDefEqProofs only [EQA,Z2,Zc5,Zlx,Nat.reduceAdd,Nat.reduceLT,Nat.reduceEqDiff,Nat.reduceBEq,Zdw,ZE,Zaq,unG,ne_eq,Option.some.injEq,reduceCtorEq,decide_false,Z0,ite_self,↓reduceIte,ZB4,Zpg,ZBQ,oI,AVal.cells,h1,h2,h3,h4,h5]
theorem ZtO (σ:Za) (site own:Nat) (view:Bool) (a b:Zn) (h:OkL a):Zj E BY σ site 35 own view [ZZ a,ZZ b]=some (.bool (Zdz a b),σ,{}) :=
 Zb6 (ZLO a b h) (by kernel_rfl) rfl rfl rfl (fun _=>rfl) _ _ _ _
end Go.Proofs.YtmlkhhidifjjfaaDoor
namespace Go.Proofs.YtmlkhhidifjjfaaDoor
def ZjU:Ze:=(.seq (.region [oI 2 (.mov (.c (.lst true [])))] none [0]) (.seq (.region [oI 3 (.mov (.t 0)),oI 4 (.nilchk (.t 3)),oI 5 (.faddr 0 (.t 4)),oI 6 (.ld none (.t 5)),oI 7 (.mov (.t 0)),oI 8 (.nilchk (.t 7)),oI 9 (.faddr 1 (.t 8)),oI 10 (.ld none (.t 9)),oI 11 (.slice 1 (.t 6) (some (.t 10)) none none),oI 2 (.mov (.t 11))] (some [(3,7)]) [2]) .ret))
def Zpz:ZD:=⟨[(.tmp 2)],ZjU⟩
theorem ZqN:FC 80=some Zpz:=by kernel_rfl
theorem ZqL:Zpz.body=ZjU:=rfl
theorem ZqC:Zpz.res=[(.tmp 2)]:=rfl
end Go.Proofs.YtmlkhhidifjjfaaDoor
namespace Go.Proofs.YtmlkhhidifjjfaaDoor
set_option maxHeartbeats 16000000
set_option maxRecDepth 10000
theorem ZKS {σ:Za} {t g k n:Nat} {xs:List AVal} (hs:σ[t]?=some (.row g k xs)) (hn:n=xs.length):ZbO σ k (.sl t g 0 n) (some (.int .i64 0)) none none=some (.sl t g 0 n,σ,{ rd:=[t] }):=by
 subst hn
 have he:Z0 σ (.sl t g 0 xs.length)=some ((xs.drop 0).take xs.length,[t]):=by simp [Z0,hs]
 simp [ZbO,he,hs,Zbk,ZdR]
theorem ZFP (σ:Za) (k:Nat):ZbO σ k (.lst true []) (some (.int .i64 0)) none none=some (.lst true [],σ,{}):=by
 simp [ZbO,Zbk,ZdR]
theorem ZGK (l:Zb):E 80 [.ref 0 0] (wH 0 l)=some (.sl 1 0 0 l.length,wH 0 l):=by
 have h1:((l.map Zc).length)=l.length:=by simp
 rw [Zh (by rfl) ZqN]
 unfold wH wv
 have hS:=fun (σ:Za) (hs:σ[1]?=some (.row 0 1 (l.map Zc)))=>ZKS (n:=l.length) hs h1.symm
 simp -implicitDefEqProofs only [EQA,Nat.reduceAdd,Nat.reduceLT,Nat.reduceEqDiff,Nat.reduceBEq,reduceCtorEq,↓reduceIte,ZqL,ZjU,ZqC,oI,hS]
 simp [Zak,gcA,ZB,Zz,Zr,ZX,ZJ,Zm,ZY,Zo,ZQ,Zv,Zf,Zk,ZF,List.range,List.range.loop]
theorem Zxy:E 80 [.ref 0 0] [.var wn]=some (.lst true [],[.var wn]):=by
 rw [Zh (by rfl) ZqN]
 unfold wn
 simp -implicitDefEqProofs only [EQA,Zs,Z2,Nat.reduceLT,Nat.reduceEqDiff,Nat.reduceBEq,reduceCtorEq,↓reduceIte,Zd,ZqL,ZjU,ZqC,oI,ZFP]
theorem ZJj (l:Zb):Zad true 2 (some (.sl 1 0 0 l.length,wH 0 l))=some (.lst false (l.map Zc),[.var (wv 1 0 l.length),.frow 0 1 (l.map Zc)]):=by
 have e1:(0:Nat)+l.length≤(l.map Zc).length:=by simp
 have e2:((l.map Zc).drop 0).take l.length=l.map Zc:=by
  rw [List.drop_zero,←List.length_map (f:=Zc),List.take_length]
 simp only [Zad,if_true,ZbH,viewR,ZR,ZL,Z0,wH,List.getElem?_cons_succ,List.getElem?_cons_zero,e1,e2,and_self,Zq,List.set_cons_succ,List.set_cons_zero]
 simp [gcA,ZB,Zr,ZX,List.range,List.range.loop,ZJ,wv,Zz,Zm,ZY,Zv,ZQ,Zo,ZF,Zf,Zk]
theorem ZHJ (l:Zb) {σ:Za} (t r g:Nat) {site:Nat} (htr:t≠r) (hs:σ[t]?=some (.var (wv r g l.length))) (hr:σ[r]?=some (.row g 1 (l.map Zc))) :
  Zj E1 BY σ site 80 0 true [.ref t 0]=some (.lst false (l.map Zc),(σ.set t (.var (wv r g l.length))).set r (.frow g 1 (l.map Zc)),{ any:=true,upd:=[(t,wv r g l.length)] }):=by
 refine ZbD ?_
 have hrf:Zr (wv r g l.length)=[r]:=rfl
 have htl:t < σ.length:=(List.getElem?_eq_some_iff.1 hs).1
 have hrl:r < σ.length:=(List.getElem?_eq_some_iff.1 hr).1
 have h1:σ.getD t .free=.var (wv r g l.length):=by simp [List.getD_eq_getElem?_getD,hs]
 have h2:σ.getD r .free=.row g 1 (l.map Zc):=by simp [List.getD_eq_getElem?_getD,hr]
 have hf0:Zq σ []=σ:=rfl
 have hsh:showAs σ [.ref t 0]=some ([.ref t 0],[]):=rfl
 have href:Zr [AVal.ref t 0]=[t]:=rfl
 have hup:Za4 ((σ.set t (.var (wv r g l.length))).set r (.frow g 1 (l.map Zc))) [t,r]=[(t,wv r g l.length)]:=by
  have e1:((σ.set t (.var (wv r g l.length))).set r (.frow g 1 (l.map Zc)))[t]?=some (.var (wv r g l.length)):=by
   rw [List.getElem?_set_ne (fun e=>htr e.symm),List.getElem?_set_self htl]
  have e2:((σ.set t (.var (wv r g l.length))).set r (.frow g 1 (l.map Zc)))[r]?=some (.frow g 1 (l.map Zc)):=by
   rw [List.getElem?_set_self (by simpa using hrl)]
  simp only [Za4,e1,e2]
 unfold Zj ZbV
 rw [show BY 80=false by kernel_rfl]
 simp only [Bool.false_eq_true,if_false,hsh,hf0,href,Zo5 hs hr htr hrf]
 unfold ZbB
 have hall:([t,r].all fun t=>okB (σ.getD t .free))=true:=by simp only [List.all_cons,List.all_nil,h1,h2,okB,Bool.and_true]
 rw [if_pos hall]
 have hρt:Zm σ 0 [t,r] t 0=some (0,0):=by simp [Zm,ZY,hs,Zo,ZQ]
 have hρr:Zm σ 0 [t,r] r g=some (1,0):=by simp [Zm,ZY,hr,Zo,ZQ,htr]
 have hargs:Zf (Zm σ 0 [t,r]) [.ref t 0]=[.ref 0 0]:=by simp only [Zf,Zk,hρt]
 have hren:Zf (Zm σ 0 [t,r]) (wv r g l.length)=wv 1 0 l.length:=by simp only [wv,Zf,Zk,hρr]
 have hheap:Zv σ 0 [t,r] (Zm σ 0 [t,r]) [t,r] 0=wH 0 l:=by
  simp only [Zv,h1,h2,ZQ,Zo,ZF,hren,wH]
  simp
 rw [hargs,hheap,ZGK l,show [t,r].length=2 from rfl,ZJj l]
 have hk:ZaZ σ [t,r] [.var (wv 1 0 l.length),.frow 0 1 (l.map Zc)] 0=true:=by simp [ZaZ,okB,Zcb,Zo,hs,hr]
 have hff:ZaY σ site 0=true:=by simp [ZaY]
 have hb3:Zf (ZaA σ [t,r] site) (wv 1 0 l.length)=wv r g l.length:=by
  have : ZaA σ [t,r] site 1 0=some (r,g):=by simp only [ZaA,List.getElem?_cons_succ,List.getElem?_cons_zero,h2,Zo];rfl
  simp only [wv,Zf,Zk,this]
 simp only [ZaC,List.isEmpty_cons,Bool.false_eq_true,if_false,List.length_cons,List.length_nil,Nat.zero_add,Nat.reduceAdd,Nat.add_zero,Nat.le_refl,decide_true,hk,hff,Bool.and_self,if_true,Za2,ZaH,List.getD_cons_zero,List.getD_cons_succ,Zce,List.getElem?_cons_zero,List.getElem?_cons_succ,h2,Zo,ZF,Zk,hb3,hup]
theorem ZDg {σ:Za} {t site:Nat} (hs:σ[t]?=some (.var wn)):Zj E1 BY σ site 80 0 true [.ref t 0]=some (.lst false [],σ,{ any:=true,upd:=[(t,wn)] }):=by
 refine ZbD ?_
 have htl:t < σ.length:=(List.getElem?_eq_some_iff.1 hs).1
 have h1:σ.getD t .free=.var wn:=by simp [List.getD_eq_getElem?_getD,hs]
 have hf0:Zq σ []=σ:=rfl
 have hsh:showAs σ [.ref t 0]=some ([.ref t 0],[]):=rfl
 have href:Zr [AVal.ref t 0]=[t]:=rfl
 have hre:Zz σ 1000 [t] []=[t]:=by
  have e1:([]:List Nat).contains t=false:=rfl
  rw [show (1000:Nat)=998+1+1 from rfl,Zz,e1]
  simp only [Bool.false_eq_true,if_false,h1,ZJ]
  rfl
 unfold Zj ZbV
 rw [show BY 80=false by kernel_rfl]
 simp only [Bool.false_eq_true,if_false,hsh,hf0,href,hre]
 unfold ZbB
 have hall:([t].all fun t=>okB (σ.getD t .free))=true:=by simp only [List.all_cons,List.all_nil,h1,okB,Bool.and_true]
 rw [if_pos hall]
 have hρt:Zm σ 0 [t] t 0=some (0,0):=by simp [Zm,ZY,hs,Zo,ZQ]
 have hargs:Zf (Zm σ 0 [t]) [.ref t 0]=[.ref 0 0]:=by simp only [Zf,Zk,hρt]
 have hheap:Zv σ 0 [t] (Zm σ 0 [t]) [t] 0=[.var wn]:=by
  simp only [Zv,h1,ZF]
  rfl
 rw [hargs,hheap,Zxy]
 have hv:Zad true 1 (some (.lst true [],[.var wn]))=some (.lst false [],[.var wn]):=rfl
 rw [show [t].length=1 from rfl,hv]
 have hk:ZaZ σ [t] [.var wn] 0=true:=by simp [ZaZ,okB,Zcb,Zo,hs]
 have hset:σ.set t (.var wn)=σ:=by
  apply List.ext_getElem?
  intro i
  rw [List.getElem?_set]
  by_cases e:t=i
  ·subst e;rw [if_pos rfl,if_pos htl,hs]
  ·simp [e]
 have hup:Za4 σ [t]=[(t,wn)]:=by simp only [Za4,hs]
 have hff:ZaY σ site 0=true:=by simp [ZaY]
 have hlay:Za2 σ [t] site [.var wn] 0 σ=σ:=by
  simp only [Za2,ZaH,ZF,List.getD_cons_zero]
  exact hset
 simp only [ZaC,List.isEmpty_cons,Bool.false_eq_true,if_false,hk,hff,hlay,hup,Zk,List.length_cons,List.length_nil,Nat.zero_add,Nat.add_zero,Nat.le_refl,decide_true,Bool.and_self,if_true]
theorem Zvk (σ:Za) (site own:Nat) (f:Bool) (a:Zb) (h:a.length≤140737488355328):Zj E BY σ site 56 own true [.lst f [.lst false (a.map Zc)]]=some (.lst false (a.map Zc),σ,{}):=by
 have:=ZgX σ site own f a [] (by simp) (by simpa using h)
 simpa [ZH] using this
theorem ZOA {p:Zn} {l:Zb} (h:E1 78 [.ref 0 0,ZZ p] [.var wn]=some (.tup [],wH 0 l)) {σ:Za} {t site:Nat} (hf:σ[site]?=some .free) (hs0:σ[t]?=some (.var wn)) :
  Zj E1 BY σ site 78 1 true [.ref t 0,.agg (Zu p)]=some (.tup [],(σ.set t (.var (wv site 0 l.length))).set site (.row 0 1 (l.map Zc)),{ any:=true,upd:=[(t,wv site 0 l.length)] }) :=
 Zgy (args:=[.agg (Zu p)]) rfl rfl h (by kernel_rfl) (by rw [List.all_cons,ZdG];rfl) (by rw [List.map_cons,Zdv];rfl) hf hs0
theorem ZOh {p:Zn} (h:E1 78 [.ref 0 0,ZZ p] [.var wn]=some (.tup [],[.var wn])) {σ:Za} {t site:Nat} (hf:σ[site]?=some .free) (hs0:σ[t]?=some (.var wn)) :
  Zj E1 BY σ site 78 1 true [.ref t 0,.agg (Zu p)]=some (.tup [],σ,{ any:=true,upd:=[(t,wn)] }) :=
 ZtQ (args:=[.agg (Zu p)]) h (by kernel_rfl) (by rw [List.all_cons,ZdG];rfl) (by rw [List.map_cons,Zdv];rfl) (ff1 hf) hs0
def orU (a b:Int):Int:=IntKind.u8.wrap (BitVec.ofInt IntKind.u8.bits a ||| BitVec.ofInt IntKind.u8.bits b).toNat
def Zg2 (t:Int):Int:=orU (IntKind.u8.wrap (IntKind.i64.wrap (t*2 ^ min (Int.toNat 4) IntKind.i64.bits))) (Zdq t)
def ZpQ (p:Zn):Int:=IntKind.u8.wrap (Z6 p.dup 8+Zw p.qos 3*2+Z6 p.retain 1)
def Za0 (p:Zn):Int:=if p.type=3 then orU (Zg2 3) (ZpQ p) else Zg2 p.type
theorem ZCt (m:Nat) (h:m < 256):IntKind.u8.wrap (m:Int)=m:=by
 unfold IntKind.wrap IntKind.signed IntKind.bits
 simp
 omega
theorem Zsr (a b:Int):0≤orU a b∧orU a b < 256:=by
 have h:∀ x y:BitVec 8,(x ||| y).toNat < 256:=fun x y=>(x ||| y).isLt
 have h2:=h (BitVec.ofInt 8 a) (BitVec.ofInt 8 b)
 unfold orU
 rw [show IntKind.u8.bits=8 from rfl,ZCt _ h2]
 omega
theorem ZjH (p:Zn):0≤Za0 p∧Za0 p < 256:=by
 unfold Za0
 split
 ·exact Zsr _ _
 ·exact Zsr _ _
theorem Zul (B:Zb):(ZaG (B.length:Nat)).2=0↔B.length≤268435455:=by
 unfold ZaG
 split
 ·simp only []
  constructor
  ·intro h;simp at h
  ·intro h;omega
 ·simp only [true_iff]
  omega
def Zen (first:Int) (B:Zb) (c:Int) (s:Bool):AVal :=
 if B.length≤268435455∧c=0∧s=true then .tup [.agg [.int .u8 first,.lst false (B.map Zc)],.int .i64 0] else .tup [.agg [.int .u8 0,.lst true []],.int .i64 129]
section
variable (p q:Zn) (c:Int)
theorem ZsG (B:Zb) (hb:E1 78 [.ref 0 0,ZZ p] [.var wn]=some (.tup [],wH 0 B)) (hB:B.length≤140737488355328)
  (hr:∀ σ site own,Zj E1 BY σ site 32 own true [.agg [.int .u8 (Za0 p),.lst false (B.map Zc)]]=some (.tup [ZZ q,.int .i64 c],σ,{})) (hq:OkL q) :
  E1 34 [ZZ p] []=some (Zen (Za0 p) B c (Zdz q p),[]):=by
 have fb:=fun {σ:Za} {t site:Nat}=>ZOA hb (σ:=σ) (t:=t) (site:=site)
 have fB:=fun {σ:Za} {site:Nat}=>ZHJ B 2 3 0 (by omega) (σ:=σ) (site:=site)
 have fj:=fun σ site own f=>ZbD (Zvk σ site own f B hB)
 have ff:=fun σ site own=>ZbD (Zjo p.type σ site own)
 have fm:=fun b n σ site own=>Zih b n σ site own
 have fv:=fun σ site own=>ZbD (Zfh σ site own (B.length:Nat))
 have fs:=fun σ site own=>ZbD (ZtO σ site own true q p hq)
 have hn:(B.map Zc).length=B.length:=by simp
 unfold Zen
 generalize Zdz q p=s at *
 rw [Zbo] at *
 rw [Zbo] at *
 have e0:=ZbP p
 have e1:=Zcj p
 have a0:(Zu p)[0]?=some (.int .i64 p.type):=rfl
 have a1:(Zu p)[1]?=some (.bool p.dup):=rfl
 have a2:(Zu p)[2]?=some (.int .i64 p.qos):=rfl
 have a3:(Zu p)[3]?=some (.bool p.retain):=rfl
 have d0:=ZbP q
 have d1:=Zcj q
 have oq:(Zu q).all ZT=true:=rfl
 have m1:=ZdV p.dup 8 (by omega)
 have m2:=ZdV p.retain 1 (by omega)
 have m3:=ZiF p.qos
 have w2:=Zci (Zw p.qos 3*2) (by omega) (by omega)
 have w3:=Zci (Z6 p.dup 8+Zw p.qos 3*2) (by omega) (by omega)
 have w4:=Zci (Z6 p.dup 8+Zw p.qos 3*2+Z6 p.retain 1) (by omega) (by omega)
 clear m1 m2 m3
 unfold Za0 at hr ⊢
 have hv:=Zul B
 unfold Zez at fv
 generalize (ZaG (B.length:Nat)).1=V at *
 generalize (ZaG (B.length:Nat)).2=v at *
 by_cases h3:p.type=3
 ·rw [if_pos h3] at hr ⊢
  rw [h3] at ff a0
  unfold Zg2 ZpQ orU Zw at *
  clear h3
  generalize Zu p=P at *
  generalize Zu q=Q at *
  generalize p.dup=pd at *
  generalize p.qos=pq at *
  generalize p.retain=pr at *
  unfold wn at *
  rw [Zbj (by rfl) Zlc]
  by_cases v0:v=0
  ·have hL:=hv.1 v0
   subst v0
   by_cases c0:c=0
   ·subst c0
    cases s
    ·rw [if_neg (by simp)]
     simp -implicitDefEqProofs only [EQA,Za6,Zs,Nat.reduceAdd,Nat.reduceLT,Nat.reduceLeDiff,Nat.reduceEqDiff,Nat.reduceBEq,ZaB,unA,ZE,unG,ne_eq,Option.some.injEq,decide_true,decide_false,↓reduceIte,Zd,List.contains_cons,Zco,Zcd,Zcx,oI,oN,AVal.cells,a0,a1,a2,a3,e0,e1,d0,d1,oq,Zal,fb,fB,fj,ff,fm,fv,fs,hr,hn,w2,w3,w4,Int.reduceLT,viewAs,ZR,ZL,Zq,List.foldl_cons,List.foldl_nil,Zae,Zaf,Zam,Zao,Zar,Zah,List.lookup_cons,List.lookup_nil,bne_self_eq_false]
    ·rw [if_pos ⟨hL,rfl,rfl⟩]
     simp -implicitDefEqProofs only [EQA,Za6,Zs,Nat.reduceAdd,Nat.reduceLT,Nat.reduceLeDiff,Nat.reduceEqDiff,Nat.reduceBEq,ZaB,unA,ZE,unG,ne_eq,Option.some.injEq,decide_true,decide_false,↓reduceIte,Zd,List.contains_cons,Zco,Zcd,Zcx,oI,oN,AVal.cells,a0,a1,a2,a3,e0,e1,d0,d1,oq,Zal,fb,fB,fj,ff,fm,fv,fs,hr,hn,w2,w3,w4,Int.reduceLT,viewAs,ZR,ZL,Zq,List.foldl_cons,List.foldl_nil,Zae,Zaf,Zam,Zao,Zar,Zah,List.lookup_cons,List.lookup_nil,bne_self_eq_false]
   ·have c1:(c != 0)=true:=by simpa using c0
    rw [if_neg (fun h=>c0 h.2.1)]
    simp -implicitDefEqProofs only [EQA,Za6,Zs,Nat.reduceAdd,Nat.reduceLT,Nat.reduceLeDiff,Nat.reduceEqDiff,Nat.reduceBEq,ZaB,ZE,Zaq,unG,ne_eq,Option.some.injEq,reduceCtorEq,decide_true,decide_false,↓reduceIte,Zd,List.contains_cons,Zco,Zcd,Zcx,oI,oN,AVal.cells,a0,a1,a2,a3,e0,e1,d0,oq,Zal,fb,fB,fj,ff,fm,fv,hr,hn,w2,w3,w4,c1,Int.reduceLT,viewAs,ZR,ZL,Zq,List.foldl_cons,List.foldl_nil,Zae,Zaf,Zam,Zao,Zar,Zah,List.lookup_cons,List.lookup_nil,bne_self_eq_false]
  ·have v1:(v != 0)=true:=by simpa using v0
   rw [if_neg (fun h=>v0 (hv.2 h.1))]
   simp -implicitDefEqProofs only [EQA,Za6,Zs,Nat.reduceAdd,Nat.reduceLT,Nat.reduceLeDiff,Nat.reduceEqDiff,Nat.reduceBEq,ZaB,ZE,Zaq,ne_eq,Option.some.injEq,reduceCtorEq,decide_true,decide_false,↓reduceIte,Zd,List.contains_cons,Zco,Zcd,Zcx,oI,oN,AVal.cells,a0,a1,a2,a3,e0,e1,d0,oq,Zal,fb,fB,fj,ff,fm,fv,hr,hn,w2,w3,w4,v1,Int.reduceLT,viewAs,ZR,ZL,Zq,List.foldl_cons,List.foldl_nil,Zae,Zaf,Zam,Zao,Zar,Zah,List.lookup_cons,List.lookup_nil]
 ·rw [if_neg h3] at hr ⊢
  have h3b:(p.type == 3)=false:=by simpa using h3
  unfold Zg2 orU at *
  clear h3
  generalize Zu p=P at *
  generalize Zu q=Q at *
  generalize p.dup=pd at *
  generalize p.qos=pq at *
  generalize p.retain=pr at *
  generalize p.type=ty at *
  unfold wn at *
  rw [Zbj (by rfl) Zlc]
  by_cases v0:v=0
  ·have hL:=hv.1 v0
   subst v0
   by_cases c0:c=0
   ·subst c0
    cases s
    ·rw [if_neg (by simp)]
     simp -implicitDefEqProofs only [EQA,Za6,Zs,Nat.reduceAdd,Nat.reduceLT,Nat.reduceLeDiff,Nat.reduceEqDiff,Nat.reduceBEq,ZaB,unA,ZE,unG,ne_eq,Option.some.injEq,decide_true,decide_false,↓reduceIte,Zd,List.contains_cons,Zco,Zcd,Zcx,oI,oN,AVal.cells,a0,e0,e1,d0,d1,oq,Zal,fb,fB,fj,ff,fv,fs,hr,hn,h3b,Int.reduceLT,viewAs,ZR,ZL,Zq,List.foldl_cons,List.foldl_nil,Zae,Zaf,Zam,Zao,Zar,Zah,List.lookup_cons,List.lookup_nil,bne_self_eq_false]
    ·rw [if_pos ⟨hL,rfl,rfl⟩]
     simp -implicitDefEqProofs only [EQA,Za6,Zs,Nat.reduceAdd,Nat.reduceLT,Nat.reduceLeDiff,Nat.reduceEqDiff,Nat.reduceBEq,ZaB,unA,ZE,unG,ne_eq,Option.some.injEq,decide_true,decide_false,↓reduceIte,Zd,List.contains_cons,Zco,Zcd,Zcx,oI,oN,AVal.cells,a0,e0,e1,d0,d1,oq,Zal,fb,fB,fj,ff,fv,fs,hr,hn,h3b,Int.reduceLT,viewAs,ZR,ZL,Zq,List.foldl_cons,List.foldl_nil,Zae,Zaf,Zam,Zao,Zar,Zah,List.lookup_cons,List.lookup_nil,bne_self_eq_false]
   ·have c1:(c != 0)=true:=by simpa using c0
    rw [if_neg (fun h=>c0 h.2.1)]
    simp -implicitDefEqProofs only [EQA,Za6,Zs,Nat.reduceAdd,Nat.reduceLT,Nat.reduceLeDiff,Nat.reduceEqDiff,Nat.reduceBEq,ZaB,ZE,Zaq,unG,ne_eq,Option.some.injEq,reduceCtorEq,decide_true,decide_false,↓reduceIte,Zd,List.contains_cons,Zco,Zcd,Zcx,oI,oN,AVal.cells,a0,e0,e1,d0,oq,Zal,fb,fB,fj,ff,fv,hr,hn,h3b,c1,Int.reduceLT,viewAs,ZR,ZL,Zq,List.foldl_cons,List.foldl_nil,Zae,Zaf,Zam,Zao,Zar,Zah,List.lookup_cons,List.lookup_nil,bne_self_eq_false]
  ·have v1:(v != 0)=true:=by simpa using v0
   rw [if_neg (fun h=>v0 (hv.2 h.1))]
   simp -implicitDefEqProofs only [EQA,Za6,Zs,Nat.reduceAdd,Nat.reduceLT,Nat.reduceLeDiff,Nat.reduceEqDiff,Nat.reduceBEq,ZaB,ZE,Zaq,ne_eq,Option.some.injEq,reduceCtorEq,decide_true,decide_false,↓reduceIte,Zd,List.contains_cons,Zco,Zcd,Zcx,oI,oN,AVal.cells,a0,e0,e1,d0,oq,Zal,fb,fB,fj,ff,fv,hr,hn,h3b,v1,Int.reduceLT,viewAs,ZR,ZL,Zq,List.foldl_cons,List.foldl_nil,Zae,Zaf,Zam,Zao,Zar,Zah,List.lookup_cons,List.lookup_nil]
theorem ZDN (hb:E1 78 [.ref 0 0,ZZ p] [.var wn]=some (.tup [],[.var wn]))
  (hr:∀ σ site own,Zj E1 BY σ site 32 own true [.agg [.int .u8 (Za0 p),.lst false (([]:Zb).map Zc)]]=some (.tup [ZZ q,.int .i64 c],σ,{})) (hq:OkL q) :
  E1 34 [ZZ p] []=some (Zen (Za0 p) [] c (Zdz q p),[]):=by
 have fb:=fun {σ:Za} {t site:Nat}=>ZOh hb (σ:=σ) (t:=t) (site:=site)
 have fB:=fun {σ:Za} {site:Nat}=>ZDg (σ:=σ) (t:=2) (site:=site)
 have fj:=fun σ site own f=>ZbD (Zvk σ site own f [] (by decide))
 have ff:=fun σ site own=>ZbD (Zjo p.type σ site own)
 have fm:=fun b n σ site own=>Zih b n σ site own
 have fv:=fun σ site own=>ZbD (Zfh σ site own (([]:Zb).length:Nat))
 have fs:=fun σ site own=>ZbD (ZtO σ site own true q p hq)
 have hn:(([]:Zb).map Zc).length=([]:Zb).length:=by simp
 unfold Zen
 generalize Zdz q p=s at *
 rw [Zbo] at *
 rw [Zbo] at *
 have e0:=ZbP p
 have e1:=Zcj p
 have a0:(Zu p)[0]?=some (.int .i64 p.type):=rfl
 have a1:(Zu p)[1]?=some (.bool p.dup):=rfl
 have a2:(Zu p)[2]?=some (.int .i64 p.qos):=rfl
 have a3:(Zu p)[3]?=some (.bool p.retain):=rfl
 have d0:=ZbP q
 have d1:=Zcj q
 have oq:(Zu q).all ZT=true:=rfl
 have m1:=ZdV p.dup 8 (by omega)
 have m2:=ZdV p.retain 1 (by omega)
 have m3:=ZiF p.qos
 have w2:=Zci (Zw p.qos 3*2) (by omega) (by omega)
 have w3:=Zci (Z6 p.dup 8+Zw p.qos 3*2) (by omega) (by omega)
 have w4:=Zci (Z6 p.dup 8+Zw p.qos 3*2+Z6 p.retain 1) (by omega) (by omega)
 clear m1 m2 m3
 unfold Za0 at hr ⊢
 have hv:=Zul []
 unfold Zez at fv
 generalize (ZaG (([]:Zb).length:Nat)).1=V at *
 generalize (ZaG (([]:Zb).length:Nat)).2=v at *
 simp only [List.map_nil,List.length_nil] at fj hr fv hn hv
 by_cases h3:p.type=3
 ·rw [if_pos h3] at hr ⊢
  rw [h3] at ff a0
  unfold Zg2 ZpQ orU Zw at *
  clear h3
  generalize Zu p=P at *
  generalize Zu q=Q at *
  generalize p.dup=pd at *
  generalize p.qos=pq at *
  generalize p.retain=pr at *
  unfold wn at *
  rw [Zbj (by rfl) Zlc]
  by_cases v0:v=0
  ·have hL:=hv.1 v0
   subst v0
   by_cases c0:c=0
   ·subst c0
    cases s
    ·rw [if_neg (by simp)]
     simp -implicitDefEqProofs only [EQA,Za6,Zs,Nat.reduceAdd,Nat.reduceLT,Nat.reduceLeDiff,Nat.reduceEqDiff,Nat.reduceBEq,ZaB,unA,ZE,unG,ne_eq,Option.some.injEq,decide_true,decide_false,↓reduceIte,Zd,List.contains_cons,Zco,Zcd,Zcx,oI,oN,AVal.cells,a0,a1,a2,a3,e0,e1,d0,d1,oq,Zal,fb,fB,fj,ff,fm,fv,fs,hr,w2,w3,w4,Int.reduceLT,viewAs,ZR,ZL,Zq,List.foldl_cons,List.foldl_nil,Zae,Zaf,Zam,Zao,Zar,Zah,List.lookup_cons,List.lookup_nil,bne_self_eq_false]
    ·rw [if_pos ⟨by decide,rfl,rfl⟩]
     simp -implicitDefEqProofs only [EQA,Za6,Zs,Nat.reduceAdd,Nat.reduceLT,Nat.reduceLeDiff,Nat.reduceEqDiff,Nat.reduceBEq,ZaB,unA,ZE,unG,ne_eq,Option.some.injEq,decide_true,decide_false,↓reduceIte,Zd,List.contains_cons,Zco,Zcd,Zcx,oI,oN,AVal.cells,a0,a1,a2,a3,e0,e1,d0,d1,oq,Zal,fb,fB,fj,ff,fm,fv,fs,hr,w2,w3,w4,Int.reduceLT,viewAs,ZR,ZL,Zq,List.foldl_cons,List.foldl_nil,Zae,Zaf,Zam,Zao,Zar,Zah,List.lookup_cons,List.lookup_nil,bne_self_eq_false]
   ·have c1:(c != 0)=true:=by simpa using c0
    rw [if_neg (fun h=>c0 h.2.1)]
    simp -implicitDefEqProofs only [EQA,Za6,Zs,Nat.reduceAdd,Nat.reduceLT,Nat.reduceLeDiff,Nat.reduceEqDiff,Nat.reduceBEq,ZaB,ZE,Zaq,unG,ne_eq,Option.some.injEq,reduceCtorEq,decide_true,decide_false,↓reduceIte,Zd,List.contains_cons,Zco,Zcd,Zcx,oI,oN,AVal.cells,a0,a1,a2,a3,e0,e1,d0,oq,Zal,fb,fB,fj,ff,fm,fv,hr,w2,w3,w4,c1,Int.reduceLT,viewAs,ZR,ZL,Zq,List.foldl_cons,List.foldl_nil,Zae,Zaf,Zam,Zao,Zar,Zah,List.lookup_cons,List.lookup_nil,bne_self_eq_false]
  ·have v1:(v != 0)=true:=by simpa using v0
   rw [if_neg (fun h=>v0 (hv.2 (by decide)))]
   simp -implicitDefEqProofs only [EQA,Za6,Zs,Nat.reduceAdd,Nat.reduceLT,Nat.reduceLeDiff,Nat.reduceEqDiff,Nat.reduceBEq,ZaB,ZE,Zaq,ne_eq,Option.some.injEq,reduceCtorEq,decide_true,decide_false,↓reduceIte,Zd,List.contains_cons,Zco,Zcd,Zcx,oI,oN,AVal.cells,a0,a1,a2,a3,e0,e1,d0,oq,Zal,fb,fB,fj,ff,fm,fv,hr,w2,w3,w4,v1,Int.reduceLT,viewAs,ZR,ZL,Zq,List.foldl_cons,List.foldl_nil,Zae,Zaf,Zam,Zao,Zar,Zah,List.lookup_cons,List.lookup_nil]
 ·rw [if_neg h3] at hr ⊢
  have h3b:(p.type == 3)=false:=by simpa using h3
  unfold Zg2 orU at *
  clear h3
  generalize Zu p=P at *
  generalize Zu q=Q at *
  generalize p.dup=pd at *
  generalize p.qos=pq at *
  generalize p.retain=pr at *
  generalize p.type=ty at *
  unfold wn at *
  rw [Zbj (by rfl) Zlc]
  by_cases v0:v=0
  ·have hL:=hv.1 v0
   subst v0
   by_cases c0:c=0
   ·subst c0
    cases s
    ·rw [if_neg (by simp)]
     simp -implicitDefEqProofs only [EQA,Za6,Zs,Nat.reduceAdd,Nat.reduceLT,Nat.reduceLeDiff,Nat.reduceEqDiff,Nat.reduceBEq,ZaB,unA,ZE,unG,ne_eq,Option.some.injEq,decide_true,decide_false,↓reduceIte,Zd,List.contains_cons,Zco,Zcd,Zcx,oI,oN,AVal.cells,a0,e0,e1,d0,d1,oq,Zal,fb,fB,fj,ff,fv,fs,hr,h3b,Int.reduceLT,viewAs,ZR,ZL,Zq,List.foldl_cons,List.foldl_nil,Zae,Zaf,Zam,Zao,Zar,Zah,List.lookup_cons,List.lookup_nil,bne_self_eq_false]
    ·rw [if_pos ⟨by decide,rfl,rfl⟩]
     simp -implicitDefEqProofs only [EQA,Za6,Zs,Nat.reduceAdd,Nat.reduceLT,Nat.reduceLeDiff,Nat.reduceEqDiff,Nat.reduceBEq,ZaB,unA,ZE,unG,ne_eq,Option.some.injEq,decide_true,decide_false,↓reduceIte,Zd,List.contains_cons,Zco,Zcd,Zcx,oI,oN,AVal.cells,a0,e0,e1,d0,d1,oq,Zal,fb,fB,fj,ff,fv,fs,hr,h3b,Int.reduceLT,viewAs,ZR,ZL,Zq,List.foldl_cons,List.foldl_nil,Zae,Zaf,Zam,Zao,Zar,Zah,List.lookup_cons,List.lookup_nil,bne_self_eq_false]
   ·have c1:(c != 0)=true:=by simpa using c0
    rw [if_neg (fun h=>c0 h.2.1)]
    simp -implicitDefEqProofs only [EQA,Za6,Zs,Nat.reduceAdd,Nat.reduceLT,Nat.reduceLeDiff,Nat.reduceEqDiff,Nat.reduceBEq,ZaB,ZE,Zaq,unG,ne_eq,Option.some.injEq,reduceCtorEq,decide_true,decide_false,↓reduceIte,Zd,List.contains_cons,Zco,Zcd,Zcx,oI,oN,AVal.cells,a0,e0,e1,d0,oq,Zal,fb,fB,fj,ff,fv,hr,h3b,c1,Int.reduceLT,viewAs,ZR,ZL,Zq,List.foldl_cons,List.foldl_nil,Zae,Zaf,Zam,Zao,Zar,Zah,List.lookup_cons,List.lookup_nil,bne_self_eq_false]
  ·have v1:(v != 0)=true:=by simpa using v0
   rw [if_neg (fun h=>v0 (hv.2 (by decide)))]
   simp -implicitDefEqProofs only [EQA,Za6,Zs,Nat.reduceAdd,Nat.reduceLT,Nat.reduceLeDiff,Nat.reduceEqDiff,Nat.reduceBEq,ZaB,ZE,Zaq,ne_eq,Option.some.injEq,reduceCtorEq,decide_true,decide_false,↓reduceIte,Zd,List.contains_cons,Zco,Zcd,Zcx,oI,oN,AVal.cells,a0,e0,e1,d0,oq,Zal,fb,fB,fj,ff,fv,hr,h3b,v1,Int.reduceLT,viewAs,ZR,ZL,Zq,List.foldl_cons,List.foldl_nil,Zae,Zaf,Zam,Zao,Zar,Zah,List.lookup_cons,List.lookup_nil]
end
end Go.Proofs.YtmlkhhidifjjfaaDoor
namespace Go.Proofs.YtmlkhhidifjjfaaDoor
set_option maxHeartbeats 16000000
set_option maxRecDepth 10000
def ZiW (x:UInt8) (B:Zb):AVal:=.tup [.agg [Zc x,.lst false (B.map Zc)],.int .i64 0]
def Zqj:AVal:=.tup [.agg [.int .u8 0,.lst false []],.int .i64 129]
theorem Zsh {args:List AVal} {p:Zn} {x:UInt8} {B:Zb} (h:E1 34 [ZZ p] []=some (Zen x.toNat B 0 true,[])) (hB:B.length≤268435455) (hp:args.all Zab=true) (hn:args.map ZG=[ZZ p]) (σ:Za) (site own:Nat) :
  Zj E1 BY σ site 34 own true args=some (ZiW x B,σ,{}):=by
 unfold Zen at h
 rw [if_pos ⟨hB,rfl,rfl⟩] at h
 exact Zbu h (by kernel_rfl) hp hn rfl (fun _=>rfl) σ site own
theorem Zzr {args:List AVal} {p:Zn} {x c:Int} {B:Zb} {s:Bool} (h:E1 34 [ZZ p] []=some (Zen x B c s,[])) (hB:¬(B.length≤268435455∧c=0∧s=true)) (hp:args.all Zab=true) (hn:args.map ZG=[ZZ p]) (σ:Za) (site own:Nat) :
  Zj E1 BY σ site 34 own true args=some (Zqj,σ,{}):=by
 unfold Zen at h
 rw [if_neg hB] at h
 exact Zbu h (by kernel_rfl) hp hn rfl (fun _=>rfl) σ site own
def ZhS (x:UInt8) (B:Zb):Zb:=x::((ZaG B.length).1++B)
theorem ZJY (σ:Za) (site own:Nat) (f:Bool) (x:UInt8) (b c:Zb) (h:1+b.length+c.length≤140737488355328):Zj E BY σ site 56 own true [.lst f [.lst false [Zc x],.lst false (b.map Zc),.lst false (c.map Zc)]]=some (.lst false ((x::(b++c)).map Zc),σ,{}):=by
 have:=ZgX σ site own f [x] [b,c] (by simp) (by simp;omega)
 simpa only [List.map_cons,List.map_nil,ZH,List.flatten_cons,List.flatten_nil,List.append_nil,List.cons_append,List.nil_append] using this
theorem ZwZ (p:Zn) (x:UInt8) (B:Zb) (hB:B.length≤268435455) (hF:∀ σ site own,Zj E1 BY σ site 34 own true [.agg (Zu p)]=some (ZiW x B,σ,{})) :
  E1 40 [ZZ p] []=some (.tup [.lst false ((ZhS x B).map Zc),.int .i64 0],[]):=by
 have hv:=Zgj (B.length:Nat)
 have fv:=fun σ site own=>ZbD (Zfh σ site own (B.length:Nat))
 have fj:=fun σ site own f=>ZbD (ZJY σ site own f x (ZaG (B.length:Nat)).1 B (by omega))
 have hn:(B.map Zc).length=B.length:=by simp
 rw [Zbo]
 have e0:=ZbP p
 have e1:=Zcj p
 unfold ZhS
 unfold Zez at fv
 unfold ZiW at hF
 generalize (ZaG (B.length:Nat)).1=V at *
 generalize (ZaG (B.length:Nat)).2=c at *
 generalize Zu p=P at *
 generalize (x::(V++B)).map Zc=R at *
 generalize hBB:B.map Zc=BB at *
 have bx:Zc x=.int .u8 (x.toNat:Nat):=rfl
 simp only [bx] at fj hF
 rw [Zbj (by rfl) Zwq]
 simp -implicitDefEqProofs only [EQA,Zs,Nat.reduceAdd,Nat.reduceLT,Nat.reduceLeDiff,Nat.reduceEqDiff,Nat.reduceBEq,decide_true,↓reduceIte,Zd,ZH1,Zp5,ZBN,oI,oN,AVal.cells,e0,e1,hF,fv,fj,hn,bne_self_eq_false,viewAs,ZR,ZL,Zq,List.foldl_cons,List.foldl_nil]
end Go.Proofs.YtmlkhhidifjjfaaDoor
namespace Go.Proofs.YtmlkhhidifjjfaaDoor
set_option maxHeartbeats 8000000
set_option maxRecDepth 10000
def Zie (p:Zn):Option Zb :=
 if p.type=1 then some (ZeA p) else if p.type=2 then some (ZkD p) else if p.type=3 then some (ZkB p)
 else if p.type=4∨p.type=5∨p.type=6∨p.type=7 then some (beB (ZN p.id) 2++ZbJ p)
 else if p.type=8 then some (ZbM p++Zd4 p.subs) else if p.type=10 then some (ZbM p++Zd9 p.filters)
 else if p.type=9∨p.type=11 then some (ZbM p++Zea p.codes)
 else if p.type=14∨p.type=15 then Zdi p else none
def ZaI (p:Zn):Zb:=(Zie p).getD []
theorem ZIa (p:Zn) (h:OkW p):E1 78 [.ref 0 0,ZZ p] [.var wn]=some (.tup [],wO (Zie p)):=by
 unfold Zie
 by_cases h1:p.type=1
 ·rw [if_pos h1];exact Zx8 p h h1
 rw [if_neg h1]
 by_cases h2:p.type=2
 ·rw [if_pos h2];exact ZGj p h h2
 rw [if_neg h2]
 by_cases h3:p.type=3
 ·rw [if_pos h3];exact Zwn p h h3
 rw [if_neg h3]
 by_cases h4:p.type=4∨p.type=5∨p.type=6∨p.type=7
 ·rw [if_pos h4];exact ZsF p h h4
 rw [if_neg h4]
 by_cases h8:p.type=8
 ·rw [if_pos h8];exact Zy0 p h h8
 rw [if_neg h8]
 by_cases h10:p.type=10
 ·rw [if_pos h10];exact ZMN p h h10
 rw [if_neg h10]
 by_cases h9:p.type=9∨p.type=11
 ·rw [if_pos h9];exact ZE1 p h h9
 rw [if_neg h9]
 by_cases h14:p.type=14∨p.type=15
 ·rw [if_pos h14];exact ZCV p h h14
 rw [if_neg h14]
 exact Zzl p (by omega)
theorem ZxX (p:Zn):(ZbJ p).length≤300000000:=by
 have h1:=Zbc 1 (ZN p.code)
 have h2:=Zdh p.type p.props
 unfold ZbJ
 repeat' split
 all_goals simp only [List.length_append,List.length_nil]
 all_goals omega
theorem ZGa (p:Zn) (h:OkW p) (hp:p.payload.length≤1000000):(ZaI p).length≤1000000000000:=by
 have a1:=ZMQ p h
 have a2:=ZxX p
 have a3:=Zbc 2 (ZN p.id)
 have a4:=Zbc 1 (ZN p.code)
 have a5:=Zbc 1 (ZN (Z6 p.present 1))
 have a6:=Zdh 2 p.props
 have a7:=Zdh 3 p.props
 have a8:=ZcK p.topic
 have a9:=ZlJ p h
 have b1:=ZEy p.subs
 have b2:=ZEk p.filters
 have b3:=ZFX p.codes
 have c1:=h.subs.1
 have c2:=h.filters.1
 have c3:=h.codes
 have a10:(ZkU p).length≤70000:=by
  unfold ZkU
  split
  ·rw [List.length_append];omega
  ·omega
 have a11:((Zdi p).getD []).length≤300000000:=by
  unfold Zdi
  split
  ·simpa using a2
  ·simp
 unfold ZaI Zie
 generalize Zdi p=ro at *
 repeat' split
 all_goals try simp only [Option.getD_some,Option.getD_none,List.length_append,List.length_nil,ZkD,ZkB]
 all_goals omega
theorem ZgN {w:Int} {b:Zb} {l:List Zt} {r:Zb} (h:Zbr w b=.ok (l,r)):l.length≤268435455:=by
 unfold Zbr at h
 split at h
 ·injection h with h
  injection h with h1 h2
  rw [←h1];exact ZCG w b
 ·cases h
theorem Zu5 {α:Type} {one:Zb→RK α}:∀ {n:Nat} {l:Zb} {ts:List α},ZaE one n l=.ok ts→ts.length≤n
 | 0,l,ts,h=>by
  unfold ZaE at h
  split at h
  ·injection h with h;subst h;simp
  ·cases h
 | n+1,l,ts,h=>by
  unfold ZaE at h
  split at h
  ·injection h with h;subst h;simp
  ·split at h
   ·cases h
   ·split at h
    ·cases h
    ·rename_i t ht
     injection h with h;subst h
     have:=Zu5 ht
     simp;omega
theorem Zom {α:Type} {one:Zb→RK α} {k:Int} {l:Zb} {n:Int} {ps:List Zt} {ts:List α} (h:Zbv one k l=.ok (n,ps,ts)):ps.length≤268435455∧ts.length≤l.length:=by
 unfold Zbv at h
 split at h
 ·cases h
 rename_i n' ps' r hm
 have l1:=Zja hm
 split at h
 ·cases h
 rename_i us hu
 injection h with h;injection h with e1 h;injection h with e2 e3;subst e1 e2 e3
 have:=Zu5 hu
 refine ⟨?_,by omega⟩
 unfold ZcY at hm
 split at hm
 ·cases hm
 split at hm
 ·cases hm
 rename_i hp
 split at hm
 ·cases hm
 injection hm with hm;injection hm with _ hm;injection hm with e _;subst e
 exact ZgN hp
theorem Zye {k:Int} {l:Zb} {c:Int} {ps:Option (List Zt)} {r:Zb} (h:Zcl k l=.ok ((c,ps),r)):(ps.getD []).length≤268435455:=by
 unfold Zcl at h
 split at h
 ·injection h with h;injection h with h _;injection h with _ h;subst h;simp
 split at h
 ·cases h
 split at h
 ·injection h with h;injection h with h _;injection h with _ h;subst h;simp
 split at h
 ·cases h
 rename_i hp
 injection h with h;injection h with h _;injection h with _ h;subst h
 exact ZgN hp
theorem ZcA:OkL Zaj:=⟨by simp [Zaj],by simp [Zaj],by simp [Zaj],by simp [Zaj],by simp [Zaj]⟩
theorem ZsU {q q':Zn} {l r:Zb} (h:OkL q) (e:Zeb q l=.ok (q',r)):OkL q':=by
 unfold Zeb at e
 split at e
 ·cases e
 rename_i c ps r' hr
 injection e with e;injection e with e _;subst e
 have:=Zye hr
 exact ⟨h.codes,by simp only;omega,h.subs,h.filters,h.wprops⟩
theorem ZyX {q q':Zn} {l r:Zb} (h:OkL q) (e:idQ q l=.ok (q',r)):OkL q':=by
 unfold idQ at e
 split at e
 ·cases e
 rename_i n r1 _
 exact ZsU (q:={ q with id:=n }) ⟨h.codes,h.props,h.subs,h.filters,h.wprops⟩ e
theorem ZIL {q q':Zn} {l r:Zb} (h:OkL q) (e:Zdt q l=.ok (q',r)):OkL q':=by
 unfold Zdt at e
 split at e
 ·cases e
 split at e
 case isFalse=>cases e
 split at e
 ·cases e
 split at e
 ·cases e
 rename_i hp
 injection e with e;injection e with e _;subst e
 have:=ZgN hp
 exact ⟨h.codes,by simp only;omega,h.subs,h.filters,h.wprops⟩
theorem ZJd {b:Bool} {q q':Zn} {l r:Zb} (h:OkL q) (e:ZdE b q l=.ok (q',r)):OkL q':=by
 unfold ZdE at e
 split at e
 ·split at e
  ·cases e
  ·injection e with e;injection e with e _;subst e;exact ⟨h.codes,h.props,h.subs,h.filters,h.wprops⟩
 ·injection e with e;injection e with e _;subst e;exact h
theorem Zwa {b:Bool} {q q':Zn} {l r:Zb} (h:OkL q) (e:Zc7 b q l=.ok (q',r)):OkL q':=by
 unfold Zc7 at e
 split at e
 ·split at e
  ·cases e
  ·injection e with e;injection e with e _;subst e;exact ⟨h.codes,h.props,h.subs,h.filters,h.wprops⟩
 ·injection e with e;injection e with e _;subst e;exact h
theorem ZGy {b:Bool} {q q':Zn} {l r:Zb} (h:OkL q) (e:Zdb b q l=.ok (q',r)):OkL q':=by
 unfold Zdb at e
 split at e
 ·split at e
  ·cases e
  ·rename_i ps tp d r' hw
   injection e with e;injection e with e _;subst e
   refine ⟨h.codes,h.props,h.subs,h.filters,?_⟩
   unfold ZcE at hw
   split at hw
   ·cases hw
   rename_i hp
   split at hw
   ·cases hw
   split at hw
   ·cases hw
   injection hw with hw;injection hw with e1 _;subst e1
   have:=ZgN hp
   simp only;omega
 ·injection e with e;injection e with e _;subst e;exact h
theorem ZI1 {q:Zn} (h:OkL q) (m k:Int) {ps:List Zt} (cl:Zb) (hp:ps.length≤268435455):OkL (headD (ZmD q m) k ps cl):=⟨h.codes,Nat.le_trans hp (by decide),h.subs,h.filters,h.wprops⟩
theorem ZBp {q q':Zn} {l r:Zb} (h:OkL q) (e:ZcR q l=.ok (q',r)):OkL q':=by
 unfold ZcR at e
 split at e
 ·cases e
 split at e
 case isFalse=>cases e
 split at e
 ·cases e
 split at e
 case isFalse=>cases e
 split at e
 ·cases e
 split at e
 case isFalse=>cases e
 unfold Zfx at e
 split at e
 ·cases e
 split at e
 ·cases e
 rename_i hp
 split at e
 ·cases e
 unfold Zfk at e
 split at e
 ·cases e
 rename_i hw
 split at e
 ·cases e
 rename_i hu
 exact ZJd (Zwa (ZGy (ZI1 h _ _ _ (ZgN hp)) hw) hu) e
theorem Ziz {x:Except Int (Zn×Zb)} (h:∀ q r,x=.ok (q,r)→OkL q) {q:Zn} (e:ZbR x=.ok q):OkL q:=by
 unfold ZbR at e
 split at e
 ·cases e
 rename_i q' r'
 split at e
 ·injection e with e;subst e;exact h _ _ rfl
 ·cases e
theorem ZMo {t:Int} {l:Zb} (hl:l.length≤9223372036854775807) {q:Zn} (e:Zcn t l=.ok q):OkL q:=by
 have h0:∀ k:Int,OkL { Zaj with type:=k }:=fun k=>⟨ZcA.codes,ZcA.props,ZcA.subs,ZcA.filters,ZcA.wprops⟩
 unfold Zcn at e
 split at e
 ·exact Ziz (fun _ _ h=>ZBp (h0 1) h) e
 split at e
 ·exact Ziz (fun _ _ h=>ZIL (h0 2) h) e
 split at e
 ·exact Ziz (fun _ _ h=>ZyX (h0 t) h) e
 split at e
 ·unfold Zhn at e
  split at e
  ·cases e
  rename_i hm
  injection e with e;subst e
  have:=Zom hm
  exact ⟨(h0 8).codes,by simp only;omega,by simp only;omega,(h0 8).filters,(h0 8).wprops⟩
 split at e
 ·unfold ZhF at e
  split at e
  ·cases e
  rename_i hm
  injection e with e;subst e
  have:=Zom hm
  exact ⟨(h0 8).codes,by simp only;omega,(h0 8).subs,by simp only;omega,(h0 8).wprops⟩
 split at e
 ·unfold ZfN at e
  split at e
  ·cases e
  rename_i hm
  injection e with e;subst e
  have:=Zom hm
  exact ⟨by simp only;omega,by simp only;omega,(h0 8).subs,(h0 8).filters,(h0 8).wprops⟩
 split at e
 ·exact Ziz (fun _ _ h=>ZsU (h0 t) h) e
 ·exact Ziz (fun q r h=>by injection h with h;injection h with h _;subst h;exact h0 t) e
theorem ZLb {qos:Int} {l:Zb} {tp:Zb} {n:Int} {ps:List Zt} {q:Zb} (e:Zdy qos l=.ok (tp,n,ps,q)):ps.length≤268435455:=by
 unfold Zdy at e
 split at e
 ·cases e
 split at e
 ·split at e
  ·cases e
  split at e
  ·cases e
  rename_i hp
  injection e with e;injection e with _ e;injection e with _ e;injection e with e _;subst e
  exact ZgN hp
 ·split at e
  ·cases e
  rename_i hp
  injection e with e;injection e with _ e;injection e with _ e;injection e with e _;subst e
  exact ZgN hp
theorem ZsL (b:Int) (l:Zb) (hl:l.length≤9223372036854775807):OkL (Zbm b l).1:=by
 unfold Zbm
 split
 ·exact ZcA
 split
 ·unfold ZeT
  split
  ·split
   ·split
    ·exact ZcA
    ·rename_i h
     have:=ZLb h
     exact ⟨ZcA.codes,by simp only;omega,ZcA.subs,ZcA.filters,ZcA.wprops⟩
   ·exact ZcA
  ·exact ZcA
 split
 ·split
  ·exact ZcA
  ·rename_i h
   exact ZMo hl h
 ·exact ZcA
theorem Ztm (p:Zn) (h:OkW p) (hp:p.payload.length≤1000000):E1 34 [ZZ p] []=some (Zen (Za0 p) (ZaI p) (Zbm (Za0 p) (ZaI p)).2 (Zdz (Zbm (Za0 p) (ZaI p)).1 p),[]):=by
 have hb:=ZIa p h
 have hl:=ZGa p h hp
 have hw:=ZjH p
 unfold ZaI at hl ⊢
 cases hB:Zie p with
 | none =>
  rw [hB] at hb
  exact ZDN p _ _ hb (fun σ site own=>Zpv _ hw [] (by decide) false σ site own) (ZsL _ _ (by decide))
 | some B =>
  rw [hB] at hb hl
  simp only [Option.getD_some] at hl ⊢
  exact ZsG p _ _ B hb (by omega) (fun σ site own=>Zpv _ hw B (by omega) false σ site own) (ZsL _ _ (by omega))
def ZeZ (p:Zn):Prop:=(ZaI p).length≤268435455∧Zbm (Za0 p) (ZaI p)=(p,0)
instance (p:Zn):Decidable (ZeZ p):=inferInstanceAs (Decidable (_∧_))
def Zkl (p:Zn):UInt8:=UInt8.ofNat (Za0 p).toNat
theorem Zrm (p:Zn):((Zkl p).toNat:Int)=Za0 p:=by
 have:=ZjH p
 unfold Zkl
 rw [UInt8.toNat_ofNat']
 omega
section
variable (p:Zn) (h:OkW p) (hp:p.payload.length≤1000000)
include h hp
theorem ZsC:ZeZ p↔((ZaI p).length≤268435455∧(Zbm (Za0 p) (ZaI p)).2=0∧Zdz (Zbm (Za0 p) (ZaI p)).1 p=true):=by
 unfold ZeZ
 rw [ZvI]
 constructor
 ·rintro ⟨h1,h2⟩
  rw [h2];exact ⟨h1,rfl,rfl⟩
 ·rintro ⟨h1,h2,h3⟩
  exact ⟨h1,Prod.ext h3 h2⟩
theorem ZF7 (hg:ZeZ p) (args:List AVal) (ha:args.all Zab=true) (hn:args.map ZG=[ZZ p]) (σ:Za) (site own:Nat):Zj E1 BY σ site 34 own true args=some (ZiW (Zkl p) (ZaI p),σ,{}):=by
 have hF:=Ztm p h hp
 obtain ⟨h1,h2,h3⟩:=(ZsC p h hp).1 hg
 rw [h2,h3,←Zrm p] at hF
 exact Zsh (by rw [hF]) h1 ha hn σ site own
theorem ZMl (hg:¬ZeZ p) (args:List AVal) (ha:args.all Zab=true) (hn:args.map ZG=[ZZ p]) (σ:Za) (site own:Nat):Zj E1 BY σ site 34 own true args=some (Zqj,σ,{}) :=
 Zzr (Ztm p h hp) (fun e=>hg ((ZsC p h hp).2 e)) ha hn σ site own
theorem ZGt (p:Zn):([AVal.agg (Zu p)].all Zab=true)∧[AVal.agg (Zu p)].map ZG=[ZZ p]:=⟨by rw [List.all_cons,ZdG];rfl,by rw [List.map_cons,Zdv];rfl⟩
end
end Go.Proofs.YtmlkhhidifjjfaaDoor
namespace Go.Proofs.YtmlkhhidifjjfaaDoor
set_option maxHeartbeats 4000000
theorem Zrq (rest:Zb):∀ (b:Zb) (i n:Nat),(gvA i n b).2.2=0→gvA i n (b++rest)=gvA i n b
 | [],i,n,h=>by
  unfold gvA at h
  split at h <;> simp at h
 | c::r,i,n,h=>by
  rw [List.cons_append]
  unfold gvA at h ⊢
  split at h
  ·simp at h
  ·rename_i h4
   rw [if_neg h4,if_neg h4]
   split at h
   ·rename_i hc
    rw [if_pos hc,if_pos hc]
   ·rename_i hc
    rw [if_neg hc,if_neg hc]
    exact Zrq rest r (i+1) _ h
theorem ZCn (b rest:Zb) (h:(ZS b).2.2=0):ZS (b++rest)=ZS b:=Zrq rest b 0 0 h
theorem Zv4 (w:Int) (b rest:Zb) (h:(Zaa w b).2.2=0):Zaa w (b++rest)=Zaa w b:=by
 have hx:¬((ZS b).2.2≠0∨((ZS b).1:Int) > (b.length:Int) - ((ZS b).2.1:Nat)):=by
  intro hx
  unfold Zaa at h
  rw [if_pos hx] at h
  simp at h
 have h1:(ZS b).2.2=0:=Classical.byContradiction fun e=>hx (Or.inl e)
 have h2:¬(((ZS b).1:Int) > (b.length:Int) - ((ZS b).2.1:Nat)):=fun e=>hx (Or.inr e)
 have hg:=ZCn b rest h1
 have hle:(ZS b).2.1+(ZS b).1≤b.length:=by omega
 have ht:(b++rest).take ((ZS b).2.1+(ZS b).1)=b.take ((ZS b).2.1+(ZS b).1):=List.take_append_of_le_length hle
 have hl:(b++rest).length=b.length+rest.length:=List.length_append
 have hx':¬((ZS b).2.2≠0∨((ZS b).1:Int) > ((b++rest).length:Int) - ((ZS b).2.1:Nat)):=by
  rintro (e | e)
  ·exact e h1
  ·rw [hl] at e;omega
 unfold Zaa
 rw [hg,ht,if_neg hx,if_neg hx']
end Go.Proofs.YtmlkhhidifjjfaaDoor
namespace Go.Proofs.YtmlkhhidifjjfaaDoor
def Zqi:Ze:=(.seq (.region [oI 1 (.box (.t 0)),oI 2 (.alloc [(.int .i64 0),(.bool false),(.int .i64 0),(.bool false),(.int .i64 0),(.str []),(.lst true []),(.int .i64 0),(.lst true []),(.lst true []),(.lst true []),(.lst true []),(.bool false),(.int .i64 0),(.str []),(.bool false),(.str []),(.lst true []),(.int .i64 0),(.bool false),(.lst true []),(.bool false),(.str []),(.bool false),(.lst true []),(.bool false)])] none [2,1]) (.seq (.seq (.region [oI 3 (.faddr 10 (.t 1)),oI 4 (.ld none (.t 3)),oI 5 (.len (.t 4)),oI 6 (.bin .gtr (.t 5) (.c (.int .i64 8)))] none [6,2,1]) (.cond (.t 6) (.region [oI 7 (.faddr 10 (.t 1)),oI 8 (.ld none (.t 7)),oI 9 (.slice 6 (.t 8) none (some (.c (.int .i64 8))) none),oI 10 (.faddr 10 (.t 1)),oN (.st 1 (.t 10) (.t 9))] none [2,1]) .skip)) (.seq (.seq (.region [oI 11 (.faddr 11 (.t 1)),oI 12 (.ld none (.t 11)),oI 13 (.len (.t 12)),oI 14 (.bin .gtr (.t 13) (.c (.int .i64 8)))] none [14,2,1]) (.cond (.t 14) (.region [oI 15 (.faddr 11 (.t 1)),oI 16 (.ld none (.t 15)),oI 17 (.slice 1 (.t 16) none (some (.c (.int .i64 8))) none),oI 18 (.faddr 11 (.t 1)),oN (.st 1 (.t 18) (.t 17))] none [2,1]) .skip)) (.seq (.seq (.region [oI 19 (.faddr 8 (.t 1)),oI 20 (.ld none (.t 19)),oI 21 (.len (.t 20)),oI 22 (.bin .gtr (.t 21) (.c (.int .i64 8)))] none [22,2,1]) (.cond (.t 22) (.region [oI 23 (.faddr 8 (.t 1)),oI 24 (.ld none (.t 23)),oI 25 (.slice 1 (.t 24) none (some (.c (.int .i64 8))) none),oI 26 (.faddr 8 (.t 1)),oN (.st 1 (.t 26) (.t 25))] none [2,1]) .skip)) (.seq (.seq (.region [oI 27 (.faddr 9 (.t 1)),oI 28 (.ld none (.t 27)),oI 29 (.len (.t 28)),oI 30 (.bin .gtr (.t 29) (.c (.int .i64 12)))] none [30,2,1]) (.cond (.t 30) (.region [oI 31 (.faddr 9 (.t 1)),oI 32 (.ld none (.t 31)),oI 33 (.slice 5 (.t 32) none (some (.c (.int .i64 12))) none),oI 34 (.faddr 9 (.t 1)),oN (.st 1 (.t 34) (.t 33))] none [2,1]) .skip)) (.seq (.seq (.region [oI 35 (.faddr 16 (.t 1)),oI 36 (.faddr 4 (.t 35)),oI 37 (.ld none (.t 36)),oI 38 (.len (.t 37)),oI 39 (.bin .gtr (.t 38) (.c (.int .i64 12)))] none [39,2,1]) (.cond (.t 39) (.region [oI 40 (.faddr 16 (.t 1)),oI 41 (.faddr 4 (.t 40)),oI 42 (.ld none (.t 41)),oI 43 (.slice 5 (.t 42) none (some (.c (.int .i64 12))) none),oI 44 (.faddr 16 (.t 1)),oI 45 (.faddr 4 (.t 44)),oN (.st 1 (.t 45) (.t 43))] none [2,1]) .skip)) (.seq (.region [oI 46 (.faddr 6 (.t 1)),oI 47 (.ld none (.t 46)),oI 48 (.call 18 0 true [(.t 47),(.c (.int .i64 600))]),oI 49 (.faddr 24 (.t 1)),oI 50 (.ld none (.t 49)),oI 51 (.call 18 0 true [(.t 50),(.c (.int .i64 100))]),oI 52 (.faddr 16 (.t 1)),oI 53 (.faddr 1 (.t 52)),oI 54 (.ld none (.t 53)),oI 55 (.call 18 0 true [(.t 54),(.c (.int .i64 100))]),oI 56 (.faddr 6 (.t 1)),oN (.st 1 (.t 56) (.t 48)),oI 57 (.faddr 24 (.t 1)),oN (.st 1 (.t 57) (.t 51)),oI 58 (.faddr 16 (.t 1)),oI 59 (.faddr 1 (.t 58)),oN (.st 1 (.t 59) (.t 55))] (some [(1,4),(2,4),(1,8),(2,8),(4,8),(5,8)]) [2,1]) (.seq (.region [oI 60 (.ld (some 26) (.t 1)),oN (.st 26 (.t 2) (.t 60))] none [2]) .ret))))))))
def ZpC:ZD:=⟨[(.cell 2 (some 26))],Zqi⟩
theorem ZFm:FC 37=some ZpC:=by kernel_rfl
theorem ZDA:ZpC.body=Zqi:=rfl
theorem ZDx:ZpC.res=[(.cell 2 (some 26))]:=rfl
def ZgV:Ze:=(.seq (.region [oI 2 (.box (.t 0)),oI 4 (.mov (.c (.bool false)))] none [2,1]) (.seq (.region [oI 10 (.ld (some 26) (.t 2)),oI 11 (.call 37 0 true [(.t 10)]),oI 12 (.call 34 0 true [(.t 11)]),oI 9 (.mov (.t 12)),oI 13 (.ext (.t 9) 0),oI 14 (.ext (.t 9) 1),oI 5 (.alloc [(.int .u8 0),(.lst true [])]),oN (.st 2 (.t 5) (.t 13)),oI 6 (.mov (.t 14))] none [6,5,2,1]) (.seq (.seq (.region [oI 15 (.mov (.t 6)),oI 16 (.call 33 0 true [(.t 15)]),oI 17 (.bin .neq (.t 16) (.c (.int .i64 0))),oI 18 (.mov (.t 17)),⟨(some 19),(.faddr 1 (.t 5)),(some (18,false)),[]⟩,⟨(some 20),(.ld none (.t 19)),(some (18,false)),[]⟩,⟨(some 21),(.len (.t 20)),(some (18,false)),[]⟩,⟨(some 22),(.bin .eql (.t 21) (.c (.int .i64 0))),(some (18,false)),[]⟩,oI 23 (.pick (.t 18) (.c (.bool true)) (.t 22))] none [23,5,2,1]) (.cond (.t 23) (.seq (.region [oI 24 (.call 38 0 true []),oI 4 (.mov (.t 24))] none [4]) .ret) .skip)) (.seq (.region [oI 25 (.mov (.t 1)),oI 26 (.faddr 1 (.t 5)),oI 27 (.ld none (.t 26)),oI 28 (.len (.t 27)),oI 29 (.bin .sub (.t 28) (.c (.int .i64 1))),oI 30 (.call 39 0 true [(.t 25),(.c (.int .i64 0)),(.t 29)]),oI 1 (.mov (.t 30))] none [5,2,1]) (.seq (.region [oI 32 (.faddr 0 (.t 5)),oI 33 (.ld none (.t 32)),oI 34 (.faddr 1 (.t 5)),oI 35 (.ld none (.t 34)),oI 36 (.mov (.t 1)),oI 37 (.slice 1 (.t 35) none (some (.t 36)) none),oI 38 (.build [(.int .u8 0),(.lst true [])] [(0,1,(.t 33)),(1,1,(.t 37))]),oI 39 (.call 32 0 true [(.t 38)]),oI 31 (.mov (.t 39)),oI 40 (.ext (.t 31) 0),oI 41 (.ext (.t 31) 1),oI 7 (.alloc [(.int .i64 0),(.bool false),(.int .i64 0),(.bool false),(.int .i64 0),(.str []),(.lst true []),(.int .i64 0),(.lst true []),(.lst true []),(.lst true []),(.lst true []),(.bool false),(.int .i64 0),(.str []),(.bool false),(.str []),(.lst true []),(.int .i64 0),(.bool false),(.lst true []),(.bool false),(.str []),(.bool false),(.lst true []),(.bool false)]),oN (.st 26 (.t 7) (.t 40)),oI 8 (.mov (.t 41))] (some [(1,3),(1,5),(1,11),(3,11),(5,11),(7,11)]) [8,7,2]) (.seq (.seq (.region [oI 42 (.mov (.t 8)),oI 43 (.call 33 0 true [(.t 42)]),oI 44 (.bin .neq (.t 43) (.c (.int .i64 0)))] none [44,7,2]) (.cond (.t 44) (.seq (.region [oI 45 (.ld (some 26) (.t 7)),oI 46 (.build [(.int .i64 0),(.bool false),(.int .i64 0),(.bool false),(.int .i64 0),(.str []),(.lst true []),(.int .i64 0),(.lst true []),(.lst true []),(.lst true []),(.lst true []),(.bool false),(.int .i64 0),(.str []),(.bool false),(.str []),(.lst true []),(.int .i64 0),(.bool false),(.lst true []),(.bool false),(.str []),(.bool false),(.lst true []),(.bool false)] []),oI 47 (.call 36 0 true [(.t 45),(.t 46)]),oI 48 (.mov (.t 47)),⟨(some 49),(.call 38 0 true []),(some (48,true)),[]⟩,oI 50 (.pick (.t 48) (.t 49) (.c (.bool false))),oI 4 (.mov (.t 50))] none [4]) .ret) .skip)) (.seq (.seq (.region [oI 51 (.faddr 0 (.t 7)),oI 52 (.ld none (.t 51))] none [52,7,2]) (.block 0 (.seq (.seq (.region [oI 54 (.bin .eql (.t 52) (.c (.int .i64 3))),oI 53 (.mov (.t 54))] none [53,52,7,2]) (.cond (.t 53) .skip (.seq (.region [oI 55 (.bin .eql (.t 52) (.c (.int .i64 4))),oI 53 (.mov (.t 55))] none [53,52,7,2]) (.cond (.t 53) .skip (.seq (.region [oI 56 (.bin .eql (.t 52) (.c (.int .i64 5))),oI 53 (.mov (.t 56))] none [53,52,7,2]) (.cond (.t 53) .skip (.seq (.region [oI 57 (.bin .eql (.t 52) (.c (.int .i64 6))),oI 53 (.mov (.t 57))] none [53,52,7,2]) (.cond (.t 53) .skip (.seq (.region [oI 58 (.bin .eql (.t 52) (.c (.int .i64 7))),oI 53 (.mov (.t 58))] none [53,52,7,2]) (.cond (.t 53) .skip (.seq (.region [oI 59 (.bin .eql (.t 52) (.c (.int .i64 14))),oI 53 (.mov (.t 59))] none [53,52,7,2]) (.cond (.t 53) .skip (.seq (.region [oI 60 (.bin .eql (.t 52) (.c (.int .i64 15))),oI 53 (.mov (.t 60))] none [53,52,7,2]) (.cond (.t 53) .skip (.seq (.region [oI 61 (.bin .eql (.t 52) (.c (.int .i64 8))),oI 53 (.mov (.t 61))] none [53,52,7,2]) (.cond (.t 53) .skip (.seq (.region [oI 62 (.bin .eql (.t 52) (.c (.int .i64 10))),oI 53 (.mov (.t 62))] none [53,52,7,2]) (.cond (.t 53) .skip (.seq (.region [oI 63 (.bin .eql (.t 52) (.c (.int .i64 9))),oI 53 (.mov (.t 63))] none [53,52,7,2]) (.cond (.t 53) .skip (.region [oI 64 (.bin .eql (.t 52) (.c (.int .i64 11))),oI 53 (.mov (.t 64))] none [53,7,2]))))))))))))))))))))) (.cond (.t 53) (.seq (.region [oI 65 (.faddr 0 (.t 7)),oI 66 (.ld none (.t 65)),oI 67 (.ld (some 26) (.t 2)),oI 68 (.call 37 0 true [(.t 67)]),oI 69 (.field none 0 (.t 68)),oI 70 (.bin .eql (.t 66) (.t 69)),oI 71 (.mov (.t 70)),⟨(some 72),(.call 38 0 true []),(some (71,true)),[]⟩,oI 73 (.pick (.t 71) (.t 72) (.c (.bool false))),oI 4 (.mov (.t 73))] (some [(1,2),(1,3),(3,3),(7,7)]) [4]) .ret) .skip)))) (.seq (.region [oI 4 (.mov (.c (.bool false)))] none [4]) .ret))))))))
def Znp:ZD:=⟨[(.tmp 4)],ZgV⟩
theorem Zjz:FC 6=some Znp:=by kernel_rfl
theorem Zk6:Znp.body=ZgV:=rfl
theorem Zjj:Znp.res=[(.tmp 4)]:=rfl
def ZmM:Ze:=(.seq (.region [oI 2 (.mov (.c (.int .i64 0)))] none [0]) (.seq (.region [oI 3 (.mov (.t 0)),oI 2 (.mov (.t 3))] none [2]) .ret))
def ZnM:ZD:=⟨[(.tmp 2)],ZmM⟩
theorem ZxI:FC 33=some ZnM:=by kernel_rfl
theorem ZGq:ZnM.body=ZmM:=rfl
theorem ZFY:ZnM.res=[(.tmp 2)]:=rfl
def ZmL:Ze:=(.seq (.region [oI 0 (.mov (.c (.bool false)))] none []) (.seq (.region [oI 6 (.build [(.int .i64 0),(.bool false),(.int .i64 0),(.bool false),(.int .i64 0),(.str []),(.lst true []),(.int .i64 0),(.lst true []),(.lst true []),(.lst true []),(.lst true []),(.bool false),(.int .i64 0),(.str []),(.bool false),(.str []),(.lst true []),(.int .i64 0),(.bool false),(.lst true []),(.bool false),(.str []),(.bool false),(.lst true []),(.bool false)] [(0,1,(.c (.int .i64 4))),(4,1,(.c (.int .i64 7))),(7,1,(.c (.int .i64 16)))]),oI 7 (.call 40 0 true [(.t 6)]),oI 5 (.mov (.t 7)),oI 8 (.ext (.t 5) 0),oI 9 (.ext (.t 5) 1),oI 1 (.mov (.t 8)),oI 2 (.mov (.t 9))] none [2,1]) (.seq (.region [oI 11 (.bslice false 1 7 (.int .u8 0) [(0,(.c (.int .u8 0))),(1,(.c (.int .u8 1))),(2,(.c (.int .u8 97))),(3,(.c (.int .u8 0))),(4,(.c (.int .u8 1))),(5,(.c (.int .u8 0))),(6,(.c (.int .u8 120)))]),oI 12 (.build [(.int .u8 0),(.lst true [])] [(0,1,(.c (.int .u8 50))),(1,1,(.t 11))]),oI 13 (.call 32 0 true [(.t 12)]),oI 10 (.mov (.t 13)),oI 14 (.ext (.t 10) 0),oI 15 (.ext (.t 10) 1),oI 3 (.alloc [(.int .i64 0),(.bool false),(.int .i64 0),(.bool false),(.int .i64 0),(.str []),(.lst true []),(.int .i64 0),(.lst true []),(.lst true []),(.lst true []),(.lst true []),(.bool false),(.int .i64 0),(.str []),(.bool false),(.str []),(.lst true []),(.int .i64 0),(.bool false),(.lst true []),(.bool false),(.str []),(.bool false),(.lst true []),(.bool false)]),oN (.st 26 (.t 3) (.t 14)),oI 4 (.mov (.t 15))] none [4,3,2,1]) (.seq (.region [oI 16 (.mov (.t 2)),oI 17 (.call 33 0 true [(.t 16)]),oI 18 (.bin .eql (.t 17) (.c (.int .i64 0))),oI 19 (.mov (.t 18)),⟨(some 20),(.mov (.t 1)),(some (19,true)),[]⟩,⟨(some 21),(.bslice false 1 5 (.int .u8 0) [(0,(.c (.int .u8 64))),(1,(.c (.int .u8 3))),(2,(.c (.int .u8 0))),(3,(.c (.int .u8 7))),(4,(.c (.int .u8 16)))]),(some (19,true)),[]⟩,⟨(some 22),(.call 15 0 true [(.t 20),(.t 21)]),(some (19,true)),[]⟩,oI 23 (.pick (.t 19) (.t 22) (.c (.bool false))),oI 24 (.mov (.t 23)),⟨(some 25),(.mov (.t 4)),(some (24,true)),[]⟩,⟨(some 26),(.call 33 0 true [(.t 25)]),(some (24,true)),[]⟩,⟨(some 27),(.bin .eql (.t 26) (.c (.int .i64 0))),(some (24,true)),[]⟩,oI 28 (.pick (.t 24) (.t 27) (.c (.bool false))),oI 29 (.mov (.t 28)),⟨(some 30),(.faddr 5 (.t 3)),(some (29,true)),[]⟩,⟨(some 31),(.ld none (.t 30)),(some (29,true)),[]⟩,⟨(some 32),(.bin .eql (.t 31) (.c (.str [97]))),(some (29,true)),[]⟩,oI 33 (.pick (.t 29) (.t 32) (.c (.bool false))),oI 34 (.mov (.t 33)),⟨(some 35),(.faddr 2 (.t 3)),(some (34,true)),[]⟩,⟨(some 36),(.ld none (.t 35)),(some (34,true)),[]⟩,⟨(some 37),(.bin .eql (.t 36) (.c (.int .i64 1))),(some (34,true)),[]⟩,oI 38 (.pick (.t 34) (.t 37) (.c (.bool false))),oI 39 (.mov (.t 38)),⟨(some 40),(.faddr 4 (.t 3)),(some (39,true)),[]⟩,⟨(some 41),(.ld none (.t 40)),(some (39,true)),[]⟩,⟨(some 42),(.bin .eql (.t 41) (.c (.int .i64 1))),(some (39,true)),[]⟩,oI 43 (.pick (.t 39) (.t 42) (.c (.bool false))),oI 44 (.mov (.t 43)),⟨(some 45),(.faddr 6 (.t 3)),(some (44,true)),[]⟩,⟨(some 46),(.ld none (.t 45)),(some (44,true)),[]⟩,⟨(some 47),(.b2s (.t 46)),(some (44,true)),[]⟩,⟨(some 48),(.bin .eql (.t 47) (.c (.str [120]))),(some (44,true)),[]⟩,oI 49 (.pick (.t 44) (.t 48) (.c (.bool false))),oI 0 (.mov (.t 49))] none [0]) .ret))))
def Zql:ZD:=⟨[(.tmp 0)],ZmL⟩
theorem ZIX:FC 38=some Zql:=by kernel_rfl
theorem ZIR:Zql.body=ZmL:=rfl
theorem ZFR:Zql.res=[(.tmp 0)]:=rfl
end Go.Proofs.YtmlkhhidifjjfaaDoor
namespace Go.Proofs.YtmlkhhidifjjfaaDoor
set_option maxHeartbeats 16000000
set_option maxRecDepth 10000
theorem ZNN (a b:Zb):E 15 [ZH a,ZH b] []=some (.bool (a == b),[]):=by
 rw [Zh (by rfl) ZFr]
 simp -implicitDefEqProofs only [EQA,Nat.reduceLT,Nat.reduceEqDiff,Zdw,reduceCtorEq,Z0,↓reduceIte,ZJK,Zoz,ZKO,oI,ZH]
theorem ZIg (σ:Za) (site own:Nat) (f g:Bool) (a b:Zb):Zj E BY σ site 15 own true [.lst f (a.map Zc),.lst g (b.map Zc)]=some (.bool (a == b),σ,{}) :=
 Zbu (ZNN a b) (by kernel_rfl) rfl rfl rfl (fun _=>rfl) σ site own
theorem ZIQ (e:Int):E 33 [.int .i64 e] []=some (.int .i64 e,[]):=by
 rw [Zh (by rfl) ZxI]
 simp -implicitDefEqProofs only [EQA,Nat.reduceLT,Nat.reduceEqDiff,reduceCtorEq,↓reduceIte,ZGq,ZmM,ZFY,oI]
theorem Zs3 (σ:Za) (site own:Nat) (view:Bool) (e:Int):Zj E BY σ site 33 own view [.int .i64 e]=some (.int .i64 e,σ,{}) :=
 Zb6 (ZIQ e) (by kernel_rfl) (by simp -implicitDefEqProofs only [Zcw,Zbg,eq_self]) (by simp -implicitDefEqProofs only [ZC,Zbg,eq_self]) rfl (fun _=>rfl) _ _ _ _
def p7:Zn:={ Zaj with type:=4,id:=7,code:=16 }
def b7:Zb:=[0,7,16]
theorem ZAO:OkW p7:=by
 refine ⟨?_,?_,?_,?_,?_,?_,?_,?_,?_,?_,?_,?_⟩ <;> simp [p7,Zaj]
theorem ZFw:E1 78 [.ref 0 0,ZZ p7] [.var wn]=some (.tup [],wH 0 b7):=by
 have h:=ZsF p7 ZAO (Or.inl rfl)
 have e:beB (ZN p7.id) 2++ZbJ p7=b7:=by
  unfold ZbJ
  rw [if_pos (Or.inl (by decide)),if_neg (by simp [p7,Zaj])]
  decide
 rw [e] at h;exact h
def Q7:List AVal:=ZdL ((P0.set 0 (.int .i64 4)).set 4 (.int .i64 7)) 16 none
theorem ZBC:E1 32 [.agg [.int .u8 64,.lst false (b7.map Zc)]] []=some (.tup [.agg Q7,.int .i64 0],[]):=by
 have hi:idK b7=.ok (7,[16]):=by kernel_rfl
 have hr:Zcl 4 [16]=.ok ((16,none),[]):=by kernel_rfl
 have hf:=ZtT P0 rfl (by rfl) 64 4 b7 (by decide) (by decide) (by decide) (by decide)
 have hb:=ZtS (P0.set 0 (.int .i64 4)) (by rfl) (by rfl) 4 (Or.inl rfl) rfl rfl rfl (fun r _=>ZcQ 4 r) b7 (by decide) hi hr
 rw [ZfH]
 exact Zox 64 b7 (by rfl) (by rfl) rfl (by rfl) (by rfl) rfl hf hb
theorem Zxm (σ:Za) (site own:Nat):Zj E1 BY σ site 32 own true [.agg [.int .u8 64,.lst false (b7.map Zc)]]=some (.tup [ZZ p7,.int .i64 0],σ,{}) :=
 ZvF ZBC (fun σ=>rfl) false σ site own
theorem Zyv:E1 34 [ZZ p7] []=some (Zen 64 b7 0 true,[]):=by
 have hf:Za0 p7=64:=by decide
 have hs:Zdz p7 p7=true:=(ZvI _ _).2 rfl
 have:=ZsG p7 p7 0 b7 ZFw (by decide) (fun σ site own=>by rw [hf];exact Zxm σ site own) ⟨by decide,by decide,by decide,by decide,by decide⟩
 rw [hf,hs] at this
 exact this
theorem ZDb:E1 40 [ZZ p7] []=some (.tup [.lst false ((ZhS 64 b7).map Zc),.int .i64 0],[]) :=
 ZwZ p7 64 b7 (by decide) fun σ site own=>Zsh (x:=64) Zyv (by decide) (by rw [List.all_cons,ZdG];rfl) (by rw [List.map_cons,Zdv];rfl) σ site own
def b50:Zb:=[0,1,97,0,1,0,120]
def p50:Zn:={ Zaj with type:=3,qos:=1,id:=1,topic:=[97],payload:=[120] }
theorem Zv1:ZeT 50 b50=(p50,0):=by kernel_rfl
theorem ZAe:E1 38 [] []=some (.bool true,[]):=by
 have h1:=fun (args:List AVal) (hp:args.all Zab=true) (hn:args.map ZG=[ZZ p7]) σ site own=>Zbu (byref:=BY) (args:=args) ZDb (by kernel_rfl) hp hn rfl (fun _=>rfl) σ site own
 have h2:∀ (σ:Za) (site own:Nat) (f:Bool),Zj E1 BY σ site 32 own true [.agg [.int .u8 50,.lst f [.int .u8 0,.int .u8 1,.int .u8 97,.int .u8 0,.int .u8 1,.int .u8 0,.int .u8 120]]]=some (.tup [.agg [.int .i64 3,.bool false,.int .i64 1,.bool false,.int .i64 1,.str [97],.lst false [.int .u8 120],.int .i64 0,.lst false [],.lst false [],.lst false [],.lst false [],.bool false,.int .i64 0,.str [],.bool false,.str [],.lst false [],.int .i64 0,.bool false,.lst false [],.bool false,.str [],.bool false,.lst false [],.bool false],.int .i64 0],σ,{}):=fun σ site own f=>by
  have:=ZDm 50 (by decide) b50 (by decide) f σ site own
  rw [Zv1] at this
  exact this
 have h3:=fun σ site own f g a b=>ZbD (ZIg σ site own f g a b)
 have h4:=fun σ site own e=>ZbD (Zs3 σ site own true e)
 have h5:=h1 [.agg [.int .i64 4,.bool false,.int .i64 0,.bool false,.int .i64 7,.str [],.lst true [],.int .i64 16,.lst true [],.lst true [],.lst true [],.lst true [],.bool false,.int .i64 0,.str [],.bool false,.str [],.lst true [],.int .i64 0,.bool false,.lst true [],.bool false,.str [],.bool false,.lst true [],.bool false]] rfl rfl
 have h6:∀ (σ:Za) (site own:Nat) (f g:Bool),Zj E1 BY σ site 15 own true [.lst f ((ZhS 64 b7).map Zc),.lst g [.int .u8 64,.int .u8 3,.int .u8 0,.int .u8 7,.int .u8 16]]=some (.bool true,σ,{}):=fun σ site own f g=>by
  have:=h3 σ site own f g (ZhS 64 b7) [64,3,0,7,16]
  rw [show (ZhS 64 b7 == [64,3,0,7,16])=true from by decide] at this
  exact this
 have hb:bytesOf [AVal.int .u8 120]=some [120]:=by rfl
 clear h1 h3
 rw [Zbj (by rfl) ZIX]
 simp -implicitDefEqProofs only [EQA,Za6,Zb1,Nat.reduceAdd,Nat.reduceLT,Nat.reduceLeDiff,Nat.reduceEqDiff,Nat.reduceBEq,Zdw,ZE,unG,ne_eq,Option.some.injEq,reduceCtorEq,decide_true,decide_false,Z0,↓reduceIte,ZB,Zz,ZJ,ZIR,ZmL,ZFR,oI,oN,AVal.cells,Zal,h2,h4,h5,h6,hb,viewAs,ZR,ZL,Zq,List.foldl_cons,List.foldl_nil,ZT]
theorem ZAl (σ:Za) (site own:Nat) (view:Bool):Zj E1 BY σ site 38 own view []=some (.bool true,σ,{}) :=
 Zb6 ZAe (by kernel_rfl) rfl rfl rfl (fun _=>rfl) _ _ _ _
end Go.Proofs.YtmlkhhidifjjfaaDoor
namespace Go.Proofs.YtmlkhhidifjjfaaDoor
open Go.RowKit
def Zfv (P:Program):Nat→TypeId→Bool
 | 0,_=>true
 | n+1,t=>match P.underlying t with
  | some (.slice e)=>decide (1≤P.bytesOf e) && Zfv P n e
  | some (.struct fs)=>fs.toList.all fun f=>Zfv P n f.type
  | _=>true
mutual
def TyR (R:Nat):Ty→List AVal→Prop
 | .bool,xs=>∃ b,xs=[.bool b]
 | .int k,xs=>∃ n,(Lit.int k n).wf=true∧xs=[.int k n]
 | .str,xs=>∃ l:List UInt8,l.length≤R∧xs=[.str l]
 | .slice s e,xs=>∃ ys:List (List AVal),xs=[.lst false (ys.map (Zb3 s))]∧ys.length≤R∧∀ y ∈ ys,TyR R e y
 | .struct fs,xs=>Ze2 R fs xs
def Ze2 (R:Nat):List Ty→List AVal→Prop
 | [],xs=>xs=[]
 | f::fs,xs=>∃ a b,xs=a++b∧TyR R f a∧Ze2 R fs b
end
section
variable {H:Type} {enc:TypeId×Value→H} {P:Program} {w:World} {spare:Nat→Bool} {held:Bool} {R:Nat}
theorem ZrE {d:DataW H} {e:TypeId} {n:Nat}:∀ {l:List (DataW H)},d ∈ l→n ∈ d.weights P e→n ∈ DataW.weightsAll P e l
 | x::l,h,hn=>by
  simp only [DataW.weightsAll,List.mem_append]
  rcases List.mem_cons.1 h with rfl | h
  ·exact Or.inl hn
  ·exact Or.inr (ZrE h hn)
theorem ZB1 {t e:TypeId} {l m:List (DataW H)} {d:DataW H} (hu:P.underlying t=some (.slice e)) (hd:d ∈ l) {n:Nat} (hn:n ∈ d.weights P e):n ∈ (DataW.slice l m).weights P t:=by
 simp only [DataW.weights,hu,List.mem_cons,List.mem_append]
 exact Or.inr (Or.inl (ZrE hd hn))
theorem ZvA {n fuel:Nat} {cs:List Value} (ih:∀ (t:TypeId) (cs:List Value) (x:DataW H×List MemPlace) (T:Ty),Zc6 P n t=some T→Zfv P n t=true→(∀ m ∈ x.1.weights P t,m≤R)→DataW.trod enc P w 0 spare held fuel t cs=some x→∃ xs,TyR R T xs∧VRs (Imm.of w) B0 xs cs∧ZaF xs=true) :
  ∀ (fs:List Field) (at':Nat) (Ts:List Ty) (ys:List (DataW H×List MemPlace)),(fs.all fun f=>Zfv P n f.type)=true→(∀ m ∈ DataW.weightsEach P (fs.map (·.type)) (ys.map (·.1)),m≤R)→Ziy P at' fs cs.length=true→fs.mapM (fun f=>Zc6 P n f.type)=some Ts →
   fs.mapM (fun f=>DataW.trod enc P w 0 spare held fuel f.type ((cs.drop f.offset).take (P.cellsOf f.type)))=some ys→∃ xs,Ze2 R Ts xs∧VRs (Imm.of w) B0 xs (cs.drop at')∧ZaF xs=true
 | [],at',Ts,ys,_,_,ho,hT,_=>by
  simp only [Ziy,beq_iff_eq] at ho
  simp only [List.mapM_nil,Option.pure_def,Option.some.injEq] at hT
  subst hT ho
  exact ⟨[],by simp only [Ze2],by simp [VRs],rfl⟩
 | f::fs,at',Ts,ys,hby,hwt,ho,hT,h=>by
  simp only [Ziy,Bool.and_eq_true,beq_iff_eq] at ho
  obtain ⟨T,Ts',h1,h2,rfl⟩:=Zvu hT
  obtain ⟨y,ys',h3,h4,rfl⟩:=Zvu h
  simp only [List.all_cons,Bool.and_eq_true] at hby
  simp only [List.map_cons,DataW.weightsEach,List.mem_append] at hwt
  obtain ⟨a,a1,a2,a3⟩:=ih _ _ _ _ h1 hby.1 (fun m hm=>hwt m (Or.inl hm)) h3
  obtain ⟨b,b1,b2,b3⟩:=ZvA ih fs _ _ _ hby.2 (fun m hm=>hwt m (Or.inr hm)) ho.2 h2 h4
  rw [ho.1] at a2
  refine ⟨a++b,by simp only [Ze2];exact ⟨a,b,rfl,a1,b1⟩,ZGs a2 (by rw [List.drop_drop];exact b2),ZJL a3 b3⟩
theorem Zsx {n:Nat} {e:TypeId} {T:Ty} (hT:Zc6 P n e=some T) (hs:ZdM (P.underlying e)=false) {xs:List AVal} (h:TyR R T xs):xs.length=1:=by
 cases n with
 | zero=>simp [Zc6] at hT
 | succ n =>
  simp only [Zc6] at hT
  split at hT
  ·injection hT with hT;subst hT;simp only [TyR] at h;obtain ⟨_,rfl⟩:=h;rfl
  ·injection hT with hT;subst hT;simp only [TyR] at h;obtain ⟨_,_,rfl⟩:=h;rfl
  ·injection hT with hT;subst hT;simp only [TyR] at h;obtain ⟨_,_,rfl⟩:=h;rfl
  ·split at hT
   ·simp only [Option.map_eq_some_iff] at hT
    obtain ⟨T',_,rfl⟩:=hT
    simp only [TyR] at h;obtain ⟨_,rfl,_⟩:=h;rfl
   ·cases hT
  ·rename_i hu;rw [hu] at hs;simp [ZdM] at hs
  ·cases hT
theorem Zmn:∀ (n fuel:Nat) (t:TypeId) (cs:List Value) (x:DataW H×List MemPlace) (T:Ty),Zc6 P n t=some T→Zfv P n t=true→(∀ m ∈ x.1.weights P t,m≤R)→DataW.trod enc P w 0 spare held fuel t cs=some x →
  ∃ xs,TyR R T xs∧VRs (Imm.of w) B0 xs cs∧ZaF xs=true
 | 0,fuel,t,cs,x,T,hT,_,_,_=>by simp [Zc6] at hT
 | n+1,0,t,cs,x,T,_,_,_,h=>by simp [DataW.trod] at h
 | n+1,fuel+1,t,cs,x,T,hT,hby,hwt,h=>by
  have h0:=h
  simp only [Zc6] at hT
  unfold DataW.trod at h
  split at hT
  ·rename_i hu
   injection hT with hT;subst hT
   obtain ⟨b,rfl,_⟩:=DataW.trod_bool hu h0
   exact ⟨[.bool b],by simp only [TyR];exact ⟨b,rfl⟩,by simp [VRs,VR],rfl⟩
  ·rename_i k hu
   injection hT with hT;subst hT
   obtain ⟨n',rfl,_,hk⟩:=DataW.trod_int hu h0
   exact ⟨[.int k n'],by simp only [TyR];exact ⟨n',hk,rfl⟩,by simp [VRs,VR],rfl⟩
  ·rename_i hu
   injection hT with hT;subst hT
   obtain ⟨s,rfl,hx,hs⟩:=DataW.trod_string hu h0
   have hs':s.data.toList.length≤9223372036854775807:=by
    rw [Array.length_toList];exact Nat.le_trans hs (by simp [maxLen])
   have hR:s.data.toList.length≤R:=by
    subst hx
    exact hwt _ (by simp [DataW.weights])
   exact ⟨[.str s.data.toList],by simp only [TyR];exact ⟨_,hR,rfl⟩,by simp only [VRs,VR];exact ⟨_,_,rfl,⟨by simp,hs'⟩,rfl⟩,rfl⟩
  ·rename_i e hu
   split at hT
   case isFalse=>cases hT
   rename_i hc
   simp only [Option.map_eq_some_iff] at hT
   obtain ⟨T,hT,rfl⟩:=hT
   rcases Go.Deep.open_slice hu h0 with ⟨hcs,_⟩ | ⟨a,len,cap,m,n',D,Pl,hcs,_,hl,hm,hmm,hx,hi⟩
   ·subst hcs
    exact ⟨[.lst false []],by simp only [TyR];exact ⟨[],by simp,by simp,by simp⟩,by simp only [VRs,VR];exact ⟨_,_,rfl,⟨none,0,rfl,by simp,by simp,by simp,by simp,by simp [Z9]⟩,rfl⟩,rfl⟩
   ·have hlm:len≤m:=by split at hmm <;> omega
    unfold Zfv at hby
    rw [hu] at hby
    simp only [Bool.and_eq_true,decide_eq_true_eq] at hby
    have hlR:len≤R:=by
     have:=hwt _ (by rw [hx];simp only [DataW.weights,hu];exact List.mem_cons_self ..)
     simp only [List.length_map,List.length_range] at this
     have h1:=Nat.le_mul_of_pos_right (len+(m - len)) hby.1
     omega
    have hspot:0 < len→a.spot=none:=by
     intro h0
     obtain ⟨cs',h1,h2⟩:=hi 0 (by omega)
     obtain ⟨_,h6,h7⟩:=World.cells?_some h1
     have h8:=h7 0 hc
     obtain ⟨u,hu⟩:∃ u,cs'[0]?=some u:=⟨cs'[0]'(by omega),by simp⟩
     rw [hu] at h8
     simp only [Nat.zero_mul,Addr.add,if_true] at h8
     exact ZI3 (b:=a.block) (off:=a.off) (s:=a.spot) (u:=u) h8
    have hall:∀ i,∃ xs,i < len→TyR R T xs∧(Zb3 (ZdM (P.underlying e)) xs).cells=xs∧xs.length=P.cellsOf e∧CR (Imm.of w) B0 xs a.block (a.off+i*P.cellsOf e)∧ZaF xs=true:=by
     intro i
     by_cases hlt:i < len
     ·obtain ⟨cs',h1,h2⟩:=hi i (by omega)
      obtain ⟨xs,h3,h4,h5⟩:=Zmn n n' e cs' _ T hT hby.2 (fun q hq=>hwt q (by rw [hx];exact ZB1 hu (List.mem_map.2 ⟨i,List.mem_range.2 hlt,rfl⟩) hq)) h2
      obtain ⟨_,h6,h7⟩:=World.cells?_some h1
      have hlen:=ZaV h4
      refine ⟨xs,fun _=>⟨h3,ZJe (fun hs=>Zsx hT hs h3) (fun _=>ZrW h5),by omega,Zu2 xs cs' _ h4 (fun j hj=>?_),h5⟩⟩
      have h8:=h7 j (by omega)
      rw [Go.Deep.add_add,Zyh (hspot (by omega)),←Nat.add_assoc] at h8
      exact h8
     ·exact ⟨[],fun h=>absurd h hlt⟩
    obtain ⟨Y,hY⟩:=Classical.axiomOfChoice hall
    subst hcs
    have hmx:maxLen=9223372036854775807:=by simp [maxLen]
    rw [hmx] at hm
    refine ⟨[.lst false ((List.range len).map fun i=>Zb3 (ZdM (P.underlying e)) (Y i))],?_,?_,?_⟩
    ·simp only [TyR]
     refine ⟨(List.range len).map Y,by rw [List.map_map];rfl,by simpa using hlR,?_⟩
     intro y hy
     obtain ⟨i,hi',rfl⟩:=List.mem_map.1 hy
     exact (hY i (List.mem_range.1 hi')).1
    ·simp only [VRs,VR,List.length_map,List.length_range]
     refine ⟨_,_,rfl,⟨some a,cap,rfl,hl,hm,by simp,?_,Zmm len Y fun i hlt=>by rw [(hY i hlt).2.1];exact (hY i hlt).2.2.2.2⟩,rfl⟩
     cases len with
     | zero=>exact Or.inl (by simp)
     | succ len =>
      refine Or.inr ⟨a.block,a.off,P.cellsOf e,?_,hc,ZqX (len+1) a.off Y fun i hlt=>?_⟩
      ·have:=hspot (by omega)
       cases a;simp_all
      ·rw [(hY i hlt).2.1];exact ⟨(hY i hlt).2.2.1,(hY i hlt).2.2.2.1⟩
    ·simp only [ZaF,ZaN,Bool.and_true]
     exact Zmm len Y fun i hlt=>by rw [(hY i hlt).2.1];exact (hY i hlt).2.2.2.2
  ·rename_i fs hu
   split at hT
   case isFalse=>cases hT
   rename_i ho
   simp only [Option.map_eq_some_iff] at hT
   obtain ⟨Ts,hT,rfl⟩:=hT
   rw [hu] at h
   simp only at h
   split at h
   ·rename_i hl
    simp only [Option.map_eq_some_iff] at h
    obtain ⟨ys,hy,rfl⟩:=h
    unfold Zfv at hby
    rw [hu] at hby
    simp only [DataW.weights,hu] at hwt
    obtain ⟨xs,h1,h2,h3⟩:=ZvA (fun t cs x T h h1 h2 h'=>Zmn n fuel t cs x T h h1 h2 h') fs.toList 0 Ts ys hby hwt (by rw [hl];exact ho) hT hy
    exact ⟨xs,by simp only [TyR];exact h1,h2,h3⟩
   ·cases h
  ·cases hT
def Zn5 (R:Nat) (s:Bool) (T:Ty) (x:AVal):Prop:=∃ xs,TyR R T xs∧x=Zb3 s xs
theorem Zsq {n:Nat} {t:TypeId} {v:Value} {d:DataW H} {ps:List MemPlace} {T:Ty} {r:Reach} {b0:Nat} (hT:Zc6 P n t=some T) (hby:Zfv P n t=true) (hwt:∀ m ∈ d.weights P t,m≤R) (hv:Value.okWide P w r b0 t v) (h:DataW.Trod enc P w 0 spare held t v d ps) :
  ∃ x,Zn5 R (ZdM (P.underlying t)) T x∧VR (Imm.of w) B0 x v∧ZaF x.cells=true:=by
 obtain ⟨fuel,h⟩:=h
 obtain ⟨xs,h1,h2,h3⟩:=Zmn n fuel t _ _ T hT hby hwt h
 refine ⟨Zb3 (ZdM (P.underlying t)) xs,⟨xs,h1,rfl⟩,?_⟩
 by_cases hs:ZdM (P.underlying t)=true
 ·have : ∃ cs,v=.agg cs:=by
   unfold Value.okWide at hv
   cases hu:P.underlying t with
   | none=>rw [hu] at hs;simp [ZdM] at hs
   | some dd =>
    rw [hu] at hv hs
    cases dd <;> first | (simp [ZdM] at hs;done) | (obtain ⟨cs,e,_⟩:=hv;exact ⟨cs,e⟩)
  obtain ⟨cs,rfl⟩:=this
  rw [hs]
  exact ⟨by simp only [Zb3,if_true,VR];exact ⟨cs,rfl,h2⟩,h3⟩
 ·have hs':ZdM (P.underlying t)=false:=by simpa using hs
  have hl:=Zsx hT hs' h1
  have hlen:=ZaV h2
  rw [hs']
  match xs,hl with
  | [x],_ =>
   simp only [Zb3,Bool.false_eq_true,if_false,List.headD_cons]
   have hvc:v.cells=#[v]:=by
    cases n with
    | zero=>simp [Zc6] at hT
    | succ n =>
     simp only [Zc6] at hT
     split at hT
     ·rename_i hu;obtain ⟨b,rfl⟩:=Go.WideShapes.okWide_bool hu hv;rfl
     ·rename_i k hu;obtain ⟨b,rfl⟩:=Go.WideShapes.okWide_int hu hv;rfl
     ·rename_i hu;obtain ⟨b,rfl⟩:=Go.WideShapes.okWide_string hu hv;rfl
     ·rename_i e hu;obtain ⟨a,l,c,rfl⟩:=Go.WideShapes.okWide_slice hu hv;rfl
     ·rename_i fs hu;rw [hu] at hs';simp [ZdM] at hs'
     ·cases hT
   rw [hvc] at h2
   simp only [VRs] at h2
   obtain ⟨v',vs',e,h2,_⟩:=h2
   simp only [List.cons.injEq] at e
   rw [e.1]
   refine ⟨h2,?_⟩
   have hok:=ZrW h3 x (by simp)
   have hx:x.cells=[x]:=by cases x <;> first | rfl | (simp [ZT] at hok;done)
   rw [hx];exact h3
end
end Go.Proofs.YtmlkhhidifjjfaaDoor
namespace Go.Proofs.YtmlkhhidifjjfaaDoor
open Go.RowKit
variable {R:Nat}
theorem Zid {α:Type} {T:Ty} {s:Bool} {f:α→AVal} {Q:α→Prop} (h:∀ y,TyR R T y→∃ a,Q a∧Zb3 s y=f a) {xs:List AVal} (hx:TyR R (.slice s T) xs):∃ l:List α,(l.length≤R∧∀ a ∈ l,Q a)∧xs=[.lst false (l.map f)]:=by
 simp only [TyR] at hx
 obtain ⟨ys,rfl,h1,h2⟩:=hx
 have : ∀ ys:List (List AVal),(∀ y ∈ ys,TyR R T y)→∃ l:List α,(∀ a ∈ l,Q a)∧ys.map (Zb3 s)=l.map f:=by
  intro ys
  induction ys with
  | nil=>intro _;exact ⟨[],by simp,rfl⟩
  | cons y ys ih =>
   intro hy
   obtain ⟨a,hq,ha⟩:=h y (hy y (by simp))
   obtain ⟨l,hql,hl⟩:=ih fun y' h'=>hy y' (by simp [h'])
   exact ⟨a::l,by simpa using ⟨hq,hql⟩,by simp [ha,hl]⟩
 obtain ⟨l,hq,hl⟩:=this ys h2
 refine ⟨l,⟨?_,hq⟩,by rw [hl]⟩
 have:=congrArg List.length hl
 simp only [List.length_map] at this
 omega
theorem ZJS {y:List AVal} (h:TyR R (.int .u8) y):∃ b,True∧Zb3 false y=Zc b:=by
 simp only [TyR] at h
 obtain ⟨n,hw,rfl⟩:=h
 have h1:0≤n∧n≤255:=by
  simp only [Lit.wf,Bool.and_eq_true,decide_eq_true_eq] at hw
  exact hw
 refine ⟨UInt8.ofNat n.toNat,trivial,?_⟩
 simp only [Zb3,Bool.false_eq_true,if_false,List.headD_cons,Zc,AVal.int.injEq,true_and]
 rw [UInt8.toNat_ofNat']
 omega
theorem ZlL {xs:List AVal} (h:TyR R (.slice false (.int .u8)) xs):∃ b:Zb,b.length≤R∧xs=[ZH b]:=by
 obtain ⟨b,h1,h2⟩:=Zid (Q:=fun _=>True) (fun _=>ZJS) h
 exact ⟨b,h1.1,h2⟩
def okI (n:Int):Prop:=-9223372036854775808≤n∧n≤9223372036854775807
theorem Zc8 {y:List AVal} (h:TyR R (.int .i64) y):∃ n,okI n∧y=[.int .i64 n]:=by
 simp only [TyR] at h
 obtain ⟨n,hw,rfl⟩:=h
 refine ⟨n,?_,rfl⟩
 simp only [Lit.wf,Bool.and_eq_true,decide_eq_true_eq] at hw
 exact hw
theorem Zed {y:List AVal} (h:TyR R .bool y):∃ b,y=[.bool b]:=by
 simp only [TyR] at h;exact h
theorem ZfI {y:List AVal} (h:TyR R .str y):∃ l:Zb,l.length≤R∧y=[.str l]:=by
 simp only [TyR] at h;exact h
theorem Zwb {xs:List AVal} (h:TyR R (.slice false .str) xs):∃ l:List Zb,(l.length≤R∧∀ x ∈ l,x.length≤R)∧xs=[.lst false (l.map AVal.str)] :=
 Zid (fun y hy=>by obtain ⟨l,h1,rfl⟩:=ZfI hy;exact ⟨l,h1,rfl⟩) h
theorem ZBl {xs:List AVal} (h:TyR R (.slice false (.int .i64)) xs):∃ l:List Int,(l.length≤R∧∀ n ∈ l,okI n)∧xs=[.lst false (l.map (AVal.int .i64))] :=
 Zid (fun y hy=>by obtain ⟨n,h1,rfl⟩:=Zc8 hy;exact ⟨n,h1,rfl⟩) h
def Ziq:Ty:=.struct [.int .i64,.int .i64,.str,.str,.slice false (.int .u8)]
def Zot (R:Nat) (p:Zt):Prop:=okI p.id∧okI p.num∧p.text.length≤R∧p.pair.length≤R∧p.data.length≤R
theorem ZKz {y:List AVal} (h:TyR R Ziq y):∃ p,Zot R p∧Zb3 true y=Zl p:=by
 unfold Ziq at h
 rw [TyR] at h
 simp only [Ze2] at h
 obtain ⟨_,_,rfl,h1,_,_,rfl,h2,_,_,rfl,h3,_,_,rfl,h4,_,_,rfl,h5,rfl⟩:=h
 obtain ⟨i,i1,rfl⟩:=Zc8 h1
 obtain ⟨n,n1,rfl⟩:=Zc8 h2
 obtain ⟨t,t1,rfl⟩:=ZfI h3
 obtain ⟨q,q1,rfl⟩:=ZfI h4
 obtain ⟨d,d1,rfl⟩:=ZlL h5
 exact ⟨⟨i,n,t,q,d⟩,⟨i1,n1,t1,q1,d1⟩,rfl⟩
def Zpc (R:Nat) (l:List Zt):Prop:=l.length≤R∧∀ p ∈ l,Zot R p
theorem ZqY {xs:List AVal} (h:TyR R (.slice true Ziq) xs):∃ l:List Zt,Zpc R l∧xs=[Zax l]:=Zid (fun _=>ZKz) h
def Zqd:Ty:=.struct [.str,.int .i64,.bool,.bool,.int .i64,.int .i64]
theorem ZN3 {y:List AVal} (h:TyR R Zqd y):∃ p:Zbq,(p.filter.length≤R∧okI p.qos∧okI p.handling∧okI p.id)∧Zb3 true y=ZU p:=by
 unfold Zqd at h
 rw [TyR] at h
 simp only [Ze2] at h
 obtain ⟨_,_,rfl,h1,_,_,rfl,h2,_,_,rfl,h3,_,_,rfl,h4,_,_,rfl,h5,_,_,rfl,h6,rfl⟩:=h
 obtain ⟨f,f1,rfl⟩:=ZfI h1
 obtain ⟨q,q1,rfl⟩:=Zc8 h2
 obtain ⟨n,rfl⟩:=Zed h3
 obtain ⟨a,rfl⟩:=Zed h4
 obtain ⟨k,k1,rfl⟩:=Zc8 h5
 obtain ⟨i,i1,rfl⟩:=Zc8 h6
 exact ⟨⟨f,q,n,a,k,i⟩,⟨f1,q1,k1,i1⟩,rfl⟩
def ZtF:Ty:=.struct [.str,.slice false (.int .u8),.int .i64,.bool,.slice true Ziq]
def Zn1:Ty:=.struct [.int .i64,.bool,.int .i64,.bool,.int .i64,.str,.slice false (.int .u8),.int .i64,.slice false (.int .i64),.slice true Ziq,.slice true Zqd,.slice false .str,.bool,.int .i64,.str,.bool,ZtF,.bool,.str,.bool,.slice false (.int .u8),.bool]
structure ZsM (R:Nat) (p:Zn):Prop where
 topic:p.topic.length≤R
 payload:p.payload.length≤R
 codes:p.codes.length≤R∧∀ n ∈ p.codes,okI n
 props:Zpc R p.props
 subs:p.subs.length≤R∧∀ s ∈ p.subs,s.filter.length≤R∧okI s.qos∧okI s.handling∧okI s.id
 filters:p.filters.length≤R∧∀ f ∈ p.filters,f.length≤R
 client:p.client.length≤R
 wtopic:p.will.topic.length≤R
 wdata:p.will.data.length≤R
 wprops:Zpc R p.will.props
 user:p.user.length≤R
 password:p.password.length≤R
 ints:okI p.type∧okI p.qos∧okI p.id∧okI p.code∧okI p.keep∧okI p.will.qos
theorem ZC3 {x:AVal} (h:Zn5 R true Zn1 x):∃ p,ZsM R p∧x=ZZ p:=by
 obtain ⟨y,h,rfl⟩:=h
 unfold Zn1 at h
 rw [TyR] at h
 simp only [Ze2] at h
 obtain ⟨_,_,rfl,h1,_,_,rfl,h2,_,_,rfl,h3,_,_,rfl,h4,_,_,rfl,h5,_,_,rfl,h6,_,_,rfl,h7,_,_,rfl,h8,_,_,rfl,h9,_,_,rfl,h10,_,_,rfl,h11,_,_,rfl,h12,_,_,rfl,h13,_,_,rfl,h14,_,_,rfl,h15,_,_,rfl,h16,_,_,rfl,h17,_,_,rfl,h18,_,_,rfl,h19,_,_,rfl,h20,_,_,rfl,h21,_,_,rfl,h22,rfl⟩:=h
 unfold ZtF at h17
 rw [TyR] at h17
 simp only [Ze2] at h17
 obtain ⟨_,_,rfl,w1,_,_,rfl,w2,_,_,rfl,w3,_,_,rfl,w4,_,_,rfl,w5,rfl⟩:=h17
 obtain ⟨a1,b1,rfl⟩:=Zc8 h1
 obtain ⟨a2,rfl⟩:=Zed h2
 obtain ⟨a3,b3,rfl⟩:=Zc8 h3
 obtain ⟨a4,rfl⟩:=Zed h4
 obtain ⟨a5,b5,rfl⟩:=Zc8 h5
 obtain ⟨a6,b6,rfl⟩:=ZfI h6
 obtain ⟨a7,b7,rfl⟩:=ZlL h7
 obtain ⟨a8,b8,rfl⟩:=Zc8 h8
 obtain ⟨a9,b9,rfl⟩:=ZBl h9
 obtain ⟨a10,b10,rfl⟩:=ZqY h10
 obtain ⟨a11,b11,rfl⟩:=Zid (fun _=>ZN3) h11
 obtain ⟨a12,b12,rfl⟩:=Zwb h12
 obtain ⟨a13,rfl⟩:=Zed h13
 obtain ⟨a14,b14,rfl⟩:=Zc8 h14
 obtain ⟨a15,b15,rfl⟩:=ZfI h15
 obtain ⟨a16,rfl⟩:=Zed h16
 obtain ⟨v1,u1,rfl⟩:=ZfI w1
 obtain ⟨v2,u2,rfl⟩:=ZlL w2
 obtain ⟨v3,u3,rfl⟩:=Zc8 w3
 obtain ⟨v4,rfl⟩:=Zed w4
 obtain ⟨v5,u5,rfl⟩:=ZqY w5
 obtain ⟨a18,rfl⟩:=Zed h18
 obtain ⟨a19,b19,rfl⟩:=ZfI h19
 obtain ⟨a20,rfl⟩:=Zed h20
 obtain ⟨a21,b21,rfl⟩:=ZlL h21
 obtain ⟨a22,rfl⟩:=Zed h22
 exact ⟨⟨a1,a2,a3,a4,a5,a6,a7,a8,a9,a10,a11,a12,a13,a14,a15,a16,⟨v1,v2,v3,v4,v5⟩,a18,a19,a20,a21,a22⟩,⟨b6,b7,b9,b10,b11,b12,b15,u1,u2,u5,b19,b21,b1,b3,b5,b8,b14,u3⟩,rfl⟩
theorem ZCU {x:AVal} (h:Zn5 R false (.int .i64) x):∃ n:Int,okI n∧x=.int .i64 n:=by
 obtain ⟨y,h,rfl⟩:=h
 obtain ⟨l,h1,rfl⟩:=Zc8 h
 exact ⟨l,h1,rfl⟩
end Go.Proofs.YtmlkhhidifjjfaaDoor
namespace Go.Proofs.YtmlkhhidifjjfaaDoor
set_option maxHeartbeats 16000000
set_option maxRecDepth 10000
theorem ZmG {α:Type} (l:List α):((8:Int) < l.length∧(8:Int)≤l.length)∨(¬(8:Int) < l.length∧l.take 8=l):=by
 by_cases h:(8:Int) < l.length
 ·exact Or.inl ⟨h,by omega⟩
 ·exact Or.inr ⟨h,List.take_of_length_le (by omega)⟩
theorem ZsP {α:Type} (l:List α):((12:Int) < l.length∧(12:Int)≤l.length)∨(¬(12:Int) < l.length∧l.take 12=l):=by
 by_cases h:(12:Int) < l.length
 ·exact Or.inl ⟨h,by omega⟩
 ·exact Or.inr ⟨h,List.take_of_length_le (by omega)⟩
def ZaU (p:Zn):Zn:={ p with subs:=p.subs.take 8,filters:=p.filters.take 8,codes:=p.codes.take 8,props:=p.props.take 12,payload:=p.payload.take 600,password:=p.password.take 100,will:={ p.will with props:=p.will.props.take 12,data:=p.will.data.take 100 } }
theorem ZCY (p:Zn):E 37 [.agg [.int .i64 p.type,.bool p.dup,.int .i64 p.qos,.bool p.retain,.int .i64 p.id,.str p.topic,.lst false (p.payload.map Zc),.int .i64 p.code,.lst false (p.codes.map (AVal.int .i64)),.lst false (p.props.map Zl),.lst false (p.subs.map ZU),.lst false (p.filters.map AVal.str),.bool p.clean,.int .i64 p.keep,.str p.client,.bool p.hasWill,.str p.will.topic,.lst false (p.will.data.map Zc),.int .i64 p.will.qos,.bool p.will.retain,.lst false (p.will.props.map Zl),.bool p.hasUser,.str p.user,.bool p.hasPassword,.lst false (p.password.map Zc),.bool p.present]] []=some (.agg [.int .i64 (ZaU p).type,.bool (ZaU p).dup,.int .i64 (ZaU p).qos,.bool (ZaU p).retain,.int .i64 (ZaU p).id,.str (ZaU p).topic,.lst false ((ZaU p).payload.map Zc),.int .i64 (ZaU p).code,.lst false ((ZaU p).codes.map (AVal.int .i64)),.lst false ((ZaU p).props.map Zl),.lst false ((ZaU p).subs.map ZU),.lst false ((ZaU p).filters.map AVal.str),.bool (ZaU p).clean,.int .i64 (ZaU p).keep,.str (ZaU p).client,.bool (ZaU p).hasWill,.str (ZaU p).will.topic,.lst false ((ZaU p).will.data.map Zc),.int .i64 (ZaU p).will.qos,.bool (ZaU p).will.retain,.lst false ((ZaU p).will.props.map Zl),.bool (ZaU p).hasUser,.str (ZaU p).user,.bool (ZaU p).hasPassword,.lst false ((ZaU p).password.map Zc),.bool (ZaU p).present],[]):=by
 rw [Zh (by rfl) ZFm]
 have k6:(600:Int).toNat=600:=rfl
 have k1:(100:Int).toNat=100:=rfl
 unfold ZaU
 rcases ZmG p.subs with ⟨h1,h2⟩ | ⟨h1,h2⟩ <;> rcases ZmG p.filters with ⟨h3,h4⟩ | ⟨h3,h4⟩ <;> rcases ZmG p.codes with ⟨h5,h6⟩ | ⟨h5,h6⟩ <;> rcases ZsP p.props with ⟨h7,h8⟩ | ⟨h7,h8⟩ <;> rcases ZsP p.will.props with ⟨h9,h10⟩ | ⟨h9,h10⟩
 all_goals simp -implicitDefEqProofs only [EQA,ZC,Zs,Nat.reduceAdd,Nat.reduceLT,Nat.reduceLeDiff,Nat.reduceEqDiff,Nat.reduceBEq,decide_true,decide_false,↓reduceIte,Zd,List.contains_cons,ZDA,Zqi,ZDx,oI,oN,gt_iff_lt,Zw7,Zgu,h1,h2,h3,h4,h5,h6,h7,h8,h9,h10,k6,k1,Int.reduceToNat,Int.reduceLE]
theorem ZNB (p:Zn) (σ:Za) (site own:Nat):Zj E1 BY σ site 37 own true [.agg (Zu p)]=some (.agg (Zu (ZaU p)),σ,{}) :=
 ZbD (Zbu (ZCY p) (by kernel_rfl) (by rw [List.all_cons,ZdG];rfl) (by rw [List.map_cons,Zdv];rfl) rfl (fun _=>rfl) σ site own)
theorem ZDl {p:Zn} {R:Nat} (h:ZsM R p) (hR:R≤9223372036854775807):OkW (ZaU p):=by
 have t:∀ {q:Zt},Zot R q→Zeq q:=fun {q} k=>⟨Nat.le_trans k.2.2.1 hR,Nat.le_trans k.2.2.2.1 hR,Nat.le_trans k.2.2.2.2 hR⟩
 refine ⟨Nat.le_trans h.topic hR,?_,?_,⟨?_,fun q hq=>t (h.props.2 q (List.mem_of_mem_take hq))⟩,⟨?_,fun s hs=>Nat.le_trans (h.subs.2 s (List.mem_of_mem_take hs)).1 hR⟩,⟨?_,fun f hf=>Nat.le_trans (h.filters.2 f (List.mem_of_mem_take hf)) hR⟩,Nat.le_trans h.client hR,Nat.le_trans h.wtopic hR,?_,⟨?_,fun q hq=>t (h.wprops.2 q (List.mem_of_mem_take hq))⟩,Nat.le_trans h.user hR,?_⟩
 all_goals simp only [ZaU,List.length_take]
 all_goals omega
theorem ZIk (p:Zn):(ZaU p).payload.length≤1000000:=by simp only [ZaU,List.length_take];omega
end Go.Proofs.YtmlkhhidifjjfaaDoor
namespace Go.Proofs.YtmlkhhidifjjfaaDoor
set_option maxHeartbeats 4000000
def NZ {α:Type} (x:Except Int α):Prop:=∀ e,x=.error e→e≠0
theorem Zbb {α:Type} (a:α):NZ (.ok a:Except Int α):=fun _ h=>by cases h
theorem ZcL {α:Type} {e:Int} (h:e≠0):NZ (.error e:Except Int α):=fun _ k=>by injection k with k;subst k;exact h
theorem ZgH (n:Nat) (l:Zb):NZ (Zav n l):=by unfold Zav;split;exact ZcL (by decide);exact Zbb _
theorem Zf8 (l:Zb):NZ (Zai l):=by unfold Zai;split;exact Zbb _;exact ZcL (by decide)
theorem ZsW (l:Zb):NZ (Zcf l):=by unfold Zcf;split;exact Zbb _;exact ZcL (by decide)
theorem Zgc (w:Int) (l:Zb):NZ (Zbr w l):=by
 unfold Zbr
 split
 ·exact Zbb _
 ·rename_i h;exact ZcL h
theorem ZaO {α β:Type} {x:Except Int α} (h:NZ x) {e:Int} (k:x=.error e):NZ (.error e:Except Int β):=ZcL (h e k)
theorem Zn2 (l:Zb):NZ (idK l):=by
 unfold idK
 split
 ·split
  ·exact ZcL (by decide)
  ·exact Zbb _
 ·rename_i h;exact ZaO (ZgH 2 l) h
theorem ZoK (k:Int) (l:Zb):NZ (Zau k l):=by
 unfold Zau
 split
 ·split
  ·exact Zbb _
  ·exact ZcL (by decide)
 ·rename_i h;exact ZaO (ZgH 1 l) h
theorem ZyC (k:Int) (l:Zb):NZ (Zcl k l):=by
 unfold Zcl
 split
 ·exact Zbb _
 split
 ·rename_i h;exact ZaO (ZoK k l) h
 split
 ·exact Zbb _
 split
 ·rename_i h;exact ZaO (Zgc k _) h
 ·exact Zbb _
theorem ZKy (l:Zb):NZ (Zbn l):=by
 unfold Zbn
 split
 ·rename_i h;exact ZaO (Zf8 l) h
 split
 ·rename_i h;exact ZaO (ZgH 1 _) h
 split
 ·split
  ·exact Zbb _
  ·exact ZcL (by decide)
 ·exact ZcL (by decide)
theorem Zvd {α:Type} {one:Zb→RK α} (h1:∀ l,NZ (one l)) (hlen:∀ {l s r},one l=.ok (s,r)→r.length < l.length):∀ (n:Nat) (l:Zb),l.length≤n→NZ (ZaE one n l)
 | 0,l,h=>by
  unfold ZaE
  rw [if_pos (by omega)]
  exact Zbb _
 | n+1,l,h=>by
  unfold ZaE
  split
  ·exact Zbb _
  split
  ·rename_i k;exact ZaO (h1 l) k
  ·rename_i s r k
   have:=hlen k
   split
   ·rename_i k2;exact ZaO (Zvd h1 hlen n r (by omega)) k2
   ·exact Zbb _
theorem ZLr (k:Int) (l:Zb):NZ (ZcY k l):=by
 unfold ZcY
 split
 ·rename_i h;exact ZaO (Zn2 l) h
 split
 ·rename_i h;exact ZaO (Zgc k _) h
 split
 ·exact ZcL (by decide)
 ·exact Zbb _
theorem Znl {α:Type} {one:Zb→RK α} (h1:∀ l,NZ (one l)) (hlen:∀ {l s r},one l=.ok (s,r)→r.length < l.length) (k:Int) (l:Zb):NZ (Zbv one k l):=by
 unfold Zbv
 split
 ·rename_i h;exact ZaO (ZLr k l) h
 split
 ·rename_i h;exact ZaO (Zvd h1 hlen _ _ (Nat.le_refl _)) h
 ·exact Zbb _
theorem ZiE {x:Except Int (Zn×Zb)} (h:NZ x):NZ (ZbR x):=by
 unfold ZbR
 split
 ·exact ZaO h rfl
 split
 ·exact Zbb _
 ·exact ZcL (by decide)
theorem ZsQ (q:Zn) (l:Zb):NZ (Zeb q l):=by
 unfold Zeb
 split
 ·rename_i h;exact ZaO (ZyC _ l) h
 ·exact Zbb _
theorem ZFF (q:Zn) (l:Zb):NZ (idQ q l):=by
 unfold idQ
 split
 ·rename_i h;exact ZaO (Zn2 l) h
 ·exact ZsQ _ _
theorem ZMe (q:Zn) (l:Zb):NZ (Zdt q l):=by
 unfold Zdt
 split
 ·rename_i h;exact ZaO (ZgH 1 l) h
 split
 ·split
  ·rename_i h;exact ZaO (ZoK 2 _) h
  split
  ·rename_i h;exact ZaO (Zgc 2 _) h
  ·exact Zbb _
 ·exact ZcL (by decide)
theorem ZGP (b:Bool) (q:Zn) (l:Zb):NZ (ZdE b q l):=by
 unfold ZdE
 split
 ·split
  ·rename_i h;exact ZaO (ZsW l) h
  ·exact Zbb _
 ·exact Zbb _
theorem ZH0 (b:Bool) (q:Zn) (l:Zb):NZ (Zc7 b q l):=by
 unfold Zc7
 split
 ·split
  ·rename_i h;exact ZaO (Zf8 l) h
  ·exact Zbb _
 ·exact Zbb _
theorem ZIH (l:Zb):NZ (ZcE l):=by
 unfold ZcE
 split
 ·rename_i h;exact ZaO (Zgc 16 l) h
 split
 ·rename_i h;exact ZaO (Zf8 _) h
 split
 ·rename_i h;exact ZaO (ZsW _) h
 ·exact Zbb _
theorem ZJa (b:Bool) (q:Zn) (l:Zb):NZ (Zdb b q l):=by
 unfold Zdb
 split
 ·split
  ·rename_i h;exact ZaO (ZIH l) h
  ·exact Zbb _
 ·exact Zbb _
theorem ZFa (m:Int) (q:Zn) (l:Zb):NZ (Zfk m q l):=by
 unfold Zfk
 split
 ·rename_i h;exact ZaO (ZJa _ q l) h
 split
 ·rename_i h;exact ZaO (ZH0 _ _ _) h
 ·exact ZGP _ _ _
theorem ZCC (q:Zn) (m:Int) (l:Zb):NZ (Zfx q m l):=by
 unfold Zfx
 split
 ·rename_i h;exact ZaO (ZgH 2 l) h
 split
 ·rename_i h;exact ZaO (Zgc 1 _) h
 split
 ·rename_i h;exact ZaO (Zf8 _) h
 ·exact ZFa _ _ _
theorem ZMa (q:Zn) (l:Zb):NZ (ZcR q l):=by
 unfold ZcR
 split
 ·rename_i h;exact ZaO (Zf8 l) h
 split
 case isFalse=>exact ZcL (by decide)
 split
 ·rename_i h;exact ZaO (ZgH 1 _) h
 split
 case isFalse=>exact ZcL (by decide)
 split
 ·rename_i h;exact ZaO (ZgH 1 _) h
 split
 case isFalse=>exact ZcL (by decide)
 exact ZCC _ _ _
theorem Ztp (t:Int) (l:Zb):NZ (Zcn t l):=by
 unfold Zcn
 split
 ·exact ZiE (ZMa _ l)
 split
 ·exact ZiE (ZMe _ l)
 split
 ·exact ZiE (ZFF _ l)
 split
 ·unfold Zhn
  split
  ·rename_i h;exact ZaO (Znl ZKy ZgP 8 l) h
  ·exact Zbb _
 split
 ·unfold ZhF
  split
  ·rename_i h;exact ZaO (Znl Zf8 Zkm 10 l) h
  ·exact Zbb _
 split
 ·unfold ZfN
  split
  ·rename_i h;exact ZaO (Znl (ZoK _) Zh3 _ l) h
  ·exact Zbb _
 split
 ·exact ZiE (ZsQ _ l)
 ·exact ZiE (Zbb _)
theorem ZL7 (q:Int) (l:Zb):NZ (Zdy q l):=by
 unfold Zdy
 split
 ·rename_i h;exact ZaO (Zf8 l) h
 split
 ·split
  ·rename_i h;exact ZaO (Zn2 _) h
  split
  ·rename_i h;exact ZaO (Zgc 3 _) h
  ·exact Zbb _
 ·split
  ·rename_i h;exact ZaO (Zgc 3 _) h
  ·exact Zbb _
theorem Zik {t:Int} {x:Except Int (Zn×Zb)} (h:∀ q r,x=.ok (q,r)→q.type=t) {q:Zn} (e:ZbR x=.ok q):q.type=t:=by
 unfold ZbR at e
 split at e
 ·cases e
 rename_i q' r'
 split at e
 ·injection e with e;subst e;exact h _ _ rfl
 ·cases e
theorem ZtH {q q':Zn} {l r:Zb} (e:Zeb q l=.ok (q',r)):q'.type=q.type:=by
 unfold Zeb at e
 split at e
 ·cases e
 ·injection e with e;injection e with e _;subst e;rfl
theorem ZKh {q q':Zn} {l r:Zb} (e:idQ q l=.ok (q',r)):q'.type=q.type:=by
 unfold idQ at e
 split at e
 ·cases e
 ·rename_i n r1 _
  exact ZtH (q:={ q with id:=n }) e
theorem Zze {q q':Zn} {l r:Zb} (e:Zdt q l=.ok (q',r)):q'.type=q.type:=by
 unfold Zdt at e
 split at e
 ·cases e
 split at e
 case isFalse=>cases e
 split at e
 ·cases e
 split at e
 ·cases e
 injection e with e;injection e with e _;subst e;rfl
theorem ZC1 {b:Bool} {q q':Zn} {l r:Zb} (e:ZdE b q l=.ok (q',r)):q'.type=q.type:=by
 unfold ZdE at e
 split at e
 ·split at e
  ·cases e
  ·injection e with e;injection e with e _;subst e;rfl
 ·injection e with e;injection e with e _;subst e;rfl
theorem ZKd {b:Bool} {q q':Zn} {l r:Zb} (e:Zc7 b q l=.ok (q',r)):q'.type=q.type:=by
 unfold Zc7 at e
 split at e
 ·split at e
  ·cases e
  ·injection e with e;injection e with e _;subst e;rfl
 ·injection e with e;injection e with e _;subst e;rfl
theorem ZHg {b:Bool} {q q':Zn} {l r:Zb} (e:Zdb b q l=.ok (q',r)):q'.type=q.type:=by
 unfold Zdb at e
 split at e
 ·split at e
  ·cases e
  ·injection e with e;injection e with e _;subst e;rfl
 ·injection e with e;injection e with e _;subst e;rfl
theorem ZGA {q q':Zn} {l r:Zb} (e:ZcR q l=.ok (q',r)):q'.type=q.type:=by
 unfold ZcR at e
 split at e
 ·cases e
 split at e
 case isFalse=>cases e
 split at e
 ·cases e
 split at e
 case isFalse=>cases e
 split at e
 ·cases e
 split at e
 case isFalse=>cases e
 unfold Zfx at e
 split at e
 ·cases e
 split at e
 ·cases e
 split at e
 ·cases e
 unfold Zfk at e
 split at e
 ·cases e
 rename_i hw
 split at e
 ·cases e
 rename_i hu
 rw [ZC1 e,ZKd hu,ZHg hw]
 rfl
theorem ZFT {t:Int} {l:Zb} {q:Zn} (e:Zcn t l=.ok q):q.type=t:=by
 unfold Zcn at e
 split at e
 ·rename_i h;subst h;exact Zik (fun _ _ h=>ZGA h) e
 split at e
 ·rename_i h;subst h;exact Zik (fun _ _ h=>Zze h) e
 split at e
 ·exact Zik (fun _ _ h=>ZKh h) e
 split at e
 ·rename_i h;subst h
  unfold Zhn at e
  split at e
  ·cases e
  ·injection e with e;subst e;rfl
 split at e
 ·rename_i h;subst h
  unfold ZhF at e
  split at e
  ·cases e
  ·injection e with e;subst e;rfl
 split at e
 ·unfold ZfN at e
  split at e
  ·cases e
  ·injection e with e;subst e;rfl
 split at e
 ·exact Zik (fun _ _ h=>ZtH h) e
 ·exact Zik (fun q r h=>by injection h with h;injection h with h _;subst h;rfl) e
theorem Zm5 (b:Int) (l:Zb):((Zbm b l).1=Zaj∧(Zbm b l).2≠0)∨((Zbm b l).2=0∧(Zbm b l).1.type=tyI b∧tyI b≠0):=by
 unfold Zbm
 split
 ·exact Or.inl ⟨rfl,by decide⟩
 rename_i h0
 split
 ·rename_i h3
  unfold ZeT
  split
  ·split
   ·split
    ·rename_i h;exact Or.inl ⟨rfl,ZL7 _ _ _ h⟩
    ·exact Or.inr ⟨rfl,h3.symm,h0⟩
   ·exact Or.inl ⟨rfl,by decide⟩
  ·exact Or.inl ⟨rfl,by decide⟩
 split
 ·split
  ·rename_i h;exact Or.inl ⟨rfl,Ztp _ _ _ h⟩
  ·rename_i h;exact Or.inr ⟨rfl,ZFT h,h0⟩
 ·exact Or.inl ⟨rfl,by decide⟩
theorem Zq6 {p:Zn} (h:ZeZ p):p.type=tyI (Za0 p)∧p.type≠0:=by
 rcases Zm5 (Za0 p) (ZaI p) with ⟨_,h2⟩ | ⟨_,h1,h2⟩
 ·rw [h.2] at h2;exact absurd rfl h2
 ·rw [h.2] at h1;exact ⟨h1,by rw [h1];exact h2⟩
theorem Zim {n:Nat} {l r s:Zb} {a:Int} (h:Zav n l=.ok (a,r)):Zav n (l++s)=.ok (a,r++s):=by
 unfold Zav at h ⊢
 split at h
 ·cases h
 ·rename_i hl
  injection h with h;injection h with e1 e2;subst e1 e2
  rw [if_neg (by rw [List.length_append];omega),List.take_append_of_le_length (by omega),List.drop_append_of_le_length (by omega)]
theorem ZtL (b s:Zb) (h:(Zas b).2.2=0):Zas (b++s)=Zas b∧(Zas b).2.1≤b.length:=by
 unfold Zas at h ⊢
 split at h
 ·simp at h
 ·rename_i hn
  have ht:(b++s).take 2=b.take 2:=List.take_append_of_le_length (by omega)
  rw [ht,if_neg hn,if_neg (by rw [List.length_append];omega),List.drop_append_of_le_length (by omega),List.take_append_of_le_length (by rw [List.length_drop];omega)]
  exact ⟨rfl,by simp only;omega⟩
theorem ZwS (b s:Zb) (h:(Z1 b).2.2=0):Z1 (b++s)=Z1 b∧(Z1 b).2.1≤b.length:=by
 have hd:(Zas b).2.2=0:=by
  unfold Z1 at h
  split at h
  ·rename_i h1;exact absurd h h1
  ·rename_i h1;exact Classical.byContradiction h1
 obtain ⟨e1,e2⟩:=ZtL b s hd
 unfold Z1 at h ⊢
 rw [e1]
 refine ⟨rfl,?_⟩
 split
 ·simp
 split
 ·exact e2
 ·simp
theorem Zko {l r s a:Zb} (h:Zai l=.ok (a,r)):Zai (l++s)=.ok (a,r++s):=by
 unfold Zai at h ⊢
 split at h
 ·rename_i h0
  obtain ⟨e1,e2⟩:=ZwS l s h0
  injection h with h;injection h with h1 h2;subst h1 h2
  rw [e1,if_pos h0,List.drop_append_of_le_length e2]
 ·cases h
theorem Zuo {l r s a:Zb} (h:Zcf l=.ok (a,r)):Zcf (l++s)=.ok (a,r++s):=by
 unfold Zcf at h ⊢
 split at h
 ·rename_i h0
  obtain ⟨e1,e2⟩:=ZtL l s h0
  injection h with h;injection h with h1 h2;subst h1 h2
  rw [e1,if_pos h0,List.drop_append_of_le_length e2]
 ·cases h
theorem ZnH {w:Int} {l r s:Zb} {a:List Zt} (h:Zbr w l=.ok (a,r)):Zbr w (l++s)=.ok (a,r++s):=by
 unfold Zbr at h ⊢
 split at h
 ·rename_i h0
  have e1:=Zv4 w l s h0
  injection h with h;injection h with h1 h2;subst h1 h2
  rw [e1,if_pos h0,List.drop_append_of_le_length (ZcQ w l)]
 ·cases h
theorem ZF5 {k:Int} {l r s:Zb} {a:Int} (h:Zau k l=.ok (a,r)):Zau k (l++s)=.ok (a,r++s):=by
 unfold Zau at h ⊢
 split at h
 ·rename_i h1
  rw [Zim h1]
  simp only
  split at h
  ·rename_i h2
   rw [if_pos h2]
   injection h with h;injection h with e1 e2;subst e1 e2;rfl
  ·cases h
 ·cases h
theorem ZC6 {q q':Zn} {l r s:Zb} (h:Zdt q l=.ok (q',r)):Zdt q (l++s)=.ok (q',r++s):=by
 unfold Zdt at h ⊢
 split at h
 ·cases h
 rename_i h1
 rw [Zim h1]
 simp only
 split at h
 case isFalse=>cases h
 rename_i h2
 rw [if_pos h2]
 split at h
 ·cases h
 rename_i h3
 rw [ZF5 h3]
 simp only
 split at h
 ·cases h
 rename_i h4
 rw [ZnH h4]
 simp only
 injection h with h;injection h with e1 e2;subst e1 e2;rfl
theorem ZHC {b:Bool} {q q':Zn} {l r s:Zb} (h:ZdE b q l=.ok (q',r)):ZdE b q (l++s)=.ok (q',r++s):=by
 unfold ZdE at h ⊢
 split at h
 ·rename_i hb
  rw [if_pos hb]
  split at h
  ·cases h
  rename_i h1
  rw [Zuo h1]
  injection h with h;injection h with e1 e2;subst e1 e2;rfl
 ·rename_i hb
  rw [if_neg hb]
  injection h with h;injection h with e1 e2;subst e1 e2;rfl
theorem ZGQ {b:Bool} {q q':Zn} {l r s:Zb} (h:Zc7 b q l=.ok (q',r)):Zc7 b q (l++s)=.ok (q',r++s):=by
 unfold Zc7 at h ⊢
 split at h
 ·rename_i hb
  rw [if_pos hb]
  split at h
  ·cases h
  rename_i h1
  rw [Zko h1]
  injection h with h;injection h with e1 e2;subst e1 e2;rfl
 ·rename_i hb
  rw [if_neg hb]
  injection h with h;injection h with e1 e2;subst e1 e2;rfl
theorem Zys {b:Bool} {q q':Zn} {l r s:Zb} (h:Zdb b q l=.ok (q',r)):Zdb b q (l++s)=.ok (q',r++s):=by
 unfold Zdb at h ⊢
 split at h
 ·rename_i hb
  rw [if_pos hb]
  split at h
  ·cases h
  rename_i ps tp d r' h1
  have e:ZcE (l++s)=.ok (ps,tp,d,r'++s):=by
   unfold ZcE at h1 ⊢
   split at h1
   ·cases h1
   rename_i k1
   rw [ZnH k1]
   simp only
   split at h1
   ·cases h1
   rename_i k2
   rw [Zko k2]
   simp only
   split at h1
   ·cases h1
   rename_i k3
   rw [Zuo k3]
   injection h1 with h1;injection h1 with e1 h1;injection h1 with e2 h1;injection h1 with e3 e4;subst e1 e2 e3 e4;rfl
  rw [e]
  injection h with h;injection h with e1 e2;subst e1 e2;rfl
 ·rename_i hb
  rw [if_neg hb]
  injection h with h;injection h with e1 e2;subst e1 e2;rfl
theorem ZGe {q q':Zn} {l r s:Zb} (h:ZcR q l=.ok (q',r)):ZcR q (l++s)=.ok (q',r++s):=by
 unfold ZcR at h ⊢
 split at h
 ·cases h
 rename_i h1
 rw [Zko h1]
 simp only
 split at h
 case isFalse=>cases h
 rename_i c1
 rw [if_pos c1]
 split at h
 ·cases h
 rename_i h2
 rw [Zim h2]
 simp only
 split at h
 case isFalse=>cases h
 rename_i c2
 rw [if_pos c2]
 split at h
 ·cases h
 rename_i h3
 rw [Zim h3]
 simp only
 split at h
 case isFalse=>cases h
 rename_i c3
 rw [if_pos c3]
 unfold Zfx at h ⊢
 split at h
 ·cases h
 rename_i h4
 rw [Zim h4]
 simp only
 split at h
 ·cases h
 rename_i h5
 rw [ZnH h5]
 simp only
 split at h
 ·cases h
 rename_i h6
 rw [Zko h6]
 simp only
 unfold Zfk at h ⊢
 split at h
 ·cases h
 rename_i h7
 rw [Zys h7]
 simp only
 split at h
 ·cases h
 rename_i h8
 rw [ZGQ h8]
 simp only
 exact ZHC h
theorem Zvx {x:Except Int (Zn×Zb)} {q:Zn} (h:ZbR x=.ok q):∃ r:Zb,x=.ok (q,r)∧r.length=0:=by
 unfold ZbR at h
 split at h
 ·cases h
 ·split at h
  ·rename_i hr
   injection h with h;subst h
   exact ⟨_,rfl,hr⟩
  ·cases h
theorem Zly {q:Zn} {r:Zb} (h:r.length≠0):ZbR (.ok (q,r))=.error 129:=by
 unfold ZbR
 exact if_neg h
def Zkc (t:Int):Prop:=t=1∨t=2∨t=12∨t=13
theorem ZJF {t:Int} (ht:Zkc t) {l s:Zb} {q:Zn} (h:Zcn t l=.ok q) (hs:s.length≠0):Zcn t (l++s)=.error 129:=by
 unfold Zcn at h ⊢
 rcases ht with rfl | rfl | rfl | rfl
 ·rw [if_pos rfl] at h ⊢
  obtain ⟨r,e1,e2⟩:=Zvx h
  rw [ZGe e1]
  exact Zly (by rw [List.length_append];omega)
 ·rw [if_neg (by decide),if_pos rfl] at h ⊢
  obtain ⟨r,e1,e2⟩:=Zvx h
  rw [ZC6 e1]
  exact Zly (by rw [List.length_append];omega)
 ·exact Zly (by rw [List.length_append];omega)
 ·exact Zly (by rw [List.length_append];omega)
theorem ZGV {b:Int} {l:Zb} {q:Zn} (h:Zbm b l=(q,0)) (h3:tyI b≠3):Zcn (tyI b) l=.ok q∧tyI b≠0∧Zbl b 15=Zdq (tyI b):=by
 have ho:=Zm5 b l
 unfold Zbm at h ho
 split at h
 ·injection h with _ h;cases h
 rename_i h0
 rw [if_neg h0] at ho
 simp only [if_neg h3] at ho h
 split at h
 ·rename_i hf
  refine ⟨?_,h0,hf⟩
  rw [if_pos hf] at ho
  cases hb:Zcn (tyI b) l with
  | error e =>
   rw [hb] at h ho
   simp only at h ho
   injection h with e1 e2
   subst e2
   rcases ho with ⟨_,h2⟩ | ⟨_,h2,h4⟩
   ·exact absurd rfl h2
   ·rw [←h2] at h4;exact absurd rfl h4
  | ok q' =>
   rw [hb] at h
   injection h with e1 _
   rw [e1]
 ·injection h with _ h;cases h
theorem ZwV {b:Int} (h0:tyI b≠0) (h3:tyI b≠3) (hf:Zbl b 15=Zdq (tyI b)) (l:Zb):Zbm b l=match Zcn (tyI b) l with
  | .error e=>(Zaj,e)
  | .ok q=>(q,0):=by
 unfold Zbm
 rw [if_neg h0,if_neg h3,if_pos hf]
 all_goals rfl
theorem ZzV {p:Zn} (h:ZeZ p) (ht:Zkc p.type) {n:Nat} (hn:n < (ZaI p).length):(Zbm (Za0 p) ((ZaI p).take n)).2≠0:=by
 obtain ⟨t1,_⟩:=Zq6 h
 rw [t1] at ht
 have h3:tyI (Za0 p)≠3:=by rcases ht with h | h | h | h <;> rw [h] <;> decide
 obtain ⟨b1,b2,b3⟩:=ZGV h.2 h3
 rw [ZwV b2 h3 b3]
 cases hb:Zcn (tyI (Za0 p)) ((ZaI p).take n) with
 | error e=>exact Ztp _ _ _ hb
 | ok q =>
  have:=ZJF ht hb (s:=(ZaI p).drop n) (by rw [List.length_drop];omega)
  rw [List.take_append_drop,b1] at this
  cases this
end Go.Proofs.YtmlkhhidifjjfaaDoor
namespace Go.Proofs.YtmlkhhidifjjfaaDoor
set_option maxHeartbeats 16000000
set_option maxRecDepth 10000
theorem ZOr:E 36 [ZZ Zaj,ZZ Zaj] []=some (.bool true,[]):=by
 have h1:ZZ Zaj=.agg [.int .i64 0,.bool false,.int .i64 0,.bool false,.int .i64 0,.str [],.lst false [],.int .i64 0,.lst false [],.lst false [],.lst false [],.lst false [],.bool false,.int .i64 0,.str [],.bool false,.str [],.lst false [],.int .i64 0,.bool false,.lst false [],.bool false,.str [],.bool false,.lst false [],.bool false]:=rfl
 rw [h1]
 have hb:bytesOf []=some []:=rfl
 have zl:¬(((0:Nat):Int) < ((0:Nat):Int)):=by omega
 have zl2:¬((0:Int) < ((0:Nat):Int)):=by omega
 have zn:(((0:Nat):Int) != ((0:Nat):Int))=false:=rfl
 have hps:∀ (σ:Za) (site own:Nat),Zj E BY σ site 72 own true [.lst false [],.lst false []]=some (.bool true,σ,{}):=fun σ site own=>ZAL σ site own true [] [] (by decide)
 rw [Zh (by rfl) ZG9]
 simp -implicitDefEqProofs only [EQA,Z2,Zb1,Nat.reduceAdd,Nat.reduceLT,Nat.reduceEqDiff,Nat.reduceBEq,Zdw,unA,ZE,unG,ne_eq,Option.some.injEq,reduceCtorEq,decide_false,Z0,↓reduceIte,gcT,gcA,ZB,Zz,Zm,Zv,ZY,Zo,ZQ,ZF,ZJ,List.contains_cons,ZMW,ZpL,oI,AVal.cells,hb,zn,hps,bne_self_eq_false]
 rw [Z5]
 simp -implicitDefEqProofs only [EQA,Z2,Zb1,Nat.reduceAdd,Nat.reduceLT,Nat.reduceEqDiff,Nat.reduceBEq,ne_eq,reduceCtorEq,decide_false,↓reduceIte,gcT,gcA,ZB,Zz,Zm,Zv,ZY,Zo,ZQ,ZF,ZJ,List.contains_cons,ZxR,Zo9,ZEA,Zmx,oI,zl2]
 rw [Z5]
 simp -implicitDefEqProofs only [EQA,Z2,Zb1,Nat.reduceAdd,Nat.reduceLT,Nat.reduceEqDiff,Nat.reduceBEq,ne_eq,reduceCtorEq,decide_false,↓reduceIte,gcT,gcA,ZB,Zz,Zm,Zv,ZY,Zo,ZQ,ZF,ZJ,List.contains_cons,ZGv,ZpB,Zyz,Znz,oI,zl2]
 rw [Z5]
 simp -implicitDefEqProofs only [EQA,Nat.reduceAdd,Nat.reduceLT,Nat.reduceLeDiff,Nat.reduceEqDiff,Nat.reduceBEq,Zdw,ZE,unG,ne_eq,Option.some.injEq,decide_false,Z0,↓reduceIte,List.contains_cons,ZBq,ZzS,ZoN,ZKD,Zqw,oI,oN,AVal.cells,hb,zl2,hps,ZT,Zae,Zaf,Zam,Zao,Zar,Zah,List.lookup_nil]
end Go.Proofs.YtmlkhhidifjjfaaDoor
namespace Go.Proofs.YtmlkhhidifjjfaaDoor
set_option maxHeartbeats 16000000
set_option maxRecDepth 10000
theorem ZLs (n:Int) (m:Nat) (hm:m≤4611686018427387904):∃ k:Nat,k≤m∧E 39 [.int .i64 n,.int .i64 0,.int .i64 (m:Nat)] []=some (.int .i64 (k:Nat),[]):=by
 rw [Zh (by rfl) Zzo]
 have w1:IntKind.i64.wrap ((m:Nat) - 0)=((m:Nat):Int):=by rw [Int.sub_zero];exact ZbL (by omega) (by omega)
 have w2:IntKind.i64.wrap (((m:Nat):Int)+1)=((m+1:Nat):Int):=by rw [show ((m:Nat):Int)+1=((m+1:Nat):Int) from by omega];exact ZbL (by omega) (by omega)
 have w3:(((m+1:Nat):Int)=0)=False:=by simp;omega
 have hb:n.tmod ((m+1:Nat):Int) < ((m+1:Nat):Int):=Int.tmod_lt_of_pos _ (by omega)
 have hl:-((m+1:Nat):Int) < n.tmod ((m+1:Nat):Int):=by
  have h1:=Int.tmod_lt_of_pos (-n) (b:=((m+1:Nat):Int)) (by omega)
  rw [Int.neg_tmod] at h1
  omega
 by_cases h:n.tmod ((m+1:Nat):Int) < 0
 ·have w4:IntKind.i64.wrap (n.tmod ((m+1:Nat):Int)+((m+1:Nat):Int))=(((n.tmod ((m+1:Nat):Int)+((m+1:Nat):Int)).toNat:Nat):Int):=by
   rw [Zci _ (by omega) (by omega)];omega
  have w5:IntKind.i64.wrap (0+(((n.tmod ((m+1:Nat):Int)+((m+1:Nat):Int)).toNat:Nat):Int))=(((n.tmod ((m+1:Nat):Int)+((m+1:Nat):Int)).toNat:Nat):Int):=by
   rw [Int.zero_add];exact ZbL (by omega) (by omega)
  refine ⟨(n.tmod ((m+1:Nat):Int)+((m+1:Nat):Int)).toNat,by omega,?_⟩
  simp -implicitDefEqProofs only [EQA,Zb1,Nat.reduceAdd,Nat.reduceLT,Nat.reduceEqDiff,reduceCtorEq,decide_true,↓reduceIte,Zrf,Zln,Zvc,oI,w1,w2,w3,h,w4,w5]
 ·have w5:IntKind.i64.wrap (0+n.tmod ((m+1:Nat):Int))=(((n.tmod ((m+1:Nat):Int)).toNat:Nat):Int):=by
   rw [Int.zero_add,Zci _ (by omega) (by omega)];omega
  refine ⟨(n.tmod ((m+1:Nat):Int)).toNat,by omega,?_⟩
  simp -implicitDefEqProofs only [EQA,Zb1,Nat.reduceAdd,Nat.reduceLT,Nat.reduceEqDiff,reduceCtorEq,decide_false,↓reduceIte,Zrf,Zln,Zvc,oI,w1,w2,w3,h,w5]
theorem ZMG (n:Int) (m:Nat) (hm:m≤4611686018427387904):∃ k:Nat,k≤m∧∀ (σ:Za) (site own:Nat),Zj E1 BY σ site 39 own true [.int .i64 n,.int .i64 0,.int .i64 (m:Nat)]=some (.int .i64 (k:Nat),σ,{}):=by
 obtain ⟨k,hk,he⟩:=ZLs n m hm
 exact ⟨k,hk,fun σ site own=>ZbD (Zb6 he (by kernel_rfl) rfl rfl rfl (fun _=>rfl) σ site own true)⟩
def Zl3 (t:Int):Prop:=t=3∨t=4∨t=5∨t=6∨t=7∨t=14∨t=15∨t=8∨t=10∨t=9∨t=11
theorem ZDp {p:Zn} (h:ZeZ p) {n:Nat} (hn:n < (ZaI p).length):((Zbm (Za0 p) ((ZaI p).take n)).1=Zaj∧(Zbm (Za0 p) ((ZaI p).take n)).2≠0)∨((Zbm (Za0 p) ((ZaI p).take n)).2=0∧(Zbm (Za0 p) ((ZaI p).take n)).1.type=p.type∧Zl3 p.type):=by
 obtain ⟨t1,t2⟩:=Zq6 h
 rcases Zm5 (Za0 p) ((ZaI p).take n) with h1 | ⟨h1,h2,h3⟩
 ·exact Or.inl h1
 ·refine Or.inr ⟨h1,by rw [h2,t1],?_⟩
  have hs:¬Zkc p.type:=fun hs=>ZzV h hs hn h1
  have hr:=Zu3 (Za0 p) (ZjH p)
  rw [←t1] at hr
  unfold Zkc at hs
  unfold Zl3
  omega
theorem Zxo (args:List AVal) (hp:args.all Zab=true) (hn:args.map ZG=[ZZ Zaj,ZZ Zaj]) (σ:Za) (site own:Nat):Zj E1 BY σ site 36 own true args=some (.bool true,σ,{}) :=
 ZbD (Zbu ZOr (by kernel_rfl) hp hn rfl (fun _=>rfl) σ site own)
theorem ZIu (p:Zn) (at0:Int) (hp:OkW (ZaU p)):E1 6 [ZZ p,.int .i64 at0] []=some (.bool true,[]):=by
 have fp:=ZNB p
 have fw:=fun σ site own=>ZAl σ site own true
 have fn:=fun σ site own e=>ZbD (Zs3 σ site own true e)
 have yp:=ZIk p
 have ty:(ZaU p).type=p.type:=rfl
 rw [Zbo]
 have e0:=ZbP p
 have e1:=Zcj p
 have pa:=ZGt (ZaU p) hp yp (ZaU p)
 have c0:(Zu (ZaU p))[0]?=some (.int .i64 p.type):=rfl
 generalize hA:ZaU p=a at *
 have a0:=ZbP a
 have a1:=Zcj a
 have ao:(Zu a).all ZT=true:=rfl
 by_cases ga:ZeZ a
 ·have fF:=ZF7 a hp yp ga [.agg (Zu a)] pa.1 pa.2
  have hx:Zc (Zkl a)=.int .u8 (Za0 a):=by rw [←Zrm];rfl
  unfold ZiW at fF
  rw [hx] at fF
  have hL:((ZaI a).map Zc).length=(ZaI a).length:=by simp
  by_cases h0:(ZaI a).length=0
  ·have z0:((((ZaI a).length:Nat):Int) == 0)=true:=by simpa using h0
   clear pa
   generalize Zu a=A at *
   generalize Zu p=P at *
   generalize (ZaI a).map Zc=B at *
   rw [Zbj (by rfl) Zjz]
   simp -implicitDefEqProofs only [EQA,Nat.reduceAdd,Nat.reduceLT,Nat.reduceLeDiff,Nat.reduceEqDiff,Nat.reduceBEq,ZE,unG,ne_eq,Option.some.injEq,reduceCtorEq,decide_false,↓reduceIte,Zk6,ZgV,Zjj,oI,oN,AVal.cells,ZT,e0,e1,fp,fF,fw,fn,hL,z0,bne_self_eq_false]
  ·have z0:((((ZaI a).length:Nat):Int) == 0)=false:=by simpa using h0
   obtain ⟨m,hm⟩:∃ m,(ZaI a).length=m+1:=⟨(ZaI a).length - 1,by omega⟩
   have hB:=ga.1
   have w1:IntKind.i64.wrap (((ZaI a).length:Nat) - 1)=((m:Nat):Int):=by
    rw [show (((ZaI a).length:Nat):Int) - 1=((m:Nat):Int) from by omega];exact ZbL (by omega) (by omega)
   obtain ⟨k,hk,fk⟩:=ZMG at0 m (by omega)
   have sl:=fun σ=>Zgu σ 1 (ZaI a) Zc .i64 ((k:Nat):Int) (by omega) (by omega)
   rw [Int.toNat_natCast] at sl
   have fR:=fun σ site own=>Zpv (Za0 a) (ZjH a) ((ZaI a).take k) (by rw [List.length_take];omega) false σ site own
   have hs:=ZDp ga (n:=k) (by omega)
   have fz:=Zxo [.agg (Zu Zaj),.agg [.int .i64 0,.bool false,.int .i64 0,.bool false,.int .i64 0,.str [],.lst true [],.int .i64 0,.lst true [],.lst true [],.lst true [],.lst true [],.bool false,.int .i64 0,.str [],.bool false,.str [],.lst true [],.int .i64 0,.bool false,.lst true [],.bool false,.str [],.bool false,.lst true [],.bool false]] rfl rfl
   have hnz:(Zu Zaj).all ZT=true:=rfl
   have lz:=ZbP Zaj
   have lt:=Zcj Zaj
   rcases hs with ⟨hs1,hs2⟩ | ⟨hs1,hs2,hs3⟩
   ·rw [hs1,Zbo] at fR
    generalize (Zbm (Za0 a) ((ZaI a).take k)).2=c at *
    have cz:(c != 0)=true:=by simpa using hs2
    clear pa
    generalize Zu Zaj=Z at *
    generalize Zu a=A at *
    generalize Zu p=P at *
    generalize Za0 a=x at *
    generalize hBB:(ZaI a).map Zc=B at *
    generalize ((ZaI a).take k).map Zc=B2 at *
    rw [Zbj (by rfl) Zjz]
    simp -implicitDefEqProofs only [EQA,Za6,Nat.reduceAdd,Nat.reduceLT,Nat.reduceLeDiff,Nat.reduceEqDiff,Nat.reduceBEq,ZE,unG,ne_eq,Option.some.injEq,reduceCtorEq,decide_false,↓reduceIte,List.contains_cons,Zk6,ZgV,Zjj,oI,oN,AVal.cells,Zal,ZT,e0,e1,fp,fF,fw,fn,hL,z0,w1,fk,sl,fR,fz,hnz,lz,lt,cz,bne_self_eq_false,Zae,Zaf,Zam,Zao,Zar,Zah,List.lookup_nil]
   ·rw [hs1] at fR
    have q0:(Zu (Zbm (Za0 a) ((ZaI a).take k)).1)[0]?=some (.int .i64 a.type):=by rw [←hs2];rfl
    rw [ty] at q0 hs3
    generalize (Zbm (Za0 a) ((ZaI a).take k)).1=q at *
    rw [Zbo] at fR
    have l0:=ZbP q
    have l1:=Zcj q
    have lo:(Zu q).all ZT=true:=rfl
    have tt:∀ z:Int,(z == z)=true:=fun z=>by simp
    clear pa fz
    generalize Zu q=Q at *
    generalize Zu a=A at *
    generalize Zu p=P at *
    generalize Za0 a=x at *
    generalize hBB:(ZaI a).map Zc=B at *
    generalize ((ZaI a).take k).map Zc=B2 at *
    rw [Zbj (by rfl) Zjz]
    generalize p.type=tp at *
    unfold Zl3 at hs3
    rcases hs3 with rfl | rfl | rfl | rfl | rfl | rfl | rfl | rfl | rfl | rfl | rfl
    all_goals simp -implicitDefEqProofs only [EQA,Za6,Nat.reduceAdd,Nat.reduceLT,Nat.reduceLeDiff,Nat.reduceEqDiff,Nat.reduceBEq,ZE,unG,ne_eq,Option.some.injEq,reduceCtorEq,decide_false,↓reduceIte,List.contains_cons,Zk6,ZgV,Zjj,oI,oN,AVal.cells,Zal,ZT,e0,e1,c0,fp,fF,fw,fn,hL,z0,w1,fk,sl,fR,q0,l0,lo,Int.reduceBEq,bne_self_eq_false,Zae,Zaf,Zam,Zao,Zar,Zah,List.lookup_nil]
 ·have fF:=ZMl a hp yp ga [.agg (Zu a)] pa.1 pa.2
  unfold Zqj at fF
  clear pa
  generalize Zu a=A at *
  generalize Zu p=P at *
  rw [Zbj (by rfl) Zjz]
  simp -implicitDefEqProofs only [EQA,Nat.reduceAdd,Nat.reduceLT,Nat.reduceLeDiff,Nat.reduceEqDiff,Nat.reduceBEq,ZE,Zaq,ne_eq,Option.some.injEq,reduceCtorEq,decide_false,↓reduceIte,Zk6,ZgV,Zjj,oI,oN,AVal.cells,ZT,e0,e1,fp,fF,fw,fn,Int.reduceBNe]
end Go.Proofs.YtmlkhhidifjjfaaDoor
namespace Go.Proofs.YtmlkhhidifjjfaaDoor
open Go.Shelf Go.RowKit
section
variable {P:Program} {ρ:Ren}
theorem Zj8 (W:World) (dT sT ty elem:TypeId) (g o dLen dCap:Nat) (A:Option Addr) (sLen sCap:Nat) (cur:Array Value) (t:TypeId) (cs:List Value)
  (hu:P.underlying dT=some (.slice elem)) (hs:(P.info? elem).map (·.size)=some 1) (hg:W.heap[g]?=some (.cells cur t (0,0))) (hn:cs.length=sLen) (hd:sLen≤dLen)
  (hsrc:sLen=0∨∃ a,A=some a∧∀ j v,cs[j]?=some v→W.cell? (a.add j)=some v) (hfit:o+cs.length≤cur.size) (h1:∀ v ∈ cs,v.oneCell'=true) :
  ∃ W2 Y,(Builtin.copy_ #[dT,sT] ty #[.slice (some ⟨g,o,none⟩) dLen dCap,.slice A sLen sCap]).run P W=.ok (goInt sLen) W2∧W2.heap[g]?=some (.cells Y t (0,0)) ∧
   Y.toList=cur.toList.take o++cs++cur.toList.drop (o+sLen)∧W.grownBy W2 (some g)∧W2.heap.size=W.heap.size:=by
 rcases hsrc with h0 | ⟨a,rfl,hsrc⟩
 ·have hc:cs=[]:=List.eq_nil_of_length_eq_zero (by omega)
  subst hc
  subst h0
  exact ⟨W,cur,run_copy_none W dT sT ty elem _ _ _ _ _ _ hu hs (by simp),hg,by simp,⟨rfl,rfl,rfl,Nat.le_refl _,fun _ _ _=>rfl⟩,rfl⟩
 ·have h:=run_copy_row (P:=P) W dT sT ty elem g o dLen dCap a sLen sCap cur t cs hu hs hg (by rw [hn];exact (Nat.min_eq_left hd).symm) hsrc hfit h1
  rw [hn] at h
  refine ⟨_,_,h,setRow_heap _ _ _ _ _ _ hg,by simp,⟨rfl,rfl,rfl,by simp,fun k _ hk=>setRow_other _ _ _ _ (fun e=>hk (by rw [e]))⟩,by simp⟩
set_option maxHeartbeats 6400000 in
set_option maxRecDepth 100000 in
theorem Zl5 (L:LaysM.n290 P ρ) (A:Option Addr) (l c n:Nat) (olds:List Value) (w:World) (ho:olds.length=l) (hlc:l≤c) (hn:1≤n)
  (hlim:l+n≤140737488355328) (hc2:c≤140737488355328) (hsrc:l=0∨∃ a,A=some a∧∀ j v,olds[j]?=some v→w.cell? (a.add j)=some v) (h1:∀ v ∈ olds,v.oneCell'=true) :
  Calls P (ρ.f 290) #[.slice A l c,.int .i64 n] w fun e w'=>∃ cap2 cells,e=.returned (.slice (some ⟨w.heap.size,0,none⟩) l cap2)∧w'.heap[w.heap.size]?=some (.cells cells (ρ.t 5) (0,0)) ∧
   cells.size=cap2∧cells.toList.take l=olds∧l+n≤cap2∧cap2≤maxLen∧Below w.heap.size w w':=by
 have mixed:=L.mixed
 have t5:=L.t5;have a5:=L.a5;have z5:=L.z5;have v5:=L.v5
 have t37:=L.t37;have a37:=L.a37;have z37:=L.z37;have v37:=L.v37
 have t3:=L.t3;have a3:=L.a3;have z3:=L.z3;have v3:=L.v3
 have t0:=L.t0;have a0:=L.a0;have z0:=L.z0;have v0:=L.v0
 have t4:=L.t4;have a4:=L.a4;have z4:=L.z4;have v4:=L.v4
 obtain ⟨i0,hi,hz0,hz1,hz2⟩:=info_parts L.i5
 have hsz1:(P.info? (ρ.t 5)).map (·.size)=some 1:=by rw [hi];simp [hz1]
 by_cases hC:l+n < 2*c
 ·have happ:=Lib.run_append_nil_zeros (P:=P) w (ρ.t 37) (ρ.t 3) (ρ.t 37) (ρ.t 5) i0 (.int .u8 0) .i64 .i64 L.t37 L.t3 hi hz0 (2*c) (by omega) (by omega) (by omega) (by rw [hz2];omega)
  rw [show (((2*c:Nat)):Int)=2*(c:Int) by omega] at happ
  generalize hcap:grownCap w (2*c) 0 (ρ.t 5)=cap2 at happ
  have hcapge:2*c≤cap2:=by rw [←hcap];exact grownCap_ge w _ 0 (ρ.t 5)
  have hcaple:cap2≤maxLen:=by rw [←hcap];exact grownCap_le_maxLen w _ 0 (ρ.t 5) (by unfold maxLen;omega)
  generalize hZ:(Builtin.zeroCells (Value.int .u8 0).cells (2*c)++Builtin.zeroCells (Value.int .u8 0).cells (cap2 - (2*c)))=Z at happ
  have hZs:Z.size=cap2:=by rw [←hZ];simp [size_zeroCells,Value.cells];omega
  clear hcap hZ
  have hsrc1:l=0∨∃ a,A=some a∧∀ j v,olds[j]?=some v→(w.alloc (.cells Z (ρ.t 5))).drew.cell? (a.add j)=some v:=hsrc.imp id fun ⟨a,e,h⟩=>⟨a,e,fun j v hj=>(World.cell?_of_block (a:=a.add j) (Below.heap_alloc w _ _ (World.block_lt_of_cell? w _ (h j v hj)))).trans (h j v hj)⟩
  obtain ⟨W2,Y,hcopy,hY,hYl,hgb,hsz⟩:=Zj8 (P:=P) (w.alloc (.cells Z (ρ.t 5))).drew (ρ.t 37) (ρ.t 37) (ρ.t 3) (ρ.t 5) w.heap.size 0 (2*c) cap2 A l c Z (ρ.t 5) olds L.t37 hsz1 (heap_alloc_new w _) ho (by omega) hsrc1 (by omega) h1
  go_enter_defers L.f290,Body.n290_ntmps ρ
  go_wp2_with (at_builtin;refine Lib.wpList_append_run _ rfl _ _ _ _ rfl _ _ rfl rfl _ _ happ ?_)
  refine leaves_cons (f:=(ρ.f 324)) (args:=#[]) (by simp) (enters_of L.f324 (by kernel_rfl) rfl _ _) ?_
  refine (Any.growSlice_catch_idle { L with } _).mono ?_
  rintro e u' w'' ⟨rfl,rfl,rfl⟩
  refine ⟨_,results_tmp rfl _ _ _,?_⟩
  refine ⟨cap2,Y,rfl,hY,?_,?_,by omega,hcaple,?_⟩
  ·have h3:=congrArg List.length hYl
   simp only [List.length_append,List.length_drop,List.take_zero,List.length_nil,Array.length_toList] at h3
   omega
  ·rw [hYl,List.take_zero,List.nil_append,List.take_append_of_le_length (by omega),List.take_of_length_le (by omega)]
  ·have hs1:(w.alloc (.cells Z (ρ.t 5))).drew.heap.size=w.heap.size+1:=by show (w.alloc (.cells Z (ρ.t 5))).heap.size=_;simp
   exact ⟨hgb.os,hgb.tape,hgb.output,by omega,fun k hk=>(hgb.block k (by omega) (fun e=>by injection e with e;omega)).trans (Below.heap_alloc w _ k hk)⟩
 ·have happ:=Lib.run_append_nil_zeros (P:=P) w (ρ.t 37) (ρ.t 3) (ρ.t 37) (ρ.t 5) i0 (.int .u8 0) .i64 .i64 L.t37 L.t3 hi hz0 (l+n) (by omega) (by omega) (by omega) (by rw [hz2];omega)
  rw [show (((l+n:Nat)):Int)=(l:Int)+(n:Int) by omega] at happ
  generalize hcap:grownCap w (l+n) 0 (ρ.t 5)=cap2 at happ
  have hcapge:l+n≤cap2:=by rw [←hcap];exact grownCap_ge w _ 0 (ρ.t 5)
  have hcaple:cap2≤maxLen:=by rw [←hcap];exact grownCap_le_maxLen w _ 0 (ρ.t 5) (by unfold maxLen;omega)
  generalize hZ:(Builtin.zeroCells (Value.int .u8 0).cells (l+n)++Builtin.zeroCells (Value.int .u8 0).cells (cap2 - (l+n)))=Z at happ
  have hZs:Z.size=cap2:=by rw [←hZ];simp [size_zeroCells,Value.cells];omega
  clear hcap hZ
  have hsrc1:l=0∨∃ a,A=some a∧∀ j v,olds[j]?=some v→(w.alloc (.cells Z (ρ.t 5))).drew.cell? (a.add j)=some v:=hsrc.imp id fun ⟨a,e,h⟩=>⟨a,e,fun j v hj=>(World.cell?_of_block (a:=a.add j) (Below.heap_alloc w _ _ (World.block_lt_of_cell? w _ (h j v hj)))).trans (h j v hj)⟩
  obtain ⟨W2,Y,hcopy,hY,hYl,hgb,hsz⟩:=Zj8 (P:=P) (w.alloc (.cells Z (ρ.t 5))).drew (ρ.t 37) (ρ.t 37) (ρ.t 3) (ρ.t 5) w.heap.size 0 (l+n) cap2 A l c Z (ρ.t 5) olds L.t37 hsz1 (heap_alloc_new w _) ho (by omega) hsrc1 (by omega) h1
  go_enter_defers L.f290,Body.n290_ntmps ρ
  go_wp2_with (at_builtin;refine Lib.wpList_append_run _ rfl _ _ _ _ rfl _ _ rfl rfl _ _ happ ?_)
  refine leaves_cons (f:=(ρ.f 324)) (args:=#[]) (by simp) (enters_of L.f324 (by kernel_rfl) rfl _ _) ?_
  refine (Any.growSlice_catch_idle { L with } _).mono ?_
  rintro e u' w'' ⟨rfl,rfl,rfl⟩
  refine ⟨_,results_tmp rfl _ _ _,?_⟩
  refine ⟨cap2,Y,rfl,hY,?_,?_,by omega,hcaple,?_⟩
  ·have h3:=congrArg List.length hYl
   simp only [List.length_append,List.length_drop,List.take_zero,List.length_nil,Array.length_toList] at h3
   omega
  ·rw [hYl,List.take_zero,List.nil_append,List.take_append_of_le_length (by omega),List.take_of_length_le (by omega)]
  ·have hs1:(w.alloc (.cells Z (ρ.t 5))).drew.heap.size=w.heap.size+1:=by show (w.alloc (.cells Z (ρ.t 5))).heap.size=_;simp
   exact ⟨hgb.os,hgb.tape,hgb.output,by omega,fun k hk=>(hgb.block k (by omega) (fun e=>by injection e with e;omega)).trans (Below.heap_alloc w _ k hk)⟩
set_option maxHeartbeats 2000000 in
set_option maxRecDepth 100000 in
theorem Zjl (L:LaysM.n181 P ρ) (b:Nat) (ao:Option Addr) (l cap:Nat) (w:World) (c0:w.cell? ⟨b,0,none⟩=some (.slice ao l cap)) (c1:w.cell? ⟨b,1,none⟩=some (.int .i64 0)) (hmax:l≤maxLen) :
  Calls P (ρ.f 181) #[.pointer (some ⟨b,0,none⟩)] w fun e w'=>e=.returned (.int .i64 l)∧∃ n,w'=w.drewN n:=by
 have mixed:=L.mixed
 have t5:=L.t5;have a5:=L.a5;have z5:=L.z5;have v5:=L.v5
 have t130:=L.t130;have a130:=L.a130;have z130:=L.z130;have v130:=L.v130
 have t3:=L.t3;have a3:=L.a3;have z3:=L.z3;have v3:=L.v3
 have t0:=L.t0;have a0:=L.a0;have z0:=L.z0;have v0:=L.v0
 have t93:=L.t93;have u93:=run_underlying L.t93;have a93:=L.a93;have z93:=L.z93;have v93:=L.v93
 have t37:=L.t37;have a37:=L.a37;have z37:=L.z37;have v37:=L.v37
 unfold maxLen at hmax
 go_enter L.f181,Body.n181_ntmps ρ
 go_wp2
 go_region_o
 all_goals (go_wp2;go_ret;exact ⟨by simp,1,rfl⟩)
def ZiM (w:World) (T:TypeId) (R:Nat→Option Value) (b l n:Nat) (olds:List Value) (lr:Int) (e:TypeId) (w':World):Prop :=
 ∃ cap2 cells,LibA.Three w' b 0 T R (.slice (some ⟨w.heap.size,0,none⟩) (l+n) cap2) (.int .i64 0) (.int .i8 lr)∧w'.heap[w.heap.size]?=some (.cells cells e (0,0)) ∧
  cells.size=cap2∧cells.toList.take l=olds∧l+n≤cap2∧cap2≤maxLen∧w.grownBy w' (some b)
theorem ZoM {w:World} {b:Nat} {T:TypeId} {R:Nat→Option Value} {x y z:Value} (h:LibA.Three w b 0 T R x y z) (v1 s:Value) :
  LibA.Three (((w.setCell ⟨b,0,none⟩ v1).setCell ⟨b,1,none⟩ (.int .i64 0)).setCell ⟨b,0,none⟩ s) b 0 T R s (.int .i64 0) z:=((h.set0 v1).set1 (.int .i64 0)).set0 s
end
end Go.Proofs.YtmlkhhidifjjfaaDoor
namespace Go.Proofs.YtmlkhhidifjjfaaDoor
open Go.Shelf Go.RowKit
section
variable {P:Program} {ρ:Ren}
set_option maxHeartbeats 12800000 in
set_option maxRecDepth 100000 in
theorem ZAp (L:LaysM.n252 P ρ) (T:TypeId) (R:Nat→Option Value) (b:Nat)  (n:Nat) (lr:Int) (w:World)
  (hbk:LibA.Three w b 0 T R (.slice none 0 0) (.int .i64 0) (.int .i8 lr)) (hn:1≤n) (h64:n≤64) :
  Calls P (ρ.f 252) #[.pointer (some ⟨b,0,none⟩),.int .i64 n] w fun e w'=>e=.returned (.int .i64 0)∧ZiM w T R b 0 n [] lr (ρ.t 5) w':=by
 have mixed:=L.mixed
 have t5:=L.t5;have a5:=L.a5;have z5:=L.z5;have v5:=L.v5
 have t130:=L.t130;have a130:=L.a130;have z130:=L.z130;have v130:=L.v130
 have t3:=L.t3;have a3:=L.a3;have z3:=L.z3;have v3:=L.v3
 have t4:=L.t4;have a4:=L.a4;have z4:=L.z4;have v4:=L.v4
 have t0:=L.t0;have a0:=L.a0;have z0:=L.z0;have v0:=L.v0
 have t93:=L.t93;have u93:=run_underlying L.t93;have a93:=L.a93;have z93:=L.z93;have v93:=L.v93
 have t131:=L.t131;have a131:=L.a131;have z131:=L.z131;have v131:=L.v131
 have t37:=L.t37;have a37:=L.a37;have z37:=L.z37;have v37:=L.v37
 have t75:=L.t75;have a75:=L.a75;have z75:=L.z75;have v75:=L.v75
 have e181:∀ args w,(callFunc (ρ.f 181) args).run P w=.ok (.enter (ρ.f 181) args) w:=enters_of L.f181 (by kernel_rfl) rfl
 have e251:∀ args w,(callFunc (ρ.f 251) args).run P w=.ok (.enter (ρ.f 251) args) w:=enters_of L.f251 (by kernel_rfl) rfl
 have e290:∀ args w,(callFunc (ρ.f 290) args).run P w=.ok (.enter (ρ.f 290) args) w:=enters_of L.f290 (by kernel_rfl) rfl
 have hnil:∀ W,(binOp .eql (ρ.t 37) (.slice none 0 0) (.slice none 0 0)).run P W=.ok (.bool true) W:=fun W=>Lib.run_eql_slice_nil_nil W _ _ L.t37
 obtain ⟨i0,hi,hz0,hz1,hz2⟩:=info_parts L.i5
 obtain ⟨M,hM⟩:∃ M,M=madeCells (Value.int .u8 0).cells ((64:Int).toNat*i0.size):=⟨_,rfl⟩
 have hMs:M.size=64:=by rw [hM,size_madeCells,hz1];rfl
 have hmk:∀ W:World,(Instr.makeSlice (ρ.t 37) (.int .i64 (n:Int)) (.int .i64 64)).run P W=.ok (.slice (some ⟨W.heap.size,0,none⟩) n 64) (W.alloc (.cells M (ρ.t 5))):=fun W=>by
  have h:=run_makeSlice (P:=P) W (ρ.t 37) (ρ.t 5) i0 (.int .u8 0) L.t37 hi hz0 .i64 .i64 (n:Int) 64 (by omega) (by omega) (by rw [hz1];decide) (by rw [hz2];decide) (by decide)
  rw [←hM] at h
  simpa using h
 clear hM
 go_enter L.f252,Body.n252_ntmps ρ
 go_wp2_with (go_at_fn (ρ.f 181);refine (Zjl { L with } b none 0 0 _ hbk.c0 hbk.c1 (by unfold maxLen;omega)).mono ?_)
 rintro e W0 ⟨rfl,k,hW0⟩
 have hbk0:LibA.Three W0 b 0 T R (.slice none 0 0) (.int .i64 0) (.int .i8 lr):=by rw [hW0];exact hbk
 have c0:W0.cell? ⟨b,0,none⟩=some (.slice none 0 0):=hbk0.c0
 have c1:W0.cell? ⟨b,1,none⟩=some (.int .i64 0):=hbk0.c1
 have f0:W0.frozen? ⟨b,0,none⟩=false:=hbk0.f 0
 have f1:W0.frozen? ⟨b,1,none⟩=false:=hbk0.f 1
 have hbW0:=hbk0.lt
 have c0a:∀ o,(W0.alloc o).cell? ⟨b,0,none⟩=some (.slice none 0 0):=fun o=>(World.cell?_of_block (a:=⟨b,0,none⟩) (Below.heap_alloc W0 o b hbW0)).trans c0
 have f0a:∀ o,(W0.alloc o).frozen? ⟨b,0,none⟩=false:=fun o=>(World.frozen?_of_block (a:=⟨b,0,none⟩) (Below.heap_alloc W0 o b hbW0)).trans f0
 have HW0:=Lib.hid hW0
 clear hW0
 go_wp2_with (go_at_fn (ρ.f 251);refine (Any.Buffer_tryGrow_none_at { L with } b 0 _ 0 0 n _ c0 (Nat.le_refl _) (Nat.zero_le _) (by omega)).mono ?_;rintro e w' ⟨rfl,rfl⟩)
 go_ret
 have hsz0:w'.heap.size=w.heap.size:=by rw [HW0.out];rfl
 have hg0:w.grownBy w' (some b):=by rw [HW0.out];exact ⟨rfl,rfl,rfl,Nat.le_refl _,fun _ _ _=>rfl⟩
 have hszc:(w'.setCell ⟨b,0,none⟩ (.slice (some ⟨w'.heap.size,0,none⟩) n 64)).heap.size=w'.heap.size:=by simp [World.setCell]
 refine ⟨rfl,64,M,?_,?_,hMs,by simp,by omega,by unfold maxLen;omega,Lib.grownBy_allocR (Lib.grownBy_setB hg0 0 _) _⟩
 ·rw [Nat.zero_add,←hsz0]
  exact (hbk0.set0 (.slice (some ⟨w'.heap.size,0,none⟩) n 64)).of_heap (Below.heap_alloc _ _ b (by rw [hszc];exact hbW0))
 ·have h:=heap_alloc_new (w'.setCell ⟨b,0,none⟩ (.slice (some ⟨w'.heap.size,0,none⟩) n 64)) (.cells M (ρ.t 5))
  rw [hszc] at h
  rw [←hsz0]
  exact h
set_option maxHeartbeats 12800000 in
set_option maxRecDepth 100000 in
theorem ZAQ (L : LaysM.n252 P ρ) (T : TypeId) (R : Nat → Option Value) (b : Nat)  (n : Nat) (lr : Int) (w : World)
    (hbk : LibA.Three w b 0 T R (.slice none 0 0) (.int .i64 0) (.int .i8 lr)) (h64 : 64 < n) (hlim : n ≤ 70368744177664) :
    Calls P (ρ.f 252) #[.pointer (some ⟨b, 0, none⟩), .int .i64 n] w fun e w' => e = .returned (.int .i64 0) ∧ ZiM w T R b 0 n [] lr (ρ.t 5) w' := by
  have mixed := L.mixed
  have t5 := L.t5; have a5 := L.a5; have z5 := L.z5; have v5 := L.v5
  have t130 := L.t130; have a130 := L.a130; have z130 := L.z130; have v130 := L.v130
  have t3 := L.t3; have a3 := L.a3; have z3 := L.z3; have v3 := L.v3
  have t4 := L.t4; have a4 := L.a4; have z4 := L.z4; have v4 := L.v4
  have t0 := L.t0; have a0 := L.a0; have z0 := L.z0; have v0 := L.v0
  have t93 := L.t93; have u93 := run_underlying L.t93; have a93 := L.a93; have z93 := L.z93; have v93 := L.v93
  have t131 := L.t131; have a131 := L.a131; have z131 := L.z131; have v131 := L.v131
  have t37 := L.t37; have a37 := L.a37; have z37 := L.z37; have v37 := L.v37
  have t75 := L.t75; have a75 := L.a75; have z75 := L.z75; have v75 := L.v75
  have e181 : ∀ args w, (callFunc (ρ.f 181) args).run P w = .ok (.enter (ρ.f 181) args) w := enters_of L.f181 (by kernel_rfl) rfl
  have e251 : ∀ args w, (callFunc (ρ.f 251) args).run P w = .ok (.enter (ρ.f 251) args) w := enters_of L.f251 (by kernel_rfl) rfl
  have e290 : ∀ args w, (callFunc (ρ.f 290) args).run P w = .ok (.enter (ρ.f 290) args) w := enters_of L.f290 (by kernel_rfl) rfl
  have hnil : ∀ W, (binOp .eql (ρ.t 37) (.slice none 0 0) (.slice none 0 0)).run P W = .ok (.bool true) W := fun W => Lib.run_eql_slice_nil_nil W _ _ L.t37
  have hc2 : 0 ≤ 140737488355328 := by omega
  have hcm' : 0 ≤ maxLen := by unfold maxLen; omega
  go_enter L.f252, Body.n252_ntmps ρ
  go_wp2_with (go_at_fn (ρ.f 181); refine (Zjl { L with } b none 0 0 _ hbk.c0 hbk.c1 (by unfold maxLen; omega)).mono ?_)
  rintro e W0 ⟨rfl, k, hW0⟩
  have hbk0 : LibA.Three W0 b 0 T R (.slice none 0 0) (.int .i64 0) (.int .i8 lr) := by rw [hW0]; exact hbk
  have c0 : W0.cell? ⟨b, 0, none⟩ = some (.slice none 0 0) := hbk0.c0
  have c1 : W0.cell? ⟨b, 1, none⟩ = some (.int .i64 0) := hbk0.c1
  have f0 : W0.frozen? ⟨b, 0, none⟩ = false := hbk0.f 0
  have f1 : W0.frozen? ⟨b, 1, none⟩ = false := hbk0.f 1
  have HW0 := Lib.hid hW0
  clear hW0
  go_wp2_with (go_at_fn (ρ.f 251); refine (Any.Buffer_tryGrow_none_at { L with } b 0 _ 0 0 n _ c0 (by omega) hcm' (by omega)).mono ?_; rintro e w' ⟨rfl, rfl⟩)
  have hbW := hbk0.lt
  have hwn : IntKind.i64.wrap (n : Int) = n := by rw [IntKind.wrap_i64]; omega
  go_region_with_o (
      go_at_fn (ρ.f 290)
      refine (Zl5 { L with } none 0 0 n [] _ ?_ (by omega) (by omega) (by omega) hc2 ?_ ?_).mono ?_
      · first | exact ho | rfl
      · exact Or.inl rfl
      · first | exact h1 | exact fun v h => by cases h
      rintro e w2 ⟨cap2, cells, rfl, hN, hcsz, htk, hcap2, hcm2, hbel⟩
      have hbk2 : LibA.Three w2 b 0 T R (.slice none 0 0) (.int .i64 0) (.int .i8 lr) := hbk0.of_heap (hbel.block b hbW)
      have d0 : w2.cell? ⟨b, 0, none⟩ = some (.slice none 0 0) := hbk2.c0
      have d1 : w2.cell? ⟨b, 1, none⟩ = some (.int .i64 0) := hbk2.c1
      have e0 : w2.frozen? ⟨b, 0, none⟩ = false := hbk2.f 0
      have e1 : w2.frozen? ⟨b, 1, none⟩ = false := hbk2.f 1)
  all_goals (
    go_wp2
    go_ret
    have hsz0 : w'.heap.size = w.heap.size := by rw [HW0.out]; rfl
    have hg2 : w.grownBy w2 (some b) := Lib.grownBy_below (w := w'.drew) (by rw [HW0.out]; exact ⟨rfl, rfl, rfl, Nat.le_refl _, fun _ _ _ => rfl⟩) hbel
    refine ⟨rfl, cap2, cells, ?_, ?_, hcsz, htk, hcap2, hcm2, Lib.grownBy_setB (Lib.grownBy_setB (Lib.grownBy_setB hg2 0 _) 1 _) 0 _⟩
    · rw [Nat.zero_add, ← hsz0]; exact ZoM hbk2 _ _
    · have hNb : w.heap.size ≠ b := by omega
      rw [Below.heap_setCell _ _ _ _ hNb, Below.heap_setCell _ _ _ _ hNb, Below.heap_setCell _ _ _ _ hNb]
      rw [← hsz0]; exact hN)
end
end Go.Proofs.YtmlkhhidifjjfaaDoor
namespace Go.Proofs.YtmlkhhidifjjfaaDoor
open Go.Shelf Go.RowKit
section
variable {P:Program} {ρ:Ren}
set_option maxHeartbeats 12800000 in
set_option maxRecDepth 100000 in
theorem ZAC (L : LaysM.n252 P ρ) (T : TypeId) (R : Nat → Option Value) (b : Nat) (x : Addr) (cap : Nat) (n : Nat) (lr : Int) (w : World)
    (hbk : LibA.Three w b 0 T R (.slice (some x) 0 cap) (.int .i64 0) (.int .i8 lr)) (hroom : cap < n) (hlim : n ≤ 70368744177664) :
    Calls P (ρ.f 252) #[.pointer (some ⟨b, 0, none⟩), .int .i64 n] w fun e w' => e = .returned (.int .i64 0) ∧ ZiM w T R b 0 n [] lr (ρ.t 5) w' := by
  have mixed := L.mixed
  have t5 := L.t5; have a5 := L.a5; have z5 := L.z5; have v5 := L.v5
  have t130 := L.t130; have a130 := L.a130; have z130 := L.z130; have v130 := L.v130
  have t3 := L.t3; have a3 := L.a3; have z3 := L.z3; have v3 := L.v3
  have t4 := L.t4; have a4 := L.a4; have z4 := L.z4; have v4 := L.v4
  have t0 := L.t0; have a0 := L.a0; have z0 := L.z0; have v0 := L.v0
  have t93 := L.t93; have u93 := run_underlying L.t93; have a93 := L.a93; have z93 := L.z93; have v93 := L.v93
  have t131 := L.t131; have a131 := L.a131; have z131 := L.z131; have v131 := L.v131
  have t37 := L.t37; have a37 := L.a37; have z37 := L.z37; have v37 := L.v37
  have t75 := L.t75; have a75 := L.a75; have z75 := L.z75; have v75 := L.v75
  have e181 : ∀ args w, (callFunc (ρ.f 181) args).run P w = .ok (.enter (ρ.f 181) args) w := enters_of L.f181 (by kernel_rfl) rfl
  have e251 : ∀ args w, (callFunc (ρ.f 251) args).run P w = .ok (.enter (ρ.f 251) args) w := enters_of L.f251 (by kernel_rfl) rfl
  have e290 : ∀ args w, (callFunc (ρ.f 290) args).run P w = .ok (.enter (ρ.f 290) args) w := enters_of L.f290 (by kernel_rfl) rfl
  have hnil : ∀ W, (binOp .eql (ρ.t 37) (.slice (some x) 0 cap) (.slice none 0 0)).run P W = .ok (.bool false) W := fun W => Lib.run_eql_slice_some_nil W _ _ _ L.t37
  have hc2 : cap ≤ 140737488355328 := by omega
  have hcm' : cap ≤ maxLen := by unfold maxLen; omega
  go_enter L.f252, Body.n252_ntmps ρ
  go_wp2_with (go_at_fn (ρ.f 181); refine (Zjl { L with } b (some x) 0 cap _ hbk.c0 hbk.c1 (by unfold maxLen; omega)).mono ?_)
  rintro e W0 ⟨rfl, k, hW0⟩
  have hbk0 : LibA.Three W0 b 0 T R (.slice (some x) 0 cap) (.int .i64 0) (.int .i8 lr) := by rw [hW0]; exact hbk
  have c0 : W0.cell? ⟨b, 0, none⟩ = some (.slice (some x) 0 cap) := hbk0.c0
  have c1 : W0.cell? ⟨b, 1, none⟩ = some (.int .i64 0) := hbk0.c1
  have f0 : W0.frozen? ⟨b, 0, none⟩ = false := hbk0.f 0
  have f1 : W0.frozen? ⟨b, 1, none⟩ = false := hbk0.f 1
  have HW0 := Lib.hid hW0
  clear hW0
  go_wp2_with (go_at_fn (ρ.f 251); refine (Any.Buffer_tryGrow_none_at { L with } b 0 _ 0 cap n _ c0 (by omega) hcm' (by omega)).mono ?_; rintro e w' ⟨rfl, rfl⟩)
  have hbW := hbk0.lt
  have hwn : IntKind.i64.wrap (n : Int) = n := by rw [IntKind.wrap_i64]; omega
  go_region_with_o (
      go_at_fn (ρ.f 290)
      refine (Zl5 { L with } (some x) 0 cap n [] _ ?_ (by omega) (by omega) (by omega) hc2 ?_ ?_).mono ?_
      · first | exact ho | rfl
      · exact Or.inl rfl
      · first | exact h1 | exact fun v h => by cases h
      rintro e w2 ⟨cap2, cells, rfl, hN, hcsz, htk, hcap2, hcm2, hbel⟩
      have hbk2 : LibA.Three w2 b 0 T R (.slice (some x) 0 cap) (.int .i64 0) (.int .i8 lr) := hbk0.of_heap (hbel.block b hbW)
      have d0 : w2.cell? ⟨b, 0, none⟩ = some (.slice (some x) 0 cap) := hbk2.c0
      have d1 : w2.cell? ⟨b, 1, none⟩ = some (.int .i64 0) := hbk2.c1
      have e0 : w2.frozen? ⟨b, 0, none⟩ = false := hbk2.f 0
      have e1 : w2.frozen? ⟨b, 1, none⟩ = false := hbk2.f 1)
  all_goals (
    go_wp2
    go_ret
    have hsz0 : w'.heap.size = w.heap.size := by rw [HW0.out]; rfl
    have hg2 : w.grownBy w2 (some b) := Lib.grownBy_below (w := w'.drew) (by rw [HW0.out]; exact ⟨rfl, rfl, rfl, Nat.le_refl _, fun _ _ _ => rfl⟩) hbel
    refine ⟨rfl, cap2, cells, ?_, ?_, hcsz, htk, hcap2, hcm2, Lib.grownBy_setB (Lib.grownBy_setB (Lib.grownBy_setB hg2 0 _) 1 _) 0 _⟩
    · rw [Nat.zero_add, ← hsz0]; exact ZoM hbk2 _ _
    · have hNb : w.heap.size ≠ b := by omega
      rw [Below.heap_setCell _ _ _ _ hNb, Below.heap_setCell _ _ _ _ hNb, Below.heap_setCell _ _ _ _ hNb]
      rw [← hsz0]; exact hN)
end
end Go.Proofs.YtmlkhhidifjjfaaDoor
namespace Go.Proofs.YtmlkhhidifjjfaaDoor
open Go.Shelf Go.RowKit
section
variable {P:Program} {ρ:Ren}
set_option maxHeartbeats 12800000 in
set_option maxRecDepth 100000 in
theorem ZES (L : LaysM.n252 P ρ) (T : TypeId) (R : Nat → Option Value) (b : Nat) (x : Addr) (l cap : Nat) (olds : List Value) (n : Nat) (lr : Int) (w : World)
    (hbk : LibA.Three w b 0 T R (.slice (some x) l cap) (.int .i64 0) (.int .i8 lr)) (hl0 : l ≠ 0) (ho : olds.length = l) (h1 : ∀ v ∈ olds, v.oneCell' = true) (hlc : l ≤ cap) (hroom : cap - l < n) (hlim : l + n ≤ 70368744177664)
    (hold : l = 0 ∨ ∃ a, some x = some a ∧ ∀ j v, (olds)[j]? = some v → w.cell? (a.add j) = some v)  :
    Calls P (ρ.f 252) #[.pointer (some ⟨b, 0, none⟩), .int .i64 n] w fun e w' => e = .returned (.int .i64 l) ∧ ZiM w T R b l n olds lr (ρ.t 5) w' := by
  have mixed := L.mixed
  have t5 := L.t5; have a5 := L.a5; have z5 := L.z5; have v5 := L.v5
  have t130 := L.t130; have a130 := L.a130; have z130 := L.z130; have v130 := L.v130
  have t3 := L.t3; have a3 := L.a3; have z3 := L.z3; have v3 := L.v3
  have t4 := L.t4; have a4 := L.a4; have z4 := L.z4; have v4 := L.v4
  have t0 := L.t0; have a0 := L.a0; have z0 := L.z0; have v0 := L.v0
  have t93 := L.t93; have u93 := run_underlying L.t93; have a93 := L.a93; have z93 := L.z93; have v93 := L.v93
  have t131 := L.t131; have a131 := L.a131; have z131 := L.z131; have v131 := L.v131
  have t37 := L.t37; have a37 := L.a37; have z37 := L.z37; have v37 := L.v37
  have t75 := L.t75; have a75 := L.a75; have z75 := L.z75; have v75 := L.v75
  have e181 : ∀ args w, (callFunc (ρ.f 181) args).run P w = .ok (.enter (ρ.f 181) args) w := enters_of L.f181 (by kernel_rfl) rfl
  have e251 : ∀ args w, (callFunc (ρ.f 251) args).run P w = .ok (.enter (ρ.f 251) args) w := enters_of L.f251 (by kernel_rfl) rfl
  have e290 : ∀ args w, (callFunc (ρ.f 290) args).run P w = .ok (.enter (ρ.f 290) args) w := enters_of L.f290 (by kernel_rfl) rfl
  have hnil : ∀ W, (binOp .eql (ρ.t 37) (.slice (some x) l cap) (.slice none 0 0)).run P W = .ok (.bool false) W := fun W => Lib.run_eql_slice_some_nil W _ _ _ L.t37
  have hc2 : cap ≤ 140737488355328 := by omega
  have hcm' : cap ≤ maxLen := by unfold maxLen; omega
  go_enter L.f252, Body.n252_ntmps ρ
  go_wp2_with (go_at_fn (ρ.f 181); refine (Zjl { L with } b (some x) l cap _ hbk.c0 hbk.c1 (by unfold maxLen; omega)).mono ?_)
  rintro e W0 ⟨rfl, k, hW0⟩
  have hbk0 : LibA.Three W0 b 0 T R (.slice (some x) l cap) (.int .i64 0) (.int .i8 lr) := by rw [hW0]; exact hbk
  have c0 : W0.cell? ⟨b, 0, none⟩ = some (.slice (some x) l cap) := hbk0.c0
  have c1 : W0.cell? ⟨b, 1, none⟩ = some (.int .i64 0) := hbk0.c1
  have f0 : W0.frozen? ⟨b, 0, none⟩ = false := hbk0.f 0
  have f1 : W0.frozen? ⟨b, 1, none⟩ = false := hbk0.f 1
  have hold0 : l = 0 ∨ ∃ a, some x = some a ∧ ∀ j v, (olds)[j]? = some v → W0.cell? (a.add j) = some v := by rw [hW0]; exact hold
  have HW0 := Lib.hid hW0
  clear hW0 hold
  go_wp2_with (go_at_fn (ρ.f 251); refine (Any.Buffer_tryGrow_none_at { L with } b 0 _ l cap n _ c0 (by omega) hcm' (by omega)).mono ?_; rintro e w' ⟨rfl, rfl⟩)
  have hbW := hbk0.lt
  have hwn : IntKind.i64.wrap (n : Int) = n := by rw [IntKind.wrap_i64]; omega
  go_region_with_o (
      go_at_fn (ρ.f 290)
      refine (Zl5 { L with } (some x) l cap n olds _ ?_ (by omega) (by omega) (by omega) hc2 ?_ ?_).mono ?_
      · first | exact ho | rfl
      · exact hold0
      · first | exact h1 | exact fun v h => by cases h
      rintro e w2 ⟨cap2, cells, rfl, hN, hcsz, htk, hcap2, hcm2, hbel⟩
      have hbk2 : LibA.Three w2 b 0 T R (.slice (some x) l cap) (.int .i64 0) (.int .i8 lr) := hbk0.of_heap (hbel.block b hbW)
      have d0 : w2.cell? ⟨b, 0, none⟩ = some (.slice (some x) l cap) := hbk2.c0
      have d1 : w2.cell? ⟨b, 1, none⟩ = some (.int .i64 0) := hbk2.c1
      have e0 : w2.frozen? ⟨b, 0, none⟩ = false := hbk2.f 0
      have e1 : w2.frozen? ⟨b, 1, none⟩ = false := hbk2.f 1)
  all_goals (
    go_wp2
    go_ret
    have hsz0 : w'.heap.size = w.heap.size := by rw [HW0.out]; rfl
    have hg2 : w.grownBy w2 (some b) := Lib.grownBy_below (w := w'.drew) (by rw [HW0.out]; exact ⟨rfl, rfl, rfl, Nat.le_refl _, fun _ _ _ => rfl⟩) hbel
    refine ⟨rfl, cap2, cells, ?_, ?_, hcsz, htk, hcap2, hcm2, Lib.grownBy_setB (Lib.grownBy_setB (Lib.grownBy_setB hg2 0 _) 1 _) 0 _⟩
    · rw [← hsz0]; exact ZoM hbk2 _ _
    · have hNb : w.heap.size ≠ b := by omega
      rw [Below.heap_setCell _ _ _ _ hNb, Below.heap_setCell _ _ _ _ hNb, Below.heap_setCell _ _ _ _ hNb]
      rw [← hsz0]; exact hN)
end
end Go.Proofs.YtmlkhhidifjjfaaDoor
namespace Go.Proofs.YtmlkhhidifjjfaaDoor
open Go.Shelf Go.RowKit
section
variable {P:Program} {ρ:Ren}
def BufRow (w:World) (b:Nat) (A:Option Addr) (l cap:Nat) (olds:List Value):Prop :=
 olds.length=l∧l≤cap∧cap≤maxLen∧(∀ v ∈ olds,v.oneCell'=true)∧(cap=0∨∃ g cur t,A=some ⟨g,0,none⟩∧g≠b∧w.heap[g]?=some (.cells cur t (0,0))∧cur.size=cap∧cur.toList.take l=olds)
theorem BufRow.hold {w:World} {b:Nat} {A:Option Addr} {l cap:Nat} {olds:List Value} (h:BufRow w b A l cap olds):l=0∨∃ a,A=some a∧∀ j v,olds[j]?=some v→w.cell? (a.add j)=some v:=by
 obtain ⟨h1,h2,h3,h4,h5 | ⟨g,cur,t,h5,h6,h7,h8,h9⟩⟩:=h
 ·exact Or.inl (by omega)
 ·exact Or.inr ⟨_,h5,by rw [←h9];exact Lib.cells_of_row h7 l⟩
theorem ZyK (L:LaysM.n252 P ρ) (T:TypeId) (R:Nat→Option Value) (b:Nat) (A:Option Addr) (l cap:Nat) (olds:List Value) (n:Nat) (lr:Int) (w:World)
  (hbk:LibA.Three w b 0 T R (.slice A l cap) (.int .i64 0) (.int .i8 lr)) (hr:BufRow w b A l cap olds) (hA:A=none→cap=0) (hroom:cap - l < n) (hlim:l+n≤70368744177664) :
  Calls P (ρ.f 252) #[.pointer (some ⟨b,0,none⟩),.int .i64 n] w fun e w'=>e=.returned (.int .i64 l)∧ZiM w T R b l n olds lr (ρ.t 5) w':=by
 have hold:=hr.hold
 obtain ⟨h1,h2,h3,h4,h5⟩:=hr
 cases A with
 | none =>
  have hc:=hA rfl
  subst hc
  have hl0:l=0:=by omega
  subst hl0
  have ho:olds=[]:=List.eq_nil_of_length_eq_zero h1
  subst ho
  by_cases h64:n≤64
  ·exact ZAp L T R b n lr w hbk (by omega) h64
  ·exact ZAQ L T R b n lr w hbk (by omega) (by omega)
 | some x =>
  by_cases hl0:l=0
  ·subst hl0
   have ho:olds=[]:=List.eq_nil_of_length_eq_zero h1
   subst ho
   exact ZAC L T R b x cap n lr w hbk (by omega) (by omega)
  ·exact ZES L T R b x l cap olds n lr w hbk hl0 h1 h4 h2 hroom hlim hold
def ZvC (w:World) (T:TypeId) (R:Nat→Option Value) (b:Nat) (A:Option Addr) (l n cap:Nat) (all:List Value) (w':World):Prop :=
 ∃ A' cap',LibA.Three w' b 0 T R (.slice A' (l+n) cap') (.int .i64 0) (.int .i8 0)∧l+n≤cap'∧cap'≤maxLen ∧
  ((n=0∧A'=A∧cap'=cap∧w.grownBy w' (some b)) ∨
   ∃ G W1 Y t,A'=some ⟨G,0,none⟩∧(G=w.heap.size∨(A=some ⟨G,0,none⟩∧cap≠0))∧G≠b∧w.grownBy W1 (some b)∧W1.grownBy w' (some G)∧w'.heap[G]?=some (.cells Y t (0,0))∧Y.size=cap'∧Y.toList.take (l+n)=all)
set_option maxHeartbeats 6400000 in
set_option maxRecDepth 100000 in
theorem ZOi (L:LaysM.n180 P ρ) (T:TypeId) (R:Nat→Option Value) (b:Nat) (A:Option Addr) (l cap:Nat) (lr:Int) (olds news:List Value) (pa:Option Addr) (n pc:Nat) (w:World)
  (hbk:LibA.Three w b 0 T R (.slice A l cap) (.int .i64 0) (.int .i8 lr)) (hr:BufRow w b A l cap olds) (hA:A=none→cap=0) (hnews:news.length=n) (h1c:∀ v ∈ news,v.oneCell'=true)
  (hsrc:n=0∨∃ a,pa=some a∧a.block≠b∧∀ j v,news[j]?=some v→w.cell? (a.add j)=some v) (hlim:l+n≤70368744177664) :
  Calls P (ρ.f 180) #[.pointer (some ⟨b,0,none⟩),.slice pa n pc] w fun e w'=>e=.returned (.tuple #[.int .i64 n,.nilIface])∧ZvC w T R b A l n cap (olds++news) w':=by
 have mixed:=L.mixed
 have t5:=L.t5;have a5:=L.a5;have z5:=L.z5;have v5:=L.v5
 have t130:=L.t130;have a130:=L.a130;have z130:=L.z130;have v130:=L.v130
 have t37:=L.t37;have a37:=L.a37;have z37:=L.z37;have v37:=L.v37
 have t3:=L.t3;have a3:=L.a3;have z3:=L.z3;have v3:=L.v3
 have t75:=L.t75;have a75:=L.a75;have z75:=L.z75;have v75:=L.v75
 have t0:=L.t0;have a0:=L.a0;have z0:=L.z0;have v0:=L.v0
 have t93:=L.t93;have u93:=run_underlying L.t93;have a93:=L.a93;have z93:=L.z93;have v93:=L.v93
 have t91:=L.t91;have a91:=L.a91;have z91:=L.z91;have v91:=L.v91
 have t131:=L.t131;have a131:=L.a131;have z131:=L.z131;have v131:=L.v131
 have t4:=L.t4;have a4:=L.a4;have z4:=L.z4;have v4:=L.v4
 have e251:∀ args w,(callFunc (ρ.f 251) args).run P w=.ok (.enter (ρ.f 251) args) w:=enters_of L.f251 (by kernel_rfl) rfl
 have e252:∀ args w,(callFunc (ρ.f 252) args).run P w=.ok (.enter (ρ.f 252) args) w:=enters_of L.f252 (by kernel_rfl) rfl
 have c2:w.cell? ⟨b,2,none⟩=some (.int .i8 lr):=hbk.c2
 have f2:w.frozen? ⟨b,2,none⟩=false:=hbk.f 2
 have hinfo:(P.info? (ρ.t 5)).map (·.size)=some 1:=by
  obtain ⟨i0,hi,-,hz1,-⟩:=info_parts L.i5
  rw [hi];simp [hz1]
 obtain ⟨ho,hlc,hcm,h1,hrow⟩:=id hr
 have hbkA:LibA.Three (w.setCell ⟨b,2,none⟩ (.int .i8 0)) b 0 T R (.slice A l cap) (.int .i64 0) (.int .i8 0):=hbk.set2 _
 have hgA:w.grownBy (w.setCell ⟨b,2,none⟩ (.int .i8 0)) (some b):=Lib.grownBy_setCell w b 2 _
 have hszA:(w.setCell ⟨b,2,none⟩ (.int .i8 0)).heap.size=w.heap.size:=by simp [World.setCell]
 have hrA:BufRow (w.setCell ⟨b,2,none⟩ (.int .i8 0)) b A l cap olds:=⟨ho,hlc,hcm,h1,hrow.imp id fun ⟨g,cur,t,e,hgb,hg,r⟩=>⟨g,cur,t,e,hgb,(Below.heap_setCell _ _ _ _ hgb).trans hg,r⟩⟩
 by_cases hroom:n≤cap - l
 ·by_cases hs0:n=0
  ·
   subst hs0
   have hc0:news=[]:=List.eq_nil_of_length_eq_zero hnews
   subst hc0
   have hce:∀ d dLen dCap W,(Builtin.copy_ #[(ρ.t 37),(ρ.t 37)] (ρ.t 3) #[.slice d dLen dCap,.slice pa 0 pc]).run P W=.ok (goInt 0) W:=fun d dLen dCap W=>run_copy_none W (ρ.t 37) (ρ.t 37) (ρ.t 3) (ρ.t 5) d pa dLen dCap 0 pc L.t37 hinfo (by simp)
   have hT:∀ W,W.cell? ⟨b,0,none⟩=some (.slice A l cap)→W.frozen? ⟨b,0,none⟩=false→Calls P (ρ.f 251) #[.pointer (some ⟨b,0,none⟩),.int .i64 0] W (fun e w'=>e=.returned (.tuple #[.int .i64 l,.bool true])∧w'=W.setCell ⟨b,0,none⟩ (.slice A l cap)):=fun W q1 q2=>Any.Buffer_tryGrow_room_at { L with } b 0 A l cap 0 W q1 q2 hlc hcm (Nat.zero_le _)
   clear hsrc hroom hlim
   go_enter L.f180,Body.n180_ntmps ρ
   go_wp2_with (go_at_fn (ρ.f 251);refine (hT _ ?_ ?_).mono ?_)
   ·exact hbkA.c0
   ·exact hbkA.f 0
   rintro e W1 ⟨rfl,hW1⟩
   have hbk1:LibA.Three W1 b 0 T R (.slice A l cap) (.int .i64 0) (.int .i8 0):=by rw [hW1];exact hbkA.set0 _
   have hgW:w.grownBy W1 (some b):=by rw [hW1];exact Lib.grownBy_setB hgA 0 _
   clear hW1 hbkA hgA hszA hrA c2 f2 hT
   have d0:W1.cell? ⟨b,0,none⟩=some (.slice A l cap):=hbk1.c0
   have hcm':=hcm
   unfold maxLen at hcm'
   have hfin:ZvC w T R b A l 0 cap (olds++[]) W1:=⟨A,cap,hbk1,hlc,hcm,Or.inl ⟨rfl,rfl,rfl,hgW⟩⟩
   clear hrow hr
   cases A
   all_goals (go_wp2;all_goals (go_ret2;first | exact ⟨rfl,hfin⟩ | exact ⟨by simp,by simpa using hfin⟩ | (refine ⟨by simp,?_⟩;have hcl:l=cap:=(by omega);simpa [hcl] using hfin)))
  ·
   go_enter L.f180,Body.n180_ntmps ρ
   go_wp2_with (go_at_fn (ρ.f 251);refine (Any.Buffer_tryGrow_room_at { L with } b 0 A l cap n _ ?_ ?_ hlc hcm hroom).mono ?_)
   ·exact hbkA.c0
   ·exact hbkA.f 0
   rintro e W1 ⟨rfl,hW1⟩
   obtain ⟨G,cap',cur,t,hbk1,hG,hcs,htk,hlc',hcm',hGb,hGw,hgW⟩:∃ G cap' cur t,LibA.Three W1 b 0 T R (.slice (some ⟨G,0,none⟩) (l+n) cap') (.int .i64 0) (.int .i8 0)∧W1.heap[G]?=some (.cells cur t (0,0))∧cur.size=cap'∧cur.toList.take l=olds∧l+n≤cap'∧cap'≤maxLen∧G≠b∧(G=w.heap.size∨(A=some ⟨G,0,none⟩∧cap≠0))∧w.grownBy W1 (some b):=by
    obtain hc | ⟨g,cur,t,e,hgb,hg,hcs,htk⟩:=hrow
    ·omega
    ·refine ⟨g,cap,cur,t,?_,?_,hcs,htk,by omega,hcm,hgb,Or.inr ⟨e,by omega⟩,?_⟩
     ·rw [hW1,e];rw [e] at hbkA;exact hbkA.set0 _
     ·rw [hW1,Below.heap_setCell _ _ _ _ hgb,Below.heap_setCell _ _ _ _ hgb];exact hg
     ·rw [hW1];exact Lib.grownBy_setB hgA 0 _
   clear hW1 hbkA hgA hszA hrA c2 f2 hrow
   have d0:W1.cell? ⟨b,0,none⟩=some (.slice (some ⟨G,0,none⟩) (l+n) cap'):=hbk1.c0
   have hne:¬cap'=l:=by omega
   have hsrc1:n=0∨∃ a,pa=some a∧∀ j v,news[j]?=some v→W1.cell? (a.add j)=some v:=hsrc.imp id fun ⟨a,e,hab,h⟩=>⟨a,e,fun j v hj=>hgW.cell (h j v hj) (by rw [Lib.block_add];exact fun e=>hab (Option.some.inj e))⟩
   obtain ⟨W2,Y,hcp,hY,hYl,hgb,hsz⟩:=Zj8 (P:=P) W1 (ρ.t 37) (ρ.t 37) (ρ.t 3) (ρ.t 5) G l n (cap' - l) pa n pc cur t news L.t37 hinfo hG hnews (Nat.le_refl _) hsrc1 (by omega) h1c
   have hYs:Y.size=cap':=by
    have h3:=congrArg List.length hYl
    simp only [List.length_append,List.length_drop,List.length_take,Array.length_toList] at h3
    omega
   have hYt:Y.toList.take (l+n)=olds++news:=by
    rw [hYl,htk,List.take_append_of_le_length (by simp;omega),List.take_of_length_le (by simp;omega)]
   have hW2:LibA.Three W2 b 0 T R (.slice (some ⟨G,0,none⟩) (l+n) cap') (.int .i64 0) (.int .i8 0):=hbk1.of_heap (hgb.block b hbk1.lt (fun e=>hGb (Option.some.inj e).symm))
   have hcm2:=hcm'
   unfold maxLen at hcm2
   have hgb0:=hgb
   have hYr:=hY
   clear hsrc hsrc1 hr hA
   go_wp2
   go_ret2
   exact ⟨rfl,_,_,hW2,hlc',hcm',Or.inr ⟨G,W1,Y,t,rfl,hGw,hGb,hgW,hgb0,hYr,hYs,hYt⟩⟩
 ·
  go_enter L.f180,Body.n180_ntmps ρ
  go_wp2_with (go_at_fn (ρ.f 251);refine (Any.Buffer_tryGrow_none_at { L with } b 0 A l cap n _ ?_ hlc hcm (by omega)).mono ?_)
  ·exact hbkA.c0
  rintro e W0 ⟨rfl,hW0⟩
  rw [←hW0] at hbkA hgA hszA hrA
  clear hW0 c2 f2
  have hroom':cap - l < n:=by omega
  go_wp2_with (go_at_fn (ρ.f 252);refine (ZyK { L with } T R b A l cap olds n 0 _ ?_ ?_ hA hroom' hlim).mono ?_)
  ·exact hbkA
  ·exact hrA
  rintro e W1 ⟨rfl,cap',cur,hbk1,hG,hcs,htk,hlc',hcm',hgB⟩
  obtain ⟨G,hGe⟩:∃ G,G=w.heap.size:=⟨_,rfl⟩
  rw [hszA,←hGe] at hbk1 hG
  have hGw:G=w.heap.size∨(A=some ⟨G,0,none⟩∧cap≠0):=Or.inl hGe
  have hGb:G≠b:=by have:=hbk.lt;omega
  have hgW:w.grownBy W1 (some b):=Lib.grownBy_trans hgA hgB
  obtain ⟨t,ht⟩:∃ t,t=ρ.t 5:=⟨_,rfl⟩
  rw [←ht] at hG
  clear hbkA hgA hszA hrA hgB hGe hrow hroom
  have d0:W1.cell? ⟨b,0,none⟩=some (.slice (some ⟨G,0,none⟩) (l+n) cap'):=hbk1.c0
  have hne:¬cap'=l:=by omega
  have hsrc1:n=0∨∃ a,pa=some a∧∀ j v,news[j]?=some v→W1.cell? (a.add j)=some v:=hsrc.imp id fun ⟨a,e,hab,h⟩=>⟨a,e,fun j v hj=>hgW.cell (h j v hj) (by rw [Lib.block_add];exact fun e=>hab (Option.some.inj e))⟩
  obtain ⟨W2,Y,hcp,hY,hYl,hgb,hsz⟩:=Zj8 (P:=P) W1 (ρ.t 37) (ρ.t 37) (ρ.t 3) (ρ.t 5) G l n (cap' - l) pa n pc cur t news L.t37 hinfo hG hnews (Nat.le_refl _) hsrc1 (by omega) h1c
  have hYs:Y.size=cap':=by
   have h3:=congrArg List.length hYl
   simp only [List.length_append,List.length_drop,List.length_take,Array.length_toList] at h3
   omega
  have hYt:Y.toList.take (l+n)=olds++news:=by
   rw [hYl,htk,List.take_append_of_le_length (by simp;omega),List.take_of_length_le (by simp;omega)]
  have hW2:LibA.Three W2 b 0 T R (.slice (some ⟨G,0,none⟩) (l+n) cap') (.int .i64 0) (.int .i8 0):=hbk1.of_heap (hgb.block b hbk1.lt (fun e=>hGb (Option.some.inj e).symm))
  have hcm2:=hcm'
  unfold maxLen at hcm2
  have hgb0:=hgb
  have hYr:=hY
  clear hsrc hsrc1 hr hA
  go_wp2
  go_ret2
  exact ⟨rfl,_,_,hW2,hlc',hcm',Or.inr ⟨G,W1,Y,t,rfl,hGw,hGb,hgW,hgb0,hYr,hYs,hYt⟩⟩
end
end Go.Proofs.YtmlkhhidifjjfaaDoor
namespace Go.Proofs.YtmlkhhidifjjfaaDoor
open Go.Shelf Go.RowKit
section
variable {P:Program} {ρ:Ren} {base:Nat→Prop} {w0 w w':World} {I0 I:Imm} {β:Bmap} {σ:Za}
theorem ZzD {b:Nat} {ty:TypeId} {x y z:Value} (h:LibA.Three w b 0 ty (fun _=>none) x y z):w.heap[b]?=some (.cells #[x,y,z] ty (0,0)):=by
 obtain ⟨cs,hb,h0,h1,h2,hr⟩:=h
 rw [hb]
 have : cs=#[x,y,z]:=by
  apply Array.ext_getElem?
  intro i
  match i with
  | 0=>exact h0
  | 1=>exact h1
  | 2=>exact h2
  | i+3=>rw [hr (i+3) (Or.inr (by omega))];exact (Array.getElem?_eq_none (by simp)).symm
 rw [this]
theorem ZxP {k:Nat} {y:AVal} {ys:List AVal} {b off:Nat} (h:LR I β k (y::ys) b off) (hk:0 < k):∃ u,I b off=some u:=by
 rw [Zf0] at h
 obtain ⟨⟨h1,h2⟩,_⟩:=h
 cases hc:y.cells with
 | nil=>rw [hc] at h1;simp at h1;omega
 | cons c cs =>
  rw [hc] at h2
  simp only [CR] at h2
  obtain ⟨⟨u,hu,_⟩,_⟩:=h2
  exact ⟨u,hu⟩
theorem ZzL (R:Rel base w0 I0 I β σ w) {b:Nat} (hb:∀ o,I b o=none) {y:Bool} {ys:List AVal} {v:Value} (hv:VR I β (.lst y ys) v) (hk:kOk 1 ys=true) :
  ∃ A cap news,v=.slice A ys.length cap∧news.length=ys.length∧VRs I β (ys.flatMap AVal.cells) news∧Z9 ys=true∧(∀ x ∈ ys,x.cells.length=1)∧(∀ v ∈ news,v.oneCell'=true) ∧
   (ys.length=0∨∃ a,A=some a∧a.block≠b∧∀ j v,news[j]?=some v→w.cell? (a.add j)=some v):=by
 have hv0:=hv
 obtain ⟨A,cap,e,_,_,htree,hc⟩:=Zk4 R hv
 by_cases hne:ys=[]
 ·subst hne
  exact ⟨A,cap,[],e,rfl,by simp [VRs],rfl,by simp,by simp,Or.inl rfl⟩
 ·rcases hc with hc | ⟨b',off,k,us,hA,hk0,hl,hvs,hcell⟩
  ·exact absurd hc hne
  have e1:=ZjC hk hl hne
  subst e1
  refine ⟨A,cap,us,e,by rw [←ZaV hvs,ZdS hl,Nat.mul_one],hvs,htree,hl,Zgv (fun z hz=>Zit (ZcP.1 (ZkZ htree) z hz)) hvs,Or.inr ⟨⟨b',off,none⟩,hA,?_,fun j v hj=>by rw [Addr.add_mid];exact hcell j v hj⟩⟩
  rintro rfl
  simp only [VR] at hv0
  obtain ⟨A',cap',e',_,_,_,h5,_⟩:=hv0
  rcases h5 with h5 | ⟨b2,off2,k2,e2,hk2,h5⟩
  ·exact hne h5
  ·rw [e] at e'
   injection e' with e' _ _
   rw [e'] at hA
   rw [hA] at e2
   injection e2 with e2
   injection e2 with e2 e3
   cases ys with
   | nil=>exact hne rfl
   | cons z zs =>
    obtain ⟨u,hu⟩:=ZxP h5 hk2
    rw [←e2,hb] at hu;cases hu
theorem ZuW (L : LaysM.n180 P ρ) (hb : KLt base w0) {c0 : AVal} {lr : Int} {g : Nat} {xs : List AVal} (R : Rel base w0 I0 I β [.var [c0, .int .i64 0, .int .i8 lr], .row g 1 xs] w)
    {bi : BI} (hbi : β 1 g = some bi) {b kk cc : Nat} (hβ0 : β 0 0 = some ⟨some b, kk, cc⟩) {A : Option Addr} {cap : Nat} {ty : TypeId}
    (hheap : w.heap[b]? = some (.cells #[.slice A xs.length cap, .int .i64 0, .int .i8 lr] ty (0, 0)))
    (hA : (∃ gb, bi.b = some gb ∧ A = some ⟨gb, 0, none⟩ ∧ cap = bi.cap) ∨ (bi.b = none ∧ cap = 0 ∧ bi.cap = 0))
    {y : Bool} {ys : List AVal} {v1 : Value} (hv1 : VR I β (.lst y ys) v1) (hlim : xs.length + ys.length ≤ ZbN) (hk : kOk 1 ys = true) :
    Calls P (ρ.f 180) #[.pointer (some ⟨b, 0, none⟩), v1] w (fun e w' => ∃ u, Ends (.tup [.int .i64 ys.length, .nili]) e u ∧ ∃ β', β.le β' ∧
      Rel base w0 I0 I β' [.var [.sl 1 (g + 1) 0 (xs ++ ys).length, .int .i64 0, .int .i8 0], .row (g + 1) 1 (xs ++ ys)] w' ∧ VR I β' (.tup [.int .i64 ys.length, .nili]) u) := by
  have hbw := R.base_le hb
  have how : ZA β 0 (.var [c0, .int .i64 0, .int .i8 lr]) = some b := by simp only [ZA, hβ0, Option.bind_some]
  have hob := R.own 0 _ b rfl how
  obtain ⟨bi', hbi', hk1, _, hcap63, hxl, htree, hlens, hrow⟩ := R.blk 1 (.row g 1 xs) rfl
  rw [hbi] at hbi'; injection hbi' with hbi'; subst hbi'
  have hor : ZA β 1 (.row g 1 xs) = bi.b := by simp only [ZA, hbi, Option.bind_some]
  obtain ⟨olds, hBR, hvo, hA0⟩ : ∃ olds, BufRow w b A xs.length cap olds ∧ VRs I β (xs.flatMap AVal.cells) olds ∧ (A = none → cap = 0) := by
    rcases hA with ⟨gb, e1, e2, e3⟩ | ⟨e1, e2, e3⟩
    · rcases hrow with ⟨h1, h2⟩ | ⟨gb', us, ty', h1, h2, h3, h4⟩
      · rw [e1] at h1; cases h1
      · rw [e1] at h1; injection h1 with h1; subst h1
        rw [Nat.mul_one] at h3 h4
        have hgb : gb ≠ b := by
          rintro rfl
          have := R.apart 0 _ 1 _ gb rfl rfl how (by rw [hor, e1])
          omega
        refine ⟨us.toList.take xs.length, ⟨by have h9 : us.toList.length = us.size := us.length_toList; rw [List.length_take]; omega, by omega, by unfold maxLen; omega, Zgv (fun z hz => Zit (ZcP.1 (ZkZ htree) z hz)) h4, Or.inr ⟨gb, us, ty', e2, hgb, h2, by omega, rfl⟩⟩, h4, by rw [e2]; intro h; cases h⟩
    · have hx : xs = [] := List.eq_nil_of_length_eq_zero (by omega)
      subst hx
      exact ⟨[], ⟨rfl, by simp, by unfold maxLen; omega, by simp, Or.inl e2⟩, by simp [VRs], fun _ => e2⟩
  obtain ⟨A1, cap1, news, rfl, hnl, hvn, htn, hln, hn1, hsrc⟩ := ZzL R hob.2 hv1 hk
  refine (ZOi L ty (fun _ => none) b A xs.length cap lr olds news A1 ys.length cap1 w (LibA.three_whole hheap) hBR hA0 hnl hn1 hsrc (by unfold ZbN at hlim; omega)).mono ?_
  rintro e w' ⟨rfl, A', cap', hT, hle, hcm, hcase⟩
  refine ⟨_, rfl, ?_⟩
  have hT' := ZzD hT
  unfold maxLen at hcm
  obtain ⟨w1, hw1⟩ : ∃ w1 : World, w1 = { w with heap := w.heap.setIfInBounds b (.cells #[.slice A' (xs.length + ys.length) cap', .int .i64 0, .int .i8 0] ty (0, 0)) } := ⟨_, rfl⟩
  have hbl : b < w.heap.size := Lib.lt_of_heap hheap
  have h1b : w1.heap[b]? = w'.heap[b]? := by rw [hw1, hT']; simp [hbl]
  have h1o : ∀ k, k ≠ b → w1.heap[k]? = w.heap[k]? := fun k hk => by rw [hw1]; exact Array.getElem?_setIfInBounds_ne (fun e => hk e.symm)
  have h1s : w1.heap.size = w.heap.size := by rw [hw1]; simp
  have R1 : Rel base w0 I0 I β [.var [.top, .int .i64 0, .int .i8 0], .row g 1 xs] w1 := by
    have := R.putObj (t := 0) (x' := .var [.top, .int .i64 0, .int .i8 0]) rfl how (by simp only [ZA, hβ0, Option.bind_some]) (.cells #[.slice A' (xs.length + ys.length) cap', .int .i64 0, .int .i8 0] ty (0, 0))
      ⟨b, kk, cc, _, ty, hβ0, by simp [hbl]; rfl, by simp [VRs, VR]⟩ rfl
    rw [hw1]; exact this
  obtain ⟨bi2, hB, keep, hbi2, hblk, hv2⟩ : ∃ bi2 : BI, KB base w1 w' ∧ (∀ b', ZA β 1 (.row g 1 xs) ≠ some b' → b' < w1.heap.size → w'.heap[b']? = w1.heap[b']?) ∧ (bi2.b = none ∨ ∃ b', bi2.b = some b' ∧ (ZA β 1 (.row g 1 xs) = some b' ∨ b' = w1.heap.size)) ∧
      BR I (β.put 1 (g + 1) bi2) w' 1 (.row (g + 1) 1 (xs ++ ys)) ∧ VR I (β.put 1 (g + 1) bi2) (.sl 1 (g + 1) 0 (xs ++ ys).length) (.slice A' (xs.length + ys.length) cap') := by
    have hle2 : β.le (β.put 1 (g + 1) bi) → True := fun _ => trivial
    have hnone : β 1 (g + 1) = none := R.gen 1 _ (g + 1) rfl (by simp [Zo])
    rcases hcase with ⟨hn0, rfl, rfl, hgB⟩ | ⟨G, W1, Y, t, rfl, hGw, hGb, hg1, hg2, hY, hYs, hYt⟩
    · have hy : ys = [] := List.eq_nil_of_length_eq_zero hn0
      subst hy
      simp only [List.append_nil, List.length_nil, Nat.add_zero]
      have hbl' : β.le (β.put 1 (g + 1) bi) := Bmap.put_le hnone
      have same : ∀ k, k < w.heap.size → w'.heap[k]? = w1.heap[k]? := by
        intro k hk
        by_cases e : k = b
        · rw [e, h1b]
        · rw [h1o k e]; exact hgB.block k hk (fun h => e (Option.some.inj h))
      refine ⟨bi, ⟨by rw [hw1]; exact hgB.os, by rw [hw1]; exact hgB.tape, by rw [hw1]; exact hgB.output, by rw [h1s]; exact hgB.size, fun k hk => same k (hbw k hk)⟩, fun b' _ hb' => same b' (by omega), ?_, ?_, ?_⟩
      · rw [hor]
        cases bi.b with
        | none => exact Or.inl rfl
        | some x => exact Or.inr ⟨x, rfl, Or.inl rfl⟩
      · refine ⟨bi, Bmap.put_same β 1 (g + 1) bi, hk1, by omega, hcap63, hxl, htree, hlens, hrow.imp id ?_⟩
        rintro ⟨gb, us, ty', q1, q2, q3, q4⟩
        have hgb : gb ≠ b := by
          rintro rfl
          have := R.apart 0 _ 1 _ gb rfl rfl how (by rw [hor, q1])
          omega
        exact ⟨gb, us, ty', q1, by rw [same gb (Lib.lt_of_heap q2), h1o gb hgb]; exact q2, q3, VRs.mono (Imm.le.refl I) hbl' _ _ q4⟩
      · rw [Zb2]
        refine ⟨bi, Bmap.put_same β 1 (g + 1) bi, hxl, hcap63, ?_⟩
        rcases hA with ⟨gb, e1, e2, e3⟩ | ⟨e1, e2, e3⟩
        · exact Or.inl ⟨gb, e1, by rw [e2, e3]⟩
        · have hx : xs.length = 0 := by omega
          exact Or.inr ⟨e1, e3, _, by rw [hx, e2]⟩
    · have hbl' : β.le (β.put 1 (g + 1) ⟨some G, 1, cap'⟩) := Bmap.put_le hnone
      have hGo : ZA β 1 (.row g 1 xs) = some G ∨ G = w1.heap.size := by
        rcases hGw with e | ⟨e, hc0⟩
        · exact Or.inr (by rw [h1s]; exact e)
        · refine Or.inl ?_
          rw [hor]
          rcases hA with ⟨gb, e1, e2, e3⟩ | ⟨e1, e2, e3⟩
          · rw [e2] at e; injection e with e; injection e with e; rw [e1, e]
          · exact absurd e2 hc0
      have hsz1 : w.heap.size ≤ W1.heap.size := hg1.size
      have same : ∀ k, k < w.heap.size → k ≠ G → w'.heap[k]? = w1.heap[k]? := by
        intro k hk hkG
        by_cases e : k = b
        · rw [e, h1b]
        · rw [h1o k e]; exact (hg2.block k (by omega) (fun h => hkG (Option.some.inj h))).trans (hg1.block k hk (fun h => e (Option.some.inj h)))
      refine ⟨⟨some G, 1, cap'⟩, ⟨by rw [hw1]; exact hg2.os.trans hg1.os, by rw [hw1]; exact hg2.tape.trans hg1.tape, by rw [hw1]; exact hg2.output.trans hg1.output, by rw [h1s]; exact Nat.le_trans hg1.size hg2.size, fun k hk => same k (hbw k hk) ?_⟩, fun b' hb1 hb' => same b' (by omega) ?_, Or.inr ⟨G, rfl, hGo⟩, ?_, ?_⟩
      · rintro rfl
        rcases hGo with e | e
        · exact (R.own 1 _ _ rfl e).1 hk
        · have := hbw _ hk; omega
      · rintro rfl
        rcases hGo with e | e
        · exact hb1 e
        · omega
      · refine ⟨_, Bmap.put_same β 1 (g + 1) _, rfl, by omega, hcm, by rw [List.length_append]; exact hle, by rw [Zgt htree htn], ?_, Or.inr ⟨G, Y, t, rfl, hY, by rw [hYs, Nat.mul_one], ?_⟩⟩
        · intro x hx
          rcases List.mem_append.1 hx with h | h
          · exact hlens x h
          · exact hln x h
        · rw [List.length_append, Nat.mul_one, hYt, Ze5]
          exact Zcq (VRs.mono (Imm.le.refl I) hbl' _ _ hvo) (VRs.mono (Imm.le.refl I) hbl' _ _ hvn)
      · rw [Zb2]
        exact ⟨_, Bmap.put_same β 1 (g + 1) _, by rw [List.length_append]; exact hle, hcm, Or.inl ⟨G, rfl, by rw [List.length_append]⟩⟩
  have hbw1 : KLt base w1 := fun k hk => by rw [h1s]; exact hbw k hk
  obtain ⟨R2, hle2⟩ := R1.grow (t := 1) (g := g) (k := 1) (xs := xs) (xs' := xs ++ ys) rfl bi2 hB (by
    intro b' o u hI
    have hne : b' ≠ b := by rintro rfl; rw [hob.2 o] at hI; cases hI
    have hlt : b' < w1.heap.size := by rw [h1s]; exact Zd6 (R.imm _ _ _ hI)
    have hno : ZA β 1 (.row g 1 xs) ≠ some b' := fun e => by have := (R.own 1 _ b' rfl e).2 o; rw [this] at hI; cases hI
    rw [← R1.imm b' o u hI]
    simp only [World.cell?, keep b' hno hlt]) keep hbi2 hbw1 hblk
  have hβ2 : (β.put 1 (g + 1) bi2) 0 0 = some ⟨some b, kk, cc⟩ := hle2 _ _ _ hβ0
  refine ⟨β.put 1 (g + 1) bi2, hle2, ?_, by simp [VR, VRs]⟩
  refine R2.upd (Imm.le.refl I) (Bmap.le.refl _) (KB.refl _ _) (fun _ _ _ => rfl) R2.imm 0 (.var [.sl 1 (g + 1) 0 (xs ++ ys).length, .int .i64 0, .int .i8 0]) rfl (by simp) (fun _ _ _ => rfl) ?_ ?_ ?_ ?_ (by simp)
  · intro t' x b' hne hx hb'
    refine ⟨rfl, (R2.own t' x b' hx hb').2, ?_⟩
    simp only [ZA, hβ2, Option.bind_some]
    intro e; injection e with e; subst e
    exact hne (R2.apart t' x 0 _ b hx rfl hb' (by simp only [ZA, hβ2, Option.bind_some]))
  · exact ⟨b, kk, cc, _, ty, hβ2, hT', by simp only [VRs]; exact ⟨_, _, rfl, hv2, _, _, rfl, by simp [VR], _, _, rfl, by simp [VR], rfl⟩⟩
  · intro b' e
    simp only [ZA, hβ2, Option.bind_some] at e; injection e with e; subst e
    exact R2.own 0 _ b rfl (by simp only [ZA, hβ2, Option.bind_some])
  · intro g' hg'
    exact R2.gen 0 _ g' rfl (by simpa [Zo] using hg')
theorem ZOD (L:LaysM.n180 P ρ) {f:FuncId} (hf:ρ.f 180=f) (hx:∃ fn,P.funcs[f]?=some fn∧fn.body.isSome=true∧(fn.name == "runtime.NumGoroutine")=false) {args:List AVal} {σ σ':Za} {r:AVal} (hg:Zht args σ=some (r,σ')) :
  (∃ fn,P.funcs[f]?=some fn∧fn.body.isSome=true∧(fn.name == "runtime.NumGoroutine")=false) ∧
  ∀ base w0 I0 I β w (vs:Array Value),KLt base w0→Rel base w0 I0 I β σ w→VRs I β args vs.toList →
   Calls P f vs w (fun e w'=>∃ u,Ends r e u∧ZbZ σ.length base w0 I0 I β r σ' u w'):=by
 refine ⟨hx,?_⟩
 intro base w0 I0 I β w vs hb R hargs
 subst hf
 unfold Zht at hg
 split at hg
 ·
  rename_i y ys lr
  split at hg
  case isFalse=>cases hg
  rename_i hc
  simp only [Option.some.injEq,Prod.mk.injEq] at hg
  obtain ⟨rfl,rfl⟩:=hg
  simp only [VRs] at hargs
  obtain ⟨v0,_,hvs,h0,v1,_,rfl,h1,rfl⟩:=hargs
  have hvs':vs=#[v0,v1]:=by rw [←Array.toList_inj];exact hvs
  subst hvs'
  simp only [VR] at h0
  obtain ⟨b,k,c,hβ0,rfl⟩:=h0
  obtain ⟨b',k',c',us,ty,hβ,hheap,hcs⟩:=R.blk 0 _ rfl
  rw [hβ0] at hβ;injection hβ with hβ;injection hβ with hβ1 hβ2 hβ3;injection hβ1 with hβ1;subst hβ1 hβ2 hβ3
  simp only [VRs] at hcs
  obtain ⟨u0,_,hus,hu0,u1,_,rfl,hu1,u2,_,rfl,hu2,rfl⟩:=hcs
  simp only [VR] at hu0 hu1 hu2
  obtain ⟨A,cap,rfl,_,_,hcap,_,_⟩:=hu0
  have hcap0:cap=0:=by simpa using hcap
  subst hu1 hu2 hcap0
  have hus':us=#[.slice A 0 0,.int .i64 0,.int .i8 lr]:=by rw [←Array.toList_inj];simpa using hus
  subst hus'
  have R1:=R.reserve 1
  have hfree:([.var [.lst true [],.int .i64 0,.int .i8 lr]]++List.replicate 1 ZK.free)[1]?=some .free:=rfl
  obtain ⟨R2,hle⟩:=R1.newNone hfree 1 (by omega)
  have R3:Rel base w0 I0 I (β.put 1 0 ⟨none,1,0⟩) [.var [.lst true [],.int .i64 0,.int .i8 lr],.row 0 1 []] w:=R2
  refine (ZuW L hb R3 (bi:=⟨none,1,0⟩) (Bmap.put_same β 1 0 _) (hle _ _ _ hβ0) (A:=A) (cap:=0) hheap (Or.inr ⟨rfl,rfl,rfl⟩) (h1.mono (Imm.le.refl I) hle _ _) (by simpa using hc.1) hc.2).mono ?_
  rintro e w' ⟨u,he,β',hb',hR,hv⟩
  obtain ⟨β2,hk2,hR2,_⟩:=Zow hR 1 []
  refine ⟨u,he,I,β2,Imm.le.refl I,(KeptE.of_le (hle.trans hb')).trans hk2,?_,by simpa [ZaP,VR,VRs] using hv⟩
  have hgc:(gcA 1 [] [.var [.sl 1 (0+1) 0 ([]++ys).length,.int .i64 0,.int .i8 0],.row (0+1) 1 ([]++ys)]).2=[.var [.sl 1 0 0 ys.length,.int .i64 0,.int .i8 0],.row 0 1 ys]:=rfl
  rw [hgc] at hR2
  exact hR2
 ·rename_i y ys g m lr g' xs
  split at hg
  case isFalse=>cases hg
  rename_i hc
  obtain ⟨rfl,rfl,hc1,hc2⟩:=hc
  simp only [Option.some.injEq,Prod.mk.injEq] at hg
  obtain ⟨rfl,rfl⟩:=hg
  simp only [VRs] at hargs
  obtain ⟨v0,_,hvs,h0,v1,_,rfl,h1,rfl⟩:=hargs
  have hvs':vs=#[v0,v1]:=by rw [←Array.toList_inj];exact hvs
  subst hvs'
  simp only [VR] at h0
  obtain ⟨b,k,c,hβ0,rfl⟩:=h0
  obtain ⟨b',k',c',us,ty,hβ,hheap,hcs⟩:=R.blk 0 _ rfl
  rw [hβ0] at hβ;injection hβ with hβ;injection hβ with hβ1 hβ2 hβ3;injection hβ1 with hβ1;subst hβ1 hβ2 hβ3
  obtain ⟨bi,hbi,hk1,_⟩:=R.blk 1 (.row g 1 xs) rfl
  simp only [VRs] at hcs
  obtain ⟨u0,_,hus,hu0,u1,_,rfl,hu1,u2,_,rfl,hu2,rfl⟩:=hcs
  rw [Zb2] at hu0
  simp only [VR] at hu1 hu2
  subst hu1 hu2
  obtain ⟨bi',hbi',_,_,hcase⟩:=hu0
  rw [hbi] at hbi';injection hbi' with hbi';subst hbi'
  obtain ⟨A,cap,rfl,hA⟩:∃ A cap,u0=.slice A xs.length cap∧((∃ gb,bi.b=some gb∧A=some ⟨gb,0,none⟩∧cap=bi.cap)∨(bi.b=none∧cap=0∧bi.cap=0)):=by
   rcases hcase with ⟨gb,e1,e2⟩ | ⟨e1,e2,A,e3⟩
   ·exact ⟨_,_,e2,Or.inl ⟨gb,e1,rfl,rfl⟩⟩
   ·obtain ⟨bi2,hbi2,_,_,_,hxl,_⟩:=R.blk 1 (.row g 1 xs) rfl
    rw [hbi] at hbi2;injection hbi2 with hbi2;subst hbi2
    exact ⟨A,0,by rw [e3,show xs.length=0 by omega],Or.inr ⟨e1,rfl,e2⟩⟩
  have hus':us=#[.slice A xs.length cap,.int .i64 0,.int .i8 lr]:=by rw [←Array.toList_inj];simpa using hus
  subst hus'
  refine (ZuW L hb R hbi hβ0 hheap hA h1 hc1 hc2).mono ?_
  rintro e w' ⟨u,he,β',hb',hR,hv⟩
  exact ⟨u,he,I,β',Imm.le.refl I,KeptE.of_le hb',hR,hv⟩
 ·cases hg
end
end Go.Proofs.YtmlkhhidifjjfaaDoor
namespace Go.Proofs.YtmlkhhidifjjfaaDoor
open Go.Shelf
def ZwA:Ren:=⟨fun | 180=>130 | 251=>150 | 252=>151 | 181=>159 | 184=>160 | 290=>161 | 324=>164 | n=>n,fun | 130=>190 | 37=>22 | 3=>3 | 75=>187 | 0=>0 | 93=>135 | 91=>133 | 131=>123 | 4=>4 | 20=>20 | 5=>5 | 80=>118 | 9=>9 | n=>n,fun | 14=>2 | n=>n⟩
theorem ZKF:Go.Proofs.LaysM.n180 Tryd.prog ZwA:={ mixed:=by kernel_rfl,f180:=Tryd.func130.trans (congrArg some (by kernel_rfl)),f181:=Tryd.func159.trans (congrArg some (by kernel_rfl)),f184:=Tryd.func160.trans (congrArg some (by kernel_rfl)),f251:=Tryd.func150.trans (congrArg some (by kernel_rfl)),f252:=Tryd.func151.trans (congrArg some (by kernel_rfl)),f290:=Tryd.func161.trans (congrArg some (by kernel_rfl)),f324:=Tryd.func164.trans (congrArg some (by kernel_rfl)),t0:=Tryd.underlying0,a0:=Tryd.isAgg0,z0:=Tryd.sizeOf0,v0:=Tryd.zeroValue0,t3:=Tryd.underlying3,a3:=Tryd.isAgg3,z3:=Tryd.sizeOf3,v3:=Tryd.zeroValue3,t4:=Tryd.underlying4,a4:=Tryd.isAgg4,z4:=Tryd.sizeOf4,v4:=Tryd.zeroValue4,t20:=Tryd.underlying20,a20:=Tryd.isAgg20,z20:=Tryd.sizeOf20,v20:=Tryd.zeroValue20,t37:=Tryd.underlying22,a37:=Tryd.isAgg22,z37:=Tryd.sizeOf22,v37:=Tryd.zeroValue22,t75:=Tryd.underlying187,a75:=Tryd.isAgg187,z75:=Tryd.sizeOf187,v75:=Tryd.zeroValue187,t91:=Tryd.underlying133,a91:=Tryd.isAgg133,z91:=Tryd.sizeOf133,v91:=Tryd.zeroValue133,t93:=Tryd.underlying135,a93:=Tryd.isAgg135,z93:=Tryd.sizeOf135,v93:=Tryd.zeroValue135,t130:=Tryd.underlying190,a130:=Tryd.isAgg190,z130:=Tryd.sizeOf190,v130:=Tryd.zeroValue190,t131:=Tryd.underlying123,a131:=Tryd.isAgg123,z131:=Tryd.sizeOf123,v131:=Tryd.zeroValue123,g14:=by kernel_rfl,t5:=Tryd.underlying5,a5:=Tryd.isAgg5,z5:=Tryd.sizeOf5,v5:=Tryd.zeroValue5,t9:=Tryd.underlying9,a9:=Tryd.isAgg9,z9:=Tryd.sizeOf9,v9:=Tryd.zeroValue9,t80:=Tryd.underlying118,a80:=Tryd.isAgg118,z80:=Tryd.sizeOf118,v80:=Tryd.zeroValue118,i0:=by kernel_rfl,i3:=by kernel_rfl,i4:=by kernel_rfl,i5:=by kernel_rfl,i9:=by kernel_rfl,i20:=by kernel_rfl,i37:=by kernel_rfl,i75:=by kernel_rfl,i80:=by kernel_rfl,i91:=by kernel_rfl,i93:=by kernel_rfl,i130:=by kernel_rfl,i131:=by kernel_rfl,m14:=by kernel_rfl }
end Go.Proofs.YtmlkhhidifjjfaaDoor
namespace Go.Proofs.YtmlkhhidifjjfaaDoor
theorem ZEc:∃ fn,Tryd.prog.funcs[130]?=some fn∧fn.body.isSome=true∧(fn.name == "runtime.NumGoroutine")=false:=⟨Tryd.f130,Tryd.func130,by kernel_rfl,by kernel_rfl⟩
theorem ZJZ:Zjr Tryd.prog PR1:=by
 intro f g h args σ r σ' hg
 unfold PR1 at h
 split at h
 ·rename_i e;subst e
  injection h with h;subst h
  exact ZJ4 hg
 ·split at h
  ·rename_i e;subst e
   injection h with h;subst h
   exact ZOD ZKF rfl ZEc hg
  ·exact ZqB f g h args σ r σ' hg
theorem ZF8:ZaK Tryd.prog E1:=by
 have h:E1=EV CF PR1 BY:=ZFU CF PR1 BY
 rw [h]
 exact ZGm ZiD ZJZ ann BY
end Go.Proofs.YtmlkhhidifjjfaaDoor
namespace Go.Proofs.YtmlkhhidifjjfaaDoor
open Go.RowKit Go.Shelf Go.Lib
theorem ZMm {W:World} (h:Lib.Utf8Tabs 0 1 W):Gl.le (Imm.of W):=by
 intro b o u hu
 unfold Gl at hu
 unfold Imm.of
 split at hu
 ·rename_i e;subst e
  split at hu
  ·rename_i ho
   rw [h.1 o ho,←hu]
  ·cases hu
 ·split at hu
  ·rename_i e;subst e
   split at hu
   ·rename_i ho
    rw [←hu]
    obtain ⟨h1,h2⟩:=h.2 (o / 2) (by omega)
    by_cases hp:o % 2=0
    ·rw [if_pos hp,←h1];congr 2;omega
    ·rw [if_neg hp,←h2];congr 2;omega
   ·cases hu
  ·cases hu
section
open Go.RowKit
variable {H:Type} {enc:TypeId×Value→H} {P:Program} {w:World} {spare:Nat→Bool} {held:Bool}
end
end Go.Proofs.YtmlkhhidifjjfaaDoor
namespace Go.Proofs.YtmlkhhidifjjfaaDoor
open Go.ChangeShapes Go.WideShapes Go.ChangeAt Go.RowKit Go.Deep
theorem ZLJ:ownKnob Tryd.prog.godebug=none:=by kernel_rfl
theorem Zs1:laidOutB Tryd.prog=true:=by kernel_rfl
theorem ZEr {W:World} (hLH:laidMetH Tryd.prog Rows.packetShortRow.laid W):Gl.le (Imm.of W):=by
 have hL:laidMet Tryd.prog Rows.packetShortRow.laid W:=by rw [←MakeChecks.laidMetH_plain _ _ _ (by kernel_rfl)];exact hLH
 have e1:Rows.laid_unicode_utf8_first=Lib.firstData:=by kernel_rfl
 have e2:(Rows.laid_unicode_utf8_acceptRanges:DataW Unit)=Lib.acceptData:=by kernel_rfl
 have h1:Lib.VarReads Tryd.prog W "unicode/utf8.first" Lib.firstData:=by rw [←e1];exact Lib.laidMet.reads hL (.tail _ (.tail _ (.head _)))
 have h2:Lib.VarReads Tryd.prog W "unicode/utf8.acceptRanges" Lib.acceptData:=by rw [←e2];exact Lib.laidMet.reads hL (.head _)
 exact ZMm (utf8Tabs_of_readsT (U8Types.of196 Zuj) ⟨by kernel_rfl,by kernel_rfl,by kernel_rfl,by kernel_rfl,by kernel_rfl,by kernel_rfl,by kernel_rfl⟩ h1 h2)
set_option maxRecDepth 100000 in
set_option maxHeartbeats 1000000 in
theorem ZM6 (H:Type) (enc:TypeId×Value→H) (W:World) (base:Nat) (args:Array Value) (ds gs:List (DataW H)) (before:List MemPlace) (vts:List TypeId)
  (hval0:∀ (j:Nat) t v,Tryd.f6.params[j]?=some t→args[j]?=some v→Value.okWide Tryd.prog W .any base t v)
  (hW:DataW.Whole enc Tryd.prog Tryd.f6.params.toList Rows.packetShortSpec.vars false W args.toList ds gs before) (hL:laidMetH Tryd.prog Rows.packetShortRow.laid W) (hwt:(DataW.weightsEach Tryd.prog (Tryd.f6.params.toList++vts) (ds++gs)).all (·≤reachBytes)=true) :
  Calls Tryd.prog 6 args W fun e W'=>∃ v,e=.returned v∧Rows.packetShortSpec.post enc Tryd.prog Tryd.f6 false true false false W args v W':=by
 have hW':=hW
 obtain ⟨p,q,hA0,hV,rfl,hfz,hnd⟩:=hW
 have hval:∀ (j:Nat) t v,Tryd.f6.params[j]?=some t→args[j]?=some v→Value.okWide Tryd.prog W .any base t v:=hval0
 have hA:DataW.TrodAll enc Tryd.prog W 0 (fun _=>true) true Tryd.f6.params.toList args.toList ds p:=hA0
 rw [Tryd.params6] at hA hval hwt
 obtain ⟨v0,vs0,d0,ds0,p0,q0,hargs,rfl,rfl,h0,r0⟩:=trodAll_cons hA
 obtain ⟨v1,vs1,d1,ds1,p1,q1,rfl,rfl,rfl,h1,r1⟩:=trodAll_cons r0
 obtain ⟨rfl,rfl,rfl⟩:=trodAll_nil r1
 obtain rfl:args=#[v0,v1]:=by cases args;simp_all
 obtain ⟨rfl,rfl⟩:=trodVars_none hV
 have k0:=h0
 have lt0:∀ x ∈ p0,x.block < W.heap.size:=by obtain ⟨m,hm⟩:=k0;exact DataW.trod_lt m _ _ _ hm
 obtain ⟨x0,y0,z0,_⟩:=Zsq (R:=reachBytes) (n:=12) (T:=Zn1) (by kernel_rfl) (by kernel_rfl) (fun m hm=>of_decide_eq_true (List.all_eq_true.1 hwt m (DataW.weights_mem_each (j:=0) rfl rfl m hm))) (hval 0 68 v0 rfl rfl) h0
 rw [Tryd.underlying68] at y0
 obtain ⟨a0,b0,rfl⟩:=ZC3 y0
 have k1:=h1
 have lt1:∀ x ∈ p1,x.block < W.heap.size:=by obtain ⟨m,hm⟩:=k1;exact DataW.trod_lt m _ _ _ hm
 obtain ⟨x1,y1,z1,_⟩:=Zsq (R:=reachBytes) (n:=12) (T:=(.int .i64)) (by kernel_rfl) (by kernel_rfl) (fun m hm=>of_decide_eq_true (List.all_eq_true.1 hwt m (DataW.weights_mem_each (j:=1) rfl rfl m hm))) (hval 1 3 v1 rfl rfl) h1
 rw [Tryd.underlying3] at y1
 obtain ⟨a1,b1,rfl⟩:=ZCU y1
 clear hA0 hval0
 have rb:reachBytes≤9223372036854775807:=by decide
 have hq:=ZIu a0 a1 (ZDl b0 rb)
 refine (ZyT ZF8 (ZEr hL) (args:=[ZZ a0,.int .i64 a1]) (by simp only [VRs];exact ⟨_,_,rfl,z0,_,_,rfl,z1,rfl⟩) (hq)).mono fun e W' ⟨he,bel⟩=>?_
 subst he
 exact ⟨_,rfl,_,_,_,[],_,[],hW',trodAll_mk1 (shut_bool Tryd.underlying4 _),(trodAll_cons_mk (Below.trod Zs1 (by kernel_rfl) (of_decide_eq_true (by kernel_rfl)) k0 bel lt0) (trodAll_cons_mk (Below.trod Zs1 (by kernel_rfl) (of_decide_eq_true (by kernel_rfl)) k1 bel lt1) trodAll_mk0)),rfl,bel.frame _,fun h=>by cases h⟩
noncomputable def Zms (os:Os):World :=
 let w0:=World.holding Tryd.prog os ⟨#[],#[],[]⟩
 let put (h:Array Obj) (g:Nat) (us:Array Value):Array Obj:=h.modify g fun
  | .cells _ t frozen=>.cells us t frozen
  | o=>o
 let h1:=put w0.heap 0 (Lib.firstTab.map fun z=>Value.int .u8 z).toArray
 let h2:=put h1 1 ((List.range 16).flatMap fun i=>[Value.int .u8 (Lib.accLo i),Value.int .u8 (Lib.accHi i)]).toArray
 let h3:=(put h2 2 #[Value.iface 221 (.pointer (some ⟨h2.size,0,none⟩))]).push (.cells #[Value.string ⟨#[98,121,116,101,115,46,66,117,102,102,101,114,58,32,116,111,111,32,108,97,114,103,101]⟩] 237)
 { w0 with heap:=h3 }
theorem ZzP (os:Os):laidMet Tryd.prog Rows.packetShortRow.laid ((Zms os).forCall (fun _ _=>0) ⟨#[],#[.agg #[.int .i64 0,.bool false,.int .i64 0,.bool false,.int .i64 0,.string ByteArray.empty,.slice none 0 0,.int .i64 0,.slice none 0 0,.slice none 0 0,.slice none 0 0,.slice none 0 0,.bool false,.int .i64 0,.string ByteArray.empty,.bool false,.string ByteArray.empty,.slice none 0 0,.int .i64 0,.bool false,.slice none 0 0,.bool false,.string ByteArray.empty,.bool false,.slice none 0 0,.bool false],.int .i64 0],[]⟩).memory :=
 laidMet_of_run' 8 (by kernel_rfl) (by kernel_rfl)
theorem Zx7 (os:Os) {H:Type} (enc:TypeId×Value→H):∃ ds places,DataW.whole enc Tryd.prog ((Zms os).forCall (fun _ _=>0) ⟨#[],#[.agg #[.int .i64 0,.bool false,.int .i64 0,.bool false,.int .i64 0,.string ByteArray.empty,.slice none 0 0,.int .i64 0,.slice none 0 0,.slice none 0 0,.slice none 0 0,.slice none 0 0,.bool false,.int .i64 0,.string ByteArray.empty,.bool false,.string ByteArray.empty,.slice none 0 0,.int .i64 0,.bool false,.slice none 0 0,.bool false,.string ByteArray.empty,.bool false,.slice none 0 0,.bool false],.int .i64 0],[]⟩).memory Tryd.f6.params.toList Rows.packetShortSpec.vars false #[.agg #[.int .i64 0,.bool false,.int .i64 0,.bool false,.int .i64 0,.string ByteArray.empty,.slice none 0 0,.int .i64 0,.slice none 0 0,.slice none 0 0,.slice none 0 0,.slice none 0 0,.bool false,.int .i64 0,.string ByteArray.empty,.bool false,.string ByteArray.empty,.slice none 0 0,.int .i64 0,.bool false,.slice none 0 0,.bool false,.string ByteArray.empty,.bool false,.slice none 0 0,.bool false],.int .i64 0].toList 8=some (ds,[],places) :=
 ⟨[.agg [.lit (.int .i64 0),.lit (.bool false),.lit (.int .i64 0),.lit (.bool false),.lit (.int .i64 0),.lit (.string []),.nil,.lit (.int .i64 0),.nil,.nil,.nil,.nil,.lit (.bool false),.lit (.int .i64 0),.lit (.string []),.lit (.bool false),.agg [.lit (.string []),.nil,.lit (.int .i64 0),.lit (.bool false),.nil],.lit (.bool false),.lit (.string []),.lit (.bool false),.nil,.lit (.bool false)],.lit (.int .i64 0)],[],by kernel_rfl⟩
set_option maxRecDepth 100000 in
set_option maxHeartbeats 1000000 in
theorem ZM7 (os:Os) (started:os.Started) (H:Type) (enc:TypeId×Value→H) (F:Stop.Interp) :
  ReturnsInHanded {} Tryd.checked os 6 .any ((OpenSpec.ofChange Rows.packetShortSpec).preRow enc Tryd.prog Tryd.f6 Rows.packetShortRow.domain false Rows.packetShortRow.laid) (((OpenSpec.ofChange Rows.packetShortSpec).at F).post enc Tryd.prog Tryd.f6 false true false false):=by
 obtain ⟨ds,places,hx⟩:=Zx7 os enc
 refine returnsInHanded_of_row (C:=Tryd.checked) (s:=(OpenSpec.ofChange Rows.packetShortSpec)) ZLJ started (by kernel_rfl) Tryd.func6
  (witness_row_at (enc:=enc) (C:=Tryd.checked) false (Zms os) #[.agg #[.int .i64 0,.bool false,.int .i64 0,.bool false,.int .i64 0,.string ByteArray.empty,.slice none 0 0,.int .i64 0,.slice none 0 0,.slice none 0 0,.slice none 0 0,.slice none 0 0,.bool false,.int .i64 0,.string ByteArray.empty,.bool false,.string ByteArray.empty,.slice none 0 0,.int .i64 0,.bool false,.slice none 0 0,.bool false,.string ByteArray.empty,.bool false,.slice none 0 0,.bool false],.int .i64 0] rfl (by kernel_rfl) (by kernel_rfl) (by kernel_rfl)
   (OpenSpec.preRow_of_cond 8 hx (by kernel_rfl) (fun k hk=>by cases hk) (by kernel_rfl) (ZzP os))) ?_
 intro W base args ds gs before hval hW _ hcond hwt hL _ _
 exact ZM6 H enc W base args ds gs before _ hval hW hL hwt
theorem ZIJ:Rows.PacketShortSaid :=
 OpenClaim.holds_of_cond 6 Tryd.f6 rfl rfl rfl rfl rfl rfl rfl ⟨rfl,rfl,rfl,rfl,rfl⟩ rfl rfl rfl rfl rfl (by kernel_rfl) Tryd.func6 (by kernel_rfl)
  (of_decide_eq_true (by kernel_rfl)) (by unfold Func.isWrapper;first | (rw [if_pos (by decide +kernel)];kernel_rfl) | (rw [if_neg (by decide +kernel)];exact ⟨rfl,rfl⟩))
  (fun os started H enc _ F=>by rw [OpenClaim.pre_eq_preRow];exact ZM7 os started H enc F)
theorem ZGl (f:FuncId) (fn:Func) (hf:Tryd.pinned.checked.prog.funcNamed "tidings/tidingslaw12.PacketShort"=some f) (hfn:Tryd.pinned.checked.prog.funcs[f]?=some fn) :
  true=Tryd.pinned.checked.prog.looks []∧∀ (j:Nat) t,fn.params[j]?=some t→Tryd.pinned.checked.prog.wantsStandIn t=false:=by
 obtain rfl:f=6:=Option.some.inj ((show Tryd.prog.funcNamed "tidings/tidingslaw12.PacketShort"=some 6 by kernel_rfl).symm.trans hf) |>.symm
 obtain rfl:fn=Tryd.f6:=(Option.some.inj (Tryd.func6.symm.trans hfn)).symm
 refine ⟨by kernel_rfl,fun j t ht=>?_⟩
 rw [Tryd.params6] at ht
 have hm:t=68∨t=3:=by
  have:=Array.mem_of_getElem? ht
  simp at this
  first | exact this | exact this.symm | omega | (rcases this with h | h | h <;> simp [h]) | (rcases this with h | h | h | h <;> simp [h]) | (rcases this with h | h | h | h | h <;> simp [h]) | (rcases this with h | h | h | h | h | h <;> simp [h]) | (rcases this with h | h | h | h | h | h | h <;> simp [h])
 rcases hm with rfl | rfl
 ·exact (show Tryd.prog.wantsStandIn 68=false by kernel_rfl)
 ·exact (show Tryd.prog.wantsStandIn 3=false by kernel_rfl)
theorem packetShort_card:Rows.PacketShortCardSaid :=
 Claim7.holds_tied_plain_at .later [] _ _ _ _ ZIJ (fun _ h=>by cases h) (by kernel_rfl) (fun _ h=>by cases h) packetShort_row_tie rfl ⟨rfl,rfl⟩ (by kernel_rfl) rfl ZGl (by kernel_rfl)
#print axioms packetShort_card
end Go.Proofs.YtmlkhhidifjjfaaDoor
