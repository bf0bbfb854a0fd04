/- packed -/
import Derived.Test.YtmlkhhidifjjfaaDoorMl4
import Derived.Test.YtmlkhhidifjjfaaDoorMl2
import Derived.Test.YtmlkhhidifjjfaaDoorMl3
import Derived.Lib.LaidU8T
import Derived.Test.YtmlkhhidifjjfaaDoorRows
import Derived.Deep.Slices
import Derived.Shelf.LaysM
import Derived.Shelf.Bytes.TryGrowAt
import Derived.Shelf.Bytes.GrowSliceCatch
import Derived.Lib.ByteType
import Derived.Lib.BufferAt
import Derived.Lib.BufferOwn
import Derived.Lib.AppendZeros
import Derived.Lib.Walk
import Derived.Lib.Hide
import Derived.Laws.CopyRow
import Derived.Laws.IdiomCopy
import Derived.Laws.MakeOwn
import Derived.WalkKit
import Derived.OwnWalk
import Derived.Defers
import Derived.Recover
import Derived.RegionTactic
import Derived.Shelf.RegionOpenPlain
import Derived.Deep.RegionWith
import Derived.Deep.Draws
import Derived.BigCall
import Derived.BigGuard
set_option linter.defProp false
set_option linter.unusedSectionVars false
set_option linter.unusedSimpArgs false
set_option linter.unusedVariables false
namespace Go.Proofs.YtmlkhhidifjjfaaDoor
set_option maxHeartbeats 16000000
set_option maxRecDepth 10000
section
theorem ZuR {n:Nat} {l r:Zb} {a:Int} (hn:0 < n) (h:ZaG n l=.ok (a,r)):r.length < l.length:=by
 unfold ZaG at h
 split at h
 ·cases h
 ·injection h with h;injection h with _ h;subst h;rw [List.length_drop];omega
theorem Zpd {l r a:Zb} (h:Zap l=.ok (a,r)):r.length < l.length:=by
 unfold Zap at h
 split at h
 ·rename_i h0
  injection h with h;injection h with _ h;subst h
  rw [List.length_drop]
  unfold Zaf at h0 ⊢
  split at h0
  ·rename_i h1;exact absurd h0 h1
  ·rename_i h1
   rw [if_neg h1]
   split at h0
   ·rename_i h2
    rw [if_pos h2]
    unfold ZaB at h0 ⊢
    split at h0
    ·cases h0
    ·rename_i h3
     rw [if_neg h3]
     simp only
     omega
   ·cases h0
 ·cases h
theorem Zmt {k:Int} {l r:Zb} {a:Int} (h:ZaK k l=.ok (a,r)):r.length < l.length:=by
 unfold ZaK at h
 split at h
 ·rename_i h1
  split at h
  ·injection h with h;injection h with _ h;subst h;exact ZuR (by omega) h1
  ·cases h
 ·cases h
theorem Zjp {l r:Zb} {a:Zbv} (h:Zbw l=.ok (a,r)):r.length < l.length:=by
 unfold Zbw at h
 split at h
 ·cases h
 rename_i f r1 ht
 have l1:=Zpd ht
 split at h
 ·cases h
 rename_i o r2 hn
 have l2:=ZuR (by omega) hn
 split at h
 case isFalse=>cases h
 split at h
 case isFalse=>cases h
 injection h with h;injection h with _ h;subst h
 omega
section
variable {O:ZU} {bf:Nat->Bool} {f:Nat} {cs cs1 cs2 cs3 xs xs2:List AVal} {w w2:Nat} {q:AVal}
theorem ZAf (hb:bf f=false) (hc:Zd cs=true) (hq:ZQ q=true) (hback:∀ ρ:Rho,ρ 1 0=some (1,0)->Zf ρ cs2=cs2) (hO:O f [.ref 0 0] [.var cs]=some (q,[.var cs2,.row 0 w xs])) :
  Zo O bf [.var cs,.free,.free,.free,.free] 1 f 4 false [.ref 0 0]=some (q,[.var cs2,.row 0 w xs,.free,.free,.free],{ any:=true,upd:=[(0,cs2)] }):=by
 have ec:=fun ρ=>ZaW ρ cs hc
 refine Zc4 (ids:=[0]) (vs:=[.ref 0 0]) hb rfl (Zfr rfl hc) rfl rfl rfl ?_ hO rfl (by simp) (by simp) rfl rfl (Za7 _ q hq).1 ?_ rfl
 ·show [ZN.var (Zf _ cs)]=_
  rw [(ec _).1]
 ·have hb3:=hback (Zax [.var cs,.free,.free,.free,.free] [0] 1) rfl
  show [ZN.var (Zf _ cs2),.row 0 w xs,.free,.free,.free]=_
  rw [hb3]
theorem ZBk (hb:bf f=false) (hc:Zd cs=true) (hq:ZQ q=true) (hc2:Zd cs2=true) (hO:O f [.ref 0 0] [.var cs]=some (q,[.var cs2])) :
  Zo O bf [.var cs,.free,.free,.free,.free] 1 f 4 false [.ref 0 0]=some (q,[.var cs2,.free,.free,.free,.free],{ any:=true,upd:=[(0,cs2)] }):=by
 have ec:=fun ρ=>ZaW ρ cs hc
 refine Zc4 (ids:=[0]) (vs:=[.ref 0 0]) hb rfl (Zfr rfl hc) rfl rfl rfl ?_ hO rfl (by simp) (by simp) rfl rfl (Za7 _ q hq).1 ?_ rfl
 ·show [ZN.var (Zf _ cs)]=_
  rw [(ec _).1]
 ·show [ZN.var (Zf _ cs2),.free,.free,.free,.free]=_
  rw [(ZaW _ cs2 hc2).1]
theorem ZvE {g2:Nat} (hb:bf f=false) (hc:Zp cs=[1]) (hren:∀ ρ:Rho,ρ 1 0=some (1,0)->Zf ρ cs=cs) (hq:ZQ q=true) (hg2:g2<=1) (hback:∀ ρ:Rho,ρ 1 g2=some (1,g2)->Zf ρ cs2=cs2) (hO:O f [.ref 0 0] [.var cs,.row 0 w xs]=some (q,[.var cs2,.row g2 w2 xs2])) :
  Zo O bf [.var cs,.row 0 w xs,.free,.free,.free,.free] 2 f 4 false [.ref 0 0]=some (q,[.var cs2,.row g2 w2 xs2,.free,.free,.free,.free],{ any:=true,upd:=[(0,cs2)] }):=by
 refine Zc4 (ids:=[0,1]) (vs:=[.ref 0 0]) hb rfl (Zrn (g:=0) (w:=w) (xs:=xs) rfl rfl (by omega) hc) rfl rfl rfl ?_ hO rfl (by simp) (by simp) ?_ rfl (Za7 _ q hq).1 ?_ rfl
 ·have h1:=hren (Zj [.var cs,.row 0 w xs,.free,.free,.free,.free] 0 [0,1]) rfl
  show [ZN.var (Zf _ cs),.row 0 w xs]=_
  rw [h1]
 ·simp [Za0,okB,Zce,Zl,hg2]
 ·have hb3:=hback (Zax [.var cs,.row 0 w xs,.free,.free,.free,.free] [0,1] 2) (by simp [Zax,Zl])
  show [ZN.var (Zf _ cs2),.row (0+g2) w2 xs2,.free,.free,.free,.free]=_
  rw [hb3,Nat.zero_add]
theorem ZvR {f g:Nat} (hc:Zp cs=[1]) (hg:g<=1) (hren:∀ ρ:Rho,ρ 1 g=some (1,0)->Zf ρ cs=cs1) (τ:Za) :
  gcT 1 [(1,.fn f [.ref 0 0]),(0,.ref 0 0)] (.var cs::.row g w xs::τ)=([(1,.fn f [.ref 0 0]),(0,.ref 0 0)],[.var cs1,.row 0 w xs]):=by
 have hi:Zv 1 [.fn f [.ref 0 0],.ref 0 0] (.var cs::.row g w xs::τ)=[0,1]:=by
  have hR:List.range 1=[0]:=rfl
  simp only [Zv,hR,List.flatMap_cons,List.flatMap_nil,List.append_nil,List.getD_cons_zero,ZC,Zp,ZS,hc]
  rfl
 have hρ:Zj (.var cs::.row g w xs::τ) 1 [0,1] 1 g=some (1,0):=by
  simp [Zj,ZJ,Zl,ZE]
 have hρ0:Zj (.var cs::.row g w xs::τ) 1 [0,1] 0 0=some (0,0):=rfl
 simp only [gcT,gcA,List.map_cons,List.map_nil,hi,Zr,List.getD_cons_zero,List.getD_cons_succ,ZE,Zl,Zw,Zf,Zm,hρ0,hren _ hρ]
 simp
end
section
variable (Q:List AVal) (hQ:Q.length=26) (hN:Zd Q=true) (h10:Q[10]?=some (.lst true []))
include hQ hN
def H1 (Q:List AVal) (n:Nat) (l:Zb) (ys:List AVal):Za:=[.var (Zk Q 10 1 0 n++[.lst false (l.map Zc)]),.row 0 6 ys]
def tmS:Tms:=[(1,.fn 1000122 [.ref 0 0]),(0,.ref 0 0)]
theorem ZuE:∀ (n:Nat) (l:Zb) (xs:List Zbv),l.length<=n->n+xs.length<=1099511627776 ->
  (∀ ts,ZaP Zbw n l=.ok ts->Za5 1 tmS (H1 Q xs.length l (xs.map Z5))=some (.tup [],H1 Q (xs++ts).length [] ((xs++ts).map Z5))) /\
  (∀ e,ZaP Zbw n l=.error e->∃ (xs':List Zbv) (r:Zb),Za5 1 tmS (H1 Q xs.length l (xs.map Z5))=some (.pan (ZB e),H1 Q xs'.length r (xs'.map Z5))):=by
 have hk:(10:Nat) < 26:=by omega
 intro n
 induction n with
 | zero =>
  intro l xs hl hx
  have l0:l=[]:=List.eq_nil_of_length_eq_zero (by omega)
  subst l0
  refine ⟨fun ts h=>?_,fun e h=>by simp [ZaP] at h⟩
  have : ts=[]:=by simpa [ZaP] using h.symm
  subst this
  rw [List.append_nil]
  have hL:=Zb0 Q hQ hN 10 hk xs.length 1 0
  have b2:=Zat _ hL
  have hO:=fun τ=>Zc2 (j:=1) (w:=6) (xs:=xs.map Z5) (r:=.tup []) (σ:=.var (Zk Q 10 1 0 xs.length++[.lst false []])::.row 0 6 (xs.map Z5)::τ) rfl (by omega) rfl rfl (Zbu Q hQ hN hk 1 0 xs.length []) (fun ρ h=>ZaQ Q hQ hN hk 1 0 xs.length 1 0 [] ρ h)
  unfold H1 tmS Za5
  rw [Z2]
  generalize Zk Q 10 1 0 xs.length=R at *
  generalize xs.map Z5=ys at *
  simp -implicitDefEqProofs only [EQA,Zt,Nat.reduceAdd,Nat.reduceSub,Nat.reduceLT,Nat.reduceEqDiff,Nat.reduceBEq,reduceCtorEq,decide_eq_true_eq,↓reduceIte,Zd,ZmL,ZdG,Zc1,oI,b2]
  exact hO _
 | succ n ih =>
  intro l xs hl hx
  have hL:=Zb0 Q hQ hN 10 hk xs.length 1 0
  have b2:=Zat _ hL
  by_cases l0:l.length=0
  ·have l0:l=[]:=List.eq_nil_of_length_eq_zero l0
   subst l0
   refine ⟨fun ts h=>?_,fun e h=>by simp [ZaP] at h⟩
   have : ts=[]:=by simpa [ZaP] using h.symm
   subst this
   rw [List.append_nil]
   have hO:=fun τ=>Zc2 (j:=1) (w:=6) (xs:=xs.map Z5) (r:=.tup []) (σ:=.var (Zk Q 10 1 0 xs.length++[.lst false []])::.row 0 6 (xs.map Z5)::τ) rfl (by omega) rfl rfl (Zbu Q hQ hN hk 1 0 xs.length []) (fun ρ h=>ZaQ Q hQ hN hk 1 0 xs.length 1 0 [] ρ h)
   unfold H1 tmS Za5
   rw [Z2]
   generalize Zk Q 10 1 0 xs.length=R at *
   generalize xs.map Z5=ys at *
   simp -implicitDefEqProofs only [EQA,Zt,Nat.reduceAdd,Nat.reduceSub,Nat.reduceLT,Nat.reduceEqDiff,Nat.reduceBEq,reduceCtorEq,decide_eq_true_eq,↓reduceIte,Zd,ZmL,ZdG,Zc1,oI,b2]
   exact hO _
  ·have z1:((l.length:Nat):Int) > 0:=by omega
   have z2:(0:Int) < ((l.length:Nat):Int):=by omega
   cases ho:Zbw l with
   | error e =>
    refine ⟨fun ts h=>by simp [ZaP,l0,ho] at h,fun e' h=>?_⟩
    have : e'=e:=by simpa [ZaP,l0,ho] using h.symm
    subst this
    obtain ⟨r,hE⟩:=ZC5 Q hQ hN l (by omega) xs ho
    have hC:=ZvE (O:=E) (bf:=BY) (f:=122) (g2:=0) (by kernel_rfl) (Zbu Q hQ hN hk 1 0 xs.length l) (fun ρ h=>ZaQ Q hQ hN hk 1 0 xs.length 1 0 l ρ h) (q:=.pan (ZB e')) rfl (by omega) (fun ρ h=>ZaQ Q hQ hN hk 1 0 xs.length 1 0 r ρ h) hE
    have hO:=fun τ=>Zc2 (j:=1) (w:=6) (xs:=xs.map Z5) (r:=.pan (ZB e')) (σ:=.var (Zk Q 10 1 0 xs.length++[.lst false (r.map Zc)])::.row 0 6 (xs.map Z5)::τ) rfl (by omega) rfl rfl (Zbu Q hQ hN hk 1 0 xs.length r) (fun ρ h=>ZaQ Q hQ hN hk 1 0 xs.length 1 0 r ρ h)
    refine ⟨xs,r,?_⟩
    unfold H1 tmS Za5
    rw [Z2]
    clear hE ih
    generalize Zk Q 10 1 0 xs.length=R at *
    generalize xs.map Z5=ys at *
    generalize ZB e'=ce at *
    simp -implicitDefEqProofs only [EQA,Nat.reduceAdd,Nat.reduceSub,Nat.reduceLT,Nat.reduceEqDiff,Nat.reduceBEq,reduceCtorEq,↓reduceIte,ZdG,Zc1,oI,b2,hC,z1]
    exact hO _
   | ok s =>
    obtain ⟨s,r⟩:=s
    have hr:=Zjp ho
    have hE:=Zx1 Q hQ hN xs (by omega) l (by omega) ho
    have hC:=ZvE (O:=E) (bf:=BY) (f:=122) (g2:=1) (by kernel_rfl) (Zbu Q hQ hN hk 1 0 xs.length l) (fun ρ h=>ZaQ Q hQ hN hk 1 0 xs.length 1 0 l ρ h) (q:=.tup []) rfl (by omega) (fun ρ h=>ZaQ Q hQ hN hk 1 1 (xs.length+1) 1 1 r ρ h) hE
    have hG:=ZvR (f:=1000122) (w:=6) (xs:=(xs++[s]).map Z5) (g:=1) (Zbu Q hQ hN hk 1 1 (xs.length+1) r) (by omega) (fun ρ h=>ZaQ Q hQ hN hk 1 1 (xs.length+1) 1 0 r ρ h)
    have step:Za5 1 tmS (H1 Q xs.length l (xs.map Z5))=Za5 1 tmS (H1 Q (xs++[s]).length r ((xs++[s]).map Z5)):=by
     rw [show (xs++[s]).length=xs.length+1 from by simp]
     unfold H1 tmS
     conv=>lhs;unfold Za5
     conv=>rhs;unfold Za5
     conv=>lhs;rw [Z2]
     clear hE ih
     generalize Zk Q 10 1 0 xs.length=R at *
     generalize Zk Q 10 1 1 (xs.length+1)=R2 at *
     generalize Zk Q 10 1 0 (xs.length+1)=R3 at *
     generalize xs.map Z5=ys at *
     generalize (xs++[s]).map Z5=zs at *
     simp -implicitDefEqProofs only [EQA,ZV,Nat.reduceAdd,Nat.reduceSub,Nat.reduceLT,Nat.reduceEqDiff,Nat.reduceBEq,reduceCtorEq,↓reduceIte,ZdG,Zc1,oI,b2,hC,hG,z1]
    obtain ⟨i1,i2⟩:=ih r (xs++[s]) (by omega) (by simp;omega)
    refine ⟨fun ts h=>?_,fun e h=>?_⟩
    ·rw [step]
     simp only [ZaP,l0,ho,if_false] at h
     cases hl2:ZaP Zbw n r with
     | error e=>rw [hl2] at h;cases h
     | ok us =>
      rw [hl2] at h
      injection h with h;subst h
      have:=i1 us hl2
      rw [List.append_assoc,List.singleton_append] at this
      exact this
    ·rw [step]
     simp only [ZaP,l0,ho,if_false] at h
     cases hl2:ZaP Zbw n r with
     | error e2 =>
      rw [hl2] at h
      injection h with h;subst h
      exact i2 e2 hl2
     | ok us=>rw [hl2] at h;cases h
end
def ZbB {α:Type} (one:Zb->RK α) (k:Int) (l:Zb):Except Int (Int×List Zn×List α):=match ZdX k l with
 | .error e=>.error e
 | .ok (n,ps,r)=>match ZaP one r.length r with
  | .error e=>.error e
  | .ok ts=>.ok (n,ps,ts)
theorem Zjn {k:Int} {l:Zb} {n:Int} {ps:List Zn} {r:Zb} (h:ZdX k l=.ok (n,ps,r)):r.length<=l.length/\r.length≠0:=by
 unfold ZdX at h
 split at h
 ·cases h
 rename_i n' r1 hi
 have l1:=Zfo hi
 split at h
 ·cases h
 rename_i ps' r2 hp
 have l2:=ZgD hp
 split at h
 ·cases h
 rename_i hne
 injection h with h;injection h with e1 h;injection h with e2 e3;subst e1 e2 e3
 exact ⟨by omega,hne⟩
theorem ZlM {α:Type} {one:Zb->RK α} {n:Nat} {l:Zb} (h:l.length=n+1) {s:α} {r:Zb} (ho:one l=.ok (s,r)) (hlen:∀ {l s r},one l=.ok (s,r)->r.length < l.length):ZaP one l.length l=match ZaP one n r with
  | .error e=>.error e
  | .ok t=>.ok (s::t):=by
 rw [h]
 simp only [ZaP,h,Nat.add_eq_zero_iff,Nat.succ_ne_self,and_false,if_false,ho]
 all_goals rfl
section
variable {α:Type} {one:Zb->RK α} {g:α->AVal} {f kk:Nat} {k:Int} (hk:kk < 26) (hf:f < 1000000) (hby:BY f=false)
  (hlen:∀ {l s r},one l=.ok (s,r)->r.length < l.length)
  (hT0:∀ Q,QOk k Q->∀ (l:Zb) (s:α) (r:Zb),l.length<=1099511627776->one l=.ok (s,r)->E f [.ref 0 0,.ref 2 0] [.var [.ref 1 0],.var (Q++[.lst false (l.map Zc)]),.var [.ref 1 0]]=some (.tup [],[.var [.ref 1 0],.var (Zk Q kk 3 0 1++[.lst false (r.map Zc)]),.var [.ref 1 0],.row 0 1 [g s]]))
  (hF0:∀ Q,QOk k Q->∀ (l:Zb) (e:Int),l.length<=1099511627776->one l=.error e->∃ r:Zb,E f [.ref 0 0,.ref 2 0] [.var [.ref 1 0],.var (Q++[.lst false (l.map Zc)]),.var [.ref 1 0]]=some (.pan (ZB e),[.var [.ref 1 0],.var (Q++[.lst false (r.map Zc)]),.var [.ref 1 0]]))
  (hT1:∀ Q,QOk k Q->∀ (xs:List α) (l:Zb) (s:α) (r:Zb),l.length<=1099511627776->xs.length<=1099511627776->one l=.ok (s,r)->E f [.ref 0 0,.ref 3 0] [.var [.ref 1 0],.var (Zk Q kk 2 0 xs.length++[.lst false (l.map Zc)]),.row 0 1 (xs.map g),.var [.ref 1 0]]=some (.tup [],[.var [.ref 1 0],.var (Zk Q kk 2 1 (xs.length+1)++[.lst false (r.map Zc)]),.row 1 1 ((xs++[s]).map g),.var [.ref 1 0]]))
  (hF1:∀ Q,QOk k Q->∀ (xs:List α) (l:Zb) (e:Int),l.length<=1099511627776->one l=.error e->∃ r:Zb,E f [.ref 0 0,.ref 3 0] [.var [.ref 1 0],.var (Zk Q kk 2 0 xs.length++[.lst false (l.map Zc)]),.row 0 1 (xs.map g),.var [.ref 1 0]]=some (.pan (ZB e),[.var [.ref 1 0],.var (Zk Q kk 2 0 xs.length++[.lst false (r.map Zc)]),.row 0 1 (xs.map g),.var [.ref 1 0]]))
include hk hf hby hT0
theorem ZuL {Q:List AVal} (hQ:QOk k Q) {l r:Zb} {s:α} (hl:l.length<=1099511627776) (hl0:l.length≠0) (ho:one l=.ok (s,r)) :
  Za5 3 [(1,.fn f [.ref 1 0,.ref 2 0]),(0,.ref 0 0)] [.var (Q++[.lst false (l.map Zc)]),.var [.ref 0 0],.var [.ref 0 0]]=Za5 3 [(1,.fn f [.ref 1 0,.ref 2 0]),(0,.ref 0 0)] (H3 Q kk 1 r [g s]):=by
 have hE:=hT0 Q hQ l s r hl ho
 obtain ⟨hL,hN,-,-,-,-⟩:=hQ
 have z1:((l.length:Nat):Int) > 0:=by omega
 have z2:(0:Int) < ((l.length:Nat):Int):=by omega
 have b2:=Zat _ hL
 have hC:=ZNG (O:=E) (bf:=BY) (cs:=Q++[.lst false (l.map Zc)]) (cs3:=Zk Q kk 3 0 1++[.lst false (r.map Zc)]) hby (Zy Q hL hN false (l.map Zc)) (q:=.tup []) rfl (fun ρ h=>ZaQ Q hL hN hk 3 0 1 3 0 r ρ h) hE
 have hG:=Zu4 (f:=f) (w:=1) (xs:=[g s]) (g:=0) (Zbu Q hL hN hk 3 0 1 r) (by omega) (fun ρ h=>ZaQ Q hL hN hk 3 0 1 3 0 r ρ h)
 unfold H3
 conv=>lhs;unfold Za5
 conv=>rhs;unfold Za5
 conv=>lhs;rw [Z2]
 clear hE hT0
 generalize Zk Q kk 3 0 1=Q2 at *
 simp -implicitDefEqProofs only [EQA,ZV,Nat.reduceAdd,Nat.reduceLT,Nat.reduceEqDiff,Nat.reduceBEq,reduceCtorEq,↓reduceIte,ZdG,Zc1,oI,b2,hC,hG,hf,z1]
omit hT0
include hF0
theorem ZIq {Q:List AVal} (hQ:QOk k Q) {l:Zb} {e:Int} (hl:l.length<=1099511627776) (hl0:l.length≠0) (ho:one l=.error e) :
  ∃ r:Zb,Za5 3 [(1,.fn f [.ref 1 0,.ref 2 0]),(0,.ref 0 0)] [.var (Q++[.lst false (l.map Zc)]),.var [.ref 0 0],.var [.ref 0 0]]=some (.pan (ZB e),[.var (Q++[.lst false (r.map Zc)]),.var [.ref 0 0],.var [.ref 0 0]]):=by
 obtain ⟨r,hE⟩:=hF0 Q hQ l e hl ho
 obtain ⟨hL,hN,-,-,-,-⟩:=hQ
 have z1:((l.length:Nat):Int) > 0:=by omega
 have z2:(0:Int) < ((l.length:Nat):Int):=by omega
 have b2:=Zat _ hL
 have hC:=ZOW (O:=E) (bf:=BY) (cs:=Q++[.lst false (l.map Zc)]) (cs2:=Q++[.lst false (r.map Zc)]) hby (Zy Q hL hN false (l.map Zc)) (q:=.pan (ZB e)) rfl (Zy Q hL hN false (r.map Zc)) hE
 have hO:=fun τ=>Zly (r:=.pan (ZB e)) rfl (Zy Q hL hN false (r.map Zc)) τ
 refine ⟨r,?_⟩
 unfold Za5
 rw [Z2]
 clear hE hF0
 generalize ZB e=ce at *
 simp -implicitDefEqProofs only [EQA,Nat.reduceAdd,Nat.reduceLT,Nat.reduceEqDiff,Nat.reduceBEq,reduceCtorEq,↓reduceIte,ZdG,Zc1,oI,b2,hC,hf,z1]
 exact hO _
include hT0 hT1 hF1 hlen
theorem Zng {P:List AVal} (hP:QOk k P) {l:Zb} (hl:l.length<=1099511627775) {n:Int} {ps:List Zn} {ts:List α} (h:ZbB one k l=.ok (n,ps,ts)) :
  E 121 [.ref 0 0,.fn f [.ref 1 0,.ref 2 0]] [.var (P++[.lst false (l.map Zc)]),.var [.ref 0 0],.var [.ref 0 0]]=some (.tup [],H3 (ZbY P n ps) kk ts.length [] (ts.map g)):=by
 unfold ZbB at h
 split at h
 ·cases h
 rename_i n' ps' r hm
 obtain ⟨l1,l2⟩:=Zjn hm
 split at h
 ·cases h
 rename_i us hu
 injection h with h;injection h with e1 h;injection h with e2 e3;subst e1 e2 e3
 rw [Zr6 k f P hP l (by omega) hm]
 have hQ:=ZdT hP n' ps'
 generalize ZbY P n' ps'=Q at *
 obtain ⟨j,hj⟩:∃ j,r.length=j+1:=⟨r.length - 1,by omega⟩
 cases ho:one r with
 | error e =>
  rw [hj] at hu
  simp only [ZaP,hj,Nat.add_eq_zero_iff,Nat.succ_ne_self,and_false,if_false,ho] at hu
  cases hu
 | ok sr =>
  obtain ⟨s,r'⟩:=sr
  have hr:=hlen ho
  rw [ZlM hj ho hlen] at hu
  cases hl2:ZaP one j r' with
  | error e=>rw [hl2] at hu;cases hu
  | ok vs =>
   rw [hl2] at hu
   injection hu with hu;subst hu
   rw [ZuL hk hf hby hT0 hQ (by omega) l2 ho]
   exact (ZrN (g:=g) Q hQ.len hQ.nor hk hf hby hlen (hT1 Q hQ) (hF1 Q hQ) j r' [s] (by omega) (by simp;omega)).1 vs hl2
theorem Zn9 {P:List AVal} (hP:QOk k P) {l:Zb} (hl:l.length<=1099511627775) {e:Int} (h:ZbB one k l=.error e) :
  (∃ cs,Zd cs=true/\E 121 [.ref 0 0,.fn f [.ref 1 0,.ref 2 0]] [.var (P++[.lst false (l.map Zc)]),.var [.ref 0 0],.var [.ref 0 0]]=some (.pan (ZB e),[.var cs,.var [.ref 0 0],.var [.ref 0 0]])) \/
  (∃ (Q:List AVal) (xs:List α) (r:Zb),Q.length=26/\Zd Q=true/\E 121 [.ref 0 0,.fn f [.ref 1 0,.ref 2 0]] [.var (P++[.lst false (l.map Zc)]),.var [.ref 0 0],.var [.ref 0 0]]=some (.pan (ZB e),H3 Q kk xs.length r (xs.map g))):=by
 unfold ZbB at h
 split at h
 ·rename_i c hm
  injection h with h;subst h
  exact Or.inl (ZIj k f P hP l (by omega) hm)
 rename_i n' ps' r hm
 obtain ⟨l1,l2⟩:=Zjn hm
 rw [Zr6 k f P hP l (by omega) hm]
 have hQ:=ZdT hP n' ps'
 generalize ZbY P n' ps'=Q at *
 obtain ⟨j,hj⟩:∃ j,r.length=j+1:=⟨r.length - 1,by omega⟩
 split at h
 case h_2=>cases h
 rename_i c hu
 injection h with h;subst h
 cases ho:one r with
 | error e =>
  have : e=c:=by
   rw [hj] at hu
   simp only [ZaP,hj,Nat.add_eq_zero_iff,Nat.succ_ne_self,and_false,if_false,ho] at hu
   injection hu
  subst this
  obtain ⟨r',hr'⟩:=ZIq hk hf hby hF0 hQ (by omega) l2 ho
  exact Or.inl ⟨_,Zy Q hQ.len hQ.nor false (r'.map Zc),hr'⟩
 | ok sr =>
  obtain ⟨s,r'⟩:=sr
  have hr:=hlen ho
  rw [ZlM hj ho hlen] at hu
  cases hl2:ZaP one j r' with
  | ok vs=>rw [hl2] at hu;cases hu
  | error e2 =>
   rw [hl2] at hu
   injection hu with hu;subst hu
   rw [ZuL hk hf hby hT0 hQ (by omega) l2 ho]
   obtain ⟨xs',r2,hx⟩:=(ZrN (g:=g) Q hQ.len hQ.nor hk hf hby hlen (hT1 Q hQ) (hF1 Q hQ) j r' [s] (by omega) (by simp;omega)).2 e2 hl2
   exact Or.inr ⟨Q,xs',r2,hQ.len,hQ.nor,hx⟩
end
section
theorem ZsD {Q:List AVal} (hQ:QOk 8 Q) {l r:Zb} {s:Zbv} (hl:l.length<=1099511627776) (hl0:l.length≠0) (ho:Zbw l=.ok (s,r)) :
  Za5 1 tmS [.var (Q++[.lst false (l.map Zc)])]=Za5 1 tmS (H1 Q 1 r [Z5 s]):=by
 obtain ⟨hL,hN,-,-,h10,-⟩:=hQ
 have hk:(10:Nat) < 26:=by omega
 have hE:=Zzr Q hL hN h10 l (by omega) ho
 unfold Zi at hE
 have z1:((l.length:Nat):Int) > 0:=by omega
 have z2:(0:Int) < ((l.length:Nat):Int):=by omega
 have b2:=Zat _ hL
 have hC:=ZAf (O:=E) (bf:=BY) (f:=122) (cs:=Q++[.lst false (l.map Zc)]) (by kernel_rfl) (Zy Q hL hN false (l.map Zc)) (q:=.tup []) rfl (fun ρ h=>ZaQ Q hL hN hk 1 0 1 1 0 r ρ h) hE
 have hG:=ZvR (f:=1000122) (w:=6) (xs:=[Z5 s]) (g:=0) (Zbu Q hL hN hk 1 0 1 r) (by omega) (fun ρ h=>ZaQ Q hL hN hk 1 0 1 1 0 r ρ h)
 unfold H1 tmS
 conv=>lhs;unfold Za5
 conv=>rhs;unfold Za5
 conv=>lhs;rw [Z2]
 clear hE
 generalize Zk Q 10 1 0 1=Q2 at *
 generalize Z5 s=sv at *
 simp -implicitDefEqProofs only [EQA,ZV,Nat.reduceAdd,Nat.reduceSub,Nat.reduceLT,Nat.reduceEqDiff,Nat.reduceBEq,reduceCtorEq,↓reduceIte,ZdG,Zc1,oI,b2,hC,hG,z1]
theorem Zzs {Q:List AVal} (hQ:QOk 8 Q) {l:Zb} {e:Int} (hl:l.length<=1099511627776) (hl0:l.length≠0) (ho:Zbw l=.error e) :
  ∃ cs,Zd cs=true/\Za5 1 tmS [.var (Q++[.lst false (l.map Zc)])]=some (.pan (ZB e),[.var cs]):=by
 obtain ⟨hL,hN,-,-,h10,-⟩:=hQ
 obtain ⟨cs,hc,hE⟩:=ZEm Q hL hN l (by omega) ho
 unfold Zi at hE
 have z1:((l.length:Nat):Int) > 0:=by omega
 have z2:(0:Int) < ((l.length:Nat):Int):=by omega
 have b2:=Zat _ hL
 have hC:=ZBk (O:=E) (bf:=BY) (f:=122) (cs:=Q++[.lst false (l.map Zc)]) (by kernel_rfl) (Zy Q hL hN false (l.map Zc)) (q:=.pan (ZB e)) rfl hc hE
 have hO:=fun τ=>Z1 (r:=.pan (ZB e)) (σ:=τ) rfl hc
 refine ⟨cs,hc,?_⟩
 unfold Za5 tmS
 rw [Z2]
 clear hE
 generalize ZB e=ce at *
 simp -implicitDefEqProofs only [EQA,Nat.reduceAdd,Nat.reduceSub,Nat.reduceLT,Nat.reduceEqDiff,Nat.reduceBEq,reduceCtorEq,↓reduceIte,ZdG,Zc1,oI,b2,hC,z1]
 exact hO _
theorem ZGO {P:List AVal} (hP:QOk 8 P) {l:Zb} (hl:l.length<=1099511627775) {n:Int} {ps:List Zn} {ts:List Zbv} (h:ZbB Zbw 8 l=.ok (n,ps,ts)) :
  E 121 [.ref 0 0,.fn 1000122 [.ref 0 0]] [.var (P++[.lst false (l.map Zc)])]=some (.tup [],H1 (ZbY P n ps) ts.length [] (ts.map Z5)):=by
 unfold ZbB at h
 split at h
 ·cases h
 rename_i n' ps' r hm
 obtain ⟨l1,l2⟩:=Zjn hm
 split at h
 ·cases h
 rename_i us hu
 injection h with h;injection h with e1 h;injection h with e2 e3;subst e1 e2 e3
 rw [Zsg 8 1000122 P hP l (by omega) hm]
 have hQ:=ZdT hP n' ps'
 generalize ZbY P n' ps'=Q at *
 obtain ⟨j,hj⟩:∃ j,r.length=j+1:=⟨r.length - 1,by omega⟩
 cases ho:Zbw r with
 | error e =>
  rw [hj] at hu
  simp only [ZaP,hj,Nat.add_eq_zero_iff,Nat.succ_ne_self,and_false,if_false,ho] at hu
  cases hu
 | ok sr =>
  obtain ⟨s,r'⟩:=sr
  have hr:=Zjp ho
  rw [ZlM hj ho Zjp] at hu
  cases hl2:ZaP Zbw j r' with
  | error e=>rw [hl2] at hu;cases hu
  | ok vs =>
   rw [hl2] at hu
   injection hu with hu;subst hu
   show Za5 1 tmS _=_
   rw [ZsD hQ (by omega) l2 ho]
   exact (ZuE Q hQ.len hQ.nor j r' [s] (by omega) (by simp;omega)).1 vs hl2
theorem ZEo {P:List AVal} (hP:QOk 8 P) {l:Zb} (hl:l.length<=1099511627775) {e:Int} (h:ZbB Zbw 8 l=.error e) :
  (∃ cs,Zd cs=true/\E 121 [.ref 0 0,.fn 1000122 [.ref 0 0]] [.var (P++[.lst false (l.map Zc)])]=some (.pan (ZB e),[.var cs])) \/
  (∃ (Q:List AVal) (xs:List Zbv) (r:Zb),Q.length=26/\Zd Q=true/\E 121 [.ref 0 0,.fn 1000122 [.ref 0 0]] [.var (P++[.lst false (l.map Zc)])]=some (.pan (ZB e),H1 Q xs.length r (xs.map Z5))):=by
 unfold ZbB at h
 split at h
 ·rename_i c hm
  injection h with h;subst h
  exact Or.inl (ZCE 8 1000122 P hP l (by omega) hm)
 rename_i n' ps' r hm
 obtain ⟨l1,l2⟩:=Zjn hm
 rw [Zsg 8 1000122 P hP l (by omega) hm]
 have hQ:=ZdT hP n' ps'
 generalize ZbY P n' ps'=Q at *
 obtain ⟨j,hj⟩:∃ j,r.length=j+1:=⟨r.length - 1,by omega⟩
 split at h
 case h_2=>cases h
 rename_i c hu
 injection h with h;subst h
 show (∃ cs,Zd cs=true/\Za5 1 tmS _=_)\/(∃ (Q:List AVal) (xs:List Zbv) (r:Zb),Q.length=26/\Zd Q=true/\Za5 1 tmS _=_)
 cases ho:Zbw r with
 | error e =>
  have : e=c:=by
   rw [hj] at hu
   simp only [ZaP,hj,Nat.add_eq_zero_iff,Nat.succ_ne_self,and_false,if_false,ho] at hu
   injection hu
  subst this
  exact Or.inl (Zzs hQ (by omega) l2 ho)
 | ok sr =>
  obtain ⟨s,r'⟩:=sr
  have hr:=Zjp ho
  rw [ZlM hj ho Zjp] at hu
  cases hl2:ZaP Zbw j r' with
  | ok vs=>rw [hl2] at hu;cases hu
  | error e2 =>
   rw [hl2] at hu
   injection hu with hu;subst hu
   rw [ZsD hQ (by omega) l2 ho]
   obtain ⟨xs',r2,hx⟩:=(ZuE Q hQ.len hQ.nor j r' [s] (by omega) (by simp;omega)).2 e2 hl2
   exact Or.inr ⟨Q,xs',r2,hQ.len,hQ.nor,hx⟩
end
end
section
section
variable {O:ZU} {bf:Nat->Bool} {fm f w:Nat} {cs cs2 cs3 ys:List AVal} {x:AVal} {σ:Za}
theorem Znr (h0:σ[0]?=some (.var cs)) (h1:σ[1]?=some (.var [.ref 0 0])) (h2:σ[2]?=some (.var [.ref 0 0])) (hc:Zp cs=[]):Zu σ 1000 [0,2,1] []=[0,2,1]:=by
 have d0:σ.getD 0 .free=.var cs:=by simp [List.getD_eq_getElem?_getD,h0]
 have d1:σ.getD 1 .free=.var [.ref 0 0]:=by simp [List.getD_eq_getElem?_getD,h1]
 have d2:σ.getD 2 .free=.var [.ref 0 0]:=by simp [List.getD_eq_getElem?_getD,h2]
 rw [show (1000:Nat)=994+1+1+1+1+1+1 from rfl]
 simp only [Zu,d0,d1,d2,ZC,Zp,ZS,hc,List.contains_cons,List.contains_nil,List.append_nil,List.nil_append,List.cons_append,Bool.or_false,Bool.false_eq_true,if_false]
 simp
theorem ZoU (h0:σ[0]?=some (.var cs)) (hc:Zp cs=[]):Zu σ 1000 [0,0] []=[0]:=by
 have d0:σ.getD 0 .free=.var cs:=by simp [List.getD_eq_getElem?_getD,h0]
 rw [show (1000:Nat)=996+1+1+1+1 from rfl]
 simp only [Zu,d0,ZC,hc,List.contains_cons,List.contains_nil,List.append_nil,List.nil_append,List.cons_append,Bool.or_false,Bool.false_eq_true,if_false]
 simp
def hB (cs:List AVal) (b:ZN):Za:=[.var cs,.var [.ref 0 0],.var [.ref 0 0],b]
theorem Zo3 (hb:bf fm=false) (hc:Zd cs=true) (hrf:Zp cs2=[3]) (hren:∀ ρ:Rho,ρ 3 0=some (3,0)->Zf ρ cs2=cs2)
  (hO:O fm [.ref 0 0,.fn f [.ref 1 0,.ref 2 0]] [.var cs,.var [.ref 0 0],.var [.ref 0 0]]=some (.tup [],[.var cs2,.var [.ref 0 0],.var [.ref 0 0],.row 0 w ys])) :
  Zo O bf (hB cs .free) 3 fm 1 true [.ref 0 0,.fn f [.ref 2 0,.ref 1 0]]=some (.tup [],hB cs2 (.row 0 w ys),{ any:=true,upd:=[(0,cs2),(2,[.ref 0 0]),(1,[.ref 0 0])] }):=by
 have hv:Zab true 3 (some (.tup [],[.var cs2,.var [.ref 0 0],.var [.ref 0 0],.row 0 w ys]))=some (.tup [],[.var cs2,.var [.ref 0 0],.var [.ref 0 0],.row 0 w ys]):=Zlo (r:=.tup []) rfl hrf hren []
 have ec:=fun ρ=>ZaW ρ cs hc
 unfold hB
 refine Zc4 (ids:=[0,2,1]) (vs:=[.ref 0 0,.fn f [.ref 2 0,.ref 1 0]]) hb rfl (Znr rfl rfl rfl (ec (fun _ _=>none)).2) rfl rfl rfl ?_ hO hv (by simp) (by simp) rfl rfl rfl ?_ rfl
 ·show [ZN.var (Zf _ cs),.var (Zf _ [.ref 0 0]),.var (Zf _ [.ref 0 0])]=_
  rw [(ec _).1];rfl
 ·have hb3:=hren (Zax [.var cs,.var [.ref 0 0],.var [.ref 0 0],.free] [0,2,1] 3) rfl
  show [ZN.var (Zf _ cs2),.var (Zf _ [.ref 0 0]),.var (Zf _ [.ref 0 0]),.row 0 w ys]=_
  rw [hb3];rfl
theorem Znx (hb:bf fm=false) (hc:Zd cs=true) (hc2:Zd cs2=true) (hx:ZQ x=true)
  (hO:O fm [.ref 0 0,.fn f [.ref 1 0,.ref 2 0]] [.var cs,.var [.ref 0 0],.var [.ref 0 0]]=some (.pan x,[.var cs2,.var [.ref 0 0],.var [.ref 0 0]])) :
  Zo O bf (hB cs .free) 3 fm 1 true [.ref 0 0,.fn f [.ref 2 0,.ref 1 0]]=some (.pan x,hB cs2 .free,{ any:=true,upd:=[(0,cs2),(2,[.ref 0 0]),(1,[.ref 0 0])] }):=by
 have ec:=fun ρ=>ZaW ρ cs hc
 have hnp:ZQ (.pan x)=true:=by simpa only [ZQ] using hx
 unfold hB
 refine Zc4 (ids:=[0,2,1]) (vs:=[.ref 0 0,.fn f [.ref 2 0,.ref 1 0]]) hb rfl (Znr rfl rfl rfl (ec (fun _ _=>none)).2) rfl rfl rfl ?_ hO rfl (by simp) (by simp) rfl rfl (Za7 _ _ hnp).1 ?_ rfl
 ·show [ZN.var (Zf _ cs),.var (Zf _ [.ref 0 0]),.var (Zf _ [.ref 0 0])]=_
  rw [(ec _).1];rfl
 ·show [ZN.var (Zf _ cs2),.var (Zf _ [.ref 0 0]),.var (Zf _ [.ref 0 0]),.free]=_
  rw [(ZaW _ cs2 hc2).1];rfl
theorem ZoB (hb:bf fm=false) (hc:Zd cs=true) (hren:∀ ρ:Rho,ρ 3 0=some (3,0)->Zf ρ cs2=cs2) (hx:ZQ x=true)
  (hO:O fm [.ref 0 0,.fn f [.ref 1 0,.ref 2 0]] [.var cs,.var [.ref 0 0],.var [.ref 0 0]]=some (.pan x,[.var cs2,.var [.ref 0 0],.var [.ref 0 0],.row 0 w ys])) :
  Zo O bf (hB cs .free) 3 fm 1 true [.ref 0 0,.fn f [.ref 2 0,.ref 1 0]]=some (.pan x,hB cs2 (.row 0 w ys),{ any:=true,upd:=[(0,cs2),(2,[.ref 0 0]),(1,[.ref 0 0])] }):=by
 have ec:=fun ρ=>ZaW ρ cs hc
 have hnp:ZQ (.pan x)=true:=by simpa only [ZQ] using hx
 unfold hB
 refine Zc4 (ids:=[0,2,1]) (vs:=[.ref 0 0,.fn f [.ref 2 0,.ref 1 0]]) hb rfl (Znr rfl rfl rfl (ec (fun _ _=>none)).2) rfl rfl rfl ?_ hO rfl (by simp) (by simp) rfl rfl (Za7 _ _ hnp).1 ?_ rfl
 ·show [ZN.var (Zf _ cs),.var (Zf _ [.ref 0 0]),.var (Zf _ [.ref 0 0])]=_
  rw [(ec _).1];rfl
 ·have hb3:=hren (Zax [.var cs,.var [.ref 0 0],.var [.ref 0 0],.free] [0,2,1] 3) rfl
  show [ZN.var (Zf _ cs2),.var (Zf _ [.ref 0 0]),.var (Zf _ [.ref 0 0]),.row 0 w ys]=_
  rw [hb3];rfl
theorem ZHM (hb:bf fm=false) (hc:Zd cs=true) (hrf:Zp cs2=[1]) (hren:∀ ρ:Rho,ρ 1 0=some (1,0)->Zf ρ cs2=cs2) (hback:∀ ρ:Rho,ρ 1 0=some (3,0)->Zf ρ cs2=cs3)
  (hO:O fm [.ref 0 0,.fn f [.ref 0 0]] [.var cs]=some (.tup [],[.var cs2,.row 0 w ys])) :
  Zo O bf (hB cs .free) 3 fm 1 true [.ref 0 0,.fn f [.ref 0 0]]=some (.tup [],hB cs3 (.row 0 w ys),{ any:=true,upd:=[(0,cs3)] }):=by
 have hv:Zab true 1 (some (.tup [],[.var cs2,.row 0 w ys]))=some (.tup [],[.var cs2,.row 0 w ys]):=Zc2 (j:=1) (σ:=[.var cs2,.row 0 w ys]) (r:=.tup []) rfl (by omega) rfl rfl hrf hren
 have ec:=fun ρ=>ZaW ρ cs hc
 unfold hB
 refine Zc4 (ids:=[0]) (vs:=[.ref 0 0,.fn f [.ref 0 0]]) hb rfl (ZoU rfl (ec (fun _ _=>none)).2) rfl rfl rfl ?_ hO hv (by simp) (by simp) rfl rfl rfl ?_ rfl
 ·show [ZN.var (Zf _ cs)]=_
  rw [(ec _).1]
 ·have hb3:=hback (Zax [.var cs,.var [.ref 0 0],.var [.ref 0 0],.free] [0] 3) rfl
  show [ZN.var (Zf _ cs2),.var [.ref 0 0],.var [.ref 0 0],.row 0 w ys]=_
  rw [hb3]
theorem ZPz (hb:bf fm=false) (hc:Zd cs=true) (hc2:Zd cs2=true) (hx:ZQ x=true)
  (hO:O fm [.ref 0 0,.fn f [.ref 0 0]] [.var cs]=some (.pan x,[.var cs2])) :
  Zo O bf (hB cs .free) 3 fm 1 true [.ref 0 0,.fn f [.ref 0 0]]=some (.pan x,hB cs2 .free,{ any:=true,upd:=[(0,cs2)] }):=by
 have ec:=fun ρ=>ZaW ρ cs hc
 have hnp:ZQ (.pan x)=true:=by simpa only [ZQ] using hx
 unfold hB
 refine Zc4 (ids:=[0]) (vs:=[.ref 0 0,.fn f [.ref 0 0]]) hb rfl (ZoU rfl (ec (fun _ _=>none)).2) rfl rfl rfl ?_ hO rfl (by simp) (by simp) rfl rfl (Za7 _ _ hnp).1 ?_ rfl
 ·show [ZN.var (Zf _ cs)]=_
  rw [(ec _).1]
 ·show [ZN.var (Zf _ cs2),.var [.ref 0 0],.var [.ref 0 0],.free]=_
  rw [(ZaW _ cs2 hc2).1]
theorem ZHs (hb:bf fm=false) (hc:Zd cs=true) (hback:∀ ρ:Rho,ρ 1 0=some (3,0)->Zf ρ cs2=cs3) (hx:ZQ x=true)
  (hO:O fm [.ref 0 0,.fn f [.ref 0 0]] [.var cs]=some (.pan x,[.var cs2,.row 0 w ys])) :
  Zo O bf (hB cs .free) 3 fm 1 true [.ref 0 0,.fn f [.ref 0 0]]=some (.pan x,hB cs3 (.row 0 w ys),{ any:=true,upd:=[(0,cs3)] }):=by
 have ec:=fun ρ=>ZaW ρ cs hc
 have hnp:ZQ (.pan x)=true:=by simpa only [ZQ] using hx
 unfold hB
 refine Zc4 (ids:=[0]) (vs:=[.ref 0 0,.fn f [.ref 0 0]]) hb rfl (ZoU rfl (ec (fun _ _=>none)).2) rfl rfl rfl ?_ hO rfl (by simp) (by simp) rfl rfl (Za7 _ _ hnp).1 ?_ rfl
 ·show [ZN.var (Zf _ cs)]=_
  rw [(ec _).1]
 ·have hb3:=hback (Zax [.var cs,.var [.ref 0 0],.var [.ref 0 0],.free] [0] 3) rfl
  show [ZN.var (Zf _ cs2),.var [.ref 0 0],.var [.ref 0 0],.row 0 w ys]=_
  rw [hb3]
end
def Zci (Q:List AVal) (kk n:Nat) (l:Zb) (w:Nat) (ys:List AVal):Za:=[.var (Zk Q kk 1 0 n++[.lst false (l.map Zc)]),.row 0 w ys]
def ZjN (kk w:Nat) (l:Zb) (P:List AVal) (e:Int):Prop :=
 (∃ cs,Zd cs=true/\E 77 [.ref 0 0] (Zi P l)=some (.pan (ZB e),[.var cs])) \/
 (∃ (Q:List AVal) (n:Nat) (r:Zb) (ys:List AVal),Q.length=26/\Zd Q=true/\E 77 [.ref 0 0] (Zi P l)=some (.pan (ZB e),Zci Q kk n r w ys))
theorem ZyE (xs:List Zb):kOk 1 (xs.map AVal.str)=true:=by cases xs <;> rfl
theorem ZCA (xs:List Int):kOk 1 (xs.map (AVal.int .i64))=true:=by cases xs <;> rfl
theorem fT0 {k:Int} (Q:List AVal) (h:QOk k Q) (l s r:Zb) (hl:l.length<=1099511627776) (ho:Zap l=.ok (s,r)):E 123 [.ref 0 0,.ref 2 0] [.var [.ref 1 0],.var (Q++[.lst false (l.map Zc)]),.var [.ref 1 0]]=some (.tup [],[.var [.ref 1 0],.var (Zk Q 11 3 0 1++[.lst false (r.map Zc)]),.var [.ref 1 0],.row 0 1 [AVal.str s]]) :=
 Zz4 Q h.len h.nor l (by omega) h.c11 ho
theorem fF0 {k:Int} (Q:List AVal) (h:QOk k Q) (l:Zb) (e:Int) (hl:l.length<=1099511627776) (ho:Zap l=.error e):∃ r:Zb,E 123 [.ref 0 0,.ref 2 0] [.var [.ref 1 0],.var (Q++[.lst false (l.map Zc)]),.var [.ref 1 0]]=some (.pan (ZB e),[.var [.ref 1 0],.var (Q++[.lst false (r.map Zc)]),.var [.ref 1 0]]) :=
 ⟨l,ZMQ Q h.len h.nor l (by omega) ho h.c11⟩
theorem fT1 {k:Int} (Q:List AVal) (h:QOk k Q) (xs:List Zb) (l s r:Zb) (hl:l.length<=1099511627776) (hx:xs.length<=1099511627776) (ho:Zap l=.ok (s,r)):E 123 [.ref 0 0,.ref 3 0] [.var [.ref 1 0],.var (Zk Q 11 2 0 xs.length++[.lst false (l.map Zc)]),.row 0 1 (xs.map AVal.str),.var [.ref 1 0]]=some (.tup [],[.var [.ref 1 0],.var (Zk Q 11 2 1 (xs.length+1)++[.lst false (r.map Zc)]),.row 1 1 ((xs++[s]).map AVal.str),.var [.ref 1 0]]):=by
 have:=ZCN Q h.len h.nor l (by omega) (xs.map AVal.str) (by simp;omega) (ZyE xs) ho
 rw [List.length_map] at this
 rw [List.map_append]
 exact this
theorem fF1 {k:Int} (Q:List AVal) (h:QOk k Q) (xs:List Zb) (l:Zb) (e:Int) (hl:l.length<=1099511627776) (ho:Zap l=.error e):∃ r:Zb,E 123 [.ref 0 0,.ref 3 0] [.var [.ref 1 0],.var (Zk Q 11 2 0 xs.length++[.lst false (l.map Zc)]),.row 0 1 (xs.map AVal.str),.var [.ref 1 0]]=some (.pan (ZB e),[.var [.ref 1 0],.var (Zk Q 11 2 0 xs.length++[.lst false (r.map Zc)]),.row 0 1 (xs.map AVal.str),.var [.ref 1 0]]):=by
 have:=ZIJ Q h.len h.nor l (by omega) (xs.map AVal.str) ho
 rw [List.length_map] at this
 exact ⟨l,this⟩
theorem cT0 {k:Int} (Q:List AVal) (h:QOk k Q) (l:Zb) (s:Int) (r:Zb) (hl:l.length<=1099511627776) (ho:ZaK k l=.ok (s,r)):E 125 [.ref 0 0,.ref 2 0] [.var [.ref 1 0],.var (Q++[.lst false (l.map Zc)]),.var [.ref 1 0]]=some (.tup [],[.var [.ref 1 0],.var (Zk Q 8 3 0 1++[.lst false (r.map Zc)]),.var [.ref 1 0],.row 0 1 [AVal.int .i64 s]]) :=
 ZIi Q h.len h.nor l (by omega) h.c8 k h.ty ho
theorem cF0 {k:Int} (Q:List AVal) (h:QOk k Q) (l:Zb) (e:Int) (hl:l.length<=1099511627776) (ho:ZaK k l=.error e):∃ r:Zb,E 125 [.ref 0 0,.ref 2 0] [.var [.ref 1 0],.var (Q++[.lst false (l.map Zc)]),.var [.ref 1 0]]=some (.pan (ZB e),[.var [.ref 1 0],.var (Q++[.lst false (r.map Zc)]),.var [.ref 1 0]]) :=
 ZKK Q h.len h.nor l (by omega) h.c8 k h.ty ho
theorem cT1 {k:Int} (Q:List AVal) (h:QOk k Q) (xs:List Int) (l:Zb) (s:Int) (r:Zb) (hl:l.length<=1099511627776) (hx:xs.length<=1099511627776) (ho:ZaK k l=.ok (s,r)):E 125 [.ref 0 0,.ref 3 0] [.var [.ref 1 0],.var (Zk Q 8 2 0 xs.length++[.lst false (l.map Zc)]),.row 0 1 (xs.map (AVal.int .i64)),.var [.ref 1 0]]=some (.tup [],[.var [.ref 1 0],.var (Zk Q 8 2 1 (xs.length+1)++[.lst false (r.map Zc)]),.row 1 1 ((xs++[s]).map (AVal.int .i64)),.var [.ref 1 0]]):=by
 have:=ZIh Q h.len h.nor l (by omega) (xs.map (AVal.int .i64)) (by simp;omega) (ZCA xs) k h.ty ho
 rw [List.length_map] at this
 rw [List.map_append]
 exact this
theorem cF1 {k:Int} (Q:List AVal) (h:QOk k Q) (xs:List Int) (l:Zb) (e:Int) (hl:l.length<=1099511627776) (ho:ZaK k l=.error e):∃ r:Zb,E 125 [.ref 0 0,.ref 3 0] [.var [.ref 1 0],.var (Zk Q 8 2 0 xs.length++[.lst false (l.map Zc)]),.row 0 1 (xs.map (AVal.int .i64)),.var [.ref 1 0]]=some (.pan (ZB e),[.var [.ref 1 0],.var (Zk Q 8 2 0 xs.length++[.lst false (r.map Zc)]),.row 0 1 (xs.map (AVal.int .i64)),.var [.ref 1 0]]):=by
 have:=ZxV Q h.len h.nor l (by omega) (xs.map (AVal.int .i64)) k h.ty ho
 rw [List.length_map] at this
 exact this
section
variable (P:List AVal) (l:Zb) (hl:l.length<=1099511627775)
include hl
theorem ZA0 (hP:QOk 10 P) {n:Int} {ps:List Zn} {ts:List Zb} (h:ZbB Zap 10 l=.ok (n,ps,ts)) :
  E 77 [.ref 0 0] (Zi P l)=some (.tup [],Zci (ZbY P n ps) 11 ts.length [] 1 (ts.map AVal.str)):=by
 have hk:(11:Nat) < 26:=by omega
 have hE:=Zng (g:=AVal.str) (kk:=11) (f:=123) (by omega) (by decide) (by kernel_rfl) Zpd fT0 fF0 fT1 fF1 hP hl h
 have hQ:=ZdT hP n ps
 obtain ⟨hL,hN,h0,-,-,-⟩:=hP
 unfold H3 at hE
 generalize ZbY P n ps=Q at *
 have hC:=Zo3 (O:=E) (bf:=BY) (fm:=121) (by kernel_rfl) (Zy P hL hN false (l.map Zc)) (Zbu Q hQ.len hQ.nor hk 3 0 ts.length []) (fun ρ h=>ZaQ Q hQ.len hQ.nor hk 3 0 ts.length 3 0 [] ρ h) hE
 have a4:=fun L=>(Zad P hL 0 (by omega) L).trans h0
 have hR:=Zb0 Q hQ.len hQ.nor 11 hk ts.length 3 0
 have b2:=Zat _ hR
 have m1:=Zbe
 have z:=z0b
 have hO:=fun τ=>Zc2 (j:=3) (w:=1) (xs:=ts.map AVal.str) (r:=.tup []) (σ:=.var (Zk Q 11 3 0 ts.length++[.lst false []])::.var [.ref 0 0]::.var [.ref 0 0]::.row 0 1 (ts.map AVal.str)::τ) rfl (by omega) rfl rfl (Zbu Q hQ.len hQ.nor hk 3 0 ts.length []) (fun ρ h=>ZaQ Q hQ.len hQ.nor hk 3 0 ts.length 1 0 [] ρ h)
 unfold hB at hC
 simp only [List.map_nil] at hC
 unfold Zi Zci
 clear hE h
 generalize Zk Q 11 3 0 ts.length=R at *
 generalize Zk Q 11 1 0 ts.length=R1 at *
 generalize ts.map AVal.str=ys at *
 rw [Zh (by rfl) Zbf]
 simp -implicitDefEqProofs only [EQA,ZK,Zt,Nat.reduceAdd,Nat.reduceLT,Nat.reduceLeDiff,Nat.reduceEqDiff,Nat.reduceBEq,↓reduceIte,Zd,Zbg,Zba,ZeC,oI,oN,a4,b2,hC,m1,Int.reduceBEq,z]
 exact hO _
theorem ZCo (hP:QOk 10 P) {e:Int} (h:ZbB Zap 10 l=.error e):ZjN 11 1 l P e:=by
 have hk:(11:Nat) < 26:=by omega
 have hF:=Zn9 (g:=AVal.str) (kk:=11) (f:=123) (by omega) (by decide) (by kernel_rfl) Zpd fT0 fF0 fT1 fF1 hP hl h
 obtain ⟨hL,hN,h0,-,-,-⟩:=hP
 have a4:=fun L=>(Zad P hL 0 (by omega) L).trans h0
 rcases hF with ⟨cs,hc,hE⟩ | ⟨Q,xs,r,hQ,hQN,hE⟩
 ·have hC:=Znx (O:=E) (bf:=BY) (fm:=121) (by kernel_rfl) (Zy P hL hN false (l.map Zc)) hc rfl hE
  refine Or.inl ⟨cs,hc,?_⟩
  unfold hB at hC
  unfold Zi
  clear hE h
  rw [Zh (by rfl) Zbf]
  simp -implicitDefEqProofs only [EQA,ZK,Nat.reduceAdd,Nat.reduceLT,Nat.reduceLeDiff,Nat.reduceEqDiff,Nat.reduceBEq,↓reduceIte,Zbg,Zba,oI,oN,a4,hC,Int.reduceBEq]
  exact Z1 rfl hc
 ·unfold H3 at hE
  have hC:=ZoB (O:=E) (bf:=BY) (fm:=121) (by kernel_rfl) (Zy P hL hN false (l.map Zc)) (fun ρ h=>ZaQ Q hQ hQN hk 3 0 xs.length 3 0 r ρ h) rfl hE
  have hO:=fun τ=>Zc2 (j:=3) (w:=1) (xs:=xs.map AVal.str) (r:=.pan (ZB e)) (σ:=.var (Zk Q 11 3 0 xs.length++[.lst false (r.map Zc)])::.var [.ref 0 0]::.var [.ref 0 0]::.row 0 1 (xs.map AVal.str)::τ) rfl (by omega) rfl rfl (Zbu Q hQ hQN hk 3 0 xs.length r) (fun ρ h=>ZaQ Q hQ hQN hk 3 0 xs.length 1 0 r ρ h)
  refine Or.inr ⟨Q,xs.length,r,xs.map AVal.str,hQ,hQN,?_⟩
  unfold hB at hC
  unfold Zi Zci
  clear hE h
  generalize Zk Q 11 3 0 xs.length=R at *
  generalize Zk Q 11 1 0 xs.length=R1 at *
  generalize xs.map AVal.str=ys at *
  generalize ZB e=ce at *
  rw [Zh (by rfl) Zbf]
  simp -implicitDefEqProofs only [EQA,ZK,Nat.reduceAdd,Nat.reduceLT,Nat.reduceLeDiff,Nat.reduceEqDiff,Nat.reduceBEq,↓reduceIte,Zbg,Zba,oI,oN,a4,hC,Int.reduceBEq]
  exact hO _
theorem ZAb (hP:QOk 9 P) {n:Int} {ps:List Zn} {ts:List Int} (h:ZbB (ZaK 9) 9 l=.ok (n,ps,ts)) :
  E 77 [.ref 0 0] (Zi P l)=some (.tup [],Zci (ZbY P n ps) 8 ts.length [] 1 (ts.map (AVal.int .i64))):=by
 have hk:(8:Nat) < 26:=by omega
 have hE:=Zng (g:=(AVal.int .i64)) (kk:=8) (f:=125) (by omega) (by decide) (by kernel_rfl) Zmt cT0 cF0 cT1 cF1 hP hl h
 have hQ:=ZdT hP n ps
 obtain ⟨hL,hN,h0,-,-,-⟩:=hP
 unfold H3 at hE
 generalize ZbY P n ps=Q at *
 have hC:=Zo3 (O:=E) (bf:=BY) (fm:=121) (by kernel_rfl) (Zy P hL hN false (l.map Zc)) (Zbu Q hQ.len hQ.nor hk 3 0 ts.length []) (fun ρ h=>ZaQ Q hQ.len hQ.nor hk 3 0 ts.length 3 0 [] ρ h) hE
 have a4:=fun L=>(Zad P hL 0 (by omega) L).trans h0
 have hR:=Zb0 Q hQ.len hQ.nor 8 hk ts.length 3 0
 have b2:=Zat _ hR
 have m1:=Zbe
 have z:=z0b
 have hO:=fun τ=>Zc2 (j:=3) (w:=1) (xs:=ts.map (AVal.int .i64)) (r:=.tup []) (σ:=.var (Zk Q 8 3 0 ts.length++[.lst false []])::.var [.ref 0 0]::.var [.ref 0 0]::.row 0 1 (ts.map (AVal.int .i64))::τ) rfl (by omega) rfl rfl (Zbu Q hQ.len hQ.nor hk 3 0 ts.length []) (fun ρ h=>ZaQ Q hQ.len hQ.nor hk 3 0 ts.length 1 0 [] ρ h)
 unfold hB at hC
 simp only [List.map_nil] at hC
 unfold Zi Zci
 clear hE h
 generalize Zk Q 8 3 0 ts.length=R at *
 generalize Zk Q 8 1 0 ts.length=R1 at *
 generalize ts.map (AVal.int .i64)=ys at *
 rw [Zh (by rfl) Zbf]
 simp -implicitDefEqProofs only [EQA,ZK,Zt,Nat.reduceAdd,Nat.reduceLT,Nat.reduceLeDiff,Nat.reduceEqDiff,Nat.reduceBEq,↓reduceIte,Zd,Zbg,Zba,ZeC,oI,oN,a4,b2,hC,m1,Int.reduceBEq,z]
 exact hO _
theorem Zyj (hP:QOk 9 P) {e:Int} (h:ZbB (ZaK 9) 9 l=.error e):ZjN 8 1 l P e:=by
 have hk:(8:Nat) < 26:=by omega
 have hF:=Zn9 (g:=(AVal.int .i64)) (kk:=8) (f:=125) (by omega) (by decide) (by kernel_rfl) Zmt cT0 cF0 cT1 cF1 hP hl h
 obtain ⟨hL,hN,h0,-,-,-⟩:=hP
 have a4:=fun L=>(Zad P hL 0 (by omega) L).trans h0
 rcases hF with ⟨cs,hc,hE⟩ | ⟨Q,xs,r,hQ,hQN,hE⟩
 ·have hC:=Znx (O:=E) (bf:=BY) (fm:=121) (by kernel_rfl) (Zy P hL hN false (l.map Zc)) hc rfl hE
  refine Or.inl ⟨cs,hc,?_⟩
  unfold hB at hC
  unfold Zi
  clear hE h
  rw [Zh (by rfl) Zbf]
  simp -implicitDefEqProofs only [EQA,ZK,Nat.reduceAdd,Nat.reduceLT,Nat.reduceLeDiff,Nat.reduceEqDiff,Nat.reduceBEq,↓reduceIte,Zbg,Zba,oI,oN,a4,hC,Int.reduceBEq]
  exact Z1 rfl hc
 ·unfold H3 at hE
  have hC:=ZoB (O:=E) (bf:=BY) (fm:=121) (by kernel_rfl) (Zy P hL hN false (l.map Zc)) (fun ρ h=>ZaQ Q hQ hQN hk 3 0 xs.length 3 0 r ρ h) rfl hE
  have hO:=fun τ=>Zc2 (j:=3) (w:=1) (xs:=xs.map (AVal.int .i64)) (r:=.pan (ZB e)) (σ:=.var (Zk Q 8 3 0 xs.length++[.lst false (r.map Zc)])::.var [.ref 0 0]::.var [.ref 0 0]::.row 0 1 (xs.map (AVal.int .i64))::τ) rfl (by omega) rfl rfl (Zbu Q hQ hQN hk 3 0 xs.length r) (fun ρ h=>ZaQ Q hQ hQN hk 3 0 xs.length 1 0 r ρ h)
  refine Or.inr ⟨Q,xs.length,r,xs.map (AVal.int .i64),hQ,hQN,?_⟩
  unfold hB at hC
  unfold Zi Zci
  clear hE h
  generalize Zk Q 8 3 0 xs.length=R at *
  generalize Zk Q 8 1 0 xs.length=R1 at *
  generalize xs.map (AVal.int .i64)=ys at *
  generalize ZB e=ce at *
  rw [Zh (by rfl) Zbf]
  simp -implicitDefEqProofs only [EQA,ZK,Nat.reduceAdd,Nat.reduceLT,Nat.reduceLeDiff,Nat.reduceEqDiff,Nat.reduceBEq,↓reduceIte,Zbg,Zba,oI,oN,a4,hC,Int.reduceBEq]
  exact hO _
theorem ZO6 (hP:QOk 11 P) {n:Int} {ps:List Zn} {ts:List Int} (h:ZbB (ZaK 11) 11 l=.ok (n,ps,ts)) :
  E 77 [.ref 0 0] (Zi P l)=some (.tup [],Zci (ZbY P n ps) 8 ts.length [] 1 (ts.map (AVal.int .i64))):=by
 have hk:(8:Nat) < 26:=by omega
 have hE:=Zng (g:=(AVal.int .i64)) (kk:=8) (f:=125) (by omega) (by decide) (by kernel_rfl) Zmt cT0 cF0 cT1 cF1 hP hl h
 have hQ:=ZdT hP n ps
 obtain ⟨hL,hN,h0,-,-,-⟩:=hP
 unfold H3 at hE
 generalize ZbY P n ps=Q at *
 have hC:=Zo3 (O:=E) (bf:=BY) (fm:=121) (by kernel_rfl) (Zy P hL hN false (l.map Zc)) (Zbu Q hQ.len hQ.nor hk 3 0 ts.length []) (fun ρ h=>ZaQ Q hQ.len hQ.nor hk 3 0 ts.length 3 0 [] ρ h) hE
 have a4:=fun L=>(Zad P hL 0 (by omega) L).trans h0
 have hR:=Zb0 Q hQ.len hQ.nor 8 hk ts.length 3 0
 have b2:=Zat _ hR
 have m1:=Zbe
 have z:=z0b
 have hO:=fun τ=>Zc2 (j:=3) (w:=1) (xs:=ts.map (AVal.int .i64)) (r:=.tup []) (σ:=.var (Zk Q 8 3 0 ts.length++[.lst false []])::.var [.ref 0 0]::.var [.ref 0 0]::.row 0 1 (ts.map (AVal.int .i64))::τ) rfl (by omega) rfl rfl (Zbu Q hQ.len hQ.nor hk 3 0 ts.length []) (fun ρ h=>ZaQ Q hQ.len hQ.nor hk 3 0 ts.length 1 0 [] ρ h)
 unfold hB at hC
 simp only [List.map_nil] at hC
 unfold Zi Zci
 clear hE h
 generalize Zk Q 8 3 0 ts.length=R at *
 generalize Zk Q 8 1 0 ts.length=R1 at *
 generalize ts.map (AVal.int .i64)=ys at *
 rw [Zh (by rfl) Zbf]
 simp -implicitDefEqProofs only [EQA,ZK,Zt,Nat.reduceAdd,Nat.reduceLT,Nat.reduceLeDiff,Nat.reduceEqDiff,Nat.reduceBEq,↓reduceIte,Zd,Zbg,Zba,ZeC,oI,oN,a4,b2,hC,m1,Int.reduceBEq,z]
 exact hO _
theorem ZN1 (hP:QOk 11 P) {e:Int} (h:ZbB (ZaK 11) 11 l=.error e):ZjN 8 1 l P e:=by
 have hk:(8:Nat) < 26:=by omega
 have hF:=Zn9 (g:=(AVal.int .i64)) (kk:=8) (f:=125) (by omega) (by decide) (by kernel_rfl) Zmt cT0 cF0 cT1 cF1 hP hl h
 obtain ⟨hL,hN,h0,-,-,-⟩:=hP
 have a4:=fun L=>(Zad P hL 0 (by omega) L).trans h0
 rcases hF with ⟨cs,hc,hE⟩ | ⟨Q,xs,r,hQ,hQN,hE⟩
 ·have hC:=Znx (O:=E) (bf:=BY) (fm:=121) (by kernel_rfl) (Zy P hL hN false (l.map Zc)) hc rfl hE
  refine Or.inl ⟨cs,hc,?_⟩
  unfold hB at hC
  unfold Zi
  clear hE h
  rw [Zh (by rfl) Zbf]
  simp -implicitDefEqProofs only [EQA,ZK,Nat.reduceAdd,Nat.reduceLT,Nat.reduceLeDiff,Nat.reduceEqDiff,Nat.reduceBEq,↓reduceIte,Zbg,Zba,oI,oN,a4,hC,Int.reduceBEq]
  exact Z1 rfl hc
 ·unfold H3 at hE
  have hC:=ZoB (O:=E) (bf:=BY) (fm:=121) (by kernel_rfl) (Zy P hL hN false (l.map Zc)) (fun ρ h=>ZaQ Q hQ hQN hk 3 0 xs.length 3 0 r ρ h) rfl hE
  have hO:=fun τ=>Zc2 (j:=3) (w:=1) (xs:=xs.map (AVal.int .i64)) (r:=.pan (ZB e)) (σ:=.var (Zk Q 8 3 0 xs.length++[.lst false (r.map Zc)])::.var [.ref 0 0]::.var [.ref 0 0]::.row 0 1 (xs.map (AVal.int .i64))::τ) rfl (by omega) rfl rfl (Zbu Q hQ hQN hk 3 0 xs.length r) (fun ρ h=>ZaQ Q hQ hQN hk 3 0 xs.length 1 0 r ρ h)
  refine Or.inr ⟨Q,xs.length,r,xs.map (AVal.int .i64),hQ,hQN,?_⟩
  unfold hB at hC
  unfold Zi Zci
  clear hE h
  generalize Zk Q 8 3 0 xs.length=R at *
  generalize Zk Q 8 1 0 xs.length=R1 at *
  generalize xs.map (AVal.int .i64)=ys at *
  generalize ZB e=ce at *
  rw [Zh (by rfl) Zbf]
  simp -implicitDefEqProofs only [EQA,ZK,Nat.reduceAdd,Nat.reduceLT,Nat.reduceLeDiff,Nat.reduceEqDiff,Nat.reduceBEq,↓reduceIte,Zbg,Zba,oI,oN,a4,hC,Int.reduceBEq]
  exact hO _
theorem ZDh (hP:QOk 8 P) {n:Int} {ps:List Zn} {ts:List Zbv} (h:ZbB Zbw 8 l=.ok (n,ps,ts)) :
  E 77 [.ref 0 0] (Zi P l)=some (.tup [],Zci (ZbY P n ps) 10 ts.length [] 6 (ts.map Z5)):=by
 have hk:(10:Nat) < 26:=by omega
 have hE:=ZGO hP hl h
 have hQ:=ZdT hP n ps
 obtain ⟨hL,hN,h0,-,-,-⟩:=hP
 unfold H1 at hE
 generalize ZbY P n ps=Q at *
 have hC:=ZHM (O:=E) (bf:=BY) (fm:=121) (by kernel_rfl) (Zy P hL hN false (l.map Zc)) (Zbu Q hQ.len hQ.nor hk 1 0 ts.length []) (fun ρ h=>ZaQ Q hQ.len hQ.nor hk 1 0 ts.length 1 0 [] ρ h) (fun ρ h=>ZaQ Q hQ.len hQ.nor hk 1 0 ts.length 3 0 [] ρ h) hE
 have a4:=fun L=>(Zad P hL 0 (by omega) L).trans h0
 have hR:=Zb0 Q hQ.len hQ.nor 10 hk ts.length 3 0
 have b2:=Zat _ hR
 have m1:=Zbe
 have z:=z0b
 have hO:=fun τ=>Zc2 (j:=3) (w:=6) (xs:=ts.map Z5) (r:=.tup []) (σ:=.var (Zk Q 10 3 0 ts.length++[.lst false []])::.var [.ref 0 0]::.var [.ref 0 0]::.row 0 6 (ts.map Z5)::τ) rfl (by omega) rfl rfl (Zbu Q hQ.len hQ.nor hk 3 0 ts.length []) (fun ρ h=>ZaQ Q hQ.len hQ.nor hk 3 0 ts.length 1 0 [] ρ h)
 unfold hB at hC
 simp only [List.map_nil] at hC
 unfold Zi Zci
 clear hE h
 generalize Zk Q 10 3 0 ts.length=R at *
 generalize Zk Q 10 1 0 ts.length=R1 at *
 generalize ts.map Z5=ys at *
 rw [Zh (by rfl) Zbf]
 simp -implicitDefEqProofs only [EQA,ZK,Zt,Nat.reduceAdd,Nat.reduceLT,Nat.reduceLeDiff,Nat.reduceEqDiff,Nat.reduceBEq,↓reduceIte,Zd,Zbg,Zba,ZeC,oI,oN,a4,b2,hC,m1,Int.reduceBEq,z]
 exact hO _
theorem ZKt (hP:QOk 8 P) {e:Int} (h:ZbB Zbw 8 l=.error e):ZjN 10 6 l P e:=by
 have hk:(10:Nat) < 26:=by omega
 have hF:=ZEo hP hl h
 obtain ⟨hL,hN,h0,-,-,-⟩:=hP
 have a4:=fun L=>(Zad P hL 0 (by omega) L).trans h0
 rcases hF with ⟨cs,hc,hE⟩ | ⟨Q,xs,r,hQ,hQN,hE⟩
 ·have hC:=ZPz (O:=E) (bf:=BY) (fm:=121) (by kernel_rfl) (Zy P hL hN false (l.map Zc)) hc rfl hE
  refine Or.inl ⟨cs,hc,?_⟩
  unfold hB at hC
  unfold Zi
  clear hE h
  rw [Zh (by rfl) Zbf]
  simp -implicitDefEqProofs only [EQA,ZK,Nat.reduceAdd,Nat.reduceLT,Nat.reduceLeDiff,Nat.reduceEqDiff,Nat.reduceBEq,↓reduceIte,Zbg,Zba,oI,oN,a4,hC,Int.reduceBEq]
  exact Z1 rfl hc
 ·unfold H1 at hE
  have hC:=ZHs (O:=E) (bf:=BY) (fm:=121) (by kernel_rfl) (Zy P hL hN false (l.map Zc)) (fun ρ h=>ZaQ Q hQ hQN hk 1 0 xs.length 3 0 r ρ h) rfl hE
  have hO:=fun τ=>Zc2 (j:=3) (w:=6) (xs:=xs.map Z5) (r:=.pan (ZB e)) (σ:=.var (Zk Q 10 3 0 xs.length++[.lst false (r.map Zc)])::.var [.ref 0 0]::.var [.ref 0 0]::.row 0 6 (xs.map Z5)::τ) rfl (by omega) rfl rfl (Zbu Q hQ hQN hk 3 0 xs.length r) (fun ρ h=>ZaQ Q hQ hQN hk 3 0 xs.length 1 0 r ρ h)
  refine Or.inr ⟨Q,xs.length,r,xs.map Z5,hQ,hQN,?_⟩
  unfold hB at hC
  unfold Zi Zci
  clear hE h
  generalize Zk Q 10 3 0 xs.length=R at *
  generalize Zk Q 10 1 0 xs.length=R1 at *
  generalize xs.map Z5=ys at *
  generalize ZB e=ce at *
  rw [Zh (by rfl) Zbf]
  simp -implicitDefEqProofs only [EQA,ZK,Nat.reduceAdd,Nat.reduceLT,Nat.reduceLeDiff,Nat.reduceEqDiff,Nat.reduceBEq,↓reduceIte,Zbg,Zba,oI,oN,a4,hC,Int.reduceBEq]
  exact hO _
end
end
section
section
variable {O:ZU} {bf:Nat->Bool} {σ:Za} {t f sq w:Nat} {rest:List AVal} {cs cs2 cs3 ys:List AVal}
theorem ZAp (hb:bf f=false) (hp:rest.all Zak=true) (hc:Zd cs=true) (hrf:Zp cs2=[1]) (hren:∀ ρ:Rho,ρ 1 0=some (1,0)->Zf ρ cs2=cs2) (hback:∀ ρ:Rho,ρ 1 0=some (sq,0)->Zf ρ cs2=cs3)
  (h:O f (.ref 0 0::rest.map ZM) [.var cs]=some (.tup [],[.var cs2,.row 0 w ys])) (hs:σ[t]?=some (.var cs)) (hff:ZaX σ sq 1=true):Zo O bf σ sq f 1 true (.ref t 0::rest)=some (.tup [],(σ.set t (.var cs3)).set sq (.row 0 w ys),{ any:=true,upd:=[(t,cs3)] }):=by
 have hfs:σ[sq]?=some .free:=ZgO (i:=0) hff (by omega)
 have hts:t≠sq:=by rintro rfl;rw [hs] at hfs;cases hfs
 have htl:t < σ.length:=(List.getElem?_eq_some_iff.1 hs).1
 have hd:σ.getD t .free=.var cs:=by simp [List.getD_eq_getElem?_getD,hs]
 have hsh:showAs σ (.ref t 0::rest)=some (.ref t 0::rest.map ZM,[]):=by
  rw [showAs,show showA σ (.ref t 0)=some (.ref t 0,[]) from rfl,Zed hp]
  rfl
 have href:Zp (.ref t 0::rest.map ZM)=[t]:=by
  rw [Zp,Zdu hp];rfl
 have hρ:Zj σ 0 [t] t 0=some (0,0):=by simp [Zj,ZJ,hs,Zl,ZE]
 have hask:Zab true [t].length (some (.tup [],[.var cs2,.row 0 w ys]))=some (.tup [],[.var cs2,.row 0 w ys]):=Zc2 (j:=1) (σ:=[.var cs2,.row 0 w ys]) (r:=.tup []) rfl (by omega) rfl rfl hrf hren
 refine Zc4 (ids:=[t]) hb hsh (by rw [href];exact Zfr hs hc) rfl (by simp [hs,okB]) ?_ ?_ h hask (by simp) (by simp) ?_ hff rfl ?_ ?_
 ·rw [Zf,ZdA hp]
  simp only [Zm,hρ]
 ·simp only [Zr,hd,Zw,(ZaW _ cs hc).1]
 ·simp [Za0,okB,hs,Zce,Zl]
 ·have hb3:Zf (Zax σ [t] sq) cs2=cs3:=hback _ (by simp [Zax])
  simp only [Za3,ZaF,List.getD_cons_zero,Zb1,Zl,Zw,hb3]
  simp []
 ·have e1:((σ.set t (.var cs3)).set sq (.row 0 w ys))[t]?=some (.var cs3):=by
   rw [List.getElem?_set_ne (fun e=>hts e.symm),List.getElem?_set_self htl]
  simp only [Za1,e1]
theorem ZFC {x:AVal} {view:Bool} (hb:bf f=false) (hp:rest.all Zak=true) (hc:Zd cs=true) (hback:∀ ρ:Rho,ρ 1 0=some (sq,0)->Zf ρ cs2=cs3) (hx:ZQ x=true)
  (h:O f (.ref 0 0::rest.map ZM) [.var cs]=some (.pan x,[.var cs2,.row 0 w ys])) (hs:σ[t]?=some (.var cs)) (hff:ZaX σ sq 1=true):Zo O bf σ sq f 1 view (.ref t 0::rest)=some (.pan x,(σ.set t (.var cs3)).set sq (.row 0 w ys),{ any:=true,upd:=[(t,cs3)] }):=by
 have hfs:σ[sq]?=some .free:=ZgO (i:=0) hff (by omega)
 have hts:t≠sq:=by rintro rfl;rw [hs] at hfs;cases hfs
 have htl:t < σ.length:=(List.getElem?_eq_some_iff.1 hs).1
 have hd:σ.getD t .free=.var cs:=by simp [List.getD_eq_getElem?_getD,hs]
 have hnp:ZQ (.pan x)=true:=by simpa only [ZQ] using hx
 have hsh:showAs σ (.ref t 0::rest)=some (.ref t 0::rest.map ZM,[]):=by
  rw [showAs,show showA σ (.ref t 0)=some (.ref t 0,[]) from rfl,Zed hp]
  rfl
 have href:Zp (.ref t 0::rest.map ZM)=[t]:=by
  rw [Zp,Zdu hp];rfl
 have hρ:Zj σ 0 [t] t 0=some (0,0):=by simp [Zj,ZJ,hs,Zl,ZE]
 have hask:Zab view [t].length (some (.pan x,[.var cs2,.row 0 w ys]))=some (.pan x,[.var cs2,.row 0 w ys]):=by
  unfold Zab
  split <;> rfl
 refine Zc4 (ids:=[t]) hb hsh (by rw [href];exact Zfr hs hc) rfl (by simp [hs,okB]) ?_ ?_ h hask (by simp) (by simp) ?_ hff (Za7 _ _ hnp).1 ?_ ?_
 ·rw [Zf,ZdA hp]
  simp only [Zm,hρ]
 ·simp only [Zr,hd,Zw,(ZaW _ cs hc).1]
 ·simp [Za0,okB,hs,Zce,Zl]
 ·have hb3:Zf (Zax σ [t] sq) cs2=cs3:=hback _ (by simp [Zax])
  simp only [Za3,ZaF,List.getD_cons_zero,Zb1,Zl,Zw,hb3]
  simp []
 ·have e1:((σ.set t (.var cs3)).set sq (.row 0 w ys))[t]?=some (.var cs3):=by
   rw [List.getElem?_set_ne (fun e=>hts e.symm),List.getElem?_set_self htl]
  simp only [Za1,e1]
end
section
variable (b:Int) (l:Zb) {P1 Q:List AVal} {kk n w:Nat} {ys:List AVal} (h1:P1.length=26) (n1:Zd P1=true) (hQ:Q.length=26) (nQ:Zd Q=true) (hk:kk < 26)
include h1 n1 hQ nQ hk
theorem ZCQ (oQ:∀ r g m,(Zk Q kk r g m).all ZX=true)
  (hf:E 76 [.ref 0 0,.int .u8 b] (Zi P0 l)=some (.tup [],Zi P1 l)) (hb:E 77 [.ref 0 0] (Zi P1 l)=some (.tup [],Zci Q kk n [] w ys)) :
  evC FC PR BY 3 c2R (tput tmR (some 5) .top) (σR b l)=some (.ret,[(3,.ref 2 0),(2,.ref 1 0)],[.var [.int .u8 b,.lst false (l.map Zc)],.var (Zk Q kk 4 0 n),.var [.int .i64 0],.var (Zk Q kk 4 0 n++[.lst false []]),.row 0 w ys]):=by
 have hF:=fun (σ:Za) sq (hs:σ[3]?=some (.var (P0++[.lst false (l.map Zc)])))=>Zc5 (O:=E) (bf:=BY) (f:=76) (rest:=[.int .u8 b]) (by kernel_rfl) rfl (by rfl) (ZaA n1 (by rfl)) rfl rfl hf hs sq
 have hB:=fun (σ:Za) (hs:σ[3]?=some (.var (P1++[.lst false (l.map Zc)]))) (hfr:σ[4]?=some .free)=>ZAp (O:=E) (bf:=BY) (f:=77) (sq:=4) (rest:=[]) (by kernel_rfl) rfl (ZaA n1 (by rfl)) (Zbu Q hQ nQ hk 1 0 n []) (fun ρ h=>ZaQ Q hQ nQ hk 1 0 n 1 0 [] ρ h) (fun ρ h=>ZaQ Q hQ nQ hk 1 0 n 4 0 [] ρ h) hb hs (by simp [ZaX,freeAt,hfr])
 have hR:=Zb0 Q hQ nQ kk hk n 4 0
 have b1:=Zaa _ hR
 have b2:=Zfd _ hR
 have o2:=oQ 4 0 n
 simp only [List.map_nil] at hB
 unfold P0 at hF
 simp only [List.cons_append,List.nil_append] at hF
 unfold tmR σR P0
 clear hf hb
 generalize Zk Q kk 4 0 n=R at *
 simp -implicitDefEqProofs only [EQA,ZaM,Nat.reduceAdd,Nat.reduceLT,Nat.reduceLeDiff,Nat.reduceEqDiff,Nat.reduceBEq,↓reduceIte,c2R,AVal.cells,Zaj,hF,hB,b1,b2,hR,o2]
theorem Zw9 {c:Int} (hf:E 76 [.ref 0 0,.int .u8 b] (Zi P0 l)=some (.tup [],Zi P1 l)) {r:Zb} (hb:E 77 [.ref 0 0] (Zi P1 l)=some (.pan (ZB c),Zci Q kk n r w ys)) :
  evC FC PR BY 3 c2R (tput tmR (some 5) .top) (σR b l)=some (.panic (ZB c),[],[.var [.int .u8 b,.lst false (l.map Zc)],.var P0,.var [.int .i64 0],.var (Zk Q kk 4 0 n++[.lst false (r.map Zc)]),.row 0 w ys]):=by
 have hF:=fun (σ:Za) sq (hs:σ[3]?=some (.var (P0++[.lst false (l.map Zc)])))=>Zc5 (O:=E) (bf:=BY) (f:=76) (rest:=[.int .u8 b]) (by kernel_rfl) rfl (by rfl) (ZaA n1 (by rfl)) rfl rfl hf hs sq
 have hB:=fun (σ:Za) (hs:σ[3]?=some (.var (P1++[.lst false (l.map Zc)]))) (hff:ZaX σ 4 1=true)=>ZFC (O:=E) (bf:=BY) (f:=77) (view:=true) (sq:=4) (rest:=[]) (by kernel_rfl) rfl (ZaA n1 (by rfl)) (fun ρ h=>ZaQ Q hQ nQ hk 1 0 n 4 0 r ρ h) rfl hb hs hff
 unfold P0 at hF
 simp only [List.cons_append,List.nil_append] at hF
 unfold tmR σR P0
 clear hf hb
 generalize Zk Q kk 4 0 n=R at *
 simp -implicitDefEqProofs only [EQA,ZaM,Nat.reduceAdd,Nat.reduceLT,Nat.reduceLeDiff,Nat.reduceEqDiff,Nat.reduceBEq,↓reduceIte,c2R,AVal.cells,Zaj,hF,hB,ZaX]
omit h1 n1
theorem ZMT (c:Int):Zfs 0 1 2 rsR (.var [.int .u8 b,.lst false (l.map Zc)]::.var (Zk Q kk 4 0 n)::.var [.int .i64 c]::.var (Zk Q kk 4 0 n++[.lst false []])::.row 0 w ys::[])=some (.tup [.agg (Zk Q kk 0 0 n),.int .i64 c],[.row 0 w ys]):=by
 have hR:=Zb0 Q hQ nQ kk hk n 4 0
 have hRf:=Zcj Q hQ nQ kk hk n 4 0
 have hre:=fun ρ h=>ZbL Q hQ nQ kk hk n (r:=4) (g:=0) (r':=0) (g':=0) ρ h
 generalize Zk Q kk 4 0 n=R at *
 have h1:resA [(3,.ref 2 0),(2,.ref 1 0)] (.var [.int .u8 b,.lst false (l.map Zc)]::.var R::.var [.int .i64 c]::.var (R++[.lst false []])::.row 0 w ys::[]) rsR=some (.tup [.agg R,.int .i64 c]):=by
  have h2:R.take 26=R:=List.take_of_length_le (by omega)
  simp [resA,resAll,resOne,rsR,tget,ldA,partA,hR,h2]
 unfold Zfs
 rw [h1]
 have hr:Zp [AVal.tup [.agg R,.int .i64 c]]=[4]:=by simp [Zp,ZS,hRf]
 have hi:Zv 0 [AVal.tup [.agg R,.int .i64 c]] (.var [.int .u8 b,.lst false (l.map Zc)]::.var R::.var [.int .i64 c]::.var (R++[.lst false []])::.row 0 w ys::[])=[4]:=by
  simp only [Zv,hr,List.range_zero,List.flatMap_nil,List.append_nil]
  rfl
 have hρ:Zj (.var [.int .u8 b,.lst false (l.map Zc)]::.var R::.var [.int .i64 c]::.var (R++[.lst false []])::.row 0 w ys::[]) 0 [4] 4 0=some (0,0):=rfl
 simp only [Z6,gcA,hi,Zf,Zm,hre _ hρ,Zr,List.getD_cons_zero,List.getD_cons_succ,ZE,Zl,Zw]
 simp
end
theorem Zya (b:Int) (l:Zb) {P1 Q:List AVal} {kk n w:Nat} {ys:List AVal} (h1:P1.length=26) (n1:Zd P1=true) (hQ:Q.length=26) (nQ:Zd Q=true) (hk:kk < 26) (oQ:∀ r g m,(Zk Q kk r g m).all ZX=true)
  (hf:E 76 [.ref 0 0,.int .u8 b] (Zi P0 l)=some (.tup [],Zi P1 l)) (hb:E 77 [.ref 0 0] (Zi P1 l)=some (.tup [],Zci Q kk n [] w ys)) :
  ZeB [.agg [.int .u8 b,.lst false (l.map Zc)]] []=some (.tup [.agg (Zk Q kk 0 0 n),.int .i64 0],[.row 0 w ys]):=by
 unfold ZeB Ziu
 show (match evC FC PR BY 0 c1R (enterA 0 [.agg [.int .u8 b,.lst false (l.map Zc)]] []) [] with | some (.normal,tm1,σ1)=>_ | _=>none)=_
 rw [Zpn]
 show (if (0:Nat)<=(σR b l).length/\1 < (σR b l).length/\2 < (σR b l).length then Zf4 FC PR BY 61 c2R c3R rsR 0 (tput tmR (some 5) .top) (σR b l) 1 2 else none)=_
 rw [if_pos (by simp [σR])]
 unfold Zf4
 rw [show (σR b l).length=3 from rfl,ZCQ b l h1 n1 hQ nQ hk oQ hf hb]
 exact ZMT b l hQ nQ hk 0
theorem ZHx {b c:Int} {l:Zb} {Q:List AVal} {q:Zz} {w:Nat} {ys:List AVal} (h:E1 32 [.agg [.int .u8 b,.lst false (l.map Zc)]] []=some (.tup [.agg Q,.int .i64 c],[.row 0 w ys])) (hv:∀ σ:Za,σ[0]?=some (.row 0 w ys)->Zas σ Q=some (ZA q,[0])) :
  Zab true 0 (E1 32 [.agg [.int .u8 b,.lst false (l.map Zc)]] [])=some (.tup [Zar q,.int .i64 c],[]):=by
 rw [h]
 show Zbs 0 (some (.tup [.agg Q,.int .i64 c],[.row 0 w ys]))=some (.tup [Zar q,.int .i64 c],[])
 have h1:viewR [.row 0 w ys] (.tup [.agg Q,.int .i64 c])=some (.tup [Zar q,.int .i64 c],[0]):=by
  rw [viewR,viewAs,ZP,hv _ rfl]
  rfl
 unfold Zbs
 simp only [h1]
 have e1:=ZkR q
 have e2:=ZjH q
 have hi:Zv 0 [AVal.tup [Zar q,.int .i64 c]] (Zq [.row 0 w ys] [0])=[]:=by
  have : Zp [AVal.tup [Zar q,.int .i64 c]]=[]:=by simp [Zp,ZS,ZbD,e1]
  simp only [Zv,this,List.nil_append,List.range_zero,List.flatMap_nil]
  rfl
 simp only [gcA,hi,Zf,Zm,Zr]
 rw [ZbD,Zm,e2]
end
section
def Zrz (q:Zz) (m:Int):Zz:={ q with clean:=Zx m 2 != 0,hasWill:=Zx m 4 != 0,hasPassword:=Zx m 64 != 0,hasUser:=Zx m 128 != 0,will:={ q.will with qos:=Zx (Zej m) 3,retain:=Zx m 32 != 0 } }
def headD (q:Zz) (k:Int) (ps:List Zn) (cl:Zb):Zz:={ q with keep:=k,props:=ps,client:=cl }
def ZjP (b:Bool) (q:Zz) (l:Zb):Except Int (Zz×Zb):=if b=true then (match Zdh l with
 | .error c=>.error c
 | .ok (d,r)=>.ok ({ q with password:=d },r)) else .ok (q,l)
def ZhP (b:Bool) (q:Zz) (l:Zb):Except Int (Zz×Zb):=if b=true then (match Zap l with
 | .error c=>.error c
 | .ok (d,r)=>.ok ({ q with user:=d },r)) else .ok (q,l)
def Zh3 (b:Bool) (q:Zz) (l:Zb):Except Int (Zz×Zb):=if b=true then (match Zeo l with
 | .error c=>.error c
 | .ok (ps,tp,d,r)=>.ok ({ q with will:={ q.will with props:=ps,topic:=tp,data:=d } },r)) else .ok (q,l)
def Zkr (m:Int) (q:Zz) (l:Zb):Except Int (Zz×Zb):=match Zh3 (Zx m 4 != 0) q l with
 | .error c=>.error c
 | .ok (q,l)=>match ZhP (Zx m 128 != 0) q l with
  | .error c=>.error c
  | .ok (q,l)=>ZjP (Zx m 64 != 0) q l
def Zk6 (q:Zz) (m:Int) (l:Zb):Except Int (Zz×Zb):=match ZaG 2 l with
 | .error c=>.error c
 | .ok (k,r4)=>match ZbC 1 r4 with
  | .error c=>.error c
  | .ok (ps,r5)=>match Zap r5 with
   | .error c=>.error c
   | .ok (cl,r6)=>Zkr m (headD (Zrz q m) k ps cl) r6
def ZgE (q:Zz) (l:Zb):Except Int (Zz×Zb):=match Zap l with
 | .error c=>.error c
 | .ok (s,r1)=>if (s == [77,81,84,84])=true then (match ZaG 1 r1 with
  | .error c=>.error c
  | .ok (v,r2)=>if (v == 5)=true then (match ZaG 1 r2 with
   | .error c=>.error c
   | .ok (m,r3)=>if Zhm m (Zx (Zej m) 3) (Zx m 4 != 0) (Zx m 32 != 0)=true then Zk6 q m r3 else .error 129)
   else .error 132)
  else .error 132
structure Is (P:List AVal) (q:Zz):Prop where
 view:∀ σ,Zas σ P=some (ZA q,[])
 ok:P.all ZX=true
theorem Zqb {σ:Za} {v y:AVal} {ts:List Nat} (hv:ZL σ v=some (y,ts)):∀ {P ys:List AVal} {k:Nat},Zas σ P=some (ys,[])->k < P.length->Zas σ (P.set k v)=some (ys.set k y,ts)
 | [],_,_,_,h=>by simp at h
 | x::P,ys,k,h,hk=>by
  rw [Zas] at h
  split at h
  ·rename_i y0 t0 h0
   split at h
   ·rename_i ys0 us0 h1
    injection h with h;injection h with h2 h3
    obtain ⟨rfl,rfl⟩:=List.append_eq_nil_iff.1 h3
    subst h2
    cases k with
    | zero =>
     rw [List.set_cons_zero,Zas,hv]
     simp only [h1,List.append_nil]
     rfl
    | succ k =>
     rw [List.set_cons_succ,Zas,h0]
     simp only [Zqb hv h1 (by simpa using hk)]
     rfl
   ·cases h
  ·cases h
theorem ZpS {v:AVal} (hv:ZX v=true):∀ {P:List AVal} {k:Nat},P.all ZX=true->(P.set k v).all ZX=true
 | [],_,_=>rfl
 | x::P,0,h=>by
  simp only [List.set_cons_zero,List.all_cons,Bool.and_eq_true] at h ⊢
  exact ⟨hv,h.2⟩
 | x::P,k+1,h=>by
  simp only [List.set_cons_succ,List.all_cons,Bool.and_eq_true] at h ⊢
  exact ⟨h.1,ZpS hv h.2⟩
theorem Is.set {P:List AVal} {q q':Zz} (h:Is P q) {k:Nat} {v y:AVal} (hk:k < P.length) (hv:∀ σ,ZL σ v=some (y,[])) (ho:ZX v=true) (hc:(ZA q).set k y=ZA q'):Is (P.set k v) q' :=
 ⟨fun σ=>by rw [Zqb (hv σ) (h.view σ) hk,hc],ZpS ho h.ok⟩
section
variable {P:List AVal} {q:Zz} (hP:P.length=26) (h:Is P q)
include hP h
theorem ZOz (m:Int):Is (ZbE P m) (Zrz q m):=by
 unfold ZbE
 have h1:=h.set (k:=12) (q':={ q with clean:=Zx m 2 != 0 }) (v:=.bool (Zx m 2 != 0)) (by omega) (fun _=>rfl) rfl rfl
 have h2:=h1.set (k:=15) (q':={ q with clean:=Zx m 2 != 0,hasWill:=Zx m 4 != 0 }) (v:=.bool (Zx m 4 != 0)) (by simp [hP]) (fun _=>rfl) rfl rfl
 have h3:=h2.set (k:=23) (q':={ q with clean:=Zx m 2 != 0,hasWill:=Zx m 4 != 0,hasPassword:=Zx m 64 != 0 }) (v:=.bool (Zx m 64 != 0)) (by simp [hP]) (fun _=>rfl) rfl rfl
 have h4:=h3.set (k:=21) (q':={ q with clean:=Zx m 2 != 0,hasWill:=Zx m 4 != 0,hasPassword:=Zx m 64 != 0,hasUser:=Zx m 128 != 0 }) (v:=.bool (Zx m 128 != 0)) (by simp [hP]) (fun _=>rfl) rfl rfl
 have h5:=h4.set (k:=18) (q':={ q with clean:=Zx m 2 != 0,hasWill:=Zx m 4 != 0,hasPassword:=Zx m 64 != 0,hasUser:=Zx m 128 != 0,will:={ q.will with qos:=Zx (Zej m) 3 } }) (v:=.int .i64 (Zx (Zej m) 3)) (by simp [hP]) (fun _=>rfl) rfl rfl
 exact h5.set (k:=19) (v:=.bool (Zx m 32 != 0)) (by simp [hP]) (fun _=>rfl) rfl rfl
theorem ZM9 (k:Int) (ps:List Zn) (cl:Zb):Is (Zjk P k ps cl) (headD q k ps cl):=by
 unfold Zjk
 have h1:=h.set (k:=13) (q':={ q with keep:=k }) (v:=.int .i64 k) (by omega) (fun _=>rfl) rfl rfl
 have h2:=h1.set (k:=9) (q':={ q with keep:=k,props:=ps }) (v:=.lst false (ps.map Zg)) (by simp [hP]) (fun _=>rfl) rfl rfl
 exact h2.set (k:=14) (v:=.str cl) (by simp [hP]) (fun _=>rfl) rfl rfl
theorem ZxF (ps:List Zn) (tp d:Zb):Is (Zhz P ps tp d) { q with will:={ q.will with props:=ps,topic:=tp,data:=d } }:=by
 unfold Zhz
 have h1:=h.set (k:=20) (q':={ q with will:={ q.will with props:=ps } }) (v:=.lst false (ps.map Zg)) (by omega) (fun _=>rfl) rfl rfl
 have h2:=h1.set (k:=16) (q':={ q with will:={ q.will with props:=ps,topic:=tp } }) (v:=.str tp) (by simp [hP]) (fun _=>rfl) rfl rfl
 exact h2.set (k:=17) (v:=.lst false (d.map Zc)) (by simp [hP]) (fun _=>rfl) rfl rfl
end
def Zh2 (x:Except Int KSt) (y:Except Int (Zz×Zb)):Prop:=match x with
 | .error e=>y=.error e
 | .ok (P,l)=>∃ q,y=.ok (q,l)/\P.length=26/\Is P q
section
variable {P:List AVal} {q:Zz} (hP:P.length=26) (h:Is P q) (l:Zb)
include hP h
theorem Zyl (b:Bool):Zh2 (Zig b (P,l)) (ZjP b q l):=by
 unfold Zig ZjP
 cases b
 ·exact ⟨q,rfl,hP,h⟩
 ·rw [if_pos rfl,if_pos rfl]
  cases hd:Zdh l with
  | error c=>exact rfl
  | ok a=>exact ⟨_,rfl,by simp [hP],h.set (by omega) (fun _=>rfl) rfl rfl⟩
theorem ZC2 (b:Bool):Zh2 (ZhJ b (P,l)) (ZhP b q l):=by
 unfold ZhJ ZhP
 cases b
 ·exact ⟨q,rfl,hP,h⟩
 ·rw [if_pos rfl,if_pos rfl]
  cases hd:Zap l with
  | error c=>exact rfl
  | ok a=>exact ⟨_,rfl,by simp [hP],h.set (by omega) (fun _=>rfl) rfl rfl⟩
theorem ZDu (b:Bool):Zh2 (ZjM b (P,l)) (Zh3 b q l):=by
 unfold ZjM Zh3
 cases b
 ·exact ⟨q,rfl,hP,h⟩
 ·rw [if_pos rfl,if_pos rfl]
  cases hd:Zeo l with
  | error c=>exact rfl
  | ok a =>
   obtain ⟨ps,tp,d,r⟩:=a
   exact ⟨_,rfl,by simp [Zhz,hP],ZxF hP h ps tp d⟩
theorem ZHO (m:Int):Zh2 (ZjI m (P,l)) (Zkr m q l):=by
 unfold ZjI Zkr
 have h1:=ZDu hP h l (Zx m 4 != 0)
 cases hw:ZjM (Zx m 4 != 0) (P,l) with
 | error e =>
  rw [hw] at h1
  rw [show Zh3 (Zx m 4 != 0) q l=.error e from h1]
  exact rfl
 | ok s =>
  obtain ⟨P1,l1⟩:=s
  rw [hw] at h1
  obtain ⟨q1,e1,hP1,i1⟩:=h1
  rw [e1]
  simp only
  have h2:=ZC2 hP1 i1 l1 (Zx m 128 != 0)
  cases hu:ZhJ (Zx m 128 != 0) (P1,l1) with
  | error e =>
   rw [hu] at h2
   rw [show ZhP (Zx m 128 != 0) q1 l1=.error e from h2]
   exact rfl
  | ok s =>
   obtain ⟨P2,l2⟩:=s
   rw [hu] at h2
   obtain ⟨q2,e2,hP2,i2⟩:=h2
   rw [e2]
   exact Zyl hP2 i2 l2 _
theorem ZPo (m:Int):Zh2 (Zjq P m l) (Zk6 q m l):=by
 unfold Zjq Zk6
 cases h1:ZaG 2 l with
 | error c=>exact rfl
 | ok a =>
 obtain ⟨k,r4⟩:=a
 simp only
 cases h2:ZbC 1 r4 with
 | error c=>exact rfl
 | ok a =>
 obtain ⟨ps,r5⟩:=a
 simp only
 cases h3:Zap r5 with
 | error c=>exact rfl
 | ok a =>
 obtain ⟨cl,r6⟩:=a
 exact ZHO (by simp [Zjk,ZbE,hP]) (ZM9 (by simp [ZbE,hP]) (ZOz hP h m) k ps cl) r6 m
theorem ZGl:Zh2 (Zjb P l) (ZgE q l):=by
 unfold Zjb ZgE
 cases h1:Zap l with
 | error c=>exact rfl
 | ok a =>
 obtain ⟨s,r1⟩:=a
 simp only
 split
 case isFalse=>exact rfl
 cases h2:ZaG 1 r1 with
 | error c=>exact rfl
 | ok a =>
 obtain ⟨v,r2⟩:=a
 simp only
 split
 case isFalse=>exact rfl
 cases h3:ZaG 1 r2 with
 | error c=>exact rfl
 | ok a =>
 obtain ⟨m,r3⟩:=a
 simp only
 split
 case isFalse=>exact rfl
 exact ZPo hP h r3 m
end
def Zc8 (x:Except Int (Zz×Zb)):Except Int Zz:=match x with
 | .error e=>.error e
 | .ok (q,r)=>if r.length=0 then .ok q else .error 129
def ZgT (q:Zz) (l:Zb):Except Int (Zz×Zb):=match Zdb q.type l with
 | .error e=>.error e
 | .ok ((c,ps),r)=>.ok ({ q with code:=c,props:=ps.getD [] },r)
def idQ (q:Zz) (l:Zb):Except Int (Zz×Zb):=match idK l with
 | .error e=>.error e
 | .ok (n,r)=>ZgT { q with id:=n } r
def ZjK (q:Zz) (l:Zb):Except Int (Zz×Zb):=match ZaG 1 l with
 | .error e=>.error e
 | .ok (f,r)=>if f < 2 then (match ZaK 2 r with
  | .error e=>.error e
  | .ok (c,r2)=>match ZbC 2 r2 with
   | .error e=>.error e
   | .ok (ps,r3)=>.ok ({ q with present:=f == 1,code:=c,props:=ps },r3)) else .error 129
def Zmd (q:Zz) (l:Zb):Except Int Zz:=match ZbB Zbw 8 l with
 | .error e=>.error e
 | .ok (n,ps,ts)=>.ok { q with id:=n,props:=ps,subs:=ts }
def Zlf (q:Zz) (l:Zb):Except Int Zz:=match ZbB Zap 10 l with
 | .error e=>.error e
 | .ok (n,ps,ts)=>.ok { q with id:=n,props:=ps,filters:=ts }
def ZhL (q:Zz) (l:Zb):Except Int Zz:=match ZbB (ZaK q.type) q.type l with
 | .error e=>.error e
 | .ok (n,ps,ts)=>.ok { q with id:=n,props:=ps,codes:=ts }
def Zik (t:Int) (l:Zb):Except Int Zz :=
 if t=1 then Zc8 (ZgE { ZaH with type:=1 } l)
 else if t=2 then Zc8 (ZjK { ZaH with type:=2 } l)
 else if t=4\/t=5\/t=6\/t=7 then Zc8 (idQ { ZaH with type:=t } l)
 else if t=8 then Zmd { ZaH with type:=8 } l
 else if t=10 then Zlf { ZaH with type:=10 } l
 else if t=9\/t=11 then ZhL { ZaH with type:=t } l
 else if t=14\/t=15 then Zc8 (ZgT { ZaH with type:=t } l)
 else Zc8 (.ok ({ ZaH with type:=t },l))
def Zdx (b:Int) (l:Zb):Zz×Int :=
 if tyI b=0 then (ZaH,129) else if tyI b=3 then ZhX b l
 else if Zbm b 15=ZeE (tyI b) then (match Zik (tyI b) l with
  | .error e=>(ZaH,e)
  | .ok q=>(q,0)) else (ZaH,129)
def ZdY (t : Int) (l : Zb) (x : Except Int Zz) : Prop := match x with
  | .ok q => (∃ Q L, Q.length = 26 /\ Zd Q = true /\ ZQ L = true /\ Is Q q /\ E 77 [.ref 0 0] (Zi (P0.set 0 (.int .i64 t)) l) = some (.tup [], [.var (Q ++ [L])])) \/
      (∃ Q q0 kk w ys, Q.length = 26 /\ Zd Q = true /\ kk < 26 /\ Is Q q0 /\ (ZA q0).set kk (.lst false ys) = ZA q /\ E 77 [.ref 0 0] (Zi (P0.set 0 (.int .i64 t)) l) = some (.tup [], Zci Q kk ys.length [] w ys))
  | .error e => (∃ cs, Zd cs = true /\ E 77 [.ref 0 0] (Zi (P0.set 0 (.int .i64 t)) l) = some (.pan (ZB e), [.var cs])) \/
      (∃ Q kk n r w ys, Q.length = 26 /\ Zd Q = true /\ kk < 26 /\ E 77 [.ref 0 0] (Zi (P0.set 0 (.int .i64 t)) l) = some (.pan (ZB e), Zci Q kk n r w ys))
theorem ZiM {t:Int} {l:Zb} {q:Zz} {Q:List AVal} {r:Zb} (hQ:Q.length=26) (hN:Zd Q=true) (hi:Is Q q) (h:E 77 [.ref 0 0] (Zi (P0.set 0 (.int .i64 t)) l)=some (if r.length=0 then .tup [] else .pan (ZB 129),Zi Q r)):ZdY t l (Zc8 (.ok (q,r))):=by
 unfold Zc8
 simp only
 split at h
 ·rename_i h0
  rw [if_pos h0]
  exact Or.inl ⟨Q,_,hQ,hN,rfl,hi,h⟩
 ·rename_i h0
  rw [if_neg h0]
  exact Or.inl ⟨_,Zy Q hQ hN _ _,h⟩
theorem ZkP {t:Int} {l:Zb} {kk w:Nat} {e:Int} (hk:kk < 26) (h:ZjN kk w l (P0.set 0 (.int .i64 t)) e):ZdY t l (.error e):=by
 rcases h with ⟨cs,h1,h2⟩ | ⟨Q,n,r,ys,h1,h2,h3⟩
 ·exact Or.inl ⟨cs,h1,h2⟩
 ·exact Or.inr ⟨Q,kk,n,r,w,ys,h1,h2,hk,h3⟩
section
variable (l:Zb) (hl:l.length<=1099511627775)
include hl
theorem hlP:l.length<=140737488355328:=by omega
theorem ZC1:ZdY 1 l (Zc8 (ZgE { ZaH with type:=1 } l)):=by
 have hs:=ZGl (P:=P0.set 0 (.int .i64 1)) (q:={ ZaH with type:=1 }) rfl ⟨fun σ=>rfl,rfl⟩ l
 have hr:=ZyA (P0.set 0 (.int .i64 1)) rfl (by rfl) l (hlP l hl) (fun r _=>ZdU 1 r) (fun r _=>ZdU 16 r)
 cases hc:Zjb (P0.set 0 (.int .i64 1)) l with
 | error e =>
  rw [hc] at hs hr
  rw [show ZgE { ZaH with type:=1 } l=.error e from hs]
  obtain ⟨cs,hn,he⟩:=KRuns.fnF (f:=114) (fn:=Zpy) (by rfl) Zsi hr
  exact Or.inl ⟨cs,hn,ZPa (P0.set 0 (.int .i64 1)) rfl (by rfl) rfl l (hlP l hl) hn he⟩
 | ok s =>
  obtain ⟨Q,r⟩:=s
  rw [hc] at hs hr
  obtain ⟨q,e1,hQ,hi⟩:=hs
  rw [e1]
  have hQN:Zd Q=true:=by obtain ⟨_,_,_,h3,_⟩:=hr;exact h3
  have he:=KRuns.fnT (f:=114) (fn:=Zpy) (by rfl) Zsi rfl hr
  refine ZiM hQ hQN hi ?_
  by_cases h0:r.length=0
  ·rw [if_pos h0];exact ZBX (P0.set 0 (.int .i64 1)) rfl (by rfl) rfl l (hlP l hl) he hQ hQN h0
  ·rw [if_neg h0];exact ZzX (P0.set 0 (.int .i64 1)) rfl (by rfl) rfl l (hlP l hl) he hQ hQN h0
theorem ZG4:ZdY 2 l (Zc8 (ZjK { ZaH with type:=2 } l)):=by
 have hP:(P0.set 0 (.int .i64 2)).length=26:=rfl
 have hN:Zd (P0.set 0 (.int .i64 2))=true:=by rfl
 unfold ZjK
 cases h1:ZaG 1 l with
 | error e=>exact Or.inl (ZI5 _ hP hN rfl l (hlP l hl) h1)
 | ok a =>
 obtain ⟨f,r⟩:=a
 simp only
 split
 case isFalse hf=>exact Or.inl (Zxk _ hP hN rfl l (hlP l hl) h1 hf)
 rename_i hf
 cases h2:ZaK 2 r with
 | error e=>exact Or.inl (ZCv _ hP hN rfl l (hlP l hl) h1 hf h2)
 | ok a =>
 obtain ⟨c,r2⟩:=a
 simp only
 cases h3:ZbC 2 r2 with
 | error e=>exact Or.inl (ZHC _ hP hN rfl l (hlP l hl) h1 hf h2 h3)
 | ok a =>
 obtain ⟨ps,r3⟩:=a
 exact ZiM (by simp [hP]) (ZT (Zb5 _ _) _ (ZT rfl _ (ZT rfl _ hN))) ⟨fun σ=>rfl,rfl⟩ (ZKD _ hP hN rfl l (hlP l hl) h1 hf h2 h3 (ZdU 2 r2))
theorem ZtC {P:List AVal} {q:Zz} (hP:P.length=26) (h:Is P q) (c:Int) (ps:Option (List Zn)):Is (Zeh P c ps) { q with code:=c,props:=ps.getD [] }:=by
 unfold Zeh
 have h1:=h.set (k:=7) (q':={ q with code:=c }) (v:=.int .i64 c) (by omega) (fun _=>rfl) rfl rfl
 cases ps with
 | none=>exact h1.set (k:=9) (v:=.lst true []) (by simp [hP]) (fun _=>rfl) rfl rfl
 | some ps=>exact h1.set (k:=9) (v:=.lst false (ps.map Zg)) (by simp [hP]) (fun _=>rfl) rfl rfl
theorem Zu2 (k:Int) (hk:k=14\/k=15):ZdY k l (Zc8 (ZgT { ZaH with type:=k } l)):=by
 have hP:(P0.set 0 (.int .i64 k)).length=26:=rfl
 have hN:Zd (P0.set 0 (.int .i64 k))=true:=by rfl
 unfold ZgT
 simp only
 cases h1:Zdb k l with
 | error e=>exact Or.inl (ZA3 _ hP hN k hk rfl (fun r _=>ZdU k r) l (hlP l hl) h1)
 | ok a =>
 obtain ⟨⟨c,ps⟩,r⟩:=a
 obtain ⟨i1,i2⟩:=Zka hP hN c ps
 exact ZiM i1 i2 (ZtC l hl (q:={ ZaH with type:=k }) hP ⟨fun σ=>rfl,rfl⟩ c ps) (ZAq _ hP hN k hk rfl rfl rfl (fun r _=>ZdU k r) l (hlP l hl) h1)
theorem Zmw (k:Int) (hk:k=4\/k=5\/k=6\/k=7):ZdY k l (Zc8 (idQ { ZaH with type:=k } l)):=by
 have hP:(P0.set 0 (.int .i64 k)).length=26:=rfl
 have hN:Zd (P0.set 0 (.int .i64 k))=true:=by rfl
 unfold idQ ZgT
 simp only
 cases h0:idK l with
 | error e=>exact Or.inl (ZHl _ hP hN k hk rfl l (hlP l hl) h0)
 | ok a =>
 obtain ⟨n,r1⟩:=a
 simp only
 cases h1:Zdb k r1 with
 | error e=>exact Or.inl (ZMJ _ hP hN k hk rfl (fun r _=>ZdU k r) l (hlP l hl) h0 h1)
 | ok a =>
 obtain ⟨⟨c,ps⟩,r⟩:=a
 obtain ⟨i1,i2⟩:=Zka (P:=(P0.set 0 (.int .i64 k)).set 4 (.int .i64 n)) rfl (by rfl) c ps
 exact ZiM i1 i2 (ZtC l hl (q:={ ZaH with type:=k,id:=n }) rfl ⟨fun σ=>rfl,rfl⟩ c ps) (ZJZ _ hP hN k hk rfl rfl rfl (fun r _=>ZdU k r) l (hlP l hl) h0 h1)
theorem ZwK (k:Int) (hk:k=12\/k=13):ZdY k l (Zc8 (.ok ({ ZaH with type:=k },l))) :=
 ZiM (Q:=P0.set 0 (.int .i64 k)) rfl (by rfl) ⟨fun σ=>rfl,rfl⟩ (ZAX _ rfl (by rfl) k hk rfl l)
theorem ZdH (k:Int):QOk k (P0.set 0 (.int .i64 k)):=⟨rfl,by rfl,rfl,rfl,rfl,rfl⟩
theorem ZmJ (k:Int) (n:Int) (ps:List Zn):Is (ZbY (P0.set 0 (.int .i64 k)) n ps) { ZaH with type:=k,id:=n,props:=ps }:=⟨fun σ=>rfl,rfl⟩
theorem ZCS:ZdY 8 l (Zmd { ZaH with type:=8 } l):=by
 unfold Zmd
 cases h:ZbB Zbw 8 l with
 | error e=>exact ZkP (by omega) (ZKt _ l hl (ZdH l hl 8) h)
 | ok a =>
 obtain ⟨n,ps,ts⟩:=a
 have hQ:=ZdT (ZdH l hl 8) n ps
 have:=ZDh _ l hl (ZdH l hl 8) h
 rw [<-List.length_map (f:=Z5)] at this
 exact Or.inr ⟨_,_,10,6,ts.map Z5,hQ.len,hQ.nor,by omega,ZmJ l hl 8 n ps,rfl,this⟩
theorem ZAk:ZdY 10 l (Zlf { ZaH with type:=10 } l):=by
 unfold Zlf
 cases h:ZbB Zap 10 l with
 | error e=>exact ZkP (by omega) (ZCo _ l hl (ZdH l hl 10) h)
 | ok a =>
 obtain ⟨n,ps,ts⟩:=a
 have hQ:=ZdT (ZdH l hl 10) n ps
 have:=ZA0 _ l hl (ZdH l hl 10) h
 rw [<-List.length_map (f:=AVal.str)] at this
 exact Or.inr ⟨_,_,11,1,ts.map AVal.str,hQ.len,hQ.nor,by omega,ZmJ l hl 10 n ps,rfl,this⟩
theorem ZHL:ZdY 9 l (ZhL { ZaH with type:=9 } l):=by
 unfold ZhL
 simp only
 cases h:ZbB (ZaK 9) 9 l with
 | error e=>exact ZkP (by omega) (Zyj _ l hl (ZdH l hl 9) h)
 | ok a =>
 obtain ⟨n,ps,ts⟩:=a
 have hQ:=ZdT (ZdH l hl 9) n ps
 have:=ZAb _ l hl (ZdH l hl 9) h
 rw [<-List.length_map (f:=AVal.int .i64)] at this
 exact Or.inr ⟨_,_,8,1,ts.map (AVal.int .i64),hQ.len,hQ.nor,by omega,ZmJ l hl 9 n ps,rfl,this⟩
theorem ZE3:ZdY 11 l (ZhL { ZaH with type:=11 } l):=by
 unfold ZhL
 simp only
 cases h:ZbB (ZaK 11) 11 l with
 | error e=>exact ZkP (by omega) (ZN1 _ l hl (ZdH l hl 11) h)
 | ok a =>
 obtain ⟨n,ps,ts⟩:=a
 have hQ:=ZdT (ZdH l hl 11) n ps
 have:=ZO6 _ l hl (ZdH l hl 11) h
 rw [<-List.length_map (f:=AVal.int .i64)] at this
 exact Or.inr ⟨_,_,8,1,ts.map (AVal.int .i64),hQ.len,hQ.nor,by omega,ZmJ l hl 11 n ps,rfl,this⟩
theorem ZCJ (t:Int) (h1:1<=t/\t<=15) (h3:t≠3):ZdY t l (Zik t l):=by
 have : t=1\/t=2\/t=4\/t=5\/t=6\/t=7\/t=8\/t=9\/t=10\/t=11\/t=12\/t=13\/t=14\/t=15:=by omega
 unfold Zik
 rcases this with rfl | rfl | rfl | rfl | rfl | rfl | rfl | rfl | rfl | rfl | rfl | rfl | rfl | rfl
 ·exact ZC1 l hl
 ·exact ZG4 l hl
 ·exact Zmw l hl 4 (by decide)
 ·exact Zmw l hl 5 (by decide)
 ·exact Zmw l hl 6 (by decide)
 ·exact Zmw l hl 7 (by decide)
 ·exact ZCS l hl
 ·exact ZHL l hl
 ·exact ZAk l hl
 ·exact ZE3 l hl
 ·exact ZwK l hl 12 (by decide)
 ·exact ZwK l hl 13 (by decide)
 ·exact Zu2 l hl 14 (by decide)
 ·exact Zu2 l hl 15 (by decide)
end
theorem ZDc (b:Int) (hb:0<=b/\b < 256):0<=tyI b/\tyI b<=15:=by
 have h:∀ n:Nat,n < 256->0<=tyI (n:Int)/\tyI (n:Int)<=15:=by decide +kernel
 have:=h b.toNat (by omega)
 rwa [Int.toNat_of_nonneg hb.1] at this
theorem Zp6 {b c:Int} {l:Zb} {Q:List AVal} {q:Zz} (h:E1 32 [.agg [.int .u8 b,.lst false (l.map Zc)]] []=some (.tup [.agg Q,.int .i64 c],[])) (hv:∀ σ,Zas σ Q=some (ZA q,[])):Zab true 0 (E1 32 [.agg [.int .u8 b,.lst false (l.map Zc)]] [])=some (.tup [Zar q,.int .i64 c],[]):=by
 rw [h];exact ZCh c hv
theorem ZLf (b:Int) (hb:0<=b/\b < 256) (l:Zb) (hl:l.length<=1099511627775):Zab true 0 (E1 32 [.agg [.int .u8 b,.lst false (l.map Zc)]] [])=some (.tup [Zar (Zdx b l).1,.int .i64 (Zdx b l).2],[]):=by
 have hr:=ZDc b hb
 have hF:∀ c,ZeB [.agg [.int .u8 b,.lst false (l.map Zc)]] []=some (.tup [.agg P0,.int .i64 c],[])->Zab true 0 (E1 32 [.agg [.int .u8 b,.lst false (l.map Zc)]] [])=some (.tup [Zar ZaH,.int .i64 c],[]):=fun c h =>
  Zp6 (by rw [ZgX];exact h) Zld
 unfold Zdx
 by_cases h0:tyI b=0
 ·rw [if_pos h0]
  exact hF 129 (Zg6 b 129 l (Zj1 b l (Zy _ rfl (by rfl) _ _) (ZFg P0 rfl (by rfl) b l h0)))
 rw [if_neg h0]
 by_cases h3:tyI b=3
 ·rw [if_pos h3]
  obtain ⟨Q,h,hv⟩:=ZA9 b h3 l (by omega)
  exact Zp6 h hv
 rw [if_neg h3]
 by_cases hf:Zbm b 15=ZeE (tyI b)
 case neg =>
  rw [if_neg hf]
  exact hF 129 (Zg6 b 129 l (Zj1 b l (Zy _ rfl (by rfl) _ _) (ZGM P0 rfl (by rfl) b (tyI b) l rfl h0 h3 hf)))
 rw [if_pos hf]
 have hfi:=ZIS P0 rfl (by rfl) b (tyI b) l rfl h0 h3 hf
 have hB:=ZCJ l hl (tyI b) (by omega) h3
 generalize tyI b=t at *
 have p1:(P0.set 0 (.int .i64 t)).length=26:=rfl
 have p2:Zd (P0.set 0 (.int .i64 t))=true:=by rfl
 cases hx:Zik t l with
 | error e =>
  rw [hx] at hB
  rcases hB with ⟨cs,hn,hb⟩ | ⟨Q,kk,n,r,w,ys,hQ,hN,hk,hb⟩
  ·exact hF e (Zg6 b e l (ZwJ b l p1 p2 hn hfi hb))
  ·exact hF e (Zg6 b e l (Zw9 b l p1 p2 hQ hN hk hfi hb))
 | ok q =>
  rw [hx] at hB
  rcases hB with ⟨Q,L,hQ,hN,nL,hi,hb⟩ | ⟨Q,q0,kk,w,ys,hQ,hN,hk,hi,hc,hb⟩
  ·exact Zp6 (by rw [ZgX];exact Zsa b l p1 p2 hQ hN hi.ok nL hfi hb) hi.view
  ·refine ZHx (by rw [ZgX];exact Zya b l p1 p2 hQ hN hk (fun r g m=>ZpS rfl hi.ok) hfi hb) (fun σ hs=>?_)
   have hv:ZL σ (.sl 0 0 0 ys.length)=some (.lst false ys,[0]):=by
    simp [ZL,ZY,hs]
   unfold Zk
   rw [Zqb hv (hi.view σ) (by omega),hc]
theorem ZsJ (b:Int) (hb:0<=b/\b < 256) (l:Zb) (hl:l.length<=1099511627775) (f:Bool) (σ:Za) (sq own:Nat) :
  Zo E1 BY σ sq 32 own true [.agg [.int .u8 b,.lst f (l.map Zc)]]=some (.tup [Zar (Zdx b l).1,.int .i64 (Zdx b l).2],σ,{}):=by
 rw [Zd2 (by kernel_rfl) rfl]
 show Zav σ σ [] [] sq own (Zab true 0 (E1 32 [.agg [.int .u8 b,.lst false (l.map Zc)]] []))=_
 rw [ZLf b hb l hl,Zha _ _ _ _ (by simp only [Zm,Zf,ZbD,ZjH])]
end
section
def Zhy:Zb:=[77,81,84,84]
theorem ZiA (q:Int):0<=Zx q 3/\Zx q 3<=3:=by
 have h:∀ x:BitVec 64,(x &&& BitVec.ofInt 64 3).toNat<=3:=by
  intro x
  rw [BitVec.toNat_and]
  exact Nat.and_le_right
 have h2:=h (BitVec.ofInt 64 q)
 unfold Zx
 have h3:IntKind.i64.bits=64:=rfl
 rw [h3,Za6 (by omega) (by omega)]
 omega
def Zm3 (p:Zz):Int:=Z8 p.clean 2+Z8 p.hasWill 4+Zx p.will.qos 3*8+Z8 p.will.retain 32+Z8 p.hasPassword 64+Z8 p.hasUser 128
theorem Zea (b:Bool) (n:Int) (h:0<=n):0<=Z8 b n/\Z8 b n<=n:=by unfold Z8;split <;> omega
theorem ZcD (n:Int) (h0:0<=n) (h1:n < 9223372036854775808):IntKind.i64.wrap n=n:=by
 obtain ⟨m,rfl⟩:∃ m:Nat,n=m:=⟨n.toNat,by omega⟩
 exact Za6 (by omega) (by omega)
def Zme (p:Zz):Zb:=((((ZZ Zhy).1++beB (ZO 5) 1)++beB (ZO (Zm3 p)) 1)++beB (ZO p.keep) 2)++(ZaN 1 p.props).1++(ZZ p.client).1
def Zkm (p:Zz):Zb:=if p.hasWill then ((Zme p++(ZaN 16 p.will.props).1)++(ZZ p.will.topic).1)++(Za4 p.will.data).1 else Zme p
def Zlk (p:Zz):Zb:=if p.hasUser then Zkm p++(ZZ p.user).1 else Zkm p
def Zez (p:Zz):Zb:=if p.hasPassword then Zlk p++(Za4 p.password).1 else Zlk p
section
variable (p:Zz) (h:OkW p)
include h
theorem ZAV:E1 126 [.ref 0 0,Zar p] [.var wn]=some (.tup [],wH 0 (Zez p)):=by
 have hq:=ZiA p.will.qos
 have m1:=Zea p.clean 2 (by omega)
 have m2:=Zea p.hasWill 4 (by omega)
 have m3:=Zea p.will.retain 32 (by omega)
 have m4:=Zea p.hasPassword 64 (by omega)
 have m5:=Zea p.hasUser 128 (by omega)
 have hm:=fun b n σ sq own=>ZjU b n σ sq own
 have w1:=ZcD (Z8 p.clean 2+Z8 p.hasWill 4) (by omega) (by omega)
 have w2:=ZcD (Zx p.will.qos 3*8) (by omega) (by omega)
 have w3:=ZcD (Z8 p.clean 2+Z8 p.hasWill 4+Zx p.will.qos 3*8) (by omega) (by omega)
 have w4:=ZcD (Z8 p.clean 2+Z8 p.hasWill 4+Zx p.will.qos 3*8+Z8 p.will.retain 32) (by omega) (by omega)
 have w5:=ZcD (Z8 p.clean 2+Z8 p.hasWill 4+Zx p.will.qos 3*8+Z8 p.will.retain 32+Z8 p.hasPassword 64) (by omega) (by omega)
 have w6:=ZcD (Z8 p.clean 2+Z8 p.hasWill 4+Zx p.will.qos 3*8+Z8 p.will.retain 32+Z8 p.hasPassword 64+Z8 p.hasUser 128) (by omega) (by omega)
 have lim:=ZeH
 have t0:=ZcN Zhy
 have t1:=ZcN p.client
 have t2:=ZcN p.will.topic
 have t3:=ZcN p.user
 have d1:=Zjx p.will.data
 have d2:=Zjx p.password
 have y1:=Zdr 1 p.props
 have y2:=Zdr 16 p.will.props
 have f0:=fun {σ:Za} {t sq:Nat}=>ZuK Zhy (by decide) (σ:=σ) (t:=t) (sq:=sq)
 unfold Zez Zlk Zkm Zme Zm3
 have n1:=ZaL 1 (ZO 5)
 generalize (ZZ Zhy).1=l0 at *
 have f1:=fun {σ:Za} {sq:Nat}=>Zgm l0 5 1 (by omega) (by omega) (m:=1) rfl (by omega) (σ:=σ) 0 2 0 (sq:=sq) (by omega)
 generalize beB (ZO 5) 1=D1 at *
 obtain ⟨l1,e1⟩:∃ l1,l0++D1=l1:=⟨_,rfl⟩
 have k1:l1.length=l0.length+D1.length:=by rw [<-e1,List.length_append]
 simp only [e1] at f1 ⊢
 have n2:=ZaL 1 (ZO (Z8 p.clean 2+Z8 p.hasWill 4+Zx p.will.qos 3*8+Z8 p.will.retain 32+Z8 p.hasPassword 64+Z8 p.hasUser 128))
 have f2:=fun {σ:Za} {sq:Nat}=>Zgm l1 (Z8 p.clean 2+Z8 p.hasWill 4+Zx p.will.qos 3*8+Z8 p.will.retain 32+Z8 p.hasPassword 64+Z8 p.hasUser 128) 1 (by omega) (by omega) (m:=1) rfl (by omega) (σ:=σ) 0 2 1 (sq:=sq) (by omega)
 generalize beB (ZO (Z8 p.clean 2+Z8 p.hasWill 4+Zx p.will.qos 3*8+Z8 p.will.retain 32+Z8 p.hasPassword 64+Z8 p.hasUser 128)) 1=D2 at *
 obtain ⟨l2,e2⟩:∃ l2,l1++D2=l2:=⟨_,rfl⟩
 have k2:l2.length=l1.length+D2.length:=by rw [<-e2,List.length_append]
 simp only [e2] at f2 ⊢
 have n3:=ZaL 2 (ZO p.keep)
 have f3:=fun {σ:Za} {sq:Nat}=>Zgm l2 p.keep 2 (by omega) (by omega) (m:=2) rfl (by omega) (σ:=σ) 0 2 2 (sq:=sq) (by omega)
 generalize beB (ZO p.keep) 2=D3 at *
 obtain ⟨l3,e3⟩:∃ l3,l2++D3=l3:=⟨_,rfl⟩
 have k3:l3.length=l2.length+D3.length:=by rw [<-e3,List.length_append]
 simp only [e3] at f3 ⊢
 have f4:=fun {σ:Za} {sq:Nat}=>ZgP l3 1 p.props h.props.1 h.props.2 (by omega) (σ:=σ) 0 2 3 (sq:=sq) (by omega)
 generalize (ZaN 1 p.props).1=D4 at *
 obtain ⟨l4,e4⟩:∃ l4,l3++D4=l4:=⟨_,rfl⟩
 have k4:l4.length=l3.length+D4.length:=by rw [<-e4,List.length_append]
 simp only [e4] at f4 ⊢
 have f5:=fun {σ:Za} {sq:Nat}=>ZiN l4 p.client h.client (by omega) (σ:=σ) 0 2 4 (sq:=sq) (by omega)
 generalize (ZZ p.client).1=D5 at *
 obtain ⟨l5,e5⟩:∃ l5,l4++D5=l5:=⟨_,rfl⟩
 have k5:l5.length=l4.length+D5.length:=by rw [<-e5,List.length_append]
 simp only [e5] at f5 ⊢
 have f6:=fun {σ:Za} {sq:Nat}=>ZgP l5 16 p.will.props h.wprops.1 h.wprops.2 (by omega) (σ:=σ) 0 2 5 (sq:=sq) (by omega)
 generalize (ZaN 16 p.will.props).1=D6 at *
 obtain ⟨l6,e6⟩:∃ l6,l5++D6=l6:=⟨_,rfl⟩
 have k6:l6.length=l5.length+D6.length:=by rw [<-e6,List.length_append]
 simp only [e6] at f6 ⊢
 have f7:=fun {σ:Za} {sq:Nat}=>ZiN l6 p.will.topic h.wtopic (by omega) (σ:=σ) 0 2 6 (sq:=sq) (by omega)
 generalize (ZZ p.will.topic).1=D7 at *
 obtain ⟨l7,e7⟩:∃ l7,l6++D7=l7:=⟨_,rfl⟩
 have k7:l7.length=l6.length+D7.length:=by rw [<-e7,List.length_append]
 simp only [e7] at f7 ⊢
 have f8:=fun {σ:Za} {sq:Nat}=>Ztv l7 p.will.data h.wdata (by omega) (σ:=σ) 0 2 7 (sq:=sq) (by omega)
 generalize (Za4 p.will.data).1=D8 at *
 obtain ⟨l8,e8⟩:∃ l8,l7++D8=l8:=⟨_,rfl⟩
 have k8:l8.length=l7.length+D8.length:=by rw [<-e8,List.length_append]
 simp only [e8] at f8 ⊢
 have hO:=fun {j g:Nat} {l:Zb} {σ:Za}=>Zef (j:=j) (g:=g) (l:=l) (σ:=σ)
 rw [ZbD]
 have e0:=Zb9 p
 have a9:(ZA p)[9]?=some (.lst false (p.props.map Zg)):=rfl
 have a12:(ZA p)[12]?=some (.bool p.clean):=rfl
 have a13:(ZA p)[13]?=some (.int .i64 p.keep):=rfl
 have a14:(ZA p)[14]?=some (.str p.client):=rfl
 have a15:(ZA p)[15]?=some (.bool p.hasWill):=rfl
 have a16:(ZA p)[16]?=some (.str p.will.topic):=rfl
 have a17:(ZA p)[17]?=some (.lst false (p.will.data.map Zc)):=rfl
 have a18:(ZA p)[18]?=some (.int .i64 p.will.qos):=rfl
 have a19:(ZA p)[19]?=some (.bool p.will.retain):=rfl
 have a20:(ZA p)[20]?=some (.lst false (p.will.props.map Zg)):=rfl
 have a21:(ZA p)[21]?=some (.bool p.hasUser):=rfl
 have a22:(ZA p)[22]?=some (.str p.user):=rfl
 have a23:(ZA p)[23]?=some (.bool p.hasPassword):=rfl
 have a24:(ZA p)[24]?=some (.lst false (p.password.map Zc)):=rfl
 have b5:=h.user
 have b6:=h.password
 clear h
 generalize ZA p=P at *
 generalize p.will.qos=wq at *
 generalize p.will.retain=wr at *
 generalize p.will.topic=wt at *
 generalize p.will.data=wd at *
 generalize p.will.props=wp at *
 generalize p.clean=cl at *
 generalize p.keep=kp at *
 generalize p.client=ci at *
 generalize p.props=ps at *
 generalize p.hasWill=hw at *
 generalize p.hasUser=hu at *
 generalize p.hasPassword=hp at *
 generalize p.user=us at *
 generalize p.password=pw at *
 unfold Zx Zhy at *
 rw [Zbr (by rfl) ZFb]
 have fu:=fun (l:Zb) (g:Nat) (hl:l.length<=1000000000) {σ:Za} {sq:Nat}=>ZiN l us b5 (by omega) (σ:=σ) 0 2 g (sq:=sq) (by omega)
 have fp:=fun (l:Zb) (g:Nat) (hl:l.length<=1000000000) {σ:Za} {sq:Nat}=>Ztv l pw b6 (by omega) (σ:=σ) 0 2 g (sq:=sq) (by omega)
 generalize (ZZ us).1=Du at *
 generalize (Za4 pw).1=Dp at *
 cases hw <;> cases hu <;> cases hp
 ·simp only [Bool.false_eq_true,if_false]
  unfold wn at *
  simp -implicitDefEqProofs only [EQA,Zt,Nat.reduceAdd,Nat.reduceLT,Nat.reduceEqDiff,Nat.reduceBEq,reduceCtorEq,↓reduceIte,Zd,ZfY,Zfg,ZfQ,oI,AVal.cells,a9,a12,a13,a14,a15,a18,a19,a21,a23,hm,w1,w2,w3,w4,w5,w6,f0,f1,f2,f3,f4,f5,Zac,Zag,Zai,Zao,Zaq,Zal,List.lookup_nil]
  exact hO (j:=2) (by decide) rfl rfl
 ·have g1:=fun {σ:Za} {sq:Nat}=>fp l5 5 (by omega) (σ:=σ) (sq:=sq)
  simp only [Bool.false_eq_true,if_false,if_true]
  unfold wn at *
  simp -implicitDefEqProofs only [EQA,Zt,Nat.reduceAdd,Nat.reduceLT,Nat.reduceEqDiff,Nat.reduceBEq,reduceCtorEq,↓reduceIte,Zd,ZfY,Zfg,ZfQ,oI,AVal.cells,a9,a12,a13,a14,a15,a18,a19,a21,a23,a24,hm,w1,w2,w3,w4,w5,w6,f0,f1,f2,f3,f4,f5,g1,Zac,Zag,Zai,Zao,Zaq,Zal,List.lookup_nil]
  exact hO (j:=2) (by decide) rfl rfl
 ·have g1:=fun {σ:Za} {sq:Nat}=>fu l5 5 (by omega) (σ:=σ) (sq:=sq)
  simp only [Bool.false_eq_true,if_false,if_true]
  unfold wn at *
  simp -implicitDefEqProofs only [EQA,Zt,Nat.reduceAdd,Nat.reduceLT,Nat.reduceEqDiff,Nat.reduceBEq,reduceCtorEq,↓reduceIte,Zd,ZfY,Zfg,ZfQ,oI,AVal.cells,a9,a12,a13,a14,a15,a18,a19,a21,a22,a23,hm,w1,w2,w3,w4,w5,w6,f0,f1,f2,f3,f4,f5,g1,Zac,Zag,Zai,Zao,Zaq,Zal,List.lookup_nil]
  exact hO (j:=2) (by decide) rfl rfl
 ·have g1:=fun {σ:Za} {sq:Nat}=>fu l5 5 (by omega) (σ:=σ) (sq:=sq)
  have g2:=fun {σ:Za} {sq:Nat}=>fp (l5++Du) 6 (by rw [List.length_append];omega) (σ:=σ) (sq:=sq)
  simp only [Bool.false_eq_true,if_false,if_true]
  unfold wn at *
  simp -implicitDefEqProofs only [EQA,Zt,Nat.reduceAdd,Nat.reduceLT,Nat.reduceEqDiff,Nat.reduceBEq,reduceCtorEq,↓reduceIte,Zd,ZfY,Zfg,ZfQ,oI,AVal.cells,a9,a12,a13,a14,a15,a18,a19,a21,a22,a23,a24,hm,w1,w2,w3,w4,w5,w6,f0,f1,f2,f3,f4,f5,g1,g2,Zac,Zag,Zai,Zao,Zaq,Zal,List.lookup_nil]
  exact hO (j:=2) (by decide) rfl rfl
 ·simp only [Bool.false_eq_true,if_false,if_true]
  unfold wn at *
  simp -implicitDefEqProofs only [EQA,Zt,Nat.reduceAdd,Nat.reduceLT,Nat.reduceEqDiff,Nat.reduceBEq,reduceCtorEq,↓reduceIte,Zd,ZfY,Zfg,ZfQ,oI,AVal.cells,a9,a12,a13,a14,a15,a16,a17,a18,a19,a20,a21,a23,hm,w1,w2,w3,w4,w5,w6,f0,f1,f2,f3,f4,f5,f6,f7,f8,Zac,Zag,Zai,Zao,Zaq,Zal,List.lookup_nil]
  exact hO (j:=2) (by decide) rfl rfl
 ·have g1:=fun {σ:Za} {sq:Nat}=>fp l8 8 (by omega) (σ:=σ) (sq:=sq)
  simp only [Bool.false_eq_true,if_false,if_true]
  unfold wn at *
  simp -implicitDefEqProofs only [EQA,Zt,Nat.reduceAdd,Nat.reduceLT,Nat.reduceEqDiff,Nat.reduceBEq,reduceCtorEq,↓reduceIte,Zd,ZfY,Zfg,ZfQ,oI,AVal.cells,a9,a12,a13,a14,a15,a16,a17,a18,a19,a20,a21,a23,a24,hm,w1,w2,w3,w4,w5,w6,f0,f1,f2,f3,f4,f5,f6,f7,f8,g1,Zac,Zag,Zai,Zao,Zaq,Zal,List.lookup_nil]
  exact hO (j:=2) (by decide) rfl rfl
 ·have g1:=fun {σ:Za} {sq:Nat}=>fu l8 8 (by omega) (σ:=σ) (sq:=sq)
  simp only [Bool.false_eq_true,if_false,if_true]
  unfold wn at *
  simp -implicitDefEqProofs only [EQA,Zt,Nat.reduceAdd,Nat.reduceLT,Nat.reduceEqDiff,Nat.reduceBEq,reduceCtorEq,↓reduceIte,Zd,ZfY,Zfg,ZfQ,oI,AVal.cells,a9,a12,a13,a14,a15,a16,a17,a18,a19,a20,a21,a22,a23,hm,w1,w2,w3,w4,w5,w6,f0,f1,f2,f3,f4,f5,f6,f7,f8,g1,Zac,Zag,Zai,Zao,Zaq,Zal,List.lookup_nil]
  exact hO (j:=2) (by decide) rfl rfl
 ·have g1:=fun {σ:Za} {sq:Nat}=>fu l8 8 (by omega) (σ:=σ) (sq:=sq)
  have g2:=fun {σ:Za} {sq:Nat}=>fp (l8++Du) 9 (by rw [List.length_append];omega) (σ:=σ) (sq:=sq)
  simp only [if_true]
  unfold wn at *
  simp -implicitDefEqProofs only [EQA,Zt,Nat.reduceAdd,Nat.reduceLT,Nat.reduceEqDiff,Nat.reduceBEq,reduceCtorEq,↓reduceIte,Zd,ZfY,Zfg,ZfQ,oI,AVal.cells,a9,a12,a13,a14,a15,a16,a17,a18,a19,a20,a21,a22,a23,a24,hm,w1,w2,w3,w4,w5,w6,f0,f1,f2,f3,f4,f5,f6,f7,f8,g1,g2,Zac,Zag,Zai,Zao,Zaq,Zal,List.lookup_nil]
  exact hO (j:=2) (by decide) rfl rfl
theorem ZDt:(Zez p).length<=1000000000:=by
 have t0:=ZcN Zhy
 have t1:=ZcN p.client
 have t2:=ZcN p.will.topic
 have t3:=ZcN p.user
 have d1:=Zjx p.will.data
 have d2:=Zjx p.password
 have y1:=Zdr 1 p.props
 have y2:=Zdr 16 p.will.props
 have n1:=ZaL 1 (ZO 5)
 have n2:=ZaL 1 (ZO (Zm3 p))
 have n3:=ZaL 2 (ZO p.keep)
 unfold Zez Zlk Zkm Zme
 cases p.hasWill <;> cases p.hasUser <;> cases p.hasPassword <;> simp only [Bool.false_eq_true,if_false,if_true,List.length_append] <;> omega
theorem Zxt {σ:Za} {t sq:Nat} (hf:σ[sq]?=some .free) (hs0:σ[t]?=some (.var wn)) :
  Zo E1 BY σ sq 126 1 true [.ref t 0,.agg (ZA p)]=some (.tup [],(σ.set t (.var (wv sq 0 (Zez p).length))).set sq (.row 0 1 ((Zez p).map Zc)),{ any:=true,upd:=[(t,wv sq 0 (Zez p).length)] }) :=
 ZgY (args:=[.agg (ZA p)]) rfl rfl (ZAV p h) (by kernel_rfl) (by rw [List.all_cons,Ze7];rfl) (by rw [List.map_cons,ZeG];rfl) hf hs0
end
end
section
def Zjj (p:Zz):Zb:=if p.qos > 0 then (ZZ p.topic).1++beB (ZO p.id) 2 else (ZZ p.topic).1
def Zfq (p:Zz):Zb:=(Zjj p++(ZaN 3 p.props).1)++p.payload
def ZkW (p:Zz):Zb:=(beB (ZO (Z8 p.present 1)) 1++beB (ZO p.code) 1)++(ZaN 2 p.props).1
def ZgB (s:Zbv):Int:=Zx s.qos 3+Z8 s.noLocal 4+Z8 s.asPublished 8+Zx s.handling 3*16
def Zo9 (s:Zbv):Zb:=(ZZ s.filter).1++beB (ZO (ZgB s)) 1
def Zes (l:List Zbv):Zb:=(l.map Zo9).flatten
def Zen (l:List Zb):Zb:=(l.map fun f=>(ZZ f).1).flatten
def Zd9 (l:List Int):Zb:=(l.map fun c=>beB (ZO c) 1).flatten
theorem ZAu (p:Zz) (h:OkW p) (hk:p.type=3):E1 78 [.ref 0 0,Zar p] [.var wn]=some (.tup [],wH 0 (Zfq p)):=by
 have lim:=ZeH
 have t1:=ZcN p.topic
 have y1:=Zdr 3 p.props
 have n1:=ZaL 2 (ZO p.id)
 have f0:=fun {σ:Za} {t sq:Nat}=>ZuK p.topic h.topic (σ:=σ) (t:=t) (sq:=sq)
 have pl:=h.payload
 unfold Zfq Zjj
 generalize (ZZ p.topic).1=l0 at *
 have f1:=fun {σ:Za} {sq:Nat}=>Zgm l0 p.id 2 (by omega) (by omega) (m:=2) rfl (by omega) (σ:=σ) 0 2 0 (sq:=sq) (by omega)
 generalize beB (ZO p.id) 2=D1 at *
 have f2:=fun (l:Zb) (g:Nat) (hl:l.length<=1000000000) {σ:Za} {sq:Nat}=>ZgP l 3 p.props h.props.1 h.props.2 (by omega) (σ:=σ) 0 2 g (sq:=sq) (by omega)
 generalize (ZaN 3 p.props).1=D2 at *
 have f3:=fun (l:Zb) (g:Nat) (hl:l.length<=2000000000) {σ:Za} {sq:Nat}=>ZjJ l p.payload (by omega) (σ:=σ) 0 2 g (sq:=sq) (by omega)
 have hO:=fun {j g:Nat} {l:Zb} {σ:Za}=>Zef (j:=j) (g:=g) (l:=l) (σ:=σ)
 rw [ZbD]
 have e0:=Zb9 p
 have a0:(ZA p)[0]?=some (.int .i64 p.type):=rfl
 have a2:(ZA p)[2]?=some (.int .i64 p.qos):=rfl
 have a4:(ZA p)[4]?=some (.int .i64 p.id):=rfl
 have a5:(ZA p)[5]?=some (.str p.topic):=rfl
 have a6:(ZA p)[6]?=some (.lst false (p.payload.map Zc)):=rfl
 have a9:(ZA p)[9]?=some (.lst false (p.props.map Zg)):=rfl
 rw [hk] at a0
 clear h hk
 generalize ZA p=P at *
 generalize p.qos=q at *
 generalize p.id=c at *
 generalize p.topic=tp at *
 generalize p.payload=pa at *
 generalize p.props=ps at *
 rw [Zbr (by rfl) Zfe]
 by_cases hq:q > 0
 ·rw [if_pos hq]
  have k1:(l0++D1).length=l0.length+D1.length:=List.length_append
  have k2:(l0++D1++D2).length=l0.length+D1.length+D2.length:=by rw [List.length_append,k1]
  have g2:=fun {σ:Za} {sq:Nat}=>f2 (l0++D1) 1 (by omega) (σ:=σ) (sq:=sq)
  have g3:=fun {σ:Za} {sq:Nat}=>f3 (l0++D1++D2) 2 (by omega) (σ:=σ) (sq:=sq)
  clear k1 k2 f2 f3
  unfold wn wT at *
  simp -implicitDefEqProofs only [EQA,Zt,Nat.reduceAdd,Nat.reduceLT,Nat.reduceEqDiff,Nat.reduceBEq,reduceCtorEq,↓reduceIte,Zd,Zd3,Zdp,Zd5,oI,AVal.cells,a0,a2,a4,a5,a6,a9,Int.reduceBEq,hq,f0,f1,g2,g3,Zac,Zag,Zai,Zao,Zaq,Zal]
  exact hO (j:=2) (by decide) rfl rfl
 ·rw [if_neg hq]
  have k2:(l0++D2).length=l0.length+D2.length:=List.length_append
  have g2:=fun {σ:Za} {sq:Nat}=>f2 l0 0 (by omega) (σ:=σ) (sq:=sq)
  have g3:=fun {σ:Za} {sq:Nat}=>f3 (l0++D2) 1 (by omega) (σ:=σ) (sq:=sq)
  clear k2 f2 f3
  unfold wn wT at *
  simp -implicitDefEqProofs only [EQA,Zt,Nat.reduceAdd,Nat.reduceLT,Nat.reduceEqDiff,Nat.reduceBEq,reduceCtorEq,↓reduceIte,Zd,Zd3,Zdp,Zd5,oI,AVal.cells,a0,a2,a5,a6,a9,Int.reduceBEq,hq,f0,g2,g3,Zac,Zag,Zai,Zao,Zaq,Zal]
  exact hO (j:=2) (by decide) rfl rfl
theorem Zxl (p:Zz) (h:OkW p) (hk:p.type=1):E1 78 [.ref 0 0,Zar p] [.var wn]=some (.tup [],wH 0 (Zez p)):=by
 have f0:=fun {σ:Za} {t sq:Nat}=>Zxt p h (σ:=σ) (t:=t) (sq:=sq)
 have hO:=fun {j g:Nat} {l:Zb} {σ:Za}=>Zef (j:=j) (g:=g) (l:=l) (σ:=σ)
 rw [ZbD]
 generalize Zez p=B at *
 have e0:=Zb9 p
 have e1:=Zc3 p
 have a0:(ZA p)[0]?=some (.int .i64 p.type):=rfl
 rw [hk] at a0
 generalize ZA p=P at *
 rw [Zbr (by rfl) Zfe]
 unfold wn at *
 simp -implicitDefEqProofs only [EQA,Zt,Nat.reduceAdd,Nat.reduceLT,Nat.reduceLeDiff,Nat.reduceEqDiff,Nat.reduceBEq,reduceCtorEq,↓reduceIte,Zd,Zd3,Zdp,Zd5,oI,AVal.cells,a0,e0,e1,f0]
 exact hO (j:=2) (by decide) rfl rfl
theorem ZHd (p:Zz) (h:OkW p) (hk:p.type=2):E1 78 [.ref 0 0,Zar p] [.var wn]=some (.tup [],wH 0 (ZkW p)):=by
 have lim:=ZeH
 have y1:=Zdr 2 p.props
 have n1:=ZaL 1 (ZO p.code)
 have n0:=ZaL 1 (ZO (Z8 p.present 1))
 have hm:=fun b n σ sq own=>ZjU b n σ sq own
 have f0:=fun {σ:Za} {t sq:Nat}=>Zl3 (Z8 p.present 1) 1 (by omega) (by omega) (m:=1) rfl (σ:=σ) (t:=t) (sq:=sq)
 unfold ZkW
 generalize beB (ZO (Z8 p.present 1)) 1=l0 at *
 have f1:=fun {σ:Za} {sq:Nat}=>Zgm l0 p.code 1 (by omega) (by omega) (m:=1) rfl (by omega) (σ:=σ) 0 2 0 (sq:=sq) (by omega)
 generalize beB (ZO p.code) 1=D1 at *
 have k1:(l0++D1).length=l0.length+D1.length:=List.length_append
 have f2:=fun {σ:Za} {sq:Nat}=>ZgP (l0++D1) 2 p.props h.props.1 h.props.2 (by omega) (σ:=σ) 0 2 1 (sq:=sq) (by omega)
 generalize (ZaN 2 p.props).1=D2 at *
 have hO:=fun {j g:Nat} {l:Zb} {σ:Za}=>Zef (j:=j) (g:=g) (l:=l) (σ:=σ)
 rw [ZbD]
 have e0:=Zb9 p
 have a0:(ZA p)[0]?=some (.int .i64 p.type):=rfl
 have a7:(ZA p)[7]?=some (.int .i64 p.code):=rfl
 have a9:(ZA p)[9]?=some (.lst false (p.props.map Zg)):=rfl
 have a25:(ZA p)[25]?=some (.bool p.present):=rfl
 rw [hk] at a0
 clear h hk k1
 generalize ZA p=P at *
 generalize p.code=c at *
 generalize p.present=b at *
 generalize p.props=ps at *
 rw [Zbr (by rfl) Zfe]
 unfold wn at *
 simp -implicitDefEqProofs only [EQA,Zt,Nat.reduceAdd,Nat.reduceLT,Nat.reduceEqDiff,Nat.reduceBEq,reduceCtorEq,↓reduceIte,Zd,Zd3,Zdp,Zd5,oI,AVal.cells,a0,a7,a9,a25,Int.reduceBEq,hm,f0,f1,f2]
 exact hO (j:=2) (by decide) rfl rfl
theorem ZGW (p:Zz) (h:OkW p) (hk:p.type=4\/p.type=5\/p.type=6\/p.type=7):E1 78 [.ref 0 0,Zar p] [.var wn]=some (.tup [],wH 0 (beB (ZO p.id) 2++ZbW p)):=by
 have n0:=ZaL 2 (ZO p.id)
 have f0:=fun {σ:Za} {t sq:Nat}=>Zl3 p.id 2 (by omega) (by omega) (m:=2) rfl (σ:=σ) (t:=t) (sq:=sq)
 generalize beB (ZO p.id) 2=l0 at *
 have f1:=fun {σ:Za} {sq:Nat}=>Zyv p h l0 (by omega) (σ:=σ) 0 2 0 (sq:=sq) (by omega)
 have hO:=fun {j g:Nat} {l:Zb} {σ:Za}=>Zef (j:=j) (g:=g) (l:=l) (σ:=σ)
 rw [ZbD]
 generalize ZbW p=B at *
 generalize Zgr p=g0 at *
 have e0:=Zb9 p
 have e1:=Zc3 p
 have a0:(ZA p)[0]?=some (.int .i64 p.type):=rfl
 have a4:(ZA p)[4]?=some (.int .i64 p.id):=rfl
 clear h
 generalize ZA p=P at *
 generalize p.id=c at *
 generalize p.type=ty at *
 rw [Zbr (by rfl) Zfe]
 unfold wn at *
 rcases hk with rfl | rfl | rfl | rfl
 all_goals
  simp -implicitDefEqProofs only [EQA,Zt,Nat.reduceAdd,Nat.reduceLT,Nat.reduceLeDiff,Nat.reduceEqDiff,Nat.reduceBEq,reduceCtorEq,↓reduceIte,Zd,Zd3,Zdp,Zd5,oI,AVal.cells,a0,a4,e0,e1,Int.reduceBEq,f0,f1]
  exact hO (j:=2) (by decide) rfl rfl
theorem ZJw (p:Zz) (h:OkW p) (hb:ZdD p=none) {σ:Za} {t sq:Nat} (hf:σ[sq]?=some .free) (hs0:σ[t]?=some (.var wn)) :
  Zo E1 BY σ sq 131 1 true [.ref t 0,.agg (ZA p)]=some (.tup [],σ,{ any:=true,upd:=[(t,wn)] }):=by
 have:=ZrT p h
 rw [hb] at this
 exact ZrS (args:=[.agg (ZA p)]) this (by kernel_rfl) (by rw [List.all_cons,Ze7];rfl) (by rw [List.map_cons,ZeG];rfl) (ff1 hf) hs0
theorem ZMD (p:Zz) (h:OkW p) (hb:ZdD p≠none) {σ:Za} {t sq:Nat} (hf:σ[sq]?=some .free) (hs0:σ[t]?=some (.var wn)) :
  Zo E1 BY σ sq 131 1 true [.ref t 0,.agg (ZA p)]=some (.tup [],(σ.set t (.var (wv sq 0 (ZbW p).length))).set sq (.row 0 1 ((ZbW p).map Zc)),{ any:=true,upd:=[(t,wv sq 0 (ZbW p).length)] }):=by
 have:=ZrT p h
 unfold ZdD at this hb
 by_cases hc:p.code≠0\/p.props≠[]
 ·rw [if_pos hc] at this
  exact ZgY (args:=[.agg (ZA p)]) rfl rfl this (by kernel_rfl) (by rw [List.all_cons,Ze7];rfl) (by rw [List.map_cons,ZeG];rfl) hf hs0
 ·rw [if_neg hc] at hb;exact absurd rfl hb
theorem ZJk (p:Zz) (h:OkW p) (hk:p.type=14\/p.type=15):E1 78 [.ref 0 0,Zar p] [.var wn]=some (.tup [],wO (ZdD p)):=by
 have hO:=fun {j g:Nat} {l:Zb} {σ:Za}=>Zef (j:=j) (g:=g) (l:=l) (σ:=σ)
 have e0:=Zb9 p
 have e1:=Zc3 p
 have a0:(ZA p)[0]?=some (.int .i64 p.type):=rfl
 by_cases hb:ZdD p=none
 ·have f1:=fun {σ:Za} {t sq:Nat}=>ZJw p h hb (σ:=σ) (t:=t) (sq:=sq)
  rw [hb,ZbD]
  clear h hb
  generalize ZA p=P at *
  generalize p.type=ty at *
  rw [Zbr (by rfl) Zfe]
  unfold wO wn at *
  rcases hk with rfl | rfl
  all_goals
   simp -implicitDefEqProofs only [EQA,Zt,ZV,Nat.reduceAdd,Nat.reduceLT,Nat.reduceLeDiff,Nat.reduceEqDiff,Nat.reduceBEq,reduceCtorEq,↓reduceIte,Zd,Zd3,Zdp,Zd5,oI,AVal.cells,a0,e0,e1,Int.reduceBEq,f1]
 ·have f1:=fun {σ:Za} {t sq:Nat}=>ZMD p h hb (σ:=σ) (t:=t) (sq:=sq)
  have hr:ZdD p=some (ZbW p):=by unfold ZdD at hb ⊢;split at hb <;> simp_all
  rw [hr,ZbD]
  clear h hb hr
  generalize ZbW p=B at *
  generalize ZA p=P at *
  generalize p.type=ty at *
  rw [Zbr (by rfl) Zfe]
  unfold wO wn at *
  rcases hk with rfl | rfl
  all_goals
   simp -implicitDefEqProofs only [EQA,Zt,Nat.reduceAdd,Nat.reduceLT,Nat.reduceLeDiff,Nat.reduceEqDiff,Nat.reduceBEq,reduceCtorEq,↓reduceIte,Zd,Zd3,Zdp,Zd5,oI,AVal.cells,a0,e0,e1,Int.reduceBEq,f1]
   exact hO (j:=2) (by decide) rfl rfl
theorem ZOm (p:Zz) (hk:p.type < 1\/p.type=12\/p.type=13\/15 < p.type):E1 78 [.ref 0 0,Zar p] [.var wn]=some (.tup [],[.var wn]):=by
 have e0:=Zb9 p
 have a0:(ZA p)[0]?=some (.int .i64 p.type):=rfl
 have b:∀ n:Int,n=1\/n=2\/n=3\/n=4\/n=5\/n=6\/n=7\/n=8\/n=9\/n=10\/n=11\/n=14\/n=15->(p.type == n)=false:=by
  intro n hn
  have : p.type≠n:=by omega
  simpa using this
 have b1:=b 1 (by simp)
 have b2:=b 2 (by simp)
 have b3:=b 3 (by simp)
 have b4:=b 4 (by simp)
 have b5:=b 5 (by simp)
 have b6:=b 6 (by simp)
 have b7:=b 7 (by simp)
 have b8:=b 8 (by simp)
 have b9:=b 9 (by simp)
 have b10:=b 10 (by simp)
 have b11:=b 11 (by simp)
 have b14:=b 14 (by simp)
 have b15:=b 15 (by simp)
 rw [ZbD]
 generalize ZA p=P at *
 generalize p.type=ty at *
 rw [Zbr (by rfl) Zfe]
 unfold wn at *
 simp -implicitDefEqProofs only [EQA,Zt,ZV,Nat.reduceAdd,Nat.reduceLT,Nat.reduceEqDiff,Nat.reduceBEq,reduceCtorEq,↓reduceIte,Zd,Zd3,Zdp,Zd5,oI,AVal.cells,a0,b1,b2,b3,b4,b5,b6,b7,b8,b9,b10,b11,b14,b15]
end
section
theorem xw1 (c d:Ze) (h:c=d) (m:Nat) (tm:Tms) (σ:Za):evC FC PR1 BY m c tm σ=evC FC PR1 BY m d tm σ:=by rw [h]
def Zvn:=xw1 Znf Zmu rfl
def Ztx:=xw1 ZnJ ZkI rfl
def Zvo:=xw1 Zm7 ZkB rfl
noncomputable def Zmo (m:Nat) (tm:Tms) (σ:Za):Option (AVal×Za):=(Zan m ZhW (Option.map (ZaJ 0) (Option.map (ZaJ 1) (evL FC PR1 BY m [75,74,73,0] Znf tm σ))))
noncomputable def ZkS (m:Nat) (tm:Tms) (σ:Za):Option (AVal×Za):=(Zan m ZhW (Option.map (ZaJ 0) (Option.map (ZaJ 3) (evL FC PR1 BY m [110,109,108,0] ZnJ tm σ))))
noncomputable def Zmq (m:Nat) (tm:Tms) (σ:Za):Option (AVal×Za):=(Zan m ZhW (Option.map (ZaJ 0) (Option.map (ZaJ 5) (evL FC PR1 BY m [127,126,125,0] Zm7 tm σ))))
theorem Zht {a b c d:Nat} {x y z:AVal} (hx:ZQ x=true) (hy:ZQ y=true) (hz:ZQ z=true) (r g:Nat) (hr:r≠0) (l:Zb) (σ:Za) (h0:σ[0]?=some (.var (wv r g l.length))) (h1:σ[r]?=some (.row g 1 (l.map Zc))) :
  gcT 1 [(a,x),(b,y),(c,z),(d,.ref 0 0)] σ=([(a,x),(b,y),(c,z),(d,.ref 0 0)],[.var (wv 1 0 l.length),.row 0 1 (l.map Zc)]):=by
 have d0:σ.getD 0 .free=.var (wv r g l.length):=by simp [List.getD_eq_getElem?_getD,h0]
 have d1:σ.getD r .free=.row g 1 (l.map Zc):=by simp [List.getD_eq_getElem?_getD,h1]
 have ej:([0]:List Nat).contains r=false:=by simp;omega
 have hrf:Zp (wv r g l.length)=[r]:=rfl
 have e1:=fun ρ=>Za7 ρ x hx
 have e2:=fun ρ=>Za7 ρ y hy
 have e3:=fun ρ=>Za7 ρ z hz
 have hv:Zp [x,y,z,.ref 0 0]=[0]:=by
  simp only [Zp,(e1 (fun _ _=>none)).2,(e2 (fun _ _=>none)).2,(e3 (fun _ _=>none)).2];rfl
 have hi:Zv 1 [x,y,z,.ref 0 0] σ=[0,r]:=by
  have hR:List.range 1=[0]:=rfl
  have e0:([]:List Nat).contains r=false:=rfl
  simp only [Zv,hv,hR,List.flatMap_cons,List.flatMap_nil,List.append_nil,d0,ZC,hrf]
  rw [show (1000:Nat)=996+1+1+1+1 from rfl]
  simp only [List.cons_append,List.nil_append,Zu,ej,d1,ZC,List.append_nil,Bool.false_eq_true,if_false]
  have ej0:([0]:List Nat).contains 0=true:=rfl
  have ejr:([0,r]:List Nat).contains r=true:=by simp
  simp []
 have hρ:Zj σ 1 [0,r] r g=some (1,0):=by
  have : ¬(0:Nat)=r:=fun e=>hr e.symm
  simp [Zj,ZJ,Zl,ZE,h1,this]
 have hρ0:Zj σ 1 [0,r] 0 0=some (0,0):=by
  simp [Zj,ZJ,Zl,ZE,h0]
 have hren:Zf (Zj σ 1 [0,r]) (wv r g l.length)=wv 1 0 l.length:=by simp only [wv,Zf,Zm,hρ]
 simp only [gcT,gcA,hi,List.map_cons,List.map_nil,Zr,d0,d1,ZE,Zl,Zw,hren,Zf,(e1 _).1,(e2 _).1,(e3 _).1,Zm,hρ0]
 simp
theorem ZGt (r:List Zb):(Zen r).length<=r.length*65537:=by
 induction r with
 | nil=>simp [Zen]
 | cons x r ih =>
  have:=ZcN x
  simp only [Zen,List.map_cons,List.flatten_cons,List.length_append,List.length_cons] at ih ⊢
  omega
theorem ZzT (r:List Int):(Zd9 r).length<=r.length:=by
 induction r with
 | nil=>simp [Zd9]
 | cons x r ih =>
  have:=ZaL 1 (ZO x)
  simp only [Zd9,List.map_cons,List.flatten_cons,List.length_append,List.length_cons] at ih ⊢
  omega
theorem ZDT (r:List Zbv):(Zes r).length<=r.length*65538:=by
 induction r with
 | nil=>simp [Zes]
 | cons x r ih =>
  have:=ZcN x.filter
  have:=ZaL 1 (ZO (ZgB x))
  simp only [Zes,List.map_cons,List.flatten_cons,List.length_append,List.length_cons,Zo9] at ih ⊢
  omega
theorem ZsL (fs:List Zb) (hn:fs.length<=1048576) (hx:∀ f ∈ fs,f.length<=9223372036854775807):∀ (r:List Zb) (i:Nat) (l:Zb),fs.drop i=r->l.length+r.length*65537<=1000000000000 ->
  ZkS 1 [(110,.int .i64 i),(109,.int .i64 fs.length),(108,.lst false (fs.map AVal.str)),(0,.ref 0 0)] [.var (wv 1 0 l.length),.row 0 1 (l.map Zc)]=some (.tup [],wH 0 (l++Zen r))
 | [],i,l,h,hl=>by
  have h1:=Zcv h
  have hO:=fun {j g:Nat} {l:Zb} {σ:Za}=>Zef (j:=j) (g:=g) (l:=l) (σ:=σ)
  have e:l++Zen []=l:=by simp [Zen]
  rw [e]
  unfold ZkS
  rw [Z2]
  simp -implicitDefEqProofs only [EQA,Zt,Nat.reduceAdd,Nat.reduceLT,Nat.reduceEqDiff,reduceCtorEq,↓reduceIte,Zd,Zd5,ZkI,oI,Ztx,h1]
  exact hO (j:=1) (by decide) rfl rfl
 | x::r,i,l,h,hl=>by
  have hx0:x.length<=9223372036854775807:=hx x (List.mem_of_getElem? (Z4 h).1)
  have t1:=ZcN x
  have lim:=ZeH
  simp only [List.length_cons] at hl
  have ih:=ZsL fs hn hx r (i+1) (l++(ZZ x).1) (Z4 h).2.1 (by rw [List.length_append];omega)
  have h1:(i:Int) < fs.length:=by have:=(Z4 h).2.2;omega
  have e1:=iad (Z4 h).1 AVal.str (k:=1) rfl
  have e3:=ZcL h1 (by omega)
  have f1:=fun {σ:Za} {sq:Nat}=>ZiN l x hx0 (by omega) (σ:=σ) 0 1 0 (sq:=sq) (by omega)
  have e:l++Zen (x::r)=l++(ZZ x).1++Zen r:=by simp [Zen]
  rw [e]
  generalize (ZZ x).1=D at *
  have hG:=fun {a b c d:Nat} {i n:Int} {σ:Za} h0 h1=>Zht (a:=a) (b:=b) (c:=c) (d:=d) (x:=.int .i64 i) (y:=.int .i64 n) (z:=.lst false (fs.map AVal.str)) rfl rfl rfl 1 1 (by omega) (l++D) σ h0 h1
  unfold ZkS at ih ⊢
  rw [Z2]
  simp -implicitDefEqProofs only [EQA,ZV,Nat.reduceAdd,Nat.reduceLT,Nat.reduceEqDiff,Nat.reduceBEq,reduceCtorEq,↓reduceIte,ZkI,oI,Ztx,AVal.cells,h1,e1,e3,f1,hG]
  exact ih
theorem Zsb (fs:List Int) (hn:fs.length<=1048576):∀ (r:List Int) (i:Nat) (l:Zb),fs.drop i=r->l.length+r.length<=1000000000000 ->
  Zmq 1 [(127,.int .i64 i),(126,.int .i64 fs.length),(125,.lst false (fs.map (AVal.int .i64))),(0,.ref 0 0)] [.var (wv 1 0 l.length),.row 0 1 (l.map Zc)]=some (.tup [],wH 0 (l++Zd9 r))
 | [],i,l,h,hl=>by
  have h1:=Zcv h
  have hO:=fun {j g:Nat} {l:Zb} {σ:Za}=>Zef (j:=j) (g:=g) (l:=l) (σ:=σ)
  have e:l++Zd9 []=l:=by simp [Zd9]
  rw [e]
  unfold Zmq
  rw [Z2]
  simp -implicitDefEqProofs only [EQA,Zt,Nat.reduceAdd,Nat.reduceLT,Nat.reduceEqDiff,reduceCtorEq,↓reduceIte,Zd,Zd5,ZkB,oI,Zvo,h1]
  exact hO (j:=1) (by decide) rfl rfl
 | x::r,i,l,h,hl=>by
  have t1:=ZaL 1 (ZO x)
  have lim:=ZeH
  simp only [List.length_cons] at hl
  have ih:=Zsb fs hn r (i+1) (l++beB (ZO x) 1) (Z4 h).2.1 (by rw [List.length_append];omega)
  have h1:(i:Int) < fs.length:=by have:=(Z4 h).2.2;omega
  have e1:=iad (Z4 h).1 (AVal.int .i64) (k:=1) rfl
  have e3:=ZcL h1 (by omega)
  have f1:=fun {σ:Za} {sq:Nat}=>Zgm l x 1 (by omega) (by omega) (m:=1) rfl (by omega) (σ:=σ) 0 1 0 (sq:=sq) (by omega)
  have e:l++Zd9 (x::r)=l++beB (ZO x) 1++Zd9 r:=by simp [Zd9]
  rw [e]
  generalize beB (ZO x) 1=D at *
  have hG:=fun {a b c d:Nat} {i n:Int} {σ:Za} h0 h1=>Zht (a:=a) (b:=b) (c:=c) (d:=d) (x:=.int .i64 i) (y:=.int .i64 n) (z:=.lst false (fs.map (AVal.int .i64))) rfl rfl rfl 1 1 (by omega) (l++D) σ h0 h1
  unfold Zmq at ih ⊢
  rw [Z2]
  simp -implicitDefEqProofs only [EQA,ZV,Nat.reduceAdd,Nat.reduceLT,Nat.reduceEqDiff,Nat.reduceBEq,reduceCtorEq,↓reduceIte,ZkB,oI,Zvo,AVal.cells,h1,e1,e3,f1,hG]
  exact ih
theorem Zu7 (fs:List Zbv) (hn:fs.length<=1048576) (hx:∀ f ∈ fs,f.filter.length<=9223372036854775807):∀ (r:List Zbv) (i:Nat) (l:Zb),fs.drop i=r->l.length+r.length*65538<=1000000000000 ->
  Zmo 1 [(75,.int .i64 i),(74,.int .i64 fs.length),(73,.lst false (fs.map Z5)),(0,.ref 0 0)] [.var (wv 1 0 l.length),.row 0 1 (l.map Zc)]=some (.tup [],wH 0 (l++Zes r))
 | [],i,l,h,hl=>by
  have h1:=Zcv h
  have hO:=fun {j g:Nat} {l:Zb} {σ:Za}=>Zef (j:=j) (g:=g) (l:=l) (σ:=σ)
  have e:l++Zes []=l:=by simp [Zes]
  rw [e]
  unfold Zmo
  rw [Z2]
  simp -implicitDefEqProofs only [EQA,Zt,Nat.reduceAdd,Nat.reduceLT,Nat.reduceEqDiff,reduceCtorEq,↓reduceIte,Zd,Zd5,Zmu,oI,oN,Zvn,h1]
  exact hO (j:=1) (by decide) rfl rfl
 | x::r,i,l,h,hl=>by
  have hx0:x.filter.length<=9223372036854775807:=hx x (List.mem_of_getElem? (Z4 h).1)
  have t1:=ZcN x.filter
  have t2:=ZaL 1 (ZO (ZgB x))
  have lim:=ZeH
  simp only [List.length_cons] at hl
  have ih:=Zu7 fs hn hx r (i+1) (l++(ZZ x.filter).1++beB (ZO (ZgB x)) 1) (Z4 h).2.1 (by rw [List.length_append,List.length_append];omega)
  have h1:(i:Int) < fs.length:=by have:=(Z4 h).2.2;omega
  have e1:=iad (Z4 h).1 Z5 (k:=6) rfl
  have e3:=ZcL h1 (by omega)
  have hm:=fun b n σ sq own=>ZjU b n σ sq own
  have q1:=ZiA x.qos
  have q2:=ZiA x.handling
  have m1:=Zea x.noLocal 4 (by omega)
  have m2:=Zea x.asPublished 8 (by omega)
  have w1:=ZcD (Zx x.qos 3+Z8 x.noLocal 4) (by omega) (by omega)
  have w2:=ZcD (Zx x.qos 3+Z8 x.noLocal 4+Z8 x.asPublished 8) (by omega) (by omega)
  have w3:=ZcD (Zx x.handling 3*16) (by omega) (by omega)
  have w4:=ZcD (Zx x.qos 3+Z8 x.noLocal 4+Z8 x.asPublished 8+Zx x.handling 3*16) (by omega) (by omega)
  have f1:=fun {σ:Za} {sq:Nat}=>ZiN l x.filter hx0 (by omega) (σ:=σ) 0 1 0 (sq:=sq) (by omega)
  have f2:=fun {σ:Za} {sq:Nat}=>Zgm (l++(ZZ x.filter).1) (ZgB x) 1 (by omega) (by omega) (m:=1) rfl (by rw [List.length_append];omega) (σ:=σ) 0 1 1 (sq:=sq) (by omega)
  have e:l++Zes (x::r)=l++(ZZ x.filter).1++beB (ZO (ZgB x)) 1++Zes r:=by simp [Zes,Zo9]
  rw [e]
  generalize (ZZ x.filter).1=D at *
  generalize beB (ZO (ZgB x)) 1=D2 at *
  have hG:=fun {a b c d:Nat} {i n:Int} {σ:Za} h0 h1=>Zht (a:=a) (b:=b) (c:=c) (d:=d) (x:=.int .i64 i) (y:=.int .i64 n) (z:=.lst false (fs.map Z5)) rfl rfl rfl 1 2 (by omega) (l++D++D2) σ h0 h1
  unfold ZgB at f2
  unfold Zmo at ih ⊢
  rw [Z2]
  simp only [Z5,AVal.cells] at e1
  unfold Zx at *
  simp -implicitDefEqProofs only [EQA,ZV,Nat.reduceAdd,Nat.reduceLT,Nat.reduceLeDiff,Nat.reduceEqDiff,Nat.reduceBEq,reduceCtorEq,↓reduceIte,Zmu,oI,oN,Zvn,AVal.cells,h1,e1,e3,hm,w1,w2,w3,w4,f1,f2,hG,Zac,Zag,Zai,Zao,Zaq,Zal,List.lookup_nil]
  exact ih
section
variable (p:Zz) (h:OkW p)
include h
theorem Zlc:(ZbT p).length<=300000000:=by
 have:=Zdr p.type p.props
 have:=ZaL 2 (ZO p.id)
 unfold ZbT
 rw [List.length_append];omega
theorem ZyT (hk:p.type=8):E1 78 [.ref 0 0,Zar p] [.var wn]=some (.tup [],wH 0 (ZbT p++Zes p.subs)):=by
 have hh:=Zlc p h
 have f0:=fun {σ:Za} {t sq:Nat}=>Zo6 p h (σ:=σ) (t:=t) (sq:=sq)
 have hx:=h.subs
 have hL:=Zu7 p.subs hx.1 hx.2 p.subs 0 (ZbT p) rfl (by omega)
 have z:((0:Nat):Int)=0:=rfl
 rw [z] at hL
 unfold Zmo at hL
 have hG:=fun {a b c d:Nat} {i n:Int} {r g:Nat} {σ:Za} hr h0 h1=>Zht (a:=a) (b:=b) (c:=c) (d:=d) (x:=.int .i64 i) (y:=.int .i64 n) (z:=.lst false (p.subs.map Z5)) rfl rfl rfl r g hr (ZbT p) σ h0 h1
 have hG2:=fun {a b c d:Nat} {i n:Int} {g:Nat} {σ:Za} h0 h1=>hG (a:=a) (b:=b) (c:=c) (d:=d) (i:=i) (n:=n) (r:=2) (g:=g) (σ:=σ) (by omega) h0 h1
 clear hG
 have hn:(p.subs.map Z5).length=p.subs.length:=by simp
 rw [ZbD]
 generalize ZbT p=B at *
 have e0:=Zb9 p
 have e1:=Zc3 p
 have a0:(ZA p)[0]?=some (.int .i64 p.type):=rfl
 have a10:(ZA p)[10]?=some (.lst false (p.subs.map Z5)):=rfl
 rw [hk] at a0
 clear h hk hx
 generalize ZA p=P at *
 generalize p.subs=ss at *
 rw [Zbr (by rfl) Zfe]
 unfold wn at *
 simp -implicitDefEqProofs only [EQA,ZV,Nat.reduceAdd,Nat.reduceLT,Nat.reduceLeDiff,Nat.reduceEqDiff,Nat.reduceBEq,reduceCtorEq,↓reduceIte,Zd3,Zdp,oI,AVal.cells,a0,a10,e0,e1,hn,Int.reduceBEq,f0]
 exact hL
theorem ZIK (hk:p.type=10):E1 78 [.ref 0 0,Zar p] [.var wn]=some (.tup [],wH 0 (ZbT p++Zen p.filters)):=by
 have hh:=Zlc p h
 have f0:=fun {σ:Za} {t sq:Nat}=>Zo6 p h (σ:=σ) (t:=t) (sq:=sq)
 have hx:=h.filters
 have hL:=ZsL p.filters hx.1 hx.2 p.filters 0 (ZbT p) rfl (by omega)
 have z:((0:Nat):Int)=0:=rfl
 rw [z] at hL
 unfold ZkS at hL
 have hG2:=fun {a b c d:Nat} {i n:Int} {g:Nat} {σ:Za} h0 h1=>Zht (a:=a) (b:=b) (c:=c) (d:=d) (x:=.int .i64 i) (y:=.int .i64 n) (z:=.lst false (p.filters.map AVal.str)) rfl rfl rfl 2 g (by omega) (ZbT p) σ h0 h1
 have hn:(p.filters.map AVal.str).length=p.filters.length:=by simp
 rw [ZbD]
 generalize ZbT p=B at *
 have e0:=Zb9 p
 have e1:=Zc3 p
 have a0:(ZA p)[0]?=some (.int .i64 p.type):=rfl
 have a11:(ZA p)[11]?=some (.lst false (p.filters.map AVal.str)):=rfl
 rw [hk] at a0
 clear h hk hx
 generalize ZA p=P at *
 generalize p.filters=ss at *
 rw [Zbr (by rfl) Zfe]
 unfold wn at *
 simp -implicitDefEqProofs only [EQA,ZV,Nat.reduceAdd,Nat.reduceLT,Nat.reduceLeDiff,Nat.reduceEqDiff,Nat.reduceBEq,reduceCtorEq,↓reduceIte,Zd3,Zdp,oI,AVal.cells,a0,a11,e0,e1,hn,Int.reduceBEq,f0]
 exact hL
theorem ZJb (hk:p.type=9\/p.type=11):E1 78 [.ref 0 0,Zar p] [.var wn]=some (.tup [],wH 0 (ZbT p++Zd9 p.codes)):=by
 have hh:=Zlc p h
 have f0:=fun {σ:Za} {t sq:Nat}=>Zo6 p h (σ:=σ) (t:=t) (sq:=sq)
 have hx:=h.codes
 have hL:=Zsb p.codes hx p.codes 0 (ZbT p) rfl (by omega)
 have z:((0:Nat):Int)=0:=rfl
 rw [z] at hL
 unfold Zmq at hL
 have hG2:=fun {a b c d:Nat} {i n:Int} {g:Nat} {σ:Za} h0 h1=>Zht (a:=a) (b:=b) (c:=c) (d:=d) (x:=.int .i64 i) (y:=.int .i64 n) (z:=.lst false (p.codes.map (AVal.int .i64))) rfl rfl rfl 2 g (by omega) (ZbT p) σ h0 h1
 have hn:(p.codes.map (AVal.int .i64)).length=p.codes.length:=by simp
 rw [ZbD]
 generalize ZbT p=B at *
 have e0:=Zb9 p
 have e1:=Zc3 p
 have a0:(ZA p)[0]?=some (.int .i64 p.type):=rfl
 have a8:(ZA p)[8]?=some (.lst false (p.codes.map (AVal.int .i64))):=rfl
 clear h hx
 generalize ZA p=P at *
 generalize p.codes=ss at *
 generalize p.type=ty at *
 rw [Zbr (by rfl) Zfe]
 unfold wn at *
 rcases hk with rfl | rfl
 all_goals
  simp -implicitDefEqProofs only [EQA,ZV,Nat.reduceAdd,Nat.reduceLT,Nat.reduceLeDiff,Nat.reduceEqDiff,Nat.reduceBEq,reduceCtorEq,↓reduceIte,Zd3,Zdp,oI,AVal.cells,a0,a8,e0,e1,hn,Int.reduceBEq,f0]
  exact hL
end
end
section
theorem Zv0 (a b:List Int) (h:a.length=b.length) (hl:a.length<=9223372036854775807):∀ (r s:List Int) (i:Nat),a.drop i=r->b.drop i=s->Zl8 0 [(13,.int .i64 i),(12,.int .i64 a.length),(1,.lst false (b.map (AVal.int .i64))),(0,.lst false (a.map (AVal.int .i64)))] []=some (.bool (r == s),[])
 | [],s,i,ha,hb=>by
  have hs:s=[]:=by
   subst hb;rw [List.drop_eq_nil_iff] at ha ⊢;omega
  subst hs
  have h1:=Zcv ha
  unfold Zl8
  rw [Z2]
  simp -implicitDefEqProofs only [EQA,Nat.reduceLT,Nat.reduceEqDiff,reduceCtorEq,↓reduceIte,Zon,Zy6,ZqH,Zs2,ZmB,oI,h1]
 | x::r,[],i,ha,hb=>by
  have:=(Z4 ha).2.2;rw [List.drop_eq_nil_iff] at hb;omega
 | x::r,y::s,i,ha,hb=>by
  have ih:=Zv0 a b h hl r s (i+1) (Z4 ha).2.1 (Z4 hb).2.1
  have h1:(i:Int) < a.length:=by have:=(Z4 ha).2.2;omega
  have e1:=iad (Z4 ha).1 (AVal.int .i64) (k:=1) rfl
  have e2:=iad (Z4 hb).1 (AVal.int .i64) (k:=1) rfl
  have e3:=ZcL h1 hl
  unfold Zl8 at ih ⊢
  rw [Z2]
  simp -implicitDefEqProofs only [EQA,ZK,ZV,Nat.reduceLT,Nat.reduceEqDiff,Nat.reduceBEq,reduceCtorEq,↓reduceIte,gcT,gcA,Zv,Zu,Zr,ZC,Zon,Zs2,ZmB,oI,h1,e1,e2,e3]
  rw [ih]
  by_cases hx:x=y <;> simp [hx]
theorem ZES (a b:List Int) (hl:a.length<=9223372036854775807):E 83 [.lst false (a.map (AVal.int .i64)),.lst false (b.map (AVal.int .i64))] []=some (.bool (a == b),[]):=by
 rw [Zh (by rfl) ZFM]
 by_cases h:a.length=b.length
 ·have:=Zv0 a b h hl a b 0 rfl rfl
  unfold Zl8 at this
  have e:=Zj5 h
  simp -implicitDefEqProofs only [EQA,ZV,Nat.reduceLT,Nat.reduceEqDiff,reduceCtorEq,↓reduceIte,gcT,gcA,Zv,Zu,Zr,ZC,ZsT,Zlz,oI,e]
  exact this
 ·have e:=Zj7 h
  simp -implicitDefEqProofs only [EQA,Nat.reduceLT,Nat.reduceEqDiff,reduceCtorEq,↓reduceIte,ZsT,Zlz,Zon,oI,e,Zlq h]
theorem ZAH (σ:Za) (sq own:Nat) (view:Bool) (a b:List Int) (hl:a.length<=9223372036854775807):Zo E BY σ sq 83 own view [.lst false (a.map (AVal.int .i64)),.lst false (b.map (AVal.int .i64))]=some (.bool (a == b),σ,{}) :=
 Zb8 (ZES a b hl) (by kernel_rfl) (by simp -implicitDefEqProofs only [ZcI,Zbo,eq_self]) (by simp -implicitDefEqProofs only [ZK,Zbo,eq_self]) rfl (fun _=>rfl) _ _ _ _
theorem Zuo (a b:List Zb) (h:a.length=b.length) (hl:a.length<=9223372036854775807):∀ (r s:List Zb) (i:Nat),a.drop i=r->b.drop i=s->Zj8 0 [(13,.int .i64 i),(12,.int .i64 a.length),(1,.lst false (b.map AVal.str)),(0,.lst false (a.map AVal.str))] []=some (.bool (r == s),[])
 | [],s,i,ha,hb=>by
  have hs:s=[]:=by
   subst hb;rw [List.drop_eq_nil_iff] at ha ⊢;omega
  subst hs
  have h1:=Zcv ha
  unfold Zj8
  rw [Z2]
  simp -implicitDefEqProofs only [EQA,Nat.reduceLT,Nat.reduceEqDiff,reduceCtorEq,↓reduceIte,ZmX,ZOA,ZoO,Zr1,Zln,oI,h1]
 | x::r,[],i,ha,hb=>by
  have:=(Z4 ha).2.2;rw [List.drop_eq_nil_iff] at hb;omega
 | x::r,y::s,i,ha,hb=>by
  have ih:=Zuo a b h hl r s (i+1) (Z4 ha).2.1 (Z4 hb).2.1
  have h1:(i:Int) < a.length:=by have:=(Z4 ha).2.2;omega
  have e1:=iad (Z4 ha).1 AVal.str (k:=1) rfl
  have e2:=iad (Z4 hb).1 AVal.str (k:=1) rfl
  have e3:=ZcL h1 hl
  unfold Zj8 at ih ⊢
  rw [Z2]
  simp -implicitDefEqProofs only [EQA,ZK,ZV,Nat.reduceLT,Nat.reduceEqDiff,Nat.reduceBEq,Zcn,reduceCtorEq,↓reduceIte,gcT,gcA,Zv,Zu,Zr,ZC,ZmX,Zr1,Zln,oI,h1,e1,e2,e3]
  rw [ih]
  by_cases hx:x=y <;> simp [hx]
theorem ZDQ (a b:List Zb) (hl:a.length<=9223372036854775807):E 85 [.lst false (a.map AVal.str),.lst false (b.map AVal.str)] []=some (.bool (a == b),[]):=by
 rw [Zh (by rfl) ZMn]
 by_cases h:a.length=b.length
 ·have:=Zuo a b h hl a b 0 rfl rfl
  unfold Zj8 at this
  have e:=Zj5 h
  simp -implicitDefEqProofs only [EQA,ZV,Nat.reduceLT,Nat.reduceEqDiff,reduceCtorEq,↓reduceIte,gcT,gcA,Zv,Zu,Zr,ZC,Zwh,Zmv,oI,e]
  exact this
 ·have e:=Zj7 h
  simp -implicitDefEqProofs only [EQA,Nat.reduceLT,Nat.reduceEqDiff,reduceCtorEq,↓reduceIte,Zwh,Zmv,ZmX,oI,e,Zlq h]
theorem Zym (σ:Za) (sq own:Nat) (view:Bool) (a b:List Zb) (hl:a.length<=9223372036854775807):Zo E BY σ sq 85 own view [.lst false (a.map AVal.str),.lst false (b.map AVal.str)]=some (.bool (a == b),σ,{}) :=
 Zb8 (ZDQ a b hl) (by kernel_rfl) (by simp -implicitDefEqProofs only [ZcI,Zbo,eq_self]) (by simp -implicitDefEqProofs only [ZK,Zbo,eq_self]) rfl (fun _=>rfl) _ _ _ _
theorem ZtL (a b:List Zbv) (h:a.length=b.length) (hl:a.length<=9223372036854775807):∀ (r s:List Zbv) (i:Nat),a.drop i=r->b.drop i=s->ZkK 0 [(13,.int .i64 i),(12,.int .i64 a.length),(1,.lst false (b.map Z5)),(0,.lst false (a.map Z5))] []=some (.bool (r == s),[])
 | [],s,i,ha,hb=>by
  have hs:s=[]:=by
   subst hb;rw [List.drop_eq_nil_iff] at ha ⊢;omega
  subst hs
  have h1:=Zcv ha
  unfold ZkK
  rw [Z2]
  simp -implicitDefEqProofs only [EQA,Nat.reduceLT,Nat.reduceEqDiff,reduceCtorEq,↓reduceIte,ZqW,Zyf,ZqA,Zwb,ZmI,oI,h1]
 | x::r,[],i,ha,hb=>by
  have:=(Z4 ha).2.2;rw [List.drop_eq_nil_iff] at hb;omega
 | x::r,y::s,i,ha,hb=>by
  have ih:=ZtL a b h hl r s (i+1) (Z4 ha).2.1 (Z4 hb).2.1
  have h1:(i:Int) < a.length:=by have:=(Z4 ha).2.2;omega
  have e1:=iad (Z4 ha).1 Z5 (k:=6) rfl
  have e2:=iad (Z4 hb).1 Z5 (k:=6) rfl
  have e3:=ZcL h1 hl
  unfold ZkK at ih ⊢
  rw [Z2]
  obtain ⟨f1,q1,n1,a1,d1,i1⟩:=x
  obtain ⟨f2,q2,n2,a2,d2,i2⟩:=y
  simp only [Z5,AVal.cells] at e1 e2
  have kd:Zgb [2,0,1,1,0,0] [AVal.str f1,.int .i64 q1,.bool n1,.bool a1,.int .i64 d1,.int .i64 i1]=true:=rfl
  have ke:Zfn [AVal.str f1,.int .i64 q1,.bool n1,.bool a1,.int .i64 d1,.int .i64 i1] [AVal.str f2,.int .i64 q2,.bool n2,.bool a2,.int .i64 d2,.int .i64 i2]=some (f1 == f2 && (q1 == q2 && (n1 == n2 && (a1 == a2 && (d1 == d2 && (i1 == i2 && true)))))):=rfl
  have kd2:Zgb [2,0,1,1,0,0] [AVal.str f2,.int .i64 q2,.bool n2,.bool a2,.int .i64 d2,.int .i64 i2]=true:=rfl
  simp -implicitDefEqProofs only [EQA,ZV,Nat.reduceAdd,Nat.reduceLT,Nat.reduceLeDiff,Nat.reduceEqDiff,Nat.reduceBEq,reduceCtorEq,↓reduceIte,gcT,gcA,Zv,Zu,Zr,ZC,ZqW,Zwb,ZmI,oI,h1,e1,e2,e3,kd,ke]
  rw [ih]
  have hb:((⟨f1,q1,n1,a1,d1,i1⟩:Zbv) == ⟨f2,q2,n2,a2,d2,i2⟩)=(f1 == f2 && (q1 == q2 && (n1 == n2 && (a1 == a2 && (d1 == d2 && (i1 == i2)))))):=by
   rw [Bool.eq_iff_iff];simp
  rw [List.cons_beq_cons,hb]
  cases f1 == f2 <;> cases q1 == q2 <;> cases n1 == n2 <;> cases a1 == a2 <;> cases d1 == d2 <;> cases i1 == i2 <;> rfl
theorem ZGy (a b:List Zbv) (hl:a.length<=9223372036854775807):E 84 [.lst false (a.map Z5),.lst false (b.map Z5)] []=some (.bool (a == b),[]):=by
 rw [Zh (by rfl) ZxH]
 by_cases h:a.length=b.length
 ·have:=ZtL a b h hl a b 0 rfl rfl
  unfold ZkK at this
  have e:=Zj5 h
  simp -implicitDefEqProofs only [EQA,ZV,Nat.reduceLT,Nat.reduceEqDiff,reduceCtorEq,↓reduceIte,gcT,gcA,Zv,Zu,Zr,ZC,ZvH,Zmc,oI,e]
  exact this
 ·have e:=Zj7 h
  simp -implicitDefEqProofs only [EQA,Nat.reduceLT,Nat.reduceEqDiff,reduceCtorEq,↓reduceIte,ZvH,Zmc,ZqW,oI,e,Zlq h]
theorem ZyK (σ:Za) (sq own:Nat) (view:Bool) (a b:List Zbv) (hl:a.length<=9223372036854775807):Zo E BY σ sq 84 own view [.lst false (a.map Z5),.lst false (b.map Z5)]=some (.bool (a == b),σ,{}) :=
 Zb8 (ZGy a b hl) (by kernel_rfl) (by simp -implicitDefEqProofs only [ZcI,Zbo,eq_self]) (by simp -implicitDefEqProofs only [ZK,Zbo,eq_self]) rfl (fun _=>rfl) _ _ _ _
def Zep (a b:Zz):Bool :=
 ((((((((((((a.codes == b.codes && a.subs == b.subs && a.filters == b.filters && a.props == b.props && a.will.props == b.will.props)
  && (a.payload == b.payload && a.password == b.password && a.will.data == b.will.data))
  && (a.will.topic == b.will.topic && a.will.qos == b.will.qos && a.will.retain == b.will.retain))
  && (a.dup == b.dup && a.retain == b.retain && a.clean == b.clean && a.hasWill == b.hasWill && a.hasUser == b.hasUser && a.hasPassword == b.hasPassword && a.present == b.present))
  && a.type == b.type) && a.qos == b.qos) && a.id == b.id) && a.topic == b.topic) && a.code == b.code) && a.keep == b.keep) && a.client == b.client) && a.user == b.user)
theorem ZHZ (a b:Zz):Zep a b=true↔a=b:=by
 obtain ⟨a1,a2,a3,a4,a5,a6,a7,a8,a9,a10,a11,a12,a13,a14,a15,a16,⟨a17,a18,a19,a20,a21⟩,a22,a23,a24,a25,a26⟩:=a
 obtain ⟨b1,b2,b3,b4,b5,b6,b7,b8,b9,b10,b11,b12,b13,b14,b15,b16,⟨b17,b18,b19,b20,b21⟩,b22,b23,b24,b25,b26⟩:=b
 simp only [Zep,Bool.and_eq_true,beq_iff_eq,Zz.mk.injEq,ZtF.mk.injEq]
 constructor
 ·rintro ⟨⟨⟨⟨⟨⟨⟨⟨⟨⟨⟨⟨⟨⟨⟨h1,h2⟩,h3⟩,h4⟩,h5⟩,⟨⟨h6,h7⟩,h8⟩⟩,⟨⟨h9,h10⟩,h11⟩⟩,⟨⟨⟨⟨⟨⟨h12,h13⟩,h14⟩,h15⟩,h16⟩,h17⟩,h18⟩⟩,h19⟩,h20⟩,h21⟩,h22⟩,h23⟩,h24⟩,h25⟩,h26⟩
  simp only [h1,h2,h3,h4,h5,h6,h7,h8,h9,h10,h11,h12,h13,h14,h15,h16,h17,h18,h19,h20,h21,h22,h23,h24,h25,h26,and_self]
 ·rintro ⟨h1,h2,h3,h4,h5,h6,h7,h8,h9,h10,h11,h12,h13,h14,h15,h16,⟨h17,h18,h19,h20,h21⟩,h22,h23,h24,h25,h26⟩
  simp only [h1,h2,h3,h4,h5,h6,h7,h8,h9,h10,h11,h12,h13,h14,h15,h16,h17,h18,h19,h20,h21,h22,h23,h24,h25,h26,and_self]
structure OkL (p:Zz):Prop where
 codes:p.codes.length<=9223372036854775807
 props:p.props.length<=9223372036854775807
 subs:p.subs.length<=9223372036854775807
 filters:p.filters.length<=9223372036854775807
 wprops:p.will.props.length<=9223372036854775807
theorem ZHI (a b:Zz) (h:OkL a):E 35 [Zar a,Zar b] []=some (.bool (Zep a b),[]):=by
 have h1:=fun σ sq own view=>ZAH σ sq own view a.codes b.codes h.codes
 have h2:=fun σ sq own view=>ZyK σ sq own view a.subs b.subs h.subs
 have h3:=fun σ sq own view=>Zym σ sq own view a.filters b.filters h.filters
 have h4:=fun σ sq own view=>Zkk σ sq own view a.props b.props h.props
 have h5:=fun σ sq own view=>Zkk σ sq own view a.will.props b.will.props h.wprops
 rw [Zh (by rfl) ZKA]
 unfold Zar Zep
 simp -implicitDefEqProofs only [EQA,ZV,ZdB,ZmD,Nat.reduceAdd,Nat.reduceLT,Nat.reduceEqDiff,Nat.reduceBEq,Zcn,ZD,Zam,unG,reduceCtorEq,ZY,ite_self,↓reduceIte,ZL6,ZoL,ZBz,oI,AVal.cells,h1,h2,h3,h4,h5]
theorem ZsV (σ:Za) (sq own:Nat) (view:Bool) (a b:Zz) (h:OkL a):Zo E BY σ sq 35 own view [Zar a,Zar b]=some (.bool (Zep a b),σ,{}) :=
 Zb8 (ZHI a b h) (by kernel_rfl) rfl rfl rfl (fun _=>rfl) _ _ _ _
end
section
def Zmp:Ze:=(.seq (.region [oI 2 (.mov (.c (.lst true [])))] none [0]) (.seq (.region [oI 3 (.mov (.t 0)),oI 4 (.nilchk (.t 3)),oI 5 (.faddr 0 (.t 4)),oI 6 (.ld none (.t 5)),oI 7 (.mov (.t 0)),oI 8 (.nilchk (.t 7)),oI 9 (.faddr 1 (.t 8)),oI 10 (.ld none (.t 9)),oI 11 (.slice 1 (.t 6) (some (.t 10)) none none),oI 2 (.mov (.t 11))] (some [(3,7)]) [2]) .ret))
def ZnR:ZG:=⟨[(.tmp 2)],Zmp⟩
theorem ZsO:FC 80=some ZnR:=by kernel_rfl
theorem Zuw:ZnR.body=Zmp:=rfl
theorem ZtP:ZnR.res=[(.tmp 2)]:=rfl
end
section
theorem ZLG {σ:Za} {t g k n:Nat} {xs:List AVal} (hs:σ[t]?=some (.row g k xs)) (hn:n=xs.length):ZbS σ k (.sl t g 0 n) (some (.int .i64 0)) none none=some (.sl t g 0 n,σ,{ rd:=[t] }):=by
 subst hn
 have he:ZY σ (.sl t g 0 xs.length)=some ((xs.drop 0).take xs.length,[t]):=by simp [ZY,hs]
 simp [ZbS,he,hs,Zbl,Zel]
theorem ZF9 (σ:Za) (k:Nat):ZbS σ k (.lst true []) (some (.int .i64 0)) none none=some (.lst true [],σ,{}):=by
 simp [ZbS,Zbl,Zel]
theorem ZxA (l:Zb):E 80 [.ref 0 0] (wH 0 l)=some (.sl 1 0 0 l.length,wH 0 l):=by
 have h1:((l.map Zc).length)=l.length:=by simp
 rw [Zh (by rfl) ZsO]
 unfold wH wv
 have hS:=fun (σ:Za) (hs:σ[1]?=some (.row 0 1 (l.map Zc)))=>ZLG (n:=l.length) hs h1.symm
 simp -implicitDefEqProofs only [EQA,Nat.reduceAdd,Nat.reduceLT,Nat.reduceEqDiff,Nat.reduceBEq,reduceCtorEq,↓reduceIte,Zuw,Zmp,ZtP,oI,hS]
 simp [Z6,gcA,Zv,Zu,Zp,ZS,ZC,Zj,ZJ,Zl,ZE,Zr,Zf,Zm,Zw,List.range,List.range.loop]
theorem ZPA:E 80 [.ref 0 0] [.var wn]=some (.lst true [],[.var wn]):=by
 rw [Zh (by rfl) ZsO]
 unfold wn
 simp -implicitDefEqProofs only [EQA,Zt,ZV,Nat.reduceLT,Nat.reduceEqDiff,Nat.reduceBEq,reduceCtorEq,↓reduceIte,Zd,Zuw,Zmp,ZtP,oI,ZF9]
theorem ZBL (l:Zb):Zab true 2 (some (.sl 1 0 0 l.length,wH 0 l))=some (.lst false (l.map Zc),[.var (wv 1 0 l.length),.frow 0 1 (l.map Zc)]):=by
 have e1:(0:Nat)+l.length<=(l.map Zc).length:=by simp
 have e2:((l.map Zc).drop 0).take l.length=l.map Zc:=by
  rw [List.drop_zero,<-List.length_map (f:=Zc),List.take_length]
 simp only [Zab,if_true,Zbs,viewR,ZP,ZL,ZY,wH,List.getElem?_cons_succ,List.getElem?_cons_zero,e1,e2,and_self,Zq,List.set_cons_succ,List.set_cons_zero]
 simp [gcA,Zv,Zp,ZS,List.range,List.range.loop,ZC,wv,Zu,Zj,ZJ,Zr,ZE,Zl,Zw,Zf,Zm]
theorem ZPC (l:Zb) {σ:Za} (t r g:Nat) {sq:Nat} (htr:t≠r) (hs:σ[t]?=some (.var (wv r g l.length))) (hr:σ[r]?=some (.row g 1 (l.map Zc))) :
  Zo E1 BY σ sq 80 0 true [.ref t 0]=some (.lst false (l.map Zc),(σ.set t (.var (wv r g l.length))).set r (.frow g 1 (l.map Zc)),{ any:=true,upd:=[(t,wv r g l.length)] }):=by
 refine ZbA ?_
 have hrf:Zp (wv r g l.length)=[r]:=rfl
 have htl:t < σ.length:=(List.getElem?_eq_some_iff.1 hs).1
 have hrl:r < σ.length:=(List.getElem?_eq_some_iff.1 hr).1
 have h1:σ.getD t .free=.var (wv r g l.length):=by simp [List.getD_eq_getElem?_getD,hs]
 have h2:σ.getD r .free=.row g 1 (l.map Zc):=by simp [List.getD_eq_getElem?_getD,hr]
 have hf0:Zq σ []=σ:=rfl
 have hsh:showAs σ [.ref t 0]=some ([.ref t 0],[]):=rfl
 have href:Zp [AVal.ref t 0]=[t]:=rfl
 have hup:Za1 ((σ.set t (.var (wv r g l.length))).set r (.frow g 1 (l.map Zc))) [t,r]=[(t,wv r g l.length)]:=by
  have e1:((σ.set t (.var (wv r g l.length))).set r (.frow g 1 (l.map Zc)))[t]?=some (.var (wv r g l.length)):=by
   rw [List.getElem?_set_ne (fun e=>htr e.symm),List.getElem?_set_self htl]
  have e2:((σ.set t (.var (wv r g l.length))).set r (.frow g 1 (l.map Zc)))[r]?=some (.frow g 1 (l.map Zc)):=by
   rw [List.getElem?_set_self (by simpa using hrl)]
  simp only [Za1,e1,e2]
 unfold Zo ZbO
 rw [show BY 80=false by kernel_rfl]
 simp only [Bool.false_eq_true,if_false,hsh,hf0,href,Zrn hs hr htr hrf]
 unfold Zbz
 have hall:([t,r].all fun t=>okB (σ.getD t .free))=true:=by simp only [List.all_cons,List.all_nil,h1,h2,okB,Bool.and_true]
 rw [if_pos hall]
 have hρt:Zj σ 0 [t,r] t 0=some (0,0):=by simp [Zj,ZJ,hs,Zl,ZE]
 have hρr:Zj σ 0 [t,r] r g=some (1,0):=by simp [Zj,ZJ,hr,Zl,ZE,htr]
 have hargs:Zf (Zj σ 0 [t,r]) [.ref t 0]=[.ref 0 0]:=by simp only [Zf,Zm,hρt]
 have hren:Zf (Zj σ 0 [t,r]) (wv r g l.length)=wv 1 0 l.length:=by simp only [wv,Zf,Zm,hρr]
 have hheap:Zr σ 0 [t,r] (Zj σ 0 [t,r]) [t,r] 0=wH 0 l:=by
  simp only [Zr,h1,h2,ZE,Zl,Zw,hren,wH]
  simp
 rw [hargs,hheap,ZxA l,show [t,r].length=2 from rfl,ZBL l]
 have hk:Za0 σ [t,r] [.var (wv 1 0 l.length),.frow 0 1 (l.map Zc)] 0=true:=by simp [Za0,okB,Zce,Zl,hs,hr]
 have hff:ZaX σ sq 0=true:=by simp [ZaX]
 have hb3:Zf (Zax σ [t,r] sq) (wv 1 0 l.length)=wv r g l.length:=by
  have : Zax σ [t,r] sq 1 0=some (r,g):=by simp only [Zax,List.getElem?_cons_succ,List.getElem?_cons_zero,h2,Zl];rfl
  simp only [wv,Zf,Zm,this]
 simp only [Zav,List.isEmpty_cons,Bool.false_eq_true,if_false,List.length_cons,List.length_nil,Nat.zero_add,Nat.reduceAdd,Nat.add_zero,Nat.le_refl,decide_true,hk,hff,Bool.and_self,if_true,Za3,ZaF,List.getD_cons_zero,List.getD_cons_succ,Zb1,List.getElem?_cons_zero,List.getElem?_cons_succ,h2,Zl,Zw,Zm,hb3,hup]
theorem ZCG {σ:Za} {t sq:Nat} (hs:σ[t]?=some (.var wn)):Zo E1 BY σ sq 80 0 true [.ref t 0]=some (.lst false [],σ,{ any:=true,upd:=[(t,wn)] }):=by
 refine ZbA ?_
 have htl:t < σ.length:=(List.getElem?_eq_some_iff.1 hs).1
 have h1:σ.getD t .free=.var wn:=by simp [List.getD_eq_getElem?_getD,hs]
 have hf0:Zq σ []=σ:=rfl
 have hsh:showAs σ [.ref t 0]=some ([.ref t 0],[]):=rfl
 have href:Zp [AVal.ref t 0]=[t]:=rfl
 have hre:Zu σ 1000 [t] []=[t]:=by
  have e1:([]:List Nat).contains t=false:=rfl
  rw [show (1000:Nat)=998+1+1 from rfl,Zu,e1]
  simp only [Bool.false_eq_true,if_false,h1,ZC]
  rfl
 unfold Zo ZbO
 rw [show BY 80=false by kernel_rfl]
 simp only [Bool.false_eq_true,if_false,hsh,hf0,href,hre]
 unfold Zbz
 have hall:([t].all fun t=>okB (σ.getD t .free))=true:=by simp only [List.all_cons,List.all_nil,h1,okB,Bool.and_true]
 rw [if_pos hall]
 have hρt:Zj σ 0 [t] t 0=some (0,0):=by simp [Zj,ZJ,hs,Zl,ZE]
 have hargs:Zf (Zj σ 0 [t]) [.ref t 0]=[.ref 0 0]:=by simp only [Zf,Zm,hρt]
 have hheap:Zr σ 0 [t] (Zj σ 0 [t]) [t] 0=[.var wn]:=by
  simp only [Zr,h1,Zw]
  rfl
 rw [hargs,hheap,ZPA]
 have hv:Zab true 1 (some (.lst true [],[.var wn]))=some (.lst false [],[.var wn]):=rfl
 rw [show [t].length=1 from rfl,hv]
 have hk:Za0 σ [t] [.var wn] 0=true:=by simp [Za0,okB,Zce,Zl,hs]
 have hset:σ.set t (.var wn)=σ:=by
  apply List.ext_getElem?
  intro i
  rw [List.getElem?_set]
  by_cases e:t=i
  ·subst e;rw [if_pos rfl,if_pos htl,hs]
  ·simp [e]
 have hup:Za1 σ [t]=[(t,wn)]:=by simp only [Za1,hs]
 have hff:ZaX σ sq 0=true:=by simp [ZaX]
 have hlay:Za3 σ [t] sq [.var wn] 0 σ=σ:=by
  simp only [Za3,ZaF,Zw,List.getD_cons_zero]
  exact hset
 simp only [Zav,List.isEmpty_cons,Bool.false_eq_true,if_false,hk,hff,hlay,hup,Zm,List.length_cons,List.length_nil,Nat.zero_add,Nat.add_zero,Nat.le_refl,decide_true,Bool.and_self,if_true]
theorem ZuF (σ:Za) (sq own:Nat) (f:Bool) (a:Zb) (h:a.length<=140737488355328):Zo E BY σ sq 56 own true [.lst f [.lst false (a.map Zc)]]=some (.lst false (a.map Zc),σ,{}):=by
 have:=Zh8 σ sq own f a [] (by simp) (by simpa using h)
 simpa [ZI] using this
theorem ZBv {p:Zz} {l:Zb} (h:E1 78 [.ref 0 0,Zar p] [.var wn]=some (.tup [],wH 0 l)) {σ:Za} {t sq:Nat} (hf:σ[sq]?=some .free) (hs0:σ[t]?=some (.var wn)) :
  Zo E1 BY σ sq 78 1 true [.ref t 0,.agg (ZA p)]=some (.tup [],(σ.set t (.var (wv sq 0 l.length))).set sq (.row 0 1 (l.map Zc)),{ any:=true,upd:=[(t,wv sq 0 l.length)] }) :=
 ZgY (args:=[.agg (ZA p)]) rfl rfl h (by kernel_rfl) (by rw [List.all_cons,Ze7];rfl) (by rw [List.map_cons,ZeG];rfl) hf hs0
theorem ZJs {p:Zz} (h:E1 78 [.ref 0 0,Zar p] [.var wn]=some (.tup [],[.var wn])) {σ:Za} {t sq:Nat} (hf:σ[sq]?=some .free) (hs0:σ[t]?=some (.var wn)) :
  Zo E1 BY σ sq 78 1 true [.ref t 0,.agg (ZA p)]=some (.tup [],σ,{ any:=true,upd:=[(t,wn)] }) :=
 ZrS (args:=[.agg (ZA p)]) h (by kernel_rfl) (by rw [List.all_cons,Ze7];rfl) (by rw [List.map_cons,ZeG];rfl) (ff1 hf) hs0
def orU (a b:Int):Int:=IntKind.u8.wrap (BitVec.ofInt IntKind.u8.bits a ||| BitVec.ofInt IntKind.u8.bits b).toNat
def ZgZ (t:Int):Int:=orU (IntKind.u8.wrap (IntKind.i64.wrap (t*2 ^ min (Int.toNat 4) IntKind.i64.bits))) (ZeE t)
def Zk1 (p:Zz):Int:=IntKind.u8.wrap (Z8 p.dup 8+Zx p.qos 3*2+Z8 p.retain 1)
def Zcc (p:Zz):Int:=if p.type=3 then orU (ZgZ 3) (Zk1 p) else ZgZ p.type
theorem ZAm (m:Nat) (h:m < 256):IntKind.u8.wrap (m:Int)=m:=by
 unfold IntKind.wrap IntKind.signed IntKind.bits
 simp
 omega
theorem ZwH (a b:Int):0<=orU a b/\orU a b < 256:=by
 have h:∀ x y:BitVec 8,(x ||| y).toNat < 256:=fun x y=>(x ||| y).isLt
 have h2:=h (BitVec.ofInt 8 a) (BitVec.ofInt 8 b)
 unfold orU
 rw [show IntKind.u8.bits=8 from rfl,ZAm _ h2]
 omega
theorem Zwm (p:Zz):0<=Zcc p/\Zcc p < 256:=by
 unfold Zcc
 split
 ·exact ZwH _ _
 ·exact ZwH _ _
theorem ZtW (B:Zb):(Z7 (B.length:Nat)).2=0↔B.length<=268435455:=by
 unfold Z7
 split
 ·simp only []
  constructor
  ·intro h;simp at h
  ·intro h;omega
 ·simp only [true_iff]
  omega
def Zg1 (first:Int) (B:Zb) (c:Int) (s:Bool):AVal :=
 if B.length<=268435455/\c=0/\s=true then .tup [.agg [.int .u8 first,.lst false (B.map Zc)],.int .i64 0] else .tup [.agg [.int .u8 0,.lst true []],.int .i64 129]
section
variable (p q:Zz) (c:Int)
theorem ZLU (B:Zb) (hb:E1 78 [.ref 0 0,Zar p] [.var wn]=some (.tup [],wH 0 B)) (hB:B.length<=140737488355328)
  (hr:∀ σ sq own,Zo E1 BY σ sq 32 own true [.agg [.int .u8 (Zcc p),.lst false (B.map Zc)]]=some (.tup [Zar q,.int .i64 c],σ,{})) (hq:OkL q) :
  E1 34 [Zar p] []=some (Zg1 (Zcc p) B c (Zep q p),[]):=by
 have fb:=fun {σ:Za} {t sq:Nat}=>ZBv hb (σ:=σ) (t:=t) (sq:=sq)
 have fB:=fun {σ:Za} {sq:Nat}=>ZPC B 2 3 0 (by omega) (σ:=σ) (sq:=sq)
 have fj:=fun σ sq own f=>ZbA (ZuF σ sq own f B hB)
 have ff:=fun σ sq own=>ZbA (ZjY p.type σ sq own)
 have fm:=fun b n σ sq own=>ZjU b n σ sq own
 have fv:=fun σ sq own=>ZbA (Zf7 σ sq own (B.length:Nat))
 have fs:=fun σ sq own=>ZbA (ZsV σ sq own true q p hq)
 have hn:(B.map Zc).length=B.length:=by simp
 unfold Zg1
 generalize Zep q p=s at *
 rw [ZbD] at *
 rw [ZbD] at *
 have e0:=Zb9 p
 have e1:=Zc3 p
 have a0:(ZA p)[0]?=some (.int .i64 p.type):=rfl
 have a1:(ZA p)[1]?=some (.bool p.dup):=rfl
 have a2:(ZA p)[2]?=some (.int .i64 p.qos):=rfl
 have a3:(ZA p)[3]?=some (.bool p.retain):=rfl
 have d0:=Zb9 q
 have d1:=Zc3 q
 have oq:(ZA q).all ZX=true:=rfl
 have m1:=Zea p.dup 8 (by omega)
 have m2:=Zea p.retain 1 (by omega)
 have m3:=ZiA p.qos
 have w2:=ZcD (Zx p.qos 3*2) (by omega) (by omega)
 have w3:=ZcD (Z8 p.dup 8+Zx p.qos 3*2) (by omega) (by omega)
 have w4:=ZcD (Z8 p.dup 8+Zx p.qos 3*2+Z8 p.retain 1) (by omega) (by omega)
 clear m1 m2 m3
 unfold Zcc at hr ⊢
 have hv:=ZtW B
 unfold ZeS at fv
 generalize (Z7 (B.length:Nat)).1=V at *
 generalize (Z7 (B.length:Nat)).2=v at *
 by_cases h3:p.type=3
 ·rw [if_pos h3] at hr ⊢
  rw [h3] at ff a0
  unfold ZgZ Zk1 orU Zx at *
  clear h3
  generalize ZA p=P at *
  generalize ZA q=Q at *
  generalize p.dup=pd at *
  generalize p.qos=pq at *
  generalize p.retain=pr at *
  unfold wn at *
  rw [Zbr (by rfl) Zj4]
  by_cases v0:v=0
  ·have hL:=hv.1 v0
   subst v0
   by_cases c0:c=0
   ·subst c0
    cases s
    ·rw [if_neg (by simp)]
     simp -implicitDefEqProofs only [EQA,ZaM,Zt,Nat.reduceAdd,Nat.reduceLT,Nat.reduceLeDiff,Nat.reduceEqDiff,Nat.reduceBEq,ZaC,unA,ZD,unG,↓reduceIte,Zd,Zcy,Zch,Zcw,oI,oN,AVal.cells,a0,a1,a2,a3,e0,e1,d0,d1,oq,Zaj,fb,fB,fj,ff,fm,fv,fs,hr,hn,w2,w3,w4,Int.reduceLT,viewAs,ZP,ZL,Zq,Zac,Zag,Zai,Zao,Zaq,Zal,List.lookup_cons,List.lookup_nil,bne_self_eq_false]
    ·rw [if_pos ⟨hL,rfl,rfl⟩]
     simp -implicitDefEqProofs only [EQA,ZaM,Zt,Nat.reduceAdd,Nat.reduceLT,Nat.reduceLeDiff,Nat.reduceEqDiff,Nat.reduceBEq,ZaC,unA,ZD,unG,↓reduceIte,Zd,Zcy,Zch,Zcw,oI,oN,AVal.cells,a0,a1,a2,a3,e0,e1,d0,d1,oq,Zaj,fb,fB,fj,ff,fm,fv,fs,hr,hn,w2,w3,w4,Int.reduceLT,viewAs,ZP,ZL,Zq,Zac,Zag,Zai,Zao,Zaq,Zal,List.lookup_cons,List.lookup_nil,bne_self_eq_false]
   ·have c1:(c != 0)=true:=by simpa using c0
    rw [if_neg (fun h=>c0 h.2.1)]
    simp -implicitDefEqProofs only [EQA,ZaM,Zt,Nat.reduceAdd,Nat.reduceLT,Nat.reduceLeDiff,Nat.reduceEqDiff,Nat.reduceBEq,ZaC,ZD,Zam,unG,reduceCtorEq,↓reduceIte,Zd,Zcy,Zch,Zcw,oI,oN,AVal.cells,a0,a1,a2,a3,e0,e1,d0,oq,Zaj,fb,fB,fj,ff,fm,fv,hr,hn,w2,w3,w4,c1,Int.reduceLT,viewAs,ZP,ZL,Zq,Zac,Zag,Zai,Zao,Zaq,Zal,List.lookup_cons,List.lookup_nil,bne_self_eq_false]
  ·have v1:(v != 0)=true:=by simpa using v0
   rw [if_neg (fun h=>v0 (hv.2 h.1))]
   simp -implicitDefEqProofs only [EQA,ZaM,Zt,Nat.reduceAdd,Nat.reduceLT,Nat.reduceLeDiff,Nat.reduceEqDiff,Nat.reduceBEq,ZaC,ZD,Zam,reduceCtorEq,↓reduceIte,Zd,Zcy,Zch,Zcw,oI,oN,AVal.cells,a0,a1,a2,a3,e0,e1,d0,oq,Zaj,fb,fB,fj,ff,fm,fv,hr,hn,w2,w3,w4,v1,Int.reduceLT,viewAs,ZP,ZL,Zq,Zac,Zag,Zai,Zao,Zaq,Zal,List.lookup_cons,List.lookup_nil]
 ·rw [if_neg h3] at hr ⊢
  have h3b:(p.type == 3)=false:=by simpa using h3
  unfold ZgZ orU at *
  clear h3
  generalize ZA p=P at *
  generalize ZA q=Q at *
  generalize p.dup=pd at *
  generalize p.qos=pq at *
  generalize p.retain=pr at *
  generalize p.type=ty at *
  unfold wn at *
  rw [Zbr (by rfl) Zj4]
  by_cases v0:v=0
  ·have hL:=hv.1 v0
   subst v0
   by_cases c0:c=0
   ·subst c0
    cases s
    ·rw [if_neg (by simp)]
     simp -implicitDefEqProofs only [EQA,ZaM,Zt,Nat.reduceAdd,Nat.reduceLT,Nat.reduceLeDiff,Nat.reduceEqDiff,Nat.reduceBEq,ZaC,unA,ZD,unG,↓reduceIte,Zd,Zcy,Zch,Zcw,oI,oN,AVal.cells,a0,e0,e1,d0,d1,oq,Zaj,fb,fB,fj,ff,fv,fs,hr,hn,h3b,Int.reduceLT,viewAs,ZP,ZL,Zq,Zac,Zag,Zai,Zao,Zaq,Zal,List.lookup_cons,List.lookup_nil,bne_self_eq_false]
    ·rw [if_pos ⟨hL,rfl,rfl⟩]
     simp -implicitDefEqProofs only [EQA,ZaM,Zt,Nat.reduceAdd,Nat.reduceLT,Nat.reduceLeDiff,Nat.reduceEqDiff,Nat.reduceBEq,ZaC,unA,ZD,unG,↓reduceIte,Zd,Zcy,Zch,Zcw,oI,oN,AVal.cells,a0,e0,e1,d0,d1,oq,Zaj,fb,fB,fj,ff,fv,fs,hr,hn,h3b,Int.reduceLT,viewAs,ZP,ZL,Zq,Zac,Zag,Zai,Zao,Zaq,Zal,List.lookup_cons,List.lookup_nil,bne_self_eq_false]
   ·have c1:(c != 0)=true:=by simpa using c0
    rw [if_neg (fun h=>c0 h.2.1)]
    simp -implicitDefEqProofs only [EQA,ZaM,Zt,Nat.reduceAdd,Nat.reduceLT,Nat.reduceLeDiff,Nat.reduceEqDiff,Nat.reduceBEq,ZaC,ZD,Zam,unG,reduceCtorEq,↓reduceIte,Zd,Zcy,Zch,Zcw,oI,oN,AVal.cells,a0,e0,e1,d0,oq,Zaj,fb,fB,fj,ff,fv,hr,hn,h3b,c1,Int.reduceLT,viewAs,ZP,ZL,Zq,Zac,Zag,Zai,Zao,Zaq,Zal,List.lookup_cons,List.lookup_nil,bne_self_eq_false]
  ·have v1:(v != 0)=true:=by simpa using v0
   rw [if_neg (fun h=>v0 (hv.2 h.1))]
   simp -implicitDefEqProofs only [EQA,ZaM,Zt,Nat.reduceAdd,Nat.reduceLT,Nat.reduceLeDiff,Nat.reduceEqDiff,Nat.reduceBEq,ZaC,ZD,Zam,reduceCtorEq,↓reduceIte,Zd,Zcy,Zch,Zcw,oI,oN,AVal.cells,a0,e0,e1,d0,oq,Zaj,fb,fB,fj,ff,fv,hr,hn,h3b,v1,Int.reduceLT,viewAs,ZP,ZL,Zq,Zac,Zag,Zai,Zao,Zaq,Zal,List.lookup_cons,List.lookup_nil]
theorem ZCm (hb:E1 78 [.ref 0 0,Zar p] [.var wn]=some (.tup [],[.var wn]))
  (hr:∀ σ sq own,Zo E1 BY σ sq 32 own true [.agg [.int .u8 (Zcc p),.lst false (([]:Zb).map Zc)]]=some (.tup [Zar q,.int .i64 c],σ,{})) (hq:OkL q) :
  E1 34 [Zar p] []=some (Zg1 (Zcc p) [] c (Zep q p),[]):=by
 have fb:=fun {σ:Za} {t sq:Nat}=>ZJs hb (σ:=σ) (t:=t) (sq:=sq)
 have fB:=fun {σ:Za} {sq:Nat}=>ZCG (σ:=σ) (t:=2) (sq:=sq)
 have fj:=fun σ sq own f=>ZbA (ZuF σ sq own f [] (by decide))
 have ff:=fun σ sq own=>ZbA (ZjY p.type σ sq own)
 have fm:=fun b n σ sq own=>ZjU b n σ sq own
 have fv:=fun σ sq own=>ZbA (Zf7 σ sq own (([]:Zb).length:Nat))
 have fs:=fun σ sq own=>ZbA (ZsV σ sq own true q p hq)
 have hn:(([]:Zb).map Zc).length=([]:Zb).length:=by simp
 unfold Zg1
 generalize Zep q p=s at *
 rw [ZbD] at *
 rw [ZbD] at *
 have e0:=Zb9 p
 have e1:=Zc3 p
 have a0:(ZA p)[0]?=some (.int .i64 p.type):=rfl
 have a1:(ZA p)[1]?=some (.bool p.dup):=rfl
 have a2:(ZA p)[2]?=some (.int .i64 p.qos):=rfl
 have a3:(ZA p)[3]?=some (.bool p.retain):=rfl
 have d0:=Zb9 q
 have d1:=Zc3 q
 have oq:(ZA q).all ZX=true:=rfl
 have m1:=Zea p.dup 8 (by omega)
 have m2:=Zea p.retain 1 (by omega)
 have m3:=ZiA p.qos
 have w2:=ZcD (Zx p.qos 3*2) (by omega) (by omega)
 have w3:=ZcD (Z8 p.dup 8+Zx p.qos 3*2) (by omega) (by omega)
 have w4:=ZcD (Z8 p.dup 8+Zx p.qos 3*2+Z8 p.retain 1) (by omega) (by omega)
 clear m1 m2 m3
 unfold Zcc at hr ⊢
 have hv:=ZtW []
 unfold ZeS at fv
 generalize (Z7 (([]:Zb).length:Nat)).1=V at *
 generalize (Z7 (([]:Zb).length:Nat)).2=v at *
 simp only [List.map_nil,List.length_nil] at fj hr fv hn hv
 by_cases h3:p.type=3
 ·rw [if_pos h3] at hr ⊢
  rw [h3] at ff a0
  unfold ZgZ Zk1 orU Zx at *
  clear h3
  generalize ZA p=P at *
  generalize ZA q=Q at *
  generalize p.dup=pd at *
  generalize p.qos=pq at *
  generalize p.retain=pr at *
  unfold wn at *
  rw [Zbr (by rfl) Zj4]
  by_cases v0:v=0
  ·have hL:=hv.1 v0
   subst v0
   by_cases c0:c=0
   ·subst c0
    cases s
    ·rw [if_neg (by simp)]
     simp -implicitDefEqProofs only [EQA,ZaM,Zt,Nat.reduceAdd,Nat.reduceLT,Nat.reduceLeDiff,Nat.reduceEqDiff,Nat.reduceBEq,ZaC,unA,ZD,unG,↓reduceIte,Zd,Zcy,Zch,Zcw,oI,oN,AVal.cells,a0,a1,a2,a3,e0,e1,d0,d1,oq,Zaj,fb,fB,fj,ff,fm,fv,fs,hr,w2,w3,w4,Int.reduceLT,viewAs,ZP,ZL,Zq,Zac,Zag,Zai,Zao,Zaq,Zal,List.lookup_cons,List.lookup_nil,bne_self_eq_false]
    ·rw [if_pos ⟨by decide,rfl,rfl⟩]
     simp -implicitDefEqProofs only [EQA,ZaM,Zt,Nat.reduceAdd,Nat.reduceLT,Nat.reduceLeDiff,Nat.reduceEqDiff,Nat.reduceBEq,ZaC,unA,ZD,unG,↓reduceIte,Zd,Zcy,Zch,Zcw,oI,oN,AVal.cells,a0,a1,a2,a3,e0,e1,d0,d1,oq,Zaj,fb,fB,fj,ff,fm,fv,fs,hr,w2,w3,w4,Int.reduceLT,viewAs,ZP,ZL,Zq,Zac,Zag,Zai,Zao,Zaq,Zal,List.lookup_cons,List.lookup_nil,bne_self_eq_false]
   ·have c1:(c != 0)=true:=by simpa using c0
    rw [if_neg (fun h=>c0 h.2.1)]
    simp -implicitDefEqProofs only [EQA,ZaM,Zt,Nat.reduceAdd,Nat.reduceLT,Nat.reduceLeDiff,Nat.reduceEqDiff,Nat.reduceBEq,ZaC,ZD,Zam,unG,reduceCtorEq,↓reduceIte,Zd,Zcy,Zch,Zcw,oI,oN,AVal.cells,a0,a1,a2,a3,e0,e1,d0,oq,Zaj,fb,fB,fj,ff,fm,fv,hr,w2,w3,w4,c1,Int.reduceLT,viewAs,ZP,ZL,Zq,Zac,Zag,Zai,Zao,Zaq,Zal,List.lookup_cons,List.lookup_nil,bne_self_eq_false]
  ·have v1:(v != 0)=true:=by simpa using v0
   rw [if_neg (fun h=>v0 (hv.2 (by decide)))]
   simp -implicitDefEqProofs only [EQA,ZaM,Zt,Nat.reduceAdd,Nat.reduceLT,Nat.reduceLeDiff,Nat.reduceEqDiff,Nat.reduceBEq,ZaC,ZD,Zam,reduceCtorEq,↓reduceIte,Zd,Zcy,Zch,Zcw,oI,oN,AVal.cells,a0,a1,a2,a3,e0,e1,d0,oq,Zaj,fb,fB,fj,ff,fm,fv,hr,w2,w3,w4,v1,Int.reduceLT,viewAs,ZP,ZL,Zq,Zac,Zag,Zai,Zao,Zaq,Zal,List.lookup_cons,List.lookup_nil]
 ·rw [if_neg h3] at hr ⊢
  have h3b:(p.type == 3)=false:=by simpa using h3
  unfold ZgZ orU at *
  clear h3
  generalize ZA p=P at *
  generalize ZA q=Q at *
  generalize p.dup=pd at *
  generalize p.qos=pq at *
  generalize p.retain=pr at *
  generalize p.type=ty at *
  unfold wn at *
  rw [Zbr (by rfl) Zj4]
  by_cases v0:v=0
  ·have hL:=hv.1 v0
   subst v0
   by_cases c0:c=0
   ·subst c0
    cases s
    ·rw [if_neg (by simp)]
     simp -implicitDefEqProofs only [EQA,ZaM,Zt,Nat.reduceAdd,Nat.reduceLT,Nat.reduceLeDiff,Nat.reduceEqDiff,Nat.reduceBEq,ZaC,unA,ZD,unG,↓reduceIte,Zd,Zcy,Zch,Zcw,oI,oN,AVal.cells,a0,e0,e1,d0,d1,oq,Zaj,fb,fB,fj,ff,fv,fs,hr,h3b,Int.reduceLT,viewAs,ZP,ZL,Zq,Zac,Zag,Zai,Zao,Zaq,Zal,List.lookup_cons,List.lookup_nil,bne_self_eq_false]
    ·rw [if_pos ⟨by decide,rfl,rfl⟩]
     simp -implicitDefEqProofs only [EQA,ZaM,Zt,Nat.reduceAdd,Nat.reduceLT,Nat.reduceLeDiff,Nat.reduceEqDiff,Nat.reduceBEq,ZaC,unA,ZD,unG,↓reduceIte,Zd,Zcy,Zch,Zcw,oI,oN,AVal.cells,a0,e0,e1,d0,d1,oq,Zaj,fb,fB,fj,ff,fv,fs,hr,h3b,Int.reduceLT,viewAs,ZP,ZL,Zq,Zac,Zag,Zai,Zao,Zaq,Zal,List.lookup_cons,List.lookup_nil,bne_self_eq_false]
   ·have c1:(c != 0)=true:=by simpa using c0
    rw [if_neg (fun h=>c0 h.2.1)]
    simp -implicitDefEqProofs only [EQA,ZaM,Zt,Nat.reduceAdd,Nat.reduceLT,Nat.reduceLeDiff,Nat.reduceEqDiff,Nat.reduceBEq,ZaC,ZD,Zam,unG,reduceCtorEq,↓reduceIte,Zd,Zcy,Zch,Zcw,oI,oN,AVal.cells,a0,e0,e1,d0,oq,Zaj,fb,fB,fj,ff,fv,hr,h3b,c1,Int.reduceLT,viewAs,ZP,ZL,Zq,Zac,Zag,Zai,Zao,Zaq,Zal,List.lookup_cons,List.lookup_nil,bne_self_eq_false]
  ·have v1:(v != 0)=true:=by simpa using v0
   rw [if_neg (fun h=>v0 (hv.2 (by decide)))]
   simp -implicitDefEqProofs only [EQA,ZaM,Zt,Nat.reduceAdd,Nat.reduceLT,Nat.reduceLeDiff,Nat.reduceEqDiff,Nat.reduceBEq,ZaC,ZD,Zam,reduceCtorEq,↓reduceIte,Zd,Zcy,Zch,Zcw,oI,oN,AVal.cells,a0,e0,e1,d0,oq,Zaj,fb,fB,fj,ff,fv,hr,h3b,v1,Int.reduceLT,viewAs,ZP,ZL,Zq,Zac,Zag,Zai,Zao,Zaq,Zal,List.lookup_cons,List.lookup_nil]
end
end
section
def ZkE (x:UInt8) (B:Zb):AVal:=.tup [.agg [Zc x,.lst false (B.map Zc)],.int .i64 0]
theorem ZJA {args:List AVal} {p:Zz} {x:UInt8} {B:Zb} (h:E1 34 [Zar p] []=some (Zg1 x.toNat B 0 true,[])) (hB:B.length<=268435455) (hp:args.all Zak=true) (hn:args.map ZM=[Zar p]) (σ:Za) (sq own:Nat) :
  Zo E1 BY σ sq 34 own true args=some (ZkE x B,σ,{}):=by
 unfold Zg1 at h
 rw [if_pos ⟨hB,rfl,rfl⟩] at h
 exact ZbK h (by kernel_rfl) hp hn rfl (fun _=>rfl) σ sq own
def ZlS (x:UInt8) (B:Zb):Zb:=x::((Z7 B.length).1++B)
theorem ZIn (σ:Za) (sq own:Nat) (f:Bool) (x:UInt8) (b c:Zb) (h:1+b.length+c.length<=140737488355328):Zo E BY σ sq 56 own true [.lst f [.lst false [Zc x],.lst false (b.map Zc),.lst false (c.map Zc)]]=some (.lst false ((x::(b++c)).map Zc),σ,{}):=by
 have:=Zh8 σ sq own f [x] [b,c] (by simp) (by simp;omega)
 simpa only [List.map_cons,List.map_nil,ZI,List.flatten_cons,List.flatten_nil,List.append_nil,List.cons_append,List.nil_append] using this
theorem Zyr (p:Zz) (x:UInt8) (B:Zb) (hB:B.length<=268435455) (hF:∀ σ sq own,Zo E1 BY σ sq 34 own true [.agg (ZA p)]=some (ZkE x B,σ,{})) :
  E1 40 [Zar p] []=some (.tup [.lst false ((ZlS x B).map Zc),.int .i64 0],[]):=by
 have hv:=ZeF (B.length:Nat)
 have fv:=fun σ sq own=>ZbA (Zf7 σ sq own (B.length:Nat))
 have fj:=fun σ sq own f=>ZbA (ZIn σ sq own f x (Z7 (B.length:Nat)).1 B (by omega))
 have hn:(B.map Zc).length=B.length:=by simp
 rw [ZbD]
 have e0:=Zb9 p
 have e1:=Zc3 p
 unfold ZlS
 unfold ZeS at fv
 unfold ZkE at hF
 generalize (Z7 (B.length:Nat)).1=V at *
 generalize (Z7 (B.length:Nat)).2=c at *
 generalize ZA p=P at *
 generalize (x::(V++B)).map Zc=R at *
 generalize hBB:B.map Zc=BB at *
 have bx:Zc x=.int .u8 (x.toNat:Nat):=rfl
 simp only [bx] at fj hF
 rw [Zbr (by rfl) ZPq]
 simp -implicitDefEqProofs only [EQA,Zt,Nat.reduceAdd,Nat.reduceLT,Nat.reduceLeDiff,Nat.reduceEqDiff,Nat.reduceBEq,↓reduceIte,Zd,ZOb,ZnP,ZCZ,oI,oN,AVal.cells,e0,e1,hF,fv,fj,hn,bne_self_eq_false,viewAs,ZP,ZL,Zq]
end
section
def Zh5 (p:Zz):Option Zb :=
 if p.type=1 then some (Zez p) else if p.type=2 then some (ZkW p) else if p.type=3 then some (Zfq p)
 else if p.type=4\/p.type=5\/p.type=6\/p.type=7 then some (beB (ZO p.id) 2++ZbW p)
 else if p.type=8 then some (ZbT p++Zes p.subs) else if p.type=10 then some (ZbT p++Zen p.filters)
 else if p.type=9\/p.type=11 then some (ZbT p++Zd9 p.codes)
 else if p.type=14\/p.type=15 then ZdD p else none
def Zcx (p:Zz):Zb:=(Zh5 p).getD []
theorem ZE0 (p:Zz) (h:OkW p):E1 78 [.ref 0 0,Zar p] [.var wn]=some (.tup [],wO (Zh5 p)):=by
 unfold Zh5
 by_cases h1:p.type=1
 ·rw [if_pos h1];exact Zxl p h h1
 rw [if_neg h1]
 by_cases h2:p.type=2
 ·rw [if_pos h2];exact ZHd p h h2
 rw [if_neg h2]
 by_cases h3:p.type=3
 ·rw [if_pos h3];exact ZAu p h h3
 rw [if_neg h3]
 by_cases h4:p.type=4\/p.type=5\/p.type=6\/p.type=7
 ·rw [if_pos h4];exact ZGW p h h4
 rw [if_neg h4]
 by_cases h8:p.type=8
 ·rw [if_pos h8];exact ZyT p h h8
 rw [if_neg h8]
 by_cases h10:p.type=10
 ·rw [if_pos h10];exact ZIK p h h10
 rw [if_neg h10]
 by_cases h9:p.type=9\/p.type=11
 ·rw [if_pos h9];exact ZJb p h h9
 rw [if_neg h9]
 by_cases h14:p.type=14\/p.type=15
 ·rw [if_pos h14];exact ZJk p h h14
 rw [if_neg h14]
 exact ZOm p (by omega)
theorem ZMr (p:Zz):(ZbW p).length<=300000000:=by
 have h1:=ZaL 1 (ZO p.code)
 have h2:=Zdr p.type p.props
 unfold ZbW
 repeat' split
 all_goals simp only [List.length_append,List.length_nil]
 all_goals omega
theorem ZDf (p:Zz) (h:OkW p) (hp:p.payload.length<=1000000):(Zcx p).length<=1000000000000:=by
 have a1:=ZDt p h
 have a2:=ZMr p
 have a3:=ZaL 2 (ZO p.id)
 have a4:=ZaL 1 (ZO p.code)
 have a5:=ZaL 1 (ZO (Z8 p.present 1))
 have a6:=Zdr 2 p.props
 have a7:=Zdr 3 p.props
 have a8:=ZcN p.topic
 have a9:=Zlc p h
 have b1:=ZDT p.subs
 have b2:=ZGt p.filters
 have b3:=ZzT p.codes
 have c1:=h.subs.1
 have c2:=h.filters.1
 have c3:=h.codes
 have a10:(Zjj p).length<=70000:=by
  unfold Zjj
  split
  ·rw [List.length_append];omega
  ·omega
 have a11:((ZdD p).getD []).length<=300000000:=by
  unfold ZdD
  split
  ·simpa using a2
  ·simp
 unfold Zcx Zh5
 generalize ZdD p=ro at *
 repeat' split
 all_goals try simp only [Option.getD_some,Option.getD_none,List.length_append,List.length_nil,ZkW,Zfq]
 all_goals omega
theorem ZgL {w:Int} {b:Zb} {l:List Zn} {r:Zb} (h:ZbC w b=.ok (l,r)):l.length<=268435455:=by
 unfold ZbC at h
 split at h
 ·injection h with h
  injection h with h1 h2
  rw [<-h1];exact ZzP w b
 ·cases h
theorem Zso {α:Type} {one:Zb->RK α}:∀ {n:Nat} {l:Zb} {ts:List α},ZaP one n l=.ok ts->ts.length<=n
 | 0,l,ts,h=>by
  unfold ZaP at h
  split at h
  ·injection h with h;subst h;simp
  ·cases h
 | n+1,l,ts,h=>by
  unfold ZaP at h
  split at h
  ·injection h with h;subst h;simp
  ·split at h
   ·cases h
   ·split at h
    ·cases h
    ·rename_i t ht
     injection h with h;subst h
     have:=Zso ht
     simp;omega
theorem Zqw {α:Type} {one:Zb->RK α} {k:Int} {l:Zb} {n:Int} {ps:List Zn} {ts:List α} (h:ZbB one k l=.ok (n,ps,ts)):ps.length<=268435455/\ts.length<=l.length:=by
 unfold ZbB at h
 split at h
 ·cases h
 rename_i n' ps' r hm
 have l1:=Zjn hm
 split at h
 ·cases h
 rename_i us hu
 injection h with h;injection h with e1 h;injection h with e2 e3;subst e1 e2 e3
 have:=Zso hu
 refine ⟨?_,by omega⟩
 unfold ZdX at hm
 split at hm
 ·cases hm
 split at hm
 ·cases hm
 rename_i hp
 split at hm
 ·cases hm
 injection hm with hm;injection hm with _ hm;injection hm with e _;subst e
 exact ZgL hp
theorem ZzG {k:Int} {l:Zb} {c:Int} {ps:Option (List Zn)} {r:Zb} (h:Zdb k l=.ok ((c,ps),r)):(ps.getD []).length<=268435455:=by
 unfold Zdb at h
 split at h
 ·injection h with h;injection h with h _;injection h with _ h;subst h;simp
 split at h
 ·cases h
 split at h
 ·injection h with h;injection h with h _;injection h with _ h;subst h;simp
 split at h
 ·cases h
 rename_i hp
 injection h with h;injection h with h _;injection h with _ h;subst h
 exact ZgL hp
theorem ZcX:OkL ZaH:=⟨by simp [ZaH],by simp [ZaH],by simp [ZaH],by simp [ZaH],by simp [ZaH]⟩
theorem Zr4 {q q':Zz} {l r:Zb} (h:OkL q) (e:ZgT q l=.ok (q',r)):OkL q':=by
 unfold ZgT at e
 split at e
 ·cases e
 rename_i c ps r' hr
 injection e with e;injection e with e _;subst e
 have:=ZzG hr
 exact ⟨h.codes,by simp only;omega,h.subs,h.filters,h.wprops⟩
theorem ZLB {q q':Zz} {l r:Zb} (h:OkL q) (e:idQ q l=.ok (q',r)):OkL q':=by
 unfold idQ at e
 split at e
 ·cases e
 rename_i n r1 _
 exact Zr4 (q:={ q with id:=n }) ⟨h.codes,h.props,h.subs,h.filters,h.wprops⟩ e
theorem ZKB {q q':Zz} {l r:Zb} (h:OkL q) (e:ZjK q l=.ok (q',r)):OkL q':=by
 unfold ZjK at e
 split at e
 ·cases e
 split at e
 case isFalse=>cases e
 split at e
 ·cases e
 split at e
 ·cases e
 rename_i hp
 injection e with e;injection e with e _;subst e
 have:=ZgL hp
 exact ⟨h.codes,by simp only;omega,h.subs,h.filters,h.wprops⟩
theorem ZEJ {b:Bool} {q q':Zz} {l r:Zb} (h:OkL q) (e:ZjP b q l=.ok (q',r)):OkL q':=by
 unfold ZjP at e
 split at e
 ·split at e
  ·cases e
  ·injection e with e;injection e with e _;subst e;exact ⟨h.codes,h.props,h.subs,h.filters,h.wprops⟩
 ·injection e with e;injection e with e _;subst e;exact h
theorem ZzQ {b:Bool} {q q':Zz} {l r:Zb} (h:OkL q) (e:ZhP b q l=.ok (q',r)):OkL q':=by
 unfold ZhP at e
 split at e
 ·split at e
  ·cases e
  ·injection e with e;injection e with e _;subst e;exact ⟨h.codes,h.props,h.subs,h.filters,h.wprops⟩
 ·injection e with e;injection e with e _;subst e;exact h
theorem ZKL {b:Bool} {q q':Zz} {l r:Zb} (h:OkL q) (e:Zh3 b q l=.ok (q',r)):OkL q':=by
 unfold Zh3 at e
 split at e
 ·split at e
  ·cases e
  ·rename_i ps tp d r' hw
   injection e with e;injection e with e _;subst e
   refine ⟨h.codes,h.props,h.subs,h.filters,?_⟩
   unfold Zeo at hw
   split at hw
   ·cases hw
   rename_i hp
   split at hw
   ·cases hw
   split at hw
   ·cases hw
   injection hw with hw;injection hw with e1 _;subst e1
   have:=ZgL hp
   simp only;omega
 ·injection e with e;injection e with e _;subst e;exact h
theorem ZKU {q:Zz} (h:OkL q) (m k:Int) {ps:List Zn} (cl:Zb) (hp:ps.length<=268435455):OkL (headD (Zrz q m) k ps cl):=⟨h.codes,Nat.le_trans hp (by decide),h.subs,h.filters,h.wprops⟩
theorem ZGG {q q':Zz} {l r:Zb} (h:OkL q) (e:ZgE q l=.ok (q',r)):OkL q':=by
 unfold ZgE at e
 split at e
 ·cases e
 split at e
 case isFalse=>cases e
 split at e
 ·cases e
 split at e
 case isFalse=>cases e
 split at e
 ·cases e
 split at e
 case isFalse=>cases e
 unfold Zk6 at e
 split at e
 ·cases e
 split at e
 ·cases e
 rename_i hp
 split at e
 ·cases e
 unfold Zkr at e
 split at e
 ·cases e
 rename_i hw
 split at e
 ·cases e
 rename_i hu
 exact ZEJ (ZzQ (ZKL (ZKU h _ _ _ (ZgL hp)) hw) hu) e
theorem Zjv {x:Except Int (Zz×Zb)} (h:∀ q r,x=.ok (q,r)->OkL q) {q:Zz} (e:Zc8 x=.ok q):OkL q:=by
 unfold Zc8 at e
 split at e
 ·cases e
 rename_i q' r'
 split at e
 ·injection e with e;subst e;exact h _ _ rfl
 ·cases e
theorem ZNL {t:Int} {l:Zb} (hl:l.length<=9223372036854775807) {q:Zz} (e:Zik t l=.ok q):OkL q:=by
 have h0:∀ k:Int,OkL { ZaH with type:=k }:=fun k=>⟨ZcX.codes,ZcX.props,ZcX.subs,ZcX.filters,ZcX.wprops⟩
 unfold Zik at e
 split at e
 ·exact Zjv (fun _ _ h=>ZGG (h0 1) h) e
 split at e
 ·exact Zjv (fun _ _ h=>ZKB (h0 2) h) e
 split at e
 ·exact Zjv (fun _ _ h=>ZLB (h0 t) h) e
 split at e
 ·unfold Zmd at e
  split at e
  ·cases e
  rename_i hm
  injection e with e;subst e
  have:=Zqw hm
  exact ⟨(h0 8).codes,by simp only;omega,by simp only;omega,(h0 8).filters,(h0 8).wprops⟩
 split at e
 ·unfold Zlf at e
  split at e
  ·cases e
  rename_i hm
  injection e with e;subst e
  have:=Zqw hm
  exact ⟨(h0 8).codes,by simp only;omega,(h0 8).subs,by simp only;omega,(h0 8).wprops⟩
 split at e
 ·unfold ZhL at e
  split at e
  ·cases e
  rename_i hm
  injection e with e;subst e
  have:=Zqw hm
  exact ⟨by simp only;omega,by simp only;omega,(h0 8).subs,(h0 8).filters,(h0 8).wprops⟩
 split at e
 ·exact Zjv (fun _ _ h=>Zr4 (h0 t) h) e
 ·exact Zjv (fun q r h=>by injection h with h;injection h with h _;subst h;exact h0 t) e
theorem ZPr {qos:Int} {l:Zb} {tp:Zb} {n:Int} {ps:List Zn} {q:Zb} (e:Zdk qos l=.ok (tp,n,ps,q)):ps.length<=268435455:=by
 unfold Zdk at e
 split at e
 ·cases e
 split at e
 ·split at e
  ·cases e
  split at e
  ·cases e
  rename_i hp
  injection e with e;injection e with _ e;injection e with _ e;injection e with e _;subst e
  exact ZgL hp
 ·split at e
  ·cases e
  rename_i hp
  injection e with e;injection e with _ e;injection e with _ e;injection e with e _;subst e
  exact ZgL hp
theorem ZsC (b:Int) (l:Zb) (hl:l.length<=9223372036854775807):OkL (Zdx b l).1:=by
 unfold Zdx
 split
 ·exact ZcX
 split
 ·unfold ZhX
  split
  ·split
   ·split
    ·exact ZcX
    ·rename_i h
     have:=ZPr h
     exact ⟨ZcX.codes,by simp only;omega,ZcX.subs,ZcX.filters,ZcX.wprops⟩
   ·exact ZcX
  ·exact ZcX
 split
 ·split
  ·exact ZcX
  ·rename_i h
   exact ZNL hl h
 ·exact ZcX
theorem ZJC (p:Zz) (h:OkW p) (hp:p.payload.length<=1000000):E1 34 [Zar p] []=some (Zg1 (Zcc p) (Zcx p) (Zdx (Zcc p) (Zcx p)).2 (Zep (Zdx (Zcc p) (Zcx p)).1 p),[]):=by
 have hb:=ZE0 p h
 have hl:=ZDf p h hp
 have hw:=Zwm p
 unfold Zcx at hl ⊢
 cases hB:Zh5 p with
 | none =>
  rw [hB] at hb
  exact ZCm p _ _ hb (fun σ sq own=>ZsJ _ hw [] (by decide) false σ sq own) (ZsC _ _ (by decide))
 | some B =>
  rw [hB] at hb hl
  simp only [Option.getD_some] at hl ⊢
  exact ZLU p _ _ B hb (by omega) (fun σ sq own=>ZsJ _ hw B (by omega) false σ sq own) (ZsC _ _ (by omega))
def ZgN (p:Zz):Prop:=(Zcx p).length<=268435455/\Zdx (Zcc p) (Zcx p)=(p,0)
instance (p:Zz):Decidable (ZgN p):=inferInstanceAs (Decidable (_/\_))
def Zi0 (p:Zz):UInt8:=UInt8.ofNat (Zcc p).toNat
theorem ZIe (p:Zz):((Zi0 p).toNat:Int)=Zcc p:=by
 have:=Zwm p
 unfold Zi0
 rw [UInt8.toNat_ofNat']
 omega
section
variable (p:Zz) (h:OkW p) (hp:p.payload.length<=1000000)
include h hp
theorem ZOq:ZgN p↔((Zcx p).length<=268435455/\(Zdx (Zcc p) (Zcx p)).2=0/\Zep (Zdx (Zcc p) (Zcx p)).1 p=true):=by
 unfold ZgN
 rw [ZHZ]
 constructor
 ·rintro ⟨h1,h2⟩
  rw [h2];exact ⟨h1,rfl,rfl⟩
 ·rintro ⟨h1,h2,h3⟩
  exact ⟨h1,Prod.ext h3 h2⟩
theorem ZBn (hg:ZgN p) (args:List AVal) (ha:args.all Zak=true) (hn:args.map ZM=[Zar p]) (σ:Za) (sq own:Nat):Zo E1 BY σ sq 34 own true args=some (ZkE (Zi0 p) (Zcx p),σ,{}):=by
 have hF:=ZJC p h hp
 obtain ⟨h1,h2,h3⟩:=(ZOq p h hp).1 hg
 rw [h2,h3,<-ZIe p] at hF
 exact ZJA (by rw [hF]) h1 ha hn σ sq own
theorem ZmU (p:Zz):([AVal.agg (ZA p)].all Zak=true)/\[AVal.agg (ZA p)].map ZM=[Zar p]:=⟨by rw [List.all_cons,Ze7];rfl,by rw [List.map_cons,ZeG];rfl⟩
def ZiU (p:Zz):Zb:=ZlS (Zi0 p) (Zcx p)
theorem ZAv (hg:ZgN p) (args:List AVal) (ha:args.all Zak=true) (hn:args.map ZM=[Zar p]) (σ:Za) (sq own:Nat):Zo E1 BY σ sq 40 own true args=some (.tup [.lst false ((ZiU p).map Zc),.int .i64 0],σ,{}) :=
 ZbK (Zyr p (Zi0 p) (Zcx p) hg.1 fun σ sq own=>ZBn p h hp hg _ (ZmU p h hp p).1 (ZmU p h hp p).2 σ sq own) (by kernel_rfl) ha hn rfl (fun _=>rfl) σ sq own
end
end
section
theorem Zv8 (rest:Zb):∀ (b:Zb) (i n:Nat),(gvA i n b).2.2=0->gvA i n (b++rest)=gvA i n b
 | [],i,n,h=>by
  unfold gvA at h
  split at h <;> simp at h
 | c::r,i,n,h=>by
  rw [List.cons_append]
  unfold gvA at h ⊢
  split at h
  ·simp at h
  ·rename_i h4
   rw [if_neg h4,if_neg h4]
   split at h
   ·rename_i hc
    rw [if_pos hc,if_pos hc]
   ·rename_i hc
    rw [if_neg hc,if_neg hc]
    exact Zv8 rest r (i+1) _ h
theorem ZNS (b rest:Zb) (h:(ZW b).2.2=0):ZW (b++rest)=ZW b:=Zv8 rest b 0 0 h
theorem ZFB (w:Int) (b rest:Zb) (h:(Z0 w b).2.2=0):Z0 w (b++rest)=Z0 w b:=by
 have hx:¬((ZW b).2.2≠0\/((ZW b).1:Int) > (b.length:Int) - ((ZW b).2.1:Nat)):=by
  intro hx
  unfold Z0 at h
  rw [if_pos hx] at h
  simp at h
 have h1:(ZW b).2.2=0:=Classical.byContradiction fun e=>hx (Or.inl e)
 have h2:¬(((ZW b).1:Int) > (b.length:Int) - ((ZW b).2.1:Nat)):=fun e=>hx (Or.inr e)
 have hg:=ZNS b rest h1
 have hle:(ZW b).2.1+(ZW b).1<=b.length:=by omega
 have ht:(b++rest).take ((ZW b).2.1+(ZW b).1)=b.take ((ZW b).2.1+(ZW b).1):=List.take_append_of_le_length hle
 have hl:(b++rest).length=b.length+rest.length:=List.length_append
 have hx':¬((ZW b).2.2≠0\/((ZW b).1:Int) > ((b++rest).length:Int) - ((ZW b).2.1:Nat)):=by
  rintro (e | e)
  ·exact e h1
  ·rw [hl] at e;omega
 unfold Z0
 rw [hg,ht,if_neg hx,if_neg hx']
theorem ZAZ (w:Int) (l:List Zn):(Z0 w (ZaN w l).1=(l,(ZaN w l).1.length,0)/\(ZaN w l).2=0)\/((ZaN w l).1=[]/\(ZaN w l).2≠0):=by
 unfold ZaN Zfi
 generalize (l.map ZaE).flatten=b
 by_cases h:(Z7 b.length).2≠0
 ·rw [if_pos h];exact Or.inr ⟨rfl,by decide⟩
 ·rw [if_neg h]
  split
  ·exact Or.inr ⟨rfl,by decide⟩
  ·rename_i h2
   refine Or.inl ⟨?_,rfl⟩
   have h0:(Z0 w ((Z7 b.length).1++b)).2.2=0:=Classical.byContradiction fun e=>h2 (Or.inl e)
   have h1:(Z0 w ((Z7 b.length).1++b)).2.1=((Z7 b.length).1++b).length:=Classical.byContradiction fun e=>h2 (Or.inr (Or.inl e))
   have h3:(Z0 w ((Z7 b.length).1++b)).1=l:=by
    by_cases e:((Z0 w ((Z7 b.length).1++b)).1 == l)=true
    ·exact beq_iff_eq.1 e
    ·exact absurd (Or.inr (Or.inr (by simpa using e))) h2
   simp only
   generalize Z0 w ((Z7 b.length).1++b)=R at *
   obtain ⟨a,n,c⟩:=R
   simp only at h0 h1 h3
   rw [h0,h1,h3]
theorem ZsK (w:Int) (l:List Zn) (rest:Zb) (h:(ZaN w l).2=0):ZbC w ((ZaN w l).1++rest)=.ok (l,rest):=by
 rcases ZAZ w l with ⟨h1,_⟩ | ⟨_,h2⟩
 ·have h0:(Z0 w (ZaN w l).1).2.2=0:=by rw [h1]
  unfold ZbC
  rw [ZFB w _ rest h0,h1]
  simp
 ·exact absurd h h2
end
section
end
section
def p7:Zz:={ ZaH with type:=4,id:=7,code:=16 }
def b7:Zb:=[0,7,16]
end
section
open Go.RowKit
section
variable {H:Type} {enc:TypeId×Value->H} {P:Program} {w:World} {spare:Nat->Bool} {held:Bool} {R:Nat}
end
end
section
open Go.RowKit
variable {R:Nat}
def okI (n:Int):Prop:=-9223372036854775808<=n/\n<=9223372036854775807
def ZJh (R:Nat) (p:Zn):Prop:=okI p.id/\okI p.num/\p.text.length<=R/\p.pair.length<=R/\p.data.length<=R
def Zsk (R:Nat) (l:List Zn):Prop:=l.length<=R/\∀ p ∈ l,ZJh R p
structure ZPH (R:Nat) (p:Zz):Prop where
 topic:p.topic.length<=R
 payload:p.payload.length<=R
 codes:p.codes.length<=R/\∀ n ∈ p.codes,okI n
 props:Zsk R p.props
 subs:p.subs.length<=R/\∀ s ∈ p.subs,s.filter.length<=R/\okI s.qos/\okI s.handling/\okI s.id
 filters:p.filters.length<=R/\∀ f ∈ p.filters,f.length<=R
 client:p.client.length<=R
 wtopic:p.will.topic.length<=R
 wdata:p.will.data.length<=R
 wprops:Zsk R p.will.props
 user:p.user.length<=R
 password:p.password.length<=R
 ints:okI p.type/\okI p.qos/\okI p.id/\okI p.code/\okI p.keep/\okI p.will.qos
end
section
end
section
end
section
theorem ZJx {w:Nat} {x:Int} (r:Zb) (hw:w<=4) (h0:0<=x) (h:x.toNat < 256 ^ w):ZaG w (beB (ZO x) w++r)=.ok (x,r):=by
 have hl:=ZaL w (ZO x)
 have hu:ZO x=x.toNat:=by
  refine Zvm h0 ?_
  have : (256:Nat) ^ w<=256 ^ 4:=Nat.pow_le_pow_right (by omega) hw
  have e4:(256:Nat) ^ 4=4294967296:=rfl
  omega
 have hp:(256:Nat) ^ w<=4294967296:=by
  have : (256:Nat) ^ w<=256 ^ 4:=Nat.pow_le_pow_right (by omega) hw
  have e4:(256:Nat) ^ 4=4294967296:=rfl
  omega
 have hx:ZO x<=4294967296:=by rw [hu];omega
 unfold ZaG
 rw [if_neg (by rw [List.length_append];omega),List.take_append_of_le_length (by omega),List.take_of_length_le (by omega),List.drop_append_of_le_length (by omega),List.drop_of_length_le (by omega),List.nil_append,hu,ZxD (by omega) h (by omega)]
 have : ((x.toNat:Nat):Int)=x:=by omega
 rw [this]
theorem ZGX {x:Int} (r:Zb) (h0:1<=x) (h:x<=65535):idK (beB (ZO x) 2++r)=.ok (x,r):=by
 unfold idK
 rw [ZJx r (by omega) (by omega) (by have : (256:Nat) ^ 2=65536:=rfl;omega)]
 simp only
 rw [if_neg (by omega)]
section
variable (c id:Int) (hc:0<=c/\c<=255) (hi:1<=id/\id<=4096)
include hc hi
end
end
section
def asc (l:Zb):Prop:=∀ b ∈ l,0 < b.toNat/\b.toNat < 128
theorem Zs7:∀ l:Zb,asc l->zfG l.length l=true
 | [],_=>rfl
 | b::t,h=>by
  have hb:=h b (by simp)
  rw [List.length_cons,zfG,if_neg (by simp),Lib.decodeL_ascii b t hb.2]
  simp only
  rw [if_neg (by omega)]
  exact Zs7 t fun c hc=>h c (by simp [hc])
theorem ZsN:∀ l:Zb,asc l->Lib.validD l=true
 | [],_=>rfl
 | b::t,h=>by
  rw [Lib.validD_cons b t (h b (by simp)).2]
  exact ZsN t fun c hc=>h c (by simp [hc])
theorem ZnB {l:Zb} (h:asc l):Zcq l=true:=by
 unfold Zcq;rw [Zs7 l h,ZsN l h];rfl
theorem ZNg (c:UInt8):0 < (Zd8 c).toNat/\(Zd8 c).toNat < 128:=by
 unfold Zd8;rw [UInt8.toNat_ofNat'];omega
theorem ZhF (b:Zb):asc (Zb4 b):=by
 intro c hc
 unfold Zb4 at hc
 obtain ⟨d,_,rfl⟩:=List.mem_map.1 hc
 exact ZNg d
theorem ZKW (b:Zb):asc (116::Zb4 b):=by
 intro c hc
 rcases List.mem_cons.1 hc with rfl | hc
 ·decide
 ·exact ZhF b c hc
theorem ZO3 (m:Zcg):(ZfG m).length<=39:=by
 have:=Zdq m.share
 unfold ZfG
 split <;> simp;omega
theorem ZgV (x:Int) (k:Nat) (hk:k < 9223372036854775808):0<=ZbF x k/\ZbF x k<=k:=by
 unfold ZbF
 have hb:IntKind.i64.bits=64:=rfl
 rw [hb,BitVec.toNat_and,BitVec.ofInt_natCast,BitVec.toNat_ofNat]
 have h1:k % 2 ^ 64=k:=by omega
 rw [h1]
 have h2:=@Nat.and_le_right (BitVec.ofInt 64 x).toNat k
 rw [Za6 (by omega) (by omega)]
 omega
theorem ZKP (x:Int):0<=Zjs x/\Zjs x<=1:=ZgV x 1 (by decide)
theorem Zl6:Zcs 1 3=true/\Zcs 3 3=true/\Zcs 9 3=true/\Zcs 38 3=true:=by decide +kernel
theorem ZdJ:Zbb 1=1/\Zbb 3=5/\Zbb 9=6/\Zbb 38=7:=by decide
theorem Znv {s:Zb} (h:asc s) (hl:s.length<=65535):(ZZ s).2=0:=by
 unfold ZZ;rw [if_pos (ZnB h)];exact Zr9 hl
theorem ZKY {acc:List Zn} (x:Int) (h:Zc9 1 acc=none):ZfJ 3 acc ⟨1,Zjs x,[],[],[]⟩:=by
 have hx:=ZKP x
 refine ⟨?_,Zl6.1,?_,?_,?_⟩
 ·unfold ZeN okV
  simp only [ZdJ.1,if_true,Bool.and_eq_true,Bool.not_eq_true',Bool.or_eq_false_iff,decide_eq_false_iff_not,decide_eq_true_eq]
  omega
 ·unfold ZfN;simp [ZdJ.1]
 ·unfold Zdi;simp [ZdJ.1];omega
 ·simp [h]
theorem ZtZ {acc:List Zn} (s:Zb) (hs:asc s) (hl:s.length<=65535) (h:Zc9 3 acc=none):ZfJ 3 acc ⟨3,0,s,[],[]⟩:=by
 refine ⟨?_,Zl6.2.1,?_,?_,?_⟩
 ·unfold ZeN okV
  simp [ZdJ.2.1,Znv hs hl]
 ·unfold ZfN;simp [ZdJ.2.1]
 ·unfold Zdi;simp [ZdJ.2.1]
 ·simp [h]
theorem ZIz {acc:List Zn} (d:Zb) (hl:d.length<=65535) (h:Zc9 9 acc=none):ZfJ 3 acc ⟨9,0,[],[],d⟩:=by
 refine ⟨?_,Zl6.2.2.1,?_,?_,?_⟩
 ·unfold ZeN okV
  simp [ZdJ.2.2.1,Zr9 hl]
 ·unfold ZfN;simp [ZdJ.2.2.1]
 ·unfold Zdi;simp [ZdJ.2.2.1]
 ·simp [h]
theorem ZAS {acc:List Zn} (s t:Zb) (hs:asc s) (hl:s.length<=65535) (ht:asc t) (hm:t.length<=65535):ZfJ 3 acc ⟨38,0,s,t,[]⟩:=by
 refine ⟨?_,Zl6.2.2.2,?_,?_,?_⟩
 ·unfold ZeN okV
  simp [ZdJ.2.2.2,Znv hs hl,Znv ht hm]
 ·unfold ZfN;simp [ZdJ.2.2.2]
 ·unfold Zdi;simp [ZdJ.2.2.2]
 ·simp [Zgn]
theorem Zh7 {w:Int}:∀ {l r acc:List Zn},ZdP w acc l->ZdP w (acc++l) r->ZdP w acc (l++r)
 | [],r,acc,_,h=>by simpa using h
 | p::l,r,acc,h1,h2=>⟨h1.1,Zh7 h1.2 (by simpa using h2)⟩
theorem Zsj (u:Zb):∀ (l:Zb) (acc:List Zn),ZdP 3 acc (l.map (ZeJ u))
 | [],_=>trivial
 | c::l,acc=>⟨ZAS _ _ (ZhF _) (by have:=Zdq [c];omega) (ZhF _) (by have:=Zdq u;omega),Zsj u l _⟩
theorem Zws (p:Zdw):ZdP 3 [] (Zcr p):=by
 have hc:=Zdq p.content
 unfold Zcr Zfa
 refine Zh7 ?_ (Zsj _ _ _)
 refine Zh7 ?_ (Zh7 ?_ ?_)
 ·split
  ·exact ⟨ZKY _ rfl,trivial⟩
  ·trivial
 ·split <;> split
  ·exact ⟨ZtZ _ (ZhF _) (by omega) rfl,trivial⟩
  ·trivial
  ·exact ⟨ZtZ _ (ZhF _) (by omega) rfl,trivial⟩
  ·trivial
 ·split <;> split <;> split
  all_goals first
   | trivial
   | exact ⟨ZIz _ (by simp;omega) rfl,trivial⟩
theorem Zie (p:Zdw):(Zcr p).length<=7:=by
 unfold Zcr Zfa
 simp only [List.length_append,List.length_map,List.length_take]
 repeat' split
 all_goals simp
 all_goals omega
theorem Zdz (p:Zdw):∀ q ∈ Zcr p,q.text.length<=30/\q.pair.length<=30/\q.data.length<=30/\[(1:Int),3,8,9,38].contains q.id=true:=by
 have hc:=Zdq p.content
 intro q hq
 unfold Zcr Zfa at hq
 simp only [List.mem_append,List.mem_map] at hq
 rcases hq with (h | h | h) | ⟨c,_,rfl⟩
 ·split at h
  ·simp only [List.mem_singleton] at h;subst h;simp
  ·simp at h
 ·split at h
  ·simp only [List.mem_singleton] at h;subst h;simp;omega
  ·simp at h
 ·split at h
  ·simp only [List.mem_singleton] at h;subst h;simp;omega
  ·simp at h
 ·have h1:=Zdq [c]
  have h2:=Zdq p.users
  simp [ZeJ,h1,h2]
theorem ZBs (q:Zn) (h:q.text.length<=30/\q.pair.length<=30/\q.data.length<=30):(ZaE q).length<=100:=by
 have h1:=ZeF q.id
 have h2:=ZeF q.num
 have ht:∀ s:Zb,s.length<=30->(ZZ s).1.length<=32:=by
  intro s hs
  unfold ZZ
  split
  ·rw [Zkd (by omega)];omega
  ·simp
 have a1:=ht _ h.1
 have a2:=ht _ h.2.1
 have a3:(Za4 q.data).1.length<=32:=by rw [Zkd (by omega)];omega
 unfold ZaE Zb2
 rw [List.length_append,List.length_append]
 repeat' split
 all_goals simp only [ZaL,List.length_nil]
 all_goals omega
theorem ZnM:∀ l:List Zn,(∀ q ∈ l,q.text.length<=30/\q.pair.length<=30/\q.data.length<=30)->(l.map ZaE).flatten.length<=l.length*100
 | [],_=>by simp
 | p::r,h=>by
  have h1:=ZBs p (h p (by simp))
  have h2:=ZnM r fun q hq=>h q (by simp [hq])
  simp only [List.map_cons,List.flatten_cons,List.length_append,List.length_cons]
  omega
theorem ZFT (p:Zdw):((Zcr p).map ZaE).flatten.length<=700:=by
 have h1:=ZnM (Zcr p) fun q hq=>⟨(Zdz p q hq).1,(Zdz p q hq).2.1,(Zdz p q hq).2.2.1⟩
 have h2:=Zie p
 omega
theorem ZHA (p:Zdw):Zo4 (Zcr p)=Zcr p:=by
 unfold Zo4 ZsR
 rw [List.filter_eq_self]
 exact fun q hq=>(Zdz p q hq).2.2.2
structure ZBw (n:ZcW):Prop where
 topic:Zcq n.topic=true/\n.topic.length<=65535
 payload:n.payload.length<=65535
 qos:n.qos=0\/n.qos=1\/n.qos=2
 sender:Zcq n.sender=true/\n.sender.length<=65535
 expires:0<=n.expires/\n.expires<=4611686018427387904
 number:0<=n.number/\n.number<=4611686018427387904
 origin:0<=n.origin/\n.origin<=255
 hops:0<=n.hops/\n.hops<=255
 seq:ZdP 3 [] n.props
 flat:(n.props.map ZaE).flatten.length < 268435456
 kept:Zo4 n.props=n.props
theorem ZkJ (m:Zcg):ZBw (Zcp m):=by
 have h1:=Zdq m.topic
 have h2:=Zdq m.sender
 have a1:0<=ZbF m.life 65535/\ZbF m.life 65535<=65535:=ZgV m.life 65535 (by decide)
 have a2:0<=ZbF m.origin 255/\ZbF m.origin 255<=255:=ZgV m.origin 255 (by decide)
 have a3:0<=ZbF m.number 16777215/\ZbF m.number 16777215<=16777215:=ZgV m.number 16777215 (by decide)
 have a4:=ZFT m.p
 refine ⟨⟨ZnB (ZKW _),?_⟩,?_,Zs5 _,⟨ZnB (ZhF _),?_⟩,?_,?_,?_,⟨Int.le_refl 0,show (0:Int)<=255 by decide⟩,Zws _,?_,ZHA _⟩
 ·simp only [Zcp,List.length_cons];omega
 ·simp only [Zcp,List.length_take];omega
 ·simp only [Zcp];omega
 ·simp only [Zcp];split <;> omega
 ·simp only [Zcp];omega
 ·simp only [Zcp];omega
 ·simp only [Zcp];omega
theorem ZHi (m:Zcg):Zz3 (ZH m):=by
 have h1:=Zdq m.topic
 have h2:=Zdq m.sender
 have h3:=ZO3 m
 have h4:=Zie m.p
 refine ⟨⟨?_,?_,?_,?_,?_,?_⟩,?_,?_⟩
 ·simp only [ZH,Zcp,List.length_cons];omega
 ·simp only [ZH,Zcp,List.length_take];omega
 ·simp only [ZH,Zcp];omega
 ·simp only [ZH,Zcp];omega
 ·intro p hp
  have:=Zdz m.p p hp
  exact ⟨by omega,by omega,by omega⟩
 ·intro p hp
  have:=Zdz m.p p hp
  omega
 ·simp only [ZH,List.length_map,List.length_take];omega
 ·simp only [ZH];omega
theorem ZFq (x:Int):1<=Zd7 x/\Zd7 x<=268435455:=by
 have : 0<=ZbF x 16777215/\ZbF x 16777215<=16777215:=ZgV x 16777215 (by decide)
 unfold Zd7
 rw [Za6 (by omega) (by omega)]
 omega
end
section
def Zds (qos:Int) (rt:Bool) (id:Int) (topic:Zb) (props:List Zn) (pay:Zb):Zz:={ ZaH with type:=3,qos:=qos,retain:=rt,id:=id,topic:=topic,props:=props,payload:=pay }
def fM (q:Int) (r:Bool):Int:=orU (ZgZ 3) (IntKind.u8.wrap (Z8 false 8+Zx q 3*2+Z8 r 1))
theorem ZMh (q:Int) (hq:q=0\/q=1\/q=2) (r:Bool):tyI (fM q r)=3/\qoI (fM q r)=q/\(Zbm (fM q r) 8 != 0)=false/\(Zbm (fM q r) 1 != 0)=r:=by
 rcases hq with rfl | rfl | rfl <;> cases r <;> decide +kernel
theorem Zsu (s r:Zb) (ht:Zcq s=true) (hl:s.length<=65535):Zap ((ZZ s).1++r)=.ok (s,r):=by
 have h:=Zj2 s r ht hl
 have l:=Zi8 ht hl
 unfold Zap
 rw [h,if_pos rfl]
 simp only
 rw [List.drop_left' l]
theorem ZzI (qos:Int) (rt:Bool) (id:Int) (topic:Zb) (props:List Zn) (pay:Zb) (hq:qos=0\/qos=1\/qos=2) (ht:Zcq topic=true/\topic.length<=65535) (h0:qos=0->id=0) (h1:qos≠0->1<=id/\id<=65535) (hp:(ZaN 3 props).2=0) (hB:(Zfq (Zds qos rt id topic props pay)).length<=268435455) :
  ZgN (Zds qos rt id topic props pay):=by
 have hb:Zcx (Zds qos rt id topic props pay)=Zfq (Zds qos rt id topic props pay):=by
  unfold Zcx Zh5 Zds
  simp
 have hf:Zcc (Zds qos rt id topic props pay)=fM qos rt:=by
  unfold Zcc fM Zk1 Zds
  simp [ZaH]
 obtain ⟨f1,f2,f3,f4⟩:=ZMh qos hq rt
 refine ⟨by rw [hb];exact hB,?_⟩
 rw [hb,hf]
 have hk:Zdk qos (Zfq (Zds qos rt id topic props pay))=.ok (topic,id,props,pay):=by
  unfold Zfq Zjj Zds
  simp only
  rcases Decidable.em (qos=0) with e | e
  ·subst e
   rw [if_neg (by decide)]
   unfold Zdk
   rw [List.append_assoc,Zsu _ _ ht.1 ht.2]
   simp only
   rw [if_neg (by decide),ZsK 3 props pay hp]
   rw [h0 rfl]
  ·have hg:qos > 0:=by omega
   obtain ⟨i1,i2⟩:=h1 e
   rw [if_pos hg]
   unfold Zdk
   rw [List.append_assoc,List.append_assoc,Zsu _ _ ht.1 ht.2]
   simp only
   rw [if_pos hg,ZGX _ i1 i2]
   simp only
   rw [ZsK 3 props pay hp]
 unfold Zdx
 rw [f1,if_neg (by decide),if_pos rfl]
 unfold ZhX
 rw [f2,f3,f4,hk,if_pos (by omega),if_pos (Or.inr rfl)]
 unfold Zds
 simp [ZaH]
theorem Zg5:Zbb 2=3/\Zbb 11=4/\Zcs 2 3=true/\Zcs 11 3=true:=by decide +kernel
def Zcf (x:Int):Zn:=⟨2,x,[],[],[]⟩
def ZbJ (x:Int):Zn:=⟨11,x,[],[],[]⟩
theorem Zxu {acc:List Zn} (x:Int) (h0:0<=x) (hx:x < 4294967296) (h:Zc9 2 acc=none):ZfJ 3 acc (Zcf x):=by
 refine ⟨?_,Zg5.2.2.1,?_,?_,?_⟩
 ·unfold ZeN okV Zcf
  simp [Zg5.1,h0,hx]
 ·unfold ZfN Zcf;simp [Zg5.1]
 ·unfold Zdi Zcf;simp [Zg5.1]
 ·simp [h,Zcf]
theorem ZDD {acc:List Zn} (x:Int) (h0:1<=x) (hx:x<=268435455):ZfJ 3 acc (ZbJ x):=by
 have hv:(Z7 x).2=0:=by
  have:=ZwM (n:=x.toNat) (by omega)
  rwa [show ((x.toNat:Nat):Int)=x by omega] at this
 refine ⟨?_,Zg5.2.2.2,?_,?_,?_⟩
 ·unfold ZeN okV ZbJ
  simp [Zg5.2.1,hv]
 ·unfold ZfN ZbJ;simp [Zg5.2.1]
 ·unfold Zdi ZbJ;simp;omega
 ·simp [Zgn,ZbJ]
theorem ZuX:∀ (l:List Int) (acc:List Zn),(∀ x ∈ l,1<=x/\x<=268435455)->ZdP 3 acc (l.map ZbJ)
 | [],_,_=>trivial
 | x::l,acc,h=>⟨ZDD x (h x (by simp)).1 (h x (by simp)).2,ZuX l _ fun y hy=>h y (by simp [hy])⟩
def ZdN (e now:Int):List Zn:=if e≠0 then [Zcf (if IntKind.i64.wrap (e - now) < 0 then 0 else IntKind.i64.wrap (e - now))] else []
def Zbt (it:Zfj) (now:Int):List Zn:=it.note.props++ZdN it.note.expires now++it.ids.map ZbJ
def ZbI (it:Zfj) (now id:Int):Zz:=Zds it.qos it.retain (if it.qos > 0 then id else 0) it.note.topic (Zbt it now) it.note.payload
theorem ZHJ (p:Zdw):Zc9 2 (Zcr p)=none:=by
 unfold Zc9
 rw [List.find?_eq_none]
 intro q hq h
 have:=(Zdz p q hq).2.2.2
 simp only [beq_iff_eq] at h
 rw [h] at this
 exact absurd this (by decide)
theorem ZIR (m:Zcg) (now:Int) (hn:1<=now/\now<=131072):ZdP 3 [] (Zbt (ZH m) now):=by
 have hi:∀ x ∈ (ZH m).ids,1<=x/\x<=268435455:=fun x hx=>by
  simp only [ZH] at hx
  obtain ⟨y,_,rfl⟩:=List.mem_map.1 hx
  exact ZFq y
 have he:0<=(ZH m).note.expires/\(ZH m).note.expires<=65535:=by
  have a1:0<=ZbF m.life 65535/\ZbF m.life 65535<=65535:=ZgV m.life 65535 (by decide)
  show 0<=(if m.life > 0 then ZbF m.life 65535 else 0)/\(if m.life > 0 then ZbF m.life 65535 else 0)<=65535
  split <;> omega
 unfold Zbt
 refine Zh7 (Zh7 (Zws m.p) ?_) (ZuX _ _ hi)
 unfold ZdN
 split
 ·have hw:IntKind.i64.wrap ((ZH m).note.expires - now)=(ZH m).note.expires - now:=by
   exact Za6 (by omega) (by omega)
  rw [hw]
  refine ⟨Zxu _ ?_ ?_ (ZHJ m.p),trivial⟩
  ·split <;> omega
  ·split <;> omega
 ·trivial
theorem ZDd (m:Zcg) (now:Int):((Zbt (ZH m) now).map ZaE).flatten.length<=1200:=by
 have h1:=ZnM (Zbt (ZH m) now) fun q hq=>by
  unfold Zbt at hq
  simp only [List.mem_append,List.mem_map] at hq
  rcases hq with (h | h) | ⟨x,_,rfl⟩
  ·exact ⟨(Zdz m.p q h).1,(Zdz m.p q h).2.1,(Zdz m.p q h).2.2.1⟩
  ·unfold ZdN at h
   split at h
   ·rw [List.mem_singleton] at h;subst h;simp [Zcf]
   ·simp at h
  ·simp [ZbJ]
 have h2:(Zbt (ZH m) now).length<=12:=by
  have a:=Zie m.p
  have b:(ZdN (ZH m).note.expires now).length<=1:=by unfold ZdN;split <;> simp
  have c:(ZH m).ids.length<=4:=by simp only [ZH,List.length_map,List.length_take];omega
  have d:(ZH m).note.props.length<=7:=a
  unfold Zbt
  simp only [List.length_append,List.length_map]
  omega
 omega
theorem ZDJ (q:Int) (rt:Bool) (id:Int) (t:Zb) (ps:List Zn) (pay:Zb):Zfq (Zds q rt id t ps pay)=((if q > 0 then (ZZ t).1++beB (ZO id) 2 else (ZZ t).1)++(ZaN 3 ps).1)++pay:=rfl
theorem ZDR (m:Zcg) (now id:Int) (hn:1<=now/\now<=131072) (hid:1<=id/\id<=65535):ZgN (ZbI (ZH m) now id):=by
 have hs:=ZIR m now hn
 have hf:=ZDd m now
 have hl:=ZLM 3 _ hs (by omega)
 have hN:=ZkJ m
 have hq:(ZH m).qos=0\/(ZH m).qos=1\/(ZH m).qos=2:=Zs5 _
 have hT:Zcq (ZH m).note.topic=true/\(ZH m).note.topic.length<=65535:=hN.topic
 have hP:(ZH m).note.payload.length<=65535:=hN.payload
 unfold ZbI
 refine ZzI _ _ _ _ _ _ hq hT (fun e=>by rw [if_neg (by omega)]) (fun e=>by rw [if_pos (by omega)];exact hid) (by rw [hl]) ?_
 have l1:=Zi8 hT.1 hT.2
 have l2:=ZaL 2 (ZO (if (ZH m).qos > 0 then id else 0))
 have l3:=ZeF (((Zbt (ZH m) now).map ZaE).flatten.length:Nat)
 rw [ZDJ,hl]
 simp only [List.length_append]
 split
 ·rw [List.length_append,l1,ZaL]
  omega
 ·rw [l1]
  omega
end
section
theorem ZOL (l:Zb) (h:l.length<=140737488355328):E 111 [.lst false (l.map Zc)] []=some (.sl 0 0 0 (l.map Zc).length,[.row 0 1 (l.map Zc)]):=by
 refine ZcO.2 ⟨1,?_⟩
 show ZeI 1 1 [.lst false (l.map Zc)] []=_
 have h1:(l.map Zc).length*1<=140737488355328/\kOk 1 (l.map Zc)=true:=⟨by simp;omega,by cases l <;> rfl⟩
 simp only [ZeI,ZY]
 rw [if_pos h1];rfl
theorem ZNj (n:ZcW) (hp:n.payload.length<=140737488355328) (hl:n.props.length<=700000000) (hd:∀ p ∈ n.props,p.data.length<=140737488355328) :
  E 93 [.agg [.str n.topic,.lst false (n.payload.map Zc),.int .i64 n.qos,.bool n.retain,.str n.sender,.int .i64 n.expires,.lst false (n.props.map Zg),.int .i64 n.origin,.int .i64 n.number,.int .i64 n.hops]] []=some (.agg (ZeX n 0 1),[.row 0 1 (n.payload.map Zc),.row 0 5 (n.props.map Zg)]):=by
 have h:=Zvj n hl hd n.props 0 rfl
 have z:((0:Nat):Int)=0:=rfl
 rw [z] at h
 have c1:=fun σ sq hs=>ZrU (bf:=BY) (ZOL n.payload hp) rfl rfl σ sq hs
 have c2:=fun σ sq hs=>ZrU (bf:=BY) (Zxz n.props hl) rfl rfl σ sq hs
 rw [List.length_map] at c1 c2
 unfold ZeX Zke at h
 unfold ZeX
 generalize n.payload.map Zc=P at *
 generalize n.props.map Zg=R at *
 unfold ZkH at h
 rw [Zh (by rfl) ZEq]
 simp -implicitDefEqProofs only [EQA,ZV,Za2,Nat.reduceAdd,Nat.reduceLT,Nat.reduceLeDiff,Nat.reduceEqDiff,Nat.reduceBEq,reduceCtorEq,↓reduceIte,gcT,gcA,Zv,Zu,Zj,Zr,ZJ,Zl,ZE,Zw,ZC,ZxU,Znh,oI,oN,c1,c2,ZX,AVal.cells]
 exact h
theorem ZA7 (n:ZcW) (hp:n.payload.length<=140737488355328) (hl:n.props.length<=700000000) (hd:∀ p ∈ n.props,p.data.length<=140737488355328) (σ:Za) (sq:Nat) (h0:σ[sq]?=some .free) (h1:σ[sq+1]?=some .free) :
  Zo E BY σ sq 93 2 false [.agg [.str n.topic,.lst false (n.payload.map Zc),.int .i64 n.qos,.bool n.retain,.str n.sender,.int .i64 n.expires,.lst false (n.props.map Zg),.int .i64 n.origin,.int .i64 n.number,.int .i64 n.hops]]=some (.agg (ZeX n sq (sq+1)),(σ.set sq (.row 0 1 (n.payload.map Zc))).set (sq+1) (.row 0 5 (n.props.map Zg)),{ any:=true }):=by
 rw [Zd2 (by kernel_rfl) rfl]
 simp only [List.map_cons,List.map_nil,ZM,Za9]
 rw [ZNj n hp hl hd]
 have hf:ZaX σ sq 2=true:=by simp [ZaX,freeAt,h0,h1]
 unfold Zab
 rw [if_neg (by decide)]
 simp [Zav,Zhp,Za0,okB,Zl,hf,Zm,Zf,Zax,Za3,Za1,ZaF,Zb1,Zw,ZeX]
def Zde (d:Bool) (qos:Int) (rt:Bool) (id:Int) (topic:Zb) (x y:AVal):List AVal:=[.int .i64 3,.bool d,.int .i64 qos,.bool rt,.int .i64 id,.str topic,x,.int .i64 0,.lst true [],y,.lst true [],.lst true [],.bool false,.int .i64 0,.str [],.bool false,.str [],.lst true [],.int .i64 0,.bool false,.lst true [],.bool false,.str [],.bool false,.lst true [],.bool false]
def ZgG:List AVal:=[.int .i64 0,.bool false,.int .i64 0,.bool false,.int .i64 0,.str [],.lst true [],.int .i64 0,.lst true [],.lst true [],.lst true [],.lst true [],.bool false,.int .i64 0,.str [],.bool false,.str [],.lst true [],.int .i64 0,.bool false,.lst true [],.bool false,.str [],.bool false,.lst true [],.bool false]
theorem Ztr (ids:List Int) (hi:ids.length<=1000000) (d:Bool) (qos:Int) (rt:Bool) (id:Int) (topic:Zb) (P:List AVal) (full:List Zn):∀ (r:List Int) (i:Nat) (acc:List Zn),ids.drop i=r->acc.length+r.length<=800000000->full=acc++r.map ZbJ ->
  Zg8 0 [(51,.int .i64 i),(50,.int .i64 ids.length),(49,.lst false (ids.map (AVal.int .i64))),(10,.ref 0 0),(8,.ref 3 0)] [.var (Zde d qos rt id topic (.sl 1 0 0 P.length) (.sl 2 0 0 acc.length)),.row 0 1 P,.row 0 5 (acc.map Zg),.var ZgG] =
  some (.agg (Zde d qos rt id topic (.sl 0 0 0 P.length) (.sl 1 0 0 full.length)),[.row 0 1 P,.row 0 5 (full.map Zg)])
 | [],i,acc,h,_,hf=>by
  have h1:=Zcv h
  rw [List.map_nil,List.append_nil] at hf
  subst hf
  generalize full.map Zg=R at *
  unfold Zg8 Zde ZgG
  rw [Z2]
  simp -implicitDefEqProofs only [EQA,Nat.reduceAdd,Nat.reduceLT,Nat.reduceLeDiff,Nat.reduceEqDiff,↓reduceIte,ZyI,ZFk,ZqB,ZtD,Zkv,oI,oN,h1,ZX,AVal.cells]
  simp [Z6,gcA,Zv,Zu,Zp,ZS,Zj,Zr,ZJ,Zl,ZE,Zf,Zm,Zw,ZC]
 | x::r,i,acc,h,hn,hf=>by
  simp only [List.length_cons] at hn
  have ih:=Ztr ids hi d qos rt id topic P full r (i+1) (acc++[ZbJ x]) (Z4 h).2.1 (by rw [List.length_append];simp;omega) (by rw [hf];simp)
  have h1:(i:Int) < ids.length:=by have:=(Z4 h).2.2;omega
  have e1:=iad (Z4 h).1 (AVal.int .i64) (k:=1) rfl
  have e3:=ZcL h1 (by omega)
  have hb:(acc.length+1)*72<=140737488355328:=by omega
  simp only [List.map_append,List.map_cons,List.map_nil,List.length_append,List.length_cons,List.length_nil,Nat.zero_add,Zg,Zbd,ZbJ,ZI] at ih
  clear hf h
  generalize full.map Zg=F at *
  have hR:(acc.map Zg).length=acc.length:=List.length_map ..
  generalize acc.map Zg=R at *
  unfold Zg8 Zde ZgG at *
  rw [Z2]
  simp -implicitDefEqProofs only [EQA,ZaM,ZV,Za2,Nat.reduceAdd,Nat.reduceLT,Nat.reduceLeDiff,Nat.reduceEqDiff,Nat.reduceBEq,reduceCtorEq,ZY,↓reduceIte,gcT,gcA,Zv,Zu,Zj,Zr,ZJ,Zl,ZE,Zw,ZC,ZtD,Zkv,oI,oN,h1,e1,e3,hb,hR,Zaz,kOk,viewAs,ZP,ZL,Zas,Zq,Zaj,ZX,AVal.cells]
  exact ih
theorem ZI1 (it:Zfj) (now id:Int) (dup:Bool) (hp:it.note.payload.length<=140737488355328) (hl:it.note.props.length<=600000000) (hd:∀ p ∈ it.note.props,p.data.length<=140737488355328) (hi:it.ids.length<=1000000) :
  E 44 [.agg [.str it.note.topic,.lst false (it.note.payload.map Zc),.int .i64 it.note.qos,.bool it.note.retain,.str it.note.sender,.int .i64 it.note.expires,.lst false (it.note.props.map Zg),.int .i64 it.note.origin,.int .i64 it.note.number,.int .i64 it.note.hops,.int .i64 it.qos,.bool it.retain,.lst false (it.ids.map (.int .i64 ·)),.str it.share],.int .i64 now,.int .i64 id,.bool dup] []=some (.agg (Zde (if it.qos > 0 then dup else false) it.qos it.retain (if it.qos > 0 then id else 0) it.note.topic (.sl 0 0 0 it.note.payload.length) (.sl 1 0 0 (Zbt it now).length)),[.row 0 1 (it.note.payload.map Zc),.row 0 5 ((Zbt it now).map Zg)]):=by
 have hc:=fun σ sq=>ZA7 it.note hp (by omega) hd σ sq
 have z:((0:Nat):Int)=0:=rfl
 have key:=fun (d:Bool) (id:Int) (acc:List Zn) (ha:acc.length<=700000000)=>Ztr it.ids hi d it.qos it.retain id it.note.topic (it.note.payload.map Zc) (acc++it.ids.map ZbJ) it.ids 0 acc rfl (by omega) rfl
 rw [z] at key
 unfold Zbt ZdN
 unfold ZeX at hc
 simp only [List.length_map] at key
 by_cases hq:it.qos > 0
 ·rw [if_pos hq,if_pos hq]
  have hk:=key dup id
  by_cases he:it.note.expires=0
  ·have he':(it.note.expires != 0)=false:=by simp [he]
   rw [if_neg (by simp [he]),List.append_nil]
   have h:=hk it.note.props (by omega)
   clear hk key
   generalize it.note.payload.map Zc=P at *
   generalize it.note.props.map Zg=R at *
   generalize (it.note.props++it.ids.map ZbJ).map Zg=F at *
   generalize (it.note.props++it.ids.map ZbJ).length=N at *
   unfold Zg8 Zde ZgG at h
   unfold Zde
   rw [Zh (by rfl) ZmO]
   simp -implicitDefEqProofs only [EQA,ZaM,ZV,Za2,Nat.reduceAdd,Nat.reduceLT,Nat.reduceLeDiff,Nat.reduceEqDiff,Nat.reduceBEq,reduceCtorEq,↓reduceIte,gcT,gcA,Zv,Zu,Zj,Zr,ZJ,Zl,ZE,Zw,ZC,Zmr,Zh6,oI,oN,hc,hq,he',Zaj,ZX,AVal.cells]
   exact h
  ·have he':(it.note.expires != 0)=true:=by simp [he]
   rw [if_pos he]
   generalize hx:(if IntKind.i64.wrap (it.note.expires - now) < 0 then 0 else IntKind.i64.wrap (it.note.expires - now))=x
   have h:=hk (it.note.props++[Zcf x]) (by rw [List.length_append];simp;omega)
   clear hk key
   have hb:(it.note.props.length+1)*72<=140737488355328:=by omega
   generalize (it.note.props++[Zcf x]++it.ids.map ZbJ).length=N at *
   simp only [List.map_append,List.map_cons,List.map_nil,List.length_append,List.length_cons,List.length_nil,Nat.zero_add,Zg,Zbd,Zcf,ZI] at h
   have hR:(it.note.props.map Zg).length=it.note.props.length:=List.length_map ..
   generalize it.note.payload.map Zc=P at *
   have e:(it.note.props++[Zcf x]++it.ids.map ZbJ).map Zg=it.note.props.map Zg++[.agg [.int .i64 2,.int .i64 x,.str [],.str [],.lst false []]]++(it.ids.map ZbJ).map Zg:=by simp [Zcf,Zg,Zbd,ZI]
   rw [e]
   generalize it.note.props.map Zg=R at *
   unfold Zg8 Zde ZgG at h
   unfold Zde
   rw [Zh (by rfl) ZmO]
   simp -implicitDefEqProofs only [EQA,ZaM,ZV,Za2,Nat.reduceAdd,Nat.reduceLT,Nat.reduceLeDiff,Nat.reduceEqDiff,Nat.reduceBEq,reduceCtorEq,ZY,↓reduceIte,gcT,gcA,Zv,Zu,Zj,Zr,ZJ,Zl,ZE,Zw,ZC,Zmr,Zh6,oI,oN,hc,hq,he',hx,hb,hR,gt_iff_lt,Zaz,kOk,viewAs,ZP,ZL,Zas,Zq,Zaj,ZX,AVal.cells]
   exact h
 ·rw [if_neg hq,if_neg hq]
  have hk:=key false 0
  by_cases he:it.note.expires=0
  ·have he':(it.note.expires != 0)=false:=by simp [he]
   rw [if_neg (by simp [he]),List.append_nil]
   have h:=hk it.note.props (by omega)
   clear hk key
   generalize it.note.payload.map Zc=P at *
   generalize it.note.props.map Zg=R at *
   generalize (it.note.props++it.ids.map ZbJ).map Zg=F at *
   generalize (it.note.props++it.ids.map ZbJ).length=N at *
   unfold Zg8 Zde ZgG at h
   unfold Zde
   rw [Zh (by rfl) ZmO]
   simp -implicitDefEqProofs only [EQA,ZaM,ZV,Za2,Nat.reduceAdd,Nat.reduceLT,Nat.reduceLeDiff,Nat.reduceEqDiff,Nat.reduceBEq,reduceCtorEq,↓reduceIte,gcT,gcA,Zv,Zu,Zj,Zr,ZJ,Zl,ZE,Zw,ZC,Zmr,Zh6,oI,oN,hc,hq,he',Zaj,ZX,AVal.cells]
   exact h
  ·have he':(it.note.expires != 0)=true:=by simp [he]
   rw [if_pos he]
   generalize hx:(if IntKind.i64.wrap (it.note.expires - now) < 0 then 0 else IntKind.i64.wrap (it.note.expires - now))=x
   have h:=hk (it.note.props++[Zcf x]) (by rw [List.length_append];simp;omega)
   clear hk key
   have hb:(it.note.props.length+1)*72<=140737488355328:=by omega
   generalize (it.note.props++[Zcf x]++it.ids.map ZbJ).length=N at *
   simp only [List.map_append,List.map_cons,List.map_nil,List.length_append,List.length_cons,List.length_nil,Nat.zero_add,Zg,Zbd,Zcf,ZI] at h
   have hR:(it.note.props.map Zg).length=it.note.props.length:=List.length_map ..
   generalize it.note.payload.map Zc=P at *
   have e:(it.note.props++[Zcf x]++it.ids.map ZbJ).map Zg=it.note.props.map Zg++[.agg [.int .i64 2,.int .i64 x,.str [],.str [],.lst false []]]++(it.ids.map ZbJ).map Zg:=by simp [Zcf,Zg,Zbd,ZI]
   rw [e]
   generalize it.note.props.map Zg=R at *
   unfold Zg8 Zde ZgG at h
   unfold Zde
   rw [Zh (by rfl) ZmO]
   simp -implicitDefEqProofs only [EQA,ZaM,ZV,Za2,Nat.reduceAdd,Nat.reduceLT,Nat.reduceLeDiff,Nat.reduceEqDiff,Nat.reduceBEq,reduceCtorEq,ZY,↓reduceIte,gcT,gcA,Zv,Zu,Zj,Zr,ZJ,Zl,ZE,Zw,ZC,Zmr,Zh6,oI,oN,hc,hq,he',hx,hb,hR,gt_iff_lt,Zaz,kOk,viewAs,ZP,ZL,Zas,Zq,Zaj,ZX,AVal.cells]
   exact h
theorem ZDw (it:Zfj) (now id:Int) (dup:Bool) (hp:it.note.payload.length<=140737488355328) (hl:it.note.props.length<=600000000) (hd:∀ p ∈ it.note.props,p.data.length<=140737488355328) (hi:it.ids.length<=1000000) (σ:Za) (sq own:Nat) :
  Zo E BY σ sq 44 own true [.agg [.str it.note.topic,.lst false (it.note.payload.map Zc),.int .i64 it.note.qos,.bool it.note.retain,.str it.note.sender,.int .i64 it.note.expires,.lst false (it.note.props.map Zg),.int .i64 it.note.origin,.int .i64 it.note.number,.int .i64 it.note.hops,.int .i64 it.qos,.bool it.retain,.lst false (it.ids.map (.int .i64 ·)),.str it.share],.int .i64 now,.int .i64 id,.bool dup]=some (Zar { ZbI it now id with dup:=if it.qos > 0 then dup else false },σ,{}):=by
 rw [Zd2 (by kernel_rfl) rfl]
 simp only [List.map_cons,List.map_nil,ZM,Za9]
 rw [ZI1 it now id dup hp hl hd hi]
 have hL:(Zbt it now).length=((Zbt it now).map Zg).length:=by rw [List.length_map]
 have hP:it.note.payload.length=(it.note.payload.map Zc).length:=by rw [List.length_map]
 unfold Zab
 rw [if_pos rfl]
 have e:Zar { ZbI it now id with dup:=if it.qos > 0 then dup else false }=.agg [.int .i64 3,.bool (if it.qos > 0 then dup else false),.int .i64 it.qos,.bool it.retain,.int .i64 (if it.qos > 0 then id else 0),.str it.note.topic,.lst false (it.note.payload.map Zc),.int .i64 0,.lst false [],.lst false ((Zbt it now).map Zg),.lst false [],.lst false [],.bool false,.int .i64 0,.str [],.bool false,.str [],.lst false [],.int .i64 0,.bool false,.lst false [],.bool false,.str [],.bool false,.lst false [],.bool false]:=rfl
 rw [e,hL,hP]
 generalize (Zbt it now).map Zg=R
 generalize it.note.payload.map Zc=P
 unfold Zde
 simp [Zbs,viewR,ZP,Zas,ZL,ZY,Zq,gcA,Zv,Zu,Zp,ZS,Zf,Zm,Zr,ZC,Zav,Zbx,Zbh,ZaV,Zda]
theorem Zyy (n:ZcW) (now:Int):E 45 [.agg [.str n.topic,.lst false (n.payload.map Zc),.int .i64 n.qos,.bool n.retain,.str n.sender,.int .i64 n.expires,.lst false (n.props.map Zg),.int .i64 n.origin,.int .i64 n.number,.int .i64 n.hops],.int .i64 now] []=some (.bool (n.expires != 0 && decide (now>=n.expires)),[]):=by
 rw [Zh (by rfl) ZNs]
 simp -implicitDefEqProofs only [EQA,ZV,ZdB,ZmD,Nat.reduceLT,Nat.reduceEqDiff,Nat.reduceBEq,ZD,Zam,unG,reduceCtorEq,ite_self,↓reduceIte,ZJX,Zrr,ZJd,oI,AVal.cells]
theorem ZyW (σ:Za) (sq own:Nat) (view:Bool) (n:ZcW) (now:Int):Zo E BY σ sq 45 own view [.agg [.str n.topic,.lst false (n.payload.map Zc),.int .i64 n.qos,.bool n.retain,.str n.sender,.int .i64 n.expires,.lst false (n.props.map Zg),.int .i64 n.origin,.int .i64 n.number,.int .i64 n.hops],.int .i64 now]=some (.bool (n.expires != 0 && decide (now>=n.expires)),σ,{}) :=
 Zb8 (Zyy n now) (by kernel_rfl) (by simp -implicitDefEqProofs only [ZcI,Zbo,eq_self]) (by simp -implicitDefEqProofs only [ZcI,ZK,Zbo,eq_self]) rfl (fun _=>rfl) _ _ _ _
end
section
end
section
set_option maxRecDepth 100000
theorem ZMq:E 29 [] []=some (.bool true,[]):=ZcO.2 ⟨30,by kernel_rfl⟩
end
section
theorem ZL2 (it:Zfj):Zbs 0 (some (itO it))=some (.agg (itC it.note it.qos it.retain (.lst false (it.ids.map (AVal.int .i64))) it.share),[]):=by
 unfold itO
 cases it.ids with
 | nil =>
  simp [ZcR,ZcY,itC,Zbs,viewR,ZP,Zas,ZL,Zq,gcA,Zv,Zu,Zp,ZS,Zf,Zm,Zr]
 | cons a l =>
  simp only [List.map_cons,Zf3,Zgy]
  generalize AVal.int .i64 a::l.map (AVal.int .i64)=X
  simp [itC,Zbs,viewR,ZP,Zas,ZL,ZY,Zq,gcA,Zv,Zu,Zp,ZS,Zf,Zm,Zr]
theorem ZAd (σ:Za) (sq own:Nat) (m:Zcg) (hm:Zh1 m):Zo E BY σ sq 12 own true [.agg (mC m)]=some (.agg [.str (ZH m).note.topic,.lst false ((ZH m).note.payload.map Zc),.int .i64 (ZH m).note.qos,.bool (ZH m).note.retain,.str (ZH m).note.sender,.int .i64 (ZH m).note.expires,.lst false ((ZH m).note.props.map Zg),.int .i64 (ZH m).note.origin,.int .i64 (ZH m).note.number,.int .i64 (ZH m).note.hops,.int .i64 (ZH m).qos,.bool (ZH m).retain,.lst false ((ZH m).ids.map (.int .i64 ·)),.str (ZH m).share],σ,{}):=by
 rw [Zd2 (by kernel_rfl) rfl]
 have hn:[AVal.agg (mC m)].map ZM=[.agg (mC m)]:=rfl
 rw [hn,ZyV m hm]
 have : Zab true 0 (some (itO (ZH m)))=_:=(if_pos rfl).trans (ZL2 _)
 rw [this]
 rw [Zha _ _ _ _ rfl]
 rfl
theorem ZG8 (σ:Za) (sq own:Nat) (view:Bool):Zo E BY σ sq 29 own view []=some (.bool true,σ,{}) :=
 Zb8 ZMq (by kernel_rfl) rfl rfl rfl (fun _=>rfl) _ _ _ _
end
section
theorem ZOH (n lo hi:Int) (h0:0<=lo) (h1:lo<=hi) (h2:hi<=4611686018427387904):∃ k:Int,(lo<=k/\k<=hi)/\E 39 [.int .i64 n,.int .i64 lo,.int .i64 hi] []=some (.int .i64 k,[]):=by
 have w1:IntKind.i64.wrap (hi - lo)=hi - lo:=Za6 (by omega) (by omega)
 have w2:IntKind.i64.wrap (hi - lo+1)=hi - lo+1:=Za6 (by omega) (by omega)
 generalize hw:hi - lo+1=w at w2
 have hz:(w=0)=False:=by simp;omega
 have hb:-w < n.tmod w/\n.tmod w < w:=⟨Int.lt_tmod_of_pos n (by omega),Int.tmod_lt_of_pos n (by omega)⟩
 by_cases h:n.tmod w < 0
 ·refine ⟨lo+(n.tmod w+w),by omega,?_⟩
  have w3:IntKind.i64.wrap (n.tmod w+w)=n.tmod w+w:=Za6 (by omega) (by omega)
  have w4:IntKind.i64.wrap (lo+(n.tmod w+w))=lo+(n.tmod w+w):=Za6 (by omega) (by omega)
  rw [Zh (by rfl) ZrB]
  simp -implicitDefEqProofs only [EQA,Za2,Nat.reduceAdd,Nat.reduceLT,Nat.reduceEqDiff,reduceCtorEq,↓reduceIte,Zl5,Zhu,ZlA,oI,w1,hw,w2,w3,w4,hz,h]
 ·refine ⟨lo+n.tmod w,by omega,?_⟩
  have w4:IntKind.i64.wrap (lo+n.tmod w)=lo+n.tmod w:=Za6 (by omega) (by omega)
  rw [Zh (by rfl) ZrB]
  simp -implicitDefEqProofs only [EQA,Za2,Nat.reduceAdd,Nat.reduceLT,Nat.reduceEqDiff,reduceCtorEq,↓reduceIte,Zl5,Zhu,ZlA,oI,w1,hw,w2,w4,hz,h]
theorem Zvf (n lo hi:Int) (h0:0<=lo) (h1:lo<=hi) (h2:hi<=4611686018427387904):∃ k:Int,(lo<=k/\k<=hi)/\∀ (σ:Za) (sq own:Nat) (view:Bool),Zo E BY σ sq 39 own view [.int .i64 n,.int .i64 lo,.int .i64 hi]=some (.int .i64 k,σ,{}):=by
 obtain ⟨k,hk,h⟩:=ZOH n lo hi h0 h1 h2
 exact ⟨k,hk,fun σ sq own view=>Zb8 h (by kernel_rfl) rfl rfl rfl (fun _=>rfl) _ _ _ _⟩
def Zee:List Zn->Int->Int
 | [],x=>x
 | p::r,x=>Zee r (if p.id=2 then p.num else x)
theorem Zn8:∀ (a b:List Zn) (x:Int),Zee (a++b) x=Zee b (Zee a x)
 | [],_,_=>rfl
 | p::a,b,x=>Zn8 a b _
theorem ZpI:∀ (a:List Zn) (x:Int),(∀ p ∈ a,p.id≠2)->Zee a x=x
 | [],_,_=>rfl
 | p::a,x,h=>by
  rw [Zee,if_neg (h p (by simp))]
  exact ZpI a x fun q hq=>h q (by simp [hq])
theorem ZI4 (m:Zcg) (now:Int):Zee (Zbt (ZH m) now) (-1)=if (ZH m).note.expires≠0 then (if IntKind.i64.wrap ((ZH m).note.expires - now) < 0 then 0 else IntKind.i64.wrap ((ZH m).note.expires - now)) else -1:=by
 unfold Zbt
 rw [Zn8,Zn8,ZpI (ZH m).note.props (-1) (fun p hp e=>by
  have:=(Zdz m.p p hp).2.2.2
  rw [e] at this
  exact absurd this (by decide)),ZpI ((ZH m).ids.map ZbJ) _ (fun p hp=>by
  obtain ⟨x,_,rfl⟩:=List.mem_map.1 hp
  exact (by decide:(11:Int)≠2))]
 unfold ZdN
 split
 ·simp [Zee,Zcf]
 ·rfl
def Zpo:=fun m tm σ=>(congrArg (fun c=>evC FC PR1 BY m c tm σ) (show ZoP=ZiK from rfl))
def ZnO:=fun m tm σ=>(congrArg (fun c=>evC FC PR1 BY m c tm σ) (show Zul=ZjV from rfl))
theorem ZuU (A I:List AVal) (hA1:Zp A=[]) (hA2:∀ ρ,Zf ρ A=A) (hI1:Zp I=[]) (hI2:∀ ρ,Zf ρ I=I) (props:List Zn) (h9:A[9]?=some (.lst false (props.map Zg))) (hl:props.length<=1000000) (now:Int):∀ (r:List Zn) (i:Nat) (x:Int),props.drop i=r->i<=props.length ->
  evL FC PR1 BY 0 [13,12,9,8,7] ZoP [(13,.int .i64 i),(12,.int .i64 x),(9,.ref 0 0),(8,.int .i64 now),(7,.ref 1 0)] [.var A,.var I] =
   some (.exit 0,[(55,.bool false),(13,.int .i64 props.length),(12,.int .i64 (Zee r x)),(9,.ref 0 0),(8,.int .i64 now),(7,.ref 1 0)],[.var A,.var I])
 | [],i,x,h,hi=>by
  have h1:=Zcv h
  have h2:i=props.length:=by
   have:=congrArg List.length h
   rw [List.length_drop,List.length_nil] at this
   omega
  subst h2
  unfold Zee
  rw [Z2]
  simp -implicitDefEqProofs only [EQA,Nat.reduceAdd,Nat.reduceLT,Nat.reduceEqDiff,↓reduceIte,ZiK,oI,Zpo,h1,h9]
 | p::r,i,x,h,hi=>by
  have h1:(i:Int) < props.length:=by have:=(Z4 h).2.2;omega
  have ih:=fun x=>ZuU A I hA1 hA2 hI1 hI2 props h9 hl now r (i+1) x (Z4 h).2.1 (by omega)
  have e1:=iad (Z4 h).1 Zg (k:=5) rfl
  have e3:=ZcL h1 (by omega)
  unfold Zee
  by_cases hp:p.id=2
  ·have hp':(p.id == 2)=true:=by simp [hp]
   rw [if_pos hp]
   have ih:=ih p.num
   rw [Z2]
   simp -implicitDefEqProofs only [EQA,ZV,Za2,Nat.reduceAdd,Nat.reduceLT,Nat.reduceEqDiff,Nat.reduceBEq,reduceCtorEq,↓reduceIte,gcT,gcA,Zv,Zu,Zj,Zr,ZJ,Zl,ZE,Zw,ZC,ZiK,oI,ZI,Zg,Zbd,Zpo,h1,h9,e1,e3,hp',hA1,hA2,hI1,hI2,AVal.cells]
   exact ih
  ·have hp':(p.id == 2)=false:=by simp [hp]
   rw [if_neg hp]
   have ih:=ih x
   rw [Z2]
   simp -implicitDefEqProofs only [EQA,ZV,Za2,Nat.reduceAdd,Nat.reduceLT,Nat.reduceEqDiff,Nat.reduceBEq,reduceCtorEq,↓reduceIte,gcT,gcA,Zv,Zu,Zj,Zr,ZJ,Zl,ZE,Zw,ZC,ZiK,oI,ZI,Zg,Zbd,Zpo,h1,h9,e1,e3,hp',hA1,hA2,hI1,hI2,AVal.cells]
   exact ih
theorem ZN5 (it:Zfj) (now id:Int):{ ZbI it now id with dup:=if it.qos > 0 then false else false }=ZbI it now id:=by
 have : (if it.qos > 0 then false else false)=false:=by split <;> rfl
 rw [this];rfl
theorem ZEi (m:Zcg) (now id:Int):OkW (ZbI (ZH m) now id):=by
 have hN:=ZkJ m
 have hT:(ZH m).note.topic.length<=65535:=hN.topic.2
 have hP:(ZH m).note.payload.length<=65535:=hN.payload
 have hp:(Zbt (ZH m) now).length<=12/\∀ q ∈ Zbt (ZH m) now,ZdO q:=by
  refine ⟨?_,fun q hq=>?_⟩
  ·have a:=Zie m.p
   have b:(ZdN (ZH m).note.expires now).length<=1:=by unfold ZdN;split <;> simp
   have c:(ZH m).ids.length<=4:=by simp only [ZH,List.length_map,List.length_take];omega
   have d:(ZH m).note.props.length<=7:=a
   unfold Zbt
   simp only [List.length_append,List.length_map]
   omega
  ·unfold Zbt at hq
   simp only [List.mem_append,List.mem_map] at hq
   rcases hq with (h | h) | ⟨x,_,rfl⟩
   ·have:=Zdz m.p q h
    exact ⟨by omega,by omega,by omega⟩
   ·unfold ZdN at h
    split at h
    ·rw [List.mem_singleton] at h;subst h;simp [ZdO,Zcf]
    ·simp at h
   ·simp [ZdO,ZbJ]
 unfold ZbI Zds
 constructor
 all_goals simp [ZaH]
 all_goals first
  | omega
  | (exact ⟨by omega,hp.2⟩)
theorem Zxe (m:Zcg) (hm:Zh1 m) (wait id0:Int):E1 11 [.agg (mC m),.int .i64 wait,.int .i64 id0] []=some (.bool true,[]):=by
 obtain ⟨id,hid,qi⟩:=Zvf id0 1 65535 (by decide) (by decide) (by decide)
 obtain ⟨now,hnow,qn⟩:=Zvf wait 1 131072 (by decide) (by decide) (by decide)
 have ok:=ZHi m
 have hM:=fun σ sq own=>ZbA (ZAd σ sq own m hm)
 have hI:=fun σ sq own view=>ZbA (qi σ sq own view)
 have hNo:=fun σ sq own view=>ZbA (qn σ sq own view)
 have hO:=fun σ sq own=>ZbA (ZDw (ZH m) now id false (Nat.le_trans (show (ZH m).note.payload.length<=65535 from (ZkJ m).payload) (by decide)) (Nat.le_trans (show (ZH m).note.props.length<=7 from Zie m.p) (by decide)) (fun p hp=>by have:=(Zdz m.p p hp);omega) (by have:=ok.ids;omega) σ sq own)
 have hD:=fun σ sq own view=>ZbA (ZyW σ sq own view (ZH m).note now)
 have hW:=fun σ sq own view=>ZbA (ZG8 σ sq own view)
 have hg:=ZDR m now id hnow hid
 have hw:=ZEi m now id
 have hpay:(ZbI (ZH m) now id).payload.length<=1000000:=by
  have : (ZH m).note.payload.length<=65535:=(ZkJ m).payload
  exact Nat.le_trans this (by decide)
 have hL:=ZAv (ZbI (ZH m) now id) hw hpay hg [.agg (ZA (ZbI (ZH m) now id))] (ZmU _ hw hpay _).1 (ZmU _ hw hpay _).2
 rw [ZN5,ZbD] at hO
 have hlast:=ZI4 m now
 have hlen:(Zbt (ZH m) now).length<=1000000:=by
  have:=hw.props.1
  have e:(ZbI (ZH m) now id).props=Zbt (ZH m) now:=rfl
  rw [e] at this
  have a:=Zie m.p
  have b:(ZdN (ZH m).note.expires now).length<=1:=by unfold ZdN;split <;> simp
  have c:(ZH m).ids.length<=4:=by simp only [ZH,List.length_map,List.length_take];omega
  have d:(ZH m).note.props.length<=7:=a
  unfold Zbt
  simp only [List.length_append,List.length_map]
  omega
 have hloop:=fun I hI1 hI2=>ZuU (ZA (ZbI (ZH m) now id)) I (ZkR _) (ZjH _) hI1 hI2 (Zbt (ZH m) now) rfl hlen now (Zbt (ZH m) now) 0 (-1) rfl (Nat.zero_le _)
 have z:((0:Nat):Int)=0:=rfl
 rw [z] at hloop
 have hpos:(((ZiU (ZbI (ZH m) now id)).length:Int) == 0)=false:=by
  have : 0 < (ZiU (ZbI (ZH m) now id)).length:=by unfold ZiU ZlS;simp
  simp only [beq_eq_false_iff_ne,ne_eq];omega
 have c2:(ZA (ZbI (ZH m) now id))[2]?=some (.int .i64 (ZH m).qos):=rfl
 have c5:(ZA (ZbI (ZH m) now id))[5]?=some (.str (ZH m).note.topic):=rfl
 have a0:=Zb9 (ZbI (ZH m) now id)
 have a1:=Zc3 (ZbI (ZH m) now id)
 have ao:(ZA (ZbI (ZH m) now id)).all ZX=true:=rfl
 have ar:=ZkR (ZbI (ZH m) now id)
 have an:=ZjH (ZbI (ZH m) now id)
 have he:0<=(ZH m).note.expires/\(ZH m).note.expires<=65535:=by
  have a1:0<=ZbF m.life 65535/\ZbF m.life 65535<=65535:=ZgV m.life 65535 (by decide)
  show 0<=(if m.life > 0 then ZbF m.life 65535 else 0)/\(if m.life > 0 then ZbF m.life 65535 else 0)<=65535
  split <;> omega
 have hwr:IntKind.i64.wrap ((ZH m).note.expires - now)=(ZH m).note.expires - now:=Za6 (by omega) (by omega)
 rw [hwr] at hlast
 unfold mC at hM ⊢
 clear hg hw hpay ok hlen
 generalize ZiU (ZbI (ZH m) now id)=lay at *
 generalize ZA (ZbI (ZH m) now id)=A at *
 generalize (Zbt (ZH m) now)=ps at *
 generalize ZH m=it at *
 generalize hE:it.note.expires=e at *
 by_cases e0:e=0
 ·subst e0
  rw [if_neg (by simp)] at hlast
  rw [hlast] at hloop
  rw [Zbr (by rfl) Zo7]
  simp -implicitDefEqProofs only [EQA,ZV,Za2,implies_true,Nat.reduceAdd,Nat.reduceLT,Nat.reduceLeDiff,Nat.reduceEqDiff,Nat.reduceBEq,Zcn,unA,ZD,unG,reduceCtorEq,↓reduceIte,gcT,gcA,Zv,Zu,Zj,Zr,ZJ,Zl,ZE,Zw,ZC,Zqo,ZiT,Zou,ZjV,oI,oN,ZnO,hM,hI,hNo,hO,hD,hW,hL,hloop,hpos,c2,c5,a0,a1,ao,ar,an,bne_self_eq_false,ZX,AVal.cells]
 ·rw [if_pos e0] at hlast
  have f1:(e == 0)=false:=by simp [e0]
  have f2:(e != 0)=true:=by simp [e0]
  by_cases hd:now>=e
  ·have hx:(if e - now < 0 then 0 else e - now)=0:=by split <;> omega
   rw [hx] at hlast
   rw [hlast] at hloop
   rw [Zbr (by rfl) Zo7]
   simp -implicitDefEqProofs only [EQA,ZV,Za2,implies_true,Nat.reduceAdd,Nat.reduceLT,Nat.reduceLeDiff,Nat.reduceEqDiff,Nat.reduceBEq,Zcn,ZD,unG,reduceCtorEq,↓reduceIte,gcT,gcA,Zv,Zu,Zj,Zr,ZJ,Zl,ZE,Zw,ZC,Zqo,ZiT,Zou,ZjV,oI,oN,ZnO,hM,hI,hNo,hO,hD,hW,hL,hloop,hpos,c2,c5,a0,a1,ao,ar,an,f1,f2,hd,bne_self_eq_false,ZX,AVal.cells]
  ·have hx:(if e - now < 0 then 0 else e - now)=e - now:=if_neg (by omega)
   rw [hx] at hlast
   rw [hlast] at hloop
   have hp:e - now > 0:=by omega
   rw [Zbr (by rfl) Zo7]
   simp -implicitDefEqProofs only [EQA,ZV,Za2,implies_true,Nat.reduceAdd,Nat.reduceLT,Nat.reduceLeDiff,Nat.reduceEqDiff,Nat.reduceBEq,Zcn,ZD,unG,reduceCtorEq,↓reduceIte,gcT,gcA,Zv,Zu,Zj,Zr,ZJ,Zl,ZE,Zw,ZC,Zqo,ZiT,Zou,ZjV,oI,oN,ZnO,hM,hI,hNo,hO,hD,hW,hL,hloop,hpos,c2,c5,a0,a1,ao,ar,an,f1,f2,hd,hwr,hp,bne_self_eq_false,ZX,AVal.cells]
end
section
open Go.RowKit
theorem Zww {α:Type} {T:Ty} {s:Bool} {f:α->AVal} (h:∀ y,TyC T y->∃ a,Zcl s y=f a) {xs:List AVal} (hx:TyC (.slice s T) xs):∃ l:List α,xs=[.lst false (l.map f)]/\l.length<=9223372036854775807:=by
 simp only [TyC] at hx
 obtain ⟨ys,rfl,h1,h2⟩:=hx
 have : ∀ ys:List (List AVal),(∀ y ∈ ys,TyC T y)->∃ l:List α,ys.map (Zcl s)=l.map f:=by
  intro ys
  induction ys with
  | nil=>intro _;exact ⟨[],rfl⟩
  | cons y ys ih =>
   intro hy
   obtain ⟨a,ha⟩:=h y (hy y (by simp))
   obtain ⟨l,hl⟩:=ih fun y' h'=>hy y' (by simp [h'])
   exact ⟨a::l,by simp [ha,hl]⟩
 obtain ⟨l,hl⟩:=this ys h2
 refine ⟨l,by rw [hl],?_⟩
 have:=congrArg List.length hl
 simp only [List.length_map] at this
 omega
theorem ZLP {y:List AVal} (h:TyC (.int .u8) y):∃ b,Zcl false y=Zc b:=by
 simp only [TyC] at h
 obtain ⟨n,hw,rfl⟩:=h
 have h1:0<=n/\n<=255:=by
  simp only [Lit.wf,Bool.and_eq_true,decide_eq_true_eq] at hw
  exact hw
 refine ⟨UInt8.ofNat n.toNat,?_⟩
 simp only [Zcl,Bool.false_eq_true,if_false,List.headD_cons,Zc,AVal.int.injEq,true_and]
 rw [UInt8.toNat_ofNat']
 omega
theorem Zg2 {xs:List AVal} (h:TyC (.slice false (.int .u8)) xs):∃ b:Zb,xs=[ZI b]/\b.length<=9223372036854775807:=Zww (fun _=>ZLP) h
theorem ZJI {xs:List AVal} (h:TyC (.slice false (.int .i64)) xs):∃ b:List Int,xs=[ZJg b]/\b.length<=9223372036854775807:=Zww (fun y hy=>by
 simp only [TyC] at hy
 obtain ⟨n,_,rfl⟩:=hy
 exact ⟨n,rfl⟩) h
def ZH7:Ty:=.struct [.int .i64,.int .i64,.str,.str,.slice false (.int .u8)]
def ZPl:Ty:=.struct [.str,.slice false (.int .u8),.int .i64,.bool,.str,.int .i64,.slice true ZH7,.int .i64,.int .i64,.int .i64]
def ZzA:Ty:=.struct [ZPl,.int .i64,.bool,.slice false (.int .i64),.str]
example:Zdg Tryd.prog 8 32=some ZzA:=by kernel_rfl
example:Zdn (Tryd.prog.underlying 32)=true:=by kernel_rfl
end
section
open Go.RowKit
def ZnQ:Ty:=.struct [.slice false (.int .u8),.slice false (.int .u8),.slice false (.int .u8),.slice false (.int .u8),.int .i64,.int .i64,.bool,.bool,.int .i64,.struct [.int .i64,.slice false (.int .u8),.slice false (.int .u8),.slice false (.int .u8)],.slice false (.int .i64),.int .i64,.int .i64]
theorem ZBy {x:AVal} (h:ZqG true ZnQ x):∃ m,Zh1 m/\x=.agg (mC m):=by
 obtain ⟨y,h,rfl⟩:=h
 unfold ZnQ at h
 rw [TyC] at h
 simp only [ZgS] at h
 obtain ⟨_,_,rfl,h1,_,_,rfl,h2,_,_,rfl,h3,_,_,rfl,h4,_,_,rfl,h5,_,_,rfl,h6,_,_,rfl,h7,_,_,rfl,h8,_,_,rfl,h9,_,_,rfl,h10,_,_,rfl,h11,_,_,rfl,h12,_,_,rfl,h13,rfl⟩:=h
 rw [TyC] at h10
 simp only [ZgS] at h10
 obtain ⟨_,_,rfl,g1,_,_,rfl,g2,_,_,rfl,g3,_,_,rfl,g4,rfl⟩:=h10
 obtain ⟨b1,rfl,l1⟩:=Zg2 h1
 obtain ⟨b2,rfl,l2⟩:=Zg2 h2
 obtain ⟨b3,rfl,l3⟩:=Zg2 h3
 obtain ⟨b4,rfl,l4⟩:=Zg2 h4
 obtain ⟨c2,rfl,m2⟩:=Zg2 g2
 obtain ⟨c3,rfl,m3⟩:=Zg2 g3
 obtain ⟨c4,rfl,m4⟩:=Zg2 g4
 obtain ⟨is,rfl,li⟩:=ZJI h11
 simp only [TyC] at h5 h6 h7 h8 h9 h12 h13 g1
 obtain ⟨a5,_,rfl⟩:=h5
 obtain ⟨a6,_,rfl⟩:=h6
 obtain ⟨a7,rfl⟩:=h7
 obtain ⟨a8,rfl⟩:=h8
 obtain ⟨a9,_,rfl⟩:=h9
 obtain ⟨a12,_,rfl⟩:=h12
 obtain ⟨a13,_,rfl⟩:=h13
 obtain ⟨f1,_,rfl⟩:=g1
 exact ⟨⟨b1,b2,b3,b4,a5,a6,a7,a8,a9,⟨f1,c2,c3,c4⟩,is,a12,a13⟩,⟨l1,l2,l3,m2,m4,li⟩,rfl⟩
end
section
open Go.RowKit Go.Shelf Go.Lib
theorem ZBa {W:World} (h:Lib.Utf8Tabs 0 1 W):Gl.le (Imm.of W):=by
 intro b o u hu
 unfold Gl at hu
 unfold Imm.of
 split at hu
 ·rename_i e;subst e
  split at hu
  ·rename_i ho
   rw [h.1 o ho,<-hu]
  ·cases hu
 ·split at hu
  ·rename_i e;subst e
   split at hu
   ·rename_i ho
    rw [<-hu]
    obtain ⟨h1,h2⟩:=h.2 (o / 2) (by omega)
    by_cases hp:o % 2=0
    ·rw [if_pos hp,<-h1];congr 2;omega
    ·rw [if_neg hp,<-h2];congr 2;omega
   ·cases hu
  ·cases hu
theorem ZuN {x:AVal} (h:ZqG false (.int .i64) x):∃ n:Int,(-9223372036854775808<=n/\n<=9223372036854775807)/\x=.int .i64 n:=by
 obtain ⟨y,h,rfl⟩:=h
 simp only [TyC] at h
 obtain ⟨n,hw,rfl⟩:=h
 refine ⟨n,?_,rfl⟩
 simp only [Lit.wf,Bool.and_eq_true,decide_eq_true_eq] at hw
 exact hw
section
open Go.RowKit
variable {H:Type} {enc:TypeId×Value->H} {P:Program} {w:World} {spare:Nat->Bool} {held:Bool}
end
end
section
open Go.Shelf Go.RowKit
section
variable {P:Program} {ρ:Ren}
theorem Zko (W:World) (dT sT ty elem:TypeId) (g o dLen dCap:Nat) (A:Option Addr) (sLen sCap:Nat) (cur:Array Value) (t:TypeId) (cs:List Value)
  (hu:P.underlying dT=some (.slice elem)) (hs:(P.info? elem).map (·.size)=some 1) (hg:W.heap[g]?=some (.cells cur t (0,0))) (hn:cs.length=sLen) (hd:sLen<=dLen)
  (hsrc:sLen=0\/∃ a,A=some a/\∀ j v,cs[j]?=some v->W.cell? (a.add j)=some v) (hfit:o+cs.length<=cur.size) (h1:∀ v ∈ cs,v.oneCell'=true) :
  ∃ W2 Y,(Builtin.copy_ #[dT,sT] ty #[.slice (some ⟨g,o,none⟩) dLen dCap,.slice A sLen sCap]).run P W=.ok (goInt sLen) W2/\W2.heap[g]?=some (.cells Y t (0,0)) /\
   Y.toList=cur.toList.take o++cs++cur.toList.drop (o+sLen)/\W.grownBy W2 (some g)/\W2.heap.size=W.heap.size:=by
 rcases hsrc with h0 | ⟨a,rfl,hsrc⟩
 ·have hc:cs=[]:=List.eq_nil_of_length_eq_zero (by omega)
  subst hc
  subst h0
  exact ⟨W,cur,run_copy_none W dT sT ty elem _ _ _ _ _ _ hu hs (by simp),hg,by simp,⟨rfl,rfl,rfl,Nat.le_refl _,fun _ _ _=>rfl⟩,rfl⟩
 ·have h:=run_copy_row (P:=P) W dT sT ty elem g o dLen dCap a sLen sCap cur t cs hu hs hg (by rw [hn];exact (Nat.min_eq_left hd).symm) hsrc hfit h1
  rw [hn] at h
  refine ⟨_,_,h,setRow_heap _ _ _ _ _ _ hg,by simp,⟨rfl,rfl,rfl,by simp,fun k _ hk=>setRow_other _ _ _ _ (fun e=>hk (by rw [e]))⟩,by simp⟩
set_option maxRecDepth 100000 in
theorem ZqP (L:LaysM.n290 P ρ) (A:Option Addr) (l c n:Nat) (olds:List Value) (w:World) (ho:olds.length=l) (hlc:l<=c) (hn:1<=n)
  (hlim:l+n<=140737488355328) (hc2:c<=140737488355328) (hsrc:l=0\/∃ a,A=some a/\∀ j v,olds[j]?=some v->w.cell? (a.add j)=some v) (h1:∀ v ∈ olds,v.oneCell'=true) :
  Calls P (ρ.f 290) #[.slice A l c,.int .i64 n] w fun e w'=>∃ cap2 cells,e=.returned (.slice (some ⟨w.heap.size,0,none⟩) l cap2)/\w'.heap[w.heap.size]?=some (.cells cells (ρ.t 5) (0,0)) /\
   cells.size=cap2/\cells.toList.take l=olds/\l+n<=cap2/\cap2<=maxLen/\Below w.heap.size w w':=by
 have mixed:=L.mixed
 have t5:=L.t5;have a5:=L.a5;have z5:=L.z5;have v5:=L.v5
 have t37:=L.t37;have a37:=L.a37;have z37:=L.z37;have v37:=L.v37
 have t3:=L.t3;have a3:=L.a3;have z3:=L.z3;have v3:=L.v3
 have t0:=L.t0;have a0:=L.a0;have z0:=L.z0;have v0:=L.v0
 have t4:=L.t4;have a4:=L.a4;have z4:=L.z4;have v4:=L.v4
 obtain ⟨i0,hi,hz0,hz1,hz2⟩:=info_parts L.i5
 have hsz1:(P.info? (ρ.t 5)).map (·.size)=some 1:=by rw [hi];simp [hz1]
 by_cases hC:l+n < 2*c
 ·have happ:=Lib.run_append_nil_zeros (P:=P) w (ρ.t 37) (ρ.t 3) (ρ.t 37) (ρ.t 5) i0 (.int .u8 0) .i64 .i64 L.t37 L.t3 hi hz0 (2*c) (by omega) (by omega) (by omega) (by rw [hz2];omega)
  rw [show (((2*c:Nat)):Int)=2*(c:Int) by omega] at happ
  generalize hcap:grownCap w (2*c) 0 (ρ.t 5)=cap2 at happ
  have hcapge:2*c<=cap2:=by rw [<-hcap];exact grownCap_ge w _ 0 (ρ.t 5)
  have hcaple:cap2<=maxLen:=by rw [<-hcap];exact grownCap_le_maxLen w _ 0 (ρ.t 5) (by unfold maxLen;omega)
  generalize hZ:(Builtin.zeroCells (Value.int .u8 0).cells (2*c)++Builtin.zeroCells (Value.int .u8 0).cells (cap2 - (2*c)))=Z at happ
  have hZs:Z.size=cap2:=by rw [<-hZ];simp [size_zeroCells,Value.cells];omega
  clear hcap hZ
  have hsrc1:l=0\/∃ a,A=some a/\∀ j v,olds[j]?=some v->(w.alloc (.cells Z (ρ.t 5))).drew.cell? (a.add j)=some v:=hsrc.imp id fun ⟨a,e,h⟩=>⟨a,e,fun j v hj=>(World.cell?_of_block (a:=a.add j) (Below.heap_alloc w _ _ (World.block_lt_of_cell? w _ (h j v hj)))).trans (h j v hj)⟩
  obtain ⟨W2,Y,hcopy,hY,hYl,hgb,hsz⟩:=Zko (P:=P) (w.alloc (.cells Z (ρ.t 5))).drew (ρ.t 37) (ρ.t 37) (ρ.t 3) (ρ.t 5) w.heap.size 0 (2*c) cap2 A l c Z (ρ.t 5) olds L.t37 hsz1 (heap_alloc_new w _) ho (by omega) hsrc1 (by omega) h1
  go_enter_defers L.f290,Body.n290_ntmps ρ
  go_wp2_with (at_builtin;refine Lib.wpList_append_run _ rfl _ _ _ _ rfl _ _ rfl rfl _ _ happ ?_)
  refine leaves_cons (f:=(ρ.f 324)) (args:=#[]) (by simp) (enters_of L.f324 (by kernel_rfl) rfl _ _) ?_
  refine (Any.growSlice_catch_idle { L with } _).mono ?_
  rintro e u' w'' ⟨rfl,rfl,rfl⟩
  refine ⟨_,results_tmp rfl _ _ _,?_⟩
  refine ⟨cap2,Y,rfl,hY,?_,?_,by omega,hcaple,?_⟩
  ·have h3:=congrArg List.length hYl
   simp only [List.length_append,List.length_drop,List.take_zero,List.length_nil,Array.length_toList] at h3
   omega
  ·rw [hYl,List.take_zero,List.nil_append,List.take_append_of_le_length (by omega),List.take_of_length_le (by omega)]
  ·have hs1:(w.alloc (.cells Z (ρ.t 5))).drew.heap.size=w.heap.size+1:=by show (w.alloc (.cells Z (ρ.t 5))).heap.size=_;simp
   exact ⟨hgb.os,hgb.tape,hgb.output,by omega,fun k hk=>(hgb.block k (by omega) (fun e=>by injection e with e;omega)).trans (Below.heap_alloc w _ k hk)⟩
 ·have happ:=Lib.run_append_nil_zeros (P:=P) w (ρ.t 37) (ρ.t 3) (ρ.t 37) (ρ.t 5) i0 (.int .u8 0) .i64 .i64 L.t37 L.t3 hi hz0 (l+n) (by omega) (by omega) (by omega) (by rw [hz2];omega)
  rw [show (((l+n:Nat)):Int)=(l:Int)+(n:Int) by omega] at happ
  generalize hcap:grownCap w (l+n) 0 (ρ.t 5)=cap2 at happ
  have hcapge:l+n<=cap2:=by rw [<-hcap];exact grownCap_ge w _ 0 (ρ.t 5)
  have hcaple:cap2<=maxLen:=by rw [<-hcap];exact grownCap_le_maxLen w _ 0 (ρ.t 5) (by unfold maxLen;omega)
  generalize hZ:(Builtin.zeroCells (Value.int .u8 0).cells (l+n)++Builtin.zeroCells (Value.int .u8 0).cells (cap2 - (l+n)))=Z at happ
  have hZs:Z.size=cap2:=by rw [<-hZ];simp [size_zeroCells,Value.cells];omega
  clear hcap hZ
  have hsrc1:l=0\/∃ a,A=some a/\∀ j v,olds[j]?=some v->(w.alloc (.cells Z (ρ.t 5))).drew.cell? (a.add j)=some v:=hsrc.imp id fun ⟨a,e,h⟩=>⟨a,e,fun j v hj=>(World.cell?_of_block (a:=a.add j) (Below.heap_alloc w _ _ (World.block_lt_of_cell? w _ (h j v hj)))).trans (h j v hj)⟩
  obtain ⟨W2,Y,hcopy,hY,hYl,hgb,hsz⟩:=Zko (P:=P) (w.alloc (.cells Z (ρ.t 5))).drew (ρ.t 37) (ρ.t 37) (ρ.t 3) (ρ.t 5) w.heap.size 0 (l+n) cap2 A l c Z (ρ.t 5) olds L.t37 hsz1 (heap_alloc_new w _) ho (by omega) hsrc1 (by omega) h1
  go_enter_defers L.f290,Body.n290_ntmps ρ
  go_wp2_with (at_builtin;refine Lib.wpList_append_run _ rfl _ _ _ _ rfl _ _ rfl rfl _ _ happ ?_)
  refine leaves_cons (f:=(ρ.f 324)) (args:=#[]) (by simp) (enters_of L.f324 (by kernel_rfl) rfl _ _) ?_
  refine (Any.growSlice_catch_idle { L with } _).mono ?_
  rintro e u' w'' ⟨rfl,rfl,rfl⟩
  refine ⟨_,results_tmp rfl _ _ _,?_⟩
  refine ⟨cap2,Y,rfl,hY,?_,?_,by omega,hcaple,?_⟩
  ·have h3:=congrArg List.length hYl
   simp only [List.length_append,List.length_drop,List.take_zero,List.length_nil,Array.length_toList] at h3
   omega
  ·rw [hYl,List.take_zero,List.nil_append,List.take_append_of_le_length (by omega),List.take_of_length_le (by omega)]
  ·have hs1:(w.alloc (.cells Z (ρ.t 5))).drew.heap.size=w.heap.size+1:=by show (w.alloc (.cells Z (ρ.t 5))).heap.size=_;simp
   exact ⟨hgb.os,hgb.tape,hgb.output,by omega,fun k hk=>(hgb.block k (by omega) (fun e=>by injection e with e;omega)).trans (Below.heap_alloc w _ k hk)⟩
set_option maxRecDepth 100000 in
theorem Zlr (L:LaysM.n181 P ρ) (b:Nat) (ao:Option Addr) (l cap:Nat) (w:World) (c0:w.cell? ⟨b,0,none⟩=some (.slice ao l cap)) (c1:w.cell? ⟨b,1,none⟩=some (.int .i64 0)) (hmax:l<=maxLen) :
  Calls P (ρ.f 181) #[.pointer (some ⟨b,0,none⟩)] w fun e w'=>e=.returned (.int .i64 l)/\∃ n,w'=w.drewN n:=by
 have mixed:=L.mixed
 have t5:=L.t5;have a5:=L.a5;have z5:=L.z5;have v5:=L.v5
 have t130:=L.t130;have a130:=L.a130;have z130:=L.z130;have v130:=L.v130
 have t3:=L.t3;have a3:=L.a3;have z3:=L.z3;have v3:=L.v3
 have t0:=L.t0;have a0:=L.a0;have z0:=L.z0;have v0:=L.v0
 have t93:=L.t93;have u93:=run_underlying L.t93;have a93:=L.a93;have z93:=L.z93;have v93:=L.v93
 have t37:=L.t37;have a37:=L.a37;have z37:=L.z37;have v37:=L.v37
 unfold maxLen at hmax
 go_enter L.f181,Body.n181_ntmps ρ
 go_wp2
 go_region_o
 all_goals (go_wp2;go_ret;exact ⟨by simp,1,rfl⟩)
def ZjL (w:World) (T:TypeId) (R:Nat->Option Value) (b l n:Nat) (olds:List Value) (lr:Int) (e:TypeId) (w':World):Prop :=
 ∃ cap2 cells,LibA.Three w' b 0 T R (.slice (some ⟨w.heap.size,0,none⟩) (l+n) cap2) (.int .i64 0) (.int .i8 lr)/\w'.heap[w.heap.size]?=some (.cells cells e (0,0)) /\
  cells.size=cap2/\cells.toList.take l=olds/\l+n<=cap2/\cap2<=maxLen/\w.grownBy w' (some b)
theorem Znp {w:World} {b:Nat} {T:TypeId} {R:Nat->Option Value} {x y z:Value} (h:LibA.Three w b 0 T R x y z) (v1 s:Value) :
  LibA.Three (((w.setCell ⟨b,0,none⟩ v1).setCell ⟨b,1,none⟩ (.int .i64 0)).setCell ⟨b,0,none⟩ s) b 0 T R s (.int .i64 0) z:=((h.set0 v1).set1 (.int .i64 0)).set0 s
end
end
section
open Go.Shelf Go.RowKit
section
variable {P:Program} {ρ:Ren}
set_option maxRecDepth 100000 in
theorem ZxX (L:LaysM.n252 P ρ) (T:TypeId) (R:Nat->Option Value) (b:Nat)  (n:Nat) (lr:Int) (w:World)
  (hbk:LibA.Three w b 0 T R (.slice none 0 0) (.int .i64 0) (.int .i8 lr)) (hn:1<=n) (h64:n<=64) :
  Calls P (ρ.f 252) #[.pointer (some ⟨b,0,none⟩),.int .i64 n] w fun e w'=>e=.returned (.int .i64 0)/\ZjL w T R b 0 n [] lr (ρ.t 5) w':=by
 have mixed:=L.mixed
 have t5:=L.t5;have a5:=L.a5;have z5:=L.z5;have v5:=L.v5
 have t130:=L.t130;have a130:=L.a130;have z130:=L.z130;have v130:=L.v130
 have t3:=L.t3;have a3:=L.a3;have z3:=L.z3;have v3:=L.v3
 have t4:=L.t4;have a4:=L.a4;have z4:=L.z4;have v4:=L.v4
 have t0:=L.t0;have a0:=L.a0;have z0:=L.z0;have v0:=L.v0
 have t93:=L.t93;have u93:=run_underlying L.t93;have a93:=L.a93;have z93:=L.z93;have v93:=L.v93
 have t131:=L.t131;have a131:=L.a131;have z131:=L.z131;have v131:=L.v131
 have t37:=L.t37;have a37:=L.a37;have z37:=L.z37;have v37:=L.v37
 have t75:=L.t75;have a75:=L.a75;have z75:=L.z75;have v75:=L.v75
 have e181:∀ args w,(callFunc (ρ.f 181) args).run P w=.ok (.enter (ρ.f 181) args) w:=enters_of L.f181 (by kernel_rfl) rfl
 have e251:∀ args w,(callFunc (ρ.f 251) args).run P w=.ok (.enter (ρ.f 251) args) w:=enters_of L.f251 (by kernel_rfl) rfl
 have e290:∀ args w,(callFunc (ρ.f 290) args).run P w=.ok (.enter (ρ.f 290) args) w:=enters_of L.f290 (by kernel_rfl) rfl
 have hnil:∀ W,(binOp .eql (ρ.t 37) (.slice none 0 0) (.slice none 0 0)).run P W=.ok (.bool true) W:=fun W=>Lib.run_eql_slice_nil_nil W _ _ L.t37
 obtain ⟨i0,hi,hz0,hz1,hz2⟩:=info_parts L.i5
 obtain ⟨M,hM⟩:∃ M,M=madeCells (Value.int .u8 0).cells ((64:Int).toNat*i0.size):=⟨_,rfl⟩
 have hMs:M.size=64:=by rw [hM,size_madeCells,hz1];rfl
 have hmk:∀ W:World,(Instr.makeSlice (ρ.t 37) (.int .i64 (n:Int)) (.int .i64 64)).run P W=.ok (.slice (some ⟨W.heap.size,0,none⟩) n 64) (W.alloc (.cells M (ρ.t 5))):=fun W=>by
  have h:=run_makeSlice (P:=P) W (ρ.t 37) (ρ.t 5) i0 (.int .u8 0) L.t37 hi hz0 .i64 .i64 (n:Int) 64 (by omega) (by omega) (by rw [hz1];decide) (by rw [hz2];decide) (by decide)
  rw [<-hM] at h
  simpa using h
 clear hM
 go_enter L.f252,Body.n252_ntmps ρ
 go_wp2_with (go_at_fn (ρ.f 181);refine (Zlr { L with } b none 0 0 _ hbk.c0 hbk.c1 (by unfold maxLen;omega)).mono ?_)
 rintro e W0 ⟨rfl,k,hW0⟩
 have hbk0:LibA.Three W0 b 0 T R (.slice none 0 0) (.int .i64 0) (.int .i8 lr):=by rw [hW0];exact hbk
 have c0:W0.cell? ⟨b,0,none⟩=some (.slice none 0 0):=hbk0.c0
 have c1:W0.cell? ⟨b,1,none⟩=some (.int .i64 0):=hbk0.c1
 have f0:W0.frozen? ⟨b,0,none⟩=false:=hbk0.f 0
 have f1:W0.frozen? ⟨b,1,none⟩=false:=hbk0.f 1
 have hbW0:=hbk0.lt
 have c0a:∀ o,(W0.alloc o).cell? ⟨b,0,none⟩=some (.slice none 0 0):=fun o=>(World.cell?_of_block (a:=⟨b,0,none⟩) (Below.heap_alloc W0 o b hbW0)).trans c0
 have f0a:∀ o,(W0.alloc o).frozen? ⟨b,0,none⟩=false:=fun o=>(World.frozen?_of_block (a:=⟨b,0,none⟩) (Below.heap_alloc W0 o b hbW0)).trans f0
 have HW0:=Lib.hid hW0
 clear hW0
 go_wp2_with (go_at_fn (ρ.f 251);refine (Any.Buffer_tryGrow_none_at { L with } b 0 _ 0 0 n _ c0 (Nat.le_refl _) (Nat.zero_le _) (by omega)).mono ?_;rintro e w' ⟨rfl,rfl⟩)
 go_ret
 have hsz0:w'.heap.size=w.heap.size:=by rw [HW0.out];rfl
 have hg0:w.grownBy w' (some b):=by rw [HW0.out];exact ⟨rfl,rfl,rfl,Nat.le_refl _,fun _ _ _=>rfl⟩
 have hszc:(w'.setCell ⟨b,0,none⟩ (.slice (some ⟨w'.heap.size,0,none⟩) n 64)).heap.size=w'.heap.size:=by simp [World.setCell]
 refine ⟨rfl,64,M,?_,?_,hMs,by simp,by omega,by unfold maxLen;omega,Lib.grownBy_allocR (Lib.grownBy_setB hg0 0 _) _⟩
 ·rw [Nat.zero_add,<-hsz0]
  exact (hbk0.set0 (.slice (some ⟨w'.heap.size,0,none⟩) n 64)).of_heap (Below.heap_alloc _ _ b (by rw [hszc];exact hbW0))
 ·have h:=heap_alloc_new (w'.setCell ⟨b,0,none⟩ (.slice (some ⟨w'.heap.size,0,none⟩) n 64)) (.cells M (ρ.t 5))
  rw [hszc] at h
  rw [<-hsz0]
  exact h
set_option maxRecDepth 100000 in
theorem ZOt (L : LaysM.n252 P ρ) (T : TypeId) (R : Nat -> Option Value) (b : Nat)  (n : Nat) (lr : Int) (w : World)
    (hbk : LibA.Three w b 0 T R (.slice none 0 0) (.int .i64 0) (.int .i8 lr)) (h64 : 64 < n) (hlim : n <= 70368744177664) :
    Calls P (ρ.f 252) #[.pointer (some ⟨b, 0, none⟩), .int .i64 n] w fun e w' => e = .returned (.int .i64 0) /\ ZjL w T R b 0 n [] lr (ρ.t 5) w' := by
  have mixed := L.mixed
  have t5 := L.t5; have a5 := L.a5; have z5 := L.z5; have v5 := L.v5
  have t130 := L.t130; have a130 := L.a130; have z130 := L.z130; have v130 := L.v130
  have t3 := L.t3; have a3 := L.a3; have z3 := L.z3; have v3 := L.v3
  have t4 := L.t4; have a4 := L.a4; have z4 := L.z4; have v4 := L.v4
  have t0 := L.t0; have a0 := L.a0; have z0 := L.z0; have v0 := L.v0
  have t93 := L.t93; have u93 := run_underlying L.t93; have a93 := L.a93; have z93 := L.z93; have v93 := L.v93
  have t131 := L.t131; have a131 := L.a131; have z131 := L.z131; have v131 := L.v131
  have t37 := L.t37; have a37 := L.a37; have z37 := L.z37; have v37 := L.v37
  have t75 := L.t75; have a75 := L.a75; have z75 := L.z75; have v75 := L.v75
  have e181 : ∀ args w, (callFunc (ρ.f 181) args).run P w = .ok (.enter (ρ.f 181) args) w := enters_of L.f181 (by kernel_rfl) rfl
  have e251 : ∀ args w, (callFunc (ρ.f 251) args).run P w = .ok (.enter (ρ.f 251) args) w := enters_of L.f251 (by kernel_rfl) rfl
  have e290 : ∀ args w, (callFunc (ρ.f 290) args).run P w = .ok (.enter (ρ.f 290) args) w := enters_of L.f290 (by kernel_rfl) rfl
  have hnil : ∀ W, (binOp .eql (ρ.t 37) (.slice none 0 0) (.slice none 0 0)).run P W = .ok (.bool true) W := fun W => Lib.run_eql_slice_nil_nil W _ _ L.t37
  have hc2 : 0 <= 140737488355328 := by omega
  have hcm' : 0 <= maxLen := by unfold maxLen; omega
  go_enter L.f252, Body.n252_ntmps ρ
  go_wp2_with (go_at_fn (ρ.f 181); refine (Zlr { L with } b none 0 0 _ hbk.c0 hbk.c1 (by unfold maxLen; omega)).mono ?_)
  rintro e W0 ⟨rfl, k, hW0⟩
  have hbk0 : LibA.Three W0 b 0 T R (.slice none 0 0) (.int .i64 0) (.int .i8 lr) := by rw [hW0]; exact hbk
  have c0 : W0.cell? ⟨b, 0, none⟩ = some (.slice none 0 0) := hbk0.c0
  have c1 : W0.cell? ⟨b, 1, none⟩ = some (.int .i64 0) := hbk0.c1
  have f0 : W0.frozen? ⟨b, 0, none⟩ = false := hbk0.f 0
  have f1 : W0.frozen? ⟨b, 1, none⟩ = false := hbk0.f 1
  have HW0 := Lib.hid hW0
  clear hW0
  go_wp2_with (go_at_fn (ρ.f 251); refine (Any.Buffer_tryGrow_none_at { L with } b 0 _ 0 0 n _ c0 (by omega) hcm' (by omega)).mono ?_; rintro e w' ⟨rfl, rfl⟩)
  have hbW := hbk0.lt
  have hwn : IntKind.i64.wrap (n : Int) = n := by rw [IntKind.wrap_i64]; omega
  go_region_with_o (
      go_at_fn (ρ.f 290)
      refine (ZqP { L with } none 0 0 n [] _ ?_ (by omega) (by omega) (by omega) hc2 ?_ ?_).mono ?_
      . first | exact ho | rfl
      . exact Or.inl rfl
      . first | exact h1 | exact fun v h => by cases h
      rintro e w2 ⟨cap2, cells, rfl, hN, hcsz, htk, hcap2, hcm2, hbel⟩
      have hbk2 : LibA.Three w2 b 0 T R (.slice none 0 0) (.int .i64 0) (.int .i8 lr) := hbk0.of_heap (hbel.block b hbW)
      have d0 : w2.cell? ⟨b, 0, none⟩ = some (.slice none 0 0) := hbk2.c0
      have d1 : w2.cell? ⟨b, 1, none⟩ = some (.int .i64 0) := hbk2.c1
      have e0 : w2.frozen? ⟨b, 0, none⟩ = false := hbk2.f 0
      have e1 : w2.frozen? ⟨b, 1, none⟩ = false := hbk2.f 1)
  all_goals (
    go_wp2
    go_ret
    have hsz0 : w'.heap.size = w.heap.size := by rw [HW0.out]; rfl
    have hg2 : w.grownBy w2 (some b) := Lib.grownBy_below (w := w'.drew) (by rw [HW0.out]; exact ⟨rfl, rfl, rfl, Nat.le_refl _, fun _ _ _ => rfl⟩) hbel
    refine ⟨rfl, cap2, cells, ?_, ?_, hcsz, htk, hcap2, hcm2, Lib.grownBy_setB (Lib.grownBy_setB (Lib.grownBy_setB hg2 0 _) 1 _) 0 _⟩
    . rw [Nat.zero_add, <- hsz0]; exact Znp hbk2 _ _
    . have hNb : w.heap.size ≠ b := by omega
      rw [Below.heap_setCell _ _ _ _ hNb, Below.heap_setCell _ _ _ _ hNb, Below.heap_setCell _ _ _ _ hNb]
      rw [<- hsz0]; exact hN)
end
end
section
open Go.Shelf Go.RowKit
section
variable {P:Program} {ρ:Ren}
set_option maxRecDepth 100000 in
theorem ZFm (L : LaysM.n252 P ρ) (T : TypeId) (R : Nat -> Option Value) (b : Nat) (x : Addr) (cap : Nat) (n : Nat) (lr : Int) (w : World)
    (hbk : LibA.Three w b 0 T R (.slice (some x) 0 cap) (.int .i64 0) (.int .i8 lr)) (hroom : cap < n) (hlim : n <= 70368744177664) :
    Calls P (ρ.f 252) #[.pointer (some ⟨b, 0, none⟩), .int .i64 n] w fun e w' => e = .returned (.int .i64 0) /\ ZjL w T R b 0 n [] lr (ρ.t 5) w' := by
  have mixed := L.mixed
  have t5 := L.t5; have a5 := L.a5; have z5 := L.z5; have v5 := L.v5
  have t130 := L.t130; have a130 := L.a130; have z130 := L.z130; have v130 := L.v130
  have t3 := L.t3; have a3 := L.a3; have z3 := L.z3; have v3 := L.v3
  have t4 := L.t4; have a4 := L.a4; have z4 := L.z4; have v4 := L.v4
  have t0 := L.t0; have a0 := L.a0; have z0 := L.z0; have v0 := L.v0
  have t93 := L.t93; have u93 := run_underlying L.t93; have a93 := L.a93; have z93 := L.z93; have v93 := L.v93
  have t131 := L.t131; have a131 := L.a131; have z131 := L.z131; have v131 := L.v131
  have t37 := L.t37; have a37 := L.a37; have z37 := L.z37; have v37 := L.v37
  have t75 := L.t75; have a75 := L.a75; have z75 := L.z75; have v75 := L.v75
  have e181 : ∀ args w, (callFunc (ρ.f 181) args).run P w = .ok (.enter (ρ.f 181) args) w := enters_of L.f181 (by kernel_rfl) rfl
  have e251 : ∀ args w, (callFunc (ρ.f 251) args).run P w = .ok (.enter (ρ.f 251) args) w := enters_of L.f251 (by kernel_rfl) rfl
  have e290 : ∀ args w, (callFunc (ρ.f 290) args).run P w = .ok (.enter (ρ.f 290) args) w := enters_of L.f290 (by kernel_rfl) rfl
  have hnil : ∀ W, (binOp .eql (ρ.t 37) (.slice (some x) 0 cap) (.slice none 0 0)).run P W = .ok (.bool false) W := fun W => Lib.run_eql_slice_some_nil W _ _ _ L.t37
  have hc2 : cap <= 140737488355328 := by omega
  have hcm' : cap <= maxLen := by unfold maxLen; omega
  go_enter L.f252, Body.n252_ntmps ρ
  go_wp2_with (go_at_fn (ρ.f 181); refine (Zlr { L with } b (some x) 0 cap _ hbk.c0 hbk.c1 (by unfold maxLen; omega)).mono ?_)
  rintro e W0 ⟨rfl, k, hW0⟩
  have hbk0 : LibA.Three W0 b 0 T R (.slice (some x) 0 cap) (.int .i64 0) (.int .i8 lr) := by rw [hW0]; exact hbk
  have c0 : W0.cell? ⟨b, 0, none⟩ = some (.slice (some x) 0 cap) := hbk0.c0
  have c1 : W0.cell? ⟨b, 1, none⟩ = some (.int .i64 0) := hbk0.c1
  have f0 : W0.frozen? ⟨b, 0, none⟩ = false := hbk0.f 0
  have f1 : W0.frozen? ⟨b, 1, none⟩ = false := hbk0.f 1
  have HW0 := Lib.hid hW0
  clear hW0
  go_wp2_with (go_at_fn (ρ.f 251); refine (Any.Buffer_tryGrow_none_at { L with } b 0 _ 0 cap n _ c0 (by omega) hcm' (by omega)).mono ?_; rintro e w' ⟨rfl, rfl⟩)
  have hbW := hbk0.lt
  have hwn : IntKind.i64.wrap (n : Int) = n := by rw [IntKind.wrap_i64]; omega
  go_region_with_o (
      go_at_fn (ρ.f 290)
      refine (ZqP { L with } (some x) 0 cap n [] _ ?_ (by omega) (by omega) (by omega) hc2 ?_ ?_).mono ?_
      . first | exact ho | rfl
      . exact Or.inl rfl
      . first | exact h1 | exact fun v h => by cases h
      rintro e w2 ⟨cap2, cells, rfl, hN, hcsz, htk, hcap2, hcm2, hbel⟩
      have hbk2 : LibA.Three w2 b 0 T R (.slice (some x) 0 cap) (.int .i64 0) (.int .i8 lr) := hbk0.of_heap (hbel.block b hbW)
      have d0 : w2.cell? ⟨b, 0, none⟩ = some (.slice (some x) 0 cap) := hbk2.c0
      have d1 : w2.cell? ⟨b, 1, none⟩ = some (.int .i64 0) := hbk2.c1
      have e0 : w2.frozen? ⟨b, 0, none⟩ = false := hbk2.f 0
      have e1 : w2.frozen? ⟨b, 1, none⟩ = false := hbk2.f 1)
  all_goals (
    go_wp2
    go_ret
    have hsz0 : w'.heap.size = w.heap.size := by rw [HW0.out]; rfl
    have hg2 : w.grownBy w2 (some b) := Lib.grownBy_below (w := w'.drew) (by rw [HW0.out]; exact ⟨rfl, rfl, rfl, Nat.le_refl _, fun _ _ _ => rfl⟩) hbel
    refine ⟨rfl, cap2, cells, ?_, ?_, hcsz, htk, hcap2, hcm2, Lib.grownBy_setB (Lib.grownBy_setB (Lib.grownBy_setB hg2 0 _) 1 _) 0 _⟩
    . rw [Nat.zero_add, <- hsz0]; exact Znp hbk2 _ _
    . have hNb : w.heap.size ≠ b := by omega
      rw [Below.heap_setCell _ _ _ _ hNb, Below.heap_setCell _ _ _ _ hNb, Below.heap_setCell _ _ _ _ hNb]
      rw [<- hsz0]; exact hN)
end
end
section
open Go.Shelf Go.RowKit
section
variable {P:Program} {ρ:Ren}
set_option maxRecDepth 100000 in
theorem Zw6 (L : LaysM.n252 P ρ) (T : TypeId) (R : Nat -> Option Value) (b : Nat) (x : Addr) (l cap : Nat) (olds : List Value) (n : Nat) (lr : Int) (w : World)
    (hbk : LibA.Three w b 0 T R (.slice (some x) l cap) (.int .i64 0) (.int .i8 lr)) (hl0 : l ≠ 0) (ho : olds.length = l) (h1 : ∀ v ∈ olds, v.oneCell' = true) (hlc : l <= cap) (hroom : cap - l < n) (hlim : l + n <= 70368744177664)
    (hold : l = 0 \/ ∃ a, some x = some a /\ ∀ j v, (olds)[j]? = some v -> w.cell? (a.add j) = some v)  :
    Calls P (ρ.f 252) #[.pointer (some ⟨b, 0, none⟩), .int .i64 n] w fun e w' => e = .returned (.int .i64 l) /\ ZjL w T R b l n olds lr (ρ.t 5) w' := by
  have mixed := L.mixed
  have t5 := L.t5; have a5 := L.a5; have z5 := L.z5; have v5 := L.v5
  have t130 := L.t130; have a130 := L.a130; have z130 := L.z130; have v130 := L.v130
  have t3 := L.t3; have a3 := L.a3; have z3 := L.z3; have v3 := L.v3
  have t4 := L.t4; have a4 := L.a4; have z4 := L.z4; have v4 := L.v4
  have t0 := L.t0; have a0 := L.a0; have z0 := L.z0; have v0 := L.v0
  have t93 := L.t93; have u93 := run_underlying L.t93; have a93 := L.a93; have z93 := L.z93; have v93 := L.v93
  have t131 := L.t131; have a131 := L.a131; have z131 := L.z131; have v131 := L.v131
  have t37 := L.t37; have a37 := L.a37; have z37 := L.z37; have v37 := L.v37
  have t75 := L.t75; have a75 := L.a75; have z75 := L.z75; have v75 := L.v75
  have e181 : ∀ args w, (callFunc (ρ.f 181) args).run P w = .ok (.enter (ρ.f 181) args) w := enters_of L.f181 (by kernel_rfl) rfl
  have e251 : ∀ args w, (callFunc (ρ.f 251) args).run P w = .ok (.enter (ρ.f 251) args) w := enters_of L.f251 (by kernel_rfl) rfl
  have e290 : ∀ args w, (callFunc (ρ.f 290) args).run P w = .ok (.enter (ρ.f 290) args) w := enters_of L.f290 (by kernel_rfl) rfl
  have hnil : ∀ W, (binOp .eql (ρ.t 37) (.slice (some x) l cap) (.slice none 0 0)).run P W = .ok (.bool false) W := fun W => Lib.run_eql_slice_some_nil W _ _ _ L.t37
  have hc2 : cap <= 140737488355328 := by omega
  have hcm' : cap <= maxLen := by unfold maxLen; omega
  go_enter L.f252, Body.n252_ntmps ρ
  go_wp2_with (go_at_fn (ρ.f 181); refine (Zlr { L with } b (some x) l cap _ hbk.c0 hbk.c1 (by unfold maxLen; omega)).mono ?_)
  rintro e W0 ⟨rfl, k, hW0⟩
  have hbk0 : LibA.Three W0 b 0 T R (.slice (some x) l cap) (.int .i64 0) (.int .i8 lr) := by rw [hW0]; exact hbk
  have c0 : W0.cell? ⟨b, 0, none⟩ = some (.slice (some x) l cap) := hbk0.c0
  have c1 : W0.cell? ⟨b, 1, none⟩ = some (.int .i64 0) := hbk0.c1
  have f0 : W0.frozen? ⟨b, 0, none⟩ = false := hbk0.f 0
  have f1 : W0.frozen? ⟨b, 1, none⟩ = false := hbk0.f 1
  have hold0 : l = 0 \/ ∃ a, some x = some a /\ ∀ j v, (olds)[j]? = some v -> W0.cell? (a.add j) = some v := by rw [hW0]; exact hold
  have HW0 := Lib.hid hW0
  clear hW0 hold
  go_wp2_with (go_at_fn (ρ.f 251); refine (Any.Buffer_tryGrow_none_at { L with } b 0 _ l cap n _ c0 (by omega) hcm' (by omega)).mono ?_; rintro e w' ⟨rfl, rfl⟩)
  have hbW := hbk0.lt
  have hwn : IntKind.i64.wrap (n : Int) = n := by rw [IntKind.wrap_i64]; omega
  go_region_with_o (
      go_at_fn (ρ.f 290)
      refine (ZqP { L with } (some x) l cap n olds _ ?_ (by omega) (by omega) (by omega) hc2 ?_ ?_).mono ?_
      . first | exact ho | rfl
      . exact hold0
      . first | exact h1 | exact fun v h => by cases h
      rintro e w2 ⟨cap2, cells, rfl, hN, hcsz, htk, hcap2, hcm2, hbel⟩
      have hbk2 : LibA.Three w2 b 0 T R (.slice (some x) l cap) (.int .i64 0) (.int .i8 lr) := hbk0.of_heap (hbel.block b hbW)
      have d0 : w2.cell? ⟨b, 0, none⟩ = some (.slice (some x) l cap) := hbk2.c0
      have d1 : w2.cell? ⟨b, 1, none⟩ = some (.int .i64 0) := hbk2.c1
      have e0 : w2.frozen? ⟨b, 0, none⟩ = false := hbk2.f 0
      have e1 : w2.frozen? ⟨b, 1, none⟩ = false := hbk2.f 1)
  all_goals (
    go_wp2
    go_ret
    have hsz0 : w'.heap.size = w.heap.size := by rw [HW0.out]; rfl
    have hg2 : w.grownBy w2 (some b) := Lib.grownBy_below (w := w'.drew) (by rw [HW0.out]; exact ⟨rfl, rfl, rfl, Nat.le_refl _, fun _ _ _ => rfl⟩) hbel
    refine ⟨rfl, cap2, cells, ?_, ?_, hcsz, htk, hcap2, hcm2, Lib.grownBy_setB (Lib.grownBy_setB (Lib.grownBy_setB hg2 0 _) 1 _) 0 _⟩
    . rw [<- hsz0]; exact Znp hbk2 _ _
    . have hNb : w.heap.size ≠ b := by omega
      rw [Below.heap_setCell _ _ _ _ hNb, Below.heap_setCell _ _ _ _ hNb, Below.heap_setCell _ _ _ _ hNb]
      rw [<- hsz0]; exact hN)
end
end
end Go.Proofs.YtmlkhhidifjjfaaDoor
