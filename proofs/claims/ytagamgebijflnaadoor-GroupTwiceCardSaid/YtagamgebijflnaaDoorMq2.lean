/- packed -/
import Derived.Test.YtagamgebijflnaaDoorMq1
import Derived.Orders
import Derived.LoopN
import Derived.Scope
import Derived.Laws.Cover3
import Derived.Defers
import Derived.Recover
import Derived.Tactics
import Derived.Maps.RangeRun
import Derived.Lib.Index
import Derived.Shelf.Unicode.ValidAny
import Derived.Shelf.Strings.Count
import Derived.Test.YtagamgebijflnaaDoorProg
set_option linter.unusedSectionVars false
set_option linter.unusedSimpArgs false
set_option linter.unusedVariables false
open Option.some renaming injEq→Xa,inj→WW
open Prod.mk renaming injEq→Xb
open Bool renaming and_eq_true→Xc,false_eq_true→Xg,not_eq_true'→Wo,or_eq_true→Wt,true_or→Xaf,or_true→XaR
open List renaming getD_eq_getElem?_getD→Xd,getElem?_eq_some_iff→Xe,getElem?_set→Xj,mem_append→Xn,mem_of_getElem?→Xq,all_eq_true→Xv,getElem?_eq_getElem→Xz,map_cons→XB,replicate→XC,mem_cons→XG,all_cons→XH,getElem?_cons_zero→XI,append_nil→XK,mem_map→XL,getD_cons_zero→XN,eq_nil_of_length_eq_zero→XQ,getElem?_eq_none→XT,mem_singleton→XV,length_nil→XX,getD_cons_succ→XY,mem_flatMap→X1,getElem?_map→X3,map_nil→X6,drop_eq_nil_of_le→X7,map_append→Wd,mem_filter→Wf,pairwise_append→Wi,cons_append→Wk,range→Wn,getElem?_append_left→Wp,getElem?_set_ne→Ww,drop_eq_getElem_cons→Wy,pairwise_cons→WC,mem_range→WJ,getElem?_append_right→WL,set_comm→WN,nodup_append→WV,isEmpty_iff→W0,range'→Xad,nodup_range→Xaq,contains_eq_mem→Xau,nodup_cons→Xaw,mem_cons_self→Xay,mapM_cons→Xaz,map_take→XaD,range'_succ→XaG
open Option renaming map_eq_some_iff→Xh,map_some→XM,bind_some→Wl,getD_some→WF,map→W8
open Or renaming inl→Xo,inr→Xw
open Array renaming getElem?_eq_some_iff→Xy,length_toList→XF,getElem?_setIfInBounds_ne→X9,getD_eq_getD_getElem?→Wj,replicate→W5,getD→W7
open Nat renaming zero_add→XD,le_refl→XO,add_zero→X4,add_assoc→Ws,le_max_right→WH,le_max_left→WK,sub_self→W4
open ByteArray renaming size→Wm
open Ne renaming symm→WQ
namespace Go.Proofs.YtagamgebijflnaaDoor
set_option maxHeartbeats 16000000
set_option maxRecDepth 10000
section
open Go.RowKit
section
variable {P:Program} {O:Zq} {bf:Nat->Bool} {tm tm1 tm2:Tms} {σ σ' σ1 σ2:Za} {sq:Nat}
theorem Zi6 {d:Option Nat} {v:AVal} {n:Nat} (h:d≠some n):tget (tput tm d v) n=tget tm n:=by
 cases d with
 | none=>rfl
 | some d =>
  have : d≠n:=by rintro rfl;exact h rfl
  simp only [tput,Zfq,this,if_false]
theorem Zkv {a b:Nat} (u v:AVal) (h:a≠b):∀ tm:Tms,tins b v (tins a u tm)=tins a u (tins b v tm)
 | []=>by
  simp only [tins]
  by_cases h1:a < b
  ·have h2:¬b < a:=by omega
   have h3:¬b=a:=by omega
   simp [h1,h2,h3,tins]
  ·have h2:b < a:=by omega
   have h3:¬a=b:=h
   simp [h1,h2,h3,tins]
 | (e,w)::r=>by
  have ih:=Zkv u v h r
  rcases Nat.lt_trichotomy e a with ha | ha | ha <;> rcases Nat.lt_trichotomy e b with hb | hb | hb
  ·rcases Nat.lt_or_gt_of_ne h with hab | hab
   ·have n1:¬b < a:=by omega
    have n2:¬b=a:=by omega
    simp [tins,ha,hb,hab,n1,n2]
   ·have n1:¬a < b:=by omega
    have n2:¬a=b:=h
    simp [tins,ha,hb,hab,n1,n2]
  ·subst hb
   have n1:¬a < e:=by omega
   have n2:¬a=e:=h
   simp [tins,ha,n1,n2]
  ·have n1:¬a < b:=by omega
   have n2:¬a=b:=h
   have n3:¬e < b:=by omega
   have n4:¬e=b:=by omega
   simp [tins,ha,n1,n2,n3,n4]
  ·subst ha
   have n1:¬b < e:=by omega
   have n2:¬b=e:=fun q=>h q.symm
   simp [tins,hb,n1,n2]
  ·exact absurd (ha.symm.trans hb) h
  ·subst ha
   have n3:¬e < b:=by omega
   have n4:¬e=b:=by omega
   simp [tins,n3,n4]
  ·have n1:¬b < a:=by omega
   have n2:¬b=a:=by omega
   have n3:¬e < a:=by omega
   have n4:¬e=a:=by omega
   simp [tins,hb,n1,n2,n3,n4]
  ·subst hb
   have n3:¬e < a:=by omega
   have n4:¬e=a:=by omega
   simp [tins,n3,n4]
  ·have n1:¬e < a:=by omega
   have n2:¬e=a:=by omega
   have n3:¬e < b:=by omega
   have n4:¬e=b:=by omega
   simp [tins,n1,n2,n3,n4,ih]
theorem Zcm {a b:Option Nat} (u v:AVal) (h:∀ d,a=some d->b≠some d):tput (tput tm a u) b v=tput (tput tm b v) a u:=by
 cases a with
 | none=>cases b <;> rfl
 | some a =>
  cases b with
  | none=>rfl
  | some b =>
   simp only [tput]
   exact Zkv u v (by rintro rfl;exact h a rfl rfl) tm
theorem ZbU {g:Option (Nat×Bool)} (h:∀ j b,g=some (j,b)->tget tm j=tget tm1 j):Zay g tm=Zay g tm1:=by
 cases g with
 | none=>rfl
 | some g=>simp only [Zay];rw [h g.1 g.2 rfl]
theorem Zb3 {o:AOp} {j:Nat} {b:Bool} (h:o.guard=some (j,b)):j ∈ o.reads:=by simp [AOp.reads,h]
theorem ZdH {o:AOp} {n:Nat} (h:n ∈ o.ins.reads):n ∈ o.reads:=by simp [AOp.reads,h]
theorem Zc9 {o:AOp} {v:AVal} {c:Cls} (h:Zh O bf o sq tm σ=some (v,tm1,σ1,c)):tm1=tput tm o.dst v/\∀ tm',(∀ n ∈ o.reads,tget tm n=tget tm' n)->Zh O bf o sq tm' σ=some (v,tput tm' o.dst v,σ1,c):=by
 unfold Zh at h
 split at h
 ·cases h
 ·rename_i hw
  simp only [Xa,Xb] at h
  obtain ⟨rfl,rfl,rfl,rfl⟩:=h
  refine ⟨rfl,fun tm' hr=>?_⟩
  simp only [Zh,ZbU (g:=o.guard) (tm:=tm') (tm1:=tm) (fun j b hg=>(hr j (Zb3 hg)).symm),hw]
 ·rename_i hw
  split at h
  ·rename_i hf
   split at h
   ·rename_i v' σ'' c' he
    simp only [Xa,Xb] at h
    obtain ⟨rfl,rfl,rfl,rfl⟩:=h
    refine ⟨rfl,fun tm' hr=>?_⟩
    simp only [Zh,ZbU (g:=o.guard) (tm:=tm') (tm1:=tm) (fun j b hg=>(hr j (Zb3 hg)).symm),hw]
    rw [if_pos hf,<-ZdK (tm:=tm) (tm':=tm') (fun n hn=>hr n (ZdH hn)),he]
   ·cases h
  ·cases h
theorem ZeD {o:AOp} {v:AVal} {c:Cls} (h:Zh O bf o sq tm σ=some (v,tm1,σ1,c)) (hn:ZbA c=true) :
  ∃ ob,tm1=tput tm o.dst v/\σ1=Zaf σ sq ob/\(ob.isSome=true->nsite o.ins≠0/\freeAt σ sq=true)/\ob≠some .free/\ZcK σ c.rd /\
   ∀ tm' σ2,(∀ n ∈ o.reads,tget tm n=tget tm' n)->Agree σ σ2 c.rd->(nsite o.ins≠0->freeAt σ sq=true->freeAt σ2 sq=true)->Zh O bf o sq tm' σ2=some (v,tput tm' o.dst v,Zaf σ2 sq ob,c):=by
 simp only [ZbA,Xc,W0,Wo] at hn
 unfold Zh at h
 split at h
 ·cases h
 ·rename_i hw
  simp only [Xa,Xb] at h
  obtain ⟨rfl,rfl,rfl,rfl⟩:=h
  refine ⟨none,rfl,rfl,by simp,by simp,ZbL,fun tm' σ2 hr _ _=>?_⟩
  simp only [Zh,ZbU (g:=o.guard) (tm:=tm') (tm1:=tm) (fun j b hg=>(hr j (Zb3 hg)).symm),hw,Zaf]
 ·rename_i hw
  split at h
  ·rename_i hf
   split at h
   ·rename_i v' σ'' c' he
    simp only [Xa,Xb] at h
    obtain ⟨rfl,rfl,rfl,rfl⟩:=h
    obtain ⟨ob,e1,e2,e3,e4,e5⟩:=ZqR he hn.1 hn.2
    refine ⟨ob,rfl,e1,fun ho=>⟨e2 ho,?_⟩,e3,e4,fun tm' σ2 hr hA hfr=>?_⟩
    ·have:=e2 ho
     simpa [this] using hf
    ·have hf2:(nsite o.ins == 0 || freeAt σ2 sq)=true:=by
      by_cases h0:nsite o.ins=0
      ·simp [h0]
      ·simp only [Wt,beq_iff_eq,h0,false_or] at hf ⊢
       exact hfr h0 hf
     simp only [Zh,ZbU (g:=o.guard) (tm:=tm') (tm1:=tm) (fun j b hg=>(hr j (Zb3 hg)).symm),hw]
     have e5':execI O bf tm σ2 sq o.ins=some (v',Zaf σ2 sq ob,c'):=e5 σ2 hA
     rw [if_pos hf2,<-ZdK (tm:=tm) (tm':=tm') (fun n hn=>hr n (ZdH hn)),e5']
   ·cases h
  ·cases h
theorem Zc1 {s:Nat}:freeAt σ s=true↔σ[s]?=some .free:=by
 unfold freeAt
 split
 ·rename_i h;simp [h]
 ·rename_i h
  constructor
  ·intro h';cases h'
  ·intro h';exact absurd h' h
theorem Zfk {s t:Nat} {ob:Option Zf} (h:ob.isSome=true->s≠t):(Zaf σ s ob)[t]?=σ[t]?:=by
 cases ob with
 | none=>rfl
 | some b=>simp only [Zaf];rw [Xj,if_neg (h rfl)]
theorem Zm9 {s t:Nat} {ob oc:Option Zf} (h:ob.isSome=true->oc.isSome=true->s≠t):Zaf (Zaf σ s ob) t oc=Zaf (Zaf σ t oc) s ob:=by
 cases ob with
 | none=>cases oc <;> rfl
 | some b =>
  cases oc with
  | none=>rfl
  | some c=>simp only [Zaf];exact WN b c (h rfl rfl)
theorem ZsZ {x y:AVal} (h:ZbZ x y=true):x=y:=by
 unfold ZbZ at h
 split at h
 all_goals first
  | rfl
  | (cases h;done)
  | (simp only [Xc,decide_eq_true_eq,beq_iff_eq] at h;simp_all;done)
theorem Zgy {o:AOp} {v:AVal} {c:Cls} (hc:ZaD o.ins=true) (h:Zh O bf o sq tm σ=some (v,tm1,σ1,c)) :
  (Zay o.guard tm=some false/\v=.tup []/\σ1=σ/\c={}) \/
  (Zay o.guard tm=some true/\(nsite o.ins == 0 || freeAt σ sq)=true/\∃ f own view args,own<=nsite o.ins/\(∀ tm' σ2 v2 σ3 c2,(∀ n ∈ o.reads,tget tm n=tget tm' n)->(nsite o.ins == 0 || freeAt σ2 sq)=true->Zi O bf σ2 sq f own view args=some (v2,σ3,c2)->Zh O bf o sq tm' σ2=some (v2,tput tm' o.dst v2,σ3,c2))/\Zi O bf σ sq f own view args=some (v,σ1,c)):=by
 unfold Zh at h
 split at h
 ·cases h
 ·rename_i hw
  simp only [Xa,Xb] at h
  obtain ⟨rfl,rfl,rfl,rfl⟩:=h
  exact Xo ⟨hw,rfl,rfl,rfl⟩
 ·rename_i hw
  split at h
  ·rename_i hf
   split at h
   ·rename_i v' σ'' c' he
    simp only [Xa,Xb] at h
    obtain ⟨rfl,rfl,rfl,rfl⟩:=h
    refine Xw ⟨hw,hf,?_⟩
    have gen:∀ tm' σ2,(∀ n ∈ o.reads,tget tm n=tget tm' n)->(nsite o.ins == 0 || freeAt σ2 sq)=true->∀ v2 σ3 c2,execI O bf tm σ2 sq o.ins=some (v2,σ3,c2)->Zh O bf o sq tm' σ2=some (v2,tput tm' o.dst v2,σ3,c2):=by
     intro tm' σ2 hr hf2 v2 σ3 c2 he2
     simp only [Zh,ZbU (g:=o.guard) (tm:=tm') (tm1:=tm) (fun j b hg=>(hr j (Zb3 hg)).symm),hw]
     rw [if_pos hf2,<-ZdK (tm:=tm) (tm':=tm') (fun n hn=>hr n (ZdH hn)),he2]
    cases hins:o.ins with
    | call f own view args =>
     rw [hins] at he gen
     simp only [execI] at he gen
     refine ⟨f,own,view,args.map (·.ev tm),XO _,fun tm' σ2 v2 σ3 c2 hr hf2 h2=>?_,he⟩
     exact gen tm' σ2 hr hf2 v2 σ3 c2 h2
    | callv x args =>
     rw [hins] at he gen
     simp only [execI] at he
     split at he
     ·rename_i f caps hx
      refine ⟨(if f < 1000000 then f else f - 1000000),4,false,(if f < 1000000 then args.map (·.ev tm)++caps else caps++args.map (·.ev tm)),by simp [nsite],fun tm' σ2 v2 σ3 c2 hr hf2 h2=>?_,he⟩
      refine gen tm' σ2 hr hf2 v2 σ3 c2 ?_
      simp only [execI,hx]
      exact h2
     ·cases he
    | _=>rw [hins] at hc;simp [ZaD] at hc
   ·cases h
  ·cases h
theorem Znh {o:AOp} {v:AVal} {c:Cls} {s:Nat} (hc:ZaD o.ins=true) (h:Zh O bf o sq tm σ=some (v,tm1,σ1,c)) (hs:σ1[s]?=some .free) (hne:∀ i,i < nsite o.ins->sq+i≠s) :
  σ[s]?=some .free/\∀ b tm',(∀ n ∈ o.reads,tget tm n=tget tm' n)->Zh O bf o sq tm' (σ.set s b)=some (v,tput tm' o.dst v,σ1.set s b,c):=by
 have h0:=h
 rcases Zgy hc h with ⟨hw,rfl,rfl,rfl⟩ | ⟨hw,hf,f,own,view,args,ho,gen,hg⟩
 ·refine ⟨hs,fun b tm' hr=>?_⟩
  simp only [Zh,ZbU (g:=o.guard) (tm:=tm') (tm1:=tm) (fun j b hg=>(hr j (Zb3 hg)).symm),hw]
 ·obtain ⟨k1,k2⟩:=Zi9 (b:=.free) hg hs (fun i hi=>hne i (by omega))
  refine ⟨k1,fun b tm' hr=>gen tm' _ _ _ _ hr ?_ (Zi9 (b:=b) hg hs (fun i hi=>hne i (by omega))).2⟩
  by_cases h0:nsite o.ins=0
  ·simp [h0]
  ·simp only [Wt,beq_iff_eq,h0,false_or,Zc1] at hf ⊢
   have:=hne 0 (by omega)
   rw [Xj,if_neg (by intro e;exact this (by simpa using e.symm))]
   exact hf
theorem Zw3 {o:AOp} {v:AVal} {c:Cls} {s:Nat} (hc:ZaD o.ins=true) (h:Zh O bf o sq tm σ=some (v,tm1,σ1,c)) (hs:σ1[s]?=some .free):σ[s]?=some .free:=by
 rcases Zgy hc h with ⟨hw,rfl,rfl,rfl⟩ | ⟨hw,hf,f,own,view,args,ho,gen,hg⟩
 ·exact hs
 ·exact ZmP hg hs
theorem ZtT {o:AOp} {v:AVal} {c:Cls} {t:Nat} {cs:List AVal} (hc:ZaD o.ins=true) (h:Zh O bf o sq tm σ=some (v,tm1,σ1,c)) (ha:c.any=true) (ht:σ[t]?=some (.var cs)) :
  (c.upd.lookup t=none->σ1[t]?=some (.var cs))/\(∀ cs2,c.upd.lookup t=some cs2->σ1[t]?=some (.var cs2)):=by
 rcases Zgy hc h with ⟨hw,rfl,rfl,rfl⟩ | ⟨hw,hf,f,own,view,args,ho,gen,hg⟩
 ·cases ha
 ·exact ZpK hg ha ht
theorem Zvl {σ σ1 : Za} {sq k bytes : Nat} {x y v : AVal} {c : Cls} {t : Nat} {cs : List AVal} (h : Z9 σ sq k bytes x y = some (v, σ1, c)) (hs : sq ≠ t) (ht : σ[t]? = some (.var cs)) : σ1[t]? = some (.var cs) := by
  have key : ∀ (u : Nat) (b : Zf), (u = sq \/ ∃ b0, σ[u]? = some b0 /\ ∀ cs, b0 ≠ .var cs) -> (σ.set u b)[t]? = some (.var cs) := by
    intro u b hu
    rw [Xj, if_neg, ht]
    rintro rfl
    rcases hu with rfl | ⟨b0, h1, h2⟩
    . exact hs rfl
    . rw [ht] at h1; injection h1 with h1; exact h2 _ h1.symm
  unfold Z9 at h
  repeat' split at h
  all_goals first
    | (cases h; done)
    | (unfold ZcR at h
       repeat' split at h
       all_goals first
         | (cases h; done)
         | (simp only [Xa, Xb] at h
            obtain ⟨-, rfl, -⟩ := h
            first
              | exact key _ _ (Xo rfl)
              | exact key _ _ (Xw ⟨_, by assumption, by simp⟩)))
    | (simp only [Xa, Xb] at h
       obtain ⟨-, rfl, -⟩ := h
       first
         | exact ht
         | exact key _ _ (Xo rfl)
         | exact key _ _ (Xw ⟨_, by assumption, by simp⟩))
theorem Zuf {o:AOp} {v:AVal} {c:Cls} {t:Nat} {cs:List AVal} (hc:ZaM o.ins=true) (h:Zh O bf o sq tm σ=some (v,tm1,σ1,c)) (ht:σ[t]?=some (.var cs)):σ1[t]?=some (.var cs):=by
 unfold Zh at h
 split at h
 ·cases h
 ·simp only [Xa,Xb] at h
  obtain ⟨rfl,rfl,rfl,rfl⟩:=h
  exact ht
 ·split at h
  ·rename_i hf
   split at h
   ·rename_i v' σ'' c' he
    simp only [Xa,Xb] at h
    obtain ⟨rfl,rfl,rfl,rfl⟩:=h
    cases hins:o.ins with
    | app k bytes z x y =>
     rw [hins] at he hf
     simp only [execI] at he
     refine Zvl he ?_ ht
     rintro rfl
     simp [nsite,freeAt,ht] at hf
    | _=>rw [hins] at hc;simp [ZaM] at hc
   ·cases h
  ·cases h
theorem ZjM {σ σ1 : Za} {sq k bytes : Nat} {x y v : AVal} {c : Cls} {s : Nat} (h : Z9 σ sq k bytes x y = some (v, σ1, c)) (hs : σ1[s]? = some .free) : σ[s]? = some .free := by
  have key : ∀ (u : Nat) (b0 : Zf), b0 ≠ .free -> (σ.set u b0)[s]? = some .free -> σ[s]? = some .free := by
    intro u b0 hb hh
    rw [Xj] at hh
    split at hh
    . split at hh
      . injection hh with hh; exact absurd hh hb
      . cases hh
    . exact hh
  unfold Z9 at h
  repeat' split at h
  all_goals first
    | (cases h; done)
    | (unfold ZcR at h
       repeat' split at h
       all_goals first
         | (cases h; done)
         | (simp only [Xa, Xb] at h
            obtain ⟨-, rfl, -⟩ := h
            exact key _ _ (by simp) hs))
    | (simp only [Xa, Xb] at h
       obtain ⟨-, rfl, -⟩ := h
       first
         | exact hs
         | exact key _ _ (by simp) hs)
theorem Zn9 {σ σ1 : Za} {sq k bytes : Nat} {x y v : AVal} {c : Cls} {s : Nat} (ha : c.any = false) (h : Z9 σ sq k bytes x y = some (v, σ1, c)) (hs : σ[s]? = some .free) (hne : sq ≠ s) (b : Zf) : Z9 (σ.set s b) sq k bytes x y = some (v, σ1.set s b, c) := by
  have get : ∀ (t : Nat) (b0 : Zf), σ[t]? = some b0 -> b0 ≠ .free -> (σ.set s b)[t]? = some b0 /\ s ≠ t := by
    intro t b0 h1 h2
    have hst : s ≠ t := by
      rintro rfl
      rw [hs] at h1; injection h1 with h1; exact h2 h1.symm
    exact ⟨by rw [Ww hst]; exact h1, hst⟩
  have hel : ∀ ys us, Zk σ y = some (ys, us) -> Zk (σ.set s b) y = some (ys, us) := by
    intro ys us he
    unfold Zk at he ⊢
    split at he
    . exact he
    . exact he
    . split at he
      . rename_i hr
        rw [(get _ _ hr (by simp)).1]; exact he
      . rename_i hr
        rw [(get _ _ hr (by simp)).1]; exact he
      . cases he
    . cases he
  unfold Z9 at h
  cases he : Zk σ y with
  | none =>
    rw [he] at h
    simp only at h
    unfold ZcR at h
    repeat' split at h
    all_goals first
      | (cases h; done)
      | (simp only [Xa, Xb] at h
         obtain ⟨-, -, rfl⟩ := h
         cases ha)
  | some z =>
    obtain ⟨ys, us⟩ := z
    rw [he] at h
    simp only at h
    unfold Z9
    rw [hel _ _ he]
    simp only
    split at h
    case isFalse => cases h
    rename_i hk
    rw [if_pos hk]
    split at h
    . split at h
      case isFalse => cases h
      rename_i h1
      simp only [Xa, Xb] at h
      obtain ⟨rfl, rfl, rfl⟩ := h
      simp only [h1, if_true]
      rw [WN _ _ hne]
    . split at h
      case isFalse => cases h
      rename_i h1
      simp only [h1, and_self, if_true]
      split at h
      . simp only [Xa, Xb] at h
        obtain ⟨rfl, rfl, rfl⟩ := h
        rfl
      . simp only [Xa, Xb] at h
        obtain ⟨rfl, rfl, rfl⟩ := h
        rw [WN _ _ hne]
    . split at h
      . rename_i hr
        obtain ⟨g1, g2⟩ := get _ _ hr (by simp)
        rw [g1]
        simp only
        split at h
        case isFalse => cases h
        rename_i h1
        rw [if_pos h1]
        split at h
        . rename_i h2
          rw [if_pos h2]
          simp only [Xa, Xb] at h
          obtain ⟨rfl, rfl, rfl⟩ := h
          rw [WN _ _ g2]
        . rename_i h2
          rw [if_neg h2]
          split at h
          case isFalse => cases h
          rename_i h3
          rw [if_pos h3]
          simp only [Xa, Xb] at h
          obtain ⟨rfl, rfl, rfl⟩ := h
          rw [WN _ _ g2]
      . cases h
    . cases h
theorem ZhW {o:AOp} {v:AVal} {c:Cls} (hc:ZaM o.ins=true) (h:Zh O bf o sq tm σ=some (v,tm1,σ1,c)) :
  (Zay o.guard tm=some false/\v=.tup []/\σ1=σ/\c={})\/(freeAt σ sq=true/\∃ k bytes x y,Z9 σ sq k bytes x y=some (v,σ1,c)/\∀ tm' σ2 v2 σ3 c2,(∀ n ∈ o.reads,tget tm n=tget tm' n)->freeAt σ2 sq=true->Z9 σ2 sq k bytes x y=some (v2,σ3,c2)->Zh O bf o sq tm' σ2=some (v2,tput tm' o.dst v2,σ3,c2)):=by
 unfold Zh at h
 split at h
 ·cases h
 ·rename_i hw
  simp only [Xa,Xb] at h
  obtain ⟨rfl,rfl,rfl,rfl⟩:=h
  exact Xo ⟨hw,rfl,rfl,rfl⟩
 ·rename_i hw
  split at h
  ·rename_i hf
   split at h
   ·rename_i v' σ'' c' he
    simp only [Xa,Xb] at h
    obtain ⟨rfl,rfl,rfl,rfl⟩:=h
    cases hins:o.ins with
    | app k bytes z x y =>
     have he0:=he
     rw [hins] at he hf
     simp only [execI] at he
     refine Xw ⟨by simpa [nsite] using hf,k,bytes,_,_,he,fun tm' σ2 v2 σ3 c2 hr hf2 h2=>?_⟩
     simp only [Zh,ZbU (g:=o.guard) (tm:=tm') (tm1:=tm) (fun j b hg=>(hr j (Zb3 hg)).symm),hw]
     rw [if_pos (by rw [hf2];simp),<-ZdK (tm:=tm) (tm':=tm') (fun n hn=>hr n (ZdH hn)),hins]
     simp only [execI,h2]
    | _=>rw [hins] at hc;simp [ZaM] at hc
   ·cases h
  ·cases h
theorem Zij {t:Nat} {cs:List AVal}:∀ (ts:List Nat) (σ:Za),σ[t]?=some (.var cs)->(Zj σ ts)[t]?=some (.var cs)
 | [],σ,h=>h
 | u::ts,σ,h=>by
  unfold Zj
  split
  ·rename_i g k xs hu
   refine Zij ts _ ?_
   rw [Xj,if_neg,h]
   rintro rfl
   rw [hu] at h;cases h
  ·exact Zij ts σ h
theorem Zx6 {σ σ1 : Za} {k : Nat} {a x v : AVal} {c : Cls} {t : Nat} {cs : List AVal} (h : stA σ k a x = some (v, σ1, c)) (hw : c.wr.contains t = false) (ht : σ[t]? = some (.var cs)) : σ1[t]? = some (.var cs) := by
  unfold stA at h
  repeat' split at h
  all_goals first
    | (cases h; done)
    | (simp only [Xa, Xb] at h
       obtain ⟨-, rfl, rfl⟩ := h
       simp only [List.contains_cons, List.contains_nil, Bool.or_false, Bool.or_eq_false_iff, beq_eq_false_iff_ne, ne_eq] at hw
       first
         | (rw [Xj, if_neg (fun e => hw e.symm)]; exact ht)
         | (rw [Xj, if_neg (fun e => hw.1 e.symm)]; exact Zij _ _ ht))
theorem Zs1 {o:AOp} {v:AVal} {c:Cls} {t:Nat} {cs:List AVal} (hc:ZbJ o.ins=true) (hw:c.wr.contains t=false) (h:Zh O bf o sq tm σ=some (v,tm1,σ1,c)) (ht:σ[t]?=some (.var cs)):σ1[t]?=some (.var cs):=by
 unfold Zh at h
 split at h
 ·cases h
 ·simp only [Xa,Xb] at h
  obtain ⟨rfl,rfl,rfl,rfl⟩:=h
  exact ht
 ·split at h
  ·rename_i hf
   split at h
   ·rename_i v' σ'' c' he
    simp only [Xa,Xb] at h
    obtain ⟨rfl,rfl,rfl,rfl⟩:=h
    cases hins:o.ins with
    | st k x y =>
     rw [hins] at he hf
     simp only [execI] at he
     exact Zx6 he hw ht
    | _=>rw [hins] at hc;simp [ZbJ] at hc
   ·cases h
  ·cases h
theorem ZhQ {o : AOp} {v : AVal} {c ci : Cls} (hl : ZaJ o.ins = true) (h : Zh O bf o sq tm σ = some (v, tm1, σ1, c)) (hg : ZaY c ci = true) :
    ∃ t k off, c.got = [(t, k, off, v)] /\ σ1 = σ /\ tm1 = tput tm o.dst v /\ (∀ tm' σ2, (∀ n ∈ o.reads, tget tm n = tget tm' n) -> (∃ cs, σ2[t]? = some (.var cs) /\ partA k cs off = some v) -> Zh O bf o sq tm' σ2 = some (v, tput tm' o.dst v, σ2, c)) /\ ∃ cs, σ[t]? = some (.var cs) /\ partA k cs off = some v := by
  unfold Zh at h
  split at h
  . cases h
  . simp only [Xa, Xb] at h
    obtain ⟨rfl, rfl, rfl, rfl⟩ := h
    simp [ZaY] at hg
  . rename_i hw
    split at h
    . rename_i hf
      split at h
      . rename_i v' σ'' c' he
        simp only [Xa, Xb] at h
        obtain ⟨rfl, rfl, rfl, rfl⟩ := h
        cases hins : o.ins with
        | ld k a =>
          rw [hins] at he hf
          simp only [execI] at he
          have he0 := he
          unfold ldA at he
          split at he
          . rename_i t off ha
            split at he
            . rename_i cs hcs
              split at he
              . rename_i v2 hp
                simp only [Xa, Xb] at he
                obtain ⟨rfl, rfl, rfl⟩ := he
                refine ⟨t, k, off, rfl, rfl, rfl, fun tm' σ2 hr ⟨cs2, h1, h2⟩ => ?_, cs, hcs, hp⟩
                simp only [Zh, ZbU (g := o.guard) (tm := tm') (tm1 := tm) (fun j b hg => (hr j (Zb3 hg)).symm), hw]
                rw [if_pos (by rw [hins]; rfl), <- ZdK (tm := tm) (tm' := tm') (fun n hn => hr n (ZdH hn)), hins]
                simp only [execI, ha, ldA, h1, h2]
              . cases he
            . cases he
          . repeat' split at he
            all_goals first
              | (cases he; done)
              | (simp only [Xa, Xb] at he
                 obtain ⟨rfl, rfl, rfl⟩ := he
                 simp [ZaY] at hg)
          . repeat' split at he
            all_goals first
              | (cases he; done)
              | (simp only [Xa, Xb] at he
                 obtain ⟨rfl, rfl, rfl⟩ := he
                 simp [ZaY] at hg)
          . cases he
        | _ => rw [hins] at hl; simp [ZaJ] at hl
      . cases h
    . cases h
theorem ZsX {o:AOp} {v:AVal} {c:Cls} {s:Nat} (hc:ZaD o.ins=true\/(ZaM o.ins=true/\(!c.any)=true)) (h:Zh O bf o sq tm σ=some (v,tm1,σ1,c)) (hs:σ1[s]?=some .free):σ[s]?=some .free:=by
 rcases hc with hc | ⟨hc,_⟩
 ·exact Zw3 hc h hs
 ·rcases ZhW hc h with ⟨_,_,rfl,_⟩ | ⟨_,_,_,_,_,ha,_⟩
  ·exact hs
  ·exact ZjM ha hs
theorem ZsF {o:AOp} {v:AVal} {c:Cls} {s:Nat} (hc:ZaD o.ins=true\/(ZaM o.ins=true/\(!c.any)=true)) (h:Zh O bf o sq tm σ=some (v,tm1,σ1,c)) (hs:σ1[s]?=some .free) (hne:∀ i,i < nsite o.ins->sq+i≠s) :
  σ[s]?=some .free/\∀ b tm',(∀ n ∈ o.reads,tget tm n=tget tm' n)->Zh O bf o sq tm' (σ.set s b)=some (v,tput tm' o.dst v,σ1.set s b,c):=by
 rcases hc with hc | ⟨hc,hany⟩
 ·exact Znh hc h hs hne
 ·have hn:sq≠s:=by
   have : nsite o.ins=1:=by
    cases hins:o.ins with
    | app k bytes z x y=>rfl
    | _=>rw [hins] at hc;simp [ZaM] at hc
   simpa using hne 0 (by omega)
  rcases ZhW hc h with ⟨hw,rfl,rfl,rfl⟩ | ⟨hf,k,bytes,x,y,ha,gen⟩
  ·refine ⟨hs,fun b tm' hr=>?_⟩
   simp only [Zh,ZbU (g:=o.guard) (tm:=tm') (tm1:=tm) (fun j b hg=>(hr j (Zb3 hg)).symm),hw]
  ·have h0:=ZjM ha hs
   refine ⟨h0,fun b tm' hr=>gen tm' _ _ _ _ hr ?_ (Zn9 (by simpa using hany) ha h0 hn b)⟩
   rw [Zc1] at hf ⊢
   rw [Ww (fun e=>hn e.symm)]
   exact hf
def Frz (σ σ2:Za):Prop:=∀ t:Nat,σ2[t]?=σ[t]?\/∃ (g k:Nat) (xs:List AVal),σ[t]?=some (Zf.row g k xs)/\σ2[t]?=some (Zf.frow g k xs)
theorem Frz.refl (σ:Za):Frz σ σ:=fun _=>Xo rfl
theorem ZfR:∀ (ts:List Nat) (σ:Za),Frz σ (Zj σ ts)
 | [],σ=>Frz.refl σ
 | t::ts,σ=>by
  unfold Zj
  split
  ·rename_i g k xs ht
   intro u
   have ih:=ZfR ts (σ.set t (.frow g k xs)) u
   have htl:t < σ.length:=(Xe.1 ht).1
   by_cases e:u=t
   ·subst e
    have e1:(σ.set u (.frow g k xs))[u]?=some (.frow g k xs):=by simp [htl]
    rw [e1] at ih
    rcases ih with ih | ⟨_,_,_,ih,_⟩
    ·exact Xw ⟨g,k,xs,ht,ih⟩
    ·cases ih
   ·rw [Ww (fun h=>e h.symm)] at ih
    exact ih
  ·exact ZfR ts σ
theorem ZiZ {σ σ2 σ' : Za} {k : Option Nat} {a v : AVal} {c : Cls} (hf : Frz σ σ2) (h : ldA σ k a = some (v, σ', c)) : σ' = σ /\ ldA σ2 k a = some (v, σ2, c) := by
  unfold ldA at h ⊢
  split at h
  . rename_i t o
    rcases hf t with e | ⟨_, _, _, e1, _⟩
    . simp only [e]
      repeat' split at h
      all_goals first
        | (cases h; done)
        | (simp only [Xa, Xb] at h
           obtain ⟨rfl, rfl, rfl⟩ := h
           simp_all)
    . rw [e1] at h; cases h
  . rename_i t g i o
    rcases hf t with e | ⟨g1, k1, xs1, e1, e2⟩
    . simp only [e]
      repeat' split at h
      all_goals first
        | (cases h; done)
        | (simp only [Xa, Xb] at h
           obtain ⟨rfl, rfl, rfl⟩ := h
           simp_all)
    . simp only [e1] at h
      simp only [e2]
      repeat' split at h
      all_goals first
        | (cases h; done)
        | (simp only [Xa, Xb] at h
           obtain ⟨rfl, rfl, rfl⟩ := h
           simp_all)
  . repeat' split at h
    all_goals first
      | (cases h; done)
      | (simp only [Xa, Xb] at h
         obtain ⟨rfl, rfl, rfl⟩ := h
         simp_all)
  . cases h
theorem Zlb {σ σ2 σ' : Za} {k : Nat} {a i v : AVal} {c : Cls} (hf : Frz σ σ2) (h : ZaV σ k a i = some (v, σ', c)) : σ' = σ /\ ZaV σ2 k a i = some (v, σ2, c) := by
  unfold ZaV at h ⊢
  split at h
  . split at h
    . rename_i h0
      rw [if_pos h0]
      split at h
      . repeat' split at h
        all_goals first
          | (cases h; done)
          | (simp only [Xa, Xb] at h
             obtain ⟨rfl, rfl, rfl⟩ := h
             simp_all)
      . rename_i t g p n
        rcases hf t with e | ⟨g1, k1, xs1, e1, e2⟩
        . simp only [e]
          repeat' split at h
          all_goals first
            | (cases h; done)
            | (simp only [Xa, Xb] at h
               obtain ⟨rfl, rfl, rfl⟩ := h
               simp_all)
        . simp only [e1] at h
          simp only [e2]
          repeat' split at h
          all_goals first
            | (cases h; done)
            | (simp only [Xa, Xb] at h
               obtain ⟨rfl, rfl, rfl⟩ := h
               simp_all)
      . cases h
    . cases h
  . cases h
theorem Zmy {o:AOp} {v:AVal} {c:Cls} (hl:ZbI o.ins=true) (h:Zh O bf o sq tm σ=some (v,tm1,σ1,c)) :
  σ1=σ/\tm1=tput tm o.dst v/\∀ tm' σ2,(∀ n ∈ o.reads,tget tm n=tget tm' n)->Frz σ σ2->Zh O bf o sq tm' σ2=some (v,tput tm' o.dst v,σ2,c):=by
 unfold Zh at h
 split at h
 ·cases h
 ·rename_i hw
  simp only [Xa,Xb] at h
  obtain ⟨rfl,rfl,rfl,rfl⟩:=h
  refine ⟨rfl,rfl,fun tm' σ2 hr _=>?_⟩
  simp only [Zh,ZbU (g:=o.guard) (tm:=tm') (tm1:=tm) (fun j b hg=>(hr j (Zb3 hg)).symm),hw]
 ·rename_i hw
  split at h
  ·rename_i hf
   split at h
   ·rename_i v' σ'' c' he
    simp only [Xa,Xb] at h
    obtain ⟨rfl,rfl,rfl,rfl⟩:=h
    cases hins:o.ins with
    | ld k a =>
     rw [hins] at he
     simp only [execI] at he
     have e1:=(ZiZ (Frz.refl σ) he).1
     subst e1
     refine ⟨rfl,rfl,fun tm' σ2 hr hz=>?_⟩
     simp only [Zh,ZbU (g:=o.guard) (tm:=tm') (tm1:=tm) (fun j b hg=>(hr j (Zb3 hg)).symm),hw]
     rw [if_pos (by rw [hins];rfl),<-ZdK (tm:=tm) (tm':=tm') (fun n hn=>hr n (ZdH hn)),hins]
     simp only [execI,(ZiZ hz he).2]
    | iaddr k x i =>
     rw [hins] at he
     simp only [execI] at he
     have e1:=(Zlb (Frz.refl σ) he).1
     subst e1
     refine ⟨rfl,rfl,fun tm' σ2 hr hz=>?_⟩
     simp only [Zh,ZbU (g:=o.guard) (tm:=tm') (tm1:=tm) (fun j b hg=>(hr j (Zb3 hg)).symm),hw]
     rw [if_pos (by rw [hins];rfl),<-ZdK (tm:=tm) (tm':=tm') (fun n hn=>hr n (ZdH hn)),hins]
     simp only [execI,(Zlb hz he).2]
    | _=>rw [hins] at hl;simp [ZbI] at hl
   ·cases h
  ·cases h
theorem Zym {o:AOp} {v:AVal} {c:Cls} (hl:Zbz o.ins=true) (h:Zh O bf o sq tm σ=some (v,tm1,σ1,c)):Frz σ σ1:=by
 unfold Zh at h
 split at h
 ·cases h
 ·simp only [Xa,Xb] at h
  obtain ⟨rfl,rfl,rfl,rfl⟩:=h
  exact Frz.refl _
 ·split at h
  ·split at h
   ·rename_i v' σ'' c' he
    simp only [Xa,Xb] at h
    obtain ⟨rfl,rfl,rfl,rfl⟩:=h
    cases hins:o.ins with
    | bslice own k n z parts =>
     rw [hins] at hl he
     simp only [Zbz,Wo] at hl
     subst hl
     simp only [execI] at he
     split at he
     ·cases he
     ·rename_i ys ts hv
      split at he
      ·simp only [Xg,if_false,Xa,Xb] at he
       obtain ⟨_,rfl,_⟩:=he
       exact ZfR ts σ
      ·cases he
    | _=>rw [hins] at hl;simp [Zbz] at hl
   ·cases h
  ·cases h
theorem ZqD {f own:Nat} {view:Bool} {args:List AVal} {v:AVal} {c:Cls} (h:Zi O bf σ sq f own view args=some (v,σ',c)) (ha:c.any=true) {t:Nat} {cs:List AVal} (hn:c.upd.lookup t=none) (hlt:t < sq) (ht:σ'[t]?=some (.var cs)):σ[t]?=some (.var cs):=by
 unfold Zi at h
 split at h
 ·cases h
 rename_i xs ts hsh
 generalize hids:Zn (Zj σ ts) 1000 (ZM xs) []=ids at h
 unfold Za5 at h
 split at h
 case isFalse=>cases h
 generalize Zat view ids.length (O f (ZG (Zg (Zj σ ts) 0 ids) xs) (Zm (Zj σ ts) 0 ids (Zg (Zj σ ts) 0 ids) ids 0))=q at h
 cases q with
 | none=>simp only [Zal] at h;cases h
 | some q =>
  obtain ⟨r,hp⟩:=q
  simp only [Zal] at h
  split at h
  ·split at h
   ·simp only [Xa,Xb] at h
    rw [<-h.2.2] at ha;cases ha
   split at h
   ·simp only [Xa,Xb] at h
    rw [<-h.2.2] at ha;cases ha
   ·simp only [Xa,Xb] at h
    rw [<-h.2.2] at ha;cases ha
  ·split at h
   ·simp only [Xa,Xb] at h
    rw [<-h.2.2] at ha;cases ha
   split at h
   ·rename_i hcc
    simp only [Xa,Xb] at h
    obtain ⟨_,rfl,rfl⟩:=h
    have hm:t ∉ ids:=fun hm=>Zgs hn hm ht
    rw [Zfn (fun i hi e=>by
     rw [XD] at e
     unfold Zaq at e
     rw [Xd] at e
     rcases Nat.lt_or_ge i ids.length with hl | hl
     ·rw [Xz hl] at e
      simp only [WF] at e
      exact hm (e ▸ List.getElem_mem hl)
     ·rw [XT hl] at e
      simp only [Option.getD_none] at e
      omega)] at ht
    rcases ZfR ts σ t with e | ⟨g1,k1,xs1,e1,e2⟩
    ·rw [<-e];exact ht
    ·rw [e2] at ht;cases ht
   ·cases h
theorem Zme {o:AOp} {v:AVal} {c:Cls} {t:Nat} {cs:List AVal} (hc:ZaD o.ins=true) (h:Zh O bf o sq tm σ=some (v,tm1,σ1,c)) (ha:c.any=true) (hn:c.upd.lookup t=none) (hlt:t < sq) (ht:σ1[t]?=some (.var cs)):σ[t]?=some (.var cs):=by
 rcases Zgy hc h with ⟨hw,rfl,rfl,rfl⟩ | ⟨hw,hf,f,own,view,args,ho,gen,hg⟩
 ·cases ha
 ·exact ZqD hg ha hn hlt ht
theorem Zmr {σ σ1 : Za} {sq k bytes : Nat} {x y v : AVal} {c : Cls} (h : Z9 σ sq k bytes x y = some (v, σ1, c)) (ha : c.any = false) {t : Nat} (hw : c.wr.contains t = false) (hs : t ≠ sq) : σ1[t]? = σ[t]? := by
  unfold Z9 at h
  split at h
  . unfold ZcR at h
    repeat' split at h
    all_goals first
      | (cases h; done)
      | (simp only [Xa, Xb] at h
         obtain ⟨_, _, rfl⟩ := h
         cases ha)
  . repeat' split at h
    all_goals first
      | (cases h; done)
      | (simp only [Xa, Xb] at h
         obtain ⟨_, rfl, rfl⟩ := h
         first
         | rfl
         | (rw [Ww (fun e => hs e.symm)])
         | (rw [Ww (by rintro rfl; simp at hw)]))
theorem ZkK {oj oi:AOp} {sj si:Nat} {vj vi:AVal} {cj ci:Cls} (hj:Zh O bf oj sj tm σ=some (vj,tm1,σ1,cj)) (hi:Zh O bf oi si tm1 σ1=some (vi,tm2,σ2,ci)) (hap:oj.apartT oi=true)
  (hp:Zbg oj oi cj ci sj=true) (hs:nsite oj.ins≠0->nsite oi.ins≠0->sj≠si) (hs2:sj+nsite oj.ins<=si):∃ tm1' σ1',Zh O bf oi si tm σ=some (vi,tm1',σ1',ci)/\Zh O bf oj sj tm1' σ1'=some (vj,tm2,σ2,cj):=by
 have hd:(∀ d,oj.dst=some d->d ∉ oi.reads)/\(∀ d,oj.dst=some d->oi.dst≠some d)/\(∀ d,oi.dst=some d->d ∉ oj.reads):=by
  unfold AOp.apartT at hap
  simp only [Xc] at hap
  refine ⟨fun d hd hr=>?_,fun d hd he=>?_,fun d hd hr=>?_⟩
  ·have:=hap.1;rw [hd] at this;simp [hr] at this
  ·have:=hap.1;rw [hd] at this;simp [he] at this
  ·have:=hap.2;rw [hd] at this;simp [hr] at this
 obtain ⟨d1,d2,d3⟩:=hd
 have rdI:∀ v n,n ∈ oi.reads->tget (tput tm oj.dst v) n=tget tm n:=fun v n hn=>Zi6 (by intro e;exact d1 n e hn)
 have rdJ:∀ v n,n ∈ oj.reads->tget tm n=tget (tput tm oi.dst v) n:=fun v n hn=>(Zi6 (by intro e;exact d3 n e hn)).symm
 unfold Zbg at hp
 simp only [Wt,Xc] at hp
 have noWr_of:∀ {o:AOp} {c:Cls},Za0 o c=true->ZbA c=true/\c.rd=[]/\nsite o.ins=0:=by
  intro o c h
  simp only [Za0,Xc,beq_iff_eq,W0] at h
  exact ⟨by simp [ZbA,h.1.2,h.2],h.1.1.2,h.1.1.1⟩
 rcases hp with (((((((hp | hp) | ⟨⟨hp1,hp2⟩,hp3⟩) | ⟨hp1,hp2,hp3⟩) | ⟨⟨⟨hp1,hp2⟩,hp3⟩,hp4⟩) | ⟨⟨hp1,hp2⟩,hp4⟩) | ⟨hp1,hp2⟩) | ⟨⟨⟨hp1,hp2⟩,hp3⟩,hp4⟩) | ⟨⟨⟨⟨hp1,hp2⟩,hp3⟩,hp4⟩,hp5⟩
 ·obtain ⟨w1,w2,w3⟩:=noWr_of hp
  obtain ⟨ob,rfl,rfl,e3,_,_,e6⟩:=ZeD hj w1
  have hob:ob=none:=by
   cases ob with
   | none=>rfl
   | some b=>exact absurd w3 (e3 rfl).1
  subst hob
  simp only [Zaf] at hi e6 ⊢
  obtain ⟨rfl,f2⟩:=Zc9 hi
  have g1:=f2 tm (rdI vj)
  refine ⟨_,_,g1,?_⟩
  rw [e6 _ σ2 (rdJ vi) (by rw [w2];intro t ht;simp at ht) (fun h=>absurd w3 h),Zcm vi vj (fun d hd he=>d2 d he hd)]
 ·obtain ⟨w1,w2,w3⟩:=noWr_of hp
  obtain ⟨ob,rfl,rfl,e3,_,_,e6⟩:=ZeD hi w1
  have hob:ob=none:=by
   cases ob with
   | none=>rfl
   | some b=>exact absurd w3 (e3 rfl).1
  subst hob
  simp only [Zaf] at e6 ⊢
  obtain ⟨rfl,f2⟩:=Zc9 hj
  have g1:=e6 tm σ (rdI vj) (by rw [w2];intro t ht;simp at ht) (fun h=>absurd w3 h)
  refine ⟨_,_,g1,?_⟩
  rw [f2 _ (rdJ vi),Zcm vi vj (fun d hd he=>d2 d he hd)]
 ·obtain ⟨ob,rfl,rfl,a3,a4,a5,a6⟩:=ZeD hj hp1
  obtain ⟨oc,rfl,rfl,b3,b4,b5,b6⟩:=ZeD hi hp2
  have hsne:ob.isSome=true->nsite oi.ins≠0->sj≠si:=fun h1 h2=>hs (a3 h1).1 h2
  have hrdi:∀ t ∈ ci.rd,ob.isSome=true->sj≠t:=by
   intro t ht ho e
   subst e
   rcases hp3 with hp3 | hp3
   ·exact (a3 ho).1 (by simpa using hp3)
   ·simp [ht] at hp3
  have g1:=b6 tm σ (rdI vj) (fun t ht=>(Zfk (hrdi t ht)).symm) (fun h2 hf=>by
   rw [Zc1] at hf ⊢
   rwa [Zfk (fun ho=>hsne ho h2)] at hf)
  refine ⟨_,_,g1,?_⟩
  have hsi:oc.isSome=true->σ[si]?=some .free:=by
   intro ho
   have:=(b3 ho).2
   rw [Zc1,Zfk (fun ho'=>hsne ho' (b3 ho).1)] at this
   exact this
  rw [a6 _ (Zaf σ si oc) (rdJ vi) (fun t ht=>Zfk (fun ho e=>by
   subst e
   obtain ⟨x,hx,hne⟩:=a5 si ht
   rw [hsi ho] at hx;injection hx with hx;exact hne hx.symm)) (fun h1 hf=>by
   rw [Zc1] at hf ⊢
   rwa [Zfk (fun ho=>(hs h1 (b3 ho).1).symm)]),Zcm vi vj (fun d hd he=>d2 d he hd),Zm9 (fun h1 h2=>(hs (a3 h2).1 (b3 h1).1).symm)]
 ·obtain ⟨oc,rfl,rfl,b3,b4,b5,b6⟩:=ZeD hi hp2
  have hrd:ci.rd=[]:=by simpa using hp3
  obtain ⟨rfl,f2⟩:=Zc9 hj
  cases oc with
  | none =>
   simp only [Zaf] at b6 ⊢
   have g1:=b6 tm σ (rdI vj) (by rw [hrd];intro t ht;simp at ht) (fun h1 h2=>by
    rw [Zc1] at h2 ⊢
    exact ZsX hp1 hj h2)
   refine ⟨_,_,g1,?_⟩
   rw [f2 _ (rdJ vi),Zcm vi vj (fun d hd he=>d2 d he hd)]
  | some b =>
   have hfr:=(b3 rfl).2
   rw [Zc1] at hfr
   obtain ⟨k1,k2⟩:=ZsF hp1 hj hfr (fun i hi=>by omega)
   have g1:=b6 tm σ (rdI vj) (by rw [hrd];intro t ht;simp at ht) (fun h1 h2=>by
    rw [Zc1] at h2 ⊢;exact k1)
   refine ⟨_,_,g1,?_⟩
   have:=k2 b (tput tm oi.dst vi) (rdJ vi)
   simp only [Zaf]
   rw [this,Zcm vi vj (fun d hd he=>d2 d he hd)]
 ·obtain ⟨t,k,o,q1,rfl,rfl,q4,q5⟩:=ZhQ hp1 hj hp4
  obtain ⟨rfl,f2⟩:=Zc9 hi
  have g1:=f2 tm (rdI vj)
  refine ⟨_,_,g1,?_⟩
  obtain ⟨cs,q6,q7⟩:=q5
  obtain ⟨r1,r2⟩:=ZtT hp2 hi hp3 q6
  have hv:∃ cs,σ2[t]?=some (.var cs)/\partA k cs o=some vj:=by
   unfold ZaY at hp4
   rw [q1] at hp4
   simp only at hp4
   split at hp4
   ·rename_i hl;exact ⟨cs,r1 hl,q7⟩
   ·rename_i cs2 hl
    split at hp4
    ·rename_i u hu
     rw [ZsZ hp4] at hu
     exact ⟨cs2,r2 cs2 hl,hu⟩
    ·cases hp4
  rw [q4 _ σ2 (rdJ vi) hv,Zcm vi vj (fun d hd he=>d2 d he hd)]
 ·obtain ⟨t,k,o,q1,rfl,rfl,q4,q5⟩:=ZhQ hp1 hj hp4
  obtain ⟨rfl,f2⟩:=Zc9 hi
  have g1:=f2 tm (rdI vj)
  refine ⟨_,_,g1,?_⟩
  obtain ⟨cs,q6,q7⟩:=q5
  have hk:σ2[t]?=some (.var cs):=by
   rcases hp2 with hp2 | ⟨hp2,hp3⟩
   ·exact Zuf hp2 hi q6
   ·refine Zs1 hp2 ?_ hi q6
    unfold ZbY at hp3
    rw [q1] at hp3
    simpa using hp3
  rw [q4 _ σ2 (rdJ vi) ⟨cs,hk,q7⟩,Zcm vi vj (fun d hd he=>d2 d he hd)]
 ·obtain ⟨rfl,rfl,q⟩:=Zmy hp1 hj
  obtain ⟨rfl,f2⟩:=Zc9 hi
  have g1:=f2 tm (rdI vj)
  refine ⟨_,_,g1,?_⟩
  rw [q _ σ2 (rdJ vi) (Zym hp2 hi),Zcm vi vj (fun d hd he=>d2 d he hd)]
 ·have hgot:∃ t0 k0 o0 v0,ci.got=[(t0,k0,o0,v0)]/\t0 < sj/\cj.upd.lookup t0=none:=by
   unfold Zb4 at hp4
   split at hp4
   ·rename_i t0 k0 o0 v0 hg
    simp only [Xc,decide_eq_true_eq,Option.isNone_iff_eq_none] at hp4
    exact ⟨t0,k0,o0,v0,hg,hp4.1,hp4.2⟩
   ·cases hp4
  obtain ⟨t0,k0,o0,v0,hg,hlt,hnone⟩:=hgot
  have hg0:ZaY ci {}=true:=by
   unfold ZaY
   rw [hg]
   rfl
  obtain ⟨rfl,f2⟩:=Zc9 hj
  obtain ⟨t,k,o,q1,rfl,rfl,q4,cs,q6,q7⟩:=ZhQ hp2 hi hg0
  rw [hg] at q1
  injection q1 with q1 _
  injection q1 with q1 _
  subst q1
  have hk:=Zme hp1 hj hp3 hnone hlt q6
  have g1:=q4 tm σ (rdI vj) ⟨cs,hk,q7⟩
  refine ⟨_,_,g1,?_⟩
  rw [f2 _ (rdJ vi),Zcm vi vj (fun d hd he=>d2 d he hd)]
 ·obtain ⟨oc,rfl,rfl,b3,b4,b5,b6⟩:=ZeD hi hp3
  have hn0:nsite oi.ins=0:=by simpa using hp4
  have hoc:oc=none:=by
   cases oc with
   | none=>rfl
   | some b=>exact absurd hn0 (b3 rfl).1
  subst hoc
  simp only [Zaf] at b6 ⊢
  obtain ⟨rfl,f2⟩:=Zc9 hj
  have far:∀ t ∈ ci.rd,σ[t]?=σ1[t]?:=by
   intro t ht
   have hq:=Xv.1 hp5 t ht
   simp only [Xc,Wo,bne_iff_ne,ne_eq] at hq
   rcases ZhW hp1 hj with ⟨_,_,rfl,_⟩ | ⟨_,_,_,_,_,ha,_⟩
   ·rfl
   ·exact (Zmr ha (by simpa using hp2) hq.1 hq.2).symm
  have g1:=b6 tm σ (rdI vj) far (fun h1 _=>absurd hn0 h1)
  refine ⟨_,_,g1,?_⟩
  rw [f2 _ (rdJ vi),Zcm vi vj (fun d hd he=>d2 d he hd)]
inductive Zbm (O:Zq) (bf:Nat->Bool) (ops:List AOp) (L:Nat) (cs:List Cls):List Nat->Tms->Za->Tms->Za->Prop
 | nil {tm:Tms} {σ:Za}:Zbm O bf ops L cs [] tm σ tm σ
 | cons {i:Nat} {l:List Nat} {v:AVal} {tm tm1 tm2:Tms} {σ σ1 σ2:Za}:Zh O bf (ops.getD i default) (L+sitesOf (ops.take i)) tm σ=some (v,tm1,σ1,cs.getD i {})->(∀ x,v≠.pan x)->Zbm O bf ops L cs l tm1 σ1 tm2 σ2->Zbm O bf ops L cs (i::l) tm σ tm2 σ2
theorem Zhb (ops:List AOp) {k:Nat} (h:k < ops.length):sitesOf (ops.take (k+1))=sitesOf (ops.take k)+nsite (ops[k]).ins:=by
 rw [List.take_succ_eq_append_getElem h]
 simp only [sitesOf,Wd,List.sum_append,XB,X6,List.sum_cons,List.sum_nil,X4]
theorem Zi7 {ops:List AOp} {L:Nat}:∀ (m k:Nat) {cs cs':List Cls} {tm:Tms} {σ:Za} {tm':Tms} {σ':Za},k+m=ops.length->Zp O bf (ops.drop k) (L+sitesOf (ops.take k)) tm σ=some (tm',σ',cs',none)->(∀ j,cs'.getD j {}=cs.getD (k+j) {})->Zbm O bf ops L cs (Xad k m) tm σ tm' σ'
 | 0,k,cs,cs',tm,σ,tm',σ',hk,h,hcs=>by
  rw [X7 (by omega)] at h
  simp only [Zp,Xa,Xb] at h
  obtain ⟨rfl,rfl,rfl,_⟩:=h
  exact Zbm.nil
 | m+1,k,cs,cs',tm,σ,tm',σ',hk,h,hcs=>by
  have hlt:k < ops.length:=by omega
  rw [Wy hlt] at h
  simp only [Zp] at h
  split at h
  ·cases h
  ·simp only [Xa,Xb] at h
   obtain ⟨_,_,_,h⟩:=h
   cases h
  rename_i v tm1 σ1 c hnp h1
  split at h
  ·cases h
  rename_i tm2 σ2 cs2 p h2
  simp only [Xa,Xb] at h
  obtain ⟨rfl,rfl,rfl,rfl⟩:=h
  rw [XaG]
  have hc0:=hcs 0
  simp only [XN,X4] at hc0
  refine Zbm.cons (v:=v) (tm1:=tm1) (σ1:=σ1) ?_ (fun x e=>?_) (Zi7 m (k+1) (by omega) (cs':=cs2) ?_ (fun j=>?_))
  ·rw [<-hc0]
   simpa [Xd,hlt] using h1
  ·exact hnp x e
  ·rw [Zhb ops hlt,<-Ws];exact h2
  ·have:=hcs (j+1)
   simp only [XY] at this
   rw [this]
   congr 1;omega
theorem Zia {ops:List AOp} {L:Nat} {cs:List Cls} {i:Nat} {l2:List Nat}:∀ {l1:List Nat} {tm:Tms} {σ:Za} {tm':Tms} {σ':Za},(∀ j ∈ l1,(ops.getD j default).apartT (ops.getD i default)=true/\Zbg (ops.getD j default) (ops.getD i default) (cs.getD j {}) (cs.getD i {}) (L+sitesOf (ops.take j))=true/\(nsite (ops.getD j default).ins≠0->nsite (ops.getD i default).ins≠0->L+sitesOf (ops.take j)≠L+sitesOf (ops.take i))/\L+sitesOf (ops.take j)+nsite (ops.getD j default).ins<=L+sitesOf (ops.take i)) ->
  Zbm O bf ops L cs (l1++i::l2) tm σ tm' σ'->∃ v tm1 σ1,Zh O bf (ops.getD i default) (L+sitesOf (ops.take i)) tm σ=some (v,tm1,σ1,cs.getD i {})/\(∀ x,v≠.pan x)/\Zbm O bf ops L cs (l1++l2) tm1 σ1 tm' σ'
 | [],tm,σ,tm',σ',_,h=>by
  cases h with
  | cons h1 hn h2=>exact ⟨_,_,_,h1,hn,h2⟩
 | j::l1,tm,σ,tm',σ',hall,h=>by
  cases h with
  | cons h1 hn h2 =>
   obtain ⟨v3,tm3,σ3,h3,hn3,h4⟩:=Zia (l1:=l1) (fun k hk=>hall k (by simp [hk])) h2
   obtain ⟨p1,p2,p3,p4⟩:=hall j (by simp)
   obtain ⟨tm4,σ4,h5,h6⟩:=ZkK h1 h3 p1 p2 p3 p4
   exact ⟨v3,tm4,σ4,h5,hn3,Zbm.cons h6 hn h4⟩
theorem ZkT {ops:List AOp} {L:Nat} {x:AVal}:∀ (m k:Nat) {cs cs':List Cls} {tm:Tms} {σ:Za} {tm':Tms} {σ':Za},k+m=ops.length->Zp O bf (ops.drop k) (L+sitesOf (ops.take k)) tm σ=some (tm',σ',cs',some x)->(∀ j,cs'.getD j {}=cs.getD (k+j) {}) ->
  ∃ n tmJ σJ tmX,n < m/\cs'.length=n+1/\Zbm O bf ops L cs (Xad k n) tm σ tmJ σJ/\Zh O bf (ops.getD (k+n) default) (L+sitesOf (ops.take (k+n))) tmJ σJ=some (.pan x,tmX,σ',cs.getD (k+n) {})
 | 0,k,cs,cs',tm,σ,tm',σ',hk,h,hcs=>by
  rw [X7 (by omega)] at h
  simp [Zp] at h
 | m+1,k,cs,cs',tm,σ,tm',σ',hk,h,hcs=>by
  have hlt:k < ops.length:=by omega
  rw [Wy hlt] at h
  simp only [Zp] at h
  have hc0:=hcs 0
  have hg:ops.getD k default=ops[k]:=by simp [Xd,hlt]
  split at h
  ·cases h
  ·rename_i y tm1 σ1 c h1
   simp only [Xa,Xb] at h
   obtain ⟨rfl,rfl,rfl,rfl⟩:=h
   simp only [XN,X4] at hc0
   refine ⟨0,tm,σ,tm1,by omega,rfl,Zbm.nil,?_⟩
   rw [X4,<-hc0,hg]
   exact h1
  rename_i v tm1 σ1 c hnp h1
  split at h
  ·cases h
  rename_i tm2 σ2 cs2 p h2
  simp only [Xa,Xb] at h
  obtain ⟨rfl,rfl,rfl,rfl⟩:=h
  simp only [XN,X4] at hc0
  have hnext:Zp O bf (ops.drop (k+1)) (L+sitesOf (ops.take (k+1))) tm1 σ1=some (tm2,σ2,cs2,some x):=by
   rw [Zhb ops hlt,<-Ws]
   exact h2
  obtain ⟨n,tmJ,σJ,tmX,g1,g2,g3,g4⟩:=ZkT m (k+1) (cs:=cs) (by omega) hnext (fun j=>by
   have:=hcs (j+1)
   simp only [XY] at this
   rw [this];congr 1;omega)
  refine ⟨n+1,tmJ,σJ,tmX,by omega,by simp [g2],?_,?_⟩
  ·rw [XaG]
   refine Zbm.cons (v:=v) (tm1:=tm1) (σ1:=σ1) ?_ (fun x e=>hnp x e) g3
   rw [<-hc0,hg]
   exact h1
  ·rw [show k+(n+1)=k+1+n by omega]
   exact g4
theorem Zmn {o:AOp} {v:AVal} {c:Cls} {tm tm1:Tms} {σ σ1:Za} {sq:Nat} (hq:o.ins.touches=false\/ZaJ o.ins=true) (h:Zh O bf o sq tm σ=some (v,tm1,σ1,c)):σ1=σ:=by
 unfold Zh at h
 split at h
 ·cases h
 ·simp only [Xa,Xb] at h;exact h.2.2.1.symm
 ·split at h
  ·split at h
   ·rename_i he
    simp only [Xa,Xb] at h
    rw [<-h.2.2.1]
    rcases hq with hq | hq
    ·exact ZwF hq he
    ·cases hi:o.ins with
     | ld k a =>
      rw [hi] at he
      simp only [execI] at he
      unfold ldA at he
      repeat' split at he
      all_goals first | (simp only [Xa,Xb] at he;exact he.2.1.symm) | cases he
     | _=>rw [hi] at hq;simp [ZaJ] at hq
   ·cases h
  ·cases h
theorem ZiI {ops:List AOp} {L:Nat} {cs:List Cls} {i:Nat} {x:AVal} {tmX:Tms} {σX:Za}:∀ {l1:List Nat} {tm:Tms} {σ:Za} {tm':Tms} {σ':Za},(∀ j ∈ l1,((ops.getD j default).ins.touches=false\/ZaJ (ops.getD j default).ins=true)/\(ops.getD j default).apartT (ops.getD i default)=true/\Zbg (ops.getD j default) (ops.getD i default) (cs.getD j {}) (cs.getD i {}) (L+sitesOf (ops.take j))=true/\(nsite (ops.getD j default).ins≠0->nsite (ops.getD i default).ins≠0->L+sitesOf (ops.take j)≠L+sitesOf (ops.take i))/\L+sitesOf (ops.take j)+nsite (ops.getD j default).ins<=L+sitesOf (ops.take i)) ->
  Zbm O bf ops L cs l1 tm σ tm' σ'->Zh O bf (ops.getD i default) (L+sitesOf (ops.take i)) tm' σ'=some (.pan x,tmX,σX,cs.getD i {})->∃ tm1,Zh O bf (ops.getD i default) (L+sitesOf (ops.take i)) tm σ=some (.pan x,tm1,σX,cs.getD i {})
 | [],tm,σ,tm',σ',_,h,hp=>by
  cases h
  exact ⟨_,hp⟩
 | j::l1,tm,σ,tm',σ',hall,h,hp=>by
  cases h with
  | cons h1 hn h2 =>
   obtain ⟨tm3,h3⟩:=ZiI (l1:=l1) (fun k hk=>hall k (by simp [hk])) h2 hp
   obtain ⟨hq,p1,p2,p3,p4⟩:=hall j (by simp)
   obtain ⟨tm4,σ4,h5,h6⟩:=ZkK h1 h3 p1 p2 p3 p4
   have:=Zmn hq h6
   subst this
   exact ⟨tm4,h5⟩
end
end
section
open Go.RowKit
section
variable {P:Program} {O:Zq} {bf:Nat->Bool} {an:Ann} {base:Nat->Prop} {w0:World} {I0:Imm}
structure Door where
 D:List Deferred
 K:List Nat
 X:Nat->Value
def Door.ok (dr:Door) (a:Act):Prop:=a.defers=dr.D/\∀ j ∈ dr.K,a.tmps.getD j undef=dr.X j
def Zaz:Door:=⟨[],[],fun _=>undef⟩
theorem ZcH {a:Act}:Zaz.ok a↔a.defers=[]:=by simp [Door.ok,Zaz]
def StR (dr:Door) (nt:Nat) (base:Nat->Prop) (w0:World) (I0 I:Imm) (β:Bmap) (tm:Tms) (σ:Za) (a:Act) (w:World):Prop :=
 ∃ I' β',I.le I'/\β.le β'/\TR I' β' tm a.tmps/\(dr.ok a/\nt<=a.tmps.size)/\Rel base w0 I0 I' β' σ w
variable {dr:Door}
theorem StR.trans {nt:Nat} {I I1:Imm} {β β1:Bmap} {tm:Tms} {σ:Za} {a:Act} {w:World} (hI:I.le I1) (hβ:β.le β1) (h:StR dr nt base w0 I0 I1 β1 tm σ a w):StR dr nt base w0 I0 I β tm σ a w:=by
 obtain ⟨I',β',h1,h2,h3⟩:=h
 exact ⟨I',β',hI.trans h1,hβ.trans h2,h3⟩
theorem Post.trans {I I1:Imm} {β β1:Bmap} {x:AVal} {σ:Za} {u:Value} {w:World} (hI:I.le I1) (hβ:β.le β1) (h:Post base w0 I0 I1 β1 x σ u w):Post base w0 I0 I β x σ u w:=by
 obtain ⟨I',β',h1,h2,h3⟩:=h
 exact ⟨I',β',hI.trans h1,hβ.trans h2,h3⟩
theorem Zlp {I:Imm} {β:Bmap} {tm:Tms} {a:Act} {v:AVal} {u:Value} (T:TR I β tm a.tmps) (hv:VR I β v u) {d:Option Nat} (hd:∀ n,d=some n->n < a.tmps.size):TR I β (tput tm d v) (a.put d u).tmps:=by
 cases d with
 | none=>exact T
 | some d=>exact T.put hv (hd d rfl)
theorem Zge (a:Act) (d:Option Nat) (u:Value):(a.put d u).defers=a.defers:=by cases d <;> rfl
theorem ZfJ {a:Act} {d:Option Nat} {u:Value} (h:dr.ok a) (hd:∀ n,d=some n->n ∉ dr.K):dr.ok (a.put d u):=by
 refine ⟨(Zge a d u).trans h.1,fun j hj=>?_⟩
 rw [<-h.2 j hj]
 cases d with
 | none=>rfl
 | some n =>
  have hne:n≠j:=by rintro rfl;exact hd n rfl hj
  simp only [Act.put,Wj]
  rw [X9 hne]
theorem ZbW (a:Act) (d:Option Nat) (u:Value):(a.put d u).tmps.size=a.tmps.size:=by cases d <;> simp [Act.put]
theorem Zjq {I:Imm} {β:Bmap} {tm:Tms} {a:Act} (T:TR I β tm a.tmps) {ops:Array Oper} {o:Oper} {g:Option (Nat×Bool)} (hg:Zgw ops o.guard=some g) {b:Bool} (h:Zay g tm=some b):Region.wanted o (yielded ops a.tmps)=b:=by
 unfold Zgw at hg
 unfold Region.wanted
 split at hg
 ·rename_i e
  injection hg with hg;subst hg
  simp only [Zay,Xa] at h
  subst h
  rw [e]
 ·rename_i j want e
  split at hg
  ·rename_i o' ho'
   split at hg
   ·rename_i d hd
    injection hg with hg;subst hg
    rw [e]
    show (yielded ops a.tmps j == some want)=b
    have hy:yielded ops a.tmps j=match a.tmps[d]? with | some (.bool b)=>some b | _=>none:=by
     simp only [yielded,ho',Wl,hd]
     rfl
    rw [hy]
    have hx:=T d
    rw [Wj] at hx
    simp only [Zay] at h
    split at h
    ·rename_i b' hb'
     rw [hb'] at hx
     simp only [VR] at hx
     have : a.tmps[d]?=some (.bool b'):=by
      cases hq:a.tmps[d]? with
      | none=>rw [hq] at hx;simp [undef] at hx
      | some q=>rw [hq] at hx;simp at hx;subst hx;rfl
     rw [this]
     simp only [Xa] at h
     subst h
     cases b' <;> cases want <;> rfl
    ·rename_i hb'
     rw [hb'] at hx
     simp only [VR,VRs] at hx
     obtain ⟨us,hus,hnil⟩:=hx
     injection h with h;subst h
     cases hq:a.tmps[d]? with
     | none=>rfl
     | some q =>
      rw [hq] at hus;simp at hus;subst hus
      rfl
    ·cases h
   ·cases hg
  ·cases hg
theorem ZgH {ops:Array Oper} {o:Oper} {ao:AOp} (hc:ZdD P an ops o=some ao):∃ g i,Zgw ops o.guard=some g/\(∃ own,Zs P an own o.op=some i)/\(∀ n,o.dst=some n->n < an.nt/\n ∉ an.keep)/\ao=⟨o.dst,i,g,(o.after.toList.filter (Region.binds .any)).map (·.on)⟩:=by
 unfold ZdD at hc
 split at hc
 ·rename_i g i hg hi
  split at hc
  ·rename_i hd
   injection hc with hc
   refine ⟨g,i,hg,⟨_,hi⟩,fun n hn=>?_,hc.symm⟩
   rw [hn] at hd
   simp only [ZkQ,Xc,decide_eq_true_eq,Wo,Xau,decide_eq_false_iff_not] at hd
   exact hd
  ·cases hc
 ·cases hc
theorem Zei (hO:ZY P O) (hkp:∀ n ∈ dr.K,n ∈ an.keep) {ops:Array Oper} {o:Oper} {ao:AOp} (hc:ZdD P an ops o=some ao) {I:Imm} {β:Bmap} {tm tm':Tms} {σ σ':Za} {a:Act} {w:World} (T:TR I β tm a.tmps) (hd:dr.ok a/\an.nt<=a.tmps.size) (R:Rel base w0 I0 I β σ w) (hb:KLt base w0)
  {sq:Nat} {v:AVal} {c:Cls} (h:Zh O bf ao sq tm σ=some (v,tm',σ',c)) {K:Act->World->Prop} {Q:Exit->Act->World->Prop} (hK:(∀ x,v≠.pan x)->∀ a' w',StR dr an.nt base w0 I0 I β tm' σ' a' w'->K a' w')
  (hQ:∀ x,v=.pan x->∀ u w',Post base w0 I0 I β x σ' u w'->Q (.panic [{ v:=u,recovered:=false }]) a w') :
  if Region.wanted o (yielded ops a.tmps) then o.wp P a w K Q\/(o.asks P a w/\LetsOut Q) else K (a.put o.dst undef) w:=by
 obtain ⟨g,i,hg,⟨own,hi⟩,hdst,rfl⟩:=ZgH hc
 have hdst':∀ n,o.dst=some n->n < a.tmps.size:=fun n hn=>Nat.lt_of_lt_of_le (hdst n hn).1 hd.2
 have hdk:∀ n,o.dst=some n->n ∉ dr.K:=fun n hn hm=>(hdst n hn).2 (hkp n hm)
 unfold Zh at h
 split at h
 ·cases h
 ·rename_i hw
  simp only at hw
  rw [Zjq T hg hw]
  simp only [Xa,Xb] at h
  obtain ⟨rfl,rfl,rfl,rfl⟩:=h
  simp only [Xg,if_false]
  exact hK (by simp) _ _ ⟨I,β,Imm.le.refl I,Bmap.le.refl β,Zlp T (ZgB I β) hdst',⟨ZfJ hd.1 hdk,by rw [ZbW];exact hd.2⟩,R⟩
 ·rename_i hw
  simp only at hw
  rw [Zjq T hg hw]
  simp only [if_true]
  split at h
  ·rename_i hf
   split at h
   ·rename_i v' σ1 c' he
    simp only [Xa,Xb] at h
    obtain ⟨rfl,rfl,rfl,rfl⟩:=h
    have hs:nsite i≠0->σ[sq]?=some .free:=by
     intro hn
     simp only [Wt,beq_iff_eq] at hf
     exact Zc1.1 (hf.resolve_left hn)
    rcases Znf hO hi T R hb hs he with hok | ⟨x,rfl,hpan⟩
    ·refine Xo (hok.wp (fun u w' hp=>?_))
     obtain ⟨I',β',h1,h2,h3,h4⟩:=hp
     refine hK ?_ _ _ ⟨I',β',h1,h2,Zlp (T.mono h1 h2) h4 hdst',⟨ZfJ hd.1 hdk,by rw [ZbW];exact hd.2⟩,h3⟩
     rintro x rfl
     simp only [VR] at h4
    ·exact Xo (hpan.wp (fun u w' hp=>hQ x rfl u w' hp))
   ·cases h
  ·cases h
theorem Zip (hO:ZY P O) (hkp:∀ n ∈ dr.K,n ∈ an.keep) (hb:KLt base w0) {ops:Array Oper} {Q:Exit->Act->World->Prop}:∀ {l:List Oper} {asl:List AOp} {sq:Nat} {I:Imm} {β:Bmap} {tm tm':Tms} {σ σ':Za} {cs:List Cls} {p:Option AVal} {a:Act} {w:World},Za6 P an ops l=some asl->TR I β tm a.tmps->(dr.ok a/\an.nt<=a.tmps.size)->Rel base w0 I0 I β σ w ->
  Zp O bf asl sq tm σ=some (tm',σ',cs,p)->(p=none->∀ a' w',StR dr an.nt base w0 I0 I β tm' σ' a' w'->Q .normal a' w') ->
  (∀ x,p=some x->∀ a' u w',dr.ok a'->Post base w0 I0 I β x σ' u w'->Q (.panic [{ v:=u,recovered:=false }]) a' w')->wpList P ops Q l a w
 | [],asl,sq,I,β,tm,tm',σ,σ',cs,p,a,w,hc,T,hd,R,h,hQ,_=>by
  simp only [Za6,Xa] at hc;subst hc
  simp only [Zp,Xa,Xb] at h
  obtain ⟨rfl,rfl,rfl,rfl⟩:=h
  exact wpList_nil (hQ rfl _ _ ⟨I,β,Imm.le.refl I,Bmap.le.refl β,T,hd,R⟩)
 | o::l,asl,sq,I,β,tm,tm',σ,σ',cs,p,a,w,hc,T,hd,R,h,hQ,hP=>by
  simp only [Za6] at hc
  split at hc
  ·rename_i ao hao
   split at hc
   ·rename_i as' has'
    injection hc with hc;subst hc
    simp only [Zp] at h
    split at h
    ·cases h
    ·rename_i x tm1 σ1 c1 h1
     simp only [Xa,Xb] at h
     obtain ⟨rfl,rfl,rfl,rfl⟩:=h
     have:=Zei (dr:=dr) (K:=wpList P ops Q l) (Q:=Q) hO hkp hao T hd R hb h1 (fun hn=>absurd rfl (hn x)) (fun x' e u w' hp=>by
      injection e with e;subst e
      exact hP x rfl a u w' hd.1 hp)
     unfold wpList
     exact this
    ·rename_i v tm1 σ1 c1 hnp h1
     split at h
     ·cases h
     rename_i tm2 σ2 cs2 p2 h2
     simp only [Xa,Xb] at h
     obtain ⟨rfl,rfl,rfl,rfl⟩:=h
     have:=Zei (dr:=dr) (K:=wpList P ops Q l) (Q:=Q) hO hkp hao T hd R hb h1 (fun _ a' w' hs=>by
      obtain ⟨I',β',g1,g2,g3,g4,g5⟩:=hs
      exact Zip hO hkp hb has' g3 g4 g5 h2 (fun hp a'' w'' hs'=>hQ hp a'' w'' (hs'.trans g1 g2)) (fun x hx a'' u w'' hd' hp=>hP x hx a'' u w'' hd' (hp.trans g1 g2))) (fun x e=>absurd e (fun e=>hnp x e))
     unfold wpList
     exact this
   ·cases hc
  ·cases hc
theorem Ze5 {ops:Array Oper}:∀ {l:List Oper} {asl:List AOp},Za6 P an ops l=some asl->asl.length=l.length/\∀ (i:Nat) (o:Oper),l[i]?=some o->∃ ao,asl[i]?=some ao/\ZdD P an ops o=some ao
 | [],asl,h=>by simp only [Za6,Xa] at h;subst h;exact ⟨rfl,fun i o ho=>by simp at ho⟩
 | o::l,asl,h=>by
  simp only [Za6] at h
  split at h
  ·rename_i ao hao
   split at h
   ·rename_i as' has'
    injection h with h;subst h
    obtain ⟨h1,h2⟩:=Ze5 has'
    refine ⟨by simp [h1],fun i o' ho'=>?_⟩
    cases i with
    | zero=>simp only [XI,Xa] at ho';subst ho';exact ⟨ao,rfl,hao⟩
    | succ i=>simp only [List.getElem?_cons_succ] at ho' ⊢;exact h2 i o' ho'
   ·cases h
  ·cases h
theorem ZhF:∀ (ls acc:List (List Nat)),(∀ j p,p ∈ (acc.getD j [])->True)->(ZaX ls acc).take acc.length=acc/\(ZaX ls acc).length=acc.length+ls.length /\
  ∀ j,j < ls.length->∀ p,p ∈ (ZaX ls acc).getD (acc.length+j) []->p ∈ ls.getD j []\/∃ i ∈ ls.getD j [],i < acc.length+j/\p ∈ (ZaX ls acc).getD i []
 | [],acc,_=>by simp [ZaX]
 | l::ls,acc,_=>by
  obtain ⟨h1,h2,h3⟩:=ZhF ls (acc++[l++l.flatMap fun i=>acc.getD i []]) (fun _ _ _=>trivial)
  simp only [ZaX]
  have hlen:(acc++[l++l.flatMap fun i=>acc.getD i []]).length=acc.length+1:=by simp
  rw [hlen] at h1 h2 h3
  have hpre:∀ i,i < acc.length+1->(ZaX ls (acc++[l++l.flatMap fun i=>acc.getD i []])).getD i []=(acc++[l++l.flatMap fun i=>acc.getD i []]).getD i []:=by
   intro i hi
   have:=congrArg (fun q:List (List Nat)=>q.getD i []) h1
   simp only [Xd,List.getElem?_take,hi,if_true] at this ⊢
   exact this
  refine ⟨?_,by rw [h2];simp;omega,?_⟩
  ·have:=congrArg (List.take acc.length) h1
   rw [List.take_take,Nat.min_eq_left (by omega)] at this
   rw [this];simp
  ·intro j hj p hp
   cases j with
   | zero =>
    rw [X4,hpre _ (by omega)] at hp
    simp only [Xd,WL (XO _),W4,XI,WF,Xn,X1] at hp
    rcases hp with hp | ⟨i,hi,hp⟩
    ·exact Xo (by simpa using hp)
    ·refine Xw ⟨i,by simpa using hi,?_,?_⟩
     ·by_cases hlt:i < acc.length
      ·omega
      ·rw [XT (by omega)] at hp;simp at hp
     ·have hlt:i < acc.length:=by
       by_cases hlt:i < acc.length
       ·exact hlt
       ·rw [XT (by omega)] at hp;simp at hp
      rw [hpre i (by omega)]
      simp only [Xd,Wp hlt]
      exact hp
   | succ j =>
    have:=h3 j (by simpa using hj) p (by rw [show acc.length+1+j=acc.length+(j+1) by omega];exact hp)
    rcases this with h | ⟨i,h4,h5,h6⟩
    ·exact Xo (by simpa using h)
    ·exact Xw ⟨i,by simpa using h4,by omega,h6⟩
theorem Zky (f:Nat->Nat) (p:Nat):∀ (l:List Nat) (m:Nat),(l.foldl (fun m i=>m ||| 2 ^ i ||| f i) m).testBit p=true->m.testBit p=true\/p ∈ l\/∃ i ∈ l,(f i).testBit p=true
 | [],m,h=>Xo h
 | i::l,m,h=>by
  rcases Zky f p l _ h with h | h | ⟨j,h1,h2⟩
  ·simp only [Nat.testBit_or,Wt,Nat.testBit_two_pow,decide_eq_true_eq] at h
   rcases h with (h | h) | h
   ·exact Xo h
   ·exact Xw (Xo (by simp [h]))
   ·exact Xw (Xw ⟨i,by simp,h⟩)
  ·exact Xw (Xo (by simp [h]))
  ·exact Xw (Xw ⟨j,by simp [h1],h2⟩)
theorem Zif:∀ (ls:List (List Nat)) (accM:List Nat) (accL:List (List Nat)),accM.length=accL.length->(∀ j p,(accM.getD j 0).testBit p=true->p ∈ accL.getD j [])->∀ j p,((Zek ls accM).getD j 0).testBit p=true->p ∈ (ZaX ls accL).getD j []
 | [],accM,accL,_,h=>h
 | l::ls,accM,accL,hl,h=>by
  simp only [Zek,ZaX]
  refine Zif ls _ _ (by simp [hl]) ?_
  intro j p hp
  by_cases hj:j < accM.length
  ·simp only [Xd,Wp hj] at hp
   simp only [Xd,Wp (show j < accL.length by omega)]
   have:=h j p (by simpa [Xd] using hp)
   simpa [Xd] using this
  ·by_cases hj':j=accM.length
   ·subst hj'
    simp only [Xd,WL (XO _),W4,XI,WF] at hp
    rw [hl]
    simp only [Xd,WL (XO _),W4,XI,WF,Xn,X1]
    rcases Zky _ p l 0 hp with h0 | h0 | ⟨i,h1,h2⟩
    ·simp at h0
    ·exact Xo h0
    ·refine Xw ⟨i,h1,?_⟩
     have:=h i p (by simpa [Xd] using h2)
     simpa [Xd] using this
   ·simp only [Xd] at hp
    rw [XT (by simp;omega)] at hp
    simp at hp
theorem Zk3 {asl:List AOp} {ps:List (Nat×Nat)} (h:ZcS asl=some ps) :
  (∀ i j,i < j->j < asl.length->i ∉ (ZaX (asl.map (·.after)) []).getD j []->(asl.getD i default).apartT (asl.getD j default)=true/\((asl.getD i default).ins.touches=false\/(asl.getD j default).ins.touches=false\/(i,j) ∈ ps))/\(∀ j,j < asl.length->∀ i ∈ (asl.getD j default).after,i < j):=by
 have hsub:=Zif (asl.map (·.after)) [] [] rfl (by simp)
 unfold ZcS at h
 simp only at h
 split at h
 ·rename_i hc
  simp only [Xc,Xv,X1,XL,Wf,WJ,forall_exists_index,and_imp,Wo,decide_eq_true_eq] at hc
  obtain ⟨h1,h2⟩:=hc
  injection h with h
  have hbit:∀ i j,i ∉ (ZaX (asl.map (·.after)) []).getD j []->((Zek (asl.map (·.after)) []).getD j 0).testBit i=false:=by
   intro i j hn
   cases hb:((Zek (asl.map (·.after)) []).getD j 0).testBit i with
   | false=>rfl
   | true=>exact absurd (hsub j i hb) hn
  refine ⟨fun i j hij hj hn=>⟨?_,?_⟩,fun j hj i hi=>h2 j hj i hi⟩
  ·exact h1 (i,j) j hj i hij (hbit i j hn) rfl
  ·cases ht1:(asl.getD i default).ins.touches with
   | false=>exact Xo rfl
   | true =>
    cases ht2:(asl.getD j default).ins.touches with
    | false=>exact Xw (Xo rfl)
    | true =>
     refine Xw (Xw ?_)
     rw [<-h]
     rw [Xn]
     refine Xo ?_
     simp only [Wf,X1,XL,WJ,Xc]
     exact ⟨⟨j,hj,i,⟨hij,by rw [hbit i j hn];rfl⟩,rfl⟩,ht1,ht2⟩
 ·cases h
theorem ZtA {asl:List AOp} {ps:List (Nat×Nat)} (h:ZcS asl=some ps) {j:Nat} (hm:(j,j) ∈ ps):∀ k,j < k->k < asl.length->j ∈ (ZaX (asl.map (·.after)) []).getD k []:=by
 have hsub:=Zif (asl.map (·.after)) [] [] rfl (by simp)
 unfold ZcS at h
 simp only at h
 split at h
 ·injection h with h
  rw [<-h,Xn] at hm
  rcases hm with hm | hm
  ·simp only [Wf,X1,XL,WJ,Xb] at hm
   obtain ⟨⟨a,_,b,⟨hb,_⟩,e1,e2⟩,_⟩:=hm
   omega
  ·simp only [XL,Wf,WJ,Xb,and_self,Xc,Xv,Wt,decide_eq_true_eq] at hm
   obtain ⟨a,⟨_,_,ha⟩,rfl⟩:=hm
   intro k hk hkl
   rcases ha k hkl with h1 | h1
   ·omega
   ·exact hsub k a h1
 ·cases h
theorem Zrg {asl:List AOp} {ps:List (Nat×Nat)} (h:ZcS asl=some ps) {j:Nat} (hm:(j,j) ∈ ps):(asl.getD j default).ins.touches=true:=by
 unfold ZcS at h
 simp only at h
 split at h
 ·injection h with h
  rw [<-h,Xn] at hm
  rcases hm with hm | hm
  ·simp only [Wf,X1,XL,WJ,Xb] at hm
   obtain ⟨⟨a,_,b,⟨hb,_⟩,e1,e2⟩,_⟩:=hm
   omega
  ·simp only [XL,Wf,WJ,Xb,and_self,Xc] at hm
   obtain ⟨a,⟨_,hc,_⟩,rfl⟩:=hm
   cases hi:(asl.getD a default).ins <;> rw [hi] at hc <;> first | rfl | (simp [ZaD] at hc)
 ·cases h
end
end
section
open Go.RowKit
section
variable {P:Program} {O:Zq} {bf:Nat->Bool} {an:Ann} {base:Nat->Prop} {w0:World} {I0:Imm} {dr:Door}
theorem ZwS {o:AOp} {tm tm1:Tms} {σ σ1:Za} {sq:Nat} {v:AVal} {c:Cls} (ht:o.ins.touches=false) (h:Zh O bf o sq tm σ=some (v,tm1,σ1,c)):c={}:=by
 unfold Zh at h
 split at h
 ·cases h
 ·simp only [Xa,Xb] at h;exact h.2.2.2.symm
 ·split at h
  ·split at h
   ·rename_i he
    simp only [Xa,Xb] at h
    rw [<-h.2.2.2]
    exact (Zwh ht he).1
   ·cases h
  ·cases h
theorem ZeP {i:Ins} (h:i.touches=false):nsite i=0:=by cases i <;> simp [Ins.touches] at h <;> rfl
theorem Zej {asl:List AOp} {L:Nat} {cs:List Cls}:∀ {l:List Nat} {tm tm':Tms} {σ σ':Za},Zbm O bf asl L cs l tm σ tm' σ'->∀ j ∈ l,(asl.getD j default).ins.touches=false->cs.getD j {}={}
 | [],_,_,_,_,_,j,hj,_=>by simp at hj
 | i::l,_,_,_,_,h,j,hj,ht=>by
  cases h with
  | cons h1 _ h2 =>
   rcases XG.1 hj with rfl | hj
   ·exact ZwS ht h1
   ·exact Zej h2 j hj ht
theorem Zed (asl:List AOp):∀ {j i:Nat},j < i->i<=asl.length->sitesOf (asl.take j)+nsite (asl.getD j default).ins<=sitesOf (asl.take i):=by
 intro j i hji hi
 induction i with
 | zero=>omega
 | succ i ih =>
  rw [Zhb asl (by omega)]
  by_cases e:j=i
  ·subst e
   simp [Xd,show j < asl.length by omega]
  ·have:=ih (by omega) (by omega);omega
theorem Zvx (hO:ZY P O) (hkp:∀ n ∈ dr.K,n ∈ an.keep) (hb:KLt base w0) {ops:Array Oper} {asl:List AOp} (hcomp:Za6 P an ops ops.toList=some asl) {ps:List (Nat×Nat)} (hps:ZcS asl=some ps) {L:Nat} {cs:List Cls} (hchk:ZbH asl L ps cs=true)
  {tmF:Tms} {σF:Za} {Q:Exit->Act->World->Prop} {I:Imm} {β:Bmap} (hQ:∀ a' w',StR dr an.nt base w0 I0 I β tmF σF a' w'->Q .normal a' w') :
  ∀ (fuel:Nat) (rem:List Nat) (listed:Array Bool) (a:Act) (w:World) (tm:Tms) (σ:Za),Zbm O bf asl L cs rem tm σ tmF σF->rem.Pairwise (· < ·)->(∀ j ∈ rem,j < ops.size)->(∀ j,j < ops.size->(listed.getD j true=true↔j ∉ rem))->listed.size=ops.size ->
   (∀ k,k < ops.size->k ∉ rem->∀ p ∈ (ZaX (asl.map (·.after)) []).getD k [],p ∉ rem)->rem.length=fuel->StR dr an.nt base w0 I0 I β tm σ a w->wpAny P .any ops Q fuel listed a w:=by
 obtain ⟨hlen,hget⟩:=Ze5 hcomp
 obtain ⟨hp1,hp2⟩:=Zk3 hps
 obtain ⟨_,_,hanc⟩:=ZhF (asl.map (·.after)) [] (fun _ _ _=>trivial)
 simp only [XF] at hlen
 have hafter:∀ j o,ops[j]?=some o->∃ ao,asl.getD j default=ao/\ZdD P an ops o=some ao/\ao.after=(o.after.toList.filter (Region.binds .any)).map (·.on)/\ao.dst=o.dst:=by
  intro j o ho
  obtain ⟨ao,h1,h2⟩:=hget j o (by simpa using ho)
  refine ⟨ao,by simp [Xd,h1],h2,?_⟩
  obtain ⟨g,i,_,_,_,rfl⟩:=ZgH h2
  exact ⟨rfl,rfl⟩
 intro fuel
 induction fuel with
 | zero =>
  intro rem listed a w tm σ hr hs hlt hl hsz hcl hfl hst
  have : rem=[]:=XQ hfl
  subst this
  cases hr
  refine ⟨?_,hQ a w hst⟩
  apply List.eq_nil_iff_forall_not_mem.2
  intro j hj
  rw [mem_ready] at hj
  obtain ⟨h1,o,ho,_⟩:=hj
  have hjl:j < ops.size:=(Xy.1 ho).1
  have:=(hl j hjl).2 (by simp)
  rw [h1] at this;cases this
 | succ fuel ih =>
  intro rem listed a w tm σ hr hs hlt hl hsz hcl hfl hst
  have isRem:∀ j,j < ops.size->listed.getD j true=false->j ∈ rem:=by
   intro j hj h
   by_cases hm:j ∈ rem
   ·exact hm
   ·have:=(hl j hj).2 hm;rw [h] at this;cases this
  have getD_tf:∀ j,j < ops.size->listed.getD j false=listed.getD j true:=by
   intro j hj
   simp [W7,hsz,hj]
  refine ⟨fun hnil=>?_,fun i hi=>?_⟩
  ·exfalso
   cases rem with
   | nil=>simp at hfl
   | cons r rs =>
    have hrl:r < ops.size:=hlt r (by simp)
    have hro:ops[r]?=some ops[r]:=by simp [hrl]
    obtain ⟨ao,e1,e2,e3,_⟩:=hafter r _ hro
    have : r ∈ Region.ready .any ops listed:=by
     rw [mem_ready]
     refine ⟨?_,ops[r],hro,fun e he hbnd=>?_⟩
     ·cases hq:listed.getD r true with
      | false=>rfl
      | true=>exact absurd (Xay) ((hl r hrl).1 hq)
     ·have hon:e.on ∈ ao.after:=by rw [e3];exact XL.2 ⟨e,Wf.2 ⟨by simpa using he,hbnd⟩,rfl⟩
      have hlt':e.on < r:=hp2 r (by omega) e.on (by rw [e1];exact hon)
      rw [getD_tf _ (by omega)]
      refine (hl e.on (by omega)).2 (fun hm=>?_)
      rcases XG.1 hm with h | hm
      ·omega
      ·have:=(WC.1 hs).1 e.on hm;omega
    rw [hnil] at this;simp at this
  ·rw [mem_ready] at hi
   obtain ⟨hi0,o,ho,hpre⟩:=hi
   have hil:i < ops.size:=(Xy.1 ho).1
   have him:=isRem i hil hi0
   obtain ⟨l1,l2,rfl⟩:=List.append_of_mem him
   obtain ⟨ao,e1,e2,e3,e4⟩:=hafter i o ho
   have hdone:∀ p ∈ (asl.getD i default).after,p < ops.size->p ∉ l1++i::l2:=by
    intro p hp hpl
    rw [e1,e3] at hp
    obtain ⟨e,he,rfl⟩:=XL.1 hp
    obtain ⟨he1,he2⟩:=Wf.1 he
    have:=hpre e (by simpa using he1) he2
    rw [getD_tf _ hpl] at this
    exact (hl e.on hpl).1 this
   have hai:(asl.map (·.after)).getD i []=(asl.getD i default).after:=by
    simp [Xd,show i < asl.length by omega]
   have hanci:∀ p ∈ (ZaX (asl.map (·.after)) []).getD i [],p ∉ l1++i::l2:=by
    intro p hp
    have hap:∀ q,q ∈ (asl.map (·.after)).getD i []->q < i:=fun q hq=>hp2 i (by omega) q (by rw [<-hai];exact hq)
    rcases hanc i (by simp;omega) p (by simpa using hp) with h | ⟨q,h1,h2,h3⟩
    ·exact hdone p (by rw [<-hai];exact h) (by have:=hap p h;omega)
    ·have hql:q < ops.size:=by simp at h2;omega
     exact hcl q hql (hdone q (by rw [<-hai];exact h1) hql) p h3
   have hl1:∀ j ∈ l1,j < i:=by
    intro j hj
    have:=Wi.1 hs
    exact this.2.2 j hj i (by simp)
   obtain ⟨v1,tm1,σ1,h1,hnp1,h2⟩:=Zia (l1:=l1) (i:=i) (fun j hj=>by
    have hji:=hl1 j hj
    have hjn:j ∉ (ZaX (asl.map (·.after)) []).getD i []:=fun hm=>hanci j hm (by simp [hj])
    obtain ⟨p1,p2⟩:=hp1 j i hji (by omega) hjn
    refine ⟨p1,?_,fun hn _=>?_,?_⟩
    ·rcases p2 with p2 | p2 | p2
     ·have:=Zej hr j (by simp [hj]) p2
      have hem:Za0 (asl.getD j default) (cs.getD j {})=true:=by rw [this];simp only [Za0,ZeP p2];rfl
      simp only [Zbg,hem,Xaf]
     ·have:=Zej hr i (by simp) p2
      have hem:Za0 (asl.getD i default) (cs.getD i {})=true:=by rw [this];simp only [Za0,ZeP p2];rfl
      simp only [Zbg,hem,Xaf,XaR]
     ·have:=Xv.1 hchk (j,i) p2
      simp only [Wt,beq_iff_eq] at this
      rcases this with h | h
      ·omega
      ·exact h
    ·have:=Zed asl hji (by omega)
     omega
    ·have:=Zed asl hji (by omega)
     omega) hr
   unfold wpOp
   rw [ho]
   rw [e1] at h1
   obtain ⟨I',β',g1,g2,g3,g4,g5⟩:=hst
   refine Zei hO hkp e2 g3 g4 g5 hb h1 (fun _ a' w' hs'=>ih (l1++l2) _ a' w' tm1 σ1 h2 ?_ ?_ ?_ (by simpa using hsz) ?_ ?_ (hs'.trans g1 g2)) (fun x e=>absurd e (hnp1 x))
   ·have:=Wi.1 hs
    exact Wi.2 ⟨this.1,(WC.1 this.2.1).2,fun x hx y hy=>this.2.2 x hx y (by simp [hy])⟩
   ·intro j hj
    refine hlt j ?_
    simp only [Xn,XG] at hj ⊢
    rcases hj with h | h
    ·exact Xo h
    ·exact Xw (Xw h)
   ·intro j hj
    have hs1:=Wi.1 hs
    by_cases hij:i=j
    ·subst hij
     have hn:i ∉ l1++l2:=by
      intro hm
      rcases Xn.1 hm with h | h
      ·have:=hl1 i h;omega
      ·have:=(WC.1 hs1.2.1).1 i h;omega
     simp [W7,hsz,hil,hn]
    ·rw [getD_set_ne true hij,hl j hj]
     simp only [Xn,XG,not_or]
     constructor
     ·rintro ⟨a1,_,a3⟩;exact ⟨a1,a3⟩
     ·rintro ⟨a1,a3⟩;exact ⟨a1,fun e=>hij e.symm,a3⟩
   ·intro k hk hkn p hp hm
    have hsub:p ∈ l1++i::l2:=by
     simp only [Xn,XG] at hm ⊢
     rcases hm with h | h
     ·exact Xo h
     ·exact Xw (Xw h)
    by_cases hki:k=i
    ·subst hki;exact hanci p hp hsub
    ·refine hcl k hk (fun hkm=>hkn ?_) p hp hsub
     simp only [Xn,XG] at hkm ⊢
     rcases hkm with h | h | h
     ·exact Xo h
     ·exact absurd h hki
     ·exact Xw h
   ·simp at hfl ⊢;omega
theorem Zq8 (hO:ZY P O) (hkp:∀ n ∈ dr.K,n ∈ an.keep) (hb:KLt base w0) {ops:Array Oper} {asl:List AOp} (hcomp:Za6 P an ops ops.toList=some asl) {ps:List (Nat×Nat)} (hps:ZcS asl=some ps) {L:Nat} {cs:List Cls} {jp:Nat} (hjl:jp < ops.size) (hmark:(jp,jp) ∈ ps) (hmarkT:(asl.getD jp default).ins.touches=true) (hfree:∀ j i,(j,i) ∈ ps->j < i->i<=jp->Zbg (asl.getD j default) (asl.getD i default) (cs.getD j {}) (cs.getD i {}) (L+sitesOf (asl.take j))=true) (hquiet:∀ j,(j,jp) ∈ ps->j < jp->ZaJ (asl.getD j default).ins=true)
  {x:AVal} {σF:Za} {Q:Exit->Act->World->Prop} {I:Imm} {β:Bmap} (hQ:∀ a' u w',dr.ok a'->Post base w0 I0 I β x σF u w'->Q (.panic [{ v:=u,recovered:=false }]) a' w') :
  ∀ (fuel:Nat) (pre post:List Nat) (listed:Array Bool) (a:Act) (w:World) (tm tmJ tmX:Tms) (σ σJ:Za),Zbm O bf asl L cs pre tm σ tmJ σJ->Zh O bf (asl.getD jp default) (L+sitesOf (asl.take jp)) tmJ σJ=some (.pan x,tmX,σF,cs.getD jp {})->(pre++jp::post).Pairwise (· < ·)->(∀ j ∈ pre++jp::post,j < ops.size)->(∀ j,j < ops.size->(listed.getD j true=true↔j ∉ pre++jp::post))->listed.size=ops.size ->
   (∀ k,k < ops.size->k ∉ pre++jp::post->∀ p ∈ (ZaX (asl.map (·.after)) []).getD k [],p ∉ pre++jp::post)->(pre++jp::post).length=fuel->StR dr an.nt base w0 I0 I β tm σ a w->wpAny P .any ops Q fuel listed a w:=by
 obtain ⟨hlen,hget⟩:=Ze5 hcomp
 obtain ⟨hp1,hp2⟩:=Zk3 hps
 have hmk:=ZtA hps hmark
 obtain ⟨_,_,hanc⟩:=ZhF (asl.map (·.after)) [] (fun _ _ _=>trivial)
 simp only [XF] at hlen
 have hafter:∀ j o,ops[j]?=some o->∃ ao,asl.getD j default=ao/\ZdD P an ops o=some ao/\ao.after=(o.after.toList.filter (Region.binds .any)).map (·.on)/\ao.dst=o.dst:=by
  intro j o ho
  obtain ⟨ao,h1,h2⟩:=hget j o (by simpa using ho)
  refine ⟨ao,by simp [Xd,h1],h2,?_⟩
  obtain ⟨g,i,_,_,_,rfl⟩:=ZgH h2
  exact ⟨rfl,rfl⟩
 intro fuel
 induction fuel with
 | zero =>
  intro pre post listed a w tm tmJ tmX σ σJ hr hj hs hlt hl hsz hcl hfl hst
  simp at hfl
 | succ fuel ih =>
  intro pre post listed a w tm tmJ tmX σ σJ hr hj hs hlt hl hsz hcl hfl hst
  have getD_tf:∀ j,j < ops.size->listed.getD j false=listed.getD j true:=by
   intro j hj
   simp [W7,hsz,hj]
  have isRem:∀ j,j < ops.size->listed.getD j true=false->j ∈ pre++jp::post:=by
   intro j hj h
   by_cases hm:j ∈ pre++jp::post
   ·exact hm
   ·have:=(hl j hj).2 hm;rw [h] at this;cases this
  refine ⟨fun hnil=>?_,fun i hi=>?_⟩
  ·exfalso
   obtain ⟨r,rs,hrr⟩:∃ r rs,pre++jp::post=r::rs:=by cases pre <;> simp
   rw [hrr] at hs hlt hl
   have hrl:r < ops.size:=hlt r (by simp)
   have hro:ops[r]?=some ops[r]:=by simp [hrl]
   obtain ⟨ao,e1,e2,e3,_⟩:=hafter r _ hro
   have : r ∈ Region.ready .any ops listed:=by
    rw [mem_ready]
    refine ⟨?_,ops[r],hro,fun e he hbnd=>?_⟩
    ·cases hq:listed.getD r true with
     | false=>rfl
     | true=>exact absurd (Xay) ((hl r hrl).1 hq)
    ·have hon:e.on ∈ ao.after:=by rw [e3];exact XL.2 ⟨e,Wf.2 ⟨by simpa using he,hbnd⟩,rfl⟩
     have hlt':e.on < r:=hp2 r (by omega) e.on (by rw [e1];exact hon)
     rw [getD_tf _ (by omega)]
     refine (hl e.on (by omega)).2 (fun hm=>?_)
     rcases XG.1 hm with h | hm
     ·omega
     ·have:=(WC.1 hs).1 e.on hm;omega
   rw [hnil] at this;simp at this
  ·rw [mem_ready] at hi
   obtain ⟨hi0,o,ho,hpre⟩:=hi
   have hil:i < ops.size:=(Xy.1 ho).1
   have him:=isRem i hil hi0
   obtain ⟨ao,e1,e2,e3,e4⟩:=hafter i o ho
   have hdone:∀ p ∈ (asl.getD i default).after,p < ops.size->p ∉ pre++jp::post:=by
    intro p hp hpl
    rw [e1,e3] at hp
    obtain ⟨e,he,rfl⟩:=XL.1 hp
    obtain ⟨he1,he2⟩:=Wf.1 he
    have:=hpre e (by simpa using he1) he2
    rw [getD_tf _ hpl] at this
    exact (hl e.on hpl).1 this
   have hai:(asl.map (·.after)).getD i []=(asl.getD i default).after:=by
    simp [Xd,show i < asl.length by omega]
   have hanci:∀ p ∈ (ZaX (asl.map (·.after)) []).getD i [],p ∉ pre++jp::post:=by
    intro p hp
    have hap:∀ q,q ∈ (asl.map (·.after)).getD i []->q < i:=fun q hq=>hp2 i (by omega) q (by rw [<-hai];exact hq)
    rcases hanc i (by simp;omega) p (by simpa using hp) with h | ⟨q,h1,h2,h3⟩
    ·exact hdone p (by rw [<-hai];exact h) (by have:=hap p h;omega)
    ·have hql:q < ops.size:=by simp at h2;omega
     exact hcl q hql (hdone q (by rw [<-hai];exact h1) hql) p h3
   have hss:=Wi.1 hs
   rw [Xn,XG] at him
   rcases him with him | hij | him
   ·obtain ⟨l1,l2,rfl⟩:=List.append_of_mem him
    have hl1:∀ j ∈ l1,j < i:=by
     intro j hj
     exact (Wi.1 hss.1).2.2 j hj i (by simp)
    have hijp:i < jp:=hss.2.2 i (by simp) jp (by simp)
    obtain ⟨v1,tm1,σ1,h1,hnp1,h2⟩:=Zia (l1:=l1) (i:=i) (fun j hj'=>by
     have hji:=hl1 j hj'
     have hjn:j ∉ (ZaX (asl.map (·.after)) []).getD i []:=fun hm=>hanci j hm (by simp [hj'])
     obtain ⟨p1,p2⟩:=hp1 j i hji (by omega) hjn
     refine ⟨p1,?_,fun hn _=>?_,?_⟩
     ·rcases p2 with p2 | p2 | p2
      ·have:=Zej hr j (by simp [hj']) p2
       have hem:Za0 (asl.getD j default) (cs.getD j {})=true:=by rw [this];simp only [Za0,ZeP p2];rfl
       simp only [Zbg,hem,Xaf]
      ·have:=Zej hr i (by simp) p2
       have hem:Za0 (asl.getD i default) (cs.getD i {})=true:=by rw [this];simp only [Za0,ZeP p2];rfl
       simp only [Zbg,hem,Xaf,XaR]
      ·exact hfree j i p2 hji (by omega)
     ·have:=Zed asl hji (by omega)
      omega
     ·have:=Zed asl hji (by omega)
      omega) hr
    have eA:(l1++i::l2)++jp::post=l1++i::(l2++jp::post):=by simp
    have eB:(l1++l2)++jp::post=l1++(l2++jp::post):=by simp
    rw [eA] at hs hlt hl hcl hanci hfl
    unfold wpOp
    rw [ho]
    rw [e1] at h1
    obtain ⟨I',β',g1,g2,g3,g4,g5⟩:=hst
    refine Zei hO hkp e2 g3 g4 g5 hb h1 (fun _ a' w' hs'=>ih (l1++l2) post _ a' w' tm1 tmJ tmX σ1 σJ h2 hj ?_ ?_ ?_ (by simpa using hsz) ?_ ?_ (hs'.trans g1 g2)) (fun x e=>absurd e (hnp1 x))
    ·rw [eB]
     have:=Wi.1 hs
     exact Wi.2 ⟨this.1,(WC.1 this.2.1).2,fun x hx y hy=>this.2.2 x hx y (by simp only [XG];exact Xw hy)⟩
    ·intro j hj
     rw [eB] at hj
     refine hlt j ?_
     simp only [Xn,XG] at hj ⊢
     rcases hj with h | h | h | h
     ·exact Xo h
     ·exact Xw (Xw (Xo h))
     ·exact Xw (Xw (Xw (Xo h)))
     ·exact Xw (Xw (Xw (Xw h)))
    ·intro j hj
     rw [eB]
     generalize l2++jp::post=L2 at *
     have hs1:=Wi.1 hs
     by_cases hij:i=j
     ·subst hij
      have hn:i ∉ l1++L2:=by
       intro hm
       rcases Xn.1 hm with h | h
       ·have:=hl1 i h;omega
       ·have:=(WC.1 hs1.2.1).1 i h;omega
      simp [W7,hsz,hil,hn]
     ·rw [getD_set_ne true hij,hl j hj]
      simp only [Xn,XG,not_or]
      constructor
      ·rintro ⟨a1,_,a3⟩;exact ⟨a1,a3⟩
      ·rintro ⟨a1,a3⟩;exact ⟨a1,fun e=>hij e.symm,a3⟩
    ·intro k hk hkn p hp hm
     rw [eB] at hkn hm
     generalize l2++jp::post=L2 at *
     have hsub:p ∈ l1++i::L2:=by
      simp only [Xn,XG] at hm ⊢
      rcases hm with h | h
      ·exact Xo h
      ·exact Xw (Xw h)
     by_cases hki:k=i
     ·subst hki;exact hanci p hp hsub
     ·refine hcl k hk (fun hkm=>hkn ?_) p hp hsub
      simp only [Xn,XG] at hkm ⊢
      rcases hkm with h | h | h
      ·exact Xo h
      ·exact absurd h hki
      ·exact Xw h
    ·rw [eB];simp at hfl ⊢;omega
   ·subst hij
    have hl1:∀ j ∈ pre,j < i:=fun j hj=>hss.2.2 j hj i (by simp)
    obtain ⟨tm1,h1⟩:=ZiI (l1:=pre) (i:=i) (fun j hj'=>by
     have hji:=hl1 j hj'
     have hjn:j ∉ (ZaX (asl.map (·.after)) []).getD i []:=fun hm=>hanci j hm (by simp [hj'])
     obtain ⟨p1,p2⟩:=hp1 j i hji (by omega) hjn
     have hts:(asl.getD i default).ins.touches=false->False:=fun h=>by
      have:=hmarkT
      rw [h] at this;cases this
     refine ⟨?_,p1,?_,fun hn _=>?_,?_⟩
     ·rcases p2 with p2 | p2 | p2
      ·exact Xo p2
      ·exact (hts p2).elim
      ·exact Xw (hquiet j p2 hji)
     ·rcases p2 with p2 | p2 | p2
      ·have:=Zej hr j hj' p2
       have hem:Za0 (asl.getD j default) (cs.getD j {})=true:=by rw [this];simp only [Za0,ZeP p2];rfl
       simp only [Zbg,hem,Xaf]
      ·exact (hts p2).elim
      ·exact hfree j i p2 hji (XO _)
     ·have:=Zed asl hji (by omega)
      omega
     ·have:=Zed asl hji (by omega)
      omega) hr hj
    unfold wpOp
    rw [ho]
    rw [e1] at h1
    obtain ⟨I',β',g1,g2,g3,g4,g5⟩:=hst
    refine Zei hO hkp e2 g3 g4 g5 hb h1 (fun hn=>absurd rfl (hn x)) (fun x' e u w' hp=>?_)
    injection e with e
    subst e
    exact hQ a u w' g4.1 (hp.trans g1 g2)
   ·exfalso
    have hlt2:jp < i:=(WC.1 hss.2.1).1 i him
    exact hanci jp (hmk i hlt2 (by omega)) (by simp)
theorem Rel.reserve {I:Imm} {β:Bmap} {σ:Za} {w:World} (R:Rel base w0 I0 I β σ w) (n:Nat):Rel base w0 I0 I β (σ++XC n .free) w:=by
 have look:∀ t x,(σ++XC n Zf.free)[t]?=some x->σ[t]?=some x\/(σ.length<=t/\x=.free):=by
  intro t x h
  by_cases ht:t < σ.length
  ·rw [Wp ht] at h;exact Xo h
  ·rw [WL (by omega)] at h
   refine Xw ⟨by omega,?_⟩
   have:=Xq h
   exact List.eq_of_mem_replicate this
 refine ⟨R.below,R.old,R.imm,?_,?_,?_,?_,?_,?_,R.glob,?_⟩
 ·intro t x h
  rcases look t x h with h | ⟨_,rfl⟩
  ·exact R.blk t x h
  ·trivial
 ·intro t x b h hb
  rcases look t x h with h | ⟨_,rfl⟩
  ·exact R.own t x b h hb
  ·cases hb
 ·intro t x t' x' b h h' hb hb'
  rcases look t x h with h | ⟨_,rfl⟩
  ·rcases look t' x' h' with h' | ⟨_,rfl⟩
   ·exact R.apart t x t' x' b h h' hb hb'
   ·cases hb'
  ·cases hb
 ·intro t g h
  exact R.fresh t g (by simp at h;omega)
 ·intro t g h
  rcases look t _ h with h | ⟨h,_⟩
  ·exact R.free t g h
  ·exact R.fresh t g h
 ·intro t x g h hg
  rcases look t _ h with h | ⟨h,_⟩
  ·exact R.gen t x g h hg
  ·exact R.fresh t g h
 ·intro t x b h hb
  rcases look t x h with h | ⟨_,rfl⟩
  ·exact R.ro t x b h hb
  ·cases hb
theorem StR.keep {I:Imm} {β:Bmap} {tm:Tms} {σ:Za} {a:Act} {w:World} (h:StR dr an.nt base w0 I0 I β tm σ a w) (live:List Nat):StR dr an.nt base w0 I0 I β (keepL live tm) σ a w:=by
 obtain ⟨I',β',h1,h2,h3,h4⟩:=h
 exact ⟨I',β',h1,h2,h3.keep live,h4⟩
def ZuV (dr:Door) (an:Ann) (base:Nat->Prop) (w0:World) (I0 I:Imm) (β:Bmap) (e:Zab) (tm:Tms) (σ:Za) (Q:Exit->Act->World->Prop):Prop:=match e with
 | .normal=>∀ a w,StR dr an.nt base w0 I0 I β tm σ a w->Q .normal a w
 | .exit id=>∀ a w,StR dr an.nt base w0 I0 I β tm σ a w->Q (.exit id) a w
 | .ret=>∀ a w,StR dr an.nt base w0 I0 I β tm σ a w->Q .ret a w
 | .panic x=>∀ a u w,dr.ok a->Post base w0 I0 I β x σ u w->Q (.panic [{ v:=u,recovered:=false }]) a w
theorem ZfE (hO:ZY P O) (hkp:∀ n ∈ dr.K,n ∈ an.keep) (hm:P.follows .mixedOrders=true) (hb:KLt base w0) {id:Nat} {ops:Array Oper} {draw:Bool} {asl:List AOp} {chk:Option (List (Nat×Nat))} {live:List Nat} (hc:Z7 P an (.region id ops draw)=.region asl chk live) {I:Imm} {β:Bmap} {tm tm':Tms} {σ σ':Za} {a:Act} {w:World} {e:Zab}
  (hst:StR dr an.nt base w0 I0 I β tm σ a w) (h:ZaT O bf asl chk live tm σ=some (e,tm',σ')) {Q:Exit->Act->World->Prop} (hQ:ZuV dr an base w0 I0 I β e tm' σ' Q):(Code.region id ops draw).wp P Q a w:=by
 obtain ⟨I1,β1,g1,g2,g3,g4,g5⟩:=hst
 simp only [Z7] at hc
 split at hc
 ·rename_i l hl
  unfold ZaT at h
  split at hc
  ·rename_i hd
   subst hd
   split at hc
   ·rename_i ps hps
    simp only [Zl.region.injEq] at hc
    obtain ⟨rfl,rfl,rfl⟩:=hc
    cases hrun:Zp O bf l σ.length tm (σ++XC (sitesOf l) .free) with
    | none=>rw [hrun] at h;simp only [Zbt] at h;cases h
    | some q =>
     obtain ⟨tm1,σ1,cs,p⟩:=q
     rw [hrun] at h
     cases p with
     | some x =>
      simp only [Zbt] at h
      split at h
      ·rename_i hpan
       simp only [Xa,Xb] at h
       obtain ⟨rfl,rfl,rfl⟩:=h
       have hlen:=(Ze5 hl).1
       simp only [XF] at hlen
       obtain ⟨n,tmJ,σJ,tmX,q1,q2,q3,q4⟩:=ZkT (O:=O) (bf:=bf) (ops:=l) (L:=σ.length) l.length 0 (cs:=cs) (cs':=cs) (by omega) (by simpa [sitesOf] using hrun) (fun j=>by simp)
       rw [XD] at q4
       unfold Zbn at hpan
       rw [q2] at hpan
       simp only [Xc,List.any_eq_true,Xv,Wt,beq_iff_eq,decide_eq_true_eq,Nat.add_sub_cancel] at hpan
       obtain ⟨⟨pm,hpm,hm1,hm2⟩,hall⟩:=hpan
       have hmk:(n,n) ∈ ps:=by
        obtain ⟨a1,a2⟩:=pm
        simp only at hm1 hm2
        subst hm1 hm2
        exact hpm
       have hT:(l.getD n default).ins.touches=true:=Zrg hps hmk
       refine wp_region_any hm (Zq8 hO hkp hb hl hps (jp:=n) (by omega) hmk hT (fun j i hji h1 h2=>?_) (fun j hj h1=>?_) (I:=I) (β:=β) (x:=x) (fun a' u w' hd' hp=>hQ a' u w' hd' hp) ops.size (Xad 0 n) (Xad (n+1) (l.length - n - 1)) _ a _ tm tmJ tmX _ σJ q3 q4 ?_ ?_ ?_ (by simp) ?_ (by simp;omega) ⟨I1,β1,g1,g2,g3,g4,(g5.reserve _).same rfl rfl rfl rfl⟩)
       ·rcases hall (j,i) hji with (h | h) | ⟨h,_⟩
        ·simp only at h;omega
        ·simp only at h;omega
        ·exact h
       ·rcases hall (j,n) hj with (h | h) | ⟨_,h⟩
        ·simp only at h;omega
        ·simp only at h;omega
        ·rcases h with h | h
         ·simp only at h;omega
         ·exact h
       ·have e:Xad 0 n++n::Xad (n+1) (l.length - n - 1)=Xad 0 l.length:=by
         rw [<-XaG]
         have:=List.range'_append_1 (s:=0) (m:=n) (n:=l.length - n - 1+1)
         rw [XD] at this
         rw [this]
         congr 1
         omega
        rw [e];exact List.pairwise_lt_range'
       ·intro j hj;simp at hj;omega
       ·intro j hj
        simp [W7,hj]
        omega
       ·intro k hk hkn
        exact absurd (by simp;omega) hkn
      ·cases h
     | none =>
      simp only [Zbt] at h
      split at h
      ·rename_i hchk
       simp only [Xa,Xb] at h
       obtain ⟨rfl,rfl,rfl⟩:=h
       have hlen:=(Ze5 hl).1
       simp only [XF] at hlen
       have hr:=Zi7 (O:=O) (bf:=bf) (ops:=l) (L:=σ.length) l.length 0 (cs:=cs) (cs':=cs) (by omega) (by simpa [sitesOf] using hrun) (fun j=>by simp)
       refine wp_region_any hm (Zvx hO hkp hb hl hps hchk (I:=I) (β:=β) (fun a' w' hs=>hQ a' w' (hs.keep _)) ops.size (Xad 0 l.length) _ a _ tm _ hr ?_ ?_ ?_ (by simp) ?_ (by simp [hlen]) ⟨I1,β1,g1,g2,g3,g4,(g5.reserve _).same rfl rfl rfl rfl⟩)
       ·exact List.pairwise_lt_range'
       ·intro j hj;simp at hj;omega
       ·intro j hj
        simp [W7,hj,hlen]
       ·intro k hk hkn
        exact absurd (by simp;omega) hkn
      ·cases h
   ·cases hc
  ·rename_i hd
   simp only [Zl.region.injEq] at hc
   obtain ⟨rfl,rfl,rfl⟩:=hc
   have hdf:draw=false:=by cases draw <;> simp_all
   subst hdf
   cases hrun:Zp O bf l σ.length tm (σ++XC (sitesOf l) .free) with
   | none=>rw [hrun] at h;simp only [Zbt] at h;cases h
   | some q =>
    obtain ⟨tm1,σ1,cs,p⟩:=q
    rw [hrun] at h
    cases p with
    | none =>
     simp only [Zbt,Xa,Xb] at h
     obtain ⟨rfl,rfl,rfl⟩:=h
     exact wp_region_list (Zip hO hkp hb hl g3 g4 (g5.reserve _) hrun (fun _ a' w' hs=>hQ a' w' ((hs.trans g1 g2).keep _)) (fun x hx=>by cases hx))
    | some x =>
     simp only [Zbt,Xa,Xb] at h
     obtain ⟨rfl,rfl,rfl⟩:=h
     exact wp_region_list (Zip hO hkp hb hl g3 g4 (g5.reserve _) hrun (fun hx=>by cases hx) (fun x' hx a' u w' hd' hp=>by
      injection hx with hx;subst hx
      exact hQ a' u w' hd' (hp.trans g1 g2)))
 ·cases hc
end
end
section
open Go.RowKit
section
variable {P:Program} {O:Zq} {bf:Nat->Bool} {an:Ann} {base:Nat->Prop} {w0:World} {I0:Imm} {dr:Door}
def StF (dr:Door) (m nt:Nat) (base:Nat->Prop) (w0:World) (I0 I:Imm) (β:Bmap) (tm:Tms) (σ:Za) (a:Act) (w:World):Prop :=
 ∃ I' β',I.le I'/\KeptE m β β'/\TR I' β' tm a.tmps/\(dr.ok a/\nt<=a.tmps.size)/\Rel base w0 I0 I' β' σ w
def Zt0 (dr:Door) (m:Nat) (an:Ann) (base:Nat->Prop) (w0:World) (I0 I:Imm) (β:Bmap) (e:Zab) (tm:Tms) (σ:Za) (Q:Exit->Act->World->Prop):Prop:=match e with
 | .normal=>∀ a w,StF dr m an.nt base w0 I0 I β tm σ a w->Q .normal a w
 | .exit id=>∀ a w,StF dr m an.nt base w0 I0 I β tm σ a w->Q (.exit id) a w
 | .ret=>∀ a w,StF dr m an.nt base w0 I0 I β tm σ a w->Q .ret a w
 | .panic x=>∀ a u w,dr.ok a->ZaN m base w0 I0 I β (.pan x) σ u w->Q (.panic [{ v:=u,recovered:=false }]) a w
theorem StF.cond {m:Nat} {I:Imm} {β:Bmap} {tm:Tms} {σ:Za} {a:Act} {w:World} (h:StF dr m an.nt base w0 I0 I β tm σ a w) {c:Operand} {y:Opd} (hc:ZE c=some y) {b:Bool} (hv:y.ev tm=.bool b):a.eval c=.bool b:=by
 obtain ⟨I',β',_,_,T,_,_⟩:=h
 have:=ZD T hc
 rw [hv] at this
 simpa only [VR] using this
theorem Zgr (hO:ZY P O) (hkp:∀ n ∈ dr.K,n ∈ an.keep) (hm:P.follows .mixedOrders=true) (hb:KLt base w0) (m n:Nat):∀ {c:Code} {ac:Zl},Z7 P an c=ac->∀ {I:Imm} {β:Bmap} {tm tm':Tms} {σ σ':Za} {a:Act} {w:World} {e:Zab},StF dr m an.nt base w0 I0 I β tm σ a w->Zr O bf m n ac tm σ=some (e,tm',σ') ->
  ∀ {Q:Exit->Act->World->Prop},Zt0 dr m an base w0 I0 I β e tm' σ' Q->c.wp P Q a w:=by
 intro c
 induction c with
 | skip =>
  intro ac hc I β tm tm' σ σ' a w e hst h Q hQ
  simp only [Z7] at hc;subst hc
  simp only [Zr,Xa,Xb] at h
  obtain ⟨rfl,rfl,rfl⟩:=h
  exact wp_skip (hQ a w hst)
 | region id ops draw =>
  intro ac hc I β tm tm' σ σ' a w e hst h Q hQ
  obtain ⟨asl,chk,live,rfl⟩:∃ asl chk live,ac=.region asl chk live:=by
   simp only [Z7] at hc
   split at hc
   ·split at hc
    ·split at hc
     ·exact ⟨_,_,_,hc.symm⟩
     ·subst hc;simp only [Zr] at h;cases h
    ·exact ⟨_,_,_,hc.symm⟩
   ·subst hc;simp only [Zr] at h;cases h
  simp only [Zr] at h
  obtain ⟨I1,β1,g1,g2,g3,g4,g5⟩:=hst
  have up:∀ {tm:Tms} {σ:Za} {a':Act} {w':World},StR dr an.nt base w0 I0 I1 β1 tm σ a' w'->StF dr m an.nt base w0 I0 I β tm σ a' w':=by
   rintro tm σ a' w' ⟨I2,β2,k1,k2,k3⟩
   exact ⟨I2,β2,g1.trans k1,g2.trans (KeptE.of_le k2),k3⟩
  refine ZfE hO hkp hm hb hc (⟨I1,β1,Imm.le.refl I1,Bmap.le.refl β1,g3,g4,g5⟩:StR dr an.nt base w0 I0 I1 β1 tm σ a w) h ?_
  cases e with
  | normal=>exact fun a' w' hs=>hQ a' w' (up hs)
  | exit id=>exact fun a' w' hs=>hQ a' w' (up hs)
  | ret=>exact fun a' w' hs=>hQ a' w' (up hs)
  | panic x =>
   rintro a' u w' hd ⟨I2,β2,k1,k2,k3,k4⟩
   exact hQ a' u w' hd ⟨I2,β2,g1.trans k1,g2.trans (KeptE.of_le k2),k3,k4⟩
 | seq x y ihx ihy =>
  intro ac hc I β tm tm' σ σ' a w e hst h Q hQ
  simp only [Z7] at hc
  subst hc
  simp only [Zr] at h
  refine wp_seq ?_
  split at h
  ·rename_i tm1 σ1 h1
   exact ihx rfl hst h1 (fun a' w' hs=>ihy rfl hs h hQ)
  ·rename_i hne
   refine ihx rfl hst h ?_
   cases e with
   | normal=>exact absurd h (hne _ _)
   | exit id=>exact hQ
   | ret=>exact hQ
   | panic x=>exact hQ
 | cond c x y ihx ihy =>
  intro ac hc I β tm tm' σ σ' a w e hst h Q hQ
  simp only [Z7] at hc
  split at hc
  ·rename_i c' hcc
   subst hc
   simp only [Zr] at h
   split at h
   ·rename_i hv
    exact wp_cond_true (hst.cond hcc hv) (ihx rfl hst h hQ)
   ·rename_i hv
    exact wp_cond_false (hst.cond hcc hv) (ihy rfl hst h hQ)
   ·cases h
  ·subst hc;simp only [Zr] at h;cases h
 | block id x ih =>
  intro ac hc I β tm tm' σ σ' a w e hst h Q hQ
  simp only [Z7] at hc
  subst hc
  have hx:Z7 P an x=Z7 P an x:=rfl
  simp only [Zr] at h
  refine wp_block ?_
  split at h
  ·rename_i i tm1 σ1 h1
   refine ih hx hst h1 ?_
   intro a' w' hs
   simp only [Exit.inBlock]
   split at h
   ·rename_i hid
    simp only [Xa,Xb] at h
    obtain ⟨rfl,rfl,rfl⟩:=h
    rw [if_pos hid]
    exact hQ a' w' hs
   ·rename_i hid
    simp only [Xa,Xb] at h
    obtain ⟨rfl,rfl,rfl⟩:=h
    rw [if_neg hid]
    exact hQ a' w' hs
  ·rename_i hne
   refine ih hx hst h ?_
   cases e with
   | normal=>exact hQ
   | exit id=>exact absurd h (hne _ _ _)
   | ret=>exact hQ
   | panic x=>exact hQ
 | loop x ih =>
  intro ac hc I β tm tm' σ σ' a w e hst h Q hQ
  simp only [Z7] at hc
  subst hc
  have hx:Z7 P an x=Z7 P an x:=rfl
  simp only [Zr] at h
  refine wp_loop_rounds n ?_
  have key:∀ k {tm:Tms} {σ:Za} {a:Act} {w:World},StF dr m an.nt base w0 I0 I β tm σ a w->ZbM m (an.ll (ZcW x)) (Zr O bf m n (Z7 P an x)) k tm σ=some (e,tm',σ')->Code.rounds P x Q k a w:=by
   intro k
   induction k with
   | zero=>intro tm σ a w _ h;simp only [ZbM] at h;cases h
   | succ k ihk =>
    intro tm σ a w hst h
    rw [rounds_succ]
    simp only [ZbM] at h
    obtain ⟨I1,β1,k1,k2,k3,k4,k5⟩:=hst
    obtain ⟨β2,q1,q2,q3⟩:=Zh2 k5 (k3.keep (an.ll (ZcW x))) m
    have hst0:StF dr m an.nt base w0 I0 I β (gcT m (keepL (an.ll (ZcW x)) tm) σ).1 (gcT m (keepL (an.ll (ZcW x)) tm) σ).2 a w:=⟨I1,β2,k1,k2.trans q1,q3,k4,q2⟩
    split at h
    ·rename_i tm1 σ1 h1
     exact ih hx hst0 h1 (fun a' w' hs=>ihk hs h)
    ·rename_i hne
     refine ih hx hst0 h ?_
     cases e with
     | normal=>exact absurd h (hne _ _)
     | exit id=>exact hQ
     | ret=>exact hQ
     | panic x=>exact hQ
  exact key n hst h
 | exit id =>
  intro ac hc I β tm tm' σ σ' a w e hst h Q hQ
  simp only [Z7] at hc;subst hc
  simp only [Zr,Xa,Xb] at h
  obtain ⟨rfl,rfl,rfl⟩:=h
  exact wp_exit (hQ a w hst)
 | ret =>
  intro ac hc I β tm tm' σ σ' a w e hst h Q hQ
  simp only [Z7] at hc;subst hc
  simp only [Zr,Xa,Xb] at h
  obtain ⟨rfl,rfl,rfl⟩:=h
  exact wp_ret (hQ a w hst)
 | rangeFunc f ps x y=>intro ac hc I β tm tm' σ σ' a w e hst h;simp only [Z7] at hc;subst hc;simp only [Zr] at h;cases h
 | scope x ih =>
  intro ac hc I β tm tm' σ σ' a w e hst h Q hQ
  simp only [Z7] at hc
  refine wp_scope_straight (ih hc hst h ?_)
  cases e with
  | normal=>exact hQ
  | exit id=>exact hQ
  | ret=>exact hQ
  | panic x=>exact hQ
 | label l =>
  intro ac hc I β tm tm' σ σ' a w e hst h Q hQ
  simp only [Z7] at hc;subst hc
  simp only [Zr,Xa,Xb] at h
  obtain ⟨rfl,rfl,rfl⟩:=h
  exact wp_label (hQ a w hst)
 | goto l=>intro ac hc I β tm tm' σ σ' a w e hst h;simp only [Z7] at hc;subst hc;simp only [Zr] at h;cases h
 | refuse why=>intro ac hc I β tm tm' σ σ' a w e hst h;simp only [Z7] at hc;subst hc;simp only [Zr] at h;cases h
theorem ZsR {I:Imm} {β:Bmap} {σ σ':Za} {k:Option Nat} {a x:AVal} {c:Cls} {v:Value} (ha:VR I β a v) (h:ldA σ k a=some (x,σ',c)):∃ ad,v=.pointer (some ad):=by
 unfold ldA at h
 split at h
 ·simp only [VR] at ha;obtain ⟨b,k,c,_,rfl⟩:=ha;exact ⟨_,rfl⟩
 ·simp only [VR] at ha;obtain ⟨b,k,c,_,rfl⟩:=ha;exact ⟨_,rfl⟩
 ·simp only [VR] at ha;obtain ⟨b,off,rfl,_⟩:=ha;exact ⟨_,rfl⟩
 ·cases h
def ZeN (tmps:Array Value):ResultVar->Sem Value
 | .tmp t=>pure (tmps.getD t undef)
 | .cell a t=>do loadVar t (<-asAddr (tmps.getD a undef))
theorem ZhK {I:Imm} {β:Bmap} {tm:Tms} {σ:Za} {w:World} {tmps:Array Value} (T:TR I β tm tmps) (R:Rel base w0 I0 I β σ w):∀ {rs:List ResultVar} {asl:List Zbr} {xs:List AVal},ZcF P rs=some asl->resAll tm σ asl=some xs ->
  ∃ vs:List Value,(rs.mapM (ZeN tmps)).run P w=.ok vs w/\VRs I β xs vs
 | [],asl,xs,hc,h=>by
  simp only [ZcF,Xa] at hc;subst hc
  simp only [resAll,Xa] at h;subst h
  exact ⟨[],by simp,by simp only [VRs]⟩
 | r::rs,asl,xs,hc,h=>by
  have getD_eq:∀ t,VR I β (tget tm t) (tmps.getD t undef):=T
  cases r with
  | tmp t =>
   simp only [ZcF,Xh] at hc
   obtain ⟨as',has,rfl⟩:=hc
   simp only [resAll,resOne] at h
   split at h
   ·rename_i ys hys
    injection h with h;subst h
    obtain ⟨vs,h1,h2⟩:=ZhK T R has hys
    exact ⟨tmps.getD t undef::vs,by simp only [Xaz,ZeN,Sem.run_bind,Sem.run_pure,Result.andThen_ok,h1],by simp only [VRs];exact ⟨_,_,rfl,getD_eq t,h2⟩⟩
   ·cases h
  | cell a t =>
   simp only [ZcF] at hc
   split at hc
   ·rename_i k as' hk has
    injection hc with hc;subst hc
    simp only [resAll,resOne] at h
    split at h
    ·rename_i v hv
     split at h
     ·rename_i ys hys
      injection h with h;subst h
      obtain ⟨vs,h1,h2⟩:=ZhK T R has hys
      split at hv
      ·rename_i v' σ1 c1 hld
       injection hv with hv;subst hv
       obtain ⟨u,hu1,hu2,_⟩:=ZiG hk R (getD_eq a) hld
       obtain ⟨ad,had⟩:=ZsR (getD_eq a) hld
       have hlv:(loadVar t ad).run P w=.ok u w:=by
        rw [had] at hu1
        simpa [Instr.loadAt,Instr.sureAddr] using hu1
       refine ⟨u::vs,?_,by simp only [VRs];exact ⟨_,_,rfl,hu2,h2⟩⟩
       simp only [Xaz,ZeN,had,asAddr,Sem.run_bind,Sem.run_pure,Result.andThen_ok,hlv,h1]
      ·cases hv
     ·cases h
    ·cases h
   ·cases hc
theorem ZjF {I:Imm} {β:Bmap} {tm:Tms} {σ:Za} {w:World} {tmps:Array Value} (T:TR I β tm tmps) (R:Rel base w0 I0 I β σ w) {fn:Func} {asl:List Zbr} {x:AVal} (hc:ZcF P fn.results.toList=some asl) (h:resA tm σ asl=some x):∃ v,(results fn tmps).run P w=.ok v w/\VR I β x v:=by
 unfold resA at h
 have run:∀ {xs:List AVal},resAll tm σ asl=some xs->∃ vs:List Value,(results fn tmps).run P w=.ok (if h:vs.toArray.size=1 then vs.toArray[0] else .tuple vs.toArray) w/\VRs I β xs vs:=by
  intro xs hx
  obtain ⟨vs,h1,h2⟩:=ZhK T R hc hx
  refine ⟨vs,?_,h2⟩
  have hm:(fn.results.mapM (ZeN tmps)).run P w=.ok vs.toArray w:=by
   rw [Array.mapM_eq_mapM_toList,Sem.run_map,h1];rfl
  have he:results fn tmps=(do let vs <-fn.results.mapM (ZeN tmps);pure (if h:vs.size=1 then vs[0] else .tuple vs)):=by
   unfold results
   congr 1
  rw [he,Sem.run_bind,hm]
  rfl
 split at h
 ·rename_i v hv
  injection h with h;subst h
  obtain ⟨vs,h1,h2⟩:=run hv
  simp only [VRs] at h2
  obtain ⟨u,us,rfl,h3,rfl⟩:=h2
  exact ⟨u,by rw [h1];simp,h3⟩
 ·rename_i vs' hv hne
  injection h with h;subst h
  obtain ⟨vs,h1,h2⟩:=run hne
  have hl:=Zaa h2
  refine ⟨.tuple vs.toArray,?_,by simp only [VR];exact ⟨_,rfl,by simpa using h2⟩⟩
  rw [h1,dif_neg]
  intro hs
  simp only [List.size_toArray] at hs
  match vs',hl with
  | [v],_=>exact hv v rfl
  | [],hl=>simp at hl;omega
  | _::_::_,hl=>simp at hl;omega
 ·cases h
theorem ZjD:∀ (args:List AVal) (i:Nat) (acc:Tms) (n:Nat),tget (enterA i args acc) n=if i<=n/\n < i+args.length then args.getD (n - i) .top else tget acc n
 | [],i,acc,n=>by simp only [enterA,XX];rw [if_neg (by omega)]
 | x::xs,i,acc,n=>by
  simp only [enterA,List.length_cons]
  rw [ZjD xs (i+1) _ n]
  by_cases h:i+1<=n/\n < i+1+xs.length
  ·rw [if_pos h,if_pos (by omega),show n - i=(n - (i+1))+1 by omega,XY]
  ·rw [if_neg h]
   simp only [tget]
   by_cases h1:i=n
   ·subst h1
    rw [if_pos rfl,if_pos (by omega),W4,XN]
   ·rw [if_neg h1,if_neg (by omega)]
theorem Zhi {I:Imm} {β:Bmap} {args:List AVal} {vs:Array Value} (h:VRs I β args vs.toList) (n:Nat):TR I β (enterA 0 args []) (vs++W5 n undef):=by
 intro j
 rw [ZjD]
 have hl:=Zaa h
 simp only [XF] at hl
 split
 ·rename_i hj
  have hjl:j < args.length:=by omega
  obtain ⟨v,h1,h2⟩:=ZaZ h (Xz hjl)
  have e1:args.getD (j - 0) .top=args[j]:=by simp [Xd,hjl]
  have e2:(vs++W5 n undef).getD j undef=v:=by
   rw [Wj,Array.getElem?_append_left (by omega)]
   have : vs[j]?=some v:=by simpa using h1
   rw [this];rfl
  rw [e1,e2];exact h2
 ·simp only [tget,VR]
def ZfI (P:Program) (prim:ZaK):Prop:=∀ f g,prim f=some g->∀ args σ r σ',g args σ=some (r,σ') ->
 (∃ fn,P.funcs[f]?=some fn/\fn.body.isSome=true/\(fn.name == "runtime.NumGoroutine")=false) /\
 ∀ base w0 I0 I β w (vs:Array Value),KLt base w0->Rel base w0 I0 I β σ w->VRs I β args vs.toList ->
  Calls P f vs w (fun e w'=>∃ u,Ends r e u/\ZaN σ.length base w0 I0 I β r σ' u w')
theorem ZhO (hm:P.follows .mixedOrders=true) {prim:ZaK} (hP:ZfI P prim) (ann:Nat->Ann) (bf:Nat->Bool):∀ n,ZY P (ZB (Ze4 P ann) prim bf n)
 | 0=>by intro f args σ r σ' h;simp only [ZB] at h;cases h
 | n+1=>by
  have ih:=ZhO hm hP ann bf n
  intro f args σ r σ' h
  simp only [ZB] at h
  split at h
  ·rename_i g hg
   exact hP f g hg args σ r σ' h
  split at h
  ·cases h
  rename_i fn hfn
  unfold Ze4 at hfn
  split at hfn
  ·rename_i F hF
   split at hfn
   ·rename_i body hbody
    split at hfn
    ·cases hfn
    ·rename_i hname
     split at hfn
     ·rename_i rs hrs
      injection hfn with hfn;subst hfn
      refine ⟨⟨F,hF,by rw [hbody];rfl,by simpa using hname⟩,?_⟩
      intro base w0 I0 I β w vs hb R hargs
      refine calls_of_wp hF hbody ?_
      have T:=Zhi hargs (F.ntmps - vs.size)
      have hst:StF Zaz σ.length F.ntmps base w0 I0 I β (enterA 0 args []) σ { tmps:=vs++W5 (F.ntmps - vs.size) undef,defers:=[] } w:=⟨I,β,Imm.le.refl I,KeptE.refl _ β,T,⟨ZcH.2 rfl,by simp;omega⟩,R⟩
      cases hx:Zr (ZB (Ze4 P ann) prim bf n) bf σ.length n (Z7 P { ann f with nt:=F.ntmps } body) (enterA 0 args []) σ with
      | none=>rw [hx] at h;simp only [Zax] at h;cases h
      | some q =>
       obtain ⟨e,tm',σ1⟩:=q
       rw [hx] at h
       have fin:(match resA tm' σ1 rs with | some r=>Zas σ.length σ1 r | none=>none)=some (r,σ')->∀ a' w',StF Zaz σ.length F.ntmps base w0 I0 I β tm' σ1 a' w'->a'.defers=[]/\∃ v,(results F a'.tmps).run P w'=.ok v w'/\∃ u,Ends r (.returned v) u/\ZaN σ.length base w0 I0 I β r σ' u w':=by
        intro hr a' w' ⟨I1,β1,g1,g2,g3,g4,g5⟩
        split at hr
        ·rename_i x hx1
         obtain ⟨v,h1,h2⟩:=ZjF g3 g5 hrs hx1
         have hnp:∀ y,x≠.pan y:=by rintro y rfl;simp only [VR] at h2
         obtain ⟨q1,q2⟩:=Zff (⟨I1,β1,g1,g2,g5,by rw [Zc6 hnp];exact h2⟩:ZaN σ.length base w0 I0 I β x σ1 v w') hr
         refine ⟨ZcH.1 g4.1,v,h1,v,q2 _ ?_,q1⟩
         cases x <;> first | rfl | exact absurd rfl (hnp _)
        ·cases hr
       refine Zgr (dr:=Zaz) (an:={ ann f with nt:=F.ntmps }) ih (fun n hn=>by simp [Zaz] at hn) hm hb σ.length n rfl hst hx ?_
       cases e with
       | normal=>simp only [Zax] at h;exact fun a' w' hs=>fin h a' w' hs
       | ret=>simp only [Zax] at h;exact fun a' w' hs=>fin h a' w' hs
       | exit id=>simp only [Zax] at h;cases h
       | panic x =>
        simp only [Zax] at h
        intro a' u w' hd hp
        obtain ⟨q1,q2⟩:=Zff hp h
        exact ⟨ZcH.1 hd,u,q2 _ rfl,q1⟩
     ·cases hfn
   ·cases hfn
  ·cases hfn
end
end
section
open Go.RowKit
def OLe (O O':Zq):Prop:=∀ f a σ r,O f a σ=some r->O' f a σ=some r
section
variable {O O':Zq} {bf:Nat->Bool}
theorem Zmb {view:Bool} {m:Nat} {x y:Option (AVal×Za)} (h:∀ r,x=some r->y=some r) {r:AVal×Za} (hr:Zat view m x=some r):Zat view m y=some r:=by
 cases x with
 | none=>cases view <;> simp [Zat,Zcb] at hr
 | some q=>rw [h q rfl];exact hr
theorem Zry {σ σf:Za} {ids ts:List Nat} {sq own:Nat} {x y:Option (AVal×Za)} (h:∀ r,x=some r->y=some r) {r:AVal×Za×Cls} (hr:Zal σ σf ids ts sq own x=some r):Zal σ σf ids ts sq own y=some r:=by
 cases x with
 | none=>simp only [Zal] at hr;cases hr
 | some q=>rw [h q rfl];exact hr
theorem Zhq (hO:OLe O O') {σ:Za} {sq f own:Nat} {view:Bool} {args:List AVal} {r:AVal×Za×Cls} (h:Zi O bf σ sq f own view args=some r):Zi O' bf σ sq f own view args=some r:=by
 unfold Zi Za5 at h ⊢
 split at h
 ·cases h
 ·rename_i vs ts hv
  split at h
  ·rename_i hc
   simp only [hc,if_true]
   exact Zry (fun q hq=>Zmb (fun q hq=>hO _ _ _ _ hq) hq) h
  ·cases h
theorem ZwZ (hO:OLe O O') {tm:Tms} {σ:Za} {sq:Nat} {ins:Ins} {r:AVal×Za×Cls} (h:execI O bf tm σ sq ins=some r):execI O' bf tm σ sq ins=some r:=by
 cases ins
 case call f own view args =>
  simp only [execI] at h ⊢
  exact Zhq hO h
 case callv x args =>
  simp only [execI] at h ⊢
  split at h
  ·exact Zhq hO h
  ·cases h
 all_goals exact h
theorem Zg5 (hO:OLe O O') {o:AOp} {tm:Tms} {σ:Za} {sq:Nat} {r:AVal×Tms×Za×Cls} (h:Zh O bf o sq tm σ=some r):Zh O' bf o sq tm σ=some r:=by
 unfold Zh at h ⊢
 split at h
 ·cases h
 ·exact h
 ·split at h
  ·rename_i hf
   rw [if_pos hf]
   split at h
   ·rename_i he;rw [ZwZ hO he];exact h
   ·cases h
  ·cases h
theorem Zir (hO:OLe O O'):∀ {ops:List AOp} {s:Nat} {tm:Tms} {σ:Za} {r:Tms×Za×List Cls×Option AVal},Zp O bf ops s tm σ=some r->Zp O' bf ops s tm σ=some r
 | [],_,_,_,_,h=>h
 | o::ops,s,tm,σ,r,h=>by
  simp only [Zp] at h ⊢
  split at h
  ·cases h
  ·rename_i h1
   rw [Zg5 hO h1]
   exact h
  ·rename_i v tm1 σ1 c hnp h1
   rw [Zg5 hO h1]
   simp only
   split at h
   ·cases h
   rename_i h2
   rw [Zir hO h2]
   exact h
theorem Zk7 (hO:OLe O O') {ops:List AOp} {chk:Option (List (Nat×Nat))} {live:List Nat} {tm:Tms} {σ:Za} {r:Zab×Tms×Za} (h:ZaT O bf ops chk live tm σ=some r):ZaT O' bf ops chk live tm σ=some r:=by
 unfold ZaT at h ⊢
 cases hx:Zp O bf ops σ.length tm (σ++XC (sitesOf ops) .free) with
 | none=>rw [hx] at h;simp only [Zbt] at h;cases h
 | some q=>rw [Zir hO hx];rw [hx] at h;exact h
theorem Zgn {m0:Nat} {live:List Nat} {f f':Tms->Za->Option (Zab×Tms×Za)} (hf:∀ tm σ r,f tm σ=some r->f' tm σ=some r):∀ {n n':Nat} {tm:Tms} {σ:Za} {r:Zab×Tms×Za},n<=n'->ZbM m0 live f n tm σ=some r->ZbM m0 live f' n' tm σ=some r
 | 0,_,_,_,_,_,h=>by simp only [ZbM] at h;cases h
 | n+1,0,_,_,_,hn,_=>by omega
 | n+1,n'+1,tm,σ,r,hn,h=>by
  simp only [ZbM] at h ⊢
  split at h
  ·rename_i h1
   rw [hf _ _ _ h1]
   exact Zgn hf (by omega) h
  ·rename_i hne
   rw [hf _ _ _ h]
   split
   ·rename_i e;injection e with e;subst e;exact absurd h (hne _ _)
   ·rfl
theorem ZbR (hO:OLe O O') {m0:Nat}:∀ {c:Zl} {n n':Nat} {tm:Tms} {σ:Za} {r:Zab×Tms×Za},n<=n'->Zr O bf m0 n c tm σ=some r->Zr O' bf m0 n' c tm σ=some r:=by
 intro c
 induction c with
 | skip=>intro n n' tm σ r _ h;exact h
 | exit id=>intro n n' tm σ r _ h;exact h
 | ret=>intro n n' tm σ r _ h;exact h
 | stuck=>intro n n' tm σ r _ h;exact h
 | region ops chk live =>
  intro n n' tm σ r _ h
  simp only [Zr] at h ⊢
  exact Zk7 hO h
 | seq a b iha ihb =>
  intro n n' tm σ r hn h
  simp only [Zr] at h ⊢
  split at h
  ·rename_i h1;rw [iha hn h1];exact ihb hn h
  ·rename_i hne
   rw [iha hn h]
   split
   ·rename_i e;injection e with e;subst e;exact absurd h (hne _ _)
   ·rfl
 | cond c a b iha ihb =>
  intro n n' tm σ r hn h
  simp only [Zr] at h ⊢
  split at h
  ·exact iha hn h
  ·exact ihb hn h
  ·cases h
 | block id c ih =>
  intro n n' tm σ r hn h
  simp only [Zr] at h ⊢
  split at h
  ·rename_i h1;rw [ih hn h1];exact h
  ·rename_i hne
   rw [ih hn h]
   split
   ·rename_i e;injection e with e;subst e;exact absurd h (hne _ _ _)
   ·rfl
 | loop live c ih =>
  intro n n' tm σ r hn h
  simp only [Zr] at h ⊢
  exact Zgn (fun tm σ r h=>ih hn h) hn h
theorem Ze7 {m0:Nat} {fn:Zac} {x y:Option (Zab×Tms×Za)} (h:∀ r,x=some r->y=some r) {r:AVal×Za} (hr:Zax m0 fn x=some r):Zax m0 fn y=some r:=by
 cases x with
 | none=>simp only [Zax] at hr;cases hr
 | some q=>rw [h q rfl];exact hr
theorem ZkI (fs:Nat->Option Zac) (prim:ZaK):∀ n,OLe (ZB fs prim bf n) (ZB fs prim bf (n+1))
 | 0=>by intro f a σ r h;simp only [ZB] at h;cases h
 | n+1=>by
  intro f a σ r h
  rw [ZB] at h ⊢
  split at h
  ·rename_i g hg;exact h
  ·rename_i hg
   split at h
   ·cases h
   ·rename_i fn hfn
    exact Ze7 (fun q hq=>ZbR (ZkI fs prim n) (by omega) hq) h
theorem Zds (fs : Nat -> Option Zac) (prim : ZaK) {n m : Nat} (h : n <= m) : OLe (ZB fs prim bf n) (ZB fs prim bf m) := by
  induction m with
  | zero => obtain rfl : n = 0 := by omega
            exact fun _ _ _ _ h => h
  | succ m ih =>
    by_cases e : n = m + 1
    . subst e; exact fun _ _ _ _ h => h
    . exact fun f a σ r hr => ZkI fs prim m f a σ r (ih (by omega) f a σ r hr)
end
section
variable (fs:Nat->Option Zac) (prim:ZaK) (bf:Nat->Bool)
open Classical in
noncomputable def EV:Zq:=fun f args σ=>if h:∃ r,∃ n,ZB fs prim bf n f args σ=some r then some h.choose else none
open Classical in
noncomputable def evC (m:Nat) (c:Zl) (tm:Tms) (σ:Za):Option (Zab×Tms×Za):=if h:∃ r,∃ n,Zr (ZB fs prim bf n) bf m n c tm σ=some r then some h.choose else none
variable {fs prim bf} {m0:Nat}
theorem Zbd {f:Nat} {args:List AVal} {σ:Za} {r:AVal×Za}:EV fs prim bf f args σ=some r↔∃ n,ZB fs prim bf n f args σ=some r:=by
 unfold EV
 constructor
 ·intro h
  split at h
  ·rename_i hx
   injection h with h
   rw [<-h]
   exact hx.choose_spec
  ·cases h
 ·rintro ⟨n,hn⟩
  have hx:∃ r,∃ n,ZB fs prim bf n f args σ=some r:=⟨r,n,hn⟩
  rw [dif_pos hx]
  obtain ⟨m,hm⟩:=hx.choose_spec
  have h1:=Zds (bf:=bf) fs prim (WK n m) _ _ _ _ hn
  have h2:=Zds (bf:=bf) fs prim (WH n m) _ _ _ _ hm
  rw [h1] at h2
  injection h2 with h2
  rw [<-h2]
theorem Zam {c:Zl} {tm:Tms} {σ:Za} {r:Zab×Tms×Za}:evC fs prim bf m0 c tm σ=some r↔∃ n,Zr (ZB fs prim bf n) bf m0 n c tm σ=some r:=by
 unfold evC
 constructor
 ·intro h
  split at h
  ·rename_i hx
   injection h with h
   rw [<-h]
   exact hx.choose_spec
  ·cases h
 ·rintro ⟨n,hn⟩
  have hx:∃ r,∃ n,Zr (ZB fs prim bf n) bf m0 n c tm σ=some r:=⟨r,n,hn⟩
  rw [dif_pos hx]
  obtain ⟨m,hm⟩:=hx.choose_spec
  have h1:=ZbR (Zds (bf:=bf) fs prim (WK n m)) (WK n m) hn
  have h2:=ZbR (Zds (bf:=bf) fs prim (WH n m)) (WH n m) hm
  rw [h1] at h2
  injection h2 with h2
  rw [<-h2]
theorem ZcQ {α:Type} {x y:Option α} (h:∀ r,x=some r↔y=some r):x=y:=by
 cases x with
 | none =>
  cases y with
  | none=>rfl
  | some q=>exact absurd ((h q).2 rfl) (by simp)
 | some q=>exact ((h q).1 rfl).symm
theorem Zp4 (n:Nat):OLe (ZB fs prim bf n) (EV fs prim bf):=fun _ _ _ _ h=>Zbd.2 ⟨n,h⟩
theorem up {n m:Nat} (h:n<=m):OLe (ZB fs prim bf n) (ZB fs prim bf m):=Zds fs prim h
theorem Zpj {f:Nat} {g:List AVal->Za->Option (AVal×Za)} (hp:prim f=some g) (args:List AVal) (σ:Za):EV fs prim bf f args σ=g args σ:=by
 apply ZcQ
 intro r
 rw [Zbd]
 constructor
 ·rintro ⟨n,h⟩
  cases n with
  | zero=>simp only [ZB] at h;cases h
  | succ n=>rw [ZB,hp] at h;exact h
 ·intro h
  exact ⟨1,by rw [ZB,hp];exact h⟩
theorem ZjY {f:Nat} {fn:Zac} (hp:prim f=none) (hf:fs f=some fn) (args:List AVal) (σ:Za):EV fs prim bf f args σ=Zax σ.length fn (evC fs prim bf σ.length fn.body (enterA 0 args []) σ):=by
 apply ZcQ
 intro r
 rw [Zbd]
 constructor
 ·rintro ⟨n,h⟩
  cases n with
  | zero=>simp only [ZB] at h;cases h
  | succ n =>
   rw [ZB,hp,hf] at h
   exact Ze7 (fun q hq=>Zam.2 ⟨n,hq⟩) h
 ·intro h
  cases hx:evC fs prim bf σ.length fn.body (enterA 0 args []) σ with
  | none=>rw [hx] at h;simp only [Zax] at h;cases h
  | some q =>
   obtain ⟨n,hn⟩:=Zam.1 hx
   refine ⟨n+1,?_⟩
   rw [ZB,hp,hf]
   rw [hx] at h
   exact Ze7 (x:=some q) (fun q' hq'=>by injection hq' with hq';subst hq';exact hn) h
theorem Zkt {σ:Za} {sq f own:Nat} {view:Bool} {args:List AVal} {r:AVal×Za×Cls} (h:Zi (EV fs prim bf) bf σ sq f own view args=some r):∃ n,Zi (ZB fs prim bf n) bf σ sq f own view args=some r:=by
 unfold Zi Za5 at h ⊢
 split at h
 ·cases h
 ·rename_i vs ts hv
  split at h
  ·rename_i hc
   simp only [hc,if_true]
   cases hx:EV fs prim bf f (ZG (Zg (Zj σ ts) 0 (Zn (Zj σ ts) 1000 (ZM vs) [])) vs) (Zm (Zj σ ts) 0 (Zn (Zj σ ts) 1000 (ZM vs) []) (Zg (Zj σ ts) 0 (Zn (Zj σ ts) 1000 (ZM vs) [])) (Zn (Zj σ ts) 1000 (ZM vs) []) 0) with
   | none =>
    rw [hx] at h
    cases view <;> simp [Zat,Zcb,Zal] at h
   | some q =>
    obtain ⟨n,hn⟩:=Zbd.1 hx
    exact ⟨n,by rw [hn];rw [hx] at h;exact h⟩
  ·cases h
theorem ZqA {tm:Tms} {σ:Za} {sq:Nat} {ins:Ins} {r:AVal×Za×Cls} (h:execI (EV fs prim bf) bf tm σ sq ins=some r):∃ n,execI (ZB fs prim bf n) bf tm σ sq ins=some r:=by
 cases ins
 case call f own view args =>
  simp only [execI] at h ⊢
  exact Zkt h
 case callv x args =>
  simp only [execI] at h ⊢
  split at h
  ·exact Zkt h
  ·cases h
 all_goals exact ⟨0,h⟩
theorem ZkU {o:AOp} {tm:Tms} {σ:Za} {sq:Nat} {r:AVal×Tms×Za×Cls} (h:Zh (EV fs prim bf) bf o sq tm σ=some r):∃ n,Zh (ZB fs prim bf n) bf o sq tm σ=some r:=by
 unfold Zh at h ⊢
 split at h
 ·cases h
 ·exact ⟨0,h⟩
 ·split at h
  ·rename_i hf
   simp only [hf,if_true]
   split at h
   ·rename_i he
    obtain ⟨n,hn⟩:=ZqA he
    exact ⟨n,by rw [hn];exact h⟩
   ·cases h
  ·cases h
theorem ZjC:∀ {ops:List AOp} {s:Nat} {tm:Tms} {σ:Za} {r:Tms×Za×List Cls×Option AVal},Zp (EV fs prim bf) bf ops s tm σ=some r->∃ n,Zp (ZB fs prim bf n) bf ops s tm σ=some r
 | [],_,_,_,_,h=>⟨0,h⟩
 | o::ops,s,tm,σ,r,h=>by
  simp only [Zp] at h ⊢
  split at h
  ·cases h
  ·rename_i h1
   obtain ⟨n,hn⟩:=ZkU h1
   exact ⟨n,by rw [hn];exact h⟩
  rename_i v tm1 σ1 c hnp h1
  split at h
  ·cases h
  rename_i h2
  obtain ⟨n,hn⟩:=ZkU h1
  obtain ⟨m,hm⟩:=ZjC h2
  refine ⟨max n m,?_⟩
  rw [Zg5 (up (WK n m)) hn]
  simp only
  rw [Zir (up (WH n m)) hm]
  exact h
theorem Zoh {ops:List AOp} {chk:Option (List (Nat×Nat))} {live:List Nat} {tm:Tms} {σ:Za} {r:Zab×Tms×Za} (h:ZaT (EV fs prim bf) bf ops chk live tm σ=some r):∃ n,ZaT (ZB fs prim bf n) bf ops chk live tm σ=some r:=by
 unfold ZaT at h ⊢
 cases hx:Zp (EV fs prim bf) bf ops σ.length tm (σ++XC (sitesOf ops) .free) with
 | none=>rw [hx] at h;simp only [Zbt] at h;cases h
 | some q =>
  obtain ⟨n,hn⟩:=ZjC hx
  exact ⟨n,by rw [hn];rw [hx] at h;exact h⟩
theorem ZtW (tm:Tms) (σ:Za):evC fs prim bf m0 .skip tm σ=some (.normal,tm,σ):=Zam.2 ⟨0,rfl⟩
theorem ZxO (id:Nat) (tm:Tms) (σ:Za):evC fs prim bf m0 (.exit id) tm σ=some (.exit id,tm,σ):=Zam.2 ⟨0,rfl⟩
theorem ZnV (tm:Tms) (σ:Za):evC fs prim bf m0 .ret tm σ=some (.ret,tm,σ):=Zam.2 ⟨0,rfl⟩
theorem ZoU {ops:List AOp} {chk:Option (List (Nat×Nat))} {live:List Nat} {tm:Tms} {σ:Za}:evC fs prim bf m0 (.region ops chk live) tm σ=ZaT (EV fs prim bf) bf ops chk live tm σ:=by
 apply ZcQ
 intro r
 rw [Zam]
 constructor
 ·rintro ⟨n,hn⟩
  simp only [Zr] at hn
  exact Zk7 (Zp4 n) hn
 ·intro h
  obtain ⟨n,hn⟩:=Zoh h
  exact ⟨n,by simp only [Zr];exact hn⟩
theorem ZuJ {a b:Zl} {tm tm':Tms} {σ σ':Za} (h:evC fs prim bf m0 a tm σ=some (.normal,tm',σ')):evC fs prim bf m0 (.seq a b) tm σ=evC fs prim bf m0 b tm' σ':=by
 obtain ⟨n,hn⟩:=Zam.1 h
 apply ZcQ
 intro r
 rw [Zam,Zam]
 constructor
 ·rintro ⟨m,hm⟩
  have h1:=ZbR (up (WK n m)) (WK n m) hn
  have h2:=ZbR (up (WH n m)) (WH n m) hm
  simp only [Zr,h1] at h2
  exact ⟨_,h2⟩
 ·rintro ⟨m,hm⟩
  have h1:=ZbR (up (WK n m)) (WK n m) hn
  have h2:=ZbR (up (WH n m)) (WH n m) hm
  exact ⟨max n m,by simp only [Zr,h1];exact h2⟩
theorem Zik {a b:Zl} {tm tm':Tms} {σ σ':Za} {e:Zab} (he:e≠.normal) (h:evC fs prim bf m0 a tm σ=some (e,tm',σ')):evC fs prim bf m0 (.seq a b) tm σ=some (e,tm',σ'):=by
 obtain ⟨n,hn⟩:=Zam.1 h
 refine Zam.2 ⟨n,?_⟩
 simp only [Zr,hn]
 cases e with
 | normal=>exact absurd rfl he
 | exit id=>rfl
 | ret=>rfl
 | panic x=>rfl
def Za8 (id:Nat):Zab×Tms×Za->Zab×Tms×Za
 | (.exit i,tm,σ)=>if i=id then (.normal,tm,σ) else (.exit i,tm,σ)
 | r=>r
theorem Zl9 {id:Nat} {c:Zl} {tm:Tms} {σ:Za}:evC fs prim bf m0 (.block id c) tm σ=(evC fs prim bf m0 c tm σ).map (Za8 id):=by
 have step:∀ n,Zr (ZB fs prim bf n) bf m0 n (.block id c) tm σ=(Zr (ZB fs prim bf n) bf m0 n c tm σ).map (Za8 id):=by
  intro n
  simp only [Zr]
  cases Zr (ZB fs prim bf n) bf m0 n c tm σ with
  | none=>rfl
  | some q =>
   obtain ⟨e,tm1,σ1⟩:=q
   cases e with
   | normal=>rfl
   | ret=>rfl
   | panic x=>rfl
   | exit i=>simp only [XM,Za8];split <;> rfl
 apply ZcQ;intro r
 rw [Zam]
 simp only [step,Xh]
 constructor
 ·rintro ⟨n,q,h1,h2⟩;exact ⟨q,Zam.2 ⟨n,h1⟩,h2⟩
 ·rintro ⟨q,h1,h2⟩;obtain ⟨n,hn⟩:=Zam.1 h1;exact ⟨n,q,hn,h2⟩
theorem ZnB {c:Zl} {tm:Tms} {σ:Za} (h:evC fs prim bf m0 c tm σ=none) (n:Nat):Zr (ZB fs prim bf n) bf m0 n c tm σ=none:=by
 cases hx:Zr (ZB fs prim bf n) bf m0 n c tm σ with
 | none=>rfl
 | some r=>rw [Zam.2 ⟨n,hx⟩] at h;cases h
variable (fs prim bf m0) in
noncomputable def Zb1 (b:Zl):Option (Zab×Tms×Za)->Option (Zab×Tms×Za)
 | some (.normal,tm,σ)=>evC fs prim bf m0 b tm σ
 | r=>r
theorem Zyz {a b:Zl} {tm:Tms} {σ:Za}:evC fs prim bf m0 (.seq a b) tm σ=Zb1 fs prim bf m0 b (evC fs prim bf m0 a tm σ):=by
 cases h:evC fs prim bf m0 a tm σ with
 | none =>
  simp only [Zb1]
  apply ZcQ;intro r
  rw [Zam]
  constructor
  ·rintro ⟨n,hn⟩
   simp only [Zr,ZnB h n] at hn
   cases hn
  ·intro h;cases h
 | some q =>
  obtain ⟨e,tm',σ'⟩:=q
  cases e with
  | normal=>exact ZuJ h
  | exit id=>exact Zik (by simp) h
  | ret=>exact Zik (by simp) h
  | panic x=>exact Zik (by simp) h
variable (fs prim bf m0) in
noncomputable def Zfc (a b:Zl) (tm:Tms) (σ:Za):AVal->Option (Zab×Tms×Za)
 | .bool true=>evC fs prim bf m0 a tm σ
 | .bool false=>evC fs prim bf m0 b tm σ
 | _=>none
theorem Zue {c:Opd} {a b:Zl} {tm:Tms} {σ:Za}:evC fs prim bf m0 (.cond c a b) tm σ=Zfc fs prim bf m0 a b tm σ (c.ev tm):=by
 apply ZcQ;intro r
 rw [Zam]
 simp only [Zr]
 constructor
 ·rintro ⟨n,hn⟩
  split at hn
  ·rename_i e;rw [e];simp only [Zfc];exact Zam.2 ⟨n,hn⟩
  ·rename_i e;rw [e];simp only [Zfc];exact Zam.2 ⟨n,hn⟩
  ·cases hn
 ·intro h
  unfold Zfc at h
  split at h
  ·rename_i e;obtain ⟨n,hn⟩:=Zam.1 h;exact ⟨n,by rw [e];exact hn⟩
  ·rename_i e;obtain ⟨n,hn⟩:=Zam.1 h;exact ⟨n,by rw [e];exact hn⟩
  ·cases h
variable (fs prim bf m0) in
noncomputable def evL (live:List Nat) (c:Zl) (tm:Tms) (σ:Za):Option (Zab×Tms×Za) :=
 match evC fs prim bf m0 c tm σ with
 | some (.normal,tm',σ')=>evC fs prim bf m0 (.loop live c) tm' σ'
 | r=>r
theorem Zi5 {live:List Nat} {c:Zl} {tm:Tms} {σ:Za}:evC fs prim bf m0 (.loop live c) tm σ=evL fs prim bf m0 live c (gcT m0 (keepL live tm) σ).1 (gcT m0 (keepL live tm) σ).2:=by
 apply ZcQ;intro r
 rw [Zam]
 constructor
 ·rintro ⟨n,hn⟩
  simp only [Zr] at hn
  cases n with
  | zero=>simp only [ZbM] at hn;cases hn
  | succ k =>
   simp only [ZbM] at hn
   unfold evL
   cases hx:Zr (ZB fs prim bf (k+1)) bf m0 (k+1) c (gcT m0 (keepL live tm) σ).1 (gcT m0 (keepL live tm) σ).2 with
   | none=>rw [hx] at hn;cases hn
   | some q =>
    rw [Zam.2 ⟨_,hx⟩]
    rw [hx] at hn
    obtain ⟨e,tm',σ'⟩:=q
    cases e with
    | normal =>
     simp only at hn ⊢
     exact Zam.2 ⟨k+1,by simp only [Zr];exact Zgn (fun _ _ _ h=>h) (by omega) hn⟩
    | exit id=>exact hn
    | ret=>exact hn
    | panic x=>exact hn
 ·intro h
  unfold evL at h
  cases hx:evC fs prim bf m0 c (gcT m0 (keepL live tm) σ).1 (gcT m0 (keepL live tm) σ).2 with
  | none=>rw [hx] at h;cases h
  | some q =>
   rw [hx] at h
   obtain ⟨n,hn⟩:=Zam.1 hx
   obtain ⟨e,tm',σ'⟩:=q
   have out:e≠.normal->some (e,tm',σ')=some r->∃ n,Zr (ZB fs prim bf n) bf m0 n (.loop live c) tm σ=some r:=by
    intro he h
    refine ⟨n+1,?_⟩
    have h1:=ZbR (up (show n<=n+1 by omega)) (show n<=n+1 by omega) hn
    simp only [Zr,ZbM,h1]
    cases e with
    | normal=>exact absurd rfl he
    | exit id=>exact h
    | ret=>exact h
    | panic x=>exact h
   cases e with
   | normal =>
    simp only at h
    obtain ⟨m,hm⟩:=Zam.1 h
    have h1:=ZbR (up (show n<=max n m+1 by omega)) (show n<=max n m+1 by omega) hn
    have h2:=ZbR (up (show m<=max n m+1 by omega)) (XO m) hm
    simp only [Zr] at h2
    refine ⟨max n m+1,?_⟩
    simp only [Zr,ZbM,h1]
    exact Zgn (fun tm σ r h=>ZbR (fun _ _ _ _ h=>h) (by omega) h) (by omega) h2
   | exit id=>exact out (by simp) h
   | ret=>exact out (by simp) h
   | panic x=>exact out (by simp) h
theorem Zqx {P:Program} (hm:P.follows .mixedOrders=true) {prim:ZaK} (hP:ZfI P prim) (ann:Nat->Ann) (bf:Nat->Bool):ZY P (EV (Ze4 P ann) prim bf):=by
 intro f args σ r σ' h
 obtain ⟨n,hn⟩:=Zbd.1 h
 exact ZhO hm hP ann bf n f args σ r σ' hn
end
end
section
open Go.RowKit
def ZjT:Tms×Za×List Cls×Option AVal->Tms×Za×Option AVal:=fun q=>(q.1,q.2.1,q.2.2.2)
def Zae:AVal->Bool
 | .pan _=>true
 | _=>false
section
variable (O:Zq) (bf:Nat->Bool)
def exI (i:Ins) (s:Nat) (tm:Tms) (σ:Za):Option (AVal×Za×Cls) :=
 if nsite i == 0 || freeAt σ s then execI O bf tm σ s i else none
def Zaw (ops:List AOp) (s:Nat) (tm:Tms) (σ:Za):Option (Tms×Za×Option AVal):=(Zp O bf ops s tm σ).map ZjT
def kN (d:Option Nat) (os:List AOp) (s:Nat) (tm:Tms):Option (AVal×Za×Cls)->Option (Tms×Za×Option AVal)
 | none=>none
 | some (v,σ,_)=>if Zae v then some (tput tm d v,σ,some (Zaj v)) else Zaw O bf os s (tput tm d v) σ
def ZfU (live:List Nat):Option (Tms×Za×Option AVal)->Option (Zab×Tms×Za)
 | none=>none
 | some (_,σ,some x)=>some (.panic x,[],σ)
 | some (tm,σ,none)=>some (.normal,keepL live tm,σ)
variable {O bf}
theorem ZkW (s:Nat) (tm:Tms) (σ:Za):Zaw O bf [] s tm σ=some (tm,σ,none):=rfl
theorem ZeM {o:AOp} {os:List AOp} {s:Nat} {tm:Tms} {σ:Za} (h:Zh O bf o s tm σ=none):Zp O bf (o::os) s tm σ=none:=by simp only [Zp,h]
theorem Zf4 {o:AOp} {os:List AOp} {s:Nat} {tm tm1:Tms} {σ σ1:Za} {x:AVal} {c:Cls} (h:Zh O bf o s tm σ=some (.pan x,tm1,σ1,c)):Zp O bf (o::os) s tm σ=some (tm1,σ1,[c],some x):=by simp only [Zp,h]
theorem ZkM {o:AOp} {os:List AOp} {s:Nat} {tm tm1:Tms} {σ σ1:Za} {v:AVal} {c:Cls} (h:Zh O bf o s tm σ=some (v,tm1,σ1,c)) (hn:Zae v=false):Zp O bf (o::os) s tm σ=(Zp O bf os (s+nsite o.ins) tm1 σ1).map fun q=>(q.1,q.2.1,c::q.2.2.1,q.2.2.2):=by
 simp only [Zp,h]
 cases v <;> first
  | (simp [Zae] at hn;done)
  | (simp only;cases Zp O bf os (s+nsite o.ins) tm1 σ1 <;> rfl)
theorem ZgG {o:AOp} {os:List AOp} {s:Nat} {tm:Tms} {σ:Za} (h:Zh O bf o s tm σ=none):Zaw O bf (o::os) s tm σ=none:=by simp only [Zaw,ZeM h,Option.map_none]
theorem ZgZ {o:AOp} {os:List AOp} {s:Nat} {tm tm1:Tms} {σ σ1:Za} {x:AVal} {c:Cls} (h:Zh O bf o s tm σ=some (.pan x,tm1,σ1,c)):Zaw O bf (o::os) s tm σ=some (tm1,σ1,some x):=by simp only [Zaw,Zf4 h,XM,ZjT]
theorem ZfX {o:AOp} {os:List AOp} {s:Nat} {tm tm1:Tms} {σ σ1:Za} {v:AVal} {c:Cls} (h:Zh O bf o s tm σ=some (v,tm1,σ1,c)) (hn:Zae v=false):Zaw O bf (o::os) s tm σ=Zaw O bf os (s+nsite o.ins) tm1 σ1:=by
 simp only [Zaw,ZkM h hn,Option.map_map]
 rfl
theorem Zgi {v:AVal} (h:Zae v=true):∃ x,v=.pan x:=by
 cases v <;> first | exact ⟨_,rfl⟩ | (simp [Zae] at h;done)
theorem Zgd {d:Option Nat} {i:Ins} {af:List Nat} {s:Nat} {tm:Tms} {σ:Za}:Zh O bf ⟨d,i,none,af⟩ s tm σ=(exI O bf i s tm σ).map fun q=>(q.1,tput tm d q.1,q.2.1,q.2.2):=by
 unfold Zh exI
 simp only [Zay]
 split
 ·cases execI O bf tm σ s i with
  | none=>rfl
  | some q=>rfl
 ·rfl
theorem Zii (d:Option Nat) (i:Ins) (af:List Nat) (os:List AOp) (s:Nat) (tm:Tms) (σ:Za):Zaw O bf (⟨d,i,none,af⟩::os) s tm σ=kN O bf d os (s+nsite i) tm (exI O bf i s tm σ):=by
 cases h:exI O bf i s tm σ with
 | none=>exact ZgG (by rw [Zgd,h];rfl)
 | some q =>
  obtain ⟨v,σ1,c⟩:=q
  have hs:Zh O bf ⟨d,i,none,af⟩ s tm σ=some (v,tput tm d v,σ1,c):=by rw [Zgd,h];rfl
  cases hp:Zae v with
  | true =>
   obtain ⟨x,rfl⟩:=Zgi hp
   exact ZgZ hs
  | false =>
   rw [ZfX hs hp]
   simp only [kN,hp,Xg,if_false]
theorem ZvY (ops:List AOp) (live:List Nat) (tm:Tms) (σ:Za):ZaT O bf ops none live tm σ=ZfU live (Zaw O bf ops σ.length tm (σ++XC (sitesOf ops) .free)):=by
 unfold ZaT Zaw
 cases Zp O bf ops σ.length tm (σ++XC (sitesOf ops) .free) with
 | none=>rfl
 | some q =>
  obtain ⟨tm',σ',cs,p⟩:=q
  cases p <;> rfl
theorem Zh6 (d:Option Nat) (os:List AOp) (s:Nat) (tm:Tms) (v:AVal) (σ:Za) (c:Cls) (h:Zae v=false):kN O bf d os s tm (some (v,σ,c))=Zaw O bf os s (tput tm d v) σ:=by
 simp only [kN,h,Xg,if_false]
theorem Zxl (d:Option Nat) (os:List AOp) (s:Nat) (tm:Tms) (x:AVal) (σ:Za) (c:Cls):kN O bf d os s tm (some (.pan x,σ,c))=some (tput tm d (.pan x),σ,some x):=rfl
theorem ZtS (d:Option Nat) (os:List AOp) (s:Nat) (tm:Tms):kN O bf d os s tm none=none:=rfl
structure GOp where
 guard:Option (Nat×Bool)
 ops:List AOp
def ZC:List AOp->Tms->Tms
 | [],tm=>tm
 | o::os,tm=>ZC os (tput tm o.dst (.tup []))
def unG (o:AOp):AOp:={ o with guard:=none }
variable (O bf) in
def Zcv (j:Nat) (w:Bool) (g:List AOp) (s:Nat) (tm:Tms) (σ:Za):Option (Tms×Za×Option AVal):=match Zay (some (j,w)) tm with
 | none=>none
 | some false=>some (ZC g tm,σ,none)
 | some true=>Zaw O bf (g.map unG) s tm σ
variable (O bf) in
def gK (os:List AOp) (s:Nat):Option (Tms×Za×Option AVal)->Option (Tms×Za×Option AVal)
 | none=>none
 | some (tm,σ,some x)=>some (tm,σ,some x)
 | some (tm,σ,none)=>Zaw O bf os s tm σ
def Zv (j:Nat) (w:Bool):List AOp->List AOp×List AOp
 | []=>([],[])
 | o::os=>match o.guard with
  | some (j',w')=>if j'=j/\w'=w/\o.dst≠some j then ((o::(Zv j w os).1),(Zv j w os).2) else ([],o::os)
  | none=>([],o::os)
theorem Ziz (j:Nat) (w:Bool):∀ os,(Zv j w os).1++(Zv j w os).2=os
 | []=>rfl
 | o::os=>by
  simp only [Zv]
  split
  ·split
   ·simp [Ziz j w os]
   ·rfl
  ·rfl
theorem ZhB (j:Nat) (w:Bool):∀ os,∀ o ∈ (Zv j w os).1,o.guard=some (j,w)/\o.dst≠some j
 | []=>by simp [Zv]
 | o::os=>by
  intro o' ho
  simp only [Zv] at ho
  split at ho
  ·rename_i j' w' hg
   split at ho
   ·rename_i hc
    rcases XG.1 ho with rfl | ho
    ·exact ⟨by rw [hg,hc.1,hc.2.1],hc.2.2⟩
    ·exact ZhB j w os o' ho
   ·simp at ho
  ·simp at ho
theorem Zri {d:Option Nat} {v:AVal} {n:Nat} {tm:Tms} (h:d≠some n):tget (tput tm d v) n=tget tm n:=by
 cases d with
 | none=>rfl
 | some d =>
  have : d≠n:=by rintro rfl;exact h rfl
  simp only [tput,Zfq,this,if_false]
theorem Zde {d:Option Nat} {v:AVal} {j:Nat} {w:Bool} {tm:Tms} (h:d≠some j):Zay (some (j,w)) (tput tm d v)=Zay (some (j,w)) tm:=by
 simp only [Zay,Zri h]
theorem Zlj:∀ (a b:List AOp) (s:Nat) (tm:Tms) (σ:Za),Zaw O bf (a++b) s tm σ=gK O bf b (s+sitesOf a) (Zaw O bf a s tm σ)
 | [],b,s,tm,σ=>by simp [ZkW,gK,sitesOf]
 | o::a,b,s,tm,σ=>by
  have ih:=Zlj a b
  simp only [Wk]
  have hs:s+nsite o.ins+sitesOf a=s+sitesOf (o::a):=by simp [sitesOf,Ws]
  cases hst:Zh O bf o s tm σ with
  | none=>rw [ZgG hst,ZgG hst];rfl
  | some q =>
   obtain ⟨v,tm1,σ1,c⟩:=q
   cases hp:Zae v with
   | true =>
    obtain ⟨x,rfl⟩:=Zgi hp
    rw [ZgZ hst,ZgZ hst];rfl
   | false=>rw [ZfX hst hp,ZfX hst hp,ih,hs]
theorem ZiW (j:Nat) (w:Bool):∀ (g:List AOp),(∀ o ∈ g,o.guard=some (j,w)/\o.dst≠some j)->∀ (s:Nat) (tm:Tms) (σ:Za),g≠[]->Zaw O bf g s tm σ=Zcv O bf j w g s tm σ
 | [],_,_,_,_,h=>absurd rfl h
 | o::g,hall,s,tm,σ,_=>by
  obtain ⟨hg,hd⟩:=hall o (by simp)
  have ih:∀ (tm:Tms) (σ:Za) (s:Nat),Zay (some (j,w)) tm≠none->Zaw O bf g s tm σ=Zcv O bf j w g s tm σ:=by
   intro tm σ s hw
   by_cases he:g=[]
   ·subst he
    unfold Zcv
    cases hx:Zay (some (j,w)) tm with
    | none=>exact absurd hx hw
    | some b=>cases b <;> rfl
   ·exact ZiW j w g (fun o ho=>hall o (by simp [ho])) s tm σ he
  cases hx:Zay (some (j,w)) tm with
  | none =>
   rw [ZgG (by simp only [Zh,hg,hx])]
   simp only [Zcv,hx]
  | some b =>
   cases b with
   | false =>
    have h1:Zaw O bf (o::g) s tm σ=Zaw O bf g (s+nsite o.ins) (tput tm o.dst (.tup [])) σ :=
     ZfX (v:=.tup []) (c:={}) (by simp only [Zh,hg,hx]) rfl
    rw [h1,ih _ _ _ (by rw [Zde hd,hx];simp)]
    unfold Zcv
    rw [Zde hd,hx]
    rfl
   | true =>
    have key:∀ r:Option (AVal×Za×Cls),(∀ v σ' c,r=some (v,σ',c)->Zae v=false->Zaw O bf g (s+nsite o.ins) (tput tm o.dst v) σ'=Zaw O bf (g.map unG) (s+nsite o.ins) (tput tm o.dst v) σ')->kN O bf o.dst g (s+nsite o.ins) tm r=kN O bf o.dst (g.map unG) (s+nsite o.ins) tm r:=by
     intro r hr
     cases r with
     | none=>rfl
     | some q =>
      obtain ⟨v,σ',c⟩:=q
      cases hp:Zae v with
      | true=>simp only [kN,hp,if_true]
      | false=>rw [Zh6 _ _ _ _ _ _ _ hp,Zh6 _ _ _ _ _ _ _ hp];exact hr v σ' c rfl hp
    have h1:Zaw O bf (o::g) s tm σ=kN O bf o.dst g (s+nsite o.ins) tm (exI O bf o.ins s tm σ):=by
     have h0:Zaw O bf (o::g) s tm σ=Zaw O bf (⟨o.dst,o.ins,none,o.after⟩::g) s tm σ:=by
      have hst:Zh O bf o s tm σ=Zh O bf ⟨o.dst,o.ins,none,o.after⟩ s tm σ:=by
       unfold Zh
       simp only [hg,hx]
       rfl
      unfold Zaw
      simp only [Zp,hst]
     rw [h0,Zii]
    rw [h1]
    unfold Zcv
    rw [hx]
    simp only [XB]
    rw [show unG o=⟨o.dst,o.ins,none,o.after⟩ from rfl,Zii]
    refine key _ fun v σ' c _ _=>?_
    rw [ih _ _ _ (by rw [Zde hd,hx];simp)]
    unfold Zcv
    rw [Zde hd,hx]
theorem ZqY (d:Option Nat) (i:Ins) (j:Nat) (w:Bool) (af:List Nat) (os:List AOp) (s:Nat) (tm:Tms) (σ:Za) (hd:decide (d=some j)=false) :
  Zaw O bf (⟨d,i,some (j,w),af⟩::os) s tm σ=gK O bf (Zv j w os).2 (s+sitesOf (⟨d,i,some (j,w),af⟩::(Zv j w os).1)) (Zcv O bf j w (⟨d,i,some (j,w),af⟩::(Zv j w os).1) s tm σ):=by
 have h:=Ziz j w os
 have hall:∀ o ∈ (⟨d,i,some (j,w),af⟩::(Zv j w os).1:List AOp),o.guard=some (j,w)/\o.dst≠some j:=by
  intro o ho
  rcases XG.1 ho with rfl | ho
  ·exact ⟨rfl,by simpa using hd⟩
  ·exact ZhB j w os o ho
 rw [<-ZiW j w _ hall s tm σ (by simp),<-Zlj,Wk,h]
variable (O bf) in
def gW (w:Bool) (g:List AOp) (s:Nat) (tm:Tms) (σ:Za):AVal->Option (Tms×Za×Option AVal)
 | .bool b=>if b=w then Zaw O bf (g.map unG) s tm σ else some (ZC g tm,σ,none)
 | .tup []=>some (ZC g tm,σ,none)
 | _=>none
theorem Zvf (j:Nat) (w:Bool) (g:List AOp) (s:Nat) (tm:Tms) (σ:Za):Zcv O bf j w g s tm σ=gW O bf w g s tm σ (tget tm j):=by
 unfold Zcv Zay
 simp only
 generalize tget tm j=v
 cases v
 case bool b=>cases b <;> cases w <;> rfl
 case tup vs=>cases vs <;> rfl
 all_goals rfl
theorem Zxj (w:Bool) (g:List AOp) (s:Nat) (tm:Tms) (σ:Za) (b:Bool):gW O bf w g s tm σ (.bool b)=if b=w then Zaw O bf (g.map unG) s tm σ else some (ZC g tm,σ,none):=rfl
theorem Zsb (w:Bool) (g:List AOp) (s:Nat) (tm:Tms) (σ:Za):gW O bf w g s tm σ (.tup [])=some (ZC g tm,σ,none):=rfl
theorem Zpn (os:List AOp) (s:Nat) (tm:Tms) (σ:Za):gK O bf os s (some (tm,σ,none))=Zaw O bf os s tm σ:=rfl
end
section
variable (c:Prop) [Decidable c]
theorem Z5 {α:Type} (a b:α) (x y:List α):(if c then a::x else b::y)=(if c then a else b)::(if c then x else y):=by split <;> rfl
theorem ZqX (k:IntKind) (a b:Int):(if c then AVal.int k a else AVal.int k b)=AVal.int k (if c then a else b):=by split <;> rfl
theorem ZqP (a b:Bool):(if c then AVal.bool a else AVal.bool b)=AVal.bool (if c then a else b):=by split <;> rfl
theorem Zys (a b:List UInt8):(if c then AVal.str a else AVal.str b)=AVal.str (if c then a else b):=by split <;> rfl
theorem ZvR (p q:Bool) (a b:List AVal):(if c then AVal.lst p a else AVal.lst q b)=AVal.lst (if c then p else q) (if c then a else b):=by split <;> rfl
theorem Zo0 (a b:List AVal):(if c then AVal.agg a else AVal.agg b)=AVal.agg (if c then a else b):=by split <;> rfl
theorem Zn1 (a b:List AVal):(if c then Zf.var a else Zf.var b)=Zf.var (if c then a else b):=by split <;> rfl
theorem ZmS (g k:Nat) (a b:List AVal):(if c then Zf.row g k a else Zf.row g k b)=Zf.row g k (if c then a else b):=by split <;> rfl
theorem ZoH (t:Nat) (a b:Nat):(if c then AVal.ref t a else AVal.ref t b)=AVal.ref t (if c then a else b):=by split <;> rfl
theorem Z0 {α:Type} (x y z:α):(if c then (if c then x else y) else z)=if c then x else z:=by split <;> rfl
theorem ZV {α:Type} (x y z:α):(if c then x else (if c then y else z))=if c then x else z:=by split <;> rfl
theorem Z3 {α:Type} (x y z:α):(if c then (if ¬c then x else y) else z)=if c then y else z:=by split <;> simp_all
theorem ZQ {α:Type} (x y z:α):(if c then x else (if ¬c then y else z))=if c then x else y:=by split <;> simp_all
theorem ZwN (σ:Za) (a b:AVal) (p:Bool):Zdn σ a b (.bool p)=some (if p=true then a else b,σ,{}):=by cases p <;> rfl
theorem ZrY (a b:AVal):Zae (if c then a else b)=if c then Zae a else Zae b:=by split <;> rfl
end
section
variable {fs:Nat->Option Zac} {prim:ZaK} {bf:Nat->Bool} {m0:Nat}
theorem Zpd (p:Bool) (a b:Zl) (tm:Tms) (σ:Za):Zfc fs prim bf m0 a b tm σ (.bool p)=if p=true then evC fs prim bf m0 a tm σ else evC fs prim bf m0 b tm σ:=by
 cases p <;> rfl
theorem ZlS (b:Zl) (tm:Tms) (σ:Za):Zb1 fs prim bf m0 b (some (.normal,tm,σ))=evC fs prim bf m0 b tm σ:=rfl
theorem Zn6 (b:Zl) (i:Nat) (tm:Tms) (σ:Za):Zb1 fs prim bf m0 b (some (.exit i,tm,σ))=some (.exit i,tm,σ):=rfl
theorem ZrV (b:Zl) (tm:Tms) (σ:Za):Zb1 fs prim bf m0 b (some (.ret,tm,σ))=some (.ret,tm,σ):=rfl
theorem ZwP (b:Zl) (x:AVal) (tm:Tms) (σ:Za):Zb1 fs prim bf m0 b (some (.panic x,tm,σ))=some (.panic x,tm,σ):=rfl
theorem Zux (c:Prop) [Decidable c] (b:Zl) (x y:Option (Zab×Tms×Za)):Zb1 fs prim bf m0 b (if c then x else y)=if c then Zb1 fs prim bf m0 b x else Zb1 fs prim bf m0 b y:=by split <;> rfl
theorem Zuv (id:Nat) (tm:Tms) (σ:Za):W8 (Za8 id) (some (.normal,tm,σ))=some (.normal,tm,σ):=rfl
theorem Zp9 (id i:Nat) (tm:Tms) (σ:Za):W8 (Za8 id) (some (.exit i,tm,σ))=if i=id then some (.normal,tm,σ) else some (.exit i,tm,σ):=by
 simp only [XM,Za8];split <;> rfl
theorem ZvS (id:Nat) (tm:Tms) (σ:Za):W8 (Za8 id) (some (.ret,tm,σ))=some (.ret,tm,σ):=rfl
theorem Zxr (id:Nat) (x:AVal) (tm:Tms) (σ:Za):W8 (Za8 id) (some (.panic x,tm,σ))=some (.panic x,tm,σ):=rfl
theorem Zyx (id:Nat) (c:Prop) [Decidable c] (x y:Option (Zab×Tms×Za)):W8 (Za8 id) (if c then x else y)=if c then W8 (Za8 id) x else W8 (Za8 id) y:=by split <;> rfl
theorem Zsh (m:Nat) (fn:Zac) (c:Prop) [Decidable c] (x y:Option (Zab×Tms×Za)):Zax m fn (if c then x else y)=if c then Zax m fn x else Zax m fn y:=by split <;> rfl
end
section
variable {fs:Nat->Option Zac} {prim:ZaK} {bf:Nat->Bool} {m0:Nat}
theorem Zsy {live:List Nat} {c:Zl} {tm tm':Tms} {σ σ':Za} (h:evC fs prim bf m0 c tm σ=some (.normal,tm',σ')):evL fs prim bf m0 live c tm σ=evL fs prim bf m0 live c (gcT m0 (keepL live tm') σ').1 (gcT m0 (keepL live tm') σ').2:=by
 unfold evL
 rw [h]
 simp only
 rw [Zi5]
 rfl
theorem Zv5 {live:List Nat} {c:Zl} {tm tm':Tms} {σ σ':Za} {i:Nat} (h:evC fs prim bf m0 c tm σ=some (.exit i,tm',σ')):evL fs prim bf m0 live c tm σ=some (.exit i,tm',σ'):=by
 unfold evL;rw [h]
theorem ZuG {live:List Nat} {c:Zl} {tm tm':Tms} {σ σ':Za} (h:evC fs prim bf m0 c tm σ=some (.ret,tm',σ')):evL fs prim bf m0 live c tm σ=some (.ret,tm',σ'):=by
 unfold evL;rw [h]
variable (fs prim bf m0) in
noncomputable def evM (live:List Nat) (c:Zl):Option (Zab×Tms×Za)->Option (Zab×Tms×Za)
 | some (.normal,tm,σ)=>evL fs prim bf m0 live c (gcT m0 (keepL live tm) σ).1 (gcT m0 (keepL live tm) σ).2
 | r=>r
theorem ZaU (live:List Nat) (c:Zl) (tm:Tms) (σ:Za):evL fs prim bf m0 live c tm σ=evM fs prim bf m0 live c (evC fs prim bf m0 c tm σ):=by
 cases h:evC fs prim bf m0 c tm σ with
 | none=>unfold evL;rw [h];rfl
 | some q =>
  obtain ⟨e,tm',σ'⟩:=q
  cases e with
  | normal=>exact Zsy h
  | exit i=>exact Zv5 h
  | ret=>exact ZuG h
  | panic x=>unfold evL;rw [h];rfl
theorem Zrx (live:List Nat) (c:Zl) (tm:Tms) (σ:Za):evM fs prim bf m0 live c (some (.normal,tm,σ))=evL fs prim bf m0 live c (gcT m0 (keepL live tm) σ).1 (gcT m0 (keepL live tm) σ).2:=rfl
theorem ZtX (live:List Nat) (c:Zl) (i:Nat) (tm:Tms) (σ:Za):evM fs prim bf m0 live c (some (.exit i,tm,σ))=some (.exit i,tm,σ):=rfl
theorem Zvp (live:List Nat) (c:Zl) (tm:Tms) (σ:Za):evM fs prim bf m0 live c (some (.ret,tm,σ))=some (.ret,tm,σ):=rfl
theorem Zqc (live:List Nat) (c:Zl) (x:AVal) (tm:Tms) (σ:Za):evM fs prim bf m0 live c (some (.panic x,tm,σ))=some (.panic x,tm,σ):=rfl
theorem Zmk (live:List Nat) (b:Zl) (c:Prop) [Decidable c] (x y:Option (Zab×Tms×Za)):evM fs prim bf m0 live b (if c then x else y)=if c then evM fs prim bf m0 live b x else evM fs prim bf m0 live b y:=by split <;> rfl
end
def Zan:AVal->Bool
 | .int _ _=>true
 | .bool _=>true
 | .str _=>true
 | .nilp=>true
 | .nilm=>true
 | .nili=>true
 | .lst _ _=>true
 | .fn _ []=>true
 | _=>false
def Zak:AVal->Bool
 | .agg cs=>cs.all Zan
 | x=>Zan x
def Zar:AVal->AVal
 | .lst _ xs=>.lst false xs
 | x=>x
def Zah:AVal->AVal
 | .agg cs=>.agg (cs.map Zar)
 | x=>Zar x
theorem Zlr {σ:Za} {x:AVal} (h:Zan x=true):ZaI σ x=some (Zar x,[]):=by
 cases x <;> first | (simp [Zan] at h;done) | rfl
theorem Zkc {σ:Za}:∀ {xs:List AVal},xs.all Zan=true->Zbp σ xs=some (xs.map Zar,[])
 | [],_=>rfl
 | x::xs,h=>by
  simp only [XH,Xc] at h
  simp only [Zbp,Zlr h.1,Zkc h.2,XB,XK]
theorem Zd4 {x:AVal} (h:∀ cs,x≠.agg cs):Zak x=Zan x/\Zah x=Zar x:=by
 cases x <;> first | exact ⟨rfl,rfl⟩ | exact absurd rfl (h _)
theorem ZlJ {σ:Za} {x:AVal} (h:∀ cs,x≠.agg cs):showA σ x=ZaI σ x:=by
 cases x <;> first | rfl | exact absurd rfl (h _)
theorem ZhU (x:AVal):(∃ cs,x=.agg cs)\/∀ cs,x≠.agg cs:=by
 cases x <;> first | exact Xo ⟨_,rfl⟩ | (right;intro cs;simp)
theorem ZyB {σ:Za} {x:AVal} (h:Zak x=true):showA σ x=some (Zah x,[]):=by
 rcases ZhU x with ⟨cs,rfl⟩ | hn
 ·simp only [Zak] at h
  simp only [showA,Zkc h,Zah]
 ·rw [(Zd4 hn).1] at h
  rw [ZlJ hn,(Zd4 hn).2]
  exact Zlr h
theorem Zjg {σ:Za}:∀ {xs:List AVal},xs.all Zak=true->showAs σ xs=some (xs.map Zah,[])
 | [],_=>rfl
 | x::xs,h=>by
  simp only [XH,Xc] at h
  simp only [showAs,ZyB h.1,Zjg h.2,XB,XK]
theorem Zlg {x:AVal} (h:Zan x=true):Zao (Zar x)=[]:=by
 cases x
 case fn f cs=>cases cs <;> simp [Zan] at h;rfl
 all_goals first | (simp [Zan] at h;done) | rfl
theorem Zlz:∀ {xs:List AVal},xs.all Zan=true->ZM (xs.map Zar)=[]
 | [],_=>rfl
 | x::xs,h=>by
  simp only [XH,Xc] at h
  simp only [XB,ZM,Zlg h.1,Zlz h.2,XK]
theorem Zmg {x:AVal} (h:Zak x=true):Zao (Zah x)=[]:=by
 rcases ZhU x with ⟨cs,rfl⟩ | hn
 ·simp only [Zak] at h
  simp only [Zah,Zao];exact Zlz h
 ·rw [(Zd4 hn).1] at h
  rw [(Zd4 hn).2];exact Zlg h
theorem Zg6:∀ {xs:List AVal},xs.all Zak=true->ZM (xs.map Zah)=[]
 | [],_=>rfl
 | x::xs,h=>by
  simp only [XH,Xc] at h
  simp only [XB,ZM,Zmg h.1,Zg6 h.2,XK]
theorem Zld {ρ:Rho} {x:AVal} (h:Zan x=true):Ze ρ (Zar x)=Zar x:=by
 cases x
 case fn f cs=>cases cs <;> simp [Zan] at h;rfl
 all_goals first | (simp [Zan] at h;done) | rfl
theorem ZjE {ρ:Rho}:∀ {xs:List AVal},xs.all Zan=true->ZG ρ (xs.map Zar)=xs.map Zar
 | [],_=>rfl
 | x::xs,h=>by
  simp only [XH,Xc] at h
  simp only [XB,ZG,Zld h.1,ZjE h.2]
theorem ZyD {ρ:Rho} {x:AVal} (h:Zak x=true):Ze ρ (Zah x)=Zah x:=by
 rcases ZhU x with ⟨cs,rfl⟩ | hn
 ·simp only [Zak] at h
  simp only [Zah,Ze];rw [ZjE h]
 ·rw [(Zd4 hn).1] at h
  rw [(Zd4 hn).2];exact Zld h
theorem ZgR {ρ:Rho}:∀ {xs:List AVal},xs.all Zak=true->ZG ρ (xs.map Zah)=xs.map Zah
 | [],_=>rfl
 | x::xs,h=>by
  simp only [XH,Xc] at h
  simp only [XB,ZG,ZyD h.1,ZgR h.2]
theorem ZoQ {O:Zq} {bf:Nat->Bool} {σ:Za} {sq f own:Nat} {view:Bool} {args:List AVal} (hb:bf f=false) (h:args.all Zak=true) :
  Zi O bf σ sq f own view args=Zal σ σ [] [] sq own (Zat view 0 (O f (args.map Zah) [])):=by
 unfold Zi Zbx
 rw [hb]
 simp only [Xg,if_false,Zjg h]
 have h1:Zj σ []=σ:=rfl
 rw [h1,Zg6 h]
 have h2:Zn σ 1000 [] []=[]:=rfl
 rw [h2]
 unfold Za5
 simp only [List.all_nil,if_true,ZgR h,Zm,XX]
theorem ZvP (σ:Za) (sq own:Nat) (r:AVal) (h:Ze (ZaC [] [] sq) r=r):Zal σ σ [] [] sq own (some (r,[]))=some (r,σ,{}):=by
 simp only [Zal,List.isEmpty_nil,Bool.and_self,if_true,Zb9,Bool.not_true,Bool.false_and,Xg,if_false]
 split
 ·rfl
 ·rw [h]
end
section
section
variable (ρ:Rho) (σ:Za)
theorem Zv7  : Zae (.top)=false:=rfl
theorem Zo4  : Zae (.any)=false:=rfl
theorem ZuR (k:IntKind) (n:Int):Zae (.int k n)=false:=rfl
theorem Zxz (b:Bool):Zae (.bool b)=false:=rfl
theorem ZsK (l:List UInt8):Zae (.str l)=false:=rfl
theorem ZrS  : Zae (.nilp)=false:=rfl
theorem Zug (t:Nat) (o:Nat):Zae (.ref t o)=false:=rfl
theorem ZnP (t:Nat) (g:Nat) (i:Nat) (o:Nat):Zae (.eref t g i o)=false:=rfl
theorem Zp8 (cs:List AVal) (o:Nat):Zae (.iptr cs o)=false:=rfl
theorem Zu3 (x:Bool) (xs:List AVal):Zae (.lst x xs)=false:=rfl
theorem Zpm (t:Nat) (g:Nat) (lo:Nat) (n:Nat):Zae (.sl t g lo n)=false:=rfl
theorem Zub (cs:List AVal):Zae (.agg cs)=false:=rfl
theorem ZxK (vs:List AVal):Zae (.tup vs)=false:=rfl
theorem Zs2 (f:Nat) (caps:List AVal):Zae (.fn f caps)=false:=rfl
theorem Zrs  : Zae (.nilm)=false:=rfl
theorem Zoe (t:Nat):Zae (.map t)=false:=rfl
theorem ZwQ  : Zae (.nili)=false:=rfl
theorem Zvv (t:Nat) (x:AVal):Zae (.iface t x)=false:=rfl
theorem ZmF (x:AVal):Zae (.pan x)=true:=rfl
theorem ZvJ  : Zu (.top)=false:=rfl
theorem Zun  : Zu (.any)=true:=rfl
theorem ZtC (k:IntKind) (n:Int):Zu (.int k n)=true:=rfl
theorem Zrv (b:Bool):Zu (.bool b)=true:=rfl
theorem Znk (l:List UInt8):Zu (.str l)=true:=rfl
theorem Zxh  : Zu (.nilp)=true:=rfl
theorem ZpI (t:Nat) (o:Nat):Zu (.ref t o)=true:=rfl
theorem Zyt (t:Nat) (g:Nat) (i:Nat) (o:Nat):Zu (.eref t g i o)=true:=rfl
theorem Zop (cs:List AVal) (o:Nat):Zu (.iptr cs o)=true:=rfl
theorem Ztp (x:Bool) (xs:List AVal):Zu (.lst x xs)=true:=rfl
theorem Zu8 (t:Nat) (g:Nat) (lo:Nat) (n:Nat):Zu (.sl t g lo n)=true:=rfl
theorem Znm (cs:List AVal):Zu (.agg cs)=false:=rfl
theorem ZqI (vs:List AVal):Zu (.tup vs)=false:=rfl
theorem ZnD (f:Nat) (caps:List AVal):Zu (.fn f caps)=true:=rfl
theorem ZrD  : Zu (.nilm)=true:=rfl
theorem ZqC (t:Nat):Zu (.map t)=true:=rfl
theorem ZrQ  : Zu (.nili)=true:=rfl
theorem Zu7 (t:Nat) (x:AVal):Zu (.iface t x)=true:=rfl
theorem ZmX (x:AVal):Zu (.pan x)=false:=rfl
theorem Zpq  : ZaL (.top)=false:=rfl
theorem Zx0  : ZaL (.any)=true:=rfl
theorem ZlG (k:IntKind) (n:Int):ZaL (.int k n)=true:=rfl
theorem ZuY (b:Bool):ZaL (.bool b)=true:=rfl
theorem ZqM (l:List UInt8):ZaL (.str l)=true:=rfl
theorem Zoy  : ZaL (.nilp)=true:=rfl
theorem ZlO (t:Nat) (o:Nat):ZaL (.ref t o)=true:=rfl
theorem Zmv (t:Nat) (g:Nat) (i:Nat) (o:Nat):ZaL (.eref t g i o)=true:=rfl
theorem ZnY (cs:List AVal) (o:Nat):ZaL (.iptr cs o)=true:=rfl
theorem Zu2 (x:Bool) (xs:List AVal):ZaL (.lst x xs)=true:=rfl
theorem Zxm (t:Nat) (g:Nat) (lo:Nat) (n:Nat):ZaL (.sl t g lo n)=true:=rfl
theorem Zxa (cs:List AVal):ZaL (.agg cs)=true:=rfl
theorem ZwV (vs:List AVal):ZaL (.tup vs)=true:=rfl
theorem ZsD (f:Nat) (caps:List AVal):ZaL (.fn f caps)=true:=rfl
theorem ZmL  : ZaL (.nilm)=true:=rfl
theorem ZnT (t:Nat):ZaL (.map t)=true:=rfl
theorem ZpE  : ZaL (.nili)=true:=rfl
theorem Zv8 (t:Nat) (x:AVal):ZaL (.iface t x)=true:=rfl
theorem ZxC (x:AVal):ZaL (.pan x)=true:=rfl
theorem ZoP  : Zap (.top)=false:=rfl
theorem ZpN  : Zap (.any)=false:=rfl
theorem ZxS (k:IntKind) (n:Int):Zap (.int k n)=true:=rfl
theorem ZmW (b:Bool):Zap (.bool b)=true:=rfl
theorem Zvb (l:List UInt8):Zap (.str l)=true:=rfl
theorem ZwC  : Zap (.nilp)=true:=rfl
theorem ZyC (t:Nat) (o:Nat):Zap (.ref t o)=false:=rfl
theorem Zl8 (t:Nat) (g:Nat) (i:Nat) (o:Nat):Zap (.eref t g i o)=false:=rfl
theorem Zqb (cs:List AVal) (o:Nat):Zap (.iptr cs o)=false:=rfl
theorem Zob (x:Bool) (xs:List AVal):Zap (.lst x xs)=false:=rfl
theorem Ztl (t:Nat) (g:Nat) (lo:Nat) (n:Nat):Zap (.sl t g lo n)=false:=rfl
theorem ZpS (cs:List AVal):Zap (.agg cs)=false:=rfl
theorem ZtO (vs:List AVal):Zap (.tup vs)=false:=rfl
theorem Zv9 (f:Nat) (caps:List AVal):Zap (.fn f caps)=false:=rfl
theorem Zxi  : Zap (.nilm)=true:=rfl
theorem Zq4 (t:Nat):Zap (.map t)=false:=rfl
theorem Zn0  : Zap (.nili)=true:=rfl
theorem ZsW (t:Nat) (x:AVal):Zap (.iface t x)=false:=rfl
theorem ZwB (x:AVal):Zap (.pan x)=false:=rfl
theorem ZtL  : ZaA (.top)=false:=rfl
theorem Zxo  : ZaA (.any)=false:=rfl
theorem Zx5 (k:IntKind) (n:Int):ZaA (.int k n)=true:=rfl
theorem ZwT (b:Bool):ZaA (.bool b)=true:=rfl
theorem ZlH (l:List UInt8):ZaA (.str l)=true:=rfl
theorem Zny  : ZaA (.nilp)=true:=rfl
theorem Znz (t:Nat) (o:Nat):ZaA (.ref t o)=false:=rfl
theorem Zua (t:Nat) (g:Nat) (i:Nat) (o:Nat):ZaA (.eref t g i o)=false:=rfl
theorem Zsv (cs:List AVal) (o:Nat):ZaA (.iptr cs o)=false:=rfl
theorem Zwg (x:Bool) (xs:List AVal):ZaA (.lst x xs)=false:=rfl
theorem ZtE (t:Nat) (g:Nat) (lo:Nat) (n:Nat):ZaA (.sl t g lo n)=false:=rfl
theorem ZyE (cs:List AVal):ZaA (.agg cs)=cs.all Zap:=rfl
theorem ZxM (vs:List AVal):ZaA (.tup vs)=false:=rfl
theorem Zt1 (f:Nat) (caps:List AVal):ZaA (.fn f caps)=false:=rfl
theorem Zl1  : ZaA (.nilm)=true:=rfl
theorem Zvk (t:Nat):ZaA (.map t)=false:=rfl
theorem Zmw  : ZaA (.nili)=true:=rfl
theorem ZtB (t:Nat) (x:AVal):ZaA (.iface t x)=false:=rfl
theorem Zut (x:AVal):ZaA (.pan x)=false:=rfl
theorem Zss  : ZaF (.top)=false:=rfl
theorem ZqK  : ZaF (.any)=false:=rfl
theorem Zr8 (k:IntKind) (n:Int):ZaF (.int k n)=true:=rfl
theorem ZlK (b:Bool):ZaF (.bool b)=true:=rfl
theorem Zw1 (l:List UInt8):ZaF (.str l)=true:=rfl
theorem Znj  : ZaF (.nilp)=true:=rfl
theorem Zyk (t:Nat) (o:Nat):ZaF (.ref t o)=false:=rfl
theorem Zr0 (t:Nat) (g:Nat) (i:Nat) (o:Nat):ZaF (.eref t g i o)=false:=rfl
theorem ZpM (cs:List AVal) (o:Nat):ZaF (.iptr cs o)=false:=rfl
theorem Zul (x:Bool) (xs:List AVal):ZaF (.lst x xs)=false:=rfl
theorem Zuc (t:Nat) (g:Nat) (lo:Nat) (n:Nat):ZaF (.sl t g lo n)=false:=rfl
theorem Zox (cs:List AVal):ZaF (.agg cs)=cs.all Zap:=rfl
theorem ZnU (vs:List AVal):ZaF (.tup vs)=vs.all ZaA:=rfl
theorem Zok (f:Nat) (caps:List AVal):ZaF (.fn f caps)=false:=rfl
theorem Zr2  : ZaF (.nilm)=true:=rfl
theorem ZxQ (t:Nat):ZaF (.map t)=false:=rfl
theorem Zvi  : ZaF (.nili)=true:=rfl
theorem ZuT (t:Nat) (x:AVal):ZaF (.iface t x)=false:=rfl
theorem ZqL  : Zan (.top)=false:=rfl
theorem Zpi  : Zan (.any)=false:=rfl
theorem Zyo (k:IntKind) (n:Int):Zan (.int k n)=true:=rfl
theorem Zwt (b:Bool):Zan (.bool b)=true:=rfl
theorem Zwd (l:List UInt8):Zan (.str l)=true:=rfl
theorem Zyb  : Zan (.nilp)=true:=rfl
theorem Zvt (t:Nat) (o:Nat):Zan (.ref t o)=false:=rfl
theorem Zq3 (t:Nat) (g:Nat) (i:Nat) (o:Nat):Zan (.eref t g i o)=false:=rfl
theorem ZrF (cs:List AVal) (o:Nat):Zan (.iptr cs o)=false:=rfl
theorem Znc (x:Bool) (xs:List AVal):Zan (.lst x xs)=true:=rfl
theorem Zt4 (t:Nat) (g:Nat) (lo:Nat) (n:Nat):Zan (.sl t g lo n)=false:=rfl
theorem ZtF (cs:List AVal):Zan (.agg cs)=false:=rfl
theorem ZsI (vs:List AVal):Zan (.tup vs)=false:=rfl
theorem Zqq  : Zan (.nilm)=true:=rfl
theorem Zu9 (t:Nat):Zan (.map t)=false:=rfl
theorem Zq7  : Zan (.nili)=true:=rfl
theorem ZsN (t:Nat) (x:AVal):Zan (.iface t x)=false:=rfl
theorem Znv (x:AVal):Zan (.pan x)=false:=rfl
theorem ZpP  : Zak (.top)=false:=rfl
theorem ZpF  : Zak (.any)=false:=rfl
theorem Zrl (k:IntKind) (n:Int):Zak (.int k n)=true:=rfl
theorem Zqn (b:Bool):Zak (.bool b)=true:=rfl
theorem Zqj (l:List UInt8):Zak (.str l)=true:=rfl
theorem Zs5  : Zak (.nilp)=true:=rfl
theorem ZpW (t:Nat) (o:Nat):Zak (.ref t o)=false:=rfl
theorem Ztt (t:Nat) (g:Nat) (i:Nat) (o:Nat):Zak (.eref t g i o)=false:=rfl
theorem Zph (cs:List AVal) (o:Nat):Zak (.iptr cs o)=false:=rfl
theorem Zrq (x:Bool) (xs:List AVal):Zak (.lst x xs)=true:=rfl
theorem Zq0 (t:Nat) (g:Nat) (lo:Nat) (n:Nat):Zak (.sl t g lo n)=false:=rfl
theorem Zsu (cs:List AVal):Zak (.agg cs)=cs.all Zan:=rfl
theorem ZoT (vs:List AVal):Zak (.tup vs)=false:=rfl
theorem Zqr  : Zak (.nilm)=true:=rfl
theorem Zts (t:Nat):Zak (.map t)=false:=rfl
theorem Zms  : Zak (.nili)=true:=rfl
theorem Zsc (t:Nat) (x:AVal):Zak (.iface t x)=false:=rfl
theorem ZuU (x:AVal):Zak (.pan x)=false:=rfl
theorem Zmo  : Zar (.top)=(.top):=rfl
theorem Zns  : Zar (.any)=(.any):=rfl
theorem Zof (k:IntKind) (n:Int):Zar (.int k n)=(.int k n):=rfl
theorem ZvL (b:Bool):Zar (.bool b)=(.bool b):=rfl
theorem Zpo (l:List UInt8):Zar (.str l)=(.str l):=rfl
theorem Zqo  : Zar (.nilp)=(.nilp):=rfl
theorem ZtY (t:Nat) (o:Nat):Zar (.ref t o)=(.ref t o):=rfl
theorem ZlW (t:Nat) (g:Nat) (i:Nat) (o:Nat):Zar (.eref t g i o)=(.eref t g i o):=rfl
theorem Zn7 (cs:List AVal) (o:Nat):Zar (.iptr cs o)=(.iptr cs o):=rfl
theorem ZtM (x:Bool) (xs:List AVal):Zar (.lst x xs)=.lst false xs:=rfl
theorem ZmA (t:Nat) (g:Nat) (lo:Nat) (n:Nat):Zar (.sl t g lo n)=(.sl t g lo n):=rfl
theorem Zwi (cs:List AVal):Zar (.agg cs)=(.agg cs):=rfl
theorem Zqd (vs:List AVal):Zar (.tup vs)=(.tup vs):=rfl
theorem ZuL (f:Nat) (caps:List AVal):Zar (.fn f caps)=(.fn f caps):=rfl
theorem ZpZ  : Zar (.nilm)=(.nilm):=rfl
theorem Zn5 (t:Nat):Zar (.map t)=(.map t):=rfl
theorem Zyi  : Zar (.nili)=(.nili):=rfl
theorem Zsx (t:Nat) (x:AVal):Zar (.iface t x)=(.iface t x):=rfl
theorem ZxD (x:AVal):Zar (.pan x)=(.pan x):=rfl
theorem ZxB  : Zah (.top)=(.top):=rfl
theorem Zp3  : Zah (.any)=(.any):=rfl
theorem Zsj (k:IntKind) (n:Int):Zah (.int k n)=(.int k n):=rfl
theorem Zw6 (b:Bool):Zah (.bool b)=(.bool b):=rfl
theorem ZqQ (l:List UInt8):Zah (.str l)=(.str l):=rfl
theorem ZmB  : Zah (.nilp)=(.nilp):=rfl
theorem Zty (t:Nat) (o:Nat):Zah (.ref t o)=(.ref t o):=rfl
theorem Zwj (t:Nat) (g:Nat) (i:Nat) (o:Nat):Zah (.eref t g i o)=(.eref t g i o):=rfl
theorem ZqB (cs:List AVal) (o:Nat):Zah (.iptr cs o)=(.iptr cs o):=rfl
theorem ZvE (x:Bool) (xs:List AVal):Zah (.lst x xs)=.lst false xs:=rfl
theorem ZlQ (t:Nat) (g:Nat) (lo:Nat) (n:Nat):Zah (.sl t g lo n)=(.sl t g lo n):=rfl
theorem ZxE (cs:List AVal):Zah (.agg cs)=.agg (cs.map Zar):=rfl
theorem ZwR (vs:List AVal):Zah (.tup vs)=(.tup vs):=rfl
theorem ZmU (f:Nat) (caps:List AVal):Zah (.fn f caps)=(.fn f caps):=rfl
theorem Zno  : Zah (.nilm)=(.nilm):=rfl
theorem ZoZ (t:Nat):Zah (.map t)=(.map t):=rfl
theorem Zws  : Zah (.nili)=(.nili):=rfl
theorem Zm7 (t:Nat) (x:AVal):Zah (.iface t x)=(.iface t x):=rfl
theorem ZoJ (x:AVal):Zah (.pan x)=(.pan x):=rfl
theorem Zmd  : AVal.cells (.top)=[(.top)]:=rfl
theorem Zrz  : AVal.cells (.any)=[(.any)]:=rfl
theorem ZqH (k:IntKind) (n:Int):AVal.cells (.int k n)=[(.int k n)]:=rfl
theorem ZlZ (b:Bool):AVal.cells (.bool b)=[(.bool b)]:=rfl
theorem Zv2 (l:List UInt8):AVal.cells (.str l)=[(.str l)]:=rfl
theorem ZlP  : AVal.cells (.nilp)=[(.nilp)]:=rfl
theorem Zxw (t:Nat) (o:Nat):AVal.cells (.ref t o)=[(.ref t o)]:=rfl
theorem Zqa (t:Nat) (g:Nat) (i:Nat) (o:Nat):AVal.cells (.eref t g i o)=[(.eref t g i o)]:=rfl
theorem Zu1 (cs:List AVal) (o:Nat):AVal.cells (.iptr cs o)=[(.iptr cs o)]:=rfl
theorem Zoz (x:Bool) (xs:List AVal):AVal.cells (.lst x xs)=[(.lst x xs)]:=rfl
theorem Zsk (t:Nat) (g:Nat) (lo:Nat) (n:Nat):AVal.cells (.sl t g lo n)=[(.sl t g lo n)]:=rfl
theorem Zs7 (cs:List AVal):AVal.cells (.agg cs)=cs:=rfl
theorem ZrB (vs:List AVal):AVal.cells (.tup vs)=[(.tup vs)]:=rfl
theorem ZqE (f:Nat) (caps:List AVal):AVal.cells (.fn f caps)=[(.fn f caps)]:=rfl
theorem ZlE  : AVal.cells (.nilm)=[(.nilm)]:=rfl
theorem ZlN (t:Nat):AVal.cells (.map t)=[(.map t)]:=rfl
theorem Zm6  : AVal.cells (.nili)=[(.nili)]:=rfl
theorem Zsl (t:Nat) (x:AVal):AVal.cells (.iface t x)=[(.iface t x)]:=rfl
theorem Zrw (x:AVal):AVal.cells (.pan x)=[(.pan x)]:=rfl
theorem ZpQ  : Zaj (.top)=(.top):=rfl
theorem ZoO  : Zaj (.any)=(.any):=rfl
theorem Zpp (k:IntKind) (n:Int):Zaj (.int k n)=(.int k n):=rfl
theorem Zuw (b:Bool):Zaj (.bool b)=(.bool b):=rfl
theorem Zyc (l:List UInt8):Zaj (.str l)=(.str l):=rfl
theorem Zp7  : Zaj (.nilp)=(.nilp):=rfl
theorem Zwe (t:Nat) (o:Nat):Zaj (.ref t o)=(.ref t o):=rfl
theorem Zrc (t:Nat) (g:Nat) (i:Nat) (o:Nat):Zaj (.eref t g i o)=(.eref t g i o):=rfl
theorem ZnI (cs:List AVal) (o:Nat):Zaj (.iptr cs o)=(.iptr cs o):=rfl
theorem ZnM (x:Bool) (xs:List AVal):Zaj (.lst x xs)=(.lst x xs):=rfl
theorem ZsC (t:Nat) (g:Nat) (lo:Nat) (n:Nat):Zaj (.sl t g lo n)=(.sl t g lo n):=rfl
theorem ZpB (cs:List AVal):Zaj (.agg cs)=(.agg cs):=rfl
theorem ZvD (vs:List AVal):Zaj (.tup vs)=(.tup vs):=rfl
theorem Zyu (f:Nat) (caps:List AVal):Zaj (.fn f caps)=(.fn f caps):=rfl
theorem ZoR  : Zaj (.nilm)=(.nilm):=rfl
theorem ZmJ (t:Nat):Zaj (.map t)=(.map t):=rfl
theorem Ztu  : Zaj (.nili)=(.nili):=rfl
theorem ZvC (t:Nat) (x:AVal):Zaj (.iface t x)=(.iface t x):=rfl
theorem Zon (x:AVal):Zaj (.pan x)=x:=rfl
theorem Zpz  : Zag (.top)=4:=rfl
theorem Zx3  : Zag (.any)=4:=rfl
theorem ZuC (k:IntKind) (n:Int):Zag (.int k n)=0:=rfl
theorem Zvd (b:Bool):Zag (.bool b)=1:=rfl
theorem ZlR (l:List UInt8):Zag (.str l)=2:=rfl
theorem Zmu  : Zag (.nilp)=4:=rfl
theorem ZsM (t:Nat) (o:Nat):Zag (.ref t o)=4:=rfl
theorem ZtI (t:Nat) (g:Nat) (i:Nat) (o:Nat):Zag (.eref t g i o)=4:=rfl
theorem Znu (cs:List AVal) (o:Nat):Zag (.iptr cs o)=4:=rfl
theorem ZpX (x:Bool) (xs:List AVal):Zag (.lst x xs)=4:=rfl
theorem ZoN (t:Nat) (g:Nat) (lo:Nat) (n:Nat):Zag (.sl t g lo n)=4:=rfl
theorem Zl2 (cs:List AVal):Zag (.agg cs)=4:=rfl
theorem ZxI (vs:List AVal):Zag (.tup vs)=4:=rfl
theorem Zpf (f:Nat) (caps:List AVal):Zag (.fn f caps)=4:=rfl
theorem ZpD  : Zag (.nilm)=4:=rfl
theorem ZnF (t:Nat):Zag (.map t)=4:=rfl
theorem Zm3  : Zag (.nili)=4:=rfl
theorem Zoc (t:Nat) (x:AVal):Zag (.iface t x)=4:=rfl
theorem ZsT (x:AVal):Zag (.pan x)=4:=rfl
theorem Zxq  : Zao (.top)=[]:=rfl
theorem Ztz  : Zao (.any)=[]:=rfl
theorem ZmY (k:IntKind) (n:Int):Zao (.int k n)=[]:=rfl
theorem ZvW (b:Bool):Zao (.bool b)=[]:=rfl
theorem Zot (l:List UInt8):Zao (.str l)=[]:=rfl
theorem ZtK  : Zao (.nilp)=[]:=rfl
theorem Zqy (t:Nat) (o:Nat):Zao (.ref t o)=[t]:=rfl
theorem Zmp (t:Nat) (g:Nat) (i:Nat) (o:Nat):Zao (.eref t g i o)=[t]:=rfl
theorem Zt8 (cs:List AVal) (o:Nat):Zao (.iptr cs o)=[]:=rfl
theorem Zpl (x:Bool) (xs:List AVal):Zao (.lst x xs)=[]:=rfl
theorem ZrC (t:Nat) (g:Nat) (lo:Nat) (n:Nat):Zao (.sl t g lo n)=[t]:=rfl
theorem Zyg (cs:List AVal):Zao (.agg cs)=ZM cs:=rfl
theorem ZnG (vs:List AVal):Zao (.tup vs)=ZM vs:=rfl
theorem ZwL (f:Nat) (caps:List AVal):Zao (.fn f caps)=ZM caps:=rfl
theorem Zur  : Zao (.nilm)=[]:=rfl
theorem Zoj (t:Nat):Zao (.map t)=[t]:=rfl
theorem Zo5  : Zao (.nili)=[]:=rfl
theorem Zsq (t:Nat) (x:AVal):Zao (.iface t x)=Zao x:=rfl
theorem ZmO (x:AVal):Zao (.pan x)=Zao x:=rfl
theorem Zl5  : Ze ρ (.top)=(.top):=rfl
theorem Zom  : Ze ρ (.any)=(.any):=rfl
theorem Zt2 (k:IntKind) (n:Int):Ze ρ (.int k n)=(.int k n):=rfl
theorem Zmt (b:Bool):Ze ρ (.bool b)=(.bool b):=rfl
theorem ZwY (l:List UInt8):Ze ρ (.str l)=(.str l):=rfl
theorem Zv3  : Ze ρ (.nilp)=(.nilp):=rfl
theorem Zvz (cs:List AVal) (o:Nat):Ze ρ (.iptr cs o)=(.iptr cs o):=rfl
theorem ZxZ (x:Bool) (xs:List AVal):Ze ρ (.lst x xs)=(.lst x xs):=rfl
theorem Zl0 (cs:List AVal):Ze ρ (.agg cs)=.agg (ZG ρ cs):=rfl
theorem Zn3 (vs:List AVal):Ze ρ (.tup vs)=.tup (ZG ρ vs):=rfl
theorem ZqG (f:Nat) (caps:List AVal):Ze ρ (.fn f caps)=.fn f (ZG ρ caps):=rfl
theorem Zxn  : Ze ρ (.nilm)=(.nilm):=rfl
theorem Zoa  : Ze ρ (.nili)=(.nili):=rfl
theorem Znt (t:Nat) (x:AVal):Ze ρ (.iface t x)=.iface t (Ze ρ x):=rfl
theorem Zo7 (x:AVal):Ze ρ (.pan x)=.pan (Ze ρ x):=rfl
theorem Zpa (f:Nat):Zan (.fn f [])=true:=rfl
theorem ZoL (f:Nat):Zak (.fn f [])=true:=rfl
theorem Zu0 (t:Nat) (x:AVal):ZaF (.pan (.iface t x))=Zap x:=rfl
theorem ZoM (live:List Nat) (tm:Tms):ZfU live (some (tm,σ,none))=some (.normal,keepL live tm,σ):=rfl
theorem Zta (live:List Nat) (tm:Tms) (x:AVal):ZfU live (some (tm,σ,some x))=some (.panic x,[],σ):=rfl
theorem Zvc (live:List Nat):ZfU live none=none:=rfl
theorem Zpu (t o:Nat):Ze ρ (.ref t o)=(match ρ t 0 with | some (t',0)=>.ref t' o | _=>.any):=rfl
theorem Zxk (t:Nat):Ze ρ (.map t)=(match ρ t 0 with | some (t',0)=>.map t' | _=>.any):=rfl
theorem Zrf (t g lo n:Nat):Ze ρ (.sl t g lo n)=(match ρ t g with | some (t',g')=>.sl t' g' lo n | none=>.any):=rfl
theorem ZtD (t g i o:Nat):Ze ρ (.eref t g i o)=(match ρ t g with | some (t',g')=>.eref t' g' i o | none=>.any):=rfl
theorem ZxT:ZM []=[]:=rfl
theorem Zsg (x:AVal) (xs:List AVal):ZM (x::xs)=Zao x++ZM xs:=rfl
theorem Zqg:ZG ρ []=[]:=rfl
theorem ZuE (x:AVal) (xs:List AVal):ZG ρ (x::xs)=Ze ρ x::ZG ρ xs:=rfl
end
end
section
mutual
def Zai:AVal->Bool
 | .ref _ _=>false
 | .eref _ _ _ _=>false
 | .sl _ _ _ _=>false
 | .map _=>false
 | .agg cs=>Zz cs
 | .tup vs=>Zz vs
 | .fn _ vs=>Zz vs
 | .iface _ x=>Zai x
 | .pan x=>Zai x
 | .top=>true
 | .any=>true
 | .int _ _=>true
 | .bool _=>true
 | .str _=>true
 | .nilp=>true
 | .nilm=>true
 | .nili=>true
 | .iptr _ _=>true
 | .lst _ _=>true
def Zz:List AVal->Bool
 | []=>true
 | x::xs=>Zai x && Zz xs
end
mutual
theorem Zfb (ρ:Rho):∀ (x:AVal),Zai x=true->Ze ρ x=x/\Zao x=[]
 | .ref _ _,h=>by simp [Zai] at h
 | .eref _ _ _ _,h=>by simp [Zai] at h
 | .sl _ _ _ _,h=>by simp [Zai] at h
 | .map _,h=>by simp [Zai] at h
 | .agg cs,h=>by have:=Zfl ρ cs (by simpa only [Zai] using h);exact ⟨by simp only [Ze,this.1],by simp only [Zao,this.2]⟩
 | .tup cs,h=>by have:=Zfl ρ cs (by simpa only [Zai] using h);exact ⟨by simp only [Ze,this.1],by simp only [Zao,this.2]⟩
 | .fn f cs,h=>by have:=Zfl ρ cs (by simpa only [Zai] using h);exact ⟨by simp only [Ze,this.1],by simp only [Zao,this.2]⟩
 | .iface t x,h=>by have:=Zfb ρ x (by simpa only [Zai] using h);exact ⟨by simp only [Ze,this.1],by simp only [Zao,this.2]⟩
 | .pan x,h=>by have:=Zfb ρ x (by simpa only [Zai] using h);exact ⟨by simp only [Ze,this.1],by simp only [Zao,this.2]⟩
 | .top,_=>⟨rfl,rfl⟩
 | .any,_=>⟨rfl,rfl⟩
 | .int _ _,_=>⟨rfl,rfl⟩
 | .bool _,_=>⟨rfl,rfl⟩
 | .str _,_=>⟨rfl,rfl⟩
 | .nilp,_=>⟨rfl,rfl⟩
 | .nilm,_=>⟨rfl,rfl⟩
 | .nili,_=>⟨rfl,rfl⟩
 | .iptr _ _,_=>⟨rfl,rfl⟩
 | .lst _ _,_=>⟨rfl,rfl⟩
theorem Zfl (ρ:Rho):∀ (xs:List AVal),Zz xs=true->ZG ρ xs=xs/\ZM xs=[]
 | [],_=>⟨rfl,rfl⟩
 | x::xs,h=>by
  simp only [Zz,Xc] at h
  have h1:=Zfb ρ x h.1
  have h2:=Zfl ρ xs h.2
  exact ⟨by simp only [ZG,h1.1,h2.1],by simp only [ZM,h1.2,h2.2,XK]⟩
end
theorem Zr6 {σ:Za} {r:AVal} (h:Zai r=true):Zas 0 σ r=some (r,[]):=by
 have h1:=Zfb (Zg σ 0 []) r h
 have hids:Zx 0 [r] σ=[]:=by
  unfold Zx
  simp only [ZM,h1.2,XK,List.range_zero,List.flatMap_nil]
  rfl
 unfold Zas gcA
 simp only [hids,ZG,Zm,h1.1]
def Za3:AVal->AVal
 | .tup vs=>.tup (vs.map Zah)
 | x=>Zah x
def Za4:AVal->Bool
 | .tup vs=>vs.all Zak
 | x=>Zak x
def ZaH:AVal->Bool
 | .fn _ _=>false
 | _=>true
def ZaO:AVal->Bool
 | .agg cs=>cs.all ZaH
 | x=>ZaH x
def Za2:AVal->Bool
 | .tup vs=>vs.all ZaO
 | x=>ZaO x
theorem Zmi {m:Nat} {fn:Zac} {tm:Tms} {σ:Za}:Zax m fn (some (.ret,tm,σ))=match resA tm σ fn.res with
  | some r=>Zas m σ r
  | none=>none:=rfl
theorem ZmZ {m:Nat} {fn:Zac} {tm:Tms} {σ:Za}:Zax m fn (some (.normal,tm,σ))=match resA tm σ fn.res with
  | some r=>Zas m σ r
  | none=>none:=rfl
theorem Zsz {m:Nat} {fn:Zac} {tm:Tms} {σ:Za} {x:AVal}:Zax m fn (some (.panic x,tm,σ))=Zas m σ (.pan x):=rfl
theorem Zni  : Zai (.top)=true:=rfl
theorem Zyr  : Zai (.any)=true:=rfl
theorem Zwk (k:IntKind) (n:Int):Zai (.int k n)=true:=rfl
theorem ZmR (b:Bool):Zai (.bool b)=true:=rfl
theorem Zw2 (l:List UInt8):Zai (.str l)=true:=rfl
theorem ZqW  : Zai (.nilp)=true:=rfl
theorem Zpw (t:Nat) (o:Nat):Zai (.ref t o)=false:=rfl
theorem Zyh (t:Nat) (g:Nat) (i:Nat) (o:Nat):Zai (.eref t g i o)=false:=rfl
theorem ZqV (cs:List AVal) (o:Nat):Zai (.iptr cs o)=true:=rfl
theorem Zod (x:Bool) (xs:List AVal):Zai (.lst x xs)=true:=rfl
theorem Zr7 (t:Nat) (g:Nat) (lo:Nat) (n:Nat):Zai (.sl t g lo n)=false:=rfl
theorem ZmT (cs:List AVal):Zai (.agg cs)=Zz cs:=rfl
theorem Zov (vs:List AVal):Zai (.tup vs)=Zz vs:=rfl
theorem ZmN (f:Nat) (caps:List AVal):Zai (.fn f caps)=Zz caps:=rfl
theorem Znw  : Zai (.nilm)=true:=rfl
theorem Zng (t:Nat):Zai (.map t)=false:=rfl
theorem ZpC  : Zai (.nili)=true:=rfl
theorem ZqF (t:Nat) (x:AVal):Zai (.iface t x)=Zai x:=rfl
theorem ZuI (x:AVal):Zai (.pan x)=Zai x:=rfl
theorem Zp6  : ZaH (.top)=true:=rfl
theorem Zow  : ZaH (.any)=true:=rfl
theorem Zsm (k:IntKind) (n:Int):ZaH (.int k n)=true:=rfl
theorem Zn2 (b:Bool):ZaH (.bool b)=true:=rfl
theorem ZlY (l:List UInt8):ZaH (.str l)=true:=rfl
theorem ZnK  : ZaH (.nilp)=true:=rfl
theorem Znx (t:Nat) (o:Nat):ZaH (.ref t o)=true:=rfl
theorem ZpV (t:Nat) (g:Nat) (i:Nat) (o:Nat):ZaH (.eref t g i o)=true:=rfl
theorem ZrT (cs:List AVal) (o:Nat):ZaH (.iptr cs o)=true:=rfl
theorem ZlT (x:Bool) (xs:List AVal):ZaH (.lst x xs)=true:=rfl
theorem Zsp (t:Nat) (g:Nat) (lo:Nat) (n:Nat):ZaH (.sl t g lo n)=true:=rfl
theorem ZwK (cs:List AVal):ZaH (.agg cs)=true:=rfl
theorem Zuu (vs:List AVal):ZaH (.tup vs)=true:=rfl
theorem ZpO (f:Nat) (caps:List AVal):ZaH (.fn f caps)=false:=rfl
theorem Zmc  : ZaH (.nilm)=true:=rfl
theorem Ztm (t:Nat):ZaH (.map t)=true:=rfl
theorem Zm4  : ZaH (.nili)=true:=rfl
theorem Zto (t:Nat) (x:AVal):ZaH (.iface t x)=true:=rfl
theorem Zqe (x:AVal):ZaH (.pan x)=true:=rfl
theorem Zu6  : ZaO (.top)=true:=rfl
theorem Zx9  : ZaO (.any)=true:=rfl
theorem ZnL (k:IntKind) (n:Int):ZaO (.int k n)=true:=rfl
theorem ZmC (b:Bool):ZaO (.bool b)=true:=rfl
theorem Zqs (l:List UInt8):ZaO (.str l)=true:=rfl
theorem Zr1  : ZaO (.nilp)=true:=rfl
theorem Zup (t:Nat) (o:Nat):ZaO (.ref t o)=true:=rfl
theorem Zru (t:Nat) (g:Nat) (i:Nat) (o:Nat):ZaO (.eref t g i o)=true:=rfl
theorem Zsn (cs:List AVal) (o:Nat):ZaO (.iptr cs o)=true:=rfl
theorem Zr9 (x:Bool) (xs:List AVal):ZaO (.lst x xs)=true:=rfl
theorem ZtH (t:Nat) (g:Nat) (lo:Nat) (n:Nat):ZaO (.sl t g lo n)=true:=rfl
theorem ZuH (cs:List AVal):ZaO (.agg cs)=cs.all ZaH:=rfl
theorem ZrN (vs:List AVal):ZaO (.tup vs)=true:=rfl
theorem Zr5 (f:Nat) (caps:List AVal):ZaO (.fn f caps)=false:=rfl
theorem ZmK  : ZaO (.nilm)=true:=rfl
theorem Zw9 (t:Nat):ZaO (.map t)=true:=rfl
theorem ZnO  : ZaO (.nili)=true:=rfl
theorem ZrI (t:Nat) (x:AVal):ZaO (.iface t x)=true:=rfl
theorem Zo8 (x:AVal):ZaO (.pan x)=true:=rfl
theorem ZmG  : Za2 (.top)=true:=rfl
theorem Znq  : Za2 (.any)=true:=rfl
theorem Zrb (k:IntKind) (n:Int):Za2 (.int k n)=true:=rfl
theorem Zm2 (b:Bool):Za2 (.bool b)=true:=rfl
theorem Zxy (l:List UInt8):Za2 (.str l)=true:=rfl
theorem Ztr  : Za2 (.nilp)=true:=rfl
theorem ZsJ (t:Nat) (o:Nat):Za2 (.ref t o)=true:=rfl
theorem Zxf (t:Nat) (g:Nat) (i:Nat) (o:Nat):Za2 (.eref t g i o)=true:=rfl
theorem Zne (cs:List AVal) (o:Nat):Za2 (.iptr cs o)=true:=rfl
theorem Zsi (x:Bool) (xs:List AVal):Za2 (.lst x xs)=true:=rfl
theorem Zwo (t:Nat) (g:Nat) (lo:Nat) (n:Nat):Za2 (.sl t g lo n)=true:=rfl
theorem Zoi (cs:List AVal):Za2 (.agg cs)=cs.all ZaH:=rfl
theorem Zuh (vs:List AVal):Za2 (.tup vs)=vs.all ZaO:=rfl
theorem ZpL (f:Nat) (caps:List AVal):Za2 (.fn f caps)=false:=rfl
theorem Zmh  : Za2 (.nilm)=true:=rfl
theorem ZxR (t:Nat):Za2 (.map t)=true:=rfl
theorem ZtG  : Za2 (.nili)=true:=rfl
theorem ZqJ (t:Nat) (x:AVal):Za2 (.iface t x)=true:=rfl
theorem Zqi (x:AVal):Za2 (.pan x)=true:=rfl
theorem ZwJ  : Za4 (.top)=false:=rfl
theorem ZrA  : Za4 (.any)=false:=rfl
theorem Zwf (k:IntKind) (n:Int):Za4 (.int k n)=true:=rfl
theorem Zx7 (b:Bool):Za4 (.bool b)=true:=rfl
theorem ZuP (l:List UInt8):Za4 (.str l)=true:=rfl
theorem Zti  : Za4 (.nilp)=true:=rfl
theorem Zo6 (t:Nat) (o:Nat):Za4 (.ref t o)=false:=rfl
theorem Ztn (t:Nat) (g:Nat) (i:Nat) (o:Nat):Za4 (.eref t g i o)=false:=rfl
theorem Zsa (cs:List AVal) (o:Nat):Za4 (.iptr cs o)=false:=rfl
theorem ZvN (x:Bool) (xs:List AVal):Za4 (.lst x xs)=true:=rfl
theorem Zq9 (t:Nat) (g:Nat) (lo:Nat) (n:Nat):Za4 (.sl t g lo n)=false:=rfl
theorem ZpH (cs:List AVal):Za4 (.agg cs)=cs.all Zan:=rfl
theorem Zww (vs:List AVal):Za4 (.tup vs)=vs.all Zak:=rfl
theorem ZuS  : Za4 (.nilm)=true:=rfl
theorem Znb (t:Nat):Za4 (.map t)=false:=rfl
theorem ZwD  : Za4 (.nili)=true:=rfl
theorem Znn (t:Nat) (x:AVal):Za4 (.iface t x)=false:=rfl
theorem Zl4 (x:AVal):Za4 (.pan x)=false:=rfl
theorem Zpt  : Za3 (.top)=(.top):=rfl
theorem ZmQ  : Za3 (.any)=(.any):=rfl
theorem ZvM (k:IntKind) (n:Int):Za3 (.int k n)=(.int k n):=rfl
theorem ZnH (b:Bool):Za3 (.bool b)=(.bool b):=rfl
theorem ZoA (l:List UInt8):Za3 (.str l)=(.str l):=rfl
theorem ZwH  : Za3 (.nilp)=(.nilp):=rfl
theorem ZwG (t:Nat) (o:Nat):Za3 (.ref t o)=(.ref t o):=rfl
theorem ZwM (t:Nat) (g:Nat) (i:Nat) (o:Nat):Za3 (.eref t g i o)=(.eref t g i o):=rfl
theorem ZlI (cs:List AVal) (o:Nat):Za3 (.iptr cs o)=(.iptr cs o):=rfl
theorem ZrM (x:Bool) (xs:List AVal):Za3 (.lst x xs)=.lst false xs:=rfl
theorem Zwp (t:Nat) (g:Nat) (lo:Nat) (n:Nat):Za3 (.sl t g lo n)=(.sl t g lo n):=rfl
theorem Zyw (cs:List AVal):Za3 (.agg cs)=.agg (cs.map Zar):=rfl
theorem ZrE (vs:List AVal):Za3 (.tup vs)=.tup (vs.map Zah):=rfl
theorem Zvw (f:Nat) (caps:List AVal):Za3 (.fn f caps)=(.fn f caps):=rfl
theorem ZvI  : Za3 (.nilm)=(.nilm):=rfl
theorem Zyp (t:Nat):Za3 (.map t)=(.map t):=rfl
theorem Zus  : Za3 (.nili)=(.nili):=rfl
theorem Zw5 (t:Nat) (x:AVal):Za3 (.iface t x)=(.iface t x):=rfl
theorem ZqS (x:AVal):Za3 (.pan x)=(.pan x):=rfl
theorem Zl3:Zz []=true:=rfl
theorem Zmj (x:AVal) (xs:List AVal):Zz (x::xs)=(Zai x && Zz xs):=rfl
theorem ZtZ (f:Nat):Za4 (.fn f [])=true:=rfl
theorem Zyj (p q:Bool):(if p=true then q else false)=(p && q):=by cases p <;> rfl
theorem Zmf (p q:Bool):(if p=true then true else q)=(p || q):=by cases p <;> rfl
theorem Znd (p q:Bool):(if p=true then false else q)=(!p && q):=by cases p <;> rfl
theorem Zuo (p q:Bool):(if p=true then q else true)=(!p || q):=by cases p <;> rfl
theorem Zw8 (p q:Bool):(if p=false then q else false)=(!p && q):=by cases p <;> rfl
theorem ZqZ (p q:Bool):(if p=false then true else q)=(!p || q):=by cases p <;> rfl
theorem ZrU (p q:Bool):(if p=false then false else q)=(p && q):=by cases p <;> rfl
theorem Zmq (p q:Bool):(if p=false then q else true)=(p || q):=by cases p <;> rfl
section
def Zcr (o:AOp):AOp:=⟨o.dst,o.ins,o.guard,[]⟩
def ZaW:Zl->Zl
 | .region ops chk live=>.region (ops.map Zcr) chk live
 | .seq a b=>.seq (ZaW a) (ZaW b)
 | .cond c a b=>.cond c (ZaW a) (ZaW b)
 | .block id c=>.block id (ZaW c)
 | .loop live c=>.loop live (ZaW c)
 | .skip=>.skip
 | .exit id=>.exit id
 | .ret=>.ret
 | .stuck=>.stuck
def Zfz (f:Zac):Zac:=⟨f.res,ZaW f.body⟩
section
variable {O:Zq} {bf:Nat->Bool}
theorem Zs4 (o:AOp) (s:Nat) (tm:Tms) (σ:Za):Zh O bf (Zcr o) s tm σ=Zh O bf o s tm σ:=rfl
theorem Zjd:∀ (ops:List AOp) (s:Nat) (tm:Tms) (σ:Za),Zp O bf (ops.map Zcr) s tm σ=Zp O bf ops s tm σ
 | [],_,_,_=>rfl
 | o::os,s,tm,σ=>by
  simp only [XB,Zp,Zs4]
  split
  ·rfl
  ·rfl
  ·rename_i tm' σ' c _ _
   rw [show (Zcr o).ins=o.ins from rfl,Zjd os]
theorem Ziu (ops:List AOp):sitesOf (ops.map Zcr)=sitesOf ops:=by
 simp [sitesOf,Zcr,Function.comp_def]
theorem ZfG (ops:List AOp) (i:Nat):((ops.map Zcr).getD i default).ins=(ops.getD i default).ins:=by
 simp only [Xd,X3]
 cases ops[i]? <;> rfl
theorem ZmM (ops:List AOp) (b:Nat) (l:List (Nat×Nat)) (cs:List Cls):ZbH (ops.map Zcr) b l cs=ZbH ops b l cs:=by
 unfold ZbH
 congr 1
 funext p
 unfold Zbg Za0
 rw [ZfG,ZfG,<-XaD,Ziu]
theorem Zqt (ops:List AOp) (b:Nat) (l:List (Nat×Nat)) (cs:List Cls):Zbn (ops.map Zcr) b l cs=Zbn ops b l cs:=by
 unfold Zbn
 congr 2
 funext p
 unfold Zbg Za0
 rw [ZfG,ZfG,<-XaD,Ziu]
theorem Zth (ops:List AOp) (chk:Option (List (Nat×Nat))) (live:List Nat) (tm:Tms) (σ:Za):ZaT O bf (ops.map Zcr) chk live tm σ=ZaT O bf ops chk live tm σ:=by
 unfold ZaT
 rw [Zjd,Ziu]
 cases Zp O bf ops σ.length tm (σ++XC (sitesOf ops) .free) with
 | none=>rfl
 | some q =>
  obtain ⟨tm',σ',cs,p⟩:=q
  cases p with
  | some x =>
   cases chk with
   | none=>rfl
   | some l=>simp only [Zbt,Zqt]
  | none =>
   cases chk with
   | none=>rfl
   | some l=>simp only [Zbt,ZmM]
theorem Zci (m n:Nat):∀ (c:Zl),Zr O bf m n (ZaW c)=Zr O bf m n c
 | .region ops chk live=>by funext tm σ;simp only [ZaW,Zr,Zth]
 | .seq a b=>by funext tm σ;simp only [ZaW,Zr,Zci m n a,Zci m n b]
 | .cond c a b=>by funext tm σ;simp only [ZaW,Zr,Zci m n a,Zci m n b]
 | .block id c=>by funext tm σ;simp only [ZaW,Zr,Zci m n c]
 | .loop live c=>by funext tm σ;simp only [ZaW,Zr,Zci m n c]
 | .skip=>rfl
 | .exit id=>rfl
 | .ret=>rfl
 | .stuck=>rfl
end
theorem ZhP (fs:Nat->Option Zac) (prim:ZaK) (bf:Nat->Bool):∀ n,ZB (fun f=>(fs f).map Zfz) prim bf n=ZB fs prim bf n
 | 0=>rfl
 | n+1=>by
  funext f args σ
  simp only [ZB,ZhP fs prim bf n]
  cases prim f with
  | some g=>rfl
  | none =>
   cases fs f with
   | none=>rfl
   | some fn =>
    simp only [XM,Zfz,Zci]
    rfl
theorem Zo2 (fs:Nat->Option Zac) (prim:ZaK) (bf:Nat->Bool):EV (fun f=>(fs f).map Zfz) prim bf=EV fs prim bf:=by
 funext f args σ
 apply ZcQ
 intro r
 rw [Zbd,Zbd]
 simp only [ZhP]
end
end
section
open Go.RowKit
def Zis:List AVal->Za->Option (AVal×Za):=fun _ _=>none
theorem Zvg {α:Prop} {args:List AVal} {σ:Za} {r:AVal×Za} (h:Zis args σ=some r):α:=by cases h
def Zfh (k bytes:Nat) (args:List AVal) (σ:Za):Option (AVal×Za):=match args with
 | [.str _]=>none
 | [a]=>match Zk σ a with
  | some (xs,_)=>if xs.length*bytes<=140737488355328/\kOk k xs=true then some (.sl σ.length 0 0 xs.length,σ++[.row 0 k xs]) else none
  | none=>none
 | _=>none
def Zcj:Ann:={ nt:=8,lr:=fun _=>[7,6,5,4,3,2,0] }
structure ZjB (P:Program) (t:TypeId) (k bytes:Nat) (z:AVal) (f:FuncId):Prop where
 ex:∃ (F:Func) (e:TypeId) (i0 i1 i2 i3:Nat) (r0 r2 r3:Array Oper) (m b:Oper),
  P.funcs[f]?=some F/\F.results=#[.tmp 2]/\F.ntmps=8/\(F.name == "runtime.NumGoroutine")=false/\P.underlying t=some (.slice e) /\
  F.body=some (.seq (.region i0 r0 false) (.seq (.seq (.region i1 #[m,b] false) (.cond (.tmp 4) (.seq (.region i2 r2 false) .ret) .skip)) (.seq (.region i3 r3 false) .ret))) /\
  m.op=.move (.tmp 0)/\m.dst=some 3/\m.guard=none/\b.op=.binOp .eql t (.tmp 3) (.const (.slice none 0 0)) t/\b.dst=some 4/\b.guard=none /\
  Za6 P Zcj r0 r0.toList=some [⟨some 2,.mov (.c (.lst true [])),none,[]⟩] /\
  Za6 P Zcj r2 r2.toList=some [⟨some 2,.mov (.c (.lst true [])),none,[]⟩] /\
  (∃ a1 a2 a3 a4,Za6 P Zcj r3 r3.toList=some [⟨some 5,.bslice false k 0 z [],none,a1⟩,⟨some 6,.mov (.t 0),none,a2⟩,⟨some 7,.app k bytes z (.t 5) (.t 6),none,a3⟩,⟨some 2,.mov (.t 7),none,a4⟩])/\z.cells.length=k/\0 < k
section
variable {P:Program} {base:Nat->Prop} {w0 w w':World} {I0 I:Imm} {β:Bmap} {σ:Za}
theorem noO:ZY P (fun _ _ _=>none):=by intro f args σ r σ' h;cases h
theorem ZdU {ops:Array Oper} {Q:Exit->Act->World->Prop} {o:Oper} {l:List Oper} {a:Act} {w:World} (hg:o.guard=none) (h:o.wp P a w (wpList P ops Q l) Q):wpList P ops Q (o::l) a w:=by
 unfold wpList
 have : Region.wanted o (yielded ops a.tmps)=true:=by unfold Region.wanted;rw [hg]
 rw [this]
 simp only [if_true]
 exact Xo h
theorem ZoG {t : TypeId} {k bytes : Nat} {z : AVal} {f : FuncId} (hm : P.follows .mixedOrders = true) (C : ZjB P t k bytes z f) {args : List AVal} {σ σ' : Za} {r : AVal} (h : Zfh k bytes args σ = some (r, σ')) :
    (∃ fn, P.funcs[f]? = some fn /\ fn.body.isSome = true /\ (fn.name == "runtime.NumGoroutine") = false) /\
    ∀ base w0 I0 I β w (vs : Array Value), KLt base w0 -> Rel base w0 I0 I β σ w -> VRs I β args vs.toList ->
      Calls P f vs w (fun e w' => ∃ u, Ends r e u /\ ZaN σ.length base w0 I0 I β r σ' u w') := by
  obtain ⟨F, e, i0, i1, i2, i3, r0, r2, r3, m, b, hF, hres, hnt, hname, hu, hbody, hm1, hm2, hm3, hb1, hb2, hb3, hc0, hc2, ⟨a1, a2, a3, a4, hc3⟩, hzk, hk0⟩ := C.ex
  refine ⟨⟨F, hF, by rw [hbody]; rfl, hname⟩, ?_⟩
  intro base w0 I0 I β w vs hb R hargs
  unfold Zfh at h
  split at h
  case h_1 => cases h
  case h_3 => cases h
  rename_i a hns
  split at h
  case h_2 => cases h
  rename_i xs ts hel0
  split at h
  case isFalse => cases h
  rename_i hc
  obtain ⟨hbytes, hkOk⟩ := hc
  simp only [Xa, Xb] at h
  obtain ⟨rfl, rfl⟩ := h
  have hnt8 : ∀ (n : Nat), n < 8 -> n < Zcj.nt := fun n h => h
  refine calls_of_wp hF hbody ?_
  have hsz : vs.size = 1 := by have := Zaa hargs; simpa using this.symm
  have T := Zhi hargs (F.ntmps - vs.size)
  have hst : StR Zaz 8 base w0 I0 I β (enterA 0 [a] []) σ { tmps := vs ++ W5 (F.ntmps - vs.size) undef, defers := [] } w := ⟨I, β, Imm.le.refl I, Bmap.le.refl β, T, ⟨ZcH.2 rfl, by simp; omega⟩, R⟩
  have fin : ∀ {tm : Tms} {σ1 : Za} {y : AVal} {a' : Act} {w1 : World}, StR Zaz 8 base w0 I0 I β tm σ1 a' w1 -> tget tm 2 = y -> (∀ I' β' u, I.le I' -> β.le β' -> Rel base w0 I0 I' β' σ1 w1 -> VR I' β' y u -> ZaN σ.length base w0 I0 I β (.sl σ.length 0 0 xs.length) (σ ++ [.row 0 k xs]) u w1) ->
      a'.defers = [] /\ ∃ v, (results F a'.tmps).run P w1 = .ok v w1 /\ ∃ u, Ends (.sl σ.length 0 0 xs.length) (.returned v) u /\ ZaN σ.length base w0 I0 I β (.sl σ.length 0 0 xs.length) (σ ++ [.row 0 k xs]) u w1 := by
    rintro tm σ1 y a' w1 ⟨I', β', h1, h2, h3, h4, h5⟩ hy hpost
    refine ⟨ZcH.1 h4.1, a'.tmps.getD 2 undef, by simp [results, hres], _, rfl, ?_⟩
    have := h3 2
    rw [hy] at this
    exact hpost I' β' _ h1 h2 h5 this
  have R0 : Z7 P Zcj (.region i0 r0 false) = .region [⟨some 2, .mov (.c (.lst true [])), none, []⟩] none [7, 6, 5, 4, 3, 2, 0] := by simp only [Z7]; rw [hc0]; rfl
  have R2 : Z7 P Zcj (.region i2 r2 false) = .region [⟨some 2, .mov (.c (.lst true [])), none, []⟩] none [7, 6, 5, 4, 3, 2, 0] := by simp only [Z7]; rw [hc2]; rfl
  have R3 : Z7 P Zcj (.region i3 r3 false) = .region [⟨some 5, .bslice false k 0 z [], none, a1⟩, ⟨some 6, .mov (.t 0), none, a2⟩, ⟨some 7, .app k bytes z (.t 5) (.t 6), none, a3⟩, ⟨some 2, .mov (.t 7), none, a4⟩] none [7, 6, 5, 4, 3, 2, 0] := by simp only [Z7]; rw [hc3]; rfl
  refine wp_seq ?_
  refine ZfE (an := Zcj) (dr := Zaz) (bf := fun _ => false) noO (fun n hn => by simp [Zaz] at hn) hm hb R0 hst (e := .normal) (tm' := keepL [7, 6, 5, 4, 3, 2, 0] [(2, .lst true []), (0, a)]) (σ' := σ) ?_ ?_
  . simp [ZaT, Zbt, sitesOf, nsite, Zp, Zh, Zay, execI, Opd.ev, tput, tins, enterA]
  intro a1' w1 hst1
  simp only [Exit.then]
  refine wp_seq (wp_seq ?_)
  refine wp_region_list ?_
  refine ZdU hm3 ?_
  obtain ⟨I1, β1, g1, g2, g3, g4, g5⟩ := hst1
  have hs8 : 8 <= a1'.tmps.size := g4.2
  have hT0 : VR I1 β1 a (a1'.tmps.getD 0 undef) := by have := g3 0; simpa [keepL, tget] using this
  obtain ⟨A, cap, hv0, q1, q2, q5, q4⟩ := Zhp g5 (fun l e => hns l e) hel0 hT0
  show m.wp P a1' w1 _ _
  unfold Oper.wp
  have e1 : (execOp a1'.eval m).run P w1 = .ok (.value (.slice A xs.length cap)) w1 := by
    unfold execOp; rw [hm1]; simp [Act.eval, hv0]
  rw [e1, Oper.upon_value, hm2]
  refine ZdU hb3 ?_
  unfold Oper.wp
  have hs3 : (a1'.put (some 3) (.slice A xs.length cap)).tmps.getD 3 undef = .slice A xs.length cap := by
    have : 3 < a1'.tmps.size := by omega
    simp [Act.put, W7, this]
  have e2 : (execOp (a1'.put (some 3) (.slice A xs.length cap)).eval b).run P w1 = .ok (.value (.bool A.isNone)) w1 := by
    have hq : (Op.equal t (.slice A xs.length cap) (.slice none 0 0)).run P w1 = .ok A.isNone w1 := run_equal_slice_nil w1 t e A xs.length cap hu
    unfold execOp; rw [hb1]
    simp only [Act.eval]
    rw [hs3]
    simp [eqGuard, binOp, hq]
  rw [e2, Oper.upon_value, hb2]
  refine wpList_nil ?_
  have hst2 : StR Zaz 8 base w0 I0 I β [(4, .bool A.isNone), (2, .lst true []), (0, a)] σ ((a1'.put (some 3) (.slice A xs.length cap)).put (some 4) (.bool A.isNone)) w1 := by
    refine ⟨I1, β1, g1, g2, fun n => ?_, ⟨ZfJ (ZfJ g4.1 (fun n _ hm => by simp [Zaz] at hm)) (fun n _ hm => by simp [Zaz] at hm), by rw [ZbW, ZbW]; exact g4.2⟩, g5⟩
    have hs : 4 < (a1'.put (some 3) (.slice A xs.length cap)).tmps.size := by rw [ZbW]; omega
    have ne : ∀ {a : Act} {d j : Nat} {u : Value}, d ≠ j -> (a.put (some d) u).tmps.getD j undef = a.tmps.getD j undef := by
      intro a d j u hne
      simp only [Act.put, Wj]; rw [X9 hne]
    simp only [tget]
    split
    . rename_i e; subst e
      rw [show ((a1'.put (some 3) (.slice A xs.length cap)).put (some 4) (.bool A.isNone)).tmps.getD 4 undef = .bool A.isNone by
        simp only [Act.put] at hs ⊢
        simp [W7] at hs ⊢
        omega]
      simp only [VR]
    . split
      . rename_i e; subst e
        rw [ne (by omega), ne (by omega)]
        have := g3 2; simpa [keepL, tget] using this
      . split
        . rename_i e; subst e
          rw [ne (by omega), ne (by omega)]
          have := g3 0; simpa [keepL, tget] using this
        . simp only [VR]
  simp only [Exit.then]
  cases hA : A.isNone with
  | true =>
    have hx0 : xs = [] := by
      rcases q4 with h | ⟨b, off, k', us, e, _⟩
      . exact h
      . rw [e] at hA; cases hA
    subst hx0
    have hev : ((a1'.put (some 3) (.slice A 0 cap)).put (some 4) (.bool A.isNone)).eval (.tmp 4) = .bool true := by
      obtain ⟨_, _, _, _, T, _, _⟩ := hst2
      have := T 4
      simp only [tget, if_true, VR] at this
      rw [hA] at this
      simpa [Act.eval, hA] using this
    refine wp_cond_true (by simpa [hA] using hev) ?_
    refine wp_seq ?_
    rw [hA] at hst2
    refine ZfE (an := Zcj) (dr := Zaz) (bf := fun _ => false) noO (fun n hn => by simp [Zaz] at hn) hm hb R2 hst2 (e := .normal) (tm' := keepL [7, 6, 5, 4, 3, 2, 0] [(4, .bool true), (2, .lst true []), (0, a)]) (σ' := σ) ?_ ?_
    . simp [ZaT, Zbt, sitesOf, nsite, Zp, Zh, Zay, execI, Opd.ev, tput, tins]
    intro a3' w3 hst3
    simp only [Exit.then]
    refine wp_ret ?_
    refine fin hst3 (y := .lst true []) (by simp [keepL, tget]) ?_
    intro I' β' u h1 h2 h3 h4
    simp only [VR] at h4
    obtain ⟨A', cap', rfl, _, _, hx, _⟩ := h4
    have hcap : cap' = 0 := by simpa using hx
    subst hcap
    have R4 := h3.reserve 1
    have hfree : (σ ++ XC 1 Zf.free)[σ.length]? = some .free := by simp
    obtain ⟨R5, hle⟩ := R4.newNone hfree k hk0
    refine ⟨I', _, h1, KeptE.of_le (h2.trans hle), ?_, ?_⟩
    . have : (σ ++ XC 1 Zf.free).set σ.length (.row 0 k []) = σ ++ [.row 0 k []] := by simp
      rw [this] at R5; exact R5
    . simp only [Zaj]
      rw [Zbe]
      exact ⟨_, Bmap.put_same β' σ.length 0 _, by simp, by simp, Xw ⟨rfl, rfl, A', rfl⟩⟩
  | false =>
    have hev : ((a1'.put (some 3) (.slice A xs.length cap)).put (some 4) (.bool A.isNone)).eval (.tmp 4) = .bool false := by
      obtain ⟨_, _, _, _, T, _, _⟩ := hst2
      have := T 4
      simp only [tget, if_true, VR] at this
      rw [hA] at this
      simpa [Act.eval, hA] using this
    refine wp_cond_false (by simpa [hA] using hev) ?_
    refine wp_skip ?_
    rw [hA] at hst2
    simp only [Exit.then]
    refine wp_seq ?_
    have hel : Zk (σ ++ [Zf.free]) a = some (xs, ts) := ZdA hel0 (fun t ht => by
      obtain ⟨g, k, ys, h | h⟩ := ZgF hel0 t ht <;> (rw [Wp (Xe.1 h).1]))
    refine ZfE (an := Zcj) (dr := Zaz) (bf := fun _ => false) noO (fun n hn => by simp [Zaz] at hn) hm hb R3 hst2 (e := .normal) (tm' := keepL [7, 6, 5, 4, 3, 2, 0] [(7, .sl σ.length 0 0 xs.length), (6, a), (5, .lst true []), (4, .bool false), (2, .sl σ.length 0 0 xs.length), (0, a)]) (σ' := σ ++ [.row 0 k xs]) ?_ ?_
    . have hfa : freeAt (σ ++ [Zf.free]) σ.length = true := by simp [freeAt]
      have hnp : (∃ x ys, a = .lst x ys) \/ ∃ t g lo n, a = .sl t g lo n := by
        cases a with
        | lst x ys => exact Xo ⟨x, ys, rfl⟩
        | sl t g lo n => exact Xw ⟨t, g, lo, n, rfl⟩
        | str l => exact absurd rfl (hns l)
        | _ => simp [Zk] at hel0
      rcases hnp with ⟨x, ys, rfl⟩ | ⟨t', g', lo, n, rfl⟩
      . simp [ZaT, Zbt, sitesOf, nsite, Zp, Zh, Zay, execI, Opd.ev, tput, tins, tget, viewAs, Zj, hzk, Z9, hel, hkOk, hbytes, hfa]
      . simp [ZaT, Zbt, sitesOf, nsite, Zp, Zh, Zay, execI, Opd.ev, tput, tins, tget, viewAs, Zj, hzk, Z9, hel, hkOk, hbytes, hfa]
    intro a3' w3 hst3
    simp only [Exit.then]
    refine wp_ret ?_
    refine fin hst3 (y := .sl σ.length 0 0 xs.length) (by simp [keepL, tget]) ?_
    intro I' β' u h1 h2 h3 h4
    exact ⟨I', β', h1, KeptE.of_le h2, h3, h4⟩
end
end
section
open Go.RowKit
structure ZyI (P:Program) (f h:FuncId) (ti tc:TypeId) (an1 an2 an3:Ann) (c1 c2 c3:Zl) (rs:List Zbr):Prop where
 ex:∃ (F H:Func) (b1 b2 b3 b4:Code) (i0 j0 j1 j2 j3 bid:Nat) (t1 t2 t3 t4 t5 t6 t7 t8:TypeId) (p1 p2 p3 p4 p5 p6 p7 p8:String) (a1 a2 a3 a4 a5 a6 a7 a8:Array Edge) (at1 at2:Array TypeId) (ims:Array (String×TypeId)) (k:IntKind),
  P.funcs[f]?=some F/\(F.name == "runtime.NumGoroutine")=false/\F.ntmps=20/\ZcF P F.results.toList=some rs /\
  F.body=some (.seq b1 (.seq (.region i0 #[⟨some 5,.makeFunc (.func h) #[] #[.tmp 2,.tmp 3],t1,p1,a1,none⟩,⟨none,.defer ⟨.value (.tmp 5),#[],at1⟩,t2,p2,a2,none⟩] false) b2)) /\
  ZaW (Z7 P an1 b1)=c1/\ZaW (Z7 P an2 b2)=c2/\an1.nt=20/\an2.nt=20/\an2.keep=[2,3] /\
  P.funcs[h]?=some H/\(H.name == "runtime.NumGoroutine")=false/\H.ntmps=13/\H.results=#[] /\
  H.body=some (.seq (.region j0 #[⟨some 5,.call ⟨.builtin .recover,#[],at2⟩,t3,p3,a3,none⟩] false) (.block bid (.seq (.region j1 #[⟨some 7,.binOp .eql ti (.tmp 5) (.const .nilIface) ti,t4,p4,a4,none⟩] false)
   (.cond (.tmp 7) (.region j2 #[⟨some 2,.assign (.tmp 5),t5,p5,a5,none⟩] false)
    (.seq (.region j3 #[⟨some 8,.typeAssert (.tmp 5) ti tc true,t6,p6,a6,none⟩,⟨some 9,.extract (.tmp 8) 1,t7,p7,a7,none⟩,⟨some 10,.extract (.tmp 8) 0,t8,p8,a8,none⟩] false)
     (.cond (.tmp 9) b3 b4)))))) /\
  ZaW (Z7 P an3 b3)=c3/\an3.nt=13/\P.underlying ti=some (.interface ims)/\P.underlying tc=some (.int k)
section
variable {P:Program} {O:Zq} {bf:Nat->Bool} {base:Nat->Prop} {w0 w:World} {I0 I:Imm} {β:Bmap} {σ:Za}
theorem pgs {a:Act} {d:Nat} {u:Value} (h:d < a.tmps.size):(a.put (some d) u).tmps.getD d undef=u:=by
 simp [Act.put,W7,h]
theorem Zgg {m:Sem Value} {u:Value} (h:m.run P w=.ok u w):(do let q <-m;pure (Next.value q):Sem Next).run P w=.ok (.value u) w:=by
 rw [Sem.run_bind,h];rfl
theorem pgn {a:Act} {d j:Nat} {u:Value} (h:d≠j):(a.put (some d) u).tmps.getD j undef=a.tmps.getD j undef:=by
 simp only [Act.put,Wj]
 rw [X9 h]
end
section
variable {P:Program} {fs:Nat->Option Zac} {prim:ZaK} {bf:Nat->Bool}
end
section
variable {fs:Nat->Option Zac} {p p':ZaK} {bf:Nat->Bool}
theorem Zkf (h0:∀ f,p f=none->p' f=none) (h1:∀ f g,p f=some g->p' f=some g\/∀ a σ,g a σ=none):∀ n,OLe (ZB fs p bf n) (ZB fs p' bf n)
 | 0=>by intro f a σ r h;simp only [ZB] at h;cases h
 | n+1=>by
  intro f a σ r h
  rw [ZB] at h ⊢
  split at h
  ·rename_i g hg
   rcases h1 f g hg with h2 | h2
   ·rw [h2];exact h
   ·rw [h2] at h;cases h
  ·rename_i hg
   rw [h0 f hg]
   split at h
   ·cases h
   ·rename_i fn hfn
    exact Ze7 (fun q hq=>ZbR (Zkf h0 h1 n) (XO n) hq) h
theorem ZsL (h0:∀ f,p f=none->p' f=none) (h1:∀ f g,p f=some g->p' f=some g\/∀ a σ,g a σ=none):OLe (EV fs p bf) (EV fs p' bf):=by
 intro f a σ r h
 obtain ⟨n,hn⟩:=Zbd.1 h
 exact Zbd.2 ⟨n,Zkf h0 h1 n f a σ r hn⟩
end
end
section
open Go.RowKit
theorem Zjc:∀ (js L:List Nat),js.Nodup->(∀ j ∈ js,j ∈ L)->L.Nodup->∃ rest,L.Perm (js++rest)
 | [],L,_,_,_=>⟨L,List.Perm.refl _⟩
 | j::js,L,hn,hs,hL=>by
  have hj:j ∈ L:=hs j (by simp)
  have hp:L.Perm (j::L.erase j):=List.perm_cons_erase hj
  obtain ⟨rest,hr⟩:=Zjc js (L.erase j) (Xaw.1 hn).2 (fun k hk=>by
   have hne:k≠j:=by rintro rfl;exact (Xaw.1 hn).1 hk
   exact (List.mem_erase_of_ne hne).2 (hs k (by simp [hk]))) (hL.erase j)
  exact ⟨rest,hp.trans (by simpa using List.Perm.cons j hr)⟩
theorem ZxF {α:Type} (es:List α) (d:α):(Wn es.length).map (es.getD · d)=es:=by
 apply List.ext_getElem?
 intro i
 rw [X3]
 by_cases h:i < es.length
 ·rw [List.getElem?_range h];simp [Xd,h]
 ·rw [XT (by simpa using h),XT (by omega)];rfl
def ZbX (bf:Nat->Bool) (asl:List AOp) (tm:Tms) (σ:Za):Option (Tms×Za):=match Zp (fun _ _ _=>none) bf asl σ.length tm σ with
 | some (tm',σ',_,none)=>some (tm',σ')
 | _=>none
def Zcf (m:Nat):AVal->Bool
 | .int _ _ | .bool _ | .str _ | .nilp | .nilm | .nili | .lst _ _=>true
 | .sl t g _ _=>decide (g=0) && decide (t < m)
 | .ref t _=>decide (t < m)
 | .map t=>decide (t < m)
 | _=>false
def Zeq (m:Nat):AVal->Bool
 | .agg cs=>cs.all (Zcf m)
 | x=>Zcf m x
@[simp] def Zca:Za->Za->Bool
 | _,[]=>true
 | [],b::r=>!ZbB b && Zca [] r
 | a::s,b::r=>(!ZbB b || ZbB a) && Zca s r
theorem Zid:∀ {σ σ':Za} {u:Nat} {b:Zf},Zca σ σ'=true->σ'[u]?=some b->ZbB b=true->∃ a,σ[u]?=some a/\ZbB a=true
 | _,[],u,b,_,h,_=>by simp at h
 | [],x::r,u,b,h,hu,hb=>by
  simp only [Zca,Xc,Wo] at h
  cases u with
  | zero =>
   simp only [XI,Xa] at hu
   subst hu
   rw [h.1] at hb;cases hb
  | succ u =>
   obtain ⟨a,h1,_⟩:=Zid h.2 (by simpa using hu) hb
   simp at h1
 | a::s,x::r,u,b,h,hu,hb=>by
  simp only [Zca,Xc,Wt,Wo] at h
  cases u with
  | zero =>
   simp only [XI,Xa] at hu
   subst hu
   rcases h.1 with h1 | h1
   ·rw [h1] at hb;cases hb
   ·exact ⟨a,rfl,h1⟩
  | succ u =>
   obtain ⟨a',h1,h2⟩:=Zid h.2 (by simpa using hu) hb
   exact ⟨a',by simpa using h1,h2⟩
section
variable (fs:Nat->Option Zac) (prim:ZaK) (bf:Nat->Bool) (m:Nat) (live:List Nat) (ms en b1:Nat) (aslE:List AOp) (c2 c3:Zl) (rs:List Zbr)
open Classical in
noncomputable def ZcC (es : List (AVal × AVal)) (kv : AVal × AVal) (tm : Tms) (σ : Za) : Option (Tms × Za) :=
  match tget (gcT m (keepL live tm) σ).1 ms with
  | .map t => if (gcT m (keepL live tm) σ).2[t]? = some (.map es) /\ (∀ p ∈ es, Zeq (gcT m (keepL live tm) σ).2.length p.2 = true) then
      match ZbX bf aslE (tput (gcT m (keepL live tm) σ).1 (some en) (.tup [kv.1, kv.2])) ((gcT m (keepL live tm) σ).2.set t (.rmap es)) with
      | some (tm1, σ1) => match evC fs prim bf (gcT m (keepL live tm) σ).2.length c2 tm1 σ1 with
        | some (.normal, tm2, σ2) => if σ2[t]? = some (.rmap es) /\ Zca ((gcT m (keepL live tm) σ).2.set t (.rmap es)) σ2 = true then some (tput tm2 (some ms) (.map t), σ2.set t (.map es)) else none
        | some (.exit i, tm2, σ2) => if i = b1 /\ σ2[t]? = some (.rmap es) /\ Zca ((gcT m (keepL live tm) σ).2.set t (.rmap es)) σ2 = true then some (tput tm2 (some ms) (.map t), σ2.set t (.map es)) else none
        | _ => none
      | none => none
    else none
  | _ => none
noncomputable def Za9 (es:List (AVal×AVal)):List (AVal×AVal)->Tms->Za->Option (Tms×Za)
 | [],tm,σ=>some (tm,σ)
 | kv::r,tm,σ=>match ZcC fs prim bf m live ms en b1 aslE c2 es kv tm σ with
  | some (tm',σ')=>Za9 es r tm' σ'
  | none=>none
noncomputable def Zco (tm:Tms) (σ:Za):Option (AVal×Za) :=
 Zax m ⟨rs,c3⟩ (evC fs prim bf m c3 (gcT m (keepL live tm) σ).1 (gcT m (keepL live tm) σ).2)
noncomputable def ZcE (es es':List (AVal×AVal)) (tm:Tms) (σ:Za):Option (AVal×Za) :=
 match Za9 fs prim bf m live ms en b1 aslE c2 es es' tm σ with
 | some (tm',σ')=>Zco fs prim bf m live c3 rs tm' σ'
 | none=>none
open Classical in
noncomputable def ZdF (es:List (AVal×AVal)) (tm:Tms) (σ:Za):Option (AVal×Za) :=
 if h:∃ out,∀ es':List (AVal×AVal),es'.Perm es->ZcE fs prim bf m live ms en b1 aslE c2 c3 rs es es' tm σ=some out then some h.choose else none
end
noncomputable def Zea (fs:Nat->Option Zac) (prim:ZaK) (bf:Nat->Bool) (live:List Nat) (ms en b1:Nat) (asl1 aslE:List AOp) (c1 c2 c3:Zl) (rs:List Zbr) (args:List AVal) (σ:Za):Option (AVal×Za) :=
 match evC fs prim bf σ.length c1 (enterA 0 args []) σ with
 | some (.normal,tm1,σ1)=>match ZbX bf asl1 tm1 σ1 with
  | some (tm2,σ2)=>match tget tm2 ms with
   | .map t=>match σ2[t]? with
    | some (.map es)=>ZdF fs prim bf σ.length live ms en b1 aslE c2 c3 rs es tm2 σ2
    | _=>none
   | _=>none
  | none=>none
 | _=>none
def Zdm:List Code->Code->Code
 | [],x=>x
 | c::l,x=>.seq c (Zdm l x)
def Zep:Nat->Code->Option (List Code×Code)
 | 0,c=>some ([],c)
 | n+1,.seq a b=>match Zep n b with
  | some (l,x)=>some (a::l,x)
  | none=>none
 | _,_=>none
theorem Zjm:∀ {n:Nat} {c x:Code} {l:List Code},Zep n c=some (l,x)->c=Zdm l x
 | 0,c,x,l,h=>by simp only [Zep,Xa,Xb] at h;obtain ⟨rfl,rfl⟩:=h;rfl
 | n+1,c,x,l,h=>by
  cases c with
  | seq a b =>
   simp only [Zep] at h
   split at h
   ·rename_i l' x' h'
    simp only [Xa,Xb] at h
    obtain ⟨rfl,rfl⟩:=h
    rw [Zjm h',Zdm]
   ·cases h
  | _=>simp [Zep] at h
structure ZiP (P:Program) (f:FuncId) (an1 an3:Ann) (nt n0 n1 ms it nx ok en bid b1:Nat) (live:List Nat) (asl1 aslE:List AOp) (c1 c2 c3:Zl) (rs:List Zbr):Prop where
 ex:∃ (F:Func) (B:Code) (pre:List Code) (ops1 ops3 ops4:Array Oper) (i2 i3 i4:Nat) (body rest:Code) (t kt et:TypeId) (rg nxo exo eno:Oper) (lE:List Oper),
  P.funcs[f]?=some F/\(F.name == "runtime.NumGoroutine")=false/\F.ntmps=nt/\ZcF P F.results.toList=some rs/\F.body=some B /\
  Zep n0 B=some (pre,.seq (.seq (.region i2 ops1 false) (.block bid (.loop (.seq (.region i3 ops3 false) (.seq (.cond (.tmp ok) .skip (.exit bid)) (.block b1 (.seq (.region i4 ops4 false) body))))))) rest) /\
  ops1.toList.drop n1=[rg]/\ops3.toList=[nxo,exo]/\ops4.toList=eno::lE /\
  rg.op=.range t (.tmp ms)/\rg.dst=some it/\rg.guard=none/\P.underlying t=some (.map kt et) /\
  nxo.op=.next (.tmp it) false/\nxo.dst=some nx/\nxo.guard=none/\exo.op=.extract (.tmp nx) 0/\exo.dst=some ok/\exo.guard=none /\
  eno.op=.entry (.tmp it)/\eno.dst=some en/\eno.guard=none /\
  ZaW (Z7 P an1 (Zdm pre .skip))=c1/\Za6 P an1 ops1 (ops1.toList.take n1)=some asl1/\Za6 P an3 ops4 lE=some aslE/\ZaW (Z7 P an3 body)=c2/\ZaW (Z7 P an1 rest)=c3 /\
  an1.nt=nt/\an3.nt=nt/\an3.keep=[it,ms] /\
  (decide (it < nt) && decide (nx < nt) && decide (ok < nt) && decide (en < nt) && decide (it≠ms) && decide (nx≠ms) && decide (ok≠ms) && decide (en≠ms) && decide (nx≠it) && decide (ok≠it) && decide (en≠it) && decide (nx≠ok) && live.all fun n=>decide (n≠it) && decide (n≠nx) && decide (n≠ok) && decide (n≠en))=true
section
variable {P:Program} {O:Zq} {bf:Nat->Bool} {an:Ann} {base:Nat->Prop} {w0 w w':World} {I0 I I':Imm} {β β':Bmap} {σ σ':Za} {dr:Door}
theorem ZiB (hO:ZY P O) (hkp:∀ n ∈ dr.K,n ∈ an.keep) (hb:KLt base w0) {ops:Array Oper} {Q:Exit->Act->World->Prop} {r:List Oper}:∀ {l:List Oper} {asl:List AOp} {sq:Nat} {I:Imm} {β:Bmap} {tm tm':Tms} {σ σ':Za} {cs:List Cls} {a:Act} {w:World},Za6 P an ops l=some asl->TR I β tm a.tmps->(dr.ok a/\an.nt<=a.tmps.size)->Rel base w0 I0 I β σ w ->
  Zp O bf asl sq tm σ=some (tm',σ',cs,none)->(∀ a' w',StR dr an.nt base w0 I0 I β tm' σ' a' w'->wpList P ops Q r a' w')->wpList P ops Q (l++r) a w
 | [],asl,sq,I,β,tm,tm',σ,σ',cs,a,w,hc,T,hd,R,h,hQ=>by
  simp only [Za6,Xa] at hc;subst hc
  simp only [Zp,Xa,Xb] at h
  obtain ⟨rfl,rfl,rfl,_⟩:=h
  exact hQ _ _ ⟨I,β,Imm.le.refl I,Bmap.le.refl β,T,hd,R⟩
 | o::l,asl,sq,I,β,tm,tm',σ,σ',cs,a,w,hc,T,hd,R,h,hQ=>by
  simp only [Za6] at hc
  split at hc
  ·rename_i ao hao
   split at hc
   ·rename_i as' has'
    injection hc with hc;subst hc
    simp only [Zp] at h
    split at h
    ·cases h
    ·simp only [Xa,Xb] at h
     obtain ⟨_,_,_,h⟩:=h
     cases h
    ·rename_i v tm1 σ1 c1 hnp h1
     split at h
     ·cases h
     rename_i tm2 σ2 cs2 p2 h2
     simp only [Xa,Xb] at h
     obtain ⟨rfl,rfl,rfl,rfl⟩:=h
     have:=Zei (dr:=dr) (K:=wpList P ops Q (l++r)) (Q:=Q) hO hkp hao T hd R hb h1 (fun _ a' w' hs=>by
      obtain ⟨I',β',g1,g2,g3,g4,g5⟩:=hs
      exact ZiB hO hkp hb has' g3 g4 g5 h2 (fun a'' w'' hs'=>hQ a'' w'' (hs'.trans g1 g2))) (fun x e=>absurd e (fun e=>hnp x e))
     rw [Wk]
     unfold wpList
     exact this
   ·cases hc
  ·cases hc
theorem ZkS {asl:List AOp} {tm tm':Tms} (h:ZbX bf asl tm σ=some (tm',σ')):∃ cs,Zp (fun _ _ _=>none) bf asl σ.length tm σ=some (tm',σ',cs,none):=by
 unfold ZbX at h
 split at h
 ·rename_i tm1 σ1 cs h1
  simp only [Xa,Xb] at h
  obtain ⟨rfl,rfl⟩:=h
  exact ⟨cs,h1⟩
 ·cases h
theorem ZjH {Q:Exit->Act->World->Prop} (hO:ZY P O) (hm:P.follows .mixedOrders=true) (hb:KLt base w0) (m n:Nat) (X:Code):∀ (pre:List Code) {I:Imm} {β:Bmap} {tm tm':Tms} {σ σ':Za} {a:Act} {w:World},StF Zaz m an.nt base w0 I0 I β tm σ a w->Zr O bf m n (Z7 P an (Zdm pre .skip)) tm σ=some (.normal,tm',σ') ->
  (∀ a' w',StF Zaz m an.nt base w0 I0 I β tm' σ' a' w'->X.wp P Q a' w')->(Zdm pre X).wp P Q a w
 | [],I,β,tm,tm',σ,σ',a,w,hst,h,hQ=>by
  simp only [Zdm,Z7,Zr,Xa,Xb] at h
  obtain ⟨_,rfl,rfl⟩:=h
  exact hQ a w hst
 | c::l,I,β,tm,tm',σ,σ',a,w,hst,h,hQ=>by
  simp only [Zdm,Z7,Zr] at h
  split at h
  ·rename_i tm1 σ1 h1
   refine wp_seq ?_
   refine Zgr (dr:=Zaz) (an:=an) hO (fun n hn=>by simp [Zaz] at hn) hm hb m n rfl hst h1 ?_
   intro a' w' hs
   exact ZjH hO hm hb m n X l hs h hQ
  ·rename_i hne
   exact absurd h (hne _ _)
theorem Zwn {m:Nat} {x:AVal} {v:Value} (hx:Zcf m x=true) (hk:KeptE m β β') (h:VR I β x v):VR I' β' x v\/(∃ a xs,x=.lst a xs):=by
 cases x with
 | int | bool | str | nilp | nilm | nili=>exact Xo h
 | lst a xs=>exact Xw ⟨a,xs,rfl⟩
 | sl t g lo n =>
  simp only [Zcf,Xc,decide_eq_true_eq] at hx
  obtain ⟨rfl,ht⟩:=hx
  simp only [VR] at h ⊢
  obtain ⟨bi,e,h⟩:=h
  exact Xo ⟨bi,hk t ht bi e,h⟩
 | ref t o =>
  simp only [Zcf,decide_eq_true_eq] at hx
  simp only [VR] at h ⊢
  obtain ⟨b,k,c,e,h⟩:=h
  exact Xo ⟨b,k,c,hk t hx _ e,h⟩
 | map t =>
  simp only [Zcf,decide_eq_true_eq] at hx
  simp only [VR] at h ⊢
  obtain ⟨b,k,c,e,h⟩:=h
  exact Xo ⟨b,k,c,hk t hx _ e,h⟩
 | _=>simp [Zcf] at hx
theorem Zqh {a:Bool} {xs:List AVal} {v:Value} (hI:I.le I') (h:VR I β (.lst a xs) v):VR I' β' (.lst a xs) v:=by
 have ht:Zad (.lst a xs)=true:=by
  simp only [VR] at h
  obtain ⟨A,cap,_,_,_,_,_,ht⟩:=h
  simpa [Zad] using ht
 exact (VR.of_tree (β':=β') ht h).mono hI (Bmap.le.refl _) _ _
theorem ZkX {m:Nat} {x:AVal} {v:Value} (hx:Zcf m x=true) (hI:I.le I') (hk:KeptE m β β') (h:VR I β x v):VR I' β' x v:=by
 rcases Zwn (I':=I') hx hk h with h | ⟨a,xs,rfl⟩
 ·exact h
 ·exact Zqh hI h
theorem Zi1 {m:Nat} (hI:I.le I') (hk:KeptE m β β'):∀ {cs:List AVal} {vs:List Value},cs.all (Zcf m)=true->VRs I β cs vs->VRs I' β' cs vs
 | [],vs,_,h=>h
 | x::cs,vs,hx,h=>by
  rw [XH,Xc] at hx
  simp only [VRs] at h ⊢
  obtain ⟨v,vs',rfl,h1,h2⟩:=h
  exact ⟨v,vs',rfl,ZkX hx.1 hI hk h1,Zi1 hI hk hx.2 h2⟩
theorem ZtU {m:Nat} {x:AVal} {v:Value} (hx:Zeq m x=true) (hI:I.le I') (hk:KeptE m β β') (h:VR I β x v):VR I' β' x v:=by
 cases x with
 | agg cs =>
  simp only [VR] at h ⊢
  obtain ⟨us,rfl,h⟩:=h
  exact ⟨us,rfl,Zi1 hI hk hx h⟩
 | _=>exact ZkX hx hI hk h
theorem ZiT {m:Nat} (hI:I.le I') (hk:KeptE m β β'):∀ {cs:List AVal} {vs:List Value},(∀ x ∈ cs,Zeq m x=true)->VRs I β cs vs->VRs I' β' cs vs
 | [],vs,_,h=>h
 | x::cs,vs,hx,h=>by
  simp only [VRs] at h ⊢
  obtain ⟨v,vs',rfl,h1,h2⟩:=h
  exact ⟨v,vs',rfl,ZtU (hx x (by simp)) hI hk h1,ZiT hI hk (fun y hy=>hx y (by simp [hy])) h2⟩
theorem ZjJ:∀ {cs:List AVal} {vs:List Value},(∀ x ∈ cs,Zcz x=true)->VRs I β cs vs->VRs I' β' cs vs
 | [],vs,_,h=>h
 | x::cs,vs,hx,h=>by
  simp only [VRs] at h ⊢
  obtain ⟨v,vs',rfl,h1,h2⟩:=h
  refine ⟨v,vs',rfl,?_,ZjJ (fun y hy=>hx y (by simp [hy])) h2⟩
  have:=hx x (by simp)
  cases x <;> simp [Zcz] at this <;> exact h1
end
end
section
open Go.RowKit
open Go.ChangeMaps (setBlock)
section
variable {P:Program} {base base':Nat->Prop} {w0 w w' w1 w2:World} {I0 I I' I1 I2:Imm} {β β' β1 β2:Bmap} {σ σ' σ1 σ2:Za}
theorem Rel.rebase (R:Rel base w0 I0 I β σ w) {r:Nat} (hr:∀ t x,σ[t]?=some x->¬Zc w β t x r):Rel (fun k=>base k\/k=r) w I I β σ w where
 below:=KB.refl _ _
 old:=fun _ _ _=>rfl
 imm:=R.imm
 blk:=R.blk
 own:=fun t x b hx hb=>⟨fun h=>by
  rcases h with h | rfl
  ·exact (R.own t x b hx hb).1 h
  ·exact hr t x hx hb,(R.own t x b hx hb).2⟩
 apart:=R.apart
 fresh:=R.fresh
 free:=R.free
 gen:=R.gen
 glob:=R.glob
 ro:=fun t x b h hs=>Xo (R.ro t x b h hs)
theorem Rel.unbase (R1:Rel base w0 I0 I1 β1 σ1 w1) (R2:Rel base' w1 I1 I2 β2 σ2 w2) (hs:∀ k,base k->base' k) (hro:∀ t x b,σ2[t]?=some x->ZaS β2 t x b->base b):Rel base w0 I0 I2 β2 σ2 w2 where
 below:=R1.below.trans (R2.below.mono hs)
 old:=fun b o h=>(R2.old b o (hs b h)).trans (R1.old b o h)
 imm:=R2.imm
 blk:=R2.blk
 own:=fun t x b hx hb=>⟨fun h=>(R2.own t x b hx hb).1 (hs b h),(R2.own t x b hx hb).2⟩
 apart:=R2.apart
 fresh:=R2.fresh
 free:=R2.free
 gen:=R2.gen
 glob:=R2.glob
 ro:=hro
theorem Rel.hide (R:Rel base w0 I0 I β σ w) {t b r:Nat} {es:List (AVal×AVal)} (ht:σ[t]?=some (.map es)) (hb:Zc w β t (.map es) b) (hr:∀ t x,σ[t]?=some x->¬Zc w β t x r):Rel (fun k=>base k\/k=b\/k=r) w I I β (σ.set t (.rmap es)) w where
 below:=KB.refl _ _
 old:=fun _ _ _=>rfl
 imm:=R.imm
 blk:=fun u x hx=>by
  rw [Xj] at hx
  split at hx
  ·rename_i e;subst e
   split at hx
   ·injection hx with hx;subst hx
    have hB:=R.blk t (.map es) ht
    exact hB
   ·cases hx
  ·exact R.blk u x hx
 own:=fun u x b' hx ho=>by
  rw [Xj] at hx
  split at hx
  ·split at hx
   ·injection hx with hx;subst hx;cases ho
   ·cases hx
  ·rename_i hne
   have:=R.own u x b' hx ho
   refine ⟨fun h=>?_,this.2⟩
   rcases h with h | rfl | rfl
   ·exact this.1 h
   ·exact hne (R.apart u x t _ _ hx ht ho hb).symm
   ·exact hr u x hx ho
 apart:=fun u x u' x' b' hx hx' ho ho'=>by
  rw [Xj] at hx hx'
  split at hx
  ·split at hx
   ·injection hx with hx;subst hx;cases ho
   ·cases hx
  ·split at hx'
   ·split at hx'
    ·injection hx' with hx';subst hx';cases ho'
    ·cases hx'
   ·exact R.apart u x u' x' b' hx hx' ho ho'
 fresh:=fun u g hu=>R.fresh u g (by simpa using hu)
 free:=fun u g hu=>by
  rw [Xj] at hu
  split at hu
  ·split at hu
   ·injection hu with hu;cases hu
   ·cases hu
  ·exact R.free u g hu
 gen:=fun u x g hx hg=>by
  rw [Xj] at hx
  split at hx
  ·rename_i e;subst e
   split at hx
   ·injection hx with hx;subst hx
    exact R.gen t _ g ht (by simpa [Zb] using hg)
   ·cases hx
  ·exact R.gen u x g hx hg
 glob:=R.glob
 ro:=fun u x b' hx hs=>by
  rw [Xj] at hx
  split at hx
  ·rename_i e;subst e
   split at hx
   ·injection hx with hx;subst hx
    exact Xw (Xo (WW (hb.symm.trans hs)).symm)
   ·cases hx
  ·exact Xo (R.ro u x b' hx hs)
theorem Rel.unhide (R1:Rel base w0 I0 I1 β1 σ1 w1) {t b r:Nat} (R2:Rel (fun k=>base k\/k=b\/k=r) w1 I1 I2 β2 σ2 w2) {es:List (AVal×AVal)} (ht:σ2[t]?=some (.rmap es)) (hb:Zc w β2 t (.map es) b) (hB:BR I2 β2 w2 t (.map es)) (hbase:¬base b) (hI:∀ o,I2 b o=none) (hro:∀ u x b,u≠t->σ2[u]?=some x->ZaS β2 u x b->base b):Rel base w0 I0 I2 β2 (σ2.set t (.map es)) w2 where
 below:=R1.below.trans (R2.below.mono fun _ h=>Xo h)
 old:=fun k o h=>(R2.old k o (Xo h)).trans (R1.old k o h)
 imm:=R2.imm
 blk:=fun u x hx=>by
  rw [Xj] at hx
  split at hx
  ·rename_i e;subst e
   split at hx
   ·injection hx with hx;subst hx;exact hB
   ·cases hx
  ·exact R2.blk u x hx
 own:=fun u x b' hx ho=>by
  rw [Xj] at hx
  split at hx
  ·rename_i e;subst e
   split at hx
   ·injection hx with hx;subst hx
    obtain rfl:b=b':=WW (hb.symm.trans ho)
    exact ⟨hbase,hI⟩
   ·cases hx
  ·have:=R2.own u x b' hx ho
   exact ⟨fun h=>this.1 (Xo h),this.2⟩
 apart:=fun u x u' x' b' hx hx' ho ho'=>by
  rw [Xj] at hx hx'
  split at hx
  ·rename_i e;subst e
   split at hx
   ·injection hx with hx;subst hx
    obtain rfl:b=b':=WW (hb.symm.trans ho)
    split at hx'
    ·assumption
    ·exact absurd (Xw (Xo rfl)) (R2.own u' x' _ hx' ho').1
   ·cases hx
  ·split at hx'
   ·rename_i e;subst e
    split at hx'
    ·injection hx' with hx';subst hx'
     obtain rfl:b=b':=WW (hb.symm.trans ho')
     exact absurd (Xw (Xo rfl)) (R2.own u x _ hx ho).1
    ·cases hx'
   ·exact R2.apart u x u' x' b' hx hx' ho ho'
 fresh:=fun u g hu=>R2.fresh u g (by simpa using hu)
 free:=fun u g hu=>by
  rw [Xj] at hu
  split at hu
  ·split at hu
   ·injection hu with hu;cases hu
   ·cases hu
  ·exact R2.free u g hu
 gen:=fun u x g hx hg=>by
  rw [Xj] at hx
  split at hx
  ·rename_i e;subst e
   split at hx
   ·injection hx with hx;subst hx
    exact R2.gen t _ g ht (by simpa [Zb] using hg)
   ·cases hx
  ·exact R2.gen u x g hx hg
 glob:=R2.glob
 ro:=fun u x b' hx hs=>by
  rw [Xj] at hx
  split at hx
  ·split at hx
   ·injection hx with hx;subst hx;cases hs
   ·cases hx
  ·rename_i hne
   exact hro u x b' (WQ hne) hx hs
theorem Rel.turn (R:Rel base w0 I0 I β σ w) {r:Nat} (hr:∀ t x,σ[t]?=some x->¬Zc w β t x r) (hb:¬base r) (hI:∀ o,I r o=none) (hos:w'.os=w.os) (ht:w'.tape=w.tape) (ho:w'.output=w.output) (hs:w.heap.size<=w'.heap.size) (hk:∀ k,k≠r->k < w.heap.size->w'.heap[k]?=w.heap[k]?) (hbl:KLt base w):Rel base w0 I0 I β σ w':=by
 refine R.stay (Imm.le.refl I) ⟨hos,ht,ho,hs,fun k h=>hk k (by rintro rfl;exact hb h) (hbl k h)⟩ (fun _ _ _=>rfl) ?_ ?_
 ·intro b o u hu
  have h1:=R.imm b o u hu
  have hne:b≠r:=by rintro rfl;rw [hI] at hu;cases hu
  have hlt:=Zb5 h1
  rw [<-h1]
  simp only [World.cell?,hk b hne hlt]
 ·intro t x b hx hb'
  have hne:b≠r:=by rintro rfl;exact hr t x hx hb'
  exact ⟨hk b hne ((R.blk t x hx).owns_lt hb'),(R.own t x b hx hb').2⟩
theorem ZrL (m:Nat) (tm:Tms) (σ:Za):m<=(gcT m tm σ).2.length:=by
 show m<=(Zm σ m _ _ _ 0).length
 rw [Zf1]
 obtain ⟨_,r,hr⟩:=Zex (σ:=σ) 1000 (ZM (tm.map (·.2))++(Wn m).flatMap fun t=>ZF (σ.getD t .free)) (Wn m) Xaq
 show m<=(Zx m (tm.map (·.2)) σ).length
 unfold Zx
 rw [hr]
 simp
end
section
variable {fs:Nat->Option Zac} {prim:ZaK} {bf:Nat->Bool} {m:Nat} {live:List Nat} {ms en b1:Nat} {aslE:List AOp} {c2 c3:Zl} {rs:List Zbr}
theorem Zfe {es:List (AVal×AVal)}:∀ (a b:List (AVal×AVal)) (tm:Tms) (σ:Za),Za9 fs prim bf m live ms en b1 aslE c2 es (a++b) tm σ=match Za9 fs prim bf m live ms en b1 aslE c2 es a tm σ with
  | some (tm',σ')=>Za9 fs prim bf m live ms en b1 aslE c2 es b tm' σ'
  | none=>none
 | [],b,tm,σ=>rfl
 | x::a,b,tm,σ=>by
  simp only [Wk,Za9]
  split
  ·exact Zfe a b _ _
  ·rfl
end
theorem Zfd {I:Imm} {β:Bmap} {tm:Tms} {a:Act} {d:Nat} {u:Value} (T:TR I β tm a.tmps) (hd:tget tm d=.top):TR I β tm (a.put (some d) u).tmps:=by
 intro n
 by_cases e:d=n
 ·subst e;rw [hd];simp only [VR]
 ·rw [pgn e];exact T n
theorem Zwm {m:Nat} {live:List Nat} {tm:Tms} {σ:Za} {d:Nat} (hd:d ∉ live):tget (gcT m (keepL live tm) σ).1 d=.top:=by
 have key:∀ (l:List Nat) (xs:List AVal),d ∉ l->tget (l.zip xs) d=.top:=by
  intro l
  induction l with
  | nil=>intro xs _;rfl
  | cons x l ih =>
   intro xs h
   cases xs with
   | nil=>rfl
   | cons y ys =>
    simp only [List.zip_cons_cons,tget]
    rw [if_neg (by rintro rfl;exact h (by simp))]
    exact ih ys (fun hm=>h (by simp [hm]))
 have e:(keepL live tm).map (·.1)=live:=by simp [keepL,List.map_map,Function.comp_def]
 show tget (((keepL live tm).map (·.1)).zip _) d=.top
 rw [e]
 exact key live _ hd
end
section
open Go.RowKit
open Go.ChangeMaps (setBlock)
theorem ZwE {arr:Array MapEntry} {seen:Array Nat} {e:MapEntry} (h:e ∈ (leftOf arr seen).toList):e ∈ arr.toList/\seen.contains e.born=false:=by
 unfold leftOf at h
 simp only [Array.toList_filter,Wf,Wo] at h
 exact h
theorem Zm5 {arr:Array MapEntry} {seen:Array Nat} (h:(leftOf arr seen).size=0):∀ e ∈ arr.toList,seen.contains e.born=true:=by
 intro e he
 cases hc:seen.contains e.born with
 | true=>rfl
 | false =>
  have hm:e ∈ (leftOf arr seen).toList:=by
   unfold leftOf
   simp only [Array.toList_filter,Wf,Wo]
   exact ⟨he,hc⟩
  have : (leftOf arr seen).toList=[]:=by
   apply XQ
   simpa using h
  rw [this] at hm;cases hm
section
variable {P:Program} {base:Nat->Prop} {w0:World} {I0:Imm}
variable {fs:Nat->Option Zac} {prim:ZaK} {bf:Nat->Bool} {m:Nat} {live:List Nat} {ms it nx ok en bid b1 nt:Nat} {aslE:List AOp} {c2 c3:Zl} {rs:List Zbr}
def Zbf (it ms:Nat) (r b:Nat):Door:=⟨[],[it,ms],fun n=>if n=it then .pointer (some ⟨r,0,none⟩) else .map (some b)⟩
def Zda (arr:Array MapEntry) (j:Nat):Nat:=(arr.toList.getD j ⟨undef,undef,0⟩).born
theorem Zui (hm:P.follows .mixedOrders=true) (hO:∀ n,ZY P (ZB fs prim bf n)) (hb:KLt base w0) {an3:Ann} {ops3 ops4:Array Oper} {i3 i4:Nat} {body:Code} {nxo exo eno:Oper} {lE:List Oper}
  (h3:ops3.toList=[nxo,exo]) (h4:ops4.toList=eno::lE)
  (hn1:nxo.op=.next (.tmp it) false) (hn2:nxo.dst=some nx) (hn3:nxo.guard=none) (hx1:exo.op=.extract (.tmp nx) 0) (hx2:exo.dst=some ok) (hx3:exo.guard=none)
  (he1:eno.op=.entry (.tmp it)) (he2:eno.dst=some en) (he3:eno.guard=none) (hcE:Za6 P an3 ops4 lE=some aslE) (hc2:ZaW (Z7 P an3 body)=c2) (hnt3:an3.nt=nt) (hk3:an3.keep=[it,ms])
  (d1:it < nt) (d2:nx < nt) (d3:ok < nt) (d4:en < nt) (d5:it≠ms) (d6:nx≠ms) (d7:ok≠ms) (d8:en≠ms) (d9:nx≠it) (d10:ok≠it) (d11:en≠it) (d12:nx≠ok) (hlv:∀ n ∈ live,n≠it/\n≠nx/\n≠ok/\n≠en)
  {r b clk:Nat} {arr:Array MapEntry} {es:List (AVal×AVal)} (hS:ZeH arr clk) (hne:arr.size=es.length) (hrb:r≠b) (hrbase:¬base r) (hbbase:¬base b)
  {tm2:Tms} {σ2:Za} {out:AVal×Za} (hall:∀ es':List (AVal×AVal),es'.Perm es->ZcE fs prim bf m live ms en b1 aslE c2 c3 rs es es' tm2 σ2=some out)
  {I:Imm} {β:Bmap} {Q:Exit->Act->World->Prop}
  (hQ:∀ tm σ a w I' β',Zco fs prim bf m live c3 rs tm σ=some out->I.le I'->KeptE m β β'->TR I' β' (keepL live tm) a.tmps->(a.defers=[]/\nt<=a.tmps.size)->Rel base w0 I0 I' β' σ w->Q (.exit bid) a w) :
  ∀ (n:Nat) (js:List Nat) (tm:Tms) (σ:Za) (a:Act) (w:World),n+js.length=es.length+1->js.Nodup->(∀ j ∈ js,j < es.length)->Za9 fs prim bf m live ms en b1 aslE c2 es (js.map fun j=>es.getD j (.top,.top)) tm2 σ2=some (tm,σ) ->
   w.heap[r]?=some (.mapIter (some b) clk (js.map (Zda arr)).toArray clk)->w.heap[b]?=some (.map arr clk) ->
   (∃ I' β',I.le I'/\KeptE m β β'/\TR I' β' (keepL live tm) a.tmps/\((Zbf it ms r b).ok a/\nt<=a.tmps.size)/\Rel base w0 I0 I' β' σ w/\(∀ o,I' r o=none)/\(∀ t x,σ[t]?=some x->¬Zc w β' t x r)) ->
   Code.rounds P (.seq (.region i3 ops3 false) (.seq (.cond (.tmp ok) .skip (.exit bid)) (.block b1 (.seq (.region i4 ops4 false) body)))) Q n a w:=by
 have hperm:∀ js:List Nat,js.Nodup->(∀ j ∈ js,j < es.length)->∃ rest:List Nat,(Wn es.length).Perm (js++rest):=fun js h1 h2=>Zjc js _ h1 (fun j hj=>WJ.2 (h2 j hj)) Xaq
 have hpm:∀ js rest:List Nat,(Wn es.length).Perm (js++rest)->(js.map (fun j=>es.getD j (.top,.top))++rest.map fun j=>es.getD j (.top,.top)).Perm es:=by
  intro js rest h
  have:=h.map (fun j=>es.getD j ((.top,.top):AVal×AVal))
  rw [ZxF,Wd] at this
  exact this.symm
 intro n
 induction n with
 | zero =>
  intro js tm σ a w hn hnd hlt _ _ _ _
  exfalso
  obtain ⟨rest,hr⟩:=hperm js hnd hlt
  have:=hr.length_eq
  simp at this
  omega
 | succ n ih =>
  intro js tm σ a w hn hnd hlt hf hit hmap hst
  rw [rounds_succ]
  obtain ⟨I1,β1,g1,g2,T1,⟨gd,gs⟩,R1,hIr,hown⟩:=hst
  have vit:a.tmps.getD it undef=.pointer (some ⟨r,0,none⟩):=by
   have:=gd.2 it (by simp [Zbf]);simpa [Zbf] using this
  have vms:a.tmps.getD ms undef=.map (some b):=by
   have:=gd.2 ms (by simp [Zbf]);simpa [Zbf,WQ d5] using this
  refine wp_seq (wp_region_list ?_)
  rw [h3]
  refine ZdU hn3 ?_
  unfold Oper.wp
  have hlook:=run_next_at (P:=P) w nxo.type r b clk clk _ arr clk hit hmap (fun x hx=>hS.1 x hx) (XO _)
  rcases hlook with ⟨hz,hrun⟩ | ⟨e,he,w1,hw1,hrun⟩
  ·
   have e1:(execOp a.eval nxo).run P w=.ok (.value (.tuple #[.bool false])) w:=by
    unfold execOp;rw [hn1]
    simp only [Act.eval]
    rw [vit]
    exact Zgg hrun
   rw [e1,Oper.upon_value,hn2]
   refine ZdU hx3 ?_
   unfold Oper.wp
   have e2:(execOp (a.put (some nx) (.tuple #[.bool false])).eval exo).run P w=.ok (.value (.bool false)) w:=by
    unfold execOp;rw [hx1]
    simp only [Act.eval]
    rw [pgs (by omega)]
    exact Zgg (by simp [Instr.extract])
   rw [e2,Oper.upon_value,hx2]
   refine wpList_nil ?_
   simp only [Exit.then]
   refine wp_seq (wp_cond_false (by simp only [Act.eval];exact pgs (by rw [ZbW];omega)) (wp_exit ?_))
   simp only [Exit.then]
   obtain ⟨rest,hr⟩:=hperm js hnd hlt
   have hrest:rest=[]:=by
    cases rest with
    | nil=>rfl
    | cons x rest =>
     exfalso
     have hx:x < es.length:=WJ.1 (hr.mem_iff.2 (by simp))
     obtain ⟨ex,hxa⟩:∃ ex,arr.toList[x]?=some ex:=⟨_,Xz (by simpa [hne] using hx)⟩
     have hs:=Zm5 hz (arr.toList.getD x ⟨undef,undef,0⟩) (by
      rw [Xd,hxa];exact Xq hxa)
     have hnd2:(js++x::rest).Nodup:=hr.nodup_iff.1 Xaq
     have hxj:x ∉ js:=fun hm=>by
      have:=(WV.1 hnd2).2.2 x hm x (by simp)
      exact this rfl
     simp only [List.contains_toArray,Xau,decide_eq_true_eq,XL] at hs
     obtain ⟨y,hy,hyx⟩:=hs
     have hyl:y < es.length:=hlt y hy
     obtain ⟨ey,hya⟩:∃ ey,arr.toList[y]?=some ey:=⟨_,Xz (by simpa [hne] using hyl)⟩
     have hnb:=hS.2
     have e3:(arr.toList.map (·.born))[y]?=(arr.toList.map (·.born))[x]?:=by
      rw [X3,X3,hya,hxa]
      simp only [XM,Xa]
      unfold Zda at hyx
      rw [Xd,Xd,hya,hxa] at hyx
      exact hyx
     have hyx2:=(List.getElem?_inj (by simpa [hne] using hyl) hnb).1 e3
     subst hyx2
     exact hxj hy
   subst hrest
   have hp:=hpm js [] hr
   have ho:=hall _ hp
   unfold ZcE at ho
   rw [Zfe,hf] at ho
   simp only [X6,Za9] at ho
   refine hQ tm σ _ w I1 β1 ho g1 g2 ?_ ⟨by rw [Zge,Zge];exact gd.1,by rw [ZbW,ZbW];exact gs⟩ R1
   have t0:∀ d,d ∉ live->tget (keepL live tm) d=.top:=fun d hd=>by rw [ZfL,if_neg hd]
   exact Zfd (Zfd T1 (t0 nx fun h=>(hlv nx h).2.1 rfl)) (t0 ok fun h=>(hlv ok h).2.2.1 rfl)
  ·
   obtain ⟨hea,hes⟩:=ZwE he
   obtain ⟨j,hj,hje⟩:=List.getElem_of_mem hea
   have hja:arr.toList[j]?=some e:=by rw [Xz hj,hje]
   have hjl:j < es.length:=by simpa [hne] using hj
   have hbj:Zda arr j=e.born:=by unfold Zda;rw [Xd,hja];rfl
   have hjs:j ∉ js:=fun hm=>by
    have : (js.map (Zda arr)).toArray.contains e.born=true:=by
     simp only [List.contains_toArray,Xau,decide_eq_true_eq,XL]
     exact ⟨j,hm,hbj⟩
    rw [this] at hes;cases hes
   have hnd':(js++[j]).Nodup:=by
    rw [WV]
    exact ⟨hnd,by simp,fun x hx y hy=>by rw [XV] at hy;subst hy;rintro rfl;exact hjs hx⟩
   have hlt':∀ k ∈ js++[j],k < es.length:=fun k hk=>by
    rcases Xn.1 hk with hk | hk
    ·exact hlt k hk
    ·rw [XV] at hk;subst hk;exact hjl
   obtain ⟨rest,hr⟩:=hperm (js++[j]) hnd' hlt'
   have hp:=hpm (js++[j]) rest hr
   have ho:=hall _ hp
   unfold ZcE at ho
   rw [Zfe,Wd,Zfe,hf] at ho
   simp only [XB,X6,Za9] at ho
   generalize hkv:es.getD j ((.top,.top):AVal×AVal)=kv at ho
   cases hro:ZcC fs prim bf m live ms en b1 aslE c2 es kv tm σ with
   | none=>rw [hro] at ho;cases ho
   | some q =>
   obtain ⟨tm',σ'⟩:=q
   clear ho
   have hf':Za9 fs prim bf m live ms en b1 aslE c2 es ((js++[j]).map fun j=>es.getD j (.top,.top)) tm2 σ2=some (tm',σ'):=by
    rw [Wd,Zfe,hf]
    simp only [XB,X6,Za9,hkv,hro]
   unfold ZcC at hro
   split at hro
   case h_2=>cases hro
   rename_i t hmst
   split at hro
   case isFalse=>cases hro
   rename_i hcond
   obtain ⟨hte,hkept⟩:=hcond
   split at hro
   case h_2=>cases hro
   rename_i tmA σA hstep
   have hbw:=R1.base_le hb
   have Rr:=R1.rebase hown
   obtain ⟨β0,q1,R0r,T0⟩:=Zh2 Rr T1 m
   have R0:=R1.unbase R0r (fun k h=>Xo h) (fun t x b hx hs=>by
    rcases R0r.ro t x b hx hs with h | rfl
    ·exact h
    ·exfalso
     cases x with
     | rmap es2 =>
      obtain ⟨b2,_,_,_,_,e1,e2,_⟩:=R0r.blk t _ hx
      simp only [ZaS,e1,Wl,Xa] at hs
      subst hs
      rw [hit] at e2;cases e2
     | _=>cases hs)
   have hown0:∀ t x,(gcT m (keepL live tm) σ).2[t]?=some x->¬Zc w β0 t x r:=fun t x hx ho=>(R0r.own t x r hx ho).1 (Xw rfl)
   have tt:∀ d,d ∉ live->tget (gcT m (keepL live tm) σ).1 d=.top:=fun d hd=>Zwm hd
   have hml:=ZrL m (keepL live tm) σ
   generalize (gcT m (keepL live tm) σ).1=tm0 at *
   generalize (gcT m (keepL live tm) σ).2=σ0 at *
   have vt:=T0 ms
   rw [hmst,vms] at vt
   simp only [VR] at vt
   obtain ⟨b',kk',cc',hbt,hbb⟩:=vt
   simp only [Value.map.injEq,Xa] at hbb
   subst hbb
   obtain ⟨b2,k2,c2',arr',clk',e1,e2,e3,e4,e5,e6⟩:=R0.blk t _ hte
   rw [hbt] at e1
   simp only [Xa,BI.mk.injEq] at e1
   obtain ⟨rfl,rfl,rfl⟩:=e1
   rw [hmap] at e2
   simp only [Xa,Obj.map.injEq] at e2
   obtain ⟨rfl,rfl⟩:=e2
   have howb:Zc w β0 t (.map es) b:=by simp [Zc,hbt]
   have htl:t < σ0.length:=(Xe.1 hte).1
   have e1:(execOp a.eval nxo).run P w=.ok (.value (.tuple #[.bool true,e.key,e.val])) (setBlock w1 r (.mapIter (some b) clk ((js.map (Zda arr)).toArray.push e.born) clk)):=by
    unfold execOp;rw [hn1]
    simp only [Act.eval]
    rw [vit]
    rw [Sem.run_bind,hrun];rfl
   have hw1h:w1.heap=w.heap/\w1.os=w.os/\w1.tape=w.tape/\w1.output=w.output:=by rcases hw1 with rfl | rfl <;> exact ⟨rfl,rfl,rfl,rfl⟩
   obtain ⟨wh,wo,wt,wu⟩:=hw1h
   have hrlt:r < w.heap.size:=(Xy.1 hit).1
   generalize hw3:setBlock w1 r (.mapIter (some b) clk ((js.map (Zda arr)).toArray.push e.born) clk)=w3 at e1
   have w3r:w3.heap[r]?=some (.mapIter (some b) clk ((js.map (Zda arr)).toArray.push e.born) clk):=by
    rw [<-hw3];simp only [setBlock,wh];rw [Array.getElem?_setIfInBounds_self_of_lt hrlt]
   have w3k:∀ k,k≠r->w3.heap[k]?=w.heap[k]?:=fun k hk=>by
    rw [<-hw3];simp only [setBlock,wh];rw [X9 (WQ hk)]
   have w3b:w3.heap[b]?=some (.map arr clk):=by rw [w3k b (WQ hrb)];exact hmap
   have w3s:w3.heap.size=w.heap.size:=by rw [<-hw3];simp [setBlock,wh]
   have R3:Rel base w0 I0 I1 β0 σ0 w3:=R0.turn hown0 hrbase hIr (by rw [<-hw3];exact wo) (by rw [<-hw3];exact wt) (by rw [<-hw3];exact wu) (by omega) (fun k hk _=>w3k k hk) hbw
   have hIb:∀ o,I1 b o=none:=(R3.own t _ b hte howb).2
   have hown3:∀ t x,σ0[t]?=some x->¬Zc w3 β0 t x r:=fun t x hx ho=>hown0 t x hx (((R0.blk t x hx).owns_at (Bmap.le.refl β0) (fun b' hb'=>w3k b' (by rintro rfl;exact hown0 t x hx hb')) r).1 ho)
   have RH:=R3.hide hte howb hown3
   rw [e1,Oper.upon_value,hn2]
   generalize hA1:a.put (some nx) (.tuple #[.bool true,e.key,e.val])=A1
   have s1:A1.tmps.size=a.tmps.size:=by rw [<-hA1,ZbW]
   have f1:∀ k,k≠nx->A1.tmps.getD k undef=a.tmps.getD k undef:=by intro k hk;rw [<-hA1];exact pgn (WQ hk)
   have df1:A1.defers=[]:=by rw [<-hA1];exact gd.1
   have TA1:TR I1 β0 tm0 A1.tmps:=by rw [<-hA1];exact Zfd T0 (tt nx fun h=>(hlv nx h).2.1 rfl)
   refine ZdU hx3 ?_
   unfold Oper.wp
   have e2:(execOp A1.eval exo).run P w3=.ok (.value (.bool true)) w3:=by
    unfold execOp;rw [hx1]
    simp only [Act.eval]
    rw [<-hA1,pgs (by omega)]
    exact Zgg (by simp [Instr.extract])
   rw [e2,Oper.upon_value,hx2]
   generalize hA2:A1.put (some ok) (.bool true)=A2
   have s2:A2.tmps.size=a.tmps.size:=by rw [<-hA2,ZbW,s1]
   have f2:∀ k,k≠ok->A2.tmps.getD k undef=A1.tmps.getD k undef:=by intro k hk;rw [<-hA2];exact pgn (WQ hk)
   have df2:A2.defers=[]:=by rw [<-hA2];exact df1
   have TA2:TR I1 β0 tm0 A2.tmps:=by rw [<-hA2];exact Zfd TA1 (tt ok fun h=>(hlv ok h).2.2.1 rfl)
   refine wpList_nil ?_
   simp only [Exit.then]
   refine wp_seq (wp_cond_true (by simp only [Act.eval];rw [<-hA2];exact pgs (by omega)) (wp_skip ?_))
   simp only [Exit.then]
   refine wp_block (wp_seq (wp_region_list ?_))
   rw [h4]
   refine ZdU he3 ?_
   unfold Oper.wp
   have e3':(execOp A2.eval eno).run P w3=.ok (.value (.tuple #[e.key,e.val])) w3:=by
    unfold execOp;rw [he1]
    simp only [Act.eval]
    rw [f2 it (WQ d10),f1 it (WQ d9),vit]
    exact Zgg (run_entry_at w3 r b clk _ arr clk e w3r w3b hea hS.2)
   rw [e3',Oper.upon_value,he2]
   generalize hA3:A2.put (some en) (.tuple #[e.key,e.val])=A3
   have s3:A3.tmps.size=a.tmps.size:=by rw [<-hA3,ZbW,s2]
   have f3:∀ k,k≠en->A3.tmps.getD k undef=A2.tmps.getD k undef:=by intro k hk;rw [<-hA3];exact pgn (WQ hk)
   have df3:A3.defers=[]:=by rw [<-hA3];exact df2
   have hkve:VR I1 β0 (.tup [kv.1,kv.2]) (.tuple #[e.key,e.val]):=by
    have hej:es[j]?=some kv:=by
     rw [<-hkv,Xd,Xz hjl];rfl
    obtain ⟨v1,p1,p2⟩:=ZaZ e3 (i:=j) (x:=kv.1) (by rw [X3,hej];rfl)
    obtain ⟨v2,p3,p4⟩:=ZaZ e4 (i:=j) (x:=kv.2) (by rw [X3,hej];rfl)
    rw [X3,hja] at p1 p3
    simp only [XM,Xa] at p1 p3
    subst p1 p3
    simp only [VR]
    exact ⟨_,rfl,by simp only [VRs];exact ⟨_,_,rfl,p2,_,_,rfl,p4,rfl⟩⟩
   have TA3:TR I1 β0 (tput tm0 (some en) (.tup [kv.1,kv.2])) A3.tmps:=by rw [<-hA3];exact TR.put TA2 hkve (by omega)
   have ok3:(Zbf it ms r b).ok A3:=by
    refine ⟨df3,fun k hk=>?_⟩
    have hk':k=it\/k=ms:=by simpa [Zbf] using hk
    have n1:k≠en/\k≠ok/\k≠nx:=by
     rcases hk' with rfl | rfl
     ·exact ⟨WQ d11,WQ d10,WQ d9⟩
     ·exact ⟨WQ d8,WQ d7,WQ d6⟩
    rw [f3 k n1.1,f2 k n1.2.1,f1 k n1.2.2]
    exact gd.2 k hk
   have hkp:∀ n ∈ (Zbf it ms r b).K,n ∈ an3.keep:=fun n hn=>by rw [hk3];exact hn
   have hblt:b < w.heap.size:=(Xy.1 hmap).1
   have hbH:KLt (fun k=>base k\/k=b\/k=r) w3:=fun k hk=>by
    rcases hk with hk | rfl | rfl
    ·have:=hbw k hk;omega
    ·omega
    ·omega
   obtain ⟨cs,hruns⟩:=ZkS hstep
   rw [<-XK lE]
   refine ZiB (dr:=Zbf it ms r b) (O:=fun _ _ _=>none) noO hkp hbH hcE TA3 ⟨ok3,by omega⟩ RH hruns ?_
   intro A4 w4 hst4
   refine wpList_nil ?_
   simp only [Exit.then]
   have fin:∀ (x:Zab) (tmB:Tms) (σB:Za),evC fs prim bf σ0.length c2 tmA σA=some (x,tmB,σB)->(x=.normal\/x=.exit b1)->(σB[t]?=some (.rmap es)/\Zca (σ0.set t (.rmap es)) σB=true)->tput tmB (some ms) (.map t)=tm'->σB.set t (.map es)=σ'->body.wp P (Exit.inBlock b1 (Exit.then (Code.rounds P (.seq (.region i3 ops3 false) (.seq (.cond (.tmp ok) .skip (.exit bid)) (.block b1 (.seq (.region i4 ops4 false) body)))) Q n) Q)) A4 w4:=by
    intro x tmB σB hev hx hopq htm hσ
    obtain ⟨nf,hev⟩:=Zam.1 hev
    rw [<-hc2,Zci] at hev
    have hstF:StF (Zbf it ms r b) σ0.length an3.nt (fun k=>base k\/k=b\/k=r) w3 I1 I1 β0 tmA σA A4 w4:=by
     obtain ⟨I4,β4,k1,k2,k3⟩:=hst4
     exact ⟨I4,β4,k1,KeptE.of_le k2,k3⟩
    have next:∀ A5 w5,StF (Zbf it ms r b) σ0.length an3.nt (fun k=>base k\/k=b\/k=r) w3 I1 I1 β0 tmB σB A5 w5->Code.rounds P (.seq (.region i3 ops3 false) (.seq (.cond (.tmp ok) .skip (.exit bid)) (.block b1 (.seq (.region i4 ops4 false) body)))) Q n A5 w5:=by
     rintro A5 w5 ⟨I5,β5,k1,k2,k3,⟨k4,k4'⟩,k5⟩
     have hb5:β5 t 0=some ⟨some b,kk',cc'⟩:=k2 t htl _ hbt
     have w5b:w5.heap[b]?=some (.map arr clk):=by rw [k5.below.block b (Xw (Xo rfl))];exact w3b
     have w5r:w5.heap[r]?=_:=(k5.below.block r (Xw (Xw rfl))).trans w3r
     have hI5b:∀ o,I5 b o=none:=fun o=>by rw [k5.old b o (Xw (Xo rfl))];exact hIb o
     have hI5r:∀ o,I5 r o=none:=fun o=>by rw [k5.old r o (Xw (Xw rfl))];exact hIr o
     have hB5:BR I5 β5 w5 t (.map es):=⟨b,kk',cc',arr,clk,hb5,w5b,ZjJ (fun y hy=>by obtain ⟨p,hp,rfl⟩:=XL.1 hy;exact e5 p hp) e3,ZiT k1 k2 (fun y hy=>by obtain ⟨p,hp,rfl⟩:=XL.1 hy;exact hkept p hp) e4,e5,hS⟩
     have ho5:Zc w β5 t (.map es) b:=by simp [Zc,hb5]
     have R5:=R3.unhide k5 hopq.1 ho5 hB5 hbbase hI5b (fun u x b' hne hx hs=>by
      cases x with
      | rmap es2 =>
       obtain ⟨y,h2,h1⟩:=Zid hopq.2 hx rfl
       rw [Ww (WQ hne)] at h2
       cases y <;> simp [ZbB] at h1
       rename_i es3
       obtain ⟨b2,k2',c2',_,_,e1,_⟩:=R0.blk u _ h2
       have e2:=k2 u (Xe.1 h2).1 _ e1
       refine R0.ro u _ b' h2 ?_
       simp only [ZaS,e2] at hs
       simpa [ZaS,e1] using hs
      | _=>cases hs)
     rw [hσ] at R5
     refine ih (js++[j]) tm' σ' A5 w5 (by rw [List.length_append,List.length_singleton];omega) hnd' hlt' hf' ?_ w5b ⟨I5,β5,g1.trans k1,?_,?_,⟨k4,by omega⟩,R5,hI5r,?_⟩
     ·rw [w5r,Wd,XB,X6,hbj,List.push_toArray]
     ·refine (g2.trans q1).trans (fun u hu bi hbi=>k2 u (by omega) bi hbi)
     ·refine TR.keep (fun u=>?_) live
      rw [<-htm]
      show VR I5 β5 (tget (tins ms (.map t) tmB) u) _
      rw [Zfq]
      split
      ·rename_i e;subst e
       have : A5.tmps.getD ms undef=.map (some b):=by have:=k4.2 ms (by simp [Zbf]);simpa [Zbf,WQ d5] using this
       rw [this]
       simp only [VR]
       exact ⟨b,kk',cc',hb5,rfl⟩
      ·exact k3 u
     ·intro u y hy hoy
      rw [<-hσ,Xj] at hy
      split at hy
      ·rename_i e;subst e
       split at hy
       ·injection hy with hy;subst hy
        exact hrb (WW (ho5.symm.trans hoy)).symm
       ·cases hy
      ·exact (k5.own u y r hy hoy).1 (Xw (Xw rfl))
    refine Zgr (dr:=Zbf it ms r b) (an:=an3) (hO nf) hkp hm hbH σ0.length nf rfl hstF hev ?_
    rcases hx with rfl | rfl
    ·intro A5 w5 hs
     simp only [Exit.inBlock,Exit.then]
     exact next A5 w5 hs
    ·intro A5 w5 hs
     simp only [Exit.inBlock,if_true,Exit.then]
     exact next A5 w5 hs
   split at hro
   ·rename_i tmB σB hev
    split at hro
    case isFalse=>cases hro
    rename_i hopq
    simp only [Xa,Xb] at hro
    exact fin _ _ _ hev (Xo rfl) hopq hro.1 hro.2
   ·rename_i i tmB σB hev
    split at hro
    case isFalse=>cases hro
    rename_i hopq
    obtain ⟨rfl,hopq⟩:=hopq
    simp only [Xa,Xb] at hro
    exact fin _ _ _ hev (Xw rfl) hopq hro.1 hro.2
   ·cases hro
end
end
section
open Go.RowKit
open Go.ChangeMaps (setBlock)
section
variable {P:Program} {fs:Nat->Option Zac} {prim:ZaK} {bf:Nat->Bool}
theorem ZlU (hm:P.follows .mixedOrders=true) (hO:∀ n,ZY P (ZB fs prim bf n)) {f:FuncId} {an1 an3:Ann} {nt n0 n1 ms it nx ok en bid b1:Nat} {live:List Nat} {asl1 aslE:List AOp} {c1 c2 c3:Zl} {rs:List Zbr}
  (D:ZiP P f an1 an3 nt n0 n1 ms it nx ok en bid b1 live asl1 aslE c1 c2 c3 rs) {args:List AVal} {σ σ':Za} {r:AVal} (hg:Zea fs prim bf live ms en b1 asl1 aslE c1 c2 c3 rs args σ=some (r,σ')) :
  (∃ fn,P.funcs[f]?=some fn/\fn.body.isSome=true/\(fn.name == "runtime.NumGoroutine")=false) /\
  ∀ base w0 I0 I β w (vs:Array Value),KLt base w0->Rel base w0 I0 I β σ w->VRs I β args vs.toList ->
   Calls P f vs w (fun e w'=>∃ u,Ends r e u/\ZaN σ.length base w0 I0 I β r σ' u w'):=by
 obtain ⟨F,B,pre,ops1,ops3,ops4,i2,i3,i4,body,rest,t,kt,et,rg,nxo,exo,eno,lE,hF,hname,hnt,hrs,hbody,hsp,h1,h3,h4,hr1,hr2,hr3,hu,hn1,hn2,hn3,hx1,hx2,hx3,he1,he2,he3,hc1,hca1,hcE,hc2,hc3,ha1,ha3,hk3,hd⟩:=D.ex
 simp only [Xc,decide_eq_true_eq,Xv] at hd
 obtain ⟨⟨⟨⟨⟨⟨⟨⟨⟨⟨⟨⟨d1,d2⟩,d3⟩,d4⟩,d5⟩,d6⟩,d7⟩,d8⟩,d9⟩,d10⟩,d11⟩,d12⟩,hlv⟩:=hd
 refine ⟨⟨F,hF,by rw [hbody];rfl,hname⟩,?_⟩
 intro base w0 I0 I β w vs hb R hargs
 unfold Zea at hg
 split at hg
 case h_2=>cases hg
 rename_i tm1 σ1 hx
 split at hg
 case h_2=>cases hg
 rename_i tm2 σ2 hst1
 split at hg
 case h_2=>cases hg
 rename_i mt hms
 split at hg
 case h_2=>cases hg
 rename_i es hes
 unfold ZdF at hg
 split at hg
 case isFalse=>cases hg
 rename_i hex
 have hall:=hex.choose_spec
 injection hg with hg
 rw [hg] at hall
 obtain ⟨nf,hx⟩:=Zam.1 hx
 rw [<-hc1,Zci] at hx
 refine calls_of_wp hF hbody ?_
 rw [Zjm hsp]
 have T:=Zhi hargs (F.ntmps - vs.size)
 have hst:StF Zaz σ.length an1.nt base w0 I0 I β (enterA 0 args []) σ { tmps:=vs++W5 (F.ntmps - vs.size) undef,defers:=[] } w:=⟨I,β,Imm.le.refl I,KeptE.refl _ β,T,⟨ZcH.2 rfl,by rw [ha1,<-hnt];simp;omega⟩,R⟩
 refine ZjH (hO nf) hm hb σ.length nf _ pre hst hx ?_
 rintro A1 w1 ⟨I1,β1,g1,g2,T1,⟨gd,gs⟩,R1⟩
 refine wp_seq (wp_seq (wp_region_list ?_))
 have hl1:ops1.toList=ops1.toList.take n1++[rg]:=by rw [<-h1,List.take_append_drop]
 rw [hl1]
 obtain ⟨cs,hruns⟩:=ZkS hst1
 refine ZiB (dr:=Zaz) (O:=fun _ _ _=>none) noO (fun n hn=>by simp [Zaz] at hn) hb hca1 T1 ⟨gd,gs⟩ R1 hruns ?_
 rintro A2 w2 ⟨I2,β2,k1,k2,T2,⟨kd,ks⟩,R2⟩
 have vms:=T2 ms
 rw [hms] at vms
 simp only [VR] at vms
 obtain ⟨b,kk,cc,hbt,vms⟩:=vms
 obtain ⟨b',kk',cc',arr,clk,e1,e2,e3,e4,e5,e6⟩:=R2.blk mt _ hes
 rw [hbt] at e1
 simp only [Xa,BI.mk.injEq] at e1
 obtain ⟨rfl,rfl,rfl⟩:=e1
 refine ZdU hr3 ?_
 unfold Oper.wp
 have er:(execOp A2.eval rg).run P w2=.ok (.value (.pointer (some ⟨w2.heap.size,0,none⟩))) { w2 with heap:=w2.heap.push (.mapIter (some b) clk #[] clk) }:=by
  unfold execOp;rw [hr1]
  simp only [Act.eval]
  rw [vms]
  simp [Instr.range,run_underlying hu,ZdX e2]
 rw [er,Oper.upon_value,hr2]
 refine wpList_nil ?_
 simp only [Exit.then]
 have hbw:=R2.base_le hb
 have hblt:b < w2.heap.size:=(Xy.1 e2).1
 have howb:Zc w2 β2 mt (.map es) b:=by simp [Zc,hbt]
 have hob:=R2.own mt _ b hes howb
 generalize hr:w2.heap.size=rr at *
 have hown:∀ t x,σ2[t]?=some x->¬Zc w2 β2 t x rr:=fun t x hx ho=>by
  have:=(R2.blk t x hx).owns_lt ho;omega
 have hrb:¬base rr:=fun h=>by have:=hbw rr h;omega
 have hIr:∀ o,I2 rr o=none:=fun o=>by
  cases hi:I2 rr o with
  | none=>rfl
  | some u =>
   have:=Zb5 (R2.imm rr o u hi)
   omega
 generalize hw3:({ w2 with heap:=w2.heap.push (.mapIter (some b) clk #[] clk) }:World)=w3
 have w3k:∀ k,k < w2.heap.size->w3.heap[k]?=w2.heap[k]?:=fun k hk=>by
  rw [<-hw3];simp only;rw [Array.getElem?_push];rw [if_neg (by omega)]
 have R3:Rel base w0 I0 I2 β2 σ2 w3:=R2.turn hown hrb hIr (by rw [<-hw3]) (by rw [<-hw3]) (by rw [<-hw3]) (by rw [<-hw3];simp) (fun k _ hk=>w3k k hk) hbw
 have hown3:∀ t x,σ2[t]?=some x->¬Zc w3 β2 t x rr:=fun t x hx ho=>hown t x hx (((R2.blk t x hx).owns_at (Bmap.le.refl β2) (fun b' hb'=>w3k b' ((R2.blk t x hx).owns_lt hb')) rr).1 ho)
 refine wp_block (wp_loop_rounds (es.length+1) ?_)
 have hlen:arr.size=es.length:=by
  have:=Zaa e3
  simpa using this.symm
 refine Zui (base:=base) (w0:=w0) (I0:=I0) (m:=σ.length) (live:=live) (ms:=ms) (it:=it) (nx:=nx) (ok:=ok) (en:=en) (nt:=nt) (c3:=c3) (rs:=rs) hm hO hb h3 h4 hn1 hn2 hn3 hx1 hx2 hx3 he1 he2 he3 hcE hc2 ha3 hk3 d1 d2 d3 d4 d5 d6 d7 d8 d9 d10 d11 d12 (fun n hn=>by have:=hlv n hn;exact ⟨this.1.1.1,this.1.1.2,this.1.2,this.2⟩)
  (r:=rr) (b:=b) (arr:=arr) (clk:=clk) (es:=es) (tm2:=tm2) (σ2:=σ2) (out:=(r,σ')) (I:=I2) (β:=β2) e6 hlen (by omega) hrb hob.1 hall ?_ (es.length+1) [] tm2 σ2 _ w3 (by simp) (by simp) (by simp) rfl ?_ ?_ ?_
 ·
  intro tm σx a wx I' β' hend j1 j2 jT jd jR
  simp only [Exit.inBlock,if_true,Exit.then]
  unfold Zco at hend
  obtain ⟨β3,q1,q2,q3⟩:=Zh2 jR jT σ.length
  generalize hev:evC fs prim bf σ.length c3 (gcT σ.length (keepL live tm) σx).1 (gcT σ.length (keepL live tm) σx).2=res at hend
  cases res with
  | none=>simp only [Zax] at hend;cases hend
  | some q =>
   obtain ⟨e,tm',σe⟩:=q
   obtain ⟨n3,hev⟩:=Zam.1 hev
   rw [<-hc3,Zci] at hev
   have kk1:KeptE σ.length β β3:=(g2.trans (KeptE.of_le k2)).trans (j2.trans q1)
   have st:StF Zaz σ.length an1.nt base w0 I0 I β (gcT σ.length (keepL live tm) σx).1 (gcT σ.length (keepL live tm) σx).2 a wx:=⟨I',β3,(g1.trans k1).trans j1,kk1,q3,⟨ZcH.2 jd.1,by rw [ha1];exact jd.2⟩,q2⟩
   have fin:(match resA tm' σe rs with | some r=>Zas σ.length σe r | none=>none)=some (r,σ')->∀ a' w',StF Zaz σ.length an1.nt base w0 I0 I β tm' σe a' w'->a'.defers=[]/\∃ v,(results F a'.tmps).run P w'=.ok v w'/\∃ u,Ends r (.returned v) u/\ZaN σ.length base w0 I0 I β r σ' u w':=by
    intro hr a' w' ⟨I1,β1,g1,g2,g3,g4,g5⟩
    split at hr
    ·rename_i x hx1
     obtain ⟨v,h1,h2⟩:=ZjF g3 g5 hrs hx1
     have hnp:∀ y,x≠.pan y:=by rintro y rfl;simp only [VR] at h2
     obtain ⟨q1,q2⟩:=Zff (⟨I1,β1,g1,g2,g5,by rw [Zc6 hnp];exact h2⟩:ZaN σ.length base w0 I0 I β x σe v w') hr
     refine ⟨ZcH.1 g4.1,v,h1,v,q2 _ ?_,q1⟩
     cases x <;> first | rfl | exact absurd rfl (hnp _)
    ·cases hr
   refine Zgr (dr:=Zaz) (an:=an1) (hO n3) (fun n hn=>by simp [Zaz] at hn) hm hb σ.length n3 rfl st hev ?_
   cases e with
   | normal=>simp only [Zax] at hend;exact fun a' w' hs=>fin hend a' w' hs
   | ret=>simp only [Zax] at hend;exact fun a' w' hs=>fin hend a' w' hs
   | exit id=>simp only [Zax] at hend;cases hend
   | panic x =>
    simp only [Zax] at hend
    intro a' u w' hd hp
    obtain ⟨q1,q2⟩:=Zff hp hend
    exact ⟨ZcH.1 hd,u,q2 _ rfl,q1⟩
 ·rw [<-hw3,<-hr];simp
 ·rw [w3k b (by omega)];exact e2
 ·refine ⟨I2,β2,Imm.le.refl _,KeptE.refl _ _,?_,⟨⟨by rw [Zge];exact ZcH.1 kd,fun k hk=>?_⟩,by rw [ZbW];omega⟩,R3,hIr,hown3⟩
  ·refine Zfd (T2.keep live) ?_
   rw [ZfL,if_neg]
   exact fun h=>(hlv it h).1.1.1 rfl
  ·have hk':k=it\/k=ms:=by simpa [Zbf] using hk
   rcases hk' with rfl | rfl
   ·rw [pgs (by omega)];simp [Zbf]
   ·rw [pgn d5,vms];simp [Zbf,WQ d5]
end
end
section
open Go.RowKit
def ZhA (args:List AVal) (σ:Za):Option (AVal×Za):=match args with
 | [.str l]=>some (.bool (Lib.validD l),σ)
 | _=>none
def ZfW (args:List AVal) (σ:Za):Option (AVal×Za):=match args with
 | [.str l,.int .u8 c]=>some (.int .i64 (Lib.indexByte l c.toNat.toUInt8),σ)
 | _=>none
def Zg8 (args:List AVal) (σ:Za):Option (AVal×Za):=match args with
 | [.str l,.str [c]]=>some (.int .i64 (Lib.countByte l c),σ)
 | _=>none
section
variable {P:Program} {base:Nat->Prop} {w0 w w':World} {I0 I:Imm} {β:Bmap} {σ:Za}
theorem ZgW {f:Nat} (hf:∃ fn,P.funcs[f]?=some fn/\fn.body.isSome=true/\(fn.name == "runtime.NumGoroutine")=false) {args:List AVal} {r:AVal} {u:Value} (hn:∀ x,r≠.pan x) (hr:∀ I β,VR I β r u)
  (h:∀ base w0 I0 I β w (vs:Array Value),Rel base w0 I0 I β σ w->VRs I β args vs.toList->Calls P f vs w (fun e w'=>e=.returned u/\Below w.heap.size w w')) :
  (∃ fn,P.funcs[f]?=some fn/\fn.body.isSome=true/\(fn.name == "runtime.NumGoroutine")=false) /\
  ∀ base w0 I0 I β w (vs:Array Value),KLt base w0->Rel base w0 I0 I β σ w->VRs I β args vs.toList ->
   Calls P f vs w (fun e w'=>∃ u,Ends r e u/\ZaN σ.length base w0 I0 I β r σ u w'):=by
 refine ⟨hf,fun base w0 I0 I β w vs hb R hv=>(h base w0 I0 I β w vs R hv).mono ?_⟩
 rintro e w' ⟨rfl,hB⟩
 have hbw:=R.base_le hb
 refine ⟨u,?_,I,β,Imm.le.refl I,KeptE.refl _ β,R.stay (Imm.le.refl I) ⟨hB.os,hB.tape,hB.output,hB.size,fun k hk=>hB.block k (hbw k hk)⟩ (fun _ _ _=>rfl) ?_ ?_,by rw [Zc6 hn];exact hr I β⟩
 ·cases r <;> first | rfl | exact absurd rfl (hn _)
 ·intro b o x hx
  have h1:=R.imm b o x hx
  have hlt:=Zb5 h1
  rw [<-h1]
  simp only [World.cell?,hB.block b hlt]
 ·intro t x b hx hb'
  exact ⟨hB.block b ((R.blk t x hx).owns_lt hb'),(R.own t x b hx hb').2⟩
theorem Zk4 {f:Nat} (hf:∃ fn,P.funcs[f]?=some fn/\fn.body.isSome=true/\(fn.name == "runtime.NumGoroutine")=false)
  (hc:∀ (s:ByteArray) (c:Int) (w:World),Calls P f #[.string s,.int .u8 c] w fun e w'=>e=.returned (.int .i64 (Lib.indexByte s.data.toList c.toNat.toUInt8))/\w'=w) {args:List AVal} {σ σ':Za} {r:AVal} (h:ZfW args σ=some (r,σ')) :
  (∃ fn,P.funcs[f]?=some fn/\fn.body.isSome=true/\(fn.name == "runtime.NumGoroutine")=false) /\
  ∀ base w0 I0 I β w (vs:Array Value),KLt base w0->Rel base w0 I0 I β σ w->VRs I β args vs.toList ->
   Calls P f vs w (fun e w'=>∃ u,Ends r e u/\ZaN σ.length base w0 I0 I β r σ' u w'):=by
 unfold ZfW at h
 split at h
 case h_2=>cases h
 rename_i l c
 simp only [Xa,Xb] at h
 obtain ⟨rfl,rfl⟩:=h
 refine ZgW hf (u:=.int .i64 (Lib.indexByte l c.toNat.toUInt8)) (by simp) (fun _ _=>by simp only [VR]) ?_
 intro base w0 I0 I β w vs R hv
 obtain ⟨vs⟩:=vs
 simp only [VRs,VR] at hv
 obtain ⟨v1,r1,e1,⟨rfl,_⟩,v2,r2,rfl,rfl,rfl⟩:=hv
 subst e1
 refine (hc ⟨l.toArray⟩ c w).mono ?_
 rintro e w' ⟨rfl,rfl⟩
 exact ⟨by simp,Below.refl _ _⟩
theorem Zp1 {f:Nat} (hf:∃ fn,P.funcs[f]?=some fn/\fn.body.isSome=true/\(fn.name == "runtime.NumGoroutine")=false)
  (hc:∀ (s:ByteArray) (c:UInt8) (w:World),Calls P f #[.string s,.string ⟨#[c]⟩] w fun e w'=>e=.returned (.int .i64 (Lib.countByte s.data.toList c))/\w'=w) {args:List AVal} {σ σ':Za} {r:AVal} (h:Zg8 args σ=some (r,σ')) :
  (∃ fn,P.funcs[f]?=some fn/\fn.body.isSome=true/\(fn.name == "runtime.NumGoroutine")=false) /\
  ∀ base w0 I0 I β w (vs:Array Value),KLt base w0->Rel base w0 I0 I β σ w->VRs I β args vs.toList ->
   Calls P f vs w (fun e w'=>∃ u,Ends r e u/\ZaN σ.length base w0 I0 I β r σ' u w'):=by
 unfold Zg8 at h
 split at h
 case h_2=>cases h
 rename_i l c
 simp only [Xa,Xb] at h
 obtain ⟨rfl,rfl⟩:=h
 refine ZgW hf (u:=.int .i64 (Lib.countByte l c)) (by simp) (fun _ _=>by simp only [VR]) ?_
 intro base w0 I0 I β w vs R hv
 obtain ⟨vs⟩:=vs
 simp only [VRs,VR] at hv
 obtain ⟨v1,r1,e1,⟨rfl,_⟩,v2,r2,rfl,⟨rfl,_⟩,rfl⟩:=hv
 subst e1
 refine (hc ⟨l.toArray⟩ c w).mono ?_
 rintro e w' ⟨rfl,rfl⟩
 exact ⟨by simp,Below.refl _ _⟩
theorem ZsY (R:Rel base w0 I0 I β σ w):Lib.Utf8Tabs 1 2 w:=by
 refine ⟨fun c hc=>R.imm _ _ _ (R.glob _ _ _ (by simp [Gl,hc])),fun i hi=>⟨R.imm _ _ _ (R.glob _ _ _ ?_),R.imm _ _ _ (R.glob _ _ _ ?_)⟩⟩
 ·have h1:2*i < 32:=by omega
  have h2:2*i % 2=0:=by omega
  have h3:2*i / 2=i:=by omega
  simp [Gl,h1,h3]
 ·have h1:2*i+1 < 32:=by omega
  have h2:(2*i+1) % 2=1:=by omega
  have h3:(2*i+1) / 2=i:=by omega
  simp [Gl,h1,h2,h3]
theorem ZpJ {f:Nat} (hf:∃ fn,P.funcs[f]?=some fn/\fn.body.isSome=true/\(fn.name == "runtime.NumGoroutine")=false)
  (hc:∀ (s:ByteArray) (w:World),s.size<=9223372036854775807->Lib.Utf8Tabs 1 2 w->Calls P f #[.string s] w fun e w'=>e=.returned (.bool (Lib.validD s.data.toList))/\Below w.heap.size w w') {args:List AVal} {σ σ':Za} {r:AVal} (h:ZhA args σ=some (r,σ')) :
  (∃ fn,P.funcs[f]?=some fn/\fn.body.isSome=true/\(fn.name == "runtime.NumGoroutine")=false) /\
  ∀ base w0 I0 I β w (vs:Array Value),KLt base w0->Rel base w0 I0 I β σ w->VRs I β args vs.toList ->
   Calls P f vs w (fun e w'=>∃ u,Ends r e u/\ZaN σ.length base w0 I0 I β r σ' u w'):=by
 unfold ZhA at h
 split at h
 case h_2=>cases h
 rename_i l
 simp only [Xa,Xb] at h
 obtain ⟨rfl,rfl⟩:=h
 refine ZgW hf (u:=.bool (Lib.validD l)) (by simp) (fun _ _=>by simp only [VR]) ?_
 intro base w0 I0 I β w vs R hv
 obtain ⟨vs⟩:=vs
 simp only [VRs,VR] at hv
 obtain ⟨v1,r1,e1,⟨rfl,hl⟩,rfl⟩:=hv
 subst e1
 refine (hc ⟨l.toArray⟩ w (by simpa [Wm] using hl) (ZsY R)).mono ?_
 rintro e w' ⟨rfl,hB⟩
 exact ⟨by simp,hB⟩
end
end
section
def Zcy {α:Type} (d:α):List (Nat×α)->Nat->α
 | [],_=>d
 | (k,v)::r,n=>if k=n then v else Zcy d r n
def Zw (own raw:List Nat) (cfg cfg2:List (Nat×Nat×Bool)) (lr ll:List (Nat×List Nat)):Ann:={ own:=fun n=>if own.contains n then 1 else if raw.contains n then 2 else if raw.contains (n+1000000) then 3 else if raw.contains (n+2000000) then 4 else 0,cfg:=Zcy (0,true) cfg,cfg2:=Zcy (0,true) cfg2,lr:=Zcy [] lr,ll:=Zcy [] ll }
def Zx8:List (Nat×Ann):=[
 (9,Zw [] [] [] [] [(0,[4,3,2,1,0]),(1,[12,3,2]),(2,[13,12,2]),(3,[27,13,12,2]),(4,[12,2]),(5,[31,12,2]),(6,[11,10]),(7,[11,10])] []),
 (13,Zw [] [] [(12,1,true)] [] [(0,[3,2]),(1,[5,3,2]),(2,[13,12,11,5,3,2]),(3,[14,13,12,11,5,3,2]),(4,[13,12,11,7,5,3,2]),(5,[13,12,11,5,3,2]),(6,[13,12,11,5,3,2]),(7,[4])] [(3,[13,12,11,5,3,2])]),
 (24,Zw [] [] [] [] [(0,[2,1,0]),(1,[4])] []),
 (7,Zw [] [] [] [] [(0,[8,2,1,0]),(1,[26,2,1,0]),(2,[])] []),
 (12,Zw [] [] [(18,1,false),(22,0,false)] [] [(0,[2,1,0]),(1,[7,2,1,0]),(2,[8,7,1,0]),(3,[]),(4,[29,8,7,1,0]),(5,[6]),(6,[32,8,7,1,0]),(7,[]),(8,[6])] []),
 (15,Zw [] [] [] [] [(0,[3,0]),(1,[4])] []),
 (25,Zw [] [] [] [] [(0,[1,0]),(1,[5,1]),(2,[3])] []),
 (8,Zw [] [] [(18,1,false)] [] [(0,[1,0]),(1,[4])] []),
 (48,Zw [] [] [] [] [(0,[1,0]),(1,[4])] []),
 (55,Zw [] [] [] [] [(0,[1,0]),(1,[4])] []),
 (73,Zw [] [] [] [] [(0,[0]),(1,[2])] []),
 (5,Zw [] [] [] [] [(0,[]),(1,[0])] []),
 (19,Zw [] [] [] [] [(0,[2,1,0]),(1,[7,2,1,0]),(2,[12,11,10,7,2,1]),(3,[13,12,11,10,7,2,1]),(4,[12,11,10,9,7,2,1]),(5,[20,12,11,10,9,7,2,1]),(6,[12,11,10,7,2,1]),(7,[12,11,10,7,2,1]),(8,[6])] [(3,[12,11,10,7,2,1])]),
 (20,Zw [] [] [] [] [(0,[1,0]),(1,[1,0]),(2,[9,1,0]),(3,[0]),(4,[4])] []),
 (36,Zw [] [] [] [] [(0,[1,0]),(1,[7,1,0]),(2,[12,7,1,0]),(3,[6,5,4]),(4,[6,5,4])] []),
 (35,Zw [] [] [] [] [(0,[1,0]),(1,[9,1,0]),(2,[5,4]),(3,[5,4])] []),
 (42,Zw [] [] [] [] [(0,[1,0]),(1,[4])] []),
 (43,Zw [] [] [] [] [(0,[1,0]),(1,[5,1,0]),(2,[16,5,1,0]),(3,[4]),(4,[24,5,1,0]),(5,[4]),(6,[31]),(7,[4]),(9,[4]),(10,[6,5,1,0]),(11,[7,6,5,1,0]),(12,[8,7,6,5,1,0]),(13,[9,8,7,6,5,1,0]),(14,[10,9,8,7,6,5,1,0]),(15,[59,10,9,8,7,6,5,1,0]),(16,[64,10,9,8,7,6,5,1,0]),(17,[11,10,8,7,5,1,0]),(18,[73,11,10,8,7,5,1,0]),(19,[4]),(20,[10,8,7,5,1,0]),(21,[93,10,8]),(22,[4]),(23,[10]),(24,[]),(26,[12,8]),(27,[114,12,8]),(28,[4]),(29,[4]),(31,[13,8]),(32,[139,13,8]),(33,[4]),(34,[4]),(35,[4])] [(15,[10,9,8,7,6,5,1,0])]),
 (40,Zw [] [] [] [] [(0,[0]),(1,[2]),(2,[2])] []),
 (58,Zw [] [] [] [] [(0,[2,0]),(1,[4,2,0]),(2,[0]),(3,[2,0]),(4,[8,2,0]),(5,[2,0]),(6,[2,0]),(7,[2])] []),
 (59,Zw [] [] [] [] [(0,[2,0]),(1,[4,2,0]),(2,[0]),(3,[2,0]),(4,[8,2,0]),(5,[2,0]),(6,[2,0]),(7,[14,2,0]),(8,[2,0]),(9,[2,0]),(10,[2])] []),
 (37,Zw [] [] [] [] [(0,[0]),(1,[6,0]),(2,[8,7,6,0]),(3,[6,4,0]),(4,[11,6,0]),(5,[2]),(6,[2])] [(2,[6,0])]),
 (17,Zw [] [] [] [] [(0,[1,0]),(1,[4])] []),
 (22,Zw [] [] [] [] [(0,[2,1,0]),(1,[2,1,0]),(2,[16,2,1,0]),(3,[6]),(4,[7,2,1,0]),(5,[7,0]),(6,[0]),(7,[6])] []),
 (21,Zw [] [] [] [] [(0,[1,0]),(1,[8,7,1,0]),(2,[9,8,7,1,0]),(3,[8,7,5,1,0]),(4,[16,8,7,5,1,0]),(5,[4]),(6,[8,7,1,0]),(7,[4])] [(2,[8,7,1,0])]),
 (32,Zw [] [] [] [] [(0,[2,0]),(1,[])] []),
 (51,Zw [] [] [] [] [(0,[6,1,0]),(1,[15,6,1,0]),(2,[7,6,1,0]),(3,[8,7,6,1,0]),(4,[9,8,7,6,1,0]),(5,[33,9,8,7,6,1,0]),(6,[9,8,7,6,1,0]),(7,[10,9,8,7,6,1,0]),(8,[43,10,9,8,7,6,1,0]),(9,[10,9,8,7,6,1,0]),(10,[9,8,7,6,1,0])] [(5,[9,8,7,6,1,0])]),
 (52,Zw [] [] [] [] [(0,[2,1,0]),(1,[8,1,0]),(2,[9,8,1,0]),(3,[10,9,8,1,0]),(4,[11,10,9,8,1,0]),(5,[12,11,10,9,8,0]),(6,[32,12,11,10,9,8,0]),(7,[34,12,11,10,9,0]),(8,[12,11,10,9,0]),(9,[12,11,10,9,0]),(10,[12,11,10,9,0]),(11,[11,9]),(12,[49,11]),(13,[7,6]),(14,[51,49,11]),(15,[7,6]),(16,[54,11]),(17,[7,6])] []),
 (50,Zw [] [] [] [] [(0,[6,2,1,0]),(1,[7,6,2,1,0]),(2,[8,7,6,0]),(3,[9,8,7,6,0]),(4,[19,9,8,7,6,0]),(5,[9,8,7,6,0]),(6,[9,8,7,6,0]),(7,[10,7,6,0]),(8,[30,10,7,6,0]),(9,[10,7,6,0]),(10,[10,7,6,0]),(11,[10,7,6,0])] [(4,[9,8,7,6,0]),(8,[10,7,6,0])]),
 (49,Zw [] [] [] [] [(0,[6,2,1,0]),(1,[12,6,2,1,0]),(2,[6,2,1,0]),(3,[7,6,2,1,0]),(4,[30,7,6,2,1,0]),(5,[7,6,2,1,0]),(6,[7,6,2,1,0])] [(1,[6,2,1,0]),(4,[7,6,2,1,0])]),
 (71,Zw [] [] [] [] [(0,[2,1,0]),(1,[6])] []),
 (72,Zw [] [] [] [] [(0,[4,3,2,1,0]),(1,[4,3,2,1,0]),(2,[4,2,1,0]),(3,[2]),(4,[10])] []),
 (69,Zw [] [] [] [] [(0,[0]),(1,[2])] []),
 (79,Zw [] [] [] [] [(0,[3,2,1,0]),(1,[18,3,2,1]),(2,[2,1]),(3,[9,8]),(4,[9,8])] []),
 (54,Zw [] [] [] [] [(0,[2,1,0]),(1,[7,2,1,0]),(2,[8,7,2,1,0]),(3,[14,8,7,2,1,0]),(4,[8,7,2,1,0]),(5,[32,8,7,2,1,0]),(6,[8,7,2,1,0]),(7,[37,8,7,2,1,0]),(8,[6]),(9,[41,8,7,2,1,0]),(10,[6]),(11,[8,7,2,1,0]),(12,[61,8,7,2,1,0]),(13,[9,8,7,2,1,0]),(14,[65,9,8,7,2,1,0]),(15,[9,8,7,2,1,0]),(16,[78,9,8,7,2,1,0]),(17,[9,8,7,2,1,0]),(18,[98,8,7,2,1,0]),(19,[10,8,7,2,1,0]),(20,[103,10,8,7,2,1,0]),(21,[10,8,7,2,1,0]),(22,[116,10,8,7,2,1,0]),(23,[10,8,7,2,1,0]),(24,[6])] [(3,[8,7,2,1,0]),(5,[8,7,2,1,0]),(14,[9,8,7,2,1,0]),(20,[10,8,7,2,1,0])]),
 (56,Zw [] [] [] [] [(0,[3,2,1,0]),(1,[2,1,0]),(2,[10,9,1,0]),(3,[43,10,9,1,0]),(4,[10,9,1,0]),(5,[59,10,9,1,0]),(6,[10,9,1,0]),(7,[64,10,9,1,0]),(8,[10,9,1,0]),(9,[10,9,1,0]),(10,[10,9,1,0]),(11,[8])] [(3,[10,9,1,0]),(5,[10,9,1,0])]),
 (57,Zw [] [] [] [] [(0,[3,2,1,0]),(1,[2,1,0]),(2,[11,10,1,0]),(3,[43,11,10,1,0]),(4,[11,10,1,0]),(5,[60,11,10,1,0]),(6,[11,10,1,0]),(7,[65,11,10,1,0]),(8,[11]),(9,[9,8]),(10,[11,10,1,0]),(11,[11,10,1,0]),(12,[11,10,1,0]),(13,[112,11,10,1,0]),(14,[11,10,1,0]),(15,[129,11,10,1,0]),(16,[11,10,1,0]),(17,[134,11,10,1,0]),(18,[11,10,1,0]),(19,[11,10,1,0]),(20,[11,10,1,0]),(21,[11]),(22,[9,8])] [(3,[11,10,1,0]),(5,[11,10,1,0]),(13,[11,10,1,0]),(15,[11,10,1,0])]),
 (39,Zw [] [] [] [] [(0,[8,3,2,1,0]),(1,[9,8,3,2,1,0]),(2,[10,9,8,3,2,1,0]),(3,[23,10,9,8,3,2,1,0]),(4,[]),(5,[29,10,9,8,3,2,1,0]),(6,[]),(7,[35,10,9,8,3,2,1,0]),(8,[10,9,8,3,2,1,0]),(9,[10,9,8,3,2,1,0]),(10,[12,11,10,9,8,3,2,1,0]),(11,[50,12,11,10,9,8,3,2,1,0]),(12,[11,10,9,8,3,2,1,0]),(13,[11,10,9,8,3,2,1,0]),(14,[12,11,10,9,8,3,2,1,0]),(15,[68,11,10,9,8,3,2,1,0]),(16,[72,11,10,9,8,3,2,1,0]),(17,[87,11,10,9,8,3,2,1,0]),(18,[13,9,8,3,2,0]),(19,[9,8,3,2,1,0]),(20,[15,14,10,3,2,1,0]),(21,[14,10,9,3,2,1,0]),(22,[17,16,14,10,9,3,2,1,0]),(23,[18,17,16,14,9,3,2,1,0]),(24,[113,18,17,16,14,9,3,2,1,0]),(25,[14,9,8,3,2,1,0]),(26,[14,9,8,3,2,0]),(27,[9,8,3,2,1,0]),(28,[14,9,8,3,2,1,0]),(29,[14,9,8,3,1,0]),(30,[9,8,3,2,1,0])] [(2,[9,8,3,2,1,0])]),
 (53,Zw [] [] [] [] [(0,[6,2,0]),(1,[7,6,0]),(2,[13,7,6,0]),(3,[7,6,0]),(4,[7,6,0]),(5,[7,6,0])] [(2,[7,6,0])]),
 (68,Zw [] [] [] [] [(0,[8,3,2,0]),(1,[9,8,3,2,0]),(2,[16,9,8,3,2,0]),(3,[36,9,8,3,2,0]),(4,[9,8,3,2,0]),(5,[52,9,8,3,2,0]),(6,[9,3,2,0]),(7,[8,3,2,0])] [(1,[8,3,2,0])]),
 (30,Zw [] [] [] [] [(0,[1,0]),(1,[4])] []),
 (28,Zw [] [] [] [] [(0,[1,0]),(1,[6,5,4])] []),
 (27,Zw [] [] [] [] [(0,[1,0]),(1,[5,4])] []),
 (76,Zw [] [] [] [] [(0,[1,0]),(1,[4])] []),
 (38,Zw [] [] [] [] [(0,[1,0]),(1,[12,1,0]),(2,[4]),(3,[15,1,0]),(4,[5,0]),(5,[20,5,0]),(6,[5,0]),(7,[4]),(8,[26,1,0]),(9,[7,6,1,0]),(10,[32,6,1,0]),(11,[8,6,0]),(12,[36,8,6,0]),(13,[8,6,0]),(14,[42,8,6,0]),(15,[4]),(16,[4]),(17,[45,1]),(18,[47,46,45,1]),(19,[45,10,9,1]),(20,[53,45,9,1]),(21,[4]),(22,[4])] [(12,[8,6,0]),(18,[45,1])]),
 (45,Zw [] [] [] [] [(0,[1,0]),(1,[7,0]),(2,[8,7,0]),(3,[9,8,7,0]),(4,[9,8,7,0]),(5,[26,9,8,7,0]),(6,[33,9,8,7,0]),(7,[11,9,8,7,0]),(8,[43,11,9,8,7,0]),(9,[4]),(10,[9,8,7,0]),(11,[12,9,8,7,0]),(12,[51,12,9,8,7,0]),(13,[12,9,8,7,0]),(14,[64,12,9,8,7,0]),(15,[4]),(16,[10,9,8,7,0]),(17,[10,9,8,7,0]),(18,[98,9,8,7,0]),(19,[4]),(20,[13,9,8]),(21,[108,13,9,8]),(22,[4]),(23,[14,9,8,7,0]),(24,[15,14,9,8,7,0]),(25,[124,15,14,9,8,7,0]),(26,[15,14,9,8,7,0]),(27,[139,15,14,9,8,7,0]),(28,[16,15,14,9,8,7,0]),(29,[143,16,15,14,9,8,7,0]),(30,[16,15,14,9,8,7,0]),(31,[156,16,15,14,9,8,7,0]),(32,[4]),(33,[4]),(34,[160,1,0]),(35,[4]),(36,[171,1,0]),(37,[175]),(38,[177,176,175]),(39,[175,6,5]),(40,[181,175,5]),(41,[4]),(42,[4]),(43,[183,1,0]),(44,[4])] [(5,[9,8,7,0]),(12,[12,9,8,7,0]),(25,[15,14,9,8,7,0]),(29,[16,15,14,9,8,7,0]),(38,[175])]),
 (41,Zw [] [] [] [] [(0,[1,0]),(1,[4])] []),
 (60,Zw [] [] [] [] [(0,[3,2,1,0]),(1,[13,3,2,1,0]),(2,[8]),(3,[15,3,2,1,0]),(4,[8]),(5,[20,3,2,1,0]),(6,[3,2,1,0]),(7,[3,2,1,0]),(8,[9,3,2,1,0]),(9,[9,3,2,1,0]),(10,[10,9,3,2,1,0]),(11,[36,10,9,3,2,1,0]),(12,[11,10,9,3,2,1,0]),(13,[41,11,10,9,3,2,1,0]),(14,[11,10,9,3,2,1,0]),(15,[10,9,3,2,1,0]),(16,[10,9,3,2,1,0]),(17,[10,9]),(18,[8])] [(11,[10,9,3,2,1,0])]),
 (47,Zw [] [] [] [] [(0,[2,0]),(1,[4,2,0]),(2,[9,4,2,0]),(3,[4,2,0]),(4,[5,4,2,0]),(5,[16,5,4,2,0]),(6,[3,2]),(7,[4,2,0]),(8,[3,2])] [(2,[4,2,0])]),
 (46,Zw [] [] [] [] [(0,[0]),(1,[2])] []),
 (14,Zw [] [] [] [] [(0,[2,1,0]),(1,[7,1,0]),(2,[7,1,0]),(3,[16,7,1,0]),(4,[1,0]),(5,[6])] []),
 (3,Zw [] [] [(7,1,true),(5,2,false)] [] [(0,[2,1,0]),(1,[7,2,1,0]),(2,[26,7,2,1,0]),(3,[6]),(4,[29,7,2,1,0]),(5,[7,2,1,0]),(6,[7,2,1,0]),(7,[8,7,2,1,0]),(8,[37,8,7,2,1,0]),(9,[8,7,2,1,0]),(10,[8,7,2,1,0]),(11,[9,7,2,1]),(12,[10,9,7,2,1]),(13,[11,10,9,7,2,1]),(14,[51,11,10,9,7,2,1]),(15,[11,10,9,7,2,1]),(16,[13,12,11,10,9,7,2,1]),(17,[74,12,11,10,9,7,2,1]),(18,[6]),(19,[11,10,9,7,2,1]),(20,[15,14,9,7,2,1]),(21,[16,15,14,9,7,2,1]),(22,[17,16,15,14,9,7,2,1]),(23,[89,17,16,15,14,9,7,2,1]),(24,[17,16,15,14,9,7,2,1]),(25,[17,16,15,14,9,7,2,1]),(26,[19,16,15,14,9,2]),(27,[6])] [(8,[8,7,2,1,0]),(14,[11,10,9,7,2,1]),(23,[17,16,15,14,9,7,2,1])]),
 (4,Zw [] [] [(13,1,true),(7,1,true),(12,1,true),(5,2,false)] [] [(0,[1,0]),(1,[5,1,0]),(2,[17,5,1,0]),(3,[4]),(4,[6,5,1,0]),(5,[7,6,5,1,0]),(6,[25,7,6,5,1,0]),(7,[7,6,5,1,0]),(8,[7,6,5,1,0]),(9,[7,6,5,1,0]),(10,[46,7,6,5,1,0]),(11,[7,6,5,1,0]),(12,[58,6,5,1]),(13,[4]),(14,[61,6,5,1]),(15,[4]),(16,[8,6,5]),(17,[9,8,6,5]),(18,[88,9,8,6,5]),(19,[4]),(20,[9,8,6,5]),(21,[10,9,8,6,5]),(22,[10,9,5]),(23,[4])] [(6,[7,6,5,1,0])]),
 (6,Zw [] [] [(7,1,true),(5,2,false)] [] [(0,[]),(1,[1]),(2,[8,1]),(3,[0]),(4,[1]),(5,[1]),(6,[3,2,1]),(7,[5,4,3,2,1]),(8,[0])] []),
 (10,Zw [] [] [] [] [(0,[1,0]),(1,[5,1,0]),(2,[9,5,1,0]),(3,[5,1,0]),(4,[17,5,1,0]),(5,[4]),(6,[4])] [(2,[5,1,0])]),
 (11,Zw [] [] [] [] [(0,[1,0]),(1,[10,1,0]),(2,[4]),(3,[5,1,0]),(4,[14,5,1,0]),(5,[5,1,0]),(6,[25,5,1,0]),(7,[4]),(8,[4])] [(4,[5,1,0])]),
 (31,Zw [] [] [] [] [(0,[0]),(1,[3,0]),(2,[11,10,9,3,0]),(3,[12,11,10,9,3,0]),(4,[11,10,9,5,4,3,0]),(5,[11,10,9,6,5,3,0]),(6,[34,11,10,9,3,0]),(7,[2]),(8,[11,10,9,3,0]),(9,[2])] [(3,[11,10,9,3,0])]),
 (34,Zw [] [] [] [] [(0,[0]),(1,[2])] []),
 (26,Zw [] [] [] [] [(0,[1,0]),(1,[16,1,0]),(2,[4]),(3,[6,5,1]),(4,[35,6,5]),(5,[4]),(6,[38,37,36,6,5]),(7,[39,38,37,36,6,5]),(8,[38,37,36,8,7,6,5]),(9,[43,38,37,36,8,7,6,5]),(10,[4]),(11,[46,38,37,36,6,5]),(12,[4]),(13,[38,37,36,6,5]),(14,[4])] [(7,[38,37,36,6,5])]),
 (33,Zw [] [] [] [] [(0,[0]),(1,[2])] []),
 (16,Zw [] [] [] [] [(0,[0]),(1,[6,5,0]),(2,[7,6,3,2,0]),(3,[48,3,2]),(4,[4,3,2]),(5,[4,3,2])] []),
 (29,Zw [] [] [] [] [(0,[0]),(1,[2])] []),
 (67,Zw [] [] [] [] [(0,[0]),(1,[3,0]),(2,[2]),(3,[10]),(4,[2]),(5,[2])] []),
 (1000000,{})]
def ann:Nat->Ann:=Zcy {} Zx8
def ZrO:List (Nat×Bool):=[
 (22,true),
 (1000000,false)]
def BY:Nat->Bool:=Zcy false ZrO
noncomputable def CF:Nat->Option Zac:=Ze4 Tryd.prog ann
noncomputable def FC:Nat->Option Zac:=fun f=>(CF f).map Zfz
def ZiM:List (Nat×Option (List AVal->Za->Option (AVal×Za))):=[
 (18,some (Zfh 1 16)),
 (23,some (Zis)),
 (66,some (ZfW)),
 (61,some (ZfW)),
 (75,some (Zg8)),
 (44,some (ZhA)),
 (1000000,none)]
def PR:ZaK:=Zcy none ZiM
theorem xw (c d:Zl) (h:c=d) (m:Nat) (tm:Tms) (σ:Za):evC FC PR BY m c tm σ=evC FC PR BY m d tm σ:=by rw [h]
noncomputable abbrev E:Zq:=EV FC PR BY
theorem Zbo {f:Nat} {fn:Zac} (hp:PR f=none) (hf:FC f=some fn) (args:List AVal) (σ:Za):E f args σ=Zax σ.length fn (evC FC PR BY σ.length fn.body (enterA 0 args []) σ):=ZjY hp hf args σ
end
end Go.Proofs.YtagamgebijflnaaDoor
