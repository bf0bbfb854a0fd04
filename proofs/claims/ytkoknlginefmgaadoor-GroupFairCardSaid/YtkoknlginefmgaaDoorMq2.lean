/- packed -/
import Derived.Test.YtkoknlginefmgaaDoorMq1
import Derived.Scope
import Derived.Laws.Cover3
import Derived.Defers
import Derived.Recover
import Derived.Tactics
import Derived.Maps.RangeRun
import Derived.Lib.Index
import Derived.Shelf.Unicode.ValidAny
import Derived.Shelf.Strings.Count
import Derived.Test.YtkoknlginefmgaaDoorProg
import Derived.Deep.Slices
import Derived.ChangeArms
import Derived.WideShapes
import GoSem.ClaimChange
import Derived.Shelf.Small.Strs
import Derived.Shelf.Strings.Search1
set_option linter.defProp false
set_option linter.unusedSectionVars false
set_option linter.unusedSimpArgs false
set_option linter.unusedVariables false
open Option.some renaming injEq→Xa
open Prod.mk renaming injEq→Xb
open Bool renaming and_eq_true→Xc,false_eq_true→Xo,or_eq_true→Wp,and_self→Ww,not_eq_true'→Wx,true_or→WQ,false_and→Xaw,true_and→Xaz,or_true→XaC
open List renaming getD_eq_getElem?_getD→Xd,getElem?_eq_some_iff→Xe,getElem?_set→Xh,mem_append→Xl,all_eq_true→Xp,mem_of_getElem?→Xu,replicate→Xx,getElem?_eq_getElem→Xy,map_cons→XC,mem_cons→XE,mem_map→XF,eq_nil_of_length_eq_zero→XJ,getElem?_eq_none→XN,append_nil→XS,map_nil→XT,getElem?_map→XY,mem_singleton→X0,all_cons→X2,mem_filter→X3,pairwise_append→X6,range→X8,map_append→Wa,getD_cons_zero→Wb,getElem?_append_left→Wg,cons_append→Wl,mem_range→Wm,nil_append→Wo,pairwise_cons→Wq,isEmpty_nil→Wu,length_nil→Wz,all_nil→WH,nodup_append→WT,range'→WW,map_map→WY,nodup_range→Xab,contains_eq_mem→Xae,mapM_cons→Xal,flatMap_nil→Xao,nodup_cons→Xas
open Option renaming map_eq_some_iff→Xf,map_some→XK,map→WU
open Or renaming inl→Xn,inr→Xv
open Array renaming getElem?_eq_some_iff→Xz,length_toList→XA,getElem?_setIfInBounds_ne→XX,getD_eq_getD_getElem?→X9,replicate→WP,getD→WS
open Nat renaming zero_add→XG,le_refl→XL,add_zero→XU,add_assoc→Wi,le_max_right→Wv,le_max_left→WA,zero_mul→Xar
open ByteArray renaming size→Wd
open Ne renaming symm→WI
open List.cons renaming injEq→W2
namespace Go.Proofs.YtkoknlginefmgaaDoor
set_option maxHeartbeats 16000000
set_option maxRecDepth 10000
section
open Go.RowKit
section
variable {P:Program} {O:Zo} {bf:Nat->Bool} {an:Ann} {base:Nat->Prop} {w0:World} {I0:Imm} {dr:Door}
theorem Zqn {o:AOp} {tm tm1:Tms} {σ σ1:Za} {sq:Nat} {v:AVal} {c:Cls} (ht:o.ins.touches=false) (h:Zd O bf o sq tm σ=some (v,tm1,σ1,c)):c={}:=by
 unfold Zd at h
 split at h
 ·cases h
 ·simp only [Xa,Xb] at h;exact h.2.2.2.symm
 ·split at h
  ·split at h
   ·rename_i he
    simp only [Xa,Xb] at h
    rw [<-h.2.2.2]
    exact (ZlI ht he).1
   ·cases h
  ·cases h
theorem Ze7 {i:Ins} (h:i.touches=false):nsite i=0:=by cases i <;> simp [Ins.touches] at h <;> rfl
theorem Zd9 {asl:List AOp} {L:Nat} {cs:List Cls}:∀ {l:List Nat} {tm tm':Tms} {σ σ':Za},Zbp O bf asl L cs l tm σ tm' σ'->∀ j ∈ l,(asl.getD j default).ins.touches=false->cs.getD j {}={}
 | [],_,_,_,_,_,j,hj,_=>by simp at hj
 | i::l,_,_,_,_,h,j,hj,ht=>by
  cases h with
  | cons h1 _ h2 =>
   rcases XE.1 hj with rfl | hj
   ·exact Zqn ht h1
   ·exact Zd9 h2 j hj ht
theorem ZdZ (asl:List AOp):∀ {j i:Nat},j < i->i<=asl.length->sitesOf (asl.take j)+nsite (asl.getD j default).ins<=sitesOf (asl.take i):=by
 intro j i hji hi
 induction i with
 | zero=>omega
 | succ i ih =>
  rw [Zht asl (by omega)]
  by_cases e:j=i
  ·subst e
   simp [Xd,show j < asl.length by omega]
  ·have:=ih (by omega) (by omega);omega
theorem Zwq (hO:ZI P O) (hkp:∀ n ∈ dr.K,n ∈ an.keep) (hb:KLt base w0) {ops:Array Oper} {asl:List AOp} (hcomp:Za3 P an ops ops.toList=some asl) {ps:List (Nat×Nat)} (hps:Zcu asl=some ps) {L:Nat} {cs:List Cls} (hchk:ZbK asl L ps cs=true)
  {tmF:Tms} {σF:Za} {Q:Exit->Act->World->Prop} {I:Imm} {β:Bmap} (hQ:∀ a' w',StR dr an.nt base w0 I0 I β tmF σF a' w'->Q .normal a' w') :
  ∀ (fuel:Nat) (rem:List Nat) (listed:Array Bool) (a:Act) (w:World) (tm:Tms) (σ:Za),Zbp O bf asl L cs rem tm σ tmF σF->rem.Pairwise (· < ·)->(∀ j ∈ rem,j < ops.size)->(∀ j,j < ops.size->(listed.getD j true=true↔j ∉ rem))->listed.size=ops.size ->
   (∀ k,k < ops.size->k ∉ rem->∀ p ∈ (ZaT (asl.map (·.after)) []).getD k [],p ∉ rem)->rem.length=fuel->StR dr an.nt base w0 I0 I β tm σ a w->wpAny P .any ops Q fuel listed a w:=by
 obtain ⟨hlen,hget⟩:=ZeR hcomp
 obtain ⟨hp1,hp2⟩:=ZiE hps
 obtain ⟨_,_,hanc⟩:=ZgZ (asl.map (·.after)) [] (fun _ _ _=>trivial)
 simp only [XA] at hlen
 have hafter:∀ j o,ops[j]?=some o->∃ ao,asl.getD j default=ao/\Zdq P an ops o=some ao/\ao.after=(o.after.toList.filter (Region.binds .any)).map (·.on)/\ao.dst=o.dst:=by
  intro j o ho
  obtain ⟨ao,h1,h2⟩:=hget j o (by simpa using ho)
  refine ⟨ao,by simp [Xd,h1],h2,?_⟩
  obtain ⟨g,i,_,_,_,rfl⟩:=Zia h2
  exact ⟨rfl,rfl⟩
 intro fuel
 induction fuel with
 | zero =>
  intro rem listed a w tm σ hr hs hlt hl hsz hcl hfl hst
  have : rem=[]:=XJ hfl
  subst this
  cases hr
  refine ⟨?_,hQ a w hst⟩
  apply List.eq_nil_iff_forall_not_mem.2
  intro j hj
  rw [mem_ready] at hj
  obtain ⟨h1,o,ho,_⟩:=hj
  have hjl:j < ops.size:=(Xz.1 ho).1
  have:=(hl j hjl).2 (by simp)
  rw [h1] at this;cases this
 | succ fuel ih =>
  intro rem listed a w tm σ hr hs hlt hl hsz hcl hfl hst
  have isRem:∀ j,j < ops.size->listed.getD j true=false->j ∈ rem:=by
   intro j hj h
   by_cases hm:j ∈ rem
   ·exact hm
   ·have:=(hl j hj).2 hm;rw [h] at this;cases this
  have getD_tf:∀ j,j < ops.size->listed.getD j false=listed.getD j true:=by
   intro j hj
   simp [WS,hsz,hj]
  refine ⟨fun hnil=>?_,fun i hi=>?_⟩
  ·exfalso
   cases rem with
   | nil=>simp at hfl
   | cons r rs =>
    have hrl:r < ops.size:=hlt r (by simp)
    have hro:ops[r]?=some ops[r]:=by simp [hrl]
    obtain ⟨ao,e1,e2,e3,_⟩:=hafter r _ hro
    have : r ∈ Region.ready .any ops listed:=by
     rw [mem_ready]
     refine ⟨?_,ops[r],hro,fun e he hbnd=>?_⟩
     ·cases hq:listed.getD r true with
      | false=>rfl
      | true=>exact absurd (List.mem_cons_self) ((hl r hrl).1 hq)
     ·have hon:e.on ∈ ao.after:=by rw [e3];exact XF.2 ⟨e,X3.2 ⟨by simpa using he,hbnd⟩,rfl⟩
      have hlt':e.on < r:=hp2 r (by omega) e.on (by rw [e1];exact hon)
      rw [getD_tf _ (by omega)]
      refine (hl e.on (by omega)).2 (fun hm=>?_)
      rcases XE.1 hm with h | hm
      ·omega
      ·have:=(Wq.1 hs).1 e.on hm;omega
    rw [hnil] at this;simp at this
  ·rw [mem_ready] at hi
   obtain ⟨hi0,o,ho,hpre⟩:=hi
   have hil:i < ops.size:=(Xz.1 ho).1
   have him:=isRem i hil hi0
   obtain ⟨l1,l2,rfl⟩:=List.append_of_mem him
   obtain ⟨ao,e1,e2,e3,e4⟩:=hafter i o ho
   have hdone:∀ p ∈ (asl.getD i default).after,p < ops.size->p ∉ l1++i::l2:=by
    intro p hp hpl
    rw [e1,e3] at hp
    obtain ⟨e,he,rfl⟩:=XF.1 hp
    obtain ⟨he1,he2⟩:=X3.1 he
    have:=hpre e (by simpa using he1) he2
    rw [getD_tf _ hpl] at this
    exact (hl e.on hpl).1 this
   have hai:(asl.map (·.after)).getD i []=(asl.getD i default).after:=by
    simp [Xd,show i < asl.length by omega]
   have hanci:∀ p ∈ (ZaT (asl.map (·.after)) []).getD i [],p ∉ l1++i::l2:=by
    intro p hp
    have hap:∀ q,q ∈ (asl.map (·.after)).getD i []->q < i:=fun q hq=>hp2 i (by omega) q (by rw [<-hai];exact hq)
    rcases hanc i (by simp;omega) p (by simpa using hp) with h | ⟨q,h1,h2,h3⟩
    ·exact hdone p (by rw [<-hai];exact h) (by have:=hap p h;omega)
    ·have hql:q < ops.size:=by simp at h2;omega
     exact hcl q hql (hdone q (by rw [<-hai];exact h1) hql) p h3
   have hl1:∀ j ∈ l1,j < i:=by
    intro j hj
    have:=X6.1 hs
    exact this.2.2 j hj i (by simp)
   obtain ⟨v1,tm1,σ1,h1,hnp1,h2⟩:=Zhc (l1:=l1) (i:=i) (fun j hj=>by
    have hji:=hl1 j hj
    have hjn:j ∉ (ZaT (asl.map (·.after)) []).getD i []:=fun hm=>hanci j hm (by simp [hj])
    obtain ⟨p1,p2⟩:=hp1 j i hji (by omega) hjn
    refine ⟨p1,?_,fun hn _=>?_,?_⟩
    ·rcases p2 with p2 | p2 | p2
     ·have:=Zd9 hr j (by simp [hj]) p2
      have hem:Zba (asl.getD j default) (cs.getD j {})=true:=by rw [this];simp only [Zba,Ze7 p2];rfl
      simp only [Zbl,hem,WQ]
     ·have:=Zd9 hr i (by simp) p2
      have hem:Zba (asl.getD i default) (cs.getD i {})=true:=by rw [this];simp only [Zba,Ze7 p2];rfl
      simp only [Zbl,hem,WQ,XaC]
     ·have:=Xp.1 hchk (j,i) p2
      simp only [Wp,beq_iff_eq] at this
      rcases this with h | h
      ·omega
      ·exact h
    ·have:=ZdZ asl hji (by omega)
     omega
    ·have:=ZdZ asl hji (by omega)
     omega) hr
   unfold wpOp
   rw [ho]
   rw [e1] at h1
   obtain ⟨I',β',g1,g2,g3,g4,g5⟩:=hst
   refine Zed hO hkp e2 g3 g4 g5 hb h1 (fun _ a' w' hs'=>ih (l1++l2) _ a' w' tm1 σ1 h2 ?_ ?_ ?_ (by simpa using hsz) ?_ ?_ (hs'.trans g1 g2)) (fun x e=>absurd e (hnp1 x))
   ·have:=X6.1 hs
    exact X6.2 ⟨this.1,(Wq.1 this.2.1).2,fun x hx y hy=>this.2.2 x hx y (by simp [hy])⟩
   ·intro j hj
    refine hlt j ?_
    simp only [Xl,XE] at hj ⊢
    rcases hj with h | h
    ·exact Xn h
    ·exact Xv (Xv h)
   ·intro j hj
    have hs1:=X6.1 hs
    by_cases hij:i=j
    ·subst hij
     have hn:i ∉ l1++l2:=by
      intro hm
      rcases Xl.1 hm with h | h
      ·have:=hl1 i h;omega
      ·have:=(Wq.1 hs1.2.1).1 i h;omega
     simp [WS,hsz,hil,hn]
    ·rw [getD_set_ne true hij,hl j hj]
     simp only [Xl,XE,not_or]
     constructor
     ·rintro ⟨a1,_,a3⟩;exact ⟨a1,a3⟩
     ·rintro ⟨a1,a3⟩;exact ⟨a1,fun e=>hij e.symm,a3⟩
   ·intro k hk hkn p hp hm
    have hsub:p ∈ l1++i::l2:=by
     simp only [Xl,XE] at hm ⊢
     rcases hm with h | h
     ·exact Xn h
     ·exact Xv (Xv h)
    by_cases hki:k=i
    ·subst hki;exact hanci p hp hsub
    ·refine hcl k hk (fun hkm=>hkn ?_) p hp hsub
     simp only [Xl,XE] at hkm ⊢
     rcases hkm with h | h | h
     ·exact Xn h
     ·exact absurd h hki
     ·exact Xv h
   ·simp at hfl ⊢;omega
theorem ZnK (hO:ZI P O) (hkp:∀ n ∈ dr.K,n ∈ an.keep) (hb:KLt base w0) {ops:Array Oper} {asl:List AOp} (hcomp:Za3 P an ops ops.toList=some asl) {ps:List (Nat×Nat)} (hps:Zcu asl=some ps) {L:Nat} {cs:List Cls} {jp:Nat} (hjl:jp < ops.size) (hmark:(jp,jp) ∈ ps) (hmarkT:(asl.getD jp default).ins.touches=true) (hfree:∀ j i,(j,i) ∈ ps->j < i->i<=jp->Zbl (asl.getD j default) (asl.getD i default) (cs.getD j {}) (cs.getD i {}) (L+sitesOf (asl.take j))=true) (hquiet:∀ j,(j,jp) ∈ ps->j < jp->Zbn (asl.getD j default).ins=true)
  {x:AVal} {σF:Za} {Q:Exit->Act->World->Prop} {I:Imm} {β:Bmap} (hQ:∀ a' u w',dr.ok a'->Post base w0 I0 I β x σF u w'->Q (.panic [{ v:=u,recovered:=false }]) a' w') :
  ∀ (fuel:Nat) (pre post:List Nat) (listed:Array Bool) (a:Act) (w:World) (tm tmJ tmX:Tms) (σ σJ:Za),Zbp O bf asl L cs pre tm σ tmJ σJ->Zd O bf (asl.getD jp default) (L+sitesOf (asl.take jp)) tmJ σJ=some (.pan x,tmX,σF,cs.getD jp {})->(pre++jp::post).Pairwise (· < ·)->(∀ j ∈ pre++jp::post,j < ops.size)->(∀ j,j < ops.size->(listed.getD j true=true↔j ∉ pre++jp::post))->listed.size=ops.size ->
   (∀ k,k < ops.size->k ∉ pre++jp::post->∀ p ∈ (ZaT (asl.map (·.after)) []).getD k [],p ∉ pre++jp::post)->(pre++jp::post).length=fuel->StR dr an.nt base w0 I0 I β tm σ a w->wpAny P .any ops Q fuel listed a w:=by
 obtain ⟨hlen,hget⟩:=ZeR hcomp
 obtain ⟨hp1,hp2⟩:=ZiE hps
 have hmk:=Zq1 hps hmark
 obtain ⟨_,_,hanc⟩:=ZgZ (asl.map (·.after)) [] (fun _ _ _=>trivial)
 simp only [XA] at hlen
 have hafter:∀ j o,ops[j]?=some o->∃ ao,asl.getD j default=ao/\Zdq P an ops o=some ao/\ao.after=(o.after.toList.filter (Region.binds .any)).map (·.on)/\ao.dst=o.dst:=by
  intro j o ho
  obtain ⟨ao,h1,h2⟩:=hget j o (by simpa using ho)
  refine ⟨ao,by simp [Xd,h1],h2,?_⟩
  obtain ⟨g,i,_,_,_,rfl⟩:=Zia h2
  exact ⟨rfl,rfl⟩
 intro fuel
 induction fuel with
 | zero =>
  intro pre post listed a w tm tmJ tmX σ σJ hr hj hs hlt hl hsz hcl hfl hst
  simp at hfl
 | succ fuel ih =>
  intro pre post listed a w tm tmJ tmX σ σJ hr hj hs hlt hl hsz hcl hfl hst
  have getD_tf:∀ j,j < ops.size->listed.getD j false=listed.getD j true:=by
   intro j hj
   simp [WS,hsz,hj]
  have isRem:∀ j,j < ops.size->listed.getD j true=false->j ∈ pre++jp::post:=by
   intro j hj h
   by_cases hm:j ∈ pre++jp::post
   ·exact hm
   ·have:=(hl j hj).2 hm;rw [h] at this;cases this
  refine ⟨fun hnil=>?_,fun i hi=>?_⟩
  ·exfalso
   obtain ⟨r,rs,hrr⟩:∃ r rs,pre++jp::post=r::rs:=by cases pre <;> simp
   rw [hrr] at hs hlt hl
   have hrl:r < ops.size:=hlt r (by simp)
   have hro:ops[r]?=some ops[r]:=by simp [hrl]
   obtain ⟨ao,e1,e2,e3,_⟩:=hafter r _ hro
   have : r ∈ Region.ready .any ops listed:=by
    rw [mem_ready]
    refine ⟨?_,ops[r],hro,fun e he hbnd=>?_⟩
    ·cases hq:listed.getD r true with
     | false=>rfl
     | true=>exact absurd (List.mem_cons_self) ((hl r hrl).1 hq)
    ·have hon:e.on ∈ ao.after:=by rw [e3];exact XF.2 ⟨e,X3.2 ⟨by simpa using he,hbnd⟩,rfl⟩
     have hlt':e.on < r:=hp2 r (by omega) e.on (by rw [e1];exact hon)
     rw [getD_tf _ (by omega)]
     refine (hl e.on (by omega)).2 (fun hm=>?_)
     rcases XE.1 hm with h | hm
     ·omega
     ·have:=(Wq.1 hs).1 e.on hm;omega
   rw [hnil] at this;simp at this
  ·rw [mem_ready] at hi
   obtain ⟨hi0,o,ho,hpre⟩:=hi
   have hil:i < ops.size:=(Xz.1 ho).1
   have him:=isRem i hil hi0
   obtain ⟨ao,e1,e2,e3,e4⟩:=hafter i o ho
   have hdone:∀ p ∈ (asl.getD i default).after,p < ops.size->p ∉ pre++jp::post:=by
    intro p hp hpl
    rw [e1,e3] at hp
    obtain ⟨e,he,rfl⟩:=XF.1 hp
    obtain ⟨he1,he2⟩:=X3.1 he
    have:=hpre e (by simpa using he1) he2
    rw [getD_tf _ hpl] at this
    exact (hl e.on hpl).1 this
   have hai:(asl.map (·.after)).getD i []=(asl.getD i default).after:=by
    simp [Xd,show i < asl.length by omega]
   have hanci:∀ p ∈ (ZaT (asl.map (·.after)) []).getD i [],p ∉ pre++jp::post:=by
    intro p hp
    have hap:∀ q,q ∈ (asl.map (·.after)).getD i []->q < i:=fun q hq=>hp2 i (by omega) q (by rw [<-hai];exact hq)
    rcases hanc i (by simp;omega) p (by simpa using hp) with h | ⟨q,h1,h2,h3⟩
    ·exact hdone p (by rw [<-hai];exact h) (by have:=hap p h;omega)
    ·have hql:q < ops.size:=by simp at h2;omega
     exact hcl q hql (hdone q (by rw [<-hai];exact h1) hql) p h3
   have hss:=X6.1 hs
   rw [Xl,XE] at him
   rcases him with him | hij | him
   ·obtain ⟨l1,l2,rfl⟩:=List.append_of_mem him
    have hl1:∀ j ∈ l1,j < i:=by
     intro j hj
     exact (X6.1 hss.1).2.2 j hj i (by simp)
    have hijp:i < jp:=hss.2.2 i (by simp) jp (by simp)
    obtain ⟨v1,tm1,σ1,h1,hnp1,h2⟩:=Zhc (l1:=l1) (i:=i) (fun j hj'=>by
     have hji:=hl1 j hj'
     have hjn:j ∉ (ZaT (asl.map (·.after)) []).getD i []:=fun hm=>hanci j hm (by simp [hj'])
     obtain ⟨p1,p2⟩:=hp1 j i hji (by omega) hjn
     refine ⟨p1,?_,fun hn _=>?_,?_⟩
     ·rcases p2 with p2 | p2 | p2
      ·have:=Zd9 hr j (by simp [hj']) p2
       have hem:Zba (asl.getD j default) (cs.getD j {})=true:=by rw [this];simp only [Zba,Ze7 p2];rfl
       simp only [Zbl,hem,WQ]
      ·have:=Zd9 hr i (by simp) p2
       have hem:Zba (asl.getD i default) (cs.getD i {})=true:=by rw [this];simp only [Zba,Ze7 p2];rfl
       simp only [Zbl,hem,WQ,XaC]
      ·exact hfree j i p2 hji (by omega)
     ·have:=ZdZ asl hji (by omega)
      omega
     ·have:=ZdZ asl hji (by omega)
      omega) hr
    have eA:(l1++i::l2)++jp::post=l1++i::(l2++jp::post):=by simp
    have eB:(l1++l2)++jp::post=l1++(l2++jp::post):=by simp
    rw [eA] at hs hlt hl hcl hanci hfl
    unfold wpOp
    rw [ho]
    rw [e1] at h1
    obtain ⟨I',β',g1,g2,g3,g4,g5⟩:=hst
    refine Zed hO hkp e2 g3 g4 g5 hb h1 (fun _ a' w' hs'=>ih (l1++l2) post _ a' w' tm1 tmJ tmX σ1 σJ h2 hj ?_ ?_ ?_ (by simpa using hsz) ?_ ?_ (hs'.trans g1 g2)) (fun x e=>absurd e (hnp1 x))
    ·rw [eB]
     have:=X6.1 hs
     exact X6.2 ⟨this.1,(Wq.1 this.2.1).2,fun x hx y hy=>this.2.2 x hx y (by simp only [XE];exact Xv hy)⟩
    ·intro j hj
     rw [eB] at hj
     refine hlt j ?_
     simp only [Xl,XE] at hj ⊢
     rcases hj with h | h | h | h
     ·exact Xn h
     ·exact Xv (Xv (Xn h))
     ·exact Xv (Xv (Xv (Xn h)))
     ·exact Xv (Xv (Xv (Xv h)))
    ·intro j hj
     rw [eB]
     generalize l2++jp::post=L2 at *
     have hs1:=X6.1 hs
     by_cases hij:i=j
     ·subst hij
      have hn:i ∉ l1++L2:=by
       intro hm
       rcases Xl.1 hm with h | h
       ·have:=hl1 i h;omega
       ·have:=(Wq.1 hs1.2.1).1 i h;omega
      simp [WS,hsz,hil,hn]
     ·rw [getD_set_ne true hij,hl j hj]
      simp only [Xl,XE,not_or]
      constructor
      ·rintro ⟨a1,_,a3⟩;exact ⟨a1,a3⟩
      ·rintro ⟨a1,a3⟩;exact ⟨a1,fun e=>hij e.symm,a3⟩
    ·intro k hk hkn p hp hm
     rw [eB] at hkn hm
     generalize l2++jp::post=L2 at *
     have hsub:p ∈ l1++i::L2:=by
      simp only [Xl,XE] at hm ⊢
      rcases hm with h | h
      ·exact Xn h
      ·exact Xv (Xv h)
     by_cases hki:k=i
     ·subst hki;exact hanci p hp hsub
     ·refine hcl k hk (fun hkm=>hkn ?_) p hp hsub
      simp only [Xl,XE] at hkm ⊢
      rcases hkm with h | h | h
      ·exact Xn h
      ·exact absurd h hki
      ·exact Xv h
    ·rw [eB];simp at hfl ⊢;omega
   ·subst hij
    have hl1:∀ j ∈ pre,j < i:=fun j hj=>hss.2.2 j hj i (by simp)
    obtain ⟨tm1,h1⟩:=Zim (l1:=pre) (i:=i) (fun j hj'=>by
     have hji:=hl1 j hj'
     have hjn:j ∉ (ZaT (asl.map (·.after)) []).getD i []:=fun hm=>hanci j hm (by simp [hj'])
     obtain ⟨p1,p2⟩:=hp1 j i hji (by omega) hjn
     have hts:(asl.getD i default).ins.touches=false->False:=fun h=>by
      have:=hmarkT
      rw [h] at this;cases this
     refine ⟨?_,p1,?_,fun hn _=>?_,?_⟩
     ·rcases p2 with p2 | p2 | p2
      ·exact Xn p2
      ·exact (hts p2).elim
      ·exact Xv (hquiet j p2 hji)
     ·rcases p2 with p2 | p2 | p2
      ·have:=Zd9 hr j hj' p2
       have hem:Zba (asl.getD j default) (cs.getD j {})=true:=by rw [this];simp only [Zba,Ze7 p2];rfl
       simp only [Zbl,hem,WQ]
      ·exact (hts p2).elim
      ·exact hfree j i p2 hji (XL _)
     ·have:=ZdZ asl hji (by omega)
      omega
     ·have:=ZdZ asl hji (by omega)
      omega) hr hj
    unfold wpOp
    rw [ho]
    rw [e1] at h1
    obtain ⟨I',β',g1,g2,g3,g4,g5⟩:=hst
    refine Zed hO hkp e2 g3 g4 g5 hb h1 (fun hn=>absurd rfl (hn x)) (fun x' e u w' hp=>?_)
    injection e with e
    subst e
    exact hQ a u w' g4.1 (hp.trans g1 g2)
   ·exfalso
    have hlt2:jp < i:=(Wq.1 hss.2.1).1 i him
    exact hanci jp (hmk i hlt2 (by omega)) (by simp)
theorem Rel.reserve {I:Imm} {β:Bmap} {σ:Za} {w:World} (R:Rel base w0 I0 I β σ w) (n:Nat):Rel base w0 I0 I β (σ++Xx n .free) w:=by
 have look:∀ t x,(σ++Xx n Zl.free)[t]?=some x->σ[t]?=some x\/(σ.length<=t/\x=.free):=by
  intro t x h
  by_cases ht:t < σ.length
  ·rw [Wg ht] at h;exact Xn h
  ·rw [List.getElem?_append_right (by omega)] at h
   refine Xv ⟨by omega,?_⟩
   have:=Xu h
   exact List.eq_of_mem_replicate this
 refine ⟨R.below,R.old,R.imm,?_,?_,?_,?_,?_,?_,R.glob⟩
 ·intro t x h
  rcases look t x h with h | ⟨_,rfl⟩
  ·exact R.blk t x h
  ·trivial
 ·intro t x b h hb
  rcases look t x h with h | ⟨_,rfl⟩
  ·exact R.own t x b h hb
  ·cases hb
 ·intro t x t' x' b h h' hb hb'
  rcases look t x h with h | ⟨_,rfl⟩
  ·rcases look t' x' h' with h' | ⟨_,rfl⟩
   ·exact R.apart t x t' x' b h h' hb hb'
   ·cases hb'
  ·cases hb
 ·intro t g h
  exact R.fresh t g (by simp at h;omega)
 ·intro t g h
  rcases look t _ h with h | ⟨h,_⟩
  ·exact R.free t g h
  ·exact R.fresh t g h
 ·intro t x g h hg
  rcases look t _ h with h | ⟨h,_⟩
  ·exact R.gen t x g h hg
  ·exact R.fresh t g h
theorem StR.keep {I:Imm} {β:Bmap} {tm:Tms} {σ:Za} {a:Act} {w:World} (h:StR dr an.nt base w0 I0 I β tm σ a w) (live:List Nat):StR dr an.nt base w0 I0 I β (keepL live tm) σ a w:=by
 obtain ⟨I',β',h1,h2,h3,h4⟩:=h
 exact ⟨I',β',h1,h2,h3.keep live,h4⟩
def ZwZ (dr:Door) (an:Ann) (base:Nat->Prop) (w0:World) (I0 I:Imm) (β:Bmap) (e:Z7) (tm:Tms) (σ:Za) (Q:Exit->Act->World->Prop):Prop:=match e with
 | .normal=>∀ a w,StR dr an.nt base w0 I0 I β tm σ a w->Q .normal a w
 | .exit id=>∀ a w,StR dr an.nt base w0 I0 I β tm σ a w->Q (.exit id) a w
 | .ret=>∀ a w,StR dr an.nt base w0 I0 I β tm σ a w->Q .ret a w
 | .panic x=>∀ a u w,dr.ok a->Post base w0 I0 I β x σ u w->Q (.panic [{ v:=u,recovered:=false }]) a w
theorem ZfH (hO:ZI P O) (hkp:∀ n ∈ dr.K,n ∈ an.keep) (hm:P.follows .mixedOrders=true) (hb:KLt base w0) {id:Nat} {ops:Array Oper} {draw:Bool} {asl:List AOp} {chk:Option (List (Nat×Nat))} {live:List Nat} (hc:ZM P an (.region id ops draw)=.region asl chk live) {I:Imm} {β:Bmap} {tm tm':Tms} {σ σ':Za} {a:Act} {w:World} {e:Z7}
  (hst:StR dr an.nt base w0 I0 I β tm σ a w) (h:ZaS O bf asl chk live tm σ=some (e,tm',σ')) {Q:Exit->Act->World->Prop} (hQ:ZwZ dr an base w0 I0 I β e tm' σ' Q):(Code.region id ops draw).wp P Q a w:=by
 obtain ⟨I1,β1,g1,g2,g3,g4,g5⟩:=hst
 simp only [ZM] at hc
 split at hc
 ·rename_i l hl
  unfold ZaS at h
  split at hc
  ·rename_i hd
   subst hd
   split at hc
   ·rename_i ps hps
    simp only [Zg.region.injEq] at hc
    obtain ⟨rfl,rfl,rfl⟩:=hc
    cases hrun:Zm O bf l σ.length tm (σ++Xx (sitesOf l) .free) with
    | none=>rw [hrun] at h;simp only [Zbw] at h;cases h
    | some q =>
     obtain ⟨tm1,σ1,cs,p⟩:=q
     rw [hrun] at h
     cases p with
     | some x =>
      simp only [Zbw] at h
      split at h
      ·rename_i hpan
       simp only [Xa,Xb] at h
       obtain ⟨rfl,rfl,rfl⟩:=h
       have hlen:=(ZeR hl).1
       simp only [XA] at hlen
       obtain ⟨n,tmJ,σJ,tmX,q1,q2,q3,q4⟩:=Zkp (O:=O) (bf:=bf) (ops:=l) (L:=σ.length) l.length 0 (cs:=cs) (cs':=cs) (by omega) (by simpa [sitesOf] using hrun) (fun j=>by simp)
       rw [XG] at q4
       unfold Zcg at hpan
       rw [q2] at hpan
       simp only [Xc,List.any_eq_true,Xp,Wp,beq_iff_eq,decide_eq_true_eq,Nat.add_sub_cancel] at hpan
       obtain ⟨⟨pm,hpm,hm1,hm2⟩,hall⟩:=hpan
       have hmk:(n,n) ∈ ps:=by
        obtain ⟨a1,a2⟩:=pm
        simp only at hm1 hm2
        subst hm1 hm2
        exact hpm
       have hT:(l.getD n default).ins.touches=true:=ZwN hps hmk
       refine wp_region_any hm (ZnK hO hkp hb hl hps (jp:=n) (by omega) hmk hT (fun j i hji h1 h2=>?_) (fun j hj h1=>?_) (I:=I) (β:=β) (x:=x) (fun a' u w' hd' hp=>hQ a' u w' hd' hp) ops.size (WW 0 n) (WW (n+1) (l.length - n - 1)) _ a _ tm tmJ tmX _ σJ q3 q4 ?_ ?_ ?_ (by simp) ?_ (by simp;omega) ⟨I1,β1,g1,g2,g3,g4,(g5.reserve _).same rfl rfl rfl rfl⟩)
       ·rcases hall (j,i) hji with (h | h) | ⟨h,_⟩
        ·simp only at h;omega
        ·simp only at h;omega
        ·exact h
       ·rcases hall (j,n) hj with (h | h) | ⟨_,h⟩
        ·simp only at h;omega
        ·simp only at h;omega
        ·rcases h with h | h
         ·simp only at h;omega
         ·exact h
       ·have e:WW 0 n++n::WW (n+1) (l.length - n - 1)=WW 0 l.length:=by
         rw [<-List.range'_succ]
         have:=List.range'_append_1 (s:=0) (m:=n) (n:=l.length - n - 1+1)
         rw [XG] at this
         rw [this]
         congr 1
         omega
        rw [e];exact List.pairwise_lt_range'
       ·intro j hj;simp at hj;omega
       ·intro j hj
        simp [WS,hj]
        omega
       ·intro k hk hkn
        exact absurd (by simp;omega) hkn
      ·cases h
     | none =>
      simp only [Zbw] at h
      split at h
      ·rename_i hchk
       simp only [Xa,Xb] at h
       obtain ⟨rfl,rfl,rfl⟩:=h
       have hlen:=(ZeR hl).1
       simp only [XA] at hlen
       have hr:=ZkR (O:=O) (bf:=bf) (ops:=l) (L:=σ.length) l.length 0 (cs:=cs) (cs':=cs) (by omega) (by simpa [sitesOf] using hrun) (fun j=>by simp)
       refine wp_region_any hm (Zwq hO hkp hb hl hps hchk (I:=I) (β:=β) (fun a' w' hs=>hQ a' w' (hs.keep _)) ops.size (WW 0 l.length) _ a _ tm _ hr ?_ ?_ ?_ (by simp) ?_ (by simp [hlen]) ⟨I1,β1,g1,g2,g3,g4,(g5.reserve _).same rfl rfl rfl rfl⟩)
       ·exact List.pairwise_lt_range'
       ·intro j hj;simp at hj;omega
       ·intro j hj
        simp [WS,hj,hlen]
       ·intro k hk hkn
        exact absurd (by simp;omega) hkn
      ·cases h
   ·cases hc
  ·rename_i hd
   simp only [Zg.region.injEq] at hc
   obtain ⟨rfl,rfl,rfl⟩:=hc
   have hdf:draw=false:=by cases draw <;> simp_all
   subst hdf
   cases hrun:Zm O bf l σ.length tm (σ++Xx (sitesOf l) .free) with
   | none=>rw [hrun] at h;simp only [Zbw] at h;cases h
   | some q =>
    obtain ⟨tm1,σ1,cs,p⟩:=q
    rw [hrun] at h
    cases p with
    | none =>
     simp only [Zbw,Xa,Xb] at h
     obtain ⟨rfl,rfl,rfl⟩:=h
     exact wp_region_list (Zg9 hO hkp hb hl g3 g4 (g5.reserve _) hrun (fun _ a' w' hs=>hQ a' w' ((hs.trans g1 g2).keep _)) (fun x hx=>by cases hx))
    | some x =>
     simp only [Zbw,Xa,Xb] at h
     obtain ⟨rfl,rfl,rfl⟩:=h
     exact wp_region_list (Zg9 hO hkp hb hl g3 g4 (g5.reserve _) hrun (fun hx=>by cases hx) (fun x' hx a' u w' hd' hp=>by
      injection hx with hx;subst hx
      exact hQ a' u w' hd' (hp.trans g1 g2)))
 ·cases hc
end
end
section
open Go.RowKit
section
variable {P:Program} {O:Zo} {bf:Nat->Bool} {an:Ann} {base:Nat->Prop} {w0:World} {I0:Imm} {dr:Door}
def StF (dr:Door) (m nt:Nat) (base:Nat->Prop) (w0:World) (I0 I:Imm) (β:Bmap) (tm:Tms) (σ:Za) (a:Act) (w:World):Prop :=
 ∃ I' β',I.le I'/\KeptE m β β'/\TR I' β' tm a.tmps/\(dr.ok a/\nt<=a.tmps.size)/\Rel base w0 I0 I' β' σ w
def Zux (dr:Door) (m:Nat) (an:Ann) (base:Nat->Prop) (w0:World) (I0 I:Imm) (β:Bmap) (e:Z7) (tm:Tms) (σ:Za) (Q:Exit->Act->World->Prop):Prop:=match e with
 | .normal=>∀ a w,StF dr m an.nt base w0 I0 I β tm σ a w->Q .normal a w
 | .exit id=>∀ a w,StF dr m an.nt base w0 I0 I β tm σ a w->Q (.exit id) a w
 | .ret=>∀ a w,StF dr m an.nt base w0 I0 I β tm σ a w->Q .ret a w
 | .panic x=>∀ a u w,dr.ok a->ZaQ m base w0 I0 I β (.pan x) σ u w->Q (.panic [{ v:=u,recovered:=false }]) a w
theorem StF.cond {m:Nat} {I:Imm} {β:Bmap} {tm:Tms} {σ:Za} {a:Act} {w:World} (h:StF dr m an.nt base w0 I0 I β tm σ a w) {c:Operand} {y:Opd} (hc:ZB c=some y) {b:Bool} (hv:y.ev tm=.bool b):a.eval c=.bool b:=by
 obtain ⟨I',β',_,_,T,_,_⟩:=h
 have:=ZD T hc
 rw [hv] at this
 simpa only [VR] using this
theorem ZfV (hO:ZI P O) (hkp:∀ n ∈ dr.K,n ∈ an.keep) (hm:P.follows .mixedOrders=true) (hb:KLt base w0) (m n:Nat):∀ {c:Code} {ac:Zg},ZM P an c=ac->∀ {I:Imm} {β:Bmap} {tm tm':Tms} {σ σ':Za} {a:Act} {w:World} {e:Z7},StF dr m an.nt base w0 I0 I β tm σ a w->Zq O bf m n ac tm σ=some (e,tm',σ') ->
  ∀ {Q:Exit->Act->World->Prop},Zux dr m an base w0 I0 I β e tm' σ' Q->c.wp P Q a w:=by
 intro c
 induction c with
 | skip =>
  intro ac hc I β tm tm' σ σ' a w e hst h Q hQ
  simp only [ZM] at hc;subst hc
  simp only [Zq,Xa,Xb] at h
  obtain ⟨rfl,rfl,rfl⟩:=h
  exact wp_skip (hQ a w hst)
 | region id ops draw =>
  intro ac hc I β tm tm' σ σ' a w e hst h Q hQ
  obtain ⟨asl,chk,live,rfl⟩:∃ asl chk live,ac=.region asl chk live:=by
   simp only [ZM] at hc
   split at hc
   ·split at hc
    ·split at hc
     ·exact ⟨_,_,_,hc.symm⟩
     ·subst hc;simp only [Zq] at h;cases h
    ·exact ⟨_,_,_,hc.symm⟩
   ·subst hc;simp only [Zq] at h;cases h
  simp only [Zq] at h
  obtain ⟨I1,β1,g1,g2,g3,g4,g5⟩:=hst
  have up:∀ {tm:Tms} {σ:Za} {a':Act} {w':World},StR dr an.nt base w0 I0 I1 β1 tm σ a' w'->StF dr m an.nt base w0 I0 I β tm σ a' w':=by
   rintro tm σ a' w' ⟨I2,β2,k1,k2,k3⟩
   exact ⟨I2,β2,g1.trans k1,g2.trans (KeptE.of_le k2),k3⟩
  refine ZfH hO hkp hm hb hc (⟨I1,β1,Imm.le.refl I1,Bmap.le.refl β1,g3,g4,g5⟩:StR dr an.nt base w0 I0 I1 β1 tm σ a w) h ?_
  cases e with
  | normal=>exact fun a' w' hs=>hQ a' w' (up hs)
  | exit id=>exact fun a' w' hs=>hQ a' w' (up hs)
  | ret=>exact fun a' w' hs=>hQ a' w' (up hs)
  | panic x =>
   rintro a' u w' hd ⟨I2,β2,k1,k2,k3,k4⟩
   exact hQ a' u w' hd ⟨I2,β2,g1.trans k1,g2.trans (KeptE.of_le k2),k3,k4⟩
 | seq x y ihx ihy =>
  intro ac hc I β tm tm' σ σ' a w e hst h Q hQ
  simp only [ZM] at hc
  subst hc
  simp only [Zq] at h
  refine wp_seq ?_
  split at h
  ·rename_i tm1 σ1 h1
   exact ihx rfl hst h1 (fun a' w' hs=>ihy rfl hs h hQ)
  ·rename_i hne
   refine ihx rfl hst h ?_
   cases e with
   | normal=>exact absurd h (hne _ _)
   | exit id=>exact hQ
   | ret=>exact hQ
   | panic x=>exact hQ
 | cond c x y ihx ihy =>
  intro ac hc I β tm tm' σ σ' a w e hst h Q hQ
  simp only [ZM] at hc
  split at hc
  ·rename_i c' hcc
   subst hc
   simp only [Zq] at h
   split at h
   ·rename_i hv
    exact wp_cond_true (hst.cond hcc hv) (ihx rfl hst h hQ)
   ·rename_i hv
    exact wp_cond_false (hst.cond hcc hv) (ihy rfl hst h hQ)
   ·cases h
  ·subst hc;simp only [Zq] at h;cases h
 | block id x ih =>
  intro ac hc I β tm tm' σ σ' a w e hst h Q hQ
  simp only [ZM] at hc
  subst hc
  have hx:ZM P an x=ZM P an x:=rfl
  simp only [Zq] at h
  refine wp_block ?_
  split at h
  ·rename_i i tm1 σ1 h1
   refine ih hx hst h1 ?_
   intro a' w' hs
   simp only [Exit.inBlock]
   split at h
   ·rename_i hid
    simp only [Xa,Xb] at h
    obtain ⟨rfl,rfl,rfl⟩:=h
    rw [if_pos hid]
    exact hQ a' w' hs
   ·rename_i hid
    simp only [Xa,Xb] at h
    obtain ⟨rfl,rfl,rfl⟩:=h
    rw [if_neg hid]
    exact hQ a' w' hs
  ·rename_i hne
   refine ih hx hst h ?_
   cases e with
   | normal=>exact hQ
   | exit id=>exact absurd h (hne _ _ _)
   | ret=>exact hQ
   | panic x=>exact hQ
 | loop x ih =>
  intro ac hc I β tm tm' σ σ' a w e hst h Q hQ
  simp only [ZM] at hc
  subst hc
  have hx:ZM P an x=ZM P an x:=rfl
  simp only [Zq] at h
  refine wp_loop_rounds n ?_
  have key:∀ k {tm:Tms} {σ:Za} {a:Act} {w:World},StF dr m an.nt base w0 I0 I β tm σ a w->ZbR m (an.ll (Zcy x)) (Zq O bf m n (ZM P an x)) k tm σ=some (e,tm',σ')->Code.rounds P x Q k a w:=by
   intro k
   induction k with
   | zero=>intro tm σ a w _ h;simp only [ZbR] at h;cases h
   | succ k ihk =>
    intro tm σ a w hst h
    rw [rounds_succ]
    simp only [ZbR] at h
    obtain ⟨I1,β1,k1,k2,k3,k4,k5⟩:=hst
    obtain ⟨β2,q1,q2,q3⟩:=ZgY k5 (k3.keep (an.ll (Zcy x))) m
    have hst0:StF dr m an.nt base w0 I0 I β (gcT m (keepL (an.ll (Zcy x)) tm) σ).1 (gcT m (keepL (an.ll (Zcy x)) tm) σ).2 a w:=⟨I1,β2,k1,k2.trans q1,q3,k4,q2⟩
    split at h
    ·rename_i tm1 σ1 h1
     exact ih hx hst0 h1 (fun a' w' hs=>ihk hs h)
    ·rename_i hne
     refine ih hx hst0 h ?_
     cases e with
     | normal=>exact absurd h (hne _ _)
     | exit id=>exact hQ
     | ret=>exact hQ
     | panic x=>exact hQ
  exact key n hst h
 | exit id =>
  intro ac hc I β tm tm' σ σ' a w e hst h Q hQ
  simp only [ZM] at hc;subst hc
  simp only [Zq,Xa,Xb] at h
  obtain ⟨rfl,rfl,rfl⟩:=h
  exact wp_exit (hQ a w hst)
 | ret =>
  intro ac hc I β tm tm' σ σ' a w e hst h Q hQ
  simp only [ZM] at hc;subst hc
  simp only [Zq,Xa,Xb] at h
  obtain ⟨rfl,rfl,rfl⟩:=h
  exact wp_ret (hQ a w hst)
 | rangeFunc f ps x y=>intro ac hc I β tm tm' σ σ' a w e hst h;simp only [ZM] at hc;subst hc;simp only [Zq] at h;cases h
 | scope x ih =>
  intro ac hc I β tm tm' σ σ' a w e hst h Q hQ
  simp only [ZM] at hc
  refine wp_scope_straight (ih hc hst h ?_)
  cases e with
  | normal=>exact hQ
  | exit id=>exact hQ
  | ret=>exact hQ
  | panic x=>exact hQ
 | label l =>
  intro ac hc I β tm tm' σ σ' a w e hst h Q hQ
  simp only [ZM] at hc;subst hc
  simp only [Zq,Xa,Xb] at h
  obtain ⟨rfl,rfl,rfl⟩:=h
  exact wp_label (hQ a w hst)
 | goto l=>intro ac hc I β tm tm' σ σ' a w e hst h;simp only [ZM] at hc;subst hc;simp only [Zq] at h;cases h
 | refuse why=>intro ac hc I β tm tm' σ σ' a w e hst h;simp only [ZM] at hc;subst hc;simp only [Zq] at h;cases h
theorem Zum {I:Imm} {β:Bmap} {σ σ':Za} {k:Option Nat} {a x:AVal} {c:Cls} {v:Value} (ha:VR I β a v) (h:ldA σ k a=some (x,σ',c)):∃ ad,v=.pointer (some ad):=by
 unfold ldA at h
 split at h
 ·simp only [VR] at ha;obtain ⟨b,k,c,_,rfl⟩:=ha;exact ⟨_,rfl⟩
 ·simp only [VR] at ha;obtain ⟨b,k,c,_,rfl⟩:=ha;exact ⟨_,rfl⟩
 ·simp only [VR] at ha;obtain ⟨b,off,rfl,_⟩:=ha;exact ⟨_,rfl⟩
 ·cases h
def Zei (tmps:Array Value):ResultVar->Sem Value
 | .tmp t=>pure (tmps.getD t undef)
 | .cell a t=>do loadVar t (<-asAddr (tmps.getD a undef))
theorem Zih {I:Imm} {β:Bmap} {tm:Tms} {σ:Za} {w:World} {tmps:Array Value} (T:TR I β tm tmps) (R:Rel base w0 I0 I β σ w):∀ {rs:List ResultVar} {asl:List Zbu} {xs:List AVal},Zce P rs=some asl->resAll tm σ asl=some xs ->
  ∃ vs:List Value,(rs.mapM (Zei tmps)).run P w=.ok vs w/\VRs I β xs vs
 | [],asl,xs,hc,h=>by
  simp only [Zce,Xa] at hc;subst hc
  simp only [resAll,Xa] at h;subst h
  exact ⟨[],by simp,by simp only [VRs]⟩
 | r::rs,asl,xs,hc,h=>by
  have getD_eq:∀ t,VR I β (tget tm t) (tmps.getD t undef):=T
  cases r with
  | tmp t =>
   simp only [Zce,Xf] at hc
   obtain ⟨as',has,rfl⟩:=hc
   simp only [resAll,resOne] at h
   split at h
   ·rename_i ys hys
    injection h with h;subst h
    obtain ⟨vs,h1,h2⟩:=Zih T R has hys
    exact ⟨tmps.getD t undef::vs,by simp only [Xal,Zei,Sem.run_bind,Sem.run_pure,Result.andThen_ok,h1],by simp only [VRs];exact ⟨_,_,rfl,getD_eq t,h2⟩⟩
   ·cases h
  | cell a t =>
   simp only [Zce] at hc
   split at hc
   ·rename_i k as' hk has
    injection hc with hc;subst hc
    simp only [resAll,resOne] at h
    split at h
    ·rename_i v hv
     split at h
     ·rename_i ys hys
      injection h with h;subst h
      obtain ⟨vs,h1,h2⟩:=Zih T R has hys
      split at hv
      ·rename_i v' σ1 c1 hld
       injection hv with hv;subst hv
       obtain ⟨u,hu1,hu2,_⟩:=Zk0 hk R (getD_eq a) hld
       obtain ⟨ad,had⟩:=Zum (getD_eq a) hld
       have hlv:(loadVar t ad).run P w=.ok u w:=by
        rw [had] at hu1
        simpa [Instr.loadAt,Instr.sureAddr] using hu1
       refine ⟨u::vs,?_,by simp only [VRs];exact ⟨_,_,rfl,hu2,h2⟩⟩
       simp only [Xal,Zei,had,asAddr,Sem.run_bind,Sem.run_pure,Result.andThen_ok,hlv,h1]
      ·cases hv
     ·cases h
    ·cases h
   ·cases hc
theorem Zkr {I:Imm} {β:Bmap} {tm:Tms} {σ:Za} {w:World} {tmps:Array Value} (T:TR I β tm tmps) (R:Rel base w0 I0 I β σ w) {fn:Func} {asl:List Zbu} {x:AVal} (hc:Zce P fn.results.toList=some asl) (h:resA tm σ asl=some x):∃ v,(results fn tmps).run P w=.ok v w/\VR I β x v:=by
 unfold resA at h
 have run:∀ {xs:List AVal},resAll tm σ asl=some xs->∃ vs:List Value,(results fn tmps).run P w=.ok (if h:vs.toArray.size=1 then vs.toArray[0] else .tuple vs.toArray) w/\VRs I β xs vs:=by
  intro xs hx
  obtain ⟨vs,h1,h2⟩:=Zih T R hc hx
  refine ⟨vs,?_,h2⟩
  have hm:(fn.results.mapM (Zei tmps)).run P w=.ok vs.toArray w:=by
   rw [Array.mapM_eq_mapM_toList,Sem.run_map,h1];rfl
  have he:results fn tmps=(do let vs <-fn.results.mapM (Zei tmps);pure (if h:vs.size=1 then vs[0] else .tuple vs)):=by
   unfold results
   congr 1
  rw [he,Sem.run_bind,hm]
  rfl
 split at h
 ·rename_i v hv
  injection h with h;subst h
  obtain ⟨vs,h1,h2⟩:=run hv
  simp only [VRs] at h2
  obtain ⟨u,us,rfl,h3,rfl⟩:=h2
  exact ⟨u,by rw [h1];simp,h3⟩
 ·rename_i vs' hv hne
  injection h with h;subst h
  obtain ⟨vs,h1,h2⟩:=run hne
  have hl:=Zaa h2
  refine ⟨.tuple vs.toArray,?_,by simp only [VR];exact ⟨_,rfl,by simpa using h2⟩⟩
  rw [h1,dif_neg]
  intro hs
  simp only [List.size_toArray] at hs
  match vs',hl with
  | [v],_=>exact hv v rfl
  | [],hl=>simp at hl;omega
  | _::_::_,hl=>simp at hl;omega
 ·cases h
theorem Ziw:∀ (args:List AVal) (i:Nat) (acc:Tms) (n:Nat),tget (enterA i args acc) n=if i<=n/\n < i+args.length then args.getD (n - i) .top else tget acc n
 | [],i,acc,n=>by simp only [enterA,Wz];rw [if_neg (by omega)]
 | x::xs,i,acc,n=>by
  simp only [enterA,List.length_cons]
  rw [Ziw xs (i+1) _ n]
  by_cases h:i+1<=n/\n < i+1+xs.length
  ·rw [if_pos h,if_pos (by omega),show n - i=(n - (i+1))+1 by omega,List.getD_cons_succ]
  ·rw [if_neg h]
   simp only [tget]
   by_cases h1:i=n
   ·subst h1
    rw [if_pos rfl,if_pos (by omega),Nat.sub_self,Wb]
   ·rw [if_neg h1,if_neg (by omega)]
theorem Zhh {I:Imm} {β:Bmap} {args:List AVal} {vs:Array Value} (h:VRs I β args vs.toList) (n:Nat):TR I β (enterA 0 args []) (vs++WP n undef):=by
 intro j
 rw [Ziw]
 have hl:=Zaa h
 simp only [XA] at hl
 split
 ·rename_i hj
  have hjl:j < args.length:=by omega
  obtain ⟨v,h1,h2⟩:=Za9 h (Xy hjl)
  have e1:args.getD (j - 0) .top=args[j]:=by simp [Xd,hjl]
  have e2:(vs++WP n undef).getD j undef=v:=by
   rw [X9,Array.getElem?_append_left (by omega)]
   have : vs[j]?=some v:=by simpa using h1
   rw [this];rfl
  rw [e1,e2];exact h2
 ·simp only [tget,VR]
def Zgc (P:Program) (prim:ZaM):Prop:=∀ f g,prim f=some g->∀ args σ r σ',g args σ=some (r,σ') ->
 (∃ fn,P.funcs[f]?=some fn/\fn.body.isSome=true/\(fn.name == "runtime.NumGoroutine")=false) /\
 ∀ base w0 I0 I β w (vs:Array Value),KLt base w0->Rel base w0 I0 I β σ w->VRs I β args vs.toList ->
  Calls P f vs w (fun e w'=>∃ u,Ends r e u/\ZaQ σ.length base w0 I0 I β r σ' u w')
theorem Zhz (hm:P.follows .mixedOrders=true) {prim:ZaM} (hP:Zgc P prim) (ann:Nat->Ann) (bf:Nat->Bool):∀ n,ZI P (Zw (Zew P ann) prim bf n)
 | 0=>by intro f args σ r σ' h;simp only [Zw] at h;cases h
 | n+1=>by
  have ih:=Zhz hm hP ann bf n
  intro f args σ r σ' h
  simp only [Zw] at h
  split at h
  ·rename_i g hg
   exact hP f g hg args σ r σ' h
  split at h
  ·cases h
  rename_i fn hfn
  unfold Zew at hfn
  split at hfn
  ·rename_i F hF
   split at hfn
   ·rename_i body hbody
    split at hfn
    ·cases hfn
    ·rename_i hname
     split at hfn
     ·rename_i rs hrs
      injection hfn with hfn;subst hfn
      refine ⟨⟨F,hF,by rw [hbody];rfl,by simpa using hname⟩,?_⟩
      intro base w0 I0 I β w vs hb R hargs
      refine calls_of_wp hF hbody ?_
      have T:=Zhh hargs (F.ntmps - vs.size)
      have hst:StF Zaw σ.length F.ntmps base w0 I0 I β (enterA 0 args []) σ { tmps:=vs++WP (F.ntmps - vs.size) undef,defers:=[] } w:=⟨I,β,Imm.le.refl I,KeptE.refl _ β,T,⟨Zcj.2 rfl,by simp;omega⟩,R⟩
      cases hx:Zq (Zw (Zew P ann) prim bf n) bf σ.length n (ZM P { ann f with nt:=F.ntmps } body) (enterA 0 args []) σ with
      | none=>rw [hx] at h;simp only [Zas] at h;cases h
      | some q =>
       obtain ⟨e,tm',σ1⟩:=q
       rw [hx] at h
       have fin:(match resA tm' σ1 rs with | some r=>ZaC σ.length σ1 r | none=>none)=some (r,σ')->∀ a' w',StF Zaw σ.length F.ntmps base w0 I0 I β tm' σ1 a' w'->a'.defers=[]/\∃ v,(results F a'.tmps).run P w'=.ok v w'/\∃ u,Ends r (.returned v) u/\ZaQ σ.length base w0 I0 I β r σ' u w':=by
        intro hr a' w' ⟨I1,β1,g1,g2,g3,g4,g5⟩
        split at hr
        ·rename_i x hx1
         obtain ⟨v,h1,h2⟩:=Zkr g3 g5 hrs hx1
         have hnp:∀ y,x≠.pan y:=by rintro y rfl;simp only [VR] at h2
         obtain ⟨q1,q2⟩:=Zeq (⟨I1,β1,g1,g2,g5,by rw [ZcZ hnp];exact h2⟩:ZaQ σ.length base w0 I0 I β x σ1 v w') hr
         refine ⟨Zcj.1 g4.1,v,h1,v,q2 _ ?_,q1⟩
         cases x <;> first | rfl | exact absurd rfl (hnp _)
        ·cases hr
       refine ZfV (dr:=Zaw) (an:={ ann f with nt:=F.ntmps }) ih (fun n hn=>by simp [Zaw] at hn) hm hb σ.length n rfl hst hx ?_
       cases e with
       | normal=>simp only [Zas] at h;exact fun a' w' hs=>fin h a' w' hs
       | ret=>simp only [Zas] at h;exact fun a' w' hs=>fin h a' w' hs
       | exit id=>simp only [Zas] at h;cases h
       | panic x =>
        simp only [Zas] at h
        intro a' u w' hd hp
        obtain ⟨q1,q2⟩:=Zeq hp h
        exact ⟨Zcj.1 hd,u,q2 _ rfl,q1⟩
     ·cases hfn
   ·cases hfn
  ·cases hfn
end
end
section
open Go.RowKit
def OLe (O O':Zo):Prop:=∀ f a σ r,O f a σ=some r->O' f a σ=some r
section
variable {O O':Zo} {bf:Nat->Bool}
theorem Zmk {view:Bool} {m:Nat} {x y:Option (AVal×Za)} (h:∀ r,x=some r->y=some r) {r:AVal×Za} (hr:Zat view m x=some r):Zat view m y=some r:=by
 cases x with
 | none=>cases view <;> simp [Zat,Zb2] at hr
 | some q=>rw [h q rfl];exact hr
theorem Zt8 {σ σf:Za} {ids ts:List Nat} {sq own:Nat} {x y:Option (AVal×Za)} (h:∀ r,x=some r->y=some r) {r:AVal×Za×Cls} (hr:Zaj σ σf ids ts sq own x=some r):Zaj σ σf ids ts sq own y=some r:=by
 cases x with
 | none=>simp only [Zaj] at hr;cases hr
 | some q=>rw [h q rfl];exact hr
theorem ZgH (hO:OLe O O') {σ:Za} {sq f own:Nat} {view:Bool} {args:List AVal} {r:AVal×Za×Cls} (h:Zr O bf σ sq f own view args=some r):Zr O' bf σ sq f own view args=some r:=by
 unfold Zr Zbg at h ⊢
 split at h
 ·cases h
 ·rename_i vs ts hv
  split at h
  ·rename_i hc
   simp only [hc,if_true]
   exact Zt8 (fun q hq=>Zmk (fun q hq=>hO _ _ _ _ hq) hq) h
  ·cases h
theorem Zm5 (hO:OLe O O') {tm:Tms} {σ:Za} {sq:Nat} {ins:Ins} {r:AVal×Za×Cls} (h:execI O bf tm σ sq ins=some r):execI O' bf tm σ sq ins=some r:=by
 cases ins
 case call f own view args =>
  simp only [execI] at h ⊢
  exact ZgH hO h
 case callv x args =>
  simp only [execI] at h ⊢
  split at h
  ·exact ZgH hO h
  ·cases h
 all_goals exact h
theorem Zg8 (hO:OLe O O') {o:AOp} {tm:Tms} {σ:Za} {sq:Nat} {r:AVal×Tms×Za×Cls} (h:Zd O bf o sq tm σ=some r):Zd O' bf o sq tm σ=some r:=by
 unfold Zd at h ⊢
 split at h
 ·cases h
 ·exact h
 ·split at h
  ·rename_i hf
   rw [if_pos hf]
   split at h
   ·rename_i he;rw [Zm5 hO he];exact h
   ·cases h
  ·cases h
theorem ZhX (hO:OLe O O'):∀ {ops:List AOp} {s:Nat} {tm:Tms} {σ:Za} {r:Tms×Za×List Cls×Option AVal},Zm O bf ops s tm σ=some r->Zm O' bf ops s tm σ=some r
 | [],_,_,_,_,h=>h
 | o::ops,s,tm,σ,r,h=>by
  simp only [Zm] at h ⊢
  split at h
  ·cases h
  ·rename_i h1
   rw [Zg8 hO h1]
   exact h
  ·rename_i v tm1 σ1 c hnp h1
   rw [Zg8 hO h1]
   simp only
   split at h
   ·cases h
   rename_i h2
   rw [ZhX hO h2]
   exact h
theorem ZiC (hO:OLe O O') {ops:List AOp} {chk:Option (List (Nat×Nat))} {live:List Nat} {tm:Tms} {σ:Za} {r:Z7×Tms×Za} (h:ZaS O bf ops chk live tm σ=some r):ZaS O' bf ops chk live tm σ=some r:=by
 unfold ZaS at h ⊢
 cases hx:Zm O bf ops σ.length tm (σ++Xx (sitesOf ops) .free) with
 | none=>rw [hx] at h;simp only [Zbw] at h;cases h
 | some q=>rw [ZhX hO hx];rw [hx] at h;exact h
theorem ZfY {m0:Nat} {live:List Nat} {f f':Tms->Za->Option (Z7×Tms×Za)} (hf:∀ tm σ r,f tm σ=some r->f' tm σ=some r):∀ {n n':Nat} {tm:Tms} {σ:Za} {r:Z7×Tms×Za},n<=n'->ZbR m0 live f n tm σ=some r->ZbR m0 live f' n' tm σ=some r
 | 0,_,_,_,_,_,h=>by simp only [ZbR] at h;cases h
 | n+1,0,_,_,_,hn,_=>by omega
 | n+1,n'+1,tm,σ,r,hn,h=>by
  simp only [ZbR] at h ⊢
  split at h
  ·rename_i h1
   rw [hf _ _ _ h1]
   exact ZfY hf (by omega) h
  ·rename_i hne
   rw [hf _ _ _ h]
   split
   ·rename_i e;injection e with e;subst e;exact absurd h (hne _ _)
   ·rfl
theorem ZbP (hO:OLe O O') {m0:Nat}:∀ {c:Zg} {n n':Nat} {tm:Tms} {σ:Za} {r:Z7×Tms×Za},n<=n'->Zq O bf m0 n c tm σ=some r->Zq O' bf m0 n' c tm σ=some r:=by
 intro c
 induction c with
 | skip=>intro n n' tm σ r _ h;exact h
 | exit id=>intro n n' tm σ r _ h;exact h
 | ret=>intro n n' tm σ r _ h;exact h
 | stuck=>intro n n' tm σ r _ h;exact h
 | region ops chk live =>
  intro n n' tm σ r _ h
  simp only [Zq] at h ⊢
  exact ZiC hO h
 | seq a b iha ihb =>
  intro n n' tm σ r hn h
  simp only [Zq] at h ⊢
  split at h
  ·rename_i h1;rw [iha hn h1];exact ihb hn h
  ·rename_i hne
   rw [iha hn h]
   split
   ·rename_i e;injection e with e;subst e;exact absurd h (hne _ _)
   ·rfl
 | cond c a b iha ihb =>
  intro n n' tm σ r hn h
  simp only [Zq] at h ⊢
  split at h
  ·exact iha hn h
  ·exact ihb hn h
  ·cases h
 | block id c ih =>
  intro n n' tm σ r hn h
  simp only [Zq] at h ⊢
  split at h
  ·rename_i h1;rw [ih hn h1];exact h
  ·rename_i hne
   rw [ih hn h]
   split
   ·rename_i e;injection e with e;subst e;exact absurd h (hne _ _ _)
   ·rfl
 | loop live c ih =>
  intro n n' tm σ r hn h
  simp only [Zq] at h ⊢
  exact ZfY (fun tm σ r h=>ih hn h) hn h
theorem ZeG {m0:Nat} {fn:Zad} {x y:Option (Z7×Tms×Za)} (h:∀ r,x=some r->y=some r) {r:AVal×Za} (hr:Zas m0 fn x=some r):Zas m0 fn y=some r:=by
 cases x with
 | none=>simp only [Zas] at hr;cases hr
 | some q=>rw [h q rfl];exact hr
theorem Zjk (fs:Nat->Option Zad) (prim:ZaM):∀ n,OLe (Zw fs prim bf n) (Zw fs prim bf (n+1))
 | 0=>by intro f a σ r h;simp only [Zw] at h;cases h
 | n+1=>by
  intro f a σ r h
  rw [Zw] at h ⊢
  split at h
  ·rename_i g hg;exact h
  ·rename_i hg
   split at h
   ·cases h
   ·rename_i fn hfn
    exact ZeG (fun q hq=>ZbP (Zjk fs prim n) (by omega) hq) h
theorem Zdg (fs : Nat -> Option Zad) (prim : ZaM) {n m : Nat} (h : n <= m) : OLe (Zw fs prim bf n) (Zw fs prim bf m) := by
  induction m with
  | zero => obtain rfl : n = 0 := by omega
            exact fun _ _ _ _ h => h
  | succ m ih =>
    by_cases e : n = m + 1
    . subst e; exact fun _ _ _ _ h => h
    . exact fun f a σ r hr => Zjk fs prim m f a σ r (ih (by omega) f a σ r hr)
end
section
variable (fs:Nat->Option Zad) (prim:ZaM) (bf:Nat->Bool)
open Classical in
noncomputable def EV:Zo:=fun f args σ=>if h:∃ r,∃ n,Zw fs prim bf n f args σ=some r then some h.choose else none
open Classical in
noncomputable def evC (m:Nat) (c:Zg) (tm:Tms) (σ:Za):Option (Z7×Tms×Za):=if h:∃ r,∃ n,Zq (Zw fs prim bf n) bf m n c tm σ=some r then some h.choose else none
variable {fs prim bf} {m0:Nat}
theorem Zbr {f:Nat} {args:List AVal} {σ:Za} {r:AVal×Za}:EV fs prim bf f args σ=some r↔∃ n,Zw fs prim bf n f args σ=some r:=by
 unfold EV
 constructor
 ·intro h
  split at h
  ·rename_i hx
   injection h with h
   rw [<-h]
   exact hx.choose_spec
  ·cases h
 ·rintro ⟨n,hn⟩
  have hx:∃ r,∃ n,Zw fs prim bf n f args σ=some r:=⟨r,n,hn⟩
  rw [dif_pos hx]
  obtain ⟨m,hm⟩:=hx.choose_spec
  have h1:=Zdg (bf:=bf) fs prim (WA n m) _ _ _ _ hn
  have h2:=Zdg (bf:=bf) fs prim (Wv n m) _ _ _ _ hm
  rw [h1] at h2
  injection h2 with h2
  rw [<-h2]
theorem Zap {c:Zg} {tm:Tms} {σ:Za} {r:Z7×Tms×Za}:evC fs prim bf m0 c tm σ=some r↔∃ n,Zq (Zw fs prim bf n) bf m0 n c tm σ=some r:=by
 unfold evC
 constructor
 ·intro h
  split at h
  ·rename_i hx
   injection h with h
   rw [<-h]
   exact hx.choose_spec
  ·cases h
 ·rintro ⟨n,hn⟩
  have hx:∃ r,∃ n,Zq (Zw fs prim bf n) bf m0 n c tm σ=some r:=⟨r,n,hn⟩
  rw [dif_pos hx]
  obtain ⟨m,hm⟩:=hx.choose_spec
  have h1:=ZbP (Zdg (bf:=bf) fs prim (WA n m)) (WA n m) hn
  have h2:=ZbP (Zdg (bf:=bf) fs prim (Wv n m)) (Wv n m) hm
  rw [h1] at h2
  injection h2 with h2
  rw [<-h2]
theorem Zcr {α:Type} {x y:Option α} (h:∀ r,x=some r↔y=some r):x=y:=by
 cases x with
 | none =>
  cases y with
  | none=>rfl
  | some q=>exact absurd ((h q).2 rfl) (by simp)
 | some q=>exact ((h q).1 rfl).symm
theorem ZuH (n:Nat):OLe (Zw fs prim bf n) (EV fs prim bf):=fun _ _ _ _ h=>Zbr.2 ⟨n,h⟩
theorem up {n m:Nat} (h:n<=m):OLe (Zw fs prim bf n) (Zw fs prim bf m):=Zdg fs prim h
theorem Zl2 {f:Nat} {g:List AVal->Za->Option (AVal×Za)} (hp:prim f=some g) (args:List AVal) (σ:Za):EV fs prim bf f args σ=g args σ:=by
 apply Zcr
 intro r
 rw [Zbr]
 constructor
 ·rintro ⟨n,h⟩
  cases n with
  | zero=>simp only [Zw] at h;cases h
  | succ n=>rw [Zw,hp] at h;exact h
 ·intro h
  exact ⟨1,by rw [Zw,hp];exact h⟩
theorem Zjb {f:Nat} {fn:Zad} (hp:prim f=none) (hf:fs f=some fn) (args:List AVal) (σ:Za):EV fs prim bf f args σ=Zas σ.length fn (evC fs prim bf σ.length fn.body (enterA 0 args []) σ):=by
 apply Zcr
 intro r
 rw [Zbr]
 constructor
 ·rintro ⟨n,h⟩
  cases n with
  | zero=>simp only [Zw] at h;cases h
  | succ n =>
   rw [Zw,hp,hf] at h
   exact ZeG (fun q hq=>Zap.2 ⟨n,hq⟩) h
 ·intro h
  cases hx:evC fs prim bf σ.length fn.body (enterA 0 args []) σ with
  | none=>rw [hx] at h;simp only [Zas] at h;cases h
  | some q =>
   obtain ⟨n,hn⟩:=Zap.1 hx
   refine ⟨n+1,?_⟩
   rw [Zw,hp,hf]
   rw [hx] at h
   exact ZeG (x:=some q) (fun q' hq'=>by injection hq' with hq';subst hq';exact hn) h
theorem ZkE {σ:Za} {sq f own:Nat} {view:Bool} {args:List AVal} {r:AVal×Za×Cls} (h:Zr (EV fs prim bf) bf σ sq f own view args=some r):∃ n,Zr (Zw fs prim bf n) bf σ sq f own view args=some r:=by
 unfold Zr Zbg at h ⊢
 split at h
 ·cases h
 ·rename_i vs ts hv
  split at h
  ·rename_i hc
   simp only [hc,if_true]
   cases hx:EV fs prim bf f (ZH (Zf (Zh σ ts) 0 (Zi (Zh σ ts) 1000 (ZR vs) [])) vs) (Zj (Zh σ ts) 0 (Zi (Zh σ ts) 1000 (ZR vs) []) (Zf (Zh σ ts) 0 (Zi (Zh σ ts) 1000 (ZR vs) [])) (Zi (Zh σ ts) 1000 (ZR vs) []) 0) with
   | none =>
    rw [hx] at h
    cases view <;> simp [Zat,Zb2,Zaj] at h
   | some q =>
    obtain ⟨n,hn⟩:=Zbr.1 hx
    exact ⟨n,by rw [hn];rw [hx] at h;exact h⟩
  ·cases h
theorem Zu8 {tm:Tms} {σ:Za} {sq:Nat} {ins:Ins} {r:AVal×Za×Cls} (h:execI (EV fs prim bf) bf tm σ sq ins=some r):∃ n,execI (Zw fs prim bf n) bf tm σ sq ins=some r:=by
 cases ins
 case call f own view args =>
  simp only [execI] at h ⊢
  exact ZkE h
 case callv x args =>
  simp only [execI] at h ⊢
  split at h
  ·exact ZkE h
  ·cases h
 all_goals exact ⟨0,h⟩
theorem ZkV {o:AOp} {tm:Tms} {σ:Za} {sq:Nat} {r:AVal×Tms×Za×Cls} (h:Zd (EV fs prim bf) bf o sq tm σ=some r):∃ n,Zd (Zw fs prim bf n) bf o sq tm σ=some r:=by
 unfold Zd at h ⊢
 split at h
 ·cases h
 ·exact ⟨0,h⟩
 ·split at h
  ·rename_i hf
   simp only [hf,if_true]
   split at h
   ·rename_i he
    obtain ⟨n,hn⟩:=Zu8 he
    exact ⟨n,by rw [hn];exact h⟩
   ·cases h
  ·cases h
theorem Zjw:∀ {ops:List AOp} {s:Nat} {tm:Tms} {σ:Za} {r:Tms×Za×List Cls×Option AVal},Zm (EV fs prim bf) bf ops s tm σ=some r->∃ n,Zm (Zw fs prim bf n) bf ops s tm σ=some r
 | [],_,_,_,_,h=>⟨0,h⟩
 | o::ops,s,tm,σ,r,h=>by
  simp only [Zm] at h ⊢
  split at h
  ·cases h
  ·rename_i h1
   obtain ⟨n,hn⟩:=ZkV h1
   exact ⟨n,by rw [hn];exact h⟩
  rename_i v tm1 σ1 c hnp h1
  split at h
  ·cases h
  rename_i h2
  obtain ⟨n,hn⟩:=ZkV h1
  obtain ⟨m,hm⟩:=Zjw h2
  refine ⟨max n m,?_⟩
  rw [Zg8 (up (WA n m)) hn]
  simp only
  rw [ZhX (up (Wv n m)) hm]
  exact h
theorem ZmS {ops:List AOp} {chk:Option (List (Nat×Nat))} {live:List Nat} {tm:Tms} {σ:Za} {r:Z7×Tms×Za} (h:ZaS (EV fs prim bf) bf ops chk live tm σ=some r):∃ n,ZaS (Zw fs prim bf n) bf ops chk live tm σ=some r:=by
 unfold ZaS at h ⊢
 cases hx:Zm (EV fs prim bf) bf ops σ.length tm (σ++Xx (sitesOf ops) .free) with
 | none=>rw [hx] at h;simp only [Zbw] at h;cases h
 | some q =>
  obtain ⟨n,hn⟩:=Zjw hx
  exact ⟨n,by rw [hn];rw [hx] at h;exact h⟩
theorem Zoq (tm:Tms) (σ:Za):evC fs prim bf m0 .skip tm σ=some (.normal,tm,σ):=Zap.2 ⟨0,rfl⟩
theorem ZwX (id:Nat) (tm:Tms) (σ:Za):evC fs prim bf m0 (.exit id) tm σ=some (.exit id,tm,σ):=Zap.2 ⟨0,rfl⟩
theorem Zqp (tm:Tms) (σ:Za):evC fs prim bf m0 .ret tm σ=some (.ret,tm,σ):=Zap.2 ⟨0,rfl⟩
theorem ZoD {ops:List AOp} {chk:Option (List (Nat×Nat))} {live:List Nat} {tm:Tms} {σ:Za}:evC fs prim bf m0 (.region ops chk live) tm σ=ZaS (EV fs prim bf) bf ops chk live tm σ:=by
 apply Zcr
 intro r
 rw [Zap]
 constructor
 ·rintro ⟨n,hn⟩
  simp only [Zq] at hn
  exact ZiC (ZuH n) hn
 ·intro h
  obtain ⟨n,hn⟩:=ZmS h
  exact ⟨n,by simp only [Zq];exact hn⟩
theorem Zoi {a b:Zg} {tm tm':Tms} {σ σ':Za} (h:evC fs prim bf m0 a tm σ=some (.normal,tm',σ')):evC fs prim bf m0 (.seq a b) tm σ=evC fs prim bf m0 b tm' σ':=by
 obtain ⟨n,hn⟩:=Zap.1 h
 apply Zcr
 intro r
 rw [Zap,Zap]
 constructor
 ·rintro ⟨m,hm⟩
  have h1:=ZbP (up (WA n m)) (WA n m) hn
  have h2:=ZbP (up (Wv n m)) (Wv n m) hm
  simp only [Zq,h1] at h2
  exact ⟨_,h2⟩
 ·rintro ⟨m,hm⟩
  have h1:=ZbP (up (WA n m)) (WA n m) hn
  have h2:=ZbP (up (Wv n m)) (Wv n m) hm
  exact ⟨max n m,by simp only [Zq,h1];exact h2⟩
theorem ZgE {a b:Zg} {tm tm':Tms} {σ σ':Za} {e:Z7} (he:e≠.normal) (h:evC fs prim bf m0 a tm σ=some (e,tm',σ')):evC fs prim bf m0 (.seq a b) tm σ=some (e,tm',σ'):=by
 obtain ⟨n,hn⟩:=Zap.1 h
 refine Zap.2 ⟨n,?_⟩
 simp only [Zq,hn]
 cases e with
 | normal=>exact absurd rfl he
 | exit id=>rfl
 | ret=>rfl
 | panic x=>rfl
def Za6 (id:Nat):Z7×Tms×Za->Z7×Tms×Za
 | (.exit i,tm,σ)=>if i=id then (.normal,tm,σ) else (.exit i,tm,σ)
 | r=>r
theorem ZuI {id:Nat} {c:Zg} {tm:Tms} {σ:Za}:evC fs prim bf m0 (.block id c) tm σ=(evC fs prim bf m0 c tm σ).map (Za6 id):=by
 have step:∀ n,Zq (Zw fs prim bf n) bf m0 n (.block id c) tm σ=(Zq (Zw fs prim bf n) bf m0 n c tm σ).map (Za6 id):=by
  intro n
  simp only [Zq]
  cases Zq (Zw fs prim bf n) bf m0 n c tm σ with
  | none=>rfl
  | some q =>
   obtain ⟨e,tm1,σ1⟩:=q
   cases e with
   | normal=>rfl
   | ret=>rfl
   | panic x=>rfl
   | exit i=>simp only [XK,Za6];split <;> rfl
 apply Zcr;intro r
 rw [Zap]
 simp only [step,Xf]
 constructor
 ·rintro ⟨n,q,h1,h2⟩;exact ⟨q,Zap.2 ⟨n,h1⟩,h2⟩
 ·rintro ⟨q,h1,h2⟩;obtain ⟨n,hn⟩:=Zap.1 h1;exact ⟨n,q,hn,h2⟩
theorem Zwg {c:Zg} {tm:Tms} {σ:Za} (h:evC fs prim bf m0 c tm σ=none) (n:Nat):Zq (Zw fs prim bf n) bf m0 n c tm σ=none:=by
 cases hx:Zq (Zw fs prim bf n) bf m0 n c tm σ with
 | none=>rfl
 | some r=>rw [Zap.2 ⟨n,hx⟩] at h;cases h
variable (fs prim bf m0) in
noncomputable def ZbS (b:Zg):Option (Z7×Tms×Za)->Option (Z7×Tms×Za)
 | some (.normal,tm,σ)=>evC fs prim bf m0 b tm σ
 | r=>r
theorem ZoE {a b:Zg} {tm:Tms} {σ:Za}:evC fs prim bf m0 (.seq a b) tm σ=ZbS fs prim bf m0 b (evC fs prim bf m0 a tm σ):=by
 cases h:evC fs prim bf m0 a tm σ with
 | none =>
  simp only [ZbS]
  apply Zcr;intro r
  rw [Zap]
  constructor
  ·rintro ⟨n,hn⟩
   simp only [Zq,Zwg h n] at hn
   cases hn
  ·intro h;cases h
 | some q =>
  obtain ⟨e,tm',σ'⟩:=q
  cases e with
  | normal=>exact Zoi h
  | exit id=>exact ZgE (by simp) h
  | ret=>exact ZgE (by simp) h
  | panic x=>exact ZgE (by simp) h
variable (fs prim bf m0) in
noncomputable def ZeM (a b:Zg) (tm:Tms) (σ:Za):AVal->Option (Z7×Tms×Za)
 | .bool true=>evC fs prim bf m0 a tm σ
 | .bool false=>evC fs prim bf m0 b tm σ
 | _=>none
theorem ZlV {c:Opd} {a b:Zg} {tm:Tms} {σ:Za}:evC fs prim bf m0 (.cond c a b) tm σ=ZeM fs prim bf m0 a b tm σ (c.ev tm):=by
 apply Zcr;intro r
 rw [Zap]
 simp only [Zq]
 constructor
 ·rintro ⟨n,hn⟩
  split at hn
  ·rename_i e;rw [e];simp only [ZeM];exact Zap.2 ⟨n,hn⟩
  ·rename_i e;rw [e];simp only [ZeM];exact Zap.2 ⟨n,hn⟩
  ·cases hn
 ·intro h
  unfold ZeM at h
  split at h
  ·rename_i e;obtain ⟨n,hn⟩:=Zap.1 h;exact ⟨n,by rw [e];exact hn⟩
  ·rename_i e;obtain ⟨n,hn⟩:=Zap.1 h;exact ⟨n,by rw [e];exact hn⟩
  ·cases h
variable (fs prim bf m0) in
noncomputable def evL (live:List Nat) (c:Zg) (tm:Tms) (σ:Za):Option (Z7×Tms×Za) :=
 match evC fs prim bf m0 c tm σ with
 | some (.normal,tm',σ')=>evC fs prim bf m0 (.loop live c) tm' σ'
 | r=>r
theorem ZkN {live:List Nat} {c:Zg} {tm:Tms} {σ:Za}:evC fs prim bf m0 (.loop live c) tm σ=evL fs prim bf m0 live c (gcT m0 (keepL live tm) σ).1 (gcT m0 (keepL live tm) σ).2:=by
 apply Zcr;intro r
 rw [Zap]
 constructor
 ·rintro ⟨n,hn⟩
  simp only [Zq] at hn
  cases n with
  | zero=>simp only [ZbR] at hn;cases hn
  | succ k =>
   simp only [ZbR] at hn
   unfold evL
   cases hx:Zq (Zw fs prim bf (k+1)) bf m0 (k+1) c (gcT m0 (keepL live tm) σ).1 (gcT m0 (keepL live tm) σ).2 with
   | none=>rw [hx] at hn;cases hn
   | some q =>
    rw [Zap.2 ⟨_,hx⟩]
    rw [hx] at hn
    obtain ⟨e,tm',σ'⟩:=q
    cases e with
    | normal =>
     simp only at hn ⊢
     exact Zap.2 ⟨k+1,by simp only [Zq];exact ZfY (fun _ _ _ h=>h) (by omega) hn⟩
    | exit id=>exact hn
    | ret=>exact hn
    | panic x=>exact hn
 ·intro h
  unfold evL at h
  cases hx:evC fs prim bf m0 c (gcT m0 (keepL live tm) σ).1 (gcT m0 (keepL live tm) σ).2 with
  | none=>rw [hx] at h;cases h
  | some q =>
   rw [hx] at h
   obtain ⟨n,hn⟩:=Zap.1 hx
   obtain ⟨e,tm',σ'⟩:=q
   have out:e≠.normal->some (e,tm',σ')=some r->∃ n,Zq (Zw fs prim bf n) bf m0 n (.loop live c) tm σ=some r:=by
    intro he h
    refine ⟨n+1,?_⟩
    have h1:=ZbP (up (show n<=n+1 by omega)) (show n<=n+1 by omega) hn
    simp only [Zq,ZbR,h1]
    cases e with
    | normal=>exact absurd rfl he
    | exit id=>exact h
    | ret=>exact h
    | panic x=>exact h
   cases e with
   | normal =>
    simp only at h
    obtain ⟨m,hm⟩:=Zap.1 h
    have h1:=ZbP (up (show n<=max n m+1 by omega)) (show n<=max n m+1 by omega) hn
    have h2:=ZbP (up (show m<=max n m+1 by omega)) (XL m) hm
    simp only [Zq] at h2
    refine ⟨max n m+1,?_⟩
    simp only [Zq,ZbR,h1]
    exact ZfY (fun tm σ r h=>ZbP (fun _ _ _ _ h=>h) (by omega) h) (by omega) h2
   | exit id=>exact out (by simp) h
   | ret=>exact out (by simp) h
   | panic x=>exact out (by simp) h
theorem Zst {P:Program} (hm:P.follows .mixedOrders=true) {prim:ZaM} (hP:Zgc P prim) (ann:Nat->Ann) (bf:Nat->Bool):ZI P (EV (Zew P ann) prim bf):=by
 intro f args σ r σ' h
 obtain ⟨n,hn⟩:=Zbr.1 h
 exact Zhz hm hP ann bf n f args σ r σ' hn
end
end
section
open Go.RowKit
def ZjE:Tms×Za×List Cls×Option AVal->Tms×Za×Option AVal:=fun q=>(q.1,q.2.1,q.2.2.2)
def Zab:AVal->Bool
 | .pan _=>true
 | _=>false
section
variable (O:Zo) (bf:Nat->Bool)
def exI (i:Ins) (s:Nat) (tm:Tms) (σ:Za):Option (AVal×Za×Cls) :=
 if nsite i == 0 || freeAt σ s then execI O bf tm σ s i else none
def Zaq (ops:List AOp) (s:Nat) (tm:Tms) (σ:Za):Option (Tms×Za×Option AVal):=(Zm O bf ops s tm σ).map ZjE
def kN (d:Option Nat) (os:List AOp) (s:Nat) (tm:Tms):Option (AVal×Za×Cls)->Option (Tms×Za×Option AVal)
 | none=>none
 | some (v,σ,_)=>if Zab v then some (tput tm d v,σ,some (Zaf v)) else Zaq O bf os s (tput tm d v) σ
def Zgs (live:List Nat):Option (Tms×Za×Option AVal)->Option (Z7×Tms×Za)
 | none=>none
 | some (_,σ,some x)=>some (.panic x,[],σ)
 | some (tm,σ,none)=>some (.normal,keepL live tm,σ)
variable {O bf}
theorem ZjT (s:Nat) (tm:Tms) (σ:Za):Zaq O bf [] s tm σ=some (tm,σ,none):=rfl
theorem Zen {o:AOp} {os:List AOp} {s:Nat} {tm:Tms} {σ:Za} (h:Zd O bf o s tm σ=none):Zm O bf (o::os) s tm σ=none:=by simp only [Zm,h]
theorem Zgo {o:AOp} {os:List AOp} {s:Nat} {tm tm1:Tms} {σ σ1:Za} {x:AVal} {c:Cls} (h:Zd O bf o s tm σ=some (.pan x,tm1,σ1,c)):Zm O bf (o::os) s tm σ=some (tm1,σ1,[c],some x):=by simp only [Zm,h]
theorem ZjO {o:AOp} {os:List AOp} {s:Nat} {tm tm1:Tms} {σ σ1:Za} {v:AVal} {c:Cls} (h:Zd O bf o s tm σ=some (v,tm1,σ1,c)) (hn:Zab v=false):Zm O bf (o::os) s tm σ=(Zm O bf os (s+nsite o.ins) tm1 σ1).map fun q=>(q.1,q.2.1,c::q.2.2.1,q.2.2.2):=by
 simp only [Zm,h]
 cases v <;> first
  | (simp [Zab] at hn;done)
  | (simp only;cases Zm O bf os (s+nsite o.ins) tm1 σ1 <;> rfl)
theorem ZfD {o:AOp} {os:List AOp} {s:Nat} {tm:Tms} {σ:Za} (h:Zd O bf o s tm σ=none):Zaq O bf (o::os) s tm σ=none:=by simp only [Zaq,Zen h,Option.map_none]
theorem Zhu {o:AOp} {os:List AOp} {s:Nat} {tm tm1:Tms} {σ σ1:Za} {x:AVal} {c:Cls} (h:Zd O bf o s tm σ=some (.pan x,tm1,σ1,c)):Zaq O bf (o::os) s tm σ=some (tm1,σ1,some x):=by simp only [Zaq,Zgo h,XK,ZjE]
theorem Zfs {o:AOp} {os:List AOp} {s:Nat} {tm tm1:Tms} {σ σ1:Za} {v:AVal} {c:Cls} (h:Zd O bf o s tm σ=some (v,tm1,σ1,c)) (hn:Zab v=false):Zaq O bf (o::os) s tm σ=Zaq O bf os (s+nsite o.ins) tm1 σ1:=by
 simp only [Zaq,ZjO h hn,Option.map_map]
 rfl
theorem Zf5 {v:AVal} (h:Zab v=true):∃ x,v=.pan x:=by
 cases v <;> first | exact ⟨_,rfl⟩ | (simp [Zab] at h;done)
theorem ZfE {d:Option Nat} {i:Ins} {af:List Nat} {s:Nat} {tm:Tms} {σ:Za}:Zd O bf ⟨d,i,none,af⟩ s tm σ=(exI O bf i s tm σ).map fun q=>(q.1,tput tm d q.1,q.2.1,q.2.2):=by
 unfold Zd exI
 simp only [Zay]
 split
 ·cases execI O bf tm σ s i with
  | none=>rfl
  | some q=>rfl
 ·rfl
theorem ZgQ (d:Option Nat) (i:Ins) (af:List Nat) (os:List AOp) (s:Nat) (tm:Tms) (σ:Za):Zaq O bf (⟨d,i,none,af⟩::os) s tm σ=kN O bf d os (s+nsite i) tm (exI O bf i s tm σ):=by
 cases h:exI O bf i s tm σ with
 | none=>exact ZfD (by rw [ZfE,h];rfl)
 | some q =>
  obtain ⟨v,σ1,c⟩:=q
  have hs:Zd O bf ⟨d,i,none,af⟩ s tm σ=some (v,tput tm d v,σ1,c):=by rw [ZfE,h];rfl
  cases hp:Zab v with
  | true =>
   obtain ⟨x,rfl⟩:=Zf5 hp
   exact Zhu hs
  | false =>
   rw [Zfs hs hp]
   simp only [kN,hp,Xo,if_false]
theorem Zoj (ops:List AOp) (live:List Nat) (tm:Tms) (σ:Za):ZaS O bf ops none live tm σ=Zgs live (Zaq O bf ops σ.length tm (σ++Xx (sitesOf ops) .free)):=by
 unfold ZaS Zaq
 cases Zm O bf ops σ.length tm (σ++Xx (sitesOf ops) .free) with
 | none=>rfl
 | some q =>
  obtain ⟨tm',σ',cs,p⟩:=q
  cases p <;> rfl
theorem ZhL (d:Option Nat) (os:List AOp) (s:Nat) (tm:Tms) (v:AVal) (σ:Za) (c:Cls) (h:Zab v=false):kN O bf d os s tm (some (v,σ,c))=Zaq O bf os s (tput tm d v) σ:=by
 simp only [kN,h,Xo,if_false]
theorem ZpL (d:Option Nat) (os:List AOp) (s:Nat) (tm:Tms) (x:AVal) (σ:Za) (c:Cls):kN O bf d os s tm (some (.pan x,σ,c))=some (tput tm d (.pan x),σ,some x):=rfl
theorem ZxC (d:Option Nat) (os:List AOp) (s:Nat) (tm:Tms):kN O bf d os s tm none=none:=rfl
structure GOp where
 guard:Option (Nat×Bool)
 ops:List AOp
def ZC:List AOp->Tms->Tms
 | [],tm=>tm
 | o::os,tm=>ZC os (tput tm o.dst (.tup []))
def unG (o:AOp):AOp:={ o with guard:=none }
variable (O bf) in
def Zcd (j:Nat) (w:Bool) (g:List AOp) (s:Nat) (tm:Tms) (σ:Za):Option (Tms×Za×Option AVal):=match Zay (some (j,w)) tm with
 | none=>none
 | some false=>some (ZC g tm,σ,none)
 | some true=>Zaq O bf (g.map unG) s tm σ
variable (O bf) in
def gK (os:List AOp) (s:Nat):Option (Tms×Za×Option AVal)->Option (Tms×Za×Option AVal)
 | none=>none
 | some (tm,σ,some x)=>some (tm,σ,some x)
 | some (tm,σ,none)=>Zaq O bf os s tm σ
def Zt (j:Nat) (w:Bool):List AOp->List AOp×List AOp
 | []=>([],[])
 | o::os=>match o.guard with
  | some (j',w')=>if j'=j/\w'=w/\o.dst≠some j then ((o::(Zt j w os).1),(Zt j w os).2) else ([],o::os)
  | none=>([],o::os)
theorem Zhw (j:Nat) (w:Bool):∀ os,(Zt j w os).1++(Zt j w os).2=os
 | []=>rfl
 | o::os=>by
  simp only [Zt]
  split
  ·split
   ·simp [Zhw j w os]
   ·rfl
  ·rfl
theorem ZhS (j:Nat) (w:Bool):∀ os,∀ o ∈ (Zt j w os).1,o.guard=some (j,w)/\o.dst≠some j
 | []=>by simp [Zt]
 | o::os=>by
  intro o' ho
  simp only [Zt] at ho
  split at ho
  ·rename_i j' w' hg
   split at ho
   ·rename_i hc
    rcases XE.1 ho with rfl | ho
    ·exact ⟨by rw [hg,hc.1,hc.2.1],hc.2.2⟩
    ·exact ZhS j w os o' ho
   ·simp at ho
  ·simp at ho
theorem ZnV {d:Option Nat} {v:AVal} {n:Nat} {tm:Tms} (h:d≠some n):tget (tput tm d v) n=tget tm n:=by
 cases d with
 | none=>rfl
 | some d =>
  have : d≠n:=by rintro rfl;exact h rfl
  simp only [tput,Zel,this,if_false]
theorem Zc4 {d:Option Nat} {v:AVal} {j:Nat} {w:Bool} {tm:Tms} (h:d≠some j):Zay (some (j,w)) (tput tm d v)=Zay (some (j,w)) tm:=by
 simp only [Zay,ZnV h]
theorem ZjI:∀ (a b:List AOp) (s:Nat) (tm:Tms) (σ:Za),Zaq O bf (a++b) s tm σ=gK O bf b (s+sitesOf a) (Zaq O bf a s tm σ)
 | [],b,s,tm,σ=>by simp [ZjT,gK,sitesOf]
 | o::a,b,s,tm,σ=>by
  have ih:=ZjI a b
  simp only [Wl]
  have hs:s+nsite o.ins+sitesOf a=s+sitesOf (o::a):=by simp [sitesOf,Wi]
  cases hst:Zd O bf o s tm σ with
  | none=>rw [ZfD hst,ZfD hst];rfl
  | some q =>
   obtain ⟨v,tm1,σ1,c⟩:=q
   cases hp:Zab v with
   | true =>
    obtain ⟨x,rfl⟩:=Zf5 hp
    rw [Zhu hst,Zhu hst];rfl
   | false=>rw [Zfs hst hp,Zfs hst hp,ih,hs]
theorem Zj8 (j:Nat) (w:Bool):∀ (g:List AOp),(∀ o ∈ g,o.guard=some (j,w)/\o.dst≠some j)->∀ (s:Nat) (tm:Tms) (σ:Za),g≠[]->Zaq O bf g s tm σ=Zcd O bf j w g s tm σ
 | [],_,_,_,_,h=>absurd rfl h
 | o::g,hall,s,tm,σ,_=>by
  obtain ⟨hg,hd⟩:=hall o (by simp)
  have ih:∀ (tm:Tms) (σ:Za) (s:Nat),Zay (some (j,w)) tm≠none->Zaq O bf g s tm σ=Zcd O bf j w g s tm σ:=by
   intro tm σ s hw
   by_cases he:g=[]
   ·subst he
    unfold Zcd
    cases hx:Zay (some (j,w)) tm with
    | none=>exact absurd hx hw
    | some b=>cases b <;> rfl
   ·exact Zj8 j w g (fun o ho=>hall o (by simp [ho])) s tm σ he
  cases hx:Zay (some (j,w)) tm with
  | none =>
   rw [ZfD (by simp only [Zd,hg,hx])]
   simp only [Zcd,hx]
  | some b =>
   cases b with
   | false =>
    have h1:Zaq O bf (o::g) s tm σ=Zaq O bf g (s+nsite o.ins) (tput tm o.dst (.tup [])) σ :=
     Zfs (v:=.tup []) (c:={}) (by simp only [Zd,hg,hx]) rfl
    rw [h1,ih _ _ _ (by rw [Zc4 hd,hx];simp)]
    unfold Zcd
    rw [Zc4 hd,hx]
    rfl
   | true =>
    have key:∀ r:Option (AVal×Za×Cls),(∀ v σ' c,r=some (v,σ',c)->Zab v=false->Zaq O bf g (s+nsite o.ins) (tput tm o.dst v) σ'=Zaq O bf (g.map unG) (s+nsite o.ins) (tput tm o.dst v) σ')->kN O bf o.dst g (s+nsite o.ins) tm r=kN O bf o.dst (g.map unG) (s+nsite o.ins) tm r:=by
     intro r hr
     cases r with
     | none=>rfl
     | some q =>
      obtain ⟨v,σ',c⟩:=q
      cases hp:Zab v with
      | true=>simp only [kN,hp,if_true]
      | false=>rw [ZhL _ _ _ _ _ _ _ hp,ZhL _ _ _ _ _ _ _ hp];exact hr v σ' c rfl hp
    have h1:Zaq O bf (o::g) s tm σ=kN O bf o.dst g (s+nsite o.ins) tm (exI O bf o.ins s tm σ):=by
     have h0:Zaq O bf (o::g) s tm σ=Zaq O bf (⟨o.dst,o.ins,none,o.after⟩::g) s tm σ:=by
      have hst:Zd O bf o s tm σ=Zd O bf ⟨o.dst,o.ins,none,o.after⟩ s tm σ:=by
       unfold Zd
       simp only [hg,hx]
       rfl
      unfold Zaq
      simp only [Zm,hst]
     rw [h0,ZgQ]
    rw [h1]
    unfold Zcd
    rw [hx]
    simp only [XC]
    rw [show unG o=⟨o.dst,o.ins,none,o.after⟩ from rfl,ZgQ]
    refine key _ fun v σ' c _ _=>?_
    rw [ih _ _ _ (by rw [Zc4 hd,hx];simp)]
    unfold Zcd
    rw [Zc4 hd,hx]
theorem ZvW (d:Option Nat) (i:Ins) (j:Nat) (w:Bool) (af:List Nat) (os:List AOp) (s:Nat) (tm:Tms) (σ:Za) (hd:decide (d=some j)=false) :
  Zaq O bf (⟨d,i,some (j,w),af⟩::os) s tm σ=gK O bf (Zt j w os).2 (s+sitesOf (⟨d,i,some (j,w),af⟩::(Zt j w os).1)) (Zcd O bf j w (⟨d,i,some (j,w),af⟩::(Zt j w os).1) s tm σ):=by
 have h:=Zhw j w os
 have hall:∀ o ∈ (⟨d,i,some (j,w),af⟩::(Zt j w os).1:List AOp),o.guard=some (j,w)/\o.dst≠some j:=by
  intro o ho
  rcases XE.1 ho with rfl | ho
  ·exact ⟨rfl,by simpa using hd⟩
  ·exact ZhS j w os o ho
 rw [<-Zj8 j w _ hall s tm σ (by simp),<-ZjI,Wl,h]
variable (O bf) in
def gW (w:Bool) (g:List AOp) (s:Nat) (tm:Tms) (σ:Za):AVal->Option (Tms×Za×Option AVal)
 | .bool b=>if b=w then Zaq O bf (g.map unG) s tm σ else some (ZC g tm,σ,none)
 | .tup []=>some (ZC g tm,σ,none)
 | _=>none
theorem Zsv (j:Nat) (w:Bool) (g:List AOp) (s:Nat) (tm:Tms) (σ:Za):Zcd O bf j w g s tm σ=gW O bf w g s tm σ (tget tm j):=by
 unfold Zcd Zay
 simp only
 generalize tget tm j=v
 cases v
 case bool b=>cases b <;> cases w <;> rfl
 case tup vs=>cases vs <;> rfl
 all_goals rfl
theorem Zlh (w:Bool) (g:List AOp) (s:Nat) (tm:Tms) (σ:Za) (b:Bool):gW O bf w g s tm σ (.bool b)=if b=w then Zaq O bf (g.map unG) s tm σ else some (ZC g tm,σ,none):=rfl
theorem ZnU (w:Bool) (g:List AOp) (s:Nat) (tm:Tms) (σ:Za):gW O bf w g s tm σ (.tup [])=some (ZC g tm,σ,none):=rfl
theorem Zpa (os:List AOp) (s:Nat) (tm:Tms) (σ:Za):gK O bf os s (some (tm,σ,none))=Zaq O bf os s tm σ:=rfl
end
section
variable (c:Prop) [Decidable c]
theorem Z3 {α:Type} (a b:α) (x y:List α):(if c then a::x else b::y)=(if c then a else b)::(if c then x else y):=by split <;> rfl
theorem ZsR (k:IntKind) (a b:Int):(if c then AVal.int k a else AVal.int k b)=AVal.int k (if c then a else b):=by split <;> rfl
theorem Zoh (a b:Bool):(if c then AVal.bool a else AVal.bool b)=AVal.bool (if c then a else b):=by split <;> rfl
theorem Zpp (a b:List UInt8):(if c then AVal.str a else AVal.str b)=AVal.str (if c then a else b):=by split <;> rfl
theorem ZwT (p q:Bool) (a b:List AVal):(if c then AVal.lst p a else AVal.lst q b)=AVal.lst (if c then p else q) (if c then a else b):=by split <;> rfl
theorem Zsh (a b:List AVal):(if c then AVal.agg a else AVal.agg b)=AVal.agg (if c then a else b):=by split <;> rfl
theorem ZqX (a b:List AVal):(if c then Zl.var a else Zl.var b)=Zl.var (if c then a else b):=by split <;> rfl
theorem ZqZ (g k:Nat) (a b:List AVal):(if c then Zl.row g k a else Zl.row g k b)=Zl.row g k (if c then a else b):=by split <;> rfl
theorem Zr5 (t:Nat) (a b:Nat):(if c then AVal.ref t a else AVal.ref t b)=AVal.ref t (if c then a else b):=by split <;> rfl
theorem ZX {α:Type} (x y z:α):(if c then (if c then x else y) else z)=if c then x else z:=by split <;> rfl
theorem ZT {α:Type} (x y z:α):(if c then x else (if c then y else z))=if c then x else z:=by split <;> rfl
theorem Z2 {α:Type} (x y z:α):(if c then (if ¬c then x else y) else z)=if c then y else z:=by split <;> simp_all
theorem ZP {α:Type} (x y z:α):(if c then x else (if ¬c then y else z))=if c then x else y:=by split <;> simp_all
theorem ZvA (σ:Za) (a b:AVal) (p:Bool):Zc0 σ a b (.bool p)=some (if p=true then a else b,σ,{}):=by cases p <;> rfl
theorem Zo8 (a b:AVal):Zab (if c then a else b)=if c then Zab a else Zab b:=by split <;> rfl
end
section
variable {fs:Nat->Option Zad} {prim:ZaM} {bf:Nat->Bool} {m0:Nat}
theorem ZnI (p:Bool) (a b:Zg) (tm:Tms) (σ:Za):ZeM fs prim bf m0 a b tm σ (.bool p)=if p=true then evC fs prim bf m0 a tm σ else evC fs prim bf m0 b tm σ:=by
 cases p <;> rfl
theorem Zs9 (b:Zg) (tm:Tms) (σ:Za):ZbS fs prim bf m0 b (some (.normal,tm,σ))=evC fs prim bf m0 b tm σ:=rfl
theorem Zs7 (b:Zg) (i:Nat) (tm:Tms) (σ:Za):ZbS fs prim bf m0 b (some (.exit i,tm,σ))=some (.exit i,tm,σ):=rfl
theorem Zk4 (b:Zg) (tm:Tms) (σ:Za):ZbS fs prim bf m0 b (some (.ret,tm,σ))=some (.ret,tm,σ):=rfl
theorem Zrf (b:Zg) (x:AVal) (tm:Tms) (σ:Za):ZbS fs prim bf m0 b (some (.panic x,tm,σ))=some (.panic x,tm,σ):=rfl
theorem Zxb (c:Prop) [Decidable c] (b:Zg) (x y:Option (Z7×Tms×Za)):ZbS fs prim bf m0 b (if c then x else y)=if c then ZbS fs prim bf m0 b x else ZbS fs prim bf m0 b y:=by split <;> rfl
theorem Zp9 (id:Nat) (tm:Tms) (σ:Za):WU (Za6 id) (some (.normal,tm,σ))=some (.normal,tm,σ):=rfl
theorem Zo3 (id i:Nat) (tm:Tms) (σ:Za):WU (Za6 id) (some (.exit i,tm,σ))=if i=id then some (.normal,tm,σ) else some (.exit i,tm,σ):=by
 simp only [XK,Za6];split <;> rfl
theorem Zn9 (id:Nat) (tm:Tms) (σ:Za):WU (Za6 id) (some (.ret,tm,σ))=some (.ret,tm,σ):=rfl
theorem ZwS (id:Nat) (x:AVal) (tm:Tms) (σ:Za):WU (Za6 id) (some (.panic x,tm,σ))=some (.panic x,tm,σ):=rfl
theorem ZuE (id:Nat) (c:Prop) [Decidable c] (x y:Option (Z7×Tms×Za)):WU (Za6 id) (if c then x else y)=if c then WU (Za6 id) x else WU (Za6 id) y:=by split <;> rfl
theorem Zxw (m:Nat) (fn:Zad) (c:Prop) [Decidable c] (x y:Option (Z7×Tms×Za)):Zas m fn (if c then x else y)=if c then Zas m fn x else Zas m fn y:=by split <;> rfl
end
section
variable {fs:Nat->Option Zad} {prim:ZaM} {bf:Nat->Bool} {m0:Nat}
theorem Zs0 {live:List Nat} {c:Zg} {tm tm':Tms} {σ σ':Za} (h:evC fs prim bf m0 c tm σ=some (.normal,tm',σ')):evL fs prim bf m0 live c tm σ=evL fs prim bf m0 live c (gcT m0 (keepL live tm') σ').1 (gcT m0 (keepL live tm') σ').2:=by
 unfold evL
 rw [h]
 simp only
 rw [ZkN]
 rfl
theorem Zwp {live:List Nat} {c:Zg} {tm tm':Tms} {σ σ':Za} {i:Nat} (h:evC fs prim bf m0 c tm σ=some (.exit i,tm',σ')):evL fs prim bf m0 live c tm σ=some (.exit i,tm',σ'):=by
 unfold evL;rw [h]
theorem Zov {live:List Nat} {c:Zg} {tm tm':Tms} {σ σ':Za} (h:evC fs prim bf m0 c tm σ=some (.ret,tm',σ')):evL fs prim bf m0 live c tm σ=some (.ret,tm',σ'):=by
 unfold evL;rw [h]
variable (fs prim bf m0) in
noncomputable def evM (live:List Nat) (c:Zg):Option (Z7×Tms×Za)->Option (Z7×Tms×Za)
 | some (.normal,tm,σ)=>evL fs prim bf m0 live c (gcT m0 (keepL live tm) σ).1 (gcT m0 (keepL live tm) σ).2
 | r=>r
theorem ZaB (live:List Nat) (c:Zg) (tm:Tms) (σ:Za):evL fs prim bf m0 live c tm σ=evM fs prim bf m0 live c (evC fs prim bf m0 c tm σ):=by
 cases h:evC fs prim bf m0 c tm σ with
 | none=>unfold evL;rw [h];rfl
 | some q =>
  obtain ⟨e,tm',σ'⟩:=q
  cases e with
  | normal=>exact Zs0 h
  | exit i=>exact Zwp h
  | ret=>exact Zov h
  | panic x=>unfold evL;rw [h];rfl
theorem Zqr (live:List Nat) (c:Zg) (tm:Tms) (σ:Za):evM fs prim bf m0 live c (some (.normal,tm,σ))=evL fs prim bf m0 live c (gcT m0 (keepL live tm) σ).1 (gcT m0 (keepL live tm) σ).2:=rfl
theorem Zwk (live:List Nat) (c:Zg) (i:Nat) (tm:Tms) (σ:Za):evM fs prim bf m0 live c (some (.exit i,tm,σ))=some (.exit i,tm,σ):=rfl
theorem Zto (live:List Nat) (c:Zg) (tm:Tms) (σ:Za):evM fs prim bf m0 live c (some (.ret,tm,σ))=some (.ret,tm,σ):=rfl
theorem ZrB (live:List Nat) (c:Zg) (x:AVal) (tm:Tms) (σ:Za):evM fs prim bf m0 live c (some (.panic x,tm,σ))=some (.panic x,tm,σ):=rfl
theorem Zwr (live:List Nat) (b:Zg) (c:Prop) [Decidable c] (x y:Option (Z7×Tms×Za)):evM fs prim bf m0 live b (if c then x else y)=if c then evM fs prim bf m0 live b x else evM fs prim bf m0 live b y:=by split <;> rfl
end
def Zai:AVal->Bool
 | .int _ _=>true
 | .bool _=>true
 | .str _=>true
 | .nilp=>true
 | .nilm=>true
 | .nili=>true
 | .lst _ _=>true
 | .fn _ []=>true
 | _=>false
def Zag:AVal->Bool
 | .agg cs=>cs.all Zai
 | x=>Zai x
def Zao:AVal->AVal
 | .lst _ xs=>.lst false xs
 | x=>x
def Zac:AVal->AVal
 | .agg cs=>.agg (cs.map Zao)
 | x=>Zao x
theorem ZiB {σ:Za} {x:AVal} (h:Zai x=true):Zbc σ x=some (Zao x,[]):=by
 cases x <;> first | (simp [Zai] at h;done) | rfl
theorem Zkq {σ:Za}:∀ {xs:List AVal},xs.all Zai=true->Zbo σ xs=some (xs.map Zao,[])
 | [],_=>rfl
 | x::xs,h=>by
  simp only [X2,Xc] at h
  simp only [Zbo,ZiB h.1,Zkq h.2,XC,XS]
theorem ZdW {x:AVal} (h:∀ cs,x≠.agg cs):Zag x=Zai x/\Zac x=Zao x:=by
 cases x <;> first | exact ⟨rfl,rfl⟩ | exact absurd rfl (h _)
theorem Zo0 {σ:Za} {x:AVal} (h:∀ cs,x≠.agg cs):showA σ x=Zbc σ x:=by
 cases x <;> first | rfl | exact absurd rfl (h _)
theorem Zh1 (x:AVal):(∃ cs,x=.agg cs)\/∀ cs,x≠.agg cs:=by
 cases x <;> first | exact Xn ⟨_,rfl⟩ | (right;intro cs;simp)
theorem Zv8 {σ:Za} {x:AVal} (h:Zag x=true):showA σ x=some (Zac x,[]):=by
 rcases Zh1 x with ⟨cs,rfl⟩ | hn
 ·simp only [Zag] at h
  simp only [showA,Zkq h,Zac]
 ·rw [(ZdW hn).1] at h
  rw [Zo0 hn,(ZdW hn).2]
  exact ZiB h
theorem ZjC {σ:Za}:∀ {xs:List AVal},xs.all Zag=true->showAs σ xs=some (xs.map Zac,[])
 | [],_=>rfl
 | x::xs,h=>by
  simp only [X2,Xc] at h
  simp only [showAs,Zv8 h.1,ZjC h.2,XC,XS]
theorem ZiQ {x:AVal} (h:Zai x=true):Zal (Zao x)=[]:=by
 cases x
 case fn f cs=>cases cs <;> simp [Zai] at h;rfl
 all_goals first | (simp [Zai] at h;done) | rfl
theorem Zkn:∀ {xs:List AVal},xs.all Zai=true->ZR (xs.map Zao)=[]
 | [],_=>rfl
 | x::xs,h=>by
  simp only [X2,Xc] at h
  simp only [XC,ZR,ZiQ h.1,Zkn h.2,XS]
theorem ZvS {x:AVal} (h:Zag x=true):Zal (Zac x)=[]:=by
 rcases Zh1 x with ⟨cs,rfl⟩ | hn
 ·simp only [Zag] at h
  simp only [Zac,Zal];exact Zkn h
 ·rw [(ZdW hn).1] at h
  rw [(ZdW hn).2];exact ZiQ h
theorem ZgN:∀ {xs:List AVal},xs.all Zag=true->ZR (xs.map Zac)=[]
 | [],_=>rfl
 | x::xs,h=>by
  simp only [X2,Xc] at h
  simp only [XC,ZR,ZvS h.1,ZgN h.2,XS]
theorem Ziy {ρ:Rho} {x:AVal} (h:Zai x=true):Ze ρ (Zao x)=Zao x:=by
 cases x
 case fn f cs=>cases cs <;> simp [Zai] at h;rfl
 all_goals first | (simp [Zai] at h;done) | rfl
theorem ZjQ {ρ:Rho}:∀ {xs:List AVal},xs.all Zai=true->ZH ρ (xs.map Zao)=xs.map Zao
 | [],_=>rfl
 | x::xs,h=>by
  simp only [X2,Xc] at h
  simp only [XC,ZH,Ziy h.1,ZjQ h.2]
theorem ZtZ {ρ:Rho} {x:AVal} (h:Zag x=true):Ze ρ (Zac x)=Zac x:=by
 rcases Zh1 x with ⟨cs,rfl⟩ | hn
 ·simp only [Zag] at h
  simp only [Zac,Ze];rw [ZjQ h]
 ·rw [(ZdW hn).1] at h
  rw [(ZdW hn).2];exact Ziy h
theorem ZgW {ρ:Rho}:∀ {xs:List AVal},xs.all Zag=true->ZH ρ (xs.map Zac)=xs.map Zac
 | [],_=>rfl
 | x::xs,h=>by
  simp only [X2,Xc] at h
  simp only [XC,ZH,ZtZ h.1,ZgW h.2]
theorem ZkL {O:Zo} {bf:Nat->Bool} {σ:Za} {sq f own:Nat} {view:Bool} {args:List AVal} (hb:bf f=false) (h:args.all Zag=true) :
  Zr O bf σ sq f own view args=Zaj σ σ [] [] sq own (Zat view 0 (O f (args.map Zac) [])):=by
 unfold Zr ZbE
 rw [hb]
 simp only [Xo,if_false,ZjC h]
 have h1:Zh σ []=σ:=rfl
 rw [h1,ZgN h]
 have h2:Zi σ 1000 [] []=[]:=rfl
 rw [h2]
 unfold Zbg
 simp only [WH,if_true,ZgW h,Zj,Wz]
theorem ZjG (σ:Za) (sq own:Nat) (r:AVal) (h:Ze (ZaA [] [] sq) r=r):Zaj σ σ [] [] sq own (some (r,[]))=some (r,σ,{}):=by
 simp only [Zaj,Wu,Ww,if_true,Zbt,Bool.not_true,Xaw,Xo,if_false]
 split
 ·rfl
 ·rw [h]
end
section
section
variable (ρ:Rho) (σ:Za)
theorem Znc  : Zab (.top)=false:=rfl
theorem Zp8  : Zab (.any)=false:=rfl
theorem Zvy (k:IntKind) (n:Int):Zab (.int k n)=false:=rfl
theorem Zpv (b:Bool):Zab (.bool b)=false:=rfl
theorem ZpQ (l:List UInt8):Zab (.str l)=false:=rfl
theorem Zpu  : Zab (.nilp)=false:=rfl
theorem ZqS (t:Nat) (o:Nat):Zab (.ref t o)=false:=rfl
theorem ZpR (t:Nat) (g:Nat) (i:Nat) (o:Nat):Zab (.eref t g i o)=false:=rfl
theorem ZnZ (cs:List AVal) (o:Nat):Zab (.iptr cs o)=false:=rfl
theorem Zu1 (x:Bool) (xs:List AVal):Zab (.lst x xs)=false:=rfl
theorem ZwK (t:Nat) (g:Nat) (lo:Nat) (n:Nat):Zab (.sl t g lo n)=false:=rfl
theorem Zt4 (cs:List AVal):Zab (.agg cs)=false:=rfl
theorem Zxe (vs:List AVal):Zab (.tup vs)=false:=rfl
theorem Zqo (f:Nat) (caps:List AVal):Zab (.fn f caps)=false:=rfl
theorem Zlt  : Zab (.nilm)=false:=rfl
theorem Zuf (t:Nat):Zab (.map t)=false:=rfl
theorem Zow  : Zab (.nili)=false:=rfl
theorem Zpw (t:Nat) (x:AVal):Zab (.iface t x)=false:=rfl
theorem Zvk (x:AVal):Zab (.pan x)=true:=rfl
theorem ZsI  : Zy (.top)=false:=rfl
theorem Zrt  : Zy (.any)=true:=rfl
theorem Zv1 (k:IntKind) (n:Int):Zy (.int k n)=true:=rfl
theorem Zvc (b:Bool):Zy (.bool b)=true:=rfl
theorem Zp5 (l:List UInt8):Zy (.str l)=true:=rfl
theorem ZrQ  : Zy (.nilp)=true:=rfl
theorem Zsu (t:Nat) (o:Nat):Zy (.ref t o)=true:=rfl
theorem ZpD (t:Nat) (g:Nat) (i:Nat) (o:Nat):Zy (.eref t g i o)=true:=rfl
theorem Zxr (cs:List AVal) (o:Nat):Zy (.iptr cs o)=true:=rfl
theorem ZwV (x:Bool) (xs:List AVal):Zy (.lst x xs)=true:=rfl
theorem ZoK (t:Nat) (g:Nat) (lo:Nat) (n:Nat):Zy (.sl t g lo n)=true:=rfl
theorem ZvH (cs:List AVal):Zy (.agg cs)=false:=rfl
theorem Zw9 (vs:List AVal):Zy (.tup vs)=false:=rfl
theorem ZpW (f:Nat) (caps:List AVal):Zy (.fn f caps)=true:=rfl
theorem Zv3  : Zy (.nilm)=true:=rfl
theorem Zvf (t:Nat):Zy (.map t)=true:=rfl
theorem Zrc  : Zy (.nili)=true:=rfl
theorem ZqK (t:Nat) (x:AVal):Zy (.iface t x)=true:=rfl
theorem Zpf (x:AVal):Zy (.pan x)=false:=rfl
theorem ZoG  : ZaN (.top)=false:=rfl
theorem ZwO  : ZaN (.any)=true:=rfl
theorem ZwI (k:IntKind) (n:Int):ZaN (.int k n)=true:=rfl
theorem ZlR (b:Bool):ZaN (.bool b)=true:=rfl
theorem Zvw (l:List UInt8):ZaN (.str l)=true:=rfl
theorem ZuW  : ZaN (.nilp)=true:=rfl
theorem Zp0 (t:Nat) (o:Nat):ZaN (.ref t o)=true:=rfl
theorem ZqI (t:Nat) (g:Nat) (i:Nat) (o:Nat):ZaN (.eref t g i o)=true:=rfl
theorem ZlN (cs:List AVal) (o:Nat):ZaN (.iptr cs o)=true:=rfl
theorem Zt6 (x:Bool) (xs:List AVal):ZaN (.lst x xs)=true:=rfl
theorem Zli (t:Nat) (g:Nat) (lo:Nat) (n:Nat):ZaN (.sl t g lo n)=true:=rfl
theorem ZvV (cs:List AVal):ZaN (.agg cs)=true:=rfl
theorem Zrl (vs:List AVal):ZaN (.tup vs)=true:=rfl
theorem Zm6 (f:Nat) (caps:List AVal):ZaN (.fn f caps)=true:=rfl
theorem ZoX  : ZaN (.nilm)=true:=rfl
theorem ZsG (t:Nat):ZaN (.map t)=true:=rfl
theorem Zp4  : ZaN (.nili)=true:=rfl
theorem Zvb (t:Nat) (x:AVal):ZaN (.iface t x)=true:=rfl
theorem Zqw (x:AVal):ZaN (.pan x)=true:=rfl
theorem Zms  : Zan (.top)=false:=rfl
theorem Zwu  : Zan (.any)=false:=rfl
theorem Zpi (k:IntKind) (n:Int):Zan (.int k n)=true:=rfl
theorem Zl7 (b:Bool):Zan (.bool b)=true:=rfl
theorem Zr3 (l:List UInt8):Zan (.str l)=true:=rfl
theorem Zws  : Zan (.nilp)=true:=rfl
theorem ZnP (t:Nat) (o:Nat):Zan (.ref t o)=false:=rfl
theorem Zlf (t:Nat) (g:Nat) (i:Nat) (o:Nat):Zan (.eref t g i o)=false:=rfl
theorem Zsr (cs:List AVal) (o:Nat):Zan (.iptr cs o)=false:=rfl
theorem ZlD (x:Bool) (xs:List AVal):Zan (.lst x xs)=false:=rfl
theorem ZmA (t:Nat) (g:Nat) (lo:Nat) (n:Nat):Zan (.sl t g lo n)=false:=rfl
theorem Zou (cs:List AVal):Zan (.agg cs)=false:=rfl
theorem Zwn (vs:List AVal):Zan (.tup vs)=false:=rfl
theorem ZlK (f:Nat) (caps:List AVal):Zan (.fn f caps)=false:=rfl
theorem Zv0  : Zan (.nilm)=true:=rfl
theorem ZmR (t:Nat):Zan (.map t)=false:=rfl
theorem ZoQ  : Zan (.nili)=true:=rfl
theorem Znd (t:Nat) (x:AVal):Zan (.iface t x)=false:=rfl
theorem Zs6 (x:AVal):Zan (.pan x)=false:=rfl
theorem ZuF  : Zau (.top)=false:=rfl
theorem Zrm  : Zau (.any)=false:=rfl
theorem Zug (k:IntKind) (n:Int):Zau (.int k n)=true:=rfl
theorem ZrW (b:Bool):Zau (.bool b)=true:=rfl
theorem ZsA (l:List UInt8):Zau (.str l)=true:=rfl
theorem ZvN  : Zau (.nilp)=true:=rfl
theorem Znn (t:Nat) (o:Nat):Zau (.ref t o)=false:=rfl
theorem Ztl (t:Nat) (g:Nat) (i:Nat) (o:Nat):Zau (.eref t g i o)=false:=rfl
theorem ZmL (cs:List AVal) (o:Nat):Zau (.iptr cs o)=false:=rfl
theorem ZtB (x:Bool) (xs:List AVal):Zau (.lst x xs)=false:=rfl
theorem Zwh (t:Nat) (g:Nat) (lo:Nat) (n:Nat):Zau (.sl t g lo n)=false:=rfl
theorem Zvs (cs:List AVal):Zau (.agg cs)=cs.all Zan:=rfl
theorem Zvt (vs:List AVal):Zau (.tup vs)=false:=rfl
theorem Zt3 (f:Nat) (caps:List AVal):Zau (.fn f caps)=false:=rfl
theorem Zuq  : Zau (.nilm)=true:=rfl
theorem Zxy (t:Nat):Zau (.map t)=false:=rfl
theorem ZxA  : Zau (.nili)=true:=rfl
theorem Zlj (t:Nat) (x:AVal):Zau (.iface t x)=false:=rfl
theorem Zwm (x:AVal):Zau (.pan x)=false:=rfl
theorem Znw  : Zaz (.top)=false:=rfl
theorem Ztu  : Zaz (.any)=false:=rfl
theorem Zrj (k:IntKind) (n:Int):Zaz (.int k n)=true:=rfl
theorem ZpN (b:Bool):Zaz (.bool b)=true:=rfl
theorem ZqB (l:List UInt8):Zaz (.str l)=true:=rfl
theorem Zl9  : Zaz (.nilp)=true:=rfl
theorem Zno (t:Nat) (o:Nat):Zaz (.ref t o)=false:=rfl
theorem ZrO (t:Nat) (g:Nat) (i:Nat) (o:Nat):Zaz (.eref t g i o)=false:=rfl
theorem Zp2 (cs:List AVal) (o:Nat):Zaz (.iptr cs o)=false:=rfl
theorem ZnE (x:Bool) (xs:List AVal):Zaz (.lst x xs)=false:=rfl
theorem Znr (t:Nat) (g:Nat) (lo:Nat) (n:Nat):Zaz (.sl t g lo n)=false:=rfl
theorem ZoT (cs:List AVal):Zaz (.agg cs)=cs.all Zan:=rfl
theorem Zs2 (vs:List AVal):Zaz (.tup vs)=vs.all Zau:=rfl
theorem ZqW (f:Nat) (caps:List AVal):Zaz (.fn f caps)=false:=rfl
theorem Zsd  : Zaz (.nilm)=true:=rfl
theorem Zq6 (t:Nat):Zaz (.map t)=false:=rfl
theorem Zso  : Zaz (.nili)=true:=rfl
theorem ZvD (t:Nat) (x:AVal):Zaz (.iface t x)=false:=rfl
theorem Zrv  : Zai (.top)=false:=rfl
theorem Zo2  : Zai (.any)=false:=rfl
theorem Zxk (k:IntKind) (n:Int):Zai (.int k n)=true:=rfl
theorem ZvJ (b:Bool):Zai (.bool b)=true:=rfl
theorem ZnY (l:List UInt8):Zai (.str l)=true:=rfl
theorem Zud  : Zai (.nilp)=true:=rfl
theorem ZoA (t:Nat) (o:Nat):Zai (.ref t o)=false:=rfl
theorem Zlq (t:Nat) (g:Nat) (i:Nat) (o:Nat):Zai (.eref t g i o)=false:=rfl
theorem ZsH (cs:List AVal) (o:Nat):Zai (.iptr cs o)=false:=rfl
theorem Zuz (x:Bool) (xs:List AVal):Zai (.lst x xs)=true:=rfl
theorem ZtO (t:Nat) (g:Nat) (lo:Nat) (n:Nat):Zai (.sl t g lo n)=false:=rfl
theorem Zsk (cs:List AVal):Zai (.agg cs)=false:=rfl
theorem ZpY (vs:List AVal):Zai (.tup vs)=false:=rfl
theorem Zor  : Zai (.nilm)=true:=rfl
theorem ZsL (t:Nat):Zai (.map t)=false:=rfl
theorem Zxn  : Zai (.nili)=true:=rfl
theorem ZpK (t:Nat) (x:AVal):Zai (.iface t x)=false:=rfl
theorem Ztq (x:AVal):Zai (.pan x)=false:=rfl
theorem ZqH  : Zag (.top)=false:=rfl
theorem Ztf  : Zag (.any)=false:=rfl
theorem Zt2 (k:IntKind) (n:Int):Zag (.int k n)=true:=rfl
theorem ZvM (b:Bool):Zag (.bool b)=true:=rfl
theorem ZrF (l:List UInt8):Zag (.str l)=true:=rfl
theorem ZlW  : Zag (.nilp)=true:=rfl
theorem Zo1 (t:Nat) (o:Nat):Zag (.ref t o)=false:=rfl
theorem ZwL (t:Nat) (g:Nat) (i:Nat) (o:Nat):Zag (.eref t g i o)=false:=rfl
theorem ZnH (cs:List AVal) (o:Nat):Zag (.iptr cs o)=false:=rfl
theorem ZsE (x:Bool) (xs:List AVal):Zag (.lst x xs)=true:=rfl
theorem Zqj (t:Nat) (g:Nat) (lo:Nat) (n:Nat):Zag (.sl t g lo n)=false:=rfl
theorem ZwA (cs:List AVal):Zag (.agg cs)=cs.all Zai:=rfl
theorem Zsj (vs:List AVal):Zag (.tup vs)=false:=rfl
theorem Zuj  : Zag (.nilm)=true:=rfl
theorem ZsD (t:Nat):Zag (.map t)=false:=rfl
theorem ZuL  : Zag (.nili)=true:=rfl
theorem Znf (t:Nat) (x:AVal):Zag (.iface t x)=false:=rfl
theorem ZqQ (x:AVal):Zag (.pan x)=false:=rfl
theorem Zoe  : Zao (.top)=(.top):=rfl
theorem Ztz  : Zao (.any)=(.any):=rfl
theorem ZoV (k:IntKind) (n:Int):Zao (.int k n)=(.int k n):=rfl
theorem Zos (b:Bool):Zao (.bool b)=(.bool b):=rfl
theorem Zu3 (l:List UInt8):Zao (.str l)=(.str l):=rfl
theorem Zn2  : Zao (.nilp)=(.nilp):=rfl
theorem ZsQ (t:Nat) (o:Nat):Zao (.ref t o)=(.ref t o):=rfl
theorem ZoZ (t:Nat) (g:Nat) (i:Nat) (o:Nat):Zao (.eref t g i o)=(.eref t g i o):=rfl
theorem Zmr (cs:List AVal) (o:Nat):Zao (.iptr cs o)=(.iptr cs o):=rfl
theorem Zk6 (x:Bool) (xs:List AVal):Zao (.lst x xs)=.lst false xs:=rfl
theorem Zqd (t:Nat) (g:Nat) (lo:Nat) (n:Nat):Zao (.sl t g lo n)=(.sl t g lo n):=rfl
theorem Zqz (cs:List AVal):Zao (.agg cs)=(.agg cs):=rfl
theorem Zpk (vs:List AVal):Zao (.tup vs)=(.tup vs):=rfl
theorem ZmC (f:Nat) (caps:List AVal):Zao (.fn f caps)=(.fn f caps):=rfl
theorem ZmX  : Zao (.nilm)=(.nilm):=rfl
theorem ZoH (t:Nat):Zao (.map t)=(.map t):=rfl
theorem ZqA  : Zao (.nili)=(.nili):=rfl
theorem Zsq (t:Nat) (x:AVal):Zao (.iface t x)=(.iface t x):=rfl
theorem ZmP (x:AVal):Zao (.pan x)=(.pan x):=rfl
theorem Zqk  : Zac (.top)=(.top):=rfl
theorem Ztg  : Zac (.any)=(.any):=rfl
theorem ZtX (k:IntKind) (n:Int):Zac (.int k n)=(.int k n):=rfl
theorem ZrI (b:Bool):Zac (.bool b)=(.bool b):=rfl
theorem Zn5 (l:List UInt8):Zac (.str l)=(.str l):=rfl
theorem Zrx  : Zac (.nilp)=(.nilp):=rfl
theorem ZqV (t:Nat) (o:Nat):Zac (.ref t o)=(.ref t o):=rfl
theorem Zpn (t:Nat) (g:Nat) (i:Nat) (o:Nat):Zac (.eref t g i o)=(.eref t g i o):=rfl
theorem Zuo (cs:List AVal) (o:Nat):Zac (.iptr cs o)=(.iptr cs o):=rfl
theorem Zqh (x:Bool) (xs:List AVal):Zac (.lst x xs)=.lst false xs:=rfl
theorem Zuw (t:Nat) (g:Nat) (lo:Nat) (n:Nat):Zac (.sl t g lo n)=(.sl t g lo n):=rfl
theorem Zwy (cs:List AVal):Zac (.agg cs)=.agg (cs.map Zao):=rfl
theorem ZnN (vs:List AVal):Zac (.tup vs)=(.tup vs):=rfl
theorem Zth (f:Nat) (caps:List AVal):Zac (.fn f caps)=(.fn f caps):=rfl
theorem Zta  : Zac (.nilm)=(.nilm):=rfl
theorem Zxa (t:Nat):Zac (.map t)=(.map t):=rfl
theorem Zwx  : Zac (.nili)=(.nili):=rfl
theorem Zp3 (t:Nat) (x:AVal):Zac (.iface t x)=(.iface t x):=rfl
theorem Zuh (x:AVal):Zac (.pan x)=(.pan x):=rfl
theorem Ztr  : AVal.cells (.top)=[(.top)]:=rfl
theorem Zvz  : AVal.cells (.any)=[(.any)]:=rfl
theorem Zut (k:IntKind) (n:Int):AVal.cells (.int k n)=[(.int k n)]:=rfl
theorem ZsT (b:Bool):AVal.cells (.bool b)=[(.bool b)]:=rfl
theorem Zxf (l:List UInt8):AVal.cells (.str l)=[(.str l)]:=rfl
theorem Zu4  : AVal.cells (.nilp)=[(.nilp)]:=rfl
theorem Zr2 (t:Nat) (o:Nat):AVal.cells (.ref t o)=[(.ref t o)]:=rfl
theorem Zpe (t:Nat) (g:Nat) (i:Nat) (o:Nat):AVal.cells (.eref t g i o)=[(.eref t g i o)]:=rfl
theorem Zvq (cs:List AVal) (o:Nat):AVal.cells (.iptr cs o)=[(.iptr cs o)]:=rfl
theorem Zm7 (x:Bool) (xs:List AVal):AVal.cells (.lst x xs)=[(.lst x xs)]:=rfl
theorem ZtT (t:Nat) (g:Nat) (lo:Nat) (n:Nat):AVal.cells (.sl t g lo n)=[(.sl t g lo n)]:=rfl
theorem Zw0 (cs:List AVal):AVal.cells (.agg cs)=cs:=rfl
theorem ZuM (vs:List AVal):AVal.cells (.tup vs)=[(.tup vs)]:=rfl
theorem ZwE (f:Nat) (caps:List AVal):AVal.cells (.fn f caps)=[(.fn f caps)]:=rfl
theorem Zqi  : AVal.cells (.nilm)=[(.nilm)]:=rfl
theorem ZpC (t:Nat):AVal.cells (.map t)=[(.map t)]:=rfl
theorem Zpy  : AVal.cells (.nili)=[(.nili)]:=rfl
theorem Zmi (t:Nat) (x:AVal):AVal.cells (.iface t x)=[(.iface t x)]:=rfl
theorem ZrK (x:AVal):AVal.cells (.pan x)=[(.pan x)]:=rfl
theorem Zof  : Zaf (.top)=(.top):=rfl
theorem ZuD  : Zaf (.any)=(.any):=rfl
theorem Zpc (k:IntKind) (n:Int):Zaf (.int k n)=(.int k n):=rfl
theorem ZmM (b:Bool):Zaf (.bool b)=(.bool b):=rfl
theorem ZpS (l:List UInt8):Zaf (.str l)=(.str l):=rfl
theorem Zmo  : Zaf (.nilp)=(.nilp):=rfl
theorem ZmE (t:Nat) (o:Nat):Zaf (.ref t o)=(.ref t o):=rfl
theorem ZvB (t:Nat) (g:Nat) (i:Nat) (o:Nat):Zaf (.eref t g i o)=(.eref t g i o):=rfl
theorem ZwW (cs:List AVal) (o:Nat):Zaf (.iptr cs o)=(.iptr cs o):=rfl
theorem ZlS (x:Bool) (xs:List AVal):Zaf (.lst x xs)=(.lst x xs):=rfl
theorem Zw5 (t:Nat) (g:Nat) (lo:Nat) (n:Nat):Zaf (.sl t g lo n)=(.sl t g lo n):=rfl
theorem ZlA (cs:List AVal):Zaf (.agg cs)=(.agg cs):=rfl
theorem Zml (vs:List AVal):Zaf (.tup vs)=(.tup vs):=rfl
theorem ZtP (f:Nat) (caps:List AVal):Zaf (.fn f caps)=(.fn f caps):=rfl
theorem Zpm  : Zaf (.nilm)=(.nilm):=rfl
theorem ZuT (t:Nat):Zaf (.map t)=(.map t):=rfl
theorem Zoy  : Zaf (.nili)=(.nili):=rfl
theorem ZlT (t:Nat) (x:AVal):Zaf (.iface t x)=(.iface t x):=rfl
theorem ZvO (x:AVal):Zaf (.pan x)=x:=rfl
theorem Zq5  : Zah (.top)=4:=rfl
theorem ZlZ  : Zah (.any)=4:=rfl
theorem Zsb (k:IntKind) (n:Int):Zah (.int k n)=0:=rfl
theorem Zss (b:Bool):Zah (.bool b)=1:=rfl
theorem Znm (l:List UInt8):Zah (.str l)=2:=rfl
theorem ZoU  : Zah (.nilp)=4:=rfl
theorem Zwb (t:Nat) (o:Nat):Zah (.ref t o)=4:=rfl
theorem Zlw (t:Nat) (g:Nat) (i:Nat) (o:Nat):Zah (.eref t g i o)=4:=rfl
theorem ZlH (cs:List AVal) (o:Nat):Zah (.iptr cs o)=4:=rfl
theorem Zxs (x:Bool) (xs:List AVal):Zah (.lst x xs)=4:=rfl
theorem ZoF (t:Nat) (g:Nat) (lo:Nat) (n:Nat):Zah (.sl t g lo n)=4:=rfl
theorem Zk7 (cs:List AVal):Zah (.agg cs)=4:=rfl
theorem Zna (vs:List AVal):Zah (.tup vs)=4:=rfl
theorem ZmW (f:Nat) (caps:List AVal):Zah (.fn f caps)=4:=rfl
theorem Ztx  : Zah (.nilm)=4:=rfl
theorem Ztt (t:Nat):Zah (.map t)=4:=rfl
theorem Zl4  : Zah (.nili)=4:=rfl
theorem Zw3 (t:Nat) (x:AVal):Zah (.iface t x)=4:=rfl
theorem Zn7 (x:AVal):Zah (.pan x)=4:=rfl
theorem Zlz  : Zal (.top)=[]:=rfl
theorem Znb  : Zal (.any)=[]:=rfl
theorem Zu6 (k:IntKind) (n:Int):Zal (.int k n)=[]:=rfl
theorem Zr1 (b:Bool):Zal (.bool b)=[]:=rfl
theorem Zog (l:List UInt8):Zal (.str l)=[]:=rfl
theorem ZtS  : Zal (.nilp)=[]:=rfl
theorem Ztk (t:Nat) (o:Nat):Zal (.ref t o)=[t]:=rfl
theorem Zrn (t:Nat) (g:Nat) (i:Nat) (o:Nat):Zal (.eref t g i o)=[t]:=rfl
theorem ZoR (cs:List AVal) (o:Nat):Zal (.iptr cs o)=[]:=rfl
theorem Zxo (x:Bool) (xs:List AVal):Zal (.lst x xs)=[]:=rfl
theorem Zwv (t:Nat) (g:Nat) (lo:Nat) (n:Nat):Zal (.sl t g lo n)=[t]:=rfl
theorem ZqN (cs:List AVal):Zal (.agg cs)=ZR cs:=rfl
theorem Ztj (vs:List AVal):Zal (.tup vs)=ZR vs:=rfl
theorem ZsB (f:Nat) (caps:List AVal):Zal (.fn f caps)=ZR caps:=rfl
theorem Zlr  : Zal (.nilm)=[]:=rfl
theorem ZuZ (t:Nat):Zal (.map t)=[t]:=rfl
theorem Zv2  : Zal (.nili)=[]:=rfl
theorem Zw7 (t:Nat) (x:AVal):Zal (.iface t x)=Zal x:=rfl
theorem ZrX (x:AVal):Zal (.pan x)=Zal x:=rfl
theorem Zxu  : Ze ρ (.top)=(.top):=rfl
theorem Zwj  : Ze ρ (.any)=(.any):=rfl
theorem Zv9 (k:IntKind) (n:Int):Ze ρ (.int k n)=(.int k n):=rfl
theorem Zop (b:Bool):Ze ρ (.bool b)=(.bool b):=rfl
theorem ZwP (l:List UInt8):Ze ρ (.str l)=(.str l):=rfl
theorem ZvZ  : Ze ρ (.nilp)=(.nilp):=rfl
theorem Zns (cs:List AVal) (o:Nat):Ze ρ (.iptr cs o)=(.iptr cs o):=rfl
theorem ZnT (x:Bool) (xs:List AVal):Ze ρ (.lst x xs)=(.lst x xs):=rfl
theorem ZtE (cs:List AVal):Ze ρ (.agg cs)=.agg (ZH ρ cs):=rfl
theorem ZqM (vs:List AVal):Ze ρ (.tup vs)=.tup (ZH ρ vs):=rfl
theorem Zvi (f:Nat) (caps:List AVal):Ze ρ (.fn f caps)=.fn f (ZH ρ caps):=rfl
theorem Zr4  : Ze ρ (.nilm)=(.nilm):=rfl
theorem Zqa  : Ze ρ (.nili)=(.nili):=rfl
theorem Zve (t:Nat) (x:AVal):Ze ρ (.iface t x)=.iface t (Ze ρ x):=rfl
theorem ZrC (x:AVal):Ze ρ (.pan x)=.pan (Ze ρ x):=rfl
theorem ZpB (f:Nat):Zai (.fn f [])=true:=rfl
theorem Zoc (f:Nat):Zag (.fn f [])=true:=rfl
theorem ZrT (t:Nat) (x:AVal):Zaz (.pan (.iface t x))=Zan x:=rfl
theorem ZrL (live:List Nat) (tm:Tms):Zgs live (some (tm,σ,none))=some (.normal,keepL live tm,σ):=rfl
theorem Zv7 (live:List Nat) (tm:Tms) (x:AVal):Zgs live (some (tm,σ,some x))=some (.panic x,[],σ):=rfl
theorem Zlg (live:List Nat):Zgs live none=none:=rfl
theorem Zrp (t o:Nat):Ze ρ (.ref t o)=(match ρ t 0 with | some (t',0)=>.ref t' o | _=>.any):=rfl
theorem ZxB (t:Nat):Ze ρ (.map t)=(match ρ t 0 with | some (t',0)=>.map t' | _=>.any):=rfl
theorem Zoz (t g lo n:Nat):Ze ρ (.sl t g lo n)=(match ρ t g with | some (t',g')=>.sl t' g' lo n | none=>.any):=rfl
theorem ZoM (t g i o:Nat):Ze ρ (.eref t g i o)=(match ρ t g with | some (t',g')=>.eref t' g' i o | none=>.any):=rfl
theorem Zu7:ZR []=[]:=rfl
theorem Zsi (x:AVal) (xs:List AVal):ZR (x::xs)=Zal x++ZR xs:=rfl
theorem ZpJ:ZH ρ []=[]:=rfl
theorem Zxt (x:AVal) (xs:List AVal):ZH ρ (x::xs)=Ze ρ x::ZH ρ xs:=rfl
end
end
section
mutual
def Zae:AVal->Bool
 | .ref _ _=>false
 | .eref _ _ _ _=>false
 | .sl _ _ _ _=>false
 | .map _=>false
 | .agg cs=>Zx cs
 | .tup vs=>Zx vs
 | .fn _ vs=>Zx vs
 | .iface _ x=>Zae x
 | .pan x=>Zae x
 | .top=>true
 | .any=>true
 | .int _ _=>true
 | .bool _=>true
 | .str _=>true
 | .nilp=>true
 | .nilm=>true
 | .nili=>true
 | .iptr _ _=>true
 | .lst _ _=>true
def Zx:List AVal->Bool
 | []=>true
 | x::xs=>Zae x && Zx xs
end
mutual
theorem Ze6 (ρ:Rho):∀ (x:AVal),Zae x=true->Ze ρ x=x/\Zal x=[]
 | .ref _ _,h=>by simp [Zae] at h
 | .eref _ _ _ _,h=>by simp [Zae] at h
 | .sl _ _ _ _,h=>by simp [Zae] at h
 | .map _,h=>by simp [Zae] at h
 | .agg cs,h=>by have:=ZeC ρ cs (by simpa only [Zae] using h);exact ⟨by simp only [Ze,this.1],by simp only [Zal,this.2]⟩
 | .tup cs,h=>by have:=ZeC ρ cs (by simpa only [Zae] using h);exact ⟨by simp only [Ze,this.1],by simp only [Zal,this.2]⟩
 | .fn f cs,h=>by have:=ZeC ρ cs (by simpa only [Zae] using h);exact ⟨by simp only [Ze,this.1],by simp only [Zal,this.2]⟩
 | .iface t x,h=>by have:=Ze6 ρ x (by simpa only [Zae] using h);exact ⟨by simp only [Ze,this.1],by simp only [Zal,this.2]⟩
 | .pan x,h=>by have:=Ze6 ρ x (by simpa only [Zae] using h);exact ⟨by simp only [Ze,this.1],by simp only [Zal,this.2]⟩
 | .top,_=>⟨rfl,rfl⟩
 | .any,_=>⟨rfl,rfl⟩
 | .int _ _,_=>⟨rfl,rfl⟩
 | .bool _,_=>⟨rfl,rfl⟩
 | .str _,_=>⟨rfl,rfl⟩
 | .nilp,_=>⟨rfl,rfl⟩
 | .nilm,_=>⟨rfl,rfl⟩
 | .nili,_=>⟨rfl,rfl⟩
 | .iptr _ _,_=>⟨rfl,rfl⟩
 | .lst _ _,_=>⟨rfl,rfl⟩
theorem ZeC (ρ:Rho):∀ (xs:List AVal),Zx xs=true->ZH ρ xs=xs/\ZR xs=[]
 | [],_=>⟨rfl,rfl⟩
 | x::xs,h=>by
  simp only [Zx,Xc] at h
  have h1:=Ze6 ρ x h.1
  have h2:=ZeC ρ xs h.2
  exact ⟨by simp only [ZH,h1.1,h2.1],by simp only [ZR,h1.2,h2.2,XS]⟩
end
theorem ZkX {σ:Za} {r:AVal} (h:Zae r=true):ZaC 0 σ r=some (r,[]):=by
 have h1:=Ze6 (Zf σ 0 []) r h
 have hids:Zv 0 [r] σ=[]:=by
  unfold Zv
  simp only [ZR,h1.2,XS,List.range_zero,Xao]
  rfl
 unfold ZaC gcA
 simp only [hids,ZH,Zj,h1.1]
def Za7:AVal->AVal
 | .tup vs=>.tup (vs.map Zac)
 | x=>Zac x
def Za4:AVal->Bool
 | .tup vs=>vs.all Zag
 | x=>Zag x
def ZaK:AVal->Bool
 | .fn _ _=>false
 | _=>true
def ZaL:AVal->Bool
 | .agg cs=>cs.all ZaK
 | x=>ZaK x
def Za5:AVal->Bool
 | .tup vs=>vs.all ZaL
 | x=>ZaL x
theorem ZpF {k g n:Nat} {xs:List AVal} {σ:Za} {t:Nat} (hs:σ[t]?=some (.row g k xs)) (hn:n<=xs.length):Zb2 0 (some (.sl t g 0 n,σ))=some (.lst false (xs.take n),[]):=by
 have hv:viewR σ (.sl t g 0 n)=some (.lst false (xs.take n),[t]):=by
  simp only [viewR,Zbz,Zbb,Zk,hs,XG,hn,and_self,if_true,List.drop_zero]
 have e:Zb2 0 (some (.sl t g 0 n,σ))=(match viewR σ (.sl t g 0 n) with
  | some (r',ts)=>match gcA 0 [r'] (Zh σ ts) with
   | ([r''],σ')=>some (r'',σ')
   | _=>none
  | none=>none):=rfl
 rw [e,hv]
 exact ZkX rfl
theorem Zsw {m:Nat} {fn:Zad} {tm:Tms} {σ:Za}:Zas m fn (some (.ret,tm,σ))=match resA tm σ fn.res with
  | some r=>ZaC m σ r
  | none=>none:=rfl
theorem ZpT {m:Nat} {fn:Zad} {tm:Tms} {σ:Za}:Zas m fn (some (.normal,tm,σ))=match resA tm σ fn.res with
  | some r=>ZaC m σ r
  | none=>none:=rfl
theorem ZsO {m:Nat} {fn:Zad} {tm:Tms} {σ:Za} {x:AVal}:Zas m fn (some (.panic x,tm,σ))=ZaC m σ (.pan x):=rfl
theorem Zrz  : Zae (.top)=true:=rfl
theorem ZqP  : Zae (.any)=true:=rfl
theorem Zui (k:IntKind) (n:Int):Zae (.int k n)=true:=rfl
theorem Zl6 (b:Bool):Zae (.bool b)=true:=rfl
theorem Zqq (l:List UInt8):Zae (.str l)=true:=rfl
theorem Zv5  : Zae (.nilp)=true:=rfl
theorem Zo6 (t:Nat) (o:Nat):Zae (.ref t o)=false:=rfl
theorem ZpO (t:Nat) (g:Nat) (i:Nat) (o:Nat):Zae (.eref t g i o)=false:=rfl
theorem Zmd (cs:List AVal) (o:Nat):Zae (.iptr cs o)=true:=rfl
theorem ZuU (x:Bool) (xs:List AVal):Zae (.lst x xs)=true:=rfl
theorem ZtM (t:Nat) (g:Nat) (lo:Nat) (n:Nat):Zae (.sl t g lo n)=false:=rfl
theorem ZnF (cs:List AVal):Zae (.agg cs)=Zx cs:=rfl
theorem ZlL (vs:List AVal):Zae (.tup vs)=Zx vs:=rfl
theorem Zvh (f:Nat) (caps:List AVal):Zae (.fn f caps)=Zx caps:=rfl
theorem Zur  : Zae (.nilm)=true:=rfl
theorem Zxp (t:Nat):Zae (.map t)=false:=rfl
theorem Zv4  : Zae (.nili)=true:=rfl
theorem ZsJ (t:Nat) (x:AVal):Zae (.iface t x)=Zae x:=rfl
theorem ZsW (x:AVal):Zae (.pan x)=Zae x:=rfl
theorem Zly  : ZaK (.top)=true:=rfl
theorem ZnQ  : ZaK (.any)=true:=rfl
theorem Zt9 (k:IntKind) (n:Int):ZaK (.int k n)=true:=rfl
theorem Zm0 (b:Bool):ZaK (.bool b)=true:=rfl
theorem ZsU (l:List UInt8):ZaK (.str l)=true:=rfl
theorem ZmQ  : ZaK (.nilp)=true:=rfl
theorem Zlo (t:Nat) (o:Nat):ZaK (.ref t o)=true:=rfl
theorem Znh (t:Nat) (g:Nat) (i:Nat) (o:Nat):ZaK (.eref t g i o)=true:=rfl
theorem ZrH (cs:List AVal) (o:Nat):ZaK (.iptr cs o)=true:=rfl
theorem ZlE (x:Bool) (xs:List AVal):ZaK (.lst x xs)=true:=rfl
theorem ZuC (t:Nat) (g:Nat) (lo:Nat) (n:Nat):ZaK (.sl t g lo n)=true:=rfl
theorem ZlY (cs:List AVal):ZaK (.agg cs)=true:=rfl
theorem ZtD (vs:List AVal):ZaK (.tup vs)=true:=rfl
theorem Zua (f:Nat) (caps:List AVal):ZaK (.fn f caps)=false:=rfl
theorem ZwC  : ZaK (.nilm)=true:=rfl
theorem Zus (t:Nat):ZaK (.map t)=true:=rfl
theorem ZqD  : ZaK (.nili)=true:=rfl
theorem Zwf (t:Nat) (x:AVal):ZaK (.iface t x)=true:=rfl
theorem ZvG (x:AVal):ZaK (.pan x)=true:=rfl
theorem ZpA  : ZaL (.top)=true:=rfl
theorem Zvj  : ZaL (.any)=true:=rfl
theorem Zpl (k:IntKind) (n:Int):ZaL (.int k n)=true:=rfl
theorem Zom (b:Bool):ZaL (.bool b)=true:=rfl
theorem Zoo (l:List UInt8):ZaL (.str l)=true:=rfl
theorem ZrJ  : ZaL (.nilp)=true:=rfl
theorem ZmF (t:Nat) (o:Nat):ZaL (.ref t o)=true:=rfl
theorem Zlb (t:Nat) (g:Nat) (i:Nat) (o:Nat):ZaL (.eref t g i o)=true:=rfl
theorem ZwD (cs:List AVal) (o:Nat):ZaL (.iptr cs o)=true:=rfl
theorem ZoP (x:Bool) (xs:List AVal):ZaL (.lst x xs)=true:=rfl
theorem Zr9 (t:Nat) (g:Nat) (lo:Nat) (n:Nat):ZaL (.sl t g lo n)=true:=rfl
theorem ZtC (cs:List AVal):ZaL (.agg cs)=cs.all ZaK:=rfl
theorem Zun (vs:List AVal):ZaL (.tup vs)=true:=rfl
theorem Zpr (f:Nat) (caps:List AVal):ZaL (.fn f caps)=false:=rfl
theorem Znk  : ZaL (.nilm)=true:=rfl
theorem Zt0 (t:Nat):ZaL (.map t)=true:=rfl
theorem ZsM  : ZaL (.nili)=true:=rfl
theorem Zo5 (t:Nat) (x:AVal):ZaL (.iface t x)=true:=rfl
theorem ZlJ (x:AVal):ZaL (.pan x)=true:=rfl
theorem Zxh  : Za5 (.top)=true:=rfl
theorem ZqL  : Za5 (.any)=true:=rfl
theorem Zrr (k:IntKind) (n:Int):Za5 (.int k n)=true:=rfl
theorem ZvQ (b:Bool):Za5 (.bool b)=true:=rfl
theorem ZnA (l:List UInt8):Za5 (.str l)=true:=rfl
theorem Zpo  : Za5 (.nilp)=true:=rfl
theorem Zq3 (t:Nat) (o:Nat):Za5 (.ref t o)=true:=rfl
theorem ZvF (t:Nat) (g:Nat) (i:Nat) (o:Nat):Za5 (.eref t g i o)=true:=rfl
theorem Zvn (cs:List AVal) (o:Nat):Za5 (.iptr cs o)=true:=rfl
theorem Zsx (x:Bool) (xs:List AVal):Za5 (.lst x xs)=true:=rfl
theorem ZlQ (t:Nat) (g:Nat) (lo:Nat) (n:Nat):Za5 (.sl t g lo n)=true:=rfl
theorem ZnO (cs:List AVal):Za5 (.agg cs)=cs.all ZaK:=rfl
theorem Zwt (vs:List AVal):Za5 (.tup vs)=vs.all ZaL:=rfl
theorem ZvI (f:Nat) (caps:List AVal):Za5 (.fn f caps)=false:=rfl
theorem Zub  : Za5 (.nilm)=true:=rfl
theorem ZrG (t:Nat):Za5 (.map t)=true:=rfl
theorem ZwJ  : Za5 (.nili)=true:=rfl
theorem Zuy (t:Nat) (x:AVal):Za5 (.iface t x)=true:=rfl
theorem Zqc (x:AVal):Za5 (.pan x)=true:=rfl
theorem Zng  : Za4 (.top)=false:=rfl
theorem Zsa  : Za4 (.any)=false:=rfl
theorem ZtF (k:IntKind) (n:Int):Za4 (.int k n)=true:=rfl
theorem ZwQ (b:Bool):Za4 (.bool b)=true:=rfl
theorem ZtW (l:List UInt8):Za4 (.str l)=true:=rfl
theorem Zlx  : Za4 (.nilp)=true:=rfl
theorem ZsP (t:Nat) (o:Nat):Za4 (.ref t o)=false:=rfl
theorem Ztd (t:Nat) (g:Nat) (i:Nat) (o:Nat):Za4 (.eref t g i o)=false:=rfl
theorem Zwo (cs:List AVal) (o:Nat):Za4 (.iptr cs o)=false:=rfl
theorem Zp1 (x:Bool) (xs:List AVal):Za4 (.lst x xs)=true:=rfl
theorem ZlG (t:Nat) (g:Nat) (lo:Nat) (n:Nat):Za4 (.sl t g lo n)=false:=rfl
theorem Zmm (cs:List AVal):Za4 (.agg cs)=cs.all Zai:=rfl
theorem Zvg (vs:List AVal):Za4 (.tup vs)=vs.all Zag:=rfl
theorem Zn8  : Za4 (.nilm)=true:=rfl
theorem ZmU (t:Nat):Za4 (.map t)=false:=rfl
theorem Zmt  : Za4 (.nili)=true:=rfl
theorem Zwl (t:Nat) (x:AVal):Za4 (.iface t x)=false:=rfl
theorem Zrk (x:AVal):Za4 (.pan x)=false:=rfl
theorem Zwe  : Za7 (.top)=(.top):=rfl
theorem ZsF  : Za7 (.any)=(.any):=rfl
theorem Zq0 (k:IntKind) (n:Int):Za7 (.int k n)=(.int k n):=rfl
theorem ZpI (b:Bool):Za7 (.bool b)=(.bool b):=rfl
theorem ZnX (l:List UInt8):Za7 (.str l)=(.str l):=rfl
theorem Zts  : Za7 (.nilp)=(.nilp):=rfl
theorem Zva (t:Nat) (o:Nat):Za7 (.ref t o)=(.ref t o):=rfl
theorem Zt7 (t:Nat) (g:Nat) (i:Nat) (o:Nat):Za7 (.eref t g i o)=(.eref t g i o):=rfl
theorem Zvd (cs:List AVal) (o:Nat):Za7 (.iptr cs o)=(.iptr cs o):=rfl
theorem ZlC (x:Bool) (xs:List AVal):Za7 (.lst x xs)=.lst false xs:=rfl
theorem ZvX (t:Nat) (g:Nat) (lo:Nat) (n:Nat):Za7 (.sl t g lo n)=(.sl t g lo n):=rfl
theorem ZrR (cs:List AVal):Za7 (.agg cs)=.agg (cs.map Zao):=rfl
theorem Ztc (vs:List AVal):Za7 (.tup vs)=.tup (vs.map Zac):=rfl
theorem ZvY (f:Nat) (caps:List AVal):Za7 (.fn f caps)=(.fn f caps):=rfl
theorem Zxj  : Za7 (.nilm)=(.nilm):=rfl
theorem Znp (t:Nat):Za7 (.map t)=(.map t):=rfl
theorem ZnR  : Za7 (.nili)=(.nili):=rfl
theorem Zmp (t:Nat) (x:AVal):Za7 (.iface t x)=(.iface t x):=rfl
theorem Zsm (x:AVal):Za7 (.pan x)=(.pan x):=rfl
theorem ZqU:Zx []=true:=rfl
theorem Ztn (x:AVal) (xs:List AVal):Zx (x::xs)=(Zae x && Zx xs):=rfl
theorem Zmb (f:Nat):Za4 (.fn f [])=true:=rfl
theorem Ztv (p q:Bool):(if p=true then q else false)=(p && q):=by cases p <;> rfl
theorem Zl3 (p q:Bool):(if p=true then true else q)=(p || q):=by cases p <;> rfl
theorem Zqs (p q:Bool):(if p=true then false else q)=(!p && q):=by cases p <;> rfl
theorem ZwM (p q:Bool):(if p=true then q else true)=(!p || q):=by cases p <;> rfl
theorem Zph (p q:Bool):(if p=false then q else false)=(!p && q):=by cases p <;> rfl
theorem Zq4 (p q:Bool):(if p=false then true else q)=(!p || q):=by cases p <;> rfl
theorem Zpg (p q:Bool):(if p=false then false else q)=(p && q):=by cases p <;> rfl
theorem Zo7 (p q:Bool):(if p=false then q else true)=(p || q):=by cases p <;> rfl
section
def Zcc (o:AOp):AOp:=⟨o.dst,o.ins,o.guard,[]⟩
def ZaW:Zg->Zg
 | .region ops chk live=>.region (ops.map Zcc) chk live
 | .seq a b=>.seq (ZaW a) (ZaW b)
 | .cond c a b=>.cond c (ZaW a) (ZaW b)
 | .block id c=>.block id (ZaW c)
 | .loop live c=>.loop live (ZaW c)
 | .skip=>.skip
 | .exit id=>.exit id
 | .ret=>.ret
 | .stuck=>.stuck
def ZfR (f:Zad):Zad:=⟨f.res,ZaW f.body⟩
section
variable {O:Zo} {bf:Nat->Bool}
theorem Zn3 (o:AOp) (s:Nat) (tm:Tms) (σ:Za):Zd O bf (Zcc o) s tm σ=Zd O bf o s tm σ:=rfl
theorem ZiW:∀ (ops:List AOp) (s:Nat) (tm:Tms) (σ:Za),Zm O bf (ops.map Zcc) s tm σ=Zm O bf ops s tm σ
 | [],_,_,_=>rfl
 | o::os,s,tm,σ=>by
  simp only [XC,Zm,Zn3]
  split
  ·rfl
  ·rfl
  ·rename_i tm' σ' c _ _
   rw [show (Zcc o).ins=o.ins from rfl,ZiW os]
theorem Zg5 (ops:List AOp):sitesOf (ops.map Zcc)=sitesOf ops:=by
 simp [sitesOf,Zcc,Function.comp_def]
theorem Zgi (ops:List AOp) (i:Nat):((ops.map Zcc).getD i default).ins=(ops.getD i default).ins:=by
 simp only [Xd,XY]
 cases ops[i]? <;> rfl
theorem Zq8 (ops:List AOp) (b:Nat) (l:List (Nat×Nat)) (cs:List Cls):ZbK (ops.map Zcc) b l cs=ZbK ops b l cs:=by
 unfold ZbK
 congr 1
 funext p
 unfold Zbl Zba
 rw [Zgi,Zgi,<-List.map_take,Zg5]
theorem ZtU (ops:List AOp) (b:Nat) (l:List (Nat×Nat)) (cs:List Cls):Zcg (ops.map Zcc) b l cs=Zcg ops b l cs:=by
 unfold Zcg
 congr 2
 funext p
 unfold Zbl Zba
 rw [Zgi,Zgi,<-List.map_take,Zg5]
theorem Zw4 (ops:List AOp) (chk:Option (List (Nat×Nat))) (live:List Nat) (tm:Tms) (σ:Za):ZaS O bf (ops.map Zcc) chk live tm σ=ZaS O bf ops chk live tm σ:=by
 unfold ZaS
 rw [ZiW,Zg5]
 cases Zm O bf ops σ.length tm (σ++Xx (sitesOf ops) .free) with
 | none=>rfl
 | some q =>
  obtain ⟨tm',σ',cs,p⟩:=q
  cases p with
  | some x =>
   cases chk with
   | none=>rfl
   | some l=>simp only [Zbw,ZtU]
  | none =>
   cases chk with
   | none=>rfl
   | some l=>simp only [Zbw,Zq8]
theorem Zcf (m n:Nat):∀ (c:Zg),Zq O bf m n (ZaW c)=Zq O bf m n c
 | .region ops chk live=>by funext tm σ;simp only [ZaW,Zq,Zw4]
 | .seq a b=>by funext tm σ;simp only [ZaW,Zq,Zcf m n a,Zcf m n b]
 | .cond c a b=>by funext tm σ;simp only [ZaW,Zq,Zcf m n a,Zcf m n b]
 | .block id c=>by funext tm σ;simp only [ZaW,Zq,Zcf m n c]
 | .loop live c=>by funext tm σ;simp only [ZaW,Zq,Zcf m n c]
 | .skip=>rfl
 | .exit id=>rfl
 | .ret=>rfl
 | .stuck=>rfl
end
theorem Zhg (fs:Nat->Option Zad) (prim:ZaM) (bf:Nat->Bool):∀ n,Zw (fun f=>(fs f).map ZfR) prim bf n=Zw fs prim bf n
 | 0=>rfl
 | n+1=>by
  funext f args σ
  simp only [Zw,Zhg fs prim bf n]
  cases prim f with
  | some g=>rfl
  | none =>
   cases fs f with
   | none=>rfl
   | some fn =>
    simp only [XK,ZfR,Zcf]
    rfl
theorem Zt1 (fs:Nat->Option Zad) (prim:ZaM) (bf:Nat->Bool):EV (fun f=>(fs f).map ZfR) prim bf=EV fs prim bf:=by
 funext f args σ
 apply Zcr
 intro r
 rw [Zbr,Zbr]
 simp only [Zhg]
end
end
section
open Go.RowKit
def ZhG:List AVal->Za->Option (AVal×Za):=fun _ _=>none
theorem ZnG {α:Prop} {args:List AVal} {σ:Za} {r:AVal×Za} (h:ZhG args σ=some r):α:=by cases h
def ZeF (k bytes:Nat) (args:List AVal) (σ:Za):Option (AVal×Za):=match args with
 | [.str _]=>none
 | [a]=>match Zk σ a with
  | some (xs,_)=>if xs.length*bytes<=140737488355328/\kOk k xs=true then some (.sl σ.length 0 0 xs.length,σ++[.row 0 k xs]) else none
  | none=>none
 | _=>none
def Zcl:Ann:={ nt:=8,lr:=fun _=>[7,6,5,4,3,2,0] }
structure Zi3 (P:Program) (t:TypeId) (k bytes:Nat) (z:AVal) (f:FuncId):Prop where
 ex:∃ (F:Func) (e:TypeId) (i0 i1 i2 i3:Nat) (r0 r2 r3:Array Oper) (m b:Oper),
  P.funcs[f]?=some F/\F.results=#[.tmp 2]/\F.ntmps=8/\(F.name == "runtime.NumGoroutine")=false/\P.underlying t=some (.slice e) /\
  F.body=some (.seq (.region i0 r0 false) (.seq (.seq (.region i1 #[m,b] false) (.cond (.tmp 4) (.seq (.region i2 r2 false) .ret) .skip)) (.seq (.region i3 r3 false) .ret))) /\
  m.op=.move (.tmp 0)/\m.dst=some 3/\m.guard=none/\b.op=.binOp .eql t (.tmp 3) (.const (.slice none 0 0)) t/\b.dst=some 4/\b.guard=none /\
  Za3 P Zcl r0 r0.toList=some [⟨some 2,.mov (.c (.lst true [])),none,[]⟩] /\
  Za3 P Zcl r2 r2.toList=some [⟨some 2,.mov (.c (.lst true [])),none,[]⟩] /\
  (∃ a1 a2 a3 a4,Za3 P Zcl r3 r3.toList=some [⟨some 5,.bslice false k 0 z [],none,a1⟩,⟨some 6,.mov (.t 0),none,a2⟩,⟨some 7,.app k bytes z (.t 5) (.t 6),none,a3⟩,⟨some 2,.mov (.t 7),none,a4⟩])/\z.cells.length=k/\0 < k
section
variable {P:Program} {base:Nat->Prop} {w0 w w':World} {I0 I:Imm} {β:Bmap} {σ:Za}
theorem noO:ZI P (fun _ _ _=>none):=by intro f args σ r σ' h;cases h
theorem Zde {ops:Array Oper} {Q:Exit->Act->World->Prop} {o:Oper} {l:List Oper} {a:Act} {w:World} (hg:o.guard=none) (h:o.wp P a w (wpList P ops Q l) Q):wpList P ops Q (o::l) a w:=by
 unfold wpList
 have : Region.wanted o (yielded ops a.tmps)=true:=by unfold Region.wanted;rw [hg]
 rw [this]
 simp only [if_true]
 exact Xn h
theorem ZpU {t : TypeId} {k bytes : Nat} {z : AVal} {f : FuncId} (hm : P.follows .mixedOrders = true) (C : Zi3 P t k bytes z f) {args : List AVal} {σ σ' : Za} {r : AVal} (h : ZeF k bytes args σ = some (r, σ')) :
    (∃ fn, P.funcs[f]? = some fn /\ fn.body.isSome = true /\ (fn.name == "runtime.NumGoroutine") = false) /\
    ∀ base w0 I0 I β w (vs : Array Value), KLt base w0 -> Rel base w0 I0 I β σ w -> VRs I β args vs.toList ->
      Calls P f vs w (fun e w' => ∃ u, Ends r e u /\ ZaQ σ.length base w0 I0 I β r σ' u w') := by
  obtain ⟨F, e, i0, i1, i2, i3, r0, r2, r3, m, b, hF, hres, hnt, hname, hu, hbody, hm1, hm2, hm3, hb1, hb2, hb3, hc0, hc2, ⟨a1, a2, a3, a4, hc3⟩, hzk, hk0⟩ := C.ex
  refine ⟨⟨F, hF, by rw [hbody]; rfl, hname⟩, ?_⟩
  intro base w0 I0 I β w vs hb R hargs
  unfold ZeF at h
  split at h
  case h_1 => cases h
  case h_3 => cases h
  rename_i a hns
  split at h
  case h_2 => cases h
  rename_i xs ts hel0
  split at h
  case isFalse => cases h
  rename_i hc
  obtain ⟨hbytes, hkOk⟩ := hc
  simp only [Xa, Xb] at h
  obtain ⟨rfl, rfl⟩ := h
  have hnt8 : ∀ (n : Nat), n < 8 -> n < Zcl.nt := fun n h => h
  refine calls_of_wp hF hbody ?_
  have hsz : vs.size = 1 := by have := Zaa hargs; simpa using this.symm
  have T := Zhh hargs (F.ntmps - vs.size)
  have hst : StR Zaw 8 base w0 I0 I β (enterA 0 [a] []) σ { tmps := vs ++ WP (F.ntmps - vs.size) undef, defers := [] } w := ⟨I, β, Imm.le.refl I, Bmap.le.refl β, T, ⟨Zcj.2 rfl, by simp; omega⟩, R⟩
  have fin : ∀ {tm : Tms} {σ1 : Za} {y : AVal} {a' : Act} {w1 : World}, StR Zaw 8 base w0 I0 I β tm σ1 a' w1 -> tget tm 2 = y -> (∀ I' β' u, I.le I' -> β.le β' -> Rel base w0 I0 I' β' σ1 w1 -> VR I' β' y u -> ZaQ σ.length base w0 I0 I β (.sl σ.length 0 0 xs.length) (σ ++ [.row 0 k xs]) u w1) ->
      a'.defers = [] /\ ∃ v, (results F a'.tmps).run P w1 = .ok v w1 /\ ∃ u, Ends (.sl σ.length 0 0 xs.length) (.returned v) u /\ ZaQ σ.length base w0 I0 I β (.sl σ.length 0 0 xs.length) (σ ++ [.row 0 k xs]) u w1 := by
    rintro tm σ1 y a' w1 ⟨I', β', h1, h2, h3, h4, h5⟩ hy hpost
    refine ⟨Zcj.1 h4.1, a'.tmps.getD 2 undef, by simp [results, hres], _, rfl, ?_⟩
    have := h3 2
    rw [hy] at this
    exact hpost I' β' _ h1 h2 h5 this
  have R0 : ZM P Zcl (.region i0 r0 false) = .region [⟨some 2, .mov (.c (.lst true [])), none, []⟩] none [7, 6, 5, 4, 3, 2, 0] := by simp only [ZM]; rw [hc0]; rfl
  have R2 : ZM P Zcl (.region i2 r2 false) = .region [⟨some 2, .mov (.c (.lst true [])), none, []⟩] none [7, 6, 5, 4, 3, 2, 0] := by simp only [ZM]; rw [hc2]; rfl
  have R3 : ZM P Zcl (.region i3 r3 false) = .region [⟨some 5, .bslice false k 0 z [], none, a1⟩, ⟨some 6, .mov (.t 0), none, a2⟩, ⟨some 7, .app k bytes z (.t 5) (.t 6), none, a3⟩, ⟨some 2, .mov (.t 7), none, a4⟩] none [7, 6, 5, 4, 3, 2, 0] := by simp only [ZM]; rw [hc3]; rfl
  refine wp_seq ?_
  refine ZfH (an := Zcl) (dr := Zaw) (bf := fun _ => false) noO (fun n hn => by simp [Zaw] at hn) hm hb R0 hst (e := .normal) (tm' := keepL [7, 6, 5, 4, 3, 2, 0] [(2, .lst true []), (0, a)]) (σ' := σ) ?_ ?_
  . simp [ZaS, Zbw, sitesOf, nsite, Zm, Zd, Zay, execI, Opd.ev, tput, tins, enterA]
  intro a1' w1 hst1
  simp only [Exit.then]
  refine wp_seq (wp_seq ?_)
  refine wp_region_list ?_
  refine Zde hm3 ?_
  obtain ⟨I1, β1, g1, g2, g3, g4, g5⟩ := hst1
  have hs8 : 8 <= a1'.tmps.size := g4.2
  have hT0 : VR I1 β1 a (a1'.tmps.getD 0 undef) := by have := g3 0; simpa [keepL, tget] using this
  obtain ⟨A, cap, hv0, q1, q2, q5, q4⟩ := Zg0 g5 (fun l e => hns l e) hel0 hT0
  show m.wp P a1' w1 _ _
  unfold Oper.wp
  have e1 : (execOp a1'.eval m).run P w1 = .ok (.value (.slice A xs.length cap)) w1 := by
    unfold execOp; rw [hm1]; simp [Act.eval, hv0]
  rw [e1, Oper.upon_value, hm2]
  refine Zde hb3 ?_
  unfold Oper.wp
  have hs3 : (a1'.put (some 3) (.slice A xs.length cap)).tmps.getD 3 undef = .slice A xs.length cap := by
    have : 3 < a1'.tmps.size := by omega
    simp [Act.put, WS, this]
  have e2 : (execOp (a1'.put (some 3) (.slice A xs.length cap)).eval b).run P w1 = .ok (.value (.bool A.isNone)) w1 := by
    have hq : (Op.equal t (.slice A xs.length cap) (.slice none 0 0)).run P w1 = .ok A.isNone w1 := run_equal_slice_nil w1 t e A xs.length cap hu
    unfold execOp; rw [hb1]
    simp only [Act.eval]
    rw [hs3]
    simp [eqGuard, binOp, hq]
  rw [e2, Oper.upon_value, hb2]
  refine wpList_nil ?_
  have hst2 : StR Zaw 8 base w0 I0 I β [(4, .bool A.isNone), (2, .lst true []), (0, a)] σ ((a1'.put (some 3) (.slice A xs.length cap)).put (some 4) (.bool A.isNone)) w1 := by
    refine ⟨I1, β1, g1, g2, fun n => ?_, ⟨Zgf (Zgf g4.1 (fun n _ hm => by simp [Zaw] at hm)) (fun n _ hm => by simp [Zaw] at hm), by rw [ZbT, ZbT]; exact g4.2⟩, g5⟩
    have hs : 4 < (a1'.put (some 3) (.slice A xs.length cap)).tmps.size := by rw [ZbT]; omega
    have ne : ∀ {a : Act} {d j : Nat} {u : Value}, d ≠ j -> (a.put (some d) u).tmps.getD j undef = a.tmps.getD j undef := by
      intro a d j u hne
      simp only [Act.put, X9]; rw [XX hne]
    simp only [tget]
    split
    . rename_i e; subst e
      rw [show ((a1'.put (some 3) (.slice A xs.length cap)).put (some 4) (.bool A.isNone)).tmps.getD 4 undef = .bool A.isNone by
        simp only [Act.put] at hs ⊢
        simp [WS] at hs ⊢
        omega]
      simp only [VR]
    . split
      . rename_i e; subst e
        rw [ne (by omega), ne (by omega)]
        have := g3 2; simpa [keepL, tget] using this
      . split
        . rename_i e; subst e
          rw [ne (by omega), ne (by omega)]
          have := g3 0; simpa [keepL, tget] using this
        . simp only [VR]
  simp only [Exit.then]
  cases hA : A.isNone with
  | true =>
    have hx0 : xs = [] := by
      rcases q4 with h | ⟨b, off, k', us, e, _⟩
      . exact h
      . rw [e] at hA; cases hA
    subst hx0
    have hev : ((a1'.put (some 3) (.slice A 0 cap)).put (some 4) (.bool A.isNone)).eval (.tmp 4) = .bool true := by
      obtain ⟨_, _, _, _, T, _, _⟩ := hst2
      have := T 4
      simp only [tget, if_true, VR] at this
      rw [hA] at this
      simpa [Act.eval, hA] using this
    refine wp_cond_true (by simpa [hA] using hev) ?_
    refine wp_seq ?_
    rw [hA] at hst2
    refine ZfH (an := Zcl) (dr := Zaw) (bf := fun _ => false) noO (fun n hn => by simp [Zaw] at hn) hm hb R2 hst2 (e := .normal) (tm' := keepL [7, 6, 5, 4, 3, 2, 0] [(4, .bool true), (2, .lst true []), (0, a)]) (σ' := σ) ?_ ?_
    . simp [ZaS, Zbw, sitesOf, nsite, Zm, Zd, Zay, execI, Opd.ev, tput, tins]
    intro a3' w3 hst3
    simp only [Exit.then]
    refine wp_ret ?_
    refine fin hst3 (y := .lst true []) (by simp [keepL, tget]) ?_
    intro I' β' u h1 h2 h3 h4
    simp only [VR] at h4
    obtain ⟨A', cap', rfl, _, _, hx, _⟩ := h4
    have hcap : cap' = 0 := by simpa using hx
    subst hcap
    have R4 := h3.reserve 1
    have hfree : (σ ++ Xx 1 Zl.free)[σ.length]? = some .free := by simp
    obtain ⟨R5, hle⟩ := R4.newNone hfree k hk0
    refine ⟨I', _, h1, KeptE.of_le (h2.trans hle), ?_, ?_⟩
    . have : (σ ++ Xx 1 Zl.free).set σ.length (.row 0 k []) = σ ++ [.row 0 k []] := by simp
      rw [this] at R5; exact R5
    . simp only [Zaf]
      rw [Zbi]
      exact ⟨_, Bmap.put_same β' σ.length 0 _, by simp, by simp, Xv ⟨rfl, rfl, A', rfl⟩⟩
  | false =>
    have hev : ((a1'.put (some 3) (.slice A xs.length cap)).put (some 4) (.bool A.isNone)).eval (.tmp 4) = .bool false := by
      obtain ⟨_, _, _, _, T, _, _⟩ := hst2
      have := T 4
      simp only [tget, if_true, VR] at this
      rw [hA] at this
      simpa [Act.eval, hA] using this
    refine wp_cond_false (by simpa [hA] using hev) ?_
    refine wp_skip ?_
    rw [hA] at hst2
    simp only [Exit.then]
    refine wp_seq ?_
    have hel : Zk (σ ++ [Zl.free]) a = some (xs, ts) := Zdr hel0 (fun t ht => by
      obtain ⟨g, k, ys, h | h⟩ := Zf8 hel0 t ht <;> (rw [Wg (Xe.1 h).1]))
    refine ZfH (an := Zcl) (dr := Zaw) (bf := fun _ => false) noO (fun n hn => by simp [Zaw] at hn) hm hb R3 hst2 (e := .normal) (tm' := keepL [7, 6, 5, 4, 3, 2, 0] [(7, .sl σ.length 0 0 xs.length), (6, a), (5, .lst true []), (4, .bool false), (2, .sl σ.length 0 0 xs.length), (0, a)]) (σ' := σ ++ [.row 0 k xs]) ?_ ?_
    . have hfa : freeAt (σ ++ [Zl.free]) σ.length = true := by simp [freeAt]
      have hnp : (∃ x ys, a = .lst x ys) \/ ∃ t g lo n, a = .sl t g lo n := by
        cases a with
        | lst x ys => exact Xn ⟨x, ys, rfl⟩
        | sl t g lo n => exact Xv ⟨t, g, lo, n, rfl⟩
        | str l => exact absurd rfl (hns l)
        | _ => simp [Zk] at hel0
      rcases hnp with ⟨x, ys, rfl⟩ | ⟨t', g', lo, n, rfl⟩
      . simp [ZaS, Zbw, sitesOf, nsite, Zm, Zd, Zay, execI, Opd.ev, tput, tins, tget, viewAs, Zh, hzk, Zax, hel, hkOk, hbytes, hfa]
      . simp [ZaS, Zbw, sitesOf, nsite, Zm, Zd, Zay, execI, Opd.ev, tput, tins, tget, viewAs, Zh, hzk, Zax, hel, hkOk, hbytes, hfa]
    intro a3' w3 hst3
    simp only [Exit.then]
    refine wp_ret ?_
    refine fin hst3 (y := .sl σ.length 0 0 xs.length) (by simp [keepL, tget]) ?_
    intro I' β' u h1 h2 h3 h4
    exact ⟨I', β', h1, KeptE.of_le h2, h3, h4⟩
end
end
section
open Go.RowKit
structure ZxD (P:Program) (f h:FuncId) (ti tc:TypeId) (an1 an2 an3:Ann) (c1 c2 c3:Zg) (rs:List Zbu):Prop where
 ex:∃ (F H:Func) (b1 b2 b3 b4:Code) (i0 j0 j1 j2 j3 bid:Nat) (t1 t2 t3 t4 t5 t6 t7 t8:TypeId) (p1 p2 p3 p4 p5 p6 p7 p8:String) (a1 a2 a3 a4 a5 a6 a7 a8:Array Edge) (at1 at2:Array TypeId) (ims:Array (String×TypeId)) (k:IntKind),
  P.funcs[f]?=some F/\(F.name == "runtime.NumGoroutine")=false/\F.ntmps=20/\Zce P F.results.toList=some rs /\
  F.body=some (.seq b1 (.seq (.region i0 #[⟨some 5,.makeFunc (.func h) #[] #[.tmp 2,.tmp 3],t1,p1,a1,none⟩,⟨none,.defer ⟨.value (.tmp 5),#[],at1⟩,t2,p2,a2,none⟩] false) b2)) /\
  ZaW (ZM P an1 b1)=c1/\ZaW (ZM P an2 b2)=c2/\an1.nt=20/\an2.nt=20/\an2.keep=[2,3] /\
  P.funcs[h]?=some H/\(H.name == "runtime.NumGoroutine")=false/\H.ntmps=13/\H.results=#[] /\
  H.body=some (.seq (.region j0 #[⟨some 5,.call ⟨.builtin .recover,#[],at2⟩,t3,p3,a3,none⟩] false) (.block bid (.seq (.region j1 #[⟨some 7,.binOp .eql ti (.tmp 5) (.const .nilIface) ti,t4,p4,a4,none⟩] false)
   (.cond (.tmp 7) (.region j2 #[⟨some 2,.assign (.tmp 5),t5,p5,a5,none⟩] false)
    (.seq (.region j3 #[⟨some 8,.typeAssert (.tmp 5) ti tc true,t6,p6,a6,none⟩,⟨some 9,.extract (.tmp 8) 1,t7,p7,a7,none⟩,⟨some 10,.extract (.tmp 8) 0,t8,p8,a8,none⟩] false)
     (.cond (.tmp 9) b3 b4)))))) /\
  ZaW (ZM P an3 b3)=c3/\an3.nt=13/\P.underlying ti=some (.interface ims)/\P.underlying tc=some (.int k)
section
variable {P:Program} {O:Zo} {bf:Nat->Bool} {base:Nat->Prop} {w0 w:World} {I0 I:Imm} {β:Bmap} {σ:Za}
theorem pgs {a:Act} {d:Nat} {u:Value} (h:d < a.tmps.size):(a.put (some d) u).tmps.getD d undef=u:=by
 simp [Act.put,WS,h]
theorem Zf1 {m:Sem Value} {u:Value} (h:m.run P w=.ok u w):(do let q <-m;pure (Next.value q):Sem Next).run P w=.ok (.value u) w:=by
 rw [Sem.run_bind,h];rfl
theorem pgn {a:Act} {d j:Nat} {u:Value} (h:d≠j):(a.put (some d) u).tmps.getD j undef=a.tmps.getD j undef:=by
 simp only [Act.put,X9]
 rw [XX h]
end
section
variable {P:Program} {fs:Nat->Option Zad} {prim:ZaM} {bf:Nat->Bool}
end
section
variable {fs:Nat->Option Zad} {p p':ZaM} {bf:Nat->Bool}
theorem Zkm (h0:∀ f,p f=none->p' f=none) (h1:∀ f g,p f=some g->p' f=some g\/∀ a σ,g a σ=none):∀ n,OLe (Zw fs p bf n) (Zw fs p' bf n)
 | 0=>by intro f a σ r h;simp only [Zw] at h;cases h
 | n+1=>by
  intro f a σ r h
  rw [Zw] at h ⊢
  split at h
  ·rename_i g hg
   rcases h1 f g hg with h2 | h2
   ·rw [h2];exact h
   ·rw [h2] at h;cases h
  ·rename_i hg
   rw [h0 f hg]
   split at h
   ·cases h
   ·rename_i fn hfn
    exact ZeG (fun q hq=>ZbP (Zkm h0 h1 n) (XL n) hq) h
theorem Zn0 (h0:∀ f,p f=none->p' f=none) (h1:∀ f g,p f=some g->p' f=some g\/∀ a σ,g a σ=none):OLe (EV fs p bf) (EV fs p' bf):=by
 intro f a σ r h
 obtain ⟨n,hn⟩:=Zbr.1 h
 exact Zbr.2 ⟨n,Zkm h0 h1 n f a σ r hn⟩
end
end
section
open Go.RowKit
theorem ZiK:∀ (js L:List Nat),js.Nodup->(∀ j ∈ js,j ∈ L)->L.Nodup->∃ rest,L.Perm (js++rest)
 | [],L,_,_,_=>⟨L,List.Perm.refl _⟩
 | j::js,L,hn,hs,hL=>by
  have hj:j ∈ L:=hs j (by simp)
  have hp:L.Perm (j::L.erase j):=List.perm_cons_erase hj
  obtain ⟨rest,hr⟩:=ZiK js (L.erase j) (Xas.1 hn).2 (fun k hk=>by
   have hne:k≠j:=by rintro rfl;exact (Xas.1 hn).1 hk
   exact (List.mem_erase_of_ne hne).2 (hs k (by simp [hk]))) (hL.erase j)
  exact ⟨rest,hp.trans (by simpa using List.Perm.cons j hr)⟩
theorem Znu {α:Type} (es:List α) (d:α):(X8 es.length).map (es.getD · d)=es:=by
 apply List.ext_getElem?
 intro i
 rw [XY]
 by_cases h:i < es.length
 ·rw [List.getElem?_range h];simp [Xd,h]
 ·rw [XN (by simpa using h),XN (by omega)];rfl
def ZcU (bf:Nat->Bool) (asl:List AOp) (tm:Tms) (σ:Za):Option (Tms×Za):=match Zm (fun _ _ _=>none) bf asl σ.length tm σ with
 | some (tm',σ',_,none)=>some (tm',σ')
 | _=>none
def ZcG (m:Nat):AVal->Bool
 | .int _ _ | .bool _ | .str _ | .nilp | .nilm | .nili | .lst _ _=>true
 | .sl t g _ _=>decide (g=0) && decide (t < m)
 | .ref t _=>decide (t < m)
 | .map t=>decide (t < m)
 | _=>false
def Zgl (m:Nat):AVal->Bool
 | .agg cs=>cs.all (ZcG m)
 | x=>ZcG m x
section
variable (fs:Nat->Option Zad) (prim:ZaM) (bf:Nat->Bool) (m:Nat) (live:List Nat) (ms en b1:Nat) (aslE:List AOp) (c2 c3:Zg) (rs:List Zbu)
open Classical in
noncomputable def Zef (es : List (AVal × AVal)) (kv : AVal × AVal) (tm : Tms) (σ : Za) : Option (Tms × Za) :=
  match tget (gcT m (keepL live tm) σ).1 ms with
  | .map t => if (gcT m (keepL live tm) σ).2[t]? = some (.map es) /\ (∀ p ∈ es, Zgl (gcT m (keepL live tm) σ).2.length p.2 = true) then
      match ZcU bf aslE (tput (gcT m (keepL live tm) σ).1 (some en) (.tup [kv.1, kv.2])) ((gcT m (keepL live tm) σ).2.set t .opq) with
      | some (tm1, σ1) => match evC fs prim bf (gcT m (keepL live tm) σ).2.length c2 tm1 σ1 with
        | some (.normal, tm2, σ2) => if σ2[t]? = some .opq then some (tput tm2 (some ms) (.map t), σ2.set t (.map es)) else none
        | some (.exit i, tm2, σ2) => if i = b1 /\ σ2[t]? = some .opq then some (tput tm2 (some ms) (.map t), σ2.set t (.map es)) else none
        | _ => none
      | none => none
    else none
  | _ => none
noncomputable def ZbG (es:List (AVal×AVal)):List (AVal×AVal)->Tms->Za->Option (Tms×Za)
 | [],tm,σ=>some (tm,σ)
 | kv::r,tm,σ=>match Zef fs prim bf m live ms en b1 aslE c2 es kv tm σ with
  | some (tm',σ')=>ZbG es r tm' σ'
  | none=>none
noncomputable def Ze3 (tm:Tms) (σ:Za):Option (AVal×Za) :=
 Zas m ⟨rs,c3⟩ (evC fs prim bf m c3 (gcT m (keepL live tm) σ).1 (gcT m (keepL live tm) σ).2)
noncomputable def Zdk (es es':List (AVal×AVal)) (tm:Tms) (σ:Za):Option (AVal×Za) :=
 match ZbG fs prim bf m live ms en b1 aslE c2 es es' tm σ with
 | some (tm',σ')=>Ze3 fs prim bf m live c3 rs tm' σ'
 | none=>none
open Classical in
noncomputable def ZeJ (es:List (AVal×AVal)) (tm:Tms) (σ:Za):Option (AVal×Za) :=
 if h:∃ out,∀ es':List (AVal×AVal),es'.Perm es->Zdk fs prim bf m live ms en b1 aslE c2 c3 rs es es' tm σ=some out then some h.choose else none
end
noncomputable def ZfX (fs:Nat->Option Zad) (prim:ZaM) (bf:Nat->Bool) (live:List Nat) (ms en b1:Nat) (asl1 aslE:List AOp) (c1 c2 c3:Zg) (rs:List Zbu) (args:List AVal) (σ:Za):Option (AVal×Za) :=
 match evC fs prim bf σ.length c1 (enterA 0 args []) σ with
 | some (.normal,tm1,σ1)=>match ZcU bf asl1 tm1 σ1 with
  | some (tm2,σ2)=>match tget tm2 ms with
   | .map t=>match σ2[t]? with
    | some (.map es)=>ZeJ fs prim bf σ.length live ms en b1 aslE c2 c3 rs es tm2 σ2
    | _=>none
   | _=>none
  | none=>none
 | _=>none
def ZcL:List Code->Code->Code
 | [],x=>x
 | c::l,x=>.seq c (ZcL l x)
def Zec:Nat->Code->Option (List Code×Code)
 | 0,c=>some ([],c)
 | n+1,.seq a b=>match Zec n b with
  | some (l,x)=>some (a::l,x)
  | none=>none
 | _,_=>none
theorem Zka:∀ {n:Nat} {c x:Code} {l:List Code},Zec n c=some (l,x)->c=ZcL l x
 | 0,c,x,l,h=>by simp only [Zec,Xa,Xb] at h;obtain ⟨rfl,rfl⟩:=h;rfl
 | n+1,c,x,l,h=>by
  cases c with
  | seq a b =>
   simp only [Zec] at h
   split at h
   ·rename_i l' x' h'
    simp only [Xa,Xb] at h
    obtain ⟨rfl,rfl⟩:=h
    rw [Zka h',ZcL]
   ·cases h
  | _=>simp [Zec] at h
structure Zke (P:Program) (f:FuncId) (an1 an3:Ann) (nt n0 n1 ms it nx ok en bid b1:Nat) (live:List Nat) (asl1 aslE:List AOp) (c1 c2 c3:Zg) (rs:List Zbu):Prop where
 ex:∃ (F:Func) (B:Code) (pre:List Code) (ops1 ops3 ops4:Array Oper) (i2 i3 i4:Nat) (body rest:Code) (t kt et:TypeId) (rg nxo exo eno:Oper) (lE:List Oper),
  P.funcs[f]?=some F/\(F.name == "runtime.NumGoroutine")=false/\F.ntmps=nt/\Zce P F.results.toList=some rs/\F.body=some B /\
  Zec n0 B=some (pre,.seq (.seq (.region i2 ops1 false) (.block bid (.loop (.seq (.region i3 ops3 false) (.seq (.cond (.tmp ok) .skip (.exit bid)) (.block b1 (.seq (.region i4 ops4 false) body))))))) rest) /\
  ops1.toList.drop n1=[rg]/\ops3.toList=[nxo,exo]/\ops4.toList=eno::lE /\
  rg.op=.range t (.tmp ms)/\rg.dst=some it/\rg.guard=none/\P.underlying t=some (.map kt et) /\
  nxo.op=.next (.tmp it) false/\nxo.dst=some nx/\nxo.guard=none/\exo.op=.extract (.tmp nx) 0/\exo.dst=some ok/\exo.guard=none /\
  eno.op=.entry (.tmp it)/\eno.dst=some en/\eno.guard=none /\
  ZaW (ZM P an1 (ZcL pre .skip))=c1/\Za3 P an1 ops1 (ops1.toList.take n1)=some asl1/\Za3 P an3 ops4 lE=some aslE/\ZaW (ZM P an3 body)=c2/\ZaW (ZM P an1 rest)=c3 /\
  an1.nt=nt/\an3.nt=nt/\an3.keep=[it,ms] /\
  (decide (it < nt) && decide (nx < nt) && decide (ok < nt) && decide (en < nt) && decide (it≠ms) && decide (nx≠ms) && decide (ok≠ms) && decide (en≠ms) && decide (nx≠it) && decide (ok≠it) && decide (en≠it) && decide (nx≠ok) && live.all fun n=>decide (n≠it) && decide (n≠nx) && decide (n≠ok) && decide (n≠en))=true
section
variable {P:Program} {O:Zo} {bf:Nat->Bool} {an:Ann} {base:Nat->Prop} {w0 w w':World} {I0 I I':Imm} {β β':Bmap} {σ σ':Za} {dr:Door}
theorem ZhM (hO:ZI P O) (hkp:∀ n ∈ dr.K,n ∈ an.keep) (hb:KLt base w0) {ops:Array Oper} {Q:Exit->Act->World->Prop} {r:List Oper}:∀ {l:List Oper} {asl:List AOp} {sq:Nat} {I:Imm} {β:Bmap} {tm tm':Tms} {σ σ':Za} {cs:List Cls} {a:Act} {w:World},Za3 P an ops l=some asl->TR I β tm a.tmps->(dr.ok a/\an.nt<=a.tmps.size)->Rel base w0 I0 I β σ w ->
  Zm O bf asl sq tm σ=some (tm',σ',cs,none)->(∀ a' w',StR dr an.nt base w0 I0 I β tm' σ' a' w'->wpList P ops Q r a' w')->wpList P ops Q (l++r) a w
 | [],asl,sq,I,β,tm,tm',σ,σ',cs,a,w,hc,T,hd,R,h,hQ=>by
  simp only [Za3,Xa] at hc;subst hc
  simp only [Zm,Xa,Xb] at h
  obtain ⟨rfl,rfl,rfl,_⟩:=h
  exact hQ _ _ ⟨I,β,Imm.le.refl I,Bmap.le.refl β,T,hd,R⟩
 | o::l,asl,sq,I,β,tm,tm',σ,σ',cs,a,w,hc,T,hd,R,h,hQ=>by
  simp only [Za3] at hc
  split at hc
  ·rename_i ao hao
   split at hc
   ·rename_i as' has'
    injection hc with hc;subst hc
    simp only [Zm] at h
    split at h
    ·cases h
    ·simp only [Xa,Xb] at h
     obtain ⟨_,_,_,h⟩:=h
     cases h
    ·rename_i v tm1 σ1 c1 hnp h1
     split at h
     ·cases h
     rename_i tm2 σ2 cs2 p2 h2
     simp only [Xa,Xb] at h
     obtain ⟨rfl,rfl,rfl,rfl⟩:=h
     have:=Zed (dr:=dr) (K:=wpList P ops Q (l++r)) (Q:=Q) hO hkp hao T hd R hb h1 (fun _ a' w' hs=>by
      obtain ⟨I',β',g1,g2,g3,g4,g5⟩:=hs
      exact ZhM hO hkp hb has' g3 g4 g5 h2 (fun a'' w'' hs'=>hQ a'' w'' (hs'.trans g1 g2))) (fun x e=>absurd e (fun e=>hnp x e))
     rw [Wl]
     unfold wpList
     exact this
   ·cases hc
  ·cases hc
theorem Zjc {asl:List AOp} {tm tm':Tms} (h:ZcU bf asl tm σ=some (tm',σ')):∃ cs,Zm (fun _ _ _=>none) bf asl σ.length tm σ=some (tm',σ',cs,none):=by
 unfold ZcU at h
 split at h
 ·rename_i tm1 σ1 cs h1
  simp only [Xa,Xb] at h
  obtain ⟨rfl,rfl⟩:=h
  exact ⟨cs,h1⟩
 ·cases h
theorem Zko {Q:Exit->Act->World->Prop} (hO:ZI P O) (hm:P.follows .mixedOrders=true) (hb:KLt base w0) (m n:Nat) (X:Code):∀ (pre:List Code) {I:Imm} {β:Bmap} {tm tm':Tms} {σ σ':Za} {a:Act} {w:World},StF Zaw m an.nt base w0 I0 I β tm σ a w->Zq O bf m n (ZM P an (ZcL pre .skip)) tm σ=some (.normal,tm',σ') ->
  (∀ a' w',StF Zaw m an.nt base w0 I0 I β tm' σ' a' w'->X.wp P Q a' w')->(ZcL pre X).wp P Q a w
 | [],I,β,tm,tm',σ,σ',a,w,hst,h,hQ=>by
  simp only [ZcL,ZM,Zq,Xa,Xb] at h
  obtain ⟨_,rfl,rfl⟩:=h
  exact hQ a w hst
 | c::l,I,β,tm,tm',σ,σ',a,w,hst,h,hQ=>by
  simp only [ZcL,ZM,Zq] at h
  split at h
  ·rename_i tm1 σ1 h1
   refine wp_seq ?_
   refine ZfV (dr:=Zaw) (an:=an) hO (fun n hn=>by simp [Zaw] at hn) hm hb m n rfl hst h1 ?_
   intro a' w' hs
   exact Zko hO hm hb m n X l hs h hQ
  ·rename_i hne
   exact absurd h (hne _ _)
theorem Zrd {m:Nat} {x:AVal} {v:Value} (hx:ZcG m x=true) (hk:KeptE m β β') (h:VR I β x v):VR I' β' x v\/(∃ a xs,x=.lst a xs):=by
 cases x with
 | int | bool | str | nilp | nilm | nili=>exact Xn h
 | lst a xs=>exact Xv ⟨a,xs,rfl⟩
 | sl t g lo n =>
  simp only [ZcG,Xc,decide_eq_true_eq] at hx
  obtain ⟨rfl,ht⟩:=hx
  simp only [VR] at h ⊢
  obtain ⟨bi,e,h⟩:=h
  exact Xn ⟨bi,hk t ht bi e,h⟩
 | ref t o =>
  simp only [ZcG,decide_eq_true_eq] at hx
  simp only [VR] at h ⊢
  obtain ⟨b,k,c,e,h⟩:=h
  exact Xn ⟨b,k,c,hk t hx _ e,h⟩
 | map t =>
  simp only [ZcG,decide_eq_true_eq] at hx
  simp only [VR] at h ⊢
  obtain ⟨b,k,c,e,h⟩:=h
  exact Xn ⟨b,k,c,hk t hx _ e,h⟩
 | _=>simp [ZcG] at hx
theorem Zsc {a:Bool} {xs:List AVal} {v:Value} (hI:I.le I') (h:VR I β (.lst a xs) v):VR I' β' (.lst a xs) v:=by
 have ht:Z9 (.lst a xs)=true:=by
  simp only [VR] at h
  obtain ⟨A,cap,_,_,_,_,_,ht⟩:=h
  simpa [Z9] using ht
 exact (VR.of_tree (β':=β') ht h).mono hI (Bmap.le.refl _) _ _
theorem Zj7 {m:Nat} {x:AVal} {v:Value} (hx:ZcG m x=true) (hI:I.le I') (hk:KeptE m β β') (h:VR I β x v):VR I' β' x v:=by
 rcases Zrd (I':=I') hx hk h with h | ⟨a,xs,rfl⟩
 ·exact h
 ·exact Zsc hI h
theorem ZiT {m:Nat} (hI:I.le I') (hk:KeptE m β β'):∀ {cs:List AVal} {vs:List Value},cs.all (ZcG m)=true->VRs I β cs vs->VRs I' β' cs vs
 | [],vs,_,h=>h
 | x::cs,vs,hx,h=>by
  rw [X2,Xc] at hx
  simp only [VRs] at h ⊢
  obtain ⟨v,vs',rfl,h1,h2⟩:=h
  exact ⟨v,vs',rfl,Zj7 hx.1 hI hk h1,ZiT hI hk hx.2 h2⟩
theorem Zl0 {m:Nat} {x:AVal} {v:Value} (hx:Zgl m x=true) (hI:I.le I') (hk:KeptE m β β') (h:VR I β x v):VR I' β' x v:=by
 cases x with
 | agg cs =>
  simp only [VR] at h ⊢
  obtain ⟨us,rfl,h⟩:=h
  exact ⟨us,rfl,ZiT hI hk hx h⟩
 | _=>exact Zj7 hx hI hk h
theorem ZkM {m:Nat} (hI:I.le I') (hk:KeptE m β β'):∀ {cs:List AVal} {vs:List Value},(∀ x ∈ cs,Zgl m x=true)->VRs I β cs vs->VRs I' β' cs vs
 | [],vs,_,h=>h
 | x::cs,vs,hx,h=>by
  simp only [VRs] at h ⊢
  obtain ⟨v,vs',rfl,h1,h2⟩:=h
  exact ⟨v,vs',rfl,Zl0 (hx x (by simp)) hI hk h1,ZkM hI hk (fun y hy=>hx y (by simp [hy])) h2⟩
theorem ZkD:∀ {cs:List AVal} {vs:List Value},(∀ x ∈ cs,ZcM x=true)->VRs I β cs vs->VRs I' β' cs vs
 | [],vs,_,h=>h
 | x::cs,vs,hx,h=>by
  simp only [VRs] at h ⊢
  obtain ⟨v,vs',rfl,h1,h2⟩:=h
  refine ⟨v,vs',rfl,?_,ZkD (fun y hy=>hx y (by simp [hy])) h2⟩
  have:=hx x (by simp)
  cases x <;> simp [ZcM] at this <;> exact h1
end
end
section
open Go.RowKit
open Go.ChangeMaps (setBlock)
section
variable {P:Program} {base base':Nat->Prop} {w0 w w' w1 w2:World} {I0 I I' I1 I2:Imm} {β β' β1 β2:Bmap} {σ σ' σ1 σ2:Za}
theorem Rel.rebase (R:Rel base w0 I0 I β σ w) {r:Nat} (hr:∀ t x,σ[t]?=some x->Zc β t x≠some r):Rel (fun k=>base k\/k=r) w I I β σ w where
 below:=KB.refl _ _
 old:=fun _ _ _=>rfl
 imm:=R.imm
 blk:=R.blk
 own:=fun t x b hx hb=>⟨fun h=>by
  rcases h with h | rfl
  ·exact (R.own t x b hx hb).1 h
  ·exact hr t x hx hb,(R.own t x b hx hb).2⟩
 apart:=R.apart
 fresh:=R.fresh
 free:=R.free
 gen:=R.gen
 glob:=R.glob
theorem Rel.unbase (R1:Rel base w0 I0 I1 β1 σ1 w1) (R2:Rel base' w1 I1 I2 β2 σ2 w2) (hs:∀ k,base k->base' k):Rel base w0 I0 I2 β2 σ2 w2 where
 below:=R1.below.trans (R2.below.mono hs)
 old:=fun b o h=>(R2.old b o (hs b h)).trans (R1.old b o h)
 imm:=R2.imm
 blk:=R2.blk
 own:=fun t x b hx hb=>⟨fun h=>(R2.own t x b hx hb).1 (hs b h),(R2.own t x b hx hb).2⟩
 apart:=R2.apart
 fresh:=R2.fresh
 free:=R2.free
 gen:=R2.gen
 glob:=R2.glob
theorem Rel.hide (R:Rel base w0 I0 I β σ w) {t b r:Nat} {es:List (AVal×AVal)} (ht:σ[t]?=some (.map es)) (hb:Zc β t (.map es)=some b) (hr:∀ t x,σ[t]?=some x->Zc β t x≠some r):Rel (fun k=>base k\/k=b\/k=r) w I I β (σ.set t .opq) w where
 below:=KB.refl _ _
 old:=fun _ _ _=>rfl
 imm:=R.imm
 blk:=fun u x hx=>by
  rw [Xh] at hx
  split at hx
  ·rename_i e;subst e
   split at hx
   ·injection hx with hx;subst hx
    obtain ⟨b',k,c,_,_,h1,_⟩:=R.blk t _ ht
    exact ⟨_,h1⟩
   ·cases hx
  ·exact R.blk u x hx
 own:=fun u x b' hx ho=>by
  rw [Xh] at hx
  split at hx
  ·split at hx
   ·injection hx with hx;subst hx;cases ho
   ·cases hx
  ·rename_i hne
   have:=R.own u x b' hx ho
   refine ⟨fun h=>?_,this.2⟩
   rcases h with h | rfl | rfl
   ·exact this.1 h
   ·exact hne (R.apart u x t _ _ hx ht ho hb).symm
   ·exact hr u x hx ho
 apart:=fun u x u' x' b' hx hx' ho ho'=>by
  rw [Xh] at hx hx'
  split at hx
  ·split at hx
   ·injection hx with hx;subst hx;cases ho
   ·cases hx
  ·split at hx'
   ·split at hx'
    ·injection hx' with hx';subst hx';cases ho'
    ·cases hx'
   ·exact R.apart u x u' x' b' hx hx' ho ho'
 fresh:=fun u g hu=>R.fresh u g (by simpa using hu)
 free:=fun u g hu=>by
  rw [Xh] at hu
  split at hu
  ·split at hu
   ·injection hu with hu;cases hu
   ·cases hu
  ·exact R.free u g hu
 gen:=fun u x g hx hg=>by
  rw [Xh] at hx
  split at hx
  ·rename_i e;subst e
   split at hx
   ·injection hx with hx;subst hx
    exact R.gen t _ g ht (by simpa [Zb] using hg)
   ·cases hx
  ·exact R.gen u x g hx hg
 glob:=R.glob
theorem Rel.unhide (R1:Rel base w0 I0 I1 β1 σ1 w1) {t b r:Nat} (R2:Rel (fun k=>base k\/k=b\/k=r) w1 I1 I2 β2 σ2 w2) {es:List (AVal×AVal)} (ht:σ2[t]?=some .opq) (hb:Zc β2 t (.map es)=some b) (hB:BR I2 β2 w2 t (.map es)) (hbase:¬base b) (hI:∀ o,I2 b o=none):Rel base w0 I0 I2 β2 (σ2.set t (.map es)) w2 where
 below:=R1.below.trans (R2.below.mono fun _ h=>Xn h)
 old:=fun k o h=>(R2.old k o (Xn h)).trans (R1.old k o h)
 imm:=R2.imm
 blk:=fun u x hx=>by
  rw [Xh] at hx
  split at hx
  ·rename_i e;subst e
   split at hx
   ·injection hx with hx;subst hx;exact hB
   ·cases hx
  ·exact R2.blk u x hx
 own:=fun u x b' hx ho=>by
  rw [Xh] at hx
  split at hx
  ·rename_i e;subst e
   split at hx
   ·injection hx with hx;subst hx
    rw [hb] at ho;injection ho with ho;subst ho
    exact ⟨hbase,hI⟩
   ·cases hx
  ·have:=R2.own u x b' hx ho
   exact ⟨fun h=>this.1 (Xn h),this.2⟩
 apart:=fun u x u' x' b' hx hx' ho ho'=>by
  rw [Xh] at hx hx'
  split at hx
  ·rename_i e;subst e
   split at hx
   ·injection hx with hx;subst hx
    rw [hb] at ho;injection ho with ho;subst ho
    split at hx'
    ·assumption
    ·exact absurd (Xv (Xn rfl)) (R2.own u' x' _ hx' ho').1
   ·cases hx
  ·split at hx'
   ·rename_i e;subst e
    split at hx'
    ·injection hx' with hx';subst hx'
     rw [hb] at ho';injection ho' with ho';subst ho'
     exact absurd (Xv (Xn rfl)) (R2.own u x _ hx ho).1
    ·cases hx'
   ·exact R2.apart u x u' x' b' hx hx' ho ho'
 fresh:=fun u g hu=>R2.fresh u g (by simpa using hu)
 free:=fun u g hu=>by
  rw [Xh] at hu
  split at hu
  ·split at hu
   ·injection hu with hu;cases hu
   ·cases hu
  ·exact R2.free u g hu
 gen:=fun u x g hx hg=>by
  rw [Xh] at hx
  split at hx
  ·rename_i e;subst e
   split at hx
   ·injection hx with hx;subst hx
    exact R2.gen t _ g ht (by simpa [Zb] using hg)
   ·cases hx
  ·exact R2.gen u x g hx hg
 glob:=R2.glob
theorem Rel.turn (R:Rel base w0 I0 I β σ w) {r:Nat} (hr:∀ t x,σ[t]?=some x->Zc β t x≠some r) (hb:¬base r) (hI:∀ o,I r o=none) (hos:w'.os=w.os) (ht:w'.tape=w.tape) (ho:w'.output=w.output) (hs:w.heap.size<=w'.heap.size) (hk:∀ k,k≠r->k < w.heap.size->w'.heap[k]?=w.heap[k]?) (hbl:KLt base w):Rel base w0 I0 I β σ w':=by
 refine R.stay (Imm.le.refl I) ⟨hos,ht,ho,hs,fun k h=>hk k (by rintro rfl;exact hb h) (hbl k h)⟩ (fun _ _ _=>rfl) ?_ ?_
 ·intro b o u hu
  have h1:=R.imm b o u hu
  have hne:b≠r:=by rintro rfl;rw [hI] at hu;cases hu
  have hlt:=ZbU h1
  rw [<-h1]
  simp only [World.cell?,hk b hne hlt]
 ·intro t x b hx hb'
  have hne:b≠r:=by rintro rfl;exact hr t x hx hb'
  exact ⟨hk b hne ((R.blk t x hx).owns_lt hb'),(R.own t x b hx hb').2⟩
theorem ZsY (m:Nat) (tm:Tms) (σ:Za):m<=(gcT m tm σ).2.length:=by
 show m<=(Zj σ m _ _ _ 0).length
 rw [ZfG]
 obtain ⟨_,r,hr⟩:=ZdN (σ:=σ) 1000 (ZR (tm.map (·.2))++(X8 m).flatMap fun t=>ZE (σ.getD t .free)) (X8 m) Xab
 show m<=(Zv m (tm.map (·.2)) σ).length
 unfold Zv
 rw [hr]
 simp
end
section
variable {fs:Nat->Option Zad} {prim:ZaM} {bf:Nat->Bool} {m:Nat} {live:List Nat} {ms en b1:Nat} {aslE:List AOp} {c2 c3:Zg} {rs:List Zbu}
theorem Zfa {es:List (AVal×AVal)}:∀ (a b:List (AVal×AVal)) (tm:Tms) (σ:Za),ZbG fs prim bf m live ms en b1 aslE c2 es (a++b) tm σ=match ZbG fs prim bf m live ms en b1 aslE c2 es a tm σ with
  | some (tm',σ')=>ZbG fs prim bf m live ms en b1 aslE c2 es b tm' σ'
  | none=>none
 | [],b,tm,σ=>rfl
 | x::a,b,tm,σ=>by
  simp only [Wl,ZbG]
  split
  ·exact Zfa a b _ _
  ·rfl
end
theorem ZeY {I:Imm} {β:Bmap} {tm:Tms} {a:Act} {d:Nat} {u:Value} (T:TR I β tm a.tmps) (hd:tget tm d=.top):TR I β tm (a.put (some d) u).tmps:=by
 intro n
 by_cases e:d=n
 ·subst e;rw [hd];simp only [VR]
 ·rw [pgn e];exact T n
theorem ZsN {m:Nat} {live:List Nat} {tm:Tms} {σ:Za} {d:Nat} (hd:d ∉ live):tget (gcT m (keepL live tm) σ).1 d=.top:=by
 have key:∀ (l:List Nat) (xs:List AVal),d ∉ l->tget (l.zip xs) d=.top:=by
  intro l
  induction l with
  | nil=>intro xs _;rfl
  | cons x l ih =>
   intro xs h
   cases xs with
   | nil=>rfl
   | cons y ys =>
    simp only [List.zip_cons_cons,tget]
    rw [if_neg (by rintro rfl;exact h (by simp))]
    exact ih ys (fun hm=>h (by simp [hm]))
 have e:(keepL live tm).map (·.1)=live:=by simp [keepL,WY,Function.comp_def]
 show tget (((keepL live tm).map (·.1)).zip _) d=.top
 rw [e]
 exact key live _ hd
end
section
open Go.RowKit
open Go.ChangeMaps (setBlock)
theorem ZmT {arr:Array MapEntry} {seen:Array Nat} {e:MapEntry} (h:e ∈ (leftOf arr seen).toList):e ∈ arr.toList/\seen.contains e.born=false:=by
 unfold leftOf at h
 simp only [Array.toList_filter,X3,Wx] at h
 exact h
theorem Zr7 {arr:Array MapEntry} {seen:Array Nat} (h:(leftOf arr seen).size=0):∀ e ∈ arr.toList,seen.contains e.born=true:=by
 intro e he
 cases hc:seen.contains e.born with
 | true=>rfl
 | false =>
  have hm:e ∈ (leftOf arr seen).toList:=by
   unfold leftOf
   simp only [Array.toList_filter,X3,Wx]
   exact ⟨he,hc⟩
  have : (leftOf arr seen).toList=[]:=by
   apply XJ
   simpa using h
  rw [this] at hm;cases hm
section
variable {P:Program} {base:Nat->Prop} {w0:World} {I0:Imm}
variable {fs:Nat->Option Zad} {prim:ZaM} {bf:Nat->Bool} {m:Nat} {live:List Nat} {ms it nx ok en bid b1 nt:Nat} {aslE:List AOp} {c2 c3:Zg} {rs:List Zbu}
def Zbh (it ms:Nat) (r b:Nat):Door:=⟨[],[it,ms],fun n=>if n=it then .pointer (some ⟨r,0,none⟩) else .map (some b)⟩
def Zc7 (arr:Array MapEntry) (j:Nat):Nat:=(arr.toList.getD j ⟨undef,undef,0⟩).born
theorem ZuR (hm:P.follows .mixedOrders=true) (hO:∀ n,ZI P (Zw fs prim bf n)) (hb:KLt base w0) {an3:Ann} {ops3 ops4:Array Oper} {i3 i4:Nat} {body:Code} {nxo exo eno:Oper} {lE:List Oper}
  (h3:ops3.toList=[nxo,exo]) (h4:ops4.toList=eno::lE)
  (hn1:nxo.op=.next (.tmp it) false) (hn2:nxo.dst=some nx) (hn3:nxo.guard=none) (hx1:exo.op=.extract (.tmp nx) 0) (hx2:exo.dst=some ok) (hx3:exo.guard=none)
  (he1:eno.op=.entry (.tmp it)) (he2:eno.dst=some en) (he3:eno.guard=none) (hcE:Za3 P an3 ops4 lE=some aslE) (hc2:ZaW (ZM P an3 body)=c2) (hnt3:an3.nt=nt) (hk3:an3.keep=[it,ms])
  (d1:it < nt) (d2:nx < nt) (d3:ok < nt) (d4:en < nt) (d5:it≠ms) (d6:nx≠ms) (d7:ok≠ms) (d8:en≠ms) (d9:nx≠it) (d10:ok≠it) (d11:en≠it) (d12:nx≠ok) (hlv:∀ n ∈ live,n≠it/\n≠nx/\n≠ok/\n≠en)
  {r b clk:Nat} {arr:Array MapEntry} {es:List (AVal×AVal)} (hS:Zgx arr clk) (hne:arr.size=es.length) (hrb:r≠b) (hrbase:¬base r) (hbbase:¬base b)
  {tm2:Tms} {σ2:Za} {out:AVal×Za} (hall:∀ es':List (AVal×AVal),es'.Perm es->Zdk fs prim bf m live ms en b1 aslE c2 c3 rs es es' tm2 σ2=some out)
  {I:Imm} {β:Bmap} {Q:Exit->Act->World->Prop}
  (hQ:∀ tm σ a w I' β',Ze3 fs prim bf m live c3 rs tm σ=some out->I.le I'->KeptE m β β'->TR I' β' (keepL live tm) a.tmps->(a.defers=[]/\nt<=a.tmps.size)->Rel base w0 I0 I' β' σ w->Q (.exit bid) a w) :
  ∀ (n:Nat) (js:List Nat) (tm:Tms) (σ:Za) (a:Act) (w:World),n+js.length=es.length+1->js.Nodup->(∀ j ∈ js,j < es.length)->ZbG fs prim bf m live ms en b1 aslE c2 es (js.map fun j=>es.getD j (.top,.top)) tm2 σ2=some (tm,σ) ->
   w.heap[r]?=some (.mapIter (some b) clk (js.map (Zc7 arr)).toArray clk)->w.heap[b]?=some (.map arr clk) ->
   (∃ I' β',I.le I'/\KeptE m β β'/\TR I' β' (keepL live tm) a.tmps/\((Zbh it ms r b).ok a/\nt<=a.tmps.size)/\Rel base w0 I0 I' β' σ w/\(∀ o,I' r o=none)/\(∀ t x,σ[t]?=some x->Zc β' t x≠some r)) ->
   Code.rounds P (.seq (.region i3 ops3 false) (.seq (.cond (.tmp ok) .skip (.exit bid)) (.block b1 (.seq (.region i4 ops4 false) body)))) Q n a w:=by
 have hperm:∀ js:List Nat,js.Nodup->(∀ j ∈ js,j < es.length)->∃ rest:List Nat,(X8 es.length).Perm (js++rest):=fun js h1 h2=>ZiK js _ h1 (fun j hj=>Wm.2 (h2 j hj)) Xab
 have hpm:∀ js rest:List Nat,(X8 es.length).Perm (js++rest)->(js.map (fun j=>es.getD j (.top,.top))++rest.map fun j=>es.getD j (.top,.top)).Perm es:=by
  intro js rest h
  have:=h.map (fun j=>es.getD j ((.top,.top):AVal×AVal))
  rw [Znu,Wa] at this
  exact this.symm
 intro n
 induction n with
 | zero =>
  intro js tm σ a w hn hnd hlt _ _ _ _
  exfalso
  obtain ⟨rest,hr⟩:=hperm js hnd hlt
  have:=hr.length_eq
  simp at this
  omega
 | succ n ih =>
  intro js tm σ a w hn hnd hlt hf hit hmap hst
  rw [rounds_succ]
  obtain ⟨I1,β1,g1,g2,T1,⟨gd,gs⟩,R1,hIr,hown⟩:=hst
  have vit:a.tmps.getD it undef=.pointer (some ⟨r,0,none⟩):=by
   have:=gd.2 it (by simp [Zbh]);simpa [Zbh] using this
  have vms:a.tmps.getD ms undef=.map (some b):=by
   have:=gd.2 ms (by simp [Zbh]);simpa [Zbh,WI d5] using this
  refine wp_seq (wp_region_list ?_)
  rw [h3]
  refine Zde hn3 ?_
  unfold Oper.wp
  have hlook:=run_next_at (P:=P) w nxo.type r b clk clk _ arr clk hit hmap (fun x hx=>hS.1 x hx) (XL _)
  rcases hlook with ⟨hz,hrun⟩ | ⟨e,he,w1,hw1,hrun⟩
  ·
   have e1:(execOp a.eval nxo).run P w=.ok (.value (.tuple #[.bool false])) w:=by
    unfold execOp;rw [hn1]
    simp only [Act.eval]
    rw [vit]
    exact Zf1 hrun
   rw [e1,Oper.upon_value,hn2]
   refine Zde hx3 ?_
   unfold Oper.wp
   have e2:(execOp (a.put (some nx) (.tuple #[.bool false])).eval exo).run P w=.ok (.value (.bool false)) w:=by
    unfold execOp;rw [hx1]
    simp only [Act.eval]
    rw [pgs (by omega)]
    exact Zf1 (by simp [Instr.extract])
   rw [e2,Oper.upon_value,hx2]
   refine wpList_nil ?_
   simp only [Exit.then]
   refine wp_seq (wp_cond_false (by simp only [Act.eval];exact pgs (by rw [ZbT];omega)) (wp_exit ?_))
   simp only [Exit.then]
   obtain ⟨rest,hr⟩:=hperm js hnd hlt
   have hrest:rest=[]:=by
    cases rest with
    | nil=>rfl
    | cons x rest =>
     exfalso
     have hx:x < es.length:=Wm.1 (hr.mem_iff.2 (by simp))
     obtain ⟨ex,hxa⟩:∃ ex,arr.toList[x]?=some ex:=⟨_,Xy (by simpa [hne] using hx)⟩
     have hs:=Zr7 hz (arr.toList.getD x ⟨undef,undef,0⟩) (by
      rw [Xd,hxa];exact Xu hxa)
     have hnd2:(js++x::rest).Nodup:=hr.nodup_iff.1 Xab
     have hxj:x ∉ js:=fun hm=>by
      have:=(WT.1 hnd2).2.2 x hm x (by simp)
      exact this rfl
     simp only [List.contains_toArray,Xae,decide_eq_true_eq,XF] at hs
     obtain ⟨y,hy,hyx⟩:=hs
     have hyl:y < es.length:=hlt y hy
     obtain ⟨ey,hya⟩:∃ ey,arr.toList[y]?=some ey:=⟨_,Xy (by simpa [hne] using hyl)⟩
     have hnb:=hS.2
     have e3:(arr.toList.map (·.born))[y]?=(arr.toList.map (·.born))[x]?:=by
      rw [XY,XY,hya,hxa]
      simp only [XK,Xa]
      unfold Zc7 at hyx
      rw [Xd,Xd,hya,hxa] at hyx
      exact hyx
     have hyx2:=(List.getElem?_inj (by simpa [hne] using hyl) hnb).1 e3
     subst hyx2
     exact hxj hy
   subst hrest
   have hp:=hpm js [] hr
   have ho:=hall _ hp
   unfold Zdk at ho
   rw [Zfa,hf] at ho
   simp only [XT,ZbG] at ho
   refine hQ tm σ _ w I1 β1 ho g1 g2 ?_ ⟨by rw [ZfP,ZfP];exact gd.1,by rw [ZbT,ZbT];exact gs⟩ R1
   have t0:∀ d,d ∉ live->tget (keepL live tm) d=.top:=fun d hd=>by rw [Zgt,if_neg hd]
   exact ZeY (ZeY T1 (t0 nx fun h=>(hlv nx h).2.1 rfl)) (t0 ok fun h=>(hlv ok h).2.2.1 rfl)
  ·
   obtain ⟨hea,hes⟩:=ZmT he
   obtain ⟨j,hj,hje⟩:=List.getElem_of_mem hea
   have hja:arr.toList[j]?=some e:=by rw [Xy hj,hje]
   have hjl:j < es.length:=by simpa [hne] using hj
   have hbj:Zc7 arr j=e.born:=by unfold Zc7;rw [Xd,hja];rfl
   have hjs:j ∉ js:=fun hm=>by
    have : (js.map (Zc7 arr)).toArray.contains e.born=true:=by
     simp only [List.contains_toArray,Xae,decide_eq_true_eq,XF]
     exact ⟨j,hm,hbj⟩
    rw [this] at hes;cases hes
   have hnd':(js++[j]).Nodup:=by
    rw [WT]
    exact ⟨hnd,by simp,fun x hx y hy=>by rw [X0] at hy;subst hy;rintro rfl;exact hjs hx⟩
   have hlt':∀ k ∈ js++[j],k < es.length:=fun k hk=>by
    rcases Xl.1 hk with hk | hk
    ·exact hlt k hk
    ·rw [X0] at hk;subst hk;exact hjl
   obtain ⟨rest,hr⟩:=hperm (js++[j]) hnd' hlt'
   have hp:=hpm (js++[j]) rest hr
   have ho:=hall _ hp
   unfold Zdk at ho
   rw [Zfa,Wa,Zfa,hf] at ho
   simp only [XC,XT,ZbG] at ho
   generalize hkv:es.getD j ((.top,.top):AVal×AVal)=kv at ho
   cases hro:Zef fs prim bf m live ms en b1 aslE c2 es kv tm σ with
   | none=>rw [hro] at ho;cases ho
   | some q =>
   obtain ⟨tm',σ'⟩:=q
   clear ho
   have hf':ZbG fs prim bf m live ms en b1 aslE c2 es ((js++[j]).map fun j=>es.getD j (.top,.top)) tm2 σ2=some (tm',σ'):=by
    rw [Wa,Zfa,hf]
    simp only [XC,XT,ZbG,hkv,hro]
   unfold Zef at hro
   split at hro
   case h_2=>cases hro
   rename_i t hmst
   split at hro
   case isFalse=>cases hro
   rename_i hcond
   obtain ⟨hte,hkept⟩:=hcond
   split at hro
   case h_2=>cases hro
   rename_i tmA σA hstep
   have hbw:=R1.base_le hb
   have Rr:=R1.rebase hown
   obtain ⟨β0,q1,R0r,T0⟩:=ZgY Rr T1 m
   have R0:=R1.unbase R0r (fun k h=>Xn h)
   have hown0:∀ t x,(gcT m (keepL live tm) σ).2[t]?=some x->Zc β0 t x≠some r:=fun t x hx ho=>(R0r.own t x r hx ho).1 (Xv rfl)
   have tt:∀ d,d ∉ live->tget (gcT m (keepL live tm) σ).1 d=.top:=fun d hd=>ZsN hd
   have hml:=ZsY m (keepL live tm) σ
   generalize (gcT m (keepL live tm) σ).1=tm0 at *
   generalize (gcT m (keepL live tm) σ).2=σ0 at *
   have vt:=T0 ms
   rw [hmst,vms] at vt
   simp only [VR] at vt
   obtain ⟨b',kk',cc',hbt,hbb⟩:=vt
   simp only [Value.map.injEq,Xa] at hbb
   subst hbb
   obtain ⟨b2,k2,c2',arr',clk',e1,e2,e3,e4,e5,e6⟩:=R0.blk t _ hte
   rw [hbt] at e1
   simp only [Xa,BI.mk.injEq] at e1
   obtain ⟨rfl,rfl,rfl⟩:=e1
   rw [hmap] at e2
   simp only [Xa,Obj.map.injEq] at e2
   obtain ⟨rfl,rfl⟩:=e2
   have howb:Zc β0 t (.map es)=some b:=by simp [Zc,hbt]
   have htl:t < σ0.length:=(Xe.1 hte).1
   have e1:(execOp a.eval nxo).run P w=.ok (.value (.tuple #[.bool true,e.key,e.val])) (setBlock w1 r (.mapIter (some b) clk ((js.map (Zc7 arr)).toArray.push e.born) clk)):=by
    unfold execOp;rw [hn1]
    simp only [Act.eval]
    rw [vit]
    rw [Sem.run_bind,hrun];rfl
   have hw1h:w1.heap=w.heap/\w1.os=w.os/\w1.tape=w.tape/\w1.output=w.output:=by rcases hw1 with rfl | rfl <;> exact ⟨rfl,rfl,rfl,rfl⟩
   obtain ⟨wh,wo,wt,wu⟩:=hw1h
   have hrlt:r < w.heap.size:=(Xz.1 hit).1
   generalize hw3:setBlock w1 r (.mapIter (some b) clk ((js.map (Zc7 arr)).toArray.push e.born) clk)=w3 at e1
   have w3r:w3.heap[r]?=some (.mapIter (some b) clk ((js.map (Zc7 arr)).toArray.push e.born) clk):=by
    rw [<-hw3];simp only [setBlock,wh];rw [Array.getElem?_setIfInBounds_self_of_lt hrlt]
   have w3k:∀ k,k≠r->w3.heap[k]?=w.heap[k]?:=fun k hk=>by
    rw [<-hw3];simp only [setBlock,wh];rw [XX (WI hk)]
   have w3b:w3.heap[b]?=some (.map arr clk):=by rw [w3k b (WI hrb)];exact hmap
   have w3s:w3.heap.size=w.heap.size:=by rw [<-hw3];simp [setBlock,wh]
   have R3:Rel base w0 I0 I1 β0 σ0 w3:=R0.turn hown0 hrbase hIr (by rw [<-hw3];exact wo) (by rw [<-hw3];exact wt) (by rw [<-hw3];exact wu) (by omega) (fun k hk _=>w3k k hk) hbw
   have hIb:∀ o,I1 b o=none:=(R3.own t _ b hte howb).2
   have RH:=R3.hide hte howb hown0
   rw [e1,Oper.upon_value,hn2]
   generalize hA1:a.put (some nx) (.tuple #[.bool true,e.key,e.val])=A1
   have s1:A1.tmps.size=a.tmps.size:=by rw [<-hA1,ZbT]
   have f1:∀ k,k≠nx->A1.tmps.getD k undef=a.tmps.getD k undef:=by intro k hk;rw [<-hA1];exact pgn (WI hk)
   have df1:A1.defers=[]:=by rw [<-hA1];exact gd.1
   have TA1:TR I1 β0 tm0 A1.tmps:=by rw [<-hA1];exact ZeY T0 (tt nx fun h=>(hlv nx h).2.1 rfl)
   refine Zde hx3 ?_
   unfold Oper.wp
   have e2:(execOp A1.eval exo).run P w3=.ok (.value (.bool true)) w3:=by
    unfold execOp;rw [hx1]
    simp only [Act.eval]
    rw [<-hA1,pgs (by omega)]
    exact Zf1 (by simp [Instr.extract])
   rw [e2,Oper.upon_value,hx2]
   generalize hA2:A1.put (some ok) (.bool true)=A2
   have s2:A2.tmps.size=a.tmps.size:=by rw [<-hA2,ZbT,s1]
   have f2:∀ k,k≠ok->A2.tmps.getD k undef=A1.tmps.getD k undef:=by intro k hk;rw [<-hA2];exact pgn (WI hk)
   have df2:A2.defers=[]:=by rw [<-hA2];exact df1
   have TA2:TR I1 β0 tm0 A2.tmps:=by rw [<-hA2];exact ZeY TA1 (tt ok fun h=>(hlv ok h).2.2.1 rfl)
   refine wpList_nil ?_
   simp only [Exit.then]
   refine wp_seq (wp_cond_true (by simp only [Act.eval];rw [<-hA2];exact pgs (by omega)) (wp_skip ?_))
   simp only [Exit.then]
   refine wp_block (wp_seq (wp_region_list ?_))
   rw [h4]
   refine Zde he3 ?_
   unfold Oper.wp
   have e3':(execOp A2.eval eno).run P w3=.ok (.value (.tuple #[e.key,e.val])) w3:=by
    unfold execOp;rw [he1]
    simp only [Act.eval]
    rw [f2 it (WI d10),f1 it (WI d9),vit]
    exact Zf1 (run_entry_at w3 r b clk _ arr clk e w3r w3b hea hS.2)
   rw [e3',Oper.upon_value,he2]
   generalize hA3:A2.put (some en) (.tuple #[e.key,e.val])=A3
   have s3:A3.tmps.size=a.tmps.size:=by rw [<-hA3,ZbT,s2]
   have f3:∀ k,k≠en->A3.tmps.getD k undef=A2.tmps.getD k undef:=by intro k hk;rw [<-hA3];exact pgn (WI hk)
   have df3:A3.defers=[]:=by rw [<-hA3];exact df2
   have hkve:VR I1 β0 (.tup [kv.1,kv.2]) (.tuple #[e.key,e.val]):=by
    have hej:es[j]?=some kv:=by
     rw [<-hkv,Xd,Xy hjl];rfl
    obtain ⟨v1,p1,p2⟩:=Za9 e3 (i:=j) (x:=kv.1) (by rw [XY,hej];rfl)
    obtain ⟨v2,p3,p4⟩:=Za9 e4 (i:=j) (x:=kv.2) (by rw [XY,hej];rfl)
    rw [XY,hja] at p1 p3
    simp only [XK,Xa] at p1 p3
    subst p1 p3
    simp only [VR]
    exact ⟨_,rfl,by simp only [VRs];exact ⟨_,_,rfl,p2,_,_,rfl,p4,rfl⟩⟩
   have TA3:TR I1 β0 (tput tm0 (some en) (.tup [kv.1,kv.2])) A3.tmps:=by rw [<-hA3];exact TR.put TA2 hkve (by omega)
   have ok3:(Zbh it ms r b).ok A3:=by
    refine ⟨df3,fun k hk=>?_⟩
    have hk':k=it\/k=ms:=by simpa [Zbh] using hk
    have n1:k≠en/\k≠ok/\k≠nx:=by
     rcases hk' with rfl | rfl
     ·exact ⟨WI d11,WI d10,WI d9⟩
     ·exact ⟨WI d8,WI d7,WI d6⟩
    rw [f3 k n1.1,f2 k n1.2.1,f1 k n1.2.2]
    exact gd.2 k hk
   have hkp:∀ n ∈ (Zbh it ms r b).K,n ∈ an3.keep:=fun n hn=>by rw [hk3];exact hn
   have hblt:b < w.heap.size:=(Xz.1 hmap).1
   have hbH:KLt (fun k=>base k\/k=b\/k=r) w3:=fun k hk=>by
    rcases hk with hk | rfl | rfl
    ·have:=hbw k hk;omega
    ·omega
    ·omega
   obtain ⟨cs,hruns⟩:=Zjc hstep
   rw [<-XS lE]
   refine ZhM (dr:=Zbh it ms r b) (O:=fun _ _ _=>none) noO hkp hbH hcE TA3 ⟨ok3,by omega⟩ RH hruns ?_
   intro A4 w4 hst4
   refine wpList_nil ?_
   simp only [Exit.then]
   have fin:∀ (x:Z7) (tmB:Tms) (σB:Za),evC fs prim bf σ0.length c2 tmA σA=some (x,tmB,σB)->(x=.normal\/x=.exit b1)->σB[t]?=some .opq->tput tmB (some ms) (.map t)=tm'->σB.set t (.map es)=σ'->body.wp P (Exit.inBlock b1 (Exit.then (Code.rounds P (.seq (.region i3 ops3 false) (.seq (.cond (.tmp ok) .skip (.exit bid)) (.block b1 (.seq (.region i4 ops4 false) body)))) Q n) Q)) A4 w4:=by
    intro x tmB σB hev hx hopq htm hσ
    obtain ⟨nf,hev⟩:=Zap.1 hev
    rw [<-hc2,Zcf] at hev
    have hstF:StF (Zbh it ms r b) σ0.length an3.nt (fun k=>base k\/k=b\/k=r) w3 I1 I1 β0 tmA σA A4 w4:=by
     obtain ⟨I4,β4,k1,k2,k3⟩:=hst4
     exact ⟨I4,β4,k1,KeptE.of_le k2,k3⟩
    have next:∀ A5 w5,StF (Zbh it ms r b) σ0.length an3.nt (fun k=>base k\/k=b\/k=r) w3 I1 I1 β0 tmB σB A5 w5->Code.rounds P (.seq (.region i3 ops3 false) (.seq (.cond (.tmp ok) .skip (.exit bid)) (.block b1 (.seq (.region i4 ops4 false) body)))) Q n A5 w5:=by
     rintro A5 w5 ⟨I5,β5,k1,k2,k3,⟨k4,k4'⟩,k5⟩
     have hb5:β5 t 0=some ⟨some b,kk',cc'⟩:=k2 t htl _ hbt
     have w5b:w5.heap[b]?=some (.map arr clk):=by rw [k5.below.block b (Xv (Xn rfl))];exact w3b
     have w5r:w5.heap[r]?=_:=(k5.below.block r (Xv (Xv rfl))).trans w3r
     have hI5b:∀ o,I5 b o=none:=fun o=>by rw [k5.old b o (Xv (Xn rfl))];exact hIb o
     have hI5r:∀ o,I5 r o=none:=fun o=>by rw [k5.old r o (Xv (Xv rfl))];exact hIr o
     have hB5:BR I5 β5 w5 t (.map es):=⟨b,kk',cc',arr,clk,hb5,w5b,ZkD (fun y hy=>by obtain ⟨p,hp,rfl⟩:=XF.1 hy;exact e5 p hp) e3,ZkM k1 k2 (fun y hy=>by obtain ⟨p,hp,rfl⟩:=XF.1 hy;exact hkept p hp) e4,e5,hS⟩
     have ho5:Zc β5 t (.map es)=some b:=by simp [Zc,hb5]
     have R5:=R3.unhide k5 hopq ho5 hB5 hbbase hI5b
     rw [hσ] at R5
     refine ih (js++[j]) tm' σ' A5 w5 (by rw [List.length_append,List.length_singleton];omega) hnd' hlt' hf' ?_ w5b ⟨I5,β5,g1.trans k1,?_,?_,⟨k4,by omega⟩,R5,hI5r,?_⟩
     ·rw [w5r,Wa,XC,XT,hbj,List.push_toArray]
     ·refine (g2.trans q1).trans (fun u hu bi hbi=>k2 u (by omega) bi hbi)
     ·refine TR.keep (fun u=>?_) live
      rw [<-htm]
      show VR I5 β5 (tget (tins ms (.map t) tmB) u) _
      rw [Zel]
      split
      ·rename_i e;subst e
       have : A5.tmps.getD ms undef=.map (some b):=by have:=k4.2 ms (by simp [Zbh]);simpa [Zbh,WI d5] using this
       rw [this]
       simp only [VR]
       exact ⟨b,kk',cc',hb5,rfl⟩
      ·exact k3 u
     ·intro u y hy hoy
      rw [<-hσ,Xh] at hy
      split at hy
      ·rename_i e;subst e
       split at hy
       ·injection hy with hy;subst hy
        rw [ho5] at hoy;injection hoy with hoy;exact hrb hoy.symm
       ·cases hy
      ·exact (k5.own u y r hy hoy).1 (Xv (Xv rfl))
    refine ZfV (dr:=Zbh it ms r b) (an:=an3) (hO nf) hkp hm hbH σ0.length nf rfl hstF hev ?_
    rcases hx with rfl | rfl
    ·intro A5 w5 hs
     simp only [Exit.inBlock,Exit.then]
     exact next A5 w5 hs
    ·intro A5 w5 hs
     simp only [Exit.inBlock,if_true,Exit.then]
     exact next A5 w5 hs
   split at hro
   ·rename_i tmB σB hev
    split at hro
    case isFalse=>cases hro
    rename_i hopq
    simp only [Xa,Xb] at hro
    exact fin _ _ _ hev (Xn rfl) hopq hro.1 hro.2
   ·rename_i i tmB σB hev
    split at hro
    case isFalse=>cases hro
    rename_i hopq
    obtain ⟨rfl,hopq⟩:=hopq
    simp only [Xa,Xb] at hro
    exact fin _ _ _ hev (Xv rfl) hopq hro.1 hro.2
   ·cases hro
end
end
section
open Go.RowKit
open Go.ChangeMaps (setBlock)
section
variable {P:Program} {fs:Nat->Option Zad} {prim:ZaM} {bf:Nat->Bool}
theorem ZvK (hm:P.follows .mixedOrders=true) (hO:∀ n,ZI P (Zw fs prim bf n)) {f:FuncId} {an1 an3:Ann} {nt n0 n1 ms it nx ok en bid b1:Nat} {live:List Nat} {asl1 aslE:List AOp} {c1 c2 c3:Zg} {rs:List Zbu}
  (D:Zke P f an1 an3 nt n0 n1 ms it nx ok en bid b1 live asl1 aslE c1 c2 c3 rs) {args:List AVal} {σ σ':Za} {r:AVal} (hg:ZfX fs prim bf live ms en b1 asl1 aslE c1 c2 c3 rs args σ=some (r,σ')) :
  (∃ fn,P.funcs[f]?=some fn/\fn.body.isSome=true/\(fn.name == "runtime.NumGoroutine")=false) /\
  ∀ base w0 I0 I β w (vs:Array Value),KLt base w0->Rel base w0 I0 I β σ w->VRs I β args vs.toList ->
   Calls P f vs w (fun e w'=>∃ u,Ends r e u/\ZaQ σ.length base w0 I0 I β r σ' u w'):=by
 obtain ⟨F,B,pre,ops1,ops3,ops4,i2,i3,i4,body,rest,t,kt,et,rg,nxo,exo,eno,lE,hF,hname,hnt,hrs,hbody,hsp,h1,h3,h4,hr1,hr2,hr3,hu,hn1,hn2,hn3,hx1,hx2,hx3,he1,he2,he3,hc1,hca1,hcE,hc2,hc3,ha1,ha3,hk3,hd⟩:=D.ex
 simp only [Xc,decide_eq_true_eq,Xp] at hd
 obtain ⟨⟨⟨⟨⟨⟨⟨⟨⟨⟨⟨⟨d1,d2⟩,d3⟩,d4⟩,d5⟩,d6⟩,d7⟩,d8⟩,d9⟩,d10⟩,d11⟩,d12⟩,hlv⟩:=hd
 refine ⟨⟨F,hF,by rw [hbody];rfl,hname⟩,?_⟩
 intro base w0 I0 I β w vs hb R hargs
 unfold ZfX at hg
 split at hg
 case h_2=>cases hg
 rename_i tm1 σ1 hx
 split at hg
 case h_2=>cases hg
 rename_i tm2 σ2 hst1
 split at hg
 case h_2=>cases hg
 rename_i mt hms
 split at hg
 case h_2=>cases hg
 rename_i es hes
 unfold ZeJ at hg
 split at hg
 case isFalse=>cases hg
 rename_i hex
 have hall:=hex.choose_spec
 injection hg with hg
 rw [hg] at hall
 obtain ⟨nf,hx⟩:=Zap.1 hx
 rw [<-hc1,Zcf] at hx
 refine calls_of_wp hF hbody ?_
 rw [Zka hsp]
 have T:=Zhh hargs (F.ntmps - vs.size)
 have hst:StF Zaw σ.length an1.nt base w0 I0 I β (enterA 0 args []) σ { tmps:=vs++WP (F.ntmps - vs.size) undef,defers:=[] } w:=⟨I,β,Imm.le.refl I,KeptE.refl _ β,T,⟨Zcj.2 rfl,by rw [ha1,<-hnt];simp;omega⟩,R⟩
 refine Zko (hO nf) hm hb σ.length nf _ pre hst hx ?_
 rintro A1 w1 ⟨I1,β1,g1,g2,T1,⟨gd,gs⟩,R1⟩
 refine wp_seq (wp_seq (wp_region_list ?_))
 have hl1:ops1.toList=ops1.toList.take n1++[rg]:=by rw [<-h1,List.take_append_drop]
 rw [hl1]
 obtain ⟨cs,hruns⟩:=Zjc hst1
 refine ZhM (dr:=Zaw) (O:=fun _ _ _=>none) noO (fun n hn=>by simp [Zaw] at hn) hb hca1 T1 ⟨gd,gs⟩ R1 hruns ?_
 rintro A2 w2 ⟨I2,β2,k1,k2,T2,⟨kd,ks⟩,R2⟩
 have vms:=T2 ms
 rw [hms] at vms
 simp only [VR] at vms
 obtain ⟨b,kk,cc,hbt,vms⟩:=vms
 obtain ⟨b',kk',cc',arr,clk,e1,e2,e3,e4,e5,e6⟩:=R2.blk mt _ hes
 rw [hbt] at e1
 simp only [Xa,BI.mk.injEq] at e1
 obtain ⟨rfl,rfl,rfl⟩:=e1
 refine Zde hr3 ?_
 unfold Oper.wp
 have er:(execOp A2.eval rg).run P w2=.ok (.value (.pointer (some ⟨w2.heap.size,0,none⟩))) { w2 with heap:=w2.heap.push (.mapIter (some b) clk #[] clk) }:=by
  unfold execOp;rw [hr1]
  simp only [Act.eval]
  rw [vms]
  simp [Instr.range,run_underlying hu,Zej e2]
 rw [er,Oper.upon_value,hr2]
 refine wpList_nil ?_
 simp only [Exit.then]
 have hbw:=R2.base_le hb
 have hblt:b < w2.heap.size:=(Xz.1 e2).1
 have howb:Zc β2 mt (.map es)=some b:=by simp [Zc,hbt]
 have hob:=R2.own mt _ b hes howb
 generalize hr:w2.heap.size=rr at *
 have hown:∀ t x,σ2[t]?=some x->Zc β2 t x≠some rr:=fun t x hx ho=>by
  have:=(R2.blk t x hx).owns_lt ho;omega
 have hrb:¬base rr:=fun h=>by have:=hbw rr h;omega
 have hIr:∀ o,I2 rr o=none:=fun o=>by
  cases hi:I2 rr o with
  | none=>rfl
  | some u =>
   have:=ZbU (R2.imm rr o u hi)
   omega
 generalize hw3:({ w2 with heap:=w2.heap.push (.mapIter (some b) clk #[] clk) }:World)=w3
 have w3k:∀ k,k < w2.heap.size->w3.heap[k]?=w2.heap[k]?:=fun k hk=>by
  rw [<-hw3];simp only;rw [Array.getElem?_push];rw [if_neg (by omega)]
 have R3:Rel base w0 I0 I2 β2 σ2 w3:=R2.turn hown hrb hIr (by rw [<-hw3]) (by rw [<-hw3]) (by rw [<-hw3]) (by rw [<-hw3];simp) (fun k _ hk=>w3k k hk) hbw
 refine wp_block (wp_loop_rounds (es.length+1) ?_)
 have hlen:arr.size=es.length:=by
  have:=Zaa e3
  simpa using this.symm
 refine ZuR (base:=base) (w0:=w0) (I0:=I0) (m:=σ.length) (live:=live) (ms:=ms) (it:=it) (nx:=nx) (ok:=ok) (en:=en) (nt:=nt) (c3:=c3) (rs:=rs) hm hO hb h3 h4 hn1 hn2 hn3 hx1 hx2 hx3 he1 he2 he3 hcE hc2 ha3 hk3 d1 d2 d3 d4 d5 d6 d7 d8 d9 d10 d11 d12 (fun n hn=>by have:=hlv n hn;exact ⟨this.1.1.1,this.1.1.2,this.1.2,this.2⟩)
  (r:=rr) (b:=b) (arr:=arr) (clk:=clk) (es:=es) (tm2:=tm2) (σ2:=σ2) (out:=(r,σ')) (I:=I2) (β:=β2) e6 hlen (by omega) hrb hob.1 hall ?_ (es.length+1) [] tm2 σ2 _ w3 (by simp) (by simp) (by simp) rfl ?_ ?_ ?_
 ·
  intro tm σx a wx I' β' hend j1 j2 jT jd jR
  simp only [Exit.inBlock,if_true,Exit.then]
  unfold Ze3 at hend
  obtain ⟨β3,q1,q2,q3⟩:=ZgY jR jT σ.length
  generalize hev:evC fs prim bf σ.length c3 (gcT σ.length (keepL live tm) σx).1 (gcT σ.length (keepL live tm) σx).2=res at hend
  cases res with
  | none=>simp only [Zas] at hend;cases hend
  | some q =>
   obtain ⟨e,tm',σe⟩:=q
   obtain ⟨n3,hev⟩:=Zap.1 hev
   rw [<-hc3,Zcf] at hev
   have kk1:KeptE σ.length β β3:=(g2.trans (KeptE.of_le k2)).trans (j2.trans q1)
   have st:StF Zaw σ.length an1.nt base w0 I0 I β (gcT σ.length (keepL live tm) σx).1 (gcT σ.length (keepL live tm) σx).2 a wx:=⟨I',β3,(g1.trans k1).trans j1,kk1,q3,⟨Zcj.2 jd.1,by rw [ha1];exact jd.2⟩,q2⟩
   have fin:(match resA tm' σe rs with | some r=>ZaC σ.length σe r | none=>none)=some (r,σ')->∀ a' w',StF Zaw σ.length an1.nt base w0 I0 I β tm' σe a' w'->a'.defers=[]/\∃ v,(results F a'.tmps).run P w'=.ok v w'/\∃ u,Ends r (.returned v) u/\ZaQ σ.length base w0 I0 I β r σ' u w':=by
    intro hr a' w' ⟨I1,β1,g1,g2,g3,g4,g5⟩
    split at hr
    ·rename_i x hx1
     obtain ⟨v,h1,h2⟩:=Zkr g3 g5 hrs hx1
     have hnp:∀ y,x≠.pan y:=by rintro y rfl;simp only [VR] at h2
     obtain ⟨q1,q2⟩:=Zeq (⟨I1,β1,g1,g2,g5,by rw [ZcZ hnp];exact h2⟩:ZaQ σ.length base w0 I0 I β x σe v w') hr
     refine ⟨Zcj.1 g4.1,v,h1,v,q2 _ ?_,q1⟩
     cases x <;> first | rfl | exact absurd rfl (hnp _)
    ·cases hr
   refine ZfV (dr:=Zaw) (an:=an1) (hO n3) (fun n hn=>by simp [Zaw] at hn) hm hb σ.length n3 rfl st hev ?_
   cases e with
   | normal=>simp only [Zas] at hend;exact fun a' w' hs=>fin hend a' w' hs
   | ret=>simp only [Zas] at hend;exact fun a' w' hs=>fin hend a' w' hs
   | exit id=>simp only [Zas] at hend;cases hend
   | panic x =>
    simp only [Zas] at hend
    intro a' u w' hd hp
    obtain ⟨q1,q2⟩:=Zeq hp hend
    exact ⟨Zcj.1 hd,u,q2 _ rfl,q1⟩
 ·rw [<-hw3,<-hr];simp
 ·rw [w3k b (by omega)];exact e2
 ·refine ⟨I2,β2,Imm.le.refl _,KeptE.refl _ _,?_,⟨⟨by rw [ZfP];exact Zcj.1 kd,fun k hk=>?_⟩,by rw [ZbT];omega⟩,R3,hIr,hown⟩
  ·refine ZeY (T2.keep live) ?_
   rw [Zgt,if_neg]
   exact fun h=>(hlv it h).1.1.1 rfl
  ·have hk':k=it\/k=ms:=by simpa [Zbh] using hk
   rcases hk' with rfl | rfl
   ·rw [pgs (by omega)];simp [Zbh]
   ·rw [pgn d5,vms];simp [Zbh,WI d5]
end
end
section
open Go.RowKit
def Zhf (args:List AVal) (σ:Za):Option (AVal×Za):=match args with
 | [.str l]=>some (.bool (Lib.validD l),σ)
 | _=>none
def Zf4 (args:List AVal) (σ:Za):Option (AVal×Za):=match args with
 | [.str l,.int .u8 c]=>some (.int .i64 (Lib.indexByte l c.toNat.toUInt8),σ)
 | _=>none
def Zg3 (args:List AVal) (σ:Za):Option (AVal×Za):=match args with
 | [.str l,.str [c]]=>some (.int .i64 (Lib.countByte l c),σ)
 | _=>none
section
variable {P:Program} {base:Nat->Prop} {w0 w w':World} {I0 I:Imm} {β:Bmap} {σ:Za}
theorem Zig {f:Nat} (hf:∃ fn,P.funcs[f]?=some fn/\fn.body.isSome=true/\(fn.name == "runtime.NumGoroutine")=false) {args:List AVal} {r:AVal} {u:Value} (hn:∀ x,r≠.pan x) (hr:∀ I β,VR I β r u)
  (h:∀ base w0 I0 I β w (vs:Array Value),Rel base w0 I0 I β σ w->VRs I β args vs.toList->Calls P f vs w (fun e w'=>e=.returned u/\Below w.heap.size w w')) :
  (∃ fn,P.funcs[f]?=some fn/\fn.body.isSome=true/\(fn.name == "runtime.NumGoroutine")=false) /\
  ∀ base w0 I0 I β w (vs:Array Value),KLt base w0->Rel base w0 I0 I β σ w->VRs I β args vs.toList ->
   Calls P f vs w (fun e w'=>∃ u,Ends r e u/\ZaQ σ.length base w0 I0 I β r σ u w'):=by
 refine ⟨hf,fun base w0 I0 I β w vs hb R hv=>(h base w0 I0 I β w vs R hv).mono ?_⟩
 rintro e w' ⟨rfl,hB⟩
 have hbw:=R.base_le hb
 refine ⟨u,?_,I,β,Imm.le.refl I,KeptE.refl _ β,R.stay (Imm.le.refl I) ⟨hB.os,hB.tape,hB.output,hB.size,fun k hk=>hB.block k (hbw k hk)⟩ (fun _ _ _=>rfl) ?_ ?_,by rw [ZcZ hn];exact hr I β⟩
 ·cases r <;> first | rfl | exact absurd rfl (hn _)
 ·intro b o x hx
  have h1:=R.imm b o x hx
  have hlt:=ZbU h1
  rw [<-h1]
  simp only [World.cell?,hB.block b hlt]
 ·intro t x b hx hb'
  exact ⟨hB.block b ((R.blk t x hx).owns_lt hb'),(R.own t x b hx hb').2⟩
theorem ZkC {f:Nat} (hf:∃ fn,P.funcs[f]?=some fn/\fn.body.isSome=true/\(fn.name == "runtime.NumGoroutine")=false)
  (hc:∀ (s:ByteArray) (c:Int) (w:World),Calls P f #[.string s,.int .u8 c] w fun e w'=>e=.returned (.int .i64 (Lib.indexByte s.data.toList c.toNat.toUInt8))/\w'=w) {args:List AVal} {σ σ':Za} {r:AVal} (h:Zf4 args σ=some (r,σ')) :
  (∃ fn,P.funcs[f]?=some fn/\fn.body.isSome=true/\(fn.name == "runtime.NumGoroutine")=false) /\
  ∀ base w0 I0 I β w (vs:Array Value),KLt base w0->Rel base w0 I0 I β σ w->VRs I β args vs.toList ->
   Calls P f vs w (fun e w'=>∃ u,Ends r e u/\ZaQ σ.length base w0 I0 I β r σ' u w'):=by
 unfold Zf4 at h
 split at h
 case h_2=>cases h
 rename_i l c
 simp only [Xa,Xb] at h
 obtain ⟨rfl,rfl⟩:=h
 refine Zig hf (u:=.int .i64 (Lib.indexByte l c.toNat.toUInt8)) (by simp) (fun _ _=>by simp only [VR]) ?_
 intro base w0 I0 I β w vs R hv
 obtain ⟨vs⟩:=vs
 simp only [VRs,VR] at hv
 obtain ⟨v1,r1,e1,⟨rfl,_⟩,v2,r2,rfl,rfl,rfl⟩:=hv
 subst e1
 refine (hc ⟨l.toArray⟩ c w).mono ?_
 rintro e w' ⟨rfl,rfl⟩
 exact ⟨by simp,Below.refl _ _⟩
theorem ZsK {f:Nat} (hf:∃ fn,P.funcs[f]?=some fn/\fn.body.isSome=true/\(fn.name == "runtime.NumGoroutine")=false)
  (hc:∀ (s:ByteArray) (c:UInt8) (w:World),Calls P f #[.string s,.string ⟨#[c]⟩] w fun e w'=>e=.returned (.int .i64 (Lib.countByte s.data.toList c))/\w'=w) {args:List AVal} {σ σ':Za} {r:AVal} (h:Zg3 args σ=some (r,σ')) :
  (∃ fn,P.funcs[f]?=some fn/\fn.body.isSome=true/\(fn.name == "runtime.NumGoroutine")=false) /\
  ∀ base w0 I0 I β w (vs:Array Value),KLt base w0->Rel base w0 I0 I β σ w->VRs I β args vs.toList ->
   Calls P f vs w (fun e w'=>∃ u,Ends r e u/\ZaQ σ.length base w0 I0 I β r σ' u w'):=by
 unfold Zg3 at h
 split at h
 case h_2=>cases h
 rename_i l c
 simp only [Xa,Xb] at h
 obtain ⟨rfl,rfl⟩:=h
 refine Zig hf (u:=.int .i64 (Lib.countByte l c)) (by simp) (fun _ _=>by simp only [VR]) ?_
 intro base w0 I0 I β w vs R hv
 obtain ⟨vs⟩:=vs
 simp only [VRs,VR] at hv
 obtain ⟨v1,r1,e1,⟨rfl,_⟩,v2,r2,rfl,⟨rfl,_⟩,rfl⟩:=hv
 subst e1
 refine (hc ⟨l.toArray⟩ c w).mono ?_
 rintro e w' ⟨rfl,rfl⟩
 exact ⟨by simp,Below.refl _ _⟩
theorem Zv6 (R:Rel base w0 I0 I β σ w):Lib.Utf8Tabs 1 2 w:=by
 refine ⟨fun c hc=>R.imm _ _ _ (R.glob _ _ _ (by simp [Gl,hc])),fun i hi=>⟨R.imm _ _ _ (R.glob _ _ _ ?_),R.imm _ _ _ (R.glob _ _ _ ?_)⟩⟩
 ·have h1:2*i < 32:=by omega
  have h2:2*i % 2=0:=by omega
  have h3:2*i / 2=i:=by omega
  simp [Gl,h1,h3]
 ·have h1:2*i+1 < 32:=by omega
  have h2:(2*i+1) % 2=1:=by omega
  have h3:(2*i+1) / 2=i:=by omega
  simp [Gl,h1,h2,h3]
theorem Zoa {f:Nat} (hf:∃ fn,P.funcs[f]?=some fn/\fn.body.isSome=true/\(fn.name == "runtime.NumGoroutine")=false)
  (hc:∀ (s:ByteArray) (w:World),s.size<=9223372036854775807->Lib.Utf8Tabs 1 2 w->Calls P f #[.string s] w fun e w'=>e=.returned (.bool (Lib.validD s.data.toList))/\Below w.heap.size w w') {args:List AVal} {σ σ':Za} {r:AVal} (h:Zhf args σ=some (r,σ')) :
  (∃ fn,P.funcs[f]?=some fn/\fn.body.isSome=true/\(fn.name == "runtime.NumGoroutine")=false) /\
  ∀ base w0 I0 I β w (vs:Array Value),KLt base w0->Rel base w0 I0 I β σ w->VRs I β args vs.toList ->
   Calls P f vs w (fun e w'=>∃ u,Ends r e u/\ZaQ σ.length base w0 I0 I β r σ' u w'):=by
 unfold Zhf at h
 split at h
 case h_2=>cases h
 rename_i l
 simp only [Xa,Xb] at h
 obtain ⟨rfl,rfl⟩:=h
 refine Zig hf (u:=.bool (Lib.validD l)) (by simp) (fun _ _=>by simp only [VR]) ?_
 intro base w0 I0 I β w vs R hv
 obtain ⟨vs⟩:=vs
 simp only [VRs,VR] at hv
 obtain ⟨v1,r1,e1,⟨rfl,hl⟩,rfl⟩:=hv
 subst e1
 refine (hc ⟨l.toArray⟩ w (by simpa [Wd] using hl) (Zv6 R)).mono ?_
 rintro e w' ⟨rfl,hB⟩
 exact ⟨by simp,hB⟩
end
end
section
def Zb9 {α:Type} (d:α):List (Nat×α)->Nat->α
 | [],_=>d
 | (k,v)::r,n=>if k=n then v else Zb9 d r n
def Zs (own raw:List Nat) (cfg cfg2:List (Nat×Nat×Bool)) (lr ll:List (Nat×List Nat)):Ann:={ own:=fun n=>if own.contains n then 1 else if raw.contains n then 2 else 0,cfg:=Zb9 (0,true) cfg,cfg2:=Zb9 (0,true) cfg2,lr:=Zb9 [] lr,ll:=Zb9 [] ll }
def ZlF:List (Nat×Ann):=[
 (9,Zs [] [] [] [] [(0,[4,3,2,1,0]),(1,[12,3,2]),(2,[13,12,2]),(3,[27,13,12,2]),(4,[12,2]),(5,[31,12,2]),(6,[11,10]),(7,[11,10])] []),
 (13,Zs [] [] [(12,1,true)] [] [(0,[3,2]),(1,[5,3,2]),(2,[13,12,11,5,3,2]),(3,[14,13,12,11,5,3,2]),(4,[13,12,11,7,5,3,2]),(5,[13,12,11,5,3,2]),(6,[13,12,11,5,3,2]),(7,[4])] [(3,[13,12,11,5,3,2])]),
 (24,Zs [] [] [] [] [(0,[2,1,0]),(1,[4])] []),
 (7,Zs [] [] [] [] [(0,[8,2,1,0]),(1,[26,2,1,0]),(2,[])] []),
 (12,Zs [] [] [(18,1,false),(22,0,false)] [] [(0,[2,1,0]),(1,[7,2,1,0]),(2,[8,7,1,0]),(3,[]),(4,[29,8,7,1,0]),(5,[6]),(6,[32,8,7,1,0]),(7,[]),(8,[6])] []),
 (15,Zs [] [] [] [] [(0,[3,0]),(1,[4])] []),
 (25,Zs [] [] [] [] [(0,[1,0]),(1,[5,1]),(2,[3])] []),
 (8,Zs [] [] [(18,1,false)] [] [(0,[1,0]),(1,[4])] []),
 (48,Zs [] [] [] [] [(0,[1,0]),(1,[4])] []),
 (55,Zs [] [] [] [] [(0,[1,0]),(1,[4])] []),
 (73,Zs [] [] [] [] [(0,[0]),(1,[2])] []),
 (5,Zs [] [] [] [] [(0,[]),(1,[0])] []),
 (19,Zs [] [] [] [] [(0,[2,1,0]),(1,[7,2,1,0]),(2,[12,11,10,7,2,1]),(3,[13,12,11,10,7,2,1]),(4,[12,11,10,9,7,2,1]),(5,[20,12,11,10,9,7,2,1]),(6,[12,11,10,7,2,1]),(7,[12,11,10,7,2,1]),(8,[6])] [(3,[12,11,10,7,2,1])]),
 (20,Zs [] [] [] [] [(0,[1,0]),(1,[1,0]),(2,[9,1,0]),(3,[0]),(4,[4])] []),
 (36,Zs [] [] [] [] [(0,[1,0]),(1,[7,1,0]),(2,[12,7,1,0]),(3,[6,5,4]),(4,[6,5,4])] []),
 (35,Zs [] [] [] [] [(0,[1,0]),(1,[9,1,0]),(2,[5,4]),(3,[5,4])] []),
 (42,Zs [] [] [] [] [(0,[1,0]),(1,[4])] []),
 (43,Zs [] [] [] [] [(0,[1,0]),(1,[5,1,0]),(2,[16,5,1,0]),(3,[4]),(4,[24,5,1,0]),(5,[4]),(6,[31]),(7,[4]),(9,[4]),(10,[6,5,1,0]),(11,[7,6,5,1,0]),(12,[8,7,6,5,1,0]),(13,[9,8,7,6,5,1,0]),(14,[10,9,8,7,6,5,1,0]),(15,[59,10,9,8,7,6,5,1,0]),(16,[64,10,9,8,7,6,5,1,0]),(17,[11,10,8,7,5,1,0]),(18,[73,11,10,8,7,5,1,0]),(19,[4]),(20,[10,8,7,5,1,0]),(21,[93,10,8]),(22,[4]),(23,[10]),(24,[]),(26,[12,8]),(27,[114,12,8]),(28,[4]),(29,[4]),(31,[13,8]),(32,[139,13,8]),(33,[4]),(34,[4]),(35,[4])] [(15,[10,9,8,7,6,5,1,0])]),
 (40,Zs [] [] [] [] [(0,[0]),(1,[2]),(2,[2])] []),
 (58,Zs [] [] [] [] [(0,[2,0]),(1,[4,2,0]),(2,[0]),(3,[2,0]),(4,[8,2,0]),(5,[2,0]),(6,[2,0]),(7,[2])] []),
 (59,Zs [] [] [] [] [(0,[2,0]),(1,[4,2,0]),(2,[0]),(3,[2,0]),(4,[8,2,0]),(5,[2,0]),(6,[2,0]),(7,[14,2,0]),(8,[2,0]),(9,[2,0]),(10,[2])] []),
 (37,Zs [] [] [] [] [(0,[0]),(1,[6,0]),(2,[8,7,6,0]),(3,[6,4,0]),(4,[11,6,0]),(5,[2]),(6,[2])] [(2,[6,0])]),
 (17,Zs [] [] [] [] [(0,[1,0]),(1,[4])] []),
 (22,Zs [] [] [] [] [(0,[2,1,0]),(1,[2,1,0]),(2,[16,2,1,0]),(3,[6]),(4,[7,2,1,0]),(5,[7,0]),(6,[0]),(7,[6])] []),
 (21,Zs [] [] [] [] [(0,[1,0]),(1,[8,7,1,0]),(2,[9,8,7,1,0]),(3,[8,7,5,1,0]),(4,[16,8,7,5,1,0]),(5,[4]),(6,[8,7,1,0]),(7,[4])] [(2,[8,7,1,0])]),
 (32,Zs [] [] [] [] [(0,[2,0]),(1,[])] []),
 (51,Zs [] [] [] [] [(0,[6,1,0]),(1,[15,6,1,0]),(2,[7,6,1,0]),(3,[8,7,6,1,0]),(4,[9,8,7,6,1,0]),(5,[33,9,8,7,6,1,0]),(6,[9,8,7,6,1,0]),(7,[10,9,8,7,6,1,0]),(8,[43,10,9,8,7,6,1,0]),(9,[10,9,8,7,6,1,0]),(10,[9,8,7,6,1,0])] [(5,[9,8,7,6,1,0])]),
 (52,Zs [] [] [] [] [(0,[2,1,0]),(1,[8,1,0]),(2,[9,8,1,0]),(3,[10,9,8,1,0]),(4,[11,10,9,8,1,0]),(5,[12,11,10,9,8,0]),(6,[32,12,11,10,9,8,0]),(7,[34,12,11,10,9,0]),(8,[12,11,10,9,0]),(9,[12,11,10,9,0]),(10,[12,11,10,9,0]),(11,[11,9]),(12,[49,11]),(13,[7,6]),(14,[51,49,11]),(15,[7,6]),(16,[54,11]),(17,[7,6])] []),
 (50,Zs [] [] [] [] [(0,[6,2,1,0]),(1,[7,6,2,1,0]),(2,[8,7,6,0]),(3,[9,8,7,6,0]),(4,[19,9,8,7,6,0]),(5,[9,8,7,6,0]),(6,[9,8,7,6,0]),(7,[10,7,6,0]),(8,[30,10,7,6,0]),(9,[10,7,6,0]),(10,[10,7,6,0]),(11,[10,7,6,0])] [(4,[9,8,7,6,0]),(8,[10,7,6,0])]),
 (49,Zs [] [] [] [] [(0,[6,2,1,0]),(1,[12,6,2,1,0]),(2,[6,2,1,0]),(3,[7,6,2,1,0]),(4,[30,7,6,2,1,0]),(5,[7,6,2,1,0]),(6,[7,6,2,1,0])] [(1,[6,2,1,0]),(4,[7,6,2,1,0])]),
 (71,Zs [] [] [] [] [(0,[2,1,0]),(1,[6])] []),
 (72,Zs [] [] [] [] [(0,[4,3,2,1,0]),(1,[4,3,2,1,0]),(2,[4,2,1,0]),(3,[2]),(4,[10])] []),
 (69,Zs [] [] [] [] [(0,[0]),(1,[2])] []),
 (79,Zs [] [] [] [] [(0,[3,2,1,0]),(1,[18,3,2,1]),(2,[2,1]),(3,[9,8]),(4,[9,8])] []),
 (54,Zs [] [] [] [] [(0,[2,1,0]),(1,[7,2,1,0]),(2,[8,7,2,1,0]),(3,[14,8,7,2,1,0]),(4,[8,7,2,1,0]),(5,[32,8,7,2,1,0]),(6,[8,7,2,1,0]),(7,[37,8,7,2,1,0]),(8,[6]),(9,[41,8,7,2,1,0]),(10,[6]),(11,[8,7,2,1,0]),(12,[61,8,7,2,1,0]),(13,[9,8,7,2,1,0]),(14,[65,9,8,7,2,1,0]),(15,[9,8,7,2,1,0]),(16,[78,9,8,7,2,1,0]),(17,[9,8,7,2,1,0]),(18,[98,8,7,2,1,0]),(19,[10,8,7,2,1,0]),(20,[103,10,8,7,2,1,0]),(21,[10,8,7,2,1,0]),(22,[116,10,8,7,2,1,0]),(23,[10,8,7,2,1,0]),(24,[6])] [(3,[8,7,2,1,0]),(5,[8,7,2,1,0]),(14,[9,8,7,2,1,0]),(20,[10,8,7,2,1,0])]),
 (56,Zs [] [] [] [] [(0,[3,2,1,0]),(1,[2,1,0]),(2,[10,9,1,0]),(3,[43,10,9,1,0]),(4,[10,9,1,0]),(5,[59,10,9,1,0]),(6,[10,9,1,0]),(7,[64,10,9,1,0]),(8,[10,9,1,0]),(9,[10,9,1,0]),(10,[10,9,1,0]),(11,[8])] [(3,[10,9,1,0]),(5,[10,9,1,0])]),
 (57,Zs [] [] [] [] [(0,[3,2,1,0]),(1,[2,1,0]),(2,[11,10,1,0]),(3,[43,11,10,1,0]),(4,[11,10,1,0]),(5,[60,11,10,1,0]),(6,[11,10,1,0]),(7,[65,11,10,1,0]),(8,[11]),(9,[9,8]),(10,[11,10,1,0]),(11,[11,10,1,0]),(12,[11,10,1,0]),(13,[112,11,10,1,0]),(14,[11,10,1,0]),(15,[129,11,10,1,0]),(16,[11,10,1,0]),(17,[134,11,10,1,0]),(18,[11,10,1,0]),(19,[11,10,1,0]),(20,[11,10,1,0]),(21,[11]),(22,[9,8])] [(3,[11,10,1,0]),(5,[11,10,1,0]),(13,[11,10,1,0]),(15,[11,10,1,0])]),
 (39,Zs [] [] [] [] [(0,[8,3,2,1,0]),(1,[9,8,3,2,1,0]),(2,[10,9,8,3,2,1,0]),(3,[23,10,9,8,3,2,1,0]),(4,[]),(5,[29,10,9,8,3,2,1,0]),(6,[]),(7,[35,10,9,8,3,2,1,0]),(8,[10,9,8,3,2,1,0]),(9,[10,9,8,3,2,1,0]),(10,[12,11,10,9,8,3,2,1,0]),(11,[50,12,11,10,9,8,3,2,1,0]),(12,[11,10,9,8,3,2,1,0]),(13,[11,10,9,8,3,2,1,0]),(14,[12,11,10,9,8,3,2,1,0]),(15,[68,11,10,9,8,3,2,1,0]),(16,[72,11,10,9,8,3,2,1,0]),(17,[87,11,10,9,8,3,2,1,0]),(18,[13,9,8,3,2,0]),(19,[9,8,3,2,1,0]),(20,[15,14,10,3,2,1,0]),(21,[14,10,9,3,2,1,0]),(22,[17,16,14,10,9,3,2,1,0]),(23,[18,17,16,14,9,3,2,1,0]),(24,[113,18,17,16,14,9,3,2,1,0]),(25,[14,9,8,3,2,1,0]),(26,[14,9,8,3,2,0]),(27,[9,8,3,2,1,0]),(28,[14,9,8,3,2,1,0]),(29,[14,9,8,3,1,0]),(30,[9,8,3,2,1,0])] [(2,[9,8,3,2,1,0])]),
 (53,Zs [] [] [] [] [(0,[6,2,0]),(1,[7,6,0]),(2,[13,7,6,0]),(3,[7,6,0]),(4,[7,6,0]),(5,[7,6,0])] [(2,[7,6,0])]),
 (68,Zs [] [] [] [] [(0,[8,3,2,0]),(1,[9,8,3,2,0]),(2,[16,9,8,3,2,0]),(3,[36,9,8,3,2,0]),(4,[9,8,3,2,0]),(5,[52,9,8,3,2,0]),(6,[9,3,2,0]),(7,[8,3,2,0])] [(1,[8,3,2,0])]),
 (30,Zs [] [] [] [] [(0,[1,0]),(1,[4])] []),
 (28,Zs [] [] [] [] [(0,[1,0]),(1,[6,5,4])] []),
 (27,Zs [] [] [] [] [(0,[1,0]),(1,[5,4])] []),
 (76,Zs [] [] [] [] [(0,[1,0]),(1,[4])] []),
 (38,Zs [] [] [] [] [(0,[1,0]),(1,[12,1,0]),(2,[4]),(3,[15,1,0]),(4,[5,0]),(5,[20,5,0]),(6,[5,0]),(7,[4]),(8,[26,1,0]),(9,[7,6,1,0]),(10,[32,6,1,0]),(11,[8,6,0]),(12,[36,8,6,0]),(13,[8,6,0]),(14,[42,8,6,0]),(15,[4]),(16,[4]),(17,[45,1]),(18,[47,46,45,1]),(19,[45,10,9,1]),(20,[53,45,9,1]),(21,[4]),(22,[4])] [(12,[8,6,0]),(18,[45,1])]),
 (45,Zs [] [] [] [] [(0,[1,0]),(1,[7,0]),(2,[8,7,0]),(3,[9,8,7,0]),(4,[9,8,7,0]),(5,[26,9,8,7,0]),(6,[33,9,8,7,0]),(7,[11,9,8,7,0]),(8,[43,11,9,8,7,0]),(9,[4]),(10,[9,8,7,0]),(11,[12,9,8,7,0]),(12,[51,12,9,8,7,0]),(13,[12,9,8,7,0]),(14,[64,12,9,8,7,0]),(15,[4]),(16,[10,9,8,7,0]),(17,[10,9,8,7,0]),(18,[98,9,8,7,0]),(19,[4]),(20,[13,9,8]),(21,[108,13,9,8]),(22,[4]),(23,[14,9,8,7,0]),(24,[15,14,9,8,7,0]),(25,[124,15,14,9,8,7,0]),(26,[15,14,9,8,7,0]),(27,[139,15,14,9,8,7,0]),(28,[16,15,14,9,8,7,0]),(29,[143,16,15,14,9,8,7,0]),(30,[16,15,14,9,8,7,0]),(31,[156,16,15,14,9,8,7,0]),(32,[4]),(33,[4]),(34,[160,1,0]),(35,[4]),(36,[171,1,0]),(37,[175]),(38,[177,176,175]),(39,[175,6,5]),(40,[181,175,5]),(41,[4]),(42,[4]),(43,[183,1,0]),(44,[4])] [(5,[9,8,7,0]),(12,[12,9,8,7,0]),(25,[15,14,9,8,7,0]),(29,[16,15,14,9,8,7,0]),(38,[175])]),
 (41,Zs [] [] [] [] [(0,[1,0]),(1,[4])] []),
 (60,Zs [] [] [] [] [(0,[3,2,1,0]),(1,[13,3,2,1,0]),(2,[8]),(3,[15,3,2,1,0]),(4,[8]),(5,[20,3,2,1,0]),(6,[3,2,1,0]),(7,[3,2,1,0]),(8,[9,3,2,1,0]),(9,[9,3,2,1,0]),(10,[10,9,3,2,1,0]),(11,[36,10,9,3,2,1,0]),(12,[11,10,9,3,2,1,0]),(13,[41,11,10,9,3,2,1,0]),(14,[11,10,9,3,2,1,0]),(15,[10,9,3,2,1,0]),(16,[10,9,3,2,1,0]),(17,[10,9]),(18,[8])] [(11,[10,9,3,2,1,0])]),
 (47,Zs [] [] [] [] [(0,[2,0]),(1,[4,2,0]),(2,[9,4,2,0]),(3,[4,2,0]),(4,[5,4,2,0]),(5,[16,5,4,2,0]),(6,[3,2]),(7,[4,2,0]),(8,[3,2])] [(2,[4,2,0])]),
 (46,Zs [] [] [] [] [(0,[0]),(1,[2])] []),
 (14,Zs [] [] [] [] [(0,[2,1,0]),(1,[7,1,0]),(2,[7,1,0]),(3,[16,7,1,0]),(4,[1,0]),(5,[6])] []),
 (3,Zs [] [] [(7,1,true),(5,2,false)] [] [(0,[2,1,0]),(1,[7,2,1,0]),(2,[26,7,2,1,0]),(3,[6]),(4,[29,7,2,1,0]),(5,[7,2,1,0]),(6,[7,2,1,0]),(7,[8,7,2,1,0]),(8,[37,8,7,2,1,0]),(9,[8,7,2,1,0]),(10,[8,7,2,1,0]),(11,[9,7,2,1]),(12,[10,9,7,2,1]),(13,[11,10,9,7,2,1]),(14,[51,11,10,9,7,2,1]),(15,[11,10,9,7,2,1]),(16,[13,12,11,10,9,7,2,1]),(17,[74,12,11,10,9,7,2,1]),(18,[6]),(19,[11,10,9,7,2,1]),(20,[15,14,9,7,2,1]),(21,[16,15,14,9,7,2,1]),(22,[17,16,15,14,9,7,2,1]),(23,[89,17,16,15,14,9,7,2,1]),(24,[17,16,15,14,9,7,2,1]),(25,[17,16,15,14,9,7,2,1]),(26,[19,16,15,14,9,2]),(27,[6])] [(8,[8,7,2,1,0]),(14,[11,10,9,7,2,1]),(23,[17,16,15,14,9,7,2,1])]),
 (4,Zs [] [] [(13,1,true),(7,1,true),(12,1,true),(5,2,false)] [] [(0,[1,0]),(1,[5,1,0]),(2,[17,5,1,0]),(3,[4]),(4,[6,5,1,0]),(5,[7,6,5,1,0]),(6,[25,7,6,5,1,0]),(7,[7,6,5,1,0]),(8,[7,6,5,1,0]),(9,[7,6,5,1,0]),(10,[46,7,6,5,1,0]),(11,[7,6,5,1,0]),(12,[58,6,5,1]),(13,[4]),(14,[61,6,5,1]),(15,[4]),(16,[8,6,5]),(17,[9,8,6,5]),(18,[88,9,8,6,5]),(19,[4]),(20,[9,8,6,5]),(21,[10,9,8,6,5]),(22,[10,9,5]),(23,[4])] [(6,[7,6,5,1,0])]),
 (6,Zs [] [] [(7,1,true),(5,2,false)] [] [(0,[]),(1,[1]),(2,[8,1]),(3,[0]),(4,[1]),(5,[1]),(6,[3,2,1]),(7,[5,4,3,2,1]),(8,[0])] []),
 (10,Zs [] [] [] [] [(0,[1,0]),(1,[5,1,0]),(2,[9,5,1,0]),(3,[5,1,0]),(4,[17,5,1,0]),(5,[4]),(6,[4])] [(2,[5,1,0])]),
 (11,Zs [] [] [] [] [(0,[1,0]),(1,[10,1,0]),(2,[4]),(3,[5,1,0]),(4,[14,5,1,0]),(5,[5,1,0]),(6,[25,5,1,0]),(7,[4]),(8,[4])] [(4,[5,1,0])]),
 (31,Zs [] [] [] [] [(0,[0]),(1,[3,0]),(2,[11,10,9,3,0]),(3,[12,11,10,9,3,0]),(4,[11,10,9,5,4,3,0]),(5,[11,10,9,6,5,3,0]),(6,[34,11,10,9,3,0]),(7,[2]),(8,[11,10,9,3,0]),(9,[2])] [(3,[11,10,9,3,0])]),
 (34,Zs [] [] [] [] [(0,[0]),(1,[2])] []),
 (26,Zs [] [] [] [] [(0,[1,0]),(1,[16,1,0]),(2,[4]),(3,[6,5,1]),(4,[35,6,5]),(5,[4]),(6,[38,37,36,6,5]),(7,[39,38,37,36,6,5]),(8,[38,37,36,8,7,6,5]),(9,[43,38,37,36,8,7,6,5]),(10,[4]),(11,[46,38,37,36,6,5]),(12,[4]),(13,[38,37,36,6,5]),(14,[4])] [(7,[38,37,36,6,5])]),
 (33,Zs [] [] [] [] [(0,[0]),(1,[2])] []),
 (16,Zs [] [] [] [] [(0,[0]),(1,[6,5,0]),(2,[7,6,3,2,0]),(3,[48,3,2]),(4,[4,3,2]),(5,[4,3,2])] []),
 (29,Zs [] [] [] [] [(0,[0]),(1,[2])] []),
 (67,Zs [] [] [] [] [(0,[0]),(1,[3,0]),(2,[2]),(3,[10]),(4,[2]),(5,[2])] []),
 (1000000,{})]
def ann:Nat->Ann:=Zb9 {} ZlF
def ZoI:List (Nat×Bool):=[
 (22,true),
 (1000000,false)]
def BY:Nat->Bool:=Zb9 false ZoI
noncomputable def CF:Nat->Option Zad:=Zew Tryd.prog ann
noncomputable def FC:Nat->Option Zad:=fun f=>(CF f).map ZfR
def ZiN:List (Nat×Option (List AVal->Za->Option (AVal×Za))):=[
 (18,some (ZeF 1 16)),
 (23,some (ZhG)),
 (66,some (Zf4)),
 (61,some (Zf4)),
 (75,some (Zg3)),
 (44,some (Zhf)),
 (1000000,none)]
def PR:ZaM:=Zb9 none ZiN
theorem xw (c d:Zg) (h:c=d) (m:Nat) (tm:Tms) (σ:Za):evC FC PR BY m c tm σ=evC FC PR BY m d tm σ:=by rw [h]
noncomputable abbrev E:Zo:=EV FC PR BY
theorem ZbH {f:Nat} {fn:Zad} (hp:PR f=none) (hf:FC f=some fn) (args:List AVal) (σ:Za):E f args σ=Zas σ.length fn (evC FC PR BY σ.length fn.body (enterA 0 args []) σ):=Zjb hp hf args σ
end
section
open Go.RowKit
inductive Ty where
 | bool
 | int (k:IntKind)
 | str
 | slice (s:Bool) (e:Ty)
 | struct (fs:List Ty)
 deriving Inhabited
def Zb1:Option TypeDesc->Bool
 | some (.struct _)=>true
 | some (.array _ _)=>true
 | _=>false
def Zet (P:Program):Nat->List Field->Nat->Bool
 | at',[],n=>at' == n
 | at',f::fs,n=>f.offset == at' && Zet P (at'+P.cellsOf f.type) fs n
def ZbQ (P:Program):Nat->TypeId->Option Ty
 | 0,_=>none
 | n+1,t=>match P.underlying t with
  | some .bool=>some .bool
  | some (.int k)=>some (.int k)
  | some .string=>some .str
  | some (.slice e)=>if 0 < P.cellsOf e then (ZbQ P n e).map (.slice (Zb1 (P.underlying e))) else none
  | some (.struct fs)=>if Zet P 0 fs.toList (P.cellsOf t) then (fs.toList.mapM fun f=>ZbQ P n f.type).map .struct else none
  | _=>none
def Zbk (s:Bool) (y:List AVal):AVal:=if s then .agg y else y.headD .nilp
mutual
def TyC:Ty->List AVal->Prop
 | .bool,xs=>∃ b,xs=[.bool b]
 | .int k,xs=>∃ n,(Lit.int k n).wf=true/\xs=[.int k n]
 | .str,xs=>∃ l:List UInt8,l.length<=9223372036854775807/\xs=[.str l]
 | .slice s e,xs=>∃ ys:List (List AVal),xs=[.lst false (ys.map (Zbk s))]/\ys.length<=9223372036854775807/\∀ y ∈ ys,TyC e y
 | .struct fs,xs=>Ze5 fs xs
def Ze5:List Ty->List AVal->Prop
 | [],xs=>xs=[]
 | f::fs,xs=>∃ a b,xs=a++b/\TyC f a/\Ze5 fs b
end
def Imm.of (w:World):Imm:=fun b o=>w.cell? ⟨b,o,none⟩
section
variable {H:Type} {enc:TypeId×Value->H} {P:Program} {w:World} {spare:Nat->Bool} {held:Bool}
theorem ZtL {b off:Nat} {s:Option Nat} {u:Value} (h:w.cell? ⟨b,off,s⟩=some u):s=none:=by
 unfold World.cell? at h
 split at h
 ·rcases s with _ | s
  ·rfl
  ·simp at h
 ·cases h
theorem Zwi {s:Bool} {y:List AVal} (h:s=false->y.length=1) (h1:s=false->∀ x ∈ y,Zy x=true):(Zbk s y).cells=y:=by
 cases s with
 | true=>rfl
 | false =>
  match y,h rfl with
  | [x],_ =>
   have:=h1 rfl x (by simp)
   cases x <;> simp_all [Zbk,AVal.cells,Zy]
theorem Zuu {a:Addr} (h:a.spot=none) (n:Nat):a.add n=⟨a.block,a.off+n,none⟩:=by
 unfold Addr.add
 split
 ·rename_i e;subst e;cases a;simp_all
 ·rfl
theorem Zul {I:Imm} {β:Bmap} {xs:List AVal} {vs:List Value} {n:Nat} (h:VRs I β xs (vs.take n)) {ys:List AVal} (h':VRs I β ys (vs.drop n)):VRs I β (xs++ys) vs:=by
 have:=Zbj h h'
 rwa [List.take_append_drop] at this
theorem Zin {α β:Type} {f:α->Option β} {a:α} {l:List α} {r:List β} (h:(a::l).mapM f=some r):∃ b r',f a=some b/\l.mapM f=some r'/\r=b::r':=by
 rw [Xal] at h
 simp only [Option.bind_eq_bind,Option.bind_eq_some_iff,Option.pure_def,Xa] at h
 obtain ⟨b,h1,r',h2,h3⟩:=h
 exact ⟨b,r',h1,h2,h3.symm⟩
theorem ZrU {a b:List AVal} (ha:Z8 a=true) (hb:Z8 b=true):Z8 (a++b)=true:=by
 induction a with
 | nil=>exact hb
 | cons x a ih=>simp only [Wl,Z8,Xc] at ha ⊢;exact ⟨ha.1,ih ha.2⟩
theorem Zjl {n fuel:Nat} {cs:List Value} (ih:∀ (t:TypeId) (cs:List Value) (x:DataW H×List MemPlace) (T:Ty),ZbQ P n t=some T->DataW.trod enc P w 0 spare held fuel t cs=some x->∃ xs,TyC T xs/\VRs (Imm.of w) B0 xs cs/\Z8 xs=true) :
  ∀ (fs:List Field) (at':Nat) (Ts:List Ty) (ys:List (DataW H×List MemPlace)),Zet P at' fs cs.length=true->fs.mapM (fun f=>ZbQ P n f.type)=some Ts ->
   fs.mapM (fun f=>DataW.trod enc P w 0 spare held fuel f.type ((cs.drop f.offset).take (P.cellsOf f.type)))=some ys->∃ xs,Ze5 Ts xs/\VRs (Imm.of w) B0 xs (cs.drop at')/\Z8 xs=true
 | [],at',Ts,ys,ho,hT,_=>by
  simp only [Zet,beq_iff_eq] at ho
  simp only [List.mapM_nil,Option.pure_def,Xa] at hT
  subst hT ho
  exact ⟨[],by simp only [Ze5],by simp [VRs],rfl⟩
 | f::fs,at',Ts,ys,ho,hT,h=>by
  simp only [Zet,Xc,beq_iff_eq] at ho
  obtain ⟨T,Ts',h1,h2,rfl⟩:=Zin hT
  obtain ⟨y,ys',h3,h4,rfl⟩:=Zin h
  obtain ⟨a,a1,a2,a3⟩:=ih _ _ _ _ h1 h3
  obtain ⟨b,b1,b2,b3⟩:=Zjl ih fs _ _ _ ho.2 h2 h4
  rw [ho.1] at a2
  refine ⟨a++b,by simp only [Ze5];exact ⟨a,b,rfl,a1,b1⟩,Zul a2 (by rw [List.drop_drop];exact b2),ZrU a3 b3⟩
theorem Zkv {I:Imm} {β:Bmap} {s:Bool} {k b:Nat}:∀ (n off:Nat) (Y:Nat->List AVal),(∀ i,i < n->(Zbk s (Y i)).cells.length=k/\CR I β (Zbk s (Y i)).cells b (off+i*k))->LR I β k ((X8 n).map fun i=>Zbk s (Y i)) b off
 | 0,off,Y,_=>by simp [LR]
 | n+1,off,Y,h=>by
  rw [List.range_succ_eq_map,XC,ZdA]
  have h0:=h 0 (by omega)
  simp only [Xar,XU] at h0
  refine ⟨h0,?_⟩
  rw [WY]
  exact Zkv n (off+k) (fun i=>Y (i+1)) (fun i hi=>by
   have:=h (i+1) (by omega)
   rw [show off+k+i*k=off+(i+1)*k by rw [Nat.succ_mul];omega]
   exact this)
theorem Ziu {I:Imm} {β:Bmap} {b:Nat}:∀ (xs:List AVal) (cs:List Value) (off:Nat),VRs I β xs cs->(∀ i,i < cs.length->I b (off+i)=cs[i]?)->CR I β xs b off
 | [],_,_,_,_=>by simp only [CR]
 | x::xs,cs,off,h,hI=>by
  simp only [VRs] at h
  obtain ⟨v,vs',rfl,h1,h2⟩:=h
  simp only [CR]
  refine ⟨⟨v,by have:=hI 0 (by simp);simpa using this,h1⟩,Ziu xs vs' (off+1) h2 fun i hi=>?_⟩
  have:=hI (i+1) (by simp;omega)
  rw [show off+1+i=off+(i+1) by omega,this]
  simp
theorem Zgy {s:Bool}:∀ (n:Nat) (Y:Nat->List AVal),(∀ i,i < n->Z8 (Zbk s (Y i)).cells=true)->Zu ((X8 n).map fun i=>Zbk s (Y i))=true
 | 0,Y,_=>by simp [Zu]
 | n+1,Y,h=>by
  rw [List.range_succ_eq_map,XC,Zkd,h 0 (by omega),WY]
  simp only [Xaz]
  exact Zgy n (fun i=>Y (i+1)) (fun i hi=>h (i+1) (by omega))
theorem ZjM {xs:List AVal} (h:Z8 xs=true):∀ x ∈ xs,Zy x=true:=by
 induction xs with
 | nil=>intro x hx;simp at hx
 | cons y ys ih =>
  simp only [Z8,Xc] at h
  intro x hx
  rcases XE.1 hx with rfl | hx
  ·cases x <;> simp_all [Z9,Zy]
  ·exact ih h.2 x hx
theorem Zir {n:Nat} {e:TypeId} {T:Ty} (hT:ZbQ P n e=some T) (hs:Zb1 (P.underlying e)=false) {xs:List AVal} (h:TyC T xs):xs.length=1:=by
 cases n with
 | zero=>simp [ZbQ] at hT
 | succ n =>
  simp only [ZbQ] at hT
  split at hT
  ·injection hT with hT;subst hT;simp only [TyC] at h;obtain ⟨_,rfl⟩:=h;rfl
  ·injection hT with hT;subst hT;simp only [TyC] at h;obtain ⟨_,_,rfl⟩:=h;rfl
  ·injection hT with hT;subst hT;simp only [TyC] at h;obtain ⟨_,_,rfl⟩:=h;rfl
  ·split at hT
   ·simp only [Xf] at hT
    obtain ⟨T',_,rfl⟩:=hT
    simp only [TyC] at h;obtain ⟨_,rfl,_⟩:=h;rfl
   ·cases hT
  ·rename_i hu;rw [hu] at hs;simp [Zb1] at hs
  ·cases hT
theorem ZgT:∀ (n fuel:Nat) (t:TypeId) (cs:List Value) (x:DataW H×List MemPlace) (T:Ty),ZbQ P n t=some T->DataW.trod enc P w 0 spare held fuel t cs=some x ->
  ∃ xs,TyC T xs/\VRs (Imm.of w) B0 xs cs/\Z8 xs=true
 | 0,fuel,t,cs,x,T,hT,_=>by simp [ZbQ] at hT
 | n+1,0,t,cs,x,T,_,h=>by simp [DataW.trod] at h
 | n+1,fuel+1,t,cs,x,T,hT,h=>by
  have h0:=h
  simp only [ZbQ] at hT
  unfold DataW.trod at h
  split at hT
  ·rename_i hu
   injection hT with hT;subst hT
   obtain ⟨b,rfl,_⟩:=DataW.trod_bool hu h0
   exact ⟨[.bool b],by simp only [TyC];exact ⟨b,rfl⟩,by simp [VRs,VR],rfl⟩
  ·rename_i k hu
   injection hT with hT;subst hT
   obtain ⟨n',rfl,_,hk⟩:=DataW.trod_int hu h0
   exact ⟨[.int k n'],by simp only [TyC];exact ⟨n',hk,rfl⟩,by simp [VRs,VR],rfl⟩
  ·rename_i hu
   injection hT with hT;subst hT
   obtain ⟨s,rfl,_,hs⟩:=DataW.trod_string hu h0
   have hs':s.data.toList.length<=9223372036854775807:=by
    rw [XA];exact Nat.le_trans hs (by simp [maxLen])
   exact ⟨[.str s.data.toList],by simp only [TyC];exact ⟨_,hs',rfl⟩,by simp only [VRs,VR];exact ⟨_,_,rfl,⟨by simp,hs'⟩,rfl⟩,rfl⟩
  ·rename_i e hu
   split at hT
   case isFalse=>cases hT
   rename_i hc
   simp only [Xf] at hT
   obtain ⟨T,hT,rfl⟩:=hT
   rcases Go.Deep.open_slice hu h0 with ⟨hcs,_⟩ | ⟨a,len,cap,m,n',D,Pl,hcs,_,hl,hm,hmm,_,hi⟩
   ·subst hcs
    exact ⟨[.lst false []],by simp only [TyC];exact ⟨[],by simp,by simp,by simp⟩,by simp only [VRs,VR];exact ⟨_,_,rfl,⟨none,0,rfl,by simp,by simp,by simp,by simp,by simp [Zu]⟩,rfl⟩,rfl⟩
   ·have hlm:len<=m:=by split at hmm <;> omega
    have hspot:0 < len->a.spot=none:=by
     intro h0
     obtain ⟨cs',h1,h2⟩:=hi 0 (by omega)
     obtain ⟨_,h6,h7⟩:=World.cells?_some h1
     have h8:=h7 0 hc
     obtain ⟨u,hu⟩:∃ u,cs'[0]?=some u:=⟨cs'[0]'(by omega),by simp⟩
     rw [hu] at h8
     simp only [Xar,Addr.add,if_true] at h8
     exact ZtL (b:=a.block) (off:=a.off) (s:=a.spot) (u:=u) h8
    have hall:∀ i,∃ xs,i < len->TyC T xs/\(Zbk (Zb1 (P.underlying e)) xs).cells=xs/\xs.length=P.cellsOf e/\CR (Imm.of w) B0 xs a.block (a.off+i*P.cellsOf e)/\Z8 xs=true:=by
     intro i
     by_cases hlt:i < len
     ·obtain ⟨cs',h1,h2⟩:=hi i (by omega)
      obtain ⟨xs,h3,h4,h5⟩:=ZgT n n' e cs' _ T hT h2
      obtain ⟨_,h6,h7⟩:=World.cells?_some h1
      have hlen:=Zaa h4
      refine ⟨xs,fun _=>⟨h3,Zwi (fun hs=>Zir hT hs h3) (fun _=>ZjM h5),by omega,Ziu xs cs' _ h4 (fun j hj=>?_),h5⟩⟩
      have h8:=h7 j (by omega)
      rw [Go.Deep.add_add,Zuu (hspot (by omega)),<-Wi] at h8
      exact h8
     ·exact ⟨[],fun h=>absurd h hlt⟩
    obtain ⟨Y,hY⟩:=Classical.axiomOfChoice hall
    subst hcs
    have hmx:maxLen=9223372036854775807:=by simp [maxLen]
    rw [hmx] at hm
    refine ⟨[.lst false ((X8 len).map fun i=>Zbk (Zb1 (P.underlying e)) (Y i))],?_,?_,?_⟩
    ·simp only [TyC]
     refine ⟨(X8 len).map Y,by rw [WY];rfl,by simp;omega,?_⟩
     intro y hy
     obtain ⟨i,hi',rfl⟩:=XF.1 hy
     exact (hY i (Wm.1 hi')).1
    ·simp only [VRs,VR,List.length_map,List.length_range]
     refine ⟨_,_,rfl,⟨some a,cap,rfl,hl,hm,by simp,?_,Zgy len Y fun i hlt=>by rw [(hY i hlt).2.1];exact (hY i hlt).2.2.2.2⟩,rfl⟩
     cases len with
     | zero=>exact Xn (by simp)
     | succ len =>
      refine Xv ⟨a.block,a.off,P.cellsOf e,?_,hc,Zkv (len+1) a.off Y fun i hlt=>?_⟩
      ·have:=hspot (by omega)
       cases a;simp_all
      ·rw [(hY i hlt).2.1];exact ⟨(hY i hlt).2.2.1,(hY i hlt).2.2.2.1⟩
    ·simp only [Z8,Z9,Bool.and_true]
     exact Zgy len Y fun i hlt=>by rw [(hY i hlt).2.1];exact (hY i hlt).2.2.2.2
  ·rename_i fs hu
   split at hT
   case isFalse=>cases hT
   rename_i ho
   simp only [Xf] at hT
   obtain ⟨Ts,hT,rfl⟩:=hT
   rw [hu] at h
   simp only at h
   split at h
   ·rename_i hl
    simp only [Xf] at h
    obtain ⟨ys,hy,rfl⟩:=h
    obtain ⟨xs,h1,h2,h3⟩:=Zjl (fun t cs x T h h'=>ZgT n fuel t cs x T h h') fs.toList 0 Ts ys (by rw [hl];exact ho) hT hy
    exact ⟨xs,by simp only [TyC];exact h1,h2,h3⟩
   ·cases h
  ·cases hT
def ZgS (s:Bool) (T:Ty) (x:AVal):Prop:=∃ xs,TyC T xs/\x=Zbk s xs
theorem Zhl {n:Nat} {t:TypeId} {v:Value} {d:DataW H} {ps:List MemPlace} {T:Ty} {r:Reach} {b0:Nat} (hT:ZbQ P n t=some T) (hv:Value.okWide P w r b0 t v) (h:DataW.Trod enc P w 0 spare held t v d ps) :
  ∃ x,ZgS (Zb1 (P.underlying t)) T x/\VR (Imm.of w) B0 x v/\Z8 x.cells=true:=by
 obtain ⟨fuel,h⟩:=h
 obtain ⟨xs,h1,h2,h3⟩:=ZgT n fuel t _ _ T hT h
 refine ⟨Zbk (Zb1 (P.underlying t)) xs,⟨xs,h1,rfl⟩,?_⟩
 by_cases hs:Zb1 (P.underlying t)=true
 ·have : ∃ cs,v=.agg cs:=by
   unfold Value.okWide at hv
   cases hu:P.underlying t with
   | none=>rw [hu] at hs;simp [Zb1] at hs
   | some dd =>
    rw [hu] at hv hs
    cases dd <;> first | (simp [Zb1] at hs;done) | (obtain ⟨cs,e,_⟩:=hv;exact ⟨cs,e⟩)
  obtain ⟨cs,rfl⟩:=this
  rw [hs]
  exact ⟨by simp only [Zbk,if_true,VR];exact ⟨cs,rfl,h2⟩,h3⟩
 ·have hs':Zb1 (P.underlying t)=false:=by simpa using hs
  have hl:=Zir hT hs' h1
  have hlen:=Zaa h2
  rw [hs']
  match xs,hl with
  | [x],_ =>
   simp only [Zbk,Xo,if_false,List.headD_cons]
   have hvc:v.cells=#[v]:=by
    cases n with
    | zero=>simp [ZbQ] at hT
    | succ n =>
     simp only [ZbQ] at hT
     split at hT
     ·rename_i hu;obtain ⟨b,rfl⟩:=Go.WideShapes.okWide_bool hu hv;rfl
     ·rename_i k hu;obtain ⟨b,rfl⟩:=Go.WideShapes.okWide_int hu hv;rfl
     ·rename_i hu;obtain ⟨b,rfl⟩:=Go.WideShapes.okWide_string hu hv;rfl
     ·rename_i e hu;obtain ⟨a,l,c,rfl⟩:=Go.WideShapes.okWide_slice hu hv;rfl
     ·rename_i fs hu;rw [hu] at hs';simp [Zb1] at hs'
     ·cases hT
   rw [hvc] at h2
   simp only [VRs] at h2
   obtain ⟨v',vs',e,h2,_⟩:=h2
   simp only [W2] at e
   rw [e.1]
   refine ⟨h2,?_⟩
   have hok:=ZjM h3 x (by simp)
   have hx:x.cells=[x]:=by cases x <;> first | rfl | (simp [Zy] at hok;done)
   rw [hx];exact h3
theorem Rel.start (w:World) (hG:Gl.le (Imm.of w)):Rel (fun b=>b < w.heap.size) w (Imm.of w) (Imm.of w) B0 [] w where
 below:=KB.refl _ w
 old:=fun _ _ _=>rfl
 imm:=fun _ _ _ h=>h
 blk:=fun t x h=>by simp at h
 own:=fun t x b h=>by simp at h
 apart:=fun t x t' x' b h=>by simp at h
 fresh:=fun _ _ _=>rfl
 free:=fun t g h=>by simp at h
 gen:=fun t b g h=>by simp at h
 glob:=hG
theorem Zpz {O:Zo} (hO:ZI P O) {f:Nat} {args:List AVal} {vs:Array Value} {σ':Za} (hG:Gl.le (Imm.of w)) (hargs:VRs (Imm.of w) B0 args vs.toList) (h:O f args []=some (.bool true,σ')) :
  Calls P f vs w (fun e w'=>e=.returned (.bool true)/\Below w.heap.size w w'):=by
 refine ((hO f args [] _ _ h).2 _ w _ _ B0 w vs (fun b hb=>hb) (Rel.start w hG) hargs).mono ?_
 rintro e w' ⟨u,he,I',β',_,_,R,hv⟩
 simp only [Zaf,VR] at hv
 subst hv
 exact ⟨he,R.below.os,R.below.tape,R.below.output,R.below.size,R.below.block⟩
end
end
section
open Go.Shelf
def Zn6:Ren:=⟨fun | 137=>66 | 217=>61 | 266=>77 | n=>n,fun | 9=>9 | 5=>5 | 3=>3 | n=>n,fun | n=>n⟩
theorem Zuk:Go.Proofs.Lays.n137 Tryd.prog Zn6:={ mixed:=by kernel_rfl,f137:=Tryd.func66.trans (congrArg some (by kernel_rfl)),f217:=Tryd.func61.trans (congrArg some (by kernel_rfl)),f266:=Tryd.func77.trans (congrArg some (by kernel_rfl)),t3:=Tryd.underlying3,a3:=Tryd.isAgg3,z3:=Tryd.sizeOf3,v3:=Tryd.zeroValue3,t5:=Tryd.underlying5,a5:=Tryd.isAgg5,z5:=Tryd.sizeOf5,v5:=Tryd.zeroValue5,t9:=Tryd.underlying9,a9:=Tryd.isAgg9,z9:=Tryd.sizeOf9,v9:=Tryd.zeroValue9 }
def Zs3:Ren:=⟨fun | 217=>61 | 266=>77 | n=>n,fun | 9=>9 | 5=>5 | 3=>3 | n=>n,fun | n=>n⟩
theorem Zle:Go.Proofs.Lays.n217 Tryd.prog Zs3:={ mixed:=by kernel_rfl,f217:=Tryd.func61.trans (congrArg some (by kernel_rfl)),f266:=Tryd.func77.trans (congrArg some (by kernel_rfl)),t3:=Tryd.underlying3,a3:=Tryd.isAgg3,z3:=Tryd.sizeOf3,v3:=Tryd.zeroValue3,t5:=Tryd.underlying5,a5:=Tryd.isAgg5,z5:=Tryd.sizeOf5,v5:=Tryd.zeroValue5,t9:=Tryd.underlying9,a9:=Tryd.isAgg9,z9:=Tryd.sizeOf9,v9:=Tryd.zeroValue9 }
section
open Go.Shelf
def ZrA:Ren:=⟨fun | 138=>75 | 195=>80 | 218=>82 | 143=>76 | 219=>43 | 217=>61 | 225=>62 | 224=>63 | 267=>64 | 266=>77 | 314=>78 | n=>n,fun | 9=>9 | 3=>3 | 4=>4 | 5=>5 | 0=>0 | 46=>54 | 146=>92 | 51=>72 | n=>n,fun | 1=>0 | n=>n⟩
theorem ZnS:Go.Proofs.Lays.n138 Tryd.prog ZrA:={ mixed:=by kernel_rfl,f138:=Tryd.func75.trans (congrArg some (by kernel_rfl)),f143:=Tryd.func76.trans (congrArg some (by kernel_rfl)),f195:=Tryd.func80.trans (congrArg some (by kernel_rfl)),f217:=Tryd.func61.trans (congrArg some (by kernel_rfl)),f218:=Tryd.func82.trans (congrArg some (by kernel_rfl)),f219:=Tryd.func43.trans (congrArg some (by kernel_rfl)),f224:=Tryd.func63.trans (congrArg some (by kernel_rfl)),f225:=Tryd.func62.trans (congrArg some (by kernel_rfl)),f266:=Tryd.func77.trans (congrArg some (by kernel_rfl)),f267:=Tryd.func64.trans (congrArg some (by kernel_rfl)),f314:=Tryd.func78.trans (congrArg some (by kernel_rfl)),t0:=Tryd.underlying0,a0:=Tryd.isAgg0,z0:=Tryd.sizeOf0,v0:=Tryd.zeroValue0,t3:=Tryd.underlying3,a3:=Tryd.isAgg3,z3:=Tryd.sizeOf3,v3:=Tryd.zeroValue3,t4:=Tryd.underlying4,a4:=Tryd.isAgg4,z4:=Tryd.sizeOf4,v4:=Tryd.zeroValue4,t5:=Tryd.underlying5,a5:=Tryd.isAgg5,z5:=Tryd.sizeOf5,v5:=Tryd.zeroValue5,t9:=Tryd.underlying9,a9:=Tryd.isAgg9,z9:=Tryd.sizeOf9,v9:=Tryd.zeroValue9,t46:=Tryd.underlying54,a46:=Tryd.isAgg54,z46:=Tryd.sizeOf54,v46:=Tryd.zeroValue54,t51:=Tryd.underlying72,a51:=Tryd.isAgg72,z51:=Tryd.sizeOf72,v51:=Tryd.zeroValue72,t146:=Tryd.underlying92,a146:=Tryd.isAgg92,z146:=Tryd.sizeOf92,v146:=Tryd.zeroValue92,g1:=by kernel_rfl }
end
end
section
open Go.Shelf
def Zlm:Ren:=⟨fun | 196=>44 | 259=>65 | n=>n,fun | 9=>9 | 4=>4 | 3=>3 | 5=>5 | 12=>12 | 119=>79 | 0=>0 | 46=>54 | 139=>82 | 138=>81 | 53=>74 | n=>n,fun | 3=>1 | 4=>2 | n=>n⟩
theorem ZjU:Go.Proofs.Lays.n196 Tryd.prog Zlm:={ mixed:=by kernel_rfl,f196:=Tryd.func44.trans (congrArg some (by kernel_rfl)),f259:=Tryd.func65.trans (congrArg some (by kernel_rfl)),t0:=Tryd.underlying0,a0:=Tryd.isAgg0,z0:=Tryd.sizeOf0,v0:=Tryd.zeroValue0,t3:=Tryd.underlying3,a3:=Tryd.isAgg3,z3:=Tryd.sizeOf3,v3:=Tryd.zeroValue3,t4:=Tryd.underlying4,a4:=Tryd.isAgg4,z4:=Tryd.sizeOf4,v4:=Tryd.zeroValue4,t5:=Tryd.underlying5,a5:=Tryd.isAgg5,z5:=Tryd.sizeOf5,v5:=Tryd.zeroValue5,t9:=Tryd.underlying9,a9:=Tryd.isAgg9,z9:=Tryd.sizeOf9,v9:=Tryd.zeroValue9,t12:=Tryd.underlying12,a12:=Tryd.isAgg12,z12:=Tryd.sizeOf12,v12:=Tryd.zeroValue12,t46:=Tryd.underlying54,a46:=Tryd.isAgg54,z46:=Tryd.sizeOf54,v46:=Tryd.zeroValue54,t53:=Tryd.underlying74,a53:=Tryd.isAgg74,z53:=Tryd.sizeOf74,v53:=Tryd.zeroValue74,t119:=Tryd.underlying79,a119:=Tryd.isAgg79,z119:=Tryd.sizeOf79,t138:=Tryd.underlying81,a138:=Tryd.isAgg81,z138:=Tryd.sizeOf81,v138:=Tryd.zeroValue81,t139:=Tryd.underlying82,a139:=Tryd.isAgg82,z139:=Tryd.sizeOf82,v139:=Tryd.zeroValue82,g3:=by kernel_rfl,g4:=by kernel_rfl }
end
section
set_option maxRecDepth 100000
theorem ZfM:Tryd.prog.follows .mixedOrders=true:=by kernel_rfl
theorem Zmw:Zi3 Tryd.prog 22 1 16 (.str []) 18:=⟨_,_,_,_,_,_,_,_,_,_,_,rfl,rfl,rfl,by kernel_rfl,rfl,rfl,rfl,rfl,rfl,rfl,rfl,rfl,by kernel_rfl,by kernel_rfl,⟨_,_,_,_,rfl⟩,rfl,by decide⟩
theorem ZjR {α:Type} {d v:α}:∀ {l:List (Nat×α)} {n:Nat},Zb9 d l n=v->v=d\/(n,v) ∈ l
 | [],n,h=>Xn h.symm
 | (k,w)::r,n,h=>by
  simp only [Zb9] at h
  split at h
  ·rename_i e;subst e h;exact Xv (by simp)
  ·rcases ZjR h with h | h
   ·exact Xn h
   ·exact Xv (by simp [h])
theorem Zjq:Zgc Tryd.prog PR:=by
 intro f g h args σ r σ' hg
 rcases ZjR h with h | h
 ·cases h
 unfold ZiN at h
 simp only [XE,Xb,Xa,List.not_mem_nil,or_false] at h
 rcases h with ⟨rfl,rfl⟩ | h
 ·exact ZpU ZfM Zmw hg
 rcases h with ⟨rfl,rfl⟩ | h
 ·exact ZnG hg
 rcases h with ⟨rfl,rfl⟩ | h
 ·exact ZkC ⟨Tryd.f66,Tryd.func66,by kernel_rfl,by kernel_rfl⟩ (fun s c w=>Any.strings_IndexByte Zuk s c w) hg
 rcases h with ⟨rfl,rfl⟩ | h
 ·exact ZkC ⟨Tryd.f61,Tryd.func61,by kernel_rfl,by kernel_rfl⟩ (fun s c w=>Any.stringslite_IndexByte Zle s c w) hg
 rcases h with ⟨rfl,rfl⟩ | h
 ·exact ZsK ⟨Tryd.f75,Tryd.func75,by kernel_rfl,by kernel_rfl⟩ (fun s c w=>Any.strings_Count_one ZnS s c w) hg
 rcases h with ⟨rfl,rfl⟩ | h
 ·exact Zoa ⟨Tryd.f44,Tryd.func44,by kernel_rfl,by kernel_rfl⟩ (fun s w hs hT=>Any.utf8_ValidString ZjU s w hs hT) hg
 exact absurd h.2 (by simp)
end
section
def ZdU:Zg:=(.seq (.region [oI 10 (.mov (.c (.str []))),oI 11 (.mov (.c (.bool false)))] none [4,3,2,1,0]) (.seq (.region [oM 14 0,oI 15 (.nilchk (.t 14)),oF 16 0 15,oL 17 16,oM 18 1,oI 19 (.look 2 (.lst true []) false (.t 17) (.t 18)),oM 20 4,oI 21 (.call 19 0 true [(.t 19),(.t 20),(.c (.bool false))]),oM 12 21] none [12,3,2]) (.seq (.seq (.region [oM 22 12,oM 23 3,oI 24 (.call 19 0 true [(.t 22),(.t 23),(.c (.bool true))]),oM 13 24] none [13,12,2]) (.seq (.region [oM 25 13,oI 26 (.len (.t 25)),oI 27 (.bin .gtr (.t 26) (.c (.int .i64 0)))] none [27,13,12,2]) (.cond (.t 27) (.region [oM 28 13,oM 12 28] none [12,2]) .skip))) (.seq (.seq (.region [oM 29 12,oI 30 (.len (.t 29)),oI 31 (.bin .eql (.t 30) (.c (.int .i64 0)))] none [31,12,2]) (.cond (.t 31) (.seq (.region [oI 10 (.mov (.c (.str []))),oI 11 (.mov (.c (.bool false)))] none [11,10]) .ret) .skip)) (.seq (.region [oM 32 12,oM 33 2,oM 34 12,oI 35 (.len (.t 34)),oI 36 (.call 20 0 true [(.t 33),(.t 35)]),oI 37 (.iaddr 1 (.t 32) (.t 36)),oL 38 37,oM 10 38,oI 11 (.mov (.c (.bool true)))] none [11,10]) .ret)))))
def Zho:Zad:=⟨[(.tmp 10),(.tmp 11)],ZdU⟩
theorem Zgp:FC 9=some Zho:=by kernel_rfl
theorem Zfk:Zho.body=ZdU:=rfl
theorem Zfc:Zho.res=[(.tmp 10),(.tmp 11)]:=rfl
def ZeT:Zg:=(.seq (.region [oM 10 1,oI 11 (.call 16 0 true [(.t 10)]),oM 9 11,oI 12 (.ext (.t 9) 0),oI 13 (.ext (.t 9) 1),oI 14 (.ext (.t 9) 2),oM 6 12,oM 7 13,oM 8 14] none [8,2,1,0]) (.seq (.region [oM 15 8,oM 16 15,⟨(some 17),(.mov (.t 0)),(some (16,true)),[]⟩,⟨(some 18),(.nilchk (.t 17)),(some (16,true)),[]⟩,⟨(some 19),(.faddr 0 (.t 18)),(some (16,true)),[]⟩,⟨(some 20),(.ld none (.t 19)),(some (16,true)),[]⟩,⟨(some 21),(.mov (.t 1)),(some (16,true)),[]⟩,⟨(some 22),(.look 2 (.lst true []) false (.t 20) (.t 21)),(some (16,true)),[]⟩,⟨(some 23),(.mov (.t 2)),(some (16,true)),[]⟩,⟨(some 24),(.call 17 0 true [(.t 22),(.t 23)]),(some (16,true)),[]⟩,⟨(some 25),(.un .not (.t 24)),(some (16,true)),[]⟩,oI 26 (.pick (.t 16) (.t 25) (.c (.bool false)))] none [26,2,1,0]) (.cond (.t 26) (.region [oM 27 0,oI 28 (.nilchk (.t 27)),oF 29 0 28,oL 30 29,oM 31 1,oM 32 0,oI 33 (.nilchk (.t 32)),oF 34 0 33,oL 35 34,oM 36 1,oI 37 (.look 2 (.lst true []) false (.t 35) (.t 36)),oM 38 2,oI 39 (.bslice false 1 1 (.str []) [(0,(.t 38))]),oI 40 (.app 1 16 (.str []) (.t 37) (.t 39)),oN (.mset 2 (.t 30) (.t 31) (.t 40))] (some [(3,8),(3,10),(3,12),(8,12),(10,12),(3,13)]) []) .skip)))
def ZhQ:Zad:=⟨[],ZeT⟩
theorem Zhr:FC 7=some ZhQ:=by kernel_rfl
theorem Zhi:ZhQ.body=ZeT:=rfl
theorem ZgR:ZhQ.res=[]:=rfl
def ZgD:Zg:=(.seq (.region [oI 4 (.mov (.c (.lst true [])))] none [1,0]) (.seq (.region [oM 5 0,oI 6 (.nilchk (.t 5)),oF 7 0 6,oL 8 7,oM 9 1,oI 10 (.look 2 (.lst true []) false (.t 8) (.t 9)),oI 11 (.call 18 1 false [(.t 10)]),oM 4 11] none [4]) .ret))
def ZhP:Zad:=⟨[(.tmp 4)],ZgD⟩
theorem ZmJ:FC 8=some ZhP:=by kernel_rfl
theorem ZsC:ZhP.body=ZgD:=rfl
theorem ZuO:ZhP.res=[(.tmp 4)]:=rfl
def Zcv:Zg:=(.seq (.region [oM 26 7,oM 6 26] none [6]) .ret)
def Zie:Zg:=Zcv
def Zdl:=xw Zie Zcv rfl
def ZcI:Zg:=(.seq (.region [oI 13 (.bin .lss (.t 12) (.t 11))] none [13,12,11,10,7,2,1]) (.seq (.cond (.t 13) .skip (.exit 0)) (.seq (.block 1 (.seq (.region [oI 14 (.iaddr 1 (.t 10) (.t 12)),oL 15 14,oM 9 15] none [12,11,10,9,7,2,1]) (.seq (.region [oM 16 1,oM 17 9,oI 18 (.call 17 0 true [(.t 16),(.t 17)]),oM 19 2,oI 20 (.beq false (.t 18) (.t 19))] none [20,12,11,10,9,7,2,1]) (.cond (.t 20) (.region [oM 21 7,oM 22 9,oI 23 (.bslice false 1 1 (.str []) [(0,(.t 22))]),oI 24 (.app 1 16 (.str []) (.t 21) (.t 23)),oM 7 24] none [12,11,10,7,2,1]) .skip)))) (.region [oI 25 (.bin .add (.t 12) (.c (.int .i64 1))),oM 12 25] none [12,11,10,7,2,1]))))
def ZhJ:Zg:=ZcI
def Zdv:=xw ZhJ ZcI rfl
def Zct:Zg:=(.seq (.region [oI 6 (.mov (.c (.lst true [])))] none [2,1,0]) (.seq (.region [oI 7 (.mov (.c (.lst true [])))] none [7,2,1,0]) (.seq (.seq (.region [oM 10 0,oI 11 (.len (.t 10)),oI 12 (.mov (.c (.int .i64 0)))] none [12,11,10,7,2,1]) (.block 0 (.loop [12,11,10,7,2,1] ZhJ))) Zie)))
def ZfZ:Zad:=⟨[(.tmp 6)],Zct⟩
theorem Zmg:FC 19=some ZfZ:=by kernel_rfl
theorem Zdc:ZfZ.body=Zct:=rfl
theorem Zdi:ZfZ.res=[(.tmp 6)]:=rfl
noncomputable def Zcx (m:Nat) (tm:Tms) (σ:Za):Option (AVal×Za):=(Zas m ZfZ (ZbS FC PR BY m Zie (WU (Za6 0) (evL FC PR BY m [12,11,10,7,2,1] ZhJ tm σ))))
def ZhT:Zg:=(.seq (.region [oI 4 (.mov (.c (.int .i64 0)))] none [1,0]) (.seq (.seq (.region [oM 5 0,oM 6 1,oI 7 (.bin .rem (.t 5) (.t 6)),oM 0 7] none [1,0]) (.seq (.region [oM 8 0,oI 9 (.bin .lss (.t 8) (.c (.int .i64 0)))] none [9,1,0]) (.cond (.t 9) (.region [oM 10 0,oM 11 1,oI 12 (.bin .add (.t 10) (.t 11)),oM 0 12] none [0]) .skip))) (.seq (.region [oM 13 0,oM 4 13] none [4]) .ret)))
def Zhq:Zad:=⟨[(.tmp 4)],ZhT⟩
theorem ZqR:FC 20=some Zhq:=by kernel_rfl
theorem Zn4:Zhq.body=ZhT:=rfl
theorem Zpq:Zhq.res=[(.tmp 4)]:=rfl
end
section
set_option maxRecDepth 100000
def ZqE:Ann:={ nt:=26,lr:=fun i=>if i=0 then [1,0] else if i=1 then [5,1,0] else if i=7 then [5] else [4] }
def Zny:Ann:={ nt:=26,keep:=[11,10],lr:=fun i=>if i=5 then [18,10,6,5,1] else [10,5,1] }
def c1S:Zg:=.seq (.region [oI 4 (.mov (.c (.lst true [])))] none [1,0]) (.seq (.region [oI 5 (.mov (.c (.lst true [])))] none [5,1,0]) .skip)
def ZfJ:List AOp:=[⟨some 7,.mov (.t 0),none,[]⟩,⟨some 8,.nilchk (.t 7),none,[0]⟩,⟨some 9,.faddr 0 (.t 8),none,[1]⟩,⟨some 10,.ld none (.t 9),none,[2]⟩]
def ZcF:List AOp:=[⟨some 15,.ext (.t 14) 0,none,[0]⟩,⟨some 6,.mov (.t 15),none,[1,0,1]⟩]
def c2S:Zg:=.seq (.region [oM 16 1,oM 17 6,oI 18 (.callv (.t 16) [(.t 17)])] none [18,10,6,5,1]) (.cond (.t 18) (.region [oM 19 5,oM 20 6,oI 21 (.bslice false 1 1 (.str []) [(0,(.t 20))]),oI 22 (.app 1 16 (.str []) (.t 19) (.t 21)),oM 5 22] none [10,5,1]) .skip)
def c3S:Zg:=.seq (.region [oM 23 5,oI 24 (.call 32 0 true [(.t 23)])] none [5]) (.seq (.region [oM 25 5,oM 4 25] none [4]) .ret)
theorem ZnW:Zke Tryd.prog 23 ZqE Zny 26 2 4 10 11 12 13 14 0 1 [10,5,1] ZfJ ZcF c1S c2S c3S [.tmp 4] :=
 ⟨_,_,_,_,_,_,_,_,_,_,_,_,_,_,_,_,_,_,_,Tryd.func23,by kernel_rfl,rfl,by kernel_rfl,rfl,rfl,rfl,rfl,rfl,rfl,rfl,rfl,Tryd.underlying36,rfl,rfl,rfl,rfl,rfl,rfl,rfl,rfl,rfl,by kernel_rfl,by kernel_rfl,by kernel_rfl,by kernel_rfl,by kernel_rfl,rfl,rfl,rfl,by decide⟩
noncomputable def Zgb:List AVal->Za->Option (AVal×Za):=ZfX FC PR BY [10,5,1] 10 14 1 ZfJ ZcF c1S c2S c3S [.tmp 4]
noncomputable def PRG:ZaM:=fun f=>if f=23 then some Zgb else PR f
noncomputable abbrev EG:Zo:=EV FC PRG BY
theorem Zu9:OLe E EG:=by
 refine Zn0 (fun f hf=>?_) (fun f g hg=>?_)
 ·unfold PRG
  rw [if_neg (by rintro rfl;revert hf;decide)]
  exact hf
 ·by_cases h1:f=23
  ·subst h1
   have : PR 23=some ZhG:=by rfl
   rw [this] at hg;injection hg with hg;subst hg
   exact Xv fun _ _=>rfl
  refine Xn ?_
  unfold PRG
  rw [if_neg h1]
  exact hg
theorem Zn1 {f:Nat} {fn:Zad} (hp:PRG f=none) (hf:FC f=some fn) (args:List AVal) (σ:Za):EG f args σ=Zas σ.length fn (evC FC PRG BY σ.length fn.body (enterA 0 args []) σ):=Zjb hp hf args σ
theorem Zwz (args:List AVal) (σ:Za):EG 23 args σ=Zgb args σ:=Zl2 (by rfl) args σ
theorem Zrb {args:List AVal} {σ σ':Za} {r:AVal} (hg:Zgb args σ=some (r,σ')) :
  (∃ fn,Tryd.prog.funcs[23]?=some fn/\fn.body.isSome=true/\(fn.name == "runtime.NumGoroutine")=false) /\
  ∀ base w0 I0 I β w (vs:Array Value),KLt base w0->Rel base w0 I0 I β σ w->VRs I β args vs.toList ->
   Calls Tryd.prog 23 vs w (fun e w'=>∃ u,Ends r e u/\ZaQ σ.length base w0 I0 I β r σ' u w') :=
 ZvK ZfM (fun n=>by
  have h:Zw FC PR BY n=Zw CF PR BY n:=Zhg CF PR BY n
  rw [h]
  exact Zhz ZfM Zjq ann BY n) ZnW hg
theorem Zk5:Zgc Tryd.prog PRG:=by
 intro f g h args σ r σ' hg
 unfold PRG at h
 split at h
 ·rename_i e;subst e
  injection h with h;subst h
  exact Zrb hg
 ·exact Zjq f g h args σ r σ' hg
theorem Zm4:ZI Tryd.prog EG:=by
 have h:EG=EV CF PRG BY:=Zt1 CF PRG BY
 rw [h]
 exact Zst ZfM Zk5 ann BY
theorem Zbd {σ:Za} {sq f own:Nat} {view:Bool} {args:List AVal} {r:AVal×Za×Cls} (h:Zr E BY σ sq f own view args=some r):Zr EG BY σ sq f own view args=some r:=ZgH Zu9 h
end
section
open Go.RowKit
theorem Zqm (id:Nat) (tm:Tms) (σ:Za):Za6 id (.normal,tm,σ)=(.normal,tm,σ):=rfl
theorem ZuB (id i:Nat) (tm:Tms) (σ:Za):Za6 id (.exit i,tm,σ)=if i=id then (.normal,tm,σ) else (.exit i,tm,σ):=by simp only [Za6]
theorem ZvL (id:Nat) (tm:Tms) (σ:Za):Za6 id (.ret,tm,σ)=(.ret,tm,σ):=rfl
theorem Zot (id:Nat) (x:AVal) (tm:Tms) (σ:Za):Za6 id (.panic x,tm,σ)=(.panic x,tm,σ):=rfl
section
variable (O:Zo) (bf:Nat->Bool)
def Zb0 (c:Cls):Option (Tms×Za×List Cls×Option AVal)->Option (Tms×Za×List Cls×Option AVal)
 | none=>none
 | some (tm,σ,cs,p)=>some (tm,σ,c::cs,p)
def ZdC (c:List Cls):Option (Tms×Za×List Cls×Option AVal)->Option (Tms×Za×List Cls×Option AVal)
 | none=>none
 | some (tm,σ,cs,p)=>some (tm,σ,c++cs,p)
def kC (d:Option Nat) (os:List AOp) (s:Nat) (tm:Tms):Option (AVal×Za×Cls)->Option (Tms×Za×List Cls×Option AVal)
 | none=>none
 | some (v,σ,c)=>if Zab v then some (tput tm d v,σ,[c],some (Zaf v)) else Zb0 c (Zm O bf os s (tput tm d v) σ)
def Zck (ops:List AOp) (L:Nat) (l:List (Nat×Nat)) (live:List Nat):Option (Tms×Za×List Cls×Option AVal)->Option (Z7×Tms×Za)
 | none=>none
 | some (_,σ,cs,some x)=>if Zcg ops L l cs then some (.panic x,[],σ) else none
 | some (tm,σ,cs,none)=>if ZbK ops L l cs then some (.normal,keepL live tm,σ) else none
variable {O bf}
theorem Zi5 (s:Nat) (tm:Tms) (σ:Za):Zm O bf [] s tm σ=some (tm,σ,[],none):=rfl
theorem Zls (c:Cls) (tm:Tms) (σ:Za) (cs:List Cls) (p:Option AVal):Zb0 c (some (tm,σ,cs,p))=some (tm,σ,c::cs,p):=rfl
theorem Zup (c:Cls):Zb0 c none=none:=rfl
theorem ZmO (c:Cls) (q:Prop) [Decidable q] (x y:Option (Tms×Za×List Cls×Option AVal)):Zb0 c (if q then x else y)=if q then Zb0 c x else Zb0 c y:=by split <;> rfl
theorem Zm8 (c:List Cls) (tm:Tms) (σ:Za) (cs:List Cls) (p:Option AVal):ZdC c (some (tm,σ,cs,p))=some (tm,σ,c++cs,p):=rfl
theorem Zqt (c:List Cls):ZdC c none=none:=rfl
theorem Zxx (c:List Cls) (q:Prop) [Decidable q] (x y:Option (Tms×Za×List Cls×Option AVal)):ZdC c (if q then x else y)=if q then ZdC c x else ZdC c y:=by split <;> rfl
theorem Zgv {o:AOp} {os:List AOp} {s:Nat} {tm tm1:Tms} {σ σ1:Za} {v:AVal} {c:Cls} (h:Zd O bf o s tm σ=some (v,tm1,σ1,c)) (hn:Zab v=false):Zm O bf (o::os) s tm σ=Zb0 c (Zm O bf os (s+nsite o.ins) tm1 σ1):=by
 rw [ZjO h hn]
 cases Zm O bf os (s+nsite o.ins) tm1 σ1 <;> rfl
theorem Zg7 (d:Option Nat) (i:Ins) (af:List Nat) (os:List AOp) (s:Nat) (tm:Tms) (σ:Za):Zm O bf (⟨d,i,none,af⟩::os) s tm σ=kC O bf d os (s+nsite i) tm (exI O bf i s tm σ):=by
 cases h:exI O bf i s tm σ with
 | none=>exact Zen (by rw [ZfE,h];rfl)
 | some q =>
  obtain ⟨v,σ1,c⟩:=q
  have hs:Zd O bf ⟨d,i,none,af⟩ s tm σ=some (v,tput tm d v,σ1,c):=by rw [ZfE,h];rfl
  cases hp:Zab v with
  | true =>
   obtain ⟨x,rfl⟩:=Zf5 hp
   exact Zgo hs
  | false =>
   rw [Zgv hs hp]
   simp only [kC,hp,Xo,if_false]
theorem ZhA (d:Option Nat) (os:List AOp) (s:Nat) (tm:Tms) (v:AVal) (σ:Za) (c:Cls) (h:Zab v=false):kC O bf d os s tm (some (v,σ,c))=Zb0 c (Zm O bf os s (tput tm d v) σ):=by
 simp only [kC,h,Xo,if_false]
theorem ZuJ (d:Option Nat) (os:List AOp) (s:Nat) (tm:Tms) (x:AVal) (σ:Za) (c:Cls):kC O bf d os s tm (some (.pan x,σ,c))=some (tput tm d (.pan x),σ,[c],some x):=rfl
theorem ZmN (d:Option Nat) (os:List AOp) (s:Nat) (tm:Tms):kC O bf d os s tm none=none:=rfl
theorem Zmf (d:Option Nat) (os:List AOp) (s:Nat) (tm:Tms) (q:Prop) [Decidable q] (x y:Option (AVal×Za×Cls)):kC O bf d os s tm (if q then x else y)=if q then kC O bf d os s tm x else kC O bf d os s tm y:=by split <;> rfl
theorem Zf9 (ops:List AOp) (l:List (Nat×Nat)) (live:List Nat) (tm:Tms) (σ:Za):ZaS O bf ops (some l) live tm σ=Zck ops σ.length l live (Zm O bf ops σ.length tm (σ++Xx (sitesOf ops) .free)):=by
 unfold ZaS
 cases Zm O bf ops σ.length tm (σ++Xx (sitesOf ops) .free) with
 | none=>rfl
 | some q =>
  obtain ⟨tm',σ',cs,p⟩:=q
  cases p <;> rfl
theorem ZeD (ops:List AOp) (L:Nat) (l:List (Nat×Nat)) (live:List Nat) (tm:Tms) (σ:Za) (cs:List Cls) (h:ZbK ops L l cs=true):Zck ops L l live (some (tm,σ,cs,none))=some (.normal,keepL live tm,σ):=by
 simp only [Zck,h,if_true]
theorem Zik (ops:List AOp) (L:Nat) (l:List (Nat×Nat)) (live:List Nat) (tm:Tms) (σ:Za) (cs:List Cls) (x:AVal) (h:Zcg ops L l cs=true):Zck ops L l live (some (tm,σ,cs,some x))=some (.panic x,[],σ):=by
 simp only [Zck,h,if_true]
theorem ZlX (ops:List AOp) (L:Nat) (l:List (Nat×Nat)) (live:List Nat):Zck ops L l live none=none:=rfl
theorem ZuY (ops:List AOp) (L:Nat) (l:List (Nat×Nat)) (live:List Nat) (q:Prop) [Decidable q] (x y:Option (Tms×Za×List Cls×Option AVal)):Zck ops L l live (if q then x else y)=if q then Zck ops L l live x else Zck ops L l live y:=by split <;> rfl
theorem Zse (ops:List AOp) (L:Nat) (l:List (Nat×Nat)) (cs:List Cls) (h:(cs.all fun c=>c.wr.isEmpty && !c.any)=true) (hs:(l.all fun p=>p.1 == p.2 || nsite (ops.getD p.1 default).ins == 0)=true):ZbK ops L l cs=true:=by
 have hd:∀ i,ZbV (cs.getD i {})=true:=by
  intro i
  rw [Xp] at h
  rw [Xd]
  cases hi:cs[i]? with
  | none=>rfl
  | some c=>exact h c (Xu hi)
 unfold ZbK
 rw [Xp] at hs ⊢
 intro p hp
 have:=hs p hp
 rw [Wp] at this ⊢
 rcases this with this | this
 ·exact Xn this
 ·refine Xv ?_
  unfold Zbl
  simp only [hd,this,Bool.and_true,Xaz,WQ,XaC]
theorem ZoW (ops:List AOp) (L:Nat) (l:List (Nat×Nat)) (live:List Nat) (tm:Tms) (σ:Za) (cs:List Cls) (h:(cs.all fun c=>c.wr.isEmpty && !c.any)=true) (hs:(l.all fun p=>p.1 == p.2 || nsite (ops.getD p.1 default).ins == 0)=true):Zck ops L l live (some (tm,σ,cs,none))=some (.normal,keepL live tm,σ) :=
 ZeD _ _ _ _ _ _ _ (Zse _ _ _ _ h hs)
variable (O bf) in
def gKC (os:List AOp) (s:Nat):Option (Tms×Za×List Cls×Option AVal)->Option (Tms×Za×List Cls×Option AVal)
 | none=>none
 | some (tm,σ,cs,some x)=>some (tm,σ,cs,some x)
 | some (tm,σ,cs,none)=>ZdC cs (Zm O bf os s tm σ)
theorem ZrE (os:List AOp) (s:Nat) (tm:Tms) (σ:Za) (cs:List Cls):gKC O bf os s (some (tm,σ,cs,none))=ZdC cs (Zm O bf os s tm σ):=rfl
theorem Zu5 (os:List AOp) (s:Nat) (q:Prop) [Decidable q] (x y:Option (Tms×Za×List Cls×Option AVal)):gKC O bf os s (if q then x else y)=if q then gKC O bf os s x else gKC O bf os s y:=by split <;> rfl
theorem ZoY (os:List AOp) (s:Nat) (c:Cls) (r:Option (Tms×Za×List Cls×Option AVal)):gKC O bf os s (Zb0 c r)=Zb0 c (gKC O bf os s r):=by
 cases r with
 | none=>rfl
 | some q =>
  obtain ⟨tm,σ,cs,p⟩:=q
  cases p with
  | some x=>rfl
  | none =>
   simp only [Zb0,gKC]
   cases Zm O bf os s tm σ <;> rfl
theorem Zkc:∀ (a b:List AOp) (s:Nat) (tm:Tms) (σ:Za),Zm O bf (a++b) s tm σ=gKC O bf b (s+sitesOf a) (Zm O bf a s tm σ)
 | [],b,s,tm,σ=>by
  simp only [Wo,Zi5,gKC,sitesOf,XT,List.sum_nil,XU]
  cases Zm O bf b s tm σ <;> rfl
 | o::a,b,s,tm,σ=>by
  have ih:=Zkc a b
  simp only [Wl]
  have hs:s+nsite o.ins+sitesOf a=s+sitesOf (o::a):=by simp [sitesOf,Wi]
  cases hst:Zd O bf o s tm σ with
  | none=>rw [Zen hst,Zen hst];rfl
  | some q =>
   obtain ⟨v,tm1,σ1,c⟩:=q
   cases hp:Zab v with
   | true =>
    obtain ⟨x,rfl⟩:=Zf5 hp
    rw [Zgo hst,Zgo hst];rfl
   | false=>rw [Zgv hst hp,Zgv hst hp,ih,hs,ZoY]
variable (O bf) in
def Zcp (j:Nat) (w:Bool) (g:List AOp) (s:Nat) (tm:Tms) (σ:Za):Option (Tms×Za×List Cls×Option AVal):=match Zay (some (j,w)) tm with
 | none=>none
 | some false=>some (ZC g tm,σ,g.map fun _=>{},none)
 | some true=>Zm O bf (g.map unG) s tm σ
theorem Zi7 (j:Nat) (w:Bool):∀ (g:List AOp),(∀ o ∈ g,o.guard=some (j,w)/\o.dst≠some j)->∀ (s:Nat) (tm:Tms) (σ:Za),g≠[]->Zm O bf g s tm σ=Zcp O bf j w g s tm σ
 | [],_,_,_,_,h=>absurd rfl h
 | o::g,hall,s,tm,σ,_=>by
  obtain ⟨hg,hd⟩:=hall o (by simp)
  have ih:∀ (tm:Tms) (σ:Za) (s:Nat),Zay (some (j,w)) tm≠none->Zm O bf g s tm σ=Zcp O bf j w g s tm σ:=by
   intro tm σ s hw
   by_cases he:g=[]
   ·subst he
    unfold Zcp
    cases hx:Zay (some (j,w)) tm with
    | none=>exact absurd hx hw
    | some b=>cases b <;> rfl
   ·exact Zi7 j w g (fun o ho=>hall o (by simp [ho])) s tm σ he
  cases hx:Zay (some (j,w)) tm with
  | none =>
   rw [Zen (by simp only [Zd,hg,hx])]
   simp only [Zcp,hx]
  | some b =>
   cases b with
   | false =>
    have h1:Zm O bf (o::g) s tm σ=Zb0 {} (Zm O bf g (s+nsite o.ins) (tput tm o.dst (.tup [])) σ) :=
     Zgv (v:=.tup []) (c:={}) (by simp only [Zd,hg,hx]) rfl
    rw [h1,ih _ _ _ (by rw [Zc4 hd,hx];simp)]
    unfold Zcp
    rw [Zc4 hd,hx]
    rfl
   | true =>
    have key:∀ r:Option (AVal×Za×Cls),(∀ v σ' c,r=some (v,σ',c)->Zab v=false->Zm O bf g (s+nsite o.ins) (tput tm o.dst v) σ'=Zm O bf (g.map unG) (s+nsite o.ins) (tput tm o.dst v) σ')->kC O bf o.dst g (s+nsite o.ins) tm r=kC O bf o.dst (g.map unG) (s+nsite o.ins) tm r:=by
     intro r hr
     cases r with
     | none=>rfl
     | some q =>
      obtain ⟨v,σ',c⟩:=q
      cases hp:Zab v with
      | true=>simp only [kC,hp,if_true]
      | false=>rw [ZhA _ _ _ _ _ _ _ hp,ZhA _ _ _ _ _ _ _ hp,hr v σ' c rfl hp]
    have h1:Zm O bf (o::g) s tm σ=kC O bf o.dst g (s+nsite o.ins) tm (exI O bf o.ins s tm σ):=by
     have h0:Zm O bf (o::g) s tm σ=Zm O bf (⟨o.dst,o.ins,none,o.after⟩::g) s tm σ:=by
      have hst:Zd O bf o s tm σ=Zd O bf ⟨o.dst,o.ins,none,o.after⟩ s tm σ:=by
       unfold Zd
       simp only [hg,hx]
       rfl
      simp only [Zm,hst]
     rw [h0,Zg7]
    rw [h1]
    unfold Zcp
    rw [hx]
    simp only [XC]
    rw [show unG o=⟨o.dst,o.ins,none,o.after⟩ from rfl,Zg7]
    refine key _ fun v σ' c _ _=>?_
    rw [ih _ _ _ (by rw [Zc4 hd,hx];simp)]
    unfold Zcp
    rw [Zc4 hd,hx]
theorem Zvv (d:Option Nat) (i:Ins) (j:Nat) (w:Bool) (af:List Nat) (os:List AOp) (s:Nat) (tm:Tms) (σ:Za) (hd:decide (d=some j)=false) :
  Zm O bf (⟨d,i,some (j,w),af⟩::os) s tm σ=gKC O bf (Zt j w os).2 (s+sitesOf (⟨d,i,some (j,w),af⟩::(Zt j w os).1)) (Zcp O bf j w (⟨d,i,some (j,w),af⟩::(Zt j w os).1) s tm σ):=by
 have h:=Zhw j w os
 have hall:∀ o ∈ (⟨d,i,some (j,w),af⟩::(Zt j w os).1:List AOp),o.guard=some (j,w)/\o.dst≠some j:=by
  intro o ho
  rcases XE.1 ho with rfl | ho
  ·exact ⟨rfl,by simpa using hd⟩
  ·exact ZhS j w os o ho
 rw [<-Zi7 j w _ hall s tm σ (by simp),<-Zkc,Wl,h]
variable (O bf) in
def gWC (w:Bool) (g:List AOp) (s:Nat) (tm:Tms) (σ:Za):AVal->Option (Tms×Za×List Cls×Option AVal)
 | .bool b=>if b=w then Zm O bf (g.map unG) s tm σ else some (ZC g tm,σ,g.map fun _=>{},none)
 | .tup []=>some (ZC g tm,σ,g.map fun _=>{},none)
 | _=>none
theorem ZpV (j:Nat) (w:Bool) (g:List AOp) (s:Nat) (tm:Tms) (σ:Za):Zcp O bf j w g s tm σ=gWC O bf w g s tm σ (tget tm j):=by
 unfold Zcp Zay
 simp only
 generalize tget tm j=v
 cases v
 case bool b=>cases b <;> cases w <;> rfl
 case tup vs=>cases vs <;> rfl
 all_goals rfl
theorem Zmz (w:Bool) (g:List AOp) (s:Nat) (tm:Tms) (σ:Za) (b:Bool):gWC O bf w g s tm σ (.bool b)=if b=w then Zm O bf (g.map unG) s tm σ else some (ZC g tm,σ,g.map fun _=>{},none):=rfl
theorem ZnC (w:Bool) (g:List AOp) (s:Nat) (tm:Tms) (σ:Za):gWC O bf w g s tm σ (.tup [])=some (ZC g tm,σ,g.map fun _=>{},none):=rfl
theorem Zma (q:Prop) [Decidable q] (t1 t2:Tms) (σ1 σ2:Za) (cs:List Cls):(if q then some (t1,σ1,cs,(none:Option AVal)) else some (t2,σ2,cs,none))=some ((if q then t1 else t2),(if q then σ1 else σ2),cs,none):=by split <;> rfl
end
section
theorem Zxz {r:AVal} {cs:List AVal} {σ:Za} (hr:Zae r=true) (hc:Zx cs=true):gcA 1 [r] (.var cs::σ)=([r],[.var cs]):=by
 have e1:=(Ze6 (Zf (.var cs::σ) 1 [0]) r hr)
 have e2:=(ZeC (Zf (.var cs::σ) 1 [0]) cs hc)
 have h1:Zv 1 [r] (.var cs::σ)=[0]:=by
  have : ZR [r]=[]:=by simp only [ZR,e1.2,XS]
  simp only [Zv,this,Wo,List.range_one,List.flatMap_cons,Xao,XS,Wb,ZE,e2.2]
  rfl
 simp only [gcA,h1,ZH,e1.1,Zj,Wb,ZA,Zb,Zn,e2.1]
theorem Zqb {r:AVal} {cs:List AVal} {σ:Za} (hr:Zae r=true) (hc:Zx cs=true):ZaC 1 (.var cs::σ) r=some (r,[.var cs]):=by
 simp only [ZaC,Zxz hr hc]
end
end
section
theorem Zqy {O:Zo} {bf:Nat->Bool} {σ:Za} {sq f own:Nat} {view:Bool} {args vs vs':List AVal} {ids:List Nat} {h0 h:Za} {r0 r:AVal} (hb:bf f=false) (hsh:showAs σ args=some (vs,[])) (hre:Zi σ 1000 (ZR vs) []=ids) (hne:ids.isEmpty=false)
  (hall:(ids.all fun t=>okB (σ.getD t .free))=true) (hvs:ZH (Zf σ 0 ids) vs=vs') (hh:Zj σ 0 ids (Zf σ 0 ids) ids 0=h0) {hh0:Za} (hO:O f vs' h0=some (r0,hh0)) (hv:Zat view ids.length (some (r0,hh0))=some (r,h))
  (hl1:h.length<=ids.length+own) (hl2:ids.length<=h.length) (hk:ZbJ σ ids h 0=true) (hff:Zb7 σ sq own=true) {r':AVal} (hr:Ze (ZaA σ ids sq) r=r') {σ':Za} (hlay:ZaR σ ids sq h 0 σ=σ') {u:List (Nat×List AVal)} (hu:ZbM σ' ids=u) :
  Zr O bf σ sq f own view args=some (r',σ',{ any:=true,upd:=u }):=by
 subst hr hlay hu
 unfold Zr ZbE
 rw [hb]
 simp only [Xo,if_false,hsh,show Zh σ []=σ from rfl,hre]
 unfold Zbg
 rw [if_pos hall,hvs,hh,hO,hv]
 simp only [Zaj,hne,Xaw,Xo,if_false,hl1,hl2,decide_true,hk,hff,Ww,if_true]
end
section
section
variable (c:Prop) [Decidable c]
theorem Zpd (t1 t2:Tms) (σ1 σ2:Za):(if c then some (Z7.normal,t1,σ1) else some (Z7.normal,t2,σ2))=some (Z7.normal,(if c then t1 else t2),(if c then σ1 else σ2)):=by split <;> rfl
theorem Zww (t1 t2:Tms) (σ1 σ2:Za):(if c then some (Z7.ret,t1,σ1) else some (Z7.ret,t2,σ2))=some (Z7.ret,(if c then t1 else t2),(if c then σ1 else σ2)):=by split <;> rfl
theorem Znq (t1 t2:Tms) (σ1 σ2:Za):(if c then some (t1,σ1,(none:Option AVal)) else some (t2,σ2,none))=some ((if c then t1 else t2),(if c then σ1 else σ2),none):=by split <;> rfl
theorem Zwd (n:Nat) (a b:AVal):(if c then (n,a) else (n,b))=(n,if c then a else b):=by split <;> rfl
theorem Zra (a b:AVal) (σ1 σ2:Za):(if c then some (a,σ1) else some (b,σ2))=some ((if c then a else b),(if c then σ1 else σ2)):=by split <;> rfl
theorem Zw1 (a b:AVal) (σ1 σ2:Za) (x y:Cls):(if c then some (a,σ1,x) else some (b,σ2,y))=some ((if c then a else b),(if c then σ1 else σ2),if c then x else y):=by split <;> rfl
end
theorem ZQ {α:Type} (p:Bool) (x y z:α):(if p=true then x else (if p=false then y else z))=if p=true then x else y:=by cases p <;> rfl
theorem ZW {α:Type} (p:Bool) (x y z:α):(if p=false then x else (if p=true then y else z))=if p=false then x else y:=by cases p <;> rfl
theorem Z1 {α:Type} (p:Bool) (x y z:α):(if p=true then (if p=false then x else y) else z)=if p=true then y else z:=by cases p <;> rfl
theorem ZS {α:Type} (p:Bool) (x y z:α):(if p=false then (if p=true then x else y) else z)=if p=false then y else z:=by cases p <;> rfl
theorem Zfm (ops:List AOp) (b:Nat) (cs:List Cls):ZbK ops b [] cs=true:=rfl
theorem Zft (ops:List AOp) (b:Nat) (p:Nat×Nat) (l:List (Nat×Nat)) (cs:List Cls):ZbK ops b (p::l) cs=((p.1 == p.2 || Zbl (ops.getD p.1 default) (ops.getD p.2 default) (cs.getD p.1 {}) (cs.getD p.2 {}) (b+sitesOf (ops.take p.1))) && ZbK ops b l cs):=by
 simp only [ZbK,X2]
theorem Zga (oj oi:AOp) (cj ci:Cls) (sj:Nat):Zbl oj oi cj ci sj=(Zba oj cj || Zba oi ci || (ZbV cj && ZbV ci && (nsite oj.ins == 0 || !ci.rd.contains sj)) || ((Za8 oj.ins || (ZbC oj.ins && !cj.any)) && (ZbV ci && ci.rd.isEmpty)) || (Zbn oj.ins && Za8 oi.ins && ci.any && ZbD cj ci) || (Zbn oj.ins && (ZbC oi.ins || (Zdf oi.ins && Zee cj ci)) && ZbD cj ci) || (Zdt oj.ins && Zc2 oi.ins) || (Za8 oj.ins && Zbn oi.ins && cj.any && ZdX cj ci sj)):=rfl
theorem ZfU (o:AOp) (rd wr:List Nat) (any:Bool) (got:List (Nat×Option Nat×Nat×AVal)) (upd:List (Nat×List AVal)):Zba o ⟨rd,wr,any,got,upd⟩=(nsite o.ins == 0 && rd.isEmpty && wr.isEmpty && !any):=rfl
theorem ZfA (rd wr:List Nat) (any:Bool) (got:List (Nat×Option Nat×Nat×AVal)) (upd:List (Nat×List AVal)):ZbV ⟨rd,wr,any,got,upd⟩=(wr.isEmpty && !any):=rfl
theorem Zcn {α:Type} {l:List α} {i:Nat} {x:α} {r:List α} (h:l.drop i=x::r):l[i]?=some x/\l.drop (i+1)=r/\i < l.length:=by
 have h1:i < l.length:=by
  rcases Nat.lt_or_ge i l.length with h1 | h1
  ·exact h1
  ·rw [List.drop_eq_nil_of_le h1] at h;cases h
 rw [List.drop_eq_getElem_cons h1] at h
 injection h with h2 h3
 exact ⟨by rw [Xy h1,h2],h3,h1⟩
theorem Zfo {α:Type} {l:List α} {i:Nat} (h:l.drop i=[]):¬(i:Int) < l.length:=by
 have:=List.drop_eq_nil_iff.1 h;omega
theorem iad {α:Type} {l:List α} {i:Nat} {x:α} (h:l[i]?=some x) (f:α->AVal) {k:Nat} (hk:(f x).cells.length=k) (σ:Za) (n:Bool) (kk:IntKind):Zby σ k (.lst n (l.map f)) (.int kk (i:Int))=some (.iptr (f x).cells 0,σ,{}):=by
 have h0:(0:Int)<=(i:Int):=Int.natCast_nonneg i
 unfold Zby
 simp only [h0,if_true,Int.toNat_natCast,XY,h,XK,hk]
theorem Zev {n:Int} (h0:-9223372036854775808<=n) (h:n<=9223372036854775807):IntKind.i64.wrap n=n:=by
 rw [IntKind.wrap_i64];omega
theorem Zdd {i n:Nat} (h:(i:Int) < n) (hn:n<=9223372036854775807):IntKind.i64.wrap ((i:Int)+1)=((i+1:Nat):Int):=by
 rw [Zev (by omega) (by omega)];rfl
abbrev ZeZ:=List UInt8
def ZK (b:ZeZ):AVal:=.lst false (b.map Zbe)
structure Zhp where
 id:Int
 num:Int
 text:ZeZ
 pair:ZeZ
 data:ZeZ
 deriving DecidableEq
def ZL (p:Zhp):List AVal:=[.int .i64 p.id,.int .i64 p.num,.str p.text,.str p.pair,ZK p.data]
def ZO (p:Zhp):AVal:=.agg (ZL p)
def Z4 (l:List Zhp):AVal:=.lst false (l.map ZO)
def ZZ (l:List Int):AVal:=.lst false (l.map (.int .i64 ·))
theorem ZN (l:ZeZ):Zc3 (l.map Zbe)=some l:=by
 induction l with
 | nil=>rfl
 | cons b l ih =>
  simp only [XC,Zc3,ih,Zbe,Zhv,Int.toNat_natCast,UInt8.ofNat_toNat]
end
section
theorem ZnB {O:Zo} {bf:Nat->Bool} {σ:Za} {f:Nat} {args vs:List AVal} {ts:List Nat} {r r':AVal} (hb:bf f=false) (hsh:showAs σ args=some (vs,ts)) (hp:vs.all Zag=true) (hm:vs.map Zac=vs) (h:O f vs []=some (r,[])) (hv:Zb2 0 (some (r,[]))=some (r',[])) (sq own:Nat) :
  Zr O bf σ sq f own true args=if Zaz r' then some (r',σ,{ rd:=ts }) else if Zbt σ ts r' then some (r',σ,{ rd:=ts }) else some (Ze (ZaA [] [] sq) r',Zh σ ts,{ rd:=ts,wr:=ts }):=by
 have hr:=ZgN hp
 have hn:=fun ρ=>ZgW (ρ:=ρ) hp
 rw [hm] at hr
 simp only [hm] at hn
 unfold Zr ZbE
 rw [hb]
 simp only [Xo,if_false,hsh]
 rw [hr]
 have h2:∀ σ,Zi σ 1000 [] []=[]:=fun _=>rfl
 rw [h2]
 unfold Zbg
 simp only [WH,if_true,hn,Zj,Wz,h]
 have : Zat true 0 (some (r,[]))=some (r',[]):=by unfold Zat;rw [if_pos rfl,hv]
 rw [this]
 simp only [Zaj,Wu,Ww,if_true]
theorem ZiP {O:Zo} {bf:Nat->Bool} {σ:Za} {f:Nat} {args vs:List AVal} {ts:List Nat} {r r':AVal} (hb:bf f=false) (hsh:showAs σ args=some (vs,ts)) (hp:vs.all Zag=true) (hm:vs.map Zac=vs) (h:O f vs []=some (r,[])) (hv:Zb2 0 (some (r,[]))=some (r',[])) (hf:Zaz r'=true) (sq own:Nat) :
  Zr O bf σ sq f own true args=some (r',σ,{ rd:=ts }):=by
 rw [ZnB hb hsh hp hm h hv,if_pos hf]
theorem ZdS {O:Zo} {bf:Nat->Bool} {f:Nat} {args args':List AVal} {r r':AVal} (h:O f args' []=some (r,[])) (hb:bf f=false) (hp:args.all Zag=true) (hn:args.map Zac=args') (hv:Zb2 0 (some (r,[]))=some (r',[])) (hr:∀ sq,Ze (ZaA [] [] sq) r'=r') (σ:Za) (sq own:Nat):Zr O bf σ sq f own true args=some (r',σ,{}):=by
 rw [ZkL hb hp,hn,h]
 have : Zat true 0 (some (r,[]))=some (r',[]):=by
  unfold Zat
  rw [if_pos rfl];exact hv
 rw [this,ZjG _ _ _ _ (hr sq)]
end
section
end
section
def ZmK:=(aI (aI (aI (aI (aI (aI @ZoE @ZlV) (aI @ZuI @ZoD)) (aI (aI @Zoq @ZwX) (aI @Zqp @Zoj))) (aI (aI (aI @ZjT @ZgQ) (aI @ZvW @ZhL)) (aI (aI @ZpL @ZxC) (aI @Zo8 @Zs9)))) (aI (aI (aI (aI @Zs7 @Zk4) (aI @Zrf @ZnI)) (aI (aI @Zp9 @Zo3) (aI @Zn9 @ZwS))) (aI (aI (aI @ZvA @Zsv) (aI @Zlh @ZnU)) (aI (aI @Zpa @ZN) (aI @Zpd @Zww))))) (aI (aI (aI (aI (aI @Znq @Zwd) (aI @Zra @Zw1)) (aI (aI @Zxb @ZuE) (aI @Zxw @Zwr))) (aI (aI (aI @Zwk @Zto) (aI @ZrB @Zf9)) (aI (aI @Zi5 @Zg7) (aI @Zvv @Zls)))) (aI (aI (aI (aI @Zup @ZmO) (aI @Zm8 @Zqt)) (aI (aI @Zxx @ZhA) (aI @ZuJ @ZmN))) (aI (aI (aI @Zmf @ZoW) (aI @ZlX @ZuY)) (aI (aI @ZrE @Zu5) (aI @ZpV @Zmz))))))
def ZuV:=(aI (aI (aI (aI (aI (aI @ZnC @Zma) (aI @Zqm @ZuB)) (aI (aI @ZvL @Zot) (aI @Zfm @Zft))) (aI (aI (aI @Zga @ZfU) (aI @ZfA @ZeD)) (aI (aI @ZsR @Zoh) (aI @Zpp @ZwT)))) (aI (aI (aI (aI @Zsh @ZqX) (aI @ZqZ @Zr5)) (aI (aI @ZkX @Zsw) (aI @ZpT @ZsO))) (aI (aI (aI @Znc @Zp8) (aI @Zvy @Zpv)) (aI (aI @ZpQ @Zpu) (aI @ZqS @ZpR))))) (aI (aI (aI (aI (aI @ZnZ @Zu1) (aI @ZwK @Zt4)) (aI (aI @Zxe @Zqo) (aI @Zlt @Zuf))) (aI (aI (aI @Zow @Zpw) (aI @Zvk @ZsI)) (aI (aI @Zrt @Zv1) (aI @Zvc @Zp5)))) (aI (aI (aI (aI @ZrQ @Zsu) (aI @ZpD @Zxr)) (aI (aI @ZwV @ZoK) (aI @ZvH @Zw9))) (aI (aI (aI @ZpW @Zv3) (aI @Zvf @Zrc)) (aI (aI @ZqK @Zpf) (aI @ZoG @ZwO))))))
def ZV:=(aI (aI (aI (aI (aI (aI @ZwI @ZlR) (aI @Zvw @ZuW)) (aI (aI @Zp0 @ZqI) (aI @ZlN @Zt6))) (aI (aI (aI @Zli @ZvV) (aI @Zrl @Zm6)) (aI (aI @ZoX @ZsG) (aI @Zp4 @Zvb)))) (aI (aI (aI (aI @Zqw @Zms) (aI @Zwu @Zpi)) (aI (aI @Zl7 @Zr3) (aI @Zws @ZnP))) (aI (aI (aI @Zlf @Zsr) (aI @ZlD @ZmA)) (aI (aI @Zou @Zwn) (aI @ZlK @Zv0))))) (aI (aI (aI (aI (aI @ZmR @ZoQ) (aI @Znd @Zs6)) (aI (aI @ZuF @Zrm) (aI @Zug @ZrW))) (aI (aI (aI @ZsA @ZvN) (aI @Znn @Ztl)) (aI (aI @ZmL @ZtB) (aI @Zwh @Zvs)))) (aI (aI (aI (aI @Zvt @Zt3) (aI @Zuq @Zxy)) (aI (aI @ZxA @Zlj) (aI @Zwm @Znw))) (aI (aI (aI @Ztu @Zrj) (aI @ZpN @ZqB)) (aI (aI @Zl9 @Zno) (aI @ZrO @Zp2))))))
def Z0:=(aI (aI (aI (aI (aI (aI @ZnE @Znr) (aI @ZoT @Zs2)) (aI (aI @ZqW @Zsd) (aI @Zq6 @Zso))) (aI (aI (aI @ZvD @Zrv) (aI @Zo2 @Zxk)) (aI (aI @ZvJ @ZnY) (aI @Zud @ZoA)))) (aI (aI (aI (aI @Zlq @ZsH) (aI @Zuz @ZtO)) (aI (aI @Zsk @ZpY) (aI @Zor @ZsL))) (aI (aI (aI @Zxn @ZpK) (aI @Ztq @ZqH)) (aI (aI @Ztf @Zt2) (aI @ZvM @ZrF))))) (aI (aI (aI (aI (aI @ZlW @Zo1) (aI @ZwL @ZnH)) (aI (aI @ZsE @Zqj) (aI @ZwA @Zsj))) (aI (aI (aI @Zuj @ZsD) (aI @ZuL @Znf)) (aI (aI @ZqQ @Zoe) (aI @Ztz @ZoV)))) (aI (aI (aI (aI @Zos @Zu3) (aI @Zn2 @ZsQ)) (aI (aI @ZoZ @Zmr) (aI @Zk6 @Zqd))) (aI (aI (aI @Zqz @Zpk) (aI @ZmC @ZmX)) (aI (aI @ZoH @ZqA) (aI @Zsq @ZmP))))))
def Z6:=(aI (aI (aI (aI (aI (aI @Zqk @Ztg) (aI @ZtX @ZrI)) (aI (aI @Zn5 @Zrx) (aI @ZqV @Zpn))) (aI (aI (aI @Zuo @Zqh) (aI @Zuw @Zwy)) (aI (aI @ZnN @Zth) (aI @Zta @Zxa)))) (aI (aI (aI (aI @Zwx @Zp3) (aI @Zuh @Ztr)) (aI (aI @Zvz @Zut) (aI @ZsT @Zxf))) (aI (aI (aI @Zu4 @Zr2) (aI @Zpe @Zvq)) (aI (aI @Zm7 @ZtT) (aI @Zw0 @ZuM))))) (aI (aI (aI (aI (aI @ZwE @Zqi) (aI @ZpC @Zpy)) (aI (aI @Zmi @ZrK) (aI @Zof @ZuD))) (aI (aI (aI @Zpc @ZmM) (aI @ZpS @Zmo)) (aI (aI @ZmE @ZvB) (aI @ZwW @ZlS)))) (aI (aI (aI (aI @Zw5 @ZlA) (aI @Zml @ZtP)) (aI (aI @Zpm @ZuT) (aI @Zoy @ZlT))) (aI (aI (aI @ZvO @Zq5) (aI @ZlZ @Zsb)) (aI (aI @Zss @Znm) (aI @ZoU @Zwb))))))
def Zps:=(aI (aI (aI (aI (aI (aI @Zlw @ZlH) (aI @Zxs @ZoF)) (aI (aI @Zk7 @Zna) (aI @ZmW @Ztx))) (aI (aI (aI @Ztt @Zl4) (aI @Zw3 @Zn7)) (aI (aI @Zlz @Znb) (aI @Zu6 @Zr1)))) (aI (aI (aI (aI @Zog @ZtS) (aI @Ztk @Zrn)) (aI (aI @ZoR @Zxo) (aI @Zwv @ZqN))) (aI (aI (aI @Ztj @ZsB) (aI @Zlr @ZuZ)) (aI (aI @Zv2 @Zw7) (aI @ZrX @Zxu))))) (aI (aI (aI (aI (aI @Zwj @Zv9) (aI @Zop @ZwP)) (aI (aI @ZvZ @Zns) (aI @ZnT @ZtE))) (aI (aI (aI @ZqM @Zvi) (aI @Zr4 @Zqa)) (aI (aI @Zve @ZrC) (aI @ZpB @Zoc)))) (aI (aI (aI (aI @ZrT @ZrL) (aI @Zv7 @Zlg)) (aI (aI @Zrp @ZxB) (aI @Zoz @ZoM))) (aI (aI (aI @Zu7 @Zsi) (aI @ZpJ @Zxt)) (aI (aI @Zrz @ZqP) (aI @Zui @Zl6))))))
def Z5:=(aI (aI (aI (aI (aI (aI @Zqq @Zv5) (aI @Zo6 @ZpO)) (aI (aI @Zmd @ZuU) (aI @ZtM @ZnF))) (aI (aI (aI @ZlL @Zvh) (aI @Zur @Zxp)) (aI (aI @Zv4 @ZsJ) (aI @ZsW @Zly)))) (aI (aI (aI (aI @ZnQ @Zt9) (aI @Zm0 @ZsU)) (aI (aI @ZmQ @Zlo) (aI @Znh @ZrH))) (aI (aI (aI @ZlE @ZuC) (aI @ZlY @ZtD)) (aI (aI @Zua @ZwC) (aI @Zus @ZqD))))) (aI (aI (aI (aI (aI @Zwf @ZvG) (aI @ZpA @Zvj)) (aI (aI @Zpl @Zom) (aI @Zoo @ZrJ))) (aI (aI (aI @ZmF @Zlb) (aI @ZwD @ZoP)) (aI (aI @Zr9 @ZtC) (aI @Zun @Zpr)))) (aI (aI (aI (aI @Znk @Zt0) (aI @ZsM @Zo5)) (aI (aI @ZlJ @Zxh) (aI @ZqL @Zrr))) (aI (aI (aI @ZvQ @ZnA) (aI @Zpo @Zq3)) (aI (aI @ZvF @Zvn) (aI @Zsx @ZlQ))))))
def ZU:=(aI (aI (aI (aI (aI @ZnO (aI @Zwt @ZvI)) (aI (aI @Zub @ZrG) (aI @ZwJ @Zuy))) (aI (aI @Zqc (aI @Zng @Zsa)) (aI (aI @ZtF @ZwQ) (aI @ZtW @Zlx)))) (aI (aI (aI @ZsP (aI @Ztd @Zwo)) (aI (aI @Zp1 @ZlG) (aI @Zmm @Zvg))) (aI (aI (aI @Zn8 @ZmU) (aI @Zmt @Zwl)) (aI (aI @Zrk @Zwe) (aI @ZsF @Zq0))))) (aI (aI (aI (aI @ZpI (aI @ZnX @Zts)) (aI (aI @Zva @Zt7) (aI @Zvd @ZlC))) (aI (aI (aI @ZvX @ZrR) (aI @Ztc @ZvY)) (aI (aI @Zxj @Znp) (aI @ZnR @Zmp)))) (aI (aI (aI @Zsm (aI @ZqU @Ztn)) (aI (aI @Zmb @Ztv) (aI @Zl3 @Zqs))) (aI (aI (aI @ZwM @Zph) (aI @Zq4 @Zpg)) (aI (aI @Zo7 @Zqb) (aI @Zqr @ZkN))))))
def Zmx:=(aI (aI (aI (aI (aI (aI @List.map_cons.{0,0} @List.map_nil.{0,0}) (aI @List.length_cons.{0} @List.length_nil.{0})) (aI (aI @List.replicate_zero.{0} @List.replicate_succ.{0}) (aI @List.append_nil.{0} @List.nil_append.{0}))) (aI (aI (aI @List.cons_append.{0} @List.getElem?_cons_zero.{0}) (aI @List.getElem?_cons_succ.{0} @List.set_cons_zero.{0})) (aI (aI @List.set_cons_succ.{0} @Nat.add_zero) (aI @Nat.zero_add @Bool.true_or)))) (aI (aI (aI (aI @Bool.false_or @Bool.or_true) (aI @Bool.or_false @Bool.and_true)) (aI (aI @Bool.true_and @Bool.and_self) (aI @Bool.and_false @Bool.false_and))) (aI (aI (aI @if_true.{1} @if_false.{1}) (aI @ite_true.{1} @ite_false.{1})) (aI (aI @Option.map_some.{0,0} @Option.map_none.{0,0}) (aI @and_self @and_true))))) (aI (aI (aI (aI (aI @true_and @and_false) (aI @false_and @true_or)) (aI (aI @or_true @false_or) (aI @or_false @not_true_eq_false))) (aI (aI (aI @not_false_eq_true @List.drop_zero.{0}) (aI @List.drop_succ_cons.{0} @List.take_succ_cons.{0})) (aI (aI @List.take_zero.{0} @List.all_cons.{0}) (aI @List.all_nil.{0} @List.isEmpty_nil.{0})))) (aI (aI (aI (aI @Bool.not_false @Bool.not_true) (aI @List.length_map.{0,0} @Bool.bne_false)) (aI (aI @Bool.bne_true @List.isEmpty_cons.{0}) (aI @List.getD_cons_zero.{0} @List.getD_cons_succ.{0}))) (aI (aI (aI @List.getD_nil.{0} @List.contains_nil.{0}) (aI @List.range_zero @List.flatMap_cons.{0,0})) (aI (aI @List.flatMap_nil.{0,0} @List.zip_cons_cons.{0,0}) (aI @List.zip_nil_left.{0,0} @List.zip_nil_right.{0,0}))))))
def ZY:=@Nat.not_lt_zero
def EQA := (aI (aI (aI (aI (aI (aI (aI ZmK ZuV) (aI Zps Zmx)) (aI (aI @exI.eq_1 @nsite.eq_1) (aI @nsite.eq_2 @nsite.eq_3))) (aI (aI (aI @nsite.eq_4 @nsite.eq_5) (aI @nsite.eq_6 @nsite.eq_7)) (aI (aI @nsite.eq_8 @nsite.eq_9) (aI @nsite.eq_10 @nsite.eq_11)))) (aI (aI (aI (aI @freeAt.eq_1 @execI.eq_1) (aI @execI.eq_2 @execI.eq_3)) (aI (aI @execI.eq_4 @execI.eq_5) (aI @execI.eq_6 @execI.eq_7))) (aI (aI (aI @execI.eq_8 @execI.eq_9) (aI @execI.eq_10 @execI.eq_11)) (aI (aI @execI.eq_12 @execI.eq_13) (aI @execI.eq_14 (aI @execI.eq_15 @execI.eq_16)))))) (aI (aI (aI (aI (aI @execI.eq_17 @execI.eq_18) (aI @execI.eq_19 @execI.eq_20)) (aI (aI @execI.eq_21 @execI.eq_22) (aI @execI.eq_23 @execI.eq_24))) (aI (aI (aI @execI.eq_25 @execI.eq_26) (aI @execI.eq_27 @execI.eq_28)) (aI (aI @execI.eq_29 @execI.eq_30) (aI @execI.eq_31 (aI @execI.eq_32 @execI.eq_33))))) (aI (aI (aI (aI @execI.eq_34 @execI.eq_35) (aI @execI.eq_36 @execI.eq_37)) (aI (aI @execI.eq_38 @execI.eq_39) (aI @execI.eq_40 @execI.eq_41))) (aI (aI (aI @execI.eq_42 @execI.eq_43) (aI @execI.eq_44 @execI.eq_45)) (aI (aI @execI.eq_46 @execI.eq_47) (aI @execI.eq_48 (aI @execI.eq_49 @Opd.ev.eq_1))))))) (aI (aI (aI (aI (aI (aI @Opd.ev.eq_2 @tget.eq_1) (aI @tget.eq_2 @tins.eq_1)) (aI (aI @tins.eq_2 @tput.eq_1) (aI @tput.eq_2 @keepL.eq_1))) (aI (aI (aI @sitesOf.eq_1 @resA.eq_1) (aI @resAll.eq_1 @resAll.eq_2)) (aI (aI @resOne.eq_1 @resOne.eq_2) (aI @enterA.eq_1 (aI @enterA.eq_2 @partA.eq_1))))) (aI (aI (aI (aI @partA.eq_2 @faddrA.eq_1) (aI @faddrA.eq_2 @faddrA.eq_3)) (aI (aI @faddrA.eq_4 @setAt.eq_1) (aI @binA.eq_1 @binA.eq_2))) (aI (aI (aI @binA.eq_3 @binA.eq_4) (aI @binA.eq_5 @arithA.eq_1)) (aI (aI @arithA.eq_2 @arithA.eq_3) (aI @arithA.eq_4 (aI @arithA.eq_5 @arithA.eq_6)))))) (aI (aI (aI (aI (aI @arithA.eq_7 @arithA.eq_8) (aI @arithA.eq_9 @arithA.eq_10)) (aI (aI @arithA.eq_11 @arithA.eq_12) (aI @arithA.eq_13 @arithA.eq_14))) (aI (aI (aI @arithA.eq_15 @arithA.eq_16) (aI @ldA.eq_1 @ldA.eq_2)) (aI (aI @ldA.eq_3 @ldA.eq_4) (aI @stA.eq_1 (aI @stA.eq_2 @stA.eq_3))))) (aI (aI (aI (aI @oI.eq_1 @oN.eq_1) (aI @oM.eq_1 @oF.eq_1)) (aI (aI @oL.eq_1 @List.sum_cons.{0}) (aI @List.sum_nil.{0} @eq_self.{1}))) (aI (aI (aI @beq_self_eq_true.{0} @Bool.false_eq_true) (aI @Option.some.injEq.{0} @decide_true)) (aI (aI @decide_false @List.foldl_cons.{0, 0}) (aI @List.foldl_nil.{0, 0} (aI @List.contains_cons.{0} @ne_eq.{1}))))))))
end
end Go.Proofs.YtkoknlginefmgaaDoor
