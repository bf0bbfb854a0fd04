/- packed -/
import Derived.Test.YtcgndmenpdhjcaaMqa1
import Derived.Scope
import Derived.Laws.Cover3
import Derived.Defers
import Derived.Recover
import Derived.Tactics
import Derived.Maps.RangeRun
import Derived.Sort.Row
import Derived.Sort.Grow
import Derived.Test.YtcgndmenpdhjcaaProg
import Derived.Deep.Slices
import Derived.ChangeArms
import Derived.WideShapes
import GoSem.ClaimChange
import Derived.Shelf.Sort.Plain
import Derived.Shelf.Slices.In.SortNone
set_option linter.defProp false
set_option linter.unusedSectionVars false
set_option linter.unusedSimpArgs false
set_option linter.unusedVariables false
namespace Go.Proofs.Ytcgndmenpdhjcaa
set_option maxHeartbeats 16000000
set_option maxRecDepth 10000
section
open Go.RowKit
section
variable {P:Program} {O:Zn} {bf:Nat->Bool} {an:Ann} {base:Nat->Prop} {w0:World} {I0:Imm} {dr:Door}
theorem ZvB {o:AOp} {tm tm1:Tms} {σ σ1:Za} {sq:Nat} {v:AVal} {c:Cls} (ht:o.ins.touches=false) (h:Zg O bf o sq tm σ=some (v,tm1,σ1,c)):c={}:=by
 unfold Zg at h
 split at h
 ·cases h
 ·simp only [Option.some.injEq,Prod.mk.injEq] at h;exact h.2.2.2.symm
 ·split at h
  ·split at h
   ·rename_i he
    simp only [Option.some.injEq,Prod.mk.injEq] at h
    rw [<-h.2.2.2]
    exact (Zvd ht he).1
   ·cases h
  ·cases h
theorem Zeo {i:Ins} (h:i.touches=false):nsite i=0:=by cases i <;> simp [Ins.touches] at h <;> rfl
theorem Zdz {asl:List AOp} {L:Nat} {cs:List Cls}:∀ {l:List Nat} {tm tm':Tms} {σ σ':Za},Zbf O bf asl L cs l tm σ tm' σ'->∀ j ∈ l,(asl.getD j default).ins.touches=false->cs.getD j {}={}
 | [],_,_,_,_,_,j,hj,_=>by simp at hj
 | i::l,_,_,_,_,h,j,hj,ht=>by
  cases h with
  | cons h1 _ h2 =>
   rcases List.mem_cons.1 hj with rfl | hj
   ·exact ZvB ht h1
   ·exact Zdz h2 j hj ht
theorem ZdE (asl:List AOp):∀ {j i:Nat},j < i->i<=asl.length->sitesOf (asl.take j)+nsite (asl.getD j default).ins<=sitesOf (asl.take i):=by
 intro j i hji hi
 induction i with
 | zero=>omega
 | succ i ih =>
  rw [Zhp asl (by omega)]
  by_cases e:j=i
  ·subst e
   simp [List.getD_eq_getElem?_getD,show j < asl.length by omega]
  ·have:=ih (by omega) (by omega);omega
theorem ZnB (hO:ZG P O) (hkp:∀ n ∈ dr.K,n ∈ an.keep) (hb:KLt base w0) {ops:Array Oper} {asl:List AOp} (hcomp:ZaW P an ops ops.toList=some asl) {ps:List (Nat×Nat)} (hps:Zcc asl=some ps) {L:Nat} {cs:List Cls} (hchk:Zbs asl L ps cs=true)
  {tmF:Tms} {σF:Za} {Q:Exit->Act->World->Prop} {I:Imm} {β:Bmap} (hQ:∀ a' w',StR dr an.nt base w0 I0 I β tmF σF a' w'->Q .normal a' w') :
  ∀ (fuel:Nat) (rem:List Nat) (listed:Array Bool) (a:Act) (w:World) (tm:Tms) (σ:Za),Zbf O bf asl L cs rem tm σ tmF σF->rem.Pairwise (· < ·)->(∀ j ∈ rem,j < ops.size)->(∀ j,j < ops.size->(listed.getD j true=true↔j ∉ rem))->listed.size=ops.size ->
   (∀ k,k < ops.size->k ∉ rem->∀ p ∈ (ZaO (asl.map (·.after)) []).getD k [],p ∉ rem)->rem.length=fuel->StR dr an.nt base w0 I0 I β tm σ a w->wpAny P .any ops Q fuel listed a w:=by
 obtain ⟨hlen,hget⟩:=Zej hcomp
 obtain ⟨hp1,hp2⟩:=Zim hps
 obtain ⟨_,_,hanc⟩:=ZgW (asl.map (·.after)) [] (fun _ _ _=>trivial)
 simp only [Array.length_toList] at hlen
 have hafter:∀ j o,ops[j]?=some o->∃ ao,asl.getD j default=ao/\Zc5 P an ops o=some ao/\ao.after=(o.after.toList.filter (Region.binds .any)).map (·.on)/\ao.dst=o.dst:=by
  intro j o ho
  obtain ⟨ao,h1,h2⟩:=hget j o (by simpa using ho)
  refine ⟨ao,by simp [List.getD_eq_getElem?_getD,h1],h2,?_⟩
  obtain ⟨g,i,_,_,_,rfl⟩:=ZgI h2
  exact ⟨rfl,rfl⟩
 intro fuel
 induction fuel with
 | zero =>
  intro rem listed a w tm σ hr hs hlt hl hsz hcl hfl hst
  have : rem=[]:=List.eq_nil_of_length_eq_zero hfl
  subst this
  cases hr
  refine ⟨?_,hQ a w hst⟩
  apply List.eq_nil_iff_forall_not_mem.2
  intro j hj
  rw [mem_ready] at hj
  obtain ⟨h1,o,ho,_⟩:=hj
  have hjl:j < ops.size:=(Array.getElem?_eq_some_iff.1 ho).1
  have:=(hl j hjl).2 (by simp)
  rw [h1] at this;cases this
 | succ fuel ih =>
  intro rem listed a w tm σ hr hs hlt hl hsz hcl hfl hst
  have isRem:∀ j,j < ops.size->listed.getD j true=false->j ∈ rem:=by
   intro j hj h
   by_cases hm:j ∈ rem
   ·exact hm
   ·have:=(hl j hj).2 hm;rw [h] at this;cases this
  have getD_tf:∀ j,j < ops.size->listed.getD j false=listed.getD j true:=by
   intro j hj
   simp [Array.getD,hsz,hj]
  refine ⟨fun hnil=>?_,fun i hi=>?_⟩
  ·exfalso
   cases rem with
   | nil=>simp at hfl
   | cons r rs =>
    have hrl:r < ops.size:=hlt r (by simp)
    have hro:ops[r]?=some ops[r]:=by simp [hrl]
    obtain ⟨ao,e1,e2,e3,_⟩:=hafter r _ hro
    have : r ∈ Region.ready .any ops listed:=by
     rw [mem_ready]
     refine ⟨?_,ops[r],hro,fun e he hbnd=>?_⟩
     ·cases hq:listed.getD r true with
      | false=>rfl
      | true=>exact absurd (List.mem_cons_self) ((hl r hrl).1 hq)
     ·have hon:e.on ∈ ao.after:=by rw [e3];exact List.mem_map.2 ⟨e,List.mem_filter.2 ⟨by simpa using he,hbnd⟩,rfl⟩
      have hlt':e.on < r:=hp2 r (by omega) e.on (by rw [e1];exact hon)
      rw [getD_tf _ (by omega)]
      refine (hl e.on (by omega)).2 (fun hm=>?_)
      rcases List.mem_cons.1 hm with h | hm
      ·omega
      ·have:=(List.pairwise_cons.1 hs).1 e.on hm;omega
    rw [hnil] at this;simp at this
  ·rw [mem_ready] at hi
   obtain ⟨hi0,o,ho,hpre⟩:=hi
   have hil:i < ops.size:=(Array.getElem?_eq_some_iff.1 ho).1
   have him:=isRem i hil hi0
   obtain ⟨l1,l2,rfl⟩:=List.append_of_mem him
   obtain ⟨ao,e1,e2,e3,e4⟩:=hafter i o ho
   have hdone:∀ p ∈ (asl.getD i default).after,p < ops.size->p ∉ l1++i::l2:=by
    intro p hp hpl
    rw [e1,e3] at hp
    obtain ⟨e,he,rfl⟩:=List.mem_map.1 hp
    obtain ⟨he1,he2⟩:=List.mem_filter.1 he
    have:=hpre e (by simpa using he1) he2
    rw [getD_tf _ hpl] at this
    exact (hl e.on hpl).1 this
   have hai:(asl.map (·.after)).getD i []=(asl.getD i default).after:=by
    simp [List.getD_eq_getElem?_getD,show i < asl.length by omega]
   have hanci:∀ p ∈ (ZaO (asl.map (·.after)) []).getD i [],p ∉ l1++i::l2:=by
    intro p hp
    have hap:∀ q,q ∈ (asl.map (·.after)).getD i []->q < i:=fun q hq=>hp2 i (by omega) q (by rw [<-hai];exact hq)
    rcases hanc i (by simp;omega) p (by simpa using hp) with h | ⟨q,h1,h2,h3⟩
    ·exact hdone p (by rw [<-hai];exact h) (by have:=hap p h;omega)
    ·have hql:q < ops.size:=by simp at h2;omega
     exact hcl q hql (hdone q (by rw [<-hai];exact h1) hql) p h3
   have hl1:∀ j ∈ l1,j < i:=by
    intro j hj
    have:=List.pairwise_append.1 hs
    exact this.2.2 j hj i (by simp)
   obtain ⟨v1,tm1,σ1,h1,hnp1,h2⟩:=ZgA (l1:=l1) (i:=i) (fun j hj=>by
    have hji:=hl1 j hj
    have hjn:j ∉ (ZaO (asl.map (·.after)) []).getD i []:=fun hm=>hanci j hm (by simp [hj])
    obtain ⟨p1,p2⟩:=hp1 j i hji (by omega) hjn
    refine ⟨p1,?_,fun hn _=>?_,?_⟩
    ·rcases p2 with p2 | p2 | p2
     ·have:=Zdz hr j (by simp [hj]) p2
      have hem:ZaY (asl.getD j default) (cs.getD j {})=true:=by rw [this];simp only [ZaY,Zeo p2];rfl
      simp only [Za3,hem,Bool.true_or]
     ·have:=Zdz hr i (by simp) p2
      have hem:ZaY (asl.getD i default) (cs.getD i {})=true:=by rw [this];simp only [ZaY,Zeo p2];rfl
      simp only [Za3,hem,Bool.true_or,Bool.or_true]
     ·have:=List.all_eq_true.1 hchk (j,i) p2
      simp only [Bool.or_eq_true,beq_iff_eq] at this
      rcases this with h | h
      ·omega
      ·exact h
    ·have:=ZdE asl hji (by omega)
     omega
    ·have:=ZdE asl hji (by omega)
     omega) hr
   unfold wpOp
   rw [ho]
   rw [e1] at h1
   obtain ⟨I',β',g1,g2,g3,g4,g5⟩:=hst
   refine Zdy hO hkp e2 g3 g4 g5 hb h1 (fun _ a' w' hs'=>ih (l1++l2) _ a' w' tm1 σ1 h2 ?_ ?_ ?_ (by simpa using hsz) ?_ ?_ (hs'.trans g1 g2)) (fun x e=>absurd e (hnp1 x))
   ·have:=List.pairwise_append.1 hs
    exact List.pairwise_append.2 ⟨this.1,(List.pairwise_cons.1 this.2.1).2,fun x hx y hy=>this.2.2 x hx y (by simp [hy])⟩
   ·intro j hj
    refine hlt j ?_
    simp only [List.mem_append,List.mem_cons] at hj ⊢
    rcases hj with h | h
    ·exact Or.inl h
    ·exact Or.inr (Or.inr h)
   ·intro j hj
    have hs1:=List.pairwise_append.1 hs
    by_cases hij:i=j
    ·subst hij
     have hn:i ∉ l1++l2:=by
      intro hm
      rcases List.mem_append.1 hm with h | h
      ·have:=hl1 i h;omega
      ·have:=(List.pairwise_cons.1 hs1.2.1).1 i h;omega
     simp [Array.getD,hsz,hil,hn]
    ·rw [getD_set_ne true hij,hl j hj]
     simp only [List.mem_append,List.mem_cons,not_or]
     constructor
     ·rintro ⟨a1,_,a3⟩;exact ⟨a1,a3⟩
     ·rintro ⟨a1,a3⟩;exact ⟨a1,fun e=>hij e.symm,a3⟩
   ·intro k hk hkn p hp hm
    have hsub:p ∈ l1++i::l2:=by
     simp only [List.mem_append,List.mem_cons] at hm ⊢
     rcases hm with h | h
     ·exact Or.inl h
     ·exact Or.inr (Or.inr h)
    by_cases hki:k=i
    ·subst hki;exact hanci p hp hsub
    ·refine hcl k hk (fun hkm=>hkn ?_) p hp hsub
     simp only [List.mem_append,List.mem_cons] at hkm ⊢
     rcases hkm with h | h | h
     ·exact Or.inl h
     ·exact absurd h hki
     ·exact Or.inr h
   ·simp at hfl ⊢;omega
theorem Zj2 (hO:ZG P O) (hkp:∀ n ∈ dr.K,n ∈ an.keep) (hb:KLt base w0) {ops:Array Oper} {asl:List AOp} (hcomp:ZaW P an ops ops.toList=some asl) {ps:List (Nat×Nat)} (hps:Zcc asl=some ps) {L:Nat} {cs:List Cls} {jp:Nat} (hjl:jp < ops.size) (hmark:(jp,jp) ∈ ps) (hmarkT:(asl.getD jp default).ins.touches=true) (hfree:∀ j i,(j,i) ∈ ps->j < i->i<=jp->Za3 (asl.getD j default) (asl.getD i default) (cs.getD j {}) (cs.getD i {}) (L+sitesOf (asl.take j))=true) (hquiet:∀ j,(j,jp) ∈ ps->j < jp->ZbK (asl.getD j default).ins=true)
  {x:AVal} {σF:Za} {Q:Exit->Act->World->Prop} {I:Imm} {β:Bmap} (hQ:∀ a' u w',dr.ok a'->Post base w0 I0 I β x σF u w'->Q (.panic [{ v:=u,recovered:=false }]) a' w') :
  ∀ (fuel:Nat) (pre post:List Nat) (listed:Array Bool) (a:Act) (w:World) (tm tmJ tmX:Tms) (σ σJ:Za),Zbf O bf asl L cs pre tm σ tmJ σJ->Zg O bf (asl.getD jp default) (L+sitesOf (asl.take jp)) tmJ σJ=some (.pan x,tmX,σF,cs.getD jp {})->(pre++jp::post).Pairwise (· < ·)->(∀ j ∈ pre++jp::post,j < ops.size)->(∀ j,j < ops.size->(listed.getD j true=true↔j ∉ pre++jp::post))->listed.size=ops.size ->
   (∀ k,k < ops.size->k ∉ pre++jp::post->∀ p ∈ (ZaO (asl.map (·.after)) []).getD k [],p ∉ pre++jp::post)->(pre++jp::post).length=fuel->StR dr an.nt base w0 I0 I β tm σ a w->wpAny P .any ops Q fuel listed a w:=by
 obtain ⟨hlen,hget⟩:=Zej hcomp
 obtain ⟨hp1,hp2⟩:=Zim hps
 have hmk:=ZmQ hps hmark
 obtain ⟨_,_,hanc⟩:=ZgW (asl.map (·.after)) [] (fun _ _ _=>trivial)
 simp only [Array.length_toList] at hlen
 have hafter:∀ j o,ops[j]?=some o->∃ ao,asl.getD j default=ao/\Zc5 P an ops o=some ao/\ao.after=(o.after.toList.filter (Region.binds .any)).map (·.on)/\ao.dst=o.dst:=by
  intro j o ho
  obtain ⟨ao,h1,h2⟩:=hget j o (by simpa using ho)
  refine ⟨ao,by simp [List.getD_eq_getElem?_getD,h1],h2,?_⟩
  obtain ⟨g,i,_,_,_,rfl⟩:=ZgI h2
  exact ⟨rfl,rfl⟩
 intro fuel
 induction fuel with
 | zero =>
  intro pre post listed a w tm tmJ tmX σ σJ hr hj hs hlt hl hsz hcl hfl hst
  simp at hfl
 | succ fuel ih =>
  intro pre post listed a w tm tmJ tmX σ σJ hr hj hs hlt hl hsz hcl hfl hst
  have getD_tf:∀ j,j < ops.size->listed.getD j false=listed.getD j true:=by
   intro j hj
   simp [Array.getD,hsz,hj]
  have isRem:∀ j,j < ops.size->listed.getD j true=false->j ∈ pre++jp::post:=by
   intro j hj h
   by_cases hm:j ∈ pre++jp::post
   ·exact hm
   ·have:=(hl j hj).2 hm;rw [h] at this;cases this
  refine ⟨fun hnil=>?_,fun i hi=>?_⟩
  ·exfalso
   obtain ⟨r,rs,hrr⟩:∃ r rs,pre++jp::post=r::rs:=by cases pre <;> simp
   rw [hrr] at hs hlt hl
   have hrl:r < ops.size:=hlt r (by simp)
   have hro:ops[r]?=some ops[r]:=by simp [hrl]
   obtain ⟨ao,e1,e2,e3,_⟩:=hafter r _ hro
   have : r ∈ Region.ready .any ops listed:=by
    rw [mem_ready]
    refine ⟨?_,ops[r],hro,fun e he hbnd=>?_⟩
    ·cases hq:listed.getD r true with
     | false=>rfl
     | true=>exact absurd (List.mem_cons_self) ((hl r hrl).1 hq)
    ·have hon:e.on ∈ ao.after:=by rw [e3];exact List.mem_map.2 ⟨e,List.mem_filter.2 ⟨by simpa using he,hbnd⟩,rfl⟩
     have hlt':e.on < r:=hp2 r (by omega) e.on (by rw [e1];exact hon)
     rw [getD_tf _ (by omega)]
     refine (hl e.on (by omega)).2 (fun hm=>?_)
     rcases List.mem_cons.1 hm with h | hm
     ·omega
     ·have:=(List.pairwise_cons.1 hs).1 e.on hm;omega
   rw [hnil] at this;simp at this
  ·rw [mem_ready] at hi
   obtain ⟨hi0,o,ho,hpre⟩:=hi
   have hil:i < ops.size:=(Array.getElem?_eq_some_iff.1 ho).1
   have him:=isRem i hil hi0
   obtain ⟨ao,e1,e2,e3,e4⟩:=hafter i o ho
   have hdone:∀ p ∈ (asl.getD i default).after,p < ops.size->p ∉ pre++jp::post:=by
    intro p hp hpl
    rw [e1,e3] at hp
    obtain ⟨e,he,rfl⟩:=List.mem_map.1 hp
    obtain ⟨he1,he2⟩:=List.mem_filter.1 he
    have:=hpre e (by simpa using he1) he2
    rw [getD_tf _ hpl] at this
    exact (hl e.on hpl).1 this
   have hai:(asl.map (·.after)).getD i []=(asl.getD i default).after:=by
    simp [List.getD_eq_getElem?_getD,show i < asl.length by omega]
   have hanci:∀ p ∈ (ZaO (asl.map (·.after)) []).getD i [],p ∉ pre++jp::post:=by
    intro p hp
    have hap:∀ q,q ∈ (asl.map (·.after)).getD i []->q < i:=fun q hq=>hp2 i (by omega) q (by rw [<-hai];exact hq)
    rcases hanc i (by simp;omega) p (by simpa using hp) with h | ⟨q,h1,h2,h3⟩
    ·exact hdone p (by rw [<-hai];exact h) (by have:=hap p h;omega)
    ·have hql:q < ops.size:=by simp at h2;omega
     exact hcl q hql (hdone q (by rw [<-hai];exact h1) hql) p h3
   have hss:=List.pairwise_append.1 hs
   rw [List.mem_append,List.mem_cons] at him
   rcases him with him | hij | him
   ·obtain ⟨l1,l2,rfl⟩:=List.append_of_mem him
    have hl1:∀ j ∈ l1,j < i:=by
     intro j hj
     exact (List.pairwise_append.1 hss.1).2.2 j hj i (by simp)
    have hijp:i < jp:=hss.2.2 i (by simp) jp (by simp)
    obtain ⟨v1,tm1,σ1,h1,hnp1,h2⟩:=ZgA (l1:=l1) (i:=i) (fun j hj'=>by
     have hji:=hl1 j hj'
     have hjn:j ∉ (ZaO (asl.map (·.after)) []).getD i []:=fun hm=>hanci j hm (by simp [hj'])
     obtain ⟨p1,p2⟩:=hp1 j i hji (by omega) hjn
     refine ⟨p1,?_,fun hn _=>?_,?_⟩
     ·rcases p2 with p2 | p2 | p2
      ·have:=Zdz hr j (by simp [hj']) p2
       have hem:ZaY (asl.getD j default) (cs.getD j {})=true:=by rw [this];simp only [ZaY,Zeo p2];rfl
       simp only [Za3,hem,Bool.true_or]
      ·have:=Zdz hr i (by simp) p2
       have hem:ZaY (asl.getD i default) (cs.getD i {})=true:=by rw [this];simp only [ZaY,Zeo p2];rfl
       simp only [Za3,hem,Bool.true_or,Bool.or_true]
      ·exact hfree j i p2 hji (by omega)
     ·have:=ZdE asl hji (by omega)
      omega
     ·have:=ZdE asl hji (by omega)
      omega) hr
    have eA:(l1++i::l2)++jp::post=l1++i::(l2++jp::post):=by simp
    have eB:(l1++l2)++jp::post=l1++(l2++jp::post):=by simp
    rw [eA] at hs hlt hl hcl hanci hfl
    unfold wpOp
    rw [ho]
    rw [e1] at h1
    obtain ⟨I',β',g1,g2,g3,g4,g5⟩:=hst
    refine Zdy hO hkp e2 g3 g4 g5 hb h1 (fun _ a' w' hs'=>ih (l1++l2) post _ a' w' tm1 tmJ tmX σ1 σJ h2 hj ?_ ?_ ?_ (by simpa using hsz) ?_ ?_ (hs'.trans g1 g2)) (fun x e=>absurd e (hnp1 x))
    ·rw [eB]
     have:=List.pairwise_append.1 hs
     exact List.pairwise_append.2 ⟨this.1,(List.pairwise_cons.1 this.2.1).2,fun x hx y hy=>this.2.2 x hx y (by simp only [List.mem_cons];exact Or.inr hy)⟩
    ·intro j hj
     rw [eB] at hj
     refine hlt j ?_
     simp only [List.mem_append,List.mem_cons] at hj ⊢
     rcases hj with h | h | h | h
     ·exact Or.inl h
     ·exact Or.inr (Or.inr (Or.inl h))
     ·exact Or.inr (Or.inr (Or.inr (Or.inl h)))
     ·exact Or.inr (Or.inr (Or.inr (Or.inr h)))
    ·intro j hj
     rw [eB]
     generalize l2++jp::post=L2 at *
     have hs1:=List.pairwise_append.1 hs
     by_cases hij:i=j
     ·subst hij
      have hn:i ∉ l1++L2:=by
       intro hm
       rcases List.mem_append.1 hm with h | h
       ·have:=hl1 i h;omega
       ·have:=(List.pairwise_cons.1 hs1.2.1).1 i h;omega
      simp [Array.getD,hsz,hil,hn]
     ·rw [getD_set_ne true hij,hl j hj]
      simp only [List.mem_append,List.mem_cons,not_or]
      constructor
      ·rintro ⟨a1,_,a3⟩;exact ⟨a1,a3⟩
      ·rintro ⟨a1,a3⟩;exact ⟨a1,fun e=>hij e.symm,a3⟩
    ·intro k hk hkn p hp hm
     rw [eB] at hkn hm
     generalize l2++jp::post=L2 at *
     have hsub:p ∈ l1++i::L2:=by
      simp only [List.mem_append,List.mem_cons] at hm ⊢
      rcases hm with h | h
      ·exact Or.inl h
      ·exact Or.inr (Or.inr h)
     by_cases hki:k=i
     ·subst hki;exact hanci p hp hsub
     ·refine hcl k hk (fun hkm=>hkn ?_) p hp hsub
      simp only [List.mem_append,List.mem_cons] at hkm ⊢
      rcases hkm with h | h | h
      ·exact Or.inl h
      ·exact absurd h hki
      ·exact Or.inr h
    ·rw [eB];simp at hfl ⊢;omega
   ·subst hij
    have hl1:∀ j ∈ pre,j < i:=fun j hj=>hss.2.2 j hj i (by simp)
    obtain ⟨tm1,h1⟩:=ZhX (l1:=pre) (i:=i) (fun j hj'=>by
     have hji:=hl1 j hj'
     have hjn:j ∉ (ZaO (asl.map (·.after)) []).getD i []:=fun hm=>hanci j hm (by simp [hj'])
     obtain ⟨p1,p2⟩:=hp1 j i hji (by omega) hjn
     have hts:(asl.getD i default).ins.touches=false->False:=fun h=>by
      have:=hmarkT
      rw [h] at this;cases this
     refine ⟨?_,p1,?_,fun hn _=>?_,?_⟩
     ·rcases p2 with p2 | p2 | p2
      ·exact Or.inl p2
      ·exact (hts p2).elim
      ·exact Or.inr (hquiet j p2 hji)
     ·rcases p2 with p2 | p2 | p2
      ·have:=Zdz hr j hj' p2
       have hem:ZaY (asl.getD j default) (cs.getD j {})=true:=by rw [this];simp only [ZaY,Zeo p2];rfl
       simp only [Za3,hem,Bool.true_or]
      ·exact (hts p2).elim
      ·exact hfree j i p2 hji (Nat.le_refl _)
     ·have:=ZdE asl hji (by omega)
      omega
     ·have:=ZdE asl hji (by omega)
      omega) hr hj
    unfold wpOp
    rw [ho]
    rw [e1] at h1
    obtain ⟨I',β',g1,g2,g3,g4,g5⟩:=hst
    refine Zdy hO hkp e2 g3 g4 g5 hb h1 (fun hn=>absurd rfl (hn x)) (fun x' e u w' hp=>?_)
    injection e with e
    subst e
    exact hQ a u w' g4.1 (hp.trans g1 g2)
   ·exfalso
    have hlt2:jp < i:=(List.pairwise_cons.1 hss.2.1).1 i him
    exact hanci jp (hmk i hlt2 (by omega)) (by simp)
theorem Rel.reserve {I:Imm} {β:Bmap} {σ:Za} {w:World} (R:Rel base w0 I0 I β σ w) (n:Nat):Rel base w0 I0 I β (σ++List.replicate n .free) w:=by
 have look:∀ t x,(σ++List.replicate n Zs.free)[t]?=some x->σ[t]?=some x\/(σ.length<=t/\x=.free):=by
  intro t x h
  by_cases ht:t < σ.length
  ·rw [List.getElem?_append_left ht] at h;exact Or.inl h
  ·rw [List.getElem?_append_right (by omega)] at h
   refine Or.inr ⟨by omega,?_⟩
   have:=List.mem_of_getElem? h
   exact List.eq_of_mem_replicate this
 refine ⟨R.below,R.old,R.imm,?_,?_,?_,?_,?_,?_,R.glob⟩
 ·intro t x h
  rcases look t x h with h | ⟨_,rfl⟩
  ·exact R.blk t x h
  ·trivial
 ·intro t x b h hb
  rcases look t x h with h | ⟨_,rfl⟩
  ·exact R.own t x b h hb
  ·cases hb
 ·intro t x t' x' b h h' hb hb'
  rcases look t x h with h | ⟨_,rfl⟩
  ·rcases look t' x' h' with h' | ⟨_,rfl⟩
   ·exact R.apart t x t' x' b h h' hb hb'
   ·cases hb'
  ·cases hb
 ·intro t g h
  exact R.fresh t g (by simp at h;omega)
 ·intro t g h
  rcases look t _ h with h | ⟨h,_⟩
  ·exact R.free t g h
  ·exact R.fresh t g h
 ·intro t x g h hg
  rcases look t _ h with h | ⟨h,_⟩
  ·exact R.gen t x g h hg
  ·exact R.fresh t g h
theorem StR.keep {I:Imm} {β:Bmap} {tm:Tms} {σ:Za} {a:Act} {w:World} (h:StR dr an.nt base w0 I0 I β tm σ a w) (live:List Nat):StR dr an.nt base w0 I0 I β (keepL live tm) σ a w:=by
 obtain ⟨I',β',h1,h2,h3,h4⟩:=h
 exact ⟨I',β',h1,h2,h3.keep live,h4⟩
def Zvn (dr:Door) (an:Ann) (base:Nat->Prop) (w0:World) (I0 I:Imm) (β:Bmap) (e:ZM) (tm:Tms) (σ:Za) (Q:Exit->Act->World->Prop):Prop:=match e with
 | .normal=>∀ a w,StR dr an.nt base w0 I0 I β tm σ a w->Q .normal a w
 | .exit id=>∀ a w,StR dr an.nt base w0 I0 I β tm σ a w->Q (.exit id) a w
 | .ret=>∀ a w,StR dr an.nt base w0 I0 I β tm σ a w->Q .ret a w
 | .panic x=>∀ a u w,dr.ok a->Post base w0 I0 I β x σ u w->Q (.panic [{ v:=u,recovered:=false }]) a w
theorem ZkQ (hO:ZG P O) (hkp:∀ n ∈ dr.K,n ∈ an.keep) (hm:P.follows .mixedOrders=true) (hb:KLt base w0) {id:Nat} {ops:Array Oper} {draw:Bool} {asl:List AOp} {chk:Option (List (Nat×Nat))} {live:List Nat} (hc:ZO P an (.region id ops draw)=.region asl chk live) {I:Imm} {β:Bmap} {tm tm':Tms} {σ σ':Za} {a:Act} {w:World} {e:ZM}
  (hst:StR dr an.nt base w0 I0 I β tm σ a w) (h:Za5 O bf asl chk live tm σ=some (e,tm',σ')) {Q:Exit->Act->World->Prop} (hQ:Zvn dr an base w0 I0 I β e tm' σ' Q):(Code.region id ops draw).wp P Q a w:=by
 obtain ⟨I1,β1,g1,g2,g3,g4,g5⟩:=hst
 simp only [ZO] at hc
 split at hc
 ·rename_i l hl
  unfold Za5 at h
  split at hc
  ·rename_i hd
   subst hd
   split at hc
   ·rename_i ps hps
    simp only [Zi.region.injEq] at hc
    obtain ⟨rfl,rfl,rfl⟩:=hc
    cases hrun:Zl O bf l σ.length tm (σ++List.replicate (sitesOf l) .free) with
    | none=>rw [hrun] at h;simp only [ZbN] at h;cases h
    | some q =>
     obtain ⟨tm1,σ1,cs,p⟩:=q
     rw [hrun] at h
     cases p with
     | some x =>
      simp only [ZbN] at h
      split at h
      ·rename_i hpan
       simp only [Option.some.injEq,Prod.mk.injEq] at h
       obtain ⟨rfl,rfl,rfl⟩:=h
       have hlen:=(Zej hl).1
       simp only [Array.length_toList] at hlen
       obtain ⟨n,tmJ,σJ,tmX,q1,q2,q3,q4⟩:=Zij (O:=O) (bf:=bf) (ops:=l) (L:=σ.length) l.length 0 (cs:=cs) (cs':=cs) (by omega) (by simpa [sitesOf] using hrun) (fun j=>by simp)
       rw [Nat.zero_add] at q4
       unfold Zds at hpan
       rw [q2] at hpan
       simp only [Bool.and_eq_true,List.any_eq_true,List.all_eq_true,Bool.or_eq_true,beq_iff_eq,decide_eq_true_eq,Nat.add_sub_cancel] at hpan
       obtain ⟨⟨pm,hpm,hm1,hm2⟩,hall⟩:=hpan
       have hmk:(n,n) ∈ ps:=by
        obtain ⟨a1,a2⟩:=pm
        simp only at hm1 hm2
        subst hm1 hm2
        exact hpm
       have hT:(l.getD n default).ins.touches=true:=ZrK hps hmk
       refine wp_region_any hm (Zj2 hO hkp hb hl hps (jp:=n) (by omega) hmk hT (fun j i hji h1 h2=>?_) (fun j hj h1=>?_) (I:=I) (β:=β) (x:=x) (fun a' u w' hd' hp=>hQ a' u w' hd' hp) ops.size (List.range' 0 n) (List.range' (n+1) (l.length - n - 1)) _ a _ tm tmJ tmX _ σJ q3 q4 ?_ ?_ ?_ (by simp) ?_ (by simp;omega) ⟨I1,β1,g1,g2,g3,g4,(g5.reserve _).same rfl rfl rfl rfl⟩)
       ·rcases hall (j,i) hji with (h | h) | ⟨h,_⟩
        ·simp only at h;omega
        ·simp only at h;omega
        ·exact h
       ·rcases hall (j,n) hj with (h | h) | ⟨_,h⟩
        ·simp only at h;omega
        ·simp only at h;omega
        ·rcases h with h | h
         ·simp only at h;omega
         ·exact h
       ·have e:List.range' 0 n++n::List.range' (n+1) (l.length - n - 1)=List.range' 0 l.length:=by
         rw [<-List.range'_succ]
         have:=List.range'_append_1 (s:=0) (m:=n) (n:=l.length - n - 1+1)
         rw [Nat.zero_add] at this
         rw [this]
         congr 1
         omega
        rw [e];exact List.pairwise_lt_range'
       ·intro j hj;simp at hj;omega
       ·intro j hj
        simp [Array.getD,hj]
        omega
       ·intro k hk hkn
        exact absurd (by simp;omega) hkn
      ·cases h
     | none =>
      simp only [ZbN] at h
      split at h
      ·rename_i hchk
       simp only [Option.some.injEq,Prod.mk.injEq] at h
       obtain ⟨rfl,rfl,rfl⟩:=h
       have hlen:=(Zej hl).1
       simp only [Array.length_toList] at hlen
       have hr:=ZiY (O:=O) (bf:=bf) (ops:=l) (L:=σ.length) l.length 0 (cs:=cs) (cs':=cs) (by omega) (by simpa [sitesOf] using hrun) (fun j=>by simp)
       refine wp_region_any hm (ZnB hO hkp hb hl hps hchk (I:=I) (β:=β) (fun a' w' hs=>hQ a' w' (hs.keep _)) ops.size (List.range' 0 l.length) _ a _ tm _ hr ?_ ?_ ?_ (by simp) ?_ (by simp [hlen]) ⟨I1,β1,g1,g2,g3,g4,(g5.reserve _).same rfl rfl rfl rfl⟩)
       ·exact List.pairwise_lt_range'
       ·intro j hj;simp at hj;omega
       ·intro j hj
        simp [Array.getD,hj,hlen]
       ·intro k hk hkn
        exact absurd (by simp;omega) hkn
      ·cases h
   ·cases hc
  ·rename_i hd
   simp only [Zi.region.injEq] at hc
   obtain ⟨rfl,rfl,rfl⟩:=hc
   have hdf:draw=false:=by cases draw <;> simp_all
   subst hdf
   cases hrun:Zl O bf l σ.length tm (σ++List.replicate (sitesOf l) .free) with
   | none=>rw [hrun] at h;simp only [ZbN] at h;cases h
   | some q =>
    obtain ⟨tm1,σ1,cs,p⟩:=q
    rw [hrun] at h
    cases p with
    | none =>
     simp only [ZbN,Option.some.injEq,Prod.mk.injEq] at h
     obtain ⟨rfl,rfl,rfl⟩:=h
     exact wp_region_list (Zf3 hO hkp hb hl g3 g4 (g5.reserve _) hrun (fun _ a' w' hs=>hQ a' w' ((hs.trans g1 g2).keep _)) (fun x hx=>by cases hx))
    | some x =>
     simp only [ZbN,Option.some.injEq,Prod.mk.injEq] at h
     obtain ⟨rfl,rfl,rfl⟩:=h
     exact wp_region_list (Zf3 hO hkp hb hl g3 g4 (g5.reserve _) hrun (fun hx=>by cases hx) (fun x' hx a' u w' hd' hp=>by
      injection hx with hx;subst hx
      exact hQ a' u w' hd' (hp.trans g1 g2)))
 ·cases hc
end
end
section
open Go.RowKit
section
variable {P:Program} {O:Zn} {bf:Nat->Bool} {an:Ann} {base:Nat->Prop} {w0:World} {I0:Imm} {dr:Door}
def StF (dr:Door) (m nt:Nat) (base:Nat->Prop) (w0:World) (I0 I:Imm) (β:Bmap) (tm:Tms) (σ:Za) (a:Act) (w:World):Prop :=
 ∃ I' β',I.le I'/\KeptE m β β'/\TR I' β' tm a.tmps/\(dr.ok a/\nt<=a.tmps.size)/\Rel base w0 I0 I' β' σ w
def ZrT (dr:Door) (m:Nat) (an:Ann) (base:Nat->Prop) (w0:World) (I0 I:Imm) (β:Bmap) (e:ZM) (tm:Tms) (σ:Za) (Q:Exit->Act->World->Prop):Prop:=match e with
 | .normal=>∀ a w,StF dr m an.nt base w0 I0 I β tm σ a w->Q .normal a w
 | .exit id=>∀ a w,StF dr m an.nt base w0 I0 I β tm σ a w->Q (.exit id) a w
 | .ret=>∀ a w,StF dr m an.nt base w0 I0 I β tm σ a w->Q .ret a w
 | .panic x=>∀ a u w,dr.ok a->Za4 m base w0 I0 I β (.pan x) σ u w->Q (.panic [{ v:=u,recovered:=false }]) a w
theorem StF.cond {m:Nat} {I:Imm} {β:Bmap} {tm:Tms} {σ:Za} {a:Act} {w:World} (h:StF dr m an.nt base w0 I0 I β tm σ a w) {c:Operand} {y:Opd} (hc:Zv c=some y) {b:Bool} (hv:y.ev tm=.bool b):a.eval c=.bool b:=by
 obtain ⟨I',β',_,_,T,_,_⟩:=h
 have:=Zw T hc
 rw [hv] at this
 simpa only [VR] using this
theorem Ze7 (hO:ZG P O) (hkp:∀ n ∈ dr.K,n ∈ an.keep) (hm:P.follows .mixedOrders=true) (hb:KLt base w0) (m n:Nat):∀ {c:Code} {ac:Zi},ZO P an c=ac->∀ {I:Imm} {β:Bmap} {tm tm':Tms} {σ σ':Za} {a:Act} {w:World} {e:ZM},StF dr m an.nt base w0 I0 I β tm σ a w->Zq O bf m n ac tm σ=some (e,tm',σ') ->
  ∀ {Q:Exit->Act->World->Prop},ZrT dr m an base w0 I0 I β e tm' σ' Q->c.wp P Q a w:=by
 intro c
 induction c with
 | skip =>
  intro ac hc I β tm tm' σ σ' a w e hst h Q hQ
  simp only [ZO] at hc;subst hc
  simp only [Zq,Option.some.injEq,Prod.mk.injEq] at h
  obtain ⟨rfl,rfl,rfl⟩:=h
  exact wp_skip (hQ a w hst)
 | region id ops draw =>
  intro ac hc I β tm tm' σ σ' a w e hst h Q hQ
  obtain ⟨asl,chk,live,rfl⟩:∃ asl chk live,ac=.region asl chk live:=by
   simp only [ZO] at hc
   split at hc
   ·split at hc
    ·split at hc
     ·exact ⟨_,_,_,hc.symm⟩
     ·subst hc;simp only [Zq] at h;cases h
    ·exact ⟨_,_,_,hc.symm⟩
   ·subst hc;simp only [Zq] at h;cases h
  simp only [Zq] at h
  obtain ⟨I1,β1,g1,g2,g3,g4,g5⟩:=hst
  have up:∀ {tm:Tms} {σ:Za} {a':Act} {w':World},StR dr an.nt base w0 I0 I1 β1 tm σ a' w'->StF dr m an.nt base w0 I0 I β tm σ a' w':=by
   rintro tm σ a' w' ⟨I2,β2,k1,k2,k3⟩
   exact ⟨I2,β2,g1.trans k1,g2.trans (KeptE.of_le k2),k3⟩
  refine ZkQ hO hkp hm hb hc (⟨I1,β1,Imm.le.refl I1,Bmap.le.refl β1,g3,g4,g5⟩:StR dr an.nt base w0 I0 I1 β1 tm σ a w) h ?_
  cases e with
  | normal=>exact fun a' w' hs=>hQ a' w' (up hs)
  | exit id=>exact fun a' w' hs=>hQ a' w' (up hs)
  | ret=>exact fun a' w' hs=>hQ a' w' (up hs)
  | panic x =>
   rintro a' u w' hd ⟨I2,β2,k1,k2,k3,k4⟩
   exact hQ a' u w' hd ⟨I2,β2,g1.trans k1,g2.trans (KeptE.of_le k2),k3,k4⟩
 | seq x y ihx ihy =>
  intro ac hc I β tm tm' σ σ' a w e hst h Q hQ
  simp only [ZO] at hc
  subst hc
  simp only [Zq] at h
  refine wp_seq ?_
  split at h
  ·rename_i tm1 σ1 h1
   exact ihx rfl hst h1 (fun a' w' hs=>ihy rfl hs h hQ)
  ·rename_i hne
   refine ihx rfl hst h ?_
   cases e with
   | normal=>exact absurd h (hne _ _)
   | exit id=>exact hQ
   | ret=>exact hQ
   | panic x=>exact hQ
 | cond c x y ihx ihy =>
  intro ac hc I β tm tm' σ σ' a w e hst h Q hQ
  simp only [ZO] at hc
  split at hc
  ·rename_i c' hcc
   subst hc
   simp only [Zq] at h
   split at h
   ·rename_i hv
    exact wp_cond_true (hst.cond hcc hv) (ihx rfl hst h hQ)
   ·rename_i hv
    exact wp_cond_false (hst.cond hcc hv) (ihy rfl hst h hQ)
   ·cases h
  ·subst hc;simp only [Zq] at h;cases h
 | block id x ih =>
  intro ac hc I β tm tm' σ σ' a w e hst h Q hQ
  simp only [ZO] at hc
  subst hc
  have hx:ZO P an x=ZO P an x:=rfl
  simp only [Zq] at h
  refine wp_block ?_
  split at h
  ·rename_i i tm1 σ1 h1
   refine ih hx hst h1 ?_
   intro a' w' hs
   simp only [Exit.inBlock]
   split at h
   ·rename_i hid
    simp only [Option.some.injEq,Prod.mk.injEq] at h
    obtain ⟨rfl,rfl,rfl⟩:=h
    rw [if_pos hid]
    exact hQ a' w' hs
   ·rename_i hid
    simp only [Option.some.injEq,Prod.mk.injEq] at h
    obtain ⟨rfl,rfl,rfl⟩:=h
    rw [if_neg hid]
    exact hQ a' w' hs
  ·rename_i hne
   refine ih hx hst h ?_
   cases e with
   | normal=>exact hQ
   | exit id=>exact absurd h (hne _ _ _)
   | ret=>exact hQ
   | panic x=>exact hQ
 | loop x ih =>
  intro ac hc I β tm tm' σ σ' a w e hst h Q hQ
  simp only [ZO] at hc
  subst hc
  have hx:ZO P an x=ZO P an x:=rfl
  simp only [Zq] at h
  refine wp_loop_rounds n ?_
  have key:∀ k {tm:Tms} {σ:Za} {a:Act} {w:World},StF dr m an.nt base w0 I0 I β tm σ a w->Zbv m (an.ll (Zb5 x)) (Zq O bf m n (ZO P an x)) k tm σ=some (e,tm',σ')->Code.rounds P x Q k a w:=by
   intro k
   induction k with
   | zero=>intro tm σ a w _ h;simp only [Zbv] at h;cases h
   | succ k ihk =>
    intro tm σ a w hst h
    rw [rounds_succ]
    simp only [Zbv] at h
    obtain ⟨I1,β1,k1,k2,k3,k4,k5⟩:=hst
    obtain ⟨β2,q1,q2,q3⟩:=Zga k5 (k3.keep (an.ll (Zb5 x))) m
    have hst0:StF dr m an.nt base w0 I0 I β (gcT m (keepL (an.ll (Zb5 x)) tm) σ).1 (gcT m (keepL (an.ll (Zb5 x)) tm) σ).2 a w:=⟨I1,β2,k1,k2.trans q1,q3,k4,q2⟩
    split at h
    ·rename_i tm1 σ1 h1
     exact ih hx hst0 h1 (fun a' w' hs=>ihk hs h)
    ·rename_i hne
     refine ih hx hst0 h ?_
     cases e with
     | normal=>exact absurd h (hne _ _)
     | exit id=>exact hQ
     | ret=>exact hQ
     | panic x=>exact hQ
  exact key n hst h
 | exit id =>
  intro ac hc I β tm tm' σ σ' a w e hst h Q hQ
  simp only [ZO] at hc;subst hc
  simp only [Zq,Option.some.injEq,Prod.mk.injEq] at h
  obtain ⟨rfl,rfl,rfl⟩:=h
  exact wp_exit (hQ a w hst)
 | ret =>
  intro ac hc I β tm tm' σ σ' a w e hst h Q hQ
  simp only [ZO] at hc;subst hc
  simp only [Zq,Option.some.injEq,Prod.mk.injEq] at h
  obtain ⟨rfl,rfl,rfl⟩:=h
  exact wp_ret (hQ a w hst)
 | rangeFunc f ps x y=>intro ac hc I β tm tm' σ σ' a w e hst h;simp only [ZO] at hc;subst hc;simp only [Zq] at h;cases h
 | scope x ih =>
  intro ac hc I β tm tm' σ σ' a w e hst h Q hQ
  simp only [ZO] at hc
  refine wp_scope_straight (ih hc hst h ?_)
  cases e with
  | normal=>exact hQ
  | exit id=>exact hQ
  | ret=>exact hQ
  | panic x=>exact hQ
 | label l =>
  intro ac hc I β tm tm' σ σ' a w e hst h Q hQ
  simp only [ZO] at hc;subst hc
  simp only [Zq,Option.some.injEq,Prod.mk.injEq] at h
  obtain ⟨rfl,rfl,rfl⟩:=h
  exact wp_label (hQ a w hst)
 | goto l=>intro ac hc I β tm tm' σ σ' a w e hst h;simp only [ZO] at hc;subst hc;simp only [Zq] at h;cases h
 | refuse why=>intro ac hc I β tm tm' σ σ' a w e hst h;simp only [ZO] at hc;subst hc;simp only [Zq] at h;cases h
theorem Zu9 {I:Imm} {β:Bmap} {σ σ':Za} {k:Option Nat} {a x:AVal} {c:Cls} {v:Value} (ha:VR I β a v) (h:ldA σ k a=some (x,σ',c)):∃ ad,v=.pointer (some ad):=by
 unfold ldA at h
 split at h
 ·simp only [VR] at ha;obtain ⟨b,k,c,_,rfl⟩:=ha;exact ⟨_,rfl⟩
 ·simp only [VR] at ha;obtain ⟨b,k,c,_,rfl⟩:=ha;exact ⟨_,rfl⟩
 ·simp only [VR] at ha;obtain ⟨b,off,rfl,_⟩:=ha;exact ⟨_,rfl⟩
 ·cases h
def ZdP (tmps:Array Value):ResultVar->Sem Value
 | .tmp t=>pure (tmps.getD t undef)
 | .cell a t=>do loadVar t (<-asAddr (tmps.getD a undef))
theorem Zgf {I:Imm} {β:Bmap} {tm:Tms} {σ:Za} {w:World} {tmps:Array Value} (T:TR I β tm tmps) (R:Rel base w0 I0 I β σ w):∀ {rs:List ResultVar} {asl:List Zbi} {xs:List AVal},ZbW P rs=some asl->resAll tm σ asl=some xs ->
  ∃ vs:List Value,(rs.mapM (ZdP tmps)).run P w=.ok vs w/\VRs I β xs vs
 | [],asl,xs,hc,h=>by
  simp only [ZbW,Option.some.injEq] at hc;subst hc
  simp only [resAll,Option.some.injEq] at h;subst h
  exact ⟨[],by simp,by simp only [VRs]⟩
 | r::rs,asl,xs,hc,h=>by
  have getD_eq:∀ t,VR I β (tget tm t) (tmps.getD t undef):=T
  cases r with
  | tmp t =>
   simp only [ZbW,Option.map_eq_some_iff] at hc
   obtain ⟨as',has,rfl⟩:=hc
   simp only [resAll,resOne] at h
   split at h
   ·rename_i ys hys
    injection h with h;subst h
    obtain ⟨vs,h1,h2⟩:=Zgf T R has hys
    exact ⟨tmps.getD t undef::vs,by simp only [List.mapM_cons,ZdP,Sem.run_bind,Sem.run_pure,Result.andThen_ok,h1],by simp only [VRs];exact ⟨_,_,rfl,getD_eq t,h2⟩⟩
   ·cases h
  | cell a t =>
   simp only [ZbW] at hc
   split at hc
   ·rename_i k as' hk has
    injection hc with hc;subst hc
    simp only [resAll,resOne] at h
    split at h
    ·rename_i v hv
     split at h
     ·rename_i ys hys
      injection h with h;subst h
      obtain ⟨vs,h1,h2⟩:=Zgf T R has hys
      split at hv
      ·rename_i v' σ1 c1 hld
       injection hv with hv;subst hv
       obtain ⟨u,hu1,hu2,_⟩:=Zi7 hk R (getD_eq a) hld
       obtain ⟨ad,had⟩:=Zu9 (getD_eq a) hld
       have hlv:(loadVar t ad).run P w=.ok u w:=by
        rw [had] at hu1
        simpa [Instr.loadAt,Instr.sureAddr] using hu1
       refine ⟨u::vs,?_,by simp only [VRs];exact ⟨_,_,rfl,hu2,h2⟩⟩
       simp only [List.mapM_cons,ZdP,had,asAddr,Sem.run_bind,Sem.run_pure,Result.andThen_ok,hlv,h1]
      ·cases hv
     ·cases h
    ·cases h
   ·cases hc
theorem Zjj {I:Imm} {β:Bmap} {tm:Tms} {σ:Za} {w:World} {tmps:Array Value} (T:TR I β tm tmps) (R:Rel base w0 I0 I β σ w) {fn:Func} {asl:List Zbi} {x:AVal} (hc:ZbW P fn.results.toList=some asl) (h:resA tm σ asl=some x):∃ v,(results fn tmps).run P w=.ok v w/\VR I β x v:=by
 unfold resA at h
 have run:∀ {xs:List AVal},resAll tm σ asl=some xs->∃ vs:List Value,(results fn tmps).run P w=.ok (if h:vs.toArray.size=1 then vs.toArray[0] else .tuple vs.toArray) w/\VRs I β xs vs:=by
  intro xs hx
  obtain ⟨vs,h1,h2⟩:=Zgf T R hc hx
  refine ⟨vs,?_,h2⟩
  have hm:(fn.results.mapM (ZdP tmps)).run P w=.ok vs.toArray w:=by
   rw [Array.mapM_eq_mapM_toList,Sem.run_map,h1];rfl
  have he:results fn tmps=(do let vs <-fn.results.mapM (ZdP tmps);pure (if h:vs.size=1 then vs[0] else .tuple vs)):=by
   unfold results
   congr 1
  rw [he,Sem.run_bind,hm]
  rfl
 split at h
 ·rename_i v hv
  injection h with h;subst h
  obtain ⟨vs,h1,h2⟩:=run hv
  simp only [VRs] at h2
  obtain ⟨u,us,rfl,h3,rfl⟩:=h2
  exact ⟨u,by rw [h1];simp,h3⟩
 ·rename_i vs' hv hne
  injection h with h;subst h
  obtain ⟨vs,h1,h2⟩:=run hne
  have hl:=ZQ h2
  refine ⟨.tuple vs.toArray,?_,by simp only [VR];exact ⟨_,rfl,by simpa using h2⟩⟩
  rw [h1,dif_neg]
  intro hs
  simp only [List.size_toArray] at hs
  match vs',hl with
  | [v],_=>exact hv v rfl
  | [],hl=>simp at hl;omega
  | _::_::_,hl=>simp at hl;omega
 ·cases h
theorem Zhu:∀ (args:List AVal) (i:Nat) (acc:Tms) (n:Nat),tget (enterA i args acc) n=if i<=n/\n < i+args.length then args.getD (n - i) .top else tget acc n
 | [],i,acc,n=>by simp only [enterA,List.length_nil];rw [if_neg (by omega)]
 | x::xs,i,acc,n=>by
  simp only [enterA,List.length_cons]
  rw [Zhu xs (i+1) _ n]
  by_cases h:i+1<=n/\n < i+1+xs.length
  ·rw [if_pos h,if_pos (by omega),show n - i=(n - (i+1))+1 by omega,List.getD_cons_succ]
  ·rw [if_neg h]
   simp only [tget]
   by_cases h1:i=n
   ·subst h1
    rw [if_pos rfl,if_pos (by omega),Nat.sub_self,List.getD_cons_zero]
   ·rw [if_neg h1,if_neg (by omega)]
theorem Zjo {I:Imm} {β:Bmap} {args:List AVal} {vs:Array Value} (h:VRs I β args vs.toList) (n:Nat):TR I β (enterA 0 args []) (vs++Array.replicate n undef):=by
 intro j
 rw [Zhu]
 have hl:=ZQ h
 simp only [Array.length_toList] at hl
 split
 ·rename_i hj
  have hjl:j < args.length:=by omega
  obtain ⟨v,h1,h2⟩:=ZaX h (List.getElem?_eq_getElem hjl)
  have e1:args.getD (j - 0) .top=args[j]:=by simp [List.getD_eq_getElem?_getD,hjl]
  have e2:(vs++Array.replicate n undef).getD j undef=v:=by
   rw [Array.getD_eq_getD_getElem?,Array.getElem?_append_left (by omega)]
   have : vs[j]?=some v:=by simpa using h1
   rw [this];rfl
  rw [e1,e2];exact h2
 ·simp only [tget,VR]
def Zfq (P:Program) (prim:ZaM):Prop:=∀ f g,prim f=some g->∀ args σ r σ',g args σ=some (r,σ') ->
 (∃ fn,P.funcs[f]?=some fn/\fn.body.isSome=true/\(fn.name == "runtime.NumGoroutine")=false) /\
 ∀ base w0 I0 I β w (vs:Array Value),KLt base w0->Rel base w0 I0 I β σ w->VRs I β args vs.toList ->
  Calls P f vs w (fun e w'=>∃ u,Ends r e u/\Za4 σ.length base w0 I0 I β r σ' u w')
theorem Zg5 (hm:P.follows .mixedOrders=true) {prim:ZaM} (hP:Zfq P prim) (ann:Nat->Ann) (bf:Nat->Bool):∀ n,ZG P (ZC (Zea P ann) prim bf n)
 | 0=>by intro f args σ r σ' h;simp only [ZC] at h;cases h
 | n+1=>by
  have ih:=Zg5 hm hP ann bf n
  intro f args σ r σ' h
  simp only [ZC] at h
  split at h
  ·rename_i g hg
   exact hP f g hg args σ r σ' h
  split at h
  ·cases h
  rename_i fn hfn
  unfold Zea at hfn
  split at hfn
  ·rename_i F hF
   split at hfn
   ·rename_i body hbody
    split at hfn
    ·cases hfn
    ·rename_i hname
     split at hfn
     ·rename_i rs hrs
      injection hfn with hfn;subst hfn
      refine ⟨⟨F,hF,by rw [hbody];rfl,by simpa using hname⟩,?_⟩
      intro base w0 I0 I β w vs hb R hargs
      refine calls_of_wp hF hbody ?_
      have T:=Zjo hargs (F.ntmps - vs.size)
      have hst:StF Za2 σ.length F.ntmps base w0 I0 I β (enterA 0 args []) σ { tmps:=vs++Array.replicate (F.ntmps - vs.size) undef,defers:=[] } w:=⟨I,β,Imm.le.refl I,KeptE.refl _ β,T,⟨ZcA.2 rfl,by simp;omega⟩,R⟩
      cases hx:Zq (ZC (Zea P ann) prim bf n) bf σ.length n (ZO P { ann f with nt:=F.ntmps } body) (enterA 0 args []) σ with
      | none=>rw [hx] at h;simp only [Zat] at h;cases h
      | some q =>
       obtain ⟨e,tm',σ1⟩:=q
       rw [hx] at h
       have fin:(match resA tm' σ1 rs with | some r=>ZaJ σ.length σ1 r | none=>none)=some (r,σ')->∀ a' w',StF Za2 σ.length F.ntmps base w0 I0 I β tm' σ1 a' w'->a'.defers=[]/\∃ v,(results F a'.tmps).run P w'=.ok v w'/\∃ u,Ends r (.returned v) u/\Za4 σ.length base w0 I0 I β r σ' u w':=by
        intro hr a' w' ⟨I1,β1,g1,g2,g3,g4,g5⟩
        split at hr
        ·rename_i x hx1
         obtain ⟨v,h1,h2⟩:=Zjj g3 g5 hrs hx1
         have hnp:∀ y,x≠.pan y:=by rintro y rfl;simp only [VR] at h2
         obtain ⟨q1,q2⟩:=Zeb (⟨I1,β1,g1,g2,g5,by rw [ZcU hnp];exact h2⟩:Za4 σ.length base w0 I0 I β x σ1 v w') hr
         refine ⟨ZcA.1 g4.1,v,h1,v,q2 _ ?_,q1⟩
         cases x <;> first | rfl | exact absurd rfl (hnp _)
        ·cases hr
       refine Ze7 (dr:=Za2) (an:={ ann f with nt:=F.ntmps }) ih (fun n hn=>by simp [Za2] at hn) hm hb σ.length n rfl hst hx ?_
       cases e with
       | normal=>simp only [Zat] at h;exact fun a' w' hs=>fin h a' w' hs
       | ret=>simp only [Zat] at h;exact fun a' w' hs=>fin h a' w' hs
       | exit id=>simp only [Zat] at h;cases h
       | panic x =>
        simp only [Zat] at h
        intro a' u w' hd hp
        obtain ⟨q1,q2⟩:=Zeb hp h
        exact ⟨ZcA.1 hd,u,q2 _ rfl,q1⟩
     ·cases hfn
   ·cases hfn
  ·cases hfn
end
end
section
open Go.RowKit
def OLe (O O':Zn):Prop:=∀ f a σ r,O f a σ=some r->O' f a σ=some r
section
variable {O O':Zn} {bf:Nat->Bool}
theorem ZlM {view:Bool} {m:Nat} {x y:Option (AVal×Za)} (h:∀ r,x=some r->y=some r) {r:AVal×Za} (hr:ZaF view m x=some r):ZaF view m y=some r:=by
 cases x with
 | none=>cases view <;> simp [ZaF,ZbZ] at hr
 | some q=>rw [h q rfl];exact hr
theorem ZmZ {σ σf:Za} {ids ts:List Nat} {sq own:Nat} {x y:Option (AVal×Za)} (h:∀ r,x=some r->y=some r) {r:AVal×Za×Cls} (hr:Zae σ σf ids ts sq own x=some r):Zae σ σf ids ts sq own y=some r:=by
 cases x with
 | none=>simp only [Zae] at hr;cases hr
 | some q=>rw [h q rfl];exact hr
theorem ZfY (hO:OLe O O') {σ:Za} {sq f own:Nat} {view:Bool} {args:List AVal} {r:AVal×Za×Cls} (h:Zx O bf σ sq f own view args=some r):Zx O' bf σ sq f own view args=some r:=by
 unfold Zx Zbg at h ⊢
 split at h
 ·cases h
 ·rename_i vs ts hv
  split at h
  ·rename_i hc
   simp only [hc,if_true]
   exact ZmZ (fun q hq=>ZlM (fun q hq=>hO _ _ _ _ hq) hq) h
  ·cases h
theorem Zsk (hO:OLe O O') {tm:Tms} {σ:Za} {sq:Nat} {ins:Ins} {r:AVal×Za×Cls} (h:execI O bf tm σ sq ins=some r):execI O' bf tm σ sq ins=some r:=by
 cases ins
 case call f own view args =>
  simp only [execI] at h ⊢
  exact ZfY hO h
 case callv x args =>
  simp only [execI] at h ⊢
  split at h
  ·exact ZfY hO h
  ·cases h
 all_goals exact h
theorem ZgF (hO:OLe O O') {o:AOp} {tm:Tms} {σ:Za} {sq:Nat} {r:AVal×Tms×Za×Cls} (h:Zg O bf o sq tm σ=some r):Zg O' bf o sq tm σ=some r:=by
 unfold Zg at h ⊢
 split at h
 ·cases h
 ·exact h
 ·split at h
  ·rename_i hf
   rw [if_pos hf]
   split at h
   ·rename_i he;rw [Zsk hO he];exact h
   ·cases h
  ·cases h
theorem Zgk (hO:OLe O O'):∀ {ops:List AOp} {s:Nat} {tm:Tms} {σ:Za} {r:Tms×Za×List Cls×Option AVal},Zl O bf ops s tm σ=some r->Zl O' bf ops s tm σ=some r
 | [],_,_,_,_,h=>h
 | o::ops,s,tm,σ,r,h=>by
  simp only [Zl] at h ⊢
  split at h
  ·cases h
  ·rename_i h1
   rw [ZgF hO h1]
   exact h
  ·rename_i v tm1 σ1 c hnp h1
   rw [ZgF hO h1]
   simp only
   split at h
   ·cases h
   rename_i h2
   rw [Zgk hO h2]
   exact h
theorem Zh3 (hO:OLe O O') {ops:List AOp} {chk:Option (List (Nat×Nat))} {live:List Nat} {tm:Tms} {σ:Za} {r:ZM×Tms×Za} (h:Za5 O bf ops chk live tm σ=some r):Za5 O' bf ops chk live tm σ=some r:=by
 unfold Za5 at h ⊢
 cases hx:Zl O bf ops σ.length tm (σ++List.replicate (sitesOf ops) .free) with
 | none=>rw [hx] at h;simp only [ZbN] at h;cases h
 | some q=>rw [Zgk hO hx];rw [hx] at h;exact h
theorem ZeB {m0:Nat} {live:List Nat} {f f':Tms->Za->Option (ZM×Tms×Za)} (hf:∀ tm σ r,f tm σ=some r->f' tm σ=some r):∀ {n n':Nat} {tm:Tms} {σ:Za} {r:ZM×Tms×Za},n<=n'->Zbv m0 live f n tm σ=some r->Zbv m0 live f' n' tm σ=some r
 | 0,_,_,_,_,_,h=>by simp only [Zbv] at h;cases h
 | n+1,0,_,_,_,hn,_=>by omega
 | n+1,n'+1,tm,σ,r,hn,h=>by
  simp only [Zbv] at h ⊢
  split at h
  ·rename_i h1
   rw [hf _ _ _ h1]
   exact ZeB hf (by omega) h
  ·rename_i hne
   rw [hf _ _ _ h]
   split
   ·rename_i e;injection e with e;subst e;exact absurd h (hne _ _)
   ·rfl
theorem ZbD (hO:OLe O O') {m0:Nat}:∀ {c:Zi} {n n':Nat} {tm:Tms} {σ:Za} {r:ZM×Tms×Za},n<=n'->Zq O bf m0 n c tm σ=some r->Zq O' bf m0 n' c tm σ=some r:=by
 intro c
 induction c with
 | skip=>intro n n' tm σ r _ h;exact h
 | exit id=>intro n n' tm σ r _ h;exact h
 | ret=>intro n n' tm σ r _ h;exact h
 | stuck=>intro n n' tm σ r _ h;exact h
 | region ops chk live =>
  intro n n' tm σ r _ h
  simp only [Zq] at h ⊢
  exact Zh3 hO h
 | seq a b iha ihb =>
  intro n n' tm σ r hn h
  simp only [Zq] at h ⊢
  split at h
  ·rename_i h1;rw [iha hn h1];exact ihb hn h
  ·rename_i hne
   rw [iha hn h]
   split
   ·rename_i e;injection e with e;subst e;exact absurd h (hne _ _)
   ·rfl
 | cond c a b iha ihb =>
  intro n n' tm σ r hn h
  simp only [Zq] at h ⊢
  split at h
  ·exact iha hn h
  ·exact ihb hn h
  ·cases h
 | block id c ih =>
  intro n n' tm σ r hn h
  simp only [Zq] at h ⊢
  split at h
  ·rename_i h1;rw [ih hn h1];exact h
  ·rename_i hne
   rw [ih hn h]
   split
   ·rename_i e;injection e with e;subst e;exact absurd h (hne _ _ _)
   ·rfl
 | loop live c ih =>
  intro n n' tm σ r hn h
  simp only [Zq] at h ⊢
  exact ZeB (fun tm σ r h=>ih hn h) hn h
theorem ZeO {m0:Nat} {fn:ZR} {x y:Option (ZM×Tms×Za)} (h:∀ r,x=some r->y=some r) {r:AVal×Za} (hr:Zat m0 fn x=some r):Zat m0 fn y=some r:=by
 cases x with
 | none=>simp only [Zat] at hr;cases hr
 | some q=>rw [h q rfl];exact hr
theorem ZhN (fs:Nat->Option ZR) (prim:ZaM):∀ n,OLe (ZC fs prim bf n) (ZC fs prim bf (n+1))
 | 0=>by intro f a σ r h;simp only [ZC] at h;cases h
 | n+1=>by
  intro f a σ r h
  rw [ZC] at h ⊢
  split at h
  ·rename_i g hg;exact h
  ·rename_i hg
   split at h
   ·cases h
   ·rename_i fn hfn
    exact ZeO (fun q hq=>ZbD (ZhN fs prim n) (by omega) hq) h
theorem Zem (fs : Nat -> Option ZR) (prim : ZaM) {n m : Nat} (h : n <= m) : OLe (ZC fs prim bf n) (ZC fs prim bf m) := by
  induction m with
  | zero => obtain rfl : n = 0 := by omega
            exact fun _ _ _ _ h => h
  | succ m ih =>
    by_cases e : n = m + 1
    . subst e; exact fun _ _ _ _ h => h
    . exact fun f a σ r hr => ZhN fs prim m f a σ r (ih (by omega) f a σ r hr)
end
section
variable (fs:Nat->Option ZR) (prim:ZaM) (bf:Nat->Bool)
open Classical in
noncomputable def EV:Zn:=fun f args σ=>if h:∃ r,∃ n,ZC fs prim bf n f args σ=some r then some h.choose else none
open Classical in
noncomputable def evC (m:Nat) (c:Zi) (tm:Tms) (σ:Za):Option (ZM×Tms×Za):=if h:∃ r,∃ n,Zq (ZC fs prim bf n) bf m n c tm σ=some r then some h.choose else none
variable {fs prim bf} {m0:Nat}
theorem ZbO {f:Nat} {args:List AVal} {σ:Za} {r:AVal×Za}:EV fs prim bf f args σ=some r↔∃ n,ZC fs prim bf n f args σ=some r:=by
 unfold EV
 constructor
 ·intro h
  split at h
  ·rename_i hx
   injection h with h
   rw [<-h]
   exact hx.choose_spec
  ·cases h
 ·rintro ⟨n,hn⟩
  have hx:∃ r,∃ n,ZC fs prim bf n f args σ=some r:=⟨r,n,hn⟩
  rw [dif_pos hx]
  obtain ⟨m,hm⟩:=hx.choose_spec
  have h1:=Zem (bf:=bf) fs prim (Nat.le_max_left n m) _ _ _ _ hn
  have h2:=Zem (bf:=bf) fs prim (Nat.le_max_right n m) _ _ _ _ hm
  rw [h1] at h2
  injection h2 with h2
  rw [<-h2]
theorem Zas {c:Zi} {tm:Tms} {σ:Za} {r:ZM×Tms×Za}:evC fs prim bf m0 c tm σ=some r↔∃ n,Zq (ZC fs prim bf n) bf m0 n c tm σ=some r:=by
 unfold evC
 constructor
 ·intro h
  split at h
  ·rename_i hx
   injection h with h
   rw [<-h]
   exact hx.choose_spec
  ·cases h
 ·rintro ⟨n,hn⟩
  have hx:∃ r,∃ n,Zq (ZC fs prim bf n) bf m0 n c tm σ=some r:=⟨r,n,hn⟩
  rw [dif_pos hx]
  obtain ⟨m,hm⟩:=hx.choose_spec
  have h1:=ZbD (Zem (bf:=bf) fs prim (Nat.le_max_left n m)) (Nat.le_max_left n m) hn
  have h2:=ZbD (Zem (bf:=bf) fs prim (Nat.le_max_right n m)) (Nat.le_max_right n m) hm
  rw [h1] at h2
  injection h2 with h2
  rw [<-h2]
theorem Zb6 {α:Type} {x y:Option α} (h:∀ r,x=some r↔y=some r):x=y:=by
 cases x with
 | none =>
  cases y with
  | none=>rfl
  | some q=>exact absurd ((h q).2 rfl) (by simp)
 | some q=>exact ((h q).1 rfl).symm
theorem ZmR (n:Nat):OLe (ZC fs prim bf n) (EV fs prim bf):=fun _ _ _ _ h=>ZbO.2 ⟨n,h⟩
theorem up {n m:Nat} (h:n<=m):OLe (ZC fs prim bf n) (ZC fs prim bf m):=Zem fs prim h
theorem Zms {f:Nat} {g:List AVal->Za->Option (AVal×Za)} (hp:prim f=some g) (args:List AVal) (σ:Za):EV fs prim bf f args σ=g args σ:=by
 apply Zb6
 intro r
 rw [ZbO]
 constructor
 ·rintro ⟨n,h⟩
  cases n with
  | zero=>simp only [ZC] at h;cases h
  | succ n=>rw [ZC,hp] at h;exact h
 ·intro h
  exact ⟨1,by rw [ZC,hp];exact h⟩
theorem Zja {f:Nat} {fn:ZR} (hp:prim f=none) (hf:fs f=some fn) (args:List AVal) (σ:Za):EV fs prim bf f args σ=Zat σ.length fn (evC fs prim bf σ.length fn.body (enterA 0 args []) σ):=by
 apply Zb6
 intro r
 rw [ZbO]
 constructor
 ·rintro ⟨n,h⟩
  cases n with
  | zero=>simp only [ZC] at h;cases h
  | succ n =>
   rw [ZC,hp,hf] at h
   exact ZeO (fun q hq=>Zas.2 ⟨n,hq⟩) h
 ·intro h
  cases hx:evC fs prim bf σ.length fn.body (enterA 0 args []) σ with
  | none=>rw [hx] at h;simp only [Zat] at h;cases h
  | some q =>
   obtain ⟨n,hn⟩:=Zas.1 hx
   refine ⟨n+1,?_⟩
   rw [ZC,hp,hf]
   rw [hx] at h
   exact ZeO (x:=some q) (fun q' hq'=>by injection hq' with hq';subst hq';exact hn) h
theorem ZjH {σ:Za} {sq f own:Nat} {view:Bool} {args:List AVal} {r:AVal×Za×Cls} (h:Zx (EV fs prim bf) bf σ sq f own view args=some r):∃ n,Zx (ZC fs prim bf n) bf σ sq f own view args=some r:=by
 unfold Zx Zbg at h ⊢
 split at h
 ·cases h
 ·rename_i vs ts hv
  split at h
  ·rename_i hc
   simp only [hc,if_true]
   cases hx:EV fs prim bf f (Zt (Zf (Zh σ ts) 0 (Zm (Zh σ ts) 1000 (ZA vs) [])) vs) (Zj (Zh σ ts) 0 (Zm (Zh σ ts) 1000 (ZA vs) []) (Zf (Zh σ ts) 0 (Zm (Zh σ ts) 1000 (ZA vs) [])) (Zm (Zh σ ts) 1000 (ZA vs) []) 0) with
   | none =>
    rw [hx] at h
    cases view <;> simp [ZaF,ZbZ,Zae] at h
   | some q =>
    obtain ⟨n,hn⟩:=ZbO.1 hx
    exact ⟨n,by rw [hn];rw [hx] at h;exact h⟩
  ·cases h
theorem ZpQ {tm:Tms} {σ:Za} {sq:Nat} {ins:Ins} {r:AVal×Za×Cls} (h:execI (EV fs prim bf) bf tm σ sq ins=some r):∃ n,execI (ZC fs prim bf n) bf tm σ sq ins=some r:=by
 cases ins
 case call f own view args =>
  simp only [execI] at h ⊢
  exact ZjH h
 case callv x args =>
  simp only [execI] at h ⊢
  split at h
  ·exact ZjH h
  ·cases h
 all_goals exact ⟨0,h⟩
theorem ZjQ {o:AOp} {tm:Tms} {σ:Za} {sq:Nat} {r:AVal×Tms×Za×Cls} (h:Zg (EV fs prim bf) bf o sq tm σ=some r):∃ n,Zg (ZC fs prim bf n) bf o sq tm σ=some r:=by
 unfold Zg at h ⊢
 split at h
 ·cases h
 ·exact ⟨0,h⟩
 ·split at h
  ·rename_i hf
   simp only [hf,if_true]
   split at h
   ·rename_i he
    obtain ⟨n,hn⟩:=ZpQ he
    exact ⟨n,by rw [hn];exact h⟩
   ·cases h
  ·cases h
theorem Zjh:∀ {ops:List AOp} {s:Nat} {tm:Tms} {σ:Za} {r:Tms×Za×List Cls×Option AVal},Zl (EV fs prim bf) bf ops s tm σ=some r->∃ n,Zl (ZC fs prim bf n) bf ops s tm σ=some r
 | [],_,_,_,_,h=>⟨0,h⟩
 | o::ops,s,tm,σ,r,h=>by
  simp only [Zl] at h ⊢
  split at h
  ·cases h
  ·rename_i h1
   obtain ⟨n,hn⟩:=ZjQ h1
   exact ⟨n,by rw [hn];exact h⟩
  rename_i v tm1 σ1 c hnp h1
  split at h
  ·cases h
  rename_i h2
  obtain ⟨n,hn⟩:=ZjQ h1
  obtain ⟨m,hm⟩:=Zjh h2
  refine ⟨max n m,?_⟩
  rw [ZgF (up (Nat.le_max_left n m)) hn]
  simp only
  rw [Zgk (up (Nat.le_max_right n m)) hm]
  exact h
theorem Zlx {ops:List AOp} {chk:Option (List (Nat×Nat))} {live:List Nat} {tm:Tms} {σ:Za} {r:ZM×Tms×Za} (h:Za5 (EV fs prim bf) bf ops chk live tm σ=some r):∃ n,Za5 (ZC fs prim bf n) bf ops chk live tm σ=some r:=by
 unfold Za5 at h ⊢
 cases hx:Zl (EV fs prim bf) bf ops σ.length tm (σ++List.replicate (sitesOf ops) .free) with
 | none=>rw [hx] at h;simp only [ZbN] at h;cases h
 | some q =>
  obtain ⟨n,hn⟩:=Zjh hx
  exact ⟨n,by rw [hn];rw [hx] at h;exact h⟩
theorem ZnD (tm:Tms) (σ:Za):evC fs prim bf m0 .skip tm σ=some (.normal,tm,σ):=Zas.2 ⟨0,rfl⟩
theorem ZkP (id:Nat) (tm:Tms) (σ:Za):evC fs prim bf m0 (.exit id) tm σ=some (.exit id,tm,σ):=Zas.2 ⟨0,rfl⟩
theorem Zsj (tm:Tms) (σ:Za):evC fs prim bf m0 .ret tm σ=some (.ret,tm,σ):=Zas.2 ⟨0,rfl⟩
theorem Zvc {ops:List AOp} {chk:Option (List (Nat×Nat))} {live:List Nat} {tm:Tms} {σ:Za}:evC fs prim bf m0 (.region ops chk live) tm σ=Za5 (EV fs prim bf) bf ops chk live tm σ:=by
 apply Zb6
 intro r
 rw [Zas]
 constructor
 ·rintro ⟨n,hn⟩
  simp only [Zq] at hn
  exact Zh3 (ZmR n) hn
 ·intro h
  obtain ⟨n,hn⟩:=Zlx h
  exact ⟨n,by simp only [Zq];exact hn⟩
theorem ZnK {a b:Zi} {tm tm':Tms} {σ σ':Za} (h:evC fs prim bf m0 a tm σ=some (.normal,tm',σ')):evC fs prim bf m0 (.seq a b) tm σ=evC fs prim bf m0 b tm' σ':=by
 obtain ⟨n,hn⟩:=Zas.1 h
 apply Zb6
 intro r
 rw [Zas,Zas]
 constructor
 ·rintro ⟨m,hm⟩
  have h1:=ZbD (up (Nat.le_max_left n m)) (Nat.le_max_left n m) hn
  have h2:=ZbD (up (Nat.le_max_right n m)) (Nat.le_max_right n m) hm
  simp only [Zq,h1] at h2
  exact ⟨_,h2⟩
 ·rintro ⟨m,hm⟩
  have h1:=ZbD (up (Nat.le_max_left n m)) (Nat.le_max_left n m) hn
  have h2:=ZbD (up (Nat.le_max_right n m)) (Nat.le_max_right n m) hm
  exact ⟨max n m,by simp only [Zq,h1];exact h2⟩
theorem ZgP {a b:Zi} {tm tm':Tms} {σ σ':Za} {e:ZM} (he:e≠.normal) (h:evC fs prim bf m0 a tm σ=some (e,tm',σ')):evC fs prim bf m0 (.seq a b) tm σ=some (e,tm',σ'):=by
 obtain ⟨n,hn⟩:=Zas.1 h
 refine Zas.2 ⟨n,?_⟩
 simp only [Zq,hn]
 cases e with
 | normal=>exact absurd rfl he
 | exit id=>rfl
 | ret=>rfl
 | panic x=>rfl
def ZaR (id:Nat):ZM×Tms×Za->ZM×Tms×Za
 | (.exit i,tm,σ)=>if i=id then (.normal,tm,σ) else (.exit i,tm,σ)
 | r=>r
theorem ZvY {id:Nat} {c:Zi} {tm:Tms} {σ:Za}:evC fs prim bf m0 (.block id c) tm σ=(evC fs prim bf m0 c tm σ).map (ZaR id):=by
 have step:∀ n,Zq (ZC fs prim bf n) bf m0 n (.block id c) tm σ=(Zq (ZC fs prim bf n) bf m0 n c tm σ).map (ZaR id):=by
  intro n
  simp only [Zq]
  cases Zq (ZC fs prim bf n) bf m0 n c tm σ with
  | none=>rfl
  | some q =>
   obtain ⟨e,tm1,σ1⟩:=q
   cases e with
   | normal=>rfl
   | ret=>rfl
   | panic x=>rfl
   | exit i=>simp only [Option.map_some,ZaR];split <;> rfl
 apply Zb6;intro r
 rw [Zas]
 simp only [step,Option.map_eq_some_iff]
 constructor
 ·rintro ⟨n,q,h1,h2⟩;exact ⟨q,Zas.2 ⟨n,h1⟩,h2⟩
 ·rintro ⟨q,h1,h2⟩;obtain ⟨n,hn⟩:=Zas.1 h1;exact ⟨n,q,hn,h2⟩
theorem Zk5 {c:Zi} {tm:Tms} {σ:Za} (h:evC fs prim bf m0 c tm σ=none) (n:Nat):Zq (ZC fs prim bf n) bf m0 n c tm σ=none:=by
 cases hx:Zq (ZC fs prim bf n) bf m0 n c tm σ with
 | none=>rfl
 | some r=>rw [Zas.2 ⟨n,hx⟩] at h;cases h
variable (fs prim bf m0) in
noncomputable def ZbC (b:Zi):Option (ZM×Tms×Za)->Option (ZM×Tms×Za)
 | some (.normal,tm,σ)=>evC fs prim bf m0 b tm σ
 | r=>r
theorem ZrN {a b:Zi} {tm:Tms} {σ:Za}:evC fs prim bf m0 (.seq a b) tm σ=ZbC fs prim bf m0 b (evC fs prim bf m0 a tm σ):=by
 cases h:evC fs prim bf m0 a tm σ with
 | none =>
  simp only [ZbC]
  apply Zb6;intro r
  rw [Zas]
  constructor
  ·rintro ⟨n,hn⟩
   simp only [Zq,Zk5 h n] at hn
   cases hn
  ·intro h;cases h
 | some q =>
  obtain ⟨e,tm',σ'⟩:=q
  cases e with
  | normal=>exact ZnK h
  | exit id=>exact ZgP (by simp) h
  | ret=>exact ZgP (by simp) h
  | panic x=>exact ZgP (by simp) h
variable (fs prim bf m0) in
noncomputable def ZdN (a b:Zi) (tm:Tms) (σ:Za):AVal->Option (ZM×Tms×Za)
 | .bool true=>evC fs prim bf m0 a tm σ
 | .bool false=>evC fs prim bf m0 b tm σ
 | _=>none
theorem ZkN {c:Opd} {a b:Zi} {tm:Tms} {σ:Za}:evC fs prim bf m0 (.cond c a b) tm σ=ZdN fs prim bf m0 a b tm σ (c.ev tm):=by
 apply Zb6;intro r
 rw [Zas]
 simp only [Zq]
 constructor
 ·rintro ⟨n,hn⟩
  split at hn
  ·rename_i e;rw [e];simp only [ZdN];exact Zas.2 ⟨n,hn⟩
  ·rename_i e;rw [e];simp only [ZdN];exact Zas.2 ⟨n,hn⟩
  ·cases hn
 ·intro h
  unfold ZdN at h
  split at h
  ·rename_i e;obtain ⟨n,hn⟩:=Zas.1 h;exact ⟨n,by rw [e];exact hn⟩
  ·rename_i e;obtain ⟨n,hn⟩:=Zas.1 h;exact ⟨n,by rw [e];exact hn⟩
  ·cases h
variable (fs prim bf m0) in
noncomputable def evL (live:List Nat) (c:Zi) (tm:Tms) (σ:Za):Option (ZM×Tms×Za) :=
 match evC fs prim bf m0 c tm σ with
 | some (.normal,tm',σ')=>evC fs prim bf m0 (.loop live c) tm' σ'
 | r=>r
theorem Zht {live:List Nat} {c:Zi} {tm:Tms} {σ:Za}:evC fs prim bf m0 (.loop live c) tm σ=evL fs prim bf m0 live c (gcT m0 (keepL live tm) σ).1 (gcT m0 (keepL live tm) σ).2:=by
 apply Zb6;intro r
 rw [Zas]
 constructor
 ·rintro ⟨n,hn⟩
  simp only [Zq] at hn
  cases n with
  | zero=>simp only [Zbv] at hn;cases hn
  | succ k =>
   simp only [Zbv] at hn
   unfold evL
   cases hx:Zq (ZC fs prim bf (k+1)) bf m0 (k+1) c (gcT m0 (keepL live tm) σ).1 (gcT m0 (keepL live tm) σ).2 with
   | none=>rw [hx] at hn;cases hn
   | some q =>
    rw [Zas.2 ⟨_,hx⟩]
    rw [hx] at hn
    obtain ⟨e,tm',σ'⟩:=q
    cases e with
    | normal =>
     simp only at hn ⊢
     exact Zas.2 ⟨k+1,by simp only [Zq];exact ZeB (fun _ _ _ h=>h) (by omega) hn⟩
    | exit id=>exact hn
    | ret=>exact hn
    | panic x=>exact hn
 ·intro h
  unfold evL at h
  cases hx:evC fs prim bf m0 c (gcT m0 (keepL live tm) σ).1 (gcT m0 (keepL live tm) σ).2 with
  | none=>rw [hx] at h;cases h
  | some q =>
   rw [hx] at h
   obtain ⟨n,hn⟩:=Zas.1 hx
   obtain ⟨e,tm',σ'⟩:=q
   have out:e≠.normal->some (e,tm',σ')=some r->∃ n,Zq (ZC fs prim bf n) bf m0 n (.loop live c) tm σ=some r:=by
    intro he h
    refine ⟨n+1,?_⟩
    have h1:=ZbD (up (show n<=n+1 by omega)) (show n<=n+1 by omega) hn
    simp only [Zq,Zbv,h1]
    cases e with
    | normal=>exact absurd rfl he
    | exit id=>exact h
    | ret=>exact h
    | panic x=>exact h
   cases e with
   | normal =>
    simp only at h
    obtain ⟨m,hm⟩:=Zas.1 h
    have h1:=ZbD (up (show n<=max n m+1 by omega)) (show n<=max n m+1 by omega) hn
    have h2:=ZbD (up (show m<=max n m+1 by omega)) (Nat.le_refl m) hm
    simp only [Zq] at h2
    refine ⟨max n m+1,?_⟩
    simp only [Zq,Zbv,h1]
    exact ZeB (fun tm σ r h=>ZbD (fun _ _ _ _ h=>h) (by omega) h) (by omega) h2
   | exit id=>exact out (by simp) h
   | ret=>exact out (by simp) h
   | panic x=>exact out (by simp) h
theorem Zoj {P:Program} (hm:P.follows .mixedOrders=true) {prim:ZaM} (hP:Zfq P prim) (ann:Nat->Ann) (bf:Nat->Bool):ZG P (EV (Zea P ann) prim bf):=by
 intro f args σ r σ' h
 obtain ⟨n,hn⟩:=ZbO.1 h
 exact Zg5 hm hP ann bf n f args σ r σ' hn
end
end
section
open Go.RowKit
def Zio:Tms×Za×List Cls×Option AVal->Tms×Za×Option AVal:=fun q=>(q.1,q.2.1,q.2.2.2)
def ZN:AVal->Bool
 | .pan _=>true
 | _=>false
section
variable (O:Zn) (bf:Nat->Bool)
def exI (i:Ins) (s:Nat) (tm:Tms) (σ:Za):Option (AVal×Za×Cls) :=
 if nsite i == 0 || freeAt σ s then execI O bf tm σ s i else none
def Zaq (ops:List AOp) (s:Nat) (tm:Tms) (σ:Za):Option (Tms×Za×Option AVal):=(Zl O bf ops s tm σ).map Zio
def kN (d:Option Nat) (os:List AOp) (s:Nat) (tm:Tms):Option (AVal×Za×Cls)->Option (Tms×Za×Option AVal)
 | none=>none
 | some (v,σ,_)=>if ZN v then some (tput tm d v,σ,some (ZP v)) else Zaq O bf os s (tput tm d v) σ
def Ze9 (live:List Nat):Option (Tms×Za×Option AVal)->Option (ZM×Tms×Za)
 | none=>none
 | some (_,σ,some x)=>some (.panic x,[],σ)
 | some (tm,σ,none)=>some (.normal,keepL live tm,σ)
variable {O bf}
theorem Zjw (s:Nat) (tm:Tms) (σ:Za):Zaq O bf [] s tm σ=some (tm,σ,none):=rfl
theorem ZdO {o:AOp} {os:List AOp} {s:Nat} {tm:Tms} {σ:Za} (h:Zg O bf o s tm σ=none):Zl O bf (o::os) s tm σ=none:=by simp only [Zl,h]
theorem Zfn {o:AOp} {os:List AOp} {s:Nat} {tm tm1:Tms} {σ σ1:Za} {x:AVal} {c:Cls} (h:Zg O bf o s tm σ=some (.pan x,tm1,σ1,c)):Zl O bf (o::os) s tm σ=some (tm1,σ1,[c],some x):=by simp only [Zl,h]
theorem Zhr {o:AOp} {os:List AOp} {s:Nat} {tm tm1:Tms} {σ σ1:Za} {v:AVal} {c:Cls} (h:Zg O bf o s tm σ=some (v,tm1,σ1,c)) (hn:ZN v=false):Zl O bf (o::os) s tm σ=(Zl O bf os (s+nsite o.ins) tm1 σ1).map fun q=>(q.1,q.2.1,c::q.2.2.1,q.2.2.2):=by
 simp only [Zl,h]
 cases v <;> first
  | (simp [ZN] at hn;done)
  | (simp only;cases Zl O bf os (s+nsite o.ins) tm1 σ1 <;> rfl)
theorem Zez {o:AOp} {os:List AOp} {s:Nat} {tm:Tms} {σ:Za} (h:Zg O bf o s tm σ=none):Zaq O bf (o::os) s tm σ=none:=by simp only [Zaq,ZdO h,Option.map_none]
theorem ZfO {o:AOp} {os:List AOp} {s:Nat} {tm tm1:Tms} {σ σ1:Za} {x:AVal} {c:Cls} (h:Zg O bf o s tm σ=some (.pan x,tm1,σ1,c)):Zaq O bf (o::os) s tm σ=some (tm1,σ1,some x):=by simp only [Zaq,Zfn h,Option.map_some,Zio]
theorem Zfo {o:AOp} {os:List AOp} {s:Nat} {tm tm1:Tms} {σ σ1:Za} {v:AVal} {c:Cls} (h:Zg O bf o s tm σ=some (v,tm1,σ1,c)) (hn:ZN v=false):Zaq O bf (o::os) s tm σ=Zaq O bf os (s+nsite o.ins) tm1 σ1:=by
 simp only [Zaq,Zhr h hn,Option.map_map]
 rfl
theorem Zfv {v:AVal} (h:ZN v=true):∃ x,v=.pan x:=by
 cases v <;> first | exact ⟨_,rfl⟩ | (simp [ZN] at h;done)
theorem ZeL {d:Option Nat} {i:Ins} {af:List Nat} {s:Nat} {tm:Tms} {σ:Za}:Zg O bf ⟨d,i,none,af⟩ s tm σ=(exI O bf i s tm σ).map fun q=>(q.1,tput tm d q.1,q.2.1,q.2.2):=by
 unfold Zg exI
 simp only [Zaz]
 split
 ·cases execI O bf tm σ s i with
  | none=>rfl
  | some q=>rfl
 ·rfl
theorem ZgY (d:Option Nat) (i:Ins) (af:List Nat) (os:List AOp) (s:Nat) (tm:Tms) (σ:Za):Zaq O bf (⟨d,i,none,af⟩::os) s tm σ=kN O bf d os (s+nsite i) tm (exI O bf i s tm σ):=by
 cases h:exI O bf i s tm σ with
 | none=>exact Zez (by rw [ZeL,h];rfl)
 | some q =>
  obtain ⟨v,σ1,c⟩:=q
  have hs:Zg O bf ⟨d,i,none,af⟩ s tm σ=some (v,tput tm d v,σ1,c):=by rw [ZeL,h];rfl
  cases hp:ZN v with
  | true =>
   obtain ⟨x,rfl⟩:=Zfv hp
   exact ZfO hs
  | false =>
   rw [Zfo hs hp]
   simp only [kN,hp,Bool.false_eq_true,if_false]
theorem Zko (ops:List AOp) (live:List Nat) (tm:Tms) (σ:Za):Za5 O bf ops none live tm σ=Ze9 live (Zaq O bf ops σ.length tm (σ++List.replicate (sitesOf ops) .free)):=by
 unfold Za5 Zaq
 cases Zl O bf ops σ.length tm (σ++List.replicate (sitesOf ops) .free) with
 | none=>rfl
 | some q =>
  obtain ⟨tm',σ',cs,p⟩:=q
  cases p <;> rfl
theorem ZgV (d:Option Nat) (os:List AOp) (s:Nat) (tm:Tms) (v:AVal) (σ:Za) (c:Cls) (h:ZN v=false):kN O bf d os s tm (some (v,σ,c))=Zaq O bf os s (tput tm d v) σ:=by
 simp only [kN,h,Bool.false_eq_true,if_false]
theorem ZkV (d:Option Nat) (os:List AOp) (s:Nat) (tm:Tms) (x:AVal) (σ:Za) (c:Cls):kN O bf d os s tm (some (.pan x,σ,c))=some (tput tm d (.pan x),σ,some x):=rfl
theorem Zu8 (d:Option Nat) (os:List AOp) (s:Nat) (tm:Tms):kN O bf d os s tm none=none:=rfl
structure GOp where
 guard:Option (Nat×Bool)
 ops:List AOp
def ZI:List AOp->Tms->Tms
 | [],tm=>tm
 | o::os,tm=>ZI os (tput tm o.dst (.tup []))
def unG (o:AOp):AOp:={ o with guard:=none }
variable (O bf) in
def ZbS (j:Nat) (w:Bool) (g:List AOp) (s:Nat) (tm:Tms) (σ:Za):Option (Tms×Za×Option AVal):=match Zaz (some (j,w)) tm with
 | none=>none
 | some false=>some (ZI g tm,σ,none)
 | some true=>Zaq O bf (g.map unG) s tm σ
variable (O bf) in
def gK (os:List AOp) (s:Nat):Option (Tms×Za×Option AVal)->Option (Tms×Za×Option AVal)
 | none=>none
 | some (tm,σ,some x)=>some (tm,σ,some x)
 | some (tm,σ,none)=>Zaq O bf os s tm σ
def ZE (j:Nat) (w:Bool):List AOp->List AOp×List AOp
 | []=>([],[])
 | o::os=>match o.guard with
  | some (j',w')=>if j'=j/\w'=w/\o.dst≠some j then ((o::(ZE j w os).1),(ZE j w os).2) else ([],o::os)
  | none=>([],o::os)
theorem Zhk (j:Nat) (w:Bool):∀ os,(ZE j w os).1++(ZE j w os).2=os
 | []=>rfl
 | o::os=>by
  simp only [ZE]
  split
  ·split
   ·simp [Zhk j w os]
   ·rfl
  ·rfl
theorem Zf4 (j:Nat) (w:Bool):∀ os,∀ o ∈ (ZE j w os).1,o.guard=some (j,w)/\o.dst≠some j
 | []=>by simp [ZE]
 | o::os=>by
  intro o' ho
  simp only [ZE] at ho
  split at ho
  ·rename_i j' w' hg
   split at ho
   ·rename_i hc
    rcases List.mem_cons.1 ho with rfl | ho
    ·exact ⟨by rw [hg,hc.1,hc.2.1],hc.2.2⟩
    ·exact Zf4 j w os o' ho
   ·simp at ho
  ·simp at ho
theorem ZpI {d:Option Nat} {v:AVal} {n:Nat} {tm:Tms} (h:d≠some n):tget (tput tm d v) n=tget tm n:=by
 cases d with
 | none=>rfl
 | some d =>
  have : d≠n:=by rintro rfl;exact h rfl
  simp only [tput,Zd6,this,if_false]
theorem ZcK {d:Option Nat} {v:AVal} {j:Nat} {w:Bool} {tm:Tms} (h:d≠some j):Zaz (some (j,w)) (tput tm d v)=Zaz (some (j,w)) tm:=by
 simp only [Zaz,ZpI h]
theorem ZiN:∀ (a b:List AOp) (s:Nat) (tm:Tms) (σ:Za),Zaq O bf (a++b) s tm σ=gK O bf b (s+sitesOf a) (Zaq O bf a s tm σ)
 | [],b,s,tm,σ=>by simp [Zjw,gK,sitesOf]
 | o::a,b,s,tm,σ=>by
  have ih:=ZiN a b
  simp only [List.cons_append]
  have hs:s+nsite o.ins+sitesOf a=s+sitesOf (o::a):=by simp [sitesOf,Nat.add_assoc]
  cases hst:Zg O bf o s tm σ with
  | none=>rw [Zez hst,Zez hst];rfl
  | some q =>
   obtain ⟨v,tm1,σ1,c⟩:=q
   cases hp:ZN v with
   | true =>
    obtain ⟨x,rfl⟩:=Zfv hp
    rw [ZfO hst,ZfO hst];rfl
   | false=>rw [Zfo hst hp,Zfo hst hp,ih,hs]
theorem Zh0 (j:Nat) (w:Bool):∀ (g:List AOp),(∀ o ∈ g,o.guard=some (j,w)/\o.dst≠some j)->∀ (s:Nat) (tm:Tms) (σ:Za),g≠[]->Zaq O bf g s tm σ=ZbS O bf j w g s tm σ
 | [],_,_,_,_,h=>absurd rfl h
 | o::g,hall,s,tm,σ,_=>by
  obtain ⟨hg,hd⟩:=hall o (by simp)
  have ih:∀ (tm:Tms) (σ:Za) (s:Nat),Zaz (some (j,w)) tm≠none->Zaq O bf g s tm σ=ZbS O bf j w g s tm σ:=by
   intro tm σ s hw
   by_cases he:g=[]
   ·subst he
    unfold ZbS
    cases hx:Zaz (some (j,w)) tm with
    | none=>exact absurd hx hw
    | some b=>cases b <;> rfl
   ·exact Zh0 j w g (fun o ho=>hall o (by simp [ho])) s tm σ he
  cases hx:Zaz (some (j,w)) tm with
  | none =>
   rw [Zez (by simp only [Zg,hg,hx])]
   simp only [ZbS,hx]
  | some b =>
   cases b with
   | false =>
    have h1:Zaq O bf (o::g) s tm σ=Zaq O bf g (s+nsite o.ins) (tput tm o.dst (.tup [])) σ :=
     Zfo (v:=.tup []) (c:={}) (by simp only [Zg,hg,hx]) rfl
    rw [h1,ih _ _ _ (by rw [ZcK hd,hx];simp)]
    unfold ZbS
    rw [ZcK hd,hx]
    rfl
   | true =>
    have key:∀ r:Option (AVal×Za×Cls),(∀ v σ' c,r=some (v,σ',c)->ZN v=false->Zaq O bf g (s+nsite o.ins) (tput tm o.dst v) σ'=Zaq O bf (g.map unG) (s+nsite o.ins) (tput tm o.dst v) σ')->kN O bf o.dst g (s+nsite o.ins) tm r=kN O bf o.dst (g.map unG) (s+nsite o.ins) tm r:=by
     intro r hr
     cases r with
     | none=>rfl
     | some q =>
      obtain ⟨v,σ',c⟩:=q
      cases hp:ZN v with
      | true=>simp only [kN,hp,if_true]
      | false=>rw [ZgV _ _ _ _ _ _ _ hp,ZgV _ _ _ _ _ _ _ hp];exact hr v σ' c rfl hp
    have h1:Zaq O bf (o::g) s tm σ=kN O bf o.dst g (s+nsite o.ins) tm (exI O bf o.ins s tm σ):=by
     have h0:Zaq O bf (o::g) s tm σ=Zaq O bf (⟨o.dst,o.ins,none,o.after⟩::g) s tm σ:=by
      have hst:Zg O bf o s tm σ=Zg O bf ⟨o.dst,o.ins,none,o.after⟩ s tm σ:=by
       unfold Zg
       simp only [hg,hx]
       rfl
      unfold Zaq
      simp only [Zl,hst]
     rw [h0,ZgY]
    rw [h1]
    unfold ZbS
    rw [hx]
    simp only [List.map_cons]
    rw [show unG o=⟨o.dst,o.ins,none,o.after⟩ from rfl,ZgY]
    refine key _ fun v σ' c _ _=>?_
    rw [ih _ _ _ (by rw [ZcK hd,hx];simp)]
    unfold ZbS
    rw [ZcK hd,hx]
theorem Zp7 (d:Option Nat) (i:Ins) (j:Nat) (w:Bool) (af:List Nat) (os:List AOp) (s:Nat) (tm:Tms) (σ:Za) (hd:decide (d=some j)=false) :
  Zaq O bf (⟨d,i,some (j,w),af⟩::os) s tm σ=gK O bf (ZE j w os).2 (s+sitesOf (⟨d,i,some (j,w),af⟩::(ZE j w os).1)) (ZbS O bf j w (⟨d,i,some (j,w),af⟩::(ZE j w os).1) s tm σ):=by
 have h:=Zhk j w os
 have hall:∀ o ∈ (⟨d,i,some (j,w),af⟩::(ZE j w os).1:List AOp),o.guard=some (j,w)/\o.dst≠some j:=by
  intro o ho
  rcases List.mem_cons.1 ho with rfl | ho
  ·exact ⟨rfl,by simpa using hd⟩
  ·exact Zf4 j w os o ho
 rw [<-Zh0 j w _ hall s tm σ (by simp),<-ZiN,List.cons_append,h]
variable (O bf) in
def gW (w:Bool) (g:List AOp) (s:Nat) (tm:Tms) (σ:Za):AVal->Option (Tms×Za×Option AVal)
 | .bool b=>if b=w then Zaq O bf (g.map unG) s tm σ else some (ZI g tm,σ,none)
 | .tup []=>some (ZI g tm,σ,none)
 | _=>none
theorem Zkn (j:Nat) (w:Bool) (g:List AOp) (s:Nat) (tm:Tms) (σ:Za):ZbS O bf j w g s tm σ=gW O bf w g s tm σ (tget tm j):=by
 unfold ZbS Zaz
 simp only
 generalize tget tm j=v
 cases v
 case bool b=>cases b <;> cases w <;> rfl
 case tup vs=>cases vs <;> rfl
 all_goals rfl
theorem Zq5 (w:Bool) (g:List AOp) (s:Nat) (tm:Tms) (σ:Za) (b:Bool):gW O bf w g s tm σ (.bool b)=if b=w then Zaq O bf (g.map unG) s tm σ else some (ZI g tm,σ,none):=rfl
theorem ZjY (w:Bool) (g:List AOp) (s:Nat) (tm:Tms) (σ:Za):gW O bf w g s tm σ (.tup [])=some (ZI g tm,σ,none):=rfl
theorem Zru (os:List AOp) (s:Nat) (tm:Tms) (σ:Za):gK O bf os s (some (tm,σ,none))=Zaq O bf os s tm σ:=rfl
end
section
variable (c:Prop) [Decidable c]
theorem Zad {α:Type} (a b:α) (x y:List α):(if c then a::x else b::y)=(if c then a else b)::(if c then x else y):=by split <;> rfl
theorem Zkp (k:IntKind) (a b:Int):(if c then AVal.int k a else AVal.int k b)=AVal.int k (if c then a else b):=by split <;> rfl
theorem Zmu (a b:Bool):(if c then AVal.bool a else AVal.bool b)=AVal.bool (if c then a else b):=by split <;> rfl
theorem Zp9 (a b:List UInt8):(if c then AVal.str a else AVal.str b)=AVal.str (if c then a else b):=by split <;> rfl
theorem Zre (p q:Bool) (a b:List AVal):(if c then AVal.lst p a else AVal.lst q b)=AVal.lst (if c then p else q) (if c then a else b):=by split <;> rfl
theorem Zup (a b:List AVal):(if c then AVal.agg a else AVal.agg b)=AVal.agg (if c then a else b):=by split <;> rfl
theorem Zqy (a b:List AVal):(if c then Zs.var a else Zs.var b)=Zs.var (if c then a else b):=by split <;> rfl
theorem Zuv (g k:Nat) (a b:List AVal):(if c then Zs.row g k a else Zs.row g k b)=Zs.row g k (if c then a else b):=by split <;> rfl
theorem Zl4 (t:Nat) (a b:Nat):(if c then AVal.ref t a else AVal.ref t b)=AVal.ref t (if c then a else b):=by split <;> rfl
theorem Z5 {α:Type} (x y z:α):(if c then (if c then x else y) else z)=if c then x else z:=by split <;> rfl
theorem Zag {α:Type} (x y z:α):(if c then x else (if c then y else z))=if c then x else z:=by split <;> rfl
theorem Z8 {α:Type} (x y z:α):(if c then (if ¬c then x else y) else z)=if c then y else z:=by split <;> simp_all
theorem Zai {α:Type} (x y z:α):(if c then x else (if ¬c then y else z))=if c then x else y:=by split <;> simp_all
theorem ZpC (σ:Za) (a b:AVal) (p:Bool):Zcu σ a b (.bool p)=some (if p=true then a else b,σ,{}):=by cases p <;> rfl
theorem Zp3 (a b:AVal):ZN (if c then a else b)=if c then ZN a else ZN b:=by split <;> rfl
end
section
variable {fs:Nat->Option ZR} {prim:ZaM} {bf:Nat->Bool} {m0:Nat}
theorem ZoR (p:Bool) (a b:Zi) (tm:Tms) (σ:Za):ZdN fs prim bf m0 a b tm σ (.bool p)=if p=true then evC fs prim bf m0 a tm σ else evC fs prim bf m0 b tm σ:=by
 cases p <;> rfl
theorem Ztp (b:Zi) (tm:Tms) (σ:Za):ZbC fs prim bf m0 b (some (.normal,tm,σ))=evC fs prim bf m0 b tm σ:=rfl
theorem ZoX (b:Zi) (i:Nat) (tm:Tms) (σ:Za):ZbC fs prim bf m0 b (some (.exit i,tm,σ))=some (.exit i,tm,σ):=rfl
theorem Zj0 (b:Zi) (tm:Tms) (σ:Za):ZbC fs prim bf m0 b (some (.ret,tm,σ))=some (.ret,tm,σ):=rfl
theorem ZkL (b:Zi) (x:AVal) (tm:Tms) (σ:Za):ZbC fs prim bf m0 b (some (.panic x,tm,σ))=some (.panic x,tm,σ):=rfl
theorem Zkx (c:Prop) [Decidable c] (b:Zi) (x y:Option (ZM×Tms×Za)):ZbC fs prim bf m0 b (if c then x else y)=if c then ZbC fs prim bf m0 b x else ZbC fs prim bf m0 b y:=by split <;> rfl
theorem ZnV (id:Nat) (tm:Tms) (σ:Za):Option.map (ZaR id) (some (.normal,tm,σ))=some (.normal,tm,σ):=rfl
theorem ZkF (id i:Nat) (tm:Tms) (σ:Za):Option.map (ZaR id) (some (.exit i,tm,σ))=if i=id then some (.normal,tm,σ) else some (.exit i,tm,σ):=by
 simp only [Option.map_some,ZaR];split <;> rfl
theorem ZpX (id:Nat) (tm:Tms) (σ:Za):Option.map (ZaR id) (some (.ret,tm,σ))=some (.ret,tm,σ):=rfl
theorem ZpT (id:Nat) (x:AVal) (tm:Tms) (σ:Za):Option.map (ZaR id) (some (.panic x,tm,σ))=some (.panic x,tm,σ):=rfl
theorem Zts (id:Nat) (c:Prop) [Decidable c] (x y:Option (ZM×Tms×Za)):Option.map (ZaR id) (if c then x else y)=if c then Option.map (ZaR id) x else Option.map (ZaR id) y:=by split <;> rfl
theorem ZvM (m:Nat) (fn:ZR) (c:Prop) [Decidable c] (x y:Option (ZM×Tms×Za)):Zat m fn (if c then x else y)=if c then Zat m fn x else Zat m fn y:=by split <;> rfl
end
section
variable {fs:Nat->Option ZR} {prim:ZaM} {bf:Nat->Bool} {m0:Nat}
theorem ZvU {live:List Nat} {c:Zi} {tm tm':Tms} {σ σ':Za} (h:evC fs prim bf m0 c tm σ=some (.normal,tm',σ')):evL fs prim bf m0 live c tm σ=evL fs prim bf m0 live c (gcT m0 (keepL live tm') σ').1 (gcT m0 (keepL live tm') σ').2:=by
 unfold evL
 rw [h]
 simp only
 rw [Zht]
 rfl
theorem Zut {live:List Nat} {c:Zi} {tm tm':Tms} {σ σ':Za} {i:Nat} (h:evC fs prim bf m0 c tm σ=some (.exit i,tm',σ')):evL fs prim bf m0 live c tm σ=some (.exit i,tm',σ'):=by
 unfold evL;rw [h]
theorem ZoJ {live:List Nat} {c:Zi} {tm tm':Tms} {σ σ':Za} (h:evC fs prim bf m0 c tm σ=some (.ret,tm',σ')):evL fs prim bf m0 live c tm σ=some (.ret,tm',σ'):=by
 unfold evL;rw [h]
variable (fs prim bf m0) in
noncomputable def evM (live:List Nat) (c:Zi):Option (ZM×Tms×Za)->Option (ZM×Tms×Za)
 | some (.normal,tm,σ)=>evL fs prim bf m0 live c (gcT m0 (keepL live tm) σ).1 (gcT m0 (keepL live tm) σ).2
 | r=>r
theorem ZbH (live:List Nat) (c:Zi) (tm:Tms) (σ:Za):evL fs prim bf m0 live c tm σ=evM fs prim bf m0 live c (evC fs prim bf m0 c tm σ):=by
 cases h:evC fs prim bf m0 c tm σ with
 | none=>unfold evL;rw [h];rfl
 | some q =>
  obtain ⟨e,tm',σ'⟩:=q
  cases e with
  | normal=>exact ZvU h
  | exit i=>exact Zut h
  | ret=>exact ZoJ h
  | panic x=>unfold evL;rw [h];rfl
theorem Zsg (live:List Nat) (c:Zi) (tm:Tms) (σ:Za):evM fs prim bf m0 live c (some (.normal,tm,σ))=evL fs prim bf m0 live c (gcT m0 (keepL live tm) σ).1 (gcT m0 (keepL live tm) σ).2:=rfl
theorem Zsx (live:List Nat) (c:Zi) (i:Nat) (tm:Tms) (σ:Za):evM fs prim bf m0 live c (some (.exit i,tm,σ))=some (.exit i,tm,σ):=rfl
theorem Zvs (live:List Nat) (c:Zi) (tm:Tms) (σ:Za):evM fs prim bf m0 live c (some (.ret,tm,σ))=some (.ret,tm,σ):=rfl
theorem ZkK (live:List Nat) (c:Zi) (x:AVal) (tm:Tms) (σ:Za):evM fs prim bf m0 live c (some (.panic x,tm,σ))=some (.panic x,tm,σ):=rfl
theorem ZtO (live:List Nat) (b:Zi) (c:Prop) [Decidable c] (x y:Option (ZM×Tms×Za)):evM fs prim bf m0 live b (if c then x else y)=if c then evM fs prim bf m0 live b x else evM fs prim bf m0 live b y:=by split <;> rfl
end
def ZW:AVal->Bool
 | .int _ _=>true
 | .bool _=>true
 | .str _=>true
 | .nilp=>true
 | .nilm=>true
 | .nili=>true
 | .lst _ _=>true
 | .fn _ []=>true
 | _=>false
def ZS:AVal->Bool
 | .agg cs=>cs.all ZW
 | x=>ZW x
def Zao:AVal->AVal
 | .lst _ xs=>.lst false xs
 | x=>x
def ZJ:AVal->AVal
 | .agg cs=>.agg (cs.map Zao)
 | x=>Zao x
theorem Zjf {σ:Za} {x:AVal} (h:ZW x=true):Zbh σ x=some (Zao x,[]):=by
 cases x <;> first | (simp [ZW] at h;done) | rfl
theorem ZjG {σ:Za}:∀ {xs:List AVal},xs.all ZW=true->Zba σ xs=some (xs.map Zao,[])
 | [],_=>rfl
 | x::xs,h=>by
  simp only [List.all_cons,Bool.and_eq_true] at h
  simp only [Zba,Zjf h.1,ZjG h.2,List.map_cons,List.append_nil]
theorem Zdk {x:AVal} (h:∀ cs,x≠.agg cs):ZS x=ZW x/\ZJ x=Zao x:=by
 cases x <;> first | exact ⟨rfl,rfl⟩ | exact absurd rfl (h _)
theorem ZqC {σ:Za} {x:AVal} (h:∀ cs,x≠.agg cs):showA σ x=Zbh σ x:=by
 cases x <;> first | rfl | exact absurd rfl (h _)
theorem Zf9 (x:AVal):(∃ cs,x=.agg cs)\/∀ cs,x≠.agg cs:=by
 cases x <;> first | exact Or.inl ⟨_,rfl⟩ | (right;intro cs;simp)
theorem ZvZ {σ:Za} {x:AVal} (h:ZS x=true):showA σ x=some (ZJ x,[]):=by
 rcases Zf9 x with ⟨cs,rfl⟩ | hn
 ·simp only [ZS] at h
  simp only [showA,ZjG h,ZJ]
 ·rw [(Zdk hn).1] at h
  rw [ZqC hn,(Zdk hn).2]
  exact Zjf h
theorem ZgE {σ:Za}:∀ {xs:List AVal},xs.all ZS=true->showAs σ xs=some (xs.map ZJ,[])
 | [],_=>rfl
 | x::xs,h=>by
  simp only [List.all_cons,Bool.and_eq_true] at h
  simp only [showAs,ZvZ h.1,ZgE h.2,List.map_cons,List.append_nil]
theorem Zji {x:AVal} (h:ZW x=true):ZT (Zao x)=[]:=by
 cases x
 case fn f cs=>cases cs <;> simp [ZW] at h;rfl
 all_goals first | (simp [ZW] at h;done) | rfl
theorem Zi0:∀ {xs:List AVal},xs.all ZW=true->ZA (xs.map Zao)=[]
 | [],_=>rfl
 | x::xs,h=>by
  simp only [List.all_cons,Bool.and_eq_true] at h
  simp only [List.map_cons,ZA,Zji h.1,Zi0 h.2,List.append_nil]
theorem ZnQ {x:AVal} (h:ZS x=true):ZT (ZJ x)=[]:=by
 rcases Zf9 x with ⟨cs,rfl⟩ | hn
 ·simp only [ZS] at h
  simp only [ZJ,ZT];exact Zi0 h
 ·rw [(Zdk hn).1] at h
  rw [(Zdk hn).2];exact Zji h
theorem Zfp:∀ {xs:List AVal},xs.all ZS=true->ZA (xs.map ZJ)=[]
 | [],_=>rfl
 | x::xs,h=>by
  simp only [List.all_cons,Bool.and_eq_true] at h
  simp only [List.map_cons,ZA,ZnQ h.1,Zfp h.2,List.append_nil]
theorem Zh8 {ρ:Rho} {x:AVal} (h:ZW x=true):Ze ρ (Zao x)=Zao x:=by
 cases x
 case fn f cs=>cases cs <;> simp [ZW] at h;rfl
 all_goals first | (simp [ZW] at h;done) | rfl
theorem Zju {ρ:Rho}:∀ {xs:List AVal},xs.all ZW=true->Zt ρ (xs.map Zao)=xs.map Zao
 | [],_=>rfl
 | x::xs,h=>by
  simp only [List.all_cons,Bool.and_eq_true] at h
  simp only [List.map_cons,Zt,Zh8 h.1,Zju h.2]
theorem Zqu {ρ:Rho} {x:AVal} (h:ZS x=true):Ze ρ (ZJ x)=ZJ x:=by
 rcases Zf9 x with ⟨cs,rfl⟩ | hn
 ·simp only [ZS] at h
  simp only [ZJ,Ze];rw [Zju h]
 ·rw [(Zdk hn).1] at h
  rw [(Zdk hn).2];exact Zh8 h
theorem Ze2 {ρ:Rho}:∀ {xs:List AVal},xs.all ZS=true->Zt ρ (xs.map ZJ)=xs.map ZJ
 | [],_=>rfl
 | x::xs,h=>by
  simp only [List.all_cons,Bool.and_eq_true] at h
  simp only [List.map_cons,Zt,Zqu h.1,Ze2 h.2]
theorem ZvR {O:Zn} {bf:Nat->Bool} {σ:Za} {sq f own:Nat} {view:Bool} {args:List AVal} (hb:bf f=false) (h:args.all ZS=true) :
  Zx O bf σ sq f own view args=Zae σ σ [] [] sq own (ZaF view 0 (O f (args.map ZJ) [])):=by
 unfold Zx Zbq
 rw [hb]
 simp only [Bool.false_eq_true,if_false,ZgE h]
 have h1:Zh σ []=σ:=rfl
 rw [h1,Zfp h]
 have h2:Zm σ 1000 [] []=[]:=rfl
 rw [h2]
 unfold Zbg
 simp only [List.all_nil,if_true,Ze2 h,Zj,List.length_nil]
theorem ZrY (σ:Za) (sq own:Nat) (r:AVal) (h:Ze (Zaw [] [] sq) r=r):Zae σ σ [] [] sq own (some (r,[]))=some (r,σ,{}):=by
 simp only [Zae,List.isEmpty_nil,Bool.and_self,if_true,Zb3,Bool.not_true,Bool.false_and,Bool.false_eq_true,if_false]
 split
 ·rfl
 ·rw [h]
end
section
section
variable (ρ:Rho) (σ:Za)
theorem ZtH  : ZN (.top)=false:=rfl
theorem Zuy  : ZN (.any)=false:=rfl
theorem Zp5 (k:IntKind) (n:Int):ZN (.int k n)=false:=rfl
theorem Zqf (b:Bool):ZN (.bool b)=false:=rfl
theorem ZrC (l:List UInt8):ZN (.str l)=false:=rfl
theorem Zte  : ZN (.nilp)=false:=rfl
theorem Zpj (t:Nat) (o:Nat):ZN (.ref t o)=false:=rfl
theorem ZmD (t:Nat) (g:Nat) (i:Nat) (o:Nat):ZN (.eref t g i o)=false:=rfl
theorem Zsm (cs:List AVal) (o:Nat):ZN (.iptr cs o)=false:=rfl
theorem ZmB (x:Bool) (xs:List AVal):ZN (.lst x xs)=false:=rfl
theorem Zt9 (t:Nat) (g:Nat) (lo:Nat) (n:Nat):ZN (.sl t g lo n)=false:=rfl
theorem Zpt (cs:List AVal):ZN (.agg cs)=false:=rfl
theorem ZtU (vs:List AVal):ZN (.tup vs)=false:=rfl
theorem Zsb (f:Nat) (caps:List AVal):ZN (.fn f caps)=false:=rfl
theorem Zs9  : ZN (.nilm)=false:=rfl
theorem Zvw (t:Nat):ZN (.map t)=false:=rfl
theorem Zq2  : ZN (.nili)=false:=rfl
theorem ZpB (t:Nat) (x:AVal):ZN (.iface t x)=false:=rfl
theorem ZrE (x:AVal):ZN (.pan x)=true:=rfl
theorem ZtW  : ZB (.top)=false:=rfl
theorem Zk6  : ZB (.any)=true:=rfl
theorem Zlz (k:IntKind) (n:Int):ZB (.int k n)=true:=rfl
theorem ZnJ (b:Bool):ZB (.bool b)=true:=rfl
theorem ZoG (l:List UInt8):ZB (.str l)=true:=rfl
theorem Znw  : ZB (.nilp)=true:=rfl
theorem ZoC (t:Nat) (o:Nat):ZB (.ref t o)=true:=rfl
theorem ZlX (t:Nat) (g:Nat) (i:Nat) (o:Nat):ZB (.eref t g i o)=true:=rfl
theorem Zvl (cs:List AVal) (o:Nat):ZB (.iptr cs o)=true:=rfl
theorem ZoT (x:Bool) (xs:List AVal):ZB (.lst x xs)=true:=rfl
theorem ZoZ (t:Nat) (g:Nat) (lo:Nat) (n:Nat):ZB (.sl t g lo n)=true:=rfl
theorem ZpV (cs:List AVal):ZB (.agg cs)=false:=rfl
theorem ZmI (vs:List AVal):ZB (.tup vs)=false:=rfl
theorem ZtT (f:Nat) (caps:List AVal):ZB (.fn f caps)=true:=rfl
theorem Zpo  : ZB (.nilm)=true:=rfl
theorem Zr0 (t:Nat):ZB (.map t)=true:=rfl
theorem ZvJ  : ZB (.nili)=true:=rfl
theorem ZjZ (t:Nat) (x:AVal):ZB (.iface t x)=true:=rfl
theorem ZuC (x:AVal):ZB (.pan x)=false:=rfl
theorem ZpO  : ZaI (.top)=false:=rfl
theorem Zqn  : ZaI (.any)=true:=rfl
theorem Zqs (k:IntKind) (n:Int):ZaI (.int k n)=true:=rfl
theorem ZlS (b:Bool):ZaI (.bool b)=true:=rfl
theorem ZuP (l:List UInt8):ZaI (.str l)=true:=rfl
theorem Zux  : ZaI (.nilp)=true:=rfl
theorem Zmc (t:Nat) (o:Nat):ZaI (.ref t o)=true:=rfl
theorem Zrj (t:Nat) (g:Nat) (i:Nat) (o:Nat):ZaI (.eref t g i o)=true:=rfl
theorem Zqp (cs:List AVal) (o:Nat):ZaI (.iptr cs o)=true:=rfl
theorem ZvG (x:Bool) (xs:List AVal):ZaI (.lst x xs)=true:=rfl
theorem Zsq (t:Nat) (g:Nat) (lo:Nat) (n:Nat):ZaI (.sl t g lo n)=true:=rfl
theorem Zv5 (cs:List AVal):ZaI (.agg cs)=true:=rfl
theorem ZlZ (vs:List AVal):ZaI (.tup vs)=true:=rfl
theorem Zok (f:Nat) (caps:List AVal):ZaI (.fn f caps)=true:=rfl
theorem ZqU  : ZaI (.nilm)=true:=rfl
theorem Zpl (t:Nat):ZaI (.map t)=true:=rfl
theorem ZnZ  : ZaI (.nili)=true:=rfl
theorem ZpL (t:Nat) (x:AVal):ZaI (.iface t x)=true:=rfl
theorem Zmf (x:AVal):ZaI (.pan x)=true:=rfl
theorem ZtA  : Zac (.top)=false:=rfl
theorem ZrG  : Zac (.any)=false:=rfl
theorem Zoe (k:IntKind) (n:Int):Zac (.int k n)=true:=rfl
theorem Zlu (b:Bool):Zac (.bool b)=true:=rfl
theorem Zpn (l:List UInt8):Zac (.str l)=true:=rfl
theorem Zs0  : Zac (.nilp)=true:=rfl
theorem ZkM (t:Nat) (o:Nat):Zac (.ref t o)=false:=rfl
theorem Zrv (t:Nat) (g:Nat) (i:Nat) (o:Nat):Zac (.eref t g i o)=false:=rfl
theorem Zlk (cs:List AVal) (o:Nat):Zac (.iptr cs o)=false:=rfl
theorem ZuX (x:Bool) (xs:List AVal):Zac (.lst x xs)=false:=rfl
theorem Zsh (t:Nat) (g:Nat) (lo:Nat) (n:Nat):Zac (.sl t g lo n)=false:=rfl
theorem Zu5 (cs:List AVal):Zac (.agg cs)=false:=rfl
theorem Zo0 (vs:List AVal):Zac (.tup vs)=false:=rfl
theorem ZnC (f:Nat) (caps:List AVal):Zac (.fn f caps)=false:=rfl
theorem Zrd  : Zac (.nilm)=true:=rfl
theorem ZvV (t:Nat):Zac (.map t)=false:=rfl
theorem ZrF  : Zac (.nili)=true:=rfl
theorem Zv8 (t:Nat) (x:AVal):Zac (.iface t x)=false:=rfl
theorem Zox (x:AVal):Zac (.pan x)=false:=rfl
theorem Zpy  : Zau (.top)=false:=rfl
theorem Zmt  : Zau (.any)=false:=rfl
theorem ZlF (k:IntKind) (n:Int):Zau (.int k n)=true:=rfl
theorem Zor (b:Bool):Zau (.bool b)=true:=rfl
theorem Zuo (l:List UInt8):Zau (.str l)=true:=rfl
theorem Zn7  : Zau (.nilp)=true:=rfl
theorem Zow (t:Nat) (o:Nat):Zau (.ref t o)=false:=rfl
theorem Zvk (t:Nat) (g:Nat) (i:Nat) (o:Nat):Zau (.eref t g i o)=false:=rfl
theorem Zqk (cs:List AVal) (o:Nat):Zau (.iptr cs o)=false:=rfl
theorem ZoP (x:Bool) (xs:List AVal):Zau (.lst x xs)=false:=rfl
theorem Zr3 (t:Nat) (g:Nat) (lo:Nat) (n:Nat):Zau (.sl t g lo n)=false:=rfl
theorem Zm9 (cs:List AVal):Zau (.agg cs)=cs.all Zac:=rfl
theorem Zuk (vs:List AVal):Zau (.tup vs)=false:=rfl
theorem ZqI (f:Nat) (caps:List AVal):Zau (.fn f caps)=false:=rfl
theorem ZvE  : Zau (.nilm)=true:=rfl
theorem ZnI (t:Nat):Zau (.map t)=false:=rfl
theorem Zlm  : Zau (.nili)=true:=rfl
theorem Zm4 (t:Nat) (x:AVal):Zau (.iface t x)=false:=rfl
theorem ZpN (x:AVal):Zau (.pan x)=false:=rfl
theorem ZqL  : ZaD (.top)=false:=rfl
theorem Zss  : ZaD (.any)=false:=rfl
theorem Zp4 (k:IntKind) (n:Int):ZaD (.int k n)=true:=rfl
theorem ZsM (b:Bool):ZaD (.bool b)=true:=rfl
theorem Zn8 (l:List UInt8):ZaD (.str l)=true:=rfl
theorem Zl9  : ZaD (.nilp)=true:=rfl
theorem Zmg (t:Nat) (o:Nat):ZaD (.ref t o)=false:=rfl
theorem ZlQ (t:Nat) (g:Nat) (i:Nat) (o:Nat):ZaD (.eref t g i o)=false:=rfl
theorem Zqc (cs:List AVal) (o:Nat):ZaD (.iptr cs o)=false:=rfl
theorem ZrJ (x:Bool) (xs:List AVal):ZaD (.lst x xs)=false:=rfl
theorem ZuM (t:Nat) (g:Nat) (lo:Nat) (n:Nat):ZaD (.sl t g lo n)=false:=rfl
theorem ZuZ (cs:List AVal):ZaD (.agg cs)=cs.all Zac:=rfl
theorem Zu4 (vs:List AVal):ZaD (.tup vs)=vs.all Zau:=rfl
theorem Zn6 (f:Nat) (caps:List AVal):ZaD (.fn f caps)=false:=rfl
theorem ZtF  : ZaD (.nilm)=true:=rfl
theorem Zmp (t:Nat):ZaD (.map t)=false:=rfl
theorem ZnU  : ZaD (.nili)=true:=rfl
theorem Zrp (t:Nat) (x:AVal):ZaD (.iface t x)=false:=rfl
theorem ZoH  : ZW (.top)=false:=rfl
theorem Zo8  : ZW (.any)=false:=rfl
theorem Zs1 (k:IntKind) (n:Int):ZW (.int k n)=true:=rfl
theorem Zqb (b:Bool):ZW (.bool b)=true:=rfl
theorem Zo4 (l:List UInt8):ZW (.str l)=true:=rfl
theorem ZnA  : ZW (.nilp)=true:=rfl
theorem ZuK (t:Nat) (o:Nat):ZW (.ref t o)=false:=rfl
theorem Zo9 (t:Nat) (g:Nat) (i:Nat) (o:Nat):ZW (.eref t g i o)=false:=rfl
theorem Zn3 (cs:List AVal) (o:Nat):ZW (.iptr cs o)=false:=rfl
theorem ZnR (x:Bool) (xs:List AVal):ZW (.lst x xs)=true:=rfl
theorem ZqZ (t:Nat) (g:Nat) (lo:Nat) (n:Nat):ZW (.sl t g lo n)=false:=rfl
theorem Zp0 (cs:List AVal):ZW (.agg cs)=false:=rfl
theorem Zki (vs:List AVal):ZW (.tup vs)=false:=rfl
theorem ZjW  : ZW (.nilm)=true:=rfl
theorem ZsZ (t:Nat):ZW (.map t)=false:=rfl
theorem Zq1  : ZW (.nili)=true:=rfl
theorem Zr9 (t:Nat) (x:AVal):ZW (.iface t x)=false:=rfl
theorem Zke (x:AVal):ZW (.pan x)=false:=rfl
theorem Znt  : ZS (.top)=false:=rfl
theorem ZnP  : ZS (.any)=false:=rfl
theorem Znp (k:IntKind) (n:Int):ZS (.int k n)=true:=rfl
theorem Zk7 (b:Bool):ZS (.bool b)=true:=rfl
theorem ZrS (l:List UInt8):ZS (.str l)=true:=rfl
theorem Znq  : ZS (.nilp)=true:=rfl
theorem Zlt (t:Nat) (o:Nat):ZS (.ref t o)=false:=rfl
theorem ZlA (t:Nat) (g:Nat) (i:Nat) (o:Nat):ZS (.eref t g i o)=false:=rfl
theorem ZlP (cs:List AVal) (o:Nat):ZS (.iptr cs o)=false:=rfl
theorem Zvf (x:Bool) (xs:List AVal):ZS (.lst x xs)=true:=rfl
theorem ZsR (t:Nat) (g:Nat) (lo:Nat) (n:Nat):ZS (.sl t g lo n)=false:=rfl
theorem ZrB (cs:List AVal):ZS (.agg cs)=cs.all ZW:=rfl
theorem Zkf (vs:List AVal):ZS (.tup vs)=false:=rfl
theorem Zso  : ZS (.nilm)=true:=rfl
theorem Zsz (t:Nat):ZS (.map t)=false:=rfl
theorem Zt0  : ZS (.nili)=true:=rfl
theorem ZnG (t:Nat) (x:AVal):ZS (.iface t x)=false:=rfl
theorem ZoL (x:AVal):ZS (.pan x)=false:=rfl
theorem Zk4  : Zao (.top)=(.top):=rfl
theorem Zkb  : Zao (.any)=(.any):=rfl
theorem ZmJ (k:IntKind) (n:Int):Zao (.int k n)=(.int k n):=rfl
theorem Zvz (b:Bool):Zao (.bool b)=(.bool b):=rfl
theorem Zkl (l:List UInt8):Zao (.str l)=(.str l):=rfl
theorem Zp2  : Zao (.nilp)=(.nilp):=rfl
theorem ZoE (t:Nat) (o:Nat):Zao (.ref t o)=(.ref t o):=rfl
theorem Zna (t:Nat) (g:Nat) (i:Nat) (o:Nat):Zao (.eref t g i o)=(.eref t g i o):=rfl
theorem ZnW (cs:List AVal) (o:Nat):Zao (.iptr cs o)=(.iptr cs o):=rfl
theorem Zrt (x:Bool) (xs:List AVal):Zao (.lst x xs)=.lst false xs:=rfl
theorem ZqE (t:Nat) (g:Nat) (lo:Nat) (n:Nat):Zao (.sl t g lo n)=(.sl t g lo n):=rfl
theorem ZrD (cs:List AVal):Zao (.agg cs)=(.agg cs):=rfl
theorem ZkG (vs:List AVal):Zao (.tup vs)=(.tup vs):=rfl
theorem Zl6 (f:Nat) (caps:List AVal):Zao (.fn f caps)=(.fn f caps):=rfl
theorem Zpm  : Zao (.nilm)=(.nilm):=rfl
theorem ZmT (t:Nat):Zao (.map t)=(.map t):=rfl
theorem ZvN  : Zao (.nili)=(.nili):=rfl
theorem ZuG (t:Nat) (x:AVal):Zao (.iface t x)=(.iface t x):=rfl
theorem ZmC (x:AVal):Zao (.pan x)=(.pan x):=rfl
theorem Zkg  : ZJ (.top)=(.top):=rfl
theorem Zrc  : ZJ (.any)=(.any):=rfl
theorem Zkh (k:IntKind) (n:Int):ZJ (.int k n)=(.int k n):=rfl
theorem Zrz (b:Bool):ZJ (.bool b)=(.bool b):=rfl
theorem Zrm (l:List UInt8):ZJ (.str l)=(.str l):=rfl
theorem ZqN  : ZJ (.nilp)=(.nilp):=rfl
theorem Ztu (t:Nat) (o:Nat):ZJ (.ref t o)=(.ref t o):=rfl
theorem Zt4 (t:Nat) (g:Nat) (i:Nat) (o:Nat):ZJ (.eref t g i o)=(.eref t g i o):=rfl
theorem Zon (cs:List AVal) (o:Nat):ZJ (.iptr cs o)=(.iptr cs o):=rfl
theorem ZsX (x:Bool) (xs:List AVal):ZJ (.lst x xs)=.lst false xs:=rfl
theorem Zk9 (t:Nat) (g:Nat) (lo:Nat) (n:Nat):ZJ (.sl t g lo n)=(.sl t g lo n):=rfl
theorem ZkU (cs:List AVal):ZJ (.agg cs)=.agg (cs.map Zao):=rfl
theorem ZkY (vs:List AVal):ZJ (.tup vs)=(.tup vs):=rfl
theorem ZkJ (f:Nat) (caps:List AVal):ZJ (.fn f caps)=(.fn f caps):=rfl
theorem Zmi  : ZJ (.nilm)=(.nilm):=rfl
theorem Zv4 (t:Nat):ZJ (.map t)=(.map t):=rfl
theorem Zs7  : ZJ (.nili)=(.nili):=rfl
theorem Zri (t:Nat) (x:AVal):ZJ (.iface t x)=(.iface t x):=rfl
theorem Zvv (x:AVal):ZJ (.pan x)=(.pan x):=rfl
theorem Zq0  : AVal.cells (.top)=[(.top)]:=rfl
theorem Zq4  : AVal.cells (.any)=[(.any)]:=rfl
theorem Zp6 (k:IntKind) (n:Int):AVal.cells (.int k n)=[(.int k n)]:=rfl
theorem ZtQ (b:Bool):AVal.cells (.bool b)=[(.bool b)]:=rfl
theorem ZjV (l:List UInt8):AVal.cells (.str l)=[(.str l)]:=rfl
theorem Zmb  : AVal.cells (.nilp)=[(.nilp)]:=rfl
theorem Zt5 (t:Nat) (o:Nat):AVal.cells (.ref t o)=[(.ref t o)]:=rfl
theorem Zqt (t:Nat) (g:Nat) (i:Nat) (o:Nat):AVal.cells (.eref t g i o)=[(.eref t g i o)]:=rfl
theorem Zos (cs:List AVal) (o:Nat):AVal.cells (.iptr cs o)=[(.iptr cs o)]:=rfl
theorem Zsy (x:Bool) (xs:List AVal):AVal.cells (.lst x xs)=[(.lst x xs)]:=rfl
theorem ZrZ (t:Nat) (g:Nat) (lo:Nat) (n:Nat):AVal.cells (.sl t g lo n)=[(.sl t g lo n)]:=rfl
theorem Zph (cs:List AVal):AVal.cells (.agg cs)=cs:=rfl
theorem Zus (vs:List AVal):AVal.cells (.tup vs)=[(.tup vs)]:=rfl
theorem Zkr (f:Nat) (caps:List AVal):AVal.cells (.fn f caps)=[(.fn f caps)]:=rfl
theorem ZvP  : AVal.cells (.nilm)=[(.nilm)]:=rfl
theorem ZvS (t:Nat):AVal.cells (.map t)=[(.map t)]:=rfl
theorem Zv1  : AVal.cells (.nili)=[(.nili)]:=rfl
theorem Zpa (t:Nat) (x:AVal):AVal.cells (.iface t x)=[(.iface t x)]:=rfl
theorem Zk8 (x:AVal):AVal.cells (.pan x)=[(.pan x)]:=rfl
theorem Zv9  : ZP (.top)=(.top):=rfl
theorem ZlB  : ZP (.any)=(.any):=rfl
theorem Zqz (k:IntKind) (n:Int):ZP (.int k n)=(.int k n):=rfl
theorem ZtD (b:Bool):ZP (.bool b)=(.bool b):=rfl
theorem ZvH (l:List UInt8):ZP (.str l)=(.str l):=rfl
theorem Zlo  : ZP (.nilp)=(.nilp):=rfl
theorem ZuV (t:Nat) (o:Nat):ZP (.ref t o)=(.ref t o):=rfl
theorem ZtR (t:Nat) (g:Nat) (i:Nat) (o:Nat):ZP (.eref t g i o)=(.eref t g i o):=rfl
theorem Zud (cs:List AVal) (o:Nat):ZP (.iptr cs o)=(.iptr cs o):=rfl
theorem Zom (x:Bool) (xs:List AVal):ZP (.lst x xs)=(.lst x xs):=rfl
theorem ZtG (t:Nat) (g:Nat) (lo:Nat) (n:Nat):ZP (.sl t g lo n)=(.sl t g lo n):=rfl
theorem Zuh (cs:List AVal):ZP (.agg cs)=(.agg cs):=rfl
theorem ZnX (vs:List AVal):ZP (.tup vs)=(.tup vs):=rfl
theorem Zpu (f:Nat) (caps:List AVal):ZP (.fn f caps)=(.fn f caps):=rfl
theorem Zs5  : ZP (.nilm)=(.nilm):=rfl
theorem ZnF (t:Nat):ZP (.map t)=(.map t):=rfl
theorem ZmU  : ZP (.nili)=(.nili):=rfl
theorem Zu1 (t:Nat) (x:AVal):ZP (.iface t x)=(.iface t x):=rfl
theorem Zkw (x:AVal):ZP (.pan x)=x:=rfl
theorem ZoY  : ZX (.top)=4:=rfl
theorem Ztn  : ZX (.any)=4:=rfl
theorem Zk0 (k:IntKind) (n:Int):ZX (.int k n)=0:=rfl
theorem Zpq (b:Bool):ZX (.bool b)=1:=rfl
theorem ZsD (l:List UInt8):ZX (.str l)=2:=rfl
theorem ZsA  : ZX (.nilp)=4:=rfl
theorem Zmq (t:Nat) (o:Nat):ZX (.ref t o)=4:=rfl
theorem Zob (t:Nat) (g:Nat) (i:Nat) (o:Nat):ZX (.eref t g i o)=4:=rfl
theorem ZpR (cs:List AVal) (o:Nat):ZX (.iptr cs o)=4:=rfl
theorem ZoB (x:Bool) (xs:List AVal):ZX (.lst x xs)=4:=rfl
theorem Zlh (t:Nat) (g:Nat) (lo:Nat) (n:Nat):ZX (.sl t g lo n)=4:=rfl
theorem Zkk (cs:List AVal):ZX (.agg cs)=4:=rfl
theorem Ztc (vs:List AVal):ZX (.tup vs)=4:=rfl
theorem ZvO (f:Nat) (caps:List AVal):ZX (.fn f caps)=4:=rfl
theorem Zrw  : ZX (.nilm)=4:=rfl
theorem Zot (t:Nat):ZX (.map t)=4:=rfl
theorem ZqT  : ZX (.nili)=4:=rfl
theorem Zu2 (t:Nat) (x:AVal):ZX (.iface t x)=4:=rfl
theorem ZpK (x:AVal):ZX (.pan x)=4:=rfl
theorem Zqi  : ZT (.top)=[]:=rfl
theorem Zn9  : ZT (.any)=[]:=rfl
theorem Zrg (k:IntKind) (n:Int):ZT (.int k n)=[]:=rfl
theorem ZlT (b:Bool):ZT (.bool b)=[]:=rfl
theorem Zq6 (l:List UInt8):ZT (.str l)=[]:=rfl
theorem ZnS  : ZT (.nilp)=[]:=rfl
theorem Zsr (t:Nat) (o:Nat):ZT (.ref t o)=[t]:=rfl
theorem ZlE (t:Nat) (g:Nat) (i:Nat) (o:Nat):ZT (.eref t g i o)=[t]:=rfl
theorem Zol (cs:List AVal) (o:Nat):ZT (.iptr cs o)=[]:=rfl
theorem Zp1 (x:Bool) (xs:List AVal):ZT (.lst x xs)=[]:=rfl
theorem Zj4 (t:Nat) (g:Nat) (lo:Nat) (n:Nat):ZT (.sl t g lo n)=[t]:=rfl
theorem Zoo (cs:List AVal):ZT (.agg cs)=ZA cs:=rfl
theorem ZvQ (vs:List AVal):ZT (.tup vs)=ZA vs:=rfl
theorem Zmy (f:Nat) (caps:List AVal):ZT (.fn f caps)=ZA caps:=rfl
theorem Znv  : ZT (.nilm)=[]:=rfl
theorem Zpz (t:Nat):ZT (.map t)=[t]:=rfl
theorem ZuH  : ZT (.nili)=[]:=rfl
theorem ZtV (t:Nat) (x:AVal):ZT (.iface t x)=ZT x:=rfl
theorem Zt6 (x:AVal):ZT (.pan x)=ZT x:=rfl
theorem Zmj  : Ze ρ (.top)=(.top):=rfl
theorem Zo2  : Ze ρ (.any)=(.any):=rfl
theorem ZoK (k:IntKind) (n:Int):Ze ρ (.int k n)=(.int k n):=rfl
theorem ZvL (b:Bool):Ze ρ (.bool b)=(.bool b):=rfl
theorem Znl (l:List UInt8):Ze ρ (.str l)=(.str l):=rfl
theorem Zv7  : Ze ρ (.nilp)=(.nilp):=rfl
theorem Zo3 (cs:List AVal) (o:Nat):Ze ρ (.iptr cs o)=(.iptr cs o):=rfl
theorem Zlj (x:Bool) (xs:List AVal):Ze ρ (.lst x xs)=(.lst x xs):=rfl
theorem ZkO (cs:List AVal):Ze ρ (.agg cs)=.agg (Zt ρ cs):=rfl
theorem ZmE (vs:List AVal):Ze ρ (.tup vs)=.tup (Zt ρ vs):=rfl
theorem Zl0 (f:Nat) (caps:List AVal):Ze ρ (.fn f caps)=.fn f (Zt ρ caps):=rfl
theorem ZlK  : Ze ρ (.nilm)=(.nilm):=rfl
theorem Zwa  : Ze ρ (.nili)=(.nili):=rfl
theorem ZsV (t:Nat) (x:AVal):Ze ρ (.iface t x)=.iface t (Ze ρ x):=rfl
theorem Ztq (x:AVal):Ze ρ (.pan x)=.pan (Ze ρ x):=rfl
theorem Zl7 (f:Nat):ZW (.fn f [])=true:=rfl
theorem ZuR (f:Nat):ZS (.fn f [])=true:=rfl
theorem ZmK (t:Nat) (x:AVal):ZaD (.pan (.iface t x))=Zac x:=rfl
theorem Zt2 (live:List Nat) (tm:Tms):Ze9 live (some (tm,σ,none))=some (.normal,keepL live tm,σ):=rfl
theorem Zpx (live:List Nat) (tm:Tms) (x:AVal):Ze9 live (some (tm,σ,some x))=some (.panic x,[],σ):=rfl
theorem Zoq (live:List Nat):Ze9 live none=none:=rfl
theorem Zm2 (t o:Nat):Ze ρ (.ref t o)=(match ρ t 0 with | some (t',0)=>.ref t' o | _=>.any):=rfl
theorem Zns (t:Nat):Ze ρ (.map t)=(match ρ t 0 with | some (t',0)=>.map t' | _=>.any):=rfl
theorem Zkm (t g lo n:Nat):Ze ρ (.sl t g lo n)=(match ρ t g with | some (t',g')=>.sl t' g' lo n | none=>.any):=rfl
theorem ZmW (t g i o:Nat):Ze ρ (.eref t g i o)=(match ρ t g with | some (t',g')=>.eref t' g' i o | none=>.any):=rfl
theorem Zsn:ZA []=[]:=rfl
theorem ZrO (x:AVal) (xs:List AVal):ZA (x::xs)=ZT x++ZA xs:=rfl
theorem Zvg:Zt ρ []=[]:=rfl
theorem ZqJ (x:AVal) (xs:List AVal):Zt ρ (x::xs)=Ze ρ x::Zt ρ xs:=rfl
end
end
section
mutual
def ZK:AVal->Bool
 | .ref _ _=>false
 | .eref _ _ _ _=>false
 | .sl _ _ _ _=>false
 | .map _=>false
 | .agg cs=>ZH cs
 | .tup vs=>ZH vs
 | .fn _ vs=>ZH vs
 | .iface _ x=>ZK x
 | .pan x=>ZK x
 | .top=>true
 | .any=>true
 | .int _ _=>true
 | .bool _=>true
 | .str _=>true
 | .nilp=>true
 | .nilm=>true
 | .nili=>true
 | .iptr _ _=>true
 | .lst _ _=>true
def ZH:List AVal->Bool
 | []=>true
 | x::xs=>ZK x && ZH xs
end
mutual
theorem Zcr (ρ:Rho):∀ (x:AVal),ZK x=true->Ze ρ x=x/\ZT x=[]
 | .ref _ _,h=>by simp [ZK] at h
 | .eref _ _ _ _,h=>by simp [ZK] at h
 | .sl _ _ _ _,h=>by simp [ZK] at h
 | .map _,h=>by simp [ZK] at h
 | .agg cs,h=>by have:=Zd5 ρ cs (by simpa only [ZK] using h);exact ⟨by simp only [Ze,this.1],by simp only [ZT,this.2]⟩
 | .tup cs,h=>by have:=Zd5 ρ cs (by simpa only [ZK] using h);exact ⟨by simp only [Ze,this.1],by simp only [ZT,this.2]⟩
 | .fn f cs,h=>by have:=Zd5 ρ cs (by simpa only [ZK] using h);exact ⟨by simp only [Ze,this.1],by simp only [ZT,this.2]⟩
 | .iface t x,h=>by have:=Zcr ρ x (by simpa only [ZK] using h);exact ⟨by simp only [Ze,this.1],by simp only [ZT,this.2]⟩
 | .pan x,h=>by have:=Zcr ρ x (by simpa only [ZK] using h);exact ⟨by simp only [Ze,this.1],by simp only [ZT,this.2]⟩
 | .top,_=>⟨rfl,rfl⟩
 | .any,_=>⟨rfl,rfl⟩
 | .int _ _,_=>⟨rfl,rfl⟩
 | .bool _,_=>⟨rfl,rfl⟩
 | .str _,_=>⟨rfl,rfl⟩
 | .nilp,_=>⟨rfl,rfl⟩
 | .nilm,_=>⟨rfl,rfl⟩
 | .nili,_=>⟨rfl,rfl⟩
 | .iptr _ _,_=>⟨rfl,rfl⟩
 | .lst _ _,_=>⟨rfl,rfl⟩
theorem Zd5 (ρ:Rho):∀ (xs:List AVal),ZH xs=true->Zt ρ xs=xs/\ZA xs=[]
 | [],_=>⟨rfl,rfl⟩
 | x::xs,h=>by
  simp only [ZH,Bool.and_eq_true] at h
  have h1:=Zcr ρ x h.1
  have h2:=Zd5 ρ xs h.2
  exact ⟨by simp only [Zt,h1.1,h2.1],by simp only [ZA,h1.2,h2.2,List.append_nil]⟩
end
theorem ZkI {σ:Za} {r:AVal} (h:ZK r=true):ZaJ 0 σ r=some (r,[]):=by
 have h1:=Zcr (Zf σ 0 []) r h
 have hids:Zy 0 [r] σ=[]:=by
  unfold Zy
  simp only [ZA,h1.2,List.append_nil,List.range_zero,List.flatMap_nil]
  rfl
 unfold ZaJ gcA
 simp only [hids,Zt,Zj,h1.1]
def ZaU:AVal->AVal
 | .tup vs=>.tup (vs.map ZJ)
 | x=>ZJ x
def ZaS:AVal->Bool
 | .tup vs=>vs.all ZS
 | x=>ZS x
def ZaC:AVal->Bool
 | .fn _ _=>false
 | _=>true
def ZaG:AVal->Bool
 | .agg cs=>cs.all ZaC
 | x=>ZaC x
def ZaT:AVal->Bool
 | .tup vs=>vs.all ZaG
 | x=>ZaG x
theorem ZnY {m:Nat} {fn:ZR} {tm:Tms} {σ:Za}:Zat m fn (some (.ret,tm,σ))=match resA tm σ fn.res with
  | some r=>ZaJ m σ r
  | none=>none:=rfl
theorem Zuw {m:Nat} {fn:ZR} {tm:Tms} {σ:Za}:Zat m fn (some (.normal,tm,σ))=match resA tm σ fn.res with
  | some r=>ZaJ m σ r
  | none=>none:=rfl
theorem Zo5 {m:Nat} {fn:ZR} {tm:Tms} {σ:Za} {x:AVal}:Zat m fn (some (.panic x,tm,σ))=ZaJ m σ (.pan x):=rfl
theorem Zvt  : ZK (.top)=true:=rfl
theorem Zq9  : ZK (.any)=true:=rfl
theorem ZmS (k:IntKind) (n:Int):ZK (.int k n)=true:=rfl
theorem ZmP (b:Bool):ZK (.bool b)=true:=rfl
theorem Zm7 (l:List UInt8):ZK (.str l)=true:=rfl
theorem Zng  : ZK (.nilp)=true:=rfl
theorem ZtZ (t:Nat) (o:Nat):ZK (.ref t o)=false:=rfl
theorem Zrs (t:Nat) (g:Nat) (i:Nat) (o:Nat):ZK (.eref t g i o)=false:=rfl
theorem ZrQ (cs:List AVal) (o:Nat):ZK (.iptr cs o)=true:=rfl
theorem ZqD (x:Bool) (xs:List AVal):ZK (.lst x xs)=true:=rfl
theorem ZuL (t:Nat) (g:Nat) (lo:Nat) (n:Nat):ZK (.sl t g lo n)=false:=rfl
theorem Zqg (cs:List AVal):ZK (.agg cs)=ZH cs:=rfl
theorem Zuc (vs:List AVal):ZK (.tup vs)=ZH vs:=rfl
theorem Ztd (f:Nat) (caps:List AVal):ZK (.fn f caps)=ZH caps:=rfl
theorem Zu3  : ZK (.nilm)=true:=rfl
theorem Zp8 (t:Nat):ZK (.map t)=false:=rfl
theorem Zpp  : ZK (.nili)=true:=rfl
theorem Zro (t:Nat) (x:AVal):ZK (.iface t x)=ZK x:=rfl
theorem Zkj (x:AVal):ZK (.pan x)=ZK x:=rfl
theorem Zkc  : ZaC (.top)=true:=rfl
theorem ZoF  : ZaC (.any)=true:=rfl
theorem ZlI (k:IntKind) (n:Int):ZaC (.int k n)=true:=rfl
theorem Ztb (b:Bool):ZaC (.bool b)=true:=rfl
theorem Zta (l:List UInt8):ZaC (.str l)=true:=rfl
theorem Zl2  : ZaC (.nilp)=true:=rfl
theorem ZuA (t:Nat) (o:Nat):ZaC (.ref t o)=true:=rfl
theorem Ztv (t:Nat) (g:Nat) (i:Nat) (o:Nat):ZaC (.eref t g i o)=true:=rfl
theorem ZvI (cs:List AVal) (o:Nat):ZaC (.iptr cs o)=true:=rfl
theorem ZqX (x:Bool) (xs:List AVal):ZaC (.lst x xs)=true:=rfl
theorem Zqo (t:Nat) (g:Nat) (lo:Nat) (n:Nat):ZaC (.sl t g lo n)=true:=rfl
theorem Zvx (cs:List AVal):ZaC (.agg cs)=true:=rfl
theorem ZsE (vs:List AVal):ZaC (.tup vs)=true:=rfl
theorem ZqS (f:Nat) (caps:List AVal):ZaC (.fn f caps)=false:=rfl
theorem ZsJ  : ZaC (.nilm)=true:=rfl
theorem ZlY (t:Nat):ZaC (.map t)=true:=rfl
theorem ZrW  : ZaC (.nili)=true:=rfl
theorem ZkB (t:Nat) (x:AVal):ZaC (.iface t x)=true:=rfl
theorem ZlJ (x:AVal):ZaC (.pan x)=true:=rfl
theorem Zqx  : ZaG (.top)=true:=rfl
theorem ZlG  : ZaG (.any)=true:=rfl
theorem ZqQ (k:IntKind) (n:Int):ZaG (.int k n)=true:=rfl
theorem ZpW (b:Bool):ZaG (.bool b)=true:=rfl
theorem ZtS (l:List UInt8):ZaG (.str l)=true:=rfl
theorem Zpi  : ZaG (.nilp)=true:=rfl
theorem ZtL (t:Nat) (o:Nat):ZaG (.ref t o)=true:=rfl
theorem ZoU (t:Nat) (g:Nat) (i:Nat) (o:Nat):ZaG (.eref t g i o)=true:=rfl
theorem ZsC (cs:List AVal) (o:Nat):ZaG (.iptr cs o)=true:=rfl
theorem Zqv (x:Bool) (xs:List AVal):ZaG (.lst x xs)=true:=rfl
theorem Zls (t:Nat) (g:Nat) (lo:Nat) (n:Nat):ZaG (.sl t g lo n)=true:=rfl
theorem Ztr (cs:List AVal):ZaG (.agg cs)=cs.all ZaC:=rfl
theorem Zq3 (vs:List AVal):ZaG (.tup vs)=true:=rfl
theorem Zv0 (f:Nat) (caps:List AVal):ZaG (.fn f caps)=false:=rfl
theorem ZuS  : ZaG (.nilm)=true:=rfl
theorem ZmA (t:Nat):ZaG (.map t)=true:=rfl
theorem ZnL  : ZaG (.nili)=true:=rfl
theorem Zmv (t:Nat) (x:AVal):ZaG (.iface t x)=true:=rfl
theorem Zm3 (x:AVal):ZaG (.pan x)=true:=rfl
theorem Zs2  : ZaT (.top)=true:=rfl
theorem Zpc  : ZaT (.any)=true:=rfl
theorem ZmL (k:IntKind) (n:Int):ZaT (.int k n)=true:=rfl
theorem ZkH (b:Bool):ZaT (.bool b)=true:=rfl
theorem Zmw (l:List UInt8):ZaT (.str l)=true:=rfl
theorem Zr4  : ZaT (.nilp)=true:=rfl
theorem ZsI (t:Nat) (o:Nat):ZaT (.ref t o)=true:=rfl
theorem Zla (t:Nat) (g:Nat) (i:Nat) (o:Nat):ZaT (.eref t g i o)=true:=rfl
theorem ZsB (cs:List AVal) (o:Nat):ZaT (.iptr cs o)=true:=rfl
theorem Zq7 (x:Bool) (xs:List AVal):ZaT (.lst x xs)=true:=rfl
theorem ZqG (t:Nat) (g:Nat) (lo:Nat) (n:Nat):ZaT (.sl t g lo n)=true:=rfl
theorem ZnE (cs:List AVal):ZaT (.agg cs)=cs.all ZaC:=rfl
theorem ZqR (vs:List AVal):ZaT (.tup vs)=vs.all ZaG:=rfl
theorem ZsF (f:Nat) (caps:List AVal):ZaT (.fn f caps)=false:=rfl
theorem ZoQ  : ZaT (.nilm)=true:=rfl
theorem Zsw (t:Nat):ZaT (.map t)=true:=rfl
theorem Zli  : ZaT (.nili)=true:=rfl
theorem Zoa (t:Nat) (x:AVal):ZaT (.iface t x)=true:=rfl
theorem Zm0 (x:AVal):ZaT (.pan x)=true:=rfl
theorem Ztg  : ZaS (.top)=false:=rfl
theorem Zno  : ZaS (.any)=false:=rfl
theorem ZkE (k:IntKind) (n:Int):ZaS (.int k n)=true:=rfl
theorem Zlq (b:Bool):ZaS (.bool b)=true:=rfl
theorem Zkv (l:List UInt8):ZaS (.str l)=true:=rfl
theorem ZlO  : ZaS (.nilp)=true:=rfl
theorem Zu6 (t:Nat) (o:Nat):ZaS (.ref t o)=false:=rfl
theorem ZrU (t:Nat) (g:Nat) (i:Nat) (o:Nat):ZaS (.eref t g i o)=false:=rfl
theorem Zof (cs:List AVal) (o:Nat):ZaS (.iptr cs o)=false:=rfl
theorem ZsP (x:Bool) (xs:List AVal):ZaS (.lst x xs)=true:=rfl
theorem Zsp (t:Nat) (g:Nat) (lo:Nat) (n:Nat):ZaS (.sl t g lo n)=false:=rfl
theorem ZkC (cs:List AVal):ZaS (.agg cs)=cs.all ZW:=rfl
theorem ZnH (vs:List AVal):ZaS (.tup vs)=vs.all ZS:=rfl
theorem Zsa  : ZaS (.nilm)=true:=rfl
theorem Zn2 (t:Nat):ZaS (.map t)=false:=rfl
theorem Zpk  : ZaS (.nili)=true:=rfl
theorem ZtE (t:Nat) (x:AVal):ZaS (.iface t x)=false:=rfl
theorem ZqV (x:AVal):ZaS (.pan x)=false:=rfl
theorem Zug  : ZaU (.top)=(.top):=rfl
theorem ZuW  : ZaU (.any)=(.any):=rfl
theorem Zry (k:IntKind) (n:Int):ZaU (.int k n)=(.int k n):=rfl
theorem ZlL (b:Bool):ZaU (.bool b)=(.bool b):=rfl
theorem ZpG (l:List UInt8):ZaU (.str l)=(.str l):=rfl
theorem ZsY  : ZaU (.nilp)=(.nilp):=rfl
theorem ZkR (t:Nat) (o:Nat):ZaU (.ref t o)=(.ref t o):=rfl
theorem Znn (t:Nat) (g:Nat) (i:Nat) (o:Nat):ZaU (.eref t g i o)=(.eref t g i o):=rfl
theorem ZpJ (cs:List AVal) (o:Nat):ZaU (.iptr cs o)=(.iptr cs o):=rfl
theorem Zra (x:Bool) (xs:List AVal):ZaU (.lst x xs)=.lst false xs:=rfl
theorem Zmr (t:Nat) (g:Nat) (lo:Nat) (n:Nat):ZaU (.sl t g lo n)=(.sl t g lo n):=rfl
theorem Zn0 (cs:List AVal):ZaU (.agg cs)=.agg (cs.map Zao):=rfl
theorem Zku (vs:List AVal):ZaU (.tup vs)=.tup (vs.map ZJ):=rfl
theorem Zrr (f:Nat) (caps:List AVal):ZaU (.fn f caps)=(.fn f caps):=rfl
theorem Zop  : ZaU (.nilm)=(.nilm):=rfl
theorem Zl8 (t:Nat):ZaU (.map t)=(.map t):=rfl
theorem Zma  : ZaU (.nili)=(.nili):=rfl
theorem Zrf (t:Nat) (x:AVal):ZaU (.iface t x)=(.iface t x):=rfl
theorem ZsG (x:AVal):ZaU (.pan x)=(.pan x):=rfl
theorem ZmG:ZH []=true:=rfl
theorem ZvA (x:AVal) (xs:List AVal):ZH (x::xs)=(ZK x && ZH xs):=rfl
theorem ZvC (f:Nat):ZaS (.fn f [])=true:=rfl
theorem Zly (p q:Bool):(if p=true then q else false)=(p && q):=by cases p <;> rfl
theorem Zpd (p q:Bool):(if p=true then true else q)=(p || q):=by cases p <;> rfl
theorem Zlr (p q:Bool):(if p=true then false else q)=(!p && q):=by cases p <;> rfl
theorem Zl3 (p q:Bool):(if p=true then q else true)=(!p || q):=by cases p <;> rfl
theorem Ztm (p q:Bool):(if p=false then q else false)=(!p && q):=by cases p <;> rfl
theorem ZnT (p q:Bool):(if p=false then true else q)=(!p || q):=by cases p <;> rfl
theorem Zuf (p q:Bool):(if p=false then false else q)=(p && q):=by cases p <;> rfl
theorem ZoM (p q:Bool):(if p=false then q else true)=(p || q):=by cases p <;> rfl
section
def ZbT (o:AOp):AOp:=⟨o.dst,o.ins,o.guard,[]⟩
def ZaN:Zi->Zi
 | .region ops chk live=>.region (ops.map ZbT) chk live
 | .seq a b=>.seq (ZaN a) (ZaN b)
 | .cond c a b=>.cond c (ZaN a) (ZaN b)
 | .block id c=>.block id (ZaN c)
 | .loop live c=>.loop live (ZaN c)
 | .skip=>.skip
 | .exit id=>.exit id
 | .ret=>.ret
 | .stuck=>.stuck
def ZeM (f:ZR):ZR:=⟨f.res,ZaN f.body⟩
section
variable {O:Zn} {bf:Nat->Bool}
theorem ZrX (o:AOp) (s:Nat) (tm:Tms) (σ:Za):Zg O bf (ZbT o) s tm σ=Zg O bf o s tm σ:=rfl
theorem Zjl:∀ (ops:List AOp) (s:Nat) (tm:Tms) (σ:Za),Zl O bf (ops.map ZbT) s tm σ=Zl O bf ops s tm σ
 | [],_,_,_=>rfl
 | o::os,s,tm,σ=>by
  simp only [List.map_cons,Zl,ZrX]
  split
  ·rfl
  ·rfl
  ·rename_i tm' σ' c _ _
   rw [show (ZbT o).ins=o.ins from rfl,Zjl os]
theorem Zgh (ops:List AOp):sitesOf (ops.map ZbT)=sitesOf ops:=by
 simp [sitesOf,ZbT,Function.comp_def]
theorem Zfz (ops:List AOp) (i:Nat):((ops.map ZbT).getD i default).ins=(ops.getD i default).ins:=by
 simp only [List.getD_eq_getElem?_getD,List.getElem?_map]
 cases ops[i]? <;> rfl
theorem Znm (ops:List AOp) (b:Nat) (l:List (Nat×Nat)) (cs:List Cls):Zbs (ops.map ZbT) b l cs=Zbs ops b l cs:=by
 unfold Zbs
 congr 1
 funext p
 unfold Za3 ZaY
 rw [Zfz,Zfz,<-List.map_take,Zgh]
theorem Zql (ops:List AOp) (b:Nat) (l:List (Nat×Nat)) (cs:List Cls):Zds (ops.map ZbT) b l cs=Zds ops b l cs:=by
 unfold Zds
 congr 2
 funext p
 unfold Za3 ZaY
 rw [Zfz,Zfz,<-List.map_take,Zgh]
theorem ZsL (ops:List AOp) (chk:Option (List (Nat×Nat))) (live:List Nat) (tm:Tms) (σ:Za):Za5 O bf (ops.map ZbT) chk live tm σ=Za5 O bf ops chk live tm σ:=by
 unfold Za5
 rw [Zjl,Zgh]
 cases Zl O bf ops σ.length tm (σ++List.replicate (sitesOf ops) .free) with
 | none=>rfl
 | some q =>
  obtain ⟨tm',σ',cs,p⟩:=q
  cases p with
  | some x =>
   cases chk with
   | none=>rfl
   | some l=>simp only [ZbN,Zql]
  | none =>
   cases chk with
   | none=>rfl
   | some l=>simp only [ZbN,Znm]
theorem Zb2 (m n:Nat):∀ (c:Zi),Zq O bf m n (ZaN c)=Zq O bf m n c
 | .region ops chk live=>by funext tm σ;simp only [ZaN,Zq,ZsL]
 | .seq a b=>by funext tm σ;simp only [ZaN,Zq,Zb2 m n a,Zb2 m n b]
 | .cond c a b=>by funext tm σ;simp only [ZaN,Zq,Zb2 m n a,Zb2 m n b]
 | .block id c=>by funext tm σ;simp only [ZaN,Zq,Zb2 m n c]
 | .loop live c=>by funext tm σ;simp only [ZaN,Zq,Zb2 m n c]
 | .skip=>rfl
 | .exit id=>rfl
 | .ret=>rfl
 | .stuck=>rfl
end
theorem Zhn (fs:Nat->Option ZR) (prim:ZaM) (bf:Nat->Bool):∀ n,ZC (fun f=>(fs f).map ZeM) prim bf n=ZC fs prim bf n
 | 0=>rfl
 | n+1=>by
  funext f args σ
  simp only [ZC,Zhn fs prim bf n]
  cases prim f with
  | some g=>rfl
  | none =>
   cases fs f with
   | none=>rfl
   | some fn =>
    simp only [Option.map_some,ZeM,Zb2]
    rfl
theorem Zn1 (fs:Nat->Option ZR) (prim:ZaM) (bf:Nat->Bool):EV (fun f=>(fs f).map ZeM) prim bf=EV fs prim bf:=by
 funext f args σ
 apply Zb6
 intro r
 rw [ZbO,ZbO]
 simp only [Zhn]
end
end
section
open Go.RowKit
def Zgx:List AVal->Za->Option (AVal×Za):=fun _ _=>none
theorem ZoV {α:Prop} {args:List AVal} {σ:Za} {r:AVal×Za} (h:Zgx args σ=some r):α:=by cases h
def Zf7:Ann:={ nt:=8,lr:=fun _=>[7,6,5,4,3,2,0] }
structure Zwd (P:Program) (t:TypeId) (k bytes:Nat) (z:AVal) (f:FuncId):Prop where
 ex:∃ (F:Func) (e:TypeId) (i0 i1 i2 i3:Nat) (r0 r2 r3:Array Oper) (m b:Oper),
  P.funcs[f]?=some F/\F.results=#[.tmp 2]/\F.ntmps=8/\(F.name == "runtime.NumGoroutine")=false/\P.underlying t=some (.slice e) /\
  F.body=some (.seq (.region i0 r0 false) (.seq (.seq (.region i1 #[m,b] false) (.cond (.tmp 4) (.seq (.region i2 r2 false) .ret) .skip)) (.seq (.region i3 r3 false) .ret))) /\
  m.op=.move (.tmp 0)/\m.dst=some 3/\m.guard=none/\b.op=.binOp .eql t (.tmp 3) (.const (.slice none 0 0)) t/\b.dst=some 4/\b.guard=none /\
  ZaW P Zf7 r0 r0.toList=some [⟨some 2,.mov (.c (.lst true [])),none,[]⟩] /\
  ZaW P Zf7 r2 r2.toList=some [⟨some 2,.mov (.c (.lst true [])),none,[]⟩] /\
  (∃ a1 a2 a3 a4,ZaW P Zf7 r3 r3.toList=some [⟨some 5,.bslice false k 0 z [],none,a1⟩,⟨some 6,.mov (.t 0),none,a2⟩,⟨some 7,.app k bytes z (.t 5) (.t 6),none,a3⟩,⟨some 2,.mov (.t 7),none,a4⟩])/\z.cells.length=k/\0 < k
section
variable {P:Program} {base:Nat->Prop} {w0 w w':World} {I0 I:Imm} {β:Bmap} {σ:Za}
theorem noO:ZG P (fun _ _ _=>none):=by intro f args σ r σ' h;cases h
theorem ZdK {ops:Array Oper} {Q:Exit->Act->World->Prop} {o:Oper} {l:List Oper} {a:Act} {w:World} (hg:o.guard=none) (h:o.wp P a w (wpList P ops Q l) Q):wpList P ops Q (o::l) a w:=by
 unfold wpList
 have : Region.wanted o (yielded ops a.tmps)=true:=by unfold Region.wanted;rw [hg]
 rw [this]
 simp only [if_true]
 exact Or.inl h
end
end
section
open Go.RowKit
structure Zwc (P:Program) (f h:FuncId) (ti tc:TypeId) (an1 an2 an3:Ann) (c1 c2 c3:Zi) (rs:List Zbi):Prop where
 ex:∃ (F H:Func) (b1 b2 b3 b4:Code) (i0 j0 j1 j2 j3 bid:Nat) (t1 t2 t3 t4 t5 t6 t7 t8:TypeId) (p1 p2 p3 p4 p5 p6 p7 p8:String) (a1 a2 a3 a4 a5 a6 a7 a8:Array Edge) (at1 at2:Array TypeId) (ims:Array (String×TypeId)) (k:IntKind),
  P.funcs[f]?=some F/\(F.name == "runtime.NumGoroutine")=false/\F.ntmps=20/\ZbW P F.results.toList=some rs /\
  F.body=some (.seq b1 (.seq (.region i0 #[⟨some 5,.makeFunc (.func h) #[] #[.tmp 2,.tmp 3],t1,p1,a1,none⟩,⟨none,.defer ⟨.value (.tmp 5),#[],at1⟩,t2,p2,a2,none⟩] false) b2)) /\
  ZaN (ZO P an1 b1)=c1/\ZaN (ZO P an2 b2)=c2/\an1.nt=20/\an2.nt=20/\an2.keep=[2,3] /\
  P.funcs[h]?=some H/\(H.name == "runtime.NumGoroutine")=false/\H.ntmps=13/\H.results=#[] /\
  H.body=some (.seq (.region j0 #[⟨some 5,.call ⟨.builtin .recover,#[],at2⟩,t3,p3,a3,none⟩] false) (.block bid (.seq (.region j1 #[⟨some 7,.binOp .eql ti (.tmp 5) (.const .nilIface) ti,t4,p4,a4,none⟩] false)
   (.cond (.tmp 7) (.region j2 #[⟨some 2,.assign (.tmp 5),t5,p5,a5,none⟩] false)
    (.seq (.region j3 #[⟨some 8,.typeAssert (.tmp 5) ti tc true,t6,p6,a6,none⟩,⟨some 9,.extract (.tmp 8) 1,t7,p7,a7,none⟩,⟨some 10,.extract (.tmp 8) 0,t8,p8,a8,none⟩] false)
     (.cond (.tmp 9) b3 b4)))))) /\
  ZaN (ZO P an3 b3)=c3/\an3.nt=13/\P.underlying ti=some (.interface ims)/\P.underlying tc=some (.int k)
section
variable {P:Program} {O:Zn} {bf:Nat->Bool} {base:Nat->Prop} {w0 w:World} {I0 I:Imm} {β:Bmap} {σ:Za}
theorem pgs {a:Act} {d:Nat} {u:Value} (h:d < a.tmps.size):(a.put (some d) u).tmps.getD d undef=u:=by
 simp [Act.put,Array.getD,h]
theorem Zft {m:Sem Value} {u:Value} (h:m.run P w=.ok u w):(do let q <-m;pure (Next.value q):Sem Next).run P w=.ok (.value u) w:=by
 rw [Sem.run_bind,h];rfl
theorem pgn {a:Act} {d j:Nat} {u:Value} (h:d≠j):(a.put (some d) u).tmps.getD j undef=a.tmps.getD j undef:=by
 simp only [Act.put,Array.getD_eq_getD_getElem?]
 rw [Array.getElem?_setIfInBounds_ne h]
end
section
variable {P:Program} {fs:Nat->Option ZR} {prim:ZaM} {bf:Nat->Bool}
end
section
variable {fs:Nat->Option ZR} {p p':ZaM} {bf:Nat->Bool}
theorem Zh6 (h0:∀ f,p f=none->p' f=none) (h1:∀ f g,p f=some g->p' f=some g\/∀ a σ,g a σ=none):∀ n,OLe (ZC fs p bf n) (ZC fs p' bf n)
 | 0=>by intro f a σ r h;simp only [ZC] at h;cases h
 | n+1=>by
  intro f a σ r h
  rw [ZC] at h ⊢
  split at h
  ·rename_i g hg
   rcases h1 f g hg with h2 | h2
   ·rw [h2];exact h
   ·rw [h2] at h;cases h
  ·rename_i hg
   rw [h0 f hg]
   split at h
   ·cases h
   ·rename_i fn hfn
    exact ZeO (fun q hq=>ZbD (Zh6 h0 h1 n) (Nat.le_refl n) hq) h
theorem ZuI (h0:∀ f,p f=none->p' f=none) (h1:∀ f g,p f=some g->p' f=some g\/∀ a σ,g a σ=none):OLe (EV fs p bf) (EV fs p' bf):=by
 intro f a σ r h
 obtain ⟨n,hn⟩:=ZbO.1 h
 exact ZbO.2 ⟨n,Zh6 h0 h1 n f a σ r hn⟩
end
end
section
open Go.RowKit
theorem ZhI:∀ (js L:List Nat),js.Nodup->(∀ j ∈ js,j ∈ L)->L.Nodup->∃ rest,L.Perm (js++rest)
 | [],L,_,_,_=>⟨L,List.Perm.refl _⟩
 | j::js,L,hn,hs,hL=>by
  have hj:j ∈ L:=hs j (by simp)
  have hp:L.Perm (j::L.erase j):=List.perm_cons_erase hj
  obtain ⟨rest,hr⟩:=ZhI js (L.erase j) (List.nodup_cons.1 hn).2 (fun k hk=>by
   have hne:k≠j:=by rintro rfl;exact (List.nodup_cons.1 hn).1 hk
   exact (List.mem_erase_of_ne hne).2 (hs k (by simp [hk]))) (hL.erase j)
  exact ⟨rest,hp.trans (by simpa using List.Perm.cons j hr)⟩
theorem Zt1 {α:Type} (es:List α) (d:α):(List.range es.length).map (es.getD · d)=es:=by
 apply List.ext_getElem?
 intro i
 rw [List.getElem?_map]
 by_cases h:i < es.length
 ·rw [List.getElem?_range h];simp [List.getD_eq_getElem?_getD,h]
 ·rw [List.getElem?_eq_none (by simpa using h),List.getElem?_eq_none (by omega)];rfl
def ZcB (bf:Nat->Bool) (asl:List AOp) (tm:Tms) (σ:Za):Option (Tms×Za):=match Zl (fun _ _ _=>none) bf asl σ.length tm σ with
 | some (tm',σ',_,none)=>some (tm',σ')
 | _=>none
def Zce (m:Nat):AVal->Bool
 | .int _ _ | .bool _ | .str _ | .nilp | .nilm | .nili | .lst _ _=>true
 | .sl t g _ _=>decide (g=0) && decide (t < m)
 | .ref t _=>decide (t < m)
 | .map t=>decide (t < m)
 | _=>false
def Zfi (m:Nat):AVal->Bool
 | .agg cs=>cs.all (Zce m)
 | x=>Zce m x
section
variable (fs:Nat->Option ZR) (prim:ZaM) (bf:Nat->Bool) (m:Nat) (live:List Nat) (ms en b1:Nat) (aslE:List AOp) (c2 c3:Zi) (rs:List Zbi)
open Classical in
noncomputable def Zcn (es : List (AVal × AVal)) (kv : AVal × AVal) (tm : Tms) (σ : Za) : Option (Tms × Za) :=
  match tget (gcT m (keepL live tm) σ).1 ms with
  | .map t => if (gcT m (keepL live tm) σ).2[t]? = some (.map es) /\ (∀ p ∈ es, Zfi (gcT m (keepL live tm) σ).2.length p.2 = true) then
      match ZcB bf aslE (tput (gcT m (keepL live tm) σ).1 (some en) (.tup [kv.1, kv.2])) ((gcT m (keepL live tm) σ).2.set t .opq) with
      | some (tm1, σ1) => match evC fs prim bf (gcT m (keepL live tm) σ).2.length c2 tm1 σ1 with
        | some (.normal, tm2, σ2) => if σ2[t]? = some .opq then some (tput tm2 (some ms) (.map t), σ2.set t (.map es)) else none
        | some (.exit i, tm2, σ2) => if i = b1 /\ σ2[t]? = some .opq then some (tput tm2 (some ms) (.map t), σ2.set t (.map es)) else none
        | _ => none
      | none => none
    else none
  | _ => none
noncomputable def Zbe (es:List (AVal×AVal)):List (AVal×AVal)->Tms->Za->Option (Tms×Za)
 | [],tm,σ=>some (tm,σ)
 | kv::r,tm,σ=>match Zcn fs prim bf m live ms en b1 aslE c2 es kv tm σ with
  | some (tm',σ')=>Zbe es r tm' σ'
  | none=>none
noncomputable def Zcq (tm:Tms) (σ:Za):Option (AVal×Za) :=
 Zat m ⟨rs,c3⟩ (evC fs prim bf m c3 (gcT m (keepL live tm) σ).1 (gcT m (keepL live tm) σ).2)
noncomputable def Zcw (es es':List (AVal×AVal)) (tm:Tms) (σ:Za):Option (AVal×Za) :=
 match Zbe fs prim bf m live ms en b1 aslE c2 es es' tm σ with
 | some (tm',σ')=>Zcq fs prim bf m live c3 rs tm' σ'
 | none=>none
open Classical in
noncomputable def Zd4 (es:List (AVal×AVal)) (tm:Tms) (σ:Za):Option (AVal×Za) :=
 if h:∃ out,∀ es':List (AVal×AVal),es'.Perm es->Zcw fs prim bf m live ms en b1 aslE c2 c3 rs es es' tm σ=some out then some h.choose else none
end
noncomputable def ZeH (fs:Nat->Option ZR) (prim:ZaM) (bf:Nat->Bool) (live:List Nat) (ms en b1:Nat) (asl1 aslE:List AOp) (c1 c2 c3:Zi) (rs:List Zbi) (args:List AVal) (σ:Za):Option (AVal×Za) :=
 match evC fs prim bf σ.length c1 (enterA 0 args []) σ with
 | some (.normal,tm1,σ1)=>match ZcB bf asl1 tm1 σ1 with
  | some (tm2,σ2)=>match tget tm2 ms with
   | .map t=>match σ2[t]? with
    | some (.map es)=>Zd4 fs prim bf σ.length live ms en b1 aslE c2 c3 rs es tm2 σ2
    | _=>none
   | _=>none
  | none=>none
 | _=>none
def Zct:List Code->Code->Code
 | [],x=>x
 | c::l,x=>.seq c (Zct l x)
def Zdx:Nat->Code->Option (List Code×Code)
 | 0,c=>some ([],c)
 | n+1,.seq a b=>match Zdx n b with
  | some (l,x)=>some (a::l,x)
  | none=>none
 | _,_=>none
theorem Zjb:∀ {n:Nat} {c x:Code} {l:List Code},Zdx n c=some (l,x)->c=Zct l x
 | 0,c,x,l,h=>by simp only [Zdx,Option.some.injEq,Prod.mk.injEq] at h;obtain ⟨rfl,rfl⟩:=h;rfl
 | n+1,c,x,l,h=>by
  cases c with
  | seq a b =>
   simp only [Zdx] at h
   split at h
   ·rename_i l' x' h'
    simp only [Option.some.injEq,Prod.mk.injEq] at h
    obtain ⟨rfl,rfl⟩:=h
    rw [Zjb h',Zct]
   ·cases h
  | _=>simp [Zdx] at h
structure ZhO (P:Program) (f:FuncId) (an1 an3:Ann) (nt n0 n1 ms it nx ok en bid b1:Nat) (live:List Nat) (asl1 aslE:List AOp) (c1 c2 c3:Zi) (rs:List Zbi):Prop where
 ex:∃ (F:Func) (B:Code) (pre:List Code) (ops1 ops3 ops4:Array Oper) (i2 i3 i4:Nat) (body rest:Code) (t kt et:TypeId) (rg nxo exo eno:Oper) (lE:List Oper),
  P.funcs[f]?=some F/\(F.name == "runtime.NumGoroutine")=false/\F.ntmps=nt/\ZbW P F.results.toList=some rs/\F.body=some B /\
  Zdx n0 B=some (pre,.seq (.seq (.region i2 ops1 false) (.block bid (.loop (.seq (.region i3 ops3 false) (.seq (.cond (.tmp ok) .skip (.exit bid)) (.block b1 (.seq (.region i4 ops4 false) body))))))) rest) /\
  ops1.toList.drop n1=[rg]/\ops3.toList=[nxo,exo]/\ops4.toList=eno::lE /\
  rg.op=.range t (.tmp ms)/\rg.dst=some it/\rg.guard=none/\P.underlying t=some (.map kt et) /\
  nxo.op=.next (.tmp it) false/\nxo.dst=some nx/\nxo.guard=none/\exo.op=.extract (.tmp nx) 0/\exo.dst=some ok/\exo.guard=none /\
  eno.op=.entry (.tmp it)/\eno.dst=some en/\eno.guard=none /\
  ZaN (ZO P an1 (Zct pre .skip))=c1/\ZaW P an1 ops1 (ops1.toList.take n1)=some asl1/\ZaW P an3 ops4 lE=some aslE/\ZaN (ZO P an3 body)=c2/\ZaN (ZO P an1 rest)=c3 /\
  an1.nt=nt/\an3.nt=nt/\an3.keep=[it,ms] /\
  (decide (it < nt) && decide (nx < nt) && decide (ok < nt) && decide (en < nt) && decide (it≠ms) && decide (nx≠ms) && decide (ok≠ms) && decide (en≠ms) && decide (nx≠it) && decide (ok≠it) && decide (en≠it) && decide (nx≠ok) && live.all fun n=>decide (n≠it) && decide (n≠nx) && decide (n≠ok) && decide (n≠en))=true
section
variable {P:Program} {O:Zn} {bf:Nat->Bool} {an:Ann} {base:Nat->Prop} {w0 w w':World} {I0 I I':Imm} {β β':Bmap} {σ σ':Za} {dr:Door}
theorem Zgi (hO:ZG P O) (hkp:∀ n ∈ dr.K,n ∈ an.keep) (hb:KLt base w0) {ops:Array Oper} {Q:Exit->Act->World->Prop} {r:List Oper}:∀ {l:List Oper} {asl:List AOp} {sq:Nat} {I:Imm} {β:Bmap} {tm tm':Tms} {σ σ':Za} {cs:List Cls} {a:Act} {w:World},ZaW P an ops l=some asl->TR I β tm a.tmps->(dr.ok a/\an.nt<=a.tmps.size)->Rel base w0 I0 I β σ w ->
  Zl O bf asl sq tm σ=some (tm',σ',cs,none)->(∀ a' w',StR dr an.nt base w0 I0 I β tm' σ' a' w'->wpList P ops Q r a' w')->wpList P ops Q (l++r) a w
 | [],asl,sq,I,β,tm,tm',σ,σ',cs,a,w,hc,T,hd,R,h,hQ=>by
  simp only [ZaW,Option.some.injEq] at hc;subst hc
  simp only [Zl,Option.some.injEq,Prod.mk.injEq] at h
  obtain ⟨rfl,rfl,rfl,_⟩:=h
  exact hQ _ _ ⟨I,β,Imm.le.refl I,Bmap.le.refl β,T,hd,R⟩
 | o::l,asl,sq,I,β,tm,tm',σ,σ',cs,a,w,hc,T,hd,R,h,hQ=>by
  simp only [ZaW] at hc
  split at hc
  ·rename_i ao hao
   split at hc
   ·rename_i as' has'
    injection hc with hc;subst hc
    simp only [Zl] at h
    split at h
    ·cases h
    ·simp only [Option.some.injEq,Prod.mk.injEq] at h
     obtain ⟨_,_,_,h⟩:=h
     cases h
    ·rename_i v tm1 σ1 c1 hnp h1
     split at h
     ·cases h
     rename_i tm2 σ2 cs2 p2 h2
     simp only [Option.some.injEq,Prod.mk.injEq] at h
     obtain ⟨rfl,rfl,rfl,rfl⟩:=h
     have:=Zdy (dr:=dr) (K:=wpList P ops Q (l++r)) (Q:=Q) hO hkp hao T hd R hb h1 (fun _ a' w' hs=>by
      obtain ⟨I',β',g1,g2,g3,g4,g5⟩:=hs
      exact Zgi hO hkp hb has' g3 g4 g5 h2 (fun a'' w'' hs'=>hQ a'' w'' (hs'.trans g1 g2))) (fun x e=>absurd e (fun e=>hnp x e))
     rw [List.cons_append]
     unfold wpList
     exact this
   ·cases hc
  ·cases hc
theorem Zis {asl:List AOp} {tm tm':Tms} (h:ZcB bf asl tm σ=some (tm',σ')):∃ cs,Zl (fun _ _ _=>none) bf asl σ.length tm σ=some (tm',σ',cs,none):=by
 unfold ZcB at h
 split at h
 ·rename_i tm1 σ1 cs h1
  simp only [Option.some.injEq,Prod.mk.injEq] at h
  obtain ⟨rfl,rfl⟩:=h
  exact ⟨cs,h1⟩
 ·cases h
theorem ZiO {Q:Exit->Act->World->Prop} (hO:ZG P O) (hm:P.follows .mixedOrders=true) (hb:KLt base w0) (m n:Nat) (X:Code):∀ (pre:List Code) {I:Imm} {β:Bmap} {tm tm':Tms} {σ σ':Za} {a:Act} {w:World},StF Za2 m an.nt base w0 I0 I β tm σ a w->Zq O bf m n (ZO P an (Zct pre .skip)) tm σ=some (.normal,tm',σ') ->
  (∀ a' w',StF Za2 m an.nt base w0 I0 I β tm' σ' a' w'->X.wp P Q a' w')->(Zct pre X).wp P Q a w
 | [],I,β,tm,tm',σ,σ',a,w,hst,h,hQ=>by
  simp only [Zct,ZO,Zq,Option.some.injEq,Prod.mk.injEq] at h
  obtain ⟨_,rfl,rfl⟩:=h
  exact hQ a w hst
 | c::l,I,β,tm,tm',σ,σ',a,w,hst,h,hQ=>by
  simp only [Zct,ZO,Zq] at h
  split at h
  ·rename_i tm1 σ1 h1
   refine wp_seq ?_
   refine Ze7 (dr:=Za2) (an:=an) hO (fun n hn=>by simp [Za2] at hn) hm hb m n rfl hst h1 ?_
   intro a' w' hs
   exact ZiO hO hm hb m n X l hs h hQ
  ·rename_i hne
   exact absurd h (hne _ _)
theorem Zth {m:Nat} {x:AVal} {v:Value} (hx:Zce m x=true) (hk:KeptE m β β') (h:VR I β x v):VR I' β' x v\/(∃ a xs,x=.lst a xs):=by
 cases x with
 | int | bool | str | nilp | nilm | nili=>exact Or.inl h
 | lst a xs=>exact Or.inr ⟨a,xs,rfl⟩
 | sl t g lo n =>
  simp only [Zce,Bool.and_eq_true,decide_eq_true_eq] at hx
  obtain ⟨rfl,ht⟩:=hx
  simp only [VR] at h ⊢
  obtain ⟨bi,e,h⟩:=h
  exact Or.inl ⟨bi,hk t ht bi e,h⟩
 | ref t o =>
  simp only [Zce,decide_eq_true_eq] at hx
  simp only [VR] at h ⊢
  obtain ⟨b,k,c,e,h⟩:=h
  exact Or.inl ⟨b,k,c,hk t hx _ e,h⟩
 | map t =>
  simp only [Zce,decide_eq_true_eq] at hx
  simp only [VR] at h ⊢
  obtain ⟨b,k,c,e,h⟩:=h
  exact Or.inl ⟨b,k,c,hk t hx _ e,h⟩
 | _=>simp [Zce] at hx
theorem ZjX {a:Bool} {xs:List AVal} {v:Value} (hI:I.le I') (h:VR I β (.lst a xs) v):VR I' β' (.lst a xs) v:=by
 have ht:ZL (.lst a xs)=true:=by
  simp only [VR] at h
  obtain ⟨A,cap,_,_,_,_,_,ht⟩:=h
  simpa [ZL] using ht
 exact (VR.of_tree (β':=β') ht h).mono hI (Bmap.le.refl _) _ _
theorem Zhw {m:Nat} {x:AVal} {v:Value} (hx:Zce m x=true) (hI:I.le I') (hk:KeptE m β β') (h:VR I β x v):VR I' β' x v:=by
 rcases Zth (I':=I') hx hk h with h | ⟨a,xs,rfl⟩
 ·exact h
 ·exact ZjX hI h
theorem Zjc {m:Nat} (hI:I.le I') (hk:KeptE m β β'):∀ {cs:List AVal} {vs:List Value},cs.all (Zce m)=true->VRs I β cs vs->VRs I' β' cs vs
 | [],vs,_,h=>h
 | x::cs,vs,hx,h=>by
  rw [List.all_cons,Bool.and_eq_true] at hx
  simp only [VRs] at h ⊢
  obtain ⟨v,vs',rfl,h1,h2⟩:=h
  exact ⟨v,vs',rfl,Zhw hx.1 hI hk h1,Zjc hI hk hx.2 h2⟩
theorem ZpP {m:Nat} {x:AVal} {v:Value} (hx:Zfi m x=true) (hI:I.le I') (hk:KeptE m β β') (h:VR I β x v):VR I' β' x v:=by
 cases x with
 | agg cs =>
  simp only [VR] at h ⊢
  obtain ⟨us,rfl,h⟩:=h
  exact ⟨us,rfl,Zjc hI hk hx h⟩
 | _=>exact Zhw hx hI hk h
theorem ZiC {m:Nat} (hI:I.le I') (hk:KeptE m β β'):∀ {cs:List AVal} {vs:List Value},(∀ x ∈ cs,Zfi m x=true)->VRs I β cs vs->VRs I' β' cs vs
 | [],vs,_,h=>h
 | x::cs,vs,hx,h=>by
  simp only [VRs] at h ⊢
  obtain ⟨v,vs',rfl,h1,h2⟩:=h
  exact ⟨v,vs',rfl,ZpP (hx x (by simp)) hI hk h1,ZiC hI hk (fun y hy=>hx y (by simp [hy])) h2⟩
theorem Zir:∀ {cs:List AVal} {vs:List Value},(∀ x ∈ cs,Zdf x=true)->VRs I β cs vs->VRs I' β' cs vs
 | [],vs,_,h=>h
 | x::cs,vs,hx,h=>by
  simp only [VRs] at h ⊢
  obtain ⟨v,vs',rfl,h1,h2⟩:=h
  refine ⟨v,vs',rfl,?_,Zir (fun y hy=>hx y (by simp [hy])) h2⟩
  have:=hx x (by simp)
  cases x <;> simp [Zdf] at this <;> exact h1
end
end
section
open Go.RowKit
open Go.ChangeMaps (setBlock)
section
variable {P:Program} {base base':Nat->Prop} {w0 w w' w1 w2:World} {I0 I I' I1 I2:Imm} {β β' β1 β2:Bmap} {σ σ' σ1 σ2:Za}
theorem Rel.rebase (R:Rel base w0 I0 I β σ w) {r:Nat} (hr:∀ t x,σ[t]?=some x->Zc β t x≠some r):Rel (fun k=>base k\/k=r) w I I β σ w where
 below:=KB.refl _ _
 old:=fun _ _ _=>rfl
 imm:=R.imm
 blk:=R.blk
 own:=fun t x b hx hb=>⟨fun h=>by
  rcases h with h | rfl
  ·exact (R.own t x b hx hb).1 h
  ·exact hr t x hx hb,(R.own t x b hx hb).2⟩
 apart:=R.apart
 fresh:=R.fresh
 free:=R.free
 gen:=R.gen
 glob:=R.glob
theorem Rel.unbase (R1:Rel base w0 I0 I1 β1 σ1 w1) (R2:Rel base' w1 I1 I2 β2 σ2 w2) (hs:∀ k,base k->base' k):Rel base w0 I0 I2 β2 σ2 w2 where
 below:=R1.below.trans (R2.below.mono hs)
 old:=fun b o h=>(R2.old b o (hs b h)).trans (R1.old b o h)
 imm:=R2.imm
 blk:=R2.blk
 own:=fun t x b hx hb=>⟨fun h=>(R2.own t x b hx hb).1 (hs b h),(R2.own t x b hx hb).2⟩
 apart:=R2.apart
 fresh:=R2.fresh
 free:=R2.free
 gen:=R2.gen
 glob:=R2.glob
theorem Rel.hide (R:Rel base w0 I0 I β σ w) {t b r:Nat} {es:List (AVal×AVal)} (ht:σ[t]?=some (.map es)) (hb:Zc β t (.map es)=some b) (hr:∀ t x,σ[t]?=some x->Zc β t x≠some r):Rel (fun k=>base k\/k=b\/k=r) w I I β (σ.set t .opq) w where
 below:=KB.refl _ _
 old:=fun _ _ _=>rfl
 imm:=R.imm
 blk:=fun u x hx=>by
  rw [List.getElem?_set] at hx
  split at hx
  ·rename_i e;subst e
   split at hx
   ·injection hx with hx;subst hx
    obtain ⟨b',k,c,_,_,h1,_⟩:=R.blk t _ ht
    exact ⟨_,h1⟩
   ·cases hx
  ·exact R.blk u x hx
 own:=fun u x b' hx ho=>by
  rw [List.getElem?_set] at hx
  split at hx
  ·split at hx
   ·injection hx with hx;subst hx;cases ho
   ·cases hx
  ·rename_i hne
   have:=R.own u x b' hx ho
   refine ⟨fun h=>?_,this.2⟩
   rcases h with h | rfl | rfl
   ·exact this.1 h
   ·exact hne (R.apart u x t _ _ hx ht ho hb).symm
   ·exact hr u x hx ho
 apart:=fun u x u' x' b' hx hx' ho ho'=>by
  rw [List.getElem?_set] at hx hx'
  split at hx
  ·split at hx
   ·injection hx with hx;subst hx;cases ho
   ·cases hx
  ·split at hx'
   ·split at hx'
    ·injection hx' with hx';subst hx';cases ho'
    ·cases hx'
   ·exact R.apart u x u' x' b' hx hx' ho ho'
 fresh:=fun u g hu=>R.fresh u g (by simpa using hu)
 free:=fun u g hu=>by
  rw [List.getElem?_set] at hu
  split at hu
  ·split at hu
   ·injection hu with hu;cases hu
   ·cases hu
  ·exact R.free u g hu
 gen:=fun u x g hx hg=>by
  rw [List.getElem?_set] at hx
  split at hx
  ·rename_i e;subst e
   split at hx
   ·injection hx with hx;subst hx
    exact R.gen t _ g ht (by simpa [Zd] using hg)
   ·cases hx
  ·exact R.gen u x g hx hg
 glob:=R.glob
theorem Rel.unhide (R1:Rel base w0 I0 I1 β1 σ1 w1) {t b r:Nat} (R2:Rel (fun k=>base k\/k=b\/k=r) w1 I1 I2 β2 σ2 w2) {es:List (AVal×AVal)} (ht:σ2[t]?=some .opq) (hb:Zc β2 t (.map es)=some b) (hB:BR I2 β2 w2 t (.map es)) (hbase:¬base b) (hI:∀ o,I2 b o=none):Rel base w0 I0 I2 β2 (σ2.set t (.map es)) w2 where
 below:=R1.below.trans (R2.below.mono fun _ h=>Or.inl h)
 old:=fun k o h=>(R2.old k o (Or.inl h)).trans (R1.old k o h)
 imm:=R2.imm
 blk:=fun u x hx=>by
  rw [List.getElem?_set] at hx
  split at hx
  ·rename_i e;subst e
   split at hx
   ·injection hx with hx;subst hx;exact hB
   ·cases hx
  ·exact R2.blk u x hx
 own:=fun u x b' hx ho=>by
  rw [List.getElem?_set] at hx
  split at hx
  ·rename_i e;subst e
   split at hx
   ·injection hx with hx;subst hx
    rw [hb] at ho;injection ho with ho;subst ho
    exact ⟨hbase,hI⟩
   ·cases hx
  ·have:=R2.own u x b' hx ho
   exact ⟨fun h=>this.1 (Or.inl h),this.2⟩
 apart:=fun u x u' x' b' hx hx' ho ho'=>by
  rw [List.getElem?_set] at hx hx'
  split at hx
  ·rename_i e;subst e
   split at hx
   ·injection hx with hx;subst hx
    rw [hb] at ho;injection ho with ho;subst ho
    split at hx'
    ·assumption
    ·exact absurd (Or.inr (Or.inl rfl)) (R2.own u' x' _ hx' ho').1
   ·cases hx
  ·split at hx'
   ·rename_i e;subst e
    split at hx'
    ·injection hx' with hx';subst hx'
     rw [hb] at ho';injection ho' with ho';subst ho'
     exact absurd (Or.inr (Or.inl rfl)) (R2.own u x _ hx ho).1
    ·cases hx'
   ·exact R2.apart u x u' x' b' hx hx' ho ho'
 fresh:=fun u g hu=>R2.fresh u g (by simpa using hu)
 free:=fun u g hu=>by
  rw [List.getElem?_set] at hu
  split at hu
  ·split at hu
   ·injection hu with hu;cases hu
   ·cases hu
  ·exact R2.free u g hu
 gen:=fun u x g hx hg=>by
  rw [List.getElem?_set] at hx
  split at hx
  ·rename_i e;subst e
   split at hx
   ·injection hx with hx;subst hx
    exact R2.gen t _ g ht (by simpa [Zd] using hg)
   ·cases hx
  ·exact R2.gen u x g hx hg
 glob:=R2.glob
theorem Rel.turn (R:Rel base w0 I0 I β σ w) {r:Nat} (hr:∀ t x,σ[t]?=some x->Zc β t x≠some r) (hb:¬base r) (hI:∀ o,I r o=none) (hos:w'.os=w.os) (ht:w'.tape=w.tape) (ho:w'.output=w.output) (hs:w.heap.size<=w'.heap.size) (hk:∀ k,k≠r->k < w.heap.size->w'.heap[k]?=w.heap[k]?) (hbl:KLt base w):Rel base w0 I0 I β σ w':=by
 refine R.stay (Imm.le.refl I) ⟨hos,ht,ho,hs,fun k h=>hk k (by rintro rfl;exact hb h) (hbl k h)⟩ (fun _ _ _=>rfl) ?_ ?_
 ·intro b o u hu
  have h1:=R.imm b o u hu
  have hne:b≠r:=by rintro rfl;rw [hI] at hu;cases hu
  have hlt:=ZbE h1
  rw [<-h1]
  simp only [World.cell?,hk b hne hlt]
 ·intro t x b hx hb'
  have hne:b≠r:=by rintro rfl;exact hr t x hx hb'
  exact ⟨hk b hne ((R.blk t x hx).owns_lt hb'),(R.own t x b hx hb').2⟩
theorem Zvj (m:Nat) (tm:Tms) (σ:Za):m<=(gcT m tm σ).2.length:=by
 show m<=(Zj σ m _ _ _ 0).length
 rw [ZeS]
 obtain ⟨_,r,hr⟩:=Zdu (σ:=σ) 1000 (ZA (tm.map (·.2))++(List.range m).flatMap fun t=>ZF (σ.getD t .free)) (List.range m) List.nodup_range
 show m<=(Zy m (tm.map (·.2)) σ).length
 unfold Zy
 rw [hr]
 simp
end
section
variable {fs:Nat->Option ZR} {prim:ZaM} {bf:Nat->Bool} {m:Nat} {live:List Nat} {ms en b1:Nat} {aslE:List AOp} {c2 c3:Zi} {rs:List Zbi}
theorem Zeu {es:List (AVal×AVal)}:∀ (a b:List (AVal×AVal)) (tm:Tms) (σ:Za),Zbe fs prim bf m live ms en b1 aslE c2 es (a++b) tm σ=match Zbe fs prim bf m live ms en b1 aslE c2 es a tm σ with
  | some (tm',σ')=>Zbe fs prim bf m live ms en b1 aslE c2 es b tm' σ'
  | none=>none
 | [],b,tm,σ=>rfl
 | x::a,b,tm,σ=>by
  simp only [List.cons_append,Zbe]
  split
  ·exact Zeu a b _ _
  ·rfl
end
theorem Zet {I:Imm} {β:Bmap} {tm:Tms} {a:Act} {d:Nat} {u:Value} (T:TR I β tm a.tmps) (hd:tget tm d=.top):TR I β tm (a.put (some d) u).tmps:=by
 intro n
 by_cases e:d=n
 ·subst e;rw [hd];simp only [VR]
 ·rw [pgn e];exact T n
theorem Zmn {m:Nat} {live:List Nat} {tm:Tms} {σ:Za} {d:Nat} (hd:d ∉ live):tget (gcT m (keepL live tm) σ).1 d=.top:=by
 have key:∀ (l:List Nat) (xs:List AVal),d ∉ l->tget (l.zip xs) d=.top:=by
  intro l
  induction l with
  | nil=>intro xs _;rfl
  | cons x l ih =>
   intro xs h
   cases xs with
   | nil=>rfl
   | cons y ys =>
    simp only [List.zip_cons_cons,tget]
    rw [if_neg (by rintro rfl;exact h (by simp))]
    exact ih ys (fun hm=>h (by simp [hm]))
 have e:(keepL live tm).map (·.1)=live:=by simp [keepL,List.map_map,Function.comp_def]
 show tget (((keepL live tm).map (·.1)).zip _) d=.top
 rw [e]
 exact key live _ hd
end
section
open Go.RowKit
open Go.ChangeMaps (setBlock)
theorem Zqw {arr:Array MapEntry} {seen:Array Nat} {e:MapEntry} (h:e ∈ (leftOf arr seen).toList):e ∈ arr.toList/\seen.contains e.born=false:=by
 unfold leftOf at h
 simp only [Array.toList_filter,List.mem_filter,Bool.not_eq_true'] at h
 exact h
theorem ZpD {arr:Array MapEntry} {seen:Array Nat} (h:(leftOf arr seen).size=0):∀ e ∈ arr.toList,seen.contains e.born=true:=by
 intro e he
 cases hc:seen.contains e.born with
 | true=>rfl
 | false =>
  have hm:e ∈ (leftOf arr seen).toList:=by
   unfold leftOf
   simp only [Array.toList_filter,List.mem_filter,Bool.not_eq_true']
   exact ⟨he,hc⟩
  have : (leftOf arr seen).toList=[]:=by
   apply List.eq_nil_of_length_eq_zero
   simpa using h
  rw [this] at hm;cases hm
section
variable {P:Program} {base:Nat->Prop} {w0:World} {I0:Imm}
variable {fs:Nat->Option ZR} {prim:ZaM} {bf:Nat->Bool} {m:Nat} {live:List Nat} {ms it nx ok en bid b1 nt:Nat} {aslE:List AOp} {c2 c3:Zi} {rs:List Zbi}
def Za6 (it ms:Nat) (r b:Nat):Door:=⟨[],[it,ms],fun n=>if n=it then .pointer (some ⟨r,0,none⟩) else .map (some b)⟩
def ZcG (arr:Array MapEntry) (j:Nat):Nat:=(arr.toList.getD j ⟨undef,undef,0⟩).born
theorem Zrn (hm:P.follows .mixedOrders=true) (hO:∀ n,ZG P (ZC fs prim bf n)) (hb:KLt base w0) {an3:Ann} {ops3 ops4:Array Oper} {i3 i4:Nat} {body:Code} {nxo exo eno:Oper} {lE:List Oper}
  (h3:ops3.toList=[nxo,exo]) (h4:ops4.toList=eno::lE)
  (hn1:nxo.op=.next (.tmp it) false) (hn2:nxo.dst=some nx) (hn3:nxo.guard=none) (hx1:exo.op=.extract (.tmp nx) 0) (hx2:exo.dst=some ok) (hx3:exo.guard=none)
  (he1:eno.op=.entry (.tmp it)) (he2:eno.dst=some en) (he3:eno.guard=none) (hcE:ZaW P an3 ops4 lE=some aslE) (hc2:ZaN (ZO P an3 body)=c2) (hnt3:an3.nt=nt) (hk3:an3.keep=[it,ms])
  (d1:it < nt) (d2:nx < nt) (d3:ok < nt) (d4:en < nt) (d5:it≠ms) (d6:nx≠ms) (d7:ok≠ms) (d8:en≠ms) (d9:nx≠it) (d10:ok≠it) (d11:en≠it) (d12:nx≠ok) (hlv:∀ n ∈ live,n≠it/\n≠nx/\n≠ok/\n≠en)
  {r b clk:Nat} {arr:Array MapEntry} {es:List (AVal×AVal)} (hS:ZeJ arr clk) (hne:arr.size=es.length) (hrb:r≠b) (hrbase:¬base r) (hbbase:¬base b)
  {tm2:Tms} {σ2:Za} {out:AVal×Za} (hall:∀ es':List (AVal×AVal),es'.Perm es->Zcw fs prim bf m live ms en b1 aslE c2 c3 rs es es' tm2 σ2=some out)
  {I:Imm} {β:Bmap} {Q:Exit->Act->World->Prop}
  (hQ:∀ tm σ a w I' β',Zcq fs prim bf m live c3 rs tm σ=some out->I.le I'->KeptE m β β'->TR I' β' (keepL live tm) a.tmps->(a.defers=[]/\nt<=a.tmps.size)->Rel base w0 I0 I' β' σ w->Q (.exit bid) a w) :
  ∀ (n:Nat) (js:List Nat) (tm:Tms) (σ:Za) (a:Act) (w:World),n+js.length=es.length+1->js.Nodup->(∀ j ∈ js,j < es.length)->Zbe fs prim bf m live ms en b1 aslE c2 es (js.map fun j=>es.getD j (.top,.top)) tm2 σ2=some (tm,σ) ->
   w.heap[r]?=some (.mapIter (some b) clk (js.map (ZcG arr)).toArray clk)->w.heap[b]?=some (.map arr clk) ->
   (∃ I' β',I.le I'/\KeptE m β β'/\TR I' β' (keepL live tm) a.tmps/\((Za6 it ms r b).ok a/\nt<=a.tmps.size)/\Rel base w0 I0 I' β' σ w/\(∀ o,I' r o=none)/\(∀ t x,σ[t]?=some x->Zc β' t x≠some r)) ->
   Code.rounds P (.seq (.region i3 ops3 false) (.seq (.cond (.tmp ok) .skip (.exit bid)) (.block b1 (.seq (.region i4 ops4 false) body)))) Q n a w:=by
 have hperm:∀ js:List Nat,js.Nodup->(∀ j ∈ js,j < es.length)->∃ rest:List Nat,(List.range es.length).Perm (js++rest):=fun js h1 h2=>ZhI js _ h1 (fun j hj=>List.mem_range.2 (h2 j hj)) List.nodup_range
 have hpm:∀ js rest:List Nat,(List.range es.length).Perm (js++rest)->(js.map (fun j=>es.getD j (.top,.top))++rest.map fun j=>es.getD j (.top,.top)).Perm es:=by
  intro js rest h
  have:=h.map (fun j=>es.getD j ((.top,.top):AVal×AVal))
  rw [Zt1,List.map_append] at this
  exact this.symm
 intro n
 induction n with
 | zero =>
  intro js tm σ a w hn hnd hlt _ _ _ _
  exfalso
  obtain ⟨rest,hr⟩:=hperm js hnd hlt
  have:=hr.length_eq
  simp at this
  omega
 | succ n ih =>
  intro js tm σ a w hn hnd hlt hf hit hmap hst
  rw [rounds_succ]
  obtain ⟨I1,β1,g1,g2,T1,⟨gd,gs⟩,R1,hIr,hown⟩:=hst
  have vit:a.tmps.getD it undef=.pointer (some ⟨r,0,none⟩):=by
   have:=gd.2 it (by simp [Za6]);simpa [Za6] using this
  have vms:a.tmps.getD ms undef=.map (some b):=by
   have:=gd.2 ms (by simp [Za6]);simpa [Za6,Ne.symm d5] using this
  refine wp_seq (wp_region_list ?_)
  rw [h3]
  refine ZdK hn3 ?_
  unfold Oper.wp
  have hlook:=run_next_at (P:=P) w nxo.type r b clk clk _ arr clk hit hmap (fun x hx=>hS.1 x hx) (Nat.le_refl _)
  rcases hlook with ⟨hz,hrun⟩ | ⟨e,he,w1,hw1,hrun⟩
  ·
   have e1:(execOp a.eval nxo).run P w=.ok (.value (.tuple #[.bool false])) w:=by
    unfold execOp;rw [hn1]
    simp only [Act.eval]
    rw [vit]
    exact Zft hrun
   rw [e1,Oper.upon_value,hn2]
   refine ZdK hx3 ?_
   unfold Oper.wp
   have e2:(execOp (a.put (some nx) (.tuple #[.bool false])).eval exo).run P w=.ok (.value (.bool false)) w:=by
    unfold execOp;rw [hx1]
    simp only [Act.eval]
    rw [pgs (by omega)]
    exact Zft (by simp [Instr.extract])
   rw [e2,Oper.upon_value,hx2]
   refine wpList_nil ?_
   simp only [Exit.then]
   refine wp_seq (wp_cond_false (by simp only [Act.eval];exact pgs (by rw [Zci];omega)) (wp_exit ?_))
   simp only [Exit.then]
   obtain ⟨rest,hr⟩:=hperm js hnd hlt
   have hrest:rest=[]:=by
    cases rest with
    | nil=>rfl
    | cons x rest =>
     exfalso
     have hx:x < es.length:=List.mem_range.1 (hr.mem_iff.2 (by simp))
     obtain ⟨ex,hxa⟩:∃ ex,arr.toList[x]?=some ex:=⟨_,List.getElem?_eq_getElem (by simpa [hne] using hx)⟩
     have hs:=ZpD hz (arr.toList.getD x ⟨undef,undef,0⟩) (by
      rw [List.getD_eq_getElem?_getD,hxa];exact List.mem_of_getElem? hxa)
     have hnd2:(js++x::rest).Nodup:=hr.nodup_iff.1 List.nodup_range
     have hxj:x ∉ js:=fun hm=>by
      have:=(List.nodup_append.1 hnd2).2.2 x hm x (by simp)
      exact this rfl
     simp only [List.contains_toArray,List.contains_eq_mem,decide_eq_true_eq,List.mem_map] at hs
     obtain ⟨y,hy,hyx⟩:=hs
     have hyl:y < es.length:=hlt y hy
     obtain ⟨ey,hya⟩:∃ ey,arr.toList[y]?=some ey:=⟨_,List.getElem?_eq_getElem (by simpa [hne] using hyl)⟩
     have hnb:=hS.2
     have e3:(arr.toList.map (·.born))[y]?=(arr.toList.map (·.born))[x]?:=by
      rw [List.getElem?_map,List.getElem?_map,hya,hxa]
      simp only [Option.map_some,Option.some.injEq]
      unfold ZcG at hyx
      rw [List.getD_eq_getElem?_getD,List.getD_eq_getElem?_getD,hya,hxa] at hyx
      exact hyx
     have hyx2:=(List.getElem?_inj (by simpa [hne] using hyl) hnb).1 e3
     subst hyx2
     exact hxj hy
   subst hrest
   have hp:=hpm js [] hr
   have ho:=hall _ hp
   unfold Zcw at ho
   rw [Zeu,hf] at ho
   simp only [List.map_nil,Zbe] at ho
   refine hQ tm σ _ w I1 β1 ho g1 g2 ?_ ⟨by rw [ZfA,ZfA];exact gd.1,by rw [Zci,Zci];exact gs⟩ R1
   have t0:∀ d,d ∉ live->tget (keepL live tm) d=.top:=fun d hd=>by rw [ZeQ,if_neg hd]
   exact Zet (Zet T1 (t0 nx fun h=>(hlv nx h).2.1 rfl)) (t0 ok fun h=>(hlv ok h).2.2.1 rfl)
  ·
   obtain ⟨hea,hes⟩:=Zqw he
   obtain ⟨j,hj,hje⟩:=List.getElem_of_mem hea
   have hja:arr.toList[j]?=some e:=by rw [List.getElem?_eq_getElem hj,hje]
   have hjl:j < es.length:=by simpa [hne] using hj
   have hbj:ZcG arr j=e.born:=by unfold ZcG;rw [List.getD_eq_getElem?_getD,hja];rfl
   have hjs:j ∉ js:=fun hm=>by
    have : (js.map (ZcG arr)).toArray.contains e.born=true:=by
     simp only [List.contains_toArray,List.contains_eq_mem,decide_eq_true_eq,List.mem_map]
     exact ⟨j,hm,hbj⟩
    rw [this] at hes;cases hes
   have hnd':(js++[j]).Nodup:=by
    rw [List.nodup_append]
    exact ⟨hnd,by simp,fun x hx y hy=>by rw [List.mem_singleton] at hy;subst hy;rintro rfl;exact hjs hx⟩
   have hlt':∀ k ∈ js++[j],k < es.length:=fun k hk=>by
    rcases List.mem_append.1 hk with hk | hk
    ·exact hlt k hk
    ·rw [List.mem_singleton] at hk;subst hk;exact hjl
   obtain ⟨rest,hr⟩:=hperm (js++[j]) hnd' hlt'
   have hp:=hpm (js++[j]) rest hr
   have ho:=hall _ hp
   unfold Zcw at ho
   rw [Zeu,List.map_append,Zeu,hf] at ho
   simp only [List.map_cons,List.map_nil,Zbe] at ho
   generalize hkv:es.getD j ((.top,.top):AVal×AVal)=kv at ho
   cases hro:Zcn fs prim bf m live ms en b1 aslE c2 es kv tm σ with
   | none=>rw [hro] at ho;cases ho
   | some q =>
   obtain ⟨tm',σ'⟩:=q
   clear ho
   have hf':Zbe fs prim bf m live ms en b1 aslE c2 es ((js++[j]).map fun j=>es.getD j (.top,.top)) tm2 σ2=some (tm',σ'):=by
    rw [List.map_append,Zeu,hf]
    simp only [List.map_cons,List.map_nil,Zbe,hkv,hro]
   unfold Zcn at hro
   split at hro
   case h_2=>cases hro
   rename_i t hmst
   split at hro
   case isFalse=>cases hro
   rename_i hcond
   obtain ⟨hte,hkept⟩:=hcond
   split at hro
   case h_2=>cases hro
   rename_i tmA σA hstep
   have hbw:=R1.base_le hb
   have Rr:=R1.rebase hown
   obtain ⟨β0,q1,R0r,T0⟩:=Zga Rr T1 m
   have R0:=R1.unbase R0r (fun k h=>Or.inl h)
   have hown0:∀ t x,(gcT m (keepL live tm) σ).2[t]?=some x->Zc β0 t x≠some r:=fun t x hx ho=>(R0r.own t x r hx ho).1 (Or.inr rfl)
   have tt:∀ d,d ∉ live->tget (gcT m (keepL live tm) σ).1 d=.top:=fun d hd=>Zmn hd
   have hml:=Zvj m (keepL live tm) σ
   generalize (gcT m (keepL live tm) σ).1=tm0 at *
   generalize (gcT m (keepL live tm) σ).2=σ0 at *
   have vt:=T0 ms
   rw [hmst,vms] at vt
   simp only [VR] at vt
   obtain ⟨b',kk',cc',hbt,hbb⟩:=vt
   simp only [Value.map.injEq,Option.some.injEq] at hbb
   subst hbb
   obtain ⟨b2,k2,c2',arr',clk',e1,e2,e3,e4,e5,e6⟩:=R0.blk t _ hte
   rw [hbt] at e1
   simp only [Option.some.injEq,BI.mk.injEq] at e1
   obtain ⟨rfl,rfl,rfl⟩:=e1
   rw [hmap] at e2
   simp only [Option.some.injEq,Obj.map.injEq] at e2
   obtain ⟨rfl,rfl⟩:=e2
   have howb:Zc β0 t (.map es)=some b:=by simp [Zc,hbt]
   have htl:t < σ0.length:=(List.getElem?_eq_some_iff.1 hte).1
   have e1:(execOp a.eval nxo).run P w=.ok (.value (.tuple #[.bool true,e.key,e.val])) (setBlock w1 r (.mapIter (some b) clk ((js.map (ZcG arr)).toArray.push e.born) clk)):=by
    unfold execOp;rw [hn1]
    simp only [Act.eval]
    rw [vit]
    rw [Sem.run_bind,hrun];rfl
   have hw1h:w1.heap=w.heap/\w1.os=w.os/\w1.tape=w.tape/\w1.output=w.output:=by rcases hw1 with rfl | rfl <;> exact ⟨rfl,rfl,rfl,rfl⟩
   obtain ⟨wh,wo,wt,wu⟩:=hw1h
   have hrlt:r < w.heap.size:=(Array.getElem?_eq_some_iff.1 hit).1
   generalize hw3:setBlock w1 r (.mapIter (some b) clk ((js.map (ZcG arr)).toArray.push e.born) clk)=w3 at e1
   have w3r:w3.heap[r]?=some (.mapIter (some b) clk ((js.map (ZcG arr)).toArray.push e.born) clk):=by
    rw [<-hw3];simp only [setBlock,wh];rw [Array.getElem?_setIfInBounds_self_of_lt hrlt]
   have w3k:∀ k,k≠r->w3.heap[k]?=w.heap[k]?:=fun k hk=>by
    rw [<-hw3];simp only [setBlock,wh];rw [Array.getElem?_setIfInBounds_ne (Ne.symm hk)]
   have w3b:w3.heap[b]?=some (.map arr clk):=by rw [w3k b (Ne.symm hrb)];exact hmap
   have w3s:w3.heap.size=w.heap.size:=by rw [<-hw3];simp [setBlock,wh]
   have R3:Rel base w0 I0 I1 β0 σ0 w3:=R0.turn hown0 hrbase hIr (by rw [<-hw3];exact wo) (by rw [<-hw3];exact wt) (by rw [<-hw3];exact wu) (by omega) (fun k hk _=>w3k k hk) hbw
   have hIb:∀ o,I1 b o=none:=(R3.own t _ b hte howb).2
   have RH:=R3.hide hte howb hown0
   rw [e1,Oper.upon_value,hn2]
   generalize hA1:a.put (some nx) (.tuple #[.bool true,e.key,e.val])=A1
   have s1:A1.tmps.size=a.tmps.size:=by rw [<-hA1,Zci]
   have f1:∀ k,k≠nx->A1.tmps.getD k undef=a.tmps.getD k undef:=by intro k hk;rw [<-hA1];exact pgn (Ne.symm hk)
   have df1:A1.defers=[]:=by rw [<-hA1];exact gd.1
   have TA1:TR I1 β0 tm0 A1.tmps:=by rw [<-hA1];exact Zet T0 (tt nx fun h=>(hlv nx h).2.1 rfl)
   refine ZdK hx3 ?_
   unfold Oper.wp
   have e2:(execOp A1.eval exo).run P w3=.ok (.value (.bool true)) w3:=by
    unfold execOp;rw [hx1]
    simp only [Act.eval]
    rw [<-hA1,pgs (by omega)]
    exact Zft (by simp [Instr.extract])
   rw [e2,Oper.upon_value,hx2]
   generalize hA2:A1.put (some ok) (.bool true)=A2
   have s2:A2.tmps.size=a.tmps.size:=by rw [<-hA2,Zci,s1]
   have f2:∀ k,k≠ok->A2.tmps.getD k undef=A1.tmps.getD k undef:=by intro k hk;rw [<-hA2];exact pgn (Ne.symm hk)
   have df2:A2.defers=[]:=by rw [<-hA2];exact df1
   have TA2:TR I1 β0 tm0 A2.tmps:=by rw [<-hA2];exact Zet TA1 (tt ok fun h=>(hlv ok h).2.2.1 rfl)
   refine wpList_nil ?_
   simp only [Exit.then]
   refine wp_seq (wp_cond_true (by simp only [Act.eval];rw [<-hA2];exact pgs (by omega)) (wp_skip ?_))
   simp only [Exit.then]
   refine wp_block (wp_seq (wp_region_list ?_))
   rw [h4]
   refine ZdK he3 ?_
   unfold Oper.wp
   have e3':(execOp A2.eval eno).run P w3=.ok (.value (.tuple #[e.key,e.val])) w3:=by
    unfold execOp;rw [he1]
    simp only [Act.eval]
    rw [f2 it (Ne.symm d10),f1 it (Ne.symm d9),vit]
    exact Zft (run_entry_at w3 r b clk _ arr clk e w3r w3b hea hS.2)
   rw [e3',Oper.upon_value,he2]
   generalize hA3:A2.put (some en) (.tuple #[e.key,e.val])=A3
   have s3:A3.tmps.size=a.tmps.size:=by rw [<-hA3,Zci,s2]
   have f3:∀ k,k≠en->A3.tmps.getD k undef=A2.tmps.getD k undef:=by intro k hk;rw [<-hA3];exact pgn (Ne.symm hk)
   have df3:A3.defers=[]:=by rw [<-hA3];exact df2
   have hkve:VR I1 β0 (.tup [kv.1,kv.2]) (.tuple #[e.key,e.val]):=by
    have hej:es[j]?=some kv:=by
     rw [<-hkv,List.getD_eq_getElem?_getD,List.getElem?_eq_getElem hjl];rfl
    obtain ⟨v1,p1,p2⟩:=ZaX e3 (i:=j) (x:=kv.1) (by rw [List.getElem?_map,hej];rfl)
    obtain ⟨v2,p3,p4⟩:=ZaX e4 (i:=j) (x:=kv.2) (by rw [List.getElem?_map,hej];rfl)
    rw [List.getElem?_map,hja] at p1 p3
    simp only [Option.map_some,Option.some.injEq] at p1 p3
    subst p1 p3
    simp only [VR]
    exact ⟨_,rfl,by simp only [VRs];exact ⟨_,_,rfl,p2,_,_,rfl,p4,rfl⟩⟩
   have TA3:TR I1 β0 (tput tm0 (some en) (.tup [kv.1,kv.2])) A3.tmps:=by rw [<-hA3];exact TR.put TA2 hkve (by omega)
   have ok3:(Za6 it ms r b).ok A3:=by
    refine ⟨df3,fun k hk=>?_⟩
    have hk':k=it\/k=ms:=by simpa [Za6] using hk
    have n1:k≠en/\k≠ok/\k≠nx:=by
     rcases hk' with rfl | rfl
     ·exact ⟨Ne.symm d11,Ne.symm d10,Ne.symm d9⟩
     ·exact ⟨Ne.symm d8,Ne.symm d7,Ne.symm d6⟩
    rw [f3 k n1.1,f2 k n1.2.1,f1 k n1.2.2]
    exact gd.2 k hk
   have hkp:∀ n ∈ (Za6 it ms r b).K,n ∈ an3.keep:=fun n hn=>by rw [hk3];exact hn
   have hblt:b < w.heap.size:=(Array.getElem?_eq_some_iff.1 hmap).1
   have hbH:KLt (fun k=>base k\/k=b\/k=r) w3:=fun k hk=>by
    rcases hk with hk | rfl | rfl
    ·have:=hbw k hk;omega
    ·omega
    ·omega
   obtain ⟨cs,hruns⟩:=Zis hstep
   rw [<-List.append_nil lE]
   refine Zgi (dr:=Za6 it ms r b) (O:=fun _ _ _=>none) noO hkp hbH hcE TA3 ⟨ok3,by omega⟩ RH hruns ?_
   intro A4 w4 hst4
   refine wpList_nil ?_
   simp only [Exit.then]
   have fin:∀ (x:ZM) (tmB:Tms) (σB:Za),evC fs prim bf σ0.length c2 tmA σA=some (x,tmB,σB)->(x=.normal\/x=.exit b1)->σB[t]?=some .opq->tput tmB (some ms) (.map t)=tm'->σB.set t (.map es)=σ'->body.wp P (Exit.inBlock b1 (Exit.then (Code.rounds P (.seq (.region i3 ops3 false) (.seq (.cond (.tmp ok) .skip (.exit bid)) (.block b1 (.seq (.region i4 ops4 false) body)))) Q n) Q)) A4 w4:=by
    intro x tmB σB hev hx hopq htm hσ
    obtain ⟨nf,hev⟩:=Zas.1 hev
    rw [<-hc2,Zb2] at hev
    have hstF:StF (Za6 it ms r b) σ0.length an3.nt (fun k=>base k\/k=b\/k=r) w3 I1 I1 β0 tmA σA A4 w4:=by
     obtain ⟨I4,β4,k1,k2,k3⟩:=hst4
     exact ⟨I4,β4,k1,KeptE.of_le k2,k3⟩
    have next:∀ A5 w5,StF (Za6 it ms r b) σ0.length an3.nt (fun k=>base k\/k=b\/k=r) w3 I1 I1 β0 tmB σB A5 w5->Code.rounds P (.seq (.region i3 ops3 false) (.seq (.cond (.tmp ok) .skip (.exit bid)) (.block b1 (.seq (.region i4 ops4 false) body)))) Q n A5 w5:=by
     rintro A5 w5 ⟨I5,β5,k1,k2,k3,⟨k4,k4'⟩,k5⟩
     have hb5:β5 t 0=some ⟨some b,kk',cc'⟩:=k2 t htl _ hbt
     have w5b:w5.heap[b]?=some (.map arr clk):=by rw [k5.below.block b (Or.inr (Or.inl rfl))];exact w3b
     have w5r:w5.heap[r]?=_:=(k5.below.block r (Or.inr (Or.inr rfl))).trans w3r
     have hI5b:∀ o,I5 b o=none:=fun o=>by rw [k5.old b o (Or.inr (Or.inl rfl))];exact hIb o
     have hI5r:∀ o,I5 r o=none:=fun o=>by rw [k5.old r o (Or.inr (Or.inr rfl))];exact hIr o
     have hB5:BR I5 β5 w5 t (.map es):=⟨b,kk',cc',arr,clk,hb5,w5b,Zir (fun y hy=>by obtain ⟨p,hp,rfl⟩:=List.mem_map.1 hy;exact e5 p hp) e3,ZiC k1 k2 (fun y hy=>by obtain ⟨p,hp,rfl⟩:=List.mem_map.1 hy;exact hkept p hp) e4,e5,hS⟩
     have ho5:Zc β5 t (.map es)=some b:=by simp [Zc,hb5]
     have R5:=R3.unhide k5 hopq ho5 hB5 hbbase hI5b
     rw [hσ] at R5
     refine ih (js++[j]) tm' σ' A5 w5 (by rw [List.length_append,List.length_singleton];omega) hnd' hlt' hf' ?_ w5b ⟨I5,β5,g1.trans k1,?_,?_,⟨k4,by omega⟩,R5,hI5r,?_⟩
     ·rw [w5r,List.map_append,List.map_cons,List.map_nil,hbj,List.push_toArray]
     ·refine (g2.trans q1).trans (fun u hu bi hbi=>k2 u (by omega) bi hbi)
     ·refine TR.keep (fun u=>?_) live
      rw [<-htm]
      show VR I5 β5 (tget (tins ms (.map t) tmB) u) _
      rw [Zd6]
      split
      ·rename_i e;subst e
       have : A5.tmps.getD ms undef=.map (some b):=by have:=k4.2 ms (by simp [Za6]);simpa [Za6,Ne.symm d5] using this
       rw [this]
       simp only [VR]
       exact ⟨b,kk',cc',hb5,rfl⟩
      ·exact k3 u
     ·intro u y hy hoy
      rw [<-hσ,List.getElem?_set] at hy
      split at hy
      ·rename_i e;subst e
       split at hy
       ·injection hy with hy;subst hy
        rw [ho5] at hoy;injection hoy with hoy;exact hrb hoy.symm
       ·cases hy
      ·exact (k5.own u y r hy hoy).1 (Or.inr (Or.inr rfl))
    refine Ze7 (dr:=Za6 it ms r b) (an:=an3) (hO nf) hkp hm hbH σ0.length nf rfl hstF hev ?_
    rcases hx with rfl | rfl
    ·intro A5 w5 hs
     simp only [Exit.inBlock,Exit.then]
     exact next A5 w5 hs
    ·intro A5 w5 hs
     simp only [Exit.inBlock,if_true,Exit.then]
     exact next A5 w5 hs
   split at hro
   ·rename_i tmB σB hev
    split at hro
    case isFalse=>cases hro
    rename_i hopq
    simp only [Option.some.injEq,Prod.mk.injEq] at hro
    exact fin _ _ _ hev (Or.inl rfl) hopq hro.1 hro.2
   ·rename_i i tmB σB hev
    split at hro
    case isFalse=>cases hro
    rename_i hopq
    obtain ⟨rfl,hopq⟩:=hopq
    simp only [Option.some.injEq,Prod.mk.injEq] at hro
    exact fin _ _ _ hev (Or.inr rfl) hopq hro.1 hro.2
   ·cases hro
end
end
section
open Go.RowKit
open Go.ChangeMaps (setBlock)
section
variable {P:Program} {fs:Nat->Option ZR} {prim:ZaM} {bf:Nat->Bool}
theorem Zvi (hm:P.follows .mixedOrders=true) (hO:∀ n,ZG P (ZC fs prim bf n)) {f:FuncId} {an1 an3:Ann} {nt n0 n1 ms it nx ok en bid b1:Nat} {live:List Nat} {asl1 aslE:List AOp} {c1 c2 c3:Zi} {rs:List Zbi}
  (D:ZhO P f an1 an3 nt n0 n1 ms it nx ok en bid b1 live asl1 aslE c1 c2 c3 rs) {args:List AVal} {σ σ':Za} {r:AVal} (hg:ZeH fs prim bf live ms en b1 asl1 aslE c1 c2 c3 rs args σ=some (r,σ')) :
  (∃ fn,P.funcs[f]?=some fn/\fn.body.isSome=true/\(fn.name == "runtime.NumGoroutine")=false) /\
  ∀ base w0 I0 I β w (vs:Array Value),KLt base w0->Rel base w0 I0 I β σ w->VRs I β args vs.toList ->
   Calls P f vs w (fun e w'=>∃ u,Ends r e u/\Za4 σ.length base w0 I0 I β r σ' u w'):=by
 obtain ⟨F,B,pre,ops1,ops3,ops4,i2,i3,i4,body,rest,t,kt,et,rg,nxo,exo,eno,lE,hF,hname,hnt,hrs,hbody,hsp,h1,h3,h4,hr1,hr2,hr3,hu,hn1,hn2,hn3,hx1,hx2,hx3,he1,he2,he3,hc1,hca1,hcE,hc2,hc3,ha1,ha3,hk3,hd⟩:=D.ex
 simp only [Bool.and_eq_true,decide_eq_true_eq,List.all_eq_true] at hd
 obtain ⟨⟨⟨⟨⟨⟨⟨⟨⟨⟨⟨⟨d1,d2⟩,d3⟩,d4⟩,d5⟩,d6⟩,d7⟩,d8⟩,d9⟩,d10⟩,d11⟩,d12⟩,hlv⟩:=hd
 refine ⟨⟨F,hF,by rw [hbody];rfl,hname⟩,?_⟩
 intro base w0 I0 I β w vs hb R hargs
 unfold ZeH at hg
 split at hg
 case h_2=>cases hg
 rename_i tm1 σ1 hx
 split at hg
 case h_2=>cases hg
 rename_i tm2 σ2 hst1
 split at hg
 case h_2=>cases hg
 rename_i mt hms
 split at hg
 case h_2=>cases hg
 rename_i es hes
 unfold Zd4 at hg
 split at hg
 case isFalse=>cases hg
 rename_i hex
 have hall:=hex.choose_spec
 injection hg with hg
 rw [hg] at hall
 obtain ⟨nf,hx⟩:=Zas.1 hx
 rw [<-hc1,Zb2] at hx
 refine calls_of_wp hF hbody ?_
 rw [Zjb hsp]
 have T:=Zjo hargs (F.ntmps - vs.size)
 have hst:StF Za2 σ.length an1.nt base w0 I0 I β (enterA 0 args []) σ { tmps:=vs++Array.replicate (F.ntmps - vs.size) undef,defers:=[] } w:=⟨I,β,Imm.le.refl I,KeptE.refl _ β,T,⟨ZcA.2 rfl,by rw [ha1,<-hnt];simp;omega⟩,R⟩
 refine ZiO (hO nf) hm hb σ.length nf _ pre hst hx ?_
 rintro A1 w1 ⟨I1,β1,g1,g2,T1,⟨gd,gs⟩,R1⟩
 refine wp_seq (wp_seq (wp_region_list ?_))
 have hl1:ops1.toList=ops1.toList.take n1++[rg]:=by rw [<-h1,List.take_append_drop]
 rw [hl1]
 obtain ⟨cs,hruns⟩:=Zis hst1
 refine Zgi (dr:=Za2) (O:=fun _ _ _=>none) noO (fun n hn=>by simp [Za2] at hn) hb hca1 T1 ⟨gd,gs⟩ R1 hruns ?_
 rintro A2 w2 ⟨I2,β2,k1,k2,T2,⟨kd,ks⟩,R2⟩
 have vms:=T2 ms
 rw [hms] at vms
 simp only [VR] at vms
 obtain ⟨b,kk,cc,hbt,vms⟩:=vms
 obtain ⟨b',kk',cc',arr,clk,e1,e2,e3,e4,e5,e6⟩:=R2.blk mt _ hes
 rw [hbt] at e1
 simp only [Option.some.injEq,BI.mk.injEq] at e1
 obtain ⟨rfl,rfl,rfl⟩:=e1
 refine ZdK hr3 ?_
 unfold Oper.wp
 have er:(execOp A2.eval rg).run P w2=.ok (.value (.pointer (some ⟨w2.heap.size,0,none⟩))) { w2 with heap:=w2.heap.push (.mapIter (some b) clk #[] clk) }:=by
  unfold execOp;rw [hr1]
  simp only [Act.eval]
  rw [vms]
  simp [Instr.range,run_underlying hu,Zeh e2]
 rw [er,Oper.upon_value,hr2]
 refine wpList_nil ?_
 simp only [Exit.then]
 have hbw:=R2.base_le hb
 have hblt:b < w2.heap.size:=(Array.getElem?_eq_some_iff.1 e2).1
 have howb:Zc β2 mt (.map es)=some b:=by simp [Zc,hbt]
 have hob:=R2.own mt _ b hes howb
 generalize hr:w2.heap.size=rr at *
 have hown:∀ t x,σ2[t]?=some x->Zc β2 t x≠some rr:=fun t x hx ho=>by
  have:=(R2.blk t x hx).owns_lt ho;omega
 have hrb:¬base rr:=fun h=>by have:=hbw rr h;omega
 have hIr:∀ o,I2 rr o=none:=fun o=>by
  cases hi:I2 rr o with
  | none=>rfl
  | some u =>
   have:=ZbE (R2.imm rr o u hi)
   omega
 generalize hw3:({ w2 with heap:=w2.heap.push (.mapIter (some b) clk #[] clk) }:World)=w3
 have w3k:∀ k,k < w2.heap.size->w3.heap[k]?=w2.heap[k]?:=fun k hk=>by
  rw [<-hw3];simp only;rw [Array.getElem?_push];rw [if_neg (by omega)]
 have R3:Rel base w0 I0 I2 β2 σ2 w3:=R2.turn hown hrb hIr (by rw [<-hw3]) (by rw [<-hw3]) (by rw [<-hw3]) (by rw [<-hw3];simp) (fun k _ hk=>w3k k hk) hbw
 refine wp_block (wp_loop_rounds (es.length+1) ?_)
 have hlen:arr.size=es.length:=by
  have:=ZQ e3
  simpa using this.symm
 refine Zrn (base:=base) (w0:=w0) (I0:=I0) (m:=σ.length) (live:=live) (ms:=ms) (it:=it) (nx:=nx) (ok:=ok) (en:=en) (nt:=nt) (c3:=c3) (rs:=rs) hm hO hb h3 h4 hn1 hn2 hn3 hx1 hx2 hx3 he1 he2 he3 hcE hc2 ha3 hk3 d1 d2 d3 d4 d5 d6 d7 d8 d9 d10 d11 d12 (fun n hn=>by have:=hlv n hn;exact ⟨this.1.1.1,this.1.1.2,this.1.2,this.2⟩)
  (r:=rr) (b:=b) (arr:=arr) (clk:=clk) (es:=es) (tm2:=tm2) (σ2:=σ2) (out:=(r,σ')) (I:=I2) (β:=β2) e6 hlen (by omega) hrb hob.1 hall ?_ (es.length+1) [] tm2 σ2 _ w3 (by simp) (by simp) (by simp) rfl ?_ ?_ ?_
 ·
  intro tm σx a wx I' β' hend j1 j2 jT jd jR
  simp only [Exit.inBlock,if_true,Exit.then]
  unfold Zcq at hend
  obtain ⟨β3,q1,q2,q3⟩:=Zga jR jT σ.length
  generalize hev:evC fs prim bf σ.length c3 (gcT σ.length (keepL live tm) σx).1 (gcT σ.length (keepL live tm) σx).2=res at hend
  cases res with
  | none=>simp only [Zat] at hend;cases hend
  | some q =>
   obtain ⟨e,tm',σe⟩:=q
   obtain ⟨n3,hev⟩:=Zas.1 hev
   rw [<-hc3,Zb2] at hev
   have kk1:KeptE σ.length β β3:=(g2.trans (KeptE.of_le k2)).trans (j2.trans q1)
   have st:StF Za2 σ.length an1.nt base w0 I0 I β (gcT σ.length (keepL live tm) σx).1 (gcT σ.length (keepL live tm) σx).2 a wx:=⟨I',β3,(g1.trans k1).trans j1,kk1,q3,⟨ZcA.2 jd.1,by rw [ha1];exact jd.2⟩,q2⟩
   have fin:(match resA tm' σe rs with | some r=>ZaJ σ.length σe r | none=>none)=some (r,σ')->∀ a' w',StF Za2 σ.length an1.nt base w0 I0 I β tm' σe a' w'->a'.defers=[]/\∃ v,(results F a'.tmps).run P w'=.ok v w'/\∃ u,Ends r (.returned v) u/\Za4 σ.length base w0 I0 I β r σ' u w':=by
    intro hr a' w' ⟨I1,β1,g1,g2,g3,g4,g5⟩
    split at hr
    ·rename_i x hx1
     obtain ⟨v,h1,h2⟩:=Zjj g3 g5 hrs hx1
     have hnp:∀ y,x≠.pan y:=by rintro y rfl;simp only [VR] at h2
     obtain ⟨q1,q2⟩:=Zeb (⟨I1,β1,g1,g2,g5,by rw [ZcU hnp];exact h2⟩:Za4 σ.length base w0 I0 I β x σe v w') hr
     refine ⟨ZcA.1 g4.1,v,h1,v,q2 _ ?_,q1⟩
     cases x <;> first | rfl | exact absurd rfl (hnp _)
    ·cases hr
   refine Ze7 (dr:=Za2) (an:=an1) (hO n3) (fun n hn=>by simp [Za2] at hn) hm hb σ.length n3 rfl st hev ?_
   cases e with
   | normal=>simp only [Zat] at hend;exact fun a' w' hs=>fin hend a' w' hs
   | ret=>simp only [Zat] at hend;exact fun a' w' hs=>fin hend a' w' hs
   | exit id=>simp only [Zat] at hend;cases hend
   | panic x =>
    simp only [Zat] at hend
    intro a' u w' hd hp
    obtain ⟨q1,q2⟩:=Zeb hp hend
    exact ⟨ZcA.1 hd,u,q2 _ rfl,q1⟩
 ·rw [<-hw3,<-hr];simp
 ·rw [w3k b (by omega)];exact e2
 ·refine ⟨I2,β2,Imm.le.refl _,KeptE.refl _ _,?_,⟨⟨by rw [ZfA];exact ZcA.1 kd,fun k hk=>?_⟩,by rw [Zci];omega⟩,R3,hIr,hown⟩
  ·refine Zet (T2.keep live) ?_
   rw [ZeQ,if_neg]
   exact fun h=>(hlv it h).1.1.1 rfl
  ·have hk':k=it\/k=ms:=by simpa [Za6] using hk
   rcases hk' with rfl | rfl
   ·rw [pgs (by omega)];simp [Za6]
   ·rw [pgn d5,vms];simp [Za6,Ne.symm d5]
end
end
section
open Go.RowKit Go.Sort
def Zbp {α:Type} (g:AVal->Option α):List AVal->Option (List α)
 | []=>some []
 | x::r=>match g x with
  | some a=>(Zbp g r).map (a::·)
  | none=>none
def ZcR:AVal->Option Int
 | .int .i64 n=>some n
 | _=>none
def Zey {α:Type} (g:AVal->Option α) (h:α->AVal) (le:α->α->Bool) (args:List AVal) (σ:Za):Option (AVal×Za):=match args,σ with
 | [.sl 0 0 0 n],[.row 0 1 xs]=>match Zbp g xs with
  | some zs=>if n=xs.length/\n < 4611686018427387904 then some (.tup [],[.row 0 1 ((zs.mergeSort le).map h)]) else none
  | none=>none
 | [.lst b []],[]=>some (.tup [],[])
 | _,_=>none
def ZeX:=Zey ZcR (AVal.int .i64) (fun x y=>decide (x<=y))
section
variable {P:Program} {base:Nat->Prop} {w0 w w':World} {I0 I:Imm} {β:Bmap} {σ:Za}
theorem Rel.putAt (R:Rel base w0 I0 I β σ w) (hbl:KLt base w) {t b:Nat} {x x':Zs} (ht:σ[t]?=some x) (hx:Zc β t x=some b) (hx':Zc β t x'=some b) (hg:Zd x'=Zd x)
  (hos:w'.os=w.os) (hta:w'.tape=w.tape) (hou:w'.output=w.output) (hs:w.heap.size<=w'.heap.size) (hh:∀ k,k≠b->k < w.heap.size->w'.heap[k]?=w.heap[k]?) (hblk:BR I β w' t x') :
  Rel base w0 I0 I β (σ.set t x') w':=by
 have hsl:t < σ.length:=(List.getElem?_eq_some_iff.1 ht).1
 have ho:=R.own t x b ht hx
 refine R.upd (Imm.le.refl I) (Bmap.le.refl β) ⟨hos,hta,hou,hs,fun k hk=>hh k (by rintro rfl;exact ho.1 hk) (hbl k hk)⟩ (fun _ _ _=>rfl) ?_ t x' rfl hsl (fun _ _ _=>rfl) ?_ hblk ?_ ?_ ?_
 ·intro b' o u h
  have hne:b'≠b:=by rintro rfl;rw [ho.2 o] at h;cases h
  have h1:=R.imm b' o u h
  have hlt:=ZbE h1
  rw [<-h1]
  simp only [World.cell?,hh b' hne hlt]
 ·intro t' y b' hne hy hb'
  have hbb:b'≠b:=by rintro rfl;exact hne (R.apart t' y t x b' hy ht hb' hx)
  exact ⟨hh b' hbb ((R.blk t' y hy).owns_lt hb'),(R.own t' y b' hy hb').2,by rw [hx'];intro e;injection e with e;exact hbb e.symm⟩
 ·intro b' e
  rw [hx'] at e;injection e with e;subst e
  exact ho
 ·intro g hlt
  exact R.gen t x g ht (by rw [<-hg];exact hlt)
 ·rintro rfl
  cases hx'
theorem ZiZ {α:Type} {g:AVal->Option α} {enc:α->Value} (hg:∀ x a v,g x=some a->VR I β x v->v=enc a) (hc:∀ x a,g x=some a->x.cells=[x]):∀ {xs:List AVal} {zs:List α} {vs:List Value},Zbp g xs=some zs->VRs I β (xs.flatMap AVal.cells) vs->vs=zs.map enc
 | [],zs,vs,h,hv=>by
  simp only [Zbp,Option.some.injEq] at h;subst h
  simpa [VRs] using hv
 | x::xs,zs,vs,h,hv=>by
  simp only [Zbp] at h
  split at h
  ·rename_i a ha
   simp only [Option.map_eq_some_iff] at h
   obtain ⟨zs',h,rfl⟩:=h
   rw [List.flatMap_cons,hc x a ha] at hv
   simp only [List.singleton_append,VRs] at hv
   obtain ⟨v,vs',rfl,h1,h2⟩:=hv
   rw [hg x a v ha h1,ZiZ hg hc h h2];rfl
  ·cases h
theorem ZiI {α:Type} {g:AVal->Option α}:∀ {xs:List AVal} {zs:List α},Zbp g xs=some zs->zs.length=xs.length
 | [],zs,h=>by simp only [Zbp,Option.some.injEq] at h;subst h;rfl
 | x::xs,zs,h=>by
  simp only [Zbp] at h
  split at h
  ·simp only [Option.map_eq_some_iff] at h
   obtain ⟨zs',h,rfl⟩:=h
   simp [ZiI h]
  ·cases h
theorem ZoI {α:Type} [Inhabited α] {g:AVal->Option α} {h:α->AVal} {le:α->α->Bool} {enc:α->Value} {f:Nat} (hf:∃ fn,P.funcs[f]?=some fn/\fn.body.isSome=true/\(fn.name == "runtime.NumGoroutine")=false)
  (hg:∀ {I:Imm} {β:Bmap} (x:AVal) (a:α) (v:Value),g x=some a->VR I β x v->v=enc a) (hc:∀ x a,g x=some a->x.cells=[x]) (hh:∀ {I:Imm} {β:Bmap} (x:AVal) (a:α) (v:Value),g x=some a->VR I β x v->VR I β (h a) v) (hhc:∀ a,(h a).cells=[h a]/\ZL (h a)=true)
  (hsort:∀ (blk off cap:Nat) (zs:List α) (w:World),Holds enc w blk off zs.toArray->blk < w.heap.size->zs.length < 4611686018427387904->Calls P f #[.slice (some ⟨blk,off,none⟩) zs.length cap] w fun e w'=>e=.returned (.tuple #[])/\∃ n os,w'=grow (putRow enc (Sort.ahead w n) blk off (zs.mergeSort le).toArray) os)
  (hnone:∀ (p:Option Addr) (cap:Nat) (w:World),Calls P f #[.slice p 0 cap] w fun e w'=>e=.returned (.tuple #[])/\w'=w)
  {args:List AVal} {σ σ':Za} {r:AVal} (hp:Zey g h le args σ=some (r,σ')) :
  (∃ fn,P.funcs[f]?=some fn/\fn.body.isSome=true/\(fn.name == "runtime.NumGoroutine")=false) /\
  ∀ base w0 I0 I β w (vs:Array Value),KLt base w0->Rel base w0 I0 I β σ w->VRs I β args vs.toList ->
   Calls P f vs w (fun e w'=>∃ u,Ends r e u/\Za4 σ.length base w0 I0 I β r σ' u w'):=by
 refine ⟨hf,fun base w0 I0 I β w vs hb R hv=>?_⟩
 unfold Zey at hp
 obtain ⟨vs⟩:=vs
 split at hp
 ·rename_i n xs
  split at hp
  case h_2=>cases hp
  rename_i zs hz
  split at hp
  case isFalse=>cases hp
  rename_i hn
  obtain ⟨rfl,hn⟩:=hn
  simp only [Option.some.injEq,Prod.mk.injEq] at hp
  obtain ⟨rfl,rfl⟩:=hp
  simp only [VRs] at hv
  obtain ⟨v,vs',rfl,hv,rfl⟩:=hv
  have hzl:=ZiI hz
  have hB:=R.blk 0 _ rfl
  obtain ⟨bi,e1,e2,e3,e4,e5,e6,e7,e8⟩:=hB
  rw [Za7] at hv
  obtain ⟨bi',f1,f2,f3,f4⟩:=hv
  rw [e1] at f1
  injection f1 with f1
  subst f1
  rcases f4 with ⟨b,hb',rfl⟩ | ⟨hbn,hc0,A,rfl⟩
  ·rcases e8 with ⟨e8,_⟩ | ⟨b2,us,ty,q1,q2,q3,q4⟩
   ·rw [e8] at hb';cases hb'
   rw [hb'] at q1;injection q1 with q1;subst q1
   rw [Nat.mul_one] at q3 q4
   have hus:=ZiZ (fun x a v=>hg x a v) hc hz q4
   have hxl:xs.length<=us.size:=by omega
   have hH:Holds enc w b 0 zs.toArray:=by
    intro j hj
    have hj':j < zs.length:=by simpa using hj
    refine ⟨?_,by simp [World.frozen?,q2]⟩
    have h1:(us.toList.take xs.length)[j]?=(zs.map enc)[j]?:=by rw [hus]
    rw [List.getElem?_take_of_lt (by omega)] at h1
    simp only [World.cell?,q2,Nat.zero_add]
    simp only [Option.isSome_none,Bool.false_eq_true,if_false]
    rw [<-Array.getElem?_toList,h1]
    simp [hj']
   have hvr:∀ a ∈ zs,VR I β (h a) (enc a):=by
    have key:∀ {ys:List AVal} {zs:List α} {vs:List Value},Zbp g ys=some zs->VRs I β (ys.flatMap AVal.cells) vs->∀ a ∈ zs,VR I β (h a) (enc a):=by
     intro ys
     induction ys with
     | nil=>intro zs vs hz _ a ha;simp only [Zbp,Option.some.injEq] at hz;subst hz;simp at ha
     | cons y ys ih =>
      intro zs vs hz hv a ha
      simp only [Zbp] at hz
      split at hz
      ·rename_i a0 ha0
       simp only [Option.map_eq_some_iff] at hz
       obtain ⟨zs',hz,rfl⟩:=hz
       rw [List.flatMap_cons,hc y a0 ha0] at hv
       simp only [List.singleton_append,VRs] at hv
       obtain ⟨v,vs',_,h1,h2⟩:=hv
       rcases List.mem_cons.1 ha with rfl | ha
       ·rw [<-hg y a v ha0 h1];exact hh y a v ha0 h1
       ·exact ih hz h2 a ha
      ·cases hz
    exact key hz q4
   have hlt:b < w.heap.size:=(Array.getElem?_eq_some_iff.1 q2).1
   rw [<-hzl]
   refine (hsort b 0 bi.cap zs w hH hlt (by omega)).mono ?_
   rintro e w' ⟨rfl,nn,os,rfl⟩
   have hml:(zs.mergeSort le).length=zs.length:=List.length_mergeSort zs
   have hheap:(grow (putRow enc (Sort.ahead w nn) b 0 (zs.mergeSort le).toArray) os).heap[b]?=some (.cells (putCells enc 0 (zs.mergeSort le).toArray us) ty (0,0)):=by
    rw [heap_grow_old _ _ (by simpa using hlt)]
    simp [putRow,mapBlock,Sort.ahead,Array.getElem?_modify,q2,onCells]
   have htake:(putCells enc 0 (zs.mergeSort le).toArray us).toList.take zs.length=(zs.mergeSort le).map enc:=by
    apply List.ext_getElem?
    intro j
    by_cases hj:j < zs.length
    ·rw [List.getElem?_take_of_lt hj,Array.getElem?_toList]
     have hj2:j < us.size:=by omega
     have hj3:j < (zs.mergeSort le).length:=by omega
     simp [putCells,hj2,hj]
    ·rw [List.getElem?_take_eq_none (by omega),List.getElem?_eq_none (by simp;omega)]
   have hperm:∀ a,a ∈ zs.mergeSort le->a ∈ zs:=fun a ha=>(List.mergeSort_perm zs le).mem_iff.1 ha
   have hcells:∀ l:List α,(l.map h).flatMap AVal.cells=l.map h:=by
    intro l
    induction l with
    | nil=>rfl
    | cons a l ih=>rw [List.map_cons,List.flatMap_cons,(hhc a).1,ih];rfl
   have hown:Zc β 0 (.row 0 1 xs)=some b:=by simp [Zc,e1,hb']
   refine ⟨.tuple #[],rfl,I,β,Imm.le.refl I,KeptE.refl _ β,?_,by simp [ZP,VR,VRs]⟩
   have:=R.putAt (R.base_le hb) (t:=0) (b:=b) (x:=.row 0 1 xs) (x':=.row 0 1 ((zs.mergeSort le).map h)) (w':=grow (putRow enc (Sort.ahead w nn) b 0 (zs.mergeSort le).toArray) os) rfl hown (by simp [Zc,e1,hb']) rfl rfl rfl rfl (by simp) (fun k hk hkl=>by
    rw [heap_grow_old _ _ (by simpa using hkl)]
    have : b≠k:=fun e=>hk e.symm
    simp [putRow,mapBlock,Sort.ahead,Array.getElem?_modify,this])
    ⟨bi,e1,e2,by decide,e4,by rw [List.length_map,hml];omega,?_,?_,Or.inr ⟨b,_,ty,hb',hheap,by simp [putCells];omega,?_⟩⟩
   ·exact this
   ·rw [Zbd]
    intro x hx
    obtain ⟨a,_,rfl⟩:=List.mem_map.1 hx
    have:=(hhc a)
    rw [Zbt,this.1]
    intro c hc
    rw [List.mem_singleton] at hc;subst hc
    exact this.2
   ·intro x hx
    obtain ⟨a,_,rfl⟩:=List.mem_map.1 hx
    rw [(hhc a).1];rfl
   ·rw [hcells,List.length_map,hml,Nat.mul_one,htake]
    have key:∀ l:List α,(∀ a ∈ l,VR I β (h a) (enc a))->VRs I β (l.map h) (l.map enc):=by
     intro l
     induction l with
     | nil=>intro _;simp [VRs]
     | cons a l ih =>
      intro hl
      simp only [List.map_cons,VRs]
      exact ⟨_,_,rfl,hl a (by simp),ih fun c hc=>hl c (by simp [hc])⟩
    exact key _ fun a ha=>hvr a (hperm a ha)
  ·have hx0:xs=[]:=List.eq_nil_of_length_eq_zero (by omega)
   subst hx0
   simp only [Zbp,Option.some.injEq] at hz
   subst hz
   refine (hnone A 0 w).mono ?_
   rintro e w' ⟨rfl,rfl⟩
   exact ⟨.tuple #[],rfl,I,β,Imm.le.refl I,KeptE.refl _ β,by simpa using R,by simp [ZP,VR,VRs]⟩
 ·simp only [Option.some.injEq,Prod.mk.injEq] at hp
  obtain ⟨rfl,rfl⟩:=hp
  simp only [VRs,VR] at hv
  obtain ⟨v,vs',rfl,⟨A,cap,rfl,_⟩,rfl⟩:=hv
  refine (hnone A cap w).mono ?_
  rintro e w' ⟨rfl,rfl⟩
  exact ⟨.tuple #[],rfl,I,β,Imm.le.refl I,KeptE.refl _ β,R,by simp [ZP,VR,VRs]⟩
 ·cases hp
theorem Zle {f:Nat} (hf:∃ fn,P.funcs[f]?=some fn/\fn.body.isSome=true/\(fn.name == "runtime.NumGoroutine")=false)
  (hsort:∀ (blk off cap:Nat) (zs:List Int) (w:World),Holds (Value.int .i64) w blk off zs.toArray->blk < w.heap.size->zs.length < 4611686018427387904->Calls P f #[.slice (some ⟨blk,off,none⟩) zs.length cap] w fun e w'=>e=.returned (.tuple #[])/\∃ n os,w'=grow (putRow (Value.int .i64) (Sort.ahead w n) blk off (zs.mergeSort fun x y=>decide (x<=y)).toArray) os)
  (hnone:∀ (p:Option Addr) (cap:Nat) (w:World),Calls P f #[.slice p 0 cap] w fun e w'=>e=.returned (.tuple #[])/\w'=w)
  {args:List AVal} {σ σ':Za} {r:AVal} (hp:ZeX args σ=some (r,σ')) :
  (∃ fn,P.funcs[f]?=some fn/\fn.body.isSome=true/\(fn.name == "runtime.NumGoroutine")=false) /\
  ∀ base w0 I0 I β w (vs:Array Value),KLt base w0->Rel base w0 I0 I β σ w->VRs I β args vs.toList ->
   Calls P f vs w (fun e w'=>∃ u,Ends r e u/\Za4 σ.length base w0 I0 I β r σ' u w'):=by
 refine ZoI (g:=ZcR) (h:=AVal.int .i64) hf ?_ ?_ ?_ (fun a=>⟨rfl,rfl⟩) hsort hnone hp
 ·intro I β x a v hx hv
  unfold ZcR at hx
  split at hx
  ·injection hx with hx;subst hx;simpa [VR] using hv
  ·cases hx
 ·intro x a hx
  unfold ZcR at hx
  split at hx
  ·rfl
  ·cases hx
 ·intro I β x a v hx hv
  unfold ZcR at hx
  split at hx
  ·injection hx with hx;subst hx;exact hv
  ·cases hx
end
end
section
def Zb4 {α:Type} (d:α):List (Nat×α)->Nat->α
 | [],_=>d
 | (k,v)::r,n=>if k=n then v else Zb4 d r n
def ZaA (own raw:List Nat) (cfg cfg2:List (Nat×Nat×Bool)) (lr ll:List (Nat×List Nat)):Ann:={ own:=fun n=>if own.contains n then 1 else if raw.contains n then 2 else 0,cfg:=Zb4 (0,true) cfg,cfg2:=Zb4 (0,true) cfg2,lr:=Zb4 [] lr,ll:=Zb4 [] ll }
def Zrk:List (Nat×Ann):=[
 (13,ZaA [] [] [] [] [(0,[1,0]),(1,[5,1,0]),(2,[5]),(3,[4])] []),
 (15,ZaA [] [] [] [] [(0,[1,0]),(1,[6]),(2,[4])] []),
 (12,ZaA [] [] [] [] [(0,[1,0]),(1,[15,1,0]),(2,[4]),(3,[]),(4,[4])] []),
 (20,ZaA [] [] [] [] [(0,[0]),(1,[2])] []),
 (10,ZaA [] [] [] [] [(0,[0]),(1,[4,0]),(2,[6,4,0]),(3,[4,0]),(4,[11,4,0]),(5,[3,2]),(6,[3,2])] [(2,[4,0])]),
 (21,ZaA [] [] [] [] [(0,[0]),(1,[2])] []),
 (18,ZaA [] [] [] [] [(0,[10,1,0]),(1,[4,1,0]),(2,[4,1,0]),(3,[])] []),
 (23,ZaA [] [] [] [] [(0,[0]),(1,[3,0]),(2,[12,3,0]),(3,[3,0]),(4,[30,3,0]),(5,[2]),(6,[4,0]),(7,[37,4,0]),(8,[4,0]),(9,[55,4,0]),(10,[2]),(11,[5,0]),(12,[62,5,0]),(13,[5,0]),(14,[80,5,0]),(15,[2]),(16,[2])] [(2,[3,0]),(7,[4,0]),(12,[5,0])]),
 (24,ZaA [] [] [] [] [(0,[0]),(1,[3,0]),(2,[17,3,0]),(3,[3,0]),(4,[4,3,0]),(5,[29,4,3,0]),(6,[4,3,0]),(7,[4,3,0]),(8,[5,0]),(9,[6,5,0]),(10,[49,6,5,0]),(11,[6,5,0]),(12,[7,6,5,0]),(13,[6,5,0]),(14,[8,5,0]),(15,[76,8,5,0]),(16,[8,5,0]),(17,[9,8,5,0]),(18,[10,9,8,5,0]),(19,[89,10,9,8,5,0]),(20,[10,9,8,5,0]),(21,[116,10,9,8,5,0]),(22,[2]),(23,[141,8,5,0]),(24,[2]),(25,[2])] [(2,[3,0]),(5,[4,3,0]),(10,[6,5,0]),(15,[8,5,0]),(19,[10,9,8,5,0])]),
 (26,ZaA [] [] [] [] [(0,[0]),(1,[3,0]),(2,[17,3,0]),(3,[3,0]),(4,[4,3,0]),(5,[29,4,3,0]),(6,[4,3,0]),(7,[4,3,0]),(8,[5,0]),(9,[6,5,0]),(10,[48,6,5,0]),(11,[6,5,0]),(12,[7,6,5,0]),(13,[6,5,0]),(14,[8,5,0]),(15,[73,8,5,0]),(16,[8,5,0]),(17,[9,8,5,0]),(18,[10,9,8,5,0]),(19,[86,10,9,8,5,0]),(20,[10,9,8,5,0]),(21,[111,10,9,8,5,0]),(22,[2]),(23,[134,8,5,0]),(24,[2]),(25,[2])] [(2,[3,0]),(5,[4,3,0]),(10,[6,5,0]),(15,[8,5,0]),(19,[10,9,8,5,0])]),
 (25,ZaA [] [] [] [] [(0,[0]),(1,[3,0]),(2,[17,3,0]),(3,[3,0]),(4,[4,3,0]),(5,[29,4,3,0]),(6,[4,3,0]),(7,[4,3,0]),(8,[5,0]),(9,[6,5,0]),(10,[49,6,5,0]),(11,[6,5,0]),(12,[7,6,5,0]),(13,[6,5,0]),(14,[8,5,0]),(15,[76,8,5,0]),(16,[8,5,0]),(17,[9,8,5,0]),(18,[10,9,8,5,0]),(19,[89,10,9,8,5,0]),(20,[10,9,8,5,0]),(21,[116,10,9,8,5,0]),(22,[2]),(23,[141,8,5,0]),(24,[2]),(25,[2])] [(2,[3,0]),(5,[4,3,0]),(10,[6,5,0]),(15,[8,5,0]),(19,[10,9,8,5,0])]),
 (14,ZaA [] [] [] [] [(0,[1,0]),(1,[5,1,0]),(2,[13,5,1,0]),(3,[5,1,0]),(4,[24,5,1,0]),(5,[6,5,0]),(6,[]),(7,[4]),(8,[4])] [(2,[5,1,0])]),
 (16,ZaA [] [] [] [] [(0,[1,0]),(1,[5,1,0]),(2,[12,5,1,0]),(3,[5,1,0]),(4,[23,5,1,0]),(5,[4]),(6,[4])] [(2,[5,1,0])]),
 (8,ZaA [] [] [] [] [(0,[1,0]),(1,[12,1,0]),(2,[4]),(3,[5,1,0]),(4,[30,5,1,0]),(5,[5,1,0]),(6,[50,5,1,0]),(7,[4]),(8,[6,5,1,0]),(9,[]),(10,[4])] [(4,[5,1,0])]),
 (11,ZaA [] [] [] [] [(0,[0]),(1,[4,0]),(2,[5,4,0]),(3,[23,5,4,0]),(4,[5,4,0]),(5,[5,4,0]),(6,[3,2])] [(3,[5,4,0])]),
 (6,ZaA [] [] [] [] [(0,[0]),(1,[3,0]),(2,[11,10,9,3]),(3,[12,11,10,9,3]),(4,[11,10,9,5,3]),(5,[11,10,9,3]),(6,[11,10,9,3]),(7,[2])] [(3,[11,10,9,3])]),
 (19,ZaA [] [] [] [] [(0,[1,0]),(1,[10,1,0]),(2,[4]),(3,[5,1,0]),(4,[14,5,1,0]),(5,[5,1,0]),(6,[25,5,1,0]),(7,[4]),(8,[4])] [(4,[5,1,0])]),
 (29,ZaA [] [] [] [] [(0,[1,0]),(1,[4])] []),
 (9,ZaA [] [] [] [] [(0,[2,1,0]),(1,[7,1,0]),(2,[7,1,0]),(3,[16,7,1,0]),(4,[1,0]),(5,[6])] []),
 (30,ZaA [] [] [] [] [(0,[1,0]),(1,[10,1,0]),(2,[4]),(3,[5,1,0]),(4,[14,5,1,0]),(5,[5,1,0]),(6,[25,5,1,0]),(7,[4]),(8,[4])] [(4,[5,1,0])]),
 (5,ZaA [] [] [(6,2,false)] [] [(0,[]),(1,[1]),(2,[2,1]),(3,[9,2,1]),(4,[2,1]),(5,[2,1]),(6,[3]),(7,[24,3]),(8,[0]),(9,[5,3]),(10,[51,3]),(11,[0]),(12,[7,6]),(13,[0])] [(3,[2,1])]),
 (4,ZaA [] [] [(6,2,false)] [] [(0,[1,0]),(1,[14,1,0]),(2,[1,0]),(3,[5,1,0]),(4,[6,5,1,0]),(5,[20,6,5,1,0]),(6,[6,5,1,0]),(7,[6,5,1,0]),(8,[7,1]),(9,[38,7,1]),(10,[4]),(11,[8,7,1]),(12,[46,8,7,1]),(13,[8,7,1]),(14,[10,9,8,7,1]),(15,[69,9,8,7,1]),(16,[4]),(17,[11,9,8,7,1]),(18,[72,11,9,8,7,1]),(19,[11,9,8,7,1]),(20,[78,11,9,8,7,1]),(21,[4]),(22,[112,8,7,1]),(23,[4]),(24,[4])] [(5,[6,5,1,0]),(12,[8,7,1]),(18,[11,9,8,7,1])]),
 (3,ZaA [] [] [(17,1,false),(6,2,false)] [] [(0,[1,0]),(1,[18,1,0]),(2,[1,0]),(3,[5,1,0]),(4,[28,5,1,0]),(5,[4]),(6,[6,5,1,0]),(7,[7,6,5,1,0]),(8,[34,7,6,5,1,0]),(9,[7,6,5,1,0]),(10,[7,6,5,1,0]),(11,[8,6,5,1]),(12,[9,8,6,5,1]),(13,[52,9,8,6,5,1]),(14,[9,8,6,5,1]),(15,[10,9,8,6,5,1]),(16,[65,10,9,8,6,5,1]),(17,[15,9,8,6,5,1]),(18,[15,9,8,6,5,1]),(19,[77,9,8,6,5,1]),(20,[4]),(21,[78,65,10,9,8,6,5,1]),(22,[12,11,9,8,6,5,1]),(23,[14,13,12,11,9,8,6,5,1]),(24,[97,9,8,6,5,1]),(25,[4]),(26,[98,65,10,9,8,6,5,1]),(27,[106,9,8,6,5,1]),(28,[4]),(29,[107,65,10,9,8,6,5,1]),(30,[115,9,8,6,5,1]),(31,[4]),(32,[116,10,9,8,6,5,1]),(33,[124,9,8,6,5,1]),(34,[4]),(35,[132,9,8,6,5,1]),(36,[4]),(37,[4])] [(8,[7,6,5,1,0]),(13,[9,8,6,5,1])]),
 (7,ZaA [] [] [(6,2,false)] [] [(0,[]),(1,[1]),(2,[14,1]),(3,[0]),(4,[3,2,1]),(5,[5,4,3,2,1]),(6,[0])] []),
 (1000000,{})]
def ann:Nat->Ann:=Zb4 {} Zrk
def Znx:List (Nat×Bool):=[
 (22,true),
 (1000000,false)]
def BY:Nat->Bool:=Zb4 false Znx
noncomputable def CF:Nat->Option ZR:=Zea Try.prog ann
noncomputable def FC:Nat->Option ZR:=fun f=>(CF f).map ZeM
def Zh2:List (Nat×Option (List AVal->Za->Option (AVal×Za))):=[
 (22,some (ZeX)),
 (17,some (Zgx)),
 (1000000,none)]
def PR:ZaM:=Zb4 none Zh2
def oI (d:Nat) (i:Ins):AOp:=⟨some d,i,none,[]⟩
def oN (i:Ins):AOp:=⟨none,i,none,[]⟩
theorem xw (c d:Zi) (h:c=d) (m:Nat) (tm:Tms) (σ:Za):evC FC PR BY m c tm σ=evC FC PR BY m d tm σ:=by rw [h]
noncomputable abbrev E:Zn:=EV FC PR BY
theorem Zb1 {f:Nat} {fn:ZR} (hp:PR f=none) (hf:FC f=some fn) (args:List AVal) (σ:Za):E f args σ=Zat σ.length fn (evC FC PR BY σ.length fn.body (enterA 0 args []) σ):=Zja hp hf args σ
end
section
open Go.RowKit
inductive Ty where
 | bool
 | int (k:IntKind)
 | str
 | slice (s:Bool) (e:Ty)
 | struct (fs:List Ty)
 deriving Inhabited
def Imm.of (w:World):Imm:=fun b o=>w.cell? ⟨b,o,none⟩
section
variable {H:Type} {enc:TypeId×Value->H} {P:Program} {w:World} {spare:Nat->Bool} {held:Bool}
theorem Rel.start (w:World) (hG:Gl.le (Imm.of w)):Rel (fun b=>b < w.heap.size) w (Imm.of w) (Imm.of w) B0 [] w where
 below:=KB.refl _ w
 old:=fun _ _ _=>rfl
 imm:=fun _ _ _ h=>h
 blk:=fun t x h=>by simp at h
 own:=fun t x b h=>by simp at h
 apart:=fun t x t' x' b h=>by simp at h
 fresh:=fun _ _ _=>rfl
 free:=fun t g h=>by simp at h
 gen:=fun t b g h=>by simp at h
 glob:=hG
theorem Zny {O:Zn} (hO:ZG P O) {f:Nat} {args:List AVal} {vs:Array Value} {σ':Za} (hG:Gl.le (Imm.of w)) (hargs:VRs (Imm.of w) B0 args vs.toList) (h:O f args []=some (.bool true,σ')) :
  Calls P f vs w (fun e w'=>e=.returned (.bool true)/\Below w.heap.size w w'):=by
 refine ((hO f args [] _ _ h).2 _ w _ _ B0 w vs (fun b hb=>hb) (Rel.start w hG) hargs).mono ?_
 rintro e w' ⟨u,he,I',β',_,_,R,hv⟩
 simp only [ZP,VR] at hv
 subst hv
 exact ⟨he,R.below.os,R.below.tape,R.below.output,R.below.size,R.below.block⟩
end
end
section
open Go.Shelf
def ZrI:Ren:=⟨fun | 189=>22 | 125=>28 | 257=>27 | 128=>40 | 129=>41 | 294=>31 | 295=>32 | 296=>33 | 297=>34 | 298=>35 | 299=>36 | 216=>37 | 300=>38 | 301=>39 | 328=>42 | 329=>43 | 330=>44 | 331=>45 | 332=>46 | 215=>47 | 343=>48 | n=>n,fun | 28=>22 | 3=>3 | 46=>47 | 0=>0 | 51=>69 | 53=>59 | 4=>4 | 183=>62 | 182=>61 | 131=>40 | 5=>5 | 9=>9 | 218=>71 | 222=>75 | 228=>77 | 229=>78 | n=>n,fun | n=>n⟩
theorem ZiW:Go.Proofs.Lays.n189 Try.prog ZrI:={ mixed:=by kernel_rfl,f125:=Try.func28.trans (congrArg some (by kernel_rfl)),f128:=Try.func40.trans (congrArg some (by kernel_rfl)),f129:=Try.func41.trans (congrArg some (by kernel_rfl)),f189:=Try.func22.trans (congrArg some (by kernel_rfl)),f215:=Try.func47.trans (congrArg some (by kernel_rfl)),f216:=Try.func37.trans (congrArg some (by kernel_rfl)),f257:=Try.func27.trans (congrArg some (by kernel_rfl)),f294:=Try.func31.trans (congrArg some (by kernel_rfl)),f295:=Try.func32.trans (congrArg some (by kernel_rfl)),f296:=Try.func33.trans (congrArg some (by kernel_rfl)),f297:=Try.func34.trans (congrArg some (by kernel_rfl)),f298:=Try.func35.trans (congrArg some (by kernel_rfl)),f299:=Try.func36.trans (congrArg some (by kernel_rfl)),f300:=Try.func38.trans (congrArg some (by kernel_rfl)),f301:=Try.func39.trans (congrArg some (by kernel_rfl)),f328:=Try.func42.trans (congrArg some (by kernel_rfl)),f329:=Try.func43.trans (congrArg some (by kernel_rfl)),f330:=Try.func44.trans (congrArg some (by kernel_rfl)),f331:=Try.func45.trans (congrArg some (by kernel_rfl)),f332:=Try.func46.trans (congrArg some (by kernel_rfl)),f343:=Try.func48.trans (congrArg some (by kernel_rfl)),t0:=Try.underlying0,a0:=Try.isAgg0,z0:=Try.sizeOf0,v0:=Try.zeroValue0,t3:=Try.underlying3,a3:=Try.isAgg3,z3:=Try.sizeOf3,v3:=Try.zeroValue3,t4:=Try.underlying4,a4:=Try.isAgg4,z4:=Try.sizeOf4,v4:=Try.zeroValue4,t5:=Try.underlying5,a5:=Try.isAgg5,z5:=Try.sizeOf5,v5:=Try.zeroValue5,t9:=Try.underlying9,a9:=Try.isAgg9,z9:=Try.sizeOf9,v9:=Try.zeroValue9,t28:=Try.underlying22,a28:=Try.isAgg22,z28:=Try.sizeOf22,v28:=Try.zeroValue22,t46:=Try.underlying47,a46:=Try.isAgg47,z46:=Try.sizeOf47,v46:=Try.zeroValue47,t51:=Try.underlying69,a51:=Try.isAgg69,z51:=Try.sizeOf69,v51:=Try.zeroValue69,t53:=Try.underlying59,a53:=Try.isAgg59,z53:=Try.sizeOf59,v53:=Try.zeroValue59,t131:=Try.underlying40,a131:=Try.isAgg40,z131:=Try.sizeOf40,v131:=Try.zeroValue40,t182:=Try.underlying61,a182:=Try.isAgg61,z182:=Try.sizeOf61,v182:=Try.zeroValue61,t183:=Try.underlying62,a183:=Try.isAgg62,z183:=Try.sizeOf62,v183:=Try.zeroValue62,t218:=Try.underlying71,a218:=Try.isAgg71,z218:=Try.sizeOf71,v218:=Try.zeroValue71,t222:=Try.underlying75,a222:=Try.isAgg75,z222:=Try.sizeOf75,v222:=Try.zeroValue75,t228:=Try.underlying77,a228:=Try.isAgg77,z228:=Try.sizeOf77,v228:=Try.zeroValue77,t229:=Try.underlying78,a229:=Try.isAgg78,z229:=Try.sizeOf78,v229:=Try.zeroValue78 }
end
section
set_option maxRecDepth 100000
theorem Zg3:Try.prog.follows .mixedOrders=true:=by kernel_rfl
theorem ZjO {α:Type} {d v:α}:∀ {l:List (Nat×α)} {n:Nat},Zb4 d l n=v->v=d\/(n,v) ∈ l
 | [],n,h=>Or.inl h.symm
 | (k,w)::r,n,h=>by
  simp only [Zb4] at h
  split at h
  ·rename_i e;subst e h;exact Or.inr (by simp)
  ·rcases ZjO h with h | h
   ·exact Or.inl h
   ·exact Or.inr (by simp [h])
theorem Zik:Zfq Try.prog PR:=by
 intro f g h args σ r σ' hg
 rcases ZjO h with h | h
 ·cases h
 unfold Zh2 at h
 simp only [List.mem_cons,Prod.mk.injEq,Option.some.injEq,List.not_mem_nil,or_false] at h
 rcases h with ⟨rfl,rfl⟩ | h
 ·exact Zle ⟨Try.f22,Try.func22,by kernel_rfl,by kernel_rfl⟩ (fun blk off cap zs w=>Any.slices_Sort_int ZiW blk off cap zs w) (fun p cap w=>Any.slices_Sort_int_none ZiW p cap w) hg
 rcases h with ⟨rfl,rfl⟩ | h
 ·exact ZoV hg
 exact absurd h.2 (by simp)
end
section
def Zgg:Zi:=(.seq (.region [oI 4 (.mov (.c (.bool false)))] none [1,0]) (.seq (.region [oI 6 (.mov (.t 0)),oI 7 (.mov (.t 1)),oI 8 (.call 15 0 true [(.t 6),(.t 7)]),oI 5 (.mov (.t 8))] none [5,1,0]) (.seq (.region [oI 9 (.mov (.t 0)),oI 10 (.nilchk (.t 9)),oI 11 (.faddr 0 (.t 10)),oI 12 (.ld none (.t 11)),oI 13 (.mov (.t 1)),oN (.mdel 0 (.t 12) (.t 13))] none [5]) (.seq (.region [oI 14 (.mov (.t 5)),oI 4 (.mov (.t 14))] none [4]) .ret))))
def Zf8:ZR:=⟨[(.tmp 4)],Zgg⟩
theorem Zvh:FC 13=some Zf8:=by kernel_rfl
theorem ZlV:Zf8.body=Zgg:=rfl
theorem ZmX:Zf8.res=[(.tmp 4)]:=rfl
def ZbP:Zi:=(.seq (.region [oI 4 (.mov (.c (.bool false)))] none [1,0]) (.seq (.region [oI 8 (.mov (.t 0)),oI 9 (.nilchk (.t 8)),oI 10 (.faddr 0 (.t 9)),oI 11 (.ld none (.t 10)),oI 12 (.mov (.t 1)),oI 13 (.look 0 (.agg []) true (.t 11) (.t 12)),oI 7 (.mov (.t 13)),oI 14 (.ext (.t 7) 0),oI 15 (.ext (.t 7) 1),oI 5 (.alloc []),oN (.st 0 (.t 5) (.t 14)),oI 6 (.mov (.t 15))] none [6]) (.seq (.region [oI 16 (.mov (.t 6)),oI 4 (.mov (.t 16))] none [4]) .ret)))
def ZfZ:ZR:=⟨[(.tmp 4)],ZbP⟩
theorem Zs8:FC 15=some ZfZ:=by kernel_rfl
theorem Zcj:ZfZ.body=ZbP:=rfl
theorem Zb8:ZfZ.res=[(.tmp 4)]:=rfl
def Zdr:Zi:=(.seq (.region [oI 4 (.mov (.c (.bool false)))] none [1,0]) (.seq (.seq (.region [oI 5 (.mov (.t 1)),oI 6 (.bin .lss (.t 5) (.c (.int .i64 1))),oI 7 (.mov (.t 6)),⟨(some 8),(.mov (.t 1)),(some (7,false)),[]⟩,⟨(some 9),(.bin .gtr (.t 8) (.c (.int .i64 65535))),(some (7,false)),[]⟩,oI 10 (.pick (.t 7) (.c (.bool true)) (.t 9)),oI 11 (.mov (.t 10)),⟨(some 12),(.mov (.t 0)),(some (11,false)),[]⟩,⟨(some 13),(.mov (.t 1)),(some (11,false)),[]⟩,⟨(some 14),(.call 15 0 true [(.t 12),(.t 13)]),(some (11,false)),[]⟩,oI 15 (.pick (.t 11) (.c (.bool true)) (.t 14))] none [15,1,0]) (.cond (.t 15) (.seq (.region [oI 4 (.mov (.c (.bool false)))] none [4]) .ret) .skip)) (.seq (.region [oI 16 (.mov (.t 0)),oI 17 (.nilchk (.t 16)),oI 18 (.faddr 0 (.t 17)),oI 19 (.ld none (.t 18)),oI 20 (.mov (.t 1)),oI 21 (.build [] []),oN (.mset 0 (.t 19) (.t 20) (.t 21))] none []) (.seq (.region [oI 4 (.mov (.c (.bool true)))] none [4]) .ret))))
def Zf2:ZR:=⟨[(.tmp 4)],Zdr⟩
theorem ZfB:FC 12=some Zf2:=by kernel_rfl
theorem Zfs:Zf2.body=Zdr:=rfl
theorem ZeT:Zf2.res=[(.tmp 4)]:=rfl
def ZfT:Zi:=(.seq (.region [oI 2 (.mov (.c (.int .i64 0)))] none [0]) (.seq (.region [oI 3 (.mov (.t 0)),oI 4 (.nilchk (.t 3)),oI 5 (.faddr 0 (.t 4)),oI 6 (.ld none (.t 5)),oI 7 (.mlen (.t 6)),oI 2 (.mov (.t 7))] none [2]) .ret))
def ZgM:ZR:=⟨[(.tmp 2)],ZfT⟩
theorem ZoW:FC 20=some ZgM:=by kernel_rfl
theorem Zpe:ZgM.body=ZfT:=rfl
theorem Zvp:ZgM.res=[(.tmp 2)]:=rfl
def Zdd:Zi:=(.seq (.region [oI 2 (.mov (.c (.int .i64 0))),oI 3 (.mov (.c (.bool false)))] none [3,2]) .ret)
def Zgu:Zi:=Zdd
def ZeR:=xw Zgu Zdd rfl
def Zdj:Zi:=(.seq (.seq (.region [oI 5 (.mov (.t 4)),oI 6 (.bin .leq (.t 5) (.c (.int .i64 65535)))] none [6,4,0]) (.cond (.t 6) .skip (.exit 0))) (.seq (.block 1 (.seq (.region [oI 9 (.mov (.t 0)),oI 10 (.mov (.t 4)),oI 11 (.call 12 0 true [(.t 9),(.t 10)])] none [11,4,0]) (.cond (.t 11) (.seq (.region [oI 12 (.mov (.t 4)),oI 2 (.mov (.t 12)),oI 3 (.mov (.c (.bool true)))] none [3,2]) .ret) .skip))) (.region [oI 7 (.mov (.t 4)),oI 8 (.bin .add (.t 7) (.c (.int .i64 1))),oI 4 (.mov (.t 8))] none [4,0])))
def Zhm:Zi:=Zdj
def ZeA:=xw Zhm Zdj rfl
def ZdA:Zi:=(.seq (.region [oI 2 (.mov (.c (.int .i64 0))),oI 3 (.mov (.c (.bool false)))] none [0]) (.seq (.seq (.region [oI 4 (.mov (.c (.int .i64 1)))] none [4,0]) (.block 0 (.loop [4,0] Zhm))) Zgu))
def Ze3:ZR:=⟨[(.tmp 2),(.tmp 3)],ZdA⟩
theorem ZtX:FC 10=some Ze3:=by kernel_rfl
theorem Zfj:Ze3.body=ZdA:=rfl
theorem ZeN:Ze3.res=[(.tmp 2),(.tmp 3)]:=rfl
noncomputable def Zd1 (m:Nat) (tm:Tms) (σ:Za):Option (AVal×Za):=(Zat m Ze3 (ZbC FC PR BY m Zgu (Option.map (ZaR 0) (evL FC PR BY m [4,0] Zhm tm σ))))
def ZdJ:Zi:=(.seq (.region [oI 19 (.mov (.t 3)),oI 2 (.mov (.t 19))] none [2]) .ret)
def Zg9:Zi:=ZdJ
def ZgJ:=xw Zg9 ZdJ rfl
def Zd2:Zi:=(.seq (.region [oI 12 (.bin .lss (.t 11) (.t 10))] none [12,11,10,9,3]) (.seq (.cond (.t 12) .skip (.exit 0)) (.seq (.block 1 (.seq (.region [oI 13 (.iaddr 1 (.t 9) (.t 11)),oI 14 (.ld none (.t 13)),oI 5 (.mov (.t 14))] none [11,10,9,5,3]) (.region [oI 15 (.mov (.t 3)),oI 16 (.mov (.t 5)),oI 17 (.call 12 0 true [(.t 15),(.t 16)])] none [11,10,9,3]))) (.region [oI 18 (.bin .add (.t 11) (.c (.int .i64 1))),oI 11 (.mov (.t 18))] none [11,10,9,3]))))
def Zgw:Zi:=Zd2
def Zg7:=xw Zgw Zd2 rfl
def ZdU:Zi:=(.seq (.region [oI 2 (.mov (.c .nilp))] none [0]) (.seq (.region [oI 6 .mkmap,oI 7 (.build [.nilm] [(0,1,(.t 6))]),oI 8 (.box (.t 7)),oI 3 (.mov (.t 8))] none [3,0]) (.seq (.seq (.region [oI 9 (.mov (.t 0)),oI 10 (.len (.t 9)),oI 11 (.mov (.c (.int .i64 0)))] none [11,10,9,3]) (.block 0 (.loop [11,10,9,3] Zgw))) Zg9)))
def ZeI:ZR:=⟨[(.tmp 2)],ZdU⟩
theorem ZvT:FC 6=some ZeI:=by kernel_rfl
theorem Zhd:ZeI.body=ZdU:=rfl
theorem Zhb:ZeI.res=[(.tmp 2)]:=rfl
noncomputable def Ze1 (m:Nat) (tm:Tms) (σ:Za):Option (AVal×Za):=(Zat m ZeI (ZbC FC PR BY m Zg9 (Option.map (ZaR 0) (evL FC PR BY m [11,10,9,3] Zgw tm σ))))
end
section
set_option maxRecDepth 100000
def Zm8:Ann:={ nt:=21,lr:=fun i=>if i=0 then [0] else if i=1 then [3,0] else if i=6 then [3] else [2] }
def Zme:Ann:={ nt:=21,keep:=[9,8],lr:=fun _=>[8,3] }
def c1A:Zi:=.seq (.region [oI 2 (.mov (.c (.lst true [])))] none [0]) (.seq (.region [oI 3 (.mov (.c (.lst true [])))] none [3,0]) .skip)
def ZfC:List AOp:=[⟨some 5,.mov (.t 0),none,[]⟩,⟨some 6,.nilchk (.t 5),none,[0]⟩,⟨some 7,.faddr 0 (.t 6),none,[1]⟩,⟨some 8,.ld none (.t 7),none,[2]⟩]
def Zbk:List AOp:=[⟨some 13,.ext (.t 12) 0,none,[0]⟩,⟨some 4,.mov (.t 13),none,[1,0,1]⟩]
def c2A:Zi:=.region [oI 14 (.mov (.t 3)),oI 15 (.mov (.t 4)),oI 16 (.bslice false 1 1 (.int .i64 0) [(0,(.t 15))]),oI 17 (.app 1 8 (.int .i64 0) (.t 14) (.t 16)),oI 3 (.mov (.t 17))] none [8,3]
def c3A:Zi:=.seq (.region [oI 18 (.mov (.t 3)),oI 19 (.call 22 0 true [(.t 18)])] none [3]) (.seq (.region [oI 20 (.mov (.t 3)),oI 2 (.mov (.t 20))] none [2]) .ret)
theorem Ztl:ZhO Try.prog 17 Zm8 Zme 21 2 4 8 9 10 11 12 0 1 [8,3] ZfC Zbk c1A c2A c3A [.tmp 2] :=
 ⟨_,_,_,_,_,_,_,_,_,_,_,_,_,_,_,_,_,_,_,Try.func17,by kernel_rfl,rfl,by kernel_rfl,rfl,rfl,rfl,rfl,rfl,rfl,rfl,rfl,Try.underlying48,rfl,rfl,rfl,rfl,rfl,rfl,rfl,rfl,rfl,by kernel_rfl,by kernel_rfl,by kernel_rfl,by kernel_rfl,by kernel_rfl,rfl,rfl,rfl,by decide⟩
noncomputable def ZeP:List AVal->Za->Option (AVal×Za):=ZeH FC PR BY [8,3] 8 12 1 ZfC Zbk c1A c2A c3A [.tmp 2]
noncomputable def PR2:ZaM:=fun f=>if f=17 then some ZeP else PR f
noncomputable abbrev E2:Zn:=EV FC PR2 BY
theorem ZpH:OLe E E2:=by
 refine ZuI (fun f hf=>?_) (fun f g hg=>?_)
 ·unfold PR2
  rw [if_neg (by rintro rfl;revert hf;decide)]
  exact hf
 ·by_cases h1:f=17
  ·subst h1
   have : PR 17=some Zgx:=by rfl
   rw [this] at hg;injection hg with hg;subst hg
   exact Or.inr fun _ _=>rfl
  refine Or.inl ?_
  unfold PR2
  rw [if_neg h1]
  exact hg
theorem Zi4 {f:Nat} {fn:ZR} (hp:PR2 f=none) (hf:FC f=some fn) (args:List AVal) (σ:Za):E2 f args σ=Zat σ.length fn (evC FC PR2 BY σ.length fn.body (enterA 0 args []) σ):=Zja hp hf args σ
theorem Zuj (args:List AVal) (σ:Za):E2 17 args σ=ZeP args σ:=Zms (by rfl) args σ
theorem Ztx {args:List AVal} {σ σ':Za} {r:AVal} (hg:ZeP args σ=some (r,σ')) :
  (∃ fn,Try.prog.funcs[17]?=some fn/\fn.body.isSome=true/\(fn.name == "runtime.NumGoroutine")=false) /\
  ∀ base w0 I0 I β w (vs:Array Value),KLt base w0->Rel base w0 I0 I β σ w->VRs I β args vs.toList ->
   Calls Try.prog 17 vs w (fun e w'=>∃ u,Ends r e u/\Za4 σ.length base w0 I0 I β r σ' u w') :=
 Zvi Zg3 (fun n=>by
  have h:ZC FC PR BY n=ZC CF PR BY n:=Zhn CF PR BY n
  rw [h]
  exact Zg5 Zg3 Zik ann BY n) Ztl hg
theorem Zuq:Zfq Try.prog PR2:=by
 intro f g h args σ r σ' hg
 unfold PR2 at h
 split at h
 ·rename_i e;subst e
  injection h with h;subst h
  exact Ztx hg
 ·exact Zik f g h args σ r σ' hg
theorem Zj9:ZG Try.prog E2:=by
 have h:E2=EV CF PR2 BY:=Zn1 CF PR2 BY
 rw [h]
 exact Zoj Zg3 Zuq ann BY
end
section
open Go.RowKit
theorem ZkS (id:Nat) (tm:Tms) (σ:Za):ZaR id (.normal,tm,σ)=(.normal,tm,σ):=rfl
theorem Znd (id i:Nat) (tm:Tms) (σ:Za):ZaR id (.exit i,tm,σ)=if i=id then (.normal,tm,σ) else (.exit i,tm,σ):=by simp only [ZaR]
theorem Zs3 (id:Nat) (tm:Tms) (σ:Za):ZaR id (.ret,tm,σ)=(.ret,tm,σ):=rfl
theorem Zn4 (id:Nat) (x:AVal) (tm:Tms) (σ:Za):ZaR id (.panic x,tm,σ)=(.panic x,tm,σ):=rfl
section
variable (O:Zn) (bf:Nat->Bool)
def ZbG (c:Cls):Option (Tms×Za×List Cls×Option AVal)->Option (Tms×Za×List Cls×Option AVal)
 | none=>none
 | some (tm,σ,cs,p)=>some (tm,σ,c::cs,p)
def Zc0 (c:List Cls):Option (Tms×Za×List Cls×Option AVal)->Option (Tms×Za×List Cls×Option AVal)
 | none=>none
 | some (tm,σ,cs,p)=>some (tm,σ,c++cs,p)
def kC (d:Option Nat) (os:List AOp) (s:Nat) (tm:Tms):Option (AVal×Za×Cls)->Option (Tms×Za×List Cls×Option AVal)
 | none=>none
 | some (v,σ,c)=>if ZN v then some (tput tm d v,σ,[c],some (ZP v)) else ZbG c (Zl O bf os s (tput tm d v) σ)
def ZcI (ops:List AOp) (L:Nat) (l:List (Nat×Nat)) (live:List Nat):Option (Tms×Za×List Cls×Option AVal)->Option (ZM×Tms×Za)
 | none=>none
 | some (_,σ,cs,some x)=>if Zds ops L l cs then some (.panic x,[],σ) else none
 | some (tm,σ,cs,none)=>if Zbs ops L l cs then some (.normal,keepL live tm,σ) else none
variable {O bf}
theorem Ziu (s:Nat) (tm:Tms) (σ:Za):Zl O bf [] s tm σ=some (tm,σ,[],none):=rfl
theorem ZqA (c:Cls) (tm:Tms) (σ:Za) (cs:List Cls) (p:Option AVal):ZbG c (some (tm,σ,cs,p))=some (tm,σ,c::cs,p):=rfl
theorem Zvy (c:Cls):ZbG c none=none:=rfl
theorem Zj7 (c:Cls) (q:Prop) [Decidable q] (x y:Option (Tms×Za×List Cls×Option AVal)):ZbG c (if q then x else y)=if q then ZbG c x else ZbG c y:=by split <;> rfl
theorem Zv2 (c:List Cls) (tm:Tms) (σ:Za) (cs:List Cls) (p:Option AVal):Zc0 c (some (tm,σ,cs,p))=some (tm,σ,c++cs,p):=rfl
theorem ZuJ (c:List Cls):Zc0 c none=none:=rfl
theorem Zm6 (c:List Cls) (q:Prop) [Decidable q] (x y:Option (Tms×Za×List Cls×Option AVal)):Zc0 c (if q then x else y)=if q then Zc0 c x else Zc0 c y:=by split <;> rfl
theorem Zfw {o:AOp} {os:List AOp} {s:Nat} {tm tm1:Tms} {σ σ1:Za} {v:AVal} {c:Cls} (h:Zg O bf o s tm σ=some (v,tm1,σ1,c)) (hn:ZN v=false):Zl O bf (o::os) s tm σ=ZbG c (Zl O bf os (s+nsite o.ins) tm1 σ1):=by
 rw [Zhr h hn]
 cases Zl O bf os (s+nsite o.ins) tm1 σ1 <;> rfl
theorem Zhi (d:Option Nat) (i:Ins) (af:List Nat) (os:List AOp) (s:Nat) (tm:Tms) (σ:Za):Zl O bf (⟨d,i,none,af⟩::os) s tm σ=kC O bf d os (s+nsite i) tm (exI O bf i s tm σ):=by
 cases h:exI O bf i s tm σ with
 | none=>exact ZdO (by rw [ZeL,h];rfl)
 | some q =>
  obtain ⟨v,σ1,c⟩:=q
  have hs:Zg O bf ⟨d,i,none,af⟩ s tm σ=some (v,tput tm d v,σ1,c):=by rw [ZeL,h];rfl
  cases hp:ZN v with
  | true =>
   obtain ⟨x,rfl⟩:=Zfv hp
   exact Zfn hs
  | false =>
   rw [Zfw hs hp]
   simp only [kC,hp,Bool.false_eq_true,if_false]
theorem Zgc (d:Option Nat) (os:List AOp) (s:Nat) (tm:Tms) (v:AVal) (σ:Za) (c:Cls) (h:ZN v=false):kC O bf d os s tm (some (v,σ,c))=ZbG c (Zl O bf os s (tput tm d v) σ):=by
 simp only [kC,h,Bool.false_eq_true,if_false]
theorem Zqh (d:Option Nat) (os:List AOp) (s:Nat) (tm:Tms) (x:AVal) (σ:Za) (c:Cls):kC O bf d os s tm (some (.pan x,σ,c))=some (tput tm d (.pan x),σ,[c],some x):=rfl
theorem Zj6 (d:Option Nat) (os:List AOp) (s:Nat) (tm:Tms):kC O bf d os s tm none=none:=rfl
theorem ZlD (d:Option Nat) (os:List AOp) (s:Nat) (tm:Tms) (q:Prop) [Decidable q] (x y:Option (AVal×Za×Cls)):kC O bf d os s tm (if q then x else y)=if q then kC O bf d os s tm x else kC O bf d os s tm y:=by split <;> rfl
theorem ZlR (ops:List AOp) (l:List (Nat×Nat)) (live:List Nat) (tm:Tms) (σ:Za):Za5 O bf ops (some l) live tm σ=ZcI ops σ.length l live (Zl O bf ops σ.length tm (σ++List.replicate (sitesOf ops) .free)):=by
 unfold Za5
 cases Zl O bf ops σ.length tm (σ++List.replicate (sitesOf ops) .free) with
 | none=>rfl
 | some q =>
  obtain ⟨tm',σ',cs,p⟩:=q
  cases p <;> rfl
theorem ZiX (ops:List AOp) (L:Nat) (l:List (Nat×Nat)) (live:List Nat) (tm:Tms) (σ:Za) (cs:List Cls) (h:Zbs ops L l cs=true):ZcI ops L l live (some (tm,σ,cs,none))=some (.normal,keepL live tm,σ):=by
 simp only [ZcI,h,if_true]
theorem Zov (ops:List AOp) (L:Nat) (l:List (Nat×Nat)) (live:List Nat):ZcI ops L l live none=none:=rfl
theorem Zr6 (ops:List AOp) (L:Nat) (l:List (Nat×Nat)) (live:List Nat) (q:Prop) [Decidable q] (x y:Option (Tms×Za×List Cls×Option AVal)):ZcI ops L l live (if q then x else y)=if q then ZcI ops L l live x else ZcI ops L l live y:=by split <;> rfl
theorem Zul (ops:List AOp) (L:Nat) (l:List (Nat×Nat)) (cs:List Cls) (h:(cs.all fun c=>c.wr.isEmpty && !c.any)=true) (hs:(l.all fun p=>p.1 == p.2 || nsite (ops.getD p.1 default).ins == 0)=true):Zbs ops L l cs=true:=by
 have hd:∀ i,Zbz (cs.getD i {})=true:=by
  intro i
  rw [List.all_eq_true] at h
  rw [List.getD_eq_getElem?_getD]
  cases hi:cs[i]? with
  | none=>rfl
  | some c=>exact h c (List.mem_of_getElem? hi)
 unfold Zbs
 rw [List.all_eq_true] at hs ⊢
 intro p hp
 have:=hs p hp
 rw [Bool.or_eq_true] at this ⊢
 rcases this with this | this
 ·exact Or.inl this
 ·refine Or.inr ?_
  unfold Za3
  simp only [hd,this,Bool.and_true,Bool.true_and,Bool.true_or,Bool.or_true]
theorem ZpY (ops:List AOp) (L:Nat) (l:List (Nat×Nat)) (live:List Nat) (tm:Tms) (σ:Za) (cs:List Cls) (h:(cs.all fun c=>c.wr.isEmpty && !c.any)=true) (hs:(l.all fun p=>p.1 == p.2 || nsite (ops.getD p.1 default).ins == 0)=true):ZcI ops L l live (some (tm,σ,cs,none))=some (.normal,keepL live tm,σ) :=
 ZiX _ _ _ _ _ _ _ (Zul _ _ _ _ h hs)
variable (O bf) in
def gKC (os:List AOp) (s:Nat):Option (Tms×Za×List Cls×Option AVal)->Option (Tms×Za×List Cls×Option AVal)
 | none=>none
 | some (tm,σ,cs,some x)=>some (tm,σ,cs,some x)
 | some (tm,σ,cs,none)=>Zc0 cs (Zl O bf os s tm σ)
theorem ZoO (os:List AOp) (s:Nat) (tm:Tms) (σ:Za) (cs:List Cls):gKC O bf os s (some (tm,σ,cs,none))=Zc0 cs (Zl O bf os s tm σ):=rfl
theorem Zsi (os:List AOp) (s:Nat) (q:Prop) [Decidable q] (x y:Option (Tms×Za×List Cls×Option AVal)):gKC O bf os s (if q then x else y)=if q then gKC O bf os s x else gKC O bf os s y:=by split <;> rfl
theorem ZuY (os:List AOp) (s:Nat) (c:Cls) (r:Option (Tms×Za×List Cls×Option AVal)):gKC O bf os s (ZbG c r)=ZbG c (gKC O bf os s r):=by
 cases r with
 | none=>rfl
 | some q =>
  obtain ⟨tm,σ,cs,p⟩:=q
  cases p with
  | some x=>rfl
  | none =>
   simp only [ZbG,gKC]
   cases Zl O bf os s tm σ <;> rfl
theorem ZhY:∀ (a b:List AOp) (s:Nat) (tm:Tms) (σ:Za),Zl O bf (a++b) s tm σ=gKC O bf b (s+sitesOf a) (Zl O bf a s tm σ)
 | [],b,s,tm,σ=>by
  simp only [List.nil_append,Ziu,gKC,sitesOf,List.map_nil,List.sum_nil,Nat.add_zero]
  cases Zl O bf b s tm σ <;> rfl
 | o::a,b,s,tm,σ=>by
  have ih:=ZhY a b
  simp only [List.cons_append]
  have hs:s+nsite o.ins+sitesOf a=s+sitesOf (o::a):=by simp [sitesOf,Nat.add_assoc]
  cases hst:Zg O bf o s tm σ with
  | none=>rw [ZdO hst,ZdO hst];rfl
  | some q =>
   obtain ⟨v,tm1,σ1,c⟩:=q
   cases hp:ZN v with
   | true =>
    obtain ⟨x,rfl⟩:=Zfv hp
    rw [Zfn hst,Zfn hst];rfl
   | false=>rw [Zfw hst hp,Zfw hst hp,ih,hs,ZuY]
variable (O bf) in
def Zb0 (j:Nat) (w:Bool) (g:List AOp) (s:Nat) (tm:Tms) (σ:Za):Option (Tms×Za×List Cls×Option AVal):=match Zaz (some (j,w)) tm with
 | none=>none
 | some false=>some (ZI g tm,σ,g.map fun _=>{},none)
 | some true=>Zl O bf (g.map unG) s tm σ
theorem Zie (j:Nat) (w:Bool):∀ (g:List AOp),(∀ o ∈ g,o.guard=some (j,w)/\o.dst≠some j)->∀ (s:Nat) (tm:Tms) (σ:Za),g≠[]->Zl O bf g s tm σ=Zb0 O bf j w g s tm σ
 | [],_,_,_,_,h=>absurd rfl h
 | o::g,hall,s,tm,σ,_=>by
  obtain ⟨hg,hd⟩:=hall o (by simp)
  have ih:∀ (tm:Tms) (σ:Za) (s:Nat),Zaz (some (j,w)) tm≠none->Zl O bf g s tm σ=Zb0 O bf j w g s tm σ:=by
   intro tm σ s hw
   by_cases he:g=[]
   ·subst he
    unfold Zb0
    cases hx:Zaz (some (j,w)) tm with
    | none=>exact absurd hx hw
    | some b=>cases b <;> rfl
   ·exact Zie j w g (fun o ho=>hall o (by simp [ho])) s tm σ he
  cases hx:Zaz (some (j,w)) tm with
  | none =>
   rw [ZdO (by simp only [Zg,hg,hx])]
   simp only [Zb0,hx]
  | some b =>
   cases b with
   | false =>
    have h1:Zl O bf (o::g) s tm σ=ZbG {} (Zl O bf g (s+nsite o.ins) (tput tm o.dst (.tup [])) σ) :=
     Zfw (v:=.tup []) (c:={}) (by simp only [Zg,hg,hx]) rfl
    rw [h1,ih _ _ _ (by rw [ZcK hd,hx];simp)]
    unfold Zb0
    rw [ZcK hd,hx]
    rfl
   | true =>
    have key:∀ r:Option (AVal×Za×Cls),(∀ v σ' c,r=some (v,σ',c)->ZN v=false->Zl O bf g (s+nsite o.ins) (tput tm o.dst v) σ'=Zl O bf (g.map unG) (s+nsite o.ins) (tput tm o.dst v) σ')->kC O bf o.dst g (s+nsite o.ins) tm r=kC O bf o.dst (g.map unG) (s+nsite o.ins) tm r:=by
     intro r hr
     cases r with
     | none=>rfl
     | some q =>
      obtain ⟨v,σ',c⟩:=q
      cases hp:ZN v with
      | true=>simp only [kC,hp,if_true]
      | false=>rw [Zgc _ _ _ _ _ _ _ hp,Zgc _ _ _ _ _ _ _ hp,hr v σ' c rfl hp]
    have h1:Zl O bf (o::g) s tm σ=kC O bf o.dst g (s+nsite o.ins) tm (exI O bf o.ins s tm σ):=by
     have h0:Zl O bf (o::g) s tm σ=Zl O bf (⟨o.dst,o.ins,none,o.after⟩::g) s tm σ:=by
      have hst:Zg O bf o s tm σ=Zg O bf ⟨o.dst,o.ins,none,o.after⟩ s tm σ:=by
       unfold Zg
       simp only [hg,hx]
       rfl
      simp only [Zl,hst]
     rw [h0,Zhi]
    rw [h1]
    unfold Zb0
    rw [hx]
    simp only [List.map_cons]
    rw [show unG o=⟨o.dst,o.ins,none,o.after⟩ from rfl,Zhi]
    refine key _ fun v σ' c _ _=>?_
    rw [ih _ _ _ (by rw [ZcK hd,hx];simp)]
    unfold Zb0
    rw [ZcK hd,hx]
theorem Ztw (d:Option Nat) (i:Ins) (j:Nat) (w:Bool) (af:List Nat) (os:List AOp) (s:Nat) (tm:Tms) (σ:Za) (hd:decide (d=some j)=false) :
  Zl O bf (⟨d,i,some (j,w),af⟩::os) s tm σ=gKC O bf (ZE j w os).2 (s+sitesOf (⟨d,i,some (j,w),af⟩::(ZE j w os).1)) (Zb0 O bf j w (⟨d,i,some (j,w),af⟩::(ZE j w os).1) s tm σ):=by
 have h:=Zhk j w os
 have hall:∀ o ∈ (⟨d,i,some (j,w),af⟩::(ZE j w os).1:List AOp),o.guard=some (j,w)/\o.dst≠some j:=by
  intro o ho
  rcases List.mem_cons.1 ho with rfl | ho
  ·exact ⟨rfl,by simpa using hd⟩
  ·exact Zf4 j w os o ho
 rw [<-Zie j w _ hall s tm σ (by simp),<-ZhY,List.cons_append,h]
variable (O bf) in
def gWC (w:Bool) (g:List AOp) (s:Nat) (tm:Tms) (σ:Za):AVal->Option (Tms×Za×List Cls×Option AVal)
 | .bool b=>if b=w then Zl O bf (g.map unG) s tm σ else some (ZI g tm,σ,g.map fun _=>{},none)
 | .tup []=>some (ZI g tm,σ,g.map fun _=>{},none)
 | _=>none
theorem ZpE (j:Nat) (w:Bool) (g:List AOp) (s:Nat) (tm:Tms) (σ:Za):Zb0 O bf j w g s tm σ=gWC O bf w g s tm σ (tget tm j):=by
 unfold Zb0 Zaz
 simp only
 generalize tget tm j=v
 cases v
 case bool b=>cases b <;> cases w <;> rfl
 case tup vs=>cases vs <;> rfl
 all_goals rfl
theorem Znk (w:Bool) (g:List AOp) (s:Nat) (tm:Tms) (σ:Za) (b:Bool):gWC O bf w g s tm σ (.bool b)=if b=w then Zl O bf (g.map unG) s tm σ else some (ZI g tm,σ,g.map fun _=>{},none):=rfl
theorem Zn5 (w:Bool) (g:List AOp) (s:Nat) (tm:Tms) (σ:Za):gWC O bf w g s tm σ (.tup [])=some (ZI g tm,σ,g.map fun _=>{},none):=rfl
theorem ZqH (q:Prop) [Decidable q] (t1 t2:Tms) (σ1 σ2:Za) (cs:List Cls):(if q then some (t1,σ1,cs,(none:Option AVal)) else some (t2,σ2,cs,none))=some ((if q then t1 else t2),(if q then σ1 else σ2),cs,none):=by split <;> rfl
end
section
theorem Znh {r:AVal} {cs:List AVal} {σ:Za} (hr:ZK r=true) (hc:ZH cs=true):gcA 1 [r] (.var cs::σ)=([r],[.var cs]):=by
 have e1:=(Zcr (Zf (.var cs::σ) 1 [0]) r hr)
 have e2:=(Zd5 (Zf (.var cs::σ) 1 [0]) cs hc)
 have h1:Zy 1 [r] (.var cs::σ)=[0]:=by
  have : ZA [r]=[]:=by simp only [ZA,e1.2,List.append_nil]
  simp only [Zy,this,List.nil_append,List.range_one,List.flatMap_cons,List.flatMap_nil,List.append_nil,List.getD_cons_zero,ZF,e2.2]
  rfl
 simp only [gcA,h1,Zt,e1.1,Zj,List.getD_cons_zero,Zz,Zd,Zp,e2.1]
theorem ZqK {r:AVal} {cs:List AVal} {σ:Za} (hr:ZK r=true) (hc:ZH cs=true):ZaJ 1 (.var cs::σ) r=some (r,[.var cs]):=by
 simp only [ZaJ,Znh hr hc]
end
end
section
section
variable (c:Prop) [Decidable c]
theorem Zoc (t1 t2:Tms) (σ1 σ2:Za):(if c then some (ZM.normal,t1,σ1) else some (ZM.normal,t2,σ2))=some (ZM.normal,(if c then t1 else t2),(if c then σ1 else σ2)):=by split <;> rfl
theorem Zsc (t1 t2:Tms) (σ1 σ2:Za):(if c then some (ZM.ret,t1,σ1) else some (ZM.ret,t2,σ2))=some (ZM.ret,(if c then t1 else t2),(if c then σ1 else σ2)):=by split <;> rfl
theorem ZrL (t1 t2:Tms) (σ1 σ2:Za):(if c then some (t1,σ1,(none:Option AVal)) else some (t2,σ2,none))=some ((if c then t1 else t2),(if c then σ1 else σ2),none):=by split <;> rfl
theorem ZqB (n:Nat) (a b:AVal):(if c then (n,a) else (n,b))=(n,if c then a else b):=by split <;> rfl
theorem Zlv (a b:AVal) (σ1 σ2:Za):(if c then some (a,σ1) else some (b,σ2))=some ((if c then a else b),(if c then σ1 else σ2)):=by split <;> rfl
theorem Zj3 (a b:AVal) (σ1 σ2:Za) (x y:Cls):(if c then some (a,σ1,x) else some (b,σ2,y))=some ((if c then a else b),(if c then σ1 else σ2),if c then x else y):=by split <;> rfl
end
theorem Zal {α:Type} (p:Bool) (x y z:α):(if p=true then x else (if p=false then y else z))=if p=true then x else y:=by cases p <;> rfl
theorem Zab {α:Type} (p:Bool) (x y z:α):(if p=false then x else (if p=true then y else z))=if p=false then x else y:=by cases p <;> rfl
theorem Z9 {α:Type} (p:Bool) (x y z:α):(if p=true then (if p=false then x else y) else z)=if p=true then y else z:=by cases p <;> rfl
theorem Zam {α:Type} (p:Bool) (x y z:α):(if p=false then (if p=true then x else y) else z)=if p=false then y else z:=by cases p <;> rfl
theorem Zvm (ops:List AOp) (b:Nat) (cs:List Cls):Zbs ops b [] cs=true:=rfl
theorem Zti (ops:List AOp) (b:Nat) (p:Nat×Nat) (l:List (Nat×Nat)) (cs:List Cls):Zbs ops b (p::l) cs=((p.1 == p.2 || Za3 (ops.getD p.1 default) (ops.getD p.2 default) (cs.getD p.1 {}) (cs.getD p.2 {}) (b+sitesOf (ops.take p.1))) && Zbs ops b l cs):=by
 simp only [Zbs,List.all_cons]
theorem Zj8 (oj oi:AOp) (cj ci:Cls) (sj:Nat):Za3 oj oi cj ci sj=(ZaY oj cj || ZaY oi ci || (Zbz cj && Zbz ci && (nsite oj.ins == 0 || !ci.rd.contains sj)) || ((Zbr oj.ins || (ZbI oj.ins && !cj.any)) && (Zbz ci && ci.rd.isEmpty)) || (ZbK oj.ins && Zbr oi.ins && ci.any && Zcl cj ci) || (ZbK oj.ins && (ZbI oi.ins || (Zfl oi.ins && Zg6 cj ci)) && Zcl cj ci)):=rfl
theorem ZmY (o:AOp) (rd wr:List Nat) (any:Bool) (got:List (Nat×Option Nat×Nat×AVal)) (upd:List (Nat×List AVal)):ZaY o ⟨rd,wr,any,got,upd⟩=(nsite o.ins == 0 && rd.isEmpty && wr.isEmpty && !any):=rfl
theorem Ztt (rd wr:List Nat) (any:Bool) (got:List (Nat×Option Nat×Nat×AVal)) (upd:List (Nat×List AVal)):Zbz ⟨rd,wr,any,got,upd⟩=(wr.isEmpty && !any):=rfl
theorem ZhR {α:Type} {l:List α} {i:Nat} {x:α} {r:List α} (h:l.drop i=x::r):l[i]?=some x/\l.drop (i+1)=r/\i < l.length:=by
 have h1:i < l.length:=by
  rcases Nat.lt_or_ge i l.length with h1 | h1
  ·exact h1
  ·rw [List.drop_eq_nil_of_le h1] at h;cases h
 rw [List.drop_eq_getElem_cons h1] at h
 injection h with h2 h3
 exact ⟨by rw [List.getElem?_eq_getElem h1,h2],h3,h1⟩
theorem Zu0 {α:Type} {l:List α} {i:Nat} (h:l.drop i=[]):¬(i:Int) < l.length:=by
 have:=List.drop_eq_nil_iff.1 h;omega
theorem iad {α:Type} {l:List α} {i:Nat} {x:α} (h:l[i]?=some x) (f:α->AVal) {k:Nat} (hk:(f x).cells.length=k) (σ:Za) (n:Bool) (kk:IntKind):Zbn σ k (.lst n (l.map f)) (.int kk (i:Int))=some (.iptr (f x).cells 0,σ,{}):=by
 have h0:(0:Int)<=(i:Int):=Int.natCast_nonneg i
 unfold Zbn
 simp only [h0,if_true,Int.toNat_natCast,List.getElem?_map,h,Option.map_some,hk]
theorem ZgO {n:Int} (h0:-9223372036854775808<=n) (h:n<=9223372036854775807):IntKind.i64.wrap n=n:=by
 rw [IntKind.wrap_i64];omega
theorem ZuB {α β:Type} {a:List α} {b:List β} (h:a.length=b.length):((a.length:Int) != (b.length:Int))=false:=by simp [h]
theorem Zlf {α β:Type} {a:List α} {b:List β} (h:a.length≠b.length):((a.length:Int) != (b.length:Int))=true:=by
 simp only [bne_iff_ne,ne_eq];omega
theorem ZtY {α:Type} [BEq α] [LawfulBEq α] {a b:List α} (h:a.length≠b.length):(a == b)=false:=by
 simp only [beq_eq_false_iff_ne,ne_eq];rintro rfl;exact h rfl
theorem Zi9 {i n:Nat} (h:(i:Int) < n) (hn:n<=9223372036854775807):IntKind.i64.wrap ((i:Int)+1)=((i+1:Nat):Int):=by
 rw [ZgO (by omega) (by omega)];rfl
abbrev ZdQ:=List UInt8
def Z4 (b:ZdQ):AVal:=.lst false (b.map ZaZ)
structure Zhh where
 id:Int
 num:Int
 text:ZdQ
 pair:ZdQ
 data:ZdQ
 deriving DecidableEq
def Z2 (p:Zhh):List AVal:=[.int .i64 p.id,.int .i64 p.num,.str p.text,.str p.pair,Z4 p.data]
def Z3 (p:Zhh):AVal:=.agg (Z2 p)
def Z6 (l:List Zhh):AVal:=.lst false (l.map Z3)
def Zan (l:List Int):AVal:=.lst false (l.map (.int .i64 ·))
theorem Z0 (l:ZdQ):ZcH (l.map ZaZ)=some l:=by
 induction l with
 | nil=>rfl
 | cons b l ih =>
  simp only [List.map_cons,ZcH,ih,ZaZ,ZgH,Int.toNat_natCast,UInt8.ofNat_toNat]
end
section
def Zrb:=(aI (aI (aI (aI (aI (aI @ZrN @ZkN) (aI @ZvY @Zvc)) (aI (aI @ZnD @ZkP) (aI @Zsj @Zko))) (aI (aI (aI @Zjw @ZgY) (aI @Zp7 @ZgV)) (aI (aI @ZkV @Zu8) (aI @Zp3 @Ztp)))) (aI (aI (aI (aI @ZoX @Zj0) (aI @ZkL @ZoR)) (aI (aI @ZnV @ZkF) (aI @ZpX @ZpT))) (aI (aI (aI @ZpC @Zkn) (aI @Zq5 @ZjY)) (aI (aI @Zru @Z0) (aI @Zoc @Zsc))))) (aI (aI (aI (aI (aI @ZrL @ZqB) (aI @Zlv @Zj3)) (aI (aI @Zkx @Zts) (aI @ZvM @ZtO))) (aI (aI (aI @Zsx @Zvs) (aI @ZkK @ZlR)) (aI (aI @Ziu @Zhi) (aI @Ztw @ZqA)))) (aI (aI (aI (aI @Zvy @Zj7) (aI @Zv2 @ZuJ)) (aI (aI @Zm6 @Zgc) (aI @Zqh @Zj6))) (aI (aI (aI @ZlD @ZpY) (aI @Zov @Zr6)) (aI (aI @ZoO @Zsi) (aI @ZpE @Znk))))))
def Zj5:=(aI (aI (aI (aI (aI (aI @Zn5 @ZqH) (aI @ZkS @Znd)) (aI (aI @Zs3 @Zn4) (aI @Zvm @Zti))) (aI (aI (aI @Zj8 @ZmY) (aI @Ztt @ZiX)) (aI (aI @Zkp @Zmu) (aI @Zp9 @Zre)))) (aI (aI (aI (aI @Zup @Zqy) (aI @Zuv @Zl4)) (aI (aI @ZkI @ZnY) (aI @Zuw @Zo5))) (aI (aI (aI @ZtH @Zuy) (aI @Zp5 @Zqf)) (aI (aI @ZrC @Zte) (aI @Zpj @ZmD))))) (aI (aI (aI (aI (aI @Zsm @ZmB) (aI @Zt9 @Zpt)) (aI (aI @ZtU @Zsb) (aI @Zs9 @Zvw))) (aI (aI (aI @Zq2 @ZpB) (aI @ZrE @ZtW)) (aI (aI @Zk6 @Zlz) (aI @ZnJ @ZoG)))) (aI (aI (aI (aI @Znw @ZoC) (aI @ZlX @Zvl)) (aI (aI @ZoT @ZoZ) (aI @ZpV @ZmI))) (aI (aI (aI @ZtT @Zpo) (aI @Zr0 @ZvJ)) (aI (aI @ZjZ @ZuC) (aI @ZpO @Zqn))))))
def Z7:=(aI (aI (aI (aI (aI (aI @Zqs @ZlS) (aI @ZuP @Zux)) (aI (aI @Zmc @Zrj) (aI @Zqp @ZvG))) (aI (aI (aI @Zsq @Zv5) (aI @ZlZ @Zok)) (aI (aI @ZqU @Zpl) (aI @ZnZ @ZpL)))) (aI (aI (aI (aI @Zmf @ZtA) (aI @ZrG @Zoe)) (aI (aI @Zlu @Zpn) (aI @Zs0 @ZkM))) (aI (aI (aI @Zrv @Zlk) (aI @ZuX @Zsh)) (aI (aI @Zu5 @Zo0) (aI @ZnC @Zrd))))) (aI (aI (aI (aI (aI @ZvV @ZrF) (aI @Zv8 @Zox)) (aI (aI @Zpy @Zmt) (aI @ZlF @Zor))) (aI (aI (aI @Zuo @Zn7) (aI @Zow @Zvk)) (aI (aI @Zqk @ZoP) (aI @Zr3 @Zm9)))) (aI (aI (aI (aI @Zuk @ZqI) (aI @ZvE @ZnI)) (aI (aI @Zlm @Zm4) (aI @ZpN @ZqL))) (aI (aI (aI @Zss @Zp4) (aI @ZsM @Zn8)) (aI (aI @Zl9 @Zmg) (aI @ZlQ @Zqc))))))
def Zaf:=(aI (aI (aI (aI (aI (aI @ZrJ @ZuM) (aI @ZuZ @Zu4)) (aI (aI @Zn6 @ZtF) (aI @Zmp @ZnU))) (aI (aI (aI @Zrp @ZoH) (aI @Zo8 @Zs1)) (aI (aI @Zqb @Zo4) (aI @ZnA @ZuK)))) (aI (aI (aI (aI @Zo9 @Zn3) (aI @ZnR @ZqZ)) (aI (aI @Zp0 @Zki) (aI @ZjW @ZsZ))) (aI (aI (aI @Zq1 @Zr9) (aI @Zke @Znt)) (aI (aI @ZnP @Znp) (aI @Zk7 @ZrS))))) (aI (aI (aI (aI (aI @Znq @Zlt) (aI @ZlA @ZlP)) (aI (aI @Zvf @ZsR) (aI @ZrB @Zkf))) (aI (aI (aI @Zso @Zsz) (aI @Zt0 @ZnG)) (aI (aI @ZoL @Zk4) (aI @Zkb @ZmJ)))) (aI (aI (aI (aI @Zvz @Zkl) (aI @Zp2 @ZoE)) (aI (aI @Zna @ZnW) (aI @Zrt @ZqE))) (aI (aI (aI @ZrD @ZkG) (aI @Zl6 @Zpm)) (aI (aI @ZmT @ZvN) (aI @ZuG @ZmC))))))
def Zaa:=(aI (aI (aI (aI (aI (aI @Zkg @Zrc) (aI @Zkh @Zrz)) (aI (aI @Zrm @ZqN) (aI @Ztu @Zt4))) (aI (aI (aI @Zon @ZsX) (aI @Zk9 @ZkU)) (aI (aI @ZkY @ZkJ) (aI @Zmi @Zv4)))) (aI (aI (aI (aI @Zs7 @Zri) (aI @Zvv @Zq0)) (aI (aI @Zq4 @Zp6) (aI @ZtQ @ZjV))) (aI (aI (aI @Zmb @Zt5) (aI @Zqt @Zos)) (aI (aI @Zsy @ZrZ) (aI @Zph @Zus))))) (aI (aI (aI (aI (aI @Zkr @ZvP) (aI @ZvS @Zv1)) (aI (aI @Zpa @Zk8) (aI @Zv9 @ZlB))) (aI (aI (aI @Zqz @ZtD) (aI @ZvH @Zlo)) (aI (aI @ZuV @ZtR) (aI @Zud @Zom)))) (aI (aI (aI (aI @ZtG @Zuh) (aI @ZnX @Zpu)) (aI (aI @Zs5 @ZnF) (aI @ZmU @Zu1))) (aI (aI (aI @Zkw @ZoY) (aI @Ztn @Zk0)) (aI (aI @Zpq @ZsD) (aI @ZsA @Zmq))))))
def Zld:=(aI (aI (aI (aI (aI (aI @Zob @ZpR) (aI @ZoB @Zlh)) (aI (aI @Zkk @Ztc) (aI @ZvO @Zrw))) (aI (aI (aI @Zot @ZqT) (aI @Zu2 @ZpK)) (aI (aI @Zqi @Zn9) (aI @Zrg @ZlT)))) (aI (aI (aI (aI @Zq6 @ZnS) (aI @Zsr @ZlE)) (aI (aI @Zol @Zp1) (aI @Zj4 @Zoo))) (aI (aI (aI @ZvQ @Zmy) (aI @Znv @Zpz)) (aI (aI @ZuH @ZtV) (aI @Zt6 @Zmj))))) (aI (aI (aI (aI (aI @Zo2 @ZoK) (aI @ZvL @Znl)) (aI (aI @Zv7 @Zo3) (aI @Zlj @ZkO))) (aI (aI (aI @ZmE @Zl0) (aI @ZlK @Zwa)) (aI (aI @ZsV @Ztq) (aI @Zl7 @ZuR)))) (aI (aI (aI (aI @ZmK @Zt2) (aI @Zpx @Zoq)) (aI (aI @Zm2 @Zns) (aI @Zkm @ZmW))) (aI (aI (aI @Zsn @ZrO) (aI @Zvg @ZqJ)) (aI (aI @Zvt @Zq9) (aI @ZmS @ZmP))))))
def Zah:=(aI (aI (aI (aI (aI (aI @Zm7 @Zng) (aI @ZtZ @Zrs)) (aI (aI @ZrQ @ZqD) (aI @ZuL @Zqg))) (aI (aI (aI @Zuc @Ztd) (aI @Zu3 @Zp8)) (aI (aI @Zpp @Zro) (aI @Zkj @Zkc)))) (aI (aI (aI (aI @ZoF @ZlI) (aI @Ztb @Zta)) (aI (aI @Zl2 @ZuA) (aI @Ztv @ZvI))) (aI (aI (aI @ZqX @Zqo) (aI @Zvx @ZsE)) (aI (aI @ZqS @ZsJ) (aI @ZlY @ZrW))))) (aI (aI (aI (aI (aI @ZkB @ZlJ) (aI @Zqx @ZlG)) (aI (aI @ZqQ @ZpW) (aI @ZtS @Zpi))) (aI (aI (aI @ZtL @ZoU) (aI @ZsC @Zqv)) (aI (aI @Zls @Ztr) (aI @Zq3 @Zv0)))) (aI (aI (aI (aI @ZuS @ZmA) (aI @ZnL @Zmv)) (aI (aI @Zm3 @Zs2) (aI @Zpc @ZmL))) (aI (aI (aI @ZkH @Zmw) (aI @Zr4 @ZsI)) (aI (aI @Zla @ZsB) (aI @Zq7 @ZqG))))))
def Zak:=(aI (aI (aI (aI (aI @ZnE (aI @ZqR @ZsF)) (aI (aI @ZoQ @Zsw) (aI @Zli @Zoa))) (aI (aI @Zm0 (aI @Ztg @Zno)) (aI (aI @ZkE @Zlq) (aI @Zkv @ZlO)))) (aI (aI (aI @Zu6 (aI @ZrU @Zof)) (aI (aI @ZsP @Zsp) (aI @ZkC @ZnH))) (aI (aI (aI @Zsa @Zn2) (aI @Zpk @ZtE)) (aI (aI @ZqV @Zug) (aI @ZuW @Zry))))) (aI (aI (aI (aI @ZlL (aI @ZpG @ZsY)) (aI (aI @ZkR @Znn) (aI @ZpJ @Zra))) (aI (aI (aI @Zmr @Zn0) (aI @Zku @Zrr)) (aI (aI @Zop @Zl8) (aI @Zma @Zrf)))) (aI (aI (aI @ZsG (aI @ZmG @ZvA)) (aI (aI @ZvC @Zly) (aI @Zpd @Zlr))) (aI (aI (aI @Zl3 @Ztm) (aI @ZnT @Zuf)) (aI (aI @ZoM @ZqK) (aI @Zsg @Zht))))))
def Zni:=(aI (aI (aI (aI (aI (aI @List.map_cons.{0,0} @List.map_nil.{0,0}) (aI @List.length_cons.{0} @List.length_nil.{0})) (aI (aI @List.replicate_zero.{0} @List.replicate_succ.{0}) (aI @List.append_nil.{0} @List.nil_append.{0}))) (aI (aI (aI @List.cons_append.{0} @List.getElem?_cons_zero.{0}) (aI @List.getElem?_cons_succ.{0} @List.set_cons_zero.{0})) (aI (aI @List.set_cons_succ.{0} @Nat.add_zero) (aI @Nat.zero_add @Bool.true_or)))) (aI (aI (aI (aI @Bool.false_or @Bool.or_true) (aI @Bool.or_false @Bool.and_true)) (aI (aI @Bool.true_and @Bool.and_self) (aI @Bool.and_false @Bool.false_and))) (aI (aI (aI @if_true.{1} @if_false.{1}) (aI @ite_true.{1} @ite_false.{1})) (aI (aI @Option.map_some.{0,0} @Option.map_none.{0,0}) (aI @and_self @and_true))))) (aI (aI (aI (aI (aI @true_and @and_false) (aI @false_and @true_or)) (aI (aI @or_true @false_or) (aI @or_false @not_true_eq_false))) (aI (aI (aI @not_false_eq_true @List.drop_zero.{0}) (aI @List.drop_succ_cons.{0} @List.take_succ_cons.{0})) (aI (aI @List.take_zero.{0} @List.all_cons.{0}) (aI @List.all_nil.{0} @List.isEmpty_nil.{0})))) (aI (aI (aI (aI @Bool.not_false @Bool.not_true) (aI @List.length_map.{0,0} @Bool.bne_false)) (aI (aI @Bool.bne_true @List.isEmpty_cons.{0}) (aI @List.getD_cons_zero.{0} @List.getD_cons_succ.{0}))) (aI (aI (aI @List.getD_nil.{0} @List.contains_nil.{0}) (aI @List.range_zero @List.flatMap_cons.{0,0})) (aI (aI @List.flatMap_nil.{0,0} @List.zip_cons_cons.{0,0}) (aI @List.zip_nil_left.{0,0} @List.zip_nil_right.{0,0}))))))
def Zaj:=@Nat.not_lt_zero
def EQA := (aI (aI (aI (aI (aI (aI (aI Zrb Zj5) (aI Zld Zni)) (aI (aI @exI.eq_1 @nsite.eq_1) (aI @nsite.eq_2 @nsite.eq_3))) (aI (aI (aI @nsite.eq_4 @nsite.eq_5) (aI @nsite.eq_6 @nsite.eq_7)) (aI (aI @nsite.eq_8 @nsite.eq_9) (aI @nsite.eq_10 @nsite.eq_11)))) (aI (aI (aI (aI @freeAt.eq_1 @execI.eq_1) (aI @execI.eq_2 @execI.eq_3)) (aI (aI @execI.eq_4 @execI.eq_5) (aI @execI.eq_6 @execI.eq_7))) (aI (aI (aI @execI.eq_8 @execI.eq_9) (aI @execI.eq_10 @execI.eq_11)) (aI (aI @execI.eq_12 @execI.eq_13) (aI @execI.eq_14 @execI.eq_15))))) (aI (aI (aI (aI (aI @execI.eq_16 @execI.eq_17) (aI @execI.eq_18 @execI.eq_19)) (aI (aI @execI.eq_20 @execI.eq_21) (aI @execI.eq_22 @execI.eq_23))) (aI (aI (aI @execI.eq_24 @execI.eq_25) (aI @execI.eq_26 @execI.eq_27)) (aI (aI @execI.eq_28 @execI.eq_29) (aI @execI.eq_30 @execI.eq_31)))) (aI (aI (aI (aI @execI.eq_32 @execI.eq_33) (aI @execI.eq_34 @execI.eq_35)) (aI (aI @execI.eq_36 @execI.eq_37) (aI @execI.eq_38 @execI.eq_39))) (aI (aI (aI @execI.eq_40 @execI.eq_41) (aI @execI.eq_42 @execI.eq_43)) (aI (aI @execI.eq_44 @execI.eq_45) (aI @execI.eq_46 (aI @execI.eq_47 @execI.eq_48))))))) (aI (aI (aI (aI (aI (aI @execI.eq_49 @Opd.ev.eq_1) (aI @Opd.ev.eq_2 @tget.eq_1)) (aI (aI @tget.eq_2 @tins.eq_1) (aI @tins.eq_2 @tput.eq_1))) (aI (aI (aI @tput.eq_2 @keepL.eq_1) (aI @sitesOf.eq_1 @resA.eq_1)) (aI (aI @resAll.eq_1 @resAll.eq_2) (aI @resOne.eq_1 @resOne.eq_2)))) (aI (aI (aI (aI @enterA.eq_1 @enterA.eq_2) (aI @partA.eq_1 @partA.eq_2)) (aI (aI @faddrA.eq_1 @faddrA.eq_2) (aI @faddrA.eq_3 @faddrA.eq_4))) (aI (aI (aI @setAt.eq_1 @binA.eq_1) (aI @binA.eq_2 @binA.eq_3)) (aI (aI @binA.eq_4 @binA.eq_5) (aI @arithA.eq_1 @arithA.eq_2))))) (aI (aI (aI (aI (aI @arithA.eq_3 @arithA.eq_4) (aI @arithA.eq_5 @arithA.eq_6)) (aI (aI @arithA.eq_7 @arithA.eq_8) (aI @arithA.eq_9 @arithA.eq_10))) (aI (aI (aI @arithA.eq_11 @arithA.eq_12) (aI @arithA.eq_13 @arithA.eq_14)) (aI (aI @arithA.eq_15 @arithA.eq_16) (aI @ldA.eq_1 @ldA.eq_2)))) (aI (aI (aI (aI @ldA.eq_3 @ldA.eq_4) (aI @stA.eq_1 @stA.eq_2)) (aI (aI @stA.eq_3 @List.sum_cons.{0}) (aI @List.sum_nil.{0} @eq_self.{1}))) (aI (aI (aI @beq_self_eq_true.{0} @Bool.false_eq_true) (aI @Option.some.injEq.{0} @decide_true)) (aI (aI @decide_false @List.foldl_cons.{0, 0}) (aI @List.foldl_nil.{0, 0} (aI @List.contains_cons.{0} @ne_eq.{1}))))))))
end
section
theorem Zoh {O:Zn} {bf:Nat->Bool} {σ:Za} {sq f own:Nat} {view:Bool} {args vs vs':List AVal} {ids:List Nat} {h0 h:Za} {r0 r:AVal} (hb:bf f=false) (hsh:showAs σ args=some (vs,[])) (hre:Zm σ 1000 (ZA vs) []=ids) (hne:ids.isEmpty=false)
  (hall:(ids.all fun t=>okB (σ.getD t .free))=true) (hvs:Zt (Zf σ 0 ids) vs=vs') (hh:Zj σ 0 ids (Zf σ 0 ids) ids 0=h0) {hh0:Za} (hO:O f vs' h0=some (r0,hh0)) (hv:ZaF view ids.length (some (r0,hh0))=some (r,h))
  (hl1:h.length<=ids.length+own) (hl2:ids.length<=h.length) (hk:Za1 σ ids h 0=true) (hff:ZaH σ sq own=true) {r':AVal} (hr:Ze (Zaw σ ids sq) r=r') {σ':Za} (hlay:Zay σ ids sq h 0 σ=σ') {u:List (Nat×List AVal)} (hu:Zbj σ' ids=u) :
  Zx O bf σ sq f own view args=some (r',σ',{ any:=true,upd:=u }):=by
 subst hr hlay hu
 unfold Zx Zbq
 rw [hb]
 simp only [Bool.false_eq_true,if_false,hsh,show Zh σ []=σ from rfl,hre]
 unfold Zbg
 rw [if_pos hall,hvs,hh,hO,hv]
 simp only [Zae,hne,Bool.false_and,Bool.false_eq_true,if_false,hl1,hl2,decide_true,hk,hff,Bool.and_self,if_true]
theorem Zka {O:Zn} {bf:Nat->Bool} {σ:Za} {t sq f own k:Nat} {view:Bool} {args args' xs xs':List AVal} {r:AVal} {b':Zs} (hs:σ[t]?=some (.row 0 k xs)) (hb:bf f=true) (hff:ZaH σ sq own=true)
  (href:ZA args=[t]) (hren:∀ ρ:Rho,ρ t 0=some (0,0)->Zt ρ args=args') (hr:∀ ρ:Rho,Ze ρ r=r) (hb':b'=.row 0 k xs'\/b'=.frow 0 k xs')
  (h:ZaF view 1 (O f args' [.row 0 k xs])=some (r,[b'])):Zx O bf σ sq f own view args=some (r,σ.set t b',{ any:=true }):=by
 have hd:σ.getD t .free=.row 0 k xs:=by simp [List.getD_eq_getElem?_getD,hs]
 have hf0:Zh σ []=σ:=rfl
 unfold Zx Zbq
 rw [hb]
 simp only [if_true,hf0,href]
 have hreach:Zm σ 1000 [t] []=[t]:=by
  simp only [Zm,List.contains_nil,Bool.false_eq_true,if_false,hd,ZF,List.nil_append]
 rw [hreach]
 unfold Zbg
 have hall:([t].all fun t=>okB (σ.getD t .free))=true:=by simp [List.all_cons,List.all_nil,hs,okB]
 rw [if_pos hall]
 have hρ:Zf σ 0 [t] t 0=some (0,0):=by simp [Zf,ZD,hs,Zd,Zz]
 have hheap:Zj σ 0 [t] (Zf σ 0 [t]) [t] 0=[.row 0 k xs]:=by
  simp only [Zj,hd,Zz,Zd,Zp,Nat.not_lt_zero,false_and,if_false]
 rw [hren _ hρ,hheap]
 simp only [List.length_cons,List.length_nil,Nat.zero_add]
 rw [h]
 have hk:Za1 σ [t] [b'] 0=true:=by
  rcases hb' with rfl | rfl <;> simp [Za1,okB,hs,ZcP,Zd]
 have hren':∀ ρ,Zp ρ (Za9 σ [t] 0 b') b'=b':=by
  intro ρ
  rcases hb' with rfl | rfl <;> simp [Za9,hs,Zd,Zp]
 simp only [Zae,List.isEmpty_cons,Bool.false_and,Bool.false_eq_true,if_false,List.length_cons,List.length_nil,Nat.zero_add,Nat.le_add_right,Nat.le_refl,decide_true,hk,hff,Bool.and_self,if_true,Zay,Zbj,Z1,List.getD_cons_zero,hr,hren']
 have htl:t < σ.length:=(List.getElem?_eq_some_iff.1 hs).1
 have hg:(σ.set t b')[t]?=some b':=by simp [htl]
 simp only [List.flatMap_cons,List.flatMap_nil,List.append_nil,hg]
 rcases hb' with rfl | rfl <;> rfl
end
section
def Zb (l:List Int):List (AVal×AVal):=l.map fun k=>(AVal.int .i64 k,AVal.agg [])
def Zk (l:List Int):Za:=[.var [.map 1],.map (Zb l)]
theorem ZeD (k:Int):∀ (l:List Int) (i:Nat),Zcg (.int .i64 k) (Zb l) i=some (if l.contains k=true then some (i+l.idxOf k,AVal.agg []) else none)
 | [],i=>rfl
 | x::l,i=>by
  have ih:=ZeD k l (i+1)
  show (match Zbx (.int .i64 k) (.int .i64 x) with | some true=>some (some (i,AVal.agg [])) | some false=>Zcg (.int .i64 k) (Zb l) (i+1) | none=>none)=_
  have h1:Zbx (.int .i64 k) (.int .i64 x)=some (k == x):=by simp [Zbx]
  rw [h1]
  by_cases h:k=x
  ·subst h;simp [List.idxOf_cons]
  ·have h2:(k == x)=false:=by simpa using h
   have h3:(x == k)=false:=by simpa using fun e=>h e.symm
   rw [h2]
   simp only
   rw [ih,List.contains_cons,h2,Bool.false_or,List.idxOf_cons,h3]
   simp only [cond_false]
   by_cases hc:l.contains k=true
   ·rw [if_pos hc,if_pos hc]
    congr 3;omega
   ·rw [if_neg hc,if_neg hc]
theorem ZhB (k:Int):∀ l:List Int,(Zb l).eraseIdx (l.idxOf k)=Zb (l.erase k)
 | []=>rfl
 | x::l=>by
  rw [List.idxOf_cons,List.erase_cons]
  by_cases h:x=k
  ·subst h;simp [Zb]
  ·have h3:(x == k)=false:=by simpa using h
   rw [h3]
   simp only [cond_false,Bool.false_eq_true,if_false]
   show (_::Zb l).eraseIdx (l.idxOf k+1)=_
   rw [List.eraseIdx_cons_succ,ZhB k l];rfl
section
variable {σ:Za} {t:Nat} {l:List Int}
theorem Zs6 (hs:σ[t]?=some (.map (Zb l))) (k:Int):ZbJ σ 0 (.agg []) true (.map t) (.int .i64 k)=some (.tup [.agg [],.bool (l.contains k)],σ,{ rd:=[t] }):=by
 unfold ZbJ
 rw [if_pos (show ZX (AVal.int .i64 k)=0 from rfl)]
 simp only [hs,ZeD]
 cases hc:l.contains k <;> simp [Zfb]
theorem Zua (hs:σ[t]?=some (.map (Zb l))) {k:Int} (hc:l.contains k=false):Zdl σ 0 (.map t) (.int .i64 k) (.agg [])=some (.tup [],σ.set t (.map (Zb (l++[k]))),{ wr:=[t] }):=by
 unfold Zdl
 rw [if_pos ⟨rfl,rfl,rfl⟩]
 simp only [hs,ZeD,hc,Bool.false_eq_true,if_false]
 simp [Zb]
theorem Znf (hs:σ[t]?=some (.map (Zb l))) (k:Int):ZcW σ 0 (.map t) (.int .i64 k)=some (.tup [],σ.set t (.map (Zb (l.erase k))),{ wr:=[t] }):=by
 unfold ZcW
 rw [if_pos (show ZX (AVal.int .i64 k)=0 from rfl)]
 simp only [hs,ZeD]
 by_cases hc:l.contains k=true
 ·rw [if_pos hc]
  simp only [Nat.zero_add]
  rw [ZhB]
 ·rw [if_neg hc]
  simp only
  have : l.erase k=l:=List.erase_of_not_mem (by simpa using hc)
  rw [this]
theorem Zmh (hs:σ[t]?=some (.map (Zb l))):Zcm σ (.map t)=some (.int .i64 l.length,σ,{ rd:=[t] }):=by
 simp [Zcm,hs,Zb]
end
theorem Zfu (l:List Int):ZF (.map (Zb l))=[]:=by
 induction l with
 | nil=>rfl
 | cons x l ih =>
  show ZT (.agg [])++ZF (.map (Zb l))=[]
  rw [ih];rfl
theorem Ziw (ρ:Rho) (g:Nat) (l:List Int):Zp ρ g (.map (Zb l))=.map (Zb l):=by
 show Zs.map ((Zb l).map fun p=>(p.1,Ze ρ p.2))=_
 congr 1
 unfold Zb
 rw [List.map_map]
 rfl
theorem Zbl (ρ:Rho) (l:List Int):(Zb l).map (fun p=>(p.1,Ze ρ p.2))=Zb l:=by
 unfold Zb
 rw [List.map_map]
 rfl
theorem ZbL {r:AVal} (hr:ZK r=true) (l:List Int) (σ:Za):ZaJ 2 (.var [.map 1]::.map (Zb l)::σ) r=some (r,Zk l):=by
 have hi:Zy 2 [r] (.var [.map 1]::.map (Zb l)::σ)=[0,1]:=by
  have hR:List.range 2=[0,1]:=rfl
  have h1:(Zs.var [.map 1]::.map (Zb l)::σ).getD 1 .free=.map (Zb l):=rfl
  have h0:(Zs.var [.map 1]::.map (Zb l)::σ).getD 0 .free=.var [.map 1]:=rfl
  have hb0:ZF (.var [.map 1])=[1]:=rfl
  simp only [Zy,ZA,(Zcr (fun _ _=>none) r hr).2,List.nil_append,hR,List.flatMap_cons,List.flatMap_nil,List.append_nil,h0,h1,Zfu,hb0]
  rfl
 have hρ:Zf (.var [.map 1]::.map (Zb l)::σ) 2 [0,1] 1 0=some (1,0):=rfl
 simp only [ZaJ,gcA,hi,Zj,Zt,(Zcr _ r hr).1]
 have h1:(Zs.var [.map 1]::.map (Zb l)::σ).getD 1 .free=.map (Zb l):=rfl
 have h0:(Zs.var [.map 1]::.map (Zb l)::σ).getD 0 .free=.var [.map 1]:=rfl
 rw [h0,h1,Ziw]
 simp only [Zp,Zt,Ze,hρ,Zk]
theorem Ziz {O:Zn} {f own:Nat} {view:Bool} {args:List AVal} {l l':List Int} {q r0:AVal} {h0:Za} (hq:ZK q=true) (h:O f (.ref 0 0::args) (Zk l)=some (r0,h0)) (hask:ZaF view 2 (some (r0,h0))=some (q,Zk l')) (hb:BY f=false) (hp:args.all ZS=true) (hn:args.map ZJ=args) {σ:Za} {t m sq:Nat} (htm:t≠m) (hs:σ[t]?=some (.var [.map m])) (hm:σ[m]?=some (.map (Zb l))) (hff:ZaH σ sq own=true) :
  Zx O BY σ sq f own view (.ref t 0::args)=some (q,(σ.set t (.var [.map m])).set m (.map (Zb l')),{ any:=true,upd:=[(t,[.map m])] }):=by
 have htl:t < σ.length:=(List.getElem?_eq_some_iff.1 hs).1
 have hml:m < σ.length:=(List.getElem?_eq_some_iff.1 hm).1
 have h1:σ.getD t .free=.var [.map m]:=by simp [List.getD_eq_getElem?_getD,hs]
 have h2:σ.getD m .free=.map (Zb l):=by simp [List.getD_eq_getElem?_getD,hm]
 have hsh:showAs σ (.ref t 0::args)=some (.ref t 0::args.map ZJ,[]):=by
  rw [showAs,show showA σ (.ref t 0)=some (.ref t 0,[]) from rfl,ZgE hp]
  rfl
 have href:ZA (.ref t 0::args.map ZJ)=[t]:=by
  rw [ZA,Zfp hp];rfl
 have hre:Zm σ 1000 (ZA (.ref t 0::args.map ZJ)) []=[t,m]:=by
  have e0:([]:List Nat).contains t=false:=rfl
  have e1:([t]:List Nat).contains m=false:=by simp;exact fun e=>htm e.symm
  rw [href,show (1000:Nat)=997+1+1+1 from rfl]
  have hb0:ZF (.var [.map m])=[m]:=rfl
  simp only [Zm,e0,h1,hb0,List.append_nil,List.nil_append,List.singleton_append,Bool.false_eq_true,if_false,e1,h2,Zfu,List.cons_append]
 have hρt:Zf σ 0 [t,m] t 0=some (0,0):=by simp [Zf,ZD,hs,Zd,Zz]
 have hρm:Zf σ 0 [t,m] m 0=some (1,0):=by
  simp [Zf,ZD,hm,Zd,Zz,htm]
 have hvs:Zt (Zf σ 0 [t,m]) (.ref t 0::args.map ZJ)=.ref 0 0::args:=by
  rw [Zt,Ze2 hp,hn]
  simp only [Ze,hρt]
 have hh:Zj σ 0 [t,m] (Zf σ 0 [t,m]) [t,m] 0=Zk l:=by
  simp only [Zj,h1,h2,Zp,Zbl,Zt,Ze,hρm,Zk]
 have hall:([t,m].all fun t=>okB (σ.getD t .free))=true:=by simp only [List.all_cons,List.all_nil,h1,h2,okB,Bool.and_self]
 have hk:Za1 σ [t,m] (Zk l') 0=true:=by simp [Zk,Za1,okB,ZcP,Zd,hs,hm]
 have hρb:Zaw σ [t,m] sq 1 0=some (m,0):=by simp [Zaw,Zd,hm]
 have hlay:Zay σ [t,m] sq (Zk l') 0 σ=(σ.set t (.var [.map m])).set m (.map (Zb l')):=by
  simp [Zk,Zay,Z1,Za9,Zd,Zp,Zbl,Zt,Ze,hρb,hs,hm,List.getD_eq_getElem?_getD]
 refine Zoh hb hsh hre rfl hall hvs hh h hask (by simp [Zk]) (by simp [Zk]) hk hff (Zcr _ q hq).1 hlay ?_
 have h3:((σ.set t (.var [.map m])).set m (.map (Zb l')))[t]?=some (.var [.map m]):=by
  rw [List.getElem?_set,if_neg (fun e=>htm e.symm),List.getElem?_set,if_pos rfl,if_pos htl]
 have h4:((σ.set t (.var [.map m])).set m (.map (Zb l')))[m]?=some (.map (Zb l')):=by
  rw [List.getElem?_set,if_pos rfl,if_pos (by simpa using hml)]
 simp [Zbj,h3,h4]
theorem ZsN {view:Bool} {l':List Int} {q:AVal} (hq:ZK q=true) (hv:viewR (Zk l') q=some (q,[])):ZaF view 2 (some (q,Zk l'))=some (q,Zk l'):=by
 unfold ZaF
 split
 ·have hnp:∀ x,q=.pan x->False:=by rintro x rfl;simp [viewR,ZaV,ZaE] at hv
  have : ZbZ 2 (some (q,Zk l'))=(match viewR (Zk l') q with
   | some (r',ts)=>match gcA 2 [r'] (Zh (Zk l') ts) with
    | ([r''],σ')=>some (r'',σ')
    | _=>none
   | none=>none):=by
   cases q <;> first | rfl | exact (hnp _ rfl).elim
  rw [this,hv]
  exact ZbL hq l' []
 ·rfl
theorem Zel {O:Zn} {f own:Nat} {view:Bool} {args:List AVal} {l l':List Int} {q:AVal} (hq:ZK q=true) (hv:viewR (Zk l') q=some (q,[])) (h:O f (.ref 0 0::args) (Zk l)=some (q,Zk l')) (hb:BY f=false) (hp:args.all ZS=true) (hn:args.map ZJ=args) {σ:Za} {t m sq:Nat} (htm:t≠m) (hs:σ[t]?=some (.var [.map m])) (hm:σ[m]?=some (.map (Zb l))) (hff:ZaH σ sq own=true) :
  Zx O BY σ sq f own view (.ref t 0::args)=some (q,(σ.set t (.var [.map m])).set m (.map (Zb l')),{ any:=true,upd:=[(t,[.map m])] }) :=
 Ziz hq h (ZsN hq hv) hb hp hn htm hs hm hff
theorem Znu {O:Zn} {f:Nat} {args vs:List AVal} {ts:List Nat} {l:List Int} {σ:Za} {sq:Nat} (hb:BY f=false) (hsh:showAs σ args=some (vs,ts)) (hp:vs.all ZS=true) (hn:vs.map ZJ=vs) (h:O f vs []=some (.ref 0 0,Zk l)) (hff:ZaH (Zh σ ts) sq 2=true) :
  Zx O BY σ sq f 2 false args=some (.ref sq 0,((Zh σ ts).set sq (.var [.map (sq+1)])).set (sq+1) (.map (Zb l)),{ any:=true }):=by
 have hr:=Zfp hp
 have hn':=fun ρ=>Ze2 (ρ:=ρ) hp
 rw [hn] at hr
 simp only [hn] at hn'
 have hd:ZdS 2 (.ref 0 0) (Zk l)=none:=rfl
 have hk:Za1 (Zh σ ts) [] (Zk l) 0=true:=rfl
 unfold Zx Zbq
 rw [hb]
 simp only [Bool.false_eq_true,if_false,hsh]
 rw [hr]
 have h2:∀ σ,Zm σ 1000 [] []=[]:=fun _=>rfl
 rw [h2]
 unfold Zbg
 simp only [List.all_nil,if_true,hn',Zj,List.length_nil,h]
 have hk2:decide ((Zk l).length<=0+2)=true:=rfl
 simp only [ZaF,Bool.false_eq_true,if_false,Zae,List.isEmpty_nil,show (Zk l).isEmpty=false from rfl,Bool.and_false,if_true,hd,List.length_nil,hk2,Nat.zero_le,decide_true,hk,hff,Bool.and_self]
 simp [Zk,Zay,Z1,Za9,Zaw,Zp,Zt,Ze,Zd,Zbl,Zbj]
end
section
theorem ZiU {O:Zn} {bf:Nat->Bool} {f:Nat} {args args':List AVal} {r r':AVal} (h:O f args' []=some (r,[])) (hb:bf f=false) (hp:args.all ZS=true) (hn:args.map ZJ=args') (hv:ZbZ 0 (some (r,[]))=some (r',[])) (hr:∀ sq,Ze (Zaw [] [] sq) r'=r') (σ:Za) (sq own:Nat):Zx O bf σ sq f own true args=some (r',σ,{}):=by
 rw [ZvR hb hp,hn,h]
 have : ZaF true 0 (some (r,[]))=some (r',[]):=by
  unfold ZaF
  rw [if_pos rfl];exact hv
 rw [this,ZrY _ _ _ _ (hr sq)]
end
section
theorem ZsS (l:List Int) (k:Int):E 15 [.ref 0 0,.int .i64 k] (Zk l)=some (.bool (l.contains k),Zk l):=by
 have hl:=fun σ t (hs:σ[t]?=some (.map (Zb l)))=>Zs6 (σ:=σ) (t:=t) hs k
 have ho:=ZbL (r:=.bool (l.contains k)) rfl l
 unfold Zk at ho ⊢
 generalize Zb l=M at *
 rw [Zb1 (by rfl) Zs8]
 simp -implicitDefEqProofs only [EQA,Z7,Zaf,Zaa,Zah,Zak,Zaj,Zal,Zab,Z9,Zam,Zad,Z5,Zag,Z8,Zai,implies_true,forall_const,Nat.reduceAdd,Nat.reduceSub,Nat.reduceLT,Nat.reduceLeDiff,Nat.reduceEqDiff,Nat.reduceBEq,Nat.reduceMul,ZU,ZY,unA,ZE,ZI,unG,reduceCtorEq,Zr,decide_eq_true_eq,Bool.not_eq_true,Bool.decide_eq_true,ite_self,↓reduceIte,ZH,ZV,gcT,gcA,Zy,Zm,Zf,Zj,ZD,Zd,Zz,Zp,ZF,List.range_succ,Zcj,ZbP,Zb8,oI,oN,Zan,Z4,Z6,Z3,Z2,Z0,hl,ho,AVal.cells,List.all_nil]
theorem ZfS (l:List Int) (k:Int) {σ:Za} {t m sq own:Nat} {view:Bool} (htm:t≠m) (hs:σ[t]?=some (.var [.map m])) (hm:σ[m]?=some (.map (Zb l))) (hff:ZaH σ sq own=true) :
  Zx E BY σ sq 15 own view [.ref t 0,.int .i64 k]=some (.bool (l.contains k),(σ.set t (.var [.map m])).set m (.map (Zb l)),{ any:=true,upd:=[(t,[.map m])] }) :=
 Zel (O:=E) rfl rfl (ZsS l k) (by kernel_rfl) rfl rfl htm hs hm hff
theorem ZbA (l:List Int):ZA ((Zb l).map fun x=>x.2)=[]:=Zfu l
def Zap (l:List Int) (k:Int):Bool×List Int:=if k < 1\/k > 65535\/l.contains k=true then (false,l) else (true,l++[k])
theorem ZsU (l:List Int) (k:Int):E 12 [.ref 0 0,.int .i64 k] (Zk l)=some (.bool (Zap l k).1,Zk (Zap l k).2):=by
 have hh:=fun {σ:Za} {sq:Nat} {view:Bool} hs hm=>ZfS l k (σ:=σ) (t:=0) (m:=1) (sq:=sq) (own:=0) (view:=view) (by decide) hs hm rfl
 unfold Zap
 by_cases h1:k < 1
 ·rw [if_pos (Or.inl h1)]
  have ho:=ZbL (r:=.bool false) rfl l
  unfold Zk at ho ⊢
  clear hh
  generalize Zb l=M at *
  rw [Zb1 (by rfl) ZfB]
  simp -implicitDefEqProofs only [EQA,Z7,Zaf,Zaa,Zah,Zak,Zaj,Zal,Zab,Z9,Zam,Zad,Z5,Zag,Z8,Zai,implies_true,forall_const,Nat.reduceAdd,Nat.reduceSub,Nat.reduceLT,Nat.reduceLeDiff,Nat.reduceEqDiff,Nat.reduceBEq,Nat.reduceMul,ZU,ZY,unA,ZE,ZI,unG,reduceCtorEq,Zr,decide_eq_true_eq,Bool.not_eq_true,Bool.decide_eq_true,ite_self,↓reduceIte,ZH,ZV,gcT,gcA,Zy,Zm,Zf,Zj,ZD,Zd,Zz,Zp,ZF,List.range_succ,Zfs,Zdr,ZeT,oI,oN,Zan,Z4,Z6,Z3,Z2,Z0,h1,ho]
 by_cases h2:k > 65535
 ·rw [if_pos (Or.inr (Or.inl h2))]
  have ho:=ZbL (r:=.bool false) rfl l
  unfold Zk at ho ⊢
  clear hh
  generalize Zb l=M at *
  rw [Zb1 (by rfl) ZfB]
  simp -implicitDefEqProofs only [EQA,Z7,Zaf,Zaa,Zah,Zak,Zaj,Zal,Zab,Z9,Zam,Zad,Z5,Zag,Z8,Zai,implies_true,forall_const,Nat.reduceAdd,Nat.reduceSub,Nat.reduceLT,Nat.reduceLeDiff,Nat.reduceEqDiff,Nat.reduceBEq,Nat.reduceMul,ZU,ZY,unA,ZE,ZI,unG,reduceCtorEq,Zr,decide_eq_true_eq,Bool.not_eq_true,Bool.decide_eq_true,ite_self,↓reduceIte,ZH,ZV,gcT,gcA,Zy,Zm,Zf,Zj,ZD,Zd,Zz,Zp,ZF,List.range_succ,Zfs,Zdr,ZeT,oI,oN,Zan,Z4,Z6,Z3,Z2,Z0,h1,h2,ho]
 cases h3:l.contains k with
 | true =>
  rw [if_pos (Or.inr (Or.inr rfl))]
  have ho:=ZbL (r:=.bool false) rfl l
  rw [h3] at hh
  unfold Zk at ho ⊢
  generalize Zb l=M at *
  rw [Zb1 (by rfl) ZfB]
  simp -implicitDefEqProofs only [EQA,Z7,Zaf,Zaa,Zah,Zak,Zaj,Zal,Zab,Z9,Zam,Zad,Z5,Zag,Z8,Zai,implies_true,forall_const,Nat.reduceAdd,Nat.reduceSub,Nat.reduceLT,Nat.reduceLeDiff,Nat.reduceEqDiff,Nat.reduceBEq,Nat.reduceMul,ZU,ZY,unA,ZE,ZI,unG,reduceCtorEq,Zr,decide_eq_true_eq,Bool.not_eq_true,Bool.decide_eq_true,ite_self,↓reduceIte,ZH,ZV,gcT,gcA,Zy,Zm,Zf,Zj,ZD,Zd,Zz,Zp,ZF,List.range_succ,Zfs,Zdr,ZeT,oI,oN,Zan,Z4,Z6,Z3,Z2,Z0,h1,h2,hh,ho]
 | false =>
  rw [if_neg (by simp [h1,h2,h3])]
  have hs:=fun σ t (hs:σ[t]?=some (.map (Zb l)))=>Zua (σ:=σ) (t:=t) hs h3
  have ho:=ZbL (r:=.bool true) rfl (l++[k])
  rw [h3] at hh
  unfold Zk at ho ⊢
  generalize Zb (l++[k])=M2 at *
  generalize Zb l=M at *
  rw [Zb1 (by rfl) ZfB]
  simp -implicitDefEqProofs only [EQA,Z7,Zaf,Zaa,Zah,Zak,Zaj,Zal,Zab,Z9,Zam,Zad,Z5,Zag,Z8,Zai,implies_true,forall_const,Nat.reduceAdd,Nat.reduceSub,Nat.reduceLT,Nat.reduceLeDiff,Nat.reduceEqDiff,Nat.reduceBEq,Nat.reduceMul,ZU,ZY,unA,ZE,ZI,unG,reduceCtorEq,Zr,decide_eq_true_eq,Bool.not_eq_true,Bool.decide_eq_true,ite_self,↓reduceIte,ZH,ZV,gcT,gcA,Zy,Zm,Zf,Zj,ZD,Zd,Zz,Zp,ZF,List.range_succ,Zfs,Zdr,ZeT,oI,oN,Zan,Z4,Z6,Z3,Z2,Z0,h1,h2,hh,hs,ho,Zcy,AVal.cells]
theorem Ze4 (l:List Int) (k:Int) {σ:Za} {t m sq own:Nat} {view:Bool} (htm:t≠m) (hs:σ[t]?=some (.var [.map m])) (hm:σ[m]?=some (.map (Zb l))) (hff:ZaH σ sq own=true) :
  Zx E BY σ sq 12 own view [.ref t 0,.int .i64 k]=some (.bool (Zap l k).1,(σ.set t (.var [.map m])).set m (.map (Zb (Zap l k).2)),{ any:=true,upd:=[(t,[.map m])] }) :=
 Zel (O:=E) rfl rfl (ZsU l k) (by kernel_rfl) rfl rfl htm hs hm hff
theorem Znb (l:List Int) (k:Int):E 13 [.ref 0 0,.int .i64 k] (Zk l)=some (.bool (l.contains k),Zk (l.erase k)):=by
 have hh:=fun {σ:Za} {sq:Nat} {view:Bool} hs hm=>ZfS l k (σ:=σ) (t:=0) (m:=1) (sq:=sq) (own:=0) (view:=view) (by decide) hs hm rfl
 have hs:=fun σ t (hs:σ[t]?=some (.map (Zb l)))=>Znf (σ:=σ) (t:=t) hs k
 have ho:=ZbL (r:=.bool (l.contains k)) rfl (l.erase k)
 unfold Zk at ho ⊢
 generalize Zb (l.erase k)=M2 at *
 generalize Zb l=M at *
 rw [Zb1 (by rfl) Zvh]
 simp -implicitDefEqProofs only [EQA,Z7,Zaf,Zaa,Zah,Zak,Zaj,Zal,Zab,Z9,Zam,Zad,Z5,Zag,Z8,Zai,implies_true,forall_const,Nat.reduceAdd,Nat.reduceSub,Nat.reduceLT,Nat.reduceLeDiff,Nat.reduceEqDiff,Nat.reduceBEq,Nat.reduceMul,ZU,ZY,unA,ZE,ZI,unG,reduceCtorEq,Zr,decide_eq_true_eq,Bool.not_eq_true,Bool.decide_eq_true,ite_self,↓reduceIte,ZH,ZV,gcT,gcA,Zy,Zm,Zf,Zj,ZD,Zd,Zz,Zp,ZF,List.range_succ,ZlV,Zgg,ZmX,oI,oN,Zan,Z4,Z6,Z3,Z2,Z0,hh,hs,ho]
theorem Ze6 (l:List Int) (k:Int) {σ:Za} {t m sq own:Nat} {view:Bool} (htm:t≠m) (hs:σ[t]?=some (.var [.map m])) (hm:σ[m]?=some (.map (Zb l))) (hff:ZaH σ sq own=true) :
  Zx E BY σ sq 13 own view [.ref t 0,.int .i64 k]=some (.bool (l.contains k),(σ.set t (.var [.map m])).set m (.map (Zb (l.erase k))),{ any:=true,upd:=[(t,[.map m])] }) :=
 Zel (O:=E) rfl rfl (Znb l k) (by kernel_rfl) rfl rfl htm hs hm hff
theorem ZqY (l:List Int):E 20 [.ref 0 0] (Zk l)=some (.int .i64 l.length,Zk l):=by
 have hs:=fun σ t (hs:σ[t]?=some (.map (Zb l)))=>Zmh (σ:=σ) (t:=t) hs
 have ho:=ZbL (r:=.int .i64 l.length) rfl l
 unfold Zk at ho ⊢
 generalize Zb l=M at *
 rw [Zb1 (by rfl) ZoW]
 simp -implicitDefEqProofs only [EQA,Z7,Zaf,Zaa,Zah,Zak,Zaj,Zal,Zab,Z9,Zam,Zad,Z5,Zag,Z8,Zai,implies_true,forall_const,Nat.reduceAdd,Nat.reduceSub,Nat.reduceLT,Nat.reduceLeDiff,Nat.reduceEqDiff,Nat.reduceBEq,Nat.reduceMul,ZU,ZY,unA,ZE,ZI,unG,reduceCtorEq,Zr,decide_eq_true_eq,Bool.not_eq_true,Bool.decide_eq_true,ite_self,↓reduceIte,ZH,ZV,gcT,gcA,Zy,Zm,Zf,Zj,ZD,Zd,Zz,Zp,ZF,List.range_succ,Zpe,ZfT,Zvp,oI,oN,Zan,Z4,Z6,Z3,Z2,Z0,hs,ho]
theorem ZjD (l:List Int) {σ:Za} {t m sq own:Nat} {view:Bool} (htm:t≠m) (hs:σ[t]?=some (.var [.map m])) (hm:σ[m]?=some (.map (Zb l))) (hff:ZaH σ sq own=true) :
  Zx E BY σ sq 20 own view [.ref t 0]=some (.int .i64 l.length,(σ.set t (.var [.map m])).set m (.map (Zb l)),{ any:=true,upd:=[(t,[.map m])] }) :=
 Zel (O:=E) (args:=[]) rfl rfl (ZqY l) (by kernel_rfl) rfl rfl htm hs hm hff
def ZbB (l:List Int):Nat->Int->(Int×Bool)×List Int
 | 0,_=>((0,false),l)
 | n+1,k=>if l.contains k=true then ZbB l n (k+1) else ((k,true),l++[k])
def ZbF (l:List Int):(Int×Bool)×List Int:=ZbB l 65535 1
theorem Zjs (l:List Int):∀ (n:Nat) (k:Int),k=65536 - (n:Int)->1<=k ->
  Zd1 2 [(4,.int .i64 k),(0,.ref 0 0)] (Zk l)=some (.tup [.int .i64 (ZbB l n k).1.1,.bool (ZbB l n k).1.2],Zk (ZbB l n k).2)
 | 0,k,hk,h1=>by
  have h2:¬k<=65535:=by omega
  unfold ZbB
  have ho:=ZbL (r:=.tup [.int .i64 0,.bool false]) rfl l
  unfold Zk at ho ⊢
  generalize Zb l=M at *
  unfold Zd1
  rw [ZbH]
  simp -implicitDefEqProofs only [EQA,Z7,Zaf,Zaa,Zah,Zak,Zaj,Zal,Zab,Z9,Zam,Zad,Z5,Zag,Z8,Zai,implies_true,forall_const,Nat.reduceAdd,Nat.reduceSub,Nat.reduceLT,Nat.reduceLeDiff,Nat.reduceEqDiff,Nat.reduceBEq,Nat.reduceMul,ZU,ZY,unA,ZE,ZI,unG,reduceCtorEq,Zr,decide_eq_true_eq,Bool.not_eq_true,Bool.decide_eq_true,ite_self,↓reduceIte,ZH,ZV,gcT,gcA,Zy,Zm,Zf,Zj,ZD,Zd,Zz,Zp,ZF,List.range_succ,Zfj,ZdA,ZeN,ZeR,Zdd,ZeA,Zdj,oI,oN,Zan,Z4,Z6,Z3,Z2,Z0,h2,ho]
 | n+1,k,hk,h1=>by
  have h2:k<=65535:=by omega
  have ih:=Zjs l n (k+1) (by omega) (by omega)
  have hh:=fun {σ:Za} {sq:Nat} {view:Bool} hs hm=>Ze4 l k (σ:=σ) (t:=0) (m:=1) (sq:=sq) (own:=0) (view:=view) (by decide) hs hm rfl
  have hw:IntKind.i64.wrap (k+1)=k+1:=ZgO (by omega) (by omega)
  have gm:∀ (σ:Za) (ρ:Rho),Zt ρ []=[]:=fun _ _=>rfl
  unfold ZbB
  cases hc:l.contains k with
  | true =>
   rw [if_pos rfl]
   have e:Zap l k=(false,l):=by unfold Zap;rw [if_pos (Or.inr (Or.inr hc))]
   rw [e] at hh
   unfold Zk at ih ⊢
   have hr:=ZbA l
   have hn:=fun ρ=>Zbl ρ l
   generalize Zb l=M at *
   unfold Zd1 at ih ⊢
   rw [ZbH]
   simp -implicitDefEqProofs only [EQA,Z7,Zaf,Zaa,Zah,Zak,Zaj,Zal,Zab,Z9,Zam,Zad,Z5,Zag,Z8,Zai,implies_true,forall_const,Nat.reduceAdd,Nat.reduceSub,Nat.reduceLT,Nat.reduceLeDiff,Nat.reduceEqDiff,Nat.reduceBEq,Nat.reduceMul,ZU,ZY,unA,ZE,ZI,unG,reduceCtorEq,Zr,decide_eq_true_eq,Bool.not_eq_true,Bool.decide_eq_true,ite_self,↓reduceIte,ZH,ZV,gcT,gcA,Zy,Zm,Zf,Zj,ZD,Zd,Zz,Zp,ZF,List.range_succ,Zfj,ZdA,ZeN,ZeR,Zdd,ZeA,Zdj,oI,oN,Zan,Z4,Z6,Z3,Z2,Z0,h2,hh,hw,hr,hn]
   exact ih
  | false =>
   rw [if_neg (by simp)]
   have e:Zap l k=(true,l++[k]):=by unfold Zap;rw [if_neg (by rintro (h | h | h);omega;omega;rw [hc] at h;cases h)]
   rw [e] at hh
   have ho:=ZbL (r:=.tup [.int .i64 k,.bool true]) rfl (l++[k])
   unfold Zk at ho ⊢
   have hr:=ZbA l
   have hn:=fun ρ=>Zbl ρ l
   generalize Zb (l++[k])=M2 at *
   generalize Zb l=M at *
   unfold Zd1
   rw [ZbH]
   simp -implicitDefEqProofs only [EQA,Z7,Zaf,Zaa,Zah,Zak,Zaj,Zal,Zab,Z9,Zam,Zad,Z5,Zag,Z8,Zai,implies_true,forall_const,Nat.reduceAdd,Nat.reduceSub,Nat.reduceLT,Nat.reduceLeDiff,Nat.reduceEqDiff,Nat.reduceBEq,Nat.reduceMul,ZU,ZY,unA,ZE,ZI,unG,reduceCtorEq,Zr,decide_eq_true_eq,Bool.not_eq_true,Bool.decide_eq_true,ite_self,↓reduceIte,ZH,ZV,gcT,gcA,Zy,Zm,Zf,Zj,ZD,Zd,Zz,Zp,ZF,List.range_succ,Zfj,ZdA,ZeN,ZeR,Zdd,ZeA,Zdj,oI,oN,Zan,Z4,Z6,Z3,Z2,Z0,h2,hh,hw,hr,hn,ho]
theorem ZtC (l:List Int):E 10 [.ref 0 0] (Zk l)=some (.tup [.int .i64 (ZbF l).1.1,.bool (ZbF l).1.2],Zk (ZbF l).2):=by
 have h:=Zjs l 65535 1 (by decide) (by decide)
 unfold ZbF
 generalize ZbB l 65535 1=R at *
 have hr:=ZbA l
 have hn:=fun ρ=>Zbl ρ l
 unfold Zk at h ⊢
 generalize Zb l=M at *
 unfold Zd1 at h
 rw [Zb1 (by rfl) ZtX]
 simp -implicitDefEqProofs only [EQA,Z7,Zaf,Zaa,Zah,Zak,Zaj,Zal,Zab,Z9,Zam,Zad,Z5,Zag,Z8,Zai,implies_true,forall_const,Nat.reduceAdd,Nat.reduceSub,Nat.reduceLT,Nat.reduceLeDiff,Nat.reduceEqDiff,Nat.reduceBEq,Nat.reduceMul,ZU,ZY,unA,ZE,ZI,unG,reduceCtorEq,Zr,decide_eq_true_eq,Bool.not_eq_true,Bool.decide_eq_true,ite_self,↓reduceIte,ZH,ZV,gcT,gcA,Zy,Zm,Zf,Zj,ZD,Zd,Zz,Zp,ZF,List.range_succ,Zfj,ZdA,ZeN,ZeR,Zdd,ZeA,Zdj,oI,oN,Zan,Z4,Z6,Z3,Z2,Z0,hr,hn]
 exact h
theorem ZeE (l:List Int) {σ:Za} {t m sq own:Nat} {view:Bool} (htm:t≠m) (hs:σ[t]?=some (.var [.map m])) (hm:σ[m]?=some (.map (Zb l))) (hff:ZaH σ sq own=true) :
  Zx E BY σ sq 10 own view [.ref t 0]=some (.tup [.int .i64 (ZbF l).1.1,.bool (ZbF l).1.2],(σ.set t (.var [.map m])).set m (.map (Zb (ZbF l).2)),{ any:=true,upd:=[(t,[.map m])] }) :=
 Zel (O:=E) (args:=[]) rfl rfl (ZtC l) (by kernel_rfl) rfl rfl htm hs hm hff
end
end Go.Proofs.Ytcgndmenpdhjcaa
