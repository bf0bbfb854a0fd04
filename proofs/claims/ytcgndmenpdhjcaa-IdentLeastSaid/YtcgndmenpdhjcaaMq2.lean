/- packed -/
import Derived.Test.YtcgndmenpdhjcaaMq1
import Derived.Scope
import Derived.Laws.Cover3
import Derived.Defers
import Derived.Recover
import Derived.Tactics
import Derived.Maps.RangeRun
import Derived.Sort.Row
import Derived.Sort.Grow
import Derived.Test.YtcgndmenpdhjcaaProg
import Derived.Deep.Slices
import Derived.ChangeArms
import Derived.WideShapes
import GoSem.ClaimChange
import Derived.Shelf.Sort.Plain
import Derived.Shelf.Slices.In.SortNone
set_option linter.defProp false
set_option linter.unusedSectionVars false
set_option linter.unusedSimpArgs false
set_option linter.unusedVariables false
namespace Go.Proofs.Ytcgndmenpdhjcaa
set_option maxHeartbeats 16000000
set_option maxRecDepth 10000
section
open Go.RowKit
section
variable {P:Program} {O:Zp} {bf:Nat->Bool} {an:Ann} {base:Nat->Prop} {w0:World} {I0:Imm} {dr:Door}
theorem Zun {o:AOp} {tm tm1:Tms} {σ σ1:Za} {sq:Nat} {v:AVal} {c:Cls} (ht:o.ins.touches=false) (h:Zi O bf o sq tm σ=some (v,tm1,σ1,c)):c={}:=by
 unfold Zi at h
 split at h
 ·cases h
 ·simp only [Option.some.injEq,Prod.mk.injEq] at h;exact h.2.2.2.symm
 ·split at h
  ·split at h
   ·rename_i he
    simp only [Option.some.injEq,Prod.mk.injEq] at h
    rw [<-h.2.2.2]
    exact (Zmp ht he).1
   ·cases h
  ·cases h
theorem ZeI {i:Ins} (h:i.touches=false):nsite i=0:=by cases i <;> simp [Ins.touches] at h <;> rfl
theorem Zd0 {asl:List AOp} {L:Nat} {cs:List Cls}:∀ {l:List Nat} {tm tm':Tms} {σ σ':Za},Zbw O bf asl L cs l tm σ tm' σ'->∀ j ∈ l,(asl.getD j default).ins.touches=false->cs.getD j {}={}
 | [],_,_,_,_,_,j,hj,_=>by simp at hj
 | i::l,_,_,_,_,h,j,hj,ht=>by
  cases h with
  | cons h1 _ h2 =>
   rcases List.mem_cons.1 hj with rfl | hj
   ·exact Zun ht h1
   ·exact Zd0 h2 j hj ht
theorem Zd5 (asl:List AOp):∀ {j i:Nat},j < i->i<=asl.length->sitesOf (asl.take j)+nsite (asl.getD j default).ins<=sitesOf (asl.take i):=by
 intro j i hji hi
 induction i with
 | zero=>omega
 | succ i ih =>
  rw [ZgY asl (by omega)]
  by_cases e:j=i
  ·subst e
   simp [List.getD_eq_getElem?_getD,show j < asl.length by omega]
  ·have:=ih (by omega) (by omega);omega
theorem Znq (hO:ZK P O) (hkp:∀ n ∈ dr.K,n ∈ an.keep) (hb:KLt base w0) {ops:Array Oper} {asl:List AOp} (hcomp:Za5 P an ops ops.toList=some asl) {ps:List (Nat×Nat)} (hps:Zcx asl=some ps) {L:Nat} {cs:List Cls} (hchk:ZbS asl L ps cs=true)
  {tmF:Tms} {σF:Za} {Q:Exit->Act->World->Prop} {I:Imm} {β:Bmap} (hQ:∀ a' w',StR dr an.nt base w0 I0 I β tmF σF a' w'->Q .normal a' w') :
  ∀ (fuel:Nat) (rem:List Nat) (listed:Array Bool) (a:Act) (w:World) (tm:Tms) (σ:Za),Zbw O bf asl L cs rem tm σ tmF σF->rem.Pairwise (· < ·)->(∀ j ∈ rem,j < ops.size)->(∀ j,j < ops.size->(listed.getD j true=true↔j ∉ rem))->listed.size=ops.size ->
   (∀ k,k < ops.size->k ∉ rem->∀ p ∈ (ZaQ (asl.map (·.after)) []).getD k [],p ∉ rem)->rem.length=fuel->StR dr an.nt base w0 I0 I β tm σ a w->wpAny P .any ops Q fuel listed a w:=by
 obtain ⟨hlen,hget⟩:=Zev hcomp
 obtain ⟨hp1,hp2⟩:=ZjI hps
 obtain ⟨_,_,hanc⟩:=Zgp (asl.map (·.after)) [] (fun _ _ _=>trivial)
 simp only [Array.length_toList] at hlen
 have hafter:∀ j o,ops[j]?=some o->∃ ao,asl.getD j default=ao/\Zdr P an ops o=some ao/\ao.after=(o.after.toList.filter (Region.binds .any)).map (·.on)/\ao.dst=o.dst:=by
  intro j o ho
  obtain ⟨ao,h1,h2⟩:=hget j o (by simpa using ho)
  refine ⟨ao,by simp [List.getD_eq_getElem?_getD,h1],h2,?_⟩
  obtain ⟨g,i,_,_,_,rfl⟩:=ZhC h2
  exact ⟨rfl,rfl⟩
 intro fuel
 induction fuel with
 | zero =>
  intro rem listed a w tm σ hr hs hlt hl hsz hcl hfl hst
  have : rem=[]:=List.eq_nil_of_length_eq_zero hfl
  subst this
  cases hr
  refine ⟨?_,hQ a w hst⟩
  apply List.eq_nil_iff_forall_not_mem.2
  intro j hj
  rw [mem_ready] at hj
  obtain ⟨h1,o,ho,_⟩:=hj
  have hjl:j < ops.size:=(Array.getElem?_eq_some_iff.1 ho).1
  have:=(hl j hjl).2 (by simp)
  rw [h1] at this;cases this
 | succ fuel ih =>
  intro rem listed a w tm σ hr hs hlt hl hsz hcl hfl hst
  have isRem:∀ j,j < ops.size->listed.getD j true=false->j ∈ rem:=by
   intro j hj h
   by_cases hm:j ∈ rem
   ·exact hm
   ·have:=(hl j hj).2 hm;rw [h] at this;cases this
  have getD_tf:∀ j,j < ops.size->listed.getD j false=listed.getD j true:=by
   intro j hj
   simp [Array.getD,hsz,hj]
  refine ⟨fun hnil=>?_,fun i hi=>?_⟩
  ·exfalso
   cases rem with
   | nil=>simp at hfl
   | cons r rs =>
    have hrl:r < ops.size:=hlt r (by simp)
    have hro:ops[r]?=some ops[r]:=by simp [hrl]
    obtain ⟨ao,e1,e2,e3,_⟩:=hafter r _ hro
    have : r ∈ Region.ready .any ops listed:=by
     rw [mem_ready]
     refine ⟨?_,ops[r],hro,fun e he hbnd=>?_⟩
     ·cases hq:listed.getD r true with
      | false=>rfl
      | true=>exact absurd (List.mem_cons_self) ((hl r hrl).1 hq)
     ·have hon:e.on ∈ ao.after:=by rw [e3];exact List.mem_map.2 ⟨e,List.mem_filter.2 ⟨by simpa using he,hbnd⟩,rfl⟩
      have hlt':e.on < r:=hp2 r (by omega) e.on (by rw [e1];exact hon)
      rw [getD_tf _ (by omega)]
      refine (hl e.on (by omega)).2 (fun hm=>?_)
      rcases List.mem_cons.1 hm with h | hm
      ·omega
      ·have:=(List.pairwise_cons.1 hs).1 e.on hm;omega
    rw [hnil] at this;simp at this
  ·rw [mem_ready] at hi
   obtain ⟨hi0,o,ho,hpre⟩:=hi
   have hil:i < ops.size:=(Array.getElem?_eq_some_iff.1 ho).1
   have him:=isRem i hil hi0
   obtain ⟨l1,l2,rfl⟩:=List.append_of_mem him
   obtain ⟨ao,e1,e2,e3,e4⟩:=hafter i o ho
   have hdone:∀ p ∈ (asl.getD i default).after,p < ops.size->p ∉ l1++i::l2:=by
    intro p hp hpl
    rw [e1,e3] at hp
    obtain ⟨e,he,rfl⟩:=List.mem_map.1 hp
    obtain ⟨he1,he2⟩:=List.mem_filter.1 he
    have:=hpre e (by simpa using he1) he2
    rw [getD_tf _ hpl] at this
    exact (hl e.on hpl).1 this
   have hai:(asl.map (·.after)).getD i []=(asl.getD i default).after:=by
    simp [List.getD_eq_getElem?_getD,show i < asl.length by omega]
   have hanci:∀ p ∈ (ZaQ (asl.map (·.after)) []).getD i [],p ∉ l1++i::l2:=by
    intro p hp
    have hap:∀ q,q ∈ (asl.map (·.after)).getD i []->q < i:=fun q hq=>hp2 i (by omega) q (by rw [<-hai];exact hq)
    rcases hanc i (by simp;omega) p (by simpa using hp) with h | ⟨q,h1,h2,h3⟩
    ·exact hdone p (by rw [<-hai];exact h) (by have:=hap p h;omega)
    ·have hql:q < ops.size:=by simp at h2;omega
     exact hcl q hql (hdone q (by rw [<-hai];exact h1) hql) p h3
   have hl1:∀ j ∈ l1,j < i:=by
    intro j hj
    have:=List.pairwise_append.1 hs
    exact this.2.2 j hj i (by simp)
   obtain ⟨v1,tm1,σ1,h1,hnp1,h2⟩:=Zgl (l1:=l1) (i:=i) (fun j hj=>by
    have hji:=hl1 j hj
    have hjn:j ∉ (ZaQ (asl.map (·.after)) []).getD i []:=fun hm=>hanci j hm (by simp [hj])
    obtain ⟨p1,p2⟩:=hp1 j i hji (by omega) hjn
    refine ⟨p1,?_,fun hn _=>?_,?_⟩
    ·rcases p2 with p2 | p2 | p2
     ·have:=Zd0 hr j (by simp [hj]) p2
      have hem:ZaT (asl.getD j default) (cs.getD j {})=true:=by rw [this];simp only [ZaT,ZeI p2];rfl
      simp only [Zbj,hem,Bool.true_or]
     ·have:=Zd0 hr i (by simp) p2
      have hem:ZaT (asl.getD i default) (cs.getD i {})=true:=by rw [this];simp only [ZaT,ZeI p2];rfl
      simp only [Zbj,hem,Bool.true_or,Bool.or_true]
     ·have:=List.all_eq_true.1 hchk (j,i) p2
      simp only [Bool.or_eq_true,beq_iff_eq] at this
      rcases this with h | h
      ·omega
      ·exact h
    ·have:=Zd5 asl hji (by omega)
     omega
    ·have:=Zd5 asl hji (by omega)
     omega) hr
   unfold wpOp
   rw [ho]
   rw [e1] at h1
   obtain ⟨I',β',g1,g2,g3,g4,g5⟩:=hst
   refine Zd8 hO hkp e2 g3 g4 g5 hb h1 (fun _ a' w' hs'=>ih (l1++l2) _ a' w' tm1 σ1 h2 ?_ ?_ ?_ (by simpa using hsz) ?_ ?_ (hs'.trans g1 g2)) (fun x e=>absurd e (hnp1 x))
   ·have:=List.pairwise_append.1 hs
    exact List.pairwise_append.2 ⟨this.1,(List.pairwise_cons.1 this.2.1).2,fun x hx y hy=>this.2.2 x hx y (by simp [hy])⟩
   ·intro j hj
    refine hlt j ?_
    simp only [List.mem_append,List.mem_cons] at hj ⊢
    rcases hj with h | h
    ·exact Or.inl h
    ·exact Or.inr (Or.inr h)
   ·intro j hj
    have hs1:=List.pairwise_append.1 hs
    by_cases hij:i=j
    ·subst hij
     have hn:i ∉ l1++l2:=by
      intro hm
      rcases List.mem_append.1 hm with h | h
      ·have:=hl1 i h;omega
      ·have:=(List.pairwise_cons.1 hs1.2.1).1 i h;omega
     simp [Array.getD,hsz,hil,hn]
    ·rw [getD_set_ne true hij,hl j hj]
     simp only [List.mem_append,List.mem_cons,not_or]
     constructor
     ·rintro ⟨a1,_,a3⟩;exact ⟨a1,a3⟩
     ·rintro ⟨a1,a3⟩;exact ⟨a1,fun e=>hij e.symm,a3⟩
   ·intro k hk hkn p hp hm
    have hsub:p ∈ l1++i::l2:=by
     simp only [List.mem_append,List.mem_cons] at hm ⊢
     rcases hm with h | h
     ·exact Or.inl h
     ·exact Or.inr (Or.inr h)
    by_cases hki:k=i
    ·subst hki;exact hanci p hp hsub
    ·refine hcl k hk (fun hkm=>hkn ?_) p hp hsub
     simp only [List.mem_append,List.mem_cons] at hkm ⊢
     rcases hkm with h | h | h
     ·exact Or.inl h
     ·exact absurd h hki
     ·exact Or.inr h
   ·simp at hfl ⊢;omega
theorem ZrH (hO:ZK P O) (hkp:∀ n ∈ dr.K,n ∈ an.keep) (hb:KLt base w0) {ops:Array Oper} {asl:List AOp} (hcomp:Za5 P an ops ops.toList=some asl) {ps:List (Nat×Nat)} (hps:Zcx asl=some ps) {L:Nat} {cs:List Cls} {jp:Nat} (hjl:jp < ops.size) (hmark:(jp,jp) ∈ ps) (hmarkT:(asl.getD jp default).ins.touches=true) (hfree:∀ j i,(j,i) ∈ ps->j < i->i<=jp->Zbj (asl.getD j default) (asl.getD i default) (cs.getD j {}) (cs.getD i {}) (L+sitesOf (asl.take j))=true) (hquiet:∀ j,(j,jp) ∈ ps->j < jp->Zb9 (asl.getD j default).ins=true)
  {x:AVal} {σF:Za} {Q:Exit->Act->World->Prop} {I:Imm} {β:Bmap} (hQ:∀ a' u w',dr.ok a'->Post base w0 I0 I β x σF u w'->Q (.panic [{ v:=u,recovered:=false }]) a' w') :
  ∀ (fuel:Nat) (pre post:List Nat) (listed:Array Bool) (a:Act) (w:World) (tm tmJ tmX:Tms) (σ σJ:Za),Zbw O bf asl L cs pre tm σ tmJ σJ->Zi O bf (asl.getD jp default) (L+sitesOf (asl.take jp)) tmJ σJ=some (.pan x,tmX,σF,cs.getD jp {})->(pre++jp::post).Pairwise (· < ·)->(∀ j ∈ pre++jp::post,j < ops.size)->(∀ j,j < ops.size->(listed.getD j true=true↔j ∉ pre++jp::post))->listed.size=ops.size ->
   (∀ k,k < ops.size->k ∉ pre++jp::post->∀ p ∈ (ZaQ (asl.map (·.after)) []).getD k [],p ∉ pre++jp::post)->(pre++jp::post).length=fuel->StR dr an.nt base w0 I0 I β tm σ a w->wpAny P .any ops Q fuel listed a w:=by
 obtain ⟨hlen,hget⟩:=Zev hcomp
 obtain ⟨hp1,hp2⟩:=ZjI hps
 have hmk:=Zo4 hps hmark
 obtain ⟨_,_,hanc⟩:=Zgp (asl.map (·.after)) [] (fun _ _ _=>trivial)
 simp only [Array.length_toList] at hlen
 have hafter:∀ j o,ops[j]?=some o->∃ ao,asl.getD j default=ao/\Zdr P an ops o=some ao/\ao.after=(o.after.toList.filter (Region.binds .any)).map (·.on)/\ao.dst=o.dst:=by
  intro j o ho
  obtain ⟨ao,h1,h2⟩:=hget j o (by simpa using ho)
  refine ⟨ao,by simp [List.getD_eq_getElem?_getD,h1],h2,?_⟩
  obtain ⟨g,i,_,_,_,rfl⟩:=ZhC h2
  exact ⟨rfl,rfl⟩
 intro fuel
 induction fuel with
 | zero =>
  intro pre post listed a w tm tmJ tmX σ σJ hr hj hs hlt hl hsz hcl hfl hst
  simp at hfl
 | succ fuel ih =>
  intro pre post listed a w tm tmJ tmX σ σJ hr hj hs hlt hl hsz hcl hfl hst
  have getD_tf:∀ j,j < ops.size->listed.getD j false=listed.getD j true:=by
   intro j hj
   simp [Array.getD,hsz,hj]
  have isRem:∀ j,j < ops.size->listed.getD j true=false->j ∈ pre++jp::post:=by
   intro j hj h
   by_cases hm:j ∈ pre++jp::post
   ·exact hm
   ·have:=(hl j hj).2 hm;rw [h] at this;cases this
  refine ⟨fun hnil=>?_,fun i hi=>?_⟩
  ·exfalso
   obtain ⟨r,rs,hrr⟩:∃ r rs,pre++jp::post=r::rs:=by cases pre <;> simp
   rw [hrr] at hs hlt hl
   have hrl:r < ops.size:=hlt r (by simp)
   have hro:ops[r]?=some ops[r]:=by simp [hrl]
   obtain ⟨ao,e1,e2,e3,_⟩:=hafter r _ hro
   have : r ∈ Region.ready .any ops listed:=by
    rw [mem_ready]
    refine ⟨?_,ops[r],hro,fun e he hbnd=>?_⟩
    ·cases hq:listed.getD r true with
     | false=>rfl
     | true=>exact absurd (List.mem_cons_self) ((hl r hrl).1 hq)
    ·have hon:e.on ∈ ao.after:=by rw [e3];exact List.mem_map.2 ⟨e,List.mem_filter.2 ⟨by simpa using he,hbnd⟩,rfl⟩
     have hlt':e.on < r:=hp2 r (by omega) e.on (by rw [e1];exact hon)
     rw [getD_tf _ (by omega)]
     refine (hl e.on (by omega)).2 (fun hm=>?_)
     rcases List.mem_cons.1 hm with h | hm
     ·omega
     ·have:=(List.pairwise_cons.1 hs).1 e.on hm;omega
   rw [hnil] at this;simp at this
  ·rw [mem_ready] at hi
   obtain ⟨hi0,o,ho,hpre⟩:=hi
   have hil:i < ops.size:=(Array.getElem?_eq_some_iff.1 ho).1
   have him:=isRem i hil hi0
   obtain ⟨ao,e1,e2,e3,e4⟩:=hafter i o ho
   have hdone:∀ p ∈ (asl.getD i default).after,p < ops.size->p ∉ pre++jp::post:=by
    intro p hp hpl
    rw [e1,e3] at hp
    obtain ⟨e,he,rfl⟩:=List.mem_map.1 hp
    obtain ⟨he1,he2⟩:=List.mem_filter.1 he
    have:=hpre e (by simpa using he1) he2
    rw [getD_tf _ hpl] at this
    exact (hl e.on hpl).1 this
   have hai:(asl.map (·.after)).getD i []=(asl.getD i default).after:=by
    simp [List.getD_eq_getElem?_getD,show i < asl.length by omega]
   have hanci:∀ p ∈ (ZaQ (asl.map (·.after)) []).getD i [],p ∉ pre++jp::post:=by
    intro p hp
    have hap:∀ q,q ∈ (asl.map (·.after)).getD i []->q < i:=fun q hq=>hp2 i (by omega) q (by rw [<-hai];exact hq)
    rcases hanc i (by simp;omega) p (by simpa using hp) with h | ⟨q,h1,h2,h3⟩
    ·exact hdone p (by rw [<-hai];exact h) (by have:=hap p h;omega)
    ·have hql:q < ops.size:=by simp at h2;omega
     exact hcl q hql (hdone q (by rw [<-hai];exact h1) hql) p h3
   have hss:=List.pairwise_append.1 hs
   rw [List.mem_append,List.mem_cons] at him
   rcases him with him | hij | him
   ·obtain ⟨l1,l2,rfl⟩:=List.append_of_mem him
    have hl1:∀ j ∈ l1,j < i:=by
     intro j hj
     exact (List.pairwise_append.1 hss.1).2.2 j hj i (by simp)
    have hijp:i < jp:=hss.2.2 i (by simp) jp (by simp)
    obtain ⟨v1,tm1,σ1,h1,hnp1,h2⟩:=Zgl (l1:=l1) (i:=i) (fun j hj'=>by
     have hji:=hl1 j hj'
     have hjn:j ∉ (ZaQ (asl.map (·.after)) []).getD i []:=fun hm=>hanci j hm (by simp [hj'])
     obtain ⟨p1,p2⟩:=hp1 j i hji (by omega) hjn
     refine ⟨p1,?_,fun hn _=>?_,?_⟩
     ·rcases p2 with p2 | p2 | p2
      ·have:=Zd0 hr j (by simp [hj']) p2
       have hem:ZaT (asl.getD j default) (cs.getD j {})=true:=by rw [this];simp only [ZaT,ZeI p2];rfl
       simp only [Zbj,hem,Bool.true_or]
      ·have:=Zd0 hr i (by simp) p2
       have hem:ZaT (asl.getD i default) (cs.getD i {})=true:=by rw [this];simp only [ZaT,ZeI p2];rfl
       simp only [Zbj,hem,Bool.true_or,Bool.or_true]
      ·exact hfree j i p2 hji (by omega)
     ·have:=Zd5 asl hji (by omega)
      omega
     ·have:=Zd5 asl hji (by omega)
      omega) hr
    have eA:(l1++i::l2)++jp::post=l1++i::(l2++jp::post):=by simp
    have eB:(l1++l2)++jp::post=l1++(l2++jp::post):=by simp
    rw [eA] at hs hlt hl hcl hanci hfl
    unfold wpOp
    rw [ho]
    rw [e1] at h1
    obtain ⟨I',β',g1,g2,g3,g4,g5⟩:=hst
    refine Zd8 hO hkp e2 g3 g4 g5 hb h1 (fun _ a' w' hs'=>ih (l1++l2) post _ a' w' tm1 tmJ tmX σ1 σJ h2 hj ?_ ?_ ?_ (by simpa using hsz) ?_ ?_ (hs'.trans g1 g2)) (fun x e=>absurd e (hnp1 x))
    ·rw [eB]
     have:=List.pairwise_append.1 hs
     exact List.pairwise_append.2 ⟨this.1,(List.pairwise_cons.1 this.2.1).2,fun x hx y hy=>this.2.2 x hx y (by simp only [List.mem_cons];exact Or.inr hy)⟩
    ·intro j hj
     rw [eB] at hj
     refine hlt j ?_
     simp only [List.mem_append,List.mem_cons] at hj ⊢
     rcases hj with h | h | h | h
     ·exact Or.inl h
     ·exact Or.inr (Or.inr (Or.inl h))
     ·exact Or.inr (Or.inr (Or.inr (Or.inl h)))
     ·exact Or.inr (Or.inr (Or.inr (Or.inr h)))
    ·intro j hj
     rw [eB]
     generalize l2++jp::post=L2 at *
     have hs1:=List.pairwise_append.1 hs
     by_cases hij:i=j
     ·subst hij
      have hn:i ∉ l1++L2:=by
       intro hm
       rcases List.mem_append.1 hm with h | h
       ·have:=hl1 i h;omega
       ·have:=(List.pairwise_cons.1 hs1.2.1).1 i h;omega
      simp [Array.getD,hsz,hil,hn]
     ·rw [getD_set_ne true hij,hl j hj]
      simp only [List.mem_append,List.mem_cons,not_or]
      constructor
      ·rintro ⟨a1,_,a3⟩;exact ⟨a1,a3⟩
      ·rintro ⟨a1,a3⟩;exact ⟨a1,fun e=>hij e.symm,a3⟩
    ·intro k hk hkn p hp hm
     rw [eB] at hkn hm
     generalize l2++jp::post=L2 at *
     have hsub:p ∈ l1++i::L2:=by
      simp only [List.mem_append,List.mem_cons] at hm ⊢
      rcases hm with h | h
      ·exact Or.inl h
      ·exact Or.inr (Or.inr h)
     by_cases hki:k=i
     ·subst hki;exact hanci p hp hsub
     ·refine hcl k hk (fun hkm=>hkn ?_) p hp hsub
      simp only [List.mem_append,List.mem_cons] at hkm ⊢
      rcases hkm with h | h | h
      ·exact Or.inl h
      ·exact absurd h hki
      ·exact Or.inr h
    ·rw [eB];simp at hfl ⊢;omega
   ·subst hij
    have hl1:∀ j ∈ pre,j < i:=fun j hj=>hss.2.2 j hj i (by simp)
    obtain ⟨tm1,h1⟩:=Zjn (l1:=pre) (i:=i) (fun j hj'=>by
     have hji:=hl1 j hj'
     have hjn:j ∉ (ZaQ (asl.map (·.after)) []).getD i []:=fun hm=>hanci j hm (by simp [hj'])
     obtain ⟨p1,p2⟩:=hp1 j i hji (by omega) hjn
     have hts:(asl.getD i default).ins.touches=false->False:=fun h=>by
      have:=hmarkT
      rw [h] at this;cases this
     refine ⟨?_,p1,?_,fun hn _=>?_,?_⟩
     ·rcases p2 with p2 | p2 | p2
      ·exact Or.inl p2
      ·exact (hts p2).elim
      ·exact Or.inr (hquiet j p2 hji)
     ·rcases p2 with p2 | p2 | p2
      ·have:=Zd0 hr j hj' p2
       have hem:ZaT (asl.getD j default) (cs.getD j {})=true:=by rw [this];simp only [ZaT,ZeI p2];rfl
       simp only [Zbj,hem,Bool.true_or]
      ·exact (hts p2).elim
      ·exact hfree j i p2 hji (Nat.le_refl _)
     ·have:=Zd5 asl hji (by omega)
      omega
     ·have:=Zd5 asl hji (by omega)
      omega) hr hj
    unfold wpOp
    rw [ho]
    rw [e1] at h1
    obtain ⟨I',β',g1,g2,g3,g4,g5⟩:=hst
    refine Zd8 hO hkp e2 g3 g4 g5 hb h1 (fun hn=>absurd rfl (hn x)) (fun x' e u w' hp=>?_)
    injection e with e
    subst e
    exact hQ a u w' g4.1 (hp.trans g1 g2)
   ·exfalso
    have hlt2:jp < i:=(List.pairwise_cons.1 hss.2.1).1 i him
    exact hanci jp (hmk i hlt2 (by omega)) (by simp)
theorem Rel.reserve {I:Imm} {β:Bmap} {σ:Za} {w:World} (R:Rel base w0 I0 I β σ w) (n:Nat):Rel base w0 I0 I β (σ++List.replicate n .free) w:=by
 have look:∀ t x,(σ++List.replicate n Zu.free)[t]?=some x->σ[t]?=some x\/(σ.length<=t/\x=.free):=by
  intro t x h
  by_cases ht:t < σ.length
  ·rw [List.getElem?_append_left ht] at h;exact Or.inl h
  ·rw [List.getElem?_append_right (by omega)] at h
   refine Or.inr ⟨by omega,?_⟩
   have:=List.mem_of_getElem? h
   exact List.eq_of_mem_replicate this
 refine ⟨R.below,R.old,R.imm,?_,?_,?_,?_,?_,?_,R.glob⟩
 ·intro t x h
  rcases look t x h with h | ⟨_,rfl⟩
  ·exact R.blk t x h
  ·trivial
 ·intro t x b h hb
  rcases look t x h with h | ⟨_,rfl⟩
  ·exact R.own t x b h hb
  ·cases hb
 ·intro t x t' x' b h h' hb hb'
  rcases look t x h with h | ⟨_,rfl⟩
  ·rcases look t' x' h' with h' | ⟨_,rfl⟩
   ·exact R.apart t x t' x' b h h' hb hb'
   ·cases hb'
  ·cases hb
 ·intro t g h
  exact R.fresh t g (by simp at h;omega)
 ·intro t g h
  rcases look t _ h with h | ⟨h,_⟩
  ·exact R.free t g h
  ·exact R.fresh t g h
 ·intro t x g h hg
  rcases look t _ h with h | ⟨h,_⟩
  ·exact R.gen t x g h hg
  ·exact R.fresh t g h
theorem StR.keep {I:Imm} {β:Bmap} {tm:Tms} {σ:Za} {a:Act} {w:World} (h:StR dr an.nt base w0 I0 I β tm σ a w) (live:List Nat):StR dr an.nt base w0 I0 I β (keepL live tm) σ a w:=by
 obtain ⟨I',β',h1,h2,h3,h4⟩:=h
 exact ⟨I',β',h1,h2,h3.keep live,h4⟩
def ZlN (dr:Door) (an:Ann) (base:Nat->Prop) (w0:World) (I0 I:Imm) (β:Bmap) (e:Zad) (tm:Tms) (σ:Za) (Q:Exit->Act->World->Prop):Prop:=match e with
 | .normal=>∀ a w,StR dr an.nt base w0 I0 I β tm σ a w->Q .normal a w
 | .exit id=>∀ a w,StR dr an.nt base w0 I0 I β tm σ a w->Q (.exit id) a w
 | .ret=>∀ a w,StR dr an.nt base w0 I0 I β tm σ a w->Q .ret a w
 | .panic x=>∀ a u w,dr.ok a->Post base w0 I0 I β x σ u w->Q (.panic [{ v:=u,recovered:=false }]) a w
theorem Zu7 (hO:ZK P O) (hkp:∀ n ∈ dr.K,n ∈ an.keep) (hm:P.follows .mixedOrders=true) (hb:KLt base w0) {id:Nat} {ops:Array Oper} {draw:Bool} {asl:List AOp} {chk:Option (List (Nat×Nat))} {live:List Nat} (hc:Zae P an (.region id ops draw)=.region asl chk live) {I:Imm} {β:Bmap} {tm tm':Tms} {σ σ':Za} {a:Act} {w:World} {e:Zad}
  (hst:StR dr an.nt base w0 I0 I β tm σ a w) (h:Zbk O bf asl chk live tm σ=some (e,tm',σ')) {Q:Exit->Act->World->Prop} (hQ:ZlN dr an base w0 I0 I β e tm' σ' Q):(Code.region id ops draw).wp P Q a w:=by
 obtain ⟨I1,β1,g1,g2,g3,g4,g5⟩:=hst
 simp only [Zae] at hc
 split at hc
 ·rename_i l hl
  unfold Zbk at h
  split at hc
  ·rename_i hd
   subst hd
   split at hc
   ·rename_i ps hps
    simp only [Zg.region.injEq] at hc
    obtain ⟨rfl,rfl,rfl⟩:=hc
    cases hrun:Zo O bf l σ.length tm (σ++List.replicate (sitesOf l) .free) with
    | none=>rw [hrun] at h;simp only [Zcc] at h;cases h
    | some q =>
     obtain ⟨tm1,σ1,cs,p⟩:=q
     rw [hrun] at h
     cases p with
     | some x =>
      simp only [Zcc] at h
      split at h
      ·rename_i hpan
       simp only [Option.some.injEq,Prod.mk.injEq] at h
       obtain ⟨rfl,rfl,rfl⟩:=h
       have hlen:=(Zev hl).1
       simp only [Array.length_toList] at hlen
       obtain ⟨n,tmJ,σJ,tmX,q1,q2,q3,q4⟩:=Zif (O:=O) (bf:=bf) (ops:=l) (L:=σ.length) l.length 0 (cs:=cs) (cs':=cs) (by omega) (by simpa [sitesOf] using hrun) (fun j=>by simp)
       rw [Nat.zero_add] at q4
       unfold ZdK at hpan
       rw [q2] at hpan
       simp only [Bool.and_eq_true,List.any_eq_true,List.all_eq_true,Bool.or_eq_true,beq_iff_eq,decide_eq_true_eq,Nat.add_sub_cancel] at hpan
       obtain ⟨⟨pm,hpm,hm1,hm2⟩,hall⟩:=hpan
       have hmk:(n,n) ∈ ps:=by
        obtain ⟨a1,a2⟩:=pm
        simp only at hm1 hm2
        subst hm1 hm2
        exact hpm
       have hT:(l.getD n default).ins.touches=true:=ZmU hps hmk
       refine wp_region_any hm (ZrH hO hkp hb hl hps (jp:=n) (by omega) hmk hT (fun j i hji h1 h2=>?_) (fun j hj h1=>?_) (I:=I) (β:=β) (x:=x) (fun a' u w' hd' hp=>hQ a' u w' hd' hp) ops.size (List.range' 0 n) (List.range' (n+1) (l.length - n - 1)) _ a _ tm tmJ tmX _ σJ q3 q4 ?_ ?_ ?_ (by simp) ?_ (by simp;omega) ⟨I1,β1,g1,g2,g3,g4,(g5.reserve _).same rfl rfl rfl rfl⟩)
       ·rcases hall (j,i) hji with (h | h) | ⟨h,_⟩
        ·simp only at h;omega
        ·simp only at h;omega
        ·exact h
       ·rcases hall (j,n) hj with (h | h) | ⟨_,h⟩
        ·simp only at h;omega
        ·simp only at h;omega
        ·rcases h with h | h
         ·simp only at h;omega
         ·exact h
       ·have e:List.range' 0 n++n::List.range' (n+1) (l.length - n - 1)=List.range' 0 l.length:=by
         rw [<-List.range'_succ]
         have:=List.range'_append_1 (s:=0) (m:=n) (n:=l.length - n - 1+1)
         rw [Nat.zero_add] at this
         rw [this]
         congr 1
         omega
        rw [e];exact List.pairwise_lt_range'
       ·intro j hj;simp at hj;omega
       ·intro j hj
        simp [Array.getD,hj]
        omega
       ·intro k hk hkn
        exact absurd (by simp;omega) hkn
      ·cases h
     | none =>
      simp only [Zcc] at h
      split at h
      ·rename_i hchk
       simp only [Option.some.injEq,Prod.mk.injEq] at h
       obtain ⟨rfl,rfl,rfl⟩:=h
       have hlen:=(Zev hl).1
       simp only [Array.length_toList] at hlen
       have hr:=ZjW (O:=O) (bf:=bf) (ops:=l) (L:=σ.length) l.length 0 (cs:=cs) (cs':=cs) (by omega) (by simpa [sitesOf] using hrun) (fun j=>by simp)
       refine wp_region_any hm (Znq hO hkp hb hl hps hchk (I:=I) (β:=β) (fun a' w' hs=>hQ a' w' (hs.keep _)) ops.size (List.range' 0 l.length) _ a _ tm _ hr ?_ ?_ ?_ (by simp) ?_ (by simp [hlen]) ⟨I1,β1,g1,g2,g3,g4,(g5.reserve _).same rfl rfl rfl rfl⟩)
       ·exact List.pairwise_lt_range'
       ·intro j hj;simp at hj;omega
       ·intro j hj
        simp [Array.getD,hj,hlen]
       ·intro k hk hkn
        exact absurd (by simp;omega) hkn
      ·cases h
   ·cases hc
  ·rename_i hd
   simp only [Zg.region.injEq] at hc
   obtain ⟨rfl,rfl,rfl⟩:=hc
   have hdf:draw=false:=by cases draw <;> simp_all
   subst hdf
   cases hrun:Zo O bf l σ.length tm (σ++List.replicate (sitesOf l) .free) with
   | none=>rw [hrun] at h;simp only [Zcc] at h;cases h
   | some q =>
    obtain ⟨tm1,σ1,cs,p⟩:=q
    rw [hrun] at h
    cases p with
    | none =>
     simp only [Zcc,Option.some.injEq,Prod.mk.injEq] at h
     obtain ⟨rfl,rfl,rfl⟩:=h
     exact wp_region_list (ZhN hO hkp hb hl g3 g4 (g5.reserve _) hrun (fun _ a' w' hs=>hQ a' w' ((hs.trans g1 g2).keep _)) (fun x hx=>by cases hx))
    | some x =>
     simp only [Zcc,Option.some.injEq,Prod.mk.injEq] at h
     obtain ⟨rfl,rfl,rfl⟩:=h
     exact wp_region_list (ZhN hO hkp hb hl g3 g4 (g5.reserve _) hrun (fun hx=>by cases hx) (fun x' hx a' u w' hd' hp=>by
      injection hx with hx;subst hx
      exact hQ a' u w' hd' (hp.trans g1 g2)))
 ·cases hc
end
end
section
open Go.RowKit
section
variable {P:Program} {O:Zp} {bf:Nat->Bool} {an:Ann} {base:Nat->Prop} {w0:World} {I0:Imm} {dr:Door}
def StF (dr:Door) (m nt:Nat) (base:Nat->Prop) (w0:World) (I0 I:Imm) (β:Bmap) (tm:Tms) (σ:Za) (a:Act) (w:World):Prop :=
 ∃ I' β',I.le I'/\KeptE m β β'/\TR I' β' tm a.tmps/\(dr.ok a/\nt<=a.tmps.size)/\Rel base w0 I0 I' β' σ w
def ZmZ (dr:Door) (m:Nat) (an:Ann) (base:Nat->Prop) (w0:World) (I0 I:Imm) (β:Bmap) (e:Zad) (tm:Tms) (σ:Za) (Q:Exit->Act->World->Prop):Prop:=match e with
 | .normal=>∀ a w,StF dr m an.nt base w0 I0 I β tm σ a w->Q .normal a w
 | .exit id=>∀ a w,StF dr m an.nt base w0 I0 I β tm σ a w->Q (.exit id) a w
 | .ret=>∀ a w,StF dr m an.nt base w0 I0 I β tm σ a w->Q .ret a w
 | .panic x=>∀ a u w,dr.ok a->Zba m base w0 I0 I β (.pan x) σ u w->Q (.panic [{ v:=u,recovered:=false }]) a w
theorem StF.cond {m:Nat} {I:Imm} {β:Bmap} {tm:Tms} {σ:Za} {a:Act} {w:World} (h:StF dr m an.nt base w0 I0 I β tm σ a w) {c:Operand} {y:Opd} (hc:ZB c=some y) {b:Bool} (hv:y.ev tm=.bool b):a.eval c=.bool b:=by
 obtain ⟨I',β',_,_,T,_,_⟩:=h
 have:=ZE T hc
 rw [hv] at this
 simpa only [VR] using this
theorem Zfy (hO:ZK P O) (hkp:∀ n ∈ dr.K,n ∈ an.keep) (hm:P.follows .mixedOrders=true) (hb:KLt base w0) (m n:Nat):∀ {c:Code} {ac:Zg},Zae P an c=ac->∀ {I:Imm} {β:Bmap} {tm tm':Tms} {σ σ':Za} {a:Act} {w:World} {e:Zad},StF dr m an.nt base w0 I0 I β tm σ a w->Zr O bf m n ac tm σ=some (e,tm',σ') ->
  ∀ {Q:Exit->Act->World->Prop},ZmZ dr m an base w0 I0 I β e tm' σ' Q->c.wp P Q a w:=by
 intro c
 induction c with
 | skip =>
  intro ac hc I β tm tm' σ σ' a w e hst h Q hQ
  simp only [Zae] at hc;subst hc
  simp only [Zr,Option.some.injEq,Prod.mk.injEq] at h
  obtain ⟨rfl,rfl,rfl⟩:=h
  exact wp_skip (hQ a w hst)
 | region id ops draw =>
  intro ac hc I β tm tm' σ σ' a w e hst h Q hQ
  obtain ⟨asl,chk,live,rfl⟩:∃ asl chk live,ac=.region asl chk live:=by
   simp only [Zae] at hc
   split at hc
   ·split at hc
    ·split at hc
     ·exact ⟨_,_,_,hc.symm⟩
     ·subst hc;simp only [Zr] at h;cases h
    ·exact ⟨_,_,_,hc.symm⟩
   ·subst hc;simp only [Zr] at h;cases h
  simp only [Zr] at h
  obtain ⟨I1,β1,g1,g2,g3,g4,g5⟩:=hst
  have up:∀ {tm:Tms} {σ:Za} {a':Act} {w':World},StR dr an.nt base w0 I0 I1 β1 tm σ a' w'->StF dr m an.nt base w0 I0 I β tm σ a' w':=by
   rintro tm σ a' w' ⟨I2,β2,k1,k2,k3⟩
   exact ⟨I2,β2,g1.trans k1,g2.trans (KeptE.of_le k2),k3⟩
  refine Zu7 hO hkp hm hb hc (⟨I1,β1,Imm.le.refl I1,Bmap.le.refl β1,g3,g4,g5⟩:StR dr an.nt base w0 I0 I1 β1 tm σ a w) h ?_
  cases e with
  | normal=>exact fun a' w' hs=>hQ a' w' (up hs)
  | exit id=>exact fun a' w' hs=>hQ a' w' (up hs)
  | ret=>exact fun a' w' hs=>hQ a' w' (up hs)
  | panic x =>
   rintro a' u w' hd ⟨I2,β2,k1,k2,k3,k4⟩
   exact hQ a' u w' hd ⟨I2,β2,g1.trans k1,g2.trans (KeptE.of_le k2),k3,k4⟩
 | seq x y ihx ihy =>
  intro ac hc I β tm tm' σ σ' a w e hst h Q hQ
  simp only [Zae] at hc
  subst hc
  simp only [Zr] at h
  refine wp_seq ?_
  split at h
  ·rename_i tm1 σ1 h1
   exact ihx rfl hst h1 (fun a' w' hs=>ihy rfl hs h hQ)
  ·rename_i hne
   refine ihx rfl hst h ?_
   cases e with
   | normal=>exact absurd h (hne _ _)
   | exit id=>exact hQ
   | ret=>exact hQ
   | panic x=>exact hQ
 | cond c x y ihx ihy =>
  intro ac hc I β tm tm' σ σ' a w e hst h Q hQ
  simp only [Zae] at hc
  split at hc
  ·rename_i c' hcc
   subst hc
   simp only [Zr] at h
   split at h
   ·rename_i hv
    exact wp_cond_true (hst.cond hcc hv) (ihx rfl hst h hQ)
   ·rename_i hv
    exact wp_cond_false (hst.cond hcc hv) (ihy rfl hst h hQ)
   ·cases h
  ·subst hc;simp only [Zr] at h;cases h
 | block id x ih =>
  intro ac hc I β tm tm' σ σ' a w e hst h Q hQ
  simp only [Zae] at hc
  subst hc
  have hx:Zae P an x=Zae P an x:=rfl
  simp only [Zr] at h
  refine wp_block ?_
  split at h
  ·rename_i i tm1 σ1 h1
   refine ih hx hst h1 ?_
   intro a' w' hs
   simp only [Exit.inBlock]
   split at h
   ·rename_i hid
    simp only [Option.some.injEq,Prod.mk.injEq] at h
    obtain ⟨rfl,rfl,rfl⟩:=h
    rw [if_pos hid]
    exact hQ a' w' hs
   ·rename_i hid
    simp only [Option.some.injEq,Prod.mk.injEq] at h
    obtain ⟨rfl,rfl,rfl⟩:=h
    rw [if_neg hid]
    exact hQ a' w' hs
  ·rename_i hne
   refine ih hx hst h ?_
   cases e with
   | normal=>exact hQ
   | exit id=>exact absurd h (hne _ _ _)
   | ret=>exact hQ
   | panic x=>exact hQ
 | loop x ih =>
  intro ac hc I β tm tm' σ σ' a w e hst h Q hQ
  simp only [Zae] at hc
  subst hc
  have hx:Zae P an x=Zae P an x:=rfl
  simp only [Zr] at h
  refine wp_loop_rounds n ?_
  have key:∀ k {tm:Tms} {σ:Za} {a:Act} {w:World},StF dr m an.nt base w0 I0 I β tm σ a w->ZbU m (an.ll (ZcD x)) (Zr O bf m n (Zae P an x)) k tm σ=some (e,tm',σ')->Code.rounds P x Q k a w:=by
   intro k
   induction k with
   | zero=>intro tm σ a w _ h;simp only [ZbU] at h;cases h
   | succ k ihk =>
    intro tm σ a w hst h
    rw [rounds_succ]
    simp only [ZbU] at h
    obtain ⟨I1,β1,k1,k2,k3,k4,k5⟩:=hst
    obtain ⟨β2,q1,q2,q3⟩:=ZhD k5 (k3.keep (an.ll (ZcD x))) m
    have hst0:StF dr m an.nt base w0 I0 I β (gcT m (keepL (an.ll (ZcD x)) tm) σ).1 (gcT m (keepL (an.ll (ZcD x)) tm) σ).2 a w:=⟨I1,β2,k1,k2.trans q1,q3,k4,q2⟩
    split at h
    ·rename_i tm1 σ1 h1
     exact ih hx hst0 h1 (fun a' w' hs=>ihk hs h)
    ·rename_i hne
     refine ih hx hst0 h ?_
     cases e with
     | normal=>exact absurd h (hne _ _)
     | exit id=>exact hQ
     | ret=>exact hQ
     | panic x=>exact hQ
  exact key n hst h
 | exit id =>
  intro ac hc I β tm tm' σ σ' a w e hst h Q hQ
  simp only [Zae] at hc;subst hc
  simp only [Zr,Option.some.injEq,Prod.mk.injEq] at h
  obtain ⟨rfl,rfl,rfl⟩:=h
  exact wp_exit (hQ a w hst)
 | ret =>
  intro ac hc I β tm tm' σ σ' a w e hst h Q hQ
  simp only [Zae] at hc;subst hc
  simp only [Zr,Option.some.injEq,Prod.mk.injEq] at h
  obtain ⟨rfl,rfl,rfl⟩:=h
  exact wp_ret (hQ a w hst)
 | rangeFunc f ps x y=>intro ac hc I β tm tm' σ σ' a w e hst h;simp only [Zae] at hc;subst hc;simp only [Zr] at h;cases h
 | scope x ih =>
  intro ac hc I β tm tm' σ σ' a w e hst h Q hQ
  simp only [Zae] at hc
  refine wp_scope_straight (ih hc hst h ?_)
  cases e with
  | normal=>exact hQ
  | exit id=>exact hQ
  | ret=>exact hQ
  | panic x=>exact hQ
 | label l =>
  intro ac hc I β tm tm' σ σ' a w e hst h Q hQ
  simp only [Zae] at hc;subst hc
  simp only [Zr,Option.some.injEq,Prod.mk.injEq] at h
  obtain ⟨rfl,rfl,rfl⟩:=h
  exact wp_label (hQ a w hst)
 | goto l=>intro ac hc I β tm tm' σ σ' a w e hst h;simp only [Zae] at hc;subst hc;simp only [Zr] at h;cases h
 | refuse why=>intro ac hc I β tm tm' σ σ' a w e hst h;simp only [Zae] at hc;subst hc;simp only [Zr] at h;cases h
theorem ZkQ {I:Imm} {β:Bmap} {σ σ':Za} {k:Option Nat} {a x:AVal} {c:Cls} {v:Value} (ha:VR I β a v) (h:ldA σ k a=some (x,σ',c)):∃ ad,v=.pointer (some ad):=by
 unfold ldA at h
 split at h
 ·simp only [VR] at ha;obtain ⟨b,k,c,_,rfl⟩:=ha;exact ⟨_,rfl⟩
 ·simp only [VR] at ha;obtain ⟨b,k,c,_,rfl⟩:=ha;exact ⟨_,rfl⟩
 ·simp only [VR] at ha;obtain ⟨b,off,rfl,_⟩:=ha;exact ⟨_,rfl⟩
 ·cases h
def Zel (tmps:Array Value):ResultVar->Sem Value
 | .tmp t=>pure (tmps.getD t undef)
 | .cell a t=>do loadVar t (<-asAddr (tmps.getD a undef))
theorem ZhE {I:Imm} {β:Bmap} {tm:Tms} {σ:Za} {w:World} {tmps:Array Value} (T:TR I β tm tmps) (R:Rel base w0 I0 I β σ w):∀ {rs:List ResultVar} {asl:List ZbA} {xs:List AVal},Zcl P rs=some asl->resAll tm σ asl=some xs ->
  ∃ vs:List Value,(rs.mapM (Zel tmps)).run P w=.ok vs w/\VRs I β xs vs
 | [],asl,xs,hc,h=>by
  simp only [Zcl,Option.some.injEq] at hc;subst hc
  simp only [resAll,Option.some.injEq] at h;subst h
  exact ⟨[],by simp,by simp only [VRs]⟩
 | r::rs,asl,xs,hc,h=>by
  have getD_eq:∀ t,VR I β (tget tm t) (tmps.getD t undef):=T
  cases r with
  | tmp t =>
   simp only [Zcl,Option.map_eq_some_iff] at hc
   obtain ⟨as',has,rfl⟩:=hc
   simp only [resAll,resOne] at h
   split at h
   ·rename_i ys hys
    injection h with h;subst h
    obtain ⟨vs,h1,h2⟩:=ZhE T R has hys
    exact ⟨tmps.getD t undef::vs,by simp only [List.mapM_cons,Zel,Sem.run_bind,Sem.run_pure,Result.andThen_ok,h1],by simp only [VRs];exact ⟨_,_,rfl,getD_eq t,h2⟩⟩
   ·cases h
  | cell a t =>
   simp only [Zcl] at hc
   split at hc
   ·rename_i k as' hk has
    injection hc with hc;subst hc
    simp only [resAll,resOne] at h
    split at h
    ·rename_i v hv
     split at h
     ·rename_i ys hys
      injection h with h;subst h
      obtain ⟨vs,h1,h2⟩:=ZhE T R has hys
      split at hv
      ·rename_i v' σ1 c1 hld
       injection hv with hv;subst hv
       obtain ⟨u,hu1,hu2,_⟩:=Zkq hk R (getD_eq a) hld
       obtain ⟨ad,had⟩:=ZkQ (getD_eq a) hld
       have hlv:(loadVar t ad).run P w=.ok u w:=by
        rw [had] at hu1
        simpa [Instr.loadAt,Instr.sureAddr] using hu1
       refine ⟨u::vs,?_,by simp only [VRs];exact ⟨_,_,rfl,hu2,h2⟩⟩
       simp only [List.mapM_cons,Zel,had,asAddr,Sem.run_bind,Sem.run_pure,Result.andThen_ok,hlv,h1]
      ·cases hv
     ·cases h
    ·cases h
   ·cases hc
theorem Zjo {I:Imm} {β:Bmap} {tm:Tms} {σ:Za} {w:World} {tmps:Array Value} (T:TR I β tm tmps) (R:Rel base w0 I0 I β σ w) {fn:Func} {asl:List ZbA} {x:AVal} (hc:Zcl P fn.results.toList=some asl) (h:resA tm σ asl=some x):∃ v,(results fn tmps).run P w=.ok v w/\VR I β x v:=by
 unfold resA at h
 have run:∀ {xs:List AVal},resAll tm σ asl=some xs->∃ vs:List Value,(results fn tmps).run P w=.ok (if h:vs.toArray.size=1 then vs.toArray[0] else .tuple vs.toArray) w/\VRs I β xs vs:=by
  intro xs hx
  obtain ⟨vs,h1,h2⟩:=ZhE T R hc hx
  refine ⟨vs,?_,h2⟩
  have hm:(fn.results.mapM (Zel tmps)).run P w=.ok vs.toArray w:=by
   rw [Array.mapM_eq_mapM_toList,Sem.run_map,h1];rfl
  have he:results fn tmps=(do let vs <-fn.results.mapM (Zel tmps);pure (if h:vs.size=1 then vs[0] else .tuple vs)):=by
   unfold results
   congr 1
  rw [he,Sem.run_bind,hm]
  rfl
 split at h
 ·rename_i v hv
  injection h with h;subst h
  obtain ⟨vs,h1,h2⟩:=run hv
  simp only [VRs] at h2
  obtain ⟨u,us,rfl,h3,rfl⟩:=h2
  exact ⟨u,by rw [h1];simp,h3⟩
 ·rename_i vs' hv hne
  injection h with h;subst h
  obtain ⟨vs,h1,h2⟩:=run hne
  have hl:=Zac h2
  refine ⟨.tuple vs.toArray,?_,by simp only [VR];exact ⟨_,rfl,by simpa using h2⟩⟩
  rw [h1,dif_neg]
  intro hs
  simp only [List.size_toArray] at hs
  match vs',hl with
  | [v],_=>exact hv v rfl
  | [],hl=>simp at hl;omega
  | _::_::_,hl=>simp at hl;omega
 ·cases h
theorem Zj1:∀ (args:List AVal) (i:Nat) (acc:Tms) (n:Nat),tget (enterA i args acc) n=if i<=n/\n < i+args.length then args.getD (n - i) .top else tget acc n
 | [],i,acc,n=>by simp only [enterA,List.length_nil];rw [if_neg (by omega)]
 | x::xs,i,acc,n=>by
  simp only [enterA,List.length_cons]
  rw [Zj1 xs (i+1) _ n]
  by_cases h:i+1<=n/\n < i+1+xs.length
  ·rw [if_pos h,if_pos (by omega),show n - i=(n - (i+1))+1 by omega,List.getD_cons_succ]
  ·rw [if_neg h]
   simp only [tget]
   by_cases h1:i=n
   ·subst h1
    rw [if_pos rfl,if_pos (by omega),Nat.sub_self,List.getD_cons_zero]
   ·rw [if_neg h1,if_neg (by omega)]
theorem Zkk {I:Imm} {β:Bmap} {args:List AVal} {vs:Array Value} (h:VRs I β args vs.toList) (n:Nat):TR I β (enterA 0 args []) (vs++Array.replicate n undef):=by
 intro j
 rw [Zj1]
 have hl:=Zac h
 simp only [Array.length_toList] at hl
 split
 ·rename_i hj
  have hjl:j < args.length:=by omega
  obtain ⟨v,h1,h2⟩:=ZaZ h (List.getElem?_eq_getElem hjl)
  have e1:args.getD (j - 0) .top=args[j]:=by simp [List.getD_eq_getElem?_getD,hjl]
  have e2:(vs++Array.replicate n undef).getD j undef=v:=by
   rw [Array.getD_eq_getD_getElem?,Array.getElem?_append_left (by omega)]
   have : vs[j]?=some v:=by simpa using h1
   rw [this];rfl
  rw [e1,e2];exact h2
 ·simp only [tget,VR]
def Ze4 (P:Program) (prim:ZaP):Prop:=∀ f g,prim f=some g->∀ args σ r σ',g args σ=some (r,σ') ->
 (∃ fn,P.funcs[f]?=some fn/\fn.body.isSome=true/\(fn.name == "runtime.NumGoroutine")=false) /\
 ∀ base w0 I0 I β w (vs:Array Value),KLt base w0->Rel base w0 I0 I β σ w->VRs I β args vs.toList ->
  Calls P f vs w (fun e w'=>∃ u,Ends r e u/\Zba σ.length base w0 I0 I β r σ' u w')
theorem ZgH (hm:P.follows .mixedOrders=true) {prim:ZaP} (hP:Ze4 P prim) (ann:Nat->Ann) (bf:Nat->Bool):∀ n,ZK P (ZH (Zed P ann) prim bf n)
 | 0=>by intro f args σ r σ' h;simp only [ZH] at h;cases h
 | n+1=>by
  have ih:=ZgH hm hP ann bf n
  intro f args σ r σ' h
  simp only [ZH] at h
  split at h
  ·rename_i g hg
   exact hP f g hg args σ r σ' h
  split at h
  ·cases h
  rename_i fn hfn
  unfold Zed at hfn
  split at hfn
  ·rename_i F hF
   split at hfn
   ·rename_i body hbody
    split at hfn
    ·cases hfn
    ·rename_i hname
     split at hfn
     ·rename_i rs hrs
      injection hfn with hfn;subst hfn
      refine ⟨⟨F,hF,by rw [hbody];rfl,by simpa using hname⟩,?_⟩
      intro base w0 I0 I β w vs hb R hargs
      refine calls_of_wp hF hbody ?_
      have T:=Zkk hargs (F.ntmps - vs.size)
      have hst:StF Zbh σ.length F.ntmps base w0 I0 I β (enterA 0 args []) σ { tmps:=vs++Array.replicate (F.ntmps - vs.size) undef,defers:=[] } w:=⟨I,β,Imm.le.refl I,KeptE.refl _ β,T,⟨Zc4.2 rfl,by simp;omega⟩,R⟩
      cases hx:Zr (ZH (Zed P ann) prim bf n) bf σ.length n (Zae P { ann f with nt:=F.ntmps } body) (enterA 0 args []) σ with
      | none=>rw [hx] at h;simp only [Zas] at h;cases h
      | some q =>
       obtain ⟨e,tm',σ1⟩:=q
       rw [hx] at h
       have fin:(match resA tm' σ1 rs with | some r=>ZaM σ.length σ1 r | none=>none)=some (r,σ')->∀ a' w',StF Zbh σ.length F.ntmps base w0 I0 I β tm' σ1 a' w'->a'.defers=[]/\∃ v,(results F a'.tmps).run P w'=.ok v w'/\∃ u,Ends r (.returned v) u/\Zba σ.length base w0 I0 I β r σ' u w':=by
        intro hr a' w' ⟨I1,β1,g1,g2,g3,g4,g5⟩
        split at hr
        ·rename_i x hx1
         obtain ⟨v,h1,h2⟩:=Zjo g3 g5 hrs hx1
         have hnp:∀ y,x≠.pan y:=by rintro y rfl;simp only [VR] at h2
         obtain ⟨q1,q2⟩:=ZeQ (⟨I1,β1,g1,g2,g5,by rw [Zdq hnp];exact h2⟩:Zba σ.length base w0 I0 I β x σ1 v w') hr
         refine ⟨Zc4.1 g4.1,v,h1,v,q2 _ ?_,q1⟩
         cases x <;> first | rfl | exact absurd rfl (hnp _)
        ·cases hr
       refine Zfy (dr:=Zbh) (an:={ ann f with nt:=F.ntmps }) ih (fun n hn=>by simp [Zbh] at hn) hm hb σ.length n rfl hst hx ?_
       cases e with
       | normal=>simp only [Zas] at h;exact fun a' w' hs=>fin h a' w' hs
       | ret=>simp only [Zas] at h;exact fun a' w' hs=>fin h a' w' hs
       | exit id=>simp only [Zas] at h;cases h
       | panic x =>
        simp only [Zas] at h
        intro a' u w' hd hp
        obtain ⟨q1,q2⟩:=ZeQ hp h
        exact ⟨Zc4.1 hd,u,q2 _ rfl,q1⟩
     ·cases hfn
   ·cases hfn
  ·cases hfn
end
end
section
open Go.RowKit
def OLe (O O':Zp):Prop:=∀ f a σ r,O f a σ=some r->O' f a σ=some r
section
variable {O O':Zp} {bf:Nat->Bool}
theorem Zte {view:Bool} {m:Nat} {x y:Option (AVal×Za)} (h:∀ r,x=some r->y=some r) {r:AVal×Za} (hr:ZaF view m x=some r):ZaF view m y=some r:=by
 cases x with
 | none=>cases view <;> simp [ZaF,Zcq] at hr
 | some q=>rw [h q rfl];exact hr
theorem Zsx {σ σf:Za} {ids ts:List Nat} {sq own:Nat} {x y:Option (AVal×Za)} (h:∀ r,x=some r->y=some r) {r:AVal×Za×Cls} (hr:Zan σ σf ids ts sq own x=some r):Zan σ σf ids ts sq own y=some r:=by
 cases x with
 | none=>simp only [Zan] at hr;cases hr
 | some q=>rw [h q rfl];exact hr
theorem ZgR (hO:OLe O O') {σ:Za} {sq f own:Nat} {view:Bool} {args:List AVal} {r:AVal×Za×Cls} (h:ZF O bf σ sq f own view args=some r):ZF O' bf σ sq f own view args=some r:=by
 unfold ZF Zbz at h ⊢
 split at h
 ·cases h
 ·rename_i vs ts hv
  split at h
  ·rename_i hc
   simp only [hc,if_true]
   exact Zsx (fun q hq=>Zte (fun q hq=>hO _ _ _ _ hq) hq) h
  ·cases h
theorem Zsq (hO:OLe O O') {tm:Tms} {σ:Za} {sq:Nat} {ins:Ins} {r:AVal×Za×Cls} (h:execI O bf tm σ sq ins=some r):execI O' bf tm σ sq ins=some r:=by
 cases ins
 case call f own view args =>
  simp only [execI] at h ⊢
  exact ZgR hO h
 case callv x args =>
  simp only [execI] at h ⊢
  split at h
  ·exact ZgR hO h
  ·cases h
 all_goals exact h
theorem ZhR (hO:OLe O O') {o:AOp} {tm:Tms} {σ:Za} {sq:Nat} {r:AVal×Tms×Za×Cls} (h:Zi O bf o sq tm σ=some r):Zi O' bf o sq tm σ=some r:=by
 unfold Zi at h ⊢
 split at h
 ·cases h
 ·exact h
 ·split at h
  ·rename_i hf
   rw [if_pos hf]
   split at h
   ·rename_i he;rw [Zsq hO he];exact h
   ·cases h
  ·cases h
theorem ZgB (hO:OLe O O'):∀ {ops:List AOp} {s:Nat} {tm:Tms} {σ:Za} {r:Tms×Za×List Cls×Option AVal},Zo O bf ops s tm σ=some r->Zo O' bf ops s tm σ=some r
 | [],_,_,_,_,h=>h
 | o::ops,s,tm,σ,r,h=>by
  simp only [Zo] at h ⊢
  split at h
  ·cases h
  ·rename_i h1
   rw [ZhR hO h1]
   exact h
  ·rename_i v tm1 σ1 c hnp h1
   rw [ZhR hO h1]
   simp only
   split at h
   ·cases h
   rename_i h2
   rw [ZgB hO h2]
   exact h
theorem Zi9 (hO:OLe O O') {ops:List AOp} {chk:Option (List (Nat×Nat))} {live:List Nat} {tm:Tms} {σ:Za} {r:Zad×Tms×Za} (h:Zbk O bf ops chk live tm σ=some r):Zbk O' bf ops chk live tm σ=some r:=by
 unfold Zbk at h ⊢
 cases hx:Zo O bf ops σ.length tm (σ++List.replicate (sitesOf ops) .free) with
 | none=>rw [hx] at h;simp only [Zcc] at h;cases h
 | some q=>rw [ZgB hO hx];rw [hx] at h;exact h
theorem ZfB {m0:Nat} {live:List Nat} {f f':Tms->Za->Option (Zad×Tms×Za)} (hf:∀ tm σ r,f tm σ=some r->f' tm σ=some r):∀ {n n':Nat} {tm:Tms} {σ:Za} {r:Zad×Tms×Za},n<=n'->ZbU m0 live f n tm σ=some r->ZbU m0 live f' n' tm σ=some r
 | 0,_,_,_,_,_,h=>by simp only [ZbU] at h;cases h
 | n+1,0,_,_,_,hn,_=>by omega
 | n+1,n'+1,tm,σ,r,hn,h=>by
  simp only [ZbU] at h ⊢
  split at h
  ·rename_i h1
   rw [hf _ _ _ h1]
   exact ZfB hf (by omega) h
  ·rename_i hne
   rw [hf _ _ _ h]
   split
   ·rename_i e;injection e with e;subst e;exact absurd h (hne _ _)
   ·rfl
theorem Zb3 (hO:OLe O O') {m0:Nat}:∀ {c:Zg} {n n':Nat} {tm:Tms} {σ:Za} {r:Zad×Tms×Za},n<=n'->Zr O bf m0 n c tm σ=some r->Zr O' bf m0 n' c tm σ=some r:=by
 intro c
 induction c with
 | skip=>intro n n' tm σ r _ h;exact h
 | exit id=>intro n n' tm σ r _ h;exact h
 | ret=>intro n n' tm σ r _ h;exact h
 | stuck=>intro n n' tm σ r _ h;exact h
 | region ops chk live =>
  intro n n' tm σ r _ h
  simp only [Zr] at h ⊢
  exact Zi9 hO h
 | seq a b iha ihb =>
  intro n n' tm σ r hn h
  simp only [Zr] at h ⊢
  split at h
  ·rename_i h1;rw [iha hn h1];exact ihb hn h
  ·rename_i hne
   rw [iha hn h]
   split
   ·rename_i e;injection e with e;subst e;exact absurd h (hne _ _)
   ·rfl
 | cond c a b iha ihb =>
  intro n n' tm σ r hn h
  simp only [Zr] at h ⊢
  split at h
  ·exact iha hn h
  ·exact ihb hn h
  ·cases h
 | block id c ih =>
  intro n n' tm σ r hn h
  simp only [Zr] at h ⊢
  split at h
  ·rename_i h1;rw [ih hn h1];exact h
  ·rename_i hne
   rw [ih hn h]
   split
   ·rename_i e;injection e with e;subst e;exact absurd h (hne _ _ _)
   ·rfl
 | loop live c ih =>
  intro n n' tm σ r hn h
  simp only [Zr] at h ⊢
  exact ZfB (fun tm σ r h=>ih hn h) hn h
theorem Ze2 {m0:Nat} {fn:Zag} {x y:Option (Zad×Tms×Za)} (h:∀ r,x=some r->y=some r) {r:AVal×Za} (hr:Zas m0 fn x=some r):Zas m0 fn y=some r:=by
 cases x with
 | none=>simp only [Zas] at hr;cases hr
 | some q=>rw [h q rfl];exact hr
theorem Zka (fs:Nat->Option Zag) (prim:ZaP):∀ n,OLe (ZH fs prim bf n) (ZH fs prim bf (n+1))
 | 0=>by intro f a σ r h;simp only [ZH] at h;cases h
 | n+1=>by
  intro f a σ r h
  rw [ZH] at h ⊢
  split at h
  ·rename_i g hg;exact h
  ·rename_i hg
   split at h
   ·cases h
   ·rename_i fn hfn
    exact Ze2 (fun q hq=>Zb3 (Zka fs prim n) (by omega) hq) h
theorem ZeJ (fs : Nat -> Option Zag) (prim : ZaP) {n m : Nat} (h : n <= m) : OLe (ZH fs prim bf n) (ZH fs prim bf m) := by
  induction m with
  | zero => obtain rfl : n = 0 := by omega
            exact fun _ _ _ _ h => h
  | succ m ih =>
    by_cases e : n = m + 1
    . subst e; exact fun _ _ _ _ h => h
    . exact fun f a σ r hr => Zka fs prim m f a σ r (ih (by omega) f a σ r hr)
end
section
variable (fs:Nat->Option Zag) (prim:ZaP) (bf:Nat->Bool)
open Classical in
noncomputable def EV:Zp:=fun f args σ=>if h:∃ r,∃ n,ZH fs prim bf n f args σ=some r then some h.choose else none
open Classical in
noncomputable def evC (m:Nat) (c:Zg) (tm:Tms) (σ:Za):Option (Zad×Tms×Za):=if h:∃ r,∃ n,Zr (ZH fs prim bf n) bf m n c tm σ=some r then some h.choose else none
variable {fs prim bf} {m0:Nat}
theorem Zcd {f:Nat} {args:List AVal} {σ:Za} {r:AVal×Za}:EV fs prim bf f args σ=some r↔∃ n,ZH fs prim bf n f args σ=some r:=by
 unfold EV
 constructor
 ·intro h
  split at h
  ·rename_i hx
   injection h with h
   rw [<-h]
   exact hx.choose_spec
  ·cases h
 ·rintro ⟨n,hn⟩
  have hx:∃ r,∃ n,ZH fs prim bf n f args σ=some r:=⟨r,n,hn⟩
  rw [dif_pos hx]
  obtain ⟨m,hm⟩:=hx.choose_spec
  have h1:=ZeJ (bf:=bf) fs prim (Nat.le_max_left n m) _ _ _ _ hn
  have h2:=ZeJ (bf:=bf) fs prim (Nat.le_max_right n m) _ _ _ _ hm
  rw [h1] at h2
  injection h2 with h2
  rw [<-h2]
theorem Zar {c:Zg} {tm:Tms} {σ:Za} {r:Zad×Tms×Za}:evC fs prim bf m0 c tm σ=some r↔∃ n,Zr (ZH fs prim bf n) bf m0 n c tm σ=some r:=by
 unfold evC
 constructor
 ·intro h
  split at h
  ·rename_i hx
   injection h with h
   rw [<-h]
   exact hx.choose_spec
  ·cases h
 ·rintro ⟨n,hn⟩
  have hx:∃ r,∃ n,Zr (ZH fs prim bf n) bf m0 n c tm σ=some r:=⟨r,n,hn⟩
  rw [dif_pos hx]
  obtain ⟨m,hm⟩:=hx.choose_spec
  have h1:=Zb3 (ZeJ (bf:=bf) fs prim (Nat.le_max_left n m)) (Nat.le_max_left n m) hn
  have h2:=Zb3 (ZeJ (bf:=bf) fs prim (Nat.le_max_right n m)) (Nat.le_max_right n m) hm
  rw [h1] at h2
  injection h2 with h2
  rw [<-h2]
theorem ZcP {α:Type} {x y:Option α} (h:∀ r,x=some r↔y=some r):x=y:=by
 cases x with
 | none =>
  cases y with
  | none=>rfl
  | some q=>exact absurd ((h q).2 rfl) (by simp)
 | some q=>exact ((h q).1 rfl).symm
theorem Zwl (n:Nat):OLe (ZH fs prim bf n) (EV fs prim bf):=fun _ _ _ _ h=>Zcd.2 ⟨n,h⟩
theorem up {n m:Nat} (h:n<=m):OLe (ZH fs prim bf n) (ZH fs prim bf m):=ZeJ fs prim h
theorem Zlv {f:Nat} {g:List AVal->Za->Option (AVal×Za)} (hp:prim f=some g) (args:List AVal) (σ:Za):EV fs prim bf f args σ=g args σ:=by
 apply ZcP
 intro r
 rw [Zcd]
 constructor
 ·rintro ⟨n,h⟩
  cases n with
  | zero=>simp only [ZH] at h;cases h
  | succ n=>rw [ZH,hp] at h;exact h
 ·intro h
  exact ⟨1,by rw [ZH,hp];exact h⟩
theorem ZiB {f:Nat} {fn:Zag} (hp:prim f=none) (hf:fs f=some fn) (args:List AVal) (σ:Za):EV fs prim bf f args σ=Zas σ.length fn (evC fs prim bf σ.length fn.body (enterA 0 args []) σ):=by
 apply ZcP
 intro r
 rw [Zcd]
 constructor
 ·rintro ⟨n,h⟩
  cases n with
  | zero=>simp only [ZH] at h;cases h
  | succ n =>
   rw [ZH,hp,hf] at h
   exact Ze2 (fun q hq=>Zar.2 ⟨n,hq⟩) h
 ·intro h
  cases hx:evC fs prim bf σ.length fn.body (enterA 0 args []) σ with
  | none=>rw [hx] at h;simp only [Zas] at h;cases h
  | some q =>
   obtain ⟨n,hn⟩:=Zar.1 hx
   refine ⟨n+1,?_⟩
   rw [ZH,hp,hf]
   rw [hx] at h
   exact Ze2 (x:=some q) (fun q' hq'=>by injection hq' with hq';subst hq';exact hn) h
theorem ZjZ {σ:Za} {sq f own:Nat} {view:Bool} {args:List AVal} {r:AVal×Za×Cls} (h:ZF (EV fs prim bf) bf σ sq f own view args=some r):∃ n,ZF (ZH fs prim bf n) bf σ sq f own view args=some r:=by
 unfold ZF Zbz at h ⊢
 split at h
 ·cases h
 ·rename_i vs ts hv
  split at h
  ·rename_i hc
   simp only [hc,if_true]
   cases hx:EV fs prim bf f (Zy (Zf (Zl σ ts) 0 (Zk (Zl σ ts) 1000 (ZG vs) [])) vs) (Zj (Zl σ ts) 0 (Zk (Zl σ ts) 1000 (ZG vs) []) (Zf (Zl σ ts) 0 (Zk (Zl σ ts) 1000 (ZG vs) [])) (Zk (Zl σ ts) 1000 (ZG vs) []) 0) with
   | none =>
    rw [hx] at h
    cases view <;> simp [ZaF,Zcq,Zan] at h
   | some q =>
    obtain ⟨n,hn⟩:=Zcd.1 hx
    exact ⟨n,by rw [hn];rw [hx] at h;exact h⟩
  ·cases h
theorem Zsi {tm:Tms} {σ:Za} {sq:Nat} {ins:Ins} {r:AVal×Za×Cls} (h:execI (EV fs prim bf) bf tm σ sq ins=some r):∃ n,execI (ZH fs prim bf n) bf tm σ sq ins=some r:=by
 cases ins
 case call f own view args =>
  simp only [execI] at h ⊢
  exact ZjZ h
 case callv x args =>
  simp only [execI] at h ⊢
  split at h
  ·exact ZjZ h
  ·cases h
 all_goals exact ⟨0,h⟩
theorem Zju {o:AOp} {tm:Tms} {σ:Za} {sq:Nat} {r:AVal×Tms×Za×Cls} (h:Zi (EV fs prim bf) bf o sq tm σ=some r):∃ n,Zi (ZH fs prim bf n) bf o sq tm σ=some r:=by
 unfold Zi at h ⊢
 split at h
 ·cases h
 ·exact ⟨0,h⟩
 ·split at h
  ·rename_i hf
   simp only [hf,if_true]
   split at h
   ·rename_i he
    obtain ⟨n,hn⟩:=Zsi he
    exact ⟨n,by rw [hn];exact h⟩
   ·cases h
  ·cases h
theorem Ziy:∀ {ops:List AOp} {s:Nat} {tm:Tms} {σ:Za} {r:Tms×Za×List Cls×Option AVal},Zo (EV fs prim bf) bf ops s tm σ=some r->∃ n,Zo (ZH fs prim bf n) bf ops s tm σ=some r
 | [],_,_,_,_,h=>⟨0,h⟩
 | o::ops,s,tm,σ,r,h=>by
  simp only [Zo] at h ⊢
  split at h
  ·cases h
  ·rename_i h1
   obtain ⟨n,hn⟩:=Zju h1
   exact ⟨n,by rw [hn];exact h⟩
  rename_i v tm1 σ1 c hnp h1
  split at h
  ·cases h
  rename_i h2
  obtain ⟨n,hn⟩:=Zju h1
  obtain ⟨m,hm⟩:=Ziy h2
  refine ⟨max n m,?_⟩
  rw [ZhR (up (Nat.le_max_left n m)) hn]
  simp only
  rw [ZgB (up (Nat.le_max_right n m)) hm]
  exact h
theorem Zmz {ops:List AOp} {chk:Option (List (Nat×Nat))} {live:List Nat} {tm:Tms} {σ:Za} {r:Zad×Tms×Za} (h:Zbk (EV fs prim bf) bf ops chk live tm σ=some r):∃ n,Zbk (ZH fs prim bf n) bf ops chk live tm σ=some r:=by
 unfold Zbk at h ⊢
 cases hx:Zo (EV fs prim bf) bf ops σ.length tm (σ++List.replicate (sitesOf ops) .free) with
 | none=>rw [hx] at h;simp only [Zcc] at h;cases h
 | some q =>
  obtain ⟨n,hn⟩:=Ziy hx
  exact ⟨n,by rw [hn];rw [hx] at h;exact h⟩
theorem ZvJ (tm:Tms) (σ:Za):evC fs prim bf m0 .skip tm σ=some (.normal,tm,σ):=Zar.2 ⟨0,rfl⟩
theorem Zn6 (id:Nat) (tm:Tms) (σ:Za):evC fs prim bf m0 (.exit id) tm σ=some (.exit id,tm,σ):=Zar.2 ⟨0,rfl⟩
theorem ZqV (tm:Tms) (σ:Za):evC fs prim bf m0 .ret tm σ=some (.ret,tm,σ):=Zar.2 ⟨0,rfl⟩
theorem ZkL {ops:List AOp} {chk:Option (List (Nat×Nat))} {live:List Nat} {tm:Tms} {σ:Za}:evC fs prim bf m0 (.region ops chk live) tm σ=Zbk (EV fs prim bf) bf ops chk live tm σ:=by
 apply ZcP
 intro r
 rw [Zar]
 constructor
 ·rintro ⟨n,hn⟩
  simp only [Zr] at hn
  exact Zi9 (Zwl n) hn
 ·intro h
  obtain ⟨n,hn⟩:=Zmz h
  exact ⟨n,by simp only [Zr];exact hn⟩
theorem Zrm {a b:Zg} {tm tm':Tms} {σ σ':Za} (h:evC fs prim bf m0 a tm σ=some (.normal,tm',σ')):evC fs prim bf m0 (.seq a b) tm σ=evC fs prim bf m0 b tm' σ':=by
 obtain ⟨n,hn⟩:=Zar.1 h
 apply ZcP
 intro r
 rw [Zar,Zar]
 constructor
 ·rintro ⟨m,hm⟩
  have h1:=Zb3 (up (Nat.le_max_left n m)) (Nat.le_max_left n m) hn
  have h2:=Zb3 (up (Nat.le_max_right n m)) (Nat.le_max_right n m) hm
  simp only [Zr,h1] at h2
  exact ⟨_,h2⟩
 ·rintro ⟨m,hm⟩
  have h1:=Zb3 (up (Nat.le_max_left n m)) (Nat.le_max_left n m) hn
  have h2:=Zb3 (up (Nat.le_max_right n m)) (Nat.le_max_right n m) hm
  exact ⟨max n m,by simp only [Zr,h1];exact h2⟩
theorem Zhn {a b:Zg} {tm tm':Tms} {σ σ':Za} {e:Zad} (he:e≠.normal) (h:evC fs prim bf m0 a tm σ=some (e,tm',σ')):evC fs prim bf m0 (.seq a b) tm σ=some (e,tm',σ'):=by
 obtain ⟨n,hn⟩:=Zar.1 h
 refine Zar.2 ⟨n,?_⟩
 simp only [Zr,hn]
 cases e with
 | normal=>exact absurd rfl he
 | exit id=>rfl
 | ret=>rfl
 | panic x=>rfl
def ZaN (id:Nat):Zad×Tms×Za->Zad×Tms×Za
 | (.exit i,tm,σ)=>if i=id then (.normal,tm,σ) else (.exit i,tm,σ)
 | r=>r
theorem ZqG {id:Nat} {c:Zg} {tm:Tms} {σ:Za}:evC fs prim bf m0 (.block id c) tm σ=(evC fs prim bf m0 c tm σ).map (ZaN id):=by
 have step:∀ n,Zr (ZH fs prim bf n) bf m0 n (.block id c) tm σ=(Zr (ZH fs prim bf n) bf m0 n c tm σ).map (ZaN id):=by
  intro n
  simp only [Zr]
  cases Zr (ZH fs prim bf n) bf m0 n c tm σ with
  | none=>rfl
  | some q =>
   obtain ⟨e,tm1,σ1⟩:=q
   cases e with
   | normal=>rfl
   | ret=>rfl
   | panic x=>rfl
   | exit i=>simp only [Option.map_some,ZaN];split <;> rfl
 apply ZcP;intro r
 rw [Zar]
 simp only [step,Option.map_eq_some_iff]
 constructor
 ·rintro ⟨n,q,h1,h2⟩;exact ⟨q,Zar.2 ⟨n,h1⟩,h2⟩
 ·rintro ⟨q,h1,h2⟩;obtain ⟨n,hn⟩:=Zar.1 h1;exact ⟨n,q,hn,h2⟩
theorem Zna {c:Zg} {tm:Tms} {σ:Za} (h:evC fs prim bf m0 c tm σ=none) (n:Nat):Zr (ZH fs prim bf n) bf m0 n c tm σ=none:=by
 cases hx:Zr (ZH fs prim bf n) bf m0 n c tm σ with
 | none=>rfl
 | some r=>rw [Zar.2 ⟨n,hx⟩] at h;cases h
variable (fs prim bf m0) in
noncomputable def ZbX (b:Zg):Option (Zad×Tms×Za)->Option (Zad×Tms×Za)
 | some (.normal,tm,σ)=>evC fs prim bf m0 b tm σ
 | r=>r
theorem Zuh {a b:Zg} {tm:Tms} {σ:Za}:evC fs prim bf m0 (.seq a b) tm σ=ZbX fs prim bf m0 b (evC fs prim bf m0 a tm σ):=by
 cases h:evC fs prim bf m0 a tm σ with
 | none =>
  simp only [ZbX]
  apply ZcP;intro r
  rw [Zar]
  constructor
  ·rintro ⟨n,hn⟩
   simp only [Zr,Zna h n] at hn
   cases hn
  ·intro h;cases h
 | some q =>
  obtain ⟨e,tm',σ'⟩:=q
  cases e with
  | normal=>exact Zrm h
  | exit id=>exact Zhn (by simp) h
  | ret=>exact Zhn (by simp) h
  | panic x=>exact Zhn (by simp) h
variable (fs prim bf m0) in
noncomputable def Zex (a b:Zg) (tm:Tms) (σ:Za):AVal->Option (Zad×Tms×Za)
 | .bool true=>evC fs prim bf m0 a tm σ
 | .bool false=>evC fs prim bf m0 b tm σ
 | _=>none
theorem Znz {c:Opd} {a b:Zg} {tm:Tms} {σ:Za}:evC fs prim bf m0 (.cond c a b) tm σ=Zex fs prim bf m0 a b tm σ (c.ev tm):=by
 apply ZcP;intro r
 rw [Zar]
 simp only [Zr]
 constructor
 ·rintro ⟨n,hn⟩
  split at hn
  ·rename_i e;rw [e];simp only [Zex];exact Zar.2 ⟨n,hn⟩
  ·rename_i e;rw [e];simp only [Zex];exact Zar.2 ⟨n,hn⟩
  ·cases hn
 ·intro h
  unfold Zex at h
  split at h
  ·rename_i e;obtain ⟨n,hn⟩:=Zar.1 h;exact ⟨n,by rw [e];exact hn⟩
  ·rename_i e;obtain ⟨n,hn⟩:=Zar.1 h;exact ⟨n,by rw [e];exact hn⟩
  ·cases h
variable (fs prim bf m0) in
noncomputable def evL (live:List Nat) (c:Zg) (tm:Tms) (σ:Za):Option (Zad×Tms×Za) :=
 match evC fs prim bf m0 c tm σ with
 | some (.normal,tm',σ')=>evC fs prim bf m0 (.loop live c) tm' σ'
 | r=>r
theorem Zjt {live:List Nat} {c:Zg} {tm:Tms} {σ:Za}:evC fs prim bf m0 (.loop live c) tm σ=evL fs prim bf m0 live c (gcT m0 (keepL live tm) σ).1 (gcT m0 (keepL live tm) σ).2:=by
 apply ZcP;intro r
 rw [Zar]
 constructor
 ·rintro ⟨n,hn⟩
  simp only [Zr] at hn
  cases n with
  | zero=>simp only [ZbU] at hn;cases hn
  | succ k =>
   simp only [ZbU] at hn
   unfold evL
   cases hx:Zr (ZH fs prim bf (k+1)) bf m0 (k+1) c (gcT m0 (keepL live tm) σ).1 (gcT m0 (keepL live tm) σ).2 with
   | none=>rw [hx] at hn;cases hn
   | some q =>
    rw [Zar.2 ⟨_,hx⟩]
    rw [hx] at hn
    obtain ⟨e,tm',σ'⟩:=q
    cases e with
    | normal =>
     simp only at hn ⊢
     exact Zar.2 ⟨k+1,by simp only [Zr];exact ZfB (fun _ _ _ h=>h) (by omega) hn⟩
    | exit id=>exact hn
    | ret=>exact hn
    | panic x=>exact hn
 ·intro h
  unfold evL at h
  cases hx:evC fs prim bf m0 c (gcT m0 (keepL live tm) σ).1 (gcT m0 (keepL live tm) σ).2 with
  | none=>rw [hx] at h;cases h
  | some q =>
   rw [hx] at h
   obtain ⟨n,hn⟩:=Zar.1 hx
   obtain ⟨e,tm',σ'⟩:=q
   have out:e≠.normal->some (e,tm',σ')=some r->∃ n,Zr (ZH fs prim bf n) bf m0 n (.loop live c) tm σ=some r:=by
    intro he h
    refine ⟨n+1,?_⟩
    have h1:=Zb3 (up (show n<=n+1 by omega)) (show n<=n+1 by omega) hn
    simp only [Zr,ZbU,h1]
    cases e with
    | normal=>exact absurd rfl he
    | exit id=>exact h
    | ret=>exact h
    | panic x=>exact h
   cases e with
   | normal =>
    simp only at h
    obtain ⟨m,hm⟩:=Zar.1 h
    have h1:=Zb3 (up (show n<=max n m+1 by omega)) (show n<=max n m+1 by omega) hn
    have h2:=Zb3 (up (show m<=max n m+1 by omega)) (Nat.le_refl m) hm
    simp only [Zr] at h2
    refine ⟨max n m+1,?_⟩
    simp only [Zr,ZbU,h1]
    exact ZfB (fun tm σ r h=>Zb3 (fun _ _ _ _ h=>h) (by omega) h) (by omega) h2
   | exit id=>exact out (by simp) h
   | ret=>exact out (by simp) h
   | panic x=>exact out (by simp) h
theorem Zsm {P:Program} (hm:P.follows .mixedOrders=true) {prim:ZaP} (hP:Ze4 P prim) (ann:Nat->Ann) (bf:Nat->Bool):ZK P (EV (Zed P ann) prim bf):=by
 intro f args σ r σ' h
 obtain ⟨n,hn⟩:=Zcd.1 h
 exact ZgH hm hP ann bf n f args σ r σ' hn
end
end
section
open Go.RowKit
def Zkv:Tms×Za×List Cls×Option AVal->Tms×Za×Option AVal:=fun q=>(q.1,q.2.1,q.2.2.2)
def Zab:AVal->Bool
 | .pan _=>true
 | _=>false
section
variable (O:Zp) (bf:Nat->Bool)
def exI (i:Ins) (s:Nat) (tm:Tms) (σ:Za):Option (AVal×Za×Cls) :=
 if nsite i == 0 || freeAt σ s then execI O bf tm σ s i else none
def Zaq (ops:List AOp) (s:Nat) (tm:Tms) (σ:Za):Option (Tms×Za×Option AVal):=(Zo O bf ops s tm σ).map Zkv
def kN (d:Option Nat) (os:List AOp) (s:Nat) (tm:Tms):Option (AVal×Za×Cls)->Option (Tms×Za×Option AVal)
 | none=>none
 | some (v,σ,_)=>if Zab v then some (tput tm d v,σ,some (Zaf v)) else Zaq O bf os s (tput tm d v) σ
def Zfx (live:List Nat):Option (Tms×Za×Option AVal)->Option (Zad×Tms×Za)
 | none=>none
 | some (_,σ,some x)=>some (.panic x,[],σ)
 | some (tm,σ,none)=>some (.normal,keepL live tm,σ)
variable {O bf}
theorem Ziz (s:Nat) (tm:Tms) (σ:Za):Zaq O bf [] s tm σ=some (tm,σ,none):=rfl
theorem ZeC {o:AOp} {os:List AOp} {s:Nat} {tm:Tms} {σ:Za} (h:Zi O bf o s tm σ=none):Zo O bf (o::os) s tm σ=none:=by simp only [Zo,h]
theorem Zfr {o:AOp} {os:List AOp} {s:Nat} {tm tm1:Tms} {σ σ1:Za} {x:AVal} {c:Cls} (h:Zi O bf o s tm σ=some (.pan x,tm1,σ1,c)):Zo O bf (o::os) s tm σ=some (tm1,σ1,[c],some x):=by simp only [Zo,h]
theorem Zjb {o:AOp} {os:List AOp} {s:Nat} {tm tm1:Tms} {σ σ1:Za} {v:AVal} {c:Cls} (h:Zi O bf o s tm σ=some (v,tm1,σ1,c)) (hn:Zab v=false):Zo O bf (o::os) s tm σ=(Zo O bf os (s+nsite o.ins) tm1 σ1).map fun q=>(q.1,q.2.1,c::q.2.2.1,q.2.2.2):=by
 simp only [Zo,h]
 cases v <;> first
  | (simp [Zab] at hn;done)
  | (simp only;cases Zo O bf os (s+nsite o.ins) tm1 σ1 <;> rfl)
theorem Zfc {o:AOp} {os:List AOp} {s:Nat} {tm:Tms} {σ:Za} (h:Zi O bf o s tm σ=none):Zaq O bf (o::os) s tm σ=none:=by simp only [Zaq,ZeC h,Option.map_none]
theorem Zhx {o:AOp} {os:List AOp} {s:Nat} {tm tm1:Tms} {σ σ1:Za} {x:AVal} {c:Cls} (h:Zi O bf o s tm σ=some (.pan x,tm1,σ1,c)):Zaq O bf (o::os) s tm σ=some (tm1,σ1,some x):=by simp only [Zaq,Zfr h,Option.map_some,Zkv]
theorem ZfS {o:AOp} {os:List AOp} {s:Nat} {tm tm1:Tms} {σ σ1:Za} {v:AVal} {c:Cls} (h:Zi O bf o s tm σ=some (v,tm1,σ1,c)) (hn:Zab v=false):Zaq O bf (o::os) s tm σ=Zaq O bf os (s+nsite o.ins) tm1 σ1:=by
 simp only [Zaq,Zjb h hn,Option.map_map]
 rfl
theorem ZfW {v:AVal} (h:Zab v=true):∃ x,v=.pan x:=by
 cases v <;> first | exact ⟨_,rfl⟩ | (simp [Zab] at h;done)
theorem ZfE {d:Option Nat} {i:Ins} {af:List Nat} {s:Nat} {tm:Tms} {σ:Za}:Zi O bf ⟨d,i,none,af⟩ s tm σ=(exI O bf i s tm σ).map fun q=>(q.1,tput tm d q.1,q.2.1,q.2.2):=by
 unfold Zi exI
 simp only [Zaz]
 split
 ·cases execI O bf tm σ s i with
  | none=>rfl
  | some q=>rfl
 ·rfl
theorem Zgn (d:Option Nat) (i:Ins) (af:List Nat) (os:List AOp) (s:Nat) (tm:Tms) (σ:Za):Zaq O bf (⟨d,i,none,af⟩::os) s tm σ=kN O bf d os (s+nsite i) tm (exI O bf i s tm σ):=by
 cases h:exI O bf i s tm σ with
 | none=>exact Zfc (by rw [ZfE,h];rfl)
 | some q =>
  obtain ⟨v,σ1,c⟩:=q
  have hs:Zi O bf ⟨d,i,none,af⟩ s tm σ=some (v,tput tm d v,σ1,c):=by rw [ZfE,h];rfl
  cases hp:Zab v with
  | true =>
   obtain ⟨x,rfl⟩:=ZfW hp
   exact Zhx hs
  | false =>
   rw [ZfS hs hp]
   simp only [kN,hp,Bool.false_eq_true,if_false]
theorem ZsY (ops:List AOp) (live:List Nat) (tm:Tms) (σ:Za):Zbk O bf ops none live tm σ=Zfx live (Zaq O bf ops σ.length tm (σ++List.replicate (sitesOf ops) .free)):=by
 unfold Zbk Zaq
 cases Zo O bf ops σ.length tm (σ++List.replicate (sitesOf ops) .free) with
 | none=>rfl
 | some q =>
  obtain ⟨tm',σ',cs,p⟩:=q
  cases p <;> rfl
theorem Zgg (d:Option Nat) (os:List AOp) (s:Nat) (tm:Tms) (v:AVal) (σ:Za) (c:Cls) (h:Zab v=false):kN O bf d os s tm (some (v,σ,c))=Zaq O bf os s (tput tm d v) σ:=by
 simp only [kN,h,Bool.false_eq_true,if_false]
theorem Zwo (d:Option Nat) (os:List AOp) (s:Nat) (tm:Tms) (x:AVal) (σ:Za) (c:Cls):kN O bf d os s tm (some (.pan x,σ,c))=some (tput tm d (.pan x),σ,some x):=rfl
theorem Zoo (d:Option Nat) (os:List AOp) (s:Nat) (tm:Tms):kN O bf d os s tm none=none:=rfl
structure GOp where
 guard:Option (Nat×Bool)
 ops:List AOp
def ZD:List AOp->Tms->Tms
 | [],tm=>tm
 | o::os,tm=>ZD os (tput tm o.dst (.tup []))
def unG (o:AOp):AOp:={ o with guard:=none }
variable (O bf) in
def Zch (j:Nat) (w:Bool) (g:List AOp) (s:Nat) (tm:Tms) (σ:Za):Option (Tms×Za×Option AVal):=match Zaz (some (j,w)) tm with
 | none=>none
 | some false=>some (ZD g tm,σ,none)
 | some true=>Zaq O bf (g.map unG) s tm σ
variable (O bf) in
def gK (os:List AOp) (s:Nat):Option (Tms×Za×Option AVal)->Option (Tms×Za×Option AVal)
 | none=>none
 | some (tm,σ,some x)=>some (tm,σ,some x)
 | some (tm,σ,none)=>Zaq O bf os s tm σ
def Zw (j:Nat) (w:Bool):List AOp->List AOp×List AOp
 | []=>([],[])
 | o::os=>match o.guard with
  | some (j',w')=>if j'=j/\w'=w/\o.dst≠some j then ((o::(Zw j w os).1),(Zw j w os).2) else ([],o::os)
  | none=>([],o::os)
theorem Zg3 (j:Nat) (w:Bool):∀ os,(Zw j w os).1++(Zw j w os).2=os
 | []=>rfl
 | o::os=>by
  simp only [Zw]
  split
  ·split
   ·simp [Zg3 j w os]
   ·rfl
  ·rfl
theorem Zgf (j:Nat) (w:Bool):∀ os,∀ o ∈ (Zw j w os).1,o.guard=some (j,w)/\o.dst≠some j
 | []=>by simp [Zw]
 | o::os=>by
  intro o' ho
  simp only [Zw] at ho
  split at ho
  ·rename_i j' w' hg
   split at ho
   ·rename_i hc
    rcases List.mem_cons.1 ho with rfl | ho
    ·exact ⟨by rw [hg,hc.1,hc.2.1],hc.2.2⟩
    ·exact Zgf j w os o' ho
   ·simp at ho
  ·simp at ho
theorem Zl7 {d:Option Nat} {v:AVal} {n:Nat} {tm:Tms} (h:d≠some n):tget (tput tm d v) n=tget tm n:=by
 cases d with
 | none=>rfl
 | some d =>
  have : d≠n:=by rintro rfl;exact h rfl
  simp only [tput,Zet,this,if_false]
theorem ZcR {d:Option Nat} {v:AVal} {j:Nat} {w:Bool} {tm:Tms} (h:d≠some j):Zaz (some (j,w)) (tput tm d v)=Zaz (some (j,w)) tm:=by
 simp only [Zaz,Zl7 h]
theorem Zh5:∀ (a b:List AOp) (s:Nat) (tm:Tms) (σ:Za),Zaq O bf (a++b) s tm σ=gK O bf b (s+sitesOf a) (Zaq O bf a s tm σ)
 | [],b,s,tm,σ=>by simp [Ziz,gK,sitesOf]
 | o::a,b,s,tm,σ=>by
  have ih:=Zh5 a b
  simp only [List.cons_append]
  have hs:s+nsite o.ins+sitesOf a=s+sitesOf (o::a):=by simp [sitesOf,Nat.add_assoc]
  cases hst:Zi O bf o s tm σ with
  | none=>rw [Zfc hst,Zfc hst];rfl
  | some q =>
   obtain ⟨v,tm1,σ1,c⟩:=q
   cases hp:Zab v with
   | true =>
    obtain ⟨x,rfl⟩:=ZfW hp
    rw [Zhx hst,Zhx hst];rfl
   | false=>rw [ZfS hst hp,ZfS hst hp,ih,hs]
theorem Zkr (j:Nat) (w:Bool):∀ (g:List AOp),(∀ o ∈ g,o.guard=some (j,w)/\o.dst≠some j)->∀ (s:Nat) (tm:Tms) (σ:Za),g≠[]->Zaq O bf g s tm σ=Zch O bf j w g s tm σ
 | [],_,_,_,_,h=>absurd rfl h
 | o::g,hall,s,tm,σ,_=>by
  obtain ⟨hg,hd⟩:=hall o (by simp)
  have ih:∀ (tm:Tms) (σ:Za) (s:Nat),Zaz (some (j,w)) tm≠none->Zaq O bf g s tm σ=Zch O bf j w g s tm σ:=by
   intro tm σ s hw
   by_cases he:g=[]
   ·subst he
    unfold Zch
    cases hx:Zaz (some (j,w)) tm with
    | none=>exact absurd hx hw
    | some b=>cases b <;> rfl
   ·exact Zkr j w g (fun o ho=>hall o (by simp [ho])) s tm σ he
  cases hx:Zaz (some (j,w)) tm with
  | none =>
   rw [Zfc (by simp only [Zi,hg,hx])]
   simp only [Zch,hx]
  | some b =>
   cases b with
   | false =>
    have h1:Zaq O bf (o::g) s tm σ=Zaq O bf g (s+nsite o.ins) (tput tm o.dst (.tup [])) σ :=
     ZfS (v:=.tup []) (c:={}) (by simp only [Zi,hg,hx]) rfl
    rw [h1,ih _ _ _ (by rw [ZcR hd,hx];simp)]
    unfold Zch
    rw [ZcR hd,hx]
    rfl
   | true =>
    have key:∀ r:Option (AVal×Za×Cls),(∀ v σ' c,r=some (v,σ',c)->Zab v=false->Zaq O bf g (s+nsite o.ins) (tput tm o.dst v) σ'=Zaq O bf (g.map unG) (s+nsite o.ins) (tput tm o.dst v) σ')->kN O bf o.dst g (s+nsite o.ins) tm r=kN O bf o.dst (g.map unG) (s+nsite o.ins) tm r:=by
     intro r hr
     cases r with
     | none=>rfl
     | some q =>
      obtain ⟨v,σ',c⟩:=q
      cases hp:Zab v with
      | true=>simp only [kN,hp,if_true]
      | false=>rw [Zgg _ _ _ _ _ _ _ hp,Zgg _ _ _ _ _ _ _ hp];exact hr v σ' c rfl hp
    have h1:Zaq O bf (o::g) s tm σ=kN O bf o.dst g (s+nsite o.ins) tm (exI O bf o.ins s tm σ):=by
     have h0:Zaq O bf (o::g) s tm σ=Zaq O bf (⟨o.dst,o.ins,none,o.after⟩::g) s tm σ:=by
      have hst:Zi O bf o s tm σ=Zi O bf ⟨o.dst,o.ins,none,o.after⟩ s tm σ:=by
       unfold Zi
       simp only [hg,hx]
       rfl
      unfold Zaq
      simp only [Zo,hst]
     rw [h0,Zgn]
    rw [h1]
    unfold Zch
    rw [hx]
    simp only [List.map_cons]
    rw [show unG o=⟨o.dst,o.ins,none,o.after⟩ from rfl,Zgn]
    refine key _ fun v σ' c _ _=>?_
    rw [ih _ _ _ (by rw [ZcR hd,hx];simp)]
    unfold Zch
    rw [ZcR hd,hx]
theorem Zrl (d:Option Nat) (i:Ins) (j:Nat) (w:Bool) (af:List Nat) (os:List AOp) (s:Nat) (tm:Tms) (σ:Za) (hd:decide (d=some j)=false) :
  Zaq O bf (⟨d,i,some (j,w),af⟩::os) s tm σ=gK O bf (Zw j w os).2 (s+sitesOf (⟨d,i,some (j,w),af⟩::(Zw j w os).1)) (Zch O bf j w (⟨d,i,some (j,w),af⟩::(Zw j w os).1) s tm σ):=by
 have h:=Zg3 j w os
 have hall:∀ o ∈ (⟨d,i,some (j,w),af⟩::(Zw j w os).1:List AOp),o.guard=some (j,w)/\o.dst≠some j:=by
  intro o ho
  rcases List.mem_cons.1 ho with rfl | ho
  ·exact ⟨rfl,by simpa using hd⟩
  ·exact Zgf j w os o ho
 rw [<-Zkr j w _ hall s tm σ (by simp),<-Zh5,List.cons_append,h]
variable (O bf) in
def gW (w:Bool) (g:List AOp) (s:Nat) (tm:Tms) (σ:Za):AVal->Option (Tms×Za×Option AVal)
 | .bool b=>if b=w then Zaq O bf (g.map unG) s tm σ else some (ZD g tm,σ,none)
 | .tup []=>some (ZD g tm,σ,none)
 | _=>none
theorem ZoB (j:Nat) (w:Bool) (g:List AOp) (s:Nat) (tm:Tms) (σ:Za):Zch O bf j w g s tm σ=gW O bf w g s tm σ (tget tm j):=by
 unfold Zch Zaz
 simp only
 generalize tget tm j=v
 cases v
 case bool b=>cases b <;> cases w <;> rfl
 case tup vs=>cases vs <;> rfl
 all_goals rfl
theorem Znh (w:Bool) (g:List AOp) (s:Nat) (tm:Tms) (σ:Za) (b:Bool):gW O bf w g s tm σ (.bool b)=if b=w then Zaq O bf (g.map unG) s tm σ else some (ZD g tm,σ,none):=rfl
theorem Zsl (w:Bool) (g:List AOp) (s:Nat) (tm:Tms) (σ:Za):gW O bf w g s tm σ (.tup [])=some (ZD g tm,σ,none):=rfl
theorem ZnD (os:List AOp) (s:Nat) (tm:Tms) (σ:Za):gK O bf os s (some (tm,σ,none))=Zaq O bf os s tm σ:=rfl
end
section
variable (c:Prop) [Decidable c]
theorem ZX {α:Type} (a b:α) (x y:List α):(if c then a::x else b::y)=(if c then a else b)::(if c then x else y):=by split <;> rfl
theorem ZtU (k:IntKind) (a b:Int):(if c then AVal.int k a else AVal.int k b)=AVal.int k (if c then a else b):=by split <;> rfl
theorem Zrk (a b:Bool):(if c then AVal.bool a else AVal.bool b)=AVal.bool (if c then a else b):=by split <;> rfl
theorem Zp2 (a b:List UInt8):(if c then AVal.str a else AVal.str b)=AVal.str (if c then a else b):=by split <;> rfl
theorem Znp (p q:Bool) (a b:List AVal):(if c then AVal.lst p a else AVal.lst q b)=AVal.lst (if c then p else q) (if c then a else b):=by split <;> rfl
theorem ZrU (a b:List AVal):(if c then AVal.agg a else AVal.agg b)=AVal.agg (if c then a else b):=by split <;> rfl
theorem Zkw (a b:List AVal):(if c then Zu.var a else Zu.var b)=Zu.var (if c then a else b):=by split <;> rfl
theorem Zk5 (g k:Nat) (a b:List AVal):(if c then Zu.row g k a else Zu.row g k b)=Zu.row g k (if c then a else b):=by split <;> rfl
theorem ZuF (t:Nat) (a b:Nat):(if c then AVal.ref t a else AVal.ref t b)=AVal.ref t (if c then a else b):=by split <;> rfl
theorem ZV {α:Type} (x y z:α):(if c then (if c then x else y) else z)=if c then x else z:=by split <;> rfl
theorem ZY {α:Type} (x y z:α):(if c then x else (if c then y else z))=if c then x else z:=by split <;> rfl
theorem Z3 {α:Type} (x y z:α):(if c then (if ¬c then x else y) else z)=if c then y else z:=by split <;> simp_all
theorem Z2 {α:Type} (x y z:α):(if c then x else (if ¬c then y else z))=if c then x else y:=by split <;> simp_all
theorem ZnI (σ:Za) (a b:AVal) (p:Bool):ZcW σ a b (.bool p)=some (if p=true then a else b,σ,{}):=by cases p <;> rfl
theorem Zud (a b:AVal):Zab (if c then a else b)=if c then Zab a else Zab b:=by split <;> rfl
end
section
variable {fs:Nat->Option Zag} {prim:ZaP} {bf:Nat->Bool} {m0:Nat}
theorem ZoA (p:Bool) (a b:Zg) (tm:Tms) (σ:Za):Zex fs prim bf m0 a b tm σ (.bool p)=if p=true then evC fs prim bf m0 a tm σ else evC fs prim bf m0 b tm σ:=by
 cases p <;> rfl
theorem Znf (b:Zg) (tm:Tms) (σ:Za):ZbX fs prim bf m0 b (some (.normal,tm,σ))=evC fs prim bf m0 b tm σ:=rfl
theorem ZoV (b:Zg) (i:Nat) (tm:Tms) (σ:Za):ZbX fs prim bf m0 b (some (.exit i,tm,σ))=some (.exit i,tm,σ):=rfl
theorem Zqc (b:Zg) (tm:Tms) (σ:Za):ZbX fs prim bf m0 b (some (.ret,tm,σ))=some (.ret,tm,σ):=rfl
theorem ZvL (b:Zg) (x:AVal) (tm:Tms) (σ:Za):ZbX fs prim bf m0 b (some (.panic x,tm,σ))=some (.panic x,tm,σ):=rfl
theorem ZpU (c:Prop) [Decidable c] (b:Zg) (x y:Option (Zad×Tms×Za)):ZbX fs prim bf m0 b (if c then x else y)=if c then ZbX fs prim bf m0 b x else ZbX fs prim bf m0 b y:=by split <;> rfl
theorem Zrb (id:Nat) (tm:Tms) (σ:Za):Option.map (ZaN id) (some (.normal,tm,σ))=some (.normal,tm,σ):=rfl
theorem Zli (id i:Nat) (tm:Tms) (σ:Za):Option.map (ZaN id) (some (.exit i,tm,σ))=if i=id then some (.normal,tm,σ) else some (.exit i,tm,σ):=by
 simp only [Option.map_some,ZaN];split <;> rfl
theorem Zln (id:Nat) (tm:Tms) (σ:Za):Option.map (ZaN id) (some (.ret,tm,σ))=some (.ret,tm,σ):=rfl
theorem Zva (id:Nat) (x:AVal) (tm:Tms) (σ:Za):Option.map (ZaN id) (some (.panic x,tm,σ))=some (.panic x,tm,σ):=rfl
theorem ZkN (id:Nat) (c:Prop) [Decidable c] (x y:Option (Zad×Tms×Za)):Option.map (ZaN id) (if c then x else y)=if c then Option.map (ZaN id) x else Option.map (ZaN id) y:=by split <;> rfl
theorem Zuy (m:Nat) (fn:Zag) (c:Prop) [Decidable c] (x y:Option (Zad×Tms×Za)):Zas m fn (if c then x else y)=if c then Zas m fn x else Zas m fn y:=by split <;> rfl
end
section
variable {fs:Nat->Option Zag} {prim:ZaP} {bf:Nat->Bool} {m0:Nat}
theorem Zld {live:List Nat} {c:Zg} {tm tm':Tms} {σ σ':Za} (h:evC fs prim bf m0 c tm σ=some (.normal,tm',σ')):evL fs prim bf m0 live c tm σ=evL fs prim bf m0 live c (gcT m0 (keepL live tm') σ').1 (gcT m0 (keepL live tm') σ').2:=by
 unfold evL
 rw [h]
 simp only
 rw [Zjt]
 rfl
theorem Zmr {live:List Nat} {c:Zg} {tm tm':Tms} {σ σ':Za} {i:Nat} (h:evC fs prim bf m0 c tm σ=some (.exit i,tm',σ')):evL fs prim bf m0 live c tm σ=some (.exit i,tm',σ'):=by
 unfold evL;rw [h]
theorem Zqk {live:List Nat} {c:Zg} {tm tm':Tms} {σ σ':Za} (h:evC fs prim bf m0 c tm σ=some (.ret,tm',σ')):evL fs prim bf m0 live c tm σ=some (.ret,tm',σ'):=by
 unfold evL;rw [h]
variable (fs prim bf m0) in
noncomputable def evM (live:List Nat) (c:Zg):Option (Zad×Tms×Za)->Option (Zad×Tms×Za)
 | some (.normal,tm,σ)=>evL fs prim bf m0 live c (gcT m0 (keepL live tm) σ).1 (gcT m0 (keepL live tm) σ).2
 | r=>r
theorem Za6 (live:List Nat) (c:Zg) (tm:Tms) (σ:Za):evL fs prim bf m0 live c tm σ=evM fs prim bf m0 live c (evC fs prim bf m0 c tm σ):=by
 cases h:evC fs prim bf m0 c tm σ with
 | none=>unfold evL;rw [h];rfl
 | some q =>
  obtain ⟨e,tm',σ'⟩:=q
  cases e with
  | normal=>exact Zld h
  | exit i=>exact Zmr h
  | ret=>exact Zqk h
  | panic x=>unfold evL;rw [h];rfl
theorem Zq0 (live:List Nat) (c:Zg) (tm:Tms) (σ:Za):evM fs prim bf m0 live c (some (.normal,tm,σ))=evL fs prim bf m0 live c (gcT m0 (keepL live tm) σ).1 (gcT m0 (keepL live tm) σ).2:=rfl
theorem ZuE (live:List Nat) (c:Zg) (i:Nat) (tm:Tms) (σ:Za):evM fs prim bf m0 live c (some (.exit i,tm,σ))=some (.exit i,tm,σ):=rfl
theorem Zti (live:List Nat) (c:Zg) (tm:Tms) (σ:Za):evM fs prim bf m0 live c (some (.ret,tm,σ))=some (.ret,tm,σ):=rfl
theorem Zob (live:List Nat) (c:Zg) (x:AVal) (tm:Tms) (σ:Za):evM fs prim bf m0 live c (some (.panic x,tm,σ))=some (.panic x,tm,σ):=rfl
theorem Zn7 (live:List Nat) (b:Zg) (c:Prop) [Decidable c] (x y:Option (Zad×Tms×Za)):evM fs prim bf m0 live b (if c then x else y)=if c then evM fs prim bf m0 live b x else evM fs prim bf m0 live b y:=by split <;> rfl
end
def Zak:AVal->Bool
 | .int _ _=>true
 | .bool _=>true
 | .str _=>true
 | .nilp=>true
 | .nilm=>true
 | .nili=>true
 | .lst _ _=>true
 | .fn _ []=>true
 | _=>false
def Zah:AVal->Bool
 | .agg cs=>cs.all Zak
 | x=>Zak x
def Zap:AVal->AVal
 | .lst _ xs=>.lst false xs
 | x=>x
def Z8:AVal->AVal
 | .agg cs=>.agg (cs.map Zap)
 | x=>Zap x
theorem ZjB {σ:Za} {x:AVal} (h:Zak x=true):ZbF σ x=some (Zap x,[]):=by
 cases x <;> first | (simp [Zak] at h;done) | rfl
theorem Ziq {σ:Za}:∀ {xs:List AVal},xs.all Zak=true->Zbx σ xs=some (xs.map Zap,[])
 | [],_=>rfl
 | x::xs,h=>by
  simp only [List.all_cons,Bool.and_eq_true] at h
  simp only [Zbx,ZjB h.1,Ziq h.2,List.map_cons,List.append_nil]
theorem ZdH {x:AVal} (h:∀ cs,x≠.agg cs):Zah x=Zak x/\Z8 x=Zap x:=by
 cases x <;> first | exact ⟨rfl,rfl⟩ | exact absurd rfl (h _)
theorem ZtE {σ:Za} {x:AVal} (h:∀ cs,x≠.agg cs):showA σ x=ZbF σ x:=by
 cases x <;> first | rfl | exact absurd rfl (h _)
theorem ZgS (x:AVal):(∃ cs,x=.agg cs)\/∀ cs,x≠.agg cs:=by
 cases x <;> first | exact Or.inl ⟨_,rfl⟩ | (right;intro cs;simp)
theorem ZrN {σ:Za} {x:AVal} (h:Zah x=true):showA σ x=some (Z8 x,[]):=by
 rcases ZgS x with ⟨cs,rfl⟩ | hn
 ·simp only [Zah] at h
  simp only [showA,Ziq h,Z8]
 ·rw [(ZdH hn).1] at h
  rw [ZtE hn,(ZdH hn).2]
  exact ZjB h
theorem Zg8 {σ:Za}:∀ {xs:List AVal},xs.all Zah=true->showAs σ xs=some (xs.map Z8,[])
 | [],_=>rfl
 | x::xs,h=>by
  simp only [List.all_cons,Bool.and_eq_true] at h
  simp only [showAs,ZrN h.1,Zg8 h.2,List.map_cons,List.append_nil]
theorem Ziw {x:AVal} (h:Zak x=true):Zai (Zap x)=[]:=by
 cases x
 case fn f cs=>cases cs <;> simp [Zak] at h;rfl
 all_goals first | (simp [Zak] at h;done) | rfl
theorem ZjA:∀ {xs:List AVal},xs.all Zak=true->ZG (xs.map Zap)=[]
 | [],_=>rfl
 | x::xs,h=>by
  simp only [List.all_cons,Bool.and_eq_true] at h
  simp only [List.map_cons,ZG,Ziw h.1,ZjA h.2,List.append_nil]
theorem ZpE {x:AVal} (h:Zah x=true):Zai (Z8 x)=[]:=by
 rcases ZgS x with ⟨cs,rfl⟩ | hn
 ·simp only [Zah] at h
  simp only [Z8,Zai];exact ZjA h
 ·rw [(ZdH hn).1] at h
  rw [(ZdH hn).2];exact Ziw h
theorem Ze1:∀ {xs:List AVal},xs.all Zah=true->ZG (xs.map Z8)=[]
 | [],_=>rfl
 | x::xs,h=>by
  simp only [List.all_cons,Bool.and_eq_true] at h
  simp only [List.map_cons,ZG,ZpE h.1,Ze1 h.2,List.append_nil]
theorem ZiW {ρ:Rho} {x:AVal} (h:Zak x=true):Ze ρ (Zap x)=Zap x:=by
 cases x
 case fn f cs=>cases cs <;> simp [Zak] at h;rfl
 all_goals first | (simp [Zak] at h;done) | rfl
theorem Zko {ρ:Rho}:∀ {xs:List AVal},xs.all Zak=true->Zy ρ (xs.map Zap)=xs.map Zap
 | [],_=>rfl
 | x::xs,h=>by
  simp only [List.all_cons,Bool.and_eq_true] at h
  simp only [List.map_cons,Zy,ZiW h.1,Zko h.2]
theorem ZmQ {ρ:Rho} {x:AVal} (h:Zah x=true):Ze ρ (Z8 x)=Z8 x:=by
 rcases ZgS x with ⟨cs,rfl⟩ | hn
 ·simp only [Zah] at h
  simp only [Z8,Ze];rw [Zko h]
 ·rw [(ZdH hn).1] at h
  rw [(ZdH hn).2];exact ZiW h
theorem Zfj {ρ:Rho}:∀ {xs:List AVal},xs.all Zah=true->Zy ρ (xs.map Z8)=xs.map Z8
 | [],_=>rfl
 | x::xs,h=>by
  simp only [List.all_cons,Bool.and_eq_true] at h
  simp only [List.map_cons,Zy,ZmQ h.1,Zfj h.2]
theorem Zq6 {O:Zp} {bf:Nat->Bool} {σ:Za} {sq f own:Nat} {view:Bool} {args:List AVal} (hb:bf f=false) (h:args.all Zah=true) :
  ZF O bf σ sq f own view args=Zan σ σ [] [] sq own (ZaF view 0 (O f (args.map Z8) [])):=by
 unfold ZF ZbV
 rw [hb]
 simp only [Bool.false_eq_true,if_false,Zg8 h]
 have h1:Zl σ []=σ:=rfl
 rw [h1,Ze1 h]
 have h2:Zk σ 1000 [] []=[]:=rfl
 rw [h2]
 unfold Zbz
 simp only [List.all_nil,if_true,Zfj h,Zj,List.length_nil]
theorem Zr0 (σ:Za) (sq own:Nat) (r:AVal) (h:Ze (Zaw [] [] sq) r=r):Zan σ σ [] [] sq own (some (r,[]))=some (r,σ,{}):=by
 simp only [Zan,List.isEmpty_nil,Bool.and_self,if_true,Zcp,Bool.not_true,Bool.false_and,Bool.false_eq_true,if_false]
 split
 ·rfl
 ·rw [h]
end
section
section
variable (ρ:Rho) (σ:Za)
theorem Zwv  : Zab (.top)=false:=rfl
theorem ZoI  : Zab (.any)=false:=rfl
theorem Zpi (k:IntKind) (n:Int):Zab (.int k n)=false:=rfl
theorem Zwe (b:Bool):Zab (.bool b)=false:=rfl
theorem Zlj (l:List UInt8):Zab (.str l)=false:=rfl
theorem Zky  : Zab (.nilp)=false:=rfl
theorem ZoK (t:Nat) (o:Nat):Zab (.ref t o)=false:=rfl
theorem Zoz (t:Nat) (g:Nat) (i:Nat) (o:Nat):Zab (.eref t g i o)=false:=rfl
theorem ZlL (cs:List AVal) (o:Nat):Zab (.iptr cs o)=false:=rfl
theorem Zv1 (x:Bool) (xs:List AVal):Zab (.lst x xs)=false:=rfl
theorem ZwI (t:Nat) (g:Nat) (lo:Nat) (n:Nat):Zab (.sl t g lo n)=false:=rfl
theorem ZtF (cs:List AVal):Zab (.agg cs)=false:=rfl
theorem ZuI (vs:List AVal):Zab (.tup vs)=false:=rfl
theorem Zm1 (f:Nat) (caps:List AVal):Zab (.fn f caps)=false:=rfl
theorem ZwG  : Zab (.nilm)=false:=rfl
theorem Zro (t:Nat):Zab (.map t)=false:=rfl
theorem ZoP  : Zab (.nili)=false:=rfl
theorem Zvz (t:Nat) (x:AVal):Zab (.iface t x)=false:=rfl
theorem Zsb (x:AVal):Zab (.pan x)=true:=rfl
theorem Zoi  : ZC (.top)=false:=rfl
theorem Zq3  : ZC (.any)=true:=rfl
theorem Zm2 (k:IntKind) (n:Int):ZC (.int k n)=true:=rfl
theorem Zuv (b:Bool):ZC (.bool b)=true:=rfl
theorem ZmW (l:List UInt8):ZC (.str l)=true:=rfl
theorem ZlS  : ZC (.nilp)=true:=rfl
theorem Zpy (t:Nat) (o:Nat):ZC (.ref t o)=true:=rfl
theorem Zsh (t:Nat) (g:Nat) (i:Nat) (o:Nat):ZC (.eref t g i o)=true:=rfl
theorem ZkR (cs:List AVal) (o:Nat):ZC (.iptr cs o)=true:=rfl
theorem ZpR (x:Bool) (xs:List AVal):ZC (.lst x xs)=true:=rfl
theorem Zor (t:Nat) (g:Nat) (lo:Nat) (n:Nat):ZC (.sl t g lo n)=true:=rfl
theorem Zo0 (cs:List AVal):ZC (.agg cs)=false:=rfl
theorem Zne (vs:List AVal):ZC (.tup vs)=false:=rfl
theorem Ztr (f:Nat) (caps:List AVal):ZC (.fn f caps)=true:=rfl
theorem ZnW  : ZC (.nilm)=true:=rfl
theorem Zrz (t:Nat):ZC (.map t)=true:=rfl
theorem Zlt  : ZC (.nili)=true:=rfl
theorem Ztc (t:Nat) (x:AVal):ZC (.iface t x)=true:=rfl
theorem Zpx (x:AVal):ZC (.pan x)=false:=rfl
theorem Zvo  : ZaJ (.top)=false:=rfl
theorem ZoT  : ZaJ (.any)=true:=rfl
theorem Znd (k:IntKind) (n:Int):ZaJ (.int k n)=true:=rfl
theorem ZsR (b:Bool):ZaJ (.bool b)=true:=rfl
theorem Zt6 (l:List UInt8):ZaJ (.str l)=true:=rfl
theorem Zpm  : ZaJ (.nilp)=true:=rfl
theorem ZuR (t:Nat) (o:Nat):ZaJ (.ref t o)=true:=rfl
theorem ZrZ (t:Nat) (g:Nat) (i:Nat) (o:Nat):ZaJ (.eref t g i o)=true:=rfl
theorem Zmd (cs:List AVal) (o:Nat):ZaJ (.iptr cs o)=true:=rfl
theorem ZqE (x:Bool) (xs:List AVal):ZaJ (.lst x xs)=true:=rfl
theorem Zp3 (t:Nat) (g:Nat) (lo:Nat) (n:Nat):ZaJ (.sl t g lo n)=true:=rfl
theorem Znb (cs:List AVal):ZaJ (.agg cs)=true:=rfl
theorem ZpC (vs:List AVal):ZaJ (.tup vs)=true:=rfl
theorem ZoM (f:Nat) (caps:List AVal):ZaJ (.fn f caps)=true:=rfl
theorem Zpk  : ZaJ (.nilm)=true:=rfl
theorem ZnO (t:Nat):ZaJ (.map t)=true:=rfl
theorem ZnA  : ZaJ (.nili)=true:=rfl
theorem Zqo (t:Nat) (x:AVal):ZaJ (.iface t x)=true:=rfl
theorem Zt1 (x:AVal):ZaJ (.pan x)=true:=rfl
theorem Zk2  : Zao (.top)=false:=rfl
theorem Zv5  : Zao (.any)=false:=rfl
theorem Zlg (k:IntKind) (n:Int):Zao (.int k n)=true:=rfl
theorem Zuz (b:Bool):Zao (.bool b)=true:=rfl
theorem Zs0 (l:List UInt8):Zao (.str l)=true:=rfl
theorem ZlA  : Zao (.nilp)=true:=rfl
theorem Zmo (t:Nat) (o:Nat):Zao (.ref t o)=false:=rfl
theorem Zu8 (t:Nat) (g:Nat) (i:Nat) (o:Nat):Zao (.eref t g i o)=false:=rfl
theorem Zr9 (cs:List AVal) (o:Nat):Zao (.iptr cs o)=false:=rfl
theorem ZkF (x:Bool) (xs:List AVal):Zao (.lst x xs)=false:=rfl
theorem ZsK (t:Nat) (g:Nat) (lo:Nat) (n:Nat):Zao (.sl t g lo n)=false:=rfl
theorem Zra (cs:List AVal):Zao (.agg cs)=false:=rfl
theorem Zso (vs:List AVal):Zao (.tup vs)=false:=rfl
theorem Zrx (f:Nat) (caps:List AVal):Zao (.fn f caps)=false:=rfl
theorem ZwK  : Zao (.nilm)=true:=rfl
theorem ZrT (t:Nat):Zao (.map t)=false:=rfl
theorem Zq4  : Zao (.nili)=true:=rfl
theorem ZoX (t:Nat) (x:AVal):Zao (.iface t x)=false:=rfl
theorem ZoW (x:AVal):Zao (.pan x)=false:=rfl
theorem ZnB  : Zat (.top)=false:=rfl
theorem ZtN  : Zat (.any)=false:=rfl
theorem Zst (k:IntKind) (n:Int):Zat (.int k n)=true:=rfl
theorem ZkY (b:Bool):Zat (.bool b)=true:=rfl
theorem ZkE (l:List UInt8):Zat (.str l)=true:=rfl
theorem Zm0  : Zat (.nilp)=true:=rfl
theorem ZmB (t:Nat) (o:Nat):Zat (.ref t o)=false:=rfl
theorem ZuX (t:Nat) (g:Nat) (i:Nat) (o:Nat):Zat (.eref t g i o)=false:=rfl
theorem ZoL (cs:List AVal) (o:Nat):Zat (.iptr cs o)=false:=rfl
theorem Zs8 (x:Bool) (xs:List AVal):Zat (.lst x xs)=false:=rfl
theorem ZpX (t:Nat) (g:Nat) (lo:Nat) (n:Nat):Zat (.sl t g lo n)=false:=rfl
theorem ZoD (cs:List AVal):Zat (.agg cs)=cs.all Zao:=rfl
theorem ZoH (vs:List AVal):Zat (.tup vs)=false:=rfl
theorem Zuk (f:Nat) (caps:List AVal):Zat (.fn f caps)=false:=rfl
theorem Zox  : Zat (.nilm)=true:=rfl
theorem ZpT (t:Nat):Zat (.map t)=false:=rfl
theorem ZnH  : Zat (.nili)=true:=rfl
theorem Zwa (t:Nat) (x:AVal):Zat (.iface t x)=false:=rfl
theorem Znj (x:AVal):Zat (.pan x)=false:=rfl
theorem Zry  : ZaE (.top)=false:=rfl
theorem Zpw  : ZaE (.any)=false:=rfl
theorem Zt8 (k:IntKind) (n:Int):ZaE (.int k n)=true:=rfl
theorem Zoj (b:Bool):ZaE (.bool b)=true:=rfl
theorem ZtP (l:List UInt8):ZaE (.str l)=true:=rfl
theorem ZsT  : ZaE (.nilp)=true:=rfl
theorem ZuQ (t:Nat) (o:Nat):ZaE (.ref t o)=false:=rfl
theorem ZrR (t:Nat) (g:Nat) (i:Nat) (o:Nat):ZaE (.eref t g i o)=false:=rfl
theorem Ztt (cs:List AVal) (o:Nat):ZaE (.iptr cs o)=false:=rfl
theorem Zss (x:Bool) (xs:List AVal):ZaE (.lst x xs)=false:=rfl
theorem Ztf (t:Nat) (g:Nat) (lo:Nat) (n:Nat):ZaE (.sl t g lo n)=false:=rfl
theorem ZvC (cs:List AVal):ZaE (.agg cs)=cs.all Zao:=rfl
theorem Zlu (vs:List AVal):ZaE (.tup vs)=vs.all Zat:=rfl
theorem ZkW (f:Nat) (caps:List AVal):ZaE (.fn f caps)=false:=rfl
theorem ZrK  : ZaE (.nilm)=true:=rfl
theorem ZvT (t:Nat):ZaE (.map t)=false:=rfl
theorem Znw  : ZaE (.nili)=true:=rfl
theorem Zrp (t:Nat) (x:AVal):ZaE (.iface t x)=false:=rfl
theorem Zqw  : Zak (.top)=false:=rfl
theorem Zta  : Zak (.any)=false:=rfl
theorem ZuZ (k:IntKind) (n:Int):Zak (.int k n)=true:=rfl
theorem Zqr (b:Bool):Zak (.bool b)=true:=rfl
theorem ZlT (l:List UInt8):Zak (.str l)=true:=rfl
theorem ZqS  : Zak (.nilp)=true:=rfl
theorem ZmP (t:Nat) (o:Nat):Zak (.ref t o)=false:=rfl
theorem ZmY (t:Nat) (g:Nat) (i:Nat) (o:Nat):Zak (.eref t g i o)=false:=rfl
theorem Zwf (cs:List AVal) (o:Nat):Zak (.iptr cs o)=false:=rfl
theorem Zpt (x:Bool) (xs:List AVal):Zak (.lst x xs)=true:=rfl
theorem Zvq (t:Nat) (g:Nat) (lo:Nat) (n:Nat):Zak (.sl t g lo n)=false:=rfl
theorem Zql (cs:List AVal):Zak (.agg cs)=false:=rfl
theorem Zo1 (vs:List AVal):Zak (.tup vs)=false:=rfl
theorem ZsH  : Zak (.nilm)=true:=rfl
theorem ZqD (t:Nat):Zak (.map t)=false:=rfl
theorem Zwx  : Zak (.nili)=true:=rfl
theorem Znx (t:Nat) (x:AVal):Zak (.iface t x)=false:=rfl
theorem Zrt (x:AVal):Zak (.pan x)=false:=rfl
theorem Zn4  : Zah (.top)=false:=rfl
theorem Zu6  : Zah (.any)=false:=rfl
theorem Zvc (k:IntKind) (n:Int):Zah (.int k n)=true:=rfl
theorem ZuB (b:Bool):Zah (.bool b)=true:=rfl
theorem Zrf (l:List UInt8):Zah (.str l)=true:=rfl
theorem Zn8  : Zah (.nilp)=true:=rfl
theorem ZsG (t:Nat) (o:Nat):Zah (.ref t o)=false:=rfl
theorem Zpu (t:Nat) (g:Nat) (i:Nat) (o:Nat):Zah (.eref t g i o)=false:=rfl
theorem Zl6 (cs:List AVal) (o:Nat):Zah (.iptr cs o)=false:=rfl
theorem ZpM (x:Bool) (xs:List AVal):Zah (.lst x xs)=true:=rfl
theorem ZsS (t:Nat) (g:Nat) (lo:Nat) (n:Nat):Zah (.sl t g lo n)=false:=rfl
theorem Zsf (cs:List AVal):Zah (.agg cs)=cs.all Zak:=rfl
theorem ZoR (vs:List AVal):Zah (.tup vs)=false:=rfl
theorem Zlk  : Zah (.nilm)=true:=rfl
theorem ZoN (t:Nat):Zah (.map t)=false:=rfl
theorem Zui  : Zah (.nili)=true:=rfl
theorem Zqi (t:Nat) (x:AVal):Zah (.iface t x)=false:=rfl
theorem ZkG (x:AVal):Zah (.pan x)=false:=rfl
theorem ZuC  : Zap (.top)=(.top):=rfl
theorem Zvp  : Zap (.any)=(.any):=rfl
theorem Zpl (k:IntKind) (n:Int):Zap (.int k n)=(.int k n):=rfl
theorem Znm (b:Bool):Zap (.bool b)=(.bool b):=rfl
theorem Zny (l:List UInt8):Zap (.str l)=(.str l):=rfl
theorem ZrE  : Zap (.nilp)=(.nilp):=rfl
theorem ZrY (t:Nat) (o:Nat):Zap (.ref t o)=(.ref t o):=rfl
theorem Zlh (t:Nat) (g:Nat) (i:Nat) (o:Nat):Zap (.eref t g i o)=(.eref t g i o):=rfl
theorem ZmK (cs:List AVal) (o:Nat):Zap (.iptr cs o)=(.iptr cs o):=rfl
theorem ZlO (x:Bool) (xs:List AVal):Zap (.lst x xs)=.lst false xs:=rfl
theorem Zm7 (t:Nat) (g:Nat) (lo:Nat) (n:Nat):Zap (.sl t g lo n)=(.sl t g lo n):=rfl
theorem Zv7 (cs:List AVal):Zap (.agg cs)=(.agg cs):=rfl
theorem ZpO (vs:List AVal):Zap (.tup vs)=(.tup vs):=rfl
theorem Zvm (f:Nat) (caps:List AVal):Zap (.fn f caps)=(.fn f caps):=rfl
theorem Zop  : Zap (.nilm)=(.nilm):=rfl
theorem Zth (t:Nat):Zap (.map t)=(.map t):=rfl
theorem ZoZ  : Zap (.nili)=(.nili):=rfl
theorem Zqj (t:Nat) (x:AVal):Zap (.iface t x)=(.iface t x):=rfl
theorem Zm3 (x:AVal):Zap (.pan x)=(.pan x):=rfl
theorem Zps  : Z8 (.top)=(.top):=rfl
theorem Zlb  : Z8 (.any)=(.any):=rfl
theorem Zua (k:IntKind) (n:Int):Z8 (.int k n)=(.int k n):=rfl
theorem ZsN (b:Bool):Z8 (.bool b)=(.bool b):=rfl
theorem Zvu (l:List UInt8):Z8 (.str l)=(.str l):=rfl
theorem ZvN  : Z8 (.nilp)=(.nilp):=rfl
theorem Ztm (t:Nat) (o:Nat):Z8 (.ref t o)=(.ref t o):=rfl
theorem ZtQ (t:Nat) (g:Nat) (i:Nat) (o:Nat):Z8 (.eref t g i o)=(.eref t g i o):=rfl
theorem Zv3 (cs:List AVal) (o:Nat):Z8 (.iptr cs o)=(.iptr cs o):=rfl
theorem Zk4 (x:Bool) (xs:List AVal):Z8 (.lst x xs)=.lst false xs:=rfl
theorem Ztn (t:Nat) (g:Nat) (lo:Nat) (n:Nat):Z8 (.sl t g lo n)=(.sl t g lo n):=rfl
theorem Zwb (cs:List AVal):Z8 (.agg cs)=.agg (cs.map Zap):=rfl
theorem Zsc (vs:List AVal):Z8 (.tup vs)=(.tup vs):=rfl
theorem ZpA (f:Nat) (caps:List AVal):Z8 (.fn f caps)=(.fn f caps):=rfl
theorem ZqT  : Z8 (.nilm)=(.nilm):=rfl
theorem ZsA (t:Nat):Z8 (.map t)=(.map t):=rfl
theorem ZsL  : Z8 (.nili)=(.nili):=rfl
theorem ZtC (t:Nat) (x:AVal):Z8 (.iface t x)=(.iface t x):=rfl
theorem Ztz (x:AVal):Z8 (.pan x)=(.pan x):=rfl
theorem Zma  : AVal.cells (.top)=[(.top)]:=rfl
theorem ZnC  : AVal.cells (.any)=[(.any)]:=rfl
theorem Zq2 (k:IntKind) (n:Int):AVal.cells (.int k n)=[(.int k n)]:=rfl
theorem Zoy (b:Bool):AVal.cells (.bool b)=[(.bool b)]:=rfl
theorem ZnJ (l:List UInt8):AVal.cells (.str l)=[(.str l)]:=rfl
theorem ZvF  : AVal.cells (.nilp)=[(.nilp)]:=rfl
theorem Zqh (t:Nat) (o:Nat):AVal.cells (.ref t o)=[(.ref t o)]:=rfl
theorem Zt5 (t:Nat) (g:Nat) (i:Nat) (o:Nat):AVal.cells (.eref t g i o)=[(.eref t g i o)]:=rfl
theorem ZlK (cs:List AVal) (o:Nat):AVal.cells (.iptr cs o)=[(.iptr cs o)]:=rfl
theorem ZrA (x:Bool) (xs:List AVal):AVal.cells (.lst x xs)=[(.lst x xs)]:=rfl
theorem Zo3 (t:Nat) (g:Nat) (lo:Nat) (n:Nat):AVal.cells (.sl t g lo n)=[(.sl t g lo n)]:=rfl
theorem ZnY (cs:List AVal):AVal.cells (.agg cs)=cs:=rfl
theorem Zoe (vs:List AVal):AVal.cells (.tup vs)=[(.tup vs)]:=rfl
theorem Zrj (f:Nat) (caps:List AVal):AVal.cells (.fn f caps)=[(.fn f caps)]:=rfl
theorem ZuY  : AVal.cells (.nilm)=[(.nilm)]:=rfl
theorem Zlx (t:Nat):AVal.cells (.map t)=[(.map t)]:=rfl
theorem ZpW  : AVal.cells (.nili)=[(.nili)]:=rfl
theorem Zpj (t:Nat) (x:AVal):AVal.cells (.iface t x)=[(.iface t x)]:=rfl
theorem ZsM (x:AVal):AVal.cells (.pan x)=[(.pan x)]:=rfl
theorem ZqM  : Zaf (.top)=(.top):=rfl
theorem Zpb  : Zaf (.any)=(.any):=rfl
theorem Zub (k:IntKind) (n:Int):Zaf (.int k n)=(.int k n):=rfl
theorem ZvV (b:Bool):Zaf (.bool b)=(.bool b):=rfl
theorem ZwD (l:List UInt8):Zaf (.str l)=(.str l):=rfl
theorem ZkC  : Zaf (.nilp)=(.nilp):=rfl
theorem Zqu (t:Nat) (o:Nat):Zaf (.ref t o)=(.ref t o):=rfl
theorem Zux (t:Nat) (g:Nat) (i:Nat) (o:Nat):Zaf (.eref t g i o)=(.eref t g i o):=rfl
theorem Zv9 (cs:List AVal) (o:Nat):Zaf (.iptr cs o)=(.iptr cs o):=rfl
theorem ZuS (x:Bool) (xs:List AVal):Zaf (.lst x xs)=(.lst x xs):=rfl
theorem ZsU (t:Nat) (g:Nat) (lo:Nat) (n:Nat):Zaf (.sl t g lo n)=(.sl t g lo n):=rfl
theorem Zv0 (cs:List AVal):Zaf (.agg cs)=(.agg cs):=rfl
theorem ZoS (vs:List AVal):Zaf (.tup vs)=(.tup vs):=rfl
theorem Zu1 (f:Nat) (caps:List AVal):Zaf (.fn f caps)=(.fn f caps):=rfl
theorem Zqa  : Zaf (.nilm)=(.nilm):=rfl
theorem Zsz (t:Nat):Zaf (.map t)=(.map t):=rfl
theorem Zm9  : Zaf (.nili)=(.nili):=rfl
theorem Zph (t:Nat) (x:AVal):Zaf (.iface t x)=(.iface t x):=rfl
theorem ZuT (x:AVal):Zaf (.pan x)=x:=rfl
theorem Zto  : Zaj (.top)=4:=rfl
theorem Ztx  : Zaj (.any)=4:=rfl
theorem ZlY (k:IntKind) (n:Int):Zaj (.int k n)=0:=rfl
theorem Zlq (b:Bool):Zaj (.bool b)=1:=rfl
theorem Zmw (l:List UInt8):Zaj (.str l)=2:=rfl
theorem Zpa  : Zaj (.nilp)=4:=rfl
theorem ZvG (t:Nat) (o:Nat):Zaj (.ref t o)=4:=rfl
theorem Zmv (t:Nat) (g:Nat) (i:Nat) (o:Nat):Zaj (.eref t g i o)=4:=rfl
theorem ZtJ (cs:List AVal) (o:Nat):Zaj (.iptr cs o)=4:=rfl
theorem Zrr (x:Bool) (xs:List AVal):Zaj (.lst x xs)=4:=rfl
theorem Zon (t:Nat) (g:Nat) (lo:Nat) (n:Nat):Zaj (.sl t g lo n)=4:=rfl
theorem Zn9 (cs:List AVal):Zaj (.agg cs)=4:=rfl
theorem ZlG (vs:List AVal):Zaj (.tup vs)=4:=rfl
theorem ZlE (f:Nat) (caps:List AVal):Zaj (.fn f caps)=4:=rfl
theorem Zvb  : Zaj (.nilm)=4:=rfl
theorem ZuN (t:Nat):Zaj (.map t)=4:=rfl
theorem Zmh  : Zaj (.nili)=4:=rfl
theorem Zr5 (t:Nat) (x:AVal):Zaj (.iface t x)=4:=rfl
theorem ZkV (x:AVal):Zaj (.pan x)=4:=rfl
theorem ZnN  : Zai (.top)=[]:=rfl
theorem ZvP  : Zai (.any)=[]:=rfl
theorem ZnM (k:IntKind) (n:Int):Zai (.int k n)=[]:=rfl
theorem Zqd (b:Bool):Zai (.bool b)=[]:=rfl
theorem ZuV (l:List UInt8):Zai (.str l)=[]:=rfl
theorem Zu9  : Zai (.nilp)=[]:=rfl
theorem ZkU (t:Nat) (o:Nat):Zai (.ref t o)=[t]:=rfl
theorem Zl4 (t:Nat) (g:Nat) (i:Nat) (o:Nat):Zai (.eref t g i o)=[t]:=rfl
theorem Ztq (cs:List AVal) (o:Nat):Zai (.iptr cs o)=[]:=rfl
theorem Zme (x:Bool) (xs:List AVal):Zai (.lst x xs)=[]:=rfl
theorem Zsp (t:Nat) (g:Nat) (lo:Nat) (n:Nat):Zai (.sl t g lo n)=[t]:=rfl
theorem Zru (cs:List AVal):Zai (.agg cs)=ZG cs:=rfl
theorem Zsr (vs:List AVal):Zai (.tup vs)=ZG vs:=rfl
theorem ZqN (f:Nat) (caps:List AVal):Zai (.fn f caps)=ZG caps:=rfl
theorem Zvj  : Zai (.nilm)=[]:=rfl
theorem Zle (t:Nat):Zai (.map t)=[t]:=rfl
theorem Zwy  : Zai (.nili)=[]:=rfl
theorem ZtD (t:Nat) (x:AVal):Zai (.iface t x)=Zai x:=rfl
theorem Zqz (x:AVal):Zai (.pan x)=Zai x:=rfl
theorem Zt0  : Ze ρ (.top)=(.top):=rfl
theorem ZvR  : Ze ρ (.any)=(.any):=rfl
theorem Zl2 (k:IntKind) (n:Int):Ze ρ (.int k n)=(.int k n):=rfl
theorem Zws (b:Bool):Ze ρ (.bool b)=(.bool b):=rfl
theorem ZtH (l:List UInt8):Ze ρ (.str l)=(.str l):=rfl
theorem Zp8  : Ze ρ (.nilp)=(.nilp):=rfl
theorem ZmL (cs:List AVal) (o:Nat):Ze ρ (.iptr cs o)=(.iptr cs o):=rfl
theorem Zmu (x:Bool) (xs:List AVal):Ze ρ (.lst x xs)=(.lst x xs):=rfl
theorem ZtW (cs:List AVal):Ze ρ (.agg cs)=.agg (Zy ρ cs):=rfl
theorem Zo9 (vs:List AVal):Ze ρ (.tup vs)=.tup (Zy ρ vs):=rfl
theorem Zml (f:Nat) (caps:List AVal):Ze ρ (.fn f caps)=.fn f (Zy ρ caps):=rfl
theorem ZqA  : Ze ρ (.nilm)=(.nilm):=rfl
theorem ZlW  : Ze ρ (.nili)=(.nili):=rfl
theorem Zus (t:Nat) (x:AVal):Ze ρ (.iface t x)=.iface t (Ze ρ x):=rfl
theorem Zof (x:AVal):Ze ρ (.pan x)=.pan (Ze ρ x):=rfl
theorem Zp4 (f:Nat):Zak (.fn f [])=true:=rfl
theorem ZpJ (f:Nat):Zah (.fn f [])=true:=rfl
theorem Zuf (t:Nat) (x:AVal):ZaE (.pan (.iface t x))=Zao x:=rfl
theorem Zp1 (live:List Nat) (tm:Tms):Zfx live (some (tm,σ,none))=some (.normal,keepL live tm,σ):=rfl
theorem ZpL (live:List Nat) (tm:Tms) (x:AVal):Zfx live (some (tm,σ,some x))=some (.panic x,[],σ):=rfl
theorem Znr (live:List Nat):Zfx live none=none:=rfl
theorem Zs6 (t o:Nat):Ze ρ (.ref t o)=(match ρ t 0 with | some (t',0)=>.ref t' o | _=>.any):=rfl
theorem ZsI (t:Nat):Ze ρ (.map t)=(match ρ t 0 with | some (t',0)=>.map t' | _=>.any):=rfl
theorem ZmT (t g lo n:Nat):Ze ρ (.sl t g lo n)=(match ρ t g with | some (t',g')=>.sl t' g' lo n | none=>.any):=rfl
theorem Zuj (t g i o:Nat):Ze ρ (.eref t g i o)=(match ρ t g with | some (t',g')=>.eref t' g' i o | none=>.any):=rfl
theorem Zt7:ZG []=[]:=rfl
theorem ZtI (x:AVal) (xs:List AVal):ZG (x::xs)=Zai x++ZG xs:=rfl
theorem ZrW:Zy ρ []=[]:=rfl
theorem Zol (x:AVal) (xs:List AVal):Zy ρ (x::xs)=Ze ρ x::Zy ρ xs:=rfl
end
end
section
mutual
def Z6:AVal->Bool
 | .ref _ _=>false
 | .eref _ _ _ _=>false
 | .sl _ _ _ _=>false
 | .map _=>false
 | .agg cs=>ZA cs
 | .tup vs=>ZA vs
 | .fn _ vs=>ZA vs
 | .iface _ x=>Z6 x
 | .pan x=>Z6 x
 | .top=>true
 | .any=>true
 | .int _ _=>true
 | .bool _=>true
 | .str _=>true
 | .nilp=>true
 | .nilm=>true
 | .nili=>true
 | .iptr _ _=>true
 | .lst _ _=>true
def ZA:List AVal->Bool
 | []=>true
 | x::xs=>Z6 x && ZA xs
end
mutual
theorem Zbp (ρ:Rho):∀ (x:AVal),Z6 x=true->Ze ρ x=x/\Zai x=[]
 | .ref _ _,h=>by simp [Z6] at h
 | .eref _ _ _ _,h=>by simp [Z6] at h
 | .sl _ _ _ _,h=>by simp [Z6] at h
 | .map _,h=>by simp [Z6] at h
 | .agg cs,h=>by have:=Zeb ρ cs (by simpa only [Z6] using h);exact ⟨by simp only [Ze,this.1],by simp only [Zai,this.2]⟩
 | .tup cs,h=>by have:=Zeb ρ cs (by simpa only [Z6] using h);exact ⟨by simp only [Ze,this.1],by simp only [Zai,this.2]⟩
 | .fn f cs,h=>by have:=Zeb ρ cs (by simpa only [Z6] using h);exact ⟨by simp only [Ze,this.1],by simp only [Zai,this.2]⟩
 | .iface t x,h=>by have:=Zbp ρ x (by simpa only [Z6] using h);exact ⟨by simp only [Ze,this.1],by simp only [Zai,this.2]⟩
 | .pan x,h=>by have:=Zbp ρ x (by simpa only [Z6] using h);exact ⟨by simp only [Ze,this.1],by simp only [Zai,this.2]⟩
 | .top,_=>⟨rfl,rfl⟩
 | .any,_=>⟨rfl,rfl⟩
 | .int _ _,_=>⟨rfl,rfl⟩
 | .bool _,_=>⟨rfl,rfl⟩
 | .str _,_=>⟨rfl,rfl⟩
 | .nilp,_=>⟨rfl,rfl⟩
 | .nilm,_=>⟨rfl,rfl⟩
 | .nili,_=>⟨rfl,rfl⟩
 | .iptr _ _,_=>⟨rfl,rfl⟩
 | .lst _ _,_=>⟨rfl,rfl⟩
theorem Zeb (ρ:Rho):∀ (xs:List AVal),ZA xs=true->Zy ρ xs=xs/\ZG xs=[]
 | [],_=>⟨rfl,rfl⟩
 | x::xs,h=>by
  simp only [ZA,Bool.and_eq_true] at h
  have h1:=Zbp ρ x h.1
  have h2:=Zeb ρ xs h.2
  exact ⟨by simp only [Zy,h1.1,h2.1],by simp only [ZG,h1.2,h2.2,List.append_nil]⟩
end
theorem Ztj {σ:Za} {r:AVal} (h:Z6 r=true):ZaM 0 σ r=some (r,[]):=by
 have h1:=Zbp (Zf σ 0 []) r h
 have hids:Zs 0 [r] σ=[]:=by
  unfold Zs
  simp only [ZG,h1.2,List.append_nil,List.range_zero,List.flatMap_nil]
  rfl
 unfold ZaM gcA
 simp only [hids,Zy,Zj,h1.1]
def Za4:AVal->AVal
 | .tup vs=>.tup (vs.map Z8)
 | x=>Z8 x
def ZaX:AVal->Bool
 | .tup vs=>vs.all Zah
 | x=>Zah x
def ZaH:AVal->Bool
 | .fn _ _=>false
 | _=>true
def ZaI:AVal->Bool
 | .agg cs=>cs.all ZaH
 | x=>ZaH x
def ZaU:AVal->Bool
 | .tup vs=>vs.all ZaI
 | x=>ZaI x
theorem Zoc {m:Nat} {fn:Zag} {tm:Tms} {σ:Za}:Zas m fn (some (.ret,tm,σ))=match resA tm σ fn.res with
  | some r=>ZaM m σ r
  | none=>none:=rfl
theorem Zq8 {m:Nat} {fn:Zag} {tm:Tms} {σ:Za}:Zas m fn (some (.normal,tm,σ))=match resA tm σ fn.res with
  | some r=>ZaM m σ r
  | none=>none:=rfl
theorem ZmC {m:Nat} {fn:Zag} {tm:Tms} {σ:Za} {x:AVal}:Zas m fn (some (.panic x,tm,σ))=ZaM m σ (.pan x):=rfl
theorem Zs1  : Z6 (.top)=true:=rfl
theorem ZkD  : Z6 (.any)=true:=rfl
theorem Zns (k:IntKind) (n:Int):Z6 (.int k n)=true:=rfl
theorem Zlc (b:Bool):Z6 (.bool b)=true:=rfl
theorem ZnQ (l:List UInt8):Z6 (.str l)=true:=rfl
theorem ZnS  : Z6 (.nilp)=true:=rfl
theorem ZlV (t:Nat) (o:Nat):Z6 (.ref t o)=false:=rfl
theorem Zl8 (t:Nat) (g:Nat) (i:Nat) (o:Nat):Z6 (.eref t g i o)=false:=rfl
theorem ZqK (cs:List AVal) (o:Nat):Z6 (.iptr cs o)=true:=rfl
theorem ZmA (x:Bool) (xs:List AVal):Z6 (.lst x xs)=true:=rfl
theorem ZoQ (t:Nat) (g:Nat) (lo:Nat) (n:Nat):Z6 (.sl t g lo n)=false:=rfl
theorem Zuo (cs:List AVal):Z6 (.agg cs)=ZA cs:=rfl
theorem Zut (vs:List AVal):Z6 (.tup vs)=ZA vs:=rfl
theorem Zs3 (f:Nat) (caps:List AVal):Z6 (.fn f caps)=ZA caps:=rfl
theorem ZuA  : Z6 (.nilm)=true:=rfl
theorem Ztk (t:Nat):Z6 (.map t)=false:=rfl
theorem ZrS  : Z6 (.nili)=true:=rfl
theorem Zr2 (t:Nat) (x:AVal):Z6 (.iface t x)=Z6 x:=rfl
theorem Zpc (x:AVal):Z6 (.pan x)=Z6 x:=rfl
theorem Zr8  : ZaH (.top)=true:=rfl
theorem Zt2  : ZaH (.any)=true:=rfl
theorem ZkP (k:IntKind) (n:Int):ZaH (.int k n)=true:=rfl
theorem ZkM (b:Bool):ZaH (.bool b)=true:=rfl
theorem ZtS (l:List UInt8):ZaH (.str l)=true:=rfl
theorem Zow  : ZaH (.nilp)=true:=rfl
theorem ZsF (t:Nat) (o:Nat):ZaH (.ref t o)=true:=rfl
theorem Zs9 (t:Nat) (g:Nat) (i:Nat) (o:Nat):ZaH (.eref t g i o)=true:=rfl
theorem Zwj (cs:List AVal) (o:Nat):ZaH (.iptr cs o)=true:=rfl
theorem ZqW (x:Bool) (xs:List AVal):ZaH (.lst x xs)=true:=rfl
theorem ZoJ (t:Nat) (g:Nat) (lo:Nat) (n:Nat):ZaH (.sl t g lo n)=true:=rfl
theorem Zmj (cs:List AVal):ZaH (.agg cs)=true:=rfl
theorem ZsD (vs:List AVal):ZaH (.tup vs)=true:=rfl
theorem ZkZ (f:Nat) (caps:List AVal):ZaH (.fn f caps)=false:=rfl
theorem Zue  : ZaH (.nilm)=true:=rfl
theorem Zpo (t:Nat):ZaH (.map t)=true:=rfl
theorem Zs7  : ZaH (.nili)=true:=rfl
theorem Zul (t:Nat) (x:AVal):ZaH (.iface t x)=true:=rfl
theorem ZqQ (x:AVal):ZaH (.pan x)=true:=rfl
theorem Zmn  : ZaI (.top)=true:=rfl
theorem ZmM  : ZaI (.any)=true:=rfl
theorem ZpH (k:IntKind) (n:Int):ZaI (.int k n)=true:=rfl
theorem Zq7 (b:Bool):ZaI (.bool b)=true:=rfl
theorem Zvi (l:List UInt8):ZaI (.str l)=true:=rfl
theorem ZlC  : ZaI (.nilp)=true:=rfl
theorem Zty (t:Nat) (o:Nat):ZaI (.ref t o)=true:=rfl
theorem Zl0 (t:Nat) (g:Nat) (i:Nat) (o:Nat):ZaI (.eref t g i o)=true:=rfl
theorem ZrF (cs:List AVal) (o:Nat):ZaI (.iptr cs o)=true:=rfl
theorem ZrC (x:Bool) (xs:List AVal):ZaI (.lst x xs)=true:=rfl
theorem Zk9 (t:Nat) (g:Nat) (lo:Nat) (n:Nat):ZaI (.sl t g lo n)=true:=rfl
theorem ZtA (cs:List AVal):ZaI (.agg cs)=cs.all ZaH:=rfl
theorem Zkx (vs:List AVal):ZaI (.tup vs)=true:=rfl
theorem ZnF (f:Nat) (caps:List AVal):ZaI (.fn f caps)=false:=rfl
theorem Zvh  : ZaI (.nilm)=true:=rfl
theorem Zqs (t:Nat):ZaI (.map t)=true:=rfl
theorem Zv6  : ZaI (.nili)=true:=rfl
theorem Zo7 (t:Nat) (x:AVal):ZaI (.iface t x)=true:=rfl
theorem Zwc (x:AVal):ZaI (.pan x)=true:=rfl
theorem ZlX  : ZaU (.top)=true:=rfl
theorem Zk3  : ZaU (.any)=true:=rfl
theorem Zmb (k:IntKind) (n:Int):ZaU (.int k n)=true:=rfl
theorem Zrv (b:Bool):ZaU (.bool b)=true:=rfl
theorem Zmc (l:List UInt8):ZaU (.str l)=true:=rfl
theorem ZuO  : ZaU (.nilp)=true:=rfl
theorem ZqY (t:Nat) (o:Nat):ZaU (.ref t o)=true:=rfl
theorem Zpr (t:Nat) (g:Nat) (i:Nat) (o:Nat):ZaU (.eref t g i o)=true:=rfl
theorem Zwq (cs:List AVal) (o:Nat):ZaU (.iptr cs o)=true:=rfl
theorem Zpn (x:Bool) (xs:List AVal):ZaU (.lst x xs)=true:=rfl
theorem Zwr (t:Nat) (g:Nat) (lo:Nat) (n:Nat):ZaU (.sl t g lo n)=true:=rfl
theorem Zvf (cs:List AVal):ZaU (.agg cs)=cs.all ZaH:=rfl
theorem Zsw (vs:List AVal):ZaU (.tup vs)=vs.all ZaI:=rfl
theorem Zs2 (f:Nat) (caps:List AVal):ZaU (.fn f caps)=false:=rfl
theorem Zrh  : ZaU (.nilm)=true:=rfl
theorem Zse (t:Nat):ZaU (.map t)=true:=rfl
theorem Zpz  : ZaU (.nili)=true:=rfl
theorem Zn1 (t:Nat) (x:AVal):ZaU (.iface t x)=true:=rfl
theorem ZoG (x:AVal):ZaU (.pan x)=true:=rfl
theorem ZtK  : ZaX (.top)=false:=rfl
theorem Zr7  : ZaX (.any)=false:=rfl
theorem ZoC (k:IntKind) (n:Int):ZaX (.int k n)=true:=rfl
theorem ZrO (b:Bool):ZaX (.bool b)=true:=rfl
theorem Zwi (l:List UInt8):ZaX (.str l)=true:=rfl
theorem Zsv  : ZaX (.nilp)=true:=rfl
theorem ZnG (t:Nat) (o:Nat):ZaX (.ref t o)=false:=rfl
theorem ZlI (t:Nat) (g:Nat) (i:Nat) (o:Nat):ZaX (.eref t g i o)=false:=rfl
theorem Zoh (cs:List AVal) (o:Nat):ZaX (.iptr cs o)=false:=rfl
theorem Zmi (x:Bool) (xs:List AVal):ZaX (.lst x xs)=true:=rfl
theorem ZkX (t:Nat) (g:Nat) (lo:Nat) (n:Nat):ZaX (.sl t g lo n)=false:=rfl
theorem Znn (cs:List AVal):ZaX (.agg cs)=cs.all Zak:=rfl
theorem ZlJ (vs:List AVal):ZaX (.tup vs)=vs.all Zah:=rfl
theorem Zmy  : ZaX (.nilm)=true:=rfl
theorem Zl1 (t:Nat):ZaX (.map t)=false:=rfl
theorem Zk0  : ZaX (.nili)=true:=rfl
theorem ZmI (t:Nat) (x:AVal):ZaX (.iface t x)=false:=rfl
theorem ZvA (x:AVal):ZaX (.pan x)=false:=rfl
theorem Zww  : Za4 (.top)=(.top):=rfl
theorem ZqI  : Za4 (.any)=(.any):=rfl
theorem Zm6 (k:IntKind) (n:Int):Za4 (.int k n)=(.int k n):=rfl
theorem Zqx (b:Bool):Za4 (.bool b)=(.bool b):=rfl
theorem Zla (l:List UInt8):Za4 (.str l)=(.str l):=rfl
theorem ZsC  : Za4 (.nilp)=(.nilp):=rfl
theorem ZvS (t:Nat) (o:Nat):Za4 (.ref t o)=(.ref t o):=rfl
theorem Zvg (t:Nat) (g:Nat) (i:Nat) (o:Nat):Za4 (.eref t g i o)=(.eref t g i o):=rfl
theorem Zok (cs:List AVal) (o:Nat):Za4 (.iptr cs o)=(.iptr cs o):=rfl
theorem ZtO (x:Bool) (xs:List AVal):Za4 (.lst x xs)=.lst false xs:=rfl
theorem Zv2 (t:Nat) (g:Nat) (lo:Nat) (n:Nat):Za4 (.sl t g lo n)=(.sl t g lo n):=rfl
theorem ZpS (cs:List AVal):Za4 (.agg cs)=.agg (cs.map Zap):=rfl
theorem Zpd (vs:List AVal):Za4 (.tup vs)=.tup (vs.map Z8):=rfl
theorem Ztw (f:Nat) (caps:List AVal):Za4 (.fn f caps)=(.fn f caps):=rfl
theorem Zq9  : Za4 (.nilm)=(.nilm):=rfl
theorem ZqB (t:Nat):Za4 (.map t)=(.map t):=rfl
theorem ZsZ  : Za4 (.nili)=(.nili):=rfl
theorem ZoO (t:Nat) (x:AVal):Za4 (.iface t x)=(.iface t x):=rfl
theorem ZsJ (x:AVal):Za4 (.pan x)=(.pan x):=rfl
theorem Zpp:ZA []=true:=rfl
theorem ZuW (x:AVal) (xs:List AVal):ZA (x::xs)=(Z6 x && ZA xs):=rfl
theorem ZpP (f:Nat):ZaX (.fn f [])=true:=rfl
theorem ZrV (p q:Bool):(if p=true then q else false)=(p && q):=by cases p <;> rfl
theorem Zsn (p q:Bool):(if p=true then true else q)=(p || q):=by cases p <;> rfl
theorem ZtB (p q:Bool):(if p=true then false else q)=(!p && q):=by cases p <;> rfl
theorem Zr4 (p q:Bool):(if p=true then q else true)=(!p || q):=by cases p <;> rfl
theorem ZtM (p q:Bool):(if p=false then q else false)=(!p && q):=by cases p <;> rfl
theorem Zp9 (p q:Bool):(if p=false then true else q)=(!p || q):=by cases p <;> rfl
theorem Zlm (p q:Bool):(if p=false then false else q)=(p && q):=by cases p <;> rfl
theorem Zp0 (p q:Bool):(if p=false then q else true)=(p || q):=by cases p <;> rfl
section
def Zcu (o:AOp):AOp:=⟨o.dst,o.ins,o.guard,[]⟩
def ZaO:Zg->Zg
 | .region ops chk live=>.region (ops.map Zcu) chk live
 | .seq a b=>.seq (ZaO a) (ZaO b)
 | .cond c a b=>.cond c (ZaO a) (ZaO b)
 | .block id c=>.block id (ZaO c)
 | .loop live c=>.loop live (ZaO c)
 | .skip=>.skip
 | .exit id=>.exit id
 | .ret=>.ret
 | .stuck=>.stuck
def ZfL (f:Zag):Zag:=⟨f.res,ZaO f.body⟩
section
variable {O:Zp} {bf:Nat->Bool}
theorem Zrd (o:AOp) (s:Nat) (tm:Tms) (σ:Za):Zi O bf (Zcu o) s tm σ=Zi O bf o s tm σ:=rfl
theorem Zkp:∀ (ops:List AOp) (s:Nat) (tm:Tms) (σ:Za),Zo O bf (ops.map Zcu) s tm σ=Zo O bf ops s tm σ
 | [],_,_,_=>rfl
 | o::os,s,tm,σ=>by
  simp only [List.map_cons,Zo,Zrd]
  split
  ·rfl
  ·rfl
  ·rename_i tm' σ' c _ _
   rw [show (Zcu o).ins=o.ins from rfl,Zkp os]
theorem ZhT (ops:List AOp):sitesOf (ops.map Zcu)=sitesOf ops:=by
 simp [sitesOf,Zcu,Function.comp_def]
theorem Zfg (ops:List AOp) (i:Nat):((ops.map Zcu).getD i default).ins=(ops.getD i default).ins:=by
 simp only [List.getD_eq_getElem?_getD,List.getElem?_map]
 cases ops[i]? <;> rfl
theorem ZnT (ops:List AOp) (b:Nat) (l:List (Nat×Nat)) (cs:List Cls):ZbS (ops.map Zcu) b l cs=ZbS ops b l cs:=by
 unfold ZbS
 congr 1
 funext p
 unfold Zbj ZaT
 rw [Zfg,Zfg,<-List.map_take,ZhT]
theorem ZvD (ops:List AOp) (b:Nat) (l:List (Nat×Nat)) (cs:List Cls):ZdK (ops.map Zcu) b l cs=ZdK ops b l cs:=by
 unfold ZdK
 congr 2
 funext p
 unfold Zbj ZaT
 rw [Zfg,Zfg,<-List.map_take,ZhT]
theorem Zri (ops:List AOp) (chk:Option (List (Nat×Nat))) (live:List Nat) (tm:Tms) (σ:Za):Zbk O bf (ops.map Zcu) chk live tm σ=Zbk O bf ops chk live tm σ:=by
 unfold Zbk
 rw [Zkp,ZhT]
 cases Zo O bf ops σ.length tm (σ++List.replicate (sitesOf ops) .free) with
 | none=>rfl
 | some q =>
  obtain ⟨tm',σ',cs,p⟩:=q
  cases p with
  | some x =>
   cases chk with
   | none=>rfl
   | some l=>simp only [Zcc,ZvD]
  | none =>
   cases chk with
   | none=>rfl
   | some l=>simp only [Zcc,ZnT]
theorem Zct (m n:Nat):∀ (c:Zg),Zr O bf m n (ZaO c)=Zr O bf m n c
 | .region ops chk live=>by funext tm σ;simp only [ZaO,Zr,Zri]
 | .seq a b=>by funext tm σ;simp only [ZaO,Zr,Zct m n a,Zct m n b]
 | .cond c a b=>by funext tm σ;simp only [ZaO,Zr,Zct m n a,Zct m n b]
 | .block id c=>by funext tm σ;simp only [ZaO,Zr,Zct m n c]
 | .loop live c=>by funext tm σ;simp only [ZaO,Zr,Zct m n c]
 | .skip=>rfl
 | .exit id=>rfl
 | .ret=>rfl
 | .stuck=>rfl
end
theorem ZhB (fs:Nat->Option Zag) (prim:ZaP) (bf:Nat->Bool):∀ n,ZH (fun f=>(fs f).map ZfL) prim bf n=ZH fs prim bf n
 | 0=>rfl
 | n+1=>by
  funext f args σ
  simp only [ZH,ZhB fs prim bf n]
  cases prim f with
  | some g=>rfl
  | none =>
   cases fs f with
   | none=>rfl
   | some fn =>
    simp only [Option.map_some,ZfL,Zct]
    rfl
theorem Zlp (fs:Nat->Option Zag) (prim:ZaP) (bf:Nat->Bool):EV (fun f=>(fs f).map ZfL) prim bf=EV fs prim bf:=by
 funext f args σ
 apply ZcP
 intro r
 rw [Zcd,Zcd]
 simp only [ZhB]
end
end
section
open Go.RowKit
def Zhd:List AVal->Za->Option (AVal×Za):=fun _ _=>none
theorem ZvI {α:Prop} {args:List AVal} {σ:Za} {r:AVal×Za} (h:Zhd args σ=some r):α:=by cases h
def ZhP:Ann:={ nt:=8,lr:=fun _=>[7,6,5,4,3,2,0] }
structure ZwO (P:Program) (t:TypeId) (k bytes:Nat) (z:AVal) (f:FuncId):Prop where
 ex:∃ (F:Func) (e:TypeId) (i0 i1 i2 i3:Nat) (r0 r2 r3:Array Oper) (m b:Oper),
  P.funcs[f]?=some F/\F.results=#[.tmp 2]/\F.ntmps=8/\(F.name == "runtime.NumGoroutine")=false/\P.underlying t=some (.slice e) /\
  F.body=some (.seq (.region i0 r0 false) (.seq (.seq (.region i1 #[m,b] false) (.cond (.tmp 4) (.seq (.region i2 r2 false) .ret) .skip)) (.seq (.region i3 r3 false) .ret))) /\
  m.op=.move (.tmp 0)/\m.dst=some 3/\m.guard=none/\b.op=.binOp .eql t (.tmp 3) (.const (.slice none 0 0)) t/\b.dst=some 4/\b.guard=none /\
  Za5 P ZhP r0 r0.toList=some [⟨some 2,.mov (.c (.lst true [])),none,[]⟩] /\
  Za5 P ZhP r2 r2.toList=some [⟨some 2,.mov (.c (.lst true [])),none,[]⟩] /\
  (∃ a1 a2 a3 a4,Za5 P ZhP r3 r3.toList=some [⟨some 5,.bslice false k 0 z [],none,a1⟩,⟨some 6,.mov (.t 0),none,a2⟩,⟨some 7,.app k bytes z (.t 5) (.t 6),none,a3⟩,⟨some 2,.mov (.t 7),none,a4⟩])/\z.cells.length=k/\0 < k
section
variable {P:Program} {base:Nat->Prop} {w0 w w':World} {I0 I:Imm} {β:Bmap} {σ:Za}
theorem noO:ZK P (fun _ _ _=>none):=by intro f args σ r σ' h;cases h
theorem Zec {ops:Array Oper} {Q:Exit->Act->World->Prop} {o:Oper} {l:List Oper} {a:Act} {w:World} (hg:o.guard=none) (h:o.wp P a w (wpList P ops Q l) Q):wpList P ops Q (o::l) a w:=by
 unfold wpList
 have : Region.wanted o (yielded ops a.tmps)=true:=by unfold Region.wanted;rw [hg]
 rw [this]
 simp only [if_true]
 exact Or.inl h
end
end
section
open Go.RowKit
structure ZwM (P:Program) (f h:FuncId) (ti tc:TypeId) (an1 an2 an3:Ann) (c1 c2 c3:Zg) (rs:List ZbA):Prop where
 ex:∃ (F H:Func) (b1 b2 b3 b4:Code) (i0 j0 j1 j2 j3 bid:Nat) (t1 t2 t3 t4 t5 t6 t7 t8:TypeId) (p1 p2 p3 p4 p5 p6 p7 p8:String) (a1 a2 a3 a4 a5 a6 a7 a8:Array Edge) (at1 at2:Array TypeId) (ims:Array (String×TypeId)) (k:IntKind),
  P.funcs[f]?=some F/\(F.name == "runtime.NumGoroutine")=false/\F.ntmps=20/\Zcl P F.results.toList=some rs /\
  F.body=some (.seq b1 (.seq (.region i0 #[⟨some 5,.makeFunc (.func h) #[] #[.tmp 2,.tmp 3],t1,p1,a1,none⟩,⟨none,.defer ⟨.value (.tmp 5),#[],at1⟩,t2,p2,a2,none⟩] false) b2)) /\
  ZaO (Zae P an1 b1)=c1/\ZaO (Zae P an2 b2)=c2/\an1.nt=20/\an2.nt=20/\an2.keep=[2,3] /\
  P.funcs[h]?=some H/\(H.name == "runtime.NumGoroutine")=false/\H.ntmps=13/\H.results=#[] /\
  H.body=some (.seq (.region j0 #[⟨some 5,.call ⟨.builtin .recover,#[],at2⟩,t3,p3,a3,none⟩] false) (.block bid (.seq (.region j1 #[⟨some 7,.binOp .eql ti (.tmp 5) (.const .nilIface) ti,t4,p4,a4,none⟩] false)
   (.cond (.tmp 7) (.region j2 #[⟨some 2,.assign (.tmp 5),t5,p5,a5,none⟩] false)
    (.seq (.region j3 #[⟨some 8,.typeAssert (.tmp 5) ti tc true,t6,p6,a6,none⟩,⟨some 9,.extract (.tmp 8) 1,t7,p7,a7,none⟩,⟨some 10,.extract (.tmp 8) 0,t8,p8,a8,none⟩] false)
     (.cond (.tmp 9) b3 b4)))))) /\
  ZaO (Zae P an3 b3)=c3/\an3.nt=13/\P.underlying ti=some (.interface ims)/\P.underlying tc=some (.int k)
section
variable {P:Program} {O:Zp} {bf:Nat->Bool} {base:Nat->Prop} {w0 w:World} {I0 I:Imm} {β:Bmap} {σ:Za}
theorem pgs {a:Act} {d:Nat} {u:Value} (h:d < a.tmps.size):(a.put (some d) u).tmps.getD d undef=u:=by
 simp [Act.put,Array.getD,h]
theorem Zfb {m:Sem Value} {u:Value} (h:m.run P w=.ok u w):(do let q <-m;pure (Next.value q):Sem Next).run P w=.ok (.value u) w:=by
 rw [Sem.run_bind,h];rfl
theorem pgn {a:Act} {d j:Nat} {u:Value} (h:d≠j):(a.put (some d) u).tmps.getD j undef=a.tmps.getD j undef:=by
 simp only [Act.put,Array.getD_eq_getD_getElem?]
 rw [Array.getElem?_setIfInBounds_ne h]
end
section
variable {P:Program} {fs:Nat->Option Zag} {prim:ZaP} {bf:Nat->Bool}
end
section
variable {fs:Nat->Option Zag} {p p':ZaP} {bf:Nat->Bool}
theorem Zjh (h0:∀ f,p f=none->p' f=none) (h1:∀ f g,p f=some g->p' f=some g\/∀ a σ,g a σ=none):∀ n,OLe (ZH fs p bf n) (ZH fs p' bf n)
 | 0=>by intro f a σ r h;simp only [ZH] at h;cases h
 | n+1=>by
  intro f a σ r h
  rw [ZH] at h ⊢
  split at h
  ·rename_i g hg
   rcases h1 f g hg with h2 | h2
   ·rw [h2];exact h
   ·rw [h2] at h;cases h
  ·rename_i hg
   rw [h0 f hg]
   split at h
   ·cases h
   ·rename_i fn hfn
    exact Ze2 (fun q hq=>Zb3 (Zjh h0 h1 n) (Nat.le_refl n) hq) h
theorem Zrn (h0:∀ f,p f=none->p' f=none) (h1:∀ f g,p f=some g->p' f=some g\/∀ a σ,g a σ=none):OLe (EV fs p bf) (EV fs p' bf):=by
 intro f a σ r h
 obtain ⟨n,hn⟩:=Zcd.1 h
 exact Zcd.2 ⟨n,Zjh h0 h1 n f a σ r hn⟩
end
end
section
open Go.RowKit
theorem Zjx:∀ (js L:List Nat),js.Nodup->(∀ j ∈ js,j ∈ L)->L.Nodup->∃ rest,L.Perm (js++rest)
 | [],L,_,_,_=>⟨L,List.Perm.refl _⟩
 | j::js,L,hn,hs,hL=>by
  have hj:j ∈ L:=hs j (by simp)
  have hp:L.Perm (j::L.erase j):=List.perm_cons_erase hj
  obtain ⟨rest,hr⟩:=Zjx js (L.erase j) (List.nodup_cons.1 hn).2 (fun k hk=>by
   have hne:k≠j:=by rintro rfl;exact (List.nodup_cons.1 hn).1 hk
   exact (List.mem_erase_of_ne hne).2 (hs k (by simp [hk]))) (hL.erase j)
  exact ⟨rest,hp.trans (by simpa using List.Perm.cons j hr)⟩
theorem Zpg {α:Type} (es:List α) (d:α):(List.range es.length).map (es.getD · d)=es:=by
 apply List.ext_getElem?
 intro i
 rw [List.getElem?_map]
 by_cases h:i < es.length
 ·rw [List.getElem?_range h];simp [List.getD_eq_getElem?_getD,h]
 ·rw [List.getElem?_eq_none (by simpa using h),List.getElem?_eq_none (by omega)];rfl
def Zc3 (bf:Nat->Bool) (asl:List AOp) (tm:Tms) (σ:Za):Option (Tms×Za):=match Zo (fun _ _ _=>none) bf asl σ.length tm σ with
 | some (tm',σ',_,none)=>some (tm',σ')
 | _=>none
def ZcL (m:Nat):AVal->Bool
 | .int _ _ | .bool _ | .str _ | .nilp | .nilm | .nili | .lst _ _=>true
 | .sl t g _ _=>decide (g=0) && decide (t < m)
 | .ref t _=>decide (t < m)
 | .map t=>decide (t < m)
 | _=>false
def Ze7 (m:Nat):AVal->Bool
 | .agg cs=>cs.all (ZcL m)
 | x=>ZcL m x
section
variable (fs:Nat->Option Zag) (prim:ZaP) (bf:Nat->Bool) (m:Nat) (live:List Nat) (ms en b1:Nat) (aslE:List AOp) (c2 c3:Zg) (rs:List ZbA)
open Classical in
noncomputable def ZcG (es : List (AVal × AVal)) (kv : AVal × AVal) (tm : Tms) (σ : Za) : Option (Tms × Za) :=
  match tget (gcT m (keepL live tm) σ).1 ms with
  | .map t => if (gcT m (keepL live tm) σ).2[t]? = some (.map es) /\ (∀ p ∈ es, Ze7 (gcT m (keepL live tm) σ).2.length p.2 = true) then
      match Zc3 bf aslE (tput (gcT m (keepL live tm) σ).1 (some en) (.tup [kv.1, kv.2])) ((gcT m (keepL live tm) σ).2.set t .opq) with
      | some (tm1, σ1) => match evC fs prim bf (gcT m (keepL live tm) σ).2.length c2 tm1 σ1 with
        | some (.normal, tm2, σ2) => if σ2[t]? = some .opq then some (tput tm2 (some ms) (.map t), σ2.set t (.map es)) else none
        | some (.exit i, tm2, σ2) => if i = b1 /\ σ2[t]? = some .opq then some (tput tm2 (some ms) (.map t), σ2.set t (.map es)) else none
        | _ => none
      | none => none
    else none
  | _ => none
noncomputable def Zbv (es:List (AVal×AVal)):List (AVal×AVal)->Tms->Za->Option (Tms×Za)
 | [],tm,σ=>some (tm,σ)
 | kv::r,tm,σ=>match ZcG fs prim bf m live ms en b1 aslE c2 es kv tm σ with
  | some (tm',σ')=>Zbv es r tm' σ'
  | none=>none
noncomputable def Zc6 (tm:Tms) (σ:Za):Option (AVal×Za) :=
 Zas m ⟨rs,c3⟩ (evC fs prim bf m c3 (gcT m (keepL live tm) σ).1 (gcT m (keepL live tm) σ).2)
noncomputable def Zdc (es es':List (AVal×AVal)) (tm:Tms) (σ:Za):Option (AVal×Za) :=
 match Zbv fs prim bf m live ms en b1 aslE c2 es es' tm σ with
 | some (tm',σ')=>Zc6 fs prim bf m live c3 rs tm' σ'
 | none=>none
open Classical in
noncomputable def Zem (es:List (AVal×AVal)) (tm:Tms) (σ:Za):Option (AVal×Za) :=
 if h:∃ out,∀ es':List (AVal×AVal),es'.Perm es->Zdc fs prim bf m live ms en b1 aslE c2 c3 rs es es' tm σ=some out then some h.choose else none
end
noncomputable def Zf5 (fs:Nat->Option Zag) (prim:ZaP) (bf:Nat->Bool) (live:List Nat) (ms en b1:Nat) (asl1 aslE:List AOp) (c1 c2 c3:Zg) (rs:List ZbA) (args:List AVal) (σ:Za):Option (AVal×Za) :=
 match evC fs prim bf σ.length c1 (enterA 0 args []) σ with
 | some (.normal,tm1,σ1)=>match Zc3 bf asl1 tm1 σ1 with
  | some (tm2,σ2)=>match tget tm2 ms with
   | .map t=>match σ2[t]? with
    | some (.map es)=>Zem fs prim bf σ.length live ms en b1 aslE c2 c3 rs es tm2 σ2
    | _=>none
   | _=>none
  | none=>none
 | _=>none
def ZcS:List Code->Code->Code
 | [],x=>x
 | c::l,x=>.seq c (ZcS l x)
def ZdY:Nat->Code->Option (List Code×Code)
 | 0,c=>some ([],c)
 | n+1,.seq a b=>match ZdY n b with
  | some (l,x)=>some (a::l,x)
  | none=>none
 | _,_=>none
theorem Zj4:∀ {n:Nat} {c x:Code} {l:List Code},ZdY n c=some (l,x)->c=ZcS l x
 | 0,c,x,l,h=>by simp only [ZdY,Option.some.injEq,Prod.mk.injEq] at h;obtain ⟨rfl,rfl⟩:=h;rfl
 | n+1,c,x,l,h=>by
  cases c with
  | seq a b =>
   simp only [ZdY] at h
   split at h
   ·rename_i l' x' h'
    simp only [Option.some.injEq,Prod.mk.injEq] at h
    obtain ⟨rfl,rfl⟩:=h
    rw [Zj4 h',ZcS]
   ·cases h
  | _=>simp [ZdY] at h
structure ZiM (P:Program) (f:FuncId) (an1 an3:Ann) (nt n0 n1 ms it nx ok en bid b1:Nat) (live:List Nat) (asl1 aslE:List AOp) (c1 c2 c3:Zg) (rs:List ZbA):Prop where
 ex:∃ (F:Func) (B:Code) (pre:List Code) (ops1 ops3 ops4:Array Oper) (i2 i3 i4:Nat) (body rest:Code) (t kt et:TypeId) (rg nxo exo eno:Oper) (lE:List Oper),
  P.funcs[f]?=some F/\(F.name == "runtime.NumGoroutine")=false/\F.ntmps=nt/\Zcl P F.results.toList=some rs/\F.body=some B /\
  ZdY n0 B=some (pre,.seq (.seq (.region i2 ops1 false) (.block bid (.loop (.seq (.region i3 ops3 false) (.seq (.cond (.tmp ok) .skip (.exit bid)) (.block b1 (.seq (.region i4 ops4 false) body))))))) rest) /\
  ops1.toList.drop n1=[rg]/\ops3.toList=[nxo,exo]/\ops4.toList=eno::lE /\
  rg.op=.range t (.tmp ms)/\rg.dst=some it/\rg.guard=none/\P.underlying t=some (.map kt et) /\
  nxo.op=.next (.tmp it) false/\nxo.dst=some nx/\nxo.guard=none/\exo.op=.extract (.tmp nx) 0/\exo.dst=some ok/\exo.guard=none /\
  eno.op=.entry (.tmp it)/\eno.dst=some en/\eno.guard=none /\
  ZaO (Zae P an1 (ZcS pre .skip))=c1/\Za5 P an1 ops1 (ops1.toList.take n1)=some asl1/\Za5 P an3 ops4 lE=some aslE/\ZaO (Zae P an3 body)=c2/\ZaO (Zae P an1 rest)=c3 /\
  an1.nt=nt/\an3.nt=nt/\an3.keep=[it,ms] /\
  (decide (it < nt) && decide (nx < nt) && decide (ok < nt) && decide (en < nt) && decide (it≠ms) && decide (nx≠ms) && decide (ok≠ms) && decide (en≠ms) && decide (nx≠it) && decide (ok≠it) && decide (en≠it) && decide (nx≠ok) && live.all fun n=>decide (n≠it) && decide (n≠nx) && decide (n≠ok) && decide (n≠en))=true
section
variable {P:Program} {O:Zp} {bf:Nat->Bool} {an:Ann} {base:Nat->Prop} {w0 w w':World} {I0 I I':Imm} {β β':Bmap} {σ σ':Za} {dr:Door}
theorem Zhj (hO:ZK P O) (hkp:∀ n ∈ dr.K,n ∈ an.keep) (hb:KLt base w0) {ops:Array Oper} {Q:Exit->Act->World->Prop} {r:List Oper}:∀ {l:List Oper} {asl:List AOp} {sq:Nat} {I:Imm} {β:Bmap} {tm tm':Tms} {σ σ':Za} {cs:List Cls} {a:Act} {w:World},Za5 P an ops l=some asl->TR I β tm a.tmps->(dr.ok a/\an.nt<=a.tmps.size)->Rel base w0 I0 I β σ w ->
  Zo O bf asl sq tm σ=some (tm',σ',cs,none)->(∀ a' w',StR dr an.nt base w0 I0 I β tm' σ' a' w'->wpList P ops Q r a' w')->wpList P ops Q (l++r) a w
 | [],asl,sq,I,β,tm,tm',σ,σ',cs,a,w,hc,T,hd,R,h,hQ=>by
  simp only [Za5,Option.some.injEq] at hc;subst hc
  simp only [Zo,Option.some.injEq,Prod.mk.injEq] at h
  obtain ⟨rfl,rfl,rfl,_⟩:=h
  exact hQ _ _ ⟨I,β,Imm.le.refl I,Bmap.le.refl β,T,hd,R⟩
 | o::l,asl,sq,I,β,tm,tm',σ,σ',cs,a,w,hc,T,hd,R,h,hQ=>by
  simp only [Za5] at hc
  split at hc
  ·rename_i ao hao
   split at hc
   ·rename_i as' has'
    injection hc with hc;subst hc
    simp only [Zo] at h
    split at h
    ·cases h
    ·simp only [Option.some.injEq,Prod.mk.injEq] at h
     obtain ⟨_,_,_,h⟩:=h
     cases h
    ·rename_i v tm1 σ1 c1 hnp h1
     split at h
     ·cases h
     rename_i tm2 σ2 cs2 p2 h2
     simp only [Option.some.injEq,Prod.mk.injEq] at h
     obtain ⟨rfl,rfl,rfl,rfl⟩:=h
     have:=Zd8 (dr:=dr) (K:=wpList P ops Q (l++r)) (Q:=Q) hO hkp hao T hd R hb h1 (fun _ a' w' hs=>by
      obtain ⟨I',β',g1,g2,g3,g4,g5⟩:=hs
      exact Zhj hO hkp hb has' g3 g4 g5 h2 (fun a'' w'' hs'=>hQ a'' w'' (hs'.trans g1 g2))) (fun x e=>absurd e (fun e=>hnp x e))
     rw [List.cons_append]
     unfold wpList
     exact this
   ·cases hc
  ·cases hc
theorem ZjP {asl:List AOp} {tm tm':Tms} (h:Zc3 bf asl tm σ=some (tm',σ')):∃ cs,Zo (fun _ _ _=>none) bf asl σ.length tm σ=some (tm',σ',cs,none):=by
 unfold Zc3 at h
 split at h
 ·rename_i tm1 σ1 cs h1
  simp only [Option.some.injEq,Prod.mk.injEq] at h
  obtain ⟨rfl,rfl⟩:=h
  exact ⟨cs,h1⟩
 ·cases h
theorem Zih {Q:Exit->Act->World->Prop} (hO:ZK P O) (hm:P.follows .mixedOrders=true) (hb:KLt base w0) (m n:Nat) (X:Code):∀ (pre:List Code) {I:Imm} {β:Bmap} {tm tm':Tms} {σ σ':Za} {a:Act} {w:World},StF Zbh m an.nt base w0 I0 I β tm σ a w->Zr O bf m n (Zae P an (ZcS pre .skip)) tm σ=some (.normal,tm',σ') ->
  (∀ a' w',StF Zbh m an.nt base w0 I0 I β tm' σ' a' w'->X.wp P Q a' w')->(ZcS pre X).wp P Q a w
 | [],I,β,tm,tm',σ,σ',a,w,hst,h,hQ=>by
  simp only [ZcS,Zae,Zr,Option.some.injEq,Prod.mk.injEq] at h
  obtain ⟨_,rfl,rfl⟩:=h
  exact hQ a w hst
 | c::l,I,β,tm,tm',σ,σ',a,w,hst,h,hQ=>by
  simp only [ZcS,Zae,Zr] at h
  split at h
  ·rename_i tm1 σ1 h1
   refine wp_seq ?_
   refine Zfy (dr:=Zbh) (an:=an) hO (fun n hn=>by simp [Zbh] at hn) hm hb m n rfl hst h1 ?_
   intro a' w' hs
   exact Zih hO hm hb m n X l hs h hQ
  ·rename_i hne
   exact absurd h (hne _ _)
theorem ZmO {m:Nat} {x:AVal} {v:Value} (hx:ZcL m x=true) (hk:KeptE m β β') (h:VR I β x v):VR I' β' x v\/(∃ a xs,x=.lst a xs):=by
 cases x with
 | int | bool | str | nilp | nilm | nili=>exact Or.inl h
 | lst a xs=>exact Or.inr ⟨a,xs,rfl⟩
 | sl t g lo n =>
  simp only [ZcL,Bool.and_eq_true,decide_eq_true_eq] at hx
  obtain ⟨rfl,ht⟩:=hx
  simp only [VR] at h ⊢
  obtain ⟨bi,e,h⟩:=h
  exact Or.inl ⟨bi,hk t ht bi e,h⟩
 | ref t o =>
  simp only [ZcL,decide_eq_true_eq] at hx
  simp only [VR] at h ⊢
  obtain ⟨b,k,c,e,h⟩:=h
  exact Or.inl ⟨b,k,c,hk t hx _ e,h⟩
 | map t =>
  simp only [ZcL,decide_eq_true_eq] at hx
  simp only [VR] at h ⊢
  obtain ⟨b,k,c,e,h⟩:=h
  exact Or.inl ⟨b,k,c,hk t hx _ e,h⟩
 | _=>simp [ZcL] at hx
theorem Zwz {a:Bool} {xs:List AVal} {v:Value} (hI:I.le I') (h:VR I β (.lst a xs) v):VR I' β' (.lst a xs) v:=by
 have ht:Z9 (.lst a xs)=true:=by
  simp only [VR] at h
  obtain ⟨A,cap,_,_,_,_,_,ht⟩:=h
  simpa [Z9] using ht
 exact (VR.of_tree (β':=β') ht h).mono hI (Bmap.le.refl _) _ _
theorem Zis {m:Nat} {x:AVal} {v:Value} (hx:ZcL m x=true) (hI:I.le I') (hk:KeptE m β β') (h:VR I β x v):VR I' β' x v:=by
 rcases ZmO (I':=I') hx hk h with h | ⟨a,xs,rfl⟩
 ·exact h
 ·exact Zwz hI h
theorem ZjV {m:Nat} (hI:I.le I') (hk:KeptE m β β'):∀ {cs:List AVal} {vs:List Value},cs.all (ZcL m)=true->VRs I β cs vs->VRs I' β' cs vs
 | [],vs,_,h=>h
 | x::cs,vs,hx,h=>by
  rw [List.all_cons,Bool.and_eq_true] at hx
  simp only [VRs] at h ⊢
  obtain ⟨v,vs',rfl,h1,h2⟩:=h
  exact ⟨v,vs',rfl,Zis hx.1 hI hk h1,ZjV hI hk hx.2 h2⟩
theorem Zqb {m:Nat} {x:AVal} {v:Value} (hx:Ze7 m x=true) (hI:I.le I') (hk:KeptE m β β') (h:VR I β x v):VR I' β' x v:=by
 cases x with
 | agg cs =>
  simp only [VR] at h ⊢
  obtain ⟨us,rfl,h⟩:=h
  exact ⟨us,rfl,ZjV hI hk hx h⟩
 | _=>exact Zis hx hI hk h
theorem ZhZ {m:Nat} (hI:I.le I') (hk:KeptE m β β'):∀ {cs:List AVal} {vs:List Value},(∀ x ∈ cs,Ze7 m x=true)->VRs I β cs vs->VRs I' β' cs vs
 | [],vs,_,h=>h
 | x::cs,vs,hx,h=>by
  simp only [VRs] at h ⊢
  obtain ⟨v,vs',rfl,h1,h2⟩:=h
  exact ⟨v,vs',rfl,Zqb (hx x (by simp)) hI hk h1,ZhZ hI hk (fun y hy=>hx y (by simp [hy])) h2⟩
theorem Zj0:∀ {cs:List AVal} {vs:List Value},(∀ x ∈ cs,ZdZ x=true)->VRs I β cs vs->VRs I' β' cs vs
 | [],vs,_,h=>h
 | x::cs,vs,hx,h=>by
  simp only [VRs] at h ⊢
  obtain ⟨v,vs',rfl,h1,h2⟩:=h
  refine ⟨v,vs',rfl,?_,Zj0 (fun y hy=>hx y (by simp [hy])) h2⟩
  have:=hx x (by simp)
  cases x <;> simp [ZdZ] at this <;> exact h1
end
end
section
open Go.RowKit
open Go.ChangeMaps (setBlock)
section
variable {P:Program} {base base':Nat->Prop} {w0 w w' w1 w2:World} {I0 I I' I1 I2:Imm} {β β' β1 β2:Bmap} {σ σ' σ1 σ2:Za}
theorem Rel.rebase (R:Rel base w0 I0 I β σ w) {r:Nat} (hr:∀ t x,σ[t]?=some x->Zd β t x≠some r):Rel (fun k=>base k\/k=r) w I I β σ w where
 below:=KB.refl _ _
 old:=fun _ _ _=>rfl
 imm:=R.imm
 blk:=R.blk
 own:=fun t x b hx hb=>⟨fun h=>by
  rcases h with h | rfl
  ·exact (R.own t x b hx hb).1 h
  ·exact hr t x hx hb,(R.own t x b hx hb).2⟩
 apart:=R.apart
 fresh:=R.fresh
 free:=R.free
 gen:=R.gen
 glob:=R.glob
theorem Rel.unbase (R1:Rel base w0 I0 I1 β1 σ1 w1) (R2:Rel base' w1 I1 I2 β2 σ2 w2) (hs:∀ k,base k->base' k):Rel base w0 I0 I2 β2 σ2 w2 where
 below:=R1.below.trans (R2.below.mono hs)
 old:=fun b o h=>(R2.old b o (hs b h)).trans (R1.old b o h)
 imm:=R2.imm
 blk:=R2.blk
 own:=fun t x b hx hb=>⟨fun h=>(R2.own t x b hx hb).1 (hs b h),(R2.own t x b hx hb).2⟩
 apart:=R2.apart
 fresh:=R2.fresh
 free:=R2.free
 gen:=R2.gen
 glob:=R2.glob
theorem Rel.hide (R:Rel base w0 I0 I β σ w) {t b r:Nat} {es:List (AVal×AVal)} (ht:σ[t]?=some (.map es)) (hb:Zd β t (.map es)=some b) (hr:∀ t x,σ[t]?=some x->Zd β t x≠some r):Rel (fun k=>base k\/k=b\/k=r) w I I β (σ.set t .opq) w where
 below:=KB.refl _ _
 old:=fun _ _ _=>rfl
 imm:=R.imm
 blk:=fun u x hx=>by
  rw [List.getElem?_set] at hx
  split at hx
  ·rename_i e;subst e
   split at hx
   ·injection hx with hx;subst hx
    obtain ⟨b',k,c,_,_,h1,_⟩:=R.blk t _ ht
    exact ⟨_,h1⟩
   ·cases hx
  ·exact R.blk u x hx
 own:=fun u x b' hx ho=>by
  rw [List.getElem?_set] at hx
  split at hx
  ·split at hx
   ·injection hx with hx;subst hx;cases ho
   ·cases hx
  ·rename_i hne
   have:=R.own u x b' hx ho
   refine ⟨fun h=>?_,this.2⟩
   rcases h with h | rfl | rfl
   ·exact this.1 h
   ·exact hne (R.apart u x t _ _ hx ht ho hb).symm
   ·exact hr u x hx ho
 apart:=fun u x u' x' b' hx hx' ho ho'=>by
  rw [List.getElem?_set] at hx hx'
  split at hx
  ·split at hx
   ·injection hx with hx;subst hx;cases ho
   ·cases hx
  ·split at hx'
   ·split at hx'
    ·injection hx' with hx';subst hx';cases ho'
    ·cases hx'
   ·exact R.apart u x u' x' b' hx hx' ho ho'
 fresh:=fun u g hu=>R.fresh u g (by simpa using hu)
 free:=fun u g hu=>by
  rw [List.getElem?_set] at hu
  split at hu
  ·split at hu
   ·injection hu with hu;cases hu
   ·cases hu
  ·exact R.free u g hu
 gen:=fun u x g hx hg=>by
  rw [List.getElem?_set] at hx
  split at hx
  ·rename_i e;subst e
   split at hx
   ·injection hx with hx;subst hx
    exact R.gen t _ g ht (by simpa [Zc] using hg)
   ·cases hx
  ·exact R.gen u x g hx hg
 glob:=R.glob
theorem Rel.unhide (R1:Rel base w0 I0 I1 β1 σ1 w1) {t b r:Nat} (R2:Rel (fun k=>base k\/k=b\/k=r) w1 I1 I2 β2 σ2 w2) {es:List (AVal×AVal)} (ht:σ2[t]?=some .opq) (hb:Zd β2 t (.map es)=some b) (hB:BR I2 β2 w2 t (.map es)) (hbase:¬base b) (hI:∀ o,I2 b o=none):Rel base w0 I0 I2 β2 (σ2.set t (.map es)) w2 where
 below:=R1.below.trans (R2.below.mono fun _ h=>Or.inl h)
 old:=fun k o h=>(R2.old k o (Or.inl h)).trans (R1.old k o h)
 imm:=R2.imm
 blk:=fun u x hx=>by
  rw [List.getElem?_set] at hx
  split at hx
  ·rename_i e;subst e
   split at hx
   ·injection hx with hx;subst hx;exact hB
   ·cases hx
  ·exact R2.blk u x hx
 own:=fun u x b' hx ho=>by
  rw [List.getElem?_set] at hx
  split at hx
  ·rename_i e;subst e
   split at hx
   ·injection hx with hx;subst hx
    rw [hb] at ho;injection ho with ho;subst ho
    exact ⟨hbase,hI⟩
   ·cases hx
  ·have:=R2.own u x b' hx ho
   exact ⟨fun h=>this.1 (Or.inl h),this.2⟩
 apart:=fun u x u' x' b' hx hx' ho ho'=>by
  rw [List.getElem?_set] at hx hx'
  split at hx
  ·rename_i e;subst e
   split at hx
   ·injection hx with hx;subst hx
    rw [hb] at ho;injection ho with ho;subst ho
    split at hx'
    ·assumption
    ·exact absurd (Or.inr (Or.inl rfl)) (R2.own u' x' _ hx' ho').1
   ·cases hx
  ·split at hx'
   ·rename_i e;subst e
    split at hx'
    ·injection hx' with hx';subst hx'
     rw [hb] at ho';injection ho' with ho';subst ho'
     exact absurd (Or.inr (Or.inl rfl)) (R2.own u x _ hx ho).1
    ·cases hx'
   ·exact R2.apart u x u' x' b' hx hx' ho ho'
 fresh:=fun u g hu=>R2.fresh u g (by simpa using hu)
 free:=fun u g hu=>by
  rw [List.getElem?_set] at hu
  split at hu
  ·split at hu
   ·injection hu with hu;cases hu
   ·cases hu
  ·exact R2.free u g hu
 gen:=fun u x g hx hg=>by
  rw [List.getElem?_set] at hx
  split at hx
  ·rename_i e;subst e
   split at hx
   ·injection hx with hx;subst hx
    exact R2.gen t _ g ht (by simpa [Zc] using hg)
   ·cases hx
  ·exact R2.gen u x g hx hg
 glob:=R2.glob
theorem Rel.turn (R:Rel base w0 I0 I β σ w) {r:Nat} (hr:∀ t x,σ[t]?=some x->Zd β t x≠some r) (hb:¬base r) (hI:∀ o,I r o=none) (hos:w'.os=w.os) (ht:w'.tape=w.tape) (ho:w'.output=w.output) (hs:w.heap.size<=w'.heap.size) (hk:∀ k,k≠r->k < w.heap.size->w'.heap[k]?=w.heap[k]?) (hbl:KLt base w):Rel base w0 I0 I β σ w':=by
 refine R.stay (Imm.le.refl I) ⟨hos,ht,ho,hs,fun k h=>hk k (by rintro rfl;exact hb h) (hbl k h)⟩ (fun _ _ _=>rfl) ?_ ?_
 ·intro b o u hu
  have h1:=R.imm b o u hu
  have hne:b≠r:=by rintro rfl;rw [hI] at hu;cases hu
  have hlt:=ZbZ h1
  rw [<-h1]
  simp only [World.cell?,hk b hne hlt]
 ·intro t x b hx hb'
  have hne:b≠r:=by rintro rfl;exact hr t x hx hb'
  exact ⟨hk b hne ((R.blk t x hx).owns_lt hb'),(R.own t x b hx hb').2⟩
theorem Zrq (m:Nat) (tm:Tms) (σ:Za):m<=(gcT m tm σ).2.length:=by
 show m<=(Zj σ m _ _ _ 0).length
 rw [Zft]
 obtain ⟨_,r,hr⟩:=ZdS (σ:=σ) 1000 (ZG (tm.map (·.2))++(List.range m).flatMap fun t=>Zz (σ.getD t .free)) (List.range m) List.nodup_range
 show m<=(Zs m (tm.map (·.2)) σ).length
 unfold Zs
 rw [hr]
 simp
end
section
variable {fs:Nat->Option Zag} {prim:ZaP} {bf:Nat->Bool} {m:Nat} {live:List Nat} {ms en b1:Nat} {aslE:List AOp} {c2 c3:Zg} {rs:List ZbA}
theorem ZeM {es:List (AVal×AVal)}:∀ (a b:List (AVal×AVal)) (tm:Tms) (σ:Za),Zbv fs prim bf m live ms en b1 aslE c2 es (a++b) tm σ=match Zbv fs prim bf m live ms en b1 aslE c2 es a tm σ with
  | some (tm',σ')=>Zbv fs prim bf m live ms en b1 aslE c2 es b tm' σ'
  | none=>none
 | [],b,tm,σ=>rfl
 | x::a,b,tm,σ=>by
  simp only [List.cons_append,Zbv]
  split
  ·exact ZeM a b _ _
  ·rfl
end
theorem ZeD {I:Imm} {β:Bmap} {tm:Tms} {a:Act} {d:Nat} {u:Value} (T:TR I β tm a.tmps) (hd:tget tm d=.top):TR I β tm (a.put (some d) u).tmps:=by
 intro n
 by_cases e:d=n
 ·subst e;rw [hd];simp only [VR]
 ·rw [pgn e];exact T n
theorem Zu3 {m:Nat} {live:List Nat} {tm:Tms} {σ:Za} {d:Nat} (hd:d ∉ live):tget (gcT m (keepL live tm) σ).1 d=.top:=by
 have key:∀ (l:List Nat) (xs:List AVal),d ∉ l->tget (l.zip xs) d=.top:=by
  intro l
  induction l with
  | nil=>intro xs _;rfl
  | cons x l ih =>
   intro xs h
   cases xs with
   | nil=>rfl
   | cons y ys =>
    simp only [List.zip_cons_cons,tget]
    rw [if_neg (by rintro rfl;exact h (by simp))]
    exact ih ys (fun hm=>h (by simp [hm]))
 have e:(keepL live tm).map (·.1)=live:=by simp [keepL,List.map_map,Function.comp_def]
 show tget (((keepL live tm).map (·.1)).zip _) d=.top
 rw [e]
 exact key live _ hd
end
section
open Go.RowKit
open Go.ChangeMaps (setBlock)
theorem ZrG {arr:Array MapEntry} {seen:Array Nat} {e:MapEntry} (h:e ∈ (leftOf arr seen).toList):e ∈ arr.toList/\seen.contains e.born=false:=by
 unfold leftOf at h
 simp only [Array.toList_filter,List.mem_filter,Bool.not_eq_true'] at h
 exact h
theorem ZmV {arr:Array MapEntry} {seen:Array Nat} (h:(leftOf arr seen).size=0):∀ e ∈ arr.toList,seen.contains e.born=true:=by
 intro e he
 cases hc:seen.contains e.born with
 | true=>rfl
 | false =>
  have hm:e ∈ (leftOf arr seen).toList:=by
   unfold leftOf
   simp only [Array.toList_filter,List.mem_filter,Bool.not_eq_true']
   exact ⟨he,hc⟩
  have : (leftOf arr seen).toList=[]:=by
   apply List.eq_nil_of_length_eq_zero
   simpa using h
  rw [this] at hm;cases hm
section
variable {P:Program} {base:Nat->Prop} {w0:World} {I0:Imm}
variable {fs:Nat->Option Zag} {prim:ZaP} {bf:Nat->Bool} {m:Nat} {live:List Nat} {ms it nx ok en bid b1 nt:Nat} {aslE:List AOp} {c2 c3:Zg} {rs:List ZbA}
def Zbd (it ms:Nat) (r b:Nat):Door:=⟨[],[it,ms],fun n=>if n=it then .pointer (some ⟨r,0,none⟩) else .map (some b)⟩
def ZcT (arr:Array MapEntry) (j:Nat):Nat:=(arr.toList.getD j ⟨undef,undef,0⟩).born
theorem Znk (hm:P.follows .mixedOrders=true) (hO:∀ n,ZK P (ZH fs prim bf n)) (hb:KLt base w0) {an3:Ann} {ops3 ops4:Array Oper} {i3 i4:Nat} {body:Code} {nxo exo eno:Oper} {lE:List Oper}
  (h3:ops3.toList=[nxo,exo]) (h4:ops4.toList=eno::lE)
  (hn1:nxo.op=.next (.tmp it) false) (hn2:nxo.dst=some nx) (hn3:nxo.guard=none) (hx1:exo.op=.extract (.tmp nx) 0) (hx2:exo.dst=some ok) (hx3:exo.guard=none)
  (he1:eno.op=.entry (.tmp it)) (he2:eno.dst=some en) (he3:eno.guard=none) (hcE:Za5 P an3 ops4 lE=some aslE) (hc2:ZaO (Zae P an3 body)=c2) (hnt3:an3.nt=nt) (hk3:an3.keep=[it,ms])
  (d1:it < nt) (d2:nx < nt) (d3:ok < nt) (d4:en < nt) (d5:it≠ms) (d6:nx≠ms) (d7:ok≠ms) (d8:en≠ms) (d9:nx≠it) (d10:ok≠it) (d11:en≠it) (d12:nx≠ok) (hlv:∀ n ∈ live,n≠it/\n≠nx/\n≠ok/\n≠en)
  {r b clk:Nat} {arr:Array MapEntry} {es:List (AVal×AVal)} (hS:Zf0 arr clk) (hne:arr.size=es.length) (hrb:r≠b) (hrbase:¬base r) (hbbase:¬base b)
  {tm2:Tms} {σ2:Za} {out:AVal×Za} (hall:∀ es':List (AVal×AVal),es'.Perm es->Zdc fs prim bf m live ms en b1 aslE c2 c3 rs es es' tm2 σ2=some out)
  {I:Imm} {β:Bmap} {Q:Exit->Act->World->Prop}
  (hQ:∀ tm σ a w I' β',Zc6 fs prim bf m live c3 rs tm σ=some out->I.le I'->KeptE m β β'->TR I' β' (keepL live tm) a.tmps->(a.defers=[]/\nt<=a.tmps.size)->Rel base w0 I0 I' β' σ w->Q (.exit bid) a w) :
  ∀ (n:Nat) (js:List Nat) (tm:Tms) (σ:Za) (a:Act) (w:World),n+js.length=es.length+1->js.Nodup->(∀ j ∈ js,j < es.length)->Zbv fs prim bf m live ms en b1 aslE c2 es (js.map fun j=>es.getD j (.top,.top)) tm2 σ2=some (tm,σ) ->
   w.heap[r]?=some (.mapIter (some b) clk (js.map (ZcT arr)).toArray clk)->w.heap[b]?=some (.map arr clk) ->
   (∃ I' β',I.le I'/\KeptE m β β'/\TR I' β' (keepL live tm) a.tmps/\((Zbd it ms r b).ok a/\nt<=a.tmps.size)/\Rel base w0 I0 I' β' σ w/\(∀ o,I' r o=none)/\(∀ t x,σ[t]?=some x->Zd β' t x≠some r)) ->
   Code.rounds P (.seq (.region i3 ops3 false) (.seq (.cond (.tmp ok) .skip (.exit bid)) (.block b1 (.seq (.region i4 ops4 false) body)))) Q n a w:=by
 have hperm:∀ js:List Nat,js.Nodup->(∀ j ∈ js,j < es.length)->∃ rest:List Nat,(List.range es.length).Perm (js++rest):=fun js h1 h2=>Zjx js _ h1 (fun j hj=>List.mem_range.2 (h2 j hj)) List.nodup_range
 have hpm:∀ js rest:List Nat,(List.range es.length).Perm (js++rest)->(js.map (fun j=>es.getD j (.top,.top))++rest.map fun j=>es.getD j (.top,.top)).Perm es:=by
  intro js rest h
  have:=h.map (fun j=>es.getD j ((.top,.top):AVal×AVal))
  rw [Zpg,List.map_append] at this
  exact this.symm
 intro n
 induction n with
 | zero =>
  intro js tm σ a w hn hnd hlt _ _ _ _
  exfalso
  obtain ⟨rest,hr⟩:=hperm js hnd hlt
  have:=hr.length_eq
  simp at this
  omega
 | succ n ih =>
  intro js tm σ a w hn hnd hlt hf hit hmap hst
  rw [rounds_succ]
  obtain ⟨I1,β1,g1,g2,T1,⟨gd,gs⟩,R1,hIr,hown⟩:=hst
  have vit:a.tmps.getD it undef=.pointer (some ⟨r,0,none⟩):=by
   have:=gd.2 it (by simp [Zbd]);simpa [Zbd] using this
  have vms:a.tmps.getD ms undef=.map (some b):=by
   have:=gd.2 ms (by simp [Zbd]);simpa [Zbd,Ne.symm d5] using this
  refine wp_seq (wp_region_list ?_)
  rw [h3]
  refine Zec hn3 ?_
  unfold Oper.wp
  have hlook:=run_next_at (P:=P) w nxo.type r b clk clk _ arr clk hit hmap (fun x hx=>hS.1 x hx) (Nat.le_refl _)
  rcases hlook with ⟨hz,hrun⟩ | ⟨e,he,w1,hw1,hrun⟩
  ·
   have e1:(execOp a.eval nxo).run P w=.ok (.value (.tuple #[.bool false])) w:=by
    unfold execOp;rw [hn1]
    simp only [Act.eval]
    rw [vit]
    exact Zfb hrun
   rw [e1,Oper.upon_value,hn2]
   refine Zec hx3 ?_
   unfold Oper.wp
   have e2:(execOp (a.put (some nx) (.tuple #[.bool false])).eval exo).run P w=.ok (.value (.bool false)) w:=by
    unfold execOp;rw [hx1]
    simp only [Act.eval]
    rw [pgs (by omega)]
    exact Zfb (by simp [Instr.extract])
   rw [e2,Oper.upon_value,hx2]
   refine wpList_nil ?_
   simp only [Exit.then]
   refine wp_seq (wp_cond_false (by simp only [Act.eval];exact pgs (by rw [ZcJ];omega)) (wp_exit ?_))
   simp only [Exit.then]
   obtain ⟨rest,hr⟩:=hperm js hnd hlt
   have hrest:rest=[]:=by
    cases rest with
    | nil=>rfl
    | cons x rest =>
     exfalso
     have hx:x < es.length:=List.mem_range.1 (hr.mem_iff.2 (by simp))
     obtain ⟨ex,hxa⟩:∃ ex,arr.toList[x]?=some ex:=⟨_,List.getElem?_eq_getElem (by simpa [hne] using hx)⟩
     have hs:=ZmV hz (arr.toList.getD x ⟨undef,undef,0⟩) (by
      rw [List.getD_eq_getElem?_getD,hxa];exact List.mem_of_getElem? hxa)
     have hnd2:(js++x::rest).Nodup:=hr.nodup_iff.1 List.nodup_range
     have hxj:x ∉ js:=fun hm=>by
      have:=(List.nodup_append.1 hnd2).2.2 x hm x (by simp)
      exact this rfl
     simp only [List.contains_toArray,List.contains_eq_mem,decide_eq_true_eq,List.mem_map] at hs
     obtain ⟨y,hy,hyx⟩:=hs
     have hyl:y < es.length:=hlt y hy
     obtain ⟨ey,hya⟩:∃ ey,arr.toList[y]?=some ey:=⟨_,List.getElem?_eq_getElem (by simpa [hne] using hyl)⟩
     have hnb:=hS.2
     have e3:(arr.toList.map (·.born))[y]?=(arr.toList.map (·.born))[x]?:=by
      rw [List.getElem?_map,List.getElem?_map,hya,hxa]
      simp only [Option.map_some,Option.some.injEq]
      unfold ZcT at hyx
      rw [List.getD_eq_getElem?_getD,List.getD_eq_getElem?_getD,hya,hxa] at hyx
      exact hyx
     have hyx2:=(List.getElem?_inj (by simpa [hne] using hyl) hnb).1 e3
     subst hyx2
     exact hxj hy
   subst hrest
   have hp:=hpm js [] hr
   have ho:=hall _ hp
   unfold Zdc at ho
   rw [ZeM,hf] at ho
   simp only [List.map_nil,Zbv] at ho
   refine hQ tm σ _ w I1 β1 ho g1 g2 ?_ ⟨by rw [ZfX,ZfX];exact gd.1,by rw [ZcJ,ZcJ];exact gs⟩ R1
   have t0:∀ d,d ∉ live->tget (keepL live tm) d=.top:=fun d hd=>by rw [Zfz,if_neg hd]
   exact ZeD (ZeD T1 (t0 nx fun h=>(hlv nx h).2.1 rfl)) (t0 ok fun h=>(hlv ok h).2.2.1 rfl)
  ·
   obtain ⟨hea,hes⟩:=ZrG he
   obtain ⟨j,hj,hje⟩:=List.getElem_of_mem hea
   have hja:arr.toList[j]?=some e:=by rw [List.getElem?_eq_getElem hj,hje]
   have hjl:j < es.length:=by simpa [hne] using hj
   have hbj:ZcT arr j=e.born:=by unfold ZcT;rw [List.getD_eq_getElem?_getD,hja];rfl
   have hjs:j ∉ js:=fun hm=>by
    have : (js.map (ZcT arr)).toArray.contains e.born=true:=by
     simp only [List.contains_toArray,List.contains_eq_mem,decide_eq_true_eq,List.mem_map]
     exact ⟨j,hm,hbj⟩
    rw [this] at hes;cases hes
   have hnd':(js++[j]).Nodup:=by
    rw [List.nodup_append]
    exact ⟨hnd,by simp,fun x hx y hy=>by rw [List.mem_singleton] at hy;subst hy;rintro rfl;exact hjs hx⟩
   have hlt':∀ k ∈ js++[j],k < es.length:=fun k hk=>by
    rcases List.mem_append.1 hk with hk | hk
    ·exact hlt k hk
    ·rw [List.mem_singleton] at hk;subst hk;exact hjl
   obtain ⟨rest,hr⟩:=hperm (js++[j]) hnd' hlt'
   have hp:=hpm (js++[j]) rest hr
   have ho:=hall _ hp
   unfold Zdc at ho
   rw [ZeM,List.map_append,ZeM,hf] at ho
   simp only [List.map_cons,List.map_nil,Zbv] at ho
   generalize hkv:es.getD j ((.top,.top):AVal×AVal)=kv at ho
   cases hro:ZcG fs prim bf m live ms en b1 aslE c2 es kv tm σ with
   | none=>rw [hro] at ho;cases ho
   | some q =>
   obtain ⟨tm',σ'⟩:=q
   clear ho
   have hf':Zbv fs prim bf m live ms en b1 aslE c2 es ((js++[j]).map fun j=>es.getD j (.top,.top)) tm2 σ2=some (tm',σ'):=by
    rw [List.map_append,ZeM,hf]
    simp only [List.map_cons,List.map_nil,Zbv,hkv,hro]
   unfold ZcG at hro
   split at hro
   case h_2=>cases hro
   rename_i t hmst
   split at hro
   case isFalse=>cases hro
   rename_i hcond
   obtain ⟨hte,hkept⟩:=hcond
   split at hro
   case h_2=>cases hro
   rename_i tmA σA hstep
   have hbw:=R1.base_le hb
   have Rr:=R1.rebase hown
   obtain ⟨β0,q1,R0r,T0⟩:=ZhD Rr T1 m
   have R0:=R1.unbase R0r (fun k h=>Or.inl h)
   have hown0:∀ t x,(gcT m (keepL live tm) σ).2[t]?=some x->Zd β0 t x≠some r:=fun t x hx ho=>(R0r.own t x r hx ho).1 (Or.inr rfl)
   have tt:∀ d,d ∉ live->tget (gcT m (keepL live tm) σ).1 d=.top:=fun d hd=>Zu3 hd
   have hml:=Zrq m (keepL live tm) σ
   generalize (gcT m (keepL live tm) σ).1=tm0 at *
   generalize (gcT m (keepL live tm) σ).2=σ0 at *
   have vt:=T0 ms
   rw [hmst,vms] at vt
   simp only [VR] at vt
   obtain ⟨b',kk',cc',hbt,hbb⟩:=vt
   simp only [Value.map.injEq,Option.some.injEq] at hbb
   subst hbb
   obtain ⟨b2,k2,c2',arr',clk',e1,e2,e3,e4,e5,e6⟩:=R0.blk t _ hte
   rw [hbt] at e1
   simp only [Option.some.injEq,BI.mk.injEq] at e1
   obtain ⟨rfl,rfl,rfl⟩:=e1
   rw [hmap] at e2
   simp only [Option.some.injEq,Obj.map.injEq] at e2
   obtain ⟨rfl,rfl⟩:=e2
   have howb:Zd β0 t (.map es)=some b:=by simp [Zd,hbt]
   have htl:t < σ0.length:=(List.getElem?_eq_some_iff.1 hte).1
   have e1:(execOp a.eval nxo).run P w=.ok (.value (.tuple #[.bool true,e.key,e.val])) (setBlock w1 r (.mapIter (some b) clk ((js.map (ZcT arr)).toArray.push e.born) clk)):=by
    unfold execOp;rw [hn1]
    simp only [Act.eval]
    rw [vit]
    rw [Sem.run_bind,hrun];rfl
   have hw1h:w1.heap=w.heap/\w1.os=w.os/\w1.tape=w.tape/\w1.output=w.output:=by rcases hw1 with rfl | rfl <;> exact ⟨rfl,rfl,rfl,rfl⟩
   obtain ⟨wh,wo,wt,wu⟩:=hw1h
   have hrlt:r < w.heap.size:=(Array.getElem?_eq_some_iff.1 hit).1
   generalize hw3:setBlock w1 r (.mapIter (some b) clk ((js.map (ZcT arr)).toArray.push e.born) clk)=w3 at e1
   have w3r:w3.heap[r]?=some (.mapIter (some b) clk ((js.map (ZcT arr)).toArray.push e.born) clk):=by
    rw [<-hw3];simp only [setBlock,wh];rw [Array.getElem?_setIfInBounds_self_of_lt hrlt]
   have w3k:∀ k,k≠r->w3.heap[k]?=w.heap[k]?:=fun k hk=>by
    rw [<-hw3];simp only [setBlock,wh];rw [Array.getElem?_setIfInBounds_ne (Ne.symm hk)]
   have w3b:w3.heap[b]?=some (.map arr clk):=by rw [w3k b (Ne.symm hrb)];exact hmap
   have w3s:w3.heap.size=w.heap.size:=by rw [<-hw3];simp [setBlock,wh]
   have R3:Rel base w0 I0 I1 β0 σ0 w3:=R0.turn hown0 hrbase hIr (by rw [<-hw3];exact wo) (by rw [<-hw3];exact wt) (by rw [<-hw3];exact wu) (by omega) (fun k hk _=>w3k k hk) hbw
   have hIb:∀ o,I1 b o=none:=(R3.own t _ b hte howb).2
   have RH:=R3.hide hte howb hown0
   rw [e1,Oper.upon_value,hn2]
   generalize hA1:a.put (some nx) (.tuple #[.bool true,e.key,e.val])=A1
   have s1:A1.tmps.size=a.tmps.size:=by rw [<-hA1,ZcJ]
   have f1:∀ k,k≠nx->A1.tmps.getD k undef=a.tmps.getD k undef:=by intro k hk;rw [<-hA1];exact pgn (Ne.symm hk)
   have df1:A1.defers=[]:=by rw [<-hA1];exact gd.1
   have TA1:TR I1 β0 tm0 A1.tmps:=by rw [<-hA1];exact ZeD T0 (tt nx fun h=>(hlv nx h).2.1 rfl)
   refine Zec hx3 ?_
   unfold Oper.wp
   have e2:(execOp A1.eval exo).run P w3=.ok (.value (.bool true)) w3:=by
    unfold execOp;rw [hx1]
    simp only [Act.eval]
    rw [<-hA1,pgs (by omega)]
    exact Zfb (by simp [Instr.extract])
   rw [e2,Oper.upon_value,hx2]
   generalize hA2:A1.put (some ok) (.bool true)=A2
   have s2:A2.tmps.size=a.tmps.size:=by rw [<-hA2,ZcJ,s1]
   have f2:∀ k,k≠ok->A2.tmps.getD k undef=A1.tmps.getD k undef:=by intro k hk;rw [<-hA2];exact pgn (Ne.symm hk)
   have df2:A2.defers=[]:=by rw [<-hA2];exact df1
   have TA2:TR I1 β0 tm0 A2.tmps:=by rw [<-hA2];exact ZeD TA1 (tt ok fun h=>(hlv ok h).2.2.1 rfl)
   refine wpList_nil ?_
   simp only [Exit.then]
   refine wp_seq (wp_cond_true (by simp only [Act.eval];rw [<-hA2];exact pgs (by omega)) (wp_skip ?_))
   simp only [Exit.then]
   refine wp_block (wp_seq (wp_region_list ?_))
   rw [h4]
   refine Zec he3 ?_
   unfold Oper.wp
   have e3':(execOp A2.eval eno).run P w3=.ok (.value (.tuple #[e.key,e.val])) w3:=by
    unfold execOp;rw [he1]
    simp only [Act.eval]
    rw [f2 it (Ne.symm d10),f1 it (Ne.symm d9),vit]
    exact Zfb (run_entry_at w3 r b clk _ arr clk e w3r w3b hea hS.2)
   rw [e3',Oper.upon_value,he2]
   generalize hA3:A2.put (some en) (.tuple #[e.key,e.val])=A3
   have s3:A3.tmps.size=a.tmps.size:=by rw [<-hA3,ZcJ,s2]
   have f3:∀ k,k≠en->A3.tmps.getD k undef=A2.tmps.getD k undef:=by intro k hk;rw [<-hA3];exact pgn (Ne.symm hk)
   have df3:A3.defers=[]:=by rw [<-hA3];exact df2
   have hkve:VR I1 β0 (.tup [kv.1,kv.2]) (.tuple #[e.key,e.val]):=by
    have hej:es[j]?=some kv:=by
     rw [<-hkv,List.getD_eq_getElem?_getD,List.getElem?_eq_getElem hjl];rfl
    obtain ⟨v1,p1,p2⟩:=ZaZ e3 (i:=j) (x:=kv.1) (by rw [List.getElem?_map,hej];rfl)
    obtain ⟨v2,p3,p4⟩:=ZaZ e4 (i:=j) (x:=kv.2) (by rw [List.getElem?_map,hej];rfl)
    rw [List.getElem?_map,hja] at p1 p3
    simp only [Option.map_some,Option.some.injEq] at p1 p3
    subst p1 p3
    simp only [VR]
    exact ⟨_,rfl,by simp only [VRs];exact ⟨_,_,rfl,p2,_,_,rfl,p4,rfl⟩⟩
   have TA3:TR I1 β0 (tput tm0 (some en) (.tup [kv.1,kv.2])) A3.tmps:=by rw [<-hA3];exact TR.put TA2 hkve (by omega)
   have ok3:(Zbd it ms r b).ok A3:=by
    refine ⟨df3,fun k hk=>?_⟩
    have hk':k=it\/k=ms:=by simpa [Zbd] using hk
    have n1:k≠en/\k≠ok/\k≠nx:=by
     rcases hk' with rfl | rfl
     ·exact ⟨Ne.symm d11,Ne.symm d10,Ne.symm d9⟩
     ·exact ⟨Ne.symm d8,Ne.symm d7,Ne.symm d6⟩
    rw [f3 k n1.1,f2 k n1.2.1,f1 k n1.2.2]
    exact gd.2 k hk
   have hkp:∀ n ∈ (Zbd it ms r b).K,n ∈ an3.keep:=fun n hn=>by rw [hk3];exact hn
   have hblt:b < w.heap.size:=(Array.getElem?_eq_some_iff.1 hmap).1
   have hbH:KLt (fun k=>base k\/k=b\/k=r) w3:=fun k hk=>by
    rcases hk with hk | rfl | rfl
    ·have:=hbw k hk;omega
    ·omega
    ·omega
   obtain ⟨cs,hruns⟩:=ZjP hstep
   rw [<-List.append_nil lE]
   refine Zhj (dr:=Zbd it ms r b) (O:=fun _ _ _=>none) noO hkp hbH hcE TA3 ⟨ok3,by omega⟩ RH hruns ?_
   intro A4 w4 hst4
   refine wpList_nil ?_
   simp only [Exit.then]
   have fin:∀ (x:Zad) (tmB:Tms) (σB:Za),evC fs prim bf σ0.length c2 tmA σA=some (x,tmB,σB)->(x=.normal\/x=.exit b1)->σB[t]?=some .opq->tput tmB (some ms) (.map t)=tm'->σB.set t (.map es)=σ'->body.wp P (Exit.inBlock b1 (Exit.then (Code.rounds P (.seq (.region i3 ops3 false) (.seq (.cond (.tmp ok) .skip (.exit bid)) (.block b1 (.seq (.region i4 ops4 false) body)))) Q n) Q)) A4 w4:=by
    intro x tmB σB hev hx hopq htm hσ
    obtain ⟨nf,hev⟩:=Zar.1 hev
    rw [<-hc2,Zct] at hev
    have hstF:StF (Zbd it ms r b) σ0.length an3.nt (fun k=>base k\/k=b\/k=r) w3 I1 I1 β0 tmA σA A4 w4:=by
     obtain ⟨I4,β4,k1,k2,k3⟩:=hst4
     exact ⟨I4,β4,k1,KeptE.of_le k2,k3⟩
    have next:∀ A5 w5,StF (Zbd it ms r b) σ0.length an3.nt (fun k=>base k\/k=b\/k=r) w3 I1 I1 β0 tmB σB A5 w5->Code.rounds P (.seq (.region i3 ops3 false) (.seq (.cond (.tmp ok) .skip (.exit bid)) (.block b1 (.seq (.region i4 ops4 false) body)))) Q n A5 w5:=by
     rintro A5 w5 ⟨I5,β5,k1,k2,k3,⟨k4,k4'⟩,k5⟩
     have hb5:β5 t 0=some ⟨some b,kk',cc'⟩:=k2 t htl _ hbt
     have w5b:w5.heap[b]?=some (.map arr clk):=by rw [k5.below.block b (Or.inr (Or.inl rfl))];exact w3b
     have w5r:w5.heap[r]?=_:=(k5.below.block r (Or.inr (Or.inr rfl))).trans w3r
     have hI5b:∀ o,I5 b o=none:=fun o=>by rw [k5.old b o (Or.inr (Or.inl rfl))];exact hIb o
     have hI5r:∀ o,I5 r o=none:=fun o=>by rw [k5.old r o (Or.inr (Or.inr rfl))];exact hIr o
     have hB5:BR I5 β5 w5 t (.map es):=⟨b,kk',cc',arr,clk,hb5,w5b,Zj0 (fun y hy=>by obtain ⟨p,hp,rfl⟩:=List.mem_map.1 hy;exact e5 p hp) e3,ZhZ k1 k2 (fun y hy=>by obtain ⟨p,hp,rfl⟩:=List.mem_map.1 hy;exact hkept p hp) e4,e5,hS⟩
     have ho5:Zd β5 t (.map es)=some b:=by simp [Zd,hb5]
     have R5:=R3.unhide k5 hopq ho5 hB5 hbbase hI5b
     rw [hσ] at R5
     refine ih (js++[j]) tm' σ' A5 w5 (by rw [List.length_append,List.length_singleton];omega) hnd' hlt' hf' ?_ w5b ⟨I5,β5,g1.trans k1,?_,?_,⟨k4,by omega⟩,R5,hI5r,?_⟩
     ·rw [w5r,List.map_append,List.map_cons,List.map_nil,hbj,List.push_toArray]
     ·refine (g2.trans q1).trans (fun u hu bi hbi=>k2 u (by omega) bi hbi)
     ·refine TR.keep (fun u=>?_) live
      rw [<-htm]
      show VR I5 β5 (tget (tins ms (.map t) tmB) u) _
      rw [Zet]
      split
      ·rename_i e;subst e
       have : A5.tmps.getD ms undef=.map (some b):=by have:=k4.2 ms (by simp [Zbd]);simpa [Zbd,Ne.symm d5] using this
       rw [this]
       simp only [VR]
       exact ⟨b,kk',cc',hb5,rfl⟩
      ·exact k3 u
     ·intro u y hy hoy
      rw [<-hσ,List.getElem?_set] at hy
      split at hy
      ·rename_i e;subst e
       split at hy
       ·injection hy with hy;subst hy
        rw [ho5] at hoy;injection hoy with hoy;exact hrb hoy.symm
       ·cases hy
      ·exact (k5.own u y r hy hoy).1 (Or.inr (Or.inr rfl))
    refine Zfy (dr:=Zbd it ms r b) (an:=an3) (hO nf) hkp hm hbH σ0.length nf rfl hstF hev ?_
    rcases hx with rfl | rfl
    ·intro A5 w5 hs
     simp only [Exit.inBlock,Exit.then]
     exact next A5 w5 hs
    ·intro A5 w5 hs
     simp only [Exit.inBlock,if_true,Exit.then]
     exact next A5 w5 hs
   split at hro
   ·rename_i tmB σB hev
    split at hro
    case isFalse=>cases hro
    rename_i hopq
    simp only [Option.some.injEq,Prod.mk.injEq] at hro
    exact fin _ _ _ hev (Or.inl rfl) hopq hro.1 hro.2
   ·rename_i i tmB σB hev
    split at hro
    case isFalse=>cases hro
    rename_i hopq
    obtain ⟨rfl,hopq⟩:=hopq
    simp only [Option.some.injEq,Prod.mk.injEq] at hro
    exact fin _ _ _ hev (Or.inr rfl) hopq hro.1 hro.2
   ·cases hro
end
end
section
open Go.RowKit
open Go.ChangeMaps (setBlock)
section
variable {P:Program} {fs:Nat->Option Zag} {prim:ZaP} {bf:Nat->Bool}
theorem ZoY (hm:P.follows .mixedOrders=true) (hO:∀ n,ZK P (ZH fs prim bf n)) {f:FuncId} {an1 an3:Ann} {nt n0 n1 ms it nx ok en bid b1:Nat} {live:List Nat} {asl1 aslE:List AOp} {c1 c2 c3:Zg} {rs:List ZbA}
  (D:ZiM P f an1 an3 nt n0 n1 ms it nx ok en bid b1 live asl1 aslE c1 c2 c3 rs) {args:List AVal} {σ σ':Za} {r:AVal} (hg:Zf5 fs prim bf live ms en b1 asl1 aslE c1 c2 c3 rs args σ=some (r,σ')) :
  (∃ fn,P.funcs[f]?=some fn/\fn.body.isSome=true/\(fn.name == "runtime.NumGoroutine")=false) /\
  ∀ base w0 I0 I β w (vs:Array Value),KLt base w0->Rel base w0 I0 I β σ w->VRs I β args vs.toList ->
   Calls P f vs w (fun e w'=>∃ u,Ends r e u/\Zba σ.length base w0 I0 I β r σ' u w'):=by
 obtain ⟨F,B,pre,ops1,ops3,ops4,i2,i3,i4,body,rest,t,kt,et,rg,nxo,exo,eno,lE,hF,hname,hnt,hrs,hbody,hsp,h1,h3,h4,hr1,hr2,hr3,hu,hn1,hn2,hn3,hx1,hx2,hx3,he1,he2,he3,hc1,hca1,hcE,hc2,hc3,ha1,ha3,hk3,hd⟩:=D.ex
 simp only [Bool.and_eq_true,decide_eq_true_eq,List.all_eq_true] at hd
 obtain ⟨⟨⟨⟨⟨⟨⟨⟨⟨⟨⟨⟨d1,d2⟩,d3⟩,d4⟩,d5⟩,d6⟩,d7⟩,d8⟩,d9⟩,d10⟩,d11⟩,d12⟩,hlv⟩:=hd
 refine ⟨⟨F,hF,by rw [hbody];rfl,hname⟩,?_⟩
 intro base w0 I0 I β w vs hb R hargs
 unfold Zf5 at hg
 split at hg
 case h_2=>cases hg
 rename_i tm1 σ1 hx
 split at hg
 case h_2=>cases hg
 rename_i tm2 σ2 hst1
 split at hg
 case h_2=>cases hg
 rename_i mt hms
 split at hg
 case h_2=>cases hg
 rename_i es hes
 unfold Zem at hg
 split at hg
 case isFalse=>cases hg
 rename_i hex
 have hall:=hex.choose_spec
 injection hg with hg
 rw [hg] at hall
 obtain ⟨nf,hx⟩:=Zar.1 hx
 rw [<-hc1,Zct] at hx
 refine calls_of_wp hF hbody ?_
 rw [Zj4 hsp]
 have T:=Zkk hargs (F.ntmps - vs.size)
 have hst:StF Zbh σ.length an1.nt base w0 I0 I β (enterA 0 args []) σ { tmps:=vs++Array.replicate (F.ntmps - vs.size) undef,defers:=[] } w:=⟨I,β,Imm.le.refl I,KeptE.refl _ β,T,⟨Zc4.2 rfl,by rw [ha1,<-hnt];simp;omega⟩,R⟩
 refine Zih (hO nf) hm hb σ.length nf _ pre hst hx ?_
 rintro A1 w1 ⟨I1,β1,g1,g2,T1,⟨gd,gs⟩,R1⟩
 refine wp_seq (wp_seq (wp_region_list ?_))
 have hl1:ops1.toList=ops1.toList.take n1++[rg]:=by rw [<-h1,List.take_append_drop]
 rw [hl1]
 obtain ⟨cs,hruns⟩:=ZjP hst1
 refine Zhj (dr:=Zbh) (O:=fun _ _ _=>none) noO (fun n hn=>by simp [Zbh] at hn) hb hca1 T1 ⟨gd,gs⟩ R1 hruns ?_
 rintro A2 w2 ⟨I2,β2,k1,k2,T2,⟨kd,ks⟩,R2⟩
 have vms:=T2 ms
 rw [hms] at vms
 simp only [VR] at vms
 obtain ⟨b,kk,cc,hbt,vms⟩:=vms
 obtain ⟨b',kk',cc',arr,clk,e1,e2,e3,e4,e5,e6⟩:=R2.blk mt _ hes
 rw [hbt] at e1
 simp only [Option.some.injEq,BI.mk.injEq] at e1
 obtain ⟨rfl,rfl,rfl⟩:=e1
 refine Zec hr3 ?_
 unfold Oper.wp
 have er:(execOp A2.eval rg).run P w2=.ok (.value (.pointer (some ⟨w2.heap.size,0,none⟩))) { w2 with heap:=w2.heap.push (.mapIter (some b) clk #[] clk) }:=by
  unfold execOp;rw [hr1]
  simp only [Act.eval]
  rw [vms]
  simp [Instr.range,run_underlying hu,ZeX e2]
 rw [er,Oper.upon_value,hr2]
 refine wpList_nil ?_
 simp only [Exit.then]
 have hbw:=R2.base_le hb
 have hblt:b < w2.heap.size:=(Array.getElem?_eq_some_iff.1 e2).1
 have howb:Zd β2 mt (.map es)=some b:=by simp [Zd,hbt]
 have hob:=R2.own mt _ b hes howb
 generalize hr:w2.heap.size=rr at *
 have hown:∀ t x,σ2[t]?=some x->Zd β2 t x≠some rr:=fun t x hx ho=>by
  have:=(R2.blk t x hx).owns_lt ho;omega
 have hrb:¬base rr:=fun h=>by have:=hbw rr h;omega
 have hIr:∀ o,I2 rr o=none:=fun o=>by
  cases hi:I2 rr o with
  | none=>rfl
  | some u =>
   have:=ZbZ (R2.imm rr o u hi)
   omega
 generalize hw3:({ w2 with heap:=w2.heap.push (.mapIter (some b) clk #[] clk) }:World)=w3
 have w3k:∀ k,k < w2.heap.size->w3.heap[k]?=w2.heap[k]?:=fun k hk=>by
  rw [<-hw3];simp only;rw [Array.getElem?_push];rw [if_neg (by omega)]
 have R3:Rel base w0 I0 I2 β2 σ2 w3:=R2.turn hown hrb hIr (by rw [<-hw3]) (by rw [<-hw3]) (by rw [<-hw3]) (by rw [<-hw3];simp) (fun k _ hk=>w3k k hk) hbw
 refine wp_block (wp_loop_rounds (es.length+1) ?_)
 have hlen:arr.size=es.length:=by
  have:=Zac e3
  simpa using this.symm
 refine Znk (base:=base) (w0:=w0) (I0:=I0) (m:=σ.length) (live:=live) (ms:=ms) (it:=it) (nx:=nx) (ok:=ok) (en:=en) (nt:=nt) (c3:=c3) (rs:=rs) hm hO hb h3 h4 hn1 hn2 hn3 hx1 hx2 hx3 he1 he2 he3 hcE hc2 ha3 hk3 d1 d2 d3 d4 d5 d6 d7 d8 d9 d10 d11 d12 (fun n hn=>by have:=hlv n hn;exact ⟨this.1.1.1,this.1.1.2,this.1.2,this.2⟩)
  (r:=rr) (b:=b) (arr:=arr) (clk:=clk) (es:=es) (tm2:=tm2) (σ2:=σ2) (out:=(r,σ')) (I:=I2) (β:=β2) e6 hlen (by omega) hrb hob.1 hall ?_ (es.length+1) [] tm2 σ2 _ w3 (by simp) (by simp) (by simp) rfl ?_ ?_ ?_
 ·
  intro tm σx a wx I' β' hend j1 j2 jT jd jR
  simp only [Exit.inBlock,if_true,Exit.then]
  unfold Zc6 at hend
  obtain ⟨β3,q1,q2,q3⟩:=ZhD jR jT σ.length
  generalize hev:evC fs prim bf σ.length c3 (gcT σ.length (keepL live tm) σx).1 (gcT σ.length (keepL live tm) σx).2=res at hend
  cases res with
  | none=>simp only [Zas] at hend;cases hend
  | some q =>
   obtain ⟨e,tm',σe⟩:=q
   obtain ⟨n3,hev⟩:=Zar.1 hev
   rw [<-hc3,Zct] at hev
   have kk1:KeptE σ.length β β3:=(g2.trans (KeptE.of_le k2)).trans (j2.trans q1)
   have st:StF Zbh σ.length an1.nt base w0 I0 I β (gcT σ.length (keepL live tm) σx).1 (gcT σ.length (keepL live tm) σx).2 a wx:=⟨I',β3,(g1.trans k1).trans j1,kk1,q3,⟨Zc4.2 jd.1,by rw [ha1];exact jd.2⟩,q2⟩
   have fin:(match resA tm' σe rs with | some r=>ZaM σ.length σe r | none=>none)=some (r,σ')->∀ a' w',StF Zbh σ.length an1.nt base w0 I0 I β tm' σe a' w'->a'.defers=[]/\∃ v,(results F a'.tmps).run P w'=.ok v w'/\∃ u,Ends r (.returned v) u/\Zba σ.length base w0 I0 I β r σ' u w':=by
    intro hr a' w' ⟨I1,β1,g1,g2,g3,g4,g5⟩
    split at hr
    ·rename_i x hx1
     obtain ⟨v,h1,h2⟩:=Zjo g3 g5 hrs hx1
     have hnp:∀ y,x≠.pan y:=by rintro y rfl;simp only [VR] at h2
     obtain ⟨q1,q2⟩:=ZeQ (⟨I1,β1,g1,g2,g5,by rw [Zdq hnp];exact h2⟩:Zba σ.length base w0 I0 I β x σe v w') hr
     refine ⟨Zc4.1 g4.1,v,h1,v,q2 _ ?_,q1⟩
     cases x <;> first | rfl | exact absurd rfl (hnp _)
    ·cases hr
   refine Zfy (dr:=Zbh) (an:=an1) (hO n3) (fun n hn=>by simp [Zbh] at hn) hm hb σ.length n3 rfl st hev ?_
   cases e with
   | normal=>simp only [Zas] at hend;exact fun a' w' hs=>fin hend a' w' hs
   | ret=>simp only [Zas] at hend;exact fun a' w' hs=>fin hend a' w' hs
   | exit id=>simp only [Zas] at hend;cases hend
   | panic x =>
    simp only [Zas] at hend
    intro a' u w' hd hp
    obtain ⟨q1,q2⟩:=ZeQ hp hend
    exact ⟨Zc4.1 hd,u,q2 _ rfl,q1⟩
 ·rw [<-hw3,<-hr];simp
 ·rw [w3k b (by omega)];exact e2
 ·refine ⟨I2,β2,Imm.le.refl _,KeptE.refl _ _,?_,⟨⟨by rw [ZfX];exact Zc4.1 kd,fun k hk=>?_⟩,by rw [ZcJ];omega⟩,R3,hIr,hown⟩
  ·refine ZeD (T2.keep live) ?_
   rw [Zfz,if_neg]
   exact fun h=>(hlv it h).1.1.1 rfl
  ·have hk':k=it\/k=ms:=by simpa [Zbd] using hk
   rcases hk' with rfl | rfl
   ·rw [pgs (by omega)];simp [Zbd]
   ·rw [pgn d5,vms];simp [Zbd,Ne.symm d5]
end
end
section
open Go.RowKit Go.Sort
def ZbN {α:Type} (g:AVal->Option α):List AVal->Option (List α)
 | []=>some []
 | x::r=>match g x with
  | some a=>(ZbN g r).map (a::·)
  | none=>none
def ZdA:AVal->Option Int
 | .int .i64 n=>some n
 | _=>none
def Ze9 {α:Type} (g:AVal->Option α) (h:α->AVal) (le:α->α->Bool) (args:List AVal) (σ:Za):Option (AVal×Za):=match args,σ with
 | [.sl 0 0 0 n],[.row 0 1 xs]=>match ZbN g xs with
  | some zs=>if n=xs.length/\n < 4611686018427387904 then some (.tup [],[.row 0 1 ((zs.mergeSort le).map h)]) else none
  | none=>none
 | [.lst b []],[]=>some (.tup [],[])
 | _,_=>none
def Zfe:=Ze9 ZdA (AVal.int .i64) (fun x y=>decide (x<=y))
section
variable {P:Program} {base:Nat->Prop} {w0 w w':World} {I0 I:Imm} {β:Bmap} {σ:Za}
theorem Rel.putAt (R:Rel base w0 I0 I β σ w) (hbl:KLt base w) {t b:Nat} {x x':Zu} (ht:σ[t]?=some x) (hx:Zd β t x=some b) (hx':Zd β t x'=some b) (hg:Zc x'=Zc x)
  (hos:w'.os=w.os) (hta:w'.tape=w.tape) (hou:w'.output=w.output) (hs:w.heap.size<=w'.heap.size) (hh:∀ k,k≠b->k < w.heap.size->w'.heap[k]?=w.heap[k]?) (hblk:BR I β w' t x') :
  Rel base w0 I0 I β (σ.set t x') w':=by
 have hsl:t < σ.length:=(List.getElem?_eq_some_iff.1 ht).1
 have ho:=R.own t x b ht hx
 refine R.upd (Imm.le.refl I) (Bmap.le.refl β) ⟨hos,hta,hou,hs,fun k hk=>hh k (by rintro rfl;exact ho.1 hk) (hbl k hk)⟩ (fun _ _ _=>rfl) ?_ t x' rfl hsl (fun _ _ _=>rfl) ?_ hblk ?_ ?_ ?_
 ·intro b' o u h
  have hne:b'≠b:=by rintro rfl;rw [ho.2 o] at h;cases h
  have h1:=R.imm b' o u h
  have hlt:=ZbZ h1
  rw [<-h1]
  simp only [World.cell?,hh b' hne hlt]
 ·intro t' y b' hne hy hb'
  have hbb:b'≠b:=by rintro rfl;exact hne (R.apart t' y t x b' hy ht hb' hx)
  exact ⟨hh b' hbb ((R.blk t' y hy).owns_lt hb'),(R.own t' y b' hy hb').2,by rw [hx'];intro e;injection e with e;exact hbb e.symm⟩
 ·intro b' e
  rw [hx'] at e;injection e with e;subst e
  exact ho
 ·intro g hlt
  exact R.gen t x g ht (by rw [<-hg];exact hlt)
 ·rintro rfl
  cases hx'
theorem ZiI {α:Type} {g:AVal->Option α} {enc:α->Value} (hg:∀ x a v,g x=some a->VR I β x v->v=enc a) (hc:∀ x a,g x=some a->x.cells=[x]):∀ {xs:List AVal} {zs:List α} {vs:List Value},ZbN g xs=some zs->VRs I β (xs.flatMap AVal.cells) vs->vs=zs.map enc
 | [],zs,vs,h,hv=>by
  simp only [ZbN,Option.some.injEq] at h;subst h
  simpa [VRs] using hv
 | x::xs,zs,vs,h,hv=>by
  simp only [ZbN] at h
  split at h
  ·rename_i a ha
   simp only [Option.map_eq_some_iff] at h
   obtain ⟨zs',h,rfl⟩:=h
   rw [List.flatMap_cons,hc x a ha] at hv
   simp only [List.singleton_append,VRs] at hv
   obtain ⟨v,vs',rfl,h1,h2⟩:=hv
   rw [hg x a v ha h1,ZiI hg hc h h2];rfl
  ·cases h
theorem ZjN {α:Type} {g:AVal->Option α}:∀ {xs:List AVal} {zs:List α},ZbN g xs=some zs->zs.length=xs.length
 | [],zs,h=>by simp only [ZbN,Option.some.injEq] at h;subst h;rfl
 | x::xs,zs,h=>by
  simp only [ZbN] at h
  split at h
  ·simp only [Option.map_eq_some_iff] at h
   obtain ⟨zs',h,rfl⟩:=h
   simp [ZjN h]
  ·cases h
theorem ZtL {α:Type} [Inhabited α] {g:AVal->Option α} {h:α->AVal} {le:α->α->Bool} {enc:α->Value} {f:Nat} (hf:∃ fn,P.funcs[f]?=some fn/\fn.body.isSome=true/\(fn.name == "runtime.NumGoroutine")=false)
  (hg:∀ {I:Imm} {β:Bmap} (x:AVal) (a:α) (v:Value),g x=some a->VR I β x v->v=enc a) (hc:∀ x a,g x=some a->x.cells=[x]) (hh:∀ {I:Imm} {β:Bmap} (x:AVal) (a:α) (v:Value),g x=some a->VR I β x v->VR I β (h a) v) (hhc:∀ a,(h a).cells=[h a]/\Z9 (h a)=true)
  (hsort:∀ (blk off cap:Nat) (zs:List α) (w:World),Holds enc w blk off zs.toArray->blk < w.heap.size->zs.length < 4611686018427387904->Calls P f #[.slice (some ⟨blk,off,none⟩) zs.length cap] w fun e w'=>e=.returned (.tuple #[])/\∃ n os,w'=grow (putRow enc (Sort.ahead w n) blk off (zs.mergeSort le).toArray) os)
  (hnone:∀ (p:Option Addr) (cap:Nat) (w:World),Calls P f #[.slice p 0 cap] w fun e w'=>e=.returned (.tuple #[])/\w'=w)
  {args:List AVal} {σ σ':Za} {r:AVal} (hp:Ze9 g h le args σ=some (r,σ')) :
  (∃ fn,P.funcs[f]?=some fn/\fn.body.isSome=true/\(fn.name == "runtime.NumGoroutine")=false) /\
  ∀ base w0 I0 I β w (vs:Array Value),KLt base w0->Rel base w0 I0 I β σ w->VRs I β args vs.toList ->
   Calls P f vs w (fun e w'=>∃ u,Ends r e u/\Zba σ.length base w0 I0 I β r σ' u w'):=by
 refine ⟨hf,fun base w0 I0 I β w vs hb R hv=>?_⟩
 unfold Ze9 at hp
 obtain ⟨vs⟩:=vs
 split at hp
 ·rename_i n xs
  split at hp
  case h_2=>cases hp
  rename_i zs hz
  split at hp
  case isFalse=>cases hp
  rename_i hn
  obtain ⟨rfl,hn⟩:=hn
  simp only [Option.some.injEq,Prod.mk.injEq] at hp
  obtain ⟨rfl,rfl⟩:=hp
  simp only [VRs] at hv
  obtain ⟨v,vs',rfl,hv,rfl⟩:=hv
  have hzl:=ZjN hz
  have hB:=R.blk 0 _ rfl
  obtain ⟨bi,e1,e2,e3,e4,e5,e6,e7,e8⟩:=hB
  rw [Zbc] at hv
  obtain ⟨bi',f1,f2,f3,f4⟩:=hv
  rw [e1] at f1
  injection f1 with f1
  subst f1
  rcases f4 with ⟨b,hb',rfl⟩ | ⟨hbn,hc0,A,rfl⟩
  ·rcases e8 with ⟨e8,_⟩ | ⟨b2,us,ty,q1,q2,q3,q4⟩
   ·rw [e8] at hb';cases hb'
   rw [hb'] at q1;injection q1 with q1;subst q1
   rw [Nat.mul_one] at q3 q4
   have hus:=ZiI (fun x a v=>hg x a v) hc hz q4
   have hxl:xs.length<=us.size:=by omega
   have hH:Holds enc w b 0 zs.toArray:=by
    intro j hj
    have hj':j < zs.length:=by simpa using hj
    refine ⟨?_,by simp [World.frozen?,q2]⟩
    have h1:(us.toList.take xs.length)[j]?=(zs.map enc)[j]?:=by rw [hus]
    rw [List.getElem?_take_of_lt (by omega)] at h1
    simp only [World.cell?,q2,Nat.zero_add]
    simp only [Option.isSome_none,Bool.false_eq_true,if_false]
    rw [<-Array.getElem?_toList,h1]
    simp [hj']
   have hvr:∀ a ∈ zs,VR I β (h a) (enc a):=by
    have key:∀ {ys:List AVal} {zs:List α} {vs:List Value},ZbN g ys=some zs->VRs I β (ys.flatMap AVal.cells) vs->∀ a ∈ zs,VR I β (h a) (enc a):=by
     intro ys
     induction ys with
     | nil=>intro zs vs hz _ a ha;simp only [ZbN,Option.some.injEq] at hz;subst hz;simp at ha
     | cons y ys ih =>
      intro zs vs hz hv a ha
      simp only [ZbN] at hz
      split at hz
      ·rename_i a0 ha0
       simp only [Option.map_eq_some_iff] at hz
       obtain ⟨zs',hz,rfl⟩:=hz
       rw [List.flatMap_cons,hc y a0 ha0] at hv
       simp only [List.singleton_append,VRs] at hv
       obtain ⟨v,vs',_,h1,h2⟩:=hv
       rcases List.mem_cons.1 ha with rfl | ha
       ·rw [<-hg y a v ha0 h1];exact hh y a v ha0 h1
       ·exact ih hz h2 a ha
      ·cases hz
    exact key hz q4
   have hlt:b < w.heap.size:=(Array.getElem?_eq_some_iff.1 q2).1
   rw [<-hzl]
   refine (hsort b 0 bi.cap zs w hH hlt (by omega)).mono ?_
   rintro e w' ⟨rfl,nn,os,rfl⟩
   have hml:(zs.mergeSort le).length=zs.length:=List.length_mergeSort zs
   have hheap:(grow (putRow enc (Sort.ahead w nn) b 0 (zs.mergeSort le).toArray) os).heap[b]?=some (.cells (putCells enc 0 (zs.mergeSort le).toArray us) ty (0,0)):=by
    rw [heap_grow_old _ _ (by simpa using hlt)]
    simp [putRow,mapBlock,Sort.ahead,Array.getElem?_modify,q2,onCells]
   have htake:(putCells enc 0 (zs.mergeSort le).toArray us).toList.take zs.length=(zs.mergeSort le).map enc:=by
    apply List.ext_getElem?
    intro j
    by_cases hj:j < zs.length
    ·rw [List.getElem?_take_of_lt hj,Array.getElem?_toList]
     have hj2:j < us.size:=by omega
     have hj3:j < (zs.mergeSort le).length:=by omega
     simp [putCells,hj2,hj]
    ·rw [List.getElem?_take_eq_none (by omega),List.getElem?_eq_none (by simp;omega)]
   have hperm:∀ a,a ∈ zs.mergeSort le->a ∈ zs:=fun a ha=>(List.mergeSort_perm zs le).mem_iff.1 ha
   have hcells:∀ l:List α,(l.map h).flatMap AVal.cells=l.map h:=by
    intro l
    induction l with
    | nil=>rfl
    | cons a l ih=>rw [List.map_cons,List.flatMap_cons,(hhc a).1,ih];rfl
   have hown:Zd β 0 (.row 0 1 xs)=some b:=by simp [Zd,e1,hb']
   refine ⟨.tuple #[],rfl,I,β,Imm.le.refl I,KeptE.refl _ β,?_,by simp [Zaf,VR,VRs]⟩
   have:=R.putAt (R.base_le hb) (t:=0) (b:=b) (x:=.row 0 1 xs) (x':=.row 0 1 ((zs.mergeSort le).map h)) (w':=grow (putRow enc (Sort.ahead w nn) b 0 (zs.mergeSort le).toArray) os) rfl hown (by simp [Zd,e1,hb']) rfl rfl rfl rfl (by simp) (fun k hk hkl=>by
    rw [heap_grow_old _ _ (by simpa using hkl)]
    have : b≠k:=fun e=>hk e.symm
    simp [putRow,mapBlock,Sort.ahead,Array.getElem?_modify,this])
    ⟨bi,e1,e2,by decide,e4,by rw [List.length_map,hml];omega,?_,?_,Or.inr ⟨b,_,ty,hb',hheap,by simp [putCells];omega,?_⟩⟩
   ·exact this
   ·rw [Zby]
    intro x hx
    obtain ⟨a,_,rfl⟩:=List.mem_map.1 hx
    have:=(hhc a)
    rw [ZbY,this.1]
    intro c hc
    rw [List.mem_singleton] at hc;subst hc
    exact this.2
   ·intro x hx
    obtain ⟨a,_,rfl⟩:=List.mem_map.1 hx
    rw [(hhc a).1];rfl
   ·rw [hcells,List.length_map,hml,Nat.mul_one,htake]
    have key:∀ l:List α,(∀ a ∈ l,VR I β (h a) (enc a))->VRs I β (l.map h) (l.map enc):=by
     intro l
     induction l with
     | nil=>intro _;simp [VRs]
     | cons a l ih =>
      intro hl
      simp only [List.map_cons,VRs]
      exact ⟨_,_,rfl,hl a (by simp),ih fun c hc=>hl c (by simp [hc])⟩
    exact key _ fun a ha=>hvr a (hperm a ha)
  ·have hx0:xs=[]:=List.eq_nil_of_length_eq_zero (by omega)
   subst hx0
   simp only [ZbN,Option.some.injEq] at hz
   subst hz
   refine (hnone A 0 w).mono ?_
   rintro e w' ⟨rfl,rfl⟩
   exact ⟨.tuple #[],rfl,I,β,Imm.le.refl I,KeptE.refl _ β,by simpa using R,by simp [Zaf,VR,VRs]⟩
 ·simp only [Option.some.injEq,Prod.mk.injEq] at hp
  obtain ⟨rfl,rfl⟩:=hp
  simp only [VRs,VR] at hv
  obtain ⟨v,vs',rfl,⟨A,cap,rfl,_⟩,rfl⟩:=hv
  refine (hnone A cap w).mono ?_
  rintro e w' ⟨rfl,rfl⟩
  exact ⟨.tuple #[],rfl,I,β,Imm.le.refl I,KeptE.refl _ β,R,by simp [Zaf,VR,VRs]⟩
 ·cases hp
theorem ZsB {f:Nat} (hf:∃ fn,P.funcs[f]?=some fn/\fn.body.isSome=true/\(fn.name == "runtime.NumGoroutine")=false)
  (hsort:∀ (blk off cap:Nat) (zs:List Int) (w:World),Holds (Value.int .i64) w blk off zs.toArray->blk < w.heap.size->zs.length < 4611686018427387904->Calls P f #[.slice (some ⟨blk,off,none⟩) zs.length cap] w fun e w'=>e=.returned (.tuple #[])/\∃ n os,w'=grow (putRow (Value.int .i64) (Sort.ahead w n) blk off (zs.mergeSort fun x y=>decide (x<=y)).toArray) os)
  (hnone:∀ (p:Option Addr) (cap:Nat) (w:World),Calls P f #[.slice p 0 cap] w fun e w'=>e=.returned (.tuple #[])/\w'=w)
  {args:List AVal} {σ σ':Za} {r:AVal} (hp:Zfe args σ=some (r,σ')) :
  (∃ fn,P.funcs[f]?=some fn/\fn.body.isSome=true/\(fn.name == "runtime.NumGoroutine")=false) /\
  ∀ base w0 I0 I β w (vs:Array Value),KLt base w0->Rel base w0 I0 I β σ w->VRs I β args vs.toList ->
   Calls P f vs w (fun e w'=>∃ u,Ends r e u/\Zba σ.length base w0 I0 I β r σ' u w'):=by
 refine ZtL (g:=ZdA) (h:=AVal.int .i64) hf ?_ ?_ ?_ (fun a=>⟨rfl,rfl⟩) hsort hnone hp
 ·intro I β x a v hx hv
  unfold ZdA at hx
  split at hx
  ·injection hx with hx;subst hx;simpa [VR] using hv
  ·cases hx
 ·intro x a hx
  unfold ZdA at hx
  split at hx
  ·rfl
  ·cases hx
 ·intro I β x a v hx hv
  unfold ZdA at hx
  split at hx
  ·injection hx with hx;subst hx;exact hv
  ·cases hx
end
end
section
def Zcm {α:Type} (d:α):List (Nat×α)->Nat->α
 | [],_=>d
 | (k,v)::r,n=>if k=n then v else Zcm d r n
def ZaC (own raw:List Nat) (cfg cfg2:List (Nat×Nat×Bool)) (lr ll:List (Nat×List Nat)):Ann:={ own:=fun n=>if own.contains n then 1 else if raw.contains n then 2 else 0,cfg:=Zcm (0,true) cfg,cfg2:=Zcm (0,true) cfg2,lr:=Zcm [] lr,ll:=Zcm [] ll }
def Zmq:List (Nat×Ann):=[
 (13,ZaC [] [] [] [] [(0,[1,0]),(1,[5,1,0]),(2,[5]),(3,[4])] []),
 (15,ZaC [] [] [] [] [(0,[1,0]),(1,[6]),(2,[4])] []),
 (12,ZaC [] [] [] [] [(0,[1,0]),(1,[15,1,0]),(2,[4]),(3,[]),(4,[4])] []),
 (20,ZaC [] [] [] [] [(0,[0]),(1,[2])] []),
 (10,ZaC [] [] [] [] [(0,[0]),(1,[4,0]),(2,[6,4,0]),(3,[4,0]),(4,[11,4,0]),(5,[3,2]),(6,[3,2])] [(2,[4,0])]),
 (21,ZaC [] [] [] [] [(0,[0]),(1,[2])] []),
 (18,ZaC [] [] [] [] [(0,[10,1,0]),(1,[4,1,0]),(2,[4,1,0]),(3,[])] []),
 (23,ZaC [] [] [] [] [(0,[0]),(1,[3,0]),(2,[12,3,0]),(3,[3,0]),(4,[30,3,0]),(5,[2]),(6,[4,0]),(7,[37,4,0]),(8,[4,0]),(9,[55,4,0]),(10,[2]),(11,[5,0]),(12,[62,5,0]),(13,[5,0]),(14,[80,5,0]),(15,[2]),(16,[2])] [(2,[3,0]),(7,[4,0]),(12,[5,0])]),
 (24,ZaC [] [] [] [] [(0,[0]),(1,[3,0]),(2,[17,3,0]),(3,[3,0]),(4,[4,3,0]),(5,[29,4,3,0]),(6,[4,3,0]),(7,[4,3,0]),(8,[5,0]),(9,[6,5,0]),(10,[49,6,5,0]),(11,[6,5,0]),(12,[7,6,5,0]),(13,[6,5,0]),(14,[8,5,0]),(15,[76,8,5,0]),(16,[8,5,0]),(17,[9,8,5,0]),(18,[10,9,8,5,0]),(19,[89,10,9,8,5,0]),(20,[10,9,8,5,0]),(21,[116,10,9,8,5,0]),(22,[2]),(23,[141,8,5,0]),(24,[2]),(25,[2])] [(2,[3,0]),(5,[4,3,0]),(10,[6,5,0]),(15,[8,5,0]),(19,[10,9,8,5,0])]),
 (26,ZaC [] [] [] [] [(0,[0]),(1,[3,0]),(2,[17,3,0]),(3,[3,0]),(4,[4,3,0]),(5,[29,4,3,0]),(6,[4,3,0]),(7,[4,3,0]),(8,[5,0]),(9,[6,5,0]),(10,[48,6,5,0]),(11,[6,5,0]),(12,[7,6,5,0]),(13,[6,5,0]),(14,[8,5,0]),(15,[73,8,5,0]),(16,[8,5,0]),(17,[9,8,5,0]),(18,[10,9,8,5,0]),(19,[86,10,9,8,5,0]),(20,[10,9,8,5,0]),(21,[111,10,9,8,5,0]),(22,[2]),(23,[134,8,5,0]),(24,[2]),(25,[2])] [(2,[3,0]),(5,[4,3,0]),(10,[6,5,0]),(15,[8,5,0]),(19,[10,9,8,5,0])]),
 (25,ZaC [] [] [] [] [(0,[0]),(1,[3,0]),(2,[17,3,0]),(3,[3,0]),(4,[4,3,0]),(5,[29,4,3,0]),(6,[4,3,0]),(7,[4,3,0]),(8,[5,0]),(9,[6,5,0]),(10,[49,6,5,0]),(11,[6,5,0]),(12,[7,6,5,0]),(13,[6,5,0]),(14,[8,5,0]),(15,[76,8,5,0]),(16,[8,5,0]),(17,[9,8,5,0]),(18,[10,9,8,5,0]),(19,[89,10,9,8,5,0]),(20,[10,9,8,5,0]),(21,[116,10,9,8,5,0]),(22,[2]),(23,[141,8,5,0]),(24,[2]),(25,[2])] [(2,[3,0]),(5,[4,3,0]),(10,[6,5,0]),(15,[8,5,0]),(19,[10,9,8,5,0])]),
 (14,ZaC [] [] [] [] [(0,[1,0]),(1,[5,1,0]),(2,[13,5,1,0]),(3,[5,1,0]),(4,[24,5,1,0]),(5,[6,5,0]),(6,[]),(7,[4]),(8,[4])] [(2,[5,1,0])]),
 (16,ZaC [] [] [] [] [(0,[1,0]),(1,[5,1,0]),(2,[12,5,1,0]),(3,[5,1,0]),(4,[23,5,1,0]),(5,[4]),(6,[4])] [(2,[5,1,0])]),
 (8,ZaC [] [] [] [] [(0,[1,0]),(1,[12,1,0]),(2,[4]),(3,[5,1,0]),(4,[30,5,1,0]),(5,[5,1,0]),(6,[50,5,1,0]),(7,[4]),(8,[6,5,1,0]),(9,[]),(10,[4])] [(4,[5,1,0])]),
 (11,ZaC [] [] [] [] [(0,[0]),(1,[4,0]),(2,[5,4,0]),(3,[23,5,4,0]),(4,[5,4,0]),(5,[5,4,0]),(6,[3,2])] [(3,[5,4,0])]),
 (6,ZaC [] [] [] [] [(0,[0]),(1,[3,0]),(2,[11,10,9,3]),(3,[12,11,10,9,3]),(4,[11,10,9,5,3]),(5,[11,10,9,3]),(6,[11,10,9,3]),(7,[2])] [(3,[11,10,9,3])]),
 (19,ZaC [] [] [] [] [(0,[1,0]),(1,[10,1,0]),(2,[4]),(3,[5,1,0]),(4,[14,5,1,0]),(5,[5,1,0]),(6,[25,5,1,0]),(7,[4]),(8,[4])] [(4,[5,1,0])]),
 (29,ZaC [] [] [] [] [(0,[1,0]),(1,[4])] []),
 (9,ZaC [] [] [] [] [(0,[2,1,0]),(1,[7,1,0]),(2,[7,1,0]),(3,[16,7,1,0]),(4,[1,0]),(5,[6])] []),
 (30,ZaC [] [] [] [] [(0,[1,0]),(1,[10,1,0]),(2,[4]),(3,[5,1,0]),(4,[14,5,1,0]),(5,[5,1,0]),(6,[25,5,1,0]),(7,[4]),(8,[4])] [(4,[5,1,0])]),
 (5,ZaC [] [] [(6,2,false)] [] [(0,[]),(1,[1]),(2,[2,1]),(3,[9,2,1]),(4,[2,1]),(5,[2,1]),(6,[3]),(7,[24,3]),(8,[0]),(9,[5,3]),(10,[51,3]),(11,[0]),(12,[7,6]),(13,[0])] [(3,[2,1])]),
 (4,ZaC [] [] [(6,2,false)] [] [(0,[1,0]),(1,[14,1,0]),(2,[1,0]),(3,[5,1,0]),(4,[6,5,1,0]),(5,[20,6,5,1,0]),(6,[6,5,1,0]),(7,[6,5,1,0]),(8,[7,1]),(9,[38,7,1]),(10,[4]),(11,[8,7,1]),(12,[46,8,7,1]),(13,[8,7,1]),(14,[10,9,8,7,1]),(15,[69,9,8,7,1]),(16,[4]),(17,[11,9,8,7,1]),(18,[72,11,9,8,7,1]),(19,[11,9,8,7,1]),(20,[78,11,9,8,7,1]),(21,[4]),(22,[112,8,7,1]),(23,[4]),(24,[4])] [(5,[6,5,1,0]),(12,[8,7,1]),(18,[11,9,8,7,1])]),
 (3,ZaC [] [] [(17,1,false),(6,2,false)] [] [(0,[1,0]),(1,[18,1,0]),(2,[1,0]),(3,[5,1,0]),(4,[28,5,1,0]),(5,[4]),(6,[6,5,1,0]),(7,[7,6,5,1,0]),(8,[34,7,6,5,1,0]),(9,[7,6,5,1,0]),(10,[7,6,5,1,0]),(11,[8,6,5,1]),(12,[9,8,6,5,1]),(13,[52,9,8,6,5,1]),(14,[9,8,6,5,1]),(15,[10,9,8,6,5,1]),(16,[65,10,9,8,6,5,1]),(17,[15,9,8,6,5,1]),(18,[15,9,8,6,5,1]),(19,[77,9,8,6,5,1]),(20,[4]),(21,[78,65,10,9,8,6,5,1]),(22,[12,11,9,8,6,5,1]),(23,[14,13,12,11,9,8,6,5,1]),(24,[97,9,8,6,5,1]),(25,[4]),(26,[98,65,10,9,8,6,5,1]),(27,[106,9,8,6,5,1]),(28,[4]),(29,[107,65,10,9,8,6,5,1]),(30,[115,9,8,6,5,1]),(31,[4]),(32,[116,10,9,8,6,5,1]),(33,[124,9,8,6,5,1]),(34,[4]),(35,[132,9,8,6,5,1]),(36,[4]),(37,[4])] [(8,[7,6,5,1,0]),(13,[9,8,6,5,1])]),
 (7,ZaC [] [] [(6,2,false)] [] [(0,[]),(1,[1]),(2,[14,1]),(3,[0]),(4,[3,2,1]),(5,[5,4,3,2,1]),(6,[0])] []),
 (1000000,{})]
def ann:Nat->Ann:=Zcm {} Zmq
def Zwd:List (Nat×Bool):=[
 (22,true),
 (1000000,false)]
def BY:Nat->Bool:=Zcm false Zwd
noncomputable def CF:Nat->Option Zag:=Zed Try.prog ann
noncomputable def FC:Nat->Option Zag:=fun f=>(CF f).map ZfL
def Ziv:List (Nat×Option (List AVal->Za->Option (AVal×Za))):=[
 (22,some (Zfe)),
 (17,some (Zhd)),
 (1000000,none)]
def PR:ZaP:=Zcm none Ziv
def oI (d:Nat) (i:Ins):AOp:=⟨some d,i,none,[]⟩
def oN (i:Ins):AOp:=⟨none,i,none,[]⟩
theorem xw (c d:Zg) (h:c=d) (m:Nat) (tm:Tms) (σ:Za):evC FC PR BY m c tm σ=evC FC PR BY m d tm σ:=by rw [h]
noncomputable abbrev E:Zp:=EV FC PR BY
theorem Zcj {f:Nat} {fn:Zag} (hp:PR f=none) (hf:FC f=some fn) (args:List AVal) (σ:Za):E f args σ=Zas σ.length fn (evC FC PR BY σ.length fn.body (enterA 0 args []) σ):=ZiB hp hf args σ
end
section
open Go.RowKit
inductive Ty where
 | bool
 | int (k:IntKind)
 | str
 | slice (s:Bool) (e:Ty)
 | struct (fs:List Ty)
 deriving Inhabited
def Zb4:Option TypeDesc->Bool
 | some (.struct _)=>true
 | some (.array _ _)=>true
 | _=>false
def Ze0 (P:Program):Nat->List Field->Nat->Bool
 | at',[],n=>at' == n
 | at',f::fs,n=>f.offset == at' && Ze0 P (at'+P.cellsOf f.type) fs n
def ZbR (P:Program):Nat->TypeId->Option Ty
 | 0,_=>none
 | n+1,t=>match P.underlying t with
  | some .bool=>some .bool
  | some (.int k)=>some (.int k)
  | some .string=>some .str
  | some (.slice e)=>if 0 < P.cellsOf e then (ZbR P n e).map (.slice (Zb4 (P.underlying e))) else none
  | some (.struct fs)=>if Ze0 P 0 fs.toList (P.cellsOf t) then (fs.toList.mapM fun f=>ZbR P n f.type).map .struct else none
  | _=>none
def Zbe (s:Bool) (y:List AVal):AVal:=if s then .agg y else y.headD .nilp
mutual
def TyC:Ty->List AVal->Prop
 | .bool,xs=>∃ b,xs=[.bool b]
 | .int k,xs=>∃ n,(Lit.int k n).wf=true/\xs=[.int k n]
 | .str,xs=>∃ l:List UInt8,l.length<=9223372036854775807/\xs=[.str l]
 | .slice s e,xs=>∃ ys:List (List AVal),xs=[.lst false (ys.map (Zbe s))]/\ys.length<=9223372036854775807/\∀ y ∈ ys,TyC e y
 | .struct fs,xs=>ZeY fs xs
def ZeY:List Ty->List AVal->Prop
 | [],xs=>xs=[]
 | f::fs,xs=>∃ a b,xs=a++b/\TyC f a/\ZeY fs b
end
def Imm.of (w:World):Imm:=fun b o=>w.cell? ⟨b,o,none⟩
section
variable {H:Type} {enc:TypeId×Value->H} {P:Program} {w:World} {spare:Nat->Bool} {held:Bool}
theorem Zur {b off:Nat} {s:Option Nat} {u:Value} (h:w.cell? ⟨b,off,s⟩=some u):s=none:=by
 unfold World.cell? at h
 split at h
 ·rcases s with _ | s
  ·rfl
  ·simp at h
 ·cases h
theorem Ztg {s:Bool} {y:List AVal} (h:s=false->y.length=1) (h1:s=false->∀ x ∈ y,ZC x=true):(Zbe s y).cells=y:=by
 cases s with
 | true=>rfl
 | false =>
  match y,h rfl with
  | [x],_ =>
   have:=h1 rfl x (by simp)
   cases x <;> simp_all [Zbe,AVal.cells,ZC]
theorem Zmg {a:Addr} (h:a.spot=none) (n:Nat):a.add n=⟨a.block,a.off+n,none⟩:=by
 unfold Addr.add
 split
 ·rename_i e;subst e;cases a;simp_all
 ·rfl
theorem Zn5 {I:Imm} {β:Bmap} {xs:List AVal} {vs:List Value} {n:Nat} (h:VRs I β xs (vs.take n)) {ys:List AVal} (h':VRs I β ys (vs.drop n)):VRs I β (xs++ys) vs:=by
 have:=Zbg h h'
 rwa [List.take_append_drop] at this
theorem ZiD {α β:Type} {f:α->Option β} {a:α} {l:List α} {r:List β} (h:(a::l).mapM f=some r):∃ b r',f a=some b/\l.mapM f=some r'/\r=b::r':=by
 rw [List.mapM_cons] at h
 simp only [Option.bind_eq_bind,Option.bind_eq_some_iff,Option.pure_def,Option.some.injEq] at h
 obtain ⟨b,h1,r',h2,h3⟩:=h
 exact ⟨b,r',h1,h2,h3.symm⟩
theorem Zk8 {a b:List AVal} (ha:Zaa a=true) (hb:Zaa b=true):Zaa (a++b)=true:=by
 induction a with
 | nil=>exact hb
 | cons x a ih=>simp only [List.cons_append,Zaa,Bool.and_eq_true] at ha ⊢;exact ⟨ha.1,ih ha.2⟩
theorem Zig {n fuel:Nat} {cs:List Value} (ih:∀ (t:TypeId) (cs:List Value) (x:DataW H×List MemPlace) (T:Ty),ZbR P n t=some T->DataW.trod enc P w 0 spare held fuel t cs=some x->∃ xs,TyC T xs/\VRs (Imm.of w) B0 xs cs/\Zaa xs=true) :
  ∀ (fs:List Field) (at':Nat) (Ts:List Ty) (ys:List (DataW H×List MemPlace)),Ze0 P at' fs cs.length=true->fs.mapM (fun f=>ZbR P n f.type)=some Ts ->
   fs.mapM (fun f=>DataW.trod enc P w 0 spare held fuel f.type ((cs.drop f.offset).take (P.cellsOf f.type)))=some ys->∃ xs,ZeY Ts xs/\VRs (Imm.of w) B0 xs (cs.drop at')/\Zaa xs=true
 | [],at',Ts,ys,ho,hT,_=>by
  simp only [Ze0,beq_iff_eq] at ho
  simp only [List.mapM_nil,Option.pure_def,Option.some.injEq] at hT
  subst hT ho
  exact ⟨[],by simp only [ZeY],by simp [VRs],rfl⟩
 | f::fs,at',Ts,ys,ho,hT,h=>by
  simp only [Ze0,Bool.and_eq_true,beq_iff_eq] at ho
  obtain ⟨T,Ts',h1,h2,rfl⟩:=ZiD hT
  obtain ⟨y,ys',h3,h4,rfl⟩:=ZiD h
  obtain ⟨a,a1,a2,a3⟩:=ih _ _ _ _ h1 h3
  obtain ⟨b,b1,b2,b3⟩:=Zig ih fs _ _ _ ho.2 h2 h4
  rw [ho.1] at a2
  refine ⟨a++b,by simp only [ZeY];exact ⟨a,b,rfl,a1,b1⟩,Zn5 a2 (by rw [List.drop_drop];exact b2),Zk8 a3 b3⟩
theorem Zh6 {I:Imm} {β:Bmap} {s:Bool} {k b:Nat}:∀ (n off:Nat) (Y:Nat->List AVal),(∀ i,i < n->(Zbe s (Y i)).cells.length=k/\CR I β (Zbe s (Y i)).cells b (off+i*k))->LR I β k ((List.range n).map fun i=>Zbe s (Y i)) b off
 | 0,off,Y,_=>by simp [LR]
 | n+1,off,Y,h=>by
  rw [List.range_succ_eq_map,List.map_cons,Zdo]
  have h0:=h 0 (by omega)
  simp only [Nat.zero_mul,Nat.add_zero] at h0
  refine ⟨h0,?_⟩
  rw [List.map_map]
  exact Zh6 n (off+k) (fun i=>Y (i+1)) (fun i hi=>by
   have:=h (i+1) (by omega)
   rw [show off+k+i*k=off+(i+1)*k by rw [Nat.succ_mul];omega]
   exact this)
theorem Zkg {I:Imm} {β:Bmap} {b:Nat}:∀ (xs:List AVal) (cs:List Value) (off:Nat),VRs I β xs cs->(∀ i,i < cs.length->I b (off+i)=cs[i]?)->CR I β xs b off
 | [],_,_,_,_=>by simp only [CR]
 | x::xs,cs,off,h,hI=>by
  simp only [VRs] at h
  obtain ⟨v,vs',rfl,h1,h2⟩:=h
  simp only [CR]
  refine ⟨⟨v,by have:=hI 0 (by simp);simpa using this,h1⟩,Zkg xs vs' (off+1) h2 fun i hi=>?_⟩
  have:=hI (i+1) (by simp;omega)
  rw [show off+1+i=off+(i+1) by omega,this]
  simp
theorem Zhl {s:Bool}:∀ (n:Nat) (Y:Nat->List AVal),(∀ i,i < n->Zaa (Zbe s (Y i)).cells=true)->Zx ((List.range n).map fun i=>Zbe s (Y i))=true
 | 0,Y,_=>by simp [Zx]
 | n+1,Y,h=>by
  rw [List.range_succ_eq_map,List.map_cons,Zj9,h 0 (by omega),List.map_map]
  simp only [Bool.true_and]
  exact Zhl n (fun i=>Y (i+1)) (fun i hi=>h (i+1) (by omega))
theorem Zkb {xs:List AVal} (h:Zaa xs=true):∀ x ∈ xs,ZC x=true:=by
 induction xs with
 | nil=>intro x hx;simp at hx
 | cons y ys ih =>
  simp only [Zaa,Bool.and_eq_true] at h
  intro x hx
  rcases List.mem_cons.1 hx with rfl | hx
  ·cases x <;> simp_all [Z9,ZC]
  ·exact ih h.2 x hx
theorem ZiC {n:Nat} {e:TypeId} {T:Ty} (hT:ZbR P n e=some T) (hs:Zb4 (P.underlying e)=false) {xs:List AVal} (h:TyC T xs):xs.length=1:=by
 cases n with
 | zero=>simp [ZbR] at hT
 | succ n =>
  simp only [ZbR] at hT
  split at hT
  ·injection hT with hT;subst hT;simp only [TyC] at h;obtain ⟨_,rfl⟩:=h;rfl
  ·injection hT with hT;subst hT;simp only [TyC] at h;obtain ⟨_,_,rfl⟩:=h;rfl
  ·injection hT with hT;subst hT;simp only [TyC] at h;obtain ⟨_,_,rfl⟩:=h;rfl
  ·split at hT
   ·simp only [Option.map_eq_some_iff] at hT
    obtain ⟨T',_,rfl⟩:=hT
    simp only [TyC] at h;obtain ⟨_,rfl,_⟩:=h;rfl
   ·cases hT
  ·rename_i hu;rw [hu] at hs;simp [Zb4] at hs
  ·cases hT
theorem Zhf:∀ (n fuel:Nat) (t:TypeId) (cs:List Value) (x:DataW H×List MemPlace) (T:Ty),ZbR P n t=some T->DataW.trod enc P w 0 spare held fuel t cs=some x ->
  ∃ xs,TyC T xs/\VRs (Imm.of w) B0 xs cs/\Zaa xs=true
 | 0,fuel,t,cs,x,T,hT,_=>by simp [ZbR] at hT
 | n+1,0,t,cs,x,T,_,h=>by simp [DataW.trod] at h
 | n+1,fuel+1,t,cs,x,T,hT,h=>by
  have h0:=h
  simp only [ZbR] at hT
  unfold DataW.trod at h
  split at hT
  ·rename_i hu
   injection hT with hT;subst hT
   obtain ⟨b,rfl,_⟩:=DataW.trod_bool hu h0
   exact ⟨[.bool b],by simp only [TyC];exact ⟨b,rfl⟩,by simp [VRs,VR],rfl⟩
  ·rename_i k hu
   injection hT with hT;subst hT
   obtain ⟨n',rfl,_,hk⟩:=DataW.trod_int hu h0
   exact ⟨[.int k n'],by simp only [TyC];exact ⟨n',hk,rfl⟩,by simp [VRs,VR],rfl⟩
  ·rename_i hu
   injection hT with hT;subst hT
   obtain ⟨s,rfl,_,hs⟩:=DataW.trod_string hu h0
   have hs':s.data.toList.length<=9223372036854775807:=by
    rw [Array.length_toList];exact Nat.le_trans hs (by simp [maxLen])
   exact ⟨[.str s.data.toList],by simp only [TyC];exact ⟨_,hs',rfl⟩,by simp only [VRs,VR];exact ⟨_,_,rfl,⟨by simp,hs'⟩,rfl⟩,rfl⟩
  ·rename_i e hu
   split at hT
   case isFalse=>cases hT
   rename_i hc
   simp only [Option.map_eq_some_iff] at hT
   obtain ⟨T,hT,rfl⟩:=hT
   rcases Go.Deep.open_slice hu h0 with ⟨hcs,_⟩ | ⟨a,len,cap,m,n',D,Pl,hcs,_,hl,hm,hmm,_,hi⟩
   ·subst hcs
    exact ⟨[.lst false []],by simp only [TyC];exact ⟨[],by simp,by simp,by simp⟩,by simp only [VRs,VR];exact ⟨_,_,rfl,⟨none,0,rfl,by simp,by simp,by simp,by simp,by simp [Zx]⟩,rfl⟩,rfl⟩
   ·have hlm:len<=m:=by split at hmm <;> omega
    have hspot:0 < len->a.spot=none:=by
     intro h0
     obtain ⟨cs',h1,h2⟩:=hi 0 (by omega)
     obtain ⟨_,h6,h7⟩:=World.cells?_some h1
     have h8:=h7 0 hc
     obtain ⟨u,hu⟩:∃ u,cs'[0]?=some u:=⟨cs'[0]'(by omega),by simp⟩
     rw [hu] at h8
     simp only [Nat.zero_mul,Addr.add,if_true] at h8
     exact Zur (b:=a.block) (off:=a.off) (s:=a.spot) (u:=u) h8
    have hall:∀ i,∃ xs,i < len->TyC T xs/\(Zbe (Zb4 (P.underlying e)) xs).cells=xs/\xs.length=P.cellsOf e/\CR (Imm.of w) B0 xs a.block (a.off+i*P.cellsOf e)/\Zaa xs=true:=by
     intro i
     by_cases hlt:i < len
     ·obtain ⟨cs',h1,h2⟩:=hi i (by omega)
      obtain ⟨xs,h3,h4,h5⟩:=Zhf n n' e cs' _ T hT h2
      obtain ⟨_,h6,h7⟩:=World.cells?_some h1
      have hlen:=Zac h4
      refine ⟨xs,fun _=>⟨h3,Ztg (fun hs=>ZiC hT hs h3) (fun _=>Zkb h5),by omega,Zkg xs cs' _ h4 (fun j hj=>?_),h5⟩⟩
      have h8:=h7 j (by omega)
      rw [Go.Deep.add_add,Zmg (hspot (by omega)),<-Nat.add_assoc] at h8
      exact h8
     ·exact ⟨[],fun h=>absurd h hlt⟩
    obtain ⟨Y,hY⟩:=Classical.axiomOfChoice hall
    subst hcs
    have hmx:maxLen=9223372036854775807:=by simp [maxLen]
    rw [hmx] at hm
    refine ⟨[.lst false ((List.range len).map fun i=>Zbe (Zb4 (P.underlying e)) (Y i))],?_,?_,?_⟩
    ·simp only [TyC]
     refine ⟨(List.range len).map Y,by rw [List.map_map];rfl,by simp;omega,?_⟩
     intro y hy
     obtain ⟨i,hi',rfl⟩:=List.mem_map.1 hy
     exact (hY i (List.mem_range.1 hi')).1
    ·simp only [VRs,VR,List.length_map,List.length_range]
     refine ⟨_,_,rfl,⟨some a,cap,rfl,hl,hm,by simp,?_,Zhl len Y fun i hlt=>by rw [(hY i hlt).2.1];exact (hY i hlt).2.2.2.2⟩,rfl⟩
     cases len with
     | zero=>exact Or.inl (by simp)
     | succ len =>
      refine Or.inr ⟨a.block,a.off,P.cellsOf e,?_,hc,Zh6 (len+1) a.off Y fun i hlt=>?_⟩
      ·have:=hspot (by omega)
       cases a;simp_all
      ·rw [(hY i hlt).2.1];exact ⟨(hY i hlt).2.2.1,(hY i hlt).2.2.2.1⟩
    ·simp only [Zaa,Z9,Bool.and_true]
     exact Zhl len Y fun i hlt=>by rw [(hY i hlt).2.1];exact (hY i hlt).2.2.2.2
  ·rename_i fs hu
   split at hT
   case isFalse=>cases hT
   rename_i ho
   simp only [Option.map_eq_some_iff] at hT
   obtain ⟨Ts,hT,rfl⟩:=hT
   rw [hu] at h
   simp only at h
   split at h
   ·rename_i hl
    simp only [Option.map_eq_some_iff] at h
    obtain ⟨ys,hy,rfl⟩:=h
    obtain ⟨xs,h1,h2,h3⟩:=Zig (fun t cs x T h h'=>Zhf n fuel t cs x T h h') fs.toList 0 Ts ys (by rw [hl];exact ho) hT hy
    exact ⟨xs,by simp only [TyC];exact h1,h2,h3⟩
   ·cases h
  ·cases hT
def ZiZ (s:Bool) (T:Ty) (x:AVal):Prop:=∃ xs,TyC T xs/\x=Zbe s xs
theorem ZjG {n:Nat} {t:TypeId} {v:Value} {d:DataW H} {ps:List MemPlace} {T:Ty} {r:Reach} {b0:Nat} (hT:ZbR P n t=some T) (hv:Value.okWide P w r b0 t v) (h:DataW.Trod enc P w 0 spare held t v d ps) :
  ∃ x,ZiZ (Zb4 (P.underlying t)) T x/\VR (Imm.of w) B0 x v/\Zaa x.cells=true:=by
 obtain ⟨fuel,h⟩:=h
 obtain ⟨xs,h1,h2,h3⟩:=Zhf n fuel t _ _ T hT h
 refine ⟨Zbe (Zb4 (P.underlying t)) xs,⟨xs,h1,rfl⟩,?_⟩
 by_cases hs:Zb4 (P.underlying t)=true
 ·have : ∃ cs,v=.agg cs:=by
   unfold Value.okWide at hv
   cases hu:P.underlying t with
   | none=>rw [hu] at hs;simp [Zb4] at hs
   | some dd =>
    rw [hu] at hv hs
    cases dd <;> first | (simp [Zb4] at hs;done) | (obtain ⟨cs,e,_⟩:=hv;exact ⟨cs,e⟩)
  obtain ⟨cs,rfl⟩:=this
  rw [hs]
  exact ⟨by simp only [Zbe,if_true,VR];exact ⟨cs,rfl,h2⟩,h3⟩
 ·have hs':Zb4 (P.underlying t)=false:=by simpa using hs
  have hl:=ZiC hT hs' h1
  have hlen:=Zac h2
  rw [hs']
  match xs,hl with
  | [x],_ =>
   simp only [Zbe,Bool.false_eq_true,if_false,List.headD_cons]
   have hvc:v.cells=#[v]:=by
    cases n with
    | zero=>simp [ZbR] at hT
    | succ n =>
     simp only [ZbR] at hT
     split at hT
     ·rename_i hu;obtain ⟨b,rfl⟩:=Go.WideShapes.okWide_bool hu hv;rfl
     ·rename_i k hu;obtain ⟨b,rfl⟩:=Go.WideShapes.okWide_int hu hv;rfl
     ·rename_i hu;obtain ⟨b,rfl⟩:=Go.WideShapes.okWide_string hu hv;rfl
     ·rename_i e hu;obtain ⟨a,l,c,rfl⟩:=Go.WideShapes.okWide_slice hu hv;rfl
     ·rename_i fs hu;rw [hu] at hs';simp [Zb4] at hs'
     ·cases hT
   rw [hvc] at h2
   simp only [VRs] at h2
   obtain ⟨v',vs',e,h2,_⟩:=h2
   simp only [List.cons.injEq] at e
   rw [e.1]
   refine ⟨h2,?_⟩
   have hok:=Zkb h3 x (by simp)
   have hx:x.cells=[x]:=by cases x <;> first | rfl | (simp [ZC] at hok;done)
   rw [hx];exact h3
theorem Rel.start (w:World) (hG:Gl.le (Imm.of w)):Rel (fun b=>b < w.heap.size) w (Imm.of w) (Imm.of w) B0 [] w where
 below:=KB.refl _ w
 old:=fun _ _ _=>rfl
 imm:=fun _ _ _ h=>h
 blk:=fun t x h=>by simp at h
 own:=fun t x b h=>by simp at h
 apart:=fun t x t' x' b h=>by simp at h
 fresh:=fun _ _ _=>rfl
 free:=fun t g h=>by simp at h
 gen:=fun t b g h=>by simp at h
 glob:=hG
theorem Zpf {O:Zp} (hO:ZK P O) {f:Nat} {args:List AVal} {vs:Array Value} {σ':Za} (hG:Gl.le (Imm.of w)) (hargs:VRs (Imm.of w) B0 args vs.toList) (h:O f args []=some (.bool true,σ')) :
  Calls P f vs w (fun e w'=>e=.returned (.bool true)/\Below w.heap.size w w'):=by
 refine ((hO f args [] _ _ h).2 _ w _ _ B0 w vs (fun b hb=>hb) (Rel.start w hG) hargs).mono ?_
 rintro e w' ⟨u,he,I',β',_,_,R,hv⟩
 simp only [Zaf,VR] at hv
 subst hv
 exact ⟨he,R.below.os,R.below.tape,R.below.output,R.below.size,R.below.block⟩
end
end
section
open Go.Shelf
def Zqq:Ren:=⟨fun | 189=>22 | 125=>28 | 257=>27 | 128=>40 | 129=>41 | 294=>31 | 295=>32 | 296=>33 | 297=>34 | 298=>35 | 299=>36 | 216=>37 | 300=>38 | 301=>39 | 328=>42 | 329=>43 | 330=>44 | 331=>45 | 332=>46 | 215=>47 | 343=>48 | n=>n,fun | 28=>22 | 3=>3 | 46=>47 | 0=>0 | 51=>69 | 53=>59 | 4=>4 | 183=>62 | 182=>61 | 131=>40 | 5=>5 | 9=>9 | 218=>71 | 222=>75 | 228=>77 | 229=>78 | n=>n,fun | n=>n⟩
theorem ZiY:Go.Proofs.Lays.n189 Try.prog Zqq:={ mixed:=by kernel_rfl,f125:=Try.func28.trans (congrArg some (by kernel_rfl)),f128:=Try.func40.trans (congrArg some (by kernel_rfl)),f129:=Try.func41.trans (congrArg some (by kernel_rfl)),f189:=Try.func22.trans (congrArg some (by kernel_rfl)),f215:=Try.func47.trans (congrArg some (by kernel_rfl)),f216:=Try.func37.trans (congrArg some (by kernel_rfl)),f257:=Try.func27.trans (congrArg some (by kernel_rfl)),f294:=Try.func31.trans (congrArg some (by kernel_rfl)),f295:=Try.func32.trans (congrArg some (by kernel_rfl)),f296:=Try.func33.trans (congrArg some (by kernel_rfl)),f297:=Try.func34.trans (congrArg some (by kernel_rfl)),f298:=Try.func35.trans (congrArg some (by kernel_rfl)),f299:=Try.func36.trans (congrArg some (by kernel_rfl)),f300:=Try.func38.trans (congrArg some (by kernel_rfl)),f301:=Try.func39.trans (congrArg some (by kernel_rfl)),f328:=Try.func42.trans (congrArg some (by kernel_rfl)),f329:=Try.func43.trans (congrArg some (by kernel_rfl)),f330:=Try.func44.trans (congrArg some (by kernel_rfl)),f331:=Try.func45.trans (congrArg some (by kernel_rfl)),f332:=Try.func46.trans (congrArg some (by kernel_rfl)),f343:=Try.func48.trans (congrArg some (by kernel_rfl)),t0:=Try.underlying0,a0:=Try.isAgg0,z0:=Try.sizeOf0,v0:=Try.zeroValue0,t3:=Try.underlying3,a3:=Try.isAgg3,z3:=Try.sizeOf3,v3:=Try.zeroValue3,t4:=Try.underlying4,a4:=Try.isAgg4,z4:=Try.sizeOf4,v4:=Try.zeroValue4,t5:=Try.underlying5,a5:=Try.isAgg5,z5:=Try.sizeOf5,v5:=Try.zeroValue5,t9:=Try.underlying9,a9:=Try.isAgg9,z9:=Try.sizeOf9,v9:=Try.zeroValue9,t28:=Try.underlying22,a28:=Try.isAgg22,z28:=Try.sizeOf22,v28:=Try.zeroValue22,t46:=Try.underlying47,a46:=Try.isAgg47,z46:=Try.sizeOf47,v46:=Try.zeroValue47,t51:=Try.underlying69,a51:=Try.isAgg69,z51:=Try.sizeOf69,v51:=Try.zeroValue69,t53:=Try.underlying59,a53:=Try.isAgg59,z53:=Try.sizeOf59,v53:=Try.zeroValue59,t131:=Try.underlying40,a131:=Try.isAgg40,z131:=Try.sizeOf40,v131:=Try.zeroValue40,t182:=Try.underlying61,a182:=Try.isAgg61,z182:=Try.sizeOf61,v182:=Try.zeroValue61,t183:=Try.underlying62,a183:=Try.isAgg62,z183:=Try.sizeOf62,v183:=Try.zeroValue62,t218:=Try.underlying71,a218:=Try.isAgg71,z218:=Try.sizeOf71,v218:=Try.zeroValue71,t222:=Try.underlying75,a222:=Try.isAgg75,z222:=Try.sizeOf75,v222:=Try.zeroValue75,t228:=Try.underlying77,a228:=Try.isAgg77,z228:=Try.sizeOf77,v228:=Try.zeroValue77,t229:=Try.underlying78,a229:=Try.isAgg78,z229:=Try.sizeOf78,v229:=Try.zeroValue78 }
end
section
set_option maxRecDepth 100000
theorem Zgr:Try.prog.follows .mixedOrders=true:=by kernel_rfl
theorem ZiF {α:Type} {d v:α}:∀ {l:List (Nat×α)} {n:Nat},Zcm d l n=v->v=d\/(n,v) ∈ l
 | [],n,h=>Or.inl h.symm
 | (k,w)::r,n,h=>by
  simp only [Zcm] at h
  split at h
  ·rename_i e;subst e h;exact Or.inr (by simp)
  ·rcases ZiF h with h | h
   ·exact Or.inl h
   ·exact Or.inr (by simp [h])
theorem ZiU:Ze4 Try.prog PR:=by
 intro f g h args σ r σ' hg
 rcases ZiF h with h | h
 ·cases h
 unfold Ziv at h
 simp only [List.mem_cons,Prod.mk.injEq,Option.some.injEq,List.not_mem_nil,or_false] at h
 rcases h with ⟨rfl,rfl⟩ | h
 ·exact ZsB ⟨Try.f22,Try.func22,by kernel_rfl,by kernel_rfl⟩ (fun blk off cap zs w=>Any.slices_Sort_int ZiY blk off cap zs w) (fun p cap w=>Any.slices_Sort_int_none ZiY p cap w) hg
 rcases h with ⟨rfl,rfl⟩ | h
 ·exact ZvI hg
 exact absurd h.2 (by simp)
end
section
def Zha:Zg:=(.seq (.region [oI 4 (.mov (.c (.bool false)))] none [1,0]) (.seq (.region [oI 6 (.mov (.t 0)),oI 7 (.mov (.t 1)),oI 8 (.call 15 0 true [(.t 6),(.t 7)]),oI 5 (.mov (.t 8))] none [5,1,0]) (.seq (.region [oI 9 (.mov (.t 0)),oI 10 (.nilchk (.t 9)),oI 11 (.faddr 0 (.t 10)),oI 12 (.ld none (.t 11)),oI 13 (.mov (.t 1)),oN (.mdel 0 (.t 12) (.t 13))] none [5]) (.seq (.region [oI 14 (.mov (.t 5)),oI 4 (.mov (.t 14))] none [4]) .ret))))
def ZhI:Zag:=⟨[(.tmp 4)],Zha⟩
theorem Zr3:FC 13=some ZhI:=by kernel_rfl
theorem ZsX:ZhI.body=Zha:=rfl
theorem Zmk:ZhI.res=[(.tmp 4)]:=rfl
def Zca:Zg:=(.seq (.region [oI 4 (.mov (.c (.bool false)))] none [1,0]) (.seq (.region [oI 8 (.mov (.t 0)),oI 9 (.nilchk (.t 8)),oI 10 (.faddr 0 (.t 9)),oI 11 (.ld none (.t 10)),oI 12 (.mov (.t 1)),oI 13 (.look 0 (.agg []) true (.t 11) (.t 12)),oI 7 (.mov (.t 13)),oI 14 (.ext (.t 7) 0),oI 15 (.ext (.t 7) 1),oI 5 (.alloc []),oN (.st 0 (.t 5) (.t 14)),oI 6 (.mov (.t 15))] none [6]) (.seq (.region [oI 16 (.mov (.t 6)),oI 4 (.mov (.t 16))] none [4]) .ret)))
def ZgG:Zag:=⟨[(.tmp 4)],Zca⟩
theorem Zu0:FC 15=some ZgG:=by kernel_rfl
theorem ZcN:ZgG.body=Zca:=rfl
theorem ZcI:ZgG.res=[(.tmp 4)]:=rfl
def ZdP:Zg:=(.seq (.region [oI 4 (.mov (.c (.bool false)))] none [1,0]) (.seq (.seq (.region [oI 5 (.mov (.t 1)),oI 6 (.bin .lss (.t 5) (.c (.int .i64 1))),oI 7 (.mov (.t 6)),⟨(some 8),(.mov (.t 1)),(some (7,false)),[]⟩,⟨(some 9),(.bin .gtr (.t 8) (.c (.int .i64 65535))),(some (7,false)),[]⟩,oI 10 (.pick (.t 7) (.c (.bool true)) (.t 9)),oI 11 (.mov (.t 10)),⟨(some 12),(.mov (.t 0)),(some (11,false)),[]⟩,⟨(some 13),(.mov (.t 1)),(some (11,false)),[]⟩,⟨(some 14),(.call 15 0 true [(.t 12),(.t 13)]),(some (11,false)),[]⟩,oI 15 (.pick (.t 11) (.c (.bool true)) (.t 14))] none [15,1,0]) (.cond (.t 15) (.seq (.region [oI 4 (.mov (.c (.bool false)))] none [4]) .ret) .skip)) (.seq (.region [oI 16 (.mov (.t 0)),oI 17 (.nilchk (.t 16)),oI 18 (.faddr 0 (.t 17)),oI 19 (.ld none (.t 18)),oI 20 (.mov (.t 1)),oI 21 (.build [] []),oN (.mset 0 (.t 19) (.t 20) (.t 21))] none []) (.seq (.region [oI 4 (.mov (.c (.bool true)))] none [4]) .ret))))
def Zg1:Zag:=⟨[(.tmp 4)],ZdP⟩
theorem Ze8:FC 12=some Zg1:=by kernel_rfl
theorem Zfv:Zg1.body=ZdP:=rfl
theorem Zfd:Zg1.res=[(.tmp 4)]:=rfl
def Zg6:Zg:=(.seq (.region [oI 2 (.mov (.c (.int .i64 0)))] none [0]) (.seq (.region [oI 3 (.mov (.t 0)),oI 4 (.nilchk (.t 3)),oI 5 (.faddr 0 (.t 4)),oI 6 (.ld none (.t 5)),oI 7 (.mlen (.t 6)),oI 2 (.mov (.t 7))] none [2]) .ret))
def Zhq:Zag:=⟨[(.tmp 2)],Zg6⟩
theorem ZnK:FC 20=some Zhq:=by kernel_rfl
theorem Zpv:Zhq.body=Zg6:=rfl
theorem Zvv:Zhq.res=[(.tmp 2)]:=rfl
def ZdN:Zg:=(.seq (.region [oI 2 (.mov (.c (.int .i64 0))),oI 3 (.mov (.c (.bool false)))] none [3,2]) .ret)
def Zhr:Zg:=ZdN
def ZfC:=xw Zhr ZdN rfl
def Zd6:Zg:=(.seq (.seq (.region [oI 5 (.mov (.t 4)),oI 6 (.bin .leq (.t 5) (.c (.int .i64 65535)))] none [6,4,0]) (.cond (.t 6) .skip (.exit 0))) (.seq (.block 1 (.seq (.region [oI 9 (.mov (.t 0)),oI 10 (.mov (.t 4)),oI 11 (.call 12 0 true [(.t 9),(.t 10)])] none [11,4,0]) (.cond (.t 11) (.seq (.region [oI 12 (.mov (.t 4)),oI 2 (.mov (.t 12)),oI 3 (.mov (.c (.bool true)))] none [3,2]) .ret) .skip))) (.region [oI 7 (.mov (.t 4)),oI 8 (.bin .add (.t 7) (.c (.int .i64 1))),oI 4 (.mov (.t 8))] none [4,0])))
def ZgE:Zg:=Zd6
def Zfu:=xw ZgE Zd6 rfl
def Zd7:Zg:=(.seq (.region [oI 2 (.mov (.c (.int .i64 0))),oI 3 (.mov (.c (.bool false)))] none [0]) (.seq (.seq (.region [oI 4 (.mov (.c (.int .i64 1)))] none [4,0]) (.block 0 (.loop [4,0] ZgE))) Zhr))
def ZfK:Zag:=⟨[(.tmp 2),(.tmp 3)],Zd7⟩
theorem ZnZ:FC 10=some ZfK:=by kernel_rfl
theorem ZfQ:ZfK.body=Zd7:=rfl
theorem Zfo:ZfK.res=[(.tmp 2),(.tmp 3)]:=rfl
noncomputable def Zee (m:Nat) (tm:Tms) (σ:Za):Option (AVal×Za):=(Zas m ZfK (ZbX FC PR BY m Zhr (Option.map (ZaN 0) (evL FC PR BY m [4,0] ZgE tm σ))))
def ZeH:Zg:=(.seq (.region [oI 19 (.mov (.t 3)),oI 2 (.mov (.t 19))] none [2]) .ret)
def ZhA:Zg:=ZeH
def Zg5:=xw ZhA ZeH rfl
def Zeh:Zg:=(.seq (.region [oI 12 (.bin .lss (.t 11) (.t 10))] none [12,11,10,9,3]) (.seq (.cond (.t 12) .skip (.exit 0)) (.seq (.block 1 (.seq (.region [oI 13 (.iaddr 1 (.t 9) (.t 11)),oI 14 (.ld none (.t 13)),oI 5 (.mov (.t 14))] none [11,10,9,5,3]) (.region [oI 15 (.mov (.t 3)),oI 16 (.mov (.t 5)),oI 17 (.call 12 0 true [(.t 15),(.t 16)])] none [11,10,9,3]))) (.region [oI 18 (.bin .add (.t 11) (.c (.int .i64 1))),oI 11 (.mov (.t 18))] none [11,10,9,3]))))
def ZhO:Zg:=Zeh
def ZhH:=xw ZhO Zeh rfl
def ZeB:Zg:=(.seq (.region [oI 2 (.mov (.c .nilp))] none [0]) (.seq (.region [oI 6 .mkmap,oI 7 (.build [.nilm] [(0,1,(.t 6))]),oI 8 (.box (.t 7)),oI 3 (.mov (.t 8))] none [3,0]) (.seq (.seq (.region [oI 9 (.mov (.t 0)),oI 10 (.len (.t 9)),oI 11 (.mov (.c (.int .i64 0)))] none [11,10,9,3]) (.block 0 (.loop [11,10,9,3] ZhO))) ZhA)))
def Zfp:Zag:=⟨[(.tmp 2)],ZeB⟩
theorem ZpZ:FC 6=some Zfp:=by kernel_rfl
theorem Zg7:Zfp.body=ZeB:=rfl
theorem Zgi:Zfp.res=[(.tmp 2)]:=rfl
noncomputable def ZfR (m:Nat) (tm:Tms) (σ:Za):Option (AVal×Za):=(Zas m Zfp (ZbX FC PR BY m ZhA (Option.map (ZaN 0) (evL FC PR BY m [11,10,9,3] ZhO tm σ))))
end
section
set_option maxRecDepth 100000
def Zvn:Ann:={ nt:=21,lr:=fun i=>if i=0 then [0] else if i=1 then [3,0] else if i=6 then [3] else [2] }
def Zvl:Ann:={ nt:=21,keep:=[9,8],lr:=fun _=>[8,3] }
def c1A:Zg:=.seq (.region [oI 2 (.mov (.c (.lst true [])))] none [0]) (.seq (.region [oI 3 (.mov (.c (.lst true [])))] none [3,0]) .skip)
def Zfl:List AOp:=[⟨some 5,.mov (.t 0),none,[]⟩,⟨some 6,.nilchk (.t 5),none,[0]⟩,⟨some 7,.faddr 0 (.t 6),none,[1]⟩,⟨some 8,.ld none (.t 7),none,[2]⟩]
def ZbD:List AOp:=[⟨some 13,.ext (.t 12) 0,none,[0]⟩,⟨some 4,.mov (.t 13),none,[1,0,1]⟩]
def c2A:Zg:=.region [oI 14 (.mov (.t 3)),oI 15 (.mov (.t 4)),oI 16 (.bslice false 1 1 (.int .i64 0) [(0,(.t 15))]),oI 17 (.app 1 8 (.int .i64 0) (.t 14) (.t 16)),oI 3 (.mov (.t 17))] none [8,3]
def c3A:Zg:=.seq (.region [oI 18 (.mov (.t 3)),oI 19 (.call 22 0 true [(.t 18)])] none [3]) (.seq (.region [oI 20 (.mov (.t 3)),oI 2 (.mov (.t 20))] none [2]) .ret)
theorem Zod:ZiM Try.prog 17 Zvn Zvl 21 2 4 8 9 10 11 12 0 1 [8,3] Zfl ZbD c1A c2A c3A [.tmp 2] :=
 ⟨_,_,_,_,_,_,_,_,_,_,_,_,_,_,_,_,_,_,_,Try.func17,by kernel_rfl,rfl,by kernel_rfl,rfl,rfl,rfl,rfl,rfl,rfl,rfl,rfl,Try.underlying48,rfl,rfl,rfl,rfl,rfl,rfl,rfl,rfl,rfl,by kernel_rfl,by kernel_rfl,by kernel_rfl,by kernel_rfl,by kernel_rfl,rfl,rfl,rfl,by decide⟩
noncomputable def Zf3:List AVal->Za->Option (AVal×Za):=Zf5 FC PR BY [8,3] 8 12 1 Zfl ZbD c1A c2A c3A [.tmp 2]
noncomputable def PR2:ZaP:=fun f=>if f=17 then some Zf3 else PR f
noncomputable abbrev E2:Zp:=EV FC PR2 BY
theorem Zl5:OLe E E2:=by
 refine Zrn (fun f hf=>?_) (fun f g hg=>?_)
 ·unfold PR2
  rw [if_neg (by rintro rfl;revert hf;decide)]
  exact hf
 ·by_cases h1:f=17
  ·subst h1
   have : PR 17=some Zhd:=by rfl
   rw [this] at hg;injection hg with hg;subst hg
   exact Or.inr fun _ _=>rfl
  refine Or.inl ?_
  unfold PR2
  rw [if_neg h1]
  exact hg
theorem ZjR {f:Nat} {fn:Zag} (hp:PR2 f=none) (hf:FC f=some fn) (args:List AVal) (σ:Za):E2 f args σ=Zas σ.length fn (evC FC PR2 BY σ.length fn.body (enterA 0 args []) σ):=ZiB hp hf args σ
theorem Zo2 (args:List AVal) (σ:Za):E2 17 args σ=Zf3 args σ:=Zlv (by rfl) args σ
theorem ZwL {args:List AVal} {σ σ':Za} {r:AVal} (hg:Zf3 args σ=some (r,σ')) :
  (∃ fn,Try.prog.funcs[17]?=some fn/\fn.body.isSome=true/\(fn.name == "runtime.NumGoroutine")=false) /\
  ∀ base w0 I0 I β w (vs:Array Value),KLt base w0->Rel base w0 I0 I β σ w->VRs I β args vs.toList ->
   Calls Try.prog 17 vs w (fun e w'=>∃ u,Ends r e u/\Zba σ.length base w0 I0 I β r σ' u w') :=
 ZoY Zgr (fun n=>by
  have h:ZH FC PR BY n=ZH CF PR BY n:=ZhB CF PR BY n
  rw [h]
  exact ZgH Zgr ZiU ann BY n) Zod hg
theorem ZvQ:Ze4 Try.prog PR2:=by
 intro f g h args σ r σ' hg
 unfold PR2 at h
 split at h
 ·rename_i e;subst e
  injection h with h;subst h
  exact ZwL hg
 ·exact ZiU f g h args σ r σ' hg
theorem Znl:ZK Try.prog E2:=by
 have h:E2=EV CF PR2 BY:=Zlp CF PR2 BY
 rw [h]
 exact Zsm Zgr ZvQ ann BY
end
section
open Go.RowKit
theorem ZuL (id:Nat) (tm:Tms) (σ:Za):ZaN id (.normal,tm,σ)=(.normal,tm,σ):=rfl
theorem Zt9 (id i:Nat) (tm:Tms) (σ:Za):ZaN id (.exit i,tm,σ)=if i=id then (.normal,tm,σ) else (.exit i,tm,σ):=by simp only [ZaN]
theorem ZsP (id:Nat) (tm:Tms) (σ:Za):ZaN id (.ret,tm,σ)=(.ret,tm,σ):=rfl
theorem Zqf (id:Nat) (x:AVal) (tm:Tms) (σ:Za):ZaN id (.panic x,tm,σ)=(.panic x,tm,σ):=rfl
section
variable (O:Zp) (bf:Nat->Bool)
def Zb1 (c:Cls):Option (Tms×Za×List Cls×Option AVal)->Option (Tms×Za×List Cls×Option AVal)
 | none=>none
 | some (tm,σ,cs,p)=>some (tm,σ,c::cs,p)
def Zdx (c:List Cls):Option (Tms×Za×List Cls×Option AVal)->Option (Tms×Za×List Cls×Option AVal)
 | none=>none
 | some (tm,σ,cs,p)=>some (tm,σ,c++cs,p)
def kC (d:Option Nat) (os:List AOp) (s:Nat) (tm:Tms):Option (AVal×Za×Cls)->Option (Tms×Za×List Cls×Option AVal)
 | none=>none
 | some (v,σ,c)=>if Zab v then some (tput tm d v,σ,[c],some (Zaf v)) else Zb1 c (Zo O bf os s (tput tm d v) σ)
def Zc0 (ops:List AOp) (L:Nat) (l:List (Nat×Nat)) (live:List Nat):Option (Tms×Za×List Cls×Option AVal)->Option (Zad×Tms×Za)
 | none=>none
 | some (_,σ,cs,some x)=>if ZdK ops L l cs then some (.panic x,[],σ) else none
 | some (tm,σ,cs,none)=>if ZbS ops L l cs then some (.normal,keepL live tm,σ) else none
variable {O bf}
theorem Zjz (s:Nat) (tm:Tms) (σ:Za):Zo O bf [] s tm σ=some (tm,σ,[],none):=rfl
theorem ZmF (c:Cls) (tm:Tms) (σ:Za) (cs:List Cls) (p:Option AVal):Zb1 c (some (tm,σ,cs,p))=some (tm,σ,c::cs,p):=rfl
theorem Zo5 (c:Cls):Zb1 c none=none:=rfl
theorem Zk6 (c:Cls) (q:Prop) [Decidable q] (x y:Option (Tms×Za×List Cls×Option AVal)):Zb1 c (if q then x else y)=if q then Zb1 c x else Zb1 c y:=by split <;> rfl
theorem ZuG (c:List Cls) (tm:Tms) (σ:Za) (cs:List Cls) (p:Option AVal):Zdx c (some (tm,σ,cs,p))=some (tm,σ,c++cs,p):=rfl
theorem Zsg (c:List Cls):Zdx c none=none:=rfl
theorem Zup (c:List Cls) (q:Prop) [Decidable q] (x y:Option (Tms×Za×List Cls×Option AVal)):Zdx c (if q then x else y)=if q then Zdx c x else Zdx c y:=by split <;> rfl
theorem Zgc {o:AOp} {os:List AOp} {s:Nat} {tm tm1:Tms} {σ σ1:Za} {v:AVal} {c:Cls} (h:Zi O bf o s tm σ=some (v,tm1,σ1,c)) (hn:Zab v=false):Zo O bf (o::os) s tm σ=Zb1 c (Zo O bf os (s+nsite o.ins) tm1 σ1):=by
 rw [Zjb h hn]
 cases Zo O bf os (s+nsite o.ins) tm1 σ1 <;> rfl
theorem Zhs (d:Option Nat) (i:Ins) (af:List Nat) (os:List AOp) (s:Nat) (tm:Tms) (σ:Za):Zo O bf (⟨d,i,none,af⟩::os) s tm σ=kC O bf d os (s+nsite i) tm (exI O bf i s tm σ):=by
 cases h:exI O bf i s tm σ with
 | none=>exact ZeC (by rw [ZfE,h];rfl)
 | some q =>
  obtain ⟨v,σ1,c⟩:=q
  have hs:Zi O bf ⟨d,i,none,af⟩ s tm σ=some (v,tput tm d v,σ1,c):=by rw [ZfE,h];rfl
  cases hp:Zab v with
  | true =>
   obtain ⟨x,rfl⟩:=ZfW hp
   exact Zfr hs
  | false =>
   rw [Zgc hs hp]
   simp only [kC,hp,Bool.false_eq_true,if_false]
theorem Zg2 (d:Option Nat) (os:List AOp) (s:Nat) (tm:Tms) (v:AVal) (σ:Za) (c:Cls) (h:Zab v=false):kC O bf d os s tm (some (v,σ,c))=Zb1 c (Zo O bf os s (tput tm d v) σ):=by
 simp only [kC,h,Bool.false_eq_true,if_false]
theorem Zlo (d:Option Nat) (os:List AOp) (s:Nat) (tm:Tms) (x:AVal) (σ:Za) (c:Cls):kC O bf d os s tm (some (.pan x,σ,c))=some (tput tm d (.pan x),σ,[c],some x):=rfl
theorem ZlH (d:Option Nat) (os:List AOp) (s:Nat) (tm:Tms):kC O bf d os s tm none=none:=rfl
theorem ZvX (d:Option Nat) (os:List AOp) (s:Nat) (tm:Tms) (q:Prop) [Decidable q] (x y:Option (AVal×Za×Cls)):kC O bf d os s tm (if q then x else y)=if q then kC O bf d os s tm x else kC O bf d os s tm y:=by split <;> rfl
theorem ZpN (ops:List AOp) (l:List (Nat×Nat)) (live:List Nat) (tm:Tms) (σ:Za):Zbk O bf ops (some l) live tm σ=Zc0 ops σ.length l live (Zo O bf ops σ.length tm (σ++List.replicate (sitesOf ops) .free)):=by
 unfold Zbk
 cases Zo O bf ops σ.length tm (σ++List.replicate (sitesOf ops) .free) with
 | none=>rfl
 | some q =>
  obtain ⟨tm',σ',cs,p⟩:=q
  cases p <;> rfl
theorem Zh3 (ops:List AOp) (L:Nat) (l:List (Nat×Nat)) (live:List Nat) (tm:Tms) (σ:Za) (cs:List Cls) (h:ZbS ops L l cs=true):Zc0 ops L l live (some (tm,σ,cs,none))=some (.normal,keepL live tm,σ):=by
 simp only [Zc0,h,if_true]
theorem ZqP (ops:List AOp) (L:Nat) (l:List (Nat×Nat)) (live:List Nat):Zc0 ops L l live none=none:=rfl
theorem ZtG (ops:List AOp) (L:Nat) (l:List (Nat×Nat)) (live:List Nat) (q:Prop) [Decidable q] (x y:Option (Tms×Za×List Cls×Option AVal)):Zc0 ops L l live (if q then x else y)=if q then Zc0 ops L l live x else Zc0 ops L l live y:=by split <;> rfl
theorem Zwh (ops:List AOp) (L:Nat) (l:List (Nat×Nat)) (cs:List Cls) (h:(cs.all fun c=>c.wr.isEmpty && !c.any)=true) (hs:(l.all fun p=>p.1 == p.2 || nsite (ops.getD p.1 default).ins == 0)=true):ZbS ops L l cs=true:=by
 have hd:∀ i,Zb5 (cs.getD i {})=true:=by
  intro i
  rw [List.all_eq_true] at h
  rw [List.getD_eq_getElem?_getD]
  cases hi:cs[i]? with
  | none=>rfl
  | some c=>exact h c (List.mem_of_getElem? hi)
 unfold ZbS
 rw [List.all_eq_true] at hs ⊢
 intro p hp
 have:=hs p hp
 rw [Bool.or_eq_true] at this ⊢
 rcases this with this | this
 ·exact Or.inl this
 ·refine Or.inr ?_
  unfold Zbj
  simp only [hd,this,Bool.and_true,Bool.true_and,Bool.true_or,Bool.or_true]
theorem ZoU (ops:List AOp) (L:Nat) (l:List (Nat×Nat)) (live:List Nat) (tm:Tms) (σ:Za) (cs:List Cls) (h:(cs.all fun c=>c.wr.isEmpty && !c.any)=true) (hs:(l.all fun p=>p.1 == p.2 || nsite (ops.getD p.1 default).ins == 0)=true):Zc0 ops L l live (some (tm,σ,cs,none))=some (.normal,keepL live tm,σ) :=
 Zh3 _ _ _ _ _ _ _ (Zwh _ _ _ _ h hs)
variable (O bf) in
def gKC (os:List AOp) (s:Nat):Option (Tms×Za×List Cls×Option AVal)->Option (Tms×Za×List Cls×Option AVal)
 | none=>none
 | some (tm,σ,cs,some x)=>some (tm,σ,cs,some x)
 | some (tm,σ,cs,none)=>Zdx cs (Zo O bf os s tm σ)
theorem ZmE (os:List AOp) (s:Nat) (tm:Tms) (σ:Za) (cs:List Cls):gKC O bf os s (some (tm,σ,cs,none))=Zdx cs (Zo O bf os s tm σ):=rfl
theorem ZlF (os:List AOp) (s:Nat) (q:Prop) [Decidable q] (x y:Option (Tms×Za×List Cls×Option AVal)):gKC O bf os s (if q then x else y)=if q then gKC O bf os s x else gKC O bf os s y:=by split <;> rfl
theorem Zsk (os:List AOp) (s:Nat) (c:Cls) (r:Option (Tms×Za×List Cls×Option AVal)):gKC O bf os s (Zb1 c r)=Zb1 c (gKC O bf os s r):=by
 cases r with
 | none=>rfl
 | some q =>
  obtain ⟨tm,σ,cs,p⟩:=q
  cases p with
  | some x=>rfl
  | none =>
   simp only [Zb1,gKC]
   cases Zo O bf os s tm σ <;> rfl
theorem Zh1:∀ (a b:List AOp) (s:Nat) (tm:Tms) (σ:Za),Zo O bf (a++b) s tm σ=gKC O bf b (s+sitesOf a) (Zo O bf a s tm σ)
 | [],b,s,tm,σ=>by
  simp only [List.nil_append,Zjz,gKC,sitesOf,List.map_nil,List.sum_nil,Nat.add_zero]
  cases Zo O bf b s tm σ <;> rfl
 | o::a,b,s,tm,σ=>by
  have ih:=Zh1 a b
  simp only [List.cons_append]
  have hs:s+nsite o.ins+sitesOf a=s+sitesOf (o::a):=by simp [sitesOf,Nat.add_assoc]
  cases hst:Zi O bf o s tm σ with
  | none=>rw [ZeC hst,ZeC hst];rfl
  | some q =>
   obtain ⟨v,tm1,σ1,c⟩:=q
   cases hp:Zab v with
   | true =>
    obtain ⟨x,rfl⟩:=ZfW hp
    rw [Zfr hst,Zfr hst];rfl
   | false=>rw [Zgc hst hp,Zgc hst hp,ih,hs,Zsk]
variable (O bf) in
def Zco (j:Nat) (w:Bool) (g:List AOp) (s:Nat) (tm:Tms) (σ:Za):Option (Tms×Za×List Cls×Option AVal):=match Zaz (some (j,w)) tm with
 | none=>none
 | some false=>some (ZD g tm,σ,g.map fun _=>{},none)
 | some true=>Zo O bf (g.map unG) s tm σ
theorem Zki (j:Nat) (w:Bool):∀ (g:List AOp),(∀ o ∈ g,o.guard=some (j,w)/\o.dst≠some j)->∀ (s:Nat) (tm:Tms) (σ:Za),g≠[]->Zo O bf g s tm σ=Zco O bf j w g s tm σ
 | [],_,_,_,_,h=>absurd rfl h
 | o::g,hall,s,tm,σ,_=>by
  obtain ⟨hg,hd⟩:=hall o (by simp)
  have ih:∀ (tm:Tms) (σ:Za) (s:Nat),Zaz (some (j,w)) tm≠none->Zo O bf g s tm σ=Zco O bf j w g s tm σ:=by
   intro tm σ s hw
   by_cases he:g=[]
   ·subst he
    unfold Zco
    cases hx:Zaz (some (j,w)) tm with
    | none=>exact absurd hx hw
    | some b=>cases b <;> rfl
   ·exact Zki j w g (fun o ho=>hall o (by simp [ho])) s tm σ he
  cases hx:Zaz (some (j,w)) tm with
  | none =>
   rw [ZeC (by simp only [Zi,hg,hx])]
   simp only [Zco,hx]
  | some b =>
   cases b with
   | false =>
    have h1:Zo O bf (o::g) s tm σ=Zb1 {} (Zo O bf g (s+nsite o.ins) (tput tm o.dst (.tup [])) σ) :=
     Zgc (v:=.tup []) (c:={}) (by simp only [Zi,hg,hx]) rfl
    rw [h1,ih _ _ _ (by rw [ZcR hd,hx];simp)]
    unfold Zco
    rw [ZcR hd,hx]
    rfl
   | true =>
    have key:∀ r:Option (AVal×Za×Cls),(∀ v σ' c,r=some (v,σ',c)->Zab v=false->Zo O bf g (s+nsite o.ins) (tput tm o.dst v) σ'=Zo O bf (g.map unG) (s+nsite o.ins) (tput tm o.dst v) σ')->kC O bf o.dst g (s+nsite o.ins) tm r=kC O bf o.dst (g.map unG) (s+nsite o.ins) tm r:=by
     intro r hr
     cases r with
     | none=>rfl
     | some q =>
      obtain ⟨v,σ',c⟩:=q
      cases hp:Zab v with
      | true=>simp only [kC,hp,if_true]
      | false=>rw [Zg2 _ _ _ _ _ _ _ hp,Zg2 _ _ _ _ _ _ _ hp,hr v σ' c rfl hp]
    have h1:Zo O bf (o::g) s tm σ=kC O bf o.dst g (s+nsite o.ins) tm (exI O bf o.ins s tm σ):=by
     have h0:Zo O bf (o::g) s tm σ=Zo O bf (⟨o.dst,o.ins,none,o.after⟩::g) s tm σ:=by
      have hst:Zi O bf o s tm σ=Zi O bf ⟨o.dst,o.ins,none,o.after⟩ s tm σ:=by
       unfold Zi
       simp only [hg,hx]
       rfl
      simp only [Zo,hst]
     rw [h0,Zhs]
    rw [h1]
    unfold Zco
    rw [hx]
    simp only [List.map_cons]
    rw [show unG o=⟨o.dst,o.ins,none,o.after⟩ from rfl,Zhs]
    refine key _ fun v σ' c _ _=>?_
    rw [ih _ _ _ (by rw [ZcR hd,hx];simp)]
    unfold Zco
    rw [ZcR hd,hx]
theorem ZpG (d:Option Nat) (i:Ins) (j:Nat) (w:Bool) (af:List Nat) (os:List AOp) (s:Nat) (tm:Tms) (σ:Za) (hd:decide (d=some j)=false) :
  Zo O bf (⟨d,i,some (j,w),af⟩::os) s tm σ=gKC O bf (Zw j w os).2 (s+sitesOf (⟨d,i,some (j,w),af⟩::(Zw j w os).1)) (Zco O bf j w (⟨d,i,some (j,w),af⟩::(Zw j w os).1) s tm σ):=by
 have h:=Zg3 j w os
 have hall:∀ o ∈ (⟨d,i,some (j,w),af⟩::(Zw j w os).1:List AOp),o.guard=some (j,w)/\o.dst≠some j:=by
  intro o ho
  rcases List.mem_cons.1 ho with rfl | ho
  ·exact ⟨rfl,by simpa using hd⟩
  ·exact Zgf j w os o ho
 rw [<-Zki j w _ hall s tm σ (by simp),<-Zh1,List.cons_append,h]
variable (O bf) in
def gWC (w:Bool) (g:List AOp) (s:Nat) (tm:Tms) (σ:Za):AVal->Option (Tms×Za×List Cls×Option AVal)
 | .bool b=>if b=w then Zo O bf (g.map unG) s tm σ else some (ZD g tm,σ,g.map fun _=>{},none)
 | .tup []=>some (ZD g tm,σ,g.map fun _=>{},none)
 | _=>none
theorem Zlf (j:Nat) (w:Bool) (g:List AOp) (s:Nat) (tm:Tms) (σ:Za):Zco O bf j w g s tm σ=gWC O bf w g s tm σ (tget tm j):=by
 unfold Zco Zaz
 simp only
 generalize tget tm j=v
 cases v
 case bool b=>cases b <;> cases w <;> rfl
 case tup vs=>cases vs <;> rfl
 all_goals rfl
theorem Zov (w:Bool) (g:List AOp) (s:Nat) (tm:Tms) (σ:Za) (b:Bool):gWC O bf w g s tm σ (.bool b)=if b=w then Zo O bf (g.map unG) s tm σ else some (ZD g tm,σ,g.map fun _=>{},none):=rfl
theorem Zve (w:Bool) (g:List AOp) (s:Nat) (tm:Tms) (σ:Za):gWC O bf w g s tm σ (.tup [])=some (ZD g tm,σ,g.map fun _=>{},none):=rfl
theorem Zvr (q:Prop) [Decidable q] (t1 t2:Tms) (σ1 σ2:Za) (cs:List Cls):(if q then some (t1,σ1,cs,(none:Option AVal)) else some (t2,σ2,cs,none))=some ((if q then t1 else t2),(if q then σ1 else σ2),cs,none):=by split <;> rfl
end
section
theorem ZuJ {r:AVal} {cs:List AVal} {σ:Za} (hr:Z6 r=true) (hc:ZA cs=true):gcA 1 [r] (.var cs::σ)=([r],[.var cs]):=by
 have e1:=(Zbp (Zf (.var cs::σ) 1 [0]) r hr)
 have e2:=(Zeb (Zf (.var cs::σ) 1 [0]) cs hc)
 have h1:Zs 1 [r] (.var cs::σ)=[0]:=by
  have : ZG [r]=[]:=by simp only [ZG,e1.2,List.append_nil]
  simp only [Zs,this,List.nil_append,List.range_one,List.flatMap_cons,List.flatMap_nil,List.append_nil,List.getD_cons_zero,Zz,e2.2]
  rfl
 simp only [gcA,h1,Zy,e1.1,Zj,List.getD_cons_zero,Zt,Zc,Zm,e2.1]
theorem ZsE {r:AVal} {cs:List AVal} {σ:Za} (hr:Z6 r=true) (hc:ZA cs=true):ZaM 1 (.var cs::σ) r=some (r,[.var cs]):=by
 simp only [ZaM,ZuJ hr hc]
end
end
section
section
variable (c:Prop) [Decidable c]
theorem Zm5 (t1 t2:Tms) (σ1 σ2:Za):(if c then some (Zad.normal,t1,σ1) else some (Zad.normal,t2,σ2))=some (Zad.normal,(if c then t1 else t2),(if c then σ1 else σ2)):=by split <;> rfl
theorem ZqL (t1 t2:Tms) (σ1 σ2:Za):(if c then some (Zad.ret,t1,σ1) else some (Zad.ret,t2,σ2))=some (Zad.ret,(if c then t1 else t2),(if c then σ1 else σ2)):=by split <;> rfl
theorem Zqy (t1 t2:Tms) (σ1 σ2:Za):(if c then some (t1,σ1,(none:Option AVal)) else some (t2,σ2,none))=some ((if c then t1 else t2),(if c then σ1 else σ2),none):=by split <;> rfl
theorem Zug (n:Nat) (a b:AVal):(if c then (n,a) else (n,b))=(n,if c then a else b):=by split <;> rfl
theorem ZqF (a b:AVal) (σ1 σ2:Za):(if c then some (a,σ1) else some (b,σ2))=some ((if c then a else b),(if c then σ1 else σ2)):=by split <;> rfl
theorem Zou (a b:AVal) (σ1 σ2:Za) (x y:Cls):(if c then some (a,σ1,x) else some (b,σ2,y))=some ((if c then a else b),(if c then σ1 else σ2),if c then x else y):=by split <;> rfl
end
theorem Z5 {α:Type} (p:Bool) (x y z:α):(if p=true then x else (if p=false then y else z))=if p=true then x else y:=by cases p <;> rfl
theorem Z0 {α:Type} (p:Bool) (x y z:α):(if p=false then x else (if p=true then y else z))=if p=false then x else y:=by cases p <;> rfl
theorem Z1 {α:Type} (p:Bool) (x y z:α):(if p=true then (if p=false then x else y) else z)=if p=true then y else z:=by cases p <;> rfl
theorem ZR {α:Type} (p:Bool) (x y z:α):(if p=false then (if p=true then x else y) else z)=if p=false then y else z:=by cases p <;> rfl
theorem Zqn (ops:List AOp) (b:Nat) (cs:List Cls):ZbS ops b [] cs=true:=rfl
theorem ZkT (ops:List AOp) (b:Nat) (p:Nat×Nat) (l:List (Nat×Nat)) (cs:List Cls):ZbS ops b (p::l) cs=((p.1 == p.2 || Zbj (ops.getD p.1 default) (ops.getD p.2 default) (cs.getD p.1 {}) (cs.getD p.2 {}) (b+sitesOf (ops.take p.1))) && ZbS ops b l cs):=by
 simp only [ZbS,List.all_cons]
theorem ZuM (oj oi:AOp) (cj ci:Cls) (sj:Nat):Zbj oj oi cj ci sj=(ZaT oj cj || ZaT oi ci || (Zb5 cj && Zb5 ci && (nsite oj.ins == 0 || !ci.rd.contains sj)) || ((ZbT oj.ins || (Zcb oj.ins && !cj.any)) && (Zb5 ci && ci.rd.isEmpty)) || (Zb9 oj.ins && ZbT oi.ins && ci.any && ZcK cj ci) || (Zb9 oj.ins && (Zcb oi.ins || (Zfw oi.ins && Zhy cj ci)) && ZcK cj ci)):=rfl
theorem Zog (o:AOp) (rd wr:List Nat) (any:Bool) (got:List (Nat×Option Nat×Nat×AVal)) (upd:List (Nat×List AVal)):ZaT o ⟨rd,wr,any,got,upd⟩=(nsite o.ins == 0 && rd.isEmpty && wr.isEmpty && !any):=rfl
theorem Zqg (rd wr:List Nat) (any:Bool) (got:List (Nat×Option Nat×Nat×AVal)) (upd:List (Nat×List AVal)):Zb5 ⟨rd,wr,any,got,upd⟩=(wr.isEmpty && !any):=rfl
theorem ZfZ {α:Type} {l:List α} {i:Nat} {x:α} {r:List α} (h:l.drop i=x::r):l[i]?=some x/\l.drop (i+1)=r/\i < l.length:=by
 have h1:i < l.length:=by
  rcases Nat.lt_or_ge i l.length with h1 | h1
  ·exact h1
  ·rw [List.drop_eq_nil_of_le h1] at h;cases h
 rw [List.drop_eq_getElem_cons h1] at h
 injection h with h2 h3
 exact ⟨by rw [List.getElem?_eq_getElem h1,h2],h3,h1⟩
theorem Zge {α:Type} {l:List α} {i:Nat} (h:l.drop i=[]):¬(i:Int) < l.length:=by
 have:=List.drop_eq_nil_iff.1 h;omega
theorem iad {α:Type} {l:List α} {i:Nat} {x:α} (h:l[i]?=some x) (f:α->AVal) {k:Nat} (hk:(f x).cells.length=k) (σ:Za) (n:Bool) (kk:IntKind):ZbG σ k (.lst n (l.map f)) (.int kk (i:Int))=some (.iptr (f x).cells 0,σ,{}):=by
 have h0:(0:Int)<=(i:Int):=Int.natCast_nonneg i
 unfold ZbG
 simp only [h0,if_true,Int.toNat_natCast,List.getElem?_map,h,Option.map_some,hk]
theorem Zgb {n:Int} (h0:-9223372036854775808<=n) (h:n<=9223372036854775807):IntKind.i64.wrap n=n:=by
 rw [IntKind.wrap_i64];omega
theorem ZkA {α β:Type} {a:List α} {b:List β} (h:a.length=b.length):((a.length:Int) != (b.length:Int))=false:=by simp [h]
theorem ZuU {α β:Type} {a:List α} {b:List β} (h:a.length≠b.length):((a.length:Int) != (b.length:Int))=true:=by
 simp only [bne_iff_ne,ne_eq];omega
theorem Zmm {α:Type} [BEq α] [LawfulBEq α] {a b:List α} (h:a.length≠b.length):(a == b)=false:=by
 simp only [beq_eq_false_iff_ne,ne_eq];rintro rfl;exact h rfl
theorem Ze5 {i n:Nat} (h:(i:Int) < n) (hn:n<=9223372036854775807):IntKind.i64.wrap ((i:Int)+1)=((i+1:Nat):Int):=by
 rw [Zgb (by omega) (by omega)];rfl
theorem Zn0 {α:Type} (σ:Za) (k:Nat) (l:List α) (f:α->AVal) (kk:IntKind) (n:Int) (h0:0<=n) (h:n<=(l.length:Int)):ZbL σ k (.lst false (l.map f)) none (some (.int kk n)) none=some (.lst false ((l.take n.toNat).map f),σ,{}):=by
 simp only [ZbL,Zau,Zdm,List.length_map,h0,h,and_self,if_true,beq_self_eq_true,Bool.true_or,Option.isSome_none,Bool.false_eq_true,if_false,Bool.false_and,List.drop_zero,List.map_take]
abbrev Zer:=List UInt8
def ZO (b:Zer):AVal:=.lst false (b.map Za8)
structure ZgC where
 id:Int
 num:Int
 text:Zer
 pair:Zer
 data:Zer
 deriving DecidableEq
def ZM (p:ZgC):List AVal:=[.int .i64 p.id,.int .i64 p.num,.str p.text,.str p.pair,ZO p.data]
def ZN (p:ZgC):AVal:=.agg (ZM p)
def ZW (l:List ZgC):AVal:=.lst false (l.map ZN)
def Z7 (l:List Int):AVal:=.lst false (l.map (.int .i64 ·))
theorem ZP (l:Zer):Zc5 (l.map Za8)=some l:=by
 induction l with
 | nil=>rfl
 | cons b l ih =>
  simp only [List.map_cons,Zc5,ih,Za8,ZhK,Int.toNat_natCast,UInt8.ofNat_toNat]
end
section
def Zo6:=(aI (aI (aI (aI (aI (aI @Zuh @Znz) (aI @ZqG @ZkL)) (aI (aI @ZvJ @Zn6) (aI @ZqV @ZsY))) (aI (aI (aI @Ziz @Zgn) (aI @Zrl @Zgg)) (aI (aI @Zwo @Zoo) (aI @Zud @Znf)))) (aI (aI (aI (aI @ZoV @Zqc) (aI @ZvL @ZoA)) (aI (aI @Zrb @Zli) (aI @Zln @Zva))) (aI (aI (aI @ZnI @ZoB) (aI @Znh @Zsl)) (aI (aI @ZnD @ZP) (aI @Zm5 @ZqL))))) (aI (aI (aI (aI (aI @Zqy @Zug) (aI @ZqF @Zou)) (aI (aI @ZpU @ZkN) (aI @Zuy @Zn7))) (aI (aI (aI @ZuE @Zti) (aI @Zob @ZpN)) (aI (aI @Zjz @Zhs) (aI @ZpG @ZmF)))) (aI (aI (aI (aI @Zo5 @Zk6) (aI @ZuG @Zsg)) (aI (aI @Zup @Zg2) (aI @Zlo @ZlH))) (aI (aI (aI @ZvX @ZoU) (aI @ZqP @ZtG)) (aI (aI @ZmE @ZlF) (aI @Zlf @Zov))))))
def Zl9:=(aI (aI (aI (aI (aI (aI @Zve @Zvr) (aI @ZuL @Zt9)) (aI (aI @ZsP @Zqf) (aI @Zqn @ZkT))) (aI (aI (aI @ZuM @Zog) (aI @Zqg @Zh3)) (aI (aI @ZtU @Zrk) (aI @Zp2 @Znp)))) (aI (aI (aI (aI @ZrU @Zkw) (aI @Zk5 @ZuF)) (aI (aI @Ztj @Zoc) (aI @Zq8 @ZmC))) (aI (aI (aI @Zwv @ZoI) (aI @Zpi @Zwe)) (aI (aI @Zlj @Zky) (aI @ZoK @Zoz))))) (aI (aI (aI (aI (aI @ZlL @Zv1) (aI @ZwI @ZtF)) (aI (aI @ZuI @Zm1) (aI @ZwG @Zro))) (aI (aI (aI @ZoP @Zvz) (aI @Zsb @Zoi)) (aI (aI @Zq3 @Zm2) (aI @Zuv @ZmW)))) (aI (aI (aI (aI @ZlS @Zpy) (aI @Zsh @ZkR)) (aI (aI @ZpR @Zor) (aI @Zo0 @Zne))) (aI (aI (aI @Ztr @ZnW) (aI @Zrz @Zlt)) (aI (aI @Ztc @Zpx) (aI @Zvo @ZoT))))))
def ZZ:=(aI (aI (aI (aI (aI (aI @Znd @ZsR) (aI @Zt6 @Zpm)) (aI (aI @ZuR @ZrZ) (aI @Zmd @ZqE))) (aI (aI (aI @Zp3 @Znb) (aI @ZpC @ZoM)) (aI (aI @Zpk @ZnO) (aI @ZnA @Zqo)))) (aI (aI (aI (aI @Zt1 @Zk2) (aI @Zv5 @Zlg)) (aI (aI @Zuz @Zs0) (aI @ZlA @Zmo))) (aI (aI (aI @Zu8 @Zr9) (aI @ZkF @ZsK)) (aI (aI @Zra @Zso) (aI @Zrx @ZwK))))) (aI (aI (aI (aI (aI @ZrT @Zq4) (aI @ZoX @ZoW)) (aI (aI @ZnB @ZtN) (aI @Zst @ZkY))) (aI (aI (aI @ZkE @Zm0) (aI @ZmB @ZuX)) (aI (aI @ZoL @Zs8) (aI @ZpX @ZoD)))) (aI (aI (aI (aI @ZoH @Zuk) (aI @Zox @ZpT)) (aI (aI @ZnH @Zwa) (aI @Znj @Zry))) (aI (aI (aI @Zpw @Zt8) (aI @Zoj @ZtP)) (aI (aI @ZsT @ZuQ) (aI @ZrR @Ztt))))))
def Z4:=(aI (aI (aI (aI (aI (aI @Zss @Ztf) (aI @ZvC @Zlu)) (aI (aI @ZkW @ZrK) (aI @ZvT @Znw))) (aI (aI (aI @Zrp @Zqw) (aI @Zta @ZuZ)) (aI (aI @Zqr @ZlT) (aI @ZqS @ZmP)))) (aI (aI (aI (aI @ZmY @Zwf) (aI @Zpt @Zvq)) (aI (aI @Zql @Zo1) (aI @ZsH @ZqD))) (aI (aI (aI @Zwx @Znx) (aI @Zrt @Zn4)) (aI (aI @Zu6 @Zvc) (aI @ZuB @Zrf))))) (aI (aI (aI (aI (aI @Zn8 @ZsG) (aI @Zpu @Zl6)) (aI (aI @ZpM @ZsS) (aI @Zsf @ZoR))) (aI (aI (aI @Zlk @ZoN) (aI @Zui @Zqi)) (aI (aI @ZkG @ZuC) (aI @Zvp @Zpl)))) (aI (aI (aI (aI @Znm @Zny) (aI @ZrE @ZrY)) (aI (aI @Zlh @ZmK) (aI @ZlO @Zm7))) (aI (aI (aI @Zv7 @ZpO) (aI @Zvm @Zop)) (aI (aI @Zth @ZoZ) (aI @Zqj @Zm3))))))
def ZS:=(aI (aI (aI (aI (aI (aI @Zps @Zlb) (aI @Zua @ZsN)) (aI (aI @Zvu @ZvN) (aI @Ztm @ZtQ))) (aI (aI (aI @Zv3 @Zk4) (aI @Ztn @Zwb)) (aI (aI @Zsc @ZpA) (aI @ZqT @ZsA)))) (aI (aI (aI (aI @ZsL @ZtC) (aI @Ztz @Zma)) (aI (aI @ZnC @Zq2) (aI @Zoy @ZnJ))) (aI (aI (aI @ZvF @Zqh) (aI @Zt5 @ZlK)) (aI (aI @ZrA @Zo3) (aI @ZnY @Zoe))))) (aI (aI (aI (aI (aI @Zrj @ZuY) (aI @Zlx @ZpW)) (aI (aI @Zpj @ZsM) (aI @ZqM @Zpb))) (aI (aI (aI @Zub @ZvV) (aI @ZwD @ZkC)) (aI (aI @Zqu @Zux) (aI @Zv9 @ZuS)))) (aI (aI (aI (aI @ZsU @Zv0) (aI @ZoS @Zu1)) (aI (aI @Zqa @Zsz) (aI @Zm9 @Zph))) (aI (aI (aI @ZuT @Zto) (aI @Ztx @ZlY)) (aI (aI @Zlq @Zmw) (aI @Zpa @ZvG))))))
def Zlr:=(aI (aI (aI (aI (aI (aI @Zmv @ZtJ) (aI @Zrr @Zon)) (aI (aI @Zn9 @ZlG) (aI @ZlE @Zvb))) (aI (aI (aI @ZuN @Zmh) (aI @Zr5 @ZkV)) (aI (aI @ZnN @ZvP) (aI @ZnM @Zqd)))) (aI (aI (aI (aI @ZuV @Zu9) (aI @ZkU @Zl4)) (aI (aI @Ztq @Zme) (aI @Zsp @Zru))) (aI (aI (aI @Zsr @ZqN) (aI @Zvj @Zle)) (aI (aI @Zwy @ZtD) (aI @Zqz @Zt0))))) (aI (aI (aI (aI (aI @ZvR @Zl2) (aI @Zws @ZtH)) (aI (aI @Zp8 @ZmL) (aI @Zmu @ZtW))) (aI (aI (aI @Zo9 @Zml) (aI @ZqA @ZlW)) (aI (aI @Zus @Zof) (aI @Zp4 @ZpJ)))) (aI (aI (aI (aI @Zuf @Zp1) (aI @ZpL @Znr)) (aI (aI @Zs6 @ZsI) (aI @ZmT @Zuj))) (aI (aI (aI @Zt7 @ZtI) (aI @ZrW @Zol)) (aI (aI @Zs1 @ZkD) (aI @Zns @Zlc))))))
def ZQ:=(aI (aI (aI (aI (aI (aI @ZnQ @ZnS) (aI @ZlV @Zl8)) (aI (aI @ZqK @ZmA) (aI @ZoQ @Zuo))) (aI (aI (aI @Zut @Zs3) (aI @ZuA @Ztk)) (aI (aI @ZrS @Zr2) (aI @Zpc @Zr8)))) (aI (aI (aI (aI @Zt2 @ZkP) (aI @ZkM @ZtS)) (aI (aI @Zow @ZsF) (aI @Zs9 @Zwj))) (aI (aI (aI @ZqW @ZoJ) (aI @Zmj @ZsD)) (aI (aI @ZkZ @Zue) (aI @Zpo @Zs7))))) (aI (aI (aI (aI (aI @Zul @ZqQ) (aI @Zmn @ZmM)) (aI (aI @ZpH @Zq7) (aI @Zvi @ZlC))) (aI (aI (aI @Zty @Zl0) (aI @ZrF @ZrC)) (aI (aI @Zk9 @ZtA) (aI @Zkx @ZnF)))) (aI (aI (aI (aI @Zvh @Zqs) (aI @Zv6 @Zo7)) (aI (aI @Zwc @ZlX) (aI @Zk3 @Zmb))) (aI (aI (aI @Zrv @Zmc) (aI @ZuO @ZqY)) (aI (aI @Zpr @Zwq) (aI @Zpn @Zwr))))))
def ZT:=(aI (aI (aI (aI (aI @Zvf (aI @Zsw @Zs2)) (aI (aI @Zrh @Zse) (aI @Zpz @Zn1))) (aI (aI @ZoG (aI @ZtK @Zr7)) (aI (aI @ZoC @ZrO) (aI @Zwi @Zsv)))) (aI (aI (aI @ZnG (aI @ZlI @Zoh)) (aI (aI @Zmi @ZkX) (aI @Znn @ZlJ))) (aI (aI (aI @Zmy @Zl1) (aI @Zk0 @ZmI)) (aI (aI @ZvA @Zww) (aI @ZqI @Zm6))))) (aI (aI (aI (aI @Zqx (aI @Zla @ZsC)) (aI (aI @ZvS @Zvg) (aI @Zok @ZtO))) (aI (aI (aI @Zv2 @ZpS) (aI @Zpd @Ztw)) (aI (aI @Zq9 @ZqB) (aI @ZsZ @ZoO)))) (aI (aI (aI @ZsJ (aI @Zpp @ZuW)) (aI (aI @ZpP @ZrV) (aI @Zsn @ZtB))) (aI (aI (aI @Zr4 @ZtM) (aI @Zp9 @Zlm)) (aI (aI @Zp0 @ZsE) (aI @Zq0 @Zjt))))))
def Zm4:=(aI (aI (aI (aI (aI (aI @List.map_cons.{0,0} @List.map_nil.{0,0}) (aI @List.length_cons.{0} @List.length_nil.{0})) (aI (aI @List.replicate_zero.{0} @List.replicate_succ.{0}) (aI @List.append_nil.{0} @List.nil_append.{0}))) (aI (aI (aI @List.cons_append.{0} @List.getElem?_cons_zero.{0}) (aI @List.getElem?_cons_succ.{0} @List.set_cons_zero.{0})) (aI (aI @List.set_cons_succ.{0} @Nat.add_zero) (aI @Nat.zero_add @Bool.true_or)))) (aI (aI (aI (aI @Bool.false_or @Bool.or_true) (aI @Bool.or_false @Bool.and_true)) (aI (aI @Bool.true_and @Bool.and_self) (aI @Bool.and_false @Bool.false_and))) (aI (aI (aI @if_true.{1} @if_false.{1}) (aI @ite_true.{1} @ite_false.{1})) (aI (aI @Option.map_some.{0,0} @Option.map_none.{0,0}) (aI @and_self @and_true))))) (aI (aI (aI (aI (aI @true_and @and_false) (aI @false_and @true_or)) (aI (aI @or_true @false_or) (aI @or_false @not_true_eq_false))) (aI (aI (aI @not_false_eq_true @List.drop_zero.{0}) (aI @List.drop_succ_cons.{0} @List.take_succ_cons.{0})) (aI (aI @List.take_zero.{0} @List.all_cons.{0}) (aI @List.all_nil.{0} @List.isEmpty_nil.{0})))) (aI (aI (aI (aI @Bool.not_false @Bool.not_true) (aI @List.length_map.{0,0} @Bool.bne_false)) (aI (aI @Bool.bne_true @List.isEmpty_cons.{0}) (aI @List.getD_cons_zero.{0} @List.getD_cons_succ.{0}))) (aI (aI (aI @List.getD_nil.{0} @List.contains_nil.{0}) (aI @List.range_zero @List.flatMap_cons.{0,0})) (aI (aI @List.flatMap_nil.{0,0} @List.zip_cons_cons.{0,0}) (aI @List.zip_nil_left.{0,0} @List.zip_nil_right.{0,0}))))))
def ZU:=@Nat.not_lt_zero
def EQA := (aI (aI (aI (aI (aI (aI (aI Zo6 Zl9) (aI Zlr Zm4)) (aI (aI @exI.eq_1 @nsite.eq_1) (aI @nsite.eq_2 @nsite.eq_3))) (aI (aI (aI @nsite.eq_4 @nsite.eq_5) (aI @nsite.eq_6 @nsite.eq_7)) (aI (aI @nsite.eq_8 @nsite.eq_9) (aI @nsite.eq_10 @nsite.eq_11)))) (aI (aI (aI (aI @freeAt.eq_1 @execI.eq_1) (aI @execI.eq_2 @execI.eq_3)) (aI (aI @execI.eq_4 @execI.eq_5) (aI @execI.eq_6 @execI.eq_7))) (aI (aI (aI @execI.eq_8 @execI.eq_9) (aI @execI.eq_10 @execI.eq_11)) (aI (aI @execI.eq_12 @execI.eq_13) (aI @execI.eq_14 @execI.eq_15))))) (aI (aI (aI (aI (aI @execI.eq_16 @execI.eq_17) (aI @execI.eq_18 @execI.eq_19)) (aI (aI @execI.eq_20 @execI.eq_21) (aI @execI.eq_22 @execI.eq_23))) (aI (aI (aI @execI.eq_24 @execI.eq_25) (aI @execI.eq_26 @execI.eq_27)) (aI (aI @execI.eq_28 @execI.eq_29) (aI @execI.eq_30 @execI.eq_31)))) (aI (aI (aI (aI @execI.eq_32 @execI.eq_33) (aI @execI.eq_34 @execI.eq_35)) (aI (aI @execI.eq_36 @execI.eq_37) (aI @execI.eq_38 @execI.eq_39))) (aI (aI (aI @execI.eq_40 @execI.eq_41) (aI @execI.eq_42 @execI.eq_43)) (aI (aI @execI.eq_44 @execI.eq_45) (aI @execI.eq_46 (aI @execI.eq_47 @execI.eq_48))))))) (aI (aI (aI (aI (aI (aI @execI.eq_49 @Opd.ev.eq_1) (aI @Opd.ev.eq_2 @tget.eq_1)) (aI (aI @tget.eq_2 @tins.eq_1) (aI @tins.eq_2 @tput.eq_1))) (aI (aI (aI @tput.eq_2 @keepL.eq_1) (aI @sitesOf.eq_1 @resA.eq_1)) (aI (aI @resAll.eq_1 @resAll.eq_2) (aI @resOne.eq_1 @resOne.eq_2)))) (aI (aI (aI (aI @enterA.eq_1 @enterA.eq_2) (aI @partA.eq_1 @partA.eq_2)) (aI (aI @faddrA.eq_1 @faddrA.eq_2) (aI @faddrA.eq_3 @faddrA.eq_4))) (aI (aI (aI @setAt.eq_1 @binA.eq_1) (aI @binA.eq_2 @binA.eq_3)) (aI (aI @binA.eq_4 @binA.eq_5) (aI @arithA.eq_1 @arithA.eq_2))))) (aI (aI (aI (aI (aI @arithA.eq_3 @arithA.eq_4) (aI @arithA.eq_5 @arithA.eq_6)) (aI (aI @arithA.eq_7 @arithA.eq_8) (aI @arithA.eq_9 @arithA.eq_10))) (aI (aI (aI @arithA.eq_11 @arithA.eq_12) (aI @arithA.eq_13 @arithA.eq_14)) (aI (aI @arithA.eq_15 @arithA.eq_16) (aI @ldA.eq_1 @ldA.eq_2)))) (aI (aI (aI (aI @ldA.eq_3 @ldA.eq_4) (aI @stA.eq_1 @stA.eq_2)) (aI (aI @stA.eq_3 @List.sum_cons.{0}) (aI @List.sum_nil.{0} @eq_self.{1}))) (aI (aI (aI @beq_self_eq_true.{0} @Bool.false_eq_true) (aI @Option.some.injEq.{0} @decide_true)) (aI (aI @decide_false @List.foldl_cons.{0, 0}) (aI @List.foldl_nil.{0, 0} (aI @List.contains_cons.{0} @ne_eq.{1}))))))))
end
section
theorem ZuH {O:Zp} {bf:Nat->Bool} {σ:Za} {sq f own:Nat} {view:Bool} {args vs vs':List AVal} {ids:List Nat} {h0 h:Za} {r0 r:AVal} (hb:bf f=false) (hsh:showAs σ args=some (vs,[])) (hre:Zk σ 1000 (ZG vs) []=ids) (hne:ids.isEmpty=false)
  (hall:(ids.all fun t=>okB (σ.getD t .free))=true) (hvs:Zy (Zf σ 0 ids) vs=vs') (hh:Zj σ 0 ids (Zf σ 0 ids) ids 0=h0) {hh0:Za} (hO:O f vs' h0=some (r0,hh0)) (hv:ZaF view ids.length (some (r0,hh0))=some (r,h))
  (hl1:h.length<=ids.length+own) (hl2:ids.length<=h.length) (hk:Zbf σ ids h 0=true) (hff:ZaD σ sq own=true) {r':AVal} (hr:Ze (Zaw σ ids sq) r=r') {σ':Za} (hlay:Zay σ ids sq h 0 σ=σ') {u:List (Nat×List AVal)} (hu:ZbB σ' ids=u) :
  ZF O bf σ sq f own view args=some (r',σ',{ any:=true,upd:=u }):=by
 subst hr hlay hu
 unfold ZF ZbV
 rw [hb]
 simp only [Bool.false_eq_true,if_false,hsh,show Zl σ []=σ from rfl,hre]
 unfold Zbz
 rw [if_pos hall,hvs,hh,hO,hv]
 simp only [Zan,hne,Bool.false_and,Bool.false_eq_true,if_false,hl1,hl2,decide_true,hk,hff,Bool.and_self,if_true]
theorem Zvy {O:Zp} {bf:Nat->Bool} {σ:Za} {t sq f own k:Nat} {view:Bool} {args args' xs xs':List AVal} {r:AVal} {b':Zu} (hs:σ[t]?=some (.row 0 k xs)) (hb:bf f=true) (hff:ZaD σ sq own=true)
  (href:ZG args=[t]) (hren:∀ ρ:Rho,ρ t 0=some (0,0)->Zy ρ args=args') (hr:∀ ρ:Rho,Ze ρ r=r) (hb':b'=.row 0 k xs'\/b'=.frow 0 k xs')
  (h:ZaF view 1 (O f args' [.row 0 k xs])=some (r,[b'])):ZF O bf σ sq f own view args=some (r,σ.set t b',{ any:=true }):=by
 have hd:σ.getD t .free=.row 0 k xs:=by simp [List.getD_eq_getElem?_getD,hs]
 have hf0:Zl σ []=σ:=rfl
 unfold ZF ZbV
 rw [hb]
 simp only [if_true,hf0,href]
 have hreach:Zk σ 1000 [t] []=[t]:=by
  simp only [Zk,List.contains_nil,Bool.false_eq_true,if_false,hd,Zz,List.nil_append]
 rw [hreach]
 unfold Zbz
 have hall:([t].all fun t=>okB (σ.getD t .free))=true:=by simp [List.all_cons,List.all_nil,hs,okB]
 rw [if_pos hall]
 have hρ:Zf σ 0 [t] t 0=some (0,0):=by simp [Zf,Zv,hs,Zc,Zt]
 have hheap:Zj σ 0 [t] (Zf σ 0 [t]) [t] 0=[.row 0 k xs]:=by
  simp only [Zj,hd,Zt,Zc,Zm,Nat.not_lt_zero,false_and,if_false]
 rw [hren _ hρ,hheap]
 simp only [List.length_cons,List.length_nil,Nat.zero_add]
 rw [h]
 have hk:Zbf σ [t] [b'] 0=true:=by
  rcases hb' with rfl | rfl <;> simp [Zbf,okB,hs,Zdp,Zc]
 have hren':∀ ρ,Zm ρ (Zbb σ [t] 0 b') b'=b':=by
  intro ρ
  rcases hb' with rfl | rfl <;> simp [Zbb,hs,Zc,Zm]
 simp only [Zan,List.isEmpty_cons,Bool.false_and,Bool.false_eq_true,if_false,List.length_cons,List.length_nil,Nat.zero_add,Nat.le_add_right,Nat.le_refl,decide_true,hk,hff,Bool.and_self,if_true,Zay,ZbB,Zam,List.getD_cons_zero,hr,hren']
 have htl:t < σ.length:=(List.getElem?_eq_some_iff.1 hs).1
 have hg:(σ.set t b')[t]?=some b':=by simp [htl]
 simp only [List.flatMap_cons,List.flatMap_nil,List.append_nil,hg]
 rcases hb' with rfl | rfl <;> rfl
end
section
def Zb (l:List Int):List (AVal×AVal):=l.map fun k=>(AVal.int .i64 k,AVal.agg [])
def Zh (l:List Int):Za:=[.var [.map 1],.map (Zb l)]
theorem Zfq (k:Int):∀ (l:List Int) (i:Nat),ZcM (.int .i64 k) (Zb l) i=some (if l.contains k=true then some (i+l.idxOf k,AVal.agg []) else none)
 | [],i=>rfl
 | x::l,i=>by
  have ih:=Zfq k l (i+1)
  show (match Zb6 (.int .i64 k) (.int .i64 x) with | some true=>some (some (i,AVal.agg [])) | some false=>ZcM (.int .i64 k) (Zb l) (i+1) | none=>none)=_
  have h1:Zb6 (.int .i64 k) (.int .i64 x)=some (k == x):=by simp [Zb6]
  rw [h1]
  by_cases h:k=x
  ·subst h;simp [List.idxOf_cons]
  ·have h2:(k == x)=false:=by simpa using h
   have h3:(x == k)=false:=by simpa using fun e=>h e.symm
   rw [h2]
   simp only
   rw [ih,List.contains_cons,h2,Bool.false_or,List.idxOf_cons,h3]
   simp only [cond_false]
   by_cases hc:l.contains k=true
   ·rw [if_pos hc,if_pos hc]
    congr 3;omega
   ·rw [if_neg hc,if_neg hc]
theorem Zkd (k:Int):∀ l:List Int,(Zb l).eraseIdx (l.idxOf k)=Zb (l.erase k)
 | []=>rfl
 | x::l=>by
  rw [List.idxOf_cons,List.erase_cons]
  by_cases h:x=k
  ·subst h;simp [Zb]
  ·have h3:(x == k)=false:=by simpa using h
   rw [h3]
   simp only [cond_false,Bool.false_eq_true,if_false]
   show (_::Zb l).eraseIdx (l.idxOf k+1)=_
   rw [List.eraseIdx_cons_succ,Zkd k l];rfl
section
variable {σ:Za} {t:Nat} {l:List Int}
theorem ZpQ (hs:σ[t]?=some (.map (Zb l))) (k:Int):Zce σ 0 (.agg []) true (.map t) (.int .i64 k)=some (.tup [.agg [],.bool (l.contains k)],σ,{ rd:=[t] }):=by
 unfold Zce
 rw [if_pos (show Zaj (AVal.int .i64 k)=0 from rfl)]
 simp only [hs,Zfq]
 cases hc:l.contains k <;> simp [Zf4]
theorem ZqZ (hs:σ[t]?=some (.map (Zb l))) {k:Int} (hc:l.contains k=false):Zd4 σ 0 (.map t) (.int .i64 k) (.agg [])=some (.tup [],σ.set t (.map (Zb (l++[k]))),{ wr:=[t] }):=by
 unfold Zd4
 rw [if_pos ⟨rfl,rfl,rfl⟩]
 simp only [hs,Zfq,hc,Bool.false_eq_true,if_false]
 simp [Zb]
theorem Zng (hs:σ[t]?=some (.map (Zb l))) (k:Int):Zdz σ 0 (.map t) (.int .i64 k)=some (.tup [],σ.set t (.map (Zb (l.erase k))),{ wr:=[t] }):=by
 unfold Zdz
 rw [if_pos (show Zaj (AVal.int .i64 k)=0 from rfl)]
 simp only [hs,Zfq]
 by_cases hc:l.contains k=true
 ·rw [if_pos hc]
  simp only [Nat.zero_add]
  rw [Zkd]
 ·rw [if_neg hc]
  simp only
  have : l.erase k=l:=List.erase_of_not_mem (by simpa using hc)
  rw [this]
theorem Zvd (hs:σ[t]?=some (.map (Zb l))):ZcF σ (.map t)=some (.int .i64 l.length,σ,{ rd:=[t] }):=by
 simp [ZcF,hs,Zb]
end
theorem Zf7 (l:List Int):Zz (.map (Zb l))=[]:=by
 induction l with
 | nil=>rfl
 | cons x l ih =>
  show Zai (.agg [])++Zz (.map (Zb l))=[]
  rw [ih];rfl
theorem Zje (ρ:Rho) (g:Nat) (l:List Int):Zm ρ g (.map (Zb l))=.map (Zb l):=by
 show Zu.map ((Zb l).map fun p=>(p.1,Ze ρ p.2))=_
 congr 1
 unfold Zb
 rw [List.map_map]
 rfl
theorem ZaB (ρ:Rho) (l:List Int):(Zb l).map (fun p=>(p.1,Ze ρ p.2))=Zb l:=by
 unfold Zb
 rw [List.map_map]
 rfl
theorem Zcf {r:AVal} (hr:Z6 r=true) (l:List Int) (σ:Za):ZaM 2 (.var [.map 1]::.map (Zb l)::σ) r=some (r,Zh l):=by
 have hi:Zs 2 [r] (.var [.map 1]::.map (Zb l)::σ)=[0,1]:=by
  have hR:List.range 2=[0,1]:=rfl
  have h1:(Zu.var [.map 1]::.map (Zb l)::σ).getD 1 .free=.map (Zb l):=rfl
  have h0:(Zu.var [.map 1]::.map (Zb l)::σ).getD 0 .free=.var [.map 1]:=rfl
  have hb0:Zz (.var [.map 1])=[1]:=rfl
  simp only [Zs,ZG,(Zbp (fun _ _=>none) r hr).2,List.nil_append,hR,List.flatMap_cons,List.flatMap_nil,List.append_nil,h0,h1,Zf7,hb0]
  rfl
 have hρ:Zf (.var [.map 1]::.map (Zb l)::σ) 2 [0,1] 1 0=some (1,0):=rfl
 simp only [ZaM,gcA,hi,Zj,Zy,(Zbp _ r hr).1]
 have h1:(Zu.var [.map 1]::.map (Zb l)::σ).getD 1 .free=.map (Zb l):=rfl
 have h0:(Zu.var [.map 1]::.map (Zb l)::σ).getD 0 .free=.var [.map 1]:=rfl
 rw [h0,h1,Zje]
 simp only [Zm,Zy,Ze,hρ,Zh]
theorem ZiP {O:Zp} {f own:Nat} {view:Bool} {args:List AVal} {l l':List Int} {q r0:AVal} {h0:Za} (hq:Z6 q=true) (h:O f (.ref 0 0::args) (Zh l)=some (r0,h0)) (hask:ZaF view 2 (some (r0,h0))=some (q,Zh l')) (hb:BY f=false) (hp:args.all Zah=true) (hn:args.map Z8=args) {σ:Za} {t m sq:Nat} (htm:t≠m) (hs:σ[t]?=some (.var [.map m])) (hm:σ[m]?=some (.map (Zb l))) (hff:ZaD σ sq own=true) :
  ZF O BY σ sq f own view (.ref t 0::args)=some (q,(σ.set t (.var [.map m])).set m (.map (Zb l')),{ any:=true,upd:=[(t,[.map m])] }):=by
 have htl:t < σ.length:=(List.getElem?_eq_some_iff.1 hs).1
 have hml:m < σ.length:=(List.getElem?_eq_some_iff.1 hm).1
 have h1:σ.getD t .free=.var [.map m]:=by simp [List.getD_eq_getElem?_getD,hs]
 have h2:σ.getD m .free=.map (Zb l):=by simp [List.getD_eq_getElem?_getD,hm]
 have hsh:showAs σ (.ref t 0::args)=some (.ref t 0::args.map Z8,[]):=by
  rw [showAs,show showA σ (.ref t 0)=some (.ref t 0,[]) from rfl,Zg8 hp]
  rfl
 have href:ZG (.ref t 0::args.map Z8)=[t]:=by
  rw [ZG,Ze1 hp];rfl
 have hre:Zk σ 1000 (ZG (.ref t 0::args.map Z8)) []=[t,m]:=by
  have e0:([]:List Nat).contains t=false:=rfl
  have e1:([t]:List Nat).contains m=false:=by simp;exact fun e=>htm e.symm
  rw [href,show (1000:Nat)=997+1+1+1 from rfl]
  have hb0:Zz (.var [.map m])=[m]:=rfl
  simp only [Zk,e0,h1,hb0,List.append_nil,List.nil_append,List.singleton_append,Bool.false_eq_true,if_false,e1,h2,Zf7,List.cons_append]
 have hρt:Zf σ 0 [t,m] t 0=some (0,0):=by simp [Zf,Zv,hs,Zc,Zt]
 have hρm:Zf σ 0 [t,m] m 0=some (1,0):=by
  simp [Zf,Zv,hm,Zc,Zt,htm]
 have hvs:Zy (Zf σ 0 [t,m]) (.ref t 0::args.map Z8)=.ref 0 0::args:=by
  rw [Zy,Zfj hp,hn]
  simp only [Ze,hρt]
 have hh:Zj σ 0 [t,m] (Zf σ 0 [t,m]) [t,m] 0=Zh l:=by
  simp only [Zj,h1,h2,Zm,ZaB,Zy,Ze,hρm,Zh]
 have hall:([t,m].all fun t=>okB (σ.getD t .free))=true:=by simp only [List.all_cons,List.all_nil,h1,h2,okB,Bool.and_self]
 have hk:Zbf σ [t,m] (Zh l') 0=true:=by simp [Zh,Zbf,okB,Zdp,Zc,hs,hm]
 have hρb:Zaw σ [t,m] sq 1 0=some (m,0):=by simp [Zaw,Zc,hm]
 have hlay:Zay σ [t,m] sq (Zh l') 0 σ=(σ.set t (.var [.map m])).set m (.map (Zb l')):=by
  simp [Zh,Zay,Zam,Zbb,Zc,Zm,ZaB,Zy,Ze,hρb,hs,hm,List.getD_eq_getElem?_getD]
 refine ZuH hb hsh hre rfl hall hvs hh h hask (by simp [Zh]) (by simp [Zh]) hk hff (Zbp _ q hq).1 hlay ?_
 have h3:((σ.set t (.var [.map m])).set m (.map (Zb l')))[t]?=some (.var [.map m]):=by
  rw [List.getElem?_set,if_neg (fun e=>htm e.symm),List.getElem?_set,if_pos rfl,if_pos htl]
 have h4:((σ.set t (.var [.map m])).set m (.map (Zb l')))[m]?=some (.map (Zb l')):=by
  rw [List.getElem?_set,if_pos rfl,if_pos (by simpa using hml)]
 simp [ZbB,h3,h4]
theorem Zu2 {view:Bool} {l':List Int} {q:AVal} (hq:Z6 q=true) (hv:viewR (Zh l') q=some (q,[])):ZaF view 2 (some (q,Zh l'))=some (q,Zh l'):=by
 unfold ZaF
 split
 ·have hnp:∀ x,q=.pan x->False:=by rintro x rfl;simp [viewR,Za0,ZaG] at hv
  have : Zcq 2 (some (q,Zh l'))=(match viewR (Zh l') q with
   | some (r',ts)=>match gcA 2 [r'] (Zl (Zh l') ts) with
    | ([r''],σ')=>some (r'',σ')
    | _=>none
   | none=>none):=by
   cases q <;> first | rfl | exact (hnp _ rfl).elim
  rw [this,hv]
  exact Zcf hq l' []
 ·rfl
theorem Zeq {O:Zp} {f own:Nat} {view:Bool} {args:List AVal} {l l':List Int} {q:AVal} (hq:Z6 q=true) (hv:viewR (Zh l') q=some (q,[])) (h:O f (.ref 0 0::args) (Zh l)=some (q,Zh l')) (hb:BY f=false) (hp:args.all Zah=true) (hn:args.map Z8=args) {σ:Za} {t m sq:Nat} (htm:t≠m) (hs:σ[t]?=some (.var [.map m])) (hm:σ[m]?=some (.map (Zb l))) (hff:ZaD σ sq own=true) :
  ZF O BY σ sq f own view (.ref t 0::args)=some (q,(σ.set t (.var [.map m])).set m (.map (Zb l')),{ any:=true,upd:=[(t,[.map m])] }) :=
 ZiP hq h (Zu2 hq hv) hb hp hn htm hs hm hff
theorem Ztb {O:Zp} {f:Nat} {args vs:List AVal} {ts:List Nat} {l:List Int} {σ:Za} {sq:Nat} (hb:BY f=false) (hsh:showAs σ args=some (vs,ts)) (hp:vs.all Zah=true) (hn:vs.map Z8=vs) (h:O f vs []=some (.ref 0 0,Zh l)) (hff:ZaD (Zl σ ts) sq 2=true) :
  ZF O BY σ sq f 2 false args=some (.ref sq 0,((Zl σ ts).set sq (.var [.map (sq+1)])).set (sq+1) (.map (Zb l)),{ any:=true }):=by
 have hr:=Ze1 hp
 have hn':=fun ρ=>Zfj (ρ:=ρ) hp
 rw [hn] at hr
 simp only [hn] at hn'
 have hd:Zej 2 (.ref 0 0) (Zh l)=none:=rfl
 have hk:Zbf (Zl σ ts) [] (Zh l) 0=true:=rfl
 unfold ZF ZbV
 rw [hb]
 simp only [Bool.false_eq_true,if_false,hsh]
 rw [hr]
 have h2:∀ σ,Zk σ 1000 [] []=[]:=fun _=>rfl
 rw [h2]
 unfold Zbz
 simp only [List.all_nil,if_true,hn',Zj,List.length_nil,h]
 have hk2:decide ((Zh l).length<=0+2)=true:=rfl
 simp only [ZaF,Bool.false_eq_true,if_false,Zan,List.isEmpty_nil,show (Zh l).isEmpty=false from rfl,Bool.and_false,if_true,hd,List.length_nil,hk2,Nat.zero_le,decide_true,hk,hff,Bool.and_self]
 simp [Zh,Zay,Zam,Zbb,Zaw,Zm,Zy,Ze,Zc,ZaB,ZbB]
end
section
theorem Zip {O:Zp} {bf:Nat->Bool} {f:Nat} {args args':List AVal} {r r':AVal} (h:O f args' []=some (r,[])) (hb:bf f=false) (hp:args.all Zah=true) (hn:args.map Z8=args') (hv:Zcq 0 (some (r,[]))=some (r',[])) (hr:∀ sq,Ze (Zaw [] [] sq) r'=r') (σ:Za) (sq own:Nat):ZF O bf σ sq f own true args=some (r',σ,{}):=by
 rw [Zq6 hb hp,hn,h]
 have : ZaF true 0 (some (r,[]))=some (r',[]):=by
  unfold ZaF
  rw [if_pos rfl];exact hv
 rw [this,Zr0 _ _ _ _ (hr sq)]
end
end Go.Proofs.Ytcgndmenpdhjcaa
