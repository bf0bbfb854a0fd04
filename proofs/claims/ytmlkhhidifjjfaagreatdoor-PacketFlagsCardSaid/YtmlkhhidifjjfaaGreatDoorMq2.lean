/- packed -/
import Derived.Test.YtmlkhhidifjjfaaGreatDoorMq1
import Derived.Scope
import Derived.Laws.Cover3
import Derived.Lib.Index
import Derived.Shelf.Unicode.ValidAny
import Derived.Shelf.Strings.Count
import Derived.Test.YtmlkhhidifjjfaaGreatDoorProg
import Derived.Deep.Slices
import Derived.ChangeArms
import Derived.WideShapes
import GoSem.ClaimChange
import Derived.Lib.TrimUEq
import Derived.Lib.MapLaws
import Derived.Lib.ValidLaws
set_option linter.defProp false
set_option linter.unusedSimpArgs false
set_option linter.unusedVariables false
namespace Go.Proofs.YtmlkhhidifjjfaaGreatDoor
set_option maxHeartbeats 16000000
set_option maxRecDepth 10000
section
open Go.RowKit
section
variable {P:Program} {O:ZL} {bf:Nat->Bool} {an:Ann} {base:Nat->Prop} {w0:World} {I0:Imm} {dr:Door}
theorem ZGx {o:AOp} {tm tm1:Tms} {σ σ1:Za} {sq:Nat} {v:AVal} {c:Cls} (ht:o.ins.touches=false) (h:ZJ O bf o sq tm σ=some (v,tm1,σ1,c)):c={}:=by
 unfold ZJ at h
 split at h
 ·cases h
 ·simp only [Option.some.injEq,Prod.mk.injEq] at h;exact h.2.2.2.symm
 ·split at h
  ·split at h
   ·rename_i he
    simp only [Option.some.injEq,Prod.mk.injEq] at h
    rw [<-h.2.2.2]
    exact (ZJe ht he).1
   ·cases h
  ·cases h
theorem Zic {i:Ins} (h:i.touches=false):nsite i=0:=by cases i <;> simp [Ins.touches] at h <;> rfl
theorem ZgZ {asl:List AOp} {L:Nat} {cs:List Cls}:∀ {l:List Nat} {tm tm':Tms} {σ σ':Za},Zcj O bf asl L cs l tm σ tm' σ'->∀ j ∈ l,(asl.getD j default).ins.touches=false->cs.getD j {}={}
 | [],_,_,_,_,_,j,hj,_=>by simp at hj
 | i::l,_,_,_,_,h,j,hj,ht=>by
  cases h with
  | cons h1 _ h2 =>
   rcases List.mem_cons.1 hj with rfl | hj
   ·exact ZGx ht h1
   ·exact ZgZ h2 j hj ht
theorem ZgM (asl:List AOp):∀ {j i:Nat},j < i->i<=asl.length->sitesOf (asl.take j)+nsite (asl.getD j default).ins<=sitesOf (asl.take i):=by
 intro j i hji hi
 induction i with
 | zero=>omega
 | succ i ih =>
  rw [Zpt asl (by omega)]
  by_cases e:j=i
  ·subst e
   simp [List.getD_eq_getElem?_getD,show j < asl.length by omega]
  ·have:=ih (by omega) (by omega);omega
theorem ZHs (hO:Zaw P O) (hkp:∀ n ∈ dr.K,n ∈ an.keep) (hb:KLt base w0) {ops:Array Oper} {asl:List AOp} (hcomp:ZcT P an ops ops.toList=some asl) {ps:List (Nat×Nat)} (hps:Ze3 asl=some ps) {L:Nat} {cs:List Cls} (hchk:Zc0 asl L ps cs=true)
  {tmF:Tms} {σF:Za} {Q:Exit->Act->World->Prop} {I:Imm} {β:Bmap} (hQ:∀ a' w',StR dr an.nt base w0 I0 I β tmF σF a' w'->Q .normal a' w') :
  ∀ (fuel:Nat) (rem:List Nat) (listed:Array Bool) (a:Act) (w:World) (tm:Tms) (σ:Za),Zcj O bf asl L cs rem tm σ tmF σF->rem.Pairwise (· < ·)->(∀ j ∈ rem,j < ops.size)->(∀ j,j < ops.size->(listed.getD j true=true↔j ∉ rem))->listed.size=ops.size ->
   (∀ k,k < ops.size->k ∉ rem->∀ p ∈ (ZbU (asl.map (·.after)) []).getD k [],p ∉ rem)->rem.length=fuel->StR dr an.nt base w0 I0 I β tm σ a w->wpAny P .any ops Q fuel listed a w:=by
 obtain ⟨hlen,hget⟩:=ZiS hcomp
 obtain ⟨hp1,hp2⟩:=Zsm hps
 obtain ⟨_,_,hanc⟩:=Zmr (asl.map (·.after)) [] (fun _ _ _=>trivial)
 simp only [Array.length_toList] at hlen
 have hafter:∀ j o,ops[j]?=some o->∃ ao,asl.getD j default=ao/\Zgu P an ops o=some ao/\ao.after=(o.after.toList.filter (Region.binds .any)).map (·.on)/\ao.dst=o.dst:=by
  intro j o ho
  obtain ⟨ao,h1,h2⟩:=hget j o (by simpa using ho)
  refine ⟨ao,by simp [List.getD_eq_getElem?_getD,h1],h2,?_⟩
  obtain ⟨g,i,_,_,_,rfl⟩:=Zl5 h2
  exact ⟨rfl,rfl⟩
 intro fuel
 induction fuel with
 | zero =>
  intro rem listed a w tm σ hr hs hlt hl hsz hcl hfl hst
  have : rem=[]:=List.eq_nil_of_length_eq_zero hfl
  subst this
  cases hr
  refine ⟨?_,hQ a w hst⟩
  apply List.eq_nil_iff_forall_not_mem.2
  intro j hj
  rw [mem_ready] at hj
  obtain ⟨h1,o,ho,_⟩:=hj
  have hjl:j < ops.size:=(Array.getElem?_eq_some_iff.1 ho).1
  have:=(hl j hjl).2 (by simp)
  rw [h1] at this;cases this
 | succ fuel ih =>
  intro rem listed a w tm σ hr hs hlt hl hsz hcl hfl hst
  have isRem:∀ j,j < ops.size->listed.getD j true=false->j ∈ rem:=by
   intro j hj h
   by_cases hm:j ∈ rem
   ·exact hm
   ·have:=(hl j hj).2 hm;rw [h] at this;cases this
  have getD_tf:∀ j,j < ops.size->listed.getD j false=listed.getD j true:=by
   intro j hj
   simp [Array.getD,hsz,hj]
  refine ⟨fun hnil=>?_,fun i hi=>?_⟩
  ·exfalso
   cases rem with
   | nil=>simp at hfl
   | cons r rs =>
    have hrl:r < ops.size:=hlt r (by simp)
    have hro:ops[r]?=some ops[r]:=by simp [hrl]
    obtain ⟨ao,e1,e2,e3,_⟩:=hafter r _ hro
    have : r ∈ Region.ready .any ops listed:=by
     rw [mem_ready]
     refine ⟨?_,ops[r],hro,fun e he hbnd=>?_⟩
     ·cases hq:listed.getD r true with
      | false=>rfl
      | true=>exact absurd (List.mem_cons_self) ((hl r hrl).1 hq)
     ·have hon:e.on ∈ ao.after:=by rw [e3];exact List.mem_map.2 ⟨e,List.mem_filter.2 ⟨by simpa using he,hbnd⟩,rfl⟩
      have hlt':e.on < r:=hp2 r (by omega) e.on (by rw [e1];exact hon)
      rw [getD_tf _ (by omega)]
      refine (hl e.on (by omega)).2 (fun hm=>?_)
      rcases List.mem_cons.1 hm with h | hm
      ·omega
      ·have:=(List.pairwise_cons.1 hs).1 e.on hm;omega
    rw [hnil] at this;simp at this
  ·rw [mem_ready] at hi
   obtain ⟨hi0,o,ho,hpre⟩:=hi
   have hil:i < ops.size:=(Array.getElem?_eq_some_iff.1 ho).1
   have him:=isRem i hil hi0
   obtain ⟨l1,l2,rfl⟩:=List.append_of_mem him
   obtain ⟨ao,e1,e2,e3,e4⟩:=hafter i o ho
   have hdone:∀ p ∈ (asl.getD i default).after,p < ops.size->p ∉ l1++i::l2:=by
    intro p hp hpl
    rw [e1,e3] at hp
    obtain ⟨e,he,rfl⟩:=List.mem_map.1 hp
    obtain ⟨he1,he2⟩:=List.mem_filter.1 he
    have:=hpre e (by simpa using he1) he2
    rw [getD_tf _ hpl] at this
    exact (hl e.on hpl).1 this
   have hai:(asl.map (·.after)).getD i []=(asl.getD i default).after:=by
    simp [List.getD_eq_getElem?_getD,show i < asl.length by omega]
   have hanci:∀ p ∈ (ZbU (asl.map (·.after)) []).getD i [],p ∉ l1++i::l2:=by
    intro p hp
    have hap:∀ q,q ∈ (asl.map (·.after)).getD i []->q < i:=fun q hq=>hp2 i (by omega) q (by rw [<-hai];exact hq)
    rcases hanc i (by simp;omega) p (by simpa using hp) with h | ⟨q,h1,h2,h3⟩
    ·exact hdone p (by rw [<-hai];exact h) (by have:=hap p h;omega)
    ·have hql:q < ops.size:=by simp at h2;omega
     exact hcl q hql (hdone q (by rw [<-hai];exact h1) hql) p h3
   have hl1:∀ j ∈ l1,j < i:=by
    intro j hj
    have:=List.pairwise_append.1 hs
    exact this.2.2 j hj i (by simp)
   obtain ⟨v1,tm1,σ1,h1,hnp1,h2⟩:=Zop (l1:=l1) (i:=i) (fun j hj=>by
    have hji:=hl1 j hj
    have hjn:j ∉ (ZbU (asl.map (·.after)) []).getD i []:=fun hm=>hanci j hm (by simp [hj])
    obtain ⟨p1,p2⟩:=hp1 j i hji (by omega) hjn
    refine ⟨p1,?_,fun hn _=>?_,?_⟩
    ·rcases p2 with p2 | p2 | p2
     ·have:=ZgZ hr j (by simp [hj]) p2
      have hem:Zb0 (asl.getD j default) (cs.getD j {})=true:=by rw [this];simp only [Zb0,Zic p2];rfl
      simp only [Zca,hem,Bool.true_or]
     ·have:=ZgZ hr i (by simp) p2
      have hem:Zb0 (asl.getD i default) (cs.getD i {})=true:=by rw [this];simp only [Zb0,Zic p2];rfl
      simp only [Zca,hem,Bool.true_or,Bool.or_true]
     ·have:=List.all_eq_true.1 hchk (j,i) p2
      simp only [Bool.or_eq_true,beq_iff_eq] at this
      rcases this with h | h
      ·omega
      ·exact h
    ·have:=ZgM asl hji (by omega)
     omega
    ·have:=ZgM asl hji (by omega)
     omega) hr
   unfold wpOp
   rw [ho]
   rw [e1] at h1
   obtain ⟨I',β',g1,g2,g3,g4,g5⟩:=hst
   refine Zh6 hO hkp e2 g3 g4 g5 hb h1 (fun _ a' w' hs'=>ih (l1++l2) _ a' w' tm1 σ1 h2 ?_ ?_ ?_ (by simpa using hsz) ?_ ?_ (hs'.trans g1 g2)) (fun x e=>absurd e (hnp1 x))
   ·have:=List.pairwise_append.1 hs
    exact List.pairwise_append.2 ⟨this.1,(List.pairwise_cons.1 this.2.1).2,fun x hx y hy=>this.2.2 x hx y (by simp [hy])⟩
   ·intro j hj
    refine hlt j ?_
    simp only [List.mem_append,List.mem_cons] at hj ⊢
    rcases hj with h | h
    ·exact Or.inl h
    ·exact Or.inr (Or.inr h)
   ·intro j hj
    have hs1:=List.pairwise_append.1 hs
    by_cases hij:i=j
    ·subst hij
     have hn:i ∉ l1++l2:=by
      intro hm
      rcases List.mem_append.1 hm with h | h
      ·have:=hl1 i h;omega
      ·have:=(List.pairwise_cons.1 hs1.2.1).1 i h;omega
     simp [Array.getD,hsz,hil,hn]
    ·rw [getD_set_ne true hij,hl j hj]
     simp only [List.mem_append,List.mem_cons,not_or]
     constructor
     ·rintro ⟨a1,_,a3⟩;exact ⟨a1,a3⟩
     ·rintro ⟨a1,a3⟩;exact ⟨a1,fun e=>hij e.symm,a3⟩
   ·intro k hk hkn p hp hm
    have hsub:p ∈ l1++i::l2:=by
     simp only [List.mem_append,List.mem_cons] at hm ⊢
     rcases hm with h | h
     ·exact Or.inl h
     ·exact Or.inr (Or.inr h)
    by_cases hki:k=i
    ·subst hki;exact hanci p hp hsub
    ·refine hcl k hk (fun hkm=>hkn ?_) p hp hsub
     simp only [List.mem_append,List.mem_cons] at hkm ⊢
     rcases hkm with h | h | h
     ·exact Or.inl h
     ·exact absurd h hki
     ·exact Or.inr h
   ·simp at hfl ⊢;omega
theorem ZKk (hO:Zaw P O) (hkp:∀ n ∈ dr.K,n ∈ an.keep) (hb:KLt base w0) {ops:Array Oper} {asl:List AOp} (hcomp:ZcT P an ops ops.toList=some asl) {ps:List (Nat×Nat)} (hps:Ze3 asl=some ps) {L:Nat} {cs:List Cls} {jp:Nat} (hjl:jp < ops.size) (hmark:(jp,jp) ∈ ps) (hmarkT:(asl.getD jp default).ins.touches=true) (hfree:∀ j i,(j,i) ∈ ps->j < i->i<=jp->Zca (asl.getD j default) (asl.getD i default) (cs.getD j {}) (cs.getD i {}) (L+sitesOf (asl.take j))=true) (hquiet:∀ j,(j,jp) ∈ ps->j < jp->Zaj (asl.getD j default).ins=true)
  {x:AVal} {σF:Za} {Q:Exit->Act->World->Prop} {I:Imm} {β:Bmap} (hQ:∀ a' u w',dr.ok a'->Post base w0 I0 I β x σF u w'->Q (.panic [{ v:=u,recovered:=false }]) a' w') :
  ∀ (fuel:Nat) (pre post:List Nat) (listed:Array Bool) (a:Act) (w:World) (tm tmJ tmX:Tms) (σ σJ:Za),Zcj O bf asl L cs pre tm σ tmJ σJ->ZJ O bf (asl.getD jp default) (L+sitesOf (asl.take jp)) tmJ σJ=some (.pan x,tmX,σF,cs.getD jp {})->(pre++jp::post).Pairwise (· < ·)->(∀ j ∈ pre++jp::post,j < ops.size)->(∀ j,j < ops.size->(listed.getD j true=true↔j ∉ pre++jp::post))->listed.size=ops.size ->
   (∀ k,k < ops.size->k ∉ pre++jp::post->∀ p ∈ (ZbU (asl.map (·.after)) []).getD k [],p ∉ pre++jp::post)->(pre++jp::post).length=fuel->StR dr an.nt base w0 I0 I β tm σ a w->wpAny P .any ops Q fuel listed a w:=by
 obtain ⟨hlen,hget⟩:=ZiS hcomp
 obtain ⟨hp1,hp2⟩:=Zsm hps
 have hmk:=ZzG hps hmark
 obtain ⟨_,_,hanc⟩:=Zmr (asl.map (·.after)) [] (fun _ _ _=>trivial)
 simp only [Array.length_toList] at hlen
 have hafter:∀ j o,ops[j]?=some o->∃ ao,asl.getD j default=ao/\Zgu P an ops o=some ao/\ao.after=(o.after.toList.filter (Region.binds .any)).map (·.on)/\ao.dst=o.dst:=by
  intro j o ho
  obtain ⟨ao,h1,h2⟩:=hget j o (by simpa using ho)
  refine ⟨ao,by simp [List.getD_eq_getElem?_getD,h1],h2,?_⟩
  obtain ⟨g,i,_,_,_,rfl⟩:=Zl5 h2
  exact ⟨rfl,rfl⟩
 intro fuel
 induction fuel with
 | zero =>
  intro pre post listed a w tm tmJ tmX σ σJ hr hj hs hlt hl hsz hcl hfl hst
  simp at hfl
 | succ fuel ih =>
  intro pre post listed a w tm tmJ tmX σ σJ hr hj hs hlt hl hsz hcl hfl hst
  have getD_tf:∀ j,j < ops.size->listed.getD j false=listed.getD j true:=by
   intro j hj
   simp [Array.getD,hsz,hj]
  have isRem:∀ j,j < ops.size->listed.getD j true=false->j ∈ pre++jp::post:=by
   intro j hj h
   by_cases hm:j ∈ pre++jp::post
   ·exact hm
   ·have:=(hl j hj).2 hm;rw [h] at this;cases this
  refine ⟨fun hnil=>?_,fun i hi=>?_⟩
  ·exfalso
   obtain ⟨r,rs,hrr⟩:∃ r rs,pre++jp::post=r::rs:=by cases pre <;> simp
   rw [hrr] at hs hlt hl
   have hrl:r < ops.size:=hlt r (by simp)
   have hro:ops[r]?=some ops[r]:=by simp [hrl]
   obtain ⟨ao,e1,e2,e3,_⟩:=hafter r _ hro
   have : r ∈ Region.ready .any ops listed:=by
    rw [mem_ready]
    refine ⟨?_,ops[r],hro,fun e he hbnd=>?_⟩
    ·cases hq:listed.getD r true with
     | false=>rfl
     | true=>exact absurd (List.mem_cons_self) ((hl r hrl).1 hq)
    ·have hon:e.on ∈ ao.after:=by rw [e3];exact List.mem_map.2 ⟨e,List.mem_filter.2 ⟨by simpa using he,hbnd⟩,rfl⟩
     have hlt':e.on < r:=hp2 r (by omega) e.on (by rw [e1];exact hon)
     rw [getD_tf _ (by omega)]
     refine (hl e.on (by omega)).2 (fun hm=>?_)
     rcases List.mem_cons.1 hm with h | hm
     ·omega
     ·have:=(List.pairwise_cons.1 hs).1 e.on hm;omega
   rw [hnil] at this;simp at this
  ·rw [mem_ready] at hi
   obtain ⟨hi0,o,ho,hpre⟩:=hi
   have hil:i < ops.size:=(Array.getElem?_eq_some_iff.1 ho).1
   have him:=isRem i hil hi0
   obtain ⟨ao,e1,e2,e3,e4⟩:=hafter i o ho
   have hdone:∀ p ∈ (asl.getD i default).after,p < ops.size->p ∉ pre++jp::post:=by
    intro p hp hpl
    rw [e1,e3] at hp
    obtain ⟨e,he,rfl⟩:=List.mem_map.1 hp
    obtain ⟨he1,he2⟩:=List.mem_filter.1 he
    have:=hpre e (by simpa using he1) he2
    rw [getD_tf _ hpl] at this
    exact (hl e.on hpl).1 this
   have hai:(asl.map (·.after)).getD i []=(asl.getD i default).after:=by
    simp [List.getD_eq_getElem?_getD,show i < asl.length by omega]
   have hanci:∀ p ∈ (ZbU (asl.map (·.after)) []).getD i [],p ∉ pre++jp::post:=by
    intro p hp
    have hap:∀ q,q ∈ (asl.map (·.after)).getD i []->q < i:=fun q hq=>hp2 i (by omega) q (by rw [<-hai];exact hq)
    rcases hanc i (by simp;omega) p (by simpa using hp) with h | ⟨q,h1,h2,h3⟩
    ·exact hdone p (by rw [<-hai];exact h) (by have:=hap p h;omega)
    ·have hql:q < ops.size:=by simp at h2;omega
     exact hcl q hql (hdone q (by rw [<-hai];exact h1) hql) p h3
   have hss:=List.pairwise_append.1 hs
   rw [List.mem_append,List.mem_cons] at him
   rcases him with him | hij | him
   ·obtain ⟨l1,l2,rfl⟩:=List.append_of_mem him
    have hl1:∀ j ∈ l1,j < i:=by
     intro j hj
     exact (List.pairwise_append.1 hss.1).2.2 j hj i (by simp)
    have hijp:i < jp:=hss.2.2 i (by simp) jp (by simp)
    obtain ⟨v1,tm1,σ1,h1,hnp1,h2⟩:=Zop (l1:=l1) (i:=i) (fun j hj'=>by
     have hji:=hl1 j hj'
     have hjn:j ∉ (ZbU (asl.map (·.after)) []).getD i []:=fun hm=>hanci j hm (by simp [hj'])
     obtain ⟨p1,p2⟩:=hp1 j i hji (by omega) hjn
     refine ⟨p1,?_,fun hn _=>?_,?_⟩
     ·rcases p2 with p2 | p2 | p2
      ·have:=ZgZ hr j (by simp [hj']) p2
       have hem:Zb0 (asl.getD j default) (cs.getD j {})=true:=by rw [this];simp only [Zb0,Zic p2];rfl
       simp only [Zca,hem,Bool.true_or]
      ·have:=ZgZ hr i (by simp) p2
       have hem:Zb0 (asl.getD i default) (cs.getD i {})=true:=by rw [this];simp only [Zb0,Zic p2];rfl
       simp only [Zca,hem,Bool.true_or,Bool.or_true]
      ·exact hfree j i p2 hji (by omega)
     ·have:=ZgM asl hji (by omega)
      omega
     ·have:=ZgM asl hji (by omega)
      omega) hr
    have eA:(l1++i::l2)++jp::post=l1++i::(l2++jp::post):=by simp
    have eB:(l1++l2)++jp::post=l1++(l2++jp::post):=by simp
    rw [eA] at hs hlt hl hcl hanci hfl
    unfold wpOp
    rw [ho]
    rw [e1] at h1
    obtain ⟨I',β',g1,g2,g3,g4,g5⟩:=hst
    refine Zh6 hO hkp e2 g3 g4 g5 hb h1 (fun _ a' w' hs'=>ih (l1++l2) post _ a' w' tm1 tmJ tmX σ1 σJ h2 hj ?_ ?_ ?_ (by simpa using hsz) ?_ ?_ (hs'.trans g1 g2)) (fun x e=>absurd e (hnp1 x))
    ·rw [eB]
     have:=List.pairwise_append.1 hs
     exact List.pairwise_append.2 ⟨this.1,(List.pairwise_cons.1 this.2.1).2,fun x hx y hy=>this.2.2 x hx y (by simp only [List.mem_cons];exact Or.inr hy)⟩
    ·intro j hj
     rw [eB] at hj
     refine hlt j ?_
     simp only [List.mem_append,List.mem_cons] at hj ⊢
     rcases hj with h | h | h | h
     ·exact Or.inl h
     ·exact Or.inr (Or.inr (Or.inl h))
     ·exact Or.inr (Or.inr (Or.inr (Or.inl h)))
     ·exact Or.inr (Or.inr (Or.inr (Or.inr h)))
    ·intro j hj
     rw [eB]
     generalize l2++jp::post=L2 at *
     have hs1:=List.pairwise_append.1 hs
     by_cases hij:i=j
     ·subst hij
      have hn:i ∉ l1++L2:=by
       intro hm
       rcases List.mem_append.1 hm with h | h
       ·have:=hl1 i h;omega
       ·have:=(List.pairwise_cons.1 hs1.2.1).1 i h;omega
      simp [Array.getD,hsz,hil,hn]
     ·rw [getD_set_ne true hij,hl j hj]
      simp only [List.mem_append,List.mem_cons,not_or]
      constructor
      ·rintro ⟨a1,_,a3⟩;exact ⟨a1,a3⟩
      ·rintro ⟨a1,a3⟩;exact ⟨a1,fun e=>hij e.symm,a3⟩
    ·intro k hk hkn p hp hm
     rw [eB] at hkn hm
     generalize l2++jp::post=L2 at *
     have hsub:p ∈ l1++i::L2:=by
      simp only [List.mem_append,List.mem_cons] at hm ⊢
      rcases hm with h | h
      ·exact Or.inl h
      ·exact Or.inr (Or.inr h)
     by_cases hki:k=i
     ·subst hki;exact hanci p hp hsub
     ·refine hcl k hk (fun hkm=>hkn ?_) p hp hsub
      simp only [List.mem_append,List.mem_cons] at hkm ⊢
      rcases hkm with h | h | h
      ·exact Or.inl h
      ·exact absurd h hki
      ·exact Or.inr h
    ·rw [eB];simp at hfl ⊢;omega
   ·subst hij
    have hl1:∀ j ∈ pre,j < i:=fun j hj=>hss.2.2 j hj i (by simp)
    obtain ⟨tm1,h1⟩:=Ztk (l1:=pre) (i:=i) (fun j hj'=>by
     have hji:=hl1 j hj'
     have hjn:j ∉ (ZbU (asl.map (·.after)) []).getD i []:=fun hm=>hanci j hm (by simp [hj'])
     obtain ⟨p1,p2⟩:=hp1 j i hji (by omega) hjn
     have hts:(asl.getD i default).ins.touches=false->False:=fun h=>by
      have:=hmarkT
      rw [h] at this;cases this
     refine ⟨?_,p1,?_,fun hn _=>?_,?_⟩
     ·rcases p2 with p2 | p2 | p2
      ·exact Or.inl p2
      ·exact (hts p2).elim
      ·exact Or.inr (hquiet j p2 hji)
     ·rcases p2 with p2 | p2 | p2
      ·have:=ZgZ hr j hj' p2
       have hem:Zb0 (asl.getD j default) (cs.getD j {})=true:=by rw [this];simp only [Zb0,Zic p2];rfl
       simp only [Zca,hem,Bool.true_or]
      ·exact (hts p2).elim
      ·exact hfree j i p2 hji (Nat.le_refl _)
     ·have:=ZgM asl hji (by omega)
      omega
     ·have:=ZgM asl hji (by omega)
      omega) hr hj
    unfold wpOp
    rw [ho]
    rw [e1] at h1
    obtain ⟨I',β',g1,g2,g3,g4,g5⟩:=hst
    refine Zh6 hO hkp e2 g3 g4 g5 hb h1 (fun hn=>absurd rfl (hn x)) (fun x' e u w' hp=>?_)
    injection e with e
    subst e
    exact hQ a u w' g4.1 (hp.trans g1 g2)
   ·exfalso
    have hlt2:jp < i:=(List.pairwise_cons.1 hss.2.1).1 i him
    exact hanci jp (hmk i hlt2 (by omega)) (by simp)
theorem Rel.reserve {I:Imm} {β:Bmap} {σ:Za} {w:World} (R:Rel base w0 I0 I β σ w) (n:Nat):Rel base w0 I0 I β (σ++List.replicate n .free) w:=by
 have look:∀ t x,(σ++List.replicate n ZI.free)[t]?=some x->σ[t]?=some x\/(σ.length<=t/\x=.free):=by
  intro t x h
  by_cases ht:t < σ.length
  ·rw [List.getElem?_append_left ht] at h;exact Or.inl h
  ·rw [List.getElem?_append_right (by omega)] at h
   refine Or.inr ⟨by omega,?_⟩
   have:=List.mem_of_getElem? h
   exact List.eq_of_mem_replicate this
 refine ⟨R.below,R.old,R.imm,?_,?_,?_,?_,?_,?_,R.glob⟩
 ·intro t x h
  rcases look t x h with h | ⟨_,rfl⟩
  ·exact R.blk t x h
  ·trivial
 ·intro t x b h hb
  rcases look t x h with h | ⟨_,rfl⟩
  ·exact R.own t x b h hb
  ·cases hb
 ·intro t x t' x' b h h' hb hb'
  rcases look t x h with h | ⟨_,rfl⟩
  ·rcases look t' x' h' with h' | ⟨_,rfl⟩
   ·exact R.apart t x t' x' b h h' hb hb'
   ·cases hb'
  ·cases hb
 ·intro t g h
  exact R.fresh t g (by simp at h;omega)
 ·intro t g h
  rcases look t _ h with h | ⟨h,_⟩
  ·exact R.free t g h
  ·exact R.fresh t g h
 ·intro t x g h hg
  rcases look t _ h with h | ⟨h,_⟩
  ·exact R.gen t x g h hg
  ·exact R.fresh t g h
theorem StR.keep {I:Imm} {β:Bmap} {tm:Tms} {σ:Za} {a:Act} {w:World} (h:StR dr an.nt base w0 I0 I β tm σ a w) (live:List Nat):StR dr an.nt base w0 I0 I β (keepL live tm) σ a w:=by
 obtain ⟨I',β',h1,h2,h3,h4⟩:=h
 exact ⟨I',β',h1,h2,h3.keep live,h4⟩
def ZES (dr:Door) (an:Ann) (base:Nat->Prop) (w0:World) (I0 I:Imm) (β:Bmap) (e:ZaL) (tm:Tms) (σ:Za) (Q:Exit->Act->World->Prop):Prop:=match e with
 | .normal=>∀ a w,StR dr an.nt base w0 I0 I β tm σ a w->Q .normal a w
 | .exit id=>∀ a w,StR dr an.nt base w0 I0 I β tm σ a w->Q (.exit id) a w
 | .ret=>∀ a w,StR dr an.nt base w0 I0 I β tm σ a w->Q .ret a w
 | .panic x=>∀ a u w,dr.ok a->Post base w0 I0 I β x σ u w->Q (.panic [{ v:=u,recovered:=false }]) a w
theorem Zj3 (hO:Zaw P O) (hkp:∀ n ∈ dr.K,n ∈ an.keep) (hm:P.follows .mixedOrders=true) (hb:KLt base w0) {id:Nat} {ops:Array Oper} {draw:Bool} {asl:List AOp} {chk:Option (List (Nat×Nat))} {live:List Nat} (hc:ZaK P an (.region id ops draw)=.region asl chk live) {I:Imm} {β:Bmap} {tm tm':Tms} {σ σ':Za} {a:Act} {w:World} {e:ZaL}
  (hst:StR dr an.nt base w0 I0 I β tm σ a w) (h:ZbT O bf asl chk live tm σ=some (e,tm',σ')) {Q:Exit->Act->World->Prop} (hQ:ZES dr an base w0 I0 I β e tm' σ' Q):(Code.region id ops draw).wp P Q a w:=by
 obtain ⟨I1,β1,g1,g2,g3,g4,g5⟩:=hst
 simp only [ZaK] at hc
 split at hc
 ·rename_i l hl
  unfold ZbT at h
  split at hc
  ·rename_i hd
   subst hd
   split at hc
   ·rename_i ps hps
    simp only [Zf.region.injEq] at hc
    obtain ⟨rfl,rfl,rfl⟩:=hc
    cases hrun:ZT O bf l σ.length tm (σ++List.replicate (sitesOf l) .free) with
    | none=>rw [hrun] at h;simp only [Zcv] at h;cases h
    | some q =>
     obtain ⟨tm1,σ1,cs,p⟩:=q
     rw [hrun] at h
     cases p with
     | some x =>
      simp only [Zcv] at h
      split at h
      ·rename_i hpan
       simp only [Option.some.injEq,Prod.mk.injEq] at h
       obtain ⟨rfl,rfl,rfl⟩:=h
       have hlen:=(ZiS hl).1
       simp only [Array.length_toList] at hlen
       obtain ⟨n,tmJ,σJ,tmX,q1,q2,q3,q4⟩:=ZsQ (O:=O) (bf:=bf) (ops:=l) (L:=σ.length) l.length 0 (cs:=cs) (cs':=cs) (by omega) (by simpa [sitesOf] using hrun) (fun j=>by simp)
       rw [Nat.zero_add] at q4
       unfold Zc2 at hpan
       rw [q2] at hpan
       simp only [Bool.and_eq_true,List.any_eq_true,List.all_eq_true,Bool.or_eq_true,beq_iff_eq,decide_eq_true_eq,Nat.add_sub_cancel] at hpan
       obtain ⟨⟨pm,hpm,hm1,hm2⟩,hall⟩:=hpan
       have hmk:(n,n) ∈ ps:=by
        obtain ⟨a1,a2⟩:=pm
        simp only at hm1 hm2
        subst hm1 hm2
        exact hpm
       have hT:(l.getD n default).ins.touches=true:=Zy3 hps hmk
       refine wp_region_any hm (ZKk hO hkp hb hl hps (jp:=n) (by omega) hmk hT (fun j i hji h1 h2=>?_) (fun j hj h1=>?_) (I:=I) (β:=β) (x:=x) (fun a' u w' hd' hp=>hQ a' u w' hd' hp) ops.size (List.range' 0 n) (List.range' (n+1) (l.length - n - 1)) _ a _ tm tmJ tmX _ σJ q3 q4 ?_ ?_ ?_ (by simp) ?_ (by simp;omega) ⟨I1,β1,g1,g2,g3,g4,(g5.reserve _).same rfl rfl rfl rfl⟩)
       ·rcases hall (j,i) hji with (h | h) | ⟨h,_⟩
        ·simp only at h;omega
        ·simp only at h;omega
        ·exact h
       ·rcases hall (j,n) hj with (h | h) | ⟨_,h⟩
        ·simp only at h;omega
        ·simp only at h;omega
        ·rcases h with h | h
         ·simp only at h;omega
         ·exact h
       ·have e:List.range' 0 n++n::List.range' (n+1) (l.length - n - 1)=List.range' 0 l.length:=by
         rw [<-List.range'_succ]
         have:=List.range'_append_1 (s:=0) (m:=n) (n:=l.length - n - 1+1)
         rw [Nat.zero_add] at this
         rw [this]
         congr 1
         omega
        rw [e];exact List.pairwise_lt_range'
       ·intro j hj;simp at hj;omega
       ·intro j hj
        simp [Array.getD,hj]
        omega
       ·intro k hk hkn
        exact absurd (by simp;omega) hkn
      ·cases h
     | none =>
      simp only [Zcv] at h
      split at h
      ·rename_i hchk
       simp only [Option.some.injEq,Prod.mk.injEq] at h
       obtain ⟨rfl,rfl,rfl⟩:=h
       have hlen:=(ZiS hl).1
       simp only [Array.length_toList] at hlen
       have hr:=ZqJ (O:=O) (bf:=bf) (ops:=l) (L:=σ.length) l.length 0 (cs:=cs) (cs':=cs) (by omega) (by simpa [sitesOf] using hrun) (fun j=>by simp)
       refine wp_region_any hm (ZHs hO hkp hb hl hps hchk (I:=I) (β:=β) (fun a' w' hs=>hQ a' w' (hs.keep _)) ops.size (List.range' 0 l.length) _ a _ tm _ hr ?_ ?_ ?_ (by simp) ?_ (by simp [hlen]) ⟨I1,β1,g1,g2,g3,g4,(g5.reserve _).same rfl rfl rfl rfl⟩)
       ·exact List.pairwise_lt_range'
       ·intro j hj;simp at hj;omega
       ·intro j hj
        simp [Array.getD,hj,hlen]
       ·intro k hk hkn
        exact absurd (by simp;omega) hkn
      ·cases h
   ·cases hc
  ·rename_i hd
   simp only [Zf.region.injEq] at hc
   obtain ⟨rfl,rfl,rfl⟩:=hc
   have hdf:draw=false:=by cases draw <;> simp_all
   subst hdf
   cases hrun:ZT O bf l σ.length tm (σ++List.replicate (sitesOf l) .free) with
   | none=>rw [hrun] at h;simp only [Zcv] at h;cases h
   | some q =>
    obtain ⟨tm1,σ1,cs,p⟩:=q
    rw [hrun] at h
    cases p with
    | none =>
     simp only [Zcv,Option.some.injEq,Prod.mk.injEq] at h
     obtain ⟨rfl,rfl,rfl⟩:=h
     exact wp_region_list (ZpJ hO hkp hb hl g3 g4 (g5.reserve _) hrun (fun _ a' w' hs=>hQ a' w' ((hs.trans g1 g2).keep _)) (fun x hx=>by cases hx))
    | some x =>
     simp only [Zcv,Option.some.injEq,Prod.mk.injEq] at h
     obtain ⟨rfl,rfl,rfl⟩:=h
     exact wp_region_list (ZpJ hO hkp hb hl g3 g4 (g5.reserve _) hrun (fun hx=>by cases hx) (fun x' hx a' u w' hd' hp=>by
      injection hx with hx;subst hx
      exact hQ a' u w' hd' (hp.trans g1 g2)))
 ·cases hc
end
end
section
open Go.RowKit
section
variable {P:Program} {O:ZL} {bf:Nat->Bool} {an:Ann} {base:Nat->Prop} {w0:World} {I0:Imm} {dr:Door}
def StF (dr:Door) (m nt:Nat) (base:Nat->Prop) (w0:World) (I0 I:Imm) (β:Bmap) (tm:Tms) (σ:Za) (a:Act) (w:World):Prop :=
 ∃ I' β',I.le I'/\KeptE m β β'/\TR I' β' tm a.tmps/\(dr.ok a/\nt<=a.tmps.size)/\Rel base w0 I0 I' β' σ w
def ZAx (dr:Door) (m:Nat) (an:Ann) (base:Nat->Prop) (w0:World) (I0 I:Imm) (β:Bmap) (e:ZaL) (tm:Tms) (σ:Za) (Q:Exit->Act->World->Prop):Prop:=match e with
 | .normal=>∀ a w,StF dr m an.nt base w0 I0 I β tm σ a w->Q .normal a w
 | .exit id=>∀ a w,StF dr m an.nt base w0 I0 I β tm σ a w->Q (.exit id) a w
 | .ret=>∀ a w,StF dr m an.nt base w0 I0 I β tm σ a w->Q .ret a w
 | .panic x=>∀ a u w,dr.ok a->ZbR m base w0 I0 I β (.pan x) σ u w->Q (.panic [{ v:=u,recovered:=false }]) a w
theorem StF.cond {m:Nat} {I:Imm} {β:Bmap} {tm:Tms} {σ:Za} {a:Act} {w:World} (h:StF dr m an.nt base w0 I0 I β tm σ a w) {c:Operand} {y:Opd} (hc:Zac c=some y) {b:Bool} (hv:y.ev tm=.bool b):a.eval c=.bool b:=by
 obtain ⟨I',β',_,_,T,_,_⟩:=h
 have:=Zai T hc
 rw [hv] at this
 simpa only [VR] using this
theorem ZhU (hO:Zaw P O) (hkp:∀ n ∈ dr.K,n ∈ an.keep) (hm:P.follows .mixedOrders=true) (hb:KLt base w0) (m n:Nat):∀ {c:Code} {ac:Zf},ZaK P an c=ac->∀ {I:Imm} {β:Bmap} {tm tm':Tms} {σ σ':Za} {a:Act} {w:World} {e:ZaL},StF dr m an.nt base w0 I0 I β tm σ a w->Z0 O bf m n ac tm σ=some (e,tm',σ') ->
  ∀ {Q:Exit->Act->World->Prop},ZAx dr m an base w0 I0 I β e tm' σ' Q->c.wp P Q a w:=by
 intro c
 induction c with
 | skip =>
  intro ac hc I β tm tm' σ σ' a w e hst h Q hQ
  simp only [ZaK] at hc;subst hc
  simp only [Z0,Option.some.injEq,Prod.mk.injEq] at h
  obtain ⟨rfl,rfl,rfl⟩:=h
  exact wp_skip (hQ a w hst)
 | region id ops draw =>
  intro ac hc I β tm tm' σ σ' a w e hst h Q hQ
  obtain ⟨asl,chk,live,rfl⟩:∃ asl chk live,ac=.region asl chk live:=by
   simp only [ZaK] at hc
   split at hc
   ·split at hc
    ·split at hc
     ·exact ⟨_,_,_,hc.symm⟩
     ·subst hc;simp only [Z0] at h;cases h
    ·exact ⟨_,_,_,hc.symm⟩
   ·subst hc;simp only [Z0] at h;cases h
  simp only [Z0] at h
  obtain ⟨I1,β1,g1,g2,g3,g4,g5⟩:=hst
  have up:∀ {tm:Tms} {σ:Za} {a':Act} {w':World},StR dr an.nt base w0 I0 I1 β1 tm σ a' w'->StF dr m an.nt base w0 I0 I β tm σ a' w':=by
   rintro tm σ a' w' ⟨I2,β2,k1,k2,k3⟩
   exact ⟨I2,β2,g1.trans k1,g2.trans (KeptE.of_le k2),k3⟩
  refine Zj3 hO hkp hm hb hc (⟨I1,β1,Imm.le.refl I1,Bmap.le.refl β1,g3,g4,g5⟩:StR dr an.nt base w0 I0 I1 β1 tm σ a w) h ?_
  cases e with
  | normal=>exact fun a' w' hs=>hQ a' w' (up hs)
  | exit id=>exact fun a' w' hs=>hQ a' w' (up hs)
  | ret=>exact fun a' w' hs=>hQ a' w' (up hs)
  | panic x =>
   rintro a' u w' hd ⟨I2,β2,k1,k2,k3,k4⟩
   exact hQ a' u w' hd ⟨I2,β2,g1.trans k1,g2.trans (KeptE.of_le k2),k3,k4⟩
 | seq x y ihx ihy =>
  intro ac hc I β tm tm' σ σ' a w e hst h Q hQ
  simp only [ZaK] at hc
  subst hc
  simp only [Z0] at h
  refine wp_seq ?_
  split at h
  ·rename_i tm1 σ1 h1
   exact ihx rfl hst h1 (fun a' w' hs=>ihy rfl hs h hQ)
  ·rename_i hne
   refine ihx rfl hst h ?_
   cases e with
   | normal=>exact absurd h (hne _ _)
   | exit id=>exact hQ
   | ret=>exact hQ
   | panic x=>exact hQ
 | cond c x y ihx ihy =>
  intro ac hc I β tm tm' σ σ' a w e hst h Q hQ
  simp only [ZaK] at hc
  split at hc
  ·rename_i c' hcc
   subst hc
   simp only [Z0] at h
   split at h
   ·rename_i hv
    exact wp_cond_true (hst.cond hcc hv) (ihx rfl hst h hQ)
   ·rename_i hv
    exact wp_cond_false (hst.cond hcc hv) (ihy rfl hst h hQ)
   ·cases h
  ·subst hc;simp only [Z0] at h;cases h
 | block id x ih =>
  intro ac hc I β tm tm' σ σ' a w e hst h Q hQ
  simp only [ZaK] at hc
  subst hc
  have hx:ZaK P an x=ZaK P an x:=rfl
  simp only [Z0] at h
  refine wp_block ?_
  split at h
  ·rename_i i tm1 σ1 h1
   refine ih hx hst h1 ?_
   intro a' w' hs
   simp only [Exit.inBlock]
   split at h
   ·rename_i hid
    simp only [Option.some.injEq,Prod.mk.injEq] at h
    obtain ⟨rfl,rfl,rfl⟩:=h
    rw [if_pos hid]
    exact hQ a' w' hs
   ·rename_i hid
    simp only [Option.some.injEq,Prod.mk.injEq] at h
    obtain ⟨rfl,rfl,rfl⟩:=h
    rw [if_neg hid]
    exact hQ a' w' hs
  ·rename_i hne
   refine ih hx hst h ?_
   cases e with
   | normal=>exact hQ
   | exit id=>exact absurd h (hne _ _ _)
   | ret=>exact hQ
   | panic x=>exact hQ
 | loop x ih =>
  intro ac hc I β tm tm' σ σ' a w e hst h Q hQ
  simp only [ZaK] at hc
  subst hc
  have hx:ZaK P an x=ZaK P an x:=rfl
  simp only [Z0] at h
  refine wp_loop_rounds n ?_
  have key:∀ k {tm:Tms} {σ:Za} {a:Act} {w:World},StF dr m an.nt base w0 I0 I β tm σ a w->Zda m (an.ll (ZeI x)) (Z0 O bf m n (ZaK P an x)) k tm σ=some (e,tm',σ')->Code.rounds P x Q k a w:=by
   intro k
   induction k with
   | zero=>intro tm σ a w _ h;simp only [Zda] at h;cases h
   | succ k ihk =>
    intro tm σ a w hst h
    rw [rounds_succ]
    simp only [Zda] at h
    obtain ⟨I1,β1,k1,k2,k3,k4,k5⟩:=hst
    obtain ⟨β2,q1,q2,q3⟩:=ZwL k5 (k3.keep (an.ll (ZeI x))) m
    have hst0:StF dr m an.nt base w0 I0 I β (gcT m (keepL (an.ll (ZeI x)) tm) σ).1 (gcT m (keepL (an.ll (ZeI x)) tm) σ).2 a w:=⟨I1,β2,k1,k2.trans q1,q3,k4,q2⟩
    split at h
    ·rename_i tm1 σ1 h1
     exact ih hx hst0 h1 (fun a' w' hs=>ihk hs h)
    ·rename_i hne
     refine ih hx hst0 h ?_
     cases e with
     | normal=>exact absurd h (hne _ _)
     | exit id=>exact hQ
     | ret=>exact hQ
     | panic x=>exact hQ
  exact key n hst h
 | exit id =>
  intro ac hc I β tm tm' σ σ' a w e hst h Q hQ
  simp only [ZaK] at hc;subst hc
  simp only [Z0,Option.some.injEq,Prod.mk.injEq] at h
  obtain ⟨rfl,rfl,rfl⟩:=h
  exact wp_exit (hQ a w hst)
 | ret =>
  intro ac hc I β tm tm' σ σ' a w e hst h Q hQ
  simp only [ZaK] at hc;subst hc
  simp only [Z0,Option.some.injEq,Prod.mk.injEq] at h
  obtain ⟨rfl,rfl,rfl⟩:=h
  exact wp_ret (hQ a w hst)
 | rangeFunc f ps x y=>intro ac hc I β tm tm' σ σ' a w e hst h;simp only [ZaK] at hc;subst hc;simp only [Z0] at h;cases h
 | scope x ih =>
  intro ac hc I β tm tm' σ σ' a w e hst h Q hQ
  simp only [ZaK] at hc
  refine wp_scope_straight (ih hc hst h ?_)
  cases e with
  | normal=>exact hQ
  | exit id=>exact hQ
  | ret=>exact hQ
  | panic x=>exact hQ
 | label l =>
  intro ac hc I β tm tm' σ σ' a w e hst h Q hQ
  simp only [ZaK] at hc;subst hc
  simp only [Z0,Option.some.injEq,Prod.mk.injEq] at h
  obtain ⟨rfl,rfl,rfl⟩:=h
  exact wp_label (hQ a w hst)
 | goto l=>intro ac hc I β tm tm' σ σ' a w e hst h;simp only [ZaK] at hc;subst hc;simp only [Z0] at h;cases h
 | refuse why=>intro ac hc I β tm tm' σ σ' a w e hst h;simp only [ZaK] at hc;subst hc;simp only [Z0] at h;cases h
theorem ZJ8 {I:Imm} {β:Bmap} {σ σ':Za} {k:Option Nat} {a x:AVal} {c:Cls} {v:Value} (ha:VR I β a v) (h:ldA σ k a=some (x,σ',c)):∃ ad,v=.pointer (some ad):=by
 unfold ldA at h
 split at h
 ·simp only [VR] at ha;obtain ⟨b,k,c,_,rfl⟩:=ha;exact ⟨_,rfl⟩
 ·simp only [VR] at ha;obtain ⟨b,k,c,_,rfl⟩:=ha;exact ⟨_,rfl⟩
 ·simp only [VR] at ha;obtain ⟨b,off,rfl,_⟩:=ha;exact ⟨_,rfl⟩
 ·cases h
def Zh3 (tmps:Array Value):ResultVar->Sem Value
 | .tmp t=>pure (tmps.getD t undef)
 | .cell a t=>do loadVar t (<-asAddr (tmps.getD a undef))
theorem ZnP {I:Imm} {β:Bmap} {tm:Tms} {σ:Za} {w:World} {tmps:Array Value} (T:TR I β tm tmps) (R:Rel base w0 I0 I β σ w):∀ {rs:List ResultVar} {asl:List Zco} {xs:List AVal},Zew P rs=some asl->resAll tm σ asl=some xs ->
  ∃ vs:List Value,(rs.mapM (Zh3 tmps)).run P w=.ok vs w/\VRs I β xs vs
 | [],asl,xs,hc,h=>by
  simp only [Zew,Option.some.injEq] at hc;subst hc
  simp only [resAll,Option.some.injEq] at h;subst h
  exact ⟨[],by simp,by simp only [VRs]⟩
 | r::rs,asl,xs,hc,h=>by
  have getD_eq:∀ t,VR I β (tget tm t) (tmps.getD t undef):=T
  cases r with
  | tmp t =>
   simp only [Zew,Option.map_eq_some_iff] at hc
   obtain ⟨as',has,rfl⟩:=hc
   simp only [resAll,resOne] at h
   split at h
   ·rename_i ys hys
    injection h with h;subst h
    obtain ⟨vs,h1,h2⟩:=ZnP T R has hys
    exact ⟨tmps.getD t undef::vs,by simp only [List.mapM_cons,Zh3,Sem.run_bind,Sem.run_pure,Result.andThen_ok,h1],by simp only [VRs];exact ⟨_,_,rfl,getD_eq t,h2⟩⟩
   ·cases h
  | cell a t =>
   simp only [Zew] at hc
   split at hc
   ·rename_i k as' hk has
    injection hc with hc;subst hc
    simp only [resAll,resOne] at h
    split at h
    ·rename_i v hv
     split at h
     ·rename_i ys hys
      injection h with h;subst h
      obtain ⟨vs,h1,h2⟩:=ZnP T R has hys
      split at hv
      ·rename_i v' σ1 c1 hld
       injection hv with hv;subst hv
       obtain ⟨u,hu1,hu2,_⟩:=Zrb hk R (getD_eq a) hld
       obtain ⟨ad,had⟩:=ZJ8 (getD_eq a) hld
       have hlv:(loadVar t ad).run P w=.ok u w:=by
        rw [had] at hu1
        simpa [Instr.loadAt,Instr.sureAddr] using hu1
       refine ⟨u::vs,?_,by simp only [VRs];exact ⟨_,_,rfl,hu2,h2⟩⟩
       simp only [List.mapM_cons,Zh3,had,asAddr,Sem.run_bind,Sem.run_pure,Result.andThen_ok,hlv,h1]
      ·cases hv
     ·cases h
    ·cases h
   ·cases hc
theorem Zuj {I:Imm} {β:Bmap} {tm:Tms} {σ:Za} {w:World} {tmps:Array Value} (T:TR I β tm tmps) (R:Rel base w0 I0 I β σ w) {fn:Func} {asl:List Zco} {x:AVal} (hc:Zew P fn.results.toList=some asl) (h:resA tm σ asl=some x):∃ v,(results fn tmps).run P w=.ok v w/\VR I β x v:=by
 unfold resA at h
 have run:∀ {xs:List AVal},resAll tm σ asl=some xs->∃ vs:List Value,(results fn tmps).run P w=.ok (if h:vs.toArray.size=1 then vs.toArray[0] else .tuple vs.toArray) w/\VRs I β xs vs:=by
  intro xs hx
  obtain ⟨vs,h1,h2⟩:=ZnP T R hc hx
  refine ⟨vs,?_,h2⟩
  have hm:(fn.results.mapM (Zh3 tmps)).run P w=.ok vs.toArray w:=by
   rw [Array.mapM_eq_mapM_toList,Sem.run_map,h1];rfl
  have he:results fn tmps=(do let vs <-fn.results.mapM (Zh3 tmps);pure (if h:vs.size=1 then vs[0] else .tuple vs)):=by
   unfold results
   congr 1
  rw [he,Sem.run_bind,hm]
  rfl
 split at h
 ·rename_i v hv
  injection h with h;subst h
  obtain ⟨vs,h1,h2⟩:=run hv
  simp only [VRs] at h2
  obtain ⟨u,us,rfl,h3,rfl⟩:=h2
  exact ⟨u,by rw [h1];simp,h3⟩
 ·rename_i vs' hv hne
  injection h with h;subst h
  obtain ⟨vs,h1,h2⟩:=run hne
  have hl:=ZaO h2
  refine ⟨.tuple vs.toArray,?_,by simp only [VR];exact ⟨_,rfl,by simpa using h2⟩⟩
  rw [h1,dif_neg]
  intro hs
  simp only [List.size_toArray] at hs
  match vs',hl with
  | [v],_=>exact hv v rfl
  | [],hl=>simp at hl;omega
  | _::_::_,hl=>simp at hl;omega
 ·cases h
theorem Zqr:∀ (args:List AVal) (i:Nat) (acc:Tms) (n:Nat),tget (enterA i args acc) n=if i<=n/\n < i+args.length then args.getD (n - i) .top else tget acc n
 | [],i,acc,n=>by simp only [enterA,List.length_nil];rw [if_neg (by omega)]
 | x::xs,i,acc,n=>by
  simp only [enterA,List.length_cons]
  rw [Zqr xs (i+1) _ n]
  by_cases h:i+1<=n/\n < i+1+xs.length
  ·rw [if_pos h,if_pos (by omega),show n - i=(n - (i+1))+1 by omega,List.getD_cons_succ]
  ·rw [if_neg h]
   simp only [tget]
   by_cases h1:i=n
   ·subst h1
    rw [if_pos rfl,if_pos (by omega),Nat.sub_self,List.getD_cons_zero]
   ·rw [if_neg h1,if_neg (by omega)]
theorem ZoC {I:Imm} {β:Bmap} {args:List AVal} {vs:Array Value} (h:VRs I β args vs.toList) (n:Nat):TR I β (enterA 0 args []) (vs++Array.replicate n undef):=by
 intro j
 rw [Zqr]
 have hl:=ZaO h
 simp only [Array.length_toList] at hl
 split
 ·rename_i hj
  have hjl:j < args.length:=by omega
  obtain ⟨v,h1,h2⟩:=Zcc h (List.getElem?_eq_getElem hjl)
  have e1:args.getD (j - 0) .top=args[j]:=by simp [List.getD_eq_getElem?_getD,hjl]
  have e2:(vs++Array.replicate n undef).getD j undef=v:=by
   rw [Array.getD_eq_getD_getElem?,Array.getElem?_append_left (by omega)]
   have : vs[j]?=some v:=by simpa using h1
   rw [this];rfl
  rw [e1,e2];exact h2
 ·simp only [tget,VR]
def Zkf (P:Program) (prim:Zcb):Prop:=∀ f g,prim f=some g->∀ args σ r σ',g args σ=some (r,σ') ->
 (∃ fn,P.funcs[f]?=some fn/\fn.body.isSome=true/\(fn.name == "runtime.NumGoroutine")=false) /\
 ∀ base w0 I0 I β w (vs:Array Value),KLt base w0->Rel base w0 I0 I β σ w->VRs I β args vs.toList ->
  Calls P f vs w (fun e w'=>∃ u,Ends r e u/\ZbR σ.length base w0 I0 I β r σ' u w')
theorem ZoD (hm:P.follows .mixedOrders=true) {prim:Zcb} (hP:Zkf P prim) (ann:Nat->Ann) (bf:Nat->Bool):∀ n,Zaw P (Zaq (ZiH P ann) prim bf n)
 | 0=>by intro f args σ r σ' h;simp only [Zaq] at h;cases h
 | n+1=>by
  have ih:=ZoD hm hP ann bf n
  intro f args σ r σ' h
  simp only [Zaq] at h
  split at h
  ·rename_i g hg
   exact hP f g hg args σ r σ' h
  split at h
  ·cases h
  rename_i fn hfn
  unfold ZiH at hfn
  split at hfn
  ·rename_i F hF
   split at hfn
   ·rename_i body hbody
    split at hfn
    ·cases hfn
    ·rename_i hname
     split at hfn
     ·rename_i rs hrs
      injection hfn with hfn;subst hfn
      refine ⟨⟨F,hF,by rw [hbody];rfl,by simpa using hname⟩,?_⟩
      intro base w0 I0 I β w vs hb R hargs
      refine calls_of_wp hF hbody ?_
      have T:=ZoC hargs (F.ntmps - vs.size)
      have hst:StF ZbG σ.length F.ntmps base w0 I0 I β (enterA 0 args []) σ { tmps:=vs++Array.replicate (F.ntmps - vs.size) undef,defers:=[] } w:=⟨I,β,Imm.le.refl I,KeptE.refl _ β,T,⟨ZeQ.2 rfl,by simp;omega⟩,R⟩
      cases hx:Z0 (Zaq (ZiH P ann) prim bf n) bf σ.length n (ZaK P { ann f with nt:=F.ntmps } body) (enterA 0 args []) σ with
      | none=>rw [hx] at h;simp only [Zar] at h;cases h
      | some q =>
       obtain ⟨e,tm',σ1⟩:=q
       rw [hx] at h
       have fin:(match resA tm' σ1 rs with | some r=>Zak σ.length σ1 r | none=>none)=some (r,σ')->∀ a' w',StF ZbG σ.length F.ntmps base w0 I0 I β tm' σ1 a' w'->a'.defers=[]/\∃ v,(results F a'.tmps).run P w'=.ok v w'/\∃ u,Ends r (.returned v) u/\ZbR σ.length base w0 I0 I β r σ' u w':=by
        intro hr a' w' ⟨I1,β1,g1,g2,g3,g4,g5⟩
        split at hr
        ·rename_i x hx1
         obtain ⟨v,h1,h2⟩:=Zuj g3 g5 hrs hx1
         have hnp:∀ y,x≠.pan y:=by rintro y rfl;simp only [VR] at h2
         obtain ⟨q1,q2⟩:=ZjO (⟨I1,β1,g1,g2,g5,by rw [ZfH hnp];exact h2⟩:ZbR σ.length base w0 I0 I β x σ1 v w') hr
         refine ⟨ZeQ.1 g4.1,v,h1,v,q2 _ ?_,q1⟩
         cases x <;> first | rfl | exact absurd rfl (hnp _)
        ·cases hr
       refine ZhU (dr:=ZbG) (an:={ ann f with nt:=F.ntmps }) ih (fun n hn=>by simp [ZbG] at hn) hm hb σ.length n rfl hst hx ?_
       cases e with
       | normal=>simp only [Zar] at h;exact fun a' w' hs=>fin h a' w' hs
       | ret=>simp only [Zar] at h;exact fun a' w' hs=>fin h a' w' hs
       | exit id=>simp only [Zar] at h;cases h
       | panic x =>
        simp only [Zar] at h
        intro a' u w' hd hp
        obtain ⟨q1,q2⟩:=ZjO hp h
        exact ⟨ZeQ.1 hd,u,q2 _ rfl,q1⟩
     ·cases hfn
   ·cases hfn
  ·cases hfn
end
end
section
open Go.RowKit
def OLe (O O':ZL):Prop:=∀ f a σ r,O f a σ=some r->O' f a σ=some r
section
variable {O O':ZL} {bf:Nat->Bool}
theorem ZIj {view:Bool} {m:Nat} {x y:Option (AVal×Za)} (h:∀ r,x=some r->y=some r) {r:AVal×Za} (hr:Z6 view m x=some r):Z6 view m y=some r:=by
 cases x with
 | none=>cases view <;> simp [Z6,Zbr] at hr
 | some q=>rw [h q rfl];exact hr
theorem ZCF {σ σf:Za} {ids ts:List Nat} {sq own:Nat} {x y:Option (AVal×Za)} (h:∀ r,x=some r->y=some r) {r:AVal×Za×Cls} (hr:Zay σ σf ids ts sq own x=some r):Zay σ σf ids ts sq own y=some r:=by
 cases x with
 | none=>simp only [Zay] at hr;cases hr
 | some q=>rw [h q rfl];exact hr
theorem Znt (hO:OLe O O') {σ:Za} {sq f own:Nat} {view:Bool} {args:List AVal} {r:AVal×Za×Cls} (h:Zj O bf σ sq f own view args=some r):Zj O' bf σ sq f own view args=some r:=by
 unfold Zj Zbt at h ⊢
 split at h
 ·cases h
 ·rename_i vs ts hv
  split at h
  ·rename_i hc
   simp only [hc,if_true]
   exact ZCF (fun q hq=>ZIj (fun q hq=>hO _ _ _ _ hq) hq) h
  ·cases h
theorem ZAk (hO:OLe O O') {tm:Tms} {σ:Za} {sq:Nat} {ins:Ins} {r:AVal×Za×Cls} (h:execI O bf tm σ sq ins=some r):execI O' bf tm σ sq ins=some r:=by
 cases ins
 case call f own view args =>
  simp only [execI] at h ⊢
  exact Znt hO h
 case callv x args =>
  simp only [execI] at h ⊢
  split at h
  ·exact Znt hO h
  ·cases h
 all_goals exact h
theorem ZpG (hO:OLe O O') {o:AOp} {tm:Tms} {σ:Za} {sq:Nat} {r:AVal×Tms×Za×Cls} (h:ZJ O bf o sq tm σ=some r):ZJ O' bf o sq tm σ=some r:=by
 unfold ZJ at h ⊢
 split at h
 ·cases h
 ·exact h
 ·split at h
  ·rename_i hf
   rw [if_pos hf]
   split at h
   ·rename_i he;rw [ZAk hO he];exact h
   ·cases h
  ·cases h
theorem Znh (hO:OLe O O'):∀ {ops:List AOp} {s:Nat} {tm:Tms} {σ:Za} {r:Tms×Za×List Cls×Option AVal},ZT O bf ops s tm σ=some r->ZT O' bf ops s tm σ=some r
 | [],_,_,_,_,h=>h
 | o::ops,s,tm,σ,r,h=>by
  simp only [ZT] at h ⊢
  split at h
  ·cases h
  ·rename_i h1
   rw [ZpG hO h1]
   exact h
  ·rename_i v tm1 σ1 c hnp h1
   rw [ZpG hO h1]
   simp only
   split at h
   ·cases h
   rename_i h2
   rw [Znh hO h2]
   exact h
theorem ZqA (hO:OLe O O') {ops:List AOp} {chk:Option (List (Nat×Nat))} {live:List Nat} {tm:Tms} {σ:Za} {r:ZaL×Tms×Za} (h:ZbT O bf ops chk live tm σ=some r):ZbT O' bf ops chk live tm σ=some r:=by
 unfold ZbT at h ⊢
 cases hx:ZT O bf ops σ.length tm (σ++List.replicate (sitesOf ops) .free) with
 | none=>rw [hx] at h;simp only [Zcv] at h;cases h
 | some q=>rw [Znh hO hx];rw [hx] at h;exact h
theorem ZjS {m0:Nat} {live:List Nat} {f f':Tms->Za->Option (ZaL×Tms×Za)} (hf:∀ tm σ r,f tm σ=some r->f' tm σ=some r):∀ {n n':Nat} {tm:Tms} {σ:Za} {r:ZaL×Tms×Za},n<=n'->Zda m0 live f n tm σ=some r->Zda m0 live f' n' tm σ=some r
 | 0,_,_,_,_,_,h=>by simp only [Zda] at h;cases h
 | n+1,0,_,_,_,hn,_=>by omega
 | n+1,n'+1,tm,σ,r,hn,h=>by
  simp only [Zda] at h ⊢
  split at h
  ·rename_i h1
   rw [hf _ _ _ h1]
   exact ZjS hf (by omega) h
  ·rename_i hne
   rw [hf _ _ _ h]
   split
   ·rename_i e;injection e with e;subst e;exact absurd h (hne _ _)
   ·rfl
theorem Zds (hO:OLe O O') {m0:Nat}:∀ {c:Zf} {n n':Nat} {tm:Tms} {σ:Za} {r:ZaL×Tms×Za},n<=n'->Z0 O bf m0 n c tm σ=some r->Z0 O' bf m0 n' c tm σ=some r:=by
 intro c
 induction c with
 | skip=>intro n n' tm σ r _ h;exact h
 | exit id=>intro n n' tm σ r _ h;exact h
 | ret=>intro n n' tm σ r _ h;exact h
 | stuck=>intro n n' tm σ r _ h;exact h
 | region ops chk live =>
  intro n n' tm σ r _ h
  simp only [Z0] at h ⊢
  exact ZqA hO h
 | seq a b iha ihb =>
  intro n n' tm σ r hn h
  simp only [Z0] at h ⊢
  split at h
  ·rename_i h1;rw [iha hn h1];exact ihb hn h
  ·rename_i hne
   rw [iha hn h]
   split
   ·rename_i e;injection e with e;subst e;exact absurd h (hne _ _)
   ·rfl
 | cond c a b iha ihb =>
  intro n n' tm σ r hn h
  simp only [Z0] at h ⊢
  split at h
  ·exact iha hn h
  ·exact ihb hn h
  ·cases h
 | block id c ih =>
  intro n n' tm σ r hn h
  simp only [Z0] at h ⊢
  split at h
  ·rename_i h1;rw [ih hn h1];exact h
  ·rename_i hne
   rw [ih hn h]
   split
   ·rename_i e;injection e with e;subst e;exact absurd h (hne _ _ _)
   ·rfl
 | loop live c ih =>
  intro n n' tm σ r hn h
  simp only [Z0] at h ⊢
  exact ZjS (fun tm σ r h=>ih hn h) hn h
theorem Zlt {m0:Nat} {fn:ZE} {x y:Option (ZaL×Tms×Za)} (h:∀ r,x=some r->y=some r) {r:AVal×Za} (hr:Zar m0 fn x=some r):Zar m0 fn y=some r:=by
 cases x with
 | none=>simp only [Zar] at hr;cases hr
 | some q=>rw [h q rfl];exact hr
theorem Ztx (fs:Nat->Option ZE) (prim:Zcb):∀ n,OLe (Zaq fs prim bf n) (Zaq fs prim bf (n+1))
 | 0=>by intro f a σ r h;simp only [Zaq] at h;cases h
 | n+1=>by
  intro f a σ r h
  rw [Zaq] at h ⊢
  split at h
  ·rename_i g hg;exact h
  ·rename_i hg
   split at h
   ·cases h
   ·rename_i fn hfn
    exact Zlt (fun q hq=>Zds (Ztx fs prim n) (by omega) hq) h
theorem Zik (fs : Nat -> Option ZE) (prim : Zcb) {n m : Nat} (h : n <= m) : OLe (Zaq fs prim bf n) (Zaq fs prim bf m) := by
  induction m with
  | zero => obtain rfl : n = 0 := by omega
            exact fun _ _ _ _ h => h
  | succ m ih =>
    by_cases e : n = m + 1
    . subst e; exact fun _ _ _ _ h => h
    . exact fun f a σ r hr => Ztx fs prim m f a σ r (ih (by omega) f a σ r hr)
end
section
variable (fs:Nat->Option ZE) (prim:Zcb) (bf:Nat->Bool)
open Classical in
noncomputable def EV:ZL:=fun f args σ=>if h:∃ r,∃ n,Zaq fs prim bf n f args σ=some r then some h.choose else none
open Classical in
noncomputable def evC (m:Nat) (c:Zf) (tm:Tms) (σ:Za):Option (ZaL×Tms×Za):=if h:∃ r,∃ n,Z0 (Zaq fs prim bf n) bf m n c tm σ=some r then some h.choose else none
variable {fs prim bf} {m0:Nat}
theorem Zc8 {f:Nat} {args:List AVal} {σ:Za} {r:AVal×Za}:EV fs prim bf f args σ=some r↔∃ n,Zaq fs prim bf n f args σ=some r:=by
 unfold EV
 constructor
 ·intro h
  split at h
  ·rename_i hx
   injection h with h
   rw [<-h]
   exact hx.choose_spec
  ·cases h
 ·rintro ⟨n,hn⟩
  have hx:∃ r,∃ n,Zaq fs prim bf n f args σ=some r:=⟨r,n,hn⟩
  rw [dif_pos hx]
  obtain ⟨m,hm⟩:=hx.choose_spec
  have h1:=Zik (bf:=bf) fs prim (Nat.le_max_left n m) _ _ _ _ hn
  have h2:=Zik (bf:=bf) fs prim (Nat.le_max_right n m) _ _ _ _ hm
  rw [h1] at h2
  injection h2 with h2
  rw [<-h2]
theorem Zbd {c:Zf} {tm:Tms} {σ:Za} {r:ZaL×Tms×Za}:evC fs prim bf m0 c tm σ=some r↔∃ n,Z0 (Zaq fs prim bf n) bf m0 n c tm σ=some r:=by
 unfold evC
 constructor
 ·intro h
  split at h
  ·rename_i hx
   injection h with h
   rw [<-h]
   exact hx.choose_spec
  ·cases h
 ·rintro ⟨n,hn⟩
  have hx:∃ r,∃ n,Z0 (Zaq fs prim bf n) bf m0 n c tm σ=some r:=⟨r,n,hn⟩
  rw [dif_pos hx]
  obtain ⟨m,hm⟩:=hx.choose_spec
  have h1:=Zds (Zik (bf:=bf) fs prim (Nat.le_max_left n m)) (Nat.le_max_left n m) hn
  have h2:=Zds (Zik (bf:=bf) fs prim (Nat.le_max_right n m)) (Nat.le_max_right n m) hm
  rw [h1] at h2
  injection h2 with h2
  rw [<-h2]
theorem ZeV {α:Type} {x y:Option α} (h:∀ r,x=some r↔y=some r):x=y:=by
 cases x with
 | none =>
  cases y with
  | none=>rfl
  | some q=>exact absurd ((h q).2 rfl) (by simp)
 | some q=>exact ((h q).1 rfl).symm
theorem ZzI (n:Nat):OLe (Zaq fs prim bf n) (EV fs prim bf):=fun _ _ _ _ h=>Zc8.2 ⟨n,h⟩
theorem up {n m:Nat} (h:n<=m):OLe (Zaq fs prim bf n) (Zaq fs prim bf m):=Zik fs prim h
theorem Zsp {f:Nat} {g:List AVal->Za->Option (AVal×Za)} (hp:prim f=some g) (args:List AVal) (σ:Za):EV fs prim bf f args σ=g args σ:=by
 apply ZeV
 intro r
 rw [Zc8]
 constructor
 ·rintro ⟨n,h⟩
  cases n with
  | zero=>simp only [Zaq] at h;cases h
  | succ n=>rw [Zaq,hp] at h;exact h
 ·intro h
  exact ⟨1,by rw [Zaq,hp];exact h⟩
theorem ZuF {f:Nat} {fn:ZE} (hp:prim f=none) (hf:fs f=some fn) (args:List AVal) (σ:Za):EV fs prim bf f args σ=Zar σ.length fn (evC fs prim bf σ.length fn.body (enterA 0 args []) σ):=by
 apply ZeV
 intro r
 rw [Zc8]
 constructor
 ·rintro ⟨n,h⟩
  cases n with
  | zero=>simp only [Zaq] at h;cases h
  | succ n =>
   rw [Zaq,hp,hf] at h
   exact Zlt (fun q hq=>Zbd.2 ⟨n,hq⟩) h
 ·intro h
  cases hx:evC fs prim bf σ.length fn.body (enterA 0 args []) σ with
  | none=>rw [hx] at h;simp only [Zar] at h;cases h
  | some q =>
   obtain ⟨n,hn⟩:=Zbd.1 hx
   refine ⟨n+1,?_⟩
   rw [Zaq,hp,hf]
   rw [hx] at h
   exact Zlt (x:=some q) (fun q' hq'=>by injection hq' with hq';subst hq';exact hn) h
theorem ZtX {σ:Za} {sq f own:Nat} {view:Bool} {args:List AVal} {r:AVal×Za×Cls} (h:Zj (EV fs prim bf) bf σ sq f own view args=some r):∃ n,Zj (Zaq fs prim bf n) bf σ sq f own view args=some r:=by
 unfold Zj Zbt at h ⊢
 split at h
 ·cases h
 ·rename_i vs ts hv
  split at h
  ·rename_i hc
   simp only [hc,if_true]
   cases hx:EV fs prim bf f (Ze (Zl (Zo σ ts) 0 (ZA (Zo σ ts) 1000 (Zp vs) [])) vs) (Zv (Zo σ ts) 0 (ZA (Zo σ ts) 1000 (Zp vs) []) (Zl (Zo σ ts) 0 (ZA (Zo σ ts) 1000 (Zp vs) [])) (ZA (Zo σ ts) 1000 (Zp vs) []) 0) with
   | none =>
    rw [hx] at h
    cases view <;> simp [Z6,Zbr,Zay] at h
   | some q =>
    obtain ⟨n,hn⟩:=Zc8.1 hx
    exact ⟨n,by rw [hn];rw [hx] at h;exact h⟩
  ·cases h
theorem Zw2 {tm:Tms} {σ:Za} {sq:Nat} {ins:Ins} {r:AVal×Za×Cls} (h:execI (EV fs prim bf) bf tm σ sq ins=some r):∃ n,execI (Zaq fs prim bf n) bf tm σ sq ins=some r:=by
 cases ins
 case call f own view args =>
  simp only [execI] at h ⊢
  exact ZtX h
 case callv x args =>
  simp only [execI] at h ⊢
  split at h
  ·exact ZtX h
  ·cases h
 all_goals exact ⟨0,h⟩
theorem ZrQ {o:AOp} {tm:Tms} {σ:Za} {sq:Nat} {r:AVal×Tms×Za×Cls} (h:ZJ (EV fs prim bf) bf o sq tm σ=some r):∃ n,ZJ (Zaq fs prim bf n) bf o sq tm σ=some r:=by
 unfold ZJ at h ⊢
 split at h
 ·cases h
 ·exact ⟨0,h⟩
 ·split at h
  ·rename_i hf
   simp only [hf,if_true]
   split at h
   ·rename_i he
    obtain ⟨n,hn⟩:=Zw2 he
    exact ⟨n,by rw [hn];exact h⟩
   ·cases h
  ·cases h
theorem Zs1:∀ {ops:List AOp} {s:Nat} {tm:Tms} {σ:Za} {r:Tms×Za×List Cls×Option AVal},ZT (EV fs prim bf) bf ops s tm σ=some r->∃ n,ZT (Zaq fs prim bf n) bf ops s tm σ=some r
 | [],_,_,_,_,h=>⟨0,h⟩
 | o::ops,s,tm,σ,r,h=>by
  simp only [ZT] at h ⊢
  split at h
  ·cases h
  ·rename_i h1
   obtain ⟨n,hn⟩:=ZrQ h1
   exact ⟨n,by rw [hn];exact h⟩
  rename_i v tm1 σ1 c hnp h1
  split at h
  ·cases h
  rename_i h2
  obtain ⟨n,hn⟩:=ZrQ h1
  obtain ⟨m,hm⟩:=Zs1 h2
  refine ⟨max n m,?_⟩
  rw [ZpG (up (Nat.le_max_left n m)) hn]
  simp only
  rw [Znh (up (Nat.le_max_right n m)) hm]
  exact h
theorem ZK9 {ops:List AOp} {chk:Option (List (Nat×Nat))} {live:List Nat} {tm:Tms} {σ:Za} {r:ZaL×Tms×Za} (h:ZbT (EV fs prim bf) bf ops chk live tm σ=some r):∃ n,ZbT (Zaq fs prim bf n) bf ops chk live tm σ=some r:=by
 unfold ZbT at h ⊢
 cases hx:ZT (EV fs prim bf) bf ops σ.length tm (σ++List.replicate (sitesOf ops) .free) with
 | none=>rw [hx] at h;simp only [Zcv] at h;cases h
 | some q =>
  obtain ⟨n,hn⟩:=Zs1 hx
  exact ⟨n,by rw [hn];rw [hx] at h;exact h⟩
theorem ZAm (tm:Tms) (σ:Za):evC fs prim bf m0 .skip tm σ=some (.normal,tm,σ):=Zbd.2 ⟨0,rfl⟩
theorem Zxm (id:Nat) (tm:Tms) (σ:Za):evC fs prim bf m0 (.exit id) tm σ=some (.exit id,tm,σ):=Zbd.2 ⟨0,rfl⟩
theorem ZDZ (tm:Tms) (σ:Za):evC fs prim bf m0 .ret tm σ=some (.ret,tm,σ):=Zbd.2 ⟨0,rfl⟩
theorem ZG7 {ops:List AOp} {chk:Option (List (Nat×Nat))} {live:List Nat} {tm:Tms} {σ:Za}:evC fs prim bf m0 (.region ops chk live) tm σ=ZbT (EV fs prim bf) bf ops chk live tm σ:=by
 apply ZeV
 intro r
 rw [Zbd]
 constructor
 ·rintro ⟨n,hn⟩
  simp only [Z0] at hn
  exact ZqA (ZzI n) hn
 ·intro h
  obtain ⟨n,hn⟩:=ZK9 h
  exact ⟨n,by simp only [Z0];exact hn⟩
theorem ZiG {a b:Zf} {tm tm':Tms} {σ σ':Za} (h:evC fs prim bf m0 a tm σ=some (.normal,tm',σ')):evC fs prim bf m0 (.seq a b) tm σ=evC fs prim bf m0 b tm' σ':=by
 obtain ⟨n,hn⟩:=Zbd.1 h
 apply ZeV
 intro r
 rw [Zbd,Zbd]
 constructor
 ·rintro ⟨m,hm⟩
  have h1:=Zds (up (Nat.le_max_left n m)) (Nat.le_max_left n m) hn
  have h2:=Zds (up (Nat.le_max_right n m)) (Nat.le_max_right n m) hm
  simp only [Z0,h1] at h2
  exact ⟨_,h2⟩
 ·rintro ⟨m,hm⟩
  have h1:=Zds (up (Nat.le_max_left n m)) (Nat.le_max_left n m) hn
  have h2:=Zds (up (Nat.le_max_right n m)) (Nat.le_max_right n m) hm
  exact ⟨max n m,by simp only [Z0,h1];exact h2⟩
theorem ZhZ {a b:Zf} {tm tm':Tms} {σ σ':Za} {e:ZaL} (he:e≠.normal) (h:evC fs prim bf m0 a tm σ=some (e,tm',σ')):evC fs prim bf m0 (.seq a b) tm σ=some (e,tm',σ'):=by
 obtain ⟨n,hn⟩:=Zbd.1 h
 refine Zbd.2 ⟨n,?_⟩
 simp only [Z0,hn]
 cases e with
 | normal=>exact absurd rfl he
 | exit id=>rfl
 | ret=>rfl
 | panic x=>rfl
def ZaT (id:Nat):ZaL×Tms×Za->ZaL×Tms×Za
 | (.exit i,tm,σ)=>if i=id then (.normal,tm,σ) else (.exit i,tm,σ)
 | r=>r
theorem ZMv {id:Nat} {c:Zf} {tm:Tms} {σ:Za}:evC fs prim bf m0 (.block id c) tm σ=(evC fs prim bf m0 c tm σ).map (ZaT id):=by
 have step:∀ n,Z0 (Zaq fs prim bf n) bf m0 n (.block id c) tm σ=(Z0 (Zaq fs prim bf n) bf m0 n c tm σ).map (ZaT id):=by
  intro n
  simp only [Z0]
  cases Z0 (Zaq fs prim bf n) bf m0 n c tm σ with
  | none=>rfl
  | some q =>
   obtain ⟨e,tm1,σ1⟩:=q
   cases e with
   | normal=>rfl
   | ret=>rfl
   | panic x=>rfl
   | exit i=>simp only [Option.map_some,ZaT];split <;> rfl
 apply ZeV;intro r
 rw [Zbd]
 simp only [step,Option.map_eq_some_iff]
 constructor
 ·rintro ⟨n,q,h1,h2⟩;exact ⟨q,Zbd.2 ⟨n,h1⟩,h2⟩
 ·rintro ⟨q,h1,h2⟩;obtain ⟨n,hn⟩:=Zbd.1 h1;exact ⟨n,q,hn,h2⟩
theorem ZFF {c:Zf} {tm:Tms} {σ:Za} (h:evC fs prim bf m0 c tm σ=none) (n:Nat):Z0 (Zaq fs prim bf n) bf m0 n c tm σ=none:=by
 cases hx:Z0 (Zaq fs prim bf n) bf m0 n c tm σ with
 | none=>rfl
 | some r=>rw [Zbd.2 ⟨n,hx⟩] at h;cases h
variable (fs prim bf m0) in
noncomputable def ZbF (b:Zf):Option (ZaL×Tms×Za)->Option (ZaL×Tms×Za)
 | some (.normal,tm,σ)=>evC fs prim bf m0 b tm σ
 | r=>r
theorem Zyf {a b:Zf} {tm:Tms} {σ:Za}:evC fs prim bf m0 (.seq a b) tm σ=ZbF fs prim bf m0 b (evC fs prim bf m0 a tm σ):=by
 cases h:evC fs prim bf m0 a tm σ with
 | none =>
  simp only [ZbF]
  apply ZeV;intro r
  rw [Zbd]
  constructor
  ·rintro ⟨n,hn⟩
   simp only [Z0,ZFF h n] at hn
   cases hn
  ·intro h;cases h
 | some q =>
  obtain ⟨e,tm',σ'⟩:=q
  cases e with
  | normal=>exact ZiG h
  | exit id=>exact ZhZ (by simp) h
  | ret=>exact ZhZ (by simp) h
  | panic x=>exact ZhZ (by simp) h
variable (fs prim bf m0) in
noncomputable def Zib (a b:Zf) (tm:Tms) (σ:Za):AVal->Option (ZaL×Tms×Za)
 | .bool true=>evC fs prim bf m0 a tm σ
 | .bool false=>evC fs prim bf m0 b tm σ
 | _=>none
theorem Zyn {c:Opd} {a b:Zf} {tm:Tms} {σ:Za}:evC fs prim bf m0 (.cond c a b) tm σ=Zib fs prim bf m0 a b tm σ (c.ev tm):=by
 apply ZeV;intro r
 rw [Zbd]
 simp only [Z0]
 constructor
 ·rintro ⟨n,hn⟩
  split at hn
  ·rename_i e;rw [e];simp only [Zib];exact Zbd.2 ⟨n,hn⟩
  ·rename_i e;rw [e];simp only [Zib];exact Zbd.2 ⟨n,hn⟩
  ·cases hn
 ·intro h
  unfold Zib at h
  split at h
  ·rename_i e;obtain ⟨n,hn⟩:=Zbd.1 h;exact ⟨n,by rw [e];exact hn⟩
  ·rename_i e;obtain ⟨n,hn⟩:=Zbd.1 h;exact ⟨n,by rw [e];exact hn⟩
  ·cases h
variable (fs prim bf m0) in
noncomputable def evL (live:List Nat) (c:Zf) (tm:Tms) (σ:Za):Option (ZaL×Tms×Za) :=
 match evC fs prim bf m0 c tm σ with
 | some (.normal,tm',σ')=>evC fs prim bf m0 (.loop live c) tm' σ'
 | r=>r
theorem Zus {live:List Nat} {c:Zf} {tm:Tms} {σ:Za}:evC fs prim bf m0 (.loop live c) tm σ=evL fs prim bf m0 live c (gcT m0 (keepL live tm) σ).1 (gcT m0 (keepL live tm) σ).2:=by
 apply ZeV;intro r
 rw [Zbd]
 constructor
 ·rintro ⟨n,hn⟩
  simp only [Z0] at hn
  cases n with
  | zero=>simp only [Zda] at hn;cases hn
  | succ k =>
   simp only [Zda] at hn
   unfold evL
   cases hx:Z0 (Zaq fs prim bf (k+1)) bf m0 (k+1) c (gcT m0 (keepL live tm) σ).1 (gcT m0 (keepL live tm) σ).2 with
   | none=>rw [hx] at hn;cases hn
   | some q =>
    rw [Zbd.2 ⟨_,hx⟩]
    rw [hx] at hn
    obtain ⟨e,tm',σ'⟩:=q
    cases e with
    | normal =>
     simp only at hn ⊢
     exact Zbd.2 ⟨k+1,by simp only [Z0];exact ZjS (fun _ _ _ h=>h) (by omega) hn⟩
    | exit id=>exact hn
    | ret=>exact hn
    | panic x=>exact hn
 ·intro h
  unfold evL at h
  cases hx:evC fs prim bf m0 c (gcT m0 (keepL live tm) σ).1 (gcT m0 (keepL live tm) σ).2 with
  | none=>rw [hx] at h;cases h
  | some q =>
   rw [hx] at h
   obtain ⟨n,hn⟩:=Zbd.1 hx
   obtain ⟨e,tm',σ'⟩:=q
   have out:e≠.normal->some (e,tm',σ')=some r->∃ n,Z0 (Zaq fs prim bf n) bf m0 n (.loop live c) tm σ=some r:=by
    intro he h
    refine ⟨n+1,?_⟩
    have h1:=Zds (up (show n<=n+1 by omega)) (show n<=n+1 by omega) hn
    simp only [Z0,Zda,h1]
    cases e with
    | normal=>exact absurd rfl he
    | exit id=>exact h
    | ret=>exact h
    | panic x=>exact h
   cases e with
   | normal =>
    simp only at h
    obtain ⟨m,hm⟩:=Zbd.1 h
    have h1:=Zds (up (show n<=max n m+1 by omega)) (show n<=max n m+1 by omega) hn
    have h2:=Zds (up (show m<=max n m+1 by omega)) (Nat.le_refl m) hm
    simp only [Z0] at h2
    refine ⟨max n m+1,?_⟩
    simp only [Z0,Zda,h1]
    exact ZjS (fun tm σ r h=>Zds (fun _ _ _ _ h=>h) (by omega) h) (by omega) h2
   | exit id=>exact out (by simp) h
   | ret=>exact out (by simp) h
   | panic x=>exact out (by simp) h
theorem ZLe {P:Program} (hm:P.follows .mixedOrders=true) {prim:Zcb} (hP:Zkf P prim) (ann:Nat->Ann) (bf:Nat->Bool):Zaw P (EV (ZiH P ann) prim bf):=by
 intro f args σ r σ' h
 obtain ⟨n,hn⟩:=Zc8.1 h
 exact ZoD hm hP ann bf n f args σ r σ' hn
end
end
section
open Go.RowKit
def Zs5:Tms×Za×List Cls×Option AVal->Tms×Za×Option AVal:=fun q=>(q.1,q.2.1,q.2.2.2)
def ZaH:AVal->Bool
 | .pan _=>true
 | _=>false
section
variable (O:ZL) (bf:Nat->Bool)
def exI (i:Ins) (s:Nat) (tm:Tms) (σ:Za):Option (AVal×Za×Cls) :=
 if nsite i == 0 || freeAt σ s then execI O bf tm σ s i else none
def Zbb (ops:List AOp) (s:Nat) (tm:Tms) (σ:Za):Option (Tms×Za×Option AVal):=(ZT O bf ops s tm σ).map Zs5
def kN (d:Option Nat) (os:List AOp) (s:Nat) (tm:Tms):Option (AVal×Za×Cls)->Option (Tms×Za×Option AVal)
 | none=>none
 | some (v,σ,_)=>if ZaH v then some (tput tm d v,σ,some (ZaN v)) else Zbb O bf os s (tput tm d v) σ
def Zld (live:List Nat):Option (Tms×Za×Option AVal)->Option (ZaL×Tms×Za)
 | none=>none
 | some (_,σ,some x)=>some (.panic x,[],σ)
 | some (tm,σ,none)=>some (.normal,keepL live tm,σ)
variable {O bf}
theorem Zt0 (s:Nat) (tm:Tms) (σ:Za):Zbb O bf [] s tm σ=some (tm,σ,none):=rfl
theorem ZiZ {o:AOp} {os:List AOp} {s:Nat} {tm:Tms} {σ:Za} (h:ZJ O bf o s tm σ=none):ZT O bf (o::os) s tm σ=none:=by simp only [ZT,h]
theorem Zkn {o:AOp} {os:List AOp} {s:Nat} {tm tm1:Tms} {σ σ1:Za} {x:AVal} {c:Cls} (h:ZJ O bf o s tm σ=some (.pan x,tm1,σ1,c)):ZT O bf (o::os) s tm σ=some (tm1,σ1,[c],some x):=by simp only [ZT,h]
theorem Zsg {o:AOp} {os:List AOp} {s:Nat} {tm tm1:Tms} {σ σ1:Za} {v:AVal} {c:Cls} (h:ZJ O bf o s tm σ=some (v,tm1,σ1,c)) (hn:ZaH v=false):ZT O bf (o::os) s tm σ=(ZT O bf os (s+nsite o.ins) tm1 σ1).map fun q=>(q.1,q.2.1,c::q.2.2.1,q.2.2.2):=by
 simp only [ZT,h]
 cases v <;> first
  | (simp [ZaH] at hn;done)
  | (simp only;cases ZT O bf os (s+nsite o.ins) tm1 σ1 <;> rfl)
theorem Zll {o:AOp} {os:List AOp} {s:Nat} {tm:Tms} {σ:Za} (h:ZJ O bf o s tm σ=none):Zbb O bf (o::os) s tm σ=none:=by simp only [Zbb,ZiZ h,Option.map_none]
theorem Zpf {o:AOp} {os:List AOp} {s:Nat} {tm tm1:Tms} {σ σ1:Za} {x:AVal} {c:Cls} (h:ZJ O bf o s tm σ=some (.pan x,tm1,σ1,c)):Zbb O bf (o::os) s tm σ=some (tm1,σ1,some x):=by simp only [Zbb,Zkn h,Option.map_some,Zs5]
theorem ZlP {o:AOp} {os:List AOp} {s:Nat} {tm tm1:Tms} {σ σ1:Za} {v:AVal} {c:Cls} (h:ZJ O bf o s tm σ=some (v,tm1,σ1,c)) (hn:ZaH v=false):Zbb O bf (o::os) s tm σ=Zbb O bf os (s+nsite o.ins) tm1 σ1:=by
 simp only [Zbb,Zsg h hn,Option.map_map]
 rfl
theorem ZkS {v:AVal} (h:ZaH v=true):∃ x,v=.pan x:=by
 cases v <;> first | exact ⟨_,rfl⟩ | (simp [ZaH] at h;done)
theorem ZlQ {d:Option Nat} {i:Ins} {af:List Nat} {s:Nat} {tm:Tms} {σ:Za}:ZJ O bf ⟨d,i,none,af⟩ s tm σ=(exI O bf i s tm σ).map fun q=>(q.1,tput tm d q.1,q.2.1,q.2.2):=by
 unfold ZJ exI
 simp only [Zbf]
 split
 ·cases execI O bf tm σ s i with
  | none=>rfl
  | some q=>rfl
 ·rfl
theorem Zn1 (d:Option Nat) (i:Ins) (af:List Nat) (os:List AOp) (s:Nat) (tm:Tms) (σ:Za):Zbb O bf (⟨d,i,none,af⟩::os) s tm σ=kN O bf d os (s+nsite i) tm (exI O bf i s tm σ):=by
 cases h:exI O bf i s tm σ with
 | none=>exact Zll (by rw [ZlQ,h];rfl)
 | some q =>
  obtain ⟨v,σ1,c⟩:=q
  have hs:ZJ O bf ⟨d,i,none,af⟩ s tm σ=some (v,tput tm d v,σ1,c):=by rw [ZlQ,h];rfl
  cases hp:ZaH v with
  | true =>
   obtain ⟨x,rfl⟩:=ZkS hp
   exact Zpf hs
  | false =>
   rw [ZlP hs hp]
   simp only [kN,hp,Bool.false_eq_true,if_false]
theorem ZD8 (ops:List AOp) (live:List Nat) (tm:Tms) (σ:Za):ZbT O bf ops none live tm σ=Zld live (Zbb O bf ops σ.length tm (σ++List.replicate (sitesOf ops) .free)):=by
 unfold ZbT Zbb
 cases ZT O bf ops σ.length tm (σ++List.replicate (sitesOf ops) .free) with
 | none=>rfl
 | some q =>
  obtain ⟨tm',σ',cs,p⟩:=q
  cases p <;> rfl
theorem Zl7 (d:Option Nat) (os:List AOp) (s:Nat) (tm:Tms) (v:AVal) (σ:Za) (c:Cls) (h:ZaH v=false):kN O bf d os s tm (some (v,σ,c))=Zbb O bf os s (tput tm d v) σ:=by
 simp only [kN,h,Bool.false_eq_true,if_false]
theorem ZAY (d:Option Nat) (os:List AOp) (s:Nat) (tm:Tms) (x:AVal) (σ:Za) (c:Cls):kN O bf d os s tm (some (.pan x,σ,c))=some (tput tm d (.pan x),σ,some x):=rfl
theorem Zw4 (d:Option Nat) (os:List AOp) (s:Nat) (tm:Tms):kN O bf d os s tm none=none:=rfl
structure GOp where
 guard:Option (Nat×Bool)
 ops:List AOp
def Zau:List AOp->Tms->Tms
 | [],tm=>tm
 | o::os,tm=>Zau os (tput tm o.dst (.tup []))
def unG (o:AOp):AOp:={ o with guard:=none }
variable (O bf) in
def Zel (j:Nat) (w:Bool) (g:List AOp) (s:Nat) (tm:Tms) (σ:Za):Option (Tms×Za×Option AVal):=match Zbf (some (j,w)) tm with
 | none=>none
 | some false=>some (Zau g tm,σ,none)
 | some true=>Zbb O bf (g.map unG) s tm σ
variable (O bf) in
def gK (os:List AOp) (s:Nat):Option (Tms×Za×Option AVal)->Option (Tms×Za×Option AVal)
 | none=>none
 | some (tm,σ,some x)=>some (tm,σ,some x)
 | some (tm,σ,none)=>Zbb O bf os s tm σ
def ZH (j:Nat) (w:Bool):List AOp->List AOp×List AOp
 | []=>([],[])
 | o::os=>match o.guard with
  | some (j',w')=>if j'=j/\w'=w/\o.dst≠some j then ((o::(ZH j w os).1),(ZH j w os).2) else ([],o::os)
  | none=>([],o::os)
theorem Zmb (j:Nat) (w:Bool):∀ os,(ZH j w os).1++(ZH j w os).2=os
 | []=>rfl
 | o::os=>by
  simp only [ZH]
  split
  ·split
   ·simp [Zmb j w os]
   ·rfl
  ·rfl
theorem ZpK (j:Nat) (w:Bool):∀ os,∀ o ∈ (ZH j w os).1,o.guard=some (j,w)/\o.dst≠some j
 | []=>by simp [ZH]
 | o::os=>by
  intro o' ho
  simp only [ZH] at ho
  split at ho
  ·rename_i j' w' hg
   split at ho
   ·rename_i hc
    rcases List.mem_cons.1 ho with rfl | ho
    ·exact ⟨by rw [hg,hc.1,hc.2.1],hc.2.2⟩
    ·exact ZpK j w os o' ho
   ·simp at ho
  ·simp at ho
theorem ZIv {d:Option Nat} {v:AVal} {n:Nat} {tm:Tms} (h:d≠some n):tget (tput tm d v) n=tget tm n:=by
 cases d with
 | none=>rfl
 | some d =>
  have : d≠n:=by rintro rfl;exact h rfl
  simp only [tput,Zla,this,if_false]
theorem Zfg {d:Option Nat} {v:AVal} {j:Nat} {w:Bool} {tm:Tms} (h:d≠some j):Zbf (some (j,w)) (tput tm d v)=Zbf (some (j,w)) tm:=by
 simp only [Zbf,ZIv h]
theorem Zuf:∀ (a b:List AOp) (s:Nat) (tm:Tms) (σ:Za),Zbb O bf (a++b) s tm σ=gK O bf b (s+sitesOf a) (Zbb O bf a s tm σ)
 | [],b,s,tm,σ=>by simp [Zt0,gK,sitesOf]
 | o::a,b,s,tm,σ=>by
  have ih:=Zuf a b
  simp only [List.cons_append]
  have hs:s+nsite o.ins+sitesOf a=s+sitesOf (o::a):=by simp [sitesOf,Nat.add_assoc]
  cases hst:ZJ O bf o s tm σ with
  | none=>rw [Zll hst,Zll hst];rfl
  | some q =>
   obtain ⟨v,tm1,σ1,c⟩:=q
   cases hp:ZaH v with
   | true =>
    obtain ⟨x,rfl⟩:=ZkS hp
    rw [Zpf hst,Zpf hst];rfl
   | false=>rw [ZlP hst hp,ZlP hst hp,ih,hs]
theorem Ztf (j:Nat) (w:Bool):∀ (g:List AOp),(∀ o ∈ g,o.guard=some (j,w)/\o.dst≠some j)->∀ (s:Nat) (tm:Tms) (σ:Za),g≠[]->Zbb O bf g s tm σ=Zel O bf j w g s tm σ
 | [],_,_,_,_,h=>absurd rfl h
 | o::g,hall,s,tm,σ,_=>by
  obtain ⟨hg,hd⟩:=hall o (by simp)
  have ih:∀ (tm:Tms) (σ:Za) (s:Nat),Zbf (some (j,w)) tm≠none->Zbb O bf g s tm σ=Zel O bf j w g s tm σ:=by
   intro tm σ s hw
   by_cases he:g=[]
   ·subst he
    unfold Zel
    cases hx:Zbf (some (j,w)) tm with
    | none=>exact absurd hx hw
    | some b=>cases b <;> rfl
   ·exact Ztf j w g (fun o ho=>hall o (by simp [ho])) s tm σ he
  cases hx:Zbf (some (j,w)) tm with
  | none =>
   rw [Zll (by simp only [ZJ,hg,hx])]
   simp only [Zel,hx]
  | some b =>
   cases b with
   | false =>
    have h1:Zbb O bf (o::g) s tm σ=Zbb O bf g (s+nsite o.ins) (tput tm o.dst (.tup [])) σ :=
     ZlP (v:=.tup []) (c:={}) (by simp only [ZJ,hg,hx]) rfl
    rw [h1,ih _ _ _ (by rw [Zfg hd,hx];simp)]
    unfold Zel
    rw [Zfg hd,hx]
    rfl
   | true =>
    have key:∀ r:Option (AVal×Za×Cls),(∀ v σ' c,r=some (v,σ',c)->ZaH v=false->Zbb O bf g (s+nsite o.ins) (tput tm o.dst v) σ'=Zbb O bf (g.map unG) (s+nsite o.ins) (tput tm o.dst v) σ')->kN O bf o.dst g (s+nsite o.ins) tm r=kN O bf o.dst (g.map unG) (s+nsite o.ins) tm r:=by
     intro r hr
     cases r with
     | none=>rfl
     | some q =>
      obtain ⟨v,σ',c⟩:=q
      cases hp:ZaH v with
      | true=>simp only [kN,hp,if_true]
      | false=>rw [Zl7 _ _ _ _ _ _ _ hp,Zl7 _ _ _ _ _ _ _ hp];exact hr v σ' c rfl hp
    have h1:Zbb O bf (o::g) s tm σ=kN O bf o.dst g (s+nsite o.ins) tm (exI O bf o.ins s tm σ):=by
     have h0:Zbb O bf (o::g) s tm σ=Zbb O bf (⟨o.dst,o.ins,none,o.after⟩::g) s tm σ:=by
      have hst:ZJ O bf o s tm σ=ZJ O bf ⟨o.dst,o.ins,none,o.after⟩ s tm σ:=by
       unfold ZJ
       simp only [hg,hx]
       rfl
      unfold Zbb
      simp only [ZT,hst]
     rw [h0,Zn1]
    rw [h1]
    unfold Zel
    rw [hx]
    simp only [List.map_cons]
    rw [show unG o=⟨o.dst,o.ins,none,o.after⟩ from rfl,Zn1]
    refine key _ fun v σ' c _ _=>?_
    rw [ih _ _ _ (by rw [Zfg hd,hx];simp)]
    unfold Zel
    rw [Zfg hd,hx]
theorem ZMN (d:Option Nat) (i:Ins) (j:Nat) (w:Bool) (af:List Nat) (os:List AOp) (s:Nat) (tm:Tms) (σ:Za) (hd:decide (d=some j)=false) :
  Zbb O bf (⟨d,i,some (j,w),af⟩::os) s tm σ=gK O bf (ZH j w os).2 (s+sitesOf (⟨d,i,some (j,w),af⟩::(ZH j w os).1)) (Zel O bf j w (⟨d,i,some (j,w),af⟩::(ZH j w os).1) s tm σ):=by
 have h:=Zmb j w os
 have hall:∀ o ∈ (⟨d,i,some (j,w),af⟩::(ZH j w os).1:List AOp),o.guard=some (j,w)/\o.dst≠some j:=by
  intro o ho
  rcases List.mem_cons.1 ho with rfl | ho
  ·exact ⟨rfl,by simpa using hd⟩
  ·exact ZpK j w os o ho
 rw [<-Ztf j w _ hall s tm σ (by simp),<-Zuf,List.cons_append,h]
variable (O bf) in
def gW (w:Bool) (g:List AOp) (s:Nat) (tm:Tms) (σ:Za):AVal->Option (Tms×Za×Option AVal)
 | .bool b=>if b=w then Zbb O bf (g.map unG) s tm σ else some (Zau g tm,σ,none)
 | .tup []=>some (Zau g tm,σ,none)
 | _=>none
theorem ZIC (j:Nat) (w:Bool) (g:List AOp) (s:Nat) (tm:Tms) (σ:Za):Zel O bf j w g s tm σ=gW O bf w g s tm σ (tget tm j):=by
 unfold Zel Zbf
 simp only
 generalize tget tm j=v
 cases v
 case bool b=>cases b <;> cases w <;> rfl
 case tup vs=>cases vs <;> rfl
 all_goals rfl
theorem ZKt (w:Bool) (g:List AOp) (s:Nat) (tm:Tms) (σ:Za) (b:Bool):gW O bf w g s tm σ (.bool b)=if b=w then Zbb O bf (g.map unG) s tm σ else some (Zau g tm,σ,none):=rfl
theorem Zz8 (w:Bool) (g:List AOp) (s:Nat) (tm:Tms) (σ:Za):gW O bf w g s tm σ (.tup [])=some (Zau g tm,σ,none):=rfl
theorem ZHe (os:List AOp) (s:Nat) (tm:Tms) (σ:Za):gK O bf os s (some (tm,σ,none))=Zbb O bf os s tm σ:=rfl
end
section
variable (c:Prop) [Decidable c]
theorem Zdw {α:Type} (a b:α) (x y:List α):(if c then a::x else b::y)=(if c then a else b)::(if c then x else y):=by split <;> rfl
theorem ZA9 (k:IntKind) (a b:Int):(if c then AVal.int k a else AVal.int k b)=AVal.int k (if c then a else b):=by split <;> rfl
theorem ZJ9 (a b:Bool):(if c then AVal.bool a else AVal.bool b)=AVal.bool (if c then a else b):=by split <;> rfl
theorem ZGX (a b:List UInt8):(if c then AVal.str a else AVal.str b)=AVal.str (if c then a else b):=by split <;> rfl
theorem Zvh (p q:Bool) (a b:List AVal):(if c then AVal.lst p a else AVal.lst q b)=AVal.lst (if c then p else q) (if c then a else b):=by split <;> rfl
theorem Zzx (a b:List AVal):(if c then AVal.agg a else AVal.agg b)=AVal.agg (if c then a else b):=by split <;> rfl
theorem ZwQ (a b:List AVal):(if c then ZI.var a else ZI.var b)=ZI.var (if c then a else b):=by split <;> rfl
theorem Zy0 (g k:Nat) (a b:List AVal):(if c then ZI.row g k a else ZI.row g k b)=ZI.row g k (if c then a else b):=by split <;> rfl
theorem ZzT (t:Nat) (a b:Nat):(if c then AVal.ref t a else AVal.ref t b)=AVal.ref t (if c then a else b):=by split <;> rfl
theorem Znx {α:Type} (x y z:α):(if c then (if c then x else y) else z)=if c then x else z:=by split <;> rfl
theorem ZuI {α:Type} (x y z:α):(if c then x else (if c then y else z))=if c then x else z:=by split <;> rfl
theorem ZEo (σ:Za) (a b:AVal) (p:Bool):Ze6 σ a b (.bool p)=some (if p=true then a else b,σ,{}):=by cases p <;> rfl
theorem ZK0 (a b:AVal):ZaH (if c then a else b)=if c then ZaH a else ZaH b:=by split <;> rfl
end
section
variable {fs:Nat->Option ZE} {prim:Zcb} {bf:Nat->Bool} {m0:Nat}
theorem ZIE (p:Bool) (a b:Zf) (tm:Tms) (σ:Za):Zib fs prim bf m0 a b tm σ (.bool p)=if p=true then evC fs prim bf m0 a tm σ else evC fs prim bf m0 b tm σ:=by
 cases p <;> rfl
theorem ZEn (b:Zf) (tm:Tms) (σ:Za):ZbF fs prim bf m0 b (some (.normal,tm,σ))=evC fs prim bf m0 b tm σ:=rfl
theorem ZJ1 (b:Zf) (i:Nat) (tm:Tms) (σ:Za):ZbF fs prim bf m0 b (some (.exit i,tm,σ))=some (.exit i,tm,σ):=rfl
theorem ZHp (b:Zf) (tm:Tms) (σ:Za):ZbF fs prim bf m0 b (some (.ret,tm,σ))=some (.ret,tm,σ):=rfl
theorem Zyo (b:Zf) (x:AVal) (tm:Tms) (σ:Za):ZbF fs prim bf m0 b (some (.panic x,tm,σ))=some (.panic x,tm,σ):=rfl
theorem ZyS (c:Prop) [Decidable c] (b:Zf) (x y:Option (ZaL×Tms×Za)):ZbF fs prim bf m0 b (if c then x else y)=if c then ZbF fs prim bf m0 b x else ZbF fs prim bf m0 b y:=by split <;> rfl
theorem ZLp (id:Nat) (tm:Tms) (σ:Za):Option.map (ZaT id) (some (.normal,tm,σ))=some (.normal,tm,σ):=rfl
theorem ZMF (id i:Nat) (tm:Tms) (σ:Za):Option.map (ZaT id) (some (.exit i,tm,σ))=if i=id then some (.normal,tm,σ) else some (.exit i,tm,σ):=by
 simp only [Option.map_some,ZaT];split <;> rfl
theorem ZAd (id:Nat) (tm:Tms) (σ:Za):Option.map (ZaT id) (some (.ret,tm,σ))=some (.ret,tm,σ):=rfl
theorem ZJF (id:Nat) (x:AVal) (tm:Tms) (σ:Za):Option.map (ZaT id) (some (.panic x,tm,σ))=some (.panic x,tm,σ):=rfl
theorem ZC7 (id:Nat) (c:Prop) [Decidable c] (x y:Option (ZaL×Tms×Za)):Option.map (ZaT id) (if c then x else y)=if c then Option.map (ZaT id) x else Option.map (ZaT id) y:=by split <;> rfl
theorem ZIY (m:Nat) (fn:ZE) (c:Prop) [Decidable c] (x y:Option (ZaL×Tms×Za)):Zar m fn (if c then x else y)=if c then Zar m fn x else Zar m fn y:=by split <;> rfl
end
section
variable {fs:Nat->Option ZE} {prim:Zcb} {bf:Nat->Bool} {m0:Nat}
theorem Zxg {live:List Nat} {c:Zf} {tm tm':Tms} {σ σ':Za} (h:evC fs prim bf m0 c tm σ=some (.normal,tm',σ')):evL fs prim bf m0 live c tm σ=evL fs prim bf m0 live c (gcT m0 (keepL live tm') σ').1 (gcT m0 (keepL live tm') σ').2:=by
 unfold evL
 rw [h]
 simp only
 rw [Zus]
 rfl
theorem ZBM {live:List Nat} {c:Zf} {tm tm':Tms} {σ σ':Za} {i:Nat} (h:evC fs prim bf m0 c tm σ=some (.exit i,tm',σ')):evL fs prim bf m0 live c tm σ=some (.exit i,tm',σ'):=by
 unfold evL;rw [h]
theorem ZK3 {live:List Nat} {c:Zf} {tm tm':Tms} {σ σ':Za} (h:evC fs prim bf m0 c tm σ=some (.ret,tm',σ')):evL fs prim bf m0 live c tm σ=some (.ret,tm',σ'):=by
 unfold evL;rw [h]
variable (fs prim bf m0) in
noncomputable def evM (live:List Nat) (c:Zf):Option (ZaL×Tms×Za)->Option (ZaL×Tms×Za)
 | some (.normal,tm,σ)=>evL fs prim bf m0 live c (gcT m0 (keepL live tm) σ).1 (gcT m0 (keepL live tm) σ).2
 | r=>r
theorem Z9 (live:List Nat) (c:Zf) (tm:Tms) (σ:Za):evL fs prim bf m0 live c tm σ=evM fs prim bf m0 live c (evC fs prim bf m0 c tm σ):=by
 cases h:evC fs prim bf m0 c tm σ with
 | none=>unfold evL;rw [h];rfl
 | some q =>
  obtain ⟨e,tm',σ'⟩:=q
  cases e with
  | normal=>exact Zxg h
  | exit i=>exact ZBM h
  | ret=>exact ZK3 h
  | panic x=>unfold evL;rw [h];rfl
theorem ZET (live:List Nat) (c:Zf) (tm:Tms) (σ:Za):evM fs prim bf m0 live c (some (.normal,tm,σ))=evL fs prim bf m0 live c (gcT m0 (keepL live tm) σ).1 (gcT m0 (keepL live tm) σ).2:=rfl
theorem ZwS (live:List Nat) (c:Zf) (i:Nat) (tm:Tms) (σ:Za):evM fs prim bf m0 live c (some (.exit i,tm,σ))=some (.exit i,tm,σ):=rfl
theorem ZLR (live:List Nat) (c:Zf) (tm:Tms) (σ:Za):evM fs prim bf m0 live c (some (.ret,tm,σ))=some (.ret,tm,σ):=rfl
theorem ZIT (live:List Nat) (c:Zf) (x:AVal) (tm:Tms) (σ:Za):evM fs prim bf m0 live c (some (.panic x,tm,σ))=some (.panic x,tm,σ):=rfl
theorem Zu3 (live:List Nat) (b:Zf) (c:Prop) [Decidable c] (x y:Option (ZaL×Tms×Za)):evM fs prim bf m0 live b (if c then x else y)=if c then evM fs prim bf m0 live b x else evM fs prim bf m0 live b y:=by split <;> rfl
end
def ZaX:AVal->Bool
 | .int _ _=>true
 | .bool _=>true
 | .str _=>true
 | .nilp=>true
 | .nilm=>true
 | .nili=>true
 | .lst _ _=>true
 | .fn _ []=>true
 | _=>false
def Z5:AVal->Bool
 | .agg cs=>cs.all ZaX
 | x=>ZaX x
def Za7:AVal->AVal
 | .lst _ xs=>.lst false xs
 | x=>x
def ZD:AVal->AVal
 | .agg cs=>.agg (cs.map Za7)
 | x=>Za7 x
theorem Zp5 {σ:Za} {x:AVal} (h:ZaX x=true):Zcw σ x=some (Za7 x,[]):=by
 cases x <;> first | (simp [ZaX] at h;done) | rfl
theorem Zra {σ:Za}:∀ {xs:List AVal},xs.all ZaX=true->Zcg σ xs=some (xs.map Za7,[])
 | [],_=>rfl
 | x::xs,h=>by
  simp only [List.all_cons,Bool.and_eq_true] at h
  simp only [Zcg,Zp5 h.1,Zra h.2,List.map_cons,List.append_nil]
theorem ZgH {x:AVal} (h:∀ cs,x≠.agg cs):Z5 x=ZaX x/\ZD x=Za7 x:=by
 cases x <;> first | exact ⟨rfl,rfl⟩ | exact absurd rfl (h _)
theorem ZH9 {σ:Za} {x:AVal} (h:∀ cs,x≠.agg cs):showA σ x=Zcw σ x:=by
 cases x <;> first | rfl | exact absurd rfl (h _)
theorem Zoz (x:AVal):(∃ cs,x=.agg cs)\/∀ cs,x≠.agg cs:=by
 cases x <;> first | exact Or.inl ⟨_,rfl⟩ | (right;intro cs;simp)
theorem ZLi {σ:Za} {x:AVal} (h:Z5 x=true):showA σ x=some (ZD x,[]):=by
 rcases Zoz x with ⟨cs,rfl⟩ | hn
 ·simp only [Z5] at h
  simp only [showA,Zra h,ZD]
 ·rw [(ZgH hn).1] at h
  rw [ZH9 hn,(ZgH hn).2]
  exact Zp5 h
theorem ZdH {σ:Za}:∀ {xs:List AVal},xs.all Z5=true->showAs σ xs=some (xs.map ZD,[])
 | [],_=>rfl
 | x::xs,h=>by
  simp only [List.all_cons,Bool.and_eq_true] at h
  simp only [showAs,ZLi h.1,ZdH h.2,List.map_cons,List.append_nil]
theorem Zrc {x:AVal} (h:ZaX x=true):ZV (Za7 x)=[]:=by
 cases x
 case fn f cs=>cases cs <;> simp [ZaX] at h;rfl
 all_goals first | (simp [ZaX] at h;done) | rfl
theorem Zt3:∀ {xs:List AVal},xs.all ZaX=true->Zp (xs.map Za7)=[]
 | [],_=>rfl
 | x::xs,h=>by
  simp only [List.all_cons,Bool.and_eq_true] at h
  simp only [List.map_cons,Zp,Zrc h.1,Zt3 h.2,List.append_nil]
theorem ZtS {x:AVal} (h:Z5 x=true):ZV (ZD x)=[]:=by
 rcases Zoz x with ⟨cs,rfl⟩ | hn
 ·simp only [Z5] at h
  simp only [ZD,ZV];exact Zt3 h
 ·rw [(ZgH hn).1] at h
  rw [(ZgH hn).2];exact Zrc h
theorem Zc5:∀ {xs:List AVal},xs.all Z5=true->Zp (xs.map ZD)=[]
 | [],_=>rfl
 | x::xs,h=>by
  simp only [List.all_cons,Bool.and_eq_true] at h
  simp only [List.map_cons,Zp,ZtS h.1,Zc5 h.2,List.append_nil]
theorem ZsR {ρ:Rho} {x:AVal} (h:ZaX x=true):Zk ρ (Za7 x)=Za7 x:=by
 cases x
 case fn f cs=>cases cs <;> simp [ZaX] at h;rfl
 all_goals first | (simp [ZaX] at h;done) | rfl
theorem Zs3 {ρ:Rho}:∀ {xs:List AVal},xs.all ZaX=true->Ze ρ (xs.map Za7)=xs.map Za7
 | [],_=>rfl
 | x::xs,h=>by
  simp only [List.all_cons,Bool.and_eq_true] at h
  simp only [List.map_cons,Ze,ZsR h.1,Zs3 h.2]
theorem ZsP {ρ:Rho} {x:AVal} (h:Z5 x=true):Zk ρ (ZD x)=ZD x:=by
 rcases Zoz x with ⟨cs,rfl⟩ | hn
 ·simp only [Z5] at h
  simp only [ZD,Zk];rw [Zs3 h]
 ·rw [(ZgH hn).1] at h
  rw [(ZgH hn).2];exact ZsR h
theorem Zdb {ρ:Rho}:∀ {xs:List AVal},xs.all Z5=true->Ze ρ (xs.map ZD)=xs.map ZD
 | [],_=>rfl
 | x::xs,h=>by
  simp only [List.all_cons,Bool.and_eq_true] at h
  simp only [List.map_cons,Ze,ZsP h.1,Zdb h.2]
theorem ZfG {O:ZL} {bf:Nat->Bool} {σ:Za} {sq f own:Nat} {view:Bool} {args:List AVal} (hb:bf f=false) (h:args.all Z5=true) :
  Zj O bf σ sq f own view args=Zay σ σ [] [] sq own (Z6 view 0 (O f (args.map ZD) [])):=by
 unfold Zj ZbJ
 rw [hb]
 simp only [Bool.false_eq_true,if_false,ZdH h]
 have h1:Zo σ []=σ:=rfl
 rw [h1,Zc5 h]
 have h2:ZA σ 1000 [] []=[]:=rfl
 rw [h2]
 unfold Zbt
 simp only [List.all_nil,if_true,Zdb h,Zv,List.length_nil]
theorem ZgK (σ:Za) (sq own:Nat) (r:AVal) (h:Zk (Zaz [] [] sq) r=r):Zay σ σ [] [] sq own (some (r,[]))=some (r,σ,{}):=by
 simp only [Zay,List.isEmpty_nil,Bool.and_self,if_true,ZcS,Bool.not_true,Bool.false_and,Bool.false_eq_true,if_false]
 split
 ·rfl
 ·rw [h]
end
section
section
variable (ρ:Rho) (σ:Za)
theorem ZBR  : ZaH (.top)=false:=rfl
theorem ZCv  : ZaH (.any)=false:=rfl
theorem ZKO (k:IntKind) (n:Int):ZaH (.int k n)=false:=rfl
theorem Zxs (b:Bool):ZaH (.bool b)=false:=rfl
theorem ZCR (l:List UInt8):ZaH (.str l)=false:=rfl
theorem ZLy  : ZaH (.nilp)=false:=rfl
theorem ZyF (t:Nat) (o:Nat):ZaH (.ref t o)=false:=rfl
theorem ZwP (t:Nat) (g:Nat) (i:Nat) (o:Nat):ZaH (.eref t g i o)=false:=rfl
theorem ZLS (cs:List AVal) (o:Nat):ZaH (.iptr cs o)=false:=rfl
theorem ZMz (x:Bool) (xs:List AVal):ZaH (.lst x xs)=false:=rfl
theorem ZID (t:Nat) (g:Nat) (lo:Nat) (n:Nat):ZaH (.sl t g lo n)=false:=rfl
theorem ZDy (cs:List AVal):ZaH (.agg cs)=false:=rfl
theorem ZwO (vs:List AVal):ZaH (.tup vs)=false:=rfl
theorem ZHh (f:Nat) (caps:List AVal):ZaH (.fn f caps)=false:=rfl
theorem ZMM  : ZaH (.nilm)=false:=rfl
theorem Zwy (t:Nat):ZaH (.map t)=false:=rfl
theorem ZA4  : ZaH (.nili)=false:=rfl
theorem Zzz (t:Nat) (x:AVal):ZaH (.iface t x)=false:=rfl
theorem ZJ5 (x:AVal):ZaH (.pan x)=true:=rfl
theorem ZAf  : ZX (.top)=false:=rfl
theorem ZCp  : ZX (.any)=true:=rfl
theorem ZCm (k:IntKind) (n:Int):ZX (.int k n)=true:=rfl
theorem Zvs (b:Bool):ZX (.bool b)=true:=rfl
theorem ZDw (l:List UInt8):ZX (.str l)=true:=rfl
theorem ZLq  : ZX (.nilp)=true:=rfl
theorem ZuS (t:Nat) (o:Nat):ZX (.ref t o)=true:=rfl
theorem ZEy (t:Nat) (g:Nat) (i:Nat) (o:Nat):ZX (.eref t g i o)=true:=rfl
theorem ZEK (cs:List AVal) (o:Nat):ZX (.iptr cs o)=true:=rfl
theorem Zzd (x:Bool) (xs:List AVal):ZX (.lst x xs)=true:=rfl
theorem ZBv (t:Nat) (g:Nat) (lo:Nat) (n:Nat):ZX (.sl t g lo n)=true:=rfl
theorem ZIW (cs:List AVal):ZX (.agg cs)=false:=rfl
theorem ZDv (vs:List AVal):ZX (.tup vs)=false:=rfl
theorem ZEx (f:Nat) (caps:List AVal):ZX (.fn f caps)=true:=rfl
theorem ZCh  : ZX (.nilm)=true:=rfl
theorem ZHB (t:Nat):ZX (.map t)=true:=rfl
theorem ZFE  : ZX (.nili)=true:=rfl
theorem ZAC (t:Nat) (x:AVal):ZX (.iface t x)=true:=rfl
theorem Zu9 (x:AVal):ZX (.pan x)=false:=rfl
theorem Zx4  : Za9 (.top)=false:=rfl
theorem Zvl  : Za9 (.any)=true:=rfl
theorem ZLZ (k:IntKind) (n:Int):Za9 (.int k n)=true:=rfl
theorem ZBo (b:Bool):Za9 (.bool b)=true:=rfl
theorem ZxE (l:List UInt8):Za9 (.str l)=true:=rfl
theorem Zvo  : Za9 (.nilp)=true:=rfl
theorem ZDC (t:Nat) (o:Nat):Za9 (.ref t o)=true:=rfl
theorem ZDu (t:Nat) (g:Nat) (i:Nat) (o:Nat):Za9 (.eref t g i o)=true:=rfl
theorem ZId (cs:List AVal) (o:Nat):Za9 (.iptr cs o)=true:=rfl
theorem ZAN (x:Bool) (xs:List AVal):Za9 (.lst x xs)=true:=rfl
theorem ZKh (t:Nat) (g:Nat) (lo:Nat) (n:Nat):Za9 (.sl t g lo n)=true:=rfl
theorem ZCY (cs:List AVal):Za9 (.agg cs)=true:=rfl
theorem ZwN (vs:List AVal):Za9 (.tup vs)=true:=rfl
theorem ZEl (f:Nat) (caps:List AVal):Za9 (.fn f caps)=true:=rfl
theorem ZBD  : Za9 (.nilm)=true:=rfl
theorem ZEY (t:Nat):Za9 (.map t)=true:=rfl
theorem ZMd  : Za9 (.nili)=true:=rfl
theorem Zwa (t:Nat) (x:AVal):Za9 (.iface t x)=true:=rfl
theorem ZJh (x:AVal):Za9 (.pan x)=true:=rfl
theorem ZyQ  : ZaP (.top)=false:=rfl
theorem ZIo  : ZaP (.any)=false:=rfl
theorem Zyx (k:IntKind) (n:Int):ZaP (.int k n)=true:=rfl
theorem Zu6 (b:Bool):ZaP (.bool b)=true:=rfl
theorem ZCy (l:List UInt8):ZaP (.str l)=true:=rfl
theorem ZEA  : ZaP (.nilp)=true:=rfl
theorem ZMO (t:Nat) (o:Nat):ZaP (.ref t o)=false:=rfl
theorem ZEu (t:Nat) (g:Nat) (i:Nat) (o:Nat):ZaP (.eref t g i o)=false:=rfl
theorem ZAc (cs:List AVal) (o:Nat):ZaP (.iptr cs o)=false:=rfl
theorem ZyU (x:Bool) (xs:List AVal):ZaP (.lst x xs)=false:=rfl
theorem ZxQ (t:Nat) (g:Nat) (lo:Nat) (n:Nat):ZaP (.sl t g lo n)=false:=rfl
theorem ZJX (cs:List AVal):ZaP (.agg cs)=false:=rfl
theorem ZuY (vs:List AVal):ZaP (.tup vs)=false:=rfl
theorem ZHZ (f:Nat) (caps:List AVal):ZaP (.fn f caps)=false:=rfl
theorem ZMP  : ZaP (.nilm)=true:=rfl
theorem ZIp (t:Nat):ZaP (.map t)=false:=rfl
theorem ZKf  : ZaP (.nili)=true:=rfl
theorem ZDp (t:Nat) (x:AVal):ZaP (.iface t x)=false:=rfl
theorem ZDO (x:AVal):ZaP (.pan x)=false:=rfl
theorem ZvE  : Zbh (.top)=false:=rfl
theorem ZKc  : Zbh (.any)=false:=rfl
theorem ZKr (k:IntKind) (n:Int):Zbh (.int k n)=true:=rfl
theorem ZKM (b:Bool):Zbh (.bool b)=true:=rfl
theorem ZBl (l:List UInt8):Zbh (.str l)=true:=rfl
theorem ZMC  : Zbh (.nilp)=true:=rfl
theorem ZFH (t:Nat) (o:Nat):Zbh (.ref t o)=false:=rfl
theorem ZDz (t:Nat) (g:Nat) (i:Nat) (o:Nat):Zbh (.eref t g i o)=false:=rfl
theorem ZJP (cs:List AVal) (o:Nat):Zbh (.iptr cs o)=false:=rfl
theorem Zvu (x:Bool) (xs:List AVal):Zbh (.lst x xs)=false:=rfl
theorem ZKi (t:Nat) (g:Nat) (lo:Nat) (n:Nat):Zbh (.sl t g lo n)=false:=rfl
theorem ZC6 (cs:List AVal):Zbh (.agg cs)=cs.all ZaP:=rfl
theorem ZBC (vs:List AVal):Zbh (.tup vs)=false:=rfl
theorem Zv6 (f:Nat) (caps:List AVal):Zbh (.fn f caps)=false:=rfl
theorem ZJW  : Zbh (.nilm)=true:=rfl
theorem ZKD (t:Nat):Zbh (.map t)=false:=rfl
theorem ZKE  : Zbh (.nili)=true:=rfl
theorem ZB3 (t:Nat) (x:AVal):Zbh (.iface t x)=false:=rfl
theorem ZMu (x:AVal):Zbh (.pan x)=false:=rfl
theorem ZK6  : Zbv (.top)=false:=rfl
theorem ZIg  : Zbv (.any)=false:=rfl
theorem Zzv (k:IntKind) (n:Int):Zbv (.int k n)=true:=rfl
theorem ZCN (b:Bool):Zbv (.bool b)=true:=rfl
theorem Zwq (l:List UInt8):Zbv (.str l)=true:=rfl
theorem Zvp  : Zbv (.nilp)=true:=rfl
theorem ZEr (t:Nat) (o:Nat):Zbv (.ref t o)=false:=rfl
theorem ZxS (t:Nat) (g:Nat) (i:Nat) (o:Nat):Zbv (.eref t g i o)=false:=rfl
theorem ZCf (cs:List AVal) (o:Nat):Zbv (.iptr cs o)=false:=rfl
theorem ZDR (x:Bool) (xs:List AVal):Zbv (.lst x xs)=false:=rfl
theorem ZGt (t:Nat) (g:Nat) (lo:Nat) (n:Nat):Zbv (.sl t g lo n)=false:=rfl
theorem ZEq (cs:List AVal):Zbv (.agg cs)=cs.all ZaP:=rfl
theorem ZBi (vs:List AVal):Zbv (.tup vs)=vs.all Zbh:=rfl
theorem ZHG (f:Nat) (caps:List AVal):Zbv (.fn f caps)=false:=rfl
theorem Zu2  : Zbv (.nilm)=true:=rfl
theorem Zzn (t:Nat):Zbv (.map t)=false:=rfl
theorem ZAL  : Zbv (.nili)=true:=rfl
theorem ZFY (t:Nat) (x:AVal):Zbv (.iface t x)=false:=rfl
theorem ZK5  : ZaX (.top)=false:=rfl
theorem ZHH  : ZaX (.any)=false:=rfl
theorem Zsb (k:IntKind) (n:Int):ZaX (.int k n)=true:=rfl
theorem ZCn (b:Bool):ZaX (.bool b)=true:=rfl
theorem Zr2 (l:List UInt8):ZaX (.str l)=true:=rfl
theorem ZEb  : ZaX (.nilp)=true:=rfl
theorem ZzA (t:Nat) (o:Nat):ZaX (.ref t o)=false:=rfl
theorem ZAZ (t:Nat) (g:Nat) (i:Nat) (o:Nat):ZaX (.eref t g i o)=false:=rfl
theorem ZG0 (cs:List AVal) (o:Nat):ZaX (.iptr cs o)=false:=rfl
theorem ZtE (x:Bool) (xs:List AVal):ZaX (.lst x xs)=true:=rfl
theorem ZF7 (t:Nat) (g:Nat) (lo:Nat) (n:Nat):ZaX (.sl t g lo n)=false:=rfl
theorem Zyb (cs:List AVal):ZaX (.agg cs)=false:=rfl
theorem ZMA (vs:List AVal):ZaX (.tup vs)=false:=rfl
theorem Zy2  : ZaX (.nilm)=true:=rfl
theorem ZDc (t:Nat):ZaX (.map t)=false:=rfl
theorem ZHg  : ZaX (.nili)=true:=rfl
theorem ZBE (t:Nat) (x:AVal):ZaX (.iface t x)=false:=rfl
theorem ZKF (x:AVal):ZaX (.pan x)=false:=rfl
theorem ZEf  : Z5 (.top)=false:=rfl
theorem ZMe  : Z5 (.any)=false:=rfl
theorem ZCZ (k:IntKind) (n:Int):Z5 (.int k n)=true:=rfl
theorem ZxZ (b:Bool):Z5 (.bool b)=true:=rfl
theorem ZMq (l:List UInt8):Z5 (.str l)=true:=rfl
theorem ZyY  : Z5 (.nilp)=true:=rfl
theorem Zu7 (t:Nat) (o:Nat):Z5 (.ref t o)=false:=rfl
theorem ZF8 (t:Nat) (g:Nat) (i:Nat) (o:Nat):Z5 (.eref t g i o)=false:=rfl
theorem ZHY (cs:List AVal) (o:Nat):Z5 (.iptr cs o)=false:=rfl
theorem ZKY (x:Bool) (xs:List AVal):Z5 (.lst x xs)=true:=rfl
theorem ZAo (t:Nat) (g:Nat) (lo:Nat) (n:Nat):Z5 (.sl t g lo n)=false:=rfl
theorem Zso (cs:List AVal):Z5 (.agg cs)=cs.all ZaX:=rfl
theorem Zvx (vs:List AVal):Z5 (.tup vs)=false:=rfl
theorem ZC3  : Z5 (.nilm)=true:=rfl
theorem ZwA (t:Nat):Z5 (.map t)=false:=rfl
theorem ZC9  : Z5 (.nili)=true:=rfl
theorem ZER (t:Nat) (x:AVal):Z5 (.iface t x)=false:=rfl
theorem ZDj (x:AVal):Z5 (.pan x)=false:=rfl
theorem ZFn  : Za7 (.top)=(.top):=rfl
theorem ZFg  : Za7 (.any)=(.any):=rfl
theorem ZsH (k:IntKind) (n:Int):Za7 (.int k n)=(.int k n):=rfl
theorem Zye (b:Bool):Za7 (.bool b)=(.bool b):=rfl
theorem Zsc (l:List UInt8):Za7 (.str l)=(.str l):=rfl
theorem ZwM  : Za7 (.nilp)=(.nilp):=rfl
theorem ZuU (t:Nat) (o:Nat):Za7 (.ref t o)=(.ref t o):=rfl
theorem ZFp (t:Nat) (g:Nat) (i:Nat) (o:Nat):Za7 (.eref t g i o)=(.eref t g i o):=rfl
theorem Zw8 (cs:List AVal) (o:Nat):Za7 (.iptr cs o)=(.iptr cs o):=rfl
theorem Zrq (x:Bool) (xs:List AVal):Za7 (.lst x xs)=.lst false xs:=rfl
theorem ZyZ (t:Nat) (g:Nat) (lo:Nat) (n:Nat):Za7 (.sl t g lo n)=(.sl t g lo n):=rfl
theorem ZCz (cs:List AVal):Za7 (.agg cs)=(.agg cs):=rfl
theorem ZDq (vs:List AVal):Za7 (.tup vs)=(.tup vs):=rfl
theorem ZMb (f:Nat) (caps:List AVal):Za7 (.fn f caps)=(.fn f caps):=rfl
theorem ZCt  : Za7 (.nilm)=(.nilm):=rfl
theorem ZFI (t:Nat):Za7 (.map t)=(.map t):=rfl
theorem ZFq  : Za7 (.nili)=(.nili):=rfl
theorem ZAh (t:Nat) (x:AVal):Za7 (.iface t x)=(.iface t x):=rfl
theorem ZEv (x:AVal):Za7 (.pan x)=(.pan x):=rfl
theorem ZMG  : ZD (.top)=(.top):=rfl
theorem ZEw  : ZD (.any)=(.any):=rfl
theorem ZAl (k:IntKind) (n:Int):ZD (.int k n)=(.int k n):=rfl
theorem ZHM (b:Bool):ZD (.bool b)=(.bool b):=rfl
theorem ZCi (l:List UInt8):ZD (.str l)=(.str l):=rfl
theorem ZzE  : ZD (.nilp)=(.nilp):=rfl
theorem ZDV (t:Nat) (o:Nat):ZD (.ref t o)=(.ref t o):=rfl
theorem ZF2 (t:Nat) (g:Nat) (i:Nat) (o:Nat):ZD (.eref t g i o)=(.eref t g i o):=rfl
theorem ZBU (cs:List AVal) (o:Nat):ZD (.iptr cs o)=(.iptr cs o):=rfl
theorem ZJs (x:Bool) (xs:List AVal):ZD (.lst x xs)=.lst false xs:=rfl
theorem ZBt (t:Nat) (g:Nat) (lo:Nat) (n:Nat):ZD (.sl t g lo n)=(.sl t g lo n):=rfl
theorem Zq9 (cs:List AVal):ZD (.agg cs)=.agg (cs.map Za7):=rfl
theorem ZGJ (vs:List AVal):ZD (.tup vs)=(.tup vs):=rfl
theorem Zxe (f:Nat) (caps:List AVal):ZD (.fn f caps)=(.fn f caps):=rfl
theorem ZJj  : ZD (.nilm)=(.nilm):=rfl
theorem ZHu (t:Nat):ZD (.map t)=(.map t):=rfl
theorem ZBb  : ZD (.nili)=(.nili):=rfl
theorem ZKm (t:Nat) (x:AVal):ZD (.iface t x)=(.iface t x):=rfl
theorem ZKu (x:AVal):ZD (.pan x)=(.pan x):=rfl
theorem ZAr  : AVal.cells (.top)=[(.top)]:=rfl
theorem ZMD  : AVal.cells (.any)=[(.any)]:=rfl
theorem ZAW (k:IntKind) (n:Int):AVal.cells (.int k n)=[(.int k n)]:=rfl
theorem ZAS (b:Bool):AVal.cells (.bool b)=[(.bool b)]:=rfl
theorem ZDF (l:List UInt8):AVal.cells (.str l)=[(.str l)]:=rfl
theorem ZBx  : AVal.cells (.nilp)=[(.nilp)]:=rfl
theorem ZLw (t:Nat) (o:Nat):AVal.cells (.ref t o)=[(.ref t o)]:=rfl
theorem ZEM (t:Nat) (g:Nat) (i:Nat) (o:Nat):AVal.cells (.eref t g i o)=[(.eref t g i o)]:=rfl
theorem ZvG (cs:List AVal) (o:Nat):AVal.cells (.iptr cs o)=[(.iptr cs o)]:=rfl
theorem ZHD (x:Bool) (xs:List AVal):AVal.cells (.lst x xs)=[(.lst x xs)]:=rfl
theorem ZMI (t:Nat) (g:Nat) (lo:Nat) (n:Nat):AVal.cells (.sl t g lo n)=[(.sl t g lo n)]:=rfl
theorem ZIQ (cs:List AVal):AVal.cells (.agg cs)=cs:=rfl
theorem ZKb (vs:List AVal):AVal.cells (.tup vs)=[(.tup vs)]:=rfl
theorem ZGq (f:Nat) (caps:List AVal):AVal.cells (.fn f caps)=[(.fn f caps)]:=rfl
theorem ZGp  : AVal.cells (.nilm)=[(.nilm)]:=rfl
theorem ZKG (t:Nat):AVal.cells (.map t)=[(.map t)]:=rfl
theorem ZKU  : AVal.cells (.nili)=[(.nili)]:=rfl
theorem ZEE (t:Nat) (x:AVal):AVal.cells (.iface t x)=[(.iface t x)]:=rfl
theorem ZHm (x:AVal):AVal.cells (.pan x)=[(.pan x)]:=rfl
theorem Zyz  : ZaN (.top)=(.top):=rfl
theorem ZLY  : ZaN (.any)=(.any):=rfl
theorem Zzo (k:IntKind) (n:Int):ZaN (.int k n)=(.int k n):=rfl
theorem Zwl (b:Bool):ZaN (.bool b)=(.bool b):=rfl
theorem ZIw (l:List UInt8):ZaN (.str l)=(.str l):=rfl
theorem ZDH  : ZaN (.nilp)=(.nilp):=rfl
theorem ZB5 (t:Nat) (o:Nat):ZaN (.ref t o)=(.ref t o):=rfl
theorem ZwI (t:Nat) (g:Nat) (i:Nat) (o:Nat):ZaN (.eref t g i o)=(.eref t g i o):=rfl
theorem ZwG (cs:List AVal) (o:Nat):ZaN (.iptr cs o)=(.iptr cs o):=rfl
theorem Zw6 (x:Bool) (xs:List AVal):ZaN (.lst x xs)=(.lst x xs):=rfl
theorem ZIt (t:Nat) (g:Nat) (lo:Nat) (n:Nat):ZaN (.sl t g lo n)=(.sl t g lo n):=rfl
theorem ZKx (cs:List AVal):ZaN (.agg cs)=(.agg cs):=rfl
theorem ZLQ (vs:List AVal):ZaN (.tup vs)=(.tup vs):=rfl
theorem ZBc (f:Nat) (caps:List AVal):ZaN (.fn f caps)=(.fn f caps):=rfl
theorem ZwE  : ZaN (.nilm)=(.nilm):=rfl
theorem ZGn (t:Nat):ZaN (.map t)=(.map t):=rfl
theorem ZGS  : ZaN (.nili)=(.nili):=rfl
theorem ZG3 (t:Nat) (x:AVal):ZaN (.iface t x)=(.iface t x):=rfl
theorem ZvC (x:AVal):ZaN (.pan x)=x:=rfl
theorem Zxk  : Za3 (.top)=4:=rfl
theorem ZDk  : Za3 (.any)=4:=rfl
theorem ZxB (k:IntKind) (n:Int):Za3 (.int k n)=0:=rfl
theorem ZHC (b:Bool):Za3 (.bool b)=1:=rfl
theorem Zxz (l:List UInt8):Za3 (.str l)=2:=rfl
theorem Zv4  : Za3 (.nilp)=4:=rfl
theorem ZLW (t:Nat) (o:Nat):Za3 (.ref t o)=4:=rfl
theorem ZBI (t:Nat) (g:Nat) (i:Nat) (o:Nat):Za3 (.eref t g i o)=4:=rfl
theorem ZxR (cs:List AVal) (o:Nat):Za3 (.iptr cs o)=4:=rfl
theorem Zvd (x:Bool) (xs:List AVal):Za3 (.lst x xs)=4:=rfl
theorem ZLB (t:Nat) (g:Nat) (lo:Nat) (n:Nat):Za3 (.sl t g lo n)=4:=rfl
theorem ZIV (cs:List AVal):Za3 (.agg cs)=4:=rfl
theorem ZGv (vs:List AVal):Za3 (.tup vs)=4:=rfl
theorem ZIm (f:Nat) (caps:List AVal):Za3 (.fn f caps)=4:=rfl
theorem Zxj  : Za3 (.nilm)=4:=rfl
theorem Zx5 (t:Nat):Za3 (.map t)=4:=rfl
theorem ZC0  : Za3 (.nili)=4:=rfl
theorem ZzF (t:Nat) (x:AVal):Za3 (.iface t x)=4:=rfl
theorem ZvJ (x:AVal):Za3 (.pan x)=4:=rfl
theorem ZAV  : ZV (.top)=[]:=rfl
theorem Zwb  : ZV (.any)=[]:=rfl
theorem ZG6 (k:IntKind) (n:Int):ZV (.int k n)=[]:=rfl
theorem Zxr (b:Bool):ZV (.bool b)=[]:=rfl
theorem ZMS (l:List UInt8):ZV (.str l)=[]:=rfl
theorem ZIs  : ZV (.nilp)=[]:=rfl
theorem Zzk (t:Nat) (o:Nat):ZV (.ref t o)=[t]:=rfl
theorem ZJ0 (t:Nat) (g:Nat) (i:Nat) (o:Nat):ZV (.eref t g i o)=[t]:=rfl
theorem ZHw (cs:List AVal) (o:Nat):ZV (.iptr cs o)=[]:=rfl
theorem ZDm (x:Bool) (xs:List AVal):ZV (.lst x xs)=[]:=rfl
theorem ZA7 (t:Nat) (g:Nat) (lo:Nat) (n:Nat):ZV (.sl t g lo n)=[t]:=rfl
theorem ZMc (cs:List AVal):ZV (.agg cs)=Zp cs:=rfl
theorem ZxV (vs:List AVal):ZV (.tup vs)=Zp vs:=rfl
theorem Zvv (f:Nat) (caps:List AVal):ZV (.fn f caps)=Zp caps:=rfl
theorem ZFJ  : ZV (.nilm)=[]:=rfl
theorem ZvL (t:Nat):ZV (.map t)=[t]:=rfl
theorem ZBk  : ZV (.nili)=[]:=rfl
theorem ZBf (t:Nat) (x:AVal):ZV (.iface t x)=ZV x:=rfl
theorem ZF4 (x:AVal):ZV (.pan x)=ZV x:=rfl
theorem ZKq  : Zk ρ (.top)=(.top):=rfl
theorem ZJY  : Zk ρ (.any)=(.any):=rfl
theorem ZxP (k:IntKind) (n:Int):Zk ρ (.int k n)=(.int k n):=rfl
theorem ZAH (b:Bool):Zk ρ (.bool b)=(.bool b):=rfl
theorem Zz7 (l:List UInt8):Zk ρ (.str l)=(.str l):=rfl
theorem ZFD  : Zk ρ (.nilp)=(.nilp):=rfl
theorem ZvP (cs:List AVal) (o:Nat):Zk ρ (.iptr cs o)=(.iptr cs o):=rfl
theorem Zzl (x:Bool) (xs:List AVal):Zk ρ (.lst x xs)=(.lst x xs):=rfl
theorem Zvt (cs:List AVal):Zk ρ (.agg cs)=.agg (Ze ρ cs):=rfl
theorem ZzR (vs:List AVal):Zk ρ (.tup vs)=.tup (Ze ρ vs):=rfl
theorem ZJK (f:Nat) (caps:List AVal):Zk ρ (.fn f caps)=.fn f (Ze ρ caps):=rfl
theorem ZCG  : Zk ρ (.nilm)=(.nilm):=rfl
theorem ZCg  : Zk ρ (.nili)=(.nili):=rfl
theorem ZH8 (t:Nat) (x:AVal):Zk ρ (.iface t x)=.iface t (Zk ρ x):=rfl
theorem ZxL (x:AVal):Zk ρ (.pan x)=.pan (Zk ρ x):=rfl
theorem ZFL (f:Nat):ZaX (.fn f [])=true:=rfl
theorem ZvQ (f:Nat):Z5 (.fn f [])=true:=rfl
theorem ZIG (t:Nat) (x:AVal):Zbv (.pan (.iface t x))=ZaP x:=rfl
theorem Zym (live:List Nat) (tm:Tms):Zld live (some (tm,σ,none))=some (.normal,keepL live tm,σ):=rfl
theorem ZD9 (live:List Nat) (tm:Tms) (x:AVal):Zld live (some (tm,σ,some x))=some (.panic x,[],σ):=rfl
theorem ZCJ (live:List Nat):Zld live none=none:=rfl
theorem ZzL (t o:Nat):Zk ρ (.ref t o)=(match ρ t 0 with | some (t',0)=>.ref t' o | _=>.any):=rfl
theorem ZMi (t:Nat):Zk ρ (.map t)=(match ρ t 0 with | some (t',0)=>.map t' | _=>.any):=rfl
theorem ZEO (t g lo n:Nat):Zk ρ (.sl t g lo n)=(match ρ t g with | some (t',g')=>.sl t' g' lo n | none=>.any):=rfl
theorem ZKz (t g i o:Nat):Zk ρ (.eref t g i o)=(match ρ t g with | some (t',g')=>.eref t' g' i o | none=>.any):=rfl
theorem ZLI:Zp []=[]:=rfl
theorem ZDS (x:AVal) (xs:List AVal):Zp (x::xs)=ZV x++Zp xs:=rfl
theorem ZKZ:Ze ρ []=[]:=rfl
theorem Zve (x:AVal) (xs:List AVal):Ze ρ (x::xs)=Zk ρ x::Ze ρ xs:=rfl
end
end
section
mutual
def ZG:AVal->Bool
 | .ref _ _=>false
 | .eref _ _ _ _=>false
 | .sl _ _ _ _=>false
 | .map _=>false
 | .agg cs=>Zd cs
 | .tup vs=>Zd vs
 | .fn _ vs=>Zd vs
 | .iface _ x=>ZG x
 | .pan x=>ZG x
 | .top=>true
 | .any=>true
 | .int _ _=>true
 | .bool _=>true
 | .str _=>true
 | .nilp=>true
 | .nilm=>true
 | .nili=>true
 | .iptr _ _=>true
 | .lst _ _=>true
def Zd:List AVal->Bool
 | []=>true
 | x::xs=>ZG x && Zd xs
end
mutual
theorem ZaW (ρ:Rho):∀ (x:AVal),ZG x=true->Zk ρ x=x/\ZV x=[]
 | .ref _ _,h=>by simp [ZG] at h
 | .eref _ _ _ _,h=>by simp [ZG] at h
 | .sl _ _ _ _,h=>by simp [ZG] at h
 | .map _,h=>by simp [ZG] at h
 | .agg cs,h=>by have:=ZaM ρ cs (by simpa only [ZG] using h);exact ⟨by simp only [Zk,this.1],by simp only [ZV,this.2]⟩
 | .tup cs,h=>by have:=ZaM ρ cs (by simpa only [ZG] using h);exact ⟨by simp only [Zk,this.1],by simp only [ZV,this.2]⟩
 | .fn f cs,h=>by have:=ZaM ρ cs (by simpa only [ZG] using h);exact ⟨by simp only [Zk,this.1],by simp only [ZV,this.2]⟩
 | .iface t x,h=>by have:=ZaW ρ x (by simpa only [ZG] using h);exact ⟨by simp only [Zk,this.1],by simp only [ZV,this.2]⟩
 | .pan x,h=>by have:=ZaW ρ x (by simpa only [ZG] using h);exact ⟨by simp only [Zk,this.1],by simp only [ZV,this.2]⟩
 | .top,_=>⟨rfl,rfl⟩
 | .any,_=>⟨rfl,rfl⟩
 | .int _ _,_=>⟨rfl,rfl⟩
 | .bool _,_=>⟨rfl,rfl⟩
 | .str _,_=>⟨rfl,rfl⟩
 | .nilp,_=>⟨rfl,rfl⟩
 | .nilm,_=>⟨rfl,rfl⟩
 | .nili,_=>⟨rfl,rfl⟩
 | .iptr _ _,_=>⟨rfl,rfl⟩
 | .lst _ _,_=>⟨rfl,rfl⟩
theorem ZaM (ρ:Rho):∀ (xs:List AVal),Zd xs=true->Ze ρ xs=xs/\Zp xs=[]
 | [],_=>⟨rfl,rfl⟩
 | x::xs,h=>by
  simp only [Zd,Bool.and_eq_true] at h
  have h1:=ZaW ρ x h.1
  have h2:=ZaM ρ xs h.2
  exact ⟨by simp only [Ze,h1.1,h2.1],by simp only [Zp,h1.2,h2.2,List.append_nil]⟩
end
theorem ZtU {σ:Za} {r:AVal} (h:ZG r=true):Zak 0 σ r=some (r,[]):=by
 have h1:=ZaW (Zl σ 0 []) r h
 have hids:ZB 0 [r] σ=[]:=by
  unfold ZB
  simp only [Zp,h1.2,List.append_nil,List.range_zero,List.flatMap_nil]
  rfl
 unfold Zak gcA
 simp only [hids,Ze,Zv,h1.1]
def ZbZ:AVal->AVal
 | .tup vs=>.tup (vs.map ZD)
 | x=>ZD x
def Zb2:AVal->Bool
 | .tup vs=>vs.all Z5
 | x=>Z5 x
def ZbC:AVal->Bool
 | .fn _ _=>false
 | _=>true
def ZbK:AVal->Bool
 | .agg cs=>cs.all ZbC
 | x=>ZbC x
def Zb3:AVal->Bool
 | .tup vs=>vs.all ZbK
 | x=>ZbK x
theorem ZKo {k g n:Nat} {xs:List AVal} {σ:Za} {t:Nat} (hs:σ[t]?=some (.row g k xs)) (hn:n<=xs.length):Zbr 0 (some (.sl t g 0 n,σ))=some (.lst false (xs.take n),[]):=by
 have hv:viewR σ (.sl t g 0 n)=some (.lst false (xs.take n),[t]):=by
  simp only [viewR,ZQ,ZK,ZY,hs,Nat.zero_add,hn,and_self,if_true,List.drop_zero]
 have e:Zbr 0 (some (.sl t g 0 n,σ))=(match viewR σ (.sl t g 0 n) with
  | some (r',ts)=>match gcA 0 [r'] (Zo σ ts) with
   | ([r''],σ')=>some (r'',σ')
   | _=>none
  | none=>none):=rfl
 rw [e,hv]
 exact ZtU rfl
theorem ZBN {m:Nat} {fn:ZE} {tm:Tms} {σ:Za}:Zar m fn (some (.ret,tm,σ))=match resA tm σ fn.res with
  | some r=>Zak m σ r
  | none=>none:=rfl
theorem ZFe {m:Nat} {fn:ZE} {tm:Tms} {σ:Za}:Zar m fn (some (.normal,tm,σ))=match resA tm σ fn.res with
  | some r=>Zak m σ r
  | none=>none:=rfl
theorem ZFP {m:Nat} {fn:ZE} {tm:Tms} {σ:Za} {x:AVal}:Zar m fn (some (.panic x,tm,σ))=Zak m σ (.pan x):=rfl
theorem ZGD  : ZG (.top)=true:=rfl
theorem ZxA  : ZG (.any)=true:=rfl
theorem Zwz (k:IntKind) (n:Int):ZG (.int k n)=true:=rfl
theorem ZyR (b:Bool):ZG (.bool b)=true:=rfl
theorem ZIA (l:List UInt8):ZG (.str l)=true:=rfl
theorem ZIZ  : ZG (.nilp)=true:=rfl
theorem ZH1 (t:Nat) (o:Nat):ZG (.ref t o)=false:=rfl
theorem ZEs (t:Nat) (g:Nat) (i:Nat) (o:Nat):ZG (.eref t g i o)=false:=rfl
theorem ZII (cs:List AVal) (o:Nat):ZG (.iptr cs o)=true:=rfl
theorem ZKS (x:Bool) (xs:List AVal):ZG (.lst x xs)=true:=rfl
theorem ZBT (t:Nat) (g:Nat) (lo:Nat) (n:Nat):ZG (.sl t g lo n)=false:=rfl
theorem ZxU (cs:List AVal):ZG (.agg cs)=Zd cs:=rfl
theorem ZCB (vs:List AVal):ZG (.tup vs)=Zd vs:=rfl
theorem Zyl (f:Nat) (caps:List AVal):ZG (.fn f caps)=Zd caps:=rfl
theorem ZDK  : ZG (.nilm)=true:=rfl
theorem ZFt (t:Nat):ZG (.map t)=false:=rfl
theorem ZJq  : ZG (.nili)=true:=rfl
theorem Zvf (t:Nat) (x:AVal):ZG (.iface t x)=ZG x:=rfl
theorem Zxh (x:AVal):ZG (.pan x)=ZG x:=rfl
theorem ZwU  : ZbC (.top)=true:=rfl
theorem ZAG  : ZbC (.any)=true:=rfl
theorem Zvk (k:IntKind) (n:Int):ZbC (.int k n)=true:=rfl
theorem ZG1 (b:Bool):ZbC (.bool b)=true:=rfl
theorem ZG2 (l:List UInt8):ZbC (.str l)=true:=rfl
theorem ZEp  : ZbC (.nilp)=true:=rfl
theorem ZwF (t:Nat) (o:Nat):ZbC (.ref t o)=true:=rfl
theorem ZGK (t:Nat) (g:Nat) (i:Nat) (o:Nat):ZbC (.eref t g i o)=true:=rfl
theorem ZF5 (cs:List AVal) (o:Nat):ZbC (.iptr cs o)=true:=rfl
theorem ZKH (x:Bool) (xs:List AVal):ZbC (.lst x xs)=true:=rfl
theorem ZGI (t:Nat) (g:Nat) (lo:Nat) (n:Nat):ZbC (.sl t g lo n)=true:=rfl
theorem Zxi (cs:List AVal):ZbC (.agg cs)=true:=rfl
theorem ZDi (vs:List AVal):ZbC (.tup vs)=true:=rfl
theorem ZL7 (f:Nat) (caps:List AVal):ZbC (.fn f caps)=false:=rfl
theorem ZKd  : ZbC (.nilm)=true:=rfl
theorem ZHr (t:Nat):ZbC (.map t)=true:=rfl
theorem ZAK  : ZbC (.nili)=true:=rfl
theorem ZAw (t:Nat) (x:AVal):ZbC (.iface t x)=true:=rfl
theorem ZEU (x:AVal):ZbC (.pan x)=true:=rfl
theorem Zxo  : ZbK (.top)=true:=rfl
theorem ZxG  : ZbK (.any)=true:=rfl
theorem ZDb (k:IntKind) (n:Int):ZbK (.int k n)=true:=rfl
theorem ZCx (b:Bool):ZbK (.bool b)=true:=rfl
theorem Zyd (l:List UInt8):ZbK (.str l)=true:=rfl
theorem ZLP  : ZbK (.nilp)=true:=rfl
theorem ZA8 (t:Nat) (o:Nat):ZbK (.ref t o)=true:=rfl
theorem ZGs (t:Nat) (g:Nat) (i:Nat) (o:Nat):ZbK (.eref t g i o)=true:=rfl
theorem ZGo (cs:List AVal) (o:Nat):ZbK (.iptr cs o)=true:=rfl
theorem Zu4 (x:Bool) (xs:List AVal):ZbK (.lst x xs)=true:=rfl
theorem Zwo (t:Nat) (g:Nat) (lo:Nat) (n:Nat):ZbK (.sl t g lo n)=true:=rfl
theorem ZFR (cs:List AVal):ZbK (.agg cs)=cs.all ZbC:=rfl
theorem ZKa (vs:List AVal):ZbK (.tup vs)=true:=rfl
theorem ZJQ (f:Nat) (caps:List AVal):ZbK (.fn f caps)=false:=rfl
theorem Zv2  : ZbK (.nilm)=true:=rfl
theorem ZCA (t:Nat):ZbK (.map t)=true:=rfl
theorem ZKv  : ZbK (.nili)=true:=rfl
theorem ZG4 (t:Nat) (x:AVal):ZbK (.iface t x)=true:=rfl
theorem ZL2 (x:AVal):ZbK (.pan x)=true:=rfl
theorem ZCT  : Zb3 (.top)=true:=rfl
theorem Zvg  : Zb3 (.any)=true:=rfl
theorem ZJa (k:IntKind) (n:Int):Zb3 (.int k n)=true:=rfl
theorem ZEt (b:Bool):Zb3 (.bool b)=true:=rfl
theorem ZBg (l:List UInt8):Zb3 (.str l)=true:=rfl
theorem ZvW  : Zb3 (.nilp)=true:=rfl
theorem ZLz (t:Nat) (o:Nat):Zb3 (.ref t o)=true:=rfl
theorem ZD4 (t:Nat) (g:Nat) (i:Nat) (o:Nat):Zb3 (.eref t g i o)=true:=rfl
theorem ZBe (cs:List AVal) (o:Nat):Zb3 (.iptr cs o)=true:=rfl
theorem ZIb (x:Bool) (xs:List AVal):Zb3 (.lst x xs)=true:=rfl
theorem ZFK (t:Nat) (g:Nat) (lo:Nat) (n:Nat):Zb3 (.sl t g lo n)=true:=rfl
theorem ZuW (cs:List AVal):Zb3 (.agg cs)=cs.all ZbC:=rfl
theorem Zxn (vs:List AVal):Zb3 (.tup vs)=vs.all ZbK:=rfl
theorem ZJT (f:Nat) (caps:List AVal):Zb3 (.fn f caps)=false:=rfl
theorem ZAs  : Zb3 (.nilm)=true:=rfl
theorem ZHS (t:Nat):Zb3 (.map t)=true:=rfl
theorem ZGL  : Zb3 (.nili)=true:=rfl
theorem ZK1 (t:Nat) (x:AVal):Zb3 (.iface t x)=true:=rfl
theorem ZJV (x:AVal):Zb3 (.pan x)=true:=rfl
theorem ZCd  : Zb2 (.top)=false:=rfl
theorem ZGc  : Zb2 (.any)=false:=rfl
theorem ZE6 (k:IntKind) (n:Int):Zb2 (.int k n)=true:=rfl
theorem ZBZ (b:Bool):Zb2 (.bool b)=true:=rfl
theorem ZHx (l:List UInt8):Zb2 (.str l)=true:=rfl
theorem ZDs  : Zb2 (.nilp)=true:=rfl
theorem ZBy (t:Nat) (o:Nat):Zb2 (.ref t o)=false:=rfl
theorem ZBO (t:Nat) (g:Nat) (i:Nat) (o:Nat):Zb2 (.eref t g i o)=false:=rfl
theorem ZvI (cs:List AVal) (o:Nat):Zb2 (.iptr cs o)=false:=rfl
theorem ZEZ (x:Bool) (xs:List AVal):Zb2 (.lst x xs)=true:=rfl
theorem Zzp (t:Nat) (g:Nat) (lo:Nat) (n:Nat):Zb2 (.sl t g lo n)=false:=rfl
theorem Zv1 (cs:List AVal):Zb2 (.agg cs)=cs.all ZaX:=rfl
theorem ZH3 (vs:List AVal):Zb2 (.tup vs)=vs.all Z5:=rfl
theorem ZMs  : Zb2 (.nilm)=true:=rfl
theorem Zwj (t:Nat):Zb2 (.map t)=false:=rfl
theorem ZLL  : Zb2 (.nili)=true:=rfl
theorem ZJd (t:Nat) (x:AVal):Zb2 (.iface t x)=false:=rfl
theorem ZDG (x:AVal):Zb2 (.pan x)=false:=rfl
theorem ZyK  : ZbZ (.top)=(.top):=rfl
theorem ZIJ  : ZbZ (.any)=(.any):=rfl
theorem Zvq (k:IntKind) (n:Int):ZbZ (.int k n)=(.int k n):=rfl
theorem ZAI (b:Bool):ZbZ (.bool b)=(.bool b):=rfl
theorem ZDA (l:List UInt8):ZbZ (.str l)=(.str l):=rfl
theorem ZuR  : ZbZ (.nilp)=(.nilp):=rfl
theorem ZHL (t:Nat) (o:Nat):ZbZ (.ref t o)=(.ref t o):=rfl
theorem ZLF (t:Nat) (g:Nat) (i:Nat) (o:Nat):ZbZ (.eref t g i o)=(.eref t g i o):=rfl
theorem Zu5 (cs:List AVal) (o:Nat):ZbZ (.iptr cs o)=(.iptr cs o):=rfl
theorem ZL9 (x:Bool) (xs:List AVal):ZbZ (.lst x xs)=.lst false xs:=rfl
theorem ZGR (t:Nat) (g:Nat) (lo:Nat) (n:Nat):ZbZ (.sl t g lo n)=(.sl t g lo n):=rfl
theorem ZCK (cs:List AVal):ZbZ (.agg cs)=.agg (cs.map Za7):=rfl
theorem Zxb (vs:List AVal):ZbZ (.tup vs)=.tup (vs.map ZD):=rfl
theorem ZLk (f:Nat) (caps:List AVal):ZbZ (.fn f caps)=(.fn f caps):=rfl
theorem ZDo  : ZbZ (.nilm)=(.nilm):=rfl
theorem ZKe (t:Nat):ZbZ (.map t)=(.map t):=rfl
theorem ZAq  : ZbZ (.nili)=(.nili):=rfl
theorem ZMx (t:Nat) (x:AVal):ZbZ (.iface t x)=(.iface t x):=rfl
theorem ZAa (x:AVal):ZbZ (.pan x)=(.pan x):=rfl
theorem ZAE:Zd []=true:=rfl
theorem ZKJ (x:AVal) (xs:List AVal):Zd (x::xs)=(ZG x && Zd xs):=rfl
theorem ZGi (f:Nat):Zb2 (.fn f [])=true:=rfl
theorem ZFj (p q:Bool):(if p=true then q else false)=(p && q):=by cases p <;> rfl
theorem ZBH (p q:Bool):(if p=true then true else q)=(p || q):=by cases p <;> rfl
theorem ZFi (p q:Bool):(if p=true then false else q)=(!p && q):=by cases p <;> rfl
theorem Zw5 (p q:Bool):(if p=true then q else true)=(!p || q):=by cases p <;> rfl
theorem ZHl (p q:Bool):(if p=false then q else false)=(!p && q):=by cases p <;> rfl
theorem ZKX (p q:Bool):(if p=false then true else q)=(!p || q):=by cases p <;> rfl
theorem ZJg (p q:Bool):(if p=false then false else q)=(p && q):=by cases p <;> rfl
theorem ZAM (p q:Bool):(if p=false then q else true)=(p || q):=by cases p <;> rfl
section
def ZdX (o:AOp):AOp:=⟨o.dst,o.ins,o.guard,[]⟩
def Zcp:Zf->Zf
 | .region ops chk live=>.region (ops.map ZdX) chk live
 | .seq a b=>.seq (Zcp a) (Zcp b)
 | .cond c a b=>.cond c (Zcp a) (Zcp b)
 | .block id c=>.block id (Zcp c)
 | .loop live c=>.loop live (Zcp c)
 | .skip=>.skip
 | .exit id=>.exit id
 | .ret=>.ret
 | .stuck=>.stuck
def Zi8 (f:ZE):ZE:=⟨f.res,Zcp f.body⟩
section
variable {O:ZL} {bf:Nat->Bool}
theorem ZKI (o:AOp) (s:Nat) (tm:Tms) (σ:Za):ZJ O bf (ZdX o) s tm σ=ZJ O bf o s tm σ:=rfl
theorem ZuA:∀ (ops:List AOp) (s:Nat) (tm:Tms) (σ:Za),ZT O bf (ops.map ZdX) s tm σ=ZT O bf ops s tm σ
 | [],_,_,_=>rfl
 | o::os,s,tm,σ=>by
  simp only [List.map_cons,ZT,ZKI]
  split
  ·rfl
  ·rfl
  ·rename_i tm' σ' c _ _
   rw [show (ZdX o).ins=o.ins from rfl,ZuA os]
theorem Zo0 (ops:List AOp):sitesOf (ops.map ZdX)=sitesOf ops:=by
 simp [sitesOf,ZdX,Function.comp_def]
theorem Zlo (ops:List AOp) (i:Nat):((ops.map ZdX).getD i default).ins=(ops.getD i default).ins:=by
 simp only [List.getD_eq_getElem?_getD,List.getElem?_map]
 cases ops[i]? <;> rfl
theorem ZEB (ops:List AOp) (b:Nat) (l:List (Nat×Nat)) (cs:List Cls):Zc0 (ops.map ZdX) b l cs=Zc0 ops b l cs:=by
 unfold Zc0
 congr 1
 funext p
 unfold Zca Zb0
 rw [Zlo,Zlo,<-List.map_take,Zo0]
theorem ZAn (ops:List AOp) (b:Nat) (l:List (Nat×Nat)) (cs:List Cls):Zc2 (ops.map ZdX) b l cs=Zc2 ops b l cs:=by
 unfold Zc2
 congr 2
 funext p
 unfold Zca Zb0
 rw [Zlo,Zlo,<-List.map_take,Zo0]
theorem ZzZ (ops:List AOp) (chk:Option (List (Nat×Nat))) (live:List Nat) (tm:Tms) (σ:Za):ZbT O bf (ops.map ZdX) chk live tm σ=ZbT O bf ops chk live tm σ:=by
 unfold ZbT
 rw [ZuA,Zo0]
 cases ZT O bf ops σ.length tm (σ++List.replicate (sitesOf ops) .free) with
 | none=>rfl
 | some q =>
  obtain ⟨tm',σ',cs,p⟩:=q
  cases p with
  | some x =>
   cases chk with
   | none=>rfl
   | some l=>simp only [Zcv,ZAn]
  | none =>
   cases chk with
   | none=>rfl
   | some l=>simp only [Zcv,ZEB]
theorem ZdF (m n:Nat):∀ (c:Zf),Z0 O bf m n (Zcp c)=Z0 O bf m n c
 | .region ops chk live=>by funext tm σ;simp only [Zcp,Z0,ZzZ]
 | .seq a b=>by funext tm σ;simp only [Zcp,Z0,ZdF m n a,ZdF m n b]
 | .cond c a b=>by funext tm σ;simp only [Zcp,Z0,ZdF m n a,ZdF m n b]
 | .block id c=>by funext tm σ;simp only [Zcp,Z0,ZdF m n c]
 | .loop live c=>by funext tm σ;simp only [Zcp,Z0,ZdF m n c]
 | .skip=>rfl
 | .exit id=>rfl
 | .ret=>rfl
 | .stuck=>rfl
end
theorem Zme (fs:Nat->Option ZE) (prim:Zcb) (bf:Nat->Bool):∀ n,Zaq (fun f=>(fs f).map Zi8) prim bf n=Zaq fs prim bf n
 | 0=>rfl
 | n+1=>by
  funext f args σ
  simp only [Zaq,Zme fs prim bf n]
  cases prim f with
  | some g=>rfl
  | none =>
   cases fs f with
   | none=>rfl
   | some fn =>
    simp only [Option.map_some,Zi8,ZdF]
    rfl
theorem ZJz (fs:Nat->Option ZE) (prim:Zcb) (bf:Nat->Bool):EV (fun f=>(fs f).map Zi8) prim bf=EV fs prim bf:=by
 funext f args σ
 apply ZeV
 intro r
 rw [Zc8,Zc8]
 simp only [Zme]
end
end
section
open Go.RowKit
def Ziw:List AVal->Za->Option (AVal×Za):=fun _ _=>none
theorem Zsx {α:Prop} {args:List AVal} {σ:Za} {r:AVal×Za} (h:Ziw args σ=some r):α:=by cases h
def ZiN (k bytes:Nat) (args:List AVal) (σ:Za):Option (AVal×Za):=match args with
 | [.str _]=>none
 | [a]=>match ZY σ a with
  | some (xs,_)=>if xs.length*bytes<=140737488355328/\kOk k xs=true then some (.sl σ.length 0 0 xs.length,σ++[.row 0 k xs]) else none
  | none=>none
 | _=>none
def Zev:Ann:={ nt:=8,lr:=fun _=>[7,6,5,4,3,2,0] }
structure Zuv (P:Program) (t:TypeId) (k bytes:Nat) (z:AVal) (f:FuncId):Prop where
 ex:∃ (F:Func) (e:TypeId) (i0 i1 i2 i3:Nat) (r0 r2 r3:Array Oper) (m b:Oper),
  P.funcs[f]?=some F/\F.results=#[.tmp 2]/\F.ntmps=8/\(F.name == "runtime.NumGoroutine")=false/\P.underlying t=some (.slice e) /\
  F.body=some (.seq (.region i0 r0 false) (.seq (.seq (.region i1 #[m,b] false) (.cond (.tmp 4) (.seq (.region i2 r2 false) .ret) .skip)) (.seq (.region i3 r3 false) .ret))) /\
  m.op=.move (.tmp 0)/\m.dst=some 3/\m.guard=none/\b.op=.binOp .eql t (.tmp 3) (.const (.slice none 0 0)) t/\b.dst=some 4/\b.guard=none /\
  ZcT P Zev r0 r0.toList=some [⟨some 2,.mov (.c (.lst true [])),none,[]⟩] /\
  ZcT P Zev r2 r2.toList=some [⟨some 2,.mov (.c (.lst true [])),none,[]⟩] /\
  (∃ a1 a2 a3 a4,ZcT P Zev r3 r3.toList=some [⟨some 5,.bslice false k 0 z [],none,a1⟩,⟨some 6,.mov (.t 0),none,a2⟩,⟨some 7,.app k bytes z (.t 5) (.t 6),none,a3⟩,⟨some 2,.mov (.t 7),none,a4⟩])/\z.cells.length=k/\0 < k
section
variable {P:Program} {base:Nat->Prop} {w0 w w':World} {I0 I:Imm} {β:Bmap} {σ:Za}
theorem noO:Zaw P (fun _ _ _=>none):=by intro f args σ r σ' h;cases h
theorem Zd4 {ops:Array Oper} {Q:Exit->Act->World->Prop} {o:Oper} {l:List Oper} {a:Act} {w:World} (hg:o.guard=none) (h:o.wp P a w (wpList P ops Q l) Q):wpList P ops Q (o::l) a w:=by
 unfold wpList
 have : Region.wanted o (yielded ops a.tmps)=true:=by unfold Region.wanted;rw [hg]
 rw [this]
 simp only [if_true]
 exact Or.inl h
theorem ZLA {t : TypeId} {k bytes : Nat} {z : AVal} {f : FuncId} (hm : P.follows .mixedOrders = true) (C : Zuv P t k bytes z f) {args : List AVal} {σ σ' : Za} {r : AVal} (h : ZiN k bytes args σ = some (r, σ')) :
    (∃ fn, P.funcs[f]? = some fn /\ fn.body.isSome = true /\ (fn.name == "runtime.NumGoroutine") = false) /\
    ∀ base w0 I0 I β w (vs : Array Value), KLt base w0 -> Rel base w0 I0 I β σ w -> VRs I β args vs.toList ->
      Calls P f vs w (fun e w' => ∃ u, Ends r e u /\ ZbR σ.length base w0 I0 I β r σ' u w') := by
  obtain ⟨F, e, i0, i1, i2, i3, r0, r2, r3, m, b, hF, hres, hnt, hname, hu, hbody, hm1, hm2, hm3, hb1, hb2, hb3, hc0, hc2, ⟨a1, a2, a3, a4, hc3⟩, hzk, hk0⟩ := C.ex
  refine ⟨⟨F, hF, by rw [hbody]; rfl, hname⟩, ?_⟩
  intro base w0 I0 I β w vs hb R hargs
  unfold ZiN at h
  split at h
  case h_1 => cases h
  case h_3 => cases h
  rename_i a hns
  split at h
  case h_2 => cases h
  rename_i xs ts hel0
  split at h
  case isFalse => cases h
  rename_i hc
  obtain ⟨hbytes, hkOk⟩ := hc
  simp only [Option.some.injEq, Prod.mk.injEq] at h
  obtain ⟨rfl, rfl⟩ := h
  have hnt8 : ∀ (n : Nat), n < 8 -> n < Zev.nt := fun n h => h
  refine calls_of_wp hF hbody ?_
  have hsz : vs.size = 1 := by have := ZaO hargs; simpa using this.symm
  have T := ZoC hargs (F.ntmps - vs.size)
  have hst : StR ZbG 8 base w0 I0 I β (enterA 0 [a] []) σ { tmps := vs ++ Array.replicate (F.ntmps - vs.size) undef, defers := [] } w := ⟨I, β, Imm.le.refl I, Bmap.le.refl β, T, ⟨ZeQ.2 rfl, by simp; omega⟩, R⟩
  have fin : ∀ {tm : Tms} {σ1 : Za} {y : AVal} {a' : Act} {w1 : World}, StR ZbG 8 base w0 I0 I β tm σ1 a' w1 -> tget tm 2 = y -> (∀ I' β' u, I.le I' -> β.le β' -> Rel base w0 I0 I' β' σ1 w1 -> VR I' β' y u -> ZbR σ.length base w0 I0 I β (.sl σ.length 0 0 xs.length) (σ ++ [.row 0 k xs]) u w1) ->
      a'.defers = [] /\ ∃ v, (results F a'.tmps).run P w1 = .ok v w1 /\ ∃ u, Ends (.sl σ.length 0 0 xs.length) (.returned v) u /\ ZbR σ.length base w0 I0 I β (.sl σ.length 0 0 xs.length) (σ ++ [.row 0 k xs]) u w1 := by
    rintro tm σ1 y a' w1 ⟨I', β', h1, h2, h3, h4, h5⟩ hy hpost
    refine ⟨ZeQ.1 h4.1, a'.tmps.getD 2 undef, by simp [results, hres], _, rfl, ?_⟩
    have := h3 2
    rw [hy] at this
    exact hpost I' β' _ h1 h2 h5 this
  have R0 : ZaK P Zev (.region i0 r0 false) = .region [⟨some 2, .mov (.c (.lst true [])), none, []⟩] none [7, 6, 5, 4, 3, 2, 0] := by simp only [ZaK]; rw [hc0]; rfl
  have R2 : ZaK P Zev (.region i2 r2 false) = .region [⟨some 2, .mov (.c (.lst true [])), none, []⟩] none [7, 6, 5, 4, 3, 2, 0] := by simp only [ZaK]; rw [hc2]; rfl
  have R3 : ZaK P Zev (.region i3 r3 false) = .region [⟨some 5, .bslice false k 0 z [], none, a1⟩, ⟨some 6, .mov (.t 0), none, a2⟩, ⟨some 7, .app k bytes z (.t 5) (.t 6), none, a3⟩, ⟨some 2, .mov (.t 7), none, a4⟩] none [7, 6, 5, 4, 3, 2, 0] := by simp only [ZaK]; rw [hc3]; rfl
  refine wp_seq ?_
  refine Zj3 (an := Zev) (dr := ZbG) (bf := fun _ => false) noO (fun n hn => by simp [ZbG] at hn) hm hb R0 hst (e := .normal) (tm' := keepL [7, 6, 5, 4, 3, 2, 0] [(2, .lst true []), (0, a)]) (σ' := σ) ?_ ?_
  . simp [ZbT, Zcv, sitesOf, nsite, ZT, ZJ, Zbf, execI, Opd.ev, tput, tins, enterA]
  intro a1' w1 hst1
  simp only [Exit.then]
  refine wp_seq (wp_seq ?_)
  refine wp_region_list ?_
  refine Zd4 hm3 ?_
  obtain ⟨I1, β1, g1, g2, g3, g4, g5⟩ := hst1
  have hs8 : 8 <= a1'.tmps.size := g4.2
  have hT0 : VR I1 β1 a (a1'.tmps.getD 0 undef) := by have := g3 0; simpa [keepL, tget] using this
  obtain ⟨A, cap, hv0, q1, q2, q5, q4⟩ := ZmX g5 (fun l e => hns l e) hel0 hT0
  show m.wp P a1' w1 _ _
  unfold Oper.wp
  have e1 : (execOp a1'.eval m).run P w1 = .ok (.value (.slice A xs.length cap)) w1 := by
    unfold execOp; rw [hm1]; simp [Act.eval, hv0]
  rw [e1, Oper.upon_value, hm2]
  refine Zd4 hb3 ?_
  unfold Oper.wp
  have hs3 : (a1'.put (some 3) (.slice A xs.length cap)).tmps.getD 3 undef = .slice A xs.length cap := by
    have : 3 < a1'.tmps.size := by omega
    simp [Act.put, Array.getD, this]
  have e2 : (execOp (a1'.put (some 3) (.slice A xs.length cap)).eval b).run P w1 = .ok (.value (.bool A.isNone)) w1 := by
    have hq : (Op.equal t (.slice A xs.length cap) (.slice none 0 0)).run P w1 = .ok A.isNone w1 := run_equal_slice_nil w1 t e A xs.length cap hu
    unfold execOp; rw [hb1]
    simp only [Act.eval]
    rw [hs3]
    simp [eqGuard, binOp, hq]
  rw [e2, Oper.upon_value, hb2]
  refine wpList_nil ?_
  have hst2 : StR ZbG 8 base w0 I0 I β [(4, .bool A.isNone), (2, .lst true []), (0, a)] σ ((a1'.put (some 3) (.slice A xs.length cap)).put (some 4) (.bool A.isNone)) w1 := by
    refine ⟨I1, β1, g1, g2, fun n => ?_, ⟨Zjh (Zjh g4.1 (fun n _ hm => by simp [ZbG] at hm)) (fun n _ hm => by simp [ZbG] at hm), by rw [Zd8, Zd8]; exact g4.2⟩, g5⟩
    have hs : 4 < (a1'.put (some 3) (.slice A xs.length cap)).tmps.size := by rw [Zd8]; omega
    have ne : ∀ {a : Act} {d j : Nat} {u : Value}, d ≠ j -> (a.put (some d) u).tmps.getD j undef = a.tmps.getD j undef := by
      intro a d j u hne
      simp only [Act.put, Array.getD_eq_getD_getElem?]; rw [Array.getElem?_setIfInBounds_ne hne]
    simp only [tget]
    split
    . rename_i e; subst e
      rw [show ((a1'.put (some 3) (.slice A xs.length cap)).put (some 4) (.bool A.isNone)).tmps.getD 4 undef = .bool A.isNone by
        simp only [Act.put] at hs ⊢
        simp [Array.getD] at hs ⊢
        omega]
      simp only [VR]
    . split
      . rename_i e; subst e
        rw [ne (by omega), ne (by omega)]
        have := g3 2; simpa [keepL, tget] using this
      . split
        . rename_i e; subst e
          rw [ne (by omega), ne (by omega)]
          have := g3 0; simpa [keepL, tget] using this
        . simp only [VR]
  simp only [Exit.then]
  cases hA : A.isNone with
  | true =>
    have hx0 : xs = [] := by
      rcases q4 with h | ⟨b, off, k', us, e, _⟩
      . exact h
      . rw [e] at hA; cases hA
    subst hx0
    have hev : ((a1'.put (some 3) (.slice A 0 cap)).put (some 4) (.bool A.isNone)).eval (.tmp 4) = .bool true := by
      obtain ⟨_, _, _, _, T, _, _⟩ := hst2
      have := T 4
      simp only [tget, if_true, VR] at this
      rw [hA] at this
      simpa [Act.eval, hA] using this
    refine wp_cond_true (by simpa [hA] using hev) ?_
    refine wp_seq ?_
    rw [hA] at hst2
    refine Zj3 (an := Zev) (dr := ZbG) (bf := fun _ => false) noO (fun n hn => by simp [ZbG] at hn) hm hb R2 hst2 (e := .normal) (tm' := keepL [7, 6, 5, 4, 3, 2, 0] [(4, .bool true), (2, .lst true []), (0, a)]) (σ' := σ) ?_ ?_
    . simp [ZbT, Zcv, sitesOf, nsite, ZT, ZJ, Zbf, execI, Opd.ev, tput, tins]
    intro a3' w3 hst3
    simp only [Exit.then]
    refine wp_ret ?_
    refine fin hst3 (y := .lst true []) (by simp [keepL, tget]) ?_
    intro I' β' u h1 h2 h3 h4
    simp only [VR] at h4
    obtain ⟨A', cap', rfl, _, _, hx, _⟩ := h4
    have hcap : cap' = 0 := by simpa using hx
    subst hcap
    have R4 := h3.reserve 1
    have hfree : (σ ++ List.replicate 1 ZI.free)[σ.length]? = some .free := by simp
    obtain ⟨R5, hle⟩ := R4.newNone hfree k hk0
    refine ⟨I', _, h1, KeptE.of_le (h2.trans hle), ?_, ?_⟩
    . have : (σ ++ List.replicate 1 ZI.free).set σ.length (.row 0 k []) = σ ++ [.row 0 k []] := by simp
      rw [this] at R5; exact R5
    . simp only [ZaN]
      rw [ZbY]
      exact ⟨_, Bmap.put_same β' σ.length 0 _, by simp, by simp, Or.inr ⟨rfl, rfl, A', rfl⟩⟩
  | false =>
    have hev : ((a1'.put (some 3) (.slice A xs.length cap)).put (some 4) (.bool A.isNone)).eval (.tmp 4) = .bool false := by
      obtain ⟨_, _, _, _, T, _, _⟩ := hst2
      have := T 4
      simp only [tget, if_true, VR] at this
      rw [hA] at this
      simpa [Act.eval, hA] using this
    refine wp_cond_false (by simpa [hA] using hev) ?_
    refine wp_skip ?_
    rw [hA] at hst2
    simp only [Exit.then]
    refine wp_seq ?_
    have hel : ZY (σ ++ [ZI.free]) a = some (xs, ts) := Zf7 hel0 (fun t ht => by
      obtain ⟨g, k, ys, h | h⟩ := ZkG hel0 t ht <;> (rw [List.getElem?_append_left (List.getElem?_eq_some_iff.1 h).1]))
    refine Zj3 (an := Zev) (dr := ZbG) (bf := fun _ => false) noO (fun n hn => by simp [ZbG] at hn) hm hb R3 hst2 (e := .normal) (tm' := keepL [7, 6, 5, 4, 3, 2, 0] [(7, .sl σ.length 0 0 xs.length), (6, a), (5, .lst true []), (4, .bool false), (2, .sl σ.length 0 0 xs.length), (0, a)]) (σ' := σ ++ [.row 0 k xs]) ?_ ?_
    . have hfa : freeAt (σ ++ [ZI.free]) σ.length = true := by simp [freeAt]
      have hnp : (∃ x ys, a = .lst x ys) \/ ∃ t g lo n, a = .sl t g lo n := by
        cases a with
        | lst x ys => exact Or.inl ⟨x, ys, rfl⟩
        | sl t g lo n => exact Or.inr ⟨t, g, lo, n, rfl⟩
        | str l => exact absurd rfl (hns l)
        | _ => simp [ZY] at hel0
      rcases hnp with ⟨x, ys, rfl⟩ | ⟨t', g', lo, n, rfl⟩
      . simp [ZbT, Zcv, sitesOf, nsite, ZT, ZJ, Zbf, execI, Opd.ev, tput, tins, tget, viewAs, Zo, hzk, ZaR, hel, hkOk, hbytes, hfa]
      . simp [ZbT, Zcv, sitesOf, nsite, ZT, ZJ, Zbf, execI, Opd.ev, tput, tins, tget, viewAs, Zo, hzk, ZaR, hel, hkOk, hbytes, hfa]
    intro a3' w3 hst3
    simp only [Exit.then]
    refine wp_ret ?_
    refine fin hst3 (y := .sl σ.length 0 0 xs.length) (by simp [keepL, tget]) ?_
    intro I' β' u h1 h2 h3 h4
    exact ⟨I', β', h1, KeptE.of_le h2, h3, h4⟩
end
end
section
open Go.RowKit
def ZmU (args:List AVal) (σ:Za):Option (AVal×Za):=match args with
 | [.str l]=>some (.bool (Lib.validD l),σ)
 | _=>none
section
variable {P:Program} {base:Nat->Prop} {w0 w w':World} {I0 I:Imm} {β:Bmap} {σ:Za}
theorem ZyC {f:Nat} (hf:∃ fn,P.funcs[f]?=some fn/\fn.body.isSome=true/\(fn.name == "runtime.NumGoroutine")=false) {args:List AVal} {r:AVal} {u:Value} (hn:∀ x,r≠.pan x) (hr:∀ I β,VR I β r u)
  (h:∀ base w0 I0 I β w (vs:Array Value),Rel base w0 I0 I β σ w->VRs I β args vs.toList->Calls P f vs w (fun e w'=>e=.returned u/\Below w.heap.size w w')) :
  (∃ fn,P.funcs[f]?=some fn/\fn.body.isSome=true/\(fn.name == "runtime.NumGoroutine")=false) /\
  ∀ base w0 I0 I β w (vs:Array Value),KLt base w0->Rel base w0 I0 I β σ w->VRs I β args vs.toList ->
   Calls P f vs w (fun e w'=>∃ u,Ends r e u/\ZbR σ.length base w0 I0 I β r σ u w'):=by
 refine ⟨hf,fun base w0 I0 I β w vs hb R hv=>(h base w0 I0 I β w vs R hv).mono ?_⟩
 rintro e w' ⟨rfl,hB⟩
 have hbw:=R.base_le hb
 refine ⟨u,?_,I,β,Imm.le.refl I,KeptE.refl _ β,R.stay (Imm.le.refl I) ⟨hB.os,hB.tape,hB.output,hB.size,fun k hk=>hB.block k (hbw k hk)⟩ (fun _ _ _=>rfl) ?_ ?_,by rw [ZfH hn];exact hr I β⟩
 ·cases r <;> first | rfl | exact absurd rfl (hn _)
 ·intro b o x hx
  have h1:=R.imm b o x hx
  have hlt:=ZdK h1
  rw [<-h1]
  simp only [World.cell?,hB.block b hlt]
 ·intro t x b hx hb'
  exact ⟨hB.block b ((R.blk t x hx).owns_lt hb'),(R.own t x b hx hb').2⟩
theorem ZDX (R:Rel base w0 I0 I β σ w):Lib.Utf8Tabs 1 2 w:=by
 refine ⟨fun c hc=>R.imm _ _ _ (R.glob _ _ _ (by simp [Gl,hc])),fun i hi=>⟨R.imm _ _ _ (R.glob _ _ _ ?_),R.imm _ _ _ (R.glob _ _ _ ?_)⟩⟩
 ·have h1:2*i < 32:=by omega
  have h2:2*i % 2=0:=by omega
  have h3:2*i / 2=i:=by omega
  simp [Gl,h1,h3]
 ·have h1:2*i+1 < 32:=by omega
  have h2:(2*i+1) % 2=1:=by omega
  have h3:(2*i+1) / 2=i:=by omega
  simp [Gl,h1,h2,h3]
theorem ZBj {f:Nat} (hf:∃ fn,P.funcs[f]?=some fn/\fn.body.isSome=true/\(fn.name == "runtime.NumGoroutine")=false)
  (hc:∀ (s:ByteArray) (w:World),s.size<=9223372036854775807->Lib.Utf8Tabs 1 2 w->Calls P f #[.string s] w fun e w'=>e=.returned (.bool (Lib.validD s.data.toList))/\Below w.heap.size w w') {args:List AVal} {σ σ':Za} {r:AVal} (h:ZmU args σ=some (r,σ')) :
  (∃ fn,P.funcs[f]?=some fn/\fn.body.isSome=true/\(fn.name == "runtime.NumGoroutine")=false) /\
  ∀ base w0 I0 I β w (vs:Array Value),KLt base w0->Rel base w0 I0 I β σ w->VRs I β args vs.toList ->
   Calls P f vs w (fun e w'=>∃ u,Ends r e u/\ZbR σ.length base w0 I0 I β r σ' u w'):=by
 unfold ZmU at h
 split at h
 case h_2=>cases h
 rename_i l
 simp only [Option.some.injEq,Prod.mk.injEq] at h
 obtain ⟨rfl,rfl⟩:=h
 refine ZyC hf (u:=.bool (Lib.validD l)) (by simp) (fun _ _=>by simp only [VR]) ?_
 intro base w0 I0 I β w vs R hv
 obtain ⟨vs⟩:=vs
 simp only [VRs,VR] at hv
 obtain ⟨v1,r1,e1,⟨rfl,hl⟩,rfl⟩:=hv
 subst e1
 refine (hc ⟨l.toArray⟩ w (by simpa [ByteArray.size] using hl) (ZDX R)).mono ?_
 rintro e w' ⟨rfl,hB⟩
 exact ⟨by simp,hB⟩
end
end
section
def Zer {α:Type} (d:α):List (Nat×α)->Nat->α
 | [],_=>d
 | (k,v)::r,n=>if k=n then v else Zer d r n
def Zr (own raw:List Nat) (cfg cfg2:List (Nat×Nat×Bool)) (lr ll:List (Nat×List Nat)):Ann:={ own:=fun n=>if own.contains n then 1 else if raw.contains n then 2 else 0,cfg:=Zer (0,true) cfg,cfg2:=Zer (0,true) cfg2,lr:=Zer [] lr,ll:=Zer [] ll }
def ZJL:List (Nat×Ann):=[
 (41,Zr [] [] [] [] [(0,[0]),(1,[2])] []),
 (27,Zr [] [] [(61,1,true)] [] [(0,[1]),(1,[2,1]),(2,[10,2,1]),(3,[11,10,2,1]),(4,[1]),(5,[15,10,2,1]),(6,[3,2,1]),(7,[3,2,1]),(8,[2,1]),(9,[2,1]),(10,[1]),(11,[37,10,2,1]),(12,[1]),(13,[41,10,2,1]),(14,[41,10,2,1]),(15,[41,10,2,1]),(16,[41,10,2,1]),(17,[1]),(18,[1]),(19,[50,10,2,1]),(20,[1]),(21,[56,10,2,1]),(22,[1]),(23,[61,10,2,1]),(24,[61,10,2,1]),(25,[1]),(26,[67,10,1]),(27,[67,1]),(28,[1]),(29,[])] []),
 (63,Zr [] [] [] [] [(0,[])] []),
 (65,Zr [] [] [] [] [(0,[])] []),
 (56,Zr [] [] [] [] [(0,[0]),(1,[3,0]),(2,[3]),(3,[2])] []),
 (54,Zr [] [] [] [] [(0,[2,0]),(1,[2,0]),(2,[2,0]),(3,[3,2,0]),(4,[3,2,0]),(5,[3,2,0]),(6,[3,2,0]),(7,[2,0]),(8,[2,0]),(9,[2,0]),(10,[2,0]),(11,[107,2,0]),(12,[2,0]),(13,[2,0]),(14,[2,0]),(15,[129,2,0]),(16,[2,0]),(17,[138,2,0]),(18,[])] []),
 (95,Zr [] [] [] [] [(0,[0]),(1,[5,4,3,0]),(2,[4,3,0]),(3,[3]),(4,[2])] []),
 (26,Zr [] [] [] [] [(0,[4,1]),(1,[4,1]),(2,[4,1]),(3,[24,4,1]),(4,[]),(5,[4]),(6,[4]),(7,[])] []),
 (59,Zr [] [] [] [] [(0,[0]),(1,[])] []),
 (61,Zr [] [] [] [] [(0,[1,0]),(1,[1,0]),(2,[1,0]),(3,[29,1,0]),(4,[1,0])] [(3,[1,0])]),
 (55,Zr [] [] [] [] [(0,[1,0]),(1,[1,0]),(2,[5,1,0]),(3,[5]),(4,[4])] []),
 (57,Zr [] [] [] [] [(0,[1,0]),(1,[7,6,5,0]),(2,[6,5,0]),(3,[5]),(4,[4])] []),
 (58,Zr [] [] [] [] [(0,[0]),(1,[13,0]),(2,[0]),(3,[0]),(4,[])] []),
 (60,Zr [] [] [] [] [(0,[7,0]),(1,[0]),(2,[19,0]),(3,[])] []),
 (62,Zr [] [] [] [] [(0,[2,0]),(1,[3,2,0]),(2,[3,2,0]),(3,[3,2,0]),(4,[2,0]),(5,[2,0]),(6,[])] []),
 (64,Zr [] [] [] [] [(0,[0]),(1,[5,4,3,0]),(2,[4,3,0]),(3,[3]),(4,[2])] []),
 (39,Zr [] [] [(82,1,true),(78,1,true),(84,1,true),(79,1,true),(80,1,true),(83,1,true),(81,1,true)] [] [(0,[3,0]),(1,[11,3,0]),(2,[12,11,3,0]),(3,[]),(4,[17,11,3,0]),(5,[3,0]),(6,[3,0]),(7,[]),(8,[32,11,3,0]),(9,[3,0]),(10,[40,3,0]),(11,[3,0]),(12,[3,0]),(13,[]),(14,[55,11,3,0]),(15,[55,11,3,0]),(16,[55,11,3,0]),(17,[55,11,3,0]),(18,[3,0]),(19,[]),(20,[67,11,3,0]),(21,[3,0]),(22,[75,74,73,0]),(23,[76,75,74,73,0]),(24,[75,74,73,5,0]),(25,[75,74,73,5,0]),(26,[75,74,73,0]),(27,[75,74,73,0]),(28,[102,11,3,0]),(29,[3,0]),(30,[110,109,108,0]),(31,[111,110,109,108,0]),(32,[110,109,108,7,0]),(33,[110,109,108,0]),(34,[110,109,108,0]),(35,[118,11,3,0]),(36,[118,11,3,0]),(37,[3,0]),(38,[127,126,125,0]),(39,[128,127,126,125,0]),(40,[127,126,125,9,0]),(41,[127,126,125,0]),(42,[127,126,125,0]),(43,[135,11,3,0]),(44,[135,3,0]),(45,[])] [(23,[75,74,73,0]),(31,[110,109,108,0]),(39,[127,126,125,0])]),
 (78,Zr [] [] [(105,1,true),(79,1,true),(80,1,true),(81,1,true)] [] [(0,[3,0]),(1,[3,0]),(2,[3,0]),(3,[3,0]),(4,[3,0]),(5,[3,0]),(6,[3,0]),(7,[49,3,0]),(8,[3,0]),(9,[3,0]),(10,[3,0]),(11,[66,3,0]),(12,[3,0]),(13,[72,3,0]),(14,[])] []),
 (105,Zr [] [] [(82,1,true)] [] [(0,[4,0]),(1,[])] []),
 (84,Zr [] [] [(79,1,true),(80,1,true)] [] [(0,[3,0]),(1,[3,0]),(2,[])] []),
 (79,Zr [] [] [(82,1,true)] [] [(0,[])] []),
 (80,Zr [] [] [(82,1,true)] [] [(0,[6,0]),(1,[])] []),
 (83,Zr [] [] [(79,1,true),(80,1,true)] [] [(0,[3,0]),(1,[12,3,0]),(2,[3,0]),(3,[20,3,0]),(4,[])] []),
 (81,Zr [] [] [(82,1,true)] [] [(0,[4,0]),(1,[])] []),
 (13,Zr [] [] [] [] [(0,[9,1,0]),(1,[1,0]),(2,[])] []),
 (14,Zr [] [] [] [] [(0,[0]),(1,[2])] []),
 (32,Zr [] [] [] [] [(0,[0]),(1,[3,0]),(2,[12,3,0]),(3,[3,0]),(4,[30,3,0]),(5,[2]),(6,[4,0]),(7,[37,4,0]),(8,[4,0]),(9,[55,4,0]),(10,[2]),(11,[5,0]),(12,[62,5,0]),(13,[5,0]),(14,[80,5,0]),(15,[2]),(16,[2])] [(2,[3,0]),(7,[4,0]),(12,[5,0])]),
 (33,Zr [] [] [] [] [(0,[0]),(1,[3,0]),(2,[17,3,0]),(3,[3,0]),(4,[4,3,0]),(5,[29,4,3,0]),(6,[4,3,0]),(7,[4,3,0]),(8,[5,0]),(9,[6,5,0]),(10,[49,6,5,0]),(11,[6,5,0]),(12,[7,6,5,0]),(13,[6,5,0]),(14,[8,5,0]),(15,[76,8,5,0]),(16,[8,5,0]),(17,[9,8,5,0]),(18,[10,9,8,5,0]),(19,[89,10,9,8,5,0]),(20,[10,9,8,5,0]),(21,[116,10,9,8,5,0]),(22,[2]),(23,[141,8,5,0]),(24,[2]),(25,[2])] [(2,[3,0]),(5,[4,3,0]),(10,[6,5,0]),(15,[8,5,0]),(19,[10,9,8,5,0])]),
 (35,Zr [] [] [] [] [(0,[0]),(1,[3,0]),(2,[17,3,0]),(3,[3,0]),(4,[4,3,0]),(5,[29,4,3,0]),(6,[4,3,0]),(7,[4,3,0]),(8,[5,0]),(9,[6,5,0]),(10,[48,6,5,0]),(11,[6,5,0]),(12,[7,6,5,0]),(13,[6,5,0]),(14,[8,5,0]),(15,[73,8,5,0]),(16,[8,5,0]),(17,[9,8,5,0]),(18,[10,9,8,5,0]),(19,[86,10,9,8,5,0]),(20,[10,9,8,5,0]),(21,[111,10,9,8,5,0]),(22,[2]),(23,[134,8,5,0]),(24,[2]),(25,[2])] [(2,[3,0]),(5,[4,3,0]),(10,[6,5,0]),(15,[8,5,0]),(19,[10,9,8,5,0])]),
 (34,Zr [] [] [] [] [(0,[0]),(1,[3,0]),(2,[17,3,0]),(3,[3,0]),(4,[4,3,0]),(5,[29,4,3,0]),(6,[4,3,0]),(7,[4,3,0]),(8,[5,0]),(9,[6,5,0]),(10,[49,6,5,0]),(11,[6,5,0]),(12,[7,6,5,0]),(13,[6,5,0]),(14,[8,5,0]),(15,[76,8,5,0]),(16,[8,5,0]),(17,[9,8,5,0]),(18,[10,9,8,5,0]),(19,[89,10,9,8,5,0]),(20,[10,9,8,5,0]),(21,[116,10,9,8,5,0]),(22,[2]),(23,[141,8,5,0]),(24,[2]),(25,[2])] [(2,[3,0]),(5,[4,3,0]),(10,[6,5,0]),(15,[8,5,0]),(19,[10,9,8,5,0])]),
 (28,Zr [] [] [] [] [(0,[8,1,0]),(1,[9,8,1,0]),(2,[]),(3,[14,8,1,0]),(4,[4,1,0]),(5,[19,4,1,0]),(6,[4,1,0]),(7,[1,0]),(8,[1,0]),(9,[]),(10,[37,8,1,0]),(11,[1,0]),(12,[48,1,0]),(13,[1,0]),(14,[1,0]),(15,[0]),(16,[]),(17,[71,8,1,0]),(18,[71,8,1,0]),(19,[71,8,1,0]),(20,[71,8,1,0]),(21,[1,0]),(22,[]),(23,[84,8,1,0]),(24,[84,8,1,0]),(25,[1,0]),(26,[1,0]),(27,[]),(28,[104,8,1,0]),(29,[104,8,1,0]),(30,[1,0]),(31,[1,0]),(32,[]),(33,[124,8,1,0]),(34,[124,1,0]),(35,[])] []),
 (74,Zr [] [] [] [] [(0,[16,1,0]),(1,[1,0]),(2,[31,1,0]),(3,[1,0])] [(2,[1,0])]),
 (66,Zr [] [] [] [] [(0,[7,1,0]),(1,[1,0]),(2,[12,1,0]),(3,[1,0]),(4,[4,1,0]),(5,[4,1,0]),(6,[4,1,0]),(7,[4,1,0]),(8,[4,1,0]),(9,[4,1,0]),(10,[4,1,0]),(11,[87,1,0]),(12,[1,0]),(13,[1,0]),(14,[1,0]),(15,[1,0]),(16,[108,1,0]),(17,[1,0]),(18,[1,0]),(19,[1,0]),(20,[130,1,0]),(21,[1,0]),(22,[139,1,0]),(23,[])] []),
 (101,Zr [] [] [] [] [(0,[0]),(1,[10,0]),(2,[2]),(3,[5,4,3,0]),(4,[21,4,3,0]),(5,[]),(6,[2]),(7,[3]),(8,[2])] []),
 (29,Zr [] [] [] [] [(0,[8,1,0]),(1,[])] []),
 (73,Zr [] [] [] [] [(0,[19,1,0]),(1,[1,0]),(2,[34,1,0]),(3,[4,1,0]),(4,[41,4,1,0]),(5,[1,0]),(6,[5,4,1,0]),(7,[55,5,4,1,0]),(8,[5,4,1,0]),(9,[6,1,0]),(10,[78,6,1,0]),(11,[6,1,0]),(12,[1,0])] [(2,[1,0])]),
 (71,Zr [] [] [] [] [(0,[0]),(1,[3,0]),(2,[7,3,0]),(3,[3]),(4,[2])] []),
 (67,Zr [] [] [] [] [(0,[0]),(1,[2])] []),
 (69,Zr [] [] [] [] [(0,[1,0]),(1,[12,1,0]),(2,[4]),(3,[7,6,5,0]),(4,[24,7,6,5,0]),(5,[]),(6,[4]),(7,[5]),(8,[4])] []),
 (68,Zr [] [] [] [] [(0,[1,0]),(1,[5,1,0]),(2,[11,5,0]),(3,[5]),(4,[4])] []),
 (72,Zr [] [] [] [] [(0,[16,1,0]),(1,[1,0]),(2,[38,1,0]),(3,[])] []),
 (102,Zr [] [] [] [] [(0,[1,0]),(1,[19,1,0]),(2,[1]),(3,[4]),(4,[5,1,0]),(5,[5]),(6,[4])] []),
 (70,Zr [] [] [] [] [(0,[0]),(1,[10,0]),(2,[2]),(3,[5,4,3,0]),(4,[21,4,3,0]),(5,[]),(6,[2]),(7,[3]),(8,[2])] []),
 (100,Zr [] [] [] [] [(0,[0]),(1,[2])] []),
 (86,Zr [] [] [] [] [(0,[2,0]),(1,[])] []),
 (44,Zr [] [] [] [] [(0,[3,0]),(1,[9,3,0]),(2,[10,9,3,0]),(3,[]),(4,[15,9,3,0]),(5,[3,0]),(6,[3,0]),(7,[]),(8,[32,9,3,0]),(9,[3,0]),(10,[40,3,0]),(11,[3,0]),(12,[3,0]),(13,[]),(14,[53,9,3,0]),(15,[53,9,3,0]),(16,[53,9,3,0]),(17,[53,9,3,0]),(18,[3,0]),(19,[]),(20,[65,9,3,0]),(21,[65,9,3,0]),(22,[]),(23,[71,9,3,0]),(24,[3,0]),(25,[3,0]),(26,[4,3,0]),(27,[85,4,3,0]),(28,[4,3,0]),(29,[5,4,3,0]),(30,[5,4,3,0]),(31,[4,3,0]),(32,[117,9,3,0]),(33,[3,0]),(34,[3,0]),(35,[6,3,0]),(36,[131,6,3,0]),(37,[6,3,0]),(38,[6,3,0]),(39,[141,9,3,0]),(40,[141,3,0]),(41,[3,0]),(42,[3,0]),(43,[7,3,0]),(44,[156,7,3,0]),(45,[7,3,0]),(46,[7,3,0])] [(27,[4,3,0]),(36,[6,3,0]),(44,[7,3,0])]),
 (87,Zr [] [] [] [] [(0,[])] []),
 (85,Zr [] [] [] [] [(0,[3,0]),(1,[3,0]),(2,[4,3,0]),(3,[3,0]),(4,[3,0]),(5,[3,0]),(6,[3,0]),(7,[51,3,0]),(8,[3,0]),(9,[3,0]),(10,[3,0]),(11,[68,3,0]),(12,[3,0]),(13,[74,3,0]),(14,[])] []),
 (111,Zr [] [] [] [] [(0,[5,4,0]),(1,[])] []),
 (88,Zr [] [] [] [] [(0,[])] []),
 (91,Zr [] [] [] [] [(0,[3,0]),(1,[12,3,0]),(2,[3,0]),(3,[20,3,0]),(4,[])] []),
 (89,Zr [] [] [] [] [(0,[5,4,0]),(1,[])] []),
 (90,Zr [] [] [] [] [(0,[])] []),
 (131,Zr [] [] [] [] [(0,[]),(2,[]),(7,[4])] []),
 (144,Zr [] [] [] [] [] []),
 (127,Zr [] [] [] [] [(0,[0]),(1,[6,0]),(2,[3,2]),(3,[3,2])] []),
 (96,Zr [] [] [] [] [(0,[0]),(1,[3,0]),(2,[8,7,6,3]),(3,[9,8,7,6,3]),(4,[8,7,6,5,3]),(5,[8,7,6,3]),(6,[8,7,6,3]),(7,[2])] [(3,[8,7,6,3])]),
 (115,Zr [] [] [] [] [(0,[0]),(1,[17,0]),(2,[4,3,2]),(3,[3,0]),(4,[4,3,2])] []),
 (99,Zr [] [] [] [] [(0,[0]),(1,[5,4,3]),(2,[12,5,4,3]),(3,[4,3,2]),(4,[16,5,3]),(5,[4,3,2]),(6,[4,3,2])] []),
 (116,Zr [] [] [] [] [(0,[2,0]),(1,[9,8,7,2,0]),(2,[10,9,8,7,2,0]),(3,[9,8,7,6,5,2,0]),(4,[15,9,8,7,6,5,2,0]),(5,[9,8,7,6,5,2,0]),(6,[25,9,8,7,6,5,2,0]),(7,[31,5,2]),(8,[4,3,2]),(9,[4,3,2]),(10,[9,8,7,2,0]),(11,[38]),(12,[4,3,2]),(13,[4,3,2])] [(2,[9,8,7,2,0])]),
 (118,Zr [] [] [] [] [(0,[0]),(1,[6,0]),(2,[8,7,6,0]),(3,[6,4,0]),(4,[11,6,0]),(5,[2]),(6,[2])] [(2,[6,0])]),
 (37,Zr [] [] [] [] [(0,[0]),(1,[3,0]),(2,[8,7,6,3]),(3,[9,8,7,6,3]),(4,[8,7,6,5,3]),(5,[8,7,6,3]),(6,[8,7,6,3]),(7,[2])] [(3,[8,7,6,3])]),
 (106,Zr [] [] [] [] [(0,[1,0]),(1,[12,1,0]),(2,[4]),(3,[5,1,0]),(4,[6,5,0]),(5,[18,6,5,0]),(6,[6,5,0]),(7,[6,5,0]),(8,[6,5,0]),(9,[4])] [(5,[6,5,0])]),
 (108,Zr [] [] [] [] [(0,[0]),(1,[6,0]),(2,[3,2]),(3,[3,2])] []),
 (36,Zr [] [] [] [] [(0,[0]),(1,[10,0]),(2,[3,2]),(3,[4,0]),(4,[12,4,0]),(5,[4,0]),(6,[4,0]),(7,[3,2])] [(4,[4,0])]),
 (23,Zr [] [] [] [] [(0,[3,0]),(1,[4])] []),
 (51,Zr [] [] [] [] [(0,[2,1]),(1,[3])] []),
 (19,Zr [] [] [(39,1,true)] [] [(0,[2,1]),(1,[4,2,1]),(2,[4,2,1]),(3,[5,2,1]),(4,[32,5,2,1]),(5,[5,2,1]),(6,[7,6,5,2,1]),(7,[9,7,6,5,2,1]),(8,[73,5,2]),(9,[3,2]),(10,[3,2])] []),
 (17,Zr [] [] [] [] [(0,[1]),(1,[5,4]),(2,[14,5,4]),(3,[3,2]),(4,[6,4]),(5,[3,2])] []),
 (8,Zr [] [] [] [] [(0,[]),(2,[4,3,2,1]),(3,[4,3,2]),(4,[4,3,2]),(5,[3,2])] []),
 (25,Zr [] [] [] [] [(1,[4]),(2,[]),(3,[7,5]),(4,[]),(6,[3,1,0]),(7,[])] []),
 (22,Zr [] [] [] [] [(0,[3,2]),(1,[5,3,2]),(2,[6,5,3,2]),(3,[7,6,5,3,2]),(4,[8,7,6,5,3,2]),(5,[4])] []),
 (50,Zr [] [] [] [] [(0,[0]),(1,[3]),(2,[4,3]),(3,[2]),(4,[15,3]),(5,[15,3]),(6,[2]),(7,[27,3]),(8,[27,3]),(9,[2]),(10,[33,3]),(11,[2]),(12,[45,3]),(13,[2]),(14,[55,3]),(15,[2]),(16,[66]),(17,[2]),(18,[2])] []),
 (40,Zr [] [] [] [] [(0,[0]),(1,[3]),(2,[4,3]),(3,[4,3]),(4,[4]),(5,[2]),(6,[2])] []),
 (42,Zr [] [] [] [] [(0,[1,0]),(1,[5,1]),(2,[4]),(3,[4])] []),
 (53,Zr [] [] [] [] [(0,[5,1]),(1,[])] []),
 (136,Zr [] [] [] [] [(0,[4,1,0]),(1,[10,9,8,4,0]),(2,[11,10,9,8,4,0]),(3,[10,9,8,7,4,0]),(4,[17,10,9,8,7,4,0]),(5,[5,4]),(6,[10,9,8,4,0]),(7,[5,4])] [(2,[10,9,8,4,0])]),
 (143,Zr [] [] [] [] [(0,[0]),(1,[2])] []),
 (107,Zr [] [] [] [] [(0,[1,0]),(1,[6,1,0]),(2,[16,15,14,6,1,0]),(3,[17,16,15,14,6,1,0]),(4,[16,15,14,8,6,1,0]),(5,[16,15,14,6,1,0]),(6,[16,15,14,6,1,0]),(7,[10,9,6,1,0]),(8,[32,9,6,1,0]),(9,[5,4]),(10,[6,1,0]),(11,[13,12,11,6,1]),(12,[57,6]),(13,[5,4]),(14,[5,4])] [(3,[16,15,14,6,1,0])]),
 (134,Zr [] [] [] [] [(0,[1,0]),(1,[4])] []),
 (97,Zr [] [] [] [] [(0,[4,1,0]),(1,[9,8,7,4,1,0]),(2,[29,8,7,4,1,0]),(3,[6,5,4]),(4,[10,8,7,4,0]),(5,[38,10,8,7,4,0]),(6,[13,12,11,10,8,7,4,0]),(7,[48,13,12,11,10,8,7,4,0]),(8,[6,5,4]),(9,[12,10,8,7,4,0]),(10,[10,8,7,4,0]),(11,[6,5,4])] [(5,[10,8,7,4,0])]),
 (48,Zr [] [] [] [] [(0,[1,0]),(1,[4])] []),
 (93,Zr [] [] [] [] [(0,[3,2]),(1,[4])] []),
 (148,Zr [] [] [] [] [(0,[0]),(1,[3,0]),(2,[8,7,6,3]),(3,[9,8,7,6,3]),(4,[8,7,6,5,3]),(5,[8,7,6,3]),(6,[8,7,6,3]),(7,[2])] [(3,[8,7,6,3])]),
 (146,Zr [] [] [] [] [(0,[2,1]),(1,[2,1]),(2,[2])] []),
 (138,Zr [] [] [] [] [(0,[1]),(1,[4,1]),(2,[5,4,1]),(3,[5,4,1]),(4,[5,4,1]),(5,[5,1]),(6,[2]),(7,[2])] []),
 (128,Zr [] [] [] [] [(0,[1]),(1,[3,1]),(2,[6,5,3,1]),(3,[15,6,5,3,1]),(4,[16,15,6,5,3,1]),(5,[16,15,6,5,3,1]),(6,[16,15,6,5,3,1]),(7,[6,5,3]),(8,[29,15,6,5,3,1]),(9,[6,5,3]),(10,[37,15,6,5,3,1]),(11,[6,5,3]),(12,[45,15,6,5,3,1]),(13,[6,5,3]),(14,[53,6,5,3,1]),(15,[5,3,1]),(16,[6,5,3]),(17,[2])] []),
 (145,Zr [] [] [] [] [(0,[2,0]),(1,[3,2]),(2,[4,3,2]),(3,[2]),(4,[9,3,2]),(5,[2]),(6,[14,3,2]),(7,[14,3,2]),(8,[2]),(9,[20,3,2]),(10,[2]),(11,[25,3,2]),(12,[2]),(13,[30,3,2]),(14,[2]),(15,[35,3,2]),(16,[35,3,2]),(17,[2]),(18,[41,3,2]),(19,[2]),(20,[46,3,2]),(21,[2]),(22,[51,3,2]),(23,[2]),(24,[56,3,2]),(25,[56,3,2]),(26,[2]),(27,[62,3,2]),(28,[2]),(29,[67,3,2]),(30,[2]),(31,[72,3,2]),(32,[2]),(33,[77,3,2]),(34,[77,3,2]),(35,[2]),(36,[83,3,2]),(37,[2]),(38,[88,3,2]),(39,[2]),(40,[93,3,2]),(41,[93,3,2]),(42,[93,3,2]),(43,[93,3,2]),(44,[93,3,2]),(45,[2]),(46,[102,2]),(47,[2]),(48,[2])] []),
 (137,Zr [] [] [] [] [(0,[1,0]),(1,[4])] []),
 (117,Zr [] [] [] [] [(0,[6,2,1,0]),(1,[11,10,9,6,2,1,0]),(2,[28,10,9,6,2,1,0]),(3,[8,7,6]),(4,[12,10,9,7,6,2,0]),(5,[14,12,10,9,7,6,0]),(6,[45,14,10,9,7,6,0]),(7,[8,7,6]),(8,[49,10,9,7,6]),(9,[8,7,6]),(10,[58,10,9,7,6]),(11,[8,7,6]),(12,[65,6]),(13,[8,7,6]),(14,[8,7,6])] []),
 (135,Zr [] [] [] [] [(0,[5,4,1,0]),(1,[5,4,1,0]),(2,[7,5,4,1,0]),(3,[12,7,5,4,1,0]),(4,[13,12,7,5,4,1,0]),(5,[13,12,7,5,4,1,0]),(6,[13,12,7,5,4,1,0]),(7,[7,5,4,1]),(8,[24,7,5,4,1]),(9,[6,5,4]),(10,[7,5,4]),(11,[32,12,7,5,4,1]),(12,[7,5,4]),(13,[41,12,7,5,4,1]),(14,[7,5,4]),(15,[50,12,7,5,4,1]),(16,[7,5,4]),(17,[59,7,5,4,1]),(18,[7,5,4,1]),(19,[69,7,5,4,1]),(20,[5,4,1]),(21,[8,7,5,4]),(22,[7,5,4]),(23,[6,5,4])] []),
 (49,Zr [] [] [] [] [(0,[1,0]),(1,[4])] []),
 (92,Zr [] [] [] [] [(0,[2,1,0]),(1,[14,2,1,0]),(2,[6]),(3,[17,16,15,2,1]),(4,[18,17,16,15,2,1]),(5,[17,16,15,8,7,2,1]),(6,[17,16,15,9,8,2,1]),(7,[30,17,16,15,2,1]),(8,[6]),(9,[17,16,15,2,1]),(10,[6])] [(4,[17,16,15,2,1])]),
 (45,Zr [] [] [] [] [(0,[1,0]),(1,[10,1,0]),(2,[4]),(3,[13,12,1,0]),(4,[14,13,12,1,0]),(5,[13,12,5,1,0]),(6,[24,13,12,1,0]),(7,[4]),(8,[13,12,1,0]),(9,[4])] [(4,[13,12,1,0])]),
 (46,Zr [] [] [] [] [(0,[1,0]),(1,[10,1,0]),(2,[4]),(3,[13,12,1,0]),(4,[14,13,12,1,0]),(5,[13,12,5,1,0]),(6,[24,13,12,1,0]),(7,[4]),(8,[13,12,1,0]),(9,[4])] [(4,[13,12,1,0])]),
 (47,Zr [] [] [] [] [(0,[1,0]),(1,[10,1,0]),(2,[4]),(3,[13,12,1,0]),(4,[14,13,12,1,0]),(5,[13,12,5,1,0]),(6,[24,13,12,1,0]),(7,[4]),(8,[13,12,1,0]),(9,[4])] [(4,[13,12,1,0])]),
 (94,Zr [] [] [] [] [(0,[1,0]),(1,[8,7,1,0]),(2,[9,8,7,1,0]),(3,[8,7,5,1,0]),(4,[16,8,7,5,1,0]),(5,[4]),(6,[8,7,1,0]),(7,[4])] [(2,[8,7,1,0])]),
 (12,Zr [] [] [] [] [(0,[1,0]),(1,[10,1,0]),(2,[4]),(3,[5,1,0]),(4,[30,0]),(5,[4]),(6,[6,0]),(7,[34,6,0]),(8,[6,0]),(9,[6,0]),(10,[4])] [(7,[6,0])]),
 (6,Zr [] [] [] [] [(0,[1,0]),(1,[8,1,0]),(2,[4]),(3,[4])] []),
 (77,Zr [] [] [] [] [(0,[1,0]),(1,[10,1,0]),(2,[4]),(3,[5,1,0]),(4,[14,5,1,0]),(5,[5,1,0]),(6,[25,5,1,0]),(7,[4]),(8,[4])] [(4,[5,1,0])]),
 (7,Zr [] [] [] [] [(0,[0]),(1,[3,0]),(2,[3,0]),(3,[3,0]),(4,[2])] []),
 (21,Zr [] [] [] [] [(0,[1,0]),(1,[4])] []),
 (31,Zr [] [] [] [] [(0,[0]),(1,[3,0]),(2,[2])] []),
 (76,Zr [] [] [] [] [(0,[1,0]),(1,[10,1,0]),(2,[4]),(3,[5,1,0]),(4,[14,5,1,0]),(5,[5,1,0]),(6,[25,5,1,0]),(7,[4]),(8,[4])] [(4,[5,1,0])]),
 (16,Zr [] [] [] [] [(0,[2,1]),(1,[6,2,1]),(2,[2,1]),(3,[14,2,1]),(4,[2,1]),(5,[22,2,1]),(6,[2,1]),(7,[30,2,1]),(8,[2,1]),(9,[39,2,1]),(10,[2,1]),(11,[2,1]),(12,[2])] []),
 (5,Zr [] [] [] [] [(0,[]),(1,[1]),(2,[20,1]),(3,[1]),(4,[3,1]),(5,[5,3,1]),(6,[40,1]),(7,[0]),(8,[7,6]),(9,[9,8,7,6]),(10,[11,10,9,8,7,6]),(11,[13,11,10,9,8,7,6]),(12,[15,13,11,10,9,8,7,6]),(13,[17,15,13,11,10,9,8,7,6]),(14,[18,17,15,13,11,10,9,8,7,6]),(15,[0])] [(2,[1])]),
 (4,Zr [] [] [] [] [(0,[5,4,3,2]),(1,[5,4,3,2]),(2,[10,9,5,4,3,2]),(3,[12,11,10,9,5,4,3,2]),(4,[14,13,12,11,10,9,5,4,3,2]),(5,[16,15,14,13,12,11,10,9,5,4,3,2]),(6,[72,13,9,5,4,3,2]),(7,[8]),(8,[17,13,9,5,4,3,2]),(9,[17,13,5,4,3,2]),(10,[17,5,4,3,2]),(11,[8])] []),
 (3,Zr [] [] [] [] [(0,[1]),(1,[1]),(2,[3,1]),(3,[5,4,3,1]),(4,[7,6,5,4,3,1]),(5,[52,4]),(6,[2]),(7,[8,4]),(8,[8,4]),(9,[8,4]),(10,[8]),(11,[2])] []),
 (11,Zr [] [] [] [] [(0,[0]),(1,[2])] []),
 (15,Zr [] [] [] [] [(0,[]),(1,[2,1]),(2,[4,3,2,1]),(3,[0])] []),
 (132,Zr [] [] [(114,1,false)] [] [(0,[0]),(1,[6,0]),(2,[3,2]),(3,[3,2])] []),
 (119,Zr [] [] [] [] [(0,[0]),(1,[3,0]),(2,[4,3,0]),(3,[8,4,3,0]),(4,[4,3,0]),(5,[4,3,0]),(6,[2])] [(3,[4,3,0])]),
 (120,Zr [] [] [] [] [(0,[0]),(1,[8,0]),(2,[4,3,2]),(3,[5,0]),(4,[17,5,0]),(5,[4,3,2]),(6,[4,3,2])] []),
 (104,Zr [] [] [] [] [(0,[0]),(1,[7,6,5]),(2,[15,7,6,5]),(3,[4,3,2]),(4,[20,6,5]),(5,[4,3,2]),(6,[4,3,2])] []),
 (121,Zr [] [] [] [] [(0,[0]),(1,[6,5,0]),(2,[7,6,5,0]),(3,[9,7,6,5,0]),(4,[7,6,5,0]),(5,[15,7,6,5,0]),(6,[4,3,2]),(7,[7,6,5,0]),(8,[7,6,5,0]),(9,[32,7,6,5,0]),(10,[41,7,5]),(11,[4,3,2]),(12,[4,3,2]),(13,[4,3,2])] [(3,[7,6,5,0])]),
 (126,Zr [] [] [] [] [(0,[0]),(1,[6,0]),(2,[4,3,0]),(3,[17,4,0]),(4,[2]),(5,[0]),(6,[2])] [(1,[0])]),
 (114,Zr [] [] [] [] [(0,[1,0]),(1,[12,1,0]),(2,[4]),(3,[5,1,0]),(4,[6,5,0]),(5,[18,6,5,0]),(6,[6,5,0]),(7,[6,5,0]),(8,[6,5,0]),(9,[4])] [(5,[6,5,0])]),
 (113,Zr [] [] [(132,1,false)] [] [(0,[0]),(1,[6,0]),(2,[3,2]),(3,[3,2])] []),
 (38,Zr [] [] [] [] [(0,[0]),(1,[10,0]),(2,[3,2]),(3,[4,0]),(4,[12,4,0]),(5,[4,0]),(6,[4,0]),(7,[3,2])] [(4,[4,0])]),
 (142,Zr [] [] [] [] [(0,[0]),(1,[4,0]),(2,[4,0]),(3,[3,2]),(4,[11,4,0]),(5,[3,2]),(6,[15,4,0]),(7,[6,5,4,0]),(8,[24,4,0]),(9,[6,5,4,0]),(10,[33,4,0]),(11,[6,5,4,0]),(12,[45,6,5,4,0]),(13,[3,2]),(14,[7,6,5,4,0]),(15,[48,7,6,5,4,0]),(16,[7,6,5,4,0]),(17,[60,7,6,5,4,0]),(18,[3,2]),(19,[7,6,5,4,0]),(20,[83,5,4]),(21,[3,2]),(22,[3,2])] [(15,[7,6,5,4,0])]),
 (75,Zr [] [] [] [] [(0,[3,2]),(1,[4])] []),
 (112,Zr [] [] [] [] [(0,[0]),(1,[4,0]),(2,[5,4,0]),(3,[14,5,4,0]),(4,[5,4,0]),(5,[6,5,4,0]),(6,[28,6,5,4,0]),(7,[3,2]),(8,[6,5,4,0]),(9,[8,7,5,4,0]),(10,[41,7,5,4,0]),(11,[3,2]),(12,[5,4,0]),(13,[10,9,4]),(14,[3,2])] [(3,[5,4,0])]),
 (124,Zr [] [] [] [] [(0,[4,1,0]),(1,[6,4,1,0]),(2,[10,6,4,1,0]),(3,[6,4,1,0]),(4,[19,6,4,1,0]),(5,[5,4]),(6,[5,4])] [(2,[6,4,1,0])]),
 (141,Zr [] [] [] [] [(0,[0]),(1,[3]),(2,[4,3]),(3,[4,3]),(4,[4,3]),(5,[4,3]),(6,[4,3]),(7,[4,3]),(8,[4,3]),(9,[4,3]),(10,[2]),(11,[13,3]),(12,[13,3]),(13,[13,3]),(14,[13,3]),(15,[2]),(16,[18,3]),(17,[18,3]),(18,[18,3]),(19,[18,3]),(20,[2]),(21,[23,3]),(22,[2]),(23,[25,3]),(24,[25,3]),(25,[25,3]),(26,[25,3]),(27,[25,3]),(28,[25,3]),(29,[25,3]),(30,[2]),(31,[33,3]),(32,[33,3]),(33,[2]),(34,[36]),(35,[2]),(36,[2])] []),
 (122,Zr [] [] [] [] [(0,[1,0]),(1,[5,1]),(2,[6,5,1]),(3,[6,5,1]),(4,[6,5,1]),(5,[6,5,1]),(6,[6,5,1]),(7,[4]),(8,[15,5,1]),(9,[4]),(10,[20,5,1]),(11,[4]),(12,[25,5,1]),(13,[25,5,1]),(14,[25,5,1]),(15,[25,5,1]),(16,[25,5,1]),(17,[25,5,1]),(18,[25,5,1]),(19,[25,5,1]),(20,[4]),(21,[36,5,1]),(22,[36,5,1]),(23,[4]),(24,[42,5,1]),(25,[42,5,1]),(26,[4]),(27,[47,5,1]),(28,[4]),(29,[51,5,1]),(30,[4]),(31,[56,5,1]),(32,[4]),(33,[61,5,1]),(34,[61,5,1]),(35,[61,5,1]),(36,[4]),(37,[68,5,1]),(38,[4]),(39,[72,1]),(40,[4]),(41,[4])] []),
 (103,Zr [] [] [] [] [(0,[1,0]),(1,[9,8,7,1,0]),(2,[36,8,7,1,0]),(3,[6,5,4]),(4,[10,8,7,0]),(5,[11,10,8,7,0]),(6,[45,11,10,8,7,0]),(7,[14,13,12,11,10,8,7,0]),(8,[59,13,12,11,10,8,7,0]),(9,[6,5,4]),(10,[17,16,15,13,12,11,10,8,7,0]),(11,[70,16,15,13,12,11,10,8,7,0]),(12,[6,5,4]),(13,[19,16,15,13,12,11,10,8,7,0]),(14,[90,16,15,13,12,11,10,8,7,0]),(15,[6,5,4]),(16,[20,16,15,13,11,10,8,7,0]),(17,[96,20,16,15,13,11,10,8,7,0]),(18,[6,5,4]),(19,[16,13,11,10,8,7,0]),(20,[11,10,8,7,0]),(21,[6,5,4])] [(6,[11,10,8,7,0])]),
 (30,Zr [] [] [] [] [(0,[1,0]),(1,[10,1,0]),(2,[4]),(3,[5,1,0]),(4,[14,5,1,0]),(5,[5,1,0]),(6,[26,5,1,0]),(7,[4]),(8,[4])] [(4,[5,1,0])]),
 (140,Zr [] [] [] [] [(0,[1,0]),(1,[5,1,0]),(2,[9,5,1,0]),(3,[5,1,0]),(4,[17,5,1,0]),(5,[4]),(6,[4])] [(2,[5,1,0])]),
 (133,Zr [] [] [(113,1,false)] [] [(0,[1]),(1,[16,1]),(2,[17,16,1]),(3,[3,2]),(4,[31,16,1]),(5,[3,2]),(6,[45,16,1]),(7,[3,2]),(8,[59,16,1]),(9,[5,4]),(10,[3,2]),(11,[70,16,1]),(12,[7,6]),(13,[3,2]),(14,[81,16,1]),(15,[9,8]),(16,[3,2]),(17,[92,1]),(18,[11,10,1]),(19,[13,12,11,10]),(20,[3,2]),(21,[3,2])] []),
 (125,Zr [] [] [] [] [(0,[1,0]),(1,[5,1]),(2,[6,5,1]),(3,[6,5,1]),(4,[6,5,1]),(5,[6,5,1]),(6,[6,5,1]),(7,[6,5,1]),(8,[6,5,1]),(9,[6,5,1]),(10,[16]),(11,[4]),(12,[17,5,1]),(13,[17,5,1]),(14,[17,5,1]),(15,[22]),(16,[4]),(17,[23,1]),(18,[26]),(19,[4]),(20,[4])] []),
 (123,Zr [] [] [] [] [(0,[4,1,0]),(1,[7,4,1,0]),(2,[8,7,4,1,0]),(3,[26,8,7,4,1]),(4,[27,26,8,7,4,1]),(5,[8,7,4,1]),(6,[29,26,8,7,4,1]),(7,[8,7,4,1]),(8,[31,26,8,7,4,1]),(9,[8,7,4,1]),(10,[33,26,8,7,4,1]),(11,[11,10,9,7,4]),(12,[11,10,7,4]),(13,[6,5,4]),(14,[47,26,8,7,4,1]),(15,[14,13,12,7,4]),(16,[14,13,7,4]),(17,[6,5,4]),(18,[61,26,8,7,4,1]),(19,[17,16,15,7,4]),(20,[17,16,7,4]),(21,[6,5,4]),(22,[77,8,7,4,1]),(23,[20,19,18,7,4,1]),(24,[86,19,18,7,4,1]),(25,[6,5,4]),(26,[22,21,20,19,18,7,4]),(27,[22,20,19,7,4]),(28,[6,5,4]),(29,[109,8,7,4,1]),(30,[6,5,4]),(31,[8,7,4]),(32,[6,5,4])] []),
 (24,Zr [] [] [] [] [(0,[1,0]),(1,[5,1]),(2,[6,5,1]),(3,[4]),(4,[11,5,1]),(5,[11,5,1]),(6,[4]),(7,[17,5,1]),(8,[17,5,1]),(9,[4]),(10,[26,5,1]),(11,[4]),(12,[31,5,1]),(13,[4]),(14,[36,5,1]),(15,[4]),(16,[41,1]),(17,[4]),(18,[4])] []),
 (20,Zr [] [] [] [] [(0,[2,1]),(1,[16,2,1]),(2,[3,2]),(3,[4,2,1]),(4,[19,4,2,1]),(5,[20,19,4,2,1]),(6,[20,19,4,2,1]),(7,[20,19,4,2,1]),(8,[4,2,1]),(9,[24,4,2,1]),(10,[4,2,1]),(11,[5,4,2,1]),(12,[5,4,2,1]),(13,[6,5,2,1]),(14,[8,7,6,5,2,1]),(15,[72,6,2]),(16,[3,2]),(17,[3,2])] []),
 (18,Zr [] [] [] [] [(0,[1]),(1,[5,4]),(2,[14,5,4]),(3,[3,2]),(4,[7,6,4]),(5,[24,6,4]),(6,[3,2]),(7,[3,2])] []),
 (9,Zr [] [] [(28,1,true)] [] [(0,[2,1]),(1,[4,2,1]),(2,[5,4,2,1]),(3,[6,5,4,2,1]),(4,[29,6,5,4,2,1]),(5,[6,5,4,2,1]),(6,[53,5,4,2,1]),(7,[3,2]),(8,[57,5,4,2,1]),(9,[5,4,2,1]),(10,[5,4,2,1]),(11,[4,2,1]),(12,[76,4,2,1]),(13,[3,2]),(14,[7,4,2]),(15,[7,4,2]),(16,[96,7,4,2]),(17,[7,4,2]),(18,[103,7,4,2]),(19,[3,2]),(20,[3,2])] []),
 (10,Zr [] [] [] [] [(0,[3,2]),(1,[112,3,2]),(2,[4]),(3,[163,3,2]),(4,[4]),(5,[5,3,2]),(6,[168,5,3,2]),(7,[5,3,2]),(8,[181,5,3,2]),(9,[4]),(10,[6,3,2]),(11,[186,6,3,2]),(12,[6,3,2]),(13,[199,6,3,2]),(14,[4]),(15,[7,3,2]),(16,[204,7,3,2]),(17,[7,3,2]),(18,[217,7,3,2]),(19,[4]),(20,[9,8]),(21,[4])] [(6,[5,3,2]),(11,[6,3,2]),(16,[7,3,2])]),
 (52,Zr [] [] [] [] [(0,[1,0]),(1,[5,1,0]),(2,[10,5,1,0]),(3,[5,1,0]),(4,[27,5,1,0]),(5,[4]),(6,[4])] [(2,[5,1,0])]),
 (43,Zr [] [] [] [] [(0,[1,0]),(1,[5,1]),(2,[4]),(3,[4])] []),
 (1000000,{})]
def ann:Nat->Ann:=Zer {} ZJL
def ZFZ:List (Nat×Bool):=[
 (12,true),
 (1000000,false)]
def BY:Nat->Bool:=Zer false ZFZ
noncomputable def CF:Nat->Option ZE:=ZiH Tryz.prog ann
noncomputable def FC:Nat->Option ZE:=fun f=>(CF f).map Zi8
def Zq8:List (Nat×Option (List AVal->Za->Option (AVal×Za))):=[
 (98,some (ZiN 1 1)),
 (139,some (ZmU)),
 (8,some (Ziw)),
 (82,some (Ziw)),
 (1000000,none)]
def PR:Zcb:=Zer none Zq8
def oI (d:Nat) (i:Ins):AOp:=⟨some d,i,none,[]⟩
def oN (i:Ins):AOp:=⟨none,i,none,[]⟩
theorem xw (c d:Zf) (h:c=d) (m:Nat) (tm:Tms) (σ:Za):evC FC PR BY m c tm σ=evC FC PR BY m d tm σ:=by rw [h]
noncomputable abbrev E:ZL:=EV FC PR BY
theorem Zh {f:Nat} {fn:ZE} (hp:PR f=none) (hf:FC f=some fn) (args:List AVal) (σ:Za):E f args σ=Zar σ.length fn (evC FC PR BY σ.length fn.body (enterA 0 args []) σ):=ZuF hp hf args σ
end
section
def ZjN:Zf:=(.seq (.region [oI 2 (.mov (.c (.lst true []))),oI 3 (.mov (.c (.int .i64 0)))] none [0]) (.seq (.seq (.region [oI 4 (.mov (.t 0)),oI 5 (.len (.t 4)),oI 6 (.bin .gtr (.t 5) (.c (.int .i64 65535)))] none [6,0]) (.cond (.t 6) (.seq (.region [oI 2 (.mov (.c (.lst true []))),oI 3 (.mov (.c (.int .i64 10)))] none [3,2]) .ret) .skip)) (.seq (.region [oI 7 (.mov (.t 0)),oI 8 (.len (.t 7)),oI 9 (.i2i .u64 (.t 8)),oI 10 (.call 106 0 true [(.t 9),(.c (.int .i64 2))]),oI 11 (.mov (.t 0)),oI 12 (.bslice false 1 2 (.lst true []) [(0,(.t 10)),(1,(.t 11))]),oI 13 (.call 37 0 true [(.t 12)]),oI 2 (.mov (.t 13)),oI 3 (.mov (.c (.int .i64 0)))] none [3,2]) .ret)))
def Zmd:ZE:=⟨[(.tmp 2),(.tmp 3)],ZjN⟩
theorem ZqZ:FC 127=some Zmd:=by kernel_rfl
theorem Zrt:Zmd.body=ZjN:=rfl
theorem Zt7:Zmd.res=[(.tmp 2),(.tmp 3)]:=rfl
def Zpb:Zf:=(.seq (.region [oI 18 (.mov (.t 3)),oI 2 (.mov (.t 18))] none [2]) .ret)
def ZoL:Zf:=Zpb
def ZHy:=xw ZoL Zpb rfl
def Zk4:Zf:=(.seq (.region [oI 9 (.bin .lss (.t 8) (.t 7))] none [9,8,7,6,3]) (.seq (.cond (.t 9) .skip (.exit 0)) (.seq (.block 1 (.seq (.region [oI 10 (.iaddr 1 (.t 6) (.t 8)),oI 11 (.ld none (.t 10)),oI 5 (.mov (.t 11))] none [8,7,6,5,3]) (.region [oI 12 (.mov (.t 3)),oI 13 (.bin .shl (.t 12) (.c (.int .u64 8))),oI 14 (.mov (.t 5)),oI 15 (.i2i .u64 (.t 14)),oI 16 (.bin .or (.t 13) (.t 15)),oI 3 (.mov (.t 16))] none [8,7,6,3]))) (.region [oI 17 (.bin .add (.t 8) (.c (.int .i64 1))),oI 8 (.mov (.t 17))] none [8,7,6,3]))))
def Zps:Zf:=Zk4
def ZrA:=xw Zps Zk4 rfl
def Zm0:Zf:=(.seq (.region [oI 2 (.mov (.c (.int .u64 0)))] none [0]) (.seq (.region [oI 3 (.mov (.c (.int .u64 0)))] none [3,0]) (.seq (.seq (.region [oI 6 (.mov (.t 0)),oI 7 (.len (.t 6)),oI 8 (.mov (.c (.int .i64 0)))] none [8,7,6,3]) (.block 0 (.loop [8,7,6,3] Zps))) ZoL)))
def ZkP:ZE:=⟨[(.tmp 2)],Zm0⟩
theorem ZCP:FC 96=some ZkP:=by kernel_rfl
theorem ZGB:ZkP.body=Zm0:=rfl
theorem ZDg:ZkP.res=[(.tmp 2)]:=rfl
noncomputable def Zk7 (m:Nat) (tm:Tms) (σ:Za):Option (AVal×Za):=(Zar m ZkP (ZbF FC PR BY m ZoL (Option.map (ZaT 0) (evL FC PR BY m [8,7,6,3] Zps tm σ))))
def Zin:Zf:=(.seq (.region [oI 2 (.mov (.c (.lst true []))),oI 3 (.mov (.c (.int .i64 0))),oI 4 (.mov (.c (.int .i64 0)))] none [0]) (.seq (.seq (.region [oI 5 (.mov (.t 0)),oI 6 (.len (.t 5)),oI 7 (.bin .lss (.t 6) (.c (.int .i64 2))),oI 8 (.mov (.t 7)),⟨(some 9),(.mov (.t 0)),(some (8,false)),[]⟩,⟨(some 10),(.len (.t 9)),(some (8,false)),[]⟩,⟨(some 11),(.bin .sub (.t 10) (.c (.int .i64 2))),(some (8,false)),[]⟩,⟨(some 12),(.mov (.t 0)),(some (8,false)),[]⟩,⟨(some 13),(.slice 1 (.t 12) none (some (.c (.int .i64 2))) none),(some (8,false)),[]⟩,⟨(some 14),(.call 96 0 true [(.t 13)]),(some (8,false)),[]⟩,⟨(some 15),(.i2i .i64 (.t 14)),(some (8,false)),[]⟩,⟨(some 16),(.bin .lss (.t 11) (.t 15)),(some (8,false)),[]⟩,oI 17 (.pick (.t 8) (.c (.bool true)) (.t 16))] none [17,0]) (.cond (.t 17) (.seq (.region [oI 2 (.mov (.c (.lst true []))),oI 3 (.mov (.c (.int .i64 0))),oI 4 (.mov (.c (.int .i64 11)))] none [4,3,2]) .ret) .skip)) (.seq (.region [oI 18 (.mov (.t 0)),oI 19 (.slice 1 (.t 18) none (some (.c (.int .i64 2))) none),oI 20 (.call 96 0 true [(.t 19)]),oI 21 (.i2i .i64 (.t 20)),oI 22 (.bin .add (.c (.int .i64 2)) (.t 21)),oI 3 (.mov (.t 22))] none [3,0]) (.seq (.region [oI 23 (.mov (.t 0)),oI 24 (.mov (.t 3)),oI 25 (.slice 1 (.t 23) (some (.c (.int .i64 2))) (some (.t 24)) none),oI 26 (.bslice false 1 1 (.lst true []) [(0,(.t 25))]),oI 27 (.call 37 0 true [(.t 26)]),oI 28 (.mov (.t 3)),oI 2 (.mov (.t 27)),oI 3 (.mov (.t 28)),oI 4 (.mov (.c (.int .i64 0)))] none [4,3,2]) .ret))))
def Zpn:ZE:=⟨[(.tmp 2),(.tmp 3),(.tmp 4)],Zin⟩
theorem ZnR:FC 115=some Zpn:=by kernel_rfl
theorem Znb:Zpn.body=Zin:=rfl
theorem Zm3:Zpn.res=[(.tmp 2),(.tmp 3),(.tmp 4)]:=rfl
def ZiQ:Zf:=(.seq (.region [oI 2 (.mov (.c (.str []))),oI 3 (.mov (.c (.int .i64 0))),oI 4 (.mov (.c (.int .i64 0)))] none [0]) (.seq (.region [oI 7 (.mov (.t 0)),oI 8 (.call 115 0 true [(.t 7)]),oI 6 (.mov (.t 8)),oI 9 (.ext (.t 6) 0),oI 10 (.ext (.t 6) 1),oI 11 (.ext (.t 6) 2),oI 5 (.mov (.t 9)),oI 3 (.mov (.t 10)),oI 4 (.mov (.t 11))] none [5,4,3]) (.seq (.block 0 (.seq (.region [oI 13 (.mov (.t 4)),oI 14 (.bin .neq (.t 13) (.c (.int .i64 0))),oI 12 (.mov (.t 14))] none [12,5,4,3]) (.cond (.t 12) (.seq (.region [oI 15 (.mov (.t 4)),oI 2 (.mov (.c (.str []))),oI 3 (.mov (.c (.int .i64 0))),oI 4 (.mov (.t 15))] none [4,3,2]) .ret) (.seq (.region [oI 17 (.mov (.t 5)),oI 18 (.b2s (.t 17)),oI 19 (.call 118 0 true [(.t 18)]),oI 20 (.un .not (.t 19)),oI 16 (.mov (.t 20))] none [16,5,3]) (.cond (.t 16) (.seq (.region [oI 2 (.mov (.c (.str []))),oI 3 (.mov (.c (.int .i64 0))),oI 4 (.mov (.c (.int .i64 13)))] none [4,3,2]) .ret) .skip))))) (.seq (.region [oI 21 (.mov (.t 5)),oI 22 (.b2s (.t 21)),oI 23 (.mov (.t 3)),oI 2 (.mov (.t 22)),oI 3 (.mov (.t 23)),oI 4 (.mov (.c (.int .i64 0)))] none [4,3,2]) .ret))))
def Zml:ZE:=⟨[(.tmp 2),(.tmp 3),(.tmp 4)],ZiQ⟩
theorem Zp7:FC 99=some Zml:=by kernel_rfl
theorem ZoE:Zml.body=ZiQ:=rfl
theorem Zot:Zml.res=[(.tmp 2),(.tmp 3),(.tmp 4)]:=rfl
def Ziy:Zf:=(.seq (.seq (.region [oI 36 (.mov (.t 0)),oI 37 (.len (.t 36)),oI 38 (.bin .lss (.t 37) (.c (.int .i64 4)))] none [38]) (.cond (.t 38) (.seq (.region [oI 2 (.mov (.c (.int .i64 0))),oI 3 (.mov (.c (.int .i64 0))),oI 4 (.mov (.c (.int .i64 11)))] none [4,3,2]) .ret) .skip)) (.seq (.region [oI 2 (.mov (.c (.int .i64 0))),oI 3 (.mov (.c (.int .i64 0))),oI 4 (.mov (.c (.int .i64 12)))] none [4,3,2]) .ret))
def Zol:Zf:=Ziy
def ZoQ:=xw Zol Ziy rfl
def ZeY:Zf:=(.seq (.region [oI 10 (.bin .lss (.t 9) (.t 8))] none [10,9,8,7,2,0]) (.seq (.cond (.t 10) .skip (.exit 0)) (.seq (.block 1 (.seq (.region [oI 11 (.mov (.t 9)),oI 12 (.iaddr 1 (.t 7) (.t 9)),oI 13 (.ld none (.t 12)),oI 5 (.mov (.t 11)),oI 6 (.mov (.t 13))] none [9,8,7,6,5,2,0]) (.seq (.seq (.region [oI 14 (.mov (.t 5)),oI 15 (.bin .eql (.t 14) (.c (.int .i64 4)))] none [15,9,8,7,6,5,2,0]) (.cond (.t 15) (.exit 0) .skip)) (.seq (.region [oI 16 (.mov (.t 2)),oI 17 (.mov (.t 6)),oI 18 (.bin .and (.t 17) (.c (.int .u8 127))),oI 19 (.i2i .i64 (.t 18)),oI 20 (.mov (.t 5)),oI 21 (.bin .mul (.c (.int .i64 7)) (.t 20)),oI 22 (.bin .shl (.t 19) (.t 21)),oI 23 (.bin .or (.t 16) (.t 22)),oI 2 (.mov (.t 23))] none [9,8,7,6,5,2,0]) (.seq (.region [oI 24 (.mov (.t 6)),oI 25 (.bin .lss (.t 24) (.c (.int .u8 128)))] none [25,9,8,7,6,5,2,0]) (.cond (.t 25) (.seq (.seq (.region [oI 26 (.mov (.t 6)),oI 27 (.bin .eql (.t 26) (.c (.int .u8 0))),oI 28 (.mov (.t 27)),⟨(some 29),(.mov (.t 5)),(some (28,true)),[]⟩,⟨(some 30),(.bin .gtr (.t 29) (.c (.int .i64 0))),(some (28,true)),[]⟩,oI 31 (.pick (.t 28) (.t 30) (.c (.bool false)))] none [31,5,2]) (.cond (.t 31) (.seq (.region [oI 2 (.mov (.c (.int .i64 0))),oI 3 (.mov (.c (.int .i64 0))),oI 4 (.mov (.c (.int .i64 12)))] none [4,3,2]) .ret) .skip)) (.seq (.region [oI 32 (.mov (.t 2)),oI 33 (.mov (.t 5)),oI 34 (.bin .add (.t 33) (.c (.int .i64 1))),oI 2 (.mov (.t 32)),oI 3 (.mov (.t 34)),oI 4 (.mov (.c (.int .i64 0)))] none [4,3,2]) .ret)) .skip)))))) (.region [oI 35 (.bin .add (.t 9) (.c (.int .i64 1))),oI 9 (.mov (.t 35))] none [9,8,7,2,0]))))
def Zno:Zf:=ZeY
def Zgi:=xw Zno ZeY rfl
def Zn5:Zf:=(.seq (.region [oI 2 (.mov (.c (.int .i64 0))),oI 3 (.mov (.c (.int .i64 0))),oI 4 (.mov (.c (.int .i64 0)))] none [2,0]) (.seq (.seq (.region [oI 7 (.mov (.t 0)),oI 8 (.len (.t 7)),oI 9 (.mov (.c (.int .i64 0)))] none [9,8,7,2,0]) (.block 0 (.loop [9,8,7,2,0] Zno))) Zol))
def Zju:ZE:=⟨[(.tmp 2),(.tmp 3),(.tmp 4)],Zn5⟩
theorem ZBw:FC 116=some Zju:=by kernel_rfl
theorem ZIn:Zju.body=Zn5:=rfl
theorem Zg1:Zju.res=[(.tmp 2),(.tmp 3),(.tmp 4)]:=rfl
noncomputable def ZgY (m:Nat) (tm:Tms) (σ:Za):Option (AVal×Za):=(Zar m Zju (ZbF FC PR BY m Zol (Option.map (ZaT 0) (evL FC PR BY m [9,8,7,2,0] Zno tm σ))))
def ZnA:Zf:=(.seq (.region [oI 12 (.mov (.t 0)),oI 13 (.call 139 0 true [(.t 12)]),oI 2 (.mov (.t 13))] none [2]) .ret)
def ZmR:Zf:=ZnA
def ZxF:=xw ZmR ZnA rfl
def Ziu:Zf:=(.seq (.region [oI 7 (.nxt (.t 6)),oI 8 (.ext (.t 7) 0)] none [8,7,6,0]) (.seq (.cond (.t 8) .skip (.exit 0)) (.block 1 (.seq (.region [oI 9 (.ext (.t 7) 2),oI 4 (.mov (.t 9))] none [6,4,0]) (.seq (.region [oI 10 (.mov (.t 4)),oI 11 (.bin .eql (.t 10) (.c (.int .i32 0)))] none [11,6,0]) (.cond (.t 11) (.seq (.region [oI 2 (.mov (.c (.bool false)))] none [2]) .ret) .skip))))))
def ZpM:Zf:=Ziu
def ZnG:=xw ZpM Ziu rfl
def ZnN:Zf:=(.seq (.region [oI 2 (.mov (.c (.bool false)))] none [0]) (.seq (.seq (.region [oI 5 (.mov (.t 0)),oI 6 (.rng (.t 5))] none [6,0]) (.block 0 (.loop [6,0] ZpM))) ZmR))
def Zjz:ZE:=⟨[(.tmp 2)],ZnN⟩
theorem ZCa:FC 118=some Zjz:=by kernel_rfl
theorem Zzt:Zjz.body=ZnN:=rfl
theorem Zt1:Zjz.res=[(.tmp 2)]:=rfl
noncomputable def Zlw (m:Nat) (tm:Tms) (σ:Za):Option (AVal×Za):=(Zar m Zjz (ZbF FC PR BY m ZmR (Option.map (ZaT 0) (evL FC PR BY m [6,0] ZpM tm σ))))
def Zoj:Zf:=(.seq (.region [oI 16 (.mov (.t 3)),oI 2 (.mov (.t 16))] none [2]) .ret)
def Zpy:Zf:=Zoj
def ZzJ:=xw Zpy Zoj rfl
def Zio:Zf:=(.seq (.region [oI 9 (.bin .lss (.t 8) (.t 7))] none [9,8,7,6,3]) (.seq (.cond (.t 9) .skip (.exit 0)) (.seq (.block 1 (.seq (.region [oI 10 (.iaddr 1 (.t 6) (.t 8)),oI 11 (.ld none (.t 10)),oI 5 (.mov (.t 11))] none [8,7,6,5,3]) (.region [oI 12 (.mov (.t 3)),oI 13 (.mov (.t 5)),oI 14 (.app 1 1 (.int .u8 0) (.t 12) (.t 13)),oI 3 (.mov (.t 14))] none [8,7,6,3]))) (.region [oI 15 (.bin .add (.t 8) (.c (.int .i64 1))),oI 8 (.mov (.t 15))] none [8,7,6,3]))))
def Zn2:Zf:=Zio
def ZnK:=xw Zn2 Zio rfl
def ZpL:Zf:=(.seq (.region [oI 2 (.mov (.c (.lst true [])))] none [0]) (.seq (.region [oI 3 (.mov (.c (.lst true [])))] none [3,0]) (.seq (.seq (.region [oI 6 (.mov (.t 0)),oI 7 (.len (.t 6)),oI 8 (.mov (.c (.int .i64 0)))] none [8,7,6,3]) (.block 0 (.loop [8,7,6,3] Zn2))) Zpy)))
def Zjf:ZE:=⟨[(.tmp 2)],ZpL⟩
theorem ZLx:FC 37=some Zjf:=by kernel_rfl
theorem Zz9:Zjf.body=ZpL:=rfl
theorem ZwK:Zjf.res=[(.tmp 2)]:=rfl
noncomputable def Zi4 (m:Nat) (tm:Tms) (σ:Za):Option (AVal×Za):=(Zar m Zjf (ZbF FC PR BY m Zpy (Option.map (ZaT 0) (evL FC PR BY m [8,7,6,3] Zn2 tm σ))))
def Zoh:Zf:=(.seq (.region [oI 28 (.mov (.t 5)),oI 4 (.mov (.t 28))] none [4]) .ret)
def Zor:Zf:=Zoh
def Zzc:=xw Zor Zoh rfl
def Zjx:Zf:=(.seq (.seq (.region [oI 17 (.mov (.t 6)),oI 18 (.bin .geq (.t 17) (.c (.int .i64 0)))] none [18,6,5,0]) (.cond (.t 18) .skip (.exit 0))) (.seq (.block 1 (.seq (.region [oI 21 (.mov (.t 5)),oI 22 (.mov (.t 6)),oI 23 (.mov (.t 0)),oI 24 (.i2i .u8 (.t 23)),oI 25 (.iaddr 1 (.t 21) (.t 22)),oN (.st 1 (.t 25) (.t 24))] none [6,5,0]) (.region [oI 26 (.mov (.t 0)),oI 27 (.bin .shr (.t 26) (.c (.int .u64 8))),oI 0 (.mov (.t 27))] none [6,5,0]))) (.region [oI 19 (.mov (.t 6)),oI 20 (.bin .sub (.t 19) (.c (.int .i64 1))),oI 6 (.mov (.t 20))] none [6,5,0])))
def Zpx:Zf:=Zjx
def Zql:=xw Zpx Zjx rfl
def Zny:Zf:=(.seq (.region [oI 4 (.mov (.c (.lst true [])))] none [1,0]) (.seq (.seq (.region [oI 7 (.mov (.t 1)),oI 8 (.bin .lss (.t 7) (.c (.int .i64 1))),oI 9 (.mov (.t 8)),⟨(some 10),(.mov (.t 1)),(some (9,false)),[]⟩,⟨(some 11),(.bin .gtr (.t 10) (.c (.int .i64 8))),(some (9,false)),[]⟩,oI 12 (.pick (.t 9) (.c (.bool true)) (.t 11))] none [12,1,0]) (.cond (.t 12) (.seq (.region [oI 4 (.mov (.c (.lst true [])))] none [4]) .ret) .skip)) (.seq (.region [oI 13 (.mov (.t 1)),oI 14 (.mkslice 1 1 (.int .u8 0) (.t 13) (.t 13)),oI 5 (.mov (.t 14))] none [5,1,0]) (.seq (.seq (.region [oI 15 (.mov (.t 1)),oI 16 (.bin .sub (.t 15) (.c (.int .i64 1))),oI 6 (.mov (.t 16))] none [6,5,0]) (.block 0 (.loop [6,5,0] Zpx))) Zor))))
def ZkQ:ZE:=⟨[(.tmp 4)],Zny⟩
theorem ZFw:FC 106=some ZkQ:=by kernel_rfl
theorem ZyI:ZkQ.body=Zny:=rfl
theorem ZCo:ZkQ.res=[(.tmp 4)]:=rfl
noncomputable def Zlu (m:Nat) (tm:Tms) (σ:Za):Option (AVal×Za):=(Zar m ZkQ (ZbF FC PR BY m Zor (Option.map (ZaT 0) (evL FC PR BY m [6,5,0] Zpx tm σ))))
def Zj6:Zf:=(.seq (.region [oI 2 (.mov (.c (.lst true []))),oI 3 (.mov (.c (.int .i64 0)))] none [0]) (.seq (.seq (.region [oI 4 (.mov (.t 0)),oI 5 (.call 118 0 true [(.t 4)]),oI 6 (.un .not (.t 5))] none [6,0]) (.cond (.t 6) (.seq (.region [oI 2 (.mov (.c (.lst true []))),oI 3 (.mov (.c (.int .i64 13)))] none [3,2]) .ret) .skip)) (.seq (.region [oI 7 (.mov (.t 0)),oI 8 (.s2b (.t 7)),oI 9 (.call 127 0 true [(.t 8)]),oI 10 (.ext (.t 9) 0),oI 11 (.ext (.t 9) 1),oI 2 (.mov (.t 10)),oI 3 (.mov (.t 11))] none [3,2]) .ret)))
def ZoT:ZE:=⟨[(.tmp 2),(.tmp 3)],Zj6⟩
theorem Zuz:FC 108=some ZoT:=by kernel_rfl
theorem Zq0:ZoT.body=Zj6:=rfl
theorem ZqP:ZoT.res=[(.tmp 2),(.tmp 3)]:=rfl
def Zkt:Zf:=(.seq (.region [oI 21 (.mov (.t 4)),oI 22 (.mov (.t 0)),oI 23 (.i2i .u8 (.t 22)),oI 24 (.bslice false 1 1 (.int .u8 0) [(0,(.t 23))]),oI 25 (.app 1 1 (.int .u8 0) (.t 21) (.t 24)),oI 2 (.mov (.t 25)),oI 3 (.mov (.c (.int .i64 0)))] none [3,2]) .ret)
def Zmg:Zf:=Zkt
def Zrm:=xw Zmg Zkt rfl
def Zhe:Zf:=(.seq (.seq (.region [oI 11 (.mov (.t 0)),oI 12 (.bin .gtr (.t 11) (.c (.int .i64 127)))] none [12,4,0]) (.cond (.t 12) .skip (.exit 0))) (.seq (.block 1 (.region [oI 15 (.mov (.t 4)),oI 16 (.mov (.t 0)),oI 17 (.i2i .u8 (.t 16)),oI 18 (.bin .or (.t 17) (.c (.int .u8 128))),oI 19 (.bslice false 1 1 (.int .u8 0) [(0,(.t 18))]),oI 20 (.app 1 1 (.int .u8 0) (.t 15) (.t 19)),oI 4 (.mov (.t 20))] none [4,0])) (.region [oI 13 (.mov (.t 0)),oI 14 (.bin .shr (.t 13) (.c (.int .u64 7))),oI 0 (.mov (.t 14))] none [4,0])))
def Zmu:Zf:=Zhe
def ZkZ:=xw Zmu Zhe rfl
def Zia:Zf:=(.seq (.region [oI 2 (.mov (.c (.lst true []))),oI 3 (.mov (.c (.int .i64 0)))] none [0]) (.seq (.seq (.region [oI 5 (.mov (.t 0)),oI 6 (.bin .lss (.t 5) (.c (.int .i64 0))),oI 7 (.mov (.t 6)),⟨(some 8),(.mov (.t 0)),(some (7,false)),[]⟩,⟨(some 9),(.bin .gtr (.t 8) (.c (.int .i64 268435455))),(some (7,false)),[]⟩,oI 10 (.pick (.t 7) (.c (.bool true)) (.t 9))] none [10,0]) (.cond (.t 10) (.seq (.region [oI 2 (.mov (.c (.lst true []))),oI 3 (.mov (.c (.int .i64 10)))] none [3,2]) .ret) .skip)) (.seq (.region [oI 4 (.mov (.c (.lst true [])))] none [4,0]) (.seq (.block 0 (.loop [4,0] Zmu)) Zmg))))
def ZlK:ZE:=⟨[(.tmp 2),(.tmp 3)],Zia⟩
theorem ZFc:FC 36=some ZlK:=by kernel_rfl
theorem ZnD:ZlK.body=Zia:=rfl
theorem ZjM:ZlK.res=[(.tmp 2),(.tmp 3)]:=rfl
noncomputable def ZkE (m:Nat) (tm:Tms) (σ:Za):Option (AVal×Za):=(Zar m ZlK (ZbF FC PR BY m Zmg (Option.map (ZaT 0) (evL FC PR BY m [4,0] Zmu tm σ))))
end
section
open Go.RowKit
inductive Ty where
 | bool
 | int (k:IntKind)
 | str
 | slice (s:Bool) (e:Ty)
 | struct (fs:List Ty)
 deriving Inhabited
def Imm.of (w:World):Imm:=fun b o=>w.cell? ⟨b,o,none⟩
section
variable {H:Type} {enc:TypeId×Value->H} {P:Program} {w:World} {spare:Nat->Bool} {held:Bool}
theorem Rel.start (w:World) (hG:Gl.le (Imm.of w)):Rel (fun b=>b < w.heap.size) w (Imm.of w) (Imm.of w) B0 [] w where
 below:=KB.refl _ w
 old:=fun _ _ _=>rfl
 imm:=fun _ _ _ h=>h
 blk:=fun t x h=>by simp at h
 own:=fun t x b h=>by simp at h
 apart:=fun t x t' x' b h=>by simp at h
 fresh:=fun _ _ _=>rfl
 free:=fun t g h=>by simp at h
 gen:=fun t b g h=>by simp at h
 glob:=hG
theorem ZDt {O:ZL} (hO:Zaw P O) {f:Nat} {args:List AVal} {vs:Array Value} {σ':Za} (hG:Gl.le (Imm.of w)) (hargs:VRs (Imm.of w) B0 args vs.toList) (h:O f args []=some (.bool true,σ')) :
  Calls P f vs w (fun e w'=>e=.returned (.bool true)/\Below w.heap.size w w'):=by
 refine ((hO f args [] _ _ h).2 _ w _ _ B0 w vs (fun b hb=>hb) (Rel.start w hG) hargs).mono ?_
 rintro e w' ⟨u,he,I',β',_,_,R,hv⟩
 simp only [ZaN,VR] at hv
 subst hv
 exact ⟨he,R.below.os,R.below.tape,R.below.output,R.below.size,R.below.block⟩
end
end
section
open Go.RowKit
theorem Zy7 (id:Nat) (tm:Tms) (σ:Za):ZaT id (.normal,tm,σ)=(.normal,tm,σ):=rfl
theorem ZJk (id i:Nat) (tm:Tms) (σ:Za):ZaT id (.exit i,tm,σ)=if i=id then (.normal,tm,σ) else (.exit i,tm,σ):=by simp only [ZaT]
theorem ZxJ (id:Nat) (tm:Tms) (σ:Za):ZaT id (.ret,tm,σ)=(.ret,tm,σ):=rfl
theorem ZGF (id:Nat) (x:AVal) (tm:Tms) (σ:Za):ZaT id (.panic x,tm,σ)=(.panic x,tm,σ):=rfl
section
variable (O:ZL) (bf:Nat->Bool)
def Zdl (c:Cls):Option (Tms×Za×List Cls×Option AVal)->Option (Tms×Za×List Cls×Option AVal)
 | none=>none
 | some (tm,σ,cs,p)=>some (tm,σ,c::cs,p)
def Zgy (c:List Cls):Option (Tms×Za×List Cls×Option AVal)->Option (Tms×Za×List Cls×Option AVal)
 | none=>none
 | some (tm,σ,cs,p)=>some (tm,σ,c++cs,p)
def kC (d:Option Nat) (os:List AOp) (s:Nat) (tm:Tms):Option (AVal×Za×Cls)->Option (Tms×Za×List Cls×Option AVal)
 | none=>none
 | some (v,σ,c)=>if ZaH v then some (tput tm d v,σ,[c],some (ZaN v)) else Zdl c (ZT O bf os s (tput tm d v) σ)
def Zem (ops:List AOp) (L:Nat) (l:List (Nat×Nat)) (live:List Nat):Option (Tms×Za×List Cls×Option AVal)->Option (ZaL×Tms×Za)
 | none=>none
 | some (_,σ,cs,some x)=>if Zc2 ops L l cs then some (.panic x,[],σ) else none
 | some (tm,σ,cs,none)=>if Zc0 ops L l cs then some (.normal,keepL live tm,σ) else none
variable {O bf}
theorem Zsn (s:Nat) (tm:Tms) (σ:Za):ZT O bf [] s tm σ=some (tm,σ,[],none):=rfl
theorem ZyW (c:Cls) (tm:Tms) (σ:Za) (cs:List Cls) (p:Option AVal):Zdl c (some (tm,σ,cs,p))=some (tm,σ,c::cs,p):=rfl
theorem ZGZ (c:Cls):Zdl c none=none:=rfl
theorem ZHi (c:Cls) (q:Prop) [Decidable q] (x y:Option (Tms×Za×List Cls×Option AVal)):Zdl c (if q then x else y)=if q then Zdl c x else Zdl c y:=by split <;> rfl
theorem ZB0 (c:List Cls) (tm:Tms) (σ:Za) (cs:List Cls) (p:Option AVal):Zgy c (some (tm,σ,cs,p))=some (tm,σ,c++cs,p):=rfl
theorem ZGY (c:List Cls):Zgy c none=none:=rfl
theorem ZxW (c:List Cls) (q:Prop) [Decidable q] (x y:Option (Tms×Za×List Cls×Option AVal)):Zgy c (if q then x else y)=if q then Zgy c x else Zgy c y:=by split <;> rfl
theorem ZkO {o:AOp} {os:List AOp} {s:Nat} {tm tm1:Tms} {σ σ1:Za} {v:AVal} {c:Cls} (h:ZJ O bf o s tm σ=some (v,tm1,σ1,c)) (hn:ZaH v=false):ZT O bf (o::os) s tm σ=Zdl c (ZT O bf os (s+nsite o.ins) tm1 σ1):=by
 rw [Zsg h hn]
 cases ZT O bf os (s+nsite o.ins) tm1 σ1 <;> rfl
theorem Znf (d:Option Nat) (i:Ins) (af:List Nat) (os:List AOp) (s:Nat) (tm:Tms) (σ:Za):ZT O bf (⟨d,i,none,af⟩::os) s tm σ=kC O bf d os (s+nsite i) tm (exI O bf i s tm σ):=by
 cases h:exI O bf i s tm σ with
 | none=>exact ZiZ (by rw [ZlQ,h];rfl)
 | some q =>
  obtain ⟨v,σ1,c⟩:=q
  have hs:ZJ O bf ⟨d,i,none,af⟩ s tm σ=some (v,tput tm d v,σ1,c):=by rw [ZlQ,h];rfl
  cases hp:ZaH v with
  | true =>
   obtain ⟨x,rfl⟩:=ZkS hp
   exact Zkn hs
  | false =>
   rw [ZkO hs hp]
   simp only [kC,hp,Bool.false_eq_true,if_false]
theorem Zn9 (d:Option Nat) (os:List AOp) (s:Nat) (tm:Tms) (v:AVal) (σ:Za) (c:Cls) (h:ZaH v=false):kC O bf d os s tm (some (v,σ,c))=Zdl c (ZT O bf os s (tput tm d v) σ):=by
 simp only [kC,h,Bool.false_eq_true,if_false]
theorem ZHP (d:Option Nat) (os:List AOp) (s:Nat) (tm:Tms) (x:AVal) (σ:Za) (c:Cls):kC O bf d os s tm (some (.pan x,σ,c))=some (tput tm d (.pan x),σ,[c],some x):=rfl
theorem ZA5 (d:Option Nat) (os:List AOp) (s:Nat) (tm:Tms):kC O bf d os s tm none=none:=rfl
theorem ZDN (d:Option Nat) (os:List AOp) (s:Nat) (tm:Tms) (q:Prop) [Decidable q] (x y:Option (AVal×Za×Cls)):kC O bf d os s tm (if q then x else y)=if q then kC O bf d os s tm x else kC O bf d os s tm y:=by split <;> rfl
theorem ZFo (ops:List AOp) (l:List (Nat×Nat)) (live:List Nat) (tm:Tms) (σ:Za):ZbT O bf ops (some l) live tm σ=Zem ops σ.length l live (ZT O bf ops σ.length tm (σ++List.replicate (sitesOf ops) .free)):=by
 unfold ZbT
 cases ZT O bf ops σ.length tm (σ++List.replicate (sitesOf ops) .free) with
 | none=>rfl
 | some q =>
  obtain ⟨tm',σ',cs,p⟩:=q
  cases p <;> rfl
theorem Zq1 (ops:List AOp) (L:Nat) (l:List (Nat×Nat)) (live:List Nat) (tm:Tms) (σ:Za) (cs:List Cls) (h:Zc0 ops L l cs=true):Zem ops L l live (some (tm,σ,cs,none))=some (.normal,keepL live tm,σ):=by
 simp only [Zem,h,if_true]
theorem Zhx (ops:List AOp) (L:Nat) (l:List (Nat×Nat)) (live:List Nat) (tm:Tms) (σ:Za) (cs:List Cls) (x:AVal) (h:Zc2 ops L l cs=true):Zem ops L l live (some (tm,σ,cs,some x))=some (.panic x,[],σ):=by
 simp only [Zem,h,if_true]
theorem ZJf (ops:List AOp) (L:Nat) (l:List (Nat×Nat)) (live:List Nat):Zem ops L l live none=none:=rfl
theorem Zyq (ops:List AOp) (L:Nat) (l:List (Nat×Nat)) (live:List Nat) (q:Prop) [Decidable q] (x y:Option (Tms×Za×List Cls×Option AVal)):Zem ops L l live (if q then x else y)=if q then Zem ops L l live x else Zem ops L l live y:=by split <;> rfl
theorem ZFd (ops:List AOp) (L:Nat) (l:List (Nat×Nat)) (cs:List Cls) (h:(cs.all fun c=>c.wr.isEmpty && !c.any)=true) (hs:(l.all fun p=>p.1 == p.2 || nsite (ops.getD p.1 default).ins == 0)=true):Zc0 ops L l cs=true:=by
 have hd:∀ i,Zdx (cs.getD i {})=true:=by
  intro i
  rw [List.all_eq_true] at h
  rw [List.getD_eq_getElem?_getD]
  cases hi:cs[i]? with
  | none=>rfl
  | some c=>exact h c (List.mem_of_getElem? hi)
 unfold Zc0
 rw [List.all_eq_true] at hs ⊢
 intro p hp
 have:=hs p hp
 rw [Bool.or_eq_true] at this ⊢
 rcases this with this | this
 ·exact Or.inl this
 ·refine Or.inr ?_
  unfold Zca
  simp only [hd,this,Bool.and_true,Bool.true_and,Bool.true_or,Bool.or_true]
theorem ZKP (ops:List AOp) (L:Nat) (l:List (Nat×Nat)) (live:List Nat) (tm:Tms) (σ:Za) (cs:List Cls) (h:(cs.all fun c=>c.wr.isEmpty && !c.any)=true) (hs:(l.all fun p=>p.1 == p.2 || nsite (ops.getD p.1 default).ins == 0)=true):Zem ops L l live (some (tm,σ,cs,none))=some (.normal,keepL live tm,σ) :=
 Zq1 _ _ _ _ _ _ _ (ZFd _ _ _ _ h hs)
variable (O bf) in
def gKC (os:List AOp) (s:Nat):Option (Tms×Za×List Cls×Option AVal)->Option (Tms×Za×List Cls×Option AVal)
 | none=>none
 | some (tm,σ,cs,some x)=>some (tm,σ,cs,some x)
 | some (tm,σ,cs,none)=>Zgy cs (ZT O bf os s tm σ)
theorem ZC2 (os:List AOp) (s:Nat) (tm:Tms) (σ:Za) (cs:List Cls):gKC O bf os s (some (tm,σ,cs,none))=Zgy cs (ZT O bf os s tm σ):=rfl
theorem Zxf (os:List AOp) (s:Nat) (q:Prop) [Decidable q] (x y:Option (Tms×Za×List Cls×Option AVal)):gKC O bf os s (if q then x else y)=if q then gKC O bf os s x else gKC O bf os s y:=by split <;> rfl
theorem ZMj (os:List AOp) (s:Nat) (c:Cls) (r:Option (Tms×Za×List Cls×Option AVal)):gKC O bf os s (Zdl c r)=Zdl c (gKC O bf os s r):=by
 cases r with
 | none=>rfl
 | some q =>
  obtain ⟨tm,σ,cs,p⟩:=q
  cases p with
  | some x=>rfl
  | none =>
   simp only [Zdl,gKC]
   cases ZT O bf os s tm σ <;> rfl
theorem ZtZ:∀ (a b:List AOp) (s:Nat) (tm:Tms) (σ:Za),ZT O bf (a++b) s tm σ=gKC O bf b (s+sitesOf a) (ZT O bf a s tm σ)
 | [],b,s,tm,σ=>by
  simp only [List.nil_append,Zsn,gKC,sitesOf,List.map_nil,List.sum_nil,Nat.add_zero]
  cases ZT O bf b s tm σ <;> rfl
 | o::a,b,s,tm,σ=>by
  have ih:=ZtZ a b
  simp only [List.cons_append]
  have hs:s+nsite o.ins+sitesOf a=s+sitesOf (o::a):=by simp [sitesOf,Nat.add_assoc]
  cases hst:ZJ O bf o s tm σ with
  | none=>rw [ZiZ hst,ZiZ hst];rfl
  | some q =>
   obtain ⟨v,tm1,σ1,c⟩:=q
   cases hp:ZaH v with
   | true =>
    obtain ⟨x,rfl⟩:=ZkS hp
    rw [Zkn hst,Zkn hst];rfl
   | false=>rw [ZkO hst hp,ZkO hst hp,ih,hs,ZMj]
variable (O bf) in
def Zd3 (j:Nat) (w:Bool) (g:List AOp) (s:Nat) (tm:Tms) (σ:Za):Option (Tms×Za×List Cls×Option AVal):=match Zbf (some (j,w)) tm with
 | none=>none
 | some false=>some (Zau g tm,σ,g.map fun _=>{},none)
 | some true=>ZT O bf (g.map unG) s tm σ
theorem ZqN (j:Nat) (w:Bool):∀ (g:List AOp),(∀ o ∈ g,o.guard=some (j,w)/\o.dst≠some j)->∀ (s:Nat) (tm:Tms) (σ:Za),g≠[]->ZT O bf g s tm σ=Zd3 O bf j w g s tm σ
 | [],_,_,_,_,h=>absurd rfl h
 | o::g,hall,s,tm,σ,_=>by
  obtain ⟨hg,hd⟩:=hall o (by simp)
  have ih:∀ (tm:Tms) (σ:Za) (s:Nat),Zbf (some (j,w)) tm≠none->ZT O bf g s tm σ=Zd3 O bf j w g s tm σ:=by
   intro tm σ s hw
   by_cases he:g=[]
   ·subst he
    unfold Zd3
    cases hx:Zbf (some (j,w)) tm with
    | none=>exact absurd hx hw
    | some b=>cases b <;> rfl
   ·exact ZqN j w g (fun o ho=>hall o (by simp [ho])) s tm σ he
  cases hx:Zbf (some (j,w)) tm with
  | none =>
   rw [ZiZ (by simp only [ZJ,hg,hx])]
   simp only [Zd3,hx]
  | some b =>
   cases b with
   | false =>
    have h1:ZT O bf (o::g) s tm σ=Zdl {} (ZT O bf g (s+nsite o.ins) (tput tm o.dst (.tup [])) σ) :=
     ZkO (v:=.tup []) (c:={}) (by simp only [ZJ,hg,hx]) rfl
    rw [h1,ih _ _ _ (by rw [Zfg hd,hx];simp)]
    unfold Zd3
    rw [Zfg hd,hx]
    rfl
   | true =>
    have key:∀ r:Option (AVal×Za×Cls),(∀ v σ' c,r=some (v,σ',c)->ZaH v=false->ZT O bf g (s+nsite o.ins) (tput tm o.dst v) σ'=ZT O bf (g.map unG) (s+nsite o.ins) (tput tm o.dst v) σ')->kC O bf o.dst g (s+nsite o.ins) tm r=kC O bf o.dst (g.map unG) (s+nsite o.ins) tm r:=by
     intro r hr
     cases r with
     | none=>rfl
     | some q =>
      obtain ⟨v,σ',c⟩:=q
      cases hp:ZaH v with
      | true=>simp only [kC,hp,if_true]
      | false=>rw [Zn9 _ _ _ _ _ _ _ hp,Zn9 _ _ _ _ _ _ _ hp,hr v σ' c rfl hp]
    have h1:ZT O bf (o::g) s tm σ=kC O bf o.dst g (s+nsite o.ins) tm (exI O bf o.ins s tm σ):=by
     have h0:ZT O bf (o::g) s tm σ=ZT O bf (⟨o.dst,o.ins,none,o.after⟩::g) s tm σ:=by
      have hst:ZJ O bf o s tm σ=ZJ O bf ⟨o.dst,o.ins,none,o.after⟩ s tm σ:=by
       unfold ZJ
       simp only [hg,hx]
       rfl
      simp only [ZT,hst]
     rw [h0,Znf]
    rw [h1]
    unfold Zd3
    rw [hx]
    simp only [List.map_cons]
    rw [show unG o=⟨o.dst,o.ins,none,o.after⟩ from rfl,Znf]
    refine key _ fun v σ' c _ _=>?_
    rw [ih _ _ _ (by rw [Zfg hd,hx];simp)]
    unfold Zd3
    rw [Zfg hd,hx]
theorem ZCC (d:Option Nat) (i:Ins) (j:Nat) (w:Bool) (af:List Nat) (os:List AOp) (s:Nat) (tm:Tms) (σ:Za) (hd:decide (d=some j)=false) :
  ZT O bf (⟨d,i,some (j,w),af⟩::os) s tm σ=gKC O bf (ZH j w os).2 (s+sitesOf (⟨d,i,some (j,w),af⟩::(ZH j w os).1)) (Zd3 O bf j w (⟨d,i,some (j,w),af⟩::(ZH j w os).1) s tm σ):=by
 have h:=Zmb j w os
 have hall:∀ o ∈ (⟨d,i,some (j,w),af⟩::(ZH j w os).1:List AOp),o.guard=some (j,w)/\o.dst≠some j:=by
  intro o ho
  rcases List.mem_cons.1 ho with rfl | ho
  ·exact ⟨rfl,by simpa using hd⟩
  ·exact ZpK j w os o ho
 rw [<-ZqN j w _ hall s tm σ (by simp),<-ZtZ,List.cons_append,h]
variable (O bf) in
def gWC (w:Bool) (g:List AOp) (s:Nat) (tm:Tms) (σ:Za):AVal->Option (Tms×Za×List Cls×Option AVal)
 | .bool b=>if b=w then ZT O bf (g.map unG) s tm σ else some (Zau g tm,σ,g.map fun _=>{},none)
 | .tup []=>some (Zau g tm,σ,g.map fun _=>{},none)
 | _=>none
theorem ZEF (j:Nat) (w:Bool) (g:List AOp) (s:Nat) (tm:Tms) (σ:Za):Zd3 O bf j w g s tm σ=gWC O bf w g s tm σ (tget tm j):=by
 unfold Zd3 Zbf
 simp only
 generalize tget tm j=v
 cases v
 case bool b=>cases b <;> cases w <;> rfl
 case tup vs=>cases vs <;> rfl
 all_goals rfl
theorem ZAF (w:Bool) (g:List AOp) (s:Nat) (tm:Tms) (σ:Za) (b:Bool):gWC O bf w g s tm σ (.bool b)=if b=w then ZT O bf (g.map unG) s tm σ else some (Zau g tm,σ,g.map fun _=>{},none):=rfl
theorem ZxD (w:Bool) (g:List AOp) (s:Nat) (tm:Tms) (σ:Za):gWC O bf w g s tm σ (.tup [])=some (Zau g tm,σ,g.map fun _=>{},none):=rfl
theorem ZHv (q:Prop) [Decidable q] (t1 t2:Tms) (σ1 σ2:Za) (cs:List Cls):(if q then some (t1,σ1,cs,(none:Option AVal)) else some (t2,σ2,cs,none))=some ((if q then t1 else t2),(if q then σ1 else σ2),cs,none):=by split <;> rfl
end
section
theorem ZkM {r:AVal} {cs:List AVal} {σ:Za} (hr:ZG r=true) (hc:Zd cs=true):gcA 1 [r] (.var cs::σ)=([r],[.var cs]):=by
 have e1:=(ZaW (Zl (.var cs::σ) 1 [0]) r hr)
 have e2:=(ZaM (Zl (.var cs::σ) 1 [0]) cs hc)
 have h1:ZB 1 [r] (.var cs::σ)=[0]:=by
  have : Zp [r]=[]:=by simp only [Zp,e1.2,List.append_nil]
  simp only [ZB,this,List.range_one,List.flatMap_cons,List.flatMap_nil,List.append_nil,List.getD_cons_zero,ZN,e2.2]
  rfl
 simp only [gcA,h1,Ze,e1.1,Zv,List.getD_cons_zero,ZF,e2.1]
theorem ZS {r:AVal} {cs:List AVal} {σ:Za} (hr:ZG r=true) (hc:Zd cs=true):Zak 1 (.var cs::σ) r=some (r,[.var cs]):=by
 simp only [Zak,ZkM hr hc]
theorem ZeS {σ:Za} {t:Nat} {cs:List AVal} (hs:σ[t]?=some (.var cs)) (hc:Zd cs=true):ZA σ 1000 [t] []=[t]:=by
 have hd:σ.getD t .free=.var cs:=by simp [List.getD_eq_getElem?_getD,hs]
 have e2:=(ZaM (fun _ _=>none) cs hc).2
 show ZA σ (999+1) [t] []=[t]
 simp only [ZA,List.contains_nil,Bool.false_eq_true,if_false,hd,ZN,e2,List.nil_append]
end
end
section
section
variable (c:Prop) [Decidable c]
theorem ZIi (t1 t2:Tms) (σ1 σ2:Za):(if c then some (ZaL.normal,t1,σ1) else some (ZaL.normal,t2,σ2))=some (ZaL.normal,(if c then t1 else t2),(if c then σ1 else σ2)):=by split <;> rfl
theorem Zx1 (t1 t2:Tms) (σ1 σ2:Za):(if c then some (ZaL.ret,t1,σ1) else some (ZaL.ret,t2,σ2))=some (ZaL.ret,(if c then t1 else t2),(if c then σ1 else σ2)):=by split <;> rfl
theorem ZyJ (t1 t2:Tms) (σ1 σ2:Za):(if c then some (t1,σ1,(none:Option AVal)) else some (t2,σ2,none))=some ((if c then t1 else t2),(if c then σ1 else σ2),none):=by split <;> rfl
theorem ZFx (n:Nat) (a b:AVal):(if c then (n,a) else (n,b))=(n,if c then a else b):=by split <;> rfl
theorem ZHT (a b:AVal) (σ1 σ2:Za):(if c then some (a,σ1) else some (b,σ2))=some ((if c then a else b),(if c then σ1 else σ2)):=by split <;> rfl
theorem Zvr (a b:AVal) (σ1 σ2:Za) (x y:Cls):(if c then some (a,σ1,x) else some (b,σ2,y))=some ((if c then a else b),(if c then σ1 else σ2),if c then x else y):=by split <;> rfl
end
theorem ZMh {α:Type} (p:Bool) (x y z:α):(if p=true then x else (if p=false then y else z))=if p=true then x else y:=by cases p <;> rfl
theorem Zy9 (ops:List AOp) (b:Nat) (cs:List Cls):Zc0 ops b [] cs=true:=rfl
theorem ZxM (ops:List AOp) (b:Nat) (p:Nat×Nat) (l:List (Nat×Nat)) (cs:List Cls):Zc0 ops b (p::l) cs=((p.1 == p.2 || Zca (ops.getD p.1 default) (ops.getD p.2 default) (cs.getD p.1 {}) (cs.getD p.2 {}) (b+sitesOf (ops.take p.1))) && Zc0 ops b l cs):=by
 simp only [Zc0,List.all_cons]
theorem ZDf (oj oi:AOp) (cj ci:Cls) (sj:Nat):Zca oj oi cj ci sj=(Zb0 oj cj || Zb0 oi ci || (Zdx cj && Zdx ci && (nsite oj.ins == 0 || !ci.rd.contains sj)) || ((Zaf oj.ins || (Zah oj.ins && !cj.any)) && (Zdx ci && ci.rd.isEmpty)) || (Zaj oj.ins && Zaf oi.ins && ci.any && Zal cj ci) || (Zaj oj.ins && (Zah oi.ins || (Zas oi.ins && Zav cj ci)) && Zal cj ci)):=rfl
theorem ZIK (o:AOp) (rd wr:List Nat) (any:Bool) (got:List (Nat×Option Nat×Nat×AVal)) (upd:List (Nat×List AVal)):Zb0 o ⟨rd,wr,any,got,upd⟩=(nsite o.ins == 0 && rd.isEmpty && wr.isEmpty && !any):=rfl
theorem ZMH (rd wr:List Nat) (any:Bool) (got:List (Nat×Option Nat×Nat×AVal)) (upd:List (Nat×List AVal)):Zdx ⟨rd,wr,any,got,upd⟩=(wr.isEmpty && !any):=rfl
theorem Zad {α:Type} {l:List α} {i:Nat} {x:α} {r:List α} (h:l.drop i=x::r):l[i]?=some x/\l.drop (i+1)=r/\i < l.length:=by
 have h1:i < l.length:=by
  rcases Nat.lt_or_ge i l.length with h1 | h1
  ·exact h1
  ·rw [List.drop_eq_nil_of_le h1] at h;cases h
 rw [List.drop_eq_getElem_cons h1] at h
 injection h with h2 h3
 exact ⟨by rw [List.getElem?_eq_getElem h1,h2],h3,h1⟩
theorem Zc4 {α:Type} {l:List α} {i:Nat} (h:l.drop i=[]):¬(i:Int) < l.length:=by
 have:=List.drop_eq_nil_iff.1 h;omega
theorem iad {α:Type} {l:List α} {i:Nat} {x:α} (h:l[i]?=some x) (f:α->AVal) {k:Nat} (hk:(f x).cells.length=k) (σ:Za) (n:Bool) (kk:IntKind):Zde σ k (.lst n (l.map f)) (.int kk (i:Int))=some (.iptr (f x).cells 0,σ,{}):=by
 have h0:(0:Int)<=(i:Int):=Int.natCast_nonneg i
 unfold Zde
 simp only [h0,if_true,Int.toNat_natCast,List.getElem?_map,h,Option.map_some,hk]
theorem ZbV {n:Int} (h0:-9223372036854775808<=n) (h:n<=9223372036854775807):IntKind.i64.wrap n=n:=by
 rw [IntKind.wrap_i64];omega
theorem Zlf {α β:Type} {a:List α} {b:List β} (h:a.length=b.length):((a.length:Int) != (b.length:Int))=false:=by simp [h]
theorem ZjI {α β:Type} {a:List α} {b:List β} (h:a.length≠b.length):((a.length:Int) != (b.length:Int))=true:=by
 simp only [bne_iff_ne,ne_eq];omega
theorem ZjP {α:Type} [BEq α] [LawfulBEq α] {a b:List α} (h:a.length≠b.length):(a == b)=false:=by
 simp only [beq_eq_false_iff_ne,ne_eq];rintro rfl;exact h rfl
theorem Zdc {i n:Nat} (h:(i:Int) < n) (hn:n<=9223372036854775807):IntKind.i64.wrap ((i:Int)+1)=((i+1:Nat):Int):=by
 rw [ZbV (by omega) (by omega)];rfl
theorem Zcl {O:ZL} {bf:Nat->Bool} {f:Nat} {args:List AVal} {r:AVal} (h:O f args []=some (r,[])) (hb:bf f=false) (hp:args.all Z5=true) (hn:args.map ZD=args) (hv:Zbr 0 (some (r,[]))=some (r,[])) (hr:∀ sq,Zk (Zaz [] [] sq) r=r) (σ:Za) (sq own:Nat) (view:Bool):Zj O bf σ sq f own view args=some (r,σ,{}):=by
 rw [ZfG hb hp,hn,h]
 have : Z6 view 0 (some (r,[]))=some (r,[]):=by
  unfold Z6
  split
  ·exact hv
  ·rfl
 rw [this,ZgK _ _ _ _ (hr sq)]
theorem Zjt {α:Type} (σ:Za) (k:Nat) (l:List α) (f:α->AVal) (kk:IntKind) (n:Int) (h0:0<=n) (h:n<=(l.length:Int)):ZbL σ k (.lst false (l.map f)) none (some (.int kk n)) none=some (.lst false ((l.take n.toNat).map f),σ,{}):=by
 simp only [ZbL,Zbc,ZdC,List.length_map,h0,h,and_self,if_true,beq_self_eq_true,Bool.true_or,Option.isSome_none,Bool.false_eq_true,if_false,Bool.false_and,List.drop_zero,List.map_take]
abbrev Zb:=List UInt8
def ZM (b:Zb):AVal:=.lst false (b.map Zc)
structure Zt where
 id:Int
 num:Int
 text:Zb
 pair:Zb
 data:Zb
 deriving DecidableEq
def ZbB (p:Zt):List AVal:=[.int .i64 p.id,.int .i64 p.num,.str p.text,.str p.pair,ZM p.data]
def Zn (p:Zt):AVal:=.agg (ZbB p)
def Za4 (l:List Zt):AVal:=.lst false (l.map Zn)
theorem ZI4 (l:Zb):ZeZ (l.map Zc)=some l:=by
 induction l with
 | nil=>rfl
 | cons b l ih =>
  simp only [List.map_cons,ZeZ,ih,Zc,Zo5,Int.toNat_natCast,UInt8.ofNat_toNat]
end
section
def beB:Nat->Nat->Zb
 | _,0=>[]
 | n,w+1=>beB (n / 256) w++[UInt8.ofNat (n % 256)]
theorem Zba:∀ (w n:Nat),(beB n w).length=w
 | 0,_=>rfl
 | w+1,n=>by simp [beB,Zba w]
def ZiD (x:Nat) (b:Zb):Nat:=b.foldl (fun x c=>(x*256+c.toNat) % 18446744073709551616) x
def Zcx (b:Zb):Nat:=ZiD 0 b
theorem ZcE (x:Nat) (c:UInt8) (b:Zb):ZiD x (c::b)=ZiD ((x*256+c.toNat) % 18446744073709551616) b:=rfl
theorem ZeM (x:Nat):ZiD x []=x:=rfl
def Zcu:Nat->Nat->Zb
 | 0,n=>[UInt8.ofNat n]
 | k+1,n=>if n < 128 then [UInt8.ofNat n] else UInt8.ofNat (n % 128+128)::Zcu k (n / 128)
def ZaB (n:Int):Zb×Int:=if n < 0\/n > 268435455 then ([],10) else (Zcu 3 n.toNat,0)
def gvA (i n:Nat):Zb->Nat×Nat×Int
 | []=>if i < 4 then (0,0,11) else (0,0,12)
 | c::r=>if i=4 then (0,0,12) else if c.toNat < 128 then (if c=0/\0 < i then (0,0,12) else (n+c.toNat % 128*128 ^ i,i+1,0)) else gvA (i+1) (n+c.toNat % 128*128 ^ i) r
def Z8 (b:Zb):Nat×Nat×Int:=gvA 0 0 b
def Zby (b:Zb):Zb×Int:=if b.length > 65535 then ([],10) else (beB b.length 2++b,0)
def ZaC (b:Zb):Zb×Nat×Int :=
 if b.length < 2\/b.length - 2 < Zcx (b.take 2) then ([],0,11) else ((b.drop 2).take (Zcx (b.take 2)),2+Zcx (b.take 2),0)
end
section
def ZsW:=(aI (aI (aI (aI (aI (aI @Zyf @Zyn) (aI @ZMv @ZG7)) (aI (aI @ZAm @Zxm) (aI @ZDZ @ZD8))) (aI (aI (aI @Zt0 @Zn1) (aI @ZMN @Zl7)) (aI (aI @ZAY @Zw4) (aI @ZK0 @ZEn)))) (aI (aI (aI (aI @ZJ1 @ZHp) (aI @Zyo @ZIE)) (aI (aI @ZLp @ZMF) (aI @ZAd @ZJF))) (aI (aI (aI @ZEo @ZIC) (aI @ZKt @Zz8)) (aI (aI @ZHe @ZI4) (aI @ZIi @Zx1))))) (aI (aI (aI (aI (aI @ZyJ @ZFx) (aI @ZHT @Zvr)) (aI (aI @ZyS @ZC7) (aI @ZIY @Zu3))) (aI (aI (aI @ZwS @ZLR) (aI @ZIT @ZFo)) (aI (aI @Zsn @Znf) (aI @ZCC @ZyW)))) (aI (aI (aI (aI @ZGZ @ZHi) (aI @ZB0 @ZGY)) (aI (aI @ZxW @Zn9) (aI @ZHP @ZA5))) (aI (aI (aI @ZDN @ZKP) (aI @ZJf @Zyq)) (aI (aI @ZC2 @Zxf) (aI @ZEF @ZAF))))))
def Zx3:=(aI (aI (aI (aI (aI (aI @ZxD @ZHv) (aI @Zy7 @ZJk)) (aI (aI @ZxJ @ZGF) (aI @Zy9 @ZxM))) (aI (aI (aI @ZDf @ZIK) (aI @ZMH @Zq1)) (aI (aI @ZA9 @ZJ9) (aI @ZGX @Zvh)))) (aI (aI (aI (aI @Zzx @ZwQ) (aI @Zy0 @ZzT)) (aI (aI @ZtU @ZBN) (aI @ZFe @ZFP))) (aI (aI (aI @ZBR @ZCv) (aI @ZKO @Zxs)) (aI (aI @ZCR @ZLy) (aI @ZyF @ZwP))))) (aI (aI (aI (aI (aI @ZLS @ZMz) (aI @ZID @ZDy)) (aI (aI @ZwO @ZHh) (aI @ZMM @Zwy))) (aI (aI (aI @ZA4 @Zzz) (aI @ZJ5 @ZAf)) (aI (aI @ZCp @ZCm) (aI @Zvs @ZDw)))) (aI (aI (aI (aI @ZLq @ZuS) (aI @ZEy @ZEK)) (aI (aI @Zzd @ZBv) (aI @ZIW @ZDv))) (aI (aI (aI @ZEx @ZCh) (aI @ZHB @ZFE)) (aI (aI @ZAC @Zu9) (aI @Zx4 @Zvl))))))
def Za1:=(aI (aI (aI (aI (aI (aI @ZLZ @ZBo) (aI @ZxE @Zvo)) (aI (aI @ZDC @ZDu) (aI @ZId @ZAN))) (aI (aI (aI @ZKh @ZCY) (aI @ZwN @ZEl)) (aI (aI @ZBD @ZEY) (aI @ZMd @Zwa)))) (aI (aI (aI (aI @ZJh @ZyQ) (aI @ZIo @Zyx)) (aI (aI @Zu6 @ZCy) (aI @ZEA @ZMO))) (aI (aI (aI @ZEu @ZAc) (aI @ZyU @ZxQ)) (aI (aI @ZJX @ZuY) (aI @ZHZ @ZMP))))) (aI (aI (aI (aI (aI @ZIp @ZKf) (aI @ZDp @ZDO)) (aI (aI @ZvE @ZKc) (aI @ZKr @ZKM))) (aI (aI (aI @ZBl @ZMC) (aI @ZFH @ZDz)) (aI (aI @ZJP @Zvu) (aI @ZKi @ZC6)))) (aI (aI (aI (aI @ZBC @Zv6) (aI @ZJW @ZKD)) (aI (aI @ZKE @ZB3) (aI @ZMu @ZK6))) (aI (aI (aI @ZIg @Zzv) (aI @ZCN @Zwq)) (aI (aI @Zvp @ZEr) (aI @ZxS @ZCf))))))
def ZcR:=(aI (aI (aI (aI (aI (aI @ZDR @ZGt) (aI @ZEq @ZBi)) (aI (aI @ZHG @Zu2) (aI @Zzn @ZAL))) (aI (aI (aI @ZFY @ZK5) (aI @ZHH @Zsb)) (aI (aI @ZCn @Zr2) (aI @ZEb @ZzA)))) (aI (aI (aI (aI @ZAZ @ZG0) (aI @ZtE @ZF7)) (aI (aI @Zyb @ZMA) (aI @Zy2 @ZDc))) (aI (aI (aI @ZHg @ZBE) (aI @ZKF @ZEf)) (aI (aI @ZMe @ZCZ) (aI @ZxZ @ZMq))))) (aI (aI (aI (aI (aI @ZyY @Zu7) (aI @ZF8 @ZHY)) (aI (aI @ZKY @ZAo) (aI @Zso @Zvx))) (aI (aI (aI @ZC3 @ZwA) (aI @ZC9 @ZER)) (aI (aI @ZDj @ZFn) (aI @ZFg @ZsH)))) (aI (aI (aI (aI @Zye @Zsc) (aI @ZwM @ZuU)) (aI (aI @ZFp @Zw8) (aI @Zrq @ZyZ))) (aI (aI (aI @ZCz @ZDq) (aI @ZMb @ZCt)) (aI (aI @ZFI @ZFq) (aI @ZAh @ZEv))))))
def ZC:=(aI (aI (aI (aI (aI (aI @ZMG @ZEw) (aI @ZAl @ZHM)) (aI (aI @ZCi @ZzE) (aI @ZDV @ZF2))) (aI (aI (aI @ZBU @ZJs) (aI @ZBt @Zq9)) (aI (aI @ZGJ @Zxe) (aI @ZJj @ZHu)))) (aI (aI (aI (aI @ZBb @ZKm) (aI @ZKu @ZAr)) (aI (aI @ZMD @ZAW) (aI @ZAS @ZDF))) (aI (aI (aI @ZBx @ZLw) (aI @ZEM @ZvG)) (aI (aI @ZHD @ZMI) (aI @ZIQ @ZKb))))) (aI (aI (aI (aI (aI @ZGq @ZGp) (aI @ZKG @ZKU)) (aI (aI @ZEE @ZHm) (aI @Zyz @ZLY))) (aI (aI (aI @Zzo @Zwl) (aI @ZIw @ZDH)) (aI (aI @ZB5 @ZwI) (aI @ZwG @Zw6)))) (aI (aI (aI (aI @ZIt @ZKx) (aI @ZLQ @ZBc)) (aI (aI @ZwE @ZGn) (aI @ZGS @ZG3))) (aI (aI (aI @ZvC @Zxk) (aI @ZDk @ZxB)) (aI (aI @ZHC @Zxz) (aI @Zv4 @ZLW))))))
def Zs0:=(aI (aI (aI (aI (aI (aI @ZBI @ZxR) (aI @Zvd @ZLB)) (aI (aI @ZIV @ZGv) (aI @ZIm @Zxj))) (aI (aI (aI @Zx5 @ZC0) (aI @ZzF @ZvJ)) (aI (aI @ZAV @Zwb) (aI @ZG6 @Zxr)))) (aI (aI (aI (aI @ZMS @ZIs) (aI @Zzk @ZJ0)) (aI (aI @ZHw @ZDm) (aI @ZA7 @ZMc))) (aI (aI (aI @ZxV @Zvv) (aI @ZFJ @ZvL)) (aI (aI @ZBk @ZBf) (aI @ZF4 @ZKq))))) (aI (aI (aI (aI (aI @ZJY @ZxP) (aI @ZAH @Zz7)) (aI (aI @ZFD @ZvP) (aI @Zzl @Zvt))) (aI (aI (aI @ZzR @ZJK) (aI @ZCG @ZCg)) (aI (aI @ZH8 @ZxL) (aI @ZFL @ZvQ)))) (aI (aI (aI (aI @ZIG @Zym) (aI @ZD9 @ZCJ)) (aI (aI @ZzL @ZMi) (aI @ZEO @ZKz))) (aI (aI (aI @ZLI @ZDS) (aI @ZKZ @Zve)) (aI (aI @ZGD @ZxA) (aI @Zwz @ZyR))))))
def Zq:=(aI (aI (aI (aI (aI (aI @ZIA @ZIZ) (aI @ZH1 @ZEs)) (aI (aI @ZII @ZKS) (aI @ZBT @ZxU))) (aI (aI (aI @ZCB @Zyl) (aI @ZDK @ZFt)) (aI (aI @ZJq @Zvf) (aI @Zxh @ZwU)))) (aI (aI (aI (aI @ZAG @Zvk) (aI @ZG1 @ZG2)) (aI (aI @ZEp @ZwF) (aI @ZGK @ZF5))) (aI (aI (aI @ZKH @ZGI) (aI @Zxi @ZDi)) (aI (aI @ZL7 @ZKd) (aI @ZHr @ZAK))))) (aI (aI (aI (aI (aI @ZAw @ZEU) (aI @Zxo @ZxG)) (aI (aI @ZDb @ZCx) (aI @Zyd @ZLP))) (aI (aI (aI @ZA8 @ZGs) (aI @ZGo @Zu4)) (aI (aI @Zwo @ZFR) (aI @ZKa @ZJQ)))) (aI (aI (aI (aI @Zv2 @ZCA) (aI @ZKv @ZG4)) (aI (aI @ZL2 @ZCT) (aI @Zvg @ZJa))) (aI (aI (aI @ZEt @ZBg) (aI @ZvW @ZLz)) (aI (aI @ZD4 @ZBe) (aI @ZIb @ZFK))))))
def Z7:=(aI (aI (aI (aI (aI @ZuW (aI @Zxn @ZJT)) (aI (aI @ZAs @ZHS) (aI @ZGL @ZK1))) (aI (aI @ZJV (aI @ZCd @ZGc)) (aI (aI @ZE6 @ZBZ) (aI @ZHx @ZDs)))) (aI (aI (aI @ZBy (aI @ZBO @ZvI)) (aI (aI @ZEZ @Zzp) (aI @Zv1 @ZH3))) (aI (aI (aI @ZMs @Zwj) (aI @ZLL @ZJd)) (aI (aI @ZDG @ZyK) (aI @ZIJ @Zvq))))) (aI (aI (aI (aI @ZAI (aI @ZDA @ZuR)) (aI (aI @ZHL @ZLF) (aI @Zu5 @ZL9))) (aI (aI (aI @ZGR @ZCK) (aI @Zxb @ZLk)) (aI (aI @ZDo @ZKe) (aI @ZAq @ZMx)))) (aI (aI (aI @ZAa (aI @ZAE @ZKJ)) (aI (aI @ZGi @ZFj) (aI @ZBH @ZFi))) (aI (aI (aI @Zw5 @ZHl) (aI @ZKX @ZJg)) (aI (aI @ZAM @ZS) (aI @ZET @Zus))))))
def Zbq:=(aI (aI (aI (aI (aI (aI @List.map_cons.{0,0} @List.map_nil.{0,0}) (aI @List.length_cons.{0} @List.length_nil.{0})) (aI (aI @List.replicate_zero.{0} @List.replicate_succ.{0}) (aI @List.append_nil.{0} @List.nil_append.{0}))) (aI (aI (aI @List.cons_append.{0} @List.getElem?_cons_zero.{0}) (aI @List.getElem?_cons_succ.{0} @List.set_cons_zero.{0})) (aI (aI @List.set_cons_succ.{0} @Nat.add_zero) (aI @Nat.zero_add @Bool.true_or)))) (aI (aI (aI (aI @Bool.false_or @Bool.or_true) (aI @Bool.or_false @Bool.and_true)) (aI (aI @Bool.true_and @Bool.and_self) (aI @Bool.and_false @Bool.false_and))) (aI (aI (aI @if_true.{1} @if_false.{1}) (aI @ite_true.{1} @ite_false.{1})) (aI (aI @Option.map_some.{0,0} @Option.map_none.{0,0}) (aI @and_self @and_true))))) (aI (aI (aI (aI (aI @true_and @and_false) (aI @false_and @true_or)) (aI (aI @or_true @false_or) (aI @or_false @not_true_eq_false))) (aI (aI (aI @not_false_eq_true @List.drop_zero.{0}) (aI @List.drop_succ_cons.{0} @List.take_succ_cons.{0})) (aI (aI @List.take_zero.{0} @List.all_cons.{0}) (aI @List.all_nil.{0} @List.isEmpty_nil.{0})))) (aI (aI (aI (aI @Bool.not_false @Bool.not_true) (aI @List.length_map.{0,0} @Bool.bne_false)) (aI (aI @Bool.bne_true @List.isEmpty_cons.{0}) (aI @List.getD_cons_zero.{0} @List.getD_cons_succ.{0}))) (aI (aI (aI @List.getD_nil.{0} @List.contains_nil.{0}) (aI @List.range_zero @List.flatMap_cons.{0,0})) (aI (aI @List.flatMap_nil.{0,0} @List.zip_cons_cons.{0,0}) (aI @List.zip_nil_left.{0,0} @List.zip_nil_right.{0,0}))))))
def Zck:=@Nat.not_lt_zero
def EQA := (aI (aI (aI (aI (aI (aI (aI ZsW Zx3) (aI Zs0 Zbq)) (aI (aI @exI.eq_1 @nsite.eq_1) (aI @nsite.eq_2 @nsite.eq_3))) (aI (aI (aI @nsite.eq_4 @nsite.eq_5) (aI @nsite.eq_6 @nsite.eq_7)) (aI (aI @nsite.eq_8 @nsite.eq_9) (aI @nsite.eq_10 @nsite.eq_11)))) (aI (aI (aI (aI @freeAt.eq_1 @execI.eq_1) (aI @execI.eq_2 @execI.eq_3)) (aI (aI @execI.eq_4 @execI.eq_5) (aI @execI.eq_6 @execI.eq_7))) (aI (aI (aI @execI.eq_8 @execI.eq_9) (aI @execI.eq_10 @execI.eq_11)) (aI (aI @execI.eq_12 @execI.eq_13) (aI @execI.eq_14 @execI.eq_15))))) (aI (aI (aI (aI (aI @execI.eq_16 @execI.eq_17) (aI @execI.eq_18 @execI.eq_19)) (aI (aI @execI.eq_20 @execI.eq_21) (aI @execI.eq_22 @execI.eq_23))) (aI (aI (aI @execI.eq_24 @execI.eq_25) (aI @execI.eq_26 @execI.eq_27)) (aI (aI @execI.eq_28 @execI.eq_29) (aI @execI.eq_30 @execI.eq_31)))) (aI (aI (aI (aI @execI.eq_32 @execI.eq_33) (aI @execI.eq_34 @execI.eq_35)) (aI (aI @execI.eq_36 @execI.eq_37) (aI @execI.eq_38 @execI.eq_39))) (aI (aI (aI @execI.eq_40 @execI.eq_41) (aI @execI.eq_42 @execI.eq_43)) (aI (aI @execI.eq_44 @execI.eq_45) (aI @execI.eq_46 (aI @execI.eq_47 @execI.eq_48))))))) (aI (aI (aI (aI (aI (aI @execI.eq_49 @Opd.ev.eq_1) (aI @Opd.ev.eq_2 @tget.eq_1)) (aI (aI @tget.eq_2 @tins.eq_1) (aI @tins.eq_2 @tput.eq_1))) (aI (aI (aI @tput.eq_2 @keepL.eq_1) (aI @sitesOf.eq_1 @resA.eq_1)) (aI (aI @resAll.eq_1 @resAll.eq_2) (aI @resOne.eq_1 @resOne.eq_2)))) (aI (aI (aI (aI @enterA.eq_1 @enterA.eq_2) (aI @partA.eq_1 @partA.eq_2)) (aI (aI @faddrA.eq_1 @faddrA.eq_2) (aI @faddrA.eq_3 @faddrA.eq_4))) (aI (aI (aI @setAt.eq_1 @binA.eq_1) (aI @binA.eq_2 @binA.eq_3)) (aI (aI @binA.eq_4 @binA.eq_5) (aI @arithA.eq_1 @arithA.eq_2))))) (aI (aI (aI (aI (aI @arithA.eq_3 @arithA.eq_4) (aI @arithA.eq_5 @arithA.eq_6)) (aI (aI @arithA.eq_7 @arithA.eq_8) (aI @arithA.eq_9 @arithA.eq_10))) (aI (aI (aI @arithA.eq_11 @arithA.eq_12) (aI @arithA.eq_13 @arithA.eq_14)) (aI (aI @arithA.eq_15 @arithA.eq_16) (aI @ldA.eq_1 @ldA.eq_2)))) (aI (aI (aI (aI @ldA.eq_3 @ldA.eq_4) (aI @stA.eq_1 @stA.eq_2)) (aI (aI @stA.eq_3 @List.sum_cons.{0}) (aI @List.sum_nil.{0} @eq_self.{1}))) (aI (aI (aI @beq_self_eq_true.{0} @Bool.false_eq_true) (aI @Option.some.injEq.{0} @decide_true)) (aI (aI @decide_false @List.foldl_cons.{0, 0}) (aI @List.foldl_nil.{0, 0} (aI @List.contains_cons.{0} @ne_eq.{1}))))))))
end
section
theorem ZD7 {O:ZL} {bf:Nat->Bool} {σ:Za} {sq f own:Nat} {view:Bool} {args:List AVal} (h:args.all Z5=true) (hm:args.map ZD=args) :
  Zj O bf σ sq f own view args=Zay σ σ [] [] sq own (Z6 view 0 (O f args [])):=by
 cases hb:bf f
 ·rw [ZfG hb h,hm]
 ·have hr:=Zc5 h
  have hn:=fun ρ=>Zdb (ρ:=ρ) h
  rw [hm] at hr
  simp only [hm] at hn
  unfold Zj ZbJ
  rw [hb]
  simp only [if_true]
  have h1:Zo σ []=σ:=rfl
  rw [h1,hr]
  have h2:ZA σ 1000 [] []=[]:=rfl
  rw [h2]
  unfold Zbt
  simp only [List.all_nil,if_true,hn,Zv,List.length_nil]
theorem ZnY {O:ZL} {bf:Nat->Bool} {f:Nat} {args:List AVal} {k n:Nat} {xs:List AVal} (h:O f args []=some (.sl 0 0 0 n,[.row 0 k xs])) (hn:xs.length=n) (hp:args.all Z5=true) (hm:args.map ZD=args) (σ:Za) (sq own:Nat):Zj O bf σ sq f own true args=some (.lst false xs,σ,{}):=by
 rw [ZD7 hp hm,h]
 have : Z6 true 0 (some (.sl 0 0 0 n,[.row 0 k xs]))=some (.lst false xs,[]):=by
  unfold Z6
  rw [if_pos rfl,ZKo (k:=k) (g:=0) (t:=0) (xs:=xs) rfl (by omega),List.take_of_length_le (by omega)]
 rw [this,ZgK _ _ _ _ rfl]
theorem ZBX {O:ZL} {bf:Nat->Bool} {σ:Za} {f:Nat} {args vs:List AVal} {ts:List Nat} {r r':AVal} (hb:bf f=false) (hsh:showAs σ args=some (vs,ts)) (hp:vs.all Z5=true) (hm:vs.map ZD=vs) (h:O f vs []=some (r,[])) (hv:Zbr 0 (some (r,[]))=some (r',[])) (sq own:Nat) :
  Zj O bf σ sq f own true args=if Zbv r' then some (r',σ,{ rd:=ts }) else if ZcS σ ts r' then some (r',σ,{ rd:=ts }) else some (Zk (Zaz [] [] sq) r',Zo σ ts,{ rd:=ts,wr:=ts }):=by
 have hr:=Zc5 hp
 have hn:=fun ρ=>Zdb (ρ:=ρ) hp
 rw [hm] at hr
 simp only [hm] at hn
 unfold Zj ZbJ
 rw [hb]
 simp only [Bool.false_eq_true,if_false,hsh]
 rw [hr]
 have h2:∀ σ,ZA σ 1000 [] []=[]:=fun _=>rfl
 rw [h2]
 unfold Zbt
 simp only [List.all_nil,if_true,hn,Zv,List.length_nil,h]
 have : Z6 true 0 (some (r,[]))=some (r',[]):=by unfold Z6;rw [if_pos rfl,hv]
 rw [this]
 simp only [Zay,List.isEmpty_nil,Bool.and_self,if_true]
theorem ZuT {O:ZL} {bf:Nat->Bool} {σ:Za} {f:Nat} {args vs:List AVal} {ts:List Nat} {r r':AVal} (hb:bf f=false) (hsh:showAs σ args=some (vs,ts)) (hp:vs.all Z5=true) (hm:vs.map ZD=vs) (h:O f vs []=some (r,[])) (hv:Zbr 0 (some (r,[]))=some (r',[])) (hap:ZcS σ ts r'=true) (sq own:Nat) :
  Zj O bf σ sq f own true args=some (r',σ,{ rd:=ts }):=by
 rw [ZBX hb hsh hp hm h hv,if_pos hap]
 split <;> rfl
theorem Zbm {O:ZL} {bf:Nat->Bool} {f:Nat} {args args':List AVal} {r r':AVal} (h:O f args' []=some (r,[])) (hb:bf f=false) (hp:args.all Z5=true) (hn:args.map ZD=args') (hv:Zbr 0 (some (r,[]))=some (r',[])) (hr:∀ sq,Zk (Zaz [] [] sq) r'=r') (σ:Za) (sq own:Nat):Zj O bf σ sq f own true args=some (r',σ,{}):=by
 rw [ZfG hb hp,hn,h]
 have : Z6 true 0 (some (r,[]))=some (r',[]):=by
  unfold Z6
  rw [if_pos rfl];exact hv
 rw [this,ZgK _ _ _ _ (hr sq)]
theorem ZAP (k n:Nat) (xs:List AVal) (σ:Za):Zak 0 (.row 0 k xs::σ) (.sl 0 0 0 n)=some (.sl 0 0 0 n,[.row 0 k xs]):=by
 simp [Zak,gcA,ZB,ZA,Zp,ZV,Zl,Zv,ZZ,Zm,ZR,Ze,Zk,ZF,ZN]
def Zei:List AVal->AVal
 | []=>.lst true []
 | x::xs=>.sl 0 0 0 (x::xs).length
def Zd0 (k:Nat):List AVal->Za
 | []=>[]
 | x::xs=>[.row 0 k (x::xs)]
theorem ZfS:Zei []=.lst true []:=rfl
theorem ZgP (x:AVal) (xs:List AVal):Zei (x::xs)=.sl 0 0 0 (x::xs).length:=rfl
theorem Ze7 (k:Nat):Zd0 k []=[]:=rfl
theorem ZhA (k:Nat) (x:AVal) (xs:List AVal):Zd0 k (x::xs)=[.row 0 k (x::xs)]:=rfl
theorem ZfN (l:Zb):kOk 1 (l.map Zc)=true:=by cases l <;> rfl
end
section
theorem ZMr (n:Nat):IntKind.u8.wrap (n:Int)=((UInt8.ofNat (n % 256)).toNat:Int):=by
 rw [IntKind.wrap_u8,UInt8.toNat_ofNat']
 omega
theorem ZJo (k n:Nat) (xs:List AVal) (σ:Za):Zak 0 (.row 0 k xs::σ) (.sl 0 0 0 n)=some (.sl 0 0 0 n,[.row 0 k xs]):=by
 simp [Zak,gcA,ZB,ZA,Zp,ZV,Zl,Zv,ZZ,Zm,ZR,Ze,Zk,ZF,ZN]
theorem ZEi (m:Nat) (z:AVal) (t:List AVal):(List.replicate (m+1) z++t)[m]?=some z:=by
 rw [List.getElem?_append_left (by simp)];simp
theorem ZDr (m:Nat) (z v:AVal) (t:List AVal):(List.replicate (m+1) z++t).set m v=List.replicate m z++v::t:=by
 rw [List.replicate_succ',List.append_assoc,List.set_append_right _ _ (by simp)];simp
theorem ZqG (W:Nat) (hW:W<=8):∀ (m n:Nat) (tail:Zb),m+tail.length=W->Zlu 0 [(6,.int .i64 ((m:Int) - 1)),(5,.sl 0 0 0 W),(0,.int .u64 (n:Nat))] [.row 0 1 (List.replicate m (.int .u8 0)++tail.map Zc)]=some (.sl 0 0 0 W,[.row 0 1 ((beB n m++tail).map Zc)])
 | 0,n,tail,h=>by
  have h1:¬(((0:Nat):Int) - 1>=0):=by omega
  unfold Zlu
  rw [Z9,beB]
  simp -implicitDefEqProofs only [EQA,Nat.reduceLT,Nat.reduceEqDiff,reduceCtorEq,↓reduceIte,ZCo,Zzc,Zoh,Zql,Zjx,oI,oN,h1,ZJo]
 | m+1,n,tail,h=>by
  have ih:=ZqG W hW m (n / 256) (UInt8.ofNat (n % 256)::tail) (by simp;omega)
  have e0:((m+1:Nat):Int) - 1=(m:Int):=by omega
  have h1:(m:Int)>=0:=by omega
  have h2:(0:Int)<=(m:Int):=by omega
  have h3:m < W:=by omega
  have hg:=ZEi m (.int .u8 0) (tail.map Zc)
  have hs:=ZDr m (.int .u8 0) (Zc (UInt8.ofNat (n % 256))) (tail.map Zc)
  have hb:=ZMr n
  have hw:IntKind.i64.wrap ((m:Int) - 1)=(m:Int) - 1:=ZbV (by omega) (by omega)
  have hd:(n:Int).fdiv (2 ^ min (Int.toNat 8) IntKind.u64.bits)=((n / 256:Nat):Int):=by
   rw [show (2:Int) ^ min (Int.toNat 8) IntKind.u64.bits=256 from rfl,Int.fdiv_eq_ediv_of_nonneg _ (by decide)]
   omega
  have e1:beB n (m+1)++tail=beB (n / 256) m++(UInt8.ofNat (n % 256)::tail):=by simp [beB]
  rw [e0,e1]
  have e2:List.replicate m (AVal.int .u8 0)++(UInt8.ofNat (n % 256)::tail).map Zc=List.replicate m (.int .u8 0)++Zc (UInt8.ofNat (n % 256))::tail.map Zc:=rfl
  rw [e2] at ih
  generalize hX:List.replicate (m+1) (AVal.int .u8 0)++tail.map Zc=X at *
  generalize hY:List.replicate m (AVal.int .u8 0)++Zc (UInt8.ofNat (n % 256))::tail.map Zc=Y at *
  unfold Zc at hs
  unfold Zlu at ih ⊢
  rw [Z9]
  simp -implicitDefEqProofs only [EQA,Z7,Zck,Nat.reduceLT,Nat.reduceEqDiff,Zax,reduceCtorEq,↓reduceIte,gcT,gcA,ZB,ZA,Zl,Zv,ZZ,Zm,ZR,ZF,ZN,Zql,Zjx,oI,oN,h1,h3,hg,hs,hb,hw,hd,Zde,Int.toNat_natCast,AVal.cells,ZaG,ZK,ZhX,Zo,Int.reduceLT]
  exact ih
theorem ZMf (n W:Nat) (h1:1<=W) (hW:W<=8):E 106 [.int .u64 (n:Nat),.int .i64 (W:Nat)] []=some (.sl 0 0 0 W,[.row 0 1 ((beB n W).map Zc)]):=by
 have key:=ZqG W hW W n [] (by simp)
 have c1:¬((W:Int) < 1):=by omega
 have c2:¬((W:Int) > 8):=by omega
 have c3:(0:Int)<=(W:Int):=by omega
 have c4:(W:Int)<=9223372036854775807:=by omega
 have c5:((1:Nat):Int)*(W:Int)<=140737488355328:=by omega
 have w1:IntKind.i64.wrap ((W:Int) - 1)=(W:Int) - 1:=ZbV (by omega) (by omega)
 simp only [List.map_nil,List.append_nil] at key
 rw [Zh (by rfl) ZFw]
 unfold Zlu at key
 simp -implicitDefEqProofs only [EQA,ZC,Z7,Zck,Nat.reduceLT,Nat.reduceEqDiff,Nat.reduceBEq,ZH,unG,reduceCtorEq,↓reduceIte,gcT,gcA,ZB,ZA,Zl,Zv,ZZ,Zm,ZR,ZF,ZN,ZyI,Zny,oI,c1,c2,c3,c4,c5,w1,Int.le_refl,Int.toNat_natCast]
 exact key
theorem ZlA (σ:Za) (sq own:Nat) (n W:Nat) (h1:1<=W) (hW:W<=8):Zj E BY σ sq 106 own true [.int .u64 (n:Nat),.int .i64 (W:Nat)]=some (.lst false ((beB n W).map Zc),σ,{}) :=
 ZnY (bf:=BY) (ZMf n W h1 hW) (by simp [Zba]) rfl rfl σ sq own
theorem ZF9 (x c:Nat) (hc:c < 256):IntKind.u64.wrap (((BitVec.ofInt IntKind.u64.bits (IntKind.u64.wrap ((x:Int)*2 ^ min (Int.toNat 8) IntKind.u64.bits)) ||| BitVec.ofInt IntKind.u64.bits (c:Int)).toNat:Nat):Int)=(((x*256+c) % 18446744073709551616:Nat):Int):=by
 rw [show (2:Int) ^ min (Int.toNat 8) IntKind.u64.bits=256 from rfl]
 have hb:IntKind.u64.bits=64:=rfl
 rw [hb,IntKind.wrap_u64,IntKind.wrap_u64]
 have e1:(x:Int)*256 % 18446744073709551616=((x*256 % 18446744073709551616:Nat):Int):=by omega
 rw [e1,BitVec.toNat_or]
 simp only [BitVec.ofInt_natCast,BitVec.toNat_ofNat]
 have e2:x*256 % 18446744073709551616 % 2 ^ 64=(x % 72057594037927936) <<< 8:=by
  rw [Nat.shiftLeft_eq];omega
 have e3:c % 2 ^ 64=c:=by omega
 rw [e2,e3,<-Nat.shiftLeft_add_eq_or_of_lt (by omega:c < 2 ^ 8),Nat.shiftLeft_eq]
 omega
theorem Zsi (b:Zb) (hl:b.length<=9223372036854775807):∀ (r:Zb) (i x:Nat),b.drop i=r->Zk7 0 [(8,.int .i64 i),(7,.int .i64 b.length),(6,.lst false (b.map Zc)),(3,.int .u64 (x:Nat))] []=some (.int .u64 (ZiD x r:Nat),[])
 | [],i,x,h=>by
  have h1:=Zc4 h
  unfold Zk7
  rw [Z9,ZeM]
  simp -implicitDefEqProofs only [EQA,Nat.reduceLT,Nat.reduceEqDiff,↓reduceIte,ZDg,ZHy,Zpb,ZrA,Zk4,oI,h1]
 | c::r,i,x,h=>by
  have ih:=Zsi b hl r (i+1) ((x*256+c.toNat) % 18446744073709551616) (Zad h).2.1
  have h1:(i:Int) < b.length:=by have:=(Zad h).2.2;omega
  have e1:=iad (Zad h).1 Zc (k:=1) rfl
  have e3:=Zdc h1 hl
  have ho:=ZF9 x c.toNat c.toNat_lt
  have hc:IntKind.u64.wrap (c.toNat:Int)=(c.toNat:Int):=by rw [IntKind.wrap_u64];have:=c.toNat_lt;omega
  unfold Zk7 at ih ⊢
  rw [Z9,ZcE]
  simp -implicitDefEqProofs only [EQA,Z7,Nat.reduceLT,Nat.reduceEqDiff,Zax,↓reduceIte,gcT,gcA,ZB,ZA,Zv,ZN,ZrA,Zk4,oI,h1,e1,e3,ho,hc,Zc,AVal.cells,Int.reduceLT]
  exact ih
theorem ZME (b:Zb) (hl:b.length<=9223372036854775807):E 96 [ZM b] []=some (.int .u64 (Zcx b:Nat),[]):=by
 have key:=Zsi b hl b 0 0 rfl
 have z0:((0:Nat):Int)=0:=rfl
 rw [z0] at key
 unfold Zk7 at key
 unfold Zcx
 rw [Zh (by rfl) ZCP]
 simp -implicitDefEqProofs only [EQA,Z7,Nat.reduceLT,Nat.reduceEqDiff,reduceCtorEq,↓reduceIte,gcT,gcA,ZB,ZA,Zv,ZN,ZGB,Zm0,oI,ZM]
 exact key
theorem Zjm (σ:Za) (sq own:Nat) (b:Zb) (hl:b.length<=9223372036854775807) (f:Bool):Zj E BY σ sq 96 own true [.lst f (b.map Zc)]=some (.int .u64 (Zcx b:Nat),σ,{}) :=
 Zbm (ZME b hl) (by kernel_rfl) rfl rfl rfl (fun _=>rfl) _ _ _
end
section
theorem ZrH (ls:List Zb) (hl:ls.length<=9223372036854775807):∀ (r:List Zb) (i:Nat) (acc full:Zb),ls.drop i=r->full=acc++r.flatten->full.length<=140737488355328 ->
  Zi4 0 [(8,.int .i64 i),(7,.int .i64 ls.length),(6,.lst false (ls.map ZM)),(3,.sl 0 0 0 acc.length)] [.row 0 1 (acc.map Zc)]=some (.sl 0 0 0 full.length,[.row 0 1 (full.map Zc)])
 | [],i,acc,full,h,hf,hn=>by
  have h1:=Zc4 h
  have e:full=acc:=by simpa using hf
  subst e
  unfold Zi4
  rw [Z9]
  simp -implicitDefEqProofs only [EQA,Nat.reduceLT,Nat.reduceEqDiff,↓reduceIte,ZwK,ZzJ,Zoj,ZnK,Zio,oI,h1,ZAP]
 | p::r,i,acc,full,h,hf,hn=>by
  have ih:=ZrH ls hl r (i+1) (acc++p) full (Zad h).2.1 (by rw [hf];simp) hn
  have h1:(i:Int) < ls.length:=by have:=(Zad h).2.2;omega
  have e1:=iad (Zad h).1 ZM (k:=1) rfl
  have e3:=Zdc h1 hl
  have k1:=ZfN p
  have k2:(acc.length+p.length)*1<=140737488355328:=by have:=congrArg List.length hf;simp at this;omega
  have e4:(acc++p).map Zc=acc.map Zc++p.map Zc:=by simp
  have e5:(acc++p).length=acc.length+p.length:=by simp
  rw [e4,e5] at ih
  clear hf
  unfold Zi4 at ih ⊢
  rw [Z9]
  unfold ZM at e1 ih ⊢
  simp -implicitDefEqProofs only [EQA,Z7,Zck,Nat.reduceAdd,Nat.reduceLT,Nat.reduceEqDiff,Nat.reduceBEq,reduceCtorEq,ZY,↓reduceIte,gcT,gcA,ZB,ZA,Zl,Zv,ZZ,Zm,ZR,ZF,ZN,ZnK,Zio,oI,h1,e1,e3,k1,k2,ZaR,AVal.cells]
  exact ih
theorem ZBd (p:Zb) (ls:List Zb) (hl:(p::ls).length<=9223372036854775807) (hn:(p::ls).flatten.length<=140737488355328):E 37 [.lst false ((p::ls).map ZM)] []=some (.sl 0 0 0 (p::ls).flatten.length,[.row 0 1 ((p::ls).flatten.map Zc)]):=by
 have key:=ZrH (p::ls) hl ls 1 p (p::ls).flatten rfl rfl hn
 have k1:=ZfN p
 have k2:p.length*1<=140737488355328:=by simp at hn;omega
 have h1:(0:Int) < ((p::ls).length:Int):=by simp
 have hat:(p::ls)[0]?=some p:=rfl
 have e1:=iad hat ZM (k:=1) rfl
 have z0:((0:Nat):Int)=0:=rfl
 have z1:((1:Nat):Int)=1:=rfl
 have w1:IntKind.i64.wrap (0+1)=1:=rfl
 rw [z0] at e1
 rw [z1] at key
 unfold Zi4 at key
 generalize hL:p::ls=L at *
 rw [Zh (by rfl) ZLx]
 unfold ZM at e1 key ⊢
 simp -implicitDefEqProofs only [EQA,Z7,Nat.reduceLT,Nat.reduceEqDiff,reduceCtorEq,↓reduceIte,gcT,gcA,ZB,ZA,Zv,ZN,Zz9,ZpL,oI]
 rw [Z9]
 simp -implicitDefEqProofs only [EQA,Z7,Zck,Nat.reduceLT,Nat.reduceEqDiff,Nat.reduceBEq,ZY,↓reduceIte,gcT,gcA,ZB,ZA,Zl,Zv,ZZ,Zm,ZR,ZF,ZN,ZnK,Zio,oI,h1,e1,w1,k1,k2,ZaR,AVal.cells]
 exact key
theorem ZgW (σ:Za) (sq own:Nat) (f:Bool) (p:Zb) (ls:List Zb) (hl:(p::ls).length<=9223372036854775807) (hn:(p::ls).flatten.length<=140737488355328):Zj E BY σ sq 37 own true [.lst f ((p::ls).map ZM)]=some (.lst false ((p::ls).flatten.map Zc),σ,{}):=by
 have h:=ZnY (bf:=BY) (ZBd p ls hl hn) (by rw [List.length_map]) rfl rfl σ sq own
 cases f
 ·exact h
 ·rw [ZfG (by kernel_rfl) rfl] at h ⊢
  exact h
theorem ZFs:∀ n:Fin 256,IntKind.u8.wrap (((BitVec.ofInt IntKind.u8.bits ((n.val:Nat):Int) ||| BitVec.ofInt IntKind.u8.bits 128).toNat:Nat):Int)=((n.val % 128+128:Nat):Int):=by decide +kernel
theorem ZIk (n:Nat):IntKind.u8.wrap (((BitVec.ofInt IntKind.u8.bits (IntKind.u8.wrap (n:Int)) ||| BitVec.ofInt IntKind.u8.bits 128).toNat:Nat):Int)=((UInt8.ofNat (n % 128+128)).toNat:Int):=by
 have h:=ZFs ⟨n % 256,Nat.mod_lt _ (by decide)⟩
 have e:IntKind.u8.wrap (n:Int)=((n % 256:Nat):Int):=by rw [IntKind.wrap_u8];omega
 rw [e,h,UInt8.toNat_ofNat']
 simp only
 omega
theorem Zqm:∀ (k n:Nat) (acc full:Zb),n < 128 ^ (k+1)->acc.length+k<=3->full=acc++Zcu k n ->
  ZkE 0 [(4,Zei (acc.map Zc)),(0,.int .i64 (n:Nat))] (Zd0 1 (acc.map Zc))=some (.tup [.sl 0 0 0 full.length,.int .i64 0],[.row 0 1 (full.map Zc)])
 | k,n,acc,full,hk,hacc,hf=>by
  by_cases hn:n < 128
  ·have h1:¬((n:Int) > 127):=by omega
   have hv:Zcu k n=[UInt8.ofNat n]:=by cases k <;> simp [Zcu,hn]
   rw [hv] at hf
   have hb:IntKind.u8.wrap (n:Int)=((UInt8.ofNat n).toNat:Int):=by rw [IntKind.wrap_u8,UInt8.toNat_ofNat'];omega
   subst hf
   unfold ZkE
   rw [Z9]
   cases acc with
   | nil =>
    simp -implicitDefEqProofs only [EQA,Nat.reduceLT,Nat.reduceLeDiff,Nat.reduceEqDiff,Nat.reduceBEq,reduceCtorEq,ZY,↓reduceIte,ZjM,Zrm,Zkt,ZkZ,Zhe,oI,h1,hb,ZfS,Ze7,ZaR,kOk,viewAs,ZQ,ZK,Zo,Nat.one_mul,AVal.cells]
    simp [Zak,gcA,ZB,ZA,Zp,ZV,Zl,Zv,ZZ,Zm,ZR,Ze,Zk,ZF,ZN]
    rfl
   | cons a acc =>
    have hz:(acc.length+1+1)*1<=140737488355328:=by simp at hacc;omega
    simp -implicitDefEqProofs only [EQA,Nat.reduceAdd,Nat.reduceLT,Nat.reduceEqDiff,Nat.reduceBEq,reduceCtorEq,ZY,↓reduceIte,ZjM,Zrm,Zkt,ZkZ,Zhe,oI,h1,hb,ZgP,ZhA,ZaR,kOk,viewAs,ZQ,ZK,Zo,AVal.cells,hz]
    simp [Zak,gcA,ZB,ZA,Zp,ZV,Zl,Zv,ZZ,Zm,ZR,Ze,Zk,ZF,ZN]
    rfl
  ·cases k with
   | zero=>simp at hk;omega
   | succ k =>
    have hlt:n / 128 < 128 ^ (k+1):=by
     rw [Nat.div_lt_iff_lt_mul (by decide)]
     rw [Nat.pow_succ] at hk;exact hk
    have hv:Zcu (k+1) n=UInt8.ofNat (n % 128+128)::Zcu k (n / 128):=by simp [Zcu,hn]
    have ih:=Zqm k (n / 128) (acc++[UInt8.ofNat (n % 128+128)]) full hlt (by simp;omega) (by rw [hf,hv];simp)
    clear hf
    have h1:((n:Int) > 127):=by omega
    have ho:=ZIk n
    have hd:(n:Int).fdiv (2 ^ min (Int.toNat 7) IntKind.i64.bits)=((n / 128:Nat):Int):=by
     rw [show (2:Int) ^ min (Int.toNat 7) IntKind.i64.bits=128 from rfl,Int.fdiv_eq_ediv_of_nonneg _ (by decide)]
     omega
    unfold ZkE at ih ⊢
    rw [Z9]
    cases acc with
    | nil =>
     simp -implicitDefEqProofs only [EQA,Z7,Zck,Nat.reduceLT,Nat.reduceLeDiff,Nat.reduceEqDiff,Nat.reduceBEq,Zax,reduceCtorEq,ZY,↓reduceIte,gcT,gcA,ZB,ZA,Zl,Zv,ZZ,Zm,ZR,ZF,ZN,ZkZ,Zhe,oI,h1,ho,hd,ZfS,Ze7,ZaR,kOk,viewAs,ZQ,ZK,Zo,Nat.one_mul,AVal.cells,Int.reduceLT]
     simp only [List.map_cons,List.map_nil,List.nil_append,ZgP,ZhA,List.length_cons,List.length_nil,Nat.zero_add,Zc] at ih
     exact ih
    | cons a acc =>
     have hz:(acc.length+1+1)*1<=140737488355328:=by simp at hacc;omega
     simp -implicitDefEqProofs only [EQA,Z7,Zck,Nat.reduceAdd,Nat.reduceLT,Nat.reduceEqDiff,Nat.reduceBEq,Zax,reduceCtorEq,ZY,↓reduceIte,gcT,gcA,ZB,ZA,Zl,Zv,ZZ,Zm,ZR,ZF,ZN,ZkZ,Zhe,oI,h1,ho,hd,ZgP,ZhA,ZaR,kOk,viewAs,ZQ,ZK,Zo,AVal.cells,hz,Int.reduceLT]
     simp only [List.map_append,List.map_cons,List.map_nil,List.cons_append,ZgP,ZhA,List.length_append,List.length_cons,List.length_map,List.length_nil,Nat.zero_add,Nat.add_assoc,Nat.reduceAdd,Zc] at ih
     exact ih
theorem ZAD (n:Int):E 36 [.int .i64 n] []=some (if n < 0\/n > 268435455 then (.tup [.lst true [],.int .i64 10],[]) else (.tup [.sl 0 0 0 (Zcu 3 n.toNat).length,.int .i64 0],[.row 0 1 ((Zcu 3 n.toNat).map Zc)])):=by
 rw [Zh (by rfl) ZFc]
 by_cases h0:n < 0
 ·have : n < 0\/n > 268435455:=Or.inl h0
  simp -implicitDefEqProofs only [EQA,Zq,Nat.reduceLT,Nat.reduceEqDiff,ZH,Zau,reduceCtorEq,↓reduceIte,Zd,ZnD,Zia,ZjM,oI,h0]
 ·by_cases h2:n > 268435455
  ·have : n < 0\/n > 268435455:=Or.inr h2
   simp -implicitDefEqProofs only [EQA,Zq,Nat.reduceLT,Nat.reduceEqDiff,ZH,unG,reduceCtorEq,↓reduceIte,Zd,ZnD,Zia,ZjM,oI,h0,h2]
  ·have : ¬(n < 0\/n > 268435455):=by omega
   have key:=Zqm 3 n.toNat [] (Zcu 3 n.toNat) (by omega) (by simp) rfl
   have e:((n.toNat:Nat):Int)=n:=by omega
   rw [e] at key
   simp only [List.map_nil,ZfS,Ze7] at key
   unfold ZkE at key
   generalize Zcu 3 n.toNat=V at *
   simp -implicitDefEqProofs only [EQA,Z7,Nat.reduceLT,Nat.reduceEqDiff,ZH,unG,reduceCtorEq,↓reduceIte,gcT,gcA,ZB,ZA,Zv,ZN,ZnD,Zia,oI,h0,h2]
   exact key
def Zex (n:Int):AVal:=.tup [.lst false ((ZaB n).1.map Zc),.int .i64 (ZaB n).2]
theorem ZJy {O:ZL} {bf:Nat->Bool} {f:Nat} {args args':List AVal} {k n:Nat} {xs:List AVal} {c:Int} (h:O f args' []=some (.tup [.sl 0 0 0 n,.int .i64 c],[.row 0 k xs])) (hl:xs.length=n) (hb:bf f=false) (hp:args.all Z5=true) (hn:args.map ZD=args') (σ:Za) (sq own:Nat):Zj O bf σ sq f own true args=some (.tup [.lst false xs,.int .i64 c],σ,{}):=by
 subst hl
 rw [ZfG hb hp,hn,h]
 simp [Z6,Zbr,viewR,viewAs,ZQ,ZK,ZY,Zo,gcA,ZB,ZA,Zp,ZV,Ze,Zk,Zv,Zay,Zbv,Zbh,ZaP]
theorem Ze8 (σ:Za) (sq own:Nat) (n:Int):Zj E BY σ sq 36 own true [.int .i64 n]=some (Zex n,σ,{}):=by
 have h:=ZAD n
 unfold Zex ZaB
 by_cases hc:n < 0\/n > 268435455
 ·rw [if_pos hc] at h ⊢
  exact Zbm h (by kernel_rfl) rfl rfl rfl (fun _=>rfl) _ _ _
 ·rw [if_neg hc] at h ⊢
  exact ZJy h (by rw [List.length_map]) (by kernel_rfl) rfl rfl _ _ _
end
section
def gvT (x:Nat×Nat×Int):AVal:=.tup [.int .i64 (x.1:Nat),.int .i64 (x.2.1:Nat),.int .i64 x.2.2]
theorem ZxI:∀ n:Fin 256,IntKind.u8.wrap (((BitVec.ofInt IntKind.u8.bits ((n.val:Nat):Int) &&& BitVec.ofInt IntKind.u8.bits 127).toNat:Nat):Int)=((n.val % 128:Nat):Int):=by decide +kernel
theorem ZzQ (c:UInt8):IntKind.u8.wrap (((BitVec.ofInt IntKind.u8.bits (c.toNat:Int) &&& BitVec.ofInt IntKind.u8.bits 127).toNat:Nat):Int)=((c.toNat % 128:Nat):Int):=ZxI ⟨c.toNat,c.toNat_lt⟩
theorem Zmx (i:Nat):128 ^ i=2 ^ (7*i):=by rw [Nat.pow_mul]
theorem ZHU (n a i:Nat) (hi:i<=3) (hn:n < 128 ^ i) (ha:a < 128):IntKind.i64.wrap (((BitVec.ofInt IntKind.i64.bits (n:Int) ||| BitVec.ofInt IntKind.i64.bits ((a*128 ^ i:Nat):Int)).toNat:Nat):Int)=((n+a*128 ^ i:Nat):Int):=by
 have hb:IntKind.i64.bits=64:=rfl
 have hp:128 ^ i<=128 ^ 3:=Nat.pow_le_pow_right (by decide) hi
 have hm:a*128 ^ i<=127*128 ^ 3:=Nat.mul_le_mul (by omega) hp
 rw [hb,BitVec.toNat_or]
 simp only [BitVec.ofInt_natCast,BitVec.toNat_ofNat]
 have e1:n % 2 ^ 64=n:=Nat.mod_eq_of_lt (by omega)
 have e2:a*128 ^ i % 2 ^ 64=a*128 ^ i:=Nat.mod_eq_of_lt (by omega)
 rw [e1,e2]
 have e3:a*128 ^ i=a <<< (7*i):=by rw [Nat.shiftLeft_eq,Zmx]
 have e4:n ||| a*128 ^ i=n+a*128 ^ i:=by
  rw [e3,Nat.or_comm,<-Nat.shiftLeft_add_eq_or_of_lt (by rw [<-Zmx];exact hn)]
  omega
 rw [e4,ZbV (by omega) (by omega)]
theorem ZJt (a i:Nat) (hi:i<=3) (ha:a < 128):IntKind.i64.wrap ((a:Int)*2 ^ min (Int.toNat ((7*i:Nat):Int)) IntKind.i64.bits)=((a*128 ^ i:Nat):Int):=by
 have hp:128 ^ i<=128 ^ 3:=Nat.pow_le_pow_right (by decide) hi
 have hm:a*128 ^ i<=127*128 ^ 3:=Nat.mul_le_mul (by omega) hp
 have e:min (Int.toNat ((7*i:Nat):Int)) IntKind.i64.bits=7*i:=by
  have hb:IntKind.i64.bits=64:=rfl
  rw [hb];omega
 have e2:((a:Int)*2 ^ (7*i))=((a*128 ^ i:Nat):Int):=by rw [Zmx];simp
 rw [e,e2,ZbV (by omega) (by omega)]
theorem Ztr (n i a:Nat) (hn:n < 128 ^ i) (ha:a < 128):n+a*128 ^ i < 128 ^ (i+1):=by
 have : a*128 ^ i<=127*128 ^ i:=Nat.mul_le_mul_right _ (by omega)
 rw [Nat.pow_succ];omega
theorem ZuK (b:Zb) (hl:b.length<=9223372036854775807):∀ (r:Zb) (i n:Nat),i<=4->i<=b.length->n < 128 ^ i->b.drop i=r ->
  ZgY 0 [(9,.int .i64 i),(8,.int .i64 b.length),(7,.lst false (b.map Zc)),(2,.int .i64 n),(0,.lst false (b.map Zc))] []=some (gvT (gvA i n r),[])
 | [],i,n,hi,hib,hn,h=>by
  have h1:=Zc4 h
  unfold ZgY
  rw [Z9,gvA]
  by_cases h4:i < 4
  ·have h5:(b.length:Int) < 4:=by omega
   simp -implicitDefEqProofs only [EQA,Zq,Nat.reduceLT,Nat.reduceEqDiff,reduceCtorEq,↓reduceIte,Zd,Zg1,ZoQ,Ziy,Zgi,ZeY,oI,h1,h4,h5,gvT]
   rfl
  ·have h5:¬(b.length:Int) < 4:=by omega
   simp -implicitDefEqProofs only [EQA,Zq,Nat.reduceLT,Nat.reduceEqDiff,reduceCtorEq,↓reduceIte,Zd,Zg1,ZoQ,Ziy,Zgi,ZeY,oI,h1,h4,h5,gvT]
   rfl
 | c::r,i,n,hi,hib,hn,h=>by
  have hlt:=(Zad h).2.2
  have h1:(i:Int) < b.length:=by omega
  have e1:=iad (Zad h).1 Zc (k:=1) rfl
  have e3:=Zdc h1 hl
  rw [gvA]
  by_cases h4:i=4
  ·have h5:¬(b.length:Int) < 4:=by omega
   have h6:((i:Int) == 4)=true:=by simp;omega
   rw [if_pos h4]
   unfold ZgY
   rw [Z9]
   simp -implicitDefEqProofs only [EQA,Zq,Nat.reduceLT,Nat.reduceEqDiff,reduceCtorEq,↓reduceIte,Zd,Zg1,ZoQ,Ziy,Zgi,ZeY,oI,h1,e1,h5,h6,gvT,Zc,AVal.cells]
   rfl
  ·have h6:((i:Int) == 4)=false:=by simp;omega
   have hm:=ZzQ c
   have ha:c.toNat % 128 < 128:=Nat.mod_lt _ (by decide)
   have hi64:IntKind.i64.wrap ((c.toNat % 128:Nat):Int)=((c.toNat % 128:Nat):Int):=ZbV (by omega) (by omega)
   have h7:IntKind.i64.wrap (7*(i:Int))=((7*i:Nat):Int):=by rw [ZbV (by omega) (by omega)];omega
   have hneg:¬((7*i:Nat):Int) < 0:=by omega
   have hs:=ZJt (c.toNat % 128) i (by omega) ha
   have ho:=ZHU n (c.toNat % 128) i (by omega) hn ha
   by_cases hc:c.toNat < 128
   ·have hc':(c.toNat:Int) < 128:=by omega
    unfold ZgY
    rw [Z9]
    by_cases hc0:c=0
    ·have hc1:((c.toNat:Int) == 0)=true:=by rw [hc0];rfl
     by_cases hip:0 < i
     ·have hip':(i:Int) > 0:=by omega
      have hcc:c=0/\0 < i:=⟨hc0,hip⟩
      simp -implicitDefEqProofs only [EQA,Zq,Z7,Zdw,Znx,Nat.reduceLT,Nat.reduceEqDiff,Zax,ZH,Zau,unG,reduceCtorEq,decide_eq_true_eq,ite_self,↓reduceIte,Zd,gcT,gcA,ZB,ZA,Zv,ZN,Zg1,Zgi,ZeY,oI,h1,e1,h4,h6,h7,hneg,hip',hcc,gvT,Zc,AVal.cells]
      rfl
     ·have hip':¬(i:Int) > 0:=by omega
      have hcc:¬(c=0/\0 < i):=fun h=>hip h.2
      simp -implicitDefEqProofs only [EQA,Zq,Nat.reduceLT,Nat.reduceEqDiff,Zax,ZH,unG,reduceCtorEq,↓reduceIte,Zd,Zg1,Zgi,ZeY,oI,h1,e1,h4,h6,hm,hi64,h7,hneg,hs,ho,hc,hc',hc1,hip',hcc,e3,gvT,Zc,AVal.cells]
    ·have hc1:((c.toNat:Int) == 0)=false:=by
      have : c.toNat≠0:=fun h=>hc0 (UInt8.toNat_inj.1 (by simpa using h))
      simp;omega
     have hcc:¬(c=0/\0 < i):=fun h=>hc0 h.1
     simp -implicitDefEqProofs only [EQA,Zq,Nat.reduceLT,Nat.reduceEqDiff,Zax,ZH,Zau,reduceCtorEq,↓reduceIte,Zd,Zg1,Zgi,ZeY,oI,h1,e1,h4,h6,hm,hi64,h7,hneg,hs,ho,hc,hc',hc1,hcc,e3,gvT,Zc,AVal.cells]
   ·have hc':¬(c.toNat:Int) < 128:=by omega
    have ih:=ZuK b hl r (i+1) (n+c.toNat % 128*128 ^ i) (by omega) (by omega) (Ztr n i _ hn ha) (Zad h).2.1
    unfold ZgY at ih ⊢
    rw [Z9]
    simp -implicitDefEqProofs only [EQA,Z7,Nat.reduceLT,Nat.reduceEqDiff,Zax,reduceCtorEq,↓reduceIte,gcT,gcA,ZB,ZA,Zv,ZN,Zgi,ZeY,oI,h1,e1,h4,h6,hm,hi64,h7,hneg,hs,ho,hc,hc',e3,Zc,AVal.cells]
    exact ih
theorem ZJE (b:Zb) (hl:b.length<=9223372036854775807):E 116 [ZM b] []=some (gvT (Z8 b),[]):=by
 have key:=ZuK b hl b 0 0 (by omega) (by omega) (by simp) rfl
 have z0:((0:Nat):Int)=0:=rfl
 rw [z0] at key
 unfold ZgY at key
 unfold Z8
 rw [Zh (by rfl) ZBw]
 simp -implicitDefEqProofs only [EQA,Z7,Nat.reduceLT,Nat.reduceEqDiff,reduceCtorEq,↓reduceIte,gcT,gcA,ZB,ZA,Zv,ZN,ZIn,Zn5,oI,ZM]
 exact key
theorem Znk (σ:Za) (sq own:Nat) (f:Bool) (b:Zb) (hl:b.length<=9223372036854775807):Zj E BY σ sq 116 own true [.lst f (b.map Zc)]=some (gvT (Z8 b),σ,{}) :=
 Zbm (ZJE b hl) (by kernel_rfl) rfl rfl rfl (fun _=>rfl) _ _ _
end
section
theorem Zsj (l:List UInt8) (p:Nat):ZeN l p=Lib.decodeL (l.drop p):=by
 have:=Lib.decodeL_drop ⟨l.toArray⟩ p
 simpa [ZeN] using this.symm
def zfG:Nat->List UInt8->Bool
 | 0,_=>true
 | n+1,l=>if l=[] then true else if (Lib.decodeL l).1=0 then false else zfG n (l.drop (Lib.decodeL l).2)
def Zgk (l:List UInt8):Bool:=zfG l.length l && Lib.validD l
theorem ZAA (l:List UInt8):E 139 [.str l] []=some (.bool (Lib.validD l),[]):=Zc8.2 ⟨1,rfl⟩
theorem Zvn (σ:Za) (sq own:Nat) (view:Bool) (l:List UInt8):Zj E BY σ sq 139 own view [.str l]=some (.bool (Lib.validD l),σ,{}) :=
 Zcl (ZAA l) (by kernel_rfl) (by simp -implicitDefEqProofs only [ZcR,Zbq,eq_self]) (by simp -implicitDefEqProofs only [ZC,Zbq,eq_self]) rfl (fun _=>rfl) _ _ _ _
theorem Zq5 (s:List UInt8):∀ (n p:Nat),s.length - p<=n->p<=s.length->Zlw 0 [(6,.ref 0 0),(0,.str s)] [.siter s p]=some (.bool (zfG n (s.drop p) && Lib.validD s),[])
 | n,p,hn,hp=>by
  by_cases h:p < s.length
  ·obtain ⟨n,rfl⟩:∃ m,n=m+1:=⟨n - 1,by omega⟩
   have hw:=Lib.decodeL_width (s.drop p)
   have hne:s.drop p≠[]:=by rw [ne_eq,List.drop_eq_nil_iff];omega
   have hle:=Lib.decodeL_le (s.drop p) hne
   rw [List.length_drop] at hle
   have ih:=Zq5 s n (p+(Lib.decodeL (s.drop p)).2) (by omega) (by omega)
   rw [<-List.drop_drop] at ih
   unfold Zlw at ih ⊢
   rw [Z9]
   by_cases hz:(Lib.decodeL (s.drop p)).1=0
   ·have hz':((Lib.decodeL (s.drop p)).1:Int)=0:=by omega
    simp -implicitDefEqProofs only [EQA,Nat.reduceLT,Nat.reduceEqDiff,reduceCtorEq,↓reduceIte,Zt1,ZnG,Ziu,oI,h,Zsj,hz']
    rw [zfG,if_neg hne,if_pos hz];rfl
   ·have hz':(((Lib.decodeL (s.drop p)).1:Int) == 0)=false:=by rw [beq_eq_false_iff_ne];omega
    simp -implicitDefEqProofs only [EQA,Z7,Zck,Nat.reduceLT,Nat.reduceEqDiff,reduceCtorEq,↓reduceIte,gcT,gcA,ZB,ZA,Zl,Zv,ZZ,Zm,ZR,ZF,ZN,ZnG,Ziu,oI,h,Zsj,hz']
    rw [ih,zfG,if_neg hne,if_neg hz]
  ·have he:s.drop p=[]:=by rw [List.drop_eq_nil_iff];omega
   unfold Zlw
   rw [Z9]
   simp -implicitDefEqProofs only [EQA,Nat.reduceLT,Nat.reduceEqDiff,reduceCtorEq,↓reduceIte,Zt1,ZxF,ZnA,ZnG,Ziu,oI,h,Zvn]
   rw [he]
   cases n <;> simp [zfG]
theorem ZGU (s:List UInt8):E 118 [.str s] []=some (.bool (Zgk s),[]):=by
 rw [Zh (by rfl) ZCa]
 have:=Zq5 s s.length 0 (by omega) (by omega)
 unfold Zlw at this
 simp -implicitDefEqProofs only [EQA,Z7,Zck,Nat.reduceLT,Nat.reduceBEq,reduceCtorEq,↓reduceIte,gcT,gcA,ZB,ZA,Zl,Zv,ZZ,Zm,ZR,ZF,ZN,Zzt,ZnN,oI]
 rw [this,List.drop_zero];rfl
theorem Ztm (σ:Za) (sq own:Nat) (view:Bool) (l:List UInt8):Zj E BY σ sq 118 own view [.str l]=some (.bool (Zgk l),σ,{}) :=
 Zcl (ZGU l) (by kernel_rfl) (by simp -implicitDefEqProofs only [ZcR,Zbq,eq_self]) (by simp -implicitDefEqProofs only [ZC,Zbq,eq_self]) rfl (fun _=>rfl) _ _ _ _
theorem wrap_i64 {n:Int} (h0:-9223372036854775808<=n) (h:n<=9223372036854775807):IntKind.i64.wrap n=n:=ZbV h0 h
end
section
theorem Zp9 (σ:Za) (l:Zb) (k1 k2:IntKind) (lo hi:Int) (h0:0<=lo) (h1:lo<=hi) (h2:hi<=(l.length:Int)):ZbL σ 1 (.lst false (l.map Zc)) (some (.int k1 lo)) (some (.int k2 hi)) none=some (.lst false (((l.take hi.toNat).drop lo.toNat).map Zc),σ,{}):=by
 have hh:0<=hi:=by omega
 have h3:lo<=((hi.toNat:Nat):Int):=by omega
 have hk:=ZfN l
 simp only [ZbL,Zbc,ZdC,List.length_map,hh,h2,and_self,if_true,h0,h3,hk,Bool.or_true,Option.isSome_none,Bool.false_eq_true,if_false,Bool.false_and,List.map_take,List.map_drop]
theorem ZeX (σ:Za) (l:Zb) (k1:IntKind) (lo:Int) (h0:0<=lo) (h1:lo<=(l.length:Int)):ZbL σ 1 (.lst false (l.map Zc)) (some (.int k1 lo)) none none=some (.lst false ((l.drop lo.toNat).map Zc),σ,{}):=by
 have hk:=ZfN l
 simp only [ZbL,Zbc,ZdC,List.length_map,and_self,if_true,h0,h1,hk,Bool.or_true,Option.isSome_none,Bool.false_eq_true,if_false,Bool.false_and,List.map_drop]
 rw [List.take_of_length_le (by simp)]
def byT (x:Zb×Int):AVal:=.tup [.lst false (x.1.map Zc),.int .i64 x.2]
theorem ZJN (b:Zb) (h:b.length<=9223372036854775807):IntKind.u64.wrap (b.length:Int)=(b.length:Int):=by rw [IntKind.wrap_u64];omega
theorem Zwx (b:Zb) (hl:b.length<=9223372036854775807):∃ f,E 127 [ZM b] []=some (.tup [.lst f ((Zby b).1.map Zc),.int .i64 (Zby b).2],[]):=by
 unfold Zby
 by_cases h:b.length > 65535
 ·refine ⟨true,?_⟩
  have h':(b.length:Int) > 65535:=by omega
  rw [Zh (by rfl) ZqZ,if_pos h]
  simp -implicitDefEqProofs only [EQA,Zq,Nat.reduceLT,Nat.reduceEqDiff,reduceCtorEq,↓reduceIte,Zd,Zrt,ZjN,Zt7,oI,ZM,h']
 ·refine ⟨false,?_⟩
  have h':¬(b.length:Int) > 65535:=by omega
  have hw:=ZJN b hl
  have hP:=fun σ sq own=>ZlA σ sq own b.length 2 (by omega) (by omega)
  have hJ:=fun σ sq own f=>ZgW σ sq own f (beB b.length 2) [b] (by simp) (by simp [Zba];omega)
  simp only [List.map_cons,List.map_nil,ZM,List.flatten_cons,List.flatten_nil,List.append_nil] at hJ
  have z2:((2:Nat):Int)=2:=rfl
  rw [z2] at hP
  rw [Zh (by rfl) ZqZ,if_neg h]
  simp -implicitDefEqProofs only [EQA,Zq,Nat.reduceLT,Nat.reduceEqDiff,reduceCtorEq,↓reduceIte,Zd,Zrt,ZjN,Zt7,oI,ZM,h',hw,hP,hJ,viewAs,ZQ,ZK,Zo,AVal.cells]
theorem Zpd (σ:Za) (sq own:Nat) (f:Bool) (b:Zb) (hl:b.length<=9223372036854775807):Zj E BY σ sq 127 own true [.lst f (b.map Zc)]=some (byT (Zby b),σ,{}):=by
 obtain ⟨g,h⟩:=Zwx b hl
 exact Zbm h (by kernel_rfl) rfl rfl rfl (fun _=>rfl) _ _ _
def Zag (s:Zb):Zb×Int:=if Zgk s then Zby s else ([],13)
theorem ZFN (s:Zb) (hl:s.length<=9223372036854775807):∃ f,E 108 [.str s] []=some (.tup [.lst f ((Zag s).1.map Zc),.int .i64 (Zag s).2],[]):=by
 have hI:=fun σ sq own=>Ztm σ sq own true s
 have hD:=fun σ sq own f=>Zpd σ sq own f s hl
 unfold Zag
 cases h:Zgk s <;> rw [h] at hI
 ·refine ⟨true,?_⟩
  rw [Zh (by rfl) Zuz]
  simp -implicitDefEqProofs only [EQA,Zq,Nat.reduceLT,Nat.reduceEqDiff,unA,reduceCtorEq,↓reduceIte,Zd,Zq0,Zj6,ZqP,oI,hI]
 ·refine ⟨false,?_⟩
  rw [Zh (by rfl) Zuz]
  simp -implicitDefEqProofs only [EQA,Zq,Nat.reduceLT,Nat.reduceEqDiff,unA,reduceCtorEq,↓reduceIte,Zd,Zq0,Zj6,ZqP,oI,hI,hD,byT]
theorem Ziq (σ:Za) (sq own:Nat) (s:Zb) (hl:s.length<=9223372036854775807):Zj E BY σ sq 108 own true [.str s]=some (byT (Zag s),σ,{}):=by
 obtain ⟨g,h⟩:=ZFN s hl
 exact Zbm h (by kernel_rfl) rfl rfl rfl (fun _=>rfl) _ _ _
end
section
def gdT (x:Zb×Nat×Int):AVal:=.tup [.lst false (x.1.map Zc),.int .i64 (x.2.1:Nat),.int .i64 x.2.2]
def gtT (x:Zb×Nat×Int):AVal:=.tup [.str x.1,.int .i64 (x.2.1:Nat),.int .i64 x.2.2]
theorem ZLD (b:Zb) (h:b.length<=2):Zcx b < 65536:=by
 unfold Zcx
 match b,h with
 | [],_=>simp [ZeM]
 | [a],_=>rw [ZcE,ZeM];have:=a.toNat_lt;omega
 | [a,c],_=>rw [ZcE,ZcE,ZeM];have:=a.toNat_lt;have:=c.toNat_lt;omega
def Zaa (b:Zb):Zb×Nat×Int:=if (ZaC b).2.2≠0 then ([],0,(ZaC b).2.2) else if Zgk (ZaC b).1 then ZaC b else ([],0,13)
theorem Zx6 (b:Zb) (hl:b.length<=140737488355328):∃ f,E 115 [ZM b] []=some (.tup [.lst f ((ZaC b).1.map Zc),.int .i64 ((ZaC b).2.1:Nat),.int .i64 (ZaC b).2.2],[]):=by
 have t2:(b.take 2).length<=9223372036854775807:=by simp;omega
 have hG:=fun σ sq own f=>Zjm σ sq own (b.take 2) t2 f
 have hg:=ZLD (b.take 2) (by simp;omega)
 unfold ZaC
 generalize hGG:Zcx (b.take 2)=g at *
 have hi:IntKind.i64.wrap (g:Int)=(g:Int):=ZbV (by omega) (by omega)
 by_cases h1:b.length < 2
 ·have h1':(b.length:Int) < 2:=by omega
  refine ⟨true,?_⟩
  rw [Zh (by rfl) ZnR,if_pos (Or.inl h1)]
  simp -implicitDefEqProofs only [EQA,Zq,Nat.reduceLT,Nat.reduceEqDiff,ZH,Zau,reduceCtorEq,↓reduceIte,Zd,Znb,Zin,Zm3,oI,ZM,h1']
  rfl
 ·have h1':¬(b.length:Int) < 2:=by omega
  have s2:=fun σ kk=>Zjt σ 1 b Zc kk 2 (by omega) (by omega)
  have e2:(2:Int).toNat=2:=rfl
  rw [e2] at s2
  have w1:IntKind.i64.wrap ((b.length:Int) - 2)=((b.length - 2:Nat):Int):=by rw [ZbV (by omega) (by omega)];omega
  by_cases h3:b.length - 2 < g
  ·have h3':((b.length - 2:Nat):Int) < (g:Int):=by omega
   refine ⟨true,?_⟩
   rw [Zh (by rfl) ZnR,if_pos (Or.inr h3)]
   simp -implicitDefEqProofs only [EQA,Zq,Nat.reduceLT,Nat.reduceEqDiff,ZH,unG,reduceCtorEq,↓reduceIte,Zd,Znb,Zin,Zm3,oI,ZM,h1',s2,hG,hi,w1,h3']
   rfl
  ·have h3':¬((b.length - 2:Nat):Int) < (g:Int):=by omega
   have w2:IntKind.i64.wrap (2+(g:Int))=((2+g:Nat):Int):=by rw [ZbV (by omega) (by omega)];omega
   have s3:=fun σ k1 k2=>Zp9 σ b k1 k2 2 ((2+g:Nat):Int) (by omega) (by omega) (by omega)
   have e3:(((2+g:Nat):Int)).toNat=2+g:=rfl
   have e4:(b.take (2+g)).drop 2=(b.drop 2).take g:=by rw [List.drop_take];congr 1;omega
   rw [e2,e3,e4] at s3
   have hJ:=fun σ sq own f=>ZgW σ sq own f ((b.drop 2).take g) [] (by simp) (by simp;omega)
   simp only [List.map_cons,List.map_nil,ZM,List.flatten_cons,List.flatten_nil,List.append_nil] at hJ
   have hc:¬(b.length < 2\/b.length - 2 < g):=by omega
   refine ⟨false,?_⟩
   rw [Zh (by rfl) ZnR,if_neg hc]
   simp -implicitDefEqProofs only [EQA,Zq,Nat.reduceLT,Nat.reduceEqDiff,ZH,unG,reduceCtorEq,↓reduceIte,Zd,Znb,Zin,Zm3,oI,ZM,h1',s2,hG,hi,w1,h3',w2,s3,hJ,viewAs,ZQ,ZK,Zo,AVal.cells]
theorem Zi0 (σ:Za) (sq own:Nat) (f:Bool) (b:Zb) (hl:b.length<=140737488355328):Zj E BY σ sq 115 own true [.lst f (b.map Zc)]=some (gdT (ZaC b),σ,{}):=by
 obtain ⟨g,h⟩:=Zx6 b hl
 exact Zbm h (by kernel_rfl) rfl rfl rfl (fun _=>rfl) _ _ _
theorem ZHb (b:Zb) (hl:b.length<=140737488355328):E 99 [ZM b] []=some (gtT (Zaa b),[]):=by
 have hD:=fun σ sq own f=>Zi0 σ sq own f b hl
 unfold gdT at hD
 have hI:=fun σ sq own=>Ztm σ sq own true (ZaC b).1
 unfold Zaa
 by_cases h0:(ZaC b).2.2=0
 ·have hn0:¬((ZaC b).2.2≠0):=by omega
  have e0:((0:Int) != 0)=false:=rfl
  have hp:ZaC b=((ZaC b).1,(ZaC b).2.1,0):=by rw [<-h0]
  rw [if_neg hn0]
  rw [hp]
  simp only
  rw [h0] at hD
  generalize (ZaC b).1=d at *
  generalize (ZaC b).2.1=u at *
  rw [Zh (by rfl) Zp7]
  cases ht:Zgk d <;> rw [ht] at hI
  ·simp -implicitDefEqProofs only [EQA,Zq,Nat.reduceLT,Nat.reduceEqDiff,unA,reduceCtorEq,ZY,↓reduceIte,Zd,ZoE,ZiQ,Zot,oI,ZM,hD,hI,e0,gtT]
   rfl
  ·simp -implicitDefEqProofs only [EQA,Zq,Nat.reduceLT,Nat.reduceEqDiff,unA,reduceCtorEq,ZY,↓reduceIte,Zd,ZoE,ZiQ,Zot,oI,ZM,hD,hI,e0,gtT]
 ·have hn0:((ZaC b).2.2≠0):=h0
  have e0:((ZaC b).2.2 != 0)=true:=by simpa using h0
  rw [if_pos hn0]
  generalize (ZaC b).2.2=e at *
  rw [Zh (by rfl) Zp7]
  simp -implicitDefEqProofs only [EQA,Zq,Nat.reduceLT,Nat.reduceEqDiff,reduceCtorEq,↓reduceIte,Zd,ZoE,ZiQ,Zot,oI,ZM,hD,e0,gtT]
  rfl
theorem Zg4 (σ:Za) (sq own:Nat) (f:Bool) (b:Zb) (hl:b.length<=140737488355328):Zj E BY σ sq 99 own true [.lst f (b.map Zc)]=some (gtT (Zaa b),σ,{}) :=
 Zbm (ZHb b hl) (by kernel_rfl) rfl rfl rfl (fun _=>rfl) _ _ _
end
section
theorem ZcJ {O:ZL} {bf:Nat->Bool} {σ:Za} {t f:Nat} {rest:List AVal} {cs cs':List AVal} {r r':AVal} (hb:bf f=false) (hp:rest.all Z5=true) (hc:Zd cs=true) (hc':Zd cs'=true) (hn:ZG r'=true) (hv:viewR [.var cs'] r=some (r',[]))
  (h:O f (.ref 0 0::rest.map ZD) [.var cs]=some (r,[.var cs'])) (hs:σ[t]?=some (.var cs)) (sq:Nat):Zj O bf σ sq f 0 true (.ref t 0::rest)=some (r',σ.set t (.var cs'),{ any:=true,upd:=[(t,cs')] }):=by
 have htl:t < σ.length:=by
  rcases Nat.lt_or_ge t σ.length with h | h
  ·exact h
  ·rw [List.getElem?_eq_none h] at hs;cases hs
 have hup:Za2 (σ.set t (.var cs')) [t]=[(t,cs')]:=by
  simp only [Za2,List.getElem?_set,if_pos htl,if_true]
 have hd:σ.getD t .free=.var cs:=by simp [List.getD_eq_getElem?_getD,hs]
 have hf0:Zo σ []=σ:=rfl
 have hsh:showAs σ (.ref t 0::rest)=some (.ref t 0::rest.map ZD,[]):=by
  rw [showAs,show showA σ (.ref t 0)=some (.ref t 0,[]) from rfl,ZdH hp]
  rfl
 have href:Zp (.ref t 0::rest.map ZD)=[t]:=by
  rw [Zp,Zc5 hp];rfl
 unfold Zj ZbJ
 rw [hb]
 simp only [Bool.false_eq_true,if_false,hsh,hf0,href,ZeS hs hc]
 unfold Zbt
 have hall:([t].all fun t=>okB (σ.getD t .free))=true:=by simp [List.all_cons,List.all_nil,hs,okB]
 rw [if_pos hall]
 have hρ:Zl σ 0 [t] t 0=some (0,0):=by simp [Zl,ZZ,hs,Zm,ZR]
 have hheap:Zv σ 0 [t] (Zl σ 0 [t]) [t] 0=[.var cs]:=by
  simp only [Zv,hd,ZF,(ZaM _ cs hc).1]
 have hargs:Ze (Zl σ 0 [t]) (.ref t 0::rest.map ZD)=.ref 0 0::rest.map ZD:=by
  rw [Ze,Zdb hp]
  simp only [Zk,hρ]
 rw [hargs,hheap,h]
 have hask:Z6 true [t].length (some (r,[.var cs']))=some (r',[.var cs']):=by
  unfold Z6
  rw [if_pos rfl]
  have hnp:∀ x,r≠.pan x:=by rintro x rfl;simp [viewR,ZQ,ZK] at hv
  rw [show Zbr [t].length (some (r,[.var cs']))=(match viewR [.var cs'] r with
   | some (r',ts)=>match gcA [t].length [r'] (Zo [.var cs'] ts) with
    | ([r''],σ')=>some (r'',σ')
    | _=>none
   | none=>none) from by cases r <;> first | rfl | exact absurd rfl (hnp _)]
  rw [hv]
  simp only [List.length_cons,List.length_nil,Nat.zero_add,show Zo [ZI.var cs'] []=[.var cs'] from rfl,ZkM hn hc']
 rw [hask]
 have hk:ZaV σ [t] [.var cs'] 0=true:=by
  simp [ZaV,okB,hs,Zb1,Zm]
 simp only [Zay,List.isEmpty_cons,Bool.false_eq_true,if_false,List.length_cons,List.length_nil,Nat.zero_add,Nat.add_zero,Nat.le_refl,decide_true,hk,ZaU,Bool.and_self,if_true,ZaY,ZaF,List.getD_cons_zero,ZF,(ZaW _ r' hn).1,(ZaM _ cs' hc').1,hup]
theorem Zcq {O:ZL} {bf:Nat->Bool} {σ:Za} {t f:Nat} {rest:List AVal} {cs cs':List AVal} {x:AVal} {view:Bool} (hb:bf f=false) (hp:rest.all Z5=true) (hc:Zd cs=true) (hc':Zd cs'=true) (hn:ZG x=true)
  (h:O f (.ref 0 0::rest.map ZD) [.var cs]=some (.pan x,[.var cs'])) (hs:σ[t]?=some (.var cs)) (sq:Nat):Zj O bf σ sq f 0 view (.ref t 0::rest)=some (.pan x,σ.set t (.var cs'),{ any:=true,upd:=[(t,cs')] }):=by
 have htl:t < σ.length:=by
  rcases Nat.lt_or_ge t σ.length with h | h
  ·exact h
  ·rw [List.getElem?_eq_none h] at hs;cases hs
 have hup:Za2 (σ.set t (.var cs')) [t]=[(t,cs')]:=by
  simp only [Za2,List.getElem?_set,if_pos htl,if_true]
 have hd:σ.getD t .free=.var cs:=by simp [List.getD_eq_getElem?_getD,hs]
 have hf0:Zo σ []=σ:=rfl
 have hsh:showAs σ (.ref t 0::rest)=some (.ref t 0::rest.map ZD,[]):=by
  rw [showAs,show showA σ (.ref t 0)=some (.ref t 0,[]) from rfl,ZdH hp]
  rfl
 have href:Zp (.ref t 0::rest.map ZD)=[t]:=by
  rw [Zp,Zc5 hp];rfl
 unfold Zj ZbJ
 rw [hb]
 simp only [Bool.false_eq_true,if_false,hsh,hf0,href,ZeS hs hc]
 unfold Zbt
 have hall:([t].all fun t=>okB (σ.getD t .free))=true:=by simp [List.all_cons,List.all_nil,hs,okB]
 rw [if_pos hall]
 have hρ:Zl σ 0 [t] t 0=some (0,0):=by simp [Zl,ZZ,hs,Zm,ZR]
 have hheap:Zv σ 0 [t] (Zl σ 0 [t]) [t] 0=[.var cs]:=by
  simp only [Zv,hd,ZF,(ZaM _ cs hc).1]
 have hargs:Ze (Zl σ 0 [t]) (.ref t 0::rest.map ZD)=.ref 0 0::rest.map ZD:=by
  rw [Ze,Zdb hp]
  simp only [Zk,hρ]
 rw [hargs,hheap,h]
 have hask:Z6 view [t].length (some (.pan x,[.var cs']))=some (.pan x,[.var cs']):=by
  unfold Z6
  split <;> rfl
 rw [hask]
 have hk:ZaV σ [t] [.var cs'] 0=true:=by
  simp [ZaV,okB,hs,Zb1,Zm]
 have hnp:ZG (.pan x)=true:=by simpa only [ZG] using hn
 simp only [Zay,List.isEmpty_cons,Bool.false_eq_true,if_false,List.length_cons,List.length_nil,Nat.zero_add,Nat.add_zero,Nat.le_refl,decide_true,hk,ZaU,Bool.and_self,if_true,ZaY,ZaF,List.getD_cons_zero,ZF,(ZaW _ _ hnp).1,(ZaM _ cs' hc').1,hup]
end
end Go.Proofs.YtmlkhhidifjjfaaGreatDoor
