/- packed -/
import Derived.Test.YthfdocdjpdkmoaaGreatDoorMq1
import Derived.Scope
import Derived.Laws.Cover3
import Derived.Lib.Index
import Derived.Shelf.Unicode.ValidAny
import Derived.Shelf.Strings.Count
import Derived.Test.YthfdocdjpdkmoaaGreatDoorProg
import Derived.Deep.Slices
import Derived.ChangeArms
import Derived.WideShapes
import GoSem.ClaimChange
import Derived.Lib.TrimUEq
import Derived.Lib.MapLaws
import Derived.Lib.ValidLaws
set_option linter.defProp false
set_option linter.unusedSimpArgs false
set_option linter.unusedVariables false
namespace Go.Proofs.YthfdocdjpdkmoaaGreatDoor
set_option maxHeartbeats 16000000
set_option maxRecDepth 10000
section
open Go.RowKit
section
variable {P:Program} {O:ZO} {bf:Nat->Bool} {an:Ann} {base:Nat->Prop} {w0:World} {I0:Imm} {dr:Door}
theorem ZL4 {o:AOp} {tm tm1:Tms} {σ σ1:Za} {sq:Nat} {v:AVal} {c:Cls} (ht:o.ins.touches=false) (h:ZN O bf o sq tm σ=some (v,tm1,σ1,c)):c={}:=by
 unfold ZN at h
 split at h
 ·cases h
 ·simp only [Option.some.injEq,Prod.mk.injEq] at h;exact h.2.2.2.symm
 ·split at h
  ·split at h
   ·rename_i he
    simp only [Option.some.injEq,Prod.mk.injEq] at h
    rw [<-h.2.2.2]
    exact (ZET ht he).1
   ·cases h
  ·cases h
theorem Zin {i:Ins} (h:i.touches=false):nsite i=0:=by cases i <;> simp [Ins.touches] at h <;> rfl
theorem ZhM {asl:List AOp} {L:Nat} {cs:List Cls}:∀ {l:List Nat} {tm tm':Tms} {σ σ':Za},Zcu O bf asl L cs l tm σ tm' σ'->∀ j ∈ l,(asl.getD j default).ins.touches=false->cs.getD j {}={}
 | [],_,_,_,_,_,j,hj,_=>by simp at hj
 | i::l,_,_,_,_,h,j,hj,ht=>by
  cases h with
  | cons h1 _ h2 =>
   rcases List.mem_cons.1 hj with rfl | hj
   ·exact ZL4 ht h1
   ·exact ZhM h2 j hj ht
theorem Zhw (asl:List AOp):∀ {j i:Nat},j < i->i<=asl.length->sitesOf (asl.take j)+nsite (asl.getD j default).ins<=sitesOf (asl.take i):=by
 intro j i hji hi
 induction i with
 | zero=>omega
 | succ i ih =>
  rw [Zm5 asl (by omega)]
  by_cases e:j=i
  ·subst e
   simp [List.getD_eq_getElem?_getD,show j < asl.length by omega]
  ·have:=ih (by omega) (by omega);omega
theorem ZAG (hO:ZaE P O) (hkp:∀ n ∈ dr.K,n ∈ an.keep) (hb:KLt base w0) {ops:Array Oper} {asl:List AOp} (hcomp:Zdr P an ops ops.toList=some asl) {ps:List (Nat×Nat)} (hps:Zfn asl=some ps) {L:Nat} {cs:List Cls} (hchk:Zdg asl L ps cs=true)
  {tmF:Tms} {σF:Za} {Q:Exit->Act->World->Prop} {I:Imm} {β:Bmap} (hQ:∀ a' w',StR dr an.nt base w0 I0 I β tmF σF a' w'->Q .normal a' w') :
  ∀ (fuel:Nat) (rem:List Nat) (listed:Array Bool) (a:Act) (w:World) (tm:Tms) (σ:Za),Zcu O bf asl L cs rem tm σ tmF σF->rem.Pairwise (· < ·)->(∀ j ∈ rem,j < ops.size)->(∀ j,j < ops.size->(listed.getD j true=true↔j ∉ rem))->listed.size=ops.size ->
   (∀ k,k < ops.size->k ∉ rem->∀ p ∈ (Zb4 (asl.map (·.after)) []).getD k [],p ∉ rem)->rem.length=fuel->StR dr an.nt base w0 I0 I β tm σ a w->wpAny P .any ops Q fuel listed a w:=by
 obtain ⟨hlen,hget⟩:=Ziw hcomp
 obtain ⟨hp1,hp2⟩:=ZtZ hps
 obtain ⟨_,_,hanc⟩:=Zpu (asl.map (·.after)) [] (fun _ _ _=>trivial)
 simp only [Array.length_toList] at hlen
 have hafter:∀ j o,ops[j]?=some o->∃ ao,asl.getD j default=ao/\ZgJ P an ops o=some ao/\ao.after=(o.after.toList.filter (Region.binds .any)).map (·.on)/\ao.dst=o.dst:=by
  intro j o ho
  obtain ⟨ao,h1,h2⟩:=hget j o (by simpa using ho)
  refine ⟨ao,by simp [List.getD_eq_getElem?_getD,h1],h2,?_⟩
  obtain ⟨g,i,_,_,_,rfl⟩:=Zqd h2
  exact ⟨rfl,rfl⟩
 intro fuel
 induction fuel with
 | zero =>
  intro rem listed a w tm σ hr hs hlt hl hsz hcl hfl hst
  have : rem=[]:=List.eq_nil_of_length_eq_zero hfl
  subst this
  cases hr
  refine ⟨?_,hQ a w hst⟩
  apply List.eq_nil_iff_forall_not_mem.2
  intro j hj
  rw [mem_ready] at hj
  obtain ⟨h1,o,ho,_⟩:=hj
  have hjl:j < ops.size:=(Array.getElem?_eq_some_iff.1 ho).1
  have:=(hl j hjl).2 (by simp)
  rw [h1] at this;cases this
 | succ fuel ih =>
  intro rem listed a w tm σ hr hs hlt hl hsz hcl hfl hst
  have isRem:∀ j,j < ops.size->listed.getD j true=false->j ∈ rem:=by
   intro j hj h
   by_cases hm:j ∈ rem
   ·exact hm
   ·have:=(hl j hj).2 hm;rw [h] at this;cases this
  have getD_tf:∀ j,j < ops.size->listed.getD j false=listed.getD j true:=by
   intro j hj
   simp [Array.getD,hsz,hj]
  refine ⟨fun hnil=>?_,fun i hi=>?_⟩
  ·exfalso
   cases rem with
   | nil=>simp at hfl
   | cons r rs =>
    have hrl:r < ops.size:=hlt r (by simp)
    have hro:ops[r]?=some ops[r]:=by simp [hrl]
    obtain ⟨ao,e1,e2,e3,_⟩:=hafter r _ hro
    have : r ∈ Region.ready .any ops listed:=by
     rw [mem_ready]
     refine ⟨?_,ops[r],hro,fun e he hbnd=>?_⟩
     ·cases hq:listed.getD r true with
      | false=>rfl
      | true=>exact absurd (List.mem_cons_self) ((hl r hrl).1 hq)
     ·have hon:e.on ∈ ao.after:=by rw [e3];exact List.mem_map.2 ⟨e,List.mem_filter.2 ⟨by simpa using he,hbnd⟩,rfl⟩
      have hlt':e.on < r:=hp2 r (by omega) e.on (by rw [e1];exact hon)
      rw [getD_tf _ (by omega)]
      refine (hl e.on (by omega)).2 (fun hm=>?_)
      rcases List.mem_cons.1 hm with h | hm
      ·omega
      ·have:=(List.pairwise_cons.1 hs).1 e.on hm;omega
    rw [hnil] at this;simp at this
  ·rw [mem_ready] at hi
   obtain ⟨hi0,o,ho,hpre⟩:=hi
   have hil:i < ops.size:=(Array.getElem?_eq_some_iff.1 ho).1
   have him:=isRem i hil hi0
   obtain ⟨l1,l2,rfl⟩:=List.append_of_mem him
   obtain ⟨ao,e1,e2,e3,e4⟩:=hafter i o ho
   have hdone:∀ p ∈ (asl.getD i default).after,p < ops.size->p ∉ l1++i::l2:=by
    intro p hp hpl
    rw [e1,e3] at hp
    obtain ⟨e,he,rfl⟩:=List.mem_map.1 hp
    obtain ⟨he1,he2⟩:=List.mem_filter.1 he
    have:=hpre e (by simpa using he1) he2
    rw [getD_tf _ hpl] at this
    exact (hl e.on hpl).1 this
   have hai:(asl.map (·.after)).getD i []=(asl.getD i default).after:=by
    simp [List.getD_eq_getElem?_getD,show i < asl.length by omega]
   have hanci:∀ p ∈ (Zb4 (asl.map (·.after)) []).getD i [],p ∉ l1++i::l2:=by
    intro p hp
    have hap:∀ q,q ∈ (asl.map (·.after)).getD i []->q < i:=fun q hq=>hp2 i (by omega) q (by rw [<-hai];exact hq)
    rcases hanc i (by simp;omega) p (by simpa using hp) with h | ⟨q,h1,h2,h3⟩
    ·exact hdone p (by rw [<-hai];exact h) (by have:=hap p h;omega)
    ·have hql:q < ops.size:=by simp at h2;omega
     exact hcl q hql (hdone q (by rw [<-hai];exact h1) hql) p h3
   have hl1:∀ j ∈ l1,j < i:=by
    intro j hj
    have:=List.pairwise_append.1 hs
    exact this.2.2 j hj i (by simp)
   obtain ⟨v1,tm1,σ1,h1,hnp1,h2⟩:=Zrj (l1:=l1) (i:=i) (fun j hj=>by
    have hji:=hl1 j hj
    have hjn:j ∉ (Zb4 (asl.map (·.after)) []).getD i []:=fun hm=>hanci j hm (by simp [hj])
    obtain ⟨p1,p2⟩:=hp1 j i hji (by omega) hjn
    refine ⟨p1,?_,fun hn _=>?_,?_⟩
    ·rcases p2 with p2 | p2 | p2
     ·have:=ZhM hr j (by simp [hj]) p2
      have hem:Zb6 (asl.getD j default) (cs.getD j {})=true:=by rw [this];simp only [Zb6,Zin p2];rfl
      simp only [Zct,hem,Bool.true_or]
     ·have:=ZhM hr i (by simp) p2
      have hem:Zb6 (asl.getD i default) (cs.getD i {})=true:=by rw [this];simp only [Zb6,Zin p2];rfl
      simp only [Zct,hem,Bool.true_or,Bool.or_true]
     ·have:=List.all_eq_true.1 hchk (j,i) p2
      simp only [Bool.or_eq_true,beq_iff_eq] at this
      rcases this with h | h
      ·omega
      ·exact h
    ·have:=Zhw asl hji (by omega)
     omega
    ·have:=Zhw asl hji (by omega)
     omega) hr
   unfold wpOp
   rw [ho]
   rw [e1] at h1
   obtain ⟨I',β',g1,g2,g3,g4,g5⟩:=hst
   refine Zil hO hkp e2 g3 g4 g5 hb h1 (fun _ a' w' hs'=>ih (l1++l2) _ a' w' tm1 σ1 h2 ?_ ?_ ?_ (by simpa using hsz) ?_ ?_ (hs'.trans g1 g2)) (fun x e=>absurd e (hnp1 x))
   ·have:=List.pairwise_append.1 hs
    exact List.pairwise_append.2 ⟨this.1,(List.pairwise_cons.1 this.2.1).2,fun x hx y hy=>this.2.2 x hx y (by simp [hy])⟩
   ·intro j hj
    refine hlt j ?_
    simp only [List.mem_append,List.mem_cons] at hj ⊢
    rcases hj with h | h
    ·exact Or.inl h
    ·exact Or.inr (Or.inr h)
   ·intro j hj
    have hs1:=List.pairwise_append.1 hs
    by_cases hij:i=j
    ·subst hij
     have hn:i ∉ l1++l2:=by
      intro hm
      rcases List.mem_append.1 hm with h | h
      ·have:=hl1 i h;omega
      ·have:=(List.pairwise_cons.1 hs1.2.1).1 i h;omega
     simp [Array.getD,hsz,hil,hn]
    ·rw [getD_set_ne true hij,hl j hj]
     simp only [List.mem_append,List.mem_cons,not_or]
     constructor
     ·rintro ⟨a1,_,a3⟩;exact ⟨a1,a3⟩
     ·rintro ⟨a1,a3⟩;exact ⟨a1,fun e=>hij e.symm,a3⟩
   ·intro k hk hkn p hp hm
    have hsub:p ∈ l1++i::l2:=by
     simp only [List.mem_append,List.mem_cons] at hm ⊢
     rcases hm with h | h
     ·exact Or.inl h
     ·exact Or.inr (Or.inr h)
    by_cases hki:k=i
    ·subst hki;exact hanci p hp hsub
    ·refine hcl k hk (fun hkm=>hkn ?_) p hp hsub
     simp only [List.mem_append,List.mem_cons] at hkm ⊢
     rcases hkm with h | h | h
     ·exact Or.inl h
     ·exact absurd h hki
     ·exact Or.inr h
   ·simp at hfl ⊢;omega
theorem ZGL (hO:ZaE P O) (hkp:∀ n ∈ dr.K,n ∈ an.keep) (hb:KLt base w0) {ops:Array Oper} {asl:List AOp} (hcomp:Zdr P an ops ops.toList=some asl) {ps:List (Nat×Nat)} (hps:Zfn asl=some ps) {L:Nat} {cs:List Cls} {jp:Nat} (hjl:jp < ops.size) (hmark:(jp,jp) ∈ ps) (hmarkT:(asl.getD jp default).ins.touches=true) (hfree:∀ j i,(j,i) ∈ ps->j < i->i<=jp->Zct (asl.getD j default) (asl.getD i default) (cs.getD j {}) (cs.getD i {}) (L+sitesOf (asl.take j))=true) (hquiet:∀ j,(j,jp) ∈ ps->j < jp->Zai (asl.getD j default).ins=true)
  {x:AVal} {σF:Za} {Q:Exit->Act->World->Prop} {I:Imm} {β:Bmap} (hQ:∀ a' u w',dr.ok a'->Post base w0 I0 I β x σF u w'->Q (.panic [{ v:=u,recovered:=false }]) a' w') :
  ∀ (fuel:Nat) (pre post:List Nat) (listed:Array Bool) (a:Act) (w:World) (tm tmJ tmX:Tms) (σ σJ:Za),Zcu O bf asl L cs pre tm σ tmJ σJ->ZN O bf (asl.getD jp default) (L+sitesOf (asl.take jp)) tmJ σJ=some (.pan x,tmX,σF,cs.getD jp {})->(pre++jp::post).Pairwise (· < ·)->(∀ j ∈ pre++jp::post,j < ops.size)->(∀ j,j < ops.size->(listed.getD j true=true↔j ∉ pre++jp::post))->listed.size=ops.size ->
   (∀ k,k < ops.size->k ∉ pre++jp::post->∀ p ∈ (Zb4 (asl.map (·.after)) []).getD k [],p ∉ pre++jp::post)->(pre++jp::post).length=fuel->StR dr an.nt base w0 I0 I β tm σ a w->wpAny P .any ops Q fuel listed a w:=by
 obtain ⟨hlen,hget⟩:=Ziw hcomp
 obtain ⟨hp1,hp2⟩:=ZtZ hps
 have hmk:=ZFk hps hmark
 obtain ⟨_,_,hanc⟩:=Zpu (asl.map (·.after)) [] (fun _ _ _=>trivial)
 simp only [Array.length_toList] at hlen
 have hafter:∀ j o,ops[j]?=some o->∃ ao,asl.getD j default=ao/\ZgJ P an ops o=some ao/\ao.after=(o.after.toList.filter (Region.binds .any)).map (·.on)/\ao.dst=o.dst:=by
  intro j o ho
  obtain ⟨ao,h1,h2⟩:=hget j o (by simpa using ho)
  refine ⟨ao,by simp [List.getD_eq_getElem?_getD,h1],h2,?_⟩
  obtain ⟨g,i,_,_,_,rfl⟩:=Zqd h2
  exact ⟨rfl,rfl⟩
 intro fuel
 induction fuel with
 | zero =>
  intro pre post listed a w tm tmJ tmX σ σJ hr hj hs hlt hl hsz hcl hfl hst
  simp at hfl
 | succ fuel ih =>
  intro pre post listed a w tm tmJ tmX σ σJ hr hj hs hlt hl hsz hcl hfl hst
  have getD_tf:∀ j,j < ops.size->listed.getD j false=listed.getD j true:=by
   intro j hj
   simp [Array.getD,hsz,hj]
  have isRem:∀ j,j < ops.size->listed.getD j true=false->j ∈ pre++jp::post:=by
   intro j hj h
   by_cases hm:j ∈ pre++jp::post
   ·exact hm
   ·have:=(hl j hj).2 hm;rw [h] at this;cases this
  refine ⟨fun hnil=>?_,fun i hi=>?_⟩
  ·exfalso
   obtain ⟨r,rs,hrr⟩:∃ r rs,pre++jp::post=r::rs:=by cases pre <;> simp
   rw [hrr] at hs hlt hl
   have hrl:r < ops.size:=hlt r (by simp)
   have hro:ops[r]?=some ops[r]:=by simp [hrl]
   obtain ⟨ao,e1,e2,e3,_⟩:=hafter r _ hro
   have : r ∈ Region.ready .any ops listed:=by
    rw [mem_ready]
    refine ⟨?_,ops[r],hro,fun e he hbnd=>?_⟩
    ·cases hq:listed.getD r true with
     | false=>rfl
     | true=>exact absurd (List.mem_cons_self) ((hl r hrl).1 hq)
    ·have hon:e.on ∈ ao.after:=by rw [e3];exact List.mem_map.2 ⟨e,List.mem_filter.2 ⟨by simpa using he,hbnd⟩,rfl⟩
     have hlt':e.on < r:=hp2 r (by omega) e.on (by rw [e1];exact hon)
     rw [getD_tf _ (by omega)]
     refine (hl e.on (by omega)).2 (fun hm=>?_)
     rcases List.mem_cons.1 hm with h | hm
     ·omega
     ·have:=(List.pairwise_cons.1 hs).1 e.on hm;omega
   rw [hnil] at this;simp at this
  ·rw [mem_ready] at hi
   obtain ⟨hi0,o,ho,hpre⟩:=hi
   have hil:i < ops.size:=(Array.getElem?_eq_some_iff.1 ho).1
   have him:=isRem i hil hi0
   obtain ⟨ao,e1,e2,e3,e4⟩:=hafter i o ho
   have hdone:∀ p ∈ (asl.getD i default).after,p < ops.size->p ∉ pre++jp::post:=by
    intro p hp hpl
    rw [e1,e3] at hp
    obtain ⟨e,he,rfl⟩:=List.mem_map.1 hp
    obtain ⟨he1,he2⟩:=List.mem_filter.1 he
    have:=hpre e (by simpa using he1) he2
    rw [getD_tf _ hpl] at this
    exact (hl e.on hpl).1 this
   have hai:(asl.map (·.after)).getD i []=(asl.getD i default).after:=by
    simp [List.getD_eq_getElem?_getD,show i < asl.length by omega]
   have hanci:∀ p ∈ (Zb4 (asl.map (·.after)) []).getD i [],p ∉ pre++jp::post:=by
    intro p hp
    have hap:∀ q,q ∈ (asl.map (·.after)).getD i []->q < i:=fun q hq=>hp2 i (by omega) q (by rw [<-hai];exact hq)
    rcases hanc i (by simp;omega) p (by simpa using hp) with h | ⟨q,h1,h2,h3⟩
    ·exact hdone p (by rw [<-hai];exact h) (by have:=hap p h;omega)
    ·have hql:q < ops.size:=by simp at h2;omega
     exact hcl q hql (hdone q (by rw [<-hai];exact h1) hql) p h3
   have hss:=List.pairwise_append.1 hs
   rw [List.mem_append,List.mem_cons] at him
   rcases him with him | hij | him
   ·obtain ⟨l1,l2,rfl⟩:=List.append_of_mem him
    have hl1:∀ j ∈ l1,j < i:=by
     intro j hj
     exact (List.pairwise_append.1 hss.1).2.2 j hj i (by simp)
    have hijp:i < jp:=hss.2.2 i (by simp) jp (by simp)
    obtain ⟨v1,tm1,σ1,h1,hnp1,h2⟩:=Zrj (l1:=l1) (i:=i) (fun j hj'=>by
     have hji:=hl1 j hj'
     have hjn:j ∉ (Zb4 (asl.map (·.after)) []).getD i []:=fun hm=>hanci j hm (by simp [hj'])
     obtain ⟨p1,p2⟩:=hp1 j i hji (by omega) hjn
     refine ⟨p1,?_,fun hn _=>?_,?_⟩
     ·rcases p2 with p2 | p2 | p2
      ·have:=ZhM hr j (by simp [hj']) p2
       have hem:Zb6 (asl.getD j default) (cs.getD j {})=true:=by rw [this];simp only [Zb6,Zin p2];rfl
       simp only [Zct,hem,Bool.true_or]
      ·have:=ZhM hr i (by simp) p2
       have hem:Zb6 (asl.getD i default) (cs.getD i {})=true:=by rw [this];simp only [Zb6,Zin p2];rfl
       simp only [Zct,hem,Bool.true_or,Bool.or_true]
      ·exact hfree j i p2 hji (by omega)
     ·have:=Zhw asl hji (by omega)
      omega
     ·have:=Zhw asl hji (by omega)
      omega) hr
    have eA:(l1++i::l2)++jp::post=l1++i::(l2++jp::post):=by simp
    have eB:(l1++l2)++jp::post=l1++(l2++jp::post):=by simp
    rw [eA] at hs hlt hl hcl hanci hfl
    unfold wpOp
    rw [ho]
    rw [e1] at h1
    obtain ⟨I',β',g1,g2,g3,g4,g5⟩:=hst
    refine Zil hO hkp e2 g3 g4 g5 hb h1 (fun _ a' w' hs'=>ih (l1++l2) post _ a' w' tm1 tmJ tmX σ1 σJ h2 hj ?_ ?_ ?_ (by simpa using hsz) ?_ ?_ (hs'.trans g1 g2)) (fun x e=>absurd e (hnp1 x))
    ·rw [eB]
     have:=List.pairwise_append.1 hs
     exact List.pairwise_append.2 ⟨this.1,(List.pairwise_cons.1 this.2.1).2,fun x hx y hy=>this.2.2 x hx y (by simp only [List.mem_cons];exact Or.inr hy)⟩
    ·intro j hj
     rw [eB] at hj
     refine hlt j ?_
     simp only [List.mem_append,List.mem_cons] at hj ⊢
     rcases hj with h | h | h | h
     ·exact Or.inl h
     ·exact Or.inr (Or.inr (Or.inl h))
     ·exact Or.inr (Or.inr (Or.inr (Or.inl h)))
     ·exact Or.inr (Or.inr (Or.inr (Or.inr h)))
    ·intro j hj
     rw [eB]
     generalize l2++jp::post=L2 at *
     have hs1:=List.pairwise_append.1 hs
     by_cases hij:i=j
     ·subst hij
      have hn:i ∉ l1++L2:=by
       intro hm
       rcases List.mem_append.1 hm with h | h
       ·have:=hl1 i h;omega
       ·have:=(List.pairwise_cons.1 hs1.2.1).1 i h;omega
      simp [Array.getD,hsz,hil,hn]
     ·rw [getD_set_ne true hij,hl j hj]
      simp only [List.mem_append,List.mem_cons,not_or]
      constructor
      ·rintro ⟨a1,_,a3⟩;exact ⟨a1,a3⟩
      ·rintro ⟨a1,a3⟩;exact ⟨a1,fun e=>hij e.symm,a3⟩
    ·intro k hk hkn p hp hm
     rw [eB] at hkn hm
     generalize l2++jp::post=L2 at *
     have hsub:p ∈ l1++i::L2:=by
      simp only [List.mem_append,List.mem_cons] at hm ⊢
      rcases hm with h | h
      ·exact Or.inl h
      ·exact Or.inr (Or.inr h)
     by_cases hki:k=i
     ·subst hki;exact hanci p hp hsub
     ·refine hcl k hk (fun hkm=>hkn ?_) p hp hsub
      simp only [List.mem_append,List.mem_cons] at hkm ⊢
      rcases hkm with h | h | h
      ·exact Or.inl h
      ·exact absurd h hki
      ·exact Or.inr h
    ·rw [eB];simp at hfl ⊢;omega
   ·subst hij
    have hl1:∀ j ∈ pre,j < i:=fun j hj=>hss.2.2 j hj i (by simp)
    obtain ⟨tm1,h1⟩:=Zt6 (l1:=pre) (i:=i) (fun j hj'=>by
     have hji:=hl1 j hj'
     have hjn:j ∉ (Zb4 (asl.map (·.after)) []).getD i []:=fun hm=>hanci j hm (by simp [hj'])
     obtain ⟨p1,p2⟩:=hp1 j i hji (by omega) hjn
     have hts:(asl.getD i default).ins.touches=false->False:=fun h=>by
      have:=hmarkT
      rw [h] at this;cases this
     refine ⟨?_,p1,?_,fun hn _=>?_,?_⟩
     ·rcases p2 with p2 | p2 | p2
      ·exact Or.inl p2
      ·exact (hts p2).elim
      ·exact Or.inr (hquiet j p2 hji)
     ·rcases p2 with p2 | p2 | p2
      ·have:=ZhM hr j hj' p2
       have hem:Zb6 (asl.getD j default) (cs.getD j {})=true:=by rw [this];simp only [Zb6,Zin p2];rfl
       simp only [Zct,hem,Bool.true_or]
      ·exact (hts p2).elim
      ·exact hfree j i p2 hji (Nat.le_refl _)
     ·have:=Zhw asl hji (by omega)
      omega
     ·have:=Zhw asl hji (by omega)
      omega) hr hj
    unfold wpOp
    rw [ho]
    rw [e1] at h1
    obtain ⟨I',β',g1,g2,g3,g4,g5⟩:=hst
    refine Zil hO hkp e2 g3 g4 g5 hb h1 (fun hn=>absurd rfl (hn x)) (fun x' e u w' hp=>?_)
    injection e with e
    subst e
    exact hQ a u w' g4.1 (hp.trans g1 g2)
   ·exfalso
    have hlt2:jp < i:=(List.pairwise_cons.1 hss.2.1).1 i him
    exact hanci jp (hmk i hlt2 (by omega)) (by simp)
theorem Rel.reserve {I:Imm} {β:Bmap} {σ:Za} {w:World} (R:Rel base w0 I0 I β σ w) (n:Nat):Rel base w0 I0 I β (σ++List.replicate n .free) w:=by
 have look:∀ t x,(σ++List.replicate n ZM.free)[t]?=some x->σ[t]?=some x\/(σ.length<=t/\x=.free):=by
  intro t x h
  by_cases ht:t < σ.length
  ·rw [List.getElem?_append_left ht] at h;exact Or.inl h
  ·rw [List.getElem?_append_right (by omega)] at h
   refine Or.inr ⟨by omega,?_⟩
   have:=List.mem_of_getElem? h
   exact List.eq_of_mem_replicate this
 refine ⟨R.below,R.old,R.imm,?_,?_,?_,?_,?_,?_,R.glob⟩
 ·intro t x h
  rcases look t x h with h | ⟨_,rfl⟩
  ·exact R.blk t x h
  ·trivial
 ·intro t x b h hb
  rcases look t x h with h | ⟨_,rfl⟩
  ·exact R.own t x b h hb
  ·cases hb
 ·intro t x t' x' b h h' hb hb'
  rcases look t x h with h | ⟨_,rfl⟩
  ·rcases look t' x' h' with h' | ⟨_,rfl⟩
   ·exact R.apart t x t' x' b h h' hb hb'
   ·cases hb'
  ·cases hb
 ·intro t g h
  exact R.fresh t g (by simp at h;omega)
 ·intro t g h
  rcases look t _ h with h | ⟨h,_⟩
  ·exact R.free t g h
  ·exact R.fresh t g h
 ·intro t x g h hg
  rcases look t _ h with h | ⟨h,_⟩
  ·exact R.gen t x g h hg
  ·exact R.fresh t g h
theorem StR.keep {I:Imm} {β:Bmap} {tm:Tms} {σ:Za} {a:Act} {w:World} (h:StR dr an.nt base w0 I0 I β tm σ a w) (live:List Nat):StR dr an.nt base w0 I0 I β (keepL live tm) σ a w:=by
 obtain ⟨I',β',h1,h2,h3,h4⟩:=h
 exact ⟨I',β',h1,h2,h3.keep live,h4⟩
def Zw0 (dr:Door) (an:Ann) (base:Nat->Prop) (w0:World) (I0 I:Imm) (β:Bmap) (e:ZaW) (tm:Tms) (σ:Za) (Q:Exit->Act->World->Prop):Prop:=match e with
 | .normal=>∀ a w,StR dr an.nt base w0 I0 I β tm σ a w->Q .normal a w
 | .exit id=>∀ a w,StR dr an.nt base w0 I0 I β tm σ a w->Q (.exit id) a w
 | .ret=>∀ a w,StR dr an.nt base w0 I0 I β tm σ a w->Q .ret a w
 | .panic x=>∀ a u w,dr.ok a->Post base w0 I0 I β x σ u w->Q (.panic [{ v:=u,recovered:=false }]) a w
theorem Zls (hO:ZaE P O) (hkp:∀ n ∈ dr.K,n ∈ an.keep) (hm:P.follows .mixedOrders=true) (hb:KLt base w0) {id:Nat} {ops:Array Oper} {draw:Bool} {asl:List AOp} {chk:Option (List (Nat×Nat))} {live:List Nat} (hc:ZaU P an (.region id ops draw)=.region asl chk live) {I:Imm} {β:Bmap} {tm tm':Tms} {σ σ':Za} {a:Act} {w:World} {e:ZaW}
  (hst:StR dr an.nt base w0 I0 I β tm σ a w) (h:ZbU O bf asl chk live tm σ=some (e,tm',σ')) {Q:Exit->Act->World->Prop} (hQ:Zw0 dr an base w0 I0 I β e tm' σ' Q):(Code.region id ops draw).wp P Q a w:=by
 obtain ⟨I1,β1,g1,g2,g3,g4,g5⟩:=hst
 simp only [ZaU] at hc
 split at hc
 ·rename_i l hl
  unfold ZbU at h
  split at hc
  ·rename_i hd
   subst hd
   split at hc
   ·rename_i ps hps
    simp only [Ze.region.injEq] at hc
    obtain ⟨rfl,rfl,rfl⟩:=hc
    cases hrun:ZX O bf l σ.length tm (σ++List.replicate (sitesOf l) .free) with
    | none=>rw [hrun] at h;simp only [ZcY] at h;cases h
    | some q =>
     obtain ⟨tm1,σ1,cs,p⟩:=q
     rw [hrun] at h
     cases p with
     | some x =>
      simp only [ZcY] at h
      split at h
      ·rename_i hpan
       simp only [Option.some.injEq,Prod.mk.injEq] at h
       obtain ⟨rfl,rfl,rfl⟩:=h
       have hlen:=(Ziw hl).1
       simp only [Array.length_toList] at hlen
       obtain ⟨n,tmJ,σJ,tmX,q1,q2,q3,q4⟩:=ZuD (O:=O) (bf:=bf) (ops:=l) (L:=σ.length) l.length 0 (cs:=cs) (cs':=cs) (by omega) (by simpa [sitesOf] using hrun) (fun j=>by simp)
       rw [Nat.zero_add] at q4
       unfold Zdq at hpan
       rw [q2] at hpan
       simp only [Bool.and_eq_true,List.any_eq_true,List.all_eq_true,Bool.or_eq_true,beq_iff_eq,decide_eq_true_eq,Nat.add_sub_cancel] at hpan
       obtain ⟨⟨pm,hpm,hm1,hm2⟩,hall⟩:=hpan
       have hmk:(n,n) ∈ ps:=by
        obtain ⟨a1,a2⟩:=pm
        simp only at hm1 hm2
        subst hm1 hm2
        exact hpm
       have hT:(l.getD n default).ins.touches=true:=ZD3 hps hmk
       refine wp_region_any hm (ZGL hO hkp hb hl hps (jp:=n) (by omega) hmk hT (fun j i hji h1 h2=>?_) (fun j hj h1=>?_) (I:=I) (β:=β) (x:=x) (fun a' u w' hd' hp=>hQ a' u w' hd' hp) ops.size (List.range' 0 n) (List.range' (n+1) (l.length - n - 1)) _ a _ tm tmJ tmX _ σJ q3 q4 ?_ ?_ ?_ (by simp) ?_ (by simp;omega) ⟨I1,β1,g1,g2,g3,g4,(g5.reserve _).same rfl rfl rfl rfl⟩)
       ·rcases hall (j,i) hji with (h | h) | ⟨h,_⟩
        ·simp only at h;omega
        ·simp only at h;omega
        ·exact h
       ·rcases hall (j,n) hj with (h | h) | ⟨_,h⟩
        ·simp only at h;omega
        ·simp only at h;omega
        ·rcases h with h | h
         ·simp only at h;omega
         ·exact h
       ·have e:List.range' 0 n++n::List.range' (n+1) (l.length - n - 1)=List.range' 0 l.length:=by
         rw [<-List.range'_succ]
         have:=List.range'_append_1 (s:=0) (m:=n) (n:=l.length - n - 1+1)
         rw [Nat.zero_add] at this
         rw [this]
         congr 1
         omega
        rw [e];exact List.pairwise_lt_range'
       ·intro j hj;simp at hj;omega
       ·intro j hj
        simp [Array.getD,hj]
        omega
       ·intro k hk hkn
        exact absurd (by simp;omega) hkn
      ·cases h
     | none =>
      simp only [ZcY] at h
      split at h
      ·rename_i hchk
       simp only [Option.some.injEq,Prod.mk.injEq] at h
       obtain ⟨rfl,rfl,rfl⟩:=h
       have hlen:=(Ziw hl).1
       simp only [Array.length_toList] at hlen
       have hr:=Zvd (O:=O) (bf:=bf) (ops:=l) (L:=σ.length) l.length 0 (cs:=cs) (cs':=cs) (by omega) (by simpa [sitesOf] using hrun) (fun j=>by simp)
       refine wp_region_any hm (ZAG hO hkp hb hl hps hchk (I:=I) (β:=β) (fun a' w' hs=>hQ a' w' (hs.keep _)) ops.size (List.range' 0 l.length) _ a _ tm _ hr ?_ ?_ ?_ (by simp) ?_ (by simp [hlen]) ⟨I1,β1,g1,g2,g3,g4,(g5.reserve _).same rfl rfl rfl rfl⟩)
       ·exact List.pairwise_lt_range'
       ·intro j hj;simp at hj;omega
       ·intro j hj
        simp [Array.getD,hj,hlen]
       ·intro k hk hkn
        exact absurd (by simp;omega) hkn
      ·cases h
   ·cases hc
  ·rename_i hd
   simp only [Ze.region.injEq] at hc
   obtain ⟨rfl,rfl,rfl⟩:=hc
   have hdf:draw=false:=by cases draw <;> simp_all
   subst hdf
   cases hrun:ZX O bf l σ.length tm (σ++List.replicate (sitesOf l) .free) with
   | none=>rw [hrun] at h;simp only [ZcY] at h;cases h
   | some q =>
    obtain ⟨tm1,σ1,cs,p⟩:=q
    rw [hrun] at h
    cases p with
    | none =>
     simp only [ZcY,Option.some.injEq,Prod.mk.injEq] at h
     obtain ⟨rfl,rfl,rfl⟩:=h
     exact wp_region_list (Zm4 hO hkp hb hl g3 g4 (g5.reserve _) hrun (fun _ a' w' hs=>hQ a' w' ((hs.trans g1 g2).keep _)) (fun x hx=>by cases hx))
    | some x =>
     simp only [ZcY,Option.some.injEq,Prod.mk.injEq] at h
     obtain ⟨rfl,rfl,rfl⟩:=h
     exact wp_region_list (Zm4 hO hkp hb hl g3 g4 (g5.reserve _) hrun (fun hx=>by cases hx) (fun x' hx a' u w' hd' hp=>by
      injection hx with hx;subst hx
      exact hQ a' u w' hd' (hp.trans g1 g2)))
 ·cases hc
end
end
section
open Go.RowKit
section
variable {P:Program} {O:ZO} {bf:Nat->Bool} {an:Ann} {base:Nat->Prop} {w0:World} {I0:Imm} {dr:Door}
def StF (dr:Door) (m nt:Nat) (base:Nat->Prop) (w0:World) (I0 I:Imm) (β:Bmap) (tm:Tms) (σ:Za) (a:Act) (w:World):Prop :=
 ∃ I' β',I.le I'/\KeptE m β β'/\TR I' β' tm a.tmps/\(dr.ok a/\nt<=a.tmps.size)/\Rel base w0 I0 I' β' σ w
def ZK8 (dr:Door) (m:Nat) (an:Ann) (base:Nat->Prop) (w0:World) (I0 I:Imm) (β:Bmap) (e:ZaW) (tm:Tms) (σ:Za) (Q:Exit->Act->World->Prop):Prop:=match e with
 | .normal=>∀ a w,StF dr m an.nt base w0 I0 I β tm σ a w->Q .normal a w
 | .exit id=>∀ a w,StF dr m an.nt base w0 I0 I β tm σ a w->Q (.exit id) a w
 | .ret=>∀ a w,StF dr m an.nt base w0 I0 I β tm σ a w->Q .ret a w
 | .panic x=>∀ a u w,dr.ok a->ZbS m base w0 I0 I β (.pan x) σ u w->Q (.panic [{ v:=u,recovered:=false }]) a w
theorem StF.cond {m:Nat} {I:Imm} {β:Bmap} {tm:Tms} {σ:Za} {a:Act} {w:World} (h:StF dr m an.nt base w0 I0 I β tm σ a w) {c:Operand} {y:Opd} (hc:Zah c=some y) {b:Bool} (hv:y.ev tm=.bool b):a.eval c=.bool b:=by
 obtain ⟨I',β',_,_,T,_,_⟩:=h
 have:=Zal T hc
 rw [hv] at this
 simpa only [VR] using this
theorem ZiW (hO:ZaE P O) (hkp:∀ n ∈ dr.K,n ∈ an.keep) (hm:P.follows .mixedOrders=true) (hb:KLt base w0) (m n:Nat):∀ {c:Code} {ac:Ze},ZaU P an c=ac->∀ {I:Imm} {β:Bmap} {tm tm':Tms} {σ σ':Za} {a:Act} {w:World} {e:ZaW},StF dr m an.nt base w0 I0 I β tm σ a w->Z5 O bf m n ac tm σ=some (e,tm',σ') ->
  ∀ {Q:Exit->Act->World->Prop},ZK8 dr m an base w0 I0 I β e tm' σ' Q->c.wp P Q a w:=by
 intro c
 induction c with
 | skip =>
  intro ac hc I β tm tm' σ σ' a w e hst h Q hQ
  simp only [ZaU] at hc;subst hc
  simp only [Z5,Option.some.injEq,Prod.mk.injEq] at h
  obtain ⟨rfl,rfl,rfl⟩:=h
  exact wp_skip (hQ a w hst)
 | region id ops draw =>
  intro ac hc I β tm tm' σ σ' a w e hst h Q hQ
  obtain ⟨asl,chk,live,rfl⟩:∃ asl chk live,ac=.region asl chk live:=by
   simp only [ZaU] at hc
   split at hc
   ·split at hc
    ·split at hc
     ·exact ⟨_,_,_,hc.symm⟩
     ·subst hc;simp only [Z5] at h;cases h
    ·exact ⟨_,_,_,hc.symm⟩
   ·subst hc;simp only [Z5] at h;cases h
  simp only [Z5] at h
  obtain ⟨I1,β1,g1,g2,g3,g4,g5⟩:=hst
  have up:∀ {tm:Tms} {σ:Za} {a':Act} {w':World},StR dr an.nt base w0 I0 I1 β1 tm σ a' w'->StF dr m an.nt base w0 I0 I β tm σ a' w':=by
   rintro tm σ a' w' ⟨I2,β2,k1,k2,k3⟩
   exact ⟨I2,β2,g1.trans k1,g2.trans (KeptE.of_le k2),k3⟩
  refine Zls hO hkp hm hb hc (⟨I1,β1,Imm.le.refl I1,Bmap.le.refl β1,g3,g4,g5⟩:StR dr an.nt base w0 I0 I1 β1 tm σ a w) h ?_
  cases e with
  | normal=>exact fun a' w' hs=>hQ a' w' (up hs)
  | exit id=>exact fun a' w' hs=>hQ a' w' (up hs)
  | ret=>exact fun a' w' hs=>hQ a' w' (up hs)
  | panic x =>
   rintro a' u w' hd ⟨I2,β2,k1,k2,k3,k4⟩
   exact hQ a' u w' hd ⟨I2,β2,g1.trans k1,g2.trans (KeptE.of_le k2),k3,k4⟩
 | seq x y ihx ihy =>
  intro ac hc I β tm tm' σ σ' a w e hst h Q hQ
  simp only [ZaU] at hc
  subst hc
  simp only [Z5] at h
  refine wp_seq ?_
  split at h
  ·rename_i tm1 σ1 h1
   exact ihx rfl hst h1 (fun a' w' hs=>ihy rfl hs h hQ)
  ·rename_i hne
   refine ihx rfl hst h ?_
   cases e with
   | normal=>exact absurd h (hne _ _)
   | exit id=>exact hQ
   | ret=>exact hQ
   | panic x=>exact hQ
 | cond c x y ihx ihy =>
  intro ac hc I β tm tm' σ σ' a w e hst h Q hQ
  simp only [ZaU] at hc
  split at hc
  ·rename_i c' hcc
   subst hc
   simp only [Z5] at h
   split at h
   ·rename_i hv
    exact wp_cond_true (hst.cond hcc hv) (ihx rfl hst h hQ)
   ·rename_i hv
    exact wp_cond_false (hst.cond hcc hv) (ihy rfl hst h hQ)
   ·cases h
  ·subst hc;simp only [Z5] at h;cases h
 | block id x ih =>
  intro ac hc I β tm tm' σ σ' a w e hst h Q hQ
  simp only [ZaU] at hc
  subst hc
  have hx:ZaU P an x=ZaU P an x:=rfl
  simp only [Z5] at h
  refine wp_block ?_
  split at h
  ·rename_i i tm1 σ1 h1
   refine ih hx hst h1 ?_
   intro a' w' hs
   simp only [Exit.inBlock]
   split at h
   ·rename_i hid
    simp only [Option.some.injEq,Prod.mk.injEq] at h
    obtain ⟨rfl,rfl,rfl⟩:=h
    rw [if_pos hid]
    exact hQ a' w' hs
   ·rename_i hid
    simp only [Option.some.injEq,Prod.mk.injEq] at h
    obtain ⟨rfl,rfl,rfl⟩:=h
    rw [if_neg hid]
    exact hQ a' w' hs
  ·rename_i hne
   refine ih hx hst h ?_
   cases e with
   | normal=>exact hQ
   | exit id=>exact absurd h (hne _ _ _)
   | ret=>exact hQ
   | panic x=>exact hQ
 | loop x ih =>
  intro ac hc I β tm tm' σ σ' a w e hst h Q hQ
  simp only [ZaU] at hc
  subst hc
  have hx:ZaU P an x=ZaU P an x:=rfl
  simp only [Z5] at h
  refine wp_loop_rounds n ?_
  have key:∀ k {tm:Tms} {σ:Za} {a:Act} {w:World},StF dr m an.nt base w0 I0 I β tm σ a w->Zdv m (an.ll (Zfq x)) (Z5 O bf m n (ZaU P an x)) k tm σ=some (e,tm',σ')->Code.rounds P x Q k a w:=by
   intro k
   induction k with
   | zero=>intro tm σ a w _ h;simp only [Zdv] at h;cases h
   | succ k ihk =>
    intro tm σ a w hst h
    rw [rounds_succ]
    simp only [Zdv] at h
    obtain ⟨I1,β1,k1,k2,k3,k4,k5⟩:=hst
    obtain ⟨β2,q1,q2,q3⟩:=ZOq k5 (k3.keep (an.ll (Zfq x))) m
    have hst0:StF dr m an.nt base w0 I0 I β (gcT m (keepL (an.ll (Zfq x)) tm) σ).1 (gcT m (keepL (an.ll (Zfq x)) tm) σ).2 a w:=⟨I1,β2,k1,k2.trans q1,q3,k4,q2⟩
    split at h
    ·rename_i tm1 σ1 h1
     exact ih hx hst0 h1 (fun a' w' hs=>ihk hs h)
    ·rename_i hne
     refine ih hx hst0 h ?_
     cases e with
     | normal=>exact absurd h (hne _ _)
     | exit id=>exact hQ
     | ret=>exact hQ
     | panic x=>exact hQ
  exact key n hst h
 | exit id =>
  intro ac hc I β tm tm' σ σ' a w e hst h Q hQ
  simp only [ZaU] at hc;subst hc
  simp only [Z5,Option.some.injEq,Prod.mk.injEq] at h
  obtain ⟨rfl,rfl,rfl⟩:=h
  exact wp_exit (hQ a w hst)
 | ret =>
  intro ac hc I β tm tm' σ σ' a w e hst h Q hQ
  simp only [ZaU] at hc;subst hc
  simp only [Z5,Option.some.injEq,Prod.mk.injEq] at h
  obtain ⟨rfl,rfl,rfl⟩:=h
  exact wp_ret (hQ a w hst)
 | rangeFunc f ps x y=>intro ac hc I β tm tm' σ σ' a w e hst h;simp only [ZaU] at hc;subst hc;simp only [Z5] at h;cases h
 | scope x ih =>
  intro ac hc I β tm tm' σ σ' a w e hst h Q hQ
  simp only [ZaU] at hc
  refine wp_scope_straight (ih hc hst h ?_)
  cases e with
  | normal=>exact hQ
  | exit id=>exact hQ
  | ret=>exact hQ
  | panic x=>exact hQ
 | label l =>
  intro ac hc I β tm tm' σ σ' a w e hst h Q hQ
  simp only [ZaU] at hc;subst hc
  simp only [Z5,Option.some.injEq,Prod.mk.injEq] at h
  obtain ⟨rfl,rfl,rfl⟩:=h
  exact wp_label (hQ a w hst)
 | goto l=>intro ac hc I β tm tm' σ σ' a w e hst h;simp only [ZaU] at hc;subst hc;simp only [Z5] at h;cases h
 | refuse why=>intro ac hc I β tm tm' σ σ' a w e hst h;simp only [ZaU] at hc;subst hc;simp only [Z5] at h;cases h
theorem ZB5 {I:Imm} {β:Bmap} {σ σ':Za} {k:Option Nat} {a x:AVal} {c:Cls} {v:Value} (ha:VR I β a v) (h:ldA σ k a=some (x,σ',c)):∃ ad,v=.pointer (some ad):=by
 unfold ldA at h
 split at h
 ·simp only [VR] at ha;obtain ⟨b,k,c,_,rfl⟩:=ha;exact ⟨_,rfl⟩
 ·simp only [VR] at ha;obtain ⟨b,k,c,_,rfl⟩:=ha;exact ⟨_,rfl⟩
 ·simp only [VR] at ha;obtain ⟨b,off,rfl,_⟩:=ha;exact ⟨_,rfl⟩
 ·cases h
def Zjo (tmps:Array Value):ResultVar->Sem Value
 | .tmp t=>pure (tmps.getD t undef)
 | .cell a t=>do loadVar t (<-asAddr (tmps.getD a undef))
theorem Zph {I:Imm} {β:Bmap} {tm:Tms} {σ:Za} {w:World} {tmps:Array Value} (T:TR I β tm tmps) (R:Rel base w0 I0 I β σ w):∀ {rs:List ResultVar} {asl:List ZcH} {xs:List AVal},ZeI P rs=some asl->resAll tm σ asl=some xs ->
  ∃ vs:List Value,(rs.mapM (Zjo tmps)).run P w=.ok vs w/\VRs I β xs vs
 | [],asl,xs,hc,h=>by
  simp only [ZeI,Option.some.injEq] at hc;subst hc
  simp only [resAll,Option.some.injEq] at h;subst h
  exact ⟨[],by simp,by simp only [VRs]⟩
 | r::rs,asl,xs,hc,h=>by
  have getD_eq:∀ t,VR I β (tget tm t) (tmps.getD t undef):=T
  cases r with
  | tmp t =>
   simp only [ZeI,Option.map_eq_some_iff] at hc
   obtain ⟨as',has,rfl⟩:=hc
   simp only [resAll,resOne] at h
   split at h
   ·rename_i ys hys
    injection h with h;subst h
    obtain ⟨vs,h1,h2⟩:=Zph T R has hys
    exact ⟨tmps.getD t undef::vs,by simp only [List.mapM_cons,Zjo,Sem.run_bind,Sem.run_pure,Result.andThen_ok,h1],by simp only [VRs];exact ⟨_,_,rfl,getD_eq t,h2⟩⟩
   ·cases h
  | cell a t =>
   simp only [ZeI] at hc
   split at hc
   ·rename_i k as' hk has
    injection hc with hc;subst hc
    simp only [resAll,resOne] at h
    split at h
    ·rename_i v hv
     split at h
     ·rename_i ys hys
      injection h with h;subst h
      obtain ⟨vs,h1,h2⟩:=Zph T R has hys
      split at hv
      ·rename_i v' σ1 c1 hld
       injection hv with hv;subst hv
       obtain ⟨u,hu1,hu2,_⟩:=Ztp hk R (getD_eq a) hld
       obtain ⟨ad,had⟩:=ZB5 (getD_eq a) hld
       have hlv:(loadVar t ad).run P w=.ok u w:=by
        rw [had] at hu1
        simpa [Instr.loadAt,Instr.sureAddr] using hu1
       refine ⟨u::vs,?_,by simp only [VRs];exact ⟨_,_,rfl,hu2,h2⟩⟩
       simp only [List.mapM_cons,Zjo,had,asAddr,Sem.run_bind,Sem.run_pure,Result.andThen_ok,hlv,h1]
      ·cases hv
     ·cases h
    ·cases h
   ·cases hc
theorem ZsB {I:Imm} {β:Bmap} {tm:Tms} {σ:Za} {w:World} {tmps:Array Value} (T:TR I β tm tmps) (R:Rel base w0 I0 I β σ w) {fn:Func} {asl:List ZcH} {x:AVal} (hc:ZeI P fn.results.toList=some asl) (h:resA tm σ asl=some x):∃ v,(results fn tmps).run P w=.ok v w/\VR I β x v:=by
 unfold resA at h
 have run:∀ {xs:List AVal},resAll tm σ asl=some xs->∃ vs:List Value,(results fn tmps).run P w=.ok (if h:vs.toArray.size=1 then vs.toArray[0] else .tuple vs.toArray) w/\VRs I β xs vs:=by
  intro xs hx
  obtain ⟨vs,h1,h2⟩:=Zph T R hc hx
  refine ⟨vs,?_,h2⟩
  have hm:(fn.results.mapM (Zjo tmps)).run P w=.ok vs.toArray w:=by
   rw [Array.mapM_eq_mapM_toList,Sem.run_map,h1];rfl
  have he:results fn tmps=(do let vs <-fn.results.mapM (Zjo tmps);pure (if h:vs.size=1 then vs[0] else .tuple vs)):=by
   unfold results
   congr 1
  rw [he,Sem.run_bind,hm]
  rfl
 split at h
 ·rename_i v hv
  injection h with h;subst h
  obtain ⟨vs,h1,h2⟩:=run hv
  simp only [VRs] at h2
  obtain ⟨u,us,rfl,h3,rfl⟩:=h2
  exact ⟨u,by rw [h1];simp,h3⟩
 ·rename_i vs' hv hne
  injection h with h;subst h
  obtain ⟨vs,h1,h2⟩:=run hne
  have hl:=ZaO h2
  refine ⟨.tuple vs.toArray,?_,by simp only [VR];exact ⟨_,rfl,by simpa using h2⟩⟩
  rw [h1,dif_neg]
  intro hs
  simp only [List.size_toArray] at hs
  match vs',hl with
  | [v],_=>exact hv v rfl
  | [],hl=>simp at hl;omega
  | _::_::_,hl=>simp at hl;omega
 ·cases h
theorem ZuU:∀ (args:List AVal) (i:Nat) (acc:Tms) (n:Nat),tget (enterA i args acc) n=if i<=n/\n < i+args.length then args.getD (n - i) .top else tget acc n
 | [],i,acc,n=>by simp only [enterA,List.length_nil];rw [if_neg (by omega)]
 | x::xs,i,acc,n=>by
  simp only [enterA,List.length_cons]
  rw [ZuU xs (i+1) _ n]
  by_cases h:i+1<=n/\n < i+1+xs.length
  ·rw [if_pos h,if_pos (by omega),show n - i=(n - (i+1))+1 by omega,List.getD_cons_succ]
  ·rw [if_neg h]
   simp only [tget]
   by_cases h1:i=n
   ·subst h1
    rw [if_pos rfl,if_pos (by omega),Nat.sub_self,List.getD_cons_zero]
   ·rw [if_neg h1,if_neg (by omega)]
theorem ZoO {I:Imm} {β:Bmap} {args:List AVal} {vs:Array Value} (h:VRs I β args vs.toList) (n:Nat):TR I β (enterA 0 args []) (vs++Array.replicate n undef):=by
 intro j
 rw [ZuU]
 have hl:=ZaO h
 simp only [Array.length_toList] at hl
 split
 ·rename_i hj
  have hjl:j < args.length:=by omega
  obtain ⟨v,h1,h2⟩:=Zcm h (List.getElem?_eq_getElem hjl)
  have e1:args.getD (j - 0) .top=args[j]:=by simp [List.getD_eq_getElem?_getD,hjl]
  have e2:(vs++Array.replicate n undef).getD j undef=v:=by
   rw [Array.getD_eq_getD_getElem?,Array.getElem?_append_left (by omega)]
   have : vs[j]?=some v:=by simpa using h1
   rw [this];rfl
  rw [e1,e2];exact h2
 ·simp only [tget,VR]
def Zky (P:Program) (prim:Zcq):Prop:=∀ f g,prim f=some g->∀ args σ r σ',g args σ=some (r,σ') ->
 (∃ fn,P.funcs[f]?=some fn/\fn.body.isSome=true/\(fn.name == "runtime.NumGoroutine")=false) /\
 ∀ base w0 I0 I β w (vs:Array Value),KLt base w0->Rel base w0 I0 I β σ w->VRs I β args vs.toList ->
  Calls P f vs w (fun e w'=>∃ u,Ends r e u/\ZbS σ.length base w0 I0 I β r σ' u w')
theorem ZnC (hm:P.follows .mixedOrders=true) {prim:Zcq} (hP:Zky P prim) (ann:Nat->Ann) (bf:Nat->Bool):∀ n,ZaE P (Zau (Zio P ann) prim bf n)
 | 0=>by intro f args σ r σ' h;simp only [Zau] at h;cases h
 | n+1=>by
  have ih:=ZnC hm hP ann bf n
  intro f args σ r σ' h
  simp only [Zau] at h
  split at h
  ·rename_i g hg
   exact hP f g hg args σ r σ' h
  split at h
  ·cases h
  rename_i fn hfn
  unfold Zio at hfn
  split at hfn
  ·rename_i F hF
   split at hfn
   ·rename_i body hbody
    split at hfn
    ·cases hfn
    ·rename_i hname
     split at hfn
     ·rename_i rs hrs
      injection hfn with hfn;subst hfn
      refine ⟨⟨F,hF,by rw [hbody];rfl,by simpa using hname⟩,?_⟩
      intro base w0 I0 I β w vs hb R hargs
      refine calls_of_wp hF hbody ?_
      have T:=ZoO hargs (F.ntmps - vs.size)
      have hst:StF ZbK σ.length F.ntmps base w0 I0 I β (enterA 0 args []) σ { tmps:=vs++Array.replicate (F.ntmps - vs.size) undef,defers:=[] } w:=⟨I,β,Imm.le.refl I,KeptE.refl _ β,T,⟨Zfk.2 rfl,by simp;omega⟩,R⟩
      cases hx:Z5 (Zau (Zio P ann) prim bf n) bf σ.length n (ZaU P { ann f with nt:=F.ntmps } body) (enterA 0 args []) σ with
      | none=>rw [hx] at h;simp only [Zat] at h;cases h
      | some q =>
       obtain ⟨e,tm',σ1⟩:=q
       rw [hx] at h
       have fin:(match resA tm' σ1 rs with | some r=>Zam σ.length σ1 r | none=>none)=some (r,σ')->∀ a' w',StF ZbK σ.length F.ntmps base w0 I0 I β tm' σ1 a' w'->a'.defers=[]/\∃ v,(results F a'.tmps).run P w'=.ok v w'/\∃ u,Ends r (.returned v) u/\ZbS σ.length base w0 I0 I β r σ' u w':=by
        intro hr a' w' ⟨I1,β1,g1,g2,g3,g4,g5⟩
        split at hr
        ·rename_i x hx1
         obtain ⟨v,h1,h2⟩:=ZsB g3 g5 hrs hx1
         have hnp:∀ y,x≠.pan y:=by rintro y rfl;simp only [VR] at h2
         obtain ⟨q1,q2⟩:=Zj6 (⟨I1,β1,g1,g2,g5,by rw [ZfC hnp];exact h2⟩:ZbS σ.length base w0 I0 I β x σ1 v w') hr
         refine ⟨Zfk.1 g4.1,v,h1,v,q2 _ ?_,q1⟩
         cases x <;> first | rfl | exact absurd rfl (hnp _)
        ·cases hr
       refine ZiW (dr:=ZbK) (an:={ ann f with nt:=F.ntmps }) ih (fun n hn=>by simp [ZbK] at hn) hm hb σ.length n rfl hst hx ?_
       cases e with
       | normal=>simp only [Zat] at h;exact fun a' w' hs=>fin h a' w' hs
       | ret=>simp only [Zat] at h;exact fun a' w' hs=>fin h a' w' hs
       | exit id=>simp only [Zat] at h;cases h
       | panic x =>
        simp only [Zat] at h
        intro a' u w' hd hp
        obtain ⟨q1,q2⟩:=Zj6 hp h
        exact ⟨Zfk.1 hd,u,q2 _ rfl,q1⟩
     ·cases hfn
   ·cases hfn
  ·cases hfn
end
end
section
open Go.RowKit
def OLe (O O':ZO):Prop:=∀ f a σ r,O f a σ=some r->O' f a σ=some r
section
variable {O O':ZO} {bf:Nat->Bool}
theorem ZGX {view:Bool} {m:Nat} {x y:Option (AVal×Za)} (h:∀ r,x=some r->y=some r) {r:AVal×Za} (hr:Zad view m x=some r):Zad view m y=some r:=by
 cases x with
 | none=>cases view <;> simp [Zad,Zbn] at hr
 | some q=>rw [h q rfl];exact hr
theorem ZEX {σ σf:Za} {ids ts:List Nat} {sq own:Nat} {x y:Option (AVal×Za)} (h:∀ r,x=some r->y=some r) {r:AVal×Za×Cls} (hr:ZaI σ σf ids ts sq own x=some r):ZaI σ σf ids ts sq own y=some r:=by
 cases x with
 | none=>simp only [ZaI] at hr;cases hr
 | some q=>rw [h q rfl];exact hr
theorem Zom (hO:OLe O O') {σ:Za} {sq f own:Nat} {view:Bool} {args:List AVal} {r:AVal×Za×Cls} (h:Zk O bf σ sq f own view args=some r):Zk O' bf σ sq f own view args=some r:=by
 unfold Zk ZbE at h ⊢
 split at h
 ·cases h
 ·rename_i vs ts hv
  split at h
  ·rename_i hc
   simp only [hc,if_true]
   exact ZEX (fun q hq=>ZGX (fun q hq=>hO _ _ _ _ hq) hq) h
  ·cases h
theorem ZCX (hO:OLe O O') {tm:Tms} {σ:Za} {sq:Nat} {ins:Ins} {r:AVal×Za×Cls} (h:execI O bf tm σ sq ins=some r):execI O' bf tm σ sq ins=some r:=by
 cases ins
 case call f own view args =>
  simp only [execI] at h ⊢
  exact Zom hO h
 case callv x args =>
  simp only [execI] at h ⊢
  split at h
  ·exact Zom hO h
  ·cases h
 all_goals exact h
theorem Zqg (hO:OLe O O') {o:AOp} {tm:Tms} {σ:Za} {sq:Nat} {r:AVal×Tms×Za×Cls} (h:ZN O bf o sq tm σ=some r):ZN O' bf o sq tm σ=some r:=by
 unfold ZN at h ⊢
 split at h
 ·cases h
 ·exact h
 ·split at h
  ·rename_i hf
   rw [if_pos hf]
   split at h
   ·rename_i he;rw [ZCX hO he];exact h
   ·cases h
  ·cases h
theorem Zpl (hO:OLe O O'):∀ {ops:List AOp} {s:Nat} {tm:Tms} {σ:Za} {r:Tms×Za×List Cls×Option AVal},ZX O bf ops s tm σ=some r->ZX O' bf ops s tm σ=some r
 | [],_,_,_,_,h=>h
 | o::ops,s,tm,σ,r,h=>by
  simp only [ZX] at h ⊢
  split at h
  ·cases h
  ·rename_i h1
   rw [Zqg hO h1]
   exact h
  ·rename_i v tm1 σ1 c hnp h1
   rw [Zqg hO h1]
   simp only
   split at h
   ·cases h
   rename_i h2
   rw [Zpl hO h2]
   exact h
theorem ZvX (hO:OLe O O') {ops:List AOp} {chk:Option (List (Nat×Nat))} {live:List Nat} {tm:Tms} {σ:Za} {r:ZaW×Tms×Za} (h:ZbU O bf ops chk live tm σ=some r):ZbU O' bf ops chk live tm σ=some r:=by
 unfold ZbU at h ⊢
 cases hx:ZX O bf ops σ.length tm (σ++List.replicate (sitesOf ops) .free) with
 | none=>rw [hx] at h;simp only [ZcY] at h;cases h
 | some q=>rw [Zpl hO hx];rw [hx] at h;exact h
theorem Zlf {m0:Nat} {live:List Nat} {f f':Tms->Za->Option (ZaW×Tms×Za)} (hf:∀ tm σ r,f tm σ=some r->f' tm σ=some r):∀ {n n':Nat} {tm:Tms} {σ:Za} {r:ZaW×Tms×Za},n<=n'->Zdv m0 live f n tm σ=some r->Zdv m0 live f' n' tm σ=some r
 | 0,_,_,_,_,_,h=>by simp only [Zdv] at h;cases h
 | n+1,0,_,_,_,hn,_=>by omega
 | n+1,n'+1,tm,σ,r,hn,h=>by
  simp only [Zdv] at h ⊢
  split at h
  ·rename_i h1
   rw [hf _ _ _ h1]
   exact Zlf hf (by omega) h
  ·rename_i hne
   rw [hf _ _ _ h]
   split
   ·rename_i e;injection e with e;subst e;exact absurd h (hne _ _)
   ·rfl
theorem ZdC (hO:OLe O O') {m0:Nat}:∀ {c:Ze} {n n':Nat} {tm:Tms} {σ:Za} {r:ZaW×Tms×Za},n<=n'->Z5 O bf m0 n c tm σ=some r->Z5 O' bf m0 n' c tm σ=some r:=by
 intro c
 induction c with
 | skip=>intro n n' tm σ r _ h;exact h
 | exit id=>intro n n' tm σ r _ h;exact h
 | ret=>intro n n' tm σ r _ h;exact h
 | stuck=>intro n n' tm σ r _ h;exact h
 | region ops chk live =>
  intro n n' tm σ r _ h
  simp only [Z5] at h ⊢
  exact ZvX hO h
 | seq a b iha ihb =>
  intro n n' tm σ r hn h
  simp only [Z5] at h ⊢
  split at h
  ·rename_i h1;rw [iha hn h1];exact ihb hn h
  ·rename_i hne
   rw [iha hn h]
   split
   ·rename_i e;injection e with e;subst e;exact absurd h (hne _ _)
   ·rfl
 | cond c a b iha ihb =>
  intro n n' tm σ r hn h
  simp only [Z5] at h ⊢
  split at h
  ·exact iha hn h
  ·exact ihb hn h
  ·cases h
 | block id c ih =>
  intro n n' tm σ r hn h
  simp only [Z5] at h ⊢
  split at h
  ·rename_i h1;rw [ih hn h1];exact h
  ·rename_i hne
   rw [ih hn h]
   split
   ·rename_i e;injection e with e;subst e;exact absurd h (hne _ _ _)
   ·rfl
 | loop live c ih =>
  intro n n' tm σ r hn h
  simp only [Z5] at h ⊢
  exact Zlf (fun tm σ r h=>ih hn h) hn h
theorem ZlO {m0:Nat} {fn:ZD} {x y:Option (ZaW×Tms×Za)} (h:∀ r,x=some r->y=some r) {r:AVal×Za} (hr:Zat m0 fn x=some r):Zat m0 fn y=some r:=by
 cases x with
 | none=>simp only [Zat] at hr;cases hr
 | some q=>rw [h q rfl];exact hr
theorem Zuk (fs:Nat->Option ZD) (prim:Zcq):∀ n,OLe (Zau fs prim bf n) (Zau fs prim bf (n+1))
 | 0=>by intro f a σ r h;simp only [Zau] at h;cases h
 | n+1=>by
  intro f a σ r h
  rw [Zau] at h ⊢
  split at h
  ·rename_i g hg;exact h
  ·rename_i hg
   split at h
   ·cases h
   ·rename_i fn hfn
    exact ZlO (fun q hq=>ZdC (Zuk fs prim n) (by omega) hq) h
theorem ZiG (fs : Nat -> Option ZD) (prim : Zcq) {n m : Nat} (h : n <= m) : OLe (Zau fs prim bf n) (Zau fs prim bf m) := by
  induction m with
  | zero => obtain rfl : n = 0 := by omega
            exact fun _ _ _ _ h => h
  | succ m ih =>
    by_cases e : n = m + 1
    . subst e; exact fun _ _ _ _ h => h
    . exact fun f a σ r hr => Zuk fs prim m f a σ r (ih (by omega) f a σ r hr)
end
section
variable (fs:Nat->Option ZD) (prim:Zcq) (bf:Nat->Bool)
open Classical in
noncomputable def EV:ZO:=fun f args σ=>if h:∃ r,∃ n,Zau fs prim bf n f args σ=some r then some h.choose else none
open Classical in
noncomputable def evC (m:Nat) (c:Ze) (tm:Tms) (σ:Za):Option (ZaW×Tms×Za):=if h:∃ r,∃ n,Z5 (Zau fs prim bf n) bf m n c tm σ=some r then some h.choose else none
variable {fs prim bf} {m0:Nat}
theorem Zdo {f:Nat} {args:List AVal} {σ:Za} {r:AVal×Za}:EV fs prim bf f args σ=some r↔∃ n,Zau fs prim bf n f args σ=some r:=by
 unfold EV
 constructor
 ·intro h
  split at h
  ·rename_i hx
   injection h with h
   rw [<-h]
   exact hx.choose_spec
  ·cases h
 ·rintro ⟨n,hn⟩
  have hx:∃ r,∃ n,Zau fs prim bf n f args σ=some r:=⟨r,n,hn⟩
  rw [dif_pos hx]
  obtain ⟨m,hm⟩:=hx.choose_spec
  have h1:=ZiG (bf:=bf) fs prim (Nat.le_max_left n m) _ _ _ _ hn
  have h2:=ZiG (bf:=bf) fs prim (Nat.le_max_right n m) _ _ _ _ hm
  rw [h1] at h2
  injection h2 with h2
  rw [<-h2]
theorem Zbl {c:Ze} {tm:Tms} {σ:Za} {r:ZaW×Tms×Za}:evC fs prim bf m0 c tm σ=some r↔∃ n,Z5 (Zau fs prim bf n) bf m0 n c tm σ=some r:=by
 unfold evC
 constructor
 ·intro h
  split at h
  ·rename_i hx
   injection h with h
   rw [<-h]
   exact hx.choose_spec
  ·cases h
 ·rintro ⟨n,hn⟩
  have hx:∃ r,∃ n,Z5 (Zau fs prim bf n) bf m0 n c tm σ=some r:=⟨r,n,hn⟩
  rw [dif_pos hx]
  obtain ⟨m,hm⟩:=hx.choose_spec
  have h1:=ZdC (ZiG (bf:=bf) fs prim (Nat.le_max_left n m)) (Nat.le_max_left n m) hn
  have h2:=ZdC (ZiG (bf:=bf) fs prim (Nat.le_max_right n m)) (Nat.le_max_right n m) hm
  rw [h1] at h2
  injection h2 with h2
  rw [<-h2]
theorem Zfc {α:Type} {x y:Option α} (h:∀ r,x=some r↔y=some r):x=y:=by
 cases x with
 | none =>
  cases y with
  | none=>rfl
  | some q=>exact absurd ((h q).2 rfl) (by simp)
 | some q=>exact ((h q).1 rfl).symm
theorem ZM6 (n:Nat):OLe (Zau fs prim bf n) (EV fs prim bf):=fun _ _ _ _ h=>Zdo.2 ⟨n,h⟩
theorem up {n m:Nat} (h:n<=m):OLe (Zau fs prim bf n) (Zau fs prim bf m):=ZiG fs prim h
theorem Zvp {f:Nat} {g:List AVal->Za->Option (AVal×Za)} (hp:prim f=some g) (args:List AVal) (σ:Za):EV fs prim bf f args σ=g args σ:=by
 apply Zfc
 intro r
 rw [Zdo]
 constructor
 ·rintro ⟨n,h⟩
  cases n with
  | zero=>simp only [Zau] at h;cases h
  | succ n=>rw [Zau,hp] at h;exact h
 ·intro h
  exact ⟨1,by rw [Zau,hp];exact h⟩
theorem Zro {f:Nat} {fn:ZD} (hp:prim f=none) (hf:fs f=some fn) (args:List AVal) (σ:Za):EV fs prim bf f args σ=Zat σ.length fn (evC fs prim bf σ.length fn.body (enterA 0 args []) σ):=by
 apply Zfc
 intro r
 rw [Zdo]
 constructor
 ·rintro ⟨n,h⟩
  cases n with
  | zero=>simp only [Zau] at h;cases h
  | succ n =>
   rw [Zau,hp,hf] at h
   exact ZlO (fun q hq=>Zbl.2 ⟨n,hq⟩) h
 ·intro h
  cases hx:evC fs prim bf σ.length fn.body (enterA 0 args []) σ with
  | none=>rw [hx] at h;simp only [Zat] at h;cases h
  | some q =>
   obtain ⟨n,hn⟩:=Zbl.1 hx
   refine ⟨n+1,?_⟩
   rw [Zau,hp,hf]
   rw [hx] at h
   exact ZlO (x:=some q) (fun q' hq'=>by injection hq' with hq';subst hq';exact hn) h
theorem Ztt {σ:Za} {sq f own:Nat} {view:Bool} {args:List AVal} {r:AVal×Za×Cls} (h:Zk (EV fs prim bf) bf σ sq f own view args=some r):∃ n,Zk (Zau fs prim bf n) bf σ sq f own view args=some r:=by
 unfold Zk ZbE at h ⊢
 split at h
 ·cases h
 ·rename_i vs ts hv
  split at h
  ·rename_i hc
   simp only [hc,if_true]
   cases hx:EV fs prim bf f (Zf (Zn (Zo σ ts) 0 (Zy (Zo σ ts) 1000 (Zr vs) [])) vs) (Zu (Zo σ ts) 0 (Zy (Zo σ ts) 1000 (Zr vs) []) (Zn (Zo σ ts) 0 (Zy (Zo σ ts) 1000 (Zr vs) [])) (Zy (Zo σ ts) 1000 (Zr vs) []) 0) with
   | none =>
    rw [hx] at h
    cases view <;> simp [Zad,Zbn,ZaI] at h
   | some q =>
    obtain ⟨n,hn⟩:=Zdo.1 hx
    exact ⟨n,by rw [hn];rw [hx] at h;exact h⟩
  ·cases h
theorem ZI1 {tm:Tms} {σ:Za} {sq:Nat} {ins:Ins} {r:AVal×Za×Cls} (h:execI (EV fs prim bf) bf tm σ sq ins=some r):∃ n,execI (Zau fs prim bf n) bf tm σ sq ins=some r:=by
 cases ins
 case call f own view args =>
  simp only [execI] at h ⊢
  exact Ztt h
 case callv x args =>
  simp only [execI] at h ⊢
  split at h
  ·exact Ztt h
  ·cases h
 all_goals exact ⟨0,h⟩
theorem ZsI {o:AOp} {tm:Tms} {σ:Za} {sq:Nat} {r:AVal×Tms×Za×Cls} (h:ZN (EV fs prim bf) bf o sq tm σ=some r):∃ n,ZN (Zau fs prim bf n) bf o sq tm σ=some r:=by
 unfold ZN at h ⊢
 split at h
 ·cases h
 ·exact ⟨0,h⟩
 ·split at h
  ·rename_i hf
   simp only [hf,if_true]
   split at h
   ·rename_i he
    obtain ⟨n,hn⟩:=ZI1 he
    exact ⟨n,by rw [hn];exact h⟩
   ·cases h
  ·cases h
theorem Zty:∀ {ops:List AOp} {s:Nat} {tm:Tms} {σ:Za} {r:Tms×Za×List Cls×Option AVal},ZX (EV fs prim bf) bf ops s tm σ=some r->∃ n,ZX (Zau fs prim bf n) bf ops s tm σ=some r
 | [],_,_,_,_,h=>⟨0,h⟩
 | o::ops,s,tm,σ,r,h=>by
  simp only [ZX] at h ⊢
  split at h
  ·cases h
  ·rename_i h1
   obtain ⟨n,hn⟩:=ZsI h1
   exact ⟨n,by rw [hn];exact h⟩
  rename_i v tm1 σ1 c hnp h1
  split at h
  ·cases h
  rename_i h2
  obtain ⟨n,hn⟩:=ZsI h1
  obtain ⟨m,hm⟩:=Zty h2
  refine ⟨max n m,?_⟩
  rw [Zqg (up (Nat.le_max_left n m)) hn]
  simp only
  rw [Zpl (up (Nat.le_max_right n m)) hm]
  exact h
theorem ZL6 {ops:List AOp} {chk:Option (List (Nat×Nat))} {live:List Nat} {tm:Tms} {σ:Za} {r:ZaW×Tms×Za} (h:ZbU (EV fs prim bf) bf ops chk live tm σ=some r):∃ n,ZbU (Zau fs prim bf n) bf ops chk live tm σ=some r:=by
 unfold ZbU at h ⊢
 cases hx:ZX (EV fs prim bf) bf ops σ.length tm (σ++List.replicate (sitesOf ops) .free) with
 | none=>rw [hx] at h;simp only [ZcY] at h;cases h
 | some q =>
  obtain ⟨n,hn⟩:=Zty hx
  exact ⟨n,by rw [hn];rw [hx] at h;exact h⟩
theorem ZHO (tm:Tms) (σ:Za):evC fs prim bf m0 .skip tm σ=some (.normal,tm,σ):=Zbl.2 ⟨0,rfl⟩
theorem ZG8 (id:Nat) (tm:Tms) (σ:Za):evC fs prim bf m0 (.exit id) tm σ=some (.exit id,tm,σ):=Zbl.2 ⟨0,rfl⟩
theorem ZPj (tm:Tms) (σ:Za):evC fs prim bf m0 .ret tm σ=some (.ret,tm,σ):=Zbl.2 ⟨0,rfl⟩
theorem ZI7 {ops:List AOp} {chk:Option (List (Nat×Nat))} {live:List Nat} {tm:Tms} {σ:Za}:evC fs prim bf m0 (.region ops chk live) tm σ=ZbU (EV fs prim bf) bf ops chk live tm σ:=by
 apply Zfc
 intro r
 rw [Zbl]
 constructor
 ·rintro ⟨n,hn⟩
  simp only [Z5] at hn
  exact ZvX (ZM6 n) hn
 ·intro h
  obtain ⟨n,hn⟩:=ZL6 h
  exact ⟨n,by simp only [Z5];exact hn⟩
theorem Zii {a b:Ze} {tm tm':Tms} {σ σ':Za} (h:evC fs prim bf m0 a tm σ=some (.normal,tm',σ')):evC fs prim bf m0 (.seq a b) tm σ=evC fs prim bf m0 b tm' σ':=by
 obtain ⟨n,hn⟩:=Zbl.1 h
 apply Zfc
 intro r
 rw [Zbl,Zbl]
 constructor
 ·rintro ⟨m,hm⟩
  have h1:=ZdC (up (Nat.le_max_left n m)) (Nat.le_max_left n m) hn
  have h2:=ZdC (up (Nat.le_max_right n m)) (Nat.le_max_right n m) hm
  simp only [Z5,h1] at h2
  exact ⟨_,h2⟩
 ·rintro ⟨m,hm⟩
  have h1:=ZdC (up (Nat.le_max_left n m)) (Nat.le_max_left n m) hn
  have h2:=ZdC (up (Nat.le_max_right n m)) (Nat.le_max_right n m) hm
  exact ⟨max n m,by simp only [Z5,h1];exact h2⟩
theorem Ziu {a b:Ze} {tm tm':Tms} {σ σ':Za} {e:ZaW} (he:e≠.normal) (h:evC fs prim bf m0 a tm σ=some (e,tm',σ')):evC fs prim bf m0 (.seq a b) tm σ=some (e,tm',σ'):=by
 obtain ⟨n,hn⟩:=Zbl.1 h
 refine Zbl.2 ⟨n,?_⟩
 simp only [Z5,hn]
 cases e with
 | normal=>exact absurd rfl he
 | exit id=>rfl
 | ret=>rfl
 | panic x=>rfl
def ZaX (id:Nat):ZaW×Tms×Za->ZaW×Tms×Za
 | (.exit i,tm,σ)=>if i=id then (.normal,tm,σ) else (.exit i,tm,σ)
 | r=>r
theorem ZNz {id:Nat} {c:Ze} {tm:Tms} {σ:Za}:evC fs prim bf m0 (.block id c) tm σ=(evC fs prim bf m0 c tm σ).map (ZaX id):=by
 have step:∀ n,Z5 (Zau fs prim bf n) bf m0 n (.block id c) tm σ=(Z5 (Zau fs prim bf n) bf m0 n c tm σ).map (ZaX id):=by
  intro n
  simp only [Z5]
  cases Z5 (Zau fs prim bf n) bf m0 n c tm σ with
  | none=>rfl
  | some q =>
   obtain ⟨e,tm1,σ1⟩:=q
   cases e with
   | normal=>rfl
   | ret=>rfl
   | panic x=>rfl
   | exit i=>simp only [Option.map_some,ZaX];split <;> rfl
 apply Zfc;intro r
 rw [Zbl]
 simp only [step,Option.map_eq_some_iff]
 constructor
 ·rintro ⟨n,q,h1,h2⟩;exact ⟨q,Zbl.2 ⟨n,h1⟩,h2⟩
 ·rintro ⟨q,h1,h2⟩;obtain ⟨n,hn⟩:=Zbl.1 h1;exact ⟨n,q,hn,h2⟩
theorem ZP1 {c:Ze} {tm:Tms} {σ:Za} (h:evC fs prim bf m0 c tm σ=none) (n:Nat):Z5 (Zau fs prim bf n) bf m0 n c tm σ=none:=by
 cases hx:Z5 (Zau fs prim bf n) bf m0 n c tm σ with
 | none=>rfl
 | some r=>rw [Zbl.2 ⟨n,hx⟩] at h;cases h
variable (fs prim bf m0) in
noncomputable def ZbF (b:Ze):Option (ZaW×Tms×Za)->Option (ZaW×Tms×Za)
 | some (.normal,tm,σ)=>evC fs prim bf m0 b tm σ
 | r=>r
theorem ZG3 {a b:Ze} {tm:Tms} {σ:Za}:evC fs prim bf m0 (.seq a b) tm σ=ZbF fs prim bf m0 b (evC fs prim bf m0 a tm σ):=by
 cases h:evC fs prim bf m0 a tm σ with
 | none =>
  simp only [ZbF]
  apply Zfc;intro r
  rw [Zbl]
  constructor
  ·rintro ⟨n,hn⟩
   simp only [Z5,ZP1 h n] at hn
   cases hn
  ·intro h;cases h
 | some q =>
  obtain ⟨e,tm',σ'⟩:=q
  cases e with
  | normal=>exact Zii h
  | exit id=>exact Ziu (by simp) h
  | ret=>exact Ziu (by simp) h
  | panic x=>exact Ziu (by simp) h
variable (fs prim bf m0) in
noncomputable def Zir (a b:Ze) (tm:Tms) (σ:Za):AVal->Option (ZaW×Tms×Za)
 | .bool true=>evC fs prim bf m0 a tm σ
 | .bool false=>evC fs prim bf m0 b tm σ
 | _=>none
theorem ZBd {c:Opd} {a b:Ze} {tm:Tms} {σ:Za}:evC fs prim bf m0 (.cond c a b) tm σ=Zir fs prim bf m0 a b tm σ (c.ev tm):=by
 apply Zfc;intro r
 rw [Zbl]
 simp only [Z5]
 constructor
 ·rintro ⟨n,hn⟩
  split at hn
  ·rename_i e;rw [e];simp only [Zir];exact Zbl.2 ⟨n,hn⟩
  ·rename_i e;rw [e];simp only [Zir];exact Zbl.2 ⟨n,hn⟩
  ·cases hn
 ·intro h
  unfold Zir at h
  split at h
  ·rename_i e;obtain ⟨n,hn⟩:=Zbl.1 h;exact ⟨n,by rw [e];exact hn⟩
  ·rename_i e;obtain ⟨n,hn⟩:=Zbl.1 h;exact ⟨n,by rw [e];exact hn⟩
  ·cases h
variable (fs prim bf m0) in
noncomputable def evL (live:List Nat) (c:Ze) (tm:Tms) (σ:Za):Option (ZaW×Tms×Za) :=
 match evC fs prim bf m0 c tm σ with
 | some (.normal,tm',σ')=>evC fs prim bf m0 (.loop live c) tm' σ'
 | r=>r
theorem Zvc {live:List Nat} {c:Ze} {tm:Tms} {σ:Za}:evC fs prim bf m0 (.loop live c) tm σ=evL fs prim bf m0 live c (gcT m0 (keepL live tm) σ).1 (gcT m0 (keepL live tm) σ).2:=by
 apply Zfc;intro r
 rw [Zbl]
 constructor
 ·rintro ⟨n,hn⟩
  simp only [Z5] at hn
  cases n with
  | zero=>simp only [Zdv] at hn;cases hn
  | succ k =>
   simp only [Zdv] at hn
   unfold evL
   cases hx:Z5 (Zau fs prim bf (k+1)) bf m0 (k+1) c (gcT m0 (keepL live tm) σ).1 (gcT m0 (keepL live tm) σ).2 with
   | none=>rw [hx] at hn;cases hn
   | some q =>
    rw [Zbl.2 ⟨_,hx⟩]
    rw [hx] at hn
    obtain ⟨e,tm',σ'⟩:=q
    cases e with
    | normal =>
     simp only at hn ⊢
     exact Zbl.2 ⟨k+1,by simp only [Z5];exact Zlf (fun _ _ _ h=>h) (by omega) hn⟩
    | exit id=>exact hn
    | ret=>exact hn
    | panic x=>exact hn
 ·intro h
  unfold evL at h
  cases hx:evC fs prim bf m0 c (gcT m0 (keepL live tm) σ).1 (gcT m0 (keepL live tm) σ).2 with
  | none=>rw [hx] at h;cases h
  | some q =>
   rw [hx] at h
   obtain ⟨n,hn⟩:=Zbl.1 hx
   obtain ⟨e,tm',σ'⟩:=q
   have out:e≠.normal->some (e,tm',σ')=some r->∃ n,Z5 (Zau fs prim bf n) bf m0 n (.loop live c) tm σ=some r:=by
    intro he h
    refine ⟨n+1,?_⟩
    have h1:=ZdC (up (show n<=n+1 by omega)) (show n<=n+1 by omega) hn
    simp only [Z5,Zdv,h1]
    cases e with
    | normal=>exact absurd rfl he
    | exit id=>exact h
    | ret=>exact h
    | panic x=>exact h
   cases e with
   | normal =>
    simp only at h
    obtain ⟨m,hm⟩:=Zbl.1 h
    have h1:=ZdC (up (show n<=max n m+1 by omega)) (show n<=max n m+1 by omega) hn
    have h2:=ZdC (up (show m<=max n m+1 by omega)) (Nat.le_refl m) hm
    simp only [Z5] at h2
    refine ⟨max n m+1,?_⟩
    simp only [Z5,Zdv,h1]
    exact Zlf (fun tm σ r h=>ZdC (fun _ _ _ _ h=>h) (by omega) h) (by omega) h2
   | exit id=>exact out (by simp) h
   | ret=>exact out (by simp) h
   | panic x=>exact out (by simp) h
theorem ZJ7 {P:Program} (hm:P.follows .mixedOrders=true) {prim:Zcq} (hP:Zky P prim) (ann:Nat->Ann) (bf:Nat->Bool):ZaE P (EV (Zio P ann) prim bf):=by
 intro f args σ r σ' h
 obtain ⟨n,hn⟩:=Zdo.1 h
 exact ZnC hm hP ann bf n f args σ r σ' hn
end
end
section
open Go.RowKit
def ZtV:Tms×Za×List Cls×Option AVal->Tms×Za×Option AVal:=fun q=>(q.1,q.2.1,q.2.2.2)
def ZaR:AVal->Bool
 | .pan _=>true
 | _=>false
section
variable (O:ZO) (bf:Nat->Bool)
def exI (i:Ins) (s:Nat) (tm:Tms) (σ:Za):Option (AVal×Za×Cls) :=
 if nsite i == 0 || freeAt σ s then execI O bf tm σ s i else none
def Zbi (ops:List AOp) (s:Nat) (tm:Tms) (σ:Za):Option (Tms×Za×Option AVal):=(ZX O bf ops s tm σ).map ZtV
def kN (d:Option Nat) (os:List AOp) (s:Nat) (tm:Tms):Option (AVal×Za×Cls)->Option (Tms×Za×Option AVal)
 | none=>none
 | some (v,σ,_)=>if ZaR v then some (tput tm d v,σ,some (ZaT v)) else Zbi O bf os s (tput tm d v) σ
def Zlh (live:List Nat):Option (Tms×Za×Option AVal)->Option (ZaW×Tms×Za)
 | none=>none
 | some (_,σ,some x)=>some (.panic x,[],σ)
 | some (tm,σ,none)=>some (.normal,keepL live tm,σ)
variable {O bf}
theorem Ztl (s:Nat) (tm:Tms) (σ:Za):Zbi O bf [] s tm σ=some (tm,σ,none):=rfl
theorem ZiL {o:AOp} {os:List AOp} {s:Nat} {tm:Tms} {σ:Za} (h:ZN O bf o s tm σ=none):ZX O bf (o::os) s tm σ=none:=by simp only [ZX,h]
theorem Zkq {o:AOp} {os:List AOp} {s:Nat} {tm tm1:Tms} {σ σ1:Za} {x:AVal} {c:Cls} (h:ZN O bf o s tm σ=some (.pan x,tm1,σ1,c)):ZX O bf (o::os) s tm σ=some (tm1,σ1,[c],some x):=by simp only [ZX,h]
theorem ZtM {o:AOp} {os:List AOp} {s:Nat} {tm tm1:Tms} {σ σ1:Za} {v:AVal} {c:Cls} (h:ZN O bf o s tm σ=some (v,tm1,σ1,c)) (hn:ZaR v=false):ZX O bf (o::os) s tm σ=(ZX O bf os (s+nsite o.ins) tm1 σ1).map fun q=>(q.1,q.2.1,c::q.2.2.1,q.2.2.2):=by
 simp only [ZX,h]
 cases v <;> first
  | (simp [ZaR] at hn;done)
  | (simp only;cases ZX O bf os (s+nsite o.ins) tm1 σ1 <;> rfl)
theorem Zms {o:AOp} {os:List AOp} {s:Nat} {tm:Tms} {σ:Za} (h:ZN O bf o s tm σ=none):Zbi O bf (o::os) s tm σ=none:=by simp only [Zbi,ZiL h,Option.map_none]
theorem Zo0 {o:AOp} {os:List AOp} {s:Nat} {tm tm1:Tms} {σ σ1:Za} {x:AVal} {c:Cls} (h:ZN O bf o s tm σ=some (.pan x,tm1,σ1,c)):Zbi O bf (o::os) s tm σ=some (tm1,σ1,some x):=by simp only [Zbi,Zkq h,Option.map_some,ZtV]
theorem Zkh {o:AOp} {os:List AOp} {s:Nat} {tm tm1:Tms} {σ σ1:Za} {v:AVal} {c:Cls} (h:ZN O bf o s tm σ=some (v,tm1,σ1,c)) (hn:ZaR v=false):Zbi O bf (o::os) s tm σ=Zbi O bf os (s+nsite o.ins) tm1 σ1:=by
 simp only [Zbi,ZtM h hn,Option.map_map]
 rfl
theorem Zmx {v:AVal} (h:ZaR v=true):∃ x,v=.pan x:=by
 cases v <;> first | exact ⟨_,rfl⟩ | (simp [ZaR] at h;done)
theorem Zkk {d:Option Nat} {i:Ins} {af:List Nat} {s:Nat} {tm:Tms} {σ:Za}:ZN O bf ⟨d,i,none,af⟩ s tm σ=(exI O bf i s tm σ).map fun q=>(q.1,tput tm d q.1,q.2.1,q.2.2):=by
 unfold ZN exI
 simp only [Zbr]
 split
 ·cases execI O bf tm σ s i with
  | none=>rfl
  | some q=>rfl
 ·rfl
theorem ZpF (d:Option Nat) (i:Ins) (af:List Nat) (os:List AOp) (s:Nat) (tm:Tms) (σ:Za):Zbi O bf (⟨d,i,none,af⟩::os) s tm σ=kN O bf d os (s+nsite i) tm (exI O bf i s tm σ):=by
 cases h:exI O bf i s tm σ with
 | none=>exact Zms (by rw [Zkk,h];rfl)
 | some q =>
  obtain ⟨v,σ1,c⟩:=q
  have hs:ZN O bf ⟨d,i,none,af⟩ s tm σ=some (v,tput tm d v,σ1,c):=by rw [Zkk,h];rfl
  cases hp:ZaR v with
  | true =>
   obtain ⟨x,rfl⟩:=Zmx hp
   exact Zo0 hs
  | false =>
   rw [Zkh hs hp]
   simp only [kN,hp,Bool.false_eq_true,if_false]
theorem ZIl (ops:List AOp) (live:List Nat) (tm:Tms) (σ:Za):ZbU O bf ops none live tm σ=Zlh live (Zbi O bf ops σ.length tm (σ++List.replicate (sitesOf ops) .free)):=by
 unfold ZbU Zbi
 cases ZX O bf ops σ.length tm (σ++List.replicate (sitesOf ops) .free) with
 | none=>rfl
 | some q =>
  obtain ⟨tm',σ',cs,p⟩:=q
  cases p <;> rfl
theorem ZoQ (d:Option Nat) (os:List AOp) (s:Nat) (tm:Tms) (v:AVal) (σ:Za) (c:Cls) (h:ZaR v=false):kN O bf d os s tm (some (v,σ,c))=Zbi O bf os s (tput tm d v) σ:=by
 simp only [kN,h,Bool.false_eq_true,if_false]
theorem ZCh (d:Option Nat) (os:List AOp) (s:Nat) (tm:Tms) (x:AVal) (σ:Za) (c:Cls):kN O bf d os s tm (some (.pan x,σ,c))=some (tput tm d (.pan x),σ,some x):=rfl
theorem ZLB (d:Option Nat) (os:List AOp) (s:Nat) (tm:Tms):kN O bf d os s tm none=none:=rfl
structure GOp where
 guard:Option (Nat×Bool)
 ops:List AOp
def Zaw:List AOp->Tms->Tms
 | [],tm=>tm
 | o::os,tm=>Zaw os (tput tm o.dst (.tup []))
def unG (o:AOp):AOp:={ o with guard:=none }
variable (O bf) in
def ZeO (j:Nat) (w:Bool) (g:List AOp) (s:Nat) (tm:Tms) (σ:Za):Option (Tms×Za×Option AVal):=match Zbr (some (j,w)) tm with
 | none=>none
 | some false=>some (Zaw g tm,σ,none)
 | some true=>Zbi O bf (g.map unG) s tm σ
variable (O bf) in
def gK (os:List AOp) (s:Nat):Option (Tms×Za×Option AVal)->Option (Tms×Za×Option AVal)
 | none=>none
 | some (tm,σ,some x)=>some (tm,σ,some x)
 | some (tm,σ,none)=>Zbi O bf os s tm σ
def ZF (j:Nat) (w:Bool):List AOp->List AOp×List AOp
 | []=>([],[])
 | o::os=>match o.guard with
  | some (j',w')=>if j'=j/\w'=w/\o.dst≠some j then ((o::(ZF j w os).1),(ZF j w os).2) else ([],o::os)
  | none=>([],o::os)
theorem ZmW (j:Nat) (w:Bool):∀ os,(ZF j w os).1++(ZF j w os).2=os
 | []=>rfl
 | o::os=>by
  simp only [ZF]
  split
  ·split
   ·simp [ZmW j w os]
   ·rfl
  ·rfl
theorem ZqH (j:Nat) (w:Bool):∀ os,∀ o ∈ (ZF j w os).1,o.guard=some (j,w)/\o.dst≠some j
 | []=>by simp [ZF]
 | o::os=>by
  intro o' ho
  simp only [ZF] at ho
  split at ho
  ·rename_i j' w' hg
   split at ho
   ·rename_i hc
    rcases List.mem_cons.1 ho with rfl | ho
    ·exact ⟨by rw [hg,hc.1,hc.2.1],hc.2.2⟩
    ·exact ZqH j w os o' ho
   ·simp at ho
  ·simp at ho
theorem ZKY {d:Option Nat} {v:AVal} {n:Nat} {tm:Tms} (h:d≠some n):tget (tput tm d v) n=tget tm n:=by
 cases d with
 | none=>rfl
 | some d =>
  have : d≠n:=by rintro rfl;exact h rfl
  simp only [tput,Zkm,this,if_false]
theorem ZfD {d:Option Nat} {v:AVal} {j:Nat} {w:Bool} {tm:Tms} (h:d≠some j):Zbr (some (j,w)) (tput tm d v)=Zbr (some (j,w)) tm:=by
 simp only [Zbr,ZKY h]
theorem Zs8:∀ (a b:List AOp) (s:Nat) (tm:Tms) (σ:Za),Zbi O bf (a++b) s tm σ=gK O bf b (s+sitesOf a) (Zbi O bf a s tm σ)
 | [],b,s,tm,σ=>by simp [Ztl,gK,sitesOf]
 | o::a,b,s,tm,σ=>by
  have ih:=Zs8 a b
  simp only [List.cons_append]
  have hs:s+nsite o.ins+sitesOf a=s+sitesOf (o::a):=by simp [sitesOf,Nat.add_assoc]
  cases hst:ZN O bf o s tm σ with
  | none=>rw [Zms hst,Zms hst];rfl
  | some q =>
   obtain ⟨v,tm1,σ1,c⟩:=q
   cases hp:ZaR v with
   | true =>
    obtain ⟨x,rfl⟩:=Zmx hp
    rw [Zo0 hst,Zo0 hst];rfl
   | false=>rw [Zkh hst hp,Zkh hst hp,ih,hs]
theorem Zud (j:Nat) (w:Bool):∀ (g:List AOp),(∀ o ∈ g,o.guard=some (j,w)/\o.dst≠some j)->∀ (s:Nat) (tm:Tms) (σ:Za),g≠[]->Zbi O bf g s tm σ=ZeO O bf j w g s tm σ
 | [],_,_,_,_,h=>absurd rfl h
 | o::g,hall,s,tm,σ,_=>by
  obtain ⟨hg,hd⟩:=hall o (by simp)
  have ih:∀ (tm:Tms) (σ:Za) (s:Nat),Zbr (some (j,w)) tm≠none->Zbi O bf g s tm σ=ZeO O bf j w g s tm σ:=by
   intro tm σ s hw
   by_cases he:g=[]
   ·subst he
    unfold ZeO
    cases hx:Zbr (some (j,w)) tm with
    | none=>exact absurd hx hw
    | some b=>cases b <;> rfl
   ·exact Zud j w g (fun o ho=>hall o (by simp [ho])) s tm σ he
  cases hx:Zbr (some (j,w)) tm with
  | none =>
   rw [Zms (by simp only [ZN,hg,hx])]
   simp only [ZeO,hx]
  | some b =>
   cases b with
   | false =>
    have h1:Zbi O bf (o::g) s tm σ=Zbi O bf g (s+nsite o.ins) (tput tm o.dst (.tup [])) σ :=
     Zkh (v:=.tup []) (c:={}) (by simp only [ZN,hg,hx]) rfl
    rw [h1,ih _ _ _ (by rw [ZfD hd,hx];simp)]
    unfold ZeO
    rw [ZfD hd,hx]
    rfl
   | true =>
    have key:∀ r:Option (AVal×Za×Cls),(∀ v σ' c,r=some (v,σ',c)->ZaR v=false->Zbi O bf g (s+nsite o.ins) (tput tm o.dst v) σ'=Zbi O bf (g.map unG) (s+nsite o.ins) (tput tm o.dst v) σ')->kN O bf o.dst g (s+nsite o.ins) tm r=kN O bf o.dst (g.map unG) (s+nsite o.ins) tm r:=by
     intro r hr
     cases r with
     | none=>rfl
     | some q =>
      obtain ⟨v,σ',c⟩:=q
      cases hp:ZaR v with
      | true=>simp only [kN,hp,if_true]
      | false=>rw [ZoQ _ _ _ _ _ _ _ hp,ZoQ _ _ _ _ _ _ _ hp];exact hr v σ' c rfl hp
    have h1:Zbi O bf (o::g) s tm σ=kN O bf o.dst g (s+nsite o.ins) tm (exI O bf o.ins s tm σ):=by
     have h0:Zbi O bf (o::g) s tm σ=Zbi O bf (⟨o.dst,o.ins,none,o.after⟩::g) s tm σ:=by
      have hst:ZN O bf o s tm σ=ZN O bf ⟨o.dst,o.ins,none,o.after⟩ s tm σ:=by
       unfold ZN
       simp only [hg,hx]
       rfl
      unfold Zbi
      simp only [ZX,hst]
     rw [h0,ZpF]
    rw [h1]
    unfold ZeO
    rw [hx]
    simp only [List.map_cons]
    rw [show unG o=⟨o.dst,o.ins,none,o.after⟩ from rfl,ZpF]
    refine key _ fun v σ' c _ _=>?_
    rw [ih _ _ _ (by rw [ZfD hd,hx];simp)]
    unfold ZeO
    rw [ZfD hd,hx]
theorem ZHv (d:Option Nat) (i:Ins) (j:Nat) (w:Bool) (af:List Nat) (os:List AOp) (s:Nat) (tm:Tms) (σ:Za) (hd:decide (d=some j)=false) :
  Zbi O bf (⟨d,i,some (j,w),af⟩::os) s tm σ=gK O bf (ZF j w os).2 (s+sitesOf (⟨d,i,some (j,w),af⟩::(ZF j w os).1)) (ZeO O bf j w (⟨d,i,some (j,w),af⟩::(ZF j w os).1) s tm σ):=by
 have h:=ZmW j w os
 have hall:∀ o ∈ (⟨d,i,some (j,w),af⟩::(ZF j w os).1:List AOp),o.guard=some (j,w)/\o.dst≠some j:=by
  intro o ho
  rcases List.mem_cons.1 ho with rfl | ho
  ·exact ⟨rfl,by simpa using hd⟩
  ·exact ZqH j w os o ho
 rw [<-Zud j w _ hall s tm σ (by simp),<-Zs8,List.cons_append,h]
variable (O bf) in
def gW (w:Bool) (g:List AOp) (s:Nat) (tm:Tms) (σ:Za):AVal->Option (Tms×Za×Option AVal)
 | .bool b=>if b=w then Zbi O bf (g.map unG) s tm σ else some (Zaw g tm,σ,none)
 | .tup []=>some (Zaw g tm,σ,none)
 | _=>none
theorem ZA5 (j:Nat) (w:Bool) (g:List AOp) (s:Nat) (tm:Tms) (σ:Za):ZeO O bf j w g s tm σ=gW O bf w g s tm σ (tget tm j):=by
 unfold ZeO Zbr
 simp only
 generalize tget tm j=v
 cases v
 case bool b=>cases b <;> cases w <;> rfl
 case tup vs=>cases vs <;> rfl
 all_goals rfl
theorem ZKS (w:Bool) (g:List AOp) (s:Nat) (tm:Tms) (σ:Za) (b:Bool):gW O bf w g s tm σ (.bool b)=if b=w then Zbi O bf (g.map unG) s tm σ else some (Zaw g tm,σ,none):=rfl
theorem ZD6 (w:Bool) (g:List AOp) (s:Nat) (tm:Tms) (σ:Za):gW O bf w g s tm σ (.tup [])=some (Zaw g tm,σ,none):=rfl
theorem ZAM (os:List AOp) (s:Nat) (tm:Tms) (σ:Za):gK O bf os s (some (tm,σ,none))=Zbi O bf os s tm σ:=rfl
end
section
variable (c:Prop) [Decidable c]
theorem Zdt {α:Type} (a b:α) (x y:List α):(if c then a::x else b::y)=(if c then a else b)::(if c then x else y):=by split <;> rfl
theorem ZDk (k:IntKind) (a b:Int):(if c then AVal.int k a else AVal.int k b)=AVal.int k (if c then a else b):=by split <;> rfl
theorem ZB4 (a b:Bool):(if c then AVal.bool a else AVal.bool b)=AVal.bool (if c then a else b):=by split <;> rfl
theorem Zyo (a b:List UInt8):(if c then AVal.str a else AVal.str b)=AVal.str (if c then a else b):=by split <;> rfl
theorem ZOp (p q:Bool) (a b:List AVal):(if c then AVal.lst p a else AVal.lst q b)=AVal.lst (if c then p else q) (if c then a else b):=by split <;> rfl
theorem Zxp (a b:List AVal):(if c then AVal.agg a else AVal.agg b)=AVal.agg (if c then a else b):=by split <;> rfl
theorem ZGI (a b:List AVal):(if c then ZM.var a else ZM.var b)=ZM.var (if c then a else b):=by split <;> rfl
theorem ZPR (g k:Nat) (a b:List AVal):(if c then ZM.row g k a else ZM.row g k b)=ZM.row g k (if c then a else b):=by split <;> rfl
theorem ZJS (t:Nat) (a b:Nat):(if c then AVal.ref t a else AVal.ref t b)=AVal.ref t (if c then a else b):=by split <;> rfl
theorem ZjQ {α:Type} (x y z:α):(if c then (if c then x else y) else z)=if c then x else z:=by split <;> rfl
theorem ZwB {α:Type} (x y z:α):(if c then x else (if c then y else z))=if c then x else z:=by split <;> rfl
theorem ZwJ (σ:Za) (a b:AVal) (p:Bool):ZfO σ a b (.bool p)=some (if p=true then a else b,σ,{}):=by cases p <;> rfl
theorem ZE9 (a b:AVal):ZaR (if c then a else b)=if c then ZaR a else ZaR b:=by split <;> rfl
end
section
variable {fs:Nat->Option ZD} {prim:Zcq} {bf:Nat->Bool} {m0:Nat}
theorem ZOe (p:Bool) (a b:Ze) (tm:Tms) (σ:Za):Zir fs prim bf m0 a b tm σ (.bool p)=if p=true then evC fs prim bf m0 a tm σ else evC fs prim bf m0 b tm σ:=by
 cases p <;> rfl
theorem ZCF (b:Ze) (tm:Tms) (σ:Za):ZbF fs prim bf m0 b (some (.normal,tm,σ))=evC fs prim bf m0 b tm σ:=rfl
theorem ZKs (b:Ze) (i:Nat) (tm:Tms) (σ:Za):ZbF fs prim bf m0 b (some (.exit i,tm,σ))=some (.exit i,tm,σ):=rfl
theorem ZOV (b:Ze) (tm:Tms) (σ:Za):ZbF fs prim bf m0 b (some (.ret,tm,σ))=some (.ret,tm,σ):=rfl
theorem ZJr (b:Ze) (x:AVal) (tm:Tms) (σ:Za):ZbF fs prim bf m0 b (some (.panic x,tm,σ))=some (.panic x,tm,σ):=rfl
theorem ZOc (c:Prop) [Decidable c] (b:Ze) (x y:Option (ZaW×Tms×Za)):ZbF fs prim bf m0 b (if c then x else y)=if c then ZbF fs prim bf m0 b x else ZbF fs prim bf m0 b y:=by split <;> rfl
theorem Zy7 (id:Nat) (tm:Tms) (σ:Za):Option.map (ZaX id) (some (.normal,tm,σ))=some (.normal,tm,σ):=rfl
theorem Zxf (id i:Nat) (tm:Tms) (σ:Za):Option.map (ZaX id) (some (.exit i,tm,σ))=if i=id then some (.normal,tm,σ) else some (.exit i,tm,σ):=by
 simp only [Option.map_some,ZaX];split <;> rfl
theorem ZzR (id:Nat) (tm:Tms) (σ:Za):Option.map (ZaX id) (some (.ret,tm,σ))=some (.ret,tm,σ):=rfl
theorem ZLX (id:Nat) (x:AVal) (tm:Tms) (σ:Za):Option.map (ZaX id) (some (.panic x,tm,σ))=some (.panic x,tm,σ):=rfl
theorem ZyJ (id:Nat) (c:Prop) [Decidable c] (x y:Option (ZaW×Tms×Za)):Option.map (ZaX id) (if c then x else y)=if c then Option.map (ZaX id) x else Option.map (ZaX id) y:=by split <;> rfl
theorem ZC8 (m:Nat) (fn:ZD) (c:Prop) [Decidable c] (x y:Option (ZaW×Tms×Za)):Zat m fn (if c then x else y)=if c then Zat m fn x else Zat m fn y:=by split <;> rfl
end
section
variable {fs:Nat->Option ZD} {prim:Zcq} {bf:Nat->Bool} {m0:Nat}
theorem ZKv {live:List Nat} {c:Ze} {tm tm':Tms} {σ σ':Za} (h:evC fs prim bf m0 c tm σ=some (.normal,tm',σ')):evL fs prim bf m0 live c tm σ=evL fs prim bf m0 live c (gcT m0 (keepL live tm') σ').1 (gcT m0 (keepL live tm') σ').2:=by
 unfold evL
 rw [h]
 simp only
 rw [Zvc]
 rfl
theorem Zy3 {live:List Nat} {c:Ze} {tm tm':Tms} {σ σ':Za} {i:Nat} (h:evC fs prim bf m0 c tm σ=some (.exit i,tm',σ')):evL fs prim bf m0 live c tm σ=some (.exit i,tm',σ'):=by
 unfold evL;rw [h]
theorem ZF5 {live:List Nat} {c:Ze} {tm tm':Tms} {σ σ':Za} (h:evC fs prim bf m0 c tm σ=some (.ret,tm',σ')):evL fs prim bf m0 live c tm σ=some (.ret,tm',σ'):=by
 unfold evL;rw [h]
variable (fs prim bf m0) in
noncomputable def evM (live:List Nat) (c:Ze):Option (ZaW×Tms×Za)->Option (ZaW×Tms×Za)
 | some (.normal,tm,σ)=>evL fs prim bf m0 live c (gcT m0 (keepL live tm) σ).1 (gcT m0 (keepL live tm) σ).2
 | r=>r
theorem Zaa (live:List Nat) (c:Ze) (tm:Tms) (σ:Za):evL fs prim bf m0 live c tm σ=evM fs prim bf m0 live c (evC fs prim bf m0 c tm σ):=by
 cases h:evC fs prim bf m0 c tm σ with
 | none=>unfold evL;rw [h];rfl
 | some q =>
  obtain ⟨e,tm',σ'⟩:=q
  cases e with
  | normal=>exact ZKv h
  | exit i=>exact Zy3 h
  | ret=>exact ZF5 h
  | panic x=>unfold evL;rw [h];rfl
theorem ZOz (live:List Nat) (c:Ze) (tm:Tms) (σ:Za):evM fs prim bf m0 live c (some (.normal,tm,σ))=evL fs prim bf m0 live c (gcT m0 (keepL live tm) σ).1 (gcT m0 (keepL live tm) σ).2:=rfl
theorem ZHG (live:List Nat) (c:Ze) (i:Nat) (tm:Tms) (σ:Za):evM fs prim bf m0 live c (some (.exit i,tm,σ))=some (.exit i,tm,σ):=rfl
theorem ZAe (live:List Nat) (c:Ze) (tm:Tms) (σ:Za):evM fs prim bf m0 live c (some (.ret,tm,σ))=some (.ret,tm,σ):=rfl
theorem ZKK (live:List Nat) (c:Ze) (x:AVal) (tm:Tms) (σ:Za):evM fs prim bf m0 live c (some (.panic x,tm,σ))=some (.panic x,tm,σ):=rfl
theorem ZMa (live:List Nat) (b:Ze) (c:Prop) [Decidable c] (x y:Option (ZaW×Tms×Za)):evM fs prim bf m0 live b (if c then x else y)=if c then evM fs prim bf m0 live b x else evM fs prim bf m0 live b y:=by split <;> rfl
end
def Za5:AVal->Bool
 | .int _ _=>true
 | .bool _=>true
 | .str _=>true
 | .nilp=>true
 | .nilm=>true
 | .nili=>true
 | .lst _ _=>true
 | .fn _ []=>true
 | _=>false
def Z7:AVal->Bool
 | .agg cs=>cs.all Za5
 | x=>Za5 x
def Zbe:AVal->AVal
 | .lst _ xs=>.lst false xs
 | x=>x
def ZG:AVal->AVal
 | .agg cs=>.agg (cs.map Zbe)
 | x=>Zbe x
theorem Zum {σ:Za} {x:AVal} (h:Za5 x=true):ZcW σ x=some (Zbe x,[]):=by
 cases x <;> first | (simp [Za5] at h;done) | rfl
theorem ZsZ {σ:Za}:∀ {xs:List AVal},xs.all Za5=true->ZcD σ xs=some (xs.map Zbe,[])
 | [],_=>rfl
 | x::xs,h=>by
  simp only [List.all_cons,Bool.and_eq_true] at h
  simp only [ZcD,Zum h.1,ZsZ h.2,List.map_cons,List.append_nil]
theorem Zhm {x:AVal} (h:∀ cs,x≠.agg cs):Z7 x=Za5 x/\ZG x=Zbe x:=by
 cases x <;> first | exact ⟨rfl,rfl⟩ | exact absurd rfl (h _)
theorem ZOT {σ:Za} {x:AVal} (h:∀ cs,x≠.agg cs):showA σ x=ZcW σ x:=by
 cases x <;> first | rfl | exact absurd rfl (h _)
theorem Zpr (x:AVal):(∃ cs,x=.agg cs)\/∀ cs,x≠.agg cs:=by
 cases x <;> first | exact Or.inl ⟨_,rfl⟩ | (right;intro cs;simp)
theorem ZNH {σ:Za} {x:AVal} (h:Z7 x=true):showA σ x=some (ZG x,[]):=by
 rcases Zpr x with ⟨cs,rfl⟩ | hn
 ·simp only [Z7] at h
  simp only [showA,ZsZ h,ZG]
 ·rw [(Zhm hn).1] at h
  rw [ZOT hn,(Zhm hn).2]
  exact Zum h
theorem ZdT {σ:Za}:∀ {xs:List AVal},xs.all Z7=true->showAs σ xs=some (xs.map ZG,[])
 | [],_=>rfl
 | x::xs,h=>by
  simp only [List.all_cons,Bool.and_eq_true] at h
  simp only [showAs,ZNH h.1,ZdT h.2,List.map_cons,List.append_nil]
theorem ZsD {x:AVal} (h:Za5 x=true):ZZ (Zbe x)=[]:=by
 cases x
 case fn f cs=>cases cs <;> simp [Za5] at h;rfl
 all_goals first | (simp [Za5] at h;done) | rfl
theorem Zsa:∀ {xs:List AVal},xs.all Za5=true->Zr (xs.map Zbe)=[]
 | [],_=>rfl
 | x::xs,h=>by
  simp only [List.all_cons,Bool.and_eq_true] at h
  simp only [List.map_cons,Zr,ZsD h.1,Zsa h.2,List.append_nil]
theorem ZvL {x:AVal} (h:Z7 x=true):ZZ (ZG x)=[]:=by
 rcases Zpr x with ⟨cs,rfl⟩ | hn
 ·simp only [Z7] at h
  simp only [ZG,ZZ];exact Zsa h
 ·rw [(Zhm hn).1] at h
  rw [(Zhm hn).2];exact ZsD h
theorem Zdu:∀ {xs:List AVal},xs.all Z7=true->Zr (xs.map ZG)=[]
 | [],_=>rfl
 | x::xs,h=>by
  simp only [List.all_cons,Bool.and_eq_true] at h
  simp only [List.map_cons,Zr,ZvL h.1,Zdu h.2,List.append_nil]
theorem ZvO {ρ:Rho} {x:AVal} (h:Za5 x=true):Zl ρ (Zbe x)=Zbe x:=by
 cases x
 case fn f cs=>cases cs <;> simp [Za5] at h;rfl
 all_goals first | (simp [Za5] at h;done) | rfl
theorem ZsN {ρ:Rho}:∀ {xs:List AVal},xs.all Za5=true->Zf ρ (xs.map Zbe)=xs.map Zbe
 | [],_=>rfl
 | x::xs,h=>by
  simp only [List.all_cons,Bool.and_eq_true] at h
  simp only [List.map_cons,Zf,ZvO h.1,ZsN h.2]
theorem ZsM {ρ:Rho} {x:AVal} (h:Z7 x=true):Zl ρ (ZG x)=ZG x:=by
 rcases Zpr x with ⟨cs,rfl⟩ | hn
 ·simp only [Z7] at h
  simp only [ZG,Zl];rw [ZsN h]
 ·rw [(Zhm hn).1] at h
  rw [(Zhm hn).2];exact ZvO h
theorem Zdf {ρ:Rho}:∀ {xs:List AVal},xs.all Z7=true->Zf ρ (xs.map ZG)=xs.map ZG
 | [],_=>rfl
 | x::xs,h=>by
  simp only [List.all_cons,Bool.and_eq_true] at h
  simp only [List.map_cons,Zf,ZsM h.1,Zdf h.2]
theorem Zfo {O:ZO} {bf:Nat->Bool} {σ:Za} {sq f own:Nat} {view:Bool} {args:List AVal} (hb:bf f=false) (h:args.all Z7=true) :
  Zk O bf σ sq f own view args=ZaI σ σ [] [] sq own (Zad view 0 (O f (args.map ZG) [])):=by
 unfold Zk ZbN
 rw [hb]
 simp only [Bool.false_eq_true,if_false,ZdT h]
 have h1:Zo σ []=σ:=rfl
 rw [h1,Zdu h]
 have h2:Zy σ 1000 [] []=[]:=rfl
 rw [h2]
 unfold ZbE
 simp only [List.all_nil,if_true,Zdf h,Zu,List.length_nil]
theorem Zg2 (σ:Za) (sq own:Nat) (r:AVal) (h:Zl (ZaA [] [] sq) r=r):ZaI σ σ [] [] sq own (some (r,[]))=some (r,σ,{}):=by
 simp only [ZaI,List.isEmpty_nil,Bool.and_self,if_true,Zds,Bool.not_true,Bool.false_and,Bool.false_eq_true,if_false]
 split
 ·rfl
 ·rw [h]
end
section
section
variable (ρ:Rho) (σ:Za)
theorem ZDd  : ZaR (.top)=false:=rfl
theorem ZFc  : ZaR (.any)=false:=rfl
theorem ZA3 (k:IntKind) (n:Int):ZaR (.int k n)=false:=rfl
theorem ZEB (b:Bool):ZaR (.bool b)=false:=rfl
theorem ZGe (l:List UInt8):ZaR (.str l)=false:=rfl
theorem Zy8  : ZaR (.nilp)=false:=rfl
theorem ZEa (t:Nat) (o:Nat):ZaR (.ref t o)=false:=rfl
theorem ZEP (t:Nat) (g:Nat) (i:Nat) (o:Nat):ZaR (.eref t g i o)=false:=rfl
theorem ZMD (cs:List AVal) (o:Nat):ZaR (.iptr cs o)=false:=rfl
theorem ZNq (x:Bool) (xs:List AVal):ZaR (.lst x xs)=false:=rfl
theorem ZMN (t:Nat) (g:Nat) (lo:Nat) (n:Nat):ZaR (.sl t g lo n)=false:=rfl
theorem ZKo (cs:List AVal):ZaR (.agg cs)=false:=rfl
theorem ZAL (vs:List AVal):ZaR (.tup vs)=false:=rfl
theorem ZOS (f:Nat) (caps:List AVal):ZaR (.fn f caps)=false:=rfl
theorem ZEr  : ZaR (.nilm)=false:=rfl
theorem ZPN (t:Nat):ZaR (.map t)=false:=rfl
theorem ZGb  : ZaR (.nili)=false:=rfl
theorem ZHK (t:Nat) (x:AVal):ZaR (.iface t x)=false:=rfl
theorem ZHZ (x:AVal):ZaR (.pan x)=true:=rfl
theorem ZBF  : ZR (.top)=false:=rfl
theorem Zxw  : ZR (.any)=true:=rfl
theorem ZKD (k:IntKind) (n:Int):ZR (.int k n)=true:=rfl
theorem ZNF (b:Bool):ZR (.bool b)=true:=rfl
theorem ZGE (l:List UInt8):ZR (.str l)=true:=rfl
theorem ZCG  : ZR (.nilp)=true:=rfl
theorem ZNO (t:Nat) (o:Nat):ZR (.ref t o)=true:=rfl
theorem ZFm (t:Nat) (g:Nat) (i:Nat) (o:Nat):ZR (.eref t g i o)=true:=rfl
theorem ZPQ (cs:List AVal) (o:Nat):ZR (.iptr cs o)=true:=rfl
theorem ZCq (x:Bool) (xs:List AVal):ZR (.lst x xs)=true:=rfl
theorem ZBB (t:Nat) (g:Nat) (lo:Nat) (n:Nat):ZR (.sl t g lo n)=true:=rfl
theorem ZGh (cs:List AVal):ZR (.agg cs)=false:=rfl
theorem ZB6 (vs:List AVal):ZR (.tup vs)=false:=rfl
theorem ZOi (f:Nat) (caps:List AVal):ZR (.fn f caps)=true:=rfl
theorem ZIM  : ZR (.nilm)=true:=rfl
theorem ZPb (t:Nat):ZR (.map t)=true:=rfl
theorem Zym  : ZR (.nili)=true:=rfl
theorem ZzG (t:Nat) (x:AVal):ZR (.iface t x)=true:=rfl
theorem ZxR (x:AVal):ZR (.pan x)=false:=rfl
theorem Zzk  : ZaS (.top)=false:=rfl
theorem ZO7  : ZaS (.any)=true:=rfl
theorem ZPz (k:IntKind) (n:Int):ZaS (.int k n)=true:=rfl
theorem ZCK (b:Bool):ZaS (.bool b)=true:=rfl
theorem ZEA (l:List UInt8):ZaS (.str l)=true:=rfl
theorem ZBf  : ZaS (.nilp)=true:=rfl
theorem ZKb (t:Nat) (o:Nat):ZaS (.ref t o)=true:=rfl
theorem ZO8 (t:Nat) (g:Nat) (i:Nat) (o:Nat):ZaS (.eref t g i o)=true:=rfl
theorem ZCc (cs:List AVal) (o:Nat):ZaS (.iptr cs o)=true:=rfl
theorem ZFz (x:Bool) (xs:List AVal):ZaS (.lst x xs)=true:=rfl
theorem ZwI (t:Nat) (g:Nat) (lo:Nat) (n:Nat):ZaS (.sl t g lo n)=true:=rfl
theorem ZAT (cs:List AVal):ZaS (.agg cs)=true:=rfl
theorem ZOl (vs:List AVal):ZaS (.tup vs)=true:=rfl
theorem ZAy (f:Nat) (caps:List AVal):ZaS (.fn f caps)=true:=rfl
theorem ZEb  : ZaS (.nilm)=true:=rfl
theorem ZOB (t:Nat):ZaS (.map t)=true:=rfl
theorem ZyU  : ZaS (.nili)=true:=rfl
theorem Zyt (t:Nat) (x:AVal):ZaS (.iface t x)=true:=rfl
theorem ZAR (x:AVal):ZaS (.pan x)=true:=rfl
theorem ZGg  : ZaY (.top)=false:=rfl
theorem ZwM  : ZaY (.any)=false:=rfl
theorem ZEv (k:IntKind) (n:Int):ZaY (.int k n)=true:=rfl
theorem ZHI (b:Bool):ZaY (.bool b)=true:=rfl
theorem ZEI (l:List UInt8):ZaY (.str l)=true:=rfl
theorem ZDl  : ZaY (.nilp)=true:=rfl
theorem ZFo (t:Nat) (o:Nat):ZaY (.ref t o)=false:=rfl
theorem ZKp (t:Nat) (g:Nat) (i:Nat) (o:Nat):ZaY (.eref t g i o)=false:=rfl
theorem ZLv (cs:List AVal) (o:Nat):ZaY (.iptr cs o)=false:=rfl
theorem ZCM (x:Bool) (xs:List AVal):ZaY (.lst x xs)=false:=rfl
theorem ZJa (t:Nat) (g:Nat) (lo:Nat) (n:Nat):ZaY (.sl t g lo n)=false:=rfl
theorem Zyx (cs:List AVal):ZaY (.agg cs)=false:=rfl
theorem Zx9 (vs:List AVal):ZaY (.tup vs)=false:=rfl
theorem ZCu (f:Nat) (caps:List AVal):ZaY (.fn f caps)=false:=rfl
theorem ZE6  : ZaY (.nilm)=true:=rfl
theorem ZLa (t:Nat):ZaY (.map t)=false:=rfl
theorem Zz7  : ZaY (.nili)=true:=rfl
theorem ZOH (t:Nat) (x:AVal):ZaY (.iface t x)=false:=rfl
theorem ZKI (x:AVal):ZaY (.pan x)=false:=rfl
theorem ZES  : Zbs (.top)=false:=rfl
theorem ZD0  : Zbs (.any)=false:=rfl
theorem ZxN (k:IntKind) (n:Int):Zbs (.int k n)=true:=rfl
theorem ZzY (b:Bool):Zbs (.bool b)=true:=rfl
theorem ZEz (l:List UInt8):Zbs (.str l)=true:=rfl
theorem ZOM  : Zbs (.nilp)=true:=rfl
theorem ZLZ (t:Nat) (o:Nat):Zbs (.ref t o)=false:=rfl
theorem ZJQ (t:Nat) (g:Nat) (i:Nat) (o:Nat):Zbs (.eref t g i o)=false:=rfl
theorem ZFD (cs:List AVal) (o:Nat):Zbs (.iptr cs o)=false:=rfl
theorem ZIf (x:Bool) (xs:List AVal):Zbs (.lst x xs)=false:=rfl
theorem Zxj (t:Nat) (g:Nat) (lo:Nat) (n:Nat):Zbs (.sl t g lo n)=false:=rfl
theorem ZIn (cs:List AVal):Zbs (.agg cs)=cs.all ZaY:=rfl
theorem ZFb (vs:List AVal):Zbs (.tup vs)=false:=rfl
theorem ZGH (f:Nat) (caps:List AVal):Zbs (.fn f caps)=false:=rfl
theorem ZCP  : Zbs (.nilm)=true:=rfl
theorem ZGk (t:Nat):Zbs (.map t)=false:=rfl
theorem ZGf  : Zbs (.nili)=true:=rfl
theorem ZAJ (t:Nat) (x:AVal):Zbs (.iface t x)=false:=rfl
theorem ZHD (x:AVal):Zbs (.pan x)=false:=rfl
theorem ZC9  : ZbC (.top)=false:=rfl
theorem ZA0  : ZbC (.any)=false:=rfl
theorem ZEx (k:IntKind) (n:Int):ZbC (.int k n)=true:=rfl
theorem ZGp (b:Bool):ZbC (.bool b)=true:=rfl
theorem ZHt (l:List UInt8):ZbC (.str l)=true:=rfl
theorem ZNR  : ZbC (.nilp)=true:=rfl
theorem ZKZ (t:Nat) (o:Nat):ZbC (.ref t o)=false:=rfl
theorem ZHB (t:Nat) (g:Nat) (i:Nat) (o:Nat):ZbC (.eref t g i o)=false:=rfl
theorem Zxs (cs:List AVal) (o:Nat):ZbC (.iptr cs o)=false:=rfl
theorem ZDu (x:Bool) (xs:List AVal):ZbC (.lst x xs)=false:=rfl
theorem ZL7 (t:Nat) (g:Nat) (lo:Nat) (n:Nat):ZbC (.sl t g lo n)=false:=rfl
theorem ZG7 (cs:List AVal):ZbC (.agg cs)=cs.all ZaY:=rfl
theorem ZFu (vs:List AVal):ZbC (.tup vs)=vs.all Zbs:=rfl
theorem ZKL (f:Nat) (caps:List AVal):ZbC (.fn f caps)=false:=rfl
theorem ZOd  : ZbC (.nilm)=true:=rfl
theorem ZKW (t:Nat):ZbC (.map t)=false:=rfl
theorem ZB9  : ZbC (.nili)=true:=rfl
theorem ZAI (t:Nat) (x:AVal):ZbC (.iface t x)=false:=rfl
theorem Zx7  : Za5 (.top)=false:=rfl
theorem ZB8  : Za5 (.any)=false:=rfl
theorem Zwk (k:IntKind) (n:Int):Za5 (.int k n)=true:=rfl
theorem ZHh (b:Bool):Za5 (.bool b)=true:=rfl
theorem Ztz (l:List UInt8):Za5 (.str l)=true:=rfl
theorem ZzQ  : Za5 (.nilp)=true:=rfl
theorem ZKn (t:Nat) (o:Nat):Za5 (.ref t o)=false:=rfl
theorem ZKu (t:Nat) (g:Nat) (i:Nat) (o:Nat):Za5 (.eref t g i o)=false:=rfl
theorem Zzo (cs:List AVal) (o:Nat):Za5 (.iptr cs o)=false:=rfl
theorem Zuh (x:Bool) (xs:List AVal):Za5 (.lst x xs)=true:=rfl
theorem ZLu (t:Nat) (g:Nat) (lo:Nat) (n:Nat):Za5 (.sl t g lo n)=false:=rfl
theorem ZMR (cs:List AVal):Za5 (.agg cs)=false:=rfl
theorem ZAY (vs:List AVal):Za5 (.tup vs)=false:=rfl
theorem ZMw  : Za5 (.nilm)=true:=rfl
theorem ZLG (t:Nat):Za5 (.map t)=false:=rfl
theorem ZJf  : Za5 (.nili)=true:=rfl
theorem ZLH (t:Nat) (x:AVal):Za5 (.iface t x)=false:=rfl
theorem ZIb (x:AVal):Za5 (.pan x)=false:=rfl
theorem ZHy  : Z7 (.top)=false:=rfl
theorem Zzs  : Z7 (.any)=false:=rfl
theorem Zyc (k:IntKind) (n:Int):Z7 (.int k n)=true:=rfl
theorem ZEd (b:Bool):Z7 (.bool b)=true:=rfl
theorem ZCN (l:List UInt8):Z7 (.str l)=true:=rfl
theorem ZPe  : Z7 (.nilp)=true:=rfl
theorem ZDK (t:Nat) (o:Nat):Z7 (.ref t o)=false:=rfl
theorem ZzZ (t:Nat) (g:Nat) (i:Nat) (o:Nat):Z7 (.eref t g i o)=false:=rfl
theorem ZEj (cs:List AVal) (o:Nat):Z7 (.iptr cs o)=false:=rfl
theorem ZLx (x:Bool) (xs:List AVal):Z7 (.lst x xs)=true:=rfl
theorem ZPG (t:Nat) (g:Nat) (lo:Nat) (n:Nat):Z7 (.sl t g lo n)=false:=rfl
theorem Ztw (cs:List AVal):Z7 (.agg cs)=cs.all Za5:=rfl
theorem ZNW (vs:List AVal):Z7 (.tup vs)=false:=rfl
theorem Zzp  : Z7 (.nilm)=true:=rfl
theorem Zz3 (t:Nat):Z7 (.map t)=false:=rfl
theorem ZMt  : Z7 (.nili)=true:=rfl
theorem ZzL (t:Nat) (x:AVal):Z7 (.iface t x)=false:=rfl
theorem Zxg (x:AVal):Z7 (.pan x)=false:=rfl
theorem ZDZ  : Zbe (.top)=(.top):=rfl
theorem ZMi  : Zbe (.any)=(.any):=rfl
theorem Zwy (k:IntKind) (n:Int):Zbe (.int k n)=(.int k n):=rfl
theorem ZxM (b:Bool):Zbe (.bool b)=(.bool b):=rfl
theorem Zrm (l:List UInt8):Zbe (.str l)=(.str l):=rfl
theorem ZwP  : Zbe (.nilp)=(.nilp):=rfl
theorem ZBG (t:Nat) (o:Nat):Zbe (.ref t o)=(.ref t o):=rfl
theorem ZFW (t:Nat) (g:Nat) (i:Nat) (o:Nat):Zbe (.eref t g i o)=(.eref t g i o):=rfl
theorem ZK4 (cs:List AVal) (o:Nat):Zbe (.iptr cs o)=(.iptr cs o):=rfl
theorem ZvP (x:Bool) (xs:List AVal):Zbe (.lst x xs)=.lst false xs:=rfl
theorem ZAz (t:Nat) (g:Nat) (lo:Nat) (n:Nat):Zbe (.sl t g lo n)=(.sl t g lo n):=rfl
theorem ZNu (cs:List AVal):Zbe (.agg cs)=(.agg cs):=rfl
theorem ZPB (vs:List AVal):Zbe (.tup vs)=(.tup vs):=rfl
theorem ZKC (f:Nat) (caps:List AVal):Zbe (.fn f caps)=(.fn f caps):=rfl
theorem ZHw  : Zbe (.nilm)=(.nilm):=rfl
theorem ZDC (t:Nat):Zbe (.map t)=(.map t):=rfl
theorem ZBn  : Zbe (.nili)=(.nili):=rfl
theorem ZKN (t:Nat) (x:AVal):Zbe (.iface t x)=(.iface t x):=rfl
theorem ZCJ (x:AVal):Zbe (.pan x)=(.pan x):=rfl
theorem ZGN  : ZG (.top)=(.top):=rfl
theorem ZHa  : ZG (.any)=(.any):=rfl
theorem ZOZ (k:IntKind) (n:Int):ZG (.int k n)=(.int k n):=rfl
theorem ZJo (b:Bool):ZG (.bool b)=(.bool b):=rfl
theorem ZK9 (l:List UInt8):ZG (.str l)=(.str l):=rfl
theorem Zyf  : ZG (.nilp)=(.nilp):=rfl
theorem ZJN (t:Nat) (o:Nat):ZG (.ref t o)=(.ref t o):=rfl
theorem ZHE (t:Nat) (g:Nat) (i:Nat) (o:Nat):ZG (.eref t g i o)=(.eref t g i o):=rfl
theorem ZJd (cs:List AVal) (o:Nat):ZG (.iptr cs o)=(.iptr cs o):=rfl
theorem ZzI (x:Bool) (xs:List AVal):ZG (.lst x xs)=.lst false xs:=rfl
theorem ZzH (t:Nat) (g:Nat) (lo:Nat) (n:Nat):ZG (.sl t g lo n)=(.sl t g lo n):=rfl
theorem ZwF (cs:List AVal):ZG (.agg cs)=.agg (cs.map Zbe):=rfl
theorem ZD4 (vs:List AVal):ZG (.tup vs)=(.tup vs):=rfl
theorem ZD7 (f:Nat) (caps:List AVal):ZG (.fn f caps)=(.fn f caps):=rfl
theorem ZH3  : ZG (.nilm)=(.nilm):=rfl
theorem ZKF (t:Nat):ZG (.map t)=(.map t):=rfl
theorem ZIw  : ZG (.nili)=(.nili):=rfl
theorem ZJF (t:Nat) (x:AVal):ZG (.iface t x)=(.iface t x):=rfl
theorem ZHF (x:AVal):ZG (.pan x)=(.pan x):=rfl
theorem ZAu  : AVal.cells (.top)=[(.top)]:=rfl
theorem ZNc  : AVal.cells (.any)=[(.any)]:=rfl
theorem ZED (k:IntKind) (n:Int):AVal.cells (.int k n)=[(.int k n)]:=rfl
theorem ZHT (b:Bool):AVal.cells (.bool b)=[(.bool b)]:=rfl
theorem ZLI (l:List UInt8):AVal.cells (.str l)=[(.str l)]:=rfl
theorem ZNI  : AVal.cells (.nilp)=[(.nilp)]:=rfl
theorem ZIZ (t:Nat) (o:Nat):AVal.cells (.ref t o)=[(.ref t o)]:=rfl
theorem Zzu (t:Nat) (g:Nat) (i:Nat) (o:Nat):AVal.cells (.eref t g i o)=[(.eref t g i o)]:=rfl
theorem ZJh (cs:List AVal) (o:Nat):AVal.cells (.iptr cs o)=[(.iptr cs o)]:=rfl
theorem ZFj (x:Bool) (xs:List AVal):AVal.cells (.lst x xs)=[(.lst x xs)]:=rfl
theorem ZJx (t:Nat) (g:Nat) (lo:Nat) (n:Nat):AVal.cells (.sl t g lo n)=[(.sl t g lo n)]:=rfl
theorem Zxn (cs:List AVal):AVal.cells (.agg cs)=cs:=rfl
theorem ZO4 (vs:List AVal):AVal.cells (.tup vs)=[(.tup vs)]:=rfl
theorem ZBJ (f:Nat) (caps:List AVal):AVal.cells (.fn f caps)=[(.fn f caps)]:=rfl
theorem ZCC  : AVal.cells (.nilm)=[(.nilm)]:=rfl
theorem ZGG (t:Nat):AVal.cells (.map t)=[(.map t)]:=rfl
theorem ZKl  : AVal.cells (.nili)=[(.nili)]:=rfl
theorem ZAl (t:Nat) (x:AVal):AVal.cells (.iface t x)=[(.iface t x)]:=rfl
theorem ZIP (x:AVal):AVal.cells (.pan x)=[(.pan x)]:=rfl
theorem ZOI  : ZaT (.top)=(.top):=rfl
theorem Zyy  : ZaT (.any)=(.any):=rfl
theorem ZB3 (k:IntKind) (n:Int):ZaT (.int k n)=(.int k n):=rfl
theorem Zzl (b:Bool):ZaT (.bool b)=(.bool b):=rfl
theorem Zyi (l:List UInt8):ZaT (.str l)=(.str l):=rfl
theorem ZLE  : ZaT (.nilp)=(.nilp):=rfl
theorem ZO1 (t:Nat) (o:Nat):ZaT (.ref t o)=(.ref t o):=rfl
theorem ZGC (t:Nat) (g:Nat) (i:Nat) (o:Nat):ZaT (.eref t g i o)=(.eref t g i o):=rfl
theorem ZDc (cs:List AVal) (o:Nat):ZaT (.iptr cs o)=(.iptr cs o):=rfl
theorem ZP0 (x:Bool) (xs:List AVal):ZaT (.lst x xs)=(.lst x xs):=rfl
theorem Zy2 (t:Nat) (g:Nat) (lo:Nat) (n:Nat):ZaT (.sl t g lo n)=(.sl t g lo n):=rfl
theorem ZEF (cs:List AVal):ZaT (.agg cs)=(.agg cs):=rfl
theorem ZFT (vs:List AVal):ZaT (.tup vs)=(.tup vs):=rfl
theorem ZHz (f:Nat) (caps:List AVal):ZaT (.fn f caps)=(.fn f caps):=rfl
theorem Zyu  : ZaT (.nilm)=(.nilm):=rfl
theorem ZL3 (t:Nat):ZaT (.map t)=(.map t):=rfl
theorem ZBW  : ZaT (.nili)=(.nili):=rfl
theorem ZN7 (t:Nat) (x:AVal):ZaT (.iface t x)=(.iface t x):=rfl
theorem ZFS (x:AVal):ZaT (.pan x)=x:=rfl
theorem ZJW  : Zbc (.top)=4:=rfl
theorem ZLb  : Zbc (.any)=4:=rfl
theorem ZIW (k:IntKind) (n:Int):Zbc (.int k n)=0:=rfl
theorem ZOm (b:Bool):Zbc (.bool b)=1:=rfl
theorem ZDe (l:List UInt8):Zbc (.str l)=2:=rfl
theorem ZAq  : Zbc (.nilp)=4:=rfl
theorem ZIr (t:Nat) (o:Nat):Zbc (.ref t o)=4:=rfl
theorem ZKa (t:Nat) (g:Nat) (i:Nat) (o:Nat):Zbc (.eref t g i o)=4:=rfl
theorem ZzU (cs:List AVal) (o:Nat):Zbc (.iptr cs o)=4:=rfl
theorem ZHk (x:Bool) (xs:List AVal):Zbc (.lst x xs)=4:=rfl
theorem ZO6 (t:Nat) (g:Nat) (lo:Nat) (n:Nat):Zbc (.sl t g lo n)=4:=rfl
theorem ZGZ (cs:List AVal):Zbc (.agg cs)=4:=rfl
theorem Zxr (vs:List AVal):Zbc (.tup vs)=4:=rfl
theorem ZxX (f:Nat) (caps:List AVal):Zbc (.fn f caps)=4:=rfl
theorem ZOX  : Zbc (.nilm)=4:=rfl
theorem ZO2 (t:Nat):Zbc (.map t)=4:=rfl
theorem ZEU  : Zbc (.nili)=4:=rfl
theorem ZDR (t:Nat) (x:AVal):Zbc (.iface t x)=4:=rfl
theorem ZMP (x:AVal):Zbc (.pan x)=4:=rfl
theorem Zxe  : ZZ (.top)=[]:=rfl
theorem Zxk  : ZZ (.any)=[]:=rfl
theorem ZLC (k:IntKind) (n:Int):ZZ (.int k n)=[]:=rfl
theorem ZGW (b:Bool):ZZ (.bool b)=[]:=rfl
theorem ZDE (l:List UInt8):ZZ (.str l)=[]:=rfl
theorem ZNX  : ZZ (.nilp)=[]:=rfl
theorem Zzc (t:Nat) (o:Nat):ZZ (.ref t o)=[t]:=rfl
theorem ZIB (t:Nat) (g:Nat) (i:Nat) (o:Nat):ZZ (.eref t g i o)=[t]:=rfl
theorem ZBP (cs:List AVal) (o:Nat):ZZ (.iptr cs o)=[]:=rfl
theorem ZIk (x:Bool) (xs:List AVal):ZZ (.lst x xs)=[]:=rfl
theorem ZKA (t:Nat) (g:Nat) (lo:Nat) (n:Nat):ZZ (.sl t g lo n)=[t]:=rfl
theorem ZyK (cs:List AVal):ZZ (.agg cs)=Zr cs:=rfl
theorem Zzz (vs:List AVal):ZZ (.tup vs)=Zr vs:=rfl
theorem ZNx (f:Nat) (caps:List AVal):ZZ (.fn f caps)=Zr caps:=rfl
theorem Zzg  : ZZ (.nilm)=[]:=rfl
theorem ZFf (t:Nat):ZZ (.map t)=[t]:=rfl
theorem ZzA  : ZZ (.nili)=[]:=rfl
theorem ZAC (t:Nat) (x:AVal):ZZ (.iface t x)=ZZ x:=rfl
theorem ZNi (x:AVal):ZZ (.pan x)=ZZ x:=rfl
theorem ZDf  : Zl ρ (.top)=(.top):=rfl
theorem ZNQ  : Zl ρ (.any)=(.any):=rfl
theorem ZMX (k:IntKind) (n:Int):Zl ρ (.int k n)=(.int k n):=rfl
theorem ZPy (b:Bool):Zl ρ (.bool b)=(.bool b):=rfl
theorem ZAw (l:List UInt8):Zl ρ (.str l)=(.str l):=rfl
theorem ZzD  : Zl ρ (.nilp)=(.nilp):=rfl
theorem ZMA (cs:List AVal) (o:Nat):Zl ρ (.iptr cs o)=(.iptr cs o):=rfl
theorem ZLS (x:Bool) (xs:List AVal):Zl ρ (.lst x xs)=(.lst x xs):=rfl
theorem ZIe (cs:List AVal):Zl ρ (.agg cs)=.agg (Zf ρ cs):=rfl
theorem ZM4 (vs:List AVal):Zl ρ (.tup vs)=.tup (Zf ρ vs):=rfl
theorem ZKz (f:Nat) (caps:List AVal):Zl ρ (.fn f caps)=.fn f (Zf ρ caps):=rfl
theorem ZM3  : Zl ρ (.nilm)=(.nilm):=rfl
theorem ZMx  : Zl ρ (.nili)=(.nili):=rfl
theorem Zyn (t:Nat) (x:AVal):Zl ρ (.iface t x)=.iface t (Zl ρ x):=rfl
theorem ZwH (x:AVal):Zl ρ (.pan x)=.pan (Zl ρ x):=rfl
theorem ZPE (f:Nat):Za5 (.fn f [])=true:=rfl
theorem ZMg (f:Nat):Z7 (.fn f [])=true:=rfl
theorem ZGB (t:Nat) (x:AVal):ZbC (.pan (.iface t x))=ZaY x:=rfl
theorem ZBZ (live:List Nat) (tm:Tms):Zlh live (some (tm,σ,none))=some (.normal,keepL live tm,σ):=rfl
theorem Zx8 (live:List Nat) (tm:Tms) (x:AVal):Zlh live (some (tm,σ,some x))=some (.panic x,[],σ):=rfl
theorem ZDo (live:List Nat):Zlh live none=none:=rfl
theorem ZDq (t o:Nat):Zl ρ (.ref t o)=(match ρ t 0 with | some (t',0)=>.ref t' o | _=>.any):=rfl
theorem ZOt (t:Nat):Zl ρ (.map t)=(match ρ t 0 with | some (t',0)=>.map t' | _=>.any):=rfl
theorem ZNh (t g lo n:Nat):Zl ρ (.sl t g lo n)=(match ρ t g with | some (t',g')=>.sl t' g' lo n | none=>.any):=rfl
theorem ZwT (t g i o:Nat):Zl ρ (.eref t g i o)=(match ρ t g with | some (t',g')=>.eref t' g' i o | none=>.any):=rfl
theorem ZCd:Zr []=[]:=rfl
theorem ZLm (x:AVal) (xs:List AVal):Zr (x::xs)=ZZ x++Zr xs:=rfl
theorem ZDG:Zf ρ []=[]:=rfl
theorem ZFh (x:AVal) (xs:List AVal):Zf ρ (x::xs)=Zl ρ x::Zf ρ xs:=rfl
end
end
section
mutual
def ZK:AVal->Bool
 | .ref _ _=>false
 | .eref _ _ _ _=>false
 | .sl _ _ _ _=>false
 | .map _=>false
 | .agg cs=>Zd cs
 | .tup vs=>Zd vs
 | .fn _ vs=>Zd vs
 | .iface _ x=>ZK x
 | .pan x=>ZK x
 | .top=>true
 | .any=>true
 | .int _ _=>true
 | .bool _=>true
 | .str _=>true
 | .nilp=>true
 | .nilm=>true
 | .nili=>true
 | .iptr _ _=>true
 | .lst _ _=>true
def Zd:List AVal->Bool
 | []=>true
 | x::xs=>ZK x && Zd xs
end
mutual
theorem Za8 (ρ:Rho):∀ (x:AVal),ZK x=true->Zl ρ x=x/\ZZ x=[]
 | .ref _ _,h=>by simp [ZK] at h
 | .eref _ _ _ _,h=>by simp [ZK] at h
 | .sl _ _ _ _,h=>by simp [ZK] at h
 | .map _,h=>by simp [ZK] at h
 | .agg cs,h=>by have:=ZaV ρ cs (by simpa only [ZK] using h);exact ⟨by simp only [Zl,this.1],by simp only [ZZ,this.2]⟩
 | .tup cs,h=>by have:=ZaV ρ cs (by simpa only [ZK] using h);exact ⟨by simp only [Zl,this.1],by simp only [ZZ,this.2]⟩
 | .fn f cs,h=>by have:=ZaV ρ cs (by simpa only [ZK] using h);exact ⟨by simp only [Zl,this.1],by simp only [ZZ,this.2]⟩
 | .iface t x,h=>by have:=Za8 ρ x (by simpa only [ZK] using h);exact ⟨by simp only [Zl,this.1],by simp only [ZZ,this.2]⟩
 | .pan x,h=>by have:=Za8 ρ x (by simpa only [ZK] using h);exact ⟨by simp only [Zl,this.1],by simp only [ZZ,this.2]⟩
 | .top,_=>⟨rfl,rfl⟩
 | .any,_=>⟨rfl,rfl⟩
 | .int _ _,_=>⟨rfl,rfl⟩
 | .bool _,_=>⟨rfl,rfl⟩
 | .str _,_=>⟨rfl,rfl⟩
 | .nilp,_=>⟨rfl,rfl⟩
 | .nilm,_=>⟨rfl,rfl⟩
 | .nili,_=>⟨rfl,rfl⟩
 | .iptr _ _,_=>⟨rfl,rfl⟩
 | .lst _ _,_=>⟨rfl,rfl⟩
theorem ZaV (ρ:Rho):∀ (xs:List AVal),Zd xs=true->Zf ρ xs=xs/\Zr xs=[]
 | [],_=>⟨rfl,rfl⟩
 | x::xs,h=>by
  simp only [Zd,Bool.and_eq_true] at h
  have h1:=Za8 ρ x h.1
  have h2:=ZaV ρ xs h.2
  exact ⟨by simp only [Zf,h1.1,h2.1],by simp only [Zr,h1.2,h2.2,List.append_nil]⟩
end
theorem ZtT {σ:Za} {r:AVal} (h:ZK r=true):Zam 0 σ r=some (r,[]):=by
 have h1:=Za8 (Zn σ 0 []) r h
 have hids:ZA 0 [r] σ=[]:=by
  unfold ZA
  simp only [Zr,h1.2,List.append_nil,List.range_zero,List.flatMap_nil]
  rfl
 unfold Zam gcA
 simp only [hids,Zf,Zu,h1.1]
def Zb9:AVal->AVal
 | .tup vs=>.tup (vs.map ZG)
 | x=>ZG x
def Zb8:AVal->Bool
 | .tup vs=>vs.all Z7
 | x=>Z7 x
def ZbJ:AVal->Bool
 | .fn _ _=>false
 | _=>true
def ZbQ:AVal->Bool
 | .agg cs=>cs.all ZbJ
 | x=>ZbJ x
def Zb7:AVal->Bool
 | .tup vs=>vs.all ZbQ
 | x=>ZbQ x
theorem ZNC {k g n:Nat} {xs:List AVal} {σ:Za} {t:Nat} (hs:σ[t]?=some (.row g k xs)) (hn:n<=xs.length):Zbn 0 (some (.sl t g 0 n,σ))=some (.lst false (xs.take n),[]):=by
 have hv:viewR σ (.sl t g 0 n)=some (.lst false (xs.take n),[t]):=by
  simp only [viewR,ZL,ZI,ZU,hs,Nat.zero_add,hn,and_self,if_true,List.drop_zero]
 have e:Zbn 0 (some (.sl t g 0 n,σ))=(match viewR σ (.sl t g 0 n) with
  | some (r',ts)=>match gcA 0 [r'] (Zo σ ts) with
   | ([r''],σ')=>some (r'',σ')
   | _=>none
  | none=>none):=rfl
 rw [e,hv]
 exact ZtT rfl
theorem ZMM {m:Nat} {fn:ZD} {tm:Tms} {σ:Za}:Zat m fn (some (.ret,tm,σ))=match resA tm σ fn.res with
  | some r=>Zam m σ r
  | none=>none:=rfl
theorem ZGw {m:Nat} {fn:ZD} {tm:Tms} {σ:Za}:Zat m fn (some (.normal,tm,σ))=match resA tm σ fn.res with
  | some r=>Zam m σ r
  | none=>none:=rfl
theorem ZE5 {m:Nat} {fn:ZD} {tm:Tms} {σ:Za} {x:AVal}:Zat m fn (some (.panic x,tm,σ))=Zam m σ (.pan x):=rfl
theorem ZBl  : ZK (.top)=true:=rfl
theorem ZxB  : ZK (.any)=true:=rfl
theorem ZMr (k:IntKind) (n:Int):ZK (.int k n)=true:=rfl
theorem ZKE (b:Bool):ZK (.bool b)=true:=rfl
theorem ZIt (l:List UInt8):ZK (.str l)=true:=rfl
theorem Zzw  : ZK (.nilp)=true:=rfl
theorem ZxW (t:Nat) (o:Nat):ZK (.ref t o)=false:=rfl
theorem ZFX (t:Nat) (g:Nat) (i:Nat) (o:Nat):ZK (.eref t g i o)=false:=rfl
theorem ZCV (cs:List AVal) (o:Nat):ZK (.iptr cs o)=true:=rfl
theorem ZCo (x:Bool) (xs:List AVal):ZK (.lst x xs)=true:=rfl
theorem ZA8 (t:Nat) (g:Nat) (lo:Nat) (n:Nat):ZK (.sl t g lo n)=false:=rfl
theorem ZJ1 (cs:List AVal):ZK (.agg cs)=Zd cs:=rfl
theorem Zyd (vs:List AVal):ZK (.tup vs)=Zd vs:=rfl
theorem ZOg (f:Nat) (caps:List AVal):ZK (.fn f caps)=Zd caps:=rfl
theorem ZOG  : ZK (.nilm)=true:=rfl
theorem Zxh (t:Nat):ZK (.map t)=false:=rfl
theorem ZLg  : ZK (.nili)=true:=rfl
theorem ZIq (t:Nat) (x:AVal):ZK (.iface t x)=ZK x:=rfl
theorem Zxa (x:AVal):ZK (.pan x)=ZK x:=rfl
theorem Zxb  : ZbJ (.top)=true:=rfl
theorem ZDW  : ZbJ (.any)=true:=rfl
theorem ZGt (k:IntKind) (n:Int):ZbJ (.int k n)=true:=rfl
theorem Zx0 (b:Bool):ZbJ (.bool b)=true:=rfl
theorem ZDb (l:List UInt8):ZbJ (.str l)=true:=rfl
theorem ZHC  : ZbJ (.nilp)=true:=rfl
theorem ZG0 (t:Nat) (o:Nat):ZbJ (.ref t o)=true:=rfl
theorem ZPC (t:Nat) (g:Nat) (i:Nat) (o:Nat):ZbJ (.eref t g i o)=true:=rfl
theorem ZJs (cs:List AVal) (o:Nat):ZbJ (.iptr cs o)=true:=rfl
theorem ZCS (x:Bool) (xs:List AVal):ZbJ (.lst x xs)=true:=rfl
theorem ZPs (t:Nat) (g:Nat) (lo:Nat) (n:Nat):ZbJ (.sl t g lo n)=true:=rfl
theorem ZBo (cs:List AVal):ZbJ (.agg cs)=true:=rfl
theorem ZFg (vs:List AVal):ZbJ (.tup vs)=true:=rfl
theorem Zz8 (f:Nat) (caps:List AVal):ZbJ (.fn f caps)=false:=rfl
theorem ZFB  : ZbJ (.nilm)=true:=rfl
theorem ZJg (t:Nat):ZbJ (.map t)=true:=rfl
theorem ZwV  : ZbJ (.nili)=true:=rfl
theorem ZMO (t:Nat) (x:AVal):ZbJ (.iface t x)=true:=rfl
theorem ZB2 (x:AVal):ZbJ (.pan x)=true:=rfl
theorem ZH7  : ZbQ (.top)=true:=rfl
theorem ZEC  : ZbQ (.any)=true:=rfl
theorem ZHo (k:IntKind) (n:Int):ZbQ (.int k n)=true:=rfl
theorem ZMk (b:Bool):ZbQ (.bool b)=true:=rfl
theorem ZIm (l:List UInt8):ZbQ (.str l)=true:=rfl
theorem ZDJ  : ZbQ (.nilp)=true:=rfl
theorem ZPt (t:Nat) (o:Nat):ZbQ (.ref t o)=true:=rfl
theorem ZHU (t:Nat) (g:Nat) (i:Nat) (o:Nat):ZbQ (.eref t g i o)=true:=rfl
theorem ZPc (cs:List AVal) (o:Nat):ZbQ (.iptr cs o)=true:=rfl
theorem ZMC (x:Bool) (xs:List AVal):ZbQ (.lst x xs)=true:=rfl
theorem ZPg (t:Nat) (g:Nat) (lo:Nat) (n:Nat):ZbQ (.sl t g lo n)=true:=rfl
theorem ZMo (cs:List AVal):ZbQ (.agg cs)=cs.all ZbJ:=rfl
theorem Zzr (vs:List AVal):ZbQ (.tup vs)=true:=rfl
theorem ZAA (f:Nat) (caps:List AVal):ZbQ (.fn f caps)=false:=rfl
theorem ZHx  : ZbQ (.nilm)=true:=rfl
theorem ZHY (t:Nat):ZbQ (.map t)=true:=rfl
theorem Zze  : ZbQ (.nili)=true:=rfl
theorem ZEH (t:Nat) (x:AVal):ZbQ (.iface t x)=true:=rfl
theorem ZPh (x:AVal):ZbQ (.pan x)=true:=rfl
theorem ZI2  : Zb7 (.top)=true:=rfl
theorem ZDT  : Zb7 (.any)=true:=rfl
theorem ZAE (k:IntKind) (n:Int):Zb7 (.int k n)=true:=rfl
theorem ZPF (b:Bool):Zb7 (.bool b)=true:=rfl
theorem Zx3 (l:List UInt8):Zb7 (.str l)=true:=rfl
theorem ZOn  : Zb7 (.nilp)=true:=rfl
theorem ZBA (t:Nat) (o:Nat):Zb7 (.ref t o)=true:=rfl
theorem ZCR (t:Nat) (g:Nat) (i:Nat) (o:Nat):Zb7 (.eref t g i o)=true:=rfl
theorem ZFR (cs:List AVal) (o:Nat):Zb7 (.iptr cs o)=true:=rfl
theorem ZBz (x:Bool) (xs:List AVal):Zb7 (.lst x xs)=true:=rfl
theorem ZDr (t:Nat) (g:Nat) (lo:Nat) (n:Nat):Zb7 (.sl t g lo n)=true:=rfl
theorem ZOD (cs:List AVal):Zb7 (.agg cs)=cs.all ZbJ:=rfl
theorem ZPH (vs:List AVal):Zb7 (.tup vs)=vs.all ZbQ:=rfl
theorem ZBq (f:Nat) (caps:List AVal):Zb7 (.fn f caps)=false:=rfl
theorem ZKU  : Zb7 (.nilm)=true:=rfl
theorem ZGr (t:Nat):Zb7 (.map t)=true:=rfl
theorem ZNk  : Zb7 (.nili)=true:=rfl
theorem ZLy (t:Nat) (x:AVal):Zb7 (.iface t x)=true:=rfl
theorem ZGu (x:AVal):Zb7 (.pan x)=true:=rfl
theorem ZAZ  : Zb8 (.top)=false:=rfl
theorem ZMV  : Zb8 (.any)=false:=rfl
theorem Zyk (k:IntKind) (n:Int):Zb8 (.int k n)=true:=rfl
theorem ZI6 (b:Bool):Zb8 (.bool b)=true:=rfl
theorem ZMG (l:List UInt8):Zb8 (.str l)=true:=rfl
theorem ZA2  : Zb8 (.nilp)=true:=rfl
theorem ZyV (t:Nat) (o:Nat):Zb8 (.ref t o)=false:=rfl
theorem ZJq (t:Nat) (g:Nat) (i:Nat) (o:Nat):Zb8 (.eref t g i o)=false:=rfl
theorem ZFd (cs:List AVal) (o:Nat):Zb8 (.iptr cs o)=false:=rfl
theorem ZAk (x:Bool) (xs:List AVal):Zb8 (.lst x xs)=true:=rfl
theorem ZAU (t:Nat) (g:Nat) (lo:Nat) (n:Nat):Zb8 (.sl t g lo n)=false:=rfl
theorem ZFr (cs:List AVal):Zb8 (.agg cs)=cs.all Za5:=rfl
theorem ZLK (vs:List AVal):Zb8 (.tup vs)=vs.all Z7:=rfl
theorem ZHi  : Zb8 (.nilm)=true:=rfl
theorem ZC6 (t:Nat):Zb8 (.map t)=false:=rfl
theorem ZCH  : Zb8 (.nili)=true:=rfl
theorem ZxO (t:Nat) (x:AVal):Zb8 (.iface t x)=false:=rfl
theorem ZHc (x:AVal):Zb8 (.pan x)=false:=rfl
theorem ZzW  : Zb9 (.top)=(.top):=rfl
theorem ZFp  : Zb9 (.any)=(.any):=rfl
theorem ZFQ (k:IntKind) (n:Int):Zb9 (.int k n)=(.int k n):=rfl
theorem ZM0 (b:Bool):Zb9 (.bool b)=(.bool b):=rfl
theorem ZII (l:List UInt8):Zb9 (.str l)=(.str l):=rfl
theorem ZLA  : Zb9 (.nilp)=(.nilp):=rfl
theorem ZDA (t:Nat) (o:Nat):Zb9 (.ref t o)=(.ref t o):=rfl
theorem ZAP (t:Nat) (g:Nat) (i:Nat) (o:Nat):Zb9 (.eref t g i o)=(.eref t g i o):=rfl
theorem ZyF (cs:List AVal) (o:Nat):Zb9 (.iptr cs o)=(.iptr cs o):=rfl
theorem ZMu (x:Bool) (xs:List AVal):Zb9 (.lst x xs)=.lst false xs:=rfl
theorem ZyT (t:Nat) (g:Nat) (lo:Nat) (n:Nat):Zb9 (.sl t g lo n)=(.sl t g lo n):=rfl
theorem ZAd (cs:List AVal):Zb9 (.agg cs)=.agg (cs.map Zbe):=rfl
theorem ZxK (vs:List AVal):Zb9 (.tup vs)=.tup (vs.map ZG):=rfl
theorem ZJ0 (f:Nat) (caps:List AVal):Zb9 (.fn f caps)=(.fn f caps):=rfl
theorem ZNM  : Zb9 (.nilm)=(.nilm):=rfl
theorem Zw9 (t:Nat):Zb9 (.map t)=(.map t):=rfl
theorem ZE8  : Zb9 (.nili)=(.nili):=rfl
theorem ZyS (t:Nat) (x:AVal):Zb9 (.iface t x)=(.iface t x):=rfl
theorem ZFH (x:AVal):Zb9 (.pan x)=(.pan x):=rfl
theorem ZNt:Zd []=true:=rfl
theorem ZFY (x:AVal) (xs:List AVal):Zd (x::xs)=(ZK x && Zd xs):=rfl
theorem ZLN (f:Nat):Zb8 (.fn f [])=true:=rfl
theorem Zx1 (p q:Bool):(if p=true then q else false)=(p && q):=by cases p <;> rfl
theorem ZPW (p q:Bool):(if p=true then true else q)=(p || q):=by cases p <;> rfl
theorem ZKf (p q:Bool):(if p=true then false else q)=(!p && q):=by cases p <;> rfl
theorem ZON (p q:Bool):(if p=true then q else true)=(!p || q):=by cases p <;> rfl
theorem ZHS (p q:Bool):(if p=false then q else false)=(!p && q):=by cases p <;> rfl
theorem ZHr (p q:Bool):(if p=false then true else q)=(!p || q):=by cases p <;> rfl
theorem ZOO (p q:Bool):(if p=false then false else q)=(p && q):=by cases p <;> rfl
theorem ZLt (p q:Bool):(if p=false then q else true)=(p || q):=by cases p <;> rfl
section
def ZeD (o:AOp):AOp:=⟨o.dst,o.ins,o.guard,[]⟩
def Zcz:Ze->Ze
 | .region ops chk live=>.region (ops.map ZeD) chk live
 | .seq a b=>.seq (Zcz a) (Zcz b)
 | .cond c a b=>.cond c (Zcz a) (Zcz b)
 | .block id c=>.block id (Zcz c)
 | .loop live c=>.loop live (Zcz c)
 | .skip=>.skip
 | .exit id=>.exit id
 | .ret=>.ret
 | .stuck=>.stuck
def ZlG (f:ZD):ZD:=⟨f.res,Zcz f.body⟩
section
variable {O:ZO} {bf:Nat->Bool}
theorem ZGF (o:AOp) (s:Nat) (tm:Tms) (σ:Za):ZN O bf (ZeD o) s tm σ=ZN O bf o s tm σ:=rfl
theorem ZuN:∀ (ops:List AOp) (s:Nat) (tm:Tms) (σ:Za),ZX O bf (ops.map ZeD) s tm σ=ZX O bf ops s tm σ
 | [],_,_,_=>rfl
 | o::os,s,tm,σ=>by
  simp only [List.map_cons,ZX,ZGF]
  split
  ·rfl
  ·rfl
  ·rename_i tm' σ' c _ _
   rw [show (ZeD o).ins=o.ins from rfl,ZuN os]
theorem Zpm (ops:List AOp):sitesOf (ops.map ZeD)=sitesOf ops:=by
 simp [sitesOf,ZeD,Function.comp_def]
theorem ZlF (ops:List AOp) (i:Nat):((ops.map ZeD).getD i default).ins=(ops.getD i default).ins:=by
 simp only [List.getD_eq_getElem?_getD,List.getElem?_map]
 cases ops[i]? <;> rfl
theorem ZEZ (ops:List AOp) (b:Nat) (l:List (Nat×Nat)) (cs:List Cls):Zdg (ops.map ZeD) b l cs=Zdg ops b l cs:=by
 unfold Zdg
 congr 1
 funext p
 unfold Zct Zb6
 rw [ZlF,ZlF,<-List.map_take,Zpm]
theorem ZAF (ops:List AOp) (b:Nat) (l:List (Nat×Nat)) (cs:List Cls):Zdq (ops.map ZeD) b l cs=Zdq ops b l cs:=by
 unfold Zdq
 congr 2
 funext p
 unfold Zct Zb6
 rw [ZlF,ZlF,<-List.map_take,Zpm]
theorem ZLn (ops:List AOp) (chk:Option (List (Nat×Nat))) (live:List Nat) (tm:Tms) (σ:Za):ZbU O bf (ops.map ZeD) chk live tm σ=ZbU O bf ops chk live tm σ:=by
 unfold ZbU
 rw [ZuN,Zpm]
 cases ZX O bf ops σ.length tm (σ++List.replicate (sitesOf ops) .free) with
 | none=>rfl
 | some q =>
  obtain ⟨tm',σ',cs,p⟩:=q
  cases p with
  | some x =>
   cases chk with
   | none=>rfl
   | some l=>simp only [ZcY,ZAF]
  | none =>
   cases chk with
   | none=>rfl
   | some l=>simp only [ZcY,ZEZ]
theorem Zec (m n:Nat):∀ (c:Ze),Z5 O bf m n (Zcz c)=Z5 O bf m n c
 | .region ops chk live=>by funext tm σ;simp only [Zcz,Z5,ZLn]
 | .seq a b=>by funext tm σ;simp only [Zcz,Z5,Zec m n a,Zec m n b]
 | .cond c a b=>by funext tm σ;simp only [Zcz,Z5,Zec m n a,Zec m n b]
 | .block id c=>by funext tm σ;simp only [Zcz,Z5,Zec m n c]
 | .loop live c=>by funext tm σ;simp only [Zcz,Z5,Zec m n c]
 | .skip=>rfl
 | .exit id=>rfl
 | .ret=>rfl
 | .stuck=>rfl
end
theorem Zrk (fs:Nat->Option ZD) (prim:Zcq) (bf:Nat->Bool):∀ n,Zau (fun f=>(fs f).map ZlG) prim bf n=Zau fs prim bf n
 | 0=>rfl
 | n+1=>by
  funext f args σ
  simp only [Zau,Zrk fs prim bf n]
  cases prim f with
  | some g=>rfl
  | none =>
   cases fs f with
   | none=>rfl
   | some fn =>
    simp only [Option.map_some,ZlG,Zec]
    rfl
theorem ZOr (fs:Nat->Option ZD) (prim:Zcq) (bf:Nat->Bool):EV (fun f=>(fs f).map ZlG) prim bf=EV fs prim bf:=by
 funext f args σ
 apply Zfc
 intro r
 rw [Zdo,Zdo]
 simp only [Zrk]
end
end
section
open Go.RowKit
def ZiN:List AVal->Za->Option (AVal×Za):=fun _ _=>none
theorem ZvS {α:Prop} {args:List AVal} {σ:Za} {r:AVal×Za} (h:ZiN args σ=some r):α:=by cases h
def ZhT (k bytes:Nat) (args:List AVal) (σ:Za):Option (AVal×Za):=match args with
 | [.str _]=>none
 | [a]=>match ZU σ a with
  | some (xs,_)=>if xs.length*bytes<=140737488355328/\kOk k xs=true then some (.sl σ.length 0 0 xs.length,σ++[.row 0 k xs]) else none
  | none=>none
 | _=>none
def ZeP:Ann:={ nt:=8,lr:=fun _=>[7,6,5,4,3,2,0] }
structure Znt (P:Program) (t:TypeId) (k bytes:Nat) (z:AVal) (f:FuncId):Prop where
 ex:∃ (F:Func) (e:TypeId) (i0 i1 i2 i3:Nat) (r0 r2 r3:Array Oper) (m b:Oper),
  P.funcs[f]?=some F/\F.results=#[.tmp 2]/\F.ntmps=8/\(F.name == "runtime.NumGoroutine")=false/\P.underlying t=some (.slice e) /\
  F.body=some (.seq (.region i0 r0 false) (.seq (.seq (.region i1 #[m,b] false) (.cond (.tmp 4) (.seq (.region i2 r2 false) .ret) .skip)) (.seq (.region i3 r3 false) .ret))) /\
  m.op=.move (.tmp 0)/\m.dst=some 3/\m.guard=none/\b.op=.binOp .eql t (.tmp 3) (.const (.slice none 0 0)) t/\b.dst=some 4/\b.guard=none /\
  Zdr P ZeP r0 r0.toList=some [⟨some 2,.mov (.c (.lst true [])),none,[]⟩] /\
  Zdr P ZeP r2 r2.toList=some [⟨some 2,.mov (.c (.lst true [])),none,[]⟩] /\
  (∃ a1 a2 a3 a4,Zdr P ZeP r3 r3.toList=some [⟨some 5,.bslice false k 0 z [],none,a1⟩,⟨some 6,.mov (.t 0),none,a2⟩,⟨some 7,.app k bytes z (.t 5) (.t 6),none,a3⟩,⟨some 2,.mov (.t 7),none,a4⟩])/\z.cells.length=k/\0 < k
section
variable {P:Program} {base:Nat->Prop} {w0 w w':World} {I0 I:Imm} {β:Bmap} {σ:Za}
theorem noO:ZaE P (fun _ _ _=>none):=by intro f args σ r σ' h;cases h
theorem ZeF {ops:Array Oper} {Q:Exit->Act->World->Prop} {o:Oper} {l:List Oper} {a:Act} {w:World} (hg:o.guard=none) (h:o.wp P a w (wpList P ops Q l) Q):wpList P ops Q (o::l) a w:=by
 unfold wpList
 have : Region.wanted o (yielded ops a.tmps)=true:=by unfold Region.wanted;rw [hg]
 rw [this]
 simp only [if_true]
 exact Or.inl h
theorem ZvW {t : TypeId} {k bytes : Nat} {z : AVal} {f : FuncId} (hm : P.follows .mixedOrders = true) (C : Znt P t k bytes z f) {args : List AVal} {σ σ' : Za} {r : AVal} (h : ZhT k bytes args σ = some (r, σ')) :
    (∃ fn, P.funcs[f]? = some fn /\ fn.body.isSome = true /\ (fn.name == "runtime.NumGoroutine") = false) /\
    ∀ base w0 I0 I β w (vs : Array Value), KLt base w0 -> Rel base w0 I0 I β σ w -> VRs I β args vs.toList ->
      Calls P f vs w (fun e w' => ∃ u, Ends r e u /\ ZbS σ.length base w0 I0 I β r σ' u w') := by
  obtain ⟨F, e, i0, i1, i2, i3, r0, r2, r3, m, b, hF, hres, hnt, hname, hu, hbody, hm1, hm2, hm3, hb1, hb2, hb3, hc0, hc2, ⟨a1, a2, a3, a4, hc3⟩, hzk, hk0⟩ := C.ex
  refine ⟨⟨F, hF, by rw [hbody]; rfl, hname⟩, ?_⟩
  intro base w0 I0 I β w vs hb R hargs
  unfold ZhT at h
  split at h
  case h_1 => cases h
  case h_3 => cases h
  rename_i a hns
  split at h
  case h_2 => cases h
  rename_i xs ts hel0
  split at h
  case isFalse => cases h
  rename_i hc
  obtain ⟨hbytes, hkOk⟩ := hc
  simp only [Option.some.injEq, Prod.mk.injEq] at h
  obtain ⟨rfl, rfl⟩ := h
  have hnt8 : ∀ (n : Nat), n < 8 -> n < ZeP.nt := fun n h => h
  refine calls_of_wp hF hbody ?_
  have hsz : vs.size = 1 := by have := ZaO hargs; simpa using this.symm
  have T := ZoO hargs (F.ntmps - vs.size)
  have hst : StR ZbK 8 base w0 I0 I β (enterA 0 [a] []) σ { tmps := vs ++ Array.replicate (F.ntmps - vs.size) undef, defers := [] } w := ⟨I, β, Imm.le.refl I, Bmap.le.refl β, T, ⟨Zfk.2 rfl, by simp; omega⟩, R⟩
  have fin : ∀ {tm : Tms} {σ1 : Za} {y : AVal} {a' : Act} {w1 : World}, StR ZbK 8 base w0 I0 I β tm σ1 a' w1 -> tget tm 2 = y -> (∀ I' β' u, I.le I' -> β.le β' -> Rel base w0 I0 I' β' σ1 w1 -> VR I' β' y u -> ZbS σ.length base w0 I0 I β (.sl σ.length 0 0 xs.length) (σ ++ [.row 0 k xs]) u w1) ->
      a'.defers = [] /\ ∃ v, (results F a'.tmps).run P w1 = .ok v w1 /\ ∃ u, Ends (.sl σ.length 0 0 xs.length) (.returned v) u /\ ZbS σ.length base w0 I0 I β (.sl σ.length 0 0 xs.length) (σ ++ [.row 0 k xs]) u w1 := by
    rintro tm σ1 y a' w1 ⟨I', β', h1, h2, h3, h4, h5⟩ hy hpost
    refine ⟨Zfk.1 h4.1, a'.tmps.getD 2 undef, by simp [results, hres], _, rfl, ?_⟩
    have := h3 2
    rw [hy] at this
    exact hpost I' β' _ h1 h2 h5 this
  have R0 : ZaU P ZeP (.region i0 r0 false) = .region [⟨some 2, .mov (.c (.lst true [])), none, []⟩] none [7, 6, 5, 4, 3, 2, 0] := by simp only [ZaU]; rw [hc0]; rfl
  have R2 : ZaU P ZeP (.region i2 r2 false) = .region [⟨some 2, .mov (.c (.lst true [])), none, []⟩] none [7, 6, 5, 4, 3, 2, 0] := by simp only [ZaU]; rw [hc2]; rfl
  have R3 : ZaU P ZeP (.region i3 r3 false) = .region [⟨some 5, .bslice false k 0 z [], none, a1⟩, ⟨some 6, .mov (.t 0), none, a2⟩, ⟨some 7, .app k bytes z (.t 5) (.t 6), none, a3⟩, ⟨some 2, .mov (.t 7), none, a4⟩] none [7, 6, 5, 4, 3, 2, 0] := by simp only [ZaU]; rw [hc3]; rfl
  refine wp_seq ?_
  refine Zls (an := ZeP) (dr := ZbK) (bf := fun _ => false) noO (fun n hn => by simp [ZbK] at hn) hm hb R0 hst (e := .normal) (tm' := keepL [7, 6, 5, 4, 3, 2, 0] [(2, .lst true []), (0, a)]) (σ' := σ) ?_ ?_
  . simp [ZbU, ZcY, sitesOf, nsite, ZX, ZN, Zbr, execI, Opd.ev, tput, tins, enterA]
  intro a1' w1 hst1
  simp only [Exit.then]
  refine wp_seq (wp_seq ?_)
  refine wp_region_list ?_
  refine ZeF hm3 ?_
  obtain ⟨I1, β1, g1, g2, g3, g4, g5⟩ := hst1
  have hs8 : 8 <= a1'.tmps.size := g4.2
  have hT0 : VR I1 β1 a (a1'.tmps.getD 0 undef) := by have := g3 0; simpa [keepL, tget] using this
  obtain ⟨A, cap, hv0, q1, q2, q5, q4⟩ := Zqk g5 (fun l e => hns l e) hel0 hT0
  show m.wp P a1' w1 _ _
  unfold Oper.wp
  have e1 : (execOp a1'.eval m).run P w1 = .ok (.value (.slice A xs.length cap)) w1 := by
    unfold execOp; rw [hm1]; simp [Act.eval, hv0]
  rw [e1, Oper.upon_value, hm2]
  refine ZeF hb3 ?_
  unfold Oper.wp
  have hs3 : (a1'.put (some 3) (.slice A xs.length cap)).tmps.getD 3 undef = .slice A xs.length cap := by
    have : 3 < a1'.tmps.size := by omega
    simp [Act.put, Array.getD, this]
  have e2 : (execOp (a1'.put (some 3) (.slice A xs.length cap)).eval b).run P w1 = .ok (.value (.bool A.isNone)) w1 := by
    have hq : (Op.equal t (.slice A xs.length cap) (.slice none 0 0)).run P w1 = .ok A.isNone w1 := run_equal_slice_nil w1 t e A xs.length cap hu
    unfold execOp; rw [hb1]
    simp only [Act.eval]
    rw [hs3]
    simp [eqGuard, binOp, hq]
  rw [e2, Oper.upon_value, hb2]
  refine wpList_nil ?_
  have hst2 : StR ZbK 8 base w0 I0 I β [(4, .bool A.isNone), (2, .lst true []), (0, a)] σ ((a1'.put (some 3) (.slice A xs.length cap)).put (some 4) (.bool A.isNone)) w1 := by
    refine ⟨I1, β1, g1, g2, fun n => ?_, ⟨ZkU (ZkU g4.1 (fun n _ hm => by simp [ZbK] at hm)) (fun n _ hm => by simp [ZbK] at hm), by rw [Zer, Zer]; exact g4.2⟩, g5⟩
    have hs : 4 < (a1'.put (some 3) (.slice A xs.length cap)).tmps.size := by rw [Zer]; omega
    have ne : ∀ {a : Act} {d j : Nat} {u : Value}, d ≠ j -> (a.put (some d) u).tmps.getD j undef = a.tmps.getD j undef := by
      intro a d j u hne
      simp only [Act.put, Array.getD_eq_getD_getElem?]; rw [Array.getElem?_setIfInBounds_ne hne]
    simp only [tget]
    split
    . rename_i e; subst e
      rw [show ((a1'.put (some 3) (.slice A xs.length cap)).put (some 4) (.bool A.isNone)).tmps.getD 4 undef = .bool A.isNone by
        simp only [Act.put] at hs ⊢
        simp [Array.getD] at hs ⊢
        omega]
      simp only [VR]
    . split
      . rename_i e; subst e
        rw [ne (by omega), ne (by omega)]
        have := g3 2; simpa [keepL, tget] using this
      . split
        . rename_i e; subst e
          rw [ne (by omega), ne (by omega)]
          have := g3 0; simpa [keepL, tget] using this
        . simp only [VR]
  simp only [Exit.then]
  cases hA : A.isNone with
  | true =>
    have hx0 : xs = [] := by
      rcases q4 with h | ⟨b, off, k', us, e, _⟩
      . exact h
      . rw [e] at hA; cases hA
    subst hx0
    have hev : ((a1'.put (some 3) (.slice A 0 cap)).put (some 4) (.bool A.isNone)).eval (.tmp 4) = .bool true := by
      obtain ⟨_, _, _, _, T, _, _⟩ := hst2
      have := T 4
      simp only [tget, if_true, VR] at this
      rw [hA] at this
      simpa [Act.eval, hA] using this
    refine wp_cond_true (by simpa [hA] using hev) ?_
    refine wp_seq ?_
    rw [hA] at hst2
    refine Zls (an := ZeP) (dr := ZbK) (bf := fun _ => false) noO (fun n hn => by simp [ZbK] at hn) hm hb R2 hst2 (e := .normal) (tm' := keepL [7, 6, 5, 4, 3, 2, 0] [(4, .bool true), (2, .lst true []), (0, a)]) (σ' := σ) ?_ ?_
    . simp [ZbU, ZcY, sitesOf, nsite, ZX, ZN, Zbr, execI, Opd.ev, tput, tins]
    intro a3' w3 hst3
    simp only [Exit.then]
    refine wp_ret ?_
    refine fin hst3 (y := .lst true []) (by simp [keepL, tget]) ?_
    intro I' β' u h1 h2 h3 h4
    simp only [VR] at h4
    obtain ⟨A', cap', rfl, _, _, hx, _⟩ := h4
    have hcap : cap' = 0 := by simpa using hx
    subst hcap
    have R4 := h3.reserve 1
    have hfree : (σ ++ List.replicate 1 ZM.free)[σ.length]? = some .free := by simp
    obtain ⟨R5, hle⟩ := R4.newNone hfree k hk0
    refine ⟨I', _, h1, KeptE.of_le (h2.trans hle), ?_, ?_⟩
    . have : (σ ++ List.replicate 1 ZM.free).set σ.length (.row 0 k []) = σ ++ [.row 0 k []] := by simp
      rw [this] at R5; exact R5
    . simp only [ZaT]
      rw [Zb0]
      exact ⟨_, Bmap.put_same β' σ.length 0 _, by simp, by simp, Or.inr ⟨rfl, rfl, A', rfl⟩⟩
  | false =>
    have hev : ((a1'.put (some 3) (.slice A xs.length cap)).put (some 4) (.bool A.isNone)).eval (.tmp 4) = .bool false := by
      obtain ⟨_, _, _, _, T, _, _⟩ := hst2
      have := T 4
      simp only [tget, if_true, VR] at this
      rw [hA] at this
      simpa [Act.eval, hA] using this
    refine wp_cond_false (by simpa [hA] using hev) ?_
    refine wp_skip ?_
    rw [hA] at hst2
    simp only [Exit.then]
    refine wp_seq ?_
    have hel : ZU (σ ++ [ZM.free]) a = some (xs, ts) := Zgv hel0 (fun t ht => by
      obtain ⟨g, k, ys, h | h⟩ := ZkZ hel0 t ht <;> (rw [List.getElem?_append_left (List.getElem?_eq_some_iff.1 h).1]))
    refine Zls (an := ZeP) (dr := ZbK) (bf := fun _ => false) noO (fun n hn => by simp [ZbK] at hn) hm hb R3 hst2 (e := .normal) (tm' := keepL [7, 6, 5, 4, 3, 2, 0] [(7, .sl σ.length 0 0 xs.length), (6, a), (5, .lst true []), (4, .bool false), (2, .sl σ.length 0 0 xs.length), (0, a)]) (σ' := σ ++ [.row 0 k xs]) ?_ ?_
    . have hfa : freeAt (σ ++ [ZM.free]) σ.length = true := by simp [freeAt]
      have hnp : (∃ x ys, a = .lst x ys) \/ ∃ t g lo n, a = .sl t g lo n := by
        cases a with
        | lst x ys => exact Or.inl ⟨x, ys, rfl⟩
        | sl t g lo n => exact Or.inr ⟨t, g, lo, n, rfl⟩
        | str l => exact absurd rfl (hns l)
        | _ => simp [ZU] at hel0
      rcases hnp with ⟨x, ys, rfl⟩ | ⟨t', g', lo, n, rfl⟩
      . simp [ZbU, ZcY, sitesOf, nsite, ZX, ZN, Zbr, execI, Opd.ev, tput, tins, tget, viewAs, Zo, hzk, ZaF, hel, hkOk, hbytes, hfa]
      . simp [ZbU, ZcY, sitesOf, nsite, ZX, ZN, Zbr, execI, Opd.ev, tput, tins, tget, viewAs, Zo, hzk, ZaF, hel, hkOk, hbytes, hfa]
    intro a3' w3 hst3
    simp only [Exit.then]
    refine wp_ret ?_
    refine fin hst3 (y := .sl σ.length 0 0 xs.length) (by simp [keepL, tget]) ?_
    intro I' β' u h1 h2 h3 h4
    exact ⟨I', β', h1, KeptE.of_le h2, h3, h4⟩
end
end
section
open Go.RowKit
def ZoL (args:List AVal) (σ:Za):Option (AVal×Za):=match args with
 | [.str l]=>some (.bool (Lib.validD l),σ)
 | _=>none
def Zlo (args:List AVal) (σ:Za):Option (AVal×Za):=match args with
 | [.str l,.int .u8 c]=>some (.int .i64 (Lib.indexByte l c.toNat.toUInt8),σ)
 | _=>none
section
variable {P:Program} {base:Nat->Prop} {w0 w w':World} {I0 I:Imm} {β:Bmap} {σ:Za}
theorem ZrT {f:Nat} (hf:∃ fn,P.funcs[f]?=some fn/\fn.body.isSome=true/\(fn.name == "runtime.NumGoroutine")=false) {args:List AVal} {r:AVal} {u:Value} (hn:∀ x,r≠.pan x) (hr:∀ I β,VR I β r u)
  (h:∀ base w0 I0 I β w (vs:Array Value),Rel base w0 I0 I β σ w->VRs I β args vs.toList->Calls P f vs w (fun e w'=>e=.returned u/\Below w.heap.size w w')) :
  (∃ fn,P.funcs[f]?=some fn/\fn.body.isSome=true/\(fn.name == "runtime.NumGoroutine")=false) /\
  ∀ base w0 I0 I β w (vs:Array Value),KLt base w0->Rel base w0 I0 I β σ w->VRs I β args vs.toList ->
   Calls P f vs w (fun e w'=>∃ u,Ends r e u/\ZbS σ.length base w0 I0 I β r σ u w'):=by
 refine ⟨hf,fun base w0 I0 I β w vs hb R hv=>(h base w0 I0 I β w vs R hv).mono ?_⟩
 rintro e w' ⟨rfl,hB⟩
 have hbw:=R.base_le hb
 refine ⟨u,?_,I,β,Imm.le.refl I,KeptE.refl _ β,R.stay (Imm.le.refl I) ⟨hB.os,hB.tape,hB.output,hB.size,fun k hk=>hB.block k (hbw k hk)⟩ (fun _ _ _=>rfl) ?_ ?_,by rw [ZfC hn];exact hr I β⟩
 ·cases r <;> first | rfl | exact absurd rfl (hn _)
 ·intro b o x hx
  have h1:=R.imm b o x hx
  have hlt:=Zef h1
  rw [<-h1]
  simp only [World.cell?,hB.block b hlt]
 ·intro t x b hx hb'
  exact ⟨hB.block b ((R.blk t x hx).owns_lt hb'),(R.own t x b hx hb').2⟩
theorem ZrP {f:Nat} (hf:∃ fn,P.funcs[f]?=some fn/\fn.body.isSome=true/\(fn.name == "runtime.NumGoroutine")=false)
  (hc:∀ (s:ByteArray) (c:Int) (w:World),Calls P f #[.string s,.int .u8 c] w fun e w'=>e=.returned (.int .i64 (Lib.indexByte s.data.toList c.toNat.toUInt8))/\w'=w) {args:List AVal} {σ σ':Za} {r:AVal} (h:Zlo args σ=some (r,σ')) :
  (∃ fn,P.funcs[f]?=some fn/\fn.body.isSome=true/\(fn.name == "runtime.NumGoroutine")=false) /\
  ∀ base w0 I0 I β w (vs:Array Value),KLt base w0->Rel base w0 I0 I β σ w->VRs I β args vs.toList ->
   Calls P f vs w (fun e w'=>∃ u,Ends r e u/\ZbS σ.length base w0 I0 I β r σ' u w'):=by
 unfold Zlo at h
 split at h
 case h_2=>cases h
 rename_i l c
 simp only [Option.some.injEq,Prod.mk.injEq] at h
 obtain ⟨rfl,rfl⟩:=h
 refine ZrT hf (u:=.int .i64 (Lib.indexByte l c.toNat.toUInt8)) (by simp) (fun _ _=>by simp only [VR]) ?_
 intro base w0 I0 I β w vs R hv
 obtain ⟨vs⟩:=vs
 simp only [VRs,VR] at hv
 obtain ⟨v1,r1,e1,⟨rfl,_⟩,v2,r2,rfl,rfl,rfl⟩:=hv
 subst e1
 refine (hc ⟨l.toArray⟩ c w).mono ?_
 rintro e w' ⟨rfl,rfl⟩
 exact ⟨by simp,Below.refl _ _⟩
theorem ZPu (R:Rel base w0 I0 I β σ w):Lib.Utf8Tabs 1 2 w:=by
 refine ⟨fun c hc=>R.imm _ _ _ (R.glob _ _ _ (by simp [Gl,hc])),fun i hi=>⟨R.imm _ _ _ (R.glob _ _ _ ?_),R.imm _ _ _ (R.glob _ _ _ ?_)⟩⟩
 ·have h1:2*i < 32:=by omega
  have h2:2*i % 2=0:=by omega
  have h3:2*i / 2=i:=by omega
  simp [Gl,h1,h3]
 ·have h1:2*i+1 < 32:=by omega
  have h2:(2*i+1) % 2=1:=by omega
  have h3:(2*i+1) / 2=i:=by omega
  simp [Gl,h1,h2,h3]
theorem ZOb {f:Nat} (hf:∃ fn,P.funcs[f]?=some fn/\fn.body.isSome=true/\(fn.name == "runtime.NumGoroutine")=false)
  (hc:∀ (s:ByteArray) (w:World),s.size<=9223372036854775807->Lib.Utf8Tabs 1 2 w->Calls P f #[.string s] w fun e w'=>e=.returned (.bool (Lib.validD s.data.toList))/\Below w.heap.size w w') {args:List AVal} {σ σ':Za} {r:AVal} (h:ZoL args σ=some (r,σ')) :
  (∃ fn,P.funcs[f]?=some fn/\fn.body.isSome=true/\(fn.name == "runtime.NumGoroutine")=false) /\
  ∀ base w0 I0 I β w (vs:Array Value),KLt base w0->Rel base w0 I0 I β σ w->VRs I β args vs.toList ->
   Calls P f vs w (fun e w'=>∃ u,Ends r e u/\ZbS σ.length base w0 I0 I β r σ' u w'):=by
 unfold ZoL at h
 split at h
 case h_2=>cases h
 rename_i l
 simp only [Option.some.injEq,Prod.mk.injEq] at h
 obtain ⟨rfl,rfl⟩:=h
 refine ZrT hf (u:=.bool (Lib.validD l)) (by simp) (fun _ _=>by simp only [VR]) ?_
 intro base w0 I0 I β w vs R hv
 obtain ⟨vs⟩:=vs
 simp only [VRs,VR] at hv
 obtain ⟨v1,r1,e1,⟨rfl,hl⟩,rfl⟩:=hv
 subst e1
 refine (hc ⟨l.toArray⟩ w (by simpa [ByteArray.size] using hl) (ZPu R)).mono ?_
 rintro e w' ⟨rfl,hB⟩
 exact ⟨by simp,hB⟩
end
end
section
def Zez {α:Type} (d:α):List (Nat×α)->Nat->α
 | [],_=>d
 | (k,v)::r,n=>if k=n then v else Zez d r n
def ZB (own raw:List Nat) (cfg cfg2:List (Nat×Nat×Bool)) (lr ll:List (Nat×List Nat)):Ann:={ own:=fun n=>if own.contains n then 1 else if raw.contains n then 2 else 0,cfg:=Zez (0,true) cfg,cfg2:=Zez (0,true) cfg2,lr:=Zez [] lr,ll:=Zez [] ll }
def ZGz:List (Nat×Ann):=[
 (27,ZB [] [] [] [] [(0,[0]),(1,[2])] []),
 (48,ZB [] [] [(74,1,true)] [] [(0,[1]),(1,[2,1]),(2,[10,2,1]),(3,[11,10,2,1]),(4,[1]),(5,[15,10,2,1]),(6,[3,2,1]),(7,[3,2,1]),(8,[2,1]),(9,[2,1]),(10,[1]),(11,[37,10,2,1]),(12,[1]),(13,[41,10,2,1]),(14,[41,10,2,1]),(15,[41,10,2,1]),(16,[41,10,2,1]),(17,[1]),(18,[1]),(19,[50,10,2,1]),(20,[1]),(21,[56,10,2,1]),(22,[1]),(23,[61,10,2,1]),(24,[61,10,2,1]),(25,[1]),(26,[67,10,1]),(27,[67,1]),(28,[1]),(29,[])] []),
 (76,ZB [] [] [] [] [(0,[])] []),
 (78,ZB [] [] [] [] [(0,[])] []),
 (69,ZB [] [] [] [] [(0,[0]),(1,[3,0]),(2,[3]),(3,[2])] []),
 (67,ZB [] [] [] [] [(0,[2,0]),(1,[2,0]),(2,[2,0]),(3,[3,2,0]),(4,[3,2,0]),(5,[3,2,0]),(6,[3,2,0]),(7,[2,0]),(8,[2,0]),(9,[2,0]),(10,[2,0]),(11,[107,2,0]),(12,[2,0]),(13,[2,0]),(14,[2,0]),(15,[129,2,0]),(16,[2,0]),(17,[138,2,0]),(18,[])] []),
 (92,ZB [] [] [] [] [(0,[0]),(1,[5,4,3,0]),(2,[4,3,0]),(3,[3]),(4,[2])] []),
 (47,ZB [] [] [] [] [(0,[4,1]),(1,[4,1]),(2,[4,1]),(3,[24,4,1]),(4,[]),(5,[4]),(6,[4]),(7,[])] []),
 (72,ZB [] [] [] [] [(0,[0]),(1,[])] []),
 (74,ZB [] [] [] [] [(0,[1,0]),(1,[1,0]),(2,[1,0]),(3,[29,1,0]),(4,[1,0])] [(3,[1,0])]),
 (68,ZB [] [] [] [] [(0,[1,0]),(1,[1,0]),(2,[5,1,0]),(3,[5]),(4,[4])] []),
 (70,ZB [] [] [] [] [(0,[1,0]),(1,[7,6,5,0]),(2,[6,5,0]),(3,[5]),(4,[4])] []),
 (71,ZB [] [] [] [] [(0,[0]),(1,[13,0]),(2,[0]),(3,[0]),(4,[])] []),
 (73,ZB [] [] [] [] [(0,[7,0]),(1,[0]),(2,[19,0]),(3,[])] []),
 (75,ZB [] [] [] [] [(0,[2,0]),(1,[3,2,0]),(2,[3,2,0]),(3,[3,2,0]),(4,[2,0]),(5,[2,0]),(6,[])] []),
 (77,ZB [] [] [] [] [(0,[0]),(1,[5,4,3,0]),(2,[4,3,0]),(3,[3]),(4,[2])] []),
 (25,ZB [] [] [(43,1,true),(39,1,true),(45,1,true),(40,1,true),(41,1,true),(44,1,true),(42,1,true)] [] [(0,[3,0]),(1,[11,3,0]),(2,[12,11,3,0]),(3,[]),(4,[17,11,3,0]),(5,[3,0]),(6,[3,0]),(7,[]),(8,[32,11,3,0]),(9,[3,0]),(10,[40,3,0]),(11,[3,0]),(12,[3,0]),(13,[]),(14,[55,11,3,0]),(15,[55,11,3,0]),(16,[55,11,3,0]),(17,[55,11,3,0]),(18,[3,0]),(19,[]),(20,[67,11,3,0]),(21,[3,0]),(22,[75,74,73,0]),(23,[76,75,74,73,0]),(24,[75,74,73,5,0]),(25,[75,74,73,5,0]),(26,[75,74,73,0]),(27,[75,74,73,0]),(28,[102,11,3,0]),(29,[3,0]),(30,[110,109,108,0]),(31,[111,110,109,108,0]),(32,[110,109,108,7,0]),(33,[110,109,108,0]),(34,[110,109,108,0]),(35,[118,11,3,0]),(36,[118,11,3,0]),(37,[3,0]),(38,[127,126,125,0]),(39,[128,127,126,125,0]),(40,[127,126,125,9,0]),(41,[127,126,125,0]),(42,[127,126,125,0]),(43,[135,11,3,0]),(44,[135,3,0]),(45,[])] [(23,[75,74,73,0]),(31,[110,109,108,0]),(39,[127,126,125,0])]),
 (39,ZB [] [] [(60,1,true),(40,1,true),(41,1,true),(42,1,true)] [] [(0,[3,0]),(1,[3,0]),(2,[3,0]),(3,[3,0]),(4,[3,0]),(5,[3,0]),(6,[3,0]),(7,[49,3,0]),(8,[3,0]),(9,[3,0]),(10,[3,0]),(11,[66,3,0]),(12,[3,0]),(13,[72,3,0]),(14,[])] []),
 (60,ZB [] [] [(43,1,true)] [] [(0,[4,0]),(1,[])] []),
 (45,ZB [] [] [(40,1,true),(41,1,true)] [] [(0,[3,0]),(1,[3,0]),(2,[])] []),
 (40,ZB [] [] [(43,1,true)] [] [(0,[])] []),
 (41,ZB [] [] [(43,1,true)] [] [(0,[6,0]),(1,[])] []),
 (44,ZB [] [] [(40,1,true),(41,1,true)] [] [(0,[3,0]),(1,[12,3,0]),(2,[3,0]),(3,[20,3,0]),(4,[])] []),
 (42,ZB [] [] [(43,1,true)] [] [(0,[4,0]),(1,[])] []),
 (106,ZB [] [] [] [] [(0,[1,0]),(1,[4])] []),
 (83,ZB [] [] [] [] [(0,[1,0]),(1,[4])] []),
 (91,ZB [] [] [] [] [(0,[]),(2,[]),(7,[4])] []),
 (101,ZB [] [] [] [] [] []),
 (5,ZB [] [] [] [] [(0,[6,3,2,1]),(1,[7,6,3,1]),(2,[14,7,6,3]),(3,[7,6,3]),(4,[25,7,6,3]),(5,[7,6]),(6,[6])] []),
 (7,ZB [] [] [] [] [(0,[2,0]),(1,[2])] []),
 (23,ZB [] [] [(36,1,false)] [] [(0,[8,5,4,3,2]),(1,[10,8,5,3,2]),(2,[22,10,8,5,3,2]),(3,[9,8]),(4,[11,8,5,3,2]),(5,[13,11,8,5,3,2]),(6,[44,13,11,8,5,3,2]),(7,[13,11,8,5,3]),(8,[15,14,13,11,8,5,3]),(9,[53,14,13,11,8,5,3]),(10,[13,8,5,3]),(11,[60,13,8,5,3]),(12,[13,8,5,3]),(13,[13,8,5,3]),(14,[13,8,5,3]),(15,[13,8,5,3]),(16,[13,8,5,3]),(17,[79,13,8,5,3]),(18,[16,13,8,3]),(19,[17,16,13,8,3]),(20,[17,16,13,8,3]),(21,[16,13,8]),(22,[16,13,8]),(23,[13,8]),(24,[9,8])] []),
 (37,ZB [] [] [] [] [(0,[1]),(1,[2])] []),
 (54,ZB [] [] [] [] [(0,[0]),(1,[8,7,6,0]),(2,[9,8,7,6,0]),(3,[8,7,6,4,0]),(4,[27,8,7,6,0]),(5,[2]),(6,[8,7,6,0]),(7,[2])] [(2,[8,7,6,0])]),
 (6,ZB [] [] [] [] [(0,[2,0]),(1,[2])] []),
 (34,ZB [] [] [] [] [(0,[2,1,0]),(1,[8,7,2]),(2,[15,7,2]),(3,[6]),(4,[6])] []),
 (32,ZB [] [] [] [] [(0,[3,2]),(1,[6,5,3,2]),(2,[8,7,6,5,3,2]),(3,[10,8,6,5,3,2]),(4,[31,10,8,6,5,3,2]),(5,[31,10,8,6,5,3,2]),(6,[4]),(7,[49,10,8,6,5,3,2]),(8,[4]),(9,[59,10,6,5,3,2]),(10,[4]),(11,[65,10,5,3,2]),(12,[4]),(13,[71,10]),(14,[4]),(15,[75]),(16,[4]),(17,[4])] []),
 (38,ZB [] [] [(15,1,false)] [] [(0,[8,4,3,2,1]),(1,[9,8,4,3]),(2,[11,10,9,8,3]),(3,[31,10,9,8,3]),(4,[9,8]),(5,[8])] []),
 (59,ZB [] [] [] [] [(0,[0]),(1,[2])] []),
 (85,ZB [] [] [] [] [(0,[0]),(1,[6,0]),(2,[3,2]),(3,[3,2])] []),
 (93,ZB [] [] [] [] [(0,[0]),(1,[3,0]),(2,[8,7,6,3]),(3,[9,8,7,6,3]),(4,[8,7,6,5,3]),(5,[8,7,6,3]),(6,[8,7,6,3]),(7,[2])] [(3,[8,7,6,3])]),
 (102,ZB [] [] [] [] [(0,[0]),(1,[17,0]),(2,[4,3,2]),(3,[3,0]),(4,[4,3,2])] []),
 (94,ZB [] [] [] [] [(0,[0]),(1,[5,4,3]),(2,[12,5,4,3]),(3,[4,3,2]),(4,[16,5,3]),(5,[4,3,2]),(6,[4,3,2])] []),
 (98,ZB [] [] [] [] [(0,[2,0]),(1,[9,8,7,2,0]),(2,[10,9,8,7,2,0]),(3,[9,8,7,6,5,2,0]),(4,[15,9,8,7,6,5,2,0]),(5,[9,8,7,6,5,2,0]),(6,[25,9,8,7,6,5,2,0]),(7,[31,5,2]),(8,[4,3,2]),(9,[4,3,2]),(10,[9,8,7,2,0]),(11,[38]),(12,[4,3,2]),(13,[4,3,2])] [(2,[9,8,7,2,0])]),
 (88,ZB [] [] [] [] [(0,[0]),(1,[6,0]),(2,[8,7,6,0]),(3,[6,4,0]),(4,[11,6,0]),(5,[2]),(6,[2])] [(2,[6,0])]),
 (19,ZB [] [] [] [] [(0,[0]),(1,[3,0]),(2,[8,7,6,3]),(3,[9,8,7,6,3]),(4,[8,7,6,5,3]),(5,[8,7,6,3]),(6,[8,7,6,3]),(7,[2])] [(3,[8,7,6,3])]),
 (61,ZB [] [] [] [] [(0,[1,0]),(1,[12,1,0]),(2,[4]),(3,[5,1,0]),(4,[6,5,0]),(5,[18,6,5,0]),(6,[6,5,0]),(7,[6,5,0]),(8,[6,5,0]),(9,[4])] [(5,[6,5,0])]),
 (63,ZB [] [] [] [] [(0,[0]),(1,[6,0]),(2,[3,2]),(3,[3,2])] []),
 (18,ZB [] [] [] [] [(0,[0]),(1,[10,0]),(2,[3,2]),(3,[4,0]),(4,[12,4,0]),(5,[4,0]),(6,[4,0]),(7,[3,2])] [(4,[4,0])]),
 (13,ZB [] [] [] [] [(0,[3,0]),(1,[4])] []),
 (22,ZB [] [] [] [] [(0,[2,1]),(1,[3])] []),
 (17,ZB [] [] [(25,1,true)] [] [(0,[2,1]),(1,[4,2,1]),(2,[4,2,1]),(3,[5,2,1]),(4,[32,5,2,1]),(5,[5,2,1]),(6,[7,6,5,2,1]),(7,[9,7,6,5,2,1]),(8,[73,5,2]),(9,[3,2]),(10,[3,2])] []),
 (12,ZB [] [] [] [] [(0,[1]),(1,[5,4]),(2,[14,5,4]),(3,[3,2]),(4,[6,4]),(5,[3,2])] []),
 (29,ZB [] [] [] [] [(0,[]),(2,[4,3,2,1]),(3,[4,3,2]),(4,[4,3,2]),(5,[3,2])] []),
 (46,ZB [] [] [] [] [(1,[4]),(2,[]),(3,[7,5]),(4,[]),(6,[3,1,0]),(7,[])] []),
 (30,ZB [] [] [] [] [(0,[3,2]),(1,[5,3,2]),(2,[6,5,3,2]),(3,[7,6,5,3,2]),(4,[8,7,6,5,3,2]),(5,[4])] []),
 (21,ZB [] [] [] [] [(0,[0]),(1,[3]),(2,[4,3]),(3,[2]),(4,[15,3]),(5,[15,3]),(6,[2]),(7,[27,3]),(8,[27,3]),(9,[2]),(10,[33,3]),(11,[2]),(12,[45,3]),(13,[2]),(14,[55,3]),(15,[2]),(16,[66]),(17,[2]),(18,[2])] []),
 (26,ZB [] [] [] [] [(0,[0]),(1,[3]),(2,[4,3]),(3,[4,3]),(4,[4]),(5,[2]),(6,[2])] []),
 (28,ZB [] [] [] [] [(0,[1,0]),(1,[5,1]),(2,[4]),(3,[4])] []),
 (66,ZB [] [] [] [] [(0,[5,1]),(1,[])] []),
 (56,ZB [] [] [] [] [(0,[3,2]),(1,[7,3,2]),(2,[6,5,3]),(3,[27]),(4,[4]),(5,[4]),(6,[28,2]),(7,[4]),(8,[31]),(9,[4]),(10,[4])] []),
 (53,ZB [] [] [] [] [(0,[2,1]),(1,[11,10,9,1]),(2,[12,11,10,9,1]),(3,[11,10,9,7,1]),(4,[18,11,10,9,7,1]),(5,[5,4]),(6,[11,10,9,1]),(7,[5,4])] [(2,[11,10,9,1])]),
 (33,ZB [] [] [] [] [(0,[4,1,0]),(1,[10,9,8,4,0]),(2,[11,10,9,8,4,0]),(3,[10,9,8,7,4,0]),(4,[17,10,9,8,7,4,0]),(5,[5,4]),(6,[10,9,8,4,0]),(7,[5,4])] [(2,[10,9,8,4,0])]),
 (97,ZB [] [] [] [] [(0,[0]),(1,[2])] []),
 (62,ZB [] [] [] [] [(0,[1,0]),(1,[6,1,0]),(2,[16,15,14,6,1,0]),(3,[17,16,15,14,6,1,0]),(4,[16,15,14,8,6,1,0]),(5,[16,15,14,6,1,0]),(6,[16,15,14,6,1,0]),(7,[10,9,6,1,0]),(8,[32,9,6,1,0]),(9,[5,4]),(10,[6,1,0]),(11,[13,12,11,6,1]),(12,[57,6]),(13,[5,4]),(14,[5,4])] [(3,[16,15,14,6,1,0])]),
 (109,ZB [] [] [] [] [(0,[1,0]),(1,[4])] []),
 (84,ZB [] [] [] [] [(0,[1,0]),(1,[5,1,0]),(2,[10,9,8,5,1]),(3,[11,10,9,8,5,1]),(4,[10,9,8,7,5,1]),(5,[17,10,9,8,7,5,1]),(6,[10,9,8,5,1]),(7,[10,9,8,5,1]),(8,[4])] [(3,[10,9,8,5,1])]),
 (87,ZB [] [] [] [] [(0,[4,1,0]),(1,[9,8,7,4,1,0]),(2,[29,8,7,4,1,0]),(3,[6,5,4]),(4,[10,8,7,4,0]),(5,[38,10,8,7,4,0]),(6,[13,12,11,10,8,7,4,0]),(7,[48,13,12,11,10,8,7,4,0]),(8,[6,5,4]),(9,[12,10,8,7,4,0]),(10,[10,8,7,4,0]),(11,[6,5,4])] [(5,[10,8,7,4,0])]),
 (52,ZB [] [] [] [] [(0,[1,0]),(1,[4])] []),
 (80,ZB [] [] [] [] [(0,[3,2]),(1,[4])] []),
 (118,ZB [] [] [] [] [(0,[0]),(1,[3,0]),(2,[8,7,6,3]),(3,[9,8,7,6,3]),(4,[8,7,6,5,3]),(5,[8,7,6,3]),(6,[8,7,6,3]),(7,[2])] [(3,[8,7,6,3])]),
 (57,ZB [] [] [] [] [(0,[2,1]),(1,[2,1]),(2,[2])] []),
 (112,ZB [] [] [] [] [(0,[1]),(1,[4,1]),(2,[5,4,1]),(3,[5,4,1]),(4,[5,4,1]),(5,[5,1]),(6,[2]),(7,[2])] []),
 (86,ZB [] [] [] [] [(0,[1]),(1,[3,1]),(2,[6,5,3,1]),(3,[15,6,5,3,1]),(4,[16,15,6,5,3,1]),(5,[16,15,6,5,3,1]),(6,[16,15,6,5,3,1]),(7,[6,5,3]),(8,[29,15,6,5,3,1]),(9,[6,5,3]),(10,[37,15,6,5,3,1]),(11,[6,5,3]),(12,[45,15,6,5,3,1]),(13,[6,5,3]),(14,[53,6,5,3,1]),(15,[5,3,1]),(16,[6,5,3]),(17,[2])] []),
 (108,ZB [] [] [] [] [(0,[2,0]),(1,[3,2]),(2,[4,3,2]),(3,[2]),(4,[9,3,2]),(5,[2]),(6,[14,3,2]),(7,[14,3,2]),(8,[2]),(9,[20,3,2]),(10,[2]),(11,[25,3,2]),(12,[2]),(13,[30,3,2]),(14,[2]),(15,[35,3,2]),(16,[35,3,2]),(17,[2]),(18,[41,3,2]),(19,[2]),(20,[46,3,2]),(21,[2]),(22,[51,3,2]),(23,[2]),(24,[56,3,2]),(25,[56,3,2]),(26,[2]),(27,[62,3,2]),(28,[2]),(29,[67,3,2]),(30,[2]),(31,[72,3,2]),(32,[2]),(33,[77,3,2]),(34,[77,3,2]),(35,[2]),(36,[83,3,2]),(37,[2]),(38,[88,3,2]),(39,[2]),(40,[93,3,2]),(41,[93,3,2]),(42,[93,3,2]),(43,[93,3,2]),(44,[93,3,2]),(45,[2]),(46,[102,2]),(47,[2]),(48,[2])] []),
 (111,ZB [] [] [] [] [(0,[1,0]),(1,[4])] []),
 (99,ZB [] [] [] [] [(0,[6,2,1,0]),(1,[11,10,9,6,2,1,0]),(2,[28,10,9,6,2,1,0]),(3,[8,7,6]),(4,[12,10,9,7,6,2,0]),(5,[14,12,10,9,7,6,0]),(6,[45,14,10,9,7,6,0]),(7,[8,7,6]),(8,[49,10,9,7,6]),(9,[8,7,6]),(10,[58,10,9,7,6]),(11,[8,7,6]),(12,[65,6]),(13,[8,7,6]),(14,[8,7,6])] []),
 (110,ZB [] [] [] [] [(0,[5,4,1,0]),(1,[5,4,1,0]),(2,[7,5,4,1,0]),(3,[12,7,5,4,1,0]),(4,[13,12,7,5,4,1,0]),(5,[13,12,7,5,4,1,0]),(6,[13,12,7,5,4,1,0]),(7,[7,5,4,1]),(8,[24,7,5,4,1]),(9,[6,5,4]),(10,[7,5,4]),(11,[32,12,7,5,4,1]),(12,[7,5,4]),(13,[41,12,7,5,4,1]),(14,[7,5,4]),(15,[50,12,7,5,4,1]),(16,[7,5,4]),(17,[59,7,5,4,1]),(18,[7,5,4,1]),(19,[69,7,5,4,1]),(20,[5,4,1]),(21,[8,7,5,4]),(22,[7,5,4]),(23,[6,5,4])] []),
 (20,ZB [] [] [] [] [(0,[1,0]),(1,[4])] []),
 (96,ZB [] [] [] [] [(0,[1,0]),(1,[4])] []),
 (35,ZB [] [] [] [] [(0,[1,0]),(1,[5,1,0]),(2,[12,5,1,0]),(3,[4]),(4,[6,5,1,0]),(5,[19,6,5,1,0]),(6,[6,5,1,0]),(7,[7,6,5,1,0]),(8,[29,7,6,5,1,0]),(9,[6,5,1,0]),(10,[6,5,1,0]),(11,[5,0]),(12,[4])] [(5,[6,5,1,0])]),
 (79,ZB [] [] [] [] [(0,[2,1,0]),(1,[14,2,1,0]),(2,[6]),(3,[17,16,15,2,1]),(4,[18,17,16,15,2,1]),(5,[17,16,15,8,7,2,1]),(6,[17,16,15,9,8,2,1]),(7,[30,17,16,15,2,1]),(8,[6]),(9,[17,16,15,2,1]),(10,[6])] [(4,[17,16,15,2,1])]),
 (49,ZB [] [] [] [] [(0,[1,0]),(1,[10,1,0]),(2,[4]),(3,[13,12,1,0]),(4,[14,13,12,1,0]),(5,[13,12,5,1,0]),(6,[24,13,12,1,0]),(7,[4]),(8,[13,12,1,0]),(9,[4])] [(4,[13,12,1,0])]),
 (50,ZB [] [] [] [] [(0,[1,0]),(1,[10,1,0]),(2,[4]),(3,[13,12,1,0]),(4,[14,13,12,1,0]),(5,[13,12,5,1,0]),(6,[24,13,12,1,0]),(7,[4]),(8,[13,12,1,0]),(9,[4])] [(4,[13,12,1,0])]),
 (51,ZB [] [] [] [] [(0,[1,0]),(1,[10,1,0]),(2,[4]),(3,[13,12,1,0]),(4,[14,13,12,1,0]),(5,[13,12,5,1,0]),(6,[24,13,12,1,0]),(7,[4]),(8,[13,12,1,0]),(9,[4])] [(4,[13,12,1,0])]),
 (58,ZB [] [] [] [] [(0,[1,0]),(1,[8,7,1,0]),(2,[9,8,7,1,0]),(3,[8,7,5,1,0]),(4,[16,8,7,5,1,0]),(5,[4]),(6,[8,7,1,0]),(7,[4])] [(2,[8,7,1,0])]),
 (31,ZB [] [] [] [] [(0,[1,0]),(1,[8,7,1,0]),(2,[9,8,7,1,0]),(3,[8,7,5,1,0]),(4,[16,8,7,5,1,0]),(5,[4]),(6,[8,7,1,0]),(7,[4])] [(2,[8,7,1,0])]),
 (107,ZB [] [] [] [] [(0,[1,0]),(1,[8,7,1,0]),(2,[9,8,7,1,0]),(3,[8,7,5,1,0]),(4,[16,8,7,5,1,0]),(5,[4]),(6,[8,7,1,0]),(7,[4])] [(2,[8,7,1,0])]),
 (82,ZB [] [] [] [] [(0,[1,0]),(1,[4])] []),
 (95,ZB [] [] [] [] [(0,[1,0]),(1,[12,1,0]),(2,[4]),(3,[15,1,0]),(4,[5,0]),(5,[20,5,0]),(6,[5,0]),(7,[4]),(8,[26,1,0]),(9,[7,6,1,0]),(10,[32,6,1,0]),(11,[8,6,0]),(12,[36,8,6,0]),(13,[8,6,0]),(14,[42,8,6,0]),(15,[4]),(16,[4]),(17,[45,1]),(18,[47,46,45,1]),(19,[45,10,9,1]),(20,[53,45,9,1]),(21,[4]),(22,[4])] [(12,[8,6,0]),(18,[45,1])]),
 (103,ZB [] [] [] [] [(0,[1,0]),(1,[7,0]),(2,[8,7,0]),(3,[9,8,7,0]),(4,[9,8,7,0]),(5,[26,9,8,7,0]),(6,[33,9,8,7,0]),(7,[11,9,8,7,0]),(8,[43,11,9,8,7,0]),(9,[4]),(10,[9,8,7,0]),(11,[12,9,8,7,0]),(12,[51,12,9,8,7,0]),(13,[12,9,8,7,0]),(14,[64,12,9,8,7,0]),(15,[4]),(16,[10,9,8,7,0]),(17,[10,9,8,7,0]),(18,[98,9,8,7,0]),(19,[4]),(20,[13,9,8]),(21,[108,13,9,8]),(22,[4]),(23,[14,9,8,7,0]),(24,[15,14,9,8,7,0]),(25,[124,15,14,9,8,7,0]),(26,[15,14,9,8,7,0]),(27,[139,15,14,9,8,7,0]),(28,[16,15,14,9,8,7,0]),(29,[143,16,15,14,9,8,7,0]),(30,[16,15,14,9,8,7,0]),(31,[156,16,15,14,9,8,7,0]),(32,[4]),(33,[4]),(34,[160,1,0]),(35,[4]),(36,[171,1,0]),(37,[175]),(38,[177,176,175]),(39,[175,6,5]),(40,[181,175,5]),(41,[4]),(42,[4]),(43,[183,1,0]),(44,[4])] [(5,[9,8,7,0]),(12,[12,9,8,7,0]),(25,[15,14,9,8,7,0]),(29,[16,15,14,9,8,7,0]),(38,[175])]),
 (105,ZB [] [] [] [] [(0,[2,0]),(1,[4,2,0]),(2,[9,4,2,0]),(3,[4,2,0]),(4,[5,4,2,0]),(5,[16,5,4,2,0]),(6,[3,2]),(7,[4,2,0]),(8,[3,2])] [(2,[4,2,0])]),
 (104,ZB [] [] [] [] [(0,[0]),(1,[2])] []),
 (4,ZB [] [] [] [] [(0,[1,0]),(1,[8,1,0]),(2,[4]),(3,[4])] []),
 (3,ZB [] [] [] [] [(0,[5,4,3,2,1]),(1,[5,4,3,2,1]),(2,[23,5,4,3,2,1]),(3,[5,4,3,2,1]),(4,[13,12,11,5,4,3,2,1]),(5,[56,13,12,3]),(6,[10]),(7,[15,12,3]),(8,[17,15,3]),(9,[10])] []),
 (14,ZB [] [] [] [] [(0,[]),(1,[2,1]),(2,[4,2,1]),(3,[0])] []),
 (24,ZB [] [] [] [] [(0,[3,2]),(1,[4])] []),
 (16,ZB [] [] [] [] [(0,[1,0]),(1,[10,1,0]),(2,[4]),(3,[5,1,0]),(4,[14,5,1,0]),(5,[5,1,0]),(6,[26,5,1,0]),(7,[4]),(8,[4])] [(4,[5,1,0])]),
 (8,ZB [] [] [] [] [(0,[3,2]),(1,[112,3,2]),(2,[4]),(3,[163,3,2]),(4,[4]),(5,[5,3,2]),(6,[168,5,3,2]),(7,[5,3,2]),(8,[181,5,3,2]),(9,[4]),(10,[6,3,2]),(11,[186,6,3,2]),(12,[6,3,2]),(13,[199,6,3,2]),(14,[4]),(15,[7,3,2]),(16,[204,7,3,2]),(17,[7,3,2]),(18,[217,7,3,2]),(19,[4]),(20,[9,8]),(21,[4])] [(6,[5,3,2]),(11,[6,3,2]),(16,[7,3,2])]),
 (9,ZB [] [] [] [] [(0,[6,3,2,1]),(1,[7,6,3,1]),(2,[14,7,6,3]),(3,[7,6,3]),(4,[25,7,6,3]),(5,[7,6]),(6,[6])] []),
 (11,ZB [] [] [] [] [(0,[2,0]),(1,[2])] []),
 (10,ZB [] [] [] [] [(0,[2,0]),(1,[2])] []),
 (55,ZB [] [] [] [] [(0,[0]),(1,[2])] []),
 (81,ZB [] [] [] [] [(0,[0]),(1,[2])] []),
 (115,ZB [] [] [] [] [(0,[0]),(1,[3,0]),(2,[2]),(3,[10]),(4,[2]),(5,[2])] []),
 (1000000,{})]
def ann:Nat->Ann:=Zez {} ZGz
def ZI5:List (Nat×Bool):=[
 (23,true),
 (35,true),
 (38,true),
 (1000000,false)]
def BY:Nat->Bool:=Zez false ZI5
noncomputable def CF:Nat->Option ZD:=Zio Tryz.prog ann
noncomputable def FC:Nat->Option ZD:=fun f=>(CF f).map ZlG
def Zs6:List (Nat×Option (List AVal->Za->Option (AVal×Za))):=[
 (15,some (ZhT 1 1)),
 (36,some (ZhT 5 72)),
 (114,some (Zlo)),
 (119,some (Zlo)),
 (100,some (ZoL)),
 (29,some (ZiN)),
 (43,some (ZiN)),
 (1000000,none)]
def PR:Zcq:=Zez none Zs6
def oI (d:Nat) (i:Ins):AOp:=⟨some d,i,none,[]⟩
def oN (i:Ins):AOp:=⟨none,i,none,[]⟩
theorem xw (c d:Ze) (h:c=d) (m:Nat) (tm:Tms) (σ:Za):evC FC PR BY m c tm σ=evC FC PR BY m d tm σ:=by rw [h]
noncomputable abbrev E:ZO:=EV FC PR BY
theorem Zg {f:Nat} {fn:ZD} (hp:PR f=none) (hf:FC f=some fn) (args:List AVal) (σ:Za):E f args σ=Zat σ.length fn (evC FC PR BY σ.length fn.body (enterA 0 args []) σ):=Zro hp hf args σ
end
section
def ZjS:Ze:=(.seq (.region [oI 2 (.mov (.c (.lst true []))),oI 3 (.mov (.c (.int .i64 0)))] none [0]) (.seq (.seq (.region [oI 4 (.mov (.t 0)),oI 5 (.len (.t 4)),oI 6 (.bin .gtr (.t 5) (.c (.int .i64 65535)))] none [6,0]) (.cond (.t 6) (.seq (.region [oI 2 (.mov (.c (.lst true []))),oI 3 (.mov (.c (.int .i64 10)))] none [3,2]) .ret) .skip)) (.seq (.region [oI 7 (.mov (.t 0)),oI 8 (.len (.t 7)),oI 9 (.i2i .u64 (.t 8)),oI 10 (.call 61 0 true [(.t 9),(.c (.int .i64 2))]),oI 11 (.mov (.t 0)),oI 12 (.bslice false 1 2 (.lst true []) [(0,(.t 10)),(1,(.t 11))]),oI 13 (.call 19 0 true [(.t 12)]),oI 2 (.mov (.t 13)),oI 3 (.mov (.c (.int .i64 0)))] none [3,2]) .ret)))
def ZpY:ZD:=⟨[(.tmp 2),(.tmp 3)],ZjS⟩
theorem Zwz:FC 85=some ZpY:=by kernel_rfl
theorem ZsK:ZpY.body=ZjS:=rfl
theorem Zvl:ZpY.res=[(.tmp 2),(.tmp 3)]:=rfl
def Zny:Ze:=(.seq (.region [oI 18 (.mov (.t 3)),oI 2 (.mov (.t 18))] none [2]) .ret)
def Zp0:Ze:=Zny
def ZCW:=xw Zp0 Zny rfl
def ZkS:Ze:=(.seq (.region [oI 9 (.bin .lss (.t 8) (.t 7))] none [9,8,7,6,3]) (.seq (.cond (.t 9) .skip (.exit 0)) (.seq (.block 1 (.seq (.region [oI 10 (.iaddr 1 (.t 6) (.t 8)),oI 11 (.ld none (.t 10)),oI 5 (.mov (.t 11))] none [8,7,6,5,3]) (.region [oI 12 (.mov (.t 3)),oI 13 (.bin .shl (.t 12) (.c (.int .u64 8))),oI 14 (.mov (.t 5)),oI 15 (.i2i .u64 (.t 14)),oI 16 (.bin .or (.t 13) (.t 15)),oI 3 (.mov (.t 16))] none [8,7,6,3]))) (.region [oI 17 (.bin .add (.t 8) (.c (.int .i64 1))),oI 8 (.mov (.t 17))] none [8,7,6,3]))))
def ZnO:Ze:=ZkS
def Zrt:=xw ZnO ZkS rfl
def Zqx:Ze:=(.seq (.region [oI 2 (.mov (.c (.int .u64 0)))] none [0]) (.seq (.region [oI 3 (.mov (.c (.int .u64 0)))] none [3,0]) (.seq (.seq (.region [oI 6 (.mov (.t 0)),oI 7 (.len (.t 6)),oI 8 (.mov (.c (.int .i64 0)))] none [8,7,6,3]) (.block 0 (.loop [8,7,6,3] ZnO))) Zp0)))
def Zkw:ZD:=⟨[(.tmp 2)],Zqx⟩
theorem ZxG:FC 93=some Zkw:=by kernel_rfl
theorem ZAi:Zkw.body=Zqx:=rfl
theorem ZCm:Zkw.res=[(.tmp 2)]:=rfl
noncomputable def Zlt (m:Nat) (tm:Tms) (σ:Za):Option (AVal×Za):=(Zat m Zkw (ZbF FC PR BY m Zp0 (Option.map (ZaX 0) (evL FC PR BY m [8,7,6,3] ZnO tm σ))))
def Zjh:Ze:=(.seq (.region [oI 2 (.mov (.c (.lst true []))),oI 3 (.mov (.c (.int .i64 0))),oI 4 (.mov (.c (.int .i64 0)))] none [0]) (.seq (.seq (.region [oI 5 (.mov (.t 0)),oI 6 (.len (.t 5)),oI 7 (.bin .lss (.t 6) (.c (.int .i64 2))),oI 8 (.mov (.t 7)),⟨(some 9),(.mov (.t 0)),(some (8,false)),[]⟩,⟨(some 10),(.len (.t 9)),(some (8,false)),[]⟩,⟨(some 11),(.bin .sub (.t 10) (.c (.int .i64 2))),(some (8,false)),[]⟩,⟨(some 12),(.mov (.t 0)),(some (8,false)),[]⟩,⟨(some 13),(.slice 1 (.t 12) none (some (.c (.int .i64 2))) none),(some (8,false)),[]⟩,⟨(some 14),(.call 93 0 true [(.t 13)]),(some (8,false)),[]⟩,⟨(some 15),(.i2i .i64 (.t 14)),(some (8,false)),[]⟩,⟨(some 16),(.bin .lss (.t 11) (.t 15)),(some (8,false)),[]⟩,oI 17 (.pick (.t 8) (.c (.bool true)) (.t 16))] none [17,0]) (.cond (.t 17) (.seq (.region [oI 2 (.mov (.c (.lst true []))),oI 3 (.mov (.c (.int .i64 0))),oI 4 (.mov (.c (.int .i64 11)))] none [4,3,2]) .ret) .skip)) (.seq (.region [oI 18 (.mov (.t 0)),oI 19 (.slice 1 (.t 18) none (some (.c (.int .i64 2))) none),oI 20 (.call 93 0 true [(.t 19)]),oI 21 (.i2i .i64 (.t 20)),oI 22 (.bin .add (.c (.int .i64 2)) (.t 21)),oI 3 (.mov (.t 22))] none [3,0]) (.seq (.region [oI 23 (.mov (.t 0)),oI 24 (.mov (.t 3)),oI 25 (.slice 1 (.t 23) (some (.c (.int .i64 2))) (some (.t 24)) none),oI 26 (.bslice false 1 1 (.lst true []) [(0,(.t 25))]),oI 27 (.call 19 0 true [(.t 26)]),oI 28 (.mov (.t 3)),oI 2 (.mov (.t 27)),oI 3 (.mov (.t 28)),oI 4 (.mov (.c (.int .i64 0)))] none [4,3,2]) .ret))))
def ZoE:ZD:=⟨[(.tmp 2),(.tmp 3),(.tmp 4)],Zjh⟩
theorem ZnE:FC 102=some ZoE:=by kernel_rfl
theorem Zp1:ZoE.body=Zjh:=rfl
theorem Zn2:ZoE.res=[(.tmp 2),(.tmp 3),(.tmp 4)]:=rfl
def Zjv:Ze:=(.seq (.region [oI 2 (.mov (.c (.str []))),oI 3 (.mov (.c (.int .i64 0))),oI 4 (.mov (.c (.int .i64 0)))] none [0]) (.seq (.region [oI 7 (.mov (.t 0)),oI 8 (.call 102 0 true [(.t 7)]),oI 6 (.mov (.t 8)),oI 9 (.ext (.t 6) 0),oI 10 (.ext (.t 6) 1),oI 11 (.ext (.t 6) 2),oI 5 (.mov (.t 9)),oI 3 (.mov (.t 10)),oI 4 (.mov (.t 11))] none [5,4,3]) (.seq (.block 0 (.seq (.region [oI 13 (.mov (.t 4)),oI 14 (.bin .neq (.t 13) (.c (.int .i64 0))),oI 12 (.mov (.t 14))] none [12,5,4,3]) (.cond (.t 12) (.seq (.region [oI 15 (.mov (.t 4)),oI 2 (.mov (.c (.str []))),oI 3 (.mov (.c (.int .i64 0))),oI 4 (.mov (.t 15))] none [4,3,2]) .ret) (.seq (.region [oI 17 (.mov (.t 5)),oI 18 (.b2s (.t 17)),oI 19 (.call 88 0 true [(.t 18)]),oI 20 (.un .not (.t 19)),oI 16 (.mov (.t 20))] none [16,5,3]) (.cond (.t 16) (.seq (.region [oI 2 (.mov (.c (.str []))),oI 3 (.mov (.c (.int .i64 0))),oI 4 (.mov (.c (.int .i64 13)))] none [4,3,2]) .ret) .skip))))) (.seq (.region [oI 21 (.mov (.t 5)),oI 22 (.b2s (.t 21)),oI 23 (.mov (.t 3)),oI 2 (.mov (.t 22)),oI 3 (.mov (.t 23)),oI 4 (.mov (.c (.int .i64 0)))] none [4,3,2]) .ret))))
def ZpI:ZD:=⟨[(.tmp 2),(.tmp 3),(.tmp 4)],Zjv⟩
theorem Zso:FC 94=some ZpI:=by kernel_rfl
theorem Zqo:ZpI.body=Zjv:=rfl
theorem Zrg:ZpI.res=[(.tmp 2),(.tmp 3),(.tmp 4)]:=rfl
def Zi9:Ze:=(.seq (.seq (.region [oI 36 (.mov (.t 0)),oI 37 (.len (.t 36)),oI 38 (.bin .lss (.t 37) (.c (.int .i64 4)))] none [38]) (.cond (.t 38) (.seq (.region [oI 2 (.mov (.c (.int .i64 0))),oI 3 (.mov (.c (.int .i64 0))),oI 4 (.mov (.c (.int .i64 11)))] none [4,3,2]) .ret) .skip)) (.seq (.region [oI 2 (.mov (.c (.int .i64 0))),oI 3 (.mov (.c (.int .i64 0))),oI 4 (.mov (.c (.int .i64 12)))] none [4,3,2]) .ret))
def ZmX:Ze:=Zi9
def Zo8:=xw ZmX Zi9 rfl
def Zfl:Ze:=(.seq (.region [oI 10 (.bin .lss (.t 9) (.t 8))] none [10,9,8,7,2,0]) (.seq (.cond (.t 10) .skip (.exit 0)) (.seq (.block 1 (.seq (.region [oI 11 (.mov (.t 9)),oI 12 (.iaddr 1 (.t 7) (.t 9)),oI 13 (.ld none (.t 12)),oI 5 (.mov (.t 11)),oI 6 (.mov (.t 13))] none [9,8,7,6,5,2,0]) (.seq (.seq (.region [oI 14 (.mov (.t 5)),oI 15 (.bin .eql (.t 14) (.c (.int .i64 4)))] none [15,9,8,7,6,5,2,0]) (.cond (.t 15) (.exit 0) .skip)) (.seq (.region [oI 16 (.mov (.t 2)),oI 17 (.mov (.t 6)),oI 18 (.bin .and (.t 17) (.c (.int .u8 127))),oI 19 (.i2i .i64 (.t 18)),oI 20 (.mov (.t 5)),oI 21 (.bin .mul (.c (.int .i64 7)) (.t 20)),oI 22 (.bin .shl (.t 19) (.t 21)),oI 23 (.bin .or (.t 16) (.t 22)),oI 2 (.mov (.t 23))] none [9,8,7,6,5,2,0]) (.seq (.region [oI 24 (.mov (.t 6)),oI 25 (.bin .lss (.t 24) (.c (.int .u8 128)))] none [25,9,8,7,6,5,2,0]) (.cond (.t 25) (.seq (.seq (.region [oI 26 (.mov (.t 6)),oI 27 (.bin .eql (.t 26) (.c (.int .u8 0))),oI 28 (.mov (.t 27)),⟨(some 29),(.mov (.t 5)),(some (28,true)),[]⟩,⟨(some 30),(.bin .gtr (.t 29) (.c (.int .i64 0))),(some (28,true)),[]⟩,oI 31 (.pick (.t 28) (.t 30) (.c (.bool false)))] none [31,5,2]) (.cond (.t 31) (.seq (.region [oI 2 (.mov (.c (.int .i64 0))),oI 3 (.mov (.c (.int .i64 0))),oI 4 (.mov (.c (.int .i64 12)))] none [4,3,2]) .ret) .skip)) (.seq (.region [oI 32 (.mov (.t 2)),oI 33 (.mov (.t 5)),oI 34 (.bin .add (.t 33) (.c (.int .i64 1))),oI 2 (.mov (.t 32)),oI 3 (.mov (.t 34)),oI 4 (.mov (.c (.int .i64 0)))] none [4,3,2]) .ret)) .skip)))))) (.region [oI 35 (.bin .add (.t 9) (.c (.int .i64 1))),oI 9 (.mov (.t 35))] none [9,8,7,2,0]))))
def ZoA:Ze:=Zfl
def Zgt:=xw ZoA Zfl rfl
def ZqU:Ze:=(.seq (.region [oI 2 (.mov (.c (.int .i64 0))),oI 3 (.mov (.c (.int .i64 0))),oI 4 (.mov (.c (.int .i64 0)))] none [2,0]) (.seq (.seq (.region [oI 7 (.mov (.t 0)),oI 8 (.len (.t 7)),oI 9 (.mov (.c (.int .i64 0)))] none [9,8,7,2,0]) (.block 0 (.loop [9,8,7,2,0] ZoA))) ZmX))
def ZmA:ZD:=⟨[(.tmp 2),(.tmp 3),(.tmp 4)],ZqU⟩
theorem ZNA:FC 98=some ZmA:=by kernel_rfl
theorem ZAD:ZmA.body=ZqU:=rfl
theorem Zhg:ZmA.res=[(.tmp 2),(.tmp 3),(.tmp 4)]:=rfl
noncomputable def Zhh (m:Nat) (tm:Tms) (σ:Za):Option (AVal×Za):=(Zat m ZmA (ZbF FC PR BY m ZmX (Option.map (ZaX 0) (evL FC PR BY m [9,8,7,2,0] ZoA tm σ))))
def ZqQ:Ze:=(.seq (.region [oI 12 (.mov (.t 0)),oI 13 (.call 100 0 true [(.t 12)]),oI 2 (.mov (.t 13))] none [2]) .ret)
def Zqi:Ze:=ZqQ
def ZL9:=xw Zqi ZqQ rfl
def ZiR:Ze:=(.seq (.region [oI 7 (.nxt (.t 6)),oI 8 (.ext (.t 7) 0)] none [8,7,6,0]) (.seq (.cond (.t 8) .skip (.exit 0)) (.block 1 (.seq (.region [oI 9 (.ext (.t 7) 2),oI 4 (.mov (.t 9))] none [6,4,0]) (.seq (.region [oI 10 (.mov (.t 4)),oI 11 (.bin .eql (.t 10) (.c (.int .i32 0)))] none [11,6,0]) (.cond (.t 11) (.seq (.region [oI 2 (.mov (.c (.bool false)))] none [2]) .ret) .skip))))))
def Zng:Ze:=ZiR
def Zok:=xw Zng ZiR rfl
def Zol:Ze:=(.seq (.region [oI 2 (.mov (.c (.bool false)))] none [0]) (.seq (.seq (.region [oI 5 (.mov (.t 0)),oI 6 (.rng (.t 5))] none [6,0]) (.block 0 (.loop [6,0] Zng))) Zqi))
def ZjY:ZD:=⟨[(.tmp 2)],Zol⟩
theorem ZHj:FC 88=some ZjY:=by kernel_rfl
theorem ZyA:ZjY.body=Zol:=rfl
theorem Zsc:ZjY.res=[(.tmp 2)]:=rfl
noncomputable def ZkP (m:Nat) (tm:Tms) (σ:Za):Option (AVal×Za):=(Zat m ZjY (ZbF FC PR BY m Zqi (Option.map (ZaX 0) (evL FC PR BY m [6,0] Zng tm σ))))
def Zq7:Ze:=(.seq (.region [oI 16 (.mov (.t 3)),oI 2 (.mov (.t 16))] none [2]) .ret)
def ZpK:Ze:=Zq7
def ZyP:=xw ZpK Zq7 rfl
def ZjB:Ze:=(.seq (.region [oI 9 (.bin .lss (.t 8) (.t 7))] none [9,8,7,6,3]) (.seq (.cond (.t 9) .skip (.exit 0)) (.seq (.block 1 (.seq (.region [oI 10 (.iaddr 1 (.t 6) (.t 8)),oI 11 (.ld none (.t 10)),oI 5 (.mov (.t 11))] none [8,7,6,5,3]) (.region [oI 12 (.mov (.t 3)),oI 13 (.mov (.t 5)),oI 14 (.app 1 1 (.int .u8 0) (.t 12) (.t 13)),oI 3 (.mov (.t 14))] none [8,7,6,3]))) (.region [oI 15 (.bin .add (.t 8) (.c (.int .i64 1))),oI 8 (.mov (.t 15))] none [8,7,6,3]))))
def ZqF:Ze:=ZjB
def ZnG:=xw ZqF ZjB rfl
def ZoX:Ze:=(.seq (.region [oI 2 (.mov (.c (.lst true [])))] none [0]) (.seq (.region [oI 3 (.mov (.c (.lst true [])))] none [3,0]) (.seq (.seq (.region [oI 6 (.mov (.t 0)),oI 7 (.len (.t 6)),oI 8 (.mov (.c (.int .i64 0)))] none [8,7,6,3]) (.block 0 (.loop [8,7,6,3] ZqF))) ZpK)))
def Zl2:ZD:=⟨[(.tmp 2)],ZoX⟩
theorem ZMv:FC 19=some Zl2:=by kernel_rfl
theorem ZCA:Zl2.body=ZoX:=rfl
theorem ZKO:Zl2.res=[(.tmp 2)]:=rfl
noncomputable def Zly (m:Nat) (tm:Tms) (σ:Za):Option (AVal×Za):=(Zat m Zl2 (ZbF FC PR BY m ZpK (Option.map (ZaX 0) (evL FC PR BY m [8,7,6,3] ZqF tm σ))))
def ZqG:Ze:=(.seq (.region [oI 28 (.mov (.t 5)),oI 4 (.mov (.t 28))] none [4]) .ret)
def ZnF:Ze:=ZqG
def ZAv:=xw ZnF ZqG rfl
def ZmC:Ze:=(.seq (.seq (.region [oI 17 (.mov (.t 6)),oI 18 (.bin .geq (.t 17) (.c (.int .i64 0)))] none [18,6,5,0]) (.cond (.t 18) .skip (.exit 0))) (.seq (.block 1 (.seq (.region [oI 21 (.mov (.t 5)),oI 22 (.mov (.t 6)),oI 23 (.mov (.t 0)),oI 24 (.i2i .u8 (.t 23)),oI 25 (.iaddr 1 (.t 21) (.t 22)),oN (.st 1 (.t 25) (.t 24))] none [6,5,0]) (.region [oI 26 (.mov (.t 0)),oI 27 (.bin .shr (.t 26) (.c (.int .u64 8))),oI 0 (.mov (.t 27))] none [6,5,0]))) (.region [oI 19 (.mov (.t 6)),oI 20 (.bin .sub (.t 19) (.c (.int .i64 1))),oI 6 (.mov (.t 20))] none [6,5,0])))
def ZmY:Ze:=ZmC
def ZrY:=xw ZmY ZmC rfl
def ZqS:Ze:=(.seq (.region [oI 4 (.mov (.c (.lst true [])))] none [1,0]) (.seq (.seq (.region [oI 7 (.mov (.t 1)),oI 8 (.bin .lss (.t 7) (.c (.int .i64 1))),oI 9 (.mov (.t 8)),⟨(some 10),(.mov (.t 1)),(some (9,false)),[]⟩,⟨(some 11),(.bin .gtr (.t 10) (.c (.int .i64 8))),(some (9,false)),[]⟩,oI 12 (.pick (.t 9) (.c (.bool true)) (.t 11))] none [12,1,0]) (.cond (.t 12) (.seq (.region [oI 4 (.mov (.c (.lst true [])))] none [4]) .ret) .skip)) (.seq (.region [oI 13 (.mov (.t 1)),oI 14 (.mkslice 1 1 (.int .u8 0) (.t 13) (.t 13)),oI 5 (.mov (.t 14))] none [5,1,0]) (.seq (.seq (.region [oI 15 (.mov (.t 1)),oI 16 (.bin .sub (.t 15) (.c (.int .i64 1))),oI 6 (.mov (.t 16))] none [6,5,0]) (.block 0 (.loop [6,5,0] ZmY))) ZnF))))
def Zkc:ZD:=⟨[(.tmp 4)],ZqS⟩
theorem ZOR:FC 61=some Zkc:=by kernel_rfl
theorem ZFw:Zkc.body=ZqS:=rfl
theorem Zxx:Zkc.res=[(.tmp 4)]:=rfl
noncomputable def Zkg (m:Nat) (tm:Tms) (σ:Za):Option (AVal×Za):=(Zat m Zkc (ZbF FC PR BY m ZnF (Option.map (ZaX 0) (evL FC PR BY m [6,5,0] ZmY tm σ))))
def ZkG:Ze:=(.seq (.region [oI 2 (.mov (.c (.lst true []))),oI 3 (.mov (.c (.int .i64 0)))] none [0]) (.seq (.seq (.region [oI 4 (.mov (.t 0)),oI 5 (.call 88 0 true [(.t 4)]),oI 6 (.un .not (.t 5))] none [6,0]) (.cond (.t 6) (.seq (.region [oI 2 (.mov (.c (.lst true []))),oI 3 (.mov (.c (.int .i64 13)))] none [3,2]) .ret) .skip)) (.seq (.region [oI 7 (.mov (.t 0)),oI 8 (.s2b (.t 7)),oI 9 (.call 85 0 true [(.t 8)]),oI 10 (.ext (.t 9) 0),oI 11 (.ext (.t 9) 1),oI 2 (.mov (.t 10)),oI 3 (.mov (.t 11))] none [3,2]) .ret)))
def ZpA:ZD:=⟨[(.tmp 2),(.tmp 3)],ZkG⟩
theorem ZrX:FC 63=some ZpA:=by kernel_rfl
theorem ZvH:ZpA.body=ZkG:=rfl
theorem ZtO:ZpA.res=[(.tmp 2),(.tmp 3)]:=rfl
def ZlE:Ze:=(.seq (.region [oI 21 (.mov (.t 4)),oI 22 (.mov (.t 0)),oI 23 (.i2i .u8 (.t 22)),oI 24 (.bslice false 1 1 (.int .u8 0) [(0,(.t 23))]),oI 25 (.app 1 1 (.int .u8 0) (.t 21) (.t 24)),oI 2 (.mov (.t 25)),oI 3 (.mov (.c (.int .i64 0)))] none [3,2]) .ret)
def ZmS:Ze:=ZlE
def ZvU:=xw ZmS ZlE rfl
def Zhn:Ze:=(.seq (.seq (.region [oI 11 (.mov (.t 0)),oI 12 (.bin .gtr (.t 11) (.c (.int .i64 127)))] none [12,4,0]) (.cond (.t 12) .skip (.exit 0))) (.seq (.block 1 (.region [oI 15 (.mov (.t 4)),oI 16 (.mov (.t 0)),oI 17 (.i2i .u8 (.t 16)),oI 18 (.bin .or (.t 17) (.c (.int .u8 128))),oI 19 (.bslice false 1 1 (.int .u8 0) [(0,(.t 18))]),oI 20 (.app 1 1 (.int .u8 0) (.t 15) (.t 19)),oI 4 (.mov (.t 20))] none [4,0])) (.region [oI 13 (.mov (.t 0)),oI 14 (.bin .shr (.t 13) (.c (.int .u64 7))),oI 0 (.mov (.t 14))] none [4,0])))
def ZpL:Ze:=Zhn
def Zmy:=xw ZpL Zhn rfl
def ZiK:Ze:=(.seq (.region [oI 2 (.mov (.c (.lst true []))),oI 3 (.mov (.c (.int .i64 0)))] none [0]) (.seq (.seq (.region [oI 5 (.mov (.t 0)),oI 6 (.bin .lss (.t 5) (.c (.int .i64 0))),oI 7 (.mov (.t 6)),⟨(some 8),(.mov (.t 0)),(some (7,false)),[]⟩,⟨(some 9),(.bin .gtr (.t 8) (.c (.int .i64 268435455))),(some (7,false)),[]⟩,oI 10 (.pick (.t 7) (.c (.bool true)) (.t 9))] none [10,0]) (.cond (.t 10) (.seq (.region [oI 2 (.mov (.c (.lst true []))),oI 3 (.mov (.c (.int .i64 10)))] none [3,2]) .ret) .skip)) (.seq (.region [oI 4 (.mov (.c (.lst true [])))] none [4,0]) (.seq (.block 0 (.loop [4,0] ZpL)) ZmS))))
def Zk2:ZD:=⟨[(.tmp 2),(.tmp 3)],ZiK⟩
theorem ZML:FC 18=some Zk2:=by kernel_rfl
theorem Zn5:Zk2.body=ZiK:=rfl
theorem Zmm:Zk2.res=[(.tmp 2),(.tmp 3)]:=rfl
noncomputable def Zmn (m:Nat) (tm:Tms) (σ:Za):Option (AVal×Za):=(Zat m Zk2 (ZbF FC PR BY m ZmS (Option.map (ZaX 0) (evL FC PR BY m [4,0] ZpL tm σ))))
end
section
open Go.RowKit
inductive Ty where
 | bool
 | int (k:IntKind)
 | str
 | slice (s:Bool) (e:Ty)
 | struct (fs:List Ty)
 deriving Inhabited
def ZdQ:Option TypeDesc->Bool
 | some (.struct _)=>true
 | some (.array _ _)=>true
 | _=>false
def ZiI (P:Program):Nat->List Field->Nat->Bool
 | at',[],n=>at' == n
 | at',f::fs,n=>f.offset == at' && ZiI P (at'+P.cellsOf f.type) fs n
def Zdi (P:Program):Nat->TypeId->Option Ty
 | 0,_=>none
 | n+1,t=>match P.underlying t with
  | some .bool=>some .bool
  | some (.int k)=>some (.int k)
  | some .string=>some .str
  | some (.slice e)=>if 0 < P.cellsOf e then (Zdi P n e).map (.slice (ZdQ (P.underlying e))) else none
  | some (.struct fs)=>if ZiI P 0 fs.toList (P.cellsOf t) then (fs.toList.mapM fun f=>Zdi P n f.type).map .struct else none
  | _=>none
def Zca (s:Bool) (y:List AVal):AVal:=if s then .agg y else y.headD .nilp
mutual
def TyC:Ty->List AVal->Prop
 | .bool,xs=>∃ b,xs=[.bool b]
 | .int k,xs=>∃ n,(Lit.int k n).wf=true/\xs=[.int k n]
 | .str,xs=>∃ l:List UInt8,l.length<=9223372036854775807/\xs=[.str l]
 | .slice s e,xs=>∃ ys:List (List AVal),xs=[.lst false (ys.map (Zca s))]/\ys.length<=9223372036854775807/\∀ y ∈ ys,TyC e y
 | .struct fs,xs=>Zgn fs xs
def Zgn:List Ty->List AVal->Prop
 | [],xs=>xs=[]
 | f::fs,xs=>∃ a b,xs=a++b/\TyC f a/\Zgn fs b
end
def Imm.of (w:World):Imm:=fun b o=>w.cell? ⟨b,o,none⟩
section
variable {H:Type} {enc:TypeId×Value->H} {P:Program} {w:World} {spare:Nat->Bool} {held:Bool}
theorem Zz2 {b off:Nat} {s:Option Nat} {u:Value} (h:w.cell? ⟨b,off,s⟩=some u):s=none:=by
 unfold World.cell? at h
 split at h
 ·rcases s with _ | s
  ·rfl
  ·simp at h
 ·cases h
theorem ZLD {s:Bool} {y:List AVal} (h:s=false->y.length=1) (h1:s=false->∀ x ∈ y,ZR x=true):(Zca s y).cells=y:=by
 cases s with
 | true=>rfl
 | false =>
  match y,h rfl with
  | [x],_ =>
   have:=h1 rfl x (by simp)
   cases x <;> simp_all [Zca,AVal.cells,ZR]
theorem ZDp {a:Addr} (h:a.spot=none) (n:Nat):a.add n=⟨a.block,a.off+n,none⟩:=by
 unfold Addr.add
 split
 ·rename_i e;subst e;cases a;simp_all
 ·rfl
theorem ZzN {I:Imm} {β:Bmap} {xs:List AVal} {vs:List Value} {n:Nat} (h:VRs I β xs (vs.take n)) {ys:List AVal} (h':VRs I β ys (vs.drop n)):VRs I β (xs++ys) vs:=by
 have:=Zcg h h'
 rwa [List.take_append_drop] at this
theorem ZuE {α β:Type} {f:α->Option β} {a:α} {l:List α} {r:List β} (h:(a::l).mapM f=some r):∃ b r',f a=some b/\l.mapM f=some r'/\r=b::r':=by
 rw [List.mapM_cons] at h
 simp only [Option.bind_eq_bind,Option.bind_eq_some_iff,Option.pure_def,Option.some.injEq] at h
 obtain ⟨b,h1,r',h2,h3⟩:=h
 exact ⟨b,r',h1,h2,h3.symm⟩
theorem ZIy {a b:List AVal} (ha:ZaK a=true) (hb:ZaK b=true):ZaK (a++b)=true:=by
 induction a with
 | nil=>exact hb
 | cons x a ih=>simp only [List.cons_append,ZaK,Bool.and_eq_true] at ha ⊢;exact ⟨ha.1,ih ha.2⟩
theorem ZtJ {n fuel:Nat} {cs:List Value} (ih:∀ (t:TypeId) (cs:List Value) (x:DataW H×List MemPlace) (T:Ty),Zdi P n t=some T->DataW.trod enc P w 0 spare held fuel t cs=some x->∃ xs,TyC T xs/\VRs (Imm.of w) B0 xs cs/\ZaK xs=true) :
  ∀ (fs:List Field) (at':Nat) (Ts:List Ty) (ys:List (DataW H×List MemPlace)),ZiI P at' fs cs.length=true->fs.mapM (fun f=>Zdi P n f.type)=some Ts ->
   fs.mapM (fun f=>DataW.trod enc P w 0 spare held fuel f.type ((cs.drop f.offset).take (P.cellsOf f.type)))=some ys->∃ xs,Zgn Ts xs/\VRs (Imm.of w) B0 xs (cs.drop at')/\ZaK xs=true
 | [],at',Ts,ys,ho,hT,_=>by
  simp only [ZiI,beq_iff_eq] at ho
  simp only [List.mapM_nil,Option.pure_def,Option.some.injEq] at hT
  subst hT ho
  exact ⟨[],by simp only [Zgn],by simp [VRs],rfl⟩
 | f::fs,at',Ts,ys,ho,hT,h=>by
  simp only [ZiI,Bool.and_eq_true,beq_iff_eq] at ho
  obtain ⟨T,Ts',h1,h2,rfl⟩:=ZuE hT
  obtain ⟨y,ys',h3,h4,rfl⟩:=ZuE h
  obtain ⟨a,a1,a2,a3⟩:=ih _ _ _ _ h1 h3
  obtain ⟨b,b1,b2,b3⟩:=ZtJ ih fs _ _ _ ho.2 h2 h4
  rw [ho.1] at a2
  refine ⟨a++b,by simp only [Zgn];exact ⟨a,b,rfl,a1,b1⟩,ZzN a2 (by rw [List.drop_drop];exact b2),ZIy a3 b3⟩
theorem Zs7 {I:Imm} {β:Bmap} {s:Bool} {k b:Nat}:∀ (n off:Nat) (Y:Nat->List AVal),(∀ i,i < n->(Zca s (Y i)).cells.length=k/\CR I β (Zca s (Y i)).cells b (off+i*k))->LR I β k ((List.range n).map fun i=>Zca s (Y i)) b off
 | 0,off,Y,_=>by simp [LR]
 | n+1,off,Y,h=>by
  rw [List.range_succ_eq_map,List.map_cons,Zgm]
  have h0:=h 0 (by omega)
  simp only [Nat.zero_mul,Nat.add_zero] at h0
  refine ⟨h0,?_⟩
  rw [List.map_map]
  exact Zs7 n (off+k) (fun i=>Y (i+1)) (fun i hi=>by
   have:=h (i+1) (by omega)
   rw [show off+k+i*k=off+(i+1)*k by rw [Nat.succ_mul];omega]
   exact this)
theorem ZtA {I:Imm} {β:Bmap} {b:Nat}:∀ (xs:List AVal) (cs:List Value) (off:Nat),VRs I β xs cs->(∀ i,i < cs.length->I b (off+i)=cs[i]?)->CR I β xs b off
 | [],_,_,_,_=>by simp only [CR]
 | x::xs,cs,off,h,hI=>by
  simp only [VRs] at h
  obtain ⟨v,vs',rfl,h1,h2⟩:=h
  simp only [CR]
  refine ⟨⟨v,by have:=hI 0 (by simp);simpa using this,h1⟩,ZtA xs vs' (off+1) h2 fun i hi=>?_⟩
  have:=hI (i+1) (by simp;omega)
  rw [show off+1+i=off+(i+1) by omega,this]
  simp
theorem Zpw {s:Bool}:∀ (n:Nat) (Y:Nat->List AVal),(∀ i,i < n->ZaK (Zca s (Y i)).cells=true)->Zaf ((List.range n).map fun i=>Zca s (Y i))=true
 | 0,Y,_=>by simp [Zaf]
 | n+1,Y,h=>by
  rw [List.range_succ_eq_map,List.map_cons,Ztu,h 0 (by omega),List.map_map]
  simp only [Bool.true_and]
  exact Zpw n (fun i=>Y (i+1)) (fun i hi=>h (i+1) (by omega))
theorem ZsJ {xs:List AVal} (h:ZaK xs=true):∀ x ∈ xs,ZR x=true:=by
 induction xs with
 | nil=>intro x hx;simp at hx
 | cons y ys ih =>
  simp only [ZaK,Bool.and_eq_true] at h
  intro x hx
  rcases List.mem_cons.1 hx with rfl | hx
  ·cases x <;> simp_all [ZaP,ZR]
  ·exact ih h.2 x hx
theorem ZvF {n:Nat} {e:TypeId} {T:Ty} (hT:Zdi P n e=some T) (hs:ZdQ (P.underlying e)=false) {xs:List AVal} (h:TyC T xs):xs.length=1:=by
 cases n with
 | zero=>simp [Zdi] at hT
 | succ n =>
  simp only [Zdi] at hT
  split at hT
  ·injection hT with hT;subst hT;simp only [TyC] at h;obtain ⟨_,rfl⟩:=h;rfl
  ·injection hT with hT;subst hT;simp only [TyC] at h;obtain ⟨_,_,rfl⟩:=h;rfl
  ·injection hT with hT;subst hT;simp only [TyC] at h;obtain ⟨_,_,rfl⟩:=h;rfl
  ·split at hT
   ·simp only [Option.map_eq_some_iff] at hT
    obtain ⟨T',_,rfl⟩:=hT
    simp only [TyC] at h;obtain ⟨_,rfl,_⟩:=h;rfl
   ·cases hT
  ·rename_i hu;rw [hu] at hs;simp [ZdQ] at hs
  ·cases hT
theorem ZqB:∀ (n fuel:Nat) (t:TypeId) (cs:List Value) (x:DataW H×List MemPlace) (T:Ty),Zdi P n t=some T->DataW.trod enc P w 0 spare held fuel t cs=some x ->
  ∃ xs,TyC T xs/\VRs (Imm.of w) B0 xs cs/\ZaK xs=true
 | 0,fuel,t,cs,x,T,hT,_=>by simp [Zdi] at hT
 | n+1,0,t,cs,x,T,_,h=>by simp [DataW.trod] at h
 | n+1,fuel+1,t,cs,x,T,hT,h=>by
  have h0:=h
  simp only [Zdi] at hT
  unfold DataW.trod at h
  split at hT
  ·rename_i hu
   injection hT with hT;subst hT
   obtain ⟨b,rfl,_⟩:=DataW.trod_bool hu h0
   exact ⟨[.bool b],by simp only [TyC];exact ⟨b,rfl⟩,by simp [VRs,VR],rfl⟩
  ·rename_i k hu
   injection hT with hT;subst hT
   obtain ⟨n',rfl,_,hk⟩:=DataW.trod_int hu h0
   exact ⟨[.int k n'],by simp only [TyC];exact ⟨n',hk,rfl⟩,by simp [VRs,VR],rfl⟩
  ·rename_i hu
   injection hT with hT;subst hT
   obtain ⟨s,rfl,_,hs⟩:=DataW.trod_string hu h0
   have hs':s.data.toList.length<=9223372036854775807:=by
    rw [Array.length_toList];exact Nat.le_trans hs (by simp [maxLen])
   exact ⟨[.str s.data.toList],by simp only [TyC];exact ⟨_,hs',rfl⟩,by simp only [VRs,VR];exact ⟨_,_,rfl,⟨by simp,hs'⟩,rfl⟩,rfl⟩
  ·rename_i e hu
   split at hT
   case isFalse=>cases hT
   rename_i hc
   simp only [Option.map_eq_some_iff] at hT
   obtain ⟨T,hT,rfl⟩:=hT
   rcases Go.Deep.open_slice hu h0 with ⟨hcs,_⟩ | ⟨a,len,cap,m,n',D,Pl,hcs,_,hl,hm,hmm,_,hi⟩
   ·subst hcs
    exact ⟨[.lst false []],by simp only [TyC];exact ⟨[],by simp,by simp,by simp⟩,by simp only [VRs,VR];exact ⟨_,_,rfl,⟨none,0,rfl,by simp,by simp,by simp,by simp,by simp [Zaf]⟩,rfl⟩,rfl⟩
   ·have hlm:len<=m:=by split at hmm <;> omega
    have hspot:0 < len->a.spot=none:=by
     intro h0
     obtain ⟨cs',h1,h2⟩:=hi 0 (by omega)
     obtain ⟨_,h6,h7⟩:=World.cells?_some h1
     have h8:=h7 0 hc
     obtain ⟨u,hu⟩:∃ u,cs'[0]?=some u:=⟨cs'[0]'(by omega),by simp⟩
     rw [hu] at h8
     simp only [Nat.zero_mul,Addr.add,if_true] at h8
     exact Zz2 (b:=a.block) (off:=a.off) (s:=a.spot) (u:=u) h8
    have hall:∀ i,∃ xs,i < len->TyC T xs/\(Zca (ZdQ (P.underlying e)) xs).cells=xs/\xs.length=P.cellsOf e/\CR (Imm.of w) B0 xs a.block (a.off+i*P.cellsOf e)/\ZaK xs=true:=by
     intro i
     by_cases hlt:i < len
     ·obtain ⟨cs',h1,h2⟩:=hi i (by omega)
      obtain ⟨xs,h3,h4,h5⟩:=ZqB n n' e cs' _ T hT h2
      obtain ⟨_,h6,h7⟩:=World.cells?_some h1
      have hlen:=ZaO h4
      refine ⟨xs,fun _=>⟨h3,ZLD (fun hs=>ZvF hT hs h3) (fun _=>ZsJ h5),by omega,ZtA xs cs' _ h4 (fun j hj=>?_),h5⟩⟩
      have h8:=h7 j (by omega)
      rw [Go.Deep.add_add,ZDp (hspot (by omega)),<-Nat.add_assoc] at h8
      exact h8
     ·exact ⟨[],fun h=>absurd h hlt⟩
    obtain ⟨Y,hY⟩:=Classical.axiomOfChoice hall
    subst hcs
    have hmx:maxLen=9223372036854775807:=by simp [maxLen]
    rw [hmx] at hm
    refine ⟨[.lst false ((List.range len).map fun i=>Zca (ZdQ (P.underlying e)) (Y i))],?_,?_,?_⟩
    ·simp only [TyC]
     refine ⟨(List.range len).map Y,by rw [List.map_map];rfl,by simp;omega,?_⟩
     intro y hy
     obtain ⟨i,hi',rfl⟩:=List.mem_map.1 hy
     exact (hY i (List.mem_range.1 hi')).1
    ·simp only [VRs,VR,List.length_map,List.length_range]
     refine ⟨_,_,rfl,⟨some a,cap,rfl,hl,hm,by simp,?_,Zpw len Y fun i hlt=>by rw [(hY i hlt).2.1];exact (hY i hlt).2.2.2.2⟩,rfl⟩
     cases len with
     | zero=>exact Or.inl (by simp)
     | succ len =>
      refine Or.inr ⟨a.block,a.off,P.cellsOf e,?_,hc,Zs7 (len+1) a.off Y fun i hlt=>?_⟩
      ·have:=hspot (by omega)
       cases a;simp_all
      ·rw [(hY i hlt).2.1];exact ⟨(hY i hlt).2.2.1,(hY i hlt).2.2.2.1⟩
    ·simp only [ZaK,ZaP,Bool.and_true]
     exact Zpw len Y fun i hlt=>by rw [(hY i hlt).2.1];exact (hY i hlt).2.2.2.2
  ·rename_i fs hu
   split at hT
   case isFalse=>cases hT
   rename_i ho
   simp only [Option.map_eq_some_iff] at hT
   obtain ⟨Ts,hT,rfl⟩:=hT
   rw [hu] at h
   simp only at h
   split at h
   ·rename_i hl
    simp only [Option.map_eq_some_iff] at h
    obtain ⟨ys,hy,rfl⟩:=h
    obtain ⟨xs,h1,h2,h3⟩:=ZtJ (fun t cs x T h h'=>ZqB n fuel t cs x T h h') fs.toList 0 Ts ys (by rw [hl];exact ho) hT hy
    exact ⟨xs,by simp only [TyC];exact h1,h2,h3⟩
   ·cases h
  ·cases hT
def Zjq (s:Bool) (T:Ty) (x:AVal):Prop:=∃ xs,TyC T xs/\x=Zca s xs
theorem Zih {n:Nat} {t:TypeId} {v:Value} {d:DataW H} {ps:List MemPlace} {T:Ty} {r:Reach} {b0:Nat} (hT:Zdi P n t=some T) (hv:Value.okWide P w r b0 t v) (h:DataW.Trod enc P w 0 spare held t v d ps) :
  ∃ x,Zjq (ZdQ (P.underlying t)) T x/\VR (Imm.of w) B0 x v/\ZaK x.cells=true:=by
 obtain ⟨fuel,h⟩:=h
 obtain ⟨xs,h1,h2,h3⟩:=ZqB n fuel t _ _ T hT h
 refine ⟨Zca (ZdQ (P.underlying t)) xs,⟨xs,h1,rfl⟩,?_⟩
 by_cases hs:ZdQ (P.underlying t)=true
 ·have : ∃ cs,v=.agg cs:=by
   unfold Value.okWide at hv
   cases hu:P.underlying t with
   | none=>rw [hu] at hs;simp [ZdQ] at hs
   | some dd =>
    rw [hu] at hv hs
    cases dd <;> first | (simp [ZdQ] at hs;done) | (obtain ⟨cs,e,_⟩:=hv;exact ⟨cs,e⟩)
  obtain ⟨cs,rfl⟩:=this
  rw [hs]
  exact ⟨by simp only [Zca,if_true,VR];exact ⟨cs,rfl,h2⟩,h3⟩
 ·have hs':ZdQ (P.underlying t)=false:=by simpa using hs
  have hl:=ZvF hT hs' h1
  have hlen:=ZaO h2
  rw [hs']
  match xs,hl with
  | [x],_ =>
   simp only [Zca,Bool.false_eq_true,if_false,List.headD_cons]
   have hvc:v.cells=#[v]:=by
    cases n with
    | zero=>simp [Zdi] at hT
    | succ n =>
     simp only [Zdi] at hT
     split at hT
     ·rename_i hu;obtain ⟨b,rfl⟩:=Go.WideShapes.okWide_bool hu hv;rfl
     ·rename_i k hu;obtain ⟨b,rfl⟩:=Go.WideShapes.okWide_int hu hv;rfl
     ·rename_i hu;obtain ⟨b,rfl⟩:=Go.WideShapes.okWide_string hu hv;rfl
     ·rename_i e hu;obtain ⟨a,l,c,rfl⟩:=Go.WideShapes.okWide_slice hu hv;rfl
     ·rename_i fs hu;rw [hu] at hs';simp [ZdQ] at hs'
     ·cases hT
   rw [hvc] at h2
   simp only [VRs] at h2
   obtain ⟨v',vs',e,h2,_⟩:=h2
   simp only [List.cons.injEq] at e
   rw [e.1]
   refine ⟨h2,?_⟩
   have hok:=ZsJ h3 x (by simp)
   have hx:x.cells=[x]:=by cases x <;> first | rfl | (simp [ZR] at hok;done)
   rw [hx];exact h3
theorem Rel.start (w:World) (hG:Gl.le (Imm.of w)):Rel (fun b=>b < w.heap.size) w (Imm.of w) (Imm.of w) B0 [] w where
 below:=KB.refl _ w
 old:=fun _ _ _=>rfl
 imm:=fun _ _ _ h=>h
 blk:=fun t x h=>by simp at h
 own:=fun t x b h=>by simp at h
 apart:=fun t x t' x' b h=>by simp at h
 fresh:=fun _ _ _=>rfl
 free:=fun t g h=>by simp at h
 gen:=fun t b g h=>by simp at h
 glob:=hG
theorem ZAK {O:ZO} (hO:ZaE P O) {f:Nat} {args:List AVal} {vs:Array Value} {σ':Za} (hG:Gl.le (Imm.of w)) (hargs:VRs (Imm.of w) B0 args vs.toList) (h:O f args []=some (.bool true,σ')) :
  Calls P f vs w (fun e w'=>e=.returned (.bool true)/\Below w.heap.size w w'):=by
 refine ((hO f args [] _ _ h).2 _ w _ _ B0 w vs (fun b hb=>hb) (Rel.start w hG) hargs).mono ?_
 rintro e w' ⟨u,he,I',β',_,_,R,hv⟩
 simp only [ZaT,VR] at hv
 subst hv
 exact ⟨he,R.below.os,R.below.tape,R.below.output,R.below.size,R.below.block⟩
end
end
section
open Go.RowKit
theorem ZKV (id:Nat) (tm:Tms) (σ:Za):ZaX id (.normal,tm,σ)=(.normal,tm,σ):=rfl
theorem ZCp (id i:Nat) (tm:Tms) (σ:Za):ZaX id (.exit i,tm,σ)=if i=id then (.normal,tm,σ) else (.exit i,tm,σ):=by simp only [ZaX]
theorem ZPI (id:Nat) (tm:Tms) (σ:Za):ZaX id (.ret,tm,σ)=(.ret,tm,σ):=rfl
theorem ZyD (id:Nat) (x:AVal) (tm:Tms) (σ:Za):ZaX id (.panic x,tm,σ)=(.panic x,tm,σ):=rfl
section
variable (O:ZO) (bf:Nat->Bool)
def ZdD (c:Cls):Option (Tms×Za×List Cls×Option AVal)->Option (Tms×Za×List Cls×Option AVal)
 | none=>none
 | some (tm,σ,cs,p)=>some (tm,σ,c::cs,p)
def ZgI (c:List Cls):Option (Tms×Za×List Cls×Option AVal)->Option (Tms×Za×List Cls×Option AVal)
 | none=>none
 | some (tm,σ,cs,p)=>some (tm,σ,c++cs,p)
def kC (d:Option Nat) (os:List AOp) (s:Nat) (tm:Tms):Option (AVal×Za×Cls)->Option (Tms×Za×List Cls×Option AVal)
 | none=>none
 | some (v,σ,c)=>if ZaR v then some (tput tm d v,σ,[c],some (ZaT v)) else ZdD c (ZX O bf os s (tput tm d v) σ)
def ZeV (ops:List AOp) (L:Nat) (l:List (Nat×Nat)) (live:List Nat):Option (Tms×Za×List Cls×Option AVal)->Option (ZaW×Tms×Za)
 | none=>none
 | some (_,σ,cs,some x)=>if Zdq ops L l cs then some (.panic x,[],σ) else none
 | some (tm,σ,cs,none)=>if Zdg ops L l cs then some (.normal,keepL live tm,σ) else none
variable {O bf}
theorem Zwf (s:Nat) (tm:Tms) (σ:Za):ZX O bf [] s tm σ=some (tm,σ,[],none):=rfl
theorem ZJm (c:Cls) (tm:Tms) (σ:Za) (cs:List Cls) (p:Option AVal):ZdD c (some (tm,σ,cs,p))=some (tm,σ,c::cs,p):=rfl
theorem ZLd (c:Cls):ZdD c none=none:=rfl
theorem ZEs (c:Cls) (q:Prop) [Decidable q] (x y:Option (Tms×Za×List Cls×Option AVal)):ZdD c (if q then x else y)=if q then ZdD c x else ZdD c y:=by split <;> rfl
theorem ZzP (c:List Cls) (tm:Tms) (σ:Za) (cs:List Cls) (p:Option AVal):ZgI c (some (tm,σ,cs,p))=some (tm,σ,c++cs,p):=rfl
theorem ZE7 (c:List Cls):ZgI c none=none:=rfl
theorem ZCI (c:List Cls) (q:Prop) [Decidable q] (x y:Option (Tms×Za×List Cls×Option AVal)):ZgI c (if q then x else y)=if q then ZgI c x else ZgI c y:=by split <;> rfl
theorem Zks {o:AOp} {os:List AOp} {s:Nat} {tm tm1:Tms} {σ σ1:Za} {v:AVal} {c:Cls} (h:ZN O bf o s tm σ=some (v,tm1,σ1,c)) (hn:ZaR v=false):ZX O bf (o::os) s tm σ=ZdD c (ZX O bf os (s+nsite o.ins) tm1 σ1):=by
 rw [ZtM h hn]
 cases ZX O bf os (s+nsite o.ins) tm1 σ1 <;> rfl
theorem ZqZ (d:Option Nat) (i:Ins) (af:List Nat) (os:List AOp) (s:Nat) (tm:Tms) (σ:Za):ZX O bf (⟨d,i,none,af⟩::os) s tm σ=kC O bf d os (s+nsite i) tm (exI O bf i s tm σ):=by
 cases h:exI O bf i s tm σ with
 | none=>exact ZiL (by rw [Zkk,h];rfl)
 | some q =>
  obtain ⟨v,σ1,c⟩:=q
  have hs:ZN O bf ⟨d,i,none,af⟩ s tm σ=some (v,tput tm d v,σ1,c):=by rw [Zkk,h];rfl
  cases hp:ZaR v with
  | true =>
   obtain ⟨x,rfl⟩:=Zmx hp
   exact Zkq hs
  | false =>
   rw [Zks hs hp]
   simp only [kC,hp,Bool.false_eq_true,if_false]
theorem Zot (d:Option Nat) (os:List AOp) (s:Nat) (tm:Tms) (v:AVal) (σ:Za) (c:Cls) (h:ZaR v=false):kC O bf d os s tm (some (v,σ,c))=ZdD c (ZX O bf os s (tput tm d v) σ):=by
 simp only [kC,h,Bool.false_eq_true,if_false]
theorem ZOK (d:Option Nat) (os:List AOp) (s:Nat) (tm:Tms) (x:AVal) (σ:Za) (c:Cls):kC O bf d os s tm (some (.pan x,σ,c))=some (tput tm d (.pan x),σ,[c],some x):=rfl
theorem ZGP (d:Option Nat) (os:List AOp) (s:Nat) (tm:Tms):kC O bf d os s tm none=none:=rfl
theorem ZwS (d:Option Nat) (os:List AOp) (s:Nat) (tm:Tms) (q:Prop) [Decidable q] (x y:Option (AVal×Za×Cls)):kC O bf d os s tm (if q then x else y)=if q then kC O bf d os s tm x else kC O bf d os s tm y:=by split <;> rfl
theorem ZDh (ops:List AOp) (l:List (Nat×Nat)) (live:List Nat) (tm:Tms) (σ:Za):ZbU O bf ops (some l) live tm σ=ZeV ops σ.length l live (ZX O bf ops σ.length tm (σ++List.replicate (sitesOf ops) .free)):=by
 unfold ZbU
 cases ZX O bf ops σ.length tm (σ++List.replicate (sitesOf ops) .free) with
 | none=>rfl
 | some q =>
  obtain ⟨tm',σ',cs,p⟩:=q
  cases p <;> rfl
theorem Zv0 (ops:List AOp) (L:Nat) (l:List (Nat×Nat)) (live:List Nat) (tm:Tms) (σ:Za) (cs:List Cls) (h:Zdg ops L l cs=true):ZeV ops L l live (some (tm,σ,cs,none))=some (.normal,keepL live tm,σ):=by
 simp only [ZeV,h,if_true]
theorem ZhS (ops:List AOp) (L:Nat) (l:List (Nat×Nat)) (live:List Nat) (tm:Tms) (σ:Za) (cs:List Cls) (x:AVal) (h:Zdq ops L l cs=true):ZeV ops L l live (some (tm,σ,cs,some x))=some (.panic x,[],σ):=by
 simp only [ZeV,h,if_true]
theorem ZPf (ops:List AOp) (L:Nat) (l:List (Nat×Nat)) (live:List Nat):ZeV ops L l live none=none:=rfl
theorem ZNl (ops:List AOp) (L:Nat) (l:List (Nat×Nat)) (live:List Nat) (q:Prop) [Decidable q] (x y:Option (Tms×Za×List Cls×Option AVal)):ZeV ops L l live (if q then x else y)=if q then ZeV ops L l live x else ZeV ops L l live y:=by split <;> rfl
theorem ZIS (ops:List AOp) (L:Nat) (l:List (Nat×Nat)) (cs:List Cls) (h:(cs.all fun c=>c.wr.isEmpty && !c.any)=true) (hs:(l.all fun p=>p.1 == p.2 || nsite (ops.getD p.1 default).ins == 0)=true):Zdg ops L l cs=true:=by
 have hd:∀ i,ZdM (cs.getD i {})=true:=by
  intro i
  rw [List.all_eq_true] at h
  rw [List.getD_eq_getElem?_getD]
  cases hi:cs[i]? with
  | none=>rfl
  | some c=>exact h c (List.mem_of_getElem? hi)
 unfold Zdg
 rw [List.all_eq_true] at hs ⊢
 intro p hp
 have:=hs p hp
 rw [Bool.or_eq_true] at this ⊢
 rcases this with this | this
 ·exact Or.inl this
 ·refine Or.inr ?_
  unfold Zct
  simp only [hd,this,Bool.and_true,Bool.true_and,Bool.true_or,Bool.or_true]
theorem ZG9 (ops:List AOp) (L:Nat) (l:List (Nat×Nat)) (live:List Nat) (tm:Tms) (σ:Za) (cs:List Cls) (h:(cs.all fun c=>c.wr.isEmpty && !c.any)=true) (hs:(l.all fun p=>p.1 == p.2 || nsite (ops.getD p.1 default).ins == 0)=true):ZeV ops L l live (some (tm,σ,cs,none))=some (.normal,keepL live tm,σ) :=
 Zv0 _ _ _ _ _ _ _ (ZIS _ _ _ _ h hs)
variable (O bf) in
def gKC (os:List AOp) (s:Nat):Option (Tms×Za×List Cls×Option AVal)->Option (Tms×Za×List Cls×Option AVal)
 | none=>none
 | some (tm,σ,cs,some x)=>some (tm,σ,cs,some x)
 | some (tm,σ,cs,none)=>ZgI cs (ZX O bf os s tm σ)
theorem ZLU (os:List AOp) (s:Nat) (tm:Tms) (σ:Za) (cs:List Cls):gKC O bf os s (some (tm,σ,cs,none))=ZgI cs (ZX O bf os s tm σ):=rfl
theorem ZLk (os:List AOp) (s:Nat) (q:Prop) [Decidable q] (x y:Option (Tms×Za×List Cls×Option AVal)):gKC O bf os s (if q then x else y)=if q then gKC O bf os s x else gKC O bf os s y:=by split <;> rfl
theorem ZLh (os:List AOp) (s:Nat) (c:Cls) (r:Option (Tms×Za×List Cls×Option AVal)):gKC O bf os s (ZdD c r)=ZdD c (gKC O bf os s r):=by
 cases r with
 | none=>rfl
 | some q =>
  obtain ⟨tm,σ,cs,p⟩:=q
  cases p with
  | some x=>rfl
  | none =>
   simp only [ZdD,gKC]
   cases ZX O bf os s tm σ <;> rfl
theorem Zux:∀ (a b:List AOp) (s:Nat) (tm:Tms) (σ:Za),ZX O bf (a++b) s tm σ=gKC O bf b (s+sitesOf a) (ZX O bf a s tm σ)
 | [],b,s,tm,σ=>by
  simp only [List.nil_append,Zwf,gKC,sitesOf,List.map_nil,List.sum_nil,Nat.add_zero]
  cases ZX O bf b s tm σ <;> rfl
 | o::a,b,s,tm,σ=>by
  have ih:=Zux a b
  simp only [List.cons_append]
  have hs:s+nsite o.ins+sitesOf a=s+sitesOf (o::a):=by simp [sitesOf,Nat.add_assoc]
  cases hst:ZN O bf o s tm σ with
  | none=>rw [ZiL hst,ZiL hst];rfl
  | some q =>
   obtain ⟨v,tm1,σ1,c⟩:=q
   cases hp:ZaR v with
   | true =>
    obtain ⟨x,rfl⟩:=Zmx hp
    rw [Zkq hst,Zkq hst];rfl
   | false=>rw [Zks hst hp,Zks hst hp,ih,hs,ZLh]
variable (O bf) in
def ZeL (j:Nat) (w:Bool) (g:List AOp) (s:Nat) (tm:Tms) (σ:Za):Option (Tms×Za×List Cls×Option AVal):=match Zbr (some (j,w)) tm with
 | none=>none
 | some false=>some (Zaw g tm,σ,g.map fun _=>{},none)
 | some true=>ZX O bf (g.map unG) s tm σ
theorem Zwv (j:Nat) (w:Bool):∀ (g:List AOp),(∀ o ∈ g,o.guard=some (j,w)/\o.dst≠some j)->∀ (s:Nat) (tm:Tms) (σ:Za),g≠[]->ZX O bf g s tm σ=ZeL O bf j w g s tm σ
 | [],_,_,_,_,h=>absurd rfl h
 | o::g,hall,s,tm,σ,_=>by
  obtain ⟨hg,hd⟩:=hall o (by simp)
  have ih:∀ (tm:Tms) (σ:Za) (s:Nat),Zbr (some (j,w)) tm≠none->ZX O bf g s tm σ=ZeL O bf j w g s tm σ:=by
   intro tm σ s hw
   by_cases he:g=[]
   ·subst he
    unfold ZeL
    cases hx:Zbr (some (j,w)) tm with
    | none=>exact absurd hx hw
    | some b=>cases b <;> rfl
   ·exact Zwv j w g (fun o ho=>hall o (by simp [ho])) s tm σ he
  cases hx:Zbr (some (j,w)) tm with
  | none =>
   rw [ZiL (by simp only [ZN,hg,hx])]
   simp only [ZeL,hx]
  | some b =>
   cases b with
   | false =>
    have h1:ZX O bf (o::g) s tm σ=ZdD {} (ZX O bf g (s+nsite o.ins) (tput tm o.dst (.tup [])) σ) :=
     Zks (v:=.tup []) (c:={}) (by simp only [ZN,hg,hx]) rfl
    rw [h1,ih _ _ _ (by rw [ZfD hd,hx];simp)]
    unfold ZeL
    rw [ZfD hd,hx]
    rfl
   | true =>
    have key:∀ r:Option (AVal×Za×Cls),(∀ v σ' c,r=some (v,σ',c)->ZaR v=false->ZX O bf g (s+nsite o.ins) (tput tm o.dst v) σ'=ZX O bf (g.map unG) (s+nsite o.ins) (tput tm o.dst v) σ')->kC O bf o.dst g (s+nsite o.ins) tm r=kC O bf o.dst (g.map unG) (s+nsite o.ins) tm r:=by
     intro r hr
     cases r with
     | none=>rfl
     | some q =>
      obtain ⟨v,σ',c⟩:=q
      cases hp:ZaR v with
      | true=>simp only [kC,hp,if_true]
      | false=>rw [Zot _ _ _ _ _ _ _ hp,Zot _ _ _ _ _ _ _ hp,hr v σ' c rfl hp]
    have h1:ZX O bf (o::g) s tm σ=kC O bf o.dst g (s+nsite o.ins) tm (exI O bf o.ins s tm σ):=by
     have h0:ZX O bf (o::g) s tm σ=ZX O bf (⟨o.dst,o.ins,none,o.after⟩::g) s tm σ:=by
      have hst:ZN O bf o s tm σ=ZN O bf ⟨o.dst,o.ins,none,o.after⟩ s tm σ:=by
       unfold ZN
       simp only [hg,hx]
       rfl
      simp only [ZX,hst]
     rw [h0,ZqZ]
    rw [h1]
    unfold ZeL
    rw [hx]
    simp only [List.map_cons]
    rw [show unG o=⟨o.dst,o.ins,none,o.after⟩ from rfl,ZqZ]
    refine key _ fun v σ' c _ _=>?_
    rw [ih _ _ _ (by rw [ZfD hd,hx];simp)]
    unfold ZeL
    rw [ZfD hd,hx]
theorem ZHW (d:Option Nat) (i:Ins) (j:Nat) (w:Bool) (af:List Nat) (os:List AOp) (s:Nat) (tm:Tms) (σ:Za) (hd:decide (d=some j)=false) :
  ZX O bf (⟨d,i,some (j,w),af⟩::os) s tm σ=gKC O bf (ZF j w os).2 (s+sitesOf (⟨d,i,some (j,w),af⟩::(ZF j w os).1)) (ZeL O bf j w (⟨d,i,some (j,w),af⟩::(ZF j w os).1) s tm σ):=by
 have h:=ZmW j w os
 have hall:∀ o ∈ (⟨d,i,some (j,w),af⟩::(ZF j w os).1:List AOp),o.guard=some (j,w)/\o.dst≠some j:=by
  intro o ho
  rcases List.mem_cons.1 ho with rfl | ho
  ·exact ⟨rfl,by simpa using hd⟩
  ·exact ZqH j w os o ho
 rw [<-Zwv j w _ hall s tm σ (by simp),<-Zux,List.cons_append,h]
variable (O bf) in
def gWC (w:Bool) (g:List AOp) (s:Nat) (tm:Tms) (σ:Za):AVal->Option (Tms×Za×List Cls×Option AVal)
 | .bool b=>if b=w then ZX O bf (g.map unG) s tm σ else some (Zaw g tm,σ,g.map fun _=>{},none)
 | .tup []=>some (Zaw g tm,σ,g.map fun _=>{},none)
 | _=>none
theorem ZF4 (j:Nat) (w:Bool) (g:List AOp) (s:Nat) (tm:Tms) (σ:Za):ZeL O bf j w g s tm σ=gWC O bf w g s tm σ (tget tm j):=by
 unfold ZeL Zbr
 simp only
 generalize tget tm j=v
 cases v
 case bool b=>cases b <;> cases w <;> rfl
 case tup vs=>cases vs <;> rfl
 all_goals rfl
theorem ZIL (w:Bool) (g:List AOp) (s:Nat) (tm:Tms) (σ:Za) (b:Bool):gWC O bf w g s tm σ (.bool b)=if b=w then ZX O bf (g.map unG) s tm σ else some (Zaw g tm,σ,g.map fun _=>{},none):=rfl
theorem ZNL (w:Bool) (g:List AOp) (s:Nat) (tm:Tms) (σ:Za):gWC O bf w g s tm σ (.tup [])=some (Zaw g tm,σ,g.map fun _=>{},none):=rfl
theorem ZwK (q:Prop) [Decidable q] (t1 t2:Tms) (σ1 σ2:Za) (cs:List Cls):(if q then some (t1,σ1,cs,(none:Option AVal)) else some (t2,σ2,cs,none))=some ((if q then t1 else t2),(if q then σ1 else σ2),cs,none):=by split <;> rfl
end
section
theorem Zj4 {r:AVal} {cs:List AVal} {σ:Za} (hr:ZK r=true) (hc:Zd cs=true):gcA 1 [r] (.var cs::σ)=([r],[.var cs]):=by
 have e1:=(Za8 (Zn (.var cs::σ) 1 [0]) r hr)
 have e2:=(ZaV (Zn (.var cs::σ) 1 [0]) cs hc)
 have h1:ZA 1 [r] (.var cs::σ)=[0]:=by
  have : Zr [r]=[]:=by simp only [Zr,e1.2,List.append_nil]
  simp only [ZA,this,List.range_one,List.flatMap_cons,List.flatMap_nil,List.append_nil,List.getD_cons_zero,ZP,e2.2]
  rfl
 simp only [gcA,h1,Zf,e1.1,Zu,List.getD_cons_zero,ZH,e2.1]
theorem ZW {r:AVal} {cs:List AVal} {σ:Za} (hr:ZK r=true) (hc:Zd cs=true):Zam 1 (.var cs::σ) r=some (r,[.var cs]):=by
 simp only [Zam,Zj4 hr hc]
theorem Ze1 {σ:Za} {t:Nat} {cs:List AVal} (hs:σ[t]?=some (.var cs)) (hc:Zd cs=true):Zy σ 1000 [t] []=[t]:=by
 have hd:σ.getD t .free=.var cs:=by simp [List.getD_eq_getElem?_getD,hs]
 have e2:=(ZaV (fun _ _=>none) cs hc).2
 show Zy σ (999+1) [t] []=[t]
 simp only [Zy,List.contains_nil,Bool.false_eq_true,if_false,hd,ZP,e2,List.nil_append]
end
end
section
section
variable (c:Prop) [Decidable c]
theorem ZPx (t1 t2:Tms) (σ1 σ2:Za):(if c then some (ZaW.normal,t1,σ1) else some (ZaW.normal,t2,σ2))=some (ZaW.normal,(if c then t1 else t2),(if c then σ1 else σ2)):=by split <;> rfl
theorem ZMy (t1 t2:Tms) (σ1 σ2:Za):(if c then some (ZaW.ret,t1,σ1) else some (ZaW.ret,t2,σ2))=some (ZaW.ret,(if c then t1 else t2),(if c then σ1 else σ2)):=by split <;> rfl
theorem ZMp (t1 t2:Tms) (σ1 σ2:Za):(if c then some (t1,σ1,(none:Option AVal)) else some (t2,σ2,none))=some ((if c then t1 else t2),(if c then σ1 else σ2),none):=by split <;> rfl
theorem ZHg (n:Nat) (a b:AVal):(if c then (n,a) else (n,b))=(n,if c then a else b):=by split <;> rfl
theorem Zya (a b:AVal) (σ1 σ2:Za):(if c then some (a,σ1) else some (b,σ2))=some ((if c then a else b),(if c then σ1 else σ2)):=by split <;> rfl
theorem Zw8 (a b:AVal) (σ1 σ2:Za) (x y:Cls):(if c then some (a,σ1,x) else some (b,σ2,y))=some ((if c then a else b),(if c then σ1 else σ2),if c then x else y):=by split <;> rfl
end
theorem ZLO {α:Type} (p:Bool) (x y z:α):(if p=true then x else (if p=false then y else z))=if p=true then x else y:=by cases p <;> rfl
theorem ZPw (ops:List AOp) (b:Nat) (cs:List Cls):Zdg ops b [] cs=true:=rfl
theorem ZyE (ops:List AOp) (b:Nat) (p:Nat×Nat) (l:List (Nat×Nat)) (cs:List Cls):Zdg ops b (p::l) cs=((p.1 == p.2 || Zct (ops.getD p.1 default) (ops.getD p.2 default) (cs.getD p.1 {}) (cs.getD p.2 {}) (b+sitesOf (ops.take p.1))) && Zdg ops b l cs):=by
 simp only [Zdg,List.all_cons]
theorem ZMH (oj oi:AOp) (cj ci:Cls) (sj:Nat):Zct oj oi cj ci sj=(Zb6 oj cj || Zb6 oi ci || (ZdM cj && ZdM ci && (nsite oj.ins == 0 || !ci.rd.contains sj)) || ((Zag oj.ins || (Zak oj.ins && !cj.any)) && (ZdM ci && ci.rd.isEmpty)) || (Zai oj.ins && Zag oi.ins && ci.any && Zao cj ci) || (Zai oj.ins && (Zak oi.ins || (Zav oi.ins && Zay cj ci)) && Zao cj ci)):=rfl
theorem ZMq (o:AOp) (rd wr:List Nat) (any:Bool) (got:List (Nat×Option Nat×Nat×AVal)) (upd:List (Nat×List AVal)):Zb6 o ⟨rd,wr,any,got,upd⟩=(nsite o.ins == 0 && rd.isEmpty && wr.isEmpty && !any):=rfl
theorem ZBS (rd wr:List Nat) (any:Bool) (got:List (Nat×Option Nat×Nat×AVal)) (upd:List (Nat×List AVal)):ZdM ⟨rd,wr,any,got,upd⟩=(wr.isEmpty && !any):=rfl
theorem Z9 {α:Type} {l:List α} {i:Nat} {x:α} {r:List α} (h:l.drop i=x::r):l[i]?=some x/\l.drop (i+1)=r/\i < l.length:=by
 have h1:i < l.length:=by
  rcases Nat.lt_or_ge i l.length with h1 | h1
  ·exact h1
  ·rw [List.drop_eq_nil_of_le h1] at h;cases h
 rw [List.drop_eq_getElem_cons h1] at h
 injection h with h2 h3
 exact ⟨by rw [List.getElem?_eq_getElem h1,h2],h3,h1⟩
theorem Zc2 {α:Type} {l:List α} {i:Nat} (h:l.drop i=[]):¬(i:Int) < l.length:=by
 have:=List.drop_eq_nil_iff.1 h;omega
theorem iad {α:Type} {l:List α} {i:Nat} {x:α} (h:l[i]?=some x) (f:α->AVal) {k:Nat} (hk:(f x).cells.length=k) (σ:Za) (n:Bool) (kk:IntKind):ZdI σ k (.lst n (l.map f)) (.int kk (i:Int))=some (.iptr (f x).cells 0,σ,{}):=by
 have h0:(0:Int)<=(i:Int):=Int.natCast_nonneg i
 unfold ZdI
 simp only [h0,if_true,Int.toNat_natCast,List.getElem?_map,h,Option.map_some,hk]
theorem Zb1 {n:Int} (h0:-9223372036854775808<=n) (h:n<=9223372036854775807):IntKind.i64.wrap n=n:=by
 rw [IntKind.wrap_i64];omega
theorem Zis {α β:Type} {a:List α} {b:List β} (h:a.length=b.length):((a.length:Int) != (b.length:Int))=false:=by simp [h]
theorem Zjl {α β:Type} {a:List α} {b:List β} (h:a.length≠b.length):((a.length:Int) != (b.length:Int))=true:=by
 simp only [bne_iff_ne,ne_eq];omega
theorem ZjF {α:Type} [BEq α] [LawfulBEq α] {a b:List α} (h:a.length≠b.length):(a == b)=false:=by
 simp only [beq_eq_false_iff_ne,ne_eq];rintro rfl;exact h rfl
theorem Zdc {i n:Nat} (h:(i:Int) < n) (hn:n<=9223372036854775807):IntKind.i64.wrap ((i:Int)+1)=((i+1:Nat):Int):=by
 rw [Zb1 (by omega) (by omega)];rfl
theorem Zcp {O:ZO} {bf:Nat->Bool} {f:Nat} {args:List AVal} {r:AVal} (h:O f args []=some (r,[])) (hb:bf f=false) (hp:args.all Z7=true) (hn:args.map ZG=args) (hv:Zbn 0 (some (r,[]))=some (r,[])) (hr:∀ sq,Zl (ZaA [] [] sq) r=r) (σ:Za) (sq own:Nat) (view:Bool):Zk O bf σ sq f own view args=some (r,σ,{}):=by
 rw [Zfo hb hp,hn,h]
 have : Zad view 0 (some (r,[]))=some (r,[]):=by
  unfold Zad
  split
  ·exact hv
  ·rfl
 rw [this,Zg2 _ _ _ _ (hr sq)]
theorem ZiE {α:Type} (σ:Za) (k:Nat) (l:List α) (f:α->AVal) (kk:IntKind) (n:Int) (h0:0<=n) (h:n<=(l.length:Int)):ZbO σ k (.lst false (l.map f)) none (some (.int kk n)) none=some (.lst false ((l.take n.toNat).map f),σ,{}):=by
 simp only [ZbO,Za1,Zdj,List.length_map,h0,h,and_self,if_true,beq_self_eq_true,Bool.true_or,Option.isSome_none,Bool.false_eq_true,if_false,Bool.false_and,List.drop_zero,List.map_take]
abbrev Zb:=List UInt8
def ZJ (b:Zb):AVal:=.lst false (b.map Zc)
structure Zm where
 id:Int
 num:Int
 text:Zb
 pair:Zb
 data:Zb
 deriving DecidableEq
def Zbu (p:Zm):List AVal:=[.int .i64 p.id,.int .i64 p.num,.str p.text,.str p.pair,ZJ p.data]
def Zj (p:Zm):AVal:=.agg (Zbu p)
def Zaz (l:List Zm):AVal:=.lst false (l.map Zj)
theorem ZzK (l:Zb):Zfu (l.map Zc)=some l:=by
 induction l with
 | nil=>rfl
 | cons b l ih =>
  simp only [List.map_cons,Zfu,ih,Zc,ZmQ,Int.toNat_natCast,UInt8.ofNat_toNat]
end
section
def beB:Nat->Nat->Zb
 | _,0=>[]
 | n,w+1=>beB (n / 256) w++[UInt8.ofNat (n % 256)]
theorem ZaN:∀ (w n:Nat),(beB n w).length=w
 | 0,_=>rfl
 | w+1,n=>by simp [beB,ZaN w]
def ZeQ (x:Nat) (b:Zb):Nat:=b.foldl (fun x c=>(x*256+c.toNat) % 18446744073709551616) x
def Zco (b:Zb):Nat:=ZeQ 0 b
theorem ZcX (x:Nat) (c:UInt8) (b:Zb):ZeQ x (c::b)=ZeQ ((x*256+c.toNat) % 18446744073709551616) b:=rfl
theorem ZeK (x:Nat):ZeQ x []=x:=rfl
def ZbV:Nat->Nat->Zb
 | 0,n=>[UInt8.ofNat n]
 | k+1,n=>if n < 128 then [UInt8.ofNat n] else UInt8.ofNat (n % 128+128)::ZbV k (n / 128)
def Z2 (n:Int):Zb×Int:=if n < 0\/n > 268435455 then ([],10) else (ZbV 3 n.toNat,0)
def gvA (i n:Nat):Zb->Nat×Nat×Int
 | []=>if i < 4 then (0,0,11) else (0,0,12)
 | c::r=>if i=4 then (0,0,12) else if c.toNat < 128 then (if c=0/\0 < i then (0,0,12) else (n+c.toNat % 128*128 ^ i,i+1,0)) else gvA (i+1) (n+c.toNat % 128*128 ^ i) r
def ZS (b:Zb):Nat×Nat×Int:=gvA 0 0 b
def Za2 (b:Zb):Zb×Int:=if b.length > 65535 then ([],10) else (beB b.length 2++b,0)
def ZaH (b:Zb):Zb×Nat×Int :=
 if b.length < 2\/b.length - 2 < Zco (b.take 2) then ([],0,11) else ((b.drop 2).take (Zco (b.take 2)),2+Zco (b.take 2),0)
end
section
def ZsU:=(aI (aI (aI (aI (aI (aI @ZG3 @ZBd) (aI @ZNz @ZI7)) (aI (aI @ZHO @ZG8) (aI @ZPj @ZIl))) (aI (aI (aI @Ztl @ZpF) (aI @ZHv @ZoQ)) (aI (aI @ZCh @ZLB) (aI @ZE9 @ZCF)))) (aI (aI (aI (aI @ZKs @ZOV) (aI @ZJr @ZOe)) (aI (aI @Zy7 @Zxf) (aI @ZzR @ZLX))) (aI (aI (aI @ZwJ @ZA5) (aI @ZKS @ZD6)) (aI (aI @ZAM @ZzK) (aI @ZPx @ZMy))))) (aI (aI (aI (aI (aI @ZMp @ZHg) (aI @Zya @Zw8)) (aI (aI @ZOc @ZyJ) (aI @ZC8 @ZMa))) (aI (aI (aI @ZHG @ZAe) (aI @ZKK @ZDh)) (aI (aI @Zwf @ZqZ) (aI @ZHW @ZJm)))) (aI (aI (aI (aI @ZLd @ZEs) (aI @ZzP @ZE7)) (aI (aI @ZCI @Zot) (aI @ZOK @ZGP))) (aI (aI (aI @ZwS @ZG9) (aI @ZPf @ZNl)) (aI (aI @ZLU @ZLk) (aI @ZF4 @ZIL))))))
def ZzO:=(aI (aI (aI (aI (aI (aI @ZNL @ZwK) (aI @ZKV @ZCp)) (aI (aI @ZPI @ZyD) (aI @ZPw @ZyE))) (aI (aI (aI @ZMH @ZMq) (aI @ZBS @Zv0)) (aI (aI @ZDk @ZB4) (aI @Zyo @ZOp)))) (aI (aI (aI (aI @Zxp @ZGI) (aI @ZPR @ZJS)) (aI (aI @ZtT @ZMM) (aI @ZGw @ZE5))) (aI (aI (aI @ZDd @ZFc) (aI @ZA3 @ZEB)) (aI (aI @ZGe @Zy8) (aI @ZEa @ZEP))))) (aI (aI (aI (aI (aI @ZMD @ZNq) (aI @ZMN @ZKo)) (aI (aI @ZAL @ZOS) (aI @ZEr @ZPN))) (aI (aI (aI @ZGb @ZHK) (aI @ZHZ @ZBF)) (aI (aI @Zxw @ZKD) (aI @ZNF @ZGE)))) (aI (aI (aI (aI @ZCG @ZNO) (aI @ZFm @ZPQ)) (aI (aI @ZCq @ZBB) (aI @ZGh @ZB6))) (aI (aI (aI @ZOi @ZIM) (aI @ZPb @Zym)) (aI (aI @ZzG @ZxR) (aI @Zzk @ZO7))))))
def Za6:=(aI (aI (aI (aI (aI (aI @ZPz @ZCK) (aI @ZEA @ZBf)) (aI (aI @ZKb @ZO8) (aI @ZCc @ZFz))) (aI (aI (aI @ZwI @ZAT) (aI @ZOl @ZAy)) (aI (aI @ZEb @ZOB) (aI @ZyU @Zyt)))) (aI (aI (aI (aI @ZAR @ZGg) (aI @ZwM @ZEv)) (aI (aI @ZHI @ZEI) (aI @ZDl @ZFo))) (aI (aI (aI @ZKp @ZLv) (aI @ZCM @ZJa)) (aI (aI @Zyx @Zx9) (aI @ZCu @ZE6))))) (aI (aI (aI (aI (aI @ZLa @Zz7) (aI @ZOH @ZKI)) (aI (aI @ZES @ZD0) (aI @ZxN @ZzY))) (aI (aI (aI @ZEz @ZOM) (aI @ZLZ @ZJQ)) (aI (aI @ZFD @ZIf) (aI @Zxj @ZIn)))) (aI (aI (aI (aI @ZFb @ZGH) (aI @ZCP @ZGk)) (aI (aI @ZGf @ZAJ) (aI @ZHD @ZC9))) (aI (aI (aI @ZA0 @ZEx) (aI @ZGp @ZHt)) (aI (aI @ZNR @ZKZ) (aI @ZHB @Zxs))))))
def ZcS:=(aI (aI (aI (aI (aI (aI @ZDu @ZL7) (aI @ZG7 @ZFu)) (aI (aI @ZKL @ZOd) (aI @ZKW @ZB9))) (aI (aI (aI @ZAI @Zx7) (aI @ZB8 @Zwk)) (aI (aI @ZHh @Ztz) (aI @ZzQ @ZKn)))) (aI (aI (aI (aI @ZKu @Zzo) (aI @Zuh @ZLu)) (aI (aI @ZMR @ZAY) (aI @ZMw @ZLG))) (aI (aI (aI @ZJf @ZLH) (aI @ZIb @ZHy)) (aI (aI @Zzs @Zyc) (aI @ZEd @ZCN))))) (aI (aI (aI (aI (aI @ZPe @ZDK) (aI @ZzZ @ZEj)) (aI (aI @ZLx @ZPG) (aI @Ztw @ZNW))) (aI (aI (aI @Zzp @Zz3) (aI @ZMt @ZzL)) (aI (aI @Zxg @ZDZ) (aI @ZMi @Zwy)))) (aI (aI (aI (aI @ZxM @Zrm) (aI @ZwP @ZBG)) (aI (aI @ZFW @ZK4) (aI @ZvP @ZAz))) (aI (aI (aI @ZNu @ZPB) (aI @ZKC @ZHw)) (aI (aI @ZDC @ZBn) (aI @ZKN @ZCJ))))))
def ZE:=(aI (aI (aI (aI (aI (aI @ZGN @ZHa) (aI @ZOZ @ZJo)) (aI (aI @ZK9 @Zyf) (aI @ZJN @ZHE))) (aI (aI (aI @ZJd @ZzI) (aI @ZzH @ZwF)) (aI (aI @ZD4 @ZD7) (aI @ZH3 @ZKF)))) (aI (aI (aI (aI @ZIw @ZJF) (aI @ZHF @ZAu)) (aI (aI @ZNc @ZED) (aI @ZHT @ZLI))) (aI (aI (aI @ZNI @ZIZ) (aI @Zzu @ZJh)) (aI (aI @ZFj @ZJx) (aI @Zxn @ZO4))))) (aI (aI (aI (aI (aI @ZBJ @ZCC) (aI @ZGG @ZKl)) (aI (aI @ZAl @ZIP) (aI @ZOI @Zyy))) (aI (aI (aI @ZB3 @Zzl) (aI @Zyi @ZLE)) (aI (aI @ZO1 @ZGC) (aI @ZDc @ZP0)))) (aI (aI (aI (aI @Zy2 @ZEF) (aI @ZFT @ZHz)) (aI (aI @Zyu @ZL3) (aI @ZBW @ZN7))) (aI (aI (aI @ZFS @ZJW) (aI @ZLb @ZIW)) (aI (aI @ZOm @ZDe) (aI @ZAq @ZIr))))))
def Zss:=(aI (aI (aI (aI (aI (aI @ZKa @ZzU) (aI @ZHk @ZO6)) (aI (aI @ZGZ @Zxr) (aI @ZxX @ZOX))) (aI (aI (aI @ZO2 @ZEU) (aI @ZDR @ZMP)) (aI (aI @Zxe @Zxk) (aI @ZLC @ZGW)))) (aI (aI (aI (aI @ZDE @ZNX) (aI @Zzc @ZIB)) (aI (aI @ZBP @ZIk) (aI @ZKA @ZyK))) (aI (aI (aI @Zzz @ZNx) (aI @Zzg @ZFf)) (aI (aI @ZzA @ZAC) (aI @ZNi @ZDf))))) (aI (aI (aI (aI (aI @ZNQ @ZMX) (aI @ZPy @ZAw)) (aI (aI @ZzD @ZMA) (aI @ZLS @ZIe))) (aI (aI (aI @ZM4 @ZKz) (aI @ZM3 @ZMx)) (aI (aI @Zyn @ZwH) (aI @ZPE @ZMg)))) (aI (aI (aI (aI @ZGB @ZBZ) (aI @Zx8 @ZDo)) (aI (aI @ZDq @ZOt) (aI @ZNh @ZwT))) (aI (aI (aI @ZCd @ZLm) (aI @ZDG @ZFh)) (aI (aI @ZBl @ZxB) (aI @ZMr @ZKE))))))
def Zq:=(aI (aI (aI (aI (aI (aI @ZIt @Zzw) (aI @ZxW @ZFX)) (aI (aI @ZCV @ZCo) (aI @ZA8 @ZJ1))) (aI (aI (aI @Zyd @ZOg) (aI @ZOG @Zxh)) (aI (aI @ZLg @ZIq) (aI @Zxa @Zxb)))) (aI (aI (aI (aI @ZDW @ZGt) (aI @Zx0 @ZDb)) (aI (aI @ZHC @ZG0) (aI @ZPC @ZJs))) (aI (aI (aI @ZCS @ZPs) (aI @ZBo @ZFg)) (aI (aI @Zz8 @ZFB) (aI @ZJg @ZwV))))) (aI (aI (aI (aI (aI @ZMO @ZB2) (aI @ZH7 @ZEC)) (aI (aI @ZHo @ZMk) (aI @ZIm @ZDJ))) (aI (aI (aI @ZPt @ZHU) (aI @ZPc @ZMC)) (aI (aI @ZPg @ZMo) (aI @Zzr @ZAA)))) (aI (aI (aI (aI @ZHx @ZHY) (aI @Zze @ZEH)) (aI (aI @ZPh @ZI2) (aI @ZDT @ZAE))) (aI (aI (aI @ZPF @Zx3) (aI @ZOn @ZBA)) (aI (aI @ZCR @ZFR) (aI @ZBz @ZDr))))))
def Z4:=(aI (aI (aI (aI (aI @ZOD (aI @ZPH @ZBq)) (aI (aI @ZKU @ZGr) (aI @ZNk @ZLy))) (aI (aI @ZGu (aI @ZAZ @ZMV)) (aI (aI @Zyk @ZI6) (aI @ZMG @ZA2)))) (aI (aI (aI @ZyV (aI @ZJq @ZFd)) (aI (aI @ZAk @ZAU) (aI @ZFr @ZLK))) (aI (aI (aI @ZHi @ZC6) (aI @ZCH @ZxO)) (aI (aI @ZHc @ZzW) (aI @ZFp @ZFQ))))) (aI (aI (aI (aI @ZM0 (aI @ZII @ZLA)) (aI (aI @ZDA @ZAP) (aI @ZyF @ZMu))) (aI (aI (aI @ZyT @ZAd) (aI @ZxK @ZJ0)) (aI (aI @ZNM @Zw9) (aI @ZE8 @ZyS)))) (aI (aI (aI @ZFH (aI @ZNt @ZFY)) (aI (aI @ZLN @Zx1) (aI @ZPW @ZKf))) (aI (aI (aI @ZON @ZHS) (aI @ZHr @ZOO)) (aI (aI @ZLt @ZW) (aI @ZOz @Zvc))))))
def Zbq:=(aI (aI (aI (aI (aI (aI @List.map_cons.{0,0} @List.map_nil.{0,0}) (aI @List.length_cons.{0} @List.length_nil.{0})) (aI (aI @List.replicate_zero.{0} @List.replicate_succ.{0}) (aI @List.append_nil.{0} @List.nil_append.{0}))) (aI (aI (aI @List.cons_append.{0} @List.getElem?_cons_zero.{0}) (aI @List.getElem?_cons_succ.{0} @List.set_cons_zero.{0})) (aI (aI @List.set_cons_succ.{0} @Nat.add_zero) (aI @Nat.zero_add @Bool.true_or)))) (aI (aI (aI (aI @Bool.false_or @Bool.or_true) (aI @Bool.or_false @Bool.and_true)) (aI (aI @Bool.true_and @Bool.and_self) (aI @Bool.and_false @Bool.false_and))) (aI (aI (aI @if_true.{1} @if_false.{1}) (aI @ite_true.{1} @ite_false.{1})) (aI (aI @Option.map_some.{0,0} @Option.map_none.{0,0}) (aI @and_self @and_true))))) (aI (aI (aI (aI (aI @true_and @and_false) (aI @false_and @true_or)) (aI (aI @or_true @false_or) (aI @or_false @not_true_eq_false))) (aI (aI (aI @not_false_eq_true @List.drop_zero.{0}) (aI @List.drop_succ_cons.{0} @List.take_succ_cons.{0})) (aI (aI @List.take_zero.{0} @List.all_cons.{0}) (aI @List.all_nil.{0} @List.isEmpty_nil.{0})))) (aI (aI (aI (aI @Bool.not_false @Bool.not_true) (aI @List.length_map.{0,0} @Bool.bne_false)) (aI (aI @Bool.bne_true @List.isEmpty_cons.{0}) (aI @List.getD_cons_zero.{0} @List.getD_cons_succ.{0}))) (aI (aI (aI @List.getD_nil.{0} @List.contains_nil.{0}) (aI @List.range_zero @List.flatMap_cons.{0,0})) (aI (aI @List.flatMap_nil.{0,0} @List.zip_cons_cons.{0,0}) (aI @List.zip_nil_left.{0,0} @List.zip_nil_right.{0,0}))))))
def Zck:=@Nat.not_lt_zero
def EQA := (aI (aI (aI (aI (aI (aI (aI ZsU ZzO) (aI Zss Zbq)) (aI (aI @exI.eq_1 @nsite.eq_1) (aI @nsite.eq_2 @nsite.eq_3))) (aI (aI (aI @nsite.eq_4 @nsite.eq_5) (aI @nsite.eq_6 @nsite.eq_7)) (aI (aI @nsite.eq_8 @nsite.eq_9) (aI @nsite.eq_10 @nsite.eq_11)))) (aI (aI (aI (aI @freeAt.eq_1 @execI.eq_1) (aI @execI.eq_2 @execI.eq_3)) (aI (aI @execI.eq_4 @execI.eq_5) (aI @execI.eq_6 @execI.eq_7))) (aI (aI (aI @execI.eq_8 @execI.eq_9) (aI @execI.eq_10 @execI.eq_11)) (aI (aI @execI.eq_12 @execI.eq_13) (aI @execI.eq_14 @execI.eq_15))))) (aI (aI (aI (aI (aI @execI.eq_16 @execI.eq_17) (aI @execI.eq_18 @execI.eq_19)) (aI (aI @execI.eq_20 @execI.eq_21) (aI @execI.eq_22 @execI.eq_23))) (aI (aI (aI @execI.eq_24 @execI.eq_25) (aI @execI.eq_26 @execI.eq_27)) (aI (aI @execI.eq_28 @execI.eq_29) (aI @execI.eq_30 @execI.eq_31)))) (aI (aI (aI (aI @execI.eq_32 @execI.eq_33) (aI @execI.eq_34 @execI.eq_35)) (aI (aI @execI.eq_36 @execI.eq_37) (aI @execI.eq_38 @execI.eq_39))) (aI (aI (aI @execI.eq_40 @execI.eq_41) (aI @execI.eq_42 @execI.eq_43)) (aI (aI @execI.eq_44 @execI.eq_45) (aI @execI.eq_46 (aI @execI.eq_47 @execI.eq_48))))))) (aI (aI (aI (aI (aI (aI @execI.eq_49 @Opd.ev.eq_1) (aI @Opd.ev.eq_2 @tget.eq_1)) (aI (aI @tget.eq_2 @tins.eq_1) (aI @tins.eq_2 @tput.eq_1))) (aI (aI (aI @tput.eq_2 @keepL.eq_1) (aI @sitesOf.eq_1 @resA.eq_1)) (aI (aI @resAll.eq_1 @resAll.eq_2) (aI @resOne.eq_1 @resOne.eq_2)))) (aI (aI (aI (aI @enterA.eq_1 @enterA.eq_2) (aI @partA.eq_1 @partA.eq_2)) (aI (aI @faddrA.eq_1 @faddrA.eq_2) (aI @faddrA.eq_3 @faddrA.eq_4))) (aI (aI (aI @setAt.eq_1 @binA.eq_1) (aI @binA.eq_2 @binA.eq_3)) (aI (aI @binA.eq_4 @binA.eq_5) (aI @arithA.eq_1 @arithA.eq_2))))) (aI (aI (aI (aI (aI @arithA.eq_3 @arithA.eq_4) (aI @arithA.eq_5 @arithA.eq_6)) (aI (aI @arithA.eq_7 @arithA.eq_8) (aI @arithA.eq_9 @arithA.eq_10))) (aI (aI (aI @arithA.eq_11 @arithA.eq_12) (aI @arithA.eq_13 @arithA.eq_14)) (aI (aI @arithA.eq_15 @arithA.eq_16) (aI @ldA.eq_1 @ldA.eq_2)))) (aI (aI (aI (aI @ldA.eq_3 @ldA.eq_4) (aI @stA.eq_1 @stA.eq_2)) (aI (aI @stA.eq_3 @List.sum_cons.{0}) (aI @List.sum_nil.{0} @eq_self.{1}))) (aI (aI (aI @beq_self_eq_true.{0} @Bool.false_eq_true) (aI @Option.some.injEq.{0} @decide_true)) (aI (aI @decide_false @List.foldl_cons.{0, 0}) (aI @List.foldl_nil.{0, 0} (aI @List.contains_cons.{0} @ne_eq.{1}))))))))
end
section
theorem Zxd {O:ZO} {bf:Nat->Bool} {σ:Za} {sq f own:Nat} {view:Bool} {args:List AVal} (h:args.all Z7=true) (hm:args.map ZG=args) :
  Zk O bf σ sq f own view args=ZaI σ σ [] [] sq own (Zad view 0 (O f args [])):=by
 cases hb:bf f
 ·rw [Zfo hb h,hm]
 ·have hr:=Zdu h
  have hn:=fun ρ=>Zdf (ρ:=ρ) h
  rw [hm] at hr
  simp only [hm] at hn
  unfold Zk ZbN
  rw [hb]
  simp only [if_true]
  have h1:Zo σ []=σ:=rfl
  rw [h1,hr]
  have h2:Zy σ 1000 [] []=[]:=rfl
  rw [h2]
  unfold ZbE
  simp only [List.all_nil,if_true,hn,Zu,List.length_nil]
theorem Zq3 {O:ZO} {bf:Nat->Bool} {f:Nat} {args:List AVal} {k n:Nat} {xs:List AVal} (h:O f args []=some (.sl 0 0 0 n,[.row 0 k xs])) (hn:xs.length=n) (hp:args.all Z7=true) (hm:args.map ZG=args) (σ:Za) (sq own:Nat):Zk O bf σ sq f own true args=some (.lst false xs,σ,{}):=by
 rw [Zxd hp hm,h]
 have : Zad true 0 (some (.sl 0 0 0 n,[.row 0 k xs]))=some (.lst false xs,[]):=by
  unfold Zad
  rw [if_pos rfl,ZNC (k:=k) (g:=0) (t:=0) (xs:=xs) rfl (by omega),List.take_of_length_le (by omega)]
 rw [this,Zg2 _ _ _ _ rfl]
theorem ZIc {O:ZO} {bf:Nat->Bool} {σ:Za} {f:Nat} {args vs:List AVal} {ts:List Nat} {r r':AVal} (hb:bf f=false) (hsh:showAs σ args=some (vs,ts)) (hp:vs.all Z7=true) (hm:vs.map ZG=vs) (h:O f vs []=some (r,[])) (hv:Zbn 0 (some (r,[]))=some (r',[])) (sq own:Nat) :
  Zk O bf σ sq f own true args=if ZbC r' then some (r',σ,{ rd:=ts }) else if Zds σ ts r' then some (r',σ,{ rd:=ts }) else some (Zl (ZaA [] [] sq) r',Zo σ ts,{ rd:=ts,wr:=ts }):=by
 have hr:=Zdu hp
 have hn:=fun ρ=>Zdf (ρ:=ρ) hp
 rw [hm] at hr
 simp only [hm] at hn
 unfold Zk ZbN
 rw [hb]
 simp only [Bool.false_eq_true,if_false,hsh]
 rw [hr]
 have h2:∀ σ,Zy σ 1000 [] []=[]:=fun _=>rfl
 rw [h2]
 unfold ZbE
 simp only [List.all_nil,if_true,hn,Zu,List.length_nil,h]
 have : Zad true 0 (some (r,[]))=some (r',[]):=by unfold Zad;rw [if_pos rfl,hv]
 rw [this]
 simp only [ZaI,List.isEmpty_nil,Bool.and_self,if_true]
theorem ZCi {O:ZO} {bf:Nat->Bool} {σ:Za} {f:Nat} {args vs:List AVal} {ts:List Nat} {r r':AVal} (hb:bf f=false) (hsh:showAs σ args=some (vs,ts)) (hp:vs.all Z7=true) (hm:vs.map ZG=vs) (h:O f vs []=some (r,[])) (hv:Zbn 0 (some (r,[]))=some (r',[])) (hap:Zds σ ts r'=true) (sq own:Nat) :
  Zk O bf σ sq f own true args=some (r',σ,{ rd:=ts }):=by
 rw [ZIc hb hsh hp hm h hv,if_pos hap]
 split <;> rfl
theorem ZbB {O:ZO} {bf:Nat->Bool} {f:Nat} {args args':List AVal} {r r':AVal} (h:O f args' []=some (r,[])) (hb:bf f=false) (hp:args.all Z7=true) (hn:args.map ZG=args') (hv:Zbn 0 (some (r,[]))=some (r',[])) (hr:∀ sq,Zl (ZaA [] [] sq) r'=r') (σ:Za) (sq own:Nat):Zk O bf σ sq f own true args=some (r',σ,{}):=by
 rw [Zfo hb hp,hn,h]
 have : Zad true 0 (some (r,[]))=some (r',[]):=by
  unfold Zad
  rw [if_pos rfl];exact hv
 rw [this,Zg2 _ _ _ _ (hr sq)]
theorem ZBi (k n:Nat) (xs:List AVal) (σ:Za):Zam 0 (.row 0 k xs::σ) (.sl 0 0 0 n)=some (.sl 0 0 0 n,[.row 0 k xs]):=by
 simp [Zam,gcA,ZA,Zy,Zr,ZZ,Zn,Zu,Z0,Zp,ZT,Zf,Zl,ZH,ZP]
def ZeW:List AVal->AVal
 | []=>.lst true []
 | x::xs=>.sl 0 0 0 (x::xs).length
def ZeG (k:Nat):List AVal->Za
 | []=>[]
 | x::xs=>[.row 0 k (x::xs)]
theorem Zfz:ZeW []=.lst true []:=rfl
theorem ZhV (x:AVal) (xs:List AVal):ZeW (x::xs)=.sl 0 0 0 (x::xs).length:=rfl
theorem Zf4 (k:Nat):ZeG k []=[]:=rfl
theorem Zid (k:Nat) (x:AVal) (xs:List AVal):ZeG k (x::xs)=[.row 0 k (x::xs)]:=rfl
theorem Ze0 (l:Zb):kOk 1 (l.map Zc)=true:=by cases l <;> rfl
end
section
theorem ZN0 (n:Nat):IntKind.u8.wrap (n:Int)=((UInt8.ofNat (n % 256)).toNat:Int):=by
 rw [IntKind.wrap_u8,UInt8.toNat_ofNat']
 omega
theorem ZPM (k n:Nat) (xs:List AVal) (σ:Za):Zam 0 (.row 0 k xs::σ) (.sl 0 0 0 n)=some (.sl 0 0 0 n,[.row 0 k xs]):=by
 simp [Zam,gcA,ZA,Zy,Zr,ZZ,Zn,Zu,Z0,Zp,ZT,Zf,Zl,ZH,ZP]
theorem ZGQ (m:Nat) (z:AVal) (t:List AVal):(List.replicate (m+1) z++t)[m]?=some z:=by
 rw [List.getElem?_append_left (by simp)];simp
theorem ZFF (m:Nat) (z v:AVal) (t:List AVal):(List.replicate (m+1) z++t).set m v=List.replicate m z++v::t:=by
 rw [List.replicate_succ',List.append_assoc,List.set_append_right _ _ (by simp)];simp
theorem Zsv (W:Nat) (hW:W<=8):∀ (m n:Nat) (tail:Zb),m+tail.length=W->Zkg 0 [(6,.int .i64 ((m:Int) - 1)),(5,.sl 0 0 0 W),(0,.int .u64 (n:Nat))] [.row 0 1 (List.replicate m (.int .u8 0)++tail.map Zc)]=some (.sl 0 0 0 W,[.row 0 1 ((beB n m++tail).map Zc)])
 | 0,n,tail,h=>by
  have h1:¬(((0:Nat):Int) - 1>=0):=by omega
  unfold Zkg
  rw [Zaa,beB]
  simp -implicitDefEqProofs only [EQA,Nat.reduceLT,Nat.reduceEqDiff,reduceCtorEq,↓reduceIte,Zxx,ZAv,ZqG,ZrY,ZmC,oI,oN,h1,ZPM]
 | m+1,n,tail,h=>by
  have ih:=Zsv W hW m (n / 256) (UInt8.ofNat (n % 256)::tail) (by simp;omega)
  have e0:((m+1:Nat):Int) - 1=(m:Int):=by omega
  have h1:(m:Int)>=0:=by omega
  have h2:(0:Int)<=(m:Int):=by omega
  have h3:m < W:=by omega
  have hg:=ZGQ m (.int .u8 0) (tail.map Zc)
  have hs:=ZFF m (.int .u8 0) (Zc (UInt8.ofNat (n % 256))) (tail.map Zc)
  have hb:=ZN0 n
  have hw:IntKind.i64.wrap ((m:Int) - 1)=(m:Int) - 1:=Zb1 (by omega) (by omega)
  have hd:(n:Int).fdiv (2 ^ min (Int.toNat 8) IntKind.u64.bits)=((n / 256:Nat):Int):=by
   rw [show (2:Int) ^ min (Int.toNat 8) IntKind.u64.bits=256 from rfl,Int.fdiv_eq_ediv_of_nonneg _ (by decide)]
   omega
  have e1:beB n (m+1)++tail=beB (n / 256) m++(UInt8.ofNat (n % 256)::tail):=by simp [beB]
  rw [e0,e1]
  have e2:List.replicate m (AVal.int .u8 0)++(UInt8.ofNat (n % 256)::tail).map Zc=List.replicate m (.int .u8 0)++Zc (UInt8.ofNat (n % 256))::tail.map Zc:=rfl
  rw [e2] at ih
  generalize hX:List.replicate (m+1) (AVal.int .u8 0)++tail.map Zc=X at *
  generalize hY:List.replicate m (AVal.int .u8 0)++Zc (UInt8.ofNat (n % 256))::tail.map Zc=Y at *
  unfold Zc at hs
  unfold Zkg at ih ⊢
  rw [Zaa]
  simp -implicitDefEqProofs only [EQA,Z4,Zck,Nat.reduceLT,Nat.reduceEqDiff,ZaG,reduceCtorEq,↓reduceIte,gcT,gcA,ZA,Zy,Zn,Zu,Z0,Zp,ZT,ZH,ZP,ZrY,ZmC,oI,oN,h1,h3,hg,hs,hb,hw,hd,ZdI,Int.toNat_natCast,AVal.cells,Zar,ZI,ZiD,Zo,Int.reduceLT]
  exact ih
theorem ZDx (n W:Nat) (h1:1<=W) (hW:W<=8):E 61 [.int .u64 (n:Nat),.int .i64 (W:Nat)] []=some (.sl 0 0 0 W,[.row 0 1 ((beB n W).map Zc)]):=by
 have key:=Zsv W hW W n [] (by simp)
 have c1:¬((W:Int) < 1):=by omega
 have c2:¬((W:Int) > 8):=by omega
 have c3:(0:Int)<=(W:Int):=by omega
 have c4:(W:Int)<=9223372036854775807:=by omega
 have c5:((1:Nat):Int)*(W:Int)<=140737488355328:=by omega
 have w1:IntKind.i64.wrap ((W:Int) - 1)=(W:Int) - 1:=Zb1 (by omega) (by omega)
 simp only [List.map_nil,List.append_nil] at key
 rw [Zg (by rfl) ZOR]
 unfold Zkg at key
 simp -implicitDefEqProofs only [EQA,ZE,Z4,Zck,Nat.reduceLT,Nat.reduceEqDiff,Nat.reduceBEq,ZF,unG,reduceCtorEq,↓reduceIte,gcT,gcA,ZA,Zy,Zn,Zu,Z0,Zp,ZT,ZH,ZP,ZFw,ZqS,oI,c1,c2,c3,c4,c5,w1,Int.le_refl,Int.toNat_natCast]
 exact key
theorem Zlg (σ:Za) (sq own:Nat) (n W:Nat) (h1:1<=W) (hW:W<=8):Zk E BY σ sq 61 own true [.int .u64 (n:Nat),.int .i64 (W:Nat)]=some (.lst false ((beB n W).map Zc),σ,{}) :=
 Zq3 (bf:=BY) (ZDx n W h1 hW) (by simp [ZaN]) rfl rfl σ sq own
theorem ZN5 (x c:Nat) (hc:c < 256):IntKind.u64.wrap (((BitVec.ofInt IntKind.u64.bits (IntKind.u64.wrap ((x:Int)*2 ^ min (Int.toNat 8) IntKind.u64.bits)) ||| BitVec.ofInt IntKind.u64.bits (c:Int)).toNat:Nat):Int)=(((x*256+c) % 18446744073709551616:Nat):Int):=by
 rw [show (2:Int) ^ min (Int.toNat 8) IntKind.u64.bits=256 from rfl]
 have hb:IntKind.u64.bits=64:=rfl
 rw [hb,IntKind.wrap_u64,IntKind.wrap_u64]
 have e1:(x:Int)*256 % 18446744073709551616=((x*256 % 18446744073709551616:Nat):Int):=by omega
 rw [e1,BitVec.toNat_or]
 simp only [BitVec.ofInt_natCast,BitVec.toNat_ofNat]
 have e2:x*256 % 18446744073709551616 % 2 ^ 64=(x % 72057594037927936) <<< 8:=by
  rw [Nat.shiftLeft_eq];omega
 have e3:c % 2 ^ 64=c:=by omega
 rw [e2,e3,<-Nat.shiftLeft_add_eq_or_of_lt (by omega:c < 2 ^ 8),Nat.shiftLeft_eq]
 omega
theorem ZtY (b:Zb) (hl:b.length<=9223372036854775807):∀ (r:Zb) (i x:Nat),b.drop i=r->Zlt 0 [(8,.int .i64 i),(7,.int .i64 b.length),(6,.lst false (b.map Zc)),(3,.int .u64 (x:Nat))] []=some (.int .u64 (ZeQ x r:Nat),[])
 | [],i,x,h=>by
  have h1:=Zc2 h
  unfold Zlt
  rw [Zaa,ZeK]
  simp -implicitDefEqProofs only [EQA,Nat.reduceLT,Nat.reduceEqDiff,↓reduceIte,ZCm,ZCW,Zny,Zrt,ZkS,oI,h1]
 | c::r,i,x,h=>by
  have ih:=ZtY b hl r (i+1) ((x*256+c.toNat) % 18446744073709551616) (Z9 h).2.1
  have h1:(i:Int) < b.length:=by have:=(Z9 h).2.2;omega
  have e1:=iad (Z9 h).1 Zc (k:=1) rfl
  have e3:=Zdc h1 hl
  have ho:=ZN5 x c.toNat c.toNat_lt
  have hc:IntKind.u64.wrap (c.toNat:Int)=(c.toNat:Int):=by rw [IntKind.wrap_u64];have:=c.toNat_lt;omega
  unfold Zlt at ih ⊢
  rw [Zaa,ZcX]
  simp -implicitDefEqProofs only [EQA,Z4,Nat.reduceLT,Nat.reduceEqDiff,ZaG,↓reduceIte,gcT,gcA,ZA,Zy,Zu,ZP,Zrt,ZkS,oI,h1,e1,e3,ho,hc,Zc,AVal.cells,Int.reduceLT]
  exact ih
theorem ZH5 (b:Zb) (hl:b.length<=9223372036854775807):E 93 [ZJ b] []=some (.int .u64 (Zco b:Nat),[]):=by
 have key:=ZtY b hl b 0 0 rfl
 have z0:((0:Nat):Int)=0:=rfl
 rw [z0] at key
 unfold Zlt at key
 unfold Zco
 rw [Zg (by rfl) ZxG]
 simp -implicitDefEqProofs only [EQA,Z4,Nat.reduceLT,Nat.reduceEqDiff,reduceCtorEq,↓reduceIte,gcT,gcA,ZA,Zy,Zu,ZP,ZAi,Zqx,oI,ZJ]
 exact key
theorem Zlw (σ:Za) (sq own:Nat) (b:Zb) (hl:b.length<=9223372036854775807) (f:Bool):Zk E BY σ sq 93 own true [.lst f (b.map Zc)]=some (.int .u64 (Zco b:Nat),σ,{}) :=
 ZbB (ZH5 b hl) (by kernel_rfl) rfl rfl rfl (fun _=>rfl) _ _ _
end
section
theorem ZvN (ls:List Zb) (hl:ls.length<=9223372036854775807):∀ (r:List Zb) (i:Nat) (acc full:Zb),ls.drop i=r->full=acc++r.flatten->full.length<=140737488355328 ->
  Zly 0 [(8,.int .i64 i),(7,.int .i64 ls.length),(6,.lst false (ls.map ZJ)),(3,.sl 0 0 0 acc.length)] [.row 0 1 (acc.map Zc)]=some (.sl 0 0 0 full.length,[.row 0 1 (full.map Zc)])
 | [],i,acc,full,h,hf,hn=>by
  have h1:=Zc2 h
  have e:full=acc:=by simpa using hf
  subst e
  unfold Zly
  rw [Zaa]
  simp -implicitDefEqProofs only [EQA,Nat.reduceLT,Nat.reduceEqDiff,↓reduceIte,ZKO,ZyP,Zq7,ZnG,ZjB,oI,h1,ZBi]
 | p::r,i,acc,full,h,hf,hn=>by
  have ih:=ZvN ls hl r (i+1) (acc++p) full (Z9 h).2.1 (by rw [hf];simp) hn
  have h1:(i:Int) < ls.length:=by have:=(Z9 h).2.2;omega
  have e1:=iad (Z9 h).1 ZJ (k:=1) rfl
  have e3:=Zdc h1 hl
  have k1:=Ze0 p
  have k2:(acc.length+p.length)*1<=140737488355328:=by have:=congrArg List.length hf;simp at this;omega
  have e4:(acc++p).map Zc=acc.map Zc++p.map Zc:=by simp
  have e5:(acc++p).length=acc.length+p.length:=by simp
  rw [e4,e5] at ih
  clear hf
  unfold Zly at ih ⊢
  rw [Zaa]
  unfold ZJ at e1 ih ⊢
  simp -implicitDefEqProofs only [EQA,Z4,Zck,Nat.reduceAdd,Nat.reduceLT,Nat.reduceEqDiff,Nat.reduceBEq,reduceCtorEq,ZU,↓reduceIte,gcT,gcA,ZA,Zy,Zn,Zu,Z0,Zp,ZT,ZH,ZP,ZnG,ZjB,oI,h1,e1,e3,k1,k2,ZaF,AVal.cells]
  exact ih
theorem ZH1 (p:Zb) (ls:List Zb) (hl:(p::ls).length<=9223372036854775807) (hn:(p::ls).flatten.length<=140737488355328):E 19 [.lst false ((p::ls).map ZJ)] []=some (.sl 0 0 0 (p::ls).flatten.length,[.row 0 1 ((p::ls).flatten.map Zc)]):=by
 have key:=ZvN (p::ls) hl ls 1 p (p::ls).flatten rfl rfl hn
 have k1:=Ze0 p
 have k2:p.length*1<=140737488355328:=by simp at hn;omega
 have h1:(0:Int) < ((p::ls).length:Int):=by simp
 have hat:(p::ls)[0]?=some p:=rfl
 have e1:=iad hat ZJ (k:=1) rfl
 have z0:((0:Nat):Int)=0:=rfl
 have z1:((1:Nat):Int)=1:=rfl
 have w1:IntKind.i64.wrap (0+1)=1:=rfl
 rw [z0] at e1
 rw [z1] at key
 unfold Zly at key
 generalize hL:p::ls=L at *
 rw [Zg (by rfl) ZMv]
 unfold ZJ at e1 key ⊢
 simp -implicitDefEqProofs only [EQA,Z4,Nat.reduceLT,Nat.reduceEqDiff,reduceCtorEq,↓reduceIte,gcT,gcA,ZA,Zy,Zu,ZP,ZCA,ZoX,oI]
 rw [Zaa]
 simp -implicitDefEqProofs only [EQA,Z4,Zck,Nat.reduceLT,Nat.reduceEqDiff,Nat.reduceBEq,ZU,↓reduceIte,gcT,gcA,ZA,Zy,Zn,Zu,Z0,Zp,ZT,ZH,ZP,ZnG,ZjB,oI,h1,e1,w1,k1,k2,ZaF,AVal.cells]
 exact key
theorem Zhe (σ:Za) (sq own:Nat) (f:Bool) (p:Zb) (ls:List Zb) (hl:(p::ls).length<=9223372036854775807) (hn:(p::ls).flatten.length<=140737488355328):Zk E BY σ sq 19 own true [.lst f ((p::ls).map ZJ)]=some (.lst false ((p::ls).flatten.map Zc),σ,{}):=by
 have h:=Zq3 (bf:=BY) (ZH1 p ls hl hn) (by rw [List.length_map]) rfl rfl σ sq own
 cases f
 ·exact h
 ·rw [Zfo (by kernel_rfl) rfl] at h ⊢
  exact h
theorem ZIC:∀ n:Fin 256,IntKind.u8.wrap (((BitVec.ofInt IntKind.u8.bits ((n.val:Nat):Int) ||| BitVec.ofInt IntKind.u8.bits 128).toNat:Nat):Int)=((n.val % 128+128:Nat):Int):=by decide +kernel
theorem ZLT (n:Nat):IntKind.u8.wrap (((BitVec.ofInt IntKind.u8.bits (IntKind.u8.wrap (n:Int)) ||| BitVec.ofInt IntKind.u8.bits 128).toNat:Nat):Int)=((UInt8.ofNat (n % 128+128)).toNat:Int):=by
 have h:=ZIC ⟨n % 256,Nat.mod_lt _ (by decide)⟩
 have e:IntKind.u8.wrap (n:Int)=((n % 256:Nat):Int):=by rw [IntKind.wrap_u8];omega
 rw [e,h,UInt8.toNat_ofNat']
 simp only
 omega
theorem ZuK:∀ (k n:Nat) (acc full:Zb),n < 128 ^ (k+1)->acc.length+k<=3->full=acc++ZbV k n ->
  Zmn 0 [(4,ZeW (acc.map Zc)),(0,.int .i64 (n:Nat))] (ZeG 1 (acc.map Zc))=some (.tup [.sl 0 0 0 full.length,.int .i64 0],[.row 0 1 (full.map Zc)])
 | k,n,acc,full,hk,hacc,hf=>by
  by_cases hn:n < 128
  ·have h1:¬((n:Int) > 127):=by omega
   have hv:ZbV k n=[UInt8.ofNat n]:=by cases k <;> simp [ZbV,hn]
   rw [hv] at hf
   have hb:IntKind.u8.wrap (n:Int)=((UInt8.ofNat n).toNat:Int):=by rw [IntKind.wrap_u8,UInt8.toNat_ofNat'];omega
   subst hf
   unfold Zmn
   rw [Zaa]
   cases acc with
   | nil =>
    simp -implicitDefEqProofs only [EQA,Nat.reduceLT,Nat.reduceLeDiff,Nat.reduceEqDiff,Nat.reduceBEq,reduceCtorEq,ZU,↓reduceIte,Zmm,ZvU,ZlE,Zmy,Zhn,oI,h1,hb,Zfz,Zf4,ZaF,kOk,viewAs,ZL,ZI,Zo,Nat.one_mul,AVal.cells]
    simp [Zam,gcA,ZA,Zy,Zr,ZZ,Zn,Zu,Z0,Zp,ZT,Zf,Zl,ZH,ZP]
    rfl
   | cons a acc =>
    have hz:(acc.length+1+1)*1<=140737488355328:=by simp at hacc;omega
    simp -implicitDefEqProofs only [EQA,Nat.reduceAdd,Nat.reduceLT,Nat.reduceEqDiff,Nat.reduceBEq,reduceCtorEq,ZU,↓reduceIte,Zmm,ZvU,ZlE,Zmy,Zhn,oI,h1,hb,ZhV,Zid,ZaF,kOk,viewAs,ZL,ZI,Zo,AVal.cells,hz]
    simp [Zam,gcA,ZA,Zy,Zr,ZZ,Zn,Zu,Z0,Zp,ZT,Zf,Zl,ZH,ZP]
    rfl
  ·cases k with
   | zero=>simp at hk;omega
   | succ k =>
    have hlt:n / 128 < 128 ^ (k+1):=by
     rw [Nat.div_lt_iff_lt_mul (by decide)]
     rw [Nat.pow_succ] at hk;exact hk
    have hv:ZbV (k+1) n=UInt8.ofNat (n % 128+128)::ZbV k (n / 128):=by simp [ZbV,hn]
    have ih:=ZuK k (n / 128) (acc++[UInt8.ofNat (n % 128+128)]) full hlt (by simp;omega) (by rw [hf,hv];simp)
    clear hf
    have h1:((n:Int) > 127):=by omega
    have ho:=ZLT n
    have hd:(n:Int).fdiv (2 ^ min (Int.toNat 7) IntKind.i64.bits)=((n / 128:Nat):Int):=by
     rw [show (2:Int) ^ min (Int.toNat 7) IntKind.i64.bits=128 from rfl,Int.fdiv_eq_ediv_of_nonneg _ (by decide)]
     omega
    unfold Zmn at ih ⊢
    rw [Zaa]
    cases acc with
    | nil =>
     simp -implicitDefEqProofs only [EQA,Z4,Zck,Nat.reduceLT,Nat.reduceLeDiff,Nat.reduceEqDiff,Nat.reduceBEq,ZaG,reduceCtorEq,ZU,↓reduceIte,gcT,gcA,ZA,Zy,Zn,Zu,Z0,Zp,ZT,ZH,ZP,Zmy,Zhn,oI,h1,ho,hd,Zfz,Zf4,ZaF,kOk,viewAs,ZL,ZI,Zo,Nat.one_mul,AVal.cells,Int.reduceLT]
     simp only [List.map_cons,List.map_nil,List.nil_append,ZhV,Zid,List.length_cons,List.length_nil,Nat.zero_add,Zc] at ih
     exact ih
    | cons a acc =>
     have hz:(acc.length+1+1)*1<=140737488355328:=by simp at hacc;omega
     simp -implicitDefEqProofs only [EQA,Z4,Zck,Nat.reduceAdd,Nat.reduceLT,Nat.reduceEqDiff,Nat.reduceBEq,ZaG,reduceCtorEq,ZU,↓reduceIte,gcT,gcA,ZA,Zy,Zn,Zu,Z0,Zp,ZT,ZH,ZP,Zmy,Zhn,oI,h1,ho,hd,ZhV,Zid,ZaF,kOk,viewAs,ZL,ZI,Zo,AVal.cells,hz,Int.reduceLT]
     simp only [List.map_append,List.map_cons,List.map_nil,List.cons_append,ZhV,Zid,List.length_append,List.length_cons,List.length_map,List.length_nil,Nat.zero_add,Nat.add_assoc,Nat.reduceAdd,Zc] at ih
     exact ih
theorem ZEL (n:Int):E 18 [.int .i64 n] []=some (if n < 0\/n > 268435455 then (.tup [.lst true [],.int .i64 10],[]) else (.tup [.sl 0 0 0 (ZbV 3 n.toNat).length,.int .i64 0],[.row 0 1 ((ZbV 3 n.toNat).map Zc)])):=by
 rw [Zg (by rfl) ZML]
 by_cases h0:n < 0
 ·have : n < 0\/n > 268435455:=Or.inl h0
  simp -implicitDefEqProofs only [EQA,Zq,Nat.reduceLT,Nat.reduceEqDiff,ZF,Zaw,reduceCtorEq,↓reduceIte,Zd,Zn5,ZiK,Zmm,oI,h0]
 ·by_cases h2:n > 268435455
  ·have : n < 0\/n > 268435455:=Or.inr h2
   simp -implicitDefEqProofs only [EQA,Zq,Nat.reduceLT,Nat.reduceEqDiff,ZF,unG,reduceCtorEq,↓reduceIte,Zd,Zn5,ZiK,Zmm,oI,h0,h2]
  ·have : ¬(n < 0\/n > 268435455):=by omega
   have key:=ZuK 3 n.toNat [] (ZbV 3 n.toNat) (by omega) (by simp) rfl
   have e:((n.toNat:Nat):Int)=n:=by omega
   rw [e] at key
   simp only [List.map_nil,Zfz,Zf4] at key
   unfold Zmn at key
   generalize ZbV 3 n.toNat=V at *
   simp -implicitDefEqProofs only [EQA,Z4,Nat.reduceLT,Nat.reduceEqDiff,ZF,unG,reduceCtorEq,↓reduceIte,gcT,gcA,ZA,Zy,Zu,ZP,Zn5,ZiK,oI,h0,h2]
   exact key
def Zet (n:Int):AVal:=.tup [.lst false ((Z2 n).1.map Zc),.int .i64 (Z2 n).2]
theorem ZN4 {O:ZO} {bf:Nat->Bool} {f:Nat} {args args':List AVal} {k n:Nat} {xs:List AVal} {c:Int} (h:O f args' []=some (.tup [.sl 0 0 0 n,.int .i64 c],[.row 0 k xs])) (hl:xs.length=n) (hb:bf f=false) (hp:args.all Z7=true) (hn:args.map ZG=args') (σ:Za) (sq own:Nat):Zk O bf σ sq f own true args=some (.tup [.lst false xs,.int .i64 c],σ,{}):=by
 subst hl
 rw [Zfo hb hp,hn,h]
 simp [Zad,Zbn,viewR,viewAs,ZL,ZI,ZU,Zo,gcA,ZA,Zy,Zr,ZZ,Zf,Zl,Zu,ZaI,ZbC,Zbs,ZaY]
theorem ZfN (σ:Za) (sq own:Nat) (n:Int):Zk E BY σ sq 18 own true [.int .i64 n]=some (Zet n,σ,{}):=by
 have h:=ZEL n
 unfold Zet Z2
 by_cases hc:n < 0\/n > 268435455
 ·rw [if_pos hc] at h ⊢
  exact ZbB h (by kernel_rfl) rfl rfl rfl (fun _=>rfl) _ _ _
 ·rw [if_neg hc] at h ⊢
  exact ZN4 h (by rw [List.length_map]) (by kernel_rfl) rfl rfl _ _ _
end
section
def gvT (x:Nat×Nat×Int):AVal:=.tup [.int .i64 (x.1:Nat),.int .i64 (x.2.1:Nat),.int .i64 x.2.2]
theorem ZFU:∀ n:Fin 256,IntKind.u8.wrap (((BitVec.ofInt IntKind.u8.bits ((n.val:Nat):Int) &&& BitVec.ofInt IntKind.u8.bits 127).toNat:Nat):Int)=((n.val % 128:Nat):Int):=by decide +kernel
theorem ZCv (c:UInt8):IntKind.u8.wrap (((BitVec.ofInt IntKind.u8.bits (c.toNat:Int) &&& BitVec.ofInt IntKind.u8.bits 127).toNat:Nat):Int)=((c.toNat % 128:Nat):Int):=ZFU ⟨c.toNat,c.toNat_lt⟩
theorem Zon (i:Nat):128 ^ i=2 ^ (7*i):=by rw [Nat.pow_mul]
theorem ZIi (n a i:Nat) (hi:i<=3) (hn:n < 128 ^ i) (ha:a < 128):IntKind.i64.wrap (((BitVec.ofInt IntKind.i64.bits (n:Int) ||| BitVec.ofInt IntKind.i64.bits ((a*128 ^ i:Nat):Int)).toNat:Nat):Int)=((n+a*128 ^ i:Nat):Int):=by
 have hb:IntKind.i64.bits=64:=rfl
 have hp:128 ^ i<=128 ^ 3:=Nat.pow_le_pow_right (by decide) hi
 have hm:a*128 ^ i<=127*128 ^ 3:=Nat.mul_le_mul (by omega) hp
 rw [hb,BitVec.toNat_or]
 simp only [BitVec.ofInt_natCast,BitVec.toNat_ofNat]
 have e1:n % 2 ^ 64=n:=Nat.mod_eq_of_lt (by omega)
 have e2:a*128 ^ i % 2 ^ 64=a*128 ^ i:=Nat.mod_eq_of_lt (by omega)
 rw [e1,e2]
 have e3:a*128 ^ i=a <<< (7*i):=by rw [Nat.shiftLeft_eq,Zon]
 have e4:n ||| a*128 ^ i=n+a*128 ^ i:=by
  rw [e3,Nat.or_comm,<-Nat.shiftLeft_add_eq_or_of_lt (by rw [<-Zon];exact hn)]
  omega
 rw [e4,Zb1 (by omega) (by omega)]
theorem ZwQ (a i:Nat) (hi:i<=3) (ha:a < 128):IntKind.i64.wrap ((a:Int)*2 ^ min (Int.toNat ((7*i:Nat):Int)) IntKind.i64.bits)=((a*128 ^ i:Nat):Int):=by
 have hp:128 ^ i<=128 ^ 3:=Nat.pow_le_pow_right (by decide) hi
 have hm:a*128 ^ i<=127*128 ^ 3:=Nat.mul_le_mul (by omega) hp
 have e:min (Int.toNat ((7*i:Nat):Int)) IntKind.i64.bits=7*i:=by
  have hb:IntKind.i64.bits=64:=rfl
  rw [hb];omega
 have e2:((a:Int)*2 ^ (7*i))=((a*128 ^ i:Nat):Int):=by rw [Zon];simp
 rw [e,e2,Zb1 (by omega) (by omega)]
theorem ZrV (n i a:Nat) (hn:n < 128 ^ i) (ha:a < 128):n+a*128 ^ i < 128 ^ (i+1):=by
 have : a*128 ^ i<=127*128 ^ i:=Nat.mul_le_mul_right _ (by omega)
 rw [Nat.pow_succ];omega
theorem ZwD (b:Zb) (hl:b.length<=9223372036854775807):∀ (r:Zb) (i n:Nat),i<=4->i<=b.length->n < 128 ^ i->b.drop i=r ->
  Zhh 0 [(9,.int .i64 i),(8,.int .i64 b.length),(7,.lst false (b.map Zc)),(2,.int .i64 n),(0,.lst false (b.map Zc))] []=some (gvT (gvA i n r),[])
 | [],i,n,hi,hib,hn,h=>by
  have h1:=Zc2 h
  unfold Zhh
  rw [Zaa,gvA]
  by_cases h4:i < 4
  ·have h5:(b.length:Int) < 4:=by omega
   simp -implicitDefEqProofs only [EQA,Zq,Nat.reduceLT,Nat.reduceEqDiff,reduceCtorEq,↓reduceIte,Zd,Zhg,Zo8,Zi9,Zgt,Zfl,oI,h1,h4,h5,gvT]
   rfl
  ·have h5:¬(b.length:Int) < 4:=by omega
   simp -implicitDefEqProofs only [EQA,Zq,Nat.reduceLT,Nat.reduceEqDiff,reduceCtorEq,↓reduceIte,Zd,Zhg,Zo8,Zi9,Zgt,Zfl,oI,h1,h4,h5,gvT]
   rfl
 | c::r,i,n,hi,hib,hn,h=>by
  have hlt:=(Z9 h).2.2
  have h1:(i:Int) < b.length:=by omega
  have e1:=iad (Z9 h).1 Zc (k:=1) rfl
  have e3:=Zdc h1 hl
  rw [gvA]
  by_cases h4:i=4
  ·have h5:¬(b.length:Int) < 4:=by omega
   have h6:((i:Int) == 4)=true:=by simp;omega
   rw [if_pos h4]
   unfold Zhh
   rw [Zaa]
   simp -implicitDefEqProofs only [EQA,Zq,Nat.reduceLT,Nat.reduceEqDiff,reduceCtorEq,↓reduceIte,Zd,Zhg,Zo8,Zi9,Zgt,Zfl,oI,h1,e1,h5,h6,gvT,Zc,AVal.cells]
   rfl
  ·have h6:((i:Int) == 4)=false:=by simp;omega
   have hm:=ZCv c
   have ha:c.toNat % 128 < 128:=Nat.mod_lt _ (by decide)
   have hi64:IntKind.i64.wrap ((c.toNat % 128:Nat):Int)=((c.toNat % 128:Nat):Int):=Zb1 (by omega) (by omega)
   have h7:IntKind.i64.wrap (7*(i:Int))=((7*i:Nat):Int):=by rw [Zb1 (by omega) (by omega)];omega
   have hneg:¬((7*i:Nat):Int) < 0:=by omega
   have hs:=ZwQ (c.toNat % 128) i (by omega) ha
   have ho:=ZIi n (c.toNat % 128) i (by omega) hn ha
   by_cases hc:c.toNat < 128
   ·have hc':(c.toNat:Int) < 128:=by omega
    unfold Zhh
    rw [Zaa]
    by_cases hc0:c=0
    ·have hc1:((c.toNat:Int) == 0)=true:=by rw [hc0];rfl
     by_cases hip:0 < i
     ·have hip':(i:Int) > 0:=by omega
      have hcc:c=0/\0 < i:=⟨hc0,hip⟩
      simp -implicitDefEqProofs only [EQA,Zq,Z4,Zdt,ZjQ,Nat.reduceLT,Nat.reduceEqDiff,ZaG,ZF,Zaw,unG,reduceCtorEq,decide_eq_true_eq,ite_self,↓reduceIte,Zd,gcT,gcA,ZA,Zy,Zu,ZP,Zhg,Zgt,Zfl,oI,h1,e1,h4,h6,h7,hneg,hip',hcc,gvT,Zc,AVal.cells]
      rfl
     ·have hip':¬(i:Int) > 0:=by omega
      have hcc:¬(c=0/\0 < i):=fun h=>hip h.2
      simp -implicitDefEqProofs only [EQA,Zq,Nat.reduceLT,Nat.reduceEqDiff,ZaG,ZF,unG,reduceCtorEq,↓reduceIte,Zd,Zhg,Zgt,Zfl,oI,h1,e1,h4,h6,hm,hi64,h7,hneg,hs,ho,hc,hc',hc1,hip',hcc,e3,gvT,Zc,AVal.cells]
    ·have hc1:((c.toNat:Int) == 0)=false:=by
      have : c.toNat≠0:=fun h=>hc0 (UInt8.toNat_inj.1 (by simpa using h))
      simp;omega
     have hcc:¬(c=0/\0 < i):=fun h=>hc0 h.1
     simp -implicitDefEqProofs only [EQA,Zq,Nat.reduceLT,Nat.reduceEqDiff,ZaG,ZF,Zaw,reduceCtorEq,↓reduceIte,Zd,Zhg,Zgt,Zfl,oI,h1,e1,h4,h6,hm,hi64,h7,hneg,hs,ho,hc,hc',hc1,hcc,e3,gvT,Zc,AVal.cells]
   ·have hc':¬(c.toNat:Int) < 128:=by omega
    have ih:=ZwD b hl r (i+1) (n+c.toNat % 128*128 ^ i) (by omega) (by omega) (ZrV n i _ hn ha) (Z9 h).2.1
    unfold Zhh at ih ⊢
    rw [Zaa]
    simp -implicitDefEqProofs only [EQA,Z4,Nat.reduceLT,Nat.reduceEqDiff,ZaG,reduceCtorEq,↓reduceIte,gcT,gcA,ZA,Zy,Zu,ZP,Zgt,Zfl,oI,h1,e1,h4,h6,hm,hi64,h7,hneg,hs,ho,hc,hc',e3,Zc,AVal.cells]
    exact ih
theorem ZAp (b:Zb) (hl:b.length<=9223372036854775807):E 98 [ZJ b] []=some (gvT (ZS b),[]):=by
 have key:=ZwD b hl b 0 0 (by omega) (by omega) (by simp) rfl
 have z0:((0:Nat):Int)=0:=rfl
 rw [z0] at key
 unfold Zhh at key
 unfold ZS
 rw [Zg (by rfl) ZNA]
 simp -implicitDefEqProofs only [EQA,Z4,Nat.reduceLT,Nat.reduceEqDiff,reduceCtorEq,↓reduceIte,gcT,gcA,ZA,Zy,Zu,ZP,ZAD,ZqU,oI,ZJ]
 exact key
theorem Znn (σ:Za) (sq own:Nat) (f:Bool) (b:Zb) (hl:b.length<=9223372036854775807):Zk E BY σ sq 98 own true [.lst f (b.map Zc)]=some (gvT (ZS b),σ,{}) :=
 ZbB (ZAp b hl) (by kernel_rfl) rfl rfl rfl (fun _=>rfl) _ _ _
end
section
theorem Zwp (l:List UInt8) (p:Nat):Ze6 l p=Lib.decodeL (l.drop p):=by
 have:=Lib.decodeL_drop ⟨l.toArray⟩ p
 simpa [Ze6] using this.symm
def zfG:Nat->List UInt8->Bool
 | 0,_=>true
 | n+1,l=>if l=[] then true else if (Lib.decodeL l).1=0 then false else zfG n (l.drop (Lib.decodeL l).2)
def ZeE (l:List UInt8):Bool:=zfG l.length l && Lib.validD l
theorem ZDY (l:List UInt8):E 100 [.str l] []=some (.bool (Lib.validD l),[]):=Zdo.2 ⟨1,rfl⟩
theorem ZCZ (σ:Za) (sq own:Nat) (view:Bool) (l:List UInt8):Zk E BY σ sq 100 own view [.str l]=some (.bool (Lib.validD l),σ,{}) :=
 Zcp (ZDY l) (by kernel_rfl) (by simp -implicitDefEqProofs only [ZcS,Zbq,eq_self]) (by simp -implicitDefEqProofs only [ZE,Zbq,eq_self]) rfl (fun _=>rfl) _ _ _ _
theorem Zve (s:List UInt8):∀ (n p:Nat),s.length - p<=n->p<=s.length->ZkP 0 [(6,.ref 0 0),(0,.str s)] [.siter s p]=some (.bool (zfG n (s.drop p) && Lib.validD s),[])
 | n,p,hn,hp=>by
  by_cases h:p < s.length
  ·obtain ⟨n,rfl⟩:∃ m,n=m+1:=⟨n - 1,by omega⟩
   have hw:=Lib.decodeL_width (s.drop p)
   have hne:s.drop p≠[]:=by rw [ne_eq,List.drop_eq_nil_iff];omega
   have hle:=Lib.decodeL_le (s.drop p) hne
   rw [List.length_drop] at hle
   have ih:=Zve s n (p+(Lib.decodeL (s.drop p)).2) (by omega) (by omega)
   rw [<-List.drop_drop] at ih
   unfold ZkP at ih ⊢
   rw [Zaa]
   by_cases hz:(Lib.decodeL (s.drop p)).1=0
   ·have hz':((Lib.decodeL (s.drop p)).1:Int)=0:=by omega
    simp -implicitDefEqProofs only [EQA,Nat.reduceLT,Nat.reduceEqDiff,reduceCtorEq,↓reduceIte,Zsc,Zok,ZiR,oI,h,Zwp,hz']
    rw [zfG,if_neg hne,if_pos hz];rfl
   ·have hz':(((Lib.decodeL (s.drop p)).1:Int) == 0)=false:=by rw [beq_eq_false_iff_ne];omega
    simp -implicitDefEqProofs only [EQA,Z4,Zck,Nat.reduceLT,Nat.reduceEqDiff,reduceCtorEq,↓reduceIte,gcT,gcA,ZA,Zy,Zn,Zu,Z0,Zp,ZT,ZH,ZP,Zok,ZiR,oI,h,Zwp,hz']
    rw [ih,zfG,if_neg hne,if_neg hz]
  ·have he:s.drop p=[]:=by rw [List.drop_eq_nil_iff];omega
   unfold ZkP
   rw [Zaa]
   simp -implicitDefEqProofs only [EQA,Nat.reduceLT,Nat.reduceEqDiff,reduceCtorEq,↓reduceIte,Zsc,ZL9,ZqQ,Zok,ZiR,oI,h,ZCZ]
   rw [he]
   cases n <;> simp [zfG]
theorem ZBT (s:List UInt8):E 88 [.str s] []=some (.bool (ZeE s),[]):=by
 rw [Zg (by rfl) ZHj]
 have:=Zve s s.length 0 (by omega) (by omega)
 unfold ZkP at this
 simp -implicitDefEqProofs only [EQA,Z4,Zck,Nat.reduceLT,Nat.reduceBEq,reduceCtorEq,↓reduceIte,gcT,gcA,ZA,Zy,Zn,Zu,Z0,Zp,ZT,ZH,ZP,ZyA,Zol,oI]
 rw [this,List.drop_zero];rfl
theorem ZrI (σ:Za) (sq own:Nat) (view:Bool) (l:List UInt8):Zk E BY σ sq 88 own view [.str l]=some (.bool (ZeE l),σ,{}) :=
 Zcp (ZBT l) (by kernel_rfl) (by simp -implicitDefEqProofs only [ZcS,Zbq,eq_self]) (by simp -implicitDefEqProofs only [ZE,Zbq,eq_self]) rfl (fun _=>rfl) _ _ _ _
theorem wrap_i64 {n:Int} (h0:-9223372036854775808<=n) (h:n<=9223372036854775807):IntKind.i64.wrap n=n:=Zb1 h0 h
end
section
theorem ZuF (σ:Za) (l:Zb) (k1 k2:IntKind) (lo hi:Int) (h0:0<=lo) (h1:lo<=hi) (h2:hi<=(l.length:Int)):ZbO σ 1 (.lst false (l.map Zc)) (some (.int k1 lo)) (some (.int k2 hi)) none=some (.lst false (((l.take hi.toNat).drop lo.toNat).map Zc),σ,{}):=by
 have hh:0<=hi:=by omega
 have h3:lo<=((hi.toNat:Nat):Int):=by omega
 have hk:=Ze0 l
 simp only [ZbO,Za1,Zdj,List.length_map,hh,h2,and_self,if_true,h0,h3,hk,Bool.or_true,Option.isSome_none,Bool.false_eq_true,if_false,Bool.false_and,List.map_take,List.map_drop]
theorem Zfi (σ:Za) (l:Zb) (k1:IntKind) (lo:Int) (h0:0<=lo) (h1:lo<=(l.length:Int)):ZbO σ 1 (.lst false (l.map Zc)) (some (.int k1 lo)) none none=some (.lst false ((l.drop lo.toNat).map Zc),σ,{}):=by
 have hk:=Ze0 l
 simp only [ZbO,Za1,Zdj,List.length_map,and_self,if_true,h0,h1,hk,Bool.or_true,Option.isSome_none,Bool.false_eq_true,if_false,Bool.false_and,List.map_drop]
 rw [List.take_of_length_le (by simp)]
def byT (x:Zb×Int):AVal:=.tup [.lst false (x.1.map Zc),.int .i64 x.2]
theorem ZIE (b:Zb) (h:b.length<=9223372036854775807):IntKind.u64.wrap (b.length:Int)=(b.length:Int):=by rw [IntKind.wrap_u64];omega
theorem ZGq (b:Zb) (hl:b.length<=9223372036854775807):∃ f,E 85 [ZJ b] []=some (.tup [.lst f ((Za2 b).1.map Zc),.int .i64 (Za2 b).2],[]):=by
 unfold Za2
 by_cases h:b.length > 65535
 ·refine ⟨true,?_⟩
  have h':(b.length:Int) > 65535:=by omega
  rw [Zg (by rfl) Zwz,if_pos h]
  simp -implicitDefEqProofs only [EQA,Zq,Nat.reduceLT,Nat.reduceEqDiff,reduceCtorEq,↓reduceIte,Zd,ZsK,ZjS,Zvl,oI,ZJ,h']
 ·refine ⟨false,?_⟩
  have h':¬(b.length:Int) > 65535:=by omega
  have hw:=ZIE b hl
  have hP:=fun σ sq own=>Zlg σ sq own b.length 2 (by omega) (by omega)
  have hJ:=fun σ sq own f=>Zhe σ sq own f (beB b.length 2) [b] (by simp) (by simp [ZaN];omega)
  simp only [List.map_cons,List.map_nil,ZJ,List.flatten_cons,List.flatten_nil,List.append_nil] at hJ
  have z2:((2:Nat):Int)=2:=rfl
  rw [z2] at hP
  rw [Zg (by rfl) Zwz,if_neg h]
  simp -implicitDefEqProofs only [EQA,Zq,Nat.reduceLT,Nat.reduceEqDiff,reduceCtorEq,↓reduceIte,Zd,ZsK,ZjS,Zvl,oI,ZJ,h',hw,hP,hJ,viewAs,ZL,ZI,Zo,AVal.cells]
theorem Zps (σ:Za) (sq own:Nat) (f:Bool) (b:Zb) (hl:b.length<=9223372036854775807):Zk E BY σ sq 85 own true [.lst f (b.map Zc)]=some (byT (Za2 b),σ,{}):=by
 obtain ⟨g,h⟩:=ZGq b hl
 exact ZbB h (by kernel_rfl) rfl rfl rfl (fun _=>rfl) _ _ _
def Z3 (s:Zb):Zb×Int:=if ZeE s then Za2 s else ([],13)
theorem ZCT (s:Zb) (hl:s.length<=9223372036854775807):∃ f,E 63 [.str s] []=some (.tup [.lst f ((Z3 s).1.map Zc),.int .i64 (Z3 s).2],[]):=by
 have hI:=fun σ sq own=>ZrI σ sq own true s
 have hD:=fun σ sq own f=>Zps σ sq own f s hl
 unfold Z3
 cases h:ZeE s <;> rw [h] at hI
 ·refine ⟨true,?_⟩
  rw [Zg (by rfl) ZrX]
  simp -implicitDefEqProofs only [EQA,Zq,Nat.reduceLT,Nat.reduceEqDiff,unA,reduceCtorEq,↓reduceIte,Zd,ZvH,ZkG,ZtO,oI,hI]
 ·refine ⟨false,?_⟩
  rw [Zg (by rfl) ZrX]
  simp -implicitDefEqProofs only [EQA,Zq,Nat.reduceLT,Nat.reduceEqDiff,unA,reduceCtorEq,↓reduceIte,Zd,ZvH,ZkG,ZtO,oI,hI,hD,byT]
theorem Zi5 (σ:Za) (sq own:Nat) (s:Zb) (hl:s.length<=9223372036854775807):Zk E BY σ sq 63 own true [.str s]=some (byT (Z3 s),σ,{}):=by
 obtain ⟨g,h⟩:=ZCT s hl
 exact ZbB h (by kernel_rfl) rfl rfl rfl (fun _=>rfl) _ _ _
end
section
def gdT (x:Zb×Nat×Int):AVal:=.tup [.lst false (x.1.map Zc),.int .i64 (x.2.1:Nat),.int .i64 x.2.2]
def gtT (x:Zb×Nat×Int):AVal:=.tup [.str x.1,.int .i64 (x.2.1:Nat),.int .i64 x.2.2]
theorem ZLM (b:Zb) (h:b.length<=2):Zco b < 65536:=by
 unfold Zco
 match b,h with
 | [],_=>simp [ZeK]
 | [a],_=>rw [ZcX,ZeK];have:=a.toNat_lt;omega
 | [a,c],_=>rw [ZcX,ZcX,ZeK];have:=a.toNat_lt;have:=c.toNat_lt;omega
def Zac (b:Zb):Zb×Nat×Int:=if (ZaH b).2.2≠0 then ([],0,(ZaH b).2.2) else if ZeE (ZaH b).1 then ZaH b else ([],0,13)
theorem ZNU (b:Zb) (hl:b.length<=140737488355328):∃ f,E 102 [ZJ b] []=some (.tup [.lst f ((ZaH b).1.map Zc),.int .i64 ((ZaH b).2.1:Nat),.int .i64 (ZaH b).2.2],[]):=by
 have t2:(b.take 2).length<=9223372036854775807:=by simp;omega
 have hG:=fun σ sq own f=>Zlw σ sq own (b.take 2) t2 f
 have hg:=ZLM (b.take 2) (by simp;omega)
 unfold ZaH
 generalize hGG:Zco (b.take 2)=g at *
 have hi:IntKind.i64.wrap (g:Int)=(g:Int):=Zb1 (by omega) (by omega)
 by_cases h1:b.length < 2
 ·have h1':(b.length:Int) < 2:=by omega
  refine ⟨true,?_⟩
  rw [Zg (by rfl) ZnE,if_pos (Or.inl h1)]
  simp -implicitDefEqProofs only [EQA,Zq,Nat.reduceLT,Nat.reduceEqDiff,ZF,Zaw,reduceCtorEq,↓reduceIte,Zd,Zp1,Zjh,Zn2,oI,ZJ,h1']
  rfl
 ·have h1':¬(b.length:Int) < 2:=by omega
  have s2:=fun σ kk=>ZiE σ 1 b Zc kk 2 (by omega) (by omega)
  have e2:(2:Int).toNat=2:=rfl
  rw [e2] at s2
  have w1:IntKind.i64.wrap ((b.length:Int) - 2)=((b.length - 2:Nat):Int):=by rw [Zb1 (by omega) (by omega)];omega
  by_cases h3:b.length - 2 < g
  ·have h3':((b.length - 2:Nat):Int) < (g:Int):=by omega
   refine ⟨true,?_⟩
   rw [Zg (by rfl) ZnE,if_pos (Or.inr h3)]
   simp -implicitDefEqProofs only [EQA,Zq,Nat.reduceLT,Nat.reduceEqDiff,ZF,unG,reduceCtorEq,↓reduceIte,Zd,Zp1,Zjh,Zn2,oI,ZJ,h1',s2,hG,hi,w1,h3']
   rfl
  ·have h3':¬((b.length - 2:Nat):Int) < (g:Int):=by omega
   have w2:IntKind.i64.wrap (2+(g:Int))=((2+g:Nat):Int):=by rw [Zb1 (by omega) (by omega)];omega
   have s3:=fun σ k1 k2=>ZuF σ b k1 k2 2 ((2+g:Nat):Int) (by omega) (by omega) (by omega)
   have e3:(((2+g:Nat):Int)).toNat=2+g:=rfl
   have e4:(b.take (2+g)).drop 2=(b.drop 2).take g:=by rw [List.drop_take];congr 1;omega
   rw [e2,e3,e4] at s3
   have hJ:=fun σ sq own f=>Zhe σ sq own f ((b.drop 2).take g) [] (by simp) (by simp;omega)
   simp only [List.map_cons,List.map_nil,ZJ,List.flatten_cons,List.flatten_nil,List.append_nil] at hJ
   have hc:¬(b.length < 2\/b.length - 2 < g):=by omega
   refine ⟨false,?_⟩
   rw [Zg (by rfl) ZnE,if_neg hc]
   simp -implicitDefEqProofs only [EQA,Zq,Nat.reduceLT,Nat.reduceEqDiff,ZF,unG,reduceCtorEq,↓reduceIte,Zd,Zp1,Zjh,Zn2,oI,ZJ,h1',s2,hG,hi,w1,h3',w2,s3,hJ,viewAs,ZL,ZI,Zo,AVal.cells]
theorem ZjT (σ:Za) (sq own:Nat) (f:Bool) (b:Zb) (hl:b.length<=140737488355328):Zk E BY σ sq 102 own true [.lst f (b.map Zc)]=some (gdT (ZaH b),σ,{}):=by
 obtain ⟨g,h⟩:=ZNU b hl
 exact ZbB h (by kernel_rfl) rfl rfl rfl (fun _=>rfl) _ _ _
theorem ZBN (b:Zb) (hl:b.length<=140737488355328):E 94 [ZJ b] []=some (gtT (Zac b),[]):=by
 have hD:=fun σ sq own f=>ZjT σ sq own f b hl
 unfold gdT at hD
 have hI:=fun σ sq own=>ZrI σ sq own true (ZaH b).1
 unfold Zac
 by_cases h0:(ZaH b).2.2=0
 ·have hn0:¬((ZaH b).2.2≠0):=by omega
  have e0:((0:Int) != 0)=false:=rfl
  have hp:ZaH b=((ZaH b).1,(ZaH b).2.1,0):=by rw [<-h0]
  rw [if_neg hn0]
  rw [hp]
  simp only
  rw [h0] at hD
  generalize (ZaH b).1=d at *
  generalize (ZaH b).2.1=u at *
  rw [Zg (by rfl) Zso]
  cases ht:ZeE d <;> rw [ht] at hI
  ·simp -implicitDefEqProofs only [EQA,Zq,Nat.reduceLT,Nat.reduceEqDiff,unA,reduceCtorEq,ZU,↓reduceIte,Zd,Zqo,Zjv,Zrg,oI,ZJ,hD,hI,e0,gtT]
   rfl
  ·simp -implicitDefEqProofs only [EQA,Zq,Nat.reduceLT,Nat.reduceEqDiff,unA,reduceCtorEq,ZU,↓reduceIte,Zd,Zqo,Zjv,Zrg,oI,ZJ,hD,hI,e0,gtT]
 ·have hn0:((ZaH b).2.2≠0):=h0
  have e0:((ZaH b).2.2 != 0)=true:=by simpa using h0
  rw [if_pos hn0]
  generalize (ZaH b).2.2=e at *
  rw [Zg (by rfl) Zso]
  simp -implicitDefEqProofs only [EQA,Zq,Nat.reduceLT,Nat.reduceEqDiff,reduceCtorEq,↓reduceIte,Zd,Zqo,Zjv,Zrg,oI,ZJ,hD,e0,gtT]
  rfl
theorem ZhH (σ:Za) (sq own:Nat) (f:Bool) (b:Zb) (hl:b.length<=140737488355328):Zk E BY σ sq 94 own true [.lst f (b.map Zc)]=some (gtT (Zac b),σ,{}) :=
 ZbB (ZBN b hl) (by kernel_rfl) rfl rfl rfl (fun _=>rfl) _ _ _
end
section
theorem Zda {O:ZO} {bf:Nat->Bool} {σ:Za} {t f:Nat} {rest:List AVal} {cs cs':List AVal} {r r':AVal} (hb:bf f=false) (hp:rest.all Z7=true) (hc:Zd cs=true) (hc':Zd cs'=true) (hn:ZK r'=true) (hv:viewR [.var cs'] r=some (r',[]))
  (h:O f (.ref 0 0::rest.map ZG) [.var cs]=some (r,[.var cs'])) (hs:σ[t]?=some (.var cs)) (sq:Nat):Zk O bf σ sq f 0 true (.ref t 0::rest)=some (r',σ.set t (.var cs'),{ any:=true,upd:=[(t,cs')] }):=by
 have htl:t < σ.length:=by
  rcases Nat.lt_or_ge t σ.length with h | h
  ·exact h
  ·rw [List.getElem?_eq_none h] at hs;cases hs
 have hup:Zbb (σ.set t (.var cs')) [t]=[(t,cs')]:=by
  simp only [Zbb,List.getElem?_set,if_pos htl,if_true]
 have hd:σ.getD t .free=.var cs:=by simp [List.getD_eq_getElem?_getD,hs]
 have hf0:Zo σ []=σ:=rfl
 have hsh:showAs σ (.ref t 0::rest)=some (.ref t 0::rest.map ZG,[]):=by
  rw [showAs,show showA σ (.ref t 0)=some (.ref t 0,[]) from rfl,ZdT hp]
  rfl
 have href:Zr (.ref t 0::rest.map ZG)=[t]:=by
  rw [Zr,Zdu hp];rfl
 unfold Zk ZbN
 rw [hb]
 simp only [Bool.false_eq_true,if_false,hsh,hf0,href,Ze1 hs hc]
 unfold ZbE
 have hall:([t].all fun t=>okB (σ.getD t .free))=true:=by simp [List.all_cons,List.all_nil,hs,okB]
 rw [if_pos hall]
 have hρ:Zn σ 0 [t] t 0=some (0,0):=by simp [Zn,Z0,hs,Zp,ZT]
 have hheap:Zu σ 0 [t] (Zn σ 0 [t]) [t] 0=[.var cs]:=by
  simp only [Zu,hd,ZH,(ZaV _ cs hc).1]
 have hargs:Zf (Zn σ 0 [t]) (.ref t 0::rest.map ZG)=.ref 0 0::rest.map ZG:=by
  rw [Zf,Zdf hp]
  simp only [Zl,hρ]
 rw [hargs,hheap,h]
 have hask:Zad true [t].length (some (r,[.var cs']))=some (r',[.var cs']):=by
  unfold Zad
  rw [if_pos rfl]
  have hnp:∀ x,r≠.pan x:=by rintro x rfl;simp [viewR,ZL,ZI] at hv
  rw [show Zbn [t].length (some (r,[.var cs']))=(match viewR [.var cs'] r with
   | some (r',ts)=>match gcA [t].length [r'] (Zo [.var cs'] ts) with
    | ([r''],σ')=>some (r'',σ')
    | _=>none
   | none=>none) from by cases r <;> first | rfl | exact absurd rfl (hnp _)]
  rw [hv]
  simp only [List.length_cons,List.length_nil,Nat.zero_add,show Zo [ZM.var cs'] []=[.var cs'] from rfl,Zj4 hn hc']
 rw [hask]
 have hk:Za3 σ [t] [.var cs'] 0=true:=by
  simp [Za3,okB,hs,Zcc,Zp]
 simp only [ZaI,List.isEmpty_cons,Bool.false_eq_true,if_false,List.length_cons,List.length_nil,Nat.zero_add,Nat.add_zero,Nat.le_refl,decide_true,hk,Za0,Bool.and_self,if_true,Za4,ZaM,List.getD_cons_zero,ZH,(Za8 _ r' hn).1,(ZaV _ cs' hc').1,hup]
theorem ZcB {O:ZO} {bf:Nat->Bool} {σ:Za} {t f:Nat} {rest:List AVal} {cs cs':List AVal} {x:AVal} {view:Bool} (hb:bf f=false) (hp:rest.all Z7=true) (hc:Zd cs=true) (hc':Zd cs'=true) (hn:ZK x=true)
  (h:O f (.ref 0 0::rest.map ZG) [.var cs]=some (.pan x,[.var cs'])) (hs:σ[t]?=some (.var cs)) (sq:Nat):Zk O bf σ sq f 0 view (.ref t 0::rest)=some (.pan x,σ.set t (.var cs'),{ any:=true,upd:=[(t,cs')] }):=by
 have htl:t < σ.length:=by
  rcases Nat.lt_or_ge t σ.length with h | h
  ·exact h
  ·rw [List.getElem?_eq_none h] at hs;cases hs
 have hup:Zbb (σ.set t (.var cs')) [t]=[(t,cs')]:=by
  simp only [Zbb,List.getElem?_set,if_pos htl,if_true]
 have hd:σ.getD t .free=.var cs:=by simp [List.getD_eq_getElem?_getD,hs]
 have hf0:Zo σ []=σ:=rfl
 have hsh:showAs σ (.ref t 0::rest)=some (.ref t 0::rest.map ZG,[]):=by
  rw [showAs,show showA σ (.ref t 0)=some (.ref t 0,[]) from rfl,ZdT hp]
  rfl
 have href:Zr (.ref t 0::rest.map ZG)=[t]:=by
  rw [Zr,Zdu hp];rfl
 unfold Zk ZbN
 rw [hb]
 simp only [Bool.false_eq_true,if_false,hsh,hf0,href,Ze1 hs hc]
 unfold ZbE
 have hall:([t].all fun t=>okB (σ.getD t .free))=true:=by simp [List.all_cons,List.all_nil,hs,okB]
 rw [if_pos hall]
 have hρ:Zn σ 0 [t] t 0=some (0,0):=by simp [Zn,Z0,hs,Zp,ZT]
 have hheap:Zu σ 0 [t] (Zn σ 0 [t]) [t] 0=[.var cs]:=by
  simp only [Zu,hd,ZH,(ZaV _ cs hc).1]
 have hargs:Zf (Zn σ 0 [t]) (.ref t 0::rest.map ZG)=.ref 0 0::rest.map ZG:=by
  rw [Zf,Zdf hp]
  simp only [Zl,hρ]
 rw [hargs,hheap,h]
 have hask:Zad view [t].length (some (.pan x,[.var cs']))=some (.pan x,[.var cs']):=by
  unfold Zad
  split <;> rfl
 rw [hask]
 have hk:Za3 σ [t] [.var cs'] 0=true:=by
  simp [Za3,okB,hs,Zcc,Zp]
 have hnp:ZK (.pan x)=true:=by simpa only [ZK] using hn
 simp only [ZaI,List.isEmpty_cons,Bool.false_eq_true,if_false,List.length_cons,List.length_nil,Nat.zero_add,Nat.add_zero,Nat.le_refl,decide_true,hk,Za0,Bool.and_self,if_true,Za4,ZaM,List.getD_cons_zero,ZH,(Za8 _ _ hnp).1,(ZaV _ cs' hc').1,hup]
end
end Go.Proofs.YthfdocdjpdkmoaaGreatDoor
