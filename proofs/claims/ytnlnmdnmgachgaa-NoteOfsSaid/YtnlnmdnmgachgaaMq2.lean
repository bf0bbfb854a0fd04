/- packed -/
import Derived.Test.YtnlnmdnmgachgaaMq1
import Derived.Scope
import Derived.Laws.Cover3
import Derived.Test.YtnlnmdnmgachgaaProg
import Derived.Deep.Slices
import Derived.ChangeArms
import Derived.WideShapes
import GoSem.ClaimChange
set_option linter.defProp false
set_option linter.unusedSimpArgs false
set_option linter.unusedVariables false
open Option.some renaming injEq→Xa
open Prod.mk renaming injEq→Xb
open Bool renaming decide_eq_true→Xc,not_eq_true→Xg,and_eq_true→Xp,false_eq_true→Xt,and_self→Wu,or_eq_true→WF,false_and→WM,true_or→WN,true_and→XaD,or_true→XaL
open List renaming range_succ→Xd,getD_cons_zero→Xi,getD_eq_getElem?_getD→Xq,all_cons→Xs,all_nil→Xu,map_cons→Xv,length_nil→Xx,getElem?_eq_getElem→XA,mem_append→XB,all_eq_true→XD,mem_of_getElem?→XF,replicate→XI,take_of_length_le→XQ,mem_cons→XR,mem_map→XT,append_nil→X0,nil_append→X7,cons_append→Wf,getElem?_append_left→Wj,pairwise_append→Wm,mem_filter→Wy,isEmpty_nil→WA,getElem?_map→WD,pairwise_cons→WH,range→WO,drop_zero→W4,range'→Xah,map_map→Xaw,flatMap_nil→Xaz,mem_cons_self→XaK,mapM_cons→XaN,map_take→Xa4
open Nat renaming reduceLeDiff→Xe,reduceEqDiff→Xf,reduceAdd→Xh,reduceSub→Xj,reduceBEq→Xk,reduceMul→Xl,reduceLT→Xm,zero_add→XC,le_refl→X5,add_zero→X9,add_assoc→We,le_max_right→WL,le_max_left→WP
open Option renaming map_eq_some_iff→Xr,map_some→XW,map→Ws
open Or renaming inl→Xz,inr→XG
open Array renaming getElem?_eq_some_iff→XJ,length_toList→XN,getD_eq_getD_getElem?→Ww,getD→Xaj,replicate→Xan
open Int renaming toNat_natCast→WX
namespace Go.Proofs.Ytnlnmdnmgachgaa
set_option maxHeartbeats 16000000
set_option maxRecDepth 10000
section
open Go.RowKit
section
variable {P:Program} {O:ZW} {bf:Nat->Bool} {an:Ann} {base:Nat->Prop} {w0:World} {I0:Imm} {dr:Door}
theorem Zys {o:AOp} {tm tm1:Tms} {σ σ1:Za} {sq:Nat} {v:AVal} {c:Cls} (ht:o.ins.touches=false) (h:ZR O bf o sq tm σ=some (v,tm1,σ1,c)):c={}:=by
 unfold ZR at h
 split at h
 ·cases h
 ·simp only [Xa,Xb] at h;exact h.2.2.2.symm
 ·split at h
  ·split at h
   ·rename_i he
    simp only [Xa,Xb] at h
    rw [<-h.2.2.2]
    exact (ZxE ht he).1
   ·cases h
  ·cases h
theorem Zgf {i:Ins} (h:i.touches=false):nsite i=0:=by cases i <;> simp [Ins.touches] at h <;> rfl
theorem Zeu {asl:List AOp} {L:Nat} {cs:List Cls}:∀ {l:List Nat} {tm tm':Tms} {σ σ':Za},ZbQ O bf asl L cs l tm σ tm' σ'->∀ j ∈ l,(asl.getD j default).ins.touches=false->cs.getD j {}={}
 | [],_,_,_,_,_,j,hj,_=>by simp at hj
 | i::l,_,_,_,_,h,j,hj,ht=>by
  cases h with
  | cons h1 _ h2 =>
   rcases XR.1 hj with rfl | hj
   ·exact Zys ht h1
   ·exact Zeu h2 j hj ht
theorem ZeS (asl:List AOp):∀ {j i:Nat},j < i->i<=asl.length->sitesOf (asl.take j)+nsite (asl.getD j default).ins<=sitesOf (asl.take i):=by
 intro j i hji hi
 induction i with
 | zero=>omega
 | succ i ih =>
  rw [Zns asl (by omega)]
  by_cases e:j=i
  ·subst e
   simp [Xq,show j < asl.length by omega]
  ·have:=ih (by omega) (by omega);omega
theorem ZzR (hO:Zao P O) (hkp:∀ n ∈ dr.K,n ∈ an.keep) (hb:KLt base w0) {ops:Array Oper} {asl:List AOp} (hcomp:Zb9 P an ops ops.toList=some asl) {ps:List (Nat×Nat)} (hps:Zc2 asl=some ps) {L:Nat} {cs:List Cls} (hchk:Zb6 asl L ps cs=true)
  {tmF:Tms} {σF:Za} {Q:Exit->Act->World->Prop} {I:Imm} {β:Bmap} (hQ:∀ a' w',StR dr an.nt base w0 I0 I β tmF σF a' w'->Q .normal a' w') :
  ∀ (fuel:Nat) (rem:List Nat) (listed:Array Bool) (a:Act) (w:World) (tm:Tms) (σ:Za),ZbQ O bf asl L cs rem tm σ tmF σF->rem.Pairwise (· < ·)->(∀ j ∈ rem,j < ops.size)->(∀ j,j < ops.size->(listed.getD j true=true↔j ∉ rem))->listed.size=ops.size ->
   (∀ k,k < ops.size->k ∉ rem->∀ p ∈ (Zbn (asl.map (·.after)) []).getD k [],p ∉ rem)->rem.length=fuel->StR dr an.nt base w0 I0 I β tm σ a w->wpAny P .any ops Q fuel listed a w:=by
 obtain ⟨hlen,hget⟩:=ZgS hcomp
 obtain ⟨hp1,hp2⟩:=Zuh hps
 obtain ⟨_,_,hanc⟩:=ZpG (asl.map (·.after)) [] (fun _ _ _=>trivial)
 simp only [XN] at hlen
 have hafter:∀ j o,ops[j]?=some o->∃ ao,asl.getD j default=ao/\Zd8 P an ops o=some ao/\ao.after=(o.after.toList.filter (Region.binds .any)).map (·.on)/\ao.dst=o.dst:=by
  intro j o ho
  obtain ⟨ao,h1,h2⟩:=hget j o (by simpa using ho)
  refine ⟨ao,by simp [Xq,h1],h2,?_⟩
  obtain ⟨g,i,_,_,_,rfl⟩:=ZoL h2
  exact ⟨rfl,rfl⟩
 intro fuel
 induction fuel with
 | zero =>
  intro rem listed a w tm σ hr hs hlt hl hsz hcl hfl hst
  have : rem=[]:=List.eq_nil_of_length_eq_zero hfl
  subst this
  cases hr
  refine ⟨?_,hQ a w hst⟩
  apply List.eq_nil_iff_forall_not_mem.2
  intro j hj
  rw [mem_ready] at hj
  obtain ⟨h1,o,ho,_⟩:=hj
  have hjl:j < ops.size:=(XJ.1 ho).1
  have:=(hl j hjl).2 (by simp)
  rw [h1] at this;cases this
 | succ fuel ih =>
  intro rem listed a w tm σ hr hs hlt hl hsz hcl hfl hst
  have isRem:∀ j,j < ops.size->listed.getD j true=false->j ∈ rem:=by
   intro j hj h
   by_cases hm:j ∈ rem
   ·exact hm
   ·have:=(hl j hj).2 hm;rw [h] at this;cases this
  have getD_tf:∀ j,j < ops.size->listed.getD j false=listed.getD j true:=by
   intro j hj
   simp [Xaj,hsz,hj]
  refine ⟨fun hnil=>?_,fun i hi=>?_⟩
  ·exfalso
   cases rem with
   | nil=>simp at hfl
   | cons r rs =>
    have hrl:r < ops.size:=hlt r (by simp)
    have hro:ops[r]?=some ops[r]:=by simp [hrl]
    obtain ⟨ao,e1,e2,e3,_⟩:=hafter r _ hro
    have : r ∈ Region.ready .any ops listed:=by
     rw [mem_ready]
     refine ⟨?_,ops[r],hro,fun e he hbnd=>?_⟩
     ·cases hq:listed.getD r true with
      | false=>rfl
      | true=>exact absurd (XaK) ((hl r hrl).1 hq)
     ·have hon:e.on ∈ ao.after:=by rw [e3];exact XT.2 ⟨e,Wy.2 ⟨by simpa using he,hbnd⟩,rfl⟩
      have hlt':e.on < r:=hp2 r (by omega) e.on (by rw [e1];exact hon)
      rw [getD_tf _ (by omega)]
      refine (hl e.on (by omega)).2 (fun hm=>?_)
      rcases XR.1 hm with h | hm
      ·omega
      ·have:=(WH.1 hs).1 e.on hm;omega
    rw [hnil] at this;simp at this
  ·rw [mem_ready] at hi
   obtain ⟨hi0,o,ho,hpre⟩:=hi
   have hil:i < ops.size:=(XJ.1 ho).1
   have him:=isRem i hil hi0
   obtain ⟨l1,l2,rfl⟩:=List.append_of_mem him
   obtain ⟨ao,e1,e2,e3,e4⟩:=hafter i o ho
   have hdone:∀ p ∈ (asl.getD i default).after,p < ops.size->p ∉ l1++i::l2:=by
    intro p hp hpl
    rw [e1,e3] at hp
    obtain ⟨e,he,rfl⟩:=XT.1 hp
    obtain ⟨he1,he2⟩:=Wy.1 he
    have:=hpre e (by simpa using he1) he2
    rw [getD_tf _ hpl] at this
    exact (hl e.on hpl).1 this
   have hai:(asl.map (·.after)).getD i []=(asl.getD i default).after:=by
    simp [Xq,show i < asl.length by omega]
   have hanci:∀ p ∈ (Zbn (asl.map (·.after)) []).getD i [],p ∉ l1++i::l2:=by
    intro p hp
    have hap:∀ q,q ∈ (asl.map (·.after)).getD i []->q < i:=fun q hq=>hp2 i (by omega) q (by rw [<-hai];exact hq)
    rcases hanc i (by simp;omega) p (by simpa using hp) with h | ⟨q,h1,h2,h3⟩
    ·exact hdone p (by rw [<-hai];exact h) (by have:=hap p h;omega)
    ·have hql:q < ops.size:=by simp at h2;omega
     exact hcl q hql (hdone q (by rw [<-hai];exact h1) hql) p h3
   have hl1:∀ j ∈ l1,j < i:=by
    intro j hj
    have:=Wm.1 hs
    exact this.2.2 j hj i (by simp)
   obtain ⟨v1,tm1,σ1,h1,hnp1,h2⟩:=ZjD (l1:=l1) (i:=i) (fun j hj=>by
    have hji:=hl1 j hj
    have hjn:j ∉ (Zbn (asl.map (·.after)) []).getD i []:=fun hm=>hanci j hm (by simp [hj])
    obtain ⟨p1,p2⟩:=hp1 j i hji (by omega) hjn
    refine ⟨p1,?_,fun hn _=>?_,?_⟩
    ·rcases p2 with p2 | p2 | p2
     ·have:=Zeu hr j (by simp [hj]) p2
      have hem:Zbs (asl.getD j default) (cs.getD j {})=true:=by rw [this];simp only [Zbs,Zgf p2];rfl
      simp only [ZbL,hem,WN]
     ·have:=Zeu hr i (by simp) p2
      have hem:Zbs (asl.getD i default) (cs.getD i {})=true:=by rw [this];simp only [Zbs,Zgf p2];rfl
      simp only [ZbL,hem,WN,XaL]
     ·have:=XD.1 hchk (j,i) p2
      simp only [WF,beq_iff_eq] at this
      rcases this with h | h
      ·omega
      ·exact h
    ·have:=ZeS asl hji (by omega)
     omega
    ·have:=ZeS asl hji (by omega)
     omega) hr
   unfold wpOp
   rw [ho]
   rw [e1] at h1
   obtain ⟨I',β',g1,g2,g3,g4,g5⟩:=hst
   refine ZgJ hO hkp e2 g3 g4 g5 hb h1 (fun _ a' w' hs'=>ih (l1++l2) _ a' w' tm1 σ1 h2 ?_ ?_ ?_ (by simpa using hsz) ?_ ?_ (hs'.trans g1 g2)) (fun x e=>absurd e (hnp1 x))
   ·have:=Wm.1 hs
    exact Wm.2 ⟨this.1,(WH.1 this.2.1).2,fun x hx y hy=>this.2.2 x hx y (by simp [hy])⟩
   ·intro j hj
    refine hlt j ?_
    simp only [XB,XR] at hj ⊢
    rcases hj with h | h
    ·exact Xz h
    ·exact XG (XG h)
   ·intro j hj
    have hs1:=Wm.1 hs
    by_cases hij:i=j
    ·subst hij
     have hn:i ∉ l1++l2:=by
      intro hm
      rcases XB.1 hm with h | h
      ·have:=hl1 i h;omega
      ·have:=(WH.1 hs1.2.1).1 i h;omega
     simp [Xaj,hsz,hil,hn]
    ·rw [getD_set_ne true hij,hl j hj]
     simp only [XB,XR,not_or]
     constructor
     ·rintro ⟨a1,_,a3⟩;exact ⟨a1,a3⟩
     ·rintro ⟨a1,a3⟩;exact ⟨a1,fun e=>hij e.symm,a3⟩
   ·intro k hk hkn p hp hm
    have hsub:p ∈ l1++i::l2:=by
     simp only [XB,XR] at hm ⊢
     rcases hm with h | h
     ·exact Xz h
     ·exact XG (XG h)
    by_cases hki:k=i
    ·subst hki;exact hanci p hp hsub
    ·refine hcl k hk (fun hkm=>hkn ?_) p hp hsub
     simp only [XB,XR] at hkm ⊢
     rcases hkm with h | h | h
     ·exact Xz h
     ·exact absurd h hki
     ·exact XG h
   ·simp at hfl ⊢;omega
theorem Zxr (hO:Zao P O) (hkp:∀ n ∈ dr.K,n ∈ an.keep) (hb:KLt base w0) {ops:Array Oper} {asl:List AOp} (hcomp:Zb9 P an ops ops.toList=some asl) {ps:List (Nat×Nat)} (hps:Zc2 asl=some ps) {L:Nat} {cs:List Cls} {jp:Nat} (hjl:jp < ops.size) (hmark:(jp,jp) ∈ ps) (hmarkT:(asl.getD jp default).ins.touches=true) (hfree:∀ j i,(j,i) ∈ ps->j < i->i<=jp->ZbL (asl.getD j default) (asl.getD i default) (cs.getD j {}) (cs.getD i {}) (L+sitesOf (asl.take j))=true) (hquiet:∀ j,(j,jp) ∈ ps->j < jp->Zaz (asl.getD j default).ins=true)
  {x:AVal} {σF:Za} {Q:Exit->Act->World->Prop} {I:Imm} {β:Bmap} (hQ:∀ a' u w',dr.ok a'->Post base w0 I0 I β x σF u w'->Q (.panic [{ v:=u,recovered:=false }]) a' w') :
  ∀ (fuel:Nat) (pre post:List Nat) (listed:Array Bool) (a:Act) (w:World) (tm tmJ tmX:Tms) (σ σJ:Za),ZbQ O bf asl L cs pre tm σ tmJ σJ->ZR O bf (asl.getD jp default) (L+sitesOf (asl.take jp)) tmJ σJ=some (.pan x,tmX,σF,cs.getD jp {})->(pre++jp::post).Pairwise (· < ·)->(∀ j ∈ pre++jp::post,j < ops.size)->(∀ j,j < ops.size->(listed.getD j true=true↔j ∉ pre++jp::post))->listed.size=ops.size ->
   (∀ k,k < ops.size->k ∉ pre++jp::post->∀ p ∈ (Zbn (asl.map (·.after)) []).getD k [],p ∉ pre++jp::post)->(pre++jp::post).length=fuel->StR dr an.nt base w0 I0 I β tm σ a w->wpAny P .any ops Q fuel listed a w:=by
 obtain ⟨hlen,hget⟩:=ZgS hcomp
 obtain ⟨hp1,hp2⟩:=Zuh hps
 have hmk:=Zz6 hps hmark
 obtain ⟨_,_,hanc⟩:=ZpG (asl.map (·.after)) [] (fun _ _ _=>trivial)
 simp only [XN] at hlen
 have hafter:∀ j o,ops[j]?=some o->∃ ao,asl.getD j default=ao/\Zd8 P an ops o=some ao/\ao.after=(o.after.toList.filter (Region.binds .any)).map (·.on)/\ao.dst=o.dst:=by
  intro j o ho
  obtain ⟨ao,h1,h2⟩:=hget j o (by simpa using ho)
  refine ⟨ao,by simp [Xq,h1],h2,?_⟩
  obtain ⟨g,i,_,_,_,rfl⟩:=ZoL h2
  exact ⟨rfl,rfl⟩
 intro fuel
 induction fuel with
 | zero =>
  intro pre post listed a w tm tmJ tmX σ σJ hr hj hs hlt hl hsz hcl hfl hst
  simp at hfl
 | succ fuel ih =>
  intro pre post listed a w tm tmJ tmX σ σJ hr hj hs hlt hl hsz hcl hfl hst
  have getD_tf:∀ j,j < ops.size->listed.getD j false=listed.getD j true:=by
   intro j hj
   simp [Xaj,hsz,hj]
  have isRem:∀ j,j < ops.size->listed.getD j true=false->j ∈ pre++jp::post:=by
   intro j hj h
   by_cases hm:j ∈ pre++jp::post
   ·exact hm
   ·have:=(hl j hj).2 hm;rw [h] at this;cases this
  refine ⟨fun hnil=>?_,fun i hi=>?_⟩
  ·exfalso
   obtain ⟨r,rs,hrr⟩:∃ r rs,pre++jp::post=r::rs:=by cases pre <;> simp
   rw [hrr] at hs hlt hl
   have hrl:r < ops.size:=hlt r (by simp)
   have hro:ops[r]?=some ops[r]:=by simp [hrl]
   obtain ⟨ao,e1,e2,e3,_⟩:=hafter r _ hro
   have : r ∈ Region.ready .any ops listed:=by
    rw [mem_ready]
    refine ⟨?_,ops[r],hro,fun e he hbnd=>?_⟩
    ·cases hq:listed.getD r true with
     | false=>rfl
     | true=>exact absurd (XaK) ((hl r hrl).1 hq)
    ·have hon:e.on ∈ ao.after:=by rw [e3];exact XT.2 ⟨e,Wy.2 ⟨by simpa using he,hbnd⟩,rfl⟩
     have hlt':e.on < r:=hp2 r (by omega) e.on (by rw [e1];exact hon)
     rw [getD_tf _ (by omega)]
     refine (hl e.on (by omega)).2 (fun hm=>?_)
     rcases XR.1 hm with h | hm
     ·omega
     ·have:=(WH.1 hs).1 e.on hm;omega
   rw [hnil] at this;simp at this
  ·rw [mem_ready] at hi
   obtain ⟨hi0,o,ho,hpre⟩:=hi
   have hil:i < ops.size:=(XJ.1 ho).1
   have him:=isRem i hil hi0
   obtain ⟨ao,e1,e2,e3,e4⟩:=hafter i o ho
   have hdone:∀ p ∈ (asl.getD i default).after,p < ops.size->p ∉ pre++jp::post:=by
    intro p hp hpl
    rw [e1,e3] at hp
    obtain ⟨e,he,rfl⟩:=XT.1 hp
    obtain ⟨he1,he2⟩:=Wy.1 he
    have:=hpre e (by simpa using he1) he2
    rw [getD_tf _ hpl] at this
    exact (hl e.on hpl).1 this
   have hai:(asl.map (·.after)).getD i []=(asl.getD i default).after:=by
    simp [Xq,show i < asl.length by omega]
   have hanci:∀ p ∈ (Zbn (asl.map (·.after)) []).getD i [],p ∉ pre++jp::post:=by
    intro p hp
    have hap:∀ q,q ∈ (asl.map (·.after)).getD i []->q < i:=fun q hq=>hp2 i (by omega) q (by rw [<-hai];exact hq)
    rcases hanc i (by simp;omega) p (by simpa using hp) with h | ⟨q,h1,h2,h3⟩
    ·exact hdone p (by rw [<-hai];exact h) (by have:=hap p h;omega)
    ·have hql:q < ops.size:=by simp at h2;omega
     exact hcl q hql (hdone q (by rw [<-hai];exact h1) hql) p h3
   have hss:=Wm.1 hs
   rw [XB,XR] at him
   rcases him with him | hij | him
   ·obtain ⟨l1,l2,rfl⟩:=List.append_of_mem him
    have hl1:∀ j ∈ l1,j < i:=by
     intro j hj
     exact (Wm.1 hss.1).2.2 j hj i (by simp)
    have hijp:i < jp:=hss.2.2 i (by simp) jp (by simp)
    obtain ⟨v1,tm1,σ1,h1,hnp1,h2⟩:=ZjD (l1:=l1) (i:=i) (fun j hj'=>by
     have hji:=hl1 j hj'
     have hjn:j ∉ (Zbn (asl.map (·.after)) []).getD i []:=fun hm=>hanci j hm (by simp [hj'])
     obtain ⟨p1,p2⟩:=hp1 j i hji (by omega) hjn
     refine ⟨p1,?_,fun hn _=>?_,?_⟩
     ·rcases p2 with p2 | p2 | p2
      ·have:=Zeu hr j (by simp [hj']) p2
       have hem:Zbs (asl.getD j default) (cs.getD j {})=true:=by rw [this];simp only [Zbs,Zgf p2];rfl
       simp only [ZbL,hem,WN]
      ·have:=Zeu hr i (by simp) p2
       have hem:Zbs (asl.getD i default) (cs.getD i {})=true:=by rw [this];simp only [Zbs,Zgf p2];rfl
       simp only [ZbL,hem,WN,XaL]
      ·exact hfree j i p2 hji (by omega)
     ·have:=ZeS asl hji (by omega)
      omega
     ·have:=ZeS asl hji (by omega)
      omega) hr
    have eA:(l1++i::l2)++jp::post=l1++i::(l2++jp::post):=by simp
    have eB:(l1++l2)++jp::post=l1++(l2++jp::post):=by simp
    rw [eA] at hs hlt hl hcl hanci hfl
    unfold wpOp
    rw [ho]
    rw [e1] at h1
    obtain ⟨I',β',g1,g2,g3,g4,g5⟩:=hst
    refine ZgJ hO hkp e2 g3 g4 g5 hb h1 (fun _ a' w' hs'=>ih (l1++l2) post _ a' w' tm1 tmJ tmX σ1 σJ h2 hj ?_ ?_ ?_ (by simpa using hsz) ?_ ?_ (hs'.trans g1 g2)) (fun x e=>absurd e (hnp1 x))
    ·rw [eB]
     have:=Wm.1 hs
     exact Wm.2 ⟨this.1,(WH.1 this.2.1).2,fun x hx y hy=>this.2.2 x hx y (by simp only [XR];exact XG hy)⟩
    ·intro j hj
     rw [eB] at hj
     refine hlt j ?_
     simp only [XB,XR] at hj ⊢
     rcases hj with h | h | h | h
     ·exact Xz h
     ·exact XG (XG (Xz h))
     ·exact XG (XG (XG (Xz h)))
     ·exact XG (XG (XG (XG h)))
    ·intro j hj
     rw [eB]
     generalize l2++jp::post=L2 at *
     have hs1:=Wm.1 hs
     by_cases hij:i=j
     ·subst hij
      have hn:i ∉ l1++L2:=by
       intro hm
       rcases XB.1 hm with h | h
       ·have:=hl1 i h;omega
       ·have:=(WH.1 hs1.2.1).1 i h;omega
      simp [Xaj,hsz,hil,hn]
     ·rw [getD_set_ne true hij,hl j hj]
      simp only [XB,XR,not_or]
      constructor
      ·rintro ⟨a1,_,a3⟩;exact ⟨a1,a3⟩
      ·rintro ⟨a1,a3⟩;exact ⟨a1,fun e=>hij e.symm,a3⟩
    ·intro k hk hkn p hp hm
     rw [eB] at hkn hm
     generalize l2++jp::post=L2 at *
     have hsub:p ∈ l1++i::L2:=by
      simp only [XB,XR] at hm ⊢
      rcases hm with h | h
      ·exact Xz h
      ·exact XG (XG h)
     by_cases hki:k=i
     ·subst hki;exact hanci p hp hsub
     ·refine hcl k hk (fun hkm=>hkn ?_) p hp hsub
      simp only [XB,XR] at hkm ⊢
      rcases hkm with h | h | h
      ·exact Xz h
      ·exact absurd h hki
      ·exact XG h
    ·rw [eB];simp at hfl ⊢;omega
   ·subst hij
    have hl1:∀ j ∈ pre,j < i:=fun j hj=>hss.2.2 j hj i (by simp)
    obtain ⟨tm1,h1⟩:=Zvm (l1:=pre) (i:=i) (fun j hj'=>by
     have hji:=hl1 j hj'
     have hjn:j ∉ (Zbn (asl.map (·.after)) []).getD i []:=fun hm=>hanci j hm (by simp [hj'])
     obtain ⟨p1,p2⟩:=hp1 j i hji (by omega) hjn
     have hts:(asl.getD i default).ins.touches=false->False:=fun h=>by
      have:=hmarkT
      rw [h] at this;cases this
     refine ⟨?_,p1,?_,fun hn _=>?_,?_⟩
     ·rcases p2 with p2 | p2 | p2
      ·exact Xz p2
      ·exact (hts p2).elim
      ·exact XG (hquiet j p2 hji)
     ·rcases p2 with p2 | p2 | p2
      ·have:=Zeu hr j hj' p2
       have hem:Zbs (asl.getD j default) (cs.getD j {})=true:=by rw [this];simp only [Zbs,Zgf p2];rfl
       simp only [ZbL,hem,WN]
      ·exact (hts p2).elim
      ·exact hfree j i p2 hji (X5 _)
     ·have:=ZeS asl hji (by omega)
      omega
     ·have:=ZeS asl hji (by omega)
      omega) hr hj
    unfold wpOp
    rw [ho]
    rw [e1] at h1
    obtain ⟨I',β',g1,g2,g3,g4,g5⟩:=hst
    refine ZgJ hO hkp e2 g3 g4 g5 hb h1 (fun hn=>absurd rfl (hn x)) (fun x' e u w' hp=>?_)
    injection e with e
    subst e
    exact hQ a u w' g4.1 (hp.trans g1 g2)
   ·exfalso
    have hlt2:jp < i:=(WH.1 hss.2.1).1 i him
    exact hanci jp (hmk i hlt2 (by omega)) (by simp)
theorem Rel.reserve {I:Imm} {β:Bmap} {σ:Za} {w:World} (R:Rel base w0 I0 I β σ w) (n:Nat):Rel base w0 I0 I β (σ++XI n .free) w:=by
 have look:∀ t x,(σ++XI n Z1.free)[t]?=some x->σ[t]?=some x\/(σ.length<=t/\x=.free):=by
  intro t x h
  by_cases ht:t < σ.length
  ·rw [Wj ht] at h;exact Xz h
  ·rw [List.getElem?_append_right (by omega)] at h
   refine XG ⟨by omega,?_⟩
   have:=XF h
   exact List.eq_of_mem_replicate this
 refine ⟨R.below,R.old,R.imm,?_,?_,?_,?_,?_,?_,R.glob⟩
 ·intro t x h
  rcases look t x h with h | ⟨_,rfl⟩
  ·exact R.blk t x h
  ·trivial
 ·intro t x b h hb
  rcases look t x h with h | ⟨_,rfl⟩
  ·exact R.own t x b h hb
  ·cases hb
 ·intro t x t' x' b h h' hb hb'
  rcases look t x h with h | ⟨_,rfl⟩
  ·rcases look t' x' h' with h' | ⟨_,rfl⟩
   ·exact R.apart t x t' x' b h h' hb hb'
   ·cases hb'
  ·cases hb
 ·intro t g h
  exact R.fresh t g (by simp at h;omega)
 ·intro t g h
  rcases look t _ h with h | ⟨h,_⟩
  ·exact R.free t g h
  ·exact R.fresh t g h
 ·intro t x g h hg
  rcases look t _ h with h | ⟨h,_⟩
  ·exact R.gen t x g h hg
  ·exact R.fresh t g h
theorem StR.keep {I:Imm} {β:Bmap} {tm:Tms} {σ:Za} {a:Act} {w:World} (h:StR dr an.nt base w0 I0 I β tm σ a w) (live:List Nat):StR dr an.nt base w0 I0 I β (keepL live tm) σ a w:=by
 obtain ⟨I',β',h1,h2,h3,h4⟩:=h
 exact ⟨I',β',h1,h2,h3.keep live,h4⟩
def Zzi (dr:Door) (an:Ann) (base:Nat->Prop) (w0:World) (I0 I:Imm) (β:Bmap) (e:Zax) (tm:Tms) (σ:Za) (Q:Exit->Act->World->Prop):Prop:=match e with
 | .normal=>∀ a w,StR dr an.nt base w0 I0 I β tm σ a w->Q .normal a w
 | .exit id=>∀ a w,StR dr an.nt base w0 I0 I β tm σ a w->Q (.exit id) a w
 | .ret=>∀ a w,StR dr an.nt base w0 I0 I β tm σ a w->Q .ret a w
 | .panic x=>∀ a u w,dr.ok a->Post base w0 I0 I β x σ u w->Q (.panic [{ v:=u,recovered:=false }]) a w
theorem ZiU (hO:Zao P O) (hkp:∀ n ∈ dr.K,n ∈ an.keep) (hm:P.follows .mixedOrders=true) (hb:KLt base w0) {id:Nat} {ops:Array Oper} {draw:Bool} {asl:List AOp} {chk:Option (List (Nat×Nat))} {live:List Nat} (hc:ZaG P an (.region id ops draw)=.region asl chk live) {I:Imm} {β:Bmap} {tm tm':Tms} {σ σ':Za} {a:Act} {w:World} {e:Zax}
  (hst:StR dr an.nt base w0 I0 I β tm σ a w) (h:Zbl O bf asl chk live tm σ=some (e,tm',σ')) {Q:Exit->Act->World->Prop} (hQ:Zzi dr an base w0 I0 I β e tm' σ' Q):(Code.region id ops draw).wp P Q a w:=by
 obtain ⟨I1,β1,g1,g2,g3,g4,g5⟩:=hst
 simp only [ZaG] at hc
 split at hc
 ·rename_i l hl
  unfold Zbl at h
  split at hc
  ·rename_i hd
   subst hd
   split at hc
   ·rename_i ps hps
    simp only [Ze.region.injEq] at hc
    obtain ⟨rfl,rfl,rfl⟩:=hc
    cases hrun:ZY O bf l σ.length tm (σ++XI (sitesOf l) .free) with
    | none=>rw [hrun] at h;simp only [ZbV] at h;cases h
    | some q =>
     obtain ⟨tm1,σ1,cs,p⟩:=q
     rw [hrun] at h
     cases p with
     | some x =>
      simp only [ZbV] at h
      split at h
      ·rename_i hpan
       simp only [Xa,Xb] at h
       obtain ⟨rfl,rfl,rfl⟩:=h
       have hlen:=(ZgS hl).1
       simp only [XN] at hlen
       obtain ⟨n,tmJ,σJ,tmX,q1,q2,q3,q4⟩:=Zuk (O:=O) (bf:=bf) (ops:=l) (L:=σ.length) l.length 0 (cs:=cs) (cs':=cs) (by omega) (by simpa [sitesOf] using hrun) (fun j=>by simp)
       rw [XC] at q4
       unfold ZaO at hpan
       rw [q2] at hpan
       simp only [Xp,List.any_eq_true,XD,WF,beq_iff_eq,decide_eq_true_eq,Nat.add_sub_cancel] at hpan
       obtain ⟨⟨pm,hpm,hm1,hm2⟩,hall⟩:=hpan
       have hmk:(n,n) ∈ ps:=by
        obtain ⟨a1,a2⟩:=pm
        simp only at hm1 hm2
        subst hm1 hm2
        exact hpm
       have hT:(l.getD n default).ins.touches=true:=Zxv hps hmk
       refine wp_region_any hm (Zxr hO hkp hb hl hps (jp:=n) (by omega) hmk hT (fun j i hji h1 h2=>?_) (fun j hj h1=>?_) (I:=I) (β:=β) (x:=x) (fun a' u w' hd' hp=>hQ a' u w' hd' hp) ops.size (Xah 0 n) (Xah (n+1) (l.length - n - 1)) _ a _ tm tmJ tmX _ σJ q3 q4 ?_ ?_ ?_ (by simp) ?_ (by simp;omega) ⟨I1,β1,g1,g2,g3,g4,(g5.reserve _).same rfl rfl rfl rfl⟩)
       ·rcases hall (j,i) hji with (h | h) | ⟨h,_⟩
        ·simp only at h;omega
        ·simp only at h;omega
        ·exact h
       ·rcases hall (j,n) hj with (h | h) | ⟨_,h⟩
        ·simp only at h;omega
        ·simp only at h;omega
        ·rcases h with h | h
         ·simp only at h;omega
         ·exact h
       ·have e:Xah 0 n++n::Xah (n+1) (l.length - n - 1)=Xah 0 l.length:=by
         rw [<-List.range'_succ]
         have:=List.range'_append_1 (s:=0) (m:=n) (n:=l.length - n - 1+1)
         rw [XC] at this
         rw [this]
         congr 1
         omega
        rw [e];exact List.pairwise_lt_range'
       ·intro j hj;simp at hj;omega
       ·intro j hj
        simp [Xaj,hj]
        omega
       ·intro k hk hkn
        exact absurd (by simp;omega) hkn
      ·cases h
     | none =>
      simp only [ZbV] at h
      split at h
      ·rename_i hchk
       simp only [Xa,Xb] at h
       obtain ⟨rfl,rfl,rfl⟩:=h
       have hlen:=(ZgS hl).1
       simp only [XN] at hlen
       have hr:=ZvI (O:=O) (bf:=bf) (ops:=l) (L:=σ.length) l.length 0 (cs:=cs) (cs':=cs) (by omega) (by simpa [sitesOf] using hrun) (fun j=>by simp)
       refine wp_region_any hm (ZzR hO hkp hb hl hps hchk (I:=I) (β:=β) (fun a' w' hs=>hQ a' w' (hs.keep _)) ops.size (Xah 0 l.length) _ a _ tm _ hr ?_ ?_ ?_ (by simp) ?_ (by simp [hlen]) ⟨I1,β1,g1,g2,g3,g4,(g5.reserve _).same rfl rfl rfl rfl⟩)
       ·exact List.pairwise_lt_range'
       ·intro j hj;simp at hj;omega
       ·intro j hj
        simp [Xaj,hj,hlen]
       ·intro k hk hkn
        exact absurd (by simp;omega) hkn
      ·cases h
   ·cases hc
  ·rename_i hd
   simp only [Ze.region.injEq] at hc
   obtain ⟨rfl,rfl,rfl⟩:=hc
   have hdf:draw=false:=by cases draw <;> simp_all
   subst hdf
   cases hrun:ZY O bf l σ.length tm (σ++XI (sitesOf l) .free) with
   | none=>rw [hrun] at h;simp only [ZbV] at h;cases h
   | some q =>
    obtain ⟨tm1,σ1,cs,p⟩:=q
    rw [hrun] at h
    cases p with
    | none =>
     simp only [ZbV,Xa,Xb] at h
     obtain ⟨rfl,rfl,rfl⟩:=h
     exact wp_region_list (Zsa hO hkp hb hl g3 g4 (g5.reserve _) hrun (fun _ a' w' hs=>hQ a' w' ((hs.trans g1 g2).keep _)) (fun x hx=>by cases hx))
    | some x =>
     simp only [ZbV,Xa,Xb] at h
     obtain ⟨rfl,rfl,rfl⟩:=h
     exact wp_region_list (Zsa hO hkp hb hl g3 g4 (g5.reserve _) hrun (fun hx=>by cases hx) (fun x' hx a' u w' hd' hp=>by
      injection hx with hx;subst hx
      exact hQ a' u w' hd' (hp.trans g1 g2)))
 ·cases hc
end
end
section
open Go.RowKit
section
variable {P:Program} {O:ZW} {bf:Nat->Bool} {an:Ann} {base:Nat->Prop} {w0:World} {I0:Imm} {dr:Door}
def StF (dr:Door) (m nt:Nat) (base:Nat->Prop) (w0:World) (I0 I:Imm) (β:Bmap) (tm:Tms) (σ:Za) (a:Act) (w:World):Prop :=
 ∃ I' β',I.le I'/\KeptE m β β'/\TR I' β' tm a.tmps/\(dr.ok a/\nt<=a.tmps.size)/\Rel base w0 I0 I' β' σ w
def Zyc (dr:Door) (m:Nat) (an:Ann) (base:Nat->Prop) (w0:World) (I0 I:Imm) (β:Bmap) (e:Zax) (tm:Tms) (σ:Za) (Q:Exit->Act->World->Prop):Prop:=match e with
 | .normal=>∀ a w,StF dr m an.nt base w0 I0 I β tm σ a w->Q .normal a w
 | .exit id=>∀ a w,StF dr m an.nt base w0 I0 I β tm σ a w->Q (.exit id) a w
 | .ret=>∀ a w,StF dr m an.nt base w0 I0 I β tm σ a w->Q .ret a w
 | .panic x=>∀ a u w,dr.ok a->ZbW m base w0 I0 I β (.pan x) σ u w->Q (.panic [{ v:=u,recovered:=false }]) a w
theorem StF.cond {m:Nat} {I:Imm} {β:Bmap} {tm:Tms} {σ:Za} {a:Act} {w:World} (h:StF dr m an.nt base w0 I0 I β tm σ a w) {c:Operand} {y:Opd} (hc:Zad c=some y) {b:Bool} (hv:y.ev tm=.bool b):a.eval c=.bool b:=by
 obtain ⟨I',β',_,_,T,_,_⟩:=h
 have:=Zaf T hc
 rw [hv] at this
 simpa only [VR] using this
theorem Zxc (hO:Zao P O) (hkp:∀ n ∈ dr.K,n ∈ an.keep) (hm:P.follows .mixedOrders=true) (hb:KLt base w0) (m n:Nat):∀ {c:Code} {ac:Ze},ZaG P an c=ac->∀ {I:Imm} {β:Bmap} {tm tm':Tms} {σ σ':Za} {a:Act} {w:World} {e:Zax},StF dr m an.nt base w0 I0 I β tm σ a w->Z2 O bf m n ac tm σ=some (e,tm',σ') ->
  ∀ {Q:Exit->Act->World->Prop},Zyc dr m an base w0 I0 I β e tm' σ' Q->c.wp P Q a w:=by
 intro c
 induction c with
 | skip =>
  intro ac hc I β tm tm' σ σ' a w e hst h Q hQ
  simp only [ZaG] at hc;subst hc
  simp only [Z2,Xa,Xb] at h
  obtain ⟨rfl,rfl,rfl⟩:=h
  exact wp_skip (hQ a w hst)
 | region id ops draw =>
  intro ac hc I β tm tm' σ σ' a w e hst h Q hQ
  obtain ⟨asl,chk,live,rfl⟩:∃ asl chk live,ac=.region asl chk live:=by
   simp only [ZaG] at hc
   split at hc
   ·split at hc
    ·split at hc
     ·exact ⟨_,_,_,hc.symm⟩
     ·subst hc;simp only [Z2] at h;cases h
    ·exact ⟨_,_,_,hc.symm⟩
   ·subst hc;simp only [Z2] at h;cases h
  simp only [Z2] at h
  obtain ⟨I1,β1,g1,g2,g3,g4,g5⟩:=hst
  have up:∀ {tm:Tms} {σ:Za} {a':Act} {w':World},StR dr an.nt base w0 I0 I1 β1 tm σ a' w'->StF dr m an.nt base w0 I0 I β tm σ a' w':=by
   rintro tm σ a' w' ⟨I2,β2,k1,k2,k3⟩
   exact ⟨I2,β2,g1.trans k1,g2.trans (KeptE.of_le k2),k3⟩
  refine ZiU hO hkp hm hb hc (⟨I1,β1,Imm.le.refl I1,Bmap.le.refl β1,g3,g4,g5⟩:StR dr an.nt base w0 I0 I1 β1 tm σ a w) h ?_
  cases e with
  | normal=>exact fun a' w' hs=>hQ a' w' (up hs)
  | exit id=>exact fun a' w' hs=>hQ a' w' (up hs)
  | ret=>exact fun a' w' hs=>hQ a' w' (up hs)
  | panic x =>
   rintro a' u w' hd ⟨I2,β2,k1,k2,k3,k4⟩
   exact hQ a' u w' hd ⟨I2,β2,g1.trans k1,g2.trans (KeptE.of_le k2),k3,k4⟩
 | seq x y ihx ihy =>
  intro ac hc I β tm tm' σ σ' a w e hst h Q hQ
  simp only [ZaG] at hc
  subst hc
  simp only [Z2] at h
  refine wp_seq ?_
  split at h
  ·rename_i tm1 σ1 h1
   exact ihx rfl hst h1 (fun a' w' hs=>ihy rfl hs h hQ)
  ·rename_i hne
   refine ihx rfl hst h ?_
   cases e with
   | normal=>exact absurd h (hne _ _)
   | exit id=>exact hQ
   | ret=>exact hQ
   | panic x=>exact hQ
 | cond c x y ihx ihy =>
  intro ac hc I β tm tm' σ σ' a w e hst h Q hQ
  simp only [ZaG] at hc
  split at hc
  ·rename_i c' hcc
   subst hc
   simp only [Z2] at h
   split at h
   ·rename_i hv
    exact wp_cond_true (hst.cond hcc hv) (ihx rfl hst h hQ)
   ·rename_i hv
    exact wp_cond_false (hst.cond hcc hv) (ihy rfl hst h hQ)
   ·cases h
  ·subst hc;simp only [Z2] at h;cases h
 | block id x ih =>
  intro ac hc I β tm tm' σ σ' a w e hst h Q hQ
  simp only [ZaG] at hc
  subst hc
  have hx:ZaG P an x=ZaG P an x:=rfl
  simp only [Z2] at h
  refine wp_block ?_
  split at h
  ·rename_i i tm1 σ1 h1
   refine ih hx hst h1 ?_
   intro a' w' hs
   simp only [Exit.inBlock]
   split at h
   ·rename_i hid
    simp only [Xa,Xb] at h
    obtain ⟨rfl,rfl,rfl⟩:=h
    rw [if_pos hid]
    exact hQ a' w' hs
   ·rename_i hid
    simp only [Xa,Xb] at h
    obtain ⟨rfl,rfl,rfl⟩:=h
    rw [if_neg hid]
    exact hQ a' w' hs
  ·rename_i hne
   refine ih hx hst h ?_
   cases e with
   | normal=>exact hQ
   | exit id=>exact absurd h (hne _ _ _)
   | ret=>exact hQ
   | panic x=>exact hQ
 | loop x ih =>
  intro ac hc I β tm tm' σ σ' a w e hst h Q hQ
  simp only [ZaG] at hc
  subst hc
  have hx:ZaG P an x=ZaG P an x:=rfl
  simp only [Z2] at h
  refine wp_loop_rounds n ?_
  have key:∀ k {tm:Tms} {σ:Za} {a:Act} {w:World},StF dr m an.nt base w0 I0 I β tm σ a w->Zb8 m (an.ll (ZcS x)) (Z2 O bf m n (ZaG P an x)) k tm σ=some (e,tm',σ')->Code.rounds P x Q k a w:=by
   intro k
   induction k with
   | zero=>intro tm σ a w _ h;simp only [Zb8] at h;cases h
   | succ k ihk =>
    intro tm σ a w hst h
    rw [rounds_succ]
    simp only [Zb8] at h
    obtain ⟨I1,β1,k1,k2,k3,k4,k5⟩:=hst
    obtain ⟨β2,q1,q2,q3⟩:=Zyk k5 (k3.keep (an.ll (ZcS x))) m
    have hst0:StF dr m an.nt base w0 I0 I β (gcT m (keepL (an.ll (ZcS x)) tm) σ).1 (gcT m (keepL (an.ll (ZcS x)) tm) σ).2 a w:=⟨I1,β2,k1,k2.trans q1,q3,k4,q2⟩
    split at h
    ·rename_i tm1 σ1 h1
     exact ih hx hst0 h1 (fun a' w' hs=>ihk hs h)
    ·rename_i hne
     refine ih hx hst0 h ?_
     cases e with
     | normal=>exact absurd h (hne _ _)
     | exit id=>exact hQ
     | ret=>exact hQ
     | panic x=>exact hQ
  exact key n hst h
 | exit id =>
  intro ac hc I β tm tm' σ σ' a w e hst h Q hQ
  simp only [ZaG] at hc;subst hc
  simp only [Z2,Xa,Xb] at h
  obtain ⟨rfl,rfl,rfl⟩:=h
  exact wp_exit (hQ a w hst)
 | ret =>
  intro ac hc I β tm tm' σ σ' a w e hst h Q hQ
  simp only [ZaG] at hc;subst hc
  simp only [Z2,Xa,Xb] at h
  obtain ⟨rfl,rfl,rfl⟩:=h
  exact wp_ret (hQ a w hst)
 | rangeFunc f ps x y=>intro ac hc I β tm tm' σ σ' a w e hst h;simp only [ZaG] at hc;subst hc;simp only [Z2] at h;cases h
 | scope x ih =>
  intro ac hc I β tm tm' σ σ' a w e hst h Q hQ
  simp only [ZaG] at hc
  refine wp_scope_straight (ih hc hst h ?_)
  cases e with
  | normal=>exact hQ
  | exit id=>exact hQ
  | ret=>exact hQ
  | panic x=>exact hQ
 | label l =>
  intro ac hc I β tm tm' σ σ' a w e hst h Q hQ
  simp only [ZaG] at hc;subst hc
  simp only [Z2,Xa,Xb] at h
  obtain ⟨rfl,rfl,rfl⟩:=h
  exact wp_label (hQ a w hst)
 | goto l=>intro ac hc I β tm tm' σ σ' a w e hst h;simp only [ZaG] at hc;subst hc;simp only [Z2] at h;cases h
 | refuse why=>intro ac hc I β tm tm' σ σ' a w e hst h;simp only [ZaG] at hc;subst hc;simp only [Z2] at h;cases h
theorem Zxx {I:Imm} {β:Bmap} {σ σ':Za} {k:Option Nat} {a x:AVal} {c:Cls} {v:Value} (ha:VR I β a v) (h:ldA σ k a=some (x,σ',c)):∃ ad,v=.pointer (some ad):=by
 unfold ldA at h
 split at h
 ·simp only [VR] at ha;obtain ⟨b,k,c,_,rfl⟩:=ha;exact ⟨_,rfl⟩
 ·simp only [VR] at ha;obtain ⟨b,k,c,_,rfl⟩:=ha;exact ⟨_,rfl⟩
 ·simp only [VR] at ha;obtain ⟨b,off,rfl,_⟩:=ha;exact ⟨_,rfl⟩
 ·cases h
def Zgp (tmps:Array Value):ResultVar->Sem Value
 | .tmp t=>pure (tmps.getD t undef)
 | .cell a t=>do loadVar t (<-asAddr (tmps.getD a undef))
theorem ZrZ {I:Imm} {β:Bmap} {tm:Tms} {σ:Za} {w:World} {tmps:Array Value} (T:TR I β tm tmps) (R:Rel base w0 I0 I β σ w):∀ {rs:List ResultVar} {asl:List Zek} {xs:List AVal},ZdA P rs=some asl->resAll tm σ asl=some xs ->
  ∃ vs:List Value,(rs.mapM (Zgp tmps)).run P w=.ok vs w/\VRs I β xs vs
 | [],asl,xs,hc,h=>by
  simp only [ZdA,Xa] at hc;subst hc
  simp only [resAll,Xa] at h;subst h
  exact ⟨[],by simp,by simp only [VRs]⟩
 | r::rs,asl,xs,hc,h=>by
  have getD_eq:∀ t,VR I β (tget tm t) (tmps.getD t undef):=T
  cases r with
  | tmp t =>
   simp only [ZdA,Xr] at hc
   obtain ⟨as',has,rfl⟩:=hc
   simp only [resAll,resOne] at h
   split at h
   ·rename_i ys hys
    injection h with h;subst h
    obtain ⟨vs,h1,h2⟩:=ZrZ T R has hys
    exact ⟨tmps.getD t undef::vs,by simp only [XaN,Zgp,Sem.run_bind,Sem.run_pure,Result.andThen_ok,h1],by simp only [VRs];exact ⟨_,_,rfl,getD_eq t,h2⟩⟩
   ·cases h
  | cell a t =>
   simp only [ZdA] at hc
   split at hc
   ·rename_i k as' hk has
    injection hc with hc;subst hc
    simp only [resAll,resOne] at h
    split at h
    ·rename_i v hv
     split at h
     ·rename_i ys hys
      injection h with h;subst h
      obtain ⟨vs,h1,h2⟩:=ZrZ T R has hys
      split at hv
      ·rename_i v' σ1 c1 hld
       injection hv with hv;subst hv
       obtain ⟨u,hu1,hu2,_⟩:=ZvB hk R (getD_eq a) hld
       obtain ⟨ad,had⟩:=Zxx (getD_eq a) hld
       have hlv:(loadVar t ad).run P w=.ok u w:=by
        rw [had] at hu1
        simpa [Instr.loadAt,Instr.sureAddr] using hu1
       refine ⟨u::vs,?_,by simp only [VRs];exact ⟨_,_,rfl,hu2,h2⟩⟩
       simp only [XaN,Zgp,had,asAddr,Sem.run_bind,Sem.run_pure,Result.andThen_ok,hlv,h1]
      ·cases hv
     ·cases h
    ·cases h
   ·cases hc
theorem ZAn {I:Imm} {β:Bmap} {tm:Tms} {σ:Za} {w:World} {tmps:Array Value} (T:TR I β tm tmps) (R:Rel base w0 I0 I β σ w) {fn:Func} {asl:List Zek} {x:AVal} (hc:ZdA P fn.results.toList=some asl) (h:resA tm σ asl=some x):∃ v,(results fn tmps).run P w=.ok v w/\VR I β x v:=by
 unfold resA at h
 have run:∀ {xs:List AVal},resAll tm σ asl=some xs->∃ vs:List Value,(results fn tmps).run P w=.ok (if h:vs.toArray.size=1 then vs.toArray[0] else .tuple vs.toArray) w/\VRs I β xs vs:=by
  intro xs hx
  obtain ⟨vs,h1,h2⟩:=ZrZ T R hc hx
  refine ⟨vs,?_,h2⟩
  have hm:(fn.results.mapM (Zgp tmps)).run P w=.ok vs.toArray w:=by
   rw [Array.mapM_eq_mapM_toList,Sem.run_map,h1];rfl
  have he:results fn tmps=(do let vs <-fn.results.mapM (Zgp tmps);pure (if h:vs.size=1 then vs[0] else .tuple vs)):=by
   unfold results
   congr 1
  rw [he,Sem.run_bind,hm]
  rfl
 split at h
 ·rename_i v hv
  injection h with h;subst h
  obtain ⟨vs,h1,h2⟩:=run hv
  simp only [VRs] at h2
  obtain ⟨u,us,rfl,h3,rfl⟩:=h2
  exact ⟨u,by rw [h1];simp,h3⟩
 ·rename_i vs' hv hne
  injection h with h;subst h
  obtain ⟨vs,h1,h2⟩:=run hne
  have hl:=Zas h2
  refine ⟨.tuple vs.toArray,?_,by simp only [VR];exact ⟨_,rfl,by simpa using h2⟩⟩
  rw [h1,dif_neg]
  intro hs
  simp only [List.size_toArray] at hs
  match vs',hl with
  | [v],_=>exact hv v rfl
  | [],hl=>simp at hl;omega
  | _::_::_,hl=>simp at hl;omega
 ·cases h
theorem ZtR:∀ (args:List AVal) (i:Nat) (acc:Tms) (n:Nat),tget (enterA i args acc) n=if i<=n/\n < i+args.length then args.getD (n - i) .top else tget acc n
 | [],i,acc,n=>by simp only [enterA,Xx];rw [if_neg (by omega)]
 | x::xs,i,acc,n=>by
  simp only [enterA,List.length_cons]
  rw [ZtR xs (i+1) _ n]
  by_cases h:i+1<=n/\n < i+1+xs.length
  ·rw [if_pos h,if_pos (by omega),show n - i=(n - (i+1))+1 by omega,List.getD_cons_succ]
  ·rw [if_neg h]
   simp only [tget]
   by_cases h1:i=n
   ·subst h1
    rw [if_pos rfl,if_pos (by omega),Nat.sub_self,Xi]
   ·rw [if_neg h1,if_neg (by omega)]
theorem Zup {I:Imm} {β:Bmap} {args:List AVal} {vs:Array Value} (h:VRs I β args vs.toList) (n:Nat):TR I β (enterA 0 args []) (vs++Xan n undef):=by
 intro j
 rw [ZtR]
 have hl:=Zas h
 simp only [XN] at hl
 split
 ·rename_i hj
  have hjl:j < args.length:=by omega
  obtain ⟨v,h1,h2⟩:=ZbF h (XA hjl)
  have e1:args.getD (j - 0) .top=args[j]:=by simp [Xq,hjl]
  have e2:(vs++Xan n undef).getD j undef=v:=by
   rw [Ww,Array.getElem?_append_left (by omega)]
   have : vs[j]?=some v:=by simpa using h1
   rw [this];rfl
  rw [e1,e2];exact h2
 ·simp only [tget,VR]
def ZlU (P:Program) (prim:Zcn):Prop:=∀ f g,prim f=some g->∀ args σ r σ',g args σ=some (r,σ') ->
 (∃ fn,P.funcs[f]?=some fn/\fn.body.isSome=true/\(fn.name == "runtime.NumGoroutine")=false) /\
 ∀ base w0 I0 I β w (vs:Array Value),KLt base w0->Rel base w0 I0 I β σ w->VRs I β args vs.toList ->
  Calls P f vs w (fun e w'=>∃ u,Ends r e u/\ZbW σ.length base w0 I0 I β r σ' u w')
theorem Zvw (hm:P.follows .mixedOrders=true) {prim:Zcn} (hP:ZlU P prim) (ann:Nat->Ann) (bf:Nat->Bool):∀ n,Zao P (ZaC (Zgv P ann) prim bf n)
 | 0=>by intro f args σ r σ' h;simp only [ZaC] at h;cases h
 | n+1=>by
  have ih:=Zvw hm hP ann bf n
  intro f args σ r σ' h
  simp only [ZaC] at h
  split at h
  ·rename_i g hg
   exact hP f g hg args σ r σ' h
  split at h
  ·cases h
  rename_i fn hfn
  unfold Zgv at hfn
  split at hfn
  ·rename_i F hF
   split at hfn
   ·rename_i body hbody
    split at hfn
    ·cases hfn
    ·rename_i hname
     split at hfn
     ·rename_i rs hrs
      injection hfn with hfn;subst hfn
      refine ⟨⟨F,hF,by rw [hbody];rfl,by simpa using hname⟩,?_⟩
      intro base w0 I0 I β w vs hb R hargs
      refine calls_of_wp hF hbody ?_
      have T:=Zup hargs (F.ntmps - vs.size)
      have hst:StF ZbN σ.length F.ntmps base w0 I0 I β (enterA 0 args []) σ { tmps:=vs++Xan (F.ntmps - vs.size) undef,defers:=[] } w:=⟨I,β,Imm.le.refl I,KeptE.refl _ β,T,⟨ZfX.2 rfl,by simp;omega⟩,R⟩
      cases hx:Z2 (ZaC (Zgv P ann) prim bf n) bf σ.length n (ZaG P { ann f with nt:=F.ntmps } body) (enterA 0 args []) σ with
      | none=>rw [hx] at h;simp only [ZaV] at h;cases h
      | some q =>
       obtain ⟨e,tm',σ1⟩:=q
       rw [hx] at h
       have fin:(match resA tm' σ1 rs with | some r=>ZaP σ.length σ1 r | none=>none)=some (r,σ')->∀ a' w',StF ZbN σ.length F.ntmps base w0 I0 I β tm' σ1 a' w'->a'.defers=[]/\∃ v,(results F a'.tmps).run P w'=.ok v w'/\∃ u,Ends r (.returned v) u/\ZbW σ.length base w0 I0 I β r σ' u w':=by
        intro hr a' w' ⟨I1,β1,g1,g2,g3,g4,g5⟩
        split at hr
        ·rename_i x hx1
         obtain ⟨v,h1,h2⟩:=ZAn g3 g5 hrs hx1
         have hnp:∀ y,x≠.pan y:=by rintro y rfl;simp only [VR] at h2
         obtain ⟨q1,q2⟩:=Zot (⟨I1,β1,g1,g2,g5,by rw [ZeO hnp];exact h2⟩:ZbW σ.length base w0 I0 I β x σ1 v w') hr
         refine ⟨ZfX.1 g4.1,v,h1,v,q2 _ ?_,q1⟩
         cases x <;> first | rfl | exact absurd rfl (hnp _)
        ·cases hr
       refine Zxc (dr:=ZbN) (an:={ ann f with nt:=F.ntmps }) ih (fun n hn=>by simp [ZbN] at hn) hm hb σ.length n rfl hst hx ?_
       cases e with
       | normal=>simp only [ZaV] at h;exact fun a' w' hs=>fin h a' w' hs
       | ret=>simp only [ZaV] at h;exact fun a' w' hs=>fin h a' w' hs
       | exit id=>simp only [ZaV] at h;cases h
       | panic x =>
        simp only [ZaV] at h
        intro a' u w' hd hp
        obtain ⟨q1,q2⟩:=Zot hp h
        exact ⟨ZfX.1 hd,u,q2 _ rfl,q1⟩
     ·cases hfn
   ·cases hfn
  ·cases hfn
end
end
section
open Go.RowKit
def OLe (O O':ZW):Prop:=∀ f a σ r,O f a σ=some r->O' f a σ=some r
section
variable {O O':ZW} {bf:Nat->Bool}
theorem ZBM {view:Bool} {m:Nat} {x y:Option (AVal×Za)} (h:∀ r,x=some r->y=some r) {r:AVal×Za} (hr:Zai view m x=some r):Zai view m y=some r:=by
 cases x with
 | none=>cases view <;> simp [Zai,Zbd] at hr
 | some q=>rw [h q rfl];exact hr
theorem Zz0 {σ σf:Za} {ids ts:List Nat} {sq own:Nat} {x y:Option (AVal×Za)} (h:∀ r,x=some r->y=some r) {r:AVal×Za×Cls} (hr:Zak σ σf ids ts sq own x=some r):Zak σ σf ids ts sq own y=some r:=by
 cases x with
 | none=>simp only [Zak] at hr;cases hr
 | some q=>rw [h q rfl];exact hr
theorem Zvj (hO:OLe O O') {σ:Za} {sq f own:Nat} {view:Bool} {args:List AVal} {r:AVal×Za×Cls} (h:ZS O bf σ sq f own view args=some r):ZS O' bf σ sq f own view args=some r:=by
 unfold ZS Zbr at h ⊢
 split at h
 ·cases h
 ·rename_i vs ts hv
  split at h
  ·rename_i hc
   simp only [hc,if_true]
   exact Zz0 (fun q hq=>ZBM (fun q hq=>hO _ _ _ _ hq) hq) h
  ·cases h
theorem ZAQ (hO:OLe O O') {tm:Tms} {σ:Za} {sq:Nat} {ins:Ins} {r:AVal×Za×Cls} (h:execI O bf tm σ sq ins=some r):execI O' bf tm σ sq ins=some r:=by
 cases ins
 case call f own view args =>
  simp only [execI] at h ⊢
  exact Zvj hO h
 case callv x args =>
  simp only [execI] at h ⊢
  split at h
  ·exact Zvj hO h
  ·cases h
 all_goals exact h
theorem ZoA (hO:OLe O O') {o:AOp} {tm:Tms} {σ:Za} {sq:Nat} {r:AVal×Tms×Za×Cls} (h:ZR O bf o sq tm σ=some r):ZR O' bf o sq tm σ=some r:=by
 unfold ZR at h ⊢
 split at h
 ·cases h
 ·exact h
 ·split at h
  ·rename_i hf
   rw [if_pos hf]
   split at h
   ·rename_i he;rw [ZAQ hO he];exact h
   ·cases h
  ·cases h
theorem ZlK (hO:OLe O O'):∀ {ops:List AOp} {s:Nat} {tm:Tms} {σ:Za} {r:Tms×Za×List Cls×Option AVal},ZY O bf ops s tm σ=some r->ZY O' bf ops s tm σ=some r
 | [],_,_,_,_,h=>h
 | o::ops,s,tm,σ,r,h=>by
  simp only [ZY] at h ⊢
  split at h
  ·cases h
  ·rename_i h1
   rw [ZoA hO h1]
   exact h
  ·rename_i v tm1 σ1 c hnp h1
   rw [ZoA hO h1]
   simp only
   split at h
   ·cases h
   rename_i h2
   rw [ZlK hO h2]
   exact h
theorem Zud (hO:OLe O O') {ops:List AOp} {chk:Option (List (Nat×Nat))} {live:List Nat} {tm:Tms} {σ:Za} {r:Zax×Tms×Za} (h:Zbl O bf ops chk live tm σ=some r):Zbl O' bf ops chk live tm σ=some r:=by
 unfold Zbl at h ⊢
 cases hx:ZY O bf ops σ.length tm (σ++XI (sitesOf ops) .free) with
 | none=>rw [hx] at h;simp only [ZbV] at h;cases h
 | some q=>rw [ZlK hO hx];rw [hx] at h;exact h
theorem Zhx {m0:Nat} {live:List Nat} {f f':Tms->Za->Option (Zax×Tms×Za)} (hf:∀ tm σ r,f tm σ=some r->f' tm σ=some r):∀ {n n':Nat} {tm:Tms} {σ:Za} {r:Zax×Tms×Za},n<=n'->Zb8 m0 live f n tm σ=some r->Zb8 m0 live f' n' tm σ=some r
 | 0,_,_,_,_,_,h=>by simp only [Zb8] at h;cases h
 | n+1,0,_,_,_,hn,_=>by omega
 | n+1,n'+1,tm,σ,r,hn,h=>by
  simp only [Zb8] at h ⊢
  split at h
  ·rename_i h1
   rw [hf _ _ _ h1]
   exact Zhx hf (by omega) h
  ·rename_i hne
   rw [hf _ _ _ h]
   split
   ·rename_i e;injection e with e;subst e;exact absurd h (hne _ _)
   ·rfl
theorem Zcx (hO:OLe O O') {m0:Nat}:∀ {c:Ze} {n n':Nat} {tm:Tms} {σ:Za} {r:Zax×Tms×Za},n<=n'->Z2 O bf m0 n c tm σ=some r->Z2 O' bf m0 n' c tm σ=some r:=by
 intro c
 induction c with
 | skip=>intro n n' tm σ r _ h;exact h
 | exit id=>intro n n' tm σ r _ h;exact h
 | ret=>intro n n' tm σ r _ h;exact h
 | stuck=>intro n n' tm σ r _ h;exact h
 | region ops chk live =>
  intro n n' tm σ r _ h
  simp only [Z2] at h ⊢
  exact Zud hO h
 | seq a b iha ihb =>
  intro n n' tm σ r hn h
  simp only [Z2] at h ⊢
  split at h
  ·rename_i h1;rw [iha hn h1];exact ihb hn h
  ·rename_i hne
   rw [iha hn h]
   split
   ·rename_i e;injection e with e;subst e;exact absurd h (hne _ _)
   ·rfl
 | cond c a b iha ihb =>
  intro n n' tm σ r hn h
  simp only [Z2] at h ⊢
  split at h
  ·exact iha hn h
  ·exact ihb hn h
  ·cases h
 | block id c ih =>
  intro n n' tm σ r hn h
  simp only [Z2] at h ⊢
  split at h
  ·rename_i h1;rw [ih hn h1];exact h
  ·rename_i hne
   rw [ih hn h]
   split
   ·rename_i e;injection e with e;subst e;exact absurd h (hne _ _ _)
   ·rfl
 | loop live c ih =>
  intro n n' tm σ r hn h
  simp only [Z2] at h ⊢
  exact Zhx (fun tm σ r h=>ih hn h) hn h
theorem ZoB {m0:Nat} {fn:Zae} {x y:Option (Zax×Tms×Za)} (h:∀ r,x=some r->y=some r) {r:AVal×Za} (hr:ZaV m0 fn x=some r):ZaV m0 fn y=some r:=by
 cases x with
 | none=>simp only [ZaV] at hr;cases hr
 | some q=>rw [h q rfl];exact hr
theorem Zvd (fs:Nat->Option Zae) (prim:Zcn):∀ n,OLe (ZaC fs prim bf n) (ZaC fs prim bf (n+1))
 | 0=>by intro f a σ r h;simp only [ZaC] at h;cases h
 | n+1=>by
  intro f a σ r h
  rw [ZaC] at h ⊢
  split at h
  ·rename_i g hg;exact h
  ·rename_i hg
   split at h
   ·cases h
   ·rename_i fn hfn
    exact ZoB (fun q hq=>Zcx (Zvd fs prim n) (by omega) hq) h
theorem Zf9 (fs : Nat -> Option Zae) (prim : Zcn) {n m : Nat} (h : n <= m) : OLe (ZaC fs prim bf n) (ZaC fs prim bf m) := by
  induction m with
  | zero => obtain rfl : n = 0 := by omega
            exact fun _ _ _ _ h => h
  | succ m ih =>
    by_cases e : n = m + 1
    . subst e; exact fun _ _ _ _ h => h
    . exact fun f a σ r hr => Zvd fs prim m f a σ r (ih (by omega) f a σ r hr)
end
section
variable (fs:Nat->Option Zae) (prim:Zcn) (bf:Nat->Bool)
open Classical in
noncomputable def EV:ZW:=fun f args σ=>if h:∃ r,∃ n,ZaC fs prim bf n f args σ=some r then some h.choose else none
open Classical in
noncomputable def evC (m:Nat) (c:Ze) (tm:Tms) (σ:Za):Option (Zax×Tms×Za):=if h:∃ r,∃ n,Z2 (ZaC fs prim bf n) bf m n c tm σ=some r then some h.choose else none
variable {fs prim bf} {m0:Nat}
theorem Zcy {f:Nat} {args:List AVal} {σ:Za} {r:AVal×Za}:EV fs prim bf f args σ=some r↔∃ n,ZaC fs prim bf n f args σ=some r:=by
 unfold EV
 constructor
 ·intro h
  split at h
  ·rename_i hx
   injection h with h
   rw [<-h]
   exact hx.choose_spec
  ·cases h
 ·rintro ⟨n,hn⟩
  have hx:∃ r,∃ n,ZaC fs prim bf n f args σ=some r:=⟨r,n,hn⟩
  rw [dif_pos hx]
  obtain ⟨m,hm⟩:=hx.choose_spec
  have h1:=Zf9 (bf:=bf) fs prim (WP n m) _ _ _ _ hn
  have h2:=Zf9 (bf:=bf) fs prim (WL n m) _ _ _ _ hm
  rw [h1] at h2
  injection h2 with h2
  rw [<-h2]
theorem Za7 {c:Ze} {tm:Tms} {σ:Za} {r:Zax×Tms×Za}:evC fs prim bf m0 c tm σ=some r↔∃ n,Z2 (ZaC fs prim bf n) bf m0 n c tm σ=some r:=by
 unfold evC
 constructor
 ·intro h
  split at h
  ·rename_i hx
   injection h with h
   rw [<-h]
   exact hx.choose_spec
  ·cases h
 ·rintro ⟨n,hn⟩
  have hx:∃ r,∃ n,Z2 (ZaC fs prim bf n) bf m0 n c tm σ=some r:=⟨r,n,hn⟩
  rw [dif_pos hx]
  obtain ⟨m,hm⟩:=hx.choose_spec
  have h1:=Zcx (Zf9 (bf:=bf) fs prim (WP n m)) (WP n m) hn
  have h2:=Zcx (Zf9 (bf:=bf) fs prim (WL n m)) (WL n m) hm
  rw [h1] at h2
  injection h2 with h2
  rw [<-h2]
theorem ZdB {α:Type} {x y:Option α} (h:∀ r,x=some r↔y=some r):x=y:=by
 cases x with
 | none =>
  cases y with
  | none=>rfl
  | some q=>exact absurd ((h q).2 rfl) (by simp)
 | some q=>exact ((h q).1 rfl).symm
theorem ZzE (n:Nat):OLe (ZaC fs prim bf n) (EV fs prim bf):=fun _ _ _ _ h=>Zcy.2 ⟨n,h⟩
theorem up {n m:Nat} (h:n<=m):OLe (ZaC fs prim bf n) (ZaC fs prim bf m):=Zf9 fs prim h
theorem ZCz {f:Nat} {fn:Zae} (hp:prim f=none) (hf:fs f=some fn) (args:List AVal) (σ:Za):EV fs prim bf f args σ=ZaV σ.length fn (evC fs prim bf σ.length fn.body (enterA 0 args []) σ):=by
 apply ZdB
 intro r
 rw [Zcy]
 constructor
 ·rintro ⟨n,h⟩
  cases n with
  | zero=>simp only [ZaC] at h;cases h
  | succ n =>
   rw [ZaC,hp,hf] at h
   exact ZoB (fun q hq=>Za7.2 ⟨n,hq⟩) h
 ·intro h
  cases hx:evC fs prim bf σ.length fn.body (enterA 0 args []) σ with
  | none=>rw [hx] at h;simp only [ZaV] at h;cases h
  | some q =>
   obtain ⟨n,hn⟩:=Za7.1 hx
   refine ⟨n+1,?_⟩
   rw [ZaC,hp,hf]
   rw [hx] at h
   exact ZoB (x:=some q) (fun q' hq'=>by injection hq' with hq';subst hq';exact hn) h
theorem Zui {σ:Za} {sq f own:Nat} {view:Bool} {args:List AVal} {r:AVal×Za×Cls} (h:ZS (EV fs prim bf) bf σ sq f own view args=some r):∃ n,ZS (ZaC fs prim bf n) bf σ sq f own view args=some r:=by
 unfold ZS Zbr at h ⊢
 split at h
 ·cases h
 ·rename_i vs ts hv
  split at h
  ·rename_i hc
   simp only [hc,if_true]
   cases hx:EV fs prim bf f (ZU (Zf (ZB σ ts) 0 (Zg (ZB σ ts) 1000 (ZX vs) [])) vs) (Zh (ZB σ ts) 0 (Zg (ZB σ ts) 1000 (ZX vs) []) (Zf (ZB σ ts) 0 (Zg (ZB σ ts) 1000 (ZX vs) [])) (Zg (ZB σ ts) 1000 (ZX vs) []) 0) with
   | none =>
    rw [hx] at h
    cases view <;> simp [Zai,Zbd,Zak] at h
   | some q =>
    obtain ⟨n,hn⟩:=Zcy.1 hx
    exact ⟨n,by rw [hn];rw [hx] at h;exact h⟩
  ·cases h
theorem Zz9 {tm:Tms} {σ:Za} {sq:Nat} {ins:Ins} {r:AVal×Za×Cls} (h:execI (EV fs prim bf) bf tm σ sq ins=some r):∃ n,execI (ZaC fs prim bf n) bf tm σ sq ins=some r:=by
 cases ins
 case call f own view args =>
  simp only [execI] at h ⊢
  exact Zui h
 case callv x args =>
  simp only [execI] at h ⊢
  split at h
  ·exact Zui h
  ·cases h
 all_goals exact ⟨0,h⟩
theorem ZvA {o:AOp} {tm:Tms} {σ:Za} {sq:Nat} {r:AVal×Tms×Za×Cls} (h:ZR (EV fs prim bf) bf o sq tm σ=some r):∃ n,ZR (ZaC fs prim bf n) bf o sq tm σ=some r:=by
 unfold ZR at h ⊢
 split at h
 ·cases h
 ·exact ⟨0,h⟩
 ·split at h
  ·rename_i hf
   simp only [hf,if_true]
   split at h
   ·rename_i he
    obtain ⟨n,hn⟩:=Zz9 he
    exact ⟨n,by rw [hn];exact h⟩
   ·cases h
  ·cases h
theorem Zut:∀ {ops:List AOp} {s:Nat} {tm:Tms} {σ:Za} {r:Tms×Za×List Cls×Option AVal},ZY (EV fs prim bf) bf ops s tm σ=some r->∃ n,ZY (ZaC fs prim bf n) bf ops s tm σ=some r
 | [],_,_,_,_,h=>⟨0,h⟩
 | o::ops,s,tm,σ,r,h=>by
  simp only [ZY] at h ⊢
  split at h
  ·cases h
  ·rename_i h1
   obtain ⟨n,hn⟩:=ZvA h1
   exact ⟨n,by rw [hn];exact h⟩
  rename_i v tm1 σ1 c hnp h1
  split at h
  ·cases h
  rename_i h2
  obtain ⟨n,hn⟩:=ZvA h1
  obtain ⟨m,hm⟩:=Zut h2
  refine ⟨max n m,?_⟩
  rw [ZoA (up (WP n m)) hn]
  simp only
  rw [ZlK (up (WL n m)) hm]
  exact h
theorem Zzd {ops:List AOp} {chk:Option (List (Nat×Nat))} {live:List Nat} {tm:Tms} {σ:Za} {r:Zax×Tms×Za} (h:Zbl (EV fs prim bf) bf ops chk live tm σ=some r):∃ n,Zbl (ZaC fs prim bf n) bf ops chk live tm σ=some r:=by
 unfold Zbl at h ⊢
 cases hx:ZY (EV fs prim bf) bf ops σ.length tm (σ++XI (sitesOf ops) .free) with
 | none=>rw [hx] at h;simp only [ZbV] at h;cases h
 | some q =>
  obtain ⟨n,hn⟩:=Zut hx
  exact ⟨n,by rw [hn];rw [hx] at h;exact h⟩
theorem Zi9 (tm:Tms) (σ:Za):evC fs prim bf m0 .skip tm σ=some (.normal,tm,σ):=Za7.2 ⟨0,rfl⟩
theorem Ztf (id:Nat) (tm:Tms) (σ:Za):evC fs prim bf m0 (.exit id) tm σ=some (.exit id,tm,σ):=Za7.2 ⟨0,rfl⟩
theorem Zs2 (tm:Tms) (σ:Za):evC fs prim bf m0 .ret tm σ=some (.ret,tm,σ):=Za7.2 ⟨0,rfl⟩
theorem Zrx {ops:List AOp} {chk:Option (List (Nat×Nat))} {live:List Nat} {tm:Tms} {σ:Za}:evC fs prim bf m0 (.region ops chk live) tm σ=Zbl (EV fs prim bf) bf ops chk live tm σ:=by
 apply ZdB
 intro r
 rw [Za7]
 constructor
 ·rintro ⟨n,hn⟩
  simp only [Z2] at hn
  exact Zud (ZzE n) hn
 ·intro h
  obtain ⟨n,hn⟩:=Zzd h
  exact ⟨n,by simp only [Z2];exact hn⟩
theorem Zy6 {a b:Ze} {tm tm':Tms} {σ σ':Za} (h:evC fs prim bf m0 a tm σ=some (.normal,tm',σ')):evC fs prim bf m0 (.seq a b) tm σ=evC fs prim bf m0 b tm' σ':=by
 obtain ⟨n,hn⟩:=Za7.1 h
 apply ZdB
 intro r
 rw [Za7,Za7]
 constructor
 ·rintro ⟨m,hm⟩
  have h1:=Zcx (up (WP n m)) (WP n m) hn
  have h2:=Zcx (up (WL n m)) (WL n m) hm
  simp only [Z2,h1] at h2
  exact ⟨_,h2⟩
 ·rintro ⟨m,hm⟩
  have h1:=Zcx (up (WP n m)) (WP n m) hn
  have h2:=Zcx (up (WL n m)) (WL n m) hm
  exact ⟨max n m,by simp only [Z2,h1];exact h2⟩
theorem ZjQ {a b:Ze} {tm tm':Tms} {σ σ':Za} {e:Zax} (he:e≠.normal) (h:evC fs prim bf m0 a tm σ=some (e,tm',σ')):evC fs prim bf m0 (.seq a b) tm σ=some (e,tm',σ'):=by
 obtain ⟨n,hn⟩:=Za7.1 h
 refine Za7.2 ⟨n,?_⟩
 simp only [Z2,hn]
 cases e with
 | normal=>exact absurd rfl he
 | exit id=>rfl
 | ret=>rfl
 | panic x=>rfl
def Za2 (id:Nat):Zax×Tms×Za->Zax×Tms×Za
 | (.exit i,tm,σ)=>if i=id then (.normal,tm,σ) else (.exit i,tm,σ)
 | r=>r
theorem Zng {id:Nat} {c:Ze} {tm:Tms} {σ:Za}:evC fs prim bf m0 (.block id c) tm σ=(evC fs prim bf m0 c tm σ).map (Za2 id):=by
 have step:∀ n,Z2 (ZaC fs prim bf n) bf m0 n (.block id c) tm σ=(Z2 (ZaC fs prim bf n) bf m0 n c tm σ).map (Za2 id):=by
  intro n
  simp only [Z2]
  cases Z2 (ZaC fs prim bf n) bf m0 n c tm σ with
  | none=>rfl
  | some q =>
   obtain ⟨e,tm1,σ1⟩:=q
   cases e with
   | normal=>rfl
   | ret=>rfl
   | panic x=>rfl
   | exit i=>simp only [XW,Za2];split <;> rfl
 apply ZdB;intro r
 rw [Za7]
 simp only [step,Xr]
 constructor
 ·rintro ⟨n,q,h1,h2⟩;exact ⟨q,Za7.2 ⟨n,h1⟩,h2⟩
 ·rintro ⟨q,h1,h2⟩;obtain ⟨n,hn⟩:=Za7.1 h1;exact ⟨n,q,hn,h2⟩
theorem ZBg {c:Ze} {tm:Tms} {σ:Za} (h:evC fs prim bf m0 c tm σ=none) (n:Nat):Z2 (ZaC fs prim bf n) bf m0 n c tm σ=none:=by
 cases hx:Z2 (ZaC fs prim bf n) bf m0 n c tm σ with
 | none=>rfl
 | some r=>rw [Za7.2 ⟨n,hx⟩] at h;cases h
variable (fs prim bf m0) in
noncomputable def Zbk (b:Ze):Option (Zax×Tms×Za)->Option (Zax×Tms×Za)
 | some (.normal,tm,σ)=>evC fs prim bf m0 b tm σ
 | r=>r
theorem Zsn {a b:Ze} {tm:Tms} {σ:Za}:evC fs prim bf m0 (.seq a b) tm σ=Zbk fs prim bf m0 b (evC fs prim bf m0 a tm σ):=by
 cases h:evC fs prim bf m0 a tm σ with
 | none =>
  simp only [Zbk]
  apply ZdB;intro r
  rw [Za7]
  constructor
  ·rintro ⟨n,hn⟩
   simp only [Z2,ZBg h n] at hn
   cases hn
  ·intro h;cases h
 | some q =>
  obtain ⟨e,tm',σ'⟩:=q
  cases e with
  | normal=>exact Zy6 h
  | exit id=>exact ZjQ (by simp) h
  | ret=>exact ZjQ (by simp) h
  | panic x=>exact ZjQ (by simp) h
variable (fs prim bf m0) in
noncomputable def ZgD (a b:Ze) (tm:Tms) (σ:Za):AVal->Option (Zax×Tms×Za)
 | .bool true=>evC fs prim bf m0 a tm σ
 | .bool false=>evC fs prim bf m0 b tm σ
 | _=>none
theorem ZsK {c:Opd} {a b:Ze} {tm:Tms} {σ:Za}:evC fs prim bf m0 (.cond c a b) tm σ=ZgD fs prim bf m0 a b tm σ (c.ev tm):=by
 apply ZdB;intro r
 rw [Za7]
 simp only [Z2]
 constructor
 ·rintro ⟨n,hn⟩
  split at hn
  ·rename_i e;rw [e];simp only [ZgD];exact Za7.2 ⟨n,hn⟩
  ·rename_i e;rw [e];simp only [ZgD];exact Za7.2 ⟨n,hn⟩
  ·cases hn
 ·intro h
  unfold ZgD at h
  split at h
  ·rename_i e;obtain ⟨n,hn⟩:=Za7.1 h;exact ⟨n,by rw [e];exact hn⟩
  ·rename_i e;obtain ⟨n,hn⟩:=Za7.1 h;exact ⟨n,by rw [e];exact hn⟩
  ·cases h
variable (fs prim bf m0) in
noncomputable def evL (live:List Nat) (c:Ze) (tm:Tms) (σ:Za):Option (Zax×Tms×Za) :=
 match evC fs prim bf m0 c tm σ with
 | some (.normal,tm',σ')=>evC fs prim bf m0 (.loop live c) tm' σ'
 | r=>r
theorem ZuE {live:List Nat} {c:Ze} {tm:Tms} {σ:Za}:evC fs prim bf m0 (.loop live c) tm σ=evL fs prim bf m0 live c (gcT m0 (keepL live tm) σ).1 (gcT m0 (keepL live tm) σ).2:=by
 apply ZdB;intro r
 rw [Za7]
 constructor
 ·rintro ⟨n,hn⟩
  simp only [Z2] at hn
  cases n with
  | zero=>simp only [Zb8] at hn;cases hn
  | succ k =>
   simp only [Zb8] at hn
   unfold evL
   cases hx:Z2 (ZaC fs prim bf (k+1)) bf m0 (k+1) c (gcT m0 (keepL live tm) σ).1 (gcT m0 (keepL live tm) σ).2 with
   | none=>rw [hx] at hn;cases hn
   | some q =>
    rw [Za7.2 ⟨_,hx⟩]
    rw [hx] at hn
    obtain ⟨e,tm',σ'⟩:=q
    cases e with
    | normal =>
     simp only at hn ⊢
     exact Za7.2 ⟨k+1,by simp only [Z2];exact Zhx (fun _ _ _ h=>h) (by omega) hn⟩
    | exit id=>exact hn
    | ret=>exact hn
    | panic x=>exact hn
 ·intro h
  unfold evL at h
  cases hx:evC fs prim bf m0 c (gcT m0 (keepL live tm) σ).1 (gcT m0 (keepL live tm) σ).2 with
  | none=>rw [hx] at h;cases h
  | some q =>
   rw [hx] at h
   obtain ⟨n,hn⟩:=Za7.1 hx
   obtain ⟨e,tm',σ'⟩:=q
   have out:e≠.normal->some (e,tm',σ')=some r->∃ n,Z2 (ZaC fs prim bf n) bf m0 n (.loop live c) tm σ=some r:=by
    intro he h
    refine ⟨n+1,?_⟩
    have h1:=Zcx (up (show n<=n+1 by omega)) (show n<=n+1 by omega) hn
    simp only [Z2,Zb8,h1]
    cases e with
    | normal=>exact absurd rfl he
    | exit id=>exact h
    | ret=>exact h
    | panic x=>exact h
   cases e with
   | normal =>
    simp only at h
    obtain ⟨m,hm⟩:=Za7.1 h
    have h1:=Zcx (up (show n<=max n m+1 by omega)) (show n<=max n m+1 by omega) hn
    have h2:=Zcx (up (show m<=max n m+1 by omega)) (X5 m) hm
    simp only [Z2] at h2
    refine ⟨max n m+1,?_⟩
    simp only [Z2,Zb8,h1]
    exact Zhx (fun tm σ r h=>Zcx (fun _ _ _ _ h=>h) (by omega) h) (by omega) h2
   | exit id=>exact out (by simp) h
   | ret=>exact out (by simp) h
   | panic x=>exact out (by simp) h
theorem ZzX {P:Program} (hm:P.follows .mixedOrders=true) {prim:Zcn} (hP:ZlU P prim) (ann:Nat->Ann) (bf:Nat->Bool):Zao P (EV (Zgv P ann) prim bf):=by
 intro f args σ r σ' h
 obtain ⟨n,hn⟩:=Zcy.1 h
 exact Zvw hm hP ann bf n f args σ r σ' hn
end
end
section
open Go.RowKit
def ZtD:Tms×Za×List Cls×Option AVal->Tms×Za×Option AVal:=fun q=>(q.1,q.2.1,q.2.2.2)
def Zau:AVal->Bool
 | .pan _=>true
 | _=>false
section
variable (O:ZW) (bf:Nat->Bool)
def exI (i:Ins) (s:Nat) (tm:Tms) (σ:Za):Option (AVal×Za×Cls) :=
 if nsite i == 0 || freeAt σ s then execI O bf tm σ s i else none
def ZaS (ops:List AOp) (s:Nat) (tm:Tms) (σ:Za):Option (Tms×Za×Option AVal):=(ZY O bf ops s tm σ).map ZtD
def kN (d:Option Nat) (os:List AOp) (s:Nat) (tm:Tms):Option (AVal×Za×Cls)->Option (Tms×Za×Option AVal)
 | none=>none
 | some (v,σ,_)=>if Zau v then some (tput tm d v,σ,some (ZaA v)) else ZaS O bf os s (tput tm d v) σ
def ZhZ (live:List Nat):Option (Tms×Za×Option AVal)->Option (Zax×Tms×Za)
 | none=>none
 | some (_,σ,some x)=>some (.panic x,[],σ)
 | some (tm,σ,none)=>some (.normal,keepL live tm,σ)
variable {O bf}
theorem Zhe (s:Nat) (tm:Tms) (σ:Za):ZaS O bf [] s tm σ=some (tm,σ,none):=rfl
theorem Zgi {o:AOp} {os:List AOp} {s:Nat} {tm:Tms} {σ:Za} (h:ZR O bf o s tm σ=none):ZY O bf (o::os) s tm σ=none:=by simp only [ZY,h]
theorem ZhO {o:AOp} {os:List AOp} {s:Nat} {tm tm1:Tms} {σ σ1:Za} {x:AVal} {c:Cls} (h:ZR O bf o s tm σ=some (.pan x,tm1,σ1,c)):ZY O bf (o::os) s tm σ=some (tm1,σ1,[c],some x):=by simp only [ZY,h]
theorem ZvQ {o:AOp} {os:List AOp} {s:Nat} {tm tm1:Tms} {σ σ1:Za} {v:AVal} {c:Cls} (h:ZR O bf o s tm σ=some (v,tm1,σ1,c)) (hn:Zau v=false):ZY O bf (o::os) s tm σ=(ZY O bf os (s+nsite o.ins) tm1 σ1).map fun q=>(q.1,q.2.1,c::q.2.2.1,q.2.2.2):=by
 simp only [ZY,h]
 cases v <;> first
  | (simp [Zau] at hn;done)
  | (simp only;cases ZY O bf os (s+nsite o.ins) tm1 σ1 <;> rfl)
theorem Zhj {o:AOp} {os:List AOp} {s:Nat} {tm:Tms} {σ:Za} (h:ZR O bf o s tm σ=none):ZaS O bf (o::os) s tm σ=none:=by simp only [ZaS,Zgi h,Option.map_none]
theorem ZoK {o:AOp} {os:List AOp} {s:Nat} {tm tm1:Tms} {σ σ1:Za} {x:AVal} {c:Cls} (h:ZR O bf o s tm σ=some (.pan x,tm1,σ1,c)):ZaS O bf (o::os) s tm σ=some (tm1,σ1,some x):=by simp only [ZaS,ZhO h,XW,ZtD]
theorem ZiK {o:AOp} {os:List AOp} {s:Nat} {tm tm1:Tms} {σ σ1:Za} {v:AVal} {c:Cls} (h:ZR O bf o s tm σ=some (v,tm1,σ1,c)) (hn:Zau v=false):ZaS O bf (o::os) s tm σ=ZaS O bf os (s+nsite o.ins) tm1 σ1:=by
 simp only [ZaS,ZvQ h hn,Option.map_map]
 rfl
theorem Zhb {v:AVal} (h:Zau v=true):∃ x,v=.pan x:=by
 cases v <;> first | exact ⟨_,rfl⟩ | (simp [Zau] at h;done)
theorem Zig {d:Option Nat} {i:Ins} {af:List Nat} {s:Nat} {tm:Tms} {σ:Za}:ZR O bf ⟨d,i,none,af⟩ s tm σ=(exI O bf i s tm σ).map fun q=>(q.1,tput tm d q.1,q.2.1,q.2.2):=by
 unfold ZR exI
 simp only [Za1]
 split
 ·cases execI O bf tm σ s i with
  | none=>rfl
  | some q=>rfl
 ·rfl
theorem ZgG (d:Option Nat) (i:Ins) (af:List Nat) (os:List AOp) (s:Nat) (tm:Tms) (σ:Za):ZaS O bf (⟨d,i,none,af⟩::os) s tm σ=kN O bf d os (s+nsite i) tm (exI O bf i s tm σ):=by
 cases h:exI O bf i s tm σ with
 | none=>exact Zhj (by rw [Zig,h];rfl)
 | some q =>
  obtain ⟨v,σ1,c⟩:=q
  have hs:ZR O bf ⟨d,i,none,af⟩ s tm σ=some (v,tput tm d v,σ1,c):=by rw [Zig,h];rfl
  cases hp:Zau v with
  | true =>
   obtain ⟨x,rfl⟩:=Zhb hp
   exact ZoK hs
  | false =>
   rw [ZiK hs hp]
   simp only [kN,hp,Xt,if_false]
theorem ZoR (ops:List AOp) (live:List Nat) (tm:Tms) (σ:Za):Zbl O bf ops none live tm σ=ZhZ live (ZaS O bf ops σ.length tm (σ++XI (sitesOf ops) .free)):=by
 unfold Zbl ZaS
 cases ZY O bf ops σ.length tm (σ++XI (sitesOf ops) .free) with
 | none=>rfl
 | some q =>
  obtain ⟨tm',σ',cs,p⟩:=q
  cases p <;> rfl
theorem ZgH (d:Option Nat) (os:List AOp) (s:Nat) (tm:Tms) (v:AVal) (σ:Za) (c:Cls) (h:Zau v=false):kN O bf d os s tm (some (v,σ,c))=ZaS O bf os s (tput tm d v) σ:=by
 simp only [kN,h,Xt,if_false]
theorem Zro (d:Option Nat) (os:List AOp) (s:Nat) (tm:Tms) (x:AVal) (σ:Za) (c:Cls):kN O bf d os s tm (some (.pan x,σ,c))=some (tput tm d (.pan x),σ,some x):=rfl
theorem Zr1 (d:Option Nat) (os:List AOp) (s:Nat) (tm:Tms):kN O bf d os s tm none=none:=rfl
structure GOp where
 guard:Option (Nat×Bool)
 ops:List AOp
def ZC:List AOp->Tms->Tms
 | [],tm=>tm
 | o::os,tm=>ZC os (tput tm o.dst (.tup []))
def unG (o:AOp):AOp:={ o with guard:=none }
variable (O bf) in
def ZcO (j:Nat) (w:Bool) (g:List AOp) (s:Nat) (tm:Tms) (σ:Za):Option (Tms×Za×Option AVal):=match Za1 (some (j,w)) tm with
 | none=>none
 | some false=>some (ZC g tm,σ,none)
 | some true=>ZaS O bf (g.map unG) s tm σ
variable (O bf) in
def gK (os:List AOp) (s:Nat):Option (Tms×Za×Option AVal)->Option (Tms×Za×Option AVal)
 | none=>none
 | some (tm,σ,some x)=>some (tm,σ,some x)
 | some (tm,σ,none)=>ZaS O bf os s tm σ
def Zt (j:Nat) (w:Bool):List AOp->List AOp×List AOp
 | []=>([],[])
 | o::os=>match o.guard with
  | some (j',w')=>if j'=j/\w'=w/\o.dst≠some j then ((o::(Zt j w os).1),(Zt j w os).2) else ([],o::os)
  | none=>([],o::os)
theorem Zq5 (j:Nat) (w:Bool):∀ os,(Zt j w os).1++(Zt j w os).2=os
 | []=>rfl
 | o::os=>by
  simp only [Zt]
  split
  ·split
   ·simp [Zq5 j w os]
   ·rfl
  ·rfl
theorem Zo1 (j:Nat) (w:Bool):∀ os,∀ o ∈ (Zt j w os).1,o.guard=some (j,w)/\o.dst≠some j
 | []=>by simp [Zt]
 | o::os=>by
  intro o' ho
  simp only [Zt] at ho
  split at ho
  ·rename_i j' w' hg
   split at ho
   ·rename_i hc
    rcases XR.1 ho with rfl | ho
    ·exact ⟨by rw [hg,hc.1,hc.2.1],hc.2.2⟩
    ·exact Zo1 j w os o' ho
   ·simp at ho
  ·simp at ho
theorem ZA9 {d:Option Nat} {v:AVal} {n:Nat} {tm:Tms} (h:d≠some n):tget (tput tm d v) n=tget tm n:=by
 cases d with
 | none=>rfl
 | some d =>
  have : d≠n:=by rintro rfl;exact h rfl
  simp only [tput,Zhy,this,if_false]
theorem Zdr {d:Option Nat} {v:AVal} {j:Nat} {w:Bool} {tm:Tms} (h:d≠some j):Za1 (some (j,w)) (tput tm d v)=Za1 (some (j,w)) tm:=by
 simp only [Za1,ZA9 h]
theorem ZtN:∀ (a b:List AOp) (s:Nat) (tm:Tms) (σ:Za),ZaS O bf (a++b) s tm σ=gK O bf b (s+sitesOf a) (ZaS O bf a s tm σ)
 | [],b,s,tm,σ=>by simp [Zhe,gK,sitesOf]
 | o::a,b,s,tm,σ=>by
  have ih:=ZtN a b
  simp only [Wf]
  have hs:s+nsite o.ins+sitesOf a=s+sitesOf (o::a):=by simp [sitesOf,We]
  cases hst:ZR O bf o s tm σ with
  | none=>rw [Zhj hst,Zhj hst];rfl
  | some q =>
   obtain ⟨v,tm1,σ1,c⟩:=q
   cases hp:Zau v with
   | true =>
    obtain ⟨x,rfl⟩:=Zhb hp
    rw [ZoK hst,ZoK hst];rfl
   | false=>rw [ZiK hst hp,ZiK hst hp,ih,hs]
theorem ZwG (j:Nat) (w:Bool):∀ (g:List AOp),(∀ o ∈ g,o.guard=some (j,w)/\o.dst≠some j)->∀ (s:Nat) (tm:Tms) (σ:Za),g≠[]->ZaS O bf g s tm σ=ZcO O bf j w g s tm σ
 | [],_,_,_,_,h=>absurd rfl h
 | o::g,hall,s,tm,σ,_=>by
  obtain ⟨hg,hd⟩:=hall o (by simp)
  have ih:∀ (tm:Tms) (σ:Za) (s:Nat),Za1 (some (j,w)) tm≠none->ZaS O bf g s tm σ=ZcO O bf j w g s tm σ:=by
   intro tm σ s hw
   by_cases he:g=[]
   ·subst he
    unfold ZcO
    cases hx:Za1 (some (j,w)) tm with
    | none=>exact absurd hx hw
    | some b=>cases b <;> rfl
   ·exact ZwG j w g (fun o ho=>hall o (by simp [ho])) s tm σ he
  cases hx:Za1 (some (j,w)) tm with
  | none =>
   rw [Zhj (by simp only [ZR,hg,hx])]
   simp only [ZcO,hx]
  | some b =>
   cases b with
   | false =>
    have h1:ZaS O bf (o::g) s tm σ=ZaS O bf g (s+nsite o.ins) (tput tm o.dst (.tup [])) σ :=
     ZiK (v:=.tup []) (c:={}) (by simp only [ZR,hg,hx]) rfl
    rw [h1,ih _ _ _ (by rw [Zdr hd,hx];simp)]
    unfold ZcO
    rw [Zdr hd,hx]
    rfl
   | true =>
    have key:∀ r:Option (AVal×Za×Cls),(∀ v σ' c,r=some (v,σ',c)->Zau v=false->ZaS O bf g (s+nsite o.ins) (tput tm o.dst v) σ'=ZaS O bf (g.map unG) (s+nsite o.ins) (tput tm o.dst v) σ')->kN O bf o.dst g (s+nsite o.ins) tm r=kN O bf o.dst (g.map unG) (s+nsite o.ins) tm r:=by
     intro r hr
     cases r with
     | none=>rfl
     | some q =>
      obtain ⟨v,σ',c⟩:=q
      cases hp:Zau v with
      | true=>simp only [kN,hp,if_true]
      | false=>rw [ZgH _ _ _ _ _ _ _ hp,ZgH _ _ _ _ _ _ _ hp];exact hr v σ' c rfl hp
    have h1:ZaS O bf (o::g) s tm σ=kN O bf o.dst g (s+nsite o.ins) tm (exI O bf o.ins s tm σ):=by
     have h0:ZaS O bf (o::g) s tm σ=ZaS O bf (⟨o.dst,o.ins,none,o.after⟩::g) s tm σ:=by
      have hst:ZR O bf o s tm σ=ZR O bf ⟨o.dst,o.ins,none,o.after⟩ s tm σ:=by
       unfold ZR
       simp only [hg,hx]
       rfl
      unfold ZaS
      simp only [ZY,hst]
     rw [h0,ZgG]
    rw [h1]
    unfold ZcO
    rw [hx]
    simp only [Xv]
    rw [show unG o=⟨o.dst,o.ins,none,o.after⟩ from rfl,ZgG]
    refine key _ fun v σ' c _ _=>?_
    rw [ih _ _ _ (by rw [Zdr hd,hx];simp)]
    unfold ZcO
    rw [Zdr hd,hx]
theorem Zj2 (d:Option Nat) (i:Ins) (j:Nat) (w:Bool) (af:List Nat) (os:List AOp) (s:Nat) (tm:Tms) (σ:Za) (hd:decide (d=some j)=false) :
  ZaS O bf (⟨d,i,some (j,w),af⟩::os) s tm σ=gK O bf (Zt j w os).2 (s+sitesOf (⟨d,i,some (j,w),af⟩::(Zt j w os).1)) (ZcO O bf j w (⟨d,i,some (j,w),af⟩::(Zt j w os).1) s tm σ):=by
 have h:=Zq5 j w os
 have hall:∀ o ∈ (⟨d,i,some (j,w),af⟩::(Zt j w os).1:List AOp),o.guard=some (j,w)/\o.dst≠some j:=by
  intro o ho
  rcases XR.1 ho with rfl | ho
  ·exact ⟨rfl,by simpa using hd⟩
  ·exact Zo1 j w os o ho
 rw [<-ZwG j w _ hall s tm σ (by simp),<-ZtN,Wf,h]
variable (O bf) in
def gW (w:Bool) (g:List AOp) (s:Nat) (tm:Tms) (σ:Za):AVal->Option (Tms×Za×Option AVal)
 | .bool b=>if b=w then ZaS O bf (g.map unG) s tm σ else some (ZC g tm,σ,none)
 | .tup []=>some (ZC g tm,σ,none)
 | _=>none
theorem ZmN (j:Nat) (w:Bool) (g:List AOp) (s:Nat) (tm:Tms) (σ:Za):ZcO O bf j w g s tm σ=gW O bf w g s tm σ (tget tm j):=by
 unfold ZcO Za1
 simp only
 generalize tget tm j=v
 cases v
 case bool b=>cases b <;> cases w <;> rfl
 case tup vs=>cases vs <;> rfl
 all_goals rfl
theorem ZnW (w:Bool) (g:List AOp) (s:Nat) (tm:Tms) (σ:Za) (b:Bool):gW O bf w g s tm σ (.bool b)=if b=w then ZaS O bf (g.map unG) s tm σ else some (ZC g tm,σ,none):=rfl
theorem Zsv (w:Bool) (g:List AOp) (s:Nat) (tm:Tms) (σ:Za):gW O bf w g s tm σ (.tup [])=some (ZC g tm,σ,none):=rfl
theorem ZkZ (os:List AOp) (s:Nat) (tm:Tms) (σ:Za):gK O bf os s (some (tm,σ,none))=ZaS O bf os s tm σ:=rfl
end
section
variable (c:Prop) [Decidable c]
theorem ZL {α:Type} (a b:α) (x y:List α):(if c then a::x else b::y)=(if c then a else b)::(if c then x else y):=by split <;> rfl
theorem ZjR (k:IntKind) (a b:Int):(if c then AVal.int k a else AVal.int k b)=AVal.int k (if c then a else b):=by split <;> rfl
theorem ZrB (a b:Bool):(if c then AVal.bool a else AVal.bool b)=AVal.bool (if c then a else b):=by split <;> rfl
theorem Zst (a b:List UInt8):(if c then AVal.str a else AVal.str b)=AVal.str (if c then a else b):=by split <;> rfl
theorem Zpa (p q:Bool) (a b:List AVal):(if c then AVal.lst p a else AVal.lst q b)=AVal.lst (if c then p else q) (if c then a else b):=by split <;> rfl
theorem Zsp (a b:List AVal):(if c then AVal.agg a else AVal.agg b)=AVal.agg (if c then a else b):=by split <;> rfl
theorem ZpH (a b:List AVal):(if c then Z1.var a else Z1.var b)=Z1.var (if c then a else b):=by split <;> rfl
theorem Zmc (g k:Nat) (a b:List AVal):(if c then Z1.row g k a else Z1.row g k b)=Z1.row g k (if c then a else b):=by split <;> rfl
theorem Zi6 (t:Nat) (a b:Nat):(if c then AVal.ref t a else AVal.ref t b)=AVal.ref t (if c then a else b):=by split <;> rfl
theorem ZO {α:Type} (x y z:α):(if c then (if c then x else y) else z)=if c then x else z:=by split <;> rfl
theorem ZI {α:Type} (x y z:α):(if c then x else (if c then y else z))=if c then x else z:=by split <;> rfl
theorem ZK {α:Type} (x y z:α):(if c then (if ¬c then x else y) else z)=if c then y else z:=by split <;> simp_all
theorem ZQ {α:Type} (x y z:α):(if c then x else (if ¬c then y else z))=if c then x else y:=by split <;> simp_all
theorem ZsF (σ:Za) (a b:AVal) (p:Bool):ZdG σ a b (.bool p)=some (if p=true then a else b,σ,{}):=by cases p <;> rfl
theorem Zrz (a b:AVal):Zau (if c then a else b)=if c then Zau a else Zau b:=by split <;> rfl
end
section
variable {fs:Nat->Option Zae} {prim:Zcn} {bf:Nat->Bool} {m0:Nat}
theorem Zj6 (p:Bool) (a b:Ze) (tm:Tms) (σ:Za):ZgD fs prim bf m0 a b tm σ (.bool p)=if p=true then evC fs prim bf m0 a tm σ else evC fs prim bf m0 b tm σ:=by
 cases p <;> rfl
theorem ZnL (b:Ze) (tm:Tms) (σ:Za):Zbk fs prim bf m0 b (some (.normal,tm,σ))=evC fs prim bf m0 b tm σ:=rfl
theorem Zk2 (b:Ze) (i:Nat) (tm:Tms) (σ:Za):Zbk fs prim bf m0 b (some (.exit i,tm,σ))=some (.exit i,tm,σ):=rfl
theorem Zp1 (b:Ze) (tm:Tms) (σ:Za):Zbk fs prim bf m0 b (some (.ret,tm,σ))=some (.ret,tm,σ):=rfl
theorem Znz (b:Ze) (x:AVal) (tm:Tms) (σ:Za):Zbk fs prim bf m0 b (some (.panic x,tm,σ))=some (.panic x,tm,σ):=rfl
theorem ZmK (c:Prop) [Decidable c] (b:Ze) (x y:Option (Zax×Tms×Za)):Zbk fs prim bf m0 b (if c then x else y)=if c then Zbk fs prim bf m0 b x else Zbk fs prim bf m0 b y:=by split <;> rfl
theorem ZrA (id:Nat) (tm:Tms) (σ:Za):Ws (Za2 id) (some (.normal,tm,σ))=some (.normal,tm,σ):=rfl
theorem ZpI (id i:Nat) (tm:Tms) (σ:Za):Ws (Za2 id) (some (.exit i,tm,σ))=if i=id then some (.normal,tm,σ) else some (.exit i,tm,σ):=by
 simp only [XW,Za2];split <;> rfl
theorem Zkq (id:Nat) (tm:Tms) (σ:Za):Ws (Za2 id) (some (.ret,tm,σ))=some (.ret,tm,σ):=rfl
theorem ZkL (id:Nat) (x:AVal) (tm:Tms) (σ:Za):Ws (Za2 id) (some (.panic x,tm,σ))=some (.panic x,tm,σ):=rfl
theorem ZsO (id:Nat) (c:Prop) [Decidable c] (x y:Option (Zax×Tms×Za)):Ws (Za2 id) (if c then x else y)=if c then Ws (Za2 id) x else Ws (Za2 id) y:=by split <;> rfl
theorem Zo5 (m:Nat) (fn:Zae) (c:Prop) [Decidable c] (x y:Option (Zax×Tms×Za)):ZaV m fn (if c then x else y)=if c then ZaV m fn x else ZaV m fn y:=by split <;> rfl
end
section
variable {fs:Nat->Option Zae} {prim:Zcn} {bf:Nat->Bool} {m0:Nat}
theorem ZxN {live:List Nat} {c:Ze} {tm tm':Tms} {σ σ':Za} (h:evC fs prim bf m0 c tm σ=some (.normal,tm',σ')):evL fs prim bf m0 live c tm σ=evL fs prim bf m0 live c (gcT m0 (keepL live tm') σ').1 (gcT m0 (keepL live tm') σ').2:=by
 unfold evL
 rw [h]
 simp only
 rw [ZuE]
 rfl
theorem ZBw {live:List Nat} {c:Ze} {tm tm':Tms} {σ σ':Za} {i:Nat} (h:evC fs prim bf m0 c tm σ=some (.exit i,tm',σ')):evL fs prim bf m0 live c tm σ=some (.exit i,tm',σ'):=by
 unfold evL;rw [h]
theorem ZBH {live:List Nat} {c:Ze} {tm tm':Tms} {σ σ':Za} (h:evC fs prim bf m0 c tm σ=some (.ret,tm',σ')):evL fs prim bf m0 live c tm σ=some (.ret,tm',σ'):=by
 unfold evL;rw [h]
variable (fs prim bf m0) in
noncomputable def evM (live:List Nat) (c:Ze):Option (Zax×Tms×Za)->Option (Zax×Tms×Za)
 | some (.normal,tm,σ)=>evL fs prim bf m0 live c (gcT m0 (keepL live tm) σ).1 (gcT m0 (keepL live tm) σ).2
 | r=>r
theorem Zan (live:List Nat) (c:Ze) (tm:Tms) (σ:Za):evL fs prim bf m0 live c tm σ=evM fs prim bf m0 live c (evC fs prim bf m0 c tm σ):=by
 cases h:evC fs prim bf m0 c tm σ with
 | none=>unfold evL;rw [h];rfl
 | some q =>
  obtain ⟨e,tm',σ'⟩:=q
  cases e with
  | normal=>exact ZxN h
  | exit i=>exact ZBw h
  | ret=>exact ZBH h
  | panic x=>unfold evL;rw [h];rfl
theorem Zy5 (live:List Nat) (c:Ze) (tm:Tms) (σ:Za):evM fs prim bf m0 live c (some (.normal,tm,σ))=evL fs prim bf m0 live c (gcT m0 (keepL live tm) σ).1 (gcT m0 (keepL live tm) σ).2:=rfl
theorem ZlP (live:List Nat) (c:Ze) (i:Nat) (tm:Tms) (σ:Za):evM fs prim bf m0 live c (some (.exit i,tm,σ))=some (.exit i,tm,σ):=rfl
theorem ZnF (live:List Nat) (c:Ze) (tm:Tms) (σ:Za):evM fs prim bf m0 live c (some (.ret,tm,σ))=some (.ret,tm,σ):=rfl
theorem Zj9 (live:List Nat) (c:Ze) (x:AVal) (tm:Tms) (σ:Za):evM fs prim bf m0 live c (some (.panic x,tm,σ))=some (.panic x,tm,σ):=rfl
theorem ZnT (live:List Nat) (b:Ze) (c:Prop) [Decidable c] (x y:Option (Zax×Tms×Za)):evM fs prim bf m0 live b (if c then x else y)=if c then evM fs prim bf m0 live b x else evM fs prim bf m0 live b y:=by split <;> rfl
end
def ZaJ:AVal->Bool
 | .int _ _=>true
 | .bool _=>true
 | .str _=>true
 | .nilp=>true
 | .nilm=>true
 | .nili=>true
 | .lst _ _=>true
 | .fn _ []=>true
 | _=>false
def Zam:AVal->Bool
 | .agg cs=>cs.all ZaJ
 | x=>ZaJ x
def ZaF:AVal->AVal
 | .lst _ xs=>.lst false xs
 | x=>x
def Zag:AVal->AVal
 | .agg cs=>.agg (cs.map ZaF)
 | x=>ZaF x
theorem Zt1 {σ:Za} {x:AVal} (h:ZaJ x=true):ZbE σ x=some (ZaF x,[]):=by
 cases x <;> first | (simp [ZaJ] at h;done) | rfl
theorem Zt3 {σ:Za}:∀ {xs:List AVal},xs.all ZaJ=true->ZbG σ xs=some (xs.map ZaF,[])
 | [],_=>rfl
 | x::xs,h=>by
  simp only [Xs,Xp] at h
  simp only [ZbG,Zt1 h.1,Zt3 h.2,Xv,X0]
theorem Ze6 {x:AVal} (h:∀ cs,x≠.agg cs):Zam x=ZaJ x/\Zag x=ZaF x:=by
 cases x <;> first | exact ⟨rfl,rfl⟩ | exact absurd rfl (h _)
theorem ZxB {σ:Za} {x:AVal} (h:∀ cs,x≠.agg cs):showA σ x=ZbE σ x:=by
 cases x <;> first | rfl | exact absurd rfl (h _)
theorem Zqe (x:AVal):(∃ cs,x=.agg cs)\/∀ cs,x≠.agg cs:=by
 cases x <;> first | exact Xz ⟨_,rfl⟩ | (right;intro cs;simp)
theorem Zxb {σ:Za} {x:AVal} (h:Zam x=true):showA σ x=some (Zag x,[]):=by
 rcases Zqe x with ⟨cs,rfl⟩ | hn
 ·simp only [Zam] at h
  simp only [showA,Zt3 h,Zag]
 ·rw [(Ze6 hn).1] at h
  rw [ZxB hn,(Ze6 hn).2]
  exact Zt1 h
theorem Zvk {σ:Za}:∀ {xs:List AVal},xs.all Zam=true->showAs σ xs=some (xs.map Zag,[])
 | [],_=>rfl
 | x::xs,h=>by
  simp only [Xs,Xp] at h
  simp only [showAs,Zxb h.1,Zvk h.2,Xv,X0]
theorem Zvy {x:AVal} (h:ZaJ x=true):Z3 (ZaF x)=[]:=by
 cases x
 case fn f cs=>cases cs <;> simp [ZaJ] at h;rfl
 all_goals first | (simp [ZaJ] at h;done) | rfl
theorem Zwa:∀ {xs:List AVal},xs.all ZaJ=true->ZX (xs.map ZaF)=[]
 | [],_=>rfl
 | x::xs,h=>by
  simp only [Xs,Xp] at h
  simp only [Xv,ZX,Zvy h.1,Zwa h.2,X0]
theorem Zya {x:AVal} (h:Zam x=true):Z3 (Zag x)=[]:=by
 rcases Zqe x with ⟨cs,rfl⟩ | hn
 ·simp only [Zam] at h
  simp only [Zag,Z3];exact Zwa h
 ·rw [(Ze6 hn).1] at h
  rw [(Ze6 hn).2];exact Zvy h
theorem Zhw:∀ {xs:List AVal},xs.all Zam=true->ZX (xs.map Zag)=[]
 | [],_=>rfl
 | x::xs,h=>by
  simp only [Xs,Xp] at h
  simp only [Xv,ZX,Zya h.1,Zhw h.2,X0]
theorem ZuO {ρ:Rho} {x:AVal} (h:ZaJ x=true):Zq ρ (ZaF x)=ZaF x:=by
 cases x
 case fn f cs=>cases cs <;> simp [ZaJ] at h;rfl
 all_goals first | (simp [ZaJ] at h;done) | rfl
theorem Zt2 {ρ:Rho}:∀ {xs:List AVal},xs.all ZaJ=true->ZU ρ (xs.map ZaF)=xs.map ZaF
 | [],_=>rfl
 | x::xs,h=>by
  simp only [Xs,Xp] at h
  simp only [Xv,ZU,ZuO h.1,Zt2 h.2]
theorem Zxf {ρ:Rho} {x:AVal} (h:Zam x=true):Zq ρ (Zag x)=Zag x:=by
 rcases Zqe x with ⟨cs,rfl⟩ | hn
 ·simp only [Zam] at h
  simp only [Zag,Zq];rw [Zt2 h]
 ·rw [(Ze6 hn).1] at h
  rw [(Ze6 hn).2];exact ZuO h
theorem ZiC {ρ:Rho}:∀ {xs:List AVal},xs.all Zam=true->ZU ρ (xs.map Zag)=xs.map Zag
 | [],_=>rfl
 | x::xs,h=>by
  simp only [Xs,Xp] at h
  simp only [Xv,ZU,Zxf h.1,ZiC h.2]
theorem ZcW {O:ZW} {bf:Nat->Bool} {σ:Za} {sq f own:Nat} {view:Bool} {args:List AVal} (hb:bf f=false) (h:args.all Zam=true) :
  ZS O bf σ sq f own view args=Zak σ σ [] [] sq own (Zai view 0 (O f (args.map Zag) [])):=by
 unfold ZS ZbS
 rw [hb]
 simp only [Xt,if_false,Zvk h]
 have h1:ZB σ []=σ:=rfl
 rw [h1,Zhw h]
 have h2:Zg σ 1000 [] []=[]:=rfl
 rw [h2]
 unfold Zbr
 simp only [Xu,if_true,ZiC h,Zh,Xx]
theorem ZfQ (σ:Za) (sq own:Nat) (r:AVal) (h:Zq (ZaQ [] [] sq) r=r):Zak σ σ [] [] sq own (some (r,[]))=some (r,σ,{}):=by
 simp only [Zak,WA,Wu,if_true,Zcm,Bool.not_true,WM,Xt,if_false]
 split
 ·rfl
 ·rw [h]
end
section
section
variable (ρ:Rho) (σ:Za)
theorem ZoD  : Zau (.top)=false:=rfl
theorem ZmZ  : Zau (.any)=false:=rfl
theorem Zmx (k:IntKind) (n:Int):Zau (.int k n)=false:=rfl
theorem ZmF (b:Bool):Zau (.bool b)=false:=rfl
theorem ZpE (l:List UInt8):Zau (.str l)=false:=rfl
theorem ZmH  : Zau (.nilp)=false:=rfl
theorem Zpk (t:Nat) (o:Nat):Zau (.ref t o)=false:=rfl
theorem ZnM (t:Nat) (g:Nat) (i:Nat) (o:Nat):Zau (.eref t g i o)=false:=rfl
theorem ZrW (cs:List AVal) (o:Nat):Zau (.iptr cs o)=false:=rfl
theorem Zm2 (x:Bool) (xs:List AVal):Zau (.lst x xs)=false:=rfl
theorem ZmV (t:Nat) (g:Nat) (lo:Nat) (n:Nat):Zau (.sl t g lo n)=false:=rfl
theorem Zlc (cs:List AVal):Zau (.agg cs)=false:=rfl
theorem Zp2 (vs:List AVal):Zau (.tup vs)=false:=rfl
theorem Zk9 (f:Nat) (caps:List AVal):Zau (.fn f caps)=false:=rfl
theorem Zlt  : Zau (.nilm)=false:=rfl
theorem Zi8 (t:Nat):Zau (.map t)=false:=rfl
theorem ZqP  : Zau (.nili)=false:=rfl
theorem ZsG (t:Nat) (x:AVal):Zau (.iface t x)=false:=rfl
theorem Znu (x:AVal):Zau (.pan x)=true:=rfl
theorem Zlm  : ZT (.top)=false:=rfl
theorem Zq7  : ZT (.any)=true:=rfl
theorem ZlO (k:IntKind) (n:Int):ZT (.int k n)=true:=rfl
theorem Zk6 (b:Bool):ZT (.bool b)=true:=rfl
theorem ZpT (l:List UInt8):ZT (.str l)=true:=rfl
theorem Zql  : ZT (.nilp)=true:=rfl
theorem ZpL (t:Nat) (o:Nat):ZT (.ref t o)=true:=rfl
theorem Zpq (t:Nat) (g:Nat) (i:Nat) (o:Nat):ZT (.eref t g i o)=true:=rfl
theorem ZqQ (cs:List AVal) (o:Nat):ZT (.iptr cs o)=true:=rfl
theorem ZoH (x:Bool) (xs:List AVal):ZT (.lst x xs)=true:=rfl
theorem ZsW (t:Nat) (g:Nat) (lo:Nat) (n:Nat):ZT (.sl t g lo n)=true:=rfl
theorem Zra (cs:List AVal):ZT (.agg cs)=false:=rfl
theorem Zk4 (vs:List AVal):ZT (.tup vs)=false:=rfl
theorem Zn1 (f:Nat) (caps:List AVal):ZT (.fn f caps)=true:=rfl
theorem Zqc  : ZT (.nilm)=true:=rfl
theorem ZqO (t:Nat):ZT (.map t)=true:=rfl
theorem ZoY  : ZT (.nili)=true:=rfl
theorem Zjj (t:Nat) (x:AVal):ZT (.iface t x)=true:=rfl
theorem Zsk (x:AVal):ZT (.pan x)=false:=rfl
theorem ZpB  : Zbg (.top)=false:=rfl
theorem Zog  : Zbg (.any)=true:=rfl
theorem Zsc (k:IntKind) (n:Int):Zbg (.int k n)=true:=rfl
theorem Zqq (b:Bool):Zbg (.bool b)=true:=rfl
theorem ZkA (l:List UInt8):Zbg (.str l)=true:=rfl
theorem Zrt  : Zbg (.nilp)=true:=rfl
theorem Znr (t:Nat) (o:Nat):Zbg (.ref t o)=true:=rfl
theorem Zkl (t:Nat) (g:Nat) (i:Nat) (o:Nat):Zbg (.eref t g i o)=true:=rfl
theorem Zk8 (cs:List AVal) (o:Nat):Zbg (.iptr cs o)=true:=rfl
theorem ZqF (x:Bool) (xs:List AVal):Zbg (.lst x xs)=true:=rfl
theorem Znn (t:Nat) (g:Nat) (lo:Nat) (n:Nat):Zbg (.sl t g lo n)=true:=rfl
theorem Zoe (cs:List AVal):Zbg (.agg cs)=true:=rfl
theorem Zrf (vs:List AVal):Zbg (.tup vs)=true:=rfl
theorem Zq8 (f:Nat) (caps:List AVal):Zbg (.fn f caps)=true:=rfl
theorem Zma  : Zbg (.nilm)=true:=rfl
theorem Zkm (t:Nat):Zbg (.map t)=true:=rfl
theorem ZlN  : Zbg (.nili)=true:=rfl
theorem Zjh (t:Nat) (x:AVal):Zbg (.iface t x)=true:=rfl
theorem Zk0 (x:AVal):Zbg (.pan x)=true:=rfl
theorem ZlB  : ZaK (.top)=false:=rfl
theorem Zpy  : ZaK (.any)=false:=rfl
theorem Zr8 (k:IntKind) (n:Int):ZaK (.int k n)=true:=rfl
theorem Zsx (b:Bool):ZaK (.bool b)=true:=rfl
theorem Znj (l:List UInt8):ZaK (.str l)=true:=rfl
theorem Zs3  : ZaK (.nilp)=true:=rfl
theorem Zsq (t:Nat) (o:Nat):ZaK (.ref t o)=false:=rfl
theorem ZqM (t:Nat) (g:Nat) (i:Nat) (o:Nat):ZaK (.eref t g i o)=false:=rfl
theorem ZkH (cs:List AVal) (o:Nat):ZaK (.iptr cs o)=false:=rfl
theorem ZsZ (x:Bool) (xs:List AVal):ZaK (.lst x xs)=false:=rfl
theorem ZlE (t:Nat) (g:Nat) (lo:Nat) (n:Nat):ZaK (.sl t g lo n)=false:=rfl
theorem Zse (cs:List AVal):ZaK (.agg cs)=false:=rfl
theorem ZlD (vs:List AVal):ZaK (.tup vs)=false:=rfl
theorem Zps (f:Nat) (caps:List AVal):ZaK (.fn f caps)=false:=rfl
theorem Zlu  : ZaK (.nilm)=true:=rfl
theorem ZoC (t:Nat):ZaK (.map t)=false:=rfl
theorem ZsU  : ZaK (.nili)=true:=rfl
theorem Zn0 (t:Nat) (x:AVal):ZaK (.iface t x)=false:=rfl
theorem ZrI (x:AVal):ZaK (.pan x)=false:=rfl
theorem ZnU  : ZaM (.top)=false:=rfl
theorem ZsP  : ZaM (.any)=false:=rfl
theorem Znp (k:IntKind) (n:Int):ZaM (.int k n)=true:=rfl
theorem ZjY (b:Bool):ZaM (.bool b)=true:=rfl
theorem Zqm (l:List UInt8):ZaM (.str l)=true:=rfl
theorem ZrG  : ZaM (.nilp)=true:=rfl
theorem Zoj (t:Nat) (o:Nat):ZaM (.ref t o)=false:=rfl
theorem ZmP (t:Nat) (g:Nat) (i:Nat) (o:Nat):ZaM (.eref t g i o)=false:=rfl
theorem ZnK (cs:List AVal) (o:Nat):ZaM (.iptr cs o)=false:=rfl
theorem ZjP (x:Bool) (xs:List AVal):ZaM (.lst x xs)=false:=rfl
theorem Zq3 (t:Nat) (g:Nat) (lo:Nat) (n:Nat):ZaM (.sl t g lo n)=false:=rfl
theorem Zq9 (cs:List AVal):ZaM (.agg cs)=cs.all ZaK:=rfl
theorem Zli (vs:List AVal):ZaM (.tup vs)=false:=rfl
theorem Zqp (f:Nat) (caps:List AVal):ZaM (.fn f caps)=false:=rfl
theorem Znf  : ZaM (.nilm)=true:=rfl
theorem Zsy (t:Nat):ZaM (.map t)=false:=rfl
theorem Ztj  : ZaM (.nili)=true:=rfl
theorem ZoM (t:Nat) (x:AVal):ZaM (.iface t x)=false:=rfl
theorem Zsd (x:AVal):ZaM (.pan x)=false:=rfl
theorem ZqX  : Za4 (.top)=false:=rfl
theorem Zjy  : Za4 (.any)=false:=rfl
theorem ZoV (k:IntKind) (n:Int):Za4 (.int k n)=true:=rfl
theorem ZnC (b:Bool):Za4 (.bool b)=true:=rfl
theorem Zof (l:List UInt8):Za4 (.str l)=true:=rfl
theorem Zko  : Za4 (.nilp)=true:=rfl
theorem Zjc (t:Nat) (o:Nat):Za4 (.ref t o)=false:=rfl
theorem Zj1 (t:Nat) (g:Nat) (i:Nat) (o:Nat):Za4 (.eref t g i o)=false:=rfl
theorem ZmU (cs:List AVal) (o:Nat):Za4 (.iptr cs o)=false:=rfl
theorem ZjN (x:Bool) (xs:List AVal):Za4 (.lst x xs)=false:=rfl
theorem ZkJ (t:Nat) (g:Nat) (lo:Nat) (n:Nat):Za4 (.sl t g lo n)=false:=rfl
theorem Zrc (cs:List AVal):Za4 (.agg cs)=cs.all ZaK:=rfl
theorem Zjn (vs:List AVal):Za4 (.tup vs)=vs.all ZaM:=rfl
theorem Ztu (f:Nat) (caps:List AVal):Za4 (.fn f caps)=false:=rfl
theorem Ztd  : Za4 (.nilm)=true:=rfl
theorem ZjX (t:Nat):Za4 (.map t)=false:=rfl
theorem Ztm  : Za4 (.nili)=true:=rfl
theorem ZsM (t:Nat) (x:AVal):Za4 (.iface t x)=false:=rfl
theorem ZkK  : ZaJ (.top)=false:=rfl
theorem ZmJ  : ZaJ (.any)=false:=rfl
theorem ZsS (k:IntKind) (n:Int):ZaJ (.int k n)=true:=rfl
theorem ZkF (b:Bool):ZaJ (.bool b)=true:=rfl
theorem Zs1 (l:List UInt8):ZaJ (.str l)=true:=rfl
theorem ZmA  : ZaJ (.nilp)=true:=rfl
theorem ZkW (t:Nat) (o:Nat):ZaJ (.ref t o)=false:=rfl
theorem ZkQ (t:Nat) (g:Nat) (i:Nat) (o:Nat):ZaJ (.eref t g i o)=false:=rfl
theorem ZqD (cs:List AVal) (o:Nat):ZaJ (.iptr cs o)=false:=rfl
theorem Znh (x:Bool) (xs:List AVal):ZaJ (.lst x xs)=true:=rfl
theorem Zkj (t:Nat) (g:Nat) (lo:Nat) (n:Nat):ZaJ (.sl t g lo n)=false:=rfl
theorem ZoW (cs:List AVal):ZaJ (.agg cs)=false:=rfl
theorem ZlF (vs:List AVal):ZaJ (.tup vs)=false:=rfl
theorem ZjZ  : ZaJ (.nilm)=true:=rfl
theorem Zrd (t:Nat):ZaJ (.map t)=false:=rfl
theorem Zkw  : ZaJ (.nili)=true:=rfl
theorem Zmk (t:Nat) (x:AVal):ZaJ (.iface t x)=false:=rfl
theorem ZrL (x:AVal):ZaJ (.pan x)=false:=rfl
theorem Zsl  : Zam (.top)=false:=rfl
theorem Znc  : Zam (.any)=false:=rfl
theorem ZmM (k:IntKind) (n:Int):Zam (.int k n)=true:=rfl
theorem ZsL (b:Bool):Zam (.bool b)=true:=rfl
theorem Zp3 (l:List UInt8):Zam (.str l)=true:=rfl
theorem Zln  : Zam (.nilp)=true:=rfl
theorem Zjg (t:Nat) (o:Nat):Zam (.ref t o)=false:=rfl
theorem Zm1 (t:Nat) (g:Nat) (i:Nat) (o:Nat):Zam (.eref t g i o)=false:=rfl
theorem ZjB (cs:List AVal) (o:Nat):Zam (.iptr cs o)=false:=rfl
theorem ZjV (x:Bool) (xs:List AVal):Zam (.lst x xs)=true:=rfl
theorem Zoa (t:Nat) (g:Nat) (lo:Nat) (n:Nat):Zam (.sl t g lo n)=false:=rfl
theorem Zmb (cs:List AVal):Zam (.agg cs)=cs.all ZaJ:=rfl
theorem Zmh (vs:List AVal):Zam (.tup vs)=false:=rfl
theorem Zmo  : Zam (.nilm)=true:=rfl
theorem ZnY (t:Nat):Zam (.map t)=false:=rfl
theorem Zsj  : Zam (.nili)=true:=rfl
theorem Zmv (t:Nat) (x:AVal):Zam (.iface t x)=false:=rfl
theorem Zll (x:AVal):Zam (.pan x)=false:=rfl
theorem ZnA  : ZaF (.top)=(.top):=rfl
theorem ZjA  : ZaF (.any)=(.any):=rfl
theorem Zly (k:IntKind) (n:Int):ZaF (.int k n)=(.int k n):=rfl
theorem Zsi (b:Bool):ZaF (.bool b)=(.bool b):=rfl
theorem Zod (l:List UInt8):ZaF (.str l)=(.str l):=rfl
theorem ZoO  : ZaF (.nilp)=(.nilp):=rfl
theorem Zla (t:Nat) (o:Nat):ZaF (.ref t o)=(.ref t o):=rfl
theorem Znq (t:Nat) (g:Nat) (i:Nat) (o:Nat):ZaF (.eref t g i o)=(.eref t g i o):=rfl
theorem Zk5 (cs:List AVal) (o:Nat):ZaF (.iptr cs o)=(.iptr cs o):=rfl
theorem ZrV (x:Bool) (xs:List AVal):ZaF (.lst x xs)=.lst false xs:=rfl
theorem Zk7 (t:Nat) (g:Nat) (lo:Nat) (n:Nat):ZaF (.sl t g lo n)=(.sl t g lo n):=rfl
theorem Zpc (cs:List AVal):ZaF (.agg cs)=(.agg cs):=rfl
theorem ZkU (vs:List AVal):ZaF (.tup vs)=(.tup vs):=rfl
theorem ZrS (f:Nat) (caps:List AVal):ZaF (.fn f caps)=(.fn f caps):=rfl
theorem ZmO  : ZaF (.nilm)=(.nilm):=rfl
theorem Zld (t:Nat):ZaF (.map t)=(.map t):=rfl
theorem Zrp  : ZaF (.nili)=(.nili):=rfl
theorem Zth (t:Nat) (x:AVal):ZaF (.iface t x)=(.iface t x):=rfl
theorem Zjo (x:AVal):ZaF (.pan x)=(.pan x):=rfl
theorem Znw  : Zag (.top)=(.top):=rfl
theorem ZqI  : Zag (.any)=(.any):=rfl
theorem ZsB (k:IntKind) (n:Int):Zag (.int k n)=(.int k n):=rfl
theorem Zpj (b:Bool):Zag (.bool b)=(.bool b):=rfl
theorem Zrk (l:List UInt8):Zag (.str l)=(.str l):=rfl
theorem ZoX  : Zag (.nilp)=(.nilp):=rfl
theorem Zje (t:Nat) (o:Nat):Zag (.ref t o)=(.ref t o):=rfl
theorem ZrP (t:Nat) (g:Nat) (i:Nat) (o:Nat):Zag (.eref t g i o)=(.eref t g i o):=rfl
theorem Zs8 (cs:List AVal) (o:Nat):Zag (.iptr cs o)=(.iptr cs o):=rfl
theorem ZnH (x:Bool) (xs:List AVal):Zag (.lst x xs)=.lst false xs:=rfl
theorem Zrh (t:Nat) (g:Nat) (lo:Nat) (n:Nat):Zag (.sl t g lo n)=(.sl t g lo n):=rfl
theorem ZlA (cs:List AVal):Zag (.agg cs)=.agg (cs.map ZaF):=rfl
theorem Zrv (vs:List AVal):Zag (.tup vs)=(.tup vs):=rfl
theorem Zml (f:Nat) (caps:List AVal):Zag (.fn f caps)=(.fn f caps):=rfl
theorem Zj0  : Zag (.nilm)=(.nilm):=rfl
theorem Zno (t:Nat):Zag (.map t)=(.map t):=rfl
theorem Zrg  : Zag (.nili)=(.nili):=rfl
theorem Zki (t:Nat) (x:AVal):Zag (.iface t x)=(.iface t x):=rfl
theorem Zjq (x:AVal):Zag (.pan x)=(.pan x):=rfl
theorem Zmi  : AVal.cells (.top)=[(.top)]:=rfl
theorem ZsH  : AVal.cells (.any)=[(.any)]:=rfl
theorem ZkY (k:IntKind) (n:Int):AVal.cells (.int k n)=[(.int k n)]:=rfl
theorem Zsr (b:Bool):AVal.cells (.bool b)=[(.bool b)]:=rfl
theorem Zn9 (l:List UInt8):AVal.cells (.str l)=[(.str l)]:=rfl
theorem Zrm  : AVal.cells (.nilp)=[(.nilp)]:=rfl
theorem Zkv (t:Nat) (o:Nat):AVal.cells (.ref t o)=[(.ref t o)]:=rfl
theorem Znk (t:Nat) (g:Nat) (i:Nat) (o:Nat):AVal.cells (.eref t g i o)=[(.eref t g i o)]:=rfl
theorem Zlb (cs:List AVal) (o:Nat):AVal.cells (.iptr cs o)=[(.iptr cs o)]:=rfl
theorem Znm (x:Bool) (xs:List AVal):AVal.cells (.lst x xs)=[(.lst x xs)]:=rfl
theorem Zpn (t:Nat) (g:Nat) (lo:Nat) (n:Nat):AVal.cells (.sl t g lo n)=[(.sl t g lo n)]:=rfl
theorem Zpb (cs:List AVal):AVal.cells (.agg cs)=cs:=rfl
theorem Zsu (vs:List AVal):AVal.cells (.tup vs)=[(.tup vs)]:=rfl
theorem ZpC (f:Nat) (caps:List AVal):AVal.cells (.fn f caps)=[(.fn f caps)]:=rfl
theorem Zo4  : AVal.cells (.nilm)=[(.nilm)]:=rfl
theorem ZqH (t:Nat):AVal.cells (.map t)=[(.map t)]:=rfl
theorem ZrO  : AVal.cells (.nili)=[(.nili)]:=rfl
theorem Zmy (t:Nat) (x:AVal):AVal.cells (.iface t x)=[(.iface t x)]:=rfl
theorem Zkp (x:AVal):AVal.cells (.pan x)=[(.pan x)]:=rfl
theorem Zoh  : ZaA (.top)=(.top):=rfl
theorem Zku  : ZaA (.any)=(.any):=rfl
theorem Ztw (k:IntKind) (n:Int):ZaA (.int k n)=(.int k n):=rfl
theorem Zq0 (b:Bool):ZaA (.bool b)=(.bool b):=rfl
theorem ZpF (l:List UInt8):ZaA (.str l)=(.str l):=rfl
theorem Zj4  : ZaA (.nilp)=(.nilp):=rfl
theorem ZmT (t:Nat) (o:Nat):ZaA (.ref t o)=(.ref t o):=rfl
theorem Zqx (t:Nat) (g:Nat) (i:Nat) (o:Nat):ZaA (.eref t g i o)=(.eref t g i o):=rfl
theorem Zpd (cs:List AVal) (o:Nat):ZaA (.iptr cs o)=(.iptr cs o):=rfl
theorem ZkB (x:Bool) (xs:List AVal):ZaA (.lst x xs)=(.lst x xs):=rfl
theorem Zmr (t:Nat) (g:Nat) (lo:Nat) (n:Nat):ZaA (.sl t g lo n)=(.sl t g lo n):=rfl
theorem Zoo (cs:List AVal):ZaA (.agg cs)=(.agg cs):=rfl
theorem ZlZ (vs:List AVal):ZaA (.tup vs)=(.tup vs):=rfl
theorem Zsb (f:Nat) (caps:List AVal):ZaA (.fn f caps)=(.fn f caps):=rfl
theorem ZkO  : ZaA (.nilm)=(.nilm):=rfl
theorem Ztb (t:Nat):ZaA (.map t)=(.map t):=rfl
theorem Zqu  : ZaA (.nili)=(.nili):=rfl
theorem ZmS (t:Nat) (x:AVal):ZaA (.iface t x)=(.iface t x):=rfl
theorem Zr3 (x:AVal):ZaA (.pan x)=x:=rfl
theorem ZpK  : ZaN (.top)=4:=rfl
theorem ZpS  : ZaN (.any)=4:=rfl
theorem ZpA (k:IntKind) (n:Int):ZaN (.int k n)=0:=rfl
theorem Znx (b:Bool):ZaN (.bool b)=1:=rfl
theorem Zn4 (l:List UInt8):ZaN (.str l)=2:=rfl
theorem Zp9  : ZaN (.nilp)=4:=rfl
theorem Zmq (t:Nat) (o:Nat):ZaN (.ref t o)=4:=rfl
theorem ZmI (t:Nat) (g:Nat) (i:Nat) (o:Nat):ZaN (.eref t g i o)=4:=rfl
theorem ZlC (cs:List AVal) (o:Nat):ZaN (.iptr cs o)=4:=rfl
theorem ZjM (x:Bool) (xs:List AVal):ZaN (.lst x xs)=4:=rfl
theorem ZsN (t:Nat) (g:Nat) (lo:Nat) (n:Nat):ZaN (.sl t g lo n)=4:=rfl
theorem ZkV (cs:List AVal):ZaN (.agg cs)=4:=rfl
theorem ZkX (vs:List AVal):ZaN (.tup vs)=4:=rfl
theorem Ztt (f:Nat) (caps:List AVal):ZaN (.fn f caps)=4:=rfl
theorem ZoF  : ZaN (.nilm)=4:=rfl
theorem ZpP (t:Nat):ZaN (.map t)=4:=rfl
theorem ZpD  : ZaN (.nili)=4:=rfl
theorem Zjm (t:Nat) (x:AVal):ZaN (.iface t x)=4:=rfl
theorem Zs7 (x:AVal):ZaN (.pan x)=4:=rfl
theorem Zr9  : Z3 (.top)=[]:=rfl
theorem ZqJ  : Z3 (.any)=[]:=rfl
theorem Zmp (k:IntKind) (n:Int):Z3 (.int k n)=[]:=rfl
theorem Zj7 (b:Bool):Z3 (.bool b)=[]:=rfl
theorem Zq4 (l:List UInt8):Z3 (.str l)=[]:=rfl
theorem ZpM  : Z3 (.nilp)=[]:=rfl
theorem ZoP (t:Nat) (o:Nat):Z3 (.ref t o)=[t]:=rfl
theorem Zlg (t:Nat) (g:Nat) (i:Nat) (o:Nat):Z3 (.eref t g i o)=[t]:=rfl
theorem Zpz (cs:List AVal) (o:Nat):Z3 (.iptr cs o)=[]:=rfl
theorem Zmt (x:Bool) (xs:List AVal):Z3 (.lst x xs)=[]:=rfl
theorem Zso (t:Nat) (g:Nat) (lo:Nat) (n:Nat):Z3 (.sl t g lo n)=[t]:=rfl
theorem Zp5 (cs:List AVal):Z3 (.agg cs)=ZX cs:=rfl
theorem Zrl (vs:List AVal):Z3 (.tup vs)=ZX vs:=rfl
theorem Zqi (f:Nat) (caps:List AVal):Z3 (.fn f caps)=ZX caps:=rfl
theorem Zms  : Z3 (.nilm)=[]:=rfl
theorem Zkb (t:Nat):Z3 (.map t)=[t]:=rfl
theorem Zlf  : Z3 (.nili)=[]:=rfl
theorem ZsX (t:Nat) (x:AVal):Z3 (.iface t x)=Z3 x:=rfl
theorem Zs5 (x:AVal):Z3 (.pan x)=Z3 x:=rfl
theorem Zry  : Zq ρ (.top)=(.top):=rfl
theorem ZlG  : Zq ρ (.any)=(.any):=rfl
theorem ZkR (k:IntKind) (n:Int):Zq ρ (.int k n)=(.int k n):=rfl
theorem Zn8 (b:Bool):Zq ρ (.bool b)=(.bool b):=rfl
theorem ZsE (l:List UInt8):Zq ρ (.str l)=(.str l):=rfl
theorem Zkt  : Zq ρ (.nilp)=(.nilp):=rfl
theorem ZqZ (cs:List AVal) (o:Nat):Zq ρ (.iptr cs o)=(.iptr cs o):=rfl
theorem Zok (x:Bool) (xs:List AVal):Zq ρ (.lst x xs)=(.lst x xs):=rfl
theorem ZsQ (cs:List AVal):Zq ρ (.agg cs)=.agg (ZU ρ cs):=rfl
theorem Zo9 (vs:List AVal):Zq ρ (.tup vs)=.tup (ZU ρ vs):=rfl
theorem Zlj (f:Nat) (caps:List AVal):Zq ρ (.fn f caps)=.fn f (ZU ρ caps):=rfl
theorem ZqC  : Zq ρ (.nilm)=(.nilm):=rfl
theorem Znb  : Zq ρ (.nili)=(.nili):=rfl
theorem ZrU (t:Nat) (x:AVal):Zq ρ (.iface t x)=.iface t (Zq ρ x):=rfl
theorem Zqy (x:AVal):Zq ρ (.pan x)=.pan (Zq ρ x):=rfl
theorem Zpg (f:Nat):ZaJ (.fn f [])=true:=rfl
theorem Zto (f:Nat):Zam (.fn f [])=true:=rfl
theorem Zpp (t:Nat) (x:AVal):Za4 (.pan (.iface t x))=ZaK x:=rfl
theorem Zp6 (live:List Nat) (tm:Tms):ZhZ live (some (tm,σ,none))=some (.normal,keepL live tm,σ):=rfl
theorem ZqL (live:List Nat) (tm:Tms) (x:AVal):ZhZ live (some (tm,σ,some x))=some (.panic x,[],σ):=rfl
theorem ZmY (live:List Nat):ZhZ live none=none:=rfl
theorem Zm7 (t o:Nat):Zq ρ (.ref t o)=(match ρ t 0 with | some (t',0)=>.ref t' o | _=>.any):=rfl
theorem ZrM (t:Nat):Zq ρ (.map t)=(match ρ t 0 with | some (t',0)=>.map t' | _=>.any):=rfl
theorem Zou (t g lo n:Nat):Zq ρ (.sl t g lo n)=(match ρ t g with | some (t',g')=>.sl t' g' lo n | none=>.any):=rfl
theorem Zsz (t g i o:Nat):Zq ρ (.eref t g i o)=(match ρ t g with | some (t',g')=>.eref t' g' i o | none=>.any):=rfl
theorem Zqv:ZX []=[]:=rfl
theorem ZoQ (x:AVal) (xs:List AVal):ZX (x::xs)=Z3 x++ZX xs:=rfl
theorem Zky:ZU ρ []=[]:=rfl
theorem ZoU (x:AVal) (xs:List AVal):ZU ρ (x::xs)=Zq ρ x::ZU ρ xs:=rfl
end
end
section
mutual
def ZaB:AVal->Bool
 | .ref _ _=>false
 | .eref _ _ _ _=>false
 | .sl _ _ _ _=>false
 | .map _=>false
 | .agg cs=>Zu cs
 | .tup vs=>Zu vs
 | .fn _ vs=>Zu vs
 | .iface _ x=>ZaB x
 | .pan x=>ZaB x
 | .top=>true
 | .any=>true
 | .int _ _=>true
 | .bool _=>true
 | .str _=>true
 | .nilp=>true
 | .nilm=>true
 | .nili=>true
 | .iptr _ _=>true
 | .lst _ _=>true
def Zu:List AVal->Bool
 | []=>true
 | x::xs=>ZaB x && Zu xs
end
mutual
theorem Zgd (ρ:Rho):∀ (x:AVal),ZaB x=true->Zq ρ x=x/\Z3 x=[]
 | .ref _ _,h=>by simp [ZaB] at h
 | .eref _ _ _ _,h=>by simp [ZaB] at h
 | .sl _ _ _ _,h=>by simp [ZaB] at h
 | .map _,h=>by simp [ZaB] at h
 | .agg cs,h=>by have:=ZfY ρ cs (by simpa only [ZaB] using h);exact ⟨by simp only [Zq,this.1],by simp only [Z3,this.2]⟩
 | .tup cs,h=>by have:=ZfY ρ cs (by simpa only [ZaB] using h);exact ⟨by simp only [Zq,this.1],by simp only [Z3,this.2]⟩
 | .fn f cs,h=>by have:=ZfY ρ cs (by simpa only [ZaB] using h);exact ⟨by simp only [Zq,this.1],by simp only [Z3,this.2]⟩
 | .iface t x,h=>by have:=Zgd ρ x (by simpa only [ZaB] using h);exact ⟨by simp only [Zq,this.1],by simp only [Z3,this.2]⟩
 | .pan x,h=>by have:=Zgd ρ x (by simpa only [ZaB] using h);exact ⟨by simp only [Zq,this.1],by simp only [Z3,this.2]⟩
 | .top,_=>⟨rfl,rfl⟩
 | .any,_=>⟨rfl,rfl⟩
 | .int _ _,_=>⟨rfl,rfl⟩
 | .bool _,_=>⟨rfl,rfl⟩
 | .str _,_=>⟨rfl,rfl⟩
 | .nilp,_=>⟨rfl,rfl⟩
 | .nilm,_=>⟨rfl,rfl⟩
 | .nili,_=>⟨rfl,rfl⟩
 | .iptr _ _,_=>⟨rfl,rfl⟩
 | .lst _ _,_=>⟨rfl,rfl⟩
theorem ZfY (ρ:Rho):∀ (xs:List AVal),Zu xs=true->ZU ρ xs=xs/\ZX xs=[]
 | [],_=>⟨rfl,rfl⟩
 | x::xs,h=>by
  simp only [Zu,Xp] at h
  have h1:=Zgd ρ x h.1
  have h2:=ZfY ρ xs h.2
  exact ⟨by simp only [ZU,h1.1,h2.1],by simp only [ZX,h1.2,h2.2,X0]⟩
end
theorem ZiW {σ:Za} {r:AVal} (h:ZaB r=true):ZaP 0 σ r=some (r,[]):=by
 have h1:=Zgd (Zf σ 0 []) r h
 have hids:Zn 0 [r] σ=[]:=by
  unfold Zn
  simp only [ZX,h1.2,X0,List.range_zero,Xaz]
  rfl
 unfold ZaP gcA
 simp only [hids,ZU,Zh,h1.1]
def Zbu:AVal->AVal
 | .tup vs=>.tup (vs.map Zag)
 | x=>Zag x
def Zbz:AVal->Bool
 | .tup vs=>vs.all Zam
 | x=>Zam x
def Zbe:AVal->Bool
 | .fn _ _=>false
 | _=>true
def Zbh:AVal->Bool
 | .agg cs=>cs.all Zbe
 | x=>Zbe x
def Zbw:AVal->Bool
 | .tup vs=>vs.all Zbh
 | x=>Zbh x
theorem ZvD {k g n:Nat} {xs:List AVal} {σ:Za} {t:Nat} (hs:σ[t]?=some (.row g k xs)) (hn:n<=xs.length):Zbd 0 (some (.sl t g 0 n,σ))=some (.lst false (xs.take n),[]):=by
 have hv:viewR σ (.sl t g 0 n)=some (.lst false (xs.take n),[t]):=by
  simp only [viewR,Zaw,Zaj,Zj,hs,XC,hn,and_self,if_true,W4]
 have e:Zbd 0 (some (.sl t g 0 n,σ))=(match viewR σ (.sl t g 0 n) with
  | some (r',ts)=>match gcA 0 [r'] (ZB σ ts) with
   | ([r''],σ')=>some (r'',σ')
   | _=>none
  | none=>none):=rfl
 rw [e,hv]
 exact ZiW rfl
theorem Zo6 {m:Nat} {fn:Zae} {tm:Tms} {σ:Za}:ZaV m fn (some (.ret,tm,σ))=match resA tm σ fn.res with
  | some r=>ZaP m σ r
  | none=>none:=rfl
theorem ZqS {m:Nat} {fn:Zae} {tm:Tms} {σ:Za}:ZaV m fn (some (.normal,tm,σ))=match resA tm σ fn.res with
  | some r=>ZaP m σ r
  | none=>none:=rfl
theorem Zkh {m:Nat} {fn:Zae} {tm:Tms} {σ:Za} {x:AVal}:ZaV m fn (some (.panic x,tm,σ))=ZaP m σ (.pan x):=rfl
theorem ZnJ  : ZaB (.top)=true:=rfl
theorem Zn7  : ZaB (.any)=true:=rfl
theorem ZrY (k:IntKind) (n:Int):ZaB (.int k n)=true:=rfl
theorem ZnV (b:Bool):ZaB (.bool b)=true:=rfl
theorem ZqV (l:List UInt8):ZaB (.str l)=true:=rfl
theorem Zqo  : ZaB (.nilp)=true:=rfl
theorem ZqU (t:Nat) (o:Nat):ZaB (.ref t o)=false:=rfl
theorem Zjt (t:Nat) (g:Nat) (i:Nat) (o:Nat):ZaB (.eref t g i o)=false:=rfl
theorem Zsw (cs:List AVal) (o:Nat):ZaB (.iptr cs o)=true:=rfl
theorem ZlQ (x:Bool) (xs:List AVal):ZaB (.lst x xs)=true:=rfl
theorem Zl5 (t:Nat) (g:Nat) (lo:Nat) (n:Nat):ZaB (.sl t g lo n)=false:=rfl
theorem Zpw (cs:List AVal):ZaB (.agg cs)=Zu cs:=rfl
theorem ZlY (vs:List AVal):ZaB (.tup vs)=Zu vs:=rfl
theorem Zmm (f:Nat) (caps:List AVal):ZaB (.fn f caps)=Zu caps:=rfl
theorem Zo8  : ZaB (.nilm)=true:=rfl
theorem Zol (t:Nat):ZaB (.map t)=false:=rfl
theorem ZmQ  : ZaB (.nili)=true:=rfl
theorem Zqr (t:Nat) (x:AVal):ZaB (.iface t x)=ZaB x:=rfl
theorem Zoc (x:AVal):ZaB (.pan x)=ZaB x:=rfl
theorem Zl6  : Zbe (.top)=true:=rfl
theorem Zle  : Zbe (.any)=true:=rfl
theorem ZnO (k:IntKind) (n:Int):Zbe (.int k n)=true:=rfl
theorem ZnI (b:Bool):Zbe (.bool b)=true:=rfl
theorem Zsf (l:List UInt8):Zbe (.str l)=true:=rfl
theorem Zox  : Zbe (.nilp)=true:=rfl
theorem Zrq (t:Nat) (o:Nat):Zbe (.ref t o)=true:=rfl
theorem Ztx (t:Nat) (g:Nat) (i:Nat) (o:Nat):Zbe (.eref t g i o)=true:=rfl
theorem ZrF (cs:List AVal) (o:Nat):Zbe (.iptr cs o)=true:=rfl
theorem Zm9 (x:Bool) (xs:List AVal):Zbe (.lst x xs)=true:=rfl
theorem ZlR (t:Nat) (g:Nat) (lo:Nat) (n:Nat):Zbe (.sl t g lo n)=true:=rfl
theorem Zj8 (cs:List AVal):Zbe (.agg cs)=true:=rfl
theorem Zos (vs:List AVal):Zbe (.tup vs)=true:=rfl
theorem Zlp (f:Nat) (caps:List AVal):Zbe (.fn f caps)=false:=rfl
theorem ZpR  : Zbe (.nilm)=true:=rfl
theorem Zjr (t:Nat):Zbe (.map t)=true:=rfl
theorem Zkd  : Zbe (.nili)=true:=rfl
theorem Zlz (t:Nat) (x:AVal):Zbe (.iface t x)=true:=rfl
theorem ZnB (x:AVal):Zbe (.pan x)=true:=rfl
theorem Zl9  : Zbh (.top)=true:=rfl
theorem Zp8  : Zbh (.any)=true:=rfl
theorem ZlW (k:IntKind) (n:Int):Zbh (.int k n)=true:=rfl
theorem ZjH (b:Bool):Zbh (.bool b)=true:=rfl
theorem ZjC (l:List UInt8):Zbh (.str l)=true:=rfl
theorem Zob  : Zbh (.nilp)=true:=rfl
theorem Zor (t:Nat) (o:Nat):Zbh (.ref t o)=true:=rfl
theorem Zke (t:Nat) (g:Nat) (i:Nat) (o:Nat):Zbh (.eref t g i o)=true:=rfl
theorem ZpV (cs:List AVal) (o:Nat):Zbh (.iptr cs o)=true:=rfl
theorem Zpl (x:Bool) (xs:List AVal):Zbh (.lst x xs)=true:=rfl
theorem ZqG (t:Nat) (g:Nat) (lo:Nat) (n:Nat):Zbh (.sl t g lo n)=true:=rfl
theorem ZjS (cs:List AVal):Zbh (.agg cs)=cs.all Zbe:=rfl
theorem ZrD (vs:List AVal):Zbh (.tup vs)=true:=rfl
theorem Znd (f:Nat) (caps:List AVal):Zbh (.fn f caps)=false:=rfl
theorem Zoz  : Zbh (.nilm)=true:=rfl
theorem Zqd (t:Nat):Zbh (.map t)=true:=rfl
theorem Zr7  : Zbh (.nili)=true:=rfl
theorem Zsh (t:Nat) (x:AVal):Zbh (.iface t x)=true:=rfl
theorem Zlk (x:AVal):Zbh (.pan x)=true:=rfl
theorem ZnE  : Zbw (.top)=true:=rfl
theorem ZsD  : Zbw (.any)=true:=rfl
theorem Zne (k:IntKind) (n:Int):Zbw (.int k n)=true:=rfl
theorem Zkn (b:Bool):Zbw (.bool b)=true:=rfl
theorem ZoN (l:List UInt8):Zbw (.str l)=true:=rfl
theorem ZpZ  : Zbw (.nilp)=true:=rfl
theorem Zka (t:Nat) (o:Nat):Zbw (.ref t o)=true:=rfl
theorem ZsV (t:Nat) (g:Nat) (i:Nat) (o:Nat):Zbw (.eref t g i o)=true:=rfl
theorem Zn3 (cs:List AVal) (o:Nat):Zbw (.iptr cs o)=true:=rfl
theorem Zs0 (x:Bool) (xs:List AVal):Zbw (.lst x xs)=true:=rfl
theorem ZsJ (t:Nat) (g:Nat) (lo:Nat) (n:Nat):Zbw (.sl t g lo n)=true:=rfl
theorem Zn5 (cs:List AVal):Zbw (.agg cs)=cs.all Zbe:=rfl
theorem Zqb (vs:List AVal):Zbw (.tup vs)=vs.all Zbh:=rfl
theorem Zs6 (f:Nat) (caps:List AVal):Zbw (.fn f caps)=false:=rfl
theorem Zni  : Zbw (.nilm)=true:=rfl
theorem Zks (t:Nat):Zbw (.map t)=true:=rfl
theorem Zlh  : Zbw (.nili)=true:=rfl
theorem ZnZ (t:Nat) (x:AVal):Zbw (.iface t x)=true:=rfl
theorem Zpe (x:AVal):Zbw (.pan x)=true:=rfl
theorem Zrb  : Zbz (.top)=false:=rfl
theorem Zjl  : Zbz (.any)=false:=rfl
theorem ZsA (k:IntKind) (n:Int):Zbz (.int k n)=true:=rfl
theorem Zmg (b:Bool):Zbz (.bool b)=true:=rfl
theorem ZjF (l:List UInt8):Zbz (.str l)=true:=rfl
theorem Ztq  : Zbz (.nilp)=true:=rfl
theorem ZlT (t:Nat) (o:Nat):Zbz (.ref t o)=false:=rfl
theorem ZrE (t:Nat) (g:Nat) (i:Nat) (o:Nat):Zbz (.eref t g i o)=false:=rfl
theorem ZpW (cs:List AVal) (o:Nat):Zbz (.iptr cs o)=false:=rfl
theorem Zna (x:Bool) (xs:List AVal):Zbz (.lst x xs)=true:=rfl
theorem Zp0 (t:Nat) (g:Nat) (lo:Nat) (n:Nat):Zbz (.sl t g lo n)=false:=rfl
theorem Zjz (cs:List AVal):Zbz (.agg cs)=cs.all ZaJ:=rfl
theorem Zjw (vs:List AVal):Zbz (.tup vs)=vs.all Zam:=rfl
theorem Zlv  : Zbz (.nilm)=true:=rfl
theorem ZpJ (t:Nat):Zbz (.map t)=false:=rfl
theorem ZlV  : Zbz (.nili)=true:=rfl
theorem Zi7 (t:Nat) (x:AVal):Zbz (.iface t x)=false:=rfl
theorem Zkz (x:AVal):Zbz (.pan x)=false:=rfl
theorem Zls  : Zbu (.top)=(.top):=rfl
theorem Zta  : Zbu (.any)=(.any):=rfl
theorem Zti (k:IntKind) (n:Int):Zbu (.int k n)=(.int k n):=rfl
theorem Zqk (b:Bool):Zbu (.bool b)=(.bool b):=rfl
theorem Zm5 (l:List UInt8):Zbu (.str l)=(.str l):=rfl
theorem Zkk  : Zbu (.nilp)=(.nilp):=rfl
theorem ZsY (t:Nat) (o:Nat):Zbu (.ref t o)=(.ref t o):=rfl
theorem Zsg (t:Nat) (g:Nat) (i:Nat) (o:Nat):Zbu (.eref t g i o)=(.eref t g i o):=rfl
theorem ZjG (cs:List AVal) (o:Nat):Zbu (.iptr cs o)=(.iptr cs o):=rfl
theorem Zmz (x:Bool) (xs:List AVal):Zbu (.lst x xs)=.lst false xs:=rfl
theorem ZqB (t:Nat) (g:Nat) (lo:Nat) (n:Nat):Zbu (.sl t g lo n)=(.sl t g lo n):=rfl
theorem ZpY (cs:List AVal):Zbu (.agg cs)=.agg (cs.map ZaF):=rfl
theorem ZlJ (vs:List AVal):Zbu (.tup vs)=.tup (vs.map Zag):=rfl
theorem Zoq (f:Nat) (caps:List AVal):Zbu (.fn f caps)=(.fn f caps):=rfl
theorem ZrK  : Zbu (.nilm)=(.nilm):=rfl
theorem Zn2 (t:Nat):Zbu (.map t)=(.map t):=rfl
theorem ZoG  : Zbu (.nili)=(.nili):=rfl
theorem ZnN (t:Nat) (x:AVal):Zbu (.iface t x)=(.iface t x):=rfl
theorem ZpQ (x:AVal):Zbu (.pan x)=(.pan x):=rfl
theorem Zlo:Zu []=true:=rfl
theorem ZmG (x:AVal) (xs:List AVal):Zu (x::xs)=(ZaB x && Zu xs):=rfl
theorem ZnG (f:Nat):Zbz (.fn f [])=true:=rfl
theorem Zr4 (p q:Bool):(if p=true then q else false)=(p && q):=by cases p <;> rfl
theorem Zi5 (p q:Bool):(if p=true then true else q)=(p || q):=by cases p <;> rfl
theorem Zl7 (p q:Bool):(if p=true then false else q)=(!p && q):=by cases p <;> rfl
theorem ZlX (p q:Bool):(if p=true then q else true)=(!p || q):=by cases p <;> rfl
theorem Zov (p q:Bool):(if p=false then q else false)=(!p && q):=by cases p <;> rfl
theorem Ztv (p q:Bool):(if p=false then true else q)=(!p || q):=by cases p <;> rfl
theorem Zr0 (p q:Bool):(if p=false then false else q)=(p && q):=by cases p <;> rfl
theorem ZnQ (p q:Bool):(if p=false then q else true)=(p || q):=by cases p <;> rfl
section
def ZcC (o:AOp):AOp:=⟨o.dst,o.ins,o.guard,[]⟩
def Zcc:Ze->Ze
 | .region ops chk live=>.region (ops.map ZcC) chk live
 | .seq a b=>.seq (Zcc a) (Zcc b)
 | .cond c a b=>.cond c (Zcc a) (Zcc b)
 | .block id c=>.block id (Zcc c)
 | .loop live c=>.loop live (Zcc c)
 | .skip=>.skip
 | .exit id=>.exit id
 | .ret=>.ret
 | .stuck=>.stuck
def Zhz (f:Zae):Zae:=⟨f.res,Zcc f.body⟩
section
variable {O:ZW} {bf:Nat->Bool}
theorem ZyP (o:AOp) (s:Nat) (tm:Tms) (σ:Za):ZR O bf (ZcC o) s tm σ=ZR O bf o s tm σ:=rfl
theorem Zu6:∀ (ops:List AOp) (s:Nat) (tm:Tms) (σ:Za),ZY O bf (ops.map ZcC) s tm σ=ZY O bf ops s tm σ
 | [],_,_,_=>rfl
 | o::os,s,tm,σ=>by
  simp only [Xv,ZY,ZyP]
  split
  ·rfl
  ·rfl
  ·rename_i tm' σ' c _ _
   rw [show (ZcC o).ins=o.ins from rfl,Zu6 os]
theorem Zrj (ops:List AOp):sitesOf (ops.map ZcC)=sitesOf ops:=by
 simp [sitesOf,ZcC,Function.comp_def]
theorem Zit (ops:List AOp) (i:Nat):((ops.map ZcC).getD i default).ins=(ops.getD i default).ins:=by
 simp only [Xq,WD]
 cases ops[i]? <;> rfl
theorem ZCF (ops:List AOp) (b:Nat) (l:List (Nat×Nat)) (cs:List Cls):Zb6 (ops.map ZcC) b l cs=Zb6 ops b l cs:=by
 unfold Zb6
 congr 1
 funext p
 unfold ZbL Zbs
 rw [Zit,Zit,<-Xa4,Zrj]
theorem ZBc (ops:List AOp) (b:Nat) (l:List (Nat×Nat)) (cs:List Cls):ZaO (ops.map ZcC) b l cs=ZaO ops b l cs:=by
 unfold ZaO
 congr 2
 funext p
 unfold ZbL Zbs
 rw [Zit,Zit,<-Xa4,Zrj]
theorem ZCn (ops:List AOp) (chk:Option (List (Nat×Nat))) (live:List Nat) (tm:Tms) (σ:Za):Zbl O bf (ops.map ZcC) chk live tm σ=Zbl O bf ops chk live tm σ:=by
 unfold Zbl
 rw [Zu6,Zrj]
 cases ZY O bf ops σ.length tm (σ++XI (sitesOf ops) .free) with
 | none=>rfl
 | some q =>
  obtain ⟨tm',σ',cs,p⟩:=q
  cases p with
  | some x =>
   cases chk with
   | none=>rfl
   | some l=>simp only [ZbV,ZBc]
  | none =>
   cases chk with
   | none=>rfl
   | some l=>simp only [ZbV,ZCF]
theorem Zd9 (m n:Nat):∀ (c:Ze),Z2 O bf m n (Zcc c)=Z2 O bf m n c
 | .region ops chk live=>by funext tm σ;simp only [Zcc,Z2,ZCn]
 | .seq a b=>by funext tm σ;simp only [Zcc,Z2,Zd9 m n a,Zd9 m n b]
 | .cond c a b=>by funext tm σ;simp only [Zcc,Z2,Zd9 m n a,Zd9 m n b]
 | .block id c=>by funext tm σ;simp only [Zcc,Z2,Zd9 m n c]
 | .loop live c=>by funext tm σ;simp only [Zcc,Z2,Zd9 m n c]
 | .skip=>rfl
 | .exit id=>rfl
 | .ret=>rfl
 | .stuck=>rfl
end
theorem ZvM (fs:Nat->Option Zae) (prim:Zcn) (bf:Nat->Bool):∀ n,ZaC (fun f=>(fs f).map Zhz) prim bf n=ZaC fs prim bf n
 | 0=>rfl
 | n+1=>by
  funext f args σ
  simp only [ZaC,ZvM fs prim bf n]
  cases prim f with
  | some g=>rfl
  | none =>
   cases fs f with
   | none=>rfl
   | some fn =>
    simp only [XW,Zhz,Zd9]
    rfl
theorem Zyz (fs:Nat->Option Zae) (prim:Zcn) (bf:Nat->Bool):EV (fun f=>(fs f).map Zhz) prim bf=EV fs prim bf:=by
 funext f args σ
 apply ZdB
 intro r
 rw [Zcy,Zcy]
 simp only [ZvM]
end
end
section
open Go.RowKit
def ZcD (k bytes:Nat) (args:List AVal) (σ:Za):Option (AVal×Za):=match args with
 | [.str _]=>none
 | [a]=>match Zj σ a with
  | some (xs,_)=>if xs.length*bytes<=140737488355328/\kOk k xs=true then some (.sl σ.length 0 0 xs.length,σ++[.row 0 k xs]) else none
  | none=>none
 | _=>none
def ZcF:Ann:={ nt:=8,lr:=fun _=>[7,6,5,4,3,2,0] }
structure Zk1 (P:Program) (t:TypeId) (k bytes:Nat) (z:AVal) (f:FuncId):Prop where
 ex:∃ (F:Func) (e:TypeId) (i0 i1 i2 i3:Nat) (r0 r2 r3:Array Oper) (m b:Oper),
  P.funcs[f]?=some F/\F.results=#[.tmp 2]/\F.ntmps=8/\(F.name == "runtime.NumGoroutine")=false/\P.underlying t=some (.slice e) /\
  F.body=some (.seq (.region i0 r0 false) (.seq (.seq (.region i1 #[m,b] false) (.cond (.tmp 4) (.seq (.region i2 r2 false) .ret) .skip)) (.seq (.region i3 r3 false) .ret))) /\
  m.op=.move (.tmp 0)/\m.dst=some 3/\m.guard=none/\b.op=.binOp .eql t (.tmp 3) (.const (.slice none 0 0)) t/\b.dst=some 4/\b.guard=none /\
  Zb9 P ZcF r0 r0.toList=some [⟨some 2,.mov (.c (.lst true [])),none,[]⟩] /\
  Zb9 P ZcF r2 r2.toList=some [⟨some 2,.mov (.c (.lst true [])),none,[]⟩] /\
  (∃ a1 a2 a3 a4,Zb9 P ZcF r3 r3.toList=some [⟨some 5,.bslice false k 0 z [],none,a1⟩,⟨some 6,.mov (.t 0),none,a2⟩,⟨some 7,.app k bytes z (.t 5) (.t 6),none,a3⟩,⟨some 2,.mov (.t 7),none,a4⟩])/\z.cells.length=k/\0 < k
section
variable {P:Program} {base:Nat->Prop} {w0 w w':World} {I0 I:Imm} {β:Bmap} {σ:Za}
theorem noO:Zao P (fun _ _ _=>none):=by intro f args σ r σ' h;cases h
theorem ZwN {ops:Array Oper} {Q:Exit->Act->World->Prop} {o:Oper} {l:List Oper} {a:Act} {w:World} (hg:o.guard=none) (h:o.wp P a w (wpList P ops Q l) Q):wpList P ops Q (o::l) a w:=by
 unfold wpList
 have : Region.wanted o (yielded ops a.tmps)=true:=by unfold Region.wanted;rw [hg]
 rw [this]
 simp only [if_true]
 exact Xz h
theorem ZwZ {t : TypeId} {k bytes : Nat} {z : AVal} {f : FuncId} (hm : P.follows .mixedOrders = true) (C : Zk1 P t k bytes z f) {args : List AVal} {σ σ' : Za} {r : AVal} (h : ZcD k bytes args σ = some (r, σ')) :
    (∃ fn, P.funcs[f]? = some fn /\ fn.body.isSome = true /\ (fn.name == "runtime.NumGoroutine") = false) /\
    ∀ base w0 I0 I β w (vs : Array Value), KLt base w0 -> Rel base w0 I0 I β σ w -> VRs I β args vs.toList ->
      Calls P f vs w (fun e w' => ∃ u, Ends r e u /\ ZbW σ.length base w0 I0 I β r σ' u w') := by
  obtain ⟨F, e, i0, i1, i2, i3, r0, r2, r3, m, b, hF, hres, hnt, hname, hu, hbody, hm1, hm2, hm3, hb1, hb2, hb3, hc0, hc2, ⟨a1, a2, a3, a4, hc3⟩, hzk, hk0⟩ := C.ex
  refine ⟨⟨F, hF, by rw [hbody]; rfl, hname⟩, ?_⟩
  intro base w0 I0 I β w vs hb R hargs
  unfold ZcD at h
  split at h
  case h_1 => cases h
  case h_3 => cases h
  rename_i a hns
  split at h
  case h_2 => cases h
  rename_i xs ts hel0
  split at h
  case isFalse => cases h
  rename_i hc
  obtain ⟨hbytes, hkOk⟩ := hc
  simp only [Xa, Xb] at h
  obtain ⟨rfl, rfl⟩ := h
  have hnt8 : ∀ (n : Nat), n < 8 -> n < ZcF.nt := fun n h => h
  refine calls_of_wp hF hbody ?_
  have hsz : vs.size = 1 := by have := Zas hargs; simpa using this.symm
  have T := Zup hargs (F.ntmps - vs.size)
  have hst : StR ZbN 8 base w0 I0 I β (enterA 0 [a] []) σ { tmps := vs ++ Xan (F.ntmps - vs.size) undef, defers := [] } w := ⟨I, β, Imm.le.refl I, Bmap.le.refl β, T, ⟨ZfX.2 rfl, by simp; omega⟩, R⟩
  have fin : ∀ {tm : Tms} {σ1 : Za} {y : AVal} {a' : Act} {w1 : World}, StR ZbN 8 base w0 I0 I β tm σ1 a' w1 -> tget tm 2 = y -> (∀ I' β' u, I.le I' -> β.le β' -> Rel base w0 I0 I' β' σ1 w1 -> VR I' β' y u -> ZbW σ.length base w0 I0 I β (.sl σ.length 0 0 xs.length) (σ ++ [.row 0 k xs]) u w1) ->
      a'.defers = [] /\ ∃ v, (results F a'.tmps).run P w1 = .ok v w1 /\ ∃ u, Ends (.sl σ.length 0 0 xs.length) (.returned v) u /\ ZbW σ.length base w0 I0 I β (.sl σ.length 0 0 xs.length) (σ ++ [.row 0 k xs]) u w1 := by
    rintro tm σ1 y a' w1 ⟨I', β', h1, h2, h3, h4, h5⟩ hy hpost
    refine ⟨ZfX.1 h4.1, a'.tmps.getD 2 undef, by simp [results, hres], _, rfl, ?_⟩
    have := h3 2
    rw [hy] at this
    exact hpost I' β' _ h1 h2 h5 this
  have R0 : ZaG P ZcF (.region i0 r0 false) = .region [⟨some 2, .mov (.c (.lst true [])), none, []⟩] none [7, 6, 5, 4, 3, 2, 0] := by simp only [ZaG]; rw [hc0]; rfl
  have R2 : ZaG P ZcF (.region i2 r2 false) = .region [⟨some 2, .mov (.c (.lst true [])), none, []⟩] none [7, 6, 5, 4, 3, 2, 0] := by simp only [ZaG]; rw [hc2]; rfl
  have R3 : ZaG P ZcF (.region i3 r3 false) = .region [⟨some 5, .bslice false k 0 z [], none, a1⟩, ⟨some 6, .mov (.t 0), none, a2⟩, ⟨some 7, .app k bytes z (.t 5) (.t 6), none, a3⟩, ⟨some 2, .mov (.t 7), none, a4⟩] none [7, 6, 5, 4, 3, 2, 0] := by simp only [ZaG]; rw [hc3]; rfl
  refine wp_seq ?_
  refine ZiU (an := ZcF) (dr := ZbN) (bf := fun _ => false) noO (fun n hn => by simp [ZbN] at hn) hm hb R0 hst (e := .normal) (tm' := keepL [7, 6, 5, 4, 3, 2, 0] [(2, .lst true []), (0, a)]) (σ' := σ) ?_ ?_
  . simp [Zbl, ZbV, sitesOf, nsite, ZY, ZR, Za1, execI, Opd.ev, tput, tins, enterA]
  intro a1' w1 hst1
  simp only [Exit.then]
  refine wp_seq (wp_seq ?_)
  refine wp_region_list ?_
  refine ZwN hm3 ?_
  obtain ⟨I1, β1, g1, g2, g3, g4, g5⟩ := hst1
  have hs8 : 8 <= a1'.tmps.size := g4.2
  have hT0 : VR I1 β1 a (a1'.tmps.getD 0 undef) := by have := g3 0; simpa [keepL, tget] using this
  obtain ⟨A, cap, hv0, q1, q2, q5, q4⟩ := ZrC g5 (fun l e => hns l e) hel0 hT0
  show m.wp P a1' w1 _ _
  unfold Oper.wp
  have e1 : (execOp a1'.eval m).run P w1 = .ok (.value (.slice A xs.length cap)) w1 := by
    unfold execOp; rw [hm1]; simp [Act.eval, hv0]
  rw [e1, Oper.upon_value, hm2]
  refine ZwN hb3 ?_
  unfold Oper.wp
  have hs3 : (a1'.put (some 3) (.slice A xs.length cap)).tmps.getD 3 undef = .slice A xs.length cap := by
    have : 3 < a1'.tmps.size := by omega
    simp [Act.put, Xaj, this]
  have e2 : (execOp (a1'.put (some 3) (.slice A xs.length cap)).eval b).run P w1 = .ok (.value (.bool A.isNone)) w1 := by
    have hq : (Op.equal t (.slice A xs.length cap) (.slice none 0 0)).run P w1 = .ok A.isNone w1 := run_equal_slice_nil w1 t e A xs.length cap hu
    unfold execOp; rw [hb1]
    simp only [Act.eval]
    rw [hs3]
    simp [eqGuard, binOp, hq]
  rw [e2, Oper.upon_value, hb2]
  refine wpList_nil ?_
  have hst2 : StR ZbN 8 base w0 I0 I β [(4, .bool A.isNone), (2, .lst true []), (0, a)] σ ((a1'.put (some 3) (.slice A xs.length cap)).put (some 4) (.bool A.isNone)) w1 := by
    refine ⟨I1, β1, g1, g2, fun n => ?_, ⟨Zhd (Zhd g4.1 (fun n _ hm => by simp [ZbN] at hm)) (fun n _ hm => by simp [ZbN] at hm), by rw [Zgq, Zgq]; exact g4.2⟩, g5⟩
    have hs : 4 < (a1'.put (some 3) (.slice A xs.length cap)).tmps.size := by rw [Zgq]; omega
    have ne : ∀ {a : Act} {d j : Nat} {u : Value}, d ≠ j -> (a.put (some d) u).tmps.getD j undef = a.tmps.getD j undef := by
      intro a d j u hne
      simp only [Act.put, Ww]; rw [Array.getElem?_setIfInBounds_ne hne]
    simp only [tget]
    split
    . rename_i e; subst e
      rw [show ((a1'.put (some 3) (.slice A xs.length cap)).put (some 4) (.bool A.isNone)).tmps.getD 4 undef = .bool A.isNone by
        simp only [Act.put] at hs ⊢
        simp [Xaj] at hs ⊢
        omega]
      simp only [VR]
    . split
      . rename_i e; subst e
        rw [ne (by omega), ne (by omega)]
        have := g3 2; simpa [keepL, tget] using this
      . split
        . rename_i e; subst e
          rw [ne (by omega), ne (by omega)]
          have := g3 0; simpa [keepL, tget] using this
        . simp only [VR]
  simp only [Exit.then]
  cases hA : A.isNone with
  | true =>
    have hx0 : xs = [] := by
      rcases q4 with h | ⟨b, off, k', us, e, _⟩
      . exact h
      . rw [e] at hA; cases hA
    subst hx0
    have hev : ((a1'.put (some 3) (.slice A 0 cap)).put (some 4) (.bool A.isNone)).eval (.tmp 4) = .bool true := by
      obtain ⟨_, _, _, _, T, _, _⟩ := hst2
      have := T 4
      simp only [tget, if_true, VR] at this
      rw [hA] at this
      simpa [Act.eval, hA] using this
    refine wp_cond_true (by simpa [hA] using hev) ?_
    refine wp_seq ?_
    rw [hA] at hst2
    refine ZiU (an := ZcF) (dr := ZbN) (bf := fun _ => false) noO (fun n hn => by simp [ZbN] at hn) hm hb R2 hst2 (e := .normal) (tm' := keepL [7, 6, 5, 4, 3, 2, 0] [(4, .bool true), (2, .lst true []), (0, a)]) (σ' := σ) ?_ ?_
    . simp [Zbl, ZbV, sitesOf, nsite, ZY, ZR, Za1, execI, Opd.ev, tput, tins]
    intro a3' w3 hst3
    simp only [Exit.then]
    refine wp_ret ?_
    refine fin hst3 (y := .lst true []) (by simp [keepL, tget]) ?_
    intro I' β' u h1 h2 h3 h4
    simp only [VR] at h4
    obtain ⟨A', cap', rfl, _, _, hx, _⟩ := h4
    have hcap : cap' = 0 := by simpa using hx
    subst hcap
    have R4 := h3.reserve 1
    have hfree : (σ ++ XI 1 Z1.free)[σ.length]? = some .free := by simp
    obtain ⟨R5, hle⟩ := R4.newNone hfree k hk0
    refine ⟨I', _, h1, KeptE.of_le (h2.trans hle), ?_, ?_⟩
    . have : (σ ++ XI 1 Z1.free).set σ.length (.row 0 k []) = σ ++ [.row 0 k []] := by simp
      rw [this] at R5; exact R5
    . simp only [ZaA]
      rw [Zbv]
      exact ⟨_, Bmap.put_same β' σ.length 0 _, by simp, by simp, XG ⟨rfl, rfl, A', rfl⟩⟩
  | false =>
    have hev : ((a1'.put (some 3) (.slice A xs.length cap)).put (some 4) (.bool A.isNone)).eval (.tmp 4) = .bool false := by
      obtain ⟨_, _, _, _, T, _, _⟩ := hst2
      have := T 4
      simp only [tget, if_true, VR] at this
      rw [hA] at this
      simpa [Act.eval, hA] using this
    refine wp_cond_false (by simpa [hA] using hev) ?_
    refine wp_skip ?_
    rw [hA] at hst2
    simp only [Exit.then]
    refine wp_seq ?_
    have hel : Zj (σ ++ [Z1.free]) a = some (xs, ts) := Zd2 hel0 (fun t ht => by
      obtain ⟨g, k, ys, h | h⟩ := Zir hel0 t ht <;> (rw [Wj (List.getElem?_eq_some_iff.1 h).1]))
    refine ZiU (an := ZcF) (dr := ZbN) (bf := fun _ => false) noO (fun n hn => by simp [ZbN] at hn) hm hb R3 hst2 (e := .normal) (tm' := keepL [7, 6, 5, 4, 3, 2, 0] [(7, .sl σ.length 0 0 xs.length), (6, a), (5, .lst true []), (4, .bool false), (2, .sl σ.length 0 0 xs.length), (0, a)]) (σ' := σ ++ [.row 0 k xs]) ?_ ?_
    . have hfa : freeAt (σ ++ [Z1.free]) σ.length = true := by simp [freeAt]
      have hnp : (∃ x ys, a = .lst x ys) \/ ∃ t g lo n, a = .sl t g lo n := by
        cases a with
        | lst x ys => exact Xz ⟨x, ys, rfl⟩
        | sl t g lo n => exact XG ⟨t, g, lo, n, rfl⟩
        | str l => exact absurd rfl (hns l)
        | _ => simp [Zj] at hel0
      rcases hnp with ⟨x, ys, rfl⟩ | ⟨t', g', lo, n, rfl⟩
      . simp [Zbl, ZbV, sitesOf, nsite, ZY, ZR, Za1, execI, Opd.ev, tput, tins, tget, viewAs, ZB, hzk, Zav, hel, hkOk, hbytes, hfa]
      . simp [Zbl, ZbV, sitesOf, nsite, ZY, ZR, Za1, execI, Opd.ev, tput, tins, tget, viewAs, ZB, hzk, Zav, hel, hkOk, hbytes, hfa]
    intro a3' w3 hst3
    simp only [Exit.then]
    refine wp_ret ?_
    refine fin hst3 (y := .sl σ.length 0 0 xs.length) (by simp [keepL, tget]) ?_
    intro I' β' u h1 h2 h3 h4
    exact ⟨I', β', h1, KeptE.of_le h2, h3, h4⟩
end
end
section
open Go.RowKit
def Zde:List AVal->Option (List UInt8)
 | []=>some []
 | .int .u8 n::r=>if 0<=n/\n < 256 then (Zde r).map (UInt8.ofNat n.toNat::·) else none
 | _=>none
def ZeD (σ:Za):List AVal->Option (List (Nat×List UInt8))
 | []=>some []
 | .sl t 0 0 n::r=>match σ[t]? with
  | some (.row 0 1 xs)=>match Zde xs with
   | some l=>if n=l.length/\l.length<=1099511627776 then (ZeD σ r).map ((t,l)::·) else none
   | none=>none
  | _=>none
 | _=>none
def relB (σ:Za):List Nat->Za
 | []=>σ
 | t::ts=>relB (σ.set t (.frow 0 1 [])) ts
def ZmD (σ:Za) (tb nb:Nat):Option (AVal×Za):=match σ[tb]? with
 | some (.rrow 0 1 xs)=>match ZeD σ xs with
  | some rows=>if nb=xs.length/\nb<=400/\(rows.map (·.1)).Nodup then some (.bool true,relB σ (rows.map (·.1))) else none
  | none=>none
 | _=>none
def Zgy (args:List AVal) (σ:Za):Option (AVal×Za):=match args with
 | [.ref 0 0]=>match (σ[0]? : Option Z1) with
  | some (Z1.var (AVal.sl tb 0 0 nb::_))=>ZmD σ tb nb
  | _=>none
 | _=>none
theorem Zu2:∀ l:List UInt8,Zde (l.map Zb)=some l
 | []=>rfl
 | b::l=>by
  have:=b.toNat_lt
  simp only [Xv,Zb,Zde]
  rw [if_pos (by omega),Zu2 l]
  simp
theorem ZwH:∀ {xs:List AVal} {l:List UInt8},Zde xs=some l->xs=l.map Zb
 | [],l,h=>by simp only [Zde,Xa] at h;subst h;rfl
 | x::xs,l,h=>by
  unfold Zde at h
  split at h
  ·cases ‹_::_=[]›
  ·rename_i n r e
   injection e with e1 e2
   subst e1 e2
   split at h
   ·rename_i hn
    simp only [Xr] at h
    obtain ⟨l',h,rfl⟩:=h
    rw [ZwH h]
    simp only [Xv,Zb,UInt8.toNat_ofNat']
    congr 2
    omega
   ·cases h
  ·cases h
theorem ZtM {σ:Za}:∀ {xs:List AVal} {rows:List (Nat×List UInt8)},ZeD σ xs=some rows->rows.length=xs.length/\∀ (i t:Nat) (l:List UInt8),rows[i]?=some (t,l)->xs[i]?=some (.sl t 0 0 l.length)/\l.length<=1099511627776/\∃ ys,σ[t]?=some (.row 0 1 ys)/\Zde ys=some l
 | [],rows,h=>by simp only [ZeD,Xa] at h;subst h;simp
 | x::xs,rows,h=>by
  unfold ZeD at h
  split at h
  ·cases ‹_::_=[]›
  ·rename_i t n r e
   injection e with e1 e2
   subst e1 e2
   split at h
   ·rename_i ys hs
    split at h
    ·rename_i l hl
     split at h
     ·rename_i hn
      obtain ⟨rfl,hn⟩:=hn
      simp only [Xr] at h
      obtain ⟨rows',h,rfl⟩:=h
      obtain ⟨h1,h2⟩:=ZtM h
      refine ⟨by simp [h1],fun i t' l' hi=>?_⟩
      cases i with
      | zero =>
       simp only [List.getElem?_cons_zero,Xa,Xb] at hi
       obtain ⟨rfl,rfl⟩:=hi
       exact ⟨rfl,hn,ys,hs,hl⟩
      | succ i=>simpa using h2 i t' l' (by simpa using hi)
     ·cases h
    ·cases h
   ·cases h
  ·cases h
theorem Zvc:∀ {ts:List Nat} {σ:Za} {t:Nat} {x:Z1},(relB σ ts)[t]?=some x->(t ∈ ts/\x=.frow 0 1 [])\/(t ∉ ts/\σ[t]?=some x)
 | [],σ,t,x,h=>XG ⟨by simp,h⟩
 | u::ts,σ,t,x,h=>by
  rcases Zvc (ts:=ts) h with ⟨h1,h2⟩ | ⟨h1,h2⟩
  ·exact Xz ⟨by simp [h1],h2⟩
  ·by_cases e:u=t
   ·subst e
    rw [List.getElem?_set] at h2
    simp only [if_true] at h2
    split at h2
    ·injection h2 with h2;exact Xz ⟨by simp,h2.symm⟩
    ·cases h2
   ·rw [List.getElem?_set_ne e] at h2
    exact XG ⟨by simp only [XR,not_or];exact ⟨fun e'=>e e'.symm,h1⟩,h2⟩
end
section
def ZcP {α:Type} (d:α):List (Nat×α)->Nat->α
 | [],_=>d
 | (k,v)::r,n=>if k=n then v else ZcP d r n
def Zay (own raw:List Nat) (cfg cfg2:List (Nat×Nat×Bool)) (lr ll:List (Nat×List Nat)):Ann:={ own:=fun n=>if own.contains n then 1 else if raw.contains n then 2 else 0,cfg:=ZcP (0,true) cfg,cfg2:=ZcP (0,true) cfg2,lr:=ZcP [] lr,ll:=ZcP [] ll }
def ZB6:List (Nat×Ann):=[
 (18,Zay [] [16] [] [] [(0,[9,1,0]),(1,[1,0]),(2,[])] []),
 (19,Zay [] [] [] [] [(0,[0]),(1,[2])] []),
 (30,Zay [] [] [] [] [(0,[0]),(1,[3,0]),(2,[12,3,0]),(3,[3,0]),(4,[30,3,0]),(5,[2]),(6,[4,0]),(7,[37,4,0]),(8,[4,0]),(9,[55,4,0]),(10,[2]),(11,[5,0]),(12,[62,5,0]),(13,[5,0]),(14,[80,5,0]),(15,[2]),(16,[2])] [(2,[3,0]),(7,[4,0]),(12,[5,0])]),
 (31,Zay [] [] [] [] [(0,[0]),(1,[3,0]),(2,[17,3,0]),(3,[3,0]),(4,[4,3,0]),(5,[29,4,3,0]),(6,[4,3,0]),(7,[4,3,0]),(8,[5,0]),(9,[6,5,0]),(10,[49,6,5,0]),(11,[6,5,0]),(12,[7,6,5,0]),(13,[6,5,0]),(14,[8,5,0]),(15,[76,8,5,0]),(16,[8,5,0]),(17,[9,8,5,0]),(18,[10,9,8,5,0]),(19,[89,10,9,8,5,0]),(20,[10,9,8,5,0]),(21,[116,10,9,8,5,0]),(22,[2]),(23,[141,8,5,0]),(24,[2]),(25,[2])] [(2,[3,0]),(5,[4,3,0]),(10,[6,5,0]),(15,[8,5,0]),(19,[10,9,8,5,0])]),
 (33,Zay [] [] [] [] [(0,[0]),(1,[3,0]),(2,[17,3,0]),(3,[3,0]),(4,[4,3,0]),(5,[29,4,3,0]),(6,[4,3,0]),(7,[4,3,0]),(8,[5,0]),(9,[6,5,0]),(10,[48,6,5,0]),(11,[6,5,0]),(12,[7,6,5,0]),(13,[6,5,0]),(14,[8,5,0]),(15,[73,8,5,0]),(16,[8,5,0]),(17,[9,8,5,0]),(18,[10,9,8,5,0]),(19,[86,10,9,8,5,0]),(20,[10,9,8,5,0]),(21,[111,10,9,8,5,0]),(22,[2]),(23,[134,8,5,0]),(24,[2]),(25,[2])] [(2,[3,0]),(5,[4,3,0]),(10,[6,5,0]),(15,[8,5,0]),(19,[10,9,8,5,0])]),
 (32,Zay [] [] [] [] [(0,[0]),(1,[3,0]),(2,[17,3,0]),(3,[3,0]),(4,[4,3,0]),(5,[29,4,3,0]),(6,[4,3,0]),(7,[4,3,0]),(8,[5,0]),(9,[6,5,0]),(10,[49,6,5,0]),(11,[6,5,0]),(12,[7,6,5,0]),(13,[6,5,0]),(14,[8,5,0]),(15,[76,8,5,0]),(16,[8,5,0]),(17,[9,8,5,0]),(18,[10,9,8,5,0]),(19,[89,10,9,8,5,0]),(20,[10,9,8,5,0]),(21,[116,10,9,8,5,0]),(22,[2]),(23,[141,8,5,0]),(24,[2]),(25,[2])] [(2,[3,0]),(5,[4,3,0]),(10,[6,5,0]),(15,[8,5,0]),(19,[10,9,8,5,0])]),
 (28,Zay [6] [] [(38,1,false)] [(21,1,false)] [(0,[2,1]),(1,[2,1]),(2,[2,1]),(3,[15,14,2,1]),(4,[16,15,14,2,1]),(5,[15,14,3,2,1]),(6,[15,14,2,1]),(7,[15,14,2,1]),(8,[2])] [(4,[15,14,2,1])]),
 (13,Zay [] [] [] [] [(0,[2,1]),(1,[4])] []),
 (9,Zay [] [] [(21,1,false)] [] [(0,[8,4,3,2,1]),(1,[9,8,4,3]),(2,[11,10,9,8,3]),(3,[31,10,9,8,3]),(4,[9,8]),(5,[8])] []),
 (15,Zay [] [] [(28,2,false)] [] [(0,[8,4,3,2,1]),(1,[9,8,4,3,2,1]),(2,[10,9,8,4,3,2,1]),(3,[29,10,9,8,4,3,2,1]),(4,[10,9,8,4,1]),(5,[36,10,9,8,4,1]),(6,[10,8,4]),(7,[51,50,49,10,8]),(8,[52,51,50,49,10,8]),(9,[51,50,49,12,10,8]),(10,[51,50,49,10,8]),(11,[51,50,49,10,8]),(12,[8])] [(8,[51,50,49,10,8])]),
 (22,Zay [] [] [] [] [(0,[0]),(1,[2])] []),
 (23,Zay [] [] [] [] [(0,[4,1,0]),(1,[10,9,8,4,0]),(2,[11,10,9,8,4,0]),(3,[10,9,8,7,4,0]),(4,[17,10,9,8,7,4,0]),(5,[5,4]),(6,[10,9,8,4,0]),(7,[5,4])] [(2,[10,9,8,4,0])]),
 (34,Zay [] [] [] [] [(0,[1,0]),(1,[5,1,0]),(2,[10,9,8,5,1]),(3,[11,10,9,8,5,1]),(4,[10,9,8,7,5,1]),(5,[17,10,9,8,7,5,1]),(6,[10,9,8,5,1]),(7,[10,9,8,5,1]),(8,[4])] [(3,[10,9,8,5,1])]),
 (35,Zay [] [] [] [] [(0,[2,1]),(1,[2,1]),(2,[2])] []),
 (41,Zay [] [] [] [] [(0,[1,0]),(1,[4])] []),
 (43,Zay [] [] [] [] [(0,[1,0]),(1,[8,7,1,0]),(2,[9,8,7,1,0]),(3,[8,7,5,1,0]),(4,[16,8,7,5,1,0]),(5,[4]),(6,[8,7,1,0]),(7,[4])] [(2,[8,7,1,0])]),
 (10,Zay [] [] [] [] [(0,[1,0]),(1,[10,1,0]),(2,[4]),(3,[5,1,0]),(4,[30,0]),(5,[4]),(6,[6,0]),(7,[34,6,0]),(8,[6,0]),(9,[6,0]),(10,[4])] [(7,[6,0])]),
 (20,Zay [] [] [] [] [(0,[1,0]),(1,[8,1,0]),(2,[4]),(3,[4])] []),
 (40,Zay [] [] [] [] [(0,[1,0]),(1,[10,1,0]),(2,[4]),(3,[5,1,0]),(4,[14,5,1,0]),(5,[5,1,0]),(6,[25,5,1,0]),(7,[4]),(8,[4])] [(4,[5,1,0])]),
 (8,Zay [] [] [] [] [(0,[0]),(1,[3,0]),(2,[3,0]),(3,[3,0]),(4,[2])] []),
 (24,Zay [] [] [] [] [(0,[1,0]),(1,[4])] []),
 (29,Zay [] [] [] [] [(0,[0]),(1,[3,0]),(2,[2])] []),
 (6,Zay [] [] [] [] [(0,[2,1,0]),(1,[7,1,0]),(2,[7,1,0]),(3,[16,7,1,0]),(4,[1,0]),(5,[6])] []),
 (39,Zay [] [] [] [] [(0,[1,0]),(1,[10,1,0]),(2,[4]),(3,[5,1,0]),(4,[14,5,1,0]),(5,[5,1,0]),(6,[25,5,1,0]),(7,[4]),(8,[4])] [(4,[5,1,0])]),
 (4,Zay [] [] [] [] [(0,[2,1]),(1,[6,2,1]),(2,[2,1]),(3,[14,2,1]),(4,[2,1]),(5,[22,2,1]),(6,[2,1]),(7,[30,2,1]),(8,[2,1]),(9,[39,2,1]),(10,[2,1]),(11,[2,1]),(12,[2])] []),
 (5,Zay [] [] [] [] [(0,[2,1]),(1,[2,1]),(2,[13,2,1]),(3,[2,1]),(4,[23,2,1]),(5,[2,1]),(6,[2])] []),
 (3,Zay [] [] [(18,2,true),(9,1,false),(15,2,false),(8,1,false)] [] [(0,[10,7,6,5,4,2,1]),(1,[10,7,6,5,4,2,1]),(2,[10,7,6,5,4,2,1]),(3,[10,7,6,5,4,2,1]),(4,[15,10,7,6,5,4,2,1]),(5,[36,15,10,7,6,5,4,2,1]),(6,[15,10,7,6,5,4,2,1]),(7,[54,15,10,7,6,5,4,2,1]),(8,[14]),(9,[16,10,7,6,5,4,2,1]),(10,[16,10,7,6,5,4,2,1]),(11,[17,16,10,7,6,5,4,2,1]),(12,[101,17,10,6,5,4]),(13,[14]),(14,[18,17,10,6,5,4]),(15,[114,18,17]),(16,[14]),(17,[19,18,17]),(18,[19,18]),(19,[19]),(20,[14])] [(5,[15,10,7,6,5,4,2,1])]),
 (7,Zay [3] [] [] [] [(0,[]),(1,[1]),(2,[2,1]),(3,[0])] []),
 (36,Zay [] [] [] [] [(0,[3,2]),(1,[4])] []),
 (27,Zay [] [] [] [] [(0,[4,1,0]),(1,[6,4,1,0]),(2,[10,6,4,1,0]),(3,[6,4,1,0]),(4,[19,6,4,1,0]),(5,[5,4]),(6,[5,4])] [(2,[6,4,1,0])]),
 (37,Zay [] [] [] [] [(0,[1,0]),(1,[5,1,0]),(2,[6,5,1,0]),(3,[10,6,5,1,0]),(4,[6,5,1,0]),(5,[19,6,5,1,0]),(6,[6,5,1,0]),(7,[4])] [(3,[6,5,1,0])]),
 (25,Zay [] [] [] [] [(0,[1,0]),(1,[10,1,0]),(2,[4]),(3,[5,1,0]),(4,[14,5,1,0]),(5,[5,1,0]),(6,[26,5,1,0]),(7,[4]),(8,[4])] [(4,[5,1,0])]),
 (42,Zay [] [] [] [] [(0,[1,0]),(1,[5,1,0]),(2,[9,5,1,0]),(3,[5,1,0]),(4,[17,5,1,0]),(5,[4]),(6,[4])] [(2,[5,1,0])]),
 (16,Zay [] [] [] [] [(0,[3,2]),(1,[112,3,2]),(2,[4]),(3,[163,3,2]),(4,[4]),(5,[5,3,2]),(6,[168,5,3,2]),(7,[5,3,2]),(8,[181,5,3,2]),(9,[4]),(10,[6,3,2]),(11,[186,6,3,2]),(12,[6,3,2]),(13,[199,6,3,2]),(14,[4]),(15,[7,3,2]),(16,[204,7,3,2]),(17,[7,3,2]),(18,[217,7,3,2]),(19,[4]),(20,[9,8]),(21,[4])] [(6,[5,3,2]),(11,[6,3,2]),(16,[7,3,2])]),
 (14,Zay [] [] [] [] [(0,[2,1]),(1,[4])] []),
 (26,Zay [] [] [] [] [(0,[0]),(1,[2])] []),
 (12,Zay [] [] [] [] [(0,[8,4,3,2,1]),(1,[9,8,4,3]),(2,[11,10,9,8,3]),(3,[32,10,9,8,3]),(4,[9,8]),(5,[8])] []),
 (17,Zay [] [] [] [] [(0,[8,4,3,2,1]),(1,[9,8,4,3,2,1]),(2,[10,9,8,4,3,2,1]),(3,[28,10,9,8,4,3,2,1]),(4,[10,9,8,4,3,1]),(5,[10,9,8,4,1]),(6,[10,9,8,4,1]),(7,[41,10,9,8,4,1]),(8,[11,10,8,4]),(9,[47,11,10,8,4]),(10,[11,10,8,4]),(11,[10,8,4]),(12,[12,10,8,4]),(13,[59,12,10,8,4]),(14,[12,10,8,4]),(15,[12,10,8,4]),(16,[8])] [(13,[12,10,8,4])]),
 (11,Zay [] [] [] [] [(0,[3,2]),(1,[4])] []),
 (1000000,{})]
def ann:Nat->Ann:=ZcP {} ZB6
def ZAM:List (Nat×Bool):=[
 (10,true),
 (9,true),
 (18,true),
 (29,true),
 (1000000,false)]
def BY:Nat->Bool:=ZcP false ZAM
noncomputable def CF:Nat->Option Zae:=Zgv Try.prog ann
noncomputable def FC:Nat->Option Zae:=fun f=>(CF f).map Zhz
def Zwm:List (Nat×Option (List AVal->Za->Option (AVal×Za))):=[
 (21,some (ZcD 1 1)),
 (38,some (ZcD 5 72)),
 (31,some (Zgy)),
 (1000000,none)]
def PR:Zcn:=ZcP none Zwm
theorem xw (c d:Ze) (h:c=d) (m:Nat) (tm:Tms) (σ:Za):evC FC PR BY m c tm σ=evC FC PR BY m d tm σ:=by rw [h]
noncomputable abbrev E:ZW:=EV FC PR BY
theorem Zar {f:Nat} {fn:Zae} (hp:PR f=none) (hf:FC f=some fn) (args:List AVal) (σ:Za):E f args σ=ZaV σ.length fn (evC FC PR BY σ.length fn.body (enterA 0 args []) σ):=ZCz hp hf args σ
end
section
end
section
end
section
def ZeB:Ze:=(.seq (.region [oI 21 (.build [(.int .i64 0),(.int .i64 0),(.str []),(.str []),(.lst true [])] []),oN (.st 5 (.t 4) (.t 21)),oI 5 (.mov (.c (.bool false)))] none [5,4]) .ret)
def ZkN:Ze:=ZeB
def Zic:=xw ZkN ZeB rfl
def Ze8:Ze:=(.seq (.region [oI 11 (.bin .lss (.t 10) (.t 9))] none [11,10,9,8,4,0]) (.seq (.cond (.t 11) .skip (.exit 0)) (.seq (.block 1 (.seq (.region [oI 12 (.iaddr 5 (.t 8) (.t 10)),oI 13 (.ld (some 5) (.t 12)),oI 7 (.alloc [(.int .i64 0),(.int .i64 0),(.str []),(.str []),(.lst true [])]),oN (.st 5 (.t 7) (.t 13))] none [10,9,8,7,4,0]) (.seq (.region [oF 14 0 7,oL 15 14,oM 16 0,oI 17 (.bin .eql (.t 15) (.t 16))] none [17,10,9,8,7,4,0]) (.cond (.t 17) (.seq (.region [oI 18 (.ld (some 5) (.t 7)),oI 19 (.call 35 0 true [(.t 18)]),oN (.st 5 (.t 4) (.t 19)),oI 5 (.mov (.c (.bool true)))] none [5,4]) .ret) .skip)))) (.region [oI 20 (.bin .add (.t 10) (.c (.int .i64 1))),oM 10 20] none [10,9,8,4,0]))))
def Ztr:Ze:=Ze8
def Zio:=xw Ztr Ze8 rfl
def Ze0:Ze:=(.seq (.region [oI 4 (.alloc [(.int .i64 0),(.int .i64 0),(.str []),(.str []),(.lst true [])]),oI 5 (.mov (.c (.bool false)))] none [4,1,0]) (.seq (.seq (.region [oM 8 1,oI 9 (.len (.t 8)),oI 10 (.mov (.c (.int .i64 0)))] none [10,9,8,4,0]) (.block 0 (.loop [10,9,8,4,0] Ztr))) ZkN))
def ZhQ:Zae:=⟨[(.cell 4 (some 5)),(.tmp 5)],Ze0⟩
theorem Zzt:FC 23=some ZhQ:=by kernel_rfl
theorem Zis:ZhQ.body=Ze0:=rfl
theorem ZhI:ZhQ.res=[(.cell 4 (some 5)),(.tmp 5)]:=rfl
noncomputable def ZhC (m:Nat) (tm:Tms) (σ:Za):Option (AVal×Za):=(ZaV m ZhQ (Zbk FC PR BY m ZkN (Ws (Za2 0) (evL FC PR BY m [10,9,8,4,0] Ztr tm σ))))
def Zc4:Ze:=(.seq (.region [oM 24 5,oM 4 24] none [4]) .ret)
def Zrs:Ze:=Zc4
def Zeh:=xw Zrs Zc4 rfl
def Zc6:Ze:=(.seq (.region [oI 11 (.bin .lss (.t 10) (.t 9))] none [11,10,9,8,5,1]) (.seq (.cond (.t 11) .skip (.exit 0)) (.seq (.block 1 (.seq (.region [oI 12 (.iaddr 5 (.t 8) (.t 10)),oI 13 (.ld (some 5) (.t 12)),oI 7 (.alloc [(.int .i64 0),(.int .i64 0),(.str []),(.str []),(.lst true [])]),oN (.st 5 (.t 7) (.t 13))] none [10,9,8,7,5,1]) (.seq (.region [oM 14 1,oF 15 0 7,oL 16 15,oI 17 (.call 41 0 true [(.t 14),(.t 16)])] none [17,10,9,8,7,5,1]) (.cond (.t 17) (.region [oM 18 5,oI 19 (.ld (some 5) (.t 7)),oI 20 (.call 35 0 true [(.t 19)]),oI 21 (.bslice false 5 1 (.agg [(.int .i64 0),(.int .i64 0),(.str []),(.str []),(.lst true [])]) [(0,(.t 20))]),oI 22 (.app 5 72 (.agg [(.int .i64 0),(.int .i64 0),(.str []),(.str []),(.lst true [])]) (.t 18) (.t 21)),oM 5 22] none [10,9,8,5,1]) .skip)))) (.region [oI 23 (.bin .add (.t 10) (.c (.int .i64 1))),oM 10 23] none [10,9,8,5,1]))))
def ZmX:Ze:=Zc6
def Zd3:=xw ZmX Zc6 rfl
def Zdd:Ze:=(.seq (.region [oI 4 (.mov (.c (.lst true [])))] none [1,0]) (.seq (.region [oI 5 (.mov (.c (.lst true [])))] none [5,1,0]) (.seq (.seq (.region [oM 8 0,oI 9 (.len (.t 8)),oI 10 (.mov (.c (.int .i64 0)))] none [10,9,8,5,1]) (.block 0 (.loop [10,9,8,5,1] ZmX))) Zrs)))
def Zi0:Zae:=⟨[(.tmp 4)],Zdd⟩
theorem ZAv:FC 34=some Zi0:=by kernel_rfl
theorem Zej:Zi0.body=Zdd:=rfl
theorem ZdN:Zi0.res=[(.tmp 4)]:=rfl
noncomputable def ZfR (m:Nat) (tm:Tms) (σ:Za):Option (AVal×Za):=(ZaV m Zi0 (Zbk FC PR BY m Zrs (Ws (Za2 0) (evL FC PR BY m [10,9,8,5,1] ZmX tm σ))))
def Zm6:Ze:=(.seq (.region [oI 1 (.box (.t 0)),oI 2 (.alloc [(.int .i64 0),(.int .i64 0),(.str []),(.str []),(.lst true [])])] none [2,1]) (.seq (.region [oF 3 4 1,oL 4 3,oI 5 (.call 21 0 true [(.t 4)]),oF 6 4 1,oN (.st 1 (.t 6) (.t 5))] none [2,1]) (.seq (.region [oI 7 (.ld (some 5) (.t 1)),oN (.st 5 (.t 2) (.t 7))] none [2]) .ret)))
def ZmL:Zae:=⟨[(.cell 2 (some 5))],Zm6⟩
theorem Zz3:FC 35=some ZmL:=by kernel_rfl
theorem ZyG:ZmL.body=Zm6:=rfl
theorem Zy8:ZmL.res=[(.cell 2 (some 5))]:=rfl
def Zs9:Ze:=(.seq (.region [oI 2 (.box (.t 0)),oI 3 (.box (.t 1)),oI 4 (.mov (.c (.bool false)))] none [3,2]) (.seq (.region [oF 5 0 2,oL 6 5,oF 7 0 3,oL 8 7,oI 9 (.bin .eql (.t 6) (.t 8)),oM 10 9,⟨(some 11),(.faddr 1 (.t 2)),(some (10,true)),[]⟩,⟨(some 12),(.ld none (.t 11)),(some (10,true)),[]⟩,⟨(some 13),(.faddr 1 (.t 3)),(some (10,true)),[]⟩,⟨(some 14),(.ld none (.t 13)),(some (10,true)),[]⟩,⟨(some 15),(.bin .eql (.t 12) (.t 14)),(some (10,true)),[]⟩,oI 16 (.pick (.t 10) (.t 15) (.c (.bool false))),oM 17 16,⟨(some 18),(.faddr 2 (.t 2)),(some (17,true)),[]⟩,⟨(some 19),(.ld none (.t 18)),(some (17,true)),[]⟩,⟨(some 20),(.faddr 2 (.t 3)),(some (17,true)),[]⟩,⟨(some 21),(.ld none (.t 20)),(some (17,true)),[]⟩,⟨(some 22),(.bin .eql (.t 19) (.t 21)),(some (17,true)),[]⟩,oI 23 (.pick (.t 17) (.t 22) (.c (.bool false))),oM 24 23,⟨(some 25),(.faddr 3 (.t 2)),(some (24,true)),[]⟩,⟨(some 26),(.ld none (.t 25)),(some (24,true)),[]⟩,⟨(some 27),(.faddr 3 (.t 3)),(some (24,true)),[]⟩,⟨(some 28),(.ld none (.t 27)),(some (24,true)),[]⟩,⟨(some 29),(.bin .eql (.t 26) (.t 28)),(some (24,true)),[]⟩,oI 30 (.pick (.t 24) (.t 29) (.c (.bool false))),oM 31 30,⟨(some 32),(.faddr 4 (.t 2)),(some (31,true)),[]⟩,⟨(some 33),(.ld none (.t 32)),(some (31,true)),[]⟩,⟨(some 34),(.b2s (.t 33)),(some (31,true)),[]⟩,⟨(some 35),(.faddr 4 (.t 3)),(some (31,true)),[]⟩,⟨(some 36),(.ld none (.t 35)),(some (31,true)),[]⟩,⟨(some 37),(.b2s (.t 36)),(some (31,true)),[]⟩,⟨(some 38),(.bin .eql (.t 34) (.t 37)),(some (31,true)),[]⟩,oI 39 (.pick (.t 31) (.t 38) (.c (.bool false))),oM 4 39] none [4]) .ret))
def Zjd:Zae:=⟨[(.tmp 4)],Zs9⟩
theorem ZAr:FC 36=some Zjd:=by kernel_rfl
theorem ZyH:Zjd.body=Zs9:=rfl
theorem ZAc:Zjd.res=[(.tmp 4)]:=rfl
def Ze4:Ze:=(.seq (.region [oI 24 (.build [(.int .i64 0),(.int .i64 0),(.str []),(.str []),(.lst true [])] []),oN (.st 5 (.t 4) (.t 24)),oI 5 (.mov (.c (.bool false)))] none [5,4]) .ret)
def ZpO:Ze:=Ze4
def Ziu:=xw ZpO Ze4 rfl
def ZeZ:Ze:=(.seq (.seq (.region [oM 7 6,oM 8 1,oI 9 (.len (.t 8)),oI 10 (.bin .lss (.t 7) (.t 9))] none [10,6,4,1,0]) (.cond (.t 10) .skip (.exit 0))) (.seq (.block 1 (.seq (.region [oM 13 1,oM 14 6,oI 15 (.iaddr 5 (.t 13) (.t 14)),oF 16 0 15,oL 17 16,oM 18 0,oI 19 (.bin .eql (.t 17) (.t 18))] none [19,6,4,1,0]) (.cond (.t 19) (.seq (.region [oM 20 1,oM 21 6,oI 22 (.iaddr 5 (.t 20) (.t 21)),oI 23 (.ld (some 5) (.t 22)),oN (.st 5 (.t 4) (.t 23)),oI 5 (.mov (.c (.bool true)))] none [5,4]) .ret) .skip))) (.region [oM 11 6,oI 12 (.bin .add (.t 11) (.c (.int .i64 1))),oM 6 12] none [6,4,1,0])))
def Zl0:Ze:=ZeZ
def Zh4:=xw Zl0 ZeZ rfl
def Zet:Ze:=(.seq (.region [oI 4 (.alloc [(.int .i64 0),(.int .i64 0),(.str []),(.str []),(.lst true [])]),oI 5 (.mov (.c (.bool false)))] none [4,1,0]) (.seq (.seq (.region [oI 6 (.mov (.c (.int .i64 0)))] none [6,4,1,0]) (.block 0 (.loop [6,4,1,0] Zl0))) ZpO))
def Zh8:Zae:=⟨[(.cell 4 (some 5)),(.tmp 5)],Zet⟩
theorem Zyl:FC 27=some Zh8:=by kernel_rfl
theorem Zi1:Zh8.body=Zet:=rfl
theorem ZgZ:Zh8.res=[(.cell 4 (some 5)),(.tmp 5)]:=rfl
noncomputable def Zim (m:Nat) (tm:Tms) (σ:Za):Option (AVal×Za):=(ZaV m Zh8 (Zbk FC PR BY m ZpO (Ws (Za2 0) (evL FC PR BY m [6,4,1,0] Zl0 tm σ))))
def Zc7:Ze:=(.seq (.region [oM 27 5,oM 4 27] none [4]) .ret)
def Zkf:Ze:=Zc7
def Zem:=xw Zkf Zc7 rfl
def Zc9:Ze:=(.seq (.seq (.region [oM 7 6,oM 8 0,oI 9 (.len (.t 8)),oI 10 (.bin .lss (.t 7) (.t 9))] none [10,6,5,1,0]) (.cond (.t 10) .skip (.exit 0))) (.seq (.block 1 (.seq (.region [oM 13 0,oM 14 6,oI 15 (.iaddr 5 (.t 13) (.t 14)),oF 16 0 15,oL 17 16,oM 18 1,oI 19 (.call 42 0 true [(.t 17),(.t 18)])] none [19,6,5,1,0]) (.cond (.t 19) (.region [oM 20 5,oM 21 0,oM 22 6,oI 23 (.iaddr 5 (.t 21) (.t 22)),oI 24 (.ld (some 5) (.t 23)),oI 25 (.bslice false 5 1 (.agg [(.int .i64 0),(.int .i64 0),(.str []),(.str []),(.lst true [])]) [(0,(.t 24))]),oI 26 (.app 5 72 (.agg [(.int .i64 0),(.int .i64 0),(.str []),(.str []),(.lst true [])]) (.t 20) (.t 25)),oM 5 26] none [6,5,1,0]) .skip))) (.region [oM 11 6,oI 12 (.bin .add (.t 11) (.c (.int .i64 1))),oM 6 12] none [6,5,1,0])))
def ZlH:Ze:=Zc9
def Zd0:=xw ZlH Zc9 rfl
def Zdf:Ze:=(.seq (.region [oI 4 (.mov (.c (.lst true [])))] none [1,0]) (.seq (.region [oI 5 (.mov (.c (.lst true [])))] none [5,1,0]) (.seq (.seq (.region [oI 6 (.mov (.c (.int .i64 0)))] none [6,5,1,0]) (.block 0 (.loop [6,5,1,0] ZlH))) Zkf)))
def Zh0:Zae:=⟨[(.tmp 4)],Zdf⟩
theorem Zxi:FC 37=some Zh0:=by kernel_rfl
theorem Zd7:Zh0.body=Zdf:=rfl
theorem ZdP:Zh0.res=[(.tmp 4)]:=rfl
noncomputable def Zf0 (m:Nat) (tm:Tms) (σ:Za):Option (AVal×Za):=(ZaV m Zh0 (Zbk FC PR BY m Zkf (Ws (Za2 0) (evL FC PR BY m [6,5,1,0] ZlH tm σ))))
def ZeV:Ze:=(.seq (.region [oI 4 (.mov (.c (.bool true)))] none [4]) .ret)
def ZkM:Ze:=ZeV
def ZhE:=xw ZkM ZeV rfl
def Zfa:Ze:=(.seq (.seq (.region [oM 11 5,oM 12 0,oI 13 (.len (.t 12)),oI 14 (.bin .lss (.t 11) (.t 13))] none [14,5,1,0]) (.cond (.t 14) .skip (.exit 0))) (.seq (.block 1 (.seq (.region [oM 17 0,oM 18 5,oI 19 (.iaddr 5 (.t 17) (.t 18)),oI 20 (.ld (some 5) (.t 19)),oM 21 1,oM 22 5,oI 23 (.iaddr 5 (.t 21) (.t 22)),oI 24 (.ld (some 5) (.t 23)),oI 25 (.call 36 0 true [(.t 20),(.t 24)]),oI 26 (.un .not (.t 25))] (some [(2,6),(3,6),(2,7),(3,7),(8,8)]) [26,5,1,0]) (.cond (.t 26) (.seq (.region [oI 4 (.mov (.c (.bool false)))] none [4]) .ret) .skip))) (.region [oM 15 5,oI 16 (.bin .add (.t 15) (.c (.int .i64 1))),oM 5 16] none [5,1,0])))
def Zm4:Ze:=Zfa
def Zh6:=xw Zm4 Zfa rfl
def Zfi:Ze:=(.seq (.region [oI 4 (.mov (.c (.bool false)))] none [1,0]) (.seq (.seq (.region [oM 6 0,oI 7 (.len (.t 6)),oM 8 1,oI 9 (.len (.t 8)),oI 10 (.bin .neq (.t 7) (.t 9))] none [10,1,0]) (.cond (.t 10) (.seq (.region [oI 4 (.mov (.c (.bool false)))] none [4]) .ret) .skip)) (.seq (.seq (.region [oI 5 (.mov (.c (.int .i64 0)))] none [5,1,0]) (.block 0 (.loop [5,1,0] Zm4))) ZkM)))
def ZgY:Zae:=⟨[(.tmp 4)],Zfi⟩
theorem ZxU:FC 25=some ZgY:=by kernel_rfl
theorem Zhc:ZgY.body=Zfi:=rfl
theorem Ziv:ZgY.res=[(.tmp 4)]:=rfl
noncomputable def ZiR (m:Nat) (tm:Tms) (σ:Za):Option (AVal×Za):=(ZaV m ZgY (Zbk FC PR BY m ZkM (Ws (Za2 0) (evL FC PR BY m [5,1,0] Zm4 tm σ))))
def Ze1:Ze:=(.seq (.region [oI 4 (.mov (.c (.bool false)))] none [4]) .ret)
def Zjb:Ze:=Ze1
def ZiH:=xw Zjb Ze1 rfl
def Zev:Ze:=(.seq (.seq (.region [oM 6 5,oM 7 1,oI 8 (.len (.t 7)),oI 9 (.bin .lss (.t 6) (.t 8))] none [9,5,1,0]) (.cond (.t 9) .skip (.exit 0))) (.seq (.block 1 (.seq (.region [oM 12 1,oM 13 5,oI 14 (.iaddr 1 (.t 12) (.t 13)),oL 15 14,oM 16 0,oI 17 (.bin .eql (.t 15) (.t 16))] none [17,5,1,0]) (.cond (.t 17) (.seq (.region [oI 4 (.mov (.c (.bool true)))] none [4]) .ret) .skip))) (.region [oM 10 5,oI 11 (.bin .add (.t 10) (.c (.int .i64 1))),oM 5 11] none [5,1,0])))
def Zpx:Ze:=Zev
def Zin:=xw Zpx Zev rfl
def Zfp:Ze:=(.seq (.region [oI 4 (.mov (.c (.bool false)))] none [1,0]) (.seq (.seq (.region [oI 5 (.mov (.c (.int .i64 0)))] none [5,1,0]) (.block 0 (.loop [5,1,0] Zpx))) Zjb))
def Zg3:Zae:=⟨[(.tmp 4)],Zfp⟩
theorem Zzy:FC 42=some Zg3:=by kernel_rfl
theorem ZiM:Zg3.body=Zfp:=rfl
theorem ZiG:Zg3.res=[(.tmp 4)]:=rfl
noncomputable def ZiA (m:Nat) (tm:Tms) (σ:Za):Option (AVal×Za):=(ZaV m Zg3 (Zbk FC PR BY m Zjb (Ws (Za2 0) (evL FC PR BY m [5,1,0] Zpx tm σ))))
end
section
open Go.RowKit
inductive Ty where
 | bool
 | int (k:IntKind)
 | str
 | slice (s:Bool) (e:Ty)
 | struct (fs:List Ty)
 deriving Inhabited
def Zch:Option TypeDesc->Bool
 | some (.struct _)=>true
 | some (.array _ _)=>true
 | _=>false
def ZfP (P:Program):Nat->List Field->Nat->Bool
 | at',[],n=>at' == n
 | at',f::fs,n=>f.offset == at' && ZfP P (at'+P.cellsOf f.type) fs n
def Zb5 (P:Program):Nat->TypeId->Option Ty
 | 0,_=>none
 | n+1,t=>match P.underlying t with
  | some .bool=>some .bool
  | some (.int k)=>some (.int k)
  | some .string=>some .str
  | some (.slice e)=>if 0 < P.cellsOf e then (Zb5 P n e).map (.slice (Zch (P.underlying e))) else none
  | some (.struct fs)=>if ZfP P 0 fs.toList (P.cellsOf t) then (fs.toList.mapM fun f=>Zb5 P n f.type).map .struct else none
  | _=>none
def Zbp (s:Bool) (y:List AVal):AVal:=if s then .agg y else y.headD .nilp
def Imm.of (w:World):Imm:=fun b o=>w.cell? ⟨b,o,none⟩
section
variable {H:Type} {enc:TypeId×Value->H} {P:Program} {w:World} {spare:Nat->Bool} {held:Bool}
theorem ZzV {b off:Nat} {s:Option Nat} {u:Value} (h:w.cell? ⟨b,off,s⟩=some u):s=none:=by
 unfold World.cell? at h
 split at h
 ·rcases s with _ | s
  ·rfl
  ·simp at h
 ·cases h
theorem ZA0 {s:Bool} {y:List AVal} (h:s=false->y.length=1) (h1:s=false->∀ x ∈ y,ZT x=true):(Zbp s y).cells=y:=by
 cases s with
 | true=>rfl
 | false =>
  match y,h rfl with
  | [x],_ =>
   have:=h1 rfl x (by simp)
   cases x <;> simp_all [Zbp,AVal.cells,ZT]
theorem ZBn {a:Addr} (h:a.spot=none) (n:Nat):a.add n=⟨a.block,a.off+n,none⟩:=by
 unfold Addr.add
 split
 ·rename_i e;subst e;cases a;simp_all
 ·rfl
theorem ZB5 {I:Imm} {β:Bmap} {xs:List AVal} {vs:List Value} {n:Nat} (h:VRs I β xs (vs.take n)) {ys:List AVal} (h':VRs I β ys (vs.drop n)):VRs I β (xs++ys) vs:=by
 have:=ZbK h h'
 rwa [List.take_append_drop] at this
theorem ZwM {α β:Type} {f:α->Option β} {a:α} {l:List α} {r:List β} (h:(a::l).mapM f=some r):∃ b r',f a=some b/\l.mapM f=some r'/\r=b::r':=by
 rw [XaN] at h
 simp only [Option.bind_eq_bind,Option.bind_eq_some_iff,Option.pure_def,Xa] at h
 obtain ⟨b,h1,r',h2,h3⟩:=h
 exact ⟨b,r',h1,h2,h3.symm⟩
theorem ZCf {a b:List AVal} (ha:Zal a=true) (hb:Zal b=true):Zal (a++b)=true:=by
 induction a with
 | nil=>exact hb
 | cons x a ih=>simp only [Wf,Zal,Xp] at ha ⊢;exact ⟨ha.1,ih ha.2⟩
theorem Zv4 {I:Imm} {β:Bmap} {s:Bool} {k b:Nat}:∀ (n off:Nat) (Y:Nat->List AVal),(∀ i,i < n->(Zbp s (Y i)).cells.length=k/\CR I β (Zbp s (Y i)).cells b (off+i*k))->LR I β k ((WO n).map fun i=>Zbp s (Y i)) b off
 | 0,off,Y,_=>by simp [LR]
 | n+1,off,Y,h=>by
  rw [List.range_succ_eq_map,Xv,Zec]
  have h0:=h 0 (by omega)
  simp only [Nat.zero_mul,X9] at h0
  refine ⟨h0,?_⟩
  rw [Xaw]
  exact Zv4 n (off+k) (fun i=>Y (i+1)) (fun i hi=>by
   have:=h (i+1) (by omega)
   rw [show off+k+i*k=off+(i+1)*k by rw [Nat.succ_mul];omega]
   exact this)
theorem ZuQ {I:Imm} {β:Bmap} {b:Nat}:∀ (xs:List AVal) (cs:List Value) (off:Nat),VRs I β xs cs->(∀ i,i < cs.length->I b (off+i)=cs[i]?)->CR I β xs b off
 | [],_,_,_,_=>by simp only [CR]
 | x::xs,cs,off,h,hI=>by
  simp only [VRs] at h
  obtain ⟨v,vs',rfl,h1,h2⟩:=h
  simp only [CR]
  refine ⟨⟨v,by have:=hI 0 (by simp);simpa using this,h1⟩,ZuQ xs vs' (off+1) h2 fun i hi=>?_⟩
  have:=hI (i+1) (by simp;omega)
  rw [show off+1+i=off+(i+1) by omega,this]
  simp
theorem Ztn {s:Bool}:∀ (n:Nat) (Y:Nat->List AVal),(∀ i,i < n->Zal (Zbp s (Y i)).cells=true)->Z4 ((WO n).map fun i=>Zbp s (Y i))=true
 | 0,Y,_=>by simp [Z4]
 | n+1,Y,h=>by
  rw [List.range_succ_eq_map,Xv,Zwg,h 0 (by omega),Xaw]
  simp only [XaD]
  exact Ztn n (fun i=>Y (i+1)) (fun i hi=>h (i+1) (by omega))
theorem Zvh {xs:List AVal} (h:Zal xs=true):∀ x ∈ xs,ZT x=true:=by
 induction xs with
 | nil=>intro x hx;simp at hx
 | cons y ys ih =>
  simp only [Zal,Xp] at h
  intro x hx
  rcases XR.1 hx with rfl | hx
  ·cases x <;> simp_all [Zat,ZT]
  ·exact ih h.2 x hx
theorem Rel.start (w:World) (hG:Gl.le (Imm.of w)):Rel (fun b=>b < w.heap.size) w (Imm.of w) (Imm.of w) B0 [] w where
 below:=KB.refl _ w
 old:=fun _ _ _=>rfl
 imm:=fun _ _ _ h=>h
 blk:=fun t x h=>by simp at h
 own:=fun t x b h=>by simp at h
 apart:=fun t x t' x' b h=>by simp at h
 fresh:=fun _ _ _=>rfl
 free:=fun t g h=>by simp at h
 gen:=fun t b g h=>by simp at h
 glob:=hG
theorem ZzL {O:ZW} (hO:Zao P O) {f:Nat} {args:List AVal} {vs:Array Value} {σ':Za} (hG:Gl.le (Imm.of w)) (hargs:VRs (Imm.of w) B0 args vs.toList) (h:O f args []=some (.bool true,σ')) :
  Calls P f vs w (fun e w'=>e=.returned (.bool true)/\Below w.heap.size w w'):=by
 refine ((hO f args [] _ _ h).2 _ w _ _ B0 w vs (fun b hb=>hb) (Rel.start w hG) hargs).mono ?_
 rintro e w' ⟨u,he,I',β',_,_,R,hv⟩
 simp only [ZaA,VR] at hv
 subst hv
 exact ⟨he,R.below.os,R.below.tape,R.below.output,R.below.size,R.below.block⟩
end
end
section
open Go.RowKit
theorem ZjK (id:Nat) (tm:Tms) (σ:Za):Za2 id (.normal,tm,σ)=(.normal,tm,σ):=rfl
theorem ZnD (id i:Nat) (tm:Tms) (σ:Za):Za2 id (.exit i,tm,σ)=if i=id then (.normal,tm,σ) else (.exit i,tm,σ):=by simp only [Za2]
theorem Zqt (id:Nat) (tm:Tms) (σ:Za):Za2 id (.ret,tm,σ)=(.ret,tm,σ):=rfl
theorem ZqA (id:Nat) (x:AVal) (tm:Tms) (σ:Za):Za2 id (.panic x,tm,σ)=(.panic x,tm,σ):=rfl
section
variable (O:ZW) (bf:Nat->Bool)
def Zcr (c:Cls):Option (Tms×Za×List Cls×Option AVal)->Option (Tms×Za×List Cls×Option AVal)
 | none=>none
 | some (tm,σ,cs,p)=>some (tm,σ,c::cs,p)
def ZdY (c:List Cls):Option (Tms×Za×List Cls×Option AVal)->Option (Tms×Za×List Cls×Option AVal)
 | none=>none
 | some (tm,σ,cs,p)=>some (tm,σ,c++cs,p)
def kC (d:Option Nat) (os:List AOp) (s:Nat) (tm:Tms):Option (AVal×Za×Cls)->Option (Tms×Za×List Cls×Option AVal)
 | none=>none
 | some (v,σ,c)=>if Zau v then some (tput tm d v,σ,[c],some (ZaA v)) else Zcr c (ZY O bf os s (tput tm d v) σ)
def ZcA (ops:List AOp) (L:Nat) (l:List (Nat×Nat)) (live:List Nat):Option (Tms×Za×List Cls×Option AVal)->Option (Zax×Tms×Za)
 | none=>none
 | some (_,σ,cs,some x)=>if ZaO ops L l cs then some (.panic x,[],σ) else none
 | some (tm,σ,cs,none)=>if Zb6 ops L l cs then some (.normal,keepL live tm,σ) else none
variable {O bf}
theorem Zip (s:Nat) (tm:Tms) (σ:Za):ZY O bf [] s tm σ=some (tm,σ,[],none):=rfl
theorem ZsC (c:Cls) (tm:Tms) (σ:Za) (cs:List Cls) (p:Option AVal):Zcr c (some (tm,σ,cs,p))=some (tm,σ,c::cs,p):=rfl
theorem Zmn (c:Cls):Zcr c none=none:=rfl
theorem ZjT (c:Cls) (q:Prop) [Decidable q] (x y:Option (Tms×Za×List Cls×Option AVal)):Zcr c (if q then x else y)=if q then Zcr c x else Zcr c y:=by split <;> rfl
theorem Zqj (c:List Cls) (tm:Tms) (σ:Za) (cs:List Cls) (p:Option AVal):ZdY c (some (tm,σ,cs,p))=some (tm,σ,c++cs,p):=rfl
theorem Zpr (c:List Cls):ZdY c none=none:=rfl
theorem Zoi (c:List Cls) (q:Prop) [Decidable q] (x y:Option (Tms×Za×List Cls×Option AVal)):ZdY c (if q then x else y)=if q then ZdY c x else ZdY c y:=by split <;> rfl
theorem ZhD {o:AOp} {os:List AOp} {s:Nat} {tm tm1:Tms} {σ σ1:Za} {v:AVal} {c:Cls} (h:ZR O bf o s tm σ=some (v,tm1,σ1,c)) (hn:Zau v=false):ZY O bf (o::os) s tm σ=Zcr c (ZY O bf os (s+nsite o.ins) tm1 σ1):=by
 rw [ZvQ h hn]
 cases ZY O bf os (s+nsite o.ins) tm1 σ1 <;> rfl
theorem ZfU (d:Option Nat) (i:Ins) (af:List Nat) (os:List AOp) (s:Nat) (tm:Tms) (σ:Za):ZY O bf (⟨d,i,none,af⟩::os) s tm σ=kC O bf d os (s+nsite i) tm (exI O bf i s tm σ):=by
 cases h:exI O bf i s tm σ with
 | none=>exact Zgi (by rw [Zig,h];rfl)
 | some q =>
  obtain ⟨v,σ1,c⟩:=q
  have hs:ZR O bf ⟨d,i,none,af⟩ s tm σ=some (v,tput tm d v,σ1,c):=by rw [Zig,h];rfl
  cases hp:Zau v with
  | true =>
   obtain ⟨x,rfl⟩:=Zhb hp
   exact ZhO hs
  | false =>
   rw [ZhD hs hp]
   simp only [kC,hp,Xt,if_false]
theorem ZgU (d:Option Nat) (os:List AOp) (s:Nat) (tm:Tms) (v:AVal) (σ:Za) (c:Cls) (h:Zau v=false):kC O bf d os s tm (some (v,σ,c))=Zcr c (ZY O bf os s (tput tm d v) σ):=by
 simp only [kC,h,Xt,if_false]
theorem Zm0 (d:Option Nat) (os:List AOp) (s:Nat) (tm:Tms) (x:AVal) (σ:Za) (c:Cls):kC O bf d os s tm (some (.pan x,σ,c))=some (tput tm d (.pan x),σ,[c],some x):=rfl
theorem Zl4 (d:Option Nat) (os:List AOp) (s:Nat) (tm:Tms):kC O bf d os s tm none=none:=rfl
theorem Zjp (d:Option Nat) (os:List AOp) (s:Nat) (tm:Tms) (q:Prop) [Decidable q] (x y:Option (AVal×Za×Cls)):kC O bf d os s tm (if q then x else y)=if q then kC O bf d os s tm x else kC O bf d os s tm y:=by split <;> rfl
theorem Zaa (ops:List AOp) (l:List (Nat×Nat)) (live:List Nat) (tm:Tms) (σ:Za):Zbl O bf ops (some l) live tm σ=ZcA ops σ.length l live (ZY O bf ops σ.length tm (σ++XI (sitesOf ops) .free)):=by
 unfold Zbl
 cases ZY O bf ops σ.length tm (σ++XI (sitesOf ops) .free) with
 | none=>rfl
 | some q =>
  obtain ⟨tm',σ',cs,p⟩:=q
  cases p <;> rfl
theorem Z6 (ops:List AOp) (L:Nat) (l:List (Nat×Nat)) (live:List Nat) (tm:Tms) (σ:Za) (cs:List Cls) (h:Zb6 ops L l cs=true):ZcA ops L l live (some (tm,σ,cs,none))=some (.normal,keepL live tm,σ):=by
 simp only [ZcA,h,if_true]
theorem Za8 (ops:List AOp) (L:Nat) (l:List (Nat×Nat)) (live:List Nat) (tm:Tms) (σ:Za) (cs:List Cls) (x:AVal) (h:ZaO ops L l cs=true):ZcA ops L l live (some (tm,σ,cs,some x))=some (.panic x,[],σ):=by
 simp only [ZcA,h,if_true]
theorem Zom (ops:List AOp) (L:Nat) (l:List (Nat×Nat)) (live:List Nat):ZcA ops L l live none=none:=rfl
theorem ZjI (ops:List AOp) (L:Nat) (l:List (Nat×Nat)) (live:List Nat) (q:Prop) [Decidable q] (x y:Option (Tms×Za×List Cls×Option AVal)):ZcA ops L l live (if q then x else y)=if q then ZcA ops L l live x else ZcA ops L l live y:=by split <;> rfl
theorem ZAW (ops:List AOp) (L:Nat) (l:List (Nat×Nat)) (cs:List Cls) (h:(cs.all fun c=>c.wr.isEmpty && !c.any)=true) (hs:(l.all fun p=>p.1 == p.2 || nsite (ops.getD p.1 default).ins == 0)=true):Zb6 ops L l cs=true:=by
 have hd:∀ i,Zce (cs.getD i {})=true:=by
  intro i
  rw [XD] at h
  rw [Xq]
  cases hi:cs[i]? with
  | none=>rfl
  | some c=>exact h c (XF hi)
 unfold Zb6
 rw [XD] at hs ⊢
 intro p hp
 have:=hs p hp
 rw [WF] at this ⊢
 rcases this with this | this
 ·exact Xz this
 ·refine XG ?_
  unfold ZbL
  simp only [hd,this,Bool.and_true,XaD,WN,XaL]
theorem Zkx (ops:List AOp) (L:Nat) (l:List (Nat×Nat)) (live:List Nat) (tm:Tms) (σ:Za) (cs:List Cls) (h:(cs.all fun c=>c.wr.isEmpty && !c.any)=true) (hs:(l.all fun p=>p.1 == p.2 || nsite (ops.getD p.1 default).ins == 0)=true):ZcA ops L l live (some (tm,σ,cs,none))=some (.normal,keepL live tm,σ) :=
 Z6 _ _ _ _ _ _ _ (ZAW _ _ _ _ h hs)
variable (O bf) in
def gKC (os:List AOp) (s:Nat):Option (Tms×Za×List Cls×Option AVal)->Option (Tms×Za×List Cls×Option AVal)
 | none=>none
 | some (tm,σ,cs,some x)=>some (tm,σ,cs,some x)
 | some (tm,σ,cs,none)=>ZdY cs (ZY O bf os s tm σ)
theorem Zon (os:List AOp) (s:Nat) (tm:Tms) (σ:Za) (cs:List Cls):gKC O bf os s (some (tm,σ,cs,none))=ZdY cs (ZY O bf os s tm σ):=rfl
theorem Zj5 (os:List AOp) (s:Nat) (q:Prop) [Decidable q] (x y:Option (Tms×Za×List Cls×Option AVal)):gKC O bf os s (if q then x else y)=if q then gKC O bf os s x else gKC O bf os s y:=by split <;> rfl
theorem ZAB (os:List AOp) (s:Nat) (c:Cls) (r:Option (Tms×Za×List Cls×Option AVal)):gKC O bf os s (Zcr c r)=Zcr c (gKC O bf os s r):=by
 cases r with
 | none=>rfl
 | some q =>
  obtain ⟨tm,σ,cs,p⟩:=q
  cases p with
  | some x=>rfl
  | none =>
   simp only [Zcr,gKC]
   cases ZY O bf os s tm σ <;> rfl
theorem Zvp:∀ (a b:List AOp) (s:Nat) (tm:Tms) (σ:Za),ZY O bf (a++b) s tm σ=gKC O bf b (s+sitesOf a) (ZY O bf a s tm σ)
 | [],b,s,tm,σ=>by
  simp only [X7,Zip,gKC,sitesOf,List.map_nil,List.sum_nil,X9]
  cases ZY O bf b s tm σ <;> rfl
 | o::a,b,s,tm,σ=>by
  have ih:=Zvp a b
  simp only [Wf]
  have hs:s+nsite o.ins+sitesOf a=s+sitesOf (o::a):=by simp [sitesOf,We]
  cases hst:ZR O bf o s tm σ with
  | none=>rw [Zgi hst,Zgi hst];rfl
  | some q =>
   obtain ⟨v,tm1,σ1,c⟩:=q
   cases hp:Zau v with
   | true =>
    obtain ⟨x,rfl⟩:=Zhb hp
    rw [ZhO hst,ZhO hst];rfl
   | false=>rw [ZhD hst hp,ZhD hst hp,ih,hs,ZAB]
variable (O bf) in
def ZcL (j:Nat) (w:Bool) (g:List AOp) (s:Nat) (tm:Tms) (σ:Za):Option (Tms×Za×List Cls×Option AVal):=match Za1 (some (j,w)) tm with
 | none=>none
 | some false=>some (ZC g tm,σ,g.map fun _=>{},none)
 | some true=>ZY O bf (g.map unG) s tm σ
theorem Zws (j:Nat) (w:Bool):∀ (g:List AOp),(∀ o ∈ g,o.guard=some (j,w)/\o.dst≠some j)->∀ (s:Nat) (tm:Tms) (σ:Za),g≠[]->ZY O bf g s tm σ=ZcL O bf j w g s tm σ
 | [],_,_,_,_,h=>absurd rfl h
 | o::g,hall,s,tm,σ,_=>by
  obtain ⟨hg,hd⟩:=hall o (by simp)
  have ih:∀ (tm:Tms) (σ:Za) (s:Nat),Za1 (some (j,w)) tm≠none->ZY O bf g s tm σ=ZcL O bf j w g s tm σ:=by
   intro tm σ s hw
   by_cases he:g=[]
   ·subst he
    unfold ZcL
    cases hx:Za1 (some (j,w)) tm with
    | none=>exact absurd hx hw
    | some b=>cases b <;> rfl
   ·exact Zws j w g (fun o ho=>hall o (by simp [ho])) s tm σ he
  cases hx:Za1 (some (j,w)) tm with
  | none =>
   rw [Zgi (by simp only [ZR,hg,hx])]
   simp only [ZcL,hx]
  | some b =>
   cases b with
   | false =>
    have h1:ZY O bf (o::g) s tm σ=Zcr {} (ZY O bf g (s+nsite o.ins) (tput tm o.dst (.tup [])) σ) :=
     ZhD (v:=.tup []) (c:={}) (by simp only [ZR,hg,hx]) rfl
    rw [h1,ih _ _ _ (by rw [Zdr hd,hx];simp)]
    unfold ZcL
    rw [Zdr hd,hx]
    rfl
   | true =>
    have key:∀ r:Option (AVal×Za×Cls),(∀ v σ' c,r=some (v,σ',c)->Zau v=false->ZY O bf g (s+nsite o.ins) (tput tm o.dst v) σ'=ZY O bf (g.map unG) (s+nsite o.ins) (tput tm o.dst v) σ')->kC O bf o.dst g (s+nsite o.ins) tm r=kC O bf o.dst (g.map unG) (s+nsite o.ins) tm r:=by
     intro r hr
     cases r with
     | none=>rfl
     | some q =>
      obtain ⟨v,σ',c⟩:=q
      cases hp:Zau v with
      | true=>simp only [kC,hp,if_true]
      | false=>rw [ZgU _ _ _ _ _ _ _ hp,ZgU _ _ _ _ _ _ _ hp,hr v σ' c rfl hp]
    have h1:ZY O bf (o::g) s tm σ=kC O bf o.dst g (s+nsite o.ins) tm (exI O bf o.ins s tm σ):=by
     have h0:ZY O bf (o::g) s tm σ=ZY O bf (⟨o.dst,o.ins,none,o.after⟩::g) s tm σ:=by
      have hst:ZR O bf o s tm σ=ZR O bf ⟨o.dst,o.ins,none,o.after⟩ s tm σ:=by
       unfold ZR
       simp only [hg,hx]
       rfl
      simp only [ZY,hst]
     rw [h0,ZfU]
    rw [h1]
    unfold ZcL
    rw [hx]
    simp only [Xv]
    rw [show unG o=⟨o.dst,o.ins,none,o.after⟩ from rfl,ZfU]
    refine key _ fun v σ' c _ _=>?_
    rw [ih _ _ _ (by rw [Zdr hd,hx];simp)]
    unfold ZcL
    rw [Zdr hd,hx]
theorem Zlr (d:Option Nat) (i:Ins) (j:Nat) (w:Bool) (af:List Nat) (os:List AOp) (s:Nat) (tm:Tms) (σ:Za) (hd:decide (d=some j)=false) :
  ZY O bf (⟨d,i,some (j,w),af⟩::os) s tm σ=gKC O bf (Zt j w os).2 (s+sitesOf (⟨d,i,some (j,w),af⟩::(Zt j w os).1)) (ZcL O bf j w (⟨d,i,some (j,w),af⟩::(Zt j w os).1) s tm σ):=by
 have h:=Zq5 j w os
 have hall:∀ o ∈ (⟨d,i,some (j,w),af⟩::(Zt j w os).1:List AOp),o.guard=some (j,w)/\o.dst≠some j:=by
  intro o ho
  rcases XR.1 ho with rfl | ho
  ·exact ⟨rfl,by simpa using hd⟩
  ·exact Zo1 j w os o ho
 rw [<-Zws j w _ hall s tm σ (by simp),<-Zvp,Wf,h]
variable (O bf) in
def gWC (w:Bool) (g:List AOp) (s:Nat) (tm:Tms) (σ:Za):AVal->Option (Tms×Za×List Cls×Option AVal)
 | .bool b=>if b=w then ZY O bf (g.map unG) s tm σ else some (ZC g tm,σ,g.map fun _=>{},none)
 | .tup []=>some (ZC g tm,σ,g.map fun _=>{},none)
 | _=>none
theorem ZrT (j:Nat) (w:Bool) (g:List AOp) (s:Nat) (tm:Tms) (σ:Za):ZcL O bf j w g s tm σ=gWC O bf w g s tm σ (tget tm j):=by
 unfold ZcL Za1
 simp only
 generalize tget tm j=v
 cases v
 case bool b=>cases b <;> cases w <;> rfl
 case tup vs=>cases vs <;> rfl
 all_goals rfl
theorem Zqz (w:Bool) (g:List AOp) (s:Nat) (tm:Tms) (σ:Za) (b:Bool):gWC O bf w g s tm σ (.bool b)=if b=w then ZY O bf (g.map unG) s tm σ else some (ZC g tm,σ,g.map fun _=>{},none):=rfl
theorem Zmw (w:Bool) (g:List AOp) (s:Nat) (tm:Tms) (σ:Za):gWC O bf w g s tm σ (.tup [])=some (ZC g tm,σ,g.map fun _=>{},none):=rfl
theorem Zqw (q:Prop) [Decidable q] (t1 t2:Tms) (σ1 σ2:Za) (cs:List Cls):(if q then some (t1,σ1,cs,(none:Option AVal)) else some (t2,σ2,cs,none))=some ((if q then t1 else t2),(if q then σ1 else σ2),cs,none):=by split <;> rfl
end
section
theorem ZCg {r:AVal} {cs:List AVal} {σ:Za} (hr:ZaB r=true) (hc:Zu cs=true):gcA 1 [r] (.var cs::σ)=([r],[.var cs]):=by
 have e1:=(Zgd (Zf (.var cs::σ) 1 [0]) r hr)
 have e2:=(ZfY (Zf (.var cs::σ) 1 [0]) cs hc)
 have h1:Zn 1 [r] (.var cs::σ)=[0]:=by
  have : ZX [r]=[]:=by simp only [ZX,e1.2,X0]
  simp only [Zn,this,X7,List.range_one,List.flatMap_cons,Xaz,X0,Xi,Zp,e2.2]
  rfl
 simp only [gcA,h1,ZU,e1.1,Zh,Xi,Zm,Zd,Zi,e2.1]
theorem ZrN {r:AVal} {cs:List AVal} {σ:Za} (hr:ZaB r=true) (hc:Zu cs=true):ZaP 1 (.var cs::σ) r=some (r,[.var cs]):=by
 simp only [ZaP,ZCg hr hc]
end
end
section
section
variable (c:Prop) [Decidable c]
theorem Zm8 (t1 t2:Tms) (σ1 σ2:Za):(if c then some (Zax.normal,t1,σ1) else some (Zax.normal,t2,σ2))=some (Zax.normal,(if c then t1 else t2),(if c then σ1 else σ2)):=by split <;> rfl
theorem Ztc (t1 t2:Tms) (σ1 σ2:Za):(if c then some (Zax.ret,t1,σ1) else some (Zax.ret,t2,σ2))=some (Zax.ret,(if c then t1 else t2),(if c then σ1 else σ2)):=by split <;> rfl
theorem Zr6 (t1 t2:Tms) (σ1 σ2:Za):(if c then some (t1,σ1,(none:Option AVal)) else some (t2,σ2,none))=some ((if c then t1 else t2),(if c then σ1 else σ2),none):=by split <;> rfl
theorem Zrw (n:Nat) (a b:AVal):(if c then (n,a) else (n,b))=(n,if c then a else b):=by split <;> rfl
theorem Zme (a b:AVal) (σ1 σ2:Za):(if c then some (a,σ1) else some (b,σ2))=some ((if c then a else b),(if c then σ1 else σ2)):=by split <;> rfl
theorem ZpU (a b:AVal) (σ1 σ2:Za) (x y:Cls):(if c then some (a,σ1,x) else some (b,σ2,y))=some ((if c then a else b),(if c then σ1 else σ2),if c then x else y):=by split <;> rfl
end
theorem ZJ {α:Type} (p:Bool) (x y z:α):(if p=true then x else (if p=false then y else z))=if p=true then x else y:=by cases p <;> rfl
theorem ZN {α:Type} (p:Bool) (x y z:α):(if p=false then x else (if p=true then y else z))=if p=false then x else y:=by cases p <;> rfl
theorem ZP {α:Type} (p:Bool) (x y z:α):(if p=true then (if p=false then x else y) else z)=if p=true then y else z:=by cases p <;> rfl
theorem ZM {α:Type} (p:Bool) (x y z:α):(if p=false then (if p=true then x else y) else z)=if p=false then y else z:=by cases p <;> rfl
theorem Z8 (ops:List AOp) (b:Nat) (cs:List Cls):Zb6 ops b [] cs=true:=rfl
theorem Z9 (ops:List AOp) (b:Nat) (p:Nat×Nat) (l:List (Nat×Nat)) (cs:List Cls):Zb6 ops b (p::l) cs=((p.1 == p.2 || ZbL (ops.getD p.1 default) (ops.getD p.2 default) (cs.getD p.1 {}) (cs.getD p.2 {}) (b+sitesOf (ops.take p.1))) && Zb6 ops b l cs):=by
 simp only [Zb6,Xs]
theorem Zac (oj oi:AOp) (cj ci:Cls) (sj:Nat):ZbL oj oi cj ci sj=(Zbs oj cj || Zbs oi ci || (Zce cj && Zce ci && (nsite oj.ins == 0 || !ci.rd.contains sj)) || ((Zap oj.ins || (ZaE oj.ins && !cj.any)) && (Zce ci && ci.rd.isEmpty)) || (Zaz oj.ins && Zap oi.ins && ci.any && ZaD cj ci) || (Zaz oj.ins && (ZaE oi.ins || (ZaU oi.ins && ZaY cj ci)) && ZaD cj ci) || (ZaW oj.ins && ZaR oi.ins) || (Zap oj.ins && Zaz oi.ins && cj.any && Za0 cj ci sj)):=rfl
theorem Zab (o:AOp) (rd wr:List Nat) (any:Bool) (got:List (Nat×Option Nat×Nat×AVal)) (upd:List (Nat×List AVal)):Zbs o ⟨rd,wr,any,got,upd⟩=(nsite o.ins == 0 && rd.isEmpty && wr.isEmpty && !any):=rfl
theorem Z7 (rd wr:List Nat) (any:Bool) (got:List (Nat×Option Nat×Nat×AVal)) (upd:List (Nat×List AVal)):Zce ⟨rd,wr,any,got,upd⟩=(wr.isEmpty && !any):=rfl
theorem Zaq {α:Type} {l:List α} {i:Nat} {x:α} {r:List α} (h:l.drop i=x::r):l[i]?=some x/\l.drop (i+1)=r/\i < l.length:=by
 have h1:i < l.length:=by
  rcases Nat.lt_or_ge i l.length with h1 | h1
  ·exact h1
  ·rw [List.drop_eq_nil_of_le h1] at h;cases h
 rw [List.drop_eq_getElem_cons h1] at h
 injection h with h2 h3
 exact ⟨by rw [XA h1,h2],h3,h1⟩
theorem ZcM {α:Type} {l:List α} {i:Nat} (h:l.drop i=[]):¬(i:Int) < l.length:=by
 have:=List.drop_eq_nil_iff.1 h;omega
theorem iad {α:Type} {l:List α} {i:Nat} {x:α} (h:l[i]?=some x) (f:α->AVal) {k:Nat} (hk:(f x).cells.length=k) (σ:Za) (n:Bool) (kk:IntKind):Zbf σ k (.lst n (l.map f)) (.int kk (i:Int))=some (.iptr (f x).cells 0,σ,{}):=by
 have h0:(0:Int)<=(i:Int):=Int.natCast_nonneg i
 unfold Zbf
 simp only [h0,if_true,WX,WD,h,XW,hk]
theorem ZcI {n:Int} (h0:-9223372036854775808<=n) (h:n<=9223372036854775807):IntKind.i64.wrap n=n:=by
 rw [IntKind.wrap_i64];omega
theorem Zzw {α β:Type} {a:List α} {b:List β} (h:a.length=b.length):((a.length:Int) != (b.length:Int))=false:=by simp [h]
theorem ZzD {α β:Type} {a:List α} {b:List β} (h:a.length≠b.length):((a.length:Int) != (b.length:Int))=true:=by
 simp only [bne_iff_ne,ne_eq];omega
theorem ZBP {α:Type} [BEq α] [LawfulBEq α] {a b:List α} (h:a.length≠b.length):(a == b)=false:=by
 simp only [beq_eq_false_iff_ne,ne_eq];rintro rfl;exact h rfl
theorem Zcu {i n:Nat} (h:(i:Int) < n) (hn:n<=9223372036854775807):IntKind.i64.wrap ((i:Int)+1)=((i+1:Nat):Int):=by
 rw [ZcI (by omega) (by omega)];rfl
theorem ZcJ {O:ZW} {bf:Nat->Bool} {f:Nat} {args:List AVal} {r:AVal} (h:O f args []=some (r,[])) (hb:bf f=false) (hp:args.all Zam=true) (hn:args.map Zag=args) (hv:Zbd 0 (some (r,[]))=some (r,[])) (hr:∀ sq,Zq (ZaQ [] [] sq) r=r) (σ:Za) (sq own:Nat) (view:Bool):ZS O bf σ sq f own view args=some (r,σ,{}):=by
 rw [ZcW hb hp,hn,h]
 have : Zai view 0 (some (r,[]))=some (r,[]):=by
  unfold Zai
  split
  ·exact hv
  ·rfl
 rw [this,ZfQ _ _ _ _ (hr sq)]
theorem ZmE {α:Type} (σ:Za) (k:Nat) (l:List α) (f:α->AVal) (kk:IntKind) (n:Int) (h0:0<=n) (h:n<=(l.length:Int)):ZbR σ k (.lst false (l.map f)) none (some (.int kk n)) none=some (.lst false ((l.take n.toNat).map f),σ,{}):=by
 simp only [ZbR,ZaT,ZcH,List.length_map,h0,h,and_self,if_true,beq_self_eq_true,WN,Option.isSome_none,Xt,if_false,WM,W4,Xa4]
abbrev ZV:=List UInt8
def Zk (b:ZV):AVal:=.lst false (b.map Zb)
structure ZZ where
 id:Int
 num:Int
 text:ZV
 pair:ZV
 data:ZV
 deriving DecidableEq
def Zs (p:ZZ):List AVal:=[.int .i64 p.id,.int .i64 p.num,.str p.text,.str p.pair,Zk p.data]
def Zc (p:ZZ):AVal:=.agg (Zs p)
def Zr (l:List ZZ):AVal:=.lst false (l.map Zc)
def Zl (l:List Int):AVal:=.lst false (l.map (.int .i64 ·))
theorem ZH (l:ZV):bytesOf (l.map Zb)=some l:=by
 induction l with
 | nil=>rfl
 | cons b l ih =>
  simp only [Xv,bytesOf,ih,Zb,Ztg,WX,UInt8.ofNat_toNat]
end
section
def ZbM:=(aI (aI (aI (aI (aI (aI @Zsn @ZsK) (aI @Zng @Zrx)) (aI (aI @Zi9 @Ztf) (aI @Zs2 @ZoR))) (aI (aI (aI @Zhe @ZgG) (aI @Zj2 @ZgH)) (aI (aI @Zro @Zr1) (aI @Zrz @ZnL)))) (aI (aI (aI (aI @Zk2 @Zp1) (aI @Znz @Zj6)) (aI (aI @ZrA @ZpI) (aI @Zkq @ZkL))) (aI (aI (aI @ZsF @ZmN) (aI @ZnW @Zsv)) (aI (aI @ZkZ @ZH) (aI @Zm8 @Ztc))))) (aI (aI (aI (aI (aI @Zr6 @Zrw) (aI @Zme @ZpU)) (aI (aI @ZmK @ZsO) (aI @Zo5 @ZnT))) (aI (aI (aI @ZlP @ZnF) (aI @Zj9 @Zaa)) (aI (aI @Zip @ZfU) (aI @Zlr @ZsC)))) (aI (aI (aI (aI @Zmn @ZjT) (aI @Zqj @Zpr)) (aI (aI @Zoi @ZgU) (aI @Zm0 @Zl4))) (aI (aI (aI @Zjp @Zkx) (aI @Zom @ZjI)) (aI (aI @Zon @Zj5) (aI @ZrT @Zqz))))))
def ZbP:=(aI (aI (aI (aI (aI (aI @Zmw @Zqw) (aI @ZjK @ZnD)) (aI (aI @Zqt @ZqA) (aI @Z8 @Z9))) (aI (aI (aI @Zac @Zab) (aI @Z7 @Z6)) (aI (aI @ZjR @ZrB) (aI @Zst @Zpa)))) (aI (aI (aI (aI @Zsp @ZpH) (aI @Zmc @Zi6)) (aI (aI @ZiW @Zo6) (aI @ZqS @Zkh))) (aI (aI (aI @ZoD @ZmZ) (aI @Zmx @ZmF)) (aI (aI @ZpE @ZmH) (aI @Zpk @ZnM))))) (aI (aI (aI (aI (aI @ZrW @Zm2) (aI @ZmV @Zlc)) (aI (aI @Zp2 @Zk9) (aI @Zlt @Zi8))) (aI (aI (aI @ZqP @ZsG) (aI @Znu @Zlm)) (aI (aI @Zq7 @ZlO) (aI @Zk6 @ZpT)))) (aI (aI (aI (aI @Zql @ZpL) (aI @Zpq @ZqQ)) (aI (aI @ZoH @ZsW) (aI @Zra @Zk4))) (aI (aI (aI @Zn1 @Zqc) (aI @ZqO @ZoY)) (aI (aI @Zjj @Zsk) (aI @ZpB @Zog))))))
def Zx:=(aI (aI (aI (aI (aI (aI @Zsc @Zqq) (aI @ZkA @Zrt)) (aI (aI @Znr @Zkl) (aI @Zk8 @ZqF))) (aI (aI (aI @Znn @Zoe) (aI @Zrf @Zq8)) (aI (aI @Zma @Zkm) (aI @ZlN @Zjh)))) (aI (aI (aI (aI @Zk0 @ZlB) (aI @Zpy @Zr8)) (aI (aI @Zsx @Znj) (aI @Zs3 @Zsq))) (aI (aI (aI @ZqM @ZkH) (aI @ZsZ @ZlE)) (aI (aI @Zse @ZlD) (aI @Zps @Zlu))))) (aI (aI (aI (aI (aI @ZoC @ZsU) (aI @Zn0 @ZrI)) (aI (aI @ZnU @ZsP) (aI @Znp @ZjY))) (aI (aI (aI @Zqm @ZrG) (aI @Zoj @ZmP)) (aI (aI @ZnK @ZjP) (aI @Zq3 @Zq9)))) (aI (aI (aI (aI @Zli @Zqp) (aI @Znf @Zsy)) (aI (aI @Ztj @ZoM) (aI @Zsd @ZqX))) (aI (aI (aI @Zjy @ZoV) (aI @ZnC @Zof)) (aI (aI @Zko @Zjc) (aI @Zj1 @ZmU))))))
def ZA:=(aI (aI (aI (aI (aI (aI @ZjN @ZkJ) (aI @Zrc @Zjn)) (aI (aI @Ztu @Ztd) (aI @ZjX @Ztm))) (aI (aI (aI @ZsM @ZkK) (aI @ZmJ @ZsS)) (aI (aI @ZkF @Zs1) (aI @ZmA @ZkW)))) (aI (aI (aI (aI @ZkQ @ZqD) (aI @Znh @Zkj)) (aI (aI @ZoW @ZlF) (aI @ZjZ @Zrd))) (aI (aI (aI @Zkw @Zmk) (aI @ZrL @Zsl)) (aI (aI @Znc @ZmM) (aI @ZsL @Zp3))))) (aI (aI (aI (aI (aI @Zln @Zjg) (aI @Zm1 @ZjB)) (aI (aI @ZjV @Zoa) (aI @Zmb @Zmh))) (aI (aI (aI @Zmo @ZnY) (aI @Zsj @Zmv)) (aI (aI @Zll @ZnA) (aI @ZjA @Zly)))) (aI (aI (aI (aI @Zsi @Zod) (aI @ZoO @Zla)) (aI (aI @Znq @Zk5) (aI @ZrV @Zk7))) (aI (aI (aI @Zpc @ZkU) (aI @ZrS @ZmO)) (aI (aI @Zld @Zrp) (aI @Zth @Zjo))))))
def Zv:=(aI (aI (aI (aI (aI (aI @Znw @ZqI) (aI @ZsB @Zpj)) (aI (aI @Zrk @ZoX) (aI @Zje @ZrP))) (aI (aI (aI @Zs8 @ZnH) (aI @Zrh @ZlA)) (aI (aI @Zrv @Zml) (aI @Zj0 @Zno)))) (aI (aI (aI (aI @Zrg @Zki) (aI @Zjq @Zmi)) (aI (aI @ZsH @ZkY) (aI @Zsr @Zn9))) (aI (aI (aI @Zrm @Zkv) (aI @Znk @Zlb)) (aI (aI @Znm @Zpn) (aI @Zpb @Zsu))))) (aI (aI (aI (aI (aI @ZpC @Zo4) (aI @ZqH @ZrO)) (aI (aI @Zmy @Zkp) (aI @Zoh @Zku))) (aI (aI (aI @Ztw @Zq0) (aI @ZpF @Zj4)) (aI (aI @ZmT @Zqx) (aI @Zpd @ZkB)))) (aI (aI (aI (aI @Zmr @Zoo) (aI @ZlZ @Zsb)) (aI (aI @ZkO @Ztb) (aI @Zqu @ZmS))) (aI (aI (aI @Zr3 @ZpK) (aI @ZpS @ZpA)) (aI (aI @Znx @Zn4) (aI @Zp9 @Zmq))))))
def ZbH:=(aI (aI (aI (aI (aI (aI @ZmI @ZlC) (aI @ZjM @ZsN)) (aI (aI @ZkV @ZkX) (aI @Ztt @ZoF))) (aI (aI (aI @ZpP @ZpD) (aI @Zjm @Zs7)) (aI (aI @Zr9 @ZqJ) (aI @Zmp @Zj7)))) (aI (aI (aI (aI @Zq4 @ZpM) (aI @ZoP @Zlg)) (aI (aI @Zpz @Zmt) (aI @Zso @Zp5))) (aI (aI (aI @Zrl @Zqi) (aI @Zms @Zkb)) (aI (aI @Zlf @ZsX) (aI @Zs5 @Zry))))) (aI (aI (aI (aI (aI @ZlG @ZkR) (aI @Zn8 @ZsE)) (aI (aI @Zkt @ZqZ) (aI @Zok @ZsQ))) (aI (aI (aI @Zo9 @Zlj) (aI @ZqC @Znb)) (aI (aI @ZrU @Zqy) (aI @Zpg @Zto)))) (aI (aI (aI (aI @Zpp @Zp6) (aI @ZqL @ZmY)) (aI (aI @Zm7 @ZrM) (aI @Zou @Zsz))) (aI (aI (aI @Zqv @ZoQ) (aI @Zky @ZoU)) (aI (aI @ZnJ @Zn7) (aI @ZrY @ZnV))))))
def Zw:=(aI (aI (aI (aI (aI (aI @ZqV @Zqo) (aI @ZqU @Zjt)) (aI (aI @Zsw @ZlQ) (aI @Zl5 @Zpw))) (aI (aI (aI @ZlY @Zmm) (aI @Zo8 @Zol)) (aI (aI @ZmQ @Zqr) (aI @Zoc @Zl6)))) (aI (aI (aI (aI @Zle @ZnO) (aI @ZnI @Zsf)) (aI (aI @Zox @Zrq) (aI @Ztx @ZrF))) (aI (aI (aI @Zm9 @ZlR) (aI @Zj8 @Zos)) (aI (aI @Zlp @ZpR) (aI @Zjr @Zkd))))) (aI (aI (aI (aI (aI @Zlz @ZnB) (aI @Zl9 @Zp8)) (aI (aI @ZlW @ZjH) (aI @ZjC @Zob))) (aI (aI (aI @Zor @Zke) (aI @ZpV @Zpl)) (aI (aI @ZqG @ZjS) (aI @ZrD @Znd)))) (aI (aI (aI (aI @Zoz @Zqd) (aI @Zr7 @Zsh)) (aI (aI @Zlk @ZnE) (aI @ZsD @Zne))) (aI (aI (aI @Zkn @ZoN) (aI @ZpZ @Zka)) (aI (aI @ZsV @Zn3) (aI @Zs0 @ZsJ))))))
def Zz:=(aI (aI (aI (aI (aI @Zn5 (aI @Zqb @Zs6)) (aI (aI @Zni @Zks) (aI @Zlh @ZnZ))) (aI (aI @Zpe (aI @Zrb @Zjl)) (aI (aI @ZsA @Zmg) (aI @ZjF @Ztq)))) (aI (aI (aI @ZlT (aI @ZrE @ZpW)) (aI (aI @Zna @Zp0) (aI @Zjz @Zjw))) (aI (aI (aI @Zlv @ZpJ) (aI @ZlV @Zi7)) (aI (aI @Zkz @Zls) (aI @Zta @Zti))))) (aI (aI (aI (aI @Zqk (aI @Zm5 @Zkk)) (aI (aI @ZsY @Zsg) (aI @ZjG @Zmz))) (aI (aI (aI @ZqB @ZpY) (aI @ZlJ @Zoq)) (aI (aI @ZrK @Zn2) (aI @ZoG @ZnN)))) (aI (aI (aI @ZpQ (aI @Zlo @ZmG)) (aI (aI @ZnG @Zr4) (aI @Zi5 @Zl7))) (aI (aI (aI @ZlX @Zov) (aI @Ztv @Zr0)) (aI (aI @ZnQ @ZrN) (aI @Zy5 @ZuE))))))
def ZbI:=(aI (aI (aI (aI (aI (aI @List.map_cons.{0,0} @List.map_nil.{0,0}) (aI @List.length_cons.{0} @List.length_nil.{0})) (aI (aI @List.replicate_zero.{0} @List.replicate_succ.{0}) (aI @List.append_nil.{0} @List.nil_append.{0}))) (aI (aI (aI @List.cons_append.{0} @List.getElem?_cons_zero.{0}) (aI @List.getElem?_cons_succ.{0} @List.set_cons_zero.{0})) (aI (aI @List.set_cons_succ.{0} @Nat.add_zero) (aI @Nat.zero_add @Bool.true_or)))) (aI (aI (aI (aI @Bool.false_or @Bool.or_true) (aI @Bool.or_false @Bool.and_true)) (aI (aI @Bool.true_and @Bool.and_self) (aI @Bool.and_false @Bool.false_and))) (aI (aI (aI @if_true.{1} @if_false.{1}) (aI @ite_true.{1} @ite_false.{1})) (aI (aI @Option.map_some.{0,0} @Option.map_none.{0,0}) (aI @and_self @and_true))))) (aI (aI (aI (aI (aI @true_and @and_false) (aI @false_and @true_or)) (aI (aI @or_true @false_or) (aI @or_false @not_true_eq_false))) (aI (aI (aI @not_false_eq_true @List.drop_zero.{0}) (aI @List.drop_succ_cons.{0} @List.take_succ_cons.{0})) (aI (aI @List.take_zero.{0} @List.all_cons.{0}) (aI @List.all_nil.{0} @List.isEmpty_nil.{0})))) (aI (aI (aI (aI @Bool.not_false @Bool.not_true) (aI @List.length_map.{0,0} @Bool.bne_false)) (aI (aI @Bool.bne_true @List.isEmpty_cons.{0}) (aI @List.getD_cons_zero.{0} @List.getD_cons_succ.{0}))) (aI (aI (aI @List.getD_nil.{0} @List.contains_nil.{0}) (aI @List.range_zero @List.flatMap_cons.{0,0})) (aI (aI @List.flatMap_nil.{0,0} @List.zip_cons_cons.{0,0}) (aI @List.zip_nil_left.{0,0} @List.zip_nil_right.{0,0}))))))
def Zy:=@Nat.not_lt_zero
def EQA := (aI (aI (aI (aI (aI (aI (aI ZbM ZbP) (aI ZbH ZbI)) (aI (aI @exI.eq_1 @nsite.eq_1) (aI @nsite.eq_2 @nsite.eq_3))) (aI (aI (aI @nsite.eq_4 @nsite.eq_5) (aI @nsite.eq_6 @nsite.eq_7)) (aI (aI @nsite.eq_8 @nsite.eq_9) (aI @nsite.eq_10 @nsite.eq_11)))) (aI (aI (aI (aI @freeAt.eq_1 @execI.eq_1) (aI @execI.eq_2 @execI.eq_3)) (aI (aI @execI.eq_4 @execI.eq_5) (aI @execI.eq_6 @execI.eq_7))) (aI (aI (aI @execI.eq_8 @execI.eq_9) (aI @execI.eq_10 @execI.eq_11)) (aI (aI @execI.eq_12 @execI.eq_13) (aI @execI.eq_14 (aI @execI.eq_15 @execI.eq_16)))))) (aI (aI (aI (aI (aI @execI.eq_17 @execI.eq_18) (aI @execI.eq_19 @execI.eq_20)) (aI (aI @execI.eq_21 @execI.eq_22) (aI @execI.eq_23 @execI.eq_24))) (aI (aI (aI @execI.eq_25 @execI.eq_26) (aI @execI.eq_27 @execI.eq_28)) (aI (aI @execI.eq_29 @execI.eq_30) (aI @execI.eq_31 (aI @execI.eq_32 @execI.eq_33))))) (aI (aI (aI (aI @execI.eq_34 @execI.eq_35) (aI @execI.eq_36 @execI.eq_37)) (aI (aI @execI.eq_38 @execI.eq_39) (aI @execI.eq_40 @execI.eq_41))) (aI (aI (aI @execI.eq_42 @execI.eq_43) (aI @execI.eq_44 @execI.eq_45)) (aI (aI @execI.eq_46 @execI.eq_47) (aI @execI.eq_48 (aI @execI.eq_49 @Opd.ev.eq_1))))))) (aI (aI (aI (aI (aI (aI @Opd.ev.eq_2 @tget.eq_1) (aI @tget.eq_2 @tins.eq_1)) (aI (aI @tins.eq_2 @tput.eq_1) (aI @tput.eq_2 @keepL.eq_1))) (aI (aI (aI @sitesOf.eq_1 @resA.eq_1) (aI @resAll.eq_1 @resAll.eq_2)) (aI (aI @resOne.eq_1 @resOne.eq_2) (aI @enterA.eq_1 (aI @enterA.eq_2 @partA.eq_1))))) (aI (aI (aI (aI @partA.eq_2 @faddrA.eq_1) (aI @faddrA.eq_2 @faddrA.eq_3)) (aI (aI @faddrA.eq_4 @setAt.eq_1) (aI @binA.eq_1 @binA.eq_2))) (aI (aI (aI @binA.eq_3 @binA.eq_4) (aI @binA.eq_5 @arithA.eq_1)) (aI (aI @arithA.eq_2 @arithA.eq_3) (aI @arithA.eq_4 (aI @arithA.eq_5 @arithA.eq_6)))))) (aI (aI (aI (aI (aI @arithA.eq_7 @arithA.eq_8) (aI @arithA.eq_9 @arithA.eq_10)) (aI (aI @arithA.eq_11 @arithA.eq_12) (aI @arithA.eq_13 @arithA.eq_14))) (aI (aI (aI @arithA.eq_15 @arithA.eq_16) (aI @ldA.eq_1 @ldA.eq_2)) (aI (aI @ldA.eq_3 @ldA.eq_4) (aI @stA.eq_1 (aI @stA.eq_2 @stA.eq_3))))) (aI (aI (aI (aI @oI.eq_1 @oN.eq_1) (aI @oM.eq_1 @oF.eq_1)) (aI (aI @oL.eq_1 @List.sum_cons.{0}) (aI @List.sum_nil.{0} @eq_self.{1}))) (aI (aI (aI @beq_self_eq_true.{0} @Bool.false_eq_true) (aI @Option.some.injEq.{0} @decide_true)) (aI (aI @decide_false @List.foldl_cons.{0, 0}) (aI @List.foldl_nil.{0, 0} (aI @List.contains_cons.{0} @ne_eq.{1}))))))))
end
section
theorem ZvF {O:ZW} {bf:Nat->Bool} {σ:Za} {sq f own:Nat} {view:Bool} {args:List AVal} (h:args.all Zam=true) (hm:args.map Zag=args) :
  ZS O bf σ sq f own view args=Zak σ σ [] [] sq own (Zai view 0 (O f args [])):=by
 cases hb:bf f
 ·rw [ZcW hb h,hm]
 ·have hr:=Zhw h
  have hn:=fun ρ=>ZiC (ρ:=ρ) h
  rw [hm] at hr
  simp only [hm] at hn
  unfold ZS ZbS
  rw [hb]
  simp only [if_true]
  have h1:ZB σ []=σ:=rfl
  rw [h1,hr]
  have h2:Zg σ 1000 [] []=[]:=rfl
  rw [h2]
  unfold Zbr
  simp only [Xu,if_true,hn,Zh,Xx]
theorem Zzq {O:ZW} {bf:Nat->Bool} {f:Nat} {args:List AVal} {k n:Nat} {xs:List AVal} (h:O f args []=some (.sl 0 0 0 n,[.row 0 k xs])) (hn:xs.length=n) (hp:args.all Zam=true) (hm:args.map Zag=args) (σ:Za) (sq own:Nat):ZS O bf σ sq f own true args=some (.lst false xs,σ,{}):=by
 rw [ZvF hp hm,h]
 have : Zai true 0 (some (.sl 0 0 0 n,[.row 0 k xs]))=some (.lst false xs,[]):=by
  unfold Zai
  rw [if_pos rfl,ZvD (k:=k) (g:=0) (t:=0) (xs:=xs) rfl (by omega),XQ (by omega)]
 rw [this,ZfQ _ _ _ _ rfl]
theorem ZnX {O:ZW} {bf:Nat->Bool} {f:Nat} {args:List AVal} {k n:Nat} {xs:List AVal} (h:O f args []=some (.sl 0 0 0 n,[.row 0 k xs])) (hp:args.all Zam=true) (hm:args.map Zag=args) (σ:Za) (sq:Nat) (hs:freeAt σ sq=true):ZS O bf σ sq f 1 false args=some (.sl sq 0 0 n,σ.set sq (.row 0 k xs),if xs.all ZaM then {} else { any:=true }):=by
 rw [ZvF hp hm,h]
 cases hx:xs.all ZaM <;> simp [Zai,Zak,Zdw,hx,Zbm,okB,Zd,Zbq,hs,Zq,ZaQ,Za6,ZbA,ZbA,ZaI,Zbx,Zi]
theorem Zzs {O:ZW} {bf:Nat->Bool} {σ:Za} {f:Nat} {args vs:List AVal} {ts:List Nat} {r r':AVal} (hb:bf f=false) (hsh:showAs σ args=some (vs,ts)) (hp:vs.all Zam=true) (hm:vs.map Zag=vs) (h:O f vs []=some (r,[])) (hv:Zbd 0 (some (r,[]))=some (r',[])) (sq own:Nat) :
  ZS O bf σ sq f own true args=if Za4 r' then some (r',σ,{ rd:=ts }) else if Zcm σ ts r' then some (r',σ,{ rd:=ts }) else some (Zq (ZaQ [] [] sq) r',ZB σ ts,{ rd:=ts,wr:=ts }):=by
 have hr:=Zhw hp
 have hn:=fun ρ=>ZiC (ρ:=ρ) hp
 rw [hm] at hr
 simp only [hm] at hn
 unfold ZS ZbS
 rw [hb]
 simp only [Xt,if_false,hsh]
 rw [hr]
 have h2:∀ σ,Zg σ 1000 [] []=[]:=fun _=>rfl
 rw [h2]
 unfold Zbr
 simp only [Xu,if_true,hn,Zh,Xx,h]
 have : Zai true 0 (some (r,[]))=some (r',[]):=by unfold Zai;rw [if_pos rfl,hv]
 rw [this]
 simp only [Zak,WA,Wu,if_true]
theorem Zf2 {O:ZW} {bf:Nat->Bool} {σ:Za} {f:Nat} {args vs:List AVal} {ts:List Nat} {r r':AVal} (hb:bf f=false) (hsh:showAs σ args=some (vs,ts)) (hp:vs.all Zam=true) (hm:vs.map Zag=vs) (h:O f vs []=some (r,[])) (hv:Zbd 0 (some (r,[]))=some (r',[])) (hf:Za4 r'=true) (sq own:Nat) :
  ZS O bf σ sq f own true args=some (r',σ,{ rd:=ts }):=by
 rw [Zzs hb hsh hp hm h hv,if_pos hf]
theorem Zeg {O:ZW} {bf:Nat->Bool} {f:Nat} {args args':List AVal} {r r':AVal} (h:O f args' []=some (r,[])) (hb:bf f=false) (hp:args.all Zam=true) (hn:args.map Zag=args') (hv:Zbd 0 (some (r,[]))=some (r',[])) (hr:∀ sq,Zq (ZaQ [] [] sq) r'=r') (σ:Za) (sq own:Nat):ZS O bf σ sq f own true args=some (r',σ,{}):=by
 rw [ZcW hb hp,hn,h]
 have : Zai true 0 (some (r,[]))=some (r',[]):=by
  unfold Zai
  rw [if_pos rfl];exact hv
 rw [this,ZfQ _ _ _ _ (hr sq)]
theorem Zjs (k n:Nat) (xs:List AVal) (σ:Za):ZaP 0 (.row 0 k xs::σ) (.sl 0 0 0 n)=some (.sl 0 0 0 n,[.row 0 k xs]):=by
 simp [ZaP,gcA,Zn,Zg,ZX,Z3,Zf,Zh,Zo,Zd,Zm,ZU,Zq,Zi,Zp]
def ZcZ:List AVal->AVal
 | []=>.lst true []
 | x::xs=>.sl 0 0 0 (x::xs).length
def ZcY (k:Nat):List AVal->Za
 | []=>[]
 | x::xs=>[.row 0 k (x::xs)]
theorem Zb2:ZcZ []=.lst true []:=rfl
theorem Zca (x:AVal) (xs:List AVal):ZcZ (x::xs)=.sl 0 0 0 (x::xs).length:=rfl
theorem ZbZ (k:Nat):ZcY k []=[]:=rfl
theorem Zb7 (k:Nat) (x:AVal) (xs:List AVal):ZcY k (x::xs)=[.row 0 k (x::xs)]:=rfl
theorem Zt6 {O:ZW} {bf:Nat->Bool} {f k:Nat} {args args':List AVal} {full:List AVal} (h:O f args' []=some (ZcZ full,ZcY k full)) (hb:bf f=false) (hp:args.all Zam=true) (hn:args.map Zag=args') (σ:Za) (sq own:Nat):ZS O bf σ sq f own true args=some (.lst false full,σ,{}):=by
 cases full with
 | nil=>exact Zeg h hb hp hn rfl (fun _=>rfl) σ sq own
 | cons x xs =>
  rw [Zca,Zb7] at h
  rw [ZcW hb hp,hn,h]
  have : Zai true 0 (some (.sl 0 0 0 (x::xs).length,[.row 0 k (x::xs)]))=some (.lst false (x::xs),[]):=by
   unfold Zai
   rw [if_pos rfl,ZvD (k:=k) (g:=0) (t:=0) (xs:=x::xs) rfl (by omega),XQ (by omega)]
  rw [this,ZfQ _ _ _ _ rfl]
end
section
def ZdH (b:Bool):AVal:=.tup [.agg [.int .i64 0,.int .i64 0,.str [],.str [],.lst b []],.bool false]
theorem Zgn (l:ZV):kOk 1 (l.map Zb)=true:=by cases l <;> rfl
theorem ZvU (l:ZV) (h:l.length<=140737488355328):E 21 [.lst false (l.map Zb)] []=some (.sl 0 0 0 (l.map Zb).length,[.row 0 1 (l.map Zb)]):=by
 refine Zcy.2 ⟨1,?_⟩
 show ZcD 1 1 [.lst false (l.map Zb)] []=_
 have h1:(l.map Zb).length*1<=140737488355328/\kOk 1 (l.map Zb)=true:=⟨by simpa using h,Zgn l⟩
 simp only [ZcD,Zj]
 rw [if_pos h1];rfl
theorem Zux (σ:Za) (sq own:Nat) (l:ZV) (h:l.length<=140737488355328):ZS E BY σ sq 21 own true [.lst false (l.map Zb)]=some (.lst false (l.map Zb),σ,{}) :=
 Zzq (bf:=BY) (ZvU l h) rfl rfl rfl σ sq own
theorem ZAj (p:ZZ) (h:p.data.length<=140737488355328):E 35 [Zc p] []=some (Zc p,[]):=by
 have hC:=fun σ sq own=>Zux σ sq own p.data h
 rw [Zar (by rfl) Zz3]
 simp -implicitDefEqProofs only [EQA,Zx,ZA,Zv,Zw,Zz,Zy,ZJ,ZN,ZP,ZM,ZL,ZO,ZI,ZK,ZQ,implies_true,forall_const,Xh,Xj,Xm,Xe,Xf,Xk,Xl,ZE,ZG,unA,Zt,ZC,unG,reduceCtorEq,Zj,decide_eq_true_eq,Xg,Xc,ite_self,↓reduceIte,Zu,ZF,gcT,gcA,Zn,Zg,Zf,Zh,Zo,Zd,Zm,Zi,Zp,Xd,ZyG,Zm6,Zy8,Zl,Zk,Zr,Zc,Zs,ZH,hC]
theorem ZwD (σ:Za) (sq own:Nat) (p:ZZ) (h:p.data.length<=140737488355328):ZS E BY σ sq 35 own true [.agg [.int .i64 p.id,.int .i64 p.num,.str p.text,.str p.pair,.lst false (p.data.map Zb)]]=some (.agg [.int .i64 p.id,.int .i64 p.num,.str p.text,.str p.pair,.lst false (p.data.map Zb)],σ,{}) :=
 ZcJ (ZAj p h) (by kernel_rfl) (by simp -implicitDefEqProofs only [ZbM,ZbP,Zx,ZA,Zv,ZbH,Zw,Zz,ZbI,Zy,eq_self,implies_true,Xt,Zl,Zk,Zr,Zc,Zs,Zl]) (by simp -implicitDefEqProofs only [ZbM,ZbP,Zx,ZA,Zv,ZbH,Zw,Zz,ZbI,Zy,eq_self,implies_true,Xt,Zl,Zk,Zr,Zc,Zs,Zl]) rfl (fun _=>rfl) _ _ _ _
def Zcw (id:Int):List ZZ->AVal
 | []=>ZdH true
 | p::r=>if p.id == id then .tup [Zc p,.bool true] else Zcw id r
theorem ZuB (l:List ZZ) (hl:l.length<=9223372036854775807) (hd:∀ p ∈ l,p.data.length<=140737488355328) (id:Int):∀ (r:List ZZ) (i:Nat),l.drop i=r ->
  ZhC 0 [(10,.int .i64 i),(9,.int .i64 l.length),(8,.lst false (l.map Zc)),(4,.ref 0 0),(0,.int .i64 id)] [.var [.int .i64 0,.int .i64 0,.str [],.str [],.lst true []]]=some (Zcw id r,[])
 | [],i,h=>by
  have h1:=ZcM h
  unfold ZhC
  rw [Zan,Zcw]
  simp -implicitDefEqProofs only [EQA,Zx,ZA,Zv,Zw,Zz,Zy,ZJ,ZN,ZP,ZM,ZL,ZO,ZI,ZK,ZQ,implies_true,forall_const,Xh,Xj,Xm,Xe,Xf,Xk,Xl,ZE,ZG,unA,Zt,ZC,unG,reduceCtorEq,Zj,decide_eq_true_eq,Xg,Xc,ite_self,↓reduceIte,Zu,ZF,gcT,gcA,Zn,Zg,Zf,Zh,Zo,Zd,Zm,Zi,Zp,Xd,Zis,Ze0,ZhI,Zic,ZeB,Zio,Ze8,Zl,Zk,Zr,Zc,Zs,ZH,h1,ZdH,Zah,AVal.cells]
 | p::r,i,h=>by
  have ih:=ZuB l hl hd id r (i+1) (Zaq h).2.1
  have h1:(i:Int) < l.length:=by have:=(Zaq h).2.2;omega
  have e1:=iad (Zaq h).1 Zc (k:=5) rfl
  have e3:=Zcu h1 hl
  have hC:=fun σ sq own=>ZwD σ sq own p (hd p (XF (Zaq h).1))
  unfold ZhC at ih ⊢
  rw [Zan,Zcw]
  cases hb:(p.id == id)
  ·simp -implicitDefEqProofs only [EQA,Zx,ZA,Zv,Zw,Zz,Zy,ZJ,ZN,ZP,ZM,ZL,ZO,ZI,ZK,ZQ,implies_true,forall_const,Xh,Xj,Xm,Xe,Xf,Xk,Xl,ZE,ZG,unA,Zt,ZC,unG,reduceCtorEq,Zj,decide_eq_true_eq,Xg,Xc,ite_self,↓reduceIte,Zu,ZF,gcT,gcA,Zn,Zg,Zf,Zh,Zo,Zd,Zm,Zi,Zp,Xd,Zis,Ze0,ZhI,Zic,ZeB,Zio,Ze8,Zl,Zk,Zr,Zc,Zs,ZH,h1,e1,e3,hb]
   exact ih
  ·simp -implicitDefEqProofs only [EQA,Zx,ZA,Zv,Zw,Zz,Zy,ZJ,ZN,ZP,ZM,ZL,ZO,ZI,ZK,ZQ,implies_true,forall_const,Xh,Xj,Xm,Xe,Xf,Xk,Xl,ZE,ZG,unA,Zt,ZC,unG,reduceCtorEq,Zj,decide_eq_true_eq,Xg,Xc,ite_self,↓reduceIte,Zu,ZF,gcT,gcA,Zn,Zg,Zf,Zh,Zo,Zd,Zm,Zi,Zp,Xd,Zis,Ze0,ZhI,Zic,ZeB,Zio,Ze8,Zl,Zk,Zr,Zc,Zs,ZH,h1,e1,e3,hb,hC]
theorem ZCE (l:List ZZ) (hl:l.length<=9223372036854775807) (hd:∀ p ∈ l,p.data.length<=140737488355328) (id:Int):E 23 [.int .i64 id,Zr l] []=some (Zcw id l,[]):=by
 have:=ZuB l hl hd id l 0 rfl
 have z0:((0:Nat):Int)=0:=rfl
 rw [z0] at this
 unfold ZhC at this
 rw [Zar (by rfl) Zzt]
 simp -implicitDefEqProofs only [EQA,Zx,ZA,Zv,Zw,Zz,Zy,ZJ,ZN,ZP,ZM,ZL,ZO,ZI,ZK,ZQ,implies_true,forall_const,Xh,Xj,Xm,Xe,Xf,Xk,Xl,ZE,ZG,unA,Zt,ZC,unG,reduceCtorEq,Zj,decide_eq_true_eq,Xg,Xc,ite_self,↓reduceIte,Zu,ZF,gcT,gcA,Zn,Zg,Zf,Zh,Zo,Zd,Zm,Zi,Zp,Xd,Zis,Ze0,ZhI,Zic,ZeB,Zio,Ze8,Zl,Zk,Zr,Zc,Zs,ZH,Zl]
 exact this
def Zc8 (id:Int) (l:List ZZ):Option ZZ:=l.find? (fun p=>p.id == id)
def Zd1 (b:Bool):Option ZZ->AVal
 | none=>ZdH b
 | some p=>.tup [Zc p,.bool true]
theorem ZoZ (id:Int):∀ l:List ZZ,Zcw id l=Zd1 true (Zc8 id l)
 | []=>rfl
 | p::r=>by
  have ih:=ZoZ id r
  unfold Zc8 at ih ⊢
  rw [Zcw,List.find?_cons]
  cases h:(p.id == id)
  ·simpa using ih
  ·rfl
theorem Zyb (σ:Za) (sq own:Nat) (l:List ZZ) (hl:l.length<=9223372036854775807) (hd:∀ p ∈ l,p.data.length<=140737488355328) (id:Int):ZS E BY σ sq 23 own true [.int .i64 id,.lst false (l.map Zc)]=some (Zd1 false (Zc8 id l),σ,{}):=by
 have h:=ZCE l hl hd id
 rw [ZoZ] at h
 cases hf:Zc8 id l with
 | none=>rw [hf] at h;exact Zeg h (by kernel_rfl) rfl rfl rfl (fun _=>rfl) σ sq own
 | some p =>
  rw [hf] at h
  exact Zeg h (by kernel_rfl) rfl rfl rfl (fun _=>rfl) σ sq own
theorem Zwj (l:List ZZ) (hl:l.length<=9223372036854775807) (id:Int):∀ (r:List ZZ) (i:Nat),l.drop i=r ->
  Zim 0 [(6,.int .i64 i),(4,.ref 0 0),(1,.lst false (l.map Zc)),(0,.int .i64 id)] [.var [.int .i64 0,.int .i64 0,.str [],.str [],.lst true []]]=some (Zcw id r,[])
 | [],i,h=>by
  have h1:=ZcM h
  unfold Zim
  rw [Zan,Zcw]
  simp -implicitDefEqProofs only [EQA,Zx,ZA,Zv,Zw,Zz,Zy,ZJ,ZN,ZP,ZM,ZL,ZO,ZI,ZK,ZQ,implies_true,forall_const,Xh,Xj,Xm,Xe,Xf,Xk,Xl,ZE,ZG,unA,Zt,ZC,unG,reduceCtorEq,Zj,decide_eq_true_eq,Xg,Xc,ite_self,↓reduceIte,Zu,ZF,gcT,gcA,Zn,Zg,Zf,Zh,Zo,Zd,Zm,Zi,Zp,Xd,Zi1,Zet,ZgZ,Ziu,Ze4,Zh4,ZeZ,Zl,Zk,Zr,Zc,Zs,ZH,h1,ZdH,Zah,AVal.cells]
 | p::r,i,h=>by
  have ih:=Zwj l hl id r (i+1) (Zaq h).2.1
  have h1:(i:Int) < l.length:=by have:=(Zaq h).2.2;omega
  have e1:=iad (Zaq h).1 Zc (k:=5) rfl
  have e3:=Zcu h1 hl
  unfold Zim at ih ⊢
  rw [Zan,Zcw]
  cases hb:(p.id == id)
  ·simp -implicitDefEqProofs only [EQA,Zx,ZA,Zv,Zw,Zz,Zy,ZJ,ZN,ZP,ZM,ZL,ZO,ZI,ZK,ZQ,implies_true,forall_const,Xh,Xj,Xm,Xe,Xf,Xk,Xl,ZE,ZG,unA,Zt,ZC,unG,reduceCtorEq,Zj,decide_eq_true_eq,Xg,Xc,ite_self,↓reduceIte,Zu,ZF,gcT,gcA,Zn,Zg,Zf,Zh,Zo,Zd,Zm,Zi,Zp,Xd,Zi1,Zet,ZgZ,Ziu,Ze4,Zh4,ZeZ,Zl,Zk,Zr,Zc,Zs,ZH,h1,e1,e3,hb]
   exact ih
  ·simp -implicitDefEqProofs only [EQA,Zx,ZA,Zv,Zw,Zz,Zy,ZJ,ZN,ZP,ZM,ZL,ZO,ZI,ZK,ZQ,implies_true,forall_const,Xh,Xj,Xm,Xe,Xf,Xk,Xl,ZE,ZG,unA,Zt,ZC,unG,reduceCtorEq,Zj,decide_eq_true_eq,Xg,Xc,ite_self,↓reduceIte,Zu,ZF,gcT,gcA,Zn,Zg,Zf,Zh,Zo,Zd,Zm,Zi,Zp,Xd,Zi1,Zet,ZgZ,Ziu,Ze4,Zh4,ZeZ,Zl,Zk,Zr,Zc,Zs,ZH,h1,e1,e3,hb]
theorem Zzk (l:List ZZ) (hl:l.length<=9223372036854775807) (id:Int):E 27 [.int .i64 id,Zr l] []=some (Zcw id l,[]):=by
 have:=Zwj l hl id l 0 rfl
 have z0:((0:Nat):Int)=0:=rfl
 rw [z0] at this
 unfold Zim at this
 rw [Zar (by rfl) Zyl]
 simp -implicitDefEqProofs only [EQA,Zx,ZA,Zv,Zw,Zz,Zy,ZJ,ZN,ZP,ZM,ZL,ZO,ZI,ZK,ZQ,implies_true,forall_const,Xh,Xj,Xm,Xe,Xf,Xk,Xl,ZE,ZG,unA,Zt,ZC,unG,reduceCtorEq,Zj,decide_eq_true_eq,Xg,Xc,ite_self,↓reduceIte,Zu,ZF,gcT,gcA,Zn,Zg,Zf,Zh,Zo,Zd,Zm,Zi,Zp,Xd,Zi1,Zet,ZgZ,Ziu,Ze4,Zh4,ZeZ,Zl,Zk,Zr,Zc,Zs,ZH,Zl]
 exact this
theorem ZBe (σ:Za) (sq own:Nat) (l:List ZZ) (hl:l.length<=9223372036854775807) (id:Int):ZS E BY σ sq 27 own true [.int .i64 id,.lst false (l.map Zc)]=some (Zd1 false (Zc8 id l),σ,{}):=by
 have h:=Zzk l hl id
 rw [ZoZ] at h
 cases hf:Zc8 id l with
 | none=>rw [hf] at h;exact Zeg h (by kernel_rfl) rfl rfl rfl (fun _=>rfl) σ sq own
 | some p =>
  rw [hf] at h
  exact Zeg h (by kernel_rfl) rfl rfl rfl (fun _=>rfl) σ sq own
end
section
end
section
theorem Ztp {O:ZW} {bf:Nat->Bool} {f:Nat} {args args':List AVal} {r r':AVal} (h:O f args' []=some (r,[])) (hb:bf f=false) (hp:args.all Zam=true) (hn:args.map Zag=args') (hv:Zbd 0 (some (r,[]))=some (r',[])) (hr:∀ sq,Zq (ZaQ [] [] sq) r'=r') (σ:Za) (sq own:Nat):ZS O bf σ sq f own true args=some (r',σ,{}):=by
 rw [ZcW hb hp,hn,h]
 have : Zai true 0 (some (r,[]))=some (r',[]):=by
  unfold Zai
  rw [if_pos rfl];exact hv
 rw [this,ZfQ _ _ _ _ (hr sq)]
end
section
end
section
end
section
def ZfV:Ze:=(.seq (.region [oI 31 (.ld (some 10) (.t 1)),oN (.st 10 (.t 2) (.t 31))] none [2]) .ret)
def Zlx:Ze:=ZfV
def Zo7:=xw Zlx ZfV rfl
def Zgh:Ze:=(.seq (.region [oI 16 (.bin .lss (.t 15) (.t 14))] none [16,15,14,2,1]) (.seq (.cond (.t 16) .skip (.exit 0)) (.seq (.block 1 (.seq (.region [oM 17 15,oM 3 17] none [15,14,3,2,1]) (.region [oF 18 6 1,oL 19 18,oM 20 3,oF 21 6 1,oL 22 21,oM 23 3,oI 24 (.iaddr 5 (.t 22) (.t 23)),oF 25 4 24,oL 26 25,oI 27 (.call 21 0 true [(.t 26)]),oI 28 (.iaddr 5 (.t 19) (.t 20)),oF 29 4 28,oN (.st 1 (.t 29) (.t 27))] (some [(1,4),(1,6),(1,8),(1,9),(9,9)]) [15,14,2,1]))) (.region [oI 30 (.bin .add (.t 15) (.c (.int .i64 1))),oM 15 30] none [15,14,2,1]))))
def ZjL:Ze:=Zgh
def ZoS:=xw ZjL Zgh rfl
def ZgN:Ze:=(.seq (.region [oI 1 (.box (.t 0)),oI 2 (.alloc [(.str []),(.lst true []),(.int .i64 0),(.bool false),(.str []),(.int .i64 0),(.lst true []),(.int .i64 0),(.int .i64 0),(.int .i64 0)])] none [2,1]) (.seq (.region [oF 4 1 1,oL 5 4,oI 6 (.call 21 1 false [(.t 5)]),oF 7 1 1,oN (.st 1 (.t 7) (.t 6))] none [2,1]) (.seq (.region [oF 8 6 1,oL 9 8,oI 10 (.call 38 1 false [(.t 9)]),oF 11 6 1,oN (.st 1 (.t 11) (.t 10))] none [2,1]) (.seq (.seq (.region [oF 12 6 1,oL 13 12,oI 14 (.len (.t 13)),oI 15 (.mov (.c (.int .i64 0)))] none [15,14,2,1]) (.block 0 (.loop [15,14,2,1] ZjL))) Zlx))))
def ZhW:Zae:=⟨[(.cell 2 (some 10))],ZgN⟩
theorem ZCA:FC 28=some ZhW:=by kernel_rfl
theorem Zqa:ZhW.body=ZgN:=rfl
theorem Zts:ZhW.res=[(.cell 2 (some 10))]:=rfl
noncomputable def ZiO (m:Nat) (tm:Tms) (σ:Za):Option (AVal×Za):=(ZaV m ZhW (Zbk FC PR BY m Zlx (Ws (Za2 0) (evL FC PR BY m [15,14,2,1] ZjL tm σ))))
def Zmd:Ze:=(.seq (.region [oI 2 (.box (.t 0)),oI 4 (.mov (.c (.bool false)))] none [2,1]) (.seq (.region [oF 5 5 2,oL 6 5,oI 7 (.bin .neq (.t 6) (.c (.int .i64 0))),oM 8 7,⟨(some 9),(.mov (.t 1)),(some (8,true)),[]⟩,⟨(some 10),(.faddr 5 (.t 2)),(some (8,true)),[]⟩,⟨(some 11),(.ld none (.t 10)),(some (8,true)),[]⟩,⟨(some 12),(.bin .geq (.t 9) (.t 11)),(some (8,true)),[]⟩,oI 13 (.pick (.t 8) (.t 12) (.c (.bool false))),oM 4 13] none [4]) .ret))
def ZqN:Zae:=⟨[(.tmp 4)],Zmd⟩
theorem ZB4:FC 13=some ZqN:=by kernel_rfl
theorem Zyd:ZqN.body=Zmd:=rfl
theorem ZzU:ZqN.res=[(.tmp 4)]:=rfl
def ZhJ:Ze:=(.seq (.region [oI 4 (.box (.t 0)),oI 8 (.alloc [(.str []),(.lst true []),(.int .i64 0),(.bool false),(.str []),(.int .i64 0),(.lst true []),(.int .i64 0),(.int .i64 0),(.int .i64 0)])] none [8,4,3,2,1]) (.seq (.region [oM 12 1,oF 13 6 4,oL 14 13,oI 15 (.call 21 1 false [(.t 14)]),oF 16 2 4,oL 17 16,oF 18 3 4,oL 19 18,oM 20 2,oF 21 9 4,oL 22 21,oI 23 (.call 22 0 true [(.t 22)]),oI 24 (.build [(.str []),(.lst true []),(.int .i64 0),(.bool false),(.str []),(.int .i64 0),(.lst true []),(.int .i64 0),(.int .i64 0),(.int .i64 0)] [(0,1,(.t 12)),(1,1,(.t 15)),(2,1,(.t 17)),(3,1,(.t 19)),(4,1,(.t 20)),(6,1,(.t 23))]),oI 9 (.alloc [(.str []),(.lst true []),(.int .i64 0),(.bool false),(.str []),(.int .i64 0),(.lst true []),(.int .i64 0),(.int .i64 0),(.int .i64 0)]),oN (.st 10 (.t 9) (.t 24))] (some [(2,5),(3,5),(2,7),(3,7),(5,7),(2,10),(3,10),(5,10),(7,10),(5,11),(7,11),(2,13),(3,13),(5,13),(7,13),(10,13),(11,13)]) [9,8,4,3]) (.seq (.seq (.region [oF 26 9 4,oL 27 26,oI 28 (.call 23 0 true [(.c (.int .i64 2)),(.t 27)]),oM 25 28,oI 29 (.ext (.t 25) 0),oI 30 (.ext (.t 25) 1),oI 10 (.alloc [(.int .i64 0),(.int .i64 0),(.str []),(.str []),(.lst true [])]),oN (.st 5 (.t 10) (.t 29)),oM 11 30] none [11,10,9,8,3]) (.seq (.region [oM 31 11] none [31,10,9,8,3]) (.cond (.t 31) (.region [oM 32 3,oF 33 1 10,oL 34 33,oI 35 (.bin .add (.t 32) (.t 34)),oF 36 5 9,oN (.st 1 (.t 36) (.t 35))] none [9,8]) .skip))) (.seq (.region [oI 37 (.ld (some 10) (.t 9)),oN (.st 10 (.t 8) (.t 37))] none [8]) .ret))))
def ZkI:Zae:=⟨[(.cell 8 (some 10))],ZhJ⟩
theorem Zzg:FC 9=some ZkI:=by kernel_rfl
theorem Zuc:ZkI.body=ZhJ:=rfl
theorem Zwq:ZkI.res=[(.cell 8 (some 10))]:=rfl
def Zdz:Ze:=(.seq (.region [oI 63 (.ld (some 26) (.t 10)),oN (.st 26 (.t 8) (.t 63))] none [8]) .ret)
def ZkT:Ze:=Zdz
def Zfk:=xw ZkT Zdz rfl
def Zdo:Ze:=(.seq (.region [oI 52 (.bin .lss (.t 51) (.t 50))] none [52,51,50,49,10,8]) (.seq (.cond (.t 52) .skip (.exit 0)) (.seq (.block 1 (.seq (.region [oI 53 (.iaddr 1 (.t 49) (.t 51)),oL 54 53,oM 12 54] none [51,50,49,12,10,8]) (.region [oF 55 9 10,oL 56 55,oM 57 12,oI 58 (.build [(.int .i64 0),(.int .i64 0),(.str []),(.str []),(.lst true [])] [(0,1,(.c (.int .i64 11))),(1,1,(.t 57))]),oI 59 (.bslice false 5 1 (.agg [(.int .i64 0),(.int .i64 0),(.str []),(.str []),(.lst true [])]) [(0,(.t 58))]),oI 60 (.app 5 72 (.agg [(.int .i64 0),(.int .i64 0),(.str []),(.str []),(.lst true [])]) (.t 56) (.t 59)),oF 61 9 10,oN (.st 1 (.t 61) (.t 60))] none [51,50,49,10,8]))) (.region [oI 62 (.bin .add (.t 51) (.c (.int .i64 1))),oM 51 62] none [51,50,49,10,8]))))
def Zp4:Ze:=Zdo
def Zfz:=xw Zp4 Zdo rfl
def ZdJ:Ze:=(.seq (.region [oI 4 (.box (.t 0)),oI 8 (.alloc [(.int .i64 0),(.bool false),(.int .i64 0),(.bool false),(.int .i64 0),(.str []),(.lst true []),(.int .i64 0),(.lst true []),(.lst true []),(.lst true []),(.lst true []),(.bool false),(.int .i64 0),(.str []),(.bool false),(.str []),(.lst true []),(.int .i64 0),(.bool false),(.lst true []),(.bool false),(.str []),(.bool false),(.lst true []),(.bool false)])] none [8,4,3,2,1]) (.seq (.region [oF 13 0 4,oI 14 (.ld (some 10) (.t 13)),oI 15 (.call 28 2 false [(.t 14)]),oI 9 (.alloc [(.str []),(.lst true []),(.int .i64 0),(.bool false),(.str []),(.int .i64 0),(.lst true []),(.int .i64 0),(.int .i64 0),(.int .i64 0)]),oN (.st 10 (.t 9) (.t 15))] none [9,8,4,3,2,1]) (.seq (.region [oF 16 0 9,oL 17 16,oF 18 1 9,oL 19 18,oF 20 10 4,oL 21 20,oF 22 11 4,oL 23 22,oF 24 6 9,oL 25 24,oI 26 (.build [(.int .i64 0),(.bool false),(.int .i64 0),(.bool false),(.int .i64 0),(.str []),(.lst true []),(.int .i64 0),(.lst true []),(.lst true []),(.lst true []),(.lst true []),(.bool false),(.int .i64 0),(.str []),(.bool false),(.str []),(.lst true []),(.int .i64 0),(.bool false),(.lst true []),(.bool false),(.str []),(.bool false),(.lst true []),(.bool false)] [(0,1,(.c (.int .i64 3))),(5,1,(.t 17)),(6,1,(.t 19)),(2,1,(.t 21)),(3,1,(.t 23)),(9,1,(.t 25))]),oI 10 (.alloc [(.int .i64 0),(.bool false),(.int .i64 0),(.bool false),(.int .i64 0),(.str []),(.lst true []),(.int .i64 0),(.lst true []),(.lst true []),(.lst true []),(.lst true []),(.bool false),(.int .i64 0),(.str []),(.bool false),(.str []),(.lst true []),(.int .i64 0),(.bool false),(.lst true []),(.bool false),(.str []),(.bool false),(.lst true []),(.bool false)]),oN (.st 26 (.t 10) (.t 26))] none [10,9,8,4,3,2,1]) (.seq (.seq (.region [oF 27 10 4,oL 28 27,oI 29 (.bin .gtr (.t 28) (.c (.int .i64 0)))] none [29,10,9,8,4,3,2,1]) (.cond (.t 29) (.region [oM 30 2,oM 31 3,oF 32 4 10,oN (.st 1 (.t 32) (.t 30)),oF 33 1 10,oN (.st 1 (.t 33) (.t 31))] none [10,9,8,4,1]) .skip)) (.seq (.seq (.region [oF 34 5 9,oL 35 34,oI 36 (.bin .neq (.t 35) (.c (.int .i64 0)))] none [36,10,9,8,4,1]) (.cond (.t 36) (.region [oF 37 9 10,oL 38 37,oF 39 5 9,oL 40 39,oM 41 1,oI 42 (.bin .sub (.t 40) (.t 41)),oI 43 (.mm true [(.t 42),(.c (.int .i64 0))]),oI 44 (.build [(.int .i64 0),(.int .i64 0),(.str []),(.str []),(.lst true [])] [(0,1,(.c (.int .i64 2))),(1,1,(.t 43))]),oI 45 (.bslice false 5 1 (.agg [(.int .i64 0),(.int .i64 0),(.str []),(.str []),(.lst true [])]) [(0,(.t 44))]),oI 46 (.app 5 72 (.agg [(.int .i64 0),(.int .i64 0),(.str []),(.str []),(.lst true [])]) (.t 38) (.t 45)),oF 47 9 10,oN (.st 1 (.t 47) (.t 46))] none [10,8,4]) .skip)) (.seq (.seq (.region [oF 48 12 4,oL 49 48,oI 50 (.len (.t 49)),oI 51 (.mov (.c (.int .i64 0)))] none [51,50,49,10,8]) (.block 0 (.loop [51,50,49,10,8] Zp4))) ZkT))))))
def ZiF:Zae:=⟨[(.cell 8 (some 26))],ZdJ⟩
theorem ZiQ:FC 15=some ZiF:=by kernel_rfl
theorem ZeC:ZiF.body=ZdJ:=rfl
theorem ZeH:ZiF.res=[(.cell 8 (some 26))]:=rfl
noncomputable def Zea (m:Nat) (tm:Tms) (σ:Za):Option (AVal×Za):=(ZaV m ZiF (Zbk FC PR BY m ZkT (Ws (Za2 0) (evL FC PR BY m [51,50,49,10,8] Zp4 tm σ))))
def ZmR:Ze:=(.seq (.region [oI 2 (.mov (.c (.lst true [])))] none [0]) (.seq (.region [oM 3 0,oI 4 (.bslice false 1 5 (.int .i64 0) [(0,(.c (.int .i64 1))),(1,(.c (.int .i64 3))),(2,(.c (.int .i64 8))),(3,(.c (.int .i64 9))),(4,(.c (.int .i64 38)))]),oI 5 (.call 34 0 true [(.t 3),(.t 4)]),oM 2 5] none [2]) .ret))
def Zk3:Zae:=⟨[(.tmp 2)],ZmR⟩
theorem ZBL:FC 22=some Zk3:=by kernel_rfl
theorem ZBr:Zk3.body=ZmR:=rfl
theorem Zzf:Zk3.res=[(.tmp 2)]:=rfl
def Zow:Ze:=(.seq (.region [oI 2 (.box (.t 0)),oI 4 (.mov (.c (.bool false)))] none [2,1]) (.seq (.region [oF 5 5 2,oL 6 5,oI 7 (.bin .neq (.t 6) (.c (.int .i64 0))),oM 8 7,⟨(some 9),(.mov (.t 1)),(some (8,true)),[]⟩,⟨(some 10),(.faddr 5 (.t 2)),(some (8,true)),[]⟩,⟨(some 11),(.ld none (.t 10)),(some (8,true)),[]⟩,⟨(some 12),(.bin .geq (.t 9) (.t 11)),(some (8,true)),[]⟩,oI 13 (.pick (.t 8) (.t 12) (.c (.bool false))),oM 4 13] none [4]) .ret))
def ZjJ:Zae:=⟨[(.tmp 4)],Zow⟩
theorem ZyS:FC 14=some ZjJ:=by kernel_rfl
theorem ZCm:ZjJ.body=Zow:=rfl
theorem ZAt:ZjJ.res=[(.tmp 4)]:=rfl
def Ztl:Ze:=(.seq (.region [oI 2 (.mov (.c (.lst true [])))] none [0]) (.seq (.region [oM 3 0,oI 4 (.bslice false 1 5 (.int .i64 0) [(0,(.c (.int .i64 1))),(1,(.c (.int .i64 3))),(2,(.c (.int .i64 8))),(3,(.c (.int .i64 9))),(4,(.c (.int .i64 38)))]),oI 5 (.call 37 0 true [(.t 3),(.t 4)]),oM 2 5] none [2]) .ret))
def ZoT:Zae:=⟨[(.tmp 2)],Ztl⟩
theorem ZAp:FC 26=some ZoT:=by kernel_rfl
theorem ZBq:ZoT.body=Ztl:=rfl
theorem ZzS:ZoT.res=[(.tmp 2)]:=rfl
def Zif:Ze:=(.seq (.region [oI 4 (.box (.t 0)),oI 8 (.alloc [(.str []),(.lst true []),(.int .i64 0),(.bool false),(.str []),(.int .i64 0),(.lst true []),(.int .i64 0),(.int .i64 0),(.int .i64 0)])] none [8,4,3,2,1]) (.seq (.region [oM 12 1,oI 13 (.bslice false 1 0 (.int .u8 0) []),oF 14 6 4,oL 15 14,oI 16 (.app 1 1 (.int .u8 0) (.t 13) (.t 15)),oF 17 2 4,oL 18 17,oF 19 3 4,oL 20 19,oM 21 2,oF 22 9 4,oL 23 22,oI 24 (.call 26 0 true [(.t 23)]),oI 25 (.build [(.str []),(.lst true []),(.int .i64 0),(.bool false),(.str []),(.int .i64 0),(.lst true []),(.int .i64 0),(.int .i64 0),(.int .i64 0)] [(0,1,(.t 12)),(1,1,(.t 16)),(2,1,(.t 18)),(3,1,(.t 20)),(4,1,(.t 21)),(6,1,(.t 24))]),oI 9 (.alloc [(.str []),(.lst true []),(.int .i64 0),(.bool false),(.str []),(.int .i64 0),(.lst true []),(.int .i64 0),(.int .i64 0),(.int .i64 0)]),oN (.st 10 (.t 9) (.t 25))] (some [(1,3),(1,6),(3,6),(4,6),(1,8),(3,8),(4,8),(6,8),(1,11),(3,11),(4,11),(6,11),(8,11),(6,12),(8,12),(1,14),(3,14),(4,14),(6,14),(8,14),(11,14),(12,14)]) [9,8,4,3]) (.seq (.seq (.region [oF 27 9 4,oL 28 27,oI 29 (.call 27 0 true [(.c (.int .i64 2)),(.t 28)]),oM 26 29,oI 30 (.ext (.t 26) 0),oI 31 (.ext (.t 26) 1),oI 10 (.alloc [(.int .i64 0),(.int .i64 0),(.str []),(.str []),(.lst true [])]),oN (.st 5 (.t 10) (.t 30)),oM 11 31] none [11,10,9,8,3]) (.seq (.region [oM 32 11] none [32,10,9,8,3]) (.cond (.t 32) (.region [oM 33 3,oF 34 1 10,oL 35 34,oI 36 (.bin .add (.t 33) (.t 35)),oF 37 5 9,oN (.st 1 (.t 37) (.t 36))] none [9,8]) .skip))) (.seq (.region [oI 38 (.ld (some 10) (.t 9)),oN (.st 10 (.t 8) (.t 38))] none [8]) .ret))))
def Zmj:Zae:=⟨[(.cell 8 (some 10))],Zif⟩
theorem ZyZ:FC 12=some Zmj:=by kernel_rfl
theorem ZwP:Zmj.body=Zif:=rfl
theorem Zvn:Zmj.res=[(.cell 8 (some 10))]:=rfl
def ZdW:Ze:=(.seq (.region [oI 73 (.ld (some 26) (.t 10)),oN (.st 26 (.t 8) (.t 73))] none [8]) .ret)
def Zny:Ze:=ZdW
def ZgO:=xw Zny ZdW rfl
def ZdS:Ze:=(.seq (.seq (.region [oM 55 12,oF 56 12 4,oL 57 56,oI 58 (.len (.t 57)),oI 59 (.bin .lss (.t 55) (.t 58))] none [59,12,10,8,4]) (.cond (.t 59) .skip (.exit 0))) (.seq (.block 1 (.region [oF 62 9 10,oL 63 62,oF 64 12 4,oL 65 64,oM 66 12,oI 67 (.iaddr 1 (.t 65) (.t 66)),oL 68 67,oI 69 (.build [(.int .i64 0),(.int .i64 0),(.str []),(.str []),(.lst true [])] [(0,1,(.c (.int .i64 11))),(1,1,(.t 68))]),oI 70 (.bslice false 5 1 (.agg [(.int .i64 0),(.int .i64 0),(.str []),(.str []),(.lst true [])]) [(0,(.t 69))]),oI 71 (.app 5 72 (.agg [(.int .i64 0),(.int .i64 0),(.str []),(.str []),(.lst true [])]) (.t 63) (.t 70)),oF 72 9 10,oN (.st 1 (.t 72) (.t 71))] (some [(1,3),(1,5),(1,6),(1,8)]) [12,10,8,4])) (.region [oM 60 12,oI 61 (.bin .add (.t 60) (.c (.int .i64 1))),oM 12 61] none [12,10,8,4])))
def Znl:Ze:=ZdS
def Zgw:=xw Znl ZdS rfl
def ZdZ:Ze:=(.seq (.region [oI 4 (.box (.t 0)),oI 8 (.alloc [(.int .i64 0),(.bool false),(.int .i64 0),(.bool false),(.int .i64 0),(.str []),(.lst true []),(.int .i64 0),(.lst true []),(.lst true []),(.lst true []),(.lst true []),(.bool false),(.int .i64 0),(.str []),(.bool false),(.str []),(.lst true []),(.int .i64 0),(.bool false),(.lst true []),(.bool false),(.str []),(.bool false),(.lst true []),(.bool false)])] none [8,4,3,2,1]) (.seq (.region [oF 13 0 4,oI 14 (.ld (some 10) (.t 13)),oI 9 (.alloc [(.str []),(.lst true []),(.int .i64 0),(.bool false),(.str []),(.int .i64 0),(.lst true []),(.int .i64 0),(.int .i64 0),(.int .i64 0)]),oN (.st 10 (.t 9) (.t 14))] none [9,8,4,3,2,1]) (.seq (.region [oF 15 0 9,oL 16 15,oI 17 (.bslice false 1 0 (.int .u8 0) []),oF 18 1 9,oL 19 18,oI 20 (.app 1 1 (.int .u8 0) (.t 17) (.t 19)),oF 21 10 4,oL 22 21,oF 23 11 4,oL 24 23,oI 25 (.build [(.int .i64 0),(.bool false),(.int .i64 0),(.bool false),(.int .i64 0),(.str []),(.lst true []),(.int .i64 0),(.lst true []),(.lst true []),(.lst true []),(.lst true []),(.bool false),(.int .i64 0),(.str []),(.bool false),(.str []),(.lst true []),(.int .i64 0),(.bool false),(.lst true []),(.bool false),(.str []),(.bool false),(.lst true []),(.bool false)] [(0,1,(.c (.int .i64 3))),(5,1,(.t 16)),(6,1,(.t 20)),(2,1,(.t 22)),(3,1,(.t 24))]),oI 10 (.alloc [(.int .i64 0),(.bool false),(.int .i64 0),(.bool false),(.int .i64 0),(.str []),(.lst true []),(.int .i64 0),(.lst true []),(.lst true []),(.lst true []),(.lst true []),(.bool false),(.int .i64 0),(.str []),(.bool false),(.str []),(.lst true []),(.int .i64 0),(.bool false),(.lst true []),(.bool false),(.str []),(.bool false),(.lst true []),(.bool false)]),oN (.st 26 (.t 10) (.t 25))] (some [(1,2),(1,4),(2,4),(1,5),(1,7),(2,7),(4,7),(5,7),(1,9),(2,9),(4,9),(5,9),(7,9),(1,11),(2,11),(4,11),(5,11),(7,11),(9,11)]) [10,9,8,4,3,2,1]) (.seq (.seq (.region [oF 26 10 4,oL 27 26,oI 28 (.bin .gtr (.t 27) (.c (.int .i64 0)))] none [28,10,9,8,4,3,2,1]) (.cond (.t 28) (.seq (.region [oM 29 2,oF 30 4 10,oN (.st 1 (.t 30) (.t 29))] none [10,9,8,4,3,1]) (.region [oM 31 3,oF 32 1 10,oN (.st 1 (.t 32) (.t 31))] none [10,9,8,4,1])) .skip)) (.seq (.region [oF 33 9 10,oL 34 33,oF 35 6 9,oL 36 35,oI 37 (.app 5 72 (.agg [(.int .i64 0),(.int .i64 0),(.str []),(.str []),(.lst true [])]) (.t 34) (.t 36)),oF 38 9 10,oN (.st 1 (.t 38) (.t 37))] none [10,9,8,4,1]) (.seq (.seq (.region [oF 39 5 9,oL 40 39,oI 41 (.bin .neq (.t 40) (.c (.int .i64 0)))] none [41,10,9,8,4,1]) (.cond (.t 41) (.seq (.region [oF 42 5 9,oL 43 42,oM 44 1,oI 45 (.bin .sub (.t 43) (.t 44)),oM 11 45] none [11,10,8,4]) (.seq (.seq (.region [oM 46 11,oI 47 (.bin .lss (.t 46) (.c (.int .i64 0)))] none [47,11,10,8,4]) (.cond (.t 47) (.region [oI 11 (.mov (.c (.int .i64 0)))] none [11,10,8,4]) .skip)) (.region [oF 48 9 10,oL 49 48,oM 50 11,oI 51 (.build [(.int .i64 0),(.int .i64 0),(.str []),(.str []),(.lst true [])] [(0,1,(.c (.int .i64 2))),(1,1,(.t 50))]),oI 52 (.bslice false 5 1 (.agg [(.int .i64 0),(.int .i64 0),(.str []),(.str []),(.lst true [])]) [(0,(.t 51))]),oI 53 (.app 5 72 (.agg [(.int .i64 0),(.int .i64 0),(.str []),(.str []),(.lst true [])]) (.t 49) (.t 52)),oF 54 9 10,oN (.st 1 (.t 54) (.t 53))] none [10,8,4]))) .skip)) (.seq (.seq (.region [oI 12 (.mov (.c (.int .i64 0)))] none [12,10,8,4]) (.block 0 (.loop [12,10,8,4] Znl))) Zny)))))))
def ZiJ:Zae:=⟨[(.cell 8 (some 26))],ZdZ⟩
theorem ZuF:FC 17=some ZiJ:=by kernel_rfl
theorem ZgI:ZiJ.body=ZdZ:=rfl
theorem ZgP:ZiJ.res=[(.cell 8 (some 26))]:=rfl
noncomputable def Zgo (m:Nat) (tm:Tms) (σ:Za):Option (AVal×Za):=(ZaV m ZiJ (Zbk FC PR BY m Zny (Ws (Za2 0) (evL FC PR BY m [12,10,8,4] Znl tm σ))))
def Zqh:Ze:=(.seq (.region [oI 2 (.box (.t 0)),oI 3 (.box (.t 1)),oI 4 (.mov (.c (.bool false)))] none [3,2]) (.seq (.region [oF 5 0 2,oL 6 5,oF 7 0 3,oL 8 7,oI 9 (.bin .eql (.t 6) (.t 8)),oM 10 9,⟨(some 11),(.faddr 1 (.t 2)),(some (10,true)),[]⟩,⟨(some 12),(.ld none (.t 11)),(some (10,true)),[]⟩,⟨(some 13),(.b2s (.t 12)),(some (10,true)),[]⟩,⟨(some 14),(.faddr 1 (.t 3)),(some (10,true)),[]⟩,⟨(some 15),(.ld none (.t 14)),(some (10,true)),[]⟩,⟨(some 16),(.b2s (.t 15)),(some (10,true)),[]⟩,⟨(some 17),(.bin .eql (.t 13) (.t 16)),(some (10,true)),[]⟩,oI 18 (.pick (.t 10) (.t 17) (.c (.bool false))),oM 19 18,⟨(some 20),(.faddr 2 (.t 2)),(some (19,true)),[]⟩,⟨(some 21),(.ld none (.t 20)),(some (19,true)),[]⟩,⟨(some 22),(.faddr 2 (.t 3)),(some (19,true)),[]⟩,⟨(some 23),(.ld none (.t 22)),(some (19,true)),[]⟩,⟨(some 24),(.bin .eql (.t 21) (.t 23)),(some (19,true)),[]⟩,oI 25 (.pick (.t 19) (.t 24) (.c (.bool false))),oM 26 25,⟨(some 27),(.faddr 3 (.t 2)),(some (26,true)),[]⟩,⟨(some 28),(.ld none (.t 27)),(some (26,true)),[]⟩,⟨(some 29),(.faddr 3 (.t 3)),(some (26,true)),[]⟩,⟨(some 30),(.ld none (.t 29)),(some (26,true)),[]⟩,⟨(some 31),(.beq false (.t 28) (.t 30)),(some (26,true)),[]⟩,oI 32 (.pick (.t 26) (.t 31) (.c (.bool false))),oM 33 32,⟨(some 34),(.faddr 4 (.t 2)),(some (33,true)),[]⟩,⟨(some 35),(.ld none (.t 34)),(some (33,true)),[]⟩,⟨(some 36),(.faddr 4 (.t 3)),(some (33,true)),[]⟩,⟨(some 37),(.ld none (.t 36)),(some (33,true)),[]⟩,⟨(some 38),(.bin .eql (.t 35) (.t 37)),(some (33,true)),[]⟩,oI 39 (.pick (.t 33) (.t 38) (.c (.bool false))),oM 40 39,⟨(some 41),(.faddr 5 (.t 2)),(some (40,true)),[]⟩,⟨(some 42),(.ld none (.t 41)),(some (40,true)),[]⟩,⟨(some 43),(.faddr 5 (.t 3)),(some (40,true)),[]⟩,⟨(some 44),(.ld none (.t 43)),(some (40,true)),[]⟩,⟨(some 45),(.bin .eql (.t 42) (.t 44)),(some (40,true)),[]⟩,oI 46 (.pick (.t 40) (.t 45) (.c (.bool false))),oM 47 46,⟨(some 48),(.faddr 6 (.t 2)),(some (47,true)),[]⟩,⟨(some 49),(.ld none (.t 48)),(some (47,true)),[]⟩,⟨(some 50),(.faddr 6 (.t 3)),(some (47,true)),[]⟩,⟨(some 51),(.ld none (.t 50)),(some (47,true)),[]⟩,⟨(some 52),(.call 25 0 true [(.t 49),(.t 51)]),(some (47,true)),[]⟩,oI 53 (.pick (.t 47) (.t 52) (.c (.bool false))),oM 54 53,⟨(some 55),(.faddr 7 (.t 2)),(some (54,true)),[]⟩,⟨(some 56),(.ld none (.t 55)),(some (54,true)),[]⟩,⟨(some 57),(.faddr 7 (.t 3)),(some (54,true)),[]⟩,⟨(some 58),(.ld none (.t 57)),(some (54,true)),[]⟩,⟨(some 59),(.bin .eql (.t 56) (.t 58)),(some (54,true)),[]⟩,oI 60 (.pick (.t 54) (.t 59) (.c (.bool false))),oM 61 60,⟨(some 62),(.faddr 8 (.t 2)),(some (61,true)),[]⟩,⟨(some 63),(.ld none (.t 62)),(some (61,true)),[]⟩,⟨(some 64),(.faddr 8 (.t 3)),(some (61,true)),[]⟩,⟨(some 65),(.ld none (.t 64)),(some (61,true)),[]⟩,⟨(some 66),(.bin .eql (.t 63) (.t 65)),(some (61,true)),[]⟩,oI 67 (.pick (.t 61) (.t 66) (.c (.bool false))),oM 68 67,⟨(some 69),(.faddr 9 (.t 2)),(some (68,true)),[]⟩,⟨(some 70),(.ld none (.t 69)),(some (68,true)),[]⟩,⟨(some 71),(.faddr 9 (.t 3)),(some (68,true)),[]⟩,⟨(some 72),(.ld none (.t 71)),(some (68,true)),[]⟩,⟨(some 73),(.bin .eql (.t 70) (.t 72)),(some (68,true)),[]⟩,oI 74 (.pick (.t 68) (.t 73) (.c (.bool false))),oM 4 74] none [4]) .ret))
def Zjv:Zae:=⟨[(.tmp 4)],Zqh⟩
theorem Zyq:FC 11=some Zjv:=by kernel_rfl
theorem Zyj:Zjv.body=Zqh:=rfl
theorem ZBa:Zjv.res=[(.tmp 4)]:=rfl
end
section
def ZlL:Ze:=(.seq (.region [oI 4 (.mov (.c (.bool false)))] none [1,0]) (.seq (.region [oM 5 0,oM 6 1,oI 7 (.call 43 0 true [(.t 5),(.t 6)]),oI 8 (.bin .geq (.t 7) (.c (.int .i64 0))),oM 4 8] none [4]) .ret))
def Zq2:Zae:=⟨[(.tmp 4)],ZlL⟩
theorem Zzm:FC 41=some Zq2:=by kernel_rfl
theorem ZyM:Zq2.body=ZlL:=rfl
theorem ZCx:Zq2.res=[(.tmp 4)]:=rfl
def ZeL:Ze:=(.seq (.region [oI 4 (.mov (.c (.int .i64 (-1))))] none [4]) .ret)
def Zqn:Ze:=ZeL
def Zg1:=xw Zqn ZeL rfl
def ZeF:Ze:=(.seq (.region [oI 9 (.bin .lss (.t 8) (.t 7))] none [9,8,7,1,0]) (.seq (.cond (.t 9) .skip (.exit 0)) (.seq (.block 1 (.seq (.region [oM 10 8,oM 5 10] none [8,7,5,1,0]) (.seq (.region [oM 11 1,oM 12 0,oM 13 5,oI 14 (.iaddr 1 (.t 12) (.t 13)),oL 15 14,oI 16 (.bin .eql (.t 11) (.t 15))] none [16,8,7,5,1,0]) (.cond (.t 16) (.seq (.region [oM 17 5,oM 4 17] none [4]) .ret) .skip)))) (.region [oI 18 (.bin .add (.t 8) (.c (.int .i64 1))),oM 8 18] none [8,7,1,0]))))
def ZoE:Ze:=ZeF
def ZgW:=xw ZoE ZeF rfl
def ZeJ:Ze:=(.seq (.region [oI 4 (.mov (.c (.int .i64 0)))] none [1,0]) (.seq (.seq (.region [oM 6 0,oI 7 (.len (.t 6)),oI 8 (.mov (.c (.int .i64 0)))] none [8,7,1,0]) (.block 0 (.loop [8,7,1,0] ZoE))) Zqn))
def Zie:Zae:=⟨[(.tmp 4)],ZeJ⟩
theorem ZyW:FC 43=some Zie:=by kernel_rfl
theorem Zhk:Zie.body=ZeJ:=rfl
theorem Zh7:Zie.res=[(.tmp 4)]:=rfl
noncomputable def Zf3 (m:Nat) (tm:Tms) (σ:Za):Option (AVal×Za):=(ZaV m Zie (Zbk FC PR BY m Zqn (Ws (Za2 0) (evL FC PR BY m [8,7,1,0] ZoE tm σ))))
end
section
theorem Zvq (l:List Int) (hl:l.length<=9223372036854775807) (v:Int):∀ (r:List Int) (i:Nat),l.drop i=r ->
  ZiA 0 [(5,.int .i64 i),(1,.lst false (l.map (AVal.int .i64 ·))),(0,.int .i64 v)] []=some (.bool (r.contains v),[])
 | [],i,h=>by
  have h1:=ZcM h
  unfold ZiA
  rw [Zan]
  simp -implicitDefEqProofs only [EQA,Zx,ZA,Zv,Zw,Zz,Zy,ZJ,ZN,ZP,ZM,ZL,ZO,ZI,ZK,ZQ,implies_true,forall_const,Xh,Xj,Xm,Xe,Xf,Xk,Xl,ZE,ZG,unA,Zt,ZC,unG,reduceCtorEq,Zj,decide_eq_true_eq,Xg,Xc,ite_self,↓reduceIte,Zu,ZF,gcT,gcA,Zn,Zg,Zf,Zh,Zo,Zd,Zm,Zi,Zp,Xd,ZiM,Zfp,ZiG,ZiH,Ze1,Zin,Zev,Zl,Zk,Zr,Zc,Zs,ZH,h1]
 | x::r,i,h=>by
  have ih:=Zvq l hl v r (i+1) (Zaq h).2.1
  have h1:(i:Int) < l.length:=by have:=(Zaq h).2.2;omega
  have e1:=iad (Zaq h).1 (AVal.int .i64 ·) (k:=1) rfl
  have e3:=Zcu h1 hl
  unfold ZiA at ih ⊢
  rw [Zan,List.contains_cons]
  cases hb:(v == x)
  ·have hb':(x == v)=false:=by simp only [beq_eq_false_iff_ne,ne_eq] at hb ⊢;exact fun e=>hb e.symm
   rw [Bool.false_or]
   simp -implicitDefEqProofs only [EQA,Zx,ZA,Zv,Zw,Zz,Zy,ZJ,ZN,ZP,ZM,ZL,ZO,ZI,ZK,ZQ,implies_true,forall_const,Xh,Xj,Xm,Xe,Xf,Xk,Xl,ZE,ZG,unA,Zt,ZC,unG,reduceCtorEq,Zj,decide_eq_true_eq,Xg,Xc,ite_self,↓reduceIte,Zu,ZF,gcT,gcA,Zn,Zg,Zf,Zh,Zo,Zd,Zm,Zi,Zp,Xd,ZiM,Zfp,ZiG,ZiH,Ze1,Zin,Zev,Zl,Zk,Zr,Zc,Zs,ZH,h1,e1,e3,hb']
   exact ih
  ·have hb':(x == v)=true:=by simp only [beq_iff_eq] at hb ⊢;exact hb.symm
   rw [WN]
   simp -implicitDefEqProofs only [EQA,Zx,ZA,Zv,Zw,Zz,Zy,ZJ,ZN,ZP,ZM,ZL,ZO,ZI,ZK,ZQ,implies_true,forall_const,Xh,Xj,Xm,Xe,Xf,Xk,Xl,ZE,ZG,unA,Zt,ZC,unG,reduceCtorEq,Zj,decide_eq_true_eq,Xg,Xc,ite_self,↓reduceIte,Zu,ZF,gcT,gcA,Zn,Zg,Zf,Zh,Zo,Zd,Zm,Zi,Zp,Xd,ZiM,Zfp,ZiG,ZiH,Ze1,Zin,Zev,Zl,Zk,Zr,Zc,Zs,ZH,h1,e1,e3,hb']
theorem Zx9 (l:List Int) (hl:l.length<=9223372036854775807) (v:Int):E 42 [.int .i64 v,Zl l] []=some (.bool (l.contains v),[]):=by
 have h:=Zvq l hl v l 0 rfl
 have z0:((0:Nat):Int)=0:=rfl
 rw [z0] at h
 unfold ZiA at h
 rw [Zar (by rfl) Zzy]
 simp -implicitDefEqProofs only [EQA,Zx,ZA,Zv,Zw,Zz,Zy,ZJ,ZN,ZP,ZM,ZL,ZO,ZI,ZK,ZQ,implies_true,forall_const,Xh,Xj,Xm,Xe,Xf,Xk,Xl,ZE,ZG,unA,Zt,ZC,unG,reduceCtorEq,Zj,decide_eq_true_eq,Xg,Xc,ite_self,↓reduceIte,Zu,ZF,gcT,gcA,Zn,Zg,Zf,Zh,Zo,Zd,Zm,Zi,Zp,Xd,ZiM,Zfp,ZiG,ZiH,Ze1,Zin,Zev,Zl,Zk,Zr,Zc,Zs,ZH,Zl]
 exact h
theorem ZBJ (σ:Za) (sq own:Nat) (l:List Int) (hl:l.length<=9223372036854775807) (v:Int) (b:Bool):ZS E BY σ sq 42 own true [.int .i64 v,.lst b (l.map (AVal.int .i64 ·))]=some (.bool (l.contains v),σ,{}) :=
 Zeg (Zx9 l hl v) (by kernel_rfl) rfl rfl rfl (fun _=>rfl) _ _ _
end
end Go.Proofs.Ytnlnmdnmgachgaa
