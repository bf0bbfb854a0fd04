/- packed -/
import Derived.Test.YteepdofekjheaaaDoorMq1
import Derived.Scope
import Derived.Laws.Cover3
import Derived.Lib.Index
import Derived.Shelf.Unicode.ValidAny
import Derived.Shelf.Strings.Count
import Derived.Test.YteepdofekjheaaaDoorProg
import Derived.Deep.Slices
import Derived.ChangeArms
import Derived.WideShapes
import GoSem.ClaimChange
set_option linter.defProp false
set_option linter.unusedSimpArgs false
set_option linter.unusedVariables false
open Nat renaming reduceEqDiff→Xa,reduceLT→Xc,reduceAdd→Xe,reduceLeDiff→Xf,reduceBEq→Xg,le_refl→Xx,zero_add→XG,add_zero→XT,mul_le_mul_right→X3,add_assoc→WC,one_mul→WI,le_max_right→WT,le_max_left→W4,pow_le_pow_right→Xaq,pow_succ→XaT,mod_lt→XaW,mod_eq_of_lt→XaZ,shiftLeft_eq→Xa1
open Option.some renaming injEq→Xb
open Prod.mk renaming injEq→Xd
open List renaming getD_eq_getElem?_getD→Xh,getElem?_eq_some_iff→Xj,append_nil→Xm,map_cons→Xo,getElem?_set→Xs,mem_append→Xt,getD_cons_zero→Xu,nil_append→Xw,mem_of_getElem?→Xz,map_nil→XA,all_eq_true→XB,lookup_nil→XC,all_cons→XD,replicate→XE,length_cons→XF,flatMap_cons→XH,length_nil→XJ,take_of_length_le→XK,getD_cons_succ→XN,getElem?_eq_getElem→XP,mem_cons→XQ,cons_append→XU,length_map→XW,flatMap_nil→XX,mem_map→X0,range→X6,getElem?_append_left→Wh,all_nil→Wr,pairwise_append→Ww,drop_zero→WD,mem_filter→WG,pairwise_cons→WQ,getElem?_map→WX,isEmpty_nil→W5,length→Xae,range'→Xax,map_map→Xay,mem_cons_self→XaD,map_take→XaF,mapM_cons→XaV
open Bool renaming false_eq_true→Xi,and_eq_true→Xl,and_self→Wg,or_eq_true→WF,false_and→Xaa,true_or→Xaz,or_true→XaS
open Option renaming map_eq_some_iff→Xp,map_some→X8,map→Wd
open Int renaming reduceBEq→Xq,reduceLT→X1,toNat→WV,toNat_natCast→WZ
open Or renaming inl→Xr,inr→Xv
open Array renaming length_toList→XM,getElem?_eq_some_iff→XY,getD_eq_getD_getElem?→Wz,getD→WW,replicate→W3
open BitVec renaming ofInt→XR
open UInt8 renaming ofNat→Wf,toNat_ofNat'→WH
open ByteArray renaming size→WA
namespace Go.Proofs.YteepdofekjheaaaDoor
set_option maxHeartbeats 16000000
set_option maxRecDepth 10000
section
open Go.RowKit
section
variable {P:Program} {O:ZX} {bf:Nat->Bool} {an:Ann} {base:Nat->Prop} {w0:World} {I0:Imm} {dr:Door}
theorem ZzL {o:AOp} {tm tm1:Tms} {σ σ1:Za} {sq:Nat} {v:AVal} {c:Cls} (ht:o.ins.touches=false) (h:ZT O bf o sq tm σ=some (v,tm1,σ1,c)):c={}:=by
 unfold ZT at h
 split at h
 ·cases h
 ·simp only [Xb,Xd] at h;exact h.2.2.2.symm
 ·split at h
  ·split at h
   ·rename_i he
    simp only [Xb,Xd] at h
    rw [<-h.2.2.2]
    exact (ZMD ht he).1
   ·cases h
  ·cases h
theorem ZjG {i:Ins} (h:i.touches=false):nsite i=0:=by cases i <;> simp [Ins.touches] at h <;> rfl
theorem Zh8 {asl:List AOp} {L:Nat} {cs:List Cls}:∀ {l:List Nat} {tm tm':Tms} {σ σ':Za},ZcN O bf asl L cs l tm σ tm' σ'->∀ j ∈ l,(asl.getD j default).ins.touches=false->cs.getD j {}={}
 | [],_,_,_,_,_,j,hj,_=>by simp at hj
 | i::l,_,_,_,_,h,j,hj,ht=>by
  cases h with
  | cons h1 _ h2 =>
   rcases XQ.1 hj with rfl | hj
   ·exact ZzL ht h1
   ·exact Zh8 h2 j hj ht
theorem ZiD (asl:List AOp):∀ {j i:Nat},j < i->i<=asl.length->sitesOf (asl.take j)+nsite (asl.getD j default).ins<=sitesOf (asl.take i):=by
 intro j i hji hi
 induction i with
 | zero=>omega
 | succ i ih =>
  rw [Zn1 asl (by omega)]
  by_cases e:j=i
  ·subst e
   simp [Xh,show j < asl.length by omega]
  ·have:=ih (by omega) (by omega);omega
theorem ZGE (hO:ZaK P O) (hkp:∀ n ∈ dr.K,n ∈ an.keep) (hb:KLt base w0) {ops:Array Oper} {asl:List AOp} (hcomp:Zdw P an ops ops.toList=some asl) {ps:List (Nat×Nat)} (hps:ZfI asl=some ps) {L:Nat} {cs:List Cls} (hchk:Zdu asl L ps cs=true)
  {tmF:Tms} {σF:Za} {Q:Exit->Act->World->Prop} {I:Imm} {β:Bmap} (hQ:∀ a' w',StR dr an.nt base w0 I0 I β tmF σF a' w'->Q .normal a' w') :
  ∀ (fuel:Nat) (rem:List Nat) (listed:Array Bool) (a:Act) (w:World) (tm:Tms) (σ:Za),ZcN O bf asl L cs rem tm σ tmF σF->rem.Pairwise (· < ·)->(∀ j ∈ rem,j < ops.size)->(∀ j,j < ops.size->(listed.getD j true=true↔j ∉ rem))->listed.size=ops.size ->
   (∀ k,k < ops.size->k ∉ rem->∀ p ∈ (Zcl (asl.map (·.after)) []).getD k [],p ∉ rem)->rem.length=fuel->StR dr an.nt base w0 I0 I β tm σ a w->wpAny P .any ops Q fuel listed a w:=by
 obtain ⟨hlen,hget⟩:=ZjR hcomp
 obtain ⟨hp1,hp2⟩:=ZrY hps
 obtain ⟨_,_,hanc⟩:=ZpX (asl.map (·.after)) [] (fun _ _ _=>trivial)
 simp only [XM] at hlen
 have hafter:∀ j o,ops[j]?=some o->∃ ao,asl.getD j default=ao/\ZgS P an ops o=some ao/\ao.after=(o.after.toList.filter (Region.binds .any)).map (·.on)/\ao.dst=o.dst:=by
  intro j o ho
  obtain ⟨ao,h1,h2⟩:=hget j o (by simpa using ho)
  refine ⟨ao,by simp [Xh,h1],h2,?_⟩
  obtain ⟨g,i,_,_,_,rfl⟩:=ZnR h2
  exact ⟨rfl,rfl⟩
 intro fuel
 induction fuel with
 | zero =>
  intro rem listed a w tm σ hr hs hlt hl hsz hcl hfl hst
  have : rem=[]:=List.eq_nil_of_length_eq_zero hfl
  subst this
  cases hr
  refine ⟨?_,hQ a w hst⟩
  apply List.eq_nil_iff_forall_not_mem.2
  intro j hj
  rw [mem_ready] at hj
  obtain ⟨h1,o,ho,_⟩:=hj
  have hjl:j < ops.size:=(XY.1 ho).1
  have:=(hl j hjl).2 (by simp)
  rw [h1] at this;cases this
 | succ fuel ih =>
  intro rem listed a w tm σ hr hs hlt hl hsz hcl hfl hst
  have isRem:∀ j,j < ops.size->listed.getD j true=false->j ∈ rem:=by
   intro j hj h
   by_cases hm:j ∈ rem
   ·exact hm
   ·have:=(hl j hj).2 hm;rw [h] at this;cases this
  have getD_tf:∀ j,j < ops.size->listed.getD j false=listed.getD j true:=by
   intro j hj
   simp [WW,hsz,hj]
  refine ⟨fun hnil=>?_,fun i hi=>?_⟩
  ·exfalso
   cases rem with
   | nil=>simp at hfl
   | cons r rs =>
    have hrl:r < ops.size:=hlt r (by simp)
    have hro:ops[r]?=some ops[r]:=by simp [hrl]
    obtain ⟨ao,e1,e2,e3,_⟩:=hafter r _ hro
    have : r ∈ Region.ready .any ops listed:=by
     rw [mem_ready]
     refine ⟨?_,ops[r],hro,fun e he hbnd=>?_⟩
     ·cases hq:listed.getD r true with
      | false=>rfl
      | true=>exact absurd (XaD) ((hl r hrl).1 hq)
     ·have hon:e.on ∈ ao.after:=by rw [e3];exact X0.2 ⟨e,WG.2 ⟨by simpa using he,hbnd⟩,rfl⟩
      have hlt':e.on < r:=hp2 r (by omega) e.on (by rw [e1];exact hon)
      rw [getD_tf _ (by omega)]
      refine (hl e.on (by omega)).2 (fun hm=>?_)
      rcases XQ.1 hm with h | hm
      ·omega
      ·have:=(WQ.1 hs).1 e.on hm;omega
    rw [hnil] at this;simp at this
  ·rw [mem_ready] at hi
   obtain ⟨hi0,o,ho,hpre⟩:=hi
   have hil:i < ops.size:=(XY.1 ho).1
   have him:=isRem i hil hi0
   obtain ⟨l1,l2,rfl⟩:=List.append_of_mem him
   obtain ⟨ao,e1,e2,e3,e4⟩:=hafter i o ho
   have hdone:∀ p ∈ (asl.getD i default).after,p < ops.size->p ∉ l1++i::l2:=by
    intro p hp hpl
    rw [e1,e3] at hp
    obtain ⟨e,he,rfl⟩:=X0.1 hp
    obtain ⟨he1,he2⟩:=WG.1 he
    have:=hpre e (by simpa using he1) he2
    rw [getD_tf _ hpl] at this
    exact (hl e.on hpl).1 this
   have hai:(asl.map (·.after)).getD i []=(asl.getD i default).after:=by
    simp [Xh,show i < asl.length by omega]
   have hanci:∀ p ∈ (Zcl (asl.map (·.after)) []).getD i [],p ∉ l1++i::l2:=by
    intro p hp
    have hap:∀ q,q ∈ (asl.map (·.after)).getD i []->q < i:=fun q hq=>hp2 i (by omega) q (by rw [<-hai];exact hq)
    rcases hanc i (by simp;omega) p (by simpa using hp) with h | ⟨q,h1,h2,h3⟩
    ·exact hdone p (by rw [<-hai];exact h) (by have:=hap p h;omega)
    ·have hql:q < ops.size:=by simp at h2;omega
     exact hcl q hql (hdone q (by rw [<-hai];exact h1) hql) p h3
   have hl1:∀ j ∈ l1,j < i:=by
    intro j hj
    have:=Ww.1 hs
    exact this.2.2 j hj i (by simp)
   obtain ⟨v1,tm1,σ1,h1,hnp1,h2⟩:=ZnQ (l1:=l1) (i:=i) (fun j hj=>by
    have hji:=hl1 j hj
    have hjn:j ∉ (Zcl (asl.map (·.after)) []).getD i []:=fun hm=>hanci j hm (by simp [hj])
    obtain ⟨p1,p2⟩:=hp1 j i hji (by omega) hjn
    refine ⟨p1,?_,fun hn _=>?_,?_⟩
    ·rcases p2 with p2 | p2 | p2
     ·have:=Zh8 hr j (by simp [hj]) p2
      have hem:Zcs (asl.getD j default) (cs.getD j {})=true:=by rw [this];simp only [Zcs,ZjG p2];rfl
      simp only [ZcK,hem,Xaz]
     ·have:=Zh8 hr i (by simp) p2
      have hem:Zcs (asl.getD i default) (cs.getD i {})=true:=by rw [this];simp only [Zcs,ZjG p2];rfl
      simp only [ZcK,hem,Xaz,XaS]
     ·have:=XB.1 hchk (j,i) p2
      simp only [WF,beq_iff_eq] at this
      rcases this with h | h
      ·omega
      ·exact h
    ·have:=ZiD asl hji (by omega)
     omega
    ·have:=ZiD asl hji (by omega)
     omega) hr
   unfold wpOp
   rw [ho]
   rw [e1] at h1
   obtain ⟨I',β',g1,g2,g3,g4,g5⟩:=hst
   refine Zji hO hkp e2 g3 g4 g5 hb h1 (fun _ a' w' hs'=>ih (l1++l2) _ a' w' tm1 σ1 h2 ?_ ?_ ?_ (by simpa using hsz) ?_ ?_ (hs'.trans g1 g2)) (fun x e=>absurd e (hnp1 x))
   ·have:=Ww.1 hs
    exact Ww.2 ⟨this.1,(WQ.1 this.2.1).2,fun x hx y hy=>this.2.2 x hx y (by simp [hy])⟩
   ·intro j hj
    refine hlt j ?_
    simp only [Xt,XQ] at hj ⊢
    rcases hj with h | h
    ·exact Xr h
    ·exact Xv (Xv h)
   ·intro j hj
    have hs1:=Ww.1 hs
    by_cases hij:i=j
    ·subst hij
     have hn:i ∉ l1++l2:=by
      intro hm
      rcases Xt.1 hm with h | h
      ·have:=hl1 i h;omega
      ·have:=(WQ.1 hs1.2.1).1 i h;omega
     simp [WW,hsz,hil,hn]
    ·rw [getD_set_ne true hij,hl j hj]
     simp only [Xt,XQ,not_or]
     constructor
     ·rintro ⟨a1,_,a3⟩;exact ⟨a1,a3⟩
     ·rintro ⟨a1,a3⟩;exact ⟨a1,fun e=>hij e.symm,a3⟩
   ·intro k hk hkn p hp hm
    have hsub:p ∈ l1++i::l2:=by
     simp only [Xt,XQ] at hm ⊢
     rcases hm with h | h
     ·exact Xr h
     ·exact Xv (Xv h)
    by_cases hki:k=i
    ·subst hki;exact hanci p hp hsub
    ·refine hcl k hk (fun hkm=>hkn ?_) p hp hsub
     simp only [Xt,XQ] at hkm ⊢
     rcases hkm with h | h | h
     ·exact Xr h
     ·exact absurd h hki
     ·exact Xv h
   ·simp at hfl ⊢;omega
theorem ZLG (hO:ZaK P O) (hkp:∀ n ∈ dr.K,n ∈ an.keep) (hb:KLt base w0) {ops:Array Oper} {asl:List AOp} (hcomp:Zdw P an ops ops.toList=some asl) {ps:List (Nat×Nat)} (hps:ZfI asl=some ps) {L:Nat} {cs:List Cls} {jp:Nat} (hjl:jp < ops.size) (hmark:(jp,jp) ∈ ps) (hmarkT:(asl.getD jp default).ins.touches=true) (hfree:∀ j i,(j,i) ∈ ps->j < i->i<=jp->ZcK (asl.getD j default) (asl.getD i default) (cs.getD j {}) (cs.getD i {}) (L+sitesOf (asl.take j))=true) (hquiet:∀ j,(j,jp) ∈ ps->j < jp->Zan (asl.getD j default).ins=true)
  {x:AVal} {σF:Za} {Q:Exit->Act->World->Prop} {I:Imm} {β:Bmap} (hQ:∀ a' u w',dr.ok a'->Post base w0 I0 I β x σF u w'->Q (.panic [{ v:=u,recovered:=false }]) a' w') :
  ∀ (fuel:Nat) (pre post:List Nat) (listed:Array Bool) (a:Act) (w:World) (tm tmJ tmX:Tms) (σ σJ:Za),ZcN O bf asl L cs pre tm σ tmJ σJ->ZT O bf (asl.getD jp default) (L+sitesOf (asl.take jp)) tmJ σJ=some (.pan x,tmX,σF,cs.getD jp {})->(pre++jp::post).Pairwise (· < ·)->(∀ j ∈ pre++jp::post,j < ops.size)->(∀ j,j < ops.size->(listed.getD j true=true↔j ∉ pre++jp::post))->listed.size=ops.size ->
   (∀ k,k < ops.size->k ∉ pre++jp::post->∀ p ∈ (Zcl (asl.map (·.after)) []).getD k [],p ∉ pre++jp::post)->(pre++jp::post).length=fuel->StR dr an.nt base w0 I0 I β tm σ a w->wpAny P .any ops Q fuel listed a w:=by
 obtain ⟨hlen,hget⟩:=ZjR hcomp
 obtain ⟨hp1,hp2⟩:=ZrY hps
 have hmk:=ZD0 hps hmark
 obtain ⟨_,_,hanc⟩:=ZpX (asl.map (·.after)) [] (fun _ _ _=>trivial)
 simp only [XM] at hlen
 have hafter:∀ j o,ops[j]?=some o->∃ ao,asl.getD j default=ao/\ZgS P an ops o=some ao/\ao.after=(o.after.toList.filter (Region.binds .any)).map (·.on)/\ao.dst=o.dst:=by
  intro j o ho
  obtain ⟨ao,h1,h2⟩:=hget j o (by simpa using ho)
  refine ⟨ao,by simp [Xh,h1],h2,?_⟩
  obtain ⟨g,i,_,_,_,rfl⟩:=ZnR h2
  exact ⟨rfl,rfl⟩
 intro fuel
 induction fuel with
 | zero =>
  intro pre post listed a w tm tmJ tmX σ σJ hr hj hs hlt hl hsz hcl hfl hst
  simp at hfl
 | succ fuel ih =>
  intro pre post listed a w tm tmJ tmX σ σJ hr hj hs hlt hl hsz hcl hfl hst
  have getD_tf:∀ j,j < ops.size->listed.getD j false=listed.getD j true:=by
   intro j hj
   simp [WW,hsz,hj]
  have isRem:∀ j,j < ops.size->listed.getD j true=false->j ∈ pre++jp::post:=by
   intro j hj h
   by_cases hm:j ∈ pre++jp::post
   ·exact hm
   ·have:=(hl j hj).2 hm;rw [h] at this;cases this
  refine ⟨fun hnil=>?_,fun i hi=>?_⟩
  ·exfalso
   obtain ⟨r,rs,hrr⟩:∃ r rs,pre++jp::post=r::rs:=by cases pre <;> simp
   rw [hrr] at hs hlt hl
   have hrl:r < ops.size:=hlt r (by simp)
   have hro:ops[r]?=some ops[r]:=by simp [hrl]
   obtain ⟨ao,e1,e2,e3,_⟩:=hafter r _ hro
   have : r ∈ Region.ready .any ops listed:=by
    rw [mem_ready]
    refine ⟨?_,ops[r],hro,fun e he hbnd=>?_⟩
    ·cases hq:listed.getD r true with
     | false=>rfl
     | true=>exact absurd (XaD) ((hl r hrl).1 hq)
    ·have hon:e.on ∈ ao.after:=by rw [e3];exact X0.2 ⟨e,WG.2 ⟨by simpa using he,hbnd⟩,rfl⟩
     have hlt':e.on < r:=hp2 r (by omega) e.on (by rw [e1];exact hon)
     rw [getD_tf _ (by omega)]
     refine (hl e.on (by omega)).2 (fun hm=>?_)
     rcases XQ.1 hm with h | hm
     ·omega
     ·have:=(WQ.1 hs).1 e.on hm;omega
   rw [hnil] at this;simp at this
  ·rw [mem_ready] at hi
   obtain ⟨hi0,o,ho,hpre⟩:=hi
   have hil:i < ops.size:=(XY.1 ho).1
   have him:=isRem i hil hi0
   obtain ⟨ao,e1,e2,e3,e4⟩:=hafter i o ho
   have hdone:∀ p ∈ (asl.getD i default).after,p < ops.size->p ∉ pre++jp::post:=by
    intro p hp hpl
    rw [e1,e3] at hp
    obtain ⟨e,he,rfl⟩:=X0.1 hp
    obtain ⟨he1,he2⟩:=WG.1 he
    have:=hpre e (by simpa using he1) he2
    rw [getD_tf _ hpl] at this
    exact (hl e.on hpl).1 this
   have hai:(asl.map (·.after)).getD i []=(asl.getD i default).after:=by
    simp [Xh,show i < asl.length by omega]
   have hanci:∀ p ∈ (Zcl (asl.map (·.after)) []).getD i [],p ∉ pre++jp::post:=by
    intro p hp
    have hap:∀ q,q ∈ (asl.map (·.after)).getD i []->q < i:=fun q hq=>hp2 i (by omega) q (by rw [<-hai];exact hq)
    rcases hanc i (by simp;omega) p (by simpa using hp) with h | ⟨q,h1,h2,h3⟩
    ·exact hdone p (by rw [<-hai];exact h) (by have:=hap p h;omega)
    ·have hql:q < ops.size:=by simp at h2;omega
     exact hcl q hql (hdone q (by rw [<-hai];exact h1) hql) p h3
   have hss:=Ww.1 hs
   rw [Xt,XQ] at him
   rcases him with him | hij | him
   ·obtain ⟨l1,l2,rfl⟩:=List.append_of_mem him
    have hl1:∀ j ∈ l1,j < i:=by
     intro j hj
     exact (Ww.1 hss.1).2.2 j hj i (by simp)
    have hijp:i < jp:=hss.2.2 i (by simp) jp (by simp)
    obtain ⟨v1,tm1,σ1,h1,hnp1,h2⟩:=ZnQ (l1:=l1) (i:=i) (fun j hj'=>by
     have hji:=hl1 j hj'
     have hjn:j ∉ (Zcl (asl.map (·.after)) []).getD i []:=fun hm=>hanci j hm (by simp [hj'])
     obtain ⟨p1,p2⟩:=hp1 j i hji (by omega) hjn
     refine ⟨p1,?_,fun hn _=>?_,?_⟩
     ·rcases p2 with p2 | p2 | p2
      ·have:=Zh8 hr j (by simp [hj']) p2
       have hem:Zcs (asl.getD j default) (cs.getD j {})=true:=by rw [this];simp only [Zcs,ZjG p2];rfl
       simp only [ZcK,hem,Xaz]
      ·have:=Zh8 hr i (by simp) p2
       have hem:Zcs (asl.getD i default) (cs.getD i {})=true:=by rw [this];simp only [Zcs,ZjG p2];rfl
       simp only [ZcK,hem,Xaz,XaS]
      ·exact hfree j i p2 hji (by omega)
     ·have:=ZiD asl hji (by omega)
      omega
     ·have:=ZiD asl hji (by omega)
      omega) hr
    have eA:(l1++i::l2)++jp::post=l1++i::(l2++jp::post):=by simp
    have eB:(l1++l2)++jp::post=l1++(l2++jp::post):=by simp
    rw [eA] at hs hlt hl hcl hanci hfl
    unfold wpOp
    rw [ho]
    rw [e1] at h1
    obtain ⟨I',β',g1,g2,g3,g4,g5⟩:=hst
    refine Zji hO hkp e2 g3 g4 g5 hb h1 (fun _ a' w' hs'=>ih (l1++l2) post _ a' w' tm1 tmJ tmX σ1 σJ h2 hj ?_ ?_ ?_ (by simpa using hsz) ?_ ?_ (hs'.trans g1 g2)) (fun x e=>absurd e (hnp1 x))
    ·rw [eB]
     have:=Ww.1 hs
     exact Ww.2 ⟨this.1,(WQ.1 this.2.1).2,fun x hx y hy=>this.2.2 x hx y (by simp only [XQ];exact Xv hy)⟩
    ·intro j hj
     rw [eB] at hj
     refine hlt j ?_
     simp only [Xt,XQ] at hj ⊢
     rcases hj with h | h | h | h
     ·exact Xr h
     ·exact Xv (Xv (Xr h))
     ·exact Xv (Xv (Xv (Xr h)))
     ·exact Xv (Xv (Xv (Xv h)))
    ·intro j hj
     rw [eB]
     generalize l2++jp::post=L2 at *
     have hs1:=Ww.1 hs
     by_cases hij:i=j
     ·subst hij
      have hn:i ∉ l1++L2:=by
       intro hm
       rcases Xt.1 hm with h | h
       ·have:=hl1 i h;omega
       ·have:=(WQ.1 hs1.2.1).1 i h;omega
      simp [WW,hsz,hil,hn]
     ·rw [getD_set_ne true hij,hl j hj]
      simp only [Xt,XQ,not_or]
      constructor
      ·rintro ⟨a1,_,a3⟩;exact ⟨a1,a3⟩
      ·rintro ⟨a1,a3⟩;exact ⟨a1,fun e=>hij e.symm,a3⟩
    ·intro k hk hkn p hp hm
     rw [eB] at hkn hm
     generalize l2++jp::post=L2 at *
     have hsub:p ∈ l1++i::L2:=by
      simp only [Xt,XQ] at hm ⊢
      rcases hm with h | h
      ·exact Xr h
      ·exact Xv (Xv h)
     by_cases hki:k=i
     ·subst hki;exact hanci p hp hsub
     ·refine hcl k hk (fun hkm=>hkn ?_) p hp hsub
      simp only [Xt,XQ] at hkm ⊢
      rcases hkm with h | h | h
      ·exact Xr h
      ·exact absurd h hki
      ·exact Xv h
    ·rw [eB];simp at hfl ⊢;omega
   ·subst hij
    have hl1:∀ j ∈ pre,j < i:=fun j hj=>hss.2.2 j hj i (by simp)
    obtain ⟨tm1,h1⟩:=Zua (l1:=pre) (i:=i) (fun j hj'=>by
     have hji:=hl1 j hj'
     have hjn:j ∉ (Zcl (asl.map (·.after)) []).getD i []:=fun hm=>hanci j hm (by simp [hj'])
     obtain ⟨p1,p2⟩:=hp1 j i hji (by omega) hjn
     have hts:(asl.getD i default).ins.touches=false->False:=fun h=>by
      have:=hmarkT
      rw [h] at this;cases this
     refine ⟨?_,p1,?_,fun hn _=>?_,?_⟩
     ·rcases p2 with p2 | p2 | p2
      ·exact Xr p2
      ·exact (hts p2).elim
      ·exact Xv (hquiet j p2 hji)
     ·rcases p2 with p2 | p2 | p2
      ·have:=Zh8 hr j hj' p2
       have hem:Zcs (asl.getD j default) (cs.getD j {})=true:=by rw [this];simp only [Zcs,ZjG p2];rfl
       simp only [ZcK,hem,Xaz]
      ·exact (hts p2).elim
      ·exact hfree j i p2 hji (Xx _)
     ·have:=ZiD asl hji (by omega)
      omega
     ·have:=ZiD asl hji (by omega)
      omega) hr hj
    unfold wpOp
    rw [ho]
    rw [e1] at h1
    obtain ⟨I',β',g1,g2,g3,g4,g5⟩:=hst
    refine Zji hO hkp e2 g3 g4 g5 hb h1 (fun hn=>absurd rfl (hn x)) (fun x' e u w' hp=>?_)
    injection e with e
    subst e
    exact hQ a u w' g4.1 (hp.trans g1 g2)
   ·exfalso
    have hlt2:jp < i:=(WQ.1 hss.2.1).1 i him
    exact hanci jp (hmk i hlt2 (by omega)) (by simp)
theorem Rel.reserve {I:Imm} {β:Bmap} {σ:Za} {w:World} (R:Rel base w0 I0 I β σ w) (n:Nat):Rel base w0 I0 I β (σ++XE n .free) w:=by
 have look:∀ t x,(σ++XE n ZR.free)[t]?=some x->σ[t]?=some x\/(σ.length<=t/\x=.free):=by
  intro t x h
  by_cases ht:t < σ.length
  ·rw [Wh ht] at h;exact Xr h
  ·rw [List.getElem?_append_right (by omega)] at h
   refine Xv ⟨by omega,?_⟩
   have:=Xz h
   exact List.eq_of_mem_replicate this
 refine ⟨R.below,R.old,R.imm,?_,?_,?_,?_,?_,?_,R.glob⟩
 ·intro t x h
  rcases look t x h with h | ⟨_,rfl⟩
  ·exact R.blk t x h
  ·trivial
 ·intro t x b h hb
  rcases look t x h with h | ⟨_,rfl⟩
  ·exact R.own t x b h hb
  ·cases hb
 ·intro t x t' x' b h h' hb hb'
  rcases look t x h with h | ⟨_,rfl⟩
  ·rcases look t' x' h' with h' | ⟨_,rfl⟩
   ·exact R.apart t x t' x' b h h' hb hb'
   ·cases hb'
  ·cases hb
 ·intro t g h
  exact R.fresh t g (by simp at h;omega)
 ·intro t g h
  rcases look t _ h with h | ⟨h,_⟩
  ·exact R.free t g h
  ·exact R.fresh t g h
 ·intro t x g h hg
  rcases look t _ h with h | ⟨h,_⟩
  ·exact R.gen t x g h hg
  ·exact R.fresh t g h
theorem StR.keep {I:Imm} {β:Bmap} {tm:Tms} {σ:Za} {a:Act} {w:World} (h:StR dr an.nt base w0 I0 I β tm σ a w) (live:List Nat):StR dr an.nt base w0 I0 I β (keepL live tm) σ a w:=by
 obtain ⟨I',β',h1,h2,h3,h4⟩:=h
 exact ⟨I',β',h1,h2,h3.keep live,h4⟩
def ZI4 (dr:Door) (an:Ann) (base:Nat->Prop) (w0:World) (I0 I:Imm) (β:Bmap) (e:Za1) (tm:Tms) (σ:Za) (Q:Exit->Act->World->Prop):Prop:=match e with
 | .normal=>∀ a w,StR dr an.nt base w0 I0 I β tm σ a w->Q .normal a w
 | .exit id=>∀ a w,StR dr an.nt base w0 I0 I β tm σ a w->Q (.exit id) a w
 | .ret=>∀ a w,StR dr an.nt base w0 I0 I β tm σ a w->Q .ret a w
 | .panic x=>∀ a u w,dr.ok a->Post base w0 I0 I β x σ u w->Q (.panic [{ v:=u,recovered:=false }]) a w
theorem Zkr (hO:ZaK P O) (hkp:∀ n ∈ dr.K,n ∈ an.keep) (hm:P.follows .mixedOrders=true) (hb:KLt base w0) {id:Nat} {ops:Array Oper} {draw:Bool} {asl:List AOp} {chk:Option (List (Nat×Nat))} {live:List Nat} (hc:Za6 P an (.region id ops draw)=.region asl chk live) {I:Imm} {β:Bmap} {tm tm':Tms} {σ σ':Za} {a:Act} {w:World} {e:Za1}
  (hst:StR dr an.nt base w0 I0 I β tm σ a w) (h:Zch O bf asl chk live tm σ=some (e,tm',σ')) {Q:Exit->Act->World->Prop} (hQ:ZI4 dr an base w0 I0 I β e tm' σ' Q):(Code.region id ops draw).wp P Q a w:=by
 obtain ⟨I1,β1,g1,g2,g3,g4,g5⟩:=hst
 simp only [Za6] at hc
 split at hc
 ·rename_i l hl
  unfold Zch at h
  split at hc
  ·rename_i hd
   subst hd
   split at hc
   ·rename_i ps hps
    simp only [Zf.region.injEq] at hc
    obtain ⟨rfl,rfl,rfl⟩:=hc
    cases hrun:Z7 O bf l σ.length tm (σ++XE (sitesOf l) .free) with
    | none=>rw [hrun] at h;simp only [Zc5] at h;cases h
    | some q =>
     obtain ⟨tm1,σ1,cs,p⟩:=q
     rw [hrun] at h
     cases p with
     | some x =>
      simp only [Zc5] at h
      split at h
      ·rename_i hpan
       simp only [Xb,Xd] at h
       obtain ⟨rfl,rfl,rfl⟩:=h
       have hlen:=(ZjR hl).1
       simp only [XM] at hlen
       obtain ⟨n,tmJ,σJ,tmX,q1,q2,q3,q4⟩:=Zxd (O:=O) (bf:=bf) (ops:=l) (L:=σ.length) l.length 0 (cs:=cs) (cs':=cs) (by omega) (by simpa [sitesOf] using hrun) (fun j=>by simp)
       rw [XG] at q4
       unfold ZdF at hpan
       rw [q2] at hpan
       simp only [Xl,List.any_eq_true,XB,WF,beq_iff_eq,decide_eq_true_eq,Nat.add_sub_cancel] at hpan
       obtain ⟨⟨pm,hpm,hm1,hm2⟩,hall⟩:=hpan
       have hmk:(n,n) ∈ ps:=by
        obtain ⟨a1,a2⟩:=pm
        simp only at hm1 hm2
        subst hm1 hm2
        exact hpm
       have hT:(l.getD n default).ins.touches=true:=ZxH hps hmk
       refine wp_region_any hm (ZLG hO hkp hb hl hps (jp:=n) (by omega) hmk hT (fun j i hji h1 h2=>?_) (fun j hj h1=>?_) (I:=I) (β:=β) (x:=x) (fun a' u w' hd' hp=>hQ a' u w' hd' hp) ops.size (Xax 0 n) (Xax (n+1) (l.length - n - 1)) _ a _ tm tmJ tmX _ σJ q3 q4 ?_ ?_ ?_ (by simp) ?_ (by simp;omega) ⟨I1,β1,g1,g2,g3,g4,(g5.reserve _).same rfl rfl rfl rfl⟩)
       ·rcases hall (j,i) hji with (h | h) | ⟨h,_⟩
        ·simp only at h;omega
        ·simp only at h;omega
        ·exact h
       ·rcases hall (j,n) hj with (h | h) | ⟨_,h⟩
        ·simp only at h;omega
        ·simp only at h;omega
        ·rcases h with h | h
         ·simp only at h;omega
         ·exact h
       ·have e:Xax 0 n++n::Xax (n+1) (l.length - n - 1)=Xax 0 l.length:=by
         rw [<-List.range'_succ]
         have:=List.range'_append_1 (s:=0) (m:=n) (n:=l.length - n - 1+1)
         rw [XG] at this
         rw [this]
         congr 1
         omega
        rw [e];exact List.pairwise_lt_range'
       ·intro j hj;simp at hj;omega
       ·intro j hj
        simp [WW,hj]
        omega
       ·intro k hk hkn
        exact absurd (by simp;omega) hkn
      ·cases h
     | none =>
      simp only [Zc5] at h
      split at h
      ·rename_i hchk
       simp only [Xb,Xd] at h
       obtain ⟨rfl,rfl,rfl⟩:=h
       have hlen:=(ZjR hl).1
       simp only [XM] at hlen
       have hr:=Zsa (O:=O) (bf:=bf) (ops:=l) (L:=σ.length) l.length 0 (cs:=cs) (cs':=cs) (by omega) (by simpa [sitesOf] using hrun) (fun j=>by simp)
       refine wp_region_any hm (ZGE hO hkp hb hl hps hchk (I:=I) (β:=β) (fun a' w' hs=>hQ a' w' (hs.keep _)) ops.size (Xax 0 l.length) _ a _ tm _ hr ?_ ?_ ?_ (by simp) ?_ (by simp [hlen]) ⟨I1,β1,g1,g2,g3,g4,(g5.reserve _).same rfl rfl rfl rfl⟩)
       ·exact List.pairwise_lt_range'
       ·intro j hj;simp at hj;omega
       ·intro j hj
        simp [WW,hj,hlen]
       ·intro k hk hkn
        exact absurd (by simp;omega) hkn
      ·cases h
   ·cases hc
  ·rename_i hd
   simp only [Zf.region.injEq] at hc
   obtain ⟨rfl,rfl,rfl⟩:=hc
   have hdf:draw=false:=by cases draw <;> simp_all
   subst hdf
   cases hrun:Z7 O bf l σ.length tm (σ++XE (sitesOf l) .free) with
   | none=>rw [hrun] at h;simp only [Zc5] at h;cases h
   | some q =>
    obtain ⟨tm1,σ1,cs,p⟩:=q
    rw [hrun] at h
    cases p with
    | none =>
     simp only [Zc5,Xb,Xd] at h
     obtain ⟨rfl,rfl,rfl⟩:=h
     exact wp_region_list (ZqG hO hkp hb hl g3 g4 (g5.reserve _) hrun (fun _ a' w' hs=>hQ a' w' ((hs.trans g1 g2).keep _)) (fun x hx=>by cases hx))
    | some x =>
     simp only [Zc5,Xb,Xd] at h
     obtain ⟨rfl,rfl,rfl⟩:=h
     exact wp_region_list (ZqG hO hkp hb hl g3 g4 (g5.reserve _) hrun (fun hx=>by cases hx) (fun x' hx a' u w' hd' hp=>by
      injection hx with hx;subst hx
      exact hQ a' u w' hd' (hp.trans g1 g2)))
 ·cases hc
end
end
section
open Go.RowKit
section
variable {P:Program} {O:ZX} {bf:Nat->Bool} {an:Ann} {base:Nat->Prop} {w0:World} {I0:Imm} {dr:Door}
def StF (dr:Door) (m nt:Nat) (base:Nat->Prop) (w0:World) (I0 I:Imm) (β:Bmap) (tm:Tms) (σ:Za) (a:Act) (w:World):Prop :=
 ∃ I' β',I.le I'/\KeptE m β β'/\TR I' β' tm a.tmps/\(dr.ok a/\nt<=a.tmps.size)/\Rel base w0 I0 I' β' σ w
def Zzw (dr:Door) (m:Nat) (an:Ann) (base:Nat->Prop) (w0:World) (I0 I:Imm) (β:Bmap) (e:Za1) (tm:Tms) (σ:Za) (Q:Exit->Act->World->Prop):Prop:=match e with
 | .normal=>∀ a w,StF dr m an.nt base w0 I0 I β tm σ a w->Q .normal a w
 | .exit id=>∀ a w,StF dr m an.nt base w0 I0 I β tm σ a w->Q (.exit id) a w
 | .ret=>∀ a w,StF dr m an.nt base w0 I0 I β tm σ a w->Q .ret a w
 | .panic x=>∀ a u w,dr.ok a->Zcd m base w0 I0 I β (.pan x) σ u w->Q (.panic [{ v:=u,recovered:=false }]) a w
theorem StF.cond {m:Nat} {I:Imm} {β:Bmap} {tm:Tms} {σ:Za} {a:Act} {w:World} (h:StF dr m an.nt base w0 I0 I β tm σ a w) {c:Operand} {y:Opd} (hc:Zao c=some y) {b:Bool} (hv:y.ev tm=.bool b):a.eval c=.bool b:=by
 obtain ⟨I',β',_,_,T,_,_⟩:=h
 have:=Zar T hc
 rw [hv] at this
 simpa only [VR] using this
theorem ZjZ (hO:ZaK P O) (hkp:∀ n ∈ dr.K,n ∈ an.keep) (hm:P.follows .mixedOrders=true) (hb:KLt base w0) (m n:Nat):∀ {c:Code} {ac:Zf},Za6 P an c=ac->∀ {I:Imm} {β:Bmap} {tm tm':Tms} {σ σ':Za} {a:Act} {w:World} {e:Za1},StF dr m an.nt base w0 I0 I β tm σ a w->Zad O bf m n ac tm σ=some (e,tm',σ') ->
  ∀ {Q:Exit->Act->World->Prop},Zzw dr m an base w0 I0 I β e tm' σ' Q->c.wp P Q a w:=by
 intro c
 induction c with
 | skip =>
  intro ac hc I β tm tm' σ σ' a w e hst h Q hQ
  simp only [Za6] at hc;subst hc
  simp only [Zad,Xb,Xd] at h
  obtain ⟨rfl,rfl,rfl⟩:=h
  exact wp_skip (hQ a w hst)
 | region id ops draw =>
  intro ac hc I β tm tm' σ σ' a w e hst h Q hQ
  obtain ⟨asl,chk,live,rfl⟩:∃ asl chk live,ac=.region asl chk live:=by
   simp only [Za6] at hc
   split at hc
   ·split at hc
    ·split at hc
     ·exact ⟨_,_,_,hc.symm⟩
     ·subst hc;simp only [Zad] at h;cases h
    ·exact ⟨_,_,_,hc.symm⟩
   ·subst hc;simp only [Zad] at h;cases h
  simp only [Zad] at h
  obtain ⟨I1,β1,g1,g2,g3,g4,g5⟩:=hst
  have up:∀ {tm:Tms} {σ:Za} {a':Act} {w':World},StR dr an.nt base w0 I0 I1 β1 tm σ a' w'->StF dr m an.nt base w0 I0 I β tm σ a' w':=by
   rintro tm σ a' w' ⟨I2,β2,k1,k2,k3⟩
   exact ⟨I2,β2,g1.trans k1,g2.trans (KeptE.of_le k2),k3⟩
  refine Zkr hO hkp hm hb hc (⟨I1,β1,Imm.le.refl I1,Bmap.le.refl β1,g3,g4,g5⟩:StR dr an.nt base w0 I0 I1 β1 tm σ a w) h ?_
  cases e with
  | normal=>exact fun a' w' hs=>hQ a' w' (up hs)
  | exit id=>exact fun a' w' hs=>hQ a' w' (up hs)
  | ret=>exact fun a' w' hs=>hQ a' w' (up hs)
  | panic x =>
   rintro a' u w' hd ⟨I2,β2,k1,k2,k3,k4⟩
   exact hQ a' u w' hd ⟨I2,β2,g1.trans k1,g2.trans (KeptE.of_le k2),k3,k4⟩
 | seq x y ihx ihy =>
  intro ac hc I β tm tm' σ σ' a w e hst h Q hQ
  simp only [Za6] at hc
  subst hc
  simp only [Zad] at h
  refine wp_seq ?_
  split at h
  ·rename_i tm1 σ1 h1
   exact ihx rfl hst h1 (fun a' w' hs=>ihy rfl hs h hQ)
  ·rename_i hne
   refine ihx rfl hst h ?_
   cases e with
   | normal=>exact absurd h (hne _ _)
   | exit id=>exact hQ
   | ret=>exact hQ
   | panic x=>exact hQ
 | cond c x y ihx ihy =>
  intro ac hc I β tm tm' σ σ' a w e hst h Q hQ
  simp only [Za6] at hc
  split at hc
  ·rename_i c' hcc
   subst hc
   simp only [Zad] at h
   split at h
   ·rename_i hv
    exact wp_cond_true (hst.cond hcc hv) (ihx rfl hst h hQ)
   ·rename_i hv
    exact wp_cond_false (hst.cond hcc hv) (ihy rfl hst h hQ)
   ·cases h
  ·subst hc;simp only [Zad] at h;cases h
 | block id x ih =>
  intro ac hc I β tm tm' σ σ' a w e hst h Q hQ
  simp only [Za6] at hc
  subst hc
  have hx:Za6 P an x=Za6 P an x:=rfl
  simp only [Zad] at h
  refine wp_block ?_
  split at h
  ·rename_i i tm1 σ1 h1
   refine ih hx hst h1 ?_
   intro a' w' hs
   simp only [Exit.inBlock]
   split at h
   ·rename_i hid
    simp only [Xb,Xd] at h
    obtain ⟨rfl,rfl,rfl⟩:=h
    rw [if_pos hid]
    exact hQ a' w' hs
   ·rename_i hid
    simp only [Xb,Xd] at h
    obtain ⟨rfl,rfl,rfl⟩:=h
    rw [if_neg hid]
    exact hQ a' w' hs
  ·rename_i hne
   refine ih hx hst h ?_
   cases e with
   | normal=>exact hQ
   | exit id=>exact absurd h (hne _ _ _)
   | ret=>exact hQ
   | panic x=>exact hQ
 | loop x ih =>
  intro ac hc I β tm tm' σ σ' a w e hst h Q hQ
  simp only [Za6] at hc
  subst hc
  have hx:Za6 P an x=Za6 P an x:=rfl
  simp only [Zad] at h
  refine wp_loop_rounds n ?_
  have key:∀ k {tm:Tms} {σ:Za} {a:Act} {w:World},StF dr m an.nt base w0 I0 I β tm σ a w->Zds m (an.ll (Zfc x)) (Zad O bf m n (Za6 P an x)) k tm σ=some (e,tm',σ')->Code.rounds P x Q k a w:=by
   intro k
   induction k with
   | zero=>intro tm σ a w _ h;simp only [Zds] at h;cases h
   | succ k ihk =>
    intro tm σ a w hst h
    rw [rounds_succ]
    simp only [Zds] at h
    obtain ⟨I1,β1,k1,k2,k3,k4,k5⟩:=hst
    obtain ⟨β2,q1,q2,q3⟩:=ZE5 k5 (k3.keep (an.ll (Zfc x))) m
    have hst0:StF dr m an.nt base w0 I0 I β (gcT m (keepL (an.ll (Zfc x)) tm) σ).1 (gcT m (keepL (an.ll (Zfc x)) tm) σ).2 a w:=⟨I1,β2,k1,k2.trans q1,q3,k4,q2⟩
    split at h
    ·rename_i tm1 σ1 h1
     exact ih hx hst0 h1 (fun a' w' hs=>ihk hs h)
    ·rename_i hne
     refine ih hx hst0 h ?_
     cases e with
     | normal=>exact absurd h (hne _ _)
     | exit id=>exact hQ
     | ret=>exact hQ
     | panic x=>exact hQ
  exact key n hst h
 | exit id =>
  intro ac hc I β tm tm' σ σ' a w e hst h Q hQ
  simp only [Za6] at hc;subst hc
  simp only [Zad,Xb,Xd] at h
  obtain ⟨rfl,rfl,rfl⟩:=h
  exact wp_exit (hQ a w hst)
 | ret =>
  intro ac hc I β tm tm' σ σ' a w e hst h Q hQ
  simp only [Za6] at hc;subst hc
  simp only [Zad,Xb,Xd] at h
  obtain ⟨rfl,rfl,rfl⟩:=h
  exact wp_ret (hQ a w hst)
 | rangeFunc f ps x y=>intro ac hc I β tm tm' σ σ' a w e hst h;simp only [Za6] at hc;subst hc;simp only [Zad] at h;cases h
 | scope x ih =>
  intro ac hc I β tm tm' σ σ' a w e hst h Q hQ
  simp only [Za6] at hc
  refine wp_scope_straight (ih hc hst h ?_)
  cases e with
  | normal=>exact hQ
  | exit id=>exact hQ
  | ret=>exact hQ
  | panic x=>exact hQ
 | label l =>
  intro ac hc I β tm tm' σ σ' a w e hst h Q hQ
  simp only [Za6] at hc;subst hc
  simp only [Zad,Xb,Xd] at h
  obtain ⟨rfl,rfl,rfl⟩:=h
  exact wp_label (hQ a w hst)
 | goto l=>intro ac hc I β tm tm' σ σ' a w e hst h;simp only [Za6] at hc;subst hc;simp only [Zad] at h;cases h
 | refuse why=>intro ac hc I β tm tm' σ σ' a w e hst h;simp only [Za6] at hc;subst hc;simp only [Zad] at h;cases h
theorem ZPo {I:Imm} {β:Bmap} {σ σ':Za} {k:Option Nat} {a x:AVal} {c:Cls} {v:Value} (ha:VR I β a v) (h:ldA σ k a=some (x,σ',c)):∃ ad,v=.pointer (some ad):=by
 unfold ldA at h
 split at h
 ·simp only [VR] at ha;obtain ⟨b,k,c,_,rfl⟩:=ha;exact ⟨_,rfl⟩
 ·simp only [VR] at ha;obtain ⟨b,k,c,_,rfl⟩:=ha;exact ⟨_,rfl⟩
 ·simp only [VR] at ha;obtain ⟨b,off,rfl,_⟩:=ha;exact ⟨_,rfl⟩
 ·cases h
def Zjr (tmps:Array Value):ResultVar->Sem Value
 | .tmp t=>pure (tmps.getD t undef)
 | .cell a t=>do loadVar t (<-asAddr (tmps.getD a undef))
theorem ZqH {I:Imm} {β:Bmap} {tm:Tms} {σ:Za} {w:World} {tmps:Array Value} (T:TR I β tm tmps) (R:Rel base w0 I0 I β σ w):∀ {rs:List ResultVar} {asl:List ZcQ} {xs:List AVal},ZeU P rs=some asl->resAll tm σ asl=some xs ->
  ∃ vs:List Value,(rs.mapM (Zjr tmps)).run P w=.ok vs w/\VRs I β xs vs
 | [],asl,xs,hc,h=>by
  simp only [ZeU,Xb] at hc;subst hc
  simp only [resAll,Xb] at h;subst h
  exact ⟨[],by simp,by simp only [VRs]⟩
 | r::rs,asl,xs,hc,h=>by
  have getD_eq:∀ t,VR I β (tget tm t) (tmps.getD t undef):=T
  cases r with
  | tmp t =>
   simp only [ZeU,Xp] at hc
   obtain ⟨as',has,rfl⟩:=hc
   simp only [resAll,resOne] at h
   split at h
   ·rename_i ys hys
    injection h with h;subst h
    obtain ⟨vs,h1,h2⟩:=ZqH T R has hys
    exact ⟨tmps.getD t undef::vs,by simp only [XaV,Zjr,Sem.run_bind,Sem.run_pure,Result.andThen_ok,h1],by simp only [VRs];exact ⟨_,_,rfl,getD_eq t,h2⟩⟩
   ·cases h
  | cell a t =>
   simp only [ZeU] at hc
   split at hc
   ·rename_i k as' hk has
    injection hc with hc;subst hc
    simp only [resAll,resOne] at h
    split at h
    ·rename_i v hv
     split at h
     ·rename_i ys hys
      injection h with h;subst h
      obtain ⟨vs,h1,h2⟩:=ZqH T R has hys
      split at hv
      ·rename_i v' σ1 c1 hld
       injection hv with hv;subst hv
       obtain ⟨u,hu1,hu2,_⟩:=Zt7 hk R (getD_eq a) hld
       obtain ⟨ad,had⟩:=ZPo (getD_eq a) hld
       have hlv:(loadVar t ad).run P w=.ok u w:=by
        rw [had] at hu1
        simpa [Instr.loadAt,Instr.sureAddr] using hu1
       refine ⟨u::vs,?_,by simp only [VRs];exact ⟨_,_,rfl,hu2,h2⟩⟩
       simp only [XaV,Zjr,had,asAddr,Sem.run_bind,Sem.run_pure,Result.andThen_ok,hlv,h1]
      ·cases hv
     ·cases h
    ·cases h
   ·cases hc
theorem Zsu {I:Imm} {β:Bmap} {tm:Tms} {σ:Za} {w:World} {tmps:Array Value} (T:TR I β tm tmps) (R:Rel base w0 I0 I β σ w) {fn:Func} {asl:List ZcQ} {x:AVal} (hc:ZeU P fn.results.toList=some asl) (h:resA tm σ asl=some x):∃ v,(results fn tmps).run P w=.ok v w/\VR I β x v:=by
 unfold resA at h
 have run:∀ {xs:List AVal},resAll tm σ asl=some xs->∃ vs:List Value,(results fn tmps).run P w=.ok (if h:vs.toArray.size=1 then vs.toArray[0] else .tuple vs.toArray) w/\VRs I β xs vs:=by
  intro xs hx
  obtain ⟨vs,h1,h2⟩:=ZqH T R hc hx
  refine ⟨vs,?_,h2⟩
  have hm:(fn.results.mapM (Zjr tmps)).run P w=.ok vs.toArray w:=by
   rw [Array.mapM_eq_mapM_toList,Sem.run_map,h1];rfl
  have he:results fn tmps=(do let vs <-fn.results.mapM (Zjr tmps);pure (if h:vs.size=1 then vs[0] else .tuple vs)):=by
   unfold results
   congr 1
  rw [he,Sem.run_bind,hm]
  rfl
 split at h
 ·rename_i v hv
  injection h with h;subst h
  obtain ⟨vs,h1,h2⟩:=run hv
  simp only [VRs] at h2
  obtain ⟨u,us,rfl,h3,rfl⟩:=h2
  exact ⟨u,by rw [h1];simp,h3⟩
 ·rename_i vs' hv hne
  injection h with h;subst h
  obtain ⟨vs,h1,h2⟩:=run hne
  have hl:=ZaU h2
  refine ⟨.tuple vs.toArray,?_,by simp only [VR];exact ⟨_,rfl,by simpa using h2⟩⟩
  rw [h1,dif_neg]
  intro hs
  simp only [List.size_toArray] at hs
  match vs',hl with
  | [v],_=>exact hv v rfl
  | [],hl=>simp at hl;omega
  | _::_::_,hl=>simp at hl;omega
 ·cases h
theorem Zud:∀ (args:List AVal) (i:Nat) (acc:Tms) (n:Nat),tget (enterA i args acc) n=if i<=n/\n < i+args.length then args.getD (n - i) .top else tget acc n
 | [],i,acc,n=>by simp only [enterA,XJ];rw [if_neg (by omega)]
 | x::xs,i,acc,n=>by
  simp only [enterA,XF]
  rw [Zud xs (i+1) _ n]
  by_cases h:i+1<=n/\n < i+1+xs.length
  ·rw [if_pos h,if_pos (by omega),show n - i=(n - (i+1))+1 by omega,XN]
  ·rw [if_neg h]
   simp only [tget]
   by_cases h1:i=n
   ·subst h1
    rw [if_pos rfl,if_pos (by omega),Nat.sub_self,Xu]
   ·rw [if_neg h1,if_neg (by omega)]
theorem ZnD {I:Imm} {β:Bmap} {args:List AVal} {vs:Array Value} (h:VRs I β args vs.toList) (n:Nat):TR I β (enterA 0 args []) (vs++W3 n undef):=by
 intro j
 rw [Zud]
 have hl:=ZaU h
 simp only [XM] at hl
 split
 ·rename_i hj
  have hjl:j < args.length:=by omega
  obtain ⟨v,h1,h2⟩:=ZcJ h (XP hjl)
  have e1:args.getD (j - 0) .top=args[j]:=by simp [Xh,hjl]
  have e2:(vs++W3 n undef).getD j undef=v:=by
   rw [Wz,Array.getElem?_append_left (by omega)]
   have : vs[j]?=some v:=by simpa using h1
   rw [this];rfl
  rw [e1,e2];exact h2
 ·simp only [tget,VR]
def Zmp (P:Program) (prim:ZcM):Prop:=∀ f g,prim f=some g->∀ args σ r σ',g args σ=some (r,σ') ->
 (∃ fn,P.funcs[f]?=some fn/\fn.body.isSome=true/\(fn.name == "runtime.NumGoroutine")=false) /\
 ∀ base w0 I0 I β w (vs:Array Value),KLt base w0->Rel base w0 I0 I β σ w->VRs I β args vs.toList ->
  Calls P f vs w (fun e w'=>∃ u,Ends r e u/\Zcd σ.length base w0 I0 I β r σ' u w')
theorem ZqU (hm:P.follows .mixedOrders=true) {prim:ZcM} (hP:Zmp P prim) (ann:Nat->Ann) (bf:Nat->Bool):∀ n,ZaK P (ZaE (ZjV P ann) prim bf n)
 | 0=>by intro f args σ r σ' h;simp only [ZaE] at h;cases h
 | n+1=>by
  have ih:=ZqU hm hP ann bf n
  intro f args σ r σ' h
  simp only [ZaE] at h
  split at h
  ·rename_i g hg
   exact hP f g hg args σ r σ' h
  split at h
  ·cases h
  rename_i fn hfn
  unfold ZjV at hfn
  split at hfn
  ·rename_i F hF
   split at hfn
   ·rename_i body hbody
    split at hfn
    ·cases hfn
    ·rename_i hname
     split at hfn
     ·rename_i rs hrs
      injection hfn with hfn;subst hfn
      refine ⟨⟨F,hF,by rw [hbody];rfl,by simpa using hname⟩,?_⟩
      intro base w0 I0 I β w vs hb R hargs
      refine calls_of_wp hF hbody ?_
      have T:=ZnD hargs (F.ntmps - vs.size)
      have hst:StF ZbX σ.length F.ntmps base w0 I0 I β (enterA 0 args []) σ { tmps:=vs++W3 (F.ntmps - vs.size) undef,defers:=[] } w:=⟨I,β,Imm.le.refl I,KeptE.refl _ β,T,⟨Zfv.2 rfl,by simp;omega⟩,R⟩
      cases hx:Zad (ZaE (ZjV P ann) prim bf n) bf σ.length n (Za6 P { ann f with nt:=F.ntmps } body) (enterA 0 args []) σ with
      | none=>rw [hx] at h;simp only [Zav] at h;cases h
      | some q =>
       obtain ⟨e,tm',σ1⟩:=q
       rw [hx] at h
       have fin:(match resA tm' σ1 rs with | some r=>Zak σ.length σ1 r | none=>none)=some (r,σ')->∀ a' w',StF ZbX σ.length F.ntmps base w0 I0 I β tm' σ1 a' w'->a'.defers=[]/\∃ v,(results F a'.tmps).run P w'=.ok v w'/\∃ u,Ends r (.returned v) u/\Zcd σ.length base w0 I0 I β r σ' u w':=by
        intro hr a' w' ⟨I1,β1,g1,g2,g3,g4,g5⟩
        split at hr
        ·rename_i x hx1
         obtain ⟨v,h1,h2⟩:=Zsu g3 g5 hrs hx1
         have hnp:∀ y,x≠.pan y:=by rintro y rfl;simp only [VR] at h2
         obtain ⟨q1,q2⟩:=ZkR (⟨I1,β1,g1,g2,g5,by rw [Zgw hnp];exact h2⟩:Zcd σ.length base w0 I0 I β x σ1 v w') hr
         refine ⟨Zfv.1 g4.1,v,h1,v,q2 _ ?_,q1⟩
         cases x <;> first | rfl | exact absurd rfl (hnp _)
        ·cases hr
       refine ZjZ (dr:=ZbX) (an:={ ann f with nt:=F.ntmps }) ih (fun n hn=>by simp [ZbX] at hn) hm hb σ.length n rfl hst hx ?_
       cases e with
       | normal=>simp only [Zav] at h;exact fun a' w' hs=>fin h a' w' hs
       | ret=>simp only [Zav] at h;exact fun a' w' hs=>fin h a' w' hs
       | exit id=>simp only [Zav] at h;cases h
       | panic x =>
        simp only [Zav] at h
        intro a' u w' hd hp
        obtain ⟨q1,q2⟩:=ZkR hp h
        exact ⟨Zfv.1 hd,u,q2 _ rfl,q1⟩
     ·cases hfn
   ·cases hfn
  ·cases hfn
end
end
section
open Go.RowKit
def OLe (O O':ZX):Prop:=∀ f a σ r,O f a σ=some r->O' f a σ=some r
section
variable {O O':ZX} {bf:Nat->Bool}
theorem ZGG {view:Bool} {m:Nat} {x y:Option (AVal×Za)} (h:∀ r,x=some r->y=some r) {r:AVal×Za} (hr:Z2 view m x=some r):Z2 view m y=some r:=by
 cases x with
 | none=>cases view <;> simp [Z2,Zbw] at hr
 | some q=>rw [h q rfl];exact hr
theorem ZCE {σ σf:Za} {ids ts:List Nat} {sq own:Nat} {x y:Option (AVal×Za)} (h:∀ r,x=some r->y=some r) {r:AVal×Za×Cls} (hr:ZaH σ σf ids ts sq own x=some r):ZaH σ σf ids ts sq own y=some r:=by
 cases x with
 | none=>simp only [ZaH] at hr;cases hr
 | some q=>rw [h q rfl];exact hr
theorem Zn9 (hO:OLe O O') {σ:Za} {sq f own:Nat} {view:Bool} {args:List AVal} {r:AVal×Za×Cls} (h:Zk O bf σ sq f own view args=some r):Zk O' bf σ sq f own view args=some r:=by
 unfold Zk ZbM at h ⊢
 split at h
 ·cases h
 ·rename_i vs ts hv
  split at h
  ·rename_i hc
   simp only [hc,if_true]
   exact ZCE (fun q hq=>ZGG (fun q hq=>hO _ _ _ _ hq) hq) h
  ·cases h
theorem ZLt (hO:OLe O O') {tm:Tms} {σ:Za} {sq:Nat} {ins:Ins} {r:AVal×Za×Cls} (h:execI O bf tm σ sq ins=some r):execI O' bf tm σ sq ins=some r:=by
 cases ins
 case call f own view args =>
  simp only [execI] at h ⊢
  exact Zn9 hO h
 case callv x args =>
  simp only [execI] at h ⊢
  split at h
  ·exact Zn9 hO h
  ·cases h
 all_goals exact h
theorem ZqT (hO:OLe O O') {o:AOp} {tm:Tms} {σ:Za} {sq:Nat} {r:AVal×Tms×Za×Cls} (h:ZT O bf o sq tm σ=some r):ZT O' bf o sq tm σ=some r:=by
 unfold ZT at h ⊢
 split at h
 ·cases h
 ·exact h
 ·split at h
  ·rename_i hf
   rw [if_pos hf]
   split at h
   ·rename_i he;rw [ZLt hO he];exact h
   ·cases h
  ·cases h
theorem ZoD (hO:OLe O O'):∀ {ops:List AOp} {s:Nat} {tm:Tms} {σ:Za} {r:Tms×Za×List Cls×Option AVal},Z7 O bf ops s tm σ=some r->Z7 O' bf ops s tm σ=some r
 | [],_,_,_,_,h=>h
 | o::ops,s,tm,σ,r,h=>by
  simp only [Z7] at h ⊢
  split at h
  ·cases h
  ·rename_i h1
   rw [ZqT hO h1]
   exact h
  ·rename_i v tm1 σ1 c hnp h1
   rw [ZqT hO h1]
   simp only
   split at h
   ·cases h
   rename_i h2
   rw [ZoD hO h2]
   exact h
theorem ZwB (hO:OLe O O') {ops:List AOp} {chk:Option (List (Nat×Nat))} {live:List Nat} {tm:Tms} {σ:Za} {r:Za1×Tms×Za} (h:Zch O bf ops chk live tm σ=some r):Zch O' bf ops chk live tm σ=some r:=by
 unfold Zch at h ⊢
 cases hx:Z7 O bf ops σ.length tm (σ++XE (sitesOf ops) .free) with
 | none=>rw [hx] at h;simp only [Zc5] at h;cases h
 | some q=>rw [ZoD hO hx];rw [hx] at h;exact h
theorem ZlP {m0:Nat} {live:List Nat} {f f':Tms->Za->Option (Za1×Tms×Za)} (hf:∀ tm σ r,f tm σ=some r->f' tm σ=some r):∀ {n n':Nat} {tm:Tms} {σ:Za} {r:Za1×Tms×Za},n<=n'->Zds m0 live f n tm σ=some r->Zds m0 live f' n' tm σ=some r
 | 0,_,_,_,_,_,h=>by simp only [Zds] at h;cases h
 | n+1,0,_,_,_,hn,_=>by omega
 | n+1,n'+1,tm,σ,r,hn,h=>by
  simp only [Zds] at h ⊢
  split at h
  ·rename_i h1
   rw [hf _ _ _ h1]
   exact ZlP hf (by omega) h
  ·rename_i hne
   rw [hf _ _ _ h]
   split
   ·rename_i e;injection e with e;subst e;exact absurd h (hne _ _)
   ·rfl
theorem ZdP (hO:OLe O O') {m0:Nat}:∀ {c:Zf} {n n':Nat} {tm:Tms} {σ:Za} {r:Za1×Tms×Za},n<=n'->Zad O bf m0 n c tm σ=some r->Zad O' bf m0 n' c tm σ=some r:=by
 intro c
 induction c with
 | skip=>intro n n' tm σ r _ h;exact h
 | exit id=>intro n n' tm σ r _ h;exact h
 | ret=>intro n n' tm σ r _ h;exact h
 | stuck=>intro n n' tm σ r _ h;exact h
 | region ops chk live =>
  intro n n' tm σ r _ h
  simp only [Zad] at h ⊢
  exact ZwB hO h
 | seq a b iha ihb =>
  intro n n' tm σ r hn h
  simp only [Zad] at h ⊢
  split at h
  ·rename_i h1;rw [iha hn h1];exact ihb hn h
  ·rename_i hne
   rw [iha hn h]
   split
   ·rename_i e;injection e with e;subst e;exact absurd h (hne _ _)
   ·rfl
 | cond c a b iha ihb =>
  intro n n' tm σ r hn h
  simp only [Zad] at h ⊢
  split at h
  ·exact iha hn h
  ·exact ihb hn h
  ·cases h
 | block id c ih =>
  intro n n' tm σ r hn h
  simp only [Zad] at h ⊢
  split at h
  ·rename_i h1;rw [ih hn h1];exact h
  ·rename_i hne
   rw [ih hn h]
   split
   ·rename_i e;injection e with e;subst e;exact absurd h (hne _ _ _)
   ·rfl
 | loop live c ih =>
  intro n n' tm σ r hn h
  simp only [Zad] at h ⊢
  exact ZlP (fun tm σ r h=>ih hn h) hn h
theorem ZkZ {m0:Nat} {fn:ZQ} {x y:Option (Za1×Tms×Za)} (h:∀ r,x=some r->y=some r) {r:AVal×Za} (hr:Zav m0 fn x=some r):Zav m0 fn y=some r:=by
 cases x with
 | none=>simp only [Zav] at hr;cases hr
 | some q=>rw [h q rfl];exact hr
theorem Zu7 (fs:Nat->Option ZQ) (prim:ZcM):∀ n,OLe (ZaE fs prim bf n) (ZaE fs prim bf (n+1))
 | 0=>by intro f a σ r h;simp only [ZaE] at h;cases h
 | n+1=>by
  intro f a σ r h
  rw [ZaE] at h ⊢
  split at h
  ·rename_i g hg;exact h
  ·rename_i hg
   split at h
   ·cases h
   ·rename_i fn hfn
    exact ZkZ (fun q hq=>ZdP (Zu7 fs prim n) (by omega) hq) h
theorem Zkj (fs : Nat -> Option ZQ) (prim : ZcM) {n m : Nat} (h : n <= m) : OLe (ZaE fs prim bf n) (ZaE fs prim bf m) := by
  induction m with
  | zero => obtain rfl : n = 0 := by omega
            exact fun _ _ _ _ h => h
  | succ m ih =>
    by_cases e : n = m + 1
    . subst e; exact fun _ _ _ _ h => h
    . exact fun f a σ r hr => Zu7 fs prim m f a σ r (ih (by omega) f a σ r hr)
end
section
variable (fs:Nat->Option ZQ) (prim:ZcM) (bf:Nat->Bool)
open Classical in
noncomputable def EV:ZX:=fun f args σ=>if h:∃ r,∃ n,ZaE fs prim bf n f args σ=some r then some h.choose else none
open Classical in
noncomputable def evC (m:Nat) (c:Zf) (tm:Tms) (σ:Za):Option (Za1×Tms×Za):=if h:∃ r,∃ n,Zad (ZaE fs prim bf n) bf m n c tm σ=some r then some h.choose else none
variable {fs prim bf} {m0:Nat}
theorem ZdK {f:Nat} {args:List AVal} {σ:Za} {r:AVal×Za}:EV fs prim bf f args σ=some r↔∃ n,ZaE fs prim bf n f args σ=some r:=by
 unfold EV
 constructor
 ·intro h
  split at h
  ·rename_i hx
   injection h with h
   rw [<-h]
   exact hx.choose_spec
  ·cases h
 ·rintro ⟨n,hn⟩
  have hx:∃ r,∃ n,ZaE fs prim bf n f args σ=some r:=⟨r,n,hn⟩
  rw [dif_pos hx]
  obtain ⟨m,hm⟩:=hx.choose_spec
  have h1:=Zkj (bf:=bf) fs prim (W4 n m) _ _ _ _ hn
  have h2:=Zkj (bf:=bf) fs prim (WT n m) _ _ _ _ hm
  rw [h1] at h2
  injection h2 with h2
  rw [<-h2]
theorem Zby {c:Zf} {tm:Tms} {σ:Za} {r:Za1×Tms×Za}:evC fs prim bf m0 c tm σ=some r↔∃ n,Zad (ZaE fs prim bf n) bf m0 n c tm σ=some r:=by
 unfold evC
 constructor
 ·intro h
  split at h
  ·rename_i hx
   injection h with h
   rw [<-h]
   exact hx.choose_spec
  ·cases h
 ·rintro ⟨n,hn⟩
  have hx:∃ r,∃ n,Zad (ZaE fs prim bf n) bf m0 n c tm σ=some r:=⟨r,n,hn⟩
  rw [dif_pos hx]
  obtain ⟨m,hm⟩:=hx.choose_spec
  have h1:=ZdP (Zkj (bf:=bf) fs prim (W4 n m)) (W4 n m) hn
  have h2:=ZdP (Zkj (bf:=bf) fs prim (WT n m)) (WT n m) hm
  rw [h1] at h2
  injection h2 with h2
  rw [<-h2]
theorem Zfk {α:Type} {x y:Option α} (h:∀ r,x=some r↔y=some r):x=y:=by
 cases x with
 | none =>
  cases y with
  | none=>rfl
  | some q=>exact absurd ((h q).2 rfl) (by simp)
 | some q=>exact ((h q).1 rfl).symm
theorem ZLz (n:Nat):OLe (ZaE fs prim bf n) (EV fs prim bf):=fun _ _ _ _ h=>ZdK.2 ⟨n,h⟩
theorem up {n m:Nat} (h:n<=m):OLe (ZaE fs prim bf n) (ZaE fs prim bf m):=Zkj fs prim h
theorem Ztm {f:Nat} {g:List AVal->Za->Option (AVal×Za)} (hp:prim f=some g) (args:List AVal) (σ:Za):EV fs prim bf f args σ=g args σ:=by
 apply Zfk
 intro r
 rw [ZdK]
 constructor
 ·rintro ⟨n,h⟩
  cases n with
  | zero=>simp only [ZaE] at h;cases h
  | succ n=>rw [ZaE,hp] at h;exact h
 ·intro h
  exact ⟨1,by rw [ZaE,hp];exact h⟩
theorem ZrX {f:Nat} {fn:ZQ} (hp:prim f=none) (hf:fs f=some fn) (args:List AVal) (σ:Za):EV fs prim bf f args σ=Zav σ.length fn (evC fs prim bf σ.length fn.body (enterA 0 args []) σ):=by
 apply Zfk
 intro r
 rw [ZdK]
 constructor
 ·rintro ⟨n,h⟩
  cases n with
  | zero=>simp only [ZaE] at h;cases h
  | succ n =>
   rw [ZaE,hp,hf] at h
   exact ZkZ (fun q hq=>Zby.2 ⟨n,hq⟩) h
 ·intro h
  cases hx:evC fs prim bf σ.length fn.body (enterA 0 args []) σ with
  | none=>rw [hx] at h;simp only [Zav] at h;cases h
  | some q =>
   obtain ⟨n,hn⟩:=Zby.1 hx
   refine ⟨n+1,?_⟩
   rw [ZaE,hp,hf]
   rw [hx] at h
   exact ZkZ (x:=some q) (fun q' hq'=>by injection hq' with hq';subst hq';exact hn) h
theorem Zxc {σ:Za} {sq f own:Nat} {view:Bool} {args:List AVal} {r:AVal×Za×Cls} (h:Zk (EV fs prim bf) bf σ sq f own view args=some r):∃ n,Zk (ZaE fs prim bf n) bf σ sq f own view args=some r:=by
 unfold Zk ZbM at h ⊢
 split at h
 ·cases h
 ·rename_i vs ts hv
  split at h
  ·rename_i hc
   simp only [hc,if_true]
   cases hx:EV fs prim bf f (Zg (Zi (Zp σ ts) 0 (Zt (Zp σ ts) 1000 (Zw vs) [])) vs) (Zq (Zp σ ts) 0 (Zt (Zp σ ts) 1000 (Zw vs) []) (Zi (Zp σ ts) 0 (Zt (Zp σ ts) 1000 (Zw vs) [])) (Zt (Zp σ ts) 1000 (Zw vs) []) 0) with
   | none =>
    rw [hx] at h
    cases view <;> simp [Z2,Zbw,ZaH] at h
   | some q =>
    obtain ⟨n,hn⟩:=ZdK.1 hx
    exact ⟨n,by rw [hn];rw [hx] at h;exact h⟩
  ·cases h
theorem ZDz {tm:Tms} {σ:Za} {sq:Nat} {ins:Ins} {r:AVal×Za×Cls} (h:execI (EV fs prim bf) bf tm σ sq ins=some r):∃ n,execI (ZaE fs prim bf n) bf tm σ sq ins=some r:=by
 cases ins
 case call f own view args =>
  simp only [execI] at h ⊢
  exact Zxc h
 case callv x args =>
  simp only [execI] at h ⊢
  split at h
  ·exact Zxc h
  ·cases h
 all_goals exact ⟨0,h⟩
theorem Zv4 {o:AOp} {tm:Tms} {σ:Za} {sq:Nat} {r:AVal×Tms×Za×Cls} (h:ZT (EV fs prim bf) bf o sq tm σ=some r):∃ n,ZT (ZaE fs prim bf n) bf o sq tm σ=some r:=by
 unfold ZT at h ⊢
 split at h
 ·cases h
 ·exact ⟨0,h⟩
 ·split at h
  ·rename_i hf
   simp only [hf,if_true]
   split at h
   ·rename_i he
    obtain ⟨n,hn⟩:=ZDz he
    exact ⟨n,by rw [hn];exact h⟩
   ·cases h
  ·cases h
theorem ZvO:∀ {ops:List AOp} {s:Nat} {tm:Tms} {σ:Za} {r:Tms×Za×List Cls×Option AVal},Z7 (EV fs prim bf) bf ops s tm σ=some r->∃ n,Z7 (ZaE fs prim bf n) bf ops s tm σ=some r
 | [],_,_,_,_,h=>⟨0,h⟩
 | o::ops,s,tm,σ,r,h=>by
  simp only [Z7] at h ⊢
  split at h
  ·cases h
  ·rename_i h1
   obtain ⟨n,hn⟩:=Zv4 h1
   exact ⟨n,by rw [hn];exact h⟩
  rename_i v tm1 σ1 c hnp h1
  split at h
  ·cases h
  rename_i h2
  obtain ⟨n,hn⟩:=Zv4 h1
  obtain ⟨m,hm⟩:=ZvO h2
  refine ⟨max n m,?_⟩
  rw [ZqT (up (W4 n m)) hn]
  simp only
  rw [ZoD (up (WT n m)) hm]
  exact h
theorem ZOC {ops:List AOp} {chk:Option (List (Nat×Nat))} {live:List Nat} {tm:Tms} {σ:Za} {r:Za1×Tms×Za} (h:Zch (EV fs prim bf) bf ops chk live tm σ=some r):∃ n,Zch (ZaE fs prim bf n) bf ops chk live tm σ=some r:=by
 unfold Zch at h ⊢
 cases hx:Z7 (EV fs prim bf) bf ops σ.length tm (σ++XE (sitesOf ops) .free) with
 | none=>rw [hx] at h;simp only [Zc5] at h;cases h
 | some q =>
  obtain ⟨n,hn⟩:=ZvO hx
  exact ⟨n,by rw [hn];rw [hx] at h;exact h⟩
theorem ZBp (tm:Tms) (σ:Za):evC fs prim bf m0 .skip tm σ=some (.normal,tm,σ):=Zby.2 ⟨0,rfl⟩
theorem ZMO (id:Nat) (tm:Tms) (σ:Za):evC fs prim bf m0 (.exit id) tm σ=some (.exit id,tm,σ):=Zby.2 ⟨0,rfl⟩
theorem ZNh (tm:Tms) (σ:Za):evC fs prim bf m0 .ret tm σ=some (.ret,tm,σ):=Zby.2 ⟨0,rfl⟩
theorem ZAf {ops:List AOp} {chk:Option (List (Nat×Nat))} {live:List Nat} {tm:Tms} {σ:Za}:evC fs prim bf m0 (.region ops chk live) tm σ=Zch (EV fs prim bf) bf ops chk live tm σ:=by
 apply Zfk
 intro r
 rw [Zby]
 constructor
 ·rintro ⟨n,hn⟩
  simp only [Zad] at hn
  exact ZwB (ZLz n) hn
 ·intro h
  obtain ⟨n,hn⟩:=ZOC h
  exact ⟨n,by simp only [Zad];exact hn⟩
theorem Zj8 {a b:Zf} {tm tm':Tms} {σ σ':Za} (h:evC fs prim bf m0 a tm σ=some (.normal,tm',σ')):evC fs prim bf m0 (.seq a b) tm σ=evC fs prim bf m0 b tm' σ':=by
 obtain ⟨n,hn⟩:=Zby.1 h
 apply Zfk
 intro r
 rw [Zby,Zby]
 constructor
 ·rintro ⟨m,hm⟩
  have h1:=ZdP (up (W4 n m)) (W4 n m) hn
  have h2:=ZdP (up (WT n m)) (WT n m) hm
  simp only [Zad,h1] at h2
  exact ⟨_,h2⟩
 ·rintro ⟨m,hm⟩
  have h1:=ZdP (up (W4 n m)) (W4 n m) hn
  have h2:=ZdP (up (WT n m)) (WT n m) hm
  exact ⟨max n m,by simp only [Zad,h1];exact h2⟩
theorem Zjf {a b:Zf} {tm tm':Tms} {σ σ':Za} {e:Za1} (he:e≠.normal) (h:evC fs prim bf m0 a tm σ=some (e,tm',σ')):evC fs prim bf m0 (.seq a b) tm σ=some (e,tm',σ'):=by
 obtain ⟨n,hn⟩:=Zby.1 h
 refine Zby.2 ⟨n,?_⟩
 simp only [Zad,hn]
 cases e with
 | normal=>exact absurd rfl he
 | exit id=>rfl
 | ret=>rfl
 | panic x=>rfl
def Za7 (id:Nat):Za1×Tms×Za->Za1×Tms×Za
 | (.exit i,tm,σ)=>if i=id then (.normal,tm,σ) else (.exit i,tm,σ)
 | r=>r
theorem ZQQ {id:Nat} {c:Zf} {tm:Tms} {σ:Za}:evC fs prim bf m0 (.block id c) tm σ=(evC fs prim bf m0 c tm σ).map (Za7 id):=by
 have step:∀ n,Zad (ZaE fs prim bf n) bf m0 n (.block id c) tm σ=(Zad (ZaE fs prim bf n) bf m0 n c tm σ).map (Za7 id):=by
  intro n
  simp only [Zad]
  cases Zad (ZaE fs prim bf n) bf m0 n c tm σ with
  | none=>rfl
  | some q =>
   obtain ⟨e,tm1,σ1⟩:=q
   cases e with
   | normal=>rfl
   | ret=>rfl
   | panic x=>rfl
   | exit i=>simp only [X8,Za7];split <;> rfl
 apply Zfk;intro r
 rw [Zby]
 simp only [step,Xp]
 constructor
 ·rintro ⟨n,q,h1,h2⟩;exact ⟨q,Zby.2 ⟨n,h1⟩,h2⟩
 ·rintro ⟨q,h1,h2⟩;obtain ⟨n,hn⟩:=Zby.1 h1;exact ⟨n,q,hn,h2⟩
theorem ZHH {c:Zf} {tm:Tms} {σ:Za} (h:evC fs prim bf m0 c tm σ=none) (n:Nat):Zad (ZaE fs prim bf n) bf m0 n c tm σ=none:=by
 cases hx:Zad (ZaE fs prim bf n) bf m0 n c tm σ with
 | none=>rfl
 | some r=>rw [Zby.2 ⟨n,hx⟩] at h;cases h
variable (fs prim bf m0) in
noncomputable def ZbT (b:Zf):Option (Za1×Tms×Za)->Option (Za1×Tms×Za)
 | some (.normal,tm,σ)=>evC fs prim bf m0 b tm σ
 | r=>r
theorem ZOi {a b:Zf} {tm:Tms} {σ:Za}:evC fs prim bf m0 (.seq a b) tm σ=ZbT fs prim bf m0 b (evC fs prim bf m0 a tm σ):=by
 cases h:evC fs prim bf m0 a tm σ with
 | none =>
  simp only [ZbT]
  apply Zfk;intro r
  rw [Zby]
  constructor
  ·rintro ⟨n,hn⟩
   simp only [Zad,ZHH h n] at hn
   cases hn
  ·intro h;cases h
 | some q =>
  obtain ⟨e,tm',σ'⟩:=q
  cases e with
  | normal=>exact Zj8 h
  | exit id=>exact Zjf (by simp) h
  | ret=>exact Zjf (by simp) h
  | panic x=>exact Zjf (by simp) h
variable (fs prim bf m0) in
noncomputable def Zkh (a b:Zf) (tm:Tms) (σ:Za):AVal->Option (Za1×Tms×Za)
 | .bool true=>evC fs prim bf m0 a tm σ
 | .bool false=>evC fs prim bf m0 b tm σ
 | _=>none
theorem ZJR {c:Opd} {a b:Zf} {tm:Tms} {σ:Za}:evC fs prim bf m0 (.cond c a b) tm σ=Zkh fs prim bf m0 a b tm σ (c.ev tm):=by
 apply Zfk;intro r
 rw [Zby]
 simp only [Zad]
 constructor
 ·rintro ⟨n,hn⟩
  split at hn
  ·rename_i e;rw [e];simp only [Zkh];exact Zby.2 ⟨n,hn⟩
  ·rename_i e;rw [e];simp only [Zkh];exact Zby.2 ⟨n,hn⟩
  ·cases hn
 ·intro h
  unfold Zkh at h
  split at h
  ·rename_i e;obtain ⟨n,hn⟩:=Zby.1 h;exact ⟨n,by rw [e];exact hn⟩
  ·rename_i e;obtain ⟨n,hn⟩:=Zby.1 h;exact ⟨n,by rw [e];exact hn⟩
  ·cases h
variable (fs prim bf m0) in
noncomputable def evL (live:List Nat) (c:Zf) (tm:Tms) (σ:Za):Option (Za1×Tms×Za) :=
 match evC fs prim bf m0 c tm σ with
 | some (.normal,tm',σ')=>evC fs prim bf m0 (.loop live c) tm' σ'
 | r=>r
theorem Zus {live:List Nat} {c:Zf} {tm:Tms} {σ:Za}:evC fs prim bf m0 (.loop live c) tm σ=evL fs prim bf m0 live c (gcT m0 (keepL live tm) σ).1 (gcT m0 (keepL live tm) σ).2:=by
 apply Zfk;intro r
 rw [Zby]
 constructor
 ·rintro ⟨n,hn⟩
  simp only [Zad] at hn
  cases n with
  | zero=>simp only [Zds] at hn;cases hn
  | succ k =>
   simp only [Zds] at hn
   unfold evL
   cases hx:Zad (ZaE fs prim bf (k+1)) bf m0 (k+1) c (gcT m0 (keepL live tm) σ).1 (gcT m0 (keepL live tm) σ).2 with
   | none=>rw [hx] at hn;cases hn
   | some q =>
    rw [Zby.2 ⟨_,hx⟩]
    rw [hx] at hn
    obtain ⟨e,tm',σ'⟩:=q
    cases e with
    | normal =>
     simp only at hn ⊢
     exact Zby.2 ⟨k+1,by simp only [Zad];exact ZlP (fun _ _ _ h=>h) (by omega) hn⟩
    | exit id=>exact hn
    | ret=>exact hn
    | panic x=>exact hn
 ·intro h
  unfold evL at h
  cases hx:evC fs prim bf m0 c (gcT m0 (keepL live tm) σ).1 (gcT m0 (keepL live tm) σ).2 with
  | none=>rw [hx] at h;cases h
  | some q =>
   rw [hx] at h
   obtain ⟨n,hn⟩:=Zby.1 hx
   obtain ⟨e,tm',σ'⟩:=q
   have out:e≠.normal->some (e,tm',σ')=some r->∃ n,Zad (ZaE fs prim bf n) bf m0 n (.loop live c) tm σ=some r:=by
    intro he h
    refine ⟨n+1,?_⟩
    have h1:=ZdP (up (show n<=n+1 by omega)) (show n<=n+1 by omega) hn
    simp only [Zad,Zds,h1]
    cases e with
    | normal=>exact absurd rfl he
    | exit id=>exact h
    | ret=>exact h
    | panic x=>exact h
   cases e with
   | normal =>
    simp only at h
    obtain ⟨m,hm⟩:=Zby.1 h
    have h1:=ZdP (up (show n<=max n m+1 by omega)) (show n<=max n m+1 by omega) hn
    have h2:=ZdP (up (show m<=max n m+1 by omega)) (Xx m) hm
    simp only [Zad] at h2
    refine ⟨max n m+1,?_⟩
    simp only [Zad,Zds,h1]
    exact ZlP (fun tm σ r h=>ZdP (fun _ _ _ _ h=>h) (by omega) h) (by omega) h2
   | exit id=>exact out (by simp) h
   | ret=>exact out (by simp) h
   | panic x=>exact out (by simp) h
theorem ZJo {P:Program} (hm:P.follows .mixedOrders=true) {prim:ZcM} (hP:Zmp P prim) (ann:Nat->Ann) (bf:Nat->Bool):ZaK P (EV (ZjV P ann) prim bf):=by
 intro f args σ r σ' h
 obtain ⟨n,hn⟩:=ZdK.1 h
 exact ZqU hm hP ann bf n f args σ r σ' hn
end
end
section
open Go.RowKit
def ZtT:Tms×Za×List Cls×Option AVal->Tms×Za×Option AVal:=fun q=>(q.1,q.2.1,q.2.2.2)
def ZaX:AVal->Bool
 | .pan _=>true
 | _=>false
section
variable (O:ZX) (bf:Nat->Bool)
def exI (i:Ins) (s:Nat) (tm:Tms) (σ:Za):Option (AVal×Za×Cls) :=
 if nsite i == 0 || freeAt σ s then execI O bf tm σ s i else none
def Zbu (ops:List AOp) (s:Nat) (tm:Tms) (σ:Za):Option (Tms×Za×Option AVal):=(Z7 O bf ops s tm σ).map ZtT
def kN (d:Option Nat) (os:List AOp) (s:Nat) (tm:Tms):Option (AVal×Za×Cls)->Option (Tms×Za×Option AVal)
 | none=>none
 | some (v,σ,_)=>if ZaX v then some (tput tm d v,σ,some (Za4 v)) else Zbu O bf os s (tput tm d v) σ
def ZkC (live:List Nat):Option (Tms×Za×Option AVal)->Option (Za1×Tms×Za)
 | none=>none
 | some (_,σ,some x)=>some (.panic x,[],σ)
 | some (tm,σ,none)=>some (.normal,keepL live tm,σ)
variable {O bf}
theorem ZvN (s:Nat) (tm:Tms) (σ:Za):Zbu O bf [] s tm σ=some (tm,σ,none):=rfl
theorem ZjD {o:AOp} {os:List AOp} {s:Nat} {tm:Tms} {σ:Za} (h:ZT O bf o s tm σ=none):Z7 O bf (o::os) s tm σ=none:=by simp only [Z7,h]
theorem ZmJ {o:AOp} {os:List AOp} {s:Nat} {tm tm1:Tms} {σ σ1:Za} {x:AVal} {c:Cls} (h:ZT O bf o s tm σ=some (.pan x,tm1,σ1,c)):Z7 O bf (o::os) s tm σ=some (tm1,σ1,[c],some x):=by simp only [Z7,h]
theorem Zvo {o:AOp} {os:List AOp} {s:Nat} {tm tm1:Tms} {σ σ1:Za} {v:AVal} {c:Cls} (h:ZT O bf o s tm σ=some (v,tm1,σ1,c)) (hn:ZaX v=false):Z7 O bf (o::os) s tm σ=(Z7 O bf os (s+nsite o.ins) tm1 σ1).map fun q=>(q.1,q.2.1,c::q.2.2.1,q.2.2.2):=by
 simp only [Z7,h]
 cases v <;> first
  | (simp [ZaX] at hn;done)
  | (simp only;cases Z7 O bf os (s+nsite o.ins) tm1 σ1 <;> rfl)
theorem Zk2 {o:AOp} {os:List AOp} {s:Nat} {tm:Tms} {σ:Za} (h:ZT O bf o s tm σ=none):Zbu O bf (o::os) s tm σ=none:=by simp only [Zbu,ZjD h,Option.map_none]
theorem ZrE {o:AOp} {os:List AOp} {s:Nat} {tm tm1:Tms} {σ σ1:Za} {x:AVal} {c:Cls} (h:ZT O bf o s tm σ=some (.pan x,tm1,σ1,c)):Zbu O bf (o::os) s tm σ=some (tm1,σ1,some x):=by simp only [Zbu,ZmJ h,X8,ZtT]
theorem Zls {o:AOp} {os:List AOp} {s:Nat} {tm tm1:Tms} {σ σ1:Za} {v:AVal} {c:Cls} (h:ZT O bf o s tm σ=some (v,tm1,σ1,c)) (hn:ZaX v=false):Zbu O bf (o::os) s tm σ=Zbu O bf os (s+nsite o.ins) tm1 σ1:=by
 simp only [Zbu,Zvo h hn,Option.map_map]
 rfl
theorem ZmA {v:AVal} (h:ZaX v=true):∃ x,v=.pan x:=by
 cases v <;> first | exact ⟨_,rfl⟩ | (simp [ZaX] at h;done)
theorem Zmv {d:Option Nat} {i:Ins} {af:List Nat} {s:Nat} {tm:Tms} {σ:Za}:ZT O bf ⟨d,i,none,af⟩ s tm σ=(exI O bf i s tm σ).map fun q=>(q.1,tput tm d q.1,q.2.1,q.2.2):=by
 unfold ZT exI
 simp only [ZbD]
 split
 ·cases execI O bf tm σ s i with
  | none=>rfl
  | some q=>rfl
 ·rfl
theorem ZnG (d:Option Nat) (i:Ins) (af:List Nat) (os:List AOp) (s:Nat) (tm:Tms) (σ:Za):Zbu O bf (⟨d,i,none,af⟩::os) s tm σ=kN O bf d os (s+nsite i) tm (exI O bf i s tm σ):=by
 cases h:exI O bf i s tm σ with
 | none=>exact Zk2 (by rw [Zmv,h];rfl)
 | some q =>
  obtain ⟨v,σ1,c⟩:=q
  have hs:ZT O bf ⟨d,i,none,af⟩ s tm σ=some (v,tput tm d v,σ1,c):=by rw [Zmv,h];rfl
  cases hp:ZaX v with
  | true =>
   obtain ⟨x,rfl⟩:=ZmA hp
   exact ZrE hs
  | false =>
   rw [Zls hs hp]
   simp only [kN,hp,Xi,if_false]
theorem Zzg (ops:List AOp) (live:List Nat) (tm:Tms) (σ:Za):Zch O bf ops none live tm σ=ZkC live (Zbu O bf ops σ.length tm (σ++XE (sitesOf ops) .free)):=by
 unfold Zch Zbu
 cases Z7 O bf ops σ.length tm (σ++XE (sitesOf ops) .free) with
 | none=>rfl
 | some q =>
  obtain ⟨tm',σ',cs,p⟩:=q
  cases p <;> rfl
theorem Zpl (d:Option Nat) (os:List AOp) (s:Nat) (tm:Tms) (v:AVal) (σ:Za) (c:Cls) (h:ZaX v=false):kN O bf d os s tm (some (v,σ,c))=Zbu O bf os s (tput tm d v) σ:=by
 simp only [kN,h,Xi,if_false]
theorem ZDx (d:Option Nat) (os:List AOp) (s:Nat) (tm:Tms) (x:AVal) (σ:Za) (c:Cls):kN O bf d os s tm (some (.pan x,σ,c))=some (tput tm d (.pan x),σ,some x):=rfl
theorem ZLB (d:Option Nat) (os:List AOp) (s:Nat) (tm:Tms):kN O bf d os s tm none=none:=rfl
structure GOp where
 guard:Option (Nat×Bool)
 ops:List AOp
def Zal:List AOp->Tms->Tms
 | [],tm=>tm
 | o::os,tm=>Zal os (tput tm o.dst (.tup []))
def unG (o:AOp):AOp:={ o with guard:=none }
variable (O bf) in
def ZeS (j:Nat) (w:Bool) (g:List AOp) (s:Nat) (tm:Tms) (σ:Za):Option (Tms×Za×Option AVal):=match ZbD (some (j,w)) tm with
 | none=>none
 | some false=>some (Zal g tm,σ,none)
 | some true=>Zbu O bf (g.map unG) s tm σ
variable (O bf) in
def gK (os:List AOp) (s:Nat):Option (Tms×Za×Option AVal)->Option (Tms×Za×Option AVal)
 | none=>none
 | some (tm,σ,some x)=>some (tm,σ,some x)
 | some (tm,σ,none)=>Zbu O bf os s tm σ
def ZA (j:Nat) (w:Bool):List AOp->List AOp×List AOp
 | []=>([],[])
 | o::os=>match o.guard with
  | some (j',w')=>if j'=j/\w'=w/\o.dst≠some j then ((o::(ZA j w os).1),(ZA j w os).2) else ([],o::os)
  | none=>([],o::os)
theorem ZoH (j:Nat) (w:Bool):∀ os,(ZA j w os).1++(ZA j w os).2=os
 | []=>rfl
 | o::os=>by
  simp only [ZA]
  split
  ·split
   ·simp [ZoH j w os]
   ·rfl
  ·rfl
theorem ZrG (j:Nat) (w:Bool):∀ os,∀ o ∈ (ZA j w os).1,o.guard=some (j,w)/\o.dst≠some j
 | []=>by simp [ZA]
 | o::os=>by
  intro o' ho
  simp only [ZA] at ho
  split at ho
  ·rename_i j' w' hg
   split at ho
   ·rename_i hc
    rcases XQ.1 ho with rfl | ho
    ·exact ⟨by rw [hg,hc.1,hc.2.1],hc.2.2⟩
    ·exact ZrG j w os o' ho
   ·simp at ho
  ·simp at ho
theorem ZIB {d:Option Nat} {v:AVal} {n:Nat} {tm:Tms} (h:d≠some n):tget (tput tm d v) n=tget tm n:=by
 cases d with
 | none=>rfl
 | some d =>
  have : d≠n:=by rintro rfl;exact h rfl
  simp only [tput,ZlS,this,if_false]
theorem Zf5 {d:Option Nat} {v:AVal} {j:Nat} {w:Bool} {tm:Tms} (h:d≠some j):ZbD (some (j,w)) (tput tm d v)=ZbD (some (j,w)) tm:=by
 simp only [ZbD,ZIB h]
theorem Zwb:∀ (a b:List AOp) (s:Nat) (tm:Tms) (σ:Za),Zbu O bf (a++b) s tm σ=gK O bf b (s+sitesOf a) (Zbu O bf a s tm σ)
 | [],b,s,tm,σ=>by simp [ZvN,gK,sitesOf]
 | o::a,b,s,tm,σ=>by
  have ih:=Zwb a b
  simp only [XU]
  have hs:s+nsite o.ins+sitesOf a=s+sitesOf (o::a):=by simp [sitesOf,WC]
  cases hst:ZT O bf o s tm σ with
  | none=>rw [Zk2 hst,Zk2 hst];rfl
  | some q =>
   obtain ⟨v,tm1,σ1,c⟩:=q
   cases hp:ZaX v with
   | true =>
    obtain ⟨x,rfl⟩:=ZmA hp
    rw [ZrE hst,ZrE hst];rfl
   | false=>rw [Zls hst hp,Zls hst hp,ih,hs]
theorem ZvZ (j:Nat) (w:Bool):∀ (g:List AOp),(∀ o ∈ g,o.guard=some (j,w)/\o.dst≠some j)->∀ (s:Nat) (tm:Tms) (σ:Za),g≠[]->Zbu O bf g s tm σ=ZeS O bf j w g s tm σ
 | [],_,_,_,_,h=>absurd rfl h
 | o::g,hall,s,tm,σ,_=>by
  obtain ⟨hg,hd⟩:=hall o (by simp)
  have ih:∀ (tm:Tms) (σ:Za) (s:Nat),ZbD (some (j,w)) tm≠none->Zbu O bf g s tm σ=ZeS O bf j w g s tm σ:=by
   intro tm σ s hw
   by_cases he:g=[]
   ·subst he
    unfold ZeS
    cases hx:ZbD (some (j,w)) tm with
    | none=>exact absurd hx hw
    | some b=>cases b <;> rfl
   ·exact ZvZ j w g (fun o ho=>hall o (by simp [ho])) s tm σ he
  cases hx:ZbD (some (j,w)) tm with
  | none =>
   rw [Zk2 (by simp only [ZT,hg,hx])]
   simp only [ZeS,hx]
  | some b =>
   cases b with
   | false =>
    have h1:Zbu O bf (o::g) s tm σ=Zbu O bf g (s+nsite o.ins) (tput tm o.dst (.tup [])) σ :=
     Zls (v:=.tup []) (c:={}) (by simp only [ZT,hg,hx]) rfl
    rw [h1,ih _ _ _ (by rw [Zf5 hd,hx];simp)]
    unfold ZeS
    rw [Zf5 hd,hx]
    rfl
   | true =>
    have key:∀ r:Option (AVal×Za×Cls),(∀ v σ' c,r=some (v,σ',c)->ZaX v=false->Zbu O bf g (s+nsite o.ins) (tput tm o.dst v) σ'=Zbu O bf (g.map unG) (s+nsite o.ins) (tput tm o.dst v) σ')->kN O bf o.dst g (s+nsite o.ins) tm r=kN O bf o.dst (g.map unG) (s+nsite o.ins) tm r:=by
     intro r hr
     cases r with
     | none=>rfl
     | some q =>
      obtain ⟨v,σ',c⟩:=q
      cases hp:ZaX v with
      | true=>simp only [kN,hp,if_true]
      | false=>rw [Zpl _ _ _ _ _ _ _ hp,Zpl _ _ _ _ _ _ _ hp];exact hr v σ' c rfl hp
    have h1:Zbu O bf (o::g) s tm σ=kN O bf o.dst g (s+nsite o.ins) tm (exI O bf o.ins s tm σ):=by
     have h0:Zbu O bf (o::g) s tm σ=Zbu O bf (⟨o.dst,o.ins,none,o.after⟩::g) s tm σ:=by
      have hst:ZT O bf o s tm σ=ZT O bf ⟨o.dst,o.ins,none,o.after⟩ s tm σ:=by
       unfold ZT
       simp only [hg,hx]
       rfl
      unfold Zbu
      simp only [Z7,hst]
     rw [h0,ZnG]
    rw [h1]
    unfold ZeS
    rw [hx]
    simp only [Xo]
    rw [show unG o=⟨o.dst,o.ins,none,o.after⟩ from rfl,ZnG]
    refine key _ fun v σ' c _ _=>?_
    rw [ih _ _ _ (by rw [Zf5 hd,hx];simp)]
    unfold ZeS
    rw [Zf5 hd,hx]
theorem ZQU (d:Option Nat) (i:Ins) (j:Nat) (w:Bool) (af:List Nat) (os:List AOp) (s:Nat) (tm:Tms) (σ:Za) (hd:decide (d=some j)=false) :
  Zbu O bf (⟨d,i,some (j,w),af⟩::os) s tm σ=gK O bf (ZA j w os).2 (s+sitesOf (⟨d,i,some (j,w),af⟩::(ZA j w os).1)) (ZeS O bf j w (⟨d,i,some (j,w),af⟩::(ZA j w os).1) s tm σ):=by
 have h:=ZoH j w os
 have hall:∀ o ∈ (⟨d,i,some (j,w),af⟩::(ZA j w os).1:List AOp),o.guard=some (j,w)/\o.dst≠some j:=by
  intro o ho
  rcases XQ.1 ho with rfl | ho
  ·exact ⟨rfl,by simpa using hd⟩
  ·exact ZrG j w os o ho
 rw [<-ZvZ j w _ hall s tm σ (by simp),<-Zwb,XU,h]
variable (O bf) in
def gW (w:Bool) (g:List AOp) (s:Nat) (tm:Tms) (σ:Za):AVal->Option (Tms×Za×Option AVal)
 | .bool b=>if b=w then Zbu O bf (g.map unG) s tm σ else some (Zal g tm,σ,none)
 | .tup []=>some (Zal g tm,σ,none)
 | _=>none
theorem ZPx (j:Nat) (w:Bool) (g:List AOp) (s:Nat) (tm:Tms) (σ:Za):ZeS O bf j w g s tm σ=gW O bf w g s tm σ (tget tm j):=by
 unfold ZeS ZbD
 simp only
 generalize tget tm j=v
 cases v
 case bool b=>cases b <;> cases w <;> rfl
 case tup vs=>cases vs <;> rfl
 all_goals rfl
theorem ZDW (w:Bool) (g:List AOp) (s:Nat) (tm:Tms) (σ:Za) (b:Bool):gW O bf w g s tm σ (.bool b)=if b=w then Zbu O bf (g.map unG) s tm σ else some (Zal g tm,σ,none):=rfl
theorem ZIG (w:Bool) (g:List AOp) (s:Nat) (tm:Tms) (σ:Za):gW O bf w g s tm σ (.tup [])=some (Zal g tm,σ,none):=rfl
theorem ZF5 (os:List AOp) (s:Nat) (tm:Tms) (σ:Za):gK O bf os s (some (tm,σ,none))=Zbu O bf os s tm σ:=rfl
end
section
variable (c:Prop) [Decidable c]
theorem Zdq {α:Type} (a b:α) (x y:List α):(if c then a::x else b::y)=(if c then a else b)::(if c then x else y):=by split <;> rfl
theorem ZOl (k:IntKind) (a b:Int):(if c then AVal.int k a else AVal.int k b)=AVal.int k (if c then a else b):=by split <;> rfl
theorem ZKC (a b:Bool):(if c then AVal.bool a else AVal.bool b)=AVal.bool (if c then a else b):=by split <;> rfl
theorem ZJy (a b:List UInt8):(if c then AVal.str a else AVal.str b)=AVal.str (if c then a else b):=by split <;> rfl
theorem ZCz (p q:Bool) (a b:List AVal):(if c then AVal.lst p a else AVal.lst q b)=AVal.lst (if c then p else q) (if c then a else b):=by split <;> rfl
theorem ZNC (a b:List AVal):(if c then AVal.agg a else AVal.agg b)=AVal.agg (if c then a else b):=by split <;> rfl
theorem ZMt (a b:List AVal):(if c then ZR.var a else ZR.var b)=ZR.var (if c then a else b):=by split <;> rfl
theorem ZQy (g k:Nat) (a b:List AVal):(if c then ZR.row g k a else ZR.row g k b)=ZR.row g k (if c then a else b):=by split <;> rfl
theorem ZEr (t:Nat) (a b:Nat):(if c then AVal.ref t a else AVal.ref t b)=AVal.ref t (if c then a else b):=by split <;> rfl
theorem Zp4 {α:Type} (x y z:α):(if c then (if c then x else y) else z)=if c then x else z:=by split <;> rfl
theorem Zvv {α:Type} (x y z:α):(if c then x else (if c then y else z))=if c then x else z:=by split <;> rfl
theorem ZGO (σ:Za) (a b:AVal) (p:Bool):Zgr σ a b (.bool p)=some (if p=true then a else b,σ,{}):=by cases p <;> rfl
theorem ZJ0 (a b:AVal):ZaX (if c then a else b)=if c then ZaX a else ZaX b:=by split <;> rfl
end
section
variable {fs:Nat->Option ZQ} {prim:ZcM} {bf:Nat->Bool} {m0:Nat}
theorem ZC5 (p:Bool) (a b:Zf) (tm:Tms) (σ:Za):Zkh fs prim bf m0 a b tm σ (.bool p)=if p=true then evC fs prim bf m0 a tm σ else evC fs prim bf m0 b tm σ:=by
 cases p <;> rfl
theorem ZCe (b:Zf) (tm:Tms) (σ:Za):ZbT fs prim bf m0 b (some (.normal,tm,σ))=evC fs prim bf m0 b tm σ:=rfl
theorem ZD9 (b:Zf) (i:Nat) (tm:Tms) (σ:Za):ZbT fs prim bf m0 b (some (.exit i,tm,σ))=some (.exit i,tm,σ):=rfl
theorem ZIa (b:Zf) (tm:Tms) (σ:Za):ZbT fs prim bf m0 b (some (.ret,tm,σ))=some (.ret,tm,σ):=rfl
theorem ZJL (b:Zf) (x:AVal) (tm:Tms) (σ:Za):ZbT fs prim bf m0 b (some (.panic x,tm,σ))=some (.panic x,tm,σ):=rfl
theorem ZFC (c:Prop) [Decidable c] (b:Zf) (x y:Option (Za1×Tms×Za)):ZbT fs prim bf m0 b (if c then x else y)=if c then ZbT fs prim bf m0 b x else ZbT fs prim bf m0 b y:=by split <;> rfl
theorem ZyF (id:Nat) (tm:Tms) (σ:Za):Wd (Za7 id) (some (.normal,tm,σ))=some (.normal,tm,σ):=rfl
theorem ZMI (id i:Nat) (tm:Tms) (σ:Za):Wd (Za7 id) (some (.exit i,tm,σ))=if i=id then some (.normal,tm,σ) else some (.exit i,tm,σ):=by
 simp only [X8,Za7];split <;> rfl
theorem ZM5 (id:Nat) (tm:Tms) (σ:Za):Wd (Za7 id) (some (.ret,tm,σ))=some (.ret,tm,σ):=rfl
theorem Zyj (id:Nat) (x:AVal) (tm:Tms) (σ:Za):Wd (Za7 id) (some (.panic x,tm,σ))=some (.panic x,tm,σ):=rfl
theorem ZOZ (id:Nat) (c:Prop) [Decidable c] (x y:Option (Za1×Tms×Za)):Wd (Za7 id) (if c then x else y)=if c then Wd (Za7 id) x else Wd (Za7 id) y:=by split <;> rfl
theorem ZOR (m:Nat) (fn:ZQ) (c:Prop) [Decidable c] (x y:Option (Za1×Tms×Za)):Zav m fn (if c then x else y)=if c then Zav m fn x else Zav m fn y:=by split <;> rfl
end
section
variable {fs:Nat->Option ZQ} {prim:ZcM} {bf:Nat->Bool} {m0:Nat}
theorem ZBm {live:List Nat} {c:Zf} {tm tm':Tms} {σ σ':Za} (h:evC fs prim bf m0 c tm σ=some (.normal,tm',σ')):evL fs prim bf m0 live c tm σ=evL fs prim bf m0 live c (gcT m0 (keepL live tm') σ').1 (gcT m0 (keepL live tm') σ').2:=by
 unfold evL
 rw [h]
 simp only
 rw [Zus]
 rfl
theorem ZHX {live:List Nat} {c:Zf} {tm tm':Tms} {σ σ':Za} {i:Nat} (h:evC fs prim bf m0 c tm σ=some (.exit i,tm',σ')):evL fs prim bf m0 live c tm σ=some (.exit i,tm',σ'):=by
 unfold evL;rw [h]
theorem ZJr {live:List Nat} {c:Zf} {tm tm':Tms} {σ σ':Za} (h:evC fs prim bf m0 c tm σ=some (.ret,tm',σ')):evL fs prim bf m0 live c tm σ=some (.ret,tm',σ'):=by
 unfold evL;rw [h]
variable (fs prim bf m0) in
noncomputable def evM (live:List Nat) (c:Zf):Option (Za1×Tms×Za)->Option (Za1×Tms×Za)
 | some (.normal,tm,σ)=>evL fs prim bf m0 live c (gcT m0 (keepL live tm) σ).1 (gcT m0 (keepL live tm) σ).2
 | r=>r
theorem ZL (live:List Nat) (c:Zf) (tm:Tms) (σ:Za):evL fs prim bf m0 live c tm σ=evM fs prim bf m0 live c (evC fs prim bf m0 c tm σ):=by
 cases h:evC fs prim bf m0 c tm σ with
 | none=>unfold evL;rw [h];rfl
 | some q =>
  obtain ⟨e,tm',σ'⟩:=q
  cases e with
  | normal=>exact ZBm h
  | exit i=>exact ZHX h
  | ret=>exact ZJr h
  | panic x=>unfold evL;rw [h];rfl
theorem ZD3 (live:List Nat) (c:Zf) (tm:Tms) (σ:Za):evM fs prim bf m0 live c (some (.normal,tm,σ))=evL fs prim bf m0 live c (gcT m0 (keepL live tm) σ).1 (gcT m0 (keepL live tm) σ).2:=rfl
theorem ZIw (live:List Nat) (c:Zf) (i:Nat) (tm:Tms) (σ:Za):evM fs prim bf m0 live c (some (.exit i,tm,σ))=some (.exit i,tm,σ):=rfl
theorem Zzt (live:List Nat) (c:Zf) (tm:Tms) (σ:Za):evM fs prim bf m0 live c (some (.ret,tm,σ))=some (.ret,tm,σ):=rfl
theorem Zz9 (live:List Nat) (c:Zf) (x:AVal) (tm:Tms) (σ:Za):evM fs prim bf m0 live c (some (.panic x,tm,σ))=some (.panic x,tm,σ):=rfl
theorem ZJI (live:List Nat) (b:Zf) (c:Prop) [Decidable c] (x y:Option (Za1×Tms×Za)):evM fs prim bf m0 live b (if c then x else y)=if c then evM fs prim bf m0 live b x else evM fs prim bf m0 live b y:=by split <;> rfl
end
def Zbf:AVal->Bool
 | .int _ _=>true
 | .bool _=>true
 | .str _=>true
 | .nilp=>true
 | .nilm=>true
 | .nili=>true
 | .lst _ _=>true
 | .fn _ []=>true
 | _=>false
def Z5:AVal->Bool
 | .agg cs=>cs.all Zbf
 | x=>Zbf x
def Zbr:AVal->AVal
 | .lst _ xs=>.lst false xs
 | x=>x
def ZK:AVal->AVal
 | .agg cs=>.agg (cs.map Zbr)
 | x=>Zbr x
theorem Zvi {σ:Za} {x:AVal} (h:Zbf x=true):ZcH σ x=some (Zbr x,[]):=by
 cases x <;> first | (simp [Zbf] at h;done) | rfl
theorem ZuZ {σ:Za}:∀ {xs:List AVal},xs.all Zbf=true->ZcT σ xs=some (xs.map Zbr,[])
 | [],_=>rfl
 | x::xs,h=>by
  simp only [XD,Xl] at h
  simp only [ZcT,Zvi h.1,ZuZ h.2,Xo,Xm]
theorem Zil {x:AVal} (h:∀ cs,x≠.agg cs):Z5 x=Zbf x/\ZK x=Zbr x:=by
 cases x <;> first | exact ⟨rfl,rfl⟩ | exact absurd rfl (h _)
theorem ZOH {σ:Za} {x:AVal} (h:∀ cs,x≠.agg cs):showA σ x=ZcH σ x:=by
 cases x <;> first | rfl | exact absurd rfl (h _)
theorem ZpM (x:AVal):(∃ cs,x=.agg cs)\/∀ cs,x≠.agg cs:=by
 cases x <;> first | exact Xr ⟨_,rfl⟩ | (right;intro cs;simp)
theorem ZM0 {σ:Za} {x:AVal} (h:Z5 x=true):showA σ x=some (ZK x,[]):=by
 rcases ZpM x with ⟨cs,rfl⟩ | hn
 ·simp only [Z5] at h
  simp only [showA,ZuZ h,ZK]
 ·rw [(Zil hn).1] at h
  rw [ZOH hn,(Zil hn).2]
  exact Zvi h
theorem Zef {σ:Za}:∀ {xs:List AVal},xs.all Z5=true->showAs σ xs=some (xs.map ZK,[])
 | [],_=>rfl
 | x::xs,h=>by
  simp only [XD,Xl] at h
  simp only [showAs,ZM0 h.1,Zef h.2,Xo,Xm]
theorem Zvn {x:AVal} (h:Zbf x=true):Z9 (Zbr x)=[]:=by
 cases x
 case fn f cs=>cases cs <;> simp [Zbf] at h;rfl
 all_goals first | (simp [Zbf] at h;done) | rfl
theorem Zwt:∀ {xs:List AVal},xs.all Zbf=true->Zw (xs.map Zbr)=[]
 | [],_=>rfl
 | x::xs,h=>by
  simp only [XD,Xl] at h
  simp only [Xo,Zw,Zvn h.1,Zwt h.2,Xm]
theorem Zsf {x:AVal} (h:Z5 x=true):Z9 (ZK x)=[]:=by
 rcases ZpM x with ⟨cs,rfl⟩ | hn
 ·simp only [Z5] at h
  simp only [ZK,Z9];exact Zwt h
 ·rw [(Zil hn).1] at h
  rw [(Zil hn).2];exact Zvn h
theorem Zdz:∀ {xs:List AVal},xs.all Z5=true->Zw (xs.map ZK)=[]
 | [],_=>rfl
 | x::xs,h=>by
  simp only [XD,Xl] at h
  simp only [Xo,Zw,Zsf h.1,Zdz h.2,Xm]
theorem ZwS {ρ:Rho} {x:AVal} (h:Zbf x=true):Zr ρ (Zbr x)=Zbr x:=by
 cases x
 case fn f cs=>cases cs <;> simp [Zbf] at h;rfl
 all_goals first | (simp [Zbf] at h;done) | rfl
theorem Zur {ρ:Rho}:∀ {xs:List AVal},xs.all Zbf=true->Zg ρ (xs.map Zbr)=xs.map Zbr
 | [],_=>rfl
 | x::xs,h=>by
  simp only [XD,Xl] at h
  simp only [Xo,Zg,ZwS h.1,Zur h.2]
theorem ZsN {ρ:Rho} {x:AVal} (h:Z5 x=true):Zr ρ (ZK x)=ZK x:=by
 rcases ZpM x with ⟨cs,rfl⟩ | hn
 ·simp only [Z5] at h
  simp only [ZK,Zr];rw [Zur h]
 ·rw [(Zil hn).1] at h
  rw [(Zil hn).2];exact ZwS h
theorem ZdD {ρ:Rho}:∀ {xs:List AVal},xs.all Z5=true->Zg ρ (xs.map ZK)=xs.map ZK
 | [],_=>rfl
 | x::xs,h=>by
  simp only [XD,Xl] at h
  simp only [Xo,Zg,ZsN h.1,ZdD h.2]
theorem Zfj {O:ZX} {bf:Nat->Bool} {σ:Za} {sq f own:Nat} {view:Bool} {args:List AVal} (hb:bf f=false) (h:args.all Z5=true) :
  Zk O bf σ sq f own view args=ZaH σ σ [] [] sq own (Z2 view 0 (O f (args.map ZK) [])):=by
 unfold Zk ZbW
 rw [hb]
 simp only [Xi,if_false,Zef h]
 have h1:Zp σ []=σ:=rfl
 rw [h1,Zdz h]
 have h2:Zt σ 1000 [] []=[]:=rfl
 rw [h2]
 unfold ZbM
 simp only [Wr,if_true,ZdD h,Zq,XJ]
theorem Zjb (σ:Za) (sq own:Nat) (r:AVal) (h:Zr (ZaC [] [] sq) r=r):ZaH σ σ [] [] sq own (some (r,[]))=some (r,σ,{}):=by
 simp only [ZaH,W5,Wg,if_true,Zdg,Bool.not_true,Xaa,Xi,if_false]
 split
 ·rfl
 ·rw [h]
end
section
section
variable (ρ:Rho) (σ:Za)
theorem Zyv  : ZaX (.top)=false:=rfl
theorem Zze  : ZaX (.any)=false:=rfl
theorem ZHL (k:IntKind) (n:Int):ZaX (.int k n)=false:=rfl
theorem ZDX (b:Bool):ZaX (.bool b)=false:=rfl
theorem ZGQ (l:List UInt8):ZaX (.str l)=false:=rfl
theorem ZHd  : ZaX (.nilp)=false:=rfl
theorem ZNf (t:Nat) (o:Nat):ZaX (.ref t o)=false:=rfl
theorem ZES (t:Nat) (g:Nat) (i:Nat) (o:Nat):ZaX (.eref t g i o)=false:=rfl
theorem ZDo (cs:List AVal) (o:Nat):ZaX (.iptr cs o)=false:=rfl
theorem ZKb (x:Bool) (xs:List AVal):ZaX (.lst x xs)=false:=rfl
theorem ZNU (t:Nat) (g:Nat) (lo:Nat) (n:Nat):ZaX (.sl t g lo n)=false:=rfl
theorem ZIj (cs:List AVal):ZaX (.agg cs)=false:=rfl
theorem ZAU (vs:List AVal):ZaX (.tup vs)=false:=rfl
theorem ZOJ (f:Nat) (caps:List AVal):ZaX (.fn f caps)=false:=rfl
theorem ZLd  : ZaX (.nilm)=false:=rfl
theorem ZGu (t:Nat):ZaX (.map t)=false:=rfl
theorem ZEe  : ZaX (.nili)=false:=rfl
theorem ZFv (t:Nat) (x:AVal):ZaX (.iface t x)=false:=rfl
theorem Zyk (x:AVal):ZaX (.pan x)=true:=rfl
theorem ZOg  : ZS (.top)=false:=rfl
theorem ZET  : ZS (.any)=true:=rfl
theorem ZFD (k:IntKind) (n:Int):ZS (.int k n)=true:=rfl
theorem ZNF (b:Bool):ZS (.bool b)=true:=rfl
theorem ZzI (l:List UInt8):ZS (.str l)=true:=rfl
theorem ZOo  : ZS (.nilp)=true:=rfl
theorem Zy8 (t:Nat) (o:Nat):ZS (.ref t o)=true:=rfl
theorem ZO0 (t:Nat) (g:Nat) (i:Nat) (o:Nat):ZS (.eref t g i o)=true:=rfl
theorem Zy6 (cs:List AVal) (o:Nat):ZS (.iptr cs o)=true:=rfl
theorem ZC7 (x:Bool) (xs:List AVal):ZS (.lst x xs)=true:=rfl
theorem ZIl (t:Nat) (g:Nat) (lo:Nat) (n:Nat):ZS (.sl t g lo n)=true:=rfl
theorem ZQL (cs:List AVal):ZS (.agg cs)=false:=rfl
theorem ZCD (vs:List AVal):ZS (.tup vs)=false:=rfl
theorem ZGP (f:Nat) (caps:List AVal):ZS (.fn f caps)=true:=rfl
theorem Zzp  : ZS (.nilm)=true:=rfl
theorem ZC8 (t:Nat):ZS (.map t)=true:=rfl
theorem ZBy  : ZS (.nili)=true:=rfl
theorem ZKp (t:Nat) (x:AVal):ZS (.iface t x)=true:=rfl
theorem ZzC (x:AVal):ZS (.pan x)=false:=rfl
theorem ZD6  : Zbv (.top)=false:=rfl
theorem ZJ9  : Zbv (.any)=true:=rfl
theorem ZLs (k:IntKind) (n:Int):Zbv (.int k n)=true:=rfl
theorem ZNv (b:Bool):Zbv (.bool b)=true:=rfl
theorem ZEq (l:List UInt8):Zbv (.str l)=true:=rfl
theorem ZAX  : Zbv (.nilp)=true:=rfl
theorem ZxC (t:Nat) (o:Nat):Zbv (.ref t o)=true:=rfl
theorem ZIV (t:Nat) (g:Nat) (i:Nat) (o:Nat):Zbv (.eref t g i o)=true:=rfl
theorem ZQZ (cs:List AVal) (o:Nat):Zbv (.iptr cs o)=true:=rfl
theorem ZD7 (x:Bool) (xs:List AVal):Zbv (.lst x xs)=true:=rfl
theorem ZzX (t:Nat) (g:Nat) (lo:Nat) (n:Nat):Zbv (.sl t g lo n)=true:=rfl
theorem ZFG (cs:List AVal):Zbv (.agg cs)=true:=rfl
theorem ZPB (vs:List AVal):Zbv (.tup vs)=true:=rfl
theorem ZDL (f:Nat) (caps:List AVal):Zbv (.fn f caps)=true:=rfl
theorem ZLF  : Zbv (.nilm)=true:=rfl
theorem ZH1 (t:Nat):Zbv (.map t)=true:=rfl
theorem ZLg  : Zbv (.nili)=true:=rfl
theorem ZII (t:Nat) (x:AVal):Zbv (.iface t x)=true:=rfl
theorem ZGs (x:AVal):Zbv (.pan x)=true:=rfl
theorem ZN5  : Zbb (.top)=false:=rfl
theorem ZCu  : Zbb (.any)=false:=rfl
theorem Zyp (k:IntKind) (n:Int):Zbb (.int k n)=true:=rfl
theorem ZDs (b:Bool):Zbb (.bool b)=true:=rfl
theorem ZDS (l:List UInt8):Zbb (.str l)=true:=rfl
theorem ZLI  : Zbb (.nilp)=true:=rfl
theorem ZMS (t:Nat) (o:Nat):Zbb (.ref t o)=false:=rfl
theorem ZQJ (t:Nat) (g:Nat) (i:Nat) (o:Nat):Zbb (.eref t g i o)=false:=rfl
theorem ZGi (cs:List AVal) (o:Nat):Zbb (.iptr cs o)=false:=rfl
theorem ZO2 (x:Bool) (xs:List AVal):Zbb (.lst x xs)=false:=rfl
theorem ZJ8 (t:Nat) (g:Nat) (lo:Nat) (n:Nat):Zbb (.sl t g lo n)=false:=rfl
theorem ZOc (cs:List AVal):Zbb (.agg cs)=false:=rfl
theorem ZFF (vs:List AVal):Zbb (.tup vs)=false:=rfl
theorem ZAg (f:Nat) (caps:List AVal):Zbb (.fn f caps)=false:=rfl
theorem ZPt  : Zbb (.nilm)=true:=rfl
theorem ZHw (t:Nat):Zbb (.map t)=false:=rfl
theorem ZJZ  : Zbb (.nili)=true:=rfl
theorem ZOV (t:Nat) (x:AVal):Zbb (.iface t x)=false:=rfl
theorem ZyZ (x:AVal):Zbb (.pan x)=false:=rfl
theorem ZFd  : Zbz (.top)=false:=rfl
theorem ZAI  : Zbz (.any)=false:=rfl
theorem ZNw (k:IntKind) (n:Int):Zbz (.int k n)=true:=rfl
theorem ZK8 (b:Bool):Zbz (.bool b)=true:=rfl
theorem ZCJ (l:List UInt8):Zbz (.str l)=true:=rfl
theorem ZCL  : Zbz (.nilp)=true:=rfl
theorem ZA2 (t:Nat) (o:Nat):Zbz (.ref t o)=false:=rfl
theorem ZE8 (t:Nat) (g:Nat) (i:Nat) (o:Nat):Zbz (.eref t g i o)=false:=rfl
theorem ZxF (cs:List AVal) (o:Nat):Zbz (.iptr cs o)=false:=rfl
theorem ZAn (x:Bool) (xs:List AVal):Zbz (.lst x xs)=false:=rfl
theorem ZF3 (t:Nat) (g:Nat) (lo:Nat) (n:Nat):Zbz (.sl t g lo n)=false:=rfl
theorem ZFm (cs:List AVal):Zbz (.agg cs)=cs.all Zbb:=rfl
theorem ZNx (vs:List AVal):Zbz (.tup vs)=false:=rfl
theorem ZDb (f:Nat) (caps:List AVal):Zbz (.fn f caps)=false:=rfl
theorem Zyh  : Zbz (.nilm)=true:=rfl
theorem ZNl (t:Nat):Zbz (.map t)=false:=rfl
theorem ZzK  : Zbz (.nili)=true:=rfl
theorem ZKn (t:Nat) (x:AVal):Zbz (.iface t x)=false:=rfl
theorem ZJt (x:AVal):Zbz (.pan x)=false:=rfl
theorem ZCx  : ZbL (.top)=false:=rfl
theorem ZxN  : ZbL (.any)=false:=rfl
theorem ZFu (k:IntKind) (n:Int):ZbL (.int k n)=true:=rfl
theorem ZFl (b:Bool):ZbL (.bool b)=true:=rfl
theorem ZKU (l:List UInt8):ZbL (.str l)=true:=rfl
theorem ZKH  : ZbL (.nilp)=true:=rfl
theorem ZEE (t:Nat) (o:Nat):ZbL (.ref t o)=false:=rfl
theorem ZAV (t:Nat) (g:Nat) (i:Nat) (o:Nat):ZbL (.eref t g i o)=false:=rfl
theorem Zyd (cs:List AVal) (o:Nat):ZbL (.iptr cs o)=false:=rfl
theorem ZL6 (x:Bool) (xs:List AVal):ZbL (.lst x xs)=false:=rfl
theorem ZHk (t:Nat) (g:Nat) (lo:Nat) (n:Nat):ZbL (.sl t g lo n)=false:=rfl
theorem ZLX (cs:List AVal):ZbL (.agg cs)=cs.all Zbb:=rfl
theorem ZAJ (vs:List AVal):ZbL (.tup vs)=vs.all Zbz:=rfl
theorem ZMN (f:Nat) (caps:List AVal):ZbL (.fn f caps)=false:=rfl
theorem ZC0  : ZbL (.nilm)=true:=rfl
theorem ZGv (t:Nat):ZbL (.map t)=false:=rfl
theorem Zzk  : ZbL (.nili)=true:=rfl
theorem ZLD (t:Nat) (x:AVal):ZbL (.iface t x)=false:=rfl
theorem ZIM  : Zbf (.top)=false:=rfl
theorem ZC6  : Zbf (.any)=false:=rfl
theorem ZtY (k:IntKind) (n:Int):Zbf (.int k n)=true:=rfl
theorem ZQF (b:Bool):Zbf (.bool b)=true:=rfl
theorem ZwU (l:List UInt8):Zbf (.str l)=true:=rfl
theorem ZMc  : Zbf (.nilp)=true:=rfl
theorem ZFZ (t:Nat) (o:Nat):Zbf (.ref t o)=false:=rfl
theorem Zyu (t:Nat) (g:Nat) (i:Nat) (o:Nat):Zbf (.eref t g i o)=false:=rfl
theorem ZxV (cs:List AVal) (o:Nat):Zbf (.iptr cs o)=false:=rfl
theorem Zsd (x:Bool) (xs:List AVal):Zbf (.lst x xs)=true:=rfl
theorem ZL9 (t:Nat) (g:Nat) (lo:Nat) (n:Nat):Zbf (.sl t g lo n)=false:=rfl
theorem ZED (cs:List AVal):Zbf (.agg cs)=false:=rfl
theorem ZGM (vs:List AVal):Zbf (.tup vs)=false:=rfl
theorem ZBe  : Zbf (.nilm)=true:=rfl
theorem ZKd (t:Nat):Zbf (.map t)=false:=rfl
theorem ZNu  : Zbf (.nili)=true:=rfl
theorem Zxy (t:Nat) (x:AVal):Zbf (.iface t x)=false:=rfl
theorem Zx4 (x:AVal):Zbf (.pan x)=false:=rfl
theorem ZFo  : Z5 (.top)=false:=rfl
theorem ZyA  : Z5 (.any)=false:=rfl
theorem ZK2 (k:IntKind) (n:Int):Z5 (.int k n)=true:=rfl
theorem ZxO (b:Bool):Z5 (.bool b)=true:=rfl
theorem ZFi (l:List UInt8):Z5 (.str l)=true:=rfl
theorem ZK3  : Z5 (.nilp)=true:=rfl
theorem ZAv (t:Nat) (o:Nat):Z5 (.ref t o)=false:=rfl
theorem ZPw (t:Nat) (g:Nat) (i:Nat) (o:Nat):Z5 (.eref t g i o)=false:=rfl
theorem ZP5 (cs:List AVal) (o:Nat):Z5 (.iptr cs o)=false:=rfl
theorem ZyK (x:Bool) (xs:List AVal):Z5 (.lst x xs)=true:=rfl
theorem ZOe (t:Nat) (g:Nat) (lo:Nat) (n:Nat):Z5 (.sl t g lo n)=false:=rfl
theorem Zuk (cs:List AVal):Z5 (.agg cs)=cs.all Zbf:=rfl
theorem ZKh (vs:List AVal):Z5 (.tup vs)=false:=rfl
theorem ZDt  : Z5 (.nilm)=true:=rfl
theorem Zys (t:Nat):Z5 (.map t)=false:=rfl
theorem ZKg  : Z5 (.nili)=true:=rfl
theorem ZJ7 (t:Nat) (x:AVal):Z5 (.iface t x)=false:=rfl
theorem ZLY (x:AVal):Z5 (.pan x)=false:=rfl
theorem Zzd  : Zbr (.top)=(.top):=rfl
theorem ZPk  : Zbr (.any)=(.any):=rfl
theorem ZvT (k:IntKind) (n:Int):Zbr (.int k n)=(.int k n):=rfl
theorem ZB3 (b:Bool):Zbr (.bool b)=(.bool b):=rfl
theorem ZtB (l:List UInt8):Zbr (.str l)=(.str l):=rfl
theorem ZKe  : Zbr (.nilp)=(.nilp):=rfl
theorem Zz1 (t:Nat) (o:Nat):Zbr (.ref t o)=(.ref t o):=rfl
theorem ZMR (t:Nat) (g:Nat) (i:Nat) (o:Nat):Zbr (.eref t g i o)=(.eref t g i o):=rfl
theorem ZFT (cs:List AVal) (o:Nat):Zbr (.iptr cs o)=(.iptr cs o):=rfl
theorem ZwP (x:Bool) (xs:List AVal):Zbr (.lst x xs)=.lst false xs:=rfl
theorem ZEv (t:Nat) (g:Nat) (lo:Nat) (n:Nat):Zbr (.sl t g lo n)=(.sl t g lo n):=rfl
theorem ZzN (cs:List AVal):Zbr (.agg cs)=(.agg cs):=rfl
theorem ZK6 (vs:List AVal):Zbr (.tup vs)=(.tup vs):=rfl
theorem ZKY (f:Nat) (caps:List AVal):Zbr (.fn f caps)=(.fn f caps):=rfl
theorem ZJj  : Zbr (.nilm)=(.nilm):=rfl
theorem ZCf (t:Nat):Zbr (.map t)=(.map t):=rfl
theorem ZKV  : Zbr (.nili)=(.nili):=rfl
theorem ZBV (t:Nat) (x:AVal):Zbr (.iface t x)=(.iface t x):=rfl
theorem ZLh (x:AVal):Zbr (.pan x)=(.pan x):=rfl
theorem ZKR  : ZK (.top)=(.top):=rfl
theorem ZBa  : ZK (.any)=(.any):=rfl
theorem ZCA (k:IntKind) (n:Int):ZK (.int k n)=(.int k n):=rfl
theorem ZEj (b:Bool):ZK (.bool b)=(.bool b):=rfl
theorem ZNc (l:List UInt8):ZK (.str l)=(.str l):=rfl
theorem ZGc  : ZK (.nilp)=(.nilp):=rfl
theorem ZBC (t:Nat) (o:Nat):ZK (.ref t o)=(.ref t o):=rfl
theorem ZDH (t:Nat) (g:Nat) (i:Nat) (o:Nat):ZK (.eref t g i o)=(.eref t g i o):=rfl
theorem ZLq (cs:List AVal) (o:Nat):ZK (.iptr cs o)=(.iptr cs o):=rfl
theorem ZDE (x:Bool) (xs:List AVal):ZK (.lst x xs)=.lst false xs:=rfl
theorem ZP8 (t:Nat) (g:Nat) (lo:Nat) (n:Nat):ZK (.sl t g lo n)=(.sl t g lo n):=rfl
theorem ZsJ (cs:List AVal):ZK (.agg cs)=.agg (cs.map Zbr):=rfl
theorem ZBA (vs:List AVal):ZK (.tup vs)=(.tup vs):=rfl
theorem ZHe (f:Nat) (caps:List AVal):ZK (.fn f caps)=(.fn f caps):=rfl
theorem ZFg  : ZK (.nilm)=(.nilm):=rfl
theorem ZFx (t:Nat):ZK (.map t)=(.map t):=rfl
theorem ZHf  : ZK (.nili)=(.nili):=rfl
theorem ZL5 (t:Nat) (x:AVal):ZK (.iface t x)=(.iface t x):=rfl
theorem ZzA (x:AVal):ZK (.pan x)=(.pan x):=rfl
theorem ZFy  : AVal.cells (.top)=[(.top)]:=rfl
theorem ZGg  : AVal.cells (.any)=[(.any)]:=rfl
theorem Zy1 (k:IntKind) (n:Int):AVal.cells (.int k n)=[(.int k n)]:=rfl
theorem ZBK (b:Bool):AVal.cells (.bool b)=[(.bool b)]:=rfl
theorem ZMi (l:List UInt8):AVal.cells (.str l)=[(.str l)]:=rfl
theorem ZGe  : AVal.cells (.nilp)=[(.nilp)]:=rfl
theorem ZG5 (t:Nat) (o:Nat):AVal.cells (.ref t o)=[(.ref t o)]:=rfl
theorem ZC2 (t:Nat) (g:Nat) (i:Nat) (o:Nat):AVal.cells (.eref t g i o)=[(.eref t g i o)]:=rfl
theorem ZJB (cs:List AVal) (o:Nat):AVal.cells (.iptr cs o)=[(.iptr cs o)]:=rfl
theorem ZDr (x:Bool) (xs:List AVal):AVal.cells (.lst x xs)=[(.lst x xs)]:=rfl
theorem ZEV (t:Nat) (g:Nat) (lo:Nat) (n:Nat):AVal.cells (.sl t g lo n)=[(.sl t g lo n)]:=rfl
theorem ZE6 (cs:List AVal):AVal.cells (.agg cs)=cs:=rfl
theorem ZOT (vs:List AVal):AVal.cells (.tup vs)=[(.tup vs)]:=rfl
theorem Zxz (f:Nat) (caps:List AVal):AVal.cells (.fn f caps)=[(.fn f caps)]:=rfl
theorem ZAe  : AVal.cells (.nilm)=[(.nilm)]:=rfl
theorem ZAp (t:Nat):AVal.cells (.map t)=[(.map t)]:=rfl
theorem ZAH  : AVal.cells (.nili)=[(.nili)]:=rfl
theorem ZBs (t:Nat) (x:AVal):AVal.cells (.iface t x)=[(.iface t x)]:=rfl
theorem ZFH (x:AVal):AVal.cells (.pan x)=[(.pan x)]:=rfl
theorem ZGq  : Za4 (.top)=(.top):=rfl
theorem ZHl  : Za4 (.any)=(.any):=rfl
theorem ZC9 (k:IntKind) (n:Int):Za4 (.int k n)=(.int k n):=rfl
theorem ZB8 (b:Bool):Za4 (.bool b)=(.bool b):=rfl
theorem ZQN (l:List UInt8):Za4 (.str l)=(.str l):=rfl
theorem ZHq  : Za4 (.nilp)=(.nilp):=rfl
theorem ZQq (t:Nat) (o:Nat):Za4 (.ref t o)=(.ref t o):=rfl
theorem ZLO (t:Nat) (g:Nat) (i:Nat) (o:Nat):Za4 (.eref t g i o)=(.eref t g i o):=rfl
theorem ZOW (cs:List AVal) (o:Nat):Za4 (.iptr cs o)=(.iptr cs o):=rfl
theorem ZMy (x:Bool) (xs:List AVal):Za4 (.lst x xs)=(.lst x xs):=rfl
theorem ZB9 (t:Nat) (g:Nat) (lo:Nat) (n:Nat):Za4 (.sl t g lo n)=(.sl t g lo n):=rfl
theorem ZCN (cs:List AVal):Za4 (.agg cs)=(.agg cs):=rfl
theorem ZE3 (vs:List AVal):Za4 (.tup vs)=(.tup vs):=rfl
theorem ZAE (f:Nat) (caps:List AVal):Za4 (.fn f caps)=(.fn f caps):=rfl
theorem ZyY  : Za4 (.nilm)=(.nilm):=rfl
theorem ZB4 (t:Nat):Za4 (.map t)=(.map t):=rfl
theorem ZKz  : Za4 (.nili)=(.nili):=rfl
theorem ZN3 (t:Nat) (x:AVal):Za4 (.iface t x)=(.iface t x):=rfl
theorem ZEK (x:AVal):Za4 (.pan x)=x:=rfl
theorem ZNk  : Zbp (.top)=4:=rfl
theorem ZQe  : Zbp (.any)=4:=rfl
theorem ZM8 (k:IntKind) (n:Int):Zbp (.int k n)=0:=rfl
theorem ZMK (b:Bool):Zbp (.bool b)=1:=rfl
theorem ZBd (l:List UInt8):Zbp (.str l)=2:=rfl
theorem ZMp  : Zbp (.nilp)=4:=rfl
theorem ZLS (t:Nat) (o:Nat):Zbp (.ref t o)=4:=rfl
theorem Zyl (t:Nat) (g:Nat) (i:Nat) (o:Nat):Zbp (.eref t g i o)=4:=rfl
theorem Zx1 (cs:List AVal) (o:Nat):Zbp (.iptr cs o)=4:=rfl
theorem ZG4 (x:Bool) (xs:List AVal):Zbp (.lst x xs)=4:=rfl
theorem ZQM (t:Nat) (g:Nat) (lo:Nat) (n:Nat):Zbp (.sl t g lo n)=4:=rfl
theorem ZBw (cs:List AVal):Zbp (.agg cs)=4:=rfl
theorem ZF1 (vs:List AVal):Zbp (.tup vs)=4:=rfl
theorem ZN2 (f:Nat) (caps:List AVal):Zbp (.fn f caps)=4:=rfl
theorem ZBr  : Zbp (.nilm)=4:=rfl
theorem ZID (t:Nat):Zbp (.map t)=4:=rfl
theorem ZGy  : Zbp (.nili)=4:=rfl
theorem ZE7 (t:Nat) (x:AVal):Zbp (.iface t x)=4:=rfl
theorem ZMC (x:AVal):Zbp (.pan x)=4:=rfl
theorem ZMj  : Z9 (.top)=[]:=rfl
theorem ZCH  : Z9 (.any)=[]:=rfl
theorem ZDR (k:IntKind) (n:Int):Z9 (.int k n)=[]:=rfl
theorem ZML (b:Bool):Z9 (.bool b)=[]:=rfl
theorem ZIN (l:List UInt8):Z9 (.str l)=[]:=rfl
theorem ZLW  : Z9 (.nilp)=[]:=rfl
theorem Zza (t:Nat) (o:Nat):Z9 (.ref t o)=[t]:=rfl
theorem ZKI (t:Nat) (g:Nat) (i:Nat) (o:Nat):Z9 (.eref t g i o)=[t]:=rfl
theorem ZPE (cs:List AVal) (o:Nat):Z9 (.iptr cs o)=[]:=rfl
theorem ZJs (x:Bool) (xs:List AVal):Z9 (.lst x xs)=[]:=rfl
theorem ZH0 (t:Nat) (g:Nat) (lo:Nat) (n:Nat):Z9 (.sl t g lo n)=[t]:=rfl
theorem ZCo (cs:List AVal):Z9 (.agg cs)=Zw cs:=rfl
theorem ZO5 (vs:List AVal):Z9 (.tup vs)=Zw vs:=rfl
theorem ZJd (f:Nat) (caps:List AVal):Z9 (.fn f caps)=Zw caps:=rfl
theorem ZLi  : Z9 (.nilm)=[]:=rfl
theorem ZEW (t:Nat):Z9 (.map t)=[t]:=rfl
theorem ZNQ  : Z9 (.nili)=[]:=rfl
theorem ZN1 (t:Nat) (x:AVal):Z9 (.iface t x)=Z9 x:=rfl
theorem ZIo (x:AVal):Z9 (.pan x)=Z9 x:=rfl
theorem ZGw  : Zr ρ (.top)=(.top):=rfl
theorem ZQr  : Zr ρ (.any)=(.any):=rfl
theorem ZJa (k:IntKind) (n:Int):Zr ρ (.int k n)=(.int k n):=rfl
theorem ZEi (b:Bool):Zr ρ (.bool b)=(.bool b):=rfl
theorem ZPe (l:List UInt8):Zr ρ (.str l)=(.str l):=rfl
theorem ZN7  : Zr ρ (.nilp)=(.nilp):=rfl
theorem ZGH (cs:List AVal) (o:Nat):Zr ρ (.iptr cs o)=(.iptr cs o):=rfl
theorem ZDA (x:Bool) (xs:List AVal):Zr ρ (.lst x xs)=(.lst x xs):=rfl
theorem ZKN (cs:List AVal):Zr ρ (.agg cs)=.agg (Zg ρ cs):=rfl
theorem ZN0 (vs:List AVal):Zr ρ (.tup vs)=.tup (Zg ρ vs):=rfl
theorem ZKQ (f:Nat) (caps:List AVal):Zr ρ (.fn f caps)=.fn f (Zg ρ caps):=rfl
theorem ZMb  : Zr ρ (.nilm)=(.nilm):=rfl
theorem ZLN  : Zr ρ (.nili)=(.nili):=rfl
theorem ZJX (t:Nat) (x:AVal):Zr ρ (.iface t x)=.iface t (Zr ρ x):=rfl
theorem ZCS (x:AVal):Zr ρ (.pan x)=.pan (Zr ρ x):=rfl
theorem ZGm (f:Nat):Zbf (.fn f [])=true:=rfl
theorem ZKW (f:Nat):Z5 (.fn f [])=true:=rfl
theorem ZEH (t:Nat) (x:AVal):ZbL (.pan (.iface t x))=Zbb x:=rfl
theorem ZDJ (live:List Nat) (tm:Tms):ZkC live (some (tm,σ,none))=some (.normal,keepL live tm,σ):=rfl
theorem ZBi (live:List Nat) (tm:Tms) (x:AVal):ZkC live (some (tm,σ,some x))=some (.panic x,[],σ):=rfl
theorem ZzP (live:List Nat):ZkC live none=none:=rfl
theorem ZLU (t o:Nat):Zr ρ (.ref t o)=(match ρ t 0 with | some (t',0)=>.ref t' o | _=>.any):=rfl
theorem ZIc (t:Nat):Zr ρ (.map t)=(match ρ t 0 with | some (t',0)=>.map t' | _=>.any):=rfl
theorem ZEx (t g lo n:Nat):Zr ρ (.sl t g lo n)=(match ρ t g with | some (t',g')=>.sl t' g' lo n | none=>.any):=rfl
theorem ZFq (t g i o:Nat):Zr ρ (.eref t g i o)=(match ρ t g with | some (t',g')=>.eref t' g' i o | none=>.any):=rfl
theorem ZyW:Zw []=[]:=rfl
theorem ZMk (x:AVal) (xs:List AVal):Zw (x::xs)=Z9 x++Zw xs:=rfl
theorem ZH2:Zg ρ []=[]:=rfl
theorem ZFW (x:AVal) (xs:List AVal):Zg ρ (x::xs)=Zr ρ x::Zg ρ xs:=rfl
end
end
section
mutual
def ZI:AVal->Bool
 | .ref _ _=>false
 | .eref _ _ _ _=>false
 | .sl _ _ _ _=>false
 | .map _=>false
 | .agg cs=>Zd cs
 | .tup vs=>Zd vs
 | .fn _ vs=>Zd vs
 | .iface _ x=>ZI x
 | .pan x=>ZI x
 | .top=>true
 | .any=>true
 | .int _ _=>true
 | .bool _=>true
 | .str _=>true
 | .nilp=>true
 | .nilm=>true
 | .nili=>true
 | .iptr _ _=>true
 | .lst _ _=>true
def Zd:List AVal->Bool
 | []=>true
 | x::xs=>ZI x && Zd xs
end
mutual
theorem Z4 (ρ:Rho):∀ (x:AVal),ZI x=true->Zr ρ x=x/\Z9 x=[]
 | .ref _ _,h=>by simp [ZI] at h
 | .eref _ _ _ _,h=>by simp [ZI] at h
 | .sl _ _ _ _,h=>by simp [ZI] at h
 | .map _,h=>by simp [ZI] at h
 | .agg cs,h=>by have:=Za8 ρ cs (by simpa only [ZI] using h);exact ⟨by simp only [Zr,this.1],by simp only [Z9,this.2]⟩
 | .tup cs,h=>by have:=Za8 ρ cs (by simpa only [ZI] using h);exact ⟨by simp only [Zr,this.1],by simp only [Z9,this.2]⟩
 | .fn f cs,h=>by have:=Za8 ρ cs (by simpa only [ZI] using h);exact ⟨by simp only [Zr,this.1],by simp only [Z9,this.2]⟩
 | .iface t x,h=>by have:=Z4 ρ x (by simpa only [ZI] using h);exact ⟨by simp only [Zr,this.1],by simp only [Z9,this.2]⟩
 | .pan x,h=>by have:=Z4 ρ x (by simpa only [ZI] using h);exact ⟨by simp only [Zr,this.1],by simp only [Z9,this.2]⟩
 | .top,_=>⟨rfl,rfl⟩
 | .any,_=>⟨rfl,rfl⟩
 | .int _ _,_=>⟨rfl,rfl⟩
 | .bool _,_=>⟨rfl,rfl⟩
 | .str _,_=>⟨rfl,rfl⟩
 | .nilp,_=>⟨rfl,rfl⟩
 | .nilm,_=>⟨rfl,rfl⟩
 | .nili,_=>⟨rfl,rfl⟩
 | .iptr _ _,_=>⟨rfl,rfl⟩
 | .lst _ _,_=>⟨rfl,rfl⟩
theorem Za8 (ρ:Rho):∀ (xs:List AVal),Zd xs=true->Zg ρ xs=xs/\Zw xs=[]
 | [],_=>⟨rfl,rfl⟩
 | x::xs,h=>by
  simp only [Zd,Xl] at h
  have h1:=Z4 ρ x h.1
  have h2:=Za8 ρ xs h.2
  exact ⟨by simp only [Zg,h1.1,h2.1],by simp only [Zw,h1.2,h2.2,Xm]⟩
end
theorem ZuN {σ:Za} {r:AVal} (h:ZI r=true):Zak 0 σ r=some (r,[]):=by
 have h1:=Z4 (Zi σ 0 []) r h
 have hids:Zy 0 [r] σ=[]:=by
  unfold Zy
  simp only [Zw,h1.2,Xm,List.range_zero,XX]
  rfl
 unfold Zak gcA
 simp only [hids,Zg,Zq,h1.1]
def Zct:AVal->AVal
 | .tup vs=>.tup (vs.map ZK)
 | x=>ZK x
def Zco:AVal->Bool
 | .tup vs=>vs.all Z5
 | x=>Z5 x
def Zb0:AVal->Bool
 | .fn _ _=>false
 | _=>true
def Zb5:AVal->Bool
 | .agg cs=>cs.all Zb0
 | x=>Zb0 x
def Zcr:AVal->Bool
 | .tup vs=>vs.all Zb5
 | x=>Zb5 x
theorem ZIf {k g n:Nat} {xs:List AVal} {σ:Za} {t:Nat} (hs:σ[t]?=some (.row g k xs)) (hn:n<=xs.length):Zbw 0 (some (.sl t g 0 n,σ))=some (.lst false (xs.take n),[]):=by
 have hv:viewR σ (.sl t g 0 n)=some (.lst false (xs.take n),[t]):=by
  simp only [viewR,ZU,ZP,ZM,hs,XG,hn,and_self,if_true,WD]
 have e:Zbw 0 (some (.sl t g 0 n,σ))=(match viewR σ (.sl t g 0 n) with
  | some (r',ts)=>match gcA 0 [r'] (Zp σ ts) with
   | ([r''],σ')=>some (r'',σ')
   | _=>none
  | none=>none):=rfl
 rw [e,hv]
 exact ZuN rfl
theorem ZEI {m:Nat} {fn:ZQ} {tm:Tms} {σ:Za}:Zav m fn (some (.ret,tm,σ))=match resA tm σ fn.res with
  | some r=>Zak m σ r
  | none=>none:=rfl
theorem ZHI {m:Nat} {fn:ZQ} {tm:Tms} {σ:Za}:Zav m fn (some (.normal,tm,σ))=match resA tm σ fn.res with
  | some r=>Zak m σ r
  | none=>none:=rfl
theorem ZOk {m:Nat} {fn:ZQ} {tm:Tms} {σ:Za} {x:AVal}:Zav m fn (some (.panic x,tm,σ))=Zak m σ (.pan x):=rfl
theorem ZDB  : ZI (.top)=true:=rfl
theorem ZDe  : ZI (.any)=true:=rfl
theorem ZK7 (k:IntKind) (n:Int):ZI (.int k n)=true:=rfl
theorem ZLv (b:Bool):ZI (.bool b)=true:=rfl
theorem ZFr (l:List UInt8):ZI (.str l)=true:=rfl
theorem ZzW  : ZI (.nilp)=true:=rfl
theorem ZAP (t:Nat) (o:Nat):ZI (.ref t o)=false:=rfl
theorem ZOX (t:Nat) (g:Nat) (i:Nat) (o:Nat):ZI (.eref t g i o)=false:=rfl
theorem Zz0 (cs:List AVal) (o:Nat):ZI (.iptr cs o)=true:=rfl
theorem ZGx (x:Bool) (xs:List AVal):ZI (.lst x xs)=true:=rfl
theorem Zzq (t:Nat) (g:Nat) (lo:Nat) (n:Nat):ZI (.sl t g lo n)=false:=rfl
theorem ZEb (cs:List AVal):ZI (.agg cs)=Zd cs:=rfl
theorem ZHV (vs:List AVal):ZI (.tup vs)=Zd vs:=rfl
theorem ZEG (f:Nat) (caps:List AVal):ZI (.fn f caps)=Zd caps:=rfl
theorem ZKA  : ZI (.nilm)=true:=rfl
theorem ZGj (t:Nat):ZI (.map t)=false:=rfl
theorem ZJk  : ZI (.nili)=true:=rfl
theorem ZFN (t:Nat) (x:AVal):ZI (.iface t x)=ZI x:=rfl
theorem ZJP (x:AVal):ZI (.pan x)=ZI x:=rfl
theorem Zyr  : Zb0 (.top)=true:=rfl
theorem Zz8  : Zb0 (.any)=true:=rfl
theorem Zyy (k:IntKind) (n:Int):Zb0 (.int k n)=true:=rfl
theorem ZCC (b:Bool):Zb0 (.bool b)=true:=rfl
theorem ZCl (l:List UInt8):Zb0 (.str l)=true:=rfl
theorem ZLx  : Zb0 (.nilp)=true:=rfl
theorem Zyq (t:Nat) (o:Nat):Zb0 (.ref t o)=true:=rfl
theorem ZPf (t:Nat) (g:Nat) (i:Nat) (o:Nat):Zb0 (.eref t g i o)=true:=rfl
theorem ZPl (cs:List AVal) (o:Nat):Zb0 (.iptr cs o)=true:=rfl
theorem ZOr (x:Bool) (xs:List AVal):Zb0 (.lst x xs)=true:=rfl
theorem ZLZ (t:Nat) (g:Nat) (lo:Nat) (n:Nat):Zb0 (.sl t g lo n)=true:=rfl
theorem ZLj (cs:List AVal):Zb0 (.agg cs)=true:=rfl
theorem ZCa (vs:List AVal):Zb0 (.tup vs)=true:=rfl
theorem ZMQ (f:Nat) (caps:List AVal):Zb0 (.fn f caps)=false:=rfl
theorem ZLm  : Zb0 (.nilm)=true:=rfl
theorem ZQH (t:Nat):Zb0 (.map t)=true:=rfl
theorem ZGp  : Zb0 (.nili)=true:=rfl
theorem ZPZ (t:Nat) (x:AVal):Zb0 (.iface t x)=true:=rfl
theorem ZHi (x:AVal):Zb0 (.pan x)=true:=rfl
theorem ZCg  : Zb5 (.top)=true:=rfl
theorem ZJ4  : Zb5 (.any)=true:=rfl
theorem ZND (k:IntKind) (n:Int):Zb5 (.int k n)=true:=rfl
theorem ZLT (b:Bool):Zb5 (.bool b)=true:=rfl
theorem ZFY (l:List UInt8):Zb5 (.str l)=true:=rfl
theorem ZCY  : Zb5 (.nilp)=true:=rfl
theorem ZNP (t:Nat) (o:Nat):Zb5 (.ref t o)=true:=rfl
theorem ZAs (t:Nat) (g:Nat) (i:Nat) (o:Nat):Zb5 (.eref t g i o)=true:=rfl
theorem ZQX (cs:List AVal) (o:Nat):Zb5 (.iptr cs o)=true:=rfl
theorem ZNS (x:Bool) (xs:List AVal):Zb5 (.lst x xs)=true:=rfl
theorem ZMm (t:Nat) (g:Nat) (lo:Nat) (n:Nat):Zb5 (.sl t g lo n)=true:=rfl
theorem ZFI (cs:List AVal):Zb5 (.agg cs)=cs.all Zb0:=rfl
theorem ZJf (vs:List AVal):Zb5 (.tup vs)=true:=rfl
theorem ZLV (f:Nat) (caps:List AVal):Zb5 (.fn f caps)=false:=rfl
theorem ZNo  : Zb5 (.nilm)=true:=rfl
theorem ZLL (t:Nat):Zb5 (.map t)=true:=rfl
theorem ZLM  : Zb5 (.nili)=true:=rfl
theorem ZIE (t:Nat) (x:AVal):Zb5 (.iface t x)=true:=rfl
theorem ZCB (x:AVal):Zb5 (.pan x)=true:=rfl
theorem Zzo  : Zcr (.top)=true:=rfl
theorem ZBI  : Zcr (.any)=true:=rfl
theorem ZGa (k:IntKind) (n:Int):Zcr (.int k n)=true:=rfl
theorem ZKm (b:Bool):Zcr (.bool b)=true:=rfl
theorem ZIU (l:List UInt8):Zcr (.str l)=true:=rfl
theorem ZN8  : Zcr (.nilp)=true:=rfl
theorem ZNn (t:Nat) (o:Nat):Zcr (.ref t o)=true:=rfl
theorem ZGR (t:Nat) (g:Nat) (i:Nat) (o:Nat):Zcr (.eref t g i o)=true:=rfl
theorem ZQE (cs:List AVal) (o:Nat):Zcr (.iptr cs o)=true:=rfl
theorem ZPC (x:Bool) (xs:List AVal):Zcr (.lst x xs)=true:=rfl
theorem ZDa (t:Nat) (g:Nat) (lo:Nat) (n:Nat):Zcr (.sl t g lo n)=true:=rfl
theorem ZHg (cs:List AVal):Zcr (.agg cs)=cs.all Zb0:=rfl
theorem ZNj (vs:List AVal):Zcr (.tup vs)=vs.all Zb5:=rfl
theorem ZMJ (f:Nat) (caps:List AVal):Zcr (.fn f caps)=false:=rfl
theorem ZCM  : Zcr (.nilm)=true:=rfl
theorem Zzv (t:Nat):Zcr (.map t)=true:=rfl
theorem ZzG  : Zcr (.nili)=true:=rfl
theorem ZCT (t:Nat) (x:AVal):Zcr (.iface t x)=true:=rfl
theorem ZLo (x:AVal):Zcr (.pan x)=true:=rfl
theorem ZJM  : Zco (.top)=false:=rfl
theorem ZM4  : Zco (.any)=false:=rfl
theorem Zyz (k:IntKind) (n:Int):Zco (.int k n)=true:=rfl
theorem ZxE (b:Bool):Zco (.bool b)=true:=rfl
theorem ZC3 (l:List UInt8):Zco (.str l)=true:=rfl
theorem ZF0  : Zco (.nilp)=true:=rfl
theorem ZKE (t:Nat) (o:Nat):Zco (.ref t o)=false:=rfl
theorem ZO9 (t:Nat) (g:Nat) (i:Nat) (o:Nat):Zco (.eref t g i o)=false:=rfl
theorem ZQO (cs:List AVal) (o:Nat):Zco (.iptr cs o)=false:=rfl
theorem Zzu (x:Bool) (xs:List AVal):Zco (.lst x xs)=true:=rfl
theorem ZFU (t:Nat) (g:Nat) (lo:Nat) (n:Nat):Zco (.sl t g lo n)=false:=rfl
theorem ZxL (cs:List AVal):Zco (.agg cs)=cs.all Zbf:=rfl
theorem ZL7 (vs:List AVal):Zco (.tup vs)=vs.all Z5:=rfl
theorem ZIi  : Zco (.nilm)=true:=rfl
theorem ZME (t:Nat):Zco (.map t)=false:=rfl
theorem ZPn  : Zco (.nili)=true:=rfl
theorem ZyS (t:Nat) (x:AVal):Zco (.iface t x)=false:=rfl
theorem ZF4 (x:AVal):Zco (.pan x)=false:=rfl
theorem ZBu  : Zct (.top)=(.top):=rfl
theorem ZOB  : Zct (.any)=(.any):=rfl
theorem ZKa (k:IntKind) (n:Int):Zct (.int k n)=(.int k n):=rfl
theorem ZNp (b:Bool):Zct (.bool b)=(.bool b):=rfl
theorem ZJb (l:List UInt8):Zct (.str l)=(.str l):=rfl
theorem ZCU  : Zct (.nilp)=(.nilp):=rfl
theorem ZGX (t:Nat) (o:Nat):Zct (.ref t o)=(.ref t o):=rfl
theorem Zyi (t:Nat) (g:Nat) (i:Nat) (o:Nat):Zct (.eref t g i o)=(.eref t g i o):=rfl
theorem ZIt (cs:List AVal) (o:Nat):Zct (.iptr cs o)=(.iptr cs o):=rfl
theorem ZBn (x:Bool) (xs:List AVal):Zct (.lst x xs)=.lst false xs:=rfl
theorem ZBq (t:Nat) (g:Nat) (lo:Nat) (n:Nat):Zct (.sl t g lo n)=(.sl t g lo n):=rfl
theorem ZzD (cs:List AVal):Zct (.agg cs)=.agg (cs.map Zbr):=rfl
theorem ZIb (vs:List AVal):Zct (.tup vs)=.tup (vs.map ZK):=rfl
theorem ZAZ (f:Nat) (caps:List AVal):Zct (.fn f caps)=(.fn f caps):=rfl
theorem ZD1  : Zct (.nilm)=(.nilm):=rfl
theorem ZMf (t:Nat):Zct (.map t)=(.map t):=rfl
theorem ZNB  : Zct (.nili)=(.nili):=rfl
theorem ZxK (t:Nat) (x:AVal):Zct (.iface t x)=(.iface t x):=rfl
theorem ZFR (x:AVal):Zct (.pan x)=(.pan x):=rfl
theorem ZDq:Zd []=true:=rfl
theorem ZMe (x:AVal) (xs:List AVal):Zd (x::xs)=(ZI x && Zd xs):=rfl
theorem ZCZ (f:Nat):Zco (.fn f [])=true:=rfl
theorem ZCO (p q:Bool):(if p=true then q else false)=(p && q):=by cases p <;> rfl
theorem ZHY (p q:Bool):(if p=true then true else q)=(p || q):=by cases p <;> rfl
theorem ZAW (p q:Bool):(if p=true then false else q)=(!p && q):=by cases p <;> rfl
theorem ZDp (p q:Bool):(if p=true then q else true)=(!p || q):=by cases p <;> rfl
theorem ZAr (p q:Bool):(if p=false then q else false)=(!p && q):=by cases p <;> rfl
theorem ZNM (p q:Bool):(if p=false then true else q)=(!p || q):=by cases p <;> rfl
theorem ZJg (p q:Bool):(if p=false then false else q)=(p && q):=by cases p <;> rfl
theorem ZJc (p q:Bool):(if p=false then q else true)=(p || q):=by cases p <;> rfl
section
def ZeH (o:AOp):AOp:=⟨o.dst,o.ins,o.guard,[]⟩
def ZcR:Zf->Zf
 | .region ops chk live=>.region (ops.map ZeH) chk live
 | .seq a b=>.seq (ZcR a) (ZcR b)
 | .cond c a b=>.cond c (ZcR a) (ZcR b)
 | .block id c=>.block id (ZcR c)
 | .loop live c=>.loop live (ZcR c)
 | .skip=>.skip
 | .exit id=>.exit id
 | .ret=>.ret
 | .stuck=>.stuck
def Zlo (f:ZQ):ZQ:=⟨f.res,ZcR f.body⟩
section
variable {O:ZX} {bf:Nat->Bool}
theorem ZGf (o:AOp) (s:Nat) (tm:Tms) (σ:Za):ZT O bf (ZeH o) s tm σ=ZT O bf o s tm σ:=rfl
theorem ZuJ:∀ (ops:List AOp) (s:Nat) (tm:Tms) (σ:Za),Z7 O bf (ops.map ZeH) s tm σ=Z7 O bf ops s tm σ
 | [],_,_,_=>rfl
 | o::os,s,tm,σ=>by
  simp only [Xo,Z7,ZGf]
  split
  ·rfl
  ·rfl
  ·rename_i tm' σ' c _ _
   rw [show (ZeH o).ins=o.ins from rfl,ZuJ os]
theorem Zq0 (ops:List AOp):sitesOf (ops.map ZeH)=sitesOf ops:=by
 simp [sitesOf,ZeH,Function.comp_def]
theorem ZlH (ops:List AOp) (i:Nat):((ops.map ZeH).getD i default).ins=(ops.getD i default).ins:=by
 simp only [Xh,WX]
 cases ops[i]? <;> rfl
theorem ZOL (ops:List AOp) (b:Nat) (l:List (Nat×Nat)) (cs:List Cls):Zdu (ops.map ZeH) b l cs=Zdu ops b l cs:=by
 unfold Zdu
 congr 1
 funext p
 unfold ZcK Zcs
 rw [ZlH,ZlH,<-XaF,Zq0]
theorem ZI6 (ops:List AOp) (b:Nat) (l:List (Nat×Nat)) (cs:List Cls):ZdF (ops.map ZeH) b l cs=ZdF ops b l cs:=by
 unfold ZdF
 congr 2
 funext p
 unfold ZcK Zcs
 rw [ZlH,ZlH,<-XaF,Zq0]
theorem ZMa (ops:List AOp) (chk:Option (List (Nat×Nat))) (live:List Nat) (tm:Tms) (σ:Za):Zch O bf (ops.map ZeH) chk live tm σ=Zch O bf ops chk live tm σ:=by
 unfold Zch
 rw [ZuJ,Zq0]
 cases Z7 O bf ops σ.length tm (σ++XE (sitesOf ops) .free) with
 | none=>rfl
 | some q =>
  obtain ⟨tm',σ',cs,p⟩:=q
  cases p with
  | some x =>
   cases chk with
   | none=>rfl
   | some l=>simp only [Zc5,ZI6]
  | none =>
   cases chk with
   | none=>rfl
   | some l=>simp only [Zc5,ZOL]
theorem Zel (m n:Nat):∀ (c:Zf),Zad O bf m n (ZcR c)=Zad O bf m n c
 | .region ops chk live=>by funext tm σ;simp only [ZcR,Zad,ZMa]
 | .seq a b=>by funext tm σ;simp only [ZcR,Zad,Zel m n a,Zel m n b]
 | .cond c a b=>by funext tm σ;simp only [ZcR,Zad,Zel m n a,Zel m n b]
 | .block id c=>by funext tm σ;simp only [ZcR,Zad,Zel m n c]
 | .loop live c=>by funext tm σ;simp only [ZcR,Zad,Zel m n c]
 | .skip=>rfl
 | .exit id=>rfl
 | .ret=>rfl
 | .stuck=>rfl
end
theorem Zp7 (fs:Nat->Option ZQ) (prim:ZcM) (bf:Nat->Bool):∀ n,ZaE (fun f=>(fs f).map Zlo) prim bf n=ZaE fs prim bf n
 | 0=>rfl
 | n+1=>by
  funext f args σ
  simp only [ZaE,Zp7 fs prim bf n]
  cases prim f with
  | some g=>rfl
  | none =>
   cases fs f with
   | none=>rfl
   | some fn =>
    simp only [X8,Zlo,Zel]
    rfl
theorem ZPb (fs:Nat->Option ZQ) (prim:ZcM) (bf:Nat->Bool):EV (fun f=>(fs f).map Zlo) prim bf=EV fs prim bf:=by
 funext f args σ
 apply Zfk
 intro r
 rw [ZdK,ZdK]
 simp only [Zp7]
end
end
section
open Go.RowKit
def ZjY:List AVal->Za->Option (AVal×Za):=fun _ _=>none
theorem ZwD {α:Prop} {args:List AVal} {σ:Za} {r:AVal×Za} (h:ZjY args σ=some r):α:=by cases h
def Zjq (k bytes:Nat) (args:List AVal) (σ:Za):Option (AVal×Za):=match args with
 | [.str _]=>none
 | [a]=>match ZM σ a with
  | some (xs,_)=>if xs.length*bytes<=140737488355328/\kOk k xs=true then some (.sl σ.length 0 0 xs.length,σ++[.row 0 k xs]) else none
  | none=>none
 | _=>none
def ZeZ:Ann:={ nt:=8,lr:=fun _=>[7,6,5,4,3,2,0] }
structure Zvc (P:Program) (t:TypeId) (k bytes:Nat) (z:AVal) (f:FuncId):Prop where
 ex:∃ (F:Func) (e:TypeId) (i0 i1 i2 i3:Nat) (r0 r2 r3:Array Oper) (m b:Oper),
  P.funcs[f]?=some F/\F.results=#[.tmp 2]/\F.ntmps=8/\(F.name == "runtime.NumGoroutine")=false/\P.underlying t=some (.slice e) /\
  F.body=some (.seq (.region i0 r0 false) (.seq (.seq (.region i1 #[m,b] false) (.cond (.tmp 4) (.seq (.region i2 r2 false) .ret) .skip)) (.seq (.region i3 r3 false) .ret))) /\
  m.op=.move (.tmp 0)/\m.dst=some 3/\m.guard=none/\b.op=.binOp .eql t (.tmp 3) (.const (.slice none 0 0)) t/\b.dst=some 4/\b.guard=none /\
  Zdw P ZeZ r0 r0.toList=some [⟨some 2,.mov (.c (.lst true [])),none,[]⟩] /\
  Zdw P ZeZ r2 r2.toList=some [⟨some 2,.mov (.c (.lst true [])),none,[]⟩] /\
  (∃ a1 a2 a3 a4,Zdw P ZeZ r3 r3.toList=some [⟨some 5,.bslice false k 0 z [],none,a1⟩,⟨some 6,.mov (.t 0),none,a2⟩,⟨some 7,.app k bytes z (.t 5) (.t 6),none,a3⟩,⟨some 2,.mov (.t 7),none,a4⟩])/\z.cells.length=k/\0 < k
section
variable {P:Program} {base:Nat->Prop} {w0 w w':World} {I0 I:Imm} {β:Bmap} {σ:Za}
theorem noO:ZaK P (fun _ _ _=>none):=by intro f args σ r σ' h;cases h
theorem ZeW {ops:Array Oper} {Q:Exit->Act->World->Prop} {o:Oper} {l:List Oper} {a:Act} {w:World} (hg:o.guard=none) (h:o.wp P a w (wpList P ops Q l) Q):wpList P ops Q (o::l) a w:=by
 unfold wpList
 have : Region.wanted o (yielded ops a.tmps)=true:=by unfold Region.wanted;rw [hg]
 rw [this]
 simp only [if_true]
 exact Xr h
theorem ZzE {t : TypeId} {k bytes : Nat} {z : AVal} {f : FuncId} (hm : P.follows .mixedOrders = true) (C : Zvc P t k bytes z f) {args : List AVal} {σ σ' : Za} {r : AVal} (h : Zjq k bytes args σ = some (r, σ')) :
    (∃ fn, P.funcs[f]? = some fn /\ fn.body.isSome = true /\ (fn.name == "runtime.NumGoroutine") = false) /\
    ∀ base w0 I0 I β w (vs : Array Value), KLt base w0 -> Rel base w0 I0 I β σ w -> VRs I β args vs.toList ->
      Calls P f vs w (fun e w' => ∃ u, Ends r e u /\ Zcd σ.length base w0 I0 I β r σ' u w') := by
  obtain ⟨F, e, i0, i1, i2, i3, r0, r2, r3, m, b, hF, hres, hnt, hname, hu, hbody, hm1, hm2, hm3, hb1, hb2, hb3, hc0, hc2, ⟨a1, a2, a3, a4, hc3⟩, hzk, hk0⟩ := C.ex
  refine ⟨⟨F, hF, by rw [hbody]; rfl, hname⟩, ?_⟩
  intro base w0 I0 I β w vs hb R hargs
  unfold Zjq at h
  split at h
  case h_1 => cases h
  case h_3 => cases h
  rename_i a hns
  split at h
  case h_2 => cases h
  rename_i xs ts hel0
  split at h
  case isFalse => cases h
  rename_i hc
  obtain ⟨hbytes, hkOk⟩ := hc
  simp only [Xb, Xd] at h
  obtain ⟨rfl, rfl⟩ := h
  have hnt8 : ∀ (n : Nat), n < 8 -> n < ZeZ.nt := fun n h => h
  refine calls_of_wp hF hbody ?_
  have hsz : vs.size = 1 := by have := ZaU hargs; simpa using this.symm
  have T := ZnD hargs (F.ntmps - vs.size)
  have hst : StR ZbX 8 base w0 I0 I β (enterA 0 [a] []) σ { tmps := vs ++ W3 (F.ntmps - vs.size) undef, defers := [] } w := ⟨I, β, Imm.le.refl I, Bmap.le.refl β, T, ⟨Zfv.2 rfl, by simp; omega⟩, R⟩
  have fin : ∀ {tm : Tms} {σ1 : Za} {y : AVal} {a' : Act} {w1 : World}, StR ZbX 8 base w0 I0 I β tm σ1 a' w1 -> tget tm 2 = y -> (∀ I' β' u, I.le I' -> β.le β' -> Rel base w0 I0 I' β' σ1 w1 -> VR I' β' y u -> Zcd σ.length base w0 I0 I β (.sl σ.length 0 0 xs.length) (σ ++ [.row 0 k xs]) u w1) ->
      a'.defers = [] /\ ∃ v, (results F a'.tmps).run P w1 = .ok v w1 /\ ∃ u, Ends (.sl σ.length 0 0 xs.length) (.returned v) u /\ Zcd σ.length base w0 I0 I β (.sl σ.length 0 0 xs.length) (σ ++ [.row 0 k xs]) u w1 := by
    rintro tm σ1 y a' w1 ⟨I', β', h1, h2, h3, h4, h5⟩ hy hpost
    refine ⟨Zfv.1 h4.1, a'.tmps.getD 2 undef, by simp [results, hres], _, rfl, ?_⟩
    have := h3 2
    rw [hy] at this
    exact hpost I' β' _ h1 h2 h5 this
  have R0 : Za6 P ZeZ (.region i0 r0 false) = .region [⟨some 2, .mov (.c (.lst true [])), none, []⟩] none [7, 6, 5, 4, 3, 2, 0] := by simp only [Za6]; rw [hc0]; rfl
  have R2 : Za6 P ZeZ (.region i2 r2 false) = .region [⟨some 2, .mov (.c (.lst true [])), none, []⟩] none [7, 6, 5, 4, 3, 2, 0] := by simp only [Za6]; rw [hc2]; rfl
  have R3 : Za6 P ZeZ (.region i3 r3 false) = .region [⟨some 5, .bslice false k 0 z [], none, a1⟩, ⟨some 6, .mov (.t 0), none, a2⟩, ⟨some 7, .app k bytes z (.t 5) (.t 6), none, a3⟩, ⟨some 2, .mov (.t 7), none, a4⟩] none [7, 6, 5, 4, 3, 2, 0] := by simp only [Za6]; rw [hc3]; rfl
  refine wp_seq ?_
  refine Zkr (an := ZeZ) (dr := ZbX) (bf := fun _ => false) noO (fun n hn => by simp [ZbX] at hn) hm hb R0 hst (e := .normal) (tm' := keepL [7, 6, 5, 4, 3, 2, 0] [(2, .lst true []), (0, a)]) (σ' := σ) ?_ ?_
  . simp [Zch, Zc5, sitesOf, nsite, Z7, ZT, ZbD, execI, Opd.ev, tput, tins, enterA]
  intro a1' w1 hst1
  simp only [Exit.then]
  refine wp_seq (wp_seq ?_)
  refine wp_region_list ?_
  refine ZeW hm3 ?_
  obtain ⟨I1, β1, g1, g2, g3, g4, g5⟩ := hst1
  have hs8 : 8 <= a1'.tmps.size := g4.2
  have hT0 : VR I1 β1 a (a1'.tmps.getD 0 undef) := by have := g3 0; simpa [keepL, tget] using this
  obtain ⟨A, cap, hv0, q1, q2, q5, q4⟩ := ZrB g5 (fun l e => hns l e) hel0 hT0
  show m.wp P a1' w1 _ _
  unfold Oper.wp
  have e1 : (execOp a1'.eval m).run P w1 = .ok (.value (.slice A xs.length cap)) w1 := by
    unfold execOp; rw [hm1]; simp [Act.eval, hv0]
  rw [e1, Oper.upon_value, hm2]
  refine ZeW hb3 ?_
  unfold Oper.wp
  have hs3 : (a1'.put (some 3) (.slice A xs.length cap)).tmps.getD 3 undef = .slice A xs.length cap := by
    have : 3 < a1'.tmps.size := by omega
    simp [Act.put, WW, this]
  have e2 : (execOp (a1'.put (some 3) (.slice A xs.length cap)).eval b).run P w1 = .ok (.value (.bool A.isNone)) w1 := by
    have hq : (Op.equal t (.slice A xs.length cap) (.slice none 0 0)).run P w1 = .ok A.isNone w1 := run_equal_slice_nil w1 t e A xs.length cap hu
    unfold execOp; rw [hb1]
    simp only [Act.eval]
    rw [hs3]
    simp [eqGuard, binOp, hq]
  rw [e2, Oper.upon_value, hb2]
  refine wpList_nil ?_
  have hst2 : StR ZbX 8 base w0 I0 I β [(4, .bool A.isNone), (2, .lst true []), (0, a)] σ ((a1'.put (some 3) (.slice A xs.length cap)).put (some 4) (.bool A.isNone)) w1 := by
    refine ⟨I1, β1, g1, g2, fun n => ?_, ⟨Zlf (Zlf g4.1 (fun n _ hm => by simp [ZbX] at hm)) (fun n _ hm => by simp [ZbX] at hm), by rw [ZeI, ZeI]; exact g4.2⟩, g5⟩
    have hs : 4 < (a1'.put (some 3) (.slice A xs.length cap)).tmps.size := by rw [ZeI]; omega
    have ne : ∀ {a : Act} {d j : Nat} {u : Value}, d ≠ j -> (a.put (some d) u).tmps.getD j undef = a.tmps.getD j undef := by
      intro a d j u hne
      simp only [Act.put, Wz]; rw [Array.getElem?_setIfInBounds_ne hne]
    simp only [tget]
    split
    . rename_i e; subst e
      rw [show ((a1'.put (some 3) (.slice A xs.length cap)).put (some 4) (.bool A.isNone)).tmps.getD 4 undef = .bool A.isNone by
        simp only [Act.put] at hs ⊢
        simp [WW] at hs ⊢
        omega]
      simp only [VR]
    . split
      . rename_i e; subst e
        rw [ne (by omega), ne (by omega)]
        have := g3 2; simpa [keepL, tget] using this
      . split
        . rename_i e; subst e
          rw [ne (by omega), ne (by omega)]
          have := g3 0; simpa [keepL, tget] using this
        . simp only [VR]
  simp only [Exit.then]
  cases hA : A.isNone with
  | true =>
    have hx0 : xs = [] := by
      rcases q4 with h | ⟨b, off, k', us, e, _⟩
      . exact h
      . rw [e] at hA; cases hA
    subst hx0
    have hev : ((a1'.put (some 3) (.slice A 0 cap)).put (some 4) (.bool A.isNone)).eval (.tmp 4) = .bool true := by
      obtain ⟨_, _, _, _, T, _, _⟩ := hst2
      have := T 4
      simp only [tget, if_true, VR] at this
      rw [hA] at this
      simpa [Act.eval, hA] using this
    refine wp_cond_true (by simpa [hA] using hev) ?_
    refine wp_seq ?_
    rw [hA] at hst2
    refine Zkr (an := ZeZ) (dr := ZbX) (bf := fun _ => false) noO (fun n hn => by simp [ZbX] at hn) hm hb R2 hst2 (e := .normal) (tm' := keepL [7, 6, 5, 4, 3, 2, 0] [(4, .bool true), (2, .lst true []), (0, a)]) (σ' := σ) ?_ ?_
    . simp [Zch, Zc5, sitesOf, nsite, Z7, ZT, ZbD, execI, Opd.ev, tput, tins]
    intro a3' w3 hst3
    simp only [Exit.then]
    refine wp_ret ?_
    refine fin hst3 (y := .lst true []) (by simp [keepL, tget]) ?_
    intro I' β' u h1 h2 h3 h4
    simp only [VR] at h4
    obtain ⟨A', cap', rfl, _, _, hx, _⟩ := h4
    have hcap : cap' = 0 := by simpa using hx
    subst hcap
    have R4 := h3.reserve 1
    have hfree : (σ ++ XE 1 ZR.free)[σ.length]? = some .free := by simp
    obtain ⟨R5, hle⟩ := R4.newNone hfree k hk0
    refine ⟨I', _, h1, KeptE.of_le (h2.trans hle), ?_, ?_⟩
    . have : (σ ++ XE 1 ZR.free).set σ.length (.row 0 k []) = σ ++ [.row 0 k []] := by simp
      rw [this] at R5; exact R5
    . simp only [Za4]
      rw [Zcm]
      exact ⟨_, Bmap.put_same β' σ.length 0 _, by simp, by simp, Xv ⟨rfl, rfl, A', rfl⟩⟩
  | false =>
    have hev : ((a1'.put (some 3) (.slice A xs.length cap)).put (some 4) (.bool A.isNone)).eval (.tmp 4) = .bool false := by
      obtain ⟨_, _, _, _, T, _, _⟩ := hst2
      have := T 4
      simp only [tget, if_true, VR] at this
      rw [hA] at this
      simpa [Act.eval, hA] using this
    refine wp_cond_false (by simpa [hA] using hev) ?_
    refine wp_skip ?_
    rw [hA] at hst2
    simp only [Exit.then]
    refine wp_seq ?_
    have hel : ZM (σ ++ [ZR.free]) a = some (xs, ts) := Zhm hel0 (fun t ht => by
      obtain ⟨g, k, ys, h | h⟩ := ZlK hel0 t ht <;> (rw [Wh (Xj.1 h).1]))
    refine Zkr (an := ZeZ) (dr := ZbX) (bf := fun _ => false) noO (fun n hn => by simp [ZbX] at hn) hm hb R3 hst2 (e := .normal) (tm' := keepL [7, 6, 5, 4, 3, 2, 0] [(7, .sl σ.length 0 0 xs.length), (6, a), (5, .lst true []), (4, .bool false), (2, .sl σ.length 0 0 xs.length), (0, a)]) (σ' := σ ++ [.row 0 k xs]) ?_ ?_
    . have hfa : freeAt (σ ++ [ZR.free]) σ.length = true := by simp [freeAt]
      have hnp : (∃ x ys, a = .lst x ys) \/ ∃ t g lo n, a = .sl t g lo n := by
        cases a with
        | lst x ys => exact Xr ⟨x, ys, rfl⟩
        | sl t g lo n => exact Xv ⟨t, g, lo, n, rfl⟩
        | str l => exact absurd rfl (hns l)
        | _ => simp [ZM] at hel0
      rcases hnp with ⟨x, ys, rfl⟩ | ⟨t', g', lo, n, rfl⟩
      . simp [Zch, Zc5, sitesOf, nsite, Z7, ZT, ZbD, execI, Opd.ev, tput, tins, tget, viewAs, Zp, hzk, Z3, hel, hkOk, hbytes, hfa]
      . simp [Zch, Zc5, sitesOf, nsite, Z7, ZT, ZbD, execI, Opd.ev, tput, tins, tget, viewAs, Zp, hzk, Z3, hel, hkOk, hbytes, hfa]
    intro a3' w3 hst3
    simp only [Exit.then]
    refine wp_ret ?_
    refine fin hst3 (y := .sl σ.length 0 0 xs.length) (by simp [keepL, tget]) ?_
    intro I' β' u h1 h2 h3 h4
    exact ⟨I', β', h1, KeptE.of_le h2, h3, h4⟩
end
end
section
open Go.RowKit
def Znq (args:List AVal) (σ:Za):Option (AVal×Za):=match args with
 | [.str l]=>some (.bool (Lib.validD l),σ)
 | _=>none
section
variable {P:Program} {base:Nat->Prop} {w0 w w':World} {I0 I:Imm} {β:Bmap} {σ:Za}
theorem ZOw {f:Nat} (hf:∃ fn,P.funcs[f]?=some fn/\fn.body.isSome=true/\(fn.name == "runtime.NumGoroutine")=false) {args:List AVal} {r:AVal} {u:Value} (hn:∀ x,r≠.pan x) (hr:∀ I β,VR I β r u)
  (h:∀ base w0 I0 I β w (vs:Array Value),Rel base w0 I0 I β σ w->VRs I β args vs.toList->Calls P f vs w (fun e w'=>e=.returned u/\Below w.heap.size w w')) :
  (∃ fn,P.funcs[f]?=some fn/\fn.body.isSome=true/\(fn.name == "runtime.NumGoroutine")=false) /\
  ∀ base w0 I0 I β w (vs:Array Value),KLt base w0->Rel base w0 I0 I β σ w->VRs I β args vs.toList ->
   Calls P f vs w (fun e w'=>∃ u,Ends r e u/\Zcd σ.length base w0 I0 I β r σ u w'):=by
 refine ⟨hf,fun base w0 I0 I β w vs hb R hv=>(h base w0 I0 I β w vs R hv).mono ?_⟩
 rintro e w' ⟨rfl,hB⟩
 have hbw:=R.base_le hb
 refine ⟨u,?_,I,β,Imm.le.refl I,KeptE.refl _ β,R.stay (Imm.le.refl I) ⟨hB.os,hB.tape,hB.output,hB.size,fun k hk=>hB.block k (hbw k hk)⟩ (fun _ _ _=>rfl) ?_ ?_,by rw [Zgw hn];exact hr I β⟩
 ·cases r <;> first | rfl | exact absurd rfl (hn _)
 ·intro b o x hx
  have h1:=R.imm b o x hx
  have hlt:=Zeg h1
  rw [<-h1]
  simp only [World.cell?,hB.block b hlt]
 ·intro t x b hx hb'
  exact ⟨hB.block b ((R.blk t x hx).owns_lt hb'),(R.own t x b hx hb').2⟩
theorem ZHF (R:Rel base w0 I0 I β σ w):Lib.Utf8Tabs 1 2 w:=by
 refine ⟨fun c hc=>R.imm _ _ _ (R.glob _ _ _ (by simp [Gl,hc])),fun i hi=>⟨R.imm _ _ _ (R.glob _ _ _ ?_),R.imm _ _ _ (R.glob _ _ _ ?_)⟩⟩
 ·have h1:2*i < 32:=by omega
  have h2:2*i % 2=0:=by omega
  have h3:2*i / 2=i:=by omega
  simp [Gl,h1,h3]
 ·have h1:2*i+1 < 32:=by omega
  have h2:(2*i+1) % 2=1:=by omega
  have h3:(2*i+1) / 2=i:=by omega
  simp [Gl,h1,h2,h3]
theorem ZyC {f:Nat} (hf:∃ fn,P.funcs[f]?=some fn/\fn.body.isSome=true/\(fn.name == "runtime.NumGoroutine")=false)
  (hc:∀ (s:ByteArray) (w:World),s.size<=9223372036854775807->Lib.Utf8Tabs 1 2 w->Calls P f #[.string s] w fun e w'=>e=.returned (.bool (Lib.validD s.data.toList))/\Below w.heap.size w w') {args:List AVal} {σ σ':Za} {r:AVal} (h:Znq args σ=some (r,σ')) :
  (∃ fn,P.funcs[f]?=some fn/\fn.body.isSome=true/\(fn.name == "runtime.NumGoroutine")=false) /\
  ∀ base w0 I0 I β w (vs:Array Value),KLt base w0->Rel base w0 I0 I β σ w->VRs I β args vs.toList ->
   Calls P f vs w (fun e w'=>∃ u,Ends r e u/\Zcd σ.length base w0 I0 I β r σ' u w'):=by
 unfold Znq at h
 split at h
 case h_2=>cases h
 rename_i l
 simp only [Xb,Xd] at h
 obtain ⟨rfl,rfl⟩:=h
 refine ZOw hf (u:=.bool (Lib.validD l)) (by simp) (fun _ _=>by simp only [VR]) ?_
 intro base w0 I0 I β w vs R hv
 obtain ⟨vs⟩:=vs
 simp only [VRs,VR] at hv
 obtain ⟨v1,r1,e1,⟨rfl,hl⟩,rfl⟩:=hv
 subst e1
 refine (hc ⟨l.toArray⟩ w (by simpa [WA] using hl) (ZHF R)).mono ?_
 rintro e w' ⟨rfl,hB⟩
 exact ⟨by simp,hB⟩
end
end
section
def ZeE {α:Type} (d:α):List (Nat×α)->Nat->α
 | [],_=>d
 | (k,v)::r,n=>if k=n then v else ZeE d r n
def Z1 (own raw:List Nat) (cfg cfg2:List (Nat×Nat×Bool)) (lr ll:List (Nat×List Nat)):Ann:={ own:=fun n=>if own.contains n then 1 else if raw.contains n then 2 else 0,cfg:=ZeE (0,true) cfg,cfg2:=ZeE (0,true) cfg2,lr:=ZeE [] lr,ll:=ZeE [] ll }
def ZIT:List (Nat×Ann):=[
 (27,Z1 [] [] [] [] [(0,[0]),(1,[2])] []),
 (20,Z1 [] [] [(39,1,true)] [] [(0,[1]),(1,[2,1]),(2,[10,2,1]),(3,[11,10,2,1]),(4,[1]),(5,[15,10,2,1]),(6,[3,2,1]),(7,[3,2,1]),(8,[2,1]),(9,[2,1]),(10,[1]),(11,[37,10,2,1]),(12,[1]),(13,[41,10,2,1]),(14,[41,10,2,1]),(15,[41,10,2,1]),(16,[41,10,2,1]),(17,[1]),(18,[1]),(19,[50,10,2,1]),(20,[1]),(21,[56,10,2,1]),(22,[1]),(23,[61,10,2,1]),(24,[61,10,2,1]),(25,[1]),(26,[67,10,1]),(27,[67,1]),(28,[1]),(29,[])] []),
 (41,Z1 [] [] [] [] [(0,[])] []),
 (43,Z1 [] [] [] [] [(0,[])] []),
 (34,Z1 [] [] [] [] [(0,[0]),(1,[3,0]),(2,[3]),(3,[2])] []),
 (32,Z1 [] [] [] [] [(0,[2,0]),(1,[2,0]),(2,[2,0]),(3,[3,2,0]),(4,[3,2,0]),(5,[3,2,0]),(6,[3,2,0]),(7,[2,0]),(8,[2,0]),(9,[2,0]),(10,[2,0]),(11,[107,2,0]),(12,[2,0]),(13,[2,0]),(14,[2,0]),(15,[129,2,0]),(16,[2,0]),(17,[138,2,0]),(18,[])] []),
 (54,Z1 [] [] [] [] [(0,[0]),(1,[5,4,3,0]),(2,[4,3,0]),(3,[3]),(4,[2])] []),
 (19,Z1 [] [] [] [] [(0,[4,1]),(1,[4,1]),(2,[4,1]),(3,[24,4,1]),(4,[]),(5,[4]),(6,[4]),(7,[])] []),
 (37,Z1 [] [] [] [] [(0,[0]),(1,[])] []),
 (39,Z1 [] [] [] [] [(0,[1,0]),(1,[1,0]),(2,[1,0]),(3,[29,1,0]),(4,[1,0])] [(3,[1,0])]),
 (33,Z1 [] [] [] [] [(0,[1,0]),(1,[1,0]),(2,[5,1,0]),(3,[5]),(4,[4])] []),
 (35,Z1 [] [] [] [] [(0,[1,0]),(1,[7,6,5,0]),(2,[6,5,0]),(3,[5]),(4,[4])] []),
 (36,Z1 [] [] [] [] [(0,[0]),(1,[13,0]),(2,[0]),(3,[0]),(4,[])] []),
 (38,Z1 [] [] [] [] [(0,[7,0]),(1,[0]),(2,[19,0]),(3,[])] []),
 (40,Z1 [] [] [] [] [(0,[2,0]),(1,[3,2,0]),(2,[3,2,0]),(3,[3,2,0]),(4,[2,0]),(5,[2,0]),(6,[])] []),
 (42,Z1 [] [] [] [] [(0,[0]),(1,[5,4,3,0]),(2,[4,3,0]),(3,[3]),(4,[2])] []),
 (25,Z1 [] [] [(50,1,true),(46,1,true),(52,1,true),(47,1,true),(48,1,true),(51,1,true),(49,1,true)] [] [(0,[3,0]),(1,[11,3,0]),(2,[12,11,3,0]),(3,[]),(4,[17,11,3,0]),(5,[3,0]),(6,[3,0]),(7,[]),(8,[32,11,3,0]),(9,[3,0]),(10,[40,3,0]),(11,[3,0]),(12,[3,0]),(13,[]),(14,[55,11,3,0]),(15,[55,11,3,0]),(16,[55,11,3,0]),(17,[55,11,3,0]),(18,[3,0]),(19,[]),(20,[67,11,3,0]),(21,[3,0]),(22,[75,74,73,0]),(23,[76,75,74,73,0]),(24,[75,74,73,5,0]),(25,[75,74,73,5,0]),(26,[75,74,73,0]),(27,[75,74,73,0]),(28,[102,11,3,0]),(29,[3,0]),(30,[110,109,108,0]),(31,[111,110,109,108,0]),(32,[110,109,108,7,0]),(33,[110,109,108,0]),(34,[110,109,108,0]),(35,[118,11,3,0]),(36,[118,11,3,0]),(37,[3,0]),(38,[127,126,125,0]),(39,[128,127,126,125,0]),(40,[127,126,125,9,0]),(41,[127,126,125,0]),(42,[127,126,125,0]),(43,[135,11,3,0]),(44,[135,3,0]),(45,[])] [(23,[75,74,73,0]),(31,[110,109,108,0]),(39,[127,126,125,0])]),
 (46,Z1 [] [] [(60,1,true),(47,1,true),(48,1,true),(49,1,true)] [] [(0,[3,0]),(1,[3,0]),(2,[3,0]),(3,[3,0]),(4,[3,0]),(5,[3,0]),(6,[3,0]),(7,[49,3,0]),(8,[3,0]),(9,[3,0]),(10,[3,0]),(11,[66,3,0]),(12,[3,0]),(13,[72,3,0]),(14,[])] []),
 (60,Z1 [] [] [(50,1,true)] [] [(0,[4,0]),(1,[])] []),
 (52,Z1 [] [] [(47,1,true),(48,1,true)] [] [(0,[3,0]),(1,[3,0]),(2,[])] []),
 (47,Z1 [] [] [(50,1,true)] [] [(0,[])] []),
 (48,Z1 [] [] [(50,1,true)] [] [(0,[6,0]),(1,[])] []),
 (51,Z1 [] [] [(47,1,true),(48,1,true)] [] [(0,[3,0]),(1,[12,3,0]),(2,[3,0]),(3,[20,3,0]),(4,[])] []),
 (49,Z1 [] [] [(50,1,true)] [] [(0,[4,0]),(1,[])] []),
 (29,Z1 [] [] [] [] [(0,[0]),(1,[2])] []),
 (17,Z1 [] [] [(15,1,false)] [] [(0,[1,0]),(1,[11,1,0]),(2,[5,4]),(3,[0]),(4,[6,0]),(5,[9,8,7,6,0]),(6,[32,9,8,7,6,0]),(7,[9,6]),(8,[5,4]),(9,[43,8,7,6,0]),(10,[6]),(11,[5,4]),(12,[8,6,0]),(13,[6,0])] [(5,[6,0])]),
 (30,Z1 [] [] [] [] [(0,[2,0]),(1,[13,2,0]),(2,[4,3,2]),(3,[7,6,5,2,0]),(4,[7,6,3,2,0]),(5,[29,7,6,3,2,0]),(6,[4,3,2]),(7,[33,6,3,2,0]),(8,[4,3,2]),(9,[37,6,3,2,0]),(10,[4,3,2]),(11,[45,6,3,2,0]),(12,[4,3,2]),(13,[4,3,2])] []),
 (76,Z1 [] [] [] [] [(0,[]),(2,[]),(7,[4])] []),
 (85,Z1 [] [] [] [] [] []),
 (72,Z1 [] [] [] [] [(0,[0]),(1,[6,0]),(2,[3,2]),(3,[3,2])] []),
 (55,Z1 [] [] [] [] [(0,[0]),(1,[3,0]),(2,[8,7,6,3]),(3,[9,8,7,6,3]),(4,[8,7,6,5,3]),(5,[8,7,6,3]),(6,[8,7,6,3]),(7,[2])] [(3,[8,7,6,3])]),
 (66,Z1 [] [] [] [] [(0,[0]),(1,[17,0]),(2,[4,3,2]),(3,[3,0]),(4,[4,3,2])] []),
 (59,Z1 [] [] [] [] [(0,[0]),(1,[5,4,3]),(2,[12,5,4,3]),(3,[4,3,2]),(4,[16,5,3]),(5,[4,3,2]),(6,[4,3,2])] []),
 (53,Z1 [] [] [] [] [(0,[2,0]),(1,[9,8,7,2,0]),(2,[10,9,8,7,2,0]),(3,[9,8,7,6,5,2,0]),(4,[15,9,8,7,6,5,2,0]),(5,[9,8,7,6,5,2,0]),(6,[25,9,8,7,6,5,2,0]),(7,[31,5,2]),(8,[4,3,2]),(9,[4,3,2]),(10,[9,8,7,2,0]),(11,[38]),(12,[4,3,2]),(13,[4,3,2])] [(2,[9,8,7,2,0])]),
 (71,Z1 [] [] [] [] [(0,[0]),(1,[6,0]),(2,[8,7,6,0]),(3,[6,4,0]),(4,[11,6,0]),(5,[2]),(6,[2])] [(2,[6,0])]),
 (15,Z1 [] [] [] [] [(0,[0]),(1,[3,0]),(2,[8,7,6,3]),(3,[9,8,7,6,3]),(4,[8,7,6,5,3]),(5,[8,7,6,3]),(6,[8,7,6,3]),(7,[2])] [(3,[8,7,6,3])]),
 (61,Z1 [] [] [] [] [(0,[1,0]),(1,[12,1,0]),(2,[4]),(3,[5,1,0]),(4,[6,5,0]),(5,[18,6,5,0]),(6,[6,5,0]),(7,[6,5,0]),(8,[6,5,0]),(9,[4])] [(5,[6,5,0])]),
 (63,Z1 [] [] [] [] [(0,[0]),(1,[6,0]),(2,[3,2]),(3,[3,2])] []),
 (14,Z1 [] [] [] [] [(0,[0]),(1,[10,0]),(2,[3,2]),(3,[4,0]),(4,[12,4,0]),(5,[4,0]),(6,[4,0]),(7,[3,2])] [(4,[4,0])]),
 (56,Z1 [] [] [] [] [(0,[3,0]),(1,[4])] []),
 (69,Z1 [] [] [] [] [(0,[2,1]),(1,[3])] []),
 (13,Z1 [] [] [(25,1,true)] [] [(0,[2,1]),(1,[4,2,1]),(2,[4,2,1]),(3,[5,2,1]),(4,[32,5,2,1]),(5,[5,2,1]),(6,[7,6,5,2,1]),(7,[9,7,6,5,2,1]),(8,[73,5,2]),(9,[3,2]),(10,[3,2])] []),
 (5,Z1 [] [] [] [] [(0,[1]),(1,[5,4]),(2,[14,5,4]),(3,[3,2]),(4,[6,4]),(5,[3,2])] []),
 (9,Z1 [] [] [] [] [(0,[]),(2,[4,3,2,1]),(3,[4,3,2]),(4,[4,3,2]),(5,[3,2])] []),
 (18,Z1 [] [] [] [] [(1,[4]),(2,[]),(3,[7,5]),(4,[]),(6,[3,1,0]),(7,[])] []),
 (10,Z1 [] [] [] [] [(0,[3,2]),(1,[5,3,2]),(2,[6,5,3,2]),(3,[7,6,5,3,2]),(4,[8,7,6,5,3,2]),(5,[4])] []),
 (68,Z1 [] [] [] [] [(0,[0]),(1,[3]),(2,[4,3]),(3,[2]),(4,[15,3]),(5,[15,3]),(6,[2]),(7,[27,3]),(8,[27,3]),(9,[2]),(10,[33,3]),(11,[2]),(12,[45,3]),(13,[2]),(14,[55,3]),(15,[2]),(16,[66]),(17,[2]),(18,[2])] []),
 (26,Z1 [] [] [] [] [(0,[0]),(1,[3]),(2,[4,3]),(3,[4,3]),(4,[4]),(5,[2]),(6,[2])] []),
 (28,Z1 [] [] [] [] [(0,[1,0]),(1,[5,1]),(2,[4]),(3,[4])] []),
 (31,Z1 [] [] [] [] [(0,[5,1]),(1,[])] []),
 (80,Z1 [] [] [] [] [(0,[4,1,0]),(1,[10,9,8,4,0]),(2,[11,10,9,8,4,0]),(3,[10,9,8,7,4,0]),(4,[17,10,9,8,7,4,0]),(5,[5,4]),(6,[10,9,8,4,0]),(7,[5,4])] [(2,[10,9,8,4,0])]),
 (84,Z1 [] [] [] [] [(0,[0]),(1,[2])] []),
 (62,Z1 [] [] [] [] [(0,[1,0]),(1,[6,1,0]),(2,[16,15,14,6,1,0]),(3,[17,16,15,14,6,1,0]),(4,[16,15,14,8,6,1,0]),(5,[16,15,14,6,1,0]),(6,[16,15,14,6,1,0]),(7,[10,9,6,1,0]),(8,[32,9,6,1,0]),(9,[5,4]),(10,[6,1,0]),(11,[13,12,11,6,1]),(12,[57,6]),(13,[5,4]),(14,[5,4])] [(3,[16,15,14,6,1,0])]),
 (78,Z1 [] [] [] [] [(0,[1,0]),(1,[4])] []),
 (57,Z1 [] [] [] [] [(0,[4,1,0]),(1,[9,8,7,4,1,0]),(2,[29,8,7,4,1,0]),(3,[6,5,4]),(4,[10,8,7,4,0]),(5,[38,10,8,7,4,0]),(6,[13,12,11,10,8,7,4,0]),(7,[48,13,12,11,10,8,7,4,0]),(8,[6,5,4]),(9,[12,10,8,7,4,0]),(10,[10,8,7,4,0]),(11,[6,5,4])] [(5,[10,8,7,4,0])]),
 (24,Z1 [] [] [] [] [(0,[1,0]),(1,[4])] []),
 (45,Z1 [] [] [] [] [(0,[3,2]),(1,[4])] []),
 (89,Z1 [] [] [] [] [(0,[0]),(1,[3,0]),(2,[8,7,6,3]),(3,[9,8,7,6,3]),(4,[8,7,6,5,3]),(5,[8,7,6,3]),(6,[8,7,6,3]),(7,[2])] [(3,[8,7,6,3])]),
 (87,Z1 [] [] [] [] [(0,[2,1]),(1,[2,1]),(2,[2])] []),
 (82,Z1 [] [] [] [] [(0,[1]),(1,[4,1]),(2,[5,4,1]),(3,[5,4,1]),(4,[5,4,1]),(5,[5,1]),(6,[2]),(7,[2])] []),
 (73,Z1 [] [] [] [] [(0,[1]),(1,[3,1]),(2,[6,5,3,1]),(3,[15,6,5,3,1]),(4,[16,15,6,5,3,1]),(5,[16,15,6,5,3,1]),(6,[16,15,6,5,3,1]),(7,[6,5,3]),(8,[29,15,6,5,3,1]),(9,[6,5,3]),(10,[37,15,6,5,3,1]),(11,[6,5,3]),(12,[45,15,6,5,3,1]),(13,[6,5,3]),(14,[53,6,5,3,1]),(15,[5,3,1]),(16,[6,5,3]),(17,[2])] []),
 (86,Z1 [] [] [] [] [(0,[2,0]),(1,[3,2]),(2,[4,3,2]),(3,[2]),(4,[9,3,2]),(5,[2]),(6,[14,3,2]),(7,[14,3,2]),(8,[2]),(9,[20,3,2]),(10,[2]),(11,[25,3,2]),(12,[2]),(13,[30,3,2]),(14,[2]),(15,[35,3,2]),(16,[35,3,2]),(17,[2]),(18,[41,3,2]),(19,[2]),(20,[46,3,2]),(21,[2]),(22,[51,3,2]),(23,[2]),(24,[56,3,2]),(25,[56,3,2]),(26,[2]),(27,[62,3,2]),(28,[2]),(29,[67,3,2]),(30,[2]),(31,[72,3,2]),(32,[2]),(33,[77,3,2]),(34,[77,3,2]),(35,[2]),(36,[83,3,2]),(37,[2]),(38,[88,3,2]),(39,[2]),(40,[93,3,2]),(41,[93,3,2]),(42,[93,3,2]),(43,[93,3,2]),(44,[93,3,2]),(45,[2]),(46,[102,2]),(47,[2]),(48,[2])] []),
 (81,Z1 [] [] [] [] [(0,[1,0]),(1,[4])] []),
 (70,Z1 [] [] [] [] [(0,[6,2,1,0]),(1,[11,10,9,6,2,1,0]),(2,[28,10,9,6,2,1,0]),(3,[8,7,6]),(4,[12,10,9,7,6,2,0]),(5,[14,12,10,9,7,6,0]),(6,[45,14,10,9,7,6,0]),(7,[8,7,6]),(8,[49,10,9,7,6]),(9,[8,7,6]),(10,[58,10,9,7,6]),(11,[8,7,6]),(12,[65,6]),(13,[8,7,6]),(14,[8,7,6])] []),
 (79,Z1 [] [] [] [] [(0,[5,4,1,0]),(1,[5,4,1,0]),(2,[7,5,4,1,0]),(3,[12,7,5,4,1,0]),(4,[13,12,7,5,4,1,0]),(5,[13,12,7,5,4,1,0]),(6,[13,12,7,5,4,1,0]),(7,[7,5,4,1]),(8,[24,7,5,4,1]),(9,[6,5,4]),(10,[7,5,4]),(11,[32,12,7,5,4,1]),(12,[7,5,4]),(13,[41,12,7,5,4,1]),(14,[7,5,4]),(15,[50,12,7,5,4,1]),(16,[7,5,4]),(17,[59,7,5,4,1]),(18,[7,5,4,1]),(19,[69,7,5,4,1]),(20,[5,4,1]),(21,[8,7,5,4]),(22,[7,5,4]),(23,[6,5,4])] []),
 (67,Z1 [] [] [] [] [(0,[1,0]),(1,[4])] []),
 (44,Z1 [] [] [] [] [(0,[2,1,0]),(1,[14,2,1,0]),(2,[6]),(3,[17,16,15,2,1]),(4,[18,17,16,15,2,1]),(5,[17,16,15,8,7,2,1]),(6,[17,16,15,9,8,2,1]),(7,[30,17,16,15,2,1]),(8,[6]),(9,[17,16,15,2,1]),(10,[6])] [(4,[17,16,15,2,1])]),
 (21,Z1 [] [] [] [] [(0,[1,0]),(1,[10,1,0]),(2,[4]),(3,[13,12,1,0]),(4,[14,13,12,1,0]),(5,[13,12,5,1,0]),(6,[24,13,12,1,0]),(7,[4]),(8,[13,12,1,0]),(9,[4])] [(4,[13,12,1,0])]),
 (22,Z1 [] [] [] [] [(0,[1,0]),(1,[10,1,0]),(2,[4]),(3,[13,12,1,0]),(4,[14,13,12,1,0]),(5,[13,12,5,1,0]),(6,[24,13,12,1,0]),(7,[4]),(8,[13,12,1,0]),(9,[4])] [(4,[13,12,1,0])]),
 (23,Z1 [] [] [] [] [(0,[1,0]),(1,[10,1,0]),(2,[4]),(3,[13,12,1,0]),(4,[14,13,12,1,0]),(5,[13,12,5,1,0]),(6,[24,13,12,1,0]),(7,[4]),(8,[13,12,1,0]),(9,[4])] [(4,[13,12,1,0])]),
 (77,Z1 [] [] [] [] [(0,[1,0]),(1,[8,7,1,0]),(2,[9,8,7,1,0]),(3,[8,7,5,1,0]),(4,[16,8,7,5,1,0]),(5,[4]),(6,[8,7,1,0]),(7,[4])] [(2,[8,7,1,0])]),
 (8,Z1 [] [] [(17,1,true),(16,1,false)] [] [(0,[1,0]),(1,[6,1]),(2,[7,6,1]),(3,[8,7,6,1]),(4,[17,16,15,8,7,6]),(5,[18,17,16,15,8,7,6]),(6,[17,16,15,10,7,6]),(7,[17,16,15,12,11,7,6]),(8,[17,16,15,12,7,6]),(9,[17,16,15,8,7,6]),(10,[17,16,15,8,7,6]),(11,[5,4])] [(5,[17,16,15,8,7,6])]),
 (16,Z1 [] [] [] [] [(0,[0]),(1,[2])] []),
 (12,Z1 [] [] [] [] [(0,[1,0]),(1,[8,1,0]),(2,[4]),(3,[4])] []),
 (7,Z1 [] [] [] [] [(0,[2,1,0]),(1,[7,1,0]),(2,[7,1,0]),(3,[16,7,1,0]),(4,[1,0]),(5,[6])] []),
 (4,Z1 [] [] [] [] [(0,[2,1]),(1,[6,2,1]),(2,[2,1]),(3,[14,2,1]),(4,[2,1]),(5,[22,2,1]),(6,[2,1]),(7,[30,2,1]),(8,[2,1]),(9,[39,2,1]),(10,[2,1]),(11,[2,1]),(12,[2])] []),
 (3,Z1 [] [] [] [] [(0,[2,1,0]),(1,[2,1,0]),(2,[7,2,1,0]),(3,[8,7,2,1,0]),(4,[9,8,7,2,1,0]),(5,[10,9,8,7,2,1,0]),(6,[32,10,9,8,7,2,1,0]),(7,[10,9,8,7,2,1,0]),(8,[11,10,9,8,7,2,1,0]),(9,[13,12,11,10,9,8,7,2,1,0]),(10,[47,12,11,10,9,8,7,2,1,0]),(11,[51,12,11,10,9,8,7,2,1,0]),(12,[12,11,10,9,8,7,2,1,0]),(13,[52,12,11,10,9,8,7,2,1,0]),(14,[12,10,9,8,7,2,1,0]),(15,[10,9,8,7,2,1,0]),(16,[14,9,8,7,2,1]),(17,[15,14,9,8,7,2,1]),(18,[67,15,14,9,8,7,2,1]),(19,[15,14,9,8,7,2,1]),(20,[16,15,14,9,8,7,2,1]),(21,[16,15,14,9,8,7,2,1]),(22,[15,14,9,8,7,2,1]),(23,[18,17,9,8]),(24,[106,17,8]),(25,[6]),(26,[19,17,8]),(27,[110,19,17,8]),(28,[19,17,8]),(29,[21,20,19,17,8]),(30,[132,19,17,8]),(31,[6]),(32,[6])] [(6,[10,9,8,7,2,1,0]),(18,[15,14,9,8,7,2,1]),(27,[19,17,8])]),
 (6,Z1 [] [] [] [] [(0,[0]),(1,[2])] []),
 (11,Z1 [] [] [] [] [(0,[]),(1,[2,1]),(2,[4,2,1]),(3,[0])] []),
 (1000000,{})]
def ann:Nat->Ann:=ZeE {} ZIT
def ZK9:List (Nat×Bool):=[
 (1000000,false)]
def BY:Nat->Bool:=ZeE false ZK9
noncomputable def CF:Nat->Option ZQ:=ZjV Tryd.prog ann
noncomputable def FC:Nat->Option ZQ:=fun f=>(CF f).map Zlo
def ZvG:List (Nat×Option (List AVal->Za->Option (AVal×Za))):=[
 (58,some (Zjq 1 1)),
 (83,some (Znq)),
 (9,some (ZjY)),
 (50,some (ZjY)),
 (1000000,none)]
def PR:ZcM:=ZeE none ZvG
theorem xw (c d:Zf) (h:c=d) (m:Nat) (tm:Tms) (σ:Za):evC FC PR BY m c tm σ=evC FC PR BY m d tm σ:=by rw [h]
noncomputable abbrev E:ZX:=EV FC PR BY
theorem Zj {f:Nat} {fn:ZQ} (hp:PR f=none) (hf:FC f=some fn) (args:List AVal) (σ:Za):E f args σ=Zav σ.length fn (evC FC PR BY σ.length fn.body (enterA 0 args []) σ):=ZrX hp hf args σ
end
section
def ZlV:Zf:=(.seq (.region [oI 2 (.mov (.c (.lst true []))),oI 3 (.mov (.c (.int .i64 0)))] none [0]) (.seq (.seq (.region [oM 4 0,oI 5 (.len (.t 4)),oI 6 (.bin .gtr (.t 5) (.c (.int .i64 65535)))] none [6,0]) (.cond (.t 6) (.seq (.region [oI 2 (.mov (.c (.lst true []))),oI 3 (.mov (.c (.int .i64 10)))] none [3,2]) .ret) .skip)) (.seq (.region [oM 7 0,oI 8 (.len (.t 7)),oI 9 (.i2i .u64 (.t 8)),oI 10 (.call 61 0 true [(.t 9),(.c (.int .i64 2))]),oM 11 0,oI 12 (.bslice false 1 2 (.lst true []) [(0,(.t 10)),(1,(.t 11))]),oI 13 (.call 15 0 true [(.t 12)]),oM 2 13,oI 3 (.mov (.c (.int .i64 0)))] none [3,2]) .ret)))
def Zo8:ZQ:=⟨[(.tmp 2),(.tmp 3)],ZlV⟩
theorem Zsb:FC 72=some Zo8:=by kernel_rfl
theorem Zv2:Zo8.body=ZlV:=rfl
theorem Zs5:Zo8.res=[(.tmp 2),(.tmp 3)]:=rfl
def Zoj:Zf:=(.seq (.region [oM 18 3,oM 2 18] none [2]) .ret)
def Zp1:Zf:=Zoj
def ZJl:=xw Zp1 Zoj rfl
def ZkX:Zf:=(.seq (.region [oI 9 (.bin .lss (.t 8) (.t 7))] none [9,8,7,6,3]) (.seq (.cond (.t 9) .skip (.exit 0)) (.seq (.block 1 (.seq (.region [oI 10 (.iaddr 1 (.t 6) (.t 8)),oL 11 10,oM 5 11] none [8,7,6,5,3]) (.region [oM 12 3,oI 13 (.bin .shl (.t 12) (.c (.int .u64 8))),oM 14 5,oI 15 (.i2i .u64 (.t 14)),oI 16 (.bin .or (.t 13) (.t 15)),oM 3 16] none [8,7,6,3]))) (.region [oI 17 (.bin .add (.t 8) (.c (.int .i64 1))),oM 8 17] none [8,7,6,3]))))
def ZpE:Zf:=ZkX
def Zwj:=xw ZpE ZkX rfl
def ZnL:Zf:=(.seq (.region [oI 2 (.mov (.c (.int .u64 0)))] none [0]) (.seq (.region [oI 3 (.mov (.c (.int .u64 0)))] none [3,0]) (.seq (.seq (.region [oM 6 0,oI 7 (.len (.t 6)),oI 8 (.mov (.c (.int .i64 0)))] none [8,7,6,3]) (.block 0 (.loop [8,7,6,3] ZpE))) Zp1)))
def Zl5:ZQ:=⟨[(.tmp 2)],ZnL⟩
theorem ZLu:FC 55=some Zl5:=by kernel_rfl
theorem ZDK:Zl5.body=ZnL:=rfl
theorem Zx9:Zl5.res=[(.tmp 2)]:=rfl
noncomputable def ZkO (m:Nat) (tm:Tms) (σ:Za):Option (AVal×Za):=(Zav m Zl5 (ZbT FC PR BY m Zp1 (Wd (Za7 0) (evL FC PR BY m [8,7,6,3] ZpE tm σ))))
def ZjB:Zf:=(.seq (.region [oI 2 (.mov (.c (.lst true []))),oI 3 (.mov (.c (.int .i64 0))),oI 4 (.mov (.c (.int .i64 0)))] none [0]) (.seq (.seq (.region [oM 5 0,oI 6 (.len (.t 5)),oI 7 (.bin .lss (.t 6) (.c (.int .i64 2))),oM 8 7,⟨(some 9),(.mov (.t 0)),(some (8,false)),[]⟩,⟨(some 10),(.len (.t 9)),(some (8,false)),[]⟩,⟨(some 11),(.bin .sub (.t 10) (.c (.int .i64 2))),(some (8,false)),[]⟩,⟨(some 12),(.mov (.t 0)),(some (8,false)),[]⟩,⟨(some 13),(.slice 1 (.t 12) none (some (.c (.int .i64 2))) none),(some (8,false)),[]⟩,⟨(some 14),(.call 55 0 true [(.t 13)]),(some (8,false)),[]⟩,⟨(some 15),(.i2i .i64 (.t 14)),(some (8,false)),[]⟩,⟨(some 16),(.bin .lss (.t 11) (.t 15)),(some (8,false)),[]⟩,oI 17 (.pick (.t 8) (.c (.bool true)) (.t 16))] none [17,0]) (.cond (.t 17) (.seq (.region [oI 2 (.mov (.c (.lst true []))),oI 3 (.mov (.c (.int .i64 0))),oI 4 (.mov (.c (.int .i64 11)))] none [4,3,2]) .ret) .skip)) (.seq (.region [oM 18 0,oI 19 (.slice 1 (.t 18) none (some (.c (.int .i64 2))) none),oI 20 (.call 55 0 true [(.t 19)]),oI 21 (.i2i .i64 (.t 20)),oI 22 (.bin .add (.c (.int .i64 2)) (.t 21)),oM 3 22] none [3,0]) (.seq (.region [oM 23 0,oM 24 3,oI 25 (.slice 1 (.t 23) (some (.c (.int .i64 2))) (some (.t 24)) none),oI 26 (.bslice false 1 1 (.lst true []) [(0,(.t 25))]),oI 27 (.call 15 0 true [(.t 26)]),oM 28 3,oM 2 27,oM 3 28,oI 4 (.mov (.c (.int .i64 0)))] none [4,3,2]) .ret))))
def ZpA:ZQ:=⟨[(.tmp 2),(.tmp 3),(.tmp 4)],ZjB⟩
theorem Zny:FC 66=some ZpA:=by kernel_rfl
theorem ZnT:ZpA.body=ZjB:=rfl
theorem Zps:ZpA.res=[(.tmp 2),(.tmp 3),(.tmp 4)]:=rfl
def ZjL:Zf:=(.seq (.region [oI 2 (.mov (.c (.str []))),oI 3 (.mov (.c (.int .i64 0))),oI 4 (.mov (.c (.int .i64 0)))] none [0]) (.seq (.region [oM 7 0,oI 8 (.call 66 0 true [(.t 7)]),oM 6 8,oI 9 (.ext (.t 6) 0),oI 10 (.ext (.t 6) 1),oI 11 (.ext (.t 6) 2),oM 5 9,oM 3 10,oM 4 11] none [5,4,3]) (.seq (.block 0 (.seq (.region [oM 13 4,oI 14 (.bin .neq (.t 13) (.c (.int .i64 0))),oM 12 14] none [12,5,4,3]) (.cond (.t 12) (.seq (.region [oM 15 4,oI 2 (.mov (.c (.str []))),oI 3 (.mov (.c (.int .i64 0))),oM 4 15] none [4,3,2]) .ret) (.seq (.region [oM 17 5,oI 18 (.b2s (.t 17)),oI 19 (.call 71 0 true [(.t 18)]),oI 20 (.un .not (.t 19)),oM 16 20] none [16,5,3]) (.cond (.t 16) (.seq (.region [oI 2 (.mov (.c (.str []))),oI 3 (.mov (.c (.int .i64 0))),oI 4 (.mov (.c (.int .i64 13)))] none [4,3,2]) .ret) .skip))))) (.seq (.region [oM 21 5,oI 22 (.b2s (.t 21)),oM 23 3,oM 2 22,oM 3 23,oI 4 (.mov (.c (.int .i64 0)))] none [4,3,2]) .ret))))
def ZrJ:ZQ:=⟨[(.tmp 2),(.tmp 3),(.tmp 4)],ZjL⟩
theorem Zth:FC 59=some ZrJ:=by kernel_rfl
theorem Zro:ZrJ.body=ZjL:=rfl
theorem Zo7:ZrJ.res=[(.tmp 2),(.tmp 3),(.tmp 4)]:=rfl
def Zi1:Zf:=(.seq (.seq (.region [oM 36 0,oI 37 (.len (.t 36)),oI 38 (.bin .lss (.t 37) (.c (.int .i64 4)))] none [38]) (.cond (.t 38) (.seq (.region [oI 2 (.mov (.c (.int .i64 0))),oI 3 (.mov (.c (.int .i64 0))),oI 4 (.mov (.c (.int .i64 11)))] none [4,3,2]) .ret) .skip)) (.seq (.region [oI 2 (.mov (.c (.int .i64 0))),oI 3 (.mov (.c (.int .i64 0))),oI 4 (.mov (.c (.int .i64 12)))] none [4,3,2]) .ret))
def Zrd:Zf:=Zi1
def Znv:=xw Zrd Zi1 rfl
def ZfF:Zf:=(.seq (.region [oI 10 (.bin .lss (.t 9) (.t 8))] none [10,9,8,7,2,0]) (.seq (.cond (.t 10) .skip (.exit 0)) (.seq (.block 1 (.seq (.region [oM 11 9,oI 12 (.iaddr 1 (.t 7) (.t 9)),oL 13 12,oM 5 11,oM 6 13] none [9,8,7,6,5,2,0]) (.seq (.seq (.region [oM 14 5,oI 15 (.bin .eql (.t 14) (.c (.int .i64 4)))] none [15,9,8,7,6,5,2,0]) (.cond (.t 15) (.exit 0) .skip)) (.seq (.region [oM 16 2,oM 17 6,oI 18 (.bin .and (.t 17) (.c (.int .u8 127))),oI 19 (.i2i .i64 (.t 18)),oM 20 5,oI 21 (.bin .mul (.c (.int .i64 7)) (.t 20)),oI 22 (.bin .shl (.t 19) (.t 21)),oI 23 (.bin .or (.t 16) (.t 22)),oM 2 23] none [9,8,7,6,5,2,0]) (.seq (.region [oM 24 6,oI 25 (.bin .lss (.t 24) (.c (.int .u8 128)))] none [25,9,8,7,6,5,2,0]) (.cond (.t 25) (.seq (.seq (.region [oM 26 6,oI 27 (.bin .eql (.t 26) (.c (.int .u8 0))),oM 28 27,⟨(some 29),(.mov (.t 5)),(some (28,true)),[]⟩,⟨(some 30),(.bin .gtr (.t 29) (.c (.int .i64 0))),(some (28,true)),[]⟩,oI 31 (.pick (.t 28) (.t 30) (.c (.bool false)))] none [31,5,2]) (.cond (.t 31) (.seq (.region [oI 2 (.mov (.c (.int .i64 0))),oI 3 (.mov (.c (.int .i64 0))),oI 4 (.mov (.c (.int .i64 12)))] none [4,3,2]) .ret) .skip)) (.seq (.region [oM 32 2,oM 33 5,oI 34 (.bin .add (.t 33) (.c (.int .i64 1))),oM 2 32,oM 3 34,oI 4 (.mov (.c (.int .i64 0)))] none [4,3,2]) .ret)) .skip)))))) (.region [oI 35 (.bin .add (.t 9) (.c (.int .i64 1))),oM 9 35] none [9,8,7,2,0]))))
def Zqr:Zf:=ZfF
def ZgQ:=xw Zqr ZfF rfl
def ZoB:Zf:=(.seq (.region [oI 2 (.mov (.c (.int .i64 0))),oI 3 (.mov (.c (.int .i64 0))),oI 4 (.mov (.c (.int .i64 0)))] none [2,0]) (.seq (.seq (.region [oM 7 0,oI 8 (.len (.t 7)),oI 9 (.mov (.c (.int .i64 0)))] none [9,8,7,2,0]) (.block 0 (.loop [9,8,7,2,0] Zqr))) Zrd))
def ZkJ:ZQ:=⟨[(.tmp 2),(.tmp 3),(.tmp 4)],ZoB⟩
theorem ZyB:FC 53=some ZkJ:=by kernel_rfl
theorem ZGY:ZkJ.body=ZoB:=rfl
theorem ZhP:ZkJ.res=[(.tmp 2),(.tmp 3),(.tmp 4)]:=rfl
noncomputable def ZhZ (m:Nat) (tm:Tms) (σ:Za):Option (AVal×Za):=(Zav m ZkJ (ZbT FC PR BY m Zrd (Wd (Za7 0) (evL FC PR BY m [9,8,7,2,0] Zqr tm σ))))
def ZqD:Zf:=(.seq (.region [oM 12 0,oI 13 (.call 83 0 true [(.t 12)]),oM 2 13] none [2]) .ret)
def Zqb:Zf:=ZqD
def ZPp:=xw Zqb ZqD rfl
def ZiZ:Zf:=(.seq (.region [oI 7 (.nxt (.t 6)),oI 8 (.ext (.t 7) 0)] none [8,7,6,0]) (.seq (.cond (.t 8) .skip (.exit 0)) (.block 1 (.seq (.region [oI 9 (.ext (.t 7) 2),oM 4 9] none [6,4,0]) (.seq (.region [oM 10 4,oI 11 (.bin .eql (.t 10) (.c (.int .i32 0)))] none [11,6,0]) (.cond (.t 11) (.seq (.region [oI 2 (.mov (.c (.bool false)))] none [2]) .ret) .skip))))))
def ZoC:Zf:=ZiZ
def Zoy:=xw ZoC ZiZ rfl
def Zoi:Zf:=(.seq (.region [oI 2 (.mov (.c (.bool false)))] none [0]) (.seq (.seq (.region [oM 5 0,oI 6 (.rng (.t 5))] none [6,0]) (.block 0 (.loop [6,0] ZoC))) Zqb))
def ZlM:ZQ:=⟨[(.tmp 2)],Zoi⟩
theorem ZJe:FC 71=some ZlM:=by kernel_rfl
theorem ZKi:ZlM.body=Zoi:=rfl
theorem Zsy:ZlM.res=[(.tmp 2)]:=rfl
noncomputable def ZmT (m:Nat) (tm:Tms) (σ:Za):Option (AVal×Za):=(Zav m ZlM (ZbT FC PR BY m Zqb (Wd (Za7 0) (evL FC PR BY m [6,0] ZoC tm σ))))
def Zpm:Zf:=(.seq (.region [oM 16 3,oM 2 16] none [2]) .ret)
def Zqv:Zf:=Zpm
def ZMr:=xw Zqv Zpm rfl
def Zjs:Zf:=(.seq (.region [oI 9 (.bin .lss (.t 8) (.t 7))] none [9,8,7,6,3]) (.seq (.cond (.t 9) .skip (.exit 0)) (.seq (.block 1 (.seq (.region [oI 10 (.iaddr 1 (.t 6) (.t 8)),oL 11 10,oM 5 11] none [8,7,6,5,3]) (.region [oM 12 3,oM 13 5,oI 14 (.app 1 1 (.int .u8 0) (.t 12) (.t 13)),oM 3 14] none [8,7,6,3]))) (.region [oI 15 (.bin .add (.t 8) (.c (.int .i64 1))),oM 8 15] none [8,7,6,3]))))
def ZpU:Zf:=Zjs
def Zod:=xw ZpU Zjs rfl
def Zpo:Zf:=(.seq (.region [oI 2 (.mov (.c (.lst true [])))] none [0]) (.seq (.region [oI 3 (.mov (.c (.lst true [])))] none [3,0]) (.seq (.seq (.region [oM 6 0,oI 7 (.len (.t 6)),oI 8 (.mov (.c (.int .i64 0)))] none [8,7,6,3]) (.block 0 (.loop [8,7,6,3] ZpU))) Zqv)))
def Zmd:ZQ:=⟨[(.tmp 2)],Zpo⟩
theorem ZP1:FC 15=some Zmd:=by kernel_rfl
theorem Zzl:Zmd.body=Zpo:=rfl
theorem ZKL:Zmd.res=[(.tmp 2)]:=rfl
noncomputable def ZkV (m:Nat) (tm:Tms) (σ:Za):Option (AVal×Za):=(Zav m Zmd (ZbT FC PR BY m Zqv (Wd (Za7 0) (evL FC PR BY m [8,7,6,3] ZpU tm σ))))
def Zo0:Zf:=(.seq (.region [oM 28 5,oM 4 28] none [4]) .ret)
def Zru:Zf:=Zo0
def ZP9:=xw Zru Zo0 rfl
def Zl2:Zf:=(.seq (.seq (.region [oM 17 6,oI 18 (.bin .geq (.t 17) (.c (.int .i64 0)))] none [18,6,5,0]) (.cond (.t 18) .skip (.exit 0))) (.seq (.block 1 (.seq (.region [oM 21 5,oM 22 6,oM 23 0,oI 24 (.i2i .u8 (.t 23)),oI 25 (.iaddr 1 (.t 21) (.t 22)),oN (.st 1 (.t 25) (.t 24))] none [6,5,0]) (.region [oM 26 0,oI 27 (.bin .shr (.t 26) (.c (.int .u64 8))),oM 0 27] none [6,5,0]))) (.region [oM 19 6,oI 20 (.bin .sub (.t 19) (.c (.int .i64 1))),oM 6 20] none [6,5,0])))
def ZrM:Zf:=Zl2
def Zse:=xw ZrM Zl2 rfl
def ZrH:Zf:=(.seq (.region [oI 4 (.mov (.c (.lst true [])))] none [1,0]) (.seq (.seq (.region [oM 7 1,oI 8 (.bin .lss (.t 7) (.c (.int .i64 1))),oM 9 8,⟨(some 10),(.mov (.t 1)),(some (9,false)),[]⟩,⟨(some 11),(.bin .gtr (.t 10) (.c (.int .i64 8))),(some (9,false)),[]⟩,oI 12 (.pick (.t 9) (.c (.bool true)) (.t 11))] none [12,1,0]) (.cond (.t 12) (.seq (.region [oI 4 (.mov (.c (.lst true [])))] none [4]) .ret) .skip)) (.seq (.region [oM 13 1,oI 14 (.mkslice 1 1 (.int .u8 0) (.t 13) (.t 13)),oM 5 14] none [5,1,0]) (.seq (.seq (.region [oM 15 1,oI 16 (.bin .sub (.t 15) (.c (.int .i64 1))),oM 6 16] none [6,5,0]) (.block 0 (.loop [6,5,0] ZrM))) Zru))))
def ZkK:ZQ:=⟨[(.tmp 4)],ZrH⟩
theorem ZNY:FC 61=some ZkK:=by kernel_rfl
theorem ZGN:ZkK.body=ZrH:=rfl
theorem ZAA:ZkK.res=[(.tmp 4)]:=rfl
noncomputable def ZlW (m:Nat) (tm:Tms) (σ:Za):Option (AVal×Za):=(Zav m ZkK (ZbT FC PR BY m Zru (Wd (Za7 0) (evL FC PR BY m [6,5,0] ZrM tm σ))))
def Zne:Zf:=(.seq (.region [oI 2 (.mov (.c (.lst true []))),oI 3 (.mov (.c (.int .i64 0)))] none [0]) (.seq (.seq (.region [oM 4 0,oI 5 (.call 71 0 true [(.t 4)]),oI 6 (.un .not (.t 5))] none [6,0]) (.cond (.t 6) (.seq (.region [oI 2 (.mov (.c (.lst true []))),oI 3 (.mov (.c (.int .i64 13)))] none [3,2]) .ret) .skip)) (.seq (.region [oM 7 0,oI 8 (.s2b (.t 7)),oI 9 (.call 72 0 true [(.t 8)]),oI 10 (.ext (.t 9) 0),oI 11 (.ext (.t 9) 1),oM 2 10,oM 3 11] none [3,2]) .ret)))
def Zph:ZQ:=⟨[(.tmp 2),(.tmp 3)],Zne⟩
theorem Zxf:FC 63=some Zph:=by kernel_rfl
theorem Zuj:Zph.body=Zne:=rfl
theorem Zsv:Zph.res=[(.tmp 2),(.tmp 3)]:=rfl
def Zlb:Zf:=(.seq (.region [oM 21 4,oM 22 0,oI 23 (.i2i .u8 (.t 22)),oI 24 (.bslice false 1 1 (.int .u8 0) [(0,(.t 23))]),oI 25 (.app 1 1 (.int .u8 0) (.t 21) (.t 24)),oM 2 25,oI 3 (.mov (.c (.int .i64 0)))] none [3,2]) .ret)
def Zp8:Zf:=Zlb
def Zv6:=xw Zp8 Zlb rfl
def Zix:Zf:=(.seq (.seq (.region [oM 11 0,oI 12 (.bin .gtr (.t 11) (.c (.int .i64 127)))] none [12,4,0]) (.cond (.t 12) .skip (.exit 0))) (.seq (.block 1 (.region [oM 15 4,oM 16 0,oI 17 (.i2i .u8 (.t 16)),oI 18 (.bin .or (.t 17) (.c (.int .u8 128))),oI 19 (.bslice false 1 1 (.int .u8 0) [(0,(.t 18))]),oI 20 (.app 1 1 (.int .u8 0) (.t 15) (.t 19)),oM 4 20] none [4,0])) (.region [oM 13 0,oI 14 (.bin .shr (.t 13) (.c (.int .u64 7))),oM 0 14] none [4,0])))
def Zql:Zf:=Zix
def ZlA:=xw Zql Zix rfl
def Zi4:Zf:=(.seq (.region [oI 2 (.mov (.c (.lst true []))),oI 3 (.mov (.c (.int .i64 0)))] none [0]) (.seq (.seq (.region [oM 5 0,oI 6 (.bin .lss (.t 5) (.c (.int .i64 0))),oM 7 6,⟨(some 8),(.mov (.t 0)),(some (7,false)),[]⟩,⟨(some 9),(.bin .gtr (.t 8) (.c (.int .i64 268435455))),(some (7,false)),[]⟩,oI 10 (.pick (.t 7) (.c (.bool true)) (.t 9))] none [10,0]) (.cond (.t 10) (.seq (.region [oI 2 (.mov (.c (.lst true []))),oI 3 (.mov (.c (.int .i64 10)))] none [3,2]) .ret) .skip)) (.seq (.region [oI 4 (.mov (.c (.lst true [])))] none [4,0]) (.seq (.block 0 (.loop [4,0] Zql)) Zp8))))
def Zkx:ZQ:=⟨[(.tmp 2),(.tmp 3)],Zi4⟩
theorem ZyM:FC 14=some Zkx:=by kernel_rfl
theorem Zq8:Zkx.body=Zi4:=rfl
theorem Znk:Zkx.res=[(.tmp 2),(.tmp 3)]:=rfl
noncomputable def Zlc (m:Nat) (tm:Tms) (σ:Za):Option (AVal×Za):=(Zav m Zkx (ZbT FC PR BY m Zp8 (Wd (Za7 0) (evL FC PR BY m [4,0] Zql tm σ))))
end
section
open Go.RowKit
inductive Ty where
 | bool
 | int (k:IntKind)
 | str
 | slice (s:Bool) (e:Ty)
 | struct (fs:List Ty)
 deriving Inhabited
def ZdX:Option TypeDesc->Bool
 | some (.struct _)=>true
 | some (.array _ _)=>true
 | _=>false
def Zjn (P:Program):Nat->List Field->Nat->Bool
 | at',[],n=>at' == n
 | at',f::fs,n=>f.offset == at' && Zjn P (at'+P.cellsOf f.type) fs n
def ZdH (P:Program):Nat->TypeId->Option Ty
 | 0,_=>none
 | n+1,t=>match P.underlying t with
  | some .bool=>some .bool
  | some (.int k)=>some (.int k)
  | some .string=>some .str
  | some (.slice e)=>if 0 < P.cellsOf e then (ZdH P n e).map (.slice (ZdX (P.underlying e))) else none
  | some (.struct fs)=>if Zjn P 0 fs.toList (P.cellsOf t) then (fs.toList.mapM fun f=>ZdH P n f.type).map .struct else none
  | _=>none
def Zb9 (s:Bool) (y:List AVal):AVal:=if s then .agg y else y.headD .nilp
def Imm.of (w:World):Imm:=fun b o=>w.cell? ⟨b,o,none⟩
section
variable {H:Type} {enc:TypeId×Value->H} {P:Program} {w:World} {spare:Nat->Bool} {held:Bool}
theorem ZxT {b off:Nat} {s:Option Nat} {u:Value} (h:w.cell? ⟨b,off,s⟩=some u):s=none:=by
 unfold World.cell? at h
 split at h
 ·rcases s with _ | s
  ·rfl
  ·simp at h
 ·cases h
theorem ZGd {s:Bool} {y:List AVal} (h:s=false->y.length=1) (h1:s=false->∀ x ∈ y,ZS x=true):(Zb9 s y).cells=y:=by
 cases s with
 | true=>rfl
 | false =>
  match y,h rfl with
  | [x],_ =>
   have:=h1 rfl x (by simp)
   cases x <;> simp_all [Zb9,AVal.cells,ZS]
theorem ZFK {a:Addr} (h:a.spot=none) (n:Nat):a.add n=⟨a.block,a.off+n,none⟩:=by
 unfold Addr.add
 split
 ·rename_i e;subst e;cases a;simp_all
 ·rfl
theorem ZDQ {I:Imm} {β:Bmap} {xs:List AVal} {vs:List Value} {n:Nat} (h:VRs I β xs (vs.take n)) {ys:List AVal} (h':VRs I β ys (vs.drop n)):VRs I β (xs++ys) vs:=by
 have:=Zcy h h'
 rwa [List.take_append_drop] at this
theorem Zwe {α β:Type} {f:α->Option β} {a:α} {l:List α} {r:List β} (h:(a::l).mapM f=some r):∃ b r',f a=some b/\l.mapM f=some r'/\r=b::r':=by
 rw [XaV] at h
 simp only [Option.bind_eq_bind,Option.bind_eq_some_iff,Option.pure_def,Xb] at h
 obtain ⟨b,h1,r',h2,h3⟩:=h
 exact ⟨b,r',h1,h2,h3.symm⟩
theorem ZNG {a b:List AVal} (ha:ZaQ a=true) (hb:ZaQ b=true):ZaQ (a++b)=true:=by
 induction a with
 | nil=>exact hb
 | cons x a ih=>simp only [XU,ZaQ,Xl] at ha ⊢;exact ⟨ha.1,ih ha.2⟩
theorem Zxq {I:Imm} {β:Bmap} {s:Bool} {k b:Nat}:∀ (n off:Nat) (Y:Nat->List AVal),(∀ i,i < n->(Zb9 s (Y i)).cells.length=k/\CR I β (Zb9 s (Y i)).cells b (off+i*k))->LR I β k ((X6 n).map fun i=>Zb9 s (Y i)) b off
 | 0,off,Y,_=>by simp [LR]
 | n+1,off,Y,h=>by
  rw [List.range_succ_eq_map,Xo,ZgC]
  have h0:=h 0 (by omega)
  simp only [Nat.zero_mul,XT] at h0
  refine ⟨h0,?_⟩
  rw [Xay]
  exact Zxq n (off+k) (fun i=>Y (i+1)) (fun i hi=>by
   have:=h (i+1) (by omega)
   rw [show off+k+i*k=off+(i+1)*k by rw [Nat.succ_mul];omega]
   exact this)
theorem Zt9 {I:Imm} {β:Bmap} {b:Nat}:∀ (xs:List AVal) (cs:List Value) (off:Nat),VRs I β xs cs->(∀ i,i < cs.length->I b (off+i)=cs[i]?)->CR I β xs b off
 | [],_,_,_,_=>by simp only [CR]
 | x::xs,cs,off,h,hI=>by
  simp only [VRs] at h
  obtain ⟨v,vs',rfl,h1,h2⟩:=h
  simp only [CR]
  refine ⟨⟨v,by have:=hI 0 (by simp);simpa using this,h1⟩,Zt9 xs vs' (off+1) h2 fun i hi=>?_⟩
  have:=hI (i+1) (by simp;omega)
  rw [show off+1+i=off+(i+1) by omega,this]
  simp
theorem ZnV {s:Bool}:∀ (n:Nat) (Y:Nat->List AVal),(∀ i,i < n->ZaQ (Zb9 s (Y i)).cells=true)->Zag ((X6 n).map fun i=>Zb9 s (Y i))=true
 | 0,Y,_=>by simp [Zag]
 | n+1,Y,h=>by
  rw [List.range_succ_eq_map,Xo,Zr5,h 0 (by omega),Xay]
  simp only [Bool.true_and]
  exact ZnV n (fun i=>Y (i+1)) (fun i hi=>h (i+1) (by omega))
theorem ZsP {xs:List AVal} (h:ZaQ xs=true):∀ x ∈ xs,ZS x=true:=by
 induction xs with
 | nil=>intro x hx;simp at hx
 | cons y ys ih =>
  simp only [ZaQ,Xl] at h
  intro x hx
  rcases XQ.1 hx with rfl | hx
  ·cases x <;> simp_all [Za2,ZS]
  ·exact ih h.2 x hx
theorem Rel.start (w:World) (hG:Gl.le (Imm.of w)):Rel (fun b=>b < w.heap.size) w (Imm.of w) (Imm.of w) B0 [] w where
 below:=KB.refl _ w
 old:=fun _ _ _=>rfl
 imm:=fun _ _ _ h=>h
 blk:=fun t x h=>by simp at h
 own:=fun t x b h=>by simp at h
 apart:=fun t x t' x' b h=>by simp at h
 fresh:=fun _ _ _=>rfl
 free:=fun t g h=>by simp at h
 gen:=fun t b g h=>by simp at h
 glob:=hG
theorem ZF8 {O:ZX} (hO:ZaK P O) {f:Nat} {args:List AVal} {vs:Array Value} {σ':Za} (hG:Gl.le (Imm.of w)) (hargs:VRs (Imm.of w) B0 args vs.toList) (h:O f args []=some (.bool true,σ')) :
  Calls P f vs w (fun e w'=>e=.returned (.bool true)/\Below w.heap.size w w'):=by
 refine ((hO f args [] _ _ h).2 _ w _ _ B0 w vs (fun b hb=>hb) (Rel.start w hG) hargs).mono ?_
 rintro e w' ⟨u,he,I',β',_,_,R,hv⟩
 simp only [Za4,VR] at hv
 subst hv
 exact ⟨he,R.below.os,R.below.tape,R.below.output,R.below.size,R.below.block⟩
end
end
section
open Go.RowKit
theorem ZL1 (id:Nat) (tm:Tms) (σ:Za):Za7 id (.normal,tm,σ)=(.normal,tm,σ):=rfl
theorem ZK0 (id i:Nat) (tm:Tms) (σ:Za):Za7 id (.exit i,tm,σ)=if i=id then (.normal,tm,σ) else (.exit i,tm,σ):=by simp only [Za7]
theorem ZEN (id:Nat) (tm:Tms) (σ:Za):Za7 id (.ret,tm,σ)=(.ret,tm,σ):=rfl
theorem ZIO (id:Nat) (x:AVal) (tm:Tms) (σ:Za):Za7 id (.panic x,tm,σ)=(.panic x,tm,σ):=rfl
section
variable (O:ZX) (bf:Nat->Bool)
def Zd1 (c:Cls):Option (Tms×Za×List Cls×Option AVal)->Option (Tms×Za×List Cls×Option AVal)
 | none=>none
 | some (tm,σ,cs,p)=>some (tm,σ,c::cs,p)
def Zhq (c:List Cls):Option (Tms×Za×List Cls×Option AVal)->Option (Tms×Za×List Cls×Option AVal)
 | none=>none
 | some (tm,σ,cs,p)=>some (tm,σ,c++cs,p)
def kC (d:Option Nat) (os:List AOp) (s:Nat) (tm:Tms):Option (AVal×Za×Cls)->Option (Tms×Za×List Cls×Option AVal)
 | none=>none
 | some (v,σ,c)=>if ZaX v then some (tput tm d v,σ,[c],some (Za4 v)) else Zd1 c (Z7 O bf os s (tput tm d v) σ)
def ZeK (ops:List AOp) (L:Nat) (l:List (Nat×Nat)) (live:List Nat):Option (Tms×Za×List Cls×Option AVal)->Option (Za1×Tms×Za)
 | none=>none
 | some (_,σ,cs,some x)=>if ZdF ops L l cs then some (.panic x,[],σ) else none
 | some (tm,σ,cs,none)=>if Zdu ops L l cs then some (.normal,keepL live tm,σ) else none
variable {O bf}
theorem Zuu (s:Nat) (tm:Tms) (σ:Za):Z7 O bf [] s tm σ=some (tm,σ,[],none):=rfl
theorem ZNJ (c:Cls) (tm:Tms) (σ:Za) (cs:List Cls) (p:Option AVal):Zd1 c (some (tm,σ,cs,p))=some (tm,σ,c::cs,p):=rfl
theorem ZQx (c:Cls):Zd1 c none=none:=rfl
theorem ZFP (c:Cls) (q:Prop) [Decidable q] (x y:Option (Tms×Za×List Cls×Option AVal)):Zd1 c (if q then x else y)=if q then Zd1 c x else Zd1 c y:=by split <;> rfl
theorem Zzr (c:List Cls) (tm:Tms) (σ:Za) (cs:List Cls) (p:Option AVal):Zhq c (some (tm,σ,cs,p))=some (tm,σ,c++cs,p):=rfl
theorem Zyw (c:List Cls):Zhq c none=none:=rfl
theorem ZDf (c:List Cls) (q:Prop) [Decidable q] (x y:Option (Tms×Za×List Cls×Option AVal)):Zhq c (if q then x else y)=if q then Zhq c x else Zhq c y:=by split <;> rfl
theorem Znh {o:AOp} {os:List AOp} {s:Nat} {tm tm1:Tms} {σ σ1:Za} {v:AVal} {c:Cls} (h:ZT O bf o s tm σ=some (v,tm1,σ1,c)) (hn:ZaX v=false):Z7 O bf (o::os) s tm σ=Zd1 c (Z7 O bf os (s+nsite o.ins) tm1 σ1):=by
 rw [Zvo h hn]
 cases Z7 O bf os (s+nsite o.ins) tm1 σ1 <;> rfl
theorem ZqI (d:Option Nat) (i:Ins) (af:List Nat) (os:List AOp) (s:Nat) (tm:Tms) (σ:Za):Z7 O bf (⟨d,i,none,af⟩::os) s tm σ=kC O bf d os (s+nsite i) tm (exI O bf i s tm σ):=by
 cases h:exI O bf i s tm σ with
 | none=>exact ZjD (by rw [Zmv,h];rfl)
 | some q =>
  obtain ⟨v,σ1,c⟩:=q
  have hs:ZT O bf ⟨d,i,none,af⟩ s tm σ=some (v,tput tm d v,σ1,c):=by rw [Zmv,h];rfl
  cases hp:ZaX v with
  | true =>
   obtain ⟨x,rfl⟩:=ZmA hp
   exact ZmJ hs
  | false =>
   rw [Znh hs hp]
   simp only [kC,hp,Xi,if_false]
theorem Zrv (d:Option Nat) (os:List AOp) (s:Nat) (tm:Tms) (v:AVal) (σ:Za) (c:Cls) (h:ZaX v=false):kC O bf d os s tm (some (v,σ,c))=Zd1 c (Z7 O bf os s (tput tm d v) σ):=by
 simp only [kC,h,Xi,if_false]
theorem ZAY (d:Option Nat) (os:List AOp) (s:Nat) (tm:Tms) (x:AVal) (σ:Za) (c:Cls):kC O bf d os s tm (some (.pan x,σ,c))=some (tput tm d (.pan x),σ,[c],some x):=rfl
theorem ZMn (d:Option Nat) (os:List AOp) (s:Nat) (tm:Tms):kC O bf d os s tm none=none:=rfl
theorem ZNX (d:Option Nat) (os:List AOp) (s:Nat) (tm:Tms) (q:Prop) [Decidable q] (x y:Option (AVal×Za×Cls)):kC O bf d os s tm (if q then x else y)=if q then kC O bf d os s tm x else kC O bf d os s tm y:=by split <;> rfl
theorem ZyH (ops:List AOp) (l:List (Nat×Nat)) (live:List Nat) (tm:Tms) (σ:Za):Zch O bf ops (some l) live tm σ=ZeK ops σ.length l live (Z7 O bf ops σ.length tm (σ++XE (sitesOf ops) .free)):=by
 unfold Zch
 cases Z7 O bf ops σ.length tm (σ++XE (sitesOf ops) .free) with
 | none=>rfl
 | some q =>
  obtain ⟨tm',σ',cs,p⟩:=q
  cases p <;> rfl
theorem Zr8 (ops:List AOp) (L:Nat) (l:List (Nat×Nat)) (live:List Nat) (tm:Tms) (σ:Za) (cs:List Cls) (h:Zdu ops L l cs=true):ZeK ops L l live (some (tm,σ,cs,none))=some (.normal,keepL live tm,σ):=by
 simp only [ZeK,h,if_true]
theorem Zh4 (ops:List AOp) (L:Nat) (l:List (Nat×Nat)) (live:List Nat) (tm:Tms) (σ:Za) (cs:List Cls) (x:AVal) (h:ZdF ops L l cs=true):ZeK ops L l live (some (tm,σ,cs,some x))=some (.panic x,[],σ):=by
 simp only [ZeK,h,if_true]
theorem ZH4 (ops:List AOp) (L:Nat) (l:List (Nat×Nat)) (live:List Nat):ZeK ops L l live none=none:=rfl
theorem ZPJ (ops:List AOp) (L:Nat) (l:List (Nat×Nat)) (live:List Nat) (q:Prop) [Decidable q] (x y:Option (Tms×Za×List Cls×Option AVal)):ZeK ops L l live (if q then x else y)=if q then ZeK ops L l live x else ZeK ops L l live y:=by split <;> rfl
theorem ZGz (ops:List AOp) (L:Nat) (l:List (Nat×Nat)) (cs:List Cls) (h:(cs.all fun c=>c.wr.isEmpty && !c.any)=true) (hs:(l.all fun p=>p.1 == p.2 || nsite (ops.getD p.1 default).ins == 0)=true):Zdu ops L l cs=true:=by
 have hd:∀ i,ZdU (cs.getD i {})=true:=by
  intro i
  rw [XB] at h
  rw [Xh]
  cases hi:cs[i]? with
  | none=>rfl
  | some c=>exact h c (Xz hi)
 unfold Zdu
 rw [XB] at hs ⊢
 intro p hp
 have:=hs p hp
 rw [WF] at this ⊢
 rcases this with this | this
 ·exact Xr this
 ·refine Xv ?_
  unfold ZcK
  simp only [hd,this,Bool.and_true,Bool.true_and,Xaz,XaS]
theorem ZPV (ops:List AOp) (L:Nat) (l:List (Nat×Nat)) (live:List Nat) (tm:Tms) (σ:Za) (cs:List Cls) (h:(cs.all fun c=>c.wr.isEmpty && !c.any)=true) (hs:(l.all fun p=>p.1 == p.2 || nsite (ops.getD p.1 default).ins == 0)=true):ZeK ops L l live (some (tm,σ,cs,none))=some (.normal,keepL live tm,σ) :=
 Zr8 _ _ _ _ _ _ _ (ZGz _ _ _ _ h hs)
variable (O bf) in
def gKC (os:List AOp) (s:Nat):Option (Tms×Za×List Cls×Option AVal)->Option (Tms×Za×List Cls×Option AVal)
 | none=>none
 | some (tm,σ,cs,some x)=>some (tm,σ,cs,some x)
 | some (tm,σ,cs,none)=>Zhq cs (Z7 O bf os s tm σ)
theorem ZIp (os:List AOp) (s:Nat) (tm:Tms) (σ:Za) (cs:List Cls):gKC O bf os s (some (tm,σ,cs,none))=Zhq cs (Z7 O bf os s tm σ):=rfl
theorem ZxA (os:List AOp) (s:Nat) (q:Prop) [Decidable q] (x y:Option (Tms×Za×List Cls×Option AVal)):gKC O bf os s (if q then x else y)=if q then gKC O bf os s x else gKC O bf os s y:=by split <;> rfl
theorem ZHZ (os:List AOp) (s:Nat) (c:Cls) (r:Option (Tms×Za×List Cls×Option AVal)):gKC O bf os s (Zd1 c r)=Zd1 c (gKC O bf os s r):=by
 cases r with
 | none=>rfl
 | some q =>
  obtain ⟨tm,σ,cs,p⟩:=q
  cases p with
  | some x=>rfl
  | none =>
   simp only [Zd1,gKC]
   cases Z7 O bf os s tm σ <;> rfl
theorem Zwp:∀ (a b:List AOp) (s:Nat) (tm:Tms) (σ:Za),Z7 O bf (a++b) s tm σ=gKC O bf b (s+sitesOf a) (Z7 O bf a s tm σ)
 | [],b,s,tm,σ=>by
  simp only [Xw,Zuu,gKC,sitesOf,XA,List.sum_nil,XT]
  cases Z7 O bf b s tm σ <;> rfl
 | o::a,b,s,tm,σ=>by
  have ih:=Zwp a b
  simp only [XU]
  have hs:s+nsite o.ins+sitesOf a=s+sitesOf (o::a):=by simp [sitesOf,WC]
  cases hst:ZT O bf o s tm σ with
  | none=>rw [ZjD hst,ZjD hst];rfl
  | some q =>
   obtain ⟨v,tm1,σ1,c⟩:=q
   cases hp:ZaX v with
   | true =>
    obtain ⟨x,rfl⟩:=ZmA hp
    rw [ZmJ hst,ZmJ hst];rfl
   | false=>rw [Znh hst hp,Znh hst hp,ih,hs,ZHZ]
variable (O bf) in
def Ze8 (j:Nat) (w:Bool) (g:List AOp) (s:Nat) (tm:Tms) (σ:Za):Option (Tms×Za×List Cls×Option AVal):=match ZbD (some (j,w)) tm with
 | none=>none
 | some false=>some (Zal g tm,σ,g.map fun _=>{},none)
 | some true=>Z7 O bf (g.map unG) s tm σ
theorem Ztd (j:Nat) (w:Bool):∀ (g:List AOp),(∀ o ∈ g,o.guard=some (j,w)/\o.dst≠some j)->∀ (s:Nat) (tm:Tms) (σ:Za),g≠[]->Z7 O bf g s tm σ=Ze8 O bf j w g s tm σ
 | [],_,_,_,_,h=>absurd rfl h
 | o::g,hall,s,tm,σ,_=>by
  obtain ⟨hg,hd⟩:=hall o (by simp)
  have ih:∀ (tm:Tms) (σ:Za) (s:Nat),ZbD (some (j,w)) tm≠none->Z7 O bf g s tm σ=Ze8 O bf j w g s tm σ:=by
   intro tm σ s hw
   by_cases he:g=[]
   ·subst he
    unfold Ze8
    cases hx:ZbD (some (j,w)) tm with
    | none=>exact absurd hx hw
    | some b=>cases b <;> rfl
   ·exact Ztd j w g (fun o ho=>hall o (by simp [ho])) s tm σ he
  cases hx:ZbD (some (j,w)) tm with
  | none =>
   rw [ZjD (by simp only [ZT,hg,hx])]
   simp only [Ze8,hx]
  | some b =>
   cases b with
   | false =>
    have h1:Z7 O bf (o::g) s tm σ=Zd1 {} (Z7 O bf g (s+nsite o.ins) (tput tm o.dst (.tup [])) σ) :=
     Znh (v:=.tup []) (c:={}) (by simp only [ZT,hg,hx]) rfl
    rw [h1,ih _ _ _ (by rw [Zf5 hd,hx];simp)]
    unfold Ze8
    rw [Zf5 hd,hx]
    rfl
   | true =>
    have key:∀ r:Option (AVal×Za×Cls),(∀ v σ' c,r=some (v,σ',c)->ZaX v=false->Z7 O bf g (s+nsite o.ins) (tput tm o.dst v) σ'=Z7 O bf (g.map unG) (s+nsite o.ins) (tput tm o.dst v) σ')->kC O bf o.dst g (s+nsite o.ins) tm r=kC O bf o.dst (g.map unG) (s+nsite o.ins) tm r:=by
     intro r hr
     cases r with
     | none=>rfl
     | some q =>
      obtain ⟨v,σ',c⟩:=q
      cases hp:ZaX v with
      | true=>simp only [kC,hp,if_true]
      | false=>rw [Zrv _ _ _ _ _ _ _ hp,Zrv _ _ _ _ _ _ _ hp,hr v σ' c rfl hp]
    have h1:Z7 O bf (o::g) s tm σ=kC O bf o.dst g (s+nsite o.ins) tm (exI O bf o.ins s tm σ):=by
     have h0:Z7 O bf (o::g) s tm σ=Z7 O bf (⟨o.dst,o.ins,none,o.after⟩::g) s tm σ:=by
      have hst:ZT O bf o s tm σ=ZT O bf ⟨o.dst,o.ins,none,o.after⟩ s tm σ:=by
       unfold ZT
       simp only [hg,hx]
       rfl
      simp only [Z7,hst]
     rw [h0,ZqI]
    rw [h1]
    unfold Ze8
    rw [hx]
    simp only [Xo]
    rw [show unG o=⟨o.dst,o.ins,none,o.after⟩ from rfl,ZqI]
    refine key _ fun v σ' c _ _=>?_
    rw [ih _ _ _ (by rw [Zf5 hd,hx];simp)]
    unfold Ze8
    rw [Zf5 hd,hx]
theorem ZMV (d:Option Nat) (i:Ins) (j:Nat) (w:Bool) (af:List Nat) (os:List AOp) (s:Nat) (tm:Tms) (σ:Za) (hd:decide (d=some j)=false) :
  Z7 O bf (⟨d,i,some (j,w),af⟩::os) s tm σ=gKC O bf (ZA j w os).2 (s+sitesOf (⟨d,i,some (j,w),af⟩::(ZA j w os).1)) (Ze8 O bf j w (⟨d,i,some (j,w),af⟩::(ZA j w os).1) s tm σ):=by
 have h:=ZoH j w os
 have hall:∀ o ∈ (⟨d,i,some (j,w),af⟩::(ZA j w os).1:List AOp),o.guard=some (j,w)/\o.dst≠some j:=by
  intro o ho
  rcases XQ.1 ho with rfl | ho
  ·exact ⟨rfl,by simpa using hd⟩
  ·exact ZrG j w os o ho
 rw [<-Ztd j w _ hall s tm σ (by simp),<-Zwp,XU,h]
variable (O bf) in
def gWC (w:Bool) (g:List AOp) (s:Nat) (tm:Tms) (σ:Za):AVal->Option (Tms×Za×List Cls×Option AVal)
 | .bool b=>if b=w then Z7 O bf (g.map unG) s tm σ else some (Zal g tm,σ,g.map fun _=>{},none)
 | .tup []=>some (Zal g tm,σ,g.map fun _=>{},none)
 | _=>none
theorem ZBt (j:Nat) (w:Bool) (g:List AOp) (s:Nat) (tm:Tms) (σ:Za):Ze8 O bf j w g s tm σ=gWC O bf w g s tm σ (tget tm j):=by
 unfold Ze8 ZbD
 simp only
 generalize tget tm j=v
 cases v
 case bool b=>cases b <;> cases w <;> rfl
 case tup vs=>cases vs <;> rfl
 all_goals rfl
theorem ZBQ (w:Bool) (g:List AOp) (s:Nat) (tm:Tms) (σ:Za) (b:Bool):gWC O bf w g s tm σ (.bool b)=if b=w then Z7 O bf (g.map unG) s tm σ else some (Zal g tm,σ,g.map fun _=>{},none):=rfl
theorem ZHn (w:Bool) (g:List AOp) (s:Nat) (tm:Tms) (σ:Za):gWC O bf w g s tm σ (.tup [])=some (Zal g tm,σ,g.map fun _=>{},none):=rfl
theorem ZGB (q:Prop) [Decidable q] (t1 t2:Tms) (σ1 σ2:Za) (cs:List Cls):(if q then some (t1,σ1,cs,(none:Option AVal)) else some (t2,σ2,cs,none))=some ((if q then t1 else t2),(if q then σ1 else σ2),cs,none):=by split <;> rfl
end
section
theorem Zl1 {r:AVal} {cs:List AVal} {σ:Za} (hr:ZI r=true) (hc:Zd cs=true):gcA 1 [r] (.var cs::σ)=([r],[.var cs]):=by
 have e1:=(Z4 (Zi (.var cs::σ) 1 [0]) r hr)
 have e2:=(Za8 (Zi (.var cs::σ) 1 [0]) cs hc)
 have h1:Zy 1 [r] (.var cs::σ)=[0]:=by
  have : Zw [r]=[]:=by simp only [Zw,e1.2,Xm]
  simp only [Zy,this,List.range_one,XH,XX,Xm,Xu,ZC,e2.2]
  rfl
 simp only [gcA,h1,Zg,e1.1,Zq,Xu,Zz,e2.1]
theorem Z8 {r:AVal} {cs:List AVal} {σ:Za} (hr:ZI r=true) (hc:Zd cs=true):Zak 1 (.var cs::σ) r=some (r,[.var cs]):=by
 simp only [Zak,Zl1 hr hc]
theorem Zfe {σ:Za} {t:Nat} {cs:List AVal} (hs:σ[t]?=some (.var cs)) (hc:Zd cs=true):Zt σ 1000 [t] []=[t]:=by
 have hd:σ.getD t .free=.var cs:=by simp [Xh,hs]
 have e2:=(Za8 (fun _ _=>none) cs hc).2
 show Zt σ (999+1) [t] []=[t]
 simp only [Zt,List.contains_nil,Xi,if_false,hd,ZC,e2,Xw]
end
end
section
section
variable (c:Prop) [Decidable c]
theorem ZCd (t1 t2:Tms) (σ1 σ2:Za):(if c then some (Za1.normal,t1,σ1) else some (Za1.normal,t2,σ2))=some (Za1.normal,(if c then t1 else t2),(if c then σ1 else σ2)):=by split <;> rfl
theorem ZLp (t1 t2:Tms) (σ1 σ2:Za):(if c then some (Za1.ret,t1,σ1) else some (Za1.ret,t2,σ2))=some (Za1.ret,(if c then t1 else t2),(if c then σ1 else σ2)):=by split <;> rfl
theorem ZyI (t1 t2:Tms) (σ1 σ2:Za):(if c then some (t1,σ1,(none:Option AVal)) else some (t2,σ2,none))=some ((if c then t1 else t2),(if c then σ1 else σ2),none):=by split <;> rfl
theorem ZG2 (n:Nat) (a b:AVal):(if c then (n,a) else (n,b))=(n,if c then a else b):=by split <;> rfl
theorem ZHU (a b:AVal) (σ1 σ2:Za):(if c then some (a,σ1) else some (b,σ2))=some ((if c then a else b),(if c then σ1 else σ2)):=by split <;> rfl
theorem ZHJ (a b:AVal) (σ1 σ2:Za) (x y:Cls):(if c then some (a,σ1,x) else some (b,σ2,y))=some ((if c then a else b),(if c then σ1 else σ2),if c then x else y):=by split <;> rfl
end
theorem ZxJ {α:Type} (p:Bool) (x y z:α):(if p=true then x else (if p=false then y else z))=if p=true then x else y:=by cases p <;> rfl
theorem ZzF (ops:List AOp) (b:Nat) (cs:List Cls):Zdu ops b [] cs=true:=rfl
theorem ZPy (ops:List AOp) (b:Nat) (p:Nat×Nat) (l:List (Nat×Nat)) (cs:List Cls):Zdu ops b (p::l) cs=((p.1 == p.2 || ZcK (ops.getD p.1 default) (ops.getD p.2 default) (cs.getD p.1 {}) (cs.getD p.2 {}) (b+sitesOf (ops.take p.1))) && Zdu ops b l cs):=by
 simp only [Zdu,XD]
theorem ZOv (oj oi:AOp) (cj ci:Cls) (sj:Nat):ZcK oj oi cj ci sj=(Zcs oj cj || Zcs oi ci || (ZdU cj && ZdU ci && (nsite oj.ins == 0 || !ci.rd.contains sj)) || ((Zaj oj.ins || (Zam oj.ins && !cj.any)) && (ZdU ci && ci.rd.isEmpty)) || (Zan oj.ins && Zaj oi.ins && ci.any && Zat cj ci) || (Zan oj.ins && (Zam oi.ins || (ZaA oi.ins && ZaF cj ci)) && Zat cj ci) || (Zaz oj.ins && Zax oi.ins)):=rfl
theorem ZHO (o:AOp) (rd wr:List Nat) (any:Bool) (got:List (Nat×Option Nat×Nat×AVal)) (upd:List (Nat×List AVal)):Zcs o ⟨rd,wr,any,got,upd⟩=(nsite o.ins == 0 && rd.isEmpty && wr.isEmpty && !any):=rfl
theorem ZK1 (rd wr:List Nat) (any:Bool) (got:List (Nat×Option Nat×Nat×AVal)) (upd:List (Nat×List AVal)):ZdU ⟨rd,wr,any,got,upd⟩=(wr.isEmpty && !any):=rfl
theorem Zah {α:Type} {l:List α} {i:Nat} {x:α} {r:List α} (h:l.drop i=x::r):l[i]?=some x/\l.drop (i+1)=r/\i < l.length:=by
 have h1:i < l.length:=by
  rcases Nat.lt_or_ge i l.length with h1 | h1
  ·exact h1
  ·rw [List.drop_eq_nil_of_le h1] at h;cases h
 rw [List.drop_eq_getElem_cons h1] at h
 injection h with h2 h3
 exact ⟨by rw [XP h1,h2],h3,h1⟩
theorem Zdy {α:Type} {l:List α} {i:Nat} (h:l.drop i=[]):¬(i:Int) < l.length:=by
 have:=List.drop_eq_nil_iff.1 h;omega
theorem iad {α:Type} {l:List α} {i:Nat} {x:α} (h:l[i]?=some x) (f:α->AVal) {k:Nat} (hk:(f x).cells.length=k) (σ:Za) (n:Bool) (kk:IntKind):Zcn σ k (.lst n (l.map f)) (.int kk (i:Int))=some (.iptr (f x).cells 0,σ,{}):=by
 have h0:(0:Int)<=(i:Int):=Int.natCast_nonneg i
 unfold Zcn
 simp only [h0,if_true,WZ,WX,h,X8,hk]
theorem ZaV {n:Int} (h0:-9223372036854775808<=n) (h:n<=9223372036854775807):IntKind.i64.wrap n=n:=by
 rw [IntKind.wrap_i64];omega
theorem Zm1 {α β:Type} {a:List α} {b:List β} (h:a.length=b.length):((a.length:Int) != (b.length:Int))=false:=by simp [h]
theorem Zlt {α β:Type} {a:List α} {b:List β} (h:a.length≠b.length):((a.length:Int) != (b.length:Int))=true:=by
 simp only [bne_iff_ne,ne_eq];omega
theorem Zm2 {α:Type} [BEq α] [LawfulBEq α] {a b:List α} (h:a.length≠b.length):(a == b)=false:=by
 simp only [beq_eq_false_iff_ne,ne_eq];rintro rfl;exact h rfl
theorem ZcI {i n:Nat} (h:(i:Int) < n) (hn:n<=9223372036854775807):IntKind.i64.wrap ((i:Int)+1)=((i+1:Nat):Int):=by
 rw [ZaV (by omega) (by omega)];rfl
theorem ZcU {O:ZX} {bf:Nat->Bool} {f:Nat} {args:List AVal} {r:AVal} (h:O f args []=some (r,[])) (hb:bf f=false) (hp:args.all Z5=true) (hn:args.map ZK=args) (hv:Zbw 0 (some (r,[]))=some (r,[])) (hr:∀ sq,Zr (ZaC [] [] sq) r=r) (σ:Za) (sq own:Nat) (view:Bool):Zk O bf σ sq f own view args=some (r,σ,{}):=by
 rw [Zfj hb hp,hn,h]
 have : Z2 view 0 (some (r,[]))=some (r,[]):=by
  unfold Z2
  split
  ·exact hv
  ·rfl
 rw [this,Zjb _ _ _ _ (hr sq)]
theorem ZhV {α:Type} (σ:Za) (k:Nat) (l:List α) (f:α->AVal) (kk:IntKind) (n:Int) (h0:0<=n) (h:n<=(l.length:Int)):Zbj σ k (.lst false (l.map f)) none (some (.int kk n)) none=some (.lst false ((l.take n.toNat).map f),σ,{}):=by
 simp only [Zbj,Zbg,Zc7,XW,h0,h,and_self,if_true,beq_self_eq_true,Xaz,Option.isSome_none,Xi,if_false,Xaa,WD,XaF]
abbrev Zc:=List UInt8
def ZW (b:Zc):AVal:=.lst false (b.map Zb)
structure ZB where
 id:Int
 num:Int
 text:Zc
 pair:Zc
 data:Zc
 deriving DecidableEq
def ZbZ (p:ZB):List AVal:=[.int .i64 p.id,.int .i64 p.num,.str p.text,.str p.pair,ZW p.data]
def Zu (p:ZB):AVal:=.agg (ZbZ p)
def Zbk (l:List ZB):AVal:=.lst false (l.map Zu)
theorem ZA0 (l:Zc):bytesOf (l.map Zb)=some l:=by
 induction l with
 | nil=>rfl
 | cons b l ih =>
  simp only [Xo,bytesOf,ih,Zb,Zpz,WZ,UInt8.ofNat_toNat]
end
section
def beB:Nat->Nat->Zc
 | _,0=>[]
 | n,w+1=>beB (n / 256) w++[Wf (n % 256)]
theorem Zbt:∀ (w n:Nat),(beB n w).length=w
 | 0,_=>rfl
 | w+1,n=>by simp [beB,Zbt w]
def Zki (x:Nat) (b:Zc):Nat:=b.foldl (fun x c=>(x*256+c.toNat) % 18446744073709551616) x
def Zc0 (b:Zc):Nat:=Zki 0 b
theorem Zdi (x:Nat) (c:UInt8) (b:Zc):Zki x (c::b)=Zki ((x*256+c.toNat) % 18446744073709551616) b:=rfl
theorem ZfC (x:Nat):Zki x []=x:=rfl
def Zci:Nat->Nat->Zc
 | 0,n=>[Wf n]
 | k+1,n=>if n < 128 then [Wf n] else Wf (n % 128+128)::Zci k (n / 128)
def Zas (n:Int):Zc×Int:=if n < 0\/n > 268435455 then ([],10) else (Zci 3 n.toNat,0)
def gvA (i n:Nat):Zc->Nat×Nat×Int
 | []=>if i < 4 then (0,0,11) else (0,0,12)
 | c::r=>if i=4 then (0,0,12) else if c.toNat < 128 then (if c=0/\0 < i then (0,0,12) else (n+c.toNat % 128*128 ^ i,i+1,0)) else gvA (i+1) (n+c.toNat % 128*128 ^ i) r
def ZY (b:Zc):Nat×Nat×Int:=gvA 0 0 b
def ZbQ (b:Zc):Zc×Int:=if b.length > 65535 then ([],10) else (beB b.length 2++b,0)
def ZaP (b:Zc):Zc×Nat×Int :=
 if b.length < 2\/b.length - 2 < Zc0 (b.take 2) then ([],0,11) else ((b.drop 2).take (Zc0 (b.take 2)),2+Zc0 (b.take 2),0)
end
section
def ZtL:=(aI (aI (aI (aI (aI (aI @ZOi @ZJR) (aI @ZQQ @ZAf)) (aI (aI @ZBp @ZMO) (aI @ZNh @Zzg))) (aI (aI (aI @ZvN @ZnG) (aI @ZQU @Zpl)) (aI (aI @ZDx @ZLB) (aI @ZJ0 @ZCe)))) (aI (aI (aI (aI @ZD9 @ZIa) (aI @ZJL @ZC5)) (aI (aI @ZyF @ZMI) (aI @ZM5 @Zyj))) (aI (aI (aI @ZGO @ZPx) (aI @ZDW @ZIG)) (aI (aI @ZF5 @ZA0) (aI @ZCd @ZLp))))) (aI (aI (aI (aI (aI @ZyI @ZG2) (aI @ZHU @ZHJ)) (aI (aI @ZFC @ZOZ) (aI @ZOR @ZJI))) (aI (aI (aI @ZIw @Zzt) (aI @Zz9 @ZyH)) (aI (aI @Zuu @ZqI) (aI @ZMV @ZNJ)))) (aI (aI (aI (aI @ZQx @ZFP) (aI @Zzr @Zyw)) (aI (aI @ZDf @Zrv) (aI @ZAY @ZMn))) (aI (aI (aI @ZNX @ZPV) (aI @ZH4 @ZPJ)) (aI (aI @ZIp @ZxA) (aI @ZBt @ZBQ))))))
def Zzy:=(aI (aI (aI (aI (aI (aI @ZHn @ZGB) (aI @ZL1 @ZK0)) (aI (aI @ZEN @ZIO) (aI @ZzF @ZPy))) (aI (aI (aI @ZOv @ZHO) (aI @ZK1 @Zr8)) (aI (aI @ZOl @ZKC) (aI @ZJy @ZCz)))) (aI (aI (aI (aI @ZNC @ZMt) (aI @ZQy @ZEr)) (aI (aI @ZuN @ZEI) (aI @ZHI @ZOk))) (aI (aI (aI @Zyv @Zze) (aI @ZHL @ZDX)) (aI (aI @ZGQ @ZHd) (aI @ZNf @ZES))))) (aI (aI (aI (aI (aI @ZDo @ZKb) (aI @ZNU @ZIj)) (aI (aI @ZAU @ZOJ) (aI @ZLd @ZGu))) (aI (aI (aI @ZEe @ZFv) (aI @Zyk @ZOg)) (aI (aI @ZET @ZFD) (aI @ZNF @ZzI)))) (aI (aI (aI (aI @ZOo @Zy8) (aI @ZO0 @Zy6)) (aI (aI @ZC7 @ZIl) (aI @ZQL @ZCD))) (aI (aI (aI @ZGP @Zzp) (aI @ZC8 @ZBy)) (aI (aI @ZKp @ZzC) (aI @ZD6 @ZJ9))))))
def Zbl:=(aI (aI (aI (aI (aI (aI @ZLs @ZNv) (aI @ZEq @ZAX)) (aI (aI @ZxC @ZIV) (aI @ZQZ @ZD7))) (aI (aI (aI @ZzX @ZFG) (aI @ZPB @ZDL)) (aI (aI @ZLF @ZH1) (aI @ZLg @ZII)))) (aI (aI (aI (aI @ZGs @ZN5) (aI @ZCu @Zyp)) (aI (aI @ZDs @ZDS) (aI @ZLI @ZMS))) (aI (aI (aI @ZQJ @ZGi) (aI @ZO2 @ZJ8)) (aI (aI @ZOc @ZFF) (aI @ZAg @ZPt))))) (aI (aI (aI (aI (aI @ZHw @ZJZ) (aI @ZOV @ZyZ)) (aI (aI @ZFd @ZAI) (aI @ZNw @ZK8))) (aI (aI (aI @ZCJ @ZCL) (aI @ZA2 @ZE8)) (aI (aI @ZxF @ZAn) (aI @ZF3 @ZFm)))) (aI (aI (aI (aI @ZNx @ZDb) (aI @Zyh @ZNl)) (aI (aI @ZzK @ZKn) (aI @ZJt @ZCx))) (aI (aI (aI @ZxN @ZFu) (aI @ZFl @ZKU)) (aI (aI @ZKH @ZEE) (aI @ZAV @Zyd))))))
def Zdb:=(aI (aI (aI (aI (aI (aI @ZL6 @ZHk) (aI @ZLX @ZAJ)) (aI (aI @ZMN @ZC0) (aI @ZGv @Zzk))) (aI (aI (aI @ZLD @ZIM) (aI @ZC6 @ZtY)) (aI (aI @ZQF @ZwU) (aI @ZMc @ZFZ)))) (aI (aI (aI (aI @Zyu @ZxV) (aI @Zsd @ZL9)) (aI (aI @ZED @ZGM) (aI @ZBe @ZKd))) (aI (aI (aI @ZNu @Zxy) (aI @Zx4 @ZFo)) (aI (aI @ZyA @ZK2) (aI @ZxO @ZFi))))) (aI (aI (aI (aI (aI @ZK3 @ZAv) (aI @ZPw @ZP5)) (aI (aI @ZyK @ZOe) (aI @Zuk @ZKh))) (aI (aI (aI @ZDt @Zys) (aI @ZKg @ZJ7)) (aI (aI @ZLY @Zzd) (aI @ZPk @ZvT)))) (aI (aI (aI (aI @ZB3 @ZtB) (aI @ZKe @Zz1)) (aI (aI @ZMR @ZFT) (aI @ZwP @ZEv))) (aI (aI (aI @ZzN @ZK6) (aI @ZKY @ZJj)) (aI (aI @ZCf @ZKV) (aI @ZBV @ZLh))))))
def ZH:=(aI (aI (aI (aI (aI (aI @ZKR @ZBa) (aI @ZCA @ZEj)) (aI (aI @ZNc @ZGc) (aI @ZBC @ZDH))) (aI (aI (aI @ZLq @ZDE) (aI @ZP8 @ZsJ)) (aI (aI @ZBA @ZHe) (aI @ZFg @ZFx)))) (aI (aI (aI (aI @ZHf @ZL5) (aI @ZzA @ZFy)) (aI (aI @ZGg @Zy1) (aI @ZBK @ZMi))) (aI (aI (aI @ZGe @ZG5) (aI @ZC2 @ZJB)) (aI (aI @ZDr @ZEV) (aI @ZE6 @ZOT))))) (aI (aI (aI (aI (aI @Zxz @ZAe) (aI @ZAp @ZAH)) (aI (aI @ZBs @ZFH) (aI @ZGq @ZHl))) (aI (aI (aI @ZC9 @ZB8) (aI @ZQN @ZHq)) (aI (aI @ZQq @ZLO) (aI @ZOW @ZMy)))) (aI (aI (aI (aI @ZB9 @ZCN) (aI @ZE3 @ZAE)) (aI (aI @ZyY @ZB4) (aI @ZKz @ZN3))) (aI (aI (aI @ZEK @ZNk) (aI @ZQe @ZM8)) (aI (aI @ZMK @ZBd) (aI @ZMp @ZLS))))))
def Zvr:=(aI (aI (aI (aI (aI (aI @Zyl @Zx1) (aI @ZG4 @ZQM)) (aI (aI @ZBw @ZF1) (aI @ZN2 @ZBr))) (aI (aI (aI @ZID @ZGy) (aI @ZE7 @ZMC)) (aI (aI @ZMj @ZCH) (aI @ZDR @ZML)))) (aI (aI (aI (aI @ZIN @ZLW) (aI @Zza @ZKI)) (aI (aI @ZPE @ZJs) (aI @ZH0 @ZCo))) (aI (aI (aI @ZO5 @ZJd) (aI @ZLi @ZEW)) (aI (aI @ZNQ @ZN1) (aI @ZIo @ZGw))))) (aI (aI (aI (aI (aI @ZQr @ZJa) (aI @ZEi @ZPe)) (aI (aI @ZN7 @ZGH) (aI @ZDA @ZKN))) (aI (aI (aI @ZN0 @ZKQ) (aI @ZMb @ZLN)) (aI (aI @ZJX @ZCS) (aI @ZGm @ZKW)))) (aI (aI (aI (aI @ZEH @ZDJ) (aI @ZBi @ZzP)) (aI (aI @ZLU @ZIc) (aI @ZEx @ZFq))) (aI (aI (aI @ZyW @ZMk) (aI @ZH2 @ZFW)) (aI (aI @ZDB @ZDe) (aI @ZK7 @ZLv))))))
def Zx:=(aI (aI (aI (aI (aI (aI @ZFr @ZzW) (aI @ZAP @ZOX)) (aI (aI @Zz0 @ZGx) (aI @Zzq @ZEb))) (aI (aI (aI @ZHV @ZEG) (aI @ZKA @ZGj)) (aI (aI @ZJk @ZFN) (aI @ZJP @Zyr)))) (aI (aI (aI (aI @Zz8 @Zyy) (aI @ZCC @ZCl)) (aI (aI @ZLx @Zyq) (aI @ZPf @ZPl))) (aI (aI (aI @ZOr @ZLZ) (aI @ZLj @ZCa)) (aI (aI @ZMQ @ZLm) (aI @ZQH @ZGp))))) (aI (aI (aI (aI (aI @ZPZ @ZHi) (aI @ZCg @ZJ4)) (aI (aI @ZND @ZLT) (aI @ZFY @ZCY))) (aI (aI (aI @ZNP @ZAs) (aI @ZQX @ZNS)) (aI (aI @ZMm @ZFI) (aI @ZJf @ZLV)))) (aI (aI (aI (aI @ZNo @ZLL) (aI @ZLM @ZIE)) (aI (aI @ZCB @Zzo) (aI @ZBI @ZGa))) (aI (aI (aI @ZKm @ZIU) (aI @ZN8 @ZNn)) (aI (aI @ZGR @ZQE) (aI @ZPC @ZDa))))))
def ZN:=(aI (aI (aI (aI (aI @ZHg (aI @ZNj @ZMJ)) (aI (aI @ZCM @Zzv) (aI @ZzG @ZCT))) (aI (aI @ZLo (aI @ZJM @ZM4)) (aI (aI @Zyz @ZxE) (aI @ZC3 @ZF0)))) (aI (aI (aI @ZKE (aI @ZO9 @ZQO)) (aI (aI @Zzu @ZFU) (aI @ZxL @ZL7))) (aI (aI (aI @ZIi @ZME) (aI @ZPn @ZyS)) (aI (aI @ZF4 @ZBu) (aI @ZOB @ZKa))))) (aI (aI (aI (aI @ZNp (aI @ZJb @ZCU)) (aI (aI @ZGX @Zyi) (aI @ZIt @ZBn))) (aI (aI (aI @ZBq @ZzD) (aI @ZIb @ZAZ)) (aI (aI @ZD1 @ZMf) (aI @ZNB @ZxK)))) (aI (aI (aI @ZFR (aI @ZDq @ZMe)) (aI (aI @ZCZ @ZCO) (aI @ZHY @ZAW))) (aI (aI (aI @ZDp @ZAr) (aI @ZNM @ZJg)) (aI (aI @ZJc @Z8) (aI @ZD3 @Zus))))))
def ZbJ:=(aI (aI (aI (aI (aI (aI @List.map_cons.{0,0} @List.map_nil.{0,0}) (aI @List.length_cons.{0} @List.length_nil.{0})) (aI (aI @List.replicate_zero.{0} @List.replicate_succ.{0}) (aI @List.append_nil.{0} @List.nil_append.{0}))) (aI (aI (aI @List.cons_append.{0} @List.getElem?_cons_zero.{0}) (aI @List.getElem?_cons_succ.{0} @List.set_cons_zero.{0})) (aI (aI @List.set_cons_succ.{0} @Nat.add_zero) (aI @Nat.zero_add @Bool.true_or)))) (aI (aI (aI (aI @Bool.false_or @Bool.or_true) (aI @Bool.or_false @Bool.and_true)) (aI (aI @Bool.true_and @Bool.and_self) (aI @Bool.and_false @Bool.false_and))) (aI (aI (aI @if_true.{1} @if_false.{1}) (aI @ite_true.{1} @ite_false.{1})) (aI (aI @Option.map_some.{0,0} @Option.map_none.{0,0}) (aI @and_self @and_true))))) (aI (aI (aI (aI (aI @true_and @and_false) (aI @false_and @true_or)) (aI (aI @or_true @false_or) (aI @or_false @not_true_eq_false))) (aI (aI (aI @not_false_eq_true @List.drop_zero.{0}) (aI @List.drop_succ_cons.{0} @List.take_succ_cons.{0})) (aI (aI @List.take_zero.{0} @List.all_cons.{0}) (aI @List.all_nil.{0} @List.isEmpty_nil.{0})))) (aI (aI (aI (aI @Bool.not_false @Bool.not_true) (aI @List.length_map.{0,0} @Bool.bne_false)) (aI (aI @Bool.bne_true @List.isEmpty_cons.{0}) (aI @List.getD_cons_zero.{0} @List.getD_cons_succ.{0}))) (aI (aI (aI @List.getD_nil.{0} @List.contains_nil.{0}) (aI @List.range_zero @List.flatMap_cons.{0,0})) (aI (aI @List.flatMap_nil.{0,0} @List.zip_cons_cons.{0,0}) (aI @List.zip_nil_left.{0,0} @List.zip_nil_right.{0,0}))))))
def ZaI:=@Nat.not_lt_zero
def EQA := (aI (aI (aI (aI (aI (aI (aI ZtL Zzy) (aI Zvr ZbJ)) (aI (aI @exI.eq_1 @nsite.eq_1) (aI @nsite.eq_2 @nsite.eq_3))) (aI (aI (aI @nsite.eq_4 @nsite.eq_5) (aI @nsite.eq_6 @nsite.eq_7)) (aI (aI @nsite.eq_8 @nsite.eq_9) (aI @nsite.eq_10 @nsite.eq_11)))) (aI (aI (aI (aI @freeAt.eq_1 @execI.eq_1) (aI @execI.eq_2 @execI.eq_3)) (aI (aI @execI.eq_4 @execI.eq_5) (aI @execI.eq_6 @execI.eq_7))) (aI (aI (aI @execI.eq_8 @execI.eq_9) (aI @execI.eq_10 @execI.eq_11)) (aI (aI @execI.eq_12 @execI.eq_13) (aI @execI.eq_14 (aI @execI.eq_15 @execI.eq_16)))))) (aI (aI (aI (aI (aI @execI.eq_17 @execI.eq_18) (aI @execI.eq_19 @execI.eq_20)) (aI (aI @execI.eq_21 @execI.eq_22) (aI @execI.eq_23 @execI.eq_24))) (aI (aI (aI @execI.eq_25 @execI.eq_26) (aI @execI.eq_27 @execI.eq_28)) (aI (aI @execI.eq_29 @execI.eq_30) (aI @execI.eq_31 (aI @execI.eq_32 @execI.eq_33))))) (aI (aI (aI (aI @execI.eq_34 @execI.eq_35) (aI @execI.eq_36 @execI.eq_37)) (aI (aI @execI.eq_38 @execI.eq_39) (aI @execI.eq_40 @execI.eq_41))) (aI (aI (aI @execI.eq_42 @execI.eq_43) (aI @execI.eq_44 @execI.eq_45)) (aI (aI @execI.eq_46 @execI.eq_47) (aI @execI.eq_48 (aI @execI.eq_49 @Opd.ev.eq_1))))))) (aI (aI (aI (aI (aI (aI @Opd.ev.eq_2 @tget.eq_1) (aI @tget.eq_2 @tins.eq_1)) (aI (aI @tins.eq_2 @tput.eq_1) (aI @tput.eq_2 @keepL.eq_1))) (aI (aI (aI @sitesOf.eq_1 @resA.eq_1) (aI @resAll.eq_1 @resAll.eq_2)) (aI (aI @resOne.eq_1 @resOne.eq_2) (aI @enterA.eq_1 (aI @enterA.eq_2 @partA.eq_1))))) (aI (aI (aI (aI @partA.eq_2 @faddrA.eq_1) (aI @faddrA.eq_2 @faddrA.eq_3)) (aI (aI @faddrA.eq_4 @setAt.eq_1) (aI @binA.eq_1 @binA.eq_2))) (aI (aI (aI @binA.eq_3 @binA.eq_4) (aI @binA.eq_5 @arithA.eq_1)) (aI (aI @arithA.eq_2 @arithA.eq_3) (aI @arithA.eq_4 (aI @arithA.eq_5 @arithA.eq_6)))))) (aI (aI (aI (aI (aI @arithA.eq_7 @arithA.eq_8) (aI @arithA.eq_9 @arithA.eq_10)) (aI (aI @arithA.eq_11 @arithA.eq_12) (aI @arithA.eq_13 @arithA.eq_14))) (aI (aI (aI @arithA.eq_15 @arithA.eq_16) (aI @ldA.eq_1 @ldA.eq_2)) (aI (aI @ldA.eq_3 @ldA.eq_4) (aI @stA.eq_1 (aI @stA.eq_2 @stA.eq_3))))) (aI (aI (aI (aI @oI.eq_1 @oN.eq_1) (aI @oM.eq_1 @oF.eq_1)) (aI (aI @oL.eq_1 @List.sum_cons.{0}) (aI @List.sum_nil.{0} @eq_self.{1}))) (aI (aI (aI @beq_self_eq_true.{0} @Bool.false_eq_true) (aI @Option.some.injEq.{0} @decide_true)) (aI (aI @decide_false @List.foldl_cons.{0, 0}) (aI @List.foldl_nil.{0, 0} (aI @List.contains_cons.{0} @ne_eq.{1}))))))))
end
section
theorem ZOu {O:ZX} {bf:Nat->Bool} {σ:Za} {sq f own:Nat} {view:Bool} {args:List AVal} (h:args.all Z5=true) (hm:args.map ZK=args) :
  Zk O bf σ sq f own view args=ZaH σ σ [] [] sq own (Z2 view 0 (O f args [])):=by
 cases hb:bf f
 ·rw [Zfj hb h,hm]
 ·have hr:=Zdz h
  have hn:=fun ρ=>ZdD (ρ:=ρ) h
  rw [hm] at hr
  simp only [hm] at hn
  unfold Zk ZbW
  rw [hb]
  simp only [if_true]
  have h1:Zp σ []=σ:=rfl
  rw [h1,hr]
  have h2:Zt σ 1000 [] []=[]:=rfl
  rw [h2]
  unfold ZbM
  simp only [Wr,if_true,hn,Zq,XJ]
theorem Zpg {O:ZX} {bf:Nat->Bool} {f:Nat} {args:List AVal} {k n:Nat} {xs:List AVal} (h:O f args []=some (.sl 0 0 0 n,[.row 0 k xs])) (hn:xs.length=n) (hp:args.all Z5=true) (hm:args.map ZK=args) (σ:Za) (sq own:Nat):Zk O bf σ sq f own true args=some (.lst false xs,σ,{}):=by
 rw [ZOu hp hm,h]
 have : Z2 true 0 (some (.sl 0 0 0 n,[.row 0 k xs]))=some (.lst false xs,[]):=by
  unfold Z2
  rw [if_pos rfl,ZIf (k:=k) (g:=0) (t:=0) (xs:=xs) rfl (by omega),XK (by omega)]
 rw [this,Zjb _ _ _ _ rfl]
theorem ZtI {O:ZX} {bf:Nat->Bool} {σ:Za} {f:Nat} {args vs:List AVal} {ts:List Nat} {r r':AVal} (hb:bf f=false) (hsh:showAs σ args=some (vs,ts)) (hp:vs.all Z5=true) (hm:vs.map ZK=vs) (h:O f vs []=some (r,[])) (hv:Zbw 0 (some (r,[]))=some (r',[])) (sq own:Nat) :
  Zk O bf σ sq f own true args=if ZbL r' then some (r',σ,{ rd:=ts }) else if Zdg σ ts r' then some (r',σ,{ rd:=ts }) else some (Zr (ZaC [] [] sq) r',Zp σ ts,{ rd:=ts,wr:=ts }):=by
 have hr:=Zdz hp
 have hn:=fun ρ=>ZdD (ρ:=ρ) hp
 rw [hm] at hr
 simp only [hm] at hn
 unfold Zk ZbW
 rw [hb]
 simp only [Xi,if_false,hsh]
 rw [hr]
 have h2:∀ σ,Zt σ 1000 [] []=[]:=fun _=>rfl
 rw [h2]
 unfold ZbM
 simp only [Wr,if_true,hn,Zq,XJ,h]
 have : Z2 true 0 (some (r,[]))=some (r',[]):=by unfold Z2;rw [if_pos rfl,hv]
 rw [this]
 simp only [ZaH,W5,Wg,if_true]
theorem ZOS {O:ZX} {bf:Nat->Bool} {σ:Za} {f:Nat} {args vs:List AVal} {ts:List Nat} {r r':AVal} (hb:bf f=false) (hsh:showAs σ args=some (vs,ts)) (hp:vs.all Z5=true) (hm:vs.map ZK=vs) (h:O f vs []=some (r,[])) (hv:Zbw 0 (some (r,[]))=some (r',[])) (hf:ZbL r'=true) (sq own:Nat) :
  Zk O bf σ sq f own true args=some (r',σ,{ rd:=ts }):=by
 rw [ZtI hb hsh hp hm h hv,if_pos hf]
theorem ZzU {O:ZX} {bf:Nat->Bool} {σ:Za} {f:Nat} {args vs:List AVal} {ts:List Nat} {r r':AVal} (hb:bf f=false) (hsh:showAs σ args=some (vs,ts)) (hp:vs.all Z5=true) (hm:vs.map ZK=vs) (h:O f vs []=some (r,[])) (hv:Zbw 0 (some (r,[]))=some (r',[])) (hap:Zdg σ ts r'=true) (sq own:Nat) :
  Zk O bf σ sq f own true args=some (r',σ,{ rd:=ts }):=by
 rw [ZtI hb hsh hp hm h hv,if_pos hap]
 split <;> rfl
theorem ZbI {O:ZX} {bf:Nat->Bool} {f:Nat} {args args':List AVal} {r r':AVal} (h:O f args' []=some (r,[])) (hb:bf f=false) (hp:args.all Z5=true) (hn:args.map ZK=args') (hv:Zbw 0 (some (r,[]))=some (r',[])) (hr:∀ sq,Zr (ZaC [] [] sq) r'=r') (σ:Za) (sq own:Nat):Zk O bf σ sq f own true args=some (r',σ,{}):=by
 rw [Zfj hb hp,hn,h]
 have : Z2 true 0 (some (r,[]))=some (r',[]):=by
  unfold Z2
  rw [if_pos rfl];exact hv
 rw [this,Zjb _ _ _ _ (hr sq)]
theorem ZGF (k n:Nat) (xs:List AVal) (σ:Za):Zak 0 (.row 0 k xs::σ) (.sl 0 0 0 n)=some (.sl 0 0 0 n,[.row 0 k xs]):=by
 simp [Zak,gcA,Zy,Zt,Zw,Z9,Zi,Zq,ZO,Zl,ZF,Zg,Zr,Zz,ZC]
def ZeM:List AVal->AVal
 | []=>.lst true []
 | x::xs=>.sl 0 0 0 (x::xs).length
def Ze1 (k:Nat):List AVal->Za
 | []=>[]
 | x::xs=>[.row 0 k (x::xs)]
theorem Zf3:ZeM []=.lst true []:=rfl
theorem ZiK (x:AVal) (xs:List AVal):ZeM (x::xs)=.sl 0 0 0 (x::xs).length:=rfl
theorem ZgH (k:Nat):Ze1 k []=[]:=rfl
theorem ZiT (k:Nat) (x:AVal) (xs:List AVal):Ze1 k (x::xs)=[.row 0 k (x::xs)]:=rfl
theorem ZcE (l:Zc):kOk 1 (l.map Zb)=true:=by cases l <;> rfl
end
section
theorem Zy5 (n:Nat):IntKind.u8.wrap (n:Int)=((Wf (n % 256)).toNat:Int):=by
 rw [IntKind.wrap_u8,WH]
 omega
theorem ZGL (k n:Nat) (xs:List AVal) (σ:Za):Zak 0 (.row 0 k xs::σ) (.sl 0 0 0 n)=some (.sl 0 0 0 n,[.row 0 k xs]):=by
 simp [Zak,gcA,Zy,Zt,Zw,Z9,Zi,Zq,ZO,Zl,ZF,Zg,Zr,Zz,ZC]
theorem ZP3 (m:Nat) (z:AVal) (t:List AVal):(XE (m+1) z++t)[m]?=some z:=by
 rw [Wh (by simp)];simp
theorem ZDT (m:Nat) (z v:AVal) (t:List AVal):(XE (m+1) z++t).set m v=XE m z++v::t:=by
 rw [List.replicate_succ',List.append_assoc,List.set_append_right _ _ (by simp)];simp
theorem ZsW (W:Nat) (hW:W<=8):∀ (m n:Nat) (tail:Zc),m+tail.length=W->ZlW 0 [(6,.int .i64 ((m:Int) - 1)),(5,.sl 0 0 0 W),(0,.int .u64 (n:Nat))] [.row 0 1 (XE m (.int .u8 0)++tail.map Zb)]=some (.sl 0 0 0 W,[.row 0 1 ((beB n m++tail).map Zb)])
 | 0,n,tail,h=>by
  have h1:¬(((0:Nat):Int) - 1>=0):=by omega
  unfold ZlW
  rw [ZL,beB]
  simp -implicitDefEqProofs only [EQA,Xc,Xa,reduceCtorEq,↓reduceIte,ZAA,ZP9,Zo0,Zse,Zl2,h1,ZGL]
 | m+1,n,tail,h=>by
  have ih:=ZsW W hW m (n / 256) (Wf (n % 256)::tail) (by simp;omega)
  have e0:((m+1:Nat):Int) - 1=(m:Int):=by omega
  have h1:(m:Int)>=0:=by omega
  have h2:(0:Int)<=(m:Int):=by omega
  have h3:m < W:=by omega
  have hg:=ZP3 m (.int .u8 0) (tail.map Zb)
  have hs:=ZDT m (.int .u8 0) (Zb (Wf (n % 256))) (tail.map Zb)
  have hb:=Zy5 n
  have hw:IntKind.i64.wrap ((m:Int) - 1)=(m:Int) - 1:=ZaV (by omega) (by omega)
  have hd:(n:Int).fdiv (2 ^ min (WV 8) IntKind.u64.bits)=((n / 256:Nat):Int):=by
   rw [show (2:Int) ^ min (WV 8) IntKind.u64.bits=256 from rfl,Int.fdiv_eq_ediv_of_nonneg _ (by decide)]
   omega
  have e1:beB n (m+1)++tail=beB (n / 256) m++(Wf (n % 256)::tail):=by simp [beB]
  rw [e0,e1]
  have e2:XE m (AVal.int .u8 0)++(Wf (n % 256)::tail).map Zb=XE m (.int .u8 0)++Zb (Wf (n % 256))::tail.map Zb:=rfl
  rw [e2] at ih
  generalize hX:XE (m+1) (AVal.int .u8 0)++tail.map Zb=X at *
  generalize hY:XE m (AVal.int .u8 0)++Zb (Wf (n % 256))::tail.map Zb=Y at *
  unfold Zb at hs
  unfold ZlW at ih ⊢
  rw [ZL]
  simp -implicitDefEqProofs only [EQA,ZN,ZaI,Xc,Xa,ZaN,reduceCtorEq,↓reduceIte,gcT,gcA,Zy,Zt,Zi,Zq,ZO,Zl,ZF,Zz,ZC,Zse,Zl2,h1,h3,hg,hs,hb,hw,hd,Zcn,WZ,AVal.cells,ZaL,ZP,Zi3,Zp,X1]
  exact ih
theorem ZBR (n W:Nat) (h1:1<=W) (hW:W<=8):E 61 [.int .u64 (n:Nat),.int .i64 (W:Nat)] []=some (.sl 0 0 0 W,[.row 0 1 ((beB n W).map Zb)]):=by
 have key:=ZsW W hW W n [] (by simp)
 have c1:¬((W:Int) < 1):=by omega
 have c2:¬((W:Int) > 8):=by omega
 have c3:(0:Int)<=(W:Int):=by omega
 have c4:(W:Int)<=9223372036854775807:=by omega
 have c5:((1:Nat):Int)*(W:Int)<=140737488355328:=by omega
 have w1:IntKind.i64.wrap ((W:Int) - 1)=(W:Int) - 1:=ZaV (by omega) (by omega)
 simp only [XA,Xm] at key
 rw [Zj (by rfl) ZNY]
 unfold ZlW at key
 simp -implicitDefEqProofs only [EQA,ZH,ZN,ZaI,Xc,Xa,Xg,ZA,unG,reduceCtorEq,↓reduceIte,gcT,gcA,Zy,Zt,Zi,Zq,ZO,Zl,ZF,Zz,ZC,ZGN,ZrH,c1,c2,c3,c4,c5,w1,Int.le_refl,WZ]
 exact key
theorem ZkM (σ:Za) (sq own:Nat) (n W:Nat) (h1:1<=W) (hW:W<=8):Zk E BY σ sq 61 own true [.int .u64 (n:Nat),.int .i64 (W:Nat)]=some (.lst false ((beB n W).map Zb),σ,{}) :=
 Zpg (bf:=BY) (ZBR n W h1 hW) (by simp [Zbt]) rfl rfl σ sq own
theorem ZBZ (x c:Nat) (hc:c < 256):IntKind.u64.wrap (((XR IntKind.u64.bits (IntKind.u64.wrap ((x:Int)*2 ^ min (WV 8) IntKind.u64.bits)) ||| XR IntKind.u64.bits (c:Int)).toNat:Nat):Int)=(((x*256+c) % 18446744073709551616:Nat):Int):=by
 rw [show (2:Int) ^ min (WV 8) IntKind.u64.bits=256 from rfl]
 have hb:IntKind.u64.bits=64:=rfl
 rw [hb,IntKind.wrap_u64,IntKind.wrap_u64]
 have e1:(x:Int)*256 % 18446744073709551616=((x*256 % 18446744073709551616:Nat):Int):=by omega
 rw [e1,BitVec.toNat_or]
 simp only [BitVec.ofInt_natCast,BitVec.toNat_ofNat]
 have e2:x*256 % 18446744073709551616 % 2 ^ 64=(x % 72057594037927936) <<< 8:=by
  rw [Xa1];omega
 have e3:c % 2 ^ 64=c:=by omega
 rw [e2,e3,<-Nat.shiftLeft_add_eq_or_of_lt (by omega:c < 2 ^ 8),Xa1]
 omega
theorem Zvk (b:Zc) (hl:b.length<=9223372036854775807):∀ (r:Zc) (i x:Nat),b.drop i=r->ZkO 0 [(8,.int .i64 i),(7,.int .i64 b.length),(6,.lst false (b.map Zb)),(3,.int .u64 (x:Nat))] []=some (.int .u64 (Zki x r:Nat),[])
 | [],i,x,h=>by
  have h1:=Zdy h
  unfold ZkO
  rw [ZL,ZfC]
  simp -implicitDefEqProofs only [EQA,Xc,Xa,↓reduceIte,Zx9,ZJl,Zoj,Zwj,ZkX,h1]
 | c::r,i,x,h=>by
  have ih:=Zvk b hl r (i+1) ((x*256+c.toNat) % 18446744073709551616) (Zah h).2.1
  have h1:(i:Int) < b.length:=by have:=(Zah h).2.2;omega
  have e1:=iad (Zah h).1 Zb (k:=1) rfl
  have e3:=ZcI h1 hl
  have ho:=ZBZ x c.toNat c.toNat_lt
  have hc:IntKind.u64.wrap (c.toNat:Int)=(c.toNat:Int):=by rw [IntKind.wrap_u64];have:=c.toNat_lt;omega
  unfold ZkO at ih ⊢
  rw [ZL,Zdi]
  simp -implicitDefEqProofs only [EQA,ZN,Xc,Xa,ZaN,↓reduceIte,gcT,gcA,Zy,Zt,Zq,ZC,Zwj,ZkX,h1,e1,e3,ho,hc,Zb,AVal.cells,X1]
  exact ih
theorem ZC4 (b:Zc) (hl:b.length<=9223372036854775807):E 55 [ZW b] []=some (.int .u64 (Zc0 b:Nat),[]):=by
 have key:=Zvk b hl b 0 0 rfl
 have z0:((0:Nat):Int)=0:=rfl
 rw [z0] at key
 unfold ZkO at key
 unfold Zc0
 rw [Zj (by rfl) ZLu]
 simp -implicitDefEqProofs only [EQA,ZN,Xc,Xa,reduceCtorEq,↓reduceIte,gcT,gcA,Zy,Zt,Zq,ZC,ZDK,ZnL,ZW]
 exact key
theorem ZlC (σ:Za) (sq own:Nat) (b:Zc) (hl:b.length<=9223372036854775807) (f:Bool):Zk E BY σ sq 55 own true [.lst f (b.map Zb)]=some (.int .u64 (Zc0 b:Nat),σ,{}) :=
 ZbI (ZC4 b hl) (by kernel_rfl) rfl rfl rfl (fun _=>rfl) _ _ _
end
section
theorem Zvb (ls:List Zc) (hl:ls.length<=9223372036854775807):∀ (r:List Zc) (i:Nat) (acc full:Zc),ls.drop i=r->full=acc++r.flatten->full.length<=140737488355328 ->
  ZkV 0 [(8,.int .i64 i),(7,.int .i64 ls.length),(6,.lst false (ls.map ZW)),(3,.sl 0 0 0 acc.length)] [.row 0 1 (acc.map Zb)]=some (.sl 0 0 0 full.length,[.row 0 1 (full.map Zb)])
 | [],i,acc,full,h,hf,hn=>by
  have h1:=Zdy h
  have e:full=acc:=by simpa using hf
  subst e
  unfold ZkV
  rw [ZL]
  simp -implicitDefEqProofs only [EQA,Xc,Xa,↓reduceIte,ZKL,ZMr,Zpm,Zod,Zjs,h1,ZGF]
 | p::r,i,acc,full,h,hf,hn=>by
  have ih:=Zvb ls hl r (i+1) (acc++p) full (Zah h).2.1 (by rw [hf];simp) hn
  have h1:(i:Int) < ls.length:=by have:=(Zah h).2.2;omega
  have e1:=iad (Zah h).1 ZW (k:=1) rfl
  have e3:=ZcI h1 hl
  have k1:=ZcE p
  have k2:(acc.length+p.length)*1<=140737488355328:=by have:=congrArg Xae hf;simp at this;omega
  have e4:(acc++p).map Zb=acc.map Zb++p.map Zb:=by simp
  have e5:(acc++p).length=acc.length+p.length:=by simp
  rw [e4,e5] at ih
  clear hf
  unfold ZkV at ih ⊢
  rw [ZL]
  unfold ZW at e1 ih ⊢
  simp -implicitDefEqProofs only [EQA,ZN,ZaI,Xe,Xc,Xa,Xg,reduceCtorEq,ZM,↓reduceIte,gcT,gcA,Zy,Zt,Zi,Zq,ZO,Zl,ZF,Zz,ZC,Zod,Zjs,h1,e1,e3,k1,k2,Z3,AVal.cells]
  exact ih
theorem ZvM (p:Zc) (ls:List Zc) (hl:(p::ls).length<=9223372036854775807) (hn:(p::ls).flatten.length<=140737488355328):E 15 [.lst false ((p::ls).map ZW)] []=some (.sl 0 0 0 (p::ls).flatten.length,[.row 0 1 ((p::ls).flatten.map Zb)]):=by
 have key:=Zvb (p::ls) hl ls 1 p (p::ls).flatten rfl rfl hn
 have k1:=ZcE p
 have k2:p.length*1<=140737488355328:=by simp at hn;omega
 have h1:(0:Int) < ((p::ls).length:Int):=by simp
 have hat:(p::ls)[0]?=some p:=rfl
 have e1:=iad hat ZW (k:=1) rfl
 have z0:((0:Nat):Int)=0:=rfl
 have z1:((1:Nat):Int)=1:=rfl
 have w1:IntKind.i64.wrap (0+1)=1:=rfl
 rw [z0] at e1
 rw [z1] at key
 unfold ZkV at key
 generalize hL:p::ls=L at *
 rw [Zj (by rfl) ZP1]
 unfold ZW at e1 key ⊢
 simp -implicitDefEqProofs only [EQA,ZN,Xc,Xa,reduceCtorEq,↓reduceIte,gcT,gcA,Zy,Zt,Zq,ZC,Zzl,Zpo]
 rw [ZL]
 simp -implicitDefEqProofs only [EQA,ZN,ZaI,Xc,Xa,Xg,ZM,↓reduceIte,gcT,gcA,Zy,Zt,Zi,Zq,ZO,Zl,ZF,Zz,ZC,Zod,Zjs,h1,e1,w1,k1,k2,Z3,AVal.cells]
 exact key
theorem Zhl (σ:Za) (sq own:Nat) (f:Bool) (p:Zc) (ls:List Zc) (hl:(p::ls).length<=9223372036854775807) (hn:(p::ls).flatten.length<=140737488355328):Zk E BY σ sq 15 own true [.lst f ((p::ls).map ZW)]=some (.lst false ((p::ls).flatten.map Zb),σ,{}):=by
 have h:=Zpg (bf:=BY) (ZvM p ls hl hn) (by rw [XW]) rfl rfl σ sq own
 cases f
 ·exact h
 ·rw [Zfj (by kernel_rfl) rfl] at h ⊢
  exact h
theorem ZQA:∀ n:Fin 256,IntKind.u8.wrap (((XR IntKind.u8.bits ((n.val:Nat):Int) ||| XR IntKind.u8.bits 128).toNat:Nat):Int)=((n.val % 128+128:Nat):Int):=by decide +kernel
theorem ZGS (n:Nat):IntKind.u8.wrap (((XR IntKind.u8.bits (IntKind.u8.wrap (n:Int)) ||| XR IntKind.u8.bits 128).toNat:Nat):Int)=((Wf (n % 128+128)).toNat:Int):=by
 have h:=ZQA ⟨n % 256,XaW _ (by decide)⟩
 have e:IntKind.u8.wrap (n:Int)=((n % 256:Nat):Int):=by rw [IntKind.wrap_u8];omega
 rw [e,h,WH]
 simp only
 omega
theorem Zvm:∀ (k n:Nat) (acc full:Zc),n < 128 ^ (k+1)->acc.length+k<=3->full=acc++Zci k n ->
  Zlc 0 [(4,ZeM (acc.map Zb)),(0,.int .i64 (n:Nat))] (Ze1 1 (acc.map Zb))=some (.tup [.sl 0 0 0 full.length,.int .i64 0],[.row 0 1 (full.map Zb)])
 | k,n,acc,full,hk,hacc,hf=>by
  by_cases hn:n < 128
  ·have h1:¬((n:Int) > 127):=by omega
   have hv:Zci k n=[Wf n]:=by cases k <;> simp [Zci,hn]
   rw [hv] at hf
   have hb:IntKind.u8.wrap (n:Int)=((Wf n).toNat:Int):=by rw [IntKind.wrap_u8,WH];omega
   subst hf
   unfold Zlc
   rw [ZL]
   cases acc with
   | nil =>
    simp -implicitDefEqProofs only [EQA,Xc,Xf,Xa,Xg,reduceCtorEq,ZM,↓reduceIte,Znk,Zv6,Zlb,ZlA,Zix,h1,hb,Zf3,ZgH,Z3,kOk,viewAs,ZU,ZP,Zp,WI,AVal.cells]
    simp [Zak,gcA,Zy,Zt,Zw,Z9,Zi,Zq,ZO,Zl,ZF,Zg,Zr,Zz,ZC]
    rfl
   | cons a acc =>
    have hz:(acc.length+1+1)*1<=140737488355328:=by simp at hacc;omega
    simp -implicitDefEqProofs only [EQA,Xe,Xc,Xa,Xg,reduceCtorEq,ZM,↓reduceIte,Znk,Zv6,Zlb,ZlA,Zix,h1,hb,ZiK,ZiT,Z3,kOk,viewAs,ZU,ZP,Zp,AVal.cells,hz]
    simp [Zak,gcA,Zy,Zt,Zw,Z9,Zi,Zq,ZO,Zl,ZF,Zg,Zr,Zz,ZC]
    rfl
  ·cases k with
   | zero=>simp at hk;omega
   | succ k =>
    have hlt:n / 128 < 128 ^ (k+1):=by
     rw [Nat.div_lt_iff_lt_mul (by decide)]
     rw [XaT] at hk;exact hk
    have hv:Zci (k+1) n=Wf (n % 128+128)::Zci k (n / 128):=by simp [Zci,hn]
    have ih:=Zvm k (n / 128) (acc++[Wf (n % 128+128)]) full hlt (by simp;omega) (by rw [hf,hv];simp)
    clear hf
    have h1:((n:Int) > 127):=by omega
    have ho:=ZGS n
    have hd:(n:Int).fdiv (2 ^ min (WV 7) IntKind.i64.bits)=((n / 128:Nat):Int):=by
     rw [show (2:Int) ^ min (WV 7) IntKind.i64.bits=128 from rfl,Int.fdiv_eq_ediv_of_nonneg _ (by decide)]
     omega
    unfold Zlc at ih ⊢
    rw [ZL]
    cases acc with
    | nil =>
     simp -implicitDefEqProofs only [EQA,ZN,ZaI,Xc,Xf,Xa,Xg,ZaN,reduceCtorEq,ZM,↓reduceIte,gcT,gcA,Zy,Zt,Zi,Zq,ZO,Zl,ZF,Zz,ZC,ZlA,Zix,h1,ho,hd,Zf3,ZgH,Z3,kOk,viewAs,ZU,ZP,Zp,WI,AVal.cells,X1]
     simp only [Xo,XA,Xw,ZiK,ZiT,XF,XJ,XG,Zb] at ih
     exact ih
    | cons a acc =>
     have hz:(acc.length+1+1)*1<=140737488355328:=by simp at hacc;omega
     simp -implicitDefEqProofs only [EQA,ZN,ZaI,Xe,Xc,Xa,Xg,ZaN,reduceCtorEq,ZM,↓reduceIte,gcT,gcA,Zy,Zt,Zi,Zq,ZO,Zl,ZF,Zz,ZC,ZlA,Zix,h1,ho,hd,ZiK,ZiT,Z3,kOk,viewAs,ZU,ZP,Zp,AVal.cells,hz,X1]
     simp only [List.map_append,Xo,XA,XU,ZiK,ZiT,List.length_append,XF,XW,XJ,XG,WC,Xe,Zb] at ih
     exact ih
theorem Zy7 (n:Int):E 14 [.int .i64 n] []=some (if n < 0\/n > 268435455 then (.tup [.lst true [],.int .i64 10],[]) else (.tup [.sl 0 0 0 (Zci 3 n.toNat).length,.int .i64 0],[.row 0 1 ((Zci 3 n.toNat).map Zb)])):=by
 rw [Zj (by rfl) ZyM]
 by_cases h0:n < 0
 ·have : n < 0\/n > 268435455:=Xr h0
  simp -implicitDefEqProofs only [EQA,Zx,Xc,Xa,ZA,Zal,reduceCtorEq,↓reduceIte,Zd,Zq8,Zi4,Znk,h0]
 ·by_cases h2:n > 268435455
  ·have : n < 0\/n > 268435455:=Xv h2
   simp -implicitDefEqProofs only [EQA,Zx,Xc,Xa,ZA,unG,reduceCtorEq,↓reduceIte,Zd,Zq8,Zi4,Znk,h0,h2]
  ·have : ¬(n < 0\/n > 268435455):=by omega
   have key:=Zvm 3 n.toNat [] (Zci 3 n.toNat) (by omega) (by simp) rfl
   have e:((n.toNat:Nat):Int)=n:=by omega
   rw [e] at key
   simp only [XA,Zf3,ZgH] at key
   unfold Zlc at key
   generalize Zci 3 n.toNat=V at *
   simp -implicitDefEqProofs only [EQA,ZN,Xc,Xa,ZA,unG,reduceCtorEq,↓reduceIte,gcT,gcA,Zy,Zt,Zq,ZC,Zq8,Zi4,h0,h2]
   exact key
def ZeO (n:Int):AVal:=.tup [.lst false ((Zas n).1.map Zb),.int .i64 (Zas n).2]
theorem ZAa {O:ZX} {bf:Nat->Bool} {f:Nat} {args args':List AVal} {k n:Nat} {xs:List AVal} {c:Int} (h:O f args' []=some (.tup [.sl 0 0 0 n,.int .i64 c],[.row 0 k xs])) (hl:xs.length=n) (hb:bf f=false) (hp:args.all Z5=true) (hn:args.map ZK=args') (σ:Za) (sq own:Nat):Zk O bf σ sq f own true args=some (.tup [.lst false xs,.int .i64 c],σ,{}):=by
 subst hl
 rw [Zfj hb hp,hn,h]
 simp [Z2,Zbw,viewR,viewAs,ZU,ZP,ZM,Zp,gcA,Zy,Zt,Zw,Z9,Zg,Zr,Zq,ZaH,ZbL,Zbz,Zbb]
theorem ZgB (σ:Za) (sq own:Nat) (n:Int):Zk E BY σ sq 14 own true [.int .i64 n]=some (ZeO n,σ,{}):=by
 have h:=Zy7 n
 unfold ZeO Zas
 by_cases hc:n < 0\/n > 268435455
 ·rw [if_pos hc] at h ⊢
  exact ZbI h (by kernel_rfl) rfl rfl rfl (fun _=>rfl) _ _ _
 ·rw [if_neg hc] at h ⊢
  exact ZAa h (by rw [XW]) (by kernel_rfl) rfl rfl _ _ _
end
section
def gvT (x:Nat×Nat×Int):AVal:=.tup [.int .i64 (x.1:Nat),.int .i64 (x.2.1:Nat),.int .i64 x.2.2]
theorem ZI8:∀ n:Fin 256,IntKind.u8.wrap (((XR IntKind.u8.bits ((n.val:Nat):Int) &&& XR IntKind.u8.bits 127).toNat:Nat):Int)=((n.val % 128:Nat):Int):=by decide +kernel
theorem ZOY (c:UInt8):IntKind.u8.wrap (((XR IntKind.u8.bits (c.toNat:Int) &&& XR IntKind.u8.bits 127).toNat:Nat):Int)=((c.toNat % 128:Nat):Int):=ZI8 ⟨c.toNat,c.toNat_lt⟩
theorem ZpK (i:Nat):128 ^ i=2 ^ (7*i):=by rw [Nat.pow_mul]
theorem ZDC (n a i:Nat) (hi:i<=3) (hn:n < 128 ^ i) (ha:a < 128):IntKind.i64.wrap (((XR IntKind.i64.bits (n:Int) ||| XR IntKind.i64.bits ((a*128 ^ i:Nat):Int)).toNat:Nat):Int)=((n+a*128 ^ i:Nat):Int):=by
 have hb:IntKind.i64.bits=64:=rfl
 have hp:128 ^ i<=128 ^ 3:=Xaq (by decide) hi
 have hm:a*128 ^ i<=127*128 ^ 3:=Nat.mul_le_mul (by omega) hp
 rw [hb,BitVec.toNat_or]
 simp only [BitVec.ofInt_natCast,BitVec.toNat_ofNat]
 have e1:n % 2 ^ 64=n:=XaZ (by omega)
 have e2:a*128 ^ i % 2 ^ 64=a*128 ^ i:=XaZ (by omega)
 rw [e1,e2]
 have e3:a*128 ^ i=a <<< (7*i):=by rw [Xa1,ZpK]
 have e4:n ||| a*128 ^ i=n+a*128 ^ i:=by
  rw [e3,Nat.or_comm,<-Nat.shiftLeft_add_eq_or_of_lt (by rw [<-ZpK];exact hn)]
  omega
 rw [e4,ZaV (by omega) (by omega)]
theorem ZzM (a i:Nat) (hi:i<=3) (ha:a < 128):IntKind.i64.wrap ((a:Int)*2 ^ min (WV ((7*i:Nat):Int)) IntKind.i64.bits)=((a*128 ^ i:Nat):Int):=by
 have hp:128 ^ i<=128 ^ 3:=Xaq (by decide) hi
 have hm:a*128 ^ i<=127*128 ^ 3:=Nat.mul_le_mul (by omega) hp
 have e:min (WV ((7*i:Nat):Int)) IntKind.i64.bits=7*i:=by
  have hb:IntKind.i64.bits=64:=rfl
  rw [hb];omega
 have e2:((a:Int)*2 ^ (7*i))=((a*128 ^ i:Nat):Int):=by rw [ZpK];simp
 rw [e,e2,ZaV (by omega) (by omega)]
theorem Zr6 (n i a:Nat) (hn:n < 128 ^ i) (ha:a < 128):n+a*128 ^ i < 128 ^ (i+1):=by
 have : a*128 ^ i<=127*128 ^ i:=X3 _ (by omega)
 rw [XaT];omega
theorem Zw1 (b:Zc) (hl:b.length<=9223372036854775807):∀ (r:Zc) (i n:Nat),i<=4->i<=b.length->n < 128 ^ i->b.drop i=r ->
  ZhZ 0 [(9,.int .i64 i),(8,.int .i64 b.length),(7,.lst false (b.map Zb)),(2,.int .i64 n),(0,.lst false (b.map Zb))] []=some (gvT (gvA i n r),[])
 | [],i,n,hi,hib,hn,h=>by
  have h1:=Zdy h
  unfold ZhZ
  rw [ZL,gvA]
  by_cases h4:i < 4
  ·have h5:(b.length:Int) < 4:=by omega
   simp -implicitDefEqProofs only [EQA,Zx,Xc,Xa,reduceCtorEq,↓reduceIte,Zd,ZhP,Znv,Zi1,ZgQ,ZfF,h1,h4,h5,gvT]
   rfl
  ·have h5:¬(b.length:Int) < 4:=by omega
   simp -implicitDefEqProofs only [EQA,Zx,Xc,Xa,reduceCtorEq,↓reduceIte,Zd,ZhP,Znv,Zi1,ZgQ,ZfF,h1,h4,h5,gvT]
   rfl
 | c::r,i,n,hi,hib,hn,h=>by
  have hlt:=(Zah h).2.2
  have h1:(i:Int) < b.length:=by omega
  have e1:=iad (Zah h).1 Zb (k:=1) rfl
  have e3:=ZcI h1 hl
  rw [gvA]
  by_cases h4:i=4
  ·have h5:¬(b.length:Int) < 4:=by omega
   have h6:((i:Int) == 4)=true:=by simp;omega
   rw [if_pos h4]
   unfold ZhZ
   rw [ZL]
   simp -implicitDefEqProofs only [EQA,Zx,Xc,Xa,reduceCtorEq,↓reduceIte,Zd,ZhP,Znv,Zi1,ZgQ,ZfF,h1,e1,h5,h6,gvT,Zb,AVal.cells]
   rfl
  ·have h6:((i:Int) == 4)=false:=by simp;omega
   have hm:=ZOY c
   have ha:c.toNat % 128 < 128:=XaW _ (by decide)
   have hi64:IntKind.i64.wrap ((c.toNat % 128:Nat):Int)=((c.toNat % 128:Nat):Int):=ZaV (by omega) (by omega)
   have h7:IntKind.i64.wrap (7*(i:Int))=((7*i:Nat):Int):=by rw [ZaV (by omega) (by omega)];omega
   have hneg:¬((7*i:Nat):Int) < 0:=by omega
   have hs:=ZzM (c.toNat % 128) i (by omega) ha
   have ho:=ZDC n (c.toNat % 128) i (by omega) hn ha
   by_cases hc:c.toNat < 128
   ·have hc':(c.toNat:Int) < 128:=by omega
    unfold ZhZ
    rw [ZL]
    by_cases hc0:c=0
    ·have hc1:((c.toNat:Int) == 0)=true:=by rw [hc0];rfl
     by_cases hip:0 < i
     ·have hip':(i:Int) > 0:=by omega
      have hcc:c=0/\0 < i:=⟨hc0,hip⟩
      simp -implicitDefEqProofs only [EQA,Zx,ZN,Zdq,Zp4,Xc,Xa,ZaN,ZA,Zal,unG,reduceCtorEq,decide_eq_true_eq,ite_self,↓reduceIte,Zd,gcT,gcA,Zy,Zt,Zq,ZC,ZhP,ZgQ,ZfF,h1,e1,h4,h6,h7,hneg,hip',hcc,gvT,Zb,AVal.cells]
      rfl
     ·have hip':¬(i:Int) > 0:=by omega
      have hcc:¬(c=0/\0 < i):=fun h=>hip h.2
      simp -implicitDefEqProofs only [EQA,Zx,Xc,Xa,ZaN,ZA,unG,reduceCtorEq,↓reduceIte,Zd,ZhP,ZgQ,ZfF,h1,e1,h4,h6,hm,hi64,h7,hneg,hs,ho,hc,hc',hc1,hip',hcc,e3,gvT,Zb,AVal.cells]
    ·have hc1:((c.toNat:Int) == 0)=false:=by
      have : c.toNat≠0:=fun h=>hc0 (UInt8.toNat_inj.1 (by simpa using h))
      simp;omega
     have hcc:¬(c=0/\0 < i):=fun h=>hc0 h.1
     simp -implicitDefEqProofs only [EQA,Zx,Xc,Xa,ZaN,ZA,Zal,reduceCtorEq,↓reduceIte,Zd,ZhP,ZgQ,ZfF,h1,e1,h4,h6,hm,hi64,h7,hneg,hs,ho,hc,hc',hc1,hcc,e3,gvT,Zb,AVal.cells]
   ·have hc':¬(c.toNat:Int) < 128:=by omega
    have ih:=Zw1 b hl r (i+1) (n+c.toNat % 128*128 ^ i) (by omega) (by omega) (Zr6 n i _ hn ha) (Zah h).2.1
    unfold ZhZ at ih ⊢
    rw [ZL]
    simp -implicitDefEqProofs only [EQA,ZN,Xc,Xa,ZaN,reduceCtorEq,↓reduceIte,gcT,gcA,Zy,Zt,Zq,ZC,ZgQ,ZfF,h1,e1,h4,h6,hm,hi64,h7,hneg,hs,ho,hc,hc',e3,Zb,AVal.cells]
    exact ih
theorem ZuR (b:Zc) (hl:b.length<=9223372036854775807):E 53 [ZW b] []=some (gvT (ZY b),[]):=by
 have key:=Zw1 b hl b 0 0 (by omega) (by omega) (by simp) rfl
 have z0:((0:Nat):Int)=0:=rfl
 rw [z0] at key
 unfold ZhZ at key
 unfold ZY
 rw [Zj (by rfl) ZyB]
 simp -implicitDefEqProofs only [EQA,ZN,Xc,Xa,reduceCtorEq,↓reduceIte,gcT,gcA,Zy,Zt,Zq,ZC,ZGY,ZoB,ZW]
 exact key
theorem Zn2 (σ:Za) (sq own:Nat) (f:Bool) (b:Zc) (hl:b.length<=9223372036854775807):Zk E BY σ sq 53 own true [.lst f (b.map Zb)]=some (gvT (ZY b),σ,{}) :=
 ZbI (ZuR b hl) (by kernel_rfl) rfl rfl rfl (fun _=>rfl) _ _ _
end
section
def ZkG:Zf:=(.seq (.region [oI 2 (.mov (.c (.bool false)))] none [0]) (.seq (.region [oM 3 0,oI 4 (.nilchk (.t 3)),oF 5 2 4,oL 6 5,oI 7 (.bin .neq (.t 6) (.c (.int .i64 0))),oM 2 7] none [2]) .ret))
def ZoP:ZQ:=⟨[(.tmp 2)],ZkG⟩
theorem Ztr:FC 29=some ZoP:=by kernel_rfl
theorem ZvF:ZoP.body=ZkG:=rfl
theorem ZuD:ZoP.res=[(.tmp 2)]:=rfl
def ZcL:Zf:=(.block 1 (.seq (.region [oM 26 0,oI 27 (.call 30 0 true [(.t 26)]),oM 25 27,oI 28 (.ext (.t 25) 0),oI 29 (.ext (.t 25) 1),oI 30 (.ext (.t 25) 2),oI 7 (.alloc [(.int .u8 0),(.lst true [])]),oN (.st 2 (.t 7) (.t 28)),oM 8 29,oM 9 30] none [9,8,7,6,0]) (.seq (.seq (.region [oM 31 9,oI 32 (.bin .neq (.t 31) (.c (.int .i64 0)))] none [32,9,8,7,6,0]) (.cond (.t 32) (.seq (.region [oM 33 0,oM 34 0,oM 35 9,oI 36 (.nilchk (.t 33)),oF 37 1 36,oN (.st 1 (.t 37) (.c (.lst true []))),oI 38 (.nilchk (.t 34)),oF 39 2 38,oN (.st 1 (.t 39) (.t 35))] none [9,6]) (.seq (.region [oM 40 6,oM 41 9,oM 4 40,oM 5 41] none [5,4]) .ret)) .skip)) (.seq (.seq (.region [oM 42 8,oI 43 (.bin .eql (.t 42) (.c (.int .i64 0)))] none [43,8,7,6,0]) (.cond (.t 43) (.seq (.region [oM 44 0,oM 45 0,oI 46 (.nilchk (.t 45)),oF 47 1 46,oL 48 47,oI 49 (.bslice false 1 1 (.lst true []) [(0,(.t 48))]),oI 50 (.call 15 1 false [(.t 49)]),oI 51 (.nilchk (.t 44)),oF 52 1 51,oN (.st 1 (.t 52) (.t 50))] none [6]) (.seq (.region [oM 53 6,oM 4 53,oI 5 (.mov (.c (.int .i64 0)))] none [5,4]) .ret)) .skip)) (.seq (.region [oM 54 6,oI 55 (.ld (some 2) (.t 7)),oI 56 (.bslice false 2 1 (.agg [(.int .u8 0),(.lst true [])]) [(0,(.t 55))]),oI 57 (.app 2 32 (.agg [(.int .u8 0),(.lst true [])]) (.t 54) (.t 56)),oM 6 57] none [8,6,0]) (.region [oM 58 0,oM 59 0,oI 60 (.nilchk (.t 59)),oF 61 1 60,oL 62 61,oM 63 8,oI 64 (.slice 1 (.t 62) (some (.t 63)) none none),oI 65 (.nilchk (.t 58)),oF 66 1 65,oN (.st 1 (.t 66) (.t 64))] none [6,0]))))))
def Zpc:Zf:=ZcL
def Zc1:=xw Zpc ZcL rfl
def ZiX:Zf:=(.seq (.region [oI 4 (.mov (.c (.lst true []))),oI 5 (.mov (.c (.int .i64 0)))] none [1,0]) (.seq (.seq (.region [oM 10 0,oI 11 (.call 29 0 true [(.t 10)])] none [11,1,0]) (.cond (.t 11) (.seq (.region [oM 12 0,oI 13 (.nilchk (.t 12)),oF 14 2 13,oL 15 14,oI 4 (.mov (.c (.lst true []))),oM 5 15] (some []) [5,4]) .ret) .skip)) (.seq (.region [oM 16 0,oM 17 0,oI 18 (.nilchk (.t 17)),oF 19 1 18,oL 20 19,oM 21 1,oI 22 (.app 1 1 (.int .u8 0) (.t 20) (.t 21)),oI 23 (.nilchk (.t 16)),oF 24 1 23,oN (.st 1 (.t 24) (.t 22))] none [0]) (.seq (.region [oI 6 (.mov (.c (.lst true [])))] none [6,0]) (.block 0 (.loop [6,0] Zpc))))))
def Znf:ZQ:=⟨[(.tmp 4),(.tmp 5)],ZiX⟩
theorem ZpV:FC 17=some Znf:=by kernel_rfl
theorem ZqN:Znf.body=ZiX:=rfl
theorem Zep:Znf.res=[(.tmp 4),(.tmp 5)]:=rfl
noncomputable def ZaW (m:Nat) (tm:Tms) (σ:Za):Option (AVal×Za):=(Zav m Znf (Wd (Za7 0) (evL FC PR BY m [6,0] Zpc tm σ)))
def Zfi:Zf:=(.seq (.region [oI 2 (.alloc [(.int .u8 0),(.lst true [])]),oI 3 (.mov (.c (.int .i64 0))),oI 4 (.mov (.c (.int .i64 0)))] none [2,0]) (.seq (.seq (.region [oM 8 0,oI 9 (.nilchk (.t 8)),oF 10 1 9,oL 11 10,oI 12 (.len (.t 11)),oI 13 (.bin .lss (.t 12) (.c (.int .i64 2)))] none [13,2,0]) (.cond (.t 13) (.seq (.region [oI 14 (.ld (some 2) (.t 2)),oN (.st 2 (.t 2) (.t 14)),oI 3 (.mov (.c (.int .i64 0))),oI 4 (.mov (.c (.int .i64 0)))] none [4,3,2]) .ret) .skip)) (.seq (.region [oM 16 0,oI 17 (.nilchk (.t 16)),oF 18 1 17,oL 19 18,oI 20 (.slice 1 (.t 19) (some (.c (.int .i64 1))) none none),oI 21 (.call 53 0 true [(.t 20)]),oM 15 21,oI 22 (.ext (.t 15) 0),oI 23 (.ext (.t 15) 1),oI 24 (.ext (.t 15) 2),oM 5 22,oM 6 23,oM 7 24] none [7,6,5,2,0]) (.seq (.region [oM 25 6,oI 26 (.bin .add (.c (.int .i64 1)) (.t 25)),oM 27 5,oI 28 (.bin .add (.t 26) (.t 27)),oM 3 28] none [7,6,3,2,0]) (.seq (.block 0 (.seq (.region [oM 30 7,oI 31 (.bin .eql (.t 30) (.c (.int .i64 11))),oM 29 31] none [29,7,6,3,2,0]) (.cond (.t 29) (.seq (.region [oI 32 (.ld (some 2) (.t 2)),oN (.st 2 (.t 2) (.t 32)),oI 3 (.mov (.c (.int .i64 0))),oI 4 (.mov (.c (.int .i64 0)))] none [4,3,2]) .ret) (.seq (.region [oM 34 7,oI 35 (.bin .neq (.t 34) (.c (.int .i64 0))),oM 33 35] none [33,6,3,2,0]) (.cond (.t 33) (.seq (.region [oI 36 (.ld (some 2) (.t 2)),oN (.st 2 (.t 2) (.t 36)),oI 3 (.mov (.c (.int .i64 0))),oI 4 (.mov (.c (.int .i64 129)))] none [4,3,2]) .ret) (.seq (.region [oM 38 3,oM 39 0,oI 40 (.nilchk (.t 39)),oF 41 0 40,oL 42 41,oI 43 (.bin .gtr (.t 38) (.t 42)),oM 37 43] none [37,6,3,2,0]) (.cond (.t 37) (.seq (.region [oI 44 (.ld (some 2) (.t 2)),oN (.st 2 (.t 2) (.t 44)),oI 3 (.mov (.c (.int .i64 0))),oI 4 (.mov (.c (.int .i64 149)))] none [4,3,2]) .ret) (.seq (.region [oM 46 3,oM 47 0,oI 48 (.nilchk (.t 47)),oF 49 1 48,oL 50 49,oI 51 (.len (.t 50)),oI 52 (.bin .gtr (.t 46) (.t 51)),oM 45 52] none [45,6,3,2,0]) (.cond (.t 45) (.seq (.region [oI 53 (.ld (some 2) (.t 2)),oN (.st 2 (.t 2) (.t 53)),oI 3 (.mov (.c (.int .i64 0))),oI 4 (.mov (.c (.int .i64 0)))] none [4,3,2]) .ret) .skip))))))))) (.seq (.region [oM 54 0,oI 55 (.nilchk (.t 54)),oF 56 1 55,oL 57 56,oI 58 (.iaddr 1 (.t 57) (.c (.int .i64 0))),oL 59 58,oM 60 0,oI 61 (.nilchk (.t 60)),oF 62 1 61,oL 63 62,oM 64 6,oI 65 (.bin .add (.c (.int .i64 1)) (.t 64)),oM 66 3,oI 67 (.slice 1 (.t 63) (some (.t 65)) (some (.t 66)) none),oI 68 (.bslice false 1 1 (.lst true []) [(0,(.t 67))]),oI 69 (.call 15 0 true [(.t 68)]),oI 70 (.build [(.int .u8 0),(.lst true [])] [(0,1,(.t 59)),(1,1,(.t 69))]),oM 71 3,oN (.st 2 (.t 2) (.t 70)),oM 3 71,oI 4 (.mov (.c (.int .i64 0)))] (some [(3,9),(4,9),(5,9),(3,13),(4,13),(5,13),(3,14),(4,14),(5,14),(3,15),(4,15),(5,15)]) [4,3,2]) .ret))))))
def Zpb:ZQ:=⟨[(.cell 2 (some 2)),(.tmp 3),(.tmp 4)],Zfi⟩
theorem Zg9:FC 30=some Zpb:=by kernel_rfl
theorem ZgX:Zpb.body=Zfi:=rfl
theorem Zhh:Zpb.res=[(.cell 2 (some 2)),(.tmp 3),(.tmp 4)]:=rfl
def Zky:Zf:=(.seq (.region [oM 32 7,oM 33 8,oM 4 32,oM 5 33] none [5,4]) .ret)
def Zqw:Zf:=Zky
def Zxb:=xw Zqw Zky rfl
def Zd9:Zf:=(.seq (.region [oI 18 (.bin .lss (.t 17) (.t 16))] none [18,17,16,15,8,7,6]) (.seq (.cond (.t 18) .skip (.exit 0)) (.seq (.block 1 (.seq (.region [oI 19 (.iaddr 1 (.t 15) (.t 17)),oL 20 19,oM 10 20] none [17,16,15,10,7,6]) (.seq (.region [oM 22 6,oM 23 10,oI 24 (.call 17 1 true [(.t 22),(.t 23)]),oM 21 24,oI 25 (.ext (.t 21) 0),oI 26 (.ext (.t 21) 1),oM 11 25,oM 12 26] none [17,16,15,12,11,7,6]) (.seq (.region [oM 27 7,oM 28 11,oI 29 (.app 2 32 (.agg [(.int .u8 0),(.lst true [])]) (.t 27) (.t 28)),oM 7 29] none [17,16,15,12,7,6]) (.region [oM 30 12,oM 8 30] none [17,16,15,8,7,6]))))) (.region [oI 31 (.bin .add (.t 17) (.c (.int .i64 1))),oM 17 31] none [17,16,15,8,7,6]))))
def Zpw:Zf:=Zd9
def ZfA:=xw Zpw Zd9 rfl
def ZrU:Zf:=(.seq (.region [oI 4 (.mov (.c (.lst true []))),oI 5 (.mov (.c (.int .i64 0)))] none [1,0]) (.seq (.region [oM 13 0,oI 14 (.call 16 1 false [(.t 13)]),oM 6 14] none [6,1]) (.seq (.region [oI 7 (.mov (.c (.lst true [])))] none [7,6,1]) (.seq (.region [oI 8 (.mov (.c (.int .i64 0)))] none [8,7,6,1]) (.seq (.seq (.region [oM 15 1,oI 16 (.len (.t 15)),oI 17 (.mov (.c (.int .i64 0)))] none [17,16,15,8,7,6]) (.block 0 (.loop [17,16,15,8,7,6] Zpw))) Zqw)))))
def ZmM:ZQ:=⟨[(.tmp 4),(.tmp 5)],ZrU⟩
theorem ZCp:FC 8=some ZmM:=by kernel_rfl
theorem ZFc:ZmM.body=ZrU:=rfl
theorem ZwV:ZmM.res=[(.tmp 4),(.tmp 5)]:=rfl
noncomputable def Zce (m:Nat) (tm:Tms) (σ:Za):Option (AVal×Za):=(Zav m ZmM (ZbT FC PR BY m Zqw (Wd (Za7 0) (evL FC PR BY m [17,16,15,8,7,6] Zpw tm σ))))
def Zra:Zf:=(.seq (.region [oI 2 (.mov (.c .nilp))] none [0]) (.seq (.region [oM 3 0,oI 4 (.build [(.int .i64 0),(.lst true []),(.int .i64 0)] [(0,1,(.t 3))]),oI 5 (.box (.t 4)),oM 2 5] none [2]) .ret))
def ZnO:ZQ:=⟨[(.tmp 2)],Zra⟩
theorem ZKB:FC 16=some ZnO:=by kernel_rfl
theorem ZCV:ZnO.body=Zra:=rfl
theorem ZG8:ZnO.res=[(.tmp 2)]:=rfl
end
section
inductive FrR where
 | stop (c:Int)
 | one (x:UInt8) (b:Zc) (n:Nat)
def hdF (most:Int) (h:Zc):FrR :=
 if h.length < 2 then .stop 0
 else if (ZY (h.drop 1)).2.2=11 then .stop 0
 else if (ZY (h.drop 1)).2.2≠0 then .stop 129
 else if ((1+(ZY (h.drop 1)).2.1+(ZY (h.drop 1)).1:Nat):Int) > most then .stop 149
 else if h.length < 1+(ZY (h.drop 1)).2.1+(ZY (h.drop 1)).1 then .stop 0
 else .one (h.headD 0) ((h.take (1+(ZY (h.drop 1)).2.1+(ZY (h.drop 1)).1)).drop (1+(ZY (h.drop 1)).2.1)) (1+(ZY (h.drop 1)).2.1+(ZY (h.drop 1)).1)
def Zbn (fz:Bool) (Y:List AVal):ZR:=if fz then .frow 0 1 Y else .row 0 1 Y
section
variable {fz:Bool} {p:Nat} {h:Zc} {Y:List AVal} (hY:Y.drop p=h.map Zb) (hp:p<=Y.length)
include hY hp
theorem Zgc:Y.length=p+h.length:=by
 have:=congrArg Xae hY
 simp only [List.length_drop,XW] at this
 omega
theorem Zlh {σ:Za} (hs:σ[1]?=some (Zbn fz Y)) {a b:Nat} (hab:a+b<=h.length):ZM σ (.sl 1 0 (p+a) b)=some (((h.drop a).take b).map Zb,[1]):=by
 have hl:=Zgc hY hp
 have e:(Y.drop (p+a)).take b=((h.drop a).take b).map Zb:=by
  rw [<-List.drop_drop,hY,XaF,List.map_drop]
 have h1:p+a+b<=Y.length:=by omega
 cases fz <;> simp [ZM,hs,Zbn,h1,e]
theorem ZDM {σ:Za} (hs:σ[1]?=some (Zbn fz Y)) {a b:Nat} (hab:a<=b) (hb:b<=h.length):Zbj σ 1 (.sl 1 0 p h.length) (some (.int .i64 (a:Int))) (some (.int .i64 (b:Int))) none=some (.sl 1 0 (p+a) (b - a),σ,{ rd:=[1] }):=by
 have hl:=Zgc hY hp
 have he:=Zlh hY hp hs (a:=0) (b:=h.length) (by omega)
 rw [XT] at he
 have h0:(0:Int)<=(a:Int):=by omega
 have h1:(0:Int)<=(b:Int):=by omega
 have h2:(b:Int)<=((Y.length - p:Nat):Int):=by omega
 have h3:(a:Int)<=(b:Int):=by omega
 unfold Zbj
 simp only [he,hs]
 cases fz <;> simp only [Zbn,if_true,if_false,Xi,Zbg,Zc7,h0,h1,h2,h3,and_self,WZ]
theorem ZHB {σ:Za} (hs:σ[1]?=some (Zbn fz Y)) (ha:1<=h.length):Zbj σ 1 (.sl 1 0 p h.length) (some (.int .i64 1)) none none=some (.sl 1 0 (p+1) (h.length - 1),σ,{ rd:=[1] }):=by
 have hl:=Zgc hY hp
 have he:=Zlh hY hp hs (a:=0) (b:=h.length) (by omega)
 rw [XT] at he
 have h0:(0:Int)<=1:=by omega
 have h3:(1:Int)<=(h.length:Int):=by omega
 unfold Zbj
 simp only [he,hs]
 cases fz <;> simp only [Zbn,if_true,if_false,Xi,Zbg,Zc7,h0,h3,and_self] <;> rfl
theorem ZJm {σ:Za} (hs:σ[1]?=some (Zbn fz Y)) (sq own:Nat) (h1:1<=h.length) (hl:h.length<=9223372036854775807):Zk E BY σ sq 53 own true [.sl 1 0 (p+1) (h.length - 1)]=some (gvT (ZY (h.drop 1)),σ,{ rd:=[1] }):=by
 have he:=Zlh hY hp hs (a:=1) (b:=h.length - 1) (by omega)
 rw [XK (by simp)] at he
 refine ZOS (vs:=[ZW (h.drop 1)]) (ts:=[1]) (by kernel_rfl) ?_ rfl rfl (ZuR (h.drop 1) (by simp;omega)) rfl rfl sq own
 simp only [showAs,showA,ZcH,he]
 rfl
end
def hdV (most:Int) (p:Nat) (h:Zc) (fz:Bool) (Y:List AVal):FrR->AVal×Za
 | .stop c=>(.tup [.agg [.int .u8 0,.lst true []],.int .i64 0,.int .i64 c],[.var [.int .i64 most,.sl 1 0 p h.length,.int .i64 0],Zbn fz Y])
 | .one x b n=>(.tup [.agg [Zb x,.lst false (b.map Zb)],.int .i64 (n:Int),.int .i64 0],[.var [.int .i64 most,.sl 1 0 p h.length,.int .i64 0],.frow 0 1 Y])
theorem Zxj:∀ (b:Zc) (i n:Nat),i<=4->(gvA i n b).2.1<=5
 | [],i,n,h=>by unfold gvA;split <;> simp
 | c::r,i,n,h=>by
  unfold gvA
  split
  ·simp
  ·split
   ·split
    ·simp
    ·simp;omega
   ·exact Zxj r (i+1) _ (by omega)
theorem ZsD:∀ (b:Zc) (i n:Nat),i<=4->n < 128 ^ i->(gvA i n b).1 < 128 ^ 4
 | [],i,n,h,hn=>by unfold gvA;split <;> decide
 | c::r,i,n,h,hn=>by
  unfold gvA
  split
  ·decide
  ·rename_i h4
   have hm:n+c.toNat % 128*128 ^ i < 128 ^ (i+1):=by
    have : c.toNat % 128 < 128:=XaW _ (by decide)
    rw [XaT]
    have : c.toNat % 128*128 ^ i<=127*128 ^ i:=X3 _ (by omega)
    omega
   split
   ·split
    ·decide
    ·exact Nat.lt_of_lt_of_le hm (Xaq (by decide) (by omega))
   ·exact ZsD r (i+1) _ (by omega) hm
theorem ZiY (fz:Bool) (most:Int) (p n:Nat) (Y:List AVal) (c:Int) {r:AVal} (hr:ZI r=true) (σ:Za):Zak 2 (.var [.int .i64 most,.sl 1 0 p n,.int .i64 c]::Zbn fz Y::σ) r=some (r,[.var [.int .i64 most,.sl 1 0 p n,.int .i64 c],Zbn fz Y]):=by
 have hB0:ZC (Zbn fz Y)=[]:=by cases fz <;> rfl
 have hB1:∀ ρ,Zz ρ 0 (Zbn fz Y)=Zbn fz Y:=by intro ρ;cases fz <;> rfl
 have hB2:ZF 2 1 (Zbn fz Y)=0:=by cases fz <;> rfl
 have hR:X6 2=[0,1]:=rfl
 have h0:(ZR.var [.int .i64 most,.sl 1 0 p n,.int .i64 c]::Zbn fz Y::σ).getD 0 .free=.var [.int .i64 most,.sl 1 0 p n,.int .i64 c]:=rfl
 have h1:(ZR.var [.int .i64 most,.sl 1 0 p n,.int .i64 c]::Zbn fz Y::σ).getD 1 .free=Zbn fz Y:=rfl
 have hb0:ZC (.var [.int .i64 most,.sl 1 0 p n,.int .i64 c])=[1]:=rfl
 have hi:Zy 2 [r] (.var [.int .i64 most,.sl 1 0 p n,.int .i64 c]::Zbn fz Y::σ)=[0,1]:=by
  simp only [Zy,Zw,(Z4 (fun _ _=>none) r hr).2,Xw,hR,XH,XX,Xm,h0,h1,hb0,hB0]
  rfl
 have hρ:Zi (.var [.int .i64 most,.sl 1 0 p n,.int .i64 c]::Zbn fz Y::σ) 2 [0,1] 1 0=some (1,0):=by
  cases fz <;> rfl
 simp only [Zak,gcA,hi,Zq,Zg,(Z4 _ r hr).1,h0,h1,hB2,hB1]
 simp only [Zz,Zg,Zr,hρ]
theorem ZMz (most:Int) (fz:Bool) (p:Nat) (h:Zc) (Y:List AVal) (hY:Y.drop p=h.map Zb) (hp:p<=Y.length) (hl:h.length<=70368744177664) :
  E 30 [.ref 0 0] [.var [.int .i64 most,.sl 1 0 p h.length,.int .i64 0],Zbn fz Y]=some (hdV most p h fz Y (hdF most h)):=by
 have hL:=Zgc hY hp
 have go:∀ B,B=Zbn fz Y->E 30 [.ref 0 0] [.var [.int .i64 most,.sl 1 0 p h.length,.int .i64 0],B]=some (hdV most p h fz Y (hdF most h)):=by
  intro B hB
  have hB0:ZC B=[]:=by subst hB;cases fz <;> rfl
  have hB1:∀ ρ,Zz ρ 0 B=B:=by intro ρ;subst hB;cases fz <;> rfl
  have hB2:ZF 2 1 B=0:=by subst hB;cases fz <;> rfl
  have hBf:∀ σ,Zp (.var [.int .i64 most,.sl 1 0 p h.length,.int .i64 0]::B::σ) [1]=.var [.int .i64 most,.sl 1 0 p h.length,.int .i64 0]::.frow 0 1 Y::σ:=by intro σ;subst hB;cases fz <;> rfl
  have hout:∀ (r:AVal) (σ:Za),ZI r=true->Zak 2 (.var [.int .i64 most,.sl 1 0 p h.length,.int .i64 0]::B::σ) r=some (r,[.var [.int .i64 most,.sl 1 0 p h.length,.int .i64 0],B]):=by
   intro r σ hr
   subst hB
   exact ZiY fz most p h.length Y 0 hr σ
  unfold hdF
  by_cases c1:h.length < 2
  ·rw [if_pos c1]
   have c1':(h.length:Int) < 2:=by omega
   unfold hdV
   rw [<-hB,Zj (by rfl) Zg9]
   simp -implicitDefEqProofs only [EQA,ZH,Xe,Xc,Xf,Xa,Xg,reduceCtorEq,↓reduceIte,ZgX,Zfi,Zhh,c1']
   exact hout _ _ rfl
  ·rw [if_neg c1]
   have c1':¬(h.length:Int) < 2:=by omega
   have hs1:=fun {σ:Za} (hs:σ[1]?=some B)=>ZHB hY hp (σ:=σ) (hB ▸ hs) (by omega)
   have hgv:=fun {σ:Za} {sq own:Nat} (hs:σ[1]?=some B)=>ZJm hY hp (σ:=σ) (hB ▸ hs) sq own (by omega) (by omega)
   have g1:=Zxj (h.drop 1) 0 0 (by omega)
   have g2:=ZsD (h.drop 1) 0 0 (by omega) (by decide)
   rw [show gvA 0 0 (h.drop 1)=ZY (h.drop 1) from rfl] at g1 g2
   generalize ZY (h.drop 1)=G at *
   obtain ⟨gn,gu,ge⟩:=G
   simp only at g1 g2 hgv ⊢
   unfold gvT at hgv
   by_cases c2:ge=11
   ·subst c2
    rw [if_pos rfl]
    unfold hdV
    rw [<-hB,Zj (by rfl) Zg9]
    simp -implicitDefEqProofs only [EQA,ZH,Xe,Xc,Xf,Xa,Xg,reduceCtorEq,↓reduceIte,ZgX,Zfi,Zhh,c1',hs1,hgv]
    exact hout _ _ rfl
   ·rw [if_neg c2]
    by_cases c3:ge=0
    ·subst c3
     rw [if_neg (by decide)]
     have w1:IntKind.i64.wrap (1+(gu:Int))=((1+gu:Nat):Int):=by rw [ZaV (by omega) (by omega)];omega
     have w2:IntKind.i64.wrap (((1+gu:Nat):Int)+(gn:Int))=((1+gu+gn:Nat):Int):=by rw [ZaV (by omega) (by omega)];omega
     by_cases c4:((1+gu+gn:Nat):Int) > most
     ·rw [if_pos c4]
      unfold hdV
      rw [<-hB,Zj (by rfl) Zg9]
      simp -implicitDefEqProofs only [EQA,ZH,Zdq,Xe,Xc,Xf,Xa,Xg,reduceCtorEq,ite_self,↓reduceIte,ZgX,Zfi,Zhh,c1',hs1,hgv,w1,w2,c4,Xq]
      exact hout _ _ rfl
     ·rw [if_neg c4]
      by_cases c5:h.length < 1+gu+gn
      ·rw [if_pos c5]
       have c5':((1+gu+gn:Nat):Int) > (h.length:Int):=by omega
       unfold hdV
       rw [<-hB,Zj (by rfl) Zg9]
       simp -implicitDefEqProofs only [EQA,ZH,Zdq,Xe,Xc,Xf,Xa,Xg,reduceCtorEq,ite_self,↓reduceIte,ZgX,Zfi,Zhh,c1',hs1,hgv,w1,w2,c4,c5',Xq]
       exact hout _ _ rfl
      ·rw [if_neg c5]
       have c5':¬((1+gu+gn:Nat):Int) > (h.length:Int):=by omega
       have hs2:=fun {σ:Za} (hs:σ[1]?=some B)=>ZDM hY hp (σ:=σ) (hB ▸ hs) (a:=1+gu) (b:=1+gu+gn) (by omega) (by omega)
       obtain ⟨x,h',e⟩:∃ x h',h=x::h':=by
        cases h with
        | nil=>simp at c1
        | cons x h'=>exact ⟨x,h',rfl⟩
       have hx:h.headD 0=x:=by rw [e];rfl
       have hYp:Y[p]?=some (Zb x):=by
        have:=congrArg List.head? hY
        rw [e] at this
        simpa using this
       have hne:h≠[]:=by rw [e];simp
       have hia:∀ {σ:Za},σ[1]?=some B->Zcn σ 1 (.sl 1 0 p h.length) (.int .i64 0)=some (.eref 1 0 p 0,σ,{ rd:=[1] }):=by
        intro σ hs
        subst hB
        cases fz <;> simp [Zcn,hs,Zbn,hne]
       have hve:∀ {σ:Za},σ[1]?=some B->viewAs σ [.sl 1 0 (p+(1+gu)) (1+gu+gn - (1+gu))]=some ([.lst false (((h.take (1+gu+gn)).drop (1+gu)).map Zb)],[1]):=by
        intro σ hs
        have he:=Zlh hY hp (σ:=σ) (hB ▸ hs) (a:=1+gu) (b:=1+gu+gn - (1+gu)) (by omega)
        rw [<-List.drop_take] at he
        simp only [viewAs,ZU,ZP,he,Xm]
       have hj:∀ (σ:Za) (sq own:Nat),Zk E BY σ sq 15 own true [.lst true [.lst false (((h.take (1+gu+gn)).drop (1+gu)).map Zb)]]=some (.lst false (((h.take (1+gu+gn)).drop (1+gu)).map Zb),σ,{}):=by
        intro σ sq own
        have:=Zhl σ sq own true ((h.take (1+gu+gn)).drop (1+gu)) [] (by simp) (by simp;omega)
        simpa [ZW] using this
       rw [hx]
       unfold hdV
       simp only
       generalize (h.take (1+gu+gn)).drop (1+gu)=bd at *
       have hB':B=.row 0 1 Y\/B=.frow 0 1 Y:=by
        subst hB
        cases fz
        ·exact Xr rfl
        ·exact Xv rfl
       have hb0:Zb x=.int .u8 (x.toNat:Int):=rfl
       rcases hB' with rfl | rfl
       ·rw [Zj (by rfl) Zg9]
        simp -implicitDefEqProofs only [EQA,Zbl,Xe,Xc,Xf,Xa,Xg,reduceCtorEq,↓reduceIte,ZgX,Zfi,Zhh,c1',hs1,hs2,hgv,w1,w2,c4,c5',hia,hYp,hve,hj,hBf,Xq,bne_self_eq_false,Zau,AVal.cells,ZS,hb0,Zaj,Zan,Zam,ZaA,Zaz,Zax,ZaF,Zat,XC]
        exact ZiY true most p h.length Y 0 rfl _
       ·rw [Zj (by rfl) Zg9]
        simp -implicitDefEqProofs only [EQA,Zbl,Xe,Xc,Xf,Xa,Xg,reduceCtorEq,↓reduceIte,ZgX,Zfi,Zhh,c1',hs1,hs2,hgv,w1,w2,c4,c5',hia,hYp,hve,hj,hBf,Xq,bne_self_eq_false,Zau,AVal.cells,ZS,hb0,Zaj,Zan,Zam,ZaA,Zaz,Zax,ZaF,Zat,XC]
        exact ZiY true most p h.length Y 0 rfl _
    ·rw [if_pos c3]
     have c2':(ge == 11)=false:=by simpa using c2
     have c3':(ge == 0)=false:=by simpa using c3
     have c3'':(ge != 0)=true:=by simpa using c3
     unfold hdV
     rw [<-hB,Zj (by rfl) Zg9]
     simp -implicitDefEqProofs only [EQA,ZH,Xe,Xc,Xf,Xa,Xg,reduceCtorEq,↓reduceIte,ZgX,Zfi,Zhh,c1',hs1,hgv,c2',c3'']
     exact hout _ _ rfl
 exact go _ rfl
end
section
theorem ZlI {O:ZX} {bf:Nat->Bool} {σ:Za} {sq f own:Nat} {view:Bool} {args vs vs':List AVal} {ids:List Nat} {h0 h:Za} {r0 r:AVal} (hb:bf f=false) (hsh:showAs σ args=some (vs,[])) (hre:Zt σ 1000 (Zw vs) []=ids) (hne:ids.isEmpty=false)
  (hall:(ids.all fun t=>okB (σ.getD t .free))=true) (hvs:Zg (Zi σ 0 ids) vs=vs') (hh:Zq σ 0 ids (Zi σ 0 ids) ids 0=h0) {hh0:Za} (hO:O f vs' h0=some (r0,hh0)) (hv:Z2 view ids.length (some (r0,hh0))=some (r,h))
  (hl1:h.length<=ids.length+own) (hl2:ids.length<=h.length) (hk:ZaY σ ids h 0=true) (hff:Zba σ sq own=true) {r':AVal} (hr:Zr (ZaC σ ids sq) r=r') {σ':Za} (hlay:Za9 σ ids sq h 0 σ=σ') {u:List (Nat×List AVal)} (hu:Zbd σ' ids=u) :
  Zk O bf σ sq f own view args=some (r',σ',{ any:=true,upd:=u }):=by
 subst hr hlay hu
 unfold Zk ZbW
 rw [hb]
 simp only [Xi,if_false,hsh,show Zp σ []=σ from rfl,hre]
 unfold ZbM
 rw [if_pos hall,hvs,hh,hO,hv]
 simp only [ZaH,hne,Xaa,Xi,if_false,hl1,hl2,decide_true,hk,hff,Wg,if_true]
end
section
def Zab (fz:Bool) (g:Nat) (Y:List AVal):ZR:=if fz then .frow g 1 Y else .row g 1 Y
def hdT:FrR->AVal
 | .stop c=>.tup [.agg [.int .u8 0,.lst false []],.int .i64 0,.int .i64 c]
 | .one x b n=>.tup [.agg [Zb x,.lst false (b.map Zb)],.int .i64 (n:Int),.int .i64 0]
def hdZ (fz:Bool):FrR->Bool
 | .stop _=>fz
 | .one _ _ _=>true
theorem ZJY (x:FrR):ZI (hdT x)=true:=by cases x <;> rfl
theorem Zc6 (most:Int) (fz:Bool) (p:Nat) (h:Zc) (Y:List AVal) (hY:Y.drop p=h.map Zb) (hp:p<=Y.length) (hl:h.length<=70368744177664) {σ:Za} {sq r g:Nat} (hr:r≠0)
  (h0:σ[0]?=some (.var [.int .i64 most,.sl r g p h.length,.int .i64 0])) (h1:σ[r]?=some (Zab fz g Y)) :
  Zk E BY σ sq 30 0 true [.ref 0 0]=some (hdT (hdF most h),(σ.set 0 (.var [.int .i64 most,.sl r g p h.length,.int .i64 0])).set r (Zab (hdZ fz (hdF most h)) g Y),{ any:=true,upd:=[(0,[.int .i64 most,.sl r g p h.length,.int .i64 0])] }):=by
 have hO:=ZMz most fz p h Y hY hp hl
 generalize hdF most h=F at *
 have g0:σ.getD 0 .free=.var [.int .i64 most,.sl r g p h.length,.int .i64 0]:=by simp [Xh,h0]
 have g1:σ.getD r .free=Zab fz g Y:=by simp [Xh,h1]
 have hgen:∀ z,Zl (Zab z g Y)=g:=by intro z;cases z <;> rfl
 have hb:∀ z g,ZC (Zab z g Y)=[]:=by intro z g;cases z <;> rfl
 have hren:∀ ρ z g g',Zz ρ g' (Zab z g Y)=Zab z g' Y:=by intro ρ z g g';cases z <;> rfl
 have hsh:showAs σ [.ref 0 0]=some ([.ref 0 0],[]):=rfl
 have hre:Zt σ 1000 (Zw [.ref 0 0]) []=[0,r]:=by
  have e0:([]:List Nat).contains 0=false:=rfl
  have e1:([0]:List Nat).contains r=false:=by simp;exact hr
  have hb0:ZC (.var [.int .i64 most,.sl r g p h.length,.int .i64 0])=[r]:=rfl
  rw [show Zw [AVal.ref 0 0]=[0] from rfl,show (1000:Nat)=997+1+1+1 from rfl]
  simp only [Zt,e0,g0,hb0,Xm,Xw,Xi,if_false,e1,g1,hb,XU]
 have hρ0:Zi σ 0 [0,r] 0 0=some (0,0):=by simp [Zi,ZO,h0,Zl,ZF]
 have hρ1:Zi σ 0 [0,r] r g=some (1,0):=by
  have : (0:Nat)≠r:=fun e=>hr e.symm
  cases fz <;> simp [Zi,ZO,h1,Zab,Zl,ZF,this]
 have hall:([0,r].all fun t=>okB (σ.getD t .free))=true:=by
  simp only [XD,Wr,g0,g1]
  cases fz <;> rfl
 have hvs:Zg (Zi σ 0 [0,r]) [.ref 0 0]=[.ref 0 0]:=by simp only [Zg,Zr,hρ0]
 have hh:Zq σ 0 [0,r] (Zi σ 0 [0,r]) [0,r] 0=[.var [.int .i64 most,.sl 1 0 p h.length,.int .i64 0],Zbn fz Y]:=by
  have n1:ZF 0 1 (Zab fz g Y)=0:=by cases fz <;> rfl
  simp only [Zq,g0,g1,hren,n1]
  simp only [Zz,Zg,Zr,hρ1]
  cases fz <;> rfl
 have hask:Z2 true 2 (some (hdV most p h fz Y F))=some (hdT F,[.var [.int .i64 most,.sl 1 0 p h.length,.int .i64 0],Zbn (hdZ fz F) Y]):=by
  cases F with
  | stop c=>exact ZiY fz most p h.length Y 0 (r:=.tup [.agg [.int .u8 0,.lst false []],.int .i64 0,.int .i64 c]) rfl []
  | one x b n=>exact ZiY true most p h.length Y 0 (r:=.tup [.agg [Zb x,.lst false (b.map Zb)],.int .i64 (n:Int),.int .i64 0]) rfl []
 have hk:ZaY σ [0,r] [.var [.int .i64 most,.sl 1 0 p h.length,.int .i64 0],Zbn (hdZ fz F) Y] 0=true:=by
  have hk1:okB (Zbn (hdZ fz F) Y)=true:=by cases hdZ fz F <;> rfl
  have hk2:Zb7 (Zab fz g Y) (Zbn (hdZ fz F) Y)=true:=by cases F <;> cases fz <;> rfl
  have hk3:Zl (Zbn (hdZ fz F) Y)=0:=by cases hdZ fz F <;> rfl
  have key:∀ (b1 b2:ZR),ZaY σ [0,r] [b1,b2] 0=(okB b1 && (Zb7 (σ.getD 0 .free) b1 && decide (Zl b1<=1)) && (okB b2 && (Zb7 (σ.getD r .free) b2 && decide (Zl b2<=1)) && true)):=fun _ _=>rfl
  rw [key,g0,g1,hk1,hk2,hk3]
  rfl
 have hρb:ZaC σ [0,r] sq 1 0=some (r,g):=by simp [ZaC,h1,hgen]
 have hlay:Za9 σ [0,r] sq [.var [.int .i64 most,.sl 1 0 p h.length,.int .i64 0],Zbn (hdZ fz F) Y] 0 σ=(σ.set 0 (.var [.int .i64 most,.sl r g p h.length,.int .i64 0])).set r (Zab (hdZ fz F) g Y):=by
  have e1:∀ ρ,Zz ρ (Zca σ [0,r] 1 (Zbn (hdZ fz F) Y)) (Zbn (hdZ fz F) Y)=Zab (hdZ fz F) g Y:=by
   intro ρ
   have : Zca σ [0,r] 1 (Zbn (hdZ fz F) Y)=g:=by
    simp only [Zca,List.getElem?_cons_succ,List.getElem?_cons_zero,g1,hgen]
    cases hdZ fz F <;> simp [Zbn,Zl]
   rw [this]
   cases hdZ fz F <;> rfl
  simp only [Za9,ZaO,Xu,XN,XG,e1]
  simp only [Zz,Zg,Zr,hρb]
 have htl:0 < σ.length:=(Xj.1 h0).1
 have hrl:r < σ.length:=(Xj.1 h1).1
 refine ZlI (O:=E) (by kernel_rfl) hsh hre rfl hall hvs hh hO hask (by simp) (by simp) hk rfl (Z4 _ _ (ZJY F)).1 hlay ?_
 have e3:((σ.set 0 (.var [.int .i64 most,.sl r g p h.length,.int .i64 0])).set r (Zab (hdZ fz F) g Y))[0]?=some (.var [.int .i64 most,.sl r g p h.length,.int .i64 0]):=by
  rw [Xs,if_neg hr,Xs,if_pos rfl,if_pos htl]
 have e4:((σ.set 0 (.var [.int .i64 most,.sl r g p h.length,.int .i64 0])).set r (Zab (hdZ fz F) g Y))[r]?=some (Zab (hdZ fz F) g Y):=by
  rw [Xs,if_pos rfl,if_pos (by simpa using hrl)]
 simp only [Zbd,e3,e4]
 cases hdZ fz F <;> rfl
end
end Go.Proofs.YteepdofekjheaaaDoor
