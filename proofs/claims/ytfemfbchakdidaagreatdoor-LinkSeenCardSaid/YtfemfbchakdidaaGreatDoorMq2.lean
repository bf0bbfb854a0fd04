/- packed -/
import Derived.Test.YtfemfbchakdidaaGreatDoorMq1
import Derived.Scope
import Derived.Laws.Cover3
import Derived.Lib.Index
import Derived.Shelf.Unicode.ValidAny
import Derived.Shelf.Strings.Count
import Derived.Test.YtfemfbchakdidaaGreatDoorProg
import Derived.Deep.Slices
import Derived.ChangeArms
import Derived.WideShapes
import GoSem.ClaimChange
import Derived.Lib.TrimUEq
import Derived.Lib.MapLaws
import Derived.Lib.ValidLaws
set_option linter.defProp false
set_option linter.unusedSimpArgs false
set_option linter.unusedVariables false
open Option.some renaming injEq→Xa
open Nat renaming reduceEqDiff→Xb,reduceLT→Xc,reduceAdd→Xe,reduceLeDiff→Xf,reduceBEq→Xg,le_refl→Xx,zero_add→XE,add_zero→Wb,lt_or_ge→Wx,add_assoc→WC,le_max_right→WU,le_max_left→WZ,one_mul→Xah,pow_le_pow_right→XaI,mod_eq_of_lt→XaW,shiftLeft_eq→XaY
open Prod.mk renaming injEq→Xd
open List renaming getD_eq_getElem?_getD→Xh,append_nil→Xp,mem_append→Xs,map_cons→Xt,getD_cons_zero→Xu,getElem?_set→Xv,mem_of_getElem?→XA,replicate→XC,nil_append→XD,all_eq_true→XF,length_nil→XG,length_cons→XH,map_nil→XM,take_of_length_le→XN,all_cons→XP,getElem?_eq_none→XQ,mem_cons→XS,length_map→XT,mem_map→XX,cons_append→XY,flatMap_nil→XZ,getElem?_eq_getElem→X1,range→X9,drop_eq_nil_iff→Wc,getElem?_append_left→We,all_nil→Wj,isEmpty_cons→Wp,pairwise_append→Wu,flatten_cons→Wz,mem_filter→WF,isEmpty_nil→WK,getElem?_map→WM,pairwise_cons→WS,flatten_nil→W5,range'→Xaq,drop_zero→Xaz,map_map→XaC,mem_cons_self→XaN,mapM_cons→XaQ,map_take→XaT,map_drop→XaU
open Bool renaming false_eq_true→Xi,and_eq_true→Xj,and_self→X0,or_eq_true→WE,false_and→WN,true_or→W9,or_true→XaO
open Option renaming map_eq_some_iff→Xn,map_some→X8,map→Wa,isSome_none→Xae
open Or renaming inl→Xr,inr→Xy
open BitVec renaming ofInt→XB
open Array renaming length_toList→XL,getElem?_eq_some_iff→XV,getD_eq_getD_getElem?→Ww,getD→WW,replicate→WY
open Int renaming reduceLT→X4,toNat→WB,toNat_natCast→Xay
open UInt8 renaming ofNat→Wm,toNat_ofNat'→Xav
open ByteArray renaming size→Wy
namespace Go.Proofs.YtfemfbchakdidaaGreatDoor
set_option maxHeartbeats 16000000
set_option maxRecDepth 10000
section
open Go.RowKit
section
variable {P:Program} {O:ZN} {bf:Nat->Bool} {an:Ann} {base:Nat->Prop} {w0:World} {I0:Imm} {dr:Door}
theorem ZIj {o:AOp} {tm tm1:Tms} {σ σ1:Za} {sq:Nat} {v:AVal} {c:Cls} (ht:o.ins.touches=false) (h:ZH O bf o sq tm σ=some (v,tm1,σ1,c)):c={}:=by
 unfold ZH at h
 split at h
 ·cases h
 ·simp only [Xa,Xd] at h;exact h.2.2.2.symm
 ·split at h
  ·split at h
   ·rename_i he
    simp only [Xa,Xd] at h
    rw [<-h.2.2.2]
    exact (ZC1 ht he).1
   ·cases h
  ·cases h
theorem Zjf {i:Ins} (h:i.touches=false):nsite i=0:=by cases i <;> simp [Ins.touches] at h <;> rfl
theorem Zh1 {asl:List AOp} {L:Nat} {cs:List Cls}:∀ {l:List Nat} {tm tm':Tms} {σ σ':Za},Zcr O bf asl L cs l tm σ tm' σ'->∀ j ∈ l,(asl.getD j default).ins.touches=false->cs.getD j {}={}
 | [],_,_,_,_,_,j,hj,_=>by simp at hj
 | i::l,_,_,_,_,h,j,hj,ht=>by
  cases h with
  | cons h1 _ h2 =>
   rcases XS.1 hj with rfl | hj
   ·exact ZIj ht h1
   ·exact Zh1 h2 j hj ht
theorem ZhE (asl:List AOp):∀ {j i:Nat},j < i->i<=asl.length->sitesOf (asl.take j)+nsite (asl.getD j default).ins<=sitesOf (asl.take i):=by
 intro j i hji hi
 induction i with
 | zero=>omega
 | succ i ih =>
  rw [Zpa asl (by omega)]
  by_cases e:j=i
  ·subst e
   simp [Xh,show j < asl.length by omega]
  ·have:=ih (by omega) (by omega);omega
theorem ZEr (hO:ZaE P O) (hkp:∀ n ∈ dr.K,n ∈ an.keep) (hb:KLt base w0) {ops:Array Oper} {asl:List AOp} (hcomp:Zdj P an ops ops.toList=some asl) {ps:List (Nat×Nat)} (hps:Ze1 asl=some ps) {L:Nat} {cs:List Cls} (hchk:Zdd asl L ps cs=true)
  {tmF:Tms} {σF:Za} {Q:Exit->Act->World->Prop} {I:Imm} {β:Bmap} (hQ:∀ a' w',StR dr an.nt base w0 I0 I β tmF σF a' w'->Q .normal a' w') :
  ∀ (fuel:Nat) (rem:List Nat) (listed:Array Bool) (a:Act) (w:World) (tm:Tms) (σ:Za),Zcr O bf asl L cs rem tm σ tmF σF->rem.Pairwise (· < ·)->(∀ j ∈ rem,j < ops.size)->(∀ j,j < ops.size->(listed.getD j true=true↔j ∉ rem))->listed.size=ops.size ->
   (∀ k,k < ops.size->k ∉ rem->∀ p ∈ (Zb1 (asl.map (·.after)) []).getD k [],p ∉ rem)->rem.length=fuel->StR dr an.nt base w0 I0 I β tm σ a w->wpAny P .any ops Q fuel listed a w:=by
 obtain ⟨hlen,hget⟩:=Ziq hcomp
 obtain ⟨hp1,hp2⟩:=Zwk hps
 obtain ⟨_,_,hanc⟩:=ZoO (asl.map (·.after)) [] (fun _ _ _=>trivial)
 simp only [XL] at hlen
 have hafter:∀ j o,ops[j]?=some o->∃ ao,asl.getD j default=ao/\Zgr P an ops o=some ao/\ao.after=(o.after.toList.filter (Region.binds .any)).map (·.on)/\ao.dst=o.dst:=by
  intro j o ho
  obtain ⟨ao,h1,h2⟩:=hget j o (by simpa using ho)
  refine ⟨ao,by simp [Xh,h1],h2,?_⟩
  obtain ⟨g,i,_,_,_,rfl⟩:=ZoY h2
  exact ⟨rfl,rfl⟩
 intro fuel
 induction fuel with
 | zero =>
  intro rem listed a w tm σ hr hs hlt hl hsz hcl hfl hst
  have : rem=[]:=List.eq_nil_of_length_eq_zero hfl
  subst this
  cases hr
  refine ⟨?_,hQ a w hst⟩
  apply List.eq_nil_iff_forall_not_mem.2
  intro j hj
  rw [mem_ready] at hj
  obtain ⟨h1,o,ho,_⟩:=hj
  have hjl:j < ops.size:=(XV.1 ho).1
  have:=(hl j hjl).2 (by simp)
  rw [h1] at this;cases this
 | succ fuel ih =>
  intro rem listed a w tm σ hr hs hlt hl hsz hcl hfl hst
  have isRem:∀ j,j < ops.size->listed.getD j true=false->j ∈ rem:=by
   intro j hj h
   by_cases hm:j ∈ rem
   ·exact hm
   ·have:=(hl j hj).2 hm;rw [h] at this;cases this
  have getD_tf:∀ j,j < ops.size->listed.getD j false=listed.getD j true:=by
   intro j hj
   simp [WW,hsz,hj]
  refine ⟨fun hnil=>?_,fun i hi=>?_⟩
  ·exfalso
   cases rem with
   | nil=>simp at hfl
   | cons r rs =>
    have hrl:r < ops.size:=hlt r (by simp)
    have hro:ops[r]?=some ops[r]:=by simp [hrl]
    obtain ⟨ao,e1,e2,e3,_⟩:=hafter r _ hro
    have : r ∈ Region.ready .any ops listed:=by
     rw [mem_ready]
     refine ⟨?_,ops[r],hro,fun e he hbnd=>?_⟩
     ·cases hq:listed.getD r true with
      | false=>rfl
      | true=>exact absurd (XaN) ((hl r hrl).1 hq)
     ·have hon:e.on ∈ ao.after:=by rw [e3];exact XX.2 ⟨e,WF.2 ⟨by simpa using he,hbnd⟩,rfl⟩
      have hlt':e.on < r:=hp2 r (by omega) e.on (by rw [e1];exact hon)
      rw [getD_tf _ (by omega)]
      refine (hl e.on (by omega)).2 (fun hm=>?_)
      rcases XS.1 hm with h | hm
      ·omega
      ·have:=(WS.1 hs).1 e.on hm;omega
    rw [hnil] at this;simp at this
  ·rw [mem_ready] at hi
   obtain ⟨hi0,o,ho,hpre⟩:=hi
   have hil:i < ops.size:=(XV.1 ho).1
   have him:=isRem i hil hi0
   obtain ⟨l1,l2,rfl⟩:=List.append_of_mem him
   obtain ⟨ao,e1,e2,e3,e4⟩:=hafter i o ho
   have hdone:∀ p ∈ (asl.getD i default).after,p < ops.size->p ∉ l1++i::l2:=by
    intro p hp hpl
    rw [e1,e3] at hp
    obtain ⟨e,he,rfl⟩:=XX.1 hp
    obtain ⟨he1,he2⟩:=WF.1 he
    have:=hpre e (by simpa using he1) he2
    rw [getD_tf _ hpl] at this
    exact (hl e.on hpl).1 this
   have hai:(asl.map (·.after)).getD i []=(asl.getD i default).after:=by
    simp [Xh,show i < asl.length by omega]
   have hanci:∀ p ∈ (Zb1 (asl.map (·.after)) []).getD i [],p ∉ l1++i::l2:=by
    intro p hp
    have hap:∀ q,q ∈ (asl.map (·.after)).getD i []->q < i:=fun q hq=>hp2 i (by omega) q (by rw [<-hai];exact hq)
    rcases hanc i (by simp;omega) p (by simpa using hp) with h | ⟨q,h1,h2,h3⟩
    ·exact hdone p (by rw [<-hai];exact h) (by have:=hap p h;omega)
    ·have hql:q < ops.size:=by simp at h2;omega
     exact hcl q hql (hdone q (by rw [<-hai];exact h1) hql) p h3
   have hl1:∀ j ∈ l1,j < i:=by
    intro j hj
    have:=Wu.1 hs
    exact this.2.2 j hj i (by simp)
   obtain ⟨v1,tm1,σ1,h1,hnp1,h2⟩:=Zne (l1:=l1) (i:=i) (fun j hj=>by
    have hji:=hl1 j hj
    have hjn:j ∉ (Zb1 (asl.map (·.after)) []).getD i []:=fun hm=>hanci j hm (by simp [hj])
    obtain ⟨p1,p2⟩:=hp1 j i hji (by omega) hjn
    refine ⟨p1,?_,fun hn _=>?_,?_⟩
    ·rcases p2 with p2 | p2 | p2
     ·have:=Zh1 hr j (by simp [hj]) p2
      have hem:Zb7 (asl.getD j default) (cs.getD j {})=true:=by rw [this];simp only [Zb7,Zjf p2];rfl
      simp only [Zck,hem,W9]
     ·have:=Zh1 hr i (by simp) p2
      have hem:Zb7 (asl.getD i default) (cs.getD i {})=true:=by rw [this];simp only [Zb7,Zjf p2];rfl
      simp only [Zck,hem,W9,XaO]
     ·have:=XF.1 hchk (j,i) p2
      simp only [WE,beq_iff_eq] at this
      rcases this with h | h
      ·omega
      ·exact h
    ·have:=ZhE asl hji (by omega)
     omega
    ·have:=ZhE asl hji (by omega)
     omega) hr
   unfold wpOp
   rw [ho]
   rw [e1] at h1
   obtain ⟨I',β',g1,g2,g3,g4,g5⟩:=hst
   refine ZiB hO hkp e2 g3 g4 g5 hb h1 (fun _ a' w' hs'=>ih (l1++l2) _ a' w' tm1 σ1 h2 ?_ ?_ ?_ (by simpa using hsz) ?_ ?_ (hs'.trans g1 g2)) (fun x e=>absurd e (hnp1 x))
   ·have:=Wu.1 hs
    exact Wu.2 ⟨this.1,(WS.1 this.2.1).2,fun x hx y hy=>this.2.2 x hx y (by simp [hy])⟩
   ·intro j hj
    refine hlt j ?_
    simp only [Xs,XS] at hj ⊢
    rcases hj with h | h
    ·exact Xr h
    ·exact Xy (Xy h)
   ·intro j hj
    have hs1:=Wu.1 hs
    by_cases hij:i=j
    ·subst hij
     have hn:i ∉ l1++l2:=by
      intro hm
      rcases Xs.1 hm with h | h
      ·have:=hl1 i h;omega
      ·have:=(WS.1 hs1.2.1).1 i h;omega
     simp [WW,hsz,hil,hn]
    ·rw [getD_set_ne true hij,hl j hj]
     simp only [Xs,XS,not_or]
     constructor
     ·rintro ⟨a1,_,a3⟩;exact ⟨a1,a3⟩
     ·rintro ⟨a1,a3⟩;exact ⟨a1,fun e=>hij e.symm,a3⟩
   ·intro k hk hkn p hp hm
    have hsub:p ∈ l1++i::l2:=by
     simp only [Xs,XS] at hm ⊢
     rcases hm with h | h
     ·exact Xr h
     ·exact Xy (Xy h)
    by_cases hki:k=i
    ·subst hki;exact hanci p hp hsub
    ·refine hcl k hk (fun hkm=>hkn ?_) p hp hsub
     simp only [Xs,XS] at hkm ⊢
     rcases hkm with h | h | h
     ·exact Xr h
     ·exact absurd h hki
     ·exact Xy h
   ·simp at hfl ⊢;omega
theorem ZJJ (hO:ZaE P O) (hkp:∀ n ∈ dr.K,n ∈ an.keep) (hb:KLt base w0) {ops:Array Oper} {asl:List AOp} (hcomp:Zdj P an ops ops.toList=some asl) {ps:List (Nat×Nat)} (hps:Ze1 asl=some ps) {L:Nat} {cs:List Cls} {jp:Nat} (hjl:jp < ops.size) (hmark:(jp,jp) ∈ ps) (hmarkT:(asl.getD jp default).ins.touches=true) (hfree:∀ j i,(j,i) ∈ ps->j < i->i<=jp->Zck (asl.getD j default) (asl.getD i default) (cs.getD j {}) (cs.getD i {}) (L+sitesOf (asl.take j))=true) (hquiet:∀ j,(j,jp) ∈ ps->j < jp->Z4 (asl.getD j default).ins=true)
  {x:AVal} {σF:Za} {Q:Exit->Act->World->Prop} {I:Imm} {β:Bmap} (hQ:∀ a' u w',dr.ok a'->Post base w0 I0 I β x σF u w'->Q (.panic [{ v:=u,recovered:=false }]) a' w') :
  ∀ (fuel:Nat) (pre post:List Nat) (listed:Array Bool) (a:Act) (w:World) (tm tmJ tmX:Tms) (σ σJ:Za),Zcr O bf asl L cs pre tm σ tmJ σJ->ZH O bf (asl.getD jp default) (L+sitesOf (asl.take jp)) tmJ σJ=some (.pan x,tmX,σF,cs.getD jp {})->(pre++jp::post).Pairwise (· < ·)->(∀ j ∈ pre++jp::post,j < ops.size)->(∀ j,j < ops.size->(listed.getD j true=true↔j ∉ pre++jp::post))->listed.size=ops.size ->
   (∀ k,k < ops.size->k ∉ pre++jp::post->∀ p ∈ (Zb1 (asl.map (·.after)) []).getD k [],p ∉ pre++jp::post)->(pre++jp::post).length=fuel->StR dr an.nt base w0 I0 I β tm σ a w->wpAny P .any ops Q fuel listed a w:=by
 obtain ⟨hlen,hget⟩:=Ziq hcomp
 obtain ⟨hp1,hp2⟩:=Zwk hps
 have hmk:=ZCK hps hmark
 obtain ⟨_,_,hanc⟩:=ZoO (asl.map (·.after)) [] (fun _ _ _=>trivial)
 simp only [XL] at hlen
 have hafter:∀ j o,ops[j]?=some o->∃ ao,asl.getD j default=ao/\Zgr P an ops o=some ao/\ao.after=(o.after.toList.filter (Region.binds .any)).map (·.on)/\ao.dst=o.dst:=by
  intro j o ho
  obtain ⟨ao,h1,h2⟩:=hget j o (by simpa using ho)
  refine ⟨ao,by simp [Xh,h1],h2,?_⟩
  obtain ⟨g,i,_,_,_,rfl⟩:=ZoY h2
  exact ⟨rfl,rfl⟩
 intro fuel
 induction fuel with
 | zero =>
  intro pre post listed a w tm tmJ tmX σ σJ hr hj hs hlt hl hsz hcl hfl hst
  simp at hfl
 | succ fuel ih =>
  intro pre post listed a w tm tmJ tmX σ σJ hr hj hs hlt hl hsz hcl hfl hst
  have getD_tf:∀ j,j < ops.size->listed.getD j false=listed.getD j true:=by
   intro j hj
   simp [WW,hsz,hj]
  have isRem:∀ j,j < ops.size->listed.getD j true=false->j ∈ pre++jp::post:=by
   intro j hj h
   by_cases hm:j ∈ pre++jp::post
   ·exact hm
   ·have:=(hl j hj).2 hm;rw [h] at this;cases this
  refine ⟨fun hnil=>?_,fun i hi=>?_⟩
  ·exfalso
   obtain ⟨r,rs,hrr⟩:∃ r rs,pre++jp::post=r::rs:=by cases pre <;> simp
   rw [hrr] at hs hlt hl
   have hrl:r < ops.size:=hlt r (by simp)
   have hro:ops[r]?=some ops[r]:=by simp [hrl]
   obtain ⟨ao,e1,e2,e3,_⟩:=hafter r _ hro
   have : r ∈ Region.ready .any ops listed:=by
    rw [mem_ready]
    refine ⟨?_,ops[r],hro,fun e he hbnd=>?_⟩
    ·cases hq:listed.getD r true with
     | false=>rfl
     | true=>exact absurd (XaN) ((hl r hrl).1 hq)
    ·have hon:e.on ∈ ao.after:=by rw [e3];exact XX.2 ⟨e,WF.2 ⟨by simpa using he,hbnd⟩,rfl⟩
     have hlt':e.on < r:=hp2 r (by omega) e.on (by rw [e1];exact hon)
     rw [getD_tf _ (by omega)]
     refine (hl e.on (by omega)).2 (fun hm=>?_)
     rcases XS.1 hm with h | hm
     ·omega
     ·have:=(WS.1 hs).1 e.on hm;omega
   rw [hnil] at this;simp at this
  ·rw [mem_ready] at hi
   obtain ⟨hi0,o,ho,hpre⟩:=hi
   have hil:i < ops.size:=(XV.1 ho).1
   have him:=isRem i hil hi0
   obtain ⟨ao,e1,e2,e3,e4⟩:=hafter i o ho
   have hdone:∀ p ∈ (asl.getD i default).after,p < ops.size->p ∉ pre++jp::post:=by
    intro p hp hpl
    rw [e1,e3] at hp
    obtain ⟨e,he,rfl⟩:=XX.1 hp
    obtain ⟨he1,he2⟩:=WF.1 he
    have:=hpre e (by simpa using he1) he2
    rw [getD_tf _ hpl] at this
    exact (hl e.on hpl).1 this
   have hai:(asl.map (·.after)).getD i []=(asl.getD i default).after:=by
    simp [Xh,show i < asl.length by omega]
   have hanci:∀ p ∈ (Zb1 (asl.map (·.after)) []).getD i [],p ∉ pre++jp::post:=by
    intro p hp
    have hap:∀ q,q ∈ (asl.map (·.after)).getD i []->q < i:=fun q hq=>hp2 i (by omega) q (by rw [<-hai];exact hq)
    rcases hanc i (by simp;omega) p (by simpa using hp) with h | ⟨q,h1,h2,h3⟩
    ·exact hdone p (by rw [<-hai];exact h) (by have:=hap p h;omega)
    ·have hql:q < ops.size:=by simp at h2;omega
     exact hcl q hql (hdone q (by rw [<-hai];exact h1) hql) p h3
   have hss:=Wu.1 hs
   rw [Xs,XS] at him
   rcases him with him | hij | him
   ·obtain ⟨l1,l2,rfl⟩:=List.append_of_mem him
    have hl1:∀ j ∈ l1,j < i:=by
     intro j hj
     exact (Wu.1 hss.1).2.2 j hj i (by simp)
    have hijp:i < jp:=hss.2.2 i (by simp) jp (by simp)
    obtain ⟨v1,tm1,σ1,h1,hnp1,h2⟩:=Zne (l1:=l1) (i:=i) (fun j hj'=>by
     have hji:=hl1 j hj'
     have hjn:j ∉ (Zb1 (asl.map (·.after)) []).getD i []:=fun hm=>hanci j hm (by simp [hj'])
     obtain ⟨p1,p2⟩:=hp1 j i hji (by omega) hjn
     refine ⟨p1,?_,fun hn _=>?_,?_⟩
     ·rcases p2 with p2 | p2 | p2
      ·have:=Zh1 hr j (by simp [hj']) p2
       have hem:Zb7 (asl.getD j default) (cs.getD j {})=true:=by rw [this];simp only [Zb7,Zjf p2];rfl
       simp only [Zck,hem,W9]
      ·have:=Zh1 hr i (by simp) p2
       have hem:Zb7 (asl.getD i default) (cs.getD i {})=true:=by rw [this];simp only [Zb7,Zjf p2];rfl
       simp only [Zck,hem,W9,XaO]
      ·exact hfree j i p2 hji (by omega)
     ·have:=ZhE asl hji (by omega)
      omega
     ·have:=ZhE asl hji (by omega)
      omega) hr
    have eA:(l1++i::l2)++jp::post=l1++i::(l2++jp::post):=by simp
    have eB:(l1++l2)++jp::post=l1++(l2++jp::post):=by simp
    rw [eA] at hs hlt hl hcl hanci hfl
    unfold wpOp
    rw [ho]
    rw [e1] at h1
    obtain ⟨I',β',g1,g2,g3,g4,g5⟩:=hst
    refine ZiB hO hkp e2 g3 g4 g5 hb h1 (fun _ a' w' hs'=>ih (l1++l2) post _ a' w' tm1 tmJ tmX σ1 σJ h2 hj ?_ ?_ ?_ (by simpa using hsz) ?_ ?_ (hs'.trans g1 g2)) (fun x e=>absurd e (hnp1 x))
    ·rw [eB]
     have:=Wu.1 hs
     exact Wu.2 ⟨this.1,(WS.1 this.2.1).2,fun x hx y hy=>this.2.2 x hx y (by simp only [XS];exact Xy hy)⟩
    ·intro j hj
     rw [eB] at hj
     refine hlt j ?_
     simp only [Xs,XS] at hj ⊢
     rcases hj with h | h | h | h
     ·exact Xr h
     ·exact Xy (Xy (Xr h))
     ·exact Xy (Xy (Xy (Xr h)))
     ·exact Xy (Xy (Xy (Xy h)))
    ·intro j hj
     rw [eB]
     generalize l2++jp::post=L2 at *
     have hs1:=Wu.1 hs
     by_cases hij:i=j
     ·subst hij
      have hn:i ∉ l1++L2:=by
       intro hm
       rcases Xs.1 hm with h | h
       ·have:=hl1 i h;omega
       ·have:=(WS.1 hs1.2.1).1 i h;omega
      simp [WW,hsz,hil,hn]
     ·rw [getD_set_ne true hij,hl j hj]
      simp only [Xs,XS,not_or]
      constructor
      ·rintro ⟨a1,_,a3⟩;exact ⟨a1,a3⟩
      ·rintro ⟨a1,a3⟩;exact ⟨a1,fun e=>hij e.symm,a3⟩
    ·intro k hk hkn p hp hm
     rw [eB] at hkn hm
     generalize l2++jp::post=L2 at *
     have hsub:p ∈ l1++i::L2:=by
      simp only [Xs,XS] at hm ⊢
      rcases hm with h | h
      ·exact Xr h
      ·exact Xy (Xy h)
     by_cases hki:k=i
     ·subst hki;exact hanci p hp hsub
     ·refine hcl k hk (fun hkm=>hkn ?_) p hp hsub
      simp only [Xs,XS] at hkm ⊢
      rcases hkm with h | h | h
      ·exact Xr h
      ·exact absurd h hki
      ·exact Xy h
    ·rw [eB];simp at hfl ⊢;omega
   ·subst hij
    have hl1:∀ j ∈ pre,j < i:=fun j hj=>hss.2.2 j hj i (by simp)
    obtain ⟨tm1,h1⟩:=Zus (l1:=pre) (i:=i) (fun j hj'=>by
     have hji:=hl1 j hj'
     have hjn:j ∉ (Zb1 (asl.map (·.after)) []).getD i []:=fun hm=>hanci j hm (by simp [hj'])
     obtain ⟨p1,p2⟩:=hp1 j i hji (by omega) hjn
     have hts:(asl.getD i default).ins.touches=false->False:=fun h=>by
      have:=hmarkT
      rw [h] at this;cases this
     refine ⟨?_,p1,?_,fun hn _=>?_,?_⟩
     ·rcases p2 with p2 | p2 | p2
      ·exact Xr p2
      ·exact (hts p2).elim
      ·exact Xy (hquiet j p2 hji)
     ·rcases p2 with p2 | p2 | p2
      ·have:=Zh1 hr j hj' p2
       have hem:Zb7 (asl.getD j default) (cs.getD j {})=true:=by rw [this];simp only [Zb7,Zjf p2];rfl
       simp only [Zck,hem,W9]
      ·exact (hts p2).elim
      ·exact hfree j i p2 hji (Xx _)
     ·have:=ZhE asl hji (by omega)
      omega
     ·have:=ZhE asl hji (by omega)
      omega) hr hj
    unfold wpOp
    rw [ho]
    rw [e1] at h1
    obtain ⟨I',β',g1,g2,g3,g4,g5⟩:=hst
    refine ZiB hO hkp e2 g3 g4 g5 hb h1 (fun hn=>absurd rfl (hn x)) (fun x' e u w' hp=>?_)
    injection e with e
    subst e
    exact hQ a u w' g4.1 (hp.trans g1 g2)
   ·exfalso
    have hlt2:jp < i:=(WS.1 hss.2.1).1 i him
    exact hanci jp (hmk i hlt2 (by omega)) (by simp)
theorem Rel.reserve {I:Imm} {β:Bmap} {σ:Za} {w:World} (R:Rel base w0 I0 I β σ w) (n:Nat):Rel base w0 I0 I β (σ++XC n .free) w:=by
 have look:∀ t x,(σ++XC n ZK.free)[t]?=some x->σ[t]?=some x\/(σ.length<=t/\x=.free):=by
  intro t x h
  by_cases ht:t < σ.length
  ·rw [We ht] at h;exact Xr h
  ·rw [List.getElem?_append_right (by omega)] at h
   refine Xy ⟨by omega,?_⟩
   have:=XA h
   exact List.eq_of_mem_replicate this
 refine ⟨R.below,R.old,R.imm,?_,?_,?_,?_,?_,?_,R.glob⟩
 ·intro t x h
  rcases look t x h with h | ⟨_,rfl⟩
  ·exact R.blk t x h
  ·trivial
 ·intro t x b h hb
  rcases look t x h with h | ⟨_,rfl⟩
  ·exact R.own t x b h hb
  ·cases hb
 ·intro t x t' x' b h h' hb hb'
  rcases look t x h with h | ⟨_,rfl⟩
  ·rcases look t' x' h' with h' | ⟨_,rfl⟩
   ·exact R.apart t x t' x' b h h' hb hb'
   ·cases hb'
  ·cases hb
 ·intro t g h
  exact R.fresh t g (by simp at h;omega)
 ·intro t g h
  rcases look t _ h with h | ⟨h,_⟩
  ·exact R.free t g h
  ·exact R.fresh t g h
 ·intro t x g h hg
  rcases look t _ h with h | ⟨h,_⟩
  ·exact R.gen t x g h hg
  ·exact R.fresh t g h
theorem StR.keep {I:Imm} {β:Bmap} {tm:Tms} {σ:Za} {a:Act} {w:World} (h:StR dr an.nt base w0 I0 I β tm σ a w) (live:List Nat):StR dr an.nt base w0 I0 I β (keepL live tm) σ a w:=by
 obtain ⟨I',β',h1,h2,h3,h4⟩:=h
 exact ⟨I',β',h1,h2,h3.keep live,h4⟩
def ZKq (dr:Door) (an:Ann) (base:Nat->Prop) (w0:World) (I0 I:Imm) (β:Bmap) (e:ZaQ) (tm:Tms) (σ:Za) (Q:Exit->Act->World->Prop):Prop:=match e with
 | .normal=>∀ a w,StR dr an.nt base w0 I0 I β tm σ a w->Q .normal a w
 | .exit id=>∀ a w,StR dr an.nt base w0 I0 I β tm σ a w->Q (.exit id) a w
 | .ret=>∀ a w,StR dr an.nt base w0 I0 I β tm σ a w->Q .ret a w
 | .panic x=>∀ a u w,dr.ok a->Post base w0 I0 I β x σ u w->Q (.panic [{ v:=u,recovered:=false }]) a w
theorem Zly (hO:ZaE P O) (hkp:∀ n ∈ dr.K,n ∈ an.keep) (hm:P.follows .mixedOrders=true) (hb:KLt base w0) {id:Nat} {ops:Array Oper} {draw:Bool} {asl:List AOp} {chk:Option (List (Nat×Nat))} {live:List Nat} (hc:Za0 P an (.region id ops draw)=.region asl chk live) {I:Imm} {β:Bmap} {tm tm':Tms} {σ σ':Za} {a:Act} {w:World} {e:ZaQ}
  (hst:StR dr an.nt base w0 I0 I β tm σ a w) (h:ZbV O bf asl chk live tm σ=some (e,tm',σ')) {Q:Exit->Act->World->Prop} (hQ:ZKq dr an base w0 I0 I β e tm' σ' Q):(Code.region id ops draw).wp P Q a w:=by
 obtain ⟨I1,β1,g1,g2,g3,g4,g5⟩:=hst
 simp only [Za0] at hc
 split at hc
 ·rename_i l hl
  unfold ZbV at h
  split at hc
  ·rename_i hd
   subst hd
   split at hc
   ·rename_i ps hps
    simp only [Zf.region.injEq] at hc
    obtain ⟨rfl,rfl,rfl⟩:=hc
    cases hrun:ZZ O bf l σ.length tm (σ++XC (sitesOf l) .free) with
    | none=>rw [hrun] at h;simp only [ZcG] at h;cases h
    | some q =>
     obtain ⟨tm1,σ1,cs,p⟩:=q
     rw [hrun] at h
     cases p with
     | some x =>
      simp only [ZcG] at h
      split at h
      ·rename_i hpan
       simp only [Xa,Xd] at h
       obtain ⟨rfl,rfl,rfl⟩:=h
       have hlen:=(Ziq hl).1
       simp only [XL] at hlen
       obtain ⟨n,tmJ,σJ,tmX,q1,q2,q3,q4⟩:=Zv1 (O:=O) (bf:=bf) (ops:=l) (L:=σ.length) l.length 0 (cs:=cs) (cs':=cs) (by omega) (by simpa [sitesOf] using hrun) (fun j=>by simp)
       rw [XE] at q4
       unfold Zdc at hpan
       rw [q2] at hpan
       simp only [Xj,List.any_eq_true,XF,WE,beq_iff_eq,decide_eq_true_eq,Nat.add_sub_cancel] at hpan
       obtain ⟨⟨pm,hpm,hm1,hm2⟩,hall⟩:=hpan
       have hmk:(n,n) ∈ ps:=by
        obtain ⟨a1,a2⟩:=pm
        simp only at hm1 hm2
        subst hm1 hm2
        exact hpm
       have hT:(l.getD n default).ins.touches=true:=ZGq hps hmk
       refine wp_region_any hm (ZJJ hO hkp hb hl hps (jp:=n) (by omega) hmk hT (fun j i hji h1 h2=>?_) (fun j hj h1=>?_) (I:=I) (β:=β) (x:=x) (fun a' u w' hd' hp=>hQ a' u w' hd' hp) ops.size (Xaq 0 n) (Xaq (n+1) (l.length - n - 1)) _ a _ tm tmJ tmX _ σJ q3 q4 ?_ ?_ ?_ (by simp) ?_ (by simp;omega) ⟨I1,β1,g1,g2,g3,g4,(g5.reserve _).same rfl rfl rfl rfl⟩)
       ·rcases hall (j,i) hji with (h | h) | ⟨h,_⟩
        ·simp only at h;omega
        ·simp only at h;omega
        ·exact h
       ·rcases hall (j,n) hj with (h | h) | ⟨_,h⟩
        ·simp only at h;omega
        ·simp only at h;omega
        ·rcases h with h | h
         ·simp only at h;omega
         ·exact h
       ·have e:Xaq 0 n++n::Xaq (n+1) (l.length - n - 1)=Xaq 0 l.length:=by
         rw [<-List.range'_succ]
         have:=List.range'_append_1 (s:=0) (m:=n) (n:=l.length - n - 1+1)
         rw [XE] at this
         rw [this]
         congr 1
         omega
        rw [e];exact List.pairwise_lt_range'
       ·intro j hj;simp at hj;omega
       ·intro j hj
        simp [WW,hj]
        omega
       ·intro k hk hkn
        exact absurd (by simp;omega) hkn
      ·cases h
     | none =>
      simp only [ZcG] at h
      split at h
      ·rename_i hchk
       simp only [Xa,Xd] at h
       obtain ⟨rfl,rfl,rfl⟩:=h
       have hlen:=(Ziq hl).1
       simp only [XL] at hlen
       have hr:=Zuw (O:=O) (bf:=bf) (ops:=l) (L:=σ.length) l.length 0 (cs:=cs) (cs':=cs) (by omega) (by simpa [sitesOf] using hrun) (fun j=>by simp)
       refine wp_region_any hm (ZEr hO hkp hb hl hps hchk (I:=I) (β:=β) (fun a' w' hs=>hQ a' w' (hs.keep _)) ops.size (Xaq 0 l.length) _ a _ tm _ hr ?_ ?_ ?_ (by simp) ?_ (by simp [hlen]) ⟨I1,β1,g1,g2,g3,g4,(g5.reserve _).same rfl rfl rfl rfl⟩)
       ·exact List.pairwise_lt_range'
       ·intro j hj;simp at hj;omega
       ·intro j hj
        simp [WW,hj,hlen]
       ·intro k hk hkn
        exact absurd (by simp;omega) hkn
      ·cases h
   ·cases hc
  ·rename_i hd
   simp only [Zf.region.injEq] at hc
   obtain ⟨rfl,rfl,rfl⟩:=hc
   have hdf:draw=false:=by cases draw <;> simp_all
   subst hdf
   cases hrun:ZZ O bf l σ.length tm (σ++XC (sitesOf l) .free) with
   | none=>rw [hrun] at h;simp only [ZcG] at h;cases h
   | some q =>
    obtain ⟨tm1,σ1,cs,p⟩:=q
    rw [hrun] at h
    cases p with
    | none =>
     simp only [ZcG,Xa,Xd] at h
     obtain ⟨rfl,rfl,rfl⟩:=h
     exact wp_region_list (ZqG hO hkp hb hl g3 g4 (g5.reserve _) hrun (fun _ a' w' hs=>hQ a' w' ((hs.trans g1 g2).keep _)) (fun x hx=>by cases hx))
    | some x =>
     simp only [ZcG,Xa,Xd] at h
     obtain ⟨rfl,rfl,rfl⟩:=h
     exact wp_region_list (ZqG hO hkp hb hl g3 g4 (g5.reserve _) hrun (fun hx=>by cases hx) (fun x' hx a' u w' hd' hp=>by
      injection hx with hx;subst hx
      exact hQ a' u w' hd' (hp.trans g1 g2)))
 ·cases hc
end
end
section
open Go.RowKit
section
variable {P:Program} {O:ZN} {bf:Nat->Bool} {an:Ann} {base:Nat->Prop} {w0:World} {I0:Imm} {dr:Door}
def StF (dr:Door) (m nt:Nat) (base:Nat->Prop) (w0:World) (I0 I:Imm) (β:Bmap) (tm:Tms) (σ:Za) (a:Act) (w:World):Prop :=
 ∃ I' β',I.le I'/\KeptE m β β'/\TR I' β' tm a.tmps/\(dr.ok a/\nt<=a.tmps.size)/\Rel base w0 I0 I' β' σ w
def Zy4 (dr:Door) (m:Nat) (an:Ann) (base:Nat->Prop) (w0:World) (I0 I:Imm) (β:Bmap) (e:ZaQ) (tm:Tms) (σ:Za) (Q:Exit->Act->World->Prop):Prop:=match e with
 | .normal=>∀ a w,StF dr m an.nt base w0 I0 I β tm σ a w->Q .normal a w
 | .exit id=>∀ a w,StF dr m an.nt base w0 I0 I β tm σ a w->Q (.exit id) a w
 | .ret=>∀ a w,StF dr m an.nt base w0 I0 I β tm σ a w->Q .ret a w
 | .panic x=>∀ a u w,dr.ok a->ZbP m base w0 I0 I β (.pan x) σ u w->Q (.panic [{ v:=u,recovered:=false }]) a w
theorem StF.cond {m:Nat} {I:Imm} {β:Bmap} {tm:Tms} {σ:Za} {a:Act} {w:World} (h:StF dr m an.nt base w0 I0 I β tm σ a w) {c:Operand} {y:Opd} (hc:Zan c=some y) {b:Bool} (hv:y.ev tm=.bool b):a.eval c=.bool b:=by
 obtain ⟨I',β',_,_,T,_,_⟩:=h
 have:=Zat T hc
 rw [hv] at this
 simpa only [VR] using this
theorem Zjv (hO:ZaE P O) (hkp:∀ n ∈ dr.K,n ∈ an.keep) (hm:P.follows .mixedOrders=true) (hb:KLt base w0) (m n:Nat):∀ {c:Code} {ac:Zf},Za0 P an c=ac->∀ {I:Imm} {β:Bmap} {tm tm':Tms} {σ σ':Za} {a:Act} {w:World} {e:ZaQ},StF dr m an.nt base w0 I0 I β tm σ a w->Zaa O bf m n ac tm σ=some (e,tm',σ') ->
  ∀ {Q:Exit->Act->World->Prop},Zy4 dr m an base w0 I0 I β e tm' σ' Q->c.wp P Q a w:=by
 intro c
 induction c with
 | skip =>
  intro ac hc I β tm tm' σ σ' a w e hst h Q hQ
  simp only [Za0] at hc;subst hc
  simp only [Zaa,Xa,Xd] at h
  obtain ⟨rfl,rfl,rfl⟩:=h
  exact wp_skip (hQ a w hst)
 | region id ops draw =>
  intro ac hc I β tm tm' σ σ' a w e hst h Q hQ
  obtain ⟨asl,chk,live,rfl⟩:∃ asl chk live,ac=.region asl chk live:=by
   simp only [Za0] at hc
   split at hc
   ·split at hc
    ·split at hc
     ·exact ⟨_,_,_,hc.symm⟩
     ·subst hc;simp only [Zaa] at h;cases h
    ·exact ⟨_,_,_,hc.symm⟩
   ·subst hc;simp only [Zaa] at h;cases h
  simp only [Zaa] at h
  obtain ⟨I1,β1,g1,g2,g3,g4,g5⟩:=hst
  have up:∀ {tm:Tms} {σ:Za} {a':Act} {w':World},StR dr an.nt base w0 I0 I1 β1 tm σ a' w'->StF dr m an.nt base w0 I0 I β tm σ a' w':=by
   rintro tm σ a' w' ⟨I2,β2,k1,k2,k3⟩
   exact ⟨I2,β2,g1.trans k1,g2.trans (KeptE.of_le k2),k3⟩
  refine Zly hO hkp hm hb hc (⟨I1,β1,Imm.le.refl I1,Bmap.le.refl β1,g3,g4,g5⟩:StR dr an.nt base w0 I0 I1 β1 tm σ a w) h ?_
  cases e with
  | normal=>exact fun a' w' hs=>hQ a' w' (up hs)
  | exit id=>exact fun a' w' hs=>hQ a' w' (up hs)
  | ret=>exact fun a' w' hs=>hQ a' w' (up hs)
  | panic x =>
   rintro a' u w' hd ⟨I2,β2,k1,k2,k3,k4⟩
   exact hQ a' u w' hd ⟨I2,β2,g1.trans k1,g2.trans (KeptE.of_le k2),k3,k4⟩
 | seq x y ihx ihy =>
  intro ac hc I β tm tm' σ σ' a w e hst h Q hQ
  simp only [Za0] at hc
  subst hc
  simp only [Zaa] at h
  refine wp_seq ?_
  split at h
  ·rename_i tm1 σ1 h1
   exact ihx rfl hst h1 (fun a' w' hs=>ihy rfl hs h hQ)
  ·rename_i hne
   refine ihx rfl hst h ?_
   cases e with
   | normal=>exact absurd h (hne _ _)
   | exit id=>exact hQ
   | ret=>exact hQ
   | panic x=>exact hQ
 | cond c x y ihx ihy =>
  intro ac hc I β tm tm' σ σ' a w e hst h Q hQ
  simp only [Za0] at hc
  split at hc
  ·rename_i c' hcc
   subst hc
   simp only [Zaa] at h
   split at h
   ·rename_i hv
    exact wp_cond_true (hst.cond hcc hv) (ihx rfl hst h hQ)
   ·rename_i hv
    exact wp_cond_false (hst.cond hcc hv) (ihy rfl hst h hQ)
   ·cases h
  ·subst hc;simp only [Zaa] at h;cases h
 | block id x ih =>
  intro ac hc I β tm tm' σ σ' a w e hst h Q hQ
  simp only [Za0] at hc
  subst hc
  have hx:Za0 P an x=Za0 P an x:=rfl
  simp only [Zaa] at h
  refine wp_block ?_
  split at h
  ·rename_i i tm1 σ1 h1
   refine ih hx hst h1 ?_
   intro a' w' hs
   simp only [Exit.inBlock]
   split at h
   ·rename_i hid
    simp only [Xa,Xd] at h
    obtain ⟨rfl,rfl,rfl⟩:=h
    rw [if_pos hid]
    exact hQ a' w' hs
   ·rename_i hid
    simp only [Xa,Xd] at h
    obtain ⟨rfl,rfl,rfl⟩:=h
    rw [if_neg hid]
    exact hQ a' w' hs
  ·rename_i hne
   refine ih hx hst h ?_
   cases e with
   | normal=>exact hQ
   | exit id=>exact absurd h (hne _ _ _)
   | ret=>exact hQ
   | panic x=>exact hQ
 | loop x ih =>
  intro ac hc I β tm tm' σ σ' a w e hst h Q hQ
  simp only [Za0] at hc
  subst hc
  have hx:Za0 P an x=Za0 P an x:=rfl
  simp only [Zaa] at h
  refine wp_loop_rounds n ?_
  have key:∀ k {tm:Tms} {σ:Za} {a:Act} {w:World},StF dr m an.nt base w0 I0 I β tm σ a w->Zdm m (an.ll (Zfa x)) (Zaa O bf m n (Za0 P an x)) k tm σ=some (e,tm',σ')->Code.rounds P x Q k a w:=by
   intro k
   induction k with
   | zero=>intro tm σ a w _ h;simp only [Zdm] at h;cases h
   | succ k ihk =>
    intro tm σ a w hst h
    rw [rounds_succ]
    simp only [Zdm] at h
    obtain ⟨I1,β1,k1,k2,k3,k4,k5⟩:=hst
    obtain ⟨β2,q1,q2,q3⟩:=Zzd k5 (k3.keep (an.ll (Zfa x))) m
    have hst0:StF dr m an.nt base w0 I0 I β (gcT m (keepL (an.ll (Zfa x)) tm) σ).1 (gcT m (keepL (an.ll (Zfa x)) tm) σ).2 a w:=⟨I1,β2,k1,k2.trans q1,q3,k4,q2⟩
    split at h
    ·rename_i tm1 σ1 h1
     exact ih hx hst0 h1 (fun a' w' hs=>ihk hs h)
    ·rename_i hne
     refine ih hx hst0 h ?_
     cases e with
     | normal=>exact absurd h (hne _ _)
     | exit id=>exact hQ
     | ret=>exact hQ
     | panic x=>exact hQ
  exact key n hst h
 | exit id =>
  intro ac hc I β tm tm' σ σ' a w e hst h Q hQ
  simp only [Za0] at hc;subst hc
  simp only [Zaa,Xa,Xd] at h
  obtain ⟨rfl,rfl,rfl⟩:=h
  exact wp_exit (hQ a w hst)
 | ret =>
  intro ac hc I β tm tm' σ σ' a w e hst h Q hQ
  simp only [Za0] at hc;subst hc
  simp only [Zaa,Xa,Xd] at h
  obtain ⟨rfl,rfl,rfl⟩:=h
  exact wp_ret (hQ a w hst)
 | rangeFunc f ps x y=>intro ac hc I β tm tm' σ σ' a w e hst h;simp only [Za0] at hc;subst hc;simp only [Zaa] at h;cases h
 | scope x ih =>
  intro ac hc I β tm tm' σ σ' a w e hst h Q hQ
  simp only [Za0] at hc
  refine wp_scope_straight (ih hc hst h ?_)
  cases e with
  | normal=>exact hQ
  | exit id=>exact hQ
  | ret=>exact hQ
  | panic x=>exact hQ
 | label l =>
  intro ac hc I β tm tm' σ σ' a w e hst h Q hQ
  simp only [Za0] at hc;subst hc
  simp only [Zaa,Xa,Xd] at h
  obtain ⟨rfl,rfl,rfl⟩:=h
  exact wp_label (hQ a w hst)
 | goto l=>intro ac hc I β tm tm' σ σ' a w e hst h;simp only [Za0] at hc;subst hc;simp only [Zaa] at h;cases h
 | refuse why=>intro ac hc I β tm tm' σ σ' a w e hst h;simp only [Za0] at hc;subst hc;simp only [Zaa] at h;cases h
theorem ZIv {I:Imm} {β:Bmap} {σ σ':Za} {k:Option Nat} {a x:AVal} {c:Cls} {v:Value} (ha:VR I β a v) (h:ldA σ k a=some (x,σ',c)):∃ ad,v=.pointer (some ad):=by
 unfold ldA at h
 split at h
 ·simp only [VR] at ha;obtain ⟨b,k,c,_,rfl⟩:=ha;exact ⟨_,rfl⟩
 ·simp only [VR] at ha;obtain ⟨b,k,c,_,rfl⟩:=ha;exact ⟨_,rfl⟩
 ·simp only [VR] at ha;obtain ⟨b,off,rfl,_⟩:=ha;exact ⟨_,rfl⟩
 ·cases h
def ZiH (tmps:Array Value):ResultVar->Sem Value
 | .tmp t=>pure (tmps.getD t undef)
 | .cell a t=>do loadVar t (<-asAddr (tmps.getD a undef))
theorem ZqI {I:Imm} {β:Bmap} {tm:Tms} {σ:Za} {w:World} {tmps:Array Value} (T:TR I β tm tmps) (R:Rel base w0 I0 I β σ w):∀ {rs:List ResultVar} {asl:List ZcA} {xs:List AVal},Zep P rs=some asl->resAll tm σ asl=some xs ->
  ∃ vs:List Value,(rs.mapM (ZiH tmps)).run P w=.ok vs w/\VRs I β xs vs
 | [],asl,xs,hc,h=>by
  simp only [Zep,Xa] at hc;subst hc
  simp only [resAll,Xa] at h;subst h
  exact ⟨[],by simp,by simp only [VRs]⟩
 | r::rs,asl,xs,hc,h=>by
  have getD_eq:∀ t,VR I β (tget tm t) (tmps.getD t undef):=T
  cases r with
  | tmp t =>
   simp only [Zep,Xn] at hc
   obtain ⟨as',has,rfl⟩:=hc
   simp only [resAll,resOne] at h
   split at h
   ·rename_i ys hys
    injection h with h;subst h
    obtain ⟨vs,h1,h2⟩:=ZqI T R has hys
    exact ⟨tmps.getD t undef::vs,by simp only [XaQ,ZiH,Sem.run_bind,Sem.run_pure,Result.andThen_ok,h1],by simp only [VRs];exact ⟨_,_,rfl,getD_eq t,h2⟩⟩
   ·cases h
  | cell a t =>
   simp only [Zep] at hc
   split at hc
   ·rename_i k as' hk has
    injection hc with hc;subst hc
    simp only [resAll,resOne] at h
    split at h
    ·rename_i v hv
     split at h
     ·rename_i ys hys
      injection h with h;subst h
      obtain ⟨vs,h1,h2⟩:=ZqI T R has hys
      split at hv
      ·rename_i v' σ1 c1 hld
       injection hv with hv;subst hv
       obtain ⟨u,hu1,hu2,_⟩:=Zvw hk R (getD_eq a) hld
       obtain ⟨ad,had⟩:=ZIv (getD_eq a) hld
       have hlv:(loadVar t ad).run P w=.ok u w:=by
        rw [had] at hu1
        simpa [Instr.loadAt,Instr.sureAddr] using hu1
       refine ⟨u::vs,?_,by simp only [VRs];exact ⟨_,_,rfl,hu2,h2⟩⟩
       simp only [XaQ,ZiH,had,asAddr,Sem.run_bind,Sem.run_pure,Result.andThen_ok,hlv,h1]
      ·cases hv
     ·cases h
    ·cases h
   ·cases hc
theorem Ztl {I:Imm} {β:Bmap} {tm:Tms} {σ:Za} {w:World} {tmps:Array Value} (T:TR I β tm tmps) (R:Rel base w0 I0 I β σ w) {fn:Func} {asl:List ZcA} {x:AVal} (hc:Zep P fn.results.toList=some asl) (h:resA tm σ asl=some x):∃ v,(results fn tmps).run P w=.ok v w/\VR I β x v:=by
 unfold resA at h
 have run:∀ {xs:List AVal},resAll tm σ asl=some xs->∃ vs:List Value,(results fn tmps).run P w=.ok (if h:vs.toArray.size=1 then vs.toArray[0] else .tuple vs.toArray) w/\VRs I β xs vs:=by
  intro xs hx
  obtain ⟨vs,h1,h2⟩:=ZqI T R hc hx
  refine ⟨vs,?_,h2⟩
  have hm:(fn.results.mapM (ZiH tmps)).run P w=.ok vs.toArray w:=by
   rw [Array.mapM_eq_mapM_toList,Sem.run_map,h1];rfl
  have he:results fn tmps=(do let vs <-fn.results.mapM (ZiH tmps);pure (if h:vs.size=1 then vs[0] else .tuple vs)):=by
   unfold results
   congr 1
  rw [he,Sem.run_bind,hm]
  rfl
 split at h
 ·rename_i v hv
  injection h with h;subst h
  obtain ⟨vs,h1,h2⟩:=run hv
  simp only [VRs] at h2
  obtain ⟨u,us,rfl,h3,rfl⟩:=h2
  exact ⟨u,by rw [h1];simp,h3⟩
 ·rename_i vs' hv hne
  injection h with h;subst h
  obtain ⟨vs,h1,h2⟩:=run hne
  have hl:=ZaN h2
  refine ⟨.tuple vs.toArray,?_,by simp only [VR];exact ⟨_,rfl,by simpa using h2⟩⟩
  rw [h1,dif_neg]
  intro hs
  simp only [List.size_toArray] at hs
  match vs',hl with
  | [v],_=>exact hv v rfl
  | [],hl=>simp at hl;omega
  | _::_::_,hl=>simp at hl;omega
 ·cases h
theorem Zv2:∀ (args:List AVal) (i:Nat) (acc:Tms) (n:Nat),tget (enterA i args acc) n=if i<=n/\n < i+args.length then args.getD (n - i) .top else tget acc n
 | [],i,acc,n=>by simp only [enterA,XG];rw [if_neg (by omega)]
 | x::xs,i,acc,n=>by
  simp only [enterA,XH]
  rw [Zv2 xs (i+1) _ n]
  by_cases h:i+1<=n/\n < i+1+xs.length
  ·rw [if_pos h,if_pos (by omega),show n - i=(n - (i+1))+1 by omega,List.getD_cons_succ]
  ·rw [if_neg h]
   simp only [tget]
   by_cases h1:i=n
   ·subst h1
    rw [if_pos rfl,if_pos (by omega),Nat.sub_self,Xu]
   ·rw [if_neg h1,if_neg (by omega)]
theorem ZnJ {I:Imm} {β:Bmap} {args:List AVal} {vs:Array Value} (h:VRs I β args vs.toList) (n:Nat):TR I β (enterA 0 args []) (vs++WY n undef):=by
 intro j
 rw [Zv2]
 have hl:=ZaN h
 simp only [XL] at hl
 split
 ·rename_i hj
  have hjl:j < args.length:=by omega
  obtain ⟨v,h1,h2⟩:=Zcj h (X1 hjl)
  have e1:args.getD (j - 0) .top=args[j]:=by simp [Xh,hjl]
  have e2:(vs++WY n undef).getD j undef=v:=by
   rw [Ww,Array.getElem?_append_left (by omega)]
   have : vs[j]?=some v:=by simpa using h1
   rw [this];rfl
  rw [e1,e2];exact h2
 ·simp only [tget,VR]
def Zkn (P:Program) (prim:Zb5):Prop:=∀ f g,prim f=some g->∀ args σ r σ',g args σ=some (r,σ') ->
 (∃ fn,P.funcs[f]?=some fn/\fn.body.isSome=true/\(fn.name == "runtime.NumGoroutine")=false) /\
 ∀ base w0 I0 I β w (vs:Array Value),KLt base w0->Rel base w0 I0 I β σ w->VRs I β args vs.toList ->
  Calls P f vs w (fun e w'=>∃ u,Ends r e u/\ZbP σ.length base w0 I0 I β r σ' u w')
theorem ZqH (hm:P.follows .mixedOrders=true) {prim:Zb5} (hP:Zkn P prim) (ann:Nat->Ann) (bf:Nat->Bool):∀ n,ZaE P (Zap (ZiE P ann) prim bf n)
 | 0=>by intro f args σ r σ' h;simp only [Zap] at h;cases h
 | n+1=>by
  have ih:=ZqH hm hP ann bf n
  intro f args σ r σ' h
  simp only [Zap] at h
  split at h
  ·rename_i g hg
   exact hP f g hg args σ r σ' h
  split at h
  ·cases h
  rename_i fn hfn
  unfold ZiE at hfn
  split at hfn
  ·rename_i F hF
   split at hfn
   ·rename_i body hbody
    split at hfn
    ·cases hfn
    ·rename_i hname
     split at hfn
     ·rename_i rs hrs
      injection hfn with hfn;subst hfn
      refine ⟨⟨F,hF,by rw [hbody];rfl,by simpa using hname⟩,?_⟩
      intro base w0 I0 I β w vs hb R hargs
      refine calls_of_wp hF hbody ?_
      have T:=ZnJ hargs (F.ntmps - vs.size)
      have hst:StF ZbK σ.length F.ntmps base w0 I0 I β (enterA 0 args []) σ { tmps:=vs++WY (F.ntmps - vs.size) undef,defers:=[] } w:=⟨I,β,Imm.le.refl I,KeptE.refl _ β,T,⟨Ze7.2 rfl,by simp;omega⟩,R⟩
      cases hx:Zaa (Zap (ZiE P ann) prim bf n) bf σ.length n (Za0 P { ann f with nt:=F.ntmps } body) (enterA 0 args []) σ with
      | none=>rw [hx] at h;simp only [Zau] at h;cases h
      | some q =>
       obtain ⟨e,tm',σ1⟩:=q
       rw [hx] at h
       have fin:(match resA tm' σ1 rs with | some r=>Z8 σ.length σ1 r | none=>none)=some (r,σ')->∀ a' w',StF ZbK σ.length F.ntmps base w0 I0 I β tm' σ1 a' w'->a'.defers=[]/\∃ v,(results F a'.tmps).run P w'=.ok v w'/\∃ u,Ends r (.returned v) u/\ZbP σ.length base w0 I0 I β r σ' u w':=by
        intro hr a' w' ⟨I1,β1,g1,g2,g3,g4,g5⟩
        split at hr
        ·rename_i x hx1
         obtain ⟨v,h1,h2⟩:=Ztl g3 g5 hrs hx1
         have hnp:∀ y,x≠.pan y:=by rintro y rfl;simp only [VR] at h2
         obtain ⟨q1,q2⟩:=Zmi (⟨I1,β1,g1,g2,g5,by rw [ZfV hnp];exact h2⟩:ZbP σ.length base w0 I0 I β x σ1 v w') hr
         refine ⟨Ze7.1 g4.1,v,h1,v,q2 _ ?_,q1⟩
         cases x <;> first | rfl | exact absurd rfl (hnp _)
        ·cases hr
       refine Zjv (dr:=ZbK) (an:={ ann f with nt:=F.ntmps }) ih (fun n hn=>by simp [ZbK] at hn) hm hb σ.length n rfl hst hx ?_
       cases e with
       | normal=>simp only [Zau] at h;exact fun a' w' hs=>fin h a' w' hs
       | ret=>simp only [Zau] at h;exact fun a' w' hs=>fin h a' w' hs
       | exit id=>simp only [Zau] at h;cases h
       | panic x =>
        simp only [Zau] at h
        intro a' u w' hd hp
        obtain ⟨q1,q2⟩:=Zmi hp h
        exact ⟨Ze7.1 hd,u,q2 _ rfl,q1⟩
     ·cases hfn
   ·cases hfn
  ·cases hfn
end
end
section
open Go.RowKit
def OLe (O O':ZN):Prop:=∀ f a σ r,O f a σ=some r->O' f a σ=some r
section
variable {O O':ZN} {bf:Nat->Bool}
theorem ZNb {view:Bool} {m:Nat} {x y:Option (AVal×Za)} (h:∀ r,x=some r->y=some r) {r:AVal×Za} (hr:Z5 view m x=some r):Z5 view m y=some r:=by
 cases x with
 | none=>cases view <;> simp [Z5,ZbB] at hr
 | some q=>rw [h q rfl];exact hr
theorem ZB0 {σ σf:Za} {ids ts:List Nat} {sq own:Nat} {x y:Option (AVal×Za)} (h:∀ r,x=some r->y=some r) {r:AVal×Za×Cls} (hr:Zaw σ σf ids ts sq own x=some r):Zaw σ σf ids ts sq own y=some r:=by
 cases x with
 | none=>simp only [Zaw] at hr;cases hr
 | some q=>rw [h q rfl];exact hr
theorem ZqS (hO:OLe O O') {σ:Za} {sq f own:Nat} {view:Bool} {args:List AVal} {r:AVal×Za×Cls} (h:Zi O bf σ sq f own view args=some r):Zi O' bf σ sq f own view args=some r:=by
 unfold Zi Zbl at h ⊢
 split at h
 ·cases h
 ·rename_i vs ts hv
  split at h
  ·rename_i hc
   simp only [hc,if_true]
   exact ZB0 (fun q hq=>ZNb (fun q hq=>hO _ _ _ _ hq) hq) h
  ·cases h
theorem ZIp (hO:OLe O O') {tm:Tms} {σ:Za} {sq:Nat} {ins:Ins} {r:AVal×Za×Cls} (h:execI O bf tm σ sq ins=some r):execI O' bf tm σ sq ins=some r:=by
 cases ins
 case call f own view args =>
  simp only [execI] at h ⊢
  exact ZqS hO h
 case callv x args =>
  simp only [execI] at h ⊢
  split at h
  ·exact ZqS hO h
  ·cases h
 all_goals exact h
theorem Znb (hO:OLe O O') {o:AOp} {tm:Tms} {σ:Za} {sq:Nat} {r:AVal×Tms×Za×Cls} (h:ZH O bf o sq tm σ=some r):ZH O' bf o sq tm σ=some r:=by
 unfold ZH at h ⊢
 split at h
 ·cases h
 ·exact h
 ·split at h
  ·rename_i hf
   rw [if_pos hf]
   split at h
   ·rename_i he;rw [ZIp hO he];exact h
   ·cases h
  ·cases h
theorem Zm2 (hO:OLe O O'):∀ {ops:List AOp} {s:Nat} {tm:Tms} {σ:Za} {r:Tms×Za×List Cls×Option AVal},ZZ O bf ops s tm σ=some r->ZZ O' bf ops s tm σ=some r
 | [],_,_,_,_,h=>h
 | o::ops,s,tm,σ,r,h=>by
  simp only [ZZ] at h ⊢
  split at h
  ·cases h
  ·rename_i h1
   rw [Znb hO h1]
   exact h
  ·rename_i v tm1 σ1 c hnp h1
   rw [Znb hO h1]
   simp only
   split at h
   ·cases h
   rename_i h2
   rw [Zm2 hO h2]
   exact h
theorem Zu3 (hO:OLe O O') {ops:List AOp} {chk:Option (List (Nat×Nat))} {live:List Nat} {tm:Tms} {σ:Za} {r:ZaQ×Tms×Za} (h:ZbV O bf ops chk live tm σ=some r):ZbV O' bf ops chk live tm σ=some r:=by
 unfold ZbV at h ⊢
 cases hx:ZZ O bf ops σ.length tm (σ++XC (sitesOf ops) .free) with
 | none=>rw [hx] at h;simp only [ZcG] at h;cases h
 | some q=>rw [Zm2 hO hx];rw [hx] at h;exact h
theorem ZkD {m0:Nat} {live:List Nat} {f f':Tms->Za->Option (ZaQ×Tms×Za)} (hf:∀ tm σ r,f tm σ=some r->f' tm σ=some r):∀ {n n':Nat} {tm:Tms} {σ:Za} {r:ZaQ×Tms×Za},n<=n'->Zdm m0 live f n tm σ=some r->Zdm m0 live f' n' tm σ=some r
 | 0,_,_,_,_,_,h=>by simp only [Zdm] at h;cases h
 | n+1,0,_,_,_,hn,_=>by omega
 | n+1,n'+1,tm,σ,r,hn,h=>by
  simp only [Zdm] at h ⊢
  split at h
  ·rename_i h1
   rw [hf _ _ _ h1]
   exact ZkD hf (by omega) h
  ·rename_i hne
   rw [hf _ _ _ h]
   split
   ·rename_i e;injection e with e;subst e;exact absurd h (hne _ _)
   ·rfl
theorem Zdf (hO:OLe O O') {m0:Nat}:∀ {c:Zf} {n n':Nat} {tm:Tms} {σ:Za} {r:ZaQ×Tms×Za},n<=n'->Zaa O bf m0 n c tm σ=some r->Zaa O' bf m0 n' c tm σ=some r:=by
 intro c
 induction c with
 | skip=>intro n n' tm σ r _ h;exact h
 | exit id=>intro n n' tm σ r _ h;exact h
 | ret=>intro n n' tm σ r _ h;exact h
 | stuck=>intro n n' tm σ r _ h;exact h
 | region ops chk live =>
  intro n n' tm σ r _ h
  simp only [Zaa] at h ⊢
  exact Zu3 hO h
 | seq a b iha ihb =>
  intro n n' tm σ r hn h
  simp only [Zaa] at h ⊢
  split at h
  ·rename_i h1;rw [iha hn h1];exact ihb hn h
  ·rename_i hne
   rw [iha hn h]
   split
   ·rename_i e;injection e with e;subst e;exact absurd h (hne _ _)
   ·rfl
 | cond c a b iha ihb =>
  intro n n' tm σ r hn h
  simp only [Zaa] at h ⊢
  split at h
  ·exact iha hn h
  ·exact ihb hn h
  ·cases h
 | block id c ih =>
  intro n n' tm σ r hn h
  simp only [Zaa] at h ⊢
  split at h
  ·rename_i h1;rw [ih hn h1];exact h
  ·rename_i hne
   rw [ih hn h]
   split
   ·rename_i e;injection e with e;subst e;exact absurd h (hne _ _ _)
   ·rfl
 | loop live c ih =>
  intro n n' tm σ r hn h
  simp only [Zaa] at h ⊢
  exact ZkD (fun tm σ r h=>ih hn h) hn h
theorem ZiL {m0:Nat} {fn:ZF} {x y:Option (ZaQ×Tms×Za)} (h:∀ r,x=some r->y=some r) {r:AVal×Za} (hr:Zau m0 fn x=some r):Zau m0 fn y=some r:=by
 cases x with
 | none=>simp only [Zau] at hr;cases hr
 | some q=>rw [h q rfl];exact hr
theorem ZvZ (fs:Nat->Option ZF) (prim:Zb5):∀ n,OLe (Zap fs prim bf n) (Zap fs prim bf (n+1))
 | 0=>by intro f a σ r h;simp only [Zap] at h;cases h
 | n+1=>by
  intro f a σ r h
  rw [Zap] at h ⊢
  split at h
  ·rename_i g hg;exact h
  ·rename_i hg
   split at h
   ·cases h
   ·rename_i fn hfn
    exact ZiL (fun q hq=>Zdf (ZvZ fs prim n) (by omega) hq) h
theorem Zgb (fs : Nat -> Option ZF) (prim : Zb5) {n m : Nat} (h : n <= m) : OLe (Zap fs prim bf n) (Zap fs prim bf m) := by
  induction m with
  | zero => obtain rfl : n = 0 := by omega
            exact fun _ _ _ _ h => h
  | succ m ih =>
    by_cases e : n = m + 1
    . subst e; exact fun _ _ _ _ h => h
    . exact fun f a σ r hr => ZvZ fs prim m f a σ r (ih (by omega) f a σ r hr)
end
section
variable (fs:Nat->Option ZF) (prim:Zb5) (bf:Nat->Bool)
open Classical in
noncomputable def EV:ZN:=fun f args σ=>if h:∃ r,∃ n,Zap fs prim bf n f args σ=some r then some h.choose else none
open Classical in
noncomputable def evC (m:Nat) (c:Zf) (tm:Tms) (σ:Za):Option (ZaQ×Tms×Za):=if h:∃ r,∃ n,Zaa (Zap fs prim bf n) bf m n c tm σ=some r then some h.choose else none
variable {fs prim bf} {m0:Nat}
theorem Zco {f:Nat} {args:List AVal} {σ:Za} {r:AVal×Za}:EV fs prim bf f args σ=some r↔∃ n,Zap fs prim bf n f args σ=some r:=by
 unfold EV
 constructor
 ·intro h
  split at h
  ·rename_i hx
   injection h with h
   rw [<-h]
   exact hx.choose_spec
  ·cases h
 ·rintro ⟨n,hn⟩
  have hx:∃ r,∃ n,Zap fs prim bf n f args σ=some r:=⟨r,n,hn⟩
  rw [dif_pos hx]
  obtain ⟨m,hm⟩:=hx.choose_spec
  have h1:=Zgb (bf:=bf) fs prim (WZ n m) _ _ _ _ hn
  have h2:=Zgb (bf:=bf) fs prim (WU n m) _ _ _ _ hm
  rw [h1] at h2
  injection h2 with h2
  rw [<-h2]
theorem Zbm {c:Zf} {tm:Tms} {σ:Za} {r:ZaQ×Tms×Za}:evC fs prim bf m0 c tm σ=some r↔∃ n,Zaa (Zap fs prim bf n) bf m0 n c tm σ=some r:=by
 unfold evC
 constructor
 ·intro h
  split at h
  ·rename_i hx
   injection h with h
   rw [<-h]
   exact hx.choose_spec
  ·cases h
 ·rintro ⟨n,hn⟩
  have hx:∃ r,∃ n,Zaa (Zap fs prim bf n) bf m0 n c tm σ=some r:=⟨r,n,hn⟩
  rw [dif_pos hx]
  obtain ⟨m,hm⟩:=hx.choose_spec
  have h1:=Zdf (Zgb (bf:=bf) fs prim (WZ n m)) (WZ n m) hn
  have h2:=Zdf (Zgb (bf:=bf) fs prim (WU n m)) (WU n m) hm
  rw [h1] at h2
  injection h2 with h2
  rw [<-h2]
theorem Zfd {α:Type} {x y:Option α} (h:∀ r,x=some r↔y=some r):x=y:=by
 cases x with
 | none =>
  cases y with
  | none=>rfl
  | some q=>exact absurd ((h q).2 rfl) (by simp)
 | some q=>exact ((h q).1 rfl).symm
theorem Zym (n:Nat):OLe (Zap fs prim bf n) (EV fs prim bf):=fun _ _ _ _ h=>Zco.2 ⟨n,h⟩
theorem up {n m:Nat} (h:n<=m):OLe (Zap fs prim bf n) (Zap fs prim bf m):=Zgb fs prim h
theorem ZsL {f:Nat} {g:List AVal->Za->Option (AVal×Za)} (hp:prim f=some g) (args:List AVal) (σ:Za):EV fs prim bf f args σ=g args σ:=by
 apply Zfd
 intro r
 rw [Zco]
 constructor
 ·rintro ⟨n,h⟩
  cases n with
  | zero=>simp only [Zap] at h;cases h
  | succ n=>rw [Zap,hp] at h;exact h
 ·intro h
  exact ⟨1,by rw [Zap,hp];exact h⟩
theorem ZrI {f:Nat} {fn:ZF} (hp:prim f=none) (hf:fs f=some fn) (args:List AVal) (σ:Za):EV fs prim bf f args σ=Zau σ.length fn (evC fs prim bf σ.length fn.body (enterA 0 args []) σ):=by
 apply Zfd
 intro r
 rw [Zco]
 constructor
 ·rintro ⟨n,h⟩
  cases n with
  | zero=>simp only [Zap] at h;cases h
  | succ n =>
   rw [Zap,hp,hf] at h
   exact ZiL (fun q hq=>Zbm.2 ⟨n,hq⟩) h
 ·intro h
  cases hx:evC fs prim bf σ.length fn.body (enterA 0 args []) σ with
  | none=>rw [hx] at h;simp only [Zau] at h;cases h
  | some q =>
   obtain ⟨n,hn⟩:=Zbm.1 hx
   refine ⟨n+1,?_⟩
   rw [Zap,hp,hf]
   rw [hx] at h
   exact ZiL (x:=some q) (fun q' hq'=>by injection hq' with hq';subst hq';exact hn) h
theorem Zvs {σ:Za} {sq f own:Nat} {view:Bool} {args:List AVal} {r:AVal×Za×Cls} (h:Zi (EV fs prim bf) bf σ sq f own view args=some r):∃ n,Zi (Zap fs prim bf n) bf σ sq f own view args=some r:=by
 unfold Zi Zbl at h ⊢
 split at h
 ·cases h
 ·rename_i vs ts hv
  split at h
  ·rename_i hc
   simp only [hc,if_true]
   cases hx:EV fs prim bf f (Zg (Zk (Zn σ ts) 0 (Zu (Zn σ ts) 1000 (Zp vs) [])) vs) (Zr (Zn σ ts) 0 (Zu (Zn σ ts) 1000 (Zp vs) []) (Zk (Zn σ ts) 0 (Zu (Zn σ ts) 1000 (Zp vs) [])) (Zu (Zn σ ts) 1000 (Zp vs) []) 0) with
   | none =>
    rw [hx] at h
    cases view <;> simp [Z5,ZbB,Zaw] at h
   | some q =>
    obtain ⟨n,hn⟩:=Zco.1 hx
    exact ⟨n,by rw [hn];rw [hx] at h;exact h⟩
  ·cases h
theorem ZLJ {tm:Tms} {σ:Za} {sq:Nat} {ins:Ins} {r:AVal×Za×Cls} (h:execI (EV fs prim bf) bf tm σ sq ins=some r):∃ n,execI (Zap fs prim bf n) bf tm σ sq ins=some r:=by
 cases ins
 case call f own view args =>
  simp only [execI] at h ⊢
  exact Zvs h
 case callv x args =>
  simp only [execI] at h ⊢
  split at h
  ·exact Zvs h
  ·cases h
 all_goals exact ⟨0,h⟩
theorem Zr4 {o:AOp} {tm:Tms} {σ:Za} {sq:Nat} {r:AVal×Tms×Za×Cls} (h:ZH (EV fs prim bf) bf o sq tm σ=some r):∃ n,ZH (Zap fs prim bf n) bf o sq tm σ=some r:=by
 unfold ZH at h ⊢
 split at h
 ·cases h
 ·exact ⟨0,h⟩
 ·split at h
  ·rename_i hf
   simp only [hf,if_true]
   split at h
   ·rename_i he
    obtain ⟨n,hn⟩:=ZLJ he
    exact ⟨n,by rw [hn];exact h⟩
   ·cases h
  ·cases h
theorem Zs7:∀ {ops:List AOp} {s:Nat} {tm:Tms} {σ:Za} {r:Tms×Za×List Cls×Option AVal},ZZ (EV fs prim bf) bf ops s tm σ=some r->∃ n,ZZ (Zap fs prim bf n) bf ops s tm σ=some r
 | [],_,_,_,_,h=>⟨0,h⟩
 | o::ops,s,tm,σ,r,h=>by
  simp only [ZZ] at h ⊢
  split at h
  ·cases h
  ·rename_i h1
   obtain ⟨n,hn⟩:=Zr4 h1
   exact ⟨n,by rw [hn];exact h⟩
  rename_i v tm1 σ1 c hnp h1
  split at h
  ·cases h
  rename_i h2
  obtain ⟨n,hn⟩:=Zr4 h1
  obtain ⟨m,hm⟩:=Zs7 h2
  refine ⟨max n m,?_⟩
  rw [Znb (up (WZ n m)) hn]
  simp only
  rw [Zm2 (up (WU n m)) hm]
  exact h
theorem ZKM {ops:List AOp} {chk:Option (List (Nat×Nat))} {live:List Nat} {tm:Tms} {σ:Za} {r:ZaQ×Tms×Za} (h:ZbV (EV fs prim bf) bf ops chk live tm σ=some r):∃ n,ZbV (Zap fs prim bf n) bf ops chk live tm σ=some r:=by
 unfold ZbV at h ⊢
 cases hx:ZZ (EV fs prim bf) bf ops σ.length tm (σ++XC (sitesOf ops) .free) with
 | none=>rw [hx] at h;simp only [ZcG] at h;cases h
 | some q =>
  obtain ⟨n,hn⟩:=Zs7 hx
  exact ⟨n,by rw [hn];rw [hx] at h;exact h⟩
theorem ZIU (tm:Tms) (σ:Za):evC fs prim bf m0 .skip tm σ=some (.normal,tm,σ):=Zbm.2 ⟨0,rfl⟩
theorem ZMr (id:Nat) (tm:Tms) (σ:Za):evC fs prim bf m0 (.exit id) tm σ=some (.exit id,tm,σ):=Zbm.2 ⟨0,rfl⟩
theorem Zzk (tm:Tms) (σ:Za):evC fs prim bf m0 .ret tm σ=some (.ret,tm,σ):=Zbm.2 ⟨0,rfl⟩
theorem ZJT {ops:List AOp} {chk:Option (List (Nat×Nat))} {live:List Nat} {tm:Tms} {σ:Za}:evC fs prim bf m0 (.region ops chk live) tm σ=ZbV (EV fs prim bf) bf ops chk live tm σ:=by
 apply Zfd
 intro r
 rw [Zbm]
 constructor
 ·rintro ⟨n,hn⟩
  simp only [Zaa] at hn
  exact Zu3 (Zym n) hn
 ·intro h
  obtain ⟨n,hn⟩:=ZKM h
  exact ⟨n,by simp only [Zaa];exact hn⟩
theorem Zje {a b:Zf} {tm tm':Tms} {σ σ':Za} (h:evC fs prim bf m0 a tm σ=some (.normal,tm',σ')):evC fs prim bf m0 (.seq a b) tm σ=evC fs prim bf m0 b tm' σ':=by
 obtain ⟨n,hn⟩:=Zbm.1 h
 apply Zfd
 intro r
 rw [Zbm,Zbm]
 constructor
 ·rintro ⟨m,hm⟩
  have h1:=Zdf (up (WZ n m)) (WZ n m) hn
  have h2:=Zdf (up (WU n m)) (WU n m) hm
  simp only [Zaa,h1] at h2
  exact ⟨_,h2⟩
 ·rintro ⟨m,hm⟩
  have h1:=Zdf (up (WZ n m)) (WZ n m) hn
  have h2:=Zdf (up (WU n m)) (WU n m) hm
  exact ⟨max n m,by simp only [Zaa,h1];exact h2⟩
theorem ZiO {a b:Zf} {tm tm':Tms} {σ σ':Za} {e:ZaQ} (he:e≠.normal) (h:evC fs prim bf m0 a tm σ=some (e,tm',σ')):evC fs prim bf m0 (.seq a b) tm σ=some (e,tm',σ'):=by
 obtain ⟨n,hn⟩:=Zbm.1 h
 refine Zbm.2 ⟨n,?_⟩
 simp only [Zaa,hn]
 cases e with
 | normal=>exact absurd rfl he
 | exit id=>rfl
 | ret=>rfl
 | panic x=>rfl
def ZaR (id:Nat):ZaQ×Tms×Za->ZaQ×Tms×Za
 | (.exit i,tm,σ)=>if i=id then (.normal,tm,σ) else (.exit i,tm,σ)
 | r=>r
theorem ZOA {id:Nat} {c:Zf} {tm:Tms} {σ:Za}:evC fs prim bf m0 (.block id c) tm σ=(evC fs prim bf m0 c tm σ).map (ZaR id):=by
 have step:∀ n,Zaa (Zap fs prim bf n) bf m0 n (.block id c) tm σ=(Zaa (Zap fs prim bf n) bf m0 n c tm σ).map (ZaR id):=by
  intro n
  simp only [Zaa]
  cases Zaa (Zap fs prim bf n) bf m0 n c tm σ with
  | none=>rfl
  | some q =>
   obtain ⟨e,tm1,σ1⟩:=q
   cases e with
   | normal=>rfl
   | ret=>rfl
   | panic x=>rfl
   | exit i=>simp only [X8,ZaR];split <;> rfl
 apply Zfd;intro r
 rw [Zbm]
 simp only [step,Xn]
 constructor
 ·rintro ⟨n,q,h1,h2⟩;exact ⟨q,Zbm.2 ⟨n,h1⟩,h2⟩
 ·rintro ⟨q,h1,h2⟩;obtain ⟨n,hn⟩:=Zbm.1 h1;exact ⟨n,q,hn,h2⟩
theorem Zz9 {c:Zf} {tm:Tms} {σ:Za} (h:evC fs prim bf m0 c tm σ=none) (n:Nat):Zaa (Zap fs prim bf n) bf m0 n c tm σ=none:=by
 cases hx:Zaa (Zap fs prim bf n) bf m0 n c tm σ with
 | none=>rfl
 | some r=>rw [Zbm.2 ⟨n,hx⟩] at h;cases h
variable (fs prim bf m0) in
noncomputable def Zbw (b:Zf):Option (ZaQ×Tms×Za)->Option (ZaQ×Tms×Za)
 | some (.normal,tm,σ)=>evC fs prim bf m0 b tm σ
 | r=>r
theorem ZAK {a b:Zf} {tm:Tms} {σ:Za}:evC fs prim bf m0 (.seq a b) tm σ=Zbw fs prim bf m0 b (evC fs prim bf m0 a tm σ):=by
 cases h:evC fs prim bf m0 a tm σ with
 | none =>
  simp only [Zbw]
  apply Zfd;intro r
  rw [Zbm]
  constructor
  ·rintro ⟨n,hn⟩
   simp only [Zaa,Zz9 h n] at hn
   cases hn
  ·intro h;cases h
 | some q =>
  obtain ⟨e,tm',σ'⟩:=q
  cases e with
  | normal=>exact Zje h
  | exit id=>exact ZiO (by simp) h
  | ret=>exact ZiO (by simp) h
  | panic x=>exact ZiO (by simp) h
variable (fs prim bf m0) in
noncomputable def ZiX (a b:Zf) (tm:Tms) (σ:Za):AVal->Option (ZaQ×Tms×Za)
 | .bool true=>evC fs prim bf m0 a tm σ
 | .bool false=>evC fs prim bf m0 b tm σ
 | _=>none
theorem ZyN {c:Opd} {a b:Zf} {tm:Tms} {σ:Za}:evC fs prim bf m0 (.cond c a b) tm σ=ZiX fs prim bf m0 a b tm σ (c.ev tm):=by
 apply Zfd;intro r
 rw [Zbm]
 simp only [Zaa]
 constructor
 ·rintro ⟨n,hn⟩
  split at hn
  ·rename_i e;rw [e];simp only [ZiX];exact Zbm.2 ⟨n,hn⟩
  ·rename_i e;rw [e];simp only [ZiX];exact Zbm.2 ⟨n,hn⟩
  ·cases hn
 ·intro h
  unfold ZiX at h
  split at h
  ·rename_i e;obtain ⟨n,hn⟩:=Zbm.1 h;exact ⟨n,by rw [e];exact hn⟩
  ·rename_i e;obtain ⟨n,hn⟩:=Zbm.1 h;exact ⟨n,by rw [e];exact hn⟩
  ·cases h
variable (fs prim bf m0) in
noncomputable def evL (live:List Nat) (c:Zf) (tm:Tms) (σ:Za):Option (ZaQ×Tms×Za) :=
 match evC fs prim bf m0 c tm σ with
 | some (.normal,tm',σ')=>evC fs prim bf m0 (.loop live c) tm' σ'
 | r=>r
theorem ZrQ {live:List Nat} {c:Zf} {tm:Tms} {σ:Za}:evC fs prim bf m0 (.loop live c) tm σ=evL fs prim bf m0 live c (gcT m0 (keepL live tm) σ).1 (gcT m0 (keepL live tm) σ).2:=by
 apply Zfd;intro r
 rw [Zbm]
 constructor
 ·rintro ⟨n,hn⟩
  simp only [Zaa] at hn
  cases n with
  | zero=>simp only [Zdm] at hn;cases hn
  | succ k =>
   simp only [Zdm] at hn
   unfold evL
   cases hx:Zaa (Zap fs prim bf (k+1)) bf m0 (k+1) c (gcT m0 (keepL live tm) σ).1 (gcT m0 (keepL live tm) σ).2 with
   | none=>rw [hx] at hn;cases hn
   | some q =>
    rw [Zbm.2 ⟨_,hx⟩]
    rw [hx] at hn
    obtain ⟨e,tm',σ'⟩:=q
    cases e with
    | normal =>
     simp only at hn ⊢
     exact Zbm.2 ⟨k+1,by simp only [Zaa];exact ZkD (fun _ _ _ h=>h) (by omega) hn⟩
    | exit id=>exact hn
    | ret=>exact hn
    | panic x=>exact hn
 ·intro h
  unfold evL at h
  cases hx:evC fs prim bf m0 c (gcT m0 (keepL live tm) σ).1 (gcT m0 (keepL live tm) σ).2 with
  | none=>rw [hx] at h;cases h
  | some q =>
   rw [hx] at h
   obtain ⟨n,hn⟩:=Zbm.1 hx
   obtain ⟨e,tm',σ'⟩:=q
   have out:e≠.normal->some (e,tm',σ')=some r->∃ n,Zaa (Zap fs prim bf n) bf m0 n (.loop live c) tm σ=some r:=by
    intro he h
    refine ⟨n+1,?_⟩
    have h1:=Zdf (up (show n<=n+1 by omega)) (show n<=n+1 by omega) hn
    simp only [Zaa,Zdm,h1]
    cases e with
    | normal=>exact absurd rfl he
    | exit id=>exact h
    | ret=>exact h
    | panic x=>exact h
   cases e with
   | normal =>
    simp only at h
    obtain ⟨m,hm⟩:=Zbm.1 h
    have h1:=Zdf (up (show n<=max n m+1 by omega)) (show n<=max n m+1 by omega) hn
    have h2:=Zdf (up (show m<=max n m+1 by omega)) (Xx m) hm
    simp only [Zaa] at h2
    refine ⟨max n m+1,?_⟩
    simp only [Zaa,Zdm,h1]
    exact ZkD (fun tm σ r h=>Zdf (fun _ _ _ _ h=>h) (by omega) h) (by omega) h2
   | exit id=>exact out (by simp) h
   | ret=>exact out (by simp) h
   | panic x=>exact out (by simp) h
theorem ZLh {P:Program} (hm:P.follows .mixedOrders=true) {prim:Zb5} (hP:Zkn P prim) (ann:Nat->Ann) (bf:Nat->Bool):ZaE P (EV (ZiE P ann) prim bf):=by
 intro f args σ r σ' h
 obtain ⟨n,hn⟩:=Zco.1 h
 exact ZqH hm hP ann bf n f args σ r σ' hn
end
end
section
open Go.RowKit
def ZuH:Tms×Za×List Cls×Option AVal->Tms×Za×Option AVal:=fun q=>(q.1,q.2.1,q.2.2.2)
def ZaP:AVal->Bool
 | .pan _=>true
 | _=>false
section
variable (O:ZN) (bf:Nat->Bool)
def exI (i:Ins) (s:Nat) (tm:Tms) (σ:Za):Option (AVal×Za×Cls) :=
 if nsite i == 0 || freeAt σ s then execI O bf tm σ s i else none
def Zbi (ops:List AOp) (s:Nat) (tm:Tms) (σ:Za):Option (Tms×Za×Option AVal):=(ZZ O bf ops s tm σ).map ZuH
def kN (d:Option Nat) (os:List AOp) (s:Nat) (tm:Tms):Option (AVal×Za×Cls)->Option (Tms×Za×Option AVal)
 | none=>none
 | some (v,σ,_)=>if ZaP v then some (tput tm d v,σ,some (ZaW v)) else Zbi O bf os s (tput tm d v) σ
def ZjZ (live:List Nat):Option (Tms×Za×Option AVal)->Option (ZaQ×Tms×Za)
 | none=>none
 | some (_,σ,some x)=>some (.panic x,[],σ)
 | some (tm,σ,none)=>some (.normal,keepL live tm,σ)
variable {O bf}
theorem Zst (s:Nat) (tm:Tms) (σ:Za):Zbi O bf [] s tm σ=some (tm,σ,none):=rfl
theorem ZiQ {o:AOp} {os:List AOp} {s:Nat} {tm:Tms} {σ:Za} (h:ZH O bf o s tm σ=none):ZZ O bf (o::os) s tm σ=none:=by simp only [ZZ,h]
theorem ZkE {o:AOp} {os:List AOp} {s:Nat} {tm tm1:Tms} {σ σ1:Za} {x:AVal} {c:Cls} (h:ZH O bf o s tm σ=some (.pan x,tm1,σ1,c)):ZZ O bf (o::os) s tm σ=some (tm1,σ1,[c],some x):=by simp only [ZZ,h]
theorem Zs0 {o:AOp} {os:List AOp} {s:Nat} {tm tm1:Tms} {σ σ1:Za} {v:AVal} {c:Cls} (h:ZH O bf o s tm σ=some (v,tm1,σ1,c)) (hn:ZaP v=false):ZZ O bf (o::os) s tm σ=(ZZ O bf os (s+nsite o.ins) tm1 σ1).map fun q=>(q.1,q.2.1,c::q.2.2.1,q.2.2.2):=by
 simp only [ZZ,h]
 cases v <;> first
  | (simp [ZaP] at hn;done)
  | (simp only;cases ZZ O bf os (s+nsite o.ins) tm1 σ1 <;> rfl)
theorem Zlt {o:AOp} {os:List AOp} {s:Nat} {tm:Tms} {σ:Za} (h:ZH O bf o s tm σ=none):Zbi O bf (o::os) s tm σ=none:=by simp only [Zbi,ZiQ h,Option.map_none]
theorem Zqp {o:AOp} {os:List AOp} {s:Nat} {tm tm1:Tms} {σ σ1:Za} {x:AVal} {c:Cls} (h:ZH O bf o s tm σ=some (.pan x,tm1,σ1,c)):Zbi O bf (o::os) s tm σ=some (tm1,σ1,some x):=by simp only [Zbi,ZkE h,X8,ZuH]
theorem Zlx {o:AOp} {os:List AOp} {s:Nat} {tm tm1:Tms} {σ σ1:Za} {v:AVal} {c:Cls} (h:ZH O bf o s tm σ=some (v,tm1,σ1,c)) (hn:ZaP v=false):Zbi O bf (o::os) s tm σ=Zbi O bf os (s+nsite o.ins) tm1 σ1:=by
 simp only [Zbi,Zs0 h hn,Option.map_map]
 rfl
theorem ZjB {v:AVal} (h:ZaP v=true):∃ x,v=.pan x:=by
 cases v <;> first | exact ⟨_,rfl⟩ | (simp [ZaP] at h;done)
theorem Zmz {d:Option Nat} {i:Ins} {af:List Nat} {s:Nat} {tm:Tms} {σ:Za}:ZH O bf ⟨d,i,none,af⟩ s tm σ=(exI O bf i s tm σ).map fun q=>(q.1,tput tm d q.1,q.2.1,q.2.2):=by
 unfold ZH exI
 simp only [Zbo]
 split
 ·cases execI O bf tm σ s i with
  | none=>rfl
  | some q=>rfl
 ·rfl
theorem Zom (d:Option Nat) (i:Ins) (af:List Nat) (os:List AOp) (s:Nat) (tm:Tms) (σ:Za):Zbi O bf (⟨d,i,none,af⟩::os) s tm σ=kN O bf d os (s+nsite i) tm (exI O bf i s tm σ):=by
 cases h:exI O bf i s tm σ with
 | none=>exact Zlt (by rw [Zmz,h];rfl)
 | some q =>
  obtain ⟨v,σ1,c⟩:=q
  have hs:ZH O bf ⟨d,i,none,af⟩ s tm σ=some (v,tput tm d v,σ1,c):=by rw [Zmz,h];rfl
  cases hp:ZaP v with
  | true =>
   obtain ⟨x,rfl⟩:=ZjB hp
   exact Zqp hs
  | false =>
   rw [Zlx hs hp]
   simp only [kN,hp,Xi,if_false]
theorem Zzm (ops:List AOp) (live:List Nat) (tm:Tms) (σ:Za):ZbV O bf ops none live tm σ=ZjZ live (Zbi O bf ops σ.length tm (σ++XC (sitesOf ops) .free)):=by
 unfold ZbV Zbi
 cases ZZ O bf ops σ.length tm (σ++XC (sitesOf ops) .free) with
 | none=>rfl
 | some q =>
  obtain ⟨tm',σ',cs,p⟩:=q
  cases p <;> rfl
theorem ZpZ (d:Option Nat) (os:List AOp) (s:Nat) (tm:Tms) (v:AVal) (σ:Za) (c:Cls) (h:ZaP v=false):kN O bf d os s tm (some (v,σ,c))=Zbi O bf os s (tput tm d v) σ:=by
 simp only [kN,h,Xi,if_false]
theorem ZAQ (d:Option Nat) (os:List AOp) (s:Nat) (tm:Tms) (x:AVal) (σ:Za) (c:Cls):kN O bf d os s tm (some (.pan x,σ,c))=some (tput tm d (.pan x),σ,some x):=rfl
theorem Zxs (d:Option Nat) (os:List AOp) (s:Nat) (tm:Tms):kN O bf d os s tm none=none:=rfl
structure GOp where
 guard:Option (Nat×Bool)
 ops:List AOp
def Zaz:List AOp->Tms->Tms
 | [],tm=>tm
 | o::os,tm=>Zaz os (tput tm o.dst (.tup []))
def unG (o:AOp):AOp:={ o with guard:=none }
variable (O bf) in
def Zeq (j:Nat) (w:Bool) (g:List AOp) (s:Nat) (tm:Tms) (σ:Za):Option (Tms×Za×Option AVal):=match Zbo (some (j,w)) tm with
 | none=>none
 | some false=>some (Zaz g tm,σ,none)
 | some true=>Zbi O bf (g.map unG) s tm σ
variable (O bf) in
def gK (os:List AOp) (s:Nat):Option (Tms×Za×Option AVal)->Option (Tms×Za×Option AVal)
 | none=>none
 | some (tm,σ,some x)=>some (tm,σ,some x)
 | some (tm,σ,none)=>Zbi O bf os s tm σ
def ZE (j:Nat) (w:Bool):List AOp->List AOp×List AOp
 | []=>([],[])
 | o::os=>match o.guard with
  | some (j',w')=>if j'=j/\w'=w/\o.dst≠some j then ((o::(ZE j w os).1),(ZE j w os).2) else ([],o::os)
  | none=>([],o::os)
theorem ZpR (j:Nat) (w:Bool):∀ os,(ZE j w os).1++(ZE j w os).2=os
 | []=>rfl
 | o::os=>by
  simp only [ZE]
  split
  ·split
   ·simp [ZpR j w os]
   ·rfl
  ·rfl
theorem ZoG (j:Nat) (w:Bool):∀ os,∀ o ∈ (ZE j w os).1,o.guard=some (j,w)/\o.dst≠some j
 | []=>by simp [ZE]
 | o::os=>by
  intro o' ho
  simp only [ZE] at ho
  split at ho
  ·rename_i j' w' hg
   split at ho
   ·rename_i hc
    rcases XS.1 ho with rfl | ho
    ·exact ⟨by rw [hg,hc.1,hc.2.1],hc.2.2⟩
    ·exact ZoG j w os o' ho
   ·simp at ho
  ·simp at ho
theorem ZMX {d:Option Nat} {v:AVal} {n:Nat} {tm:Tms} (h:d≠some n):tget (tput tm d v) n=tget tm n:=by
 cases d with
 | none=>rfl
 | some d =>
  have : d≠n:=by rintro rfl;exact h rfl
  simp only [tput,ZlT,this,if_false]
theorem Zfw {d:Option Nat} {v:AVal} {j:Nat} {w:Bool} {tm:Tms} (h:d≠some j):Zbo (some (j,w)) (tput tm d v)=Zbo (some (j,w)) tm:=by
 simp only [Zbo,ZMX h]
theorem ZrM:∀ (a b:List AOp) (s:Nat) (tm:Tms) (σ:Za),Zbi O bf (a++b) s tm σ=gK O bf b (s+sitesOf a) (Zbi O bf a s tm σ)
 | [],b,s,tm,σ=>by simp [Zst,gK,sitesOf]
 | o::a,b,s,tm,σ=>by
  have ih:=ZrM a b
  simp only [XY]
  have hs:s+nsite o.ins+sitesOf a=s+sitesOf (o::a):=by simp [sitesOf,WC]
  cases hst:ZH O bf o s tm σ with
  | none=>rw [Zlt hst,Zlt hst];rfl
  | some q =>
   obtain ⟨v,tm1,σ1,c⟩:=q
   cases hp:ZaP v with
   | true =>
    obtain ⟨x,rfl⟩:=ZjB hp
    rw [Zqp hst,Zqp hst];rfl
   | false=>rw [Zlx hst hp,Zlx hst hp,ih,hs]
theorem Zuf (j:Nat) (w:Bool):∀ (g:List AOp),(∀ o ∈ g,o.guard=some (j,w)/\o.dst≠some j)->∀ (s:Nat) (tm:Tms) (σ:Za),g≠[]->Zbi O bf g s tm σ=Zeq O bf j w g s tm σ
 | [],_,_,_,_,h=>absurd rfl h
 | o::g,hall,s,tm,σ,_=>by
  obtain ⟨hg,hd⟩:=hall o (by simp)
  have ih:∀ (tm:Tms) (σ:Za) (s:Nat),Zbo (some (j,w)) tm≠none->Zbi O bf g s tm σ=Zeq O bf j w g s tm σ:=by
   intro tm σ s hw
   by_cases he:g=[]
   ·subst he
    unfold Zeq
    cases hx:Zbo (some (j,w)) tm with
    | none=>exact absurd hx hw
    | some b=>cases b <;> rfl
   ·exact Zuf j w g (fun o ho=>hall o (by simp [ho])) s tm σ he
  cases hx:Zbo (some (j,w)) tm with
  | none =>
   rw [Zlt (by simp only [ZH,hg,hx])]
   simp only [Zeq,hx]
  | some b =>
   cases b with
   | false =>
    have h1:Zbi O bf (o::g) s tm σ=Zbi O bf g (s+nsite o.ins) (tput tm o.dst (.tup [])) σ :=
     Zlx (v:=.tup []) (c:={}) (by simp only [ZH,hg,hx]) rfl
    rw [h1,ih _ _ _ (by rw [Zfw hd,hx];simp)]
    unfold Zeq
    rw [Zfw hd,hx]
    rfl
   | true =>
    have key:∀ r:Option (AVal×Za×Cls),(∀ v σ' c,r=some (v,σ',c)->ZaP v=false->Zbi O bf g (s+nsite o.ins) (tput tm o.dst v) σ'=Zbi O bf (g.map unG) (s+nsite o.ins) (tput tm o.dst v) σ')->kN O bf o.dst g (s+nsite o.ins) tm r=kN O bf o.dst (g.map unG) (s+nsite o.ins) tm r:=by
     intro r hr
     cases r with
     | none=>rfl
     | some q =>
      obtain ⟨v,σ',c⟩:=q
      cases hp:ZaP v with
      | true=>simp only [kN,hp,if_true]
      | false=>rw [ZpZ _ _ _ _ _ _ _ hp,ZpZ _ _ _ _ _ _ _ hp];exact hr v σ' c rfl hp
    have h1:Zbi O bf (o::g) s tm σ=kN O bf o.dst g (s+nsite o.ins) tm (exI O bf o.ins s tm σ):=by
     have h0:Zbi O bf (o::g) s tm σ=Zbi O bf (⟨o.dst,o.ins,none,o.after⟩::g) s tm σ:=by
      have hst:ZH O bf o s tm σ=ZH O bf ⟨o.dst,o.ins,none,o.after⟩ s tm σ:=by
       unfold ZH
       simp only [hg,hx]
       rfl
      unfold Zbi
      simp only [ZZ,hst]
     rw [h0,Zom]
    rw [h1]
    unfold Zeq
    rw [hx]
    simp only [Xt]
    rw [show unG o=⟨o.dst,o.ins,none,o.after⟩ from rfl,Zom]
    refine key _ fun v σ' c _ _=>?_
    rw [ih _ _ _ (by rw [Zfw hd,hx];simp)]
    unfold Zeq
    rw [Zfw hd,hx]
theorem ZDr (d:Option Nat) (i:Ins) (j:Nat) (w:Bool) (af:List Nat) (os:List AOp) (s:Nat) (tm:Tms) (σ:Za) (hd:decide (d=some j)=false) :
  Zbi O bf (⟨d,i,some (j,w),af⟩::os) s tm σ=gK O bf (ZE j w os).2 (s+sitesOf (⟨d,i,some (j,w),af⟩::(ZE j w os).1)) (Zeq O bf j w (⟨d,i,some (j,w),af⟩::(ZE j w os).1) s tm σ):=by
 have h:=ZpR j w os
 have hall:∀ o ∈ (⟨d,i,some (j,w),af⟩::(ZE j w os).1:List AOp),o.guard=some (j,w)/\o.dst≠some j:=by
  intro o ho
  rcases XS.1 ho with rfl | ho
  ·exact ⟨rfl,by simpa using hd⟩
  ·exact ZoG j w os o ho
 rw [<-Zuf j w _ hall s tm σ (by simp),<-ZrM,XY,h]
variable (O bf) in
def gW (w:Bool) (g:List AOp) (s:Nat) (tm:Tms) (σ:Za):AVal->Option (Tms×Za×Option AVal)
 | .bool b=>if b=w then Zbi O bf (g.map unG) s tm σ else some (Zaz g tm,σ,none)
 | .tup []=>some (Zaz g tm,σ,none)
 | _=>none
theorem ZxC (j:Nat) (w:Bool) (g:List AOp) (s:Nat) (tm:Tms) (σ:Za):Zeq O bf j w g s tm σ=gW O bf w g s tm σ (tget tm j):=by
 unfold Zeq Zbo
 simp only
 generalize tget tm j=v
 cases v
 case bool b=>cases b <;> cases w <;> rfl
 case tup vs=>cases vs <;> rfl
 all_goals rfl
theorem ZBa (w:Bool) (g:List AOp) (s:Nat) (tm:Tms) (σ:Za) (b:Bool):gW O bf w g s tm σ (.bool b)=if b=w then Zbi O bf (g.map unG) s tm σ else some (Zaz g tm,σ,none):=rfl
theorem Zwz (w:Bool) (g:List AOp) (s:Nat) (tm:Tms) (σ:Za):gW O bf w g s tm σ (.tup [])=some (Zaz g tm,σ,none):=rfl
theorem ZFc (os:List AOp) (s:Nat) (tm:Tms) (σ:Za):gK O bf os s (some (tm,σ,none))=Zbi O bf os s tm σ:=rfl
end
section
variable (c:Prop) [Decidable c]
theorem ZdD {α:Type} (a b:α) (x y:List α):(if c then a::x else b::y)=(if c then a else b)::(if c then x else y):=by split <;> rfl
theorem ZN7 (k:IntKind) (a b:Int):(if c then AVal.int k a else AVal.int k b)=AVal.int k (if c then a else b):=by split <;> rfl
theorem ZAI (a b:Bool):(if c then AVal.bool a else AVal.bool b)=AVal.bool (if c then a else b):=by split <;> rfl
theorem ZIb (a b:List UInt8):(if c then AVal.str a else AVal.str b)=AVal.str (if c then a else b):=by split <;> rfl
theorem ZCd (p q:Bool) (a b:List AVal):(if c then AVal.lst p a else AVal.lst q b)=AVal.lst (if c then p else q) (if c then a else b):=by split <;> rfl
theorem ZKY (a b:List AVal):(if c then AVal.agg a else AVal.agg b)=AVal.agg (if c then a else b):=by split <;> rfl
theorem ZNt (a b:List AVal):(if c then ZK.var a else ZK.var b)=ZK.var (if c then a else b):=by split <;> rfl
theorem ZNU (g k:Nat) (a b:List AVal):(if c then ZK.row g k a else ZK.row g k b)=ZK.row g k (if c then a else b):=by split <;> rfl
theorem ZH5 (t:Nat) (a b:Nat):(if c then AVal.ref t a else AVal.ref t b)=AVal.ref t (if c then a else b):=by split <;> rfl
theorem Zo8 {α:Type} (x y z:α):(if c then (if c then x else y) else z)=if c then x else z:=by split <;> rfl
theorem Zwi {α:Type} (x y z:α):(if c then x else (if c then y else z))=if c then x else z:=by split <;> rfl
theorem ZAa (σ:Za) (a b:AVal) (p:Bool):Zfq σ a b (.bool p)=some (if p=true then a else b,σ,{}):=by cases p <;> rfl
theorem ZMU (a b:AVal):ZaP (if c then a else b)=if c then ZaP a else ZaP b:=by split <;> rfl
end
section
variable {fs:Nat->Option ZF} {prim:Zb5} {bf:Nat->Bool} {m0:Nat}
theorem ZFs (p:Bool) (a b:Zf) (tm:Tms) (σ:Za):ZiX fs prim bf m0 a b tm σ (.bool p)=if p=true then evC fs prim bf m0 a tm σ else evC fs prim bf m0 b tm σ:=by
 cases p <;> rfl
theorem ZIM (b:Zf) (tm:Tms) (σ:Za):Zbw fs prim bf m0 b (some (.normal,tm,σ))=evC fs prim bf m0 b tm σ:=rfl
theorem ZKp (b:Zf) (i:Nat) (tm:Tms) (σ:Za):Zbw fs prim bf m0 b (some (.exit i,tm,σ))=some (.exit i,tm,σ):=rfl
theorem ZNS (b:Zf) (tm:Tms) (σ:Za):Zbw fs prim bf m0 b (some (.ret,tm,σ))=some (.ret,tm,σ):=rfl
theorem ZJc (b:Zf) (x:AVal) (tm:Tms) (σ:Za):Zbw fs prim bf m0 b (some (.panic x,tm,σ))=some (.panic x,tm,σ):=rfl
theorem ZIs (c:Prop) [Decidable c] (b:Zf) (x y:Option (ZaQ×Tms×Za)):Zbw fs prim bf m0 b (if c then x else y)=if c then Zbw fs prim bf m0 b x else Zbw fs prim bf m0 b y:=by split <;> rfl
theorem ZyE (id:Nat) (tm:Tms) (σ:Za):Wa (ZaR id) (some (.normal,tm,σ))=some (.normal,tm,σ):=rfl
theorem ZBA (id i:Nat) (tm:Tms) (σ:Za):Wa (ZaR id) (some (.exit i,tm,σ))=if i=id then some (.normal,tm,σ) else some (.exit i,tm,σ):=by
 simp only [X8,ZaR];split <;> rfl
theorem ZwY (id:Nat) (tm:Tms) (σ:Za):Wa (ZaR id) (some (.ret,tm,σ))=some (.ret,tm,σ):=rfl
theorem ZBD (id:Nat) (x:AVal) (tm:Tms) (σ:Za):Wa (ZaR id) (some (.panic x,tm,σ))=some (.panic x,tm,σ):=rfl
theorem ZyJ (id:Nat) (c:Prop) [Decidable c] (x y:Option (ZaQ×Tms×Za)):Wa (ZaR id) (if c then x else y)=if c then Wa (ZaR id) x else Wa (ZaR id) y:=by split <;> rfl
theorem ZEq (m:Nat) (fn:ZF) (c:Prop) [Decidable c] (x y:Option (ZaQ×Tms×Za)):Zau m fn (if c then x else y)=if c then Zau m fn x else Zau m fn y:=by split <;> rfl
end
section
variable {fs:Nat->Option ZF} {prim:Zb5} {bf:Nat->Bool} {m0:Nat}
theorem ZBo {live:List Nat} {c:Zf} {tm tm':Tms} {σ σ':Za} (h:evC fs prim bf m0 c tm σ=some (.normal,tm',σ')):evL fs prim bf m0 live c tm σ=evL fs prim bf m0 live c (gcT m0 (keepL live tm') σ').1 (gcT m0 (keepL live tm') σ').2:=by
 unfold evL
 rw [h]
 simp only
 rw [ZrQ]
 rfl
theorem ZIy {live:List Nat} {c:Zf} {tm tm':Tms} {σ σ':Za} {i:Nat} (h:evC fs prim bf m0 c tm σ=some (.exit i,tm',σ')):evL fs prim bf m0 live c tm σ=some (.exit i,tm',σ'):=by
 unfold evL;rw [h]
theorem ZFa {live:List Nat} {c:Zf} {tm tm':Tms} {σ σ':Za} (h:evC fs prim bf m0 c tm σ=some (.ret,tm',σ')):evL fs prim bf m0 live c tm σ=some (.ret,tm',σ'):=by
 unfold evL;rw [h]
variable (fs prim bf m0) in
noncomputable def evM (live:List Nat) (c:Zf):Option (ZaQ×Tms×Za)->Option (ZaQ×Tms×Za)
 | some (.normal,tm,σ)=>evL fs prim bf m0 live c (gcT m0 (keepL live tm) σ).1 (gcT m0 (keepL live tm) σ).2
 | r=>r
theorem ZX (live:List Nat) (c:Zf) (tm:Tms) (σ:Za):evL fs prim bf m0 live c tm σ=evM fs prim bf m0 live c (evC fs prim bf m0 c tm σ):=by
 cases h:evC fs prim bf m0 c tm σ with
 | none=>unfold evL;rw [h];rfl
 | some q =>
  obtain ⟨e,tm',σ'⟩:=q
  cases e with
  | normal=>exact ZBo h
  | exit i=>exact ZIy h
  | ret=>exact ZFa h
  | panic x=>unfold evL;rw [h];rfl
theorem ZCT (live:List Nat) (c:Zf) (tm:Tms) (σ:Za):evM fs prim bf m0 live c (some (.normal,tm,σ))=evL fs prim bf m0 live c (gcT m0 (keepL live tm) σ).1 (gcT m0 (keepL live tm) σ).2:=rfl
theorem ZJd (live:List Nat) (c:Zf) (i:Nat) (tm:Tms) (σ:Za):evM fs prim bf m0 live c (some (.exit i,tm,σ))=some (.exit i,tm,σ):=rfl
theorem ZCB (live:List Nat) (c:Zf) (tm:Tms) (σ:Za):evM fs prim bf m0 live c (some (.ret,tm,σ))=some (.ret,tm,σ):=rfl
theorem ZzI (live:List Nat) (c:Zf) (x:AVal) (tm:Tms) (σ:Za):evM fs prim bf m0 live c (some (.panic x,tm,σ))=some (.panic x,tm,σ):=rfl
theorem ZNH (live:List Nat) (b:Zf) (c:Prop) [Decidable c] (x y:Option (ZaQ×Tms×Za)):evM fs prim bf m0 live b (if c then x else y)=if c then evM fs prim bf m0 live b x else evM fs prim bf m0 live b y:=by split <;> rfl
end
def Za5:AVal->Bool
 | .int _ _=>true
 | .bool _=>true
 | .str _=>true
 | .nilp=>true
 | .nilm=>true
 | .nili=>true
 | .lst _ _=>true
 | .fn _ []=>true
 | _=>false
def Zai:AVal->Bool
 | .agg cs=>cs.all Za5
 | x=>Za5 x
def Zbf:AVal->AVal
 | .lst _ xs=>.lst false xs
 | x=>x
def ZL:AVal->AVal
 | .agg cs=>.agg (cs.map Zbf)
 | x=>Zbf x
theorem ZrU {σ:Za} {x:AVal} (h:Za5 x=true):Zb8 σ x=some (Zbf x,[]):=by
 cases x <;> first | (simp [Za5] at h;done) | rfl
theorem Zsa {σ:Za}:∀ {xs:List AVal},xs.all Za5=true->Zcm σ xs=some (xs.map Zbf,[])
 | [],_=>rfl
 | x::xs,h=>by
  simp only [XP,Xj] at h
  simp only [Zcm,ZrU h.1,Zsa h.2,Xt,Xp]
theorem Zg1 {x:AVal} (h:∀ cs,x≠.agg cs):Zai x=Za5 x/\ZL x=Zbf x:=by
 cases x <;> first | exact ⟨rfl,rfl⟩ | exact absurd rfl (h _)
theorem ZzH {σ:Za} {x:AVal} (h:∀ cs,x≠.agg cs):showA σ x=Zb8 σ x:=by
 cases x <;> first | rfl | exact absurd rfl (h _)
theorem Zp6 (x:AVal):(∃ cs,x=.agg cs)\/∀ cs,x≠.agg cs:=by
 cases x <;> first | exact Xr ⟨_,rfl⟩ | (right;intro cs;simp)
theorem ZFw {σ:Za} {x:AVal} (h:Zai x=true):showA σ x=some (ZL x,[]):=by
 rcases Zp6 x with ⟨cs,rfl⟩ | hn
 ·simp only [Zai] at h
  simp only [showA,Zsa h,ZL]
 ·rw [(Zg1 hn).1] at h
  rw [ZzH hn,(Zg1 hn).2]
  exact ZrU h
theorem Zea {σ:Za}:∀ {xs:List AVal},xs.all Zai=true->showAs σ xs=some (xs.map ZL,[])
 | [],_=>rfl
 | x::xs,h=>by
  simp only [XP,Xj] at h
  simp only [showAs,ZFw h.1,Zea h.2,Xt,Xp]
theorem Zug {x:AVal} (h:Za5 x=true):Z3 (Zbf x)=[]:=by
 cases x
 case fn f cs=>cases cs <;> simp [Za5] at h;rfl
 all_goals first | (simp [Za5] at h;done) | rfl
theorem ZrT:∀ {xs:List AVal},xs.all Za5=true->Zp (xs.map Zbf)=[]
 | [],_=>rfl
 | x::xs,h=>by
  simp only [XP,Xj] at h
  simp only [Xt,Zp,Zug h.1,ZrT h.2,Xp]
theorem Ztw {x:AVal} (h:Zai x=true):Z3 (ZL x)=[]:=by
 rcases Zp6 x with ⟨cs,rfl⟩ | hn
 ·simp only [Zai] at h
  simp only [ZL,Z3];exact ZrT h
 ·rw [(Zg1 hn).1] at h
  rw [(Zg1 hn).2];exact Zug h
theorem Zc2:∀ {xs:List AVal},xs.all Zai=true->Zp (xs.map ZL)=[]
 | [],_=>rfl
 | x::xs,h=>by
  simp only [XP,Xj] at h
  simp only [Xt,Zp,Ztw h.1,Zc2 h.2,Xp]
theorem Zvf {ρ:Rho} {x:AVal} (h:Za5 x=true):Zm ρ (Zbf x)=Zbf x:=by
 cases x
 case fn f cs=>cases cs <;> simp [Za5] at h;rfl
 all_goals first | (simp [Za5] at h;done) | rfl
theorem ZsK {ρ:Rho}:∀ {xs:List AVal},xs.all Za5=true->Zg ρ (xs.map Zbf)=xs.map Zbf
 | [],_=>rfl
 | x::xs,h=>by
  simp only [XP,Xj] at h
  simp only [Xt,Zg,Zvf h.1,ZsK h.2]
theorem Zrj {ρ:Rho} {x:AVal} (h:Zai x=true):Zm ρ (ZL x)=ZL x:=by
 rcases Zp6 x with ⟨cs,rfl⟩ | hn
 ·simp only [Zai] at h
  simp only [ZL,Zm];rw [ZsK h]
 ·rw [(Zg1 hn).1] at h
  rw [(Zg1 hn).2];exact Zvf h
theorem ZcN {ρ:Rho}:∀ {xs:List AVal},xs.all Zai=true->Zg ρ (xs.map ZL)=xs.map ZL
 | [],_=>rfl
 | x::xs,h=>by
  simp only [XP,Xj] at h
  simp only [Xt,Zg,Zrj h.1,ZcN h.2]
theorem ZgJ {O:ZN} {bf:Nat->Bool} {σ:Za} {sq f own:Nat} {view:Bool} {args:List AVal} (hb:bf f=false) (h:args.all Zai=true) :
  Zi O bf σ sq f own view args=Zaw σ σ [] [] sq own (Z5 view 0 (O f (args.map ZL) [])):=by
 unfold Zi Zbx
 rw [hb]
 simp only [Xi,if_false,Zea h]
 have h1:Zn σ []=σ:=rfl
 rw [h1,Zc2 h]
 have h2:Zu σ 1000 [] []=[]:=rfl
 rw [h2]
 unfold Zbl
 simp only [Wj,if_true,ZcN h,Zr,XG]
theorem ZiV (σ:Za) (sq own:Nat) (r:AVal) (h:Zm (ZaA [] [] sq) r=r):Zaw σ σ [] [] sq own (some (r,[]))=some (r,σ,{}):=by
 simp only [Zaw,WK,X0,if_true,ZcY,Bool.not_true,WN,Xi,if_false]
 split
 ·rfl
 ·rw [h]
end
section
section
variable (ρ:Rho) (σ:Za)
theorem ZGO  : ZaP (.top)=false:=rfl
theorem ZJR  : ZaP (.any)=false:=rfl
theorem ZHh (k:IntKind) (n:Int):ZaP (.int k n)=false:=rfl
theorem ZLk (b:Bool):ZaP (.bool b)=false:=rfl
theorem ZIq (l:List UInt8):ZaP (.str l)=false:=rfl
theorem ZBl  : ZaP (.nilp)=false:=rfl
theorem ZHf (t:Nat) (o:Nat):ZaP (.ref t o)=false:=rfl
theorem ZBJ (t:Nat) (g:Nat) (i:Nat) (o:Nat):ZaP (.eref t g i o)=false:=rfl
theorem ZzB (cs:List AVal) (o:Nat):ZaP (.iptr cs o)=false:=rfl
theorem ZOP (x:Bool) (xs:List AVal):ZaP (.lst x xs)=false:=rfl
theorem ZKm (t:Nat) (g:Nat) (lo:Nat) (n:Nat):ZaP (.sl t g lo n)=false:=rfl
theorem ZEN (cs:List AVal):ZaP (.agg cs)=false:=rfl
theorem ZET (vs:List AVal):ZaP (.tup vs)=false:=rfl
theorem ZA5 (f:Nat) (caps:List AVal):ZaP (.fn f caps)=false:=rfl
theorem ZEL  : ZaP (.nilm)=false:=rfl
theorem ZFK (t:Nat):ZaP (.map t)=false:=rfl
theorem ZEb  : ZaP (.nili)=false:=rfl
theorem ZJz (t:Nat) (x:AVal):ZaP (.iface t x)=false:=rfl
theorem ZBF (x:AVal):ZaP (.pan x)=true:=rfl
theorem Zxk  : ZS (.top)=false:=rfl
theorem ZAF  : ZS (.any)=true:=rfl
theorem Zxe (k:IntKind) (n:Int):ZS (.int k n)=true:=rfl
theorem ZEf (b:Bool):ZS (.bool b)=true:=rfl
theorem ZwM (l:List UInt8):ZS (.str l)=true:=rfl
theorem ZAe  : ZS (.nilp)=true:=rfl
theorem ZFt (t:Nat) (o:Nat):ZS (.ref t o)=true:=rfl
theorem ZJ7 (t:Nat) (g:Nat) (i:Nat) (o:Nat):ZS (.eref t g i o)=true:=rfl
theorem Zzt (cs:List AVal) (o:Nat):ZS (.iptr cs o)=true:=rfl
theorem ZFg (x:Bool) (xs:List AVal):ZS (.lst x xs)=true:=rfl
theorem ZGM (t:Nat) (g:Nat) (lo:Nat) (n:Nat):ZS (.sl t g lo n)=true:=rfl
theorem ZwL (cs:List AVal):ZS (.agg cs)=false:=rfl
theorem ZOi (vs:List AVal):ZS (.tup vs)=false:=rfl
theorem ZzP (f:Nat) (caps:List AVal):ZS (.fn f caps)=true:=rfl
theorem ZGe  : ZS (.nilm)=true:=rfl
theorem ZEW (t:Nat):ZS (.map t)=true:=rfl
theorem ZMw  : ZS (.nili)=true:=rfl
theorem Zyk (t:Nat) (x:AVal):ZS (.iface t x)=true:=rfl
theorem ZEp (x:AVal):ZS (.pan x)=false:=rfl
theorem ZD6  : Zbj (.top)=false:=rfl
theorem ZzA  : Zbj (.any)=true:=rfl
theorem ZIS (k:IntKind) (n:Int):Zbj (.int k n)=true:=rfl
theorem ZHc (b:Bool):Zbj (.bool b)=true:=rfl
theorem ZAM (l:List UInt8):Zbj (.str l)=true:=rfl
theorem Zxy  : Zbj (.nilp)=true:=rfl
theorem ZAX (t:Nat) (o:Nat):Zbj (.ref t o)=true:=rfl
theorem ZzT (t:Nat) (g:Nat) (i:Nat) (o:Nat):Zbj (.eref t g i o)=true:=rfl
theorem ZEC (cs:List AVal) (o:Nat):Zbj (.iptr cs o)=true:=rfl
theorem ZGU (x:Bool) (xs:List AVal):Zbj (.lst x xs)=true:=rfl
theorem ZxP (t:Nat) (g:Nat) (lo:Nat) (n:Nat):Zbj (.sl t g lo n)=true:=rfl
theorem ZGg (cs:List AVal):Zbj (.agg cs)=true:=rfl
theorem Zww (vs:List AVal):Zbj (.tup vs)=true:=rfl
theorem ZBs (f:Nat) (caps:List AVal):Zbj (.fn f caps)=true:=rfl
theorem ZMi  : Zbj (.nilm)=true:=rfl
theorem ZK5 (t:Nat):Zbj (.map t)=true:=rfl
theorem Zxd  : Zbj (.nili)=true:=rfl
theorem ZEP (t:Nat) (x:AVal):Zbj (.iface t x)=true:=rfl
theorem ZFE (x:AVal):Zbj (.pan x)=true:=rfl
theorem ZJE  : Za2 (.top)=false:=rfl
theorem ZHG  : Za2 (.any)=false:=rfl
theorem ZI6 (k:IntKind) (n:Int):Za2 (.int k n)=true:=rfl
theorem ZAL (b:Bool):Za2 (.bool b)=true:=rfl
theorem ZAj (l:List UInt8):Za2 (.str l)=true:=rfl
theorem ZHB  : Za2 (.nilp)=true:=rfl
theorem ZN2 (t:Nat) (o:Nat):Za2 (.ref t o)=false:=rfl
theorem ZHl (t:Nat) (g:Nat) (i:Nat) (o:Nat):Za2 (.eref t g i o)=false:=rfl
theorem ZDK (cs:List AVal) (o:Nat):Za2 (.iptr cs o)=false:=rfl
theorem ZEw (x:Bool) (xs:List AVal):Za2 (.lst x xs)=false:=rfl
theorem ZCo (t:Nat) (g:Nat) (lo:Nat) (n:Nat):Za2 (.sl t g lo n)=false:=rfl
theorem ZIE (cs:List AVal):Za2 (.agg cs)=false:=rfl
theorem ZFk (vs:List AVal):Za2 (.tup vs)=false:=rfl
theorem ZGa (f:Nat) (caps:List AVal):Za2 (.fn f caps)=false:=rfl
theorem ZMO  : Za2 (.nilm)=true:=rfl
theorem ZIZ (t:Nat):Za2 (.map t)=false:=rfl
theorem ZzV  : Za2 (.nili)=true:=rfl
theorem ZIL (t:Nat) (x:AVal):Za2 (.iface t x)=false:=rfl
theorem ZED (x:AVal):Za2 (.pan x)=false:=rfl
theorem ZxQ  : Zbn (.top)=false:=rfl
theorem Zyt  : Zbn (.any)=false:=rfl
theorem ZLU (k:IntKind) (n:Int):Zbn (.int k n)=true:=rfl
theorem ZOd (b:Bool):Zbn (.bool b)=true:=rfl
theorem ZDM (l:List UInt8):Zbn (.str l)=true:=rfl
theorem ZxO  : Zbn (.nilp)=true:=rfl
theorem ZNX (t:Nat) (o:Nat):Zbn (.ref t o)=false:=rfl
theorem ZA4 (t:Nat) (g:Nat) (i:Nat) (o:Nat):Zbn (.eref t g i o)=false:=rfl
theorem ZwN (cs:List AVal) (o:Nat):Zbn (.iptr cs o)=false:=rfl
theorem ZMe (x:Bool) (xs:List AVal):Zbn (.lst x xs)=false:=rfl
theorem ZAN (t:Nat) (g:Nat) (lo:Nat) (n:Nat):Zbn (.sl t g lo n)=false:=rfl
theorem ZxK (cs:List AVal):Zbn (.agg cs)=cs.all Za2:=rfl
theorem ZMV (vs:List AVal):Zbn (.tup vs)=false:=rfl
theorem ZOT (f:Nat) (caps:List AVal):Zbn (.fn f caps)=false:=rfl
theorem ZEI  : Zbn (.nilm)=true:=rfl
theorem ZJZ (t:Nat):Zbn (.map t)=false:=rfl
theorem ZwT  : Zbn (.nili)=true:=rfl
theorem ZOF (t:Nat) (x:AVal):Zbn (.iface t x)=false:=rfl
theorem Zxo (x:AVal):Zbn (.pan x)=false:=rfl
theorem ZIJ  : Zbs (.top)=false:=rfl
theorem ZHT  : Zbs (.any)=false:=rfl
theorem ZKE (k:IntKind) (n:Int):Zbs (.int k n)=true:=rfl
theorem ZyL (b:Bool):Zbs (.bool b)=true:=rfl
theorem ZNc (l:List UInt8):Zbs (.str l)=true:=rfl
theorem ZL6  : Zbs (.nilp)=true:=rfl
theorem ZJX (t:Nat) (o:Nat):Zbs (.ref t o)=false:=rfl
theorem ZFo (t:Nat) (g:Nat) (i:Nat) (o:Nat):Zbs (.eref t g i o)=false:=rfl
theorem ZK3 (cs:List AVal) (o:Nat):Zbs (.iptr cs o)=false:=rfl
theorem ZB9 (x:Bool) (xs:List AVal):Zbs (.lst x xs)=false:=rfl
theorem ZK0 (t:Nat) (g:Nat) (lo:Nat) (n:Nat):Zbs (.sl t g lo n)=false:=rfl
theorem ZKs (cs:List AVal):Zbs (.agg cs)=cs.all Za2:=rfl
theorem ZOO (vs:List AVal):Zbs (.tup vs)=vs.all Zbn:=rfl
theorem ZGs (f:Nat) (caps:List AVal):Zbs (.fn f caps)=false:=rfl
theorem ZFF  : Zbs (.nilm)=true:=rfl
theorem ZBC (t:Nat):Zbs (.map t)=false:=rfl
theorem ZJt  : Zbs (.nili)=true:=rfl
theorem ZNQ (t:Nat) (x:AVal):Zbs (.iface t x)=false:=rfl
theorem ZCa  : Za5 (.top)=false:=rfl
theorem ZAk  : Za5 (.any)=false:=rfl
theorem Zse (k:IntKind) (n:Int):Za5 (.int k n)=true:=rfl
theorem ZHe (b:Bool):Za5 (.bool b)=true:=rfl
theorem Zvu (l:List UInt8):Za5 (.str l)=true:=rfl
theorem ZNG  : Za5 (.nilp)=true:=rfl
theorem ZMA (t:Nat) (o:Nat):Za5 (.ref t o)=false:=rfl
theorem ZAv (t:Nat) (g:Nat) (i:Nat) (o:Nat):Za5 (.eref t g i o)=false:=rfl
theorem ZBI (cs:List AVal) (o:Nat):Za5 (.iptr cs o)=false:=rfl
theorem ZtB (x:Bool) (xs:List AVal):Za5 (.lst x xs)=true:=rfl
theorem Zxn (t:Nat) (g:Nat) (lo:Nat) (n:Nat):Za5 (.sl t g lo n)=false:=rfl
theorem ZFz (cs:List AVal):Za5 (.agg cs)=false:=rfl
theorem ZN3 (vs:List AVal):Za5 (.tup vs)=false:=rfl
theorem ZGJ  : Za5 (.nilm)=true:=rfl
theorem ZI0 (t:Nat):Za5 (.map t)=false:=rfl
theorem ZMI  : Za5 (.nili)=true:=rfl
theorem Zyp (t:Nat) (x:AVal):Za5 (.iface t x)=false:=rfl
theorem Zyf (x:AVal):Za5 (.pan x)=false:=rfl
theorem ZHP  : Zai (.top)=false:=rfl
theorem Zw4  : Zai (.any)=false:=rfl
theorem ZH3 (k:IntKind) (n:Int):Zai (.int k n)=true:=rfl
theorem ZDF (b:Bool):Zai (.bool b)=true:=rfl
theorem ZHr (l:List UInt8):Zai (.str l)=true:=rfl
theorem ZH6  : Zai (.nilp)=true:=rfl
theorem ZO1 (t:Nat) (o:Nat):Zai (.ref t o)=false:=rfl
theorem ZFM (t:Nat) (g:Nat) (i:Nat) (o:Nat):Zai (.eref t g i o)=false:=rfl
theorem ZDo (cs:List AVal) (o:Nat):Zai (.iptr cs o)=false:=rfl
theorem ZE3 (x:Bool) (xs:List AVal):Zai (.lst x xs)=true:=rfl
theorem ZK1 (t:Nat) (g:Nat) (lo:Nat) (n:Nat):Zai (.sl t g lo n)=false:=rfl
theorem Ztf (cs:List AVal):Zai (.agg cs)=cs.all Za5:=rfl
theorem ZDG (vs:List AVal):Zai (.tup vs)=false:=rfl
theorem ZNu  : Zai (.nilm)=true:=rfl
theorem ZOm (t:Nat):Zai (.map t)=false:=rfl
theorem ZyT  : Zai (.nili)=true:=rfl
theorem ZAG (t:Nat) (x:AVal):Zai (.iface t x)=false:=rfl
theorem ZGn (x:AVal):Zai (.pan x)=false:=rfl
theorem Zxg  : Zbf (.top)=(.top):=rfl
theorem Zxq  : Zbf (.any)=(.any):=rfl
theorem Zu7 (k:IntKind) (n:Int):Zbf (.int k n)=(.int k n):=rfl
theorem Zyh (b:Bool):Zbf (.bool b)=(.bool b):=rfl
theorem Zrv (l:List UInt8):Zbf (.str l)=(.str l):=rfl
theorem ZMc  : Zbf (.nilp)=(.nilp):=rfl
theorem ZBN (t:Nat) (o:Nat):Zbf (.ref t o)=(.ref t o):=rfl
theorem ZOp (t:Nat) (g:Nat) (i:Nat) (o:Nat):Zbf (.eref t g i o)=(.eref t g i o):=rfl
theorem ZHy (cs:List AVal) (o:Nat):Zbf (.iptr cs o)=(.iptr cs o):=rfl
theorem ZsY (x:Bool) (xs:List AVal):Zbf (.lst x xs)=.lst false xs:=rfl
theorem ZOk (t:Nat) (g:Nat) (lo:Nat) (n:Nat):Zbf (.sl t g lo n)=(.sl t g lo n):=rfl
theorem ZJN (cs:List AVal):Zbf (.agg cs)=(.agg cs):=rfl
theorem ZEQ (vs:List AVal):Zbf (.tup vs)=(.tup vs):=rfl
theorem ZDN (f:Nat) (caps:List AVal):Zbf (.fn f caps)=(.fn f caps):=rfl
theorem ZHu  : Zbf (.nilm)=(.nilm):=rfl
theorem ZxT (t:Nat):Zbf (.map t)=(.map t):=rfl
theorem ZHS  : Zbf (.nili)=(.nili):=rfl
theorem ZIK (t:Nat) (x:AVal):Zbf (.iface t x)=(.iface t x):=rfl
theorem ZyC (x:AVal):Zbf (.pan x)=(.pan x):=rfl
theorem ZGS  : ZL (.top)=(.top):=rfl
theorem ZNo  : ZL (.any)=(.any):=rfl
theorem ZCi (k:IntKind) (n:Int):ZL (.int k n)=(.int k n):=rfl
theorem ZMl (b:Bool):ZL (.bool b)=(.bool b):=rfl
theorem ZN1 (l:List UInt8):ZL (.str l)=(.str l):=rfl
theorem ZHR  : ZL (.nilp)=(.nilp):=rfl
theorem ZKP (t:Nat) (o:Nat):ZL (.ref t o)=(.ref t o):=rfl
theorem ZNy (t:Nat) (g:Nat) (i:Nat) (o:Nat):ZL (.eref t g i o)=(.eref t g i o):=rfl
theorem ZyV (cs:List AVal) (o:Nat):ZL (.iptr cs o)=(.iptr cs o):=rfl
theorem ZwK (x:Bool) (xs:List AVal):ZL (.lst x xs)=.lst false xs:=rfl
theorem Zxj (t:Nat) (g:Nat) (lo:Nat) (n:Nat):ZL (.sl t g lo n)=(.sl t g lo n):=rfl
theorem ZtQ (cs:List AVal):ZL (.agg cs)=.agg (cs.map Zbf):=rfl
theorem ZFP (vs:List AVal):ZL (.tup vs)=(.tup vs):=rfl
theorem ZBL (f:Nat) (caps:List AVal):ZL (.fn f caps)=(.fn f caps):=rfl
theorem ZKU  : ZL (.nilm)=(.nilm):=rfl
theorem ZJU (t:Nat):ZL (.map t)=(.map t):=rfl
theorem ZzW  : ZL (.nili)=(.nili):=rfl
theorem ZFL (t:Nat) (x:AVal):ZL (.iface t x)=(.iface t x):=rfl
theorem ZOR (x:AVal):ZL (.pan x)=(.pan x):=rfl
theorem ZEm  : AVal.cells (.top)=[(.top)]:=rfl
theorem ZE4  : AVal.cells (.any)=[(.any)]:=rfl
theorem ZDL (k:IntKind) (n:Int):AVal.cells (.int k n)=[(.int k n)]:=rfl
theorem ZC6 (b:Bool):AVal.cells (.bool b)=[(.bool b)]:=rfl
theorem ZyG (l:List UInt8):AVal.cells (.str l)=[(.str l)]:=rfl
theorem ZEY  : AVal.cells (.nilp)=[(.nilp)]:=rfl
theorem ZCO (t:Nat) (o:Nat):AVal.cells (.ref t o)=[(.ref t o)]:=rfl
theorem ZE1 (t:Nat) (g:Nat) (i:Nat) (o:Nat):AVal.cells (.eref t g i o)=[(.eref t g i o)]:=rfl
theorem Zz3 (cs:List AVal) (o:Nat):AVal.cells (.iptr cs o)=[(.iptr cs o)]:=rfl
theorem ZFl (x:Bool) (xs:List AVal):AVal.cells (.lst x xs)=[(.lst x xs)]:=rfl
theorem ZIr (t:Nat) (g:Nat) (lo:Nat) (n:Nat):AVal.cells (.sl t g lo n)=[(.sl t g lo n)]:=rfl
theorem ZBM (cs:List AVal):AVal.cells (.agg cs)=cs:=rfl
theorem ZB1 (vs:List AVal):AVal.cells (.tup vs)=[(.tup vs)]:=rfl
theorem ZyK (f:Nat) (caps:List AVal):AVal.cells (.fn f caps)=[(.fn f caps)]:=rfl
theorem ZNZ  : AVal.cells (.nilm)=[(.nilm)]:=rfl
theorem ZCF (t:Nat):AVal.cells (.map t)=[(.map t)]:=rfl
theorem ZHD  : AVal.cells (.nili)=[(.nili)]:=rfl
theorem ZMs (t:Nat) (x:AVal):AVal.cells (.iface t x)=[(.iface t x)]:=rfl
theorem ZBb (x:AVal):AVal.cells (.pan x)=[(.pan x)]:=rfl
theorem ZzE  : ZaW (.top)=(.top):=rfl
theorem ZDV  : ZaW (.any)=(.any):=rfl
theorem ZIG (k:IntKind) (n:Int):ZaW (.int k n)=(.int k n):=rfl
theorem ZBn (b:Bool):ZaW (.bool b)=(.bool b):=rfl
theorem ZG5 (l:List UInt8):ZaW (.str l)=(.str l):=rfl
theorem ZC3  : ZaW (.nilp)=(.nilp):=rfl
theorem ZCA (t:Nat) (o:Nat):ZaW (.ref t o)=(.ref t o):=rfl
theorem ZKd (t:Nat) (g:Nat) (i:Nat) (o:Nat):ZaW (.eref t g i o)=(.eref t g i o):=rfl
theorem ZIB (cs:List AVal) (o:Nat):ZaW (.iptr cs o)=(.iptr cs o):=rfl
theorem ZBi (x:Bool) (xs:List AVal):ZaW (.lst x xs)=(.lst x xs):=rfl
theorem ZIW (t:Nat) (g:Nat) (lo:Nat) (n:Nat):ZaW (.sl t g lo n)=(.sl t g lo n):=rfl
theorem ZLb (cs:List AVal):ZaW (.agg cs)=(.agg cs):=rfl
theorem ZII (vs:List AVal):ZaW (.tup vs)=(.tup vs):=rfl
theorem ZAJ (f:Nat) (caps:List AVal):ZaW (.fn f caps)=(.fn f caps):=rfl
theorem ZLC  : ZaW (.nilm)=(.nilm):=rfl
theorem ZCq (t:Nat):ZaW (.map t)=(.map t):=rfl
theorem ZxF  : ZaW (.nili)=(.nili):=rfl
theorem ZJp (t:Nat) (x:AVal):ZaW (.iface t x)=(.iface t x):=rfl
theorem ZAY (x:AVal):ZaW (.pan x)=x:=rfl
theorem ZEU  : Zbd (.top)=4:=rfl
theorem ZAc  : Zbd (.any)=4:=rfl
theorem ZJV (k:IntKind) (n:Int):Zbd (.int k n)=0:=rfl
theorem Zws (b:Bool):Zbd (.bool b)=1:=rfl
theorem ZOw (l:List UInt8):Zbd (.str l)=2:=rfl
theorem ZCJ  : Zbd (.nilp)=4:=rfl
theorem Zw3 (t:Nat) (o:Nat):Zbd (.ref t o)=4:=rfl
theorem ZzG (t:Nat) (g:Nat) (i:Nat) (o:Nat):Zbd (.eref t g i o)=4:=rfl
theorem ZM5 (cs:List AVal) (o:Nat):Zbd (.iptr cs o)=4:=rfl
theorem ZL9 (x:Bool) (xs:List AVal):Zbd (.lst x xs)=4:=rfl
theorem ZJs (t:Nat) (g:Nat) (lo:Nat) (n:Nat):Zbd (.sl t g lo n)=4:=rfl
theorem ZyR (cs:List AVal):Zbd (.agg cs)=4:=rfl
theorem ZFj (vs:List AVal):Zbd (.tup vs)=4:=rfl
theorem ZxJ (f:Nat) (caps:List AVal):Zbd (.fn f caps)=4:=rfl
theorem ZwX  : Zbd (.nilm)=4:=rfl
theorem ZM2 (t:Nat):Zbd (.map t)=4:=rfl
theorem ZEZ  : Zbd (.nili)=4:=rfl
theorem ZOg (t:Nat) (x:AVal):Zbd (.iface t x)=4:=rfl
theorem ZLL (x:AVal):Zbd (.pan x)=4:=rfl
theorem ZDw  : Z3 (.top)=[]:=rfl
theorem ZxI  : Z3 (.any)=[]:=rfl
theorem ZO8 (k:IntKind) (n:Int):Z3 (.int k n)=[]:=rfl
theorem ZKk (b:Bool):Z3 (.bool b)=[]:=rfl
theorem ZId (l:List UInt8):Z3 (.str l)=[]:=rfl
theorem ZG2  : Z3 (.nilp)=[]:=rfl
theorem ZI4 (t:Nat) (o:Nat):Z3 (.ref t o)=[t]:=rfl
theorem ZOE (t:Nat) (g:Nat) (i:Nat) (o:Nat):Z3 (.eref t g i o)=[t]:=rfl
theorem ZLV (cs:List AVal) (o:Nat):Z3 (.iptr cs o)=[]:=rfl
theorem ZJA (x:Bool) (xs:List AVal):Z3 (.lst x xs)=[]:=rfl
theorem ZMm (t:Nat) (g:Nat) (lo:Nat) (n:Nat):Z3 (.sl t g lo n)=[t]:=rfl
theorem Zyv (cs:List AVal):Z3 (.agg cs)=Zp cs:=rfl
theorem ZGj (vs:List AVal):Z3 (.tup vs)=Zp vs:=rfl
theorem ZAD (f:Nat) (caps:List AVal):Z3 (.fn f caps)=Zp caps:=rfl
theorem ZF6  : Z3 (.nilm)=[]:=rfl
theorem ZKN (t:Nat):Z3 (.map t)=[t]:=rfl
theorem ZFX  : Z3 (.nili)=[]:=rfl
theorem ZLD (t:Nat) (x:AVal):Z3 (.iface t x)=Z3 x:=rfl
theorem ZwV (x:AVal):Z3 (.pan x)=Z3 x:=rfl
theorem ZGl  : Zm ρ (.top)=(.top):=rfl
theorem ZNJ  : Zm ρ (.any)=(.any):=rfl
theorem ZKH (k:IntKind) (n:Int):Zm ρ (.int k n)=(.int k n):=rfl
theorem ZDj (b:Bool):Zm ρ (.bool b)=(.bool b):=rfl
theorem ZNm (l:List UInt8):Zm ρ (.str l)=(.str l):=rfl
theorem ZIV  : Zm ρ (.nilp)=(.nilp):=rfl
theorem ZLY (cs:List AVal) (o:Nat):Zm ρ (.iptr cs o)=(.iptr cs o):=rfl
theorem ZMW (x:Bool) (xs:List AVal):Zm ρ (.lst x xs)=(.lst x xs):=rfl
theorem ZJH (cs:List AVal):Zm ρ (.agg cs)=.agg (Zg ρ cs):=rfl
theorem ZHF (vs:List AVal):Zm ρ (.tup vs)=.tup (Zg ρ vs):=rfl
theorem ZKj (f:Nat) (caps:List AVal):Zm ρ (.fn f caps)=.fn f (Zg ρ caps):=rfl
theorem ZDx  : Zm ρ (.nilm)=(.nilm):=rfl
theorem ZMC  : Zm ρ (.nili)=(.nili):=rfl
theorem ZDJ (t:Nat) (x:AVal):Zm ρ (.iface t x)=.iface t (Zm ρ x):=rfl
theorem ZwF (x:AVal):Zm ρ (.pan x)=.pan (Zm ρ x):=rfl
theorem ZLe (f:Nat):Za5 (.fn f [])=true:=rfl
theorem ZJq (f:Nat):Zai (.fn f [])=true:=rfl
theorem ZOs (t:Nat) (x:AVal):Zbs (.pan (.iface t x))=Za2 x:=rfl
theorem ZL3 (live:List Nat) (tm:Tms):ZjZ live (some (tm,σ,none))=some (.normal,keepL live tm,σ):=rfl
theorem ZDv (live:List Nat) (tm:Tms) (x:AVal):ZjZ live (some (tm,σ,some x))=some (.panic x,[],σ):=rfl
theorem Zy8 (live:List Nat):ZjZ live none=none:=rfl
theorem ZA0 (t o:Nat):Zm ρ (.ref t o)=(match ρ t 0 with | some (t',0)=>.ref t' o | _=>.any):=rfl
theorem ZNd (t:Nat):Zm ρ (.map t)=(match ρ t 0 with | some (t',0)=>.map t' | _=>.any):=rfl
theorem ZLd (t g lo n:Nat):Zm ρ (.sl t g lo n)=(match ρ t g with | some (t',g')=>.sl t' g' lo n | none=>.any):=rfl
theorem ZDO (t g i o:Nat):Zm ρ (.eref t g i o)=(match ρ t g with | some (t',g')=>.eref t' g' i o | none=>.any):=rfl
theorem ZFV:Zp []=[]:=rfl
theorem ZwP (x:AVal) (xs:List AVal):Zp (x::xs)=Z3 x++Zp xs:=rfl
theorem ZxA:Zg ρ []=[]:=rfl
theorem Zy6 (x:AVal) (xs:List AVal):Zg ρ (x::xs)=Zm ρ x::Zg ρ xs:=rfl
end
end
section
mutual
def ZM:AVal->Bool
 | .ref _ _=>false
 | .eref _ _ _ _=>false
 | .sl _ _ _ _=>false
 | .map _=>false
 | .agg cs=>Zd cs
 | .tup vs=>Zd vs
 | .fn _ vs=>Zd vs
 | .iface _ x=>ZM x
 | .pan x=>ZM x
 | .top=>true
 | .any=>true
 | .int _ _=>true
 | .bool _=>true
 | .str _=>true
 | .nilp=>true
 | .nilm=>true
 | .nili=>true
 | .iptr _ _=>true
 | .lst _ _=>true
def Zd:List AVal->Bool
 | []=>true
 | x::xs=>ZM x && Zd xs
end
mutual
theorem Za7 (ρ:Rho):∀ (x:AVal),ZM x=true->Zm ρ x=x/\Z3 x=[]
 | .ref _ _,h=>by simp [ZM] at h
 | .eref _ _ _ _,h=>by simp [ZM] at h
 | .sl _ _ _ _,h=>by simp [ZM] at h
 | .map _,h=>by simp [ZM] at h
 | .agg cs,h=>by have:=ZaX ρ cs (by simpa only [ZM] using h);exact ⟨by simp only [Zm,this.1],by simp only [Z3,this.2]⟩
 | .tup cs,h=>by have:=ZaX ρ cs (by simpa only [ZM] using h);exact ⟨by simp only [Zm,this.1],by simp only [Z3,this.2]⟩
 | .fn f cs,h=>by have:=ZaX ρ cs (by simpa only [ZM] using h);exact ⟨by simp only [Zm,this.1],by simp only [Z3,this.2]⟩
 | .iface t x,h=>by have:=Za7 ρ x (by simpa only [ZM] using h);exact ⟨by simp only [Zm,this.1],by simp only [Z3,this.2]⟩
 | .pan x,h=>by have:=Za7 ρ x (by simpa only [ZM] using h);exact ⟨by simp only [Zm,this.1],by simp only [Z3,this.2]⟩
 | .top,_=>⟨rfl,rfl⟩
 | .any,_=>⟨rfl,rfl⟩
 | .int _ _,_=>⟨rfl,rfl⟩
 | .bool _,_=>⟨rfl,rfl⟩
 | .str _,_=>⟨rfl,rfl⟩
 | .nilp,_=>⟨rfl,rfl⟩
 | .nilm,_=>⟨rfl,rfl⟩
 | .nili,_=>⟨rfl,rfl⟩
 | .iptr _ _,_=>⟨rfl,rfl⟩
 | .lst _ _,_=>⟨rfl,rfl⟩
theorem ZaX (ρ:Rho):∀ (xs:List AVal),Zd xs=true->Zg ρ xs=xs/\Zp xs=[]
 | [],_=>⟨rfl,rfl⟩
 | x::xs,h=>by
  simp only [Zd,Xj] at h
  have h1:=Za7 ρ x h.1
  have h2:=ZaX ρ xs h.2
  exact ⟨by simp only [Zg,h1.1,h2.1],by simp only [Zp,h1.2,h2.2,Xp]⟩
end
theorem ZuB {σ:Za} {r:AVal} (h:ZM r=true):Z8 0 σ r=some (r,[]):=by
 have h1:=Za7 (Zk σ 0 []) r h
 have hids:Zy 0 [r] σ=[]:=by
  unfold Zy
  simp only [Zp,h1.2,Xp,List.range_zero,XZ]
  rfl
 unfold Z8 gcA
 simp only [hids,Zg,Zr,h1.1]
def Zb3:AVal->AVal
 | .tup vs=>.tup (vs.map ZL)
 | x=>ZL x
def Zb6:AVal->Bool
 | .tup vs=>vs.all Zai
 | x=>Zai x
def ZbL:AVal->Bool
 | .fn _ _=>false
 | _=>true
def ZbQ:AVal->Bool
 | .agg cs=>cs.all ZbL
 | x=>ZbL x
def Zb9:AVal->Bool
 | .tup vs=>vs.all ZbQ
 | x=>ZbQ x
theorem Zvr {k g n:Nat} {xs:List AVal} {σ:Za} {t:Nat} (hs:σ[t]?=some (.row g k xs)) (hn:n<=xs.length):ZbB 0 (some (.sl t g 0 n,σ))=some (.lst false (xs.take n),[]):=by
 have hv:viewR σ (.sl t g 0 n)=some (.lst false (xs.take n),[t]):=by
  simp only [viewR,ZW,ZP,ZR,hs,XE,hn,and_self,if_true,Xaz]
 have e:ZbB 0 (some (.sl t g 0 n,σ))=(match viewR σ (.sl t g 0 n) with
  | some (r',ts)=>match gcA 0 [r'] (Zn σ ts) with
   | ([r''],σ')=>some (r'',σ')
   | _=>none
  | none=>none):=rfl
 rw [e,hv]
 exact ZuB rfl
theorem ZM8 {m:Nat} {fn:ZF} {tm:Tms} {σ:Za}:Zau m fn (some (.ret,tm,σ))=match resA tm σ fn.res with
  | some r=>Z8 m σ r
  | none=>none:=rfl
theorem Zyw {m:Nat} {fn:ZF} {tm:Tms} {σ:Za}:Zau m fn (some (.normal,tm,σ))=match resA tm σ fn.res with
  | some r=>Z8 m σ r
  | none=>none:=rfl
theorem ZKl {m:Nat} {fn:ZF} {tm:Tms} {σ:Za} {x:AVal}:Zau m fn (some (.panic x,tm,σ))=Z8 m σ (.pan x):=rfl
theorem ZMu  : ZM (.top)=true:=rfl
theorem ZEj  : ZM (.any)=true:=rfl
theorem ZMD (k:IntKind) (n:Int):ZM (.int k n)=true:=rfl
theorem ZCj (b:Bool):ZM (.bool b)=true:=rfl
theorem ZBj (l:List UInt8):ZM (.str l)=true:=rfl
theorem ZOy  : ZM (.nilp)=true:=rfl
theorem ZGW (t:Nat) (o:Nat):ZM (.ref t o)=false:=rfl
theorem Zy5 (t:Nat) (g:Nat) (i:Nat) (o:Nat):ZM (.eref t g i o)=false:=rfl
theorem ZNB (cs:List AVal) (o:Nat):ZM (.iptr cs o)=true:=rfl
theorem ZCr (x:Bool) (xs:List AVal):ZM (.lst x xs)=true:=rfl
theorem ZLE (t:Nat) (g:Nat) (lo:Nat) (n:Nat):ZM (.sl t g lo n)=false:=rfl
theorem ZHE (cs:List AVal):ZM (.agg cs)=Zd cs:=rfl
theorem ZGZ (vs:List AVal):ZM (.tup vs)=Zd vs:=rfl
theorem ZDY (f:Nat) (caps:List AVal):ZM (.fn f caps)=Zd caps:=rfl
theorem ZJb  : ZM (.nilm)=true:=rfl
theorem ZLW (t:Nat):ZM (.map t)=false:=rfl
theorem ZEs  : ZM (.nili)=true:=rfl
theorem ZwH (t:Nat) (x:AVal):ZM (.iface t x)=ZM x:=rfl
theorem ZwO (x:AVal):ZM (.pan x)=ZM x:=rfl
theorem ZDD  : ZbL (.top)=true:=rfl
theorem ZHx  : ZbL (.any)=true:=rfl
theorem ZHp (k:IntKind) (n:Int):ZbL (.int k n)=true:=rfl
theorem ZHo (b:Bool):ZbL (.bool b)=true:=rfl
theorem ZIf (l:List UInt8):ZbL (.str l)=true:=rfl
theorem Zyb  : ZbL (.nilp)=true:=rfl
theorem ZHL (t:Nat) (o:Nat):ZbL (.ref t o)=true:=rfl
theorem ZL4 (t:Nat) (g:Nat) (i:Nat) (o:Nat):ZbL (.eref t g i o)=true:=rfl
theorem ZOz (cs:List AVal) (o:Nat):ZbL (.iptr cs o)=true:=rfl
theorem ZA1 (x:Bool) (xs:List AVal):ZbL (.lst x xs)=true:=rfl
theorem ZFp (t:Nat) (g:Nat) (lo:Nat) (n:Nat):ZbL (.sl t g lo n)=true:=rfl
theorem ZOL (cs:List AVal):ZbL (.agg cs)=true:=rfl
theorem ZND (vs:List AVal):ZbL (.tup vs)=true:=rfl
theorem ZLn (f:Nat) (caps:List AVal):ZbL (.fn f caps)=false:=rfl
theorem ZAW  : ZbL (.nilm)=true:=rfl
theorem ZyP (t:Nat):ZbL (.map t)=true:=rfl
theorem ZC9  : ZbL (.nili)=true:=rfl
theorem ZME (t:Nat) (x:AVal):ZbL (.iface t x)=true:=rfl
theorem ZAn (x:AVal):ZbL (.pan x)=true:=rfl
theorem ZLX  : ZbQ (.top)=true:=rfl
theorem ZC5  : ZbQ (.any)=true:=rfl
theorem ZDg (k:IntKind) (n:Int):ZbQ (.int k n)=true:=rfl
theorem ZD8 (b:Bool):ZbQ (.bool b)=true:=rfl
theorem ZAP (l:List UInt8):ZbQ (.str l)=true:=rfl
theorem ZKW  : ZbQ (.nilp)=true:=rfl
theorem ZLt (t:Nat) (o:Nat):ZbQ (.ref t o)=true:=rfl
theorem ZCb (t:Nat) (g:Nat) (i:Nat) (o:Nat):ZbQ (.eref t g i o)=true:=rfl
theorem ZIO (cs:List AVal) (o:Nat):ZbQ (.iptr cs o)=true:=rfl
theorem ZCP (x:Bool) (xs:List AVal):ZbQ (.lst x xs)=true:=rfl
theorem ZJ0 (t:Nat) (g:Nat) (lo:Nat) (n:Nat):ZbQ (.sl t g lo n)=true:=rfl
theorem ZFr (cs:List AVal):ZbQ (.agg cs)=cs.all ZbL:=rfl
theorem Zxc (vs:List AVal):ZbQ (.tup vs)=true:=rfl
theorem Zw2 (f:Nat) (caps:List AVal):ZbQ (.fn f caps)=false:=rfl
theorem ZIH  : ZbQ (.nilm)=true:=rfl
theorem ZNE (t:Nat):ZbQ (.map t)=true:=rfl
theorem ZAf  : ZbQ (.nili)=true:=rfl
theorem ZHk (t:Nat) (x:AVal):ZbQ (.iface t x)=true:=rfl
theorem ZKb (x:AVal):ZbQ (.pan x)=true:=rfl
theorem Zxx  : Zb9 (.top)=true:=rfl
theorem ZAx  : Zb9 (.any)=true:=rfl
theorem ZOh (k:IntKind) (n:Int):Zb9 (.int k n)=true:=rfl
theorem ZJF (b:Bool):Zb9 (.bool b)=true:=rfl
theorem Zyu (l:List UInt8):Zb9 (.str l)=true:=rfl
theorem ZGb  : Zb9 (.nilp)=true:=rfl
theorem ZMP (t:Nat) (o:Nat):Zb9 (.ref t o)=true:=rfl
theorem ZD3 (t:Nat) (g:Nat) (i:Nat) (o:Nat):Zb9 (.eref t g i o)=true:=rfl
theorem ZEi (cs:List AVal) (o:Nat):Zb9 (.iptr cs o)=true:=rfl
theorem ZCl (x:Bool) (xs:List AVal):Zb9 (.lst x xs)=true:=rfl
theorem ZJ2 (t:Nat) (g:Nat) (lo:Nat) (n:Nat):Zb9 (.sl t g lo n)=true:=rfl
theorem Zwo (cs:List AVal):Zb9 (.agg cs)=cs.all ZbL:=rfl
theorem ZCe (vs:List AVal):Zb9 (.tup vs)=vs.all ZbQ:=rfl
theorem ZHQ (f:Nat) (caps:List AVal):Zb9 (.fn f caps)=false:=rfl
theorem ZMx  : Zb9 (.nilm)=true:=rfl
theorem ZDs (t:Nat):Zb9 (.map t)=true:=rfl
theorem ZMd  : Zb9 (.nili)=true:=rfl
theorem ZyF (t:Nat) (x:AVal):Zb9 (.iface t x)=true:=rfl
theorem Zw6 (x:AVal):Zb9 (.pan x)=true:=rfl
theorem ZLu  : Zb6 (.top)=false:=rfl
theorem ZFS  : Zb6 (.any)=false:=rfl
theorem ZwR (k:IntKind) (n:Int):Zb6 (.int k n)=true:=rfl
theorem ZDT (b:Bool):Zb6 (.bool b)=true:=rfl
theorem ZKo (l:List UInt8):Zb6 (.str l)=true:=rfl
theorem ZGR  : Zb6 (.nilp)=true:=rfl
theorem ZHU (t:Nat) (o:Nat):Zb6 (.ref t o)=false:=rfl
theorem ZF1 (t:Nat) (g:Nat) (i:Nat) (o:Nat):Zb6 (.eref t g i o)=false:=rfl
theorem ZA7 (cs:List AVal) (o:Nat):Zb6 (.iptr cs o)=false:=rfl
theorem ZEV (x:Bool) (xs:List AVal):Zb6 (.lst x xs)=true:=rfl
theorem ZCL (t:Nat) (g:Nat) (lo:Nat) (n:Nat):Zb6 (.sl t g lo n)=false:=rfl
theorem ZMz (cs:List AVal):Zb6 (.agg cs)=cs.all Za5:=rfl
theorem ZKt (vs:List AVal):Zb6 (.tup vs)=vs.all Zai:=rfl
theorem ZyD  : Zb6 (.nilm)=true:=rfl
theorem ZN8 (t:Nat):Zb6 (.map t)=false:=rfl
theorem ZGD  : Zb6 (.nili)=true:=rfl
theorem ZEo (t:Nat) (x:AVal):Zb6 (.iface t x)=false:=rfl
theorem ZHi (x:AVal):Zb6 (.pan x)=false:=rfl
theorem ZJP  : Zb3 (.top)=(.top):=rfl
theorem ZBk  : Zb3 (.any)=(.any):=rfl
theorem ZPh (k:IntKind) (n:Int):Zb3 (.int k n)=(.int k n):=rfl
theorem ZJn (b:Bool):Zb3 (.bool b)=(.bool b):=rfl
theorem ZER (l:List UInt8):Zb3 (.str l)=(.str l):=rfl
theorem ZxY  : Zb3 (.nilp)=(.nilp):=rfl
theorem ZEu (t:Nat) (o:Nat):Zb3 (.ref t o)=(.ref t o):=rfl
theorem ZKz (t:Nat) (g:Nat) (i:Nat) (o:Nat):Zb3 (.eref t g i o)=(.eref t g i o):=rfl
theorem ZOb (cs:List AVal) (o:Nat):Zb3 (.iptr cs o)=(.iptr cs o):=rfl
theorem ZKa (x:Bool) (xs:List AVal):Zb3 (.lst x xs)=.lst false xs:=rfl
theorem ZNz (t:Nat) (g:Nat) (lo:Nat) (n:Nat):Zb3 (.sl t g lo n)=(.sl t g lo n):=rfl
theorem ZE6 (cs:List AVal):Zb3 (.agg cs)=.agg (cs.map Zbf):=rfl
theorem Zy1 (vs:List AVal):Zb3 (.tup vs)=.tup (vs.map ZL):=rfl
theorem ZAw (f:Nat) (caps:List AVal):Zb3 (.fn f caps)=(.fn f caps):=rfl
theorem Zx0  : Zb3 (.nilm)=(.nilm):=rfl
theorem ZKT (t:Nat):Zb3 (.map t)=(.map t):=rfl
theorem ZKf  : Zb3 (.nili)=(.nili):=rfl
theorem ZO5 (t:Nat) (x:AVal):Zb3 (.iface t x)=(.iface t x):=rfl
theorem ZwU (x:AVal):Zb3 (.pan x)=(.pan x):=rfl
theorem ZzJ:Zd []=true:=rfl
theorem ZDb (x:AVal) (xs:List AVal):Zd (x::xs)=(ZM x && Zd xs):=rfl
theorem ZPc (f:Nat):Zb6 (.fn f [])=true:=rfl
theorem ZCk (p q:Bool):(if p=true then q else false)=(p && q):=by cases p <;> rfl
theorem Zz4 (p q:Bool):(if p=true then true else q)=(p || q):=by cases p <;> rfl
theorem Zz0 (p q:Bool):(if p=true then false else q)=(!p && q):=by cases p <;> rfl
theorem ZGm (p q:Bool):(if p=true then q else true)=(!p || q):=by cases p <;> rfl
theorem ZOa (p q:Bool):(if p=false then q else false)=(!p && q):=by cases p <;> rfl
theorem ZCf (p q:Bool):(if p=false then true else q)=(!p || q):=by cases p <;> rfl
theorem ZLK (p q:Bool):(if p=false then false else q)=(p && q):=by cases p <;> rfl
theorem ZOe (p q:Bool):(if p=false then q else true)=(p || q):=by cases p <;> rfl
section
def Zen (o:AOp):AOp:=⟨o.dst,o.ins,o.guard,[]⟩
def Zcs:Zf->Zf
 | .region ops chk live=>.region (ops.map Zen) chk live
 | .seq a b=>.seq (Zcs a) (Zcs b)
 | .cond c a b=>.cond c (Zcs a) (Zcs b)
 | .block id c=>.block id (Zcs c)
 | .loop live c=>.loop live (Zcs c)
 | .skip=>.skip
 | .exit id=>.exit id
 | .ret=>.ret
 | .stuck=>.stuck
def Zmk (f:ZF):ZF:=⟨f.res,Zcs f.body⟩
section
variable {O:ZN} {bf:Nat->Bool}
theorem ZEa (o:AOp) (s:Nat) (tm:Tms) (σ:Za):ZH O bf (Zen o) s tm σ=ZH O bf o s tm σ:=rfl
theorem Zrb:∀ (ops:List AOp) (s:Nat) (tm:Tms) (σ:Za),ZZ O bf (ops.map Zen) s tm σ=ZZ O bf ops s tm σ
 | [],_,_,_=>rfl
 | o::os,s,tm,σ=>by
  simp only [Xt,ZZ,ZEa]
  split
  ·rfl
  ·rfl
  ·rename_i tm' σ' c _ _
   rw [show (Zen o).ins=o.ins from rfl,Zrb os]
theorem Zqd (ops:List AOp):sitesOf (ops.map Zen)=sitesOf ops:=by
 simp [sitesOf,Zen,Function.comp_def]
theorem Zme (ops:List AOp) (i:Nat):((ops.map Zen).getD i default).ins=(ops.getD i default).ins:=by
 simp only [Xh,WM]
 cases ops[i]? <;> rfl
theorem ZNY (ops:List AOp) (b:Nat) (l:List (Nat×Nat)) (cs:List Cls):Zdd (ops.map Zen) b l cs=Zdd ops b l cs:=by
 unfold Zdd
 congr 1
 funext p
 unfold Zck Zb7
 rw [Zme,Zme,<-XaT,Zqd]
theorem ZG9 (ops:List AOp) (b:Nat) (l:List (Nat×Nat)) (cs:List Cls):Zdc (ops.map Zen) b l cs=Zdc ops b l cs:=by
 unfold Zdc
 congr 2
 funext p
 unfold Zck Zb7
 rw [Zme,Zme,<-XaT,Zqd]
theorem ZEn (ops:List AOp) (chk:Option (List (Nat×Nat))) (live:List Nat) (tm:Tms) (σ:Za):ZbV O bf (ops.map Zen) chk live tm σ=ZbV O bf ops chk live tm σ:=by
 unfold ZbV
 rw [Zrb,Zqd]
 cases ZZ O bf ops σ.length tm (σ++XC (sitesOf ops) .free) with
 | none=>rfl
 | some q =>
  obtain ⟨tm',σ',cs,p⟩:=q
  cases p with
  | some x =>
   cases chk with
   | none=>rfl
   | some l=>simp only [ZcG,ZG9]
  | none =>
   cases chk with
   | none=>rfl
   | some l=>simp only [ZcG,ZNY]
theorem ZdM (m n:Nat):∀ (c:Zf),Zaa O bf m n (Zcs c)=Zaa O bf m n c
 | .region ops chk live=>by funext tm σ;simp only [Zcs,Zaa,ZEn]
 | .seq a b=>by funext tm σ;simp only [Zcs,Zaa,ZdM m n a,ZdM m n b]
 | .cond c a b=>by funext tm σ;simp only [Zcs,Zaa,ZdM m n a,ZdM m n b]
 | .block id c=>by funext tm σ;simp only [Zcs,Zaa,ZdM m n c]
 | .loop live c=>by funext tm σ;simp only [Zcs,Zaa,ZdM m n c]
 | .skip=>rfl
 | .exit id=>rfl
 | .ret=>rfl
 | .stuck=>rfl
end
theorem ZqB (fs:Nat->Option ZF) (prim:Zb5) (bf:Nat->Bool):∀ n,Zap (fun f=>(fs f).map Zmk) prim bf n=Zap fs prim bf n
 | 0=>rfl
 | n+1=>by
  funext f args σ
  simp only [Zap,ZqB fs prim bf n]
  cases prim f with
  | some g=>rfl
  | none =>
   cases fs f with
   | none=>rfl
   | some fn =>
    simp only [X8,Zmk,ZdM]
    rfl
theorem ZLv (fs:Nat->Option ZF) (prim:Zb5) (bf:Nat->Bool):EV (fun f=>(fs f).map Zmk) prim bf=EV fs prim bf:=by
 funext f args σ
 apply Zfd
 intro r
 rw [Zco,Zco]
 simp only [ZqB]
end
end
section
open Go.RowKit
def ZgS:List AVal->Za->Option (AVal×Za):=fun _ _=>none
theorem Zt0 {α:Prop} {args:List AVal} {σ:Za} {r:AVal×Za} (h:ZgS args σ=some r):α:=by cases h
def Zev (k bytes:Nat) (args:List AVal) (σ:Za):Option (AVal×Za):=match args with
 | [.str _]=>none
 | [a]=>match ZR σ a with
  | some (xs,_)=>if xs.length*bytes<=140737488355328/\kOk k xs=true then some (.sl σ.length 0 0 xs.length,σ++[.row 0 k xs]) else none
  | none=>none
 | _=>none
def Zeh:Ann:={ nt:=8,lr:=fun _=>[7,6,5,4,3,2,0] }
structure Zii (P:Program) (t:TypeId) (k bytes:Nat) (z:AVal) (f:FuncId):Prop where
 ex:∃ (F:Func) (e:TypeId) (i0 i1 i2 i3:Nat) (r0 r2 r3:Array Oper) (m b:Oper),
  P.funcs[f]?=some F/\F.results=#[.tmp 2]/\F.ntmps=8/\(F.name == "runtime.NumGoroutine")=false/\P.underlying t=some (.slice e) /\
  F.body=some (.seq (.region i0 r0 false) (.seq (.seq (.region i1 #[m,b] false) (.cond (.tmp 4) (.seq (.region i2 r2 false) .ret) .skip)) (.seq (.region i3 r3 false) .ret))) /\
  m.op=.move (.tmp 0)/\m.dst=some 3/\m.guard=none/\b.op=.binOp .eql t (.tmp 3) (.const (.slice none 0 0)) t/\b.dst=some 4/\b.guard=none /\
  Zdj P Zeh r0 r0.toList=some [⟨some 2,.mov (.c (.lst true [])),none,[]⟩] /\
  Zdj P Zeh r2 r2.toList=some [⟨some 2,.mov (.c (.lst true [])),none,[]⟩] /\
  (∃ a1 a2 a3 a4,Zdj P Zeh r3 r3.toList=some [⟨some 5,.bslice false k 0 z [],none,a1⟩,⟨some 6,.mov (.t 0),none,a2⟩,⟨some 7,.app k bytes z (.t 5) (.t 6),none,a3⟩,⟨some 2,.mov (.t 7),none,a4⟩])/\z.cells.length=k/\0 < k
section
variable {P:Program} {base:Nat->Prop} {w0 w w':World} {I0 I:Imm} {β:Bmap} {σ:Za}
theorem noO:ZaE P (fun _ _ _=>none):=by intro f args σ r σ' h;cases h
theorem Zec {ops:Array Oper} {Q:Exit->Act->World->Prop} {o:Oper} {l:List Oper} {a:Act} {w:World} (hg:o.guard=none) (h:o.wp P a w (wpList P ops Q l) Q):wpList P ops Q (o::l) a w:=by
 unfold wpList
 have : Region.wanted o (yielded ops a.tmps)=true:=by unfold Region.wanted;rw [hg]
 rw [this]
 simp only [if_true]
 exact Xr h
theorem Zl6 {t : TypeId} {k bytes : Nat} {z : AVal} {f : FuncId} (hm : P.follows .mixedOrders = true) (C : Zii P t k bytes z f) {args : List AVal} {σ σ' : Za} {r : AVal} (h : Zev k bytes args σ = some (r, σ')) :
    (∃ fn, P.funcs[f]? = some fn /\ fn.body.isSome = true /\ (fn.name == "runtime.NumGoroutine") = false) /\
    ∀ base w0 I0 I β w (vs : Array Value), KLt base w0 -> Rel base w0 I0 I β σ w -> VRs I β args vs.toList ->
      Calls P f vs w (fun e w' => ∃ u, Ends r e u /\ ZbP σ.length base w0 I0 I β r σ' u w') := by
  obtain ⟨F, e, i0, i1, i2, i3, r0, r2, r3, m, b, hF, hres, hnt, hname, hu, hbody, hm1, hm2, hm3, hb1, hb2, hb3, hc0, hc2, ⟨a1, a2, a3, a4, hc3⟩, hzk, hk0⟩ := C.ex
  refine ⟨⟨F, hF, by rw [hbody]; rfl, hname⟩, ?_⟩
  intro base w0 I0 I β w vs hb R hargs
  unfold Zev at h
  split at h
  case h_1 => cases h
  case h_3 => cases h
  rename_i a hns
  split at h
  case h_2 => cases h
  rename_i xs ts hel0
  split at h
  case isFalse => cases h
  rename_i hc
  obtain ⟨hbytes, hkOk⟩ := hc
  simp only [Xa, Xd] at h
  obtain ⟨rfl, rfl⟩ := h
  have hnt8 : ∀ (n : Nat), n < 8 -> n < Zeh.nt := fun n h => h
  refine calls_of_wp hF hbody ?_
  have hsz : vs.size = 1 := by have := ZaN hargs; simpa using this.symm
  have T := ZnJ hargs (F.ntmps - vs.size)
  have hst : StR ZbK 8 base w0 I0 I β (enterA 0 [a] []) σ { tmps := vs ++ WY (F.ntmps - vs.size) undef, defers := [] } w := ⟨I, β, Imm.le.refl I, Bmap.le.refl β, T, ⟨Ze7.2 rfl, by simp; omega⟩, R⟩
  have fin : ∀ {tm : Tms} {σ1 : Za} {y : AVal} {a' : Act} {w1 : World}, StR ZbK 8 base w0 I0 I β tm σ1 a' w1 -> tget tm 2 = y -> (∀ I' β' u, I.le I' -> β.le β' -> Rel base w0 I0 I' β' σ1 w1 -> VR I' β' y u -> ZbP σ.length base w0 I0 I β (.sl σ.length 0 0 xs.length) (σ ++ [.row 0 k xs]) u w1) ->
      a'.defers = [] /\ ∃ v, (results F a'.tmps).run P w1 = .ok v w1 /\ ∃ u, Ends (.sl σ.length 0 0 xs.length) (.returned v) u /\ ZbP σ.length base w0 I0 I β (.sl σ.length 0 0 xs.length) (σ ++ [.row 0 k xs]) u w1 := by
    rintro tm σ1 y a' w1 ⟨I', β', h1, h2, h3, h4, h5⟩ hy hpost
    refine ⟨Ze7.1 h4.1, a'.tmps.getD 2 undef, by simp [results, hres], _, rfl, ?_⟩
    have := h3 2
    rw [hy] at this
    exact hpost I' β' _ h1 h2 h5 this
  have R0 : Za0 P Zeh (.region i0 r0 false) = .region [⟨some 2, .mov (.c (.lst true [])), none, []⟩] none [7, 6, 5, 4, 3, 2, 0] := by simp only [Za0]; rw [hc0]; rfl
  have R2 : Za0 P Zeh (.region i2 r2 false) = .region [⟨some 2, .mov (.c (.lst true [])), none, []⟩] none [7, 6, 5, 4, 3, 2, 0] := by simp only [Za0]; rw [hc2]; rfl
  have R3 : Za0 P Zeh (.region i3 r3 false) = .region [⟨some 5, .bslice false k 0 z [], none, a1⟩, ⟨some 6, .mov (.t 0), none, a2⟩, ⟨some 7, .app k bytes z (.t 5) (.t 6), none, a3⟩, ⟨some 2, .mov (.t 7), none, a4⟩] none [7, 6, 5, 4, 3, 2, 0] := by simp only [Za0]; rw [hc3]; rfl
  refine wp_seq ?_
  refine Zly (an := Zeh) (dr := ZbK) (bf := fun _ => false) noO (fun n hn => by simp [ZbK] at hn) hm hb R0 hst (e := .normal) (tm' := keepL [7, 6, 5, 4, 3, 2, 0] [(2, .lst true []), (0, a)]) (σ' := σ) ?_ ?_
  . simp [ZbV, ZcG, sitesOf, nsite, ZZ, ZH, Zbo, execI, Opd.ev, tput, tins, enterA]
  intro a1' w1 hst1
  simp only [Exit.then]
  refine wp_seq (wp_seq ?_)
  refine wp_region_list ?_
  refine Zec hm3 ?_
  obtain ⟨I1, β1, g1, g2, g3, g4, g5⟩ := hst1
  have hs8 : 8 <= a1'.tmps.size := g4.2
  have hT0 : VR I1 β1 a (a1'.tmps.getD 0 undef) := by have := g3 0; simpa [keepL, tget] using this
  obtain ⟨A, cap, hv0, q1, q2, q5, q4⟩ := Znv g5 (fun l e => hns l e) hel0 hT0
  show m.wp P a1' w1 _ _
  unfold Oper.wp
  have e1 : (execOp a1'.eval m).run P w1 = .ok (.value (.slice A xs.length cap)) w1 := by
    unfold execOp; rw [hm1]; simp [Act.eval, hv0]
  rw [e1, Oper.upon_value, hm2]
  refine Zec hb3 ?_
  unfold Oper.wp
  have hs3 : (a1'.put (some 3) (.slice A xs.length cap)).tmps.getD 3 undef = .slice A xs.length cap := by
    have : 3 < a1'.tmps.size := by omega
    simp [Act.put, WW, this]
  have e2 : (execOp (a1'.put (some 3) (.slice A xs.length cap)).eval b).run P w1 = .ok (.value (.bool A.isNone)) w1 := by
    have hq : (Op.equal t (.slice A xs.length cap) (.slice none 0 0)).run P w1 = .ok A.isNone w1 := run_equal_slice_nil w1 t e A xs.length cap hu
    unfold execOp; rw [hb1]
    simp only [Act.eval]
    rw [hs3]
    simp [eqGuard, binOp, hq]
  rw [e2, Oper.upon_value, hb2]
  refine wpList_nil ?_
  have hst2 : StR ZbK 8 base w0 I0 I β [(4, .bool A.isNone), (2, .lst true []), (0, a)] σ ((a1'.put (some 3) (.slice A xs.length cap)).put (some 4) (.bool A.isNone)) w1 := by
    refine ⟨I1, β1, g1, g2, fun n => ?_, ⟨Zl7 (Zl7 g4.1 (fun n _ hm => by simp [ZbK] at hm)) (fun n _ hm => by simp [ZbK] at hm), by rw [ZeB, ZeB]; exact g4.2⟩, g5⟩
    have hs : 4 < (a1'.put (some 3) (.slice A xs.length cap)).tmps.size := by rw [ZeB]; omega
    have ne : ∀ {a : Act} {d j : Nat} {u : Value}, d ≠ j -> (a.put (some d) u).tmps.getD j undef = a.tmps.getD j undef := by
      intro a d j u hne
      simp only [Act.put, Ww]; rw [Array.getElem?_setIfInBounds_ne hne]
    simp only [tget]
    split
    . rename_i e; subst e
      rw [show ((a1'.put (some 3) (.slice A xs.length cap)).put (some 4) (.bool A.isNone)).tmps.getD 4 undef = .bool A.isNone by
        simp only [Act.put] at hs ⊢
        simp [WW] at hs ⊢
        omega]
      simp only [VR]
    . split
      . rename_i e; subst e
        rw [ne (by omega), ne (by omega)]
        have := g3 2; simpa [keepL, tget] using this
      . split
        . rename_i e; subst e
          rw [ne (by omega), ne (by omega)]
          have := g3 0; simpa [keepL, tget] using this
        . simp only [VR]
  simp only [Exit.then]
  cases hA : A.isNone with
  | true =>
    have hx0 : xs = [] := by
      rcases q4 with h | ⟨b, off, k', us, e, _⟩
      . exact h
      . rw [e] at hA; cases hA
    subst hx0
    have hev : ((a1'.put (some 3) (.slice A 0 cap)).put (some 4) (.bool A.isNone)).eval (.tmp 4) = .bool true := by
      obtain ⟨_, _, _, _, T, _, _⟩ := hst2
      have := T 4
      simp only [tget, if_true, VR] at this
      rw [hA] at this
      simpa [Act.eval, hA] using this
    refine wp_cond_true (by simpa [hA] using hev) ?_
    refine wp_seq ?_
    rw [hA] at hst2
    refine Zly (an := Zeh) (dr := ZbK) (bf := fun _ => false) noO (fun n hn => by simp [ZbK] at hn) hm hb R2 hst2 (e := .normal) (tm' := keepL [7, 6, 5, 4, 3, 2, 0] [(4, .bool true), (2, .lst true []), (0, a)]) (σ' := σ) ?_ ?_
    . simp [ZbV, ZcG, sitesOf, nsite, ZZ, ZH, Zbo, execI, Opd.ev, tput, tins]
    intro a3' w3 hst3
    simp only [Exit.then]
    refine wp_ret ?_
    refine fin hst3 (y := .lst true []) (by simp [keepL, tget]) ?_
    intro I' β' u h1 h2 h3 h4
    simp only [VR] at h4
    obtain ⟨A', cap', rfl, _, _, hx, _⟩ := h4
    have hcap : cap' = 0 := by simpa using hx
    subst hcap
    have R4 := h3.reserve 1
    have hfree : (σ ++ XC 1 ZK.free)[σ.length]? = some .free := by simp
    obtain ⟨R5, hle⟩ := R4.newNone hfree k hk0
    refine ⟨I', _, h1, KeptE.of_le (h2.trans hle), ?_, ?_⟩
    . have : (σ ++ XC 1 ZK.free).set σ.length (.row 0 k []) = σ ++ [.row 0 k []] := by simp
      rw [this] at R5; exact R5
    . simp only [ZaW]
      rw [Zb2]
      exact ⟨_, Bmap.put_same β' σ.length 0 _, by simp, by simp, Xy ⟨rfl, rfl, A', rfl⟩⟩
  | false =>
    have hev : ((a1'.put (some 3) (.slice A xs.length cap)).put (some 4) (.bool A.isNone)).eval (.tmp 4) = .bool false := by
      obtain ⟨_, _, _, _, T, _, _⟩ := hst2
      have := T 4
      simp only [tget, if_true, VR] at this
      rw [hA] at this
      simpa [Act.eval, hA] using this
    refine wp_cond_false (by simpa [hA] using hev) ?_
    refine wp_skip ?_
    rw [hA] at hst2
    simp only [Exit.then]
    refine wp_seq ?_
    have hel : ZR (σ ++ [ZK.free]) a = some (xs, ts) := ZgP hel0 (fun t ht => by
      obtain ⟨g, k, ys, h | h⟩ := Zlm hel0 t ht <;> (rw [We (List.getElem?_eq_some_iff.1 h).1]))
    refine Zly (an := Zeh) (dr := ZbK) (bf := fun _ => false) noO (fun n hn => by simp [ZbK] at hn) hm hb R3 hst2 (e := .normal) (tm' := keepL [7, 6, 5, 4, 3, 2, 0] [(7, .sl σ.length 0 0 xs.length), (6, a), (5, .lst true []), (4, .bool false), (2, .sl σ.length 0 0 xs.length), (0, a)]) (σ' := σ ++ [.row 0 k xs]) ?_ ?_
    . have hfa : freeAt (σ ++ [ZK.free]) σ.length = true := by simp [freeAt]
      have hnp : (∃ x ys, a = .lst x ys) \/ ∃ t g lo n, a = .sl t g lo n := by
        cases a with
        | lst x ys => exact Xr ⟨x, ys, rfl⟩
        | sl t g lo n => exact Xy ⟨t, g, lo, n, rfl⟩
        | str l => exact absurd rfl (hns l)
        | _ => simp [ZR] at hel0
      rcases hnp with ⟨x, ys, rfl⟩ | ⟨t', g', lo, n, rfl⟩
      . simp [ZbV, ZcG, sitesOf, nsite, ZZ, ZH, Zbo, execI, Opd.ev, tput, tins, tget, viewAs, Zn, hzk, Zay, hel, hkOk, hbytes, hfa]
      . simp [ZbV, ZcG, sitesOf, nsite, ZZ, ZH, Zbo, execI, Opd.ev, tput, tins, tget, viewAs, Zn, hzk, Zay, hel, hkOk, hbytes, hfa]
    intro a3' w3 hst3
    simp only [Exit.then]
    refine wp_ret ?_
    refine fin hst3 (y := .sl σ.length 0 0 xs.length) (by simp [keepL, tget]) ?_
    intro I' β' u h1 h2 h3 h4
    exact ⟨I', β', h1, KeptE.of_le h2, h3, h4⟩
end
end
section
open Go.RowKit
def ZnL (args:List AVal) (σ:Za):Option (AVal×Za):=match args with
 | [.str l]=>some (.bool (Lib.validD l),σ)
 | _=>none
def ZlV (args:List AVal) (σ:Za):Option (AVal×Za):=match args with
 | [.str l,.int .u8 c]=>some (.int .i64 (Lib.indexByte l c.toNat.toUInt8),σ)
 | _=>none
def Zo5 (args:List AVal) (σ:Za):Option (AVal×Za):=match args with
 | [.str l,.str [c]]=>some (.int .i64 (Lib.countByte l c),σ)
 | _=>none
section
variable {P:Program} {base:Nat->Prop} {w0 w w':World} {I0 I:Imm} {β:Bmap} {σ:Za}
theorem ZnR {f:Nat} (hf:∃ fn,P.funcs[f]?=some fn/\fn.body.isSome=true/\(fn.name == "runtime.NumGoroutine")=false) {args:List AVal} {r:AVal} {u:Value} (hn:∀ x,r≠.pan x) (hr:∀ I β,VR I β r u)
  (h:∀ base w0 I0 I β w (vs:Array Value),Rel base w0 I0 I β σ w->VRs I β args vs.toList->Calls P f vs w (fun e w'=>e=.returned u/\Below w.heap.size w w')) :
  (∃ fn,P.funcs[f]?=some fn/\fn.body.isSome=true/\(fn.name == "runtime.NumGoroutine")=false) /\
  ∀ base w0 I0 I β w (vs:Array Value),KLt base w0->Rel base w0 I0 I β σ w->VRs I β args vs.toList ->
   Calls P f vs w (fun e w'=>∃ u,Ends r e u/\ZbP σ.length base w0 I0 I β r σ u w'):=by
 refine ⟨hf,fun base w0 I0 I β w vs hb R hv=>(h base w0 I0 I β w vs R hv).mono ?_⟩
 rintro e w' ⟨rfl,hB⟩
 have hbw:=R.base_le hb
 refine ⟨u,?_,I,β,Imm.le.refl I,KeptE.refl _ β,R.stay (Imm.le.refl I) ⟨hB.os,hB.tape,hB.output,hB.size,fun k hk=>hB.block k (hbw k hk)⟩ (fun _ _ _=>rfl) ?_ ?_,by rw [ZfV hn];exact hr I β⟩
 ·cases r <;> first | rfl | exact absurd rfl (hn _)
 ·intro b o x hx
  have h1:=R.imm b o x hx
  have hlt:=Zd7 h1
  rw [<-h1]
  simp only [World.cell?,hB.block b hlt]
 ·intro t x b hx hb'
  exact ⟨hB.block b ((R.blk t x hx).owns_lt hb'),(R.own t x b hx hb').2⟩
theorem ZtY {f:Nat} (hf:∃ fn,P.funcs[f]?=some fn/\fn.body.isSome=true/\(fn.name == "runtime.NumGoroutine")=false)
  (hc:∀ (s:ByteArray) (c:Int) (w:World),Calls P f #[.string s,.int .u8 c] w fun e w'=>e=.returned (.int .i64 (Lib.indexByte s.data.toList c.toNat.toUInt8))/\w'=w) {args:List AVal} {σ σ':Za} {r:AVal} (h:ZlV args σ=some (r,σ')) :
  (∃ fn,P.funcs[f]?=some fn/\fn.body.isSome=true/\(fn.name == "runtime.NumGoroutine")=false) /\
  ∀ base w0 I0 I β w (vs:Array Value),KLt base w0->Rel base w0 I0 I β σ w->VRs I β args vs.toList ->
   Calls P f vs w (fun e w'=>∃ u,Ends r e u/\ZbP σ.length base w0 I0 I β r σ' u w'):=by
 unfold ZlV at h
 split at h
 case h_2=>cases h
 rename_i l c
 simp only [Xa,Xd] at h
 obtain ⟨rfl,rfl⟩:=h
 refine ZnR hf (u:=.int .i64 (Lib.indexByte l c.toNat.toUInt8)) (by simp) (fun _ _=>by simp only [VR]) ?_
 intro base w0 I0 I β w vs R hv
 obtain ⟨vs⟩:=vs
 simp only [VRs,VR] at hv
 obtain ⟨v1,r1,e1,⟨rfl,_⟩,v2,r2,rfl,rfl,rfl⟩:=hv
 subst e1
 refine (hc ⟨l.toArray⟩ c w).mono ?_
 rintro e w' ⟨rfl,rfl⟩
 exact ⟨by simp,Below.refl _ _⟩
theorem ZM6 {f:Nat} (hf:∃ fn,P.funcs[f]?=some fn/\fn.body.isSome=true/\(fn.name == "runtime.NumGoroutine")=false)
  (hc:∀ (s:ByteArray) (c:UInt8) (w:World),Calls P f #[.string s,.string ⟨#[c]⟩] w fun e w'=>e=.returned (.int .i64 (Lib.countByte s.data.toList c))/\w'=w) {args:List AVal} {σ σ':Za} {r:AVal} (h:Zo5 args σ=some (r,σ')) :
  (∃ fn,P.funcs[f]?=some fn/\fn.body.isSome=true/\(fn.name == "runtime.NumGoroutine")=false) /\
  ∀ base w0 I0 I β w (vs:Array Value),KLt base w0->Rel base w0 I0 I β σ w->VRs I β args vs.toList ->
   Calls P f vs w (fun e w'=>∃ u,Ends r e u/\ZbP σ.length base w0 I0 I β r σ' u w'):=by
 unfold Zo5 at h
 split at h
 case h_2=>cases h
 rename_i l c
 simp only [Xa,Xd] at h
 obtain ⟨rfl,rfl⟩:=h
 refine ZnR hf (u:=.int .i64 (Lib.countByte l c)) (by simp) (fun _ _=>by simp only [VR]) ?_
 intro base w0 I0 I β w vs R hv
 obtain ⟨vs⟩:=vs
 simp only [VRs,VR] at hv
 obtain ⟨v1,r1,e1,⟨rfl,_⟩,v2,r2,rfl,⟨rfl,_⟩,rfl⟩:=hv
 subst e1
 refine (hc ⟨l.toArray⟩ c w).mono ?_
 rintro e w' ⟨rfl,rfl⟩
 exact ⟨by simp,Below.refl _ _⟩
theorem ZJm (R:Rel base w0 I0 I β σ w):Lib.Utf8Tabs 0 1 w:=by
 refine ⟨fun c hc=>R.imm _ _ _ (R.glob _ _ _ (by simp [Gl,hc])),fun i hi=>⟨R.imm _ _ _ (R.glob _ _ _ ?_),R.imm _ _ _ (R.glob _ _ _ ?_)⟩⟩
 ·have h1:2*i < 32:=by omega
  have h2:2*i % 2=0:=by omega
  have h3:2*i / 2=i:=by omega
  simp [Gl,h1,h3]
 ·have h1:2*i+1 < 32:=by omega
  have h2:(2*i+1) % 2=1:=by omega
  have h3:(2*i+1) / 2=i:=by omega
  simp [Gl,h1,h2,h3]
theorem ZHO {f:Nat} (hf:∃ fn,P.funcs[f]?=some fn/\fn.body.isSome=true/\(fn.name == "runtime.NumGoroutine")=false)
  (hc:∀ (s:ByteArray) (w:World),s.size<=9223372036854775807->Lib.Utf8Tabs 0 1 w->Calls P f #[.string s] w fun e w'=>e=.returned (.bool (Lib.validD s.data.toList))/\Below w.heap.size w w') {args:List AVal} {σ σ':Za} {r:AVal} (h:ZnL args σ=some (r,σ')) :
  (∃ fn,P.funcs[f]?=some fn/\fn.body.isSome=true/\(fn.name == "runtime.NumGoroutine")=false) /\
  ∀ base w0 I0 I β w (vs:Array Value),KLt base w0->Rel base w0 I0 I β σ w->VRs I β args vs.toList ->
   Calls P f vs w (fun e w'=>∃ u,Ends r e u/\ZbP σ.length base w0 I0 I β r σ' u w'):=by
 unfold ZnL at h
 split at h
 case h_2=>cases h
 rename_i l
 simp only [Xa,Xd] at h
 obtain ⟨rfl,rfl⟩:=h
 refine ZnR hf (u:=.bool (Lib.validD l)) (by simp) (fun _ _=>by simp only [VR]) ?_
 intro base w0 I0 I β w vs R hv
 obtain ⟨vs⟩:=vs
 simp only [VRs,VR] at hv
 obtain ⟨v1,r1,e1,⟨rfl,hl⟩,rfl⟩:=hv
 subst e1
 refine (hc ⟨l.toArray⟩ w (by simpa [Wy] using hl) (ZJm R)).mono ?_
 rintro e w' ⟨rfl,hB⟩
 exact ⟨by simp,hB⟩
end
end
section
def Zee {α:Type} (d:α):List (Nat×α)->Nat->α
 | [],_=>d
 | (k,v)::r,n=>if k=n then v else Zee d r n
def Zt (own raw:List Nat) (cfg cfg2:List (Nat×Nat×Bool)) (lr ll:List (Nat×List Nat)):Ann:={ own:=fun n=>if own.contains n then 1 else if raw.contains n then 2 else 0,cfg:=Zee (0,true) cfg,cfg2:=Zee (0,true) cfg2,lr:=Zee [] lr,ll:=Zee [] ll }
def ZCW:List (Nat×Ann):=[
 (64,Zt [] [] [] [] [(0,[0]),(1,[2])] []),
 (48,Zt [] [] [] [] [(0,[1,0]),(1,[5,1,0]),(2,[5]),(3,[4])] []),
 (75,Zt [] [] [] [] [(0,[1,0]),(1,[6]),(2,[4])] []),
 (45,Zt [] [] [] [] [(0,[1,0]),(1,[15,1,0]),(2,[4]),(3,[]),(4,[4])] []),
 (31,Zt [] [] [] [] [(0,[0]),(1,[4,0]),(2,[6,4,0]),(3,[4,0]),(4,[11,4,0]),(5,[3,2]),(6,[3,2])] [(2,[4,0])]),
 (24,Zt [] [] [(50,1,false),(49,0,false)] [] [(0,[3,0]),(1,[5,3,0]),(2,[13,5,3,0]),(3,[4]),(4,[5,0]),(5,[]),(6,[4])] []),
 (47,Zt [] [] [] [] [(0,[2,1]),(1,[3])] []),
 (11,Zt [] [] [(32,0,false)] [] [(0,[4,1,0]),(1,[13,4,1,0]),(2,[5,4]),(3,[6,4,1,0]),(4,[7,6,4,1,0]),(5,[7,4,1,0]),(6,[8,7,4,1,0]),(7,[8,7,4,1]),(8,[5,4])] []),
 (9,Zt [] [] [] [] [(0,[3,0]),(1,[5,3,0]),(2,[5,3,0]),(3,[5,3,0]),(4,[45,3,0]),(5,[4]),(6,[]),(7,[4])] []),
 (23,Zt [] [] [] [] [(0,[1,0]),(1,[4])] []),
 (10,Zt [] [] [] [] [(0,[1,0]),(1,[1,0]),(2,[5,1,0]),(3,[16,15,14,5,1]),(4,[17,16,15,14,5,1]),(5,[16,15,14,7,5,1]),(6,[16,15,14,5,1]),(7,[16,15,14,5,1]),(8,[4])] [(4,[16,15,14,5,1])]),
 (30,Zt [] [] [] [] [(0,[3,0]),(1,[4])] []),
 (60,Zt [] [] [] [] [(0,[2,1]),(1,[3])] []),
 (18,Zt [] [] [(40,1,false)] [] [(0,[3,0]),(1,[8,3,0]),(2,[4]),(3,[0]),(4,[5,0]),(5,[26,5,0]),(6,[]),(7,[4])] []),
 (20,Zt [] [] [] [] [(0,[0]),(1,[2])] []),
 (17,Zt [] [] [] [] [(0,[3,0]),(1,[4])] []),
 (88,Zt [] [] [(117,1,true)] [] [(0,[1]),(1,[2,1]),(2,[10,2,1]),(3,[11,10,2,1]),(4,[1]),(5,[15,10,2,1]),(6,[3,2,1]),(7,[3,2,1]),(8,[2,1]),(9,[2,1]),(10,[1]),(11,[37,10,2,1]),(12,[1]),(13,[41,10,2,1]),(14,[41,10,2,1]),(15,[41,10,2,1]),(16,[41,10,2,1]),(17,[1]),(18,[1]),(19,[50,10,2,1]),(20,[1]),(21,[56,10,2,1]),(22,[1]),(23,[61,10,2,1]),(24,[61,10,2,1]),(25,[1]),(26,[67,10,1]),(27,[67,1]),(28,[1]),(29,[])] []),
 (119,Zt [] [] [] [] [(0,[])] []),
 (121,Zt [] [] [] [] [(0,[])] []),
 (112,Zt [] [] [] [] [(0,[0]),(1,[3,0]),(2,[3]),(3,[2])] []),
 (110,Zt [] [] [] [] [(0,[2,0]),(1,[2,0]),(2,[2,0]),(3,[3,2,0]),(4,[3,2,0]),(5,[3,2,0]),(6,[3,2,0]),(7,[2,0]),(8,[2,0]),(9,[2,0]),(10,[2,0]),(11,[107,2,0]),(12,[2,0]),(13,[2,0]),(14,[2,0]),(15,[129,2,0]),(16,[2,0]),(17,[138,2,0]),(18,[])] []),
 (144,Zt [] [] [] [] [(0,[0]),(1,[5,4,3,0]),(2,[4,3,0]),(3,[3]),(4,[2])] []),
 (87,Zt [] [] [] [] [(0,[4,1]),(1,[4,1]),(2,[4,1]),(3,[24,4,1]),(4,[]),(5,[4]),(6,[4]),(7,[])] []),
 (115,Zt [] [] [] [] [(0,[0]),(1,[])] []),
 (117,Zt [] [] [] [] [(0,[1,0]),(1,[1,0]),(2,[1,0]),(3,[29,1,0]),(4,[1,0])] [(3,[1,0])]),
 (111,Zt [] [] [] [] [(0,[1,0]),(1,[1,0]),(2,[5,1,0]),(3,[5]),(4,[4])] []),
 (113,Zt [] [] [] [] [(0,[1,0]),(1,[7,6,5,0]),(2,[6,5,0]),(3,[5]),(4,[4])] []),
 (114,Zt [] [] [] [] [(0,[0]),(1,[13,0]),(2,[0]),(3,[0]),(4,[])] []),
 (116,Zt [] [] [] [] [(0,[7,0]),(1,[0]),(2,[19,0]),(3,[])] []),
 (118,Zt [] [] [] [] [(0,[2,0]),(1,[3,2,0]),(2,[3,2,0]),(3,[3,2,0]),(4,[2,0]),(5,[2,0]),(6,[])] []),
 (120,Zt [] [] [] [] [(0,[0]),(1,[5,4,3,0]),(2,[4,3,0]),(3,[3]),(4,[2])] []),
 (62,Zt [] [] [(83,1,true),(79,1,true),(85,1,true),(80,1,true),(81,1,true),(84,1,true),(82,1,true)] [] [(0,[3,0]),(1,[11,3,0]),(2,[12,11,3,0]),(3,[]),(4,[17,11,3,0]),(5,[3,0]),(6,[3,0]),(7,[]),(8,[32,11,3,0]),(9,[3,0]),(10,[40,3,0]),(11,[3,0]),(12,[3,0]),(13,[]),(14,[55,11,3,0]),(15,[55,11,3,0]),(16,[55,11,3,0]),(17,[55,11,3,0]),(18,[3,0]),(19,[]),(20,[67,11,3,0]),(21,[3,0]),(22,[75,74,73,0]),(23,[76,75,74,73,0]),(24,[75,74,73,5,0]),(25,[75,74,73,5,0]),(26,[75,74,73,0]),(27,[75,74,73,0]),(28,[102,11,3,0]),(29,[3,0]),(30,[110,109,108,0]),(31,[111,110,109,108,0]),(32,[110,109,108,7,0]),(33,[110,109,108,0]),(34,[110,109,108,0]),(35,[118,11,3,0]),(36,[118,11,3,0]),(37,[3,0]),(38,[127,126,125,0]),(39,[128,127,126,125,0]),(40,[127,126,125,9,0]),(41,[127,126,125,0]),(42,[127,126,125,0]),(43,[135,11,3,0]),(44,[135,3,0]),(45,[])] [(23,[75,74,73,0]),(31,[110,109,108,0]),(39,[127,126,125,0])]),
 (79,Zt [] [] [(103,1,true),(80,1,true),(81,1,true),(82,1,true)] [] [(0,[3,0]),(1,[3,0]),(2,[3,0]),(3,[3,0]),(4,[3,0]),(5,[3,0]),(6,[3,0]),(7,[49,3,0]),(8,[3,0]),(9,[3,0]),(10,[3,0]),(11,[66,3,0]),(12,[3,0]),(13,[72,3,0]),(14,[])] []),
 (103,Zt [] [] [(83,1,true)] [] [(0,[4,0]),(1,[])] []),
 (85,Zt [] [] [(80,1,true),(81,1,true)] [] [(0,[3,0]),(1,[3,0]),(2,[])] []),
 (80,Zt [] [] [(83,1,true)] [] [(0,[])] []),
 (81,Zt [] [] [(83,1,true)] [] [(0,[6,0]),(1,[])] []),
 (84,Zt [] [] [(80,1,true),(81,1,true)] [] [(0,[3,0]),(1,[12,3,0]),(2,[3,0]),(3,[20,3,0]),(4,[])] []),
 (82,Zt [] [] [(83,1,true)] [] [(0,[4,0]),(1,[])] []),
 (102,Zt [] [] [] [] [(0,[1,0]),(1,[4])] []),
 (19,Zt [] [] [] [] [(0,[3,0]),(1,[8,3,0]),(2,[4]),(3,[5,3,0]),(4,[0]),(5,[26,0]),(6,[]),(7,[4])] []),
 (41,Zt [] [] [] [] [(0,[3,0]),(1,[5,3,0]),(2,[12,5,3,0]),(3,[5,3,0]),(4,[23,5,3,0]),(5,[4]),(6,[4])] [(2,[5,3,0])]),
 (21,Zt [] [] [] [] [(0,[2,1]),(1,[3,2,1]),(2,[33,3,2,1]),(3,[3,2,1]),(4,[4,2,1]),(5,[5,4,2,1]),(6,[53,5,4,2,1]),(7,[5,4,2,1]),(8,[5,4,2,1]),(9,[71,4,2,1]),(10,[4,2]),(11,[2])] [(6,[5,4,2,1])]),
 (44,Zt [] [] [] [] [(0,[1]),(1,[3,1]),(2,[7,3,1]),(3,[3,1]),(4,[18,3,1]),(5,[3,1]),(6,[29,3,1]),(7,[3,1]),(8,[4,3,1]),(9,[45,4,3,1]),(10,[4,3,1]),(11,[4,3,1]),(12,[2])] [(9,[4,3,1])]),
 (143,Zt [] [] [] [] [(0,[]),(2,[]),(7,[4])] []),
 (163,Zt [] [] [] [] [] []),
 (22,Zt [] [] [] [] [(0,[0]),(1,[3,0]),(2,[11,10,9,3]),(3,[12,11,10,9,3]),(4,[11,10,9,5,3]),(5,[11,10,9,3]),(6,[11,10,9,3]),(7,[2])] [(3,[11,10,9,3])]),
 (93,Zt [] [] [] [] [(0,[0]),(1,[4,0]),(2,[30,0]),(3,[5,0]),(4,[39,5,0]),(5,[5,0]),(6,[44,5,0]),(7,[3,2]),(8,[6,5,0]),(9,[49,48,47,6,5]),(10,[50,49,48,47,6,5]),(11,[49,48,47,8,6,5]),(12,[49,48,47,8,6,5]),(13,[56,49,48,47,8,6,5]),(14,[3,2]),(15,[49,48,47,6,5]),(16,[49,48,47,6,5]),(17,[66,6]),(18,[6]),(19,[3,2]),(20,[10,9]),(21,[3,2])] [(10,[49,48,47,6,5])]),
 (129,Zt [] [] [] [] [(0,[1,0]),(1,[11,1,0]),(2,[17,0]),(3,[4]),(4,[0]),(5,[6,0]),(6,[23,6]),(7,[6]),(8,[]),(10,[34,5]),(11,[]),(14,[9]),(15,[4])] []),
 (95,Zt [] [] [] [] [(0,[0]),(1,[2])] []),
 (151,Zt [] [] [] [] [(0,[0]),(1,[4,0]),(2,[2]),(3,[2])] []),
 (158,Zt [] [] [] [] [(0,[1,0]),(1,[5,1,0]),(2,[16,5,1,0]),(3,[4]),(4,[24,5,1,0]),(5,[4]),(6,[31]),(7,[4]),(9,[4]),(10,[6,5,1,0]),(11,[7,6,5,1,0]),(12,[8,7,6,5,1,0]),(13,[9,8,7,6,5,1,0]),(14,[10,9,8,7,6,5,1,0]),(15,[59,10,9,8,7,6,5,1,0]),(16,[64,10,9,8,7,6,5,1,0]),(17,[11,10,8,7,5,1,0]),(18,[73,11,10,8,7,5,1,0]),(19,[4]),(20,[10,8,7,5,1,0]),(21,[93,10,8]),(22,[4]),(23,[10]),(24,[]),(26,[12,8]),(27,[114,12,8]),(28,[4]),(29,[4]),(31,[13,8]),(32,[139,13,8]),(33,[4]),(34,[4]),(35,[4])] [(15,[10,9,8,7,6,5,1,0])]),
 (7,Zt [] [] [(22,2,false)] [] [(0,[1]),(1,[2])] []),
 (16,Zt [] [] [(18,1,true)] [] [(0,[0]),(1,[3,0]),(2,[10,9,8,3]),(3,[11,10,9,8,3]),(4,[10,9,8,5,3]),(5,[10,9,8,3]),(6,[10,9,8,3]),(7,[2])] [(3,[10,9,8,3])]),
 (13,Zt [] [] [] [] [(0,[4,2,1]),(1,[6,4,2,1]),(2,[33,6,4,2,1]),(3,[5,4]),(4,[9,8,7,6,4,2,1]),(5,[9,8,7,6,4,2,1]),(6,[10,9,8,7,6,4,2,1]),(7,[80,9,8,7,4,2,1]),(8,[5,4]),(9,[11,9,8,7,4]),(10,[11,4]),(11,[5,4])] []),
 (36,Zt [] [] [] [] [(0,[3,2,1]),(1,[8,7,3,2,1]),(2,[43,7]),(3,[6]),(4,[6])] []),
 (28,Zt [] [] [] [] [(0,[1]),(1,[4,3]),(2,[2])] []),
 (29,Zt [] [] [(57,2,false)] [] [(0,[8,4,3,2,1]),(1,[9,8,4]),(2,[9,8]),(3,[8])] []),
 (58,Zt [] [] [] [] [(0,[4,1,0]),(1,[4])] []),
 (26,Zt [6] [] [(54,1,false)] [(53,1,false)] [(0,[2,1]),(1,[2,1]),(2,[2,1]),(3,[15,14,2,1]),(4,[16,15,14,2,1]),(5,[15,14,3,2,1]),(6,[15,14,2,1]),(7,[15,14,2,1]),(8,[2])] [(4,[15,14,2,1])]),
 (61,Zt [] [] [] [] [(0,[2,1]),(1,[4])] []),
 (38,Zt [] [] [(53,1,false)] [] [(0,[8,4,3,2,1]),(1,[9,8,4,3]),(2,[11,10,9,8,3]),(3,[31,10,9,8,3]),(4,[9,8]),(5,[8])] []),
 (57,Zt [] [] [(26,2,false)] [] [(0,[8,4,3,2,1]),(1,[9,8,4,3,2,1]),(2,[10,9,8,4,3,2,1]),(3,[29,10,9,8,4,3,2,1]),(4,[10,9,8,4,1]),(5,[36,10,9,8,4,1]),(6,[10,8,4]),(7,[51,50,49,10,8]),(8,[52,51,50,49,10,8]),(9,[51,50,49,12,10,8]),(10,[51,50,49,10,8]),(11,[51,50,49,10,8]),(12,[8])] [(8,[51,50,49,10,8])]),
 (72,Zt [] [] [] [] [(0,[0]),(1,[2])] []),
 (138,Zt [] [] [] [] [(0,[0]),(1,[6,0]),(2,[3,2]),(3,[3,2])] []),
 (145,Zt [] [] [] [] [(0,[0]),(1,[3,0]),(2,[8,7,6,3]),(3,[9,8,7,6,3]),(4,[8,7,6,5,3]),(5,[8,7,6,3]),(6,[8,7,6,3]),(7,[2])] [(3,[8,7,6,3])]),
 (164,Zt [] [] [] [] [(0,[0]),(1,[17,0]),(2,[4,3,2]),(3,[3,0]),(4,[4,3,2])] []),
 (147,Zt [] [] [] [] [(0,[0]),(1,[5,4,3]),(2,[12,5,4,3]),(3,[4,3,2]),(4,[16,5,3]),(5,[4,3,2]),(6,[4,3,2])] []),
 (161,Zt [] [] [] [] [(0,[2,0]),(1,[9,8,7,2,0]),(2,[10,9,8,7,2,0]),(3,[9,8,7,6,5,2,0]),(4,[15,9,8,7,6,5,2,0]),(5,[9,8,7,6,5,2,0]),(6,[25,9,8,7,6,5,2,0]),(7,[31,5,2]),(8,[4,3,2]),(9,[4,3,2]),(10,[9,8,7,2,0]),(11,[38]),(12,[4,3,2]),(13,[4,3,2])] [(2,[9,8,7,2,0])]),
 (77,Zt [] [] [] [] [(0,[0]),(1,[6,0]),(2,[8,7,6,0]),(3,[6,4,0]),(4,[11,6,0]),(5,[2]),(6,[2])] [(2,[6,0])]),
 (35,Zt [] [] [] [] [(0,[0]),(1,[3,0]),(2,[8,7,6,3]),(3,[9,8,7,6,3]),(4,[8,7,6,5,3]),(5,[8,7,6,3]),(6,[8,7,6,3]),(7,[2])] [(3,[8,7,6,3])]),
 (104,Zt [] [] [] [] [(0,[1,0]),(1,[12,1,0]),(2,[4]),(3,[5,1,0]),(4,[6,5,0]),(5,[18,6,5,0]),(6,[6,5,0]),(7,[6,5,0]),(8,[6,5,0]),(9,[4])] [(5,[6,5,0])]),
 (106,Zt [] [] [] [] [(0,[0]),(1,[6,0]),(2,[3,2]),(3,[3,2])] []),
 (34,Zt [] [] [] [] [(0,[0]),(1,[10,0]),(2,[3,2]),(3,[4,0]),(4,[12,4,0]),(5,[4,0]),(6,[4,0]),(7,[3,2])] [(4,[4,0])]),
 (146,Zt [] [] [] [] [(0,[3,0]),(1,[4])] []),
 (167,Zt [] [] [] [] [(0,[2,1]),(1,[3])] []),
 (33,Zt [] [] [(62,1,true)] [] [(0,[2,1]),(1,[4,2,1]),(2,[4,2,1]),(3,[5,2,1]),(4,[32,5,2,1]),(5,[5,2,1]),(6,[7,6,5,2,1]),(7,[9,7,6,5,2,1]),(8,[73,5,2]),(9,[3,2]),(10,[3,2])] []),
 (12,Zt [] [] [] [] [(0,[1]),(1,[5,4]),(2,[14,5,4]),(3,[3,2]),(4,[6,4]),(5,[3,2])] []),
 (66,Zt [] [] [] [] [(0,[]),(2,[4,3,2,1]),(3,[4,3,2]),(4,[4,3,2]),(5,[3,2])] []),
 (86,Zt [] [] [] [] [(1,[4]),(2,[]),(3,[7,5]),(4,[]),(6,[3,1,0]),(7,[])] []),
 (67,Zt [] [] [] [] [(0,[3,2]),(1,[5,3,2]),(2,[6,5,3,2]),(3,[7,6,5,3,2]),(4,[8,7,6,5,3,2]),(5,[4])] []),
 (166,Zt [] [] [] [] [(0,[0]),(1,[3]),(2,[4,3]),(3,[2]),(4,[15,3]),(5,[15,3]),(6,[2]),(7,[27,3]),(8,[27,3]),(9,[2]),(10,[33,3]),(11,[2]),(12,[45,3]),(13,[2]),(14,[55,3]),(15,[2]),(16,[66]),(17,[2]),(18,[2])] []),
 (63,Zt [] [] [] [] [(0,[0]),(1,[3]),(2,[4,3]),(3,[4,3]),(4,[4]),(5,[2]),(6,[2])] []),
 (65,Zt [] [] [] [] [(0,[1,0]),(1,[5,1]),(2,[4]),(3,[4])] []),
 (109,Zt [] [] [] [] [(0,[5,1]),(1,[])] []),
 (73,Zt [] [] [] [] [(0,[4,1,0]),(1,[10,9,8,4,0]),(2,[11,10,9,8,4,0]),(3,[10,9,8,7,4,0]),(4,[17,10,9,8,7,4,0]),(5,[5,4]),(6,[10,9,8,4,0]),(7,[5,4])] [(2,[10,9,8,4,0])]),
 (160,Zt [] [] [] [] [(0,[0]),(1,[2])] []),
 (105,Zt [] [] [] [] [(0,[1,0]),(1,[6,1,0]),(2,[16,15,14,6,1,0]),(3,[17,16,15,14,6,1,0]),(4,[16,15,14,8,6,1,0]),(5,[16,15,14,6,1,0]),(6,[16,15,14,6,1,0]),(7,[10,9,6,1,0]),(8,[32,9,6,1,0]),(9,[5,4]),(10,[6,1,0]),(11,[13,12,11,6,1]),(12,[57,6]),(13,[5,4]),(14,[5,4])] [(3,[16,15,14,6,1,0])]),
 (179,Zt [] [] [] [] [(0,[1,0]),(1,[4])] []),
 (37,Zt [] [] [] [] [(0,[1,0]),(1,[5,1,0]),(2,[10,9,8,5,1]),(3,[11,10,9,8,5,1]),(4,[10,9,8,7,5,1]),(5,[17,10,9,8,7,5,1]),(6,[10,9,8,5,1]),(7,[10,9,8,5,1]),(8,[4])] [(3,[10,9,8,5,1])]),
 (140,Zt [] [] [] [] [(0,[4,1,0]),(1,[9,8,7,4,1,0]),(2,[29,8,7,4,1,0]),(3,[6,5,4]),(4,[10,8,7,4,0]),(5,[38,10,8,7,4,0]),(6,[13,12,11,10,8,7,4,0]),(7,[48,13,12,11,10,8,7,4,0]),(8,[6,5,4]),(9,[12,10,8,7,4,0]),(10,[10,8,7,4,0]),(11,[6,5,4])] [(5,[10,8,7,4,0])]),
 (92,Zt [] [] [] [] [(0,[1,0]),(1,[4])] []),
 (123,Zt [] [] [] [] [(0,[3,2]),(1,[4])] []),
 (187,Zt [] [] [] [] [(0,[0]),(1,[3,0]),(2,[8,7,6,3]),(3,[9,8,7,6,3]),(4,[8,7,6,5,3]),(5,[8,7,6,3]),(6,[8,7,6,3]),(7,[2])] [(3,[8,7,6,3])]),
 (71,Zt [] [] [] [] [(0,[2,1]),(1,[2,1]),(2,[2])] []),
 (182,Zt [] [] [] [] [(0,[1]),(1,[4,1]),(2,[5,4,1]),(3,[5,4,1]),(4,[5,4,1]),(5,[5,1]),(6,[2]),(7,[2])] []),
 (139,Zt [] [] [] [] [(0,[1]),(1,[3,1]),(2,[6,5,3,1]),(3,[15,6,5,3,1]),(4,[16,15,6,5,3,1]),(5,[16,15,6,5,3,1]),(6,[16,15,6,5,3,1]),(7,[6,5,3]),(8,[29,15,6,5,3,1]),(9,[6,5,3]),(10,[37,15,6,5,3,1]),(11,[6,5,3]),(12,[45,15,6,5,3,1]),(13,[6,5,3]),(14,[53,6,5,3,1]),(15,[5,3,1]),(16,[6,5,3]),(17,[2])] []),
 (178,Zt [] [] [] [] [(0,[2,0]),(1,[3,2]),(2,[4,3,2]),(3,[2]),(4,[9,3,2]),(5,[2]),(6,[14,3,2]),(7,[14,3,2]),(8,[2]),(9,[20,3,2]),(10,[2]),(11,[25,3,2]),(12,[2]),(13,[30,3,2]),(14,[2]),(15,[35,3,2]),(16,[35,3,2]),(17,[2]),(18,[41,3,2]),(19,[2]),(20,[46,3,2]),(21,[2]),(22,[51,3,2]),(23,[2]),(24,[56,3,2]),(25,[56,3,2]),(26,[2]),(27,[62,3,2]),(28,[2]),(29,[67,3,2]),(30,[2]),(31,[72,3,2]),(32,[2]),(33,[77,3,2]),(34,[77,3,2]),(35,[2]),(36,[83,3,2]),(37,[2]),(38,[88,3,2]),(39,[2]),(40,[93,3,2]),(41,[93,3,2]),(42,[93,3,2]),(43,[93,3,2]),(44,[93,3,2]),(45,[2]),(46,[102,2]),(47,[2]),(48,[2])] []),
 (181,Zt [] [] [] [] [(0,[1,0]),(1,[4])] []),
 (162,Zt [] [] [] [] [(0,[6,2,1,0]),(1,[11,10,9,6,2,1,0]),(2,[28,10,9,6,2,1,0]),(3,[8,7,6]),(4,[12,10,9,7,6,2,0]),(5,[14,12,10,9,7,6,0]),(6,[45,14,10,9,7,6,0]),(7,[8,7,6]),(8,[49,10,9,7,6]),(9,[8,7,6]),(10,[58,10,9,7,6]),(11,[8,7,6]),(12,[65,6]),(13,[8,7,6]),(14,[8,7,6])] []),
 (180,Zt [] [] [] [] [(0,[5,4,1,0]),(1,[5,4,1,0]),(2,[7,5,4,1,0]),(3,[12,7,5,4,1,0]),(4,[13,12,7,5,4,1,0]),(5,[13,12,7,5,4,1,0]),(6,[13,12,7,5,4,1,0]),(7,[7,5,4,1]),(8,[24,7,5,4,1]),(9,[6,5,4]),(10,[7,5,4]),(11,[32,12,7,5,4,1]),(12,[7,5,4]),(13,[41,12,7,5,4,1]),(14,[7,5,4]),(15,[50,12,7,5,4,1]),(16,[7,5,4]),(17,[59,7,5,4,1]),(18,[7,5,4,1]),(19,[69,7,5,4,1]),(20,[5,4,1]),(21,[8,7,5,4]),(22,[7,5,4]),(23,[6,5,4])] []),
 (32,Zt [] [] [] [] [(0,[0]),(1,[2])] []),
 (40,Zt [] [] [] [] [(0,[]),(2,[2]),(3,[2])] []),
 (50,Zt [] [] [] [] [(0,[]),(2,[2]),(3,[2])] []),
 (165,Zt [] [] [] [] [(0,[1,0]),(1,[4])] []),
 (70,Zt [] [] [] [] [(0,[1,0]),(1,[4])] []),
 (39,Zt [] [] [] [] [(0,[3,0]),(1,[4])] []),
 (49,Zt [] [] [] [] [(0,[2,1,0]),(1,[2,1,0]),(2,[16,2,1,0]),(3,[6]),(4,[7,2,1,0]),(5,[7,0]),(6,[0]),(7,[6])] []),
 (122,Zt [] [] [] [] [(0,[2,1,0]),(1,[14,2,1,0]),(2,[6]),(3,[17,16,15,2,1]),(4,[18,17,16,15,2,1]),(5,[17,16,15,8,7,2,1]),(6,[17,16,15,9,8,2,1]),(7,[30,17,16,15,2,1]),(8,[6]),(9,[17,16,15,2,1]),(10,[6])] [(4,[17,16,15,2,1])]),
 (89,Zt [] [] [] [] [(0,[1,0]),(1,[10,1,0]),(2,[4]),(3,[13,12,1,0]),(4,[14,13,12,1,0]),(5,[13,12,5,1,0]),(6,[24,13,12,1,0]),(7,[4]),(8,[13,12,1,0]),(9,[4])] [(4,[13,12,1,0])]),
 (90,Zt [] [] [] [] [(0,[1,0]),(1,[10,1,0]),(2,[4]),(3,[13,12,1,0]),(4,[14,13,12,1,0]),(5,[13,12,5,1,0]),(6,[24,13,12,1,0]),(7,[4]),(8,[13,12,1,0]),(9,[4])] [(4,[13,12,1,0])]),
 (91,Zt [] [] [] [] [(0,[1,0]),(1,[10,1,0]),(2,[4]),(3,[13,12,1,0]),(4,[14,13,12,1,0]),(5,[13,12,5,1,0]),(6,[24,13,12,1,0]),(7,[4]),(8,[13,12,1,0]),(9,[4])] [(4,[13,12,1,0])]),
 (59,Zt [] [] [] [] [(0,[1,0]),(1,[8,7,1,0]),(2,[9,8,7,1,0]),(3,[8,7,5,1,0]),(4,[16,8,7,5,1,0]),(5,[4]),(6,[8,7,1,0]),(7,[4])] [(2,[8,7,1,0])]),
 (46,Zt [] [] [] [] [(0,[1,0]),(1,[8,7,1,0]),(2,[9,8,7,1,0]),(3,[8,7,5,1,0]),(4,[16,8,7,5,1,0]),(5,[4]),(6,[8,7,1,0]),(7,[4])] [(2,[8,7,1,0])]),
 (183,Zt [] [] [] [] [(0,[1,0]),(1,[8,7,1,0]),(2,[9,8,7,1,0]),(3,[8,7,5,1,0]),(4,[16,8,7,5,1,0]),(5,[4]),(6,[8,7,1,0]),(7,[4])] [(2,[8,7,1,0])]),
 (96,Zt [] [] [] [] [(0,[1,0]),(1,[8,7,1,0]),(2,[9,8,7,1,0]),(3,[8,7,5,1,0]),(4,[16,8,7,5,1,0]),(5,[4]),(6,[8,7,1,0]),(7,[4])] [(2,[8,7,1,0])]),
 (74,Zt [] [] [] [] [(0,[3,0]),(1,[8,7,3,0]),(2,[9,8,7,3,0]),(3,[8,7,5,3,0]),(4,[16,8,7,5,3,0]),(5,[4]),(6,[8,7,3,0]),(7,[4])] [(2,[8,7,3,0])]),
 (68,Zt [] [] [] [] [(0,[0]),(1,[5,4,0]),(2,[12,5,4,0]),(3,[3,2]),(4,[3,2])] []),
 (69,Zt [] [] [] [] [(0,[0]),(1,[2])] []),
 (56,Zt [] [] [] [] [(0,[1,0]),(1,[4])] []),
 (132,Zt [] [] [] [] [(0,[1,0]),(1,[4])] []),
 (78,Zt [] [] [] [] [(0,[1,0]),(1,[12,1,0]),(2,[4]),(3,[15,1,0]),(4,[5,0]),(5,[20,5,0]),(6,[5,0]),(7,[4]),(8,[26,1,0]),(9,[7,6,1,0]),(10,[32,6,1,0]),(11,[8,6,0]),(12,[36,8,6,0]),(13,[8,6,0]),(14,[42,8,6,0]),(15,[4]),(16,[4]),(17,[45,1]),(18,[47,46,45,1]),(19,[45,10,9,1]),(20,[53,45,9,1]),(21,[4]),(22,[4])] [(12,[8,6,0]),(18,[45,1])]),
 (99,Zt [] [] [] [] [(0,[1,0]),(1,[7,0]),(2,[8,7,0]),(3,[9,8,7,0]),(4,[9,8,7,0]),(5,[26,9,8,7,0]),(6,[33,9,8,7,0]),(7,[11,9,8,7,0]),(8,[43,11,9,8,7,0]),(9,[4]),(10,[9,8,7,0]),(11,[12,9,8,7,0]),(12,[51,12,9,8,7,0]),(13,[12,9,8,7,0]),(14,[64,12,9,8,7,0]),(15,[4]),(16,[10,9,8,7,0]),(17,[10,9,8,7,0]),(18,[98,9,8,7,0]),(19,[4]),(20,[13,9,8]),(21,[108,13,9,8]),(22,[4]),(23,[14,9,8,7,0]),(24,[15,14,9,8,7,0]),(25,[124,15,14,9,8,7,0]),(26,[15,14,9,8,7,0]),(27,[139,15,14,9,8,7,0]),(28,[16,15,14,9,8,7,0]),(29,[143,16,15,14,9,8,7,0]),(30,[16,15,14,9,8,7,0]),(31,[156,16,15,14,9,8,7,0]),(32,[4]),(33,[4]),(34,[160,1,0]),(35,[4]),(36,[171,1,0]),(37,[175]),(38,[177,176,175]),(39,[175,6,5]),(40,[181,175,5]),(41,[4]),(42,[4]),(43,[183,1,0]),(44,[4])] [(5,[9,8,7,0]),(12,[12,9,8,7,0]),(25,[15,14,9,8,7,0]),(29,[16,15,14,9,8,7,0]),(38,[175])]),
 (76,Zt [] [] [] [] [(0,[1,0]),(1,[4])] []),
 (97,Zt [] [] [] [] [(0,[3,2,1,0]),(1,[13,3,2,1,0]),(2,[8]),(3,[15,3,2,1,0]),(4,[8]),(5,[20,3,2,1,0]),(6,[3,2,1,0]),(7,[3,2,1,0]),(8,[9,3,2,1,0]),(9,[9,3,2,1,0]),(10,[10,9,3,2,1,0]),(11,[36,10,9,3,2,1,0]),(12,[11,10,9,3,2,1,0]),(13,[41,11,10,9,3,2,1,0]),(14,[11,10,9,3,2,1,0]),(15,[10,9,3,2,1,0]),(16,[10,9,3,2,1,0]),(17,[10,9]),(18,[8])] [(11,[10,9,3,2,1,0])]),
 (101,Zt [] [] [] [] [(0,[2,0]),(1,[4,2,0]),(2,[9,4,2,0]),(3,[4,2,0]),(4,[5,4,2,0]),(5,[16,5,4,2,0]),(6,[3,2]),(7,[4,2,0]),(8,[3,2])] [(2,[4,2,0])]),
 (100,Zt [] [] [] [] [(0,[0]),(1,[2])] []),
 (43,Zt [] [] [] [] [(0,[1,0]),(1,[8,1,0]),(2,[4]),(3,[4])] []),
 (15,Zt [] [] [] [] [(0,[1,0]),(1,[4])] []),
 (6,Zt [] [] [] [] [(0,[2,1,0]),(1,[7,1,0]),(2,[7,1,0]),(3,[16,7,1,0]),(4,[1,0]),(5,[6])] []),
 (42,Zt [] [] [] [] [(0,[0]),(1,[3,0]),(2,[4,3,0]),(3,[12,4,3,0]),(4,[4,3,0]),(5,[4,3,0]),(6,[2])] [(3,[4,3,0])]),
 (3,Zt [] [] [(7,3,false)] [] [(0,[3,2,1]),(1,[7,2]),(2,[7,2]),(3,[8,7,2]),(4,[28,8,7,2]),(5,[6]),(6,[32,8,7,2]),(7,[6]),(8,[8,7,2]),(9,[10,9,7,2]),(10,[52,10,9,7,2]),(11,[6]),(12,[54,9,7,2]),(13,[6]),(14,[12,11,9,7,2]),(15,[14,13,12,11,7,2]),(16,[76,13,7,2]),(17,[6]),(18,[15,13,7,2]),(19,[79,15,13,7,2]),(20,[15,13,7]),(21,[6])] []),
 (4,Zt [] [] [(18,1,true),(19,1,true),(16,2,false)] [] [(0,[0]),(1,[3,0]),(2,[19,3,0]),(3,[2]),(4,[4,3,0]),(5,[5,4,3,0]),(6,[6,5,4,3,0]),(7,[29,6,5,4,3,0]),(8,[6,5,4,3,0]),(9,[7,6,5,4,3,0]),(10,[8,7,6,5,4,3,0]),(11,[9,8,7,6,5,4,3,0]),(12,[70,7,6,5,4,3,0]),(13,[2]),(14,[6,5,4,3,0]),(15,[10,5,4]),(16,[11,10,4]),(17,[99,11,10,4]),(18,[2]),(19,[12,11,10,4]),(20,[103,12,11,10,4]),(21,[12,11,10,4]),(22,[146,12,11,10,4]),(23,[2]),(24,[2])] [(7,[6,5,4,3,0]),(20,[12,11,10,4])]),
 (5,Zt [] [] [] [] [(0,[4,2,1]),(1,[5,4,1]),(2,[5,4]),(3,[4])] []),
 (14,Zt [] [] [] [] [(0,[0]),(1,[2])] []),
 (8,Zt [] [] [(24,1,true),(11,1,true),(9,1,true),(7,3,false)] [] [(0,[]),(1,[1]),(2,[24,1]),(3,[0]),(4,[1]),(5,[3,2,1]),(6,[5,4,3,2,1]),(7,[0])] []),
 (51,Zt [] [] [] [] [(0,[0]),(1,[3,0]),(2,[11,10,9,3,0]),(3,[12,11,10,9,3,0]),(4,[11,10,9,5,4,3,0]),(5,[11,10,9,6,5,3,0]),(6,[34,11,10,9,3,0]),(7,[2]),(8,[11,10,9,3,0]),(9,[2])] [(3,[11,10,9,3,0])]),
 (52,Zt [] [] [] [] [(0,[0]),(1,[2])] []),
 (25,Zt [] [] [] [] [(0,[1,0]),(1,[16,1,0]),(2,[4]),(3,[6,5,1]),(4,[35,6,5]),(5,[4]),(6,[38,37,36,6,5]),(7,[39,38,37,36,6,5]),(8,[38,37,36,8,7,6,5]),(9,[43,38,37,36,8,7,6,5]),(10,[4]),(11,[46,38,37,36,6,5]),(12,[4]),(13,[38,37,36,6,5]),(14,[4])] [(7,[38,37,36,6,5])]),
 (27,Zt [] [] [] [] [(0,[0]),(1,[2])] []),
 (55,Zt [] [] [] [] [(0,[0]),(1,[2])] []),
 (135,Zt [] [] [] [] [(0,[0]),(1,[3,0]),(2,[2]),(3,[10]),(4,[2]),(5,[2])] []),
 (1000000,{})]
def ann:Nat->Ann:=Zee {} ZCW
def ZAo:List (Nat×Bool):=[
 (49,true),
 (1000000,false)]
def BY:Nat->Bool:=Zee false ZAo
noncomputable def CF:Nat->Option ZF:=ZiE Tryz.prog ann
noncomputable def FC:Nat->Option ZF:=fun f=>(CF f).map Zmk
def ZvS:List (Nat×Option (List AVal->Za->Option (AVal×Za))):=[
 (53,some (Zev 1 1)),
 (54,some (Zev 5 72)),
 (40,some (Zev 2 16)),
 (50,some (Zev 11 136)),
 (134,some (ZlV)),
 (159,some (ZlV)),
 (131,some (Zo5)),
 (98,some (ZnL)),
 (66,some (ZgS)),
 (83,some (ZgS)),
 (1000000,none)]
def PR:Zb5:=Zee none ZvS
theorem xw (c d:Zf) (h:c=d) (m:Nat) (tm:Tms) (σ:Za):evC FC PR BY m c tm σ=evC FC PR BY m d tm σ:=by rw [h]
noncomputable abbrev E:ZN:=EV FC PR BY
theorem Zh {f:Nat} {fn:ZF} (hp:PR f=none) (hf:FC f=some fn) (args:List AVal) (σ:Za):E f args σ=Zau σ.length fn (evC FC PR BY σ.length fn.body (enterA 0 args []) σ):=ZrI hp hf args σ
end
section
def Zkb:Zf:=(.seq (.region [oI 2 (.mov (.c (.lst true []))),oI 3 (.mov (.c (.int .i64 0)))] none [0]) (.seq (.seq (.region [oM 4 0,oI 5 (.len (.t 4)),oI 6 (.bin .gtr (.t 5) (.c (.int .i64 65535)))] none [6,0]) (.cond (.t 6) (.seq (.region [oI 2 (.mov (.c (.lst true []))),oI 3 (.mov (.c (.int .i64 10)))] none [3,2]) .ret) .skip)) (.seq (.region [oM 7 0,oI 8 (.len (.t 7)),oI 9 (.i2i .u64 (.t 8)),oI 10 (.call 104 0 true [(.t 9),(.c (.int .i64 2))]),oM 11 0,oI 12 (.bslice false 1 2 (.lst true []) [(0,(.t 10)),(1,(.t 11))]),oI 13 (.call 35 0 true [(.t 12)]),oM 2 13,oI 3 (.mov (.c (.int .i64 0)))] none [3,2]) .ret)))
def Zn3:ZF:=⟨[(.tmp 2),(.tmp 3)],Zkb⟩
theorem Zu6:FC 138=some Zn3:=by kernel_rfl
theorem Zsq:Zn3.body=Zkb:=rfl
theorem ZsS:Zn3.res=[(.tmp 2),(.tmp 3)]:=rfl
def Zq2:Zf:=(.seq (.region [oM 18 3,oM 2 18] none [2]) .ret)
def ZmF:Zf:=Zq2
def ZAr:=xw ZmF Zq2 rfl
def Zmw:Zf:=(.seq (.region [oI 9 (.bin .lss (.t 8) (.t 7))] none [9,8,7,6,3]) (.seq (.cond (.t 9) .skip (.exit 0)) (.seq (.block 1 (.seq (.region [oI 10 (.iaddr 1 (.t 6) (.t 8)),oL 11 10,oM 5 11] none [8,7,6,5,3]) (.region [oM 12 3,oI 13 (.bin .shl (.t 12) (.c (.int .u64 8))),oM 14 5,oI 15 (.i2i .u64 (.t 14)),oI 16 (.bin .or (.t 13) (.t 15)),oM 3 16] none [8,7,6,3]))) (.region [oI 17 (.bin .add (.t 8) (.c (.int .i64 1))),oM 8 17] none [8,7,6,3]))))
def Zpz:Zf:=Zmw
def Zq8:=xw Zpz Zmw rfl
def ZpS:Zf:=(.seq (.region [oI 2 (.mov (.c (.int .u64 0)))] none [0]) (.seq (.region [oI 3 (.mov (.c (.int .u64 0)))] none [3,0]) (.seq (.seq (.region [oM 6 0,oI 7 (.len (.t 6)),oI 8 (.mov (.c (.int .i64 0)))] none [8,7,6,3]) (.block 0 (.loop [8,7,6,3] Zpz))) ZmF)))
def Zki:ZF:=⟨[(.tmp 2)],ZpS⟩
theorem ZEx:FC 145=some Zki:=by kernel_rfl
theorem ZGi:Zki.body=ZpS:=rfl
theorem ZLy:Zki.res=[(.tmp 2)]:=rfl
noncomputable def Zll (m:Nat) (tm:Tms) (σ:Za):Option (AVal×Za):=(Zau m Zki (Zbw FC PR BY m ZmF (Wa (ZaR 0) (evL FC PR BY m [8,7,6,3] Zpz tm σ))))
def Zh9:Zf:=(.seq (.region [oI 2 (.mov (.c (.lst true []))),oI 3 (.mov (.c (.int .i64 0))),oI 4 (.mov (.c (.int .i64 0)))] none [0]) (.seq (.seq (.region [oM 5 0,oI 6 (.len (.t 5)),oI 7 (.bin .lss (.t 6) (.c (.int .i64 2))),oM 8 7,⟨(some 9),(.mov (.t 0)),(some (8,false)),[]⟩,⟨(some 10),(.len (.t 9)),(some (8,false)),[]⟩,⟨(some 11),(.bin .sub (.t 10) (.c (.int .i64 2))),(some (8,false)),[]⟩,⟨(some 12),(.mov (.t 0)),(some (8,false)),[]⟩,⟨(some 13),(.slice 1 (.t 12) none (some (.c (.int .i64 2))) none),(some (8,false)),[]⟩,⟨(some 14),(.call 145 0 true [(.t 13)]),(some (8,false)),[]⟩,⟨(some 15),(.i2i .i64 (.t 14)),(some (8,false)),[]⟩,⟨(some 16),(.bin .lss (.t 11) (.t 15)),(some (8,false)),[]⟩,oI 17 (.pick (.t 8) (.c (.bool true)) (.t 16))] none [17,0]) (.cond (.t 17) (.seq (.region [oI 2 (.mov (.c (.lst true []))),oI 3 (.mov (.c (.int .i64 0))),oI 4 (.mov (.c (.int .i64 11)))] none [4,3,2]) .ret) .skip)) (.seq (.region [oM 18 0,oI 19 (.slice 1 (.t 18) none (some (.c (.int .i64 2))) none),oI 20 (.call 145 0 true [(.t 19)]),oI 21 (.i2i .i64 (.t 20)),oI 22 (.bin .add (.c (.int .i64 2)) (.t 21)),oM 3 22] none [3,0]) (.seq (.region [oM 23 0,oM 24 3,oI 25 (.slice 1 (.t 23) (some (.c (.int .i64 2))) (some (.t 24)) none),oI 26 (.bslice false 1 1 (.lst true []) [(0,(.t 25))]),oI 27 (.call 35 0 true [(.t 26)]),oM 28 3,oM 2 27,oM 3 28,oI 4 (.mov (.c (.int .i64 0)))] none [4,3,2]) .ret))))
def Zn9:ZF:=⟨[(.tmp 2),(.tmp 3),(.tmp 4)],Zh9⟩
theorem ZnW:FC 164=some Zn9:=by kernel_rfl
theorem Zow:Zn9.body=Zh9:=rfl
theorem Zo9:Zn9.res=[(.tmp 2),(.tmp 3),(.tmp 4)]:=rfl
def Zif:Zf:=(.seq (.region [oI 2 (.mov (.c (.str []))),oI 3 (.mov (.c (.int .i64 0))),oI 4 (.mov (.c (.int .i64 0)))] none [0]) (.seq (.region [oM 7 0,oI 8 (.call 164 0 true [(.t 7)]),oM 6 8,oI 9 (.ext (.t 6) 0),oI 10 (.ext (.t 6) 1),oI 11 (.ext (.t 6) 2),oM 5 9,oM 3 10,oM 4 11] none [5,4,3]) (.seq (.block 0 (.seq (.region [oM 13 4,oI 14 (.bin .neq (.t 13) (.c (.int .i64 0))),oM 12 14] none [12,5,4,3]) (.cond (.t 12) (.seq (.region [oM 15 4,oI 2 (.mov (.c (.str []))),oI 3 (.mov (.c (.int .i64 0))),oM 4 15] none [4,3,2]) .ret) (.seq (.region [oM 17 5,oI 18 (.b2s (.t 17)),oI 19 (.call 77 0 true [(.t 18)]),oI 20 (.un .not (.t 19)),oM 16 20] none [16,5,3]) (.cond (.t 16) (.seq (.region [oI 2 (.mov (.c (.str []))),oI 3 (.mov (.c (.int .i64 0))),oI 4 (.mov (.c (.int .i64 13)))] none [4,3,2]) .ret) .skip))))) (.seq (.region [oM 21 5,oI 22 (.b2s (.t 21)),oM 23 3,oM 2 22,oM 3 23,oI 4 (.mov (.c (.int .i64 0)))] none [4,3,2]) .ret))))
def Zpv:ZF:=⟨[(.tmp 2),(.tmp 3),(.tmp 4)],Zif⟩
theorem Zup:FC 147=some Zpv:=by kernel_rfl
theorem ZqK:Zpv.body=Zif:=rfl
theorem Znr:Zpv.res=[(.tmp 2),(.tmp 3),(.tmp 4)]:=rfl
def Ziu:Zf:=(.seq (.seq (.region [oM 36 0,oI 37 (.len (.t 36)),oI 38 (.bin .lss (.t 37) (.c (.int .i64 4)))] none [38]) (.cond (.t 38) (.seq (.region [oI 2 (.mov (.c (.int .i64 0))),oI 3 (.mov (.c (.int .i64 0))),oI 4 (.mov (.c (.int .i64 11)))] none [4,3,2]) .ret) .skip)) (.seq (.region [oI 2 (.mov (.c (.int .i64 0))),oI 3 (.mov (.c (.int .i64 0))),oI 4 (.mov (.c (.int .i64 12)))] none [4,3,2]) .ret))
def ZoV:Zf:=Ziu
def Zoa:=xw ZoV Ziu rfl
def Ze2:Zf:=(.seq (.region [oI 10 (.bin .lss (.t 9) (.t 8))] none [10,9,8,7,2,0]) (.seq (.cond (.t 10) .skip (.exit 0)) (.seq (.block 1 (.seq (.region [oM 11 9,oI 12 (.iaddr 1 (.t 7) (.t 9)),oL 13 12,oM 5 11,oM 6 13] none [9,8,7,6,5,2,0]) (.seq (.seq (.region [oM 14 5,oI 15 (.bin .eql (.t 14) (.c (.int .i64 4)))] none [15,9,8,7,6,5,2,0]) (.cond (.t 15) (.exit 0) .skip)) (.seq (.region [oM 16 2,oM 17 6,oI 18 (.bin .and (.t 17) (.c (.int .u8 127))),oI 19 (.i2i .i64 (.t 18)),oM 20 5,oI 21 (.bin .mul (.c (.int .i64 7)) (.t 20)),oI 22 (.bin .shl (.t 19) (.t 21)),oI 23 (.bin .or (.t 16) (.t 22)),oM 2 23] none [9,8,7,6,5,2,0]) (.seq (.region [oM 24 6,oI 25 (.bin .lss (.t 24) (.c (.int .u8 128)))] none [25,9,8,7,6,5,2,0]) (.cond (.t 25) (.seq (.seq (.region [oM 26 6,oI 27 (.bin .eql (.t 26) (.c (.int .u8 0))),oM 28 27,⟨(some 29),(.mov (.t 5)),(some (28,true)),[]⟩,⟨(some 30),(.bin .gtr (.t 29) (.c (.int .i64 0))),(some (28,true)),[]⟩,oI 31 (.pick (.t 28) (.t 30) (.c (.bool false)))] none [31,5,2]) (.cond (.t 31) (.seq (.region [oI 2 (.mov (.c (.int .i64 0))),oI 3 (.mov (.c (.int .i64 0))),oI 4 (.mov (.c (.int .i64 12)))] none [4,3,2]) .ret) .skip)) (.seq (.region [oM 32 2,oM 33 5,oI 34 (.bin .add (.t 33) (.c (.int .i64 1))),oM 2 32,oM 3 34,oI 4 (.mov (.c (.int .i64 0)))] none [4,3,2]) .ret)) .skip)))))) (.region [oI 35 (.bin .add (.t 9) (.c (.int .i64 1))),oM 9 35] none [9,8,7,2,0]))))
def ZqU:Zf:=Ze2
def ZgA:=xw ZqU Ze2 rfl
def Zqj:Zf:=(.seq (.region [oI 2 (.mov (.c (.int .i64 0))),oI 3 (.mov (.c (.int .i64 0))),oI 4 (.mov (.c (.int .i64 0)))] none [2,0]) (.seq (.seq (.region [oM 7 0,oI 8 (.len (.t 7)),oI 9 (.mov (.c (.int .i64 0)))] none [9,8,7,2,0]) (.block 0 (.loop [9,8,7,2,0] ZqU))) ZoV))
def Zkk:ZF:=⟨[(.tmp 2),(.tmp 3),(.tmp 4)],Zqj⟩
theorem ZH7:FC 161=some Zkk:=by kernel_rfl
theorem ZH0:Zkk.body=Zqj:=rfl
theorem ZhK:Zkk.res=[(.tmp 2),(.tmp 3),(.tmp 4)]:=rfl
noncomputable def Zhw (m:Nat) (tm:Tms) (σ:Za):Option (AVal×Za):=(Zau m Zkk (Zbw FC PR BY m ZoV (Wa (ZaR 0) (evL FC PR BY m [9,8,7,2,0] ZqU tm σ))))
def Zol:Zf:=(.seq (.region [oM 12 0,oI 13 (.call 98 0 true [(.t 12)]),oM 2 13] none [2]) .ret)
def Zot:Zf:=Zol
def ZJa:=xw Zot Zol rfl
def ZiT:Zf:=(.seq (.region [oI 7 (.nxt (.t 6)),oI 8 (.ext (.t 7) 0)] none [8,7,6,0]) (.seq (.cond (.t 8) .skip (.exit 0)) (.block 1 (.seq (.region [oI 9 (.ext (.t 7) 2),oM 4 9] none [6,4,0]) (.seq (.region [oM 10 4,oI 11 (.bin .eql (.t 10) (.c (.int .i32 0)))] none [11,6,0]) (.cond (.t 11) (.seq (.region [oI 2 (.mov (.c (.bool false)))] none [2]) .ret) .skip))))))
def ZnE:Zf:=ZiT
def Znu:=xw ZnE ZiT rfl
def Zm9:Zf:=(.seq (.region [oI 2 (.mov (.c (.bool false)))] none [0]) (.seq (.seq (.region [oM 5 0,oI 6 (.rng (.t 5))] none [6,0]) (.block 0 (.loop [6,0] ZnE))) Zot))
def ZjJ:ZF:=⟨[(.tmp 2)],Zm9⟩
theorem ZJW:FC 77=some ZjJ:=by kernel_rfl
theorem ZPf:ZjJ.body=Zm9:=rfl
theorem ZuD:ZjJ.res=[(.tmp 2)]:=rfl
noncomputable def Zlb (m:Nat) (tm:Tms) (σ:Za):Option (AVal×Za):=(Zau m ZjJ (Zbw FC PR BY m Zot (Wa (ZaR 0) (evL FC PR BY m [6,0] ZnE tm σ))))
def ZpX:Zf:=(.seq (.region [oM 16 3,oM 2 16] none [2]) .ret)
def Zoj:Zf:=ZpX
def Zwt:=xw Zoj ZpX rfl
def ZiM:Zf:=(.seq (.region [oI 9 (.bin .lss (.t 8) (.t 7))] none [9,8,7,6,3]) (.seq (.cond (.t 9) .skip (.exit 0)) (.seq (.block 1 (.seq (.region [oI 10 (.iaddr 1 (.t 6) (.t 8)),oL 11 10,oM 5 11] none [8,7,6,5,3]) (.region [oM 12 3,oM 13 5,oI 14 (.app 1 1 (.int .u8 0) (.t 12) (.t 13)),oM 3 14] none [8,7,6,3]))) (.region [oI 15 (.bin .add (.t 8) (.c (.int .i64 1))),oM 8 15] none [8,7,6,3]))))
def ZqT:Zf:=ZiM
def ZnY:=xw ZqT ZiM rfl
def ZmQ:Zf:=(.seq (.region [oI 2 (.mov (.c (.lst true [])))] none [0]) (.seq (.region [oI 3 (.mov (.c (.lst true [])))] none [3,0]) (.seq (.seq (.region [oM 6 0,oI 7 (.len (.t 6)),oI 8 (.mov (.c (.int .i64 0)))] none [8,7,6,3]) (.block 0 (.loop [8,7,6,3] ZqT))) Zoj)))
def Zj0:ZF:=⟨[(.tmp 2)],ZmQ⟩
theorem ZNj:FC 35=some Zj0:=by kernel_rfl
theorem ZMf:Zj0.body=ZmQ:=rfl
theorem ZNf:Zj0.res=[(.tmp 2)]:=rfl
noncomputable def Zk4 (m:Nat) (tm:Tms) (σ:Za):Option (AVal×Za):=(Zau m Zj0 (Zbw FC PR BY m Zoj (Wa (ZaR 0) (evL FC PR BY m [8,7,6,3] ZqT tm σ))))
def ZmW:Zf:=(.seq (.region [oM 28 5,oM 4 28] none [4]) .ret)
def Zpx:Zf:=ZmW
def ZJi:=xw Zpx ZmW rfl
def Zj2:Zf:=(.seq (.seq (.region [oM 17 6,oI 18 (.bin .geq (.t 17) (.c (.int .i64 0)))] none [18,6,5,0]) (.cond (.t 18) .skip (.exit 0))) (.seq (.block 1 (.seq (.region [oM 21 5,oM 22 6,oM 23 0,oI 24 (.i2i .u8 (.t 23)),oI 25 (.iaddr 1 (.t 21) (.t 22)),oN (.st 1 (.t 25) (.t 24))] none [6,5,0]) (.region [oM 26 0,oI 27 (.bin .shr (.t 26) (.c (.int .u64 8))),oM 0 27] none [6,5,0]))) (.region [oM 19 6,oI 20 (.bin .sub (.t 19) (.c (.int .i64 1))),oM 6 20] none [6,5,0])))
def ZnN:Zf:=Zj2
def Zu1:=xw ZnN Zj2 rfl
def ZoN:Zf:=(.seq (.region [oI 4 (.mov (.c (.lst true [])))] none [1,0]) (.seq (.seq (.region [oM 7 1,oI 8 (.bin .lss (.t 7) (.c (.int .i64 1))),oM 9 8,⟨(some 10),(.mov (.t 1)),(some (9,false)),[]⟩,⟨(some 11),(.bin .gtr (.t 10) (.c (.int .i64 8))),(some (9,false)),[]⟩,oI 12 (.pick (.t 9) (.c (.bool true)) (.t 11))] none [12,1,0]) (.cond (.t 12) (.seq (.region [oI 4 (.mov (.c (.lst true [])))] none [4]) .ret) .skip)) (.seq (.region [oM 13 1,oI 14 (.mkslice 1 1 (.int .u8 0) (.t 13) (.t 13)),oM 5 14] none [5,1,0]) (.seq (.seq (.region [oM 15 1,oI 16 (.bin .sub (.t 15) (.c (.int .i64 1))),oM 6 16] none [6,5,0]) (.block 0 (.loop [6,5,0] ZnN))) Zpx))))
def ZlZ:ZF:=⟨[(.tmp 4)],ZoN⟩
theorem ZGr:FC 104=some ZlZ:=by kernel_rfl
theorem ZKF:ZlZ.body=ZoN:=rfl
theorem ZMF:ZlZ.res=[(.tmp 4)]:=rfl
noncomputable def Zl8 (m:Nat) (tm:Tms) (σ:Za):Option (AVal×Za):=(Zau m ZlZ (Zbw FC PR BY m Zpx (Wa (ZaR 0) (evL FC PR BY m [6,5,0] ZnN tm σ))))
def ZjX:Zf:=(.seq (.region [oI 2 (.mov (.c (.lst true []))),oI 3 (.mov (.c (.int .i64 0)))] none [0]) (.seq (.seq (.region [oM 4 0,oI 5 (.call 77 0 true [(.t 4)]),oI 6 (.un .not (.t 5))] none [6,0]) (.cond (.t 6) (.seq (.region [oI 2 (.mov (.c (.lst true []))),oI 3 (.mov (.c (.int .i64 13)))] none [3,2]) .ret) .skip)) (.seq (.region [oM 7 0,oI 8 (.s2b (.t 7)),oI 9 (.call 138 0 true [(.t 8)]),oI 10 (.ext (.t 9) 0),oI 11 (.ext (.t 9) 1),oM 2 10,oM 3 11] none [3,2]) .ret)))
def Zn8:ZF:=⟨[(.tmp 2),(.tmp 3)],ZjX⟩
theorem ZvF:FC 106=some Zn8:=by kernel_rfl
theorem Zr9:Zn8.body=ZjX:=rfl
theorem Zr3:Zn8.res=[(.tmp 2),(.tmp 3)]:=rfl
def ZlD:Zf:=(.seq (.region [oM 21 4,oM 22 0,oI 23 (.i2i .u8 (.t 22)),oI 24 (.bslice false 1 1 (.int .u8 0) [(0,(.t 23))]),oI 25 (.app 1 1 (.int .u8 0) (.t 21) (.t 24)),oM 2 25,oI 3 (.mov (.c (.int .i64 0)))] none [3,2]) .ret)
def Zpw:Zf:=ZlD
def Zr5:=xw Zpw ZlD rfl
def ZgX:Zf:=(.seq (.seq (.region [oM 11 0,oI 12 (.bin .gtr (.t 11) (.c (.int .i64 127)))] none [12,4,0]) (.cond (.t 12) .skip (.exit 0))) (.seq (.block 1 (.region [oM 15 4,oM 16 0,oI 17 (.i2i .u8 (.t 16)),oI 18 (.bin .or (.t 17) (.c (.int .u8 128))),oI 19 (.bslice false 1 1 (.int .u8 0) [(0,(.t 18))]),oI 20 (.app 1 1 (.int .u8 0) (.t 15) (.t 19)),oM 4 20] none [4,0])) (.region [oM 13 0,oI 14 (.bin .shr (.t 13) (.c (.int .u64 7))),oM 0 14] none [4,0])))
def ZnG:Zf:=ZgX
def ZjD:=xw ZnG ZgX rfl
def Zjb:Zf:=(.seq (.region [oI 2 (.mov (.c (.lst true []))),oI 3 (.mov (.c (.int .i64 0)))] none [0]) (.seq (.seq (.region [oM 5 0,oI 6 (.bin .lss (.t 5) (.c (.int .i64 0))),oM 7 6,⟨(some 8),(.mov (.t 0)),(some (7,false)),[]⟩,⟨(some 9),(.bin .gtr (.t 8) (.c (.int .i64 268435455))),(some (7,false)),[]⟩,oI 10 (.pick (.t 7) (.c (.bool true)) (.t 9))] none [10,0]) (.cond (.t 10) (.seq (.region [oI 2 (.mov (.c (.lst true []))),oI 3 (.mov (.c (.int .i64 10)))] none [3,2]) .ret) .skip)) (.seq (.region [oI 4 (.mov (.c (.lst true [])))] none [4,0]) (.seq (.block 0 (.loop [4,0] ZnG)) Zpw))))
def Zmy:ZF:=⟨[(.tmp 2),(.tmp 3)],Zjb⟩
theorem Zx9:FC 34=some Zmy:=by kernel_rfl
theorem Zpo:Zmy.body=Zjb:=rfl
theorem Zkl:Zmy.res=[(.tmp 2),(.tmp 3)]:=rfl
noncomputable def ZkJ (m:Nat) (tm:Tms) (σ:Za):Option (AVal×Za):=(Zau m Zmy (Zbw FC PR BY m Zpw (Wa (ZaR 0) (evL FC PR BY m [4,0] ZnG tm σ))))
end
section
open Go.RowKit
inductive Ty where
 | bool
 | int (k:IntKind)
 | str
 | slice (s:Bool) (e:Ty)
 | struct (fs:List Ty)
 deriving Inhabited
def ZdE:Option TypeDesc->Bool
 | some (.struct _)=>true
 | some (.array _ _)=>true
 | _=>false
def Zin (P:Program):Nat->List Field->Nat->Bool
 | at',[],n=>at' == n
 | at',f::fs,n=>f.offset == at' && Zin P (at'+P.cellsOf f.type) fs n
def Zdh (P:Program):Nat->TypeId->Option Ty
 | 0,_=>none
 | n+1,t=>match P.underlying t with
  | some .bool=>some .bool
  | some (.int k)=>some (.int k)
  | some .string=>some .str
  | some (.slice e)=>if 0 < P.cellsOf e then (Zdh P n e).map (.slice (ZdE (P.underlying e))) else none
  | some (.struct fs)=>if Zin P 0 fs.toList (P.cellsOf t) then (fs.toList.mapM fun f=>Zdh P n f.type).map .struct else none
  | _=>none
def Zcu (s:Bool) (y:List AVal):AVal:=if s then .agg y else y.headD .nilp
def Imm.of (w:World):Imm:=fun b o=>w.cell? ⟨b,o,none⟩
section
variable {H:Type} {enc:TypeId×Value->H} {P:Program} {w:World} {spare:Nat->Bool} {held:Bool}
theorem ZFY {b off:Nat} {s:Option Nat} {u:Value} (h:w.cell? ⟨b,off,s⟩=some u):s=none:=by
 unfold World.cell? at h
 split at h
 ·rcases s with _ | s
  ·rfl
  ·simp at h
 ·cases h
theorem ZBh {s:Bool} {y:List AVal} (h:s=false->y.length=1) (h1:s=false->∀ x ∈ y,ZS x=true):(Zcu s y).cells=y:=by
 cases s with
 | true=>rfl
 | false =>
  match y,h rfl with
  | [x],_ =>
   have:=h1 rfl x (by simp)
   cases x <;> simp_all [Zcu,AVal.cells,ZS]
theorem ZOf {a:Addr} (h:a.spot=none) (n:Nat):a.add n=⟨a.block,a.off+n,none⟩:=by
 unfold Addr.add
 split
 ·rename_i e;subst e;cases a;simp_all
 ·rfl
theorem ZF7 {I:Imm} {β:Bmap} {xs:List AVal} {vs:List Value} {n:Nat} (h:VRs I β xs (vs.take n)) {ys:List AVal} (h':VRs I β ys (vs.drop n)):VRs I β (xs++ys) vs:=by
 have:=Zcd h h'
 rwa [List.take_append_drop] at this
theorem ZuJ {α β:Type} {f:α->Option β} {a:α} {l:List α} {r:List β} (h:(a::l).mapM f=some r):∃ b r',f a=some b/\l.mapM f=some r'/\r=b::r':=by
 rw [XaQ] at h
 simp only [Option.bind_eq_bind,Option.bind_eq_some_iff,Option.pure_def,Xa] at h
 obtain ⟨b,h1,r',h2,h3⟩:=h
 exact ⟨b,r',h1,h2,h3.symm⟩
theorem Zzn {a b:List AVal} (ha:ZaG a=true) (hb:ZaG b=true):ZaG (a++b)=true:=by
 induction a with
 | nil=>exact hb
 | cons x a ih=>simp only [XY,ZaG,Xj] at ha ⊢;exact ⟨ha.1,ih ha.2⟩
theorem Zuo {I:Imm} {β:Bmap} {s:Bool} {k b:Nat}:∀ (n off:Nat) (Y:Nat->List AVal),(∀ i,i < n->(Zcu s (Y i)).cells.length=k/\CR I β (Zcu s (Y i)).cells b (off+i*k))->LR I β k ((X9 n).map fun i=>Zcu s (Y i)) b off
 | 0,off,Y,_=>by simp [LR]
 | n+1,off,Y,h=>by
  rw [List.range_succ_eq_map,Xt,Zfn]
  have h0:=h 0 (by omega)
  simp only [Nat.zero_mul,Wb] at h0
  refine ⟨h0,?_⟩
  rw [XaC]
  exact Zuo n (off+k) (fun i=>Y (i+1)) (fun i hi=>by
   have:=h (i+1) (by omega)
   rw [show off+k+i*k=off+(i+1)*k by rw [Nat.succ_mul];omega]
   exact this)
theorem ZvY {I:Imm} {β:Bmap} {b:Nat}:∀ (xs:List AVal) (cs:List Value) (off:Nat),VRs I β xs cs->(∀ i,i < cs.length->I b (off+i)=cs[i]?)->CR I β xs b off
 | [],_,_,_,_=>by simp only [CR]
 | x::xs,cs,off,h,hI=>by
  simp only [VRs] at h
  obtain ⟨v,vs',rfl,h1,h2⟩:=h
  simp only [CR]
  refine ⟨⟨v,by have:=hI 0 (by simp);simpa using this,h1⟩,ZvY xs vs' (off+1) h2 fun i hi=>?_⟩
  have:=hI (i+1) (by simp;omega)
  rw [show off+1+i=off+(i+1) by omega,this]
  simp
theorem ZqF {s:Bool}:∀ (n:Nat) (Y:Nat->List AVal),(∀ i,i < n->ZaG (Zcu s (Y i)).cells=true)->Zae ((X9 n).map fun i=>Zcu s (Y i))=true
 | 0,Y,_=>by simp [Zae]
 | n+1,Y,h=>by
  rw [List.range_succ_eq_map,Xt,Zsn,h 0 (by omega),XaC]
  simp only [Bool.true_and]
  exact ZqF n (fun i=>Y (i+1)) (fun i hi=>h (i+1) (by omega))
theorem ZvP {xs:List AVal} (h:ZaG xs=true):∀ x ∈ xs,ZS x=true:=by
 induction xs with
 | nil=>intro x hx;simp at hx
 | cons y ys ih =>
  simp only [ZaG,Xj] at h
  intro x hx
  rcases XS.1 hx with rfl | hx
  ·cases x <;> simp_all [ZaV,ZS]
  ·exact ih h.2 x hx
theorem Rel.start (w:World) (hG:Gl.le (Imm.of w)):Rel (fun b=>b < w.heap.size) w (Imm.of w) (Imm.of w) B0 [] w where
 below:=KB.refl _ w
 old:=fun _ _ _=>rfl
 imm:=fun _ _ _ h=>h
 blk:=fun t x h=>by simp at h
 own:=fun t x b h=>by simp at h
 apart:=fun t x t' x' b h=>by simp at h
 fresh:=fun _ _ _=>rfl
 free:=fun t g h=>by simp at h
 gen:=fun t b g h=>by simp at h
 glob:=hG
theorem ZF8 {O:ZN} (hO:ZaE P O) {f:Nat} {args:List AVal} {vs:Array Value} {σ':Za} (hG:Gl.le (Imm.of w)) (hargs:VRs (Imm.of w) B0 args vs.toList) (h:O f args []=some (.bool true,σ')) :
  Calls P f vs w (fun e w'=>e=.returned (.bool true)/\Below w.heap.size w w'):=by
 refine ((hO f args [] _ _ h).2 _ w _ _ B0 w vs (fun b hb=>hb) (Rel.start w hG) hargs).mono ?_
 rintro e w' ⟨u,he,I',β',_,_,R,hv⟩
 simp only [ZaW,VR] at hv
 subst hv
 exact ⟨he,R.below.os,R.below.tape,R.below.output,R.below.size,R.below.block⟩
end
end
section
open Go.RowKit
theorem Zwn (id:Nat) (tm:Tms) (σ:Za):ZaR id (.normal,tm,σ)=(.normal,tm,σ):=rfl
theorem ZKe (id i:Nat) (tm:Tms) (σ:Za):ZaR id (.exit i,tm,σ)=if i=id then (.normal,tm,σ) else (.exit i,tm,σ):=by simp only [ZaR]
theorem ZOV (id:Nat) (tm:Tms) (σ:Za):ZaR id (.ret,tm,σ)=(.ret,tm,σ):=rfl
theorem ZDz (id:Nat) (x:AVal) (tm:Tms) (σ:Za):ZaR id (.panic x,tm,σ)=(.panic x,tm,σ):=rfl
section
variable (O:ZN) (bf:Nat->Bool)
def Zdt (c:Cls):Option (Tms×Za×List Cls×Option AVal)->Option (Tms×Za×List Cls×Option AVal)
 | none=>none
 | some (tm,σ,cs,p)=>some (tm,σ,c::cs,p)
def Zgh (c:List Cls):Option (Tms×Za×List Cls×Option AVal)->Option (Tms×Za×List Cls×Option AVal)
 | none=>none
 | some (tm,σ,cs,p)=>some (tm,σ,c++cs,p)
def kC (d:Option Nat) (os:List AOp) (s:Nat) (tm:Tms):Option (AVal×Za×Cls)->Option (Tms×Za×List Cls×Option AVal)
 | none=>none
 | some (v,σ,c)=>if ZaP v then some (tput tm d v,σ,[c],some (ZaW v)) else Zdt c (ZZ O bf os s (tput tm d v) σ)
def ZeO (ops:List AOp) (L:Nat) (l:List (Nat×Nat)) (live:List Nat):Option (Tms×Za×List Cls×Option AVal)->Option (ZaQ×Tms×Za)
 | none=>none
 | some (_,σ,cs,some x)=>if Zdc ops L l cs then some (.panic x,[],σ) else none
 | some (tm,σ,cs,none)=>if Zdd ops L l cs then some (.normal,keepL live tm,σ) else none
variable {O bf}
theorem ZuS (s:Nat) (tm:Tms) (σ:Za):ZZ O bf [] s tm σ=some (tm,σ,[],none):=rfl
theorem ZMp (c:Cls) (tm:Tms) (σ:Za) (cs:List Cls) (p:Option AVal):Zdt c (some (tm,σ,cs,p))=some (tm,σ,c::cs,p):=rfl
theorem Zyi (c:Cls):Zdt c none=none:=rfl
theorem ZIl (c:Cls) (q:Prop) [Decidable q] (x y:Option (Tms×Za×List Cls×Option AVal)):Zdt c (if q then x else y)=if q then Zdt c x else Zdt c y:=by split <;> rfl
theorem ZyO (c:List Cls) (tm:Tms) (σ:Za) (cs:List Cls) (p:Option AVal):Zgh c (some (tm,σ,cs,p))=some (tm,σ,c++cs,p):=rfl
theorem ZMM (c:List Cls):Zgh c none=none:=rfl
theorem ZC2 (c:List Cls) (q:Prop) [Decidable q] (x y:Option (Tms×Za×List Cls×Option AVal)):Zgh c (if q then x else y)=if q then Zgh c x else Zgh c y:=by split <;> rfl
theorem ZjI {o:AOp} {os:List AOp} {s:Nat} {tm tm1:Tms} {σ σ1:Za} {v:AVal} {c:Cls} (h:ZH O bf o s tm σ=some (v,tm1,σ1,c)) (hn:ZaP v=false):ZZ O bf (o::os) s tm σ=Zdt c (ZZ O bf os (s+nsite o.ins) tm1 σ1):=by
 rw [Zs0 h hn]
 cases ZZ O bf os (s+nsite o.ins) tm1 σ1 <;> rfl
theorem Zqo (d:Option Nat) (i:Ins) (af:List Nat) (os:List AOp) (s:Nat) (tm:Tms) (σ:Za):ZZ O bf (⟨d,i,none,af⟩::os) s tm σ=kC O bf d os (s+nsite i) tm (exI O bf i s tm σ):=by
 cases h:exI O bf i s tm σ with
 | none=>exact ZiQ (by rw [Zmz,h];rfl)
 | some q =>
  obtain ⟨v,σ1,c⟩:=q
  have hs:ZH O bf ⟨d,i,none,af⟩ s tm σ=some (v,tput tm d v,σ1,c):=by rw [Zmz,h];rfl
  cases hp:ZaP v with
  | true =>
   obtain ⟨x,rfl⟩:=ZjB hp
   exact ZkE hs
  | false =>
   rw [ZjI hs hp]
   simp only [kC,hp,Xi,if_false]
theorem ZpJ (d:Option Nat) (os:List AOp) (s:Nat) (tm:Tms) (v:AVal) (σ:Za) (c:Cls) (h:ZaP v=false):kC O bf d os s tm (some (v,σ,c))=Zdt c (ZZ O bf os s (tput tm d v) σ):=by
 simp only [kC,h,Xi,if_false]
theorem ZE9 (d:Option Nat) (os:List AOp) (s:Nat) (tm:Tms) (x:AVal) (σ:Za) (c:Cls):kC O bf d os s tm (some (.pan x,σ,c))=some (tput tm d (.pan x),σ,[c],some x):=rfl
theorem ZxH (d:Option Nat) (os:List AOp) (s:Nat) (tm:Tms):kC O bf d os s tm none=none:=rfl
theorem ZBt (d:Option Nat) (os:List AOp) (s:Nat) (tm:Tms) (q:Prop) [Decidable q] (x y:Option (AVal×Za×Cls)):kC O bf d os s tm (if q then x else y)=if q then kC O bf d os s tm x else kC O bf d os s tm y:=by split <;> rfl
theorem ZKw (ops:List AOp) (l:List (Nat×Nat)) (live:List Nat) (tm:Tms) (σ:Za):ZbV O bf ops (some l) live tm σ=ZeO ops σ.length l live (ZZ O bf ops σ.length tm (σ++XC (sitesOf ops) .free)):=by
 unfold ZbV
 cases ZZ O bf ops σ.length tm (σ++XC (sitesOf ops) .free) with
 | none=>rfl
 | some q =>
  obtain ⟨tm',σ',cs,p⟩:=q
  cases p <;> rfl
theorem Zuy (ops:List AOp) (L:Nat) (l:List (Nat×Nat)) (live:List Nat) (tm:Tms) (σ:Za) (cs:List Cls) (h:Zdd ops L l cs=true):ZeO ops L l live (some (tm,σ,cs,none))=some (.normal,keepL live tm,σ):=by
 simp only [ZeO,h,if_true]
theorem ZhS (ops:List AOp) (L:Nat) (l:List (Nat×Nat)) (live:List Nat) (tm:Tms) (σ:Za) (cs:List Cls) (x:AVal) (h:Zdc ops L l cs=true):ZeO ops L l live (some (tm,σ,cs,some x))=some (.panic x,[],σ):=by
 simp only [ZeO,h,if_true]
theorem ZJ8 (ops:List AOp) (L:Nat) (l:List (Nat×Nat)) (live:List Nat):ZeO ops L l live none=none:=rfl
theorem ZO4 (ops:List AOp) (L:Nat) (l:List (Nat×Nat)) (live:List Nat) (q:Prop) [Decidable q] (x y:Option (Tms×Za×List Cls×Option AVal)):ZeO ops L l live (if q then x else y)=if q then ZeO ops L l live x else ZeO ops L l live y:=by split <;> rfl
theorem ZMa (ops:List AOp) (L:Nat) (l:List (Nat×Nat)) (cs:List Cls) (h:(cs.all fun c=>c.wr.isEmpty && !c.any)=true) (hs:(l.all fun p=>p.1 == p.2 || nsite (ops.getD p.1 default).ins == 0)=true):Zdd ops L l cs=true:=by
 have hd:∀ i,Zdq (cs.getD i {})=true:=by
  intro i
  rw [XF] at h
  rw [Xh]
  cases hi:cs[i]? with
  | none=>rfl
  | some c=>exact h c (XA hi)
 unfold Zdd
 rw [XF] at hs ⊢
 intro p hp
 have:=hs p hp
 rw [WE] at this ⊢
 rcases this with this | this
 ·exact Xr this
 ·refine Xy ?_
  unfold Zck
  simp only [hd,this,Bool.and_true,Bool.true_and,W9,XaO]
theorem ZA3 (ops:List AOp) (L:Nat) (l:List (Nat×Nat)) (live:List Nat) (tm:Tms) (σ:Za) (cs:List Cls) (h:(cs.all fun c=>c.wr.isEmpty && !c.any)=true) (hs:(l.all fun p=>p.1 == p.2 || nsite (ops.getD p.1 default).ins == 0)=true):ZeO ops L l live (some (tm,σ,cs,none))=some (.normal,keepL live tm,σ) :=
 Zuy _ _ _ _ _ _ _ (ZMa _ _ _ _ h hs)
variable (O bf) in
def gKC (os:List AOp) (s:Nat):Option (Tms×Za×List Cls×Option AVal)->Option (Tms×Za×List Cls×Option AVal)
 | none=>none
 | some (tm,σ,cs,some x)=>some (tm,σ,cs,some x)
 | some (tm,σ,cs,none)=>Zgh cs (ZZ O bf os s tm σ)
theorem Zxu (os:List AOp) (s:Nat) (tm:Tms) (σ:Za) (cs:List Cls):gKC O bf os s (some (tm,σ,cs,none))=Zgh cs (ZZ O bf os s tm σ):=rfl
theorem ZOl (os:List AOp) (s:Nat) (q:Prop) [Decidable q] (x y:Option (Tms×Za×List Cls×Option AVal)):gKC O bf os s (if q then x else y)=if q then gKC O bf os s x else gKC O bf os s y:=by split <;> rfl
theorem Zyx (os:List AOp) (s:Nat) (c:Cls) (r:Option (Tms×Za×List Cls×Option AVal)):gKC O bf os s (Zdt c r)=Zdt c (gKC O bf os s r):=by
 cases r with
 | none=>rfl
 | some q =>
  obtain ⟨tm,σ,cs,p⟩:=q
  cases p with
  | some x=>rfl
  | none =>
   simp only [Zdt,gKC]
   cases ZZ O bf os s tm σ <;> rfl
theorem Zv9:∀ (a b:List AOp) (s:Nat) (tm:Tms) (σ:Za),ZZ O bf (a++b) s tm σ=gKC O bf b (s+sitesOf a) (ZZ O bf a s tm σ)
 | [],b,s,tm,σ=>by
  simp only [XD,ZuS,gKC,sitesOf,XM,List.sum_nil,Wb]
  cases ZZ O bf b s tm σ <;> rfl
 | o::a,b,s,tm,σ=>by
  have ih:=Zv9 a b
  simp only [XY]
  have hs:s+nsite o.ins+sitesOf a=s+sitesOf (o::a):=by simp [sitesOf,WC]
  cases hst:ZH O bf o s tm σ with
  | none=>rw [ZiQ hst,ZiQ hst];rfl
  | some q =>
   obtain ⟨v,tm1,σ1,c⟩:=q
   cases hp:ZaP v with
   | true =>
    obtain ⟨x,rfl⟩:=ZjB hp
    rw [ZkE hst,ZkE hst];rfl
   | false=>rw [ZjI hst hp,ZjI hst hp,ih,hs,Zyx]
variable (O bf) in
def ZeL (j:Nat) (w:Bool) (g:List AOp) (s:Nat) (tm:Tms) (σ:Za):Option (Tms×Za×List Cls×Option AVal):=match Zbo (some (j,w)) tm with
 | none=>none
 | some false=>some (Zaz g tm,σ,g.map fun _=>{},none)
 | some true=>ZZ O bf (g.map unG) s tm σ
theorem ZrB (j:Nat) (w:Bool):∀ (g:List AOp),(∀ o ∈ g,o.guard=some (j,w)/\o.dst≠some j)->∀ (s:Nat) (tm:Tms) (σ:Za),g≠[]->ZZ O bf g s tm σ=ZeL O bf j w g s tm σ
 | [],_,_,_,_,h=>absurd rfl h
 | o::g,hall,s,tm,σ,_=>by
  obtain ⟨hg,hd⟩:=hall o (by simp)
  have ih:∀ (tm:Tms) (σ:Za) (s:Nat),Zbo (some (j,w)) tm≠none->ZZ O bf g s tm σ=ZeL O bf j w g s tm σ:=by
   intro tm σ s hw
   by_cases he:g=[]
   ·subst he
    unfold ZeL
    cases hx:Zbo (some (j,w)) tm with
    | none=>exact absurd hx hw
    | some b=>cases b <;> rfl
   ·exact ZrB j w g (fun o ho=>hall o (by simp [ho])) s tm σ he
  cases hx:Zbo (some (j,w)) tm with
  | none =>
   rw [ZiQ (by simp only [ZH,hg,hx])]
   simp only [ZeL,hx]
  | some b =>
   cases b with
   | false =>
    have h1:ZZ O bf (o::g) s tm σ=Zdt {} (ZZ O bf g (s+nsite o.ins) (tput tm o.dst (.tup [])) σ) :=
     ZjI (v:=.tup []) (c:={}) (by simp only [ZH,hg,hx]) rfl
    rw [h1,ih _ _ _ (by rw [Zfw hd,hx];simp)]
    unfold ZeL
    rw [Zfw hd,hx]
    rfl
   | true =>
    have key:∀ r:Option (AVal×Za×Cls),(∀ v σ' c,r=some (v,σ',c)->ZaP v=false->ZZ O bf g (s+nsite o.ins) (tput tm o.dst v) σ'=ZZ O bf (g.map unG) (s+nsite o.ins) (tput tm o.dst v) σ')->kC O bf o.dst g (s+nsite o.ins) tm r=kC O bf o.dst (g.map unG) (s+nsite o.ins) tm r:=by
     intro r hr
     cases r with
     | none=>rfl
     | some q =>
      obtain ⟨v,σ',c⟩:=q
      cases hp:ZaP v with
      | true=>simp only [kC,hp,if_true]
      | false=>rw [ZpJ _ _ _ _ _ _ _ hp,ZpJ _ _ _ _ _ _ _ hp,hr v σ' c rfl hp]
    have h1:ZZ O bf (o::g) s tm σ=kC O bf o.dst g (s+nsite o.ins) tm (exI O bf o.ins s tm σ):=by
     have h0:ZZ O bf (o::g) s tm σ=ZZ O bf (⟨o.dst,o.ins,none,o.after⟩::g) s tm σ:=by
      have hst:ZH O bf o s tm σ=ZH O bf ⟨o.dst,o.ins,none,o.after⟩ s tm σ:=by
       unfold ZH
       simp only [hg,hx]
       rfl
      simp only [ZZ,hst]
     rw [h0,Zqo]
    rw [h1]
    unfold ZeL
    rw [hx]
    simp only [Xt]
    rw [show unG o=⟨o.dst,o.ins,none,o.after⟩ from rfl,Zqo]
    refine key _ fun v σ' c _ _=>?_
    rw [ih _ _ _ (by rw [Zfw hd,hx];simp)]
    unfold ZeL
    rw [Zfw hd,hx]
theorem ZAR (d:Option Nat) (i:Ins) (j:Nat) (w:Bool) (af:List Nat) (os:List AOp) (s:Nat) (tm:Tms) (σ:Za) (hd:decide (d=some j)=false) :
  ZZ O bf (⟨d,i,some (j,w),af⟩::os) s tm σ=gKC O bf (ZE j w os).2 (s+sitesOf (⟨d,i,some (j,w),af⟩::(ZE j w os).1)) (ZeL O bf j w (⟨d,i,some (j,w),af⟩::(ZE j w os).1) s tm σ):=by
 have h:=ZpR j w os
 have hall:∀ o ∈ (⟨d,i,some (j,w),af⟩::(ZE j w os).1:List AOp),o.guard=some (j,w)/\o.dst≠some j:=by
  intro o ho
  rcases XS.1 ho with rfl | ho
  ·exact ⟨rfl,by simpa using hd⟩
  ·exact ZoG j w os o ho
 rw [<-ZrB j w _ hall s tm σ (by simp),<-Zv9,XY,h]
variable (O bf) in
def gWC (w:Bool) (g:List AOp) (s:Nat) (tm:Tms) (σ:Za):AVal->Option (Tms×Za×List Cls×Option AVal)
 | .bool b=>if b=w then ZZ O bf (g.map unG) s tm σ else some (Zaz g tm,σ,g.map fun _=>{},none)
 | .tup []=>some (Zaz g tm,σ,g.map fun _=>{},none)
 | _=>none
theorem ZDP (j:Nat) (w:Bool) (g:List AOp) (s:Nat) (tm:Tms) (σ:Za):ZeL O bf j w g s tm σ=gWC O bf w g s tm σ (tget tm j):=by
 unfold ZeL Zbo
 simp only
 generalize tget tm j=v
 cases v
 case bool b=>cases b <;> cases w <;> rfl
 case tup vs=>cases vs <;> rfl
 all_goals rfl
theorem ZF3 (w:Bool) (g:List AOp) (s:Nat) (tm:Tms) (σ:Za) (b:Bool):gWC O bf w g s tm σ (.bool b)=if b=w then ZZ O bf (g.map unG) s tm σ else some (Zaz g tm,σ,g.map fun _=>{},none):=rfl
theorem ZAO (w:Bool) (g:List AOp) (s:Nat) (tm:Tms) (σ:Za):gWC O bf w g s tm σ (.tup [])=some (Zaz g tm,σ,g.map fun _=>{},none):=rfl
theorem ZwI (q:Prop) [Decidable q] (t1 t2:Tms) (σ1 σ2:Za) (cs:List Cls):(if q then some (t1,σ1,cs,(none:Option AVal)) else some (t2,σ2,cs,none))=some ((if q then t1 else t2),(if q then σ1 else σ2),cs,none):=by split <;> rfl
end
section
theorem ZkO {r:AVal} {cs:List AVal} {σ:Za} (hr:ZM r=true) (hc:Zd cs=true):gcA 1 [r] (.var cs::σ)=([r],[.var cs]):=by
 have e1:=(Za7 (Zk (.var cs::σ) 1 [0]) r hr)
 have e2:=(ZaX (Zk (.var cs::σ) 1 [0]) cs hc)
 have h1:Zy 1 [r] (.var cs::σ)=[0]:=by
  have : Zp [r]=[]:=by simp only [Zp,e1.2,Xp]
  simp only [Zy,this,List.range_one,List.flatMap_cons,XZ,Xp,Xu,ZG,e2.2]
  rfl
 simp only [gcA,h1,Zg,e1.1,Zr,Xu,ZB,e2.1]
theorem ZY {r:AVal} {cs:List AVal} {σ:Za} (hr:ZM r=true) (hc:Zd cs=true):Z8 1 (.var cs::σ) r=some (r,[.var cs]):=by
 simp only [Z8,ZkO hr hc]
theorem Zfe {σ:Za} {t:Nat} {cs:List AVal} (hs:σ[t]?=some (.var cs)) (hc:Zd cs=true):Zu σ 1000 [t] []=[t]:=by
 have hd:σ.getD t .free=.var cs:=by simp [Xh,hs]
 have e2:=(ZaX (fun _ _=>none) cs hc).2
 show Zu σ (999+1) [t] []=[t]
 simp only [Zu,List.contains_nil,Xi,if_false,hd,ZG,e2,XD]
end
end
section
section
variable (c:Prop) [Decidable c]
theorem ZHJ (t1 t2:Tms) (σ1 σ2:Za):(if c then some (ZaQ.normal,t1,σ1) else some (ZaQ.normal,t2,σ2))=some (ZaQ.normal,(if c then t1 else t2),(if c then σ1 else σ2)):=by split <;> rfl
theorem Zw1 (t1 t2:Tms) (σ1 σ2:Za):(if c then some (ZaQ.ret,t1,σ1) else some (ZaQ.ret,t2,σ2))=some (ZaQ.ret,(if c then t1 else t2),(if c then σ1 else σ2)):=by split <;> rfl
theorem ZxV (t1 t2:Tms) (σ1 σ2:Za):(if c then some (t1,σ1,(none:Option AVal)) else some (t2,σ2,none))=some ((if c then t1 else t2),(if c then σ1 else σ2),none):=by split <;> rfl
theorem ZNP (n:Nat) (a b:AVal):(if c then (n,a) else (n,b))=(n,if c then a else b):=by split <;> rfl
theorem ZLj (a b:AVal) (σ1 σ2:Za):(if c then some (a,σ1) else some (b,σ2))=some ((if c then a else b),(if c then σ1 else σ2)):=by split <;> rfl
theorem ZIg (a b:AVal) (σ1 σ2:Za) (x y:Cls):(if c then some (a,σ1,x) else some (b,σ2,y))=some ((if c then a else b),(if c then σ1 else σ2),if c then x else y):=by split <;> rfl
end
theorem ZDH {α:Type} (p:Bool) (x y z:α):(if p=true then x else (if p=false then y else z))=if p=true then x else y:=by cases p <;> rfl
theorem ZFD (ops:List AOp) (b:Nat) (cs:List Cls):Zdd ops b [] cs=true:=rfl
theorem Zys (ops:List AOp) (b:Nat) (p:Nat×Nat) (l:List (Nat×Nat)) (cs:List Cls):Zdd ops b (p::l) cs=((p.1 == p.2 || Zck (ops.getD p.1 default) (ops.getD p.2 default) (cs.getD p.1 {}) (cs.getD p.2 {}) (b+sitesOf (ops.take p.1))) && Zdd ops b l cs):=by
 simp only [Zdd,XP]
theorem ZAb (oj oi:AOp) (cj ci:Cls) (sj:Nat):Zck oj oi cj ci sj=(Zb7 oj cj || Zb7 oi ci || (Zdq cj && Zdq ci && (nsite oj.ins == 0 || !ci.rd.contains sj)) || ((Z0 oj.ins || (Z7 oj.ins && !cj.any)) && (Zdq ci && ci.rd.isEmpty)) || (Z4 oj.ins && Z0 oi.ins && ci.any && Z6 cj ci) || (Z4 oj.ins && (Z7 oi.ins || (Zak oi.ins && Zar cj ci)) && Z6 cj ci) || (Zaj oj.ins && Zah oi.ins) || (Z0 oj.ins && Z4 oi.ins && cj.any && Zal cj ci sj)):=rfl
theorem ZyM (o:AOp) (rd wr:List Nat) (any:Bool) (got:List (Nat×Option Nat×Nat×AVal)) (upd:List (Nat×List AVal)):Zb7 o ⟨rd,wr,any,got,upd⟩=(nsite o.ins == 0 && rd.isEmpty && wr.isEmpty && !any):=rfl
theorem ZKV (rd wr:List Nat) (any:Bool) (got:List (Nat×Option Nat×Nat×AVal)) (upd:List (Nat×List AVal)):Zdq ⟨rd,wr,any,got,upd⟩=(wr.isEmpty && !any):=rfl
theorem Zab {α:Type} {l:List α} {i:Nat} {x:α} {r:List α} (h:l.drop i=x::r):l[i]?=some x/\l.drop (i+1)=r/\i < l.length:=by
 have h1:i < l.length:=by
  rcases Wx i l.length with h1 | h1
  ·exact h1
  ·rw [List.drop_eq_nil_of_le h1] at h;cases h
 rw [List.drop_eq_getElem_cons h1] at h
 injection h with h2 h3
 exact ⟨by rw [X1 h1,h2],h3,h1⟩
theorem Zcw {α:Type} {l:List α} {i:Nat} (h:l.drop i=[]):¬(i:Int) < l.length:=by
 have:=Wc.1 h;omega
theorem iad {α:Type} {l:List α} {i:Nat} {x:α} (h:l[i]?=some x) (f:α->AVal) {k:Nat} (hk:(f x).cells.length=k) (σ:Za) (n:Bool) (kk:IntKind):Zca σ k (.lst n (l.map f)) (.int kk (i:Int))=some (.iptr (f x).cells 0,σ,{}):=by
 have h0:(0:Int)<=(i:Int):=Int.natCast_nonneg i
 unfold Zca
 simp only [h0,if_true,Xay,WM,h,X8,hk]
theorem ZbO {n:Int} (h0:-9223372036854775808<=n) (h:n<=9223372036854775807):IntKind.i64.wrap n=n:=by
 rw [IntKind.wrap_i64];omega
theorem Zmo {α β:Type} {a:List α} {b:List β} (h:a.length=b.length):((a.length:Int) != (b.length:Int))=false:=by simp [h]
theorem Zmv {α β:Type} {a:List α} {b:List β} (h:a.length≠b.length):((a.length:Int) != (b.length:Int))=true:=by
 simp only [bne_iff_ne,ne_eq];omega
theorem ZlP {α:Type} [BEq α] [LawfulBEq α] {a b:List α} (h:a.length≠b.length):(a == b)=false:=by
 simp only [beq_eq_false_iff_ne,ne_eq];rintro rfl;exact h rfl
theorem Zcn {i n:Nat} (h:(i:Int) < n) (hn:n<=9223372036854775807):IntKind.i64.wrap ((i:Int)+1)=((i+1:Nat):Int):=by
 rw [ZbO (by omega) (by omega)];rfl
theorem ZcU {O:ZN} {bf:Nat->Bool} {f:Nat} {args:List AVal} {r:AVal} (h:O f args []=some (r,[])) (hb:bf f=false) (hp:args.all Zai=true) (hn:args.map ZL=args) (hv:ZbB 0 (some (r,[]))=some (r,[])) (hr:∀ sq,Zm (ZaA [] [] sq) r=r) (σ:Za) (sq own:Nat) (view:Bool):Zi O bf σ sq f own view args=some (r,σ,{}):=by
 rw [ZgJ hb hp,hn,h]
 have : Z5 view 0 (some (r,[]))=some (r,[]):=by
  unfold Z5
  split
  ·exact hv
  ·rfl
 rw [this,ZiV _ _ _ _ (hr sq)]
theorem Zmm {α:Type} (σ:Za) (k:Nat) (l:List α) (f:α->AVal) (kk:IntKind) (n:Int) (h0:0<=n) (h:n<=(l.length:Int)):Zbv σ k (.lst false (l.map f)) none (some (.int kk n)) none=some (.lst false ((l.take n.toNat).map f),σ,{}):=by
 simp only [Zbv,Za8,ZcT,XT,h0,h,and_self,if_true,beq_self_eq_true,W9,Xae,Xi,if_false,WN,Xaz,XaT]
abbrev Zb:=List UInt8
def ZV (b:Zb):AVal:=.lst false (b.map Zc)
structure Zv where
 id:Int
 num:Int
 text:Zb
 pair:Zb
 data:Zb
 deriving DecidableEq
def ZbN (p:Zv):List AVal:=[.int .i64 p.id,.int .i64 p.num,.str p.text,.str p.pair,ZV p.data]
def Zq (p:Zv):AVal:=.agg (ZbN p)
def Zbc (l:List Zv):AVal:=.lst false (l.map Zq)
theorem ZCY (l:Zb):bytesOf (l.map Zc)=some l:=by
 induction l with
 | nil=>rfl
 | cons b l ih =>
  simp only [Xt,bytesOf,ih,Zc,Zoy,Xay,UInt8.ofNat_toNat]
end
section
def beB:Nat->Nat->Zb
 | _,0=>[]
 | n,w+1=>beB (n / 256) w++[Wm (n % 256)]
theorem Zbh:∀ (w n:Nat),(beB n w).length=w
 | 0,_=>rfl
 | w+1,n=>by simp [beB,Zbh w]
def Zjh (x:Nat) (b:Zb):Nat:=b.foldl (fun x c=>(x*256+c.toNat) % 18446744073709551616) x
def ZcK (b:Zb):Nat:=Zjh 0 b
theorem Zc7 (x:Nat) (c:UInt8) (b:Zb):Zjh x (c::b)=Zjh ((x*256+c.toNat) % 18446744073709551616) b:=rfl
theorem ZeU (x:Nat):Zjh x []=x:=rfl
def ZcF:Nat->Nat->Zb
 | 0,n=>[Wm n]
 | k+1,n=>if n < 128 then [Wm n] else Wm (n % 128+128)::ZcF k (n / 128)
def ZaI (n:Int):Zb×Int:=if n < 0\/n > 268435455 then ([],10) else (ZcF 3 n.toNat,0)
def gvA (i n:Nat):Zb->Nat×Nat×Int
 | []=>if i < 4 then (0,0,11) else (0,0,12)
 | c::r=>if i=4 then (0,0,12) else if c.toNat < 128 then (if c=0/\0 < i then (0,0,12) else (n+c.toNat % 128*128 ^ i,i+1,0)) else gvA (i+1) (n+c.toNat % 128*128 ^ i) r
def Zag (b:Zb):Nat×Nat×Int:=gvA 0 0 b
def ZbD (b:Zb):Zb×Int:=if b.length > 65535 then ([],10) else (beB b.length 2++b,0)
def ZaJ (b:Zb):Zb×Nat×Int :=
 if b.length < 2\/b.length - 2 < ZcK (b.take 2) then ([],0,11) else ((b.drop 2).take (ZcK (b.take 2)),2+ZcK (b.take 2),0)
end
section
def Zth:=(aI (aI (aI (aI (aI (aI @ZAK @ZyN) (aI @ZOA @ZJT)) (aI (aI @ZIU @ZMr) (aI @Zzk @Zzm))) (aI (aI (aI @Zst @Zom) (aI @ZDr @ZpZ)) (aI (aI @ZAQ @Zxs) (aI @ZMU @ZIM)))) (aI (aI (aI (aI @ZKp @ZNS) (aI @ZJc @ZFs)) (aI (aI @ZyE @ZBA) (aI @ZwY @ZBD))) (aI (aI (aI @ZAa @ZxC) (aI @ZBa @Zwz)) (aI (aI @ZFc @ZCY) (aI @ZHJ @Zw1))))) (aI (aI (aI (aI (aI @ZxV @ZNP) (aI @ZLj @ZIg)) (aI (aI @ZIs @ZyJ) (aI @ZEq @ZNH))) (aI (aI (aI @ZJd @ZCB) (aI @ZzI @ZKw)) (aI (aI @ZuS @Zqo) (aI @ZAR @ZMp)))) (aI (aI (aI (aI @Zyi @ZIl) (aI @ZyO @ZMM)) (aI (aI @ZC2 @ZpJ) (aI @ZE9 @ZxH))) (aI (aI (aI @ZBt @ZA3) (aI @ZJ8 @ZO4)) (aI (aI @Zxu @ZOl) (aI @ZDP @ZF3))))))
def ZyH:=(aI (aI (aI (aI (aI (aI @ZAO @ZwI) (aI @Zwn @ZKe)) (aI (aI @ZOV @ZDz) (aI @ZFD @Zys))) (aI (aI (aI @ZAb @ZyM) (aI @ZKV @Zuy)) (aI (aI @ZN7 @ZAI) (aI @ZIb @ZCd)))) (aI (aI (aI (aI @ZKY @ZNt) (aI @ZNU @ZH5)) (aI (aI @ZuB @ZM8) (aI @Zyw @ZKl))) (aI (aI (aI @ZGO @ZJR) (aI @ZHh @ZLk)) (aI (aI @ZIq @ZBl) (aI @ZHf @ZBJ))))) (aI (aI (aI (aI (aI @ZzB @ZOP) (aI @ZKm @ZEN)) (aI (aI @ZET @ZA5) (aI @ZEL @ZFK))) (aI (aI (aI @ZEb @ZJz) (aI @ZBF @Zxk)) (aI (aI @ZAF @Zxe) (aI @ZEf @ZwM)))) (aI (aI (aI (aI @ZAe @ZFt) (aI @ZJ7 @Zzt)) (aI (aI @ZFg @ZGM) (aI @ZwL @ZOi))) (aI (aI (aI @ZzP @ZGe) (aI @ZEW @ZMw)) (aI (aI @Zyk @ZEp) (aI @ZD6 @ZzA))))))
def Za6:=(aI (aI (aI (aI (aI (aI @ZIS @ZHc) (aI @ZAM @Zxy)) (aI (aI @ZAX @ZzT) (aI @ZEC @ZGU))) (aI (aI (aI @ZxP @ZGg) (aI @Zww @ZBs)) (aI (aI @ZMi @ZK5) (aI @Zxd @ZEP)))) (aI (aI (aI (aI @ZFE @ZJE) (aI @ZHG @ZI6)) (aI (aI @ZAL @ZAj) (aI @ZHB @ZN2))) (aI (aI (aI @ZHl @ZDK) (aI @ZEw @ZCo)) (aI (aI @ZIE @ZFk) (aI @ZGa @ZMO))))) (aI (aI (aI (aI (aI @ZIZ @ZzV) (aI @ZIL @ZED)) (aI (aI @ZxQ @Zyt) (aI @ZLU @ZOd))) (aI (aI (aI @ZDM @ZxO) (aI @ZNX @ZA4)) (aI (aI @ZwN @ZMe) (aI @ZAN @ZxK)))) (aI (aI (aI (aI @ZMV @ZOT) (aI @ZEI @ZJZ)) (aI (aI @ZwT @ZOF) (aI @Zxo @ZIJ))) (aI (aI (aI @ZHT @ZKE) (aI @ZyL @ZNc)) (aI (aI @ZL6 @ZJX) (aI @ZFo @ZK3))))))
def Zdi:=(aI (aI (aI (aI (aI (aI @ZB9 @ZK0) (aI @ZKs @ZOO)) (aI (aI @ZGs @ZFF) (aI @ZBC @ZJt))) (aI (aI (aI @ZNQ @ZCa) (aI @ZAk @Zse)) (aI (aI @ZHe @Zvu) (aI @ZNG @ZMA)))) (aI (aI (aI (aI @ZAv @ZBI) (aI @ZtB @Zxn)) (aI (aI @ZFz @ZN3) (aI @ZGJ @ZI0))) (aI (aI (aI @ZMI @Zyp) (aI @Zyf @ZHP)) (aI (aI @Zw4 @ZH3) (aI @ZDF @ZHr))))) (aI (aI (aI (aI (aI @ZH6 @ZO1) (aI @ZFM @ZDo)) (aI (aI @ZE3 @ZK1) (aI @Ztf @ZDG))) (aI (aI (aI @ZNu @ZOm) (aI @ZyT @ZAG)) (aI (aI @ZGn @Zxg) (aI @Zxq @Zu7)))) (aI (aI (aI (aI @Zyh @Zrv) (aI @ZMc @ZBN)) (aI (aI @ZOp @ZHy) (aI @ZsY @ZOk))) (aI (aI (aI @ZJN @ZEQ) (aI @ZDN @ZHu)) (aI (aI @ZxT @ZHS) (aI @ZIK @ZyC))))))
def ZI:=(aI (aI (aI (aI (aI (aI @ZGS @ZNo) (aI @ZCi @ZMl)) (aI (aI @ZN1 @ZHR) (aI @ZKP @ZNy))) (aI (aI (aI @ZyV @ZwK) (aI @Zxj @ZtQ)) (aI (aI @ZFP @ZBL) (aI @ZKU @ZJU)))) (aI (aI (aI (aI @ZzW @ZFL) (aI @ZOR @ZEm)) (aI (aI @ZE4 @ZDL) (aI @ZC6 @ZyG))) (aI (aI (aI @ZEY @ZCO) (aI @ZE1 @Zz3)) (aI (aI @ZFl @ZIr) (aI @ZBM @ZB1))))) (aI (aI (aI (aI (aI @ZyK @ZNZ) (aI @ZCF @ZHD)) (aI (aI @ZMs @ZBb) (aI @ZzE @ZDV))) (aI (aI (aI @ZIG @ZBn) (aI @ZG5 @ZC3)) (aI (aI @ZCA @ZKd) (aI @ZIB @ZBi)))) (aI (aI (aI (aI @ZIW @ZLb) (aI @ZII @ZAJ)) (aI (aI @ZLC @ZCq) (aI @ZxF @ZJp))) (aI (aI (aI @ZAY @ZEU) (aI @ZAc @ZJV)) (aI (aI @Zws @ZOw) (aI @ZCJ @Zw3))))))
def Zs3:=(aI (aI (aI (aI (aI (aI @ZzG @ZM5) (aI @ZL9 @ZJs)) (aI (aI @ZyR @ZFj) (aI @ZxJ @ZwX))) (aI (aI (aI @ZM2 @ZEZ) (aI @ZOg @ZLL)) (aI (aI @ZDw @ZxI) (aI @ZO8 @ZKk)))) (aI (aI (aI (aI @ZId @ZG2) (aI @ZI4 @ZOE)) (aI (aI @ZLV @ZJA) (aI @ZMm @Zyv))) (aI (aI (aI @ZGj @ZAD) (aI @ZF6 @ZKN)) (aI (aI @ZFX @ZLD) (aI @ZwV @ZGl))))) (aI (aI (aI (aI (aI @ZNJ @ZKH) (aI @ZDj @ZNm)) (aI (aI @ZIV @ZLY) (aI @ZMW @ZJH))) (aI (aI (aI @ZHF @ZKj) (aI @ZDx @ZMC)) (aI (aI @ZDJ @ZwF) (aI @ZLe @ZJq)))) (aI (aI (aI (aI @ZOs @ZL3) (aI @ZDv @Zy8)) (aI (aI @ZA0 @ZNd) (aI @ZLd @ZDO))) (aI (aI (aI @ZFV @ZwP) (aI @ZxA @Zy6)) (aI (aI @ZMu @ZEj) (aI @ZMD @ZCj))))))
def Zs:=(aI (aI (aI (aI (aI (aI @ZBj @ZOy) (aI @ZGW @Zy5)) (aI (aI @ZNB @ZCr) (aI @ZLE @ZHE))) (aI (aI (aI @ZGZ @ZDY) (aI @ZJb @ZLW)) (aI (aI @ZEs @ZwH) (aI @ZwO @ZDD)))) (aI (aI (aI (aI @ZHx @ZHp) (aI @ZHo @ZIf)) (aI (aI @Zyb @ZHL) (aI @ZL4 @ZOz))) (aI (aI (aI @ZA1 @ZFp) (aI @ZOL @ZND)) (aI (aI @ZLn @ZAW) (aI @ZyP @ZC9))))) (aI (aI (aI (aI (aI @ZME @ZAn) (aI @ZLX @ZC5)) (aI (aI @ZDg @ZD8) (aI @ZAP @ZKW))) (aI (aI (aI @ZLt @ZCb) (aI @ZIO @ZCP)) (aI (aI @ZJ0 @ZFr) (aI @Zxc @Zw2)))) (aI (aI (aI (aI @ZIH @ZNE) (aI @ZAf @ZHk)) (aI (aI @ZKb @Zxx) (aI @ZAx @ZOh))) (aI (aI (aI @ZJF @Zyu) (aI @ZGb @ZMP)) (aI (aI @ZD3 @ZEi) (aI @ZCl @ZJ2))))))
def ZT:=(aI (aI (aI (aI (aI @Zwo (aI @ZCe @ZHQ)) (aI (aI @ZMx @ZDs) (aI @ZMd @ZyF))) (aI (aI @Zw6 (aI @ZLu @ZFS)) (aI (aI @ZwR @ZDT) (aI @ZKo @ZGR)))) (aI (aI (aI @ZHU (aI @ZF1 @ZA7)) (aI (aI @ZEV @ZCL) (aI @ZMz @ZKt))) (aI (aI (aI @ZyD @ZN8) (aI @ZGD @ZEo)) (aI (aI @ZHi @ZJP) (aI @ZBk @ZPh))))) (aI (aI (aI (aI @ZJn (aI @ZER @ZxY)) (aI (aI @ZEu @ZKz) (aI @ZOb @ZKa))) (aI (aI (aI @ZNz @ZE6) (aI @Zy1 @ZAw)) (aI (aI @Zx0 @ZKT) (aI @ZKf @ZO5)))) (aI (aI (aI @ZwU (aI @ZzJ @ZDb)) (aI (aI @ZPc @ZCk) (aI @Zz4 @Zz0))) (aI (aI (aI @ZGm @ZOa) (aI @ZCf @ZLK)) (aI (aI @ZOe @ZY) (aI @ZCT @ZrQ))))))
def ZbE:=(aI (aI (aI (aI (aI (aI @List.map_cons.{0,0} @List.map_nil.{0,0}) (aI @List.length_cons.{0} @List.length_nil.{0})) (aI (aI @List.replicate_zero.{0} @List.replicate_succ.{0}) (aI @List.append_nil.{0} @List.nil_append.{0}))) (aI (aI (aI @List.cons_append.{0} @List.getElem?_cons_zero.{0}) (aI @List.getElem?_cons_succ.{0} @List.set_cons_zero.{0})) (aI (aI @List.set_cons_succ.{0} @Nat.add_zero) (aI @Nat.zero_add @Bool.true_or)))) (aI (aI (aI (aI @Bool.false_or @Bool.or_true) (aI @Bool.or_false @Bool.and_true)) (aI (aI @Bool.true_and @Bool.and_self) (aI @Bool.and_false @Bool.false_and))) (aI (aI (aI @if_true.{1} @if_false.{1}) (aI @ite_true.{1} @ite_false.{1})) (aI (aI @Option.map_some.{0,0} @Option.map_none.{0,0}) (aI @and_self @and_true))))) (aI (aI (aI (aI (aI @true_and @and_false) (aI @false_and @true_or)) (aI (aI @or_true @false_or) (aI @or_false @not_true_eq_false))) (aI (aI (aI @not_false_eq_true @List.drop_zero.{0}) (aI @List.drop_succ_cons.{0} @List.take_succ_cons.{0})) (aI (aI @List.take_zero.{0} @List.all_cons.{0}) (aI @List.all_nil.{0} @List.isEmpty_nil.{0})))) (aI (aI (aI (aI @Bool.not_false @Bool.not_true) (aI @List.length_map.{0,0} @Bool.bne_false)) (aI (aI @Bool.bne_true @List.isEmpty_cons.{0}) (aI @List.getD_cons_zero.{0} @List.getD_cons_succ.{0}))) (aI (aI (aI @List.getD_nil.{0} @List.contains_nil.{0}) (aI @List.range_zero @List.flatMap_cons.{0,0})) (aI (aI @List.flatMap_nil.{0,0} @List.zip_cons_cons.{0,0}) (aI @List.zip_nil_left.{0,0} @List.zip_nil_right.{0,0}))))))
def Zbk:=@Nat.not_lt_zero
def EQA := (aI (aI (aI (aI (aI (aI (aI Zth ZyH) (aI Zs3 ZbE)) (aI (aI @exI.eq_1 @nsite.eq_1) (aI @nsite.eq_2 @nsite.eq_3))) (aI (aI (aI @nsite.eq_4 @nsite.eq_5) (aI @nsite.eq_6 @nsite.eq_7)) (aI (aI @nsite.eq_8 @nsite.eq_9) (aI @nsite.eq_10 @nsite.eq_11)))) (aI (aI (aI (aI @freeAt.eq_1 @execI.eq_1) (aI @execI.eq_2 @execI.eq_3)) (aI (aI @execI.eq_4 @execI.eq_5) (aI @execI.eq_6 @execI.eq_7))) (aI (aI (aI @execI.eq_8 @execI.eq_9) (aI @execI.eq_10 @execI.eq_11)) (aI (aI @execI.eq_12 @execI.eq_13) (aI @execI.eq_14 (aI @execI.eq_15 @execI.eq_16)))))) (aI (aI (aI (aI (aI @execI.eq_17 @execI.eq_18) (aI @execI.eq_19 @execI.eq_20)) (aI (aI @execI.eq_21 @execI.eq_22) (aI @execI.eq_23 @execI.eq_24))) (aI (aI (aI @execI.eq_25 @execI.eq_26) (aI @execI.eq_27 @execI.eq_28)) (aI (aI @execI.eq_29 @execI.eq_30) (aI @execI.eq_31 (aI @execI.eq_32 @execI.eq_33))))) (aI (aI (aI (aI @execI.eq_34 @execI.eq_35) (aI @execI.eq_36 @execI.eq_37)) (aI (aI @execI.eq_38 @execI.eq_39) (aI @execI.eq_40 @execI.eq_41))) (aI (aI (aI @execI.eq_42 @execI.eq_43) (aI @execI.eq_44 @execI.eq_45)) (aI (aI @execI.eq_46 @execI.eq_47) (aI @execI.eq_48 (aI @execI.eq_49 @Opd.ev.eq_1))))))) (aI (aI (aI (aI (aI (aI @Opd.ev.eq_2 @tget.eq_1) (aI @tget.eq_2 @tins.eq_1)) (aI (aI @tins.eq_2 @tput.eq_1) (aI @tput.eq_2 @keepL.eq_1))) (aI (aI (aI @sitesOf.eq_1 @resA.eq_1) (aI @resAll.eq_1 @resAll.eq_2)) (aI (aI @resOne.eq_1 @resOne.eq_2) (aI @enterA.eq_1 (aI @enterA.eq_2 @partA.eq_1))))) (aI (aI (aI (aI @partA.eq_2 @faddrA.eq_1) (aI @faddrA.eq_2 @faddrA.eq_3)) (aI (aI @faddrA.eq_4 @setAt.eq_1) (aI @binA.eq_1 @binA.eq_2))) (aI (aI (aI @binA.eq_3 @binA.eq_4) (aI @binA.eq_5 @arithA.eq_1)) (aI (aI @arithA.eq_2 @arithA.eq_3) (aI @arithA.eq_4 (aI @arithA.eq_5 @arithA.eq_6)))))) (aI (aI (aI (aI (aI @arithA.eq_7 @arithA.eq_8) (aI @arithA.eq_9 @arithA.eq_10)) (aI (aI @arithA.eq_11 @arithA.eq_12) (aI @arithA.eq_13 @arithA.eq_14))) (aI (aI (aI @arithA.eq_15 @arithA.eq_16) (aI @ldA.eq_1 @ldA.eq_2)) (aI (aI @ldA.eq_3 @ldA.eq_4) (aI @stA.eq_1 (aI @stA.eq_2 @stA.eq_3))))) (aI (aI (aI (aI @oI.eq_1 @oN.eq_1) (aI @oM.eq_1 @oF.eq_1)) (aI (aI @oL.eq_1 @List.sum_cons.{0}) (aI @List.sum_nil.{0} @eq_self.{1}))) (aI (aI (aI @beq_self_eq_true.{0} @Bool.false_eq_true) (aI @Option.some.injEq.{0} @decide_true)) (aI (aI @decide_false @List.foldl_cons.{0, 0}) (aI @List.foldl_nil.{0, 0} (aI @List.contains_cons.{0} @ne_eq.{1}))))))))
end
section
theorem ZDE {O:ZN} {bf:Nat->Bool} {σ:Za} {sq f own:Nat} {view:Bool} {args:List AVal} (h:args.all Zai=true) (hm:args.map ZL=args) :
  Zi O bf σ sq f own view args=Zaw σ σ [] [] sq own (Z5 view 0 (O f args [])):=by
 cases hb:bf f
 ·rw [ZgJ hb h,hm]
 ·have hr:=Zc2 h
  have hn:=fun ρ=>ZcN (ρ:=ρ) h
  rw [hm] at hr
  simp only [hm] at hn
  unfold Zi Zbx
  rw [hb]
  simp only [if_true]
  have h1:Zn σ []=σ:=rfl
  rw [h1,hr]
  have h2:Zu σ 1000 [] []=[]:=rfl
  rw [h2]
  unfold Zbl
  simp only [Wj,if_true,hn,Zr,XG]
theorem Zq4 {O:ZN} {bf:Nat->Bool} {f:Nat} {args:List AVal} {k n:Nat} {xs:List AVal} (h:O f args []=some (.sl 0 0 0 n,[.row 0 k xs])) (hn:xs.length=n) (hp:args.all Zai=true) (hm:args.map ZL=args) (σ:Za) (sq own:Nat):Zi O bf σ sq f own true args=some (.lst false xs,σ,{}):=by
 rw [ZDE hp hm,h]
 have : Z5 true 0 (some (.sl 0 0 0 n,[.row 0 k xs]))=some (.lst false xs,[]):=by
  unfold Z5
  rw [if_pos rfl,Zvr (k:=k) (g:=0) (t:=0) (xs:=xs) rfl (by omega),XN (by omega)]
 rw [this,ZiV _ _ _ _ rfl]
theorem ZuP {O:ZN} {bf:Nat->Bool} {σ:Za} {f:Nat} {args vs:List AVal} {ts:List Nat} {r r':AVal} (hb:bf f=false) (hsh:showAs σ args=some (vs,ts)) (hp:vs.all Zai=true) (hm:vs.map ZL=vs) (h:O f vs []=some (r,[])) (hv:ZbB 0 (some (r,[]))=some (r',[])) (sq own:Nat) :
  Zi O bf σ sq f own true args=if Zbs r' then some (r',σ,{ rd:=ts }) else if ZcY σ ts r' then some (r',σ,{ rd:=ts }) else some (Zm (ZaA [] [] sq) r',Zn σ ts,{ rd:=ts,wr:=ts }):=by
 have hr:=Zc2 hp
 have hn:=fun ρ=>ZcN (ρ:=ρ) hp
 rw [hm] at hr
 simp only [hm] at hn
 unfold Zi Zbx
 rw [hb]
 simp only [Xi,if_false,hsh]
 rw [hr]
 have h2:∀ σ,Zu σ 1000 [] []=[]:=fun _=>rfl
 rw [h2]
 unfold Zbl
 simp only [Wj,if_true,hn,Zr,XG,h]
 have : Z5 true 0 (some (r,[]))=some (r',[]):=by unfold Z5;rw [if_pos rfl,hv]
 rw [this]
 simp only [Zaw,WK,X0,if_true]
theorem ZHd {O:ZN} {bf:Nat->Bool} {σ:Za} {f:Nat} {args vs:List AVal} {ts:List Nat} {r r':AVal} (hb:bf f=false) (hsh:showAs σ args=some (vs,ts)) (hp:vs.all Zai=true) (hm:vs.map ZL=vs) (h:O f vs []=some (r,[])) (hv:ZbB 0 (some (r,[]))=some (r',[])) (hf:Zbs r'=true) (sq own:Nat) :
  Zi O bf σ sq f own true args=some (r',σ,{ rd:=ts }):=by
 rw [ZuP hb hsh hp hm h hv,if_pos hf]
theorem Zya {O:ZN} {bf:Nat->Bool} {σ:Za} {f:Nat} {args vs:List AVal} {ts:List Nat} {r r':AVal} (hb:bf f=false) (hsh:showAs σ args=some (vs,ts)) (hp:vs.all Zai=true) (hm:vs.map ZL=vs) (h:O f vs []=some (r,[])) (hv:ZbB 0 (some (r,[]))=some (r',[])) (hap:ZcY σ ts r'=true) (sq own:Nat) :
  Zi O bf σ sq f own true args=some (r',σ,{ rd:=ts }):=by
 rw [ZuP hb hsh hp hm h hv,if_pos hap]
 split <;> rfl
theorem ZbJ {O:ZN} {bf:Nat->Bool} {f:Nat} {args args':List AVal} {r r':AVal} (h:O f args' []=some (r,[])) (hb:bf f=false) (hp:args.all Zai=true) (hn:args.map ZL=args') (hv:ZbB 0 (some (r,[]))=some (r',[])) (hr:∀ sq,Zm (ZaA [] [] sq) r'=r') (σ:Za) (sq own:Nat):Zi O bf σ sq f own true args=some (r',σ,{}):=by
 rw [ZgJ hb hp,hn,h]
 have : Z5 true 0 (some (r,[]))=some (r',[]):=by
  unfold Z5
  rw [if_pos rfl];exact hv
 rw [this,ZiV _ _ _ _ (hr sq)]
theorem ZIY (k n:Nat) (xs:List AVal) (σ:Za):Z8 0 (.row 0 k xs::σ) (.sl 0 0 0 n)=some (.sl 0 0 0 n,[.row 0 k xs]):=by
 simp [Z8,gcA,Zy,Zu,Zp,Z3,Zk,Zr,ZO,Zo,ZJ,Zg,Zm,ZB,ZG]
def Zew:List AVal->AVal
 | []=>.lst true []
 | x::xs=>.sl 0 0 0 (x::xs).length
def ZeE (k:Nat):List AVal->Za
 | []=>[]
 | x::xs=>[.row 0 k (x::xs)]
theorem Zfj:Zew []=.lst true []:=rfl
theorem ZhB (x:AVal) (xs:List AVal):Zew (x::xs)=.sl 0 0 0 (x::xs).length:=rfl
theorem Zfy (k:Nat):ZeE k []=[]:=rfl
theorem Zh0 (k:Nat) (x:AVal) (xs:List AVal):ZeE k (x::xs)=[.row 0 k (x::xs)]:=rfl
theorem Zf1 (l:Zb):kOk 1 (l.map Zc)=true:=by cases l <;> rfl
end
section
theorem ZMb (n:Nat):IntKind.u8.wrap (n:Int)=((Wm (n % 256)).toNat:Int):=by
 rw [IntKind.wrap_u8,Xav]
 omega
theorem ZEz (k n:Nat) (xs:List AVal) (σ:Za):Z8 0 (.row 0 k xs::σ) (.sl 0 0 0 n)=some (.sl 0 0 0 n,[.row 0 k xs]):=by
 simp [Z8,gcA,Zy,Zu,Zp,Z3,Zk,Zr,ZO,Zo,ZJ,Zg,Zm,ZB,ZG]
theorem ZJS (m:Nat) (z:AVal) (t:List AVal):(XC (m+1) z++t)[m]?=some z:=by
 rw [We (by simp)];simp
theorem ZAs (m:Nat) (z v:AVal) (t:List AVal):(XC (m+1) z++t).set m v=XC m z++v::t:=by
 rw [List.replicate_succ',List.append_assoc,List.set_append_right _ _ (by simp)];simp
theorem ZtM (W:Nat) (hW:W<=8):∀ (m n:Nat) (tail:Zb),m+tail.length=W->Zl8 0 [(6,.int .i64 ((m:Int) - 1)),(5,.sl 0 0 0 W),(0,.int .u64 (n:Nat))] [.row 0 1 (XC m (.int .u8 0)++tail.map Zc)]=some (.sl 0 0 0 W,[.row 0 1 ((beB n m++tail).map Zc)])
 | 0,n,tail,h=>by
  have h1:¬(((0:Nat):Int) - 1>=0):=by omega
  unfold Zl8
  rw [ZX,beB]
  simp -implicitDefEqProofs only [EQA,Xc,Xb,reduceCtorEq,↓reduceIte,ZMF,ZJi,ZmW,Zu1,Zj2,h1,ZEz]
 | m+1,n,tail,h=>by
  have ih:=ZtM W hW m (n / 256) (Wm (n % 256)::tail) (by simp;omega)
  have e0:((m+1:Nat):Int) - 1=(m:Int):=by omega
  have h1:(m:Int)>=0:=by omega
  have h2:(0:Int)<=(m:Int):=by omega
  have h3:m < W:=by omega
  have hg:=ZJS m (.int .u8 0) (tail.map Zc)
  have hs:=ZAs m (.int .u8 0) (Zc (Wm (n % 256))) (tail.map Zc)
  have hb:=ZMb n
  have hw:IntKind.i64.wrap ((m:Int) - 1)=(m:Int) - 1:=ZbO (by omega) (by omega)
  have hd:(n:Int).fdiv (2 ^ min (WB 8) IntKind.u64.bits)=((n / 256:Nat):Int):=by
   rw [show (2:Int) ^ min (WB 8) IntKind.u64.bits=256 from rfl,Int.fdiv_eq_ediv_of_nonneg _ (by decide)]
   omega
  have e1:beB n (m+1)++tail=beB (n / 256) m++(Wm (n % 256)::tail):=by simp [beB]
  rw [e0,e1]
  have e2:XC m (AVal.int .u8 0)++(Wm (n % 256)::tail).map Zc=XC m (.int .u8 0)++Zc (Wm (n % 256))::tail.map Zc:=rfl
  rw [e2] at ih
  generalize hX:XC (m+1) (AVal.int .u8 0)++tail.map Zc=X at *
  generalize hY:XC m (AVal.int .u8 0)++Zc (Wm (n % 256))::tail.map Zc=Y at *
  unfold Zc at hs
  unfold Zl8 at ih ⊢
  rw [ZX]
  simp -implicitDefEqProofs only [EQA,ZT,Zbk,Xc,Xb,ZaB,reduceCtorEq,↓reduceIte,gcT,gcA,Zy,Zu,Zk,Zr,ZO,Zo,ZJ,ZB,ZG,Zu1,Zj2,h1,h3,hg,hs,hb,hw,hd,Zca,Xay,AVal.cells,ZaS,ZP,ZiW,Zn,X4]
  exact ih
theorem ZNV (n W:Nat) (h1:1<=W) (hW:W<=8):E 104 [.int .u64 (n:Nat),.int .i64 (W:Nat)] []=some (.sl 0 0 0 W,[.row 0 1 ((beB n W).map Zc)]):=by
 have key:=ZtM W hW W n [] (by simp)
 have c1:¬((W:Int) < 1):=by omega
 have c2:¬((W:Int) > 8):=by omega
 have c3:(0:Int)<=(W:Int):=by omega
 have c4:(W:Int)<=9223372036854775807:=by omega
 have c5:((1:Nat):Int)*(W:Int)<=140737488355328:=by omega
 have w1:IntKind.i64.wrap ((W:Int) - 1)=(W:Int) - 1:=ZbO (by omega) (by omega)
 simp only [XM,Xp] at key
 rw [Zh (by rfl) ZGr]
 unfold Zl8 at key
 simp -implicitDefEqProofs only [EQA,ZI,ZT,Zbk,Xc,Xb,Xg,ZE,unG,reduceCtorEq,↓reduceIte,gcT,gcA,Zy,Zu,Zk,Zr,ZO,Zo,ZJ,ZB,ZG,ZKF,ZoN,c1,c2,c3,c4,c5,w1,Int.le_refl,Xay]
 exact key
theorem ZkN (σ:Za) (sq own:Nat) (n W:Nat) (h1:1<=W) (hW:W<=8):Zi E BY σ sq 104 own true [.int .u64 (n:Nat),.int .i64 (W:Nat)]=some (.lst false ((beB n W).map Zc),σ,{}) :=
 Zq4 (bf:=BY) (ZNV n W h1 hW) (by simp [Zbh]) rfl rfl σ sq own
theorem ZI7 (x c:Nat) (hc:c < 256):IntKind.u64.wrap (((XB IntKind.u64.bits (IntKind.u64.wrap ((x:Int)*2 ^ min (WB 8) IntKind.u64.bits)) ||| XB IntKind.u64.bits (c:Int)).toNat:Nat):Int)=(((x*256+c) % 18446744073709551616:Nat):Int):=by
 rw [show (2:Int) ^ min (WB 8) IntKind.u64.bits=256 from rfl]
 have hb:IntKind.u64.bits=64:=rfl
 rw [hb,IntKind.wrap_u64,IntKind.wrap_u64]
 have e1:(x:Int)*256 % 18446744073709551616=((x*256 % 18446744073709551616:Nat):Int):=by omega
 rw [e1,BitVec.toNat_or]
 simp only [BitVec.ofInt_natCast,BitVec.toNat_ofNat]
 have e2:x*256 % 18446744073709551616 % 2 ^ 64=(x % 72057594037927936) <<< 8:=by
  rw [XaY];omega
 have e3:c % 2 ^ 64=c:=by omega
 rw [e2,e3,<-Nat.shiftLeft_add_eq_or_of_lt (by omega:c < 2 ^ 8),XaY]
 omega
theorem Zso (b:Zb) (hl:b.length<=9223372036854775807):∀ (r:Zb) (i x:Nat),b.drop i=r->Zll 0 [(8,.int .i64 i),(7,.int .i64 b.length),(6,.lst false (b.map Zc)),(3,.int .u64 (x:Nat))] []=some (.int .u64 (Zjh x r:Nat),[])
 | [],i,x,h=>by
  have h1:=Zcw h
  unfold Zll
  rw [ZX,ZeU]
  simp -implicitDefEqProofs only [EQA,Xc,Xb,↓reduceIte,ZLy,ZAr,Zq2,Zq8,Zmw,h1]
 | c::r,i,x,h=>by
  have ih:=Zso b hl r (i+1) ((x*256+c.toNat) % 18446744073709551616) (Zab h).2.1
  have h1:(i:Int) < b.length:=by have:=(Zab h).2.2;omega
  have e1:=iad (Zab h).1 Zc (k:=1) rfl
  have e3:=Zcn h1 hl
  have ho:=ZI7 x c.toNat c.toNat_lt
  have hc:IntKind.u64.wrap (c.toNat:Int)=(c.toNat:Int):=by rw [IntKind.wrap_u64];have:=c.toNat_lt;omega
  unfold Zll at ih ⊢
  rw [ZX,Zc7]
  simp -implicitDefEqProofs only [EQA,ZT,Xc,Xb,ZaB,↓reduceIte,gcT,gcA,Zy,Zu,Zr,ZG,Zq8,Zmw,h1,e1,e3,ho,hc,Zc,AVal.cells,X4]
  exact ih
theorem ZBY (b:Zb) (hl:b.length<=9223372036854775807):E 145 [ZV b] []=some (.int .u64 (ZcK b:Nat),[]):=by
 have key:=Zso b hl b 0 0 rfl
 have z0:((0:Nat):Int)=0:=rfl
 rw [z0] at key
 unfold Zll at key
 unfold ZcK
 rw [Zh (by rfl) ZEx]
 simp -implicitDefEqProofs only [EQA,ZT,Xc,Xb,reduceCtorEq,↓reduceIte,gcT,gcA,Zy,Zu,Zr,ZG,ZGi,ZpS,ZV]
 exact key
theorem ZlC (σ:Za) (sq own:Nat) (b:Zb) (hl:b.length<=9223372036854775807) (f:Bool):Zi E BY σ sq 145 own true [.lst f (b.map Zc)]=some (.int .u64 (ZcK b:Nat),σ,{}) :=
 ZbJ (ZBY b hl) (by kernel_rfl) rfl rfl rfl (fun _=>rfl) _ _ _
end
section
theorem ZuZ (ls:List Zb) (hl:ls.length<=9223372036854775807):∀ (r:List Zb) (i:Nat) (acc full:Zb),ls.drop i=r->full=acc++r.flatten->full.length<=140737488355328 ->
  Zk4 0 [(8,.int .i64 i),(7,.int .i64 ls.length),(6,.lst false (ls.map ZV)),(3,.sl 0 0 0 acc.length)] [.row 0 1 (acc.map Zc)]=some (.sl 0 0 0 full.length,[.row 0 1 (full.map Zc)])
 | [],i,acc,full,h,hf,hn=>by
  have h1:=Zcw h
  have e:full=acc:=by simpa using hf
  subst e
  unfold Zk4
  rw [ZX]
  simp -implicitDefEqProofs only [EQA,Xc,Xb,↓reduceIte,ZNf,Zwt,ZpX,ZnY,ZiM,h1,ZIY]
 | p::r,i,acc,full,h,hf,hn=>by
  have ih:=ZuZ ls hl r (i+1) (acc++p) full (Zab h).2.1 (by rw [hf];simp) hn
  have h1:(i:Int) < ls.length:=by have:=(Zab h).2.2;omega
  have e1:=iad (Zab h).1 ZV (k:=1) rfl
  have e3:=Zcn h1 hl
  have k1:=Zf1 p
  have k2:(acc.length+p.length)*1<=140737488355328:=by have:=congrArg List.length hf;simp at this;omega
  have e4:(acc++p).map Zc=acc.map Zc++p.map Zc:=by simp
  have e5:(acc++p).length=acc.length+p.length:=by simp
  rw [e4,e5] at ih
  clear hf
  unfold Zk4 at ih ⊢
  rw [ZX]
  unfold ZV at e1 ih ⊢
  simp -implicitDefEqProofs only [EQA,ZT,Zbk,Xe,Xc,Xb,Xg,reduceCtorEq,ZR,↓reduceIte,gcT,gcA,Zy,Zu,Zk,Zr,ZO,Zo,ZJ,ZB,ZG,ZnY,ZiM,h1,e1,e3,k1,k2,Zay,AVal.cells]
  exact ih
theorem ZFH (p:Zb) (ls:List Zb) (hl:(p::ls).length<=9223372036854775807) (hn:(p::ls).flatten.length<=140737488355328):E 35 [.lst false ((p::ls).map ZV)] []=some (.sl 0 0 0 (p::ls).flatten.length,[.row 0 1 ((p::ls).flatten.map Zc)]):=by
 have key:=ZuZ (p::ls) hl ls 1 p (p::ls).flatten rfl rfl hn
 have k1:=Zf1 p
 have k2:p.length*1<=140737488355328:=by simp at hn;omega
 have h1:(0:Int) < ((p::ls).length:Int):=by simp
 have hat:(p::ls)[0]?=some p:=rfl
 have e1:=iad hat ZV (k:=1) rfl
 have z0:((0:Nat):Int)=0:=rfl
 have z1:((1:Nat):Int)=1:=rfl
 have w1:IntKind.i64.wrap (0+1)=1:=rfl
 rw [z0] at e1
 rw [z1] at key
 unfold Zk4 at key
 generalize hL:p::ls=L at *
 rw [Zh (by rfl) ZNj]
 unfold ZV at e1 key ⊢
 simp -implicitDefEqProofs only [EQA,ZT,Xc,Xb,reduceCtorEq,↓reduceIte,gcT,gcA,Zy,Zu,Zr,ZG,ZMf,ZmQ]
 rw [ZX]
 simp -implicitDefEqProofs only [EQA,ZT,Zbk,Xc,Xb,Xg,ZR,↓reduceIte,gcT,gcA,Zy,Zu,Zk,Zr,ZO,Zo,ZJ,ZB,ZG,ZnY,ZiM,h1,e1,w1,k1,k2,Zay,AVal.cells]
 exact key
theorem Zhr (σ:Za) (sq own:Nat) (f:Bool) (p:Zb) (ls:List Zb) (hl:(p::ls).length<=9223372036854775807) (hn:(p::ls).flatten.length<=140737488355328):Zi E BY σ sq 35 own true [.lst f ((p::ls).map ZV)]=some (.lst false ((p::ls).flatten.map Zc),σ,{}):=by
 have h:=Zq4 (bf:=BY) (ZFH p ls hl hn) (by rw [XT]) rfl rfl σ sq own
 cases f
 ·exact h
 ·rw [ZgJ (by kernel_rfl) rfl] at h ⊢
  exact h
theorem ZIe:∀ n:Fin 256,IntKind.u8.wrap (((XB IntKind.u8.bits ((n.val:Nat):Int) ||| XB IntKind.u8.bits 128).toNat:Nat):Int)=((n.val % 128+128:Nat):Int):=by decide +kernel
theorem ZMy (n:Nat):IntKind.u8.wrap (((XB IntKind.u8.bits (IntKind.u8.wrap (n:Int)) ||| XB IntKind.u8.bits 128).toNat:Nat):Int)=((Wm (n % 128+128)).toNat:Int):=by
 have h:=ZIe ⟨n % 256,Nat.mod_lt _ (by decide)⟩
 have e:IntKind.u8.wrap (n:Int)=((n % 256:Nat):Int):=by rw [IntKind.wrap_u8];omega
 rw [e,h,Xav]
 simp only
 omega
theorem ZuO:∀ (k n:Nat) (acc full:Zb),n < 128 ^ (k+1)->acc.length+k<=3->full=acc++ZcF k n ->
  ZkJ 0 [(4,Zew (acc.map Zc)),(0,.int .i64 (n:Nat))] (ZeE 1 (acc.map Zc))=some (.tup [.sl 0 0 0 full.length,.int .i64 0],[.row 0 1 (full.map Zc)])
 | k,n,acc,full,hk,hacc,hf=>by
  by_cases hn:n < 128
  ·have h1:¬((n:Int) > 127):=by omega
   have hv:ZcF k n=[Wm n]:=by cases k <;> simp [ZcF,hn]
   rw [hv] at hf
   have hb:IntKind.u8.wrap (n:Int)=((Wm n).toNat:Int):=by rw [IntKind.wrap_u8,Xav];omega
   subst hf
   unfold ZkJ
   rw [ZX]
   cases acc with
   | nil =>
    simp -implicitDefEqProofs only [EQA,Xc,Xf,Xb,Xg,reduceCtorEq,ZR,↓reduceIte,Zkl,Zr5,ZlD,ZjD,ZgX,h1,hb,Zfj,Zfy,Zay,kOk,viewAs,ZW,ZP,Zn,Xah,AVal.cells]
    simp [Z8,gcA,Zy,Zu,Zp,Z3,Zk,Zr,ZO,Zo,ZJ,Zg,Zm,ZB,ZG]
    rfl
   | cons a acc =>
    have hz:(acc.length+1+1)*1<=140737488355328:=by simp at hacc;omega
    simp -implicitDefEqProofs only [EQA,Xe,Xc,Xb,Xg,reduceCtorEq,ZR,↓reduceIte,Zkl,Zr5,ZlD,ZjD,ZgX,h1,hb,ZhB,Zh0,Zay,kOk,viewAs,ZW,ZP,Zn,AVal.cells,hz]
    simp [Z8,gcA,Zy,Zu,Zp,Z3,Zk,Zr,ZO,Zo,ZJ,Zg,Zm,ZB,ZG]
    rfl
  ·cases k with
   | zero=>simp at hk;omega
   | succ k =>
    have hlt:n / 128 < 128 ^ (k+1):=by
     rw [Nat.div_lt_iff_lt_mul (by decide)]
     rw [Nat.pow_succ] at hk;exact hk
    have hv:ZcF (k+1) n=Wm (n % 128+128)::ZcF k (n / 128):=by simp [ZcF,hn]
    have ih:=ZuO k (n / 128) (acc++[Wm (n % 128+128)]) full hlt (by simp;omega) (by rw [hf,hv];simp)
    clear hf
    have h1:((n:Int) > 127):=by omega
    have ho:=ZMy n
    have hd:(n:Int).fdiv (2 ^ min (WB 7) IntKind.i64.bits)=((n / 128:Nat):Int):=by
     rw [show (2:Int) ^ min (WB 7) IntKind.i64.bits=128 from rfl,Int.fdiv_eq_ediv_of_nonneg _ (by decide)]
     omega
    unfold ZkJ at ih ⊢
    rw [ZX]
    cases acc with
    | nil =>
     simp -implicitDefEqProofs only [EQA,ZT,Zbk,Xc,Xf,Xb,Xg,ZaB,reduceCtorEq,ZR,↓reduceIte,gcT,gcA,Zy,Zu,Zk,Zr,ZO,Zo,ZJ,ZB,ZG,ZjD,ZgX,h1,ho,hd,Zfj,Zfy,Zay,kOk,viewAs,ZW,ZP,Zn,Xah,AVal.cells,X4]
     simp only [Xt,XM,XD,ZhB,Zh0,XH,XG,XE,Zc] at ih
     exact ih
    | cons a acc =>
     have hz:(acc.length+1+1)*1<=140737488355328:=by simp at hacc;omega
     simp -implicitDefEqProofs only [EQA,ZT,Zbk,Xe,Xc,Xb,Xg,ZaB,reduceCtorEq,ZR,↓reduceIte,gcT,gcA,Zy,Zu,Zk,Zr,ZO,Zo,ZJ,ZB,ZG,ZjD,ZgX,h1,ho,hd,ZhB,Zh0,Zay,kOk,viewAs,ZW,ZP,Zn,AVal.cells,hz,X4]
     simp only [List.map_append,Xt,XM,XY,ZhB,Zh0,List.length_append,XH,XT,XG,XE,WC,Xe,Zc] at ih
     exact ih
theorem ZLQ (n:Int):E 34 [.int .i64 n] []=some (if n < 0\/n > 268435455 then (.tup [.lst true [],.int .i64 10],[]) else (.tup [.sl 0 0 0 (ZcF 3 n.toNat).length,.int .i64 0],[.row 0 1 ((ZcF 3 n.toNat).map Zc)])):=by
 rw [Zh (by rfl) Zx9]
 by_cases h0:n < 0
 ·have : n < 0\/n > 268435455:=Xr h0
  simp -implicitDefEqProofs only [EQA,Zs,Xc,Xb,ZE,Zaz,reduceCtorEq,↓reduceIte,Zd,Zpo,Zjb,Zkl,h0]
 ·by_cases h2:n > 268435455
  ·have : n < 0\/n > 268435455:=Xy h2
   simp -implicitDefEqProofs only [EQA,Zs,Xc,Xb,ZE,unG,reduceCtorEq,↓reduceIte,Zd,Zpo,Zjb,Zkl,h0,h2]
  ·have : ¬(n < 0\/n > 268435455):=by omega
   have key:=ZuO 3 n.toNat [] (ZcF 3 n.toNat) (by omega) (by simp) rfl
   have e:((n.toNat:Nat):Int)=n:=by omega
   rw [e] at key
   simp only [XM,Zfj,Zfy] at key
   unfold ZkJ at key
   generalize ZcF 3 n.toNat=V at *
   simp -implicitDefEqProofs only [EQA,ZT,Xc,Xb,ZE,unG,reduceCtorEq,↓reduceIte,gcT,gcA,Zy,Zu,Zr,ZG,Zpo,Zjb,h0,h2]
   exact key
def ZeA (n:Int):AVal:=.tup [.lst false ((ZaI n).1.map Zc),.int .i64 (ZaI n).2]
theorem Zzp {O:ZN} {bf:Nat->Bool} {f:Nat} {args args':List AVal} {k n:Nat} {xs:List AVal} {c:Int} (h:O f args' []=some (.tup [.sl 0 0 0 n,.int .i64 c],[.row 0 k xs])) (hl:xs.length=n) (hb:bf f=false) (hp:args.all Zai=true) (hn:args.map ZL=args') (σ:Za) (sq own:Nat):Zi O bf σ sq f own true args=some (.tup [.lst false xs,.int .i64 c],σ,{}):=by
 subst hl
 rw [ZgJ hb hp,hn,h]
 simp [Z5,ZbB,viewR,viewAs,ZW,ZP,ZR,Zn,gcA,Zy,Zu,Zp,Z3,Zg,Zm,Zr,Zaw,Zbs,Zbn,Za2]
theorem ZfX (σ:Za) (sq own:Nat) (n:Int):Zi E BY σ sq 34 own true [.int .i64 n]=some (ZeA n,σ,{}):=by
 have h:=ZLQ n
 unfold ZeA ZaI
 by_cases hc:n < 0\/n > 268435455
 ·rw [if_pos hc] at h ⊢
  exact ZbJ h (by kernel_rfl) rfl rfl rfl (fun _=>rfl) _ _ _
 ·rw [if_neg hc] at h ⊢
  exact Zzp h (by rw [XT]) (by kernel_rfl) rfl rfl _ _ _
end
section
def gvT (x:Nat×Nat×Int):AVal:=.tup [.int .i64 (x.1:Nat),.int .i64 (x.2.1:Nat),.int .i64 x.2.2]
theorem ZDh:∀ n:Fin 256,IntKind.u8.wrap (((XB IntKind.u8.bits ((n.val:Nat):Int) &&& XB IntKind.u8.bits 127).toNat:Nat):Int)=((n.val % 128:Nat):Int):=by decide +kernel
theorem ZOQ (c:UInt8):IntKind.u8.wrap (((XB IntKind.u8.bits (c.toNat:Int) &&& XB IntKind.u8.bits 127).toNat:Nat):Int)=((c.toNat % 128:Nat):Int):=ZDh ⟨c.toNat,c.toNat_lt⟩
theorem Znw (i:Nat):128 ^ i=2 ^ (7*i):=by rw [Nat.pow_mul]
theorem Zzf (n a i:Nat) (hi:i<=3) (hn:n < 128 ^ i) (ha:a < 128):IntKind.i64.wrap (((XB IntKind.i64.bits (n:Int) ||| XB IntKind.i64.bits ((a*128 ^ i:Nat):Int)).toNat:Nat):Int)=((n+a*128 ^ i:Nat):Int):=by
 have hb:IntKind.i64.bits=64:=rfl
 have hp:128 ^ i<=128 ^ 3:=XaI (by decide) hi
 have hm:a*128 ^ i<=127*128 ^ 3:=Nat.mul_le_mul (by omega) hp
 rw [hb,BitVec.toNat_or]
 simp only [BitVec.ofInt_natCast,BitVec.toNat_ofNat]
 have e1:n % 2 ^ 64=n:=XaW (by omega)
 have e2:a*128 ^ i % 2 ^ 64=a*128 ^ i:=XaW (by omega)
 rw [e1,e2]
 have e3:a*128 ^ i=a <<< (7*i):=by rw [XaY,Znw]
 have e4:n ||| a*128 ^ i=n+a*128 ^ i:=by
  rw [e3,Nat.or_comm,<-Nat.shiftLeft_add_eq_or_of_lt (by rw [<-Znw];exact hn)]
  omega
 rw [e4,ZbO (by omega) (by omega)]
theorem ZHA (a i:Nat) (hi:i<=3) (ha:a < 128):IntKind.i64.wrap ((a:Int)*2 ^ min (WB ((7*i:Nat):Int)) IntKind.i64.bits)=((a*128 ^ i:Nat):Int):=by
 have hp:128 ^ i<=128 ^ 3:=XaI (by decide) hi
 have hm:a*128 ^ i<=127*128 ^ 3:=Nat.mul_le_mul (by omega) hp
 have e:min (WB ((7*i:Nat):Int)) IntKind.i64.bits=7*i:=by
  have hb:IntKind.i64.bits=64:=rfl
  rw [hb];omega
 have e2:((a:Int)*2 ^ (7*i))=((a*128 ^ i:Nat):Int):=by rw [Znw];simp
 rw [e,e2,ZbO (by omega) (by omega)]
theorem ZvX (n i a:Nat) (hn:n < 128 ^ i) (ha:a < 128):n+a*128 ^ i < 128 ^ (i+1):=by
 have : a*128 ^ i<=127*128 ^ i:=Nat.mul_le_mul_right _ (by omega)
 rw [Nat.pow_succ];omega
theorem Ztq (b:Zb) (hl:b.length<=9223372036854775807):∀ (r:Zb) (i n:Nat),i<=4->i<=b.length->n < 128 ^ i->b.drop i=r ->
  Zhw 0 [(9,.int .i64 i),(8,.int .i64 b.length),(7,.lst false (b.map Zc)),(2,.int .i64 n),(0,.lst false (b.map Zc))] []=some (gvT (gvA i n r),[])
 | [],i,n,hi,hib,hn,h=>by
  have h1:=Zcw h
  unfold Zhw
  rw [ZX,gvA]
  by_cases h4:i < 4
  ·have h5:(b.length:Int) < 4:=by omega
   simp -implicitDefEqProofs only [EQA,Zs,Xc,Xb,reduceCtorEq,↓reduceIte,Zd,ZhK,Zoa,Ziu,ZgA,Ze2,h1,h4,h5,gvT]
   rfl
  ·have h5:¬(b.length:Int) < 4:=by omega
   simp -implicitDefEqProofs only [EQA,Zs,Xc,Xb,reduceCtorEq,↓reduceIte,Zd,ZhK,Zoa,Ziu,ZgA,Ze2,h1,h4,h5,gvT]
   rfl
 | c::r,i,n,hi,hib,hn,h=>by
  have hlt:=(Zab h).2.2
  have h1:(i:Int) < b.length:=by omega
  have e1:=iad (Zab h).1 Zc (k:=1) rfl
  have e3:=Zcn h1 hl
  rw [gvA]
  by_cases h4:i=4
  ·have h5:¬(b.length:Int) < 4:=by omega
   have h6:((i:Int) == 4)=true:=by simp;omega
   rw [if_pos h4]
   unfold Zhw
   rw [ZX]
   simp -implicitDefEqProofs only [EQA,Zs,Xc,Xb,reduceCtorEq,↓reduceIte,Zd,ZhK,Zoa,Ziu,ZgA,Ze2,h1,e1,h5,h6,gvT,Zc,AVal.cells]
   rfl
  ·have h6:((i:Int) == 4)=false:=by simp;omega
   have hm:=ZOQ c
   have ha:c.toNat % 128 < 128:=Nat.mod_lt _ (by decide)
   have hi64:IntKind.i64.wrap ((c.toNat % 128:Nat):Int)=((c.toNat % 128:Nat):Int):=ZbO (by omega) (by omega)
   have h7:IntKind.i64.wrap (7*(i:Int))=((7*i:Nat):Int):=by rw [ZbO (by omega) (by omega)];omega
   have hneg:¬((7*i:Nat):Int) < 0:=by omega
   have hs:=ZHA (c.toNat % 128) i (by omega) ha
   have ho:=Zzf n (c.toNat % 128) i (by omega) hn ha
   by_cases hc:c.toNat < 128
   ·have hc':(c.toNat:Int) < 128:=by omega
    unfold Zhw
    rw [ZX]
    by_cases hc0:c=0
    ·have hc1:((c.toNat:Int) == 0)=true:=by rw [hc0];rfl
     by_cases hip:0 < i
     ·have hip':(i:Int) > 0:=by omega
      have hcc:c=0/\0 < i:=⟨hc0,hip⟩
      simp -implicitDefEqProofs only [EQA,Zs,ZT,ZdD,Zo8,Xc,Xb,ZaB,ZE,Zaz,unG,reduceCtorEq,decide_eq_true_eq,ite_self,↓reduceIte,Zd,gcT,gcA,Zy,Zu,Zr,ZG,ZhK,ZgA,Ze2,h1,e1,h4,h6,h7,hneg,hip',hcc,gvT,Zc,AVal.cells]
      rfl
     ·have hip':¬(i:Int) > 0:=by omega
      have hcc:¬(c=0/\0 < i):=fun h=>hip h.2
      simp -implicitDefEqProofs only [EQA,Zs,Xc,Xb,ZaB,ZE,unG,reduceCtorEq,↓reduceIte,Zd,ZhK,ZgA,Ze2,h1,e1,h4,h6,hm,hi64,h7,hneg,hs,ho,hc,hc',hc1,hip',hcc,e3,gvT,Zc,AVal.cells]
    ·have hc1:((c.toNat:Int) == 0)=false:=by
      have : c.toNat≠0:=fun h=>hc0 (UInt8.toNat_inj.1 (by simpa using h))
      simp;omega
     have hcc:¬(c=0/\0 < i):=fun h=>hc0 h.1
     simp -implicitDefEqProofs only [EQA,Zs,Xc,Xb,ZaB,ZE,Zaz,reduceCtorEq,↓reduceIte,Zd,ZhK,ZgA,Ze2,h1,e1,h4,h6,hm,hi64,h7,hneg,hs,ho,hc,hc',hc1,hcc,e3,gvT,Zc,AVal.cells]
   ·have hc':¬(c.toNat:Int) < 128:=by omega
    have ih:=Ztq b hl r (i+1) (n+c.toNat % 128*128 ^ i) (by omega) (by omega) (ZvX n i _ hn ha) (Zab h).2.1
    unfold Zhw at ih ⊢
    rw [ZX]
    simp -implicitDefEqProofs only [EQA,ZT,Xc,Xb,ZaB,reduceCtorEq,↓reduceIte,gcT,gcA,Zy,Zu,Zr,ZG,ZgA,Ze2,h1,e1,h4,h6,hm,hi64,h7,hneg,hs,ho,hc,hc',e3,Zc,AVal.cells]
    exact ih
theorem ZPk (b:Zb) (hl:b.length<=9223372036854775807):E 161 [ZV b] []=some (gvT (Zag b),[]):=by
 have key:=Ztq b hl b 0 0 (by omega) (by omega) (by simp) rfl
 have z0:((0:Nat):Int)=0:=rfl
 rw [z0] at key
 unfold Zhw at key
 unfold Zag
 rw [Zh (by rfl) ZH7]
 simp -implicitDefEqProofs only [EQA,ZT,Xc,Xb,reduceCtorEq,↓reduceIte,gcT,gcA,Zy,Zu,Zr,ZG,ZH0,Zqj,ZV]
 exact key
theorem ZmD (σ:Za) (sq own:Nat) (f:Bool) (b:Zb) (hl:b.length<=9223372036854775807):Zi E BY σ sq 161 own true [.lst f (b.map Zc)]=some (gvT (Zag b),σ,{}) :=
 ZbJ (ZPk b hl) (by kernel_rfl) rfl rfl rfl (fun _=>rfl) _ _ _
end
section
theorem ZuR (l:List UInt8) (p:Nat):Ze5 l p=Lib.decodeL (l.drop p):=by
 have:=Lib.decodeL_drop ⟨l.toArray⟩ p
 simpa [Ze5] using this.symm
def zfG:Nat->List UInt8->Bool
 | 0,_=>true
 | n+1,l=>if l=[] then true else if (Lib.decodeL l).1=0 then false else zfG n (l.drop (Lib.decodeL l).2)
def Zgj (l:List UInt8):Bool:=zfG l.length l && Lib.validD l
theorem ZNA (l:List UInt8):E 98 [.str l] []=some (.bool (Lib.validD l),[]):=Zco.2 ⟨1,rfl⟩
theorem ZLH (σ:Za) (sq own:Nat) (view:Bool) (l:List UInt8):Zi E BY σ sq 98 own view [.str l]=some (.bool (Lib.validD l),σ,{}) :=
 ZcU (ZNA l) (by kernel_rfl) (by simp -implicitDefEqProofs only [Zdi,ZbE,eq_self]) (by simp -implicitDefEqProofs only [ZI,ZbE,eq_self]) rfl (fun _=>rfl) _ _ _ _
theorem ZrO (s:List UInt8):∀ (n p:Nat),s.length - p<=n->p<=s.length->Zlb 0 [(6,.ref 0 0),(0,.str s)] [.siter s p]=some (.bool (zfG n (s.drop p) && Lib.validD s),[])
 | n,p,hn,hp=>by
  by_cases h:p < s.length
  ·obtain ⟨n,rfl⟩:∃ m,n=m+1:=⟨n - 1,by omega⟩
   have hw:=Lib.decodeL_width (s.drop p)
   have hne:s.drop p≠[]:=by rw [ne_eq,Wc];omega
   have hle:=Lib.decodeL_le (s.drop p) hne
   rw [List.length_drop] at hle
   have ih:=ZrO s n (p+(Lib.decodeL (s.drop p)).2) (by omega) (by omega)
   rw [<-List.drop_drop] at ih
   unfold Zlb at ih ⊢
   rw [ZX]
   by_cases hz:(Lib.decodeL (s.drop p)).1=0
   ·have hz':((Lib.decodeL (s.drop p)).1:Int)=0:=by omega
    simp -implicitDefEqProofs only [EQA,Xc,Xb,reduceCtorEq,↓reduceIte,ZuD,Znu,ZiT,h,ZuR,hz']
    rw [zfG,if_neg hne,if_pos hz];rfl
   ·have hz':(((Lib.decodeL (s.drop p)).1:Int) == 0)=false:=by rw [beq_eq_false_iff_ne];omega
    simp -implicitDefEqProofs only [EQA,ZT,Zbk,Xc,Xb,reduceCtorEq,↓reduceIte,gcT,gcA,Zy,Zu,Zk,Zr,ZO,Zo,ZJ,ZB,ZG,Znu,ZiT,h,ZuR,hz']
    rw [ih,zfG,if_neg hne,if_neg hz]
  ·have he:s.drop p=[]:=by rw [Wc];omega
   unfold Zlb
   rw [ZX]
   simp -implicitDefEqProofs only [EQA,Xc,Xb,reduceCtorEq,↓reduceIte,ZuD,ZJa,Zol,Znu,ZiT,h,ZLH]
   rw [he]
   cases n <;> simp [zfG]
theorem ZFT (s:List UInt8):E 77 [.str s] []=some (.bool (Zgj s),[]):=by
 rw [Zh (by rfl) ZJW]
 have:=ZrO s s.length 0 (by omega) (by omega)
 unfold Zlb at this
 simp -implicitDefEqProofs only [EQA,ZT,Zbk,Xc,Xg,reduceCtorEq,↓reduceIte,gcT,gcA,Zy,Zu,Zk,Zr,ZO,Zo,ZJ,ZB,ZG,ZPf,Zm9]
 rw [this,Xaz];rfl
theorem Zub (σ:Za) (sq own:Nat) (view:Bool) (l:List UInt8):Zi E BY σ sq 77 own view [.str l]=some (.bool (Zgj l),σ,{}) :=
 ZcU (ZFT l) (by kernel_rfl) (by simp -implicitDefEqProofs only [Zdi,ZbE,eq_self]) (by simp -implicitDefEqProofs only [ZI,ZbE,eq_self]) rfl (fun _=>rfl) _ _ _ _
theorem wrap_i64 {n:Int} (h0:-9223372036854775808<=n) (h:n<=9223372036854775807):IntKind.i64.wrap n=n:=ZbO h0 h
end
section
theorem Zuq (σ:Za) (l:Zb) (k1 k2:IntKind) (lo hi:Int) (h0:0<=lo) (h1:lo<=hi) (h2:hi<=(l.length:Int)):Zbv σ 1 (.lst false (l.map Zc)) (some (.int k1 lo)) (some (.int k2 hi)) none=some (.lst false (((l.take hi.toNat).drop lo.toNat).map Zc),σ,{}):=by
 have hh:0<=hi:=by omega
 have h3:lo<=((hi.toNat:Nat):Int):=by omega
 have hk:=Zf1 l
 simp only [Zbv,Za8,ZcT,XT,hh,h2,and_self,if_true,h0,h3,hk,XaO,Xae,Xi,if_false,WN,XaT,XaU]
theorem Zfb (σ:Za) (l:Zb) (k1:IntKind) (lo:Int) (h0:0<=lo) (h1:lo<=(l.length:Int)):Zbv σ 1 (.lst false (l.map Zc)) (some (.int k1 lo)) none none=some (.lst false ((l.drop lo.toNat).map Zc),σ,{}):=by
 have hk:=Zf1 l
 simp only [Zbv,Za8,ZcT,XT,and_self,if_true,h0,h1,hk,XaO,Xae,Xi,if_false,WN,XaU]
 rw [XN (by simp)]
def byT (x:Zb×Int):AVal:=.tup [.lst false (x.1.map Zc),.int .i64 x.2]
theorem ZJj (b:Zb) (h:b.length<=9223372036854775807):IntKind.u64.wrap (b.length:Int)=(b.length:Int):=by rw [IntKind.wrap_u64];omega
theorem ZHm (b:Zb) (hl:b.length<=9223372036854775807):∃ f,E 138 [ZV b] []=some (.tup [.lst f ((ZbD b).1.map Zc),.int .i64 (ZbD b).2],[]):=by
 unfold ZbD
 by_cases h:b.length > 65535
 ·refine ⟨true,?_⟩
  have h':(b.length:Int) > 65535:=by omega
  rw [Zh (by rfl) Zu6,if_pos h]
  simp -implicitDefEqProofs only [EQA,Zs,Xc,Xb,reduceCtorEq,↓reduceIte,Zd,Zsq,Zkb,ZsS,ZV,h']
 ·refine ⟨false,?_⟩
  have h':¬(b.length:Int) > 65535:=by omega
  have hw:=ZJj b hl
  have hP:=fun σ sq own=>ZkN σ sq own b.length 2 (by omega) (by omega)
  have hJ:=fun σ sq own f=>Zhr σ sq own f (beB b.length 2) [b] (by simp) (by simp [Zbh];omega)
  simp only [Xt,XM,ZV,Wz,W5,Xp] at hJ
  have z2:((2:Nat):Int)=2:=rfl
  rw [z2] at hP
  rw [Zh (by rfl) Zu6,if_neg h]
  simp -implicitDefEqProofs only [EQA,Zs,Xc,Xb,reduceCtorEq,↓reduceIte,Zd,Zsq,Zkb,ZsS,ZV,h',hw,hP,hJ,viewAs,ZW,ZP,Zn,AVal.cells]
theorem ZoE (σ:Za) (sq own:Nat) (f:Bool) (b:Zb) (hl:b.length<=9223372036854775807):Zi E BY σ sq 138 own true [.lst f (b.map Zc)]=some (byT (ZbD b),σ,{}):=by
 obtain ⟨g,h⟩:=ZHm b hl
 exact ZbJ h (by kernel_rfl) rfl rfl rfl (fun _=>rfl) _ _ _
def Zas (s:Zb):Zb×Int:=if Zgj s then ZbD s else ([],13)
theorem ZAU (s:Zb) (hl:s.length<=9223372036854775807):∃ f,E 106 [.str s] []=some (.tup [.lst f ((Zas s).1.map Zc),.int .i64 (Zas s).2],[]):=by
 have hI:=fun σ sq own=>Zub σ sq own true s
 have hD:=fun σ sq own f=>ZoE σ sq own f s hl
 unfold Zas
 cases h:Zgj s <;> rw [h] at hI
 ·refine ⟨true,?_⟩
  rw [Zh (by rfl) ZvF]
  simp -implicitDefEqProofs only [EQA,Zs,Xc,Xb,unA,reduceCtorEq,↓reduceIte,Zd,Zr9,ZjX,Zr3,hI]
 ·refine ⟨false,?_⟩
  rw [Zh (by rfl) ZvF]
  simp -implicitDefEqProofs only [EQA,Zs,Xc,Xb,unA,reduceCtorEq,↓reduceIte,Zd,Zr9,ZjX,Zr3,hI,hD,byT]
theorem Zip (σ:Za) (sq own:Nat) (s:Zb) (hl:s.length<=9223372036854775807):Zi E BY σ sq 106 own true [.str s]=some (byT (Zas s),σ,{}):=by
 obtain ⟨g,h⟩:=ZAU s hl
 exact ZbJ h (by kernel_rfl) rfl rfl rfl (fun _=>rfl) _ _ _
end
section
def gdT (x:Zb×Nat×Int):AVal:=.tup [.lst false (x.1.map Zc),.int .i64 (x.2.1:Nat),.int .i64 x.2.2]
def gtT (x:Zb×Nat×Int):AVal:=.tup [.str x.1,.int .i64 (x.2.1:Nat),.int .i64 x.2.2]
theorem Zzi (b:Zb) (h:b.length<=2):ZcK b < 65536:=by
 unfold ZcK
 match b,h with
 | [],_=>simp [ZeU]
 | [a],_=>rw [Zc7,ZeU];have:=a.toNat_lt;omega
 | [a,c],_=>rw [Zc7,Zc7,ZeU];have:=a.toNat_lt;have:=c.toNat_lt;omega
def Zaf (b:Zb):Zb×Nat×Int:=if (ZaJ b).2.2≠0 then ([],0,(ZaJ b).2.2) else if Zgj (ZaJ b).1 then ZaJ b else ([],0,13)
theorem Zxz (b:Zb) (hl:b.length<=140737488355328):∃ f,E 164 [ZV b] []=some (.tup [.lst f ((ZaJ b).1.map Zc),.int .i64 ((ZaJ b).2.1:Nat),.int .i64 (ZaJ b).2.2],[]):=by
 have t2:(b.take 2).length<=9223372036854775807:=by simp;omega
 have hG:=fun σ sq own f=>ZlC σ sq own (b.take 2) t2 f
 have hg:=Zzi (b.take 2) (by simp;omega)
 unfold ZaJ
 generalize hGG:ZcK (b.take 2)=g at *
 have hi:IntKind.i64.wrap (g:Int)=(g:Int):=ZbO (by omega) (by omega)
 by_cases h1:b.length < 2
 ·have h1':(b.length:Int) < 2:=by omega
  refine ⟨true,?_⟩
  rw [Zh (by rfl) ZnW,if_pos (Xr h1)]
  simp -implicitDefEqProofs only [EQA,Zs,Xc,Xb,ZE,Zaz,reduceCtorEq,↓reduceIte,Zd,Zow,Zh9,Zo9,ZV,h1']
  rfl
 ·have h1':¬(b.length:Int) < 2:=by omega
  have s2:=fun σ kk=>Zmm σ 1 b Zc kk 2 (by omega) (by omega)
  have e2:(2:Int).toNat=2:=rfl
  rw [e2] at s2
  have w1:IntKind.i64.wrap ((b.length:Int) - 2)=((b.length - 2:Nat):Int):=by rw [ZbO (by omega) (by omega)];omega
  by_cases h3:b.length - 2 < g
  ·have h3':((b.length - 2:Nat):Int) < (g:Int):=by omega
   refine ⟨true,?_⟩
   rw [Zh (by rfl) ZnW,if_pos (Xy h3)]
   simp -implicitDefEqProofs only [EQA,Zs,Xc,Xb,ZE,unG,reduceCtorEq,↓reduceIte,Zd,Zow,Zh9,Zo9,ZV,h1',s2,hG,hi,w1,h3']
   rfl
  ·have h3':¬((b.length - 2:Nat):Int) < (g:Int):=by omega
   have w2:IntKind.i64.wrap (2+(g:Int))=((2+g:Nat):Int):=by rw [ZbO (by omega) (by omega)];omega
   have s3:=fun σ k1 k2=>Zuq σ b k1 k2 2 ((2+g:Nat):Int) (by omega) (by omega) (by omega)
   have e3:(((2+g:Nat):Int)).toNat=2+g:=rfl
   have e4:(b.take (2+g)).drop 2=(b.drop 2).take g:=by rw [List.drop_take];congr 1;omega
   rw [e2,e3,e4] at s3
   have hJ:=fun σ sq own f=>Zhr σ sq own f ((b.drop 2).take g) [] (by simp) (by simp;omega)
   simp only [Xt,XM,ZV,Wz,W5,Xp] at hJ
   have hc:¬(b.length < 2\/b.length - 2 < g):=by omega
   refine ⟨false,?_⟩
   rw [Zh (by rfl) ZnW,if_neg hc]
   simp -implicitDefEqProofs only [EQA,Zs,Xc,Xb,ZE,unG,reduceCtorEq,↓reduceIte,Zd,Zow,Zh9,Zo9,ZV,h1',s2,hG,hi,w1,h3',w2,s3,hJ,viewAs,ZW,ZP,Zn,AVal.cells]
theorem ZkA (σ:Za) (sq own:Nat) (f:Bool) (b:Zb) (hl:b.length<=140737488355328):Zi E BY σ sq 164 own true [.lst f (b.map Zc)]=some (gdT (ZaJ b),σ,{}):=by
 obtain ⟨g,h⟩:=Zxz b hl
 exact ZbJ h (by kernel_rfl) rfl rfl rfl (fun _=>rfl) _ _ _
theorem ZOJ (b:Zb) (hl:b.length<=140737488355328):E 147 [ZV b] []=some (gtT (Zaf b),[]):=by
 have hD:=fun σ sq own f=>ZkA σ sq own f b hl
 unfold gdT at hD
 have hI:=fun σ sq own=>Zub σ sq own true (ZaJ b).1
 unfold Zaf
 by_cases h0:(ZaJ b).2.2=0
 ·have hn0:¬((ZaJ b).2.2≠0):=by omega
  have e0:((0:Int) != 0)=false:=rfl
  have hp:ZaJ b=((ZaJ b).1,(ZaJ b).2.1,0):=by rw [<-h0]
  rw [if_neg hn0]
  rw [hp]
  simp only
  rw [h0] at hD
  generalize (ZaJ b).1=d at *
  generalize (ZaJ b).2.1=u at *
  rw [Zh (by rfl) Zup]
  cases ht:Zgj d <;> rw [ht] at hI
  ·simp -implicitDefEqProofs only [EQA,Zs,Xc,Xb,unA,reduceCtorEq,ZR,↓reduceIte,Zd,ZqK,Zif,Znr,ZV,hD,hI,e0,gtT]
   rfl
  ·simp -implicitDefEqProofs only [EQA,Zs,Xc,Xb,unA,reduceCtorEq,ZR,↓reduceIte,Zd,ZqK,Zif,Znr,ZV,hD,hI,e0,gtT]
 ·have hn0:((ZaJ b).2.2≠0):=h0
  have e0:((ZaJ b).2.2 != 0)=true:=by simpa using h0
  rw [if_pos hn0]
  generalize (ZaJ b).2.2=e at *
  rw [Zh (by rfl) Zup]
  simp -implicitDefEqProofs only [EQA,Zs,Xc,Xb,reduceCtorEq,↓reduceIte,Zd,ZqK,Zif,Znr,ZV,hD,e0,gtT]
  rfl
theorem Zg7 (σ:Za) (sq own:Nat) (f:Bool) (b:Zb) (hl:b.length<=140737488355328):Zi E BY σ sq 147 own true [.lst f (b.map Zc)]=some (gtT (Zaf b),σ,{}) :=
 ZbJ (ZOJ b hl) (by kernel_rfl) rfl rfl rfl (fun _=>rfl) _ _ _
end
section
theorem Zc4 {O:ZN} {bf:Nat->Bool} {σ:Za} {t f:Nat} {rest:List AVal} {cs cs':List AVal} {r r':AVal} (hb:bf f=false) (hp:rest.all Zai=true) (hc:Zd cs=true) (hc':Zd cs'=true) (hn:ZM r'=true) (hv:viewR [.var cs'] r=some (r',[]))
  (h:O f (.ref 0 0::rest.map ZL) [.var cs]=some (r,[.var cs'])) (hs:σ[t]?=some (.var cs)) (sq:Nat):Zi O bf σ sq f 0 true (.ref t 0::rest)=some (r',σ.set t (.var cs'),{ any:=true,upd:=[(t,cs')] }):=by
 have htl:t < σ.length:=by
  rcases Wx t σ.length with h | h
  ·exact h
  ·rw [XQ h] at hs;cases hs
 have hup:Za4 (σ.set t (.var cs')) [t]=[(t,cs')]:=by
  simp only [Za4,Xv,if_pos htl,if_true]
 have hd:σ.getD t .free=.var cs:=by simp [Xh,hs]
 have hf0:Zn σ []=σ:=rfl
 have hsh:showAs σ (.ref t 0::rest)=some (.ref t 0::rest.map ZL,[]):=by
  rw [showAs,show showA σ (.ref t 0)=some (.ref t 0,[]) from rfl,Zea hp]
  rfl
 have href:Zp (.ref t 0::rest.map ZL)=[t]:=by
  rw [Zp,Zc2 hp];rfl
 unfold Zi Zbx
 rw [hb]
 simp only [Xi,if_false,hsh,hf0,href,Zfe hs hc]
 unfold Zbl
 have hall:([t].all fun t=>okB (σ.getD t .free))=true:=by simp [XP,Wj,hs,okB]
 rw [if_pos hall]
 have hρ:Zk σ 0 [t] t 0=some (0,0):=by simp [Zk,ZO,hs,Zo,ZJ]
 have hheap:Zr σ 0 [t] (Zk σ 0 [t]) [t] 0=[.var cs]:=by
  simp only [Zr,hd,ZB,(ZaX _ cs hc).1]
 have hargs:Zg (Zk σ 0 [t]) (.ref t 0::rest.map ZL)=.ref 0 0::rest.map ZL:=by
  rw [Zg,ZcN hp]
  simp only [Zm,hρ]
 rw [hargs,hheap,h]
 have hask:Z5 true [t].length (some (r,[.var cs']))=some (r',[.var cs']):=by
  unfold Z5
  rw [if_pos rfl]
  have hnp:∀ x,r≠.pan x:=by rintro x rfl;simp [viewR,ZW,ZP] at hv
  rw [show ZbB [t].length (some (r,[.var cs']))=(match viewR [.var cs'] r with
   | some (r',ts)=>match gcA [t].length [r'] (Zn [.var cs'] ts) with
    | ([r''],σ')=>some (r'',σ')
    | _=>none
   | none=>none) from by cases r <;> first | rfl | exact absurd rfl (hnp _)]
  rw [hv]
  simp only [XH,XG,XE,show Zn [ZK.var cs'] []=[.var cs'] from rfl,ZkO hn hc']
 rw [hask]
 have hk:ZaZ σ [t] [.var cs'] 0=true:=by
  simp [ZaZ,okB,hs,Zb4,Zo]
 simp only [Zaw,Wp,Xi,if_false,XH,XG,XE,Wb,Xx,decide_true,hk,ZaY,X0,if_true,Za1,ZaH,Xu,ZB,(Za7 _ r' hn).1,(ZaX _ cs' hc').1,hup]
theorem Zcy {O:ZN} {bf:Nat->Bool} {σ:Za} {t f:Nat} {rest:List AVal} {cs cs':List AVal} {x:AVal} {view:Bool} (hb:bf f=false) (hp:rest.all Zai=true) (hc:Zd cs=true) (hc':Zd cs'=true) (hn:ZM x=true)
  (h:O f (.ref 0 0::rest.map ZL) [.var cs]=some (.pan x,[.var cs'])) (hs:σ[t]?=some (.var cs)) (sq:Nat):Zi O bf σ sq f 0 view (.ref t 0::rest)=some (.pan x,σ.set t (.var cs'),{ any:=true,upd:=[(t,cs')] }):=by
 have htl:t < σ.length:=by
  rcases Wx t σ.length with h | h
  ·exact h
  ·rw [XQ h] at hs;cases hs
 have hup:Za4 (σ.set t (.var cs')) [t]=[(t,cs')]:=by
  simp only [Za4,Xv,if_pos htl,if_true]
 have hd:σ.getD t .free=.var cs:=by simp [Xh,hs]
 have hf0:Zn σ []=σ:=rfl
 have hsh:showAs σ (.ref t 0::rest)=some (.ref t 0::rest.map ZL,[]):=by
  rw [showAs,show showA σ (.ref t 0)=some (.ref t 0,[]) from rfl,Zea hp]
  rfl
 have href:Zp (.ref t 0::rest.map ZL)=[t]:=by
  rw [Zp,Zc2 hp];rfl
 unfold Zi Zbx
 rw [hb]
 simp only [Xi,if_false,hsh,hf0,href,Zfe hs hc]
 unfold Zbl
 have hall:([t].all fun t=>okB (σ.getD t .free))=true:=by simp [XP,Wj,hs,okB]
 rw [if_pos hall]
 have hρ:Zk σ 0 [t] t 0=some (0,0):=by simp [Zk,ZO,hs,Zo,ZJ]
 have hheap:Zr σ 0 [t] (Zk σ 0 [t]) [t] 0=[.var cs]:=by
  simp only [Zr,hd,ZB,(ZaX _ cs hc).1]
 have hargs:Zg (Zk σ 0 [t]) (.ref t 0::rest.map ZL)=.ref 0 0::rest.map ZL:=by
  rw [Zg,ZcN hp]
  simp only [Zm,hρ]
 rw [hargs,hheap,h]
 have hask:Z5 view [t].length (some (.pan x,[.var cs']))=some (.pan x,[.var cs']):=by
  unfold Z5
  split <;> rfl
 rw [hask]
 have hk:ZaZ σ [t] [.var cs'] 0=true:=by
  simp [ZaZ,okB,hs,Zb4,Zo]
 have hnp:ZM (.pan x)=true:=by simpa only [ZM] using hn
 simp only [Zaw,Wp,Xi,if_false,XH,XG,XE,Wb,Xx,decide_true,hk,ZaY,X0,if_true,Za1,ZaH,Xu,ZB,(Za7 _ _ hnp).1,(ZaX _ cs' hc').1,hup]
end
end Go.Proofs.YtfemfbchakdidaaGreatDoor
