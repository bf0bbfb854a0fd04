/- packed -/
import Derived.Test.YtfhocpplckoodaaGreatDoorMq1
import Derived.Scope
import Derived.Laws.Cover3
import Derived.Lib.Index
import Derived.Shelf.Unicode.ValidAny
import Derived.Shelf.Strings.Count
import Derived.Test.YtfhocpplckoodaaGreatDoorProg
import Derived.Lib.Atoi
import Derived.Lib.ItoaNum
import Derived.Lib.LaidTab
import Derived.Lib.LaidU8
import Derived.Lib.ConvBytes
import Derived.Sort.Grow
import Derived.Deep.Slices
import Derived.ChangeArms
import Derived.WideShapes
import GoSem.ClaimChange
set_option linter.defProp false
set_option linter.unusedSimpArgs false
set_option linter.unusedVariables false
open Nat renaming reduceEqDiff→Xa,reduceLT→Xc,reduceAdd→Xe,reduceLeDiff→Xf,reduceBEq→Xg,zero_add→XB,le_refl→XF,add_zero→Wc,lt_or_ge→Wx,add_assoc→WC,le_max_right→WT,le_max_left→W6,zero_mul→Xbd
open Option.some renaming injEq→Xb,inj→WE
open Prod.mk renaming injEq→Xd
open List renaming getD_eq_getElem?_getD→Xh,map_cons→Xm,append_nil→Xo,length_cons→Xp,map_nil→Xt,getD_cons_zero→Xu,mem_append→Xv,length_nil→Xw,replicate→Xz,nil_append→XA,mem_of_getElem?→XC,length_map→XD,all_eq_true→XH,take_of_length_le→XI,all_cons→XO,mem_cons→XR,cons_append→XV,drop_eq_nil_iff→XW,mem_map→X2,flatMap_nil→X5,range→Wa,getElem?_eq_getElem→We,getElem?_append_left→Wi,all_nil→Ws,pairwise_append→Wy,mem_filter→WJ,pairwise_cons→WR,getElem?_map→WZ,isEmpty_nil→Xai,range'→XaD,drop_zero→XaL,map_map→XaQ,mapM_cons→Xa5,map_take→Xa6
open Bool renaming false_eq_true→Xj,and_eq_true→Xk,and_self→Wg,or_eq_true→WB,false_and→WX,true_or→Xao,and_true→Xat,or_true→XaZ,true_and→Xa7
open Option renaming map_eq_some_iff→Xq,map→XZ,map_some→X8,bind_some→Wj
open Or renaming inl→Xr,inr→XE
open Array renaming length_toList→XM,getElem?_eq_some_iff→XX,getD_eq_getD_getElem?→WA,getD→WY,replicate→W5,getElem?_append_left→Xau
open UInt8 renaming ofNat→X1
open ByteArray renaming size→Wu
open Int renaming toNat_natCast→Wv
namespace Go.Proofs.YtfhocpplckoodaaGreatDoor
set_option maxHeartbeats 16000000
set_option maxRecDepth 10000
section
open Go.RowKit
section
variable {P:Program}{O:ZV}{bf:Nat->Bool}{an:Ann}{base:Nat->Prop}{w0:World}{I0:Imm}{dr:Door}
theorem ZWJ{o:AOp}{tm tm1:Tms}{σ σ1:Za}{sq:Nat}{v:AVal}{c:Cls}(ht:o.ins.touches=false)(h:ZQ O bf o sq tm σ=some (v,tm1,σ1,c)):c={}:=by
 unfold ZQ at h
 split at h
 ·cases h
 ·simp only[Xb,Xd]at h;exact h.2.2.2.symm
 ·split at h
  ·split at h
   ·rename_i he
    simp only[Xb,Xd]at h
    rw[<-h.2.2.2]
    exact(ZCU ht he).1
   ·cases h
  ·cases h
theorem ZjH{i:Ins}(h:i.touches=false):nsite i=0:=by cases i<;>simp[Ins.touches]at h<;>rfl
theorem Zis{asl:List AOp}{L:Nat}{cs:List Cls}:∀ {l:List Nat} {tm tm':Tms} {σ σ':Za},Zc0 O bf asl L cs l tm σ tm' σ'->∀ j∈l,(asl.getD j default).ins.touches=false->cs.getD j {}={}
 | [],_,_,_,_,_,j,hj,_=>by simp at hj
 |i::l,_,_,_,_,h,j,hj,ht=>by
  cases h with
  |cons h1 _ h2 =>
   rcases XR.1 hj with rfl |hj
   ·exact ZWJ ht h1
   ·exact Zis h2 j hj ht
theorem Zjm(asl:List AOp):∀ {j i:Nat},j<i->i<=asl.length->sitesOf (asl.take j)+nsite (asl.getD j default).ins<=sitesOf (asl.take i):=by
 intro j i hji hi
 induction i with
 |zero=>omega
 |succ i ih =>
  rw[ZsB asl (by omega)]
  by_cases e:j=i
  ·subst e
   simp[Xh,show j<asl.length by omega]
  ·have:=ih (by omega) (by omega);omega
theorem ZJy(hO:ZaO P O)(hkp:∀ n∈dr.K,n∈an.keep)(hb:KLt base w0){ops:Array Oper}{asl:List AOp}(hcomp:ZdM P an ops ops.toList=some asl){ps:List (Nat×Nat)}(hps:ZfS asl=some ps){L:Nat}{cs:List Cls}(hchk:Zd2 asl L ps cs=true)
  {tmF:Tms} {σF:Za} {Q:Exit->Act->World->Prop} {I:Imm} {β:Bmap} (hQ:∀ a' w',StR dr an.nt base w0 I0 I β tmF σF a' w'->Q .normal a' w') :
  ∀ (fuel:Nat) (rem:List Nat) (listed:Array Bool) (a:Act) (w:World) (tm:Tms) (σ:Za),Zc0 O bf asl L cs rem tm σ tmF σF->rem.Pairwise (· < ·)->(∀ j∈rem,j<ops.size)->(∀ j,j<ops.size->(listed.getD j true=true↔j∉rem))->listed.size=ops.size ->
   (∀ k,k<ops.size->k∉rem->∀ p∈(Zco (asl.map (·.after)) []).getD k [],p∉rem)->rem.length=fuel->StR dr an.nt base w0 I0 I β tm σ a w->wpAny P .any ops Q fuel listed a w:=by
 obtain⟨hlen,hget⟩:=Zkw hcomp
 obtain⟨hp1,hp2⟩:=ZAM hps
 obtain⟨_,_,hanc⟩:=Zrw (asl.map (·.after)) [] (fun _ _ _=>trivial)
 simp only[XM]at hlen
 have hafter:∀ j o,ops[j]?=some o->∃ ao,asl.getD j default=ao/\ZhK P an ops o=some ao/\ao.after=(o.after.toList.filter (Region.binds .any)).map (·.on)/\ao.dst=o.dst:=by
  intro j o ho
  obtain⟨ao,h1,h2⟩:=hget j o (by simpa using ho)
  refine⟨ao,by simp[Xh,h1],h2,?_⟩
  obtain⟨g,i,_,_,_,rfl⟩:=ZrQ h2
  exact⟨rfl,rfl⟩
 intro fuel
 induction fuel with
 |zero =>
  intro rem listed a w tm σ hr hs hlt hl hsz hcl hfl hst
  have : rem=[]:=List.eq_nil_of_length_eq_zero hfl
  subst this
  cases hr
  refine⟨?_,hQ a w hst⟩
  apply List.eq_nil_iff_forall_not_mem.2
  intro j hj
  rw[mem_ready]at hj
  obtain⟨h1,o,ho,_⟩:=hj
  have hjl:j<ops.size:=(XX.1 ho).1
  have:=(hl j hjl).2 (by simp)
  rw[h1]at this;cases this
 |succ fuel ih =>
  intro rem listed a w tm σ hr hs hlt hl hsz hcl hfl hst
  have isRem:∀ j,j<ops.size->listed.getD j true=false->j∈rem:=by
   intro j hj h
   by_cases hm:j∈rem
   ·exact hm
   ·have:=(hl j hj).2 hm;rw[h]at this;cases this
  have getD_tf:∀ j,j<ops.size->listed.getD j false=listed.getD j true:=by
   intro j hj
   simp[WY,hsz,hj]
  refine⟨fun hnil=>?_,fun i hi=>?_⟩
  ·exfalso
   cases rem with
   |nil=>simp at hfl
   |cons r rs =>
    have hrl:r<ops.size:=hlt r (by simp)
    have hro:ops[r]?=some ops[r]:=by simp[hrl]
    obtain⟨ao,e1,e2,e3,_⟩:=hafter r _ hro
    have : r∈Region.ready .any ops listed:=by
     rw[mem_ready]
     refine⟨?_,ops[r],hro,fun e he hbnd=>?_⟩
     ·cases hq:listed.getD r true with
      |false=>rfl
      |true=>exact absurd (List.mem_cons_self) ((hl r hrl).1 hq)
     ·have hon:e.on∈ao.after:=by rw[e3];exact X2.2 ⟨e,WJ.2 ⟨by simpa using he,hbnd⟩,rfl⟩
      have hlt':e.on<r:=hp2 r (by omega) e.on (by rw[e1];exact hon)
      rw[getD_tf _ (by omega)]
      refine(hl e.on (by omega)).2 (fun hm=>?_)
      rcases XR.1 hm with h |hm
      ·omega
      ·have:=(WR.1 hs).1 e.on hm;omega
    rw[hnil]at this;simp at this
  ·rw[mem_ready]at hi
   obtain⟨hi0,o,ho,hpre⟩:=hi
   have hil:i<ops.size:=(XX.1 ho).1
   have him:=isRem i hil hi0
   obtain⟨l1,l2,rfl⟩:=List.append_of_mem him
   obtain⟨ao,e1,e2,e3,e4⟩:=hafter i o ho
   have hdone:∀ p∈(asl.getD i default).after,p<ops.size->p∉l1++i::l2:=by
    intro p hp hpl
    rw[e1,e3]at hp
    obtain⟨e,he,rfl⟩:=X2.1 hp
    obtain⟨he1,he2⟩:=WJ.1 he
    have:=hpre e (by simpa using he1) he2
    rw[getD_tf _ hpl]at this
    exact(hl e.on hpl).1 this
   have hai:(asl.map (·.after)).getD i []=(asl.getD i default).after:=by
    simp[Xh,show i<asl.length by omega]
   have hanci:∀ p∈(Zco (asl.map (·.after)) []).getD i [],p∉l1++i::l2:=by
    intro p hp
    have hap:∀ q,q∈(asl.map (·.after)).getD i []->q<i:=fun q hq=>hp2 i (by omega) q (by rw[<-hai];exact hq)
    rcases hanc i (by simp;omega) p (by simpa using hp)with h |⟨q,h1,h2,h3⟩
    ·exact hdone p (by rw[<-hai];exact h) (by have:=hap p h;omega)
    ·have hql:q<ops.size:=by simp at h2;omega
     exact hcl q hql (hdone q (by rw[<-hai];exact h1) hql) p h3
   have hl1:∀ j∈l1,j<i:=by
    intro j hj
    have:=Wy.1 hs
    exact this.2.2 j hj i (by simp)
   obtain⟨v1,tm1,σ1,h1,hnp1,h2⟩:=ZpE (l1:=l1) (i:=i) (fun j hj=>by
    have hji:=hl1 j hj
    have hjn:j∉(Zco (asl.map (·.after)) []).getD i []:=fun hm=>hanci j hm (by simp[hj])
    obtain⟨p1,p2⟩:=hp1 j i hji (by omega) hjn
    refine⟨p1,?_,fun hn _=>?_,?_⟩
    ·rcases p2 with p2 |p2 |p2
     ·have:=Zis hr j (by simp[hj]) p2
      have hem:Zcx (asl.getD j default) (cs.getD j {})=true:=by rw[this];simp only[Zcx,ZjH p2];rfl
      simp only[ZcS,hem,Xao]
     ·have:=Zis hr i (by simp) p2
      have hem:Zcx (asl.getD i default) (cs.getD i {})=true:=by rw[this];simp only[Zcx,ZjH p2];rfl
      simp only[ZcS,hem,Xao,XaZ]
     ·have:=XH.1 hchk (j,i) p2
      simp only[WB,beq_iff_eq]at this
      rcases this with h |h
      ·omega
      ·exact h
    ·have:=Zjm asl hji (by omega)
     omega
    ·have:=Zjm asl hji (by omega)
     omega) hr
   unfold wpOp
   rw[ho]
   rw[e1]at h1
   obtain⟨I',β',g1,g2,g3,g4,g5⟩:=hst
   refine Zkd hO hkp e2 g3 g4 g5 hb h1 (fun _ a' w' hs'=>ih (l1++l2) _ a' w' tm1 σ1 h2 ?_ ?_ ?_ (by simpa using hsz) ?_ ?_ (hs'.trans g1 g2)) (fun x e=>absurd e (hnp1 x))
   ·have:=Wy.1 hs
    exact Wy.2 ⟨this.1,(WR.1 this.2.1).2,fun x hx y hy=>this.2.2 x hx y (by simp[hy])⟩
   ·intro j hj
    refine hlt j ?_
    simp only[Xv,XR]at hj ⊢
    rcases hj with h |h
    ·exact Xr h
    ·exact XE (XE h)
   ·intro j hj
    have hs1:=Wy.1 hs
    by_cases hij:i=j
    ·subst hij
     have hn:i∉l1++l2:=by
      intro hm
      rcases Xv.1 hm with h |h
      ·have:=hl1 i h;omega
      ·have:=(WR.1 hs1.2.1).1 i h;omega
     simp[WY,hsz,hil,hn]
    ·rw[getD_set_ne true hij,hl j hj]
     simp only[Xv,XR,not_or]
     constructor
     ·rintro⟨a1,_,a3⟩;exact⟨a1,a3⟩
     ·rintro⟨a1,a3⟩;exact⟨a1,fun e=>hij e.symm,a3⟩
   ·intro k hk hkn p hp hm
    have hsub:p∈l1++i::l2:=by
     simp only[Xv,XR]at hm ⊢
     rcases hm with h |h
     ·exact Xr h
     ·exact XE (XE h)
    by_cases hki:k=i
    ·subst hki;exact hanci p hp hsub
    ·refine hcl k hk (fun hkm=>hkn ?_) p hp hsub
     simp only[Xv,XR]at hkm ⊢
     rcases hkm with h |h |h
     ·exact Xr h
     ·exact absurd h hki
     ·exact XE h
   ·simp at hfl ⊢;omega
theorem ZU8(hO:ZaO P O)(hkp:∀ n∈dr.K,n∈an.keep)(hb:KLt base w0){ops:Array Oper}{asl:List AOp}(hcomp:ZdM P an ops ops.toList=some asl){ps:List (Nat×Nat)}(hps:ZfS asl=some ps){L:Nat}{cs:List Cls}{jp:Nat}(hjl:jp<ops.size)(hmark:(jp,jp)∈ps)(hmarkT:(asl.getD jp default).ins.touches=true)(hfree:∀ j i,(j,i)∈ps->j<i->i<=jp->ZcS (asl.getD j default) (asl.getD i default) (cs.getD j {}) (cs.getD i {}) (L+sitesOf (asl.take j))=true)(hquiet:∀ j,(j,jp)∈ps->j<jp->Zaf (asl.getD j default).ins=true)
  {x:AVal} {σF:Za} {Q:Exit->Act->World->Prop} {I:Imm} {β:Bmap} (hQ:∀ a' u w',dr.ok a'->Post base w0 I0 I β x σF u w'->Q (.panic [{ v:=u,recovered:=false }]) a' w') :
  ∀ (fuel:Nat) (pre post:List Nat) (listed:Array Bool) (a:Act) (w:World) (tm tmJ tmX:Tms) (σ σJ:Za),Zc0 O bf asl L cs pre tm σ tmJ σJ->ZQ O bf (asl.getD jp default) (L+sitesOf (asl.take jp)) tmJ σJ=some (.pan x,tmX,σF,cs.getD jp {})->(pre++jp::post).Pairwise (· < ·)->(∀ j∈pre++jp::post,j<ops.size)->(∀ j,j<ops.size->(listed.getD j true=true↔j∉pre++jp::post))->listed.size=ops.size ->
   (∀ k,k<ops.size->k∉pre++jp::post->∀ p∈(Zco (asl.map (·.after)) []).getD k [],p∉pre++jp::post)->(pre++jp::post).length=fuel->StR dr an.nt base w0 I0 I β tm σ a w->wpAny P .any ops Q fuel listed a w:=by
 obtain⟨hlen,hget⟩:=Zkw hcomp
 obtain⟨hp1,hp2⟩:=ZAM hps
 have hmk:=ZM4 hps hmark
 obtain⟨_,_,hanc⟩:=Zrw (asl.map (·.after)) [] (fun _ _ _=>trivial)
 simp only[XM]at hlen
 have hafter:∀ j o,ops[j]?=some o->∃ ao,asl.getD j default=ao/\ZhK P an ops o=some ao/\ao.after=(o.after.toList.filter (Region.binds .any)).map (·.on)/\ao.dst=o.dst:=by
  intro j o ho
  obtain⟨ao,h1,h2⟩:=hget j o (by simpa using ho)
  refine⟨ao,by simp[Xh,h1],h2,?_⟩
  obtain⟨g,i,_,_,_,rfl⟩:=ZrQ h2
  exact⟨rfl,rfl⟩
 intro fuel
 induction fuel with
 |zero =>
  intro pre post listed a w tm tmJ tmX σ σJ hr hj hs hlt hl hsz hcl hfl hst
  simp at hfl
 |succ fuel ih =>
  intro pre post listed a w tm tmJ tmX σ σJ hr hj hs hlt hl hsz hcl hfl hst
  have getD_tf:∀ j,j<ops.size->listed.getD j false=listed.getD j true:=by
   intro j hj
   simp[WY,hsz,hj]
  have isRem:∀ j,j<ops.size->listed.getD j true=false->j∈pre++jp::post:=by
   intro j hj h
   by_cases hm:j∈pre++jp::post
   ·exact hm
   ·have:=(hl j hj).2 hm;rw[h]at this;cases this
  refine⟨fun hnil=>?_,fun i hi=>?_⟩
  ·exfalso
   obtain⟨r,rs,hrr⟩:∃ r rs,pre++jp::post=r::rs:=by cases pre<;>simp
   rw[hrr]at hs hlt hl
   have hrl:r<ops.size:=hlt r (by simp)
   have hro:ops[r]?=some ops[r]:=by simp[hrl]
   obtain⟨ao,e1,e2,e3,_⟩:=hafter r _ hro
   have : r∈Region.ready .any ops listed:=by
    rw[mem_ready]
    refine⟨?_,ops[r],hro,fun e he hbnd=>?_⟩
    ·cases hq:listed.getD r true with
     |false=>rfl
     |true=>exact absurd (List.mem_cons_self) ((hl r hrl).1 hq)
    ·have hon:e.on∈ao.after:=by rw[e3];exact X2.2 ⟨e,WJ.2 ⟨by simpa using he,hbnd⟩,rfl⟩
     have hlt':e.on<r:=hp2 r (by omega) e.on (by rw[e1];exact hon)
     rw[getD_tf _ (by omega)]
     refine(hl e.on (by omega)).2 (fun hm=>?_)
     rcases XR.1 hm with h |hm
     ·omega
     ·have:=(WR.1 hs).1 e.on hm;omega
   rw[hnil]at this;simp at this
  ·rw[mem_ready]at hi
   obtain⟨hi0,o,ho,hpre⟩:=hi
   have hil:i<ops.size:=(XX.1 ho).1
   have him:=isRem i hil hi0
   obtain⟨ao,e1,e2,e3,e4⟩:=hafter i o ho
   have hdone:∀ p∈(asl.getD i default).after,p<ops.size->p∉pre++jp::post:=by
    intro p hp hpl
    rw[e1,e3]at hp
    obtain⟨e,he,rfl⟩:=X2.1 hp
    obtain⟨he1,he2⟩:=WJ.1 he
    have:=hpre e (by simpa using he1) he2
    rw[getD_tf _ hpl]at this
    exact(hl e.on hpl).1 this
   have hai:(asl.map (·.after)).getD i []=(asl.getD i default).after:=by
    simp[Xh,show i<asl.length by omega]
   have hanci:∀ p∈(Zco (asl.map (·.after)) []).getD i [],p∉pre++jp::post:=by
    intro p hp
    have hap:∀ q,q∈(asl.map (·.after)).getD i []->q<i:=fun q hq=>hp2 i (by omega) q (by rw[<-hai];exact hq)
    rcases hanc i (by simp;omega) p (by simpa using hp)with h |⟨q,h1,h2,h3⟩
    ·exact hdone p (by rw[<-hai];exact h) (by have:=hap p h;omega)
    ·have hql:q<ops.size:=by simp at h2;omega
     exact hcl q hql (hdone q (by rw[<-hai];exact h1) hql) p h3
   have hss:=Wy.1 hs
   rw[Xv,XR]at him
   rcases him with him |hij |him
   ·obtain⟨l1,l2,rfl⟩:=List.append_of_mem him
    have hl1:∀ j∈l1,j<i:=by
     intro j hj
     exact(Wy.1 hss.1).2.2 j hj i (by simp)
    have hijp:i<jp:=hss.2.2 i (by simp) jp (by simp)
    obtain⟨v1,tm1,σ1,h1,hnp1,h2⟩:=ZpE (l1:=l1) (i:=i) (fun j hj'=>by
     have hji:=hl1 j hj'
     have hjn:j∉(Zco (asl.map (·.after)) []).getD i []:=fun hm=>hanci j hm (by simp[hj'])
     obtain⟨p1,p2⟩:=hp1 j i hji (by omega) hjn
     refine⟨p1,?_,fun hn _=>?_,?_⟩
     ·rcases p2 with p2 |p2 |p2
      ·have:=Zis hr j (by simp[hj']) p2
       have hem:Zcx (asl.getD j default) (cs.getD j {})=true:=by rw[this];simp only[Zcx,ZjH p2];rfl
       simp only[ZcS,hem,Xao]
      ·have:=Zis hr i (by simp) p2
       have hem:Zcx (asl.getD i default) (cs.getD i {})=true:=by rw[this];simp only[Zcx,ZjH p2];rfl
       simp only[ZcS,hem,Xao,XaZ]
      ·exact hfree j i p2 hji (by omega)
     ·have:=Zjm asl hji (by omega)
      omega
     ·have:=Zjm asl hji (by omega)
      omega) hr
    have eA:(l1++i::l2)++jp::post=l1++i::(l2++jp::post):=by simp
    have eB:(l1++l2)++jp::post=l1++(l2++jp::post):=by simp
    rw[eA]at hs hlt hl hcl hanci hfl
    unfold wpOp
    rw[ho]
    rw[e1]at h1
    obtain⟨I',β',g1,g2,g3,g4,g5⟩:=hst
    refine Zkd hO hkp e2 g3 g4 g5 hb h1 (fun _ a' w' hs'=>ih (l1++l2) post _ a' w' tm1 tmJ tmX σ1 σJ h2 hj ?_ ?_ ?_ (by simpa using hsz) ?_ ?_ (hs'.trans g1 g2)) (fun x e=>absurd e (hnp1 x))
    ·rw[eB]
     have:=Wy.1 hs
     exact Wy.2 ⟨this.1,(WR.1 this.2.1).2,fun x hx y hy=>this.2.2 x hx y (by simp only[XR];exact XE hy)⟩
    ·intro j hj
     rw[eB]at hj
     refine hlt j ?_
     simp only[Xv,XR]at hj ⊢
     rcases hj with h |h |h |h
     ·exact Xr h
     ·exact XE (XE (Xr h))
     ·exact XE (XE (XE (Xr h)))
     ·exact XE (XE (XE (XE h)))
    ·intro j hj
     rw[eB]
     generalize l2++jp::post=L2 at *
     have hs1:=Wy.1 hs
     by_cases hij:i=j
     ·subst hij
      have hn:i∉l1++L2:=by
       intro hm
       rcases Xv.1 hm with h |h
       ·have:=hl1 i h;omega
       ·have:=(WR.1 hs1.2.1).1 i h;omega
      simp[WY,hsz,hil,hn]
     ·rw[getD_set_ne true hij,hl j hj]
      simp only[Xv,XR,not_or]
      constructor
      ·rintro⟨a1,_,a3⟩;exact⟨a1,a3⟩
      ·rintro⟨a1,a3⟩;exact⟨a1,fun e=>hij e.symm,a3⟩
    ·intro k hk hkn p hp hm
     rw[eB]at hkn hm
     generalize l2++jp::post=L2 at *
     have hsub:p∈l1++i::L2:=by
      simp only[Xv,XR]at hm ⊢
      rcases hm with h |h
      ·exact Xr h
      ·exact XE (XE h)
     by_cases hki:k=i
     ·subst hki;exact hanci p hp hsub
     ·refine hcl k hk (fun hkm=>hkn ?_) p hp hsub
      simp only[Xv,XR]at hkm ⊢
      rcases hkm with h |h |h
      ·exact Xr h
      ·exact absurd h hki
      ·exact XE h
    ·rw[eB];simp at hfl ⊢;omega
   ·subst hij
    have hl1:∀ j∈pre,j<i:=fun j hj=>hss.2.2 j hj i (by simp)
    obtain⟨tm1,h1⟩:=ZwB (l1:=pre) (i:=i) (fun j hj'=>by
     have hji:=hl1 j hj'
     have hjn:j∉(Zco (asl.map (·.after)) []).getD i []:=fun hm=>hanci j hm (by simp[hj'])
     obtain⟨p1,p2⟩:=hp1 j i hji (by omega) hjn
     have hts:(asl.getD i default).ins.touches=false->False:=fun h=>by
      have:=hmarkT
      rw[h]at this;cases this
     refine⟨?_,p1,?_,fun hn _=>?_,?_⟩
     ·rcases p2 with p2 |p2 |p2
      ·exact Xr p2
      ·exact(hts p2).elim
      ·exact XE (hquiet j p2 hji)
     ·rcases p2 with p2 |p2 |p2
      ·have:=Zis hr j hj' p2
       have hem:Zcx (asl.getD j default) (cs.getD j {})=true:=by rw[this];simp only[Zcx,ZjH p2];rfl
       simp only[ZcS,hem,Xao]
      ·exact(hts p2).elim
      ·exact hfree j i p2 hji (XF _)
     ·have:=Zjm asl hji (by omega)
      omega
     ·have:=Zjm asl hji (by omega)
      omega) hr hj
    unfold wpOp
    rw[ho]
    rw[e1]at h1
    obtain⟨I',β',g1,g2,g3,g4,g5⟩:=hst
    refine Zkd hO hkp e2 g3 g4 g5 hb h1 (fun hn=>absurd rfl (hn x)) (fun x' e u w' hp=>?_)
    injection e with e
    subst e
    exact hQ a u w' g4.1 (hp.trans g1 g2)
   ·exfalso
    have hlt2:jp<i:=(WR.1 hss.2.1).1 i him
    exact hanci jp (hmk i hlt2 (by omega)) (by simp)
theorem Rel.reserve{I:Imm}{β:Bmap}{σ:Za}{w:World}(R:Rel base w0 I0 I β σ w)(n:Nat):Rel base w0 I0 I β (σ++Xz n .free) w:=by
 have look:∀ t x,(σ++Xz n ZO.free)[t]?=some x->σ[t]?=some x\/(σ.length<=t/\x=.free):=by
  intro t x h
  by_cases ht:t<σ.length
  ·rw[Wi ht]at h;exact Xr h
  ·rw[List.getElem?_append_right (by omega)]at h
   refine XE ⟨by omega,?_⟩
   have:=XC h
   exact List.eq_of_mem_replicate this
 refine⟨R.below,R.old,R.imm,?_,?_,?_,?_,?_,?_,R.glob⟩
 ·intro t x h
  rcases look t x h with h |⟨_,rfl⟩
  ·exact R.blk t x h
  ·trivial
 ·intro t x b h hb
  rcases look t x h with h |⟨_,rfl⟩
  ·exact R.own t x b h hb
  ·cases hb
 ·intro t x t' x' b h h' hb hb'
  rcases look t x h with h |⟨_,rfl⟩
  ·rcases look t' x' h' with h' |⟨_,rfl⟩
   ·exact R.apart t x t' x' b h h' hb hb'
   ·cases hb'
  ·cases hb
 ·intro t g h
  exact R.fresh t g (by simp at h;omega)
 ·intro t g h
  rcases look t _ h with h |⟨h,_⟩
  ·exact R.free t g h
  ·exact R.fresh t g h
 ·intro t x g h hg
  rcases look t _ h with h |⟨h,_⟩
  ·exact R.gen t x g h hg
  ·exact R.fresh t g h
theorem StR.keep{I:Imm}{β:Bmap}{tm:Tms}{σ:Za}{a:Act}{w:World}(h:StR dr an.nt base w0 I0 I β tm σ a w)(live:List Nat):StR dr an.nt base w0 I0 I β (keepL live tm) σ a w:=by
 obtain⟨I',β',h1,h2,h3,h4⟩:=h
 exact⟨I',β',h1,h2,h3.keep live,h4⟩
def ZT4(dr:Door)(an:Ann)(base:Nat->Prop)(w0:World)(I0 I:Imm)(β:Bmap)(e:Zbe)(tm:Tms)(σ:Za)(Q:Exit->Act->World->Prop):Prop:=match e with
 | .normal=>∀ a w,StR dr an.nt base w0 I0 I β tm σ a w->Q .normal a w
 | .exit id=>∀ a w,StR dr an.nt base w0 I0 I β tm σ a w->Q (.exit id) a w
 | .ret=>∀ a w,StR dr an.nt base w0 I0 I β tm σ a w->Q .ret a w
 | .panic x=>∀ a u w,dr.ok a->Post base w0 I0 I β x σ u w->Q (.panic [{ v:=u,recovered:=false }]) a w
theorem Znm(hO:ZaO P O)(hkp:∀ n∈dr.K,n∈an.keep)(hm:P.follows .mixedOrders=true)(hb:KLt base w0){id:Nat}{ops:Array Oper}{draw:Bool}{asl:List AOp}{chk:Option (List (Nat×Nat))}{live:List Nat}(hc:Zbf P an (.region id ops draw)=.region asl chk live){I:Imm}{β:Bmap}{tm tm':Tms}{σ σ':Za}{a:Act}{w:World}{e:Zbe}
  (hst:StR dr an.nt base w0 I0 I β tm σ a w) (h:Zcd O bf asl chk live tm σ=some (e,tm',σ')) {Q:Exit->Act->World->Prop} (hQ:ZT4 dr an base w0 I0 I β e tm' σ' Q):(Code.region id ops draw).wp P Q a w:=by
 obtain⟨I1,β1,g1,g2,g3,g4,g5⟩:=hst
 simp only[Zbf]at hc
 split at hc
 ·rename_i l hl
  unfold Zcd at h
  split at hc
  ·rename_i hd
   subst hd
   split at hc
   ·rename_i ps hps
    simp only[Ze.region.injEq]at hc
    obtain⟨rfl,rfl,rfl⟩:=hc
    cases hrun:Z8 O bf l σ.length tm (σ++Xz (sitesOf l) .free)with
    |none=>rw[hrun]at h;simp only[Zdg]at h;cases h
    |some q =>
     obtain⟨tm1,σ1,cs,p⟩:=q
     rw[hrun]at h
     cases p with
     |some x =>
      simp only[Zdg]at h
      split at h
      ·rename_i hpan
       simp only[Xb,Xd]at h
       obtain⟨rfl,rfl,rfl⟩:=h
       have hlen:=(Zkw hl).1
       simp only[XM]at hlen
       obtain⟨n,tmJ,σJ,tmX,q1,q2,q3,q4⟩:=Zz1 (O:=O) (bf:=bf) (ops:=l) (L:=σ.length) l.length 0 (cs:=cs) (cs':=cs) (by omega) (by simpa[sitesOf]using hrun) (fun j=>by simp)
       rw[XB]at q4
       unfold ZdN at hpan
       rw[q2]at hpan
       simp only[Xk,List.any_eq_true,XH,WB,beq_iff_eq,decide_eq_true_eq,Nat.add_sub_cancel]at hpan
       obtain⟨⟨pm,hpm,hm1,hm2⟩,hall⟩:=hpan
       have hmk:(n,n)∈ps:=by
        obtain⟨a1,a2⟩:=pm
        simp only at hm1 hm2
        subst hm1 hm2
        exact hpm
       have hT:(l.getD n default).ins.touches=true:=ZQF hps hmk
       refine wp_region_any hm (ZU8 hO hkp hb hl hps (jp:=n) (by omega) hmk hT (fun j i hji h1 h2=>?_) (fun j hj h1=>?_) (I:=I) (β:=β) (x:=x) (fun a' u w' hd' hp=>hQ a' u w' hd' hp) ops.size (XaD 0 n) (XaD (n+1) (l.length-n-1)) _ a _ tm tmJ tmX _ σJ q3 q4 ?_ ?_ ?_ (by simp) ?_ (by simp;omega) ⟨I1,β1,g1,g2,g3,g4,(g5.reserve _).same rfl rfl rfl rfl⟩)
       ·rcases hall (j,i) hji with(h |h) |⟨h,_⟩
        ·simp only at h;omega
        ·simp only at h;omega
        ·exact h
       ·rcases hall (j,n) hj with(h |h) |⟨_,h⟩
        ·simp only at h;omega
        ·simp only at h;omega
        ·rcases h with h |h
         ·simp only at h;omega
         ·exact h
       ·have e:XaD 0 n++n::XaD (n+1) (l.length-n-1)=XaD 0 l.length:=by
         rw[<-List.range'_succ]
         have:=List.range'_append_1 (s:=0) (m:=n) (n:=l.length-n-1+1)
         rw[XB]at this
         rw[this]
         congr 1
         omega
        rw[e];exact List.pairwise_lt_range'
       ·intro j hj;simp at hj;omega
       ·intro j hj
        simp[WY,hj]
        omega
       ·intro k hk hkn
        exact absurd (by simp;omega) hkn
      ·cases h
     |none =>
      simp only[Zdg]at h
      split at h
      ·rename_i hchk
       simp only[Xb,Xd]at h
       obtain⟨rfl,rfl,rfl⟩:=h
       have hlen:=(Zkw hl).1
       simp only[XM]at hlen
       have hr:=Zz8 (O:=O) (bf:=bf) (ops:=l) (L:=σ.length) l.length 0 (cs:=cs) (cs':=cs) (by omega) (by simpa[sitesOf]using hrun) (fun j=>by simp)
       refine wp_region_any hm (ZJy hO hkp hb hl hps hchk (I:=I) (β:=β) (fun a' w' hs=>hQ a' w' (hs.keep _)) ops.size (XaD 0 l.length) _ a _ tm _ hr ?_ ?_ ?_ (by simp) ?_ (by simp[hlen]) ⟨I1,β1,g1,g2,g3,g4,(g5.reserve _).same rfl rfl rfl rfl⟩)
       ·exact List.pairwise_lt_range'
       ·intro j hj;simp at hj;omega
       ·intro j hj
        simp[WY,hj,hlen]
       ·intro k hk hkn
        exact absurd (by simp;omega) hkn
      ·cases h
   ·cases hc
  ·rename_i hd
   simp only[Ze.region.injEq]at hc
   obtain⟨rfl,rfl,rfl⟩:=hc
   have hdf:draw=false:=by cases draw<;>simp_all
   subst hdf
   cases hrun:Z8 O bf l σ.length tm (σ++Xz (sitesOf l) .free)with
   |none=>rw[hrun]at h;simp only[Zdg]at h;cases h
   |some q =>
    obtain⟨tm1,σ1,cs,p⟩:=q
    rw[hrun]at h
    cases p with
    |none =>
     simp only[Zdg,Xb,Xd]at h
     obtain⟨rfl,rfl,rfl⟩:=h
     exact wp_region_list (Zpu hO hkp hb hl g3 g4 (g5.reserve _) hrun (fun _ a' w' hs=>hQ a' w' ((hs.trans g1 g2).keep _)) (fun x hx=>by cases hx))
    |some x =>
     simp only[Zdg,Xb,Xd]at h
     obtain⟨rfl,rfl,rfl⟩:=h
     exact wp_region_list (Zpu hO hkp hb hl g3 g4 (g5.reserve _) hrun (fun hx=>by cases hx) (fun x' hx a' u w' hd' hp=>by
      injection hx with hx;subst hx
      exact hQ a' u w' hd' (hp.trans g1 g2)))
 ·cases hc
end
end
section
open Go.RowKit
section
variable {P:Program}{O:ZV}{bf:Nat->Bool}{an:Ann}{base:Nat->Prop}{w0:World}{I0:Imm}{dr:Door}
def StF(dr:Door)(m nt:Nat)(base:Nat->Prop)(w0:World)(I0 I:Imm)(β:Bmap)(tm:Tms)(σ:Za)(a:Act)(w:World):Prop :=
 ∃ I' β',I.le I'/\KeptE m β β'/\TR I' β' tm a.tmps/\(dr.ok a/\nt<=a.tmps.size)/\Rel base w0 I0 I' β' σ w
def ZFw(dr:Door)(m:Nat)(an:Ann)(base:Nat->Prop)(w0:World)(I0 I:Imm)(β:Bmap)(e:Zbe)(tm:Tms)(σ:Za)(Q:Exit->Act->World->Prop):Prop:=match e with
 | .normal=>∀ a w,StF dr m an.nt base w0 I0 I β tm σ a w->Q .normal a w
 | .exit id=>∀ a w,StF dr m an.nt base w0 I0 I β tm σ a w->Q (.exit id) a w
 | .ret=>∀ a w,StF dr m an.nt base w0 I0 I β tm σ a w->Q .ret a w
 | .panic x=>∀ a u w,dr.ok a->ZbW m base w0 I0 I β (.pan x) σ u w->Q (.panic [{ v:=u,recovered:=false }]) a w
theorem StF.cond{m:Nat}{I:Imm}{β:Bmap}{tm:Tms}{σ:Za}{a:Act}{w:World}(h:StF dr m an.nt base w0 I0 I β tm σ a w){c:Operand}{y:Opd}(hc:Zaz c=some y){b:Bool}(hv:y.ev tm=.bool b):a.eval c=.bool b:=by
 obtain⟨I',β',_,_,T,_,_⟩:=h
 have:=ZaB T hc
 rw[hv]at this
 simpa only[VR]using this
theorem ZjL(hO:ZaO P O)(hkp:∀ n∈dr.K,n∈an.keep)(hm:P.follows .mixedOrders=true)(hb:KLt base w0)(m n:Nat):∀ {c:Code} {ac:Ze},Zbf P an c=ac->∀ {I:Imm} {β:Bmap} {tm tm':Tms} {σ σ':Za} {a:Act} {w:World} {e:Zbe},StF dr m an.nt base w0 I0 I β tm σ a w->Zak O bf m n ac tm σ=some (e,tm',σ') ->
  ∀ {Q:Exit->Act->World->Prop},ZFw dr m an base w0 I0 I β e tm' σ' Q->c.wp P Q a w:=by
 intro c
 induction c with
 |skip =>
  intro ac hc I β tm tm' σ σ' a w e hst h Q hQ
  simp only[Zbf]at hc;subst hc
  simp only[Zak,Xb,Xd]at h
  obtain⟨rfl,rfl,rfl⟩:=h
  exact wp_skip (hQ a w hst)
 |region id ops draw =>
  intro ac hc I β tm tm' σ σ' a w e hst h Q hQ
  obtain⟨asl,chk,live,rfl⟩:∃ asl chk live,ac=.region asl chk live:=by
   simp only[Zbf]at hc
   split at hc
   ·split at hc
    ·split at hc
     ·exact⟨_,_,_,hc.symm⟩
     ·subst hc;simp only[Zak]at h;cases h
    ·exact⟨_,_,_,hc.symm⟩
   ·subst hc;simp only[Zak]at h;cases h
  simp only[Zak]at h
  obtain⟨I1,β1,g1,g2,g3,g4,g5⟩:=hst
  have up:∀ {tm:Tms} {σ:Za} {a':Act} {w':World},StR dr an.nt base w0 I0 I1 β1 tm σ a' w'->StF dr m an.nt base w0 I0 I β tm σ a' w':=by
   rintro tm σ a' w' ⟨I2,β2,k1,k2,k3⟩
   exact⟨I2,β2,g1.trans k1,g2.trans (KeptE.of_le k2),k3⟩
  refine Znm hO hkp hm hb hc (⟨I1,β1,Imm.le.refl I1,Bmap.le.refl β1,g3,g4,g5⟩:StR dr an.nt base w0 I0 I1 β1 tm σ a w) h ?_
  cases e with
  |normal=>exact fun a' w' hs=>hQ a' w' (up hs)
  |exit id=>exact fun a' w' hs=>hQ a' w' (up hs)
  |ret=>exact fun a' w' hs=>hQ a' w' (up hs)
  |panic x =>
   rintro a' u w' hd ⟨I2,β2,k1,k2,k3,k4⟩
   exact hQ a' u w' hd ⟨I2,β2,g1.trans k1,g2.trans (KeptE.of_le k2),k3,k4⟩
 |seq x y ihx ihy =>
  intro ac hc I β tm tm' σ σ' a w e hst h Q hQ
  simp only[Zbf]at hc
  subst hc
  simp only[Zak]at h
  refine wp_seq ?_
  split at h
  ·rename_i tm1 σ1 h1
   exact ihx rfl hst h1 (fun a' w' hs=>ihy rfl hs h hQ)
  ·rename_i hne
   refine ihx rfl hst h ?_
   cases e with
   |normal=>exact absurd h (hne _ _)
   |exit id=>exact hQ
   |ret=>exact hQ
   |panic x=>exact hQ
 |cond c x y ihx ihy =>
  intro ac hc I β tm tm' σ σ' a w e hst h Q hQ
  simp only[Zbf]at hc
  split at hc
  ·rename_i c' hcc
   subst hc
   simp only[Zak]at h
   split at h
   ·rename_i hv
    exact wp_cond_true (hst.cond hcc hv) (ihx rfl hst h hQ)
   ·rename_i hv
    exact wp_cond_false (hst.cond hcc hv) (ihy rfl hst h hQ)
   ·cases h
  ·subst hc;simp only[Zak]at h;cases h
 |block id x ih =>
  intro ac hc I β tm tm' σ σ' a w e hst h Q hQ
  simp only[Zbf]at hc
  subst hc
  have hx:Zbf P an x=Zbf P an x:=rfl
  simp only[Zak]at h
  refine wp_block ?_
  split at h
  ·rename_i i tm1 σ1 h1
   refine ih hx hst h1 ?_
   intro a' w' hs
   simp only[Exit.inBlock]
   split at h
   ·rename_i hid
    simp only[Xb,Xd]at h
    obtain⟨rfl,rfl,rfl⟩:=h
    rw[if_pos hid]
    exact hQ a' w' hs
   ·rename_i hid
    simp only[Xb,Xd]at h
    obtain⟨rfl,rfl,rfl⟩:=h
    rw[if_neg hid]
    exact hQ a' w' hs
  ·rename_i hne
   refine ih hx hst h ?_
   cases e with
   |normal=>exact hQ
   |exit id=>exact absurd h (hne _ _ _)
   |ret=>exact hQ
   |panic x=>exact hQ
 |loop x ih =>
  intro ac hc I β tm tm' σ σ' a w e hst h Q hQ
  simp only[Zbf]at hc
  subst hc
  have hx:Zbf P an x=Zbf P an x:=rfl
  simp only[Zak]at h
  refine wp_loop_rounds n ?_
  have key:∀ k {tm:Tms} {σ:Za} {a:Act} {w:World},StF dr m an.nt base w0 I0 I β tm σ a w->Zd1 m (an.ll (Zf0 x)) (Zak O bf m n (Zbf P an x)) k tm σ=some (e,tm',σ')->Code.rounds P x Q k a w:=by
   intro k
   induction k with
   |zero=>intro tm σ a w _ h;simp only[Zd1]at h;cases h
   |succ k ihk =>
    intro tm σ a w hst h
    rw[rounds_succ]
    simp only[Zd1]at h
    obtain⟨I1,β1,k1,k2,k3,k4,k5⟩:=hst
    obtain⟨β2,q1,q2,q3⟩:=ZNC k5 (k3.keep (an.ll (Zf0 x))) m
    have hst0:StF dr m an.nt base w0 I0 I β (gcT m (keepL (an.ll (Zf0 x)) tm) σ).1 (gcT m (keepL (an.ll (Zf0 x)) tm) σ).2 a w:=⟨I1,β2,k1,k2.trans q1,q3,k4,q2⟩
    split at h
    ·rename_i tm1 σ1 h1
     exact ih hx hst0 h1 (fun a' w' hs=>ihk hs h)
    ·rename_i hne
     refine ih hx hst0 h ?_
     cases e with
     |normal=>exact absurd h (hne _ _)
     |exit id=>exact hQ
     |ret=>exact hQ
     |panic x=>exact hQ
  exact key n hst h
 |exit id =>
  intro ac hc I β tm tm' σ σ' a w e hst h Q hQ
  simp only[Zbf]at hc;subst hc
  simp only[Zak,Xb,Xd]at h
  obtain⟨rfl,rfl,rfl⟩:=h
  exact wp_exit (hQ a w hst)
 |ret =>
  intro ac hc I β tm tm' σ σ' a w e hst h Q hQ
  simp only[Zbf]at hc;subst hc
  simp only[Zak,Xb,Xd]at h
  obtain⟨rfl,rfl,rfl⟩:=h
  exact wp_ret (hQ a w hst)
 |rangeFunc f ps x y=>intro ac hc I β tm tm' σ σ' a w e hst h;simp only[Zbf]at hc;subst hc;simp only[Zak]at h;cases h
 |scope x ih =>
  intro ac hc I β tm tm' σ σ' a w e hst h Q hQ
  simp only[Zbf]at hc
  refine wp_scope_straight (ih hc hst h ?_)
  cases e with
  |normal=>exact hQ
  |exit id=>exact hQ
  |ret=>exact hQ
  |panic x=>exact hQ
 |label l =>
  intro ac hc I β tm tm' σ σ' a w e hst h Q hQ
  simp only[Zbf]at hc;subst hc
  simp only[Zak,Xb,Xd]at h
  obtain⟨rfl,rfl,rfl⟩:=h
  exact wp_label (hQ a w hst)
 |goto l=>intro ac hc I β tm tm' σ σ' a w e hst h;simp only[Zbf]at hc;subst hc;simp only[Zak]at h;cases h
 |refuse why=>intro ac hc I β tm tm' σ σ' a w e hst h;simp only[Zbf]at hc;subst hc;simp only[Zak]at h;cases h
theorem ZWV{I:Imm}{β:Bmap}{σ σ':Za}{k:Option Nat}{a x:AVal}{c:Cls}{v:Value}(ha:VR I β a v)(h:ldA σ k a=some (x,σ',c)):∃ ad,v=.pointer (some ad):=by
 unfold ldA at h
 split at h
 ·simp only[VR]at ha;obtain⟨b,k,c,_,rfl⟩:=ha;exact⟨_,rfl⟩
 ·simp only[VR]at ha;obtain⟨b,k,c,_,rfl⟩:=ha;exact⟨_,rfl⟩
 ·simp only[VR]at ha;obtain⟨b,off,rfl,_⟩:=ha;exact⟨_,rfl⟩
 ·cases h
def Zkz(tmps:Array Value):ResultVar->Sem Value
 | .tmp t=>pure (tmps.getD t undef)
 | .cell a t=>do loadVar t (<-asAddr (tmps.getD a undef))
theorem Zpd{I:Imm}{β:Bmap}{tm:Tms}{σ:Za}{w:World}{tmps:Array Value}(T:TR I β tm tmps)(R:Rel base w0 I0 I β σ w):∀ {rs:List ResultVar} {asl:List ZcV} {xs:List AVal},Zfp P rs=some asl->resAll tm σ asl=some xs ->
  ∃ vs:List Value,(rs.mapM (Zkz tmps)).run P w=.ok vs w/\VRs I β xs vs
 | [],asl,xs,hc,h=>by
  simp only[Zfp,Xb]at hc;subst hc
  simp only[resAll,Xb]at h;subst h
  exact⟨[],by simp,by simp only[VRs]⟩
 |r::rs,asl,xs,hc,h=>by
  have getD_eq:∀ t,VR I β (tget tm t) (tmps.getD t undef):=T
  cases r with
  |tmp t =>
   simp only[Zfp,Xq]at hc
   obtain⟨as',has,rfl⟩:=hc
   simp only[resAll,resOne]at h
   split at h
   ·rename_i ys hys
    injection h with h;subst h
    obtain⟨vs,h1,h2⟩:=Zpd T R has hys
    exact⟨tmps.getD t undef::vs,by simp only[Xa5,Zkz,Sem.run_bind,Sem.run_pure,Result.andThen_ok,h1],by simp only[VRs];exact⟨_,_,rfl,getD_eq t,h2⟩⟩
   ·cases h
  |cell a t =>
   simp only[Zfp]at hc
   split at hc
   ·rename_i k as' hk has
    injection hc with hc;subst hc
    simp only[resAll,resOne]at h
    split at h
    ·rename_i v hv
     split at h
     ·rename_i ys hys
      injection h with h;subst h
      obtain⟨vs,h1,h2⟩:=Zpd T R has hys
      split at hv
      ·rename_i v' σ1 c1 hld
       injection hv with hv;subst hv
       obtain⟨u,hu1,hu2,_⟩:=Zyt hk R (getD_eq a) hld
       obtain⟨ad,had⟩:=ZWV (getD_eq a) hld
       have hlv:(loadVar t ad).run P w=.ok u w:=by
        rw[had]at hu1
        simpa[Instr.loadAt,Instr.sureAddr]using hu1
       refine⟨u::vs,?_,by simp only[VRs];exact⟨_,_,rfl,hu2,h2⟩⟩
       simp only[Xa5,Zkz,had,asAddr,Sem.run_bind,Sem.run_pure,Result.andThen_ok,hlv,h1]
      ·cases hv
     ·cases h
    ·cases h
   ·cases hc
theorem ZAo{I:Imm}{β:Bmap}{tm:Tms}{σ:Za}{w:World}{tmps:Array Value}(T:TR I β tm tmps)(R:Rel base w0 I0 I β σ w){fn:Func}{asl:List ZcV}{x:AVal}(hc:Zfp P fn.results.toList=some asl)(h:resA tm σ asl=some x):∃ v,(results fn tmps).run P w=.ok v w/\VR I β x v:=by
 unfold resA at h
 have run:∀ {xs:List AVal},resAll tm σ asl=some xs->∃ vs:List Value,(results fn tmps).run P w=.ok (if h:vs.toArray.size=1 then vs.toArray[0]else .tuple vs.toArray) w/\VRs I β xs vs:=by
  intro xs hx
  obtain⟨vs,h1,h2⟩:=Zpd T R hc hx
  refine⟨vs,?_,h2⟩
  have hm:(fn.results.mapM (Zkz tmps)).run P w=.ok vs.toArray w:=by
   rw[Array.mapM_eq_mapM_toList,Sem.run_map,h1];rfl
  have he:results fn tmps=(do let vs <-fn.results.mapM (Zkz tmps);pure (if h:vs.size=1 then vs[0]else .tuple vs)):=by
   unfold results
   congr 1
  rw[he,Sem.run_bind,hm]
  rfl
 split at h
 ·rename_i v hv
  injection h with h;subst h
  obtain⟨vs,h1,h2⟩:=run hv
  simp only[VRs]at h2
  obtain⟨u,us,rfl,h3,rfl⟩:=h2
  exact⟨u,by rw[h1];simp,h3⟩
 ·rename_i vs' hv hne
  injection h with h;subst h
  obtain⟨vs,h1,h2⟩:=run hne
  have hl:=Za1 h2
  refine⟨.tuple vs.toArray,?_,by simp only[VR];exact⟨_,rfl,by simpa using h2⟩⟩
  rw[h1,dif_neg]
  intro hs
  simp only[List.size_toArray]at hs
  match vs',hl with
  | [v],_=>exact hv v rfl
  | [],hl=>simp at hl;omega
  |_::_::_,hl=>simp at hl;omega
 ·cases h
theorem ZAL:∀ (args:List AVal) (i:Nat) (acc:Tms) (n:Nat),tget (enterA i args acc) n=if i<=n/\n<i+args.length then args.getD (n-i) .top else tget acc n
 | [],i,acc,n=>by simp only[enterA,Xw];rw[if_neg (by omega)]
 |x::xs,i,acc,n=>by
  simp only[enterA,Xp]
  rw[ZAL xs (i+1) _ n]
  by_cases h:i+1<=n/\n<i+1+xs.length
  ·rw[if_pos h,if_pos (by omega),show n-i=(n-(i+1))+1 by omega,List.getD_cons_succ]
  ·rw[if_neg h]
   simp only[tget]
   by_cases h1:i=n
   ·subst h1
    rw[if_pos rfl,if_pos (by omega),Nat.sub_self,Xu]
   ·rw[if_neg h1,if_neg (by omega)]
theorem Zq7{I:Imm}{β:Bmap}{args:List AVal}{vs:Array Value}(h:VRs I β args vs.toList)(n:Nat):TR I β (enterA 0 args []) (vs++W5 n undef):=by
 intro j
 rw[ZAL]
 have hl:=Za1 h
 simp only[XM]at hl
 split
 ·rename_i hj
  have hjl:j<args.length:=by omega
  obtain⟨v,h1,h2⟩:=ZcO h (We hjl)
  have e1:args.getD (j-0) .top=args[j]:=by simp[Xh,hjl]
  have e2:(vs++W5 n undef).getD j undef=v:=by
   rw[WA,Xau (by omega)]
   have : vs[j]?=some v:=by simpa using h1
   rw[this];rfl
  rw[e1,e2];exact h2
 ·simp only[tget,VR]
def ZlO(P:Program)(prim:Zcu):Prop:=∀ f g,prim f=some g->∀ args σ r σ',g args σ=some (r,σ') ->
 (∃ fn,P.funcs[f]?=some fn/\fn.body.isSome=true/\(fn.name == "runtime.NumGoroutine")=false) /\
 ∀ base w0 I0 I β w (vs:Array Value),KLt base w0->Rel base w0 I0 I β σ w->VRs I β args vs.toList ->
  Calls P f vs w (fun e w'=>∃ u,Ends r e u/\ZbW σ.length base w0 I0 I β r σ' u w')
theorem Zp9(hm:P.follows .mixedOrders=true){prim:Zcu}(hP:ZlO P prim)(ann:Nat->Ann)(bf:Nat->Bool):∀ n,ZaO P (Zay (Zka P ann) prim bf n)
 |0=>by intro f args σ r σ' h;simp only[Zay]at h;cases h
 |n+1=>by
  have ih:=Zp9 hm hP ann bf n
  intro f args σ r σ' h
  simp only[Zay]at h
  split at h
  ·rename_i g hg
   exact hP f g hg args σ r σ' h
  split at h
  ·cases h
  rename_i fn hfn
  unfold Zka at hfn
  split at hfn
  ·rename_i F hF
   split at hfn
   ·rename_i body hbody
    split at hfn
    ·cases hfn
    ·rename_i hname
     split at hfn
     ·rename_i rs hrs
      injection hfn with hfn;subst hfn
      refine⟨⟨F,hF,by rw[hbody];rfl,by simpa using hname⟩,?_⟩
      intro base w0 I0 I β w vs hb R hargs
      refine calls_of_wp hF hbody ?_
      have T:=Zq7 hargs (F.ntmps-vs.size)
      have hst:StF Zb3 σ.length F.ntmps base w0 I0 I β (enterA 0 args []) σ { tmps:=vs++W5 (F.ntmps-vs.size) undef,defers:=[] } w:=⟨I,β,Imm.le.refl I,KeptE.refl _ β,T,⟨ZfL.2 rfl,by simp;omega⟩,R⟩
      cases hx:Zak (Zay (Zka P ann) prim bf n) bf σ.length n (Zbf P { ann f with nt:=F.ntmps } body) (enterA 0 args []) σ with
      |none=>rw[hx]at h;simp only[Zap]at h;cases h
      |some q =>
       obtain⟨e,tm',σ1⟩:=q
       rw[hx]at h
       have fin:(match resA tm' σ1 rs with |some r=>Z4 σ.length σ1 r |none=>none)=some (r,σ')->∀ a' w',StF Zb3 σ.length F.ntmps base w0 I0 I β tm' σ1 a' w'->a'.defers=[]/\∃ v,(results F a'.tmps).run P w'=.ok v w'/\∃ u,Ends r (.returned v) u/\ZbW σ.length base w0 I0 I β r σ' u w':=by
        intro hr a' w' ⟨I1,β1,g1,g2,g3,g4,g5⟩
        split at hr
        ·rename_i x hx1
         obtain⟨v,h1,h2⟩:=ZAo g3 g5 hrs hx1
         have hnp:∀ y,x≠.pan y:=by rintro y rfl;simp only[VR]at h2
         obtain⟨q1,q2⟩:=Zlk (⟨I1,β1,g1,g2,g5,by rw[ZgO hnp];exact h2⟩:ZbW σ.length base w0 I0 I β x σ1 v w') hr
         refine⟨ZfL.1 g4.1,v,h1,v,q2 _ ?_,q1⟩
         cases x<;>first |rfl |exact absurd rfl (hnp _)
        ·cases hr
       refine ZjL (dr:=Zb3) (an:={ ann f with nt:=F.ntmps }) ih (fun n hn=>by simp[Zb3]at hn) hm hb σ.length n rfl hst hx ?_
       cases e with
       |normal=>simp only[Zap]at h;exact fun a' w' hs=>fin h a' w' hs
       |ret=>simp only[Zap]at h;exact fun a' w' hs=>fin h a' w' hs
       |exit id=>simp only[Zap]at h;cases h
       |panic x =>
        simp only[Zap]at h
        intro a' u w' hd hp
        obtain⟨q1,q2⟩:=Zlk hp h
        exact⟨ZfL.1 hd,u,q2 _ rfl,q1⟩
     ·cases hfn
   ·cases hfn
  ·cases hfn
end
end
section
open Go.RowKit
def OLe(O O':ZV):Prop:=∀ f a σ r,O f a σ=some r->O' f a σ=some r
section
variable {O O':ZV}{bf:Nat->Bool}
theorem ZC1{view:Bool}{m:Nat}{x y:Option (AVal×Za)}(h:∀ r,x=some r->y=some r){r:AVal×Za}(hr:Z3 view m x=some r):Z3 view m y=some r:=by
 cases x with
 |none=>cases view<;>simp[Z3,ZbB]at hr
 |some q=>rw[h q rfl];exact hr
theorem ZKy{σ σf:Za}{ids ts:List Nat}{sq own:Nat}{x y:Option (AVal×Za)}(h:∀ r,x=some r->y=some r){r:AVal×Za×Cls}(hr:ZaA σ σf ids ts sq own x=some r):ZaA σ σf ids ts sq own y=some r:=by
 cases x with
 |none=>simp only[ZaA]at hr;cases hr
 |some q=>rw[h q rfl];exact hr
theorem ZqE(hO:OLe O O'){σ:Za}{sq f own:Nat}{view:Bool}{args:List AVal}{r:AVal×Za×Cls}(h:Zj O bf σ sq f own view args=some r):Zj O' bf σ sq f own view args=some r:=by
 unfold Zj ZbK at h⊢
 split at h
 ·cases h
 ·rename_i vs ts hv
  split at h
  ·rename_i hc
   simp only[hc,if_true]
   exact ZKy (fun q hq=>ZC1 (fun q hq=>hO _ _ _ _ hq) hq) h
  ·cases h
theorem ZNB(hO:OLe O O'){tm:Tms}{σ:Za}{sq:Nat}{ins:Ins}{r:AVal×Za×Cls}(h:execI O bf tm σ sq ins=some r):execI O' bf tm σ sq ins=some r:=by
 cases ins
 case call f own view args =>
  simp only[execI]at h⊢
  exact ZqE hO h
 case callv x args =>
  simp only[execI]at h⊢
  split at h
  ·exact ZqE hO h
  ·cases h
 all_goals exact h
theorem Zsr(hO:OLe O O'){o:AOp}{tm:Tms}{σ:Za}{sq:Nat}{r:AVal×Tms×Za×Cls}(h:ZQ O bf o sq tm σ=some r):ZQ O' bf o sq tm σ=some r:=by
 unfold ZQ at h⊢
 split at h
 ·cases h
 ·exact h
 ·split at h
  ·rename_i hf
   rw[if_pos hf]
   split at h
   ·rename_i he;rw[ZNB hO he];exact h
   ·cases h
  ·cases h
theorem Zpx(hO:OLe O O'):∀ {ops:List AOp} {s:Nat} {tm:Tms} {σ:Za} {r:Tms×Za×List Cls×Option AVal},Z8 O bf ops s tm σ=some r->Z8 O' bf ops s tm σ=some r
 | [],_,_,_,_,h=>h
 |o::ops,s,tm,σ,r,h=>by
  simp only[Z8]at h⊢
  split at h
  ·cases h
  ·rename_i h1
   rw[Zsr hO h1]
   exact h
  ·rename_i v tm1 σ1 c hnp h1
   rw[Zsr hO h1]
   simp only
   split at h
   ·cases h
   rename_i h2
   rw[Zpx hO h2]
   exact h
theorem Zzw(hO:OLe O O'){ops:List AOp}{chk:Option (List (Nat×Nat))}{live:List Nat}{tm:Tms}{σ:Za}{r:Zbe×Tms×Za}(h:Zcd O bf ops chk live tm σ=some r):Zcd O' bf ops chk live tm σ=some r:=by
 unfold Zcd at h⊢
 cases hx:Z8 O bf ops σ.length tm (σ++Xz (sitesOf ops) .free)with
 |none=>rw[hx]at h;simp only[Zdg]at h;cases h
 |some q=>rw[Zpx hO hx];rw[hx]at h;exact h
theorem ZmX{m0:Nat}{live:List Nat}{f f':Tms->Za->Option (Zbe×Tms×Za)}(hf:∀ tm σ r,f tm σ=some r->f' tm σ=some r):∀ {n n':Nat} {tm:Tms} {σ:Za} {r:Zbe×Tms×Za},n<=n'->Zd1 m0 live f n tm σ=some r->Zd1 m0 live f' n' tm σ=some r
 |0,_,_,_,_,_,h=>by simp only[Zd1]at h;cases h
 |n+1,0,_,_,_,hn,_=>by omega
 |n+1,n'+1,tm,σ,r,hn,h=>by
  simp only[Zd1]at h⊢
  split at h
  ·rename_i h1
   rw[hf _ _ _ h1]
   exact ZmX hf (by omega) h
  ·rename_i hne
   rw[hf _ _ _ h]
   split
   ·rename_i e;injection e with e;subst e;exact absurd h (hne _ _)
   ·rfl
theorem ZdS(hO:OLe O O'){m0:Nat}:∀ {c:Ze} {n n':Nat} {tm:Tms} {σ:Za} {r:Zbe×Tms×Za},n<=n'->Zak O bf m0 n c tm σ=some r->Zak O' bf m0 n' c tm σ=some r:=by
 intro c
 induction c with
 |skip=>intro n n' tm σ r _ h;exact h
 |exit id=>intro n n' tm σ r _ h;exact h
 |ret=>intro n n' tm σ r _ h;exact h
 |stuck=>intro n n' tm σ r _ h;exact h
 |region ops chk live =>
  intro n n' tm σ r _ h
  simp only[Zak]at h⊢
  exact Zzw hO h
 |seq a b iha ihb =>
  intro n n' tm σ r hn h
  simp only[Zak]at h⊢
  split at h
  ·rename_i h1;rw[iha hn h1];exact ihb hn h
  ·rename_i hne
   rw[iha hn h]
   split
   ·rename_i e;injection e with e;subst e;exact absurd h (hne _ _)
   ·rfl
 |cond c a b iha ihb =>
  intro n n' tm σ r hn h
  simp only[Zak]at h⊢
  split at h
  ·exact iha hn h
  ·exact ihb hn h
  ·cases h
 |block id c ih =>
  intro n n' tm σ r hn h
  simp only[Zak]at h⊢
  split at h
  ·rename_i h1;rw[ih hn h1];exact h
  ·rename_i hne
   rw[ih hn h]
   split
   ·rename_i e;injection e with e;subst e;exact absurd h (hne _ _ _)
   ·rfl
 |loop live c ih =>
  intro n n' tm σ r hn h
  simp only[Zak]at h⊢
  exact ZmX (fun tm σ r h=>ih hn h) hn h
theorem ZkW{m0:Nat}{fn:ZA}{x y:Option (Zbe×Tms×Za)}(h:∀ r,x=some r->y=some r){r:AVal×Za}(hr:Zap m0 fn x=some r):Zap m0 fn y=some r:=by
 cases x with
 |none=>simp only[Zap]at hr;cases hr
 |some q=>rw[h q rfl];exact hr
theorem Zy2(fs:Nat->Option ZA)(prim:Zcu):∀ n,OLe (Zay fs prim bf n) (Zay fs prim bf (n+1))
 |0=>by intro f a σ r h;simp only[Zay]at h;cases h
 |n+1=>by
  intro f a σ r h
  rw[Zay]at h⊢
  split at h
  ·rename_i g hg;exact h
  ·rename_i hg
   split at h
   ·cases h
   ·rename_i fn hfn
    exact ZkW (fun q hq=>ZdS (Zy2 fs prim n) (by omega) hq) h
theorem ZhG (fs : Nat -> Option ZA) (prim : Zcu) {n m : Nat} (h : n <= m) : OLe (Zay fs prim bf n) (Zay fs prim bf m) := by
  induction m with
  | zero => obtain rfl : n = 0 := by omega
            exact fun _ _ _ _ h => h
  | succ m ih =>
    by_cases e : n = m + 1
    . subst e; exact fun _ _ _ _ h => h
    . exact fun f a σ r hr => Zy2 fs prim m f a σ r (ih (by omega) f a σ r hr)
end
section
variable (fs:Nat->Option ZA)(prim:Zcu)(bf:Nat->Bool)
open Classical in
noncomputable def EV:ZV:=fun f args σ=>if h:∃ r,∃ n,Zay fs prim bf n f args σ=some r then some h.choose else none
open Classical in
noncomputable def evC(m:Nat)(c:Ze)(tm:Tms)(σ:Za):Option (Zbe×Tms×Za):=if h:∃ r,∃ n,Zak (Zay fs prim bf n) bf m n c tm σ=some r then some h.choose else none
variable {fs prim bf}{m0:Nat}
theorem ZbQ{f:Nat}{args:List AVal}{σ:Za}{r:AVal×Za}:EV fs prim bf f args σ=some r↔∃ n,Zay fs prim bf n f args σ=some r:=by
 unfold EV
 constructor
 ·intro h
  split at h
  ·rename_i hx
   injection h with h
   rw[<-h]
   exact hx.choose_spec
  ·cases h
 ·rintro⟨n,hn⟩
  have hx:∃ r,∃ n,Zay fs prim bf n f args σ=some r:=⟨r,n,hn⟩
  rw[dif_pos hx]
  obtain⟨m,hm⟩:=hx.choose_spec
  have h1:=ZhG (bf:=bf) fs prim (W6 n m) _ _ _ _ hn
  have h2:=ZhG (bf:=bf) fs prim (WT n m) _ _ _ _ hm
  rw[h1]at h2
  injection h2 with h2
  rw[<-h2]
theorem ZbF{c:Ze}{tm:Tms}{σ:Za}{r:Zbe×Tms×Za}:evC fs prim bf m0 c tm σ=some r↔∃ n,Zak (Zay fs prim bf n) bf m0 n c tm σ=some r:=by
 unfold evC
 constructor
 ·intro h
  split at h
  ·rename_i hx
   injection h with h
   rw[<-h]
   exact hx.choose_spec
  ·cases h
 ·rintro⟨n,hn⟩
  have hx:∃ r,∃ n,Zak (Zay fs prim bf n) bf m0 n c tm σ=some r:=⟨r,n,hn⟩
  rw[dif_pos hx]
  obtain⟨m,hm⟩:=hx.choose_spec
  have h1:=ZdS (ZhG (bf:=bf) fs prim (W6 n m)) (W6 n m) hn
  have h2:=ZdS (ZhG (bf:=bf) fs prim (WT n m)) (WT n m) hm
  rw[h1]at h2
  injection h2 with h2
  rw[<-h2]
theorem Zf5{α:Type}{x y:Option α}(h:∀ r,x=some r↔y=some r):x=y:=by
 cases x with
 |none =>
  cases y with
  |none=>rfl
  |some q=>exact absurd ((h q).2 rfl) (by simp)
 |some q=>exact((h q).1 rfl).symm
theorem ZSS(n:Nat):OLe (Zay fs prim bf n) (EV fs prim bf):=fun _ _ _ _ h=>ZbQ.2 ⟨n,h⟩
theorem up{n m:Nat}(h:n<=m):OLe (Zay fs prim bf n) (Zay fs prim bf m):=ZhG fs prim h
theorem Zwx{f:Nat}{g:List AVal->Za->Option (AVal×Za)}(hp:prim f=some g)(args:List AVal)(σ:Za):EV fs prim bf f args σ=g args σ:=by
 apply Zf5
 intro r
 rw[ZbQ]
 constructor
 ·rintro⟨n,h⟩
  cases n with
  |zero=>simp only[Zay]at h;cases h
  |succ n=>rw[Zay,hp]at h;exact h
 ·intro h
  exact⟨1,by rw[Zay,hp];exact h⟩
theorem Zu0{f:Nat}{fn:ZA}(hp:prim f=none)(hf:fs f=some fn)(args:List AVal)(σ:Za):EV fs prim bf f args σ=Zap σ.length fn (evC fs prim bf σ.length fn.body (enterA 0 args []) σ):=by
 apply Zf5
 intro r
 rw[ZbQ]
 constructor
 ·rintro⟨n,h⟩
  cases n with
  |zero=>simp only[Zay]at h;cases h
  |succ n =>
   rw[Zay,hp,hf]at h
   exact ZkW (fun q hq=>ZbF.2 ⟨n,hq⟩) h
 ·intro h
  cases hx:evC fs prim bf σ.length fn.body (enterA 0 args []) σ with
  |none=>rw[hx]at h;simp only[Zap]at h;cases h
  |some q =>
   obtain⟨n,hn⟩:=ZbF.1 hx
   refine⟨n+1,?_⟩
   rw[Zay,hp,hf]
   rw[hx]at h
   exact ZkW (x:=some q) (fun q' hq'=>by injection hq' with hq';subst hq';exact hn) h
theorem Zzz{σ:Za}{sq f own:Nat}{view:Bool}{args:List AVal}{r:AVal×Za×Cls}(h:Zj (EV fs prim bf) bf σ sq f own view args=some r):∃ n,Zj (Zay fs prim bf n) bf σ sq f own view args=some r:=by
 unfold Zj ZbK at h⊢
 split at h
 ·cases h
 ·rename_i vs ts hv
  split at h
  ·rename_i hc
   simp only[hc,if_true]
   cases hx:EV fs prim bf f (Zh (Zk (Zr σ ts) 0 (Zs (Zr σ ts) 1000 (Zt vs) [])) vs) (Zn (Zr σ ts) 0 (Zs (Zr σ ts) 1000 (Zt vs) []) (Zk (Zr σ ts) 0 (Zs (Zr σ ts) 1000 (Zt vs) [])) (Zs (Zr σ ts) 1000 (Zt vs) []) 0)with
   |none =>
    rw[hx]at h
    cases view<;>simp[Z3,ZbB,ZaA]at h
   |some q =>
    obtain⟨n,hn⟩:=ZbQ.1 hx
    exact⟨n,by rw[hn];rw[hx]at h;exact h⟩
  ·cases h
theorem ZHo{tm:Tms}{σ:Za}{sq:Nat}{ins:Ins}{r:AVal×Za×Cls}(h:execI (EV fs prim bf) bf tm σ sq ins=some r):∃ n,execI (Zay fs prim bf n) bf tm σ sq ins=some r:=by
 cases ins
 case call f own view args =>
  simp only[execI]at h⊢
  exact Zzz h
 case callv x args =>
  simp only[execI]at h⊢
  split at h
  ·exact Zzz h
  ·cases h
 all_goals exact⟨0,h⟩
theorem ZwO{o:AOp}{tm:Tms}{σ:Za}{sq:Nat}{r:AVal×Tms×Za×Cls}(h:ZQ (EV fs prim bf) bf o sq tm σ=some r):∃ n,ZQ (Zay fs prim bf n) bf o sq tm σ=some r:=by
 unfold ZQ at h⊢
 split at h
 ·cases h
 ·exact⟨0,h⟩
 ·split at h
  ·rename_i hf
   simp only[hf,if_true]
   split at h
   ·rename_i he
    obtain⟨n,hn⟩:=ZHo he
    exact⟨n,by rw[hn];exact h⟩
   ·cases h
  ·cases h
theorem Zvl:∀ {ops:List AOp} {s:Nat} {tm:Tms} {σ:Za} {r:Tms×Za×List Cls×Option AVal},Z8 (EV fs prim bf) bf ops s tm σ=some r->∃ n,Z8 (Zay fs prim bf n) bf ops s tm σ=some r
 | [],_,_,_,_,h=>⟨0,h⟩
 |o::ops,s,tm,σ,r,h=>by
  simp only[Z8]at h⊢
  split at h
  ·cases h
  ·rename_i h1
   obtain⟨n,hn⟩:=ZwO h1
   exact⟨n,by rw[hn];exact h⟩
  rename_i v tm1 σ1 c hnp h1
  split at h
  ·cases h
  rename_i h2
  obtain⟨n,hn⟩:=ZwO h1
  obtain⟨m,hm⟩:=Zvl h2
  refine⟨max n m,?_⟩
  rw[Zsr (up (W6 n m)) hn]
  simp only
  rw[Zpx (up (WT n m)) hm]
  exact h
theorem ZOg{ops:List AOp}{chk:Option (List (Nat×Nat))}{live:List Nat}{tm:Tms}{σ:Za}{r:Zbe×Tms×Za}(h:Zcd (EV fs prim bf) bf ops chk live tm σ=some r):∃ n,Zcd (Zay fs prim bf n) bf ops chk live tm σ=some r:=by
 unfold Zcd at h⊢
 cases hx:Z8 (EV fs prim bf) bf ops σ.length tm (σ++Xz (sitesOf ops) .free)with
 |none=>rw[hx]at h;simp only[Zdg]at h;cases h
 |some q =>
  obtain⟨n,hn⟩:=Zvl hx
  exact⟨n,by rw[hn];rw[hx]at h;exact h⟩
theorem ZHH(tm:Tms)(σ:Za):evC fs prim bf m0 .skip tm σ=some (.normal,tm,σ):=ZbF.2 ⟨0,rfl⟩
theorem ZIp(id:Nat)(tm:Tms)(σ:Za):evC fs prim bf m0 (.exit id) tm σ=some (.exit id,tm,σ):=ZbF.2 ⟨0,rfl⟩
theorem ZN1(tm:Tms)(σ:Za):evC fs prim bf m0 .ret tm σ=some (.ret,tm,σ):=ZbF.2 ⟨0,rfl⟩
theorem ZXz{ops:List AOp}{chk:Option (List (Nat×Nat))}{live:List Nat}{tm:Tms}{σ:Za}:evC fs prim bf m0 (.region ops chk live) tm σ=Zcd (EV fs prim bf) bf ops chk live tm σ:=by
 apply Zf5
 intro r
 rw[ZbF]
 constructor
 ·rintro⟨n,hn⟩
  simp only[Zak]at hn
  exact Zzw (ZSS n) hn
 ·intro h
  obtain⟨n,hn⟩:=ZOg h
  exact⟨n,by simp only[Zak];exact hn⟩
theorem ZjB{a b:Ze}{tm tm':Tms}{σ σ':Za}(h:evC fs prim bf m0 a tm σ=some (.normal,tm',σ')):evC fs prim bf m0 (.seq a b) tm σ=evC fs prim bf m0 b tm' σ':=by
 obtain⟨n,hn⟩:=ZbF.1 h
 apply Zf5
 intro r
 rw[ZbF,ZbF]
 constructor
 ·rintro⟨m,hm⟩
  have h1:=ZdS (up (W6 n m)) (W6 n m) hn
  have h2:=ZdS (up (WT n m)) (WT n m) hm
  simp only[Zak,h1]at h2
  exact⟨_,h2⟩
 ·rintro⟨m,hm⟩
  have h1:=ZdS (up (W6 n m)) (W6 n m) hn
  have h2:=ZdS (up (WT n m)) (WT n m) hm
  exact⟨max n m,by simp only[Zak,h1];exact h2⟩
theorem Zj5{a b:Ze}{tm tm':Tms}{σ σ':Za}{e:Zbe}(he:e≠.normal)(h:evC fs prim bf m0 a tm σ=some (e,tm',σ')):evC fs prim bf m0 (.seq a b) tm σ=some (e,tm',σ'):=by
 obtain⟨n,hn⟩:=ZbF.1 h
 refine ZbF.2 ⟨n,?_⟩
 simp only[Zak,hn]
 cases e with
 |normal=>exact absurd rfl he
 |exit id=>rfl
 |ret=>rfl
 |panic x=>rfl
def ZaK(id:Nat):Zbe×Tms×Za->Zbe×Tms×Za
 |(.exit i,tm,σ)=>if i=id then(.normal,tm,σ)else(.exit i,tm,σ)
 |r=>r
theorem ZUU{id:Nat}{c:Ze}{tm:Tms}{σ:Za}:evC fs prim bf m0 (.block id c) tm σ=(evC fs prim bf m0 c tm σ).map (ZaK id):=by
 have step:∀ n,Zak (Zay fs prim bf n) bf m0 n (.block id c) tm σ=(Zak (Zay fs prim bf n) bf m0 n c tm σ).map (ZaK id):=by
  intro n
  simp only[Zak]
  cases Zak (Zay fs prim bf n) bf m0 n c tm σ with
  |none=>rfl
  |some q =>
   obtain⟨e,tm1,σ1⟩:=q
   cases e with
   |normal=>rfl
   |ret=>rfl
   |panic x=>rfl
   |exit i=>simp only[X8,ZaK];split<;>rfl
 apply Zf5;intro r
 rw[ZbF]
 simp only[step,Xq]
 constructor
 ·rintro⟨n,q,h1,h2⟩;exact⟨q,ZbF.2 ⟨n,h1⟩,h2⟩
 ·rintro⟨q,h1,h2⟩;obtain⟨n,hn⟩:=ZbF.1 h1;exact⟨n,q,hn,h2⟩
theorem ZNY{c:Ze}{tm:Tms}{σ:Za}(h:evC fs prim bf m0 c tm σ=none)(n:Nat):Zak (Zay fs prim bf n) bf m0 n c tm σ=none:=by
 cases hx:Zak (Zay fs prim bf n) bf m0 n c tm σ with
 |none=>rfl
 |some r=>rw[ZbF.2 ⟨n,hx⟩]at h;cases h
variable (fs prim bf m0)in
noncomputable def Zbo(b:Ze):Option (Zbe×Tms×Za)->Option (Zbe×Tms×Za)
 |some (.normal,tm,σ)=>evC fs prim bf m0 b tm σ
 |r=>r
theorem ZRV{a b:Ze}{tm:Tms}{σ:Za}:evC fs prim bf m0 (.seq a b) tm σ=Zbo fs prim bf m0 b (evC fs prim bf m0 a tm σ):=by
 cases h:evC fs prim bf m0 a tm σ with
 |none =>
  simp only[Zbo]
  apply Zf5;intro r
  rw[ZbF]
  constructor
  ·rintro⟨n,hn⟩
   simp only[Zak,ZNY h n]at hn
   cases hn
  ·intro h;cases h
 |some q =>
  obtain⟨e,tm',σ'⟩:=q
  cases e with
  |normal=>exact ZjB h
  |exit id=>exact Zj5 (by simp) h
  |ret=>exact Zj5 (by simp) h
  |panic x=>exact Zj5 (by simp) h
variable (fs prim bf m0)in
noncomputable def Zks(a b:Ze)(tm:Tms)(σ:Za):AVal->Option (Zbe×Tms×Za)
 | .bool true=>evC fs prim bf m0 a tm σ
 | .bool false=>evC fs prim bf m0 b tm σ
 |_=>none
theorem ZUn{c:Opd}{a b:Ze}{tm:Tms}{σ:Za}:evC fs prim bf m0 (.cond c a b) tm σ=Zks fs prim bf m0 a b tm σ (c.ev tm):=by
 apply Zf5;intro r
 rw[ZbF]
 simp only[Zak]
 constructor
 ·rintro⟨n,hn⟩
  split at hn
  ·rename_i e;rw[e];simp only[Zks];exact ZbF.2 ⟨n,hn⟩
  ·rename_i e;rw[e];simp only[Zks];exact ZbF.2 ⟨n,hn⟩
  ·cases hn
 ·intro h
  unfold Zks at h
  split at h
  ·rename_i e;obtain⟨n,hn⟩:=ZbF.1 h;exact⟨n,by rw[e];exact hn⟩
  ·rename_i e;obtain⟨n,hn⟩:=ZbF.1 h;exact⟨n,by rw[e];exact hn⟩
  ·cases h
variable (fs prim bf m0)in
noncomputable def evL(live:List Nat)(c:Ze)(tm:Tms)(σ:Za):Option (Zbe×Tms×Za) :=
 match evC fs prim bf m0 c tm σ with
 |some (.normal,tm',σ')=>evC fs prim bf m0 (.loop live c) tm' σ'
 |r=>r
theorem Zwt{live:List Nat}{c:Ze}{tm:Tms}{σ:Za}:evC fs prim bf m0 (.loop live c) tm σ=evL fs prim bf m0 live c (gcT m0 (keepL live tm) σ).1 (gcT m0 (keepL live tm) σ).2:=by
 apply Zf5;intro r
 rw[ZbF]
 constructor
 ·rintro⟨n,hn⟩
  simp only[Zak]at hn
  cases n with
  |zero=>simp only[Zd1]at hn;cases hn
  |succ k =>
   simp only[Zd1]at hn
   unfold evL
   cases hx:Zak (Zay fs prim bf (k+1)) bf m0 (k+1) c (gcT m0 (keepL live tm) σ).1 (gcT m0 (keepL live tm) σ).2 with
   |none=>rw[hx]at hn;cases hn
   |some q =>
    rw[ZbF.2 ⟨_,hx⟩]
    rw[hx]at hn
    obtain⟨e,tm',σ'⟩:=q
    cases e with
    |normal =>
     simp only at hn ⊢
     exact ZbF.2 ⟨k+1,by simp only[Zak];exact ZmX (fun _ _ _ h=>h) (by omega) hn⟩
    |exit id=>exact hn
    |ret=>exact hn
    |panic x=>exact hn
 ·intro h
  unfold evL at h
  cases hx:evC fs prim bf m0 c (gcT m0 (keepL live tm) σ).1 (gcT m0 (keepL live tm) σ).2 with
  |none=>rw[hx]at h;cases h
  |some q =>
   rw[hx]at h
   obtain⟨n,hn⟩:=ZbF.1 hx
   obtain⟨e,tm',σ'⟩:=q
   have out:e≠.normal->some (e,tm',σ')=some r->∃ n,Zak (Zay fs prim bf n) bf m0 n (.loop live c) tm σ=some r:=by
    intro he h
    refine⟨n+1,?_⟩
    have h1:=ZdS (up (show n<=n+1 by omega)) (show n<=n+1 by omega) hn
    simp only[Zak,Zd1,h1]
    cases e with
    |normal=>exact absurd rfl he
    |exit id=>exact h
    |ret=>exact h
    |panic x=>exact h
   cases e with
   |normal =>
    simp only at h
    obtain⟨m,hm⟩:=ZbF.1 h
    have h1:=ZdS (up (show n<=max n m+1 by omega)) (show n<=max n m+1 by omega) hn
    have h2:=ZdS (up (show m<=max n m+1 by omega)) (XF m) hm
    simp only[Zak]at h2
    refine⟨max n m+1,?_⟩
    simp only[Zak,Zd1,h1]
    exact ZmX (fun tm σ r h=>ZdS (fun _ _ _ _ h=>h) (by omega) h) (by omega) h2
   |exit id=>exact out (by simp) h
   |ret=>exact out (by simp) h
   |panic x=>exact out (by simp) h
theorem ZUH{P:Program}(hm:P.follows .mixedOrders=true){prim:Zcu}(hP:ZlO P prim)(ann:Nat->Ann)(bf:Nat->Bool):ZaO P (EV (Zka P ann) prim bf):=by
 intro f args σ r σ' h
 obtain⟨n,hn⟩:=ZbQ.1 h
 exact Zp9 hm hP ann bf n f args σ r σ' hn
end
end
section
open Go.RowKit
def ZvO:Tms×Za×List Cls×Option AVal->Tms×Za×Option AVal:=fun q=>(q.1,q.2.1,q.2.2.2)
def Zbd:AVal->Bool
 | .pan _=>true
 |_=>false
section
variable (O:ZV)(bf:Nat->Bool)
def exI(i:Ins)(s:Nat)(tm:Tms)(σ:Za):Option (AVal×Za×Cls) :=
 if nsite i==0 ||freeAt σ s then execI O bf tm σ s i else none
def ZbC(ops:List AOp)(s:Nat)(tm:Tms)(σ:Za):Option (Tms×Za×Option AVal):=(Z8 O bf ops s tm σ).map ZvO
def kN(d:Option Nat)(os:List AOp)(s:Nat)(tm:Tms):Option (AVal×Za×Cls)->Option (Tms×Za×Option AVal)
 |none=>none
 |some (v,σ,_)=>if Zbd v then some (tput tm d v,σ,some (Zbg v))else ZbC O bf os s (tput tm d v) σ
def ZnR(live:List Nat):Option (Tms×Za×Option AVal)->Option (Zbe×Tms×Za)
 |none=>none
 |some (_,σ,some x)=>some (.panic x,[],σ)
 |some (tm,σ,none)=>some (.normal,keepL live tm,σ)
variable {O bf}
theorem Zzl(s:Nat)(tm:Tms)(σ:Za):ZbC O bf [] s tm σ=some (tm,σ,none):=rfl
theorem ZjV{o:AOp}{os:List AOp}{s:Nat}{tm:Tms}{σ:Za}(h:ZQ O bf o s tm σ=none):Z8 O bf (o::os) s tm σ=none:=by simp only[Z8,h]
theorem Zli{o:AOp}{os:List AOp}{s:Nat}{tm tm1:Tms}{σ σ1:Za}{x:AVal}{c:Cls}(h:ZQ O bf o s tm σ=some (.pan x,tm1,σ1,c)):Z8 O bf (o::os) s tm σ=some (tm1,σ1,[c],some x):=by simp only[Z8,h]
theorem Zx5{o:AOp}{os:List AOp}{s:Nat}{tm tm1:Tms}{σ σ1:Za}{v:AVal}{c:Cls}(h:ZQ O bf o s tm σ=some (v,tm1,σ1,c))(hn:Zbd v=false):Z8 O bf (o::os) s tm σ=(Z8 O bf os (s+nsite o.ins) tm1 σ1).map fun q=>(q.1,q.2.1,c::q.2.2.1,q.2.2.2):=by
 simp only[Z8,h]
 cases v<;>first
  |(simp[Zbd]at hn;done)
  |(simp only;cases Z8 O bf os (s+nsite o.ins) tm1 σ1<;>rfl)
theorem ZoD{o:AOp}{os:List AOp}{s:Nat}{tm:Tms}{σ:Za}(h:ZQ O bf o s tm σ=none):ZbC O bf (o::os) s tm σ=none:=by simp only[ZbC,ZjV h,Option.map_none]
theorem Zuj{o:AOp}{os:List AOp}{s:Nat}{tm tm1:Tms}{σ σ1:Za}{x:AVal}{c:Cls}(h:ZQ O bf o s tm σ=some (.pan x,tm1,σ1,c)):ZbC O bf (o::os) s tm σ=some (tm1,σ1,some x):=by simp only[ZbC,Zli h,X8,ZvO]
theorem Zoh{o:AOp}{os:List AOp}{s:Nat}{tm tm1:Tms}{σ σ1:Za}{v:AVal}{c:Cls}(h:ZQ O bf o s tm σ=some (v,tm1,σ1,c))(hn:Zbd v=false):ZbC O bf (o::os) s tm σ=ZbC O bf os (s+nsite o.ins) tm1 σ1:=by
 simp only[ZbC,Zx5 h hn,Option.map_map]
 rfl
theorem ZnS{v:AVal}(h:Zbd v=true):∃ x,v=.pan x:=by
 cases v<;>first |exact⟨_,rfl⟩ |(simp[Zbd]at h;done)
theorem Zmr{d:Option Nat}{i:Ins}{af:List Nat}{s:Nat}{tm:Tms}{σ:Za}:ZQ O bf ⟨d,i,none,af⟩ s tm σ=(exI O bf i s tm σ).map fun q=>(q.1,tput tm d q.1,q.2.1,q.2.2):=by
 unfold ZQ exI
 simp only[ZbM]
 split
 ·cases execI O bf tm σ s i with
  |none=>rfl
  |some q=>rfl
 ·rfl
theorem ZuA(d:Option Nat)(i:Ins)(af:List Nat)(os:List AOp)(s:Nat)(tm:Tms)(σ:Za):ZbC O bf (⟨d,i,none,af⟩::os) s tm σ=kN O bf d os (s+nsite i) tm (exI O bf i s tm σ):=by
 cases h:exI O bf i s tm σ with
 |none=>exact ZoD (by rw[Zmr,h];rfl)
 |some q =>
  obtain⟨v,σ1,c⟩:=q
  have hs:ZQ O bf ⟨d,i,none,af⟩ s tm σ=some (v,tput tm d v,σ1,c):=by rw[Zmr,h];rfl
  cases hp:Zbd v with
  |true =>
   obtain⟨x,rfl⟩:=ZnS hp
   exact Zuj hs
  |false =>
   rw[Zoh hs hp]
   simp only[kN,hp,Xj,if_false]
theorem ZWU(ops:List AOp)(live:List Nat)(tm:Tms)(σ:Za):Zcd O bf ops none live tm σ=ZnR live (ZbC O bf ops σ.length tm (σ++Xz (sitesOf ops) .free)):=by
 unfold Zcd ZbC
 cases Z8 O bf ops σ.length tm (σ++Xz (sitesOf ops) .free)with
 |none=>rfl
 |some q =>
  obtain⟨tm',σ',cs,p⟩:=q
  cases p<;>rfl
theorem Zqu(d:Option Nat)(os:List AOp)(s:Nat)(tm:Tms)(v:AVal)(σ:Za)(c:Cls)(h:Zbd v=false):kN O bf d os s tm (some (v,σ,c))=ZbC O bf os s (tput tm d v) σ:=by
 simp only[kN,h,Xj,if_false]
theorem ZQ8(d:Option Nat)(os:List AOp)(s:Nat)(tm:Tms)(x:AVal)(σ:Za)(c:Cls):kN O bf d os s tm (some (.pan x,σ,c))=some (tput tm d (.pan x),σ,some x):=rfl
theorem ZM5(d:Option Nat)(os:List AOp)(s:Nat)(tm:Tms):kN O bf d os s tm none=none:=rfl
structure GOp where
 guard:Option (Nat×Bool)
 ops:List AOp
def Zad:List AOp->Tms->Tms
 | [],tm=>tm
 |o::os,tm=>Zad os (tput tm o.dst (.tup []))
def unG(o:AOp):AOp:={ o with guard:=none }
variable (O bf)in
def Zft(j:Nat)(w:Bool)(g:List AOp)(s:Nat)(tm:Tms)(σ:Za):Option (Tms×Za×Option AVal):=match ZbM (some (j,w)) tm with
 |none=>none
 |some false=>some (Zad g tm,σ,none)
 |some true=>ZbC O bf (g.map unG) s tm σ
variable (O bf)in
def gK(os:List AOp)(s:Nat):Option (Tms×Za×Option AVal)->Option (Tms×Za×Option AVal)
 |none=>none
 |some (tm,σ,some x)=>some (tm,σ,some x)
 |some (tm,σ,none)=>ZbC O bf os s tm σ
def Zw(j:Nat)(w:Bool):List AOp->List AOp×List AOp
 | []=>([],[])
 |o::os=>match o.guard with
  |some (j',w')=>if j'=j/\w'=w/\o.dst≠some j then((o::(Zw j w os).1),(Zw j w os).2)else([],o::os)
  |none=>([],o::os)
theorem ZoP(j:Nat)(w:Bool):∀ os,(Zw j w os).1++(Zw j w os).2=os
 | []=>rfl
 |o::os=>by
  simp only[Zw]
  split
  ·split
   ·simp[ZoP j w os]
   ·rfl
  ·rfl
theorem Zo6(j:Nat)(w:Bool):∀ os,∀ o∈(Zw j w os).1,o.guard=some (j,w)/\o.dst≠some j
 | []=>by simp[Zw]
 |o::os=>by
  intro o' ho
  simp only[Zw]at ho
  split at ho
  ·rename_i j' w' hg
   split at ho
   ·rename_i hc
    rcases XR.1 ho with rfl |ho
    ·exact⟨by rw[hg,hc.1,hc.2.1],hc.2.2⟩
    ·exact Zo6 j w os o' ho
   ·simp at ho
  ·simp at ho
theorem ZTe{d:Option Nat}{v:AVal}{n:Nat}{tm:Tms}(h:d≠some n):tget (tput tm d v) n=tget tm n:=by
 cases d with
 |none=>rfl
 |some d =>
  have : d≠n:=by rintro rfl;exact h rfl
  simp only[tput,Zk4,this,if_false]
theorem Zgp{d:Option Nat}{v:AVal}{j:Nat}{w:Bool}{tm:Tms}(h:d≠some j):ZbM (some (j,w)) (tput tm d v)=ZbM (some (j,w)) tm:=by
 simp only[ZbM,ZTe h]
theorem Zys:∀ (a b:List AOp) (s:Nat) (tm:Tms) (σ:Za),ZbC O bf (a++b) s tm σ=gK O bf b (s+sitesOf a) (ZbC O bf a s tm σ)
 | [],b,s,tm,σ=>by simp[Zzl,gK,sitesOf]
 |o::a,b,s,tm,σ=>by
  have ih:=Zys a b
  simp only[XV]
  have hs:s+nsite o.ins+sitesOf a=s+sitesOf (o::a):=by simp[sitesOf,WC]
  cases hst:ZQ O bf o s tm σ with
  |none=>rw[ZoD hst,ZoD hst];rfl
  |some q =>
   obtain⟨v,tm1,σ1,c⟩:=q
   cases hp:Zbd v with
   |true =>
    obtain⟨x,rfl⟩:=ZnS hp
    rw[Zuj hst,Zuj hst];rfl
   |false=>rw[Zoh hst hp,Zoh hst hp,ih,hs]
theorem Zxh(j:Nat)(w:Bool):∀ (g:List AOp),(∀ o∈g,o.guard=some (j,w)/\o.dst≠some j)->∀ (s:Nat) (tm:Tms) (σ:Za),g≠[]->ZbC O bf g s tm σ=Zft O bf j w g s tm σ
 | [],_,_,_,_,h=>absurd rfl h
 |o::g,hall,s,tm,σ,_=>by
  obtain⟨hg,hd⟩:=hall o (by simp)
  have ih:∀ (tm:Tms) (σ:Za) (s:Nat),ZbM (some (j,w)) tm≠none->ZbC O bf g s tm σ=Zft O bf j w g s tm σ:=by
   intro tm σ s hw
   by_cases he:g=[]
   ·subst he
    unfold Zft
    cases hx:ZbM (some (j,w)) tm with
    |none=>exact absurd hx hw
    |some b=>cases b<;>rfl
   ·exact Zxh j w g (fun o ho=>hall o (by simp[ho])) s tm σ he
  cases hx:ZbM (some (j,w)) tm with
  |none =>
   rw[ZoD (by simp only[ZQ,hg,hx])]
   simp only[Zft,hx]
  |some b =>
   cases b with
   |false =>
    have h1:ZbC O bf (o::g) s tm σ=ZbC O bf g (s+nsite o.ins) (tput tm o.dst (.tup [])) σ :=
     Zoh (v:=.tup []) (c:={}) (by simp only[ZQ,hg,hx]) rfl
    rw[h1,ih _ _ _ (by rw[Zgp hd,hx];simp)]
    unfold Zft
    rw[Zgp hd,hx]
    rfl
   |true =>
    have key:∀ r:Option (AVal×Za×Cls),(∀ v σ' c,r=some (v,σ',c)->Zbd v=false->ZbC O bf g (s+nsite o.ins) (tput tm o.dst v) σ'=ZbC O bf (g.map unG) (s+nsite o.ins) (tput tm o.dst v) σ')->kN O bf o.dst g (s+nsite o.ins) tm r=kN O bf o.dst (g.map unG) (s+nsite o.ins) tm r:=by
     intro r hr
     cases r with
     |none=>rfl
     |some q =>
      obtain⟨v,σ',c⟩:=q
      cases hp:Zbd v with
      |true=>simp only[kN,hp,if_true]
      |false=>rw[Zqu _ _ _ _ _ _ _ hp,Zqu _ _ _ _ _ _ _ hp];exact hr v σ' c rfl hp
    have h1:ZbC O bf (o::g) s tm σ=kN O bf o.dst g (s+nsite o.ins) tm (exI O bf o.ins s tm σ):=by
     have h0:ZbC O bf (o::g) s tm σ=ZbC O bf (⟨o.dst,o.ins,none,o.after⟩::g) s tm σ:=by
      have hst:ZQ O bf o s tm σ=ZQ O bf ⟨o.dst,o.ins,none,o.after⟩ s tm σ:=by
       unfold ZQ
       simp only[hg,hx]
       rfl
      unfold ZbC
      simp only[Z8,hst]
     rw[h0,ZuA]
    rw[h1]
    unfold Zft
    rw[hx]
    simp only[Xm]
    rw[show unG o=⟨o.dst,o.ins,none,o.after⟩from rfl,ZuA]
    refine key _ fun v σ' c _ _=>?_
    rw[ih _ _ _ (by rw[Zgp hd,hx];simp)]
    unfold Zft
    rw[Zgp hd,hx]
theorem ZRJ(d:Option Nat)(i:Ins)(j:Nat)(w:Bool)(af:List Nat)(os:List AOp)(s:Nat)(tm:Tms)(σ:Za)(hd:decide (d=some j)=false) :
  ZbC O bf (⟨d,i,some (j,w),af⟩::os) s tm σ=gK O bf (Zw j w os).2 (s+sitesOf (⟨d,i,some (j,w),af⟩::(Zw j w os).1)) (Zft O bf j w (⟨d,i,some (j,w),af⟩::(Zw j w os).1) s tm σ):=by
 have h:=ZoP j w os
 have hall:∀ o∈(⟨d,i,some (j,w),af⟩::(Zw j w os).1:List AOp),o.guard=some (j,w)/\o.dst≠some j:=by
  intro o ho
  rcases XR.1 ho with rfl |ho
  ·exact⟨rfl,by simpa using hd⟩
  ·exact Zo6 j w os o ho
 rw[<-Zxh j w _ hall s tm σ (by simp),<-Zys,XV,h]
variable (O bf)in
def gW(w:Bool)(g:List AOp)(s:Nat)(tm:Tms)(σ:Za):AVal->Option (Tms×Za×Option AVal)
 | .bool b=>if b=w then ZbC O bf (g.map unG) s tm σ else some (Zad g tm,σ,none)
 | .tup []=>some (Zad g tm,σ,none)
 |_=>none
theorem ZR1(j:Nat)(w:Bool)(g:List AOp)(s:Nat)(tm:Tms)(σ:Za):Zft O bf j w g s tm σ=gW O bf w g s tm σ (tget tm j):=by
 unfold Zft ZbM
 simp only
 generalize tget tm j=v
 cases v
 case bool b=>cases b<;>cases w<;>rfl
 case tup vs=>cases vs<;>rfl
 all_goals rfl
theorem ZTq(w:Bool)(g:List AOp)(s:Nat)(tm:Tms)(σ:Za)(b:Bool):gW O bf w g s tm σ (.bool b)=if b=w then ZbC O bf (g.map unG) s tm σ else some (Zad g tm,σ,none):=rfl
theorem ZEz(w:Bool)(g:List AOp)(s:Nat)(tm:Tms)(σ:Za):gW O bf w g s tm σ (.tup [])=some (Zad g tm,σ,none):=rfl
theorem ZSV(os:List AOp)(s:Nat)(tm:Tms)(σ:Za):gK O bf os s (some (tm,σ,none))=ZbC O bf os s tm σ:=rfl
end
section
variable (c:Prop)[Decidable c]
theorem Zdm{α:Type}(a b:α)(x y:List α):(if c then a::x else b::y)=(if c then a else b)::(if c then x else y):=by split<;>rfl
theorem ZEH(k:IntKind)(a b:Int):(if c then AVal.int k a else AVal.int k b)=AVal.int k (if c then a else b):=by split<;>rfl
theorem ZPJ(a b:Bool):(if c then AVal.bool a else AVal.bool b)=AVal.bool (if c then a else b):=by split<;>rfl
theorem ZPb(a b:List UInt8):(if c then AVal.str a else AVal.str b)=AVal.str (if c then a else b):=by split<;>rfl
theorem ZBJ(p q:Bool)(a b:List AVal):(if c then AVal.lst p a else AVal.lst q b)=AVal.lst (if c then p else q) (if c then a else b):=by split<;>rfl
theorem ZO1(a b:List AVal):(if c then AVal.agg a else AVal.agg b)=AVal.agg (if c then a else b):=by split<;>rfl
theorem ZB3(a b:List AVal):(if c then ZO.var a else ZO.var b)=ZO.var (if c then a else b):=by split<;>rfl
theorem ZMd(g k:Nat)(a b:List AVal):(if c then ZO.row g k a else ZO.row g k b)=ZO.row g k (if c then a else b):=by split<;>rfl
theorem ZTU(t:Nat)(a b:Nat):(if c then AVal.ref t a else AVal.ref t b)=AVal.ref t (if c then a else b):=by split<;>rfl
theorem ZmH{α:Type}(x y z:α):(if c then(if c then x else y)else z)=if c then x else z:=by split<;>rfl
theorem ZAc{α:Type}(x y z:α):(if c then x else(if c then y else z))=if c then x else z:=by split<;>rfl
theorem ZO3(σ:Za)(a b:AVal)(p:Bool):ZgJ σ a b (.bool p)=some (if p=true then a else b,σ,{}):=by cases p<;>rfl
theorem ZP9(a b:AVal):Zbd (if c then a else b)=if c then Zbd a else Zbd b:=by split<;>rfl
end
section
variable {fs:Nat->Option ZA}{prim:Zcu}{bf:Nat->Bool}{m0:Nat}
theorem ZJY(p:Bool)(a b:Ze)(tm:Tms)(σ:Za):Zks fs prim bf m0 a b tm σ (.bool p)=if p=true then evC fs prim bf m0 a tm σ else evC fs prim bf m0 b tm σ:=by
 cases p<;>rfl
theorem ZQx(b:Ze)(tm:Tms)(σ:Za):Zbo fs prim bf m0 b (some (.normal,tm,σ))=evC fs prim bf m0 b tm σ:=rfl
theorem ZSb(b:Ze)(i:Nat)(tm:Tms)(σ:Za):Zbo fs prim bf m0 b (some (.exit i,tm,σ))=some (.exit i,tm,σ):=rfl
theorem ZUg(b:Ze)(tm:Tms)(σ:Za):Zbo fs prim bf m0 b (some (.ret,tm,σ))=some (.ret,tm,σ):=rfl
theorem ZWE(b:Ze)(x:AVal)(tm:Tms)(σ:Za):Zbo fs prim bf m0 b (some (.panic x,tm,σ))=some (.panic x,tm,σ):=rfl
theorem ZLS(c:Prop)[Decidable c](b:Ze)(x y:Option (Zbe×Tms×Za)):Zbo fs prim bf m0 b (if c then x else y)=if c then Zbo fs prim bf m0 b x else Zbo fs prim bf m0 b y:=by split<;>rfl
theorem ZJ1(id:Nat)(tm:Tms)(σ:Za):XZ (ZaK id) (some (.normal,tm,σ))=some (.normal,tm,σ):=rfl
theorem ZT1(id i:Nat)(tm:Tms)(σ:Za):XZ (ZaK id) (some (.exit i,tm,σ))=if i=id then some (.normal,tm,σ)else some (.exit i,tm,σ):=by
 simp only[X8,ZaK];split<;>rfl
theorem ZDF(id:Nat)(tm:Tms)(σ:Za):XZ (ZaK id) (some (.ret,tm,σ))=some (.ret,tm,σ):=rfl
theorem ZIc(id:Nat)(x:AVal)(tm:Tms)(σ:Za):XZ (ZaK id) (some (.panic x,tm,σ))=some (.panic x,tm,σ):=rfl
theorem ZO5(id:Nat)(c:Prop)[Decidable c](x y:Option (Zbe×Tms×Za)):XZ (ZaK id) (if c then x else y)=if c then XZ (ZaK id) x else XZ (ZaK id) y:=by split<;>rfl
theorem ZC7(m:Nat)(fn:ZA)(c:Prop)[Decidable c](x y:Option (Zbe×Tms×Za)):Zap m fn (if c then x else y)=if c then Zap m fn x else Zap m fn y:=by split<;>rfl
end
section
variable {fs:Nat->Option ZA}{prim:Zcu}{bf:Nat->Bool}{m0:Nat}
theorem ZBo{live:List Nat}{c:Ze}{tm tm':Tms}{σ σ':Za}(h:evC fs prim bf m0 c tm σ=some (.normal,tm',σ')):evL fs prim bf m0 live c tm σ=evL fs prim bf m0 live c (gcT m0 (keepL live tm') σ').1 (gcT m0 (keepL live tm') σ').2:=by
 unfold evL
 rw[h]
 simp only
 rw[Zwt]
 rfl
theorem ZWB{live:List Nat}{c:Ze}{tm tm':Tms}{σ σ':Za}{i:Nat}(h:evC fs prim bf m0 c tm σ=some (.exit i,tm',σ')):evL fs prim bf m0 live c tm σ=some (.exit i,tm',σ'):=by
 unfold evL;rw[h]
theorem ZSC{live:List Nat}{c:Ze}{tm tm':Tms}{σ σ':Za}(h:evC fs prim bf m0 c tm σ=some (.ret,tm',σ')):evL fs prim bf m0 live c tm σ=some (.ret,tm',σ'):=by
 unfold evL;rw[h]
variable (fs prim bf m0)in
noncomputable def evM(live:List Nat)(c:Ze):Option (Zbe×Tms×Za)->Option (Zbe×Tms×Za)
 |some (.normal,tm,σ)=>evL fs prim bf m0 live c (gcT m0 (keepL live tm) σ).1 (gcT m0 (keepL live tm) σ).2
 |r=>r
theorem ZR(live:List Nat)(c:Ze)(tm:Tms)(σ:Za):evL fs prim bf m0 live c tm σ=evM fs prim bf m0 live c (evC fs prim bf m0 c tm σ):=by
 cases h:evC fs prim bf m0 c tm σ with
 |none=>unfold evL;rw[h];rfl
 |some q =>
  obtain⟨e,tm',σ'⟩:=q
  cases e with
  |normal=>exact ZBo h
  |exit i=>exact ZWB h
  |ret=>exact ZSC h
  |panic x=>unfold evL;rw[h];rfl
theorem ZW9(live:List Nat)(c:Ze)(tm:Tms)(σ:Za):evM fs prim bf m0 live c (some (.normal,tm,σ))=evL fs prim bf m0 live c (gcT m0 (keepL live tm) σ).1 (gcT m0 (keepL live tm) σ).2:=rfl
theorem ZEQ(live:List Nat)(c:Ze)(i:Nat)(tm:Tms)(σ:Za):evM fs prim bf m0 live c (some (.exit i,tm,σ))=some (.exit i,tm,σ):=rfl
theorem ZBu(live:List Nat)(c:Ze)(tm:Tms)(σ:Za):evM fs prim bf m0 live c (some (.ret,tm,σ))=some (.ret,tm,σ):=rfl
theorem ZHM(live:List Nat)(c:Ze)(x:AVal)(tm:Tms)(σ:Za):evM fs prim bf m0 live c (some (.panic x,tm,σ))=some (.panic x,tm,σ):=rfl
theorem ZRj(live:List Nat)(b:Ze)(c:Prop)[Decidable c](x y:Option (Zbe×Tms×Za)):evM fs prim bf m0 live b (if c then x else y)=if c then evM fs prim bf m0 live b x else evM fs prim bf m0 live b y:=by split<;>rfl
end
def Zbq:AVal->Bool
 | .int _ _=>true
 | .bool _=>true
 | .str _=>true
 | .nilp=>true
 | .nilm=>true
 | .nili=>true
 | .lst _ _=>true
 | .fn _ []=>true
 |_=>false
def Zan:AVal->Bool
 | .agg cs=>cs.all Zbq
 |x=>Zbq x
def Za4:AVal->AVal
 | .lst _ xs=>.lst false xs
 |x=>x
def ZN:AVal->AVal
 | .agg cs=>.agg (cs.map Za4)
 |x=>Za4 x
theorem Zzx{σ:Za}{x:AVal}(h:Zbq x=true):Zdc σ x=some (Za4 x,[]):=by
 cases x<;>first |(simp[Zbq]at h;done) |rfl
theorem ZwG{σ:Za}:∀ {xs:List AVal},xs.all Zbq=true->Zc2 σ xs=some (xs.map Za4,[])
 | [],_=>rfl
 |x::xs,h=>by
  simp only[XO,Xk]at h
  simp only[Zc2,Zzx h.1,ZwG h.2,Xm,Xo]
theorem Zjr{x:AVal}(h:∀ cs,x≠.agg cs):Zan x=Zbq x/\ZN x=Za4 x:=by
 cases x<;>first |exact⟨rfl,rfl⟩ |exact absurd rfl (h _)
theorem ZRB{σ:Za}{x:AVal}(h:∀ cs,x≠.agg cs):showA σ x=Zdc σ x:=by
 cases x<;>first |rfl |exact absurd rfl (h _)
theorem ZtL(x:AVal):(∃ cs,x=.agg cs)\/∀ cs,x≠.agg cs:=by
 cases x<;>first |exact Xr ⟨_,rfl⟩ |(right;intro cs;simp)
theorem ZGR{σ:Za}{x:AVal}(h:Zan x=true):showA σ x=some (ZN x,[]):=by
 rcases ZtL x with⟨cs,rfl⟩ |hn
 ·simp only[Zan]at h
  simp only[showA,ZwG h,ZN]
 ·rw[(Zjr hn).1]at h
  rw[ZRB hn,(Zjr hn).2]
  exact Zzx h
theorem Zej{σ:Za}:∀ {xs:List AVal},xs.all Zan=true->showAs σ xs=some (xs.map ZN,[])
 | [],_=>rfl
 |x::xs,h=>by
  simp only[XO,Xk]at h
  simp only[showAs,ZGR h.1,Zej h.2,Xm,Xo]
theorem ZyF{x:AVal}(h:Zbq x=true):ZT (Za4 x)=[]:=by
 cases x
 case fn f cs=>cases cs<;>simp[Zbq]at h;rfl
 all_goals first |(simp[Zbq]at h;done) |rfl
theorem Zw6:∀ {xs:List AVal},xs.all Zbq=true->Zt (xs.map Za4)=[]
 | [],_=>rfl
 |x::xs,h=>by
  simp only[XO,Xk]at h
  simp only[Xm,Zt,ZyF h.1,Zw6 h.2,Xo]
theorem ZvH{x:AVal}(h:Zan x=true):ZT (ZN x)=[]:=by
 rcases ZtL x with⟨cs,rfl⟩ |hn
 ·simp only[Zan]at h
  simp only[ZN,ZT];exact Zw6 h
 ·rw[(Zjr hn).1]at h
  rw[(Zjr hn).2];exact ZyF h
theorem ZdC:∀ {xs:List AVal},xs.all Zan=true->Zt (xs.map ZN)=[]
 | [],_=>rfl
 |x::xs,h=>by
  simp only[XO,Xk]at h
  simp only[Xm,Zt,ZvH h.1,ZdC h.2,Xo]
theorem ZAR{ρ:Rho}{x:AVal}(h:Zbq x=true):Zo ρ (Za4 x)=Za4 x:=by
 cases x
 case fn f cs=>cases cs<;>simp[Zbq]at h;rfl
 all_goals first |(simp[Zbq]at h;done) |rfl
theorem ZA7{ρ:Rho}:∀ {xs:List AVal},xs.all Zbq=true->Zh ρ (xs.map Za4)=xs.map Za4
 | [],_=>rfl
 |x::xs,h=>by
  simp only[XO,Xk]at h
  simp only[Xm,Zh,ZAR h.1,ZA7 h.2]
theorem ZAP{ρ:Rho}{x:AVal}(h:Zan x=true):Zo ρ (ZN x)=ZN x:=by
 rcases ZtL x with⟨cs,rfl⟩ |hn
 ·simp only[Zan]at h
  simp only[ZN,Zo];rw[ZA7 h]
 ·rw[(Zjr hn).1]at h
  rw[(Zjr hn).2];exact ZAR h
theorem ZdE{ρ:Rho}:∀ {xs:List AVal},xs.all Zan=true->Zh ρ (xs.map ZN)=xs.map ZN
 | [],_=>rfl
 |x::xs,h=>by
  simp only[XO,Xk]at h
  simp only[Xm,Zh,ZAP h.1,ZdE h.2]
theorem ZcT{O:ZV}{bf:Nat->Bool}{σ:Za}{sq f own:Nat}{view:Bool}{args:List AVal}(hb:bf f=false)(h:args.all Zan=true) :
  Zj O bf σ sq f own view args=ZaA σ σ [] [] sq own (Z3 view 0 (O f (args.map ZN) [])):=by
 unfold Zj ZbS
 rw[hb]
 simp only[Xj,if_false,Zej h]
 have h1:Zr σ []=σ:=rfl
 rw[h1,ZdC h]
 have h2:Zs σ 1000 [] []=[]:=rfl
 rw[h2]
 unfold ZbK
 simp only[Ws,if_true,ZdE h,Zn,Xw]
theorem Zgu(σ:Za)(sq own:Nat)(r:AVal)(h:Zo (ZaJ [] [] sq) r=r):ZaA σ σ [] [] sq own (some (r,[]))=some (r,σ,{}):=by
 simp only[ZaA,Xai,Wg,if_true,ZcY,Bool.not_true,WX,Xj,if_false]
 split
 ·rfl
 ·rw[h]
end
section
section
variable (ρ:Rho)(σ:Za)
theorem ZNy  : Zbd (.top)=false:=rfl
theorem ZDA  : Zbd (.any)=false:=rfl
theorem ZFg(k:IntKind)(n:Int):Zbd (.int k n)=false:=rfl
theorem ZWq(b:Bool):Zbd (.bool b)=false:=rfl
theorem ZIS(l:List UInt8):Zbd (.str l)=false:=rfl
theorem ZKV  : Zbd (.nilp)=false:=rfl
theorem ZN7(t:Nat)(o:Nat):Zbd (.ref t o)=false:=rfl
theorem ZSi(t:Nat)(g:Nat)(i:Nat)(o:Nat):Zbd (.eref t g i o)=false:=rfl
theorem ZEE(cs:List AVal)(o:Nat):Zbd (.iptr cs o)=false:=rfl
theorem ZVz(x:Bool)(xs:List AVal):Zbd (.lst x xs)=false:=rfl
theorem ZXJ(t:Nat)(g:Nat)(lo:Nat)(n:Nat):Zbd (.sl t g lo n)=false:=rfl
theorem ZUR(cs:List AVal):Zbd (.agg cs)=false:=rfl
theorem ZRI(vs:List AVal):Zbd (.tup vs)=false:=rfl
theorem ZIq(f:Nat)(caps:List AVal):Zbd (.fn f caps)=false:=rfl
theorem ZM6  : Zbd (.nilm)=false:=rfl
theorem ZUc(t:Nat):Zbd (.map t)=false:=rfl
theorem ZGY  : Zbd (.nili)=false:=rfl
theorem ZGn(t:Nat)(x:AVal):Zbd (.iface t x)=false:=rfl
theorem ZJc(x:AVal):Zbd (.pan x)=true:=rfl
theorem ZG4  : ZX (.top)=false:=rfl
theorem ZKJ  : ZX (.any)=true:=rfl
theorem ZCX(k:IntKind)(n:Int):ZX (.int k n)=true:=rfl
theorem ZUJ(b:Bool):ZX (.bool b)=true:=rfl
theorem ZIB(l:List UInt8):ZX (.str l)=true:=rfl
theorem ZNl  : ZX (.nilp)=true:=rfl
theorem ZSh(t:Nat)(o:Nat):ZX (.ref t o)=true:=rfl
theorem ZPC(t:Nat)(g:Nat)(i:Nat)(o:Nat):ZX (.eref t g i o)=true:=rfl
theorem ZLi(cs:List AVal)(o:Nat):ZX (.iptr cs o)=true:=rfl
theorem ZRu(x:Bool)(xs:List AVal):ZX (.lst x xs)=true:=rfl
theorem ZCg(t:Nat)(g:Nat)(lo:Nat)(n:Nat):ZX (.sl t g lo n)=true:=rfl
theorem ZD9(cs:List AVal):ZX (.agg cs)=false:=rfl
theorem ZCC(vs:List AVal):ZX (.tup vs)=false:=rfl
theorem ZN9(f:Nat)(caps:List AVal):ZX (.fn f caps)=true:=rfl
theorem ZLc  : ZX (.nilm)=true:=rfl
theorem ZVr(t:Nat):ZX (.map t)=true:=rfl
theorem ZCs  : ZX (.nili)=true:=rfl
theorem ZIA(t:Nat)(x:AVal):ZX (.iface t x)=true:=rfl
theorem ZNf(x:AVal):ZX (.pan x)=false:=rfl
theorem ZKz  : ZbA (.top)=false:=rfl
theorem ZDa  : ZbA (.any)=true:=rfl
theorem ZTI(k:IntKind)(n:Int):ZbA (.int k n)=true:=rfl
theorem ZH5(b:Bool):ZbA (.bool b)=true:=rfl
theorem ZSf(l:List UInt8):ZbA (.str l)=true:=rfl
theorem ZU4  : ZbA (.nilp)=true:=rfl
theorem ZRO(t:Nat)(o:Nat):ZbA (.ref t o)=true:=rfl
theorem ZSo(t:Nat)(g:Nat)(i:Nat)(o:Nat):ZbA (.eref t g i o)=true:=rfl
theorem ZSK(cs:List AVal)(o:Nat):ZbA (.iptr cs o)=true:=rfl
theorem ZVo(x:Bool)(xs:List AVal):ZbA (.lst x xs)=true:=rfl
theorem ZBx(t:Nat)(g:Nat)(lo:Nat)(n:Nat):ZbA (.sl t g lo n)=true:=rfl
theorem ZTs(cs:List AVal):ZbA (.agg cs)=true:=rfl
theorem ZRg(vs:List AVal):ZbA (.tup vs)=true:=rfl
theorem ZHk(f:Nat)(caps:List AVal):ZbA (.fn f caps)=true:=rfl
theorem ZCS  : ZbA (.nilm)=true:=rfl
theorem ZR2(t:Nat):ZbA (.map t)=true:=rfl
theorem ZXe  : ZbA (.nili)=true:=rfl
theorem ZGU(t:Nat)(x:AVal):ZbA (.iface t x)=true:=rfl
theorem ZVH(x:AVal):ZbA (.pan x)=true:=rfl
theorem ZCy  : Za5 (.top)=false:=rfl
theorem ZQ7  : Za5 (.any)=false:=rfl
theorem ZEV(k:IntKind)(n:Int):Za5 (.int k n)=true:=rfl
theorem ZCq(b:Bool):Za5 (.bool b)=true:=rfl
theorem ZLW(l:List UInt8):Za5 (.str l)=true:=rfl
theorem ZGi  : Za5 (.nilp)=true:=rfl
theorem ZDm(t:Nat)(o:Nat):Za5 (.ref t o)=false:=rfl
theorem ZUf(t:Nat)(g:Nat)(i:Nat)(o:Nat):Za5 (.eref t g i o)=false:=rfl
theorem ZGf(cs:List AVal)(o:Nat):Za5 (.iptr cs o)=false:=rfl
theorem ZOk(x:Bool)(xs:List AVal):Za5 (.lst x xs)=false:=rfl
theorem ZWX(t:Nat)(g:Nat)(lo:Nat)(n:Nat):Za5 (.sl t g lo n)=false:=rfl
theorem ZJm(cs:List AVal):Za5 (.agg cs)=false:=rfl
theorem ZQW(vs:List AVal):Za5 (.tup vs)=false:=rfl
theorem ZKb(f:Nat)(caps:List AVal):Za5 (.fn f caps)=false:=rfl
theorem ZNM  : Za5 (.nilm)=true:=rfl
theorem ZQP(t:Nat):Za5 (.map t)=false:=rfl
theorem ZLg  : Za5 (.nili)=true:=rfl
theorem ZMq(t:Nat)(x:AVal):Za5 (.iface t x)=false:=rfl
theorem ZQm(x:AVal):Za5 (.pan x)=false:=rfl
theorem ZRN  : Zbr (.top)=false:=rfl
theorem ZXF  : Zbr (.any)=false:=rfl
theorem ZUW(k:IntKind)(n:Int):Zbr (.int k n)=true:=rfl
theorem ZMB(b:Bool):Zbr (.bool b)=true:=rfl
theorem ZI4(l:List UInt8):Zbr (.str l)=true:=rfl
theorem ZXG  : Zbr (.nilp)=true:=rfl
theorem ZMs(t:Nat)(o:Nat):Zbr (.ref t o)=false:=rfl
theorem ZOn(t:Nat)(g:Nat)(i:Nat)(o:Nat):Zbr (.eref t g i o)=false:=rfl
theorem ZQD(cs:List AVal)(o:Nat):Zbr (.iptr cs o)=false:=rfl
theorem ZQq(x:Bool)(xs:List AVal):Zbr (.lst x xs)=false:=rfl
theorem ZRp(t:Nat)(g:Nat)(lo:Nat)(n:Nat):Zbr (.sl t g lo n)=false:=rfl
theorem ZPN(cs:List AVal):Zbr (.agg cs)=cs.all Za5:=rfl
theorem ZJA(vs:List AVal):Zbr (.tup vs)=false:=rfl
theorem ZWv(f:Nat)(caps:List AVal):Zbr (.fn f caps)=false:=rfl
theorem ZE2  : Zbr (.nilm)=true:=rfl
theorem ZJd(t:Nat):Zbr (.map t)=false:=rfl
theorem ZJl  : Zbr (.nili)=true:=rfl
theorem ZSE(t:Nat)(x:AVal):Zbr (.iface t x)=false:=rfl
theorem ZJC(x:AVal):Zbr (.pan x)=false:=rfl
theorem ZGp  : ZbJ (.top)=false:=rfl
theorem ZQe  : ZbJ (.any)=false:=rfl
theorem ZBF(k:IntKind)(n:Int):ZbJ (.int k n)=true:=rfl
theorem ZPW(b:Bool):ZbJ (.bool b)=true:=rfl
theorem ZEg(l:List UInt8):ZbJ (.str l)=true:=rfl
theorem ZCk  : ZbJ (.nilp)=true:=rfl
theorem ZC9(t:Nat)(o:Nat):ZbJ (.ref t o)=false:=rfl
theorem ZKY(t:Nat)(g:Nat)(i:Nat)(o:Nat):ZbJ (.eref t g i o)=false:=rfl
theorem ZSp(cs:List AVal)(o:Nat):ZbJ (.iptr cs o)=false:=rfl
theorem ZCj(x:Bool)(xs:List AVal):ZbJ (.lst x xs)=false:=rfl
theorem ZB4(t:Nat)(g:Nat)(lo:Nat)(n:Nat):ZbJ (.sl t g lo n)=false:=rfl
theorem ZNv(cs:List AVal):ZbJ (.agg cs)=cs.all Za5:=rfl
theorem ZVp(vs:List AVal):ZbJ (.tup vs)=vs.all Zbr:=rfl
theorem ZDq(f:Nat)(caps:List AVal):ZbJ (.fn f caps)=false:=rfl
theorem ZTD  : ZbJ (.nilm)=true:=rfl
theorem ZQB(t:Nat):ZbJ (.map t)=false:=rfl
theorem ZPj  : ZbJ (.nili)=true:=rfl
theorem ZJ5(t:Nat)(x:AVal):ZbJ (.iface t x)=false:=rfl
theorem ZUD  : Zbq (.top)=false:=rfl
theorem ZF9  : Zbq (.any)=false:=rfl
theorem ZwP(k:IntKind)(n:Int):Zbq (.int k n)=true:=rfl
theorem ZRC(b:Bool):Zbq (.bool b)=true:=rfl
theorem Zxj(l:List UInt8):Zbq (.str l)=true:=rfl
theorem ZC6  : Zbq (.nilp)=true:=rfl
theorem ZKQ(t:Nat)(o:Nat):Zbq (.ref t o)=false:=rfl
theorem ZQS(t:Nat)(g:Nat)(i:Nat)(o:Nat):Zbq (.eref t g i o)=false:=rfl
theorem ZCi(cs:List AVal)(o:Nat):Zbq (.iptr cs o)=false:=rfl
theorem ZA9(x:Bool)(xs:List AVal):Zbq (.lst x xs)=true:=rfl
theorem ZL9(t:Nat)(g:Nat)(lo:Nat)(n:Nat):Zbq (.sl t g lo n)=false:=rfl
theorem ZGX(cs:List AVal):Zbq (.agg cs)=false:=rfl
theorem ZD6(vs:List AVal):Zbq (.tup vs)=false:=rfl
theorem ZBP  : Zbq (.nilm)=true:=rfl
theorem ZSk(t:Nat):Zbq (.map t)=false:=rfl
theorem ZUi  : Zbq (.nili)=true:=rfl
theorem ZD1(t:Nat)(x:AVal):Zbq (.iface t x)=false:=rfl
theorem ZJ6(x:AVal):Zbq (.pan x)=false:=rfl
theorem ZHs  : Zan (.top)=false:=rfl
theorem ZJ9  : Zan (.any)=false:=rfl
theorem ZUQ(k:IntKind)(n:Int):Zan (.int k n)=true:=rfl
theorem ZJi(b:Bool):Zan (.bool b)=true:=rfl
theorem ZVD(l:List UInt8):Zan (.str l)=true:=rfl
theorem ZDX  : Zan (.nilp)=true:=rfl
theorem ZRi(t:Nat)(o:Nat):Zan (.ref t o)=false:=rfl
theorem ZUB(t:Nat)(g:Nat)(i:Nat)(o:Nat):Zan (.eref t g i o)=false:=rfl
theorem ZVv(cs:List AVal)(o:Nat):Zan (.iptr cs o)=false:=rfl
theorem ZGB(x:Bool)(xs:List AVal):Zan (.lst x xs)=true:=rfl
theorem ZTR(t:Nat)(g:Nat)(lo:Nat)(n:Nat):Zan (.sl t g lo n)=false:=rfl
theorem ZvZ(cs:List AVal):Zan (.agg cs)=cs.all Zbq:=rfl
theorem ZPf(vs:List AVal):Zan (.tup vs)=false:=rfl
theorem ZKW  : Zan (.nilm)=true:=rfl
theorem ZEf(t:Nat):Zan (.map t)=false:=rfl
theorem ZM1  : Zan (.nili)=true:=rfl
theorem ZD8(t:Nat)(x:AVal):Zan (.iface t x)=false:=rfl
theorem ZTm(x:AVal):Zan (.pan x)=false:=rfl
theorem ZQc  : Za4 (.top)=(.top):=rfl
theorem ZJD  : Za4 (.any)=(.any):=rfl
theorem ZvJ(k:IntKind)(n:Int):Za4 (.int k n)=(.int k n):=rfl
theorem ZMw(b:Bool):Za4 (.bool b)=(.bool b):=rfl
theorem ZzB(l:List UInt8):Za4 (.str l)=(.str l):=rfl
theorem ZXp  : Za4 (.nilp)=(.nilp):=rfl
theorem ZHY(t:Nat)(o:Nat):Za4 (.ref t o)=(.ref t o):=rfl
theorem ZU5(t:Nat)(g:Nat)(i:Nat)(o:Nat):Za4 (.eref t g i o)=(.eref t g i o):=rfl
theorem ZF2(cs:List AVal)(o:Nat):Za4 (.iptr cs o)=(.iptr cs o):=rfl
theorem Zx6(x:Bool)(xs:List AVal):Za4 (.lst x xs)=.lst false xs:=rfl
theorem ZMk(t:Nat)(g:Nat)(lo:Nat)(n:Nat):Za4 (.sl t g lo n)=(.sl t g lo n):=rfl
theorem ZQb(cs:List AVal):Za4 (.agg cs)=(.agg cs):=rfl
theorem ZIM(vs:List AVal):Za4 (.tup vs)=(.tup vs):=rfl
theorem ZRk(f:Nat)(caps:List AVal):Za4 (.fn f caps)=(.fn f caps):=rfl
theorem ZHe  : Za4 (.nilm)=(.nilm):=rfl
theorem ZVC(t:Nat):Za4 (.map t)=(.map t):=rfl
theorem ZJs  : Za4 (.nili)=(.nili):=rfl
theorem ZCb(t:Nat)(x:AVal):Za4 (.iface t x)=(.iface t x):=rfl
theorem ZFS(x:AVal):Za4 (.pan x)=(.pan x):=rfl
theorem ZVj  : ZN (.top)=(.top):=rfl
theorem ZTf  : ZN (.any)=(.any):=rfl
theorem ZKm(k:IntKind)(n:Int):ZN (.int k n)=(.int k n):=rfl
theorem ZRe(b:Bool):ZN (.bool b)=(.bool b):=rfl
theorem ZB5(l:List UInt8):ZN (.str l)=(.str l):=rfl
theorem ZDf  : ZN (.nilp)=(.nilp):=rfl
theorem ZF0(t:Nat)(o:Nat):ZN (.ref t o)=(.ref t o):=rfl
theorem ZBY(t:Nat)(g:Nat)(i:Nat)(o:Nat):ZN (.eref t g i o)=(.eref t g i o):=rfl
theorem ZJJ(cs:List AVal)(o:Nat):ZN (.iptr cs o)=(.iptr cs o):=rfl
theorem ZLx(x:Bool)(xs:List AVal):ZN (.lst x xs)=.lst false xs:=rfl
theorem ZSG(t:Nat)(g:Nat)(lo:Nat)(n:Nat):ZN (.sl t g lo n)=(.sl t g lo n):=rfl
theorem Zwy(cs:List AVal):ZN (.agg cs)=.agg (cs.map Za4):=rfl
theorem ZQh(vs:List AVal):ZN (.tup vs)=(.tup vs):=rfl
theorem ZH1(f:Nat)(caps:List AVal):ZN (.fn f caps)=(.fn f caps):=rfl
theorem ZRX  : ZN (.nilm)=(.nilm):=rfl
theorem ZXN(t:Nat):ZN (.map t)=(.map t):=rfl
theorem ZQv  : ZN (.nili)=(.nili):=rfl
theorem ZMM(t:Nat)(x:AVal):ZN (.iface t x)=(.iface t x):=rfl
theorem ZBW(x:AVal):ZN (.pan x)=(.pan x):=rfl
theorem ZLR  : AVal.cells (.top)=[(.top)]:=rfl
theorem ZBX  : AVal.cells (.any)=[(.any)]:=rfl
theorem ZHc(k:IntKind)(n:Int):AVal.cells (.int k n)=[(.int k n)]:=rfl
theorem ZVK(b:Bool):AVal.cells (.bool b)=[(.bool b)]:=rfl
theorem ZD0(l:List UInt8):AVal.cells (.str l)=[(.str l)]:=rfl
theorem ZIv  : AVal.cells (.nilp)=[(.nilp)]:=rfl
theorem ZCo(t:Nat)(o:Nat):AVal.cells (.ref t o)=[(.ref t o)]:=rfl
theorem ZTT(t:Nat)(g:Nat)(i:Nat)(o:Nat):AVal.cells (.eref t g i o)=[(.eref t g i o)]:=rfl
theorem ZHp(cs:List AVal)(o:Nat):AVal.cells (.iptr cs o)=[(.iptr cs o)]:=rfl
theorem ZND(x:Bool)(xs:List AVal):AVal.cells (.lst x xs)=[(.lst x xs)]:=rfl
theorem ZK7(t:Nat)(g:Nat)(lo:Nat)(n:Nat):AVal.cells (.sl t g lo n)=[(.sl t g lo n)]:=rfl
theorem ZE0(cs:List AVal):AVal.cells (.agg cs)=cs:=rfl
theorem ZJj(vs:List AVal):AVal.cells (.tup vs)=[(.tup vs)]:=rfl
theorem ZSt(f:Nat)(caps:List AVal):AVal.cells (.fn f caps)=[(.fn f caps)]:=rfl
theorem ZWM  : AVal.cells (.nilm)=[(.nilm)]:=rfl
theorem ZSY(t:Nat):AVal.cells (.map t)=[(.map t)]:=rfl
theorem ZDr  : AVal.cells (.nili)=[(.nili)]:=rfl
theorem ZNg(t:Nat)(x:AVal):AVal.cells (.iface t x)=[(.iface t x)]:=rfl
theorem ZGN(x:AVal):AVal.cells (.pan x)=[(.pan x)]:=rfl
theorem ZRE  : Zbg (.top)=(.top):=rfl
theorem ZKr  : Zbg (.any)=(.any):=rfl
theorem ZHP(k:IntKind)(n:Int):Zbg (.int k n)=(.int k n):=rfl
theorem ZPm(b:Bool):Zbg (.bool b)=(.bool b):=rfl
theorem ZUa(l:List UInt8):Zbg (.str l)=(.str l):=rfl
theorem ZFA  : Zbg (.nilp)=(.nilp):=rfl
theorem ZMp(t:Nat)(o:Nat):Zbg (.ref t o)=(.ref t o):=rfl
theorem ZDy(t:Nat)(g:Nat)(i:Nat)(o:Nat):Zbg (.eref t g i o)=(.eref t g i o):=rfl
theorem ZGg(cs:List AVal)(o:Nat):Zbg (.iptr cs o)=(.iptr cs o):=rfl
theorem ZPl(x:Bool)(xs:List AVal):Zbg (.lst x xs)=(.lst x xs):=rfl
theorem ZQL(t:Nat)(g:Nat)(lo:Nat)(n:Nat):Zbg (.sl t g lo n)=(.sl t g lo n):=rfl
theorem ZOE(cs:List AVal):Zbg (.agg cs)=(.agg cs):=rfl
theorem ZCJ(vs:List AVal):Zbg (.tup vs)=(.tup vs):=rfl
theorem ZJr(f:Nat)(caps:List AVal):Zbg (.fn f caps)=(.fn f caps):=rfl
theorem ZKU  : Zbg (.nilm)=(.nilm):=rfl
theorem ZFv(t:Nat):Zbg (.map t)=(.map t):=rfl
theorem ZEr  : Zbg (.nili)=(.nili):=rfl
theorem ZKp(t:Nat)(x:AVal):Zbg (.iface t x)=(.iface t x):=rfl
theorem ZSz(x:AVal):Zbg (.pan x)=x:=rfl
theorem ZQ5  : Zbx (.top)=4:=rfl
theorem ZU9  : Zbx (.any)=4:=rfl
theorem ZRq(k:IntKind)(n:Int):Zbx (.int k n)=0:=rfl
theorem ZLe(b:Bool):Zbx (.bool b)=1:=rfl
theorem ZV0(l:List UInt8):Zbx (.str l)=2:=rfl
theorem ZW7  : Zbx (.nilp)=4:=rfl
theorem ZQO(t:Nat)(o:Nat):Zbx (.ref t o)=4:=rfl
theorem ZGx(t:Nat)(g:Nat)(i:Nat)(o:Nat):Zbx (.eref t g i o)=4:=rfl
theorem ZCT(cs:List AVal)(o:Nat):Zbx (.iptr cs o)=4:=rfl
theorem ZWe(x:Bool)(xs:List AVal):Zbx (.lst x xs)=4:=rfl
theorem ZSs(t:Nat)(g:Nat)(lo:Nat)(n:Nat):Zbx (.sl t g lo n)=4:=rfl
theorem ZJT(cs:List AVal):Zbx (.agg cs)=4:=rfl
theorem ZEB(vs:List AVal):Zbx (.tup vs)=4:=rfl
theorem ZN2(f:Nat)(caps:List AVal):Zbx (.fn f caps)=4:=rfl
theorem ZTp  : Zbx (.nilm)=4:=rfl
theorem ZOX(t:Nat):Zbx (.map t)=4:=rfl
theorem ZJU  : Zbx (.nili)=4:=rfl
theorem ZJM(t:Nat)(x:AVal):Zbx (.iface t x)=4:=rfl
theorem ZSQ(x:AVal):Zbx (.pan x)=4:=rfl
theorem ZWO  : ZT (.top)=[]:=rfl
theorem ZQd  : ZT (.any)=[]:=rfl
theorem ZQu(k:IntKind)(n:Int):ZT (.int k n)=[]:=rfl
theorem ZV9(b:Bool):ZT (.bool b)=[]:=rfl
theorem ZCt(l:List UInt8):ZT (.str l)=[]:=rfl
theorem ZCf  : ZT (.nilp)=[]:=rfl
theorem ZD4(t:Nat)(o:Nat):ZT (.ref t o)=[t]:=rfl
theorem ZE8(t:Nat)(g:Nat)(i:Nat)(o:Nat):ZT (.eref t g i o)=[t]:=rfl
theorem ZXw(cs:List AVal)(o:Nat):ZT (.iptr cs o)=[]:=rfl
theorem ZJ4(x:Bool)(xs:List AVal):ZT (.lst x xs)=[]:=rfl
theorem ZFR(t:Nat)(g:Nat)(lo:Nat)(n:Nat):ZT (.sl t g lo n)=[t]:=rfl
theorem ZON(cs:List AVal):ZT (.agg cs)=Zt cs:=rfl
theorem ZSB(vs:List AVal):ZT (.tup vs)=Zt vs:=rfl
theorem ZGw(f:Nat)(caps:List AVal):ZT (.fn f caps)=Zt caps:=rfl
theorem ZC3  : ZT (.nilm)=[]:=rfl
theorem ZBp(t:Nat):ZT (.map t)=[t]:=rfl
theorem ZR8  : ZT (.nili)=[]:=rfl
theorem ZL6(t:Nat)(x:AVal):ZT (.iface t x)=ZT x:=rfl
theorem ZOc(x:AVal):ZT (.pan x)=ZT x:=rfl
theorem ZPI  : Zo ρ (.top)=(.top):=rfl
theorem ZJf  : Zo ρ (.any)=(.any):=rfl
theorem ZL4(k:IntKind)(n:Int):Zo ρ (.int k n)=(.int k n):=rfl
theorem ZKO(b:Bool):Zo ρ (.bool b)=(.bool b):=rfl
theorem ZMG(l:List UInt8):Zo ρ (.str l)=(.str l):=rfl
theorem ZKl  : Zo ρ (.nilp)=(.nilp):=rfl
theorem ZUk(cs:List AVal)(o:Nat):Zo ρ (.iptr cs o)=(.iptr cs o):=rfl
theorem ZMA(x:Bool)(xs:List AVal):Zo ρ (.lst x xs)=(.lst x xs):=rfl
theorem ZGd(cs:List AVal):Zo ρ (.agg cs)=.agg (Zh ρ cs):=rfl
theorem ZFM(vs:List AVal):Zo ρ (.tup vs)=.tup (Zh ρ vs):=rfl
theorem ZNs(f:Nat)(caps:List AVal):Zo ρ (.fn f caps)=.fn f (Zh ρ caps):=rfl
theorem ZMy  : Zo ρ (.nilm)=(.nilm):=rfl
theorem ZLk  : Zo ρ (.nili)=(.nili):=rfl
theorem ZPu(t:Nat)(x:AVal):Zo ρ (.iface t x)=.iface t (Zo ρ x):=rfl
theorem ZL1(x:AVal):Zo ρ (.pan x)=.pan (Zo ρ x):=rfl
theorem ZQT(f:Nat):Zbq (.fn f [])=true:=rfl
theorem ZDl(f:Nat):Zan (.fn f [])=true:=rfl
theorem ZTP(t:Nat)(x:AVal):ZbJ (.pan (.iface t x))=Za5 x:=rfl
theorem ZTX(live:List Nat)(tm:Tms):ZnR live (some (tm,σ,none))=some (.normal,keepL live tm,σ):=rfl
theorem ZNd(live:List Nat)(tm:Tms)(x:AVal):ZnR live (some (tm,σ,some x))=some (.panic x,[],σ):=rfl
theorem ZBw(live:List Nat):ZnR live none=none:=rfl
theorem ZK2(t o:Nat):Zo ρ (.ref t o)=(match ρ t 0 with |some (t',0)=>.ref t' o |_=>.any):=rfl
theorem ZMF(t:Nat):Zo ρ (.map t)=(match ρ t 0 with |some (t',0)=>.map t' |_=>.any):=rfl
theorem ZP6(t g lo n:Nat):Zo ρ (.sl t g lo n)=(match ρ t g with |some (t',g')=>.sl t' g' lo n |none=>.any):=rfl
theorem ZId(t g i o:Nat):Zo ρ (.eref t g i o)=(match ρ t g with |some (t',g')=>.eref t' g' i o |none=>.any):=rfl
theorem ZHr:Zt []=[]:=rfl
theorem ZML(x:AVal)(xs:List AVal):Zt (x::xs)=ZT x++Zt xs:=rfl
theorem ZFn:Zh ρ []=[]:=rfl
theorem ZQY(x:AVal)(xs:List AVal):Zh ρ (x::xs)=Zo ρ x::Zh ρ xs:=rfl
end
end
section
mutual
def ZS:AVal->Bool
 | .ref _ _=>false
 | .eref _ _ _ _=>false
 | .sl _ _ _ _=>false
 | .map _=>false
 | .agg cs=>Zf cs
 | .tup vs=>Zf vs
 | .fn _ vs=>Zf vs
 | .iface _ x=>ZS x
 | .pan x=>ZS x
 | .top=>true
 | .any=>true
 | .int _ _=>true
 | .bool _=>true
 | .str _=>true
 | .nilp=>true
 | .nilm=>true
 | .nili=>true
 | .iptr _ _=>true
 | .lst _ _=>true
def Zf:List AVal->Bool
 | []=>true
 |x::xs=>ZS x&&Zf xs
end
mutual
theorem Zbm(ρ:Rho):∀ (x:AVal),ZS x=true->Zo ρ x=x/\ZT x=[]
 | .ref _ _,h=>by simp[ZS]at h
 | .eref _ _ _ _,h=>by simp[ZS]at h
 | .sl _ _ _ _,h=>by simp[ZS]at h
 | .map _,h=>by simp[ZS]at h
 | .agg cs,h=>by have:=ZaV ρ cs (by simpa only[ZS]using h);exact⟨by simp only[Zo,this.1],by simp only[ZT,this.2]⟩
 | .tup cs,h=>by have:=ZaV ρ cs (by simpa only[ZS]using h);exact⟨by simp only[Zo,this.1],by simp only[ZT,this.2]⟩
 | .fn f cs,h=>by have:=ZaV ρ cs (by simpa only[ZS]using h);exact⟨by simp only[Zo,this.1],by simp only[ZT,this.2]⟩
 | .iface t x,h=>by have:=Zbm ρ x (by simpa only[ZS]using h);exact⟨by simp only[Zo,this.1],by simp only[ZT,this.2]⟩
 | .pan x,h=>by have:=Zbm ρ x (by simpa only[ZS]using h);exact⟨by simp only[Zo,this.1],by simp only[ZT,this.2]⟩
 | .top,_=>⟨rfl,rfl⟩
 | .any,_=>⟨rfl,rfl⟩
 | .int _ _,_=>⟨rfl,rfl⟩
 | .bool _,_=>⟨rfl,rfl⟩
 | .str _,_=>⟨rfl,rfl⟩
 | .nilp,_=>⟨rfl,rfl⟩
 | .nilm,_=>⟨rfl,rfl⟩
 | .nili,_=>⟨rfl,rfl⟩
 | .iptr _ _,_=>⟨rfl,rfl⟩
 | .lst _ _,_=>⟨rfl,rfl⟩
theorem ZaV(ρ:Rho):∀ (xs:List AVal),Zf xs=true->Zh ρ xs=xs/\Zt xs=[]
 | [],_=>⟨rfl,rfl⟩
 |x::xs,h=>by
  simp only[Zf,Xk]at h
  have h1:=Zbm ρ x h.1
  have h2:=ZaV ρ xs h.2
  exact⟨by simp only[Zh,h1.1,h2.1],by simp only[Zt,h1.2,h2.2,Xo]⟩
end
theorem ZvB{σ:Za}{r:AVal}(h:ZS r=true):Z4 0 σ r=some (r,[]):=by
 have h1:=Zbm (Zk σ 0 []) r h
 have hids:Zu 0 [r] σ=[]:=by
  unfold Zu
  simp only[Zt,h1.2,Xo,List.range_zero,X5]
  rfl
 unfold Z4 gcA
 simp only[hids,Zh,Zn,h1.1]
def Zcw:AVal->AVal
 | .tup vs=>.tup (vs.map ZN)
 |x=>ZN x
def Zcy:AVal->Bool
 | .tup vs=>vs.all Zan
 |x=>Zan x
def Zb2:AVal->Bool
 | .fn _ _=>false
 |_=>true
def Zca:AVal->Bool
 | .agg cs=>cs.all Zb2
 |x=>Zb2 x
def ZcA:AVal->Bool
 | .tup vs=>vs.all Zca
 |x=>Zca x
theorem ZsQ{k g n:Nat}{xs:List AVal}{σ:Za}{t:Nat}(hs:σ[t]?=some (.row g k xs))(hn:n<=xs.length):ZbB 0 (some (.sl t g 0 n,σ))=some (.lst false (xs.take n),[]):=by
 have hv:viewR σ (.sl t g 0 n)=some (.lst false (xs.take n),[t]):=by
  simp only[viewR,ZP,ZK,ZY,hs,XB,hn,and_self,if_true,XaL]
 have e:ZbB 0 (some (.sl t g 0 n,σ))=(match viewR σ (.sl t g 0 n)with
  |some (r',ts)=>match gcA 0 [r'] (Zr σ ts)with
   |([r''],σ')=>some (r'',σ')
   |_=>none
  |none=>none):=rfl
 rw[e,hv]
 exact ZvB rfl
theorem ZR4{m:Nat}{fn:ZA}{tm:Tms}{σ:Za}:Zap m fn (some (.ret,tm,σ))=match resA tm σ fn.res with
  |some r=>Z4 m σ r
  |none=>none:=rfl
theorem ZIj{m:Nat}{fn:ZA}{tm:Tms}{σ:Za}:Zap m fn (some (.normal,tm,σ))=match resA tm σ fn.res with
  |some r=>Z4 m σ r
  |none=>none:=rfl
theorem ZW2{m:Nat}{fn:ZA}{tm:Tms}{σ:Za}{x:AVal}:Zap m fn (some (.panic x,tm,σ))=Z4 m σ (.pan x):=rfl
theorem ZFl  : ZS (.top)=true:=rfl
theorem ZIe  : ZS (.any)=true:=rfl
theorem ZFp(k:IntKind)(n:Int):ZS (.int k n)=true:=rfl
theorem ZPL(b:Bool):ZS (.bool b)=true:=rfl
theorem ZDu(l:List UInt8):ZS (.str l)=true:=rfl
theorem ZPS  : ZS (.nilp)=true:=rfl
theorem ZDk(t:Nat)(o:Nat):ZS (.ref t o)=false:=rfl
theorem ZLA(t:Nat)(g:Nat)(i:Nat)(o:Nat):ZS (.eref t g i o)=false:=rfl
theorem ZTN(cs:List AVal)(o:Nat):ZS (.iptr cs o)=true:=rfl
theorem ZOA(x:Bool)(xs:List AVal):ZS (.lst x xs)=true:=rfl
theorem ZF3(t:Nat)(g:Nat)(lo:Nat)(n:Nat):ZS (.sl t g lo n)=false:=rfl
theorem ZPp(cs:List AVal):ZS (.agg cs)=Zf cs:=rfl
theorem ZHx(vs:List AVal):ZS (.tup vs)=Zf vs:=rfl
theorem ZUS(f:Nat)(caps:List AVal):ZS (.fn f caps)=Zf caps:=rfl
theorem ZIf  : ZS (.nilm)=true:=rfl
theorem ZM8(t:Nat):ZS (.map t)=false:=rfl
theorem ZUM  : ZS (.nili)=true:=rfl
theorem ZC2(t:Nat)(x:AVal):ZS (.iface t x)=ZS x:=rfl
theorem ZCK(x:AVal):ZS (.pan x)=ZS x:=rfl
theorem ZGT  : Zb2 (.top)=true:=rfl
theorem ZCa  : Zb2 (.any)=true:=rfl
theorem ZV2(k:IntKind)(n:Int):Zb2 (.int k n)=true:=rfl
theorem ZI2(b:Bool):Zb2 (.bool b)=true:=rfl
theorem ZHI(l:List UInt8):Zb2 (.str l)=true:=rfl
theorem ZQ0  : Zb2 (.nilp)=true:=rfl
theorem ZXC(t:Nat)(o:Nat):Zb2 (.ref t o)=true:=rfl
theorem ZUI(t:Nat)(g:Nat)(i:Nat)(o:Nat):Zb2 (.eref t g i o)=true:=rfl
theorem ZW4(cs:List AVal)(o:Nat):Zb2 (.iptr cs o)=true:=rfl
theorem ZPq(x:Bool)(xs:List AVal):Zb2 (.lst x xs)=true:=rfl
theorem ZPO(t:Nat)(g:Nat)(lo:Nat)(n:Nat):Zb2 (.sl t g lo n)=true:=rfl
theorem ZXm(cs:List AVal):Zb2 (.agg cs)=true:=rfl
theorem ZET(vs:List AVal):Zb2 (.tup vs)=true:=rfl
theorem ZQi(f:Nat)(caps:List AVal):Zb2 (.fn f caps)=false:=rfl
theorem ZBv  : Zb2 (.nilm)=true:=rfl
theorem ZLz(t:Nat):Zb2 (.map t)=true:=rfl
theorem ZHQ  : Zb2 (.nili)=true:=rfl
theorem ZBL(t:Nat)(x:AVal):Zb2 (.iface t x)=true:=rfl
theorem ZVS(x:AVal):Zb2 (.pan x)=true:=rfl
theorem ZPn  : Zca (.top)=true:=rfl
theorem ZXq  : Zca (.any)=true:=rfl
theorem ZDw(k:IntKind)(n:Int):Zca (.int k n)=true:=rfl
theorem ZFE(b:Bool):Zca (.bool b)=true:=rfl
theorem ZTj(l:List UInt8):Zca (.str l)=true:=rfl
theorem ZUX  : Zca (.nilp)=true:=rfl
theorem ZCm(t:Nat)(o:Nat):Zca (.ref t o)=true:=rfl
theorem ZNt(t:Nat)(g:Nat)(i:Nat)(o:Nat):Zca (.eref t g i o)=true:=rfl
theorem ZNN(cs:List AVal)(o:Nat):Zca (.iptr cs o)=true:=rfl
theorem ZTr(x:Bool)(xs:List AVal):Zca (.lst x xs)=true:=rfl
theorem ZTJ(t:Nat)(g:Nat)(lo:Nat)(n:Nat):Zca (.sl t g lo n)=true:=rfl
theorem ZTS(cs:List AVal):Zca (.agg cs)=cs.all Zb2:=rfl
theorem ZWK(vs:List AVal):Zca (.tup vs)=true:=rfl
theorem ZS3(f:Nat)(caps:List AVal):Zca (.fn f caps)=false:=rfl
theorem ZBU  : Zca (.nilm)=true:=rfl
theorem ZRG(t:Nat):Zca (.map t)=true:=rfl
theorem ZOV  : Zca (.nili)=true:=rfl
theorem ZOy(t:Nat)(x:AVal):Zca (.iface t x)=true:=rfl
theorem ZOI(x:AVal):Zca (.pan x)=true:=rfl
theorem ZJw  : ZcA (.top)=true:=rfl
theorem ZB6  : ZcA (.any)=true:=rfl
theorem ZUp(k:IntKind)(n:Int):ZcA (.int k n)=true:=rfl
theorem ZLa(b:Bool):ZcA (.bool b)=true:=rfl
theorem ZFx(l:List UInt8):ZcA (.str l)=true:=rfl
theorem ZTH  : ZcA (.nilp)=true:=rfl
theorem ZR3(t:Nat)(o:Nat):ZcA (.ref t o)=true:=rfl
theorem ZSw(t:Nat)(g:Nat)(i:Nat)(o:Nat):ZcA (.eref t g i o)=true:=rfl
theorem ZEW(cs:List AVal)(o:Nat):ZcA (.iptr cs o)=true:=rfl
theorem ZTE(x:Bool)(xs:List AVal):ZcA (.lst x xs)=true:=rfl
theorem ZQ1(t:Nat)(g:Nat)(lo:Nat)(n:Nat):ZcA (.sl t g lo n)=true:=rfl
theorem ZJ2(cs:List AVal):ZcA (.agg cs)=cs.all Zb2:=rfl
theorem ZN8(vs:List AVal):ZcA (.tup vs)=vs.all Zca:=rfl
theorem ZEb(f:Nat)(caps:List AVal):ZcA (.fn f caps)=false:=rfl
theorem ZSM  : ZcA (.nilm)=true:=rfl
theorem ZEp(t:Nat):ZcA (.map t)=true:=rfl
theorem ZPo  : ZcA (.nili)=true:=rfl
theorem ZQR(t:Nat)(x:AVal):ZcA (.iface t x)=true:=rfl
theorem ZLY(x:AVal):ZcA (.pan x)=true:=rfl
theorem ZRY  : Zcy (.top)=false:=rfl
theorem ZPT  : Zcy (.any)=false:=rfl
theorem ZRM(k:IntKind)(n:Int):Zcy (.int k n)=true:=rfl
theorem ZXA(b:Bool):Zcy (.bool b)=true:=rfl
theorem ZFa(l:List UInt8):Zcy (.str l)=true:=rfl
theorem ZSO  : Zcy (.nilp)=true:=rfl
theorem ZVY(t:Nat)(o:Nat):Zcy (.ref t o)=false:=rfl
theorem ZQA(t:Nat)(g:Nat)(i:Nat)(o:Nat):Zcy (.eref t g i o)=false:=rfl
theorem ZQ4(cs:List AVal)(o:Nat):Zcy (.iptr cs o)=false:=rfl
theorem ZUL(x:Bool)(xs:List AVal):Zcy (.lst x xs)=true:=rfl
theorem ZII(t:Nat)(g:Nat)(lo:Nat)(n:Nat):Zcy (.sl t g lo n)=false:=rfl
theorem ZHq(cs:List AVal):Zcy (.agg cs)=cs.all Zbq:=rfl
theorem ZVn(vs:List AVal):Zcy (.tup vs)=vs.all Zan:=rfl
theorem ZVT  : Zcy (.nilm)=true:=rfl
theorem ZPi(t:Nat):Zcy (.map t)=false:=rfl
theorem ZMc  : Zcy (.nili)=true:=rfl
theorem ZEm(t:Nat)(x:AVal):Zcy (.iface t x)=false:=rfl
theorem ZDR(x:AVal):Zcy (.pan x)=false:=rfl
theorem ZNZ  : Zcw (.top)=(.top):=rfl
theorem ZIY  : Zcw (.any)=(.any):=rfl
theorem ZEZ(k:IntKind)(n:Int):Zcw (.int k n)=(.int k n):=rfl
theorem ZNh(b:Bool):Zcw (.bool b)=(.bool b):=rfl
theorem ZVk(l:List UInt8):Zcw (.str l)=(.str l):=rfl
theorem ZFT  : Zcw (.nilp)=(.nilp):=rfl
theorem ZUF(t:Nat)(o:Nat):Zcw (.ref t o)=(.ref t o):=rfl
theorem ZP8(t:Nat)(g:Nat)(i:Nat)(o:Nat):Zcw (.eref t g i o)=(.eref t g i o):=rfl
theorem ZWI(cs:List AVal)(o:Nat):Zcw (.iptr cs o)=(.iptr cs o):=rfl
theorem ZXh(x:Bool)(xs:List AVal):Zcw (.lst x xs)=.lst false xs:=rfl
theorem ZWt(t:Nat)(g:Nat)(lo:Nat)(n:Nat):Zcw (.sl t g lo n)=(.sl t g lo n):=rfl
theorem ZRf(cs:List AVal):Zcw (.agg cs)=.agg (cs.map Za4):=rfl
theorem ZBz(vs:List AVal):Zcw (.tup vs)=.tup (vs.map ZN):=rfl
theorem ZCE(f:Nat)(caps:List AVal):Zcw (.fn f caps)=(.fn f caps):=rfl
theorem ZMt  : Zcw (.nilm)=(.nilm):=rfl
theorem ZLO(t:Nat):Zcw (.map t)=(.map t):=rfl
theorem ZCQ  : Zcw (.nili)=(.nili):=rfl
theorem ZXg(t:Nat)(x:AVal):Zcw (.iface t x)=(.iface t x):=rfl
theorem ZLv(x:AVal):Zcw (.pan x)=(.pan x):=rfl
theorem ZIF:Zf []=true:=rfl
theorem ZGW(x:AVal)(xs:List AVal):Zf (x::xs)=(ZS x&&Zf xs):=rfl
theorem ZWo(f:Nat):Zcy (.fn f [])=true:=rfl
theorem ZEe(p q:Bool):(if p=true then q else false)=(p&&q):=by cases p<;>rfl
theorem ZOY(p q:Bool):(if p=true then true else q)=(p ||q):=by cases p<;>rfl
theorem ZN5(p q:Bool):(if p=true then false else q)=(!p&&q):=by cases p<;>rfl
theorem ZFe(p q:Bool):(if p=true then q else true)=(!p ||q):=by cases p<;>rfl
theorem ZJR(p q:Bool):(if p=false then q else false)=(!p&&q):=by cases p<;>rfl
theorem ZGe(p q:Bool):(if p=false then true else q)=(!p ||q):=by cases p<;>rfl
theorem ZTc(p q:Bool):(if p=false then false else q)=(p&&q):=by cases p<;>rfl
theorem ZOr(p q:Bool):(if p=false then q else true)=(p ||q):=by cases p<;>rfl
section
def Zfr(o:AOp):AOp:=⟨o.dst,o.ins,o.guard,[]⟩
def Zc3:Ze->Ze
 | .region ops chk live=>.region (ops.map Zfr) chk live
 | .seq a b=>.seq (Zc3 a) (Zc3 b)
 | .cond c a b=>.cond c (Zc3 a) (Zc3 b)
 | .block id c=>.block id (Zc3 c)
 | .loop live c=>.loop live (Zc3 c)
 | .skip=>.skip
 | .exit id=>.exit id
 | .ret=>.ret
 | .stuck=>.stuck
def ZlG(f:ZA):ZA:=⟨f.res,Zc3 f.body⟩
section
variable {O:ZV}{bf:Nat->Bool}
theorem ZDL(o:AOp)(s:Nat)(tm:Tms)(σ:Za):ZQ O bf (Zfr o) s tm σ=ZQ O bf o s tm σ:=rfl
theorem Zw0:∀ (ops:List AOp) (s:Nat) (tm:Tms) (σ:Za),Z8 O bf (ops.map Zfr) s tm σ=Z8 O bf ops s tm σ
 | [],_,_,_=>rfl
 |o::os,s,tm,σ=>by
  simp only[Xm,Z8,ZDL]
  split
  ·rfl
  ·rfl
  ·rename_i tm' σ' c _ _
   rw[show(Zfr o).ins=o.ins from rfl,Zw0 os]
theorem Ztl(ops:List AOp):sitesOf (ops.map Zfr)=sitesOf ops:=by
 simp[sitesOf,Zfr,Function.comp_def]
theorem Zm0(ops:List AOp)(i:Nat):((ops.map Zfr).getD i default).ins=(ops.getD i default).ins:=by
 simp only[Xh,WZ]
 cases ops[i]? <;> rfl
theorem ZGh(ops:List AOp)(b:Nat)(l:List (Nat×Nat))(cs:List Cls):Zd2 (ops.map Zfr) b l cs=Zd2 ops b l cs:=by
 unfold Zd2
 congr 1
 funext p
 unfold ZcS Zcx
 rw[Zm0,Zm0,<-Xa6,Ztl]
theorem ZTo(ops:List AOp)(b:Nat)(l:List (Nat×Nat))(cs:List Cls):ZdN (ops.map Zfr) b l cs=ZdN ops b l cs:=by
 unfold ZdN
 congr 2
 funext p
 unfold ZcS Zcx
 rw[Zm0,Zm0,<-Xa6,Ztl]
theorem ZLd(ops:List AOp)(chk:Option (List (Nat×Nat)))(live:List Nat)(tm:Tms)(σ:Za):Zcd O bf (ops.map Zfr) chk live tm σ=Zcd O bf ops chk live tm σ:=by
 unfold Zcd
 rw[Zw0,Ztl]
 cases Z8 O bf ops σ.length tm (σ++Xz (sitesOf ops) .free)with
 |none=>rfl
 |some q =>
  obtain⟨tm',σ',cs,p⟩:=q
  cases p with
  |some x =>
   cases chk with
   |none=>rfl
   |some l=>simp only[Zdg,ZTo]
  |none =>
   cases chk with
   |none=>rfl
   |some l=>simp only[Zdg,ZGh]
theorem ZeU(m n:Nat):∀ (c:Ze),Zak O bf m n (Zc3 c)=Zak O bf m n c
 | .region ops chk live=>by funext tm σ;simp only[Zc3,Zak,ZLd]
 | .seq a b=>by funext tm σ;simp only[Zc3,Zak,ZeU m n a,ZeU m n b]
 | .cond c a b=>by funext tm σ;simp only[Zc3,Zak,ZeU m n a,ZeU m n b]
 | .block id c=>by funext tm σ;simp only[Zc3,Zak,ZeU m n c]
 | .loop live c=>by funext tm σ;simp only[Zc3,Zak,ZeU m n c]
 | .skip=>rfl
 | .exit id=>rfl
 | .ret=>rfl
 | .stuck=>rfl
end
theorem Zt1(fs:Nat->Option ZA)(prim:Zcu)(bf:Nat->Bool):∀ n,Zay (fun f=>(fs f).map ZlG) prim bf n=Zay fs prim bf n
 |0=>rfl
 |n+1=>by
  funext f args σ
  simp only[Zay,Zt1 fs prim bf n]
  cases prim f with
  |some g=>rfl
  |none =>
   cases fs f with
   |none=>rfl
   |some fn =>
    simp only[X8,ZlG,ZeU]
    rfl
theorem ZRt(fs:Nat->Option ZA)(prim:Zcu)(bf:Nat->Bool):EV (fun f=>(fs f).map ZlG) prim bf=EV fs prim bf:=by
 funext f args σ
 apply Zf5
 intro r
 rw[ZbQ,ZbQ]
 simp only[Zt1]
end
end
section
open Go.RowKit
def Zhk:List AVal->Za->Option (AVal×Za):=fun _ _=>none
theorem Zvq{α:Prop}{args:List AVal}{σ:Za}{r:AVal×Za}(h:Zhk args σ=some r):α:=by cases h
def ZeD(k bytes:Nat)(args:List AVal)(σ:Za):Option (AVal×Za):=match args with
 | [.str _]=>none
 | [a]=>match ZY σ a with
  |some (xs,_)=>if xs.length*bytes<=140737488355328/\kOk k xs=true then some (.sl σ.length 0 0 xs.length,σ++[.row 0 k xs])else none
  |none=>none
 |_=>none
def Zfq:Ann:={ nt:=8,lr:=fun _=>[7,6,5,4,3,2,0] }
structure ZmS(P:Program)(t:TypeId)(k bytes:Nat)(z:AVal)(f:FuncId):Prop where
 ex:∃ (F:Func) (e:TypeId) (i0 i1 i2 i3:Nat) (r0 r2 r3:Array Oper) (m b:Oper),
  P.funcs[f]?=some F/\F.results=#[.tmp 2]/\F.ntmps=8/\(F.name == "runtime.NumGoroutine")=false/\P.underlying t=some (.slice e) /\
  F.body=some (.seq (.region i0 r0 false) (.seq (.seq (.region i1 #[m,b] false) (.cond (.tmp 4) (.seq (.region i2 r2 false) .ret) .skip)) (.seq (.region i3 r3 false) .ret))) /\
  m.op=.move (.tmp 0)/\m.dst=some 3/\m.guard=none/\b.op=.binOp .eql t (.tmp 3) (.const (.slice none 0 0)) t/\b.dst=some 4/\b.guard=none /\
  ZdM P Zfq r0 r0.toList=some [⟨some 2,.mov (.c (.lst true [])),none,[]⟩] /\
  ZdM P Zfq r2 r2.toList=some [⟨some 2,.mov (.c (.lst true [])),none,[]⟩] /\
  (∃ a1 a2 a3 a4,ZdM P Zfq r3 r3.toList=some [⟨some 5,.bslice false k 0 z [],none,a1⟩,⟨some 6,.mov (.t 0),none,a2⟩,⟨some 7,.app k bytes z (.t 5) (.t 6),none,a3⟩,⟨some 2,.mov (.t 7),none,a4⟩])/\z.cells.length=k/\0<k
section
variable {P:Program}{base:Nat->Prop}{w0 w w':World}{I0 I:Imm}{β:Bmap}{σ:Za}
theorem noO:ZaO P (fun _ _ _=>none):=by intro f args σ r σ' h;cases h
theorem ZfC{ops:Array Oper}{Q:Exit->Act->World->Prop}{o:Oper}{l:List Oper}{a:Act}{w:World}(hg:o.guard=none)(h:o.wp P a w (wpList P ops Q l) Q):wpList P ops Q (o::l) a w:=by
 unfold wpList
 have : Region.wanted o (yielded ops a.tmps)=true:=by unfold Region.wanted;rw[hg]
 rw[this]
 simp only[if_true]
 exact Xr h
theorem Zs7 {t : TypeId} {k bytes : Nat} {z : AVal} {f : FuncId} (hm : P.follows .mixedOrders = true) (C : ZmS P t k bytes z f) {args : List AVal} {σ σ' : Za} {r : AVal} (h : ZeD k bytes args σ = some (r, σ')) :
    (∃ fn, P.funcs[f]? = some fn /\ fn.body.isSome = true /\ (fn.name == "runtime.NumGoroutine") = false) /\
    ∀ base w0 I0 I β w (vs : Array Value), KLt base w0 -> Rel base w0 I0 I β σ w -> VRs I β args vs.toList ->
      Calls P f vs w (fun e w' => ∃ u, Ends r e u /\ ZbW σ.length base w0 I0 I β r σ' u w') := by
  obtain ⟨F, e, i0, i1, i2, i3, r0, r2, r3, m, b, hF, hres, hnt, hname, hu, hbody, hm1, hm2, hm3, hb1, hb2, hb3, hc0, hc2, ⟨a1, a2, a3, a4, hc3⟩, hzk, hk0⟩ := C.ex
  refine ⟨⟨F, hF, by rw [hbody]; rfl, hname⟩, ?_⟩
  intro base w0 I0 I β w vs hb R hargs
  unfold ZeD at h
  split at h
  case h_1 => cases h
  case h_3 => cases h
  rename_i a hns
  split at h
  case h_2 => cases h
  rename_i xs ts hel0
  split at h
  case isFalse => cases h
  rename_i hc
  obtain ⟨hbytes, hkOk⟩ := hc
  simp only [Xb, Xd] at h
  obtain ⟨rfl, rfl⟩ := h
  have hnt8 : ∀ (n : Nat), n < 8 -> n < Zfq.nt := fun n h => h
  refine calls_of_wp hF hbody ?_
  have hsz : vs.size = 1 := by have := Za1 hargs; simpa using this.symm
  have T := Zq7 hargs (F.ntmps - vs.size)
  have hst : StR Zb3 8 base w0 I0 I β (enterA 0 [a] []) σ { tmps := vs ++ W5 (F.ntmps - vs.size) undef, defers := [] } w := ⟨I, β, Imm.le.refl I, Bmap.le.refl β, T, ⟨ZfL.2 rfl, by simp; omega⟩, R⟩
  have fin : ∀ {tm : Tms} {σ1 : Za} {y : AVal} {a' : Act} {w1 : World}, StR Zb3 8 base w0 I0 I β tm σ1 a' w1 -> tget tm 2 = y -> (∀ I' β' u, I.le I' -> β.le β' -> Rel base w0 I0 I' β' σ1 w1 -> VR I' β' y u -> ZbW σ.length base w0 I0 I β (.sl σ.length 0 0 xs.length) (σ ++ [.row 0 k xs]) u w1) ->
      a'.defers = [] /\ ∃ v, (results F a'.tmps).run P w1 = .ok v w1 /\ ∃ u, Ends (.sl σ.length 0 0 xs.length) (.returned v) u /\ ZbW σ.length base w0 I0 I β (.sl σ.length 0 0 xs.length) (σ ++ [.row 0 k xs]) u w1 := by
    rintro tm σ1 y a' w1 ⟨I', β', h1, h2, h3, h4, h5⟩ hy hpost
    refine ⟨ZfL.1 h4.1, a'.tmps.getD 2 undef, by simp [results, hres], _, rfl, ?_⟩
    have := h3 2
    rw [hy] at this
    exact hpost I' β' _ h1 h2 h5 this
  have R0 : Zbf P Zfq (.region i0 r0 false) = .region [⟨some 2, .mov (.c (.lst true [])), none, []⟩] none [7, 6, 5, 4, 3, 2, 0] := by simp only [Zbf]; rw [hc0]; rfl
  have R2 : Zbf P Zfq (.region i2 r2 false) = .region [⟨some 2, .mov (.c (.lst true [])), none, []⟩] none [7, 6, 5, 4, 3, 2, 0] := by simp only [Zbf]; rw [hc2]; rfl
  have R3 : Zbf P Zfq (.region i3 r3 false) = .region [⟨some 5, .bslice false k 0 z [], none, a1⟩, ⟨some 6, .mov (.t 0), none, a2⟩, ⟨some 7, .app k bytes z (.t 5) (.t 6), none, a3⟩, ⟨some 2, .mov (.t 7), none, a4⟩] none [7, 6, 5, 4, 3, 2, 0] := by simp only [Zbf]; rw [hc3]; rfl
  refine wp_seq ?_
  refine Znm (an := Zfq) (dr := Zb3) (bf := fun _ => false) noO (fun n hn => by simp [Zb3] at hn) hm hb R0 hst (e := .normal) (tm' := keepL [7, 6, 5, 4, 3, 2, 0] [(2, .lst true []), (0, a)]) (σ' := σ) ?_ ?_
  . simp [Zcd, Zdg, sitesOf, nsite, Z8, ZQ, ZbM, execI, Opd.ev, tput, tins, enterA]
  intro a1' w1 hst1
  simp only [Exit.then]
  refine wp_seq (wp_seq ?_)
  refine wp_region_list ?_
  refine ZfC hm3 ?_
  obtain ⟨I1, β1, g1, g2, g3, g4, g5⟩ := hst1
  have hs8 : 8 <= a1'.tmps.size := g4.2
  have hT0 : VR I1 β1 a (a1'.tmps.getD 0 undef) := by have := g3 0; simpa [keepL, tget] using this
  obtain ⟨A, cap, hv0, q1, q2, q5, q4⟩ := Zsi g5 (fun l e => hns l e) hel0 hT0
  show m.wp P a1' w1 _ _
  unfold Oper.wp
  have e1 : (execOp a1'.eval m).run P w1 = .ok (.value (.slice A xs.length cap)) w1 := by
    unfold execOp; rw [hm1]; simp [Act.eval, hv0]
  rw [e1, Oper.upon_value, hm2]
  refine ZfC hb3 ?_
  unfold Oper.wp
  have hs3 : (a1'.put (some 3) (.slice A xs.length cap)).tmps.getD 3 undef = .slice A xs.length cap := by
    have : 3 < a1'.tmps.size := by omega
    simp [Act.put, WY, this]
  have e2 : (execOp (a1'.put (some 3) (.slice A xs.length cap)).eval b).run P w1 = .ok (.value (.bool A.isNone)) w1 := by
    have hq : (Op.equal t (.slice A xs.length cap) (.slice none 0 0)).run P w1 = .ok A.isNone w1 := run_equal_slice_nil w1 t e A xs.length cap hu
    unfold execOp; rw [hb1]
    simp only [Act.eval]
    rw [hs3]
    simp [eqGuard, binOp, hq]
  rw [e2, Oper.upon_value, hb2]
  refine wpList_nil ?_
  have hst2 : StR Zb3 8 base w0 I0 I β [(4, .bool A.isNone), (2, .lst true []), (0, a)] σ ((a1'.put (some 3) (.slice A xs.length cap)).put (some 4) (.bool A.isNone)) w1 := by
    refine ⟨I1, β1, g1, g2, fun n => ?_, ⟨ZlK (ZlK g4.1 (fun n _ hm => by simp [Zb3] at hm)) (fun n _ hm => by simp [Zb3] at hm), by rw [Zfh, Zfh]; exact g4.2⟩, g5⟩
    have hs : 4 < (a1'.put (some 3) (.slice A xs.length cap)).tmps.size := by rw [Zfh]; omega
    have ne : ∀ {a : Act} {d j : Nat} {u : Value}, d ≠ j -> (a.put (some d) u).tmps.getD j undef = a.tmps.getD j undef := by
      intro a d j u hne
      simp only [Act.put, WA]; rw [Array.getElem?_setIfInBounds_ne hne]
    simp only [tget]
    split
    . rename_i e; subst e
      rw [show ((a1'.put (some 3) (.slice A xs.length cap)).put (some 4) (.bool A.isNone)).tmps.getD 4 undef = .bool A.isNone by
        simp only [Act.put] at hs ⊢
        simp [WY] at hs ⊢
        omega]
      simp only [VR]
    . split
      . rename_i e; subst e
        rw [ne (by omega), ne (by omega)]
        have := g3 2; simpa [keepL, tget] using this
      . split
        . rename_i e; subst e
          rw [ne (by omega), ne (by omega)]
          have := g3 0; simpa [keepL, tget] using this
        . simp only [VR]
  simp only [Exit.then]
  cases hA : A.isNone with
  | true =>
    have hx0 : xs = [] := by
      rcases q4 with h | ⟨b, off, k', us, e, _⟩
      . exact h
      . rw [e] at hA; cases hA
    subst hx0
    have hev : ((a1'.put (some 3) (.slice A 0 cap)).put (some 4) (.bool A.isNone)).eval (.tmp 4) = .bool true := by
      obtain ⟨_, _, _, _, T, _, _⟩ := hst2
      have := T 4
      simp only [tget, if_true, VR] at this
      rw [hA] at this
      simpa [Act.eval, hA] using this
    refine wp_cond_true (by simpa [hA] using hev) ?_
    refine wp_seq ?_
    rw [hA] at hst2
    refine Znm (an := Zfq) (dr := Zb3) (bf := fun _ => false) noO (fun n hn => by simp [Zb3] at hn) hm hb R2 hst2 (e := .normal) (tm' := keepL [7, 6, 5, 4, 3, 2, 0] [(4, .bool true), (2, .lst true []), (0, a)]) (σ' := σ) ?_ ?_
    . simp [Zcd, Zdg, sitesOf, nsite, Z8, ZQ, ZbM, execI, Opd.ev, tput, tins]
    intro a3' w3 hst3
    simp only [Exit.then]
    refine wp_ret ?_
    refine fin hst3 (y := .lst true []) (by simp [keepL, tget]) ?_
    intro I' β' u h1 h2 h3 h4
    simp only [VR] at h4
    obtain ⟨A', cap', rfl, _, _, hx, _⟩ := h4
    have hcap : cap' = 0 := by simpa using hx
    subst hcap
    have R4 := h3.reserve 1
    have hfree : (σ ++ Xz 1 ZO.free)[σ.length]? = some .free := by simp
    obtain ⟨R5, hle⟩ := R4.newNone hfree k hk0
    refine ⟨I', _, h1, KeptE.of_le (h2.trans hle), ?_, ?_⟩
    . have : (σ ++ Xz 1 ZO.free).set σ.length (.row 0 k []) = σ ++ [.row 0 k []] := by simp
      rw [this] at R5; exact R5
    . simp only [Zbg]
      rw [Zcl]
      exact ⟨_, Bmap.put_same β' σ.length 0 _, by simp, by simp, XE ⟨rfl, rfl, A', rfl⟩⟩
  | false =>
    have hev : ((a1'.put (some 3) (.slice A xs.length cap)).put (some 4) (.bool A.isNone)).eval (.tmp 4) = .bool false := by
      obtain ⟨_, _, _, _, T, _, _⟩ := hst2
      have := T 4
      simp only [tget, if_true, VR] at this
      rw [hA] at this
      simpa [Act.eval, hA] using this
    refine wp_cond_false (by simpa [hA] using hev) ?_
    refine wp_skip ?_
    rw [hA] at hst2
    simp only [Exit.then]
    refine wp_seq ?_
    have hel : ZY (σ ++ [ZO.free]) a = some (xs, ts) := Zh8 hel0 (fun t ht => by
      obtain ⟨g, k, ys, h | h⟩ := Zma hel0 t ht <;> (rw [Wi (List.getElem?_eq_some_iff.1 h).1]))
    refine Znm (an := Zfq) (dr := Zb3) (bf := fun _ => false) noO (fun n hn => by simp [Zb3] at hn) hm hb R3 hst2 (e := .normal) (tm' := keepL [7, 6, 5, 4, 3, 2, 0] [(7, .sl σ.length 0 0 xs.length), (6, a), (5, .lst true []), (4, .bool false), (2, .sl σ.length 0 0 xs.length), (0, a)]) (σ' := σ ++ [.row 0 k xs]) ?_ ?_
    . have hfa : freeAt (σ ++ [ZO.free]) σ.length = true := by simp [freeAt]
      have hnp : (∃ x ys, a = .lst x ys) \/ ∃ t g lo n, a = .sl t g lo n := by
        cases a with
        | lst x ys => exact Xr ⟨x, ys, rfl⟩
        | sl t g lo n => exact XE ⟨t, g, lo, n, rfl⟩
        | str l => exact absurd rfl (hns l)
        | _ => simp [ZY] at hel0
      rcases hnp with ⟨x, ys, rfl⟩ | ⟨t', g', lo, n, rfl⟩
      . simp [Zcd, Zdg, sitesOf, nsite, Z8, ZQ, ZbM, execI, Opd.ev, tput, tins, tget, viewAs, Zr, hzk, ZaE, hel, hkOk, hbytes, hfa]
      . simp [Zcd, Zdg, sitesOf, nsite, Z8, ZQ, ZbM, execI, Opd.ev, tput, tins, tget, viewAs, Zr, hzk, ZaE, hel, hkOk, hbytes, hfa]
    intro a3' w3 hst3
    simp only [Exit.then]
    refine wp_ret ?_
    refine fin hst3 (y := .sl σ.length 0 0 xs.length) (by simp [keepL, tget]) ?_
    intro I' β' u h1 h2 h3 h4
    exact ⟨I', β', h1, KeptE.of_le h2, h3, h4⟩
end
end
section
open Go.RowKit
def Zrl(args:List AVal)(σ:Za):Option (AVal×Za):=match args with
 | [.str l]=>some (.bool (Lib.validD l),σ)
 |_=>none
def ZoF(args:List AVal)(σ:Za):Option (AVal×Za):=match args with
 | [.str l,.int .u8 c]=>some (.int .i64 (Lib.indexByte l c.toNat.toUInt8),σ)
 |_=>none
def ZoV(args:List AVal)(σ:Za):Option (AVal×Za):=match args with
 | [.str l,.str [c]]=>some (.int .i64 (Lib.countByte l c),σ)
 |_=>none
section
variable {P:Program}{base:Nat->Prop}{w0 w w':World}{I0 I:Imm}{β:Bmap}{σ:Za}
theorem Zki{f:Nat}(hf:∃ fn,P.funcs[f]?=some fn/\fn.body.isSome=true/\(fn.name == "runtime.NumGoroutine")=false){args:List AVal}{r:AVal}{u:Value}(hn:∀ x,r≠.pan x)(hr:∀ I β,VR I β r u)
  (h:∀ base w0 I0 I β w (vs:Array Value),Rel base w0 I0 I β σ w->VRs I β args vs.toList->Calls P f vs w (fun e w'=>e=.returned u/\Below w.heap.size w w')) :
  (∃ fn,P.funcs[f]?=some fn/\fn.body.isSome=true/\(fn.name == "runtime.NumGoroutine")=false) /\
  ∀ base w0 I0 I β w (vs:Array Value),KLt base w0->Rel base w0 I0 I β σ w->VRs I β args vs.toList ->
   Calls P f vs w (fun e w'=>∃ u,Ends r e u/\ZbW σ.length base w0 I0 I β r σ u w'):=by
 refine⟨hf,fun base w0 I0 I β w vs hb R hv=>(h base w0 I0 I β w vs R hv).mono ?_⟩
 rintro e w' ⟨rfl,hB⟩
 have hbw:=R.base_le hb
 refine⟨u,?_,I,β,Imm.le.refl I,KeptE.refl _ β,R.stay (Imm.le.refl I) ⟨hB.os,hB.tape,hB.output,hB.size,fun k hk=>hB.block k (hbw k hk)⟩ (fun _ _ _=>rfl) ?_ ?_,by rw[ZgO hn];exact hr I β⟩
 ·cases r<;>first |rfl |exact absurd rfl (hn _)
 ·intro b o x hx
  have h1:=R.imm b o x hx
  have hlt:=Zez h1
  rw[<-h1]
  simp only[World.cell?,hB.block b hlt]
 ·intro t x b hx hb'
  exact⟨hB.block b ((R.blk t x hx).owns_lt hb'),(R.own t x b hx hb').2⟩
theorem Zyq{f:Nat}(hf:∃ fn,P.funcs[f]?=some fn/\fn.body.isSome=true/\(fn.name == "runtime.NumGoroutine")=false)
  (hc:∀ (s:ByteArray) (c:Int) (w:World),Calls P f #[.string s,.int .u8 c] w fun e w'=>e=.returned (.int .i64 (Lib.indexByte s.data.toList c.toNat.toUInt8))/\w'=w) {args:List AVal} {σ σ':Za} {r:AVal} (h:ZoF args σ=some (r,σ')) :
  (∃ fn,P.funcs[f]?=some fn/\fn.body.isSome=true/\(fn.name == "runtime.NumGoroutine")=false) /\
  ∀ base w0 I0 I β w (vs:Array Value),KLt base w0->Rel base w0 I0 I β σ w->VRs I β args vs.toList ->
   Calls P f vs w (fun e w'=>∃ u,Ends r e u/\ZbW σ.length base w0 I0 I β r σ' u w'):=by
 unfold ZoF at h
 split at h
 case h_2=>cases h
 rename_i l c
 simp only[Xb,Xd]at h
 obtain⟨rfl,rfl⟩:=h
 refine Zki hf (u:=.int .i64 (Lib.indexByte l c.toNat.toUInt8)) (by simp) (fun _ _=>by simp only[VR]) ?_
 intro base w0 I0 I β w vs R hv
 obtain⟨vs⟩:=vs
 simp only[VRs,VR]at hv
 obtain⟨v1,r1,e1,⟨rfl,_⟩,v2,r2,rfl,rfl,rfl⟩:=hv
 subst e1
 refine(hc ⟨l.toArray⟩ c w).mono ?_
 rintro e w' ⟨rfl,rfl⟩
 exact⟨by simp,Below.refl _ _⟩
theorem ZT9{f:Nat}(hf:∃ fn,P.funcs[f]?=some fn/\fn.body.isSome=true/\(fn.name == "runtime.NumGoroutine")=false)
  (hc:∀ (s:ByteArray) (c:UInt8) (w:World),Calls P f #[.string s,.string ⟨#[c]⟩] w fun e w'=>e=.returned (.int .i64 (Lib.countByte s.data.toList c))/\w'=w) {args:List AVal} {σ σ':Za} {r:AVal} (h:ZoV args σ=some (r,σ')) :
  (∃ fn,P.funcs[f]?=some fn/\fn.body.isSome=true/\(fn.name == "runtime.NumGoroutine")=false) /\
  ∀ base w0 I0 I β w (vs:Array Value),KLt base w0->Rel base w0 I0 I β σ w->VRs I β args vs.toList ->
   Calls P f vs w (fun e w'=>∃ u,Ends r e u/\ZbW σ.length base w0 I0 I β r σ' u w'):=by
 unfold ZoV at h
 split at h
 case h_2=>cases h
 rename_i l c
 simp only[Xb,Xd]at h
 obtain⟨rfl,rfl⟩:=h
 refine Zki hf (u:=.int .i64 (Lib.countByte l c)) (by simp) (fun _ _=>by simp only[VR]) ?_
 intro base w0 I0 I β w vs R hv
 obtain⟨vs⟩:=vs
 simp only[VRs,VR]at hv
 obtain⟨v1,r1,e1,⟨rfl,_⟩,v2,r2,rfl,⟨rfl,_⟩,rfl⟩:=hv
 subst e1
 refine(hc ⟨l.toArray⟩ c w).mono ?_
 rintro e w' ⟨rfl,rfl⟩
 exact⟨by simp,Below.refl _ _⟩
theorem ZV5(R:Rel base w0 I0 I β σ w):Lib.Utf8Tabs 0 1 w:=by
 refine⟨fun c hc=>R.imm _ _ _ (R.glob.1 _ _ _ (by simp[Gl,hc])),fun i hi=>⟨R.imm _ _ _ (R.glob.1 _ _ _ ?_),R.imm _ _ _ (R.glob.1 _ _ _ ?_)⟩⟩
 ·have h1:2*i<32:=by omega
  have h2:2*i%2=0:=by omega
  have h3:2*i/2=i:=by omega
  simp[Gl,h1,h3]
 ·have h1:2*i+1<32:=by omega
  have h2:(2*i+1)%2=1:=by omega
  have h3:(2*i+1)/2=i:=by omega
  simp[Gl,h1,h2,h3]
theorem ZC8{f:Nat}(hf:∃ fn,P.funcs[f]?=some fn/\fn.body.isSome=true/\(fn.name == "runtime.NumGoroutine")=false)
  (hc:∀ (s:ByteArray) (w:World),s.size<=9223372036854775807->Lib.Utf8Tabs 0 1 w->Calls P f #[.string s] w fun e w'=>e=.returned (.bool (Lib.validD s.data.toList))/\Below w.heap.size w w') {args:List AVal} {σ σ':Za} {r:AVal} (h:Zrl args σ=some (r,σ')) :
  (∃ fn,P.funcs[f]?=some fn/\fn.body.isSome=true/\(fn.name == "runtime.NumGoroutine")=false) /\
  ∀ base w0 I0 I β w (vs:Array Value),KLt base w0->Rel base w0 I0 I β σ w->VRs I β args vs.toList ->
   Calls P f vs w (fun e w'=>∃ u,Ends r e u/\ZbW σ.length base w0 I0 I β r σ' u w'):=by
 unfold Zrl at h
 split at h
 case h_2=>cases h
 rename_i l
 simp only[Xb,Xd]at h
 obtain⟨rfl,rfl⟩:=h
 refine Zki hf (u:=.bool (Lib.validD l)) (by simp) (fun _ _=>by simp only[VR]) ?_
 intro base w0 I0 I β w vs R hv
 obtain⟨vs⟩:=vs
 simp only[VRs,VR]at hv
 obtain⟨v1,r1,e1,⟨rfl,hl⟩,rfl⟩:=hv
 subst e1
 refine(hc ⟨l.toArray⟩ w (by simpa[Wu]using hl) (ZV5 R)).mono ?_
 rintro e w' ⟨rfl,hB⟩
 exact⟨by simp,hB⟩
end
end
section
open Go.RowKit
def Za6:Nat->Nat->List UInt8
 |0,_=>[]
 |k+1,u=>if u<10 then [X1 (48+u)]else Za6 k (u/10)++[X1 (48+u%10)]
theorem Zxf:∀ (k u:Nat),1<=k->u<10^k->Za6 k u=Lib.decDigits u
 |0,_,h,_=>by omega
 |k+1,u,_,h=>by
  rw[Za6,Lib.decDigits]
  split
  ·rfl
  ·rename_i hu
   rw[Nat.pow_succ]at h
   have hk:1<=k:=by
    rcases Nat.eq_zero_or_pos k with rfl |hk
    ·simp at h;omega
    ·exact hk
   rw[Zxf k (u/10) hk (by omega)]
theorem ZlR:∀ (k u:Nat),(Za6 k u).length<=k
 |0,_=>by simp[Za6]
 |k+1,u=>by
  rw[Za6]
  split
  ·simp
  ·have:=ZlR k (u/10)
   simp;omega
def ZjG(args:List AVal)(σ:Za):Option (AVal×Za):=match args with
 | [.int .i64 n]=>if 0<=n/\n<=9223372036854775807 then some (.str (Za6 20 n.toNat),σ)else none
 |_=>none
def Zjy(args:List AVal)(σ:Za):Option (AVal×Za):=match args with
 | [.str l]=>if l.length<=18 then(match Lib.atoi l with
  |some n=>some (.tup [.int .i64 n,.nili],σ)
  |none=>none)else none
 |_=>none
section
variable {base:Nat->Prop}{w0 w w':World}{I0 I:Imm}{β:Bmap}{σ:Za}
theorem ZIL(R:Rel base w0 I0 I β σ w):Lib.TabIs Tryz.prog w "internal/strconv.uint64pow10" .u64 Lib.pow10Tab:=by
 obtain⟨h1,⟨t,z,h2⟩,_⟩:=R.glob.2
 unfold Lib.TabIs World.var?
 rw[show Tryz.prog.globalNamed "internal/strconv.uint64pow10"=some 6 from by kernel_rfl]
 simp only[Wj,(R.below.block _ h1).trans h2]
theorem ZJk{W:World}(h:Lib.TabIs Tryz.prog W "internal/strconv.uint64pow10" .u64 Lib.pow10Tab):GB (fun b=>b<W.heap.size) W:=by
 unfold Lib.TabIs World.var? at h
 rw[show Tryz.prog.globalNamed "internal/strconv.uint64pow10"=some 6 from by kernel_rfl]at h
 simp only[Wj]at h
 split at h
 case h_2=>cases h
 rename_i cs t z e
 injection h with h
 subst h
 exact⟨(XX.1 e).1,⟨t,z,e⟩,trivial⟩
theorem ZMN{W:World}(h:Lib.VarReads Tryz.prog W "internal/strconv.uint64pow10" (Lib.tabData .u64 Lib.pow10Tab)):Lib.TabIs Tryz.prog W "internal/strconv.uint64pow10" .u64 Lib.pow10Tab:=by
 obtain⟨g,t,cs,fuel,p,h1,h2,h3,h4⟩:=h
 obtain rfl:=WE ((show Tryz.prog.globalNamed "internal/strconv.uint64pow10"=some 6 from by kernel_rfl).symm.trans h1)
 obtain rfl:=WE ((show(Tryz.prog.globals[6]?).map (·.type)=some 231 from by kernel_rfl).symm.trans h2)
 unfold Lib.TabIs
 rw[h3,<-Lib.cells_of_tab (n:=20) (e:=162) (by kernel_rfl) (by kernel_rfl) (by kernel_rfl) (by kernel_rfl) h4]
theorem ZSF{f:Nat}(hf:∃ fn,Tryz.prog.funcs[f]?=some fn/\fn.body.isSome=true/\(fn.name == "runtime.NumGoroutine")=false)
  (hc:∀ (n:Int) (w:World),-9223372036854775808<=n->n<=9223372036854775807->Lib.TabIs Tryz.prog w "internal/strconv.uint64pow10" .u64 Lib.pow10Tab->Calls Tryz.prog f #[.int .i64 n] w fun e w'=>e=.returned (.string ⟨(Lib.itoa n).toArray⟩)/\∃ k os,w'=Go.Sort.grow (w.drewN k) os) {args:List AVal} {σ σ':Za} {r:AVal} (h:ZjG args σ=some (r,σ')) :
  (∃ fn,Tryz.prog.funcs[f]?=some fn/\fn.body.isSome=true/\(fn.name == "runtime.NumGoroutine")=false) /\
  ∀ base w0 I0 I β w (vs:Array Value),KLt base w0->Rel base w0 I0 I β σ w->VRs I β args vs.toList ->
   Calls Tryz.prog f vs w (fun e w'=>∃ u,Ends r e u/\ZbW σ.length base w0 I0 I β r σ' u w'):=by
 unfold ZjG at h
 split at h
 case h_2=>cases h
 rename_i n
 split at h
 case isFalse=>cases h
 rename_i hn
 simp only[Xb,Xd]at h
 obtain⟨rfl,rfl⟩:=h
 have hi:Za6 20 n.toNat=Lib.itoa n:=by
  rw[Zxf 20 n.toNat (by decide) (by omega),Lib.itoa,if_neg (by omega)]
 have hl:=ZlR 20 n.toNat
 rw[hi]at hl ⊢
 refine Zki hf (u:=.string ⟨(Lib.itoa n).toArray⟩) (by simp) (fun _ _=>by simp only[VR];exact⟨trivial,by omega⟩) ?_
 intro base w0 I0 I β w vs R hv
 obtain⟨vs⟩:=vs
 simp only[VRs,VR]at hv
 obtain⟨v1,r1,e1,rfl,rfl⟩:=hv
 subst e1
 refine(hc n w (by omega) hn.2 (ZIL R)).mono ?_
 rintro e w' ⟨rfl,k,os,rfl⟩
 refine⟨rfl,rfl,rfl,rfl,?_,fun j hj=>?_⟩
 ·show w.heap.size<=(w.heap++os).size
  rw[Array.size_append];omega
 ·show(w.heap++os)[j]?=w.heap[j]?
  exact Xau hj
theorem ZMh{P:Program}{f:Nat}{t:TypeId}(hf:∃ fn,P.funcs[f]?=some fn/\fn.body.isSome=true/\(fn.name == "runtime.NumGoroutine")=false)
  (hc:∀ (s:ByteArray) (n:Int) (w:World),s.size<=18->Lib.atoi s.data.toList=some n->Calls P f #[.string s] w fun e w'=>e=.returned (.tuple #[.int .i64 n,.nilIface])/\∃ x,w'=Lib.bytesWorld w t x) {args:List AVal} {σ σ':Za} {r:AVal} (h:Zjy args σ=some (r,σ')) :
  (∃ fn,P.funcs[f]?=some fn/\fn.body.isSome=true/\(fn.name == "runtime.NumGoroutine")=false) /\
  ∀ base w0 I0 I β w (vs:Array Value),KLt base w0->Rel base w0 I0 I β σ w->VRs I β args vs.toList ->
   Calls P f vs w (fun e w'=>∃ u,Ends r e u/\ZbW σ.length base w0 I0 I β r σ' u w'):=by
 unfold Zjy at h
 split at h
 case h_2=>cases h
 rename_i l
 split at h
 case isFalse=>cases h
 rename_i hl
 split at h
 case h_2=>cases h
 rename_i n ha
 simp only[Xb,Xd]at h
 obtain⟨rfl,rfl⟩:=h
 refine Zki hf (u:=.tuple #[.int .i64 n,.nilIface]) (by simp) (fun _ _=>by simp[VR,VRs]) ?_
 intro base w0 I0 I β w vs R hv
 obtain⟨vs⟩:=vs
 simp only[VRs,VR]at hv
 obtain⟨v1,r1,e1,⟨rfl,_⟩,rfl⟩:=hv
 subst e1
 refine(hc ⟨l.toArray⟩ n w (by simpa[Wu]using hl) (by simpa using ha)).mono ?_
 rintro e w' ⟨rfl,x,rfl⟩
 exact⟨rfl,rfl,rfl,rfl,by rw[Lib.bytesWorld_size];omega,fun j hj=>Lib.bytesWorld_at_old _ _ _ j hj⟩
end
end
section
def Zfk{α:Type}(d:α):List (Nat×α)->Nat->α
 | [],_=>d
 |(k,v)::r,n=>if k=n then v else Zfk d r n
def ZC(own raw:List Nat)(cfg cfg2:List (Nat×Nat×Bool))(lr ll:List (Nat×List Nat)):Ann:={ own:=fun n=>if own.contains n then 1 else if raw.contains n then 2 else 0,cfg:=Zfk (0,true) cfg,cfg2:=Zfk (0,true) cfg2,lr:=Zfk [] lr,ll:=Zfk [] ll }
def ZCI:List (Nat×Ann):=[
 (55,ZC [] [] [] [] [(0,[0]),(1,[2])] []),
 (39,ZC [] [] [] [] [(0,[1,0]),(1,[5,1,0]),(2,[5]),(3,[4])] []),
 (65,ZC [] [] [] [] [(0,[1,0]),(1,[6]),(2,[4])] []),
 (36,ZC [] [] [] [] [(0,[1,0]),(1,[15,1,0]),(2,[4]),(3,[]),(4,[4])] []),
 (25,ZC [] [] [] [] [(0,[0]),(1,[4,0]),(2,[6,4,0]),(3,[4,0]),(4,[11,4,0]),(5,[3,2]),(6,[3,2])] [(2,[4,0])]),
 (18,ZC [] [] [(41,1,false),(40,0,false)] [] [(0,[3,0]),(1,[5,3,0]),(2,[13,5,3,0]),(3,[4]),(4,[5,0]),(5,[]),(6,[4])] []),
 (38,ZC [] [] [] [] [(0,[2,1]),(1,[3])] []),
 (10,ZC [] [] [(26,0,false)] [] [(0,[4,1,0]),(1,[13,4,1,0]),(2,[5,4]),(3,[6,4,1,0]),(4,[7,6,4,1,0]),(5,[7,4,1,0]),(6,[8,7,4,1,0]),(7,[8,7,4,1]),(8,[5,4])] []),
 (8,ZC [] [] [] [] [(0,[3,0]),(1,[5,3,0]),(2,[5,3,0]),(3,[5,3,0]),(4,[45,3,0]),(5,[4]),(6,[]),(7,[4])] []),
 (17,ZC [] [] [] [] [(0,[1,0]),(1,[4])] []),
 (9,ZC [] [] [] [] [(0,[1,0]),(1,[1,0]),(2,[5,1,0]),(3,[16,15,14,5,1]),(4,[17,16,15,14,5,1]),(5,[16,15,14,7,5,1]),(6,[16,15,14,5,1]),(7,[16,15,14,5,1]),(8,[4])] [(4,[16,15,14,5,1])]),
 (24,ZC [] [] [] [] [(0,[3,0]),(1,[4])] []),
 (51,ZC [] [] [] [] [(0,[2,1]),(1,[3])] []),
 (78,ZC [] [] [(107,1,true)] [] [(0,[1]),(1,[2,1]),(2,[10,2,1]),(3,[11,10,2,1]),(4,[1]),(5,[15,10,2,1]),(6,[3,2,1]),(7,[3,2,1]),(8,[2,1]),(9,[2,1]),(10,[1]),(11,[37,10,2,1]),(12,[1]),(13,[41,10,2,1]),(14,[41,10,2,1]),(15,[41,10,2,1]),(16,[41,10,2,1]),(17,[1]),(18,[1]),(19,[50,10,2,1]),(20,[1]),(21,[56,10,2,1]),(22,[1]),(23,[61,10,2,1]),(24,[61,10,2,1]),(25,[1]),(26,[67,10,1]),(27,[67,1]),(28,[1]),(29,[])] []),
 (109,ZC [] [] [] [] [(0,[])] []),
 (111,ZC [] [] [] [] [(0,[])] []),
 (102,ZC [] [] [] [] [(0,[0]),(1,[3,0]),(2,[3]),(3,[2])] []),
 (100,ZC [] [] [] [] [(0,[2,0]),(1,[2,0]),(2,[2,0]),(3,[3,2,0]),(4,[3,2,0]),(5,[3,2,0]),(6,[3,2,0]),(7,[2,0]),(8,[2,0]),(9,[2,0]),(10,[2,0]),(11,[107,2,0]),(12,[2,0]),(13,[2,0]),(14,[2,0]),(15,[129,2,0]),(16,[2,0]),(17,[138,2,0]),(18,[])] []),
 (134,ZC [] [] [] [] [(0,[0]),(1,[5,4,3,0]),(2,[4,3,0]),(3,[3]),(4,[2])] []),
 (77,ZC [] [] [] [] [(0,[4,1]),(1,[4,1]),(2,[4,1]),(3,[24,4,1]),(4,[]),(5,[4]),(6,[4]),(7,[])] []),
 (105,ZC [] [] [] [] [(0,[0]),(1,[])] []),
 (107,ZC [] [] [] [] [(0,[1,0]),(1,[1,0]),(2,[1,0]),(3,[29,1,0]),(4,[1,0])] [(3,[1,0])]),
 (101,ZC [] [] [] [] [(0,[1,0]),(1,[1,0]),(2,[5,1,0]),(3,[5]),(4,[4])] []),
 (103,ZC [] [] [] [] [(0,[1,0]),(1,[7,6,5,0]),(2,[6,5,0]),(3,[5]),(4,[4])] []),
 (104,ZC [] [] [] [] [(0,[0]),(1,[13,0]),(2,[0]),(3,[0]),(4,[])] []),
 (106,ZC [] [] [] [] [(0,[7,0]),(1,[0]),(2,[19,0]),(3,[])] []),
 (108,ZC [] [] [] [] [(0,[2,0]),(1,[3,2,0]),(2,[3,2,0]),(3,[3,2,0]),(4,[2,0]),(5,[2,0]),(6,[])] []),
 (110,ZC [] [] [] [] [(0,[0]),(1,[5,4,3,0]),(2,[4,3,0]),(3,[3]),(4,[2])] []),
 (53,ZC [] [] [(73,1,true),(69,1,true),(75,1,true),(70,1,true),(71,1,true),(74,1,true),(72,1,true)] [] [(0,[3,0]),(1,[11,3,0]),(2,[12,11,3,0]),(3,[]),(4,[17,11,3,0]),(5,[3,0]),(6,[3,0]),(7,[]),(8,[32,11,3,0]),(9,[3,0]),(10,[40,3,0]),(11,[3,0]),(12,[3,0]),(13,[]),(14,[55,11,3,0]),(15,[55,11,3,0]),(16,[55,11,3,0]),(17,[55,11,3,0]),(18,[3,0]),(19,[]),(20,[67,11,3,0]),(21,[3,0]),(22,[75,74,73,0]),(23,[76,75,74,73,0]),(24,[75,74,73,5,0]),(25,[75,74,73,5,0]),(26,[75,74,73,0]),(27,[75,74,73,0]),(28,[102,11,3,0]),(29,[3,0]),(30,[110,109,108,0]),(31,[111,110,109,108,0]),(32,[110,109,108,7,0]),(33,[110,109,108,0]),(34,[110,109,108,0]),(35,[118,11,3,0]),(36,[118,11,3,0]),(37,[3,0]),(38,[127,126,125,0]),(39,[128,127,126,125,0]),(40,[127,126,125,9,0]),(41,[127,126,125,0]),(42,[127,126,125,0]),(43,[135,11,3,0]),(44,[135,3,0]),(45,[])] [(23,[75,74,73,0]),(31,[110,109,108,0]),(39,[127,126,125,0])]),
 (69,ZC [] [] [(93,1,true),(70,1,true),(71,1,true),(72,1,true)] [] [(0,[3,0]),(1,[3,0]),(2,[3,0]),(3,[3,0]),(4,[3,0]),(5,[3,0]),(6,[3,0]),(7,[49,3,0]),(8,[3,0]),(9,[3,0]),(10,[3,0]),(11,[66,3,0]),(12,[3,0]),(13,[72,3,0]),(14,[])] []),
 (93,ZC [] [] [(73,1,true)] [] [(0,[4,0]),(1,[])] []),
 (75,ZC [] [] [(70,1,true),(71,1,true)] [] [(0,[3,0]),(1,[3,0]),(2,[])] []),
 (70,ZC [] [] [(73,1,true)] [] [(0,[])] []),
 (71,ZC [] [] [(73,1,true)] [] [(0,[6,0]),(1,[])] []),
 (74,ZC [] [] [(70,1,true),(71,1,true)] [] [(0,[3,0]),(1,[12,3,0]),(2,[3,0]),(3,[20,3,0]),(4,[])] []),
 (72,ZC [] [] [(73,1,true)] [] [(0,[4,0]),(1,[])] []),
 (92,ZC [] [] [] [] [(0,[1,0]),(1,[4])] []),
 (15,ZC [] [] [] [] [(0,[2,1]),(1,[3,2,1]),(2,[33,3,2,1]),(3,[3,2,1]),(4,[4,2,1]),(5,[5,4,2,1]),(6,[53,5,4,2,1]),(7,[5,4,2,1]),(8,[5,4,2,1]),(9,[71,4,2,1]),(10,[4,2]),(11,[2])] [(6,[5,4,2,1])]),
 (35,ZC [] [] [] [] [(0,[1]),(1,[3,1]),(2,[7,3,1]),(3,[3,1]),(4,[18,3,1]),(5,[3,1]),(6,[29,3,1]),(7,[3,1]),(8,[4,3,1]),(9,[45,4,3,1]),(10,[4,3,1]),(11,[4,3,1]),(12,[2])] [(9,[4,3,1])]),
 (133,ZC [] [] [] [] [(0,[]),(2,[]),(7,[4])] []),
 (153,ZC [] [] [] [] [] []),
 (16,ZC [] [] [] [] [(0,[0]),(1,[3,0]),(2,[11,10,9,3]),(3,[12,11,10,9,3]),(4,[11,10,9,5,3]),(5,[11,10,9,3]),(6,[11,10,9,3]),(7,[2])] [(3,[11,10,9,3])]),
 (83,ZC [] [] [] [] [(0,[0]),(1,[4,0]),(2,[30,0]),(3,[5,0]),(4,[39,5,0]),(5,[5,0]),(6,[44,5,0]),(7,[3,2]),(8,[6,5,0]),(9,[49,48,47,6,5]),(10,[50,49,48,47,6,5]),(11,[49,48,47,8,6,5]),(12,[49,48,47,8,6,5]),(13,[56,49,48,47,8,6,5]),(14,[3,2]),(15,[49,48,47,6,5]),(16,[49,48,47,6,5]),(17,[66,6]),(18,[6]),(19,[3,2]),(20,[10,9]),(21,[3,2])] [(10,[49,48,47,6,5])]),
 (119,ZC [] [] [] [] [(0,[1,0]),(1,[11,1,0]),(2,[17,0]),(3,[4]),(4,[0]),(5,[6,0]),(6,[23,6]),(7,[6]),(8,[]),(10,[34,5]),(11,[]),(14,[9]),(15,[4])] []),
 (85,ZC [] [] [] [] [(0,[0]),(1,[2])] []),
 (141,ZC [] [] [] [] [(0,[0]),(1,[4,0]),(2,[2]),(3,[2])] []),
 (148,ZC [] [] [] [] [(0,[1,0]),(1,[5,1,0]),(2,[16,5,1,0]),(3,[4]),(4,[24,5,1,0]),(5,[4]),(6,[31]),(7,[4]),(9,[4]),(10,[6,5,1,0]),(11,[7,6,5,1,0]),(12,[8,7,6,5,1,0]),(13,[9,8,7,6,5,1,0]),(14,[10,9,8,7,6,5,1,0]),(15,[59,10,9,8,7,6,5,1,0]),(16,[64,10,9,8,7,6,5,1,0]),(17,[11,10,8,7,5,1,0]),(18,[73,11,10,8,7,5,1,0]),(19,[4]),(20,[10,8,7,5,1,0]),(21,[93,10,8]),(22,[4]),(23,[10]),(24,[]),(26,[12,8]),(27,[114,12,8]),(28,[4]),(29,[4]),(31,[13,8]),(32,[139,13,8]),(33,[4]),(34,[4]),(35,[4])] [(15,[10,9,8,7,6,5,1,0])]),
 (6,ZC [] [] [(16,2,false)] [] [(0,[1]),(1,[2])] []),
 (12,ZC [] [] [] [] [(0,[4,2,1]),(1,[6,4,2,1]),(2,[33,6,4,2,1]),(3,[5,4]),(4,[9,8,7,6,4,2,1]),(5,[9,8,7,6,4,2,1]),(6,[10,9,8,7,6,4,2,1]),(7,[80,9,8,7,4,2,1]),(8,[5,4]),(9,[11,9,8,7,4]),(10,[11,4]),(11,[5,4])] []),
 (30,ZC [] [] [] [] [(0,[3,2,1]),(1,[8,7,3,2,1]),(2,[43,7]),(3,[6]),(4,[6])] []),
 (22,ZC [] [] [] [] [(0,[1]),(1,[4,3]),(2,[2])] []),
 (23,ZC [] [] [(48,2,false)] [] [(0,[8,4,3,2,1]),(1,[9,8,4]),(2,[9,8]),(3,[8])] []),
 (49,ZC [] [] [] [] [(0,[4,1,0]),(1,[4])] []),
 (161,ZC [] [] [] [] [(0,[2,0]),(1,[4,2,0]),(2,[0]),(3,[2,0]),(4,[8,2,0]),(5,[2,0]),(6,[2,0]),(7,[14,2,0]),(8,[2,0]),(9,[2,0]),(10,[2])] []),
 (20,ZC [6] [] [(45,1,false)] [(44,1,false)] [(0,[2,1]),(1,[2,1]),(2,[2,1]),(3,[15,14,2,1]),(4,[16,15,14,2,1]),(5,[15,14,3,2,1]),(6,[15,14,2,1]),(7,[15,14,2,1]),(8,[2])] [(4,[15,14,2,1])]),
 (52,ZC [] [] [] [] [(0,[2,1]),(1,[4])] []),
 (32,ZC [] [] [(44,1,false)] [] [(0,[8,4,3,2,1]),(1,[9,8,4,3]),(2,[11,10,9,8,3]),(3,[31,10,9,8,3]),(4,[9,8]),(5,[8])] []),
 (48,ZC [] [] [(20,2,false)] [] [(0,[8,4,3,2,1]),(1,[9,8,4,3,2,1]),(2,[10,9,8,4,3,2,1]),(3,[29,10,9,8,4,3,2,1]),(4,[10,9,8,4,1]),(5,[36,10,9,8,4,1]),(6,[10,8,4]),(7,[51,50,49,10,8]),(8,[52,51,50,49,10,8]),(9,[51,50,49,12,10,8]),(10,[51,50,49,10,8]),(11,[51,50,49,10,8]),(12,[8])] [(8,[51,50,49,10,8])]),
 (63,ZC [] [] [] [] [(0,[0]),(1,[2])] []),
 (128,ZC [] [] [] [] [(0,[0]),(1,[6,0]),(2,[3,2]),(3,[3,2])] []),
 (135,ZC [] [] [] [] [(0,[0]),(1,[3,0]),(2,[8,7,6,3]),(3,[9,8,7,6,3]),(4,[8,7,6,5,3]),(5,[8,7,6,3]),(6,[8,7,6,3]),(7,[2])] [(3,[8,7,6,3])]),
 (154,ZC [] [] [] [] [(0,[0]),(1,[17,0]),(2,[4,3,2]),(3,[3,0]),(4,[4,3,2])] []),
 (137,ZC [] [] [] [] [(0,[0]),(1,[5,4,3]),(2,[12,5,4,3]),(3,[4,3,2]),(4,[16,5,3]),(5,[4,3,2]),(6,[4,3,2])] []),
 (151,ZC [] [] [] [] [(0,[2,0]),(1,[9,8,7,2,0]),(2,[10,9,8,7,2,0]),(3,[9,8,7,6,5,2,0]),(4,[15,9,8,7,6,5,2,0]),(5,[9,8,7,6,5,2,0]),(6,[25,9,8,7,6,5,2,0]),(7,[31,5,2]),(8,[4,3,2]),(9,[4,3,2]),(10,[9,8,7,2,0]),(11,[38]),(12,[4,3,2]),(13,[4,3,2])] [(2,[9,8,7,2,0])]),
 (67,ZC [] [] [] [] [(0,[0]),(1,[6,0]),(2,[8,7,6,0]),(3,[6,4,0]),(4,[11,6,0]),(5,[2]),(6,[2])] [(2,[6,0])]),
 (29,ZC [] [] [] [] [(0,[0]),(1,[3,0]),(2,[8,7,6,3]),(3,[9,8,7,6,3]),(4,[8,7,6,5,3]),(5,[8,7,6,3]),(6,[8,7,6,3]),(7,[2])] [(3,[8,7,6,3])]),
 (94,ZC [] [] [] [] [(0,[1,0]),(1,[12,1,0]),(2,[4]),(3,[5,1,0]),(4,[6,5,0]),(5,[18,6,5,0]),(6,[6,5,0]),(7,[6,5,0]),(8,[6,5,0]),(9,[4])] [(5,[6,5,0])]),
 (96,ZC [] [] [] [] [(0,[0]),(1,[6,0]),(2,[3,2]),(3,[3,2])] []),
 (28,ZC [] [] [] [] [(0,[0]),(1,[10,0]),(2,[3,2]),(3,[4,0]),(4,[12,4,0]),(5,[4,0]),(6,[4,0]),(7,[3,2])] [(4,[4,0])]),
 (136,ZC [] [] [] [] [(0,[3,0]),(1,[4])] []),
 (157,ZC [] [] [] [] [(0,[2,1]),(1,[3])] []),
 (27,ZC [] [] [(53,1,true)] [] [(0,[2,1]),(1,[4,2,1]),(2,[4,2,1]),(3,[5,2,1]),(4,[32,5,2,1]),(5,[5,2,1]),(6,[7,6,5,2,1]),(7,[9,7,6,5,2,1]),(8,[73,5,2]),(9,[3,2]),(10,[3,2])] []),
 (11,ZC [] [] [] [] [(0,[1]),(1,[5,4]),(2,[14,5,4]),(3,[3,2]),(4,[6,4]),(5,[3,2])] []),
 (57,ZC [] [] [] [] [(0,[]),(2,[4,3,2,1]),(3,[4,3,2]),(4,[4,3,2]),(5,[3,2])] []),
 (76,ZC [] [] [] [] [(1,[4]),(2,[]),(3,[7,5]),(4,[]),(6,[3,1,0]),(7,[])] []),
 (58,ZC [] [] [] [] [(0,[3,2]),(1,[5,3,2]),(2,[6,5,3,2]),(3,[7,6,5,3,2]),(4,[8,7,6,5,3,2]),(5,[4])] []),
 (156,ZC [] [] [] [] [(0,[0]),(1,[3]),(2,[4,3]),(3,[2]),(4,[15,3]),(5,[15,3]),(6,[2]),(7,[27,3]),(8,[27,3]),(9,[2]),(10,[33,3]),(11,[2]),(12,[45,3]),(13,[2]),(14,[55,3]),(15,[2]),(16,[66]),(17,[2]),(18,[2])] []),
 (54,ZC [] [] [] [] [(0,[0]),(1,[3]),(2,[4,3]),(3,[4,3]),(4,[4]),(5,[2]),(6,[2])] []),
 (56,ZC [] [] [] [] [(0,[1,0]),(1,[5,1]),(2,[4]),(3,[4])] []),
 (99,ZC [] [] [] [] [(0,[5,1]),(1,[])] []),
 (64,ZC [] [] [] [] [(0,[4,1,0]),(1,[10,9,8,4,0]),(2,[11,10,9,8,4,0]),(3,[10,9,8,7,4,0]),(4,[17,10,9,8,7,4,0]),(5,[5,4]),(6,[10,9,8,4,0]),(7,[5,4])] [(2,[10,9,8,4,0])]),
 (150,ZC [] [] [] [] [(0,[0]),(1,[2])] []),
 (95,ZC [] [] [] [] [(0,[1,0]),(1,[6,1,0]),(2,[16,15,14,6,1,0]),(3,[17,16,15,14,6,1,0]),(4,[16,15,14,8,6,1,0]),(5,[16,15,14,6,1,0]),(6,[16,15,14,6,1,0]),(7,[10,9,6,1,0]),(8,[32,9,6,1,0]),(9,[5,4]),(10,[6,1,0]),(11,[13,12,11,6,1]),(12,[57,6]),(13,[5,4]),(14,[5,4])] [(3,[16,15,14,6,1,0])]),
 (169,ZC [] [] [] [] [(0,[1,0]),(1,[4])] []),
 (31,ZC [] [] [] [] [(0,[1,0]),(1,[5,1,0]),(2,[10,9,8,5,1]),(3,[11,10,9,8,5,1]),(4,[10,9,8,7,5,1]),(5,[17,10,9,8,7,5,1]),(6,[10,9,8,5,1]),(7,[10,9,8,5,1]),(8,[4])] [(3,[10,9,8,5,1])]),
 (130,ZC [] [] [] [] [(0,[4,1,0]),(1,[9,8,7,4,1,0]),(2,[29,8,7,4,1,0]),(3,[6,5,4]),(4,[10,8,7,4,0]),(5,[38,10,8,7,4,0]),(6,[13,12,11,10,8,7,4,0]),(7,[48,13,12,11,10,8,7,4,0]),(8,[6,5,4]),(9,[12,10,8,7,4,0]),(10,[10,8,7,4,0]),(11,[6,5,4])] [(5,[10,8,7,4,0])]),
 (82,ZC [] [] [] [] [(0,[1,0]),(1,[4])] []),
 (113,ZC [] [] [] [] [(0,[3,2]),(1,[4])] []),
 (177,ZC [] [] [] [] [(0,[0]),(1,[3,0]),(2,[8,7,6,3]),(3,[9,8,7,6,3]),(4,[8,7,6,5,3]),(5,[8,7,6,3]),(6,[8,7,6,3]),(7,[2])] [(3,[8,7,6,3])]),
 (62,ZC [] [] [] [] [(0,[2,1]),(1,[2,1]),(2,[2])] []),
 (172,ZC [] [] [] [] [(0,[1]),(1,[4,1]),(2,[5,4,1]),(3,[5,4,1]),(4,[5,4,1]),(5,[5,1]),(6,[2]),(7,[2])] []),
 (129,ZC [] [] [] [] [(0,[1]),(1,[3,1]),(2,[6,5,3,1]),(3,[15,6,5,3,1]),(4,[16,15,6,5,3,1]),(5,[16,15,6,5,3,1]),(6,[16,15,6,5,3,1]),(7,[6,5,3]),(8,[29,15,6,5,3,1]),(9,[6,5,3]),(10,[37,15,6,5,3,1]),(11,[6,5,3]),(12,[45,15,6,5,3,1]),(13,[6,5,3]),(14,[53,6,5,3,1]),(15,[5,3,1]),(16,[6,5,3]),(17,[2])] []),
 (168,ZC [] [] [] [] [(0,[2,0]),(1,[3,2]),(2,[4,3,2]),(3,[2]),(4,[9,3,2]),(5,[2]),(6,[14,3,2]),(7,[14,3,2]),(8,[2]),(9,[20,3,2]),(10,[2]),(11,[25,3,2]),(12,[2]),(13,[30,3,2]),(14,[2]),(15,[35,3,2]),(16,[35,3,2]),(17,[2]),(18,[41,3,2]),(19,[2]),(20,[46,3,2]),(21,[2]),(22,[51,3,2]),(23,[2]),(24,[56,3,2]),(25,[56,3,2]),(26,[2]),(27,[62,3,2]),(28,[2]),(29,[67,3,2]),(30,[2]),(31,[72,3,2]),(32,[2]),(33,[77,3,2]),(34,[77,3,2]),(35,[2]),(36,[83,3,2]),(37,[2]),(38,[88,3,2]),(39,[2]),(40,[93,3,2]),(41,[93,3,2]),(42,[93,3,2]),(43,[93,3,2]),(44,[93,3,2]),(45,[2]),(46,[102,2]),(47,[2]),(48,[2])] []),
 (171,ZC [] [] [] [] [(0,[1,0]),(1,[4])] []),
 (152,ZC [] [] [] [] [(0,[6,2,1,0]),(1,[11,10,9,6,2,1,0]),(2,[28,10,9,6,2,1,0]),(3,[8,7,6]),(4,[12,10,9,7,6,2,0]),(5,[14,12,10,9,7,6,0]),(6,[45,14,10,9,7,6,0]),(7,[8,7,6]),(8,[49,10,9,7,6]),(9,[8,7,6]),(10,[58,10,9,7,6]),(11,[8,7,6]),(12,[65,6]),(13,[8,7,6]),(14,[8,7,6])] []),
 (170,ZC [] [] [] [] [(0,[5,4,1,0]),(1,[5,4,1,0]),(2,[7,5,4,1,0]),(3,[12,7,5,4,1,0]),(4,[13,12,7,5,4,1,0]),(5,[13,12,7,5,4,1,0]),(6,[13,12,7,5,4,1,0]),(7,[7,5,4,1]),(8,[24,7,5,4,1]),(9,[6,5,4]),(10,[7,5,4]),(11,[32,12,7,5,4,1]),(12,[7,5,4]),(13,[41,12,7,5,4,1]),(14,[7,5,4]),(15,[50,12,7,5,4,1]),(16,[7,5,4]),(17,[59,7,5,4,1]),(18,[7,5,4,1]),(19,[69,7,5,4,1]),(20,[5,4,1]),(21,[8,7,5,4]),(22,[7,5,4]),(23,[6,5,4])] []),
 (26,ZC [] [] [] [] [(0,[0]),(1,[2])] []),
 (41,ZC [] [] [] [] [(0,[]),(2,[2]),(3,[2])] []),
 (155,ZC [] [] [] [] [(0,[1,0]),(1,[4])] []),
 (61,ZC [] [] [] [] [(0,[1,0]),(1,[4])] []),
 (40,ZC [] [] [] [] [(0,[2,1,0]),(1,[2,1,0]),(2,[16,2,1,0]),(3,[6]),(4,[7,2,1,0]),(5,[7,0]),(6,[0]),(7,[6])] []),
 (112,ZC [] [] [] [] [(0,[2,1,0]),(1,[14,2,1,0]),(2,[6]),(3,[17,16,15,2,1]),(4,[18,17,16,15,2,1]),(5,[17,16,15,8,7,2,1]),(6,[17,16,15,9,8,2,1]),(7,[30,17,16,15,2,1]),(8,[6]),(9,[17,16,15,2,1]),(10,[6])] [(4,[17,16,15,2,1])]),
 (79,ZC [] [] [] [] [(0,[1,0]),(1,[10,1,0]),(2,[4]),(3,[13,12,1,0]),(4,[14,13,12,1,0]),(5,[13,12,5,1,0]),(6,[24,13,12,1,0]),(7,[4]),(8,[13,12,1,0]),(9,[4])] [(4,[13,12,1,0])]),
 (80,ZC [] [] [] [] [(0,[1,0]),(1,[10,1,0]),(2,[4]),(3,[13,12,1,0]),(4,[14,13,12,1,0]),(5,[13,12,5,1,0]),(6,[24,13,12,1,0]),(7,[4]),(8,[13,12,1,0]),(9,[4])] [(4,[13,12,1,0])]),
 (81,ZC [] [] [] [] [(0,[1,0]),(1,[10,1,0]),(2,[4]),(3,[13,12,1,0]),(4,[14,13,12,1,0]),(5,[13,12,5,1,0]),(6,[24,13,12,1,0]),(7,[4]),(8,[13,12,1,0]),(9,[4])] [(4,[13,12,1,0])]),
 (50,ZC [] [] [] [] [(0,[1,0]),(1,[8,7,1,0]),(2,[9,8,7,1,0]),(3,[8,7,5,1,0]),(4,[16,8,7,5,1,0]),(5,[4]),(6,[8,7,1,0]),(7,[4])] [(2,[8,7,1,0])]),
 (37,ZC [] [] [] [] [(0,[1,0]),(1,[8,7,1,0]),(2,[9,8,7,1,0]),(3,[8,7,5,1,0]),(4,[16,8,7,5,1,0]),(5,[4]),(6,[8,7,1,0]),(7,[4])] [(2,[8,7,1,0])]),
 (173,ZC [] [] [] [] [(0,[1,0]),(1,[8,7,1,0]),(2,[9,8,7,1,0]),(3,[8,7,5,1,0]),(4,[16,8,7,5,1,0]),(5,[4]),(6,[8,7,1,0]),(7,[4])] [(2,[8,7,1,0])]),
 (86,ZC [] [] [] [] [(0,[1,0]),(1,[8,7,1,0]),(2,[9,8,7,1,0]),(3,[8,7,5,1,0]),(4,[16,8,7,5,1,0]),(5,[4]),(6,[8,7,1,0]),(7,[4])] [(2,[8,7,1,0])]),
 (59,ZC [] [] [] [] [(0,[0]),(1,[5,4,0]),(2,[12,5,4,0]),(3,[3,2]),(4,[3,2])] []),
 (60,ZC [] [] [] [] [(0,[0]),(1,[2])] []),
 (47,ZC [] [] [] [] [(0,[1,0]),(1,[4])] []),
 (122,ZC [] [] [] [] [(0,[1,0]),(1,[4])] []),
 (68,ZC [] [] [] [] [(0,[1,0]),(1,[12,1,0]),(2,[4]),(3,[15,1,0]),(4,[5,0]),(5,[20,5,0]),(6,[5,0]),(7,[4]),(8,[26,1,0]),(9,[7,6,1,0]),(10,[32,6,1,0]),(11,[8,6,0]),(12,[36,8,6,0]),(13,[8,6,0]),(14,[42,8,6,0]),(15,[4]),(16,[4]),(17,[45,1]),(18,[47,46,45,1]),(19,[45,10,9,1]),(20,[53,45,9,1]),(21,[4]),(22,[4])] [(12,[8,6,0]),(18,[45,1])]),
 (89,ZC [] [] [] [] [(0,[1,0]),(1,[7,0]),(2,[8,7,0]),(3,[9,8,7,0]),(4,[9,8,7,0]),(5,[26,9,8,7,0]),(6,[33,9,8,7,0]),(7,[11,9,8,7,0]),(8,[43,11,9,8,7,0]),(9,[4]),(10,[9,8,7,0]),(11,[12,9,8,7,0]),(12,[51,12,9,8,7,0]),(13,[12,9,8,7,0]),(14,[64,12,9,8,7,0]),(15,[4]),(16,[10,9,8,7,0]),(17,[10,9,8,7,0]),(18,[98,9,8,7,0]),(19,[4]),(20,[13,9,8]),(21,[108,13,9,8]),(22,[4]),(23,[14,9,8,7,0]),(24,[15,14,9,8,7,0]),(25,[124,15,14,9,8,7,0]),(26,[15,14,9,8,7,0]),(27,[139,15,14,9,8,7,0]),(28,[16,15,14,9,8,7,0]),(29,[143,16,15,14,9,8,7,0]),(30,[16,15,14,9,8,7,0]),(31,[156,16,15,14,9,8,7,0]),(32,[4]),(33,[4]),(34,[160,1,0]),(35,[4]),(36,[171,1,0]),(37,[175]),(38,[177,176,175]),(39,[175,6,5]),(40,[181,175,5]),(41,[4]),(42,[4]),(43,[183,1,0]),(44,[4])] [(5,[9,8,7,0]),(12,[12,9,8,7,0]),(25,[15,14,9,8,7,0]),(29,[16,15,14,9,8,7,0]),(38,[175])]),
 (66,ZC [] [] [] [] [(0,[1,0]),(1,[4])] []),
 (87,ZC [] [] [] [] [(0,[3,2,1,0]),(1,[13,3,2,1,0]),(2,[8]),(3,[15,3,2,1,0]),(4,[8]),(5,[20,3,2,1,0]),(6,[3,2,1,0]),(7,[3,2,1,0]),(8,[9,3,2,1,0]),(9,[9,3,2,1,0]),(10,[10,9,3,2,1,0]),(11,[36,10,9,3,2,1,0]),(12,[11,10,9,3,2,1,0]),(13,[41,11,10,9,3,2,1,0]),(14,[11,10,9,3,2,1,0]),(15,[10,9,3,2,1,0]),(16,[10,9,3,2,1,0]),(17,[10,9]),(18,[8])] [(11,[10,9,3,2,1,0])]),
 (91,ZC [] [] [] [] [(0,[2,0]),(1,[4,2,0]),(2,[9,4,2,0]),(3,[4,2,0]),(4,[5,4,2,0]),(5,[16,5,4,2,0]),(6,[3,2]),(7,[4,2,0]),(8,[3,2])] [(2,[4,2,0])]),
 (90,ZC [] [] [] [] [(0,[0]),(1,[2])] []),
 (34,ZC [] [] [] [] [(0,[1,0]),(1,[8,1,0]),(2,[4]),(3,[4])] []),
 (14,ZC [] [] [] [] [(0,[1,0]),(1,[4])] []),
 (5,ZC [] [] [] [] [(0,[2,1,0]),(1,[7,1,0]),(2,[7,1,0]),(3,[16,7,1,0]),(4,[1,0]),(5,[6])] []),
 (33,ZC [] [] [] [] [(0,[0]),(1,[3,0]),(2,[4,3,0]),(3,[12,4,3,0]),(4,[4,3,0]),(5,[4,3,0]),(6,[2])] [(3,[4,3,0])]),
 (3,ZC [] [] [(10,1,true),(8,1,true),(6,3,false)] [] [(0,[3,2,1]),(1,[7,2]),(2,[7,2]),(3,[8,7,2]),(4,[28,8,7,2]),(5,[6]),(6,[32,8,7,2]),(7,[6]),(8,[8,7,2]),(9,[10,9,7,2]),(10,[52,10,9,7,2]),(11,[6]),(12,[54,9,7,2]),(13,[6]),(14,[12,11,9,7,2]),(15,[14,13,12,11,7,2]),(16,[76,13,7,2]),(17,[6]),(18,[15,13,7,2]),(19,[79,15,13,7,2]),(20,[15,13,7]),(21,[6])] []),
 (4,ZC [] [] [] [] [(0,[4,2,1]),(1,[5,4,1]),(2,[5,4]),(3,[4])] []),
 (13,ZC [] [] [] [] [(0,[0]),(1,[2])] []),
 (7,ZC [] [] [(18,1,true),(10,1,true),(8,1,true),(6,3,false)] [] [(0,[]),(1,[1]),(2,[24,1]),(3,[0]),(4,[1]),(5,[3,2,1]),(6,[5,4,3,2,1]),(7,[0])] []),
 (42,ZC [] [] [] [] [(0,[0]),(1,[3,0]),(2,[11,10,9,3,0]),(3,[12,11,10,9,3,0]),(4,[11,10,9,5,4,3,0]),(5,[11,10,9,6,5,3,0]),(6,[34,11,10,9,3,0]),(7,[2]),(8,[11,10,9,3,0]),(9,[2])] [(3,[11,10,9,3,0])]),
 (43,ZC [] [] [] [] [(0,[0]),(1,[2])] []),
 (19,ZC [] [] [] [] [(0,[1,0]),(1,[16,1,0]),(2,[4]),(3,[6,5,1]),(4,[35,6,5]),(5,[4]),(6,[38,37,36,6,5]),(7,[39,38,37,36,6,5]),(8,[38,37,36,8,7,6,5]),(9,[43,38,37,36,8,7,6,5]),(10,[4]),(11,[46,38,37,36,6,5]),(12,[4]),(13,[38,37,36,6,5]),(14,[4])] [(7,[38,37,36,6,5])]),
 (21,ZC [] [] [] [] [(0,[0]),(1,[2])] []),
 (46,ZC [] [] [] [] [(0,[0]),(1,[2])] []),
 (125,ZC [] [] [] [] [(0,[0]),(1,[3,0]),(2,[2]),(3,[10]),(4,[2]),(5,[2])] []),
 (1000000,{})]
def ann:Nat->Ann:=Zfk {} ZCI
def ZMV:List (Nat×Bool):=[
 (40,true),
 (1000000,false)]
def BY:Nat->Bool:=Zfk false ZMV
noncomputable def CF:Nat->Option ZA:=Zka Tryz.prog ann
noncomputable def FC:Nat->Option ZA:=fun f=>(CF f).map ZlG
def Zz6:List (Nat×Option (List AVal->Za->Option (AVal×Za))):=[
 (44,some (ZeD 1 1)),
 (45,some (ZeD 5 72)),
 (41,some (ZeD 11 136)),
 (124,some (ZoF)),
 (149,some (ZoF)),
 (121,some (ZoV)),
 (88,some (Zrl)),
 (57,some (Zhk)),
 (73,some (Zhk)),
 (60,some (ZjG)),
 (59,some (Zjy)),
 (1000000,none)]
def PR:Zcu:=Zfk none Zz6
theorem xw(c d:Ze)(h:c=d)(m:Nat)(tm:Tms)(σ:Za):evC FC PR BY m c tm σ=evC FC PR BY m d tm σ:=by rw[h]
def pcA:List Nat->Ze->Ze
 |0::p,.seq a _ |0::p,.cond _ a _ |_::p,.block _ a |_::p,.loop _ a=>pcA p a
 |_::p,.seq _ b |_::p,.cond _ _ b=>pcA p b
 |_,c=>c
def prA(x:Ze):List Nat->Ze->Ze
 | [],_=>x
 |0::p,.seq a b=>.seq (prA x p a) b
 |_::p,.seq a b=>.seq a (prA x p b)
 |0::p,.cond c a b=>.cond c (prA x p a) b
 |_::p,.cond c a b=>.cond c a (prA x p b)
 |_::p,.block i a=>.block i (prA x p a)
 |_::p,.loop l a=>.loop l (prA x p a)
 |_,c=>c
noncomputable def ZXb(n:Nat)(p:List Nat)(q:List (List Nat×Ze)):Ze:=match FC n with
 |some f=>q.foldl (fun c x=>prA x.2 x.1 c) (pcA p f.body)
 |none=>.stuck
def Zd(n:Nat)(p:List Nat)(q:List (List Nat×Ze)){c:Ze}(_:ZXb n p q=c):Ze:=c
theorem zi(n:Nat):Int.ofNat (no_index (@OfNat.ofNat Nat n (instOfNatNat n)))=@OfNat.ofNat Int n instOfNat:=rfl
theorem zn:Int.negSucc 0=-1:=rfl
theorem zb(n:Nat)(h:n<2^8):UInt8.ofBitVec (BitVec.ofFin (Fin.mk n h))=@OfNat.ofNat UInt8 n UInt8.instOfNat:=by
 apply UInt8.toNat_inj.1;simp[UInt8.toNat];omega
noncomputable abbrev E:ZV:=EV FC PR BY
theorem Zi{f:Nat}{fn:ZA}(hp:PR f=none)(hf:FC f=some fn)(args:List AVal)(σ:Za):E f args σ=Zap σ.length fn (evC FC PR BY σ.length fn.body (enterA 0 args []) σ):=Zu0 hp hf args σ
end
section
def Zrf:Ze:=(.seq (.region [oI 31 (.ld (some 10) (.t 1)),oN (.st 10 (.t 2) (.t 31))] none [2]) .ret)
@[irreducible] def Zph:Ze:=Zrf
def ZVt:=xw Zph Zrf (by kernel_rfl)
def Zn1:Ze:=by apply Zd 20 [1,1,1,0,1,0,0] [];conv=>lhs;reduce;dsimp only[zi]
@[irreducible] def ZpN:Ze:=Zn1
def Zww:=xw ZpN Zn1 (by kernel_rfl)
def Ztz:Ze:=by apply Zd 20 [] [([1,1,1,0,1,0,0],ZpN),([1,1,1,1],Zph)];conv=>lhs;reduce;dsimp only[zi]
def ZlM:ZA:=⟨[(.cell 2 (some 10))],Ztz⟩
theorem ZOl:FC 20=some ZlM:=by kernel_rfl
theorem ZL0:ZlM.body=Ztz:=rfl
theorem ZMZ:ZlM.res=[(.cell 2 (some 10))]:=rfl
noncomputable def ZnK(m:Nat)(tm:Tms)(σ:Za):Option (AVal×Za):=(Zap m ZlM (Zbo FC PR BY m Zph (XZ (ZaK 0) (evL FC PR BY m [15,14,2,1] ZpN tm σ))))
def ZrH:Ze:=by apply Zd 52 [] [];conv=>lhs;reduce;dsimp only[zi]
def ZoW:ZA:=⟨[(.tmp 4)],ZrH⟩
theorem ZNE:FC 52=some ZoW:=by kernel_rfl
theorem ZWu:ZoW.body=ZrH:=rfl
theorem ZWd:ZoW.res=[(.tmp 4)]:=rfl
def Zog:Ze:=by apply Zd 32 [] [];conv=>lhs;reduce;dsimp only[zi]
def Zqh:ZA:=⟨[(.cell 8 (some 10))],Zog⟩
theorem ZKe:FC 32=some Zqh:=by kernel_rfl
theorem ZxQ:Zqh.body=Zog:=rfl
theorem ZyJ:Zqh.res=[(.cell 8 (some 10))]:=rfl
def Zr9:Ze:=(.seq (.region [oI 63 (.ld (some 26) (.t 10)),oN (.st 26 (.t 8) (.t 63))] none [8]) .ret)
@[irreducible] def ZrE:Ze:=Zr9
def ZIC:=xw ZrE Zr9 (by kernel_rfl)
def Zos:Ze:=by apply Zd 48 [1,1,1,1,1,0,1,0,0] [];conv=>lhs;reduce;dsimp only[zi]
@[irreducible] def Zqr:Ze:=Zos
def ZAg:=xw Zqr Zos (by kernel_rfl)
def ZiB:Ze:=by apply Zd 48 [] [([1,1,1,1,1,0,1,0,0],Zqr),([1,1,1,1,1,1],ZrE)];conv=>lhs;reduce;dsimp only[zi]
def Zlp:ZA:=⟨[(.cell 8 (some 26))],ZiB⟩
theorem ZmT:FC 48=some Zlp:=by kernel_rfl
theorem Zop:Zlp.body=ZiB:=rfl
theorem ZVL:Zlp.res=[(.cell 8 (some 26))]:=rfl
noncomputable def ZhW(m:Nat)(tm:Tms)(σ:Za):Option (AVal×Za):=(Zap m Zlp (Zbo FC PR BY m ZrE (XZ (ZaK 0) (evL FC PR BY m [51,50,49,10,8] Zqr tm σ))))
def ZpW:Ze:=by apply Zd 63 [] [];conv=>lhs;reduce;dsimp only[zi]
def ZsS:ZA:=⟨[(.tmp 2)],ZpW⟩
theorem ZSW:FC 63=some ZsS:=by kernel_rfl
theorem ZBN:ZsS.body=ZpW:=rfl
theorem ZLw:ZsS.res=[(.tmp 2)]:=rfl
end
section
def ZmN:Ze:=by apply Zd 34 [] [];conv=>lhs;reduce;dsimp only[zi]
def ZqH:ZA:=⟨[(.tmp 4)],ZmN⟩
theorem ZXD:FC 34=some ZqH:=by kernel_rfl
theorem Zw4:ZqH.body=ZmN:=rfl
theorem Zz4:ZqH.res=[(.tmp 4)]:=rfl
def ZqW:Ze:=by apply Zd 14 [] [];conv=>lhs;reduce;dsimp only[zi]
def Zp8:ZA:=⟨[(.tmp 4)],ZqW⟩
theorem ZGE:FC 14=some Zp8:=by kernel_rfl
theorem ZIR:Zp8.body=ZqW:=rfl
theorem ZJx:Zp8.res=[(.tmp 4)]:=rfl
def Zjn:Ze:=by apply Zd 5 [] [];conv=>lhs;reduce;dsimp only[zi]
def ZuB:ZA:=⟨[(.tmp 6)],Zjn⟩
theorem Zt4:FC 5=some ZuB:=by kernel_rfl
theorem Zl7:ZuB.body=Zjn:=rfl
theorem ZnN:ZuB.res=[(.tmp 6)]:=rfl
end
section
def ZsY:Ze:=by apply Zd 64 [1,1] [];conv=>lhs;reduce;dsimp only[zi]
@[irreducible] def Zru:Ze:=ZsY
def ZEu:=xw Zru ZsY (by kernel_rfl)
def Zj0:Ze:=by apply Zd 64 [1,0,1,0,0] [];conv=>lhs;reduce;dsimp only[zi]
@[irreducible] def ZoX:Ze:=Zj0
def ZuV:=xw ZoX Zj0 (by kernel_rfl)
def ZpZ:Ze:=by apply Zd 64 [] [([1,0,1,0,0],ZoX),([1,1],Zru)];conv=>lhs;reduce;dsimp only[zi]
def ZnQ:ZA:=⟨[(.cell 4 (some 5)),(.tmp 5)],ZpZ⟩
theorem ZOW:FC 64=some ZnQ:=by kernel_rfl
theorem ZDb:ZnQ.body=ZpZ:=rfl
theorem ZyB:ZnQ.res=[(.cell 4 (some 5)),(.tmp 5)]:=rfl
noncomputable def Znz(m:Nat)(tm:Tms)(σ:Za):Option (AVal×Za):=(Zap m ZnQ (Zbo FC PR BY m Zru (XZ (ZaK 0) (evL FC PR BY m [10,9,8,4,0] ZoX tm σ))))
def Zpm:Ze:=by apply Zd 150 [] [];conv=>lhs;reduce;dsimp only[zi]
def Zuv:ZA:=⟨[(.tmp 2)],Zpm⟩
theorem ZOH:FC 150=some Zuv:=by kernel_rfl
theorem ZOO:Zuv.body=Zpm:=rfl
theorem ZUh:Zuv.res=[(.tmp 2)]:=rfl
def ZgD:Ze:=by apply Zd 95 [1,1,1] [];conv=>lhs;reduce;dsimp only[zi]
@[irreducible] def ZpQ:Ze:=ZgD
def ZiR:=xw ZpQ ZgD (by kernel_rfl)
def Zfj:Ze:=by apply Zd 95 [1,1,0,1,0,0] [];conv=>lhs;reduce;dsimp only[zi]
@[irreducible] def ZtQ:Ze:=Zfj
def Zg0:=xw ZtQ Zfj (by kernel_rfl)
def Zni:Ze:=by apply Zd 95 [] [([1,1,0,1,0,0],ZtQ),([1,1,1],ZpQ)];conv=>lhs;reduce;dsimp only[zi]
def Zmc:ZA:=⟨[(.tmp 4),(.tmp 5)],Zni⟩
theorem ZwF:FC 95=some Zmc:=by kernel_rfl
theorem Zyw:Zmc.body=Zni:=rfl
theorem Ziw:Zmc.res=[(.tmp 4),(.tmp 5)]:=rfl
noncomputable def Zj9(m:Nat)(tm:Tms)(σ:Za):Option (AVal×Za):=(Zap m Zmc (Zbo FC PR BY m ZpQ (XZ (ZaK 0) (evL FC PR BY m [16,15,14,6,1,0] ZtQ tm σ))))
def Zj4:Ze:=by apply Zd 169 [] [];conv=>lhs;reduce;dsimp only[zi]
def ZuS:ZA:=⟨[(.tmp 4)],Zj4⟩
theorem ZFY:FC 169=some ZuS:=by kernel_rfl
theorem Zsh:ZuS.body=Zj4:=rfl
theorem ZtG:ZuS.res=[(.tmp 4)]:=rfl
def Zlr:Ze:=(.seq (.region [oM 24 5,oM 4 24] none [4]) .ret)
@[irreducible] def Zpf:Ze:=Zlr
def ZzL:=xw Zpf Zlr (by kernel_rfl)
def Zgo:Ze:=by apply Zd 31 [1,1,0,1,0,0] [];conv=>lhs;reduce;dsimp only[zi]
@[irreducible] def ZpT:Ze:=Zgo
def ZiS:=xw ZpT Zgo (by kernel_rfl)
def ZsM:Ze:=by apply Zd 31 [] [([1,1,0,1,0,0],ZpT),([1,1,1],Zpf)];conv=>lhs;reduce;dsimp only[zi]
def ZnW:ZA:=⟨[(.tmp 4)],ZsM⟩
theorem ZCP:FC 31=some ZnW:=by kernel_rfl
theorem ZBG:ZnW.body=ZsM:=rfl
theorem Zu4:ZnW.res=[(.tmp 4)]:=rfl
noncomputable def Zk0(m:Nat)(tm:Tms)(σ:Za):Option (AVal×Za):=(Zap m ZnW (Zbo FC PR BY m Zpf (XZ (ZaK 0) (evL FC PR BY m [10,9,8,5,1] ZpT tm σ))))
def Zmw:Ze:=by apply Zd 130 [1,1,1,1] [];conv=>lhs;reduce;dsimp only[zi]
@[irreducible] def ZuE:Ze:=Zmw
def ZxH:=xw ZuE Zmw (by kernel_rfl)
def Zgx:Ze:=by apply Zd 130 [1,1,1,0,1,0,0] [];conv=>lhs;reduce;dsimp only[zi]
@[irreducible] def Zq9:Ze:=Zgx
def Zjq:=xw Zq9 Zgx (by kernel_rfl)
def ZjX:Ze:=by apply Zd 130 [] [([1,1,1,0,1,0,0],Zq9),([1,1,1,1],ZuE)];conv=>lhs;reduce;dsimp only[zi]
def Zox:ZA:=⟨[(.tmp 4),(.tmp 5),(.tmp 6)],ZjX⟩
theorem Zra:FC 130=some Zox:=by kernel_rfl
theorem Zti:Zox.body=ZjX:=rfl
theorem Zi9:Zox.res=[(.tmp 4),(.tmp 5),(.tmp 6)]:=rfl
noncomputable def Zio(m:Nat)(tm:Tms)(σ:Za):Option (AVal×Za):=(Zap m Zox (Zbo FC PR BY m ZuE (XZ (ZaK 0) (evL FC PR BY m [10,8,7,4,0] Zq9 tm σ))))
def ZrA:Ze:=by apply Zd 82 [] [];conv=>lhs;reduce;dsimp only[zi]
def ZoO:ZA:=⟨[(.tmp 4)],ZrA⟩
theorem ZQw:FC 82=some ZoO:=by kernel_rfl
theorem ZIu:ZoO.body=ZrA:=rfl
theorem ZDY:ZoO.res=[(.tmp 4)]:=rfl
def ZtN:Ze:=by apply Zd 113 [] [];conv=>lhs;reduce;dsimp only[zi]
def Zrc:ZA:=⟨[(.tmp 4)],ZtN⟩
theorem ZIO:FC 113=some Zrc:=by kernel_rfl
theorem ZCD:Zrc.body=ZtN:=rfl
theorem ZJZ:Zrc.res=[(.tmp 4)]:=rfl
def Zrh:Ze:=by apply Zd 62 [] [];conv=>lhs;reduce;dsimp only[zi]
def ZqZ:ZA:=⟨[(.cell 2 (some 5))],Zrh⟩
theorem ZFz:FC 62=some ZqZ:=by kernel_rfl
theorem ZI3:ZqZ.body=Zrh:=rfl
theorem ZSP:ZqZ.res=[(.cell 2 (some 5))]:=rfl
def Zpr:Ze:=by apply Zd 172 [] [];conv=>lhs;reduce;dsimp only[zi]
def Zrq:ZA:=⟨[(.tmp 2)],Zpr⟩
theorem ZHd:FC 172=some Zrq:=by kernel_rfl
theorem ZOz:Zrq.body=Zpr:=rfl
theorem ZCR:Zrq.res=[(.tmp 2)]:=rfl
def Ze7:Ze:=by apply Zd 129 [] [];conv=>lhs;reduce;dsimp only[zi]
def Zus:ZA:=⟨[(.tmp 2)],Ze7⟩
theorem ZgT:FC 129=some Zus:=by kernel_rfl
theorem Zgw:Zus.body=Ze7:=rfl
theorem Zgn:Zus.res=[(.tmp 2)]:=rfl
def ZpL:Ze:=by apply Zd 168 [] [];conv=>lhs;reduce;dsimp only[zi]
def Zt2:ZA:=⟨[(.cell 2 (some 2))],ZpL⟩
theorem ZC4:FC 168=some Zt2:=by kernel_rfl
theorem ZN6:Zt2.body=ZpL:=rfl
theorem ZEY:Zt2.res=[(.cell 2 (some 2))]:=rfl
def Zp5:Ze:=by apply Zd 171 [] [];conv=>lhs;reduce;dsimp only[zi]
def ZtC:ZA:=⟨[(.tmp 4)],Zp5⟩
theorem ZQo:FC 171=some ZtC:=by kernel_rfl
theorem ZKG:ZtC.body=Zp5:=rfl
theorem ZJF:ZtC.res=[(.tmp 4)]:=rfl
def Zfd:Ze:=by apply Zd 152 [] [];conv=>lhs;reduce;dsimp only[zi]
def ZuO:ZA:=⟨[(.cell 6 (some 5)),(.tmp 7),(.tmp 8)],Zfd⟩
theorem ZgN:FC 152=some ZuO:=by kernel_rfl
theorem Zgl:ZuO.body=Zfd:=rfl
theorem ZgK:ZuO.res=[(.cell 6 (some 5)),(.tmp 7),(.tmp 8)]:=rfl
def ZdH:Ze:=by apply Zd 170 [] [];conv=>lhs;reduce;dsimp only[zi]
def Zsg:ZA:=⟨[(.cell 4 (some 5)),(.tmp 5),(.tmp 6)],ZdH⟩
theorem ZeI:FC 170=some Zsg:=by kernel_rfl
theorem Zek:Zsg.body=ZdH:=rfl
theorem Zes:Zsg.res=[(.cell 4 (some 5)),(.tmp 5),(.tmp 6)]:=rfl
end
section
def Zuo:Ze:=by apply Zd 155 [] [];conv=>lhs;reduce;dsimp only[zi]
def ZqS:ZA:=⟨[(.tmp 4)],Zuo⟩
theorem ZVA:FC 155=some ZqS:=by kernel_rfl
theorem ZVQ:ZqS.body=Zuo:=rfl
theorem ZCe:ZqS.res=[(.tmp 4)]:=rfl
def Zuf:Ze:=by apply Zd 61 [] [];conv=>lhs;reduce;dsimp only[zi]
def ZrF:ZA:=⟨[(.tmp 4)],Zuf⟩
theorem ZL3:FC 61=some ZrF:=by kernel_rfl
theorem ZJN:ZrF.body=Zuf:=rfl
theorem ZBI:ZrF.res=[(.tmp 4)]:=rfl
def ZuG:Ze:=(.seq (.region [oI 6 (.mov (.c (.bool true)))] none [6]) .ret)
@[irreducible] def Zuc:Ze:=ZuG
def ZJn:=xw Zuc ZuG (by kernel_rfl)
def Zms:Ze:=by apply Zd 112 [1,1,0,1,0,0] [];conv=>lhs;reduce;dsimp only[zi]
@[irreducible] def Zpv:Ze:=Zms
def ZyG:=xw Zpv Zms (by kernel_rfl)
def Zln:Ze:=by apply Zd 112 [] [([1,1,0,1,0,0],Zpv),([1,1,1],Zuc)];conv=>lhs;reduce;dsimp only[zi]
def ZoK:ZA:=⟨[(.tmp 6)],Zln⟩
theorem ZKk:FC 112=some ZoK:=by kernel_rfl
theorem ZAW:ZoK.body=Zln:=rfl
theorem ZpR:ZoK.res=[(.tmp 6)]:=rfl
noncomputable def Znp(m:Nat)(tm:Tms)(σ:Za):Option (AVal×Za):=(Zap m ZoK (Zbo FC PR BY m Zuc (XZ (ZaK 0) (evL FC PR BY m [17,16,15,2,1] Zpv tm σ))))
def Ztp:Ze:=(.seq (.region [oI 4 (.mov (.c (.bool true)))] none [4]) .ret)
@[irreducible] def ZuC:Ze:=Ztp
def ZIV:=xw ZuC Ztp (by kernel_rfl)
def ZnZ:Ze:=by apply Zd 79 [1,1,0,1,0,0] [];conv=>lhs;reduce;dsimp only[zi]
@[irreducible] def ZuL:Ze:=ZnZ
def Zzu:=xw ZuL ZnZ (by kernel_rfl)
def ZlC:Ze:=by apply Zd 79 [] [([1,1,0,1,0,0],ZuL),([1,1,1],ZuC)];conv=>lhs;reduce;dsimp only[zi]
def Zme:ZA:=⟨[(.tmp 4)],ZlC⟩
theorem ZSJ:FC 79=some Zme:=by kernel_rfl
theorem ZvY:Zme.body=ZlC:=rfl
theorem ZrM:Zme.res=[(.tmp 4)]:=rfl
noncomputable def ZnL(m:Nat)(tm:Tms)(σ:Za):Option (AVal×Za):=(Zap m Zme (Zbo FC PR BY m ZuC (XZ (ZaK 0) (evL FC PR BY m [13,12,1,0] ZuL tm σ))))
def Zre:Ze:=(.seq (.region [oI 4 (.mov (.c (.bool true)))] none [4]) .ret)
def ZtM:Ze:=Zre
def ZHD:=xw ZtM Zre rfl
def Zok:Ze:=(.seq (.region [oI 14 (.bin .lss (.t 13) (.t 12))] none [14,13,12,1,0]) (.seq (.cond (.t 14) .skip (.exit 0)) (.seq (.block 1 (.seq (.region [oM 15 13,oM 5 15] none [13,12,5,1,0]) (.seq (.region [oM 16 0,oM 17 5,oI 18 (.iaddr 6 (.t 16) (.t 17)),oI 19 (.ld (some 6) (.t 18)),oM 20 1,oM 21 5,oI 22 (.iaddr 6 (.t 20) (.t 21)),oI 23 (.ld (some 6) (.t 22)),oI 24 (.eqv true [2,0,1,1,0,0] (.t 19) (.t 23))] (some [(2,6),(3,6),(2,7),(3,7)]) [24,13,12,1,0]) (.cond (.t 24) (.seq (.region [oI 4 (.mov (.c (.bool false)))] none [4]) .ret) .skip)))) (.region [oI 25 (.bin .add (.t 13) (.c (.int .i64 1))),oM 13 25] none [13,12,1,0]))))
def Zsj:Ze:=Zok
def ZBd:=xw Zsj Zok rfl
def Zob:Ze:=(.seq (.region [oI 4 (.mov (.c (.bool false)))] none [1,0]) (.seq (.seq (.region [oM 6 0,oI 7 (.len (.t 6)),oM 8 1,oI 9 (.len (.t 8)),oI 10 (.bin .neq (.t 7) (.t 9))] none [10,1,0]) (.cond (.t 10) (.seq (.region [oI 4 (.mov (.c (.bool false)))] none [4]) .ret) .skip)) (.seq (.seq (.region [oM 11 0,oI 12 (.len (.t 11)),oI 13 (.mov (.c (.int .i64 0)))] none [13,12,1,0]) (.block 0 (.loop [13,12,1,0] Zsj))) ZtM)))
def Zmi:ZA:=⟨[(.tmp 4)],Zob⟩
theorem ZHC:FC 80=some Zmi:=by kernel_rfl
theorem ZwQ:Zmi.body=Zob:=rfl
theorem Zt0:Zmi.res=[(.tmp 4)]:=rfl
noncomputable def ZnJ(m:Nat)(tm:Tms)(σ:Za):Option (AVal×Za):=(Zap m Zmi (Zbo FC PR BY m ZtM (XZ (ZaK 0) (evL FC PR BY m [13,12,1,0] Zsj tm σ))))
def Zq3:Ze:=(.seq (.region [oI 4 (.mov (.c (.bool true)))] none [4]) .ret)
@[irreducible] def ZuF:Ze:=Zq3
def ZEq:=xw ZuF Zq3 (by kernel_rfl)
def Zoo:Ze:=by apply Zd 81 [1,1,0,1,0,0] [];conv=>lhs;reduce;dsimp only[zi]
@[irreducible] def Zsm:Ze:=Zoo
def ZBk:=xw Zsm Zoo (by kernel_rfl)
def Zlq:Ze:=by apply Zd 81 [] [([1,1,0,1,0,0],Zsm),([1,1,1],ZuF)];conv=>lhs;reduce;dsimp only[zi]
def Znt:ZA:=⟨[(.tmp 4)],Zlq⟩
theorem ZVG:FC 81=some Znt:=by kernel_rfl
theorem ZBf:Znt.body=Zlq:=rfl
theorem Zpg:Znt.res=[(.tmp 4)]:=rfl
noncomputable def ZoH(m:Nat)(tm:Tms)(σ:Za):Option (AVal×Za):=(Zap m Znt (Zbo FC PR BY m ZuF (XZ (ZaK 0) (evL FC PR BY m [13,12,1,0] Zsm tm σ))))
def Ztu:Ze:=(.seq (.region [oI 4 (.mov (.c (.int .i64 (-1))))] none [4]) .ret)
@[irreducible] def ZuZ:Ze:=Ztu
def ZUw:=xw ZuZ Ztu (by kernel_rfl)
def Zko:Ze:=by apply Zd 50 [1,0,1,0,0] [];conv=>lhs;reduce;dsimp only[zi]
@[irreducible] def Zz2:Ze:=Zko
def ZrJ:=xw Zz2 Zko (by kernel_rfl)
def Zor:Ze:=by apply Zd 50 [] [([1,0,1,0,0],Zz2),([1,1],ZuZ)];conv=>lhs;reduce;dsimp only[zi]
def Zr5:ZA:=⟨[(.tmp 4)],Zor⟩
theorem ZyN:FC 50=some Zr5:=by kernel_rfl
theorem ZyC:Zr5.body=Zor:=rfl
theorem Zy6:Zr5.res=[(.tmp 4)]:=rfl
def Zo0:Ze:=(.seq (.region [oI 4 (.mov (.c (.int .i64 (-1))))] none [4]) .ret)
@[irreducible] def ZoT:Ze:=Zo0
def ZT5:=xw ZoT Zo0 (by kernel_rfl)
def ZkH:Ze:=by apply Zd 173 [1,0,1,0,0] [];conv=>lhs;reduce;dsimp only[zi]
@[irreducible] def ZuD:Ze:=ZkH
def ZtX:=xw ZuD ZkH (by kernel_rfl)
def Zo2:Ze:=by apply Zd 173 [] [([1,0,1,0,0],ZuD),([1,1],ZoT)];conv=>lhs;reduce;dsimp only[zi]
def ZmC:ZA:=⟨[(.tmp 4)],Zo2⟩
theorem ZOx:FC 173=some ZmC:=by kernel_rfl
theorem ZKE:ZmC.body=Zo2:=rfl
theorem ZzZ:ZmC.res=[(.tmp 4)]:=rfl
noncomputable def ZnV(m:Nat)(tm:Tms)(σ:Za):Option (AVal×Za):=(Zap m ZmC (Zbo FC PR BY m ZoT (XZ (ZaK 0) (evL FC PR BY m [8,7,1,0] ZuD tm σ))))
def ZsJ:Ze:=(.seq (.region [oI 4 (.mov (.c (.int .i64 (-1))))] none [4]) .ret)
@[irreducible] def Ztv:Ze:=ZsJ
def ZWi:=xw Ztv ZsJ (by kernel_rfl)
def ZjS:Ze:=by apply Zd 86 [1,0,1,0,0] [];conv=>lhs;reduce;dsimp only[zi]
@[irreducible] def Ztm:Ze:=ZjS
def ZsR:=xw Ztm ZjS (by kernel_rfl)
def Zuk:Ze:=by apply Zd 86 [] [([1,0,1,0,0],Ztm),([1,1],Ztv)];conv=>lhs;reduce;dsimp only[zi]
def ZlT:ZA:=⟨[(.tmp 4)],Zuk⟩
theorem ZT2:FC 86=some ZlT:=by kernel_rfl
theorem ZG9:ZlT.body=Zuk:=rfl
theorem Zya:ZlT.res=[(.tmp 4)]:=rfl
noncomputable def ZkO(m:Nat)(tm:Tms)(σ:Za):Option (AVal×Za):=(Zap m ZlT (Zbo FC PR BY m Ztv (XZ (ZaK 0) (evL FC PR BY m [8,7,1,0] Ztm tm σ))))
end
section
open Go.RowKit
inductive Ty where
 |bool
 |int (k:IntKind)
 |str
 |slice (s:Bool) (e:Ty)
 |struct (fs:List Ty)
 deriving Inhabited
def ZdZ:Option TypeDesc->Bool
 |some (.struct _)=>true
 |some (.array _ _)=>true
 |_=>false
def Zj8(P:Program):Nat->List Field->Nat->Bool
 |at',[],n=>at'==n
 |at',f::fs,n=>f.offset==at'&&Zj8 P (at'+P.cellsOf f.type) fs n
def Zdw(P:Program):Nat->TypeId->Option Ty
 |0,_=>none
 |n+1,t=>match P.underlying t with
  |some .bool=>some .bool
  |some (.int k)=>some (.int k)
  |some .string=>some .str
  |some (.slice e)=>if 0<P.cellsOf e then(Zdw P n e).map (.slice (ZdZ (P.underlying e)))else none
  |some (.struct fs)=>if Zj8 P 0 fs.toList (P.cellsOf t)then(fs.toList.mapM fun f=>Zdw P n f.type).map .struct else none
  |_=>none
def ZcM(s:Bool)(y:List AVal):AVal:=if s then .agg y else y.headD .nilp
mutual
def TyC:Ty->List AVal->Prop
 | .bool,xs=>∃ b,xs=[.bool b]
 | .int k,xs=>∃ n,(Lit.int k n).wf=true/\xs=[.int k n]
 | .str,xs=>∃ l:List UInt8,l.length<=9223372036854775807/\xs=[.str l]
 | .slice s e,xs=>∃ ys:List (List AVal),xs=[.lst false (ys.map (ZcM s))]/\ys.length<=9223372036854775807/\∀ y∈ys,TyC e y
 | .struct fs,xs=>ZhE fs xs
def ZhE:List Ty->List AVal->Prop
 | [],xs=>xs=[]
 |f::fs,xs=>∃ a b,xs=a++b/\TyC f a/\ZhE fs b
end
def Imm.of(w:World):Imm:=fun b o=>w.cell? ⟨b,o,none⟩
section
variable {H:Type}{enc:TypeId×Value->H}{P:Program}{w:World}{spare:Nat->Bool}{held:Bool}
theorem ZUm{b off:Nat}{s:Option Nat}{u:Value}(h:w.cell? ⟨b,off,s⟩=some u):s=none:=by
 unfold World.cell? at h
 split at h
 ·rcases s with _ |s
  ·rfl
  ·simp at h
 ·cases h
theorem ZCO{s:Bool}{y:List AVal}(h:s=false->y.length=1)(h1:s=false->∀ x∈y,ZX x=true):(ZcM s y).cells=y:=by
 cases s with
 |true=>rfl
 |false =>
  match y,h rfl with
  | [x],_ =>
   have:=h1 rfl x (by simp)
   cases x<;>simp_all[ZcM,AVal.cells,ZX]
theorem ZNr{a:Addr}(h:a.spot=none)(n:Nat):a.add n=⟨a.block,a.off+n,none⟩:=by
 unfold Addr.add
 split
 ·rename_i e;subst e;cases a;simp_all
 ·rfl
theorem ZMJ{I:Imm}{β:Bmap}{xs:List AVal}{vs:List Value}{n:Nat}(h:VRs I β xs (vs.take n)){ys:List AVal}(h':VRs I β ys (vs.drop n)):VRs I β (xs++ys) vs:=by
 have:=ZcE h h'
 rwa [List.take_append_drop]at this
theorem ZAj{α β:Type}{f:α->Option β}{a:α}{l:List α}{r:List β}(h:(a::l).mapM f=some r):∃ b r',f a=some b/\l.mapM f=some r'/\r=b::r':=by
 rw[Xa5]at h
 simp only[Option.bind_eq_bind,Option.bind_eq_some_iff,Option.pure_def,Xb]at h
 obtain⟨b,h1,r',h2,h3⟩:=h
 exact⟨b,r',h1,h2,h3.symm⟩
theorem ZKc{a b:List AVal}(ha:ZaX a=true)(hb:ZaX b=true):ZaX (a++b)=true:=by
 induction a with
 |nil=>exact hb
 |cons x a ih=>simp only[XV,ZaX,Xk]at ha ⊢;exact⟨ha.1,ih ha.2⟩
theorem ZAa{n fuel:Nat}{cs:List Value}(ih:∀ (t:TypeId) (cs:List Value) (x:DataW H×List MemPlace) (T:Ty),Zdw P n t=some T->DataW.trod enc P w 0 spare held fuel t cs=some x->∃ xs,TyC T xs/\VRs (Imm.of w) B0 xs cs/\ZaX xs=true) :
  ∀ (fs:List Field) (at':Nat) (Ts:List Ty) (ys:List (DataW H×List MemPlace)),Zj8 P at' fs cs.length=true->fs.mapM (fun f=>Zdw P n f.type)=some Ts ->
   fs.mapM (fun f=>DataW.trod enc P w 0 spare held fuel f.type ((cs.drop f.offset).take (P.cellsOf f.type)))=some ys->∃ xs,ZhE Ts xs/\VRs (Imm.of w) B0 xs (cs.drop at')/\ZaX xs=true
 | [],at',Ts,ys,ho,hT,_=>by
  simp only[Zj8,beq_iff_eq]at ho
  simp only[List.mapM_nil,Option.pure_def,Xb]at hT
  subst hT ho
  exact⟨[],by simp only[ZhE],by simp[VRs],rfl⟩
 |f::fs,at',Ts,ys,ho,hT,h=>by
  simp only[Zj8,Xk,beq_iff_eq]at ho
  obtain⟨T,Ts',h1,h2,rfl⟩:=ZAj hT
  obtain⟨y,ys',h3,h4,rfl⟩:=ZAj h
  obtain⟨a,a1,a2,a3⟩:=ih _ _ _ _ h1 h3
  obtain⟨b,b1,b2,b3⟩:=ZAa ih fs _ _ _ ho.2 h2 h4
  rw[ho.1]at a2
  refine⟨a++b,by simp only[ZhE];exact⟨a,b,rfl,a1,b1⟩,ZMJ a2 (by rw[List.drop_drop];exact b2),ZKc a3 b3⟩
theorem Zwu{I:Imm}{β:Bmap}{s:Bool}{k b:Nat}:∀ (n off:Nat) (Y:Nat->List AVal),(∀ i,i<n->(ZcM s (Y i)).cells.length=k/\CR I β (ZcM s (Y i)).cells b (off+i*k))->LR I β k ((Wa n).map fun i=>ZcM s (Y i)) b off
 |0,off,Y,_=>by simp[LR]
 |n+1,off,Y,h=>by
  rw[List.range_succ_eq_map,Xm,Zgz]
  have h0:=h 0 (by omega)
  simp only[Xbd,Wc]at h0
  refine⟨h0,?_⟩
  rw[XaQ]
  exact Zwu n (off+k) (fun i=>Y (i+1)) (fun i hi=>by
   have:=h (i+1) (by omega)
   rw[show off+k+i*k=off+(i+1)*k by rw[Nat.succ_mul];omega]
   exact this)
theorem ZyO{I:Imm}{β:Bmap}{b:Nat}:∀ (xs:List AVal) (cs:List Value) (off:Nat),VRs I β xs cs->(∀ i,i<cs.length->I b (off+i)=cs[i]?)->CR I β xs b off
 | [],_,_,_,_=>by simp only[CR]
 |x::xs,cs,off,h,hI=>by
  simp only[VRs]at h
  obtain⟨v,vs',rfl,h1,h2⟩:=h
  simp only[CR]
  refine⟨⟨v,by have:=hI 0 (by simp);simpa using this,h1⟩,ZyO xs vs' (off+1) h2 fun i hi=>?_⟩
  have:=hI (i+1) (by simp;omega)
  rw[show off+1+i=off+(i+1)by omega,this]
  simp
theorem Zqv{s:Bool}:∀ (n:Nat) (Y:Nat->List AVal),(∀ i,i<n->ZaX (ZcM s (Y i)).cells=true)->Zao ((Wa n).map fun i=>ZcM s (Y i))=true
 |0,Y,_=>by simp[Zao]
 |n+1,Y,h=>by
  rw[List.range_succ_eq_map,Xm,Zv1,h 0 (by omega),XaQ]
  simp only[Xa7]
  exact Zqv n (fun i=>Y (i+1)) (fun i hi=>h (i+1) (by omega))
theorem Zxq{xs:List AVal}(h:ZaX xs=true):∀ x∈xs,ZX x=true:=by
 induction xs with
 |nil=>intro x hx;simp at hx
 |cons y ys ih =>
  simp only[ZaX,Xk]at h
  intro x hx
  rcases XR.1 hx with rfl |hx
  ·cases x<;>simp_all[Zbb,ZX]
  ·exact ih h.2 x hx
theorem Zy4{n:Nat}{e:TypeId}{T:Ty}(hT:Zdw P n e=some T)(hs:ZdZ (P.underlying e)=false){xs:List AVal}(h:TyC T xs):xs.length=1:=by
 cases n with
 |zero=>simp[Zdw]at hT
 |succ n =>
  simp only[Zdw]at hT
  split at hT
  ·injection hT with hT;subst hT;simp only[TyC]at h;obtain⟨_,rfl⟩:=h;rfl
  ·injection hT with hT;subst hT;simp only[TyC]at h;obtain⟨_,_,rfl⟩:=h;rfl
  ·injection hT with hT;subst hT;simp only[TyC]at h;obtain⟨_,_,rfl⟩:=h;rfl
  ·split at hT
   ·simp only[Xq]at hT
    obtain⟨T',_,rfl⟩:=hT
    simp only[TyC]at h;obtain⟨_,rfl,_⟩:=h;rfl
   ·cases hT
  ·rename_i hu;rw[hu]at hs;simp[ZdZ]at hs
  ·cases hT
theorem Zrg:∀ (n fuel:Nat) (t:TypeId) (cs:List Value) (x:DataW H×List MemPlace) (T:Ty),Zdw P n t=some T->DataW.trod enc P w 0 spare held fuel t cs=some x ->
  ∃ xs,TyC T xs/\VRs (Imm.of w) B0 xs cs/\ZaX xs=true
 |0,fuel,t,cs,x,T,hT,_=>by simp[Zdw]at hT
 |n+1,0,t,cs,x,T,_,h=>by simp[DataW.trod]at h
 |n+1,fuel+1,t,cs,x,T,hT,h=>by
  have h0:=h
  simp only[Zdw]at hT
  unfold DataW.trod at h
  split at hT
  ·rename_i hu
   injection hT with hT;subst hT
   obtain⟨b,rfl,_⟩:=DataW.trod_bool hu h0
   exact⟨[.bool b],by simp only[TyC];exact⟨b,rfl⟩,by simp[VRs,VR],rfl⟩
  ·rename_i k hu
   injection hT with hT;subst hT
   obtain⟨n',rfl,_,hk⟩:=DataW.trod_int hu h0
   exact⟨[.int k n'],by simp only[TyC];exact⟨n',hk,rfl⟩,by simp[VRs,VR],rfl⟩
  ·rename_i hu
   injection hT with hT;subst hT
   obtain⟨s,rfl,_,hs⟩:=DataW.trod_string hu h0
   have hs':s.data.toList.length<=9223372036854775807:=by
    rw[XM];exact Nat.le_trans hs (by simp[maxLen])
   exact⟨[.str s.data.toList],by simp only[TyC];exact⟨_,hs',rfl⟩,by simp only[VRs,VR];exact⟨_,_,rfl,⟨by simp,hs'⟩,rfl⟩,rfl⟩
  ·rename_i e hu
   split at hT
   case isFalse=>cases hT
   rename_i hc
   simp only[Xq]at hT
   obtain⟨T,hT,rfl⟩:=hT
   rcases Go.Deep.open_slice hu h0 with⟨hcs,_⟩ |⟨a,len,cap,m,n',D,Pl,hcs,_,hl,hm,hmm,_,hi⟩
   ·subst hcs
    exact⟨[.lst false []],by simp only[TyC];exact⟨[],by simp,by simp,by simp⟩,by simp only[VRs,VR];exact⟨_,_,rfl,⟨none,0,rfl,by simp,by simp,by simp,by simp,by simp[Zao]⟩,rfl⟩,rfl⟩
   ·have hlm:len<=m:=by split at hmm<;>omega
    have hspot:0<len->a.spot=none:=by
     intro h0
     obtain⟨cs',h1,h2⟩:=hi 0 (by omega)
     obtain⟨_,h6,h7⟩:=World.cells?_some h1
     have h8:=h7 0 hc
     obtain⟨u,hu⟩:∃ u,cs'[0]?=some u:=⟨cs'[0]'(by omega),by simp⟩
     rw[hu]at h8
     simp only[Xbd,Addr.add,if_true]at h8
     exact ZUm (b:=a.block) (off:=a.off) (s:=a.spot) (u:=u) h8
    have hall:∀ i,∃ xs,i<len->TyC T xs/\(ZcM (ZdZ (P.underlying e)) xs).cells=xs/\xs.length=P.cellsOf e/\CR (Imm.of w) B0 xs a.block (a.off+i*P.cellsOf e)/\ZaX xs=true:=by
     intro i
     by_cases hlt:i<len
     ·obtain⟨cs',h1,h2⟩:=hi i (by omega)
      obtain⟨xs,h3,h4,h5⟩:=Zrg n n' e cs' _ T hT h2
      obtain⟨_,h6,h7⟩:=World.cells?_some h1
      have hlen:=Za1 h4
      refine⟨xs,fun _=>⟨h3,ZCO (fun hs=>Zy4 hT hs h3) (fun _=>Zxq h5),by omega,ZyO xs cs' _ h4 (fun j hj=>?_),h5⟩⟩
      have h8:=h7 j (by omega)
      rw[Go.Deep.add_add,ZNr (hspot (by omega)),<-WC]at h8
      exact h8
     ·exact⟨[],fun h=>absurd h hlt⟩
    obtain⟨Y,hY⟩:=Classical.axiomOfChoice hall
    subst hcs
    have hmx:maxLen=9223372036854775807:=by simp[maxLen]
    rw[hmx]at hm
    refine⟨[.lst false ((Wa len).map fun i=>ZcM (ZdZ (P.underlying e)) (Y i))],?_,?_,?_⟩
    ·simp only[TyC]
     refine⟨(Wa len).map Y,by rw[XaQ];rfl,by simp;omega,?_⟩
     intro y hy
     obtain⟨i,hi',rfl⟩:=X2.1 hy
     exact(hY i (List.mem_range.1 hi')).1
    ·simp only[VRs,VR,XD,List.length_range]
     refine⟨_,_,rfl,⟨some a,cap,rfl,hl,hm,by simp,?_,Zqv len Y fun i hlt=>by rw[(hY i hlt).2.1];exact(hY i hlt).2.2.2.2⟩,rfl⟩
     cases len with
     |zero=>exact Xr (by simp)
     |succ len =>
      refine XE ⟨a.block,a.off,P.cellsOf e,?_,hc,Zwu (len+1) a.off Y fun i hlt=>?_⟩
      ·have:=hspot (by omega)
       cases a;simp_all
      ·rw[(hY i hlt).2.1];exact⟨(hY i hlt).2.2.1,(hY i hlt).2.2.2.1⟩
    ·simp only[ZaX,Zbb,Xat]
     exact Zqv len Y fun i hlt=>by rw[(hY i hlt).2.1];exact(hY i hlt).2.2.2.2
  ·rename_i fs hu
   split at hT
   case isFalse=>cases hT
   rename_i ho
   simp only[Xq]at hT
   obtain⟨Ts,hT,rfl⟩:=hT
   rw[hu]at h
   simp only at h
   split at h
   ·rename_i hl
    simp only[Xq]at h
    obtain⟨ys,hy,rfl⟩:=h
    obtain⟨xs,h1,h2,h3⟩:=ZAa (fun t cs x T h h'=>Zrg n fuel t cs x T h h') fs.toList 0 Ts ys (by rw[hl];exact ho) hT hy
    exact⟨xs,by simp only[TyC];exact h1,h2,h3⟩
   ·cases h
  ·cases hT
def Zrj(s:Bool)(T:Ty)(x:AVal):Prop:=∃ xs,TyC T xs/\x=ZcM s xs
theorem ZtF{n:Nat}{t:TypeId}{v:Value}{d:DataW H}{ps:List MemPlace}{T:Ty}{r:Reach}{b0:Nat}(hT:Zdw P n t=some T)(hv:Value.okWide P w r b0 t v)(h:DataW.Trod enc P w 0 spare held t v d ps) :
  ∃ x,Zrj (ZdZ (P.underlying t)) T x/\VR (Imm.of w) B0 x v/\ZaX x.cells=true:=by
 obtain⟨fuel,h⟩:=h
 obtain⟨xs,h1,h2,h3⟩:=Zrg n fuel t _ _ T hT h
 refine⟨ZcM (ZdZ (P.underlying t)) xs,⟨xs,h1,rfl⟩,?_⟩
 by_cases hs:ZdZ (P.underlying t)=true
 ·have : ∃ cs,v=.agg cs:=by
   unfold Value.okWide at hv
   cases hu:P.underlying t with
   |none=>rw[hu]at hs;simp[ZdZ]at hs
   |some dd =>
    rw[hu]at hv hs
    cases dd<;>first |(simp[ZdZ]at hs;done) |(obtain⟨cs,e,_⟩:=hv;exact⟨cs,e⟩)
  obtain⟨cs,rfl⟩:=this
  rw[hs]
  exact⟨by simp only[ZcM,if_true,VR];exact⟨cs,rfl,h2⟩,h3⟩
 ·have hs':ZdZ (P.underlying t)=false:=by simpa using hs
  have hl:=Zy4 hT hs' h1
  have hlen:=Za1 h2
  rw[hs']
  match xs,hl with
  | [x],_ =>
   simp only[ZcM,Xj,if_false,List.headD_cons]
   have hvc:v.cells=#[v]:=by
    cases n with
    |zero=>simp[Zdw]at hT
    |succ n =>
     simp only[Zdw]at hT
     split at hT
     ·rename_i hu;obtain⟨b,rfl⟩:=Go.WideShapes.okWide_bool hu hv;rfl
     ·rename_i k hu;obtain⟨b,rfl⟩:=Go.WideShapes.okWide_int hu hv;rfl
     ·rename_i hu;obtain⟨b,rfl⟩:=Go.WideShapes.okWide_string hu hv;rfl
     ·rename_i e hu;obtain⟨a,l,c,rfl⟩:=Go.WideShapes.okWide_slice hu hv;rfl
     ·rename_i fs hu;rw[hu]at hs';simp[ZdZ]at hs'
     ·cases hT
   rw[hvc]at h2
   simp only[VRs]at h2
   obtain⟨v',vs',e,h2,_⟩:=h2
   simp only[List.cons.injEq]at e
   rw[e.1]
   refine⟨h2,?_⟩
   have hok:=Zxq h3 x (by simp)
   have hx:x.cells=[x]:=by cases x<;>first |rfl |(simp[ZX]at hok;done)
   rw[hx];exact h3
def GlW(w:World):Prop:=Gl.le (Imm.of w)/\GB (fun b=>b<w.heap.size) w
theorem Rel.start(w:World)(hG:GlW w):Rel (fun b=>b<w.heap.size) w (Imm.of w) (Imm.of w) B0 [] w where
 below:=KB.refl _ w
 old:=fun _ _ _=>rfl
 imm:=fun _ _ _ h=>h
 blk:=fun t x h=>by simp at h
 own:=fun t x b h=>by simp at h
 apart:=fun t x t' x' b h=>by simp at h
 fresh:=fun _ _ _=>rfl
 free:=fun t g h=>by simp at h
 gen:=fun t b g h=>by simp at h
 glob:=hG
theorem ZPX{O:ZV}(hO:ZaO P O){f:Nat}{args:List AVal}{vs:Array Value}{σ':Za}(hG:GlW w)(hargs:VRs (Imm.of w) B0 args vs.toList)(h:O f args []=some (.bool true,σ')) :
  Calls P f vs w (fun e w'=>e=.returned (.bool true)/\Below w.heap.size w w'):=by
 refine((hO f args [] _ _ h).2 _ w _ _ B0 w vs (fun b hb=>hb) (Rel.start w hG) hargs).mono ?_
 rintro e w' ⟨u,he,I',β',_,_,R,hv⟩
 simp only[Zbg,VR]at hv
 subst hv
 exact⟨he,R.below.os,R.below.tape,R.below.output,R.below.size,R.below.block⟩
end
end
section
open Go.RowKit
theorem ZQp(id:Nat)(tm:Tms)(σ:Za):ZaK id (.normal,tm,σ)=(.normal,tm,σ):=rfl
theorem ZIN(id i:Nat)(tm:Tms)(σ:Za):ZaK id (.exit i,tm,σ)=if i=id then(.normal,tm,σ)else(.exit i,tm,σ):=by simp only[ZaK]
theorem ZXn(id:Nat)(tm:Tms)(σ:Za):ZaK id (.ret,tm,σ)=(.ret,tm,σ):=rfl
theorem ZP0(id:Nat)(x:AVal)(tm:Tms)(σ:Za):ZaK id (.panic x,tm,σ)=(.panic x,tm,σ):=rfl
section
variable (O:ZV)(bf:Nat->Bool)
def Zd6(c:Cls):Option (Tms×Za×List Cls×Option AVal)->Option (Tms×Za×List Cls×Option AVal)
 |none=>none
 |some (tm,σ,cs,p)=>some (tm,σ,c::cs,p)
def Zia(c:List Cls):Option (Tms×Za×List Cls×Option AVal)->Option (Tms×Za×List Cls×Option AVal)
 |none=>none
 |some (tm,σ,cs,p)=>some (tm,σ,c++cs,p)
def kC(d:Option Nat)(os:List AOp)(s:Nat)(tm:Tms):Option (AVal×Za×Cls)->Option (Tms×Za×List Cls×Option AVal)
 |none=>none
 |some (v,σ,c)=>if Zbd v then some (tput tm d v,σ,[c],some (Zbg v))else Zd6 c (Z8 O bf os s (tput tm d v) σ)
def Zfi(ops:List AOp)(L:Nat)(l:List (Nat×Nat))(live:List Nat):Option (Tms×Za×List Cls×Option AVal)->Option (Zbe×Tms×Za)
 |none=>none
 |some (_,σ,cs,some x)=>if ZdN ops L l cs then some (.panic x,[],σ)else none
 |some (tm,σ,cs,none)=>if Zd2 ops L l cs then some (.normal,keepL live tm,σ)else none
variable {O bf}
theorem ZvP(s:Nat)(tm:Tms)(σ:Za):Z8 O bf [] s tm σ=some (tm,σ,[],none):=rfl
theorem ZQN(c:Cls)(tm:Tms)(σ:Za)(cs:List Cls)(p:Option AVal):Zd6 c (some (tm,σ,cs,p))=some (tm,σ,c::cs,p):=rfl
theorem ZL2(c:Cls):Zd6 c none=none:=rfl
theorem ZKi(c:Cls)(q:Prop)[Decidable q](x y:Option (Tms×Za×List Cls×Option AVal)):Zd6 c (if q then x else y)=if q then Zd6 c x else Zd6 c y:=by split<;>rfl
theorem ZMj(c:List Cls)(tm:Tms)(σ:Za)(cs:List Cls)(p:Option AVal):Zia c (some (tm,σ,cs,p))=some (tm,σ,c++cs,p):=rfl
theorem ZCp(c:List Cls):Zia c none=none:=rfl
theorem ZHX(c:List Cls)(q:Prop)[Decidable q](x y:Option (Tms×Za×List Cls×Option AVal)):Zia c (if q then x else y)=if q then Zia c x else Zia c y:=by split<;>rfl
theorem Zlh{o:AOp}{os:List AOp}{s:Nat}{tm tm1:Tms}{σ σ1:Za}{v:AVal}{c:Cls}(h:ZQ O bf o s tm σ=some (v,tm1,σ1,c))(hn:Zbd v=false):Z8 O bf (o::os) s tm σ=Zd6 c (Z8 O bf os (s+nsite o.ins) tm1 σ1):=by
 rw[Zx5 h hn]
 cases Z8 O bf os (s+nsite o.ins) tm1 σ1<;>rfl
theorem ZoL(d:Option Nat)(i:Ins)(af:List Nat)(os:List AOp)(s:Nat)(tm:Tms)(σ:Za):Z8 O bf (⟨d,i,none,af⟩::os) s tm σ=kC O bf d os (s+nsite i) tm (exI O bf i s tm σ):=by
 cases h:exI O bf i s tm σ with
 |none=>exact ZjV (by rw[Zmr,h];rfl)
 |some q =>
  obtain⟨v,σ1,c⟩:=q
  have hs:ZQ O bf ⟨d,i,none,af⟩ s tm σ=some (v,tput tm d v,σ1,c):=by rw[Zmr,h];rfl
  cases hp:Zbd v with
  |true =>
   obtain⟨x,rfl⟩:=ZnS hp
   exact Zli hs
  |false =>
   rw[Zlh hs hp]
   simp only[kC,hp,Xj,if_false]
theorem ZoR(d:Option Nat)(os:List AOp)(s:Nat)(tm:Tms)(v:AVal)(σ:Za)(c:Cls)(h:Zbd v=false):kC O bf d os s tm (some (v,σ,c))=Zd6 c (Z8 O bf os s (tput tm d v) σ):=by
 simp only[kC,h,Xj,if_false]
theorem ZIK(d:Option Nat)(os:List AOp)(s:Nat)(tm:Tms)(x:AVal)(σ:Za)(c:Cls):kC O bf d os s tm (some (.pan x,σ,c))=some (tput tm d (.pan x),σ,[c],some x):=rfl
theorem ZWg(d:Option Nat)(os:List AOp)(s:Nat)(tm:Tms):kC O bf d os s tm none=none:=rfl
theorem ZF5(d:Option Nat)(os:List AOp)(s:Nat)(tm:Tms)(q:Prop)[Decidable q](x y:Option (AVal×Za×Cls)):kC O bf d os s tm (if q then x else y)=if q then kC O bf d os s tm x else kC O bf d os s tm y:=by split<;>rfl
theorem ZEP(ops:List AOp)(l:List (Nat×Nat))(live:List Nat)(tm:Tms)(σ:Za):Zcd O bf ops (some l) live tm σ=Zfi ops σ.length l live (Z8 O bf ops σ.length tm (σ++Xz (sitesOf ops) .free)):=by
 unfold Zcd
 cases Z8 O bf ops σ.length tm (σ++Xz (sitesOf ops) .free)with
 |none=>rfl
 |some q =>
  obtain⟨tm',σ',cs,p⟩:=q
  cases p<;>rfl
theorem Zvd(ops:List AOp)(L:Nat)(l:List (Nat×Nat))(live:List Nat)(tm:Tms)(σ:Za)(cs:List Cls)(h:Zd2 ops L l cs=true):Zfi ops L l live (some (tm,σ,cs,none))=some (.normal,keepL live tm,σ):=by
 simp only[Zfi,h,if_true]
theorem Ziy(ops:List AOp)(L:Nat)(l:List (Nat×Nat))(live:List Nat)(tm:Tms)(σ:Za)(cs:List Cls)(x:AVal)(h:ZdN ops L l cs=true):Zfi ops L l live (some (tm,σ,cs,some x))=some (.panic x,[],σ):=by
 simp only[Zfi,h,if_true]
theorem ZKx(ops:List AOp)(L:Nat)(l:List (Nat×Nat))(live:List Nat):Zfi ops L l live none=none:=rfl
theorem ZNc(ops:List AOp)(L:Nat)(l:List (Nat×Nat))(live:List Nat)(q:Prop)[Decidable q](x y:Option (Tms×Za×List Cls×Option AVal)):Zfi ops L l live (if q then x else y)=if q then Zfi ops L l live x else Zfi ops L l live y:=by split<;>rfl
theorem ZIX(ops:List AOp)(L:Nat)(l:List (Nat×Nat))(cs:List Cls)(h:(cs.all fun c=>c.wr.isEmpty && !c.any)=true)(hs:(l.all fun p=>p.1==p.2 ||nsite (ops.getD p.1 default).ins==0)=true):Zd2 ops L l cs=true:=by
 have hd:∀ i,Zem (cs.getD i {})=true:=by
  intro i
  rw[XH]at h
  rw[Xh]
  cases hi:cs[i]? with
  |none=>rfl
  |some c=>exact h c (XC hi)
 unfold Zd2
 rw[XH]at hs ⊢
 intro p hp
 have:=hs p hp
 rw[WB]at this ⊢
 rcases this with this |this
 ·exact Xr this
 ·refine XE ?_
  unfold ZcS
  simp only[hd,this,Xat,Xa7,Xao,XaZ]
theorem ZUC(ops:List AOp)(L:Nat)(l:List (Nat×Nat))(live:List Nat)(tm:Tms)(σ:Za)(cs:List Cls)(h:(cs.all fun c=>c.wr.isEmpty && !c.any)=true)(hs:(l.all fun p=>p.1==p.2 ||nsite (ops.getD p.1 default).ins==0)=true):Zfi ops L l live (some (tm,σ,cs,none))=some (.normal,keepL live tm,σ) :=
 Zvd _ _ _ _ _ _ _ (ZIX _ _ _ _ h hs)
variable (O bf)in
def gKC(os:List AOp)(s:Nat):Option (Tms×Za×List Cls×Option AVal)->Option (Tms×Za×List Cls×Option AVal)
 |none=>none
 |some (tm,σ,cs,some x)=>some (tm,σ,cs,some x)
 |some (tm,σ,cs,none)=>Zia cs (Z8 O bf os s tm σ)
theorem ZH7(os:List AOp)(s:Nat)(tm:Tms)(σ:Za)(cs:List Cls):gKC O bf os s (some (tm,σ,cs,none))=Zia cs (Z8 O bf os s tm σ):=rfl
theorem ZQK(os:List AOp)(s:Nat)(q:Prop)[Decidable q](x y:Option (Tms×Za×List Cls×Option AVal)):gKC O bf os s (if q then x else y)=if q then gKC O bf os s x else gKC O bf os s y:=by split<;>rfl
theorem ZK1(os:List AOp)(s:Nat)(c:Cls)(r:Option (Tms×Za×List Cls×Option AVal)):gKC O bf os s (Zd6 c r)=Zd6 c (gKC O bf os s r):=by
 cases r with
 |none=>rfl
 |some q =>
  obtain⟨tm,σ,cs,p⟩:=q
  cases p with
  |some x=>rfl
  |none =>
   simp only[Zd6,gKC]
   cases Z8 O bf os s tm σ<;>rfl
theorem ZxM:∀ (a b:List AOp) (s:Nat) (tm:Tms) (σ:Za),Z8 O bf (a++b) s tm σ=gKC O bf b (s+sitesOf a) (Z8 O bf a s tm σ)
 | [],b,s,tm,σ=>by
  simp only[XA,ZvP,gKC,sitesOf,Xt,List.sum_nil,Wc]
  cases Z8 O bf b s tm σ<;>rfl
 |o::a,b,s,tm,σ=>by
  have ih:=ZxM a b
  simp only[XV]
  have hs:s+nsite o.ins+sitesOf a=s+sitesOf (o::a):=by simp[sitesOf,WC]
  cases hst:ZQ O bf o s tm σ with
  |none=>rw[ZjV hst,ZjV hst];rfl
  |some q =>
   obtain⟨v,tm1,σ1,c⟩:=q
   cases hp:Zbd v with
   |true =>
    obtain⟨x,rfl⟩:=ZnS hp
    rw[Zli hst,Zli hst];rfl
   |false=>rw[Zlh hst hp,Zlh hst hp,ih,hs,ZK1]
variable (O bf)in
def Ze5(j:Nat)(w:Bool)(g:List AOp)(s:Nat)(tm:Tms)(σ:Za):Option (Tms×Za×List Cls×Option AVal):=match ZbM (some (j,w)) tm with
 |none=>none
 |some false=>some (Zad g tm,σ,g.map fun _=>{},none)
 |some true=>Z8 O bf (g.map unG) s tm σ
theorem Zvm(j:Nat)(w:Bool):∀ (g:List AOp),(∀ o∈g,o.guard=some (j,w)/\o.dst≠some j)->∀ (s:Nat) (tm:Tms) (σ:Za),g≠[]->Z8 O bf g s tm σ=Ze5 O bf j w g s tm σ
 | [],_,_,_,_,h=>absurd rfl h
 |o::g,hall,s,tm,σ,_=>by
  obtain⟨hg,hd⟩:=hall o (by simp)
  have ih:∀ (tm:Tms) (σ:Za) (s:Nat),ZbM (some (j,w)) tm≠none->Z8 O bf g s tm σ=Ze5 O bf j w g s tm σ:=by
   intro tm σ s hw
   by_cases he:g=[]
   ·subst he
    unfold Ze5
    cases hx:ZbM (some (j,w)) tm with
    |none=>exact absurd hx hw
    |some b=>cases b<;>rfl
   ·exact Zvm j w g (fun o ho=>hall o (by simp[ho])) s tm σ he
  cases hx:ZbM (some (j,w)) tm with
  |none =>
   rw[ZjV (by simp only[ZQ,hg,hx])]
   simp only[Ze5,hx]
  |some b =>
   cases b with
   |false =>
    have h1:Z8 O bf (o::g) s tm σ=Zd6 {} (Z8 O bf g (s+nsite o.ins) (tput tm o.dst (.tup [])) σ) :=
     Zlh (v:=.tup []) (c:={}) (by simp only[ZQ,hg,hx]) rfl
    rw[h1,ih _ _ _ (by rw[Zgp hd,hx];simp)]
    unfold Ze5
    rw[Zgp hd,hx]
    rfl
   |true =>
    have key:∀ r:Option (AVal×Za×Cls),(∀ v σ' c,r=some (v,σ',c)->Zbd v=false->Z8 O bf g (s+nsite o.ins) (tput tm o.dst v) σ'=Z8 O bf (g.map unG) (s+nsite o.ins) (tput tm o.dst v) σ')->kC O bf o.dst g (s+nsite o.ins) tm r=kC O bf o.dst (g.map unG) (s+nsite o.ins) tm r:=by
     intro r hr
     cases r with
     |none=>rfl
     |some q =>
      obtain⟨v,σ',c⟩:=q
      cases hp:Zbd v with
      |true=>simp only[kC,hp,if_true]
      |false=>rw[ZoR _ _ _ _ _ _ _ hp,ZoR _ _ _ _ _ _ _ hp,hr v σ' c rfl hp]
    have h1:Z8 O bf (o::g) s tm σ=kC O bf o.dst g (s+nsite o.ins) tm (exI O bf o.ins s tm σ):=by
     have h0:Z8 O bf (o::g) s tm σ=Z8 O bf (⟨o.dst,o.ins,none,o.after⟩::g) s tm σ:=by
      have hst:ZQ O bf o s tm σ=ZQ O bf ⟨o.dst,o.ins,none,o.after⟩ s tm σ:=by
       unfold ZQ
       simp only[hg,hx]
       rfl
      simp only[Z8,hst]
     rw[h0,ZoL]
    rw[h1]
    unfold Ze5
    rw[hx]
    simp only[Xm]
    rw[show unG o=⟨o.dst,o.ins,none,o.after⟩from rfl,ZoL]
    refine key _ fun v σ' c _ _=>?_
    rw[ih _ _ _ (by rw[Zgp hd,hx];simp)]
    unfold Ze5
    rw[Zgp hd,hx]
theorem ZRv(d:Option Nat)(i:Ins)(j:Nat)(w:Bool)(af:List Nat)(os:List AOp)(s:Nat)(tm:Tms)(σ:Za)(hd:decide (d=some j)=false) :
  Z8 O bf (⟨d,i,some (j,w),af⟩::os) s tm σ=gKC O bf (Zw j w os).2 (s+sitesOf (⟨d,i,some (j,w),af⟩::(Zw j w os).1)) (Ze5 O bf j w (⟨d,i,some (j,w),af⟩::(Zw j w os).1) s tm σ):=by
 have h:=ZoP j w os
 have hall:∀ o∈(⟨d,i,some (j,w),af⟩::(Zw j w os).1:List AOp),o.guard=some (j,w)/\o.dst≠some j:=by
  intro o ho
  rcases XR.1 ho with rfl |ho
  ·exact⟨rfl,by simpa using hd⟩
  ·exact Zo6 j w os o ho
 rw[<-Zvm j w _ hall s tm σ (by simp),<-ZxM,XV,h]
variable (O bf)in
def gWC(w:Bool)(g:List AOp)(s:Nat)(tm:Tms)(σ:Za):AVal->Option (Tms×Za×List Cls×Option AVal)
 | .bool b=>if b=w then Z8 O bf (g.map unG) s tm σ else some (Zad g tm,σ,g.map fun _=>{},none)
 | .tup []=>some (Zad g tm,σ,g.map fun _=>{},none)
 |_=>none
theorem ZS5(j:Nat)(w:Bool)(g:List AOp)(s:Nat)(tm:Tms)(σ:Za):Ze5 O bf j w g s tm σ=gWC O bf w g s tm σ (tget tm j):=by
 unfold Ze5 ZbM
 simp only
 generalize tget tm j=v
 cases v
 case bool b=>cases b<;>cases w<;>rfl
 case tup vs=>cases vs<;>rfl
 all_goals rfl
theorem ZRb(w:Bool)(g:List AOp)(s:Nat)(tm:Tms)(σ:Za)(b:Bool):gWC O bf w g s tm σ (.bool b)=if b=w then Z8 O bf (g.map unG) s tm σ else some (Zad g tm,σ,g.map fun _=>{},none):=rfl
theorem ZGC(w:Bool)(g:List AOp)(s:Nat)(tm:Tms)(σ:Za):gWC O bf w g s tm σ (.tup [])=some (Zad g tm,σ,g.map fun _=>{},none):=rfl
theorem ZT6(q:Prop)[Decidable q](t1 t2:Tms)(σ1 σ2:Za)(cs:List Cls):(if q then some (t1,σ1,cs,(none:Option AVal))else some (t2,σ2,cs,none))=some ((if q then t1 else t2),(if q then σ1 else σ2),cs,none):=by split<;>rfl
end
section
theorem ZkP{r:AVal}{cs:List AVal}{σ:Za}(hr:ZS r=true)(hc:Zf cs=true):gcA 1 [r] (.var cs::σ)=([r],[.var cs]):=by
 have e1:=(Zbm (Zk (.var cs::σ) 1 [0]) r hr)
 have e2:=(ZaV (Zk (.var cs::σ) 1 [0]) cs hc)
 have h1:Zu 1 [r] (.var cs::σ)=[0]:=by
  have : Zt [r]=[]:=by simp only[Zt,e1.2,Xo]
  simp only[Zu,this,List.range_one,List.flatMap_cons,X5,Xo,Xu,Zx,e2.2]
  rfl
 simp only[gcA,h1,Zh,e1.1,Zn,Xu,Zy,e2.1]
theorem Z7{r:AVal}{cs:List AVal}{σ:Za}(hr:ZS r=true)(hc:Zf cs=true):Z4 1 (.var cs::σ) r=some (r,[.var cs]):=by
 simp only[Z4,ZkP hr hc]
theorem Zff{σ:Za}{t:Nat}{cs:List AVal}(hs:σ[t]?=some (.var cs))(hc:Zf cs=true):Zs σ 1000 [t] []=[t]:=by
 have hd:σ.getD t .free=.var cs:=by simp[Xh,hs]
 have e2:=(ZaV (fun _ _=>none) cs hc).2
 show Zs σ (999+1) [t] []=[t]
 simp only[Zs,List.contains_nil,Xj,if_false,hd,Zx,e2,XA]
theorem ZFq{O:ZV}{bf:Nat->Bool}{σ:Za}{t sq f:Nat}{view:Bool}{rest:List AVal}{cs cs':List AVal}{r:AVal}(hs:σ[t]?=some (.var cs))(hc:Zf cs=true)(hc':Zf cs'=true)(hb:bf f=false)(hp:rest.all Zan=true)(hr:ZbJ r=true)(hn:ZS r=true)(hv:viewR [.var cs'] r=some (r,[]))
  (h:O f (.ref 0 0::rest.map ZN) [.var cs]=some (r,[.var cs'])):Zj O bf σ sq f 0 view (.ref t 0::rest)=some (r,σ.set t (.var cs'),{ any:=true,upd:=[(t,cs')] }):=by
 have htl:t<σ.length:=by
  rcases Wx t σ.length with h |h
  ·exact h
  ·rw[List.getElem?_eq_none h]at hs;cases hs
 have hup:ZaZ (σ.set t (.var cs')) [t]=[(t,cs')]:=by
  simp only[ZaZ,List.getElem?_set,if_pos htl,if_true]
 have hd:σ.getD t .free=.var cs:=by simp[Xh,hs]
 have hf0:Zr σ []=σ:=rfl
 have hsh:showAs σ (.ref t 0::rest)=some (.ref t 0::rest.map ZN,[]):=by
  rw[showAs,show showA σ (.ref t 0)=some (.ref t 0,[])from rfl,Zej hp]
  rfl
 have href:Zt (.ref t 0::rest.map ZN)=[t]:=by
  rw[Zt,ZdC hp];rfl
 unfold Zj ZbS
 rw[hb]
 simp only[Xj,if_false,hsh,hf0,href,Zff hs hc]
 unfold ZbK
 have hall:([t].all fun t=>okB (σ.getD t .free))=true:=by simp[XO,Ws,hs,okB]
 rw[if_pos hall]
 have hρ:Zk σ 0 [t] t 0=some (0,0):=by simp[Zk,ZI,hs,Zl,ZF]
 have hheap:Zn σ 0 [t] (Zk σ 0 [t]) [t] 0=[.var cs]:=by
  simp only[Zn,hd,Zy,(ZaV _ cs hc).1]
 have hargs:Zh (Zk σ 0 [t]) (.ref t 0::rest.map ZN)=.ref 0 0::rest.map ZN:=by
  rw[Zh,ZdE hp]
  simp only[Zo,hρ]
 rw[hargs,hheap,h]
 have hask:Z3 view [t].length (some (r,[.var cs']))=some (r,[.var cs']):=by
  unfold Z3
  split
  ·have hnp:∀ x,r≠.pan x:=by rintro x rfl;simp[viewR,ZP,ZK]at hv
   rw[show ZbB [t].length (some (r,[.var cs']))=(match viewR [.var cs'] r with
    |some (r',ts)=>match gcA [t].length [r'] (Zr [.var cs'] ts)with
     |([r''],σ')=>some (r'',σ')
     |_=>none
    |none=>none)from by cases r<;>first |rfl |exact absurd rfl (hnp _)]
   rw[hv]
   simp only[Xp,Xw,XB,show Zr [ZO.var cs'] []=[.var cs']from rfl,ZkP hn hc']
  ·rfl
 rw[hask]
 have hk:ZaW σ [t] [.var cs'] 0=true:=by
  simp[ZaW,okB,hs,Zcr,Zl]
 simp only[ZaA,List.isEmpty_cons,Xj,if_false,Xp,Xw,XB,Wc,XF,decide_true,hk,ZaM,Wg,if_true,Za9,ZaN,Xu,Zy,(Zbm _ r hn).1,(ZaV _ cs' hc').1,hup]
end
end
section
section
variable (c:Prop)[Decidable c]
theorem ZGq(t1 t2:Tms)(σ1 σ2:Za):(if c then some (Zbe.normal,t1,σ1)else some (Zbe.normal,t2,σ2))=some (Zbe.normal,(if c then t1 else t2),(if c then σ1 else σ2)):=by split<;>rfl
theorem ZPP(t1 t2:Tms)(σ1 σ2:Za):(if c then some (Zbe.ret,t1,σ1)else some (Zbe.ret,t2,σ2))=some (Zbe.ret,(if c then t1 else t2),(if c then σ1 else σ2)):=by split<;>rfl
theorem ZU6(t1 t2:Tms)(σ1 σ2:Za):(if c then some (t1,σ1,(none:Option AVal))else some (t2,σ2,none))=some ((if c then t1 else t2),(if c then σ1 else σ2),none):=by split<;>rfl
theorem ZOQ(n:Nat)(a b:AVal):(if c then(n,a)else(n,b))=(n,if c then a else b):=by split<;>rfl
theorem ZP2(a b:AVal)(σ1 σ2:Za):(if c then some (a,σ1)else some (b,σ2))=some ((if c then a else b),(if c then σ1 else σ2)):=by split<;>rfl
theorem ZKM(a b:AVal)(σ1 σ2:Za)(x y:Cls):(if c then some (a,σ1,x)else some (b,σ2,y))=some ((if c then a else b),(if c then σ1 else σ2),if c then x else y):=by split<;>rfl
end
theorem ZXr{α:Type}(p:Bool)(x y z:α):(if p=true then x else(if p=false then y else z))=if p=true then x else y:=by cases p<;>rfl
theorem ZBm(ops:List AOp)(b:Nat)(cs:List Cls):Zd2 ops b [] cs=true:=rfl
theorem ZMW(ops:List AOp)(b:Nat)(p:Nat×Nat)(l:List (Nat×Nat))(cs:List Cls):Zd2 ops b (p::l) cs=((p.1==p.2 ||ZcS (ops.getD p.1 default) (ops.getD p.2 default) (cs.getD p.1 {}) (cs.getD p.2 {}) (b+sitesOf (ops.take p.1)))&&Zd2 ops b l cs):=by
 simp only[Zd2,XO]
theorem ZQ9(oj oi:AOp)(cj ci:Cls)(sj:Nat):ZcS oj oi cj ci sj=(Zcx oj cj ||Zcx oi ci ||(Zem cj&&Zem ci&&(nsite oj.ins==0 || !ci.rd.contains sj)) ||((Z6 oj.ins ||(Zah oj.ins && !cj.any))&&(Zem ci&&ci.rd.isEmpty)) ||(Zaf oj.ins&&Z6 oi.ins&&ci.any&&Zag cj ci) ||(Zaf oj.ins&&(Zah oi.ins ||(Zau oi.ins&&Zav cj ci))&&Zag cj ci) ||(Zas oj.ins&&Zar oi.ins) ||(Z6 oj.ins&&Zaf oi.ins&&cj.any&&Zaw cj ci sj)):=rfl
theorem ZHi(o:AOp)(rd wr:List Nat)(any:Bool)(got:List (Nat×Option Nat×Nat×AVal))(upd:List (Nat×List AVal)):Zcx o ⟨rd,wr,any,got,upd⟩=(nsite o.ins==0&&rd.isEmpty&&wr.isEmpty && !any):=rfl
theorem ZTt(rd wr:List Nat)(any:Bool)(got:List (Nat×Option Nat×Nat×AVal))(upd:List (Nat×List AVal)):Zem ⟨rd,wr,any,got,upd⟩=(wr.isEmpty && !any):=rfl
theorem ZW{α:Type}{l:List α}{i:Nat}{x:α}{r:List α}(h:l.drop i=x::r):l[i]?=some x/\l.drop (i+1)=r/\i<l.length:=by
 have h1:i<l.length:=by
  rcases Wx i l.length with h1 |h1
  ·exact h1
  ·rw[List.drop_eq_nil_of_le h1]at h;cases h
 rw[List.drop_eq_getElem_cons h1]at h
 injection h with h2 h3
 exact⟨by rw[We h1,h2],h3,h1⟩
theorem Zcq{α:Type}{l:List α}{i:Nat}(h:l.drop i=[]):¬(i:Int)<l.length:=by
 have:=XW.1 h;omega
theorem iad{α:Type}{l:List α}{i:Nat}{x:α}(h:l[i]?=some x)(f:α->AVal){k:Nat}(hk:(f x).cells.length=k)(σ:Za)(n:Bool)(kk:IntKind):Zb9 σ k (.lst n (l.map f)) (.int kk (i:Int))=some (.iptr (f x).cells 0,σ,{}):=by
 have h0:(0:Int)<=(i:Int):=Int.natCast_nonneg i
 unfold Zb9
 simp only[h0,if_true,Wv,WZ,h,X8,hk]
theorem ZaC{n:Int}(h0:-9223372036854775808<=n)(h:n<=9223372036854775807):IntKind.i64.wrap n=n:=by
 rw[IntKind.wrap_i64];omega
theorem Zom{α β:Type}{a:List α}{b:List β}(h:a.length=b.length):((a.length:Int) != (b.length:Int))=false:=by simp[h]
theorem Zoc{α β:Type}{a:List α}{b:List β}(h:a.length≠b.length):((a.length:Int) != (b.length:Int))=true:=by
 simp only[bne_iff_ne,ne_eq];omega
theorem Zna{α:Type}[BEq α][LawfulBEq α]{a b:List α}(h:a.length≠b.length):(a==b)=false:=by
 simp only[beq_eq_false_iff_ne,ne_eq];rintro rfl;exact h rfl
theorem Zcs{i n:Nat}(h:(i:Int)<n)(hn:n<=9223372036854775807):IntKind.i64.wrap ((i:Int)+1)=((i+1:Nat):Int):=by
 rw[ZaC (by omega) (by omega)];rfl
theorem Za2{O:ZV}{bf:Nat->Bool}{f:Nat}{args:List AVal}{r:AVal}(h:O f args []=some (r,[]))(hb:bf f=false)(hp:args.all Zan=true)(hn:args.map ZN=args)(hv:ZbB 0 (some (r,[]))=some (r,[]))(hr:∀ sq,Zo (ZaJ [] [] sq) r=r)(σ:Za)(sq own:Nat)(view:Bool):Zj O bf σ sq f own view args=some (r,σ,{}):=by
 rw[ZcT hb hp,hn,h]
 have : Z3 view 0 (some (r,[]))=some (r,[]):=by
  unfold Z3
  split
  ·exact hv
  ·rfl
 rw[this,Zgu _ _ _ _ (hr sq)]
theorem ZjQ{α:Type}(σ:Za)(k:Nat)(l:List α)(f:α->AVal)(kk:IntKind)(n:Int)(h0:0<=n)(h:n<=(l.length:Int)):ZbI σ k (.lst false (l.map f)) none (some (.int kk n)) none=some (.lst false ((l.take n.toNat).map f),σ,{}):=by
 simp only[ZbI,Zbp,ZcP,XD,h0,h,and_self,if_true,beq_self_eq_true,Xao,Option.isSome_none,Xj,if_false,WX,XaL,Xa6]
abbrev Zc:=List UInt8
def ZJ(b:Zc):AVal:=.lst false (b.map Zb)
structure Zp where
 id:Int
 num:Int
 text:Zc
 pair:Zc
 data:Zc
 deriving DecidableEq
def Za0(p:Zp):List AVal:=[.int .i64 p.id,.int .i64 p.num,.str p.text,.str p.pair,ZJ p.data]
def Zg(p:Zp):AVal:=.agg (Za0 p)
def Zbh(l:List Zp):AVal:=.lst false (l.map Zg)
def ZdJ(l:List Int):AVal:=.lst false (l.map (.int .i64 ·))
theorem Zxz(l:Zc):Zf3 (l.map Zb)=some l:=by
 induction l with
 |nil=>rfl
 |cons b l ih =>
  simp only[Xm,Zf3,ih,Zb,ZsI,Wv,UInt8.ofNat_toNat]
end
section
def Zv6:=(aI (aI (aI (aI (aI (aI @ZRV @ZUn) (aI @ZUU @ZXz)) (aI (aI @ZHH @ZIp) (aI @ZN1 @ZWU))) (aI (aI (aI @Zzl @ZuA) (aI @ZRJ @Zqu)) (aI (aI @ZQ8 @ZM5) (aI @ZP9 @ZQx)))) (aI (aI (aI (aI @ZSb @ZUg) (aI @ZWE @ZJY)) (aI (aI @ZJ1 @ZT1) (aI @ZDF @ZIc))) (aI (aI (aI @ZO3 @ZR1) (aI @ZTq @ZEz)) (aI (aI @ZSV @Zxz) (aI @ZGq @ZPP))))) (aI (aI (aI (aI (aI @ZU6 @ZOQ) (aI @ZP2 @ZKM)) (aI (aI @ZLS @ZO5) (aI @ZC7 @ZRj))) (aI (aI (aI @ZEQ @ZBu) (aI @ZHM @ZEP)) (aI (aI @ZvP @ZoL) (aI @ZRv @ZQN)))) (aI (aI (aI (aI @ZL2 @ZKi) (aI @ZMj @ZCp)) (aI (aI @ZHX @ZoR) (aI @ZIK @ZWg))) (aI (aI (aI @ZF5 @ZUC) (aI @ZKx @ZNc)) (aI (aI @ZH7 @ZQK) (aI @ZS5 @ZRb))))))
def ZR7:=(aI (aI (aI (aI (aI (aI @ZGC @ZT6) (aI @ZQp @ZIN)) (aI (aI @ZXn @ZP0) (aI @ZBm @ZMW))) (aI (aI (aI @ZQ9 @ZHi) (aI @ZTt @Zvd)) (aI (aI @ZEH @ZPJ) (aI @ZPb @ZBJ)))) (aI (aI (aI (aI @ZO1 @ZB3) (aI @ZMd @ZTU)) (aI (aI @ZvB @ZR4) (aI @ZIj @ZW2))) (aI (aI (aI @ZNy @ZDA) (aI @ZFg @ZWq)) (aI (aI @ZIS @ZKV) (aI @ZN7 @ZSi))))) (aI (aI (aI (aI (aI @ZEE @ZVz) (aI @ZXJ @ZUR)) (aI (aI @ZRI @ZIq) (aI @ZM6 @ZUc))) (aI (aI (aI @ZGY @ZGn) (aI @ZJc @ZG4)) (aI (aI @ZKJ @ZCX) (aI @ZUJ @ZIB)))) (aI (aI (aI (aI @ZNl @ZSh) (aI @ZPC @ZLi)) (aI (aI @ZRu @ZCg) (aI @ZD9 @ZCC))) (aI (aI (aI @ZN9 @ZLc) (aI @ZVr @ZCs)) (aI (aI @ZIA @ZNf) (aI @ZKz @ZDa))))))
def ZaG:=(aI (aI (aI (aI (aI (aI @ZTI @ZH5) (aI @ZSf @ZU4)) (aI (aI @ZRO @ZSo) (aI @ZSK @ZVo))) (aI (aI (aI @ZBx @ZTs) (aI @ZRg @ZHk)) (aI (aI @ZCS @ZR2) (aI @ZXe @ZGU)))) (aI (aI (aI (aI @ZVH @ZCy) (aI @ZQ7 @ZEV)) (aI (aI @ZCq @ZLW) (aI @ZGi @ZDm))) (aI (aI (aI @ZUf @ZGf) (aI @ZOk @ZWX)) (aI (aI @ZJm @ZQW) (aI @ZKb @ZNM))))) (aI (aI (aI (aI (aI @ZQP @ZLg) (aI @ZMq @ZQm)) (aI (aI @ZRN @ZXF) (aI @ZUW @ZMB))) (aI (aI (aI @ZI4 @ZXG) (aI @ZMs @ZOn)) (aI (aI @ZQD @ZQq) (aI @ZRp @ZPN)))) (aI (aI (aI (aI @ZJA @ZWv) (aI @ZE2 @ZJd)) (aI (aI @ZJl @ZSE) (aI @ZJC @ZGp))) (aI (aI (aI @ZQe @ZBF) (aI @ZPW @ZEg)) (aI (aI @ZCk @ZC9) (aI @ZKY @ZSp))))))
def Zbu:=(aI (aI (aI (aI (aI (aI @ZCj @ZB4) (aI @ZNv @ZVp)) (aI (aI @ZDq @ZTD) (aI @ZQB @ZPj))) (aI (aI (aI @ZJ5 @ZUD) (aI @ZF9 @ZwP)) (aI (aI @ZRC @Zxj) (aI @ZC6 @ZKQ)))) (aI (aI (aI (aI @ZQS @ZCi) (aI @ZA9 @ZL9)) (aI (aI @ZGX @ZD6) (aI @ZBP @ZSk))) (aI (aI (aI @ZUi @ZD1) (aI @ZJ6 @ZHs)) (aI (aI @ZJ9 @ZUQ) (aI @ZJi @ZVD))))) (aI (aI (aI (aI (aI @ZDX @ZRi) (aI @ZUB @ZVv)) (aI (aI @ZGB @ZTR) (aI @ZvZ @ZPf))) (aI (aI (aI @ZKW @ZEf) (aI @ZM1 @ZD8)) (aI (aI @ZTm @ZQc) (aI @ZJD @ZvJ)))) (aI (aI (aI (aI @ZMw @ZzB) (aI @ZXp @ZHY)) (aI (aI @ZU5 @ZF2) (aI @Zx6 @ZMk))) (aI (aI (aI @ZQb @ZIM) (aI @ZRk @ZHe)) (aI (aI @ZVC @ZJs) (aI @ZCb @ZFS))))))
def Zz:=(aI (aI (aI (aI (aI (aI @ZVj @ZTf) (aI @ZKm @ZRe)) (aI (aI @ZB5 @ZDf) (aI @ZF0 @ZBY))) (aI (aI (aI @ZJJ @ZLx) (aI @ZSG @Zwy)) (aI (aI @ZQh @ZH1) (aI @ZRX @ZXN)))) (aI (aI (aI (aI @ZQv @ZMM) (aI @ZBW @ZLR)) (aI (aI @ZBX @ZHc) (aI @ZVK @ZD0))) (aI (aI (aI @ZIv @ZCo) (aI @ZTT @ZHp)) (aI (aI @ZND @ZK7) (aI @ZE0 @ZJj))))) (aI (aI (aI (aI (aI @ZSt @ZWM) (aI @ZSY @ZDr)) (aI (aI @ZNg @ZGN) (aI @ZRE @ZKr))) (aI (aI (aI @ZHP @ZPm) (aI @ZUa @ZFA)) (aI (aI @ZMp @ZDy) (aI @ZGg @ZPl)))) (aI (aI (aI (aI @ZQL @ZOE) (aI @ZCJ @ZJr)) (aI (aI @ZKU @ZFv) (aI @ZEr @ZKp))) (aI (aI (aI @ZSz @ZQ5) (aI @ZU9 @ZRq)) (aI (aI @ZLe @ZV0) (aI @ZW7 @ZQO))))))
def Zzq:=(aI (aI (aI (aI (aI (aI @ZGx @ZCT) (aI @ZWe @ZSs)) (aI (aI @ZJT @ZEB) (aI @ZN2 @ZTp))) (aI (aI (aI @ZOX @ZJU) (aI @ZJM @ZSQ)) (aI (aI @ZWO @ZQd) (aI @ZQu @ZV9)))) (aI (aI (aI (aI @ZCt @ZCf) (aI @ZD4 @ZE8)) (aI (aI @ZXw @ZJ4) (aI @ZFR @ZON))) (aI (aI (aI @ZSB @ZGw) (aI @ZC3 @ZBp)) (aI (aI @ZR8 @ZL6) (aI @ZOc @ZPI))))) (aI (aI (aI (aI (aI @ZJf @ZL4) (aI @ZKO @ZMG)) (aI (aI @ZKl @ZUk) (aI @ZMA @ZGd))) (aI (aI (aI @ZFM @ZNs) (aI @ZMy @ZLk)) (aI (aI @ZPu @ZL1) (aI @ZQT @ZDl)))) (aI (aI (aI (aI @ZTP @ZTX) (aI @ZNd @ZBw)) (aI (aI @ZK2 @ZMF) (aI @ZP6 @ZId))) (aI (aI (aI @ZHr @ZML) (aI @ZFn @ZQY)) (aI (aI @ZFl @ZIe) (aI @ZFp @ZPL))))))
def Zv:=(aI (aI (aI (aI (aI (aI @ZDu @ZPS) (aI @ZDk @ZLA)) (aI (aI @ZTN @ZOA) (aI @ZF3 @ZPp))) (aI (aI (aI @ZHx @ZUS) (aI @ZIf @ZM8)) (aI (aI @ZUM @ZC2) (aI @ZCK @ZGT)))) (aI (aI (aI (aI @ZCa @ZV2) (aI @ZI2 @ZHI)) (aI (aI @ZQ0 @ZXC) (aI @ZUI @ZW4))) (aI (aI (aI @ZPq @ZPO) (aI @ZXm @ZET)) (aI (aI @ZQi @ZBv) (aI @ZLz @ZHQ))))) (aI (aI (aI (aI (aI @ZBL @ZVS) (aI @ZPn @ZXq)) (aI (aI @ZDw @ZFE) (aI @ZTj @ZUX))) (aI (aI (aI @ZCm @ZNt) (aI @ZNN @ZTr)) (aI (aI @ZTJ @ZTS) (aI @ZWK @ZS3)))) (aI (aI (aI (aI @ZBU @ZRG) (aI @ZOV @ZOy)) (aI (aI @ZOI @ZJw) (aI @ZB6 @ZUp))) (aI (aI (aI @ZLa @ZFx) (aI @ZTH @ZR3)) (aI (aI @ZSw @ZEW) (aI @ZTE @ZQ1))))))
def ZM:=(aI (aI (aI (aI (aI @ZJ2 (aI @ZN8 @ZEb)) (aI (aI @ZSM @ZEp) (aI @ZPo @ZQR))) (aI (aI @ZLY (aI @ZRY @ZPT)) (aI (aI @ZRM @ZXA) (aI @ZFa @ZSO)))) (aI (aI (aI @ZVY (aI @ZQA @ZQ4)) (aI (aI @ZUL @ZII) (aI @ZHq @ZVn))) (aI (aI (aI @ZVT @ZPi) (aI @ZMc @ZEm)) (aI (aI @ZDR @ZNZ) (aI @ZIY @ZEZ))))) (aI (aI (aI (aI @ZNh (aI @ZVk @ZFT)) (aI (aI @ZUF @ZP8) (aI @ZWI @ZXh))) (aI (aI (aI @ZWt @ZRf) (aI @ZBz @ZCE)) (aI (aI @ZMt @ZLO) (aI @ZCQ @ZXg)))) (aI (aI (aI @ZLv (aI @ZIF @ZGW)) (aI (aI @ZWo @ZEe) (aI @ZOY @ZN5))) (aI (aI (aI @ZFe @ZJR) (aI @ZGe @ZTc)) (aI (aI @ZOr @Z7) (aI @ZW9 @Zwt))))))
def Zai:=(aI (aI (aI (aI (aI (aI @List.map_cons.{0,0} @List.map_nil.{0,0}) (aI @List.length_cons.{0} @List.length_nil.{0})) (aI (aI @List.replicate_zero.{0} @List.replicate_succ.{0}) (aI @List.append_nil.{0} @List.nil_append.{0}))) (aI (aI (aI @List.cons_append.{0} @List.getElem?_cons_zero.{0}) (aI @List.getElem?_cons_succ.{0} @List.set_cons_zero.{0})) (aI (aI @List.set_cons_succ.{0} @Nat.add_zero) (aI @Nat.zero_add @Bool.true_or)))) (aI (aI (aI (aI @Bool.false_or @Bool.or_true) (aI @Bool.or_false @Bool.and_true)) (aI (aI @Bool.true_and @Bool.and_self) (aI @Bool.and_false @Bool.false_and))) (aI (aI (aI @if_true.{1} @if_false.{1}) (aI @ite_true.{1} @ite_false.{1})) (aI (aI @Option.map_some.{0,0} @Option.map_none.{0,0}) (aI @and_self @and_true))))) (aI (aI (aI (aI (aI @true_and @and_false) (aI @false_and @true_or)) (aI (aI @or_true @false_or) (aI @or_false @not_true_eq_false))) (aI (aI (aI @not_false_eq_true @List.drop_zero.{0}) (aI @List.drop_succ_cons.{0} @List.take_succ_cons.{0})) (aI (aI @List.take_zero.{0} @List.all_cons.{0}) (aI @List.all_nil.{0} @List.isEmpty_nil.{0})))) (aI (aI (aI (aI @Bool.not_false @Bool.not_true) (aI @List.length_map.{0,0} @Bool.bne_false)) (aI (aI @Bool.bne_true @List.isEmpty_cons.{0}) (aI @List.getD_cons_zero.{0} @List.getD_cons_succ.{0}))) (aI (aI (aI @List.getD_nil.{0} @List.contains_nil.{0}) (aI @List.range_zero @List.flatMap_cons.{0,0})) (aI (aI @List.flatMap_nil.{0,0} @List.zip_cons_cons.{0,0}) (aI @List.zip_nil_left.{0,0} @List.zip_nil_right.{0,0}))))))
def Za7:=@Nat.not_lt_zero
def EQA:=(aI (aI (aI (aI (aI (aI (aI Zv6 ZR7) (aI Zzq Zai)) (aI (aI @exI.eq_1 @nsite.eq_1) (aI @nsite.eq_2 @nsite.eq_3))) (aI (aI (aI @nsite.eq_4 @nsite.eq_5) (aI @nsite.eq_6 @nsite.eq_7)) (aI (aI @nsite.eq_8 @nsite.eq_9) (aI @nsite.eq_10 @nsite.eq_11)))) (aI (aI (aI (aI @freeAt.eq_1 @execI.eq_1) (aI @execI.eq_2 @execI.eq_3)) (aI (aI @execI.eq_4 @execI.eq_5) (aI @execI.eq_6 @execI.eq_7))) (aI (aI (aI @execI.eq_8 @execI.eq_9) (aI @execI.eq_10 @execI.eq_11)) (aI (aI @execI.eq_12 @execI.eq_13) (aI @execI.eq_14 (aI @execI.eq_15 @execI.eq_16)))))) (aI (aI (aI (aI (aI @execI.eq_17 @execI.eq_18) (aI @execI.eq_19 @execI.eq_20)) (aI (aI @execI.eq_21 @execI.eq_22) (aI @execI.eq_23 @execI.eq_24))) (aI (aI (aI @execI.eq_25 @execI.eq_26) (aI @execI.eq_27 @execI.eq_28)) (aI (aI @execI.eq_29 @execI.eq_30) (aI @execI.eq_31 (aI @execI.eq_32 @execI.eq_33))))) (aI (aI (aI (aI @execI.eq_34 @execI.eq_35) (aI @execI.eq_36 @execI.eq_37)) (aI (aI @execI.eq_38 @execI.eq_39) (aI @execI.eq_40 @execI.eq_41))) (aI (aI (aI @execI.eq_42 @execI.eq_43) (aI @execI.eq_44 @execI.eq_45)) (aI (aI @execI.eq_46 @execI.eq_47) (aI @execI.eq_48 (aI @execI.eq_49 @Opd.ev.eq_1))))))) (aI (aI (aI (aI (aI (aI @Opd.ev.eq_2 @tget.eq_1) (aI @tget.eq_2 @tins.eq_1)) (aI (aI @tins.eq_2 @tput.eq_1) (aI @tput.eq_2 @keepL.eq_1))) (aI (aI (aI @sitesOf.eq_1 @resA.eq_1) (aI @resAll.eq_1 @resAll.eq_2)) (aI (aI @resOne.eq_1 @resOne.eq_2) (aI @enterA.eq_1 (aI @enterA.eq_2 @partA.eq_1))))) (aI (aI (aI (aI @partA.eq_2 @faddrA.eq_1) (aI @faddrA.eq_2 @faddrA.eq_3)) (aI (aI @faddrA.eq_4 @setAt.eq_1) (aI @binA.eq_1 @binA.eq_2))) (aI (aI (aI @binA.eq_3 @binA.eq_4) (aI @binA.eq_5 @arithA.eq_1)) (aI (aI @arithA.eq_2 @arithA.eq_3) (aI @arithA.eq_4 (aI @arithA.eq_5 @arithA.eq_6)))))) (aI (aI (aI (aI (aI @arithA.eq_7 @arithA.eq_8) (aI @arithA.eq_9 @arithA.eq_10)) (aI (aI @arithA.eq_11 @arithA.eq_12) (aI @arithA.eq_13 @arithA.eq_14))) (aI (aI (aI @arithA.eq_15 @arithA.eq_16) (aI @ldA.eq_1 @ldA.eq_2)) (aI (aI @ldA.eq_3 @ldA.eq_4) (aI @stA.eq_1 (aI @stA.eq_2 @stA.eq_3))))) (aI (aI (aI (aI @oI.eq_1 @oN.eq_1) (aI @oM.eq_1 @oF.eq_1)) (aI (aI @oL.eq_1 @List.sum_cons.{0}) (aI @List.sum_nil.{0} @eq_self.{1}))) (aI (aI (aI @beq_self_eq_true.{0} @Bool.false_eq_true) (aI @Option.some.injEq.{0} @decide_true)) (aI (aI @decide_false @List.foldl_cons.{0,0}) (aI @List.foldl_nil.{0,0} (aI @List.contains_cons.{0} @ne_eq.{1}))))))))
end
section
theorem ZUt(a b:Zp):E 113 [Zg a,Zg b] []=some (.bool (a.id==b.id&&a.num==b.num&&a.text==b.text&&a.pair==b.pair&&a.data==b.data),[]):=by
 rw[Zi (by rfl) ZIO]
 simp -implicitDefEqProofs only[EQA,Zz,ZM,Zdm,ZmH,Xe,Xc,Xa,Xg,Zbi,Zw,Zad,unG,reduceCtorEq,ZY,ite_self,↓reduceIte,ZCD,ZtN,ZJZ,Zd,ZJ,Zg,Za0]
theorem ZMY(a b:Zp):(a.id==b.id&&a.num==b.num&&a.text==b.text&&a.pair==b.pair&&a.data==b.data)=(a==b):=by
 obtain⟨i,n,t,p,d⟩:=a
 obtain⟨i',n',t',p',d'⟩:=b
 rw[Bool.eq_iff_iff]
 simp[and_assoc]
theorem ZOK(a:Zp):Zan (Zg a)=true:=by
 simp -implicitDefEqProofs only[eq_self,Wg,XO,Ws,ZwP,Zxj,ZA9,ZvZ,Zg,Za0,ZJ]
theorem ZF4(a:Zp):ZN (Zg a)=Zg a:=by
 simp -implicitDefEqProofs only[eq_self,Xm,Xt,ZvJ,ZzB,Zx6,Zwy,Zg,Za0,ZJ]
theorem ZM2(σ:Za)(sq own:Nat)(view:Bool)(i n:Int)(t p d:Zc)(i' n':Int)(t' p' d':Zc):Zj E BY σ sq 113 own view [.agg [.int .i64 i,.int .i64 n,.str t,.str p,.lst false (d.map Zb)],.agg [.int .i64 i',.int .i64 n',.str t',.str p',.lst false (d'.map Zb)]]=some (.bool (i==i'&&n==n'&&t==t'&&p==p'&&d==d'),σ,{}) :=
 Za2 (ZUt ⟨i,n,t,p,d⟩ ⟨i',n',t',p',d'⟩) (by kernel_rfl) (by simp only[XO,ZOK];rfl) (by simp only[Xm,ZF4];rfl) rfl (fun _=>rfl) _ _ _ _
theorem ZxO(a b:List Zp)(h:a.length=b.length)(hl:a.length<=9223372036854775807):∀ (r s:List Zp) (i:Nat),a.drop i=r->b.drop i=s->Znp 0 [(17,.int .i64 i),(16,.int .i64 a.length),(15,Zbh a),(2,.fn 113 []),(1,Zbh b)] []=some (.bool (r==s),[])
 | [],s,i,ha,hb=>by
  have hs:s=[]:=by
   subst hb;rw[XW]at ha ⊢;omega
  subst hs
  have h1:=Zcq ha
  unfold Znp
  rw[ZR]
  simp -implicitDefEqProofs only[EQA,Xc,Xa,↓reduceIte,ZpR,ZJn,ZuG,ZyG,Zms,Zd,Zbh,h1]
 |x::r,[],i,ha,hb=>by
  have:=(ZW ha).2.2;rw[XW]at hb;omega
 |x::r,y::s,i,ha,hb=>by
  have ih:=ZxO a b h hl r s (i+1) (ZW ha).2.1 (ZW hb).2.1
  have h1:(i:Int)<a.length:=by have:=(ZW ha).2.2;omega
  have e1:=iad (ZW ha).1 Zg (k:=5) rfl
  have e2:=iad (ZW hb).1 Zg (k:=5) rfl
  have e3:=Zcs h1 hl
  unfold Znp at ih ⊢
  rw[ZR]
  simp -implicitDefEqProofs only[EQA,Zz,ZM,Xe,Xc,Xf,Xa,Xg,unA,↓reduceIte,gcT,gcA,Zu,Zs,Zn,Zx,ZpR,ZyG,Zms,Zd,ZJ,Zbh,Zg,Za0,h1,e1,e2,e3,ZM2]
  simp only[Zbh]at ih
  rw[ih,ZMY]
  by_cases hx:x=y<;>simp[hx]
theorem ZTK(a b:List Zp)(hl:a.length<=9223372036854775807):E 112 [Zbh a,Zbh b,.fn 113 []] []=some (.bool (a==b),[]):=by
 rw[Zi (by rfl) ZKk]
 by_cases h:a.length=b.length
 ·have:=ZxO a b h hl a b 0 rfl rfl
  unfold Znp at this
  simp only[Zbh]at this
  have e:=Zom h
  simp -implicitDefEqProofs only[EQA,ZM,Xe,Xc,Xa,reduceCtorEq,↓reduceIte,gcT,gcA,Zu,Zs,Zn,Zx,ZAW,Zln,Zd,Zbh,e]
  exact this
 ·have e:=Zoc h
  simp -implicitDefEqProofs only[EQA,Xe,Xc,Xa,reduceCtorEq,↓reduceIte,ZAW,Zln,ZpR,Zd,Zbh,e,Zna h]
theorem ZJb(σ:Za)(sq own:Nat)(view:Bool)(a b:List Zp)(hl:a.length<=9223372036854775807):Zj E BY σ sq 112 own view [.lst false (a.map Zg),.lst false (b.map Zg),.fn 113 []]=some (.bool (a==b),σ,{}) :=
 Za2 (ZTK a b hl) (by kernel_rfl) (by simp -implicitDefEqProofs only[Zbu,Zzq,Zai,eq_self,Zbh]) (by simp -implicitDefEqProofs only[Zz,Zai,eq_self,Zbh]) rfl (fun _=>rfl) _ _ _ _
theorem ZLF(a b:List Zp)(hl:a.length<=9223372036854775807):E 82 [Zbh a,Zbh b] []=some (.bool (a==b),[]):=by
 rw[Zi (by rfl) ZQw]
 simp -implicitDefEqProofs only[EQA,Xc,Xa,reduceCtorEq,↓reduceIte,ZIu,ZrA,ZDY,Zd,Zbh,ZJb,hl]
theorem Znf(σ:Za)(sq own:Nat)(view:Bool)(a b:List Zp)(hl:a.length<=9223372036854775807):Zj E BY σ sq 82 own view [.lst false (a.map Zg),.lst false (b.map Zg)]=some (.bool (a==b),σ,{}) :=
 Za2 (ZLF a b hl) (by kernel_rfl) (by simp -implicitDefEqProofs only[Zbu,Zai,eq_self,Zbh]) (by simp -implicitDefEqProofs only[Zz,Zai,eq_self,Zbh]) rfl (fun _=>rfl) _ _ _ _
end
section
end
section
structure Zax where
 topic:Zc
 payload:Zc
 qos:Int
 retain:Bool
 sender:Zc
 expires:Int
 props:List Zp
 origin:Int
 number:Int
 hops:Int
 deriving DecidableEq
structure ZhZ where
 note:Zax
 qos:Int
 retain:Bool
 ids:List Int
 share:Zc
 deriving DecidableEq
end
section
theorem Zx3{O:ZV}{bf:Nat->Bool}{σ:Za}{sq f own:Nat}{view:Bool}{args:List AVal}(h:args.all Zan=true)(hm:args.map ZN=args) :
  Zj O bf σ sq f own view args=ZaA σ σ [] [] sq own (Z3 view 0 (O f args [])):=by
 cases hb:bf f
 ·rw[ZcT hb h,hm]
 ·have hr:=ZdC h
  have hn:=fun ρ=>ZdE (ρ:=ρ) h
  rw[hm]at hr
  simp only[hm]at hn
  unfold Zj ZbS
  rw[hb]
  simp only[if_true]
  have h1:Zr σ []=σ:=rfl
  rw[h1,hr]
  have h2:Zs σ 1000 [] []=[]:=rfl
  rw[h2]
  unfold ZbK
  simp only[Ws,if_true,hn,Zn,Xw]
theorem Zpb{O:ZV}{bf:Nat->Bool}{f:Nat}{args:List AVal}{k n:Nat}{xs:List AVal}(h:O f args []=some (.sl 0 0 0 n,[.row 0 k xs]))(hn:xs.length=n)(hp:args.all Zan=true)(hm:args.map ZN=args)(σ:Za)(sq own:Nat):Zj O bf σ sq f own true args=some (.lst false xs,σ,{}):=by
 rw[Zx3 hp hm,h]
 have : Z3 true 0 (some (.sl 0 0 0 n,[.row 0 k xs]))=some (.lst false xs,[]):=by
  unfold Z3
  rw[if_pos rfl,ZsQ (k:=k) (g:=0) (t:=0) (xs:=xs) rfl (by omega),XI (by omega)]
 rw[this,Zgu _ _ _ _ rfl]
theorem ZrZ{O:ZV}{bf:Nat->Bool}{f:Nat}{args:List AVal}{k n:Nat}{xs:List AVal}(h:O f args []=some (.sl 0 0 0 n,[.row 0 k xs]))(hp:args.all Zan=true)(hm:args.map ZN=args)(σ:Za)(sq:Nat)(hs:freeAt σ sq=true):Zj O bf σ sq f 1 false args=some (.sl sq 0 0 n,σ.set sq (.row 0 k xs),if xs.all Zbr then{}else{ any:=true }):=by
 rw[Zx3 hp hm,h]
 cases hx:xs.all Zbr<;>simp[Z3,ZaA,ZhP,hx,ZaW,okB,Zl,ZaM,hs,Zo,ZaJ,Za9,ZaZ,ZaZ,ZaN,Zch,Zy]
theorem ZFU{O:ZV}{bf:Nat->Bool}{σ:Za}{f:Nat}{args vs:List AVal}{ts:List Nat}{r r':AVal}(hb:bf f=false)(hsh:showAs σ args=some (vs,ts))(hp:vs.all Zan=true)(hm:vs.map ZN=vs)(h:O f vs []=some (r,[]))(hv:ZbB 0 (some (r,[]))=some (r',[]))(sq own:Nat) :
  Zj O bf σ sq f own true args=if ZbJ r' then some (r',σ,{ rd:=ts })else if ZcY σ ts r' then some (r',σ,{ rd:=ts })else some (Zo (ZaJ [] [] sq) r',Zr σ ts,{ rd:=ts,wr:=ts }):=by
 have hr:=ZdC hp
 have hn:=fun ρ=>ZdE (ρ:=ρ) hp
 rw[hm]at hr
 simp only[hm]at hn
 unfold Zj ZbS
 rw[hb]
 simp only[Xj,if_false,hsh]
 rw[hr]
 have h2:∀ σ,Zs σ 1000 [] []=[]:=fun _=>rfl
 rw[h2]
 unfold ZbK
 simp only[Ws,if_true,hn,Zn,Xw,h]
 have : Z3 true 0 (some (r,[]))=some (r',[]):=by unfold Z3;rw[if_pos rfl,hv]
 rw[this]
 simp only[ZaA,Xai,Wg,if_true]
theorem ZTB{O:ZV}{bf:Nat->Bool}{σ:Za}{f:Nat}{args vs:List AVal}{ts:List Nat}{r r':AVal}(hb:bf f=false)(hsh:showAs σ args=some (vs,ts))(hp:vs.all Zan=true)(hm:vs.map ZN=vs)(h:O f vs []=some (r,[]))(hv:ZbB 0 (some (r,[]))=some (r',[]))(hap:ZcY σ ts r'=true)(sq own:Nat) :
  Zj O bf σ sq f own true args=some (r',σ,{ rd:=ts }):=by
 rw[ZFU hb hsh hp hm h hv,if_pos hap]
 split<;>rfl
theorem ZbD{O:ZV}{bf:Nat->Bool}{f:Nat}{args args':List AVal}{r r':AVal}(h:O f args' []=some (r,[]))(hb:bf f=false)(hp:args.all Zan=true)(hn:args.map ZN=args')(hv:ZbB 0 (some (r,[]))=some (r',[]))(hr:∀ sq,Zo (ZaJ [] [] sq) r'=r')(σ:Za)(sq own:Nat):Zj O bf σ sq f own true args=some (r',σ,{}):=by
 rw[ZcT hb hp,hn,h]
 have : Z3 true 0 (some (r,[]))=some (r',[]):=by
  unfold Z3
  rw[if_pos rfl];exact hv
 rw[this,Zgu _ _ _ _ (hr sq)]
theorem ZAn(k n:Nat)(xs:List AVal)(σ:Za):Z4 0 (.row 0 k xs::σ) (.sl 0 0 0 n)=some (.sl 0 0 0 n,[.row 0 k xs]):=by
 simp[Z4,gcA,Zu,Zs,Zt,ZT,Zk,Zn,ZI,Zl,ZF,Zh,Zo,Zy,Zx]
def ZcL:List AVal->AVal
 | []=>.lst true []
 |x::xs=>.sl 0 0 0 (x::xs).length
def ZcI(k:Nat):List AVal->Za
 | []=>[]
 |x::xs=>[.row 0 k (x::xs)]
theorem Zdu:ZcL []=.lst true []:=rfl
theorem ZdF(x:AVal)(xs:List AVal):ZcL (x::xs)=.sl 0 0 0 (x::xs).length:=rfl
theorem ZdB(k:Nat):ZcI k []=[]:=rfl
theorem Zdr(k:Nat)(x:AVal)(xs:List AVal):ZcI k (x::xs)=[.row 0 k (x::xs)]:=rfl
theorem ZzV{O:ZV}{bf:Nat->Bool}{f k:Nat}{args args':List AVal}{full:List AVal}(h:O f args' []=some (ZcL full,ZcI k full))(hb:bf f=false)(hp:args.all Zan=true)(hn:args.map ZN=args')(σ:Za)(sq own:Nat):Zj O bf σ sq f own true args=some (.lst false full,σ,{}):=by
 cases full with
 |nil=>exact ZbD h hb hp hn rfl (fun _=>rfl) σ sq own
 |cons x xs =>
  rw[ZdF,Zdr]at h
  rw[ZcT hb hp,hn,h]
  have : Z3 true 0 (some (.sl 0 0 0 (x::xs).length,[.row 0 k (x::xs)]))=some (.lst false (x::xs),[]):=by
   unfold Z3
   rw[if_pos rfl,ZsQ (k:=k) (g:=0) (t:=0) (xs:=x::xs) rfl (by omega),XI (by omega)]
  rw[this,Zgu _ _ _ _ rfl]
theorem Zgf(l:Zc):kOk 1 (l.map Zb)=true:=by cases l<;>rfl
end
section
def Znx(b:Bool):AVal:=.tup [.agg [.int .i64 0,.int .i64 0,.str [],.str [],.lst b []],.bool false]
theorem ZPw(l:Zc):kOk 1 (l.map Zb)=true:=by cases l<;>rfl
theorem ZLm(l:Zc)(h:l.length<=140737488355328):E 44 [.lst false (l.map Zb)] []=some (.sl 0 0 0 (l.map Zb).length,[.row 0 1 (l.map Zb)]):=by
 refine ZbQ.2 ⟨1,?_⟩
 show ZeD 1 1 [.lst false (l.map Zb)] []=_
 have h1:(l.map Zb).length*1<=140737488355328/\kOk 1 (l.map Zb)=true:=⟨by simpa using h,ZPw l⟩
 simp only[ZeD,ZY]
 rw[if_pos h1];rfl
theorem ZlW(σ:Za)(sq own:Nat)(l:Zc)(h:l.length<=140737488355328):Zj E BY σ sq 44 own true [.lst false (l.map Zb)]=some (.lst false (l.map Zb),σ,{}) :=
 Zpb (bf:=BY) (ZLm l h) rfl rfl rfl σ sq own
theorem ZU1(p:Zp)(h:p.data.length<=140737488355328):E 62 [Zg p] []=some (Zg p,[]):=by
 have hC:=fun σ sq own=>ZlW σ sq own p.data h
 rw[Zi (by rfl) ZFz]
 simp -implicitDefEqProofs only[EQA,Zz,Zv,Xe,Xc,Xf,Xa,Xg,↓reduceIte,Zf,ZI3,Zrh,ZSP,Zd,ZJ,Zg,Za0,hC]
theorem Zzf(σ:Za)(sq own:Nat)(p:Zp)(h:p.data.length<=140737488355328):Zj E BY σ sq 62 own true [.agg [.int .i64 p.id,.int .i64 p.num,.str p.text,.str p.pair,.lst false (p.data.map Zb)]]=some (.agg [.int .i64 p.id,.int .i64 p.num,.str p.text,.str p.pair,.lst false (p.data.map Zb)],σ,{}) :=
 Za2 (ZU1 p h) (by kernel_rfl) (by simp -implicitDefEqProofs only[Zbu,Zai,eq_self,ZJ,Zg,Za0]) (by simp -implicitDefEqProofs only[Zbu,Zz,Zai,eq_self,ZJ,Zg,Za0]) rfl (fun _=>rfl) _ _ _ _
def ZhA(id:Int):List Zp->AVal
 | []=>Znx true
 |p::r=>if p.id==id then .tup [Zg p,.bool true]else ZhA id r
theorem ZzR(l:List Zp)(hl:l.length<=9223372036854775807)(hd:∀ p∈l,p.data.length<=140737488355328)(id:Int):∀ (r:List Zp) (i:Nat),l.drop i=r ->
  Znz 0 [(10,.int .i64 i),(9,.int .i64 l.length),(8,.lst false (l.map Zg)),(4,.ref 0 0),(0,.int .i64 id)] [.var [.int .i64 0,.int .i64 0,.str [],.str [],.lst true []]]=some (ZhA id r,[])
 | [],i,h=>by
  have h1:=Zcq h
  unfold Znz
  rw[ZR,ZhA]
  simp -implicitDefEqProofs only[EQA,Zv,Xe,Xc,Xf,Xa,reduceCtorEq,↓reduceIte,Zf,ZyB,ZEu,ZsY,ZuV,Zj0,Zd,h1,Znx,Zab,AVal.cells]
 |p::r,i,h=>by
  have ih:=ZzR l hl hd id r (i+1) (ZW h).2.1
  have h1:(i:Int)<l.length:=by have:=(ZW h).2.2;omega
  have e1:=iad (ZW h).1 Zg (k:=5) rfl
  have e3:=Zcs h1 hl
  have hC:=fun σ sq own=>Zzf σ sq own p (hd p (XC (ZW h).1))
  unfold Znz at ih ⊢
  rw[ZR,ZhA]
  cases hb:(p.id==id)
  ·simp -implicitDefEqProofs only[EQA,Zz,ZM,Za7,Xe,Xc,Xf,Xa,Xg,reduceCtorEq,↓reduceIte,gcT,gcA,Zu,Zs,Zk,Zn,ZI,Zl,ZF,Zy,Zx,ZuV,Zj0,Zd,ZJ,Zg,Za0,h1,e1,e3,hb]
   exact ih
  ·simp -implicitDefEqProofs only[EQA,Zz,Zv,Xe,Xc,Xf,Xa,Xg,reduceCtorEq,↓reduceIte,Zf,ZyB,ZuV,Zj0,Zd,ZJ,Zg,Za0,h1,e1,hb,hC]
theorem ZGr(l:List Zp)(hl:l.length<=9223372036854775807)(hd:∀ p∈l,p.data.length<=140737488355328)(id:Int):E 64 [.int .i64 id,Zbh l] []=some (ZhA id l,[]):=by
 have:=ZzR l hl hd id l 0 rfl
 have z0:((0:Nat):Int)=0:=rfl
 rw[z0]at this
 unfold Znz at this
 rw[Zi (by rfl) ZOW]
 simp -implicitDefEqProofs only[EQA,ZM,Za7,Xc,Xa,Xg,reduceCtorEq,↓reduceIte,gcT,gcA,Zu,Zs,Zk,Zn,ZI,Zl,ZF,Zy,Zx,ZDb,ZpZ,Zd,Zbh]
 exact this
def Zcm(id:Int)(l:List Zp):Option Zp:=l.find? (fun p=>p.id==id)
def ZkL(b:Bool):Option Zp->AVal
 |none=>Znx b
 |some p=>.tup [Zg p,.bool true]
theorem Zxu(id:Int):∀ l:List Zp,ZhA id l=ZkL true (Zcm id l)
 | []=>rfl
 |p::r=>by
  have ih:=Zxu id r
  unfold Zcm at ih ⊢
  rw[ZhA,List.find?_cons]
  cases h:(p.id==id)
  ·simpa using ih
  ·rfl
theorem ZAO(σ:Za)(sq own:Nat)(l:List Zp)(hl:l.length<=9223372036854775807)(hd:∀ p∈l,p.data.length<=140737488355328)(id:Int):Zj E BY σ sq 64 own true [.int .i64 id,.lst false (l.map Zg)]=some (ZkL false (Zcm id l),σ,{}):=by
 have h:=ZGr l hl hd id
 rw[Zxu]at h
 cases hf:Zcm id l with
 |none=>rw[hf]at h;exact ZbD h (by kernel_rfl) rfl rfl rfl (fun _=>rfl) σ sq own
 |some p =>
  rw[hf]at h
  exact ZbD h (by kernel_rfl) rfl rfl rfl (fun _=>rfl) σ sq own
def ZfO:Zp:=⟨0,0,[],[],[]⟩
theorem ZPc(o:Option Zp):ZkL false o=.tup [.agg [.int .i64 (o.getD ZfO).id,.int .i64 (o.getD ZfO).num,.str (o.getD ZfO).text,.str (o.getD ZfO).pair,.lst false ((o.getD ZfO).data.map Zb)],.bool o.isSome]:=by
 cases o<;>rfl
end
section
def ZmY:Ze:=by apply Zd 128 [] [];conv=>lhs;reduce;dsimp only[zi]
def Zqy:ZA:=⟨[(.tmp 2),(.tmp 3)],ZmY⟩
theorem Zyj:FC 128=some Zqy:=by kernel_rfl
theorem Zyc:Zqy.body=ZmY:=rfl
theorem ZA8:Zqy.res=[(.tmp 2),(.tmp 3)]:=rfl
def Zug:Ze:=(.seq (.region [oM 18 3,oM 2 18] none [2]) .ret)
@[irreducible] def ZuP:Ze:=Zug
def ZWz:=xw ZuP Zug (by kernel_rfl)
def Zot:Ze:=by apply Zd 135 [1,1,0,1,0,0] [];conv=>lhs;reduce;dsimp only[zi]
@[irreducible] def Ztw:Ze:=Zot
def Zzm:=xw Ztw Zot (by kernel_rfl)
def Zo5:Ze:=by apply Zd 135 [] [([1,1,0,1,0,0],Ztw),([1,1,1],ZuP)];conv=>lhs;reduce;dsimp only[zi]
def ZmJ:ZA:=⟨[(.tmp 2)],Zo5⟩
theorem ZT3:FC 135=some ZmJ:=by kernel_rfl
theorem ZXs:ZmJ.body=Zo5:=rfl
theorem ZEj:ZmJ.res=[(.tmp 2)]:=rfl
noncomputable def Znh(m:Nat)(tm:Tms)(σ:Za):Option (AVal×Za):=(Zap m ZmJ (Zbo FC PR BY m ZuP (XZ (ZaK 0) (evL FC PR BY m [8,7,6,3] Ztw tm σ))))
def ZkA:Ze:=by apply Zd 154 [] [];conv=>lhs;reduce;dsimp only[zi]
def Zpt:ZA:=⟨[(.tmp 2),(.tmp 3),(.tmp 4)],ZkA⟩
theorem ZrK:FC 154=some Zpt:=by kernel_rfl
theorem ZsA:Zpt.body=ZkA:=rfl
theorem Zuh:Zpt.res=[(.tmp 2),(.tmp 3),(.tmp 4)]:=rfl
def Zkg:Ze:=by apply Zd 137 [] [];conv=>lhs;reduce;dsimp only[zi]
def Zqd:ZA:=⟨[(.tmp 2),(.tmp 3),(.tmp 4)],Zkg⟩
theorem ZzJ:FC 137=some Zqd:=by kernel_rfl
theorem Zsp:Zqd.body=Zkg:=rfl
theorem ZsL:Zqd.res=[(.tmp 2),(.tmp 3),(.tmp 4)]:=rfl
def ZjZ:Ze:=by apply Zd 151 [1,1] [];conv=>lhs;reduce;dsimp only[zi]
@[irreducible] def Zqs:Ze:=ZjZ
def Zo1:=xw Zqs ZjZ (by kernel_rfl)
def ZfU:Ze:=by apply Zd 151 [1,0,1,0,0] [];conv=>lhs;reduce;dsimp only[zi]
@[irreducible] def ZpH:Ze:=ZfU
def Zha:=xw ZpH ZfU (by kernel_rfl)
def Zsk:Ze:=by apply Zd 151 [] [([1,0,1,0,0],ZpH),([1,1],Zqs)];conv=>lhs;reduce;dsimp only[zi]
def Zk8:ZA:=⟨[(.tmp 2),(.tmp 3),(.tmp 4)],Zsk⟩
theorem ZMH:FC 151=some Zk8:=by kernel_rfl
theorem ZGy:Zk8.body=Zsk:=rfl
theorem ZiV:Zk8.res=[(.tmp 2),(.tmp 3),(.tmp 4)]:=rfl
noncomputable def ZiH(m:Nat)(tm:Tms)(σ:Za):Option (AVal×Za):=(Zap m Zk8 (Zbo FC PR BY m Zqs (XZ (ZaK 0) (evL FC PR BY m [9,8,7,2,0] ZpH tm σ))))
def Zsa:Ze:=(.seq (.region [oM 12 0,oI 13 (.call 88 0 true [(.t 12)]),oM 2 13] none [2]) .ret)
@[irreducible] def Zp1:Ze:=Zsa
def ZVE:=xw Zp1 Zsa (by kernel_rfl)
def Zkk:Ze:=by apply Zd 67 [1,0,1,0,0] [];conv=>lhs;reduce;dsimp only[zi]
@[irreducible] def Ztj:Ze:=Zkk
def Zst:=xw Ztj Zkk (by kernel_rfl)
def Zt5:Ze:=by apply Zd 67 [] [([1,0,1,0,0],Ztj),([1,1],Zp1)];conv=>lhs;reduce;dsimp only[zi]
def Zon:ZA:=⟨[(.tmp 2)],Zt5⟩
theorem ZPa:FC 67=some Zon:=by kernel_rfl
theorem ZHE:Zon.body=Zt5:=rfl
theorem Zwp:Zon.res=[(.tmp 2)]:=rfl
noncomputable def ZlF(m:Nat)(tm:Tms)(σ:Za):Option (AVal×Za):=(Zap m Zon (Zbo FC PR BY m Zp1 (XZ (ZaK 0) (evL FC PR BY m [6,0] Ztj tm σ))))
def Zqt:Ze:=(.seq (.region [oM 16 3,oM 2 16] none [2]) .ret)
@[irreducible] def ZpJ:Ze:=Zqt
def ZVh:=xw ZpJ Zqt (by kernel_rfl)
def Zjv:Ze:=by apply Zd 29 [1,1,0,1,0,0] [];conv=>lhs;reduce;dsimp only[zi]
@[irreducible] def ZpU:Ze:=Zjv
def Zq4:=xw ZpU Zjv (by kernel_rfl)
def Zqx:Ze:=by apply Zd 29 [] [([1,1,0,1,0,0],ZpU),([1,1,1],ZpJ)];conv=>lhs;reduce;dsimp only[zi]
def Zmh:ZA:=⟨[(.tmp 2)],Zqx⟩
theorem ZRF:FC 29=some Zmh:=by kernel_rfl
theorem ZMQ:Zmh.body=Zqx:=rfl
theorem ZEI:Zmh.res=[(.tmp 2)]:=rfl
noncomputable def Zl0(m:Nat)(tm:Tms)(σ:Za):Option (AVal×Za):=(Zap m Zmh (Zbo FC PR BY m ZpJ (XZ (ZaK 0) (evL FC PR BY m [8,7,6,3] ZpU tm σ))))
def Zr0:Ze:=(.seq (.region [oM 28 5,oM 4 28] none [4]) .ret)
@[irreducible] def ZrR:Ze:=Zr0
def ZS4:=xw ZrR Zr0 (by kernel_rfl)
def ZlL:Ze:=by apply Zd 94 [1,1,1,0,1,0,0] [];conv=>lhs;reduce;dsimp only[zi]
@[irreducible] def Ztk:Ze:=ZlL
def ZzW:=xw Ztk ZlL (by kernel_rfl)
def ZqF:Ze:=by apply Zd 94 [] [([1,1,1,0,1,0,0],Ztk),([1,1,1,1],ZrR)];conv=>lhs;reduce;dsimp only[zi]
def Zm3:ZA:=⟨[(.tmp 4)],ZqF⟩
theorem ZBH:FC 94=some Zm3:=by kernel_rfl
theorem ZEK:Zm3.body=ZqF:=rfl
theorem ZW0:Zm3.res=[(.tmp 4)]:=rfl
noncomputable def Zmx(m:Nat)(tm:Tms)(σ:Za):Option (AVal×Za):=(Zap m Zm3 (Zbo FC PR BY m ZrR (XZ (ZaK 0) (evL FC PR BY m [6,5,0] Ztk tm σ))))
def ZmI:Ze:=by apply Zd 96 [] [];conv=>lhs;reduce;dsimp only[zi]
def Zul:ZA:=⟨[(.tmp 2),(.tmp 3)],ZmI⟩
theorem ZAU:FC 96=some Zul:=by kernel_rfl
theorem Zvr:Zul.body=ZmI:=rfl
theorem Zz9:Zul.res=[(.tmp 2),(.tmp 3)]:=rfl
def ZlB:Ze:=by apply Zd 28 [1,1,1,1] [];conv=>lhs;reduce;dsimp only[zi]
@[irreducible] def Zqm:Ze:=ZlB
def Zvp:=xw Zqm ZlB (by kernel_rfl)
def Zir:Ze:=by apply Zd 28 [1,1,1,0,0,0] [];conv=>lhs;reduce;dsimp only[zi]
@[irreducible] def Zrp:Ze:=Zir
def Zk6:=xw Zrp Zir (by kernel_rfl)
def Zjx:Ze:=by apply Zd 28 [] [([1,1,1,0,0,0],Zrp),([1,1,1,1],Zqm)];conv=>lhs;reduce;dsimp only[zi]
def Zmf:ZA:=⟨[(.tmp 2),(.tmp 3)],Zjx⟩
theorem ZBK:FC 28=some Zmf:=by kernel_rfl
theorem ZqD:Zmf.body=Zjx:=rfl
theorem Znb:Zmf.res=[(.tmp 2),(.tmp 3)]:=rfl
noncomputable def Zou(m:Nat)(tm:Tms)(σ:Za):Option (AVal×Za):=(Zap m Zmf (Zbo FC PR BY m Zqm (XZ (ZaK 0) (evL FC PR BY m [4,0] Zrp tm σ))))
end
end Go.Proofs.YtfhocpplckoodaaGreatDoor
