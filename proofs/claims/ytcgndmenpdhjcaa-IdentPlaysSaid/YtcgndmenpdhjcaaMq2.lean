/- packed -/
import Derived.Test.YtcgndmenpdhjcaaMq1
import Derived.Scope
import Derived.Laws.Cover3
import Derived.Defers
import Derived.Recover
import Derived.Tactics
import Derived.Maps.RangeRun
import Derived.Sort.Row
import Derived.Sort.Grow
import Derived.Test.YtcgndmenpdhjcaaProg
import Derived.Deep.Slices
import Derived.ChangeArms
import Derived.WideShapes
import GoSem.ClaimChange
import Derived.WalkKit
import Derived.WalkSpells
import Derived.WalkLawsBesides
import Derived.Lib.Hide
import Derived.Deep.AppendLies
import Derived.Deep.Draws
import Derived.Maps.AppendAt
import Derived.Laws.OwnMore
set_option linter.unusedSectionVars false
set_option linter.unusedSimpArgs false
set_option linter.unusedVariables false
open Option.some renaming injEq→Xa,inj→XaX
open Prod.mk renaming injEq→Xb
open List renaming getElem?_eq_some_iff→Xc,getElem?_eq_getElem→Xe,getD_eq_getElem?_getD→Xi,getElem?_set→Xq,mem_append→Xt,mem_of_getElem?→Xv,map_cons→Xy,length_map→Xz,eq_nil_of_length_eq_zero→XA,all_eq_true→XB,mem_cons→XC,replicate→XD,length_append→XE,getElem?_cons_zero→XG,flatMap_cons→XI,mem_map→XJ,getElem?_take→XK,append_nil→XL,map_nil→XO,getElem?_eq_none→XS,cons_append→XX,getElem?_map→X4,mem_flatMap→X5,append_assoc→X7,mem_singleton→X9,all_cons→Wc,pairwise_append→We,length_nil→Wf,pairwise_cons→Wg,singleton_append→Wh,range→Wi,map_append→Wk,getElem?_append_left→Wm,mem_filter→Wq,ext_getElem?→Wv,take_left→Wy,map_map→WC,nodup_append→WD,length_singleton→WE,getElem?_append_right→WN,size_toArray→WO,mem_range→WX,nodup_cons→WZ,range'→Xav,take_append_drop→XaJ,nodup_range→XaN,contains_eq_mem→XaS,mapM_cons→Xa3,map_take→Xbb,map_toArray→Xbf
open Option renaming map_eq_some_iff→Xo,map_some→XN,getD_some→WS,map→Xad
open Bool renaming and_eq_true→Xr,false_eq_true→Xw,not_eq_true'→Wn,or_eq_true→WJ,true_or→Xay,or_true→Xbn
open Or renaming inl→Xs,inr→Xu
open Array renaming getElem?_eq_some_iff→Xx,length_toList→XH,getElem?_setIfInBounds_ne→Wt,getD_eq_getD_getElem?→WI,getElem?_modify→W5,getElem?_toList→W9,replicate→XaA,getD→XaF
open Nat renaming zero_add→XF,le_refl→XM,add_zero→XU,add_assoc→Wu,le_max_right→WT,le_max_left→W0,le_trans→W2,lt_of_lt_of_le→W3,sub_self→W6,mul_le_mul_left→Xah,mul_one→XaH,zero_le→XaV,zero_mul→Xbg
open Ne renaming symm→Xag
namespace Go.Proofs.Ytcgndmenpdhjcaa
set_option maxHeartbeats 16000000
set_option maxRecDepth 10000
section
open Go.RowKit
section
variable {P:Program} {O:ZV} {bf:Nat->Bool} {an:Ann} {base:Nat->Prop} {w0:World} {I0:Imm}
structure Door where
 D:List Deferred
 K:List Nat
 X:Nat->Value
def Door.ok (dr:Door) (a:Act):Prop:=a.defers=dr.D/\∀ j ∈ dr.K,a.tmps.getD j undef=dr.X j
def ZbN:Door:=⟨[],[],fun _=>undef⟩
theorem ZdC {a:Act}:ZbN.ok a↔a.defers=[]:=by simp [Door.ok,ZbN]
def StR (dr:Door) (nt:Nat) (base:Nat->Prop) (w0:World) (I0 I:Imm) (β:Bmap) (tm:Tms) (σ:Za) (a:Act) (w:World):Prop :=
 ∃ I' β',I.le I'/\β.le β'/\TR I' β' tm a.tmps/\(dr.ok a/\nt<=a.tmps.size)/\Rel base w0 I0 I' β' σ w
variable {dr:Door}
theorem StR.trans {nt:Nat} {I I1:Imm} {β β1:Bmap} {tm:Tms} {σ:Za} {a:Act} {w:World} (hI:I.le I1) (hβ:β.le β1) (h:StR dr nt base w0 I0 I1 β1 tm σ a w):StR dr nt base w0 I0 I β tm σ a w:=by
 obtain ⟨I',β',h1,h2,h3⟩:=h
 exact ⟨I',β',hI.trans h1,hβ.trans h2,h3⟩
theorem Post.trans {I I1:Imm} {β β1:Bmap} {x:AVal} {σ:Za} {u:Value} {w:World} (hI:I.le I1) (hβ:β.le β1) (h:Post base w0 I0 I1 β1 x σ u w):Post base w0 I0 I β x σ u w:=by
 obtain ⟨I',β',h1,h2,h3⟩:=h
 exact ⟨I',β',hI.trans h1,hβ.trans h2,h3⟩
theorem Zml {I:Imm} {β:Bmap} {tm:Tms} {a:Act} {v:AVal} {u:Value} (T:TR I β tm a.tmps) (hv:VR I β v u) {d:Option Nat} (hd:∀ n,d=some n->n < a.tmps.size):TR I β (tput tm d v) (a.put d u).tmps:=by
 cases d with
 | none=>exact T
 | some d=>exact T.put hv (hd d rfl)
theorem Zgf (a:Act) (d:Option Nat) (u:Value):(a.put d u).defers=a.defers:=by cases d <;> rfl
theorem ZlI {a:Act} {d:Option Nat} {u:Value} (h:dr.ok a) (hd:∀ n,d=some n->n ∉ dr.K):dr.ok (a.put d u):=by
 refine ⟨(Zgf a d u).trans h.1,fun j hj=>?_⟩
 rw [<-h.2 j hj]
 cases d with
 | none=>rfl
 | some n =>
  have hne:n≠j:=by rintro rfl;exact hd n rfl hj
  simp only [Act.put,WI]
  rw [Wt hne]
theorem Zdo (a:Act) (d:Option Nat) (u:Value):(a.put d u).tmps.size=a.tmps.size:=by cases d <;> simp [Act.put]
theorem Zln {I:Imm} {β:Bmap} {tm:Tms} {a:Act} (T:TR I β tm a.tmps) {ops:Array Oper} {o:Oper} {g:Option (Nat×Bool)} (hg:Zgc ops o.guard=some g) {b:Bool} (h:Za7 g tm=some b):Region.wanted o (yielded ops a.tmps)=b:=by
 unfold Zgc at hg
 unfold Region.wanted
 split at hg
 ·rename_i e
  injection hg with hg;subst hg
  simp only [Za7,Xa] at h
  subst h
  rw [e]
 ·rename_i j want e
  split at hg
  ·rename_i o' ho'
   split at hg
   ·rename_i d hd
    injection hg with hg;subst hg
    rw [e]
    show (yielded ops a.tmps j == some want)=b
    have hy:yielded ops a.tmps j=match a.tmps[d]? with | some (.bool b)=>some b | _=>none:=by
     simp only [yielded,ho',Option.bind_some,hd]
     rfl
    rw [hy]
    have hx:=T d
    rw [WI] at hx
    simp only [Za7] at h
    split at h
    ·rename_i b' hb'
     rw [hb'] at hx
     simp only [VR] at hx
     have : a.tmps[d]?=some (.bool b'):=by
      cases hq:a.tmps[d]? with
      | none=>rw [hq] at hx;simp [undef] at hx
      | some q=>rw [hq] at hx;simp at hx;subst hx;rfl
     rw [this]
     simp only [Xa] at h
     subst h
     cases b' <;> cases want <;> rfl
    ·rename_i hb'
     rw [hb'] at hx
     simp only [VR,VRs] at hx
     obtain ⟨us,hus,hnil⟩:=hx
     injection h with h;subst h
     cases hq:a.tmps[d]? with
     | none=>rfl
     | some q =>
      rw [hq] at hus;simp at hus;subst hus
      rfl
    ·cases h
   ·cases hg
  ·cases hg
theorem ZiI {ops:Array Oper} {o:Oper} {ao:AOp} (hc:Zd9 P an ops o=some ao):∃ g i,Zgc ops o.guard=some g/\(∃ own,Z1 P an own o.op=some i)/\(∀ n,o.dst=some n->n < an.nt/\n ∉ an.keep)/\ao=⟨o.dst,i,g,(o.after.toList.filter (Region.binds .any)).map (·.on)⟩:=by
 unfold Zd9 at hc
 split at hc
 ·rename_i g i hg hi
  split at hc
  ·rename_i hd
   injection hc with hc
   refine ⟨g,i,hg,⟨_,hi⟩,fun n hn=>?_,hc.symm⟩
   rw [hn] at hd
   simp only [Zkr,Xr,decide_eq_true_eq,Wn,XaS,decide_eq_false_iff_not] at hd
   exact hd
  ·cases hc
 ·cases hc
theorem Zei (hO:Zao P O) (hkp:∀ n ∈ dr.K,n ∈ an.keep) {ops:Array Oper} {o:Oper} {ao:AOp} (hc:Zd9 P an ops o=some ao) {I:Imm} {β:Bmap} {tm tm':Tms} {σ σ':Za} {a:Act} {w:World} (T:TR I β tm a.tmps) (hd:dr.ok a/\an.nt<=a.tmps.size) (R:Rel base w0 I0 I β σ w) (hb:KLt base w0)
  {sq:Nat} {v:AVal} {c:Cls} (h:ZS O bf ao sq tm σ=some (v,tm',σ',c)) {K:Act->World->Prop} {Q:Exit->Act->World->Prop} (hK:(∀ x,v≠.pan x)->∀ a' w',StR dr an.nt base w0 I0 I β tm' σ' a' w'->K a' w')
  (hQ:∀ x,v=.pan x->∀ u w',Post base w0 I0 I β x σ' u w'->Q (.panic [{ v:=u,recovered:=false }]) a w') :
  if Region.wanted o (yielded ops a.tmps) then o.wp P a w K Q\/(o.asks P a w/\LetsOut Q) else K (a.put o.dst undef) w:=by
 obtain ⟨g,i,hg,⟨own,hi⟩,hdst,rfl⟩:=ZiI hc
 have hdst':∀ n,o.dst=some n->n < a.tmps.size:=fun n hn=>W3 (hdst n hn).1 hd.2
 have hdk:∀ n,o.dst=some n->n ∉ dr.K:=fun n hn hm=>(hdst n hn).2 (hkp n hm)
 unfold ZS at h
 split at h
 ·cases h
 ·rename_i hw
  simp only at hw
  rw [Zln T hg hw]
  simp only [Xa,Xb] at h
  obtain ⟨rfl,rfl,rfl,rfl⟩:=h
  simp only [Xw,if_false]
  exact hK (by simp) _ _ ⟨I,β,Imm.le.refl I,Bmap.le.refl β,Zml T (Zgj I β) hdst',⟨ZlI hd.1 hdk,by rw [Zdo];exact hd.2⟩,R⟩
 ·rename_i hw
  simp only at hw
  rw [Zln T hg hw]
  simp only [if_true]
  split at h
  ·rename_i hf
   split at h
   ·rename_i v' σ1 c' he
    simp only [Xa,Xb] at h
    obtain ⟨rfl,rfl,rfl,rfl⟩:=h
    have hs:nsite i≠0->σ[sq]?=some .free:=by
     intro hn
     simp only [WJ,beq_iff_eq] at hf
     exact Zdi.1 (hf.resolve_left hn)
    rcases ZvR hO hi T R hb hs he with hok | ⟨x,rfl,hpan⟩
    ·refine Xs (hok.wp (fun u w' hp=>?_))
     obtain ⟨I',β',h1,h2,h3,h4⟩:=hp
     refine hK ?_ _ _ ⟨I',β',h1,h2,Zml (T.mono h1 h2) h4 hdst',⟨ZlI hd.1 hdk,by rw [Zdo];exact hd.2⟩,h3⟩
     rintro x rfl
     simp only [VR] at h4
    ·exact Xs (hpan.wp (fun u w' hp=>hQ x rfl u w' hp))
   ·cases h
  ·cases h
theorem Zis (hO:Zao P O) (hkp:∀ n ∈ dr.K,n ∈ an.keep) (hb:KLt base w0) {ops:Array Oper} {Q:Exit->Act->World->Prop}:∀ {l:List Oper} {asl:List AOp} {sq:Nat} {I:Imm} {β:Bmap} {tm tm':Tms} {σ σ':Za} {cs:List Cls} {p:Option AVal} {a:Act} {w:World},ZbB P an ops l=some asl->TR I β tm a.tmps->(dr.ok a/\an.nt<=a.tmps.size)->Rel base w0 I0 I β σ w ->
  ZY O bf asl sq tm σ=some (tm',σ',cs,p)->(p=none->∀ a' w',StR dr an.nt base w0 I0 I β tm' σ' a' w'->Q .normal a' w') ->
  (∀ x,p=some x->∀ a' u w',dr.ok a'->Post base w0 I0 I β x σ' u w'->Q (.panic [{ v:=u,recovered:=false }]) a' w')->wpList P ops Q l a w
 | [],asl,sq,I,β,tm,tm',σ,σ',cs,p,a,w,hc,T,hd,R,h,hQ,_=>by
  simp only [ZbB,Xa] at hc;subst hc
  simp only [ZY,Xa,Xb] at h
  obtain ⟨rfl,rfl,rfl,rfl⟩:=h
  exact wpList_nil (hQ rfl _ _ ⟨I,β,Imm.le.refl I,Bmap.le.refl β,T,hd,R⟩)
 | o::l,asl,sq,I,β,tm,tm',σ,σ',cs,p,a,w,hc,T,hd,R,h,hQ,hP=>by
  simp only [ZbB] at hc
  split at hc
  ·rename_i ao hao
   split at hc
   ·rename_i as' has'
    injection hc with hc;subst hc
    simp only [ZY] at h
    split at h
    ·cases h
    ·rename_i x tm1 σ1 c1 h1
     simp only [Xa,Xb] at h
     obtain ⟨rfl,rfl,rfl,rfl⟩:=h
     have:=Zei (dr:=dr) (K:=wpList P ops Q l) (Q:=Q) hO hkp hao T hd R hb h1 (fun hn=>absurd rfl (hn x)) (fun x' e u w' hp=>by
      injection e with e;subst e
      exact hP x rfl a u w' hd.1 hp)
     unfold wpList
     exact this
    ·rename_i v tm1 σ1 c1 hnp h1
     split at h
     ·cases h
     rename_i tm2 σ2 cs2 p2 h2
     simp only [Xa,Xb] at h
     obtain ⟨rfl,rfl,rfl,rfl⟩:=h
     have:=Zei (dr:=dr) (K:=wpList P ops Q l) (Q:=Q) hO hkp hao T hd R hb h1 (fun _ a' w' hs=>by
      obtain ⟨I',β',g1,g2,g3,g4,g5⟩:=hs
      exact Zis hO hkp hb has' g3 g4 g5 h2 (fun hp a'' w'' hs'=>hQ hp a'' w'' (hs'.trans g1 g2)) (fun x hx a'' u w'' hd' hp=>hP x hx a'' u w'' hd' (hp.trans g1 g2))) (fun x e=>absurd e (fun e=>hnp x e))
     unfold wpList
     exact this
   ·cases hc
  ·cases hc
theorem ZfZ {ops:Array Oper}:∀ {l:List Oper} {asl:List AOp},ZbB P an ops l=some asl->asl.length=l.length/\∀ (i:Nat) (o:Oper),l[i]?=some o->∃ ao,asl[i]?=some ao/\Zd9 P an ops o=some ao
 | [],asl,h=>by simp only [ZbB,Xa] at h;subst h;exact ⟨rfl,fun i o ho=>by simp at ho⟩
 | o::l,asl,h=>by
  simp only [ZbB] at h
  split at h
  ·rename_i ao hao
   split at h
   ·rename_i as' has'
    injection h with h;subst h
    obtain ⟨h1,h2⟩:=ZfZ has'
    refine ⟨by simp [h1],fun i o' ho'=>?_⟩
    cases i with
    | zero=>simp only [XG,Xa] at ho';subst ho';exact ⟨ao,rfl,hao⟩
    | succ i=>simp only [List.getElem?_cons_succ] at ho' ⊢;exact h2 i o' ho'
   ·cases h
  ·cases h
theorem Zjr:∀ (ls acc:List (List Nat)),(∀ j p,p ∈ (acc.getD j [])->True)->(Zbu ls acc).take acc.length=acc/\(Zbu ls acc).length=acc.length+ls.length /\
  ∀ j,j < ls.length->∀ p,p ∈ (Zbu ls acc).getD (acc.length+j) []->p ∈ ls.getD j []\/∃ i ∈ ls.getD j [],i < acc.length+j/\p ∈ (Zbu ls acc).getD i []
 | [],acc,_=>by simp [Zbu]
 | l::ls,acc,_=>by
  obtain ⟨h1,h2,h3⟩:=Zjr ls (acc++[l++l.flatMap fun i=>acc.getD i []]) (fun _ _ _=>trivial)
  simp only [Zbu]
  have hlen:(acc++[l++l.flatMap fun i=>acc.getD i []]).length=acc.length+1:=by simp
  rw [hlen] at h1 h2 h3
  have hpre:∀ i,i < acc.length+1->(Zbu ls (acc++[l++l.flatMap fun i=>acc.getD i []])).getD i []=(acc++[l++l.flatMap fun i=>acc.getD i []]).getD i []:=by
   intro i hi
   have:=congrArg (fun q:List (List Nat)=>q.getD i []) h1
   simp only [Xi,XK,hi,if_true] at this ⊢
   exact this
  refine ⟨?_,by rw [h2];simp;omega,?_⟩
  ·have:=congrArg (List.take acc.length) h1
   rw [List.take_take,Nat.min_eq_left (by omega)] at this
   rw [this];simp
  ·intro j hj p hp
   cases j with
   | zero =>
    rw [XU,hpre _ (by omega)] at hp
    simp only [Xi,WN (XM _),W6,XG,WS,Xt,X5] at hp
    rcases hp with hp | ⟨i,hi,hp⟩
    ·exact Xs (by simpa using hp)
    ·refine Xu ⟨i,by simpa using hi,?_,?_⟩
     ·by_cases hlt:i < acc.length
      ·omega
      ·rw [XS (by omega)] at hp;simp at hp
     ·have hlt:i < acc.length:=by
       by_cases hlt:i < acc.length
       ·exact hlt
       ·rw [XS (by omega)] at hp;simp at hp
      rw [hpre i (by omega)]
      simp only [Xi,Wm hlt]
      exact hp
   | succ j =>
    have:=h3 j (by simpa using hj) p (by rw [show acc.length+1+j=acc.length+(j+1) by omega];exact hp)
    rcases this with h | ⟨i,h4,h5,h6⟩
    ·exact Xs (by simpa using h)
    ·exact Xu ⟨i,by simpa using h4,by omega,h6⟩
theorem Znl (f:Nat->Nat) (p:Nat):∀ (l:List Nat) (m:Nat),(l.foldl (fun m i=>m ||| 2 ^ i ||| f i) m).testBit p=true->m.testBit p=true\/p ∈ l\/∃ i ∈ l,(f i).testBit p=true
 | [],m,h=>Xs h
 | i::l,m,h=>by
  rcases Znl f p l _ h with h | h | ⟨j,h1,h2⟩
  ·simp only [Nat.testBit_or,WJ,Nat.testBit_two_pow,decide_eq_true_eq] at h
   rcases h with (h | h) | h
   ·exact Xs h
   ·exact Xu (Xs (by simp [h]))
   ·exact Xu (Xu ⟨i,by simp,h⟩)
  ·exact Xu (Xs (by simp [h]))
  ·exact Xu (Xu ⟨j,by simp [h1],h2⟩)
theorem Zje:∀ (ls:List (List Nat)) (accM:List Nat) (accL:List (List Nat)),accM.length=accL.length->(∀ j p,(accM.getD j 0).testBit p=true->p ∈ accL.getD j [])->∀ j p,((Zeq ls accM).getD j 0).testBit p=true->p ∈ (Zbu ls accL).getD j []
 | [],accM,accL,_,h=>h
 | l::ls,accM,accL,hl,h=>by
  simp only [Zeq,Zbu]
  refine Zje ls _ _ (by simp [hl]) ?_
  intro j p hp
  by_cases hj:j < accM.length
  ·simp only [Xi,Wm hj] at hp
   simp only [Xi,Wm (show j < accL.length by omega)]
   have:=h j p (by simpa [Xi] using hp)
   simpa [Xi] using this
  ·by_cases hj':j=accM.length
   ·subst hj'
    simp only [Xi,WN (XM _),W6,XG,WS] at hp
    rw [hl]
    simp only [Xi,WN (XM _),W6,XG,WS,Xt,X5]
    rcases Znl _ p l 0 hp with h0 | h0 | ⟨i,h1,h2⟩
    ·simp at h0
    ·exact Xs h0
    ·refine Xu ⟨i,h1,?_⟩
     have:=h i p (by simpa [Xi] using h2)
     simpa [Xi] using this
   ·simp only [Xi] at hp
    rw [XS (by simp;omega)] at hp
    simp at hp
theorem Zli {asl:List AOp} {ps:List (Nat×Nat)} (h:Zdq asl=some ps) :
  (∀ i j,i < j->j < asl.length->i ∉ (Zbu (asl.map (·.after)) []).getD j []->(asl.getD i default).apartT (asl.getD j default)=true/\((asl.getD i default).ins.touches=false\/(asl.getD j default).ins.touches=false\/(i,j) ∈ ps))/\(∀ j,j < asl.length->∀ i ∈ (asl.getD j default).after,i < j):=by
 have hsub:=Zje (asl.map (·.after)) [] [] rfl (by simp)
 unfold Zdq at h
 simp only at h
 split at h
 ·rename_i hc
  simp only [Xr,XB,X5,XJ,Wq,WX,forall_exists_index,and_imp,Wn,decide_eq_true_eq] at hc
  obtain ⟨h1,h2⟩:=hc
  injection h with h
  have hbit:∀ i j,i ∉ (Zbu (asl.map (·.after)) []).getD j []->((Zeq (asl.map (·.after)) []).getD j 0).testBit i=false:=by
   intro i j hn
   cases hb:((Zeq (asl.map (·.after)) []).getD j 0).testBit i with
   | false=>rfl
   | true=>exact absurd (hsub j i hb) hn
  refine ⟨fun i j hij hj hn=>⟨?_,?_⟩,fun j hj i hi=>h2 j hj i hi⟩
  ·exact h1 (i,j) j hj i hij (hbit i j hn) rfl
  ·cases ht1:(asl.getD i default).ins.touches with
   | false=>exact Xs rfl
   | true =>
    cases ht2:(asl.getD j default).ins.touches with
    | false=>exact Xu (Xs rfl)
    | true =>
     refine Xu (Xu ?_)
     rw [<-h]
     rw [Xt]
     refine Xs ?_
     simp only [Wq,X5,XJ,WX,Xr]
     exact ⟨⟨j,hj,i,⟨hij,by rw [hbit i j hn];rfl⟩,rfl⟩,ht1,ht2⟩
 ·cases h
theorem ZAf {asl:List AOp} {ps:List (Nat×Nat)} (h:Zdq asl=some ps) {j:Nat} (hm:(j,j) ∈ ps):∀ k,j < k->k < asl.length->j ∈ (Zbu (asl.map (·.after)) []).getD k []:=by
 have hsub:=Zje (asl.map (·.after)) [] [] rfl (by simp)
 unfold Zdq at h
 simp only at h
 split at h
 ·injection h with h
  rw [<-h,Xt] at hm
  rcases hm with hm | hm
  ·simp only [Wq,X5,XJ,WX,Xb] at hm
   obtain ⟨⟨a,_,b,⟨hb,_⟩,e1,e2⟩,_⟩:=hm
   omega
  ·simp only [XJ,Wq,WX,Xb,and_self,Xr,XB,WJ,decide_eq_true_eq] at hm
   obtain ⟨a,⟨_,_,ha⟩,rfl⟩:=hm
   intro k hk hkl
   rcases ha k hkl with h1 | h1
   ·omega
   ·exact hsub k a h1
 ·cases h
theorem Zwk {asl:List AOp} {ps:List (Nat×Nat)} (h:Zdq asl=some ps) {j:Nat} (hm:(j,j) ∈ ps):(asl.getD j default).ins.touches=true:=by
 unfold Zdq at h
 simp only at h
 split at h
 ·injection h with h
  rw [<-h,Xt] at hm
  rcases hm with hm | hm
  ·simp only [Wq,X5,XJ,WX,Xb] at hm
   obtain ⟨⟨a,_,b,⟨hb,_⟩,e1,e2⟩,_⟩:=hm
   omega
  ·simp only [XJ,Wq,WX,Xb,and_self,Xr] at hm
   obtain ⟨a,⟨_,hc,_⟩,rfl⟩:=hm
   cases hi:(asl.getD a default).ins <;> rw [hi] at hc <;> first | rfl | (simp [ZbT] at hc)
 ·cases h
end
end
section
open Go.RowKit
section
variable {P:Program} {O:ZV} {bf:Nat->Bool} {an:Ann} {base:Nat->Prop} {w0:World} {I0:Imm} {dr:Door}
theorem ZAA {o:AOp} {tm tm1:Tms} {σ σ1:Za} {sq:Nat} {v:AVal} {c:Cls} (ht:o.ins.touches=false) (h:ZS O bf o sq tm σ=some (v,tm1,σ1,c)):c={}:=by
 unfold ZS at h
 split at h
 ·cases h
 ·simp only [Xa,Xb] at h;exact h.2.2.2.symm
 ·split at h
  ·split at h
   ·rename_i he
    simp only [Xa,Xb] at h
    rw [<-h.2.2.2]
    exact (ZsF ht he).1
   ·cases h
  ·cases h
theorem Zfe {i:Ins} (h:i.touches=false):nsite i=0:=by cases i <;> simp [Ins.touches] at h <;> rfl
theorem Ze1 {asl:List AOp} {L:Nat} {cs:List Cls}:∀ {l:List Nat} {tm tm':Tms} {σ σ':Za},ZbU O bf asl L cs l tm σ tm' σ'->∀ j ∈ l,(asl.getD j default).ins.touches=false->cs.getD j {}={}
 | [],_,_,_,_,_,j,hj,_=>by simp at hj
 | i::l,_,_,_,_,h,j,hj,ht=>by
  cases h with
  | cons h1 _ h2 =>
   rcases XC.1 hj with rfl | hj
   ·exact ZAA ht h1
   ·exact Ze1 h2 j hj ht
theorem ZeW (asl:List AOp):∀ {j i:Nat},j < i->i<=asl.length->sitesOf (asl.take j)+nsite (asl.getD j default).ins<=sitesOf (asl.take i):=by
 intro j i hji hi
 induction i with
 | zero=>omega
 | succ i ih =>
  rw [ZjY asl (by omega)]
  by_cases e:j=i
  ·subst e
   simp [Xi,show j < asl.length by omega]
  ·have:=ih (by omega) (by omega);omega
theorem ZwY (hO:Zao P O) (hkp:∀ n ∈ dr.K,n ∈ an.keep) (hb:KLt base w0) {ops:Array Oper} {asl:List AOp} (hcomp:ZbB P an ops ops.toList=some asl) {ps:List (Nat×Nat)} (hps:Zdq asl=some ps) {L:Nat} {cs:List Cls} (hchk:Zcd asl L ps cs=true)
  {tmF:Tms} {σF:Za} {Q:Exit->Act->World->Prop} {I:Imm} {β:Bmap} (hQ:∀ a' w',StR dr an.nt base w0 I0 I β tmF σF a' w'->Q .normal a' w') :
  ∀ (fuel:Nat) (rem:List Nat) (listed:Array Bool) (a:Act) (w:World) (tm:Tms) (σ:Za),ZbU O bf asl L cs rem tm σ tmF σF->rem.Pairwise (· < ·)->(∀ j ∈ rem,j < ops.size)->(∀ j,j < ops.size->(listed.getD j true=true↔j ∉ rem))->listed.size=ops.size ->
   (∀ k,k < ops.size->k ∉ rem->∀ p ∈ (Zbu (asl.map (·.after)) []).getD k [],p ∉ rem)->rem.length=fuel->StR dr an.nt base w0 I0 I β tm σ a w->wpAny P .any ops Q fuel listed a w:=by
 obtain ⟨hlen,hget⟩:=ZfZ hcomp
 obtain ⟨hp1,hp2⟩:=Zli hps
 obtain ⟨_,_,hanc⟩:=Zjr (asl.map (·.after)) [] (fun _ _ _=>trivial)
 simp only [XH] at hlen
 have hafter:∀ j o,ops[j]?=some o->∃ ao,asl.getD j default=ao/\Zd9 P an ops o=some ao/\ao.after=(o.after.toList.filter (Region.binds .any)).map (·.on)/\ao.dst=o.dst:=by
  intro j o ho
  obtain ⟨ao,h1,h2⟩:=hget j o (by simpa using ho)
  refine ⟨ao,by simp [Xi,h1],h2,?_⟩
  obtain ⟨g,i,_,_,_,rfl⟩:=ZiI h2
  exact ⟨rfl,rfl⟩
 intro fuel
 induction fuel with
 | zero =>
  intro rem listed a w tm σ hr hs hlt hl hsz hcl hfl hst
  have : rem=[]:=XA hfl
  subst this
  cases hr
  refine ⟨?_,hQ a w hst⟩
  apply List.eq_nil_iff_forall_not_mem.2
  intro j hj
  rw [mem_ready] at hj
  obtain ⟨h1,o,ho,_⟩:=hj
  have hjl:j < ops.size:=(Xx.1 ho).1
  have:=(hl j hjl).2 (by simp)
  rw [h1] at this;cases this
 | succ fuel ih =>
  intro rem listed a w tm σ hr hs hlt hl hsz hcl hfl hst
  have isRem:∀ j,j < ops.size->listed.getD j true=false->j ∈ rem:=by
   intro j hj h
   by_cases hm:j ∈ rem
   ·exact hm
   ·have:=(hl j hj).2 hm;rw [h] at this;cases this
  have getD_tf:∀ j,j < ops.size->listed.getD j false=listed.getD j true:=by
   intro j hj
   simp [XaF,hsz,hj]
  refine ⟨fun hnil=>?_,fun i hi=>?_⟩
  ·exfalso
   cases rem with
   | nil=>simp at hfl
   | cons r rs =>
    have hrl:r < ops.size:=hlt r (by simp)
    have hro:ops[r]?=some ops[r]:=by simp [hrl]
    obtain ⟨ao,e1,e2,e3,_⟩:=hafter r _ hro
    have : r ∈ Region.ready .any ops listed:=by
     rw [mem_ready]
     refine ⟨?_,ops[r],hro,fun e he hbnd=>?_⟩
     ·cases hq:listed.getD r true with
      | false=>rfl
      | true=>exact absurd (List.mem_cons_self) ((hl r hrl).1 hq)
     ·have hon:e.on ∈ ao.after:=by rw [e3];exact XJ.2 ⟨e,Wq.2 ⟨by simpa using he,hbnd⟩,rfl⟩
      have hlt':e.on < r:=hp2 r (by omega) e.on (by rw [e1];exact hon)
      rw [getD_tf _ (by omega)]
      refine (hl e.on (by omega)).2 (fun hm=>?_)
      rcases XC.1 hm with h | hm
      ·omega
      ·have:=(Wg.1 hs).1 e.on hm;omega
    rw [hnil] at this;simp at this
  ·rw [mem_ready] at hi
   obtain ⟨hi0,o,ho,hpre⟩:=hi
   have hil:i < ops.size:=(Xx.1 ho).1
   have him:=isRem i hil hi0
   obtain ⟨l1,l2,rfl⟩:=List.append_of_mem him
   obtain ⟨ao,e1,e2,e3,e4⟩:=hafter i o ho
   have hdone:∀ p ∈ (asl.getD i default).after,p < ops.size->p ∉ l1++i::l2:=by
    intro p hp hpl
    rw [e1,e3] at hp
    obtain ⟨e,he,rfl⟩:=XJ.1 hp
    obtain ⟨he1,he2⟩:=Wq.1 he
    have:=hpre e (by simpa using he1) he2
    rw [getD_tf _ hpl] at this
    exact (hl e.on hpl).1 this
   have hai:(asl.map (·.after)).getD i []=(asl.getD i default).after:=by
    simp [Xi,show i < asl.length by omega]
   have hanci:∀ p ∈ (Zbu (asl.map (·.after)) []).getD i [],p ∉ l1++i::l2:=by
    intro p hp
    have hap:∀ q,q ∈ (asl.map (·.after)).getD i []->q < i:=fun q hq=>hp2 i (by omega) q (by rw [<-hai];exact hq)
    rcases hanc i (by simp;omega) p (by simpa using hp) with h | ⟨q,h1,h2,h3⟩
    ·exact hdone p (by rw [<-hai];exact h) (by have:=hap p h;omega)
    ·have hql:q < ops.size:=by simp at h2;omega
     exact hcl q hql (hdone q (by rw [<-hai];exact h1) hql) p h3
   have hl1:∀ j ∈ l1,j < i:=by
    intro j hj
    have:=We.1 hs
    exact this.2.2 j hj i (by simp)
   obtain ⟨v1,tm1,σ1,h1,hnp1,h2⟩:=ZjF (l1:=l1) (i:=i) (fun j hj=>by
    have hji:=hl1 j hj
    have hjn:j ∉ (Zbu (asl.map (·.after)) []).getD i []:=fun hm=>hanci j hm (by simp [hj])
    obtain ⟨p1,p2⟩:=hp1 j i hji (by omega) hjn
    refine ⟨p1,?_,fun hn _=>?_,?_⟩
    ·rcases p2 with p2 | p2 | p2
     ·have:=Ze1 hr j (by simp [hj]) p2
      have hem:Zbv (asl.getD j default) (cs.getD j {})=true:=by rw [this];simp only [Zbv,Zfe p2];rfl
      simp only [ZbQ,hem,Xay]
     ·have:=Ze1 hr i (by simp) p2
      have hem:Zbv (asl.getD i default) (cs.getD i {})=true:=by rw [this];simp only [Zbv,Zfe p2];rfl
      simp only [ZbQ,hem,Xay,Xbn]
     ·have:=XB.1 hchk (j,i) p2
      simp only [WJ,beq_iff_eq] at this
      rcases this with h | h
      ·omega
      ·exact h
    ·have:=ZeW asl hji (by omega)
     omega
    ·have:=ZeW asl hji (by omega)
     omega) hr
   unfold wpOp
   rw [ho]
   rw [e1] at h1
   obtain ⟨I',β',g1,g2,g3,g4,g5⟩:=hst
   refine Zei hO hkp e2 g3 g4 g5 hb h1 (fun _ a' w' hs'=>ih (l1++l2) _ a' w' tm1 σ1 h2 ?_ ?_ ?_ (by simpa using hsz) ?_ ?_ (hs'.trans g1 g2)) (fun x e=>absurd e (hnp1 x))
   ·have:=We.1 hs
    exact We.2 ⟨this.1,(Wg.1 this.2.1).2,fun x hx y hy=>this.2.2 x hx y (by simp [hy])⟩
   ·intro j hj
    refine hlt j ?_
    simp only [Xt,XC] at hj ⊢
    rcases hj with h | h
    ·exact Xs h
    ·exact Xu (Xu h)
   ·intro j hj
    have hs1:=We.1 hs
    by_cases hij:i=j
    ·subst hij
     have hn:i ∉ l1++l2:=by
      intro hm
      rcases Xt.1 hm with h | h
      ·have:=hl1 i h;omega
      ·have:=(Wg.1 hs1.2.1).1 i h;omega
     simp [XaF,hsz,hil,hn]
    ·rw [getD_set_ne true hij,hl j hj]
     simp only [Xt,XC,not_or]
     constructor
     ·rintro ⟨a1,_,a3⟩;exact ⟨a1,a3⟩
     ·rintro ⟨a1,a3⟩;exact ⟨a1,fun e=>hij e.symm,a3⟩
   ·intro k hk hkn p hp hm
    have hsub:p ∈ l1++i::l2:=by
     simp only [Xt,XC] at hm ⊢
     rcases hm with h | h
     ·exact Xs h
     ·exact Xu (Xu h)
    by_cases hki:k=i
    ·subst hki;exact hanci p hp hsub
    ·refine hcl k hk (fun hkm=>hkn ?_) p hp hsub
     simp only [Xt,XC] at hkm ⊢
     rcases hkm with h | h | h
     ·exact Xs h
     ·exact absurd h hki
     ·exact Xu h
   ·simp at hfl ⊢;omega
theorem Zzf (hO:Zao P O) (hkp:∀ n ∈ dr.K,n ∈ an.keep) (hb:KLt base w0) {ops:Array Oper} {asl:List AOp} (hcomp:ZbB P an ops ops.toList=some asl) {ps:List (Nat×Nat)} (hps:Zdq asl=some ps) {L:Nat} {cs:List Cls} {jp:Nat} (hjl:jp < ops.size) (hmark:(jp,jp) ∈ ps) (hmarkT:(asl.getD jp default).ins.touches=true) (hfree:∀ j i,(j,i) ∈ ps->j < i->i<=jp->ZbQ (asl.getD j default) (asl.getD i default) (cs.getD j {}) (cs.getD i {}) (L+sitesOf (asl.take j))=true) (hquiet:∀ j,(j,jp) ∈ ps->j < jp->Zb8 (asl.getD j default).ins=true)
  {x:AVal} {σF:Za} {Q:Exit->Act->World->Prop} {I:Imm} {β:Bmap} (hQ:∀ a' u w',dr.ok a'->Post base w0 I0 I β x σF u w'->Q (.panic [{ v:=u,recovered:=false }]) a' w') :
  ∀ (fuel:Nat) (pre post:List Nat) (listed:Array Bool) (a:Act) (w:World) (tm tmJ tmX:Tms) (σ σJ:Za),ZbU O bf asl L cs pre tm σ tmJ σJ->ZS O bf (asl.getD jp default) (L+sitesOf (asl.take jp)) tmJ σJ=some (.pan x,tmX,σF,cs.getD jp {})->(pre++jp::post).Pairwise (· < ·)->(∀ j ∈ pre++jp::post,j < ops.size)->(∀ j,j < ops.size->(listed.getD j true=true↔j ∉ pre++jp::post))->listed.size=ops.size ->
   (∀ k,k < ops.size->k ∉ pre++jp::post->∀ p ∈ (Zbu (asl.map (·.after)) []).getD k [],p ∉ pre++jp::post)->(pre++jp::post).length=fuel->StR dr an.nt base w0 I0 I β tm σ a w->wpAny P .any ops Q fuel listed a w:=by
 obtain ⟨hlen,hget⟩:=ZfZ hcomp
 obtain ⟨hp1,hp2⟩:=Zli hps
 have hmk:=ZAf hps hmark
 obtain ⟨_,_,hanc⟩:=Zjr (asl.map (·.after)) [] (fun _ _ _=>trivial)
 simp only [XH] at hlen
 have hafter:∀ j o,ops[j]?=some o->∃ ao,asl.getD j default=ao/\Zd9 P an ops o=some ao/\ao.after=(o.after.toList.filter (Region.binds .any)).map (·.on)/\ao.dst=o.dst:=by
  intro j o ho
  obtain ⟨ao,h1,h2⟩:=hget j o (by simpa using ho)
  refine ⟨ao,by simp [Xi,h1],h2,?_⟩
  obtain ⟨g,i,_,_,_,rfl⟩:=ZiI h2
  exact ⟨rfl,rfl⟩
 intro fuel
 induction fuel with
 | zero =>
  intro pre post listed a w tm tmJ tmX σ σJ hr hj hs hlt hl hsz hcl hfl hst
  simp at hfl
 | succ fuel ih =>
  intro pre post listed a w tm tmJ tmX σ σJ hr hj hs hlt hl hsz hcl hfl hst
  have getD_tf:∀ j,j < ops.size->listed.getD j false=listed.getD j true:=by
   intro j hj
   simp [XaF,hsz,hj]
  have isRem:∀ j,j < ops.size->listed.getD j true=false->j ∈ pre++jp::post:=by
   intro j hj h
   by_cases hm:j ∈ pre++jp::post
   ·exact hm
   ·have:=(hl j hj).2 hm;rw [h] at this;cases this
  refine ⟨fun hnil=>?_,fun i hi=>?_⟩
  ·exfalso
   obtain ⟨r,rs,hrr⟩:∃ r rs,pre++jp::post=r::rs:=by cases pre <;> simp
   rw [hrr] at hs hlt hl
   have hrl:r < ops.size:=hlt r (by simp)
   have hro:ops[r]?=some ops[r]:=by simp [hrl]
   obtain ⟨ao,e1,e2,e3,_⟩:=hafter r _ hro
   have : r ∈ Region.ready .any ops listed:=by
    rw [mem_ready]
    refine ⟨?_,ops[r],hro,fun e he hbnd=>?_⟩
    ·cases hq:listed.getD r true with
     | false=>rfl
     | true=>exact absurd (List.mem_cons_self) ((hl r hrl).1 hq)
    ·have hon:e.on ∈ ao.after:=by rw [e3];exact XJ.2 ⟨e,Wq.2 ⟨by simpa using he,hbnd⟩,rfl⟩
     have hlt':e.on < r:=hp2 r (by omega) e.on (by rw [e1];exact hon)
     rw [getD_tf _ (by omega)]
     refine (hl e.on (by omega)).2 (fun hm=>?_)
     rcases XC.1 hm with h | hm
     ·omega
     ·have:=(Wg.1 hs).1 e.on hm;omega
   rw [hnil] at this;simp at this
  ·rw [mem_ready] at hi
   obtain ⟨hi0,o,ho,hpre⟩:=hi
   have hil:i < ops.size:=(Xx.1 ho).1
   have him:=isRem i hil hi0
   obtain ⟨ao,e1,e2,e3,e4⟩:=hafter i o ho
   have hdone:∀ p ∈ (asl.getD i default).after,p < ops.size->p ∉ pre++jp::post:=by
    intro p hp hpl
    rw [e1,e3] at hp
    obtain ⟨e,he,rfl⟩:=XJ.1 hp
    obtain ⟨he1,he2⟩:=Wq.1 he
    have:=hpre e (by simpa using he1) he2
    rw [getD_tf _ hpl] at this
    exact (hl e.on hpl).1 this
   have hai:(asl.map (·.after)).getD i []=(asl.getD i default).after:=by
    simp [Xi,show i < asl.length by omega]
   have hanci:∀ p ∈ (Zbu (asl.map (·.after)) []).getD i [],p ∉ pre++jp::post:=by
    intro p hp
    have hap:∀ q,q ∈ (asl.map (·.after)).getD i []->q < i:=fun q hq=>hp2 i (by omega) q (by rw [<-hai];exact hq)
    rcases hanc i (by simp;omega) p (by simpa using hp) with h | ⟨q,h1,h2,h3⟩
    ·exact hdone p (by rw [<-hai];exact h) (by have:=hap p h;omega)
    ·have hql:q < ops.size:=by simp at h2;omega
     exact hcl q hql (hdone q (by rw [<-hai];exact h1) hql) p h3
   have hss:=We.1 hs
   rw [Xt,XC] at him
   rcases him with him | hij | him
   ·obtain ⟨l1,l2,rfl⟩:=List.append_of_mem him
    have hl1:∀ j ∈ l1,j < i:=by
     intro j hj
     exact (We.1 hss.1).2.2 j hj i (by simp)
    have hijp:i < jp:=hss.2.2 i (by simp) jp (by simp)
    obtain ⟨v1,tm1,σ1,h1,hnp1,h2⟩:=ZjF (l1:=l1) (i:=i) (fun j hj'=>by
     have hji:=hl1 j hj'
     have hjn:j ∉ (Zbu (asl.map (·.after)) []).getD i []:=fun hm=>hanci j hm (by simp [hj'])
     obtain ⟨p1,p2⟩:=hp1 j i hji (by omega) hjn
     refine ⟨p1,?_,fun hn _=>?_,?_⟩
     ·rcases p2 with p2 | p2 | p2
      ·have:=Ze1 hr j (by simp [hj']) p2
       have hem:Zbv (asl.getD j default) (cs.getD j {})=true:=by rw [this];simp only [Zbv,Zfe p2];rfl
       simp only [ZbQ,hem,Xay]
      ·have:=Ze1 hr i (by simp) p2
       have hem:Zbv (asl.getD i default) (cs.getD i {})=true:=by rw [this];simp only [Zbv,Zfe p2];rfl
       simp only [ZbQ,hem,Xay,Xbn]
      ·exact hfree j i p2 hji (by omega)
     ·have:=ZeW asl hji (by omega)
      omega
     ·have:=ZeW asl hji (by omega)
      omega) hr
    have eA:(l1++i::l2)++jp::post=l1++i::(l2++jp::post):=by simp
    have eB:(l1++l2)++jp::post=l1++(l2++jp::post):=by simp
    rw [eA] at hs hlt hl hcl hanci hfl
    unfold wpOp
    rw [ho]
    rw [e1] at h1
    obtain ⟨I',β',g1,g2,g3,g4,g5⟩:=hst
    refine Zei hO hkp e2 g3 g4 g5 hb h1 (fun _ a' w' hs'=>ih (l1++l2) post _ a' w' tm1 tmJ tmX σ1 σJ h2 hj ?_ ?_ ?_ (by simpa using hsz) ?_ ?_ (hs'.trans g1 g2)) (fun x e=>absurd e (hnp1 x))
    ·rw [eB]
     have:=We.1 hs
     exact We.2 ⟨this.1,(Wg.1 this.2.1).2,fun x hx y hy=>this.2.2 x hx y (by simp only [XC];exact Xu hy)⟩
    ·intro j hj
     rw [eB] at hj
     refine hlt j ?_
     simp only [Xt,XC] at hj ⊢
     rcases hj with h | h | h | h
     ·exact Xs h
     ·exact Xu (Xu (Xs h))
     ·exact Xu (Xu (Xu (Xs h)))
     ·exact Xu (Xu (Xu (Xu h)))
    ·intro j hj
     rw [eB]
     generalize l2++jp::post=L2 at *
     have hs1:=We.1 hs
     by_cases hij:i=j
     ·subst hij
      have hn:i ∉ l1++L2:=by
       intro hm
       rcases Xt.1 hm with h | h
       ·have:=hl1 i h;omega
       ·have:=(Wg.1 hs1.2.1).1 i h;omega
      simp [XaF,hsz,hil,hn]
     ·rw [getD_set_ne true hij,hl j hj]
      simp only [Xt,XC,not_or]
      constructor
      ·rintro ⟨a1,_,a3⟩;exact ⟨a1,a3⟩
      ·rintro ⟨a1,a3⟩;exact ⟨a1,fun e=>hij e.symm,a3⟩
    ·intro k hk hkn p hp hm
     rw [eB] at hkn hm
     generalize l2++jp::post=L2 at *
     have hsub:p ∈ l1++i::L2:=by
      simp only [Xt,XC] at hm ⊢
      rcases hm with h | h
      ·exact Xs h
      ·exact Xu (Xu h)
     by_cases hki:k=i
     ·subst hki;exact hanci p hp hsub
     ·refine hcl k hk (fun hkm=>hkn ?_) p hp hsub
      simp only [Xt,XC] at hkm ⊢
      rcases hkm with h | h | h
      ·exact Xs h
      ·exact absurd h hki
      ·exact Xu h
    ·rw [eB];simp at hfl ⊢;omega
   ·subst hij
    have hl1:∀ j ∈ pre,j < i:=fun j hj=>hss.2.2 j hj i (by simp)
    obtain ⟨tm1,h1⟩:=Zm6 (l1:=pre) (i:=i) (fun j hj'=>by
     have hji:=hl1 j hj'
     have hjn:j ∉ (Zbu (asl.map (·.after)) []).getD i []:=fun hm=>hanci j hm (by simp [hj'])
     obtain ⟨p1,p2⟩:=hp1 j i hji (by omega) hjn
     have hts:(asl.getD i default).ins.touches=false->False:=fun h=>by
      have:=hmarkT
      rw [h] at this;cases this
     refine ⟨?_,p1,?_,fun hn _=>?_,?_⟩
     ·rcases p2 with p2 | p2 | p2
      ·exact Xs p2
      ·exact (hts p2).elim
      ·exact Xu (hquiet j p2 hji)
     ·rcases p2 with p2 | p2 | p2
      ·have:=Ze1 hr j hj' p2
       have hem:Zbv (asl.getD j default) (cs.getD j {})=true:=by rw [this];simp only [Zbv,Zfe p2];rfl
       simp only [ZbQ,hem,Xay]
      ·exact (hts p2).elim
      ·exact hfree j i p2 hji (XM _)
     ·have:=ZeW asl hji (by omega)
      omega
     ·have:=ZeW asl hji (by omega)
      omega) hr hj
    unfold wpOp
    rw [ho]
    rw [e1] at h1
    obtain ⟨I',β',g1,g2,g3,g4,g5⟩:=hst
    refine Zei hO hkp e2 g3 g4 g5 hb h1 (fun hn=>absurd rfl (hn x)) (fun x' e u w' hp=>?_)
    injection e with e
    subst e
    exact hQ a u w' g4.1 (hp.trans g1 g2)
   ·exfalso
    have hlt2:jp < i:=(Wg.1 hss.2.1).1 i him
    exact hanci jp (hmk i hlt2 (by omega)) (by simp)
theorem Rel.reserve {I:Imm} {β:Bmap} {σ:Za} {w:World} (R:Rel base w0 I0 I β σ w) (n:Nat):Rel base w0 I0 I β (σ++XD n .free) w:=by
 have look:∀ t x,(σ++XD n Z0.free)[t]?=some x->σ[t]?=some x\/(σ.length<=t/\x=.free):=by
  intro t x h
  by_cases ht:t < σ.length
  ·rw [Wm ht] at h;exact Xs h
  ·rw [WN (by omega)] at h
   refine Xu ⟨by omega,?_⟩
   have:=Xv h
   exact List.eq_of_mem_replicate this
 refine ⟨R.below,R.old,R.imm,?_,?_,?_,?_,?_,?_,R.glob⟩
 ·intro t x h
  rcases look t x h with h | ⟨_,rfl⟩
  ·exact R.blk t x h
  ·trivial
 ·intro t x b h hb
  rcases look t x h with h | ⟨_,rfl⟩
  ·exact R.own t x b h hb
  ·cases hb
 ·intro t x t' x' b h h' hb hb'
  rcases look t x h with h | ⟨_,rfl⟩
  ·rcases look t' x' h' with h' | ⟨_,rfl⟩
   ·exact R.apart t x t' x' b h h' hb hb'
   ·cases hb'
  ·cases hb
 ·intro t g h
  exact R.fresh t g (by simp at h;omega)
 ·intro t g h
  rcases look t _ h with h | ⟨h,_⟩
  ·exact R.free t g h
  ·exact R.fresh t g h
 ·intro t x g h hg
  rcases look t _ h with h | ⟨h,_⟩
  ·exact R.gen t x g h hg
  ·exact R.fresh t g h
theorem StR.keep {I:Imm} {β:Bmap} {tm:Tms} {σ:Za} {a:Act} {w:World} (h:StR dr an.nt base w0 I0 I β tm σ a w) (live:List Nat):StR dr an.nt base w0 I0 I β (keepL live tm) σ a w:=by
 obtain ⟨I',β',h1,h2,h3,h4⟩:=h
 exact ⟨I',β',h1,h2,h3.keep live,h4⟩
def ZzF (dr:Door) (an:Ann) (base:Nat->Prop) (w0:World) (I0 I:Imm) (β:Bmap) (e:ZaB) (tm:Tms) (σ:Za) (Q:Exit->Act->World->Prop):Prop:=match e with
 | .normal=>∀ a w,StR dr an.nt base w0 I0 I β tm σ a w->Q .normal a w
 | .exit id=>∀ a w,StR dr an.nt base w0 I0 I β tm σ a w->Q (.exit id) a w
 | .ret=>∀ a w,StR dr an.nt base w0 I0 I β tm σ a w->Q .ret a w
 | .panic x=>∀ a u w,dr.ok a->Post base w0 I0 I β x σ u w->Q (.panic [{ v:=u,recovered:=false }]) a w
theorem ZwB (hO:Zao P O) (hkp:∀ n ∈ dr.K,n ∈ an.keep) (hm:P.follows .mixedOrders=true) (hb:KLt base w0) {id:Nat} {ops:Array Oper} {draw:Bool} {asl:List AOp} {chk:Option (List (Nat×Nat))} {live:List Nat} (hc:ZaE P an (.region id ops draw)=.region asl chk live) {I:Imm} {β:Bmap} {tm tm':Tms} {σ σ':Za} {a:Act} {w:World} {e:ZaB}
  (hst:StR dr an.nt base w0 I0 I β tm σ a w) (h:ZbL O bf asl chk live tm σ=some (e,tm',σ')) {Q:Exit->Act->World->Prop} (hQ:ZzF dr an base w0 I0 I β e tm' σ' Q):(Code.region id ops draw).wp P Q a w:=by
 obtain ⟨I1,β1,g1,g2,g3,g4,g5⟩:=hst
 simp only [ZaE] at hc
 split at hc
 ·rename_i l hl
  unfold ZbL at h
  split at hc
  ·rename_i hd
   subst hd
   split at hc
   ·rename_i ps hps
    simp only [Zs.region.injEq] at hc
    obtain ⟨rfl,rfl,rfl⟩:=hc
    cases hrun:ZY O bf l σ.length tm (σ++XD (sitesOf l) .free) with
    | none=>rw [hrun] at h;simp only [ZcF] at h;cases h
    | some q =>
     obtain ⟨tm1,σ1,cs,p⟩:=q
     rw [hrun] at h
     cases p with
     | some x =>
      simp only [ZcF] at h
      split at h
      ·rename_i hpan
       simp only [Xa,Xb] at h
       obtain ⟨rfl,rfl,rfl⟩:=h
       have hlen:=(ZfZ hl).1
       simp only [XH] at hlen
       obtain ⟨n,tmJ,σJ,tmX,q1,q2,q3,q4⟩:=ZmI (O:=O) (bf:=bf) (ops:=l) (L:=σ.length) l.length 0 (cs:=cs) (cs':=cs) (by omega) (by simpa [sitesOf] using hrun) (fun j=>by simp)
       rw [XF] at q4
       unfold Zej at hpan
       rw [q2] at hpan
       simp only [Xr,List.any_eq_true,XB,WJ,beq_iff_eq,decide_eq_true_eq,Nat.add_sub_cancel] at hpan
       obtain ⟨⟨pm,hpm,hm1,hm2⟩,hall⟩:=hpan
       have hmk:(n,n) ∈ ps:=by
        obtain ⟨a1,a2⟩:=pm
        simp only at hm1 hm2
        subst hm1 hm2
        exact hpm
       have hT:(l.getD n default).ins.touches=true:=Zwk hps hmk
       refine wp_region_any hm (Zzf hO hkp hb hl hps (jp:=n) (by omega) hmk hT (fun j i hji h1 h2=>?_) (fun j hj h1=>?_) (I:=I) (β:=β) (x:=x) (fun a' u w' hd' hp=>hQ a' u w' hd' hp) ops.size (Xav 0 n) (Xav (n+1) (l.length - n - 1)) _ a _ tm tmJ tmX _ σJ q3 q4 ?_ ?_ ?_ (by simp) ?_ (by simp;omega) ⟨I1,β1,g1,g2,g3,g4,(g5.reserve _).same rfl rfl rfl rfl⟩)
       ·rcases hall (j,i) hji with (h | h) | ⟨h,_⟩
        ·simp only at h;omega
        ·simp only at h;omega
        ·exact h
       ·rcases hall (j,n) hj with (h | h) | ⟨_,h⟩
        ·simp only at h;omega
        ·simp only at h;omega
        ·rcases h with h | h
         ·simp only at h;omega
         ·exact h
       ·have e:Xav 0 n++n::Xav (n+1) (l.length - n - 1)=Xav 0 l.length:=by
         rw [<-List.range'_succ]
         have:=List.range'_append_1 (s:=0) (m:=n) (n:=l.length - n - 1+1)
         rw [XF] at this
         rw [this]
         congr 1
         omega
        rw [e];exact List.pairwise_lt_range'
       ·intro j hj;simp at hj;omega
       ·intro j hj
        simp [XaF,hj]
        omega
       ·intro k hk hkn
        exact absurd (by simp;omega) hkn
      ·cases h
     | none =>
      simp only [ZcF] at h
      split at h
      ·rename_i hchk
       simp only [Xa,Xb] at h
       obtain ⟨rfl,rfl,rfl⟩:=h
       have hlen:=(ZfZ hl).1
       simp only [XH] at hlen
       have hr:=Zj9 (O:=O) (bf:=bf) (ops:=l) (L:=σ.length) l.length 0 (cs:=cs) (cs':=cs) (by omega) (by simpa [sitesOf] using hrun) (fun j=>by simp)
       refine wp_region_any hm (ZwY hO hkp hb hl hps hchk (I:=I) (β:=β) (fun a' w' hs=>hQ a' w' (hs.keep _)) ops.size (Xav 0 l.length) _ a _ tm _ hr ?_ ?_ ?_ (by simp) ?_ (by simp [hlen]) ⟨I1,β1,g1,g2,g3,g4,(g5.reserve _).same rfl rfl rfl rfl⟩)
       ·exact List.pairwise_lt_range'
       ·intro j hj;simp at hj;omega
       ·intro j hj
        simp [XaF,hj,hlen]
       ·intro k hk hkn
        exact absurd (by simp;omega) hkn
      ·cases h
   ·cases hc
  ·rename_i hd
   simp only [Zs.region.injEq] at hc
   obtain ⟨rfl,rfl,rfl⟩:=hc
   have hdf:draw=false:=by cases draw <;> simp_all
   subst hdf
   cases hrun:ZY O bf l σ.length tm (σ++XD (sitesOf l) .free) with
   | none=>rw [hrun] at h;simp only [ZcF] at h;cases h
   | some q =>
    obtain ⟨tm1,σ1,cs,p⟩:=q
    rw [hrun] at h
    cases p with
    | none =>
     simp only [ZcF,Xa,Xb] at h
     obtain ⟨rfl,rfl,rfl⟩:=h
     exact wp_region_list (Zis hO hkp hb hl g3 g4 (g5.reserve _) hrun (fun _ a' w' hs=>hQ a' w' ((hs.trans g1 g2).keep _)) (fun x hx=>by cases hx))
    | some x =>
     simp only [ZcF,Xa,Xb] at h
     obtain ⟨rfl,rfl,rfl⟩:=h
     exact wp_region_list (Zis hO hkp hb hl g3 g4 (g5.reserve _) hrun (fun hx=>by cases hx) (fun x' hx a' u w' hd' hp=>by
      injection hx with hx;subst hx
      exact hQ a' u w' hd' (hp.trans g1 g2)))
 ·cases hc
end
end
section
open Go.RowKit
section
variable {P:Program} {O:ZV} {bf:Nat->Bool} {an:Ann} {base:Nat->Prop} {w0:World} {I0:Imm} {dr:Door}
def StF (dr:Door) (m nt:Nat) (base:Nat->Prop) (w0:World) (I0 I:Imm) (β:Bmap) (tm:Tms) (σ:Za) (a:Act) (w:World):Prop :=
 ∃ I' β',I.le I'/\KeptE m β β'/\TR I' β' tm a.tmps/\(dr.ok a/\nt<=a.tmps.size)/\Rel base w0 I0 I' β' σ w
def Zqx (dr:Door) (m:Nat) (an:Ann) (base:Nat->Prop) (w0:World) (I0 I:Imm) (β:Bmap) (e:ZaB) (tm:Tms) (σ:Za) (Q:Exit->Act->World->Prop):Prop:=match e with
 | .normal=>∀ a w,StF dr m an.nt base w0 I0 I β tm σ a w->Q .normal a w
 | .exit id=>∀ a w,StF dr m an.nt base w0 I0 I β tm σ a w->Q (.exit id) a w
 | .ret=>∀ a w,StF dr m an.nt base w0 I0 I β tm σ a w->Q .ret a w
 | .panic x=>∀ a u w,dr.ok a->Zbh m base w0 I0 I β (.pan x) σ u w->Q (.panic [{ v:=u,recovered:=false }]) a w
theorem StF.cond {m:Nat} {I:Imm} {β:Bmap} {tm:Tms} {σ:Za} {a:Act} {w:World} (h:StF dr m an.nt base w0 I0 I β tm σ a w) {c:Operand} {y:Opd} (hc:Z6 c=some y) {b:Bool} (hv:y.ev tm=.bool b):a.eval c=.bool b:=by
 obtain ⟨I',β',_,_,T,_,_⟩:=h
 have:=Z7 T hc
 rw [hv] at this
 simpa only [VR] using this
theorem ZhG (hO:Zao P O) (hkp:∀ n ∈ dr.K,n ∈ an.keep) (hm:P.follows .mixedOrders=true) (hb:KLt base w0) (m n:Nat):∀ {c:Code} {ac:Zs},ZaE P an c=ac->∀ {I:Imm} {β:Bmap} {tm tm':Tms} {σ σ':Za} {a:Act} {w:World} {e:ZaB},StF dr m an.nt base w0 I0 I β tm σ a w->Z2 O bf m n ac tm σ=some (e,tm',σ') ->
  ∀ {Q:Exit->Act->World->Prop},Zqx dr m an base w0 I0 I β e tm' σ' Q->c.wp P Q a w:=by
 intro c
 induction c with
 | skip =>
  intro ac hc I β tm tm' σ σ' a w e hst h Q hQ
  simp only [ZaE] at hc;subst hc
  simp only [Z2,Xa,Xb] at h
  obtain ⟨rfl,rfl,rfl⟩:=h
  exact wp_skip (hQ a w hst)
 | region id ops draw =>
  intro ac hc I β tm tm' σ σ' a w e hst h Q hQ
  obtain ⟨asl,chk,live,rfl⟩:∃ asl chk live,ac=.region asl chk live:=by
   simp only [ZaE] at hc
   split at hc
   ·split at hc
    ·split at hc
     ·exact ⟨_,_,_,hc.symm⟩
     ·subst hc;simp only [Z2] at h;cases h
    ·exact ⟨_,_,_,hc.symm⟩
   ·subst hc;simp only [Z2] at h;cases h
  simp only [Z2] at h
  obtain ⟨I1,β1,g1,g2,g3,g4,g5⟩:=hst
  have up:∀ {tm:Tms} {σ:Za} {a':Act} {w':World},StR dr an.nt base w0 I0 I1 β1 tm σ a' w'->StF dr m an.nt base w0 I0 I β tm σ a' w':=by
   rintro tm σ a' w' ⟨I2,β2,k1,k2,k3⟩
   exact ⟨I2,β2,g1.trans k1,g2.trans (KeptE.of_le k2),k3⟩
  refine ZwB hO hkp hm hb hc (⟨I1,β1,Imm.le.refl I1,Bmap.le.refl β1,g3,g4,g5⟩:StR dr an.nt base w0 I0 I1 β1 tm σ a w) h ?_
  cases e with
  | normal=>exact fun a' w' hs=>hQ a' w' (up hs)
  | exit id=>exact fun a' w' hs=>hQ a' w' (up hs)
  | ret=>exact fun a' w' hs=>hQ a' w' (up hs)
  | panic x =>
   rintro a' u w' hd ⟨I2,β2,k1,k2,k3,k4⟩
   exact hQ a' u w' hd ⟨I2,β2,g1.trans k1,g2.trans (KeptE.of_le k2),k3,k4⟩
 | seq x y ihx ihy =>
  intro ac hc I β tm tm' σ σ' a w e hst h Q hQ
  simp only [ZaE] at hc
  subst hc
  simp only [Z2] at h
  refine wp_seq ?_
  split at h
  ·rename_i tm1 σ1 h1
   exact ihx rfl hst h1 (fun a' w' hs=>ihy rfl hs h hQ)
  ·rename_i hne
   refine ihx rfl hst h ?_
   cases e with
   | normal=>exact absurd h (hne _ _)
   | exit id=>exact hQ
   | ret=>exact hQ
   | panic x=>exact hQ
 | cond c x y ihx ihy =>
  intro ac hc I β tm tm' σ σ' a w e hst h Q hQ
  simp only [ZaE] at hc
  split at hc
  ·rename_i c' hcc
   subst hc
   simp only [Z2] at h
   split at h
   ·rename_i hv
    exact wp_cond_true (hst.cond hcc hv) (ihx rfl hst h hQ)
   ·rename_i hv
    exact wp_cond_false (hst.cond hcc hv) (ihy rfl hst h hQ)
   ·cases h
  ·subst hc;simp only [Z2] at h;cases h
 | block id x ih =>
  intro ac hc I β tm tm' σ σ' a w e hst h Q hQ
  simp only [ZaE] at hc
  subst hc
  have hx:ZaE P an x=ZaE P an x:=rfl
  simp only [Z2] at h
  refine wp_block ?_
  split at h
  ·rename_i i tm1 σ1 h1
   refine ih hx hst h1 ?_
   intro a' w' hs
   simp only [Exit.inBlock]
   split at h
   ·rename_i hid
    simp only [Xa,Xb] at h
    obtain ⟨rfl,rfl,rfl⟩:=h
    rw [if_pos hid]
    exact hQ a' w' hs
   ·rename_i hid
    simp only [Xa,Xb] at h
    obtain ⟨rfl,rfl,rfl⟩:=h
    rw [if_neg hid]
    exact hQ a' w' hs
  ·rename_i hne
   refine ih hx hst h ?_
   cases e with
   | normal=>exact hQ
   | exit id=>exact absurd h (hne _ _ _)
   | ret=>exact hQ
   | panic x=>exact hQ
 | loop x ih =>
  intro ac hc I β tm tm' σ σ' a w e hst h Q hQ
  simp only [ZaE] at hc
  subst hc
  have hx:ZaE P an x=ZaE P an x:=rfl
  simp only [Z2] at h
  refine wp_loop_rounds n ?_
  have key:∀ k {tm:Tms} {σ:Za} {a:Act} {w:World},StF dr m an.nt base w0 I0 I β tm σ a w->Zce m (an.ll (Zdd x)) (Z2 O bf m n (ZaE P an x)) k tm σ=some (e,tm',σ')->Code.rounds P x Q k a w:=by
   intro k
   induction k with
   | zero=>intro tm σ a w _ h;simp only [Zce] at h;cases h
   | succ k ihk =>
    intro tm σ a w hst h
    rw [rounds_succ]
    simp only [Zce] at h
    obtain ⟨I1,β1,k1,k2,k3,k4,k5⟩:=hst
    obtain ⟨β2,q1,q2,q3⟩:=Zjc k5 (k3.keep (an.ll (Zdd x))) m
    have hst0:StF dr m an.nt base w0 I0 I β (gcT m (keepL (an.ll (Zdd x)) tm) σ).1 (gcT m (keepL (an.ll (Zdd x)) tm) σ).2 a w:=⟨I1,β2,k1,k2.trans q1,q3,k4,q2⟩
    split at h
    ·rename_i tm1 σ1 h1
     exact ih hx hst0 h1 (fun a' w' hs=>ihk hs h)
    ·rename_i hne
     refine ih hx hst0 h ?_
     cases e with
     | normal=>exact absurd h (hne _ _)
     | exit id=>exact hQ
     | ret=>exact hQ
     | panic x=>exact hQ
  exact key n hst h
 | exit id =>
  intro ac hc I β tm tm' σ σ' a w e hst h Q hQ
  simp only [ZaE] at hc;subst hc
  simp only [Z2,Xa,Xb] at h
  obtain ⟨rfl,rfl,rfl⟩:=h
  exact wp_exit (hQ a w hst)
 | ret =>
  intro ac hc I β tm tm' σ σ' a w e hst h Q hQ
  simp only [ZaE] at hc;subst hc
  simp only [Z2,Xa,Xb] at h
  obtain ⟨rfl,rfl,rfl⟩:=h
  exact wp_ret (hQ a w hst)
 | rangeFunc f ps x y=>intro ac hc I β tm tm' σ σ' a w e hst h;simp only [ZaE] at hc;subst hc;simp only [Z2] at h;cases h
 | scope x ih =>
  intro ac hc I β tm tm' σ σ' a w e hst h Q hQ
  simp only [ZaE] at hc
  refine wp_scope_straight (ih hc hst h ?_)
  cases e with
  | normal=>exact hQ
  | exit id=>exact hQ
  | ret=>exact hQ
  | panic x=>exact hQ
 | label l =>
  intro ac hc I β tm tm' σ σ' a w e hst h Q hQ
  simp only [ZaE] at hc;subst hc
  simp only [Z2,Xa,Xb] at h
  obtain ⟨rfl,rfl,rfl⟩:=h
  exact wp_label (hQ a w hst)
 | goto l=>intro ac hc I β tm tm' σ σ' a w e hst h;simp only [ZaE] at hc;subst hc;simp only [Z2] at h;cases h
 | refuse why=>intro ac hc I β tm tm' σ σ' a w e hst h;simp only [ZaE] at hc;subst hc;simp only [Z2] at h;cases h
theorem Zpq {I:Imm} {β:Bmap} {σ σ':Za} {k:Option Nat} {a x:AVal} {c:Cls} {v:Value} (ha:VR I β a v) (h:ldA σ k a=some (x,σ',c)):∃ ad,v=.pointer (some ad):=by
 unfold ldA at h
 split at h
 ·simp only [VR] at ha;obtain ⟨b,k,c,_,rfl⟩:=ha;exact ⟨_,rfl⟩
 ·simp only [VR] at ha;obtain ⟨b,k,c,_,rfl⟩:=ha;exact ⟨_,rfl⟩
 ·simp only [VR] at ha;obtain ⟨b,off,rfl,_⟩:=ha;exact ⟨_,rfl⟩
 ·cases h
def ZfN (tmps:Array Value):ResultVar->Sem Value
 | .tmp t=>pure (tmps.getD t undef)
 | .cell a t=>do loadVar t (<-asAddr (tmps.getD a undef))
theorem Zjg {I:Imm} {β:Bmap} {tm:Tms} {σ:Za} {w:World} {tmps:Array Value} (T:TR I β tm tmps) (R:Rel base w0 I0 I β σ w):∀ {rs:List ResultVar} {asl:List Zb0} {xs:List AVal},ZcL P rs=some asl->resAll tm σ asl=some xs ->
  ∃ vs:List Value,(rs.mapM (ZfN tmps)).run P w=.ok vs w/\VRs I β xs vs
 | [],asl,xs,hc,h=>by
  simp only [ZcL,Xa] at hc;subst hc
  simp only [resAll,Xa] at h;subst h
  exact ⟨[],by simp,by simp only [VRs]⟩
 | r::rs,asl,xs,hc,h=>by
  have getD_eq:∀ t,VR I β (tget tm t) (tmps.getD t undef):=T
  cases r with
  | tmp t =>
   simp only [ZcL,Xo] at hc
   obtain ⟨as',has,rfl⟩:=hc
   simp only [resAll,resOne] at h
   split at h
   ·rename_i ys hys
    injection h with h;subst h
    obtain ⟨vs,h1,h2⟩:=Zjg T R has hys
    exact ⟨tmps.getD t undef::vs,by simp only [Xa3,ZfN,Sem.run_bind,Sem.run_pure,Result.andThen_ok,h1],by simp only [VRs];exact ⟨_,_,rfl,getD_eq t,h2⟩⟩
   ·cases h
  | cell a t =>
   simp only [ZcL] at hc
   split at hc
   ·rename_i k as' hk has
    injection hc with hc;subst hc
    simp only [resAll,resOne] at h
    split at h
    ·rename_i v hv
     split at h
     ·rename_i ys hys
      injection h with h;subst h
      obtain ⟨vs,h1,h2⟩:=Zjg T R has hys
      split at hv
      ·rename_i v' σ1 c1 hld
       injection hv with hv;subst hv
       obtain ⟨u,hu1,hu2,_⟩:=Zkc hk R (getD_eq a) hld
       obtain ⟨ad,had⟩:=Zpq (getD_eq a) hld
       have hlv:(loadVar t ad).run P w=.ok u w:=by
        rw [had] at hu1
        simpa [Instr.loadAt,Instr.sureAddr] using hu1
       refine ⟨u::vs,?_,by simp only [VRs];exact ⟨_,_,rfl,hu2,h2⟩⟩
       simp only [Xa3,ZfN,had,asAddr,Sem.run_bind,Sem.run_pure,Result.andThen_ok,hlv,h1]
      ·cases hv
     ·cases h
    ·cases h
   ·cases hc
theorem Znf {I:Imm} {β:Bmap} {tm:Tms} {σ:Za} {w:World} {tmps:Array Value} (T:TR I β tm tmps) (R:Rel base w0 I0 I β σ w) {fn:Func} {asl:List Zb0} {x:AVal} (hc:ZcL P fn.results.toList=some asl) (h:resA tm σ asl=some x):∃ v,(results fn tmps).run P w=.ok v w/\VR I β x v:=by
 unfold resA at h
 have run:∀ {xs:List AVal},resAll tm σ asl=some xs->∃ vs:List Value,(results fn tmps).run P w=.ok (if h:vs.toArray.size=1 then vs.toArray[0] else .tuple vs.toArray) w/\VRs I β xs vs:=by
  intro xs hx
  obtain ⟨vs,h1,h2⟩:=Zjg T R hc hx
  refine ⟨vs,?_,h2⟩
  have hm:(fn.results.mapM (ZfN tmps)).run P w=.ok vs.toArray w:=by
   rw [Array.mapM_eq_mapM_toList,Sem.run_map,h1];rfl
  have he:results fn tmps=(do let vs <-fn.results.mapM (ZfN tmps);pure (if h:vs.size=1 then vs[0] else .tuple vs)):=by
   unfold results
   congr 1
  rw [he,Sem.run_bind,hm]
  rfl
 split at h
 ·rename_i v hv
  injection h with h;subst h
  obtain ⟨vs,h1,h2⟩:=run hv
  simp only [VRs] at h2
  obtain ⟨u,us,rfl,h3,rfl⟩:=h2
  exact ⟨u,by rw [h1];simp,h3⟩
 ·rename_i vs' hv hne
  injection h with h;subst h
  obtain ⟨vs,h1,h2⟩:=run hne
  have hl:=Zay h2
  refine ⟨.tuple vs.toArray,?_,by simp only [VR];exact ⟨_,rfl,by simpa using h2⟩⟩
  rw [h1,dif_neg]
  intro hs
  simp only [WO] at hs
  match vs',hl with
  | [v],_=>exact hv v rfl
  | [],hl=>simp at hl;omega
  | _::_::_,hl=>simp at hl;omega
 ·cases h
theorem Zm8:∀ (args:List AVal) (i:Nat) (acc:Tms) (n:Nat),tget (enterA i args acc) n=if i<=n/\n < i+args.length then args.getD (n - i) .top else tget acc n
 | [],i,acc,n=>by simp only [enterA,Wf];rw [if_neg (by omega)]
 | x::xs,i,acc,n=>by
  simp only [enterA,List.length_cons]
  rw [Zm8 xs (i+1) _ n]
  by_cases h:i+1<=n/\n < i+1+xs.length
  ·rw [if_pos h,if_pos (by omega),show n - i=(n - (i+1))+1 by omega,List.getD_cons_succ]
  ·rw [if_neg h]
   simp only [tget]
   by_cases h1:i=n
   ·subst h1
    rw [if_pos rfl,if_pos (by omega),W6,List.getD_cons_zero]
   ·rw [if_neg h1,if_neg (by omega)]
theorem ZmB {I:Imm} {β:Bmap} {args:List AVal} {vs:Array Value} (h:VRs I β args vs.toList) (n:Nat):TR I β (enterA 0 args []) (vs++XaA n undef):=by
 intro j
 rw [Zm8]
 have hl:=Zay h
 simp only [XH] at hl
 split
 ·rename_i hj
  have hjl:j < args.length:=by omega
  obtain ⟨v,h1,h2⟩:=Zbo h (Xe hjl)
  have e1:args.getD (j - 0) .top=args[j]:=by simp [Xi,hjl]
  have e2:(vs++XaA n undef).getD j undef=v:=by
   rw [WI,Array.getElem?_append_left (by omega)]
   have : vs[j]?=some v:=by simpa using h1
   rw [this];rfl
  rw [e1,e2];exact h2
 ·simp only [tget,VR]
def Zg5 (P:Program) (prim:Zbr):Prop:=∀ f g,prim f=some g->∀ args σ r σ',g args σ=some (r,σ') ->
 (∃ fn,P.funcs[f]?=some fn/\fn.body.isSome=true/\(fn.name == "runtime.NumGoroutine")=false) /\
 ∀ base w0 I0 I β w (vs:Array Value),KLt base w0->Rel base w0 I0 I β σ w->VRs I β args vs.toList ->
  Calls P f vs w (fun e w'=>∃ u,Ends r e u/\Zbh σ.length base w0 I0 I β r σ' u w')
theorem Zik (hm:P.follows .mixedOrders=true) {prim:Zbr} (hP:Zg5 P prim) (ann:Nat->Ann) (bf:Nat->Bool):∀ n,Zao P (Zam (Zfh P ann) prim bf n)
 | 0=>by intro f args σ r σ' h;simp only [Zam] at h;cases h
 | n+1=>by
  have ih:=Zik hm hP ann bf n
  intro f args σ r σ' h
  simp only [Zam] at h
  split at h
  ·rename_i g hg
   exact hP f g hg args σ r σ' h
  split at h
  ·cases h
  rename_i fn hfn
  unfold Zfh at hfn
  split at hfn
  ·rename_i F hF
   split at hfn
   ·rename_i body hbody
    split at hfn
    ·cases hfn
    ·rename_i hname
     split at hfn
     ·rename_i rs hrs
      injection hfn with hfn;subst hfn
      refine ⟨⟨F,hF,by rw [hbody];rfl,by simpa using hname⟩,?_⟩
      intro base w0 I0 I β w vs hb R hargs
      refine calls_of_wp hF hbody ?_
      have T:=ZmB hargs (F.ntmps - vs.size)
      have hst:StF ZbN σ.length F.ntmps base w0 I0 I β (enterA 0 args []) σ { tmps:=vs++XaA (F.ntmps - vs.size) undef,defers:=[] } w:=⟨I,β,Imm.le.refl I,KeptE.refl _ β,T,⟨ZdC.2 rfl,by simp;omega⟩,R⟩
      cases hx:Z2 (Zam (Zfh P ann) prim bf n) bf σ.length n (ZaE P { ann f with nt:=F.ntmps } body) (enterA 0 args []) σ with
      | none=>rw [hx] at h;simp only [ZaS] at h;cases h
      | some q =>
       obtain ⟨e,tm',σ1⟩:=q
       rw [hx] at h
       have fin:(match resA tm' σ1 rs with | some r=>Za8 σ.length σ1 r | none=>none)=some (r,σ')->∀ a' w',StF ZbN σ.length F.ntmps base w0 I0 I β tm' σ1 a' w'->a'.defers=[]/\∃ v,(results F a'.tmps).run P w'=.ok v w'/\∃ u,Ends r (.returned v) u/\Zbh σ.length base w0 I0 I β r σ' u w':=by
        intro hr a' w' ⟨I1,β1,g1,g2,g3,g4,g5⟩
        split at hr
        ·rename_i x hx1
         obtain ⟨v,h1,h2⟩:=Znf g3 g5 hrs hx1
         have hnp:∀ y,x≠.pan y:=by rintro y rfl;simp only [VR] at h2
         obtain ⟨q1,q2⟩:=Zfr (⟨I1,β1,g1,g2,g5,by rw [Zec hnp];exact h2⟩:Zbh σ.length base w0 I0 I β x σ1 v w') hr
         refine ⟨ZdC.1 g4.1,v,h1,v,q2 _ ?_,q1⟩
         cases x <;> first | rfl | exact absurd rfl (hnp _)
        ·cases hr
       refine ZhG (dr:=ZbN) (an:={ ann f with nt:=F.ntmps }) ih (fun n hn=>by simp [ZbN] at hn) hm hb σ.length n rfl hst hx ?_
       cases e with
       | normal=>simp only [ZaS] at h;exact fun a' w' hs=>fin h a' w' hs
       | ret=>simp only [ZaS] at h;exact fun a' w' hs=>fin h a' w' hs
       | exit id=>simp only [ZaS] at h;cases h
       | panic x =>
        simp only [ZaS] at h
        intro a' u w' hd hp
        obtain ⟨q1,q2⟩:=Zfr hp h
        exact ⟨ZdC.1 hd,u,q2 _ rfl,q1⟩
     ·cases hfn
   ·cases hfn
  ·cases hfn
end
end
section
open Go.RowKit
def OLe (O O':ZV):Prop:=∀ f a σ r,O f a σ=some r->O' f a σ=some r
section
variable {O O':ZV} {bf:Nat->Bool}
theorem ZnT {view:Bool} {m:Nat} {x y:Option (AVal×Za)} (h:∀ r,x=some r->y=some r) {r:AVal×Za} (hr:ZaX view m x=some r):ZaX view m y=some r:=by
 cases x with
 | none=>cases view <;> simp [ZaX,Zcw] at hr
 | some q=>rw [h q rfl];exact hr
theorem Zvk {σ σf:Za} {ids ts:List Nat} {sq own:Nat} {x y:Option (AVal×Za)} (h:∀ r,x=some r->y=some r) {r:AVal×Za×Cls} (hr:ZaJ σ σf ids ts sq own x=some r):ZaJ σ σf ids ts sq own y=some r:=by
 cases x with
 | none=>simp only [ZaJ] at hr;cases hr
 | some q=>rw [h q rfl];exact hr
theorem Zjw (hO:OLe O O') {σ:Za} {sq f own:Nat} {view:Bool} {args:List AVal} {r:AVal×Za×Cls} (h:ZR O bf σ sq f own view args=some r):ZR O' bf σ sq f own view args=some r:=by
 unfold ZR Zby at h ⊢
 split at h
 ·cases h
 ·rename_i vs ts hv
  split at h
  ·rename_i hc
   simp only [hc,if_true]
   exact Zvk (fun q hq=>ZnT (fun q hq=>hO _ _ _ _ hq) hq) h
  ·cases h
theorem Zoc (hO:OLe O O') {tm:Tms} {σ:Za} {sq:Nat} {ins:Ins} {r:AVal×Za×Cls} (h:execI O bf tm σ sq ins=some r):execI O' bf tm σ sq ins=some r:=by
 cases ins
 case call f own view args =>
  simp only [execI] at h ⊢
  exact Zjw hO h
 case callv x args =>
  simp only [execI] at h ⊢
  split at h
  ·exact Zjw hO h
  ·cases h
 all_goals exact h
theorem ZhJ (hO:OLe O O') {o:AOp} {tm:Tms} {σ:Za} {sq:Nat} {r:AVal×Tms×Za×Cls} (h:ZS O bf o sq tm σ=some r):ZS O' bf o sq tm σ=some r:=by
 unfold ZS at h ⊢
 split at h
 ·cases h
 ·exact h
 ·split at h
  ·rename_i hf
   rw [if_pos hf]
   split at h
   ·rename_i he;rw [Zoc hO he];exact h
   ·cases h
  ·cases h
theorem Zia (hO:OLe O O'):∀ {ops:List AOp} {s:Nat} {tm:Tms} {σ:Za} {r:Tms×Za×List Cls×Option AVal},ZY O bf ops s tm σ=some r->ZY O' bf ops s tm σ=some r
 | [],_,_,_,_,h=>h
 | o::ops,s,tm,σ,r,h=>by
  simp only [ZY] at h ⊢
  split at h
  ·cases h
  ·rename_i h1
   rw [ZhJ hO h1]
   exact h
  ·rename_i v tm1 σ1 c hnp h1
   rw [ZhJ hO h1]
   simp only
   split at h
   ·cases h
   rename_i h2
   rw [Zia hO h2]
   exact h
theorem ZlD (hO:OLe O O') {ops:List AOp} {chk:Option (List (Nat×Nat))} {live:List Nat} {tm:Tms} {σ:Za} {r:ZaB×Tms×Za} (h:ZbL O bf ops chk live tm σ=some r):ZbL O' bf ops chk live tm σ=some r:=by
 unfold ZbL at h ⊢
 cases hx:ZY O bf ops σ.length tm (σ++XD (sitesOf ops) .free) with
 | none=>rw [hx] at h;simp only [ZcF] at h;cases h
 | some q=>rw [Zia hO hx];rw [hx] at h;exact h
theorem Zga {m0:Nat} {live:List Nat} {f f':Tms->Za->Option (ZaB×Tms×Za)} (hf:∀ tm σ r,f tm σ=some r->f' tm σ=some r):∀ {n n':Nat} {tm:Tms} {σ:Za} {r:ZaB×Tms×Za},n<=n'->Zce m0 live f n tm σ=some r->Zce m0 live f' n' tm σ=some r
 | 0,_,_,_,_,_,h=>by simp only [Zce] at h;cases h
 | n+1,0,_,_,_,hn,_=>by omega
 | n+1,n'+1,tm,σ,r,hn,h=>by
  simp only [Zce] at h ⊢
  split at h
  ·rename_i h1
   rw [hf _ _ _ h1]
   exact Zga hf (by omega) h
  ·rename_i hne
   rw [hf _ _ _ h]
   split
   ·rename_i e;injection e with e;subst e;exact absurd h (hne _ _)
   ·rfl
theorem Zcn (hO:OLe O O') {m0:Nat}:∀ {c:Zs} {n n':Nat} {tm:Tms} {σ:Za} {r:ZaB×Tms×Za},n<=n'->Z2 O bf m0 n c tm σ=some r->Z2 O' bf m0 n' c tm σ=some r:=by
 intro c
 induction c with
 | skip=>intro n n' tm σ r _ h;exact h
 | exit id=>intro n n' tm σ r _ h;exact h
 | ret=>intro n n' tm σ r _ h;exact h
 | stuck=>intro n n' tm σ r _ h;exact h
 | region ops chk live =>
  intro n n' tm σ r _ h
  simp only [Z2] at h ⊢
  exact ZlD hO h
 | seq a b iha ihb =>
  intro n n' tm σ r hn h
  simp only [Z2] at h ⊢
  split at h
  ·rename_i h1;rw [iha hn h1];exact ihb hn h
  ·rename_i hne
   rw [iha hn h]
   split
   ·rename_i e;injection e with e;subst e;exact absurd h (hne _ _)
   ·rfl
 | cond c a b iha ihb =>
  intro n n' tm σ r hn h
  simp only [Z2] at h ⊢
  split at h
  ·exact iha hn h
  ·exact ihb hn h
  ·cases h
 | block id c ih =>
  intro n n' tm σ r hn h
  simp only [Z2] at h ⊢
  split at h
  ·rename_i h1;rw [ih hn h1];exact h
  ·rename_i hne
   rw [ih hn h]
   split
   ·rename_i e;injection e with e;subst e;exact absurd h (hne _ _ _)
   ·rfl
 | loop live c ih =>
  intro n n' tm σ r hn h
  simp only [Z2] at h ⊢
  exact Zga (fun tm σ r h=>ih hn h) hn h
theorem ZgX {m0:Nat} {fn:Zau} {x y:Option (ZaB×Tms×Za)} (h:∀ r,x=some r->y=some r) {r:AVal×Za} (hr:ZaS m0 fn x=some r):ZaS m0 fn y=some r:=by
 cases x with
 | none=>simp only [ZaS] at hr;cases hr
 | some q=>rw [h q rfl];exact hr
theorem ZlH (fs:Nat->Option Zau) (prim:Zbr):∀ n,OLe (Zam fs prim bf n) (Zam fs prim bf (n+1))
 | 0=>by intro f a σ r h;simp only [Zam] at h;cases h
 | n+1=>by
  intro f a σ r h
  rw [Zam] at h ⊢
  split at h
  ·rename_i g hg;exact h
  ·rename_i hg
   split at h
   ·cases h
   ·rename_i fn hfn
    exact ZgX (fun q hq=>Zcn (ZlH fs prim n) (by omega) hq) h
theorem Zft (fs : Nat -> Option Zau) (prim : Zbr) {n m : Nat} (h : n <= m) : OLe (Zam fs prim bf n) (Zam fs prim bf m) := by
  induction m with
  | zero => obtain rfl : n = 0 := by omega
            exact fun _ _ _ _ h => h
  | succ m ih =>
    by_cases e : n = m + 1
    . subst e; exact fun _ _ _ _ h => h
    . exact fun f a σ r hr => ZlH fs prim m f a σ r (ih (by omega) f a σ r hr)
end
section
variable (fs:Nat->Option Zau) (prim:Zbr) (bf:Nat->Bool)
open Classical in
noncomputable def EV:ZV:=fun f args σ=>if h:∃ r,∃ n,Zam fs prim bf n f args σ=some r then some h.choose else none
open Classical in
noncomputable def evC (m:Nat) (c:Zs) (tm:Tms) (σ:Za):Option (ZaB×Tms×Za):=if h:∃ r,∃ n,Z2 (Zam fs prim bf n) bf m n c tm σ=some r then some h.choose else none
variable {fs prim bf} {m0:Nat}
theorem ZcG {f:Nat} {args:List AVal} {σ:Za} {r:AVal×Za}:EV fs prim bf f args σ=some r↔∃ n,Zam fs prim bf n f args σ=some r:=by
 unfold EV
 constructor
 ·intro h
  split at h
  ·rename_i hx
   injection h with h
   rw [<-h]
   exact hx.choose_spec
  ·cases h
 ·rintro ⟨n,hn⟩
  have hx:∃ r,∃ n,Zam fs prim bf n f args σ=some r:=⟨r,n,hn⟩
  rw [dif_pos hx]
  obtain ⟨m,hm⟩:=hx.choose_spec
  have h1:=Zft (bf:=bf) fs prim (W0 n m) _ _ _ _ hn
  have h2:=Zft (bf:=bf) fs prim (WT n m) _ _ _ _ hm
  rw [h1] at h2
  injection h2 with h2
  rw [<-h2]
theorem ZaW {c:Zs} {tm:Tms} {σ:Za} {r:ZaB×Tms×Za}:evC fs prim bf m0 c tm σ=some r↔∃ n,Z2 (Zam fs prim bf n) bf m0 n c tm σ=some r:=by
 unfold evC
 constructor
 ·intro h
  split at h
  ·rename_i hx
   injection h with h
   rw [<-h]
   exact hx.choose_spec
  ·cases h
 ·rintro ⟨n,hn⟩
  have hx:∃ r,∃ n,Z2 (Zam fs prim bf n) bf m0 n c tm σ=some r:=⟨r,n,hn⟩
  rw [dif_pos hx]
  obtain ⟨m,hm⟩:=hx.choose_spec
  have h1:=Zcn (Zft (bf:=bf) fs prim (W0 n m)) (W0 n m) hn
  have h2:=Zcn (Zft (bf:=bf) fs prim (WT n m)) (WT n m) hm
  rw [h1] at h2
  injection h2 with h2
  rw [<-h2]
theorem Zc7 {α:Type} {x y:Option α} (h:∀ r,x=some r↔y=some r):x=y:=by
 cases x with
 | none =>
  cases y with
  | none=>rfl
  | some q=>exact absurd ((h q).2 rfl) (by simp)
 | some q=>exact ((h q).1 rfl).symm
theorem ZyE (n:Nat):OLe (Zam fs prim bf n) (EV fs prim bf):=fun _ _ _ _ h=>ZcG.2 ⟨n,h⟩
theorem up {n m:Nat} (h:n<=m):OLe (Zam fs prim bf n) (Zam fs prim bf m):=Zft fs prim h
theorem ZjI {f:Nat} {g:List AVal->Za->Option (AVal×Za)} (hp:prim f=some g) (args:List AVal) (σ:Za):EV fs prim bf f args σ=g args σ:=by
 apply Zc7
 intro r
 rw [ZcG]
 constructor
 ·rintro ⟨n,h⟩
  cases n with
  | zero=>simp only [Zam] at h;cases h
  | succ n=>rw [Zam,hp] at h;exact h
 ·intro h
  exact ⟨1,by rw [Zam,hp];exact h⟩
theorem Zk1 {f:Nat} {fn:Zau} (hp:prim f=none) (hf:fs f=some fn) (args:List AVal) (σ:Za):EV fs prim bf f args σ=ZaS σ.length fn (evC fs prim bf σ.length fn.body (enterA 0 args []) σ):=by
 apply Zc7
 intro r
 rw [ZcG]
 constructor
 ·rintro ⟨n,h⟩
  cases n with
  | zero=>simp only [Zam] at h;cases h
  | succ n =>
   rw [Zam,hp,hf] at h
   exact ZgX (fun q hq=>ZaW.2 ⟨n,hq⟩) h
 ·intro h
  cases hx:evC fs prim bf σ.length fn.body (enterA 0 args []) σ with
  | none=>rw [hx] at h;simp only [ZaS] at h;cases h
  | some q =>
   obtain ⟨n,hn⟩:=ZaW.1 hx
   refine ⟨n+1,?_⟩
   rw [Zam,hp,hf]
   rw [hx] at h
   exact ZgX (x:=some q) (fun q' hq'=>by injection hq' with hq';subst hq';exact hn) h
theorem ZmP {σ:Za} {sq f own:Nat} {view:Bool} {args:List AVal} {r:AVal×Za×Cls} (h:ZR (EV fs prim bf) bf σ sq f own view args=some r):∃ n,ZR (Zam fs prim bf n) bf σ sq f own view args=some r:=by
 unfold ZR Zby at h ⊢
 split at h
 ·cases h
 ·rename_i vs ts hv
  split at h
  ·rename_i hc
   simp only [hc,if_true]
   cases hx:EV fs prim bf f (ZX (Zd (ZT σ ts) 0 (Zf (ZT σ ts) 1000 (Z3 vs) [])) vs) (Ze (ZT σ ts) 0 (Zf (ZT σ ts) 1000 (Z3 vs) []) (Zd (ZT σ ts) 0 (Zf (ZT σ ts) 1000 (Z3 vs) [])) (Zf (ZT σ ts) 1000 (Z3 vs) []) 0) with
   | none =>
    rw [hx] at h
    cases view <;> simp [ZaX,Zcw,ZaJ] at h
   | some q =>
    obtain ⟨n,hn⟩:=ZcG.1 hx
    exact ⟨n,by rw [hn];rw [hx] at h;exact h⟩
  ·cases h
theorem ZqT {tm:Tms} {σ:Za} {sq:Nat} {ins:Ins} {r:AVal×Za×Cls} (h:execI (EV fs prim bf) bf tm σ sq ins=some r):∃ n,execI (Zam fs prim bf n) bf tm σ sq ins=some r:=by
 cases ins
 case call f own view args =>
  simp only [execI] at h ⊢
  exact ZmP h
 case callv x args =>
  simp only [execI] at h ⊢
  split at h
  ·exact ZmP h
  ·cases h
 all_goals exact ⟨0,h⟩
theorem Zl6 {o:AOp} {tm:Tms} {σ:Za} {sq:Nat} {r:AVal×Tms×Za×Cls} (h:ZS (EV fs prim bf) bf o sq tm σ=some r):∃ n,ZS (Zam fs prim bf n) bf o sq tm σ=some r:=by
 unfold ZS at h ⊢
 split at h
 ·cases h
 ·exact ⟨0,h⟩
 ·split at h
  ·rename_i hf
   simp only [hf,if_true]
   split at h
   ·rename_i he
    obtain ⟨n,hn⟩:=ZqT he
    exact ⟨n,by rw [hn];exact h⟩
   ·cases h
  ·cases h
theorem Zlf:∀ {ops:List AOp} {s:Nat} {tm:Tms} {σ:Za} {r:Tms×Za×List Cls×Option AVal},ZY (EV fs prim bf) bf ops s tm σ=some r->∃ n,ZY (Zam fs prim bf n) bf ops s tm σ=some r
 | [],_,_,_,_,h=>⟨0,h⟩
 | o::ops,s,tm,σ,r,h=>by
  simp only [ZY] at h ⊢
  split at h
  ·cases h
  ·rename_i h1
   obtain ⟨n,hn⟩:=Zl6 h1
   exact ⟨n,by rw [hn];exact h⟩
  rename_i v tm1 σ1 c hnp h1
  split at h
  ·cases h
  rename_i h2
  obtain ⟨n,hn⟩:=Zl6 h1
  obtain ⟨m,hm⟩:=Zlf h2
  refine ⟨max n m,?_⟩
  rw [ZhJ (up (W0 n m)) hn]
  simp only
  rw [Zia (up (WT n m)) hm]
  exact h
theorem ZpR {ops:List AOp} {chk:Option (List (Nat×Nat))} {live:List Nat} {tm:Tms} {σ:Za} {r:ZaB×Tms×Za} (h:ZbL (EV fs prim bf) bf ops chk live tm σ=some r):∃ n,ZbL (Zam fs prim bf n) bf ops chk live tm σ=some r:=by
 unfold ZbL at h ⊢
 cases hx:ZY (EV fs prim bf) bf ops σ.length tm (σ++XD (sitesOf ops) .free) with
 | none=>rw [hx] at h;simp only [ZcF] at h;cases h
 | some q =>
  obtain ⟨n,hn⟩:=Zlf hx
  exact ⟨n,by rw [hn];rw [hx] at h;exact h⟩
theorem Zn1 (tm:Tms) (σ:Za):evC fs prim bf m0 .skip tm σ=some (.normal,tm,σ):=ZaW.2 ⟨0,rfl⟩
theorem Zuz (id:Nat) (tm:Tms) (σ:Za):evC fs prim bf m0 (.exit id) tm σ=some (.exit id,tm,σ):=ZaW.2 ⟨0,rfl⟩
theorem ZzN (tm:Tms) (σ:Za):evC fs prim bf m0 .ret tm σ=some (.ret,tm,σ):=ZaW.2 ⟨0,rfl⟩
theorem ZAl {ops:List AOp} {chk:Option (List (Nat×Nat))} {live:List Nat} {tm:Tms} {σ:Za}:evC fs prim bf m0 (.region ops chk live) tm σ=ZbL (EV fs prim bf) bf ops chk live tm σ:=by
 apply Zc7
 intro r
 rw [ZaW]
 constructor
 ·rintro ⟨n,hn⟩
  simp only [Z2] at hn
  exact ZlD (ZyE n) hn
 ·intro h
  obtain ⟨n,hn⟩:=ZpR h
  exact ⟨n,by simp only [Z2];exact hn⟩
theorem Zux {a b:Zs} {tm tm':Tms} {σ σ':Za} (h:evC fs prim bf m0 a tm σ=some (.normal,tm',σ')):evC fs prim bf m0 (.seq a b) tm σ=evC fs prim bf m0 b tm' σ':=by
 obtain ⟨n,hn⟩:=ZaW.1 h
 apply Zc7
 intro r
 rw [ZaW,ZaW]
 constructor
 ·rintro ⟨m,hm⟩
  have h1:=Zcn (up (W0 n m)) (W0 n m) hn
  have h2:=Zcn (up (WT n m)) (WT n m) hm
  simp only [Z2,h1] at h2
  exact ⟨_,h2⟩
 ·rintro ⟨m,hm⟩
  have h1:=Zcn (up (W0 n m)) (W0 n m) hn
  have h2:=Zcn (up (WT n m)) (WT n m) hm
  exact ⟨max n m,by simp only [Z2,h1];exact h2⟩
theorem ZhX {a b:Zs} {tm tm':Tms} {σ σ':Za} {e:ZaB} (he:e≠.normal) (h:evC fs prim bf m0 a tm σ=some (e,tm',σ')):evC fs prim bf m0 (.seq a b) tm σ=some (e,tm',σ'):=by
 obtain ⟨n,hn⟩:=ZaW.1 h
 refine ZaW.2 ⟨n,?_⟩
 simp only [Z2,hn]
 cases e with
 | normal=>exact absurd rfl he
 | exit id=>rfl
 | ret=>rfl
 | panic x=>rfl
def Zbl (id:Nat):ZaB×Tms×Za->ZaB×Tms×Za
 | (.exit i,tm,σ)=>if i=id then (.normal,tm,σ) else (.exit i,tm,σ)
 | r=>r
theorem ZyQ {id:Nat} {c:Zs} {tm:Tms} {σ:Za}:evC fs prim bf m0 (.block id c) tm σ=(evC fs prim bf m0 c tm σ).map (Zbl id):=by
 have step:∀ n,Z2 (Zam fs prim bf n) bf m0 n (.block id c) tm σ=(Z2 (Zam fs prim bf n) bf m0 n c tm σ).map (Zbl id):=by
  intro n
  simp only [Z2]
  cases Z2 (Zam fs prim bf n) bf m0 n c tm σ with
  | none=>rfl
  | some q =>
   obtain ⟨e,tm1,σ1⟩:=q
   cases e with
   | normal=>rfl
   | ret=>rfl
   | panic x=>rfl
   | exit i=>simp only [XN,Zbl];split <;> rfl
 apply Zc7;intro r
 rw [ZaW]
 simp only [step,Xo]
 constructor
 ·rintro ⟨n,q,h1,h2⟩;exact ⟨q,ZaW.2 ⟨n,h1⟩,h2⟩
 ·rintro ⟨q,h1,h2⟩;obtain ⟨n,hn⟩:=ZaW.1 h1;exact ⟨n,q,hn,h2⟩
theorem Zsp {c:Zs} {tm:Tms} {σ:Za} (h:evC fs prim bf m0 c tm σ=none) (n:Nat):Z2 (Zam fs prim bf n) bf m0 n c tm σ=none:=by
 cases hx:Z2 (Zam fs prim bf n) bf m0 n c tm σ with
 | none=>rfl
 | some r=>rw [ZaW.2 ⟨n,hx⟩] at h;cases h
variable (fs prim bf m0) in
noncomputable def ZbY (b:Zs):Option (ZaB×Tms×Za)->Option (ZaB×Tms×Za)
 | some (.normal,tm,σ)=>evC fs prim bf m0 b tm σ
 | r=>r
theorem Zoe {a b:Zs} {tm:Tms} {σ:Za}:evC fs prim bf m0 (.seq a b) tm σ=ZbY fs prim bf m0 b (evC fs prim bf m0 a tm σ):=by
 cases h:evC fs prim bf m0 a tm σ with
 | none =>
  simp only [ZbY]
  apply Zc7;intro r
  rw [ZaW]
  constructor
  ·rintro ⟨n,hn⟩
   simp only [Z2,Zsp h n] at hn
   cases hn
  ·intro h;cases h
 | some q =>
  obtain ⟨e,tm',σ'⟩:=q
  cases e with
  | normal=>exact Zux h
  | exit id=>exact ZhX (by simp) h
  | ret=>exact ZhX (by simp) h
  | panic x=>exact ZhX (by simp) h
variable (fs prim bf m0) in
noncomputable def ZfT (a b:Zs) (tm:Tms) (σ:Za):AVal->Option (ZaB×Tms×Za)
 | .bool true=>evC fs prim bf m0 a tm σ
 | .bool false=>evC fs prim bf m0 b tm σ
 | _=>none
theorem Zos {c:Opd} {a b:Zs} {tm:Tms} {σ:Za}:evC fs prim bf m0 (.cond c a b) tm σ=ZfT fs prim bf m0 a b tm σ (c.ev tm):=by
 apply Zc7;intro r
 rw [ZaW]
 simp only [Z2]
 constructor
 ·rintro ⟨n,hn⟩
  split at hn
  ·rename_i e;rw [e];simp only [ZfT];exact ZaW.2 ⟨n,hn⟩
  ·rename_i e;rw [e];simp only [ZfT];exact ZaW.2 ⟨n,hn⟩
  ·cases hn
 ·intro h
  unfold ZfT at h
  split at h
  ·rename_i e;obtain ⟨n,hn⟩:=ZaW.1 h;exact ⟨n,by rw [e];exact hn⟩
  ·rename_i e;obtain ⟨n,hn⟩:=ZaW.1 h;exact ⟨n,by rw [e];exact hn⟩
  ·cases h
variable (fs prim bf m0) in
noncomputable def evL (live:List Nat) (c:Zs) (tm:Tms) (σ:Za):Option (ZaB×Tms×Za) :=
 match evC fs prim bf m0 c tm σ with
 | some (.normal,tm',σ')=>evC fs prim bf m0 (.loop live c) tm' σ'
 | r=>r
theorem Zk0 {live:List Nat} {c:Zs} {tm:Tms} {σ:Za}:evC fs prim bf m0 (.loop live c) tm σ=evL fs prim bf m0 live c (gcT m0 (keepL live tm) σ).1 (gcT m0 (keepL live tm) σ).2:=by
 apply Zc7;intro r
 rw [ZaW]
 constructor
 ·rintro ⟨n,hn⟩
  simp only [Z2] at hn
  cases n with
  | zero=>simp only [Zce] at hn;cases hn
  | succ k =>
   simp only [Zce] at hn
   unfold evL
   cases hx:Z2 (Zam fs prim bf (k+1)) bf m0 (k+1) c (gcT m0 (keepL live tm) σ).1 (gcT m0 (keepL live tm) σ).2 with
   | none=>rw [hx] at hn;cases hn
   | some q =>
    rw [ZaW.2 ⟨_,hx⟩]
    rw [hx] at hn
    obtain ⟨e,tm',σ'⟩:=q
    cases e with
    | normal =>
     simp only at hn ⊢
     exact ZaW.2 ⟨k+1,by simp only [Z2];exact Zga (fun _ _ _ h=>h) (by omega) hn⟩
    | exit id=>exact hn
    | ret=>exact hn
    | panic x=>exact hn
 ·intro h
  unfold evL at h
  cases hx:evC fs prim bf m0 c (gcT m0 (keepL live tm) σ).1 (gcT m0 (keepL live tm) σ).2 with
  | none=>rw [hx] at h;cases h
  | some q =>
   rw [hx] at h
   obtain ⟨n,hn⟩:=ZaW.1 hx
   obtain ⟨e,tm',σ'⟩:=q
   have out:e≠.normal->some (e,tm',σ')=some r->∃ n,Z2 (Zam fs prim bf n) bf m0 n (.loop live c) tm σ=some r:=by
    intro he h
    refine ⟨n+1,?_⟩
    have h1:=Zcn (up (show n<=n+1 by omega)) (show n<=n+1 by omega) hn
    simp only [Z2,Zce,h1]
    cases e with
    | normal=>exact absurd rfl he
    | exit id=>exact h
    | ret=>exact h
    | panic x=>exact h
   cases e with
   | normal =>
    simp only at h
    obtain ⟨m,hm⟩:=ZaW.1 h
    have h1:=Zcn (up (show n<=max n m+1 by omega)) (show n<=max n m+1 by omega) hn
    have h2:=Zcn (up (show m<=max n m+1 by omega)) (XM m) hm
    simp only [Z2] at h2
    refine ⟨max n m+1,?_⟩
    simp only [Z2,Zce,h1]
    exact Zga (fun tm σ r h=>Zcn (fun _ _ _ _ h=>h) (by omega) h) (by omega) h2
   | exit id=>exact out (by simp) h
   | ret=>exact out (by simp) h
   | panic x=>exact out (by simp) h
theorem ZwX {P:Program} (hm:P.follows .mixedOrders=true) {prim:Zbr} (hP:Zg5 P prim) (ann:Nat->Ann) (bf:Nat->Bool):Zao P (EV (Zfh P ann) prim bf):=by
 intro f args σ r σ' h
 obtain ⟨n,hn⟩:=ZcG.1 h
 exact Zik hm hP ann bf n f args σ r σ' hn
end
end
section
open Go.RowKit
def Zku:Tms×Za×List Cls×Option AVal->Tms×Za×Option AVal:=fun q=>(q.1,q.2.1,q.2.2.2)
def ZaD:AVal->Bool
 | .pan _=>true
 | _=>false
section
variable (O:ZV) (bf:Nat->Bool)
def exI (i:Ins) (s:Nat) (tm:Tms) (σ:Za):Option (AVal×Za×Cls) :=
 if nsite i == 0 || freeAt σ s then execI O bf tm σ s i else none
def ZaR (ops:List AOp) (s:Nat) (tm:Tms) (σ:Za):Option (Tms×Za×Option AVal):=(ZY O bf ops s tm σ).map Zku
def kN (d:Option Nat) (os:List AOp) (s:Nat) (tm:Tms):Option (AVal×Za×Cls)->Option (Tms×Za×Option AVal)
 | none=>none
 | some (v,σ,_)=>if ZaD v then some (tput tm d v,σ,some (ZaA v)) else ZaR O bf os s (tput tm d v) σ
def Zf9 (live:List Nat):Option (Tms×Za×Option AVal)->Option (ZaB×Tms×Za)
 | none=>none
 | some (_,σ,some x)=>some (.panic x,[],σ)
 | some (tm,σ,none)=>some (.normal,keepL live tm,σ)
variable {O bf}
theorem Zlb (s:Nat) (tm:Tms) (σ:Za):ZaR O bf [] s tm σ=some (tm,σ,none):=rfl
theorem Ze7 {o:AOp} {os:List AOp} {s:Nat} {tm:Tms} {σ:Za} (h:ZS O bf o s tm σ=none):ZY O bf (o::os) s tm σ=none:=by simp only [ZY,h]
theorem Zhi {o:AOp} {os:List AOp} {s:Nat} {tm tm1:Tms} {σ σ1:Za} {x:AVal} {c:Cls} (h:ZS O bf o s tm σ=some (.pan x,tm1,σ1,c)):ZY O bf (o::os) s tm σ=some (tm1,σ1,[c],some x):=by simp only [ZY,h]
theorem Zl7 {o:AOp} {os:List AOp} {s:Nat} {tm tm1:Tms} {σ σ1:Za} {v:AVal} {c:Cls} (h:ZS O bf o s tm σ=some (v,tm1,σ1,c)) (hn:ZaD v=false):ZY O bf (o::os) s tm σ=(ZY O bf os (s+nsite o.ins) tm1 σ1).map fun q=>(q.1,q.2.1,c::q.2.2.1,q.2.2.2):=by
 simp only [ZY,h]
 cases v <;> first
  | (simp [ZaD] at hn;done)
  | (simp only;cases ZY O bf os (s+nsite o.ins) tm1 σ1 <;> rfl)
theorem Zf6 {o:AOp} {os:List AOp} {s:Nat} {tm:Tms} {σ:Za} (h:ZS O bf o s tm σ=none):ZaR O bf (o::os) s tm σ=none:=by simp only [ZaR,Ze7 h,Option.map_none]
theorem Zig {o:AOp} {os:List AOp} {s:Nat} {tm tm1:Tms} {σ σ1:Za} {x:AVal} {c:Cls} (h:ZS O bf o s tm σ=some (.pan x,tm1,σ1,c)):ZaR O bf (o::os) s tm σ=some (tm1,σ1,some x):=by simp only [ZaR,Zhi h,XN,Zku]
theorem Zhn {o:AOp} {os:List AOp} {s:Nat} {tm tm1:Tms} {σ σ1:Za} {v:AVal} {c:Cls} (h:ZS O bf o s tm σ=some (v,tm1,σ1,c)) (hn:ZaD v=false):ZaR O bf (o::os) s tm σ=ZaR O bf os (s+nsite o.ins) tm1 σ1:=by
 simp only [ZaR,Zl7 h hn,Option.map_map]
 rfl
theorem Zgr {v:AVal} (h:ZaD v=true):∃ x,v=.pan x:=by
 cases v <;> first | exact ⟨_,rfl⟩ | (simp [ZaD] at h;done)
theorem ZgO {d:Option Nat} {i:Ins} {af:List Nat} {s:Nat} {tm:Tms} {σ:Za}:ZS O bf ⟨d,i,none,af⟩ s tm σ=(exI O bf i s tm σ).map fun q=>(q.1,tput tm d q.1,q.2.1,q.2.2):=by
 unfold ZS exI
 simp only [Za7]
 split
 ·cases execI O bf tm σ s i with
  | none=>rfl
  | some q=>rfl
 ·rfl
theorem Ziw (d:Option Nat) (i:Ins) (af:List Nat) (os:List AOp) (s:Nat) (tm:Tms) (σ:Za):ZaR O bf (⟨d,i,none,af⟩::os) s tm σ=kN O bf d os (s+nsite i) tm (exI O bf i s tm σ):=by
 cases h:exI O bf i s tm σ with
 | none=>exact Zf6 (by rw [ZgO,h];rfl)
 | some q =>
  obtain ⟨v,σ1,c⟩:=q
  have hs:ZS O bf ⟨d,i,none,af⟩ s tm σ=some (v,tput tm d v,σ1,c):=by rw [ZgO,h];rfl
  cases hp:ZaD v with
  | true =>
   obtain ⟨x,rfl⟩:=Zgr hp
   exact Zig hs
  | false =>
   rw [Zhn hs hp]
   simp only [kN,hp,Xw,if_false]
theorem Zwu (ops:List AOp) (live:List Nat) (tm:Tms) (σ:Za):ZbL O bf ops none live tm σ=Zf9 live (ZaR O bf ops σ.length tm (σ++XD (sitesOf ops) .free)):=by
 unfold ZbL ZaR
 cases ZY O bf ops σ.length tm (σ++XD (sitesOf ops) .free) with
 | none=>rfl
 | some q =>
  obtain ⟨tm',σ',cs,p⟩:=q
  cases p <;> rfl
theorem Zjd (d:Option Nat) (os:List AOp) (s:Nat) (tm:Tms) (v:AVal) (σ:Za) (c:Cls) (h:ZaD v=false):kN O bf d os s tm (some (v,σ,c))=ZaR O bf os s (tput tm d v) σ:=by
 simp only [kN,h,Xw,if_false]
theorem ZwK (d:Option Nat) (os:List AOp) (s:Nat) (tm:Tms) (x:AVal) (σ:Za) (c:Cls):kN O bf d os s tm (some (.pan x,σ,c))=some (tput tm d (.pan x),σ,some x):=rfl
theorem ZnZ (d:Option Nat) (os:List AOp) (s:Nat) (tm:Tms):kN O bf d os s tm none=none:=rfl
structure GOp where
 guard:Option (Nat×Bool)
 ops:List AOp
def Zr:List AOp->Tms->Tms
 | [],tm=>tm
 | o::os,tm=>Zr os (tput tm o.dst (.tup []))
def unG (o:AOp):AOp:={ o with guard:=none }
variable (O bf) in
def ZcW (j:Nat) (w:Bool) (g:List AOp) (s:Nat) (tm:Tms) (σ:Za):Option (Tms×Za×Option AVal):=match Za7 (some (j,w)) tm with
 | none=>none
 | some false=>some (Zr g tm,σ,none)
 | some true=>ZaR O bf (g.map unG) s tm σ
variable (O bf) in
def gK (os:List AOp) (s:Nat):Option (Tms×Za×Option AVal)->Option (Tms×Za×Option AVal)
 | none=>none
 | some (tm,σ,some x)=>some (tm,σ,some x)
 | some (tm,σ,none)=>ZaR O bf os s tm σ
def Zo (j:Nat) (w:Bool):List AOp->List AOp×List AOp
 | []=>([],[])
 | o::os=>match o.guard with
  | some (j',w')=>if j'=j/\w'=w/\o.dst≠some j then ((o::(Zo j w os).1),(Zo j w os).2) else ([],o::os)
  | none=>([],o::os)
theorem Zij (j:Nat) (w:Bool):∀ os,(Zo j w os).1++(Zo j w os).2=os
 | []=>rfl
 | o::os=>by
  simp only [Zo]
  split
  ·split
   ·simp [Zij j w os]
   ·rfl
  ·rfl
theorem ZjE (j:Nat) (w:Bool):∀ os,∀ o ∈ (Zo j w os).1,o.guard=some (j,w)/\o.dst≠some j
 | []=>by simp [Zo]
 | o::os=>by
  intro o' ho
  simp only [Zo] at ho
  split at ho
  ·rename_i j' w' hg
   split at ho
   ·rename_i hc
    rcases XC.1 ho with rfl | ho
    ·exact ⟨by rw [hg,hc.1,hc.2.1],hc.2.2⟩
    ·exact ZjE j w os o' ho
   ·simp at ho
  ·simp at ho
theorem Zzp {d:Option Nat} {v:AVal} {n:Nat} {tm:Tms} (h:d≠some n):tget (tput tm d v) n=tget tm n:=by
 cases d with
 | none=>rfl
 | some d =>
  have : d≠n:=by rintro rfl;exact h rfl
  simp only [tput,Zfk,this,if_false]
theorem ZdN {d:Option Nat} {v:AVal} {j:Nat} {w:Bool} {tm:Tms} (h:d≠some j):Za7 (some (j,w)) (tput tm d v)=Za7 (some (j,w)) tm:=by
 simp only [Za7,Zzp h]
theorem Zmh:∀ (a b:List AOp) (s:Nat) (tm:Tms) (σ:Za),ZaR O bf (a++b) s tm σ=gK O bf b (s+sitesOf a) (ZaR O bf a s tm σ)
 | [],b,s,tm,σ=>by simp [Zlb,gK,sitesOf]
 | o::a,b,s,tm,σ=>by
  have ih:=Zmh a b
  simp only [XX]
  have hs:s+nsite o.ins+sitesOf a=s+sitesOf (o::a):=by simp [sitesOf,Wu]
  cases hst:ZS O bf o s tm σ with
  | none=>rw [Zf6 hst,Zf6 hst];rfl
  | some q =>
   obtain ⟨v,tm1,σ1,c⟩:=q
   cases hp:ZaD v with
   | true =>
    obtain ⟨x,rfl⟩:=Zgr hp
    rw [Zig hst,Zig hst];rfl
   | false=>rw [Zhn hst hp,Zhn hst hp,ih,hs]
theorem ZmV (j:Nat) (w:Bool):∀ (g:List AOp),(∀ o ∈ g,o.guard=some (j,w)/\o.dst≠some j)->∀ (s:Nat) (tm:Tms) (σ:Za),g≠[]->ZaR O bf g s tm σ=ZcW O bf j w g s tm σ
 | [],_,_,_,_,h=>absurd rfl h
 | o::g,hall,s,tm,σ,_=>by
  obtain ⟨hg,hd⟩:=hall o (by simp)
  have ih:∀ (tm:Tms) (σ:Za) (s:Nat),Za7 (some (j,w)) tm≠none->ZaR O bf g s tm σ=ZcW O bf j w g s tm σ:=by
   intro tm σ s hw
   by_cases he:g=[]
   ·subst he
    unfold ZcW
    cases hx:Za7 (some (j,w)) tm with
    | none=>exact absurd hx hw
    | some b=>cases b <;> rfl
   ·exact ZmV j w g (fun o ho=>hall o (by simp [ho])) s tm σ he
  cases hx:Za7 (some (j,w)) tm with
  | none =>
   rw [Zf6 (by simp only [ZS,hg,hx])]
   simp only [ZcW,hx]
  | some b =>
   cases b with
   | false =>
    have h1:ZaR O bf (o::g) s tm σ=ZaR O bf g (s+nsite o.ins) (tput tm o.dst (.tup [])) σ :=
     Zhn (v:=.tup []) (c:={}) (by simp only [ZS,hg,hx]) rfl
    rw [h1,ih _ _ _ (by rw [ZdN hd,hx];simp)]
    unfold ZcW
    rw [ZdN hd,hx]
    rfl
   | true =>
    have key:∀ r:Option (AVal×Za×Cls),(∀ v σ' c,r=some (v,σ',c)->ZaD v=false->ZaR O bf g (s+nsite o.ins) (tput tm o.dst v) σ'=ZaR O bf (g.map unG) (s+nsite o.ins) (tput tm o.dst v) σ')->kN O bf o.dst g (s+nsite o.ins) tm r=kN O bf o.dst (g.map unG) (s+nsite o.ins) tm r:=by
     intro r hr
     cases r with
     | none=>rfl
     | some q =>
      obtain ⟨v,σ',c⟩:=q
      cases hp:ZaD v with
      | true=>simp only [kN,hp,if_true]
      | false=>rw [Zjd _ _ _ _ _ _ _ hp,Zjd _ _ _ _ _ _ _ hp];exact hr v σ' c rfl hp
    have h1:ZaR O bf (o::g) s tm σ=kN O bf o.dst g (s+nsite o.ins) tm (exI O bf o.ins s tm σ):=by
     have h0:ZaR O bf (o::g) s tm σ=ZaR O bf (⟨o.dst,o.ins,none,o.after⟩::g) s tm σ:=by
      have hst:ZS O bf o s tm σ=ZS O bf ⟨o.dst,o.ins,none,o.after⟩ s tm σ:=by
       unfold ZS
       simp only [hg,hx]
       rfl
      unfold ZaR
      simp only [ZY,hst]
     rw [h0,Ziw]
    rw [h1]
    unfold ZcW
    rw [hx]
    simp only [Xy]
    rw [show unG o=⟨o.dst,o.ins,none,o.after⟩ from rfl,Ziw]
    refine key _ fun v σ' c _ _=>?_
    rw [ih _ _ _ (by rw [ZdN hd,hx];simp)]
    unfold ZcW
    rw [ZdN hd,hx]
theorem ZrZ (d:Option Nat) (i:Ins) (j:Nat) (w:Bool) (af:List Nat) (os:List AOp) (s:Nat) (tm:Tms) (σ:Za) (hd:decide (d=some j)=false) :
  ZaR O bf (⟨d,i,some (j,w),af⟩::os) s tm σ=gK O bf (Zo j w os).2 (s+sitesOf (⟨d,i,some (j,w),af⟩::(Zo j w os).1)) (ZcW O bf j w (⟨d,i,some (j,w),af⟩::(Zo j w os).1) s tm σ):=by
 have h:=Zij j w os
 have hall:∀ o ∈ (⟨d,i,some (j,w),af⟩::(Zo j w os).1:List AOp),o.guard=some (j,w)/\o.dst≠some j:=by
  intro o ho
  rcases XC.1 ho with rfl | ho
  ·exact ⟨rfl,by simpa using hd⟩
  ·exact ZjE j w os o ho
 rw [<-ZmV j w _ hall s tm σ (by simp),<-Zmh,XX,h]
variable (O bf) in
def gW (w:Bool) (g:List AOp) (s:Nat) (tm:Tms) (σ:Za):AVal->Option (Tms×Za×Option AVal)
 | .bool b=>if b=w then ZaR O bf (g.map unG) s tm σ else some (Zr g tm,σ,none)
 | .tup []=>some (Zr g tm,σ,none)
 | _=>none
theorem ZxD (j:Nat) (w:Bool) (g:List AOp) (s:Nat) (tm:Tms) (σ:Za):ZcW O bf j w g s tm σ=gW O bf w g s tm σ (tget tm j):=by
 unfold ZcW Za7
 simp only
 generalize tget tm j=v
 cases v
 case bool b=>cases b <;> cases w <;> rfl
 case tup vs=>cases vs <;> rfl
 all_goals rfl
theorem Zzx (w:Bool) (g:List AOp) (s:Nat) (tm:Tms) (σ:Za) (b:Bool):gW O bf w g s tm σ (.bool b)=if b=w then ZaR O bf (g.map unG) s tm σ else some (Zr g tm,σ,none):=rfl
theorem ZnA (w:Bool) (g:List AOp) (s:Nat) (tm:Tms) (σ:Za):gW O bf w g s tm σ (.tup [])=some (Zr g tm,σ,none):=rfl
theorem ZxX (os:List AOp) (s:Nat) (tm:Tms) (σ:Za):gK O bf os s (some (tm,σ,none))=ZaR O bf os s tm σ:=rfl
end
section
variable (c:Prop) [Decidable c]
theorem ZQ {α:Type} (a b:α) (x y:List α):(if c then a::x else b::y)=(if c then a else b)::(if c then x else y):=by split <;> rfl
theorem ZrC (k:IntKind) (a b:Int):(if c then AVal.int k a else AVal.int k b)=AVal.int k (if c then a else b):=by split <;> rfl
theorem Zrp (a b:Bool):(if c then AVal.bool a else AVal.bool b)=AVal.bool (if c then a else b):=by split <;> rfl
theorem Zvx (a b:List UInt8):(if c then AVal.str a else AVal.str b)=AVal.str (if c then a else b):=by split <;> rfl
theorem Znr (p q:Bool) (a b:List AVal):(if c then AVal.lst p a else AVal.lst q b)=AVal.lst (if c then p else q) (if c then a else b):=by split <;> rfl
theorem Zrl (a b:List AVal):(if c then AVal.agg a else AVal.agg b)=AVal.agg (if c then a else b):=by split <;> rfl
theorem ZwT (a b:List AVal):(if c then Z0.var a else Z0.var b)=Z0.var (if c then a else b):=by split <;> rfl
theorem Zor (g k:Nat) (a b:List AVal):(if c then Z0.row g k a else Z0.row g k b)=Z0.row g k (if c then a else b):=by split <;> rfl
theorem ZoC (t:Nat) (a b:Nat):(if c then AVal.ref t a else AVal.ref t b)=AVal.ref t (if c then a else b):=by split <;> rfl
theorem ZJ {α:Type} (x y z:α):(if c then (if c then x else y) else z)=if c then x else z:=by split <;> rfl
theorem ZA {α:Type} (x y z:α):(if c then x else (if c then y else z))=if c then x else z:=by split <;> rfl
theorem ZB {α:Type} (x y z:α):(if c then (if ¬c then x else y) else z)=if c then y else z:=by split <;> simp_all
theorem ZK {α:Type} (x y z:α):(if c then x else (if ¬c then y else z))=if c then x else y:=by split <;> simp_all
theorem ZoH (σ:Za) (a b:AVal) (p:Bool):ZdH σ a b (.bool p)=some (if p=true then a else b,σ,{}):=by cases p <;> rfl
theorem Zq8 (a b:AVal):ZaD (if c then a else b)=if c then ZaD a else ZaD b:=by split <;> rfl
end
section
variable {fs:Nat->Option Zau} {prim:Zbr} {bf:Nat->Bool} {m0:Nat}
theorem Zpu (p:Bool) (a b:Zs) (tm:Tms) (σ:Za):ZfT fs prim bf m0 a b tm σ (.bool p)=if p=true then evC fs prim bf m0 a tm σ else evC fs prim bf m0 b tm σ:=by
 cases p <;> rfl
theorem ZAc (b:Zs) (tm:Tms) (σ:Za):ZbY fs prim bf m0 b (some (.normal,tm,σ))=evC fs prim bf m0 b tm σ:=rfl
theorem Zp0 (b:Zs) (i:Nat) (tm:Tms) (σ:Za):ZbY fs prim bf m0 b (some (.exit i,tm,σ))=some (.exit i,tm,σ):=rfl
theorem Zpt (b:Zs) (tm:Tms) (σ:Za):ZbY fs prim bf m0 b (some (.ret,tm,σ))=some (.ret,tm,σ):=rfl
theorem ZAP (b:Zs) (x:AVal) (tm:Tms) (σ:Za):ZbY fs prim bf m0 b (some (.panic x,tm,σ))=some (.panic x,tm,σ):=rfl
theorem ZrO (c:Prop) [Decidable c] (b:Zs) (x y:Option (ZaB×Tms×Za)):ZbY fs prim bf m0 b (if c then x else y)=if c then ZbY fs prim bf m0 b x else ZbY fs prim bf m0 b y:=by split <;> rfl
theorem ZsZ (id:Nat) (tm:Tms) (σ:Za):Xad (Zbl id) (some (.normal,tm,σ))=some (.normal,tm,σ):=rfl
theorem Znv (id i:Nat) (tm:Tms) (σ:Za):Xad (Zbl id) (some (.exit i,tm,σ))=if i=id then some (.normal,tm,σ) else some (.exit i,tm,σ):=by
 simp only [XN,Zbl];split <;> rfl
theorem ZtN (id:Nat) (tm:Tms) (σ:Za):Xad (Zbl id) (some (.ret,tm,σ))=some (.ret,tm,σ):=rfl
theorem Zur (id:Nat) (x:AVal) (tm:Tms) (σ:Za):Xad (Zbl id) (some (.panic x,tm,σ))=some (.panic x,tm,σ):=rfl
theorem Zo1 (id:Nat) (c:Prop) [Decidable c] (x y:Option (ZaB×Tms×Za)):Xad (Zbl id) (if c then x else y)=if c then Xad (Zbl id) x else Xad (Zbl id) y:=by split <;> rfl
theorem Zu2 (m:Nat) (fn:Zau) (c:Prop) [Decidable c] (x y:Option (ZaB×Tms×Za)):ZaS m fn (if c then x else y)=if c then ZaS m fn x else ZaS m fn y:=by split <;> rfl
end
section
variable {fs:Nat->Option Zau} {prim:Zbr} {bf:Nat->Bool} {m0:Nat}
theorem Zpl {live:List Nat} {c:Zs} {tm tm':Tms} {σ σ':Za} (h:evC fs prim bf m0 c tm σ=some (.normal,tm',σ')):evL fs prim bf m0 live c tm σ=evL fs prim bf m0 live c (gcT m0 (keepL live tm') σ').1 (gcT m0 (keepL live tm') σ').2:=by
 unfold evL
 rw [h]
 simp only
 rw [Zk0]
 rfl
theorem ZxA {live:List Nat} {c:Zs} {tm tm':Tms} {σ σ':Za} {i:Nat} (h:evC fs prim bf m0 c tm σ=some (.exit i,tm',σ')):evL fs prim bf m0 live c tm σ=some (.exit i,tm',σ'):=by
 unfold evL;rw [h]
theorem Zn6 {live:List Nat} {c:Zs} {tm tm':Tms} {σ σ':Za} (h:evC fs prim bf m0 c tm σ=some (.ret,tm',σ')):evL fs prim bf m0 live c tm σ=some (.ret,tm',σ'):=by
 unfold evL;rw [h]
variable (fs prim bf m0) in
noncomputable def evM (live:List Nat) (c:Zs):Option (ZaB×Tms×Za)->Option (ZaB×Tms×Za)
 | some (.normal,tm,σ)=>evL fs prim bf m0 live c (gcT m0 (keepL live tm) σ).1 (gcT m0 (keepL live tm) σ).2
 | r=>r
theorem Zaw (live:List Nat) (c:Zs) (tm:Tms) (σ:Za):evL fs prim bf m0 live c tm σ=evM fs prim bf m0 live c (evC fs prim bf m0 c tm σ):=by
 cases h:evC fs prim bf m0 c tm σ with
 | none=>unfold evL;rw [h];rfl
 | some q =>
  obtain ⟨e,tm',σ'⟩:=q
  cases e with
  | normal=>exact Zpl h
  | exit i=>exact ZxA h
  | ret=>exact Zn6 h
  | panic x=>unfold evL;rw [h];rfl
theorem ZzS (live:List Nat) (c:Zs) (tm:Tms) (σ:Za):evM fs prim bf m0 live c (some (.normal,tm,σ))=evL fs prim bf m0 live c (gcT m0 (keepL live tm) σ).1 (gcT m0 (keepL live tm) σ).2:=rfl
theorem ZAj (live:List Nat) (c:Zs) (i:Nat) (tm:Tms) (σ:Za):evM fs prim bf m0 live c (some (.exit i,tm,σ))=some (.exit i,tm,σ):=rfl
theorem ZyY (live:List Nat) (c:Zs) (tm:Tms) (σ:Za):evM fs prim bf m0 live c (some (.ret,tm,σ))=some (.ret,tm,σ):=rfl
theorem Zqe (live:List Nat) (c:Zs) (x:AVal) (tm:Tms) (σ:Za):evM fs prim bf m0 live c (some (.panic x,tm,σ))=some (.panic x,tm,σ):=rfl
theorem ZpK (live:List Nat) (b:Zs) (c:Prop) [Decidable c] (x y:Option (ZaB×Tms×Za)):evM fs prim bf m0 live b (if c then x else y)=if c then evM fs prim bf m0 live b x else evM fs prim bf m0 live b y:=by split <;> rfl
end
def ZaO:AVal->Bool
 | .int _ _=>true
 | .bool _=>true
 | .str _=>true
 | .nilp=>true
 | .nilm=>true
 | .nili=>true
 | .lst _ _=>true
 | .fn _ []=>true
 | _=>false
def ZaC:AVal->Bool
 | .agg cs=>cs.all ZaO
 | x=>ZaO x
def ZaQ:AVal->AVal
 | .lst _ xs=>.lst false xs
 | x=>x
def Z9:AVal->AVal
 | .agg cs=>.agg (cs.map ZaQ)
 | x=>ZaQ x
theorem Zmq {σ:Za} {x:AVal} (h:ZaO x=true):ZbV σ x=some (ZaQ x,[]):=by
 cases x <;> first | (simp [ZaO] at h;done) | rfl
theorem Zkz {σ:Za}:∀ {xs:List AVal},xs.all ZaO=true->ZbS σ xs=some (xs.map ZaQ,[])
 | [],_=>rfl
 | x::xs,h=>by
  simp only [Wc,Xr] at h
  simp only [ZbS,Zmq h.1,Zkz h.2,Xy,XL]
theorem Zen {x:AVal} (h:∀ cs,x≠.agg cs):ZaC x=ZaO x/\Z9 x=ZaQ x:=by
 cases x <;> first | exact ⟨rfl,rfl⟩ | exact absurd rfl (h _)
theorem ZxV {σ:Za} {x:AVal} (h:∀ cs,x≠.agg cs):showA σ x=ZbV σ x:=by
 cases x <;> first | rfl | exact absurd rfl (h _)
theorem Zix (x:AVal):(∃ cs,x=.agg cs)\/∀ cs,x≠.agg cs:=by
 cases x <;> first | exact Xs ⟨_,rfl⟩ | (right;intro cs;simp)
theorem ZxS {σ:Za} {x:AVal} (h:ZaC x=true):showA σ x=some (Z9 x,[]):=by
 rcases Zix x with ⟨cs,rfl⟩ | hn
 ·simp only [ZaC] at h
  simp only [showA,Zkz h,Z9]
 ·rw [(Zen hn).1] at h
  rw [ZxV hn,(Zen hn).2]
  exact Zmq h
theorem Zf3 {σ:Za}:∀ {xs:List AVal},xs.all ZaC=true->showAs σ xs=some (xs.map Z9,[])
 | [],_=>rfl
 | x::xs,h=>by
  simp only [Wc,Xr] at h
  simp only [showAs,ZxS h.1,Zf3 h.2,Xy,XL]
theorem Zlk {x:AVal} (h:ZaO x=true):ZaG (ZaQ x)=[]:=by
 cases x
 case fn f cs=>cases cs <;> simp [ZaO] at h;rfl
 all_goals first | (simp [ZaO] at h;done) | rfl
theorem ZkW:∀ {xs:List AVal},xs.all ZaO=true->Z3 (xs.map ZaQ)=[]
 | [],_=>rfl
 | x::xs,h=>by
  simp only [Wc,Xr] at h
  simp only [Xy,Z3,Zlk h.1,ZkW h.2,XL]
theorem Zpc {x:AVal} (h:ZaC x=true):ZaG (Z9 x)=[]:=by
 rcases Zix x with ⟨cs,rfl⟩ | hn
 ·simp only [ZaC] at h
  simp only [Z9,ZaG];exact ZkW h
 ·rw [(Zen hn).1] at h
  rw [(Zen hn).2];exact Zlk h
theorem Zd6:∀ {xs:List AVal},xs.all ZaC=true->Z3 (xs.map Z9)=[]
 | [],_=>rfl
 | x::xs,h=>by
  simp only [Wc,Xr] at h
  simp only [Xy,Z3,Zpc h.1,Zd6 h.2,XL]
theorem Zlr {ρ:Rho} {x:AVal} (h:ZaO x=true):Zp ρ (ZaQ x)=ZaQ x:=by
 cases x
 case fn f cs=>cases cs <;> simp [ZaO] at h;rfl
 all_goals first | (simp [ZaO] at h;done) | rfl
theorem ZmY {ρ:Rho}:∀ {xs:List AVal},xs.all ZaO=true->ZX ρ (xs.map ZaQ)=xs.map ZaQ
 | [],_=>rfl
 | x::xs,h=>by
  simp only [Wc,Xr] at h
  simp only [Xy,ZX,Zlr h.1,ZmY h.2]
theorem ZpY {ρ:Rho} {x:AVal} (h:ZaC x=true):Zp ρ (Z9 x)=Z9 x:=by
 rcases Zix x with ⟨cs,rfl⟩ | hn
 ·simp only [ZaC] at h
  simp only [Z9,Zp];rw [ZmY h]
 ·rw [(Zen hn).1] at h
  rw [(Zen hn).2];exact Zlr h
theorem Zeb {ρ:Rho}:∀ {xs:List AVal},xs.all ZaC=true->ZX ρ (xs.map Z9)=xs.map Z9
 | [],_=>rfl
 | x::xs,h=>by
  simp only [Wc,Xr] at h
  simp only [Xy,ZX,ZpY h.1,Zeb h.2]
theorem Zy2 {O:ZV} {bf:Nat->Bool} {σ:Za} {sq f own:Nat} {view:Bool} {args:List AVal} (hb:bf f=false) (h:args.all ZaC=true) :
  ZR O bf σ sq f own view args=ZaJ σ σ [] [] sq own (ZaX view 0 (O f (args.map Z9) [])):=by
 unfold ZR ZbZ
 rw [hb]
 simp only [Xw,if_false,Zf3 h]
 have h1:ZT σ []=σ:=rfl
 rw [h1,Zd6 h]
 have h2:Zf σ 1000 [] []=[]:=rfl
 rw [h2]
 unfold Zby
 simp only [List.all_nil,if_true,Zeb h,Ze,Wf]
theorem ZvZ (σ:Za) (sq own:Nat) (r:AVal) (h:Zp (ZaL [] [] sq) r=r):ZaJ σ σ [] [] sq own (some (r,[]))=some (r,σ,{}):=by
 simp only [ZaJ,List.isEmpty_nil,Bool.and_self,if_true,ZcH,Bool.not_true,Bool.false_and,Xw,if_false]
 split
 ·rfl
 ·rw [h]
end
section
section
variable (ρ:Rho) (σ:Za)
theorem ZqB  : ZaD (.top)=false:=rfl
theorem ZzW  : ZaD (.any)=false:=rfl
theorem ZAz (k:IntKind) (n:Int):ZaD (.int k n)=false:=rfl
theorem Zvy (b:Bool):ZaD (.bool b)=false:=rfl
theorem Zyq (l:List UInt8):ZaD (.str l)=false:=rfl
theorem ZzV  : ZaD (.nilp)=false:=rfl
theorem ZwQ (t:Nat) (o:Nat):ZaD (.ref t o)=false:=rfl
theorem ZoY (t:Nat) (g:Nat) (i:Nat) (o:Nat):ZaD (.eref t g i o)=false:=rfl
theorem ZAJ (cs:List AVal) (o:Nat):ZaD (.iptr cs o)=false:=rfl
theorem Zsg (x:Bool) (xs:List AVal):ZaD (.lst x xs)=false:=rfl
theorem Zy9 (t:Nat) (g:Nat) (lo:Nat) (n:Nat):ZaD (.sl t g lo n)=false:=rfl
theorem Zqk (cs:List AVal):ZaD (.agg cs)=false:=rfl
theorem Zq1 (vs:List AVal):ZaD (.tup vs)=false:=rfl
theorem ZqI (f:Nat) (caps:List AVal):ZaD (.fn f caps)=false:=rfl
theorem ZyC  : ZaD (.nilm)=false:=rfl
theorem ZuB (t:Nat):ZaD (.map t)=false:=rfl
theorem ZtT  : ZaD (.nili)=false:=rfl
theorem ZzH (t:Nat) (x:AVal):ZaD (.iface t x)=false:=rfl
theorem ZvQ (x:AVal):ZaD (.pan x)=true:=rfl
theorem Zou  : Z5 (.top)=false:=rfl
theorem Zy3  : Z5 (.any)=true:=rfl
theorem Zrw (k:IntKind) (n:Int):Z5 (.int k n)=true:=rfl
theorem Zvd (b:Bool):Z5 (.bool b)=true:=rfl
theorem Zxb (l:List UInt8):Z5 (.str l)=true:=rfl
theorem ZwE  : Z5 (.nilp)=true:=rfl
theorem Zuj (t:Nat) (o:Nat):Z5 (.ref t o)=true:=rfl
theorem Zzc (t:Nat) (g:Nat) (i:Nat) (o:Nat):Z5 (.eref t g i o)=true:=rfl
theorem ZzC (cs:List AVal) (o:Nat):Z5 (.iptr cs o)=true:=rfl
theorem Zz6 (x:Bool) (xs:List AVal):Z5 (.lst x xs)=true:=rfl
theorem ZsQ (t:Nat) (g:Nat) (lo:Nat) (n:Nat):Z5 (.sl t g lo n)=true:=rfl
theorem ZtH (cs:List AVal):Z5 (.agg cs)=false:=rfl
theorem ZpV (vs:List AVal):Z5 (.tup vs)=false:=rfl
theorem Zw1 (f:Nat) (caps:List AVal):Z5 (.fn f caps)=true:=rfl
theorem Zsb  : Z5 (.nilm)=true:=rfl
theorem ZqV (t:Nat):Z5 (.map t)=true:=rfl
theorem ZpE  : Z5 (.nili)=true:=rfl
theorem Zzk (t:Nat) (x:AVal):Z5 (.iface t x)=true:=rfl
theorem Zp5 (x:AVal):Z5 (.pan x)=false:=rfl
theorem ZqA  : Zbe (.top)=false:=rfl
theorem Zw2  : Zbe (.any)=true:=rfl
theorem ZvJ (k:IntKind) (n:Int):Zbe (.int k n)=true:=rfl
theorem Zrm (b:Bool):Zbe (.bool b)=true:=rfl
theorem Zsm (l:List UInt8):Zbe (.str l)=true:=rfl
theorem ZuN  : Zbe (.nilp)=true:=rfl
theorem ZoZ (t:Nat) (o:Nat):Zbe (.ref t o)=true:=rfl
theorem Zwb (t:Nat) (g:Nat) (i:Nat) (o:Nat):Zbe (.eref t g i o)=true:=rfl
theorem ZuZ (cs:List AVal) (o:Nat):Zbe (.iptr cs o)=true:=rfl
theorem Zsd (x:Bool) (xs:List AVal):Zbe (.lst x xs)=true:=rfl
theorem Zon (t:Nat) (g:Nat) (lo:Nat) (n:Nat):Zbe (.sl t g lo n)=true:=rfl
theorem ZuP (cs:List AVal):Zbe (.agg cs)=true:=rfl
theorem Zz0 (vs:List AVal):Zbe (.tup vs)=true:=rfl
theorem Zru (f:Nat) (caps:List AVal):Zbe (.fn f caps)=true:=rfl
theorem Zpj  : Zbe (.nilm)=true:=rfl
theorem ZuK (t:Nat):Zbe (.map t)=true:=rfl
theorem ZyB  : Zbe (.nili)=true:=rfl
theorem Zpz (t:Nat) (x:AVal):Zbe (.iface t x)=true:=rfl
theorem ZsR (x:AVal):Zbe (.pan x)=true:=rfl
theorem ZzB  : ZaP (.top)=false:=rfl
theorem ZnU  : ZaP (.any)=false:=rfl
theorem ZyO (k:IntKind) (n:Int):ZaP (.int k n)=true:=rfl
theorem ZuL (b:Bool):ZaP (.bool b)=true:=rfl
theorem Zu8 (l:List UInt8):ZaP (.str l)=true:=rfl
theorem Zow  : ZaP (.nilp)=true:=rfl
theorem Zs9 (t:Nat) (o:Nat):ZaP (.ref t o)=false:=rfl
theorem ZnR (t:Nat) (g:Nat) (i:Nat) (o:Nat):ZaP (.eref t g i o)=false:=rfl
theorem Zwc (cs:List AVal) (o:Nat):ZaP (.iptr cs o)=false:=rfl
theorem Zrr (x:Bool) (xs:List AVal):ZaP (.lst x xs)=false:=rfl
theorem Zrd (t:Nat) (g:Nat) (lo:Nat) (n:Nat):ZaP (.sl t g lo n)=false:=rfl
theorem ZsS (cs:List AVal):ZaP (.agg cs)=false:=rfl
theorem ZuG (vs:List AVal):ZaP (.tup vs)=false:=rfl
theorem ZoW (f:Nat) (caps:List AVal):ZaP (.fn f caps)=false:=rfl
theorem Zzd  : ZaP (.nilm)=true:=rfl
theorem ZwL (t:Nat):ZaP (.map t)=false:=rfl
theorem Zwd  : ZaP (.nili)=true:=rfl
theorem Zzs (t:Nat) (x:AVal):ZaP (.iface t x)=false:=rfl
theorem ZuW (x:AVal):ZaP (.pan x)=false:=rfl
theorem Zn9  : ZaZ (.top)=false:=rfl
theorem Zri  : ZaZ (.any)=false:=rfl
theorem Zn4 (k:IntKind) (n:Int):ZaZ (.int k n)=true:=rfl
theorem Zvp (b:Bool):ZaZ (.bool b)=true:=rfl
theorem ZrQ (l:List UInt8):ZaZ (.str l)=true:=rfl
theorem ZpU  : ZaZ (.nilp)=true:=rfl
theorem Zuq (t:Nat) (o:Nat):ZaZ (.ref t o)=false:=rfl
theorem ZyD (t:Nat) (g:Nat) (i:Nat) (o:Nat):ZaZ (.eref t g i o)=false:=rfl
theorem Zod (cs:List AVal) (o:Nat):ZaZ (.iptr cs o)=false:=rfl
theorem ZqH (x:Bool) (xs:List AVal):ZaZ (.lst x xs)=false:=rfl
theorem ZvI (t:Nat) (g:Nat) (lo:Nat) (n:Nat):ZaZ (.sl t g lo n)=false:=rfl
theorem Zup (cs:List AVal):ZaZ (.agg cs)=cs.all ZaP:=rfl
theorem Zn7 (vs:List AVal):ZaZ (.tup vs)=false:=rfl
theorem ZoD (f:Nat) (caps:List AVal):ZaZ (.fn f caps)=false:=rfl
theorem ZzK  : ZaZ (.nilm)=true:=rfl
theorem ZvV (t:Nat):ZaZ (.map t)=false:=rfl
theorem ZAa  : ZaZ (.nili)=true:=rfl
theorem Zwj (t:Nat) (x:AVal):ZaZ (.iface t x)=false:=rfl
theorem ZrH (x:AVal):ZaZ (.pan x)=false:=rfl
theorem Zt0  : Za2 (.top)=false:=rfl
theorem ZxW  : Za2 (.any)=false:=rfl
theorem ZzG (k:IntKind) (n:Int):Za2 (.int k n)=true:=rfl
theorem Zo8 (b:Bool):Za2 (.bool b)=true:=rfl
theorem Zql (l:List UInt8):Za2 (.str l)=true:=rfl
theorem Zxo  : Za2 (.nilp)=true:=rfl
theorem ZnN (t:Nat) (o:Nat):Za2 (.ref t o)=false:=rfl
theorem ZAs (t:Nat) (g:Nat) (i:Nat) (o:Nat):Za2 (.eref t g i o)=false:=rfl
theorem ZoU (cs:List AVal) (o:Nat):Za2 (.iptr cs o)=false:=rfl
theorem Zny (x:Bool) (xs:List AVal):Za2 (.lst x xs)=false:=rfl
theorem ZsG (t:Nat) (g:Nat) (lo:Nat) (n:Nat):Za2 (.sl t g lo n)=false:=rfl
theorem ZwZ (cs:List AVal):Za2 (.agg cs)=cs.all ZaP:=rfl
theorem Zwr (vs:List AVal):Za2 (.tup vs)=vs.all ZaZ:=rfl
theorem ZsK (f:Nat) (caps:List AVal):Za2 (.fn f caps)=false:=rfl
theorem ZoM  : Za2 (.nilm)=true:=rfl
theorem ZnI (t:Nat):Za2 (.map t)=false:=rfl
theorem Zwv  : Za2 (.nili)=true:=rfl
theorem ZpB (t:Nat) (x:AVal):Za2 (.iface t x)=false:=rfl
theorem Zs4  : ZaO (.top)=false:=rfl
theorem ZvO  : ZaO (.any)=false:=rfl
theorem Zso (k:IntKind) (n:Int):ZaO (.int k n)=true:=rfl
theorem Zrs (b:Bool):ZaO (.bool b)=true:=rfl
theorem Zwh (l:List UInt8):ZaO (.str l)=true:=rfl
theorem ZuV  : ZaO (.nilp)=true:=rfl
theorem Zxp (t:Nat) (o:Nat):ZaO (.ref t o)=false:=rfl
theorem ZyT (t:Nat) (g:Nat) (i:Nat) (o:Nat):ZaO (.eref t g i o)=false:=rfl
theorem ZpF (cs:List AVal) (o:Nat):ZaO (.iptr cs o)=false:=rfl
theorem ZyP (x:Bool) (xs:List AVal):ZaO (.lst x xs)=true:=rfl
theorem Zse (t:Nat) (g:Nat) (lo:Nat) (n:Nat):ZaO (.sl t g lo n)=false:=rfl
theorem Zvv (cs:List AVal):ZaO (.agg cs)=false:=rfl
theorem ZAq (vs:List AVal):ZaO (.tup vs)=false:=rfl
theorem ZoS  : ZaO (.nilm)=true:=rfl
theorem Ztj (t:Nat):ZaO (.map t)=false:=rfl
theorem Zqy  : ZaO (.nili)=true:=rfl
theorem Zs7 (t:Nat) (x:AVal):ZaO (.iface t x)=false:=rfl
theorem Zq3 (x:AVal):ZaO (.pan x)=false:=rfl
theorem Zwn  : ZaC (.top)=false:=rfl
theorem Zoj  : ZaC (.any)=false:=rfl
theorem Zpn (k:IntKind) (n:Int):ZaC (.int k n)=true:=rfl
theorem ZxG (b:Bool):ZaC (.bool b)=true:=rfl
theorem ZnC (l:List UInt8):ZaC (.str l)=true:=rfl
theorem ZxU  : ZaC (.nilp)=true:=rfl
theorem ZpZ (t:Nat) (o:Nat):ZaC (.ref t o)=false:=rfl
theorem Zq9 (t:Nat) (g:Nat) (i:Nat) (o:Nat):ZaC (.eref t g i o)=false:=rfl
theorem Zoq (cs:List AVal) (o:Nat):ZaC (.iptr cs o)=false:=rfl
theorem ZAD (x:Bool) (xs:List AVal):ZaC (.lst x xs)=true:=rfl
theorem Zwz (t:Nat) (g:Nat) (lo:Nat) (n:Nat):ZaC (.sl t g lo n)=false:=rfl
theorem Zo5 (cs:List AVal):ZaC (.agg cs)=cs.all ZaO:=rfl
theorem ZvA (vs:List AVal):ZaC (.tup vs)=false:=rfl
theorem ZsI  : ZaC (.nilm)=true:=rfl
theorem Zyo (t:Nat):ZaC (.map t)=false:=rfl
theorem ZxT  : ZaC (.nili)=true:=rfl
theorem ZnX (t:Nat) (x:AVal):ZaC (.iface t x)=false:=rfl
theorem ZyI (x:AVal):ZaC (.pan x)=false:=rfl
theorem Zuh  : ZaQ (.top)=(.top):=rfl
theorem ZtG  : ZaQ (.any)=(.any):=rfl
theorem Zrn (k:IntKind) (n:Int):ZaQ (.int k n)=(.int k n):=rfl
theorem Zuu (b:Bool):ZaQ (.bool b)=(.bool b):=rfl
theorem ZsX (l:List UInt8):ZaQ (.str l)=(.str l):=rfl
theorem ZxF  : ZaQ (.nilp)=(.nilp):=rfl
theorem Zpr (t:Nat) (o:Nat):ZaQ (.ref t o)=(.ref t o):=rfl
theorem Zvj (t:Nat) (g:Nat) (i:Nat) (o:Nat):ZaQ (.eref t g i o)=(.eref t g i o):=rfl
theorem ZAy (cs:List AVal) (o:Nat):ZaQ (.iptr cs o)=(.iptr cs o):=rfl
theorem ZAn (x:Bool) (xs:List AVal):ZaQ (.lst x xs)=.lst false xs:=rfl
theorem Zzq (t:Nat) (g:Nat) (lo:Nat) (n:Nat):ZaQ (.sl t g lo n)=(.sl t g lo n):=rfl
theorem Zua (cs:List AVal):ZaQ (.agg cs)=(.agg cs):=rfl
theorem Zr2 (vs:List AVal):ZaQ (.tup vs)=(.tup vs):=rfl
theorem Zw8 (f:Nat) (caps:List AVal):ZaQ (.fn f caps)=(.fn f caps):=rfl
theorem Zo6  : ZaQ (.nilm)=(.nilm):=rfl
theorem ZwA (t:Nat):ZaQ (.map t)=(.map t):=rfl
theorem Zvr  : ZaQ (.nili)=(.nili):=rfl
theorem Zva (t:Nat) (x:AVal):ZaQ (.iface t x)=(.iface t x):=rfl
theorem Zyz (x:AVal):ZaQ (.pan x)=(.pan x):=rfl
theorem Zz9  : Z9 (.top)=(.top):=rfl
theorem Zxk  : Z9 (.any)=(.any):=rfl
theorem ZoX (k:IntKind) (n:Int):Z9 (.int k n)=(.int k n):=rfl
theorem Zv3 (b:Bool):Z9 (.bool b)=(.bool b):=rfl
theorem ZtU (l:List UInt8):Z9 (.str l)=(.str l):=rfl
theorem ZrA  : Z9 (.nilp)=(.nilp):=rfl
theorem Zuo (t:Nat) (o:Nat):Z9 (.ref t o)=(.ref t o):=rfl
theorem ZAw (t:Nat) (g:Nat) (i:Nat) (o:Nat):Z9 (.eref t g i o)=(.eref t g i o):=rfl
theorem Zrg (cs:List AVal) (o:Nat):Z9 (.iptr cs o)=(.iptr cs o):=rfl
theorem Zze (x:Bool) (xs:List AVal):Z9 (.lst x xs)=.lst false xs:=rfl
theorem ZsA (t:Nat) (g:Nat) (lo:Nat) (n:Nat):Z9 (.sl t g lo n)=(.sl t g lo n):=rfl
theorem ZqZ (cs:List AVal):Z9 (.agg cs)=.agg (cs.map ZaQ):=rfl
theorem Zpa (vs:List AVal):Z9 (.tup vs)=(.tup vs):=rfl
theorem Zt3 (f:Nat) (caps:List AVal):Z9 (.fn f caps)=(.fn f caps):=rfl
theorem Zok  : Z9 (.nilm)=(.nilm):=rfl
theorem ZoA (t:Nat):Z9 (.map t)=(.map t):=rfl
theorem Zs1  : Z9 (.nili)=(.nili):=rfl
theorem Zt2 (t:Nat) (x:AVal):Z9 (.iface t x)=(.iface t x):=rfl
theorem ZzM (x:AVal):Z9 (.pan x)=(.pan x):=rfl
theorem Zs8  : AVal.cells (.top)=[(.top)]:=rfl
theorem Zwq  : AVal.cells (.any)=[(.any)]:=rfl
theorem Zxr (k:IntKind) (n:Int):AVal.cells (.int k n)=[(.int k n)]:=rfl
theorem Ztc (b:Bool):AVal.cells (.bool b)=[(.bool b)]:=rfl
theorem ZoE (l:List UInt8):AVal.cells (.str l)=[(.str l)]:=rfl
theorem Zww  : AVal.cells (.nilp)=[(.nilp)]:=rfl
theorem Zti (t:Nat) (o:Nat):AVal.cells (.ref t o)=[(.ref t o)]:=rfl
theorem ZvP (t:Nat) (g:Nat) (i:Nat) (o:Nat):AVal.cells (.eref t g i o)=[(.eref t g i o)]:=rfl
theorem ZwR (cs:List AVal) (o:Nat):AVal.cells (.iptr cs o)=[(.iptr cs o)]:=rfl
theorem Zxz (x:Bool) (xs:List AVal):AVal.cells (.lst x xs)=[(.lst x xs)]:=rfl
theorem Zx6 (t:Nat) (g:Nat) (lo:Nat) (n:Nat):AVal.cells (.sl t g lo n)=[(.sl t g lo n)]:=rfl
theorem ZqW (cs:List AVal):AVal.cells (.agg cs)=cs:=rfl
theorem Zpd (vs:List AVal):AVal.cells (.tup vs)=[(.tup vs)]:=rfl
theorem Zrb (f:Nat) (caps:List AVal):AVal.cells (.fn f caps)=[(.fn f caps)]:=rfl
theorem ZxO  : AVal.cells (.nilm)=[(.nilm)]:=rfl
theorem Zpy (t:Nat):AVal.cells (.map t)=[(.map t)]:=rfl
theorem ZyF  : AVal.cells (.nili)=[(.nili)]:=rfl
theorem Zqi (t:Nat) (x:AVal):AVal.cells (.iface t x)=[(.iface t x)]:=rfl
theorem ZqL (x:AVal):AVal.cells (.pan x)=[(.pan x)]:=rfl
theorem Zsj  : ZaA (.top)=(.top):=rfl
theorem ZtB  : ZaA (.any)=(.any):=rfl
theorem Zt1 (k:IntKind) (n:Int):ZaA (.int k n)=(.int k n):=rfl
theorem ZtQ (b:Bool):ZaA (.bool b)=(.bool b):=rfl
theorem ZAH (l:List UInt8):ZaA (.str l)=(.str l):=rfl
theorem ZAL  : ZaA (.nilp)=(.nilp):=rfl
theorem Zn8 (t:Nat) (o:Nat):ZaA (.ref t o)=(.ref t o):=rfl
theorem Zyl (t:Nat) (g:Nat) (i:Nat) (o:Nat):ZaA (.eref t g i o)=(.eref t g i o):=rfl
theorem Zs0 (cs:List AVal) (o:Nat):ZaA (.iptr cs o)=(.iptr cs o):=rfl
theorem Znm (x:Bool) (xs:List AVal):ZaA (.lst x xs)=(.lst x xs):=rfl
theorem ZoL (t:Nat) (g:Nat) (lo:Nat) (n:Nat):ZaA (.sl t g lo n)=(.sl t g lo n):=rfl
theorem ZAt (cs:List AVal):ZaA (.agg cs)=(.agg cs):=rfl
theorem Zt4 (vs:List AVal):ZaA (.tup vs)=(.tup vs):=rfl
theorem Zt7 (f:Nat) (caps:List AVal):ZaA (.fn f caps)=(.fn f caps):=rfl
theorem ZnJ  : ZaA (.nilm)=(.nilm):=rfl
theorem Zut (t:Nat):ZaA (.map t)=(.map t):=rfl
theorem Zuk  : ZaA (.nili)=(.nili):=rfl
theorem ZpW (t:Nat) (x:AVal):ZaA (.iface t x)=(.iface t x):=rfl
theorem ZrM (x:AVal):ZaA (.pan x)=x:=rfl
theorem Zss  : ZaN (.top)=4:=rfl
theorem Zoh  : ZaN (.any)=4:=rfl
theorem Zyi (k:IntKind) (n:Int):ZaN (.int k n)=0:=rfl
theorem Zu0 (b:Bool):ZaN (.bool b)=1:=rfl
theorem Zx7 (l:List UInt8):ZaN (.str l)=2:=rfl
theorem Zwf  : ZaN (.nilp)=4:=rfl
theorem Znn (t:Nat) (o:Nat):ZaN (.ref t o)=4:=rfl
theorem ZqP (t:Nat) (g:Nat) (i:Nat) (o:Nat):ZaN (.eref t g i o)=4:=rfl
theorem ZuX (cs:List AVal) (o:Nat):ZaN (.iptr cs o)=4:=rfl
theorem ZrW (x:Bool) (xs:List AVal):ZaN (.lst x xs)=4:=rfl
theorem ZuY (t:Nat) (g:Nat) (lo:Nat) (n:Nat):ZaN (.sl t g lo n)=4:=rfl
theorem Zv0 (cs:List AVal):ZaN (.agg cs)=4:=rfl
theorem ZrF (vs:List AVal):ZaN (.tup vs)=4:=rfl
theorem ZnD (f:Nat) (caps:List AVal):ZaN (.fn f caps)=4:=rfl
theorem Zwp  : ZaN (.nilm)=4:=rfl
theorem ZwF (t:Nat):ZaN (.map t)=4:=rfl
theorem Zzz  : ZaN (.nili)=4:=rfl
theorem ZAk (t:Nat) (x:AVal):ZaN (.iface t x)=4:=rfl
theorem Ztg (x:AVal):ZaN (.pan x)=4:=rfl
theorem ZAe  : ZaG (.top)=[]:=rfl
theorem ZAM  : ZaG (.any)=[]:=rfl
theorem Zx0 (k:IntKind) (n:Int):ZaG (.int k n)=[]:=rfl
theorem ZsH (b:Bool):ZaG (.bool b)=[]:=rfl
theorem ZtI (l:List UInt8):ZaG (.str l)=[]:=rfl
theorem ZAb  : ZaG (.nilp)=[]:=rfl
theorem ZwV (t:Nat) (o:Nat):ZaG (.ref t o)=[t]:=rfl
theorem ZnM (t:Nat) (g:Nat) (i:Nat) (o:Nat):ZaG (.eref t g i o)=[t]:=rfl
theorem ZwW (cs:List AVal) (o:Nat):ZaG (.iptr cs o)=[]:=rfl
theorem Zoy (x:Bool) (xs:List AVal):ZaG (.lst x xs)=[]:=rfl
theorem Zuw (t:Nat) (g:Nat) (lo:Nat) (n:Nat):ZaG (.sl t g lo n)=[t]:=rfl
theorem Zwo (cs:List AVal):ZaG (.agg cs)=Z3 cs:=rfl
theorem ZoR (vs:List AVal):ZaG (.tup vs)=Z3 vs:=rfl
theorem Zzi (f:Nat) (caps:List AVal):ZaG (.fn f caps)=Z3 caps:=rfl
theorem Zvm  : ZaG (.nilm)=[]:=rfl
theorem Zsl (t:Nat):ZaG (.map t)=[t]:=rfl
theorem Zq5  : ZaG (.nili)=[]:=rfl
theorem ZAi (t:Nat) (x:AVal):ZaG (.iface t x)=ZaG x:=rfl
theorem ZnG (x:AVal):ZaG (.pan x)=ZaG x:=rfl
theorem Zx9  : Zp ρ (.top)=(.top):=rfl
theorem Zxm  : Zp ρ (.any)=(.any):=rfl
theorem Zu4 (k:IntKind) (n:Int):Zp ρ (.int k n)=(.int k n):=rfl
theorem Ztr (b:Bool):Zp ρ (.bool b)=(.bool b):=rfl
theorem ZrJ (l:List UInt8):Zp ρ (.str l)=(.str l):=rfl
theorem Zot  : Zp ρ (.nilp)=(.nilp):=rfl
theorem ZpX (cs:List AVal) (o:Nat):Zp ρ (.iptr cs o)=(.iptr cs o):=rfl
theorem ZvK (x:Bool) (xs:List AVal):Zp ρ (.lst x xs)=(.lst x xs):=rfl
theorem ZqM (cs:List AVal):Zp ρ (.agg cs)=.agg (ZX ρ cs):=rfl
theorem Zu9 (vs:List AVal):Zp ρ (.tup vs)=.tup (ZX ρ vs):=rfl
theorem ZsY (f:Nat) (caps:List AVal):Zp ρ (.fn f caps)=.fn f (ZX ρ caps):=rfl
theorem Zvq  : Zp ρ (.nilm)=(.nilm):=rfl
theorem Zun  : Zp ρ (.nili)=(.nili):=rfl
theorem Zxd (t:Nat) (x:AVal):Zp ρ (.iface t x)=.iface t (Zp ρ x):=rfl
theorem ZtX (x:AVal):Zp ρ (.pan x)=.pan (Zp ρ x):=rfl
theorem Zyg (f:Nat):ZaO (.fn f [])=true:=rfl
theorem Ztn (f:Nat):ZaC (.fn f [])=true:=rfl
theorem Zq2 (t:Nat) (x:AVal):Za2 (.pan (.iface t x))=ZaP x:=rfl
theorem Zxy (live:List Nat) (tm:Tms):Zf9 live (some (tm,σ,none))=some (.normal,keepL live tm,σ):=rfl
theorem ZvC (live:List Nat) (tm:Tms) (x:AVal):Zf9 live (some (tm,σ,some x))=some (.panic x,[],σ):=rfl
theorem Zvc (live:List Nat):Zf9 live none=none:=rfl
theorem Zzh (t o:Nat):Zp ρ (.ref t o)=(match ρ t 0 with | some (t',0)=>.ref t' o | _=>.any):=rfl
theorem Zxf (t:Nat):Zp ρ (.map t)=(match ρ t 0 with | some (t',0)=>.map t' | _=>.any):=rfl
theorem Zp9 (t g lo n:Nat):Zp ρ (.sl t g lo n)=(match ρ t g with | some (t',g')=>.sl t' g' lo n | none=>.any):=rfl
theorem Zrc (t g i o:Nat):Zp ρ (.eref t g i o)=(match ρ t g with | some (t',g')=>.eref t' g' i o | none=>.any):=rfl
theorem ZsW:Z3 []=[]:=rfl
theorem Zt8 (x:AVal) (xs:List AVal):Z3 (x::xs)=ZaG x++Z3 xs:=rfl
theorem ZsM:ZX ρ []=[]:=rfl
theorem ZnV (x:AVal) (xs:List AVal):ZX ρ (x::xs)=Zp ρ x::ZX ρ xs:=rfl
end
end
section
mutual
def Zas:AVal->Bool
 | .ref _ _=>false
 | .eref _ _ _ _=>false
 | .sl _ _ _ _=>false
 | .map _=>false
 | .agg cs=>Zq cs
 | .tup vs=>Zq vs
 | .fn _ vs=>Zq vs
 | .iface _ x=>Zas x
 | .pan x=>Zas x
 | .top=>true
 | .any=>true
 | .int _ _=>true
 | .bool _=>true
 | .str _=>true
 | .nilp=>true
 | .nilm=>true
 | .nili=>true
 | .iptr _ _=>true
 | .lst _ _=>true
def Zq:List AVal->Bool
 | []=>true
 | x::xs=>Zas x && Zq xs
end
mutual
theorem Zco (ρ:Rho):∀ (x:AVal),Zas x=true->Zp ρ x=x/\ZaG x=[]
 | .ref _ _,h=>by simp [Zas] at h
 | .eref _ _ _ _,h=>by simp [Zas] at h
 | .sl _ _ _ _,h=>by simp [Zas] at h
 | .map _,h=>by simp [Zas] at h
 | .agg cs,h=>by have:=Zfm ρ cs (by simpa only [Zas] using h);exact ⟨by simp only [Zp,this.1],by simp only [ZaG,this.2]⟩
 | .tup cs,h=>by have:=Zfm ρ cs (by simpa only [Zas] using h);exact ⟨by simp only [Zp,this.1],by simp only [ZaG,this.2]⟩
 | .fn f cs,h=>by have:=Zfm ρ cs (by simpa only [Zas] using h);exact ⟨by simp only [Zp,this.1],by simp only [ZaG,this.2]⟩
 | .iface t x,h=>by have:=Zco ρ x (by simpa only [Zas] using h);exact ⟨by simp only [Zp,this.1],by simp only [ZaG,this.2]⟩
 | .pan x,h=>by have:=Zco ρ x (by simpa only [Zas] using h);exact ⟨by simp only [Zp,this.1],by simp only [ZaG,this.2]⟩
 | .top,_=>⟨rfl,rfl⟩
 | .any,_=>⟨rfl,rfl⟩
 | .int _ _,_=>⟨rfl,rfl⟩
 | .bool _,_=>⟨rfl,rfl⟩
 | .str _,_=>⟨rfl,rfl⟩
 | .nilp,_=>⟨rfl,rfl⟩
 | .nilm,_=>⟨rfl,rfl⟩
 | .nili,_=>⟨rfl,rfl⟩
 | .iptr _ _,_=>⟨rfl,rfl⟩
 | .lst _ _,_=>⟨rfl,rfl⟩
theorem Zfm (ρ:Rho):∀ (xs:List AVal),Zq xs=true->ZX ρ xs=xs/\Z3 xs=[]
 | [],_=>⟨rfl,rfl⟩
 | x::xs,h=>by
  simp only [Zq,Xr] at h
  have h1:=Zco ρ x h.1
  have h2:=Zfm ρ xs h.2
  exact ⟨by simp only [ZX,h1.1,h2.1],by simp only [Z3,h1.2,h2.2,XL]⟩
end
theorem ZuJ {σ:Za} {r:AVal} (h:Zas r=true):Za8 0 σ r=some (r,[]):=by
 have h1:=Zco (Zd σ 0 []) r h
 have hids:Zl 0 [r] σ=[]:=by
  unfold Zl
  simp only [Z3,h1.2,XL,List.range_zero,List.flatMap_nil]
  rfl
 unfold Za8 gcA
 simp only [hids,ZX,Ze,h1.1]
def ZbC:AVal->AVal
 | .tup vs=>.tup (vs.map Z9)
 | x=>Z9 x
def ZbE:AVal->Bool
 | .tup vs=>vs.all ZaC
 | x=>ZaC x
def Zbc:AVal->Bool
 | .fn _ _=>false
 | _=>true
def Zbf:AVal->Bool
 | .agg cs=>cs.all Zbc
 | x=>Zbc x
def ZbA:AVal->Bool
 | .tup vs=>vs.all Zbf
 | x=>Zbf x
theorem Zno {m:Nat} {fn:Zau} {tm:Tms} {σ:Za}:ZaS m fn (some (.ret,tm,σ))=match resA tm σ fn.res with
  | some r=>Za8 m σ r
  | none=>none:=rfl
theorem Zyb {m:Nat} {fn:Zau} {tm:Tms} {σ:Za}:ZaS m fn (some (.normal,tm,σ))=match resA tm σ fn.res with
  | some r=>Za8 m σ r
  | none=>none:=rfl
theorem Ztv {m:Nat} {fn:Zau} {tm:Tms} {σ:Za} {x:AVal}:ZaS m fn (some (.panic x,tm,σ))=Za8 m σ (.pan x):=rfl
theorem ZuU  : Zas (.top)=true:=rfl
theorem Zqh  : Zas (.any)=true:=rfl
theorem Zzl (k:IntKind) (n:Int):Zas (.int k n)=true:=rfl
theorem Zvz (b:Bool):Zas (.bool b)=true:=rfl
theorem Zvf (l:List UInt8):Zas (.str l)=true:=rfl
theorem Zza  : Zas (.nilp)=true:=rfl
theorem ZzY (t:Nat) (o:Nat):Zas (.ref t o)=false:=rfl
theorem Zxc (t:Nat) (g:Nat) (i:Nat) (o:Nat):Zas (.eref t g i o)=false:=rfl
theorem ZpI (cs:List AVal) (o:Nat):Zas (.iptr cs o)=true:=rfl
theorem ZtC (x:Bool) (xs:List AVal):Zas (.lst x xs)=true:=rfl
theorem ZAN (t:Nat) (g:Nat) (lo:Nat) (n:Nat):Zas (.sl t g lo n)=false:=rfl
theorem Zsf (cs:List AVal):Zas (.agg cs)=Zq cs:=rfl
theorem Zr7 (vs:List AVal):Zas (.tup vs)=Zq vs:=rfl
theorem Zue (f:Nat) (caps:List AVal):Zas (.fn f caps)=Zq caps:=rfl
theorem Zud  : Zas (.nilm)=true:=rfl
theorem Zqu (t:Nat):Zas (.map t)=false:=rfl
theorem Zom  : Zas (.nili)=true:=rfl
theorem Zx2 (t:Nat) (x:AVal):Zas (.iface t x)=Zas x:=rfl
theorem Zye (x:AVal):Zas (.pan x)=Zas x:=rfl
theorem ZtA  : Zbc (.top)=true:=rfl
theorem ZvM  : Zbc (.any)=true:=rfl
theorem ZAO (k:IntKind) (n:Int):Zbc (.int k n)=true:=rfl
theorem Zyu (b:Bool):Zbc (.bool b)=true:=rfl
theorem Zst (l:List UInt8):Zbc (.str l)=true:=rfl
theorem Zxq  : Zbc (.nilp)=true:=rfl
theorem Ztk (t:Nat) (o:Nat):Zbc (.ref t o)=true:=rfl
theorem ZuQ (t:Nat) (g:Nat) (i:Nat) (o:Nat):Zbc (.eref t g i o)=true:=rfl
theorem Zyh (cs:List AVal) (o:Nat):Zbc (.iptr cs o)=true:=rfl
theorem Zv7 (x:Bool) (xs:List AVal):Zbc (.lst x xs)=true:=rfl
theorem Zrq (t:Nat) (g:Nat) (lo:Nat) (n:Nat):Zbc (.sl t g lo n)=true:=rfl
theorem Ztd (cs:List AVal):Zbc (.agg cs)=true:=rfl
theorem Zwx (vs:List AVal):Zbc (.tup vs)=true:=rfl
theorem ZyG (f:Nat) (caps:List AVal):Zbc (.fn f caps)=false:=rfl
theorem Zrh  : Zbc (.nilm)=true:=rfl
theorem Zw9 (t:Nat):Zbc (.map t)=true:=rfl
theorem ZwJ  : Zbc (.nili)=true:=rfl
theorem ZrI (t:Nat) (x:AVal):Zbc (.iface t x)=true:=rfl
theorem ZsC (x:AVal):Zbc (.pan x)=true:=rfl
theorem Zxu  : Zbf (.top)=true:=rfl
theorem Ztx  : Zbf (.any)=true:=rfl
theorem ZoB (k:IntKind) (n:Int):Zbf (.int k n)=true:=rfl
theorem Zqg (b:Bool):Zbf (.bool b)=true:=rfl
theorem ZtP (l:List UInt8):Zbf (.str l)=true:=rfl
theorem Zzo  : Zbf (.nilp)=true:=rfl
theorem ZpN (t:Nat) (o:Nat):Zbf (.ref t o)=true:=rfl
theorem ZnQ (t:Nat) (g:Nat) (i:Nat) (o:Nat):Zbf (.eref t g i o)=true:=rfl
theorem ZoN (cs:List AVal) (o:Nat):Zbf (.iptr cs o)=true:=rfl
theorem Zo4 (x:Bool) (xs:List AVal):Zbf (.lst x xs)=true:=rfl
theorem Zuc (t:Nat) (g:Nat) (lo:Nat) (n:Nat):Zbf (.sl t g lo n)=true:=rfl
theorem ZtR (cs:List AVal):Zbf (.agg cs)=cs.all Zbc:=rfl
theorem Zop (vs:List AVal):Zbf (.tup vs)=true:=rfl
theorem ZsT (f:Nat) (caps:List AVal):Zbf (.fn f caps)=false:=rfl
theorem ZtS  : Zbf (.nilm)=true:=rfl
theorem Znq (t:Nat):Zbf (.map t)=true:=rfl
theorem Zv9  : Zbf (.nili)=true:=rfl
theorem ZrP (t:Nat) (x:AVal):Zbf (.iface t x)=true:=rfl
theorem Zub (x:AVal):Zbf (.pan x)=true:=rfl
theorem Zp6  : ZbA (.top)=true:=rfl
theorem Zzm  : ZbA (.any)=true:=rfl
theorem Zr9 (k:IntKind) (n:Int):ZbA (.int k n)=true:=rfl
theorem Zn0 (b:Bool):ZbA (.bool b)=true:=rfl
theorem Zob (l:List UInt8):ZbA (.str l)=true:=rfl
theorem ZnL  : ZbA (.nilp)=true:=rfl
theorem Zn5 (t:Nat) (o:Nat):ZbA (.ref t o)=true:=rfl
theorem Zzt (t:Nat) (g:Nat) (i:Nat) (o:Nat):ZbA (.eref t g i o)=true:=rfl
theorem ZqY (cs:List AVal) (o:Nat):ZbA (.iptr cs o)=true:=rfl
theorem ZxH (x:Bool) (xs:List AVal):ZbA (.lst x xs)=true:=rfl
theorem Zn3 (t:Nat) (g:Nat) (lo:Nat) (n:Nat):ZbA (.sl t g lo n)=true:=rfl
theorem ZzO (cs:List AVal):ZbA (.agg cs)=cs.all Zbc:=rfl
theorem Zyn (vs:List AVal):ZbA (.tup vs)=vs.all Zbf:=rfl
theorem Zyv (f:Nat) (caps:List AVal):ZbA (.fn f caps)=false:=rfl
theorem Zvb  : ZbA (.nilm)=true:=rfl
theorem Zqd (t:Nat):ZbA (.map t)=true:=rfl
theorem Zyp  : ZbA (.nili)=true:=rfl
theorem Zsi (t:Nat) (x:AVal):ZbA (.iface t x)=true:=rfl
theorem Zvl (x:AVal):ZbA (.pan x)=true:=rfl
theorem Zx4  : ZbE (.top)=false:=rfl
theorem Zzb  : ZbE (.any)=false:=rfl
theorem Zvi (k:IntKind) (n:Int):ZbE (.int k n)=true:=rfl
theorem ZzP (b:Bool):ZbE (.bool b)=true:=rfl
theorem Zya (l:List UInt8):ZbE (.str l)=true:=rfl
theorem ZyN  : ZbE (.nilp)=true:=rfl
theorem ZpQ (t:Nat) (o:Nat):ZbE (.ref t o)=false:=rfl
theorem ZoP (t:Nat) (g:Nat) (i:Nat) (o:Nat):ZbE (.eref t g i o)=false:=rfl
theorem Zxs (cs:List AVal) (o:Nat):ZbE (.iptr cs o)=false:=rfl
theorem Zpi (x:Bool) (xs:List AVal):ZbE (.lst x xs)=true:=rfl
theorem Zxj (t:Nat) (g:Nat) (lo:Nat) (n:Nat):ZbE (.sl t g lo n)=false:=rfl
theorem Zs5 (cs:List AVal):ZbE (.agg cs)=cs.all ZaO:=rfl
theorem ZyZ (vs:List AVal):ZbE (.tup vs)=vs.all ZaC:=rfl
theorem Zpe  : ZbE (.nilm)=true:=rfl
theorem Zv6 (t:Nat):ZbE (.map t)=false:=rfl
theorem ZoT  : ZbE (.nili)=true:=rfl
theorem Zog (t:Nat) (x:AVal):ZbE (.iface t x)=false:=rfl
theorem ZAp (x:AVal):ZbE (.pan x)=false:=rfl
theorem Zz4  : ZbC (.top)=(.top):=rfl
theorem Zxl  : ZbC (.any)=(.any):=rfl
theorem Zn2 (k:IntKind) (n:Int):ZbC (.int k n)=(.int k n):=rfl
theorem Zrv (b:Bool):ZbC (.bool b)=(.bool b):=rfl
theorem Zrz (l:List UInt8):ZbC (.str l)=(.str l):=rfl
theorem Zvn  : ZbC (.nilp)=(.nilp):=rfl
theorem ZAd (t:Nat) (o:Nat):ZbC (.ref t o)=(.ref t o):=rfl
theorem Zxg (t:Nat) (g:Nat) (i:Nat) (o:Nat):ZbC (.eref t g i o)=(.eref t g i o):=rfl
theorem ZAK (cs:List AVal) (o:Nat):ZbC (.iptr cs o)=(.iptr cs o):=rfl
theorem ZwC (x:Bool) (xs:List AVal):ZbC (.lst x xs)=.lst false xs:=rfl
theorem Zyy (t:Nat) (g:Nat) (lo:Nat) (n:Nat):ZbC (.sl t g lo n)=(.sl t g lo n):=rfl
theorem Zzu (cs:List AVal):ZbC (.agg cs)=.agg (cs.map ZaQ):=rfl
theorem ZxY (vs:List AVal):ZbC (.tup vs)=.tup (vs.map Z9):=rfl
theorem ZnY (f:Nat) (caps:List AVal):ZbC (.fn f caps)=(.fn f caps):=rfl
theorem ZrT  : ZbC (.nilm)=(.nilm):=rfl
theorem Zqj (t:Nat):ZbC (.map t)=(.map t):=rfl
theorem ZwS  : ZbC (.nili)=(.nili):=rfl
theorem ZyH (t:Nat) (x:AVal):ZbC (.iface t x)=(.iface t x):=rfl
theorem Zqc (x:AVal):ZbC (.pan x)=(.pan x):=rfl
theorem ZwG:Zq []=true:=rfl
theorem Zsx (x:AVal) (xs:List AVal):Zq (x::xs)=(Zas x && Zq xs):=rfl
theorem ZyM (f:Nat):ZbE (.fn f [])=true:=rfl
theorem Zrf (p q:Bool):(if p=true then q else false)=(p && q):=by cases p <;> rfl
theorem Zwi (p q:Bool):(if p=true then true else q)=(p || q):=by cases p <;> rfl
theorem Zzj (p q:Bool):(if p=true then false else q)=(!p && q):=by cases p <;> rfl
theorem ZuT (p q:Bool):(if p=true then q else true)=(!p || q):=by cases p <;> rfl
theorem Zta (p q:Bool):(if p=false then q else false)=(!p && q):=by cases p <;> rfl
theorem ZpP (p q:Bool):(if p=false then true else q)=(!p || q):=by cases p <;> rfl
theorem ZxP (p q:Bool):(if p=false then false else q)=(p && q):=by cases p <;> rfl
theorem ZsV (p q:Bool):(if p=false then q else true)=(p || q):=by cases p <;> rfl
section
def Zc2 (o:AOp):AOp:=⟨o.dst,o.ins,o.guard,[]⟩
def Zbm:Zs->Zs
 | .region ops chk live=>.region (ops.map Zc2) chk live
 | .seq a b=>.seq (Zbm a) (Zbm b)
 | .cond c a b=>.cond c (Zbm a) (Zbm b)
 | .block id c=>.block id (Zbm c)
 | .loop live c=>.loop live (Zbm c)
 | .skip=>.skip
 | .exit id=>.exit id
 | .ret=>.ret
 | .stuck=>.stuck
def ZgU (f:Zau):Zau:=⟨f.res,Zbm f.body⟩
section
variable {O:ZV} {bf:Nat->Bool}
theorem Zoi (o:AOp) (s:Nat) (tm:Tms) (σ:Za):ZS O bf (Zc2 o) s tm σ=ZS O bf o s tm σ:=rfl
theorem ZlL:∀ (ops:List AOp) (s:Nat) (tm:Tms) (σ:Za),ZY O bf (ops.map Zc2) s tm σ=ZY O bf ops s tm σ
 | [],_,_,_=>rfl
 | o::os,s,tm,σ=>by
  simp only [Xy,ZY,Zoi]
  split
  ·rfl
  ·rfl
  ·rename_i tm' σ' c _ _
   rw [show (Zc2 o).ins=o.ins from rfl,ZlL os]
theorem Zir (ops:List AOp):sitesOf (ops.map Zc2)=sitesOf ops:=by
 simp [sitesOf,Zc2,Function.comp_def]
theorem Zhd (ops:List AOp) (i:Nat):((ops.map Zc2).getD i default).ins=(ops.getD i default).ins:=by
 simp only [Xi,X4]
 cases ops[i]? <;> rfl
theorem ZoK (ops:List AOp) (b:Nat) (l:List (Nat×Nat)) (cs:List Cls):Zcd (ops.map Zc2) b l cs=Zcd ops b l cs:=by
 unfold Zcd
 congr 1
 funext p
 unfold ZbQ Zbv
 rw [Zhd,Zhd,<-Xbb,Zir]
theorem ZAx (ops:List AOp) (b:Nat) (l:List (Nat×Nat)) (cs:List Cls):Zej (ops.map Zc2) b l cs=Zej ops b l cs:=by
 unfold Zej
 congr 2
 funext p
 unfold ZbQ Zbv
 rw [Zhd,Zhd,<-Xbb,Zir]
theorem ZzI (ops:List AOp) (chk:Option (List (Nat×Nat))) (live:List Nat) (tm:Tms) (σ:Za):ZbL O bf (ops.map Zc2) chk live tm σ=ZbL O bf ops chk live tm σ:=by
 unfold ZbL
 rw [ZlL,Zir]
 cases ZY O bf ops σ.length tm (σ++XD (sitesOf ops) .free) with
 | none=>rfl
 | some q =>
  obtain ⟨tm',σ',cs,p⟩:=q
  cases p with
  | some x =>
   cases chk with
   | none=>rfl
   | some l=>simp only [ZcF,ZAx]
  | none =>
   cases chk with
   | none=>rfl
   | some l=>simp only [ZcF,ZoK]
theorem ZcR (m n:Nat):∀ (c:Zs),Z2 O bf m n (Zbm c)=Z2 O bf m n c
 | .region ops chk live=>by funext tm σ;simp only [Zbm,Z2,ZzI]
 | .seq a b=>by funext tm σ;simp only [Zbm,Z2,ZcR m n a,ZcR m n b]
 | .cond c a b=>by funext tm σ;simp only [Zbm,Z2,ZcR m n a,ZcR m n b]
 | .block id c=>by funext tm σ;simp only [Zbm,Z2,ZcR m n c]
 | .loop live c=>by funext tm σ;simp only [Zbm,Z2,ZcR m n c]
 | .skip=>rfl
 | .exit id=>rfl
 | .ret=>rfl
 | .stuck=>rfl
end
theorem ZhP (fs:Nat->Option Zau) (prim:Zbr) (bf:Nat->Bool):∀ n,Zam (fun f=>(fs f).map ZgU) prim bf n=Zam fs prim bf n
 | 0=>rfl
 | n+1=>by
  funext f args σ
  simp only [Zam,ZhP fs prim bf n]
  cases prim f with
  | some g=>rfl
  | none =>
   cases fs f with
   | none=>rfl
   | some fn =>
    simp only [XN,ZgU,ZcR]
    rfl
theorem Zo2 (fs:Nat->Option Zau) (prim:Zbr) (bf:Nat->Bool):EV (fun f=>(fs f).map ZgU) prim bf=EV fs prim bf:=by
 funext f args σ
 apply Zc7
 intro r
 rw [ZcG,ZcG]
 simp only [ZhP]
end
end
section
open Go.RowKit
def Ziv:List AVal->Za->Option (AVal×Za):=fun _ _=>none
theorem ZvB {α:Prop} {args:List AVal} {σ:Za} {r:AVal×Za} (h:Ziv args σ=some r):α:=by cases h
def ZjB:Ann:={ nt:=8,lr:=fun _=>[7,6,5,4,3,2,0] }
structure ZAQ (P:Program) (t:TypeId) (k bytes:Nat) (z:AVal) (f:FuncId):Prop where
 ex:∃ (F:Func) (e:TypeId) (i0 i1 i2 i3:Nat) (r0 r2 r3:Array Oper) (m b:Oper),
  P.funcs[f]?=some F/\F.results=#[.tmp 2]/\F.ntmps=8/\(F.name == "runtime.NumGoroutine")=false/\P.underlying t=some (.slice e) /\
  F.body=some (.seq (.region i0 r0 false) (.seq (.seq (.region i1 #[m,b] false) (.cond (.tmp 4) (.seq (.region i2 r2 false) .ret) .skip)) (.seq (.region i3 r3 false) .ret))) /\
  m.op=.move (.tmp 0)/\m.dst=some 3/\m.guard=none/\b.op=.binOp .eql t (.tmp 3) (.const (.slice none 0 0)) t/\b.dst=some 4/\b.guard=none /\
  ZbB P ZjB r0 r0.toList=some [⟨some 2,.mov (.c (.lst true [])),none,[]⟩] /\
  ZbB P ZjB r2 r2.toList=some [⟨some 2,.mov (.c (.lst true [])),none,[]⟩] /\
  (∃ a1 a2 a3 a4,ZbB P ZjB r3 r3.toList=some [⟨some 5,.bslice false k 0 z [],none,a1⟩,⟨some 6,.mov (.t 0),none,a2⟩,⟨some 7,.app k bytes z (.t 5) (.t 6),none,a3⟩,⟨some 2,.mov (.t 7),none,a4⟩])/\z.cells.length=k/\0 < k
section
variable {P:Program} {base:Nat->Prop} {w0 w w':World} {I0 I:Imm} {β:Bmap} {σ:Za}
theorem noO:Zao P (fun _ _ _=>none):=by intro f args σ r σ' h;cases h
theorem Zfi {ops:Array Oper} {Q:Exit->Act->World->Prop} {o:Oper} {l:List Oper} {a:Act} {w:World} (hg:o.guard=none) (h:o.wp P a w (wpList P ops Q l) Q):wpList P ops Q (o::l) a w:=by
 unfold wpList
 have : Region.wanted o (yielded ops a.tmps)=true:=by unfold Region.wanted;rw [hg]
 rw [this]
 simp only [if_true]
 exact Xs h
end
end
section
open Go.RowKit
structure ZAS (P:Program) (f h:FuncId) (ti tc:TypeId) (an1 an2 an3:Ann) (c1 c2 c3:Zs) (rs:List Zb0):Prop where
 ex:∃ (F H:Func) (b1 b2 b3 b4:Code) (i0 j0 j1 j2 j3 bid:Nat) (t1 t2 t3 t4 t5 t6 t7 t8:TypeId) (p1 p2 p3 p4 p5 p6 p7 p8:String) (a1 a2 a3 a4 a5 a6 a7 a8:Array Edge) (at1 at2:Array TypeId) (ims:Array (String×TypeId)) (k:IntKind),
  P.funcs[f]?=some F/\(F.name == "runtime.NumGoroutine")=false/\F.ntmps=20/\ZcL P F.results.toList=some rs /\
  F.body=some (.seq b1 (.seq (.region i0 #[⟨some 5,.makeFunc (.func h) #[] #[.tmp 2,.tmp 3],t1,p1,a1,none⟩,⟨none,.defer ⟨.value (.tmp 5),#[],at1⟩,t2,p2,a2,none⟩] false) b2)) /\
  Zbm (ZaE P an1 b1)=c1/\Zbm (ZaE P an2 b2)=c2/\an1.nt=20/\an2.nt=20/\an2.keep=[2,3] /\
  P.funcs[h]?=some H/\(H.name == "runtime.NumGoroutine")=false/\H.ntmps=13/\H.results=#[] /\
  H.body=some (.seq (.region j0 #[⟨some 5,.call ⟨.builtin .recover,#[],at2⟩,t3,p3,a3,none⟩] false) (.block bid (.seq (.region j1 #[⟨some 7,.binOp .eql ti (.tmp 5) (.const .nilIface) ti,t4,p4,a4,none⟩] false)
   (.cond (.tmp 7) (.region j2 #[⟨some 2,.assign (.tmp 5),t5,p5,a5,none⟩] false)
    (.seq (.region j3 #[⟨some 8,.typeAssert (.tmp 5) ti tc true,t6,p6,a6,none⟩,⟨some 9,.extract (.tmp 8) 1,t7,p7,a7,none⟩,⟨some 10,.extract (.tmp 8) 0,t8,p8,a8,none⟩] false)
     (.cond (.tmp 9) b3 b4)))))) /\
  Zbm (ZaE P an3 b3)=c3/\an3.nt=13/\P.underlying ti=some (.interface ims)/\P.underlying tc=some (.int k)
section
variable {P:Program} {O:ZV} {bf:Nat->Bool} {base:Nat->Prop} {w0 w:World} {I0 I:Imm} {β:Bmap} {σ:Za}
theorem pgs {a:Act} {d:Nat} {u:Value} (h:d < a.tmps.size):(a.put (some d) u).tmps.getD d undef=u:=by
 simp [Act.put,XaF,h]
theorem Zgx {m:Sem Value} {u:Value} (h:m.run P w=.ok u w):(do let q <-m;pure (Next.value q):Sem Next).run P w=.ok (.value u) w:=by
 rw [Sem.run_bind,h];rfl
theorem pgn {a:Act} {d j:Nat} {u:Value} (h:d≠j):(a.put (some d) u).tmps.getD j undef=a.tmps.getD j undef:=by
 simp only [Act.put,WI]
 rw [Wt h]
end
section
variable {P:Program} {fs:Nat->Option Zau} {prim:Zbr} {bf:Nat->Bool}
end
section
variable {fs:Nat->Option Zau} {p p':Zbr} {bf:Nat->Bool}
theorem Zmf (h0:∀ f,p f=none->p' f=none) (h1:∀ f g,p f=some g->p' f=some g\/∀ a σ,g a σ=none):∀ n,OLe (Zam fs p bf n) (Zam fs p' bf n)
 | 0=>by intro f a σ r h;simp only [Zam] at h;cases h
 | n+1=>by
  intro f a σ r h
  rw [Zam] at h ⊢
  split at h
  ·rename_i g hg
   rcases h1 f g hg with h2 | h2
   ·rw [h2];exact h
   ·rw [h2] at h;cases h
  ·rename_i hg
   rw [h0 f hg]
   split at h
   ·cases h
   ·rename_i fn hfn
    exact ZgX (fun q hq=>Zcn (Zmf h0 h1 n) (XM n) hq) h
theorem ZqU (h0:∀ f,p f=none->p' f=none) (h1:∀ f g,p f=some g->p' f=some g\/∀ a σ,g a σ=none):OLe (EV fs p bf) (EV fs p' bf):=by
 intro f a σ r h
 obtain ⟨n,hn⟩:=ZcG.1 h
 exact ZcG.2 ⟨n,Zmf h0 h1 n f a σ r hn⟩
end
end
section
open Go.RowKit
theorem ZlV:∀ (js L:List Nat),js.Nodup->(∀ j ∈ js,j ∈ L)->L.Nodup->∃ rest,L.Perm (js++rest)
 | [],L,_,_,_=>⟨L,List.Perm.refl _⟩
 | j::js,L,hn,hs,hL=>by
  have hj:j ∈ L:=hs j (by simp)
  have hp:L.Perm (j::L.erase j):=List.perm_cons_erase hj
  obtain ⟨rest,hr⟩:=ZlV js (L.erase j) (WZ.1 hn).2 (fun k hk=>by
   have hne:k≠j:=by rintro rfl;exact (WZ.1 hn).1 hk
   exact (List.mem_erase_of_ne hne).2 (hs k (by simp [hk]))) (hL.erase j)
  exact ⟨rest,hp.trans (by simpa using List.Perm.cons j hr)⟩
theorem Zqz {α:Type} (es:List α) (d:α):(Wi es.length).map (es.getD · d)=es:=by
 apply Wv
 intro i
 rw [X4]
 by_cases h:i < es.length
 ·rw [List.getElem?_range h];simp [Xi,h]
 ·rw [XS (by simpa using h),XS (by omega)];rfl
def Zdy (bf:Nat->Bool) (asl:List AOp) (tm:Tms) (σ:Za):Option (Tms×Za):=match ZY (fun _ _ _=>none) bf asl σ.length tm σ with
 | some (tm',σ',_,none)=>some (tm',σ')
 | _=>none
def Zde (m:Nat):AVal->Bool
 | .int _ _ | .bool _ | .str _ | .nilp | .nilm | .nili | .lst _ _=>true
 | .sl t g _ _=>decide (g=0) && decide (t < m)
 | .ref t _=>decide (t < m)
 | .map t=>decide (t < m)
 | _=>false
def ZgD (m:Nat):AVal->Bool
 | .agg cs=>cs.all (Zde m)
 | x=>Zde m x
section
variable (fs:Nat->Option Zau) (prim:Zbr) (bf:Nat->Bool) (m:Nat) (live:List Nat) (ms en b1:Nat) (aslE:List AOp) (c2 c3:Zs) (rs:List Zb0)
open Classical in
noncomputable def Zdk (es : List (AVal × AVal)) (kv : AVal × AVal) (tm : Tms) (σ : Za) : Option (Tms × Za) :=
  match tget (gcT m (keepL live tm) σ).1 ms with
  | .map t => if (gcT m (keepL live tm) σ).2[t]? = some (.map es) /\ (∀ p ∈ es, ZgD (gcT m (keepL live tm) σ).2.length p.2 = true) then
      match Zdy bf aslE (tput (gcT m (keepL live tm) σ).1 (some en) (.tup [kv.1, kv.2])) ((gcT m (keepL live tm) σ).2.set t .opq) with
      | some (tm1, σ1) => match evC fs prim bf (gcT m (keepL live tm) σ).2.length c2 tm1 σ1 with
        | some (.normal, tm2, σ2) => if σ2[t]? = some .opq then some (tput tm2 (some ms) (.map t), σ2.set t (.map es)) else none
        | some (.exit i, tm2, σ2) => if i = b1 /\ σ2[t]? = some .opq then some (tput tm2 (some ms) (.map t), σ2.set t (.map es)) else none
        | _ => none
      | none => none
    else none
  | _ => none
noncomputable def ZbX (es:List (AVal×AVal)):List (AVal×AVal)->Tms->Za->Option (Tms×Za)
 | [],tm,σ=>some (tm,σ)
 | kv::r,tm,σ=>match Zdk fs prim bf m live ms en b1 aslE c2 es kv tm σ with
  | some (tm',σ')=>ZbX es r tm' σ'
  | none=>none
noncomputable def Zdu (tm:Tms) (σ:Za):Option (AVal×Za) :=
 ZaS m ⟨rs,c3⟩ (evC fs prim bf m c3 (gcT m (keepL live tm) σ).1 (gcT m (keepL live tm) σ).2)
noncomputable def Zdt (es es':List (AVal×AVal)) (tm:Tms) (σ:Za):Option (AVal×Za) :=
 match ZbX fs prim bf m live ms en b1 aslE c2 es es' tm σ with
 | some (tm',σ')=>Zdu fs prim bf m live c3 rs tm' σ'
 | none=>none
open Classical in
noncomputable def ZfG (es:List (AVal×AVal)) (tm:Tms) (σ:Za):Option (AVal×Za) :=
 if h:∃ out,∀ es':List (AVal×AVal),es'.Perm es->Zdt fs prim bf m live ms en b1 aslE c2 c3 rs es es' tm σ=some out then some h.choose else none
end
noncomputable def ZgB (fs:Nat->Option Zau) (prim:Zbr) (bf:Nat->Bool) (live:List Nat) (ms en b1:Nat) (asl1 aslE:List AOp) (c1 c2 c3:Zs) (rs:List Zb0) (args:List AVal) (σ:Za):Option (AVal×Za) :=
 match evC fs prim bf σ.length c1 (enterA 0 args []) σ with
 | some (.normal,tm1,σ1)=>match Zdy bf asl1 tm1 σ1 with
  | some (tm2,σ2)=>match tget tm2 ms with
   | .map t=>match σ2[t]? with
    | some (.map es)=>ZfG fs prim bf σ.length live ms en b1 aslE c2 c3 rs es tm2 σ2
    | _=>none
   | _=>none
  | none=>none
 | _=>none
def ZdI:List Code->Code->Code
 | [],x=>x
 | c::l,x=>.seq c (ZdI l x)
def ZeN:Nat->Code->Option (List Code×Code)
 | 0,c=>some ([],c)
 | n+1,.seq a b=>match ZeN n b with
  | some (l,x)=>some (a::l,x)
  | none=>none
 | _,_=>none
theorem Zkb:∀ {n:Nat} {c x:Code} {l:List Code},ZeN n c=some (l,x)->c=ZdI l x
 | 0,c,x,l,h=>by simp only [ZeN,Xa,Xb] at h;obtain ⟨rfl,rfl⟩:=h;rfl
 | n+1,c,x,l,h=>by
  cases c with
  | seq a b =>
   simp only [ZeN] at h
   split at h
   ·rename_i l' x' h'
    simp only [Xa,Xb] at h
    obtain ⟨rfl,rfl⟩:=h
    rw [Zkb h',ZdI]
   ·cases h
  | _=>simp [ZeN] at h
structure ZmL (P:Program) (f:FuncId) (an1 an3:Ann) (nt n0 n1 ms it nx ok en bid b1:Nat) (live:List Nat) (asl1 aslE:List AOp) (c1 c2 c3:Zs) (rs:List Zb0):Prop where
 ex:∃ (F:Func) (B:Code) (pre:List Code) (ops1 ops3 ops4:Array Oper) (i2 i3 i4:Nat) (body rest:Code) (t kt et:TypeId) (rg nxo exo eno:Oper) (lE:List Oper),
  P.funcs[f]?=some F/\(F.name == "runtime.NumGoroutine")=false/\F.ntmps=nt/\ZcL P F.results.toList=some rs/\F.body=some B /\
  ZeN n0 B=some (pre,.seq (.seq (.region i2 ops1 false) (.block bid (.loop (.seq (.region i3 ops3 false) (.seq (.cond (.tmp ok) .skip (.exit bid)) (.block b1 (.seq (.region i4 ops4 false) body))))))) rest) /\
  ops1.toList.drop n1=[rg]/\ops3.toList=[nxo,exo]/\ops4.toList=eno::lE /\
  rg.op=.range t (.tmp ms)/\rg.dst=some it/\rg.guard=none/\P.underlying t=some (.map kt et) /\
  nxo.op=.next (.tmp it) false/\nxo.dst=some nx/\nxo.guard=none/\exo.op=.extract (.tmp nx) 0/\exo.dst=some ok/\exo.guard=none /\
  eno.op=.entry (.tmp it)/\eno.dst=some en/\eno.guard=none /\
  Zbm (ZaE P an1 (ZdI pre .skip))=c1/\ZbB P an1 ops1 (ops1.toList.take n1)=some asl1/\ZbB P an3 ops4 lE=some aslE/\Zbm (ZaE P an3 body)=c2/\Zbm (ZaE P an1 rest)=c3 /\
  an1.nt=nt/\an3.nt=nt/\an3.keep=[it,ms] /\
  (decide (it < nt) && decide (nx < nt) && decide (ok < nt) && decide (en < nt) && decide (it≠ms) && decide (nx≠ms) && decide (ok≠ms) && decide (en≠ms) && decide (nx≠it) && decide (ok≠it) && decide (en≠it) && decide (nx≠ok) && live.all fun n=>decide (n≠it) && decide (n≠nx) && decide (n≠ok) && decide (n≠en))=true
section
variable {P:Program} {O:ZV} {bf:Nat->Bool} {an:Ann} {base:Nat->Prop} {w0 w w':World} {I0 I I':Imm} {β β':Bmap} {σ σ':Za} {dr:Door}
theorem Zj0 (hO:Zao P O) (hkp:∀ n ∈ dr.K,n ∈ an.keep) (hb:KLt base w0) {ops:Array Oper} {Q:Exit->Act->World->Prop} {r:List Oper}:∀ {l:List Oper} {asl:List AOp} {sq:Nat} {I:Imm} {β:Bmap} {tm tm':Tms} {σ σ':Za} {cs:List Cls} {a:Act} {w:World},ZbB P an ops l=some asl->TR I β tm a.tmps->(dr.ok a/\an.nt<=a.tmps.size)->Rel base w0 I0 I β σ w ->
  ZY O bf asl sq tm σ=some (tm',σ',cs,none)->(∀ a' w',StR dr an.nt base w0 I0 I β tm' σ' a' w'->wpList P ops Q r a' w')->wpList P ops Q (l++r) a w
 | [],asl,sq,I,β,tm,tm',σ,σ',cs,a,w,hc,T,hd,R,h,hQ=>by
  simp only [ZbB,Xa] at hc;subst hc
  simp only [ZY,Xa,Xb] at h
  obtain ⟨rfl,rfl,rfl,_⟩:=h
  exact hQ _ _ ⟨I,β,Imm.le.refl I,Bmap.le.refl β,T,hd,R⟩
 | o::l,asl,sq,I,β,tm,tm',σ,σ',cs,a,w,hc,T,hd,R,h,hQ=>by
  simp only [ZbB] at hc
  split at hc
  ·rename_i ao hao
   split at hc
   ·rename_i as' has'
    injection hc with hc;subst hc
    simp only [ZY] at h
    split at h
    ·cases h
    ·simp only [Xa,Xb] at h
     obtain ⟨_,_,_,h⟩:=h
     cases h
    ·rename_i v tm1 σ1 c1 hnp h1
     split at h
     ·cases h
     rename_i tm2 σ2 cs2 p2 h2
     simp only [Xa,Xb] at h
     obtain ⟨rfl,rfl,rfl,rfl⟩:=h
     have:=Zei (dr:=dr) (K:=wpList P ops Q (l++r)) (Q:=Q) hO hkp hao T hd R hb h1 (fun _ a' w' hs=>by
      obtain ⟨I',β',g1,g2,g3,g4,g5⟩:=hs
      exact Zj0 hO hkp hb has' g3 g4 g5 h2 (fun a'' w'' hs'=>hQ a'' w'' (hs'.trans g1 g2))) (fun x e=>absurd e (fun e=>hnp x e))
     rw [XX]
     unfold wpList
     exact this
   ·cases hc
  ·cases hc
theorem Zkh {asl:List AOp} {tm tm':Tms} (h:Zdy bf asl tm σ=some (tm',σ')):∃ cs,ZY (fun _ _ _=>none) bf asl σ.length tm σ=some (tm',σ',cs,none):=by
 unfold Zdy at h
 split at h
 ·rename_i tm1 σ1 cs h1
  simp only [Xa,Xb] at h
  obtain ⟨rfl,rfl⟩:=h
  exact ⟨cs,h1⟩
 ·cases h
theorem Zkn {Q:Exit->Act->World->Prop} (hO:Zao P O) (hm:P.follows .mixedOrders=true) (hb:KLt base w0) (m n:Nat) (X:Code):∀ (pre:List Code) {I:Imm} {β:Bmap} {tm tm':Tms} {σ σ':Za} {a:Act} {w:World},StF ZbN m an.nt base w0 I0 I β tm σ a w->Z2 O bf m n (ZaE P an (ZdI pre .skip)) tm σ=some (.normal,tm',σ') ->
  (∀ a' w',StF ZbN m an.nt base w0 I0 I β tm' σ' a' w'->X.wp P Q a' w')->(ZdI pre X).wp P Q a w
 | [],I,β,tm,tm',σ,σ',a,w,hst,h,hQ=>by
  simp only [ZdI,ZaE,Z2,Xa,Xb] at h
  obtain ⟨_,rfl,rfl⟩:=h
  exact hQ a w hst
 | c::l,I,β,tm,tm',σ,σ',a,w,hst,h,hQ=>by
  simp only [ZdI,ZaE,Z2] at h
  split at h
  ·rename_i tm1 σ1 h1
   refine wp_seq ?_
   refine ZhG (dr:=ZbN) (an:=an) hO (fun n hn=>by simp [ZbN] at hn) hm hb m n rfl hst h1 ?_
   intro a' w' hs
   exact Zkn hO hm hb m n X l hs h hQ
  ·rename_i hne
   exact absurd h (hne _ _)
theorem ZnP {m:Nat} {x:AVal} {v:Value} (hx:Zde m x=true) (hk:KeptE m β β') (h:VR I β x v):VR I' β' x v\/(∃ a xs,x=.lst a xs):=by
 cases x with
 | int | bool | str | nilp | nilm | nili=>exact Xs h
 | lst a xs=>exact Xu ⟨a,xs,rfl⟩
 | sl t g lo n =>
  simp only [Zde,Xr,decide_eq_true_eq] at hx
  obtain ⟨rfl,ht⟩:=hx
  simp only [VR] at h ⊢
  obtain ⟨bi,e,h⟩:=h
  exact Xs ⟨bi,hk t ht bi e,h⟩
 | ref t o =>
  simp only [Zde,decide_eq_true_eq] at hx
  simp only [VR] at h ⊢
  obtain ⟨b,k,c,e,h⟩:=h
  exact Xs ⟨b,k,c,hk t hx _ e,h⟩
 | map t =>
  simp only [Zde,decide_eq_true_eq] at hx
  simp only [VR] at h ⊢
  obtain ⟨b,k,c,e,h⟩:=h
  exact Xs ⟨b,k,c,hk t hx _ e,h⟩
 | _=>simp [Zde] at hx
theorem Zwa {a:Bool} {xs:List AVal} {v:Value} (hI:I.le I') (h:VR I β (.lst a xs) v):VR I' β' (.lst a xs) v:=by
 have ht:Zax (.lst a xs)=true:=by
  simp only [VR] at h
  obtain ⟨A,cap,_,_,_,_,_,ht⟩:=h
  simpa [Zax] using ht
 exact (VR.of_tree (β':=β') ht h).mono hI (Bmap.le.refl _) _ _
theorem ZkP {m:Nat} {x:AVal} {v:Value} (hx:Zde m x=true) (hI:I.le I') (hk:KeptE m β β') (h:VR I β x v):VR I' β' x v:=by
 rcases ZnP (I':=I') hx hk h with h | ⟨a,xs,rfl⟩
 ·exact h
 ·exact Zwa hI h
theorem Zmd {m:Nat} (hI:I.le I') (hk:KeptE m β β'):∀ {cs:List AVal} {vs:List Value},cs.all (Zde m)=true->VRs I β cs vs->VRs I' β' cs vs
 | [],vs,_,h=>h
 | x::cs,vs,hx,h=>by
  rw [Wc,Xr] at hx
  simp only [VRs] at h ⊢
  obtain ⟨v,vs',rfl,h1,h2⟩:=h
  exact ⟨v,vs',rfl,ZkP hx.1 hI hk h1,Zmd hI hk hx.2 h2⟩
theorem Zqp {m:Nat} {x:AVal} {v:Value} (hx:ZgD m x=true) (hI:I.le I') (hk:KeptE m β β') (h:VR I β x v):VR I' β' x v:=by
 cases x with
 | agg cs =>
  simp only [VR] at h ⊢
  obtain ⟨us,rfl,h⟩:=h
  exact ⟨us,rfl,Zmd hI hk hx h⟩
 | _=>exact ZkP hx hI hk h
theorem Zkd {m:Nat} (hI:I.le I') (hk:KeptE m β β'):∀ {cs:List AVal} {vs:List Value},(∀ x ∈ cs,ZgD m x=true)->VRs I β cs vs->VRs I' β' cs vs
 | [],vs,_,h=>h
 | x::cs,vs,hx,h=>by
  simp only [VRs] at h ⊢
  obtain ⟨v,vs',rfl,h1,h2⟩:=h
  exact ⟨v,vs',rfl,Zqp (hx x (by simp)) hI hk h1,Zkd hI hk (fun y hy=>hx y (by simp [hy])) h2⟩
theorem ZkM:∀ {cs:List AVal} {vs:List Value},(∀ x ∈ cs,Zeo x=true)->VRs I β cs vs->VRs I' β' cs vs
 | [],vs,_,h=>h
 | x::cs,vs,hx,h=>by
  simp only [VRs] at h ⊢
  obtain ⟨v,vs',rfl,h1,h2⟩:=h
  refine ⟨v,vs',rfl,?_,ZkM (fun y hy=>hx y (by simp [hy])) h2⟩
  have:=hx x (by simp)
  cases x <;> simp [Zeo] at this <;> exact h1
end
end
section
open Go.RowKit
open Go.ChangeMaps (setBlock)
section
variable {P:Program} {base base':Nat->Prop} {w0 w w' w1 w2:World} {I0 I I' I1 I2:Imm} {β β' β1 β2:Bmap} {σ σ' σ1 σ2:Za}
theorem Rel.rebase (R:Rel base w0 I0 I β σ w) {r:Nat} (hr:∀ t x,σ[t]?=some x->¬Zh w β t x r):Rel (fun k=>base k\/k=r) w I I β σ w where
 below:=KB.refl _ _
 old:=fun _ _ _=>rfl
 imm:=R.imm
 blk:=R.blk
 own:=fun t x b hx hb=>⟨fun h=>by
  rcases h with h | rfl
  ·exact (R.own t x b hx hb).1 h
  ·exact hr t x hx hb,(R.own t x b hx hb).2⟩
 apart:=R.apart
 fresh:=R.fresh
 free:=R.free
 gen:=R.gen
 glob:=R.glob
theorem Rel.unbase (R1:Rel base w0 I0 I1 β1 σ1 w1) (R2:Rel base' w1 I1 I2 β2 σ2 w2) (hs:∀ k,base k->base' k):Rel base w0 I0 I2 β2 σ2 w2 where
 below:=R1.below.trans (R2.below.mono hs)
 old:=fun b o h=>(R2.old b o (hs b h)).trans (R1.old b o h)
 imm:=R2.imm
 blk:=R2.blk
 own:=fun t x b hx hb=>⟨fun h=>(R2.own t x b hx hb).1 (hs b h),(R2.own t x b hx hb).2⟩
 apart:=R2.apart
 fresh:=R2.fresh
 free:=R2.free
 gen:=R2.gen
 glob:=R2.glob
theorem Rel.hide (R:Rel base w0 I0 I β σ w) {t b r:Nat} {es:List (AVal×AVal)} (ht:σ[t]?=some (.map es)) (hb:Zh w β t (.map es) b) (hr:∀ t x,σ[t]?=some x->¬Zh w β t x r):Rel (fun k=>base k\/k=b\/k=r) w I I β (σ.set t .opq) w where
 below:=KB.refl _ _
 old:=fun _ _ _=>rfl
 imm:=R.imm
 blk:=fun u x hx=>by
  rw [Xq] at hx
  split at hx
  ·rename_i e;subst e
   split at hx
   ·injection hx with hx;subst hx
    obtain ⟨b',k,c,_,_,h1,_⟩:=R.blk t _ ht
    exact ⟨_,h1⟩
   ·cases hx
  ·exact R.blk u x hx
 own:=fun u x b' hx ho=>by
  rw [Xq] at hx
  split at hx
  ·split at hx
   ·injection hx with hx;subst hx;cases ho
   ·cases hx
  ·rename_i hne
   have:=R.own u x b' hx ho
   refine ⟨fun h=>?_,this.2⟩
   rcases h with h | rfl | rfl
   ·exact this.1 h
   ·exact hne (R.apart u x t _ _ hx ht ho hb).symm
   ·exact hr u x hx ho
 apart:=fun u x u' x' b' hx hx' ho ho'=>by
  rw [Xq] at hx hx'
  split at hx
  ·split at hx
   ·injection hx with hx;subst hx;cases ho
   ·cases hx
  ·split at hx'
   ·split at hx'
    ·injection hx' with hx';subst hx';cases ho'
    ·cases hx'
   ·exact R.apart u x u' x' b' hx hx' ho ho'
 fresh:=fun u g hu=>R.fresh u g (by simpa using hu)
 free:=fun u g hu=>by
  rw [Xq] at hu
  split at hu
  ·split at hu
   ·injection hu with hu;cases hu
   ·cases hu
  ·exact R.free u g hu
 gen:=fun u x g hx hg=>by
  rw [Xq] at hx
  split at hx
  ·rename_i e;subst e
   split at hx
   ·injection hx with hx;subst hx
    exact R.gen t _ g ht (by simpa [Zc] using hg)
   ·cases hx
  ·exact R.gen u x g hx hg
 glob:=R.glob
theorem Rel.unhide (R1:Rel base w0 I0 I1 β1 σ1 w1) {t b r:Nat} (R2:Rel (fun k=>base k\/k=b\/k=r) w1 I1 I2 β2 σ2 w2) {es:List (AVal×AVal)} (ht:σ2[t]?=some .opq) (hb:Zh w β2 t (.map es) b) (hB:BR I2 β2 w2 t (.map es)) (hbase:¬base b) (hI:∀ o,I2 b o=none):Rel base w0 I0 I2 β2 (σ2.set t (.map es)) w2 where
 below:=R1.below.trans (R2.below.mono fun _ h=>Xs h)
 old:=fun k o h=>(R2.old k o (Xs h)).trans (R1.old k o h)
 imm:=R2.imm
 blk:=fun u x hx=>by
  rw [Xq] at hx
  split at hx
  ·rename_i e;subst e
   split at hx
   ·injection hx with hx;subst hx;exact hB
   ·cases hx
  ·exact R2.blk u x hx
 own:=fun u x b' hx ho=>by
  rw [Xq] at hx
  split at hx
  ·rename_i e;subst e
   split at hx
   ·injection hx with hx;subst hx
    obtain rfl:b=b':=XaX (hb.symm.trans ho)
    exact ⟨hbase,hI⟩
   ·cases hx
  ·have:=R2.own u x b' hx ho
   exact ⟨fun h=>this.1 (Xs h),this.2⟩
 apart:=fun u x u' x' b' hx hx' ho ho'=>by
  rw [Xq] at hx hx'
  split at hx
  ·rename_i e;subst e
   split at hx
   ·injection hx with hx;subst hx
    obtain rfl:b=b':=XaX (hb.symm.trans ho)
    split at hx'
    ·assumption
    ·exact absurd (Xu (Xs rfl)) (R2.own u' x' _ hx' ho').1
   ·cases hx
  ·split at hx'
   ·rename_i e;subst e
    split at hx'
    ·injection hx' with hx';subst hx'
     obtain rfl:b=b':=XaX (hb.symm.trans ho')
     exact absurd (Xu (Xs rfl)) (R2.own u x _ hx ho).1
    ·cases hx'
   ·exact R2.apart u x u' x' b' hx hx' ho ho'
 fresh:=fun u g hu=>R2.fresh u g (by simpa using hu)
 free:=fun u g hu=>by
  rw [Xq] at hu
  split at hu
  ·split at hu
   ·injection hu with hu;cases hu
   ·cases hu
  ·exact R2.free u g hu
 gen:=fun u x g hx hg=>by
  rw [Xq] at hx
  split at hx
  ·rename_i e;subst e
   split at hx
   ·injection hx with hx;subst hx
    exact R2.gen t _ g ht (by simpa [Zc] using hg)
   ·cases hx
  ·exact R2.gen u x g hx hg
 glob:=R2.glob
theorem Rel.turn (R:Rel base w0 I0 I β σ w) {r:Nat} (hr:∀ t x,σ[t]?=some x->¬Zh w β t x r) (hb:¬base r) (hI:∀ o,I r o=none) (hos:w'.os=w.os) (ht:w'.tape=w.tape) (ho:w'.output=w.output) (hs:w.heap.size<=w'.heap.size) (hk:∀ k,k≠r->k < w.heap.size->w'.heap[k]?=w.heap[k]?) (hbl:KLt base w):Rel base w0 I0 I β σ w':=by
 refine R.stay (Imm.le.refl I) ⟨hos,ht,ho,hs,fun k h=>hk k (by rintro rfl;exact hb h) (hbl k h)⟩ (fun _ _ _=>rfl) ?_ ?_
 ·intro b o u hu
  have h1:=R.imm b o u hu
  have hne:b≠r:=by rintro rfl;rw [hI] at hu;cases hu
  have hlt:=Zb9 h1
  rw [<-h1]
  simp only [World.cell?,hk b hne hlt]
 ·intro t x b hx hb'
  have hne:b≠r:=by rintro rfl;exact hr t x hx hb'
  exact ⟨hk b hne ((R.blk t x hx).owns_lt hb'),(R.own t x b hx hb').2⟩
theorem Zpg (m:Nat) (tm:Tms) (σ:Za):m<=(gcT m tm σ).2.length:=by
 show m<=(Ze σ m _ _ _ 0).length
 rw [ZhB]
 obtain ⟨_,r,hr⟩:=ZeI (σ:=σ) 1000 (Z3 (tm.map (·.2))++(Wi m).flatMap fun t=>Zn (σ.getD t .free)) (Wi m) XaN
 show m<=(Zl m (tm.map (·.2)) σ).length
 unfold Zl
 rw [hr]
 simp
end
section
variable {fs:Nat->Option Zau} {prim:Zbr} {bf:Nat->Bool} {m:Nat} {live:List Nat} {ms en b1:Nat} {aslE:List AOp} {c2 c3:Zs} {rs:List Zb0}
theorem Ze8 {es:List (AVal×AVal)}:∀ (a b:List (AVal×AVal)) (tm:Tms) (σ:Za),ZbX fs prim bf m live ms en b1 aslE c2 es (a++b) tm σ=match ZbX fs prim bf m live ms en b1 aslE c2 es a tm σ with
  | some (tm',σ')=>ZbX fs prim bf m live ms en b1 aslE c2 es b tm' σ'
  | none=>none
 | [],b,tm,σ=>rfl
 | x::a,b,tm,σ=>by
  simp only [XX,ZbX]
  split
  ·exact Ze8 a b _ _
  ·rfl
end
theorem ZfK {I:Imm} {β:Bmap} {tm:Tms} {a:Act} {d:Nat} {u:Value} (T:TR I β tm a.tmps) (hd:tget tm d=.top):TR I β tm (a.put (some d) u).tmps:=by
 intro n
 by_cases e:d=n
 ·subst e;rw [hd];simp only [VR]
 ·rw [pgn e];exact T n
theorem ZqD {m:Nat} {live:List Nat} {tm:Tms} {σ:Za} {d:Nat} (hd:d ∉ live):tget (gcT m (keepL live tm) σ).1 d=.top:=by
 have key:∀ (l:List Nat) (xs:List AVal),d ∉ l->tget (l.zip xs) d=.top:=by
  intro l
  induction l with
  | nil=>intro xs _;rfl
  | cons x l ih =>
   intro xs h
   cases xs with
   | nil=>rfl
   | cons y ys =>
    simp only [List.zip_cons_cons,tget]
    rw [if_neg (by rintro rfl;exact h (by simp))]
    exact ih ys (fun hm=>h (by simp [hm]))
 have e:(keepL live tm).map (·.1)=live:=by simp [keepL,WC,Function.comp_def]
 show tget (((keepL live tm).map (·.1)).zip _) d=.top
 rw [e]
 exact key live _ hd
end
section
open Go.RowKit
open Go.ChangeMaps (setBlock)
theorem Zz3 {arr:Array MapEntry} {seen:Array Nat} {e:MapEntry} (h:e ∈ (leftOf arr seen).toList):e ∈ arr.toList/\seen.contains e.born=false:=by
 unfold leftOf at h
 simp only [Array.toList_filter,Wq,Wn] at h
 exact h
theorem Zxx {arr:Array MapEntry} {seen:Array Nat} (h:(leftOf arr seen).size=0):∀ e ∈ arr.toList,seen.contains e.born=true:=by
 intro e he
 cases hc:seen.contains e.born with
 | true=>rfl
 | false =>
  have hm:e ∈ (leftOf arr seen).toList:=by
   unfold leftOf
   simp only [Array.toList_filter,Wq,Wn]
   exact ⟨he,hc⟩
  have : (leftOf arr seen).toList=[]:=by
   apply XA
   simpa using h
  rw [this] at hm;cases hm
section
variable {P:Program} {base:Nat->Prop} {w0:World} {I0:Imm}
variable {fs:Nat->Option Zau} {prim:Zbr} {bf:Nat->Bool} {m:Nat} {live:List Nat} {ms it nx ok en bid b1 nt:Nat} {aslE:List AOp} {c2 c3:Zs} {rs:List Zb0}
def ZbJ (it ms:Nat) (r b:Nat):Door:=⟨[],[it,ms],fun n=>if n=it then .pointer (some ⟨r,0,none⟩) else .map (some b)⟩
def Zdv (arr:Array MapEntry) (j:Nat):Nat:=(arr.toList.getD j ⟨undef,undef,0⟩).born
theorem ZsE (hm:P.follows .mixedOrders=true) (hO:∀ n,Zao P (Zam fs prim bf n)) (hb:KLt base w0) {an3:Ann} {ops3 ops4:Array Oper} {i3 i4:Nat} {body:Code} {nxo exo eno:Oper} {lE:List Oper}
  (h3:ops3.toList=[nxo,exo]) (h4:ops4.toList=eno::lE)
  (hn1:nxo.op=.next (.tmp it) false) (hn2:nxo.dst=some nx) (hn3:nxo.guard=none) (hx1:exo.op=.extract (.tmp nx) 0) (hx2:exo.dst=some ok) (hx3:exo.guard=none)
  (he1:eno.op=.entry (.tmp it)) (he2:eno.dst=some en) (he3:eno.guard=none) (hcE:ZbB P an3 ops4 lE=some aslE) (hc2:Zbm (ZaE P an3 body)=c2) (hnt3:an3.nt=nt) (hk3:an3.keep=[it,ms])
  (d1:it < nt) (d2:nx < nt) (d3:ok < nt) (d4:en < nt) (d5:it≠ms) (d6:nx≠ms) (d7:ok≠ms) (d8:en≠ms) (d9:nx≠it) (d10:ok≠it) (d11:en≠it) (d12:nx≠ok) (hlv:∀ n ∈ live,n≠it/\n≠nx/\n≠ok/\n≠en)
  {r b clk:Nat} {arr:Array MapEntry} {es:List (AVal×AVal)} (hS:Zgz arr clk) (hne:arr.size=es.length) (hrb:r≠b) (hrbase:¬base r) (hbbase:¬base b)
  {tm2:Tms} {σ2:Za} {out:AVal×Za} (hall:∀ es':List (AVal×AVal),es'.Perm es->Zdt fs prim bf m live ms en b1 aslE c2 c3 rs es es' tm2 σ2=some out)
  {I:Imm} {β:Bmap} {Q:Exit->Act->World->Prop}
  (hQ:∀ tm σ a w I' β',Zdu fs prim bf m live c3 rs tm σ=some out->I.le I'->KeptE m β β'->TR I' β' (keepL live tm) a.tmps->(a.defers=[]/\nt<=a.tmps.size)->Rel base w0 I0 I' β' σ w->Q (.exit bid) a w) :
  ∀ (n:Nat) (js:List Nat) (tm:Tms) (σ:Za) (a:Act) (w:World),n+js.length=es.length+1->js.Nodup->(∀ j ∈ js,j < es.length)->ZbX fs prim bf m live ms en b1 aslE c2 es (js.map fun j=>es.getD j (.top,.top)) tm2 σ2=some (tm,σ) ->
   w.heap[r]?=some (.mapIter (some b) clk (js.map (Zdv arr)).toArray clk)->w.heap[b]?=some (.map arr clk) ->
   (∃ I' β',I.le I'/\KeptE m β β'/\TR I' β' (keepL live tm) a.tmps/\((ZbJ it ms r b).ok a/\nt<=a.tmps.size)/\Rel base w0 I0 I' β' σ w/\(∀ o,I' r o=none)/\(∀ t x,σ[t]?=some x->¬Zh w β' t x r)) ->
   Code.rounds P (.seq (.region i3 ops3 false) (.seq (.cond (.tmp ok) .skip (.exit bid)) (.block b1 (.seq (.region i4 ops4 false) body)))) Q n a w:=by
 have hperm:∀ js:List Nat,js.Nodup->(∀ j ∈ js,j < es.length)->∃ rest:List Nat,(Wi es.length).Perm (js++rest):=fun js h1 h2=>ZlV js _ h1 (fun j hj=>WX.2 (h2 j hj)) XaN
 have hpm:∀ js rest:List Nat,(Wi es.length).Perm (js++rest)->(js.map (fun j=>es.getD j (.top,.top))++rest.map fun j=>es.getD j (.top,.top)).Perm es:=by
  intro js rest h
  have:=h.map (fun j=>es.getD j ((.top,.top):AVal×AVal))
  rw [Zqz,Wk] at this
  exact this.symm
 intro n
 induction n with
 | zero =>
  intro js tm σ a w hn hnd hlt _ _ _ _
  exfalso
  obtain ⟨rest,hr⟩:=hperm js hnd hlt
  have:=hr.length_eq
  simp at this
  omega
 | succ n ih =>
  intro js tm σ a w hn hnd hlt hf hit hmap hst
  rw [rounds_succ]
  obtain ⟨I1,β1,g1,g2,T1,⟨gd,gs⟩,R1,hIr,hown⟩:=hst
  have vit:a.tmps.getD it undef=.pointer (some ⟨r,0,none⟩):=by
   have:=gd.2 it (by simp [ZbJ]);simpa [ZbJ] using this
  have vms:a.tmps.getD ms undef=.map (some b):=by
   have:=gd.2 ms (by simp [ZbJ]);simpa [ZbJ,Xag d5] using this
  refine wp_seq (wp_region_list ?_)
  rw [h3]
  refine Zfi hn3 ?_
  unfold Oper.wp
  have hlook:=run_next_at (P:=P) w nxo.type r b clk clk _ arr clk hit hmap (fun x hx=>hS.1 x hx) (XM _)
  rcases hlook with ⟨hz,hrun⟩ | ⟨e,he,w1,hw1,hrun⟩
  ·
   have e1:(execOp a.eval nxo).run P w=.ok (.value (.tuple #[.bool false])) w:=by
    unfold execOp;rw [hn1]
    simp only [Act.eval]
    rw [vit]
    exact Zgx hrun
   rw [e1,Oper.upon_value,hn2]
   refine Zfi hx3 ?_
   unfold Oper.wp
   have e2:(execOp (a.put (some nx) (.tuple #[.bool false])).eval exo).run P w=.ok (.value (.bool false)) w:=by
    unfold execOp;rw [hx1]
    simp only [Act.eval]
    rw [pgs (by omega)]
    exact Zgx (by simp [Instr.extract])
   rw [e2,Oper.upon_value,hx2]
   refine wpList_nil ?_
   simp only [Exit.then]
   refine wp_seq (wp_cond_false (by simp only [Act.eval];exact pgs (by rw [Zdo];omega)) (wp_exit ?_))
   simp only [Exit.then]
   obtain ⟨rest,hr⟩:=hperm js hnd hlt
   have hrest:rest=[]:=by
    cases rest with
    | nil=>rfl
    | cons x rest =>
     exfalso
     have hx:x < es.length:=WX.1 (hr.mem_iff.2 (by simp))
     obtain ⟨ex,hxa⟩:∃ ex,arr.toList[x]?=some ex:=⟨_,Xe (by simpa [hne] using hx)⟩
     have hs:=Zxx hz (arr.toList.getD x ⟨undef,undef,0⟩) (by
      rw [Xi,hxa];exact Xv hxa)
     have hnd2:(js++x::rest).Nodup:=hr.nodup_iff.1 XaN
     have hxj:x ∉ js:=fun hm=>by
      have:=(WD.1 hnd2).2.2 x hm x (by simp)
      exact this rfl
     simp only [List.contains_toArray,XaS,decide_eq_true_eq,XJ] at hs
     obtain ⟨y,hy,hyx⟩:=hs
     have hyl:y < es.length:=hlt y hy
     obtain ⟨ey,hya⟩:∃ ey,arr.toList[y]?=some ey:=⟨_,Xe (by simpa [hne] using hyl)⟩
     have hnb:=hS.2
     have e3:(arr.toList.map (·.born))[y]?=(arr.toList.map (·.born))[x]?:=by
      rw [X4,X4,hya,hxa]
      simp only [XN,Xa]
      unfold Zdv at hyx
      rw [Xi,Xi,hya,hxa] at hyx
      exact hyx
     have hyx2:=(List.getElem?_inj (by simpa [hne] using hyl) hnb).1 e3
     subst hyx2
     exact hxj hy
   subst hrest
   have hp:=hpm js [] hr
   have ho:=hall _ hp
   unfold Zdt at ho
   rw [Ze8,hf] at ho
   simp only [XO,ZbX] at ho
   refine hQ tm σ _ w I1 β1 ho g1 g2 ?_ ⟨by rw [Zgf,Zgf];exact gd.1,by rw [Zdo,Zdo];exact gs⟩ R1
   have t0:∀ d,d ∉ live->tget (keepL live tm) d=.top:=fun d hd=>by rw [Zgi,if_neg hd]
   exact ZfK (ZfK T1 (t0 nx fun h=>(hlv nx h).2.1 rfl)) (t0 ok fun h=>(hlv ok h).2.2.1 rfl)
  ·
   obtain ⟨hea,hes⟩:=Zz3 he
   obtain ⟨j,hj,hje⟩:=List.getElem_of_mem hea
   have hja:arr.toList[j]?=some e:=by rw [Xe hj,hje]
   have hjl:j < es.length:=by simpa [hne] using hj
   have hbj:Zdv arr j=e.born:=by unfold Zdv;rw [Xi,hja];rfl
   have hjs:j ∉ js:=fun hm=>by
    have : (js.map (Zdv arr)).toArray.contains e.born=true:=by
     simp only [List.contains_toArray,XaS,decide_eq_true_eq,XJ]
     exact ⟨j,hm,hbj⟩
    rw [this] at hes;cases hes
   have hnd':(js++[j]).Nodup:=by
    rw [WD]
    exact ⟨hnd,by simp,fun x hx y hy=>by rw [X9] at hy;subst hy;rintro rfl;exact hjs hx⟩
   have hlt':∀ k ∈ js++[j],k < es.length:=fun k hk=>by
    rcases Xt.1 hk with hk | hk
    ·exact hlt k hk
    ·rw [X9] at hk;subst hk;exact hjl
   obtain ⟨rest,hr⟩:=hperm (js++[j]) hnd' hlt'
   have hp:=hpm (js++[j]) rest hr
   have ho:=hall _ hp
   unfold Zdt at ho
   rw [Ze8,Wk,Ze8,hf] at ho
   simp only [Xy,XO,ZbX] at ho
   generalize hkv:es.getD j ((.top,.top):AVal×AVal)=kv at ho
   cases hro:Zdk fs prim bf m live ms en b1 aslE c2 es kv tm σ with
   | none=>rw [hro] at ho;cases ho
   | some q =>
   obtain ⟨tm',σ'⟩:=q
   clear ho
   have hf':ZbX fs prim bf m live ms en b1 aslE c2 es ((js++[j]).map fun j=>es.getD j (.top,.top)) tm2 σ2=some (tm',σ'):=by
    rw [Wk,Ze8,hf]
    simp only [Xy,XO,ZbX,hkv,hro]
   unfold Zdk at hro
   split at hro
   case h_2=>cases hro
   rename_i t hmst
   split at hro
   case isFalse=>cases hro
   rename_i hcond
   obtain ⟨hte,hkept⟩:=hcond
   split at hro
   case h_2=>cases hro
   rename_i tmA σA hstep
   have hbw:=R1.base_le hb
   have Rr:=R1.rebase hown
   obtain ⟨β0,q1,R0r,T0⟩:=Zjc Rr T1 m
   have R0:=R1.unbase R0r (fun k h=>Xs h)
   have hown0:∀ t x,(gcT m (keepL live tm) σ).2[t]?=some x->¬Zh w β0 t x r:=fun t x hx ho=>(R0r.own t x r hx ho).1 (Xu rfl)
   have tt:∀ d,d ∉ live->tget (gcT m (keepL live tm) σ).1 d=.top:=fun d hd=>ZqD hd
   have hml:=Zpg m (keepL live tm) σ
   generalize (gcT m (keepL live tm) σ).1=tm0 at *
   generalize (gcT m (keepL live tm) σ).2=σ0 at *
   have vt:=T0 ms
   rw [hmst,vms] at vt
   simp only [VR] at vt
   obtain ⟨b',kk',cc',hbt,hbb⟩:=vt
   simp only [Value.map.injEq,Xa] at hbb
   subst hbb
   obtain ⟨b2,k2,c2',arr',clk',e1,e2,e3,e4,e5,e6⟩:=R0.blk t _ hte
   rw [hbt] at e1
   simp only [Xa,BI.mk.injEq] at e1
   obtain ⟨rfl,rfl,rfl⟩:=e1
   rw [hmap] at e2
   simp only [Xa,Obj.map.injEq] at e2
   obtain ⟨rfl,rfl⟩:=e2
   have howb:Zh w β0 t (.map es) b:=by simp [Zh,hbt]
   have htl:t < σ0.length:=(Xc.1 hte).1
   have e1:(execOp a.eval nxo).run P w=.ok (.value (.tuple #[.bool true,e.key,e.val])) (setBlock w1 r (.mapIter (some b) clk ((js.map (Zdv arr)).toArray.push e.born) clk)):=by
    unfold execOp;rw [hn1]
    simp only [Act.eval]
    rw [vit]
    rw [Sem.run_bind,hrun];rfl
   have hw1h:w1.heap=w.heap/\w1.os=w.os/\w1.tape=w.tape/\w1.output=w.output:=by rcases hw1 with rfl | rfl <;> exact ⟨rfl,rfl,rfl,rfl⟩
   obtain ⟨wh,wo,wt,wu⟩:=hw1h
   have hrlt:r < w.heap.size:=(Xx.1 hit).1
   generalize hw3:setBlock w1 r (.mapIter (some b) clk ((js.map (Zdv arr)).toArray.push e.born) clk)=w3 at e1
   have w3r:w3.heap[r]?=some (.mapIter (some b) clk ((js.map (Zdv arr)).toArray.push e.born) clk):=by
    rw [<-hw3];simp only [setBlock,wh];rw [Array.getElem?_setIfInBounds_self_of_lt hrlt]
   have w3k:∀ k,k≠r->w3.heap[k]?=w.heap[k]?:=fun k hk=>by
    rw [<-hw3];simp only [setBlock,wh];rw [Wt (Xag hk)]
   have w3b:w3.heap[b]?=some (.map arr clk):=by rw [w3k b (Xag hrb)];exact hmap
   have w3s:w3.heap.size=w.heap.size:=by rw [<-hw3];simp [setBlock,wh]
   have R3:Rel base w0 I0 I1 β0 σ0 w3:=R0.turn hown0 hrbase hIr (by rw [<-hw3];exact wo) (by rw [<-hw3];exact wt) (by rw [<-hw3];exact wu) (by omega) (fun k hk _=>w3k k hk) hbw
   have hIb:∀ o,I1 b o=none:=(R3.own t _ b hte howb).2
   have hown3:∀ t x,σ0[t]?=some x->¬Zh w3 β0 t x r:=fun t x hx ho=>hown0 t x hx (((R0.blk t x hx).owns_at (Bmap.le.refl β0) (fun b' hb'=>w3k b' (by rintro rfl;exact hown0 t x hx hb')) r).1 ho)
   have RH:=R3.hide hte howb hown3
   rw [e1,Oper.upon_value,hn2]
   generalize hA1:a.put (some nx) (.tuple #[.bool true,e.key,e.val])=A1
   have s1:A1.tmps.size=a.tmps.size:=by rw [<-hA1,Zdo]
   have f1:∀ k,k≠nx->A1.tmps.getD k undef=a.tmps.getD k undef:=by intro k hk;rw [<-hA1];exact pgn (Xag hk)
   have df1:A1.defers=[]:=by rw [<-hA1];exact gd.1
   have TA1:TR I1 β0 tm0 A1.tmps:=by rw [<-hA1];exact ZfK T0 (tt nx fun h=>(hlv nx h).2.1 rfl)
   refine Zfi hx3 ?_
   unfold Oper.wp
   have e2:(execOp A1.eval exo).run P w3=.ok (.value (.bool true)) w3:=by
    unfold execOp;rw [hx1]
    simp only [Act.eval]
    rw [<-hA1,pgs (by omega)]
    exact Zgx (by simp [Instr.extract])
   rw [e2,Oper.upon_value,hx2]
   generalize hA2:A1.put (some ok) (.bool true)=A2
   have s2:A2.tmps.size=a.tmps.size:=by rw [<-hA2,Zdo,s1]
   have f2:∀ k,k≠ok->A2.tmps.getD k undef=A1.tmps.getD k undef:=by intro k hk;rw [<-hA2];exact pgn (Xag hk)
   have df2:A2.defers=[]:=by rw [<-hA2];exact df1
   have TA2:TR I1 β0 tm0 A2.tmps:=by rw [<-hA2];exact ZfK TA1 (tt ok fun h=>(hlv ok h).2.2.1 rfl)
   refine wpList_nil ?_
   simp only [Exit.then]
   refine wp_seq (wp_cond_true (by simp only [Act.eval];rw [<-hA2];exact pgs (by omega)) (wp_skip ?_))
   simp only [Exit.then]
   refine wp_block (wp_seq (wp_region_list ?_))
   rw [h4]
   refine Zfi he3 ?_
   unfold Oper.wp
   have e3':(execOp A2.eval eno).run P w3=.ok (.value (.tuple #[e.key,e.val])) w3:=by
    unfold execOp;rw [he1]
    simp only [Act.eval]
    rw [f2 it (Xag d10),f1 it (Xag d9),vit]
    exact Zgx (run_entry_at w3 r b clk _ arr clk e w3r w3b hea hS.2)
   rw [e3',Oper.upon_value,he2]
   generalize hA3:A2.put (some en) (.tuple #[e.key,e.val])=A3
   have s3:A3.tmps.size=a.tmps.size:=by rw [<-hA3,Zdo,s2]
   have f3:∀ k,k≠en->A3.tmps.getD k undef=A2.tmps.getD k undef:=by intro k hk;rw [<-hA3];exact pgn (Xag hk)
   have df3:A3.defers=[]:=by rw [<-hA3];exact df2
   have hkve:VR I1 β0 (.tup [kv.1,kv.2]) (.tuple #[e.key,e.val]):=by
    have hej:es[j]?=some kv:=by
     rw [<-hkv,Xi,Xe hjl];rfl
    obtain ⟨v1,p1,p2⟩:=Zbo e3 (i:=j) (x:=kv.1) (by rw [X4,hej];rfl)
    obtain ⟨v2,p3,p4⟩:=Zbo e4 (i:=j) (x:=kv.2) (by rw [X4,hej];rfl)
    rw [X4,hja] at p1 p3
    simp only [XN,Xa] at p1 p3
    subst p1 p3
    simp only [VR]
    exact ⟨_,rfl,by simp only [VRs];exact ⟨_,_,rfl,p2,_,_,rfl,p4,rfl⟩⟩
   have TA3:TR I1 β0 (tput tm0 (some en) (.tup [kv.1,kv.2])) A3.tmps:=by rw [<-hA3];exact TR.put TA2 hkve (by omega)
   have ok3:(ZbJ it ms r b).ok A3:=by
    refine ⟨df3,fun k hk=>?_⟩
    have hk':k=it\/k=ms:=by simpa [ZbJ] using hk
    have n1:k≠en/\k≠ok/\k≠nx:=by
     rcases hk' with rfl | rfl
     ·exact ⟨Xag d11,Xag d10,Xag d9⟩
     ·exact ⟨Xag d8,Xag d7,Xag d6⟩
    rw [f3 k n1.1,f2 k n1.2.1,f1 k n1.2.2]
    exact gd.2 k hk
   have hkp:∀ n ∈ (ZbJ it ms r b).K,n ∈ an3.keep:=fun n hn=>by rw [hk3];exact hn
   have hblt:b < w.heap.size:=(Xx.1 hmap).1
   have hbH:KLt (fun k=>base k\/k=b\/k=r) w3:=fun k hk=>by
    rcases hk with hk | rfl | rfl
    ·have:=hbw k hk;omega
    ·omega
    ·omega
   obtain ⟨cs,hruns⟩:=Zkh hstep
   rw [<-XL lE]
   refine Zj0 (dr:=ZbJ it ms r b) (O:=fun _ _ _=>none) noO hkp hbH hcE TA3 ⟨ok3,by omega⟩ RH hruns ?_
   intro A4 w4 hst4
   refine wpList_nil ?_
   simp only [Exit.then]
   have fin:∀ (x:ZaB) (tmB:Tms) (σB:Za),evC fs prim bf σ0.length c2 tmA σA=some (x,tmB,σB)->(x=.normal\/x=.exit b1)->σB[t]?=some .opq->tput tmB (some ms) (.map t)=tm'->σB.set t (.map es)=σ'->body.wp P (Exit.inBlock b1 (Exit.then (Code.rounds P (.seq (.region i3 ops3 false) (.seq (.cond (.tmp ok) .skip (.exit bid)) (.block b1 (.seq (.region i4 ops4 false) body)))) Q n) Q)) A4 w4:=by
    intro x tmB σB hev hx hopq htm hσ
    obtain ⟨nf,hev⟩:=ZaW.1 hev
    rw [<-hc2,ZcR] at hev
    have hstF:StF (ZbJ it ms r b) σ0.length an3.nt (fun k=>base k\/k=b\/k=r) w3 I1 I1 β0 tmA σA A4 w4:=by
     obtain ⟨I4,β4,k1,k2,k3⟩:=hst4
     exact ⟨I4,β4,k1,KeptE.of_le k2,k3⟩
    have next:∀ A5 w5,StF (ZbJ it ms r b) σ0.length an3.nt (fun k=>base k\/k=b\/k=r) w3 I1 I1 β0 tmB σB A5 w5->Code.rounds P (.seq (.region i3 ops3 false) (.seq (.cond (.tmp ok) .skip (.exit bid)) (.block b1 (.seq (.region i4 ops4 false) body)))) Q n A5 w5:=by
     rintro A5 w5 ⟨I5,β5,k1,k2,k3,⟨k4,k4'⟩,k5⟩
     have hb5:β5 t 0=some ⟨some b,kk',cc'⟩:=k2 t htl _ hbt
     have w5b:w5.heap[b]?=some (.map arr clk):=by rw [k5.below.block b (Xu (Xs rfl))];exact w3b
     have w5r:w5.heap[r]?=_:=(k5.below.block r (Xu (Xu rfl))).trans w3r
     have hI5b:∀ o,I5 b o=none:=fun o=>by rw [k5.old b o (Xu (Xs rfl))];exact hIb o
     have hI5r:∀ o,I5 r o=none:=fun o=>by rw [k5.old r o (Xu (Xu rfl))];exact hIr o
     have hB5:BR I5 β5 w5 t (.map es):=⟨b,kk',cc',arr,clk,hb5,w5b,ZkM (fun y hy=>by obtain ⟨p,hp,rfl⟩:=XJ.1 hy;exact e5 p hp) e3,Zkd k1 k2 (fun y hy=>by obtain ⟨p,hp,rfl⟩:=XJ.1 hy;exact hkept p hp) e4,e5,hS⟩
     have ho5:Zh w β5 t (.map es) b:=by simp [Zh,hb5]
     have R5:=R3.unhide k5 hopq ho5 hB5 hbbase hI5b
     rw [hσ] at R5
     refine ih (js++[j]) tm' σ' A5 w5 (by rw [XE,WE];omega) hnd' hlt' hf' ?_ w5b ⟨I5,β5,g1.trans k1,?_,?_,⟨k4,by omega⟩,R5,hI5r,?_⟩
     ·rw [w5r,Wk,Xy,XO,hbj,List.push_toArray]
     ·refine (g2.trans q1).trans (fun u hu bi hbi=>k2 u (by omega) bi hbi)
     ·refine TR.keep (fun u=>?_) live
      rw [<-htm]
      show VR I5 β5 (tget (tins ms (.map t) tmB) u) _
      rw [Zfk]
      split
      ·rename_i e;subst e
       have : A5.tmps.getD ms undef=.map (some b):=by have:=k4.2 ms (by simp [ZbJ]);simpa [ZbJ,Xag d5] using this
       rw [this]
       simp only [VR]
       exact ⟨b,kk',cc',hb5,rfl⟩
      ·exact k3 u
     ·intro u y hy hoy
      rw [<-hσ,Xq] at hy
      split at hy
      ·rename_i e;subst e
       split at hy
       ·injection hy with hy;subst hy
        exact hrb (XaX (ho5.symm.trans hoy)).symm
       ·cases hy
      ·exact (k5.own u y r hy hoy).1 (Xu (Xu rfl))
    refine ZhG (dr:=ZbJ it ms r b) (an:=an3) (hO nf) hkp hm hbH σ0.length nf rfl hstF hev ?_
    rcases hx with rfl | rfl
    ·intro A5 w5 hs
     simp only [Exit.inBlock,Exit.then]
     exact next A5 w5 hs
    ·intro A5 w5 hs
     simp only [Exit.inBlock,if_true,Exit.then]
     exact next A5 w5 hs
   split at hro
   ·rename_i tmB σB hev
    split at hro
    case isFalse=>cases hro
    rename_i hopq
    simp only [Xa,Xb] at hro
    exact fin _ _ _ hev (Xs rfl) hopq hro.1 hro.2
   ·rename_i i tmB σB hev
    split at hro
    case isFalse=>cases hro
    rename_i hopq
    obtain ⟨rfl,hopq⟩:=hopq
    simp only [Xa,Xb] at hro
    exact fin _ _ _ hev (Xu rfl) hopq hro.1 hro.2
   ·cases hro
end
end
section
open Go.RowKit
open Go.ChangeMaps (setBlock)
section
variable {P:Program} {fs:Nat->Option Zau} {prim:Zbr} {bf:Nat->Bool}
theorem Zpw (hm:P.follows .mixedOrders=true) (hO:∀ n,Zao P (Zam fs prim bf n)) {f:FuncId} {an1 an3:Ann} {nt n0 n1 ms it nx ok en bid b1:Nat} {live:List Nat} {asl1 aslE:List AOp} {c1 c2 c3:Zs} {rs:List Zb0}
  (D:ZmL P f an1 an3 nt n0 n1 ms it nx ok en bid b1 live asl1 aslE c1 c2 c3 rs) {args:List AVal} {σ σ':Za} {r:AVal} (hg:ZgB fs prim bf live ms en b1 asl1 aslE c1 c2 c3 rs args σ=some (r,σ')) :
  (∃ fn,P.funcs[f]?=some fn/\fn.body.isSome=true/\(fn.name == "runtime.NumGoroutine")=false) /\
  ∀ base w0 I0 I β w (vs:Array Value),KLt base w0->Rel base w0 I0 I β σ w->VRs I β args vs.toList ->
   Calls P f vs w (fun e w'=>∃ u,Ends r e u/\Zbh σ.length base w0 I0 I β r σ' u w'):=by
 obtain ⟨F,B,pre,ops1,ops3,ops4,i2,i3,i4,body,rest,t,kt,et,rg,nxo,exo,eno,lE,hF,hname,hnt,hrs,hbody,hsp,h1,h3,h4,hr1,hr2,hr3,hu,hn1,hn2,hn3,hx1,hx2,hx3,he1,he2,he3,hc1,hca1,hcE,hc2,hc3,ha1,ha3,hk3,hd⟩:=D.ex
 simp only [Xr,decide_eq_true_eq,XB] at hd
 obtain ⟨⟨⟨⟨⟨⟨⟨⟨⟨⟨⟨⟨d1,d2⟩,d3⟩,d4⟩,d5⟩,d6⟩,d7⟩,d8⟩,d9⟩,d10⟩,d11⟩,d12⟩,hlv⟩:=hd
 refine ⟨⟨F,hF,by rw [hbody];rfl,hname⟩,?_⟩
 intro base w0 I0 I β w vs hb R hargs
 unfold ZgB at hg
 split at hg
 case h_2=>cases hg
 rename_i tm1 σ1 hx
 split at hg
 case h_2=>cases hg
 rename_i tm2 σ2 hst1
 split at hg
 case h_2=>cases hg
 rename_i mt hms
 split at hg
 case h_2=>cases hg
 rename_i es hes
 unfold ZfG at hg
 split at hg
 case isFalse=>cases hg
 rename_i hex
 have hall:=hex.choose_spec
 injection hg with hg
 rw [hg] at hall
 obtain ⟨nf,hx⟩:=ZaW.1 hx
 rw [<-hc1,ZcR] at hx
 refine calls_of_wp hF hbody ?_
 rw [Zkb hsp]
 have T:=ZmB hargs (F.ntmps - vs.size)
 have hst:StF ZbN σ.length an1.nt base w0 I0 I β (enterA 0 args []) σ { tmps:=vs++XaA (F.ntmps - vs.size) undef,defers:=[] } w:=⟨I,β,Imm.le.refl I,KeptE.refl _ β,T,⟨ZdC.2 rfl,by rw [ha1,<-hnt];simp;omega⟩,R⟩
 refine Zkn (hO nf) hm hb σ.length nf _ pre hst hx ?_
 rintro A1 w1 ⟨I1,β1,g1,g2,T1,⟨gd,gs⟩,R1⟩
 refine wp_seq (wp_seq (wp_region_list ?_))
 have hl1:ops1.toList=ops1.toList.take n1++[rg]:=by rw [<-h1,XaJ]
 rw [hl1]
 obtain ⟨cs,hruns⟩:=Zkh hst1
 refine Zj0 (dr:=ZbN) (O:=fun _ _ _=>none) noO (fun n hn=>by simp [ZbN] at hn) hb hca1 T1 ⟨gd,gs⟩ R1 hruns ?_
 rintro A2 w2 ⟨I2,β2,k1,k2,T2,⟨kd,ks⟩,R2⟩
 have vms:=T2 ms
 rw [hms] at vms
 simp only [VR] at vms
 obtain ⟨b,kk,cc,hbt,vms⟩:=vms
 obtain ⟨b',kk',cc',arr,clk,e1,e2,e3,e4,e5,e6⟩:=R2.blk mt _ hes
 rw [hbt] at e1
 simp only [Xa,BI.mk.injEq] at e1
 obtain ⟨rfl,rfl,rfl⟩:=e1
 refine Zfi hr3 ?_
 unfold Oper.wp
 have er:(execOp A2.eval rg).run P w2=.ok (.value (.pointer (some ⟨w2.heap.size,0,none⟩))) { w2 with heap:=w2.heap.push (.mapIter (some b) clk #[] clk) }:=by
  unfold execOp;rw [hr1]
  simp only [Act.eval]
  rw [vms]
  simp [Instr.range,run_underlying hu,Zf0 e2]
 rw [er,Oper.upon_value,hr2]
 refine wpList_nil ?_
 simp only [Exit.then]
 have hbw:=R2.base_le hb
 have hblt:b < w2.heap.size:=(Xx.1 e2).1
 have howb:Zh w2 β2 mt (.map es) b:=by simp [Zh,hbt]
 have hob:=R2.own mt _ b hes howb
 generalize hr:w2.heap.size=rr at *
 have hown:∀ t x,σ2[t]?=some x->¬Zh w2 β2 t x rr:=fun t x hx ho=>by
  have:=(R2.blk t x hx).owns_lt ho;omega
 have hrb:¬base rr:=fun h=>by have:=hbw rr h;omega
 have hIr:∀ o,I2 rr o=none:=fun o=>by
  cases hi:I2 rr o with
  | none=>rfl
  | some u =>
   have:=Zb9 (R2.imm rr o u hi)
   omega
 generalize hw3:({ w2 with heap:=w2.heap.push (.mapIter (some b) clk #[] clk) }:World)=w3
 have w3k:∀ k,k < w2.heap.size->w3.heap[k]?=w2.heap[k]?:=fun k hk=>by
  rw [<-hw3];simp only;rw [Array.getElem?_push];rw [if_neg (by omega)]
 have R3:Rel base w0 I0 I2 β2 σ2 w3:=R2.turn hown hrb hIr (by rw [<-hw3]) (by rw [<-hw3]) (by rw [<-hw3]) (by rw [<-hw3];simp) (fun k _ hk=>w3k k hk) hbw
 have hown3:∀ t x,σ2[t]?=some x->¬Zh w3 β2 t x rr:=fun t x hx ho=>hown t x hx (((R2.blk t x hx).owns_at (Bmap.le.refl β2) (fun b' hb'=>w3k b' ((R2.blk t x hx).owns_lt hb')) rr).1 ho)
 refine wp_block (wp_loop_rounds (es.length+1) ?_)
 have hlen:arr.size=es.length:=by
  have:=Zay e3
  simpa using this.symm
 refine ZsE (base:=base) (w0:=w0) (I0:=I0) (m:=σ.length) (live:=live) (ms:=ms) (it:=it) (nx:=nx) (ok:=ok) (en:=en) (nt:=nt) (c3:=c3) (rs:=rs) hm hO hb h3 h4 hn1 hn2 hn3 hx1 hx2 hx3 he1 he2 he3 hcE hc2 ha3 hk3 d1 d2 d3 d4 d5 d6 d7 d8 d9 d10 d11 d12 (fun n hn=>by have:=hlv n hn;exact ⟨this.1.1.1,this.1.1.2,this.1.2,this.2⟩)
  (r:=rr) (b:=b) (arr:=arr) (clk:=clk) (es:=es) (tm2:=tm2) (σ2:=σ2) (out:=(r,σ')) (I:=I2) (β:=β2) e6 hlen (by omega) hrb hob.1 hall ?_ (es.length+1) [] tm2 σ2 _ w3 (by simp) (by simp) (by simp) rfl ?_ ?_ ?_
 ·
  intro tm σx a wx I' β' hend j1 j2 jT jd jR
  simp only [Exit.inBlock,if_true,Exit.then]
  unfold Zdu at hend
  obtain ⟨β3,q1,q2,q3⟩:=Zjc jR jT σ.length
  generalize hev:evC fs prim bf σ.length c3 (gcT σ.length (keepL live tm) σx).1 (gcT σ.length (keepL live tm) σx).2=res at hend
  cases res with
  | none=>simp only [ZaS] at hend;cases hend
  | some q =>
   obtain ⟨e,tm',σe⟩:=q
   obtain ⟨n3,hev⟩:=ZaW.1 hev
   rw [<-hc3,ZcR] at hev
   have kk1:KeptE σ.length β β3:=(g2.trans (KeptE.of_le k2)).trans (j2.trans q1)
   have st:StF ZbN σ.length an1.nt base w0 I0 I β (gcT σ.length (keepL live tm) σx).1 (gcT σ.length (keepL live tm) σx).2 a wx:=⟨I',β3,(g1.trans k1).trans j1,kk1,q3,⟨ZdC.2 jd.1,by rw [ha1];exact jd.2⟩,q2⟩
   have fin:(match resA tm' σe rs with | some r=>Za8 σ.length σe r | none=>none)=some (r,σ')->∀ a' w',StF ZbN σ.length an1.nt base w0 I0 I β tm' σe a' w'->a'.defers=[]/\∃ v,(results F a'.tmps).run P w'=.ok v w'/\∃ u,Ends r (.returned v) u/\Zbh σ.length base w0 I0 I β r σ' u w':=by
    intro hr a' w' ⟨I1,β1,g1,g2,g3,g4,g5⟩
    split at hr
    ·rename_i x hx1
     obtain ⟨v,h1,h2⟩:=Znf g3 g5 hrs hx1
     have hnp:∀ y,x≠.pan y:=by rintro y rfl;simp only [VR] at h2
     obtain ⟨q1,q2⟩:=Zfr (⟨I1,β1,g1,g2,g5,by rw [Zec hnp];exact h2⟩:Zbh σ.length base w0 I0 I β x σe v w') hr
     refine ⟨ZdC.1 g4.1,v,h1,v,q2 _ ?_,q1⟩
     cases x <;> first | rfl | exact absurd rfl (hnp _)
    ·cases hr
   refine ZhG (dr:=ZbN) (an:=an1) (hO n3) (fun n hn=>by simp [ZbN] at hn) hm hb σ.length n3 rfl st hev ?_
   cases e with
   | normal=>simp only [ZaS] at hend;exact fun a' w' hs=>fin hend a' w' hs
   | ret=>simp only [ZaS] at hend;exact fun a' w' hs=>fin hend a' w' hs
   | exit id=>simp only [ZaS] at hend;cases hend
   | panic x =>
    simp only [ZaS] at hend
    intro a' u w' hd hp
    obtain ⟨q1,q2⟩:=Zfr hp hend
    exact ⟨ZdC.1 hd,u,q2 _ rfl,q1⟩
 ·rw [<-hw3,<-hr];simp
 ·rw [w3k b (by omega)];exact e2
 ·refine ⟨I2,β2,Imm.le.refl _,KeptE.refl _ _,?_,⟨⟨by rw [Zgf];exact ZdC.1 kd,fun k hk=>?_⟩,by rw [Zdo];omega⟩,R3,hIr,hown3⟩
  ·refine ZfK (T2.keep live) ?_
   rw [Zgi,if_neg]
   exact fun h=>(hlv it h).1.1.1 rfl
  ·have hk':k=it\/k=ms:=by simpa [ZbJ] using hk
   rcases hk' with rfl | rfl
   ·rw [pgs (by omega)];simp [ZbJ]
   ·rw [pgn d5,vms];simp [ZbJ,Xag d5]
end
end
section
open Go.RowKit Go.Sort
def Zb5 {α:Type} (g:AVal->Option α):List AVal->Option (List α)
 | []=>some []
 | x::r=>match g x with
  | some a=>(Zb5 g r).map (a::·)
  | none=>none
def ZdV:AVal->Option Int
 | .int .i64 n=>some n
 | _=>none
def Zg8 {α:Type} (g:AVal->Option α) (h:α->AVal) (le:α->α->Bool) (args:List AVal) (σ:Za):Option (AVal×Za):=match args,σ with
 | [.sl 0 0 0 n],[.row 0 1 xs]=>match Zb5 g xs with
  | some zs=>if n=xs.length/\n < 4611686018427387904 then some (.tup [],[.row 0 1 ((zs.mergeSort le).map h)]) else none
  | none=>none
 | [.lst b []],[]=>some (.tup [],[])
 | _,_=>none
def Zhc:=Zg8 ZdV (AVal.int .i64) (fun x y=>decide (x<=y))
section
variable {P:Program} {base:Nat->Prop} {w0 w w':World} {I0 I:Imm} {β:Bmap} {σ:Za}
theorem Rel.putAt (R:Rel base w0 I0 I β σ w) (hbl:KLt base w) {t b:Nat} {x x':Z0} (ht:σ[t]?=some x) (hx:Zh w β t x b) (hx':∀ b',Zh w' β t x' b'->b'=b) (hg:Zc x'=Zc x)
  (hos:w'.os=w.os) (hta:w'.tape=w.tape) (hou:w'.output=w.output) (hs:w.heap.size<=w'.heap.size) (hh:∀ k,k≠b->k < w.heap.size->w'.heap[k]?=w.heap[k]?) (hblk:BR I β w' t x') (hnf:x'≠.free:=by simp) :
  Rel base w0 I0 I β (σ.set t x') w':=by
 have hsl:t < σ.length:=(Xc.1 ht).1
 have ho:=R.own t x b ht hx
 refine R.upd (Imm.le.refl I) (Bmap.le.refl β) ⟨hos,hta,hou,hs,fun k hk=>hh k (by rintro rfl;exact ho.1 hk) (hbl k hk)⟩ (fun _ _ _=>rfl) ?_ t x' rfl hsl (fun _ _ _=>rfl) ?_ hblk ?_ ?_ ?_
 ·intro b' o u h
  have hne:b'≠b:=by rintro rfl;rw [ho.2 o] at h;cases h
  have h1:=R.imm b' o u h
  have hlt:=Zb9 h1
  rw [<-h1]
  simp only [World.cell?,hh b' hne hlt]
 ·intro t' y b' hne hy hb'
  have hbb:b'≠b:=by rintro rfl;exact hne (R.apart t' y t x b' hy ht hb' hx)
  exact ⟨hh b' hbb ((R.blk t' y hy).owns_lt hb'),(R.own t' y b' hy hb').2,fun e=>hbb (hx' _ e)⟩
 ·intro b' e
  obtain rfl:=hx' _ e
  exact ho
 ·intro g hlt
  exact R.gen t x g ht (by rw [<-hg];exact hlt)
 ·rintro rfl
  exact hnf rfl
theorem ZmF {α:Type} {g:AVal->Option α} {enc:α->Value} (hg:∀ x a v,g x=some a->VR I β x v->v=enc a) (hc:∀ x a,g x=some a->x.cells=[x]):∀ {xs:List AVal} {zs:List α} {vs:List Value},Zb5 g xs=some zs->VRs I β (xs.flatMap AVal.cells) vs->vs=zs.map enc
 | [],zs,vs,h,hv=>by
  simp only [Zb5,Xa] at h;subst h
  simpa [VRs] using hv
 | x::xs,zs,vs,h,hv=>by
  simp only [Zb5] at h
  split at h
  ·rename_i a ha
   simp only [Xo] at h
   obtain ⟨zs',h,rfl⟩:=h
   rw [XI,hc x a ha] at hv
   simp only [Wh,VRs] at hv
   obtain ⟨v,vs',rfl,h1,h2⟩:=hv
   rw [hg x a v ha h1,ZmF hg hc h h2];rfl
  ·cases h
theorem Znd {α:Type} {g:AVal->Option α}:∀ {xs:List AVal} {zs:List α},Zb5 g xs=some zs->zs.length=xs.length
 | [],zs,h=>by simp only [Zb5,Xa] at h;subst h;rfl
 | x::xs,zs,h=>by
  simp only [Zb5] at h
  split at h
  ·simp only [Xo] at h
   obtain ⟨zs',h,rfl⟩:=h
   simp [Znd h]
  ·cases h
theorem Zvw {α:Type} [Inhabited α] {g:AVal->Option α} {h:α->AVal} {le:α->α->Bool} {enc:α->Value} {f:Nat} (hf:∃ fn,P.funcs[f]?=some fn/\fn.body.isSome=true/\(fn.name == "runtime.NumGoroutine")=false)
  (hg:∀ {I:Imm} {β:Bmap} (x:AVal) (a:α) (v:Value),g x=some a->VR I β x v->v=enc a) (hc:∀ x a,g x=some a->x.cells=[x]) (hh:∀ {I:Imm} {β:Bmap} (x:AVal) (a:α) (v:Value),g x=some a->VR I β x v->VR I β (h a) v) (hhc:∀ a,(h a).cells=[h a]/\Zax (h a)=true)
  (hsort:∀ (blk off cap:Nat) (zs:List α) (w:World),Holds enc w blk off zs.toArray->blk < w.heap.size->zs.length < 4611686018427387904->Calls P f #[.slice (some ⟨blk,off,none⟩) zs.length cap] w fun e w'=>e=.returned (.tuple #[])/\∃ n os,w'=grow (putRow enc (Sort.ahead w n) blk off (zs.mergeSort le).toArray) os)
  (hnone:∀ (p:Option Addr) (cap:Nat) (w:World),Calls P f #[.slice p 0 cap] w fun e w'=>e=.returned (.tuple #[])/\w'=w)
  {args:List AVal} {σ σ':Za} {r:AVal} (hp:Zg8 g h le args σ=some (r,σ')) :
  (∃ fn,P.funcs[f]?=some fn/\fn.body.isSome=true/\(fn.name == "runtime.NumGoroutine")=false) /\
  ∀ base w0 I0 I β w (vs:Array Value),KLt base w0->Rel base w0 I0 I β σ w->VRs I β args vs.toList ->
   Calls P f vs w (fun e w'=>∃ u,Ends r e u/\Zbh σ.length base w0 I0 I β r σ' u w'):=by
 refine ⟨hf,fun base w0 I0 I β w vs hb R hv=>?_⟩
 unfold Zg8 at hp
 obtain ⟨vs⟩:=vs
 split at hp
 ·rename_i n xs
  split at hp
  case h_2=>cases hp
  rename_i zs hz
  split at hp
  case isFalse=>cases hp
  rename_i hn
  obtain ⟨rfl,hn⟩:=hn
  simp only [Xa,Xb] at hp
  obtain ⟨rfl,rfl⟩:=hp
  simp only [VRs] at hv
  obtain ⟨v,vs',rfl,hv,rfl⟩:=hv
  have hzl:=Znd hz
  have hB:=R.blk 0 _ rfl
  obtain ⟨bi,e1,e2,e3,e4,e5,e6,e7,e8⟩:=hB
  rw [Zbt] at hv
  obtain ⟨bi',f1,f2,f3,f4⟩:=hv
  rw [e1] at f1
  injection f1 with f1
  subst f1
  rcases f4 with ⟨b,hb',rfl⟩ | ⟨hbn,hc0,A,rfl⟩
  ·rcases e8 with ⟨e8,_⟩ | ⟨b2,us,ty,q1,q2,q3,q4⟩
   ·rw [e8] at hb';cases hb'
   rw [hb'] at q1;injection q1 with q1;subst q1
   rw [XaH] at q3 q4
   have hus:=ZmF (fun x a v=>hg x a v) hc hz q4
   have hxl:xs.length<=us.size:=by omega
   have hH:Holds enc w b 0 zs.toArray:=by
    intro j hj
    have hj':j < zs.length:=by simpa using hj
    refine ⟨?_,by simp [World.frozen?,q2]⟩
    have h1:(us.toList.take xs.length)[j]?=(zs.map enc)[j]?:=by rw [hus]
    rw [List.getElem?_take_of_lt (by omega)] at h1
    simp only [World.cell?,q2,XF]
    simp only [Option.isSome_none,Xw,if_false]
    rw [<-W9,h1]
    simp [hj']
   have hvr:∀ a ∈ zs,VR I β (h a) (enc a):=by
    have key:∀ {ys:List AVal} {zs:List α} {vs:List Value},Zb5 g ys=some zs->VRs I β (ys.flatMap AVal.cells) vs->∀ a ∈ zs,VR I β (h a) (enc a):=by
     intro ys
     induction ys with
     | nil=>intro zs vs hz _ a ha;simp only [Zb5,Xa] at hz;subst hz;simp at ha
     | cons y ys ih =>
      intro zs vs hz hv a ha
      simp only [Zb5] at hz
      split at hz
      ·rename_i a0 ha0
       simp only [Xo] at hz
       obtain ⟨zs',hz,rfl⟩:=hz
       rw [XI,hc y a0 ha0] at hv
       simp only [Wh,VRs] at hv
       obtain ⟨v,vs',_,h1,h2⟩:=hv
       rcases XC.1 ha with rfl | ha
       ·rw [<-hg y a v ha0 h1];exact hh y a v ha0 h1
       ·exact ih hz h2 a ha
      ·cases hz
    exact key hz q4
   have hlt:b < w.heap.size:=(Xx.1 q2).1
   rw [<-hzl]
   refine (hsort b 0 bi.cap zs w hH hlt (by omega)).mono ?_
   rintro e w' ⟨rfl,nn,os,rfl⟩
   have hml:(zs.mergeSort le).length=zs.length:=List.length_mergeSort zs
   have hheap:(grow (putRow enc (Sort.ahead w nn) b 0 (zs.mergeSort le).toArray) os).heap[b]?=some (.cells (putCells enc 0 (zs.mergeSort le).toArray us) ty (0,0)):=by
    rw [heap_grow_old _ _ (by simpa using hlt)]
    simp [putRow,mapBlock,Sort.ahead,W5,q2,onCells]
   have htake:(putCells enc 0 (zs.mergeSort le).toArray us).toList.take zs.length=(zs.mergeSort le).map enc:=by
    apply Wv
    intro j
    by_cases hj:j < zs.length
    ·rw [List.getElem?_take_of_lt hj,W9]
     have hj2:j < us.size:=by omega
     have hj3:j < (zs.mergeSort le).length:=by omega
     simp [putCells,hj2,hj]
    ·rw [List.getElem?_take_eq_none (by omega),XS (by simp;omega)]
   have hperm:∀ a,a ∈ zs.mergeSort le->a ∈ zs:=fun a ha=>(List.mergeSort_perm zs le).mem_iff.1 ha
   have hcells:∀ l:List α,(l.map h).flatMap AVal.cells=l.map h:=by
    intro l
    induction l with
    | nil=>rfl
    | cons a l ih=>rw [Xy,XI,(hhc a).1,ih];rfl
   have hown:Zh w β 0 (.row 0 1 xs) b:=by simp [Zh,e1,hb']
   refine ⟨.tuple #[],rfl,I,β,Imm.le.refl I,KeptE.refl _ β,?_,by simp [ZaA,VR,VRs]⟩
   have:=R.putAt (R.base_le hb) (t:=0) (b:=b) (x:=.row 0 1 xs) (x':=.row 0 1 ((zs.mergeSort le).map h)) (w':=grow (putRow enc (Sort.ahead w nn) b 0 (zs.mergeSort le).toArray) os) rfl hown (by simp [Zh,e1,hb']) rfl rfl rfl rfl (by simp) (fun k hk hkl=>by
    rw [heap_grow_old _ _ (by simpa using hkl)]
    have : b≠k:=fun e=>hk e.symm
    simp [putRow,mapBlock,Sort.ahead,W5,this])
    ⟨bi,e1,e2,by decide,e4,by rw [Xz,hml];omega,?_,?_,Xu ⟨b,_,ty,hb',hheap,by simp [putCells];omega,?_⟩⟩
   ·exact this
   ·rw [ZbR]
    intro x hx
    obtain ⟨a,_,rfl⟩:=XJ.1 hx
    have:=(hhc a)
    rw [Zcf,this.1]
    intro c hc
    rw [X9] at hc;subst hc
    exact this.2
   ·intro x hx
    obtain ⟨a,_,rfl⟩:=XJ.1 hx
    rw [(hhc a).1];rfl
   ·rw [hcells,Xz,hml,XaH,htake]
    have key:∀ l:List α,(∀ a ∈ l,VR I β (h a) (enc a))->VRs I β (l.map h) (l.map enc):=by
     intro l
     induction l with
     | nil=>intro _;simp [VRs]
     | cons a l ih =>
      intro hl
      simp only [Xy,VRs]
      exact ⟨_,_,rfl,hl a (by simp),ih fun c hc=>hl c (by simp [hc])⟩
    exact key _ fun a ha=>hvr a (hperm a ha)
  ·have hx0:xs=[]:=XA (by omega)
   subst hx0
   simp only [Zb5,Xa] at hz
   subst hz
   refine (hnone A 0 w).mono ?_
   rintro e w' ⟨rfl,rfl⟩
   exact ⟨.tuple #[],rfl,I,β,Imm.le.refl I,KeptE.refl _ β,by simpa using R,by simp [ZaA,VR,VRs]⟩
 ·simp only [Xa,Xb] at hp
  obtain ⟨rfl,rfl⟩:=hp
  simp only [VRs,VR] at hv
  obtain ⟨v,vs',rfl,⟨A,cap,rfl,_⟩,rfl⟩:=hv
  refine (hnone A cap w).mono ?_
  rintro e w' ⟨rfl,rfl⟩
  exact ⟨.tuple #[],rfl,I,β,Imm.le.refl I,KeptE.refl _ β,R,by simp [ZaA,VR,VRs]⟩
 ·cases hp
theorem Zpp {f:Nat} (hf:∃ fn,P.funcs[f]?=some fn/\fn.body.isSome=true/\(fn.name == "runtime.NumGoroutine")=false)
  (hsort:∀ (blk off cap:Nat) (zs:List Int) (w:World),Holds (Value.int .i64) w blk off zs.toArray->blk < w.heap.size->zs.length < 4611686018427387904->Calls P f #[.slice (some ⟨blk,off,none⟩) zs.length cap] w fun e w'=>e=.returned (.tuple #[])/\∃ n os,w'=grow (putRow (Value.int .i64) (Sort.ahead w n) blk off (zs.mergeSort fun x y=>decide (x<=y)).toArray) os)
  (hnone:∀ (p:Option Addr) (cap:Nat) (w:World),Calls P f #[.slice p 0 cap] w fun e w'=>e=.returned (.tuple #[])/\w'=w)
  {args:List AVal} {σ σ':Za} {r:AVal} (hp:Zhc args σ=some (r,σ')) :
  (∃ fn,P.funcs[f]?=some fn/\fn.body.isSome=true/\(fn.name == "runtime.NumGoroutine")=false) /\
  ∀ base w0 I0 I β w (vs:Array Value),KLt base w0->Rel base w0 I0 I β σ w->VRs I β args vs.toList ->
   Calls P f vs w (fun e w'=>∃ u,Ends r e u/\Zbh σ.length base w0 I0 I β r σ' u w'):=by
 refine Zvw (g:=ZdV) (h:=AVal.int .i64) hf ?_ ?_ ?_ (fun a=>⟨rfl,rfl⟩) hsort hnone hp
 ·intro I β x a v hx hv
  unfold ZdV at hx
  split at hx
  ·injection hx with hx;subst hx;simpa [VR] using hv
  ·cases hx
 ·intro x a hx
  unfold ZdV at hx
  split at hx
  ·rfl
  ·cases hx
 ·intro I β x a v hx hv
  unfold ZdV at hx
  split at hx
  ·injection hx with hx;subst hx;exact hv
  ·cases hx
end
end
section
open Go.RowKit
def Zed:List AVal->Option (List UInt8)
 | []=>some []
 | .int .u8 n::r=>if 0<=n/\n < 256 then (Zed r).map (UInt8.ofNat n.toNat::·) else none
 | _=>none
def Zfp (σ:Za):List AVal->Option (List (Nat×List UInt8))
 | []=>some []
 | .sl t 0 0 n::r=>match σ[t]? with
  | some (.row 0 1 xs)=>match Zed xs with
   | some l=>if n=l.length/\l.length<=1099511627776 then (Zfp σ r).map ((t,l)::·) else none
   | none=>none
  | _=>none
 | _=>none
def relB (σ:Za):List Nat->Za
 | []=>σ
 | t::ts=>relB (σ.set t (.frow 0 1 [])) ts
def Zl2 (σ:Za) (tb nb:Nat):Option (AVal×Za):=match σ[tb]? with
 | some (.rrow 0 1 xs)=>match Zfp σ xs with
  | some rows=>if nb=xs.length/\nb<=400/\(rows.map (·.1)).Nodup then some (.bool true,relB σ (rows.map (·.1))) else none
  | none=>none
 | _=>none
def ZhR (args:List AVal) (σ:Za):Option (AVal×Za):=match args with
 | [.ref 0 0]=>match (σ[0]? : Option Z0) with
  | some (Z0.var (AVal.sl tb 0 0 nb::_))=>Zl2 σ tb nb
  | _=>none
 | _=>none
theorem Zk9:∀ {xs:List AVal} {l:List UInt8},Zed xs=some l->xs=l.map Zbg
 | [],l,h=>by simp only [Zed,Xa] at h;subst h;rfl
 | x::xs,l,h=>by
  unfold Zed at h
  split at h
  ·cases ‹_::_=[]›
  ·rename_i n r e
   injection e with e1 e2
   subst e1 e2
   split at h
   ·rename_i hn
    simp only [Xo] at h
    obtain ⟨l',h,rfl⟩:=h
    rw [Zk9 h]
    simp only [Xy,Zbg,UInt8.toNat_ofNat']
    congr 2
    omega
   ·cases h
  ·cases h
theorem Zm2 {σ:Za}:∀ {xs:List AVal} {rows:List (Nat×List UInt8)},Zfp σ xs=some rows->rows.length=xs.length/\∀ (i t:Nat) (l:List UInt8),rows[i]?=some (t,l)->xs[i]?=some (.sl t 0 0 l.length)/\l.length<=1099511627776/\∃ ys,σ[t]?=some (.row 0 1 ys)/\Zed ys=some l
 | [],rows,h=>by simp only [Zfp,Xa] at h;subst h;simp
 | x::xs,rows,h=>by
  unfold Zfp at h
  split at h
  ·cases ‹_::_=[]›
  ·rename_i t n r e
   injection e with e1 e2
   subst e1 e2
   split at h
   ·rename_i ys hs
    split at h
    ·rename_i l hl
     split at h
     ·rename_i hn
      obtain ⟨rfl,hn⟩:=hn
      simp only [Xo] at h
      obtain ⟨rows',h,rfl⟩:=h
      obtain ⟨h1,h2⟩:=Zm2 h
      refine ⟨by simp [h1],fun i t' l' hi=>?_⟩
      cases i with
      | zero =>
       simp only [XG,Xa,Xb] at hi
       obtain ⟨rfl,rfl⟩:=hi
       exact ⟨rfl,hn,ys,hs,hl⟩
      | succ i=>simpa using h2 i t' l' (by simpa using hi)
     ·cases h
    ·cases h
   ·cases h
  ·cases h
theorem Zni:∀ {ts:List Nat} {σ:Za} {t:Nat} {x:Z0},(relB σ ts)[t]?=some x->(t ∈ ts/\x=.frow 0 1 [])\/(t ∉ ts/\σ[t]?=some x)
 | [],σ,t,x,h=>Xu ⟨by simp,h⟩
 | u::ts,σ,t,x,h=>by
  rcases Zni (ts:=ts) h with ⟨h1,h2⟩ | ⟨h1,h2⟩
  ·exact Xs ⟨by simp [h1],h2⟩
  ·by_cases e:u=t
   ·subst e
    rw [Xq] at h2
    simp only [if_true] at h2
    split at h2
    ·injection h2 with h2;exact Xs ⟨by simp,h2.symm⟩
    ·cases h2
   ·rw [List.getElem?_set_ne e] at h2
    exact Xu ⟨by simp only [XC,not_or];exact ⟨fun e'=>e e'.symm,h1⟩,h2⟩
end
section
def Zb6:List AVal->Option (List Int)
 | []=>some []
 | .int .i64 n::r=>(Zb6 r).map (n::·)
 | _=>none
def Zdz (args:List AVal) (σ:Za):Option (AVal×Za):=match args,σ with
 | [.ref 0 0,.sl 1 0 0 m],[.book n [],.row 0 1 xs]=>match Zb6 xs with
  | some l=>if m=l.length/\l.length<=65536/\n < 400 then some (.tup [],[.book n [(.sl 1 0 0 m,l)],.row 0 1 xs]) else none
  | none=>none
 | [.ref 0 0,.sl 2 0 0 m],[.book n [(.sl 1 0 0 m0,l0)],.row 0 1 xs0,.row 0 1 xs]=>match Zb6 xs0,Zb6 xs with
  | some k0,some l=>if k0=l0/\m0=l0.length/\m=l.length/\l.length<=65536/\n+1 < 400 then some (.tup [],[.book (n+1) [(.sl 2 0 0 m,l)],.frow 0 1 [],.row 0 1 xs]) else none
  | _,_=>none
 | [.ref 0 0,.lst true []],[.book n []]=>if n < 400 then some (.tup [],[.book (n+1) []]) else none
 | [.ref 0 0,.lst true []],[.book n [(.sl 1 0 0 m0,l0)],.row 0 1 xs0]=>match Zb6 xs0 with
  | some k0=>if k0=l0/\m0=l0.length/\n+1 < 400 then some (.tup [],[.book (n+2) [],.frow 0 1 []]) else none
  | none=>none
 | _,_=>none
def Zc3:Z0:=.var [.any,.any,.any,.any,.any,.any]
def ZeU (args:List AVal) (σ:Za):Option (AVal×Za):=match args,σ with
 | [.ref 0 0],[.book n []]=>if n<=400 then some (.bool true,[Zc3]) else none
 | [.ref 0 0],[.book n [(.sl 1 0 0 m0,l0)],.row 0 1 xs0]=>match Zb6 xs0 with
  | some k0=>if k0=l0/\m0=l0.length/\n+1<=400 then some (.bool true,[Zc3,.frow 0 1 []]) else none
  | none=>none
 | _,_=>none
theorem ZlK:∀ l:List Int,Zb6 (l.map (AVal.int .i64 ·))=some l
 | []=>rfl
 | n::l=>by simp only [Xy,Zb6,ZlK l,XN]
theorem ZjN:∀ {xs:List AVal} {l:List Int},Zb6 xs=some l->xs=l.map (AVal.int .i64 ·)
 | [],l,h=>by simp only [Zb6,Xa] at h;subst h;rfl
 | x::xs,l,h=>by
  unfold Zb6 at h
  split at h
  ·cases ‹_::_=[]›
  ·rename_i n r e
   injection e with e1 e2
   subst e1 e2
   simp only [Xo] at h
   obtain ⟨l',h,rfl⟩:=h
   rw [ZjN h];rfl
  ·cases h
end
section
def ZcX {α:Type} (d:α):List (Nat×α)->Nat->α
 | [],_=>d
 | (k,v)::r,n=>if k=n then v else ZcX d r n
def ZaY (own raw:List Nat) (cfg cfg2:List (Nat×Nat×Bool)) (lr ll:List (Nat×List Nat)):Ann:={ own:=fun n=>if own.contains n then 1 else if raw.contains n then 2 else if raw.contains (n+1000000) then 3 else if raw.contains (n+2000000) then 4 else 0,cfg:=ZcX (0,true) cfg,cfg2:=ZcX (0,true) cfg2,lr:=ZcX [] lr,ll:=ZcX [] ll }
def Zy7:List (Nat×Ann):=[
 (13,ZaY [] [] [] [] [(0,[1,0]),(1,[5,1,0]),(2,[5]),(3,[4])] []),
 (15,ZaY [] [] [] [] [(0,[1,0]),(1,[6]),(2,[4])] []),
 (12,ZaY [] [] [] [] [(0,[1,0]),(1,[15,1,0]),(2,[4]),(3,[]),(4,[4])] []),
 (20,ZaY [] [] [] [] [(0,[0]),(1,[2])] []),
 (10,ZaY [] [] [] [] [(0,[0]),(1,[4,0]),(2,[6,4,0]),(3,[4,0]),(4,[11,4,0]),(5,[3,2]),(6,[3,2])] [(2,[4,0])]),
 (21,ZaY [] [] [] [] [(0,[0]),(1,[2])] []),
 (18,ZaY [] [] [] [] [(0,[10,1,0]),(1,[4,1,0]),(2,[4,1,0]),(3,[])] []),
 (23,ZaY [] [] [] [] [(0,[0]),(1,[3,0]),(2,[12,3,0]),(3,[3,0]),(4,[30,3,0]),(5,[2]),(6,[4,0]),(7,[37,4,0]),(8,[4,0]),(9,[55,4,0]),(10,[2]),(11,[5,0]),(12,[62,5,0]),(13,[5,0]),(14,[80,5,0]),(15,[2]),(16,[2])] [(2,[3,0]),(7,[4,0]),(12,[5,0])]),
 (24,ZaY [] [] [] [] [(0,[0]),(1,[3,0]),(2,[17,3,0]),(3,[3,0]),(4,[4,3,0]),(5,[29,4,3,0]),(6,[4,3,0]),(7,[4,3,0]),(8,[5,0]),(9,[6,5,0]),(10,[49,6,5,0]),(11,[6,5,0]),(12,[7,6,5,0]),(13,[6,5,0]),(14,[8,5,0]),(15,[76,8,5,0]),(16,[8,5,0]),(17,[9,8,5,0]),(18,[10,9,8,5,0]),(19,[89,10,9,8,5,0]),(20,[10,9,8,5,0]),(21,[116,10,9,8,5,0]),(22,[2]),(23,[141,8,5,0]),(24,[2]),(25,[2])] [(2,[3,0]),(5,[4,3,0]),(10,[6,5,0]),(15,[8,5,0]),(19,[10,9,8,5,0])]),
 (26,ZaY [] [] [] [] [(0,[0]),(1,[3,0]),(2,[17,3,0]),(3,[3,0]),(4,[4,3,0]),(5,[29,4,3,0]),(6,[4,3,0]),(7,[4,3,0]),(8,[5,0]),(9,[6,5,0]),(10,[48,6,5,0]),(11,[6,5,0]),(12,[7,6,5,0]),(13,[6,5,0]),(14,[8,5,0]),(15,[73,8,5,0]),(16,[8,5,0]),(17,[9,8,5,0]),(18,[10,9,8,5,0]),(19,[86,10,9,8,5,0]),(20,[10,9,8,5,0]),(21,[111,10,9,8,5,0]),(22,[2]),(23,[134,8,5,0]),(24,[2]),(25,[2])] [(2,[3,0]),(5,[4,3,0]),(10,[6,5,0]),(15,[8,5,0]),(19,[10,9,8,5,0])]),
 (25,ZaY [] [] [] [] [(0,[0]),(1,[3,0]),(2,[17,3,0]),(3,[3,0]),(4,[4,3,0]),(5,[29,4,3,0]),(6,[4,3,0]),(7,[4,3,0]),(8,[5,0]),(9,[6,5,0]),(10,[49,6,5,0]),(11,[6,5,0]),(12,[7,6,5,0]),(13,[6,5,0]),(14,[8,5,0]),(15,[76,8,5,0]),(16,[8,5,0]),(17,[9,8,5,0]),(18,[10,9,8,5,0]),(19,[89,10,9,8,5,0]),(20,[10,9,8,5,0]),(21,[116,10,9,8,5,0]),(22,[2]),(23,[141,8,5,0]),(24,[2]),(25,[2])] [(2,[3,0]),(5,[4,3,0]),(10,[6,5,0]),(15,[8,5,0]),(19,[10,9,8,5,0])]),
 (14,ZaY [] [] [] [] [(0,[1,0]),(1,[5,1,0]),(2,[13,5,1,0]),(3,[5,1,0]),(4,[24,5,1,0]),(5,[6,5,0]),(6,[]),(7,[4]),(8,[4])] [(2,[5,1,0])]),
 (16,ZaY [] [] [] [] [(0,[1,0]),(1,[5,1,0]),(2,[12,5,1,0]),(3,[5,1,0]),(4,[23,5,1,0]),(5,[4]),(6,[4])] [(2,[5,1,0])]),
 (8,ZaY [] [] [] [] [(0,[1,0]),(1,[12,1,0]),(2,[4]),(3,[5,1,0]),(4,[30,5,1,0]),(5,[5,1,0]),(6,[50,5,1,0]),(7,[4]),(8,[6,5,1,0]),(9,[]),(10,[4])] [(4,[5,1,0])]),
 (11,ZaY [] [] [(8,1,true)] [] [(0,[0]),(1,[4,0]),(2,[5,4,0]),(3,[23,5,4,0]),(4,[5,4,0]),(5,[5,4,0]),(6,[3,2])] [(3,[5,4,0])]),
 (6,ZaY [] [] [] [] [(0,[0]),(1,[3,0]),(2,[11,10,9,3]),(3,[12,11,10,9,3]),(4,[11,10,9,5,3]),(5,[11,10,9,3]),(6,[11,10,9,3]),(7,[2])] [(3,[11,10,9,3])]),
 (28,ZaY [] [] [] [] [(0,[0]),(1,[2]),(2,[2])] []),
 (40,ZaY [] [] [] [] [(0,[2,0]),(1,[4,2,0]),(2,[0]),(3,[2,0]),(4,[8,2,0]),(5,[2,0]),(6,[2,0]),(7,[2])] []),
 (41,ZaY [] [] [] [] [(0,[2,0]),(1,[4,2,0]),(2,[0]),(3,[2,0]),(4,[8,2,0]),(5,[2,0]),(6,[2,0]),(7,[14,2,0]),(8,[2,0]),(9,[2,0]),(10,[2])] []),
 (43,ZaY [] [] [] [] [(0,[0]),(1,[2])] []),
 (19,ZaY [] [] [] [] [(0,[1,0]),(1,[10,1,0]),(2,[4]),(3,[5,1,0]),(4,[14,5,1,0]),(5,[5,1,0]),(6,[25,5,1,0]),(7,[4]),(8,[4])] [(4,[5,1,0])]),
 (29,ZaY [] [] [] [] [(0,[1,0]),(1,[4])] []),
 (9,ZaY [] [] [] [] [(0,[2,1,0]),(1,[7,1,0]),(2,[7,1,0]),(3,[16,7,1,0]),(4,[1,0]),(5,[6])] []),
 (30,ZaY [] [] [] [] [(0,[1,0]),(1,[10,1,0]),(2,[4]),(3,[5,1,0]),(4,[14,5,1,0]),(5,[5,1,0]),(6,[25,5,1,0]),(7,[4]),(8,[4])] [(4,[5,1,0])]),
 (5,ZaY [] [] [(6,2,false)] [] [(0,[]),(1,[1]),(2,[2,1]),(3,[9,2,1]),(4,[2,1]),(5,[2,1]),(6,[3]),(7,[24,3]),(8,[0]),(9,[5,3]),(10,[51,3]),(11,[0]),(12,[7,6]),(13,[0])] [(3,[2,1])]),
 (4,ZaY [] [] [(6,2,false)] [] [(0,[1,0]),(1,[14,1,0]),(2,[1,0]),(3,[5,1,0]),(4,[6,5,1,0]),(5,[20,6,5,1,0]),(6,[6,5,1,0]),(7,[6,5,1,0]),(8,[7,1]),(9,[38,7,1]),(10,[4]),(11,[8,7,1]),(12,[46,8,7,1]),(13,[8,7,1]),(14,[10,9,8,7,1]),(15,[69,9,8,7,1]),(16,[4]),(17,[11,9,8,7,1]),(18,[72,11,9,8,7,1]),(19,[11,9,8,7,1]),(20,[78,11,9,8,7,1]),(21,[4]),(22,[112,8,7,1]),(23,[4]),(24,[4])] [(5,[6,5,1,0]),(12,[8,7,1]),(18,[11,9,8,7,1])]),
 (3,ZaY [] [1000044,2000030] [(17,1,false),(21,0,false),(18,0,false),(14,1,true),(8,1,true),(11,1,true),(6,2,false)] [] [(0,[1,0]),(1,[18,1,0]),(2,[1,0]),(3,[5,1,0]),(4,[28,5,1,0]),(5,[4]),(6,[6,5,1,0]),(7,[7,6,5,1,0]),(8,[34,7,6,5,1,0]),(9,[7,6,5,1,0]),(10,[7,6,5,1,0]),(11,[8,6,5,1]),(12,[9,8,6,5,1]),(13,[52,9,8,6,5,1]),(14,[9,8,6,5,1]),(15,[10,9,8,6,5,1]),(16,[65,10,9,8,6,5,1]),(17,[15,9,8,6,5,1]),(18,[15,9,8,6,5,1]),(19,[77,9,8,6,5,1]),(20,[4]),(21,[78,65,10,9,8,6,5,1]),(22,[12,11,9,8,6,5,1]),(23,[14,13,12,11,9,8,6,5,1]),(24,[97,9,8,6,5,1]),(25,[4]),(26,[98,65,10,9,8,6,5,1]),(27,[106,9,8,6,5,1]),(28,[4]),(29,[107,65,10,9,8,6,5,1]),(30,[115,9,8,6,5,1]),(31,[4]),(32,[116,10,9,8,6,5,1]),(33,[124,9,8,6,5,1]),(34,[4]),(35,[132,9,8,6,5,1]),(36,[4]),(37,[4])] [(8,[7,6,5,1,0]),(13,[9,8,6,5,1])]),
 (7,ZaY [] [] [(6,2,false)] [] [(0,[]),(1,[1]),(2,[14,1]),(3,[0]),(4,[3,2,1]),(5,[5,4,3,2,1]),(6,[0])] []),
 (1000000,{})]
def ann:Nat->Ann:=ZcX {} Zy7
def Zxi:List (Nat×Bool):=[
 (18,true),
 (22,true),
 (1000000,false)]
def BY:Nat->Bool:=ZcX false Zxi
noncomputable def CF:Nat->Option Zau:=Zfh Try.prog ann
noncomputable def FC:Nat->Option Zau:=fun f=>(CF f).map ZgU
def Zm1:List (Nat×Option (List AVal->Za->Option (AVal×Za))):=[
 (22,some (Zhc)),
 (24,some (ZhR)),
 (18,some (Zdz)),
 (21,some (ZeU)),
 (17,some (Ziv)),
 (1000000,none)]
def PR:Zbr:=ZcX none Zm1
theorem xw (c d:Zs) (h:c=d) (m:Nat) (tm:Tms) (σ:Za):evC FC PR BY m c tm σ=evC FC PR BY m d tm σ:=by rw [h]
noncomputable abbrev E:ZV:=EV FC PR BY
theorem ZbG {f:Nat} {fn:Zau} (hp:PR f=none) (hf:FC f=some fn) (args:List AVal) (σ:Za):E f args σ=ZaS σ.length fn (evC FC PR BY σ.length fn.body (enterA 0 args []) σ):=Zk1 hp hf args σ
end
section
open Go.RowKit
inductive Ty where
 | bool
 | int (k:IntKind)
 | str
 | slice (s:Bool) (e:Ty)
 | struct (fs:List Ty)
 deriving Inhabited
def Zct:Option TypeDesc->Bool
 | some (.struct _)=>true
 | some (.array _ _)=>true
 | _=>false
def Ze4 (P:Program):Nat->List Field->Nat->Bool
 | at',[],n=>at' == n
 | at',f::fs,n=>f.offset == at' && Ze4 P (at'+P.cellsOf f.type) fs n
def Zci (P:Program):Nat->TypeId->Option Ty
 | 0,_=>none
 | n+1,t=>match P.underlying t with
  | some .bool=>some .bool
  | some (.int k)=>some (.int k)
  | some .string=>some .str
  | some (.slice e)=>if 0 < P.cellsOf e then (Zci P n e).map (.slice (Zct (P.underlying e))) else none
  | some (.struct fs)=>if Ze4 P 0 fs.toList (P.cellsOf t) then (fs.toList.mapM fun f=>Zci P n f.type).map .struct else none
  | _=>none
def Zbp (s:Bool) (y:List AVal):AVal:=if s then .agg y else y.headD .nilp
mutual
def TyC:Ty->List AVal->Prop
 | .bool,xs=>∃ b,xs=[.bool b]
 | .int k,xs=>∃ n,(Lit.int k n).wf=true/\xs=[.int k n]
 | .str,xs=>∃ l:List UInt8,l.length<=9223372036854775807/\xs=[.str l]
 | .slice s e,xs=>∃ ys:List (List AVal),xs=[.lst false (ys.map (Zbp s))]/\ys.length<=9223372036854775807/\∀ y ∈ ys,TyC e y
 | .struct fs,xs=>Zd7 fs xs
def Zd7:List Ty->List AVal->Prop
 | [],xs=>xs=[]
 | f::fs,xs=>∃ a b,xs=a++b/\TyC f a/\Zd7 fs b
end
def Imm.of (w:World):Imm:=fun b o=>w.cell? ⟨b,o,none⟩
section
variable {H:Type} {enc:TypeId×Value->H} {P:Program} {w:World} {spare:Nat->Bool} {held:Bool}
theorem Zv1 {b off:Nat} {s:Option Nat} {u:Value} (h:w.cell? ⟨b,off,s⟩=some u):s=none:=by
 unfold World.cell? at h
 split at h
 ·rcases s with _ | s
  ·rfl
  ·simp at h
 ·cases h
theorem Zo0 {s:Bool} {y:List AVal} (h:s=false->y.length=1) (h1:s=false->∀ x ∈ y,Z5 x=true):(Zbp s y).cells=y:=by
 cases s with
 | true=>rfl
 | false =>
  match y,h rfl with
  | [x],_ =>
   have:=h1 rfl x (by simp)
   cases x <;> simp_all [Zbp,AVal.cells,Z5]
theorem ZpS {a:Addr} (h:a.spot=none) (n:Nat):a.add n=⟨a.block,a.off+n,none⟩:=by
 unfold Addr.add
 split
 ·rename_i e;subst e;cases a;simp_all
 ·rfl
theorem ZoF {I:Imm} {β:Bmap} {xs:List AVal} {vs:List Value} {n:Nat} (h:VRs I β xs (vs.take n)) {ys:List AVal} (h':VRs I β ys (vs.drop n)):VRs I β (xs++ys) vs:=by
 have:=ZbO h h'
 rwa [XaJ] at this
theorem Zj5 {α β:Type} {f:α->Option β} {a:α} {l:List α} {r:List β} (h:(a::l).mapM f=some r):∃ b r',f a=some b/\l.mapM f=some r'/\r=b::r':=by
 rw [Xa3] at h
 simp only [Option.bind_eq_bind,Option.bind_eq_some_iff,Option.pure_def,Xa] at h
 obtain ⟨b,h1,r',h2,h3⟩:=h
 exact ⟨b,r',h1,h2,h3.symm⟩
theorem ZoI {a b:List AVal} (ha:Zav a=true) (hb:Zav b=true):Zav (a++b)=true:=by
 induction a with
 | nil=>exact hb
 | cons x a ih=>simp only [XX,Zav,Xr] at ha ⊢;exact ⟨ha.1,ih ha.2⟩
theorem ZlN {n fuel:Nat} {cs:List Value} (ih:∀ (t:TypeId) (cs:List Value) (x:DataW H×List MemPlace) (T:Ty),Zci P n t=some T->DataW.trod enc P w 0 spare held fuel t cs=some x->∃ xs,TyC T xs/\VRs (Imm.of w) B0 xs cs/\Zav xs=true) :
  ∀ (fs:List Field) (at':Nat) (Ts:List Ty) (ys:List (DataW H×List MemPlace)),Ze4 P at' fs cs.length=true->fs.mapM (fun f=>Zci P n f.type)=some Ts ->
   fs.mapM (fun f=>DataW.trod enc P w 0 spare held fuel f.type ((cs.drop f.offset).take (P.cellsOf f.type)))=some ys->∃ xs,Zd7 Ts xs/\VRs (Imm.of w) B0 xs (cs.drop at')/\Zav xs=true
 | [],at',Ts,ys,ho,hT,_=>by
  simp only [Ze4,beq_iff_eq] at ho
  simp only [List.mapM_nil,Option.pure_def,Xa] at hT
  subst hT ho
  exact ⟨[],by simp only [Zd7],by simp [VRs],rfl⟩
 | f::fs,at',Ts,ys,ho,hT,h=>by
  simp only [Ze4,Xr,beq_iff_eq] at ho
  obtain ⟨T,Ts',h1,h2,rfl⟩:=Zj5 hT
  obtain ⟨y,ys',h3,h4,rfl⟩:=Zj5 h
  obtain ⟨a,a1,a2,a3⟩:=ih _ _ _ _ h1 h3
  obtain ⟨b,b1,b2,b3⟩:=ZlN ih fs _ _ _ ho.2 h2 h4
  rw [ho.1] at a2
  refine ⟨a++b,by simp only [Zd7];exact ⟨a,b,rfl,a1,b1⟩,ZoF a2 (by rw [List.drop_drop];exact b2),ZoI a3 b3⟩
theorem Zm7 {I:Imm} {β:Bmap} {s:Bool} {k b:Nat}:∀ (n off:Nat) (Y:Nat->List AVal),(∀ i,i < n->(Zbp s (Y i)).cells.length=k/\CR I β (Zbp s (Y i)).cells b (off+i*k))->LR I β k ((Wi n).map fun i=>Zbp s (Y i)) b off
 | 0,off,Y,_=>by simp [LR]
 | n+1,off,Y,h=>by
  rw [List.range_succ_eq_map,Xy,Zd1]
  have h0:=h 0 (by omega)
  simp only [Xbg,XU] at h0
  refine ⟨h0,?_⟩
  rw [WC]
  exact Zm7 n (off+k) (fun i=>Y (i+1)) (fun i hi=>by
   have:=h (i+1) (by omega)
   rw [show off+k+i*k=off+(i+1)*k by rw [Nat.succ_mul];omega]
   exact this)
theorem Znc {I:Imm} {β:Bmap} {b:Nat}:∀ (xs:List AVal) (cs:List Value) (off:Nat),VRs I β xs cs->(∀ i,i < cs.length->I b (off+i)=cs[i]?)->CR I β xs b off
 | [],_,_,_,_=>by simp only [CR]
 | x::xs,cs,off,h,hI=>by
  simp only [VRs] at h
  obtain ⟨v,vs',rfl,h1,h2⟩:=h
  simp only [CR]
  refine ⟨⟨v,by have:=hI 0 (by simp);simpa using this,h1⟩,Znc xs vs' (off+1) h2 fun i hi=>?_⟩
  have:=hI (i+1) (by simp;omega)
  rw [show off+1+i=off+(i+1) by omega,this]
  simp
theorem Zip {s:Bool}:∀ (n:Nat) (Y:Nat->List AVal),(∀ i,i < n->Zav (Zbp s (Y i)).cells=true)->Z4 ((Wi n).map fun i=>Zbp s (Y i))=true
 | 0,Y,_=>by simp [Z4]
 | n+1,Y,h=>by
  rw [List.range_succ_eq_map,Xy,Zna,h 0 (by omega),WC]
  simp only [Bool.true_and]
  exact Zip n (fun i=>Y (i+1)) (fun i hi=>h (i+1) (by omega))
theorem ZlE {xs:List AVal} (h:Zav xs=true):∀ x ∈ xs,Z5 x=true:=by
 induction xs with
 | nil=>intro x hx;simp at hx
 | cons y ys ih =>
  simp only [Zav,Xr] at h
  intro x hx
  rcases XC.1 hx with rfl | hx
  ·cases x <;> simp_all [Zax,Z5]
  ·exact ih h.2 x hx
theorem Znj {n:Nat} {e:TypeId} {T:Ty} (hT:Zci P n e=some T) (hs:Zct (P.underlying e)=false) {xs:List AVal} (h:TyC T xs):xs.length=1:=by
 cases n with
 | zero=>simp [Zci] at hT
 | succ n =>
  simp only [Zci] at hT
  split at hT
  ·injection hT with hT;subst hT;simp only [TyC] at h;obtain ⟨_,rfl⟩:=h;rfl
  ·injection hT with hT;subst hT;simp only [TyC] at h;obtain ⟨_,_,rfl⟩:=h;rfl
  ·injection hT with hT;subst hT;simp only [TyC] at h;obtain ⟨_,_,rfl⟩:=h;rfl
  ·split at hT
   ·simp only [Xo] at hT
    obtain ⟨T',_,rfl⟩:=hT
    simp only [TyC] at h;obtain ⟨_,rfl,_⟩:=h;rfl
   ·cases hT
  ·rename_i hu;rw [hu] at hs;simp [Zct] at hs
  ·cases hT
theorem Zju:∀ (n fuel:Nat) (t:TypeId) (cs:List Value) (x:DataW H×List MemPlace) (T:Ty),Zci P n t=some T->DataW.trod enc P w 0 spare held fuel t cs=some x ->
  ∃ xs,TyC T xs/\VRs (Imm.of w) B0 xs cs/\Zav xs=true
 | 0,fuel,t,cs,x,T,hT,_=>by simp [Zci] at hT
 | n+1,0,t,cs,x,T,_,h=>by simp [DataW.trod] at h
 | n+1,fuel+1,t,cs,x,T,hT,h=>by
  have h0:=h
  simp only [Zci] at hT
  unfold DataW.trod at h
  split at hT
  ·rename_i hu
   injection hT with hT;subst hT
   obtain ⟨b,rfl,_⟩:=DataW.trod_bool hu h0
   exact ⟨[.bool b],by simp only [TyC];exact ⟨b,rfl⟩,by simp [VRs,VR],rfl⟩
  ·rename_i k hu
   injection hT with hT;subst hT
   obtain ⟨n',rfl,_,hk⟩:=DataW.trod_int hu h0
   exact ⟨[.int k n'],by simp only [TyC];exact ⟨n',hk,rfl⟩,by simp [VRs,VR],rfl⟩
  ·rename_i hu
   injection hT with hT;subst hT
   obtain ⟨s,rfl,_,hs⟩:=DataW.trod_string hu h0
   have hs':s.data.toList.length<=9223372036854775807:=by
    rw [XH];exact W2 hs (by simp [maxLen])
   exact ⟨[.str s.data.toList],by simp only [TyC];exact ⟨_,hs',rfl⟩,by simp only [VRs,VR];exact ⟨_,_,rfl,⟨by simp,hs'⟩,rfl⟩,rfl⟩
  ·rename_i e hu
   split at hT
   case isFalse=>cases hT
   rename_i hc
   simp only [Xo] at hT
   obtain ⟨T,hT,rfl⟩:=hT
   rcases Go.Deep.open_slice hu h0 with ⟨hcs,_⟩ | ⟨a,len,cap,m,n',D,Pl,hcs,_,hl,hm,hmm,_,hi⟩
   ·subst hcs
    exact ⟨[.lst false []],by simp only [TyC];exact ⟨[],by simp,by simp,by simp⟩,by simp only [VRs,VR];exact ⟨_,_,rfl,⟨none,0,rfl,by simp,by simp,by simp,by simp,by simp [Z4]⟩,rfl⟩,rfl⟩
   ·have hlm:len<=m:=by split at hmm <;> omega
    have hspot:0 < len->a.spot=none:=by
     intro h0
     obtain ⟨cs',h1,h2⟩:=hi 0 (by omega)
     obtain ⟨_,h6,h7⟩:=World.cells?_some h1
     have h8:=h7 0 hc
     obtain ⟨u,hu⟩:∃ u,cs'[0]?=some u:=⟨cs'[0]'(by omega),by simp⟩
     rw [hu] at h8
     simp only [Xbg,Addr.add,if_true] at h8
     exact Zv1 (b:=a.block) (off:=a.off) (s:=a.spot) (u:=u) h8
    have hall:∀ i,∃ xs,i < len->TyC T xs/\(Zbp (Zct (P.underlying e)) xs).cells=xs/\xs.length=P.cellsOf e/\CR (Imm.of w) B0 xs a.block (a.off+i*P.cellsOf e)/\Zav xs=true:=by
     intro i
     by_cases hlt:i < len
     ·obtain ⟨cs',h1,h2⟩:=hi i (by omega)
      obtain ⟨xs,h3,h4,h5⟩:=Zju n n' e cs' _ T hT h2
      obtain ⟨_,h6,h7⟩:=World.cells?_some h1
      have hlen:=Zay h4
      refine ⟨xs,fun _=>⟨h3,Zo0 (fun hs=>Znj hT hs h3) (fun _=>ZlE h5),by omega,Znc xs cs' _ h4 (fun j hj=>?_),h5⟩⟩
      have h8:=h7 j (by omega)
      rw [Go.Deep.add_add,ZpS (hspot (by omega)),<-Wu] at h8
      exact h8
     ·exact ⟨[],fun h=>absurd h hlt⟩
    obtain ⟨Y,hY⟩:=Classical.axiomOfChoice hall
    subst hcs
    have hmx:maxLen=9223372036854775807:=by simp [maxLen]
    rw [hmx] at hm
    refine ⟨[.lst false ((Wi len).map fun i=>Zbp (Zct (P.underlying e)) (Y i))],?_,?_,?_⟩
    ·simp only [TyC]
     refine ⟨(Wi len).map Y,by rw [WC];rfl,by simp;omega,?_⟩
     intro y hy
     obtain ⟨i,hi',rfl⟩:=XJ.1 hy
     exact (hY i (WX.1 hi')).1
    ·simp only [VRs,VR,Xz,List.length_range]
     refine ⟨_,_,rfl,⟨some a,cap,rfl,hl,hm,by simp,?_,Zip len Y fun i hlt=>by rw [(hY i hlt).2.1];exact (hY i hlt).2.2.2.2⟩,rfl⟩
     cases len with
     | zero=>exact Xs (by simp)
     | succ len =>
      refine Xu ⟨a.block,a.off,P.cellsOf e,?_,hc,Zm7 (len+1) a.off Y fun i hlt=>?_⟩
      ·have:=hspot (by omega)
       cases a;simp_all
      ·rw [(hY i hlt).2.1];exact ⟨(hY i hlt).2.2.1,(hY i hlt).2.2.2.1⟩
    ·simp only [Zav,Zax,Bool.and_true]
     exact Zip len Y fun i hlt=>by rw [(hY i hlt).2.1];exact (hY i hlt).2.2.2.2
  ·rename_i fs hu
   split at hT
   case isFalse=>cases hT
   rename_i ho
   simp only [Xo] at hT
   obtain ⟨Ts,hT,rfl⟩:=hT
   rw [hu] at h
   simp only at h
   split at h
   ·rename_i hl
    simp only [Xo] at h
    obtain ⟨ys,hy,rfl⟩:=h
    obtain ⟨xs,h1,h2,h3⟩:=ZlN (fun t cs x T h h'=>Zju n fuel t cs x T h h') fs.toList 0 Ts ys (by rw [hl];exact ho) hT hy
    exact ⟨xs,by simp only [TyC];exact h1,h2,h3⟩
   ·cases h
  ·cases hT
def ZjW (s:Bool) (T:Ty) (x:AVal):Prop:=∃ xs,TyC T xs/\x=Zbp s xs
theorem Zmb {n:Nat} {t:TypeId} {v:Value} {d:DataW H} {ps:List MemPlace} {T:Ty} {r:Reach} {b0:Nat} (hT:Zci P n t=some T) (hv:Value.okWide P w r b0 t v) (h:DataW.Trod enc P w 0 spare held t v d ps) :
  ∃ x,ZjW (Zct (P.underlying t)) T x/\VR (Imm.of w) B0 x v/\Zav x.cells=true:=by
 obtain ⟨fuel,h⟩:=h
 obtain ⟨xs,h1,h2,h3⟩:=Zju n fuel t _ _ T hT h
 refine ⟨Zbp (Zct (P.underlying t)) xs,⟨xs,h1,rfl⟩,?_⟩
 by_cases hs:Zct (P.underlying t)=true
 ·have : ∃ cs,v=.agg cs:=by
   unfold Value.okWide at hv
   cases hu:P.underlying t with
   | none=>rw [hu] at hs;simp [Zct] at hs
   | some dd =>
    rw [hu] at hv hs
    cases dd <;> first | (simp [Zct] at hs;done) | (obtain ⟨cs,e,_⟩:=hv;exact ⟨cs,e⟩)
  obtain ⟨cs,rfl⟩:=this
  rw [hs]
  exact ⟨by simp only [Zbp,if_true,VR];exact ⟨cs,rfl,h2⟩,h3⟩
 ·have hs':Zct (P.underlying t)=false:=by simpa using hs
  have hl:=Znj hT hs' h1
  have hlen:=Zay h2
  rw [hs']
  match xs,hl with
  | [x],_ =>
   simp only [Zbp,Xw,if_false,List.headD_cons]
   have hvc:v.cells=#[v]:=by
    cases n with
    | zero=>simp [Zci] at hT
    | succ n =>
     simp only [Zci] at hT
     split at hT
     ·rename_i hu;obtain ⟨b,rfl⟩:=Go.WideShapes.okWide_bool hu hv;rfl
     ·rename_i k hu;obtain ⟨b,rfl⟩:=Go.WideShapes.okWide_int hu hv;rfl
     ·rename_i hu;obtain ⟨b,rfl⟩:=Go.WideShapes.okWide_string hu hv;rfl
     ·rename_i e hu;obtain ⟨a,l,c,rfl⟩:=Go.WideShapes.okWide_slice hu hv;rfl
     ·rename_i fs hu;rw [hu] at hs';simp [Zct] at hs'
     ·cases hT
   rw [hvc] at h2
   simp only [VRs] at h2
   obtain ⟨v',vs',e,h2,_⟩:=h2
   simp only [List.cons.injEq] at e
   rw [e.1]
   refine ⟨h2,?_⟩
   have hok:=ZlE h3 x (by simp)
   have hx:x.cells=[x]:=by cases x <;> first | rfl | (simp [Z5] at hok;done)
   rw [hx];exact h3
theorem Rel.start (w:World) (hG:Gl.le (Imm.of w)):Rel (fun b=>b < w.heap.size) w (Imm.of w) (Imm.of w) B0 [] w where
 below:=KB.refl _ w
 old:=fun _ _ _=>rfl
 imm:=fun _ _ _ h=>h
 blk:=fun t x h=>by simp at h
 own:=fun t x b h=>by simp at h
 apart:=fun t x t' x' b h=>by simp at h
 fresh:=fun _ _ _=>rfl
 free:=fun t g h=>by simp at h
 gen:=fun t b g h=>by simp at h
 glob:=hG
theorem Zqo {O:ZV} (hO:Zao P O) {f:Nat} {args:List AVal} {vs:Array Value} {σ':Za} (hG:Gl.le (Imm.of w)) (hargs:VRs (Imm.of w) B0 args vs.toList) (h:O f args []=some (.bool true,σ')) :
  Calls P f vs w (fun e w'=>e=.returned (.bool true)/\Below w.heap.size w w'):=by
 refine ((hO f args [] _ _ h).2 _ w _ _ B0 w vs (fun b hb=>hb) (Rel.start w hG) hargs).mono ?_
 rintro e w' ⟨u,he,I',β',_,_,R,hv⟩
 simp only [ZaA,VR] at hv
 subst hv
 exact ⟨he,R.below.os,R.below.tape,R.below.output,R.below.size,R.below.block⟩
end
end
section
open Go.RowKit
def bV (c:UInt8):Value:=.int .u8 (c.toNat:Int)
def bVs (l:List UInt8):List Value:=l.map bV
theorem Zdm (l:List UInt8):(bVs l).length=l.length:=by simp [bVs]
theorem ZgY (l r:List UInt8):bVs (l++r)=bVs l++bVs r:=by simp [bVs]
def Row (w:World) (A:Option Addr) (xs:List Value):Prop :=
 xs=[]\/∃ b off,A=some ⟨b,off,none⟩/\∀ i u,xs[i]?=some u->w.cell? ⟨b,off+i,none⟩=some u
end
section
open Go.RowKit
section
variable {w w':World} {A:Option Addr} {xs ys:List Value}
theorem Row.keep (h:Row w A xs) (hk:∀ p:Addr,∀ u,w.cell? p=some u->w'.cell? p=some u):Row w' A xs:=by
 rcases h with h | ⟨b,off,e,h⟩
 ·exact Xs h
 ·exact Xu ⟨b,off,e,fun i u hu=>hk _ _ (h i u hu)⟩
theorem Zsz (hb:Below w.heap.size w w') {p:Addr} {u:Value} (h:w.cell? p=some u):w'.cell? p=some u :=
 (hb.cell (World.block_lt_of_cell? w p h)).trans h
theorem Row.below (h:Row w A xs) (hb:Below w.heap.size w w'):Row w' A xs:=h.keep fun _ _ hu=>Zsz hb hu
theorem Row.drew (h:Row w A xs):Row w.drew A xs:=h
theorem Row.drewN (h:Row w A xs) (n:Nat):Row (w.drewN n) A xs:=h
theorem Row.alloc (h:Row w A xs) (o:Obj):Row (w.alloc o) A xs :=
 h.keep fun p u hu=>(World.cell?_alloc_lt w o p (World.block_lt_of_cell? w p hu)).trans hu
theorem Row.grown {row:Option Nat} (h:Row w A xs) (hg:w.grownBy w' row) (hne:∀ b off,A=some ⟨b,off,none⟩->some b≠row):Row w' A xs:=by
 rcases h with h | ⟨b,off,e,h⟩
 ·exact Xs h
 ·exact Xu ⟨b,off,e,fun i u hu=>hg.cell (h i u hu) (hne b off e)⟩
theorem Row.of_own {base:Nat} {e:TypeId} {size n c:Nat} (h:w.ownsRow base e size (.slice A n c) n xs):Row w A xs:=by
 rcases h.2 with ⟨hv,hn⟩ | ⟨g,cap,cur,hv,_,hg,hnc,_,hs,ht⟩
 ·have h1:=h.1
  rw [hn] at h1
  exact Xs (XA (by simpa using h1))
 ·have hA:A=some ⟨g,0,none⟩:=by injection hv
  subst hA
  have hc:=h.cells (g:=g) rfl
  exact Xu ⟨g,0,rfl,fun i u hu=>by have:=hc i u hu;rwa [Addr.add_lit] at this⟩
theorem Row.at' {i:Nat} (h:Row w A xs) (hi:i < xs.length):∃ b off,A=some ⟨b,off,none⟩/\w.cell? ⟨b,off+i,none⟩=some xs[i]:=by
 rcases h with h | ⟨b,off,e,h⟩
 ·subst h;simp at hi
 ·exact ⟨b,off,e,h i _ (Xe hi)⟩
theorem Row.take (h:Row w A xs) (n:Nat):Row w A (xs.take n):=by
 rcases h with h | ⟨b,off,e,h⟩
 ·subst h;exact Xs (by simp)
 ·refine Xu ⟨b,off,e,fun i u hu=>h i u ?_⟩
  rw [XK] at hu
  split at hu
  ·exact hu
  ·cases hu
theorem Row.drop {b off:Nat} (h:Row w (some ⟨b,off,none⟩) xs) (n:Nat):Row w (some ⟨b,off+n,none⟩) (xs.drop n):=by
 rcases h with h | ⟨b',off',e,h⟩
 ·subst h;exact Xs (by simp)
 ·injection e with e
  injection e with e1 e2
  subst e1 e2
  refine Xu ⟨b,off+n,rfl,fun i u hu=>?_⟩
  rw [Wu]
  exact h (n+i) u (by rw [<-hu,List.getElem?_drop])
theorem Row.new (w:World) (cs:Array Value) (e:TypeId):Row (w.alloc (.cells cs e)) (some ⟨w.heap.size,0,none⟩) cs.toList:=by
 refine Xu ⟨w.heap.size,0,rfl,fun i u hu=>?_⟩
 rw [cell_of_row _ w.heap.size (0+i) cs e (0,0) (heap_alloc_new w _)]
 simpa using hu
theorem Row.newAt {w:World} {cs:Array Value} {e:TypeId} {H:Nat} {l:List Value} (h:w.heap.size=H) (hl:cs.toList=l):Row (w.alloc (.cells cs e)) (some ⟨H,0,none⟩) l:=by
 subst h hl;exact Row.new w cs e
end
def Blk (w:World) (g:Nat) (t:TypeId) (cs:Array Value):Prop:=w.heap[g]?=some (.cells cs t (0,0))
section
variable {w w':World} {g:Nat} {t:TypeId} {cs:Array Value}
theorem Blk.lt (h:Blk w g t cs):g < w.heap.size:=(Xx.1 h).1
theorem Blk.cell (h:Blk w g t cs) (i:Nat):w.cell? ⟨g,i,none⟩=cs[i]?:=cell_of_row w g i cs t (0,0) h
theorem Blk.frozen (h:Blk w g t cs) (i:Nat):w.frozen? ⟨g,i,none⟩=false:=frozen_of_row w g i cs t h
theorem Blk.new (w:World) (t:TypeId) (cs:Array Value):Blk (w.alloc (.cells cs t)) w.heap.size t cs:=heap_alloc_new w _
theorem Blk.newAt {w:World} {t:TypeId} {cs:Array Value} {H:Nat} (h:w.heap.size=H):Blk (w.alloc (.cells cs t)) H t cs:=by subst h;exact Blk.new w t cs
theorem Blk.drew (h:Blk w g t cs):Blk w.drew g t cs:=h
theorem Blk.drewN (h:Blk w g t cs) (n:Nat):Blk (w.drewN n) g t cs:=h
theorem Blk.alloc (h:Blk w g t cs) (o:Obj):Blk (w.alloc o) g t cs:=(Below.heap_alloc w o g h.lt).trans h
theorem Blk.set_ (h:Blk w g t cs) (i:Nat) (u:Value):Blk (w.setCell ⟨g,i,none⟩ u) g t (cs.setIfInBounds i u):=heap_setCell_same w g i cs t u h
theorem Blk.far (h:Blk w g t cs) {p:Addr} (hp:g≠p.block) (u:Value):Blk (w.setCell p u) g t cs:=(Below.heap_setCell w p u g hp).trans h
theorem Blk.below {B:Nat} (h:Blk w g t cs) (hb:Below B w w') (hg:g < B):Blk w' g t cs:=(hb.block g hg).trans h
theorem Blk.grown {row:Option Nat} (h:Blk w g t cs) (hb:w.grownBy w' row) (hg:some g≠row):Blk w' g t cs:=(hb.block g h.lt hg).trans h
theorem Zjs (w:World) (g j:Nat) (u:Value):w.grownBy (w.setCell ⟨g,j,none⟩ u) (some g) :=
 ⟨rfl,rfl,rfl,by simp [World.setCell],fun k _ hk=>Below.heap_setCell w ⟨g,j,none⟩ u k (fun e=>hk (by simp [e]))⟩
theorem ZqE {base:Nat} {e:TypeId} {size n c:Nat} {A:Option Addr} {xs:List Value} (h:w.ownsRow base e size (.slice A n c) n xs):n<=c/\c<=maxLen:=by
 rcases h.2 with ⟨hv,hn⟩ | ⟨g,cap,cur,hv,_,_,hnc,hcm,_⟩
 ·injection hv with _ h2 h3;subst h2 h3;exact ⟨XM _,XaV _⟩
 ·injection hv with _ _ h3;subst h3;exact ⟨hnc,hcm⟩
end
structure Kept (S:Nat->Prop) (w w':World):Prop where
 os:w'.os=w.os
 tape:w'.tape=w.tape
 output:w'.output=w.output
 size:w.heap.size<=w'.heap.size
 block:∀ k,k < w.heap.size->¬S k->w'.heap[k]?=w.heap[k]?
section
variable {S S':Nat->Prop} {a w w':World}
theorem Kept.refl (S:Nat->Prop) (w:World):Kept S w w:=⟨rfl,rfl,rfl,XM _,fun _ _ _=>rfl⟩
theorem Kept.trans (h:Kept S a w) (k:Kept S w w'):Kept S a w' :=
 ⟨k.os.trans h.os,k.tape.trans h.tape,k.output.trans h.output,W2 h.size k.size,fun i hi hn=>(k.block i (W3 hi h.size) hn).trans (h.block i hi hn)⟩
theorem Kept.mono (h:Kept S w w') (hs:∀ k,k < w.heap.size->S k->S' k):Kept S' w w':=⟨h.os,h.tape,h.output,h.size,fun i hi hn=>h.block i hi (fun hk=>hn (hs i hi hk))⟩
theorem Kept.of_below (h:Below w.heap.size w w'):Kept S w w':=⟨h.os,h.tape,h.output,h.size,fun i hi _=>h.block i hi⟩
theorem Kept.below (h:Kept S w w') {B:Nat} (hB:B<=w.heap.size) (hs:∀ k,k < B->¬S k):Below B w w':=⟨h.os,h.tape,h.output,h.size,fun i hi=>h.block i (W3 hi hB) (hs i hi)⟩
theorem Kept.of_grown {row:Option Nat} (h:w.grownBy w' row) (hs:∀ k,row=some k->k < w.heap.size->S k):Kept S w w' :=
 ⟨h.os,h.tape,h.output,h.size,fun i hi hn=>h.block i hi (fun e=>hn (hs i e.symm hi))⟩
theorem Kept.drew (h:Kept S a w):Kept S a w.drew:=⟨h.os,h.tape,h.output,h.size,h.block⟩
theorem Kept.drewN (h:Kept S a w) (n:Nat):Kept S a (w.drewN n):=⟨h.os,h.tape,h.output,h.size,h.block⟩
theorem Kept.alloc (h:Kept S a w) (o:Obj):Kept S a (w.alloc o) :=
 ⟨h.os,h.tape,h.output,W2 h.size (by simp),fun i hi hn=>(Below.heap_alloc w o i (W3 hi h.size)).trans (h.block i hi hn)⟩
theorem Kept.setCell (h:Kept S a w) {p:Addr} (hp:a.heap.size<=p.block\/S p.block) (u:Value):Kept S a (w.setCell p u) :=
 ⟨h.os,h.tape,h.output,by simpa [World.setCell] using h.size,fun i hi hn=>(Below.heap_setCell w p u i (by
  rintro rfl
  rcases hp with hp | hp
  ·omega
  ·exact hn hp)).trans (h.block i hi hn)⟩
theorem Kept.cell (h:Kept S w w') {p:Addr} {u:Value} (hc:w.cell? p=some u) (hn:¬S p.block):w'.cell? p=some u :=
 (World.cell?_of_block (h.block p.block (World.block_lt_of_cell? w p hc) hn)).trans hc
theorem Kept.blk (h:Kept S w w') {g:Nat} {t:TypeId} {cs:Array Value} (hb:Blk w g t cs) (hn:¬S g):Blk w' g t cs:=(h.block g hb.lt hn).trans hb
theorem Kept.row (h:Kept S w w') {A:Option Addr} {xs:List Value} (hr:Row w A xs) (hn:xs=[]\/∀ b off,A=some ⟨b,off,none⟩->¬S b):Row w' A xs:=by
 rcases hr with hr | ⟨b,off,e,hr⟩
 ·exact Xs hr
 ·rcases hn with hn | hn
  ·exact Xs hn
  ·exact Xu ⟨b,off,e,fun i u hu=>h.cell (hr i u hu) (hn b off e)⟩
theorem Kept.own (h:Kept S w w') {base:Nat} {e:TypeId} {size n:Nat} {v:Value} {xs:List Value} (ho:w.ownsRow base e size v n xs) (hn:∀ g,v.ownBlock=some g->¬S g):w'.ownsRow base e size v n xs:=by
 refine ⟨ho.1,?_⟩
 rcases ho.2 with h2 | ⟨g,cap,cur,rfl,hb,hg,r⟩
 ·exact Xs h2
 ·refine Xu ⟨g,cap,cur,rfl,hb,?_,r⟩
  rw [h.block g (Xx.1 hg).1 (hn g rfl)]
  exact hg
end
structure Zcg (P:Program) (t e:TypeId) (z:Value) (size bytes:Nat):Prop where
 ht:P.underlying t=some (.slice e)
 hi:∃ i,P.info? e=some i/\i.zero=some z/\i.size=size/\i.bytes=bytes
 hz:z.cells.size=size
 hs:0 < size
 hb:0 < bytes
theorem Zhw {P:Program} {t e:TypeId} {z:Value} {size bytes:Nat} (ht:P.underlying t=some (.slice e))
  (hi:(P.info? e).map (fun i=>(i.zero,i.size,i.bytes))=some (some z,size,bytes)) (hz:z.cells.size=size) (hs:0 < size) (hb:0 < bytes):Zcg P t e z size bytes:=by
 obtain ⟨i0,h1,h2,h3,h4⟩:=info_parts hi
 exact ⟨ht,⟨i0,h1,h2,h3,h4⟩,hz,hs,hb⟩
section
variable {P:Program} {t e:TypeId} {z:Value} {size bytes:Nat}
theorem Zwm (T : Zcg P t e z size bytes) (w : World) (ty : TypeId) {base : Nat} {A0 : Option Addr} {n c0 : Nat} {xs : List Value} (hown : w.ownsRow base e size (.slice A0 n c0) n xs)
    {A : Option Addr} {m c : Nat} {news : List Value} (hl : news.length = m * size) (hr : Row w A news) (h1 : ∀ u ∈ news, u.oneCell' = true)
    (hroom : (n + m) * bytes <= 140737488355328) (hbase : base <= w.heap.size) :
    ∃ A' c' w', (Builtin.append_ #[t, t] ty #[.slice A0 n c0, .slice A m c]).run P w = .ok (.slice A' (n + m) c') w' /\ w'.ownsRow base e size (.slice A' (n + m) c') (n + m) (xs ++ news) /\
      w.grownBy w' (Value.ownBlock (.slice A0 n c0)) /\ (Value.ownBlock (.slice A' (n + m) c') = Value.ownBlock (.slice A0 n c0) \/ Value.ownBlock (.slice A' (n + m) c') = some w.heap.size) := by
  obtain ⟨i, hi, hz, hsz, hby⟩ := T.hi
  have hmax : n + m <= maxLen := by
    have : (n + m) * 1 <= (n + m) * bytes := Xah _ T.hb
    simp only [maxLen]; omega
  have fin : ∀ (v' : Value) (w' : World), (Builtin.append_ #[t, t] ty #[.slice A0 n c0, .slice A m c]).run P w = .ok v' w' -> w'.ownsRow base e size v' (n + m) (xs ++ news) ->
      w.grownBy w' (Value.ownBlock (.slice A0 n c0)) -> (v'.ownBlock = Value.ownBlock (.slice A0 n c0) \/ v'.ownBlock = some w.heap.size) ->
      ∃ A' c' w', (Builtin.append_ #[t, t] ty #[.slice A0 n c0, .slice A m c]).run P w = .ok (.slice A' (n + m) c') w' /\ w'.ownsRow base e size (.slice A' (n + m) c') (n + m) (xs ++ news) /\
      w.grownBy w' (Value.ownBlock (.slice A0 n c0)) /\ (Value.ownBlock (.slice A' (n + m) c') = Value.ownBlock (.slice A0 n c0) \/ Value.ownBlock (.slice A' (n + m) c') = some w.heap.size) := by
    intro v' w' h2 h3 h4 h5
    have hv : ∃ A' c', v' = .slice A' (n + m) c' := by
      rcases h3.2 with ⟨hv, h0⟩ | ⟨g, cap, _, hv, _⟩
      . exact ⟨none, 0, by rw [hv, h0]⟩
      . exact ⟨_, cap, hv⟩
    obtain ⟨A', c', rfl⟩ := hv
    exact ⟨A', c', w', h2, h3, h4, h5⟩
  rcases A with _ | ad
  . have hn : news = [] := by
      rcases hr with h | ⟨b, off, e, _⟩
      . exact h
      . cases e
    subst hn
    have hm : m = 0 := by
      have h2 : m * size = 0 := by simpa using hl.symm
      rcases Nat.mul_eq_zero.1 h2 with h | h
      . exact h
      . have := T.hs; omega
    subst hm
    refine fin _ w ?_ (by simpa using hown) (World.grownBy.refl w _) (Xs rfl)
    rcases hown.2 with ⟨hv, hn0⟩ | ⟨g, cap, cur, hv, _, _, hnc, _⟩
    . injection hv with h1 h2 h3
      subst h1 h2 h3
      simp [Builtin.append_, run_underlying T.ht, sizeOf, typeInfo, hi, Builtin.lenOf, Builtin.firstCells]
    . injection hv with h1 h2 h3
      subst h1 h3
      simp [Builtin.append_, run_underlying T.ht, sizeOf, typeInfo, hi, Builtin.lenOf, Builtin.firstCells, hnc, storeCells]
  . have hcells : ∀ j u, news[j]? = some u -> w.cell? (ad.add j) = some u := by
      intro j u hu
      rcases hr with h | ⟨b, off, e, h⟩
      . subst h; simp at hu
      . injection e with e
        subst e
        rw [Addr.add_lit]
        exact h j u hu
    obtain ⟨v', w', hrun, h2, h3, _, h5⟩ := run_append_own_at (P := P) w base t ty e i z size bytes T.ht hi hz hsz hby T.hz T.hs _ n xs hown ad m c news hl hcells h1 hmax hroom hbase
    exact fin v' w' hrun h2 h3 h5
theorem Znb (T:Zcg P t e z size bytes) {w:World} {o:Oper} {a:Act} {K:Act->World->Prop} {Q:Exit->Act->World->Prop} (s x:Operand)
  (ho:o.op=.call { callee:=.builtin .append,args:=#[s,x],argTypes:=#[t,t] })
  {base:Nat} {A0:Option Addr} {n c0:Nat} {xs:List Value} (hs:a.eval s=.slice A0 n c0) (hown:w.ownsRow base e size (.slice A0 n c0) n xs)
  {A:Option Addr} {m c:Nat} {news:List Value} (hx:a.eval x=.slice A m c) (hl:news.length=m*size) (hr:Row w A news) (h1:∀ u ∈ news,u.oneCell'=true)
  (hroom:(n+m)*bytes<=140737488355328) (hbase:base<=w.heap.size)
  (h:∀ A' c' w',w'.ownsRow base e size (.slice A' (n+m) c') (n+m) (xs++news)->w.grownBy w' (Value.ownBlock (.slice A0 n c0)) ->
   (Value.ownBlock (.slice A' (n+m) c')=Value.ownBlock (.slice A0 n c0)\/Value.ownBlock (.slice A' (n+m) c')=some w.heap.size)->K (a.put o.dst (.slice A' (n+m) c')) w'):o.wp P a w K Q:=by
 obtain ⟨A',c',w',hrun,h2,h3,h4⟩:=Zwm T w o.type hown (c:=c) hl hr h1 hroom hbase
 unfold Oper.wp execOp
 simp only [ho,resolve,invoke,builtin,Sem.run_bind,Sem.run_pure,Result.andThen_ok,Xbf,Xy,XO,hs,hx,hrun]
 exact h A' c' w' h2 h3 h4
theorem Zlj (T:Zcg P t e z size bytes) {w:World} {ops:Array Oper} {rest:List Oper} {o:Oper} {a:Act} {Q:Exit->Act->World->Prop} (hgd:o.guard=none) (s x:Operand)
  (ho:o.op=.call { callee:=.builtin .append,args:=#[s,x],argTypes:=#[t,t] })
  {base:Nat} {A0:Option Addr} {n c0:Nat} {xs:List Value} (hs:a.eval s=.slice A0 n c0) (hown:w.ownsRow base e size (.slice A0 n c0) n xs)
  {A:Option Addr} {m c:Nat} {news:List Value} (hx:a.eval x=.slice A m c) (hl:news.length=m*size) (hr:Row w A news) (h1:∀ u ∈ news,u.oneCell'=true)
  (hroom:(n+m)*bytes<=140737488355328) (hbase:base<=w.heap.size)
  (h:∀ A' c' w',w'.ownsRow base e size (.slice A' (n+m) c') (n+m) (xs++news)->w.grownBy w' (Value.ownBlock (.slice A0 n c0)) ->
   (Value.ownBlock (.slice A' (n+m) c')=Value.ownBlock (.slice A0 n c0)\/Value.ownBlock (.slice A' (n+m) c')=some w.heap.size)->wpList P ops Q rest (a.put o.dst (.slice A' (n+m) c')) w') :
  wpList P ops Q (o::rest) a w :=
 wpList_plain hgd fun _ hK=>Znb T s x ho hs hown hx hl hr h1 hroom hbase fun A' c' w' h2 h3 h4=>hK _ _ (h A' c' w' h2 h3 h4)
end
end
section
open Go.RowKit
def ob (A:Option Addr) (c:Nat):Option Nat:=if c=0 then none else A.map (·.block)
def Za0:Value->Option Nat
 | .slice A _ c=>ob A c
 | _=>none
def OwnA (w:World) (A:Option Addr) (c n:Nat) (xs:List Value):Prop :=
 xs.length=n/\n<=c/\c<=maxLen/\(c=0\/∃ g cur e,A=some ⟨g,0,none⟩/\w.heap[g]?=some (.cells cur e (0,0))/\cur.size=c/\cur.toList.take n=xs)
section
variable {w w':World} {A:Option Addr} {c n:Nat} {xs:List Value}
theorem OwnA.typed (h:OwnA w A c n xs) (hc:c≠0):∃ g e,A=some ⟨g,0,none⟩/\w.ownsRow 0 e 1 (.slice (some ⟨g,0,none⟩) n c) n xs:=by
 obtain ⟨h1,h2,h3,h4⟩:=h
 rcases h4 with h4 | ⟨g,cur,e,rfl,hg,hs,ht⟩
 ·exact absurd h4 hc
 ·exact ⟨g,e,rfl,by omega,Xu ⟨g,c,cur,rfl,XaV _,hg,h2,h3,by omega,by rw [XaH];exact ht⟩⟩
theorem OwnA.of_owns {base:Nat} {e:TypeId} (h:w.ownsRow base e 1 (.slice A n c) n xs):OwnA w A c n xs:=by
 have hc:=ZqE h
 refine ⟨by simpa using h.1,hc.1,hc.2,?_⟩
 rcases h.2 with ⟨e1,_⟩ | ⟨g,cap,cur,e1,_,hg,h3,h4,h5,h6⟩
 ·injection e1 with _ _ e1;exact Xs e1
 ·injection e1 with e1 _ e2;subst e1 e2;exact Xu ⟨g,cur,e,rfl,hg,by omega,by rw [XaH] at h6;exact h6⟩
theorem OwnA.row (h:OwnA w A c n xs):Row w A xs:=by
 by_cases hc:c=0
 ·have:=h.1;have:=h.2.1;exact Xs (XA (by omega))
 ·obtain ⟨g,e,rfl,ho⟩:=h.typed hc;exact Row.of_own ho
theorem ZjP {g:Nat} (h:ob A c=some g):c≠0/\∃ a,A=some a/\a.block=g:=by
 unfold ob at h
 split at h
 ·cases h
 ·rcases A with _ | a
  ·cases h
  ·exact ⟨‹_›,a,rfl,by simpa using h⟩
theorem OwnA.addr (h:OwnA w A c n xs) {g:Nat} (hg:ob A c=some g):A=some ⟨g,0,none⟩/\g < w.heap.size:=by
 obtain ⟨hc,a,e,hb⟩:=ZjP hg
 obtain ⟨g',e',rfl,ho⟩:=h.typed hc
 injection e with e;subst e
 have hb:g'=g:=hb
 subst hb
 exact ⟨rfl,(ho.lt g' rfl).2⟩
theorem Zc1 {g:Nat} (hc:c≠0):ob (some ⟨g,0,none⟩) c=some g:=by simp [ob,hc]
theorem OwnA.kept {S:Nat->Prop} (h:OwnA w A c n xs) (hk:Kept S w w') (hn:∀ g,ob A c=some g->¬S g):OwnA w' A c n xs:=by
 refine ⟨h.1,h.2.1,h.2.2.1,?_⟩
 rcases h.2.2.2 with h4 | ⟨g,cur,e,rfl,hg,hs,ht⟩
 ·exact Xs h4
 ·by_cases hc:c=0
  ·exact Xs hc
  ·exact Xu ⟨g,cur,e,rfl,by rw [hk.block g (Xx.1 hg).1 (hn g (Zc1 hc))];exact hg,hs,ht⟩
theorem OwnA.alloc (h:OwnA w A c n xs) (o:Obj):OwnA (w.alloc o) A c n xs :=
 h.kept (S:=fun _=>False) ⟨rfl,rfl,rfl,by simp,fun k hk _=>Below.heap_alloc w o k hk⟩ fun _ _=>id
end
section
variable {P:Program} {t e:TypeId} {z:Value} {bytes:Nat}
theorem Zj7 (T : Zcg P t e z 1 bytes) (w : World) (ty : TypeId) {A0 : Option Addr} {n c0 : Nat} {xs : List Value} (hown : OwnA w A0 c0 n xs)
    {A : Option Addr} {c : Nat} {x : Value} (hr : Row w A [x]) (h1 : x.oneCell' = true) (hroom : (n + 1) * bytes <= 140737488355328) :
    ∃ A' c' w', (Builtin.append_ #[t, t] ty #[.slice A0 n c0, .slice A 1 c]).run P w = .ok (.slice A' (n + 1) c') w' /\ OwnA w' A' c' (n + 1) (xs ++ [x]) /\
      w.grownBy w' (ob A0 c0) /\ (ob A' c' = ob A0 c0 \/ ob A' c' = some w.heap.size) /\ Row w' A0 xs := by
  obtain ⟨i, hi, hz, hsz, hby⟩ := T.hi
  have hzs := T.hz
  have hsmall : n + 1 <= 140737488355328 := by
    have : (n + 1) * 1 <= (n + 1) * bytes := Xah _ T.hb
    omega
  obtain ⟨b, off, rfl, hcell⟩ : ∃ b off, A = some ⟨b, off, none⟩ /\ w.cell? ⟨b, off, none⟩ = some x := by
    obtain ⟨b, off, e, h⟩ := hr.at' (i := 0) (by simp)
    exact ⟨b, off, e, by simpa using h⟩
  have hcells : ∀ j u, [x][j]? = some u -> w.cell? ((⟨b, off, none⟩ : Addr).add j) = some u := by
    intro j u hu
    cases j with
    | zero => simp only [XG, Xa] at hu; subst hu; rw [Addr.add_lit]; exact hcell
    | succ j => simp at hu
  have hone : ∀ u ∈ [x], u.oneCell' = true := by simpa using h1
  have hsm1 : i.size = 1 := hsz
  have grown : ∀ (row : Option Nat), c0 < n + 1 -> OwnA (w.drew.alloc (.cells (xs.toArray ++ [x].toArray ++ Builtin.zeroCells z.cells (grownCap w (n + 1) c0 e - (n + 1))) e)) (some ⟨w.heap.size, 0, none⟩) (grownCap w (n + 1) c0 e) (n + 1) (xs ++ [x]) /\
      w.grownBy (w.drew.alloc (.cells (xs.toArray ++ [x].toArray ++ Builtin.zeroCells z.cells (grownCap w (n + 1) c0 e - (n + 1))) e)) row := by
    intro row _
    have hge := grownCap_ge w (n + 1) c0 e
    have hcm : grownCap w (n + 1) c0 e <= maxLen := grownCap_le_maxLen w (n + 1) c0 e (by simp only [maxLen]; omega)
    refine ⟨⟨by simp [hown.1], hge, hcm, Xu ⟨w.heap.size, _, e, rfl, heap_alloc_new w.drew _, ?_, ?_⟩⟩, ⟨rfl, rfl, rfl, by simp, fun k hk _ => Below.heap_alloc w.drew _ k hk⟩⟩
    . simp only [Array.size_append, WO, size_zeroCells, hzs, hown.1, WE]
      omega
    . simp only [Array.toList_append, X7]
      rw [<- X7, <- (show (xs ++ [x]).length = n + 1 by simp [hown.1])]
      exact Wy
  have hob : ob (some ⟨w.heap.size, 0, none⟩) (grownCap w (n + 1) c0 e) = some w.heap.size := Zc1 (by have := grownCap_ge w (n + 1) c0 e; omega)
  by_cases hc : c0 = 0
  . subst hc
    have hn : n = 0 := by have := hown.2.1; omega
    subst hn
    have hx : xs = [] := XA hown.1
    subst hx
    have hgr := grown (ob A0 0) (by omega)
    rcases A0 with _ | a0
    . have hrun := run_append_nil (P := P) w t ty e i z T.ht hi hz ⟨b, off, none⟩ 1 c [x] (by simp [hsm1]) hcells (by omega) (by omega) (by have hb := hroom; rw [<- hby] at hb; simp only [XF] at hb; omega)
      simp only [XF, List.nil_append, Array.empty_append] at hgr hob ⊢
      exact ⟨_, _, _, hrun, hgr.1, hgr.2, Xu hob, Xs rfl⟩
    . have hrun := run_append_grow (P := P) w t ty e i z T.ht hi hz a0 0 0 [] (by simp) (by simp) ⟨b, off, none⟩ 1 c [x] (by simp [hsm1]) hcells (by omega) (by omega) (growslice_fits (by omega) (by rw [hby]; exact hroom))
      exact ⟨_, _, _, hrun, hgr.1, hgr.2, Xu hob, Xs rfl⟩
  . obtain ⟨g, e2, rfl, ho⟩ := hown.typed hc
    have hh := ho.2
    rcases hh with ⟨h, _⟩ | ⟨g', cap', cur, h, hbg, hg, hnc, hcm, hcs, htake⟩
    . cases h
    . simp only [Value.slice.injEq, Xa, Addr.mk.injEq, and_true, true_and] at h
      obtain ⟨rfl, rfl⟩ := h
      by_cases hfit : n + 1 <= c0
      . have hlen : (xs ++ [x]).length = n + 1 := by simp [hown.1]
        have hfit' : n * i.size + [x].length <= cur.size := by rw [hsm1]; simp; omega
        have hf := run_firstCells_some (P := P) w i.size 1 ⟨b, off, none⟩ 1 c [x] (by simp [hsm1]) hcells
        have hst := run_storeCells_at P g (n * i.size) e2 [x] 0 cur w hg (by simpa using hfit') hone
        simp only [XU] at hst
        have hrun : (Builtin.append_ #[t, t] ty #[.slice (some ⟨g, 0, none⟩) n c0, .slice (some ⟨b, off, none⟩) 1 c]).run P w =
            .ok (.slice (some ⟨g, 0, none⟩) (n + 1) c0) (w.setRow g (cur.toList.take (n * i.size) ++ [x] ++ cur.toList.drop (n * i.size + [x].length)).toArray) := by
          simp [Builtin.append_, run_underlying T.ht, sizeOf, typeInfo, hi, Builtin.lenOf, hfit, hf, Addr.add_lit, hst]
        have hnew : OwnA (w.setRow g (cur.toList.take (n * i.size) ++ [x] ++ cur.toList.drop (n * i.size + [x].length)).toArray) (some ⟨g, 0, none⟩) c0 (n + 1) (xs ++ [x]) := by
          refine ⟨hlen, hfit, hcm, Xu ⟨g, _, e2, rfl, setRow_heap w g cur _ e2 _ hg, ?_, ?_⟩⟩
          . simp only [WO, XE, List.length_take, List.length_drop, XH, hsm1, WE]
            omega
          . rw [hsm1, htake, <- hlen]
            exact Wy
        refine ⟨_, _, _, hrun, hnew, ⟨rfl, rfl, rfl, by simp, fun k _ hk => setRow_other w g k _ (fun e => hk (by rw [Zc1 hc, e]))⟩, Xs rfl, ?_⟩
        have := hnew.row.take xs.length
        rwa [Wy] at this
      . have holds : ∀ j u, xs[j]? = some u -> w.cell? ((⟨g, 0, none⟩ : Addr).add j) = some u := ho.cells (g := g) rfl
        have hrun := run_append_grow (P := P) w t ty e i z T.ht hi hz ⟨g, 0, none⟩ n c0 xs (by simp [hsm1, hown.1]) holds ⟨b, off, none⟩ 1 c [x] (by simp [hsm1]) hcells (by omega) (by omega) (growslice_fits (by omega) (by rw [hby]; exact hroom))
        have hgr := grown (ob (some ⟨g, 0, none⟩) c0) (by omega)
        exact ⟨_, _, _, hrun, hgr.1, hgr.2, Xu hob, (hown.row.drew).alloc _⟩
theorem Zfd (T:Zcg P t e z 1 bytes) {w:World} {ops:Array Oper} {rest:List Oper} {o:Oper} {a:Act} {Q:Exit->Act->World->Prop} (hgd:o.guard=none) (s x:Operand)
  (ho:o.op=.call { callee:=.builtin .append,args:=#[s,x],argTypes:=#[t,t] })
  {A0:Option Addr} {n c0:Nat} {xs:List Value} (hs:a.eval s=.slice A0 n c0) (hown:OwnA w A0 c0 n xs)
  {A:Option Addr} {c:Nat} {y:Value} (hx:a.eval x=.slice A 1 c) (hr:Row w A [y]) (h1:y.oneCell'=true)
  (hroom:(n+1)*bytes<=140737488355328)
  (h:∀ A' c' w',OwnA w' A' c' (n+1) (xs++[y])->w.grownBy w' (ob A0 c0) ->
   (ob A' c'=ob A0 c0\/ob A' c'=some w.heap.size)->Row w' A0 xs->wpList P ops Q rest (a.put o.dst (.slice A' (n+1) c')) w') :
  wpList P ops Q (o::rest) a w:=by
 refine wpList_plain hgd fun K hK=>?_
 obtain ⟨A',c',w',hrun,h2,h3,h4,h5⟩:=Zj7 T w o.type hown (c:=c) hr h1 hroom
 unfold Oper.wp execOp
 simp only [ho,resolve,invoke,builtin,Sem.run_bind,Sem.run_pure,Result.andThen_ok,Xbf,Xy,XO,hs,hx,hrun]
 exact hK _ _ (h A' c' w' h2 h3 h4 h5)
end
end
end Go.Proofs.Ytcgndmenpdhjcaa
