/- packed -/
import Derived.Test.YtkoknlginefmgaaDoorMq0
import Derived.Laws.StructEq
import Derived.Laws.Small
import Derived.Orders
import Derived.LoopN
set_option linter.unusedSimpArgs false
set_option linter.unusedVariables false
open Option.some renaming injEq→Xa
open Prod.mk renaming injEq→Xb
open Bool renaming and_eq_true→Xc,false_eq_true→Xo,or_eq_true→Wp,and_self→Ww,not_eq_true'→Wx
open List renaming getD_eq_getElem?_getD→Xd,getElem?_eq_some_iff→Xe,getElem?_set→Xh,mem_append→Xl,all_eq_true→Xp,mem_of_getElem?→Xu,replicate→Xx,getElem?_eq_getElem→Xy,map_cons→XC,mem_cons→XE,mem_map→XF,getElem?_cons_zero→XI,flatMap_cons→XM,getElem?_eq_none→XN,getElem?_cons_succ→XP,mem_flatMap→XR,map_nil→XT,mem_singleton→X0,mem_filter→X3,range→X8,map_append→Wa,getD_cons_zero→Wb,drop_eq_nil_of_le→Wf,getElem?_append_left→Wg,mem_range→Wm,isEmpty_nil→Wu,getD_cons_succ→Wy,getElem?_append_right→WB,getElem_mem→WC,drop_eq_getElem_cons→WE,all_nil→WH,set_comm→WJ,isEmpty_iff→WL,lookup_cons→WM,length_map→WO,nodup_append→WT,map_congr_left→WV,range'→WW,map_map→WY,getElem?_inj→W4,getElem?_set_ne→Xad,range'_succ→Xaq,drop_drop→Xav
open Option renaming map_eq_some_iff→Xf,map_some→XK,getD_some→Wt,getD_none→Xac
open Or renaming inl→Xn,inr→Xv
open Array renaming getElem?_eq_some_iff→Xz,getD_eq_getD_getElem?→X9,toList_push→W5,ext'→Xau
open Nat renaming zero_add→XG,le_refl→XL,add_zero→XU,add_assoc→Wi,sub_self→WN,lt_or_ge→WX,add_comm→XaB
open ByteArray renaming size→Wd
open List.cons renaming injEq→W2
namespace Go.Proofs.YtkoknlginefmgaaDoor
set_option maxHeartbeats 16000000
set_option maxRecDepth 10000
section
open Go.RowKit
section
variable {base:Nat->Prop} {w0 w w':World} {I0 I I':Imm} {β β':Bmap} {σ σ':Za} {ρ:Rho}
def Zdx (ρ:Rho) (β β':Bmap):Prop:=∀ t g t' g' bi,ρ t g=some (t',g')->β t g=some bi->β' t' g'=some bi
mutual
theorem ZdK (hρ:Zdx ρ β β'):∀ (x:AVal) (v:Value),VR I β x v->VR I β' (Ze ρ x) v
 | .top,_,h=>by simp only [Ze,VR]
 | .any,_,h=>by simpa only [Ze,VR] using h
 | .int _ _,_,h=>by simpa only [Ze,VR] using h
 | .bool _,_,h=>by simpa only [Ze,VR] using h
 | .str _,_,h=>by simpa only [Ze,VR] using h
 | .nilp,_,h=>by simpa only [Ze,VR] using h
 | .nilm,_,h=>by simpa only [Ze,VR] using h
 | .nili,_,h=>by simpa only [Ze,VR] using h
 | .pan _,_,h=>by simp only [VR] at h
 | .iface t x,_,h=>by
  simp only [Ze,VR] at h ⊢
  obtain ⟨u,h1,h2⟩:=h
  exact ⟨u,h1,ZdK hρ x u h2⟩
 | .ref t o,_,h=>by
  simp only [VR] at h
  obtain ⟨b,k,c,h1,h2⟩:=h
  simp only [Ze]
  split
  ·rename_i t' e
   simp only [VR]
   exact ⟨b,k,c,hρ _ _ _ _ _ e h1,h2⟩
  ·subst h2;simp only [VR];exact ⟨rfl,rfl⟩
 | .map t,_,h=>by
  simp only [VR] at h
  obtain ⟨b,k,c,h1,h2⟩:=h
  simp only [Ze]
  split
  ·rename_i t' e
   simp only [VR]
   exact ⟨b,k,c,hρ _ _ _ _ _ e h1,h2⟩
  ·subst h2;simp only [VR];exact ⟨rfl,rfl⟩
 | .eref t g i o,_,h=>by
  simp only [VR] at h
  obtain ⟨b,k,c,h1,h2⟩:=h
  simp only [Ze]
  split
  ·rename_i t' g' e
   simp only [VR]
   exact ⟨b,k,c,hρ _ _ _ _ _ e h1,h2⟩
  ·subst h2;simp only [VR];exact ⟨rfl,rfl⟩
 | .sl t g lo n,_,h=>by
  simp only [VR] at h
  obtain ⟨bi,h1,h2,h3,h4⟩:=h
  simp only [Ze]
  split
  ·rename_i t' g' e
   simp only [VR]
   exact ⟨bi,hρ _ _ _ _ _ e h1,h2,h3,h4⟩
  ·simp only [VR]
   rcases h4 with ⟨_,_,rfl⟩ | ⟨_,_,_,rfl⟩ | ⟨_,_,_,_,rfl⟩ <;> exact ⟨rfl,rfl⟩
 | .iptr cs o,_,h=>by
  simp only [Ze,VR] at h ⊢
  obtain ⟨b,off,h1,h2,h3⟩:=h
  exact ⟨b,off,h1,CR.of_tree h3 h2,h3⟩
 | .lst x xs,_,h=>by
  simp only [Ze,VR] at h ⊢
  obtain ⟨A,cap,h1,h2,h3,h4,h5,h6⟩:=h
  refine ⟨A,cap,h1,h2,h3,h4,?_,h6⟩
  rcases h5 with h5 | ⟨b,off,k,e,hk,h5⟩
  ·exact Xn h5
  ·exact Xv ⟨b,off,k,e,hk,(LR.tree k xs b off h6 h5).mono (Imm.le.refl I) (Ze2 β') _ _ _ _⟩
 | .agg cs,_,h=>by
  simp only [Ze,VR] at h ⊢
  obtain ⟨us,h1,h2⟩:=h
  exact ⟨us,h1,ZcY hρ cs us.toList h2⟩
 | .tup cs,_,h=>by
  simp only [Ze,VR] at h ⊢
  obtain ⟨us,h1,h2⟩:=h
  exact ⟨us,h1,ZcY hρ cs us.toList h2⟩
 | .fn f cs,_,h=>by
  simp only [Ze,VR] at h ⊢
  obtain ⟨fs,us,h1,h0,h2⟩:=h
  exact ⟨fs,us,h1,h0,ZcY hρ cs (fs.toList++us.toList) h2⟩
theorem ZcY (hρ:Zdx ρ β β'):∀ (xs:List AVal) (vs:List Value),VRs I β xs vs->VRs I β' (ZH ρ xs) vs
 | [],_,h=>by simpa only [ZH,VRs] using h
 | x::xs,_,h=>by
  simp only [ZH,VRs] at h ⊢
  obtain ⟨v,vs',h1,h2,h3⟩:=h
  exact ⟨v,vs',h1,ZdK hρ x v h2,ZcY hρ xs vs' h3⟩
end
theorem ZcR:∀ (xs:List AVal),ZH ρ xs=xs.map (Ze ρ)
 | []=>rfl
 | x::xs=>by simp only [ZH,XC,ZcR xs]
def Zb8:Zl->Bool
 | .var _ | .map _ | .siter _ _ | .opq=>true
 | _=>false
theorem Ziq (x:AVal):(Ze ρ x).cells=x.cells.map (Ze ρ):=by
 cases x with
 | agg cs=>simp only [Ze,AVal.cells,ZcR]
 | ref t o =>
  show (Ze ρ (.ref t o)).cells=[Ze ρ (.ref t o)]
  simp only [Ze]
  generalize ρ t 0=q
  rcases q with _ | ⟨t',_ | g⟩ <;> rfl
 | eref t g i o =>
  show (Ze ρ (.eref t g i o)).cells=[Ze ρ (.eref t g i o)]
  simp only [Ze]
  generalize ρ t g=q
  rcases q with _ | ⟨t',g'⟩ <;> rfl
 | sl t g i o =>
  show (Ze ρ (.sl t g i o)).cells=[Ze ρ (.sl t g i o)]
  simp only [Ze]
  generalize ρ t g=q
  rcases q with _ | ⟨t',g'⟩ <;> rfl
 | map t =>
  show (Ze ρ (.map t)).cells=[Ze ρ (.map t)]
  simp only [Ze]
  generalize ρ t 0=q
  rcases q with _ | ⟨t',_ | g⟩ <;> rfl
 | _=>simp only [Ze,AVal.cells,XC,XT]
theorem ZtI (x:AVal):x.cells.length=(Ze ρ x).cells.length/\(∀ c ∈ (Ze ρ x).cells,∃ c0 ∈ x.cells,c=Ze ρ c0):=by
 rw [Ziq]
 exact ⟨by simp,fun c hc=>by obtain ⟨c0,h0,rfl⟩:=XF.1 hc;exact ⟨c0,h0,rfl⟩⟩
theorem Zqe {c:AVal} (h:Zy c=true):Zy (Ze ρ c)=true:=by
 cases c <;> first
  | (simp [Zy] at h;done)
  | (simp only [Ze];rfl)
  | (simp only [Ze];split <;> rfl)
theorem Zjg:∀ (xs:List AVal),(ZH ρ xs).flatMap AVal.cells=ZH ρ (xs.flatMap AVal.cells)
 | []=>rfl
 | x::xs=>by
  rw [ZH,XM,XM,Zjg xs,ZcR,ZcR,Wa]
  rw [Ziq]
theorem ZjX (hρ:Zdx ρ β β') {t t':Nat} {x:Zl} {g':Nat} (hg:∀ bi,β t (Zb x)=some bi->β' t' g'=some bi) (hv:Zb8 x=true->g'=0) (h:BR I β w t x):BR I β' w t' (Zn ρ g' x):=by
 cases x with
 | free=>trivial
 | map es =>
  obtain ⟨b,k,c,arr,clk,h1,h2,h3,h4,h5,h6⟩:=h
  have e:=hv rfl
  subst e
  refine ⟨b,k,c,arr,clk,hg _ h1,h2,?_,?_,?_,h6⟩
  ·rw [WY]
   refine VRs.of_cells (β:=β) ?_ h3
   intro x hx
   obtain ⟨p,hp,rfl⟩:=XF.1 hx
   have:=h5 p hp
   show Z8 p.1.cells=true
   generalize p.1=q at this ⊢
   cases q <;> simp [ZcM] at this <;> rfl
  ·have:=ZcY hρ _ _ h4
   rw [ZcR,WY] at this
   rw [WY]
   exact this
  ·intro p hp
   obtain ⟨q,hq,rfl⟩:=XF.1 hp
   exact h5 q hq
 | opq =>
  obtain ⟨bi,h⟩:=h
  have e:=hv rfl
  subst e
  exact ⟨bi,hg _ h⟩
 | siter l p =>
  obtain ⟨b,k,c,h1,h2⟩:=h
  have e:=hv rfl
  subst e
  exact ⟨b,k,c,hg _ h1,h2⟩
 | rrow g k xs =>
  obtain ⟨bi,h1,h2,h3,h4,h5,h6,b,us,ty,e,h8,h9,h10⟩:=h
  refine ⟨bi,hg _ h1,h2,h3,h4,by rw [ZcR,WO];exact h5,?_,b,us,ty,e,h8,h9,?_⟩
  ·intro x hx
   rw [ZcR] at hx
   obtain ⟨y,hy,rfl⟩:=XF.1 hx
   obtain ⟨q1,q2⟩:=ZtI (ρ:=ρ) y
   refine ⟨by rw [<-q1];exact (h6 y hy).1,fun c hc=>?_⟩
   obtain ⟨c0,hc0,rfl⟩:=q2 c hc
   exact Zqe ((h6 y hy).2 c0 hc0)
  ·rw [Zjg,show (ZH ρ xs).length=xs.length by rw [ZcR,WO]]
   exact ZcY hρ _ _ h10
 | var cs =>
  obtain ⟨b,k,c,us,ty,h1,h2,h3⟩:=h
  have e:=hv rfl
  subst e
  exact ⟨b,k,c,us,ty,hg _ h1,h2,ZcY hρ _ _ h3⟩
 | row g k xs =>
  obtain ⟨bi,h1,h2,h3,h4,h5,h6,h7,h8⟩:=h
  refine ⟨bi,hg _ h1,h2,h3,h4,h5,h6,h7,?_⟩
  rcases h8 with h8 | ⟨b,us,ty,e,h8,h9,h10⟩
  ·exact Xn h8
  ·refine Xv ⟨b,us,ty,e,h8,h9,VRs.of_cells (β:=β) ?_ h10⟩
   intro x hx
   have:=ZbX.1 (Zj5 h6) x hx
   cases x <;> simp_all [Z9,AVal.cells,Z8]
 | frow g k xs =>
  obtain ⟨bi,h1,h2,h3,h4,h5,h6,h7⟩:=h
  refine ⟨bi,hg _ h1,h2,h3,h4,h5,h6,?_⟩
  rcases h7 with h7 | ⟨b,e,h7⟩
  ·exact Xn h7
  ·exact Xv ⟨b,e,(LR.tree _ _ _ _ h6 h7).mono (Imm.le.refl I) (Ze2 β') _ _ _ _⟩
theorem Zky {t t' g':Nat} {x:Zl} (hg:∀ bi,β t (Zb x)=some bi->β' t' g'=some bi) (hv:Zb8 x=true->g'=0) (h:BR I β w t x):Zc β' t' (Zn ρ g' x)=Zc β t x:=by
 cases x with
 | free=>rfl
 | opq=>rfl
 | map es =>
  obtain ⟨b,k,c,_,_,h1,_⟩:=h
  have e:=hv rfl
  subst e
  have h2:=hg _ h1
  have h1':β t 0=some ⟨some b,k,c⟩:=h1
  simp [Zc,Zn,h1',h2]
 | siter l p =>
  obtain ⟨b,k,c,h1,_⟩:=h
  have e:=hv rfl
  subst e
  have h2:=hg _ h1
  have h1':β t 0=some ⟨some b,k,c⟩:=h1
  simp [Zc,Zn,h1',h2]
 | rrow g k xs =>
  obtain ⟨bi,h1,_⟩:=h
  have h2:=hg _ h1
  have h1':β t g=some bi:=h1
  simp [Zc,Zn,h1',h2]
 | frow=>rfl
 | var cs =>
  obtain ⟨b,k,c,us,ty,h1,_⟩:=h
  have e:=hv rfl
  subst e
  have h2:=hg _ h1
  have h1':β t 0=some ⟨some b,k,c⟩:=h1
  simp [Zc,Zn,h1',h2]
 | row g k xs =>
  obtain ⟨bi,h1,_⟩:=h
  have h2:=hg _ h1
  have h1':β t g=some bi:=h1
  simp [Zc,Zn,h1',h2]
theorem ZkO {g':Nat} {x:Zl} (hv:Zb8 x=true->g'=0) (hx:okB x=true):Zb (Zn ρ g' x)=g':=by
 cases x with
 | var cs=>simp [Zn,Zb,hv rfl]
 | row=>rfl
 | frow=>rfl
 | rrow=>rfl
 | map es=>simp [Zn,Zb,hv rfl]
 | siter l p=>simp [Zn,Zb,hv rfl]
 | opq=>simp [Zn,Zb,hv rfl]
 | free=>simp [okB] at hx
theorem ZhW:∀ {ids:List Nat} {t i j:Nat},Zz t ids i=some j->∃ k,j=i+k/\ids[k]?=some t
 | [],t,i,j,h=>by simp [Zz] at h
 | x::xs,t,i,j,h=>by
  simp only [Zz] at h
  split at h
  ·rename_i e;injection h with h;subst h e;exact ⟨0,by simp,rfl⟩
  ·obtain ⟨k,h1,h2⟩:=ZhW h
   exact ⟨k+1,by omega,by simpa using h2⟩
theorem Zkf {m:Nat} {ids:List Nat}:∀ {ts:List Nat} {j i:Nat},(Zj σ m ids ρ ts j)[i]?=(ts[i]?).map fun t=>Zn ρ (ZA m (j+i) (σ.getD t .free)) (σ.getD t .free)
 | [],j,i=>by simp [Zj]
 | t::ts,j,0=>by simp [Zj]
 | t::ts,j,i+1=>by
  simp only [Zj,XP]
  rw [Zkf (ts:=ts) (j:=j+1) (i:=i)]
  congr 2
  funext t
  rw [show j+1+i=j+(i+1) by omega]
theorem ZfG {m:Nat} {ids:List Nat}:∀ {ts:List Nat} {j:Nat},(Zj σ m ids ρ ts j).length=ts.length
 | [],j=>rfl
 | t::ts,j=>by simp only [Zj,List.length_cons,ZfG]
def Zbf (σ:Za) (m:Nat) (ids:List Nat) (β:Bmap):Bmap:=fun j g=>match ids[j]? with
 | some t=>match σ[t]? with
  | some b=>if okB b then (if g=ZA m j b then β t (Zb b) else if j < m/\g=0 then β t 0 else none) else none
  | none=>none
 | none=>none
theorem Zhb {m:Nat} {ids:List Nat}:Zdx (Zf σ m ids) β (Zbf σ m ids β):=by
 intro t g t' g' bi h hb
 unfold Zf at h
 split at h
 ·rename_i j hj
  obtain ⟨k,e,hk⟩:=ZhW hj
  have e':j=k:=by omega
  subst e'
  have fin:∀ b,σ[t]?=some b->okB b=true->(if g=Zb b then some (j,ZA m j b) else (none:Option (Nat×Nat)))=some (t',g')->Zbf σ m ids β t' g'=some bi:=by
   intro b hb' hok h
   by_cases e:g=Zb b
   ·rw [if_pos e] at h
    simp only [Xa,Xb] at h
    obtain ⟨rfl,rfl⟩:=h
    unfold Zbf
    simp only [hk,hb',hok,if_true]
    rw [<-e];exact hb
   ·rw [if_neg e] at h;cases h
  split at h
  ·cases h
  ·rename_i b n1 hb'
   refine fin b hb' ?_ h
   cases b with
   | free=>exact absurd rfl n1
   | map es=>rfl
   | siter=>rfl
   | opq=>rfl
   | rrow=>rfl
   | var=>rfl
   | row=>rfl
   | frow=>rfl
  ·cases h
 ·cases h
theorem Znl {m j:Nat} {x:Zl} (h:Zb8 x=true):ZA m j x=0:=by cases x <;> simp [Zb8] at h <;> simp [ZA,Zb]
theorem Rel.pick (R:Rel base w0 I0 I β σ w) {K':Nat->Prop} {w1:World} {I1:Imm} {m:Nat} {ids:List Nat} (hnd:ids.Nodup) (h1:KB K' w1 w) (h2:∀ b o,K' b->I b o=I1 b o) (h3:∀ t x b,t ∈ ids->σ[t]?=some x->Zc β t x=some b->¬K' b) :
  Rel K' w1 I1 I (Zbf σ m ids β) (Zj σ m ids (Zf σ m ids) ids 0) w:=by
 have look:∀ j x',(Zj σ m ids (Zf σ m ids) ids 0)[j]?=some x'->∃ t,ids[j]?=some t/\(x'=.free/\(∀ g,Zbf σ m ids β j g=none)\/∃ x,σ[t]?=some x/\okB x=true/\x'=Zn (Zf σ m ids) (ZA m j x) x/\Zbf σ m ids β j (ZA m j x)=β t (Zb x)):=by
  intro j x' h
  rw [Zkf,Xf] at h
  obtain ⟨t,ht,h⟩:=h
  simp only [XG] at h
  refine ⟨t,ht,?_⟩
  cases hx:σ[t]? with
  | none =>
   left
   have : σ.getD t .free=.free:=by simp [Xd,hx]
   rw [this] at h
   exact ⟨h.symm,fun g=>by simp [Zbf,ht,hx]⟩
  | some x =>
   have hd:σ.getD t .free=x:=by simp [Xd,hx]
   rw [hd] at h
   by_cases hok:okB x=true
   ·exact Xv ⟨x,rfl,hok,h.symm,by simp [Zbf,ht,hx,hok]⟩
   ·left
    refine ⟨?_,fun g=>by simp [Zbf,ht,hx,hok]⟩
    rw [<-h]
    cases x <;> simp_all [okB,Zn]
 have hvar:∀ (j:Nat) (x:Zl),Zb8 x=true->ZA m j x=0:=fun j x h=>Znl h
 have hown:∀ j x' b,(Zj σ m ids (Zf σ m ids) ids 0)[j]?=some x'->Zc (Zbf σ m ids β) j x'=some b->∃ t x,ids[j]?=some t/\σ[t]?=some x/\Zc β t x=some b:=by
  intro j x' b h hb
  obtain ⟨t,ht,⟨rfl,_⟩ | ⟨x,hx,hok,rfl,hβ⟩⟩:=look j x' h
  ·cases hb
  ·rw [Zky (fun bi h=>by rw [hβ];exact h) (hvar j x) (R.blk t x hx)] at hb
   exact ⟨t,x,ht,hx,hb⟩
 refine ⟨h1,h2,R.imm,?_,?_,?_,?_,?_,?_,R.glob⟩
 ·intro j x' h
  obtain ⟨t,ht,⟨rfl,_⟩ | ⟨x,hx,hok,rfl,hβ⟩⟩:=look j x' h
  ·trivial
  ·exact ZjX Zhb (fun bi h=>by rw [hβ];exact h) (hvar j x) (R.blk t x hx)
 ·intro j x' b h hb
  obtain ⟨t,x,ht,hx,hb⟩:=hown j x' b h hb
  exact ⟨h3 t x b (Xu ht) hx hb,(R.own t x b hx hb).2⟩
 ·intro j x j' x' b h h' hb hb'
  obtain ⟨t,y,ht,hy,e⟩:=hown j x b h hb
  obtain ⟨t',y',ht',hy',e'⟩:=hown j' x' b h' hb'
  have:=R.apart t y t' y' b hy hy' e e'
  subst this
  exact (W4 (Xe.1 ht).1 hnd).1 (ht.trans ht'.symm)
 ·intro j g h
  rw [ZfG] at h
  unfold Zbf
  rw [XN h]
 ·intro j g h
  obtain ⟨t,ht,⟨_,h⟩ | ⟨x,hx,hok,h,hβ⟩⟩:=look j _ h
  ·exact h g
  ·cases x <;> first | (simp only [okB] at hok;cases hok;done) | (simp only [Zn] at h;cases h;done)
 ·intro j b g h hg
  obtain ⟨t,ht,⟨_,h⟩ | ⟨x,hx,hok,rfl,hβ⟩⟩:=look j _ h
  ·exact h g
  ·rw [ZkO (hvar j x) hok] at hg
   simp only [Zbf,ht,hx,hok,if_true]
   rw [if_neg (by omega),if_neg (by omega)]
theorem ZdN:∀ (n:Nat) (todo acc:List Nat),acc.Nodup->(Zi σ n todo acc).Nodup/\∃ r,Zi σ n todo acc=acc++r
 | 0,todo,acc,h=>⟨h,[],by simp [Zi]⟩
 | n+1,[],acc,h=>⟨h,[],by simp [Zi]⟩
 | n+1,t::todo,acc,h=>by
  simp only [Zi]
  split
  ·exact ZdN n todo acc h
  ·rename_i hc
   have hnd:(acc++[t]).Nodup:=by
    rw [WT]
    refine ⟨h,by simp,?_⟩
    intro a ha b hb
    simp only [X0] at hb
    subst hb
    rintro rfl
    simp [ha] at hc
   obtain ⟨h1,r,h2⟩:=ZdN n (ZE (σ.getD t .free)++todo) (acc++[t]) hnd
   exact ⟨h1,t::r,by rw [h2];simp⟩
def KeptE (m:Nat) (β β':Bmap):Prop:=∀ t,t < m->∀ bi,β t 0=some bi->β' t 0=some bi
theorem KeptE.refl (m:Nat) (β:Bmap):KeptE m β β:=fun _ _ _ h=>h
theorem KeptE.trans {m:Nat} {a b c:Bmap} (h:KeptE m a b) (h':KeptE m b c):KeptE m a c:=fun t ht bi e=>h' t ht bi (h t ht bi e)
theorem KeptE.of_le {m:Nat} (h:β.le β'):KeptE m β β':=fun t _ bi e=>h t 0 bi e
theorem Zj6 (R:Rel base w0 I0 I β σ w) (m:Nat) (roots:List AVal):∃ β',KeptE m β β'/\Rel base w0 I0 I β' (gcA m roots σ).2 w/\Zdx (Zf σ m (Zv m roots σ)) β β':=by
 obtain ⟨hnd,r,hr⟩:=ZdN (σ:=σ) 1000 (ZR roots++(X8 m).flatMap fun t=>ZE (σ.getD t .free)) (X8 m) List.nodup_range
 have hids:Zv m roots σ=X8 m++r:=hr
 refine ⟨Zbf σ m (Zv m roots σ) β,?_,R.pick hnd R.below R.old (fun t x b _ hx hb=>(R.own t x b hx hb).1),Zhb⟩
 intro t ht bi hb
 have h1:(Zv m roots σ)[t]?=some t:=by rw [hids,Wg (by simpa using ht)];simp [ht]
 unfold Zbf
 simp only [h1]
 cases hx:σ[t]? with
 | none =>
  have : β t 0=none:=R.fresh t 0 (by simpa using hx)
  rw [this] at hb;cases hb
 | some x =>
  simp only
  have hok:okB x=true:=by
   cases x with
   | free=>rw [R.free t 0 hx] at hb;cases hb
   | map es=>rfl
   | siter=>rfl
   | opq=>rfl
   | rrow=>rfl
   | var=>rfl
   | row=>rfl
   | frow=>rfl
  rw [if_pos hok]
  split
  ·rename_i e
   have : Zb x=0:=by
    unfold ZA at e
    by_cases h0:Zb x=0
    ·exact h0
    ·rw [if_pos ⟨ht,h0⟩] at e;cases e
   rw [this];exact hb
  ·rw [if_pos ⟨ht,trivial⟩];exact hb
theorem Zi0:∀ (tm:Tms) (n:Nat),tget ((tm.map (·.1)).zip (ZH ρ (tm.map (·.2)))) n=Ze ρ (tget tm n)
 | [],n=>by simp [tget,Ze]
 | (d,v)::tm,n=>by
  simp only [XC,ZH,List.zip_cons_cons,tget]
  split
  ·rfl
  ·exact Zi0 tm n
theorem ZgY (R:Rel base w0 I0 I β σ w) {tm:Tms} {tmps:Array Value} (T:TR I β tm tmps) (m:Nat):∃ β',KeptE m β β'/\Rel base w0 I0 I β' (gcT m tm σ).2 w/\TR I β' (gcT m tm σ).1 tmps:=by
 obtain ⟨β',h1,h2,h3⟩:=Zj6 R m (tm.map (·.2))
 refine ⟨β',h1,h2,fun n=>?_⟩
 show VR I β' (tget ((tm.map (·.1)).zip (ZH _ (tm.map (·.2)))) n) _
 rw [Zi0]
 exact ZdK h3 _ _ (T n)
def Ends (r:AVal) (e:Ending) (u:Value):Prop:=match r with
 | .pan _=>e=.panicked [{ v:=u,recovered:=false }]
 | _=>e=.returned u
def Zaf:AVal->AVal
 | .pan x=>x
 | x=>x
def ZaQ (m:Nat) (base:Nat->Prop) (w0:World) (I0 I:Imm) (β:Bmap) (r:AVal) (σ':Za) (u:Value) (w':World):Prop :=
 ∃ I' β',I.le I'/\KeptE m β β'/\Rel base w0 I0 I' β' σ' w'/\VR I' β' (Zaf r) u
theorem Ends.ren {r:AVal} {e:Ending} {u:Value} (h:Ends r e u):Ends (Ze ρ r) e u:=by
 cases r <;> first
  | exact h
  | (simp only [Ze];split <;> exact h)
theorem ZcZ {r:AVal} (h:∀ x,r≠.pan x):Zaf r=r:=by
 cases r <;> first | rfl | exact absurd rfl (h _)
theorem ZrV {r:AVal} (h:∀ x,r≠.pan x):∀ x,Ze ρ r≠.pan x:=by
 intro x
 cases r <;> first
  | (intro e;simp only [Ze] at e;cases e;done)
  | exact absurd rfl (h _)
  | (simp only [Ze];split <;> simp)
theorem ZgL (r:AVal):Zaf (Ze ρ r)=Ze ρ (Zaf r)\/∃ x,r=.pan x:=by
 by_cases h:∃ x,r=.pan x
 ·exact Xv h
 ·have h':∀ x,r≠.pan x:=fun x e=>h ⟨x,e⟩
  exact Xn (by rw [ZcZ (ZrV h'),ZcZ h'])
theorem Zeq {m:Nat} {r r':AVal} {u:Value} (h:ZaQ m base w0 I0 I β r σ u w) (he:ZaC m σ r=some (r',σ')):ZaQ m base w0 I0 I β r' σ' u w/\∀ e,Ends r e u->Ends r' e u:=by
 obtain ⟨I1,β1,h1,h2,h3,h4⟩:=h
 obtain ⟨β2,g1,g2,g3⟩:=Zj6 h3 m [r]
 unfold ZaC gcA at he
 simp only [ZH,Xa,Xb] at he
 obtain ⟨rfl,rfl⟩:=he
 refine ⟨⟨I1,β2,h1,h2.trans g1,g2,?_⟩,fun e he=>he.ren⟩
 have:=ZdK g3 _ _ h4
 rcases ZgL (ρ:=Zf σ m (Zv m [r] σ)) r with e | ⟨x,rfl⟩
 ·rw [e];exact this
 ·exact this
theorem ZrP {m:Nat} {r r':AVal} {h h':Za} {u:Value} (hp:ZaQ m base w0 I0 I β r h u w) (he:Zb2 m (some (r,h))=some (r',h')):ZaQ m base w0 I0 I β r' h' u w/\∀ e,Ends r e u->Ends r' e u:=by
 by_cases hpan:∃ x,r=.pan x
 ·obtain ⟨x,rfl⟩:=hpan
  simp only [Zb2,Xa,Xb] at he
  obtain ⟨rfl,rfl⟩:=he
  exact ⟨hp,fun _ h=>h⟩
 ·have hv0:Zaf r=r:=by cases r <;> first | rfl | exact absurd ⟨_,rfl⟩ hpan
  have hends:∀ e,Ends r e u->e=.returned u:=by
   intro e h
   cases r <;> first | exact h | exact absurd ⟨_,rfl⟩ hpan
  have he':(match viewR h r with
   | some (r',ts)=>match gcA m [r'] (Zh h ts) with
    | ([r''],σ')=>some (r'',σ')
    | _=>none
   | none=>none)=some (r',h'):=by
   cases r <;> first | exact he | exact absurd ⟨_,rfl⟩ hpan
  split at he'
  ·rename_i r1 ts hview
   obtain ⟨I1,β1,h1,h2,h3,h4⟩:=hp
   rw [hv0] at h4
   obtain ⟨I2,k1,k2,k3,_,k5,_,_⟩:=Zd4 ts h3
   have hres:=Zo4 k2 (k5 (Zql hview)) (by rw [k3.viewR];exact hview) (h4.mono k1 (Bmap.le.refl β1) _ _)
   have hnp:∀ x,r1≠.pan x:=by rintro x rfl;simp only [VR] at hres
   have hv1:Zaf r1=r1:=by cases r1 <;> first | rfl | exact absurd rfl (hnp _)
   have ho:ZaC m (Zh h ts) r1=some (r',h'):=he'
   obtain ⟨q1,q2⟩:=Zeq (⟨I2,β1,h1.trans k1,h2,k2,by rw [hv1];exact hres.mono (Imm.le.refl I2) (Ze2 β1) _ _⟩:ZaQ m base w0 I0 I β r1 (Zh h ts) u w) ho
   refine ⟨q1,fun e he=>q2 e ?_⟩
   rw [hends e he]
   cases r1 <;> first | rfl | exact absurd rfl (hnp _)
  ·cases he'
end
end
section
open Go.RowKit
def ZI (P:Program) (O:Zo):Prop:=∀ f args σ r σ',O f args σ=some (r,σ') ->
 (∃ fn,P.funcs[f]?=some fn/\fn.body.isSome=true/\(fn.name == "runtime.NumGoroutine")=false) /\
 ∀ base w0 I0 I β w (vs:Array Value),KLt base w0->Rel base w0 I0 I β σ w->VRs I β args vs.toList ->
  Calls P f vs w (fun e w'=>∃ u,Ends r e u/\ZaQ σ.length base w0 I0 I β r σ' u w')
section
variable {P:Program} {base:Nat->Prop} {w0 w w':World} {I0 I I':Imm} {β β':Bmap} {σ σ':Za} {tm:Tms}
theorem Zfu {a:Act} (T:TR I β tm a.tmps):∀ {xs:List Operand} {ys:List Opd},Zbm xs=some ys->VRs I β (ys.map fun y=>y.ev tm) (xs.map a.eval)
 | [],ys,h=>by simp only [Zbm,Xa] at h;subst h;simp [VRs]
 | x::xs,ys,h=>by
  simp only [Zbm] at h
  split at h
  ·rename_i y hy
   split at h
   ·rename_i ys' hys
    injection h with h;subst h
    simp only [XC,VRs]
    exact ⟨_,_,rfl,ZD T hy,Zfu T hys⟩
   ·cases h
  ·cases h
theorem Zeo {a:Act} (T:TR I β tm a.tmps) {x:Option Operand} {y:Option Opd} (h:Zdz x=some y):OVR I β (y.map fun y=>y.ev tm) (x.map a.eval):=by
 cases x with
 | none=>simp only [Zdz,Xa] at h;subst h;rfl
 | some x =>
  simp only [Zdz,Xf] at h
  obtain ⟨y',h1,rfl⟩:=h
  exact ⟨_,rfl,ZD T h1⟩
theorem Zhm {f:FuncId} {args:Array Value} {fn:Func} (h1:P.funcs[f]?=some fn) (h2:fn.body.isSome=true) (h3:(fn.name == "runtime.NumGoroutine")=false):(callFunc f args).run P w=.ok (.enter f args) w:=by
 have h2':fn.body.isNone=false:=by cases hb:fn.body <;> simp_all
 have h3':¬fn.name = "runtime.NumGoroutine":=by simpa using h3
 have h2'':fn.body≠none:=by cases hb:fn.body <;> simp_all
 simp [callFunc,h1,h2'',h3']
section
variable {ids:List Nat} {sq:Nat} {ρ:Rho}
theorem Ze9 {σ0:Za} {t:Nat}:∀ {h:Za} {j:Nat} {σ:Za},(∀ i,i < h.length->Zar ids sq (j+i)≠t)->(ZaR σ0 ids sq h j σ)[t]?=σ[t]?
 | [],j,σ,_=>rfl
 | b::bs,j,σ,hn=>by
  simp only [ZaR]
  rw [Ze9 (fun i hi=>by have:=hn (i+1) (by simp;omega);rwa [show j+(i+1)=j+1+i by omega] at this),Xh,if_neg (by have:=hn 0 (by simp);simpa using this)]
theorem Zjx {σ0:Za}:∀ {h:Za} {j i:Nat} {σ:Za} {b:Zl},(∀ i i',i < h.length->i' < h.length->Zar ids sq (j+i)=Zar ids sq (j+i')->i=i')->h[i]?=some b->Zar ids sq (j+i) < σ.length ->
  (ZaR σ0 ids sq h j σ)[Zar ids sq (j+i)]?=some (Zn (ZaA σ0 ids sq) (ZbL σ0 ids (j+i) b) b)
 | [],j,i,σ,b,_,h,_=>by simp at h
 | b'::bs,j,0,σ,b,hinj,h,hlt=>by
  simp only [XI,Xa] at h
  subst h
  simp only [ZaR,XU] at hlt ⊢
  rw [Ze9,Xh,if_pos rfl,if_pos hlt]
  intro i hi e
  have:=hinj (i+1) 0 (by simp;omega) (by simp) (by rw [show j+(i+1)=j+1+i by omega];simpa using e)
  omega
 | b'::bs,j,i+1,σ,b,hinj,h,hlt=>by
  simp only [XP] at h
  simp only [ZaR]
  rw [show j+(i+1)=j+1+i by omega] at hlt ⊢
  refine Zjx (fun a a' ha ha' e=>?_) h (by simpa using hlt)
  have:=hinj (a+1) (a'+1) (by simp;omega) (by simp;omega) (by rw [show j+(a+1)=j+1+a by omega,show j+(a'+1)=j+1+a' by omega];exact e)
  omega
theorem Zil {σ0:Za}:∀ {h:Za} {j:Nat} {σ:Za},(ZaR σ0 ids sq h j σ).length=σ.length
 | [],j,σ=>rfl
 | b::bs,j,σ=>by simp only [ZaR];rw [Zil];simp
theorem Zeb {σ0:Za}:∀ {h:Za} {j i:Nat} {b:Zl},ZbJ σ0 ids h j=true->h[i]?=some b->okB b=true/\(match ids[j+i]? with
  | some t=>ZeL (σ0.getD t .free) b=true/\Zb b<=1
  | none=>Zb b=0)
 | [],j,i,b,_,h=>by simp at h
 | b'::bs,j,0,b,hok,h=>by
  simp only [XI,Xa] at h
  subst h
  simp only [ZbJ,Xc] at hok
  refine ⟨hok.1.1,?_⟩
  rw [XU]
  have:=hok.1.2
  revert this
  cases ids[j]? with
  | none=>intro h;simpa using h
  | some t=>intro h;simpa using h
 | b'::bs,j,i+1,b,hok,h=>by
  simp only [XP] at h
  simp only [ZbJ,Xc] at hok
  have:=Zeb hok.2 h
  rwa [show j+1+i=j+(i+1) by omega] at this
theorem Zob {x y:Zl} (hy:Zb8 y=true) (h:ZeL x y=true):Zb x=0:=by
 cases x <;> cases y <;> first | rfl | (simp [ZeL] at h;done) | (simp [Zb8] at hy;done)
theorem Zjh {y:Zl} (hy:Zb8 y=true):Zb y=0:=by
 cases y <;> first | rfl | (simp [Zb8] at hy;done)
theorem ZeO:∀ {n sq i:Nat},Zb7 σ sq n=true->i < n->σ[sq+i]?=some .free
 | 0,_,_,_,hi=>by omega
 | n+1,sq,0,h,_=>by
  simp only [Zb7,Xc] at h
  have:=h.1
  unfold freeAt at this
  split at this
  ·rename_i e;simpa using e
  ·cases this
 | n+1,sq,i+1,h,hi=>by
  simp only [Zb7,Xc] at h
  have:=ZeO (i:=i) h.2 (by omega)
  rwa [show sq+1+i=sq+(i+1) by omega] at this
theorem ZiM {t:Nat}:∀ {ids:List Nat} {i j:Nat},ids.Nodup->ids[j]?=some t->Zz t ids i=some (i+j)
 | [],i,j,_,h=>by simp at h
 | x::xs,i,0,_,h=>by
  simp only [XI,Xa] at h
  simp [Zz,h]
 | x::xs,i,j+1,hn,h=>by
  simp only [XP] at h
  rw [List.nodup_cons] at hn
  have hne:x≠t:=by rintro rfl;exact hn.1 (Xu h)
  simp only [Zz,hne,if_false]
  rw [ZiM hn.2 h]
  congr 1;omega
theorem ZgA {t:Nat}:∀ {ids:List Nat} {i:Nat},t ∉ ids->Zz t ids i=none
 | [],i,_=>rfl
 | x::xs,i,h=>by
  simp only [XE,not_or] at h
  have hne:x≠t:=fun e=>h.1 e.symm
  simp only [Zz,hne,if_false]
  exact ZgA h.2
def Zcm (σ:Za) (ids:List Nat) (sq n:Nat) (β β1:Bmap):Bmap:=fun t g=>match Zz t ids 0 with
 | some j=>if g<=Zb (σ.getD t .free) then β t g else if g=Zb (σ.getD t .free)+1 then β1 j 1 else none
 | none=>if sq<=t/\t < sq+n then (if g=0 then β1 (ids.length+(t - sq)) 0 else none) else β t g
theorem Rel.back {Ic:Imm} {βc:Bmap} {h:Za} {n:Nat} (R:Rel base w0 I0 I β σ w) (hb:KLt base w0) (hnd:ids.Nodup) (hok:ids.all (fun t=>okB (σ.getD t .free))=true)
  (Rc:Rel (fun b=>b < w.heap.size/\∀ t ∈ ids,∀ x,σ[t]?=some x->Zc β t x≠some b) w I Ic βc h w') (hI:I.le Ic) (hkept:KeptE ids.length (Zbf σ 0 ids β) βc)
  (h1:h.length<=ids.length+n) (h2:ids.length<=h.length) (h3:ZbJ σ ids h 0=true) (h4:Zb7 σ sq n=true) :
  ∃ β2,β.le β2/\Rel base w0 I0 Ic β2 (ZaR σ ids sq h 0 σ) w'/\Zdx (ZaA σ ids sq) βc β2:=by
 have hbw:=R.base_le hb
 have hblk:∀ t,t ∈ ids->∃ x,σ[t]?=some x/\okB x=true/\σ.getD t .free=x/\∃ bi,β t (Zb x)=some bi:=by
  intro t ht
  have h0:=Xp.1 hok t ht
  cases hx:σ[t]? with
  | none=>simp [Xd,hx,okB] at h0
  | some x =>
   have hd:σ.getD t .free=x:=by simp [Xd,hx]
   rw [hd] at h0
   refine ⟨x,rfl,h0,hd,?_⟩
   have hB:=R.blk t x hx
   cases x with
   | free=>simp [okB] at h0
   | map es=>obtain ⟨b,k,c,_,_,e,_⟩:=hB;exact ⟨_,e⟩
   | siter l p=>obtain ⟨b,k,c,e,_⟩:=hB;exact ⟨_,e⟩
   | opq=>exact hB
   | rrow g k xs=>obtain ⟨bi,e,_⟩:=hB;exact ⟨_,e⟩
   | var cs=>obtain ⟨b,k,c,us,ty,e,_⟩:=hB;exact ⟨_,e⟩
   | row g k xs=>obtain ⟨bi,e,_⟩:=hB;exact ⟨_,e⟩
   | frow g k xs=>obtain ⟨bi,e,_⟩:=hB;exact ⟨_,e⟩
 have hnot:∀ i,i < n->sq+i ∉ ids:=by
  intro i hi hm
  obtain ⟨x,hx,hk,_⟩:=hblk _ hm
  rw [ZeO h4 hi] at hx
  injection hx with hx;subst hx;simp [okB] at hk
 have tgt_ids:∀ j t,ids[j]?=some t->Zar ids sq j=t:=by intro j t ht;simp [Zar,Xd,ht]
 have tgt_new:∀ j,ids.length<=j->Zar ids sq j=sq+(j - ids.length):=by intro j hj;simp [Zar,Xd,XN hj]
 have split_j:∀ j,j < h.length->(∃ t,ids[j]?=some t/\t ∈ ids/\Zar ids sq j=t)\/(ids.length<=j/\ids[j]?=none/\j - ids.length < n/\Zar ids sq j=sq+(j - ids.length)):=by
  intro j hj
  by_cases hlt:j < ids.length
  ·have e:ids[j]?=some ids[j]:=Xy hlt
   exact Xn ⟨ids[j],e,WC hlt,tgt_ids _ _ e⟩
  ·exact Xv ⟨by omega,XN (by omega),by omega,tgt_new j (by omega)⟩
 have inj:∀ i i',i < h.length->i' < h.length->Zar ids sq (0+i)=Zar ids sq (0+i')->i=i':=by
  intro i i' hi hi' e
  rw [XG,XG] at e
  rcases split_j i hi with ⟨t,a1,a2,a3⟩ | ⟨a1,_,a3,a4⟩ <;> rcases split_j i' hi' with ⟨t',b1,b2,b3⟩ | ⟨b1,_,b3,b4⟩
  ·rw [a3,b3] at e;subst e
   exact (W4 (Xe.1 a1).1 hnd).1 (a1.trans b1.symm)
  ·rw [a3,b4] at e;subst e;exact absurd a2 (hnot _ b3)
  ·rw [a4,b3] at e;subst e;exact absurd b2 (hnot _ a3)
  ·rw [a4,b4] at e;omega
 have tlt:∀ j,j < h.length->Zar ids sq j < σ.length:=by
  intro j hj
  rcases split_j j hj with ⟨t,a1,a2,a3⟩ | ⟨a1,_,a3,a4⟩
  ·rw [a3]
   obtain ⟨x,hx,_⟩:=hblk t a2
   exact (Xe.1 hx).1
  ·rw [a4];exact (Xe.1 (ZeO h4 a3)).1
 have look:∀ t x',(ZaR σ ids sq h 0 σ)[t]?=some x'->(∃ j b,h[j]?=some b/\t=Zar ids sq j/\x'=Zn (ZaA σ ids sq) (ZbL σ ids j b) b)\/((∀ j,j < h.length->Zar ids sq j≠t)/\σ[t]?=some x'):=by
  intro t x' hx
  by_cases hex:∃ j,j < h.length/\Zar ids sq j=t
  ·obtain ⟨j,hj,rfl⟩:=hex
   have:=Zjx (σ0:=σ) (σ:=σ) (j:=0) (i:=j) inj (Xy hj) (by rw [XG];exact tlt j hj)
   rw [XG] at this
   rw [this] at hx
   injection hx with hx
   exact Xn ⟨j,h[j],Xy hj,rfl,hx.symm⟩
  ·have hn:∀ j,j < h.length->Zar ids sq j≠t:=fun j hj e=>hex ⟨j,hj,e⟩
   rw [Ze9 (fun i hi=>by rw [XG];exact hn i hi)] at hx
   exact Xv ⟨hn,hx⟩
 have out:∀ t,(∀ j,j < h.length->Zar ids sq j≠t)->t ∉ ids/\∀ g,Zcm σ ids sq (h.length - ids.length) β βc t g=β t g:=by
  intro t hn
  have h0:t ∉ ids:=by
   intro hm
   obtain ⟨j,hj⟩:=List.mem_iff_getElem?.1 hm
   exact hn j (by have:=(Xe.1 hj).1;omega) (tgt_ids j t hj)
  refine ⟨h0,fun g=>?_⟩
  unfold Zcm
  rw [ZgA h0]
  simp only
  rw [if_neg]
  rintro ⟨q1,q2⟩
  exact hn (ids.length+(t - sq)) (by omega) (by rw [tgt_new _ (by omega)];omega)
 have atIds:∀ j t,ids[j]?=some t->∀ g,Zcm σ ids sq (h.length - ids.length) β βc t g=if g<=Zb (σ.getD t .free) then β t g else if g=Zb (σ.getD t .free)+1 then βc j 1 else none:=by
  intro j t hj g
  unfold Zcm
  rw [ZiM hnd hj]
  simp only [XG]
 have atNew:∀ i,i < h.length - ids.length->∀ g,Zcm σ ids sq (h.length - ids.length) β βc (sq+i) g=if g=0 then βc (ids.length+i) 0 else none:=by
  intro i hi g
  unfold Zcm
  rw [ZgA (hnot i (by omega))]
  simp only
  rw [if_pos ⟨by omega,by omega⟩,show sq+i - sq=i by omega]
 have hle:β.le (Zcm σ ids sq (h.length - ids.length) β βc):=by
  intro t g bi e
  by_cases hex:∃ j,j < h.length/\Zar ids sq j=t
  ·obtain ⟨j,hj,rfl⟩:=hex
   rcases split_j j hj with ⟨t,a1,a2,a3⟩ | ⟨a1,_,a3,a4⟩
   ·rw [a3] at e ⊢
    rw [atIds j t a1]
    obtain ⟨x,hx,_,hd,_⟩:=hblk t a2
    rw [if_pos]
    ·exact e
    ·rcases WX (Zb (σ.getD t .free)) g with hlt | hge
     ·rw [hd] at hlt;rw [R.gen t x g hx hlt] at e;cases e
     ·exact hge
   ·rw [a4] at e
    rw [R.free _ g (ZeO h4 a3)] at e;cases e
  ·rw [(out t fun j hj e=>hex ⟨j,hj,e⟩).2];exact e
 have kept:∀ j t,ids[j]?=some t->∀ bi,βc j 0=some bi->β t (Zb (σ.getD t .free))=some bi:=by
  intro j t hj bi e
  obtain ⟨x,hx,hk,hd,bi0,hb0⟩:=hblk t (Xu hj)
  have hp:Zbf σ 0 ids β j 0=some bi0:=by
   unfold Zbf
   simp only [hj,hx,hk,if_true]
   rw [if_pos (by simp [ZA])];exact hb0
  have:=hkept j (Xe.1 hj).1 bi0 hp
  rw [this] at e;injection e with e;subst e
  rw [hd];exact hb0
 have hρ:Zdx (ZaA σ ids sq) βc (Zcm σ ids sq (h.length - ids.length) β βc):=by
  intro j g t' g' bi hr hbi
  have hjlt:j < h.length:=by
   rcases WX j h.length with hlt | hge
   ·exact hlt
   ·rw [Rc.fresh j g hge] at hbi;cases hbi
  have hj':=Xy hjlt
  obtain ⟨k1,k2⟩:=Zeb h3 hj'
  rw [XG] at k2
  have hgen:¬Zb h[j] < g:=fun hlt=>by rw [Rc.gen j _ g hj' hlt] at hbi;cases hbi
  rcases split_j j hjlt with ⟨t,a1,a2,a3⟩ | ⟨a1,a2,a3,a4⟩
  ·simp only [ZaA,a1,Xa,Xb] at hr
   obtain ⟨rfl,rfl⟩:=hr
   rw [a1] at k2
   rw [atIds j _ a1]
   have : g=0\/g=1:=by omega
   rcases this with rfl | rfl
   ·rw [if_pos (by omega)];exact kept j _ a1 bi hbi
   ·rw [if_neg (by omega),if_pos rfl];exact hbi
  ·simp only [ZaA,a2,Xa,Xb] at hr
   obtain ⟨rfl,rfl⟩:=hr
   rw [a2] at k2
   have : g=0:=by simp only at k2;omega
   subst this
   rw [atNew _ (by omega),if_pos rfl,show ids.length+(j - ids.length)=j by omega]
   exact hbi
 have hvar:∀ j b,h[j]?=some b->Zb8 b=true->ZbL σ ids j b=0:=by
  intro j b hj e
  have hjlt:=(Xe.1 hj).1
  obtain ⟨k1,k2⟩:=Zeb h3 hj
  rw [XG] at k2
  unfold ZbL
  rcases split_j j hjlt with ⟨t,a1,a2,a3⟩ | ⟨a1,a2,a3,a4⟩
  ·rw [a1] at k2 ⊢
   simp only at k2 ⊢
   obtain ⟨x,hx,hk,hd,_⟩:=hblk t a2
   rw [hd] at k2 ⊢
   rw [Zob e k2.1,Zjh e]
  ·rw [a2];exact Zjh e
 have hβg:∀ j b,h[j]?=some b->∀ bi,βc j (Zb b)=some bi->Zcm σ ids sq (h.length - ids.length) β βc (Zar ids sq j) (ZbL σ ids j b)=some bi:=by
  intro j b hj bi e
  have hjlt:=(Xe.1 hj).1
  refine hρ j (Zb b) _ _ bi ?_ e
  rcases split_j j hjlt with ⟨t,a1,a2,a3⟩ | ⟨a1,a2,a3,a4⟩
  ·simp only [ZaA,ZbL,a1,a3]
  ·simp only [ZaA,ZbL,a2,a4]
 have hKK:∀ b,base b->b < w.heap.size/\∀ t ∈ ids,∀ x,σ[t]?=some x->Zc β t x≠some b:=by
  intro b hB
  exact ⟨hbw b hB,fun t _ x hx e=>(R.own t x b hx e).1 hB⟩
 have hown:∀ j b,h[j]?=some b->Zc (Zcm σ ids sq (h.length - ids.length) β βc) (Zar ids sq j) (Zn (ZaA σ ids sq) (ZbL σ ids j b) b)=Zc βc j b:=fun j b hj =>
  Zky (hβg j b hj) (hvar j b hj) (Rc.blk j b hj)
 have oth:∀ t x b,t ∉ ids->σ[t]?=some x->Zc β t x=some b->b < w.heap.size/\∀ t ∈ ids,∀ x,σ[t]?=some x->Zc β t x≠some b:=by
  intro t x b hn hx hbb
  refine ⟨(R.blk t x hx).owns_lt hbb,fun t' ht' x' hx' e=>hn ?_⟩
  rw [R.apart t x t' x' b hx hx' hbb e];exact ht'
 refine ⟨_,hle,⟨R.below.trans (Rc.below.mono hKK),fun b o hB=>(Rc.old b o (hKK b hB)).trans (R.old b o hB),Rc.imm,?_,?_,?_,?_,?_,?_,Rc.glob⟩,hρ⟩
 ·intro t x' hx
  rcases look t x' hx with ⟨j,b,hj,rfl,rfl⟩ | ⟨hn,hx⟩
  ·exact ZjX hρ (hβg j b hj) (hvar j b hj) (Rc.blk j b hj)
  ·refine (R.blk t x' hx).keep hI hle fun b hbb=>Rc.below.block b (oth t x' b (out t hn).1 hx hbb)
 ·intro t x' b hx hbb
  rcases look t x' hx with ⟨j,b',hj,rfl,rfl⟩ | ⟨hn,hx⟩
  ·rw [hown j b' hj] at hbb
   have:=Rc.own j b' b hj hbb
   exact ⟨fun hB=>this.1 (hKK b hB),this.2⟩
  ·rw [(R.blk t x' hx).owns_eq hle] at hbb
   refine ⟨(R.own t x' b hx hbb).1,fun o=>?_⟩
   rw [Rc.old b o (oth t x' b (out t hn).1 hx hbb)]
   exact (R.own t x' b hx hbb).2 o
 ·intro t x t' x' b hx hx' hbb hbb'
  rcases look t x hx with ⟨j,c,hj,rfl,rfl⟩ | ⟨hn,hx⟩ <;> rcases look t' x' hx' with ⟨j',c',hj',rfl,rfl⟩ | ⟨hn',hx'⟩
  ·rw [hown j c hj] at hbb;rw [hown j' c' hj'] at hbb'
   rw [Rc.apart j c j' c' b hj hj' hbb hbb']
  ·rw [hown j c hj] at hbb;rw [(R.blk t' x' hx').owns_eq hle] at hbb'
   exact absurd (oth t' x' b (out t' hn').1 hx' hbb') (Rc.own j c b hj hbb).1
  ·rw [hown j' c' hj'] at hbb';rw [(R.blk t x hx).owns_eq hle] at hbb
   exact absurd (oth t x b (out t hn).1 hx hbb) (Rc.own j' c' b hj' hbb').1
  ·rw [(R.blk t x hx).owns_eq hle] at hbb;rw [(R.blk t' x' hx').owns_eq hle] at hbb'
   exact R.apart t x t' x' b hx hx' hbb hbb'
 ·intro t g ht
  rw [Zil] at ht
  have hn:∀ j,j < h.length->Zar ids sq j≠t:=fun j hj e=>by have:=tlt j hj;omega
  rw [(out t hn).2];exact R.fresh t g ht
 ·intro t g hx
  rcases look t _ hx with ⟨j,b,hj,rfl,e⟩ | ⟨hn,hx⟩
  ·have:=(Zeb h3 hj).1
   cases b <;> first | (simp [okB] at this;done) | (simp only [Zn] at e;cases e;done)
  ·rw [(out t hn).2];exact R.free t g hx
 ·intro t x' g hx hg
  rcases look t _ hx with ⟨j,b,hj,rfl,rfl⟩ | ⟨hn,hx⟩
  ·obtain ⟨k1,k2⟩:=Zeb h3 hj
   rw [XG] at k2
   rw [ZkO (hvar j b hj) k1] at hg
   have hjlt:=(Xe.1 hj).1
   rcases split_j j hjlt with ⟨t,a1,a2,a3⟩ | ⟨a1,a2,a3,a4⟩
   ·rw [a3,atIds j t a1]
    simp only [ZbL,a1] at hg
    rw [if_neg (by omega)]
    split
    ·rename_i e
     exact Rc.gen j b 1 hj (by omega)
    ·rfl
   ·rw [a4,atNew _ (by omega)]
    rw [if_neg (by omega)]
  ·rw [(out t hn).2];exact R.gen t x' g hx hg
end
theorem Rel.after_flat {Ic I1:Imm} {βc:Bmap} {σc:Za} {K':Nat->Prop} (R:Rel base w0 I0 I β σ w) (hb:KLt base w0) (hK:∀ b,b < w.heap.size->K' b) (Rc:Rel K' w I1 Ic βc σc w'):Rel base w0 I0 I β σ w':=by
 have hbw:=R.base_le hb
 refine R.stay (Imm.le.refl I) (Rc.below.mono fun b h=>hK b (hbw b h)) (fun _ _ _=>rfl) (fun b o u h=>?_) (fun t x b h hb'=>⟨Rc.below.block b (hK b ((R.blk t x h).owns_lt hb')),(R.own t x b h hb').2⟩)
 have:=R.imm b o u h
 have hlt:=ZbU this
 rw [<-this]
 simp only [World.cell?,Rc.below.block b (hK b hlt)]
theorem Ztw {I I':Imm} {β β':Bmap} {r:AVal} {u:Value} (hf:Zaz r=true) (h:VR I β (Zaf r) u):VR I' β' (Zaf r) u:=by
 by_cases hp:∃ x,r=.pan x
 ·obtain ⟨x,rfl⟩:=hp
  simp only [Zaf] at h ⊢
  cases x <;> simp only [Zaz,Zau,Zan] at hf <;> first | (cases hf;done) | skip
  case iface t x =>
   simp only [VR] at h ⊢
   obtain ⟨u',h1,h2⟩:=h
   exact ⟨u',h1,Zff hf h2⟩
 ·have hn:∀ x,r≠.pan x:=fun x e=>hp ⟨x,e⟩
  rw [ZcZ hn] at h ⊢
  exact Zmj hf h
theorem Zku {I I':Imm} {β β':Bmap} (hI:∀ b o n,I b o=some (.int .u8 n)->I' b o=some (.int .u8 n)):∀ {xs:List AVal} {b off:Nat},xs.all ZhY=true->∀ {k:Nat},LR I β k xs b off->LR I' β' k xs b off
 | [],_,_,_,_,_=>by simp only [LR]
 | x::xs,b,off,hx,k,h=>by
  simp only [List.all_cons,Xc] at hx
  have ih:=fun (h:LR I β k xs b (off+k))=>Zku (β':=β') hI hx.2 h
  have hx1:=hx.1
  unfold ZhY at hx1
  split at hx1
  ·simp only [LR,VR] at h ⊢
   obtain ⟨⟨h0,u,h1,h2⟩,h3⟩:=h
   subst h2
   exact ⟨⟨h0,_,hI _ _ _ h1,rfl⟩,ih h3⟩
  ·cases hx1
theorem ZkZ {I I':Imm} {β β':Bmap} (hI:∀ b o n,I b o=some (.int .u8 n)->I' b o=some (.int .u8 n)) {x:AVal} {v:Value} (hf:Zep x=true) (h:VR I β x v):VR I' β' x v:=by
 unfold Zep at hf
 split at hf
 ·simp only [VR] at h ⊢
  obtain ⟨A,cap,h1,h2,h3,h4,h5,h6⟩:=h
  refine ⟨A,cap,h1,h2,h3,h4,?_,h6⟩
  rcases h5 with h5 | ⟨b,off,k,e,hk,h5⟩
  ·exact Xn h5
  ·exact Xv ⟨b,off,k,e,hk,Zku hI hf h5⟩
 ·exact Zff hf h
theorem ZjF {I I':Imm} {β β':Bmap} (hI:∀ b o n,I b o=some (.int .u8 n)->I' b o=some (.int .u8 n)) {x:AVal} {v:Value} (hf:ZeK x=true) (h:VR I β x v):VR I' β' x v:=by
 unfold ZeK at hf
 split at hf
 ·rename_i cs
  simp only [VR] at h ⊢
  obtain ⟨us,rfl,h⟩:=h
  exact ⟨us,rfl,ZbY (Zaa h) (fun i x v hx hv=>by
   obtain ⟨v',h1,h2⟩:=Za9 h hx
   rw [hv] at h1;injection h1 with h1;subst h1
   exact ZkZ hI (Xp.1 hf x (Xu hx)) h2)⟩
 ·exact ZkZ hI hf h
theorem ZtJ {I I':Imm} {β β':Bmap} (hI:∀ b o n,I b o=some (.int .u8 n)->I' b o=some (.int .u8 n)) {x:AVal} {v:Value} (hf:ZdV x=true) (h:VR I β x v):VR I' β' x v:=by
 unfold ZdV at hf
 split at hf
 ·rename_i cs
  simp only [VR] at h ⊢
  obtain ⟨us,rfl,h⟩:=h
  exact ⟨us,rfl,ZbY (Zaa h) (fun i x v hx hv=>by
   obtain ⟨v',h1,h2⟩:=Za9 h hx
   rw [hv] at h1;injection h1 with h1;subst h1
   exact ZjF hI (Xp.1 hf x (Xu hx)) h2)⟩
 ·exact ZjF hI hf h
theorem Rel.after_bytes {I1 Ic:Imm} {βc:Bmap} {σc:Za} {K':Nat->Prop} {r:AVal} {u:Value} (R:Rel base w0 I0 I β σ w) (hb:KLt base w0) (hK:∀ b,b < w.heap.size->K' b) (Rc:Rel K' w I1 Ic βc σc w') (h1:I.le I1) (h2:I1.le Ic)
  (hn:∀ b o n,I1 b o=some (.int .u8 n)->I b o=some (.int .u8 n)) (hf:ZdV r=true) (hv:VR Ic βc (Zaf r) u):Post base w0 I0 I β (Zaf r) σ u w':=by
 have hbw:=R.base_le hb
 let J:Imm:=fun b o=>if b < w.heap.size then I b o else Ic b o
 have hle:I.le J:=by
  intro b o u hu
  have hlt:=ZbU (R.imm b o u hu)
  simp only [J,hlt,if_true];exact hu
 have hJ:∀ b o n,Ic b o=some (.int .u8 n)->J b o=some (.int .u8 n):=by
  intro b o n hu
  by_cases hlt:b < w.heap.size
  ·simp only [J,hlt,if_true]
   rw [Rc.old b o (hK b hlt)] at hu
   exact hn b o n hu
  ·simp only [J,hlt,if_false];exact hu
 have hval:Zaf r=r:=ZcZ (fun x e=>by subst e;simp [ZdV,ZeK,Zep,Zan] at hf)
 rw [hval] at hv ⊢
 refine Post.mk hle (Bmap.le.refl β) (R.stay hle (Rc.below.mono fun b h=>hK b (hbw b h)) ?_ ?_ ?_) (ZtJ hJ hf hv)
 ·intro b o hb'
  simp only [J,hbw b hb',if_true]
 ·intro b o u hu
  by_cases hlt:b < w.heap.size
  ·simp only [J,hlt,if_true] at hu
   rw [<-R.imm b o u hu]
   simp only [World.cell?,Rc.below.block b (hK b hlt)]
  ·simp only [J,hlt,if_false] at hu
   exact Rc.imm b o u hu
 ·intro t x b hx hb'
  have hlt:=(R.blk t x hx).owns_lt hb'
  refine ⟨Rc.below.block b (hK b hlt),fun o=>?_⟩
  simp only [J,hlt,if_true]
  exact (R.own t x b hx hb').2 o
theorem Zsf {xs:List AVal} (h:xs.all Zau=true):(xs.flatMap AVal.cells).all Zan=true:=by
 rw [Xp] at h ⊢
 intro x hx
 obtain ⟨y,hy,hxy⟩:=XR.1 hx
 have:=h y hy
 cases y
 case agg cs=>exact Xp.1 this x hxy
 all_goals (simp only [AVal.cells,X0] at hxy;subst hxy;exact this)
theorem Rel.clone {Ic I1:Imm} {βc:Bmap} {K':Nat->Prop} {sq k lo n:Nat} {xs:List AVal} {u:Value} (R:Rel base w0 I0 I β σ w) (hb:KLt base w0) (hK:∀ b,b < w.heap.size->K' b) (Rc:Rel K' w I1 Ic βc [.row 0 k xs] w') (hs:σ[sq]?=some .free) (hf:xs.all Zau=true)
  (hv:VR Ic βc (.sl 0 0 lo n) u):Post base w0 I0 I β (.sl sq 0 lo n) (σ.set sq (.row 0 k xs)) u w':=by
 have R':=R.after_flat hb hK Rc
 obtain ⟨bi,h1,h2,h3,h4,h5,h6,h7,h8⟩:=Rc.blk 0 _ rfl
 have hle:β.le (β.put sq 0 bi):=Bmap.put_le (R.free sq 0 hs)
 have hbw:=R.base_le hb
 have hsl:sq < σ.length:=(Xe.1 hs).1
 have hnew:∀ b,bi.b=some b->¬b < w.heap.size:=by
  intro b e hlt
  exact (Rc.own 0 (.row 0 k xs) b rfl (by simp [Zc,h1,e])).1 (hK b hlt)
 have hown:∀ b,Zc (β.put sq 0 bi) sq (.row 0 k xs)=some b->bi.b=some b:=by
  intro b e
  simpa [Zc,Bmap.put_same] using e
 refine Post.mk (Imm.le.refl I) hle (R'.upd (Imm.le.refl I) hle (KB.refl base w') (fun _ _ _=>rfl) R'.imm sq _ rfl hsl (fun t g h=>Bmap.put_ne h) ?_ ?_ ?_ ?_ (by simp)) ?_
 ·intro t x b hne h hb'
  refine ⟨rfl,(R.own t x b h hb').2,fun e=>?_⟩
  exact hnew b (hown b e) ((R.blk t x h).owns_lt hb')
 ·refine ⟨bi,Bmap.put_same β sq 0 _,h2,h3,h4,h5,h6,h7,?_⟩
  rcases h8 with h8 | ⟨b,us,ty,g1,g2,g3,g4⟩
  ·exact Xn h8
  ·exact Xv ⟨b,us,ty,g1,g2,g3,Zjm (Zsf hf) g4⟩
 ·intro b e
  have hnb:=hnew b (hown b e)
  refine ⟨fun hB=>hnb (hbw b hB),fun o=>?_⟩
  cases hI:I b o with
  | none=>rfl
  | some v=>exact absurd (ZbU (R.imm b o v hI)) hnb
 ·intro g hg
  simp only [Zb] at hg
  rw [Bmap.put_gen (by omega)]
  exact R.free sq g hs
 ·simp only [VR] at hv ⊢
  obtain ⟨bi',e,hv⟩:=hv
  rw [h1] at e
  injection e with e;subst e
  exact ⟨bi,Bmap.put_same β sq 0 _,hv⟩
theorem Zh7 {O:Zo} (hO:ZI P O) {bf:Nat->Bool} (R:Rel base w0 I0 I β σ w) (hb:KLt base w0) {sq f own:Nat} {view:Bool} {args:List AVal} {vs:Array Value} (hargs:VRs I β args vs.toList) {r:AVal} {c:Cls} (hsite:own=1->σ[sq]?=some .free) (h:Zr O bf σ sq f own view args=some (r,σ',c)) :
  (∃ fn,P.funcs[f]?=some fn/\fn.body.isSome=true/\(fn.name == "runtime.NumGoroutine")=false)/\Calls P f vs w (fun e w'=>∃ u,Ends r e u/\Post base w0 I0 I β (Zaf r) σ' u w'):=by
 unfold Zr at h
 split at h
 ·cases h
 rename_i xs ts hshow
 obtain ⟨I1,hI1,R1,hal,_,hfz,_,_,hnby⟩:=Zd4 ts R
 have hxs:VRs I1 β xs vs.toList:=by
  unfold ZbE at hshow
  split at hshow
  ·simp only [Xa,Xb] at hshow
   obtain ⟨rfl,rfl⟩:=hshow
   exact hargs.mono hI1 (Bmap.le.refl β) _ _
  ·exact ZiA R1 (hfz (Zfp hshow)) (by rw [hal.showAs];exact hshow) (hargs.mono hI1 (Bmap.le.refl β) _ _)
 generalize hσf:Zh σ ts=σf at *
 obtain ⟨hnd,_⟩:=ZdN (σ:=σf) 1000 (ZR xs) [] List.nodup_nil
 generalize Zi σf 1000 (ZR xs) []=ids at *
 unfold Zbg at h
 split at h
 case isFalse=>cases h
 rename_i hok
 have R2:=R1.pick (K':=fun b=>b < w.heap.size/\∀ t ∈ ids,∀ x,σf[t]?=some x->Zc β t x≠some b) (w1:=w) (I1:=I1) (m:=0) hnd (KB.refl _ w) (fun _ _ _=>rfl) (fun t x b ht hx hb' hk=>hk.2 t ht x hx hb')
 generalize hq:Zat view ids.length (O f (ZH (Zf σf 0 ids) xs) (Zj σf 0 ids (Zf σf 0 ids) ids 0))=q at h
 cases q with
 | none=>simp only [Zaj] at h;cases h
 | some q =>
  obtain ⟨r1,h1⟩:=q
  obtain ⟨r0,h0,hcall⟩:∃ r0 h0,O f (ZH (Zf σf 0 ids) xs) (Zj σf 0 ids (Zf σf 0 ids) ids 0)=some (r0,h0):=by
   cases ho:O f (ZH (Zf σf 0 ids) xs) (Zj σf 0 ids (Zf σf 0 ids) ids 0) with
   | none=>rw [ho] at hq;cases view <;> simp [Zat,Zb2] at hq
   | some q=>exact ⟨q.1,q.2,rfl⟩
  rw [hcall] at hq
  obtain ⟨hfn,hrun⟩:=hO f _ _ r0 h0 hcall
  refine ⟨hfn,(hrun _ w I1 I1 _ w vs (fun b hb=>hb.1) R2 (ZcY Zhb _ _ hxs)).mono ?_⟩
  rintro e w' ⟨u,he,hp⟩
  rw [ZfG] at hp
  have hp1:ZaQ ids.length (fun b=>b < w.heap.size/\∀ t ∈ ids,∀ x,σf[t]?=some x->Zc β t x≠some b) w I1 I1 (Zbf σf 0 ids β) r1 h1 u w'/\Ends r1 e u:=by
   cases view with
   | false =>
    simp only [Zat,Xo,if_false,Xa,Xb] at hq
    obtain ⟨rfl,rfl⟩:=hq
    exact ⟨hp,he⟩
   | true =>
    simp only [Zat,if_true] at hq
    obtain ⟨q1,q2⟩:=ZrP hp hq
    exact ⟨q1,q2 e he⟩
  obtain ⟨⟨I2,β2,hI2,hkept,Rc,hv⟩,he1⟩:=hp1
  simp only [Zaj] at h
  split at h
  ·rename_i hc
   simp only [Xc,WL] at hc
   obtain ⟨rfl,rfl⟩:=hc
   split at h
   ·rename_i hflat
    simp only [Xa,Xb] at h
    obtain ⟨rfl,rfl,rfl⟩:=h
    exact ⟨u,he1,Post.here (R.after_flat hb (fun b hlt=>⟨hlt,by simp⟩) Rc) (Ztw hflat hv)⟩
   split at h
   ·rename_i hap
    unfold Zbt at hap
    simp only [Xc] at hap
    simp only [Xa,Xb] at h
    obtain ⟨rfl,rfl,rfl⟩:=h
    exact ⟨u,he1,R.after_bytes hb (fun b hlt=>⟨hlt,by simp⟩) Rc hI1 hI2 (hnby hap.2) hap.1.2 hv⟩
   ·simp only [Xa,Xb] at h
    obtain ⟨rfl,rfl,rfl⟩:=h
    obtain ⟨β3,g1,g2,g3⟩:=R1.back (sq:=sq) (n:=0) hb hnd hok Rc hI2 hkept (by simp) (by simp) rfl rfl
    have hρ:ZaA σf [] sq=ZaA [] [] sq:=rfl
    refine ⟨u,he1.ren,Post.mk (hI1.trans hI2) g1 g2 ?_⟩
    rw [hρ] at g3
    have:=ZdK g3 _ _ hv
    rcases ZgL (ρ:=ZaA [] [] sq) r1 with e | ⟨x,rfl⟩
    ·rw [e];exact this
    ·exact this
  ·split at h
   ·rename_i lo n k xs' hcl
    split at hcl
    case isFalse=>cases hcl
    rename_i hid
    simp only [WL] at hid
    subst hid
    unfold ZeA at hcl
    split at hcl
    case h_2=>cases hcl
    split at hcl
    case isFalse=>cases hcl
    rename_i hcc
    simp only [Xc,decide_eq_true_eq] at hcc
    simp only [Xa,Xb] at hcl h
    obtain ⟨rfl,rfl,rfl,rfl⟩:=hcl
    obtain ⟨rfl,rfl,rfl⟩:=h
    exact ⟨u,he1,R.clone hb (fun b hlt=>⟨hlt,by simp⟩) Rc (hsite hcc.1) hcc.2 hv⟩
   split at h
   case isFalse=>cases h
   rename_i hc
   simp only [Xc,decide_eq_true_eq] at hc
   obtain ⟨⟨⟨c1,c2⟩,c3⟩,c4⟩:=hc
   simp only [Xa,Xb] at h
   obtain ⟨rfl,rfl,rfl⟩:=h
   obtain ⟨β3,g1,g2,g3⟩:=R1.back hb hnd hok Rc hI2 hkept c1 c2 c3 c4
   refine ⟨u,he1.ren,Post.mk (hI1.trans hI2) g1 g2 ?_⟩
   have:=ZdK g3 _ _ hv
   rcases ZgL (ρ:=ZaA σf ids sq) r1 with e | ⟨x,rfl⟩
   ·rw [e];exact this
   ·exact this
end
end
section
open Go.RowKit
section
variable {P:Program} {w:World} {I:Imm} {β:Bmap}
theorem ZkQ {t:TypeId} (hb:ZgV P t=true) {xs:Array Value} {o:Nat} {v:Value} (h:xs[o]?=some v):(part t xs o).run P w=.ok v w:=by
 unfold ZgV at hb
 have key:∀ d,P.underlying t=some d->d.isRow=false->(part t xs o).run P w=.ok v w:=by
  intro d hu hd
  have hagg:(isAgg t).run P w=.ok false w:=by
   unfold isAgg
   rw [Sem.run_bind,run_underlying hu w]
   cases d <;> simp_all [TypeDesc.isRow]
  simp [part,hagg,h]
 split at hb
 ·rename_i hu;exact key _ hu rfl
 ·rename_i hu;exact key _ hu rfl
 ·rename_i hu;exact key _ hu rfl
 ·cases hb
theorem ZpG (w:World) {t:TypeId} (d:Nat) {x y:AVal} {u v:Value} {b:Bool} (hx:VR I β x u) (hy:VR I β y v) (h:Zb5 x y=some b) (hk:ZcC P t x=true):(Op.equalIn (d+1) t u v).run P w=.ok b w:=by
 unfold Zb5 at h
 split at h
 ·rename_i k a k' b'
  split at h
  ·rename_i e;subst e
   injection h with h;subst h
   simp only [VR] at hx hy
   subst hx hy
   cases hd:P.underlying t with
   | none=>simp [ZcC,hd] at hk
   | some dd =>
    cases dd <;> simp [ZcC,hd] at hk
    exact run_equalIn_int w d t _ _ a b' hd
  ·cases h
 ·rename_i a b'
  injection h with h;subst h
  simp only [VR] at hx hy
  subst hx hy
  cases hd:P.underlying t with
  | none=>simp [ZcC,hd] at hk
  | some dd =>
   cases dd <;> simp [ZcC,hd] at hk
   exact run_equalIn_bool' w d t a b' hd
 ·rename_i a b'
  injection h with h;subst h
  simp only [VR] at hx hy
  obtain ⟨rfl,_⟩:=hx
  obtain ⟨rfl,_⟩:=hy
  cases hd:P.underlying t with
  | none=>simp [ZcC,hd] at hk
  | some dd =>
   cases dd <;> simp [ZcC,hd] at hk
   rw [run_equalIn_string w d t _ _ hd,ZeE,ZeE]
 ·cases h
theorem ZiD:∀ {fs:List Field} {xs:List AVal},ZdR (fs.map fun f=>(ZcW P f.type).getD 3) xs=true->ZcV P fs xs=true
 | [],[],_=>rfl
 | [],x::xs,h=>by simp [ZdR] at h
 | f::fs,[],h=>by simp [ZdR] at h
 | f::fs,x::xs,h=>by
  simp only [XC,ZdR,Xc,beq_iff_eq] at h
  simp only [ZcV,Xc]
  refine ⟨?_,ZiD h.2⟩
  have h1:=h.1
  cases hd:P.underlying f.type with
  | none=>simp only [ZcW,hd,Xac] at h1;cases x <;> simp [Zah] at h1
  | some dd=>cases dd <;> simp only [ZcW,hd,Xac,Wt] at h1 <;> cases x <;> first | (simp [ZcC,hd];done) | (simp [Zah] at h1;done)
theorem Zi9 (w:World) (d:Nat) {us vs:Array Value}:∀ {fs:List Field} {xs ys:List AVal} {o:Nat} {b:Bool},Zfw P o fs=true->ZcV P fs xs=true->VRs I β xs (us.toList.drop o)->VRs I β ys (vs.toList.drop o)->ZcO xs ys=some b->(Op.eqFields (d+1) us vs fs).run P w=.ok b w
 | [],xs,ys,o,b,hf,hk,hx,hy,h=>by
  cases xs with
  | nil =>
   cases ys with
   | nil=>simp only [ZcO,Xa] at h;subst h;simp [Op.eqFields]
   | cons=>simp [ZcO] at h
  | cons=>simp [ZcV] at hk
 | f::fs,xs,ys,o,b,hf,hk,hx,hy,h=>by
  cases xs with
  | nil=>simp [ZcV] at hk
  | cons x xs =>
   cases ys with
   | nil=>simp [ZcO] at h
   | cons y ys =>
    simp only [Zfw,Xc,beq_iff_eq,bne_iff_ne,ne_eq] at hf
    obtain ⟨⟨⟨h1,h2⟩,h3⟩,h4⟩:=hf
    simp only [ZcV,Xc] at hk
    simp only [VRs] at hx hy
    obtain ⟨u,us',eu,hx1,hx2⟩:=hx
    obtain ⟨v,vs',ev,hy1,hy2⟩:=hy
    have gu:us[o]?=some u:=by
     have:=congrArg (fun l:List Value=>l[0]?) eu
     simpa using this
    have gv:vs[o]?=some v:=by
     have:=congrArg (fun l:List Value=>l[0]?) ev
     simpa using this
    have eu':us.toList.drop (o+1)=us':=by rw [<-Xav,eu];rfl
    have ev':vs.toList.drop (o+1)=vs':=by rw [<-Xav,ev];rfl
    simp only [ZcO] at h
    split at h
    ·rename_i b1 hb1
     split at h
     ·rename_i b2 hb2
      injection h with h;subst h
      have r1:=ZpG w d hx1 hy1 hb1 hk.1
      have r2:=Zi9 w d (us:=us) (vs:=vs) h4 hk.2 (by rw [eu'];exact hx2) (by rw [ev'];exact hy2) hb2
      rw [<-h1] at gu gv
      simp only [Op.eqFields,h2,ne_eq,not_false_eq_true,if_true,Sem.run_bind,ZkQ h3 gu,ZkQ h3 gv,r1,Result.andThen_ok]
      cases b1
      ·simp
      ·simpa using r2
     ·cases h
    ·cases h
theorem ZtK {t:TypeId} {fs:Array Field} (hu:P.underlying t=some (.struct fs)) (hf:Zii P t fs=true) {x y:List AVal} {us vs:Array Value} (hx:VRs I β x us.toList) (hy:VRs I β y vs.toList) (hk:ZcV P fs.toList x=true) {b:Bool} (h:ZcO x y=some b) (neg:Bool) {op:BinOp} (hop:op=(if neg then .neq else .eql)) (ox oy:Operand) :
  (do eqGuard op t ox oy (.agg us) (.agg vs);binOp op t (.agg us) (.agg vs):Sem Value).run P w=.ok (.bool (b != neg)) w:=by
 simp only [Zii,Xc,Wx] at hf
 obtain ⟨⟨hf1,hf2⟩,hf3⟩:=hf
 have hfo:P.fieldsOf t=fs:=by simp [Program.fieldsOf,hu]
 have h1:(eqGuard op t ox oy (.agg us) (.agg vs)).run P w=.ok () w:=by
  subst hop
  cases neg <;> simp [eqGuard,hf3]
 have h2:(Op.equal t (.agg us) (.agg vs)).run P w=.ok b w:=by
  show (Op.equalIn (9999+1) t (.agg us) (.agg vs)).run P w=_
  rw [run_equalIn_struct w 9999 t us vs (by rw [hfo];exact hu) hf2,hfo]
  exact Zi9 w 9998 hf1 hk (by simpa using hx) (by simpa using hy) h
 subst hop
 cases neg
 ·simp only [Xo,if_false] at h1 ⊢
  simp [h1,h2,binOp]
 ·simp only [if_true] at h1 ⊢
  simp [h1,h2,binOp]
end
end
section
open Go.RowKit
section
variable {P:Program} {base:Nat->Prop} {w0 w w':World} {I0 I I':Imm} {β β':Bmap} {σ σ':Za}
def ZbB:TypeDesc->Option Nat
 | .int _=>some 0
 | .bool=>some 1
 | .string=>some 2
 | _=>none
theorem ZfB {P:Program} {t:TypeId} {kc:Nat} {z:AVal} (h:ZdD P t=some (kc,z)):∃ kt et d,P.underlying t=some (.map kt et)/\P.underlying kt=some d/\ZbB d=some kc/\ZbO P et=some z:=by
 unfold ZdD at h
 split at h
 case h_2=>cases h
 rename_i kt et ht
 split at h
 case h_2=>cases h
 rename_i kc' z' hk hz
 simp only [Xa,Xb] at h
 obtain ⟨rfl,rfl⟩:=h
 unfold ZcW at hk
 split at hk
 ·rename_i e;injection hk with hk;subst hk;exact ⟨kt,et,_,ht,e,rfl,hz⟩
 ·rename_i e;injection hk with hk;subst hk;exact ⟨kt,et,_,ht,e,rfl,hz⟩
 ·rename_i e;injection hk with hk;subst hk;exact ⟨kt,et,_,ht,e,rfl,hz⟩
 ·cases hk
theorem Zj4 {l l':List UInt8}:((⟨l.toArray⟩:ByteArray) == ⟨l'.toArray⟩)=(l == l'):=by
 rw [beq_toListBytes,ZeE,ZeE]
theorem ZkY {d:TypeDesc} {x y:AVal} {vx vy:Value} {b:Bool} (hd:ZbB d=some (Zah x)) (h:Zb5 x y=some b) (hx:VR I β x vx) (hy:VR I β y vy):Instr.sameNow d vx vy=some b:=by
 unfold Zb5 at h
 split at h
 ·rename_i k n k' m
  split at h
  case isFalse=>cases h
  rename_i hk
  subst hk
  injection h with h
  subst h
  simp only [VR] at hx hy
  subst hx hy
  cases d <;> simp [ZbB,Zah] at hd
  simp [Instr.sameNow]
 ·injection h with h
  subst h
  simp only [VR] at hx hy
  subst hx hy
  cases d <;> simp [ZbB,Zah] at hd
  simp [Instr.sameNow]
 ·rename_i l l'
  injection h with h
  subst h
  simp only [VR] at hx hy
  rw [hx.1,hy.1]
  cases d <;> simp [ZbB,Zah] at hd
  simp only [Instr.sameNow,Zj4]
 ·cases h
theorem ZtY {x y:AVal} {vx vy:Value} (h:Zb5 x y=some true) (hx:VR I β x vx) (hy:VR I β y vy):Instr.sameBits 10000 vy vx=true/\vx=vy:=by
 unfold Zb5 at h
 split at h
 ·rename_i k n k' m
  split at h
  case isFalse=>cases h
  rename_i hk
  subst hk
  simp only [Xa,beq_iff_eq] at h
  subst h
  simp only [VR] at hx hy
  subst hx hy
  exact ⟨by simp [Instr.sameBits],rfl⟩
 ·simp only [Xa,beq_iff_eq] at h
  subst h
  simp only [VR] at hx hy
  subst hx hy
  exact ⟨by simp [Instr.sameBits],rfl⟩
 ·simp only [Xa,beq_iff_eq] at h
  subst h
  simp only [VR] at hx hy
  rw [hx.1,hy.1]
  exact ⟨by simp only [Instr.sameBits,Zj4,beq_self_eq_true],rfl⟩
 ·cases h
theorem Zdm {d:TypeDesc} {x:AVal} {vx:Value} (hd:ZbB d=some (Zah x)) (hx:VR I β x vx):∀ (es:List (AVal×AVal)) (arr:List MapEntry) (i:Nat) (r:Option (Nat×AVal)),VRs I β (es.map (·.1)) (arr.map (·.key))->VRs I β (es.map (·.2)) (arr.map (·.val))->Zb6 x es i=some r ->
  (r=none/\Instr.findNow d vx arr i=some none) \/
  ∃ j y e p,r=some (i+j,y)/\Instr.findNow d vx arr i=some (some (i+j,e.val))/\arr[j]?=some e/\es[j]?=some p/\p.2=y/\VR I β y e.val/\Zb5 x p.1=some true/\VR I β p.1 e.key
 | [],arr,i,r,hk,_,h=>by
  unfold Zb6 at h
  injection h with h
  subst h
  simp only [XT,VRs,List.map_eq_nil_iff] at hk
  subst hk
  exact Xn ⟨rfl,by simp [Instr.findNow]⟩
 | (k,y)::es,arr,i,r,hk,hv,h=>by
  unfold Zb6 at h
  cases arr with
  | nil =>
   simp only [XC,XT,VRs] at hk
   obtain ⟨_,_,hk,_⟩:=hk
   cases hk
  | cons e arr =>
  simp only [XC,VRs] at hk hv
  obtain ⟨_,_,ek,k1,k2⟩:=hk
  injection ek with ek1 ek2
  subst ek1 ek2
  obtain ⟨_,_,ev,v1,v2⟩:=hv
  injection ev with ev1 ev2
  subst ev1 ev2
  split at h
  ·rename_i ha
   injection h with h
   subst h
   refine Xv ⟨0,y,e,(k,y),rfl,?_,rfl,rfl,rfl,v1,ha,k1⟩
   simp only [Instr.findNow,ZkY hd ha hx k1,XU]
  ·rename_i ha
   have hn:=ZkY hd ha hx k1
   rcases Zdm hd hx es arr (i+1) r k2 v2 h with ⟨h1,h2⟩ | ⟨j,y',e',p',h1,h2,h3,h4,h5⟩
   ·exact Xn ⟨h1,by simp only [Instr.findNow,hn];exact h2⟩
   ·refine Xv ⟨j+1,y',e',p',by rw [h1,Wi,XaB 1 j],?_,by simpa using h3,by simpa using h4,h5⟩
    simp only [Instr.findNow,hn]
    rw [h2,Wi,XaB 1 j]
  ·cases h
theorem Zdb {kt:TypeId} {d:TypeDesc} {kc:Nat} (hk:P.underlying kt=some d) (hd:ZbB d=some kc) (e:Bool) (v:Value):(Instr.checkKey e 10000 kt v).run P w=.ok () w:=by
 show (Instr.checkKey e (9999+1) kt v).run P w=_
 unfold Instr.checkKey
 rw [Sem.run_bind,run_underlying hk]
 cases d <;> simp [ZbB] at hd <;> rfl
theorem Zdp {kt:TypeId} {d:TypeDesc} (hk:P.underlying kt=some d) {v:Value} {arr:List MapEntry} {r:Option (Nat×Value)} (h:Instr.findNow d v arr 0=some r):(Instr.findKey kt v arr).run P w=.ok r w:=by
 unfold Instr.findKey
 rw [Sem.run_bind,run_underlying hk]
 simp only [Result.andThen_ok,h,Sem.run_pure]
theorem Zmu {e:TypeId} {z:AVal} (hz:ZbO P e=some z):∃ v,(zeroValue e).run P w=.ok v w/\VR I β z v:=by
 unfold ZbO at hz
 split at hz
 case h_2=>cases hz
 rename_i i hi
 split at hz
 case h_2=>cases hz
 rename_i v hv
 exact ⟨v,by simp [zeroValue,typeInfo,hi,hv],(ZcH hz).1⟩
theorem Zej {b:Nat} {arr:Array MapEntry} {clk:Nat} (h:w.heap[b]?=some (.map arr clk)):(getObj b).run P w=.ok (.map arr clk) w:=by simp [getObj,Sem.run,h]
theorem ZdF:VR I β (.tup []) undef:=by simp [VR,VRs,undef]
theorem Zhd {x:AVal} {v:Value} (b:Bool) (h:VR I β x v):VR I β (.tup [x,.bool b]) (.tuple #[v,.bool b]):=by
 simp only [VR]
 exact ⟨_,rfl,by simp only [VRs];exact ⟨_,_,rfl,h,_,_,rfl,rfl,rfl⟩⟩
theorem ZvR (R:Rel base w0 I0 I β σ w) {t kt et:TypeId} (ht:P.underlying t=some (.map kt et)) {d:TypeDesc} (hdk:P.underlying kt=some d) {kc:Nat} (hd:ZbB d=some kc) {z:AVal} (hz:ZbO P et=some z) {ok:Bool} {m k v:AVal} {vm vk:Value} {c:Cls} (hm:VR I β m vm) (hk:VR I β k vk)
  (h:ZbN σ kc z ok m k=some (v,σ',c)):σ'=σ/\∃ u,(Instr.lookup t vm vk ok).run P w=.ok u w/\VR I β v u:=by
 obtain ⟨vz,hvz,hzr⟩:=Zmu (P:=P) (w:=w) (I:=I) (β:=β) hz
 unfold ZbN at h
 split at h
 case isFalse=>cases h
 rename_i hkc
 have hd':ZbB d=some (Zah k):=by rw [hd,hkc]
 split at h
 ·simp only [Xa,Xb] at h
  obtain ⟨rfl,rfl,rfl⟩:=h
  simp only [VR] at hm
  subst hm
  have hf:=Zdp (P:=P) (w:=w) hdk (v:=vk) (arr:=[]) (r:=none) (by simp [Instr.findNow])
  refine ⟨rfl,if ok then .tuple #[vz,.bool false] else vz,?_,?_⟩
  ·simp [Instr.lookup,run_underlying ht,Zdb hdk hd,hf,hvz]
  ·cases ok
   ·exact hzr
   ·exact Zhd false hzr
 ·rename_i b
  simp only [VR] at hm
  obtain ⟨bb,kk,cc,hb,rfl⟩:=hm
  split at h
  case h_2=>cases h
  rename_i es hs
  obtain ⟨b',k',c',arr,clk,e1,e2,e3,e4,_⟩:=R.blk _ _ hs
  rw [hb] at e1
  simp only [Xa,BI.mk.injEq] at e1
  obtain ⟨rfl,rfl,rfl⟩:=e1
  have hg:=Zej (P:=P) e2
  split at h
  ·rename_i j y hf
   simp only [Xa,Xb] at h
   obtain ⟨rfl,rfl,rfl⟩:=h
   rcases Zdm hd' hk es arr.toList 0 _ e3 e4 hf with ⟨h1,_⟩ | ⟨j',y',e,p,h1,h2,_,_,_,h5,_⟩
   ·cases h1
   ·injection h1 with h1
    injection h1 with h1 h1'
    subst h1'
    have hr:=Zdp (P:=P) (w:=w) hdk h2
    refine ⟨rfl,if ok then .tuple #[e.val,.bool true] else e.val,?_,?_⟩
    ·simp [Instr.lookup,run_underlying ht,Zdb hdk hd,hg,hr]
    ·cases ok
     ·exact h5
     ·exact Zhd true h5
  ·rename_i hf
   simp only [Xa,Xb] at h
   obtain ⟨rfl,rfl,rfl⟩:=h
   rcases Zdm hd' hk es arr.toList 0 _ e3 e4 hf with ⟨_,h2⟩ | ⟨j',y',e,p,h1,_⟩
   ·have hr:=Zdp (P:=P) (w:=w) hdk h2
    refine ⟨rfl,if ok then .tuple #[vz,.bool false] else vz,?_,?_⟩
    ·simp [Instr.lookup,run_underlying ht,Zdb hdk hd,hg,hr,hvz]
    ·cases ok
     ·exact hzr
     ·exact Zhd false hzr
   ·cases h1
  ·cases h
 ·cases h
theorem Zgu (R:Rel base w0 I0 I β σ w) {t b k c:Nat} {es es':List (AVal×AVal)} (hs:σ[t]?=some (.map es)) (hb:β t 0=some ⟨some b,k,c⟩) {arr':Array MapEntry} {clk':Nat} (hk:VRs I β (es'.map (·.1)) (arr'.toList.map (·.key))) (hv:VRs I β (es'.map (·.2)) (arr'.toList.map (·.val))) (hA:∀ p ∈ es',ZcM p.1=true) (hS:Zgx arr' clk') (hlt:b < w.heap.size) :
  Rel base w0 I0 I β (σ.set t (.map es')) { w with heap:=w.heap.setIfInBounds b (.map arr' clk') } :=
 R.putObj hs (by simp [Zc,hb]) (by simp [Zc,hb]) _ ⟨b,k,c,arr',clk',hb,by rw [Array.getElem?_setIfInBounds_self_of_lt hlt],hk,hv,hA,hS⟩ rfl
theorem Zfr (arr:Array MapEntry) (i:Nat) (f:MapEntry->MapEntry):(arr.modify i f).toList=arr.toList.modify i f:=by simp
theorem Zgz {α β:Type} (g:α->β) (f:α->α) (v:β) (hf:∀ x,g (f x)=v):∀ (l:List α) (i:Nat),(l.modify i f).map g=(l.map g).set i v
 | [],i=>by simp
 | x::l,0=>by simp [hf]
 | x::l,i+1=>by simp [Zgz g f v hf l i]
theorem ZhK {α β:Type} (g:α->β) (f:α->α) (hf:∀ x,g (f x)=g x):∀ (l:List α) (i:Nat),(l.modify i f).map g=l.map g
 | [],i=>by simp
 | x::l,0=>by simp [hf]
 | x::l,i+1=>by simp [ZhK g f hf l i]
theorem Zfq {b:Nat} {arr:Array MapEntry} {clk:Nat} {o':Obj} (h:w.heap[b]?=some (.map arr clk)):(setObj b o').run P w=.ok () { w with heap:=w.heap.setIfInBounds b o' }:=by simp [setObj,Sem.run,h]
theorem Zh8:∀ {xs:List AVal} {vs:List Value} (i:Nat),VRs I β xs vs->VRs I β (xs.eraseIdx i) (vs.eraseIdx i)
 | [],vs,i,h=>by simp only [VRs] at h;subst h;simp [VRs]
 | x::xs,vs,0,h=>by
  simp only [VRs] at h
  obtain ⟨v,vs',rfl,_,h⟩:=h
  exact h
 | x::xs,vs,i+1,h=>by
  simp only [VRs] at h
  obtain ⟨v,vs',rfl,h1,h⟩:=h
  simp only [List.eraseIdx_cons_succ,VRs]
  exact ⟨v,_,rfl,h1,Zh8 i h⟩
theorem Zd7 {α β:Type} (g:α->β):∀ (l:List α) (i:Nat),(l.eraseIdx i).map g=(l.map g).eraseIdx i
 | [],i=>by simp
 | x::l,0=>by simp
 | x::l,i+1=>by simp [Zd7 g l i]
theorem Zkz (R:Rel base w0 I0 I β σ w) {t kt et:TypeId} (ht:P.underlying t=some (.map kt et)) {d:TypeDesc} (hdk:P.underlying kt=some d) {kc:Nat} (hd:ZbB d=some kc) {m k x v:AVal} {vm vk vx:Value} {c:Cls} (hm:VR I β m vm) (hk:VR I β k vk) (hx:VR I β x vx)
  (h:Zc1 σ kc m k x=some (v,σ',c)):v=.tup []/\∃ w',(Instr.mapUpdate t vm vk vx).run P w=.ok () w'/\Rel base w0 I0 I β σ' w':=by
 unfold Zc1 at h
 split at h
 case isFalse=>cases h
 rename_i hkc
 obtain ⟨hkc,hkA,_⟩:=hkc
 have hd':ZbB d=some (Zah k):=by rw [hd,hkc]
 split at h
 case h_2=>cases h
 rename_i b
 simp only [VR] at hm
 obtain ⟨bb,kk,cc,hb,rfl⟩:=hm
 split at h
 case h_2=>cases h
 rename_i es hs
 obtain ⟨b',k',c',arr,clk,e1,e2,e3,e4,e5,e6,e7⟩:=R.blk _ _ hs
 have hb0:=hb
 rw [hb] at e1
 simp only [Xa,BI.mk.injEq] at e1
 obtain ⟨rfl,rfl,rfl⟩:=e1
 have hg:=Zej (P:=P) e2
 have hlt:bb < w.heap.size:=(Xz.1 e2).1
 split at h
 ·rename_i j y hf
  simp only [Xa,Xb] at h
  obtain ⟨rfl,rfl,rfl⟩:=h
  rcases Zdm hd' hk es arr.toList 0 _ e3 e4 hf with ⟨h1,_⟩ | ⟨j',y',e,p,h1,h2,h3,h4,_,h5,h6,h7⟩
  ·cases h1
  ·simp only [XG] at h1 h2
   injection h1 with h1
   injection h1 with h1 h1'
   subst h1 h1'
   have hr:=Zdp (P:=P) (w:=w) hdk h2
   obtain ⟨sb,_⟩:=ZtY h6 hk h7
   have h3':arr[j]?=some e:=by rw [<-Array.getElem?_toList];exact h3
   have hst:(Instr.keyThatStays (((arr[j]?).map (·.key)).getD vk) vk).run P w=.ok vk w:=by
    rw [h3']
    simp [Instr.keyThatStays,sb]
   refine ⟨rfl,_,?_,Zgu R hs hb0 (arr':=arr.modify j fun e=>{ e with key:=vk,val:=vx }) (clk':=clk) ?_ ?_ ?_ ?_ hlt⟩
   ·simp only [Instr.mapUpdate,run_underlying ht,Zdb hdk hd,hg,hr,hst,Sem.run_bind,Result.andThen_ok,Zfq e2]
   ·rw [Zfr,Zgz (fun x:MapEntry=>x.key) _ vk (fun _=>rfl),List.map_set]
    exact ZjL e3 hk j
   ·rw [Zfr,Zgz (fun x:MapEntry=>x.val) _ vx (fun _=>rfl),List.map_set]
    exact ZjL e4 hx j
   ·intro q hq
    rcases List.mem_or_eq_of_mem_set hq with hq | rfl
    ·exact e5 q hq
    ·exact hkA
   ·refine ⟨fun e he=>?_,?_⟩
    ·rw [Zfr] at he
     have hm:e.born ∈ (arr.toList.modify j fun e=>{ e with key:=vk,val:=vx }).map (·.born):=XF.2 ⟨e,he,rfl⟩
     rw [ZhK (fun x:MapEntry=>x.born) (fun e:MapEntry=>{ e with key:=vk,val:=vx }) (fun _=>rfl)] at hm
     obtain ⟨e',he',hb'⟩:=XF.1 hm
     rw [<-hb'];exact e6 e' he'
    ·rw [Zfr,ZhK (fun x:MapEntry=>x.born) (fun e:MapEntry=>{ e with key:=vk,val:=vx }) (fun _=>rfl)]
     exact e7
 ·rename_i hf
  simp only [Xa,Xb] at h
  obtain ⟨rfl,rfl,rfl⟩:=h
  rcases Zdm hd' hk es arr.toList 0 _ e3 e4 hf with ⟨_,h2⟩ | ⟨j',y',e,p,h1,_⟩
  ·have hr:=Zdp (P:=P) (w:=w) hdk h2
   refine ⟨rfl,_,?_,Zgu R hs hb0 (arr':=arr.push { key:=vk,val:=vx,born:=clk }) (clk':=clk+1) ?_ ?_ ?_ ?_ hlt⟩
   ·simp only [Instr.mapUpdate,run_underlying ht,Zdb hdk hd,hg,hr,Sem.run_bind,Result.andThen_ok,Zfq e2]
   ·rw [W5,Wa,Wa]
    exact Zbj e3 (by simp only [XC,XT,VRs];exact ⟨_,_,rfl,hk,rfl⟩)
   ·rw [W5,Wa,Wa]
    exact Zbj e4 (by simp only [XC,XT,VRs];exact ⟨_,_,rfl,hx,rfl⟩)
   ·intro q hq
    rcases Xl.1 hq with hq | hq
    ·exact e5 q hq
    ·rw [X0] at hq;subst hq;exact hkA
   ·refine ⟨fun e he=>?_,?_⟩
    ·rw [W5] at he
     rcases Xl.1 he with he | he
     ·have:=e6 e he;omega
     ·rw [X0] at he;subst he;exact Nat.lt_succ_self clk
    ·rw [W5,Wa,WT]
     refine ⟨e7,by simp,?_⟩
     intro a ha b hb'
     simp only [XC,XT,X0] at hb'
     subst hb'
     obtain ⟨e',he',rfl⟩:=XF.1 ha
     have:=e6 e' he'
     omega
  ·cases h1
 ·cases h
theorem Zq9 (R:Rel base w0 I0 I β σ w) {t kt et:TypeId} (ht:P.underlying t=some (.map kt et)) {d:TypeDesc} (hdk:P.underlying kt=some d) {kc:Nat} (hd:ZbB d=some kc) {m k v:AVal} {vm vk:Value} {c:Cls} (ts:List TypeId) (ty:TypeId) (hm:VR I β m vm) (hk:VR I β k vk)
  (h:Ze0 σ kc m k=some (v,σ',c)):∃ w',(Builtin.delete_ (t::ts).toArray ty #[vm,vk]).run P w=.ok (.tuple #[]) w'/\v=.tup []/\Rel base w0 I0 I β σ' w':=by
 unfold Ze0 at h
 split at h
 case isFalse=>cases h
 rename_i hkc
 have hd':ZbB d=some (Zah k):=by rw [hd,hkc]
 split at h
 ·simp only [Xa,Xb] at h
  obtain ⟨rfl,rfl,rfl⟩:=h
  simp only [VR] at hm
  subst hm
  exact ⟨w,by simp [Builtin.delete_,run_underlying ht,Zdb hdk hd],rfl,R⟩
 ·rename_i b
  simp only [VR] at hm
  obtain ⟨bb,kk,cc,hb,rfl⟩:=hm
  split at h
  case h_2=>cases h
  rename_i es hs
  obtain ⟨b',k',c',arr,clk,e1,e2,e3,e4,e5,e6,e7⟩:=R.blk _ _ hs
  have hb0:=hb
  rw [hb] at e1
  simp only [Xa,BI.mk.injEq] at e1
  obtain ⟨rfl,rfl,rfl⟩:=e1
  have hg:=Zej (P:=P) e2
  have hlt:bb < w.heap.size:=(Xz.1 e2).1
  split at h
  ·rename_i j y hf
   simp only [Xa,Xb] at h
   obtain ⟨rfl,rfl,rfl⟩:=h
   rcases Zdm hd' hk es arr.toList 0 _ e3 e4 hf with ⟨h1,_⟩ | ⟨j',y',e,p,h1,h2,h3,h4,_⟩
   ·cases h1
   ·simp only [XG] at h1 h2
    injection h1 with h1
    injection h1 with h1 h1'
    subst h1 h1'
    have hr:=Zdp (P:=P) (w:=w) hdk h2
    have el:(arr.eraseIdxIfInBounds j).toList=arr.toList.eraseIdx j:=by simp
    refine ⟨_,?_,rfl,Zgu R hs hb0 (arr':=arr.eraseIdxIfInBounds j) (clk':=clk) ?_ ?_ ?_ ?_ hlt⟩
    ·simp [Builtin.delete_,run_underlying ht,Zdb hdk hd,hg,hr,Zfq e2]
    ·rw [el,Zd7,Zd7];exact Zh8 j e3
    ·rw [el,Zd7,Zd7];exact Zh8 j e4
    ·exact fun q hq=>e5 q (List.mem_of_mem_eraseIdx hq)
    ·refine ⟨fun e he=>?_,?_⟩
     ·rw [el] at he;exact e6 e (List.mem_of_mem_eraseIdx he)
     ·rw [el,Zd7];exact e7.sublist (List.eraseIdx_sublist _ _)
  ·rename_i hf
   simp only [Xa,Xb] at h
   obtain ⟨rfl,rfl,rfl⟩:=h
   rcases Zdm hd' hk es arr.toList 0 _ e3 e4 hf with ⟨_,h2⟩ | ⟨j',y',e,p,h1,_⟩
   ·have hr:=Zdp (P:=P) (w:=w) hdk h2
    refine ⟨_,?_,rfl,Zgu R hs hb0 (arr':=arr) (clk':=clk) e3 e4 e5 ⟨e6,e7⟩ hlt⟩
    simp [Builtin.delete_,run_underlying ht,Zdb hdk hd,hg,hr,Zfq e2]
   ·cases h1
  ·cases h
 ·cases h
theorem Zrq (R:Rel base w0 I0 I β σ w) {t kt et:TypeId} (ht:P.underlying t=some (.map kt et)) {m v:AVal} {vm:Value} {c:Cls} (ty:TypeId) (hm:VR I β m vm) (h:ZdB σ m=some (v,σ',c)):σ'=σ/\∃ u,(Builtin.len_ #[t] ty #[vm]).run P w=.ok u w/\VR I β v u:=by
 unfold ZdB at h
 split at h
 ·simp only [Xa,Xb] at h
  obtain ⟨rfl,rfl,rfl⟩:=h
  simp only [VR] at hm
  subst hm
  exact ⟨rfl,goInt 0,by simp [Builtin.len_,run_underlying ht],by simp [VR,goInt]⟩
 ·rename_i b
  simp only [VR] at hm
  obtain ⟨bb,kk,cc,hb,rfl⟩:=hm
  split at h
  case h_2=>cases h
  rename_i es hs
  simp only [Xa,Xb] at h
  obtain ⟨rfl,rfl,rfl⟩:=h
  obtain ⟨b',k',c',arr,clk,e1,e2,e3,_⟩:=R.blk _ _ hs
  rw [hb] at e1
  simp only [Xa,BI.mk.injEq] at e1
  obtain ⟨rfl,rfl,rfl⟩:=e1
  have hg:=Zej (P:=P) e2
  have hl:es.length=arr.size:=by simpa using Zaa e3
  exact ⟨rfl,goInt arr.size,by simp [Builtin.len_,run_underlying ht,hg],by simp [VR,goInt,hl]⟩
 ·cases h
theorem Zqv (R:Rel base w0 I0 I β σ w) (hb:KLt base w0) (t:TypeId) {sq:Nat} (hs:σ[sq]?=some .free) :
  ∃ u w',(Instr.makeMap t none).run P w=.ok u w'/\Post base w0 I0 I β (.map sq) (σ.set sq (.map [])) u w':=by
 obtain ⟨R',hle⟩:=R.newObj hb hs (.map #[] 0) (.map []) 1 1 (by simp [Zc,Bmap.put_same]) rfl (by simp)
  ⟨_,_,_,#[],0,Bmap.put_same β sq 0 _,by simp,by simp [VRs],by simp [VRs],by simp,by simp [Zgx]⟩
 refine ⟨.map (some w.heap.size),_,run_makeMap t w,Post.mk (Imm.le.refl I) hle R' ?_⟩
 simp only [VR]
 exact ⟨_,_,_,Bmap.put_same β sq 0 _,rfl⟩
end
end
section
open Go.RowKit
section
variable {P:Program} {base:Nat->Prop} {w0 w w':World} {I0 I I':Imm} {β β':Bmap} {σ σ':Za} {tm:Tms}
theorem ZcS {α:Type} {x:Option α} {f:α->AVal×Za×Cls} {y:AVal×Za×Cls} (h:x.map f=some y):∃ a,x=some a/\f a=y:=by simpa [Xf] using h
theorem ZvC {t:TypeId} (hu:P.underlying t=some .bool) (p q:Bool) (x y:Operand):(do eqGuard .eql t x y (.bool p) (.bool q);binOp .eql t (.bool p) (.bool q):Sem Value).run P w=.ok (.bool ((p == q) != false)) w:=by
 have h1:(eqGuard .eql t x y (.bool p) (.bool q)).run P w=.ok () w:=by simp [eqGuard]
 simp only [Sem.run_bind,h1,Result.andThen_ok,run_eql_bool w t p q hu]
 cases p <;> cases q <;> rfl
theorem Zvl {t:TypeId} (hu:P.underlying t=some .bool) (p q:Bool) (x y:Operand):(do eqGuard .neq t x y (.bool p) (.bool q);binOp .neq t (.bool p) (.bool q):Sem Value).run P w=.ok (.bool ((p == q) != true)) w:=by
 have h1:(eqGuard .neq t x y (.bool p) (.bool q)).run P w=.ok () w:=by simp [eqGuard]
 have h2:(binOp .neq t (.bool p) (.bool q)).run P w=.ok (.bool (!(p == q))) w:=by
  simp only [binOp,Sem.run_bind,run_equal_bool w t p q hu,Result.andThen_ok,Sem.run_pure]
 simp only [Sem.run_bind,h1,Result.andThen_ok,h2]
 cases p <;> cases q <;> rfl
theorem ZkB {t e:TypeId} (hu:P.underlying t=some (.pointer e)) (p q:Option Addr) (hpq:p=none\/q=none):(Op.equal t (.pointer p) (.pointer q)).run P w=.ok (p.isNone && q.isNone) w:=by
 show (Op.equalIn (9999+1) t (.pointer p) (.pointer q)).run P w=_
 unfold Op.equalIn
 rw [Sem.run_bind,run_underlying hu]
 simp only [Result.andThen_ok]
 rcases hpq with rfl | rfl
 ·cases q <;> simp
 ·cases p <;> simp
theorem Zh0 {t e:TypeId} (hu:P.underlying t=some (.pointer e)) (p q:Option Addr) (x y:Operand) (hpq:p=none\/q=none):(do eqGuard .eql t x y (.pointer p) (.pointer q);binOp .eql t (.pointer p) (.pointer q):Sem Value).run P w=.ok (.bool ((p.isNone && q.isNone) != false)) w:=by
 have h1:(eqGuard .eql t x y (.pointer p) (.pointer q)).run P w=.ok () w:=by simp [eqGuard]
 simp only [Sem.run_bind,h1,Result.andThen_ok,binOp,ZkB hu p q hpq,Sem.run_pure]
 simp
theorem ZgI {t e:TypeId} (hu:P.underlying t=some (.pointer e)) (p q:Option Addr) (x y:Operand) (hpq:p=none\/q=none):(do eqGuard .neq t x y (.pointer p) (.pointer q);binOp .neq t (.pointer p) (.pointer q):Sem Value).run P w=.ok (.bool ((p.isNone && q.isNone) != true)) w:=by
 have h1:(eqGuard .neq t x y (.pointer p) (.pointer q)).run P w=.ok () w:=by simp [eqGuard]
 simp only [Sem.run_bind,h1,Result.andThen_ok,binOp,ZkB hu p q hpq,Sem.run_pure]
 simp
theorem Zue {t:TypeId} {ms} (hu:P.underlying t=some (.interface ms)) (neg:Bool) {op:BinOp} (x:Operand) (vy:Value) (hop:op=(if neg then .neq else .eql)):(do eqGuard op t x (.const vy) .nilIface .nilIface;binOp op t .nilIface .nilIface:Sem Value).run P w=.ok (.bool (true != neg)) w:=by
 have h1:(eqGuard op t x (.const vy) .nilIface .nilIface).run P w=.ok () w:=by subst hop;cases neg <;> simp [eqGuard]
 have h2:(Op.equal t .nilIface .nilIface).run P w=.ok true w:=by
  show (Op.equalIn (9999+1) t .nilIface .nilIface).run P w=_
  unfold Op.equalIn
  rw [Sem.run_bind,run_underlying hu]
  simp only [Result.andThen_ok]
  rfl
 subst hop
 cases neg
 ·simp only [Xo,if_false] at h1 ⊢
  simp [h1,h2,binOp]
 ·simp only [if_true] at h1 ⊢
  simp [h1,h2,binOp]
theorem ZqJ {t t1:TypeId} {u:Value} {ms} (hu:P.underlying t=some (.interface ms)) (neg:Bool) {op:BinOp} (x:Operand) (vy:Value) (hop:op=(if neg then .neq else .eql)):(do eqGuard op t x (.const vy) (.iface t1 u) .nilIface;binOp op t (.iface t1 u) .nilIface:Sem Value).run P w=.ok (.bool (false != neg)) w:=by
 have h1:(eqGuard op t x (.const vy) (.iface t1 u) .nilIface).run P w=.ok () w:=by subst hop;cases neg <;> simp [eqGuard]
 have h2:(Op.equal t (.iface t1 u) .nilIface).run P w=.ok false w:=by
  show (Op.equalIn (9999+1) t (.iface t1 u) .nilIface).run P w=_
  unfold Op.equalIn
  rw [Sem.run_bind,run_underlying hu]
  simp only [Result.andThen_ok]
  rfl
 subst hop
 cases neg
 ·simp only [Xo,if_false] at h1 ⊢
  simp [h1,h2,binOp]
 ·simp only [if_true] at h1 ⊢
  simp [h1,h2,binOp]
def OpR (P:Program) (s:Sem Next) (w:World) (base:Nat->Prop) (w0:World) (I0 I:Imm) (β:Bmap) (v:AVal) (σ':Za):Prop :=
 OpOk P s w (Post base w0 I0 I β v σ')\/∃ x,v=.pan x/\OpPan P s w (Post base w0 I0 I β x σ')
theorem OpR.of_call {s:Sem Next} {f:FuncId} {args:Array Value} {v:AVal} (h:s.run P w=.ok (.enter f args) w) (hc:Calls P f args w (fun e w'=>∃ u,Ends v e u/\Post base w0 I0 I β (Zaf v) σ' u w')):OpR P s w base w0 I0 I β v σ':=by
 by_cases hp:∃ x,v=.pan x
 ·obtain ⟨x,rfl⟩:=hp
  exact Xv ⟨x,rfl,Xv ⟨f,args,w,h,hc.mono fun e w' ⟨u,h1,h2⟩=>⟨u,h1,h2⟩⟩⟩
 ·have hn:∀ x,v≠.pan x:=fun x e=>hp ⟨x,e⟩
  refine Xn (Xv (Xv ⟨f,args,w,h,hc.mono fun e w' ⟨u,h1,h2⟩=>⟨u,?_,by rw [ZcZ hn] at h2;exact h2⟩⟩))
  cases v <;> first | exact h1 | exact absurd rfl (hn _)
theorem ZtQ {O:Zo} (hO:ZI P O) {bf:Nat->Bool} {an:Ann} {a:Act} {o:Oper} {own:Nat} {ins:Ins} (x:Operand) (ho:o.op=.move x) (hc:Zp P an own (.move x)=some ins) (T:TR I β tm a.tmps) (R:Rel base w0 I0 I β σ w) (hb:KLt base w0)
  {sq:Nat} (hsite:nsite ins≠0->σ[sq]?=some .free) {v:AVal} {c:Cls} (h:execI O bf tm σ sq ins=some (v,σ',c)):OpOk P (execOp a.eval o) w (Post base w0 I0 I β v σ'):=by
 rw [show execOp a.eval o=(pure (.value (a.eval x)):Sem Next) by unfold execOp;rw [ho]]
 simp only [Zp] at hc
 simp only [Xf] at hc
 obtain ⟨y,hy,rfl⟩:=hc
 simp only [execI,Xa,Xb] at h
 obtain ⟨rfl,rfl,rfl⟩:=h
 exact Xn ⟨_,w,rfl,Post.here R (ZD T hy)⟩
theorem ZrS {O:Zo} (hO:ZI P O) {bf:Nat->Bool} {an:Ann} {a:Act} {o:Oper} {own:Nat} {ins:Ins} (x:Operand) (ho:o.op=.assign x) (hc:Zp P an own (.assign x)=some ins) (T:TR I β tm a.tmps) (R:Rel base w0 I0 I β σ w) (hb:KLt base w0)
  {sq:Nat} (hsite:nsite ins≠0->σ[sq]?=some .free) {v:AVal} {c:Cls} (h:execI O bf tm σ sq ins=some (v,σ',c)):OpOk P (execOp a.eval o) w (Post base w0 I0 I β v σ'):=by
 rw [show execOp a.eval o=(pure (.value (a.eval x)):Sem Next) by unfold execOp;rw [ho]]
 simp only [Zp] at hc
 simp only [Xf] at hc
 obtain ⟨y,hy,rfl⟩:=hc
 simp only [execI,Xa,Xb] at h
 obtain ⟨rfl,rfl,rfl⟩:=h
 exact Xn ⟨_,w,rfl,Post.here R (ZD T hy)⟩
theorem ZnJ {O:Zo} (hO:ZI P O) {bf:Nat->Bool} {an:Ann} {a:Act} {o:Oper} {own:Nat} {ins:Ins} (x:Operand) (y:Operand) (z:Operand) (ho:o.op=.pick x y z) (hc:Zp P an own (.pick x y z)=some ins) (T:TR I β tm a.tmps) (R:Rel base w0 I0 I β σ w) (hb:KLt base w0)
  {sq:Nat} (hsite:nsite ins≠0->σ[sq]?=some .free) {v:AVal} {c:Cls} (h:execI O bf tm σ sq ins=some (v,σ',c)):OpOk P (execOp a.eval o) w (Post base w0 I0 I β v σ'):=by
 rw [show execOp a.eval o=(do pure (.value (if <-asBool (a.eval x) then a.eval y else a.eval z)):Sem Next) by unfold execOp;rw [ho]]
 simp only [Zp] at hc
 split at hc
 ·rename_i c' a' b' hx hy hz
  injection hc with hc;subst hc
  have hx':=ZD T hx
  simp only [execI] at h
  unfold Zc0 at h
  split at h
  ·rename_i e
   rw [e] at hx';simp only [VR] at hx'
   simp only [Xa,Xb] at h
   obtain ⟨rfl,rfl,rfl⟩:=h
   exact Xn ⟨_,w,by simp [hx',asBool],Post.here R (ZD T hy)⟩
  ·rename_i e
   rw [e] at hx';simp only [VR] at hx'
   simp only [Xa,Xb] at h
   obtain ⟨rfl,rfl,rfl⟩:=h
   exact Xn ⟨_,w,by simp [hx',asBool],Post.here R (ZD T hz)⟩
  ·cases h
 ·cases hc
theorem Zpb {O:Zo} (hO:ZI P O) {bf:Nat->Bool} {an:Ann} {a:Act} {o:Oper} {own:Nat} {ins:Ins} (e:TypeId) (ho:o.op=.alloc e) (hc:Zp P an own (.alloc e)=some ins) (T:TR I β tm a.tmps) (R:Rel base w0 I0 I β σ w) (hb:KLt base w0)
  {sq:Nat} (hsite:nsite ins≠0->σ[sq]?=some .free) {v:AVal} {c:Cls} (h:execI O bf tm σ sq ins=some (v,σ',c)):OpOk P (execOp a.eval o) w (Post base w0 I0 I β v σ'):=by
 rw [show execOp a.eval o=(do pure (.value (<-Instr.alloc e true (.tuple #[]))):Sem Next) by unfold execOp;rw [ho]]
 simp only [Zp] at hc
 simp only [Xf] at hc
 obtain ⟨z,hz,rfl⟩:=hc
 simp only [execI,Xa,Xb] at h
 obtain ⟨rfl,rfl,rfl⟩:=h
 exact OpOk.val (ZlP R hb hz (hsite (by simp [nsite])))
theorem Zmq {O:Zo} (hO:ZI P O) {bf:Nat->Bool} {an:Ann} {a:Act} {o:Oper} {own:Nat} {ins:Ins} (e:TypeId) (x:Operand) (ho:o.op=.box e x) (hc:Zp P an own (.box e x)=some ins) (T:TR I β tm a.tmps) (R:Rel base w0 I0 I β σ w) (hb:KLt base w0)
  {sq:Nat} (hsite:nsite ins≠0->σ[sq]?=some .free) {v:AVal} {c:Cls} (h:execI O bf tm σ sq ins=some (v,σ',c)):OpOk P (execOp a.eval o) w (Post base w0 I0 I β v σ'):=by
 rw [show execOp a.eval o=(do pure (.value (<-Instr.box e (a.eval x))):Sem Next) by unfold execOp;rw [ho]]
 simp only [Zp] at hc
 simp only [Xf] at hc
 obtain ⟨y,hy,rfl⟩:=hc
 simp only [execI] at h
 split at h
 ·cases h
 ·cases h
 ·cases h
 ·rename_i _ hnt _
  simp only [Xa,Xb] at h
  obtain ⟨rfl,rfl,rfl⟩:=h
  exact OpOk.val (Zll R hb hnt (ZD T hy) (hsite (by simp [nsite])))
theorem ZlB {O:Zo} (hO:ZI P O) {bf:Nat->Bool} {an:Ann} {a:Act} {o:Oper} {own:Nat} {ins:Ins} (t:TypeId) (parts:Array (Nat×Operand)) (ho:o.op=.build t parts) (hc:Zp P an own (.build t parts)=some ins) (T:TR I β tm a.tmps) (R:Rel base w0 I0 I β σ w) (hb:KLt base w0)
  {sq:Nat} (hsite:nsite ins≠0->σ[sq]?=some .free) {v:AVal} {c:Cls} (h:execI O bf tm σ sq ins=some (v,σ',c)):OpOk P (execOp a.eval o) w (Post base w0 I0 I β v σ'):=by
 rw [show execOp a.eval o=(do pure (.value (<-Instr.build t (parts.map fun (i,x)=>(i,a.eval x)))):Sem Next) by unfold execOp;rw [ho]]
 simp only [Zp] at hc
 have hc0:Zp P an own (.build t parts)=some ins:=by simp only [Zp];exact hc
 obtain ⟨zs,ps,rfl⟩:∃ zs ps,ins=.build zs ps:=by
  split at hc
  ·split at hc
   ·simp only [Xf] at hc;obtain ⟨ps,_,rfl⟩:=hc;exact ⟨_,_,rfl⟩
   ·cases hc
  ·split at hc
   ·simp only [Xf] at hc;obtain ⟨ps,_,rfl⟩:=hc;exact ⟨_,_,rfl⟩
   ·cases hc
  ·cases hc
 simp only [execI] at h
 split at h
 ·rename_i cs hf
  simp only [Xa,Xb] at h
  obtain ⟨rfl,rfl,rfl⟩:=h
  obtain ⟨u,h1,h2⟩:=ZuX (w:=w) T hc0 hf
  exact OpOk.val ⟨u,w,h1,Post.here R h2⟩
 ·cases h
theorem Zw6 {O:Zo} (hO:ZI P O) {bf:Nat->Bool} {an:Ann} {a:Act} {o:Oper} {own:Nat} {ins:Ins} (t:TypeId) (n:Nat) (parts:Array (Nat×Operand)) (ho:o.op=.buildSlice t n parts) (hc:Zp P an own (.buildSlice t n parts)=some ins) (T:TR I β tm a.tmps) (R:Rel base w0 I0 I β σ w) (hb:KLt base w0)
  {sq:Nat} (hsite:nsite ins≠0->σ[sq]?=some .free) {v:AVal} {c:Cls} (h:execI O bf tm σ sq ins=some (v,σ',c)):OpOk P (execOp a.eval o) w (Post base w0 I0 I β v σ'):=by
 rw [show execOp a.eval o=(do pure (.value (<-Instr.buildSlice t n (parts.map fun (i,x)=>(i,a.eval x)))):Sem Next) by unfold execOp;rw [ho]]
 simp only [Zp] at hc
 split at hc
 ·rename_i k bytes z he
  split at hc
  ·rename_i hn
   simp only [Xf] at hc
   obtain ⟨ps,hps,rfl⟩:=hc
   split at h
   ·rename_i ho
    exact OpOk.val (Zld T R hb he hn hps (hsite (by rw [if_pos ho];simp [nsite])) h)
   ·rename_i ho
    exact OpOk.val (Zrg T R hb he hn hps (fun ho'=>hsite (by rw [if_neg ho];simp [nsite,ho'])) h)
  ·cases hc
 ·cases hc
theorem Zu2 {O:Zo} (hO:ZI P O) {bf:Nat->Bool} {an:Ann} {a:Act} {o:Oper} {own:Nat} {ins:Ins} (t:TypeId) (x:Operand) (ho:o.op=.load t x) (hc:Zp P an own (.load t x)=some ins) (T:TR I β tm a.tmps) (R:Rel base w0 I0 I β σ w) (hb:KLt base w0)
  {sq:Nat} (hsite:nsite ins≠0->σ[sq]?=some .free) {v:AVal} {c:Cls} (h:execI O bf tm σ sq ins=some (v,σ',c)):OpOk P (execOp a.eval o) w (Post base w0 I0 I β v σ'):=by
 rw [show execOp a.eval o=(do pure (.value (<-Instr.loadAt t (a.eval x))):Sem Next) by unfold execOp;rw [ho]]
 simp only [Zp] at hc
 split at hc
 ·rename_i k y hk hy
  injection hc with hc;subst hc
  simp only [execI] at h
  obtain ⟨u,h1,h2,rfl⟩:=Zk0 hk R (ZD T hy) h
  exact OpOk.val ⟨u,w,h1,Post.here R h2⟩
 ·cases hc
theorem ZuK {O:Zo} (hO:ZI P O) {bf:Nat->Bool} {an:Ann} {a:Act} {o:Oper} {own:Nat} {ins:Ins} (t:TypeId) (x:Operand) (y:Operand) (ho:o.op=.store t x y) (hc:Zp P an own (.store t x y)=some ins) (T:TR I β tm a.tmps) (R:Rel base w0 I0 I β σ w) (hb:KLt base w0)
  {sq:Nat} (hsite:nsite ins≠0->σ[sq]?=some .free) {v:AVal} {c:Cls} (h:execI O bf tm σ sq ins=some (v,σ',c)):OpOk P (execOp a.eval o) w (Post base w0 I0 I β v σ'):=by
 rw [show execOp a.eval o=(do Instr.storeAt t (a.eval x) (a.eval y);pure .skip:Sem Next) by unfold execOp;rw [ho]]
 simp only [Zp] at hc
 split at hc
 ·rename_i k x' y' hk hx hy
  injection hc with hc;subst hc
  simp only [execI] at h
  exact OpOk.unit (ZrZ hk R (ZD T hx) (ZD T hy) h)
 ·cases hc
theorem ZmG {O:Zo} (hO:ZI P O) {bf:Nat->Bool} {an:Ann} {a:Act} {o:Oper} {own:Nat} {ins:Ins} (x:Operand) (ho:o.op=.nilCheck x) (hc:Zp P an own (.nilCheck x)=some ins) (T:TR I β tm a.tmps) (R:Rel base w0 I0 I β σ w) (hb:KLt base w0)
  {sq:Nat} (hsite:nsite ins≠0->σ[sq]?=some .free) {v:AVal} {c:Cls} (h:execI O bf tm σ sq ins=some (v,σ',c)):OpOk P (execOp a.eval o) w (Post base w0 I0 I β v σ'):=by
 simp only [Zp] at hc
 simp only [Xf] at hc
 obtain ⟨y,hy,rfl⟩:=hc
 have hx:=ZD T hy
 have key:∀ ad,a.eval x=.pointer (some ad)->execOp a.eval o=pure (.value (a.eval x)):=by
  intro ad e
  unfold execOp
  rw [ho]
  simp only [e]
 simp only [execI] at h
 split at h
 ·rename_i t' o' e
  simp only [Xa,Xb] at h
  obtain ⟨rfl,rfl,rfl⟩:=h
  rw [e] at hx
  have hx':=hx
  simp only [VR] at hx'
  obtain ⟨b,k,c',_,hp⟩:=hx'
  rw [key _ hp]
  exact Xn ⟨a.eval x,w,rfl,Post.here R hx⟩
 ·rename_i t' g' i' o' e
  simp only [Xa,Xb] at h
  obtain ⟨rfl,rfl,rfl⟩:=h
  rw [e] at hx
  have hx':=hx
  simp only [VR] at hx'
  obtain ⟨b,k,c',_,hp⟩:=hx'
  rw [key _ hp]
  exact Xn ⟨a.eval x,w,rfl,Post.here R hx⟩
 ·rename_i cs o' e
  simp only [Xa,Xb] at h
  obtain ⟨rfl,rfl,rfl⟩:=h
  rw [e] at hx
  have hx':=hx
  simp only [VR] at hx'
  obtain ⟨b,off,hp,_⟩:=hx'
  rw [key _ hp]
  exact Xn ⟨a.eval x,w,rfl,Post.here R hx⟩
 ·cases h
theorem Zpj {O : Zo} (hO : ZI P O) {bf : Nat -> Bool} {an : Ann} {a : Act} {o : Oper} {own : Nat} {ins : Ins} (op : BinOp) (t : TypeId) (x : Operand) (y : Operand) (yt : TypeId) (ho : o.op = .binOp op t x y yt) (hc : Zp P an own (.binOp op t x y yt) = some ins) (T : TR I β tm a.tmps) (R : Rel base w0 I0 I β σ w) (hb : KLt base w0)
    {sq : Nat} (hsite : nsite ins ≠ 0 -> σ[sq]? = some .free) {v : AVal} {c : Cls} (h : execI O bf tm σ sq ins = some (v, σ', c)) : OpOk P (execOp a.eval o) w (Post base w0 I0 I β v σ') := by
  rw [show execOp a.eval o = (do pure (.value (<- (do eqGuard op t x y (a.eval x) (a.eval y); binOp op t (a.eval x) (a.eval y)))) : Sem Next) by unfold execOp; rw [ho]]
  simp only [Zp] at hc
  split at hc
  . rename_i x' y' hx hy
    have hx' := ZD T hx
    have hy' := ZD T hy
    unfold Ziv at hc
    split at hc
    . injection hc with hc; subst hc
      simp only [execI] at h
      obtain ⟨r, hr, he⟩ := ZcS h
      simp only [Xb] at he
      obtain ⟨rfl, rfl, rfl⟩ := he
      obtain ⟨u, h1, h2⟩ := Zki (P := P) (w := w) (t := t) x y hx' hy' hr
      exact OpOk.val ⟨u, w, h1, Post.here R h2⟩
    . injection hc with hc; subst hc
      simp only [execI] at h
      obtain ⟨r, hr, he⟩ := ZcS h
      simp only [Xb] at he
      obtain ⟨rfl, rfl, rfl⟩ := he
      obtain ⟨u, h1, h2⟩ := Zki (P := P) (w := w) (t := t) x y hx' hy' hr
      exact OpOk.val ⟨u, w, h1, Post.here R h2⟩
    . rename_i hu
      split at hc
      all_goals first
        | (cases hc; done)
        | (injection hc with hc; subst hc
           simp only [execI] at h
           split at h
           . rename_i p q e1 e2
             rw [e1] at hx'; rw [e2] at hy'
             simp only [VR] at hx' hy'
             simp only [Xa, Xb] at h
             obtain ⟨rfl, rfl, rfl⟩ := h
             refine OpOk.val ⟨_, w, ?_, Post.here R (by simp only [VR]; rfl)⟩
             rw [hx', hy']
             first | exact ZvC hu p q x y | exact Zvl hu p q x y
           . cases h)
    . rename_i elem hu
      split at hc
      all_goals first
        | (cases hc; done)
        | (injection hc with hc; subst hc
           simp only [execI] at h
           split at h
           . rename_i e1 e2
             rw [e1] at hx'; rw [e2] at hy'
             simp only [VR] at hx' hy'
             simp only [Xa, Xb] at h
             obtain ⟨rfl, rfl, rfl⟩ := h
             refine OpOk.val ⟨_, w, ?_, Post.here R (by simp only [VR]; rfl)⟩
             rw [hx', hy']
             first | exact Zh0 hu _ _ x y (by simp) | exact ZgI hu _ _ x y (by simp)
           . rename_i t1 o1 e1 e2
             rw [e1] at hx'; rw [e2] at hy'
             simp only [VR] at hx' hy'
             obtain ⟨b, k, c', _, hy'⟩ := hy'
             simp only [Xa, Xb] at h
             obtain ⟨rfl, rfl, rfl⟩ := h
             refine OpOk.val ⟨_, w, ?_, Post.here R (by simp only [VR]; rfl)⟩
             rw [hx', hy']
             first | exact Zh0 hu _ _ x y (by simp) | exact ZgI hu _ _ x y (by simp)
           . rename_i t1 o1 e1 e2
             rw [e1] at hx'; rw [e2] at hy'
             simp only [VR] at hx' hy'
             obtain ⟨b, k, c', _, hx'⟩ := hx'
             simp only [Xa, Xb] at h
             obtain ⟨rfl, rfl, rfl⟩ := h
             refine OpOk.val ⟨_, w, ?_, Post.here R (by simp only [VR]; rfl)⟩
             rw [hx', hy']
             first | exact Zh0 hu _ _ x y (by simp) | exact ZgI hu _ _ x y (by simp)
           . cases h)
    . rename_i fs hu
      split at hc
      case isFalse => cases hc
      rename_i hfl
      have fin : ∀ (neg : Bool), op = (if neg then .neq else .eql) -> execI O bf tm σ sq (.eqv neg (fs.toList.map fun f => (ZcW P f.type).getD 3) x' y') = some (v, σ', c) -> OpOk P (do pure (.value (<- (do eqGuard op t x y (a.eval x) (a.eval y); binOp op t (a.eval x) (a.eval y))))) w (Post base w0 I0 I β v σ') := by
        intro neg hop h
        simp only [execI] at h
        split at h
        . rename_i xs ys e1 e2
          rw [e1] at hx'; rw [e2] at hy'
          simp only [VR] at hx' hy'
          obtain ⟨us, hx1, hx2⟩ := hx'
          obtain ⟨vs, hy1, hy2⟩ := hy'
          split at h
          case isFalse => cases h
          rename_i hk
          split at h
          . rename_i b hb'
            simp only [Xa, Xb] at h
            obtain ⟨rfl, rfl, rfl⟩ := h
            refine OpOk.val ⟨_, w, ?_, Post.here R (by simp only [VR]; rfl)⟩
            rw [hx1, hy1]
            exact ZtK hu hfl hx2 hy2 (ZiD hk) hb' neg hop x y
          . cases h
        . cases h
      split at hc
      . injection hc with hc; subst hc; exact fin false rfl h
      . injection hc with hc; subst hc; exact fin true rfl h
      . cases hc
    . rename_i ms hu
      have fin : ∀ (neg : Bool), y' = .c .nili -> op = (if neg then .neq else .eql) -> execI O bf tm σ sq (.ieq neg x' y') = some (v, σ', c) -> OpOk P (do pure (.value (<- (do eqGuard op t x y (a.eval x) (a.eval y); binOp op t (a.eval x) (a.eval y))))) w (Post base w0 I0 I β v σ') := by
        intro neg hy0 hop h
        subst hy0
        obtain ⟨vy, rfl⟩ : ∃ vy, y = .const vy := by
          cases y with
          | const vy => exact ⟨vy, rfl⟩
          | tmp t => simp [ZB] at hy
          | func f => simp only [ZB] at hy; split at hy <;> simp at hy
          | global g => simp [ZB] at hy
        simp only [Opd.ev, VR] at hy'
        have hms : P.underlying t = some (.interface ms) := hu
        simp only [execI] at h
        rw [show (Opd.c AVal.nili).ev tm = .nili from rfl] at h
        split at h
        . rename_i e1 e2
          rw [e1] at hx'
          simp only [VR] at hx'
          simp only [Xa, Xb] at h
          obtain ⟨rfl, rfl, rfl⟩ := h
          refine OpOk.val ⟨_, w, ?_, Post.here R (by simp only [VR]; rfl)⟩
          rw [hx', hy']
          exact Zue hms neg x vy hop
        . rename_i e2; cases e2
        . rename_i t1 x1 e1 e2
          rw [e1] at hx'
          simp only [VR] at hx'
          obtain ⟨u, hx', _⟩ := hx'
          simp only [Xa, Xb] at h
          obtain ⟨rfl, rfl, rfl⟩ := h
          refine OpOk.val ⟨_, w, ?_, Post.here R (by simp only [VR]; rfl)⟩
          rw [hx', hy']
          exact ZqJ hms neg x vy hop
        . cases h
      split at hc
      . injection hc with hc; subst hc; exact fin false rfl rfl h
      . injection hc with hc; subst hc; exact fin true rfl rfl h
      . cases hc
    . cases hc
  . cases hc
theorem Zty {O:Zo} (hO:ZI P O) {bf:Nat->Bool} {an:Ann} {a:Act} {o:Oper} {own:Nat} {ins:Ins} (op:UnOp) (t:TypeId) (x:Operand) (ho:o.op=.unOp op t x) (hc:Zp P an own (.unOp op t x)=some ins) (T:TR I β tm a.tmps) (R:Rel base w0 I0 I β σ w) (hb:KLt base w0)
  {sq:Nat} (hsite:nsite ins≠0->σ[sq]?=some .free) {v:AVal} {c:Cls} (h:execI O bf tm σ sq ins=some (v,σ',c)):OpOk P (execOp a.eval o) w (Post base w0 I0 I β v σ'):=by
 rw [show execOp a.eval o=(do pure (.value (<-Op.unary op (a.eval x))):Sem Next) by unfold execOp;rw [ho]]
 simp only [Zp] at hc
 simp only [Xf] at hc
 obtain ⟨y,hy,rfl⟩:=hc
 simp only [execI] at h
 obtain ⟨r,hr,he⟩:=ZcS h
 simp only [Xb] at he
 obtain ⟨rfl,rfl,rfl⟩:=he
 obtain ⟨u,h1,h2⟩:=Zvx (P:=P) (w:=w) (ZD T hy) hr
 exact OpOk.val ⟨u,w,h1,Post.here R h2⟩
theorem Zq2 {O:Zo} (hO:ZI P O) {bf:Nat->Bool} {an:Ann} {a:Act} {o:Oper} {own:Nat} {ins:Ins} (src:TypeId) (dst:TypeId) (x:Operand) (ho:o.op=.convert src dst x) (hc:Zp P an own (.convert src dst x)=some ins) (T:TR I β tm a.tmps) (R:Rel base w0 I0 I β σ w) (hb:KLt base w0)
  {sq:Nat} (hsite:nsite ins≠0->σ[sq]?=some .free) {v:AVal} {c:Cls} (h:execI O bf tm σ sq ins=some (v,σ',c)):OpOk P (execOp a.eval o) w (Post base w0 I0 I β v σ'):=by
 rw [show execOp a.eval o=(do pure (.value (<-convert src dst (a.eval x))):Sem Next) by unfold execOp;rw [ho]]
 simp only [Zp] at hc
 split at hc
 ·rename_i y hy
  have hx:=ZD T hy
  unfold Zkk at hc
  split at hc
  ·rename_i k1 k2 hs hd
   injection hc with hc;subst hc
   simp only [execI] at h
   split at h
   ·rename_i k n e
    rw [e] at hx;simp only [VR] at hx
    simp only [Xa,Xb] at h
    obtain ⟨rfl,rfl,rfl⟩:=h
    refine OpOk.val ⟨.int k2 (k2.wrap n),w,?_,Post.here R (by simp only [VR])⟩
    rw [hx]
    simp [convert,run_underlying hs,run_underlying hd,Conv.intToInt]
   ·cases h
  ·rename_i hs hd
   injection hc with hc;subst hc
   simp only [execI] at h
   split at h
   ·rename_i k n e
    rw [e] at hx;simp only [VR] at hx
    simp only [Xa,Xb] at h
    obtain ⟨rfl,rfl,rfl⟩:=h
    refine OpOk.val ⟨.string (Utf8.encode n),w,?_,Post.here R ?_⟩
    ·rw [hx]
     simp [convert,run_underlying hs,run_underlying hd,Conv.intToString]
    ·simp only [VR]
     refine ⟨by simp,?_⟩
     unfold Utf8.encode
     simp only
     repeat' split
     all_goals simp
   ·cases h
  ·rename_i hs hd
   injection hc with hc;subst hc
   simp only [execI] at h
   split at h
   ·rename_i l e
    rw [e] at hx
    have hx':=hx
    simp only [VR] at hx'
    simp only [Xa,Xb] at h
    obtain ⟨rfl,rfl,rfl⟩:=h
    refine OpOk.val ⟨_,w,?_,Post.here R hx⟩
    rw [hx'.1]
    simp [convert,run_underlying hs,run_underlying hd]
   ·cases h
  ·rename_i e hs hd
   split at hc
   ·rename_i he
    injection hc with hc;subst hc
    simp only [execI] at h
    split at h
    ·rename_i l e'
     rw [e'] at hx
     simp only [VR] at hx
     simp only [Xa,Xb] at h
     obtain ⟨rfl,rfl,rfl⟩:=h
     rw [hx.1]
     exact OpOk.val (Znj hs hd he R hb hx.2)
    ·cases h
   ·cases hc
  ·rename_i e1 e hs hd
   split at hc
   ·rename_i hsd
    subst hsd
    split at hc
    ·rename_i he
     injection hc with hc;subst hc
     simp only [execI] at h
     split at h
     ·rename_i t' g n ev
      rw [ev] at hx
      split at h
      ·rename_i g' k xs hrow
       split at h
       ·rename_i hcond
        obtain ⟨rfl,hn,h0⟩:=hcond
        simp only [Xa,Xb] at h
        obtain ⟨rfl,rfl,rfl⟩:=h
        obtain ⟨w1,h1,h2⟩:=Zk8 hd he R hrow hn h0 hx
        exact OpOk.val ⟨_,w1,h1,h2⟩
       ·cases h
      ·cases h
     ·cases h
    ·cases hc
   ·cases hc
  ·rename_i e hs hd
   split at hc
   ·rename_i he
    injection hc with hc;subst hc
    simp only [execI] at h
    split at h
    ·rename_i xs ts hel
     split at h
     ·rename_i l hl
      simp only [Xa,Xb] at h
      obtain ⟨rfl,rfl,rfl⟩:=h
      by_cases hst:∃ l',y.ev tm=.str l'
      ·obtain ⟨l',e'⟩:=hst
       rw [e'] at hel hx
       simp only [Zk,Xa,Xb] at hel
       obtain ⟨rfl,rfl⟩:=hel
       simp only [VR] at hx
       have hll:l=l':=by
        obtain ⟨ns,e1,e2⟩:=Zg2 hl
        subst e2
        have : l'.map Zbe=ns.map (AVal.int .u8):=e1
        apply List.ext_getElem?
        intro j
        have hj:=congrArg (fun q:List AVal=>q[j]?) this
        simp only [List.getElem?_map] at hj ⊢
        cases h1:l'[j]? <;> cases h2:ns[j]? <;> simp_all [Zbe]
        rename_i b n
        rw [<-hj];simp
       subst hll
       refine OpOk.val ⟨.string ⟨l.toArray⟩,w,?_,Post.here R (by simp only [VR];exact ⟨trivial,hx.2⟩)⟩
       rw [hx.1]
       simp [convert,run_underlying hs,run_underlying hd]
      ·have hrd:=Zg0 R (fun l' e'=>hst ⟨l',e'⟩) hel hx
       obtain ⟨h1,h2⟩:=ZrM (P:=P) hs he hd hrd hl
       exact OpOk.val ⟨_,w,h1,Post.here R (by simp only [VR];exact ⟨trivial,h2⟩)⟩
     ·cases h
    ·cases h
   ·cases hc
  ·cases hc
 ·cases hc
theorem Zxg {O:Zo} (hO:ZI P O) {bf:Nat->Bool} {an:Ann} {a:Act} {o:Oper} {own:Nat} {ins:Ins} (t:TypeId) (x:Operand) (lo:Option Operand) (hi:Option Operand) (mx:Option Operand) (ho:o.op=.slice t x lo hi mx) (hc:Zp P an own (.slice t x lo hi mx)=some ins) (T:TR I β tm a.tmps) (R:Rel base w0 I0 I β σ w) (hb:KLt base w0)
  {sq:Nat} (hsite:nsite ins≠0->σ[sq]?=some .free) {v:AVal} {c:Cls} (h:execI O bf tm σ sq ins=some (v,σ',c)):OpOk P (execOp a.eval o) w (Post base w0 I0 I β v σ'):=by
 rw [show execOp a.eval o=(do pure (.value (<-Instr.sliceAt t (a.eval x) (lo.map a.eval) (hi.map a.eval) (mx.map a.eval))):Sem Next) by unfold execOp;rw [ho]]
 simp only [Zp] at hc
 split at hc
 ·rename_i x' lo' hi' mx' hx hlo hhi hmx
  split at hc
  ·rename_i hu
   split at hc
   ·injection hc with hc;subst hc
    have hmx0:mx=none:=by cases mx <;> simp_all [Zdz]
    subst hmx0
    have hx':=ZD T hx
    simp only [execI] at h
    split at h
    ·rename_i s e
     rw [e] at hx';simp only [VR] at hx'
     split at h
     ·cases h
     rename_i hh h1
     split at h
     ·cases h
     rename_i ll h2
     simp only [Xa,Xb] at h
     obtain ⟨rfl,rfl,rfl⟩:=h
     refine OpOk.val ⟨_,w,?_,Post.here R (by simp only [VR];exact ⟨rfl,by simp;omega⟩)⟩
     rw [hx'.1]
     exact Znx hu hx'.2 (Zeo T hlo) (Zeo T hhi) h1 h2
    ·cases h
   ·cases hc
  ·rename_i e hu
   split at hc
   ·rename_i k hk
    split at hc
    ·split at hc
     ·cases hc
     ·rename_i hnn
      injection hc with hc;subst hc
      simp only [execI] at h
      obtain ⟨u,h1,h2⟩:=Zmv hu hk R (ZD T hx) (Zeo T hlo) (Zeo T hhi) (Zeo T hmx) (by
       intro e'
       cases hi' with
       | some _=>simp at e'
       | none=>cases mx' with
        | none=>rfl
        | some q=>exact absurd rfl (hnn q rfl)) h
      exact OpOk.val ⟨u,w,h1,h2⟩
    ·cases hc
   ·cases hc
  ·cases hc
 ·cases hc
theorem ZmV {O:Zo} (hO:ZI P O) {bf:Nat->Bool} {an:Ann} {a:Act} {o:Oper} {own:Nat} {ins:Ins} (s:TypeId) (x:Operand) (i:Nat) (ho:o.op=.fieldAddr s x i) (hc:Zp P an own (.fieldAddr s x i)=some ins) (T:TR I β tm a.tmps) (R:Rel base w0 I0 I β σ w) (hb:KLt base w0)
  {sq:Nat} (hsite:nsite ins≠0->σ[sq]?=some .free) {v:AVal} {c:Cls} (h:execI O bf tm σ sq ins=some (v,σ',c)):OpOk P (execOp a.eval o) w (Post base w0 I0 I β v σ'):=by
 rw [show execOp a.eval o=(do pure (.value (<-Instr.fieldAt s (a.eval x) i)):Sem Next) by unfold execOp;rw [ho]]
 simp only [Zp] at hc
 split at hc
 ·rename_i fields x' hs hx
  split at hc
  ·rename_i f hf
   split at hc
   ·rename_i k hk
    split at hc
    ·cases hc
    ·rename_i hk0
     injection hc with hc;subst hc
     simp only [execI] at h
     obtain ⟨r,hr,he⟩:=ZcS h
     simp only [Xb] at he
     obtain ⟨rfl,rfl,rfl⟩:=he
     obtain ⟨u,h1,h2⟩:=ZvP (w:=w) hs hf hk hk0 (ZD T hx) hr
     exact OpOk.val ⟨u,w,h1,Post.here R h2⟩
   ·cases hc
  ·cases hc
 ·cases hc
theorem ZpZ {O:Zo} (hO:ZI P O) {bf:Nat->Bool} {an:Ann} {a:Act} {o:Oper} {own:Nat} {ins:Ins} (s:TypeId) (x:Operand) (i:Nat) (ho:o.op=.field s x i) (hc:Zp P an own (.field s x i)=some ins) (T:TR I β tm a.tmps) (R:Rel base w0 I0 I β σ w) (hb:KLt base w0)
  {sq:Nat} (hsite:nsite ins≠0->σ[sq]?=some .free) {v:AVal} {c:Cls} (h:execI O bf tm σ sq ins=some (v,σ',c)):OpOk P (execOp a.eval o) w (Post base w0 I0 I β v σ'):=by
 rw [show execOp a.eval o=(do pure (.value (<-Instr.field s (a.eval x) i)):Sem Next) by unfold execOp;rw [ho]]
 simp only [Zp] at hc
 split at hc
 ·rename_i fields x' hs hx
  split at hc
  ·rename_i f hf
   simp only [Xf] at hc
   obtain ⟨k,hk,rfl⟩:=hc
   have hx':=ZD T hx
   simp only [execI] at h
   split at h
   ·rename_i cs e
    rw [e] at hx';simp only [VR] at hx'
    obtain ⟨us,hus,hv⟩:=hx'
    obtain ⟨r,hr,he⟩:=ZcS h
    simp only [Xb] at he
    obtain ⟨rfl,rfl,rfl⟩:=he
    obtain ⟨u,h1,h2⟩:=Zj1 (P:=P) (w:=w) hk hv hr
    refine OpOk.val ⟨u,w,?_,Post.here R h2⟩
    rw [hus]
    simp [Instr.field,run_underlying hs,hf,asAgg,h1]
   ·cases h
  ·cases hc
 ·cases hc
theorem ZpX {O:Zo} (hO:ZI P O) {bf:Nat->Bool} {an:Ann} {a:Act} {o:Oper} {own:Nat} {ins:Ins} (t:TypeId) (x:Operand) (i:Operand) (ho:o.op=.indexAddr t x i) (hc:Zp P an own (.indexAddr t x i)=some ins) (T:TR I β tm a.tmps) (R:Rel base w0 I0 I β σ w) (hb:KLt base w0)
  {sq:Nat} (hsite:nsite ins≠0->σ[sq]?=some .free) {v:AVal} {c:Cls} (h:execI O bf tm σ sq ins=some (v,σ',c)):OpOk P (execOp a.eval o) w (Post base w0 I0 I β v σ'):=by
 rw [show execOp a.eval o=(do pure (.value (<-Instr.indexAt t (a.eval x) (a.eval i))):Sem Next) by unfold execOp;rw [ho]]
 simp only [Zp] at hc
 split at hc
 ·rename_i e x' i' hu hx hi
  simp only [Xf] at hc
  obtain ⟨k,hk,rfl⟩:=hc
  simp only [execI] at h
  obtain ⟨u,h1,h2,rfl⟩:=Zuc hu hk R (ZD T hx) (ZD T hi) h
  exact OpOk.val ⟨u,w,h1,Post.here R h2⟩
 ·rename_i n e x' i' hu hx hi
  simp only [Xf] at hc
  obtain ⟨k,hk,rfl⟩:=hc
  have hi':=ZD T hi
  simp only [execI] at h
  split at h
  ·rename_i kk ii e'
   rw [e'] at hi';simp only [VR] at hi'
   split at h
   ·rename_i hb'
    obtain ⟨r,hr,he⟩:=ZcS h
    simp only [Xb] at he
    obtain ⟨rfl,rfl,rfl⟩:=he
    obtain ⟨u,h1,h2⟩:=ZqY (P:=P) (w:=w) (kk:=kk) hu hk (ZD T hx) hb'.1 hb'.2 hr
    exact OpOk.val ⟨u,w,by rw [hi'];exact h1,Post.here R h2⟩
   ·cases h
  ·cases h
 ·cases hc
theorem Zln {O:Zo} (hO:ZI P O) {bf:Nat->Bool} {an:Ann} {a:Act} {o:Oper} {own:Nat} {ins:Ins} (t:TypeId) (x:Operand) (i:Operand) (ho:o.op=.index t x i) (hc:Zp P an own (.index t x i)=some ins) (T:TR I β tm a.tmps) (R:Rel base w0 I0 I β σ w) (hb:KLt base w0)
  {sq:Nat} (hsite:nsite ins≠0->σ[sq]?=some .free) {v:AVal} {c:Cls} (h:execI O bf tm σ sq ins=some (v,σ',c)):OpOk P (execOp a.eval o) w (Post base w0 I0 I β v σ'):=by
 rw [show execOp a.eval o=(do pure (.value (<-Instr.index t (a.eval x) (a.eval i))):Sem Next) by unfold execOp;rw [ho]]
 simp only [Zp] at hc
 split at hc
 ·rename_i x' i' hu hx hi
  injection hc with hc;subst hc
  have hx':=ZD T hx
  have hi':=ZD T hi
  simp only [execI] at h
  split at h
  ·rename_i s kk ii e1 e2
   rw [e1] at hx';rw [e2] at hi'
   simp only [VR] at hx' hi'
   split at h
   ·rename_i h0
    simp only [Xf] at h
    obtain ⟨b,hbb,he⟩:=h
    simp only [Xb] at he
    obtain ⟨rfl,rfl,rfl⟩:=he
    refine OpOk.val ⟨.int .u8 b.toNat,w,?_,Post.here R (by simp only [Zbe,VR])⟩
    rw [hx'.1,hi']
    have hg:(⟨s.toArray⟩:ByteArray)[ii.toNat]?=some b:=by
     have hlt:=(Xe.1 hbb).1
     have : ii.toNat < Wd ⟨s.toArray⟩:=by simpa [Wd] using hlt
     rw [getElem?_pos (⟨s.toArray⟩:ByteArray) ii.toNat this]
     have:=(Xe.1 hbb).2
     rw [<-this]
     rfl
    simp [Instr.index,asIntOf,run_underlying hu,h0,hg]
   ·cases h
  ·cases h
 ·rename_i n e x' i' hu hx hi
  split at hc
  ·rename_i s k hk hk2
   injection hc with hc;subst hc
   have hx':=ZD T hx
   have hi':=ZD T hi
   simp only [execI] at h
   split at h
   ·rename_i cs kk ii e1 e2
    rw [e1] at hx';rw [e2] at hi'
    simp only [VR] at hx' hi'
    obtain ⟨us,hus,hv⟩:=hx'
    split at h
    ·rename_i hb'
     obtain ⟨r,hr,he⟩:=ZcS h
     simp only [Xb] at he
     obtain ⟨rfl,rfl,rfl⟩:=he
     obtain ⟨u,h1,h2⟩:=Zj1 (P:=P) (w:=w) hk hv hr
     obtain ⟨ie,hie,hke⟩:∃ ie,P.info? e=some ie/\ie.size=k:=by
      unfold ZaD at hk2
      cases hi:P.info? e with
      | none=>simp [hi] at hk2
      | some i=>exact ⟨i,rfl,by simpa [hi] using hk2⟩
     refine OpOk.val ⟨u,w,?_,Post.here R h2⟩
     rw [hus,hi']
     simp [Instr.index,asIntOf,run_underlying hu,hb'.1,hb'.2,sizeOf,typeInfo,hie,hke,h1]
    ·cases h
   ·cases h
  ·cases hc
 ·cases hc
theorem ZqG {O:Zo} (hO:ZI P O) {bf:Nat->Bool} {an:Ann} {a:Act} {o:Oper} {own:Nat} {ins:Ins} (x:Operand) (i:Nat) (ho:o.op=.extract x i) (hc:Zp P an own (.extract x i)=some ins) (T:TR I β tm a.tmps) (R:Rel base w0 I0 I β σ w) (hb:KLt base w0)
  {sq:Nat} (hsite:nsite ins≠0->σ[sq]?=some .free) {v:AVal} {c:Cls} (h:execI O bf tm σ sq ins=some (v,σ',c)):OpOk P (execOp a.eval o) w (Post base w0 I0 I β v σ'):=by
 rw [show execOp a.eval o=(do pure (.value (<-Instr.extract (a.eval x) i)):Sem Next) by unfold execOp;rw [ho]]
 simp only [Zp] at hc
 simp only [Xf] at hc
 obtain ⟨y,hy,rfl⟩:=hc
 have hx:=ZD T hy
 simp only [execI] at h
 split at h
 ·rename_i vs e
  rw [e] at hx;simp only [VR] at hx
  obtain ⟨us,hus,hv⟩:=hx
  obtain ⟨r,hr,he⟩:=ZcS h
  simp only [Xb] at he
  obtain ⟨rfl,rfl,rfl⟩:=he
  obtain ⟨u,h1,h2⟩:=Za9 hv hr
  have h1':us[i]?=some u:=by simpa using h1
  exact OpOk.val ⟨u,w,by rw [hus];simp [Instr.extract,h1'],Post.here R h2⟩
 ·cases h
theorem Zpt {O:Zo} (hO:ZI P O) {bf:Nat->Bool} {an:Ann} {a:Act} {o:Oper} {own:Nat} {ins:Ins} (t:TypeId) (l:Operand) (c':Operand) (ho:o.op=.makeSlice t l c') (hc:Zp P an own (.makeSlice t l c')=some ins) (T:TR I β tm a.tmps) (R:Rel base w0 I0 I β σ w) (hb:KLt base w0)
  {sq:Nat} (hsite:nsite ins≠0->σ[sq]?=some .free) {v:AVal} {c:Cls} (h:execI O bf tm σ sq ins=some (v,σ',c)):OpOk P (execOp a.eval o) w (Post base w0 I0 I β v σ'):=by
 rw [show execOp a.eval o=(do pure (.value (<-Instr.makeSlice t (a.eval l) (a.eval c'))):Sem Next) by unfold execOp;rw [ho]]
 simp only [Zp] at hc
 split at hc
 ·rename_i k bytes z l' c'' he hl hc'
  injection hc with hc;subst hc
  have hl':=ZD T hl
  have hc'':=ZD T hc'
  simp only [execI] at h
  split at h
  ·rename_i li ci e1 e2
   rw [e1] at hl';rw [e2] at hc''
   simp only [VR] at hl' hc''
   split at h
   ·rename_i hcond
    simp only [Xa,Xb] at h
    obtain ⟨rfl,rfl,rfl⟩:=h
    rw [hl',hc'']
    exact OpOk.val (Zlp R hb he hcond.1 hcond.2.1 hcond.2.2.1 hcond.2.2.2.1 (hsite (by simp [nsite])))
   ·cases h
  ·cases h
 ·cases hc
theorem Zxq {O:Zo} (hO:ZI P O) {bf:Nat->Bool} {an:Ann} {a:Act} {o:Oper} {own:Nat} {ins:Ins} (fn:Fn) (first:Array Operand) (captured:Array Operand) (ho:o.op=.makeFunc fn first captured) (hc:Zp P an own (.makeFunc fn first captured)=some ins) (T:TR I β tm a.tmps) (R:Rel base w0 I0 I β σ w) (hb:KLt base w0)
  {sq:Nat} (hsite:nsite ins≠0->σ[sq]?=some .free) {v:AVal} {c:Cls} (h:execI O bf tm σ sq ins=some (v,σ',c)):OpOk P (execOp a.eval o) w (Post base w0 I0 I β v σ'):=by
 rw [show execOp a.eval o=(do pure (.value (<-Instr.makeFunc fn (first.map a.eval) (captured.map a.eval))):Sem Next) by unfold execOp;rw [ho]]
 simp only [Zp] at hc
 cases fn <;> simp only at hc <;> try (cases hc;done)
 rename_i f
 split at hc
 case isFalse=>cases hc
 rename_i hlt
 split at hc
 ·rename_i hf
  simp only [Xf] at hc
  obtain ⟨caps,hcaps,rfl⟩:=hc
  simp only [execI,Xa,Xb] at h
  obtain ⟨rfl,rfl,rfl⟩:=h
  have hfe:first=#[]:=by simpa using hf
  subst hfe
  refine OpOk.val ⟨.func (.func f) #[] (captured.map a.eval),w,by simp [Instr.makeFunc],Post.here R ?_⟩
  simp only [VR,if_pos hlt]
  exact ⟨_,_,rfl,rfl,by simpa using Zfu T hcaps⟩
 ·split at hc
  case isFalse=>cases hc
  rename_i hf
  simp only [Xf] at hc
  obtain ⟨caps,hcaps,rfl⟩:=hc
  simp only [execI,Xa,Xb] at h
  obtain ⟨rfl,rfl,rfl⟩:=h
  have hfe:captured=#[]:=by simpa using hf
  subst hfe
  refine OpOk.val ⟨.func (.func f) (first.map a.eval) #[],w,by simp [Instr.makeFunc],Post.here R ?_⟩
  have hn:¬(f+1000000 < 1000000):=Nat.not_lt.2 (Nat.le_add_left _ _)
  simp only [VR,if_neg hn,Nat.add_sub_cancel]
  exact ⟨_,_,rfl,rfl,by simpa using Zfu T hcaps⟩
theorem ZoB {O:Zo} (hO:ZI P O) {bf:Nat->Bool} {an:Ann} {a:Act} {o:Oper} {own:Nat} {ins:Ins} (t:TypeId) (x:Operand) (ho:o.op=.makeInterface t x) (hc:Zp P an own (.makeInterface t x)=some ins) (T:TR I β tm a.tmps) (R:Rel base w0 I0 I β σ w) (hb:KLt base w0)
  {sq:Nat} (hsite:nsite ins≠0->σ[sq]?=some .free) {v:AVal} {c:Cls} (h:execI O bf tm σ sq ins=some (v,σ',c)):OpOk P (execOp a.eval o) w (Post base w0 I0 I β v σ'):=by
 rw [show execOp a.eval o=(do pure (.value (<-Instr.makeInterface t (a.eval x))):Sem Next) by unfold execOp;rw [ho]]
 simp only [Zp] at hc
 split at hc
 ·cases hc
 ·rename_i d hd hnd
  simp only [Xf] at hc
  obtain ⟨y,hy,rfl⟩:=hc
  have hy':=ZD T hy
  have hrun:∀ u,(Instr.makeInterface t u).run P w=.ok (.iface t u) w:=by
   intro u
   unfold Instr.makeInterface
   rw [Sem.run_bind,run_underlying hnd]
   simp only [Result.andThen_ok]
   cases d <;> first | rfl | exact absurd rfl (hd _)
  simp only [execI] at h
  split at h
  ·cases h
  ·cases h
  ·cases h
  ·simp only [Xa,Xb] at h
   obtain ⟨rfl,rfl,rfl⟩:=h
   exact OpOk.val ⟨_,w,hrun _,Post.here R (by simp only [VR];exact ⟨_,rfl,hy'⟩)⟩
 ·cases hc
theorem Zrw {O:Zo} (hO:ZI P O) {bf:Nat->Bool} {an:Ann} {a:Act} {o:Oper} {own:Nat} {ins:Ins} (x:Operand) (ho:o.op=.panic x) (hc:Zp P an own (.panic x)=some ins) (T:TR I β tm a.tmps) (R:Rel base w0 I0 I β σ w) (hb:KLt base w0)
  {sq:Nat} (hsite:nsite ins≠0->σ[sq]?=some .free) {v:AVal} {c:Cls} (h:execI O bf tm σ sq ins=some (v,σ',c)):OpR P (execOp a.eval o) w base w0 I0 I β v σ':=by
 rw [show execOp a.eval o=(do pure (.value (<-Instr.panic (a.eval x))):Sem Next) by unfold execOp;rw [ho]]
 simp only [Zp] at hc
 simp only [Xf] at hc
 obtain ⟨y,hy,rfl⟩:=hc
 have hy':=ZD T hy
 simp only [execI] at h
 split at h
 ·rename_i t1 x1 e
  rw [e] at hy'
  simp only [Xa,Xb] at h
  obtain ⟨rfl,rfl,rfl⟩:=h
  refine Xv ⟨_,rfl,Xn ⟨a.eval x,w,?_,Post.here R hy'⟩⟩
  simp only [VR] at hy'
  obtain ⟨u,hu,_⟩:=hy'
  simp [hu,Instr.panic,goPanic]
 ·cases h
theorem Zsy {O:Zo} (hO:ZI P O) {bf:Nat->Bool} {an:Ann} {a:Act} {o:Oper} {own:Nat} {ins:Ins} (t:TypeId) (x:Operand) (ho:o.op=.range t x) (hc:Zp P an own (.range t x)=some ins) (T:TR I β tm a.tmps) (R:Rel base w0 I0 I β σ w) (hb:KLt base w0)
  {sq:Nat} (hsite:nsite ins≠0->σ[sq]?=some .free) {v:AVal} {c:Cls} (h:execI O bf tm σ sq ins=some (v,σ',c)):OpOk P (execOp a.eval o) w (Post base w0 I0 I β v σ'):=by
 rw [show execOp a.eval o=(do pure (.value (<-Instr.range t (a.eval x))):Sem Next) by unfold execOp;rw [ho]]
 simp only [Zp] at hc
 split at hc
 case h_2=>cases hc
 rename_i ht
 simp only [Xf] at hc
 obtain ⟨y,hy,rfl⟩:=hc
 have hy':=ZD T hy
 simp only [execI] at h
 split at h
 case h_2=>cases h
 rename_i l e
 simp only [Xa,Xb] at h
 obtain ⟨rfl,rfl,rfl⟩:=h
 rw [e] at hy'
 simp only [VR] at hy'
 rw [hy'.1]
 exact OpOk.val (Zrs R hb ht (hsite (by simp [nsite])))
theorem Zlv {O:Zo} (hO:ZI P O) {bf:Nat->Bool} {an:Ann} {a:Act} {o:Oper} {own:Nat} {ins:Ins} (x:Operand) (str:Bool) (ho:o.op=.next x str) (hc:Zp P an own (.next x str)=some ins) (T:TR I β tm a.tmps) (R:Rel base w0 I0 I β σ w) (hb:KLt base w0)
  {sq:Nat} (hsite:nsite ins≠0->σ[sq]?=some .free) {v:AVal} {c:Cls} (h:execI O bf tm σ sq ins=some (v,σ',c)):OpOk P (execOp a.eval o) w (Post base w0 I0 I β v σ'):=by
 rw [show execOp a.eval o=(do pure (.value (<-Instr.next (a.eval x) str o.type)):Sem Next) by unfold execOp;rw [ho]]
 simp only [Zp] at hc
 cases str
 case false=>cases hc
 simp only [Xf] at hc
 obtain ⟨y,hy,rfl⟩:=hc
 have hy':=ZD T hy
 simp only [execI] at h
 split at h
 case h_2=>cases h
 rename_i t e
 rw [e] at hy'
 split at h
 case h_2=>cases h
 rename_i l p hs
 obtain ⟨u,w',h1,h2⟩:=Zsp (P:=P) R hs hy' o.type
 split at h
 ·rename_i hp
  rw [if_pos hp] at h2
  simp only [Xa,Xb] at h
  obtain ⟨rfl,rfl,rfl⟩:=h
  exact OpOk.val ⟨u,w',h1,h2⟩
 ·rename_i hp
  rw [if_neg hp] at h2
  simp only [Xa,Xb] at h
  obtain ⟨rfl,rfl,rfl⟩:=h
  exact OpOk.val ⟨u,w',h1,h2⟩
theorem ZmI {O:Zo} (hO:ZI P O) {bf:Nat->Bool} {an:Ann} {a:Act} {o:Oper} {own:Nat} {ins:Ins} (t:TypeId) (r:Option Operand) (ho:o.op=.makeMap t r) (hc:Zp P an own (.makeMap t r)=some ins) (T:TR I β tm a.tmps) (R:Rel base w0 I0 I β σ w) (hb:KLt base w0)
  {sq:Nat} (hsite:nsite ins≠0->σ[sq]?=some .free) {v:AVal} {c:Cls} (h:execI O bf tm σ sq ins=some (v,σ',c)):OpOk P (execOp a.eval o) w (Post base w0 I0 I β v σ'):=by
 rw [show execOp a.eval o=(do pure (.value (<-Instr.makeMap t (r.map a.eval))):Sem Next) by unfold execOp;rw [ho]]
 simp only [Zp] at hc
 cases r with
 | some r=>cases hc
 | none =>
  injection hc with hc;subst hc
  simp only [execI,Xa,Xb] at h
  obtain ⟨rfl,rfl,rfl⟩:=h
  exact OpOk.val (Zqv R hb t (hsite (by simp [nsite])))
theorem ZwR {O:Zo} (hO:ZI P O) {bf:Nat->Bool} {an:Ann} {a:Act} {o:Oper} {own:Nat} {ins:Ins} (t:TypeId) (x:Operand) (z:Operand) (ok:Bool) (ho:o.op=.lookup t x z ok) (hc:Zp P an own (.lookup t x z ok)=some ins) (T:TR I β tm a.tmps) (R:Rel base w0 I0 I β σ w) (hb:KLt base w0)
  {sq:Nat} (hsite:nsite ins≠0->σ[sq]?=some .free) {v:AVal} {c:Cls} (h:execI O bf tm σ sq ins=some (v,σ',c)):OpOk P (execOp a.eval o) w (Post base w0 I0 I β v σ'):=by
 rw [show execOp a.eval o=(do pure (.value (<-Instr.lookup t (a.eval x) (a.eval z) ok)):Sem Next) by unfold execOp;rw [ho]]
 simp only [Zp] at hc
 split at hc
 case h_2=>cases hc
 rename_i kc zv m k hmp hm hk
 injection hc with hc;subst hc
 simp only [execI] at h
 obtain ⟨kt,et,d,ht,hdk,hd,hz⟩:=ZfB hmp
 obtain ⟨rfl,u,h1,h2⟩:=ZvR R ht hdk hd hz (ZD T hm) (ZD T hk) h
 exact OpOk.val ⟨u,w,h1,Post.here R h2⟩
theorem Zuv {O:Zo} (hO:ZI P O) {bf:Nat->Bool} {an:Ann} {a:Act} {o:Oper} {own:Nat} {ins:Ins} (t:TypeId) (x:Operand) (z:Operand) (y:Operand) (ho:o.op=.mapUpdate t x z y) (hc:Zp P an own (.mapUpdate t x z y)=some ins) (T:TR I β tm a.tmps) (R:Rel base w0 I0 I β σ w) (hb:KLt base w0)
  {sq:Nat} (hsite:nsite ins≠0->σ[sq]?=some .free) {v:AVal} {c:Cls} (h:execI O bf tm σ sq ins=some (v,σ',c)):OpOk P (execOp a.eval o) w (Post base w0 I0 I β v σ'):=by
 rw [show execOp a.eval o=(do Instr.mapUpdate t (a.eval x) (a.eval z) (a.eval y);pure .skip:Sem Next) by unfold execOp;rw [ho]]
 simp only [Zp] at hc
 split at hc
 case h_2=>cases hc
 rename_i kc zv m k vv hmp hm hk hv
 injection hc with hc;subst hc
 simp only [execI] at h
 obtain ⟨kt,et,d,ht,hdk,hd,hz⟩:=ZfB hmp
 obtain ⟨rfl,w',h1,h2⟩:=Zkz R ht hdk hd (ZD T hm) (ZD T hk) (ZD T hv) h
 exact OpOk.unit ⟨w',h1,Post.here h2 ZdF⟩
theorem ZmH {O:Zo} (hO:ZI P O) {bf:Nat->Bool} {an:Ann} {a:Act} {o:Oper} {own:Nat} {ins:Ins} (t:TypeId) (x:Operand) (z:Operand) (y:Operand) (ho:o.op=.insert t x z y) (hc:Zp P an own (.insert t x z y)=some ins) (T:TR I β tm a.tmps) (R:Rel base w0 I0 I β σ w) (hb:KLt base w0)
  {sq:Nat} (hsite:nsite ins≠0->σ[sq]?=some .free) {v:AVal} {c:Cls} (h:execI O bf tm σ sq ins=some (v,σ',c)):OpOk P (execOp a.eval o) w (Post base w0 I0 I β v σ'):=by
 rw [show execOp a.eval o=(do Instr.mapUpdate t (a.eval x) (a.eval z) (a.eval y);pure .skip:Sem Next) by unfold execOp;rw [ho]]
 simp only [Zp] at hc
 split at hc
 case h_2=>cases hc
 rename_i kc zv m k vv hmp hm hk hv
 injection hc with hc;subst hc
 simp only [execI] at h
 obtain ⟨kt,et,d,ht,hdk,hd,hz⟩:=ZfB hmp
 obtain ⟨rfl,w',h1,h2⟩:=Zkz R ht hdk hd (ZD T hm) (ZD T hk) (ZD T hv) h
 exact OpOk.unit ⟨w',h1,Post.here h2 ZdF⟩
theorem ZtG {O:Zo} (hO:ZI P O) {bf:Nat->Bool} {an:Ann} {a:Act} {o:Oper} {own:Nat} {ins:Ins} (cl:Call) (ho:o.op=.call cl) (hc:Zp P an own (.call cl)=some ins) (T:TR I β tm a.tmps) (R:Rel base w0 I0 I β σ w) (hb:KLt base w0)
  {sq:Nat} (hsite:nsite ins≠0->σ[sq]?=some .free) {v:AVal} {c:Cls} (h:execI O bf tm σ sq ins=some (v,σ',c)):OpR P (execOp a.eval o) w base w0 I0 I β v σ':=by
 rw [show execOp a.eval o=(do let d <-resolve a.eval cl o.type;invoke d.target d.args:Sem Next) by unfold execOp;rw [ho]]
 simp only [Zp] at hc
 unfold ZkG at hc
 split at hc
 ·cases hc
 rename_i args hargs
 have hav:=Zfu T hargs
 obtain ⟨callee,cargs,ctypes⟩:=cl
 simp only at hc hargs hav
 have hmap:(cargs.toList.map a.eval)=(cargs.map a.eval).toList:=by simp
 split at hc
 ·rename_i f
  injection hc with hc;subst hc
  simp only [execI] at h
  obtain ⟨⟨fn,f1,f2,f3⟩,g2⟩:=Zh7 hO R hb (vs:=cargs.map a.eval) (by rw [<-hmap];exact hav) (fun ho=>hsite (by simp [nsite,ho])) h
  exact OpR.of_call (by simp [resolve,Act.eval,Deferred.ofValue,invoke,Zhm f1 f2 f3]) g2
 ·rename_i t
  injection hc with hc;subst hc
  simp only [execI] at h
  split at h
  ·rename_i f caps hf
   have hfv:=ZD (x:=.tmp t) T rfl
   rw [hf] at hfv
   simp only [VR] at hfv
   obtain ⟨fs,us,hus,h0,hcaps⟩:=hfv
   by_cases hlt:f < 1000000
   ·simp only [if_pos hlt] at h hus h0
    subst h0
    obtain ⟨⟨fn,f1,f2,f3⟩,g2⟩:=Zh7 hO R hb (vs:=cargs.map a.eval++us) (by rw [Array.toList_append,<-hmap];exact Zbj hav (by simpa using hcaps)) (fun ho=>absurd ho (by decide)) h
    exact OpR.of_call (by simp [resolve,hus,Deferred.ofValue,invoke,Zhm f1 f2 f3]) g2
   ·simp only [if_neg hlt] at h hus h0
    subst h0
    obtain ⟨⟨fn,f1,f2,f3⟩,g2⟩:=Zh7 hO R hb (vs:=fs++cargs.map a.eval) (by rw [Array.toList_append,<-hmap];exact Zbj (by simpa using hcaps) hav) (fun ho=>absurd ho (by decide)) h
    exact OpR.of_call (by simp [resolve,hus,Deferred.ofValue,invoke,Zhm f1 f2 f3]) g2
  ·cases h
 ·refine Xn ?_
  split at hc
  ·rename_i t u x y hty
   split at hc
   ·rename_i k bytes z he
    obtain ⟨e,i,vz,hu,hi,hik,hib,hvz,hz,hk,hby,hzl⟩:=Zek he
    obtain ⟨hz1,hz2⟩:=ZcH (I:=I) (β:=β) hz
    have hzs:vz.cells.size=i.size:=by rw [Zdh (ZcK hz) hz1,hzl,hik]
    have hargs2:∃ ox oy,cargs=#[ox,oy]/\ZB ox=some x/\ZB oy=some y:=by
     obtain ⟨l⟩:=cargs
     match l,hargs with
     | [],hargs=>simp [Zbm] at hargs
     | [ox],hargs =>
      simp only [Zbm] at hargs
      split at hargs
      ·simp at hargs
      ·cases hargs
     | [ox,oy],hargs =>
      simp only [Zbm] at hargs
      split at hargs
      ·rename_i x1 hx1
       split at hargs
       ·rename_i l2 hl2
        split at hl2
        ·rename_i y1 hy1
         simp only [Xa] at hl2 hargs
         subst hl2
         simp only [W2,and_true] at hargs
         obtain ⟨rfl,rfl⟩:=hargs
         exact ⟨ox,oy,rfl,hx1,hy1⟩
        ·cases hl2
       ·cases hargs
      ·cases hargs
     | ox::oy::oz::r,hargs=>have:=Zaa hav;simp at this
    obtain ⟨ox,oy,rfl,hx,hy⟩:=hargs2
    have htys:ctypes=#[t,u]:=by
     obtain ⟨l⟩:=ctypes
     simpa using hty
    subst htys
    have fin:ZeB P t u e i vz->Zax σ sq k bytes (x.ev tm) (y.ev tm)=some (v,σ',c)->OpOk P (do let d <-resolve a.eval { callee:=.builtin .append,args:=#[ox,oy],argTypes:=#[t,u] } o.type;invoke d.target d.args) w (Post base w0 I0 I β v σ'):=by
     intro TT h
     rw [<-hik,<-hib] at h
     have hns:nsite ins≠0:=by
      split at hc
      ·injection hc with hc;subst hc;simp [nsite]
      ·split at hc
       ·injection hc with hc;subst hc;simp [nsite]
       ·cases hc
      ·cases hc
     obtain ⟨vr,w1,h1,h2⟩:=Zsl (ty:=o.type) TT R hb (ZD T hx) (ZD T hy) (hsite hns) h
     exact Xn ⟨vr,w1,by simp [resolve,invoke,builtin,h1],h2⟩
    split at hc
    ·rename_i e' hu2
     injection hc with hc;subst hc
     simp only [execI] at h
     exact fin ⟨hu,Xn ⟨e',hu2⟩,hi,hvz,hzs,by omega,by omega⟩ h
    ·rename_i hu2
     split at hc
     ·injection hc with hc;subst hc
      simp only [execI] at h
      exact fin ⟨hu,Xv hu2,hi,hvz,hzs,by omega,by omega⟩ h
     ·cases hc
    ·cases hc
   ·cases hc
  ·cases hc
 ·refine Xn ?_
  split at hc
  ·rename_i t x hty
   have hargs2:∃ ox,cargs=#[ox]/\ZB ox=some x:=by
    obtain ⟨l⟩:=cargs
    match l,hargs with
    | [],hargs=>simp [Zbm] at hargs
    | [ox],hargs =>
     simp only [Zbm] at hargs
     split at hargs
     ·rename_i x1 hx1
      simp only [Xa,W2,and_true] at hargs
      subst hargs
      exact ⟨ox,rfl,hx1⟩
     ·cases hargs
    | ox::oy::r,hargs =>
     have:=Zaa hav
     simp at this
   obtain ⟨ox,rfl,hx⟩:=hargs2
   have htys:ctypes=#[t]:=by
    obtain ⟨l⟩:=ctypes
    simpa using hty
   subst htys
   have hx':=ZD T hx
   split at hc
   ·rename_i e hu
    injection hc with hc;subst hc
    simp only [execI] at h
    split at h
    ·rename_i b xs hh
     rw [hh] at hx';simp only [VR] at hx'
     obtain ⟨A,cap,hv,_⟩:=hx'
     simp only [Xa,Xb] at h
     obtain ⟨rfl,rfl,rfl⟩:=h
     refine Xn ⟨.int .i64 xs.length,w,?_,Post.here R (by simp only [VR])⟩
     simp [resolve,invoke,builtin,hv,Builtin.len_,run_underlying hu,goInt]
    ·rename_i t' g lo n hh
     rw [hh] at hx';simp only [VR] at hx'
     obtain ⟨bi,_,hle,_,hv⟩:=hx'
     simp only [Xa,Xb] at h
     obtain ⟨rfl,rfl,rfl⟩:=h
     refine Xn ⟨.int .i64 n,w,?_,Post.here R (by simp only [VR])⟩
     rcases hv with ⟨b,_,hv⟩ | ⟨_,hc0,A,hv⟩ | ⟨_,_,hn0,A,hv⟩
     ·simp [resolve,invoke,builtin,hv,Builtin.len_,run_underlying hu,goInt]
     ·have : n=0:=by omega
      subst this
      simp [resolve,invoke,builtin,hv,Builtin.len_,run_underlying hu,goInt]
     ·subst hn0
      simp [resolve,invoke,builtin,hv,Builtin.len_,run_underlying hu,goInt]
    ·cases h
   ·rename_i hu
    injection hc with hc;subst hc
    simp only [execI] at h
    split at h
    ·rename_i l hh
     rw [hh] at hx';simp only [VR] at hx'
     simp only [Xa,Xb] at h
     obtain ⟨rfl,rfl,rfl⟩:=h
     refine Xn ⟨.int .i64 l.length,w,?_,Post.here R (by simp only [VR])⟩
     have hsz:Wd ⟨l.toArray⟩=l.length:=by simp [Wd]
     simp [resolve,invoke,builtin,hx'.1,Builtin.len_,run_underlying hu,goInt,hsz]
    ·cases h
   ·rename_i kt et hu
    injection hc with hc;subst hc
    simp only [execI] at h
    obtain ⟨rfl,u,h1,h2⟩:=Zrq R hu o.type hx' h
    exact Xn ⟨u,w,by simp [resolve,invoke,builtin,h1],Post.here R h2⟩
   ·cases hc
  ·cases hc
 ·refine Xn ?_
  split at hc
  ·rename_i t ts x y hty
   split at hc
   case h_2=>cases hc
   rename_i kc zv hmp
   injection hc with hc;subst hc
   obtain ⟨kt,et,d,ht,hdk,hd,hz⟩:=ZfB hmp
   have hargs2:∃ ox oy,cargs=#[ox,oy]/\ZB ox=some x/\ZB oy=some y:=by
    obtain ⟨l⟩:=cargs
    match l,hargs with
    | [],hargs=>simp [Zbm] at hargs
    | [ox],hargs =>
     simp only [Zbm] at hargs
     split at hargs
     ·simp at hargs
     ·cases hargs
    | [ox,oy],hargs =>
     simp only [Zbm] at hargs
     split at hargs
     ·rename_i x1 hx1
      split at hargs
      ·rename_i l2 hl2
       split at hl2
       ·rename_i y1 hy1
        simp only [Xa] at hl2 hargs
        subst hl2
        simp only [W2,and_true] at hargs
        obtain ⟨rfl,rfl⟩:=hargs
        exact ⟨ox,oy,rfl,hx1,hy1⟩
       ·cases hl2
      ·cases hargs
     ·cases hargs
    | ox::oy::oz::r,hargs=>have:=Zaa hav;simp at this
   obtain ⟨ox,oy,rfl,hx,hy⟩:=hargs2
   have htys:ctypes=(t::ts).toArray:=by
    obtain ⟨l⟩:=ctypes
    simpa using hty
   subst htys
   simp only [execI] at h
   obtain ⟨w',h1,rfl,h2⟩:=Zq9 R ht hdk hd ts o.type (ZD T hx) (ZD T hy) h
   exact Xn ⟨.tuple #[],w',by simp [resolve,invoke,builtin,h1],Post.here h2 ZdF⟩
  ·cases hc
 ·refine Xn ?_
  split at hc
  ·rename_i t x hty
   have hargs2:∃ ox,cargs=#[ox]/\ZB ox=some x:=by
    obtain ⟨l⟩:=cargs
    match l,hargs with
    | [],hargs=>simp [Zbm] at hargs
    | [ox],hargs =>
     simp only [Zbm] at hargs
     split at hargs
     ·rename_i x1 hx1
      simp only [Xa,W2,and_true] at hargs
      subst hargs
      exact ⟨ox,rfl,hx1⟩
     ·cases hargs
    | ox::oy::r,hargs =>
     have:=Zaa hav
     simp at this
   obtain ⟨ox,rfl,hx⟩:=hargs2
   have htys:ctypes=#[t]:=by
    obtain ⟨l⟩:=ctypes
    simpa using hty
   subst htys
   split at hc
   ·rename_i k bytes z he
    injection hc with hc;subst hc
    simp only [execI] at h
    obtain ⟨vr,w1,h1,h2⟩:=ZuP (ty:=o.type) R he (ZD T hx) h
    exact Xn ⟨vr,w1,by simp [resolve,invoke,builtin,h1],h2⟩
   ·cases hc
  ·cases hc
 ·refine Xn ?_
  split at hc
  ·rename_i hl2
   injection hc with hc;subst hc
   simp only [execI] at h
   split at h
   ·rename_i k p k' q hh
    rw [hh] at hav
    simp only [VRs,VR] at hav
    obtain ⟨v1,vs1,e1,rfl,v2,vs2,rfl,rfl,rfl⟩:=hav
    simp only [Xa,Xb] at h
    obtain ⟨rfl,rfl,rfl⟩:=h
    have hca:cargs.map a.eval=#[.int k p,.int k' q]:=by
     apply Xau
     simpa using e1
    refine Xn ⟨_,w,?_,Post.here R (by simp only [VR];rfl)⟩
    simp [resolve,invoke,builtin,hca,Builtin.max_,Builtin.max2]
   ·cases h
  ·cases hc
 ·refine Xn ?_
  split at hc
  ·rename_i hl2
   injection hc with hc;subst hc
   simp only [execI] at h
   split at h
   ·rename_i k p k' q hh
    rw [hh] at hav
    simp only [VRs,VR] at hav
    obtain ⟨v1,vs1,e1,rfl,v2,vs2,rfl,rfl,rfl⟩:=hav
    simp only [Xa,Xb] at h
    obtain ⟨rfl,rfl,rfl⟩:=h
    have hca:cargs.map a.eval=#[.int k p,.int k' q]:=by
     apply Xau
     simpa using e1
    refine Xn ⟨_,w,?_,Post.here R (by simp only [VR];rfl)⟩
    simp [resolve,invoke,builtin,hca,Builtin.min_,Builtin.min2]
   ·cases h
  ·cases hc
 ·cases hc
theorem Zq7 {O:Zo} (hO:ZI P O) {bf:Nat->Bool} {an:Ann} {a:Act} {o:Oper} {own:Nat} {ins:Ins} (hc:Zp P an own o.op=some ins) (T:TR I β tm a.tmps) (R:Rel base w0 I0 I β σ w) (hb:KLt base w0)
  {sq:Nat} (hsite:nsite ins≠0->σ[sq]?=some .free) {v:AVal} {c:Cls} (h:execI O bf tm σ sq ins=some (v,σ',c)):OpR P (execOp a.eval o) w base w0 I0 I β v σ':=by
 cases ho:o.op <;> rw [ho] at hc <;> first
  | exact Xn (ZtQ hO _ ho hc T R hb hsite h)
  | exact Xn (ZrS hO _ ho hc T R hb hsite h)
  | exact Xn (ZnJ hO _ _ _ ho hc T R hb hsite h)
  | exact Xn (Zpb hO _ ho hc T R hb hsite h)
  | exact Xn (Zmq hO _ _ ho hc T R hb hsite h)
  | exact Xn (ZlB hO _ _ ho hc T R hb hsite h)
  | exact Xn (Zw6 hO _ _ _ ho hc T R hb hsite h)
  | exact Xn (Zu2 hO _ _ ho hc T R hb hsite h)
  | exact Xn (ZuK hO _ _ _ ho hc T R hb hsite h)
  | exact Xn (ZmG hO _ ho hc T R hb hsite h)
  | exact Xn (Zpj hO _ _ _ _ _ ho hc T R hb hsite h)
  | exact Xn (Zty hO _ _ _ ho hc T R hb hsite h)
  | exact Xn (Zq2 hO _ _ _ ho hc T R hb hsite h)
  | exact Xn (Zxg hO _ _ _ _ _ ho hc T R hb hsite h)
  | exact Xn (ZmV hO _ _ _ ho hc T R hb hsite h)
  | exact Xn (ZpZ hO _ _ _ ho hc T R hb hsite h)
  | exact Xn (ZpX hO _ _ _ ho hc T R hb hsite h)
  | exact Xn (Zln hO _ _ _ ho hc T R hb hsite h)
  | exact Xn (ZqG hO _ _ ho hc T R hb hsite h)
  | exact Xn (Zpt hO _ _ _ ho hc T R hb hsite h)
  | exact Xn (Zxq hO _ _ _ ho hc T R hb hsite h)
  | exact Xn (ZoB hO _ _ ho hc T R hb hsite h)
  | exact Zrw hO _ ho hc T R hb hsite h
  | exact Xn (Zsy hO _ _ ho hc T R hb hsite h)
  | exact Xn (Zlv hO _ _ ho hc T R hb hsite h)
  | exact Xn (ZmI hO _ _ ho hc T R hb hsite h)
  | exact Xn (ZwR hO _ _ _ _ ho hc T R hb hsite h)
  | exact Xn (Zuv hO _ _ _ _ ho hc T R hb hsite h)
  | exact Xn (ZmH hO _ _ _ _ ho hc T R hb hsite h)
  | exact ZtG hO _ ho hc T R hb hsite h
  | (simp only [Zp] at hc;cases hc;done)
end
end
section
open Go.RowKit
section
variable {O:Zo} {bf:Nat->Bool} {tm tm':Tms} {σ σ' σ2:Za} {sq:Nat}
theorem Opd.ev_congr {x:Opd} (h:∀ n ∈ x.reads,tget tm n=tget tm' n):x.ev tm=x.ev tm':=by
 cases x with
 | t n=>exact h n (by simp [Opd.reads])
 | c v=>rfl
theorem Zgw {xs:List Opd} (h:∀ n ∈ xs.flatMap Opd.reads,tget tm n=tget tm' n):(xs.map fun x=>x.ev tm)=xs.map fun x=>x.ev tm':=by
 apply WV
 intro x hx
 exact Opd.ev_congr fun n hn=>h n (XR.2 ⟨x,hx,hn⟩)
theorem ZeP {x:Option Opd} (h:∀ n ∈ Zd2 x,tget tm n=tget tm' n):(x.map fun x=>x.ev tm)=x.map fun x=>x.ev tm':=by
 cases x with
 | none=>rfl
 | some x=>simp only [XK];rw [Opd.ev_congr (x:=x) h]
theorem Zdu {ins:Ins} (h:∀ n ∈ ins.reads,tget tm n=tget tm' n):execI O bf tm σ sq ins=execI O bf tm' σ sq ins:=by
 cases ins with
 | alloc zs=>rfl
 | build zs ps =>
  have : (ps.map fun p=>(p.1,p.2.1,p.2.2.ev tm))=ps.map fun p=>(p.1,p.2.1,p.2.2.ev tm'):=by
   apply WV
   intro p hp
   rw [Opd.ev_congr (x:=p.2.2) fun n hn=>h n (by simp only [Ins.reads];exact XR.2 ⟨p,hp,hn⟩)]
  simp only [execI,this]
 | bslice own k n z ps =>
  have : (ps.map fun p=>p.2.ev tm)=ps.map fun p=>p.2.ev tm':=by
   apply WV
   intro p hp
   rw [Opd.ev_congr (x:=p.2) fun n hn=>h n (by simp only [Ins.reads];exact XR.2 ⟨p,hp,hn⟩)]
  simp only [execI,this]
 | rslice k n z ps =>
  have h0:∀ p ∈ ps,p.2.ev tm=p.2.ev tm':=fun p hp=>Opd.ev_congr (x:=p.2) fun n hn=>h n (by simp only [Ins.reads];exact XR.2 ⟨p,hp,hn⟩)
  have h1:(ps.map fun p=>(p.1,p.2.ev tm))=ps.map fun p=>(p.1,p.2.ev tm'):=WV fun p hp=>by rw [h0 p hp]
  have h2:(ps.all fun p=>(p.2.ev tm).cells.length == k && (p.2.ev tm).cells.all Zy)=ps.all fun p=>(p.2.ev tm').cells.length == k && (p.2.ev tm').cells.all Zy:=by
   rw [Bool.eq_iff_iff,Xp,Xp]
   exact ⟨fun h p hp=>by rw [<-h0 p hp];exact h p hp,fun h p hp=>by rw [h0 p hp];exact h p hp⟩
  simp only [execI,h1,h2]
 | rng x=>simp only [execI,Opd.ev_congr (x:=x) h]
 | nxt x=>simp only [execI,Opd.ev_congr (x:=x) h]
 | mkmap=>rfl
 | mlen x=>simp only [execI,Opd.ev_congr (x:=x) h]
 | look kc z ok x y=>simp only [Ins.reads,Xl] at h;simp only [execI,Opd.ev_congr (x:=x) fun n hn=>h n (Xn hn),Opd.ev_congr (x:=y) fun n hn=>h n (Xv hn)]
 | mdel kc x y=>simp only [Ins.reads,Xl] at h;simp only [execI,Opd.ev_congr (x:=x) fun n hn=>h n (Xn hn),Opd.ev_congr (x:=y) fun n hn=>h n (Xv hn)]
 | mset kc x y z =>
  simp only [Ins.reads,Xl] at h
  simp only [execI,Opd.ev_congr (x:=x) fun n hn=>h n (Xn (Xn hn)),Opd.ev_congr (x:=y) fun n hn=>h n (Xn (Xv hn)),Opd.ev_congr (x:=z) fun n hn=>h n (Xv hn)]
 | mov x=>simp only [execI,Opd.ev_congr (x:=x) h]
 | box x=>simp only [execI,Opd.ev_congr (x:=x) h]
 | un op x=>simp only [execI,Opd.ev_congr (x:=x) h]
 | i2i k x=>simp only [execI,Opd.ev_congr (x:=x) h]
 | i2s x=>simp only [execI,Opd.ev_congr (x:=x) h]
 | clr k z x=>simp only [execI,Opd.ev_congr (x:=x) h]
 | same x=>simp only [execI,Opd.ev_congr (x:=x) h]
 | s2b x=>simp only [execI,Opd.ev_congr (x:=x) h]
 | b2s x=>simp only [execI,Opd.ev_congr (x:=x) h]
 | s2s x=>simp only [execI,Opd.ev_congr (x:=x) h]
 | faddr o x=>simp only [execI,Opd.ev_congr (x:=x) h]
 | field k o x=>simp only [execI,Opd.ev_congr (x:=x) h]
 | ext x i=>simp only [execI,Opd.ev_congr (x:=x) h]
 | len x=>simp only [execI,Opd.ev_congr (x:=x) h]
 | slen x=>simp only [execI,Opd.ev_congr (x:=x) h]
 | nilchk x=>simp only [execI,Opd.ev_congr (x:=x) h]
 | mki t x=>simp only [execI,Opd.ev_congr (x:=x) h]
 | panic x=>simp only [execI,Opd.ev_congr (x:=x) h]
 | ld k x=>simp only [execI,Opd.ev_congr (x:=x) h]
 | pick c a b =>
  simp only [Ins.reads,Xl] at h
  simp only [execI,Opd.ev_congr (x:=c) fun n hn=>h n (Xn (Xn hn)),Opd.ev_congr (x:=a) fun n hn=>h n (Xn (Xv hn)),Opd.ev_congr (x:=b) fun n hn=>h n (Xv hn)]
 | st k x y=>simp only [Ins.reads,Xl] at h;simp only [execI,Opd.ev_congr (x:=x) fun n hn=>h n (Xn hn),Opd.ev_congr (x:=y) fun n hn=>h n (Xv hn)]
 | bin k x y=>simp only [Ins.reads,Xl] at h;simp only [execI,Opd.ev_congr (x:=x) fun n hn=>h n (Xn hn),Opd.ev_congr (x:=y) fun n hn=>h n (Xv hn)]
 | iaddr k x y=>simp only [Ins.reads,Xl] at h;simp only [execI,Opd.ev_congr (x:=x) fun n hn=>h n (Xn hn),Opd.ev_congr (x:=y) fun n hn=>h n (Xv hn)]
 | aaddr k n x y=>simp only [Ins.reads,Xl] at h;simp only [execI,Opd.ev_congr (x:=x) fun n hn=>h n (Xn hn),Opd.ev_congr (x:=y) fun n hn=>h n (Xv hn)]
 | sindex x y=>simp only [Ins.reads,Xl] at h;simp only [execI,Opd.ev_congr (x:=x) fun n hn=>h n (Xn hn),Opd.ev_congr (x:=y) fun n hn=>h n (Xv hn)]
 | aindex s k n x y=>simp only [Ins.reads,Xl] at h;simp only [execI,Opd.ev_congr (x:=x) fun n hn=>h n (Xn hn),Opd.ev_congr (x:=y) fun n hn=>h n (Xv hn)]
 | app k b z x y=>simp only [Ins.reads,Xl] at h;simp only [execI,Opd.ev_congr (x:=x) fun n hn=>h n (Xn hn),Opd.ev_congr (x:=y) fun n hn=>h n (Xv hn)]
 | mkslice k b z x y=>simp only [Ins.reads,Xl] at h;simp only [execI,Opd.ev_congr (x:=x) fun n hn=>h n (Xn hn),Opd.ev_congr (x:=y) fun n hn=>h n (Xv hn)]
 | beq k x y=>simp only [Ins.reads,Xl] at h;simp only [execI,Opd.ev_congr (x:=x) fun n hn=>h n (Xn hn),Opd.ev_congr (x:=y) fun n hn=>h n (Xv hn)]
 | peq k x y=>simp only [Ins.reads,Xl] at h;simp only [execI,Opd.ev_congr (x:=x) fun n hn=>h n (Xn hn),Opd.ev_congr (x:=y) fun n hn=>h n (Xv hn)]
 | eqv k ks x y=>simp only [Ins.reads,Xl] at h;simp only [execI,Opd.ev_congr (x:=x) fun n hn=>h n (Xn hn),Opd.ev_congr (x:=y) fun n hn=>h n (Xv hn)]
 | ieq k x y=>simp only [Ins.reads,Xl] at h;simp only [execI,Opd.ev_congr (x:=x) fun n hn=>h n (Xn hn),Opd.ev_congr (x:=y) fun n hn=>h n (Xv hn)]
 | slice k x lo hi mx =>
  simp only [Ins.reads,Xl] at h
  simp only [execI,Opd.ev_congr (x:=x) fun n hn=>h n (Xn (Xn (Xn hn))),ZeP (x:=lo) fun n hn=>h n (Xn (Xn (Xv hn))),ZeP (x:=hi) fun n hn=>h n (Xn (Xv hn)),ZeP (x:=mx) fun n hn=>h n (Xv hn)]
 | sslice x lo hi =>
  simp only [Ins.reads,Xl] at h
  simp only [execI,Opd.ev_congr (x:=x) fun n hn=>h n (Xn (Xn hn)),ZeP (x:=lo) fun n hn=>h n (Xn (Xv hn)),ZeP (x:=hi) fun n hn=>h n (Xv hn)]
 | mm m xs=>simp only [Ins.reads] at h;simp only [execI,Zgw h]
 | call f own vw xs=>simp only [Ins.reads] at h;simp only [execI,Zgw h]
 | mkfn f xs=>simp only [Ins.reads] at h;simp only [execI,Zgw h]
 | callv x xs =>
  simp only [Ins.reads,Xl] at h
  simp only [execI,Opd.ev_congr (x:=x) fun n hn=>h n (Xn hn),Zgw (xs:=xs) fun n hn=>h n (Xv hn)]
def Agree (σ σ2:Za) (ts:List Nat):Prop:=∀ t ∈ ts,σ2[t]?=σ[t]?
theorem Agree.left {ts us:List Nat} (h:Agree σ σ2 (ts++us)):Agree σ σ2 ts:=fun t ht=>h t (by simp [ht])
theorem Agree.right {ts us:List Nat} (h:Agree σ σ2 (ts++us)):Agree σ σ2 us:=fun t ht=>h t (by simp [ht])
theorem Zdr {a:AVal} {xs:List AVal} {ts:List Nat} (h:Zk σ a=some (xs,ts)) (hA:Agree σ σ2 ts):Zk σ2 a=some (xs,ts):=by
 unfold Zk at h ⊢
 split at h
 ·exact h
 ·exact h
 ·rename_i t g lo n
  have ht:t ∈ ts:=by
   split at h
   ·split at h
    ·simp only [Xa,Xb] at h;rw [<-h.2];simp
    ·cases h
   ·split at h
    ·simp only [Xa,Xb] at h;rw [<-h.2];simp
    ·cases h
   ·cases h
  rw [hA t ht]
  exact h
 ·cases h
theorem Zkh {a y:AVal} {ts:List Nat} (h:Zbb σ a=some (y,ts)) (hA:Agree σ σ2 ts):Zbb σ2 a=some (y,ts):=by
 unfold Zbb at h ⊢
 split at h
 case h_2 =>
  split at h
  ·rename_i he
   simp only [Xa,Xb] at h
   obtain ⟨rfl,rfl⟩:=h
   rw [Zdr he hA]
  ·cases h
 all_goals exact h
theorem Zkj:∀ {cs ys:List AVal} {ts:List Nat},Zbv σ cs=some (ys,ts)->Agree σ σ2 ts->Zbv σ2 cs=some (ys,ts)
 | [],ys,ts,h,_=>h
 | c::cs,ys,ts,h,hA=>by
  simp only [Zbv] at h ⊢
  split at h
  ·rename_i h1
   split at h
   ·rename_i h2
    simp only [Xa,Xb] at h
    obtain ⟨rfl,rfl⟩:=h
    rw [Zkh h1 hA.left]
    simp only
    rw [Zkj h2 hA.right]
   ·cases h
  ·cases h
theorem Zs1 {a y:AVal} {ts:List Nat} (h:Zbz σ a=some (y,ts)) (hA:Agree σ σ2 ts):Zbz σ2 a=some (y,ts):=by
 unfold Zbz at h ⊢
 split at h
 ·split at h
  ·rename_i h1
   simp only [Xa,Xb] at h
   obtain ⟨rfl,rfl⟩:=h
   rw [Zkj h1 hA]
  ·cases h
 ·exact Zkh h hA
theorem Zhy:∀ {cs ys:List AVal} {ts:List Nat},viewAs σ cs=some (ys,ts)->Agree σ σ2 ts->viewAs σ2 cs=some (ys,ts)
 | [],ys,ts,h,_=>h
 | c::cs,ys,ts,h,hA=>by
  simp only [viewAs] at h ⊢
  split at h
  ·rename_i h1
   split at h
   ·rename_i h2
    simp only [Xa,Xb] at h
    obtain ⟨rfl,rfl⟩:=h
    rw [Zs1 h1 hA.left]
    simp only
    rw [Zhy h2 hA.right]
   ·cases h
  ·cases h
theorem ZjY {a y:AVal} {ts:List Nat} (h:Zbc σ a=some (y,ts)) (hA:Agree σ σ2 ts):Zbc σ2 a=some (y,ts):=by
 unfold Zbc at h ⊢
 split at h
 case h_2 =>
  split at h
  ·rename_i he
   simp only [Xa,Xb] at h
   obtain ⟨rfl,rfl⟩:=h
   rw [Zdr he hA]
  ·cases h
 all_goals exact h
theorem Zji:∀ {cs ys:List AVal} {ts:List Nat},Zbo σ cs=some (ys,ts)->Agree σ σ2 ts->Zbo σ2 cs=some (ys,ts)
 | [],ys,ts,h,_=>h
 | c::cs,ys,ts,h,hA=>by
  simp only [Zbo] at h ⊢
  split at h
  ·rename_i h1
   split at h
   ·rename_i h2
    simp only [Xa,Xb] at h
    obtain ⟨rfl,rfl⟩:=h
    rw [ZjY h1 hA.left]
    simp only
    rw [Zji h2 hA.right]
   ·cases h
  ·cases h
theorem Zqx {a y:AVal} {ts:List Nat} (h:showA σ a=some (y,ts)) (hA:Agree σ σ2 ts):showA σ2 a=some (y,ts):=by
 unfold showA at h ⊢
 split at h
 ·split at h
  ·rename_i h1
   simp only [Xa,Xb] at h
   obtain ⟨rfl,rfl⟩:=h
   rw [Zji h1 hA]
  ·cases h
 ·exact ZjY h hA
theorem ZhC:∀ {cs ys:List AVal} {ts:List Nat},showAs σ cs=some (ys,ts)->Agree σ σ2 ts->showAs σ2 cs=some (ys,ts)
 | [],ys,ts,h,_=>h
 | c::cs,ys,ts,h,hA=>by
  simp only [showAs] at h ⊢
  split at h
  ·rename_i h1
   split at h
   ·rename_i h2
    simp only [Xa,Xb] at h
    obtain ⟨rfl,rfl⟩:=h
    rw [Zqx h1 hA.left]
    simp only
    rw [ZhC h2 hA.right]
   ·cases h
  ·cases h
def Zak (σ:Za) (s:Nat):Option Zl->Za
 | none=>σ
 | some b=>σ.set s b
def ZcJ (σ:Za) (ts:List Nat):Prop:=∀ t ∈ ts,∃ x,σ[t]?=some x/\x≠.free
theorem Rowy.nonfree {ts:List Nat} (h:Rowy σ ts):ZcJ σ ts:=by
 intro t ht
 obtain ⟨g,k,xs,h | h⟩:=h t ht
 ·exact ⟨_,h,by simp⟩
 ·exact ⟨_,h,by simp⟩
theorem ZbW:ZcJ σ []:=fun t ht=>by simp at ht
theorem ZgG {t:Nat} {x:Zl} (h:σ[t]?=some x) (hx:x≠.free):ZcJ σ [t]:=fun t' ht=>by
 simp at ht;subst ht;exact ⟨x,h,hx⟩
def Framed (f:Za->Option (AVal×Za×Cls)) (σ:Za) (sq ns:Nat) (v:AVal) (σ':Za) (c:Cls):Prop :=
 ∃ ob,σ'=Zak σ sq ob/\(ob.isSome=true->ns≠0)/\ob≠some .free/\ZcJ σ c.rd/\∀ σ2,Agree σ σ2 c.rd->f σ2=some (v,Zak σ2 sq ob,c)
theorem Framed.pure {f:Za->Option (AVal×Za×Cls)} {v:AVal} {c:Cls} {ns:Nat} (hr:c.rd=[]) (hf:∀ σ2,f σ2=some (v,σ2,c)):Framed f σ sq ns v σ c :=
 ⟨none,rfl,by simp,by simp,by rw [hr];exact ZbW,fun σ2 _=>hf σ2⟩
theorem ZmB {kc:Nat} {z:AVal} {ok:Bool} {m k v:AVal} {c:Cls} {ns:Nat} (h:ZbN σ kc z ok m k=some (v,σ',c)):Framed (fun σ=>ZbN σ kc z ok m k) σ sq ns v σ' c:=by
 unfold ZbN at h
 split at h
 case isFalse=>cases h
 rename_i hk
 split at h
 ·simp only [Xa,Xb] at h
  obtain ⟨rfl,rfl,rfl⟩:=h
  exact Framed.pure rfl fun σ2=>by simp only [ZbN];rw [if_pos hk]
 ·rename_i t
  split at h
  case h_2=>cases h
  rename_i es hs
  have hnf:ZcJ σ [t]:=fun u hu=>by rw [X0] at hu;subst hu;exact ⟨_,hs,by simp⟩
  split at h
  ·rename_i j y hf
   simp only [Xa,Xb] at h
   obtain ⟨rfl,rfl,rfl⟩:=h
   refine ⟨none,rfl,by simp,by simp,hnf,fun σ2 hA=>?_⟩
   have e2:σ2[t]?=some (.map es):=by rw [hA t (by simp)];exact hs
   simp only [ZbN,e2,hf,Zak]
   rw [if_pos hk]
  ·rename_i hf
   simp only [Xa,Xb] at h
   obtain ⟨rfl,rfl,rfl⟩:=h
   refine ⟨none,rfl,by simp,by simp,hnf,fun σ2 hA=>?_⟩
   have e2:σ2[t]?=some (.map es):=by rw [hA t (by simp)];exact hs
   simp only [ZbN,e2,hf,Zak]
   rw [if_pos hk]
  ·cases h
 ·cases h
theorem ZqF {m v:AVal} {c:Cls} {ns:Nat} (h:ZdB σ m=some (v,σ',c)):Framed (fun σ=>ZdB σ m) σ sq ns v σ' c:=by
 unfold ZdB at h
 split at h
 ·simp only [Xa,Xb] at h
  obtain ⟨rfl,rfl,rfl⟩:=h
  exact Framed.pure rfl fun σ2=>rfl
 ·rename_i t
  split at h
  case h_2=>cases h
  rename_i es hs
  simp only [Xa,Xb] at h
  obtain ⟨rfl,rfl,rfl⟩:=h
  refine ⟨none,rfl,by simp,by simp,fun u hu=>by rw [X0] at hu;subst hu;exact ⟨_,hs,by simp⟩,fun σ2 hA=>?_⟩
  have e2:σ2[t]?=some (.map es):=by rw [hA t (by simp)];exact hs
  simp only [ZdB,e2,Zak]
 ·cases h
theorem ZuG {k:Option Nat} {a v:AVal} {c:Cls} {ns:Nat} (h:ldA σ k a=some (v,σ',c)):Framed (fun σ=>ldA σ k a) σ sq ns v σ' c:=by
 have h0:=h
 unfold ldA at h
 have fin:∀ t,σ'=σ->c.rd=[t]->(∃ x,σ[t]?=some x/\x≠.free)->(∀ σ2:Za,σ2[t]?=σ[t]?->ldA σ2 k a=(ldA σ k a).map fun p=>(p.1,σ2,p.2.2))->Framed (fun σ=>ldA σ k a) σ sq ns v σ' c:=by
  intro t e1 e2 ⟨x,hx,hne⟩ hf
  subst e1
  refine ⟨none,rfl,by simp,by simp,by rw [e2];exact ZgG hx hne,fun σ2 hA=>?_⟩
  rw [e2] at hA
  simp only
  rw [hf σ2 (hA t (by simp)),h0]
  rfl
 split at h
 ·rename_i t o
  split at h
  ·rename_i cs hs
   split at h
   ·rename_i v' hp
    simp only [Xa,Xb] at h
    obtain ⟨rfl,rfl,rfl⟩:=h
    exact fin t rfl rfl ⟨_,hs,by simp⟩ (fun σ2 h2=>by simp only [ldA,h2,hs,hp,XK])
   ·cases h
  ·cases h
 ·rename_i t g i o
  split at h
  ·rename_i g' kk xs hs
   split at h
   ·rename_i e
    split at h
    ·rename_i x hx
     split at h
     ·rename_i v' hp
      simp only [Xa,Xb] at h
      obtain ⟨rfl,rfl,rfl⟩:=h
      exact fin t rfl rfl ⟨_,hs,by simp⟩ (fun σ2 h2=>by simp only [ldA,h2,hs,e,if_true,hx,hp,XK])
     ·cases h
    ·cases h
   ·cases h
  ·rename_i g' kk xs hs
   split at h
   ·rename_i e
    split at h
    ·rename_i x hx
     split at h
     ·rename_i v' hp
      simp only [Xa,Xb] at h
      obtain ⟨rfl,rfl,rfl⟩:=h
      exact fin t rfl rfl ⟨_,hs,by simp⟩ (fun σ2 h2=>by simp only [ldA,h2,hs,e,if_true,hx,hp,XK])
     ·cases h
    ·cases h
   ·cases h
  ·rename_i g' kk xs hs
   split at h
   ·rename_i e
    split at h
    ·rename_i x hx
     split at h
     ·rename_i v' hp
      simp only [Xa,Xb] at h
      obtain ⟨rfl,rfl,rfl⟩:=h
      exact fin t rfl rfl ⟨_,hs,by simp⟩ (fun σ2 h2=>by simp only [ldA,h2,hs,e,if_true,hx,hp,XK])
     ·cases h
    ·cases h
   ·cases h
  ·cases h
 ·rename_i cs o
  split at h
  ·rename_i v' hp
   simp only [Xa,Xb] at h
   obtain ⟨rfl,rfl,rfl⟩:=h
   exact Framed.pure rfl (fun σ2=>by simp only [ldA,hp])
  ·cases h
 ·cases h
theorem Zlk {k:Nat} {x i v:AVal} {c:Cls} {ns:Nat} (h:Zby σ k x i=some (v,σ',c)):Framed (fun σ=>Zby σ k x i) σ sq ns v σ' c:=by
 have h0:=h
 unfold Zby at h
 split at h
 case h_2=>cases h
 rename_i kk ii
 split at h
 case isFalse=>cases h
 rename_i hi
 split at h
 ·rename_i b xs
  split at h
  ·rename_i y hy
   split at h
   ·rename_i hk
    simp only [Xa,Xb] at h
    obtain ⟨rfl,rfl,rfl⟩:=h
    exact Framed.pure rfl (fun σ2=>by simp only [Zby,hi,if_true,hy,hk])
   ·cases h
  ·cases h
 ·rename_i t g p n
  split at h
  case isFalse=>cases h
  rename_i hn
  have fin:σ'=σ->c.rd=[t]->(∃ x,σ[t]?=some x/\x≠.free)->Framed (fun σ=>Zby σ k (.sl t g p n) (.int kk ii)) σ sq ns v σ' c:=by
   intro e1 e2 ⟨x,hx,hne⟩
   subst e1
   refine ⟨none,rfl,by simp,by simp,by rw [e2];exact ZgG hx hne,fun σ2 hA=>?_⟩
   rw [e2] at hA
   have h2:=hA t (by simp)
   simp only [Zby,hi,if_true,hn] at h0 ⊢
   rw [h2]
   split at h0
   ·split at h0
    ·rename_i hc
     simp only [Xa,Xb] at h0
     obtain ⟨rfl,_,rfl⟩:=h0
     rename_i hs
     simp only [hs,hc,and_self,if_true]
     rfl
    ·cases h0
   ·split at h0
    ·rename_i hc
     simp only [Xa,Xb] at h0
     obtain ⟨rfl,_,rfl⟩:=h0
     rename_i hs
     simp only [hs,hc,and_self,if_true]
     rfl
    ·cases h0
   ·split at h0
    ·rename_i hc
     simp only [Xa,Xb] at h0
     obtain ⟨rfl,_,rfl⟩:=h0
     rename_i hs
     simp only [hs,hc,and_self,if_true]
     rfl
    ·cases h0
   ·cases h0
  split at h
  ·rename_i hs
   split at h
   ·simp only [Xa,Xb] at h
    exact fin h.2.1.symm (by rw [<-h.2.2]) ⟨_,hs,by simp⟩
   ·cases h
  ·rename_i hs
   split at h
   ·simp only [Xa,Xb] at h
    exact fin h.2.1.symm (by rw [<-h.2.2]) ⟨_,hs,by simp⟩
   ·cases h
  ·rename_i hs
   split at h
   ·simp only [Xa,Xb] at h
    exact fin h.2.1.symm (by rw [<-h.2.2]) ⟨_,hs,by simp⟩
   ·cases h
  ·cases h
 ·cases h
end
end
section
open Go.RowKit
section
variable {O:Zo} {bf:Nat->Bool} {tm tm':Tms} {σ σ' σ2:Za} {sq:Nat}
theorem Framed.one {f:Za->Option (AVal×Za×Cls)} {v:AVal} {c:Cls} {ns t:Nat} (hr:c.rd=[t]) (hn:∃ x,σ[t]?=some x/\x≠.free) (hf:∀ σ2:Za,σ2[t]?=σ[t]?->f σ2=some (v,σ2,c)):Framed f σ sq ns v σ c:=by
 obtain ⟨x,hx,hne⟩:=hn
 exact ⟨none,rfl,by simp,by simp,by rw [hr];exact ZgG hx hne,fun σ2 hA=>hf σ2 (hA t (by rw [hr];simp))⟩
theorem Zqu {k:Nat} {x v:AVal} {lo hi mx:Option AVal} {c:Cls} {ns:Nat} (h:ZbA σ k x lo hi mx=some (v,σ',c)) (hw:c.wr=[]):Framed (fun σ=>ZbA σ k x lo hi mx) σ sq ns v σ' c:=by
 unfold ZbA at h
 split at h
 ·rename_i b xs
  split at h
  ·cases h
  rename_i m hm
  split at h
  ·cases h
  rename_i h' hh
  split at h
  ·cases h
  rename_i l hl
  split at h
  case isFalse=>cases h
  rename_i hk0
  split at h
  ·rename_i hmx
   simp only [Xa,Xb] at h
   obtain ⟨rfl,rfl,rfl⟩:=h
   exact Framed.pure rfl (fun σ2=>by simp only [ZbA,hm,hh,hl,hk0,if_true,hmx])
  ·rename_i hmx
   simp only [Xa,Xb] at h
   obtain ⟨rfl,rfl,rfl⟩:=h
   exact Framed.pure rfl (fun σ2=>by simp only [ZbA,hm,hh,hl,hk0,if_true,hmx,if_false,Xo])
 ·rename_i t g p n
  split at h
  ·cases h
  rename_i els hels
  have hnf:∃ x,σ[t]?=some x/\x≠.free:=by
   simp only [Zk] at hels
   split at hels
   ·rename_i hs;exact ⟨_,hs,by simp⟩
   ·rename_i hs;exact ⟨_,hs,by simp⟩
   ·cases hels
  have hel2:∀ σ2:Za,σ2[t]?=σ[t]?->Zk σ2 (.sl t g p n)=some els:=by
   intro σ2 h2
   rw [<-hels]
   simp only [Zk,h2]
  split at h
  ·rename_i m0
   split at h
   ·rename_i q1 hq1
    split at h
    ·rename_i q2 hq2
     split at h
     ·rename_i q3 hq3
      simp only [Xa,Xb] at h
      obtain ⟨rfl,rfl,rfl⟩:=h
      exact Framed.one rfl hnf (fun σ2 h2=>by simp only [ZbA,hel2 σ2 h2,hq1,hq2,hq3])
     ·cases h
    ·cases h
   ·rename_i hq0
    split at h
    ·rename_i q1 hq1
     split at h
     ·rename_i q2 hq2
      split at h
      ·rename_i q3 hq3
       simp only [Xa,Xb] at h
       obtain ⟨rfl,rfl,rfl⟩:=h
       exact Framed.one rfl hnf (fun σ2 h2=>by simp only [ZbA,hel2 σ2 h2,hq0,hq1,hq2,hq3])
      ·cases h
     ·cases h
    ·cases h
  ·split at h
   ·rename_i g' k' xs hs
    split at h
    case isFalse=>cases h
    rename_i hkk
    split at h
    ·cases h
    rename_i h' hh
    split at h
    ·cases h
    rename_i l hl
    simp only [Xa,Xb] at h
    obtain ⟨rfl,rfl,rfl⟩:=h
    exact Framed.one rfl hnf (fun σ2 h2=>by simp only [ZbA,hel2 σ2 h2,h2,hs,hkk,if_true,hh,hl])
   ·rename_i g' k' xs hs
    split at h
    case isFalse=>cases h
    rename_i hkk
    split at h
    ·cases h
    rename_i h' hh
    split at h
    ·cases h
    rename_i l hl
    simp only [Xa,Xb] at h
    obtain ⟨rfl,rfl,rfl⟩:=h
    exact Framed.one rfl hnf (fun σ2 h2=>by simp only [ZbA,hel2 σ2 h2,h2,hs,hkk,if_true,hh,hl])
   ·cases h
 ·cases h
theorem Zvp {k bytes:Nat} {x y v:AVal} {c:Cls} (h:Zc9 σ sq k bytes x y=some (v,σ',c)):c.any=true:=by
 unfold Zc9 at h
 repeat' (split at h)
 all_goals first
  | (cases h;done)
  | (simp only [Xa,Xb] at h;rw [<-h.2.2])
theorem ZwF {k bytes:Nat} {x y v:AVal} {c:Cls} (h:Zax σ sq k bytes x y=some (v,σ',c)) (hw:c.wr=[]) (ha:c.any=false):Framed (fun σ=>Zax σ sq k bytes x y) σ sq 1 v σ' c:=by
 unfold Zax at h
 split at h
 ·rw [Zvp h] at ha;cases ha
 rename_i ys us he
 split at h
 case isFalse=>cases h
 rename_i hk
 have hnf:=(Zf8 he).nonfree
 split at h
 ·split at h
  ·rename_i hb
   simp only [Xa,Xb] at h
   obtain ⟨rfl,rfl,rfl⟩:=h
   refine ⟨some (.row 0 k ys),rfl,by simp,by simp,hnf,fun σ2 hA=>?_⟩
   simp only [Zax,Zdr he hA,hk,if_true,hb,Zak]
  ·cases h
 ·rename_i x0 xs0
  split at h
  ·rename_i hb
   split at h
   ·simp only [Xa,Xb] at h
    obtain ⟨rfl,rfl,rfl⟩:=h
    refine ⟨none,rfl,by simp,by simp,hnf,fun σ2 hA=>?_⟩
    simp only [Zax,Zdr he hA,hk,if_true,Zak]
    rw [if_pos hb]
   ·rename_i y0 ys0
    simp only [Xa,Xb] at h
    obtain ⟨rfl,rfl,rfl⟩:=h
    refine ⟨some (.row 0 k ((x0::xs0)++(y0::ys0))),rfl,by simp,by simp,hnf,fun σ2 hA=>?_⟩
    simp only [Zax,Zdr he hA,hk,if_true,Zak]
    rw [if_pos hb]
  ·cases h
 ·split at h
  ·split at h
   ·split at h
    ·simp only [Xa,Xb] at h
     rw [<-h.2.2] at hw;simp at hw
    ·split at h
     ·simp only [Xa,Xb] at h
      rw [<-h.2.2] at hw;simp at hw
     ·cases h
   ·cases h
  ·cases h
 ·cases h
theorem ZiH {σ:Za} {vs:List AVal} (h:Zi σ 1000 (ZR vs) []=[]):ZR vs=[]:=by
 cases e:ZR vs with
 | nil=>rfl
 | cons t r =>
  rw [e] at h
  simp only [Zi,List.contains_nil,Xo,if_false,List.nil_append] at h
  obtain ⟨_,r',hr⟩:=ZdN (σ:=σ) 999 (ZE (σ.getD t .free)++r) [t] (by simp)
  rw [hr] at h
  simp at h
theorem ZkT {f own:Nat} {view:Bool} {args:List AVal} {v:AVal} {c:Cls} {ns:Nat} (hns:own=1->ns≠0) (h:Zr O bf σ sq f own view args=some (v,σ',c)) (hw:c.wr=[]) (ha:c.any=false):Framed (fun σ=>Zr O bf σ sq f own view args) σ sq ns v σ' c:=by
 unfold Zr at h
 split at h
 ·cases h
 rename_i xs ts hs
 have hnf:ZcJ σ ts:=by
  unfold ZbE at hs
  split at hs
  ·simp only [Xa,Xb] at hs
   rw [<-hs.2];exact ZbW
  ·exact (Zfp hs).nonfree
 have hag:∀ σ2,Agree σ σ2 ts->ZbE (bf f) σ2 args=some (xs,ts):=by
  intro σ2 hA
  unfold ZbE at hs ⊢
  split at hs
  ·rename_i hb;rw [if_pos hb];exact hs
  ·rename_i hb;rw [if_neg hb];exact ZhC hs hA
 generalize hids:Zi (Zh σ ts) 1000 (ZR xs) []=ids at h
 unfold Zbg at h
 split at h
 case isFalse=>cases h
 generalize hq:Zat view ids.length (O f (ZH (Zf (Zh σ ts) 0 ids) xs) (Zj (Zh σ ts) 0 ids (Zf (Zh σ ts) 0 ids) ids 0))=q at h
 cases q with
 | none=>simp only [Zaj] at h;cases h
 | some q =>
  obtain ⟨r,hp⟩:=q
  simp only [Zaj] at h
  split at h
  ·rename_i hc
   simp only [Xc,WL] at hc
   obtain ⟨rfl,rfl⟩:=hc
   have hrl:=ZiH hids
   have hrho:∀ σ:Za,Zf σ 0 []=fun _ _=>none:=fun σ=>by funext t g;simp [Zf,Zz]
   have hall:∀ σ2,Agree σ σ2 ts->Zr O bf σ2 sq f own view args=Zaj σ2 (Zh σ2 ts) [] ts sq own (some (r,[])):=by
    intro σ2 hA
    unfold Zr
    rw [hag σ2 hA]
    simp only
    rw [hrl]
    have h0:Zi (Zh σ2 ts) 1000 [] []=[]:=rfl
    rw [h0]
    unfold Zbg
    simp only [WH,if_true]
    rw [hrho]
    rw [hrho] at hq
    simp only [Zj] at hq ⊢
    rw [hq]
   split at h
   ·rename_i hf
    simp only [Xa,Xb] at h
    obtain ⟨rfl,rfl,rfl⟩:=h
    refine ⟨none,rfl,by simp,by simp,hnf,fun σ2 hA=>?_⟩
    simp only
    rw [hall σ2 hA]
    simp only [Zaj,Wu,Ww,if_true,hf,Zak]
   split at h
   ·rename_i hf hap
    simp only [Xa,Xb] at h
    obtain ⟨rfl,rfl,rfl⟩:=h
    refine ⟨none,rfl,by simp,by simp,hnf,fun σ2 hA=>?_⟩
    have hap2:Zbt σ2 ts r=true:=by
     unfold Zbt at hap ⊢
     simp only [Xc] at hap ⊢
     refine ⟨hap.1,Xp.2 fun t ht=>?_⟩
     have:=Xp.1 hap.2 t ht
     unfold Zcq at this ⊢
     rw [hA t ht];exact this
    simp only
    rw [hall σ2 hA]
    simp only [Zaj,Wu,Ww,if_true,hf,hap2,Zak,if_false,Xo]
   ·rename_i hf hap
    simp only [Xa,Xb] at h
    obtain ⟨rfl,rfl,rfl⟩:=h
    simp only at hw
    subst hw
    refine ⟨none,rfl,by simp,by simp,hnf,fun σ2 hA=>?_⟩
    simp only
    rw [hall σ2 hA]
    simp only [Zaj,Wu,Ww,if_true,hf,Zak,Zh,if_false,Xo,Zbt,Wu,Bool.not_true,Bool.false_and]
  ·rename_i hne
   split at h
   ·rename_i lo n k xs' hcl
    have hcl0:=hcl
    split at hcl
    case isFalse=>cases hcl
    rename_i hid
    simp only [WL] at hid
    subst hid
    unfold ZeA at hcl
    split at hcl
    case h_2=>cases hcl
    split at hcl
    case isFalse=>cases hcl
    rename_i hcc
    simp only [Xc,decide_eq_true_eq] at hcc
    simp only [Xa,Xb] at hcl h
    obtain ⟨rfl,rfl,rfl,rfl⟩:=hcl
    obtain ⟨rfl,rfl,rfl⟩:=h
    have hrl:=ZiH hids
    have hrho:∀ σ:Za,Zf σ 0 []=fun _ _=>none:=fun σ=>by funext t g;simp [Zf,Zz]
    refine ⟨some (.row 0 _ _),rfl,fun _=>hns hcc.1,by simp,hnf,fun σ2 hA=>?_⟩
    simp only
    unfold Zr
    rw [hag σ2 hA]
    simp only
    rw [hrl]
    have h0:Zi (Zh σ2 ts) 1000 [] []=[]:=rfl
    rw [h0]
    unfold Zbg
    simp only [WH,if_true]
    rw [hrho]
    rw [hrho] at hq
    simp only [Zj] at hq ⊢
    rw [hq]
    simp only [Zaj]
    rw [if_neg hne,hcl0]
    rfl
   split at h
   ·simp only [Xa,Xb] at h
    rw [<-h.2.2] at ha;simp at ha
   ·cases h
theorem Zbs {x:Option AVal} {v:AVal} {c:Cls} (h:x.map (fun r=>(r,σ,({}:Cls)))=some (v,σ',c)):σ'=σ/\c={}/\x=some v:=by
 simp only [Xf,Xb] at h
 obtain ⟨a,h1,rfl,rfl,rfl⟩:=h
 exact ⟨rfl,rfl,h1⟩
theorem Zsn {ins:Ins} {v:AVal} {c:Cls} (h:execI O bf tm σ sq ins=some (v,σ',c)) (hw:c.wr=[]) (ha:c.any=false):Framed (fun σ=>execI O bf tm σ sq ins) σ sq (nsite ins) v σ' c:=by
 cases ins with
 | alloc zs =>
  simp only [execI,Xa,Xb] at h
  obtain ⟨rfl,rfl,rfl⟩:=h
  exact ⟨some (.var zs),rfl,by simp [nsite],by simp,ZbW,fun σ2 _=>rfl⟩
 | box x =>
  simp only [execI] at h
  split at h
  ·cases h
  ·cases h
  ·cases h
  ·rename_i hne1 hne2 hne3
   simp only [Xa,Xb] at h
   obtain ⟨rfl,rfl,rfl⟩:=h
   refine ⟨some (.var (x.ev tm).cells),rfl,by simp [nsite],by simp,ZbW,fun σ2 _=>?_⟩
   simp only [execI,Zak]
 | mkslice k b z x y =>
  simp only [execI] at h
  split at h
  ·rename_i l c' e1 e2
   split at h
   ·rename_i hc
    simp only [Xa,Xb] at h
    obtain ⟨rfl,rfl,rfl⟩:=h
    refine ⟨some (.row 0 k (Xx c'.toNat z)),rfl,by simp [nsite],by simp,ZbW,fun σ2 _=>?_⟩
    simp only [execI,e1,e2,Zak]
    try rw [if_pos hc]
   ·cases h
  ·cases h
 | bslice own k n z ps =>
  simp only [execI] at h
  split at h
  ·cases h
  rename_i ys ts hv
  split at h
  case isFalse=>cases h
  rename_i hc
  split at h
  ·rename_i ho
   simp only [Xa,Xb] at h
   obtain ⟨rfl,rfl,rfl⟩:=h
   simp only at hw
   subst hw
   refine ⟨some (.row 0 k (((ps.map (·.1)).zip ys).foldl (fun l p=>l.set p.1 p.2) (Xx n z))),rfl,by simp [nsite,ho],by simp,ZbW,fun σ2 hA=>?_⟩
   simp only [execI,Zhy hv hA,Zak,Zh]
   rw [if_pos hc,if_pos ho]
  ·rename_i ho
   simp only [Xa,Xb] at h
   obtain ⟨rfl,rfl,rfl⟩:=h
   simp only at hw
   subst hw
   refine ⟨none,rfl,by simp,by simp,ZbW,fun σ2 hA=>?_⟩
   simp only [execI,Zhy hv hA,Zak,Zh]
   rw [if_pos hc,if_neg ho]
 | rslice k n z ps =>
  simp only [execI] at h
  split at h
  case isFalse=>cases h
  rename_i hc
  simp only [Xa,Xb] at h
  obtain ⟨rfl,rfl,rfl⟩:=h
  refine ⟨some (.rrow 0 k ((ps.map fun p=>(p.1,p.2.ev tm)).foldl (fun l p=>l.set p.1 p.2) (Xx n z))),rfl,by simp [nsite],by simp,ZbW,fun σ2 hA=>?_⟩
  simp only [execI,Zak]
  rw [if_pos hc]
 | rng x =>
  simp only [execI] at h
  split at h
  ·rename_i l e
   simp only [Xa,Xb] at h
   obtain ⟨rfl,rfl,rfl⟩:=h
   exact ⟨some (.siter l 0),rfl,by simp [nsite],by simp,ZbW,fun σ2 _=>by simp only [execI,e,Zak]⟩
  ·cases h
 | mkmap =>
  simp only [execI,Xa,Xb] at h
  obtain ⟨rfl,rfl,rfl⟩:=h
  exact ⟨some (.map []),rfl,by simp [nsite],by simp,ZbW,fun σ2 _=>rfl⟩
 | look kc z ok m k=>simp only [execI] at h ⊢;exact ZmB h
 | mlen m=>simp only [execI] at h ⊢;exact ZqF h
 | mset kc m k v =>
  simp only [execI] at h
  unfold Zc1 at h
  repeat' (split at h)
  all_goals first
   | (cases h;done)
   | (simp only [Xa,Xb] at h;rw [<-h.2.2] at hw;cases hw)
 | mdel kc m k =>
  simp only [execI] at h ⊢
  unfold Ze0 at h
  split at h
  case isFalse=>cases h
  rename_i hk
  split at h
  ·rename_i e
   simp only [Xa,Xb] at h;obtain ⟨rfl,rfl,rfl⟩:=h
   refine Framed.pure rfl fun σ2=>?_
   simp only [Ze0,e]
   rw [if_pos hk]
  ·repeat' (split at h)
   all_goals first
    | (cases h;done)
    | (simp only [Xa,Xb] at h;rw [<-h.2.2] at hw;cases hw)
  ·cases h
 | clr k z x =>
  simp only [execI] at h
  unfold ZG at h
  repeat' (split at h)
  all_goals first
   | (cases h;done)
   | (simp only [Xa,Xb] at h;rw [<-h.2.2] at hw;cases hw)
 | nxt x =>
  simp only [execI] at h
  repeat' (split at h)
  all_goals first
   | (cases h;done)
   | (simp only [Xa,Xb] at h;rw [<-h.2.2] at ha;cases ha)
 | ld k a=>simp only [execI] at h ⊢;exact ZuG h
 | st k a x =>
  simp only [execI] at h
  unfold stA at h
  split at h
  ·split at h
   ·split at h
    ·split at h
     ·simp only [Xa,Xb] at h;rw [<-h.2.2] at hw;simp at hw
     ·cases h
    ·cases h
   ·split at h
    ·split at h
     ·split at h
      ·split at h
       ·split at h
        ·cases h
        ·split at h
         ·simp only [Xa,Xb] at h;rw [<-h.2.2] at hw;simp at hw
         ·cases h
       ·cases h
      ·cases h
     ·cases h
    ·split at h
     ·split at h
      ·split at h
       ·simp only [Xa,Xb] at h;rw [<-h.2.2] at hw;simp at hw
       ·cases h
      ·cases h
     ·cases h
    ·cases h
   ·cases h
  ·cases h
 | slice k x lo hi mx=>simp only [execI] at h ⊢;exact Zqu h hw
 | iaddr k x i=>simp only [execI] at h ⊢;exact Zlk h
 | app k b z x y=>simp only [execI] at h ⊢;exact ZwF h hw ha
 | b2s x =>
  simp only [execI] at h
  split at h
  ·rename_i xs ts he
   split at h
   ·rename_i l hl
    simp only [Xa,Xb] at h
    obtain ⟨rfl,rfl,rfl⟩:=h
    refine ⟨none,rfl,by simp,by simp,(Zf8 he).nonfree,fun σ2 hA=>?_⟩
    simp only [execI,Zdr he hA,hl,Zak]
   ·cases h
  ·cases h
 | s2s x =>
  simp only [execI] at h
  split at h
  ·split at h
   ·split at h
    ·simp only [Xa,Xb] at h;rw [<-h.2.2] at hw;simp at hw
    ·cases h
   ·cases h
  ·cases h
 | call f own vw xs=>simp only [execI] at h ⊢;exact ZkT (fun ho=>by simp [nsite,ho]) h hw ha
 | callv x xs =>
  simp only [execI] at h
  split at h
  ·rename_i f caps e
   have:=ZkT (ns:=nsite (.callv x xs)) (fun ho=>absurd ho (by decide)) h hw ha
   have he:(fun σ=>execI O bf tm σ sq (.callv x xs))=fun σ=>Zr O bf σ sq (if f < 1000000 then f else f - 1000000) 4 false (if f < 1000000 then xs.map (·.ev tm)++caps else caps++xs.map (·.ev tm)):=by funext σ;simp only [execI,e]
   rw [he];exact this
  ·cases h
 | mki t x =>
  simp only [execI] at h
  split at h
  ·cases h
  ·cases h
  ·cases h
  ·simp only [Xa,Xb] at h;obtain ⟨rfl,rfl,rfl⟩:=h;exact Framed.pure rfl (fun σ2=>by simp only [execI])
 | panic x =>
  simp only [execI] at h
  split at h
  ·rename_i e;simp only [Xa,Xb] at h;obtain ⟨rfl,rfl,rfl⟩:=h;exact Framed.pure rfl (fun σ2=>by simp only [execI,e])
  ·cases h
 | eqv neg ks x y =>
  simp only [execI] at h
  split at h
  ·rename_i e1 e2
   split at h
   ·rename_i e4
    split at h
    ·rename_i e3;simp only [Xa,Xb] at h;obtain ⟨rfl,rfl,rfl⟩:=h;exact Framed.pure rfl (fun σ2=>by simp only [execI,e1,e2,e3,e4,if_true])
    ·cases h
   ·cases h
  ·cases h
 | ieq neg x y =>
  simp only [execI] at h
  split at h
  ·rename_i e1 e2;simp only [Xa,Xb] at h;obtain ⟨rfl,rfl,rfl⟩:=h;exact Framed.pure rfl (fun σ2=>by simp only [execI,e1,e2])
  ·rename_i e1 e2;simp only [Xa,Xb] at h;obtain ⟨rfl,rfl,rfl⟩:=h;exact Framed.pure rfl (fun σ2=>by simp only [execI,e1,e2])
  ·rename_i e1 e2;simp only [Xa,Xb] at h;obtain ⟨rfl,rfl,rfl⟩:=h;exact Framed.pure rfl (fun σ2=>by simp only [execI,e1,e2])
  ·cases h
 | mov x=>simp only [execI,Xa,Xb] at h;obtain ⟨rfl,rfl,rfl⟩:=h;exact Framed.pure rfl (fun σ2=>rfl)
 | mkfn f xs=>simp only [execI,Xa,Xb] at h;obtain ⟨rfl,rfl,rfl⟩:=h;exact Framed.pure rfl (fun σ2=>rfl)
 | bin op x y =>
  simp only [execI] at h
  obtain ⟨rfl,rfl,hx⟩:=Zbs h
  exact Framed.pure rfl (fun σ2=>by simp only [execI,hx,XK])
 | un op x =>
  simp only [execI] at h
  obtain ⟨rfl,rfl,hx⟩:=Zbs h
  exact Framed.pure rfl (fun σ2=>by simp only [execI,hx,XK])
 | faddr off x =>
  simp only [execI] at h
  obtain ⟨rfl,rfl,hx⟩:=Zbs h
  exact Framed.pure rfl (fun σ2=>by simp only [execI,hx,XK])
 | pick a b d =>
  simp only [execI] at h
  unfold Zc0 at h
  split at h
  ·rename_i e;simp only [Xa,Xb] at h;obtain ⟨rfl,rfl,rfl⟩:=h;exact Framed.pure rfl (fun σ2=>by simp only [execI,Zc0,e])
  ·rename_i e;simp only [Xa,Xb] at h;obtain ⟨rfl,rfl,rfl⟩:=h;exact Framed.pure rfl (fun σ2=>by simp only [execI,Zc0,e])
  ·cases h
 | build zs ps =>
  simp only [execI] at h
  split at h
  ·rename_i cs hf
   simp only [Xa,Xb] at h;obtain ⟨rfl,rfl,rfl⟩:=h
   exact Framed.pure rfl (fun σ2=>by simp only [execI,hf])
  ·cases h
 | i2i k x =>
  simp only [execI] at h
  split at h
  ·rename_i e;simp only [Xa,Xb] at h;obtain ⟨rfl,rfl,rfl⟩:=h;exact Framed.pure rfl (fun σ2=>by simp only [execI,e])
  ·cases h
 | i2s x =>
  simp only [execI] at h
  split at h
  ·rename_i e;simp only [Xa,Xb] at h;obtain ⟨rfl,rfl,rfl⟩:=h;exact Framed.pure rfl (fun σ2=>by simp only [execI,e])
  ·cases h
 | same x =>
  simp only [execI] at h
  split at h
  ·rename_i e;simp only [Xa,Xb] at h;obtain ⟨rfl,rfl,rfl⟩:=h;exact Framed.pure rfl (fun σ2=>by simp only [execI,e])
  ·cases h
 | s2b x =>
  simp only [execI] at h
  split at h
  ·rename_i e;simp only [Xa,Xb] at h;obtain ⟨rfl,rfl,rfl⟩:=h;exact Framed.pure rfl (fun σ2=>by simp only [execI,e])
  ·cases h
 | sslice x lo hi =>
  simp only [execI] at h
  split at h
  ·rename_i s e
   split at h
   ·cases h
   rename_i h1 hh
   split at h
   ·cases h
   rename_i l hl
   simp only [Xa,Xb] at h;obtain ⟨rfl,rfl,rfl⟩:=h
   exact Framed.pure rfl (fun σ2=>by simp only [execI,e,hh,hl])
  ·cases h
 | field k off x =>
  simp only [execI] at h
  split at h
  ·rename_i cs e
   obtain ⟨rfl,rfl,hx⟩:=Zbs h
   exact Framed.pure rfl (fun σ2=>by simp only [execI,e,hx,XK])
  ·cases h
 | aaddr k n x i =>
  simp only [execI] at h
  split at h
  ·rename_i e
   split at h
   ·rename_i hc
    obtain ⟨rfl,rfl,hx⟩:=Zbs h
    exact Framed.pure rfl (fun σ2=>by simp only [execI,e];rw [if_pos hc,hx];rfl)
   ·cases h
  ·cases h
 | sindex x i =>
  simp only [execI] at h
  split at h
  ·rename_i e1 e2
   split at h
   ·rename_i hc
    simp only [Xf,Xb] at h
    obtain ⟨b,hb,rfl,rfl,rfl⟩:=h
    exact Framed.pure rfl (fun σ2=>by simp only [execI,e1,e2];rw [if_pos hc,hb];rfl)
   ·cases h
  ·cases h
 | aindex s k n x i =>
  simp only [execI] at h
  split at h
  ·rename_i e1 e2
   split at h
   ·rename_i hc
    obtain ⟨rfl,rfl,hx⟩:=Zbs h
    exact Framed.pure rfl (fun σ2=>by simp only [execI,e1,e2];rw [if_pos hc,hx];rfl)
   ·cases h
  ·cases h
 | ext x i =>
  simp only [execI] at h
  split at h
  ·rename_i e
   obtain ⟨rfl,rfl,hx⟩:=Zbs h
   exact Framed.pure rfl (fun σ2=>by simp only [execI,e,hx,XK])
  ·cases h
 | len x =>
  simp only [execI] at h
  split at h
  ·rename_i e;simp only [Xa,Xb] at h;obtain ⟨rfl,rfl,rfl⟩:=h;exact Framed.pure rfl (fun σ2=>by simp only [execI,e])
  ·rename_i e;simp only [Xa,Xb] at h;obtain ⟨rfl,rfl,rfl⟩:=h;exact Framed.pure rfl (fun σ2=>by simp only [execI,e])
  ·cases h
 | slen x =>
  simp only [execI] at h
  split at h
  ·rename_i e;simp only [Xa,Xb] at h;obtain ⟨rfl,rfl,rfl⟩:=h;exact Framed.pure rfl (fun σ2=>by simp only [execI,e])
  ·cases h
 | mm m xs =>
  simp only [execI] at h
  split at h
  ·rename_i e;simp only [Xa,Xb] at h;obtain ⟨rfl,rfl,rfl⟩:=h;exact Framed.pure rfl (fun σ2=>by simp only [execI,e])
  ·cases h
 | nilchk x =>
  simp only [execI] at h
  split at h
  ·rename_i e;simp only [Xa,Xb] at h;obtain ⟨rfl,rfl,rfl⟩:=h;exact Framed.pure rfl (fun σ2=>by simp only [execI,e])
  ·rename_i e;simp only [Xa,Xb] at h;obtain ⟨rfl,rfl,rfl⟩:=h;exact Framed.pure rfl (fun σ2=>by simp only [execI,e])
  ·rename_i e;simp only [Xa,Xb] at h;obtain ⟨rfl,rfl,rfl⟩:=h;exact Framed.pure rfl (fun σ2=>by simp only [execI,e])
  ·cases h
 | beq neg x y =>
  simp only [execI] at h
  split at h
  ·rename_i e1 e2;simp only [Xa,Xb] at h;obtain ⟨rfl,rfl,rfl⟩:=h;exact Framed.pure rfl (fun σ2=>by simp only [execI,e1,e2])
  ·cases h
 | peq neg x y =>
  simp only [execI] at h
  split at h
  ·rename_i e1 e2;simp only [Xa,Xb] at h;obtain ⟨rfl,rfl,rfl⟩:=h;exact Framed.pure rfl (fun σ2=>by simp only [execI,e1,e2])
  ·rename_i e1 e2;simp only [Xa,Xb] at h;obtain ⟨rfl,rfl,rfl⟩:=h;exact Framed.pure rfl (fun σ2=>by simp only [execI,e1,e2])
  ·rename_i e1 e2;simp only [Xa,Xb] at h;obtain ⟨rfl,rfl,rfl⟩:=h;exact Framed.pure rfl (fun σ2=>by simp only [execI,e1,e2])
  ·cases h
theorem ZlI {ins:Ins} {v:AVal} {c:Cls} (ht:ins.touches=false) (h:execI O bf tm σ sq ins=some (v,σ',c)):c={}/\nsite ins=0:=by
 cases ins <;> simp [Ins.touches] at ht <;> refine ⟨?_,rfl⟩ <;> simp only [execI] at h
 case mov x=>simp only [Xa,Xb] at h;exact h.2.2.symm
 case mkfn f xs=>simp only [Xa,Xb] at h;exact h.2.2.symm
 case bin op x y=>exact (Zbs h).2.1
 case un op x=>exact (Zbs h).2.1
 case faddr off x=>exact (Zbs h).2.1
 case pick c x y =>
  unfold Zc0 at h
  split at h
  ·simp only [Xa,Xb] at h;exact h.2.2.symm
  ·simp only [Xa,Xb] at h;exact h.2.2.symm
  ·cases h
 all_goals
  repeat' (split at h)
  all_goals first
   | (cases h;done)
   | (simp only [Xa,Xb] at h;exact h.2.2.symm)
   | exact (Zbs h).2.1
   | (simp only [Xf,Xb] at h;obtain ⟨_,_,_,_,h⟩:=h;exact h.symm)
theorem Zni {ins:Ins} {v:AVal} {c:Cls} (ht:ins.touches=false) (h:execI O bf tm σ sq ins=some (v,σ',c)):σ'=σ:=by
 cases ins <;> simp [Ins.touches] at ht <;> simp only [execI] at h
 case mov x=>simp only [Xa,Xb] at h;exact h.2.1.symm
 case mkfn f xs=>simp only [Xa,Xb] at h;exact h.2.1.symm
 case bin op x y=>exact (Zbs h).1
 case un op x=>exact (Zbs h).1
 case faddr off x=>exact (Zbs h).1
 case pick c x y =>
  unfold Zc0 at h
  split at h
  ·simp only [Xa,Xb] at h;exact h.2.1.symm
  ·simp only [Xa,Xb] at h;exact h.2.1.symm
  ·cases h
 all_goals
  repeat' (split at h)
  all_goals first
   | (cases h;done)
   | (simp only [Xa,Xb] at h;exact h.2.1.symm)
   | exact (Zbs h).1
   | (simp only [Xf,Xb] at h;obtain ⟨_,_,_,h,_⟩:=h;exact h.symm)
end
end
section
open Go.RowKit
section
variable {O:Zo} {bf:Nat->Bool} {tm:Tms} {σ σ':Za} {sq s:Nat} {b:Zl}
theorem Zdy:∀ (ts:List Nat) (σ:Za),(Zh σ ts)[s]?=some .free↔σ[s]?=some .free
 | [],σ=>Iff.rfl
 | t::ts,σ=>by
  simp only [Zh]
  split
  ·rename_i g k xs hs
   rw [Zdy ts,Xh]
   split
   ·rename_i e;subst e
    split
    ·simp [hs]
    ·simp [hs]
   ·exact Iff.rfl
  ·exact Zdy ts σ
theorem ZhN {cs:List AVal} {t:Nat}:∀ (ts:List Nat) (σ:Za),σ[t]?=some (.var cs)->(Zh σ ts)[t]?=some (.var cs)
 | [],σ,h=>h
 | u::ts,σ,h=>by
  simp only [Zh]
  split
  ·rename_i g k xs hs
   refine ZhN ts _ ?_
   rw [Xh]
   split
   ·rename_i e;subst e;rw [hs] at h;cases h
   ·exact h
  ·exact ZhN ts σ h
theorem ZhU:∀ (ts:List Nat) (σ:Za),s ∉ ts->Zh (σ.set s b) ts=(Zh σ ts).set s b
 | [],σ,_=>rfl
 | t::ts,σ,h=>by
  simp only [XE,not_or] at h
  have e:(σ.set s b)[t]?=σ[t]?:=by rw [Xh,if_neg h.1]
  simp only [Zh,e]
  split
  ·rw [WJ _ _ h.1,ZhU ts _ h.2]
  ·exact ZhU ts σ h.2
theorem ZdE {t:Nat} (h:s≠t):(σ.set s b).getD t .free=σ.getD t .free:=by
 rw [Xd,Xd,Xh,if_neg h]
theorem Zh2:∀ (n:Nat) (todo acc:List Nat),∀ x ∈ acc,x ∈ Zi σ n todo acc
 | 0,_,acc,x,h=>h
 | n+1,[],acc,x,h=>h
 | n+1,t::todo,acc,x,h=>by
  simp only [Zi]
  split
  ·exact Zh2 n todo acc x h
  ·exact Zh2 n _ _ x (by simp [h])
theorem Zh6:∀ (n:Nat) (todo acc:List Nat),s ∉ Zi σ n todo acc->Zi (σ.set s b) n todo acc=Zi σ n todo acc
 | 0,_,acc,_=>rfl
 | n+1,[],acc,_=>rfl
 | n+1,t::todo,acc,h=>by
  simp only [Zi] at h ⊢
  split
  ·rename_i hc;rw [if_pos hc] at h;exact Zh6 n todo acc h
  ·rename_i hc
   rw [if_neg hc] at h
   have hne:s≠t:=by
    rintro rfl
    exact h (Zh2 n _ _ s (by simp))
   rw [ZdE hne]
   exact Zh6 n _ _ h
theorem Zro {m:Nat} {ids:List Nat} (h:s ∉ ids):Zf (σ.set s b) m ids=Zf σ m ids:=by
 funext t g
 unfold Zf
 split
 ·rename_i j hj
  obtain ⟨k,_,hk⟩:=ZhW hj
  have : s≠t:=by rintro rfl;exact h (Xu hk)
  rw [Xh,if_neg this]
 ·rfl
theorem Zis {m:Nat} {ids:List Nat} {ρ:Rho}:∀ (ts:List Nat) (j:Nat),s ∉ ts->Zj (σ.set s b) m ids ρ ts j=Zj σ m ids ρ ts j
 | [],_,_=>rfl
 | t::ts,j,h=>by
  simp only [XE,not_or] at h
  simp only [Zj,ZdE h.1,Zis ts (j+1) h.2]
theorem Zj3 {ids:List Nat} (h:s ∉ ids):∀ (hp:Za) (j:Nat),ZbJ (σ.set s b) ids hp j=ZbJ σ ids hp j
 | [],_=>rfl
 | x::xs,j=>by
  simp only [ZbJ,Zj3 h xs (j+1)]
  congr 2
  split
  ·rename_i t ht
   have : s≠t:=by rintro rfl;exact h (Xu ht)
   rw [ZdE this]
  ·rfl
theorem Zjt:∀ (n sq:Nat),(∀ i,i < n->sq+i≠s)->Zb7 (σ.set s b) sq n=Zb7 σ sq n
 | 0,_,_=>rfl
 | n+1,sq,h=>by
  have h0:=h 0 (by omega)
  simp only [Zb7,freeAt]
  rw [Xh,if_neg (by intro e;exact h0 (by simpa using e.symm)),Zjt n (sq+1) (fun i hi=>by have:=h (i+1) (by omega);rwa [show sq+1+i=sq+(i+1) by omega])]
theorem Zj2 {ids:List Nat} (h:s ∉ ids):ZaA (σ.set s b) ids sq=ZaA σ ids sq:=by
 funext j g
 unfold ZaA
 split
 ·rename_i t ht
  have : s≠t:=by rintro rfl;exact h (Xu ht)
  rw [ZdE this]
 ·rfl
theorem ZiF {σ0:Za} {ids:List Nat} (h:s ∉ ids):∀ (hp:Za) (j:Nat) (σ:Za),(∀ i,i < hp.length->Zar ids sq (j+i)≠s)->ZaR (σ0.set s b) ids sq hp j (σ.set s b)=(ZaR σ0 ids sq hp j σ).set s b
 | [],_,_,_=>rfl
 | x::xs,j,σ,hn=>by
  have h0:=hn 0 (by simp)
  simp only [XU] at h0
  have eg:ZbL (σ0.set s b) ids j x=ZbL σ0 ids j x:=by
   unfold ZbL
   split
   ·rename_i t ht
    have : s≠t:=by rintro rfl;exact h (Xu ht)
    rw [ZdE this]
   ·rfl
  simp only [ZaR,Zj2 h,eg]
  rw [WJ _ _ (Ne.symm h0)]
  exact ZiF h xs (j+1) _ (fun i hi=>by have:=hn (i+1) (by simp;omega);rwa [show j+1+i=j+(i+1) by omega])
theorem Zjs:∀ (ids:List Nat),s ∉ ids->ZbM (σ.set s b) ids=ZbM σ ids
 | [],_=>rfl
 | t::ts,h=>by
  simp only [XE,not_or] at h
  simp only [ZbM,Xh,if_neg h.1,Zjs ts h.2]
theorem Zxc {ρ:Rho} {g:Nat} {x:Zl} (h:okB x=true):Zn ρ g x≠.free:=by
 cases x <;> simp [okB] at h <;> simp [Zn]
theorem Zh3 {σ0:Za} {ids:List Nat}:∀ (hp:Za) (j:Nat) (σ:Za),ZbJ σ0 ids hp j=true->(ZaR σ0 ids sq hp j σ)[s]?=some .free->σ[s]?=some .free
 | [],_,_,_,h=>h
 | x::xs,j,σ,hk,h=>by
  simp only [ZbJ,Xc] at hk
  simp only [ZaR] at h
  have:=Zh3 xs (j+1) _ hk.2 h
  rw [Xh] at this
  split at this
  ·split at this
   ·injection this with this;exact absurd this (Zxc hk.1.1)
   ·cases this
  ·exact this
theorem Zk3 {ts:List Nat} (h:ZcJ σ ts) (hs:σ[s]?=some .free):s ∉ ts:=by
 intro hm
 obtain ⟨x,hx,hne⟩:=h s hm
 rw [hs] at hx;injection hx with hx;exact hne hx.symm
theorem ZjB {f own:Nat} {view:Bool} {args:List AVal} {v:AVal} {c:Cls} (h:Zr O bf σ sq f own view args=some (v,σ',c)) (hs':σ'[s]?=some .free) (hne:∀ i,i < own->sq+i≠s) :
  σ[s]?=some .free/\Zr O bf (σ.set s b) sq f own view args=some (v,σ'.set s b,c):=by
 unfold Zr at h
 split at h
 ·cases h
 rename_i xs ts hsh
 have hnf:ZcJ σ ts:=by
  unfold ZbE at hsh
  split at hsh
  ·simp only [Xa,Xb] at hsh
   rw [<-hsh.2];exact ZbW
  ·exact (Zfp hsh).nonfree
 have hag:∀ σ2,Agree σ σ2 ts->ZbE (bf f) σ2 args=some (xs,ts):=by
  intro σ2 hA
  unfold ZbE at hsh ⊢
  split at hsh
  ·rename_i hb;rw [if_pos hb];exact hsh
  ·rename_i hb;rw [if_neg hb];exact ZhC hsh hA
 generalize hids:Zi (Zh σ ts) 1000 (ZR xs) []=ids at h
 unfold Zbg at h
 split at h
 case isFalse=>cases h
 rename_i hall
 generalize hq:Zat view ids.length (O f (ZH (Zf (Zh σ ts) 0 ids) xs) (Zj (Zh σ ts) 0 ids (Zf (Zh σ ts) 0 ids) ids 0))=q at h
 have key:σ[s]?=some .free->s ∉ ts/\s ∉ ids/\Zr O bf (σ.set s b) sq f own view args=Zaj (σ.set s b) ((Zh σ ts).set s b) ids ts sq own q:=by
  intro hs
  have n1:=Zk3 hnf hs
  have hsf:(Zh σ ts)[s]?=some .free:=(Zdy ts σ).2 hs
  have n2:s ∉ ids:=by
   intro hm
   have:=Xp.1 hall s hm
   rw [Xd,hsf] at this
   simp [okB] at this
  refine ⟨n1,n2,?_⟩
  unfold Zr
  rw [hag _ (fun t ht=>by rw [Xh,if_neg (by rintro rfl;exact n1 ht)])]
  simp only
  rw [ZhU ts σ n1,Zh6 _ _ _ (by rw [hids];exact n2),hids]
  unfold Zbg
  have hall2:(ids.all fun t=>okB (((Zh σ ts).set s b).getD t .free))=true:=by
   rw [Xp] at hall ⊢
   intro t ht
   rw [ZdE (by rintro rfl;exact n2 ht)]
   exact hall t ht
  rw [if_pos hall2,Zro n2,Zis ids 0 n2,hq]
 cases q with
 | none=>simp only [Zaj] at h;cases h
 | some q =>
  obtain ⟨r,hp⟩:=q
  simp only [Zaj] at h
  split at h
  ·rename_i hc
   split at h
   ·rename_i hf
    simp only [Xa,Xb] at h
    obtain ⟨rfl,rfl,rfl⟩:=h
    obtain ⟨n1,n2,k⟩:=key hs'
    refine ⟨hs',?_⟩
    rw [k]
    simp only [Zaj,hc,if_true,hf]
   split at h
   ·rename_i hf hap
    simp only [Xa,Xb] at h
    obtain ⟨rfl,rfl,rfl⟩:=h
    obtain ⟨n1,n2,k⟩:=key hs'
    refine ⟨hs',?_⟩
    have hap2:Zbt (σ.set s b) ts r=true:=by
     unfold Zbt at hap ⊢
     simp only [Xc] at hap ⊢
     refine ⟨hap.1,Xp.2 fun t ht=>?_⟩
     have:=Xp.1 hap.2 t ht
     unfold Zcq at this ⊢
     rw [Xh,if_neg (by rintro rfl;exact n1 ht)];exact this
    rw [k]
    simp only [Zaj,hc,if_true,hf,hap2,if_false,Xo]
   ·rename_i hf hap
    simp only [Xa,Xb] at h
    obtain ⟨rfl,rfl,rfl⟩:=h
    have hs:=(Zdy ts σ).1 hs'
    obtain ⟨n1,n2,k⟩:=key hs
    refine ⟨hs,?_⟩
    have hap2:¬Zbt (σ.set s b) ts r=true:=by
     intro h2
     refine hap ?_
     unfold Zbt at h2 ⊢
     simp only [Xc] at h2 ⊢
     refine ⟨h2.1,Xp.2 fun t ht=>?_⟩
     have:=Xp.1 h2.2 t ht
     unfold Zcq at this ⊢
     rw [Xh,if_neg (by rintro rfl;exact n1 ht)] at this;exact this
    rw [k]
    simp only [Zaj,hc,if_true,hf,if_neg hap2,if_false,Xo]
  ·rename_i hc
   split at h
   ·rename_i lo n k xs' hcl
    simp only [Xa,Xb] at h
    obtain ⟨rfl,rfl,rfl⟩:=h
    have hown:own=1:=by
     split at hcl
     case isFalse=>cases hcl
     unfold ZeA at hcl
     split at hcl
     case h_2=>cases hcl
     split at hcl
     case isFalse=>cases hcl
     rename_i hcc
     simp only [Xc,decide_eq_true_eq] at hcc
     exact hcc.1
    have hns:sq≠s:=by have:=hne 0 (by omega);simpa using this
    have hs:σ[s]?=some .free:=by rwa [Xh,if_neg hns] at hs'
    obtain ⟨n1,n2,kk⟩:=key hs
    refine ⟨hs,?_⟩
    rw [kk]
    simp only [Zaj]
    rw [if_neg hc,hcl]
    simp only
    rw [WJ _ _ (Ne.symm hns)]
   split at h
   ·rename_i hcl hcc
    simp only [Xa,Xb] at h
    obtain ⟨rfl,rfl,rfl⟩:=h
    simp only [Xc,decide_eq_true_eq] at hcc
    obtain ⟨⟨⟨c1,c2⟩,c3⟩,c4⟩:=hcc
    have hs:=(Zdy ts σ).1 (Zh3 hp 0 _ c3 hs')
    obtain ⟨n1,n2,kk⟩:=key hs
    refine ⟨hs,?_⟩
    rw [kk]
    have htg:∀ i,i < hp.length->Zar ids sq (0+i)≠s:=by
     intro i hi e
     rw [XG] at e
     unfold Zar at e
     rw [Xd] at e
     rcases WX i ids.length with hl | hl
     ·rw [Xy hl] at e
      simp only [Wt] at e
      exact n2 (e ▸ WC hl)
     ·rw [XN hl] at e
      exact hne (i - ids.length) (by omega) e
    simp only [Zaj]
    rw [if_neg hc,hcl]
    simp only [c1,c2,decide_true,Bool.true_and,Zj3 n2,c3,Zjt own sq hne,c4,Ww,if_true,Zj2 n2,ZiF n2 hp 0 _ htg,Zjs ids n2]
   ·cases h
theorem ZnD {f own:Nat} {view:Bool} {args:List AVal} {v:AVal} {c:Cls} (h:Zr O bf σ sq f own view args=some (v,σ',c)) (hs:σ'[s]?=some .free):σ[s]?=some .free:=by
 unfold Zr at h
 split at h
 ·cases h
 rename_i xs ts hsh
 unfold Zbg at h
 split at h
 case isFalse=>cases h
 generalize Zi (Zh σ ts) 1000 (ZR xs) []=ids at h
 generalize Zat view ids.length (O f (ZH (Zf (Zh σ ts) 0 ids) xs) (Zj (Zh σ ts) 0 ids (Zf (Zh σ ts) 0 ids) ids 0))=q at h
 cases q with
 | none=>simp only [Zaj] at h;cases h
 | some q =>
  obtain ⟨r,hp⟩:=q
  simp only [Zaj] at h
  split at h
  ·split at h
   ·simp only [Xa,Xb] at h
    rw [h.2.1];exact hs
   split at h
   ·simp only [Xa,Xb] at h
    rw [h.2.1];exact hs
   ·simp only [Xa,Xb] at h
    rw [<-h.2.1] at hs
    exact (Zdy ts σ).1 hs
  ·split at h
   ·simp only [Xa,Xb] at h
    rw [<-h.2.1,Xh] at hs
    split at hs
    ·split at hs <;> simp at hs
    ·exact hs
   split at h
   ·rename_i hcc
    simp only [Xa,Xb] at h
    rw [<-h.2.1] at hs
    simp only [Xc,decide_eq_true_eq] at hcc
    exact (Zdy ts σ).1 (Zh3 hp 0 _ hcc.1.2 hs)
   ·cases h
theorem Zhs {t:Nat} {cs:List AVal}:∀ {ids:List Nat},(ZbM σ ids).lookup t=some cs->σ[t]?=some (.var cs)
 | [],h=>by simp [ZbM] at h
 | u::us,h=>by
  simp only [ZbM] at h
  split at h
  ·rename_i cs' hu
   rw [WM] at h
   split at h
   ·rename_i e
    injection h with h;subst h
    have : t=u:=by simpa using e
    rw [this];exact hu
   ·exact Zhs h
  ·exact Zhs h
theorem Zgm {t:Nat} {cs:List AVal}:∀ {ids:List Nat},(ZbM σ ids).lookup t=none->t ∈ ids->σ[t]?≠some (.var cs)
 | u::us,h,hm=>by
  intro hv
  simp only [ZbM] at h
  rcases XE.1 hm with e | hm
  ·subst e
   rw [hv] at h
   simp only [WM,beq_self_eq_true] at h
   cases h
  ·split at h
   ·rw [WM] at h
    split at h
    ·cases h
    ·exact Zgm h hm hv
   ·exact Zgm h hm hv
theorem Zkw {σ0:Za} {ids:List Nat} {t:Nat}:∀ (hp:Za) (j:Nat) (σ:Za),(∀ i x,hp[i]?=some x->Zar ids sq (j+i)=t->∃ cs,x=.var cs)->(∃ cs,σ[t]?=some (.var cs))->∃ cs,(ZaR σ0 ids sq hp j σ)[t]?=some (.var cs)
 | [],_,_,_,h=>h
 | x::xs,j,σ,hv,⟨cs,h⟩=>by
  simp only [ZaR]
  refine Zkw xs (j+1) _ (fun i y hy e=>hv (i+1) y (by simpa using hy) (by rwa [show j+(i+1)=j+1+i by omega])) ?_
  rw [Xh]
  split
  ·rename_i e
   obtain ⟨cs',rfl⟩:=hv 0 x rfl (by simpa using e)
   split
   ·exact ⟨_,rfl⟩
   ·rename_i hl
    rw [e] at hl
    rw [XN (by omega)] at h;cases h
  ·exact ⟨cs,h⟩
theorem Zox {f own:Nat} {view:Bool} {args:List AVal} {v:AVal} {c:Cls} (h:Zr O bf σ sq f own view args=some (v,σ',c)) (ha:c.any=true) {t:Nat} {cs:List AVal} (ht:σ[t]?=some (.var cs)) :
  (c.upd.lookup t=none->σ'[t]?=some (.var cs))/\(∀ cs2,c.upd.lookup t=some cs2->σ'[t]?=some (.var cs2)):=by
 unfold Zr at h
 split at h
 ·cases h
 rename_i xs ts hsh
 generalize hids:Zi (Zh σ ts) 1000 (ZR xs) []=ids at h
 unfold Zbg at h
 split at h
 case isFalse=>cases h
 generalize Zat view ids.length (O f (ZH (Zf (Zh σ ts) 0 ids) xs) (Zj (Zh σ ts) 0 ids (Zf (Zh σ ts) 0 ids) ids 0))=q at h
 cases q with
 | none=>simp only [Zaj] at h;cases h
 | some q =>
  obtain ⟨r,hp⟩:=q
  simp only [Zaj] at h
  split at h
  ·split at h
   ·simp only [Xa,Xb] at h
    rw [<-h.2.2] at ha;cases ha
   split at h
   ·simp only [Xa,Xb] at h
    rw [<-h.2.2] at ha;cases ha
   ·simp only [Xa,Xb] at h
    rw [<-h.2.2] at ha;cases ha
  ·split at h
   ·simp only [Xa,Xb] at h
    rw [<-h.2.2] at ha;cases ha
   split at h
   ·rename_i hcc
    simp only [Xa,Xb] at h
    obtain ⟨_,rfl,rfl⟩:=h
    simp only [Xc,decide_eq_true_eq] at hcc
    obtain ⟨⟨⟨c1,c2⟩,c3⟩,c4⟩:=hcc
    have hf:=ZhN ts σ ht
    refine ⟨fun hn=>?_,fun cs2 hc2=>Zhs hc2⟩
    have tgt:∀ i,i < hp.length->Zar ids sq (0+i)=t->i < ids.length/\ids[i]?=some t:=by
     intro i hi e
     rw [XG] at e
     unfold Zar at e
     rw [Xd] at e
     rcases WX i ids.length with hl | hl
     ·rw [Xy hl] at e ⊢
      simp only [Wt] at e
      exact ⟨hl,by rw [e]⟩
     ·rw [XN hl] at e
      simp only [Xac] at e
      have:=ZeO c4 (i:=i - ids.length) (by omega)
      rw [e,hf] at this;cases this
    by_cases hm:t ∈ ids
    ·exfalso
     obtain ⟨cs3,h3⟩:=Zkw (σ0:=Zh σ ts) (sq:=sq) (ids:=ids) (t:=t) hp 0 (Zh σ ts) (fun i x hx e=>by
      obtain ⟨hl,hi⟩:=tgt i (Xe.1 hx).1 e
      have:=(Zeb c3 hx).2
      rw [XG,hi] at this
      simp only at this
      have hk:=this.1
      rw [Xd,hf] at hk
      simp only [Wt] at hk
      cases x <;> simp [ZeL] at hk
      exact ⟨_,rfl⟩) ⟨_,hf⟩
     exact Zgm hn hm h3
    ·rw [Ze9 (fun i hi e=>hm (by
      obtain ⟨hl,hi⟩:=tgt i hi e
      exact Xu hi))]
     exact hf
   ·cases h
end
end
section
open Go.RowKit
section
variable {P:Program} {O:Zo} {bf:Nat->Bool} {tm tm1 tm2:Tms} {σ σ' σ1 σ2:Za} {sq:Nat}
theorem Zio {d:Option Nat} {v:AVal} {n:Nat} (h:d≠some n):tget (tput tm d v) n=tget tm n:=by
 cases d with
 | none=>rfl
 | some d =>
  have : d≠n:=by rintro rfl;exact h rfl
  simp only [tput,Zel,this,if_false]
theorem ZkI {a b:Nat} (u v:AVal) (h:a≠b):∀ tm:Tms,tins b v (tins a u tm)=tins a u (tins b v tm)
 | []=>by
  simp only [tins]
  by_cases h1:a < b
  ·have h2:¬b < a:=by omega
   have h3:¬b=a:=by omega
   simp [h1,h2,h3,tins]
  ·have h2:b < a:=by omega
   have h3:¬a=b:=h
   simp [h1,h2,h3,tins]
 | (e,w)::r=>by
  have ih:=ZkI u v h r
  rcases Nat.lt_trichotomy e a with ha | ha | ha <;> rcases Nat.lt_trichotomy e b with hb | hb | hb
  ·rcases Nat.lt_or_gt_of_ne h with hab | hab
   ·have n1:¬b < a:=by omega
    have n2:¬b=a:=by omega
    simp [tins,ha,hb,hab,n1,n2]
   ·have n1:¬a < b:=by omega
    have n2:¬a=b:=h
    simp [tins,ha,hb,hab,n1,n2]
  ·subst hb
   have n1:¬a < e:=by omega
   have n2:¬a=e:=h
   simp [tins,ha,n1,n2]
  ·have n1:¬a < b:=by omega
   have n2:¬a=b:=h
   have n3:¬e < b:=by omega
   have n4:¬e=b:=by omega
   simp [tins,ha,n1,n2,n3,n4]
  ·subst ha
   have n1:¬b < e:=by omega
   have n2:¬b=e:=fun q=>h q.symm
   simp [tins,hb,n1,n2]
  ·exact absurd (ha.symm.trans hb) h
  ·subst ha
   have n3:¬e < b:=by omega
   have n4:¬e=b:=by omega
   simp [tins,n3,n4]
  ·have n1:¬b < a:=by omega
   have n2:¬b=a:=by omega
   have n3:¬e < a:=by omega
   have n4:¬e=a:=by omega
   simp [tins,hb,n1,n2,n3,n4]
  ·subst hb
   have n3:¬e < a:=by omega
   have n4:¬e=a:=by omega
   simp [tins,n3,n4]
  ·have n1:¬e < a:=by omega
   have n2:¬e=a:=by omega
   have n3:¬e < b:=by omega
   have n4:¬e=b:=by omega
   simp [tins,n1,n2,n3,n4,ih]
theorem ZcD {a b:Option Nat} (u v:AVal) (h:∀ d,a=some d->b≠some d):tput (tput tm a u) b v=tput (tput tm b v) a u:=by
 cases a with
 | none=>cases b <;> rfl
 | some a =>
  cases b with
  | none=>rfl
  | some b =>
   simp only [tput]
   exact ZkI u v (by rintro rfl;exact h a rfl rfl) tm
theorem Zb3 {g:Option (Nat×Bool)} (h:∀ j b,g=some (j,b)->tget tm j=tget tm1 j):Zay g tm=Zay g tm1:=by
 cases g with
 | none=>rfl
 | some g=>simp only [Zay];rw [h g.1 g.2 rfl]
theorem ZbZ {o:AOp} {j:Nat} {b:Bool} (h:o.guard=some (j,b)):j ∈ o.reads:=by simp [AOp.reads,h]
theorem Zdw {o:AOp} {n:Nat} (h:n ∈ o.ins.reads):n ∈ o.reads:=by simp [AOp.reads,h]
theorem Zdj {o:AOp} {v:AVal} {c:Cls} (h:Zd O bf o sq tm σ=some (v,tm1,σ1,c)):tm1=tput tm o.dst v/\∀ tm',(∀ n ∈ o.reads,tget tm n=tget tm' n)->Zd O bf o sq tm' σ=some (v,tput tm' o.dst v,σ1,c):=by
 unfold Zd at h
 split at h
 ·cases h
 ·rename_i hw
  simp only [Xa,Xb] at h
  obtain ⟨rfl,rfl,rfl,rfl⟩:=h
  refine ⟨rfl,fun tm' hr=>?_⟩
  simp only [Zd,Zb3 (g:=o.guard) (tm:=tm') (tm1:=tm) (fun j b hg=>(hr j (ZbZ hg)).symm),hw]
 ·rename_i hw
  split at h
  ·rename_i hf
   split at h
   ·rename_i v' σ'' c' he
    simp only [Xa,Xb] at h
    obtain ⟨rfl,rfl,rfl,rfl⟩:=h
    refine ⟨rfl,fun tm' hr=>?_⟩
    simp only [Zd,Zb3 (g:=o.guard) (tm:=tm') (tm1:=tm) (fun j b hg=>(hr j (ZbZ hg)).symm),hw]
    rw [if_pos hf,<-Zdu (tm:=tm) (tm':=tm') (fun n hn=>hr n (Zdw hn)),he]
   ·cases h
  ·cases h
theorem Zer {o:AOp} {v:AVal} {c:Cls} (h:Zd O bf o sq tm σ=some (v,tm1,σ1,c)) (hn:ZbV c=true) :
  ∃ ob,tm1=tput tm o.dst v/\σ1=Zak σ sq ob/\(ob.isSome=true->nsite o.ins≠0/\freeAt σ sq=true)/\ob≠some .free/\ZcJ σ c.rd /\
   ∀ tm' σ2,(∀ n ∈ o.reads,tget tm n=tget tm' n)->Agree σ σ2 c.rd->(nsite o.ins≠0->freeAt σ sq=true->freeAt σ2 sq=true)->Zd O bf o sq tm' σ2=some (v,tput tm' o.dst v,Zak σ2 sq ob,c):=by
 simp only [ZbV,Xc,WL,Wx] at hn
 unfold Zd at h
 split at h
 ·cases h
 ·rename_i hw
  simp only [Xa,Xb] at h
  obtain ⟨rfl,rfl,rfl,rfl⟩:=h
  refine ⟨none,rfl,rfl,by simp,by simp,ZbW,fun tm' σ2 hr _ _=>?_⟩
  simp only [Zd,Zb3 (g:=o.guard) (tm:=tm') (tm1:=tm) (fun j b hg=>(hr j (ZbZ hg)).symm),hw,Zak]
 ·rename_i hw
  split at h
  ·rename_i hf
   split at h
   ·rename_i v' σ'' c' he
    simp only [Xa,Xb] at h
    obtain ⟨rfl,rfl,rfl,rfl⟩:=h
    obtain ⟨ob,e1,e2,e3,e4,e5⟩:=Zsn he hn.1 hn.2
    refine ⟨ob,rfl,e1,fun ho=>⟨e2 ho,?_⟩,e3,e4,fun tm' σ2 hr hA hfr=>?_⟩
    ·have:=e2 ho
     simpa [this] using hf
    ·have hf2:(nsite o.ins == 0 || freeAt σ2 sq)=true:=by
      by_cases h0:nsite o.ins=0
      ·simp [h0]
      ·simp only [Wp,beq_iff_eq,h0,false_or] at hf ⊢
       exact hfr h0 hf
     simp only [Zd,Zb3 (g:=o.guard) (tm:=tm') (tm1:=tm) (fun j b hg=>(hr j (ZbZ hg)).symm),hw]
     have e5':execI O bf tm σ2 sq o.ins=some (v',Zak σ2 sq ob,c'):=e5 σ2 hA
     rw [if_pos hf2,<-Zdu (tm:=tm) (tm':=tm') (fun n hn=>hr n (Zdw hn)),e5']
   ·cases h
  ·cases h
theorem ZcB {s:Nat}:freeAt σ s=true↔σ[s]?=some .free:=by
 unfold freeAt
 split
 ·rename_i h;simp [h]
 ·rename_i h
  constructor
  ·intro h';cases h'
  ·intro h';exact absurd h' h
theorem Zex {s t:Nat} {ob:Option Zl} (h:ob.isSome=true->s≠t):(Zak σ s ob)[t]?=σ[t]?:=by
 cases ob with
 | none=>rfl
 | some b=>simp only [Zak];rw [Xh,if_neg (h rfl)]
theorem Zqg {s t:Nat} {ob oc:Option Zl} (h:ob.isSome=true->oc.isSome=true->s≠t):Zak (Zak σ s ob) t oc=Zak (Zak σ t oc) s ob:=by
 cases ob with
 | none=>cases oc <;> rfl
 | some b =>
  cases oc with
  | none=>rfl
  | some c=>simp only [Zak];exact WJ b c (h rfl rfl)
theorem Zvm {x y:AVal} (h:Zd1 x y=true):x=y:=by
 unfold Zd1 at h
 split at h
 all_goals first
  | rfl
  | (cases h;done)
  | (simp only [Xc,decide_eq_true_eq,beq_iff_eq] at h;simp_all;done)
theorem Zgq {o:AOp} {v:AVal} {c:Cls} (hc:Za8 o.ins=true) (h:Zd O bf o sq tm σ=some (v,tm1,σ1,c)) :
  (Zay o.guard tm=some false/\v=.tup []/\σ1=σ/\c={}) \/
  (Zay o.guard tm=some true/\(nsite o.ins == 0 || freeAt σ sq)=true/\∃ f own view args,own<=nsite o.ins/\(∀ tm' σ2 v2 σ3 c2,(∀ n ∈ o.reads,tget tm n=tget tm' n)->(nsite o.ins == 0 || freeAt σ2 sq)=true->Zr O bf σ2 sq f own view args=some (v2,σ3,c2)->Zd O bf o sq tm' σ2=some (v2,tput tm' o.dst v2,σ3,c2))/\Zr O bf σ sq f own view args=some (v,σ1,c)):=by
 unfold Zd at h
 split at h
 ·cases h
 ·rename_i hw
  simp only [Xa,Xb] at h
  obtain ⟨rfl,rfl,rfl,rfl⟩:=h
  exact Xn ⟨hw,rfl,rfl,rfl⟩
 ·rename_i hw
  split at h
  ·rename_i hf
   split at h
   ·rename_i v' σ'' c' he
    simp only [Xa,Xb] at h
    obtain ⟨rfl,rfl,rfl,rfl⟩:=h
    refine Xv ⟨hw,hf,?_⟩
    have gen:∀ tm' σ2,(∀ n ∈ o.reads,tget tm n=tget tm' n)->(nsite o.ins == 0 || freeAt σ2 sq)=true->∀ v2 σ3 c2,execI O bf tm σ2 sq o.ins=some (v2,σ3,c2)->Zd O bf o sq tm' σ2=some (v2,tput tm' o.dst v2,σ3,c2):=by
     intro tm' σ2 hr hf2 v2 σ3 c2 he2
     simp only [Zd,Zb3 (g:=o.guard) (tm:=tm') (tm1:=tm) (fun j b hg=>(hr j (ZbZ hg)).symm),hw]
     rw [if_pos hf2,<-Zdu (tm:=tm) (tm':=tm') (fun n hn=>hr n (Zdw hn)),he2]
    cases hins:o.ins with
    | call f own view args =>
     rw [hins] at he gen
     simp only [execI] at he gen
     refine ⟨f,own,view,args.map (·.ev tm),XL _,fun tm' σ2 v2 σ3 c2 hr hf2 h2=>?_,he⟩
     exact gen tm' σ2 hr hf2 v2 σ3 c2 h2
    | callv x args =>
     rw [hins] at he gen
     simp only [execI] at he
     split at he
     ·rename_i f caps hx
      refine ⟨(if f < 1000000 then f else f - 1000000),4,false,(if f < 1000000 then args.map (·.ev tm)++caps else caps++args.map (·.ev tm)),by simp [nsite],fun tm' σ2 v2 σ3 c2 hr hf2 h2=>?_,he⟩
      refine gen tm' σ2 hr hf2 v2 σ3 c2 ?_
      simp only [execI,hx]
      exact h2
     ·cases he
    | _=>rw [hins] at hc;simp [Za8] at hc
   ·cases h
  ·cases h
theorem Zxd {o:AOp} {v:AVal} {c:Cls} {s:Nat} (hc:Za8 o.ins=true) (h:Zd O bf o sq tm σ=some (v,tm1,σ1,c)) (hs:σ1[s]?=some .free) (hne:∀ i,i < nsite o.ins->sq+i≠s) :
  σ[s]?=some .free/\∀ b tm',(∀ n ∈ o.reads,tget tm n=tget tm' n)->Zd O bf o sq tm' (σ.set s b)=some (v,tput tm' o.dst v,σ1.set s b,c):=by
 have h0:=h
 rcases Zgq hc h with ⟨hw,rfl,rfl,rfl⟩ | ⟨hw,hf,f,own,view,args,ho,gen,hg⟩
 ·refine ⟨hs,fun b tm' hr=>?_⟩
  simp only [Zd,Zb3 (g:=o.guard) (tm:=tm') (tm1:=tm) (fun j b hg=>(hr j (ZbZ hg)).symm),hw]
 ·obtain ⟨k1,k2⟩:=ZjB (b:=.free) hg hs (fun i hi=>hne i (by omega))
  refine ⟨k1,fun b tm' hr=>gen tm' _ _ _ _ hr ?_ (ZjB (b:=b) hg hs (fun i hi=>hne i (by omega))).2⟩
  by_cases h0:nsite o.ins=0
  ·simp [h0]
  ·simp only [Wp,beq_iff_eq,h0,false_or,ZcB] at hf ⊢
   have:=hne 0 (by omega)
   rw [Xh,if_neg (by intro e;exact this (by simpa using e.symm))]
   exact hf
theorem Zw8 {o:AOp} {v:AVal} {c:Cls} {s:Nat} (hc:Za8 o.ins=true) (h:Zd O bf o sq tm σ=some (v,tm1,σ1,c)) (hs:σ1[s]?=some .free):σ[s]?=some .free:=by
 rcases Zgq hc h with ⟨hw,rfl,rfl,rfl⟩ | ⟨hw,hf,f,own,view,args,ho,gen,hg⟩
 ·exact hs
 ·exact ZnD hg hs
theorem ZtR {o:AOp} {v:AVal} {c:Cls} {t:Nat} {cs:List AVal} (hc:Za8 o.ins=true) (h:Zd O bf o sq tm σ=some (v,tm1,σ1,c)) (ha:c.any=true) (ht:σ[t]?=some (.var cs)) :
  (c.upd.lookup t=none->σ1[t]?=some (.var cs))/\(∀ cs2,c.upd.lookup t=some cs2->σ1[t]?=some (.var cs2)):=by
 rcases Zgq hc h with ⟨hw,rfl,rfl,rfl⟩ | ⟨hw,hf,f,own,view,args,ho,gen,hg⟩
 ·cases ha
 ·exact Zox hg ha ht
theorem ZuQ {σ σ1 : Za} {sq k bytes : Nat} {x y v : AVal} {c : Cls} {t : Nat} {cs : List AVal} (h : Zax σ sq k bytes x y = some (v, σ1, c)) (hs : sq ≠ t) (ht : σ[t]? = some (.var cs)) : σ1[t]? = some (.var cs) := by
  have key : ∀ (u : Nat) (b : Zl), (u = sq \/ ∃ b0, σ[u]? = some b0 /\ ∀ cs, b0 ≠ .var cs) -> (σ.set u b)[t]? = some (.var cs) := by
    intro u b hu
    rw [Xh, if_neg, ht]
    rintro rfl
    rcases hu with rfl | ⟨b0, h1, h2⟩
    . exact hs rfl
    . rw [ht] at h1; injection h1 with h1; exact h2 _ h1.symm
  unfold Zax at h
  repeat' split at h
  all_goals first
    | (cases h; done)
    | (unfold Zc9 at h
       repeat' split at h
       all_goals first
         | (cases h; done)
         | (simp only [Xa, Xb] at h
            obtain ⟨-, rfl, -⟩ := h
            first
              | exact key _ _ (Xn rfl)
              | exact key _ _ (Xv ⟨_, by assumption, by simp⟩)))
    | (simp only [Xa, Xb] at h
       obtain ⟨-, rfl, -⟩ := h
       first
         | exact ht
         | exact key _ _ (Xn rfl)
         | exact key _ _ (Xv ⟨_, by assumption, by simp⟩))
theorem Ztp {o:AOp} {v:AVal} {c:Cls} {t:Nat} {cs:List AVal} (hc:ZbC o.ins=true) (h:Zd O bf o sq tm σ=some (v,tm1,σ1,c)) (ht:σ[t]?=some (.var cs)):σ1[t]?=some (.var cs):=by
 unfold Zd at h
 split at h
 ·cases h
 ·simp only [Xa,Xb] at h
  obtain ⟨rfl,rfl,rfl,rfl⟩:=h
  exact ht
 ·split at h
  ·rename_i hf
   split at h
   ·rename_i v' σ'' c' he
    simp only [Xa,Xb] at h
    obtain ⟨rfl,rfl,rfl,rfl⟩:=h
    cases hins:o.ins with
    | app k bytes z x y =>
     rw [hins] at he hf
     simp only [execI] at he
     refine ZuQ he ?_ ht
     rintro rfl
     simp [nsite,freeAt,ht] at hf
    | _=>rw [hins] at hc;simp [ZbC] at hc
   ·cases h
  ·cases h
theorem Zjz {σ σ1 : Za} {sq k bytes : Nat} {x y v : AVal} {c : Cls} {s : Nat} (h : Zax σ sq k bytes x y = some (v, σ1, c)) (hs : σ1[s]? = some .free) : σ[s]? = some .free := by
  have key : ∀ (u : Nat) (b0 : Zl), b0 ≠ .free -> (σ.set u b0)[s]? = some .free -> σ[s]? = some .free := by
    intro u b0 hb hh
    rw [Xh] at hh
    split at hh
    . split at hh
      . injection hh with hh; exact absurd hh hb
      . cases hh
    . exact hh
  unfold Zax at h
  repeat' split at h
  all_goals first
    | (cases h; done)
    | (unfold Zc9 at h
       repeat' split at h
       all_goals first
         | (cases h; done)
         | (simp only [Xa, Xb] at h
            obtain ⟨-, rfl, -⟩ := h
            exact key _ _ (by simp) hs))
    | (simp only [Xa, Xb] at h
       obtain ⟨-, rfl, -⟩ := h
       first
         | exact hs
         | exact key _ _ (by simp) hs)
theorem ZtA {σ σ1 : Za} {sq k bytes : Nat} {x y v : AVal} {c : Cls} {s : Nat} (ha : c.any = false) (h : Zax σ sq k bytes x y = some (v, σ1, c)) (hs : σ[s]? = some .free) (hne : sq ≠ s) (b : Zl) : Zax (σ.set s b) sq k bytes x y = some (v, σ1.set s b, c) := by
  have get : ∀ (t : Nat) (b0 : Zl), σ[t]? = some b0 -> b0 ≠ .free -> (σ.set s b)[t]? = some b0 /\ s ≠ t := by
    intro t b0 h1 h2
    have hst : s ≠ t := by
      rintro rfl
      rw [hs] at h1; injection h1 with h1; exact h2 h1.symm
    exact ⟨by rw [Xad hst]; exact h1, hst⟩
  have hel : ∀ ys us, Zk σ y = some (ys, us) -> Zk (σ.set s b) y = some (ys, us) := by
    intro ys us he
    unfold Zk at he ⊢
    split at he
    . exact he
    . exact he
    . split at he
      . rename_i hr
        rw [(get _ _ hr (by simp)).1]; exact he
      . rename_i hr
        rw [(get _ _ hr (by simp)).1]; exact he
      . cases he
    . cases he
  unfold Zax at h
  cases he : Zk σ y with
  | none =>
    rw [he] at h
    simp only at h
    unfold Zc9 at h
    repeat' split at h
    all_goals first
      | (cases h; done)
      | (simp only [Xa, Xb] at h
         obtain ⟨-, -, rfl⟩ := h
         cases ha)
  | some z =>
    obtain ⟨ys, us⟩ := z
    rw [he] at h
    simp only at h
    unfold Zax
    rw [hel _ _ he]
    simp only
    split at h
    case isFalse => cases h
    rename_i hk
    rw [if_pos hk]
    split at h
    . split at h
      case isFalse => cases h
      rename_i h1
      simp only [Xa, Xb] at h
      obtain ⟨rfl, rfl, rfl⟩ := h
      simp only [h1, if_true]
      rw [WJ _ _ hne]
    . split at h
      case isFalse => cases h
      rename_i h1
      simp only [h1, and_self, if_true]
      split at h
      . simp only [Xa, Xb] at h
        obtain ⟨rfl, rfl, rfl⟩ := h
        rfl
      . simp only [Xa, Xb] at h
        obtain ⟨rfl, rfl, rfl⟩ := h
        rw [WJ _ _ hne]
    . split at h
      . rename_i hr
        obtain ⟨g1, g2⟩ := get _ _ hr (by simp)
        rw [g1]
        simp only
        split at h
        case isFalse => cases h
        rename_i h1
        rw [if_pos h1]
        split at h
        . rename_i h2
          rw [if_pos h2]
          simp only [Xa, Xb] at h
          obtain ⟨rfl, rfl, rfl⟩ := h
          rw [WJ _ _ g2]
        . rename_i h2
          rw [if_neg h2]
          split at h
          case isFalse => cases h
          rename_i h3
          rw [if_pos h3]
          simp only [Xa, Xb] at h
          obtain ⟨rfl, rfl, rfl⟩ := h
          rw [WJ _ _ g2]
      . cases h
    . cases h
theorem Zj9 {o:AOp} {v:AVal} {c:Cls} (hc:ZbC o.ins=true) (h:Zd O bf o sq tm σ=some (v,tm1,σ1,c)) :
  (Zay o.guard tm=some false/\v=.tup []/\σ1=σ/\c={})\/(freeAt σ sq=true/\∃ k bytes x y,Zax σ sq k bytes x y=some (v,σ1,c)/\∀ tm' σ2 v2 σ3 c2,(∀ n ∈ o.reads,tget tm n=tget tm' n)->freeAt σ2 sq=true->Zax σ2 sq k bytes x y=some (v2,σ3,c2)->Zd O bf o sq tm' σ2=some (v2,tput tm' o.dst v2,σ3,c2)):=by
 unfold Zd at h
 split at h
 ·cases h
 ·rename_i hw
  simp only [Xa,Xb] at h
  obtain ⟨rfl,rfl,rfl,rfl⟩:=h
  exact Xn ⟨hw,rfl,rfl,rfl⟩
 ·rename_i hw
  split at h
  ·rename_i hf
   split at h
   ·rename_i v' σ'' c' he
    simp only [Xa,Xb] at h
    obtain ⟨rfl,rfl,rfl,rfl⟩:=h
    cases hins:o.ins with
    | app k bytes z x y =>
     have he0:=he
     rw [hins] at he hf
     simp only [execI] at he
     refine Xv ⟨by simpa [nsite] using hf,k,bytes,_,_,he,fun tm' σ2 v2 σ3 c2 hr hf2 h2=>?_⟩
     simp only [Zd,Zb3 (g:=o.guard) (tm:=tm') (tm1:=tm) (fun j b hg=>(hr j (ZbZ hg)).symm),hw]
     rw [if_pos (by rw [hf2];simp),<-Zdu (tm:=tm) (tm':=tm') (fun n hn=>hr n (Zdw hn)),hins]
     simp only [execI,h2]
    | _=>rw [hins] at hc;simp [ZbC] at hc
   ·cases h
  ·cases h
theorem ZhB {t:Nat} {cs:List AVal}:∀ (ts:List Nat) (σ:Za),σ[t]?=some (.var cs)->(Zh σ ts)[t]?=some (.var cs)
 | [],σ,h=>h
 | u::ts,σ,h=>by
  unfold Zh
  split
  ·rename_i g k xs hu
   refine ZhB ts _ ?_
   rw [Xh,if_neg,h]
   rintro rfl
   rw [hu] at h;cases h
  ·exact ZhB ts σ h
theorem ZpM {σ σ1 : Za} {k : Nat} {a x v : AVal} {c : Cls} {t : Nat} {cs : List AVal} (h : stA σ k a x = some (v, σ1, c)) (hw : c.wr.contains t = false) (ht : σ[t]? = some (.var cs)) : σ1[t]? = some (.var cs) := by
  unfold stA at h
  repeat' split at h
  all_goals first
    | (cases h; done)
    | (simp only [Xa, Xb] at h
       obtain ⟨-, rfl, rfl⟩ := h
       simp only [List.contains_cons, List.contains_nil, Bool.or_false, Bool.or_eq_false_iff, beq_eq_false_iff_ne, ne_eq] at hw
       first
         | (rw [Xh, if_neg (fun e => hw e.symm)]; exact ht)
         | (rw [Xh, if_neg (fun e => hw.1 e.symm)]; exact ZhB _ _ ht))
theorem Zp7 {o:AOp} {v:AVal} {c:Cls} {t:Nat} {cs:List AVal} (hc:Zdf o.ins=true) (hw:c.wr.contains t=false) (h:Zd O bf o sq tm σ=some (v,tm1,σ1,c)) (ht:σ[t]?=some (.var cs)):σ1[t]?=some (.var cs):=by
 unfold Zd at h
 split at h
 ·cases h
 ·simp only [Xa,Xb] at h
  obtain ⟨rfl,rfl,rfl,rfl⟩:=h
  exact ht
 ·split at h
  ·rename_i hf
   split at h
   ·rename_i v' σ'' c' he
    simp only [Xa,Xb] at h
    obtain ⟨rfl,rfl,rfl,rfl⟩:=h
    cases hins:o.ins with
    | st k x y =>
     rw [hins] at he hf
     simp only [execI] at he
     exact ZpM he hw ht
    | _=>rw [hins] at hc;simp [Zdf] at hc
   ·cases h
  ·cases h
theorem Zif {o : AOp} {v : AVal} {c ci : Cls} (hl : Zbn o.ins = true) (h : Zd O bf o sq tm σ = some (v, tm1, σ1, c)) (hg : ZbD c ci = true) :
    ∃ t k off, c.got = [(t, k, off, v)] /\ σ1 = σ /\ tm1 = tput tm o.dst v /\ (∀ tm' σ2, (∀ n ∈ o.reads, tget tm n = tget tm' n) -> (∃ cs, σ2[t]? = some (.var cs) /\ partA k cs off = some v) -> Zd O bf o sq tm' σ2 = some (v, tput tm' o.dst v, σ2, c)) /\ ∃ cs, σ[t]? = some (.var cs) /\ partA k cs off = some v := by
  unfold Zd at h
  split at h
  . cases h
  . simp only [Xa, Xb] at h
    obtain ⟨rfl, rfl, rfl, rfl⟩ := h
    simp [ZbD] at hg
  . rename_i hw
    split at h
    . rename_i hf
      split at h
      . rename_i v' σ'' c' he
        simp only [Xa, Xb] at h
        obtain ⟨rfl, rfl, rfl, rfl⟩ := h
        cases hins : o.ins with
        | ld k a =>
          rw [hins] at he hf
          simp only [execI] at he
          have he0 := he
          unfold ldA at he
          split at he
          . rename_i t off ha
            split at he
            . rename_i cs hcs
              split at he
              . rename_i v2 hp
                simp only [Xa, Xb] at he
                obtain ⟨rfl, rfl, rfl⟩ := he
                refine ⟨t, k, off, rfl, rfl, rfl, fun tm' σ2 hr ⟨cs2, h1, h2⟩ => ?_, cs, hcs, hp⟩
                simp only [Zd, Zb3 (g := o.guard) (tm := tm') (tm1 := tm) (fun j b hg => (hr j (ZbZ hg)).symm), hw]
                rw [if_pos (by rw [hins]; rfl), <- Zdu (tm := tm) (tm' := tm') (fun n hn => hr n (Zdw hn)), hins]
                simp only [execI, ha, ldA, h1, h2]
              . cases he
            . cases he
          . repeat' split at he
            all_goals first
              | (cases he; done)
              | (simp only [Xa, Xb] at he
                 obtain ⟨rfl, rfl, rfl⟩ := he
                 simp [ZbD] at hg)
          . repeat' split at he
            all_goals first
              | (cases he; done)
              | (simp only [Xa, Xb] at he
                 obtain ⟨rfl, rfl, rfl⟩ := he
                 simp [ZbD] at hg)
          . cases he
        | _ => rw [hins] at hl; simp [Zbn] at hl
      . cases h
    . cases h
theorem Zr0 {o:AOp} {v:AVal} {c:Cls} {s:Nat} (hc:Za8 o.ins=true\/(ZbC o.ins=true/\(!c.any)=true)) (h:Zd O bf o sq tm σ=some (v,tm1,σ1,c)) (hs:σ1[s]?=some .free):σ[s]?=some .free:=by
 rcases hc with hc | ⟨hc,_⟩
 ·exact Zw8 hc h hs
 ·rcases Zj9 hc h with ⟨_,_,rfl,_⟩ | ⟨_,_,_,_,_,ha,_⟩
  ·exact hs
  ·exact Zjz ha hs
theorem ZvE {o:AOp} {v:AVal} {c:Cls} {s:Nat} (hc:Za8 o.ins=true\/(ZbC o.ins=true/\(!c.any)=true)) (h:Zd O bf o sq tm σ=some (v,tm1,σ1,c)) (hs:σ1[s]?=some .free) (hne:∀ i,i < nsite o.ins->sq+i≠s) :
  σ[s]?=some .free/\∀ b tm',(∀ n ∈ o.reads,tget tm n=tget tm' n)->Zd O bf o sq tm' (σ.set s b)=some (v,tput tm' o.dst v,σ1.set s b,c):=by
 rcases hc with hc | ⟨hc,hany⟩
 ·exact Zxd hc h hs hne
 ·have hn:sq≠s:=by
   have : nsite o.ins=1:=by
    cases hins:o.ins with
    | app k bytes z x y=>rfl
    | _=>rw [hins] at hc;simp [ZbC] at hc
   simpa using hne 0 (by omega)
  rcases Zj9 hc h with ⟨hw,rfl,rfl,rfl⟩ | ⟨hf,k,bytes,x,y,ha,gen⟩
  ·refine ⟨hs,fun b tm' hr=>?_⟩
   simp only [Zd,Zb3 (g:=o.guard) (tm:=tm') (tm1:=tm) (fun j b hg=>(hr j (ZbZ hg)).symm),hw]
  ·have h0:=Zjz ha hs
   refine ⟨h0,fun b tm' hr=>gen tm' _ _ _ _ hr ?_ (ZtA (by simpa using hany) ha h0 hn b)⟩
   rw [ZcB] at hf ⊢
   rw [Xad (fun e=>hn e.symm)]
   exact hf
def Frz (σ σ2:Za):Prop:=∀ t:Nat,σ2[t]?=σ[t]?\/∃ (g k:Nat) (xs:List AVal),σ[t]?=some (Zl.row g k xs)/\σ2[t]?=some (Zl.frow g k xs)
theorem Frz.refl (σ:Za):Frz σ σ:=fun _=>Xn rfl
theorem ZfC:∀ (ts:List Nat) (σ:Za),Frz σ (Zh σ ts)
 | [],σ=>Frz.refl σ
 | t::ts,σ=>by
  unfold Zh
  split
  ·rename_i g k xs ht
   intro u
   have ih:=ZfC ts (σ.set t (.frow g k xs)) u
   have htl:t < σ.length:=(Xe.1 ht).1
   by_cases e:u=t
   ·subst e
    have e1:(σ.set u (.frow g k xs))[u]?=some (.frow g k xs):=by simp [htl]
    rw [e1] at ih
    rcases ih with ih | ⟨_,_,_,ih,_⟩
    ·exact Xv ⟨g,k,xs,ht,ih⟩
    ·cases ih
   ·rw [Xad (fun h=>e h.symm)] at ih
    exact ih
  ·exact ZfC ts σ
theorem Zk1 {σ σ2 σ' : Za} {k : Option Nat} {a v : AVal} {c : Cls} (hf : Frz σ σ2) (h : ldA σ k a = some (v, σ', c)) : σ' = σ /\ ldA σ2 k a = some (v, σ2, c) := by
  unfold ldA at h ⊢
  split at h
  . rename_i t o
    rcases hf t with e | ⟨_, _, _, e1, _⟩
    . simp only [e]
      repeat' split at h
      all_goals first
        | (cases h; done)
        | (simp only [Xa, Xb] at h
           obtain ⟨rfl, rfl, rfl⟩ := h
           simp_all)
    . rw [e1] at h; cases h
  . rename_i t g i o
    rcases hf t with e | ⟨g1, k1, xs1, e1, e2⟩
    . simp only [e]
      repeat' split at h
      all_goals first
        | (cases h; done)
        | (simp only [Xa, Xb] at h
           obtain ⟨rfl, rfl, rfl⟩ := h
           simp_all)
    . simp only [e1] at h
      simp only [e2]
      repeat' split at h
      all_goals first
        | (cases h; done)
        | (simp only [Xa, Xb] at h
           obtain ⟨rfl, rfl, rfl⟩ := h
           simp_all)
  . repeat' split at h
    all_goals first
      | (cases h; done)
      | (simp only [Xa, Xb] at h
         obtain ⟨rfl, rfl, rfl⟩ := h
         simp_all)
  . cases h
theorem Zjy {σ σ2 σ' : Za} {k : Nat} {a i v : AVal} {c : Cls} (hf : Frz σ σ2) (h : Zby σ k a i = some (v, σ', c)) : σ' = σ /\ Zby σ2 k a i = some (v, σ2, c) := by
  unfold Zby at h ⊢
  split at h
  . split at h
    . rename_i h0
      rw [if_pos h0]
      split at h
      . repeat' split at h
        all_goals first
          | (cases h; done)
          | (simp only [Xa, Xb] at h
             obtain ⟨rfl, rfl, rfl⟩ := h
             simp_all)
      . rename_i t g p n
        rcases hf t with e | ⟨g1, k1, xs1, e1, e2⟩
        . simp only [e]
          repeat' split at h
          all_goals first
            | (cases h; done)
            | (simp only [Xa, Xb] at h
               obtain ⟨rfl, rfl, rfl⟩ := h
               simp_all)
        . simp only [e1] at h
          simp only [e2]
          repeat' split at h
          all_goals first
            | (cases h; done)
            | (simp only [Xa, Xb] at h
               obtain ⟨rfl, rfl, rfl⟩ := h
               simp_all)
      . cases h
    . cases h
  . cases h
theorem ZuA {o:AOp} {v:AVal} {c:Cls} (hl:Zdt o.ins=true) (h:Zd O bf o sq tm σ=some (v,tm1,σ1,c)) :
  σ1=σ/\tm1=tput tm o.dst v/\∀ tm' σ2,(∀ n ∈ o.reads,tget tm n=tget tm' n)->Frz σ σ2->Zd O bf o sq tm' σ2=some (v,tput tm' o.dst v,σ2,c):=by
 unfold Zd at h
 split at h
 ·cases h
 ·rename_i hw
  simp only [Xa,Xb] at h
  obtain ⟨rfl,rfl,rfl,rfl⟩:=h
  refine ⟨rfl,rfl,fun tm' σ2 hr _=>?_⟩
  simp only [Zd,Zb3 (g:=o.guard) (tm:=tm') (tm1:=tm) (fun j b hg=>(hr j (ZbZ hg)).symm),hw]
 ·rename_i hw
  split at h
  ·rename_i hf
   split at h
   ·rename_i v' σ'' c' he
    simp only [Xa,Xb] at h
    obtain ⟨rfl,rfl,rfl,rfl⟩:=h
    cases hins:o.ins with
    | ld k a =>
     rw [hins] at he
     simp only [execI] at he
     have e1:=(Zk1 (Frz.refl σ) he).1
     subst e1
     refine ⟨rfl,rfl,fun tm' σ2 hr hz=>?_⟩
     simp only [Zd,Zb3 (g:=o.guard) (tm:=tm') (tm1:=tm) (fun j b hg=>(hr j (ZbZ hg)).symm),hw]
     rw [if_pos (by rw [hins];rfl),<-Zdu (tm:=tm) (tm':=tm') (fun n hn=>hr n (Zdw hn)),hins]
     simp only [execI,(Zk1 hz he).2]
    | iaddr k x i =>
     rw [hins] at he
     simp only [execI] at he
     have e1:=(Zjy (Frz.refl σ) he).1
     subst e1
     refine ⟨rfl,rfl,fun tm' σ2 hr hz=>?_⟩
     simp only [Zd,Zb3 (g:=o.guard) (tm:=tm') (tm1:=tm) (fun j b hg=>(hr j (ZbZ hg)).symm),hw]
     rw [if_pos (by rw [hins];rfl),<-Zdu (tm:=tm) (tm':=tm') (fun n hn=>hr n (Zdw hn)),hins]
     simp only [execI,(Zjy hz he).2]
    | _=>rw [hins] at hl;simp [Zdt] at hl
   ·cases h
  ·cases h
theorem Znv {o:AOp} {v:AVal} {c:Cls} (hl:Zc2 o.ins=true) (h:Zd O bf o sq tm σ=some (v,tm1,σ1,c)):Frz σ σ1:=by
 unfold Zd at h
 split at h
 ·cases h
 ·simp only [Xa,Xb] at h
  obtain ⟨rfl,rfl,rfl,rfl⟩:=h
  exact Frz.refl _
 ·split at h
  ·split at h
   ·rename_i v' σ'' c' he
    simp only [Xa,Xb] at h
    obtain ⟨rfl,rfl,rfl,rfl⟩:=h
    cases hins:o.ins with
    | bslice own k n z parts =>
     rw [hins] at hl he
     simp only [Zc2,Wx] at hl
     subst hl
     simp only [execI] at he
     split at he
     ·cases he
     ·rename_i ys ts hv
      split at he
      ·simp only [Xo,if_false,Xa,Xb] at he
       obtain ⟨_,rfl,_⟩:=he
       exact ZfC ts σ
      ·cases he
    | _=>rw [hins] at hl;simp [Zc2] at hl
   ·cases h
  ·cases h
theorem ZuN {f own:Nat} {view:Bool} {args:List AVal} {v:AVal} {c:Cls} (h:Zr O bf σ sq f own view args=some (v,σ',c)) (ha:c.any=true) {t:Nat} {cs:List AVal} (hn:c.upd.lookup t=none) (hlt:t < sq) (ht:σ'[t]?=some (.var cs)):σ[t]?=some (.var cs):=by
 unfold Zr at h
 split at h
 ·cases h
 rename_i xs ts hsh
 generalize hids:Zi (Zh σ ts) 1000 (ZR xs) []=ids at h
 unfold Zbg at h
 split at h
 case isFalse=>cases h
 generalize Zat view ids.length (O f (ZH (Zf (Zh σ ts) 0 ids) xs) (Zj (Zh σ ts) 0 ids (Zf (Zh σ ts) 0 ids) ids 0))=q at h
 cases q with
 | none=>simp only [Zaj] at h;cases h
 | some q =>
  obtain ⟨r,hp⟩:=q
  simp only [Zaj] at h
  split at h
  ·split at h
   ·simp only [Xa,Xb] at h
    rw [<-h.2.2] at ha;cases ha
   split at h
   ·simp only [Xa,Xb] at h
    rw [<-h.2.2] at ha;cases ha
   ·simp only [Xa,Xb] at h
    rw [<-h.2.2] at ha;cases ha
  ·split at h
   ·simp only [Xa,Xb] at h
    rw [<-h.2.2] at ha;cases ha
   split at h
   ·rename_i hcc
    simp only [Xa,Xb] at h
    obtain ⟨_,rfl,rfl⟩:=h
    have hm:t ∉ ids:=fun hm=>Zgm hn hm ht
    rw [Ze9 (fun i hi e=>by
     rw [XG] at e
     unfold Zar at e
     rw [Xd] at e
     rcases WX i ids.length with hl | hl
     ·rw [Xy hl] at e
      simp only [Wt] at e
      exact hm (e ▸ WC hl)
     ·rw [XN hl] at e
      simp only [Xac] at e
      omega)] at ht
    rcases ZfC ts σ t with e | ⟨g1,k1,xs1,e1,e2⟩
    ·rw [<-e];exact ht
    ·rw [e2] at ht;cases ht
   ·cases h
theorem ZwU {o:AOp} {v:AVal} {c:Cls} {t:Nat} {cs:List AVal} (hc:Za8 o.ins=true) (h:Zd O bf o sq tm σ=some (v,tm1,σ1,c)) (ha:c.any=true) (hn:c.upd.lookup t=none) (hlt:t < sq) (ht:σ1[t]?=some (.var cs)):σ[t]?=some (.var cs):=by
 rcases Zgq hc h with ⟨hw,rfl,rfl,rfl⟩ | ⟨hw,hf,f,own,view,args,ho,gen,hg⟩
 ·cases ha
 ·exact ZuN hg ha hn hlt ht
theorem ZiR {oj oi:AOp} {sj si:Nat} {vj vi:AVal} {cj ci:Cls} (hj:Zd O bf oj sj tm σ=some (vj,tm1,σ1,cj)) (hi:Zd O bf oi si tm1 σ1=some (vi,tm2,σ2,ci)) (hap:oj.apartT oi=true)
  (hp:Zbl oj oi cj ci sj=true) (hs:nsite oj.ins≠0->nsite oi.ins≠0->sj≠si) (hs2:sj+nsite oj.ins<=si):∃ tm1' σ1',Zd O bf oi si tm σ=some (vi,tm1',σ1',ci)/\Zd O bf oj sj tm1' σ1'=some (vj,tm2,σ2,cj):=by
 have hd:(∀ d,oj.dst=some d->d ∉ oi.reads)/\(∀ d,oj.dst=some d->oi.dst≠some d)/\(∀ d,oi.dst=some d->d ∉ oj.reads):=by
  unfold AOp.apartT at hap
  simp only [Xc] at hap
  refine ⟨fun d hd hr=>?_,fun d hd he=>?_,fun d hd hr=>?_⟩
  ·have:=hap.1;rw [hd] at this;simp [hr] at this
  ·have:=hap.1;rw [hd] at this;simp [he] at this
  ·have:=hap.2;rw [hd] at this;simp [hr] at this
 obtain ⟨d1,d2,d3⟩:=hd
 have rdI:∀ v n,n ∈ oi.reads->tget (tput tm oj.dst v) n=tget tm n:=fun v n hn=>Zio (by intro e;exact d1 n e hn)
 have rdJ:∀ v n,n ∈ oj.reads->tget tm n=tget (tput tm oi.dst v) n:=fun v n hn=>(Zio (by intro e;exact d3 n e hn)).symm
 unfold Zbl at hp
 simp only [Wp,Xc] at hp
 have noWr_of:∀ {o:AOp} {c:Cls},Zba o c=true->ZbV c=true/\c.rd=[]/\nsite o.ins=0:=by
  intro o c h
  simp only [Zba,Xc,beq_iff_eq,WL] at h
  exact ⟨by simp [ZbV,h.1.2,h.2],h.1.1.2,h.1.1.1⟩
 rcases hp with ((((((hp | hp) | ⟨⟨hp1,hp2⟩,hp3⟩) | ⟨hp1,hp2,hp3⟩) | ⟨⟨⟨hp1,hp2⟩,hp3⟩,hp4⟩) | ⟨⟨hp1,hp2⟩,hp4⟩) | ⟨hp1,hp2⟩) | ⟨⟨⟨hp1,hp2⟩,hp3⟩,hp4⟩
 ·obtain ⟨w1,w2,w3⟩:=noWr_of hp
  obtain ⟨ob,rfl,rfl,e3,_,_,e6⟩:=Zer hj w1
  have hob:ob=none:=by
   cases ob with
   | none=>rfl
   | some b=>exact absurd w3 (e3 rfl).1
  subst hob
  simp only [Zak] at hi e6 ⊢
  obtain ⟨rfl,f2⟩:=Zdj hi
  have g1:=f2 tm (rdI vj)
  refine ⟨_,_,g1,?_⟩
  rw [e6 _ σ2 (rdJ vi) (by rw [w2];intro t ht;simp at ht) (fun h=>absurd w3 h),ZcD vi vj (fun d hd he=>d2 d he hd)]
 ·obtain ⟨w1,w2,w3⟩:=noWr_of hp
  obtain ⟨ob,rfl,rfl,e3,_,_,e6⟩:=Zer hi w1
  have hob:ob=none:=by
   cases ob with
   | none=>rfl
   | some b=>exact absurd w3 (e3 rfl).1
  subst hob
  simp only [Zak] at e6 ⊢
  obtain ⟨rfl,f2⟩:=Zdj hj
  have g1:=e6 tm σ (rdI vj) (by rw [w2];intro t ht;simp at ht) (fun h=>absurd w3 h)
  refine ⟨_,_,g1,?_⟩
  rw [f2 _ (rdJ vi),ZcD vi vj (fun d hd he=>d2 d he hd)]
 ·obtain ⟨ob,rfl,rfl,a3,a4,a5,a6⟩:=Zer hj hp1
  obtain ⟨oc,rfl,rfl,b3,b4,b5,b6⟩:=Zer hi hp2
  have hsne:ob.isSome=true->nsite oi.ins≠0->sj≠si:=fun h1 h2=>hs (a3 h1).1 h2
  have hrdi:∀ t ∈ ci.rd,ob.isSome=true->sj≠t:=by
   intro t ht ho e
   subst e
   rcases hp3 with hp3 | hp3
   ·exact (a3 ho).1 (by simpa using hp3)
   ·simp [ht] at hp3
  have g1:=b6 tm σ (rdI vj) (fun t ht=>(Zex (hrdi t ht)).symm) (fun h2 hf=>by
   rw [ZcB] at hf ⊢
   rwa [Zex (fun ho=>hsne ho h2)] at hf)
  refine ⟨_,_,g1,?_⟩
  have hsi:oc.isSome=true->σ[si]?=some .free:=by
   intro ho
   have:=(b3 ho).2
   rw [ZcB,Zex (fun ho'=>hsne ho' (b3 ho).1)] at this
   exact this
  rw [a6 _ (Zak σ si oc) (rdJ vi) (fun t ht=>Zex (fun ho e=>by
   subst e
   obtain ⟨x,hx,hne⟩:=a5 si ht
   rw [hsi ho] at hx;injection hx with hx;exact hne hx.symm)) (fun h1 hf=>by
   rw [ZcB] at hf ⊢
   rwa [Zex (fun ho=>(hs h1 (b3 ho).1).symm)]),ZcD vi vj (fun d hd he=>d2 d he hd),Zqg (fun h1 h2=>(hs (a3 h2).1 (b3 h1).1).symm)]
 ·obtain ⟨oc,rfl,rfl,b3,b4,b5,b6⟩:=Zer hi hp2
  have hrd:ci.rd=[]:=by simpa using hp3
  obtain ⟨rfl,f2⟩:=Zdj hj
  cases oc with
  | none =>
   simp only [Zak] at b6 ⊢
   have g1:=b6 tm σ (rdI vj) (by rw [hrd];intro t ht;simp at ht) (fun h1 h2=>by
    rw [ZcB] at h2 ⊢
    exact Zr0 hp1 hj h2)
   refine ⟨_,_,g1,?_⟩
   rw [f2 _ (rdJ vi),ZcD vi vj (fun d hd he=>d2 d he hd)]
  | some b =>
   have hfr:=(b3 rfl).2
   rw [ZcB] at hfr
   obtain ⟨k1,k2⟩:=ZvE hp1 hj hfr (fun i hi=>by omega)
   have g1:=b6 tm σ (rdI vj) (by rw [hrd];intro t ht;simp at ht) (fun h1 h2=>by
    rw [ZcB] at h2 ⊢;exact k1)
   refine ⟨_,_,g1,?_⟩
   have:=k2 b (tput tm oi.dst vi) (rdJ vi)
   simp only [Zak]
   rw [this,ZcD vi vj (fun d hd he=>d2 d he hd)]
 ·obtain ⟨t,k,o,q1,rfl,rfl,q4,q5⟩:=Zif hp1 hj hp4
  obtain ⟨rfl,f2⟩:=Zdj hi
  have g1:=f2 tm (rdI vj)
  refine ⟨_,_,g1,?_⟩
  obtain ⟨cs,q6,q7⟩:=q5
  obtain ⟨r1,r2⟩:=ZtR hp2 hi hp3 q6
  have hv:∃ cs,σ2[t]?=some (.var cs)/\partA k cs o=some vj:=by
   unfold ZbD at hp4
   rw [q1] at hp4
   simp only at hp4
   split at hp4
   ·rename_i hl;exact ⟨cs,r1 hl,q7⟩
   ·rename_i cs2 hl
    split at hp4
    ·rename_i u hu
     rw [Zvm hp4] at hu
     exact ⟨cs2,r2 cs2 hl,hu⟩
    ·cases hp4
  rw [q4 _ σ2 (rdJ vi) hv,ZcD vi vj (fun d hd he=>d2 d he hd)]
 ·obtain ⟨t,k,o,q1,rfl,rfl,q4,q5⟩:=Zif hp1 hj hp4
  obtain ⟨rfl,f2⟩:=Zdj hi
  have g1:=f2 tm (rdI vj)
  refine ⟨_,_,g1,?_⟩
  obtain ⟨cs,q6,q7⟩:=q5
  have hk:σ2[t]?=some (.var cs):=by
   rcases hp2 with hp2 | ⟨hp2,hp3⟩
   ·exact Ztp hp2 hi q6
   ·refine Zp7 hp2 ?_ hi q6
    unfold Zee at hp3
    rw [q1] at hp3
    simpa using hp3
  rw [q4 _ σ2 (rdJ vi) ⟨cs,hk,q7⟩,ZcD vi vj (fun d hd he=>d2 d he hd)]
 ·obtain ⟨rfl,rfl,q⟩:=ZuA hp1 hj
  obtain ⟨rfl,f2⟩:=Zdj hi
  have g1:=f2 tm (rdI vj)
  refine ⟨_,_,g1,?_⟩
  rw [q _ σ2 (rdJ vi) (Znv hp2 hi),ZcD vi vj (fun d hd he=>d2 d he hd)]
 ·have hgot:∃ t0 k0 o0 v0,ci.got=[(t0,k0,o0,v0)]/\t0 < sj/\cj.upd.lookup t0=none:=by
   unfold ZdX at hp4
   split at hp4
   ·rename_i t0 k0 o0 v0 hg
    simp only [Xc,decide_eq_true_eq,Option.isNone_iff_eq_none] at hp4
    exact ⟨t0,k0,o0,v0,hg,hp4.1,hp4.2⟩
   ·cases hp4
  obtain ⟨t0,k0,o0,v0,hg,hlt,hnone⟩:=hgot
  have hg0:ZbD ci {}=true:=by
   unfold ZbD
   rw [hg]
   rfl
  obtain ⟨rfl,f2⟩:=Zdj hj
  obtain ⟨t,k,o,q1,rfl,rfl,q4,cs,q6,q7⟩:=Zif hp2 hi hg0
  rw [hg] at q1
  injection q1 with q1 _
  injection q1 with q1 _
  subst q1
  have hk:=ZwU hp1 hj hp3 hnone hlt q6
  have g1:=q4 tm σ (rdI vj) ⟨cs,hk,q7⟩
  refine ⟨_,_,g1,?_⟩
  rw [f2 _ (rdJ vi),ZcD vi vj (fun d hd he=>d2 d he hd)]
inductive Zbp (O:Zo) (bf:Nat->Bool) (ops:List AOp) (L:Nat) (cs:List Cls):List Nat->Tms->Za->Tms->Za->Prop
 | nil {tm:Tms} {σ:Za}:Zbp O bf ops L cs [] tm σ tm σ
 | cons {i:Nat} {l:List Nat} {v:AVal} {tm tm1 tm2:Tms} {σ σ1 σ2:Za}:Zd O bf (ops.getD i default) (L+sitesOf (ops.take i)) tm σ=some (v,tm1,σ1,cs.getD i {})->(∀ x,v≠.pan x)->Zbp O bf ops L cs l tm1 σ1 tm2 σ2->Zbp O bf ops L cs (i::l) tm σ tm2 σ2
theorem Zht (ops:List AOp) {k:Nat} (h:k < ops.length):sitesOf (ops.take (k+1))=sitesOf (ops.take k)+nsite (ops[k]).ins:=by
 rw [List.take_succ_eq_append_getElem h]
 simp only [sitesOf,Wa,List.sum_append,XC,XT,List.sum_cons,List.sum_nil,XU]
theorem ZkR {ops:List AOp} {L:Nat}:∀ (m k:Nat) {cs cs':List Cls} {tm:Tms} {σ:Za} {tm':Tms} {σ':Za},k+m=ops.length->Zm O bf (ops.drop k) (L+sitesOf (ops.take k)) tm σ=some (tm',σ',cs',none)->(∀ j,cs'.getD j {}=cs.getD (k+j) {})->Zbp O bf ops L cs (WW k m) tm σ tm' σ'
 | 0,k,cs,cs',tm,σ,tm',σ',hk,h,hcs=>by
  rw [Wf (by omega)] at h
  simp only [Zm,Xa,Xb] at h
  obtain ⟨rfl,rfl,rfl,_⟩:=h
  exact Zbp.nil
 | m+1,k,cs,cs',tm,σ,tm',σ',hk,h,hcs=>by
  have hlt:k < ops.length:=by omega
  rw [WE hlt] at h
  simp only [Zm] at h
  split at h
  ·cases h
  ·simp only [Xa,Xb] at h
   obtain ⟨_,_,_,h⟩:=h
   cases h
  rename_i v tm1 σ1 c hnp h1
  split at h
  ·cases h
  rename_i tm2 σ2 cs2 p h2
  simp only [Xa,Xb] at h
  obtain ⟨rfl,rfl,rfl,rfl⟩:=h
  rw [Xaq]
  have hc0:=hcs 0
  simp only [Wb,XU] at hc0
  refine Zbp.cons (v:=v) (tm1:=tm1) (σ1:=σ1) ?_ (fun x e=>?_) (ZkR m (k+1) (by omega) (cs':=cs2) ?_ (fun j=>?_))
  ·rw [<-hc0]
   simpa [Xd,hlt] using h1
  ·exact hnp x e
  ·rw [Zht ops hlt,<-Wi];exact h2
  ·have:=hcs (j+1)
   simp only [Wy] at this
   rw [this]
   congr 1;omega
theorem Zhc {ops:List AOp} {L:Nat} {cs:List Cls} {i:Nat} {l2:List Nat}:∀ {l1:List Nat} {tm:Tms} {σ:Za} {tm':Tms} {σ':Za},(∀ j ∈ l1,(ops.getD j default).apartT (ops.getD i default)=true/\Zbl (ops.getD j default) (ops.getD i default) (cs.getD j {}) (cs.getD i {}) (L+sitesOf (ops.take j))=true/\(nsite (ops.getD j default).ins≠0->nsite (ops.getD i default).ins≠0->L+sitesOf (ops.take j)≠L+sitesOf (ops.take i))/\L+sitesOf (ops.take j)+nsite (ops.getD j default).ins<=L+sitesOf (ops.take i)) ->
  Zbp O bf ops L cs (l1++i::l2) tm σ tm' σ'->∃ v tm1 σ1,Zd O bf (ops.getD i default) (L+sitesOf (ops.take i)) tm σ=some (v,tm1,σ1,cs.getD i {})/\(∀ x,v≠.pan x)/\Zbp O bf ops L cs (l1++l2) tm1 σ1 tm' σ'
 | [],tm,σ,tm',σ',_,h=>by
  cases h with
  | cons h1 hn h2=>exact ⟨_,_,_,h1,hn,h2⟩
 | j::l1,tm,σ,tm',σ',hall,h=>by
  cases h with
  | cons h1 hn h2 =>
   obtain ⟨v3,tm3,σ3,h3,hn3,h4⟩:=Zhc (l1:=l1) (fun k hk=>hall k (by simp [hk])) h2
   obtain ⟨p1,p2,p3,p4⟩:=hall j (by simp)
   obtain ⟨tm4,σ4,h5,h6⟩:=ZiR h1 h3 p1 p2 p3 p4
   exact ⟨v3,tm4,σ4,h5,hn3,Zbp.cons h6 hn h4⟩
theorem Zkp {ops:List AOp} {L:Nat} {x:AVal}:∀ (m k:Nat) {cs cs':List Cls} {tm:Tms} {σ:Za} {tm':Tms} {σ':Za},k+m=ops.length->Zm O bf (ops.drop k) (L+sitesOf (ops.take k)) tm σ=some (tm',σ',cs',some x)->(∀ j,cs'.getD j {}=cs.getD (k+j) {}) ->
  ∃ n tmJ σJ tmX,n < m/\cs'.length=n+1/\Zbp O bf ops L cs (WW k n) tm σ tmJ σJ/\Zd O bf (ops.getD (k+n) default) (L+sitesOf (ops.take (k+n))) tmJ σJ=some (.pan x,tmX,σ',cs.getD (k+n) {})
 | 0,k,cs,cs',tm,σ,tm',σ',hk,h,hcs=>by
  rw [Wf (by omega)] at h
  simp [Zm] at h
 | m+1,k,cs,cs',tm,σ,tm',σ',hk,h,hcs=>by
  have hlt:k < ops.length:=by omega
  rw [WE hlt] at h
  simp only [Zm] at h
  have hc0:=hcs 0
  have hg:ops.getD k default=ops[k]:=by simp [Xd,hlt]
  split at h
  ·cases h
  ·rename_i y tm1 σ1 c h1
   simp only [Xa,Xb] at h
   obtain ⟨rfl,rfl,rfl,rfl⟩:=h
   simp only [Wb,XU] at hc0
   refine ⟨0,tm,σ,tm1,by omega,rfl,Zbp.nil,?_⟩
   rw [XU,<-hc0,hg]
   exact h1
  rename_i v tm1 σ1 c hnp h1
  split at h
  ·cases h
  rename_i tm2 σ2 cs2 p h2
  simp only [Xa,Xb] at h
  obtain ⟨rfl,rfl,rfl,rfl⟩:=h
  simp only [Wb,XU] at hc0
  have hnext:Zm O bf (ops.drop (k+1)) (L+sitesOf (ops.take (k+1))) tm1 σ1=some (tm2,σ2,cs2,some x):=by
   rw [Zht ops hlt,<-Wi]
   exact h2
  obtain ⟨n,tmJ,σJ,tmX,g1,g2,g3,g4⟩:=Zkp m (k+1) (cs:=cs) (by omega) hnext (fun j=>by
   have:=hcs (j+1)
   simp only [Wy] at this
   rw [this];congr 1;omega)
  refine ⟨n+1,tmJ,σJ,tmX,by omega,by simp [g2],?_,?_⟩
  ·rw [Xaq]
   refine Zbp.cons (v:=v) (tm1:=tm1) (σ1:=σ1) ?_ (fun x e=>hnp x e) g3
   rw [<-hc0,hg]
   exact h1
  ·rw [show k+(n+1)=k+1+n by omega]
   exact g4
theorem ZlU {o:AOp} {v:AVal} {c:Cls} {tm tm1:Tms} {σ σ1:Za} {sq:Nat} (hq:o.ins.touches=false\/Zbn o.ins=true) (h:Zd O bf o sq tm σ=some (v,tm1,σ1,c)):σ1=σ:=by
 unfold Zd at h
 split at h
 ·cases h
 ·simp only [Xa,Xb] at h;exact h.2.2.1.symm
 ·split at h
  ·split at h
   ·rename_i he
    simp only [Xa,Xb] at h
    rw [<-h.2.2.1]
    rcases hq with hq | hq
    ·exact Zni hq he
    ·cases hi:o.ins with
     | ld k a =>
      rw [hi] at he
      simp only [execI] at he
      unfold ldA at he
      repeat' split at he
      all_goals first | (simp only [Xa,Xb] at he;exact he.2.1.symm) | cases he
     | _=>rw [hi] at hq;simp [Zbn] at hq
   ·cases h
  ·cases h
theorem Zim {ops:List AOp} {L:Nat} {cs:List Cls} {i:Nat} {x:AVal} {tmX:Tms} {σX:Za}:∀ {l1:List Nat} {tm:Tms} {σ:Za} {tm':Tms} {σ':Za},(∀ j ∈ l1,((ops.getD j default).ins.touches=false\/Zbn (ops.getD j default).ins=true)/\(ops.getD j default).apartT (ops.getD i default)=true/\Zbl (ops.getD j default) (ops.getD i default) (cs.getD j {}) (cs.getD i {}) (L+sitesOf (ops.take j))=true/\(nsite (ops.getD j default).ins≠0->nsite (ops.getD i default).ins≠0->L+sitesOf (ops.take j)≠L+sitesOf (ops.take i))/\L+sitesOf (ops.take j)+nsite (ops.getD j default).ins<=L+sitesOf (ops.take i)) ->
  Zbp O bf ops L cs l1 tm σ tm' σ'->Zd O bf (ops.getD i default) (L+sitesOf (ops.take i)) tm' σ'=some (.pan x,tmX,σX,cs.getD i {})->∃ tm1,Zd O bf (ops.getD i default) (L+sitesOf (ops.take i)) tm σ=some (.pan x,tm1,σX,cs.getD i {})
 | [],tm,σ,tm',σ',_,h,hp=>by
  cases h
  exact ⟨_,hp⟩
 | j::l1,tm,σ,tm',σ',hall,h,hp=>by
  cases h with
  | cons h1 hn h2 =>
   obtain ⟨tm3,h3⟩:=Zim (l1:=l1) (fun k hk=>hall k (by simp [hk])) h2 hp
   obtain ⟨hq,p1,p2,p3,p4⟩:=hall j (by simp)
   obtain ⟨tm4,σ4,h5,h6⟩:=ZiR h1 h3 p1 p2 p3 p4
   have:=ZlU hq h6
   subst this
   exact ⟨tm4,h5⟩
end
end
section
open Go.RowKit
section
variable {P:Program} {O:Zo} {bf:Nat->Bool} {an:Ann} {base:Nat->Prop} {w0:World} {I0:Imm}
structure Door where
 D:List Deferred
 K:List Nat
 X:Nat->Value
def Door.ok (dr:Door) (a:Act):Prop:=a.defers=dr.D/\∀ j ∈ dr.K,a.tmps.getD j undef=dr.X j
def Zaw:Door:=⟨[],[],fun _=>undef⟩
theorem Zcj {a:Act}:Zaw.ok a↔a.defers=[]:=by simp [Door.ok,Zaw]
def StR (dr:Door) (nt:Nat) (base:Nat->Prop) (w0:World) (I0 I:Imm) (β:Bmap) (tm:Tms) (σ:Za) (a:Act) (w:World):Prop :=
 ∃ I' β',I.le I'/\β.le β'/\TR I' β' tm a.tmps/\(dr.ok a/\nt<=a.tmps.size)/\Rel base w0 I0 I' β' σ w
variable {dr:Door}
theorem StR.trans {nt:Nat} {I I1:Imm} {β β1:Bmap} {tm:Tms} {σ:Za} {a:Act} {w:World} (hI:I.le I1) (hβ:β.le β1) (h:StR dr nt base w0 I0 I1 β1 tm σ a w):StR dr nt base w0 I0 I β tm σ a w:=by
 obtain ⟨I',β',h1,h2,h3⟩:=h
 exact ⟨I',β',hI.trans h1,hβ.trans h2,h3⟩
theorem Post.trans {I I1:Imm} {β β1:Bmap} {x:AVal} {σ:Za} {u:Value} {w:World} (hI:I.le I1) (hβ:β.le β1) (h:Post base w0 I0 I1 β1 x σ u w):Post base w0 I0 I β x σ u w:=by
 obtain ⟨I',β',h1,h2,h3⟩:=h
 exact ⟨I',β',hI.trans h1,hβ.trans h2,h3⟩
theorem ZjS {I:Imm} {β:Bmap} {tm:Tms} {a:Act} {v:AVal} {u:Value} (T:TR I β tm a.tmps) (hv:VR I β v u) {d:Option Nat} (hd:∀ n,d=some n->n < a.tmps.size):TR I β (tput tm d v) (a.put d u).tmps:=by
 cases d with
 | none=>exact T
 | some d=>exact T.put hv (hd d rfl)
theorem ZfP (a:Act) (d:Option Nat) (u:Value):(a.put d u).defers=a.defers:=by cases d <;> rfl
theorem Zgf {a:Act} {d:Option Nat} {u:Value} (h:dr.ok a) (hd:∀ n,d=some n->n ∉ dr.K):dr.ok (a.put d u):=by
 refine ⟨(ZfP a d u).trans h.1,fun j hj=>?_⟩
 rw [<-h.2 j hj]
 cases d with
 | none=>rfl
 | some n =>
  have hne:n≠j:=by rintro rfl;exact hd n rfl hj
  simp only [Act.put,X9]
  rw [Array.getElem?_setIfInBounds_ne hne]
theorem ZbT (a:Act) (d:Option Nat) (u:Value):(a.put d u).tmps.size=a.tmps.size:=by cases d <;> simp [Act.put]
theorem ZjW {I:Imm} {β:Bmap} {tm:Tms} {a:Act} (T:TR I β tm a.tmps) {ops:Array Oper} {o:Oper} {g:Option (Nat×Bool)} (hg:Zf2 ops o.guard=some g) {b:Bool} (h:Zay g tm=some b):Region.wanted o (yielded ops a.tmps)=b:=by
 unfold Zf2 at hg
 unfold Region.wanted
 split at hg
 ·rename_i e
  injection hg with hg;subst hg
  simp only [Zay,Xa] at h
  subst h
  rw [e]
 ·rename_i j want e
  split at hg
  ·rename_i o' ho'
   split at hg
   ·rename_i d hd
    injection hg with hg;subst hg
    rw [e]
    show (yielded ops a.tmps j == some want)=b
    have hy:yielded ops a.tmps j=match a.tmps[d]? with | some (.bool b)=>some b | _=>none:=by
     simp only [yielded,ho',Option.bind_some,hd]
     rfl
    rw [hy]
    have hx:=T d
    rw [X9] at hx
    simp only [Zay] at h
    split at h
    ·rename_i b' hb'
     rw [hb'] at hx
     simp only [VR] at hx
     have : a.tmps[d]?=some (.bool b'):=by
      cases hq:a.tmps[d]? with
      | none=>rw [hq] at hx;simp [undef] at hx
      | some q=>rw [hq] at hx;simp at hx;subst hx;rfl
     rw [this]
     simp only [Xa] at h
     subst h
     cases b' <;> cases want <;> rfl
    ·rename_i hb'
     rw [hb'] at hx
     simp only [VR,VRs] at hx
     obtain ⟨us,hus,hnil⟩:=hx
     injection h with h;subst h
     cases hq:a.tmps[d]? with
     | none=>rfl
     | some q =>
      rw [hq] at hus;simp at hus;subst hus
      rfl
    ·cases h
   ·cases hg
  ·cases hg
theorem Zia {ops:Array Oper} {o:Oper} {ao:AOp} (hc:Zdq P an ops o=some ao):∃ g i,Zf2 ops o.guard=some g/\(∃ own,Zp P an own o.op=some i)/\(∀ n,o.dst=some n->n < an.nt/\n ∉ an.keep)/\ao=⟨o.dst,i,g,(o.after.toList.filter (Region.binds .any)).map (·.on)⟩:=by
 unfold Zdq at hc
 split at hc
 ·rename_i g i hg hi
  split at hc
  ·rename_i hd
   injection hc with hc
   refine ⟨g,i,hg,⟨_,hi⟩,fun n hn=>?_,hc.symm⟩
   rw [hn] at hd
   simp only [Zi2,Xc,decide_eq_true_eq,Wx,List.contains_eq_mem,decide_eq_false_iff_not] at hd
   exact hd
  ·cases hc
 ·cases hc
theorem Zed (hO:ZI P O) (hkp:∀ n ∈ dr.K,n ∈ an.keep) {ops:Array Oper} {o:Oper} {ao:AOp} (hc:Zdq P an ops o=some ao) {I:Imm} {β:Bmap} {tm tm':Tms} {σ σ':Za} {a:Act} {w:World} (T:TR I β tm a.tmps) (hd:dr.ok a/\an.nt<=a.tmps.size) (R:Rel base w0 I0 I β σ w) (hb:KLt base w0)
  {sq:Nat} {v:AVal} {c:Cls} (h:Zd O bf ao sq tm σ=some (v,tm',σ',c)) {K:Act->World->Prop} {Q:Exit->Act->World->Prop} (hK:(∀ x,v≠.pan x)->∀ a' w',StR dr an.nt base w0 I0 I β tm' σ' a' w'->K a' w')
  (hQ:∀ x,v=.pan x->∀ u w',Post base w0 I0 I β x σ' u w'->Q (.panic [{ v:=u,recovered:=false }]) a w') :
  if Region.wanted o (yielded ops a.tmps) then o.wp P a w K Q\/(o.asks P a w/\LetsOut Q) else K (a.put o.dst undef) w:=by
 obtain ⟨g,i,hg,⟨own,hi⟩,hdst,rfl⟩:=Zia hc
 have hdst':∀ n,o.dst=some n->n < a.tmps.size:=fun n hn=>Nat.lt_of_lt_of_le (hdst n hn).1 hd.2
 have hdk:∀ n,o.dst=some n->n ∉ dr.K:=fun n hn hm=>(hdst n hn).2 (hkp n hm)
 unfold Zd at h
 split at h
 ·cases h
 ·rename_i hw
  simp only at hw
  rw [ZjW T hg hw]
  simp only [Xa,Xb] at h
  obtain ⟨rfl,rfl,rfl,rfl⟩:=h
  simp only [Xo,if_false]
  exact hK (by simp) _ _ ⟨I,β,Imm.le.refl I,Bmap.le.refl β,ZjS T (ZfI I β) hdst',⟨Zgf hd.1 hdk,by rw [ZbT];exact hd.2⟩,R⟩
 ·rename_i hw
  simp only at hw
  rw [ZjW T hg hw]
  simp only [if_true]
  split at h
  ·rename_i hf
   split at h
   ·rename_i v' σ1 c' he
    simp only [Xa,Xb] at h
    obtain ⟨rfl,rfl,rfl,rfl⟩:=h
    have hs:nsite i≠0->σ[sq]?=some .free:=by
     intro hn
     simp only [Wp,beq_iff_eq] at hf
     exact ZcB.1 (hf.resolve_left hn)
    rcases Zq7 hO hi T R hb hs he with hok | ⟨x,rfl,hpan⟩
    ·refine Xn (hok.wp (fun u w' hp=>?_))
     obtain ⟨I',β',h1,h2,h3,h4⟩:=hp
     refine hK ?_ _ _ ⟨I',β',h1,h2,ZjS (T.mono h1 h2) h4 hdst',⟨Zgf hd.1 hdk,by rw [ZbT];exact hd.2⟩,h3⟩
     rintro x rfl
     simp only [VR] at h4
    ·exact Xn (hpan.wp (fun u w' hp=>hQ x rfl u w' hp))
   ·cases h
  ·cases h
theorem Zg9 (hO:ZI P O) (hkp:∀ n ∈ dr.K,n ∈ an.keep) (hb:KLt base w0) {ops:Array Oper} {Q:Exit->Act->World->Prop}:∀ {l:List Oper} {asl:List AOp} {sq:Nat} {I:Imm} {β:Bmap} {tm tm':Tms} {σ σ':Za} {cs:List Cls} {p:Option AVal} {a:Act} {w:World},Za3 P an ops l=some asl->TR I β tm a.tmps->(dr.ok a/\an.nt<=a.tmps.size)->Rel base w0 I0 I β σ w ->
  Zm O bf asl sq tm σ=some (tm',σ',cs,p)->(p=none->∀ a' w',StR dr an.nt base w0 I0 I β tm' σ' a' w'->Q .normal a' w') ->
  (∀ x,p=some x->∀ a' u w',dr.ok a'->Post base w0 I0 I β x σ' u w'->Q (.panic [{ v:=u,recovered:=false }]) a' w')->wpList P ops Q l a w
 | [],asl,sq,I,β,tm,tm',σ,σ',cs,p,a,w,hc,T,hd,R,h,hQ,_=>by
  simp only [Za3,Xa] at hc;subst hc
  simp only [Zm,Xa,Xb] at h
  obtain ⟨rfl,rfl,rfl,rfl⟩:=h
  exact wpList_nil (hQ rfl _ _ ⟨I,β,Imm.le.refl I,Bmap.le.refl β,T,hd,R⟩)
 | o::l,asl,sq,I,β,tm,tm',σ,σ',cs,p,a,w,hc,T,hd,R,h,hQ,hP=>by
  simp only [Za3] at hc
  split at hc
  ·rename_i ao hao
   split at hc
   ·rename_i as' has'
    injection hc with hc;subst hc
    simp only [Zm] at h
    split at h
    ·cases h
    ·rename_i x tm1 σ1 c1 h1
     simp only [Xa,Xb] at h
     obtain ⟨rfl,rfl,rfl,rfl⟩:=h
     have:=Zed (dr:=dr) (K:=wpList P ops Q l) (Q:=Q) hO hkp hao T hd R hb h1 (fun hn=>absurd rfl (hn x)) (fun x' e u w' hp=>by
      injection e with e;subst e
      exact hP x rfl a u w' hd.1 hp)
     unfold wpList
     exact this
    ·rename_i v tm1 σ1 c1 hnp h1
     split at h
     ·cases h
     rename_i tm2 σ2 cs2 p2 h2
     simp only [Xa,Xb] at h
     obtain ⟨rfl,rfl,rfl,rfl⟩:=h
     have:=Zed (dr:=dr) (K:=wpList P ops Q l) (Q:=Q) hO hkp hao T hd R hb h1 (fun _ a' w' hs=>by
      obtain ⟨I',β',g1,g2,g3,g4,g5⟩:=hs
      exact Zg9 hO hkp hb has' g3 g4 g5 h2 (fun hp a'' w'' hs'=>hQ hp a'' w'' (hs'.trans g1 g2)) (fun x hx a'' u w'' hd' hp=>hP x hx a'' u w'' hd' (hp.trans g1 g2))) (fun x e=>absurd e (fun e=>hnp x e))
     unfold wpList
     exact this
   ·cases hc
  ·cases hc
theorem ZeR {ops:Array Oper}:∀ {l:List Oper} {asl:List AOp},Za3 P an ops l=some asl->asl.length=l.length/\∀ (i:Nat) (o:Oper),l[i]?=some o->∃ ao,asl[i]?=some ao/\Zdq P an ops o=some ao
 | [],asl,h=>by simp only [Za3,Xa] at h;subst h;exact ⟨rfl,fun i o ho=>by simp at ho⟩
 | o::l,asl,h=>by
  simp only [Za3] at h
  split at h
  ·rename_i ao hao
   split at h
   ·rename_i as' has'
    injection h with h;subst h
    obtain ⟨h1,h2⟩:=ZeR has'
    refine ⟨by simp [h1],fun i o' ho'=>?_⟩
    cases i with
    | zero=>simp only [XI,Xa] at ho';subst ho';exact ⟨ao,rfl,hao⟩
    | succ i=>simp only [XP] at ho' ⊢;exact h2 i o' ho'
   ·cases h
  ·cases h
theorem ZgZ:∀ (ls acc:List (List Nat)),(∀ j p,p ∈ (acc.getD j [])->True)->(ZaT ls acc).take acc.length=acc/\(ZaT ls acc).length=acc.length+ls.length /\
  ∀ j,j < ls.length->∀ p,p ∈ (ZaT ls acc).getD (acc.length+j) []->p ∈ ls.getD j []\/∃ i ∈ ls.getD j [],i < acc.length+j/\p ∈ (ZaT ls acc).getD i []
 | [],acc,_=>by simp [ZaT]
 | l::ls,acc,_=>by
  obtain ⟨h1,h2,h3⟩:=ZgZ ls (acc++[l++l.flatMap fun i=>acc.getD i []]) (fun _ _ _=>trivial)
  simp only [ZaT]
  have hlen:(acc++[l++l.flatMap fun i=>acc.getD i []]).length=acc.length+1:=by simp
  rw [hlen] at h1 h2 h3
  have hpre:∀ i,i < acc.length+1->(ZaT ls (acc++[l++l.flatMap fun i=>acc.getD i []])).getD i []=(acc++[l++l.flatMap fun i=>acc.getD i []]).getD i []:=by
   intro i hi
   have:=congrArg (fun q:List (List Nat)=>q.getD i []) h1
   simp only [Xd,List.getElem?_take,hi,if_true] at this ⊢
   exact this
  refine ⟨?_,by rw [h2];simp;omega,?_⟩
  ·have:=congrArg (List.take acc.length) h1
   rw [List.take_take,Nat.min_eq_left (by omega)] at this
   rw [this];simp
  ·intro j hj p hp
   cases j with
   | zero =>
    rw [XU,hpre _ (by omega)] at hp
    simp only [Xd,WB (XL _),WN,XI,Wt,Xl,XR] at hp
    rcases hp with hp | ⟨i,hi,hp⟩
    ·exact Xn (by simpa using hp)
    ·refine Xv ⟨i,by simpa using hi,?_,?_⟩
     ·by_cases hlt:i < acc.length
      ·omega
      ·rw [XN (by omega)] at hp;simp at hp
     ·have hlt:i < acc.length:=by
       by_cases hlt:i < acc.length
       ·exact hlt
       ·rw [XN (by omega)] at hp;simp at hp
      rw [hpre i (by omega)]
      simp only [Xd,Wg hlt]
      exact hp
   | succ j =>
    have:=h3 j (by simpa using hj) p (by rw [show acc.length+1+j=acc.length+(j+1) by omega];exact hp)
    rcases this with h | ⟨i,h4,h5,h6⟩
    ·exact Xn (by simpa using h)
    ·exact Xv ⟨i,by simpa using h4,by omega,h6⟩
theorem ZkW (f:Nat->Nat) (p:Nat):∀ (l:List Nat) (m:Nat),(l.foldl (fun m i=>m ||| 2 ^ i ||| f i) m).testBit p=true->m.testBit p=true\/p ∈ l\/∃ i ∈ l,(f i).testBit p=true
 | [],m,h=>Xn h
 | i::l,m,h=>by
  rcases ZkW f p l _ h with h | h | ⟨j,h1,h2⟩
  ·simp only [Nat.testBit_or,Wp,Nat.testBit_two_pow,decide_eq_true_eq] at h
   rcases h with (h | h) | h
   ·exact Xn h
   ·exact Xv (Xn (by simp [h]))
   ·exact Xv (Xv ⟨i,by simp,h⟩)
  ·exact Xv (Xn (by simp [h]))
  ·exact Xv (Xv ⟨j,by simp [h1],h2⟩)
theorem ZgF:∀ (ls:List (List Nat)) (accM:List Nat) (accL:List (List Nat)),accM.length=accL.length->(∀ j p,(accM.getD j 0).testBit p=true->p ∈ accL.getD j [])->∀ j p,((Zd0 ls accM).getD j 0).testBit p=true->p ∈ (ZaT ls accL).getD j []
 | [],accM,accL,_,h=>h
 | l::ls,accM,accL,hl,h=>by
  simp only [Zd0,ZaT]
  refine ZgF ls _ _ (by simp [hl]) ?_
  intro j p hp
  by_cases hj:j < accM.length
  ·simp only [Xd,Wg hj] at hp
   simp only [Xd,Wg (show j < accL.length by omega)]
   have:=h j p (by simpa [Xd] using hp)
   simpa [Xd] using this
  ·by_cases hj':j=accM.length
   ·subst hj'
    simp only [Xd,WB (XL _),WN,XI,Wt] at hp
    rw [hl]
    simp only [Xd,WB (XL _),WN,XI,Wt,Xl,XR]
    rcases ZkW _ p l 0 hp with h0 | h0 | ⟨i,h1,h2⟩
    ·simp at h0
    ·exact Xn h0
    ·refine Xv ⟨i,h1,?_⟩
     have:=h i p (by simpa [Xd] using h2)
     simpa [Xd] using this
   ·simp only [Xd] at hp
    rw [XN (by simp;omega)] at hp
    simp at hp
theorem ZiE {asl:List AOp} {ps:List (Nat×Nat)} (h:Zcu asl=some ps) :
  (∀ i j,i < j->j < asl.length->i ∉ (ZaT (asl.map (·.after)) []).getD j []->(asl.getD i default).apartT (asl.getD j default)=true/\((asl.getD i default).ins.touches=false\/(asl.getD j default).ins.touches=false\/(i,j) ∈ ps))/\(∀ j,j < asl.length->∀ i ∈ (asl.getD j default).after,i < j):=by
 have hsub:=ZgF (asl.map (·.after)) [] [] rfl (by simp)
 unfold Zcu at h
 simp only at h
 split at h
 ·rename_i hc
  simp only [Xc,Xp,XR,XF,X3,Wm,forall_exists_index,and_imp,Wx,decide_eq_true_eq] at hc
  obtain ⟨h1,h2⟩:=hc
  injection h with h
  have hbit:∀ i j,i ∉ (ZaT (asl.map (·.after)) []).getD j []->((Zd0 (asl.map (·.after)) []).getD j 0).testBit i=false:=by
   intro i j hn
   cases hb:((Zd0 (asl.map (·.after)) []).getD j 0).testBit i with
   | false=>rfl
   | true=>exact absurd (hsub j i hb) hn
  refine ⟨fun i j hij hj hn=>⟨?_,?_⟩,fun j hj i hi=>h2 j hj i hi⟩
  ·exact h1 (i,j) j hj i hij (hbit i j hn) rfl
  ·cases ht1:(asl.getD i default).ins.touches with
   | false=>exact Xn rfl
   | true =>
    cases ht2:(asl.getD j default).ins.touches with
    | false=>exact Xv (Xn rfl)
    | true =>
     refine Xv (Xv ?_)
     rw [<-h]
     rw [Xl]
     refine Xn ?_
     simp only [X3,XR,XF,Wm,Xc]
     exact ⟨⟨j,hj,i,⟨hij,by rw [hbit i j hn];rfl⟩,rfl⟩,ht1,ht2⟩
 ·cases h
theorem Zq1 {asl:List AOp} {ps:List (Nat×Nat)} (h:Zcu asl=some ps) {j:Nat} (hm:(j,j) ∈ ps):∀ k,j < k->k < asl.length->j ∈ (ZaT (asl.map (·.after)) []).getD k []:=by
 have hsub:=ZgF (asl.map (·.after)) [] [] rfl (by simp)
 unfold Zcu at h
 simp only at h
 split at h
 ·injection h with h
  rw [<-h,Xl] at hm
  rcases hm with hm | hm
  ·simp only [X3,XR,XF,Wm,Xb] at hm
   obtain ⟨⟨a,_,b,⟨hb,_⟩,e1,e2⟩,_⟩:=hm
   omega
  ·simp only [XF,X3,Wm,Xb,and_self,Xc,Xp,Wp,decide_eq_true_eq] at hm
   obtain ⟨a,⟨_,_,ha⟩,rfl⟩:=hm
   intro k hk hkl
   rcases ha k hkl with h1 | h1
   ·omega
   ·exact hsub k a h1
 ·cases h
theorem ZwN {asl:List AOp} {ps:List (Nat×Nat)} (h:Zcu asl=some ps) {j:Nat} (hm:(j,j) ∈ ps):(asl.getD j default).ins.touches=true:=by
 unfold Zcu at h
 simp only at h
 split at h
 ·injection h with h
  rw [<-h,Xl] at hm
  rcases hm with hm | hm
  ·simp only [X3,XR,XF,Wm,Xb] at hm
   obtain ⟨⟨a,_,b,⟨hb,_⟩,e1,e2⟩,_⟩:=hm
   omega
  ·simp only [XF,X3,Wm,Xb,and_self,Xc] at hm
   obtain ⟨a,⟨_,hc,_⟩,rfl⟩:=hm
   cases hi:(asl.getD a default).ins <;> rw [hi] at hc <;> first | rfl | (simp [Za8] at hc)
 ·cases h
end
end
end Go.Proofs.YtkoknlginefmgaaDoor
