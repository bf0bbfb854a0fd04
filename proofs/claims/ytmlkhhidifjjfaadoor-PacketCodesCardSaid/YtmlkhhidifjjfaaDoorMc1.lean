/- packed -/
import Derived.Test.YtmlkhhidifjjfaaDoorMc0
import Derived.Laws.StructEq
import Derived.Laws.Small
import Derived.Orders
import Derived.LoopN
import Derived.Scope
set_option linter.unusedSimpArgs false
set_option linter.unusedVariables false
namespace Go.Proofs.YtmlkhhidifjjfaaDoor
open Go.RowKit
section
variable {base:Nat→Prop} {w0 w w':World} {I0 I I':Imm} {β β':Bmap} {σ σ':Za} {ρ:Rho}
def Zgv (ρ:Rho) (β β':Bmap):Prop:=∀ t g t' g' bi,ρ t g=some (t',g')→β t g=some bi→β' t' g'=some bi
mutual
theorem ZhO (hρ:Zgv ρ β β'):∀ (x:AVal) (v:Value),VR I β x v→VR I β' (Zk ρ x) v
 | .top,_,h=>by simp only [Zk,VR]
 | .any,_,h=>by simpa only [Zk,VR] using h
 | .int _ _,_,h=>by simpa only [Zk,VR] using h
 | .bool _,_,h=>by simpa only [Zk,VR] using h
 | .str _,_,h=>by simpa only [Zk,VR] using h
 | .nilp,_,h=>by simpa only [Zk,VR] using h
 | .nilm,_,h=>by simpa only [Zk,VR] using h
 | .nili,_,h=>by simpa only [Zk,VR] using h
 | .pan _,_,h=>by simp only [VR] at h
 | .iface t x,_,h=>by
  simp only [Zk,VR] at h ⊢
  obtain ⟨u,h1,h2⟩:=h
  exact ⟨u,h1,ZhO hρ x u h2⟩
 | .ref t o,_,h=>by
  simp only [VR] at h
  obtain ⟨b,k,c,h1,h2⟩:=h
  simp only [Zk]
  split
  ·rename_i t' e
   simp only [VR]
   exact ⟨b,k,c,hρ _ _ _ _ _ e h1,h2⟩
  ·subst h2;simp only [VR];exact ⟨rfl,rfl⟩
 | .map t,_,h=>by
  simp only [VR] at h
  obtain ⟨b,k,c,h1,h2⟩:=h
  simp only [Zk]
  split
  ·rename_i t' e
   simp only [VR]
   exact ⟨b,k,c,hρ _ _ _ _ _ e h1,h2⟩
  ·subst h2;simp only [VR];exact ⟨rfl,rfl⟩
 | .eref t g i o,_,h=>by
  simp only [VR] at h
  obtain ⟨b,k,c,h1,h2⟩:=h
  simp only [Zk]
  split
  ·rename_i t' g' e
   simp only [VR]
   exact ⟨b,k,c,hρ _ _ _ _ _ e h1,h2⟩
  ·subst h2;simp only [VR];exact ⟨rfl,rfl⟩
 | .sl t g lo n,_,h=>by
  simp only [VR] at h
  obtain ⟨bi,h1,h2,h3,h4⟩:=h
  simp only [Zk]
  split
  ·rename_i t' g' e
   simp only [VR]
   exact ⟨bi,hρ _ _ _ _ _ e h1,h2,h3,h4⟩
  ·simp only [VR]
   rcases h4 with ⟨_,_,rfl⟩ | ⟨_,_,_,rfl⟩ | ⟨_,_,_,_,rfl⟩ <;> exact ⟨rfl,rfl⟩
 | .iptr cs o,_,h=>by
  simp only [Zk,VR] at h ⊢
  obtain ⟨b,off,h1,h2,h3⟩:=h
  exact ⟨b,off,h1,CR.of_tree h3 h2,h3⟩
 | .lst x xs,_,h=>by
  simp only [Zk,VR] at h ⊢
  obtain ⟨A,cap,h1,h2,h3,h4,h5,h6⟩:=h
  refine ⟨A,cap,h1,h2,h3,h4,?_,h6⟩
  rcases h5 with h5 | ⟨b,off,k,e,hk,h5⟩
  ·exact Or.inl h5
  ·exact Or.inr ⟨b,off,k,e,hk,(LR.tree k xs b off h6 h5).mono (Imm.le.refl I) (Zh1 β') _ _ _ _⟩
 | .agg cs,_,h=>by
  simp only [Zk,VR] at h ⊢
  obtain ⟨us,h1,h2⟩:=h
  exact ⟨us,h1,ZfJ hρ cs us.toList h2⟩
 | .tup cs,_,h=>by
  simp only [Zk,VR] at h ⊢
  obtain ⟨us,h1,h2⟩:=h
  exact ⟨us,h1,ZfJ hρ cs us.toList h2⟩
 | .fn f cs,_,h=>by
  simp only [Zk,VR] at h ⊢
  obtain ⟨fs,us,h1,h0,h2⟩:=h
  exact ⟨fs,us,h1,h0,ZfJ hρ cs (fs.toList++us.toList) h2⟩
theorem ZfJ (hρ:Zgv ρ β β'):∀ (xs:List AVal) (vs:List Value),VRs I β xs vs→VRs I β' (Ze ρ xs) vs
 | [],_,h=>by simpa only [Ze,VRs] using h
 | x::xs,_,h=>by
  simp only [Ze,VRs] at h ⊢
  obtain ⟨v,vs',h1,h2,h3⟩:=h
  exact ⟨v,vs',h1,ZhO hρ x v h2,ZfJ hρ xs vs' h3⟩
end
theorem Zfz:∀ (xs:List AVal),Ze ρ xs=xs.map (Zk ρ)
 | []=>rfl
 | x::xs=>by simp only [Ze,List.map_cons,Zfz xs]
def ZdW:ZM→Bool
 | .var _ | .map _ | .siter _ _=>true
 | _=>false
theorem Ztf (x:AVal):(Zk ρ x).cells=x.cells.map (Zk ρ):=by
 cases x with
 | agg cs=>simp only [Zk,AVal.cells,Zfz]
 | ref t o =>
  show (Zk ρ (.ref t o)).cells=[Zk ρ (.ref t o)]
  simp only [Zk]
  generalize ρ t 0=q
  rcases q with _ | ⟨t',_ | g⟩ <;> rfl
 | eref t g i o =>
  show (Zk ρ (.eref t g i o)).cells=[Zk ρ (.eref t g i o)]
  simp only [Zk]
  generalize ρ t g=q
  rcases q with _ | ⟨t',g'⟩ <;> rfl
 | sl t g i o =>
  show (Zk ρ (.sl t g i o)).cells=[Zk ρ (.sl t g i o)]
  simp only [Zk]
  generalize ρ t g=q
  rcases q with _ | ⟨t',g'⟩ <;> rfl
 | map t =>
  show (Zk ρ (.map t)).cells=[Zk ρ (.map t)]
  simp only [Zk]
  generalize ρ t 0=q
  rcases q with _ | ⟨t',_ | g⟩ <;> rfl
 | _=>simp only [Zk,AVal.cells,List.map_cons,List.map_nil]
theorem ZAR (x:AVal):x.cells.length=(Zk ρ x).cells.length∧(∀ c ∈ (Zk ρ x).cells,∃ c0 ∈ x.cells,c=Zk ρ c0):=by
 rw [Ztf]
 exact ⟨by simp,fun c hc=>by obtain ⟨c0,h0,rfl⟩:=List.mem_map.1 hc;exact ⟨c0,h0,rfl⟩⟩
theorem Zy4 {c:AVal} (h:ZD c=true):ZD (Zk ρ c)=true:=by
 cases c <;> first
  | (simp [ZD] at h;done)
  | (simp only [Zk];rfl)
  | (simp only [Zk];split <;> rfl)
theorem Ztq:∀ (xs:List AVal),(Ze ρ xs).flatMap AVal.cells=Ze ρ (xs.flatMap AVal.cells)
 | []=>rfl
 | x::xs=>by
  rw [Ze,List.flatMap_cons,List.flatMap_cons,Ztq xs,Zfz,Zfz,List.map_append]
  rw [Ztf]
theorem Zsz (hρ:Zgv ρ β β') {t t':Nat} {x:ZM} {g':Nat} (hg:∀ bi,β t (Zp x)=some bi→β' t' g'=some bi) (hv:ZdW x=true→g'=0) (h:BR I β w t x):BR I β' w t' (ZJ ρ g' x):=by
 cases x with
 | free=>trivial
 | map es =>
  obtain ⟨b,k,c,arr,clk,h1,h2,h3,h4,h5⟩:=h
  have e:=hv rfl
  subst e
  refine ⟨b,k,c,arr,clk,hg _ h1,h2,?_,?_,?_⟩
  ·rw [List.map_map]
   refine VRs.of_cells (β:=β) ?_ h3
   intro x hx
   obtain ⟨p,hp,rfl⟩:=List.mem_map.1 hx
   have:=h5 p hp
   show ZaH p.1.cells=true
   generalize p.1=q at this ⊢
   cases q <;> simp [Zrs] at this <;> rfl
  ·have:=ZfJ hρ _ _ h4
   rw [Zfz,List.map_map] at this
   rw [List.map_map]
   exact this
  ·intro p hp
   obtain ⟨q,hq,rfl⟩:=List.mem_map.1 hp
   exact h5 q hq
 | siter l p =>
  obtain ⟨b,k,c,h1,h2⟩:=h
  have e:=hv rfl
  subst e
  exact ⟨b,k,c,hg _ h1,h2⟩
 | rrow g k xs =>
  obtain ⟨bi,h1,h2,h3,h4,h5,h6,b,us,ty,e,h8,h9,h10⟩:=h
  refine ⟨bi,hg _ h1,h2,h3,h4,by rw [Zfz,List.length_map];exact h5,?_,b,us,ty,e,h8,h9,?_⟩
  ·intro x hx
   rw [Zfz] at hx
   obtain ⟨y,hy,rfl⟩:=List.mem_map.1 hx
   obtain ⟨q1,q2⟩:=ZAR (ρ:=ρ) y
   refine ⟨by rw [←q1];exact (h6 y hy).1,fun c hc=>?_⟩
   obtain ⟨c0,hc0,rfl⟩:=q2 c hc
   exact Zy4 ((h6 y hy).2 c0 hc0)
  ·rw [Ztq,show (Ze ρ xs).length=xs.length by rw [Zfz,List.length_map]]
   exact ZfJ hρ _ _ h10
 | var cs =>
  obtain ⟨b,k,c,us,ty,h1,h2,h3⟩:=h
  have e:=hv rfl
  subst e
  exact ⟨b,k,c,us,ty,hg _ h1,h2,ZfJ hρ _ _ h3⟩
 | row g k xs =>
  obtain ⟨bi,h1,h2,h3,h4,h5,h6,h7,h8⟩:=h
  refine ⟨bi,hg _ h1,h2,h3,h4,h5,h6,h7,?_⟩
  rcases h8 with h8 | ⟨b,us,ty,e,h8,h9,h10⟩
  ·exact Or.inl h8
  ·refine Or.inr ⟨b,us,ty,e,h8,h9,VRs.of_cells (β:=β) ?_ h10⟩
   intro x hx
   have:=Zc2.1 (Zls h6) x hx
   cases x <;> simp_all [ZaO,AVal.cells,ZaH]
 | frow g k xs =>
  obtain ⟨bi,h1,h2,h3,h4,h5,h6,h7⟩:=h
  refine ⟨bi,hg _ h1,h2,h3,h4,h5,h6,?_⟩
  rcases h7 with h7 | ⟨b,e,h7⟩
  ·exact Or.inl h7
  ·exact Or.inr ⟨b,e,(LR.tree _ _ _ _ h6 h7).mono (Imm.le.refl I) (Zh1 β') _ _ _ _⟩
theorem ZtI {t t' g':Nat} {x:ZM} (hg:∀ bi,β t (Zp x)=some bi→β' t' g'=some bi) (hv:ZdW x=true→g'=0) (h:BR I β w t x):ZB β' t' (ZJ ρ g' x)=ZB β t x:=by
 cases x with
 | free=>rfl
 | map es =>
  obtain ⟨b,k,c,_,_,h1,_⟩:=h
  have e:=hv rfl
  subst e
  have h2:=hg _ h1
  have h1':β t 0=some ⟨some b,k,c⟩:=h1
  simp [ZB,ZJ,h1',h2]
 | siter l p =>
  obtain ⟨b,k,c,h1,_⟩:=h
  have e:=hv rfl
  subst e
  have h2:=hg _ h1
  have h1':β t 0=some ⟨some b,k,c⟩:=h1
  simp [ZB,ZJ,h1',h2]
 | rrow g k xs =>
  obtain ⟨bi,h1,_⟩:=h
  have h2:=hg _ h1
  have h1':β t g=some bi:=h1
  simp [ZB,ZJ,h1',h2]
 | frow=>rfl
 | var cs =>
  obtain ⟨b,k,c,us,ty,h1,_⟩:=h
  have e:=hv rfl
  subst e
  have h2:=hg _ h1
  have h1':β t 0=some ⟨some b,k,c⟩:=h1
  simp [ZB,ZJ,h1',h2]
 | row g k xs =>
  obtain ⟨bi,h1,_⟩:=h
  have h2:=hg _ h1
  have h1':β t g=some bi:=h1
  simp [ZB,ZJ,h1',h2]
theorem Zt2 {g':Nat} {x:ZM} (hv:ZdW x=true→g'=0) (hx:okB x=true):Zp (ZJ ρ g' x)=g':=by
 cases x with
 | var cs=>simp [ZJ,Zp,hv rfl]
 | row=>rfl
 | frow=>rfl
 | rrow=>rfl
 | map es=>simp [ZJ,Zp,hv rfl]
 | siter l p=>simp [ZJ,Zp,hv rfl]
 | free=>simp [okB] at hx
theorem Zov:∀ {ids:List Nat} {t i j:Nat},Z1 t ids i=some j→∃ k,j=i+k∧ids[k]?=some t
 | [],t,i,j,h=>by simp [Z1] at h
 | x::xs,t,i,j,h=>by
  simp only [Z1] at h
  split at h
  ·rename_i e;injection h with h;subst h e;exact ⟨0,by simp,rfl⟩
  ·obtain ⟨k,h1,h2⟩:=Zov h
   exact ⟨k+1,by omega,by simpa using h2⟩
theorem ZtQ {m:Nat} {ids:List Nat}:∀ {ts:List Nat} {j i:Nat},(Zx σ m ids ρ ts j)[i]?=(ts[i]?).map fun t=>ZJ ρ (ZU m (j+i) (σ.getD t .free)) (σ.getD t .free)
 | [],j,i=>by simp [Zx]
 | t::ts,j,0=>by simp [Zx]
 | t::ts,j,i+1=>by
  simp only [Zx,List.getElem?_cons_succ]
  rw [ZtQ (ts:=ts) (j:=j+1) (i:=i)]
  congr 2
  funext t
  rw [show j+1+i=j+(i+1) by omega]
theorem ZmK {m:Nat} {ids:List Nat}:∀ {ts:List Nat} {j:Nat},(Zx σ m ids ρ ts j).length=ts.length
 | [],j=>rfl
 | t::ts,j=>by simp only [Zx,List.length_cons,ZmK]
def Zck (σ:Za) (m:Nat) (ids:List Nat) (β:Bmap):Bmap:=fun j g=>match ids[j]? with
 | some t=>match σ[t]? with
  | some b=>if okB b then (if g=ZU m j b then β t (Zp b) else if j < m∧g=0 then β t 0 else none) else none
  | none=>none
 | none=>none
theorem ZmQ {m:Nat} {ids:List Nat}:Zgv (Zl σ m ids) β (Zck σ m ids β):=by
 intro t g t' g' bi h hb
 unfold Zl at h
 split at h
 ·rename_i j hj
  obtain ⟨k,e,hk⟩:=Zov hj
  have e':j=k:=by omega
  subst e'
  have fin:∀ b,σ[t]?=some b→okB b=true→(if g=Zp b then some (j,ZU m j b) else (none:Option (Nat×Nat)))=some (t',g')→Zck σ m ids β t' g'=some bi:=by
   intro b hb' hok h
   by_cases e:g=Zp b
   ·rw [if_pos e] at h
    simp only [Option.some.injEq,Prod.mk.injEq] at h
    obtain ⟨rfl,rfl⟩:=h
    unfold Zck
    simp only [hk,hb',hok,if_true]
    rw [←e];exact hb
   ·rw [if_neg e] at h;cases h
  split at h
  ·cases h
  ·rename_i b n1 hb'
   refine fin b hb' ?_ h
   cases b with
   | free=>exact absurd rfl n1
   | map es=>rfl
   | siter=>rfl
   | rrow=>rfl
   | var=>rfl
   | row=>rfl
   | frow=>rfl
  ·cases h
 ·cases h
theorem ZDA {m j:Nat} {x:ZM} (h:ZdW x=true):ZU m j x=0:=by cases x <;> simp [ZdW] at h <;> simp [ZU,Zp]
theorem Rel.pick (R:Rel base w0 I0 I β σ w) {K':Nat→Prop} {w1:World} {I1:Imm} {m:Nat} {ids:List Nat} (hnd:ids.Nodup) (h1:KB K' w1 w) (h2:∀ b o,K' b→I b o=I1 b o) (h3:∀ t x b,t ∈ ids→σ[t]?=some x→ZB β t x=some b→¬K' b) :
  Rel K' w1 I1 I (Zck σ m ids β) (Zx σ m ids (Zl σ m ids) ids 0) w:=by
 have look:∀ j x',(Zx σ m ids (Zl σ m ids) ids 0)[j]?=some x'→∃ t,ids[j]?=some t∧(x'=.free∧(∀ g,Zck σ m ids β j g=none)∨∃ x,σ[t]?=some x∧okB x=true∧x'=ZJ (Zl σ m ids) (ZU m j x) x∧Zck σ m ids β j (ZU m j x)=β t (Zp x)):=by
  intro j x' h
  rw [ZtQ,Option.map_eq_some_iff] at h
  obtain ⟨t,ht,h⟩:=h
  simp only [Nat.zero_add] at h
  refine ⟨t,ht,?_⟩
  cases hx:σ[t]? with
  | none =>
   left
   have : σ.getD t .free=.free:=by simp [List.getD_eq_getElem?_getD,hx]
   rw [this] at h
   exact ⟨h.symm,fun g=>by simp [Zck,ht,hx]⟩
  | some x =>
   have hd:σ.getD t .free=x:=by simp [List.getD_eq_getElem?_getD,hx]
   rw [hd] at h
   by_cases hok:okB x=true
   ·exact Or.inr ⟨x,rfl,hok,h.symm,by simp [Zck,ht,hx,hok]⟩
   ·left
    refine ⟨?_,fun g=>by simp [Zck,ht,hx,hok]⟩
    rw [←h]
    cases x <;> simp_all [okB,ZJ]
 have hvar:∀ (j:Nat) (x:ZM),ZdW x=true→ZU m j x=0:=fun j x h=>ZDA h
 have hown:∀ j x' b,(Zx σ m ids (Zl σ m ids) ids 0)[j]?=some x'→ZB (Zck σ m ids β) j x'=some b→∃ t x,ids[j]?=some t∧σ[t]?=some x∧ZB β t x=some b:=by
  intro j x' b h hb
  obtain ⟨t,ht,⟨rfl,_⟩ | ⟨x,hx,hok,rfl,hβ⟩⟩:=look j x' h
  ·cases hb
  ·rw [ZtI (fun bi h=>by rw [hβ];exact h) (hvar j x) (R.blk t x hx)] at hb
   exact ⟨t,x,ht,hx,hb⟩
 refine ⟨h1,h2,R.imm,?_,?_,?_,?_,?_,?_,R.glob⟩
 ·intro j x' h
  obtain ⟨t,ht,⟨rfl,_⟩ | ⟨x,hx,hok,rfl,hβ⟩⟩:=look j x' h
  ·trivial
  ·exact Zsz ZmQ (fun bi h=>by rw [hβ];exact h) (hvar j x) (R.blk t x hx)
 ·intro j x' b h hb
  obtain ⟨t,x,ht,hx,hb⟩:=hown j x' b h hb
  exact ⟨h3 t x b (List.mem_of_getElem? ht) hx hb,(R.own t x b hx hb).2⟩
 ·intro j x j' x' b h h' hb hb'
  obtain ⟨t,y,ht,hy,e⟩:=hown j x b h hb
  obtain ⟨t',y',ht',hy',e'⟩:=hown j' x' b h' hb'
  have:=R.apart t y t' y' b hy hy' e e'
  subst this
  exact (List.getElem?_inj (List.getElem?_eq_some_iff.1 ht).1 hnd).1 (ht.trans ht'.symm)
 ·intro j g h
  rw [ZmK] at h
  unfold Zck
  rw [List.getElem?_eq_none h]
 ·intro j g h
  obtain ⟨t,ht,⟨_,h⟩ | ⟨x,hx,hok,h,hβ⟩⟩:=look j _ h
  ·exact h g
  ·cases x <;> first | (simp only [okB] at hok;cases hok;done) | (simp only [ZJ] at h;cases h;done)
 ·intro j b g h hg
  obtain ⟨t,ht,⟨_,h⟩ | ⟨x,hx,hok,rfl,hβ⟩⟩:=look j _ h
  ·exact h g
  ·rw [Zt2 (hvar j x) hok] at hg
   simp only [Zck,ht,hx,hok,if_true]
   rw [if_neg (by omega),if_neg (by omega)]
theorem Zih:∀ (n:Nat) (todo acc:List Nat),acc.Nodup→(ZA σ n todo acc).Nodup∧∃ r,ZA σ n todo acc=acc++r
 | 0,todo,acc,h=>⟨h,[],by simp [ZA]⟩
 | n+1,[],acc,h=>⟨h,[],by simp [ZA]⟩
 | n+1,t::todo,acc,h=>by
  simp only [ZA]
  split
  ·exact Zih n todo acc h
  ·rename_i hc
   have hnd:(acc++[t]).Nodup:=by
    rw [List.nodup_append]
    refine ⟨h,by simp,?_⟩
    intro a ha b hb
    simp only [List.mem_singleton] at hb
    subst hb
    rintro rfl
    simp [ha] at hc
   obtain ⟨h1,r,h2⟩:=Zih n (ZQ (σ.getD t .free)++todo) (acc++[t]) hnd
   exact ⟨h1,t::r,by rw [h2];simp⟩
def KeptE (m:Nat) (β β':Bmap):Prop:=∀ t,t < m→∀ bi,β t 0=some bi→β' t 0=some bi
theorem KeptE.refl (m:Nat) (β:Bmap):KeptE m β β:=fun _ _ _ h=>h
theorem KeptE.trans {m:Nat} {a b c:Bmap} (h:KeptE m a b) (h':KeptE m b c):KeptE m a c:=fun t ht bi e=>h' t ht bi (h t ht bi e)
theorem KeptE.of_le {m:Nat} (h:β.le β'):KeptE m β β':=fun t _ bi e=>h t 0 bi e
theorem ZnX (R:Rel base w0 I0 I β σ w) (m:Nat) (roots:List AVal):∃ β',KeptE m β β'∧Rel base w0 I0 I β' (gcA m roots σ).2 w∧Zgv (Zl σ m (ZE m roots σ)) β β':=by
 obtain ⟨hnd,r,hr⟩:=Zih (σ:=σ) 1000 (Zr roots++(List.range m).flatMap fun t=>ZQ (σ.getD t .free)) (List.range m) List.nodup_range
 have hids:ZE m roots σ=List.range m++r:=hr
 refine ⟨Zck σ m (ZE m roots σ) β,?_,R.pick hnd R.below R.old (fun t x b _ hx hb=>(R.own t x b hx hb).1),ZmQ⟩
 intro t ht bi hb
 have h1:(ZE m roots σ)[t]?=some t:=by rw [hids,List.getElem?_append_left (by simpa using ht)];simp [ht]
 unfold Zck
 simp only [h1]
 cases hx:σ[t]? with
 | none =>
  have : β t 0=none:=R.fresh t 0 (by simpa using hx)
  rw [this] at hb;cases hb
 | some x =>
  simp only
  have hok:okB x=true:=by
   cases x with
   | free=>rw [R.free t 0 hx] at hb;cases hb
   | map es=>rfl
   | siter=>rfl
   | rrow=>rfl
   | var=>rfl
   | row=>rfl
   | frow=>rfl
  rw [if_pos hok]
  split
  ·rename_i e
   have : Zp x=0:=by
    unfold ZU at e
    by_cases h0:Zp x=0
    ·exact h0
    ·rw [if_pos ⟨ht,h0⟩] at e;cases e
   rw [this];exact hb
  ·rw [if_pos ⟨ht,trivial⟩];exact hb
theorem ZtK:∀ (tm:Tms) (n:Nat),tget ((tm.map (·.1)).zip (Ze ρ (tm.map (·.2)))) n=Zk ρ (tget tm n)
 | [],n=>by simp [tget,Zk]
 | (d,v)::tm,n=>by
  simp only [List.map_cons,Ze,List.zip_cons_cons,tget]
  split
  ·rfl
  ·exact ZtK tm n
theorem ZLP (R:Rel base w0 I0 I β σ w) {tm:Tms} {tmps:Array Value} (T:TR I β tm tmps) (m:Nat):∃ β',KeptE m β β'∧Rel base w0 I0 I β' (gcT m tm σ).2 w∧TR I β' (gcT m tm σ).1 tmps:=by
 obtain ⟨β',h1,h2,h3⟩:=ZnX R m (tm.map (·.2))
 refine ⟨β',h1,h2,fun n=>?_⟩
 show VR I β' (tget ((tm.map (·.1)).zip (Ze _ (tm.map (·.2)))) n) _
 rw [ZtK]
 exact ZhO h3 _ _ (T n)
def Ends (r:AVal) (e:Ending) (u:Value):Prop:=match r with
 | .pan _=>e=.panicked [{ v:=u,recovered:=false }]
 | _=>e=.returned u
def ZaS:AVal→AVal
 | .pan x=>x
 | x=>x
def Zb5 (m:Nat) (base:Nat→Prop) (w0:World) (I0 I:Imm) (β:Bmap) (r:AVal) (σ':Za) (u:Value) (w':World):Prop :=
 ∃ I' β',I.le I'∧KeptE m β β'∧Rel base w0 I0 I' β' σ' w'∧VR I' β' (ZaS r) u
theorem Ends.ren {r:AVal} {e:Ending} {u:Value} (h:Ends r e u):Ends (Zk ρ r) e u:=by
 cases r <;> first
  | exact h
  | (simp only [Zk];split <;> exact h)
theorem ZfH {r:AVal} (h:∀ x,r≠.pan x):ZaS r=r:=by
 cases r <;> first | rfl | exact absurd rfl (h _)
theorem ZHK {r:AVal} (h:∀ x,r≠.pan x):∀ x,Zk ρ r≠.pan x:=by
 intro x
 cases r <;> first
  | (intro e;simp only [Zk] at e;cases e;done)
  | exact absurd rfl (h _)
  | (simp only [Zk];split <;> simp)
theorem Znc (r:AVal):ZaS (Zk ρ r)=Zk ρ (ZaS r)∨∃ x,r=.pan x:=by
 by_cases h:∃ x,r=.pan x
 ·exact Or.inr h
 ·have h':∀ x,r≠.pan x:=fun x e=>h ⟨x,e⟩
  exact Or.inl (by rw [ZfH (ZHK h'),ZfH h'])
theorem ZlR {m:Nat} {r r':AVal} {u:Value} (h:Zb5 m base w0 I0 I β r σ u w) (he:Zal m σ r=some (r',σ')):Zb5 m base w0 I0 I β r' σ' u w∧∀ e,Ends r e u→Ends r' e u:=by
 obtain ⟨I1,β1,h1,h2,h3,h4⟩:=h
 obtain ⟨β2,g1,g2,g3⟩:=ZnX h3 m [r]
 unfold Zal gcA at he
 simp only [Ze,Option.some.injEq,Prod.mk.injEq] at he
 obtain ⟨rfl,rfl⟩:=he
 refine ⟨⟨I1,β2,h1,h2.trans g1,g2,?_⟩,fun e he=>he.ren⟩
 have:=ZhO g3 _ _ h4
 rcases Znc (ρ:=Zl σ m (ZE m [r] σ)) r with e | ⟨x,rfl⟩
 ·rw [e];exact this
 ·exact this
theorem ZC1 {m:Nat} {r r':AVal} {h h':Za} {u:Value} (hp:Zb5 m base w0 I0 I β r h u w) (he:ZbI m (some (r,h))=some (r',h')):Zb5 m base w0 I0 I β r' h' u w∧∀ e,Ends r e u→Ends r' e u:=by
 by_cases hpan:∃ x,r=.pan x
 ·obtain ⟨x,rfl⟩:=hpan
  simp only [ZbI,Option.some.injEq,Prod.mk.injEq] at he
  obtain ⟨rfl,rfl⟩:=he
  exact ⟨hp,fun _ h=>h⟩
 ·have hv0:ZaS r=r:=by cases r <;> first | rfl | exact absurd ⟨_,rfl⟩ hpan
  have hends:∀ e,Ends r e u→e=.returned u:=by
   intro e h
   cases r <;> first | exact h | exact absurd ⟨_,rfl⟩ hpan
  have he':(match viewR h r with
   | some (r',ts)=>match gcA m [r'] (Zn h ts) with
    | ([r''],σ')=>some (r'',σ')
    | _=>none
   | none=>none)=some (r',h'):=by
   cases r <;> first | exact he | exact absurd ⟨_,rfl⟩ hpan
  split at he'
  ·rename_i r1 ts hview
   obtain ⟨I1,β1,h1,h2,h3,h4⟩:=hp
   rw [hv0] at h4
   obtain ⟨I2,k1,k2,k3,_,k5,_,_⟩:=Zhy ts h3
   have hres:=ZDV k2 (k5 (ZKT hview)) (by rw [k3.viewR];exact hview) (h4.mono k1 (Bmap.le.refl β1) _ _)
   have hnp:∀ x,r1≠.pan x:=by rintro x rfl;simp only [VR] at hres
   have hv1:ZaS r1=r1:=by cases r1 <;> first | rfl | exact absurd rfl (hnp _)
   have ho:Zal m (Zn h ts) r1=some (r',h'):=he'
   obtain ⟨q1,q2⟩:=ZlR (⟨I2,β1,h1.trans k1,h2,k2,by rw [hv1];exact hres.mono (Imm.le.refl I2) (Zh1 β1) _ _⟩:Zb5 m base w0 I0 I β r1 (Zn h ts) u w) ho
   refine ⟨q1,fun e he=>q2 e ?_⟩
   rw [hends e he]
   cases r1 <;> first | rfl | exact absurd rfl (hnp _)
  ·cases he'
end
end Go.Proofs.YtmlkhhidifjjfaaDoor
namespace Go.Proofs.YtmlkhhidifjjfaaDoor
open Go.RowKit
def ZaN (P:Program) (O:ZR):Prop:=∀ f args σ r σ',O f args σ=some (r,σ') →
 (∃ fn,P.funcs[f]?=some fn∧fn.body.isSome=true∧(fn.name == "runtime.NumGoroutine")=false) ∧
 ∀ base w0 I0 I β w (vs:Array Value),KLt base w0→Rel base w0 I0 I β σ w→VRs I β args vs.toList →
  Calls P f vs w (fun e w'=>∃ u,Ends r e u∧Zb5 σ.length base w0 I0 I β r σ' u w')
section
variable {P:Program} {base:Nat→Prop} {w0 w w':World} {I0 I I':Imm} {β β':Bmap} {σ σ':Za} {tm:Tms}
theorem ZjU {a:Act} (T:TR I β tm a.tmps):∀ {xs:List Operand} {ys:List Opd},ZcR xs=some ys→VRs I β (ys.map fun y=>y.ev tm) (xs.map a.eval)
 | [],ys,h=>by simp only [ZcR,Option.some.injEq] at h;subst h;simp [VRs]
 | x::xs,ys,h=>by
  simp only [ZcR] at h
  split at h
  ·rename_i y hy
   split at h
   ·rename_i ys' hys
    injection h with h;subst h
    simp only [List.map_cons,VRs]
    exact ⟨_,_,rfl,ZaE T hy,ZjU T hys⟩
   ·cases h
  ·cases h
theorem Zi0 {a:Act} (T:TR I β tm a.tmps) {x:Option Operand} {y:Option Opd} (h:Zgx x=some y):OVR I β (y.map fun y=>y.ev tm) (x.map a.eval):=by
 cases x with
 | none=>simp only [Zgx,Option.some.injEq] at h;subst h;rfl
 | some x =>
  simp only [Zgx,Option.map_eq_some_iff] at h
  obtain ⟨y',h1,rfl⟩:=h
  exact ⟨_,rfl,ZaE T h1⟩
theorem Zkl {f:FuncId} {args:Array Value} {fn:Func} (h1:P.funcs[f]?=some fn) (h2:fn.body.isSome=true) (h3:(fn.name == "runtime.NumGoroutine")=false):(callFunc f args).run P w=.ok (.enter f args) w:=by
 have h2':fn.body.isNone=false:=by cases hb:fn.body <;> simp_all
 have h3':¬fn.name = "runtime.NumGoroutine":=by simpa using h3
 have h2'':fn.body≠none:=by cases hb:fn.body <;> simp_all
 simp [callFunc,h1,h2'',h3']
section
variable {ids:List Nat} {site:Nat} {ρ:Rho}
theorem Zlu {σ0:Za} {t:Nat}:∀ {h:Za} {j:Nat} {σ:Za},(∀ i,i < h.length→ZaK ids site (j+i)≠t)→(Za5 σ0 ids site h j σ)[t]?=σ[t]?
 | [],j,σ,_=>rfl
 | b::bs,j,σ,hn=>by
  simp only [Za5]
  rw [Zlu (fun i hi=>by have:=hn (i+1) (by simp;omega);rwa [show j+(i+1)=j+1+i by omega] at this),List.getElem?_set,if_neg (by have:=hn 0 (by simp);simpa using this)]
theorem Zu4 {σ0:Za}:∀ {h:Za} {j i:Nat} {σ:Za} {b:ZM},(∀ i i',i < h.length→i' < h.length→ZaK ids site (j+i)=ZaK ids site (j+i')→i=i')→h[i]?=some b→ZaK ids site (j+i) < σ.length →
  (Za5 σ0 ids site h j σ)[ZaK ids site (j+i)]?=some (ZJ (ZaB σ0 ids site) (Zcl σ0 ids (j+i) b) b)
 | [],j,i,σ,b,_,h,_=>by simp at h
 | b'::bs,j,0,σ,b,hinj,h,hlt=>by
  simp only [List.getElem?_cons_zero,Option.some.injEq] at h
  subst h
  simp only [Za5,Nat.add_zero] at hlt ⊢
  rw [Zlu,List.getElem?_set,if_pos rfl,if_pos hlt]
  intro i hi e
  have:=hinj (i+1) 0 (by simp;omega) (by simp) (by rw [show j+(i+1)=j+1+i by omega];simpa using e)
  omega
 | b'::bs,j,i+1,σ,b,hinj,h,hlt=>by
  simp only [List.getElem?_cons_succ] at h
  simp only [Za5]
  rw [show j+(i+1)=j+1+i by omega] at hlt ⊢
  refine Zu4 (fun a a' ha ha' e=>?_) h (by simpa using hlt)
  have:=hinj (a+1) (a'+1) (by simp;omega) (by simp;omega) (by rw [show j+(a+1)=j+1+a by omega,show j+(a'+1)=j+1+a' by omega];exact e)
  omega
theorem Zq3 {σ0:Za}:∀ {h:Za} {j:Nat} {σ:Za},(Za5 σ0 ids site h j σ).length=σ.length
 | [],j,σ=>rfl
 | b::bs,j,σ=>by simp only [Za5];rw [Zq3];simp
theorem ZhH {σ0:Za}:∀ {h:Za} {j i:Nat} {b:ZM},ZaZ σ0 ids h j=true→h[i]?=some b→okB b=true∧(match ids[j+i]? with
  | some t=>Zce (σ0.getD t .free) b=true∧Zp b≤1
  | none=>Zp b=0)
 | [],j,i,b,_,h=>by simp at h
 | b'::bs,j,0,b,hok,h=>by
  simp only [List.getElem?_cons_zero,Option.some.injEq] at h
  subst h
  simp only [ZaZ,Bool.and_eq_true] at hok
  refine ⟨hok.1.1,?_⟩
  rw [Nat.add_zero]
  have:=hok.1.2
  revert this
  cases ids[j]? with
  | none=>intro h;simpa using h
  | some t=>intro h;simpa using h
 | b'::bs,j,i+1,b,hok,h=>by
  simp only [List.getElem?_cons_succ] at h
  simp only [ZaZ,Bool.and_eq_true] at hok
  have:=ZhH hok.2 h
  rwa [show j+1+i=j+(i+1) by omega] at this
theorem ZMH {x y:ZM} (hy:ZdW y=true) (h:Zce x y=true):Zp x=0:=by
 cases x <;> cases y <;> first | rfl | (simp [Zce] at h;done) | (simp [ZdW] at hy;done)
theorem Ztz {y:ZM} (hy:ZdW y=true):Zp y=0:=by
 cases y <;> first | rfl | (simp [ZdW] at hy;done)
theorem ZgA:∀ {n site i:Nat},Za1 σ site n=true→i < n→σ[site+i]?=some .free
 | 0,_,_,_,hi=>by omega
 | n+1,site,0,h,_=>by
  simp only [Za1,Bool.and_eq_true] at h
  have:=h.1
  unfold freeAt at this
  split at this
  ·rename_i e;simpa using e
  ·cases this
 | n+1,site,i+1,h,hi=>by
  simp only [Za1,Bool.and_eq_true] at h
  have:=ZgA (i:=i) h.2 (by omega)
  rwa [show site+1+i=site+(i+1) by omega] at this
theorem ZrX {t:Nat}:∀ {ids:List Nat} {i j:Nat},ids.Nodup→ids[j]?=some t→Z1 t ids i=some (i+j)
 | [],i,j,_,h=>by simp at h
 | x::xs,i,0,_,h=>by
  simp only [List.getElem?_cons_zero,Option.some.injEq] at h
  simp [Z1,h]
 | x::xs,i,j+1,hn,h=>by
  simp only [List.getElem?_cons_succ] at h
  rw [List.nodup_cons] at hn
  have hne:x≠t:=by rintro rfl;exact hn.1 (List.mem_of_getElem? h)
  simp only [Z1,hne,if_false]
  rw [ZrX hn.2 h]
  congr 1;omega
theorem ZmG {t:Nat}:∀ {ids:List Nat} {i:Nat},t ∉ ids→Z1 t ids i=none
 | [],i,_=>rfl
 | x::xs,i,h=>by
  simp only [List.mem_cons,not_or] at h
  have hne:x≠t:=fun e=>h.1 e.symm
  simp only [Z1,hne,if_false]
  exact ZmG h.2
def Zet (σ:Za) (ids:List Nat) (site n:Nat) (β β1:Bmap):Bmap:=fun t g=>match Z1 t ids 0 with
 | some j=>if g≤Zp (σ.getD t .free) then β t g else if g=Zp (σ.getD t .free)+1 then β1 j 1 else none
 | none=>if site≤t∧t < site+n then (if g=0 then β1 (ids.length+(t - site)) 0 else none) else β t g
set_option maxHeartbeats 2000000 in
theorem Rel.back {Ic:Imm} {βc:Bmap} {h:Za} {n:Nat} (R:Rel base w0 I0 I β σ w) (hb:KLt base w0) (hnd:ids.Nodup) (hok:ids.all (fun t=>okB (σ.getD t .free))=true)
  (Rc:Rel (fun b=>b < w.heap.size∧∀ t ∈ ids,∀ x,σ[t]?=some x→ZB β t x≠some b) w I Ic βc h w') (hI:I.le Ic) (hkept:KeptE ids.length (Zck σ 0 ids β) βc)
  (h1:h.length≤ids.length+n) (h2:ids.length≤h.length) (h3:ZaZ σ ids h 0=true) (h4:Za1 σ site n=true) :
  ∃ β2,β.le β2∧Rel base w0 I0 Ic β2 (Za5 σ ids site h 0 σ) w'∧Zgv (ZaB σ ids site) βc β2:=by
 have hbw:=R.base_le hb
 have hblk:∀ t,t ∈ ids→∃ x,σ[t]?=some x∧okB x=true∧σ.getD t .free=x∧∃ bi,β t (Zp x)=some bi:=by
  intro t ht
  have h0:=List.all_eq_true.1 hok t ht
  cases hx:σ[t]? with
  | none=>simp [List.getD_eq_getElem?_getD,hx,okB] at h0
  | some x =>
   have hd:σ.getD t .free=x:=by simp [List.getD_eq_getElem?_getD,hx]
   rw [hd] at h0
   refine ⟨x,rfl,h0,hd,?_⟩
   have hB:=R.blk t x hx
   cases x with
   | free=>simp [okB] at h0
   | map es=>obtain ⟨b,k,c,_,_,e,_⟩:=hB;exact ⟨_,e⟩
   | siter l p=>obtain ⟨b,k,c,e,_⟩:=hB;exact ⟨_,e⟩
   | rrow g k xs=>obtain ⟨bi,e,_⟩:=hB;exact ⟨_,e⟩
   | var cs=>obtain ⟨b,k,c,us,ty,e,_⟩:=hB;exact ⟨_,e⟩
   | row g k xs=>obtain ⟨bi,e,_⟩:=hB;exact ⟨_,e⟩
   | frow g k xs=>obtain ⟨bi,e,_⟩:=hB;exact ⟨_,e⟩
 have hnot:∀ i,i < n→site+i ∉ ids:=by
  intro i hi hm
  obtain ⟨x,hx,hk,_⟩:=hblk _ hm
  rw [ZgA h4 hi] at hx
  injection hx with hx;subst hx;simp [okB] at hk
 have tgt_ids:∀ j t,ids[j]?=some t→ZaK ids site j=t:=by intro j t ht;simp [ZaK,List.getD_eq_getElem?_getD,ht]
 have tgt_new:∀ j,ids.length≤j→ZaK ids site j=site+(j - ids.length):=by intro j hj;simp [ZaK,List.getD_eq_getElem?_getD,List.getElem?_eq_none hj]
 have split_j:∀ j,j < h.length→(∃ t,ids[j]?=some t∧t ∈ ids∧ZaK ids site j=t)∨(ids.length≤j∧ids[j]?=none∧j - ids.length < n∧ZaK ids site j=site+(j - ids.length)):=by
  intro j hj
  by_cases hlt:j < ids.length
  ·have e:ids[j]?=some ids[j]:=List.getElem?_eq_getElem hlt
   exact Or.inl ⟨ids[j],e,List.getElem_mem hlt,tgt_ids _ _ e⟩
  ·exact Or.inr ⟨by omega,List.getElem?_eq_none (by omega),by omega,tgt_new j (by omega)⟩
 have inj:∀ i i',i < h.length→i' < h.length→ZaK ids site (0+i)=ZaK ids site (0+i')→i=i':=by
  intro i i' hi hi' e
  rw [Nat.zero_add,Nat.zero_add] at e
  rcases split_j i hi with ⟨t,a1,a2,a3⟩ | ⟨a1,_,a3,a4⟩ <;> rcases split_j i' hi' with ⟨t',b1,b2,b3⟩ | ⟨b1,_,b3,b4⟩
  ·rw [a3,b3] at e;subst e
   exact (List.getElem?_inj (List.getElem?_eq_some_iff.1 a1).1 hnd).1 (a1.trans b1.symm)
  ·rw [a3,b4] at e;subst e;exact absurd a2 (hnot _ b3)
  ·rw [a4,b3] at e;subst e;exact absurd b2 (hnot _ a3)
  ·rw [a4,b4] at e;omega
 have tlt:∀ j,j < h.length→ZaK ids site j < σ.length:=by
  intro j hj
  rcases split_j j hj with ⟨t,a1,a2,a3⟩ | ⟨a1,_,a3,a4⟩
  ·rw [a3]
   obtain ⟨x,hx,_⟩:=hblk t a2
   exact (List.getElem?_eq_some_iff.1 hx).1
  ·rw [a4];exact (List.getElem?_eq_some_iff.1 (ZgA h4 a3)).1
 have look:∀ t x',(Za5 σ ids site h 0 σ)[t]?=some x'→(∃ j b,h[j]?=some b∧t=ZaK ids site j∧x'=ZJ (ZaB σ ids site) (Zcl σ ids j b) b)∨((∀ j,j < h.length→ZaK ids site j≠t)∧σ[t]?=some x'):=by
  intro t x' hx
  by_cases hex:∃ j,j < h.length∧ZaK ids site j=t
  ·obtain ⟨j,hj,rfl⟩:=hex
   have:=Zu4 (σ0:=σ) (σ:=σ) (j:=0) (i:=j) inj (List.getElem?_eq_getElem hj) (by rw [Nat.zero_add];exact tlt j hj)
   rw [Nat.zero_add] at this
   rw [this] at hx
   injection hx with hx
   exact Or.inl ⟨j,h[j],List.getElem?_eq_getElem hj,rfl,hx.symm⟩
  ·have hn:∀ j,j < h.length→ZaK ids site j≠t:=fun j hj e=>hex ⟨j,hj,e⟩
   rw [Zlu (fun i hi=>by rw [Nat.zero_add];exact hn i hi)] at hx
   exact Or.inr ⟨hn,hx⟩
 have out:∀ t,(∀ j,j < h.length→ZaK ids site j≠t)→t ∉ ids∧∀ g,Zet σ ids site (h.length - ids.length) β βc t g=β t g:=by
  intro t hn
  have h0:t ∉ ids:=by
   intro hm
   obtain ⟨j,hj⟩:=List.mem_iff_getElem?.1 hm
   exact hn j (by have:=(List.getElem?_eq_some_iff.1 hj).1;omega) (tgt_ids j t hj)
  refine ⟨h0,fun g=>?_⟩
  unfold Zet
  rw [ZmG h0]
  simp only
  rw [if_neg]
  rintro ⟨q1,q2⟩
  exact hn (ids.length+(t - site)) (by omega) (by rw [tgt_new _ (by omega)];omega)
 have atIds:∀ j t,ids[j]?=some t→∀ g,Zet σ ids site (h.length - ids.length) β βc t g=if g≤Zp (σ.getD t .free) then β t g else if g=Zp (σ.getD t .free)+1 then βc j 1 else none:=by
  intro j t hj g
  unfold Zet
  rw [ZrX hnd hj]
  simp only [Nat.zero_add]
 have atNew:∀ i,i < h.length - ids.length→∀ g,Zet σ ids site (h.length - ids.length) β βc (site+i) g=if g=0 then βc (ids.length+i) 0 else none:=by
  intro i hi g
  unfold Zet
  rw [ZmG (hnot i (by omega))]
  simp only
  rw [if_pos ⟨by omega,by omega⟩,show site+i - site=i by omega]
 have hle:β.le (Zet σ ids site (h.length - ids.length) β βc):=by
  intro t g bi e
  by_cases hex:∃ j,j < h.length∧ZaK ids site j=t
  ·obtain ⟨j,hj,rfl⟩:=hex
   rcases split_j j hj with ⟨t,a1,a2,a3⟩ | ⟨a1,_,a3,a4⟩
   ·rw [a3] at e ⊢
    rw [atIds j t a1]
    obtain ⟨x,hx,_,hd,_⟩:=hblk t a2
    rw [if_pos]
    ·exact e
    ·rcases Nat.lt_or_ge (Zp (σ.getD t .free)) g with hlt | hge
     ·rw [hd] at hlt;rw [R.gen t x g hx hlt] at e;cases e
     ·exact hge
   ·rw [a4] at e
    rw [R.free _ g (ZgA h4 a3)] at e;cases e
  ·rw [(out t fun j hj e=>hex ⟨j,hj,e⟩).2];exact e
 have kept:∀ j t,ids[j]?=some t→∀ bi,βc j 0=some bi→β t (Zp (σ.getD t .free))=some bi:=by
  intro j t hj bi e
  obtain ⟨x,hx,hk,hd,bi0,hb0⟩:=hblk t (List.mem_of_getElem? hj)
  have hp:Zck σ 0 ids β j 0=some bi0:=by
   unfold Zck
   simp only [hj,hx,hk,if_true]
   rw [if_pos (by simp [ZU])];exact hb0
  have:=hkept j (List.getElem?_eq_some_iff.1 hj).1 bi0 hp
  rw [this] at e;injection e with e;subst e
  rw [hd];exact hb0
 have hρ:Zgv (ZaB σ ids site) βc (Zet σ ids site (h.length - ids.length) β βc):=by
  intro j g t' g' bi hr hbi
  have hjlt:j < h.length:=by
   rcases Nat.lt_or_ge j h.length with hlt | hge
   ·exact hlt
   ·rw [Rc.fresh j g hge] at hbi;cases hbi
  have hj':=List.getElem?_eq_getElem hjlt
  obtain ⟨k1,k2⟩:=ZhH h3 hj'
  rw [Nat.zero_add] at k2
  have hgen:¬Zp h[j] < g:=fun hlt=>by rw [Rc.gen j _ g hj' hlt] at hbi;cases hbi
  rcases split_j j hjlt with ⟨t,a1,a2,a3⟩ | ⟨a1,a2,a3,a4⟩
  ·simp only [ZaB,a1,Option.some.injEq,Prod.mk.injEq] at hr
   obtain ⟨rfl,rfl⟩:=hr
   rw [a1] at k2
   rw [atIds j _ a1]
   have : g=0∨g=1:=by omega
   rcases this with rfl | rfl
   ·rw [if_pos (by omega)];exact kept j _ a1 bi hbi
   ·rw [if_neg (by omega),if_pos rfl];exact hbi
  ·simp only [ZaB,a2,Option.some.injEq,Prod.mk.injEq] at hr
   obtain ⟨rfl,rfl⟩:=hr
   rw [a2] at k2
   have : g=0:=by simp only at k2;omega
   subst this
   rw [atNew _ (by omega),if_pos rfl,show ids.length+(j - ids.length)=j by omega]
   exact hbi
 have hvar:∀ j b,h[j]?=some b→ZdW b=true→Zcl σ ids j b=0:=by
  intro j b hj e
  have hjlt:=(List.getElem?_eq_some_iff.1 hj).1
  obtain ⟨k1,k2⟩:=ZhH h3 hj
  rw [Nat.zero_add] at k2
  unfold Zcl
  rcases split_j j hjlt with ⟨t,a1,a2,a3⟩ | ⟨a1,a2,a3,a4⟩
  ·rw [a1] at k2 ⊢
   simp only at k2 ⊢
   obtain ⟨x,hx,hk,hd,_⟩:=hblk t a2
   rw [hd] at k2 ⊢
   rw [ZMH e k2.1,Ztz e]
  ·rw [a2];exact Ztz e
 have hβg:∀ j b,h[j]?=some b→∀ bi,βc j (Zp b)=some bi→Zet σ ids site (h.length - ids.length) β βc (ZaK ids site j) (Zcl σ ids j b)=some bi:=by
  intro j b hj bi e
  have hjlt:=(List.getElem?_eq_some_iff.1 hj).1
  refine hρ j (Zp b) _ _ bi ?_ e
  rcases split_j j hjlt with ⟨t,a1,a2,a3⟩ | ⟨a1,a2,a3,a4⟩
  ·simp only [ZaB,Zcl,a1,a3]
  ·simp only [ZaB,Zcl,a2,a4]
 have hKK:∀ b,base b→b < w.heap.size∧∀ t ∈ ids,∀ x,σ[t]?=some x→ZB β t x≠some b:=by
  intro b hB
  exact ⟨hbw b hB,fun t _ x hx e=>(R.own t x b hx e).1 hB⟩
 have hown:∀ j b,h[j]?=some b→ZB (Zet σ ids site (h.length - ids.length) β βc) (ZaK ids site j) (ZJ (ZaB σ ids site) (Zcl σ ids j b) b)=ZB βc j b:=fun j b hj =>
  ZtI (hβg j b hj) (hvar j b hj) (Rc.blk j b hj)
 have oth:∀ t x b,t ∉ ids→σ[t]?=some x→ZB β t x=some b→b < w.heap.size∧∀ t ∈ ids,∀ x,σ[t]?=some x→ZB β t x≠some b:=by
  intro t x b hn hx hbb
  refine ⟨(R.blk t x hx).owns_lt hbb,fun t' ht' x' hx' e=>hn ?_⟩
  rw [R.apart t x t' x' b hx hx' hbb e];exact ht'
 refine ⟨_,hle,⟨R.below.trans (Rc.below.mono hKK),fun b o hB=>(Rc.old b o (hKK b hB)).trans (R.old b o hB),Rc.imm,?_,?_,?_,?_,?_,?_,Rc.glob⟩,hρ⟩
 ·intro t x' hx
  rcases look t x' hx with ⟨j,b,hj,rfl,rfl⟩ | ⟨hn,hx⟩
  ·exact Zsz hρ (hβg j b hj) (hvar j b hj) (Rc.blk j b hj)
  ·refine (R.blk t x' hx).keep hI hle fun b hbb=>Rc.below.block b (oth t x' b (out t hn).1 hx hbb)
 ·intro t x' b hx hbb
  rcases look t x' hx with ⟨j,b',hj,rfl,rfl⟩ | ⟨hn,hx⟩
  ·rw [hown j b' hj] at hbb
   have:=Rc.own j b' b hj hbb
   exact ⟨fun hB=>this.1 (hKK b hB),this.2⟩
  ·rw [(R.blk t x' hx).owns_eq hle] at hbb
   refine ⟨(R.own t x' b hx hbb).1,fun o=>?_⟩
   rw [Rc.old b o (oth t x' b (out t hn).1 hx hbb)]
   exact (R.own t x' b hx hbb).2 o
 ·intro t x t' x' b hx hx' hbb hbb'
  rcases look t x hx with ⟨j,c,hj,rfl,rfl⟩ | ⟨hn,hx⟩ <;> rcases look t' x' hx' with ⟨j',c',hj',rfl,rfl⟩ | ⟨hn',hx'⟩
  ·rw [hown j c hj] at hbb;rw [hown j' c' hj'] at hbb'
   rw [Rc.apart j c j' c' b hj hj' hbb hbb']
  ·rw [hown j c hj] at hbb;rw [(R.blk t' x' hx').owns_eq hle] at hbb'
   exact absurd (oth t' x' b (out t' hn').1 hx' hbb') (Rc.own j c b hj hbb).1
  ·rw [hown j' c' hj'] at hbb';rw [(R.blk t x hx).owns_eq hle] at hbb
   exact absurd (oth t x b (out t hn).1 hx hbb) (Rc.own j' c' b hj' hbb').1
  ·rw [(R.blk t x hx).owns_eq hle] at hbb;rw [(R.blk t' x' hx').owns_eq hle] at hbb'
   exact R.apart t x t' x' b hx hx' hbb hbb'
 ·intro t g ht
  rw [Zq3] at ht
  have hn:∀ j,j < h.length→ZaK ids site j≠t:=fun j hj e=>by have:=tlt j hj;omega
  rw [(out t hn).2];exact R.fresh t g ht
 ·intro t g hx
  rcases look t _ hx with ⟨j,b,hj,rfl,e⟩ | ⟨hn,hx⟩
  ·have:=(ZhH h3 hj).1
   cases b <;> first | (simp [okB] at this;done) | (simp only [ZJ] at e;cases e;done)
  ·rw [(out t hn).2];exact R.free t g hx
 ·intro t x' g hx hg
  rcases look t _ hx with ⟨j,b,hj,rfl,rfl⟩ | ⟨hn,hx⟩
  ·obtain ⟨k1,k2⟩:=ZhH h3 hj
   rw [Nat.zero_add] at k2
   rw [Zt2 (hvar j b hj) k1] at hg
   have hjlt:=(List.getElem?_eq_some_iff.1 hj).1
   rcases split_j j hjlt with ⟨t,a1,a2,a3⟩ | ⟨a1,a2,a3,a4⟩
   ·rw [a3,atIds j t a1]
    simp only [Zcl,a1] at hg
    rw [if_neg (by omega)]
    split
    ·rename_i e
     exact Rc.gen j b 1 hj (by omega)
    ·rfl
   ·rw [a4,atNew _ (by omega)]
    rw [if_neg (by omega)]
  ·rw [(out t hn).2];exact R.gen t x' g hx hg
end
theorem Rel.after_flat {Ic I1:Imm} {βc:Bmap} {σc:Za} {K':Nat→Prop} (R:Rel base w0 I0 I β σ w) (hb:KLt base w0) (hK:∀ b,b < w.heap.size→K' b) (Rc:Rel K' w I1 Ic βc σc w'):Rel base w0 I0 I β σ w':=by
 have hbw:=R.base_le hb
 refine R.stay (Imm.le.refl I) (Rc.below.mono fun b h=>hK b (hbw b h)) (fun _ _ _=>rfl) (fun b o u h=>?_) (fun t x b h hb'=>⟨Rc.below.block b (hK b ((R.blk t x h).owns_lt hb')),(R.own t x b h hb').2⟩)
 have:=R.imm b o u h
 have hlt:=ZdP this
 rw [←this]
 simp only [World.cell?,Rc.below.block b (hK b hlt)]
theorem ZHX {I I':Imm} {β β':Bmap} {r:AVal} {u:Value} (hf:ZbE r=true) (h:VR I β (ZaS r) u):VR I' β' (ZaS r) u:=by
 by_cases hp:∃ x,r=.pan x
 ·obtain ⟨x,rfl⟩:=hp
  simp only [ZaS] at h ⊢
  cases x <;> simp only [ZbE,Zbu,ZaV] at hf <;> first | (cases hf;done) | skip
  case iface t x =>
   simp only [VR] at h ⊢
   obtain ⟨u',h1,h2⟩:=h
   exact ⟨u',h1,Zld hf h2⟩
 ·have hn:∀ x,r≠.pan x:=fun x e=>hp ⟨x,e⟩
  rw [ZfH hn] at h ⊢
  exact ZIo hf h
theorem Ztd {I I':Imm} {β β':Bmap} (hI:∀ b o n,I b o=some (.int .u8 n)→I' b o=some (.int .u8 n)):∀ {xs:List AVal} {b off:Nat},xs.all Zj0=true→∀ {k:Nat},LR I β k xs b off→LR I' β' k xs b off
 | [],_,_,_,_,_=>by simp only [LR]
 | x::xs,b,off,hx,k,h=>by
  simp only [List.all_cons,Bool.and_eq_true] at hx
  have ih:=fun (h:LR I β k xs b (off+k))=>Ztd (β':=β') hI hx.2 h
  have hx1:=hx.1
  unfold Zj0 at hx1
  split at hx1
  ·simp only [LR,VR] at h ⊢
   obtain ⟨⟨h0,u,h1,h2⟩,h3⟩:=h
   subst h2
   exact ⟨⟨h0,_,hI _ _ _ h1,rfl⟩,ih h3⟩
  ·cases hx1
theorem ZuZ {I I':Imm} {β β':Bmap} (hI:∀ b o n,I b o=some (.int .u8 n)→I' b o=some (.int .u8 n)) {x:AVal} {v:Value} (hf:Zhc x=true) (h:VR I β x v):VR I' β' x v:=by
 unfold Zhc at hf
 split at hf
 ·simp only [VR] at h ⊢
  obtain ⟨A,cap,h1,h2,h3,h4,h5,h6⟩:=h
  refine ⟨A,cap,h1,h2,h3,h4,?_,h6⟩
  rcases h5 with h5 | ⟨b,off,k,e,hk,h5⟩
  ·exact Or.inl h5
  ·exact Or.inr ⟨b,off,k,e,hk,Ztd hI hf h5⟩
 ·exact Zld hf h
theorem Ztl {I I':Imm} {β β':Bmap} (hI:∀ b o n,I b o=some (.int .u8 n)→I' b o=some (.int .u8 n)) {x:AVal} {v:Value} (hf:Zhr x=true) (h:VR I β x v):VR I' β' x v:=by
 unfold Zhr at hf
 split at hf
 ·rename_i cs
  simp only [VR] at h ⊢
  obtain ⟨us,rfl,h⟩:=h
  exact ⟨us,rfl,Zd4 (ZaW h) (fun i x v hx hv=>by
   obtain ⟨v',h1,h2⟩:=Zcq h hx
   rw [hv] at h1;injection h1 with h1;subst h1
   exact ZuZ hI (List.all_eq_true.1 hf x (List.mem_of_getElem? hx)) h2)⟩
 ·exact ZuZ hI hf h
theorem Zz7 {I I':Imm} {β β':Bmap} (hI:∀ b o n,I b o=some (.int .u8 n)→I' b o=some (.int .u8 n)) {x:AVal} {v:Value} (hf:Zh0 x=true) (h:VR I β x v):VR I' β' x v:=by
 unfold Zh0 at hf
 split at hf
 ·rename_i cs
  simp only [VR] at h ⊢
  obtain ⟨us,rfl,h⟩:=h
  exact ⟨us,rfl,Zd4 (ZaW h) (fun i x v hx hv=>by
   obtain ⟨v',h1,h2⟩:=Zcq h hx
   rw [hv] at h1;injection h1 with h1;subst h1
   exact Ztl hI (List.all_eq_true.1 hf x (List.mem_of_getElem? hx)) h2)⟩
 ·exact Ztl hI hf h
theorem Rel.after_bytes {I1 Ic:Imm} {βc:Bmap} {σc:Za} {K':Nat→Prop} {r:AVal} {u:Value} (R:Rel base w0 I0 I β σ w) (hb:KLt base w0) (hK:∀ b,b < w.heap.size→K' b) (Rc:Rel K' w I1 Ic βc σc w') (h1:I.le I1) (h2:I1.le Ic)
  (hn:∀ b o n,I1 b o=some (.int .u8 n)→I b o=some (.int .u8 n)) (hf:Zh0 r=true) (hv:VR Ic βc (ZaS r) u):Post base w0 I0 I β (ZaS r) σ u w':=by
 have hbw:=R.base_le hb
 let J:Imm:=fun b o=>if b < w.heap.size then I b o else Ic b o
 have hle:I.le J:=by
  intro b o u hu
  have hlt:=ZdP (R.imm b o u hu)
  simp only [J,hlt,if_true];exact hu
 have hJ:∀ b o n,Ic b o=some (.int .u8 n)→J b o=some (.int .u8 n):=by
  intro b o n hu
  by_cases hlt:b < w.heap.size
  ·simp only [J,hlt,if_true]
   rw [Rc.old b o (hK b hlt)] at hu
   exact hn b o n hu
  ·simp only [J,hlt,if_false];exact hu
 have hval:ZaS r=r:=ZfH (fun x e=>by subst e;simp [Zh0,Zhr,Zhc,ZaV] at hf)
 rw [hval] at hv ⊢
 refine Post.mk hle (Bmap.le.refl β) (R.stay hle (Rc.below.mono fun b h=>hK b (hbw b h)) ?_ ?_ ?_) (Zz7 hJ hf hv)
 ·intro b o hb'
  simp only [J,hbw b hb',if_true]
 ·intro b o u hu
  by_cases hlt:b < w.heap.size
  ·simp only [J,hlt,if_true] at hu
   rw [←R.imm b o u hu]
   simp only [World.cell?,Rc.below.block b (hK b hlt)]
  ·simp only [J,hlt,if_false] at hu
   exact Rc.imm b o u hu
 ·intro t x b hx hb'
  have hlt:=(R.blk t x hx).owns_lt hb'
  refine ⟨Rc.below.block b (hK b hlt),fun o=>?_⟩
  simp only [J,hlt,if_true]
  exact (R.own t x b hx hb').2 o
theorem ZFN {xs:List AVal} (h:xs.all Zbu=true):(xs.flatMap AVal.cells).all ZaV=true:=by
 rw [List.all_eq_true] at h ⊢
 intro x hx
 obtain ⟨y,hy,hxy⟩:=List.mem_flatMap.1 hx
 have:=h y hy
 cases y
 case agg cs=>exact List.all_eq_true.1 this x hxy
 all_goals (simp only [AVal.cells,List.mem_singleton] at hxy;subst hxy;exact this)
theorem Rel.clone {Ic I1:Imm} {βc:Bmap} {K':Nat→Prop} {site k lo n:Nat} {xs:List AVal} {u:Value} (R:Rel base w0 I0 I β σ w) (hb:KLt base w0) (hK:∀ b,b < w.heap.size→K' b) (Rc:Rel K' w I1 Ic βc [.row 0 k xs] w') (hs:σ[site]?=some .free) (hf:xs.all Zbu=true)
  (hv:VR Ic βc (.sl 0 0 lo n) u):Post base w0 I0 I β (.sl site 0 lo n) (σ.set site (.row 0 k xs)) u w':=by
 have R':=R.after_flat hb hK Rc
 obtain ⟨bi,h1,h2,h3,h4,h5,h6,h7,h8⟩:=Rc.blk 0 _ rfl
 have hle:β.le (β.put site 0 bi):=Bmap.put_le (R.free site 0 hs)
 have hbw:=R.base_le hb
 have hsl:site < σ.length:=(List.getElem?_eq_some_iff.1 hs).1
 have hnew:∀ b,bi.b=some b→¬b < w.heap.size:=by
  intro b e hlt
  exact (Rc.own 0 (.row 0 k xs) b rfl (by simp [ZB,h1,e])).1 (hK b hlt)
 have hown:∀ b,ZB (β.put site 0 bi) site (.row 0 k xs)=some b→bi.b=some b:=by
  intro b e
  simpa [ZB,Bmap.put_same] using e
 refine Post.mk (Imm.le.refl I) hle (R'.upd (Imm.le.refl I) hle (KB.refl base w') (fun _ _ _=>rfl) R'.imm site _ rfl hsl (fun t g h=>Bmap.put_ne h) ?_ ?_ ?_ ?_ (by simp)) ?_
 ·intro t x b hne h hb'
  refine ⟨rfl,(R.own t x b h hb').2,fun e=>?_⟩
  exact hnew b (hown b e) ((R.blk t x h).owns_lt hb')
 ·refine ⟨bi,Bmap.put_same β site 0 _,h2,h3,h4,h5,h6,h7,?_⟩
  rcases h8 with h8 | ⟨b,us,ty,g1,g2,g3,g4⟩
  ·exact Or.inl h8
  ·exact Or.inr ⟨b,us,ty,g1,g2,g3,ZrT (ZFN hf) g4⟩
 ·intro b e
  have hnb:=hnew b (hown b e)
  refine ⟨fun hB=>hnb (hbw b hB),fun o=>?_⟩
  cases hI:I b o with
  | none=>rfl
  | some v=>exact absurd (ZdP (R.imm b o v hI)) hnb
 ·intro g hg
  simp only [Zp] at hg
  rw [Bmap.put_gen (by omega)]
  exact R.free site g hs
 ·simp only [VR] at hv ⊢
  obtain ⟨bi',e,hv⟩:=hv
  rw [h1] at e
  injection e with e;subst e
  exact ⟨bi,Bmap.put_same β site 0 _,hv⟩
theorem Zl4 {O:ZR} (hO:ZaN P O) {byref:Nat→Bool} (R:Rel base w0 I0 I β σ w) (hb:KLt base w0) {site f own:Nat} {view:Bool} {args:List AVal} {vs:Array Value} (hargs:VRs I β args vs.toList) {r:AVal} {c:Cls} (hsite:own=1→σ[site]?=some .free) (h:Zj O byref σ site f own view args=some (r,σ',c)) :
  (∃ fn,P.funcs[f]?=some fn∧fn.body.isSome=true∧(fn.name == "runtime.NumGoroutine")=false)∧Calls P f vs w (fun e w'=>∃ u,Ends r e u∧Post base w0 I0 I β (ZaS r) σ' u w'):=by
 unfold Zj at h
 split at h
 ·cases h
 rename_i xs ts hshow
 obtain ⟨I1,hI1,R1,hal,_,hfz,_,_,hnby⟩:=Zhy ts R
 have hxs:VRs I1 β xs vs.toList:=by
  unfold ZbU at hshow
  split at hshow
  ·simp only [Option.some.injEq,Prod.mk.injEq] at hshow
   obtain ⟨rfl,rfl⟩:=hshow
   exact hargs.mono hI1 (Bmap.le.refl β) _ _
  ·exact ZuO R1 (hfz (Zj2 hshow)) (by rw [hal.showAs];exact hshow) (hargs.mono hI1 (Bmap.le.refl β) _ _)
 generalize hσf:Zn σ ts=σf at *
 obtain ⟨hnd,_⟩:=Zih (σ:=σf) 1000 (Zr xs) [] List.nodup_nil
 generalize ZA σf 1000 (Zr xs) []=ids at *
 unfold ZbC at h
 split at h
 case isFalse=>cases h
 rename_i hok
 have R2:=R1.pick (K':=fun b=>b < w.heap.size∧∀ t ∈ ids,∀ x,σf[t]?=some x→ZB β t x≠some b) (w1:=w) (I1:=I1) (m:=0) hnd (KB.refl _ w) (fun _ _ _=>rfl) (fun t x b ht hx hb' hk=>hk.2 t ht x hx hb')
 generalize hq:Zae view ids.length (O f (Ze (Zl σf 0 ids) xs) (Zx σf 0 ids (Zl σf 0 ids) ids 0))=q at h
 cases q with
 | none=>simp only [ZaG] at h;cases h
 | some q =>
  obtain ⟨r1,h1⟩:=q
  obtain ⟨r0,h0,hcall⟩:∃ r0 h0,O f (Ze (Zl σf 0 ids) xs) (Zx σf 0 ids (Zl σf 0 ids) ids 0)=some (r0,h0):=by
   cases ho:O f (Ze (Zl σf 0 ids) xs) (Zx σf 0 ids (Zl σf 0 ids) ids 0) with
   | none=>rw [ho] at hq;cases view <;> simp [Zae,ZbI] at hq
   | some q=>exact ⟨q.1,q.2,rfl⟩
  rw [hcall] at hq
  obtain ⟨hfn,hrun⟩:=hO f _ _ r0 h0 hcall
  refine ⟨hfn,(hrun _ w I1 I1 _ w vs (fun b hb=>hb.1) R2 (ZfJ ZmQ _ _ hxs)).mono ?_⟩
  rintro e w' ⟨u,he,hp⟩
  rw [ZmK] at hp
  have hp1:Zb5 ids.length (fun b=>b < w.heap.size∧∀ t ∈ ids,∀ x,σf[t]?=some x→ZB β t x≠some b) w I1 I1 (Zck σf 0 ids β) r1 h1 u w'∧Ends r1 e u:=by
   cases view with
   | false =>
    simp only [Zae,Bool.false_eq_true,if_false,Option.some.injEq,Prod.mk.injEq] at hq
    obtain ⟨rfl,rfl⟩:=hq
    exact ⟨hp,he⟩
   | true =>
    simp only [Zae,if_true] at hq
    obtain ⟨q1,q2⟩:=ZC1 hp hq
    exact ⟨q1,q2 e he⟩
  obtain ⟨⟨I2,β2,hI2,hkept,Rc,hv⟩,he1⟩:=hp1
  simp only [ZaG] at h
  split at h
  ·rename_i hc
   simp only [Bool.and_eq_true,List.isEmpty_iff] at hc
   obtain ⟨rfl,rfl⟩:=hc
   split at h
   ·rename_i hflat
    simp only [Option.some.injEq,Prod.mk.injEq] at h
    obtain ⟨rfl,rfl,rfl⟩:=h
    exact ⟨u,he1,Post.here (R.after_flat hb (fun b hlt=>⟨hlt,by simp⟩) Rc) (ZHX hflat hv)⟩
   split at h
   ·rename_i hap
    unfold Zdf at hap
    simp only [Bool.and_eq_true] at hap
    simp only [Option.some.injEq,Prod.mk.injEq] at h
    obtain ⟨rfl,rfl,rfl⟩:=h
    exact ⟨u,he1,R.after_bytes hb (fun b hlt=>⟨hlt,by simp⟩) Rc hI1 hI2 (hnby hap.2) hap.1.2 hv⟩
   ·simp only [Option.some.injEq,Prod.mk.injEq] at h
    obtain ⟨rfl,rfl,rfl⟩:=h
    obtain ⟨β3,g1,g2,g3⟩:=R1.back (site:=site) (n:=0) hb hnd hok Rc hI2 hkept (by simp) (by simp) rfl rfl
    have hρ:ZaB σf [] site=ZaB [] [] site:=rfl
    refine ⟨u,he1.ren,Post.mk (hI1.trans hI2) g1 g2 ?_⟩
    rw [hρ] at g3
    have:=ZhO g3 _ _ hv
    rcases Znc (ρ:=ZaB [] [] site) r1 with e | ⟨x,rfl⟩
    ·rw [e];exact this
    ·exact this
  ·split at h
   ·rename_i lo n k xs' hcl
    split at hcl
    case isFalse=>cases hcl
    rename_i hid
    simp only [List.isEmpty_iff] at hid
    subst hid
    unfold ZlB at hcl
    split at hcl
    case h_2=>cases hcl
    split at hcl
    case isFalse=>cases hcl
    rename_i hcc
    simp only [Bool.and_eq_true,decide_eq_true_eq] at hcc
    simp only [Option.some.injEq,Prod.mk.injEq] at hcl h
    obtain ⟨rfl,rfl,rfl,rfl⟩:=hcl
    obtain ⟨rfl,rfl,rfl⟩:=h
    exact ⟨u,he1,R.clone hb (fun b hlt=>⟨hlt,by simp⟩) Rc (hsite hcc.1) hcc.2 hv⟩
   split at h
   case isFalse=>cases h
   rename_i hc
   simp only [Bool.and_eq_true,decide_eq_true_eq] at hc
   obtain ⟨⟨⟨c1,c2⟩,c3⟩,c4⟩:=hc
   simp only [Option.some.injEq,Prod.mk.injEq] at h
   obtain ⟨rfl,rfl,rfl⟩:=h
   obtain ⟨β3,g1,g2,g3⟩:=R1.back hb hnd hok Rc hI2 hkept c1 c2 c3 c4
   refine ⟨u,he1.ren,Post.mk (hI1.trans hI2) g1 g2 ?_⟩
   have:=ZhO g3 _ _ hv
   rcases Znc (ρ:=ZaB σf ids site) r1 with e | ⟨x,rfl⟩
   ·rw [e];exact this
   ·exact this
end
end Go.Proofs.YtmlkhhidifjjfaaDoor
namespace Go.Proofs.YtmlkhhidifjjfaaDoor
open Go.RowKit
section
variable {P:Program} {w:World} {I:Imm} {β:Bmap}
theorem Zq8 {t:TypeId} (hb:ZnE P t=true) {xs:Array Value} {o:Nat} {v:Value} (h:xs[o]?=some v):(part t xs o).run P w=.ok v w:=by
 unfold ZnE at hb
 have key:∀ d,P.underlying t=some d→d.isRow=false→(part t xs o).run P w=.ok v w:=by
  intro d hu hd
  have hagg:(isAgg t).run P w=.ok false w:=by
   unfold isAgg
   rw [Sem.run_bind,run_underlying hu w]
   cases d <;> simp_all [TypeDesc.isRow]
  simp [part,hagg,h]
 split at hb
 ·rename_i hu;exact key _ hu rfl
 ·rename_i hu;exact key _ hu rfl
 ·rename_i hu;exact key _ hu rfl
 ·cases hb
theorem ZHy (w:World) {t:TypeId} (d:Nat) {x y:AVal} {u v:Value} {b:Bool} (hx:VR I β x u) (hy:VR I β y v) (h:Zl5 x y=some b) (hk:Ze2 P t x=true):(Op.equalIn (d+1) t u v).run P w=.ok b w:=by
 unfold Zl5 at h
 split at h
 ·rename_i k a k' b'
  split at h
  ·rename_i e;subst e
   injection h with h;subst h
   simp only [VR] at hx hy
   subst hx hy
   cases hd:P.underlying t with
   | none=>simp [Ze2,hd] at hk
   | some dd =>
    cases dd <;> simp [Ze2,hd] at hk
    exact run_equalIn_int w d t _ _ a b' hd
  ·cases h
 ·rename_i a b'
  injection h with h;subst h
  simp only [VR] at hx hy
  subst hx hy
  cases hd:P.underlying t with
  | none=>simp [Ze2,hd] at hk
  | some dd =>
   cases dd <;> simp [Ze2,hd] at hk
   exact run_equalIn_bool' w d t a b' hd
 ·rename_i a b'
  injection h with h;subst h
  simp only [VR] at hx hy
  obtain ⟨rfl,_⟩:=hx
  obtain ⟨rfl,_⟩:=hy
  cases hd:P.underlying t with
  | none=>simp [Ze2,hd] at hk
  | some dd =>
   cases dd <;> simp [Ze2,hd] at hk
   rw [run_equalIn_string w d t _ _ hd,ZqA,ZqA]
 ·cases h
theorem Zt1:∀ {fs:List Field} {xs:List AVal},ZfY (fs.map fun f=>(ZhY P f.type).getD 3) xs=true→Zfr P fs xs=true
 | [],[],_=>rfl
 | [],x::xs,h=>by simp [ZfY] at h
 | f::fs,[],h=>by simp [ZfY] at h
 | f::fs,x::xs,h=>by
  simp only [List.map_cons,ZfY,Bool.and_eq_true,beq_iff_eq] at h
  simp only [Zfr,Bool.and_eq_true]
  refine ⟨?_,Zt1 h.2⟩
  have h1:=h.1
  cases hd:P.underlying f.type with
  | none=>simp only [ZhY,hd,Option.getD_none] at h1;cases x <;> simp [ZbZ] at h1
  | some dd=>cases dd <;> simp only [ZhY,hd,Option.getD_none,Option.getD_some] at h1 <;> cases x <;> first | (simp [Ze2,hd];done) | (simp [ZbZ] at h1;done)
theorem Zrb (w:World) (d:Nat) {us vs:Array Value}:∀ {fs:List Field} {xs ys:List AVal} {o:Nat} {b:Bool},ZkC P o fs=true→Zfr P fs xs=true→VRs I β xs (us.toList.drop o)→VRs I β ys (vs.toList.drop o)→Zfg xs ys=some b→(Op.eqFields (d+1) us vs fs).run P w=.ok b w
 | [],xs,ys,o,b,hf,hk,hx,hy,h=>by
  cases xs with
  | nil =>
   cases ys with
   | nil=>simp only [Zfg,Option.some.injEq] at h;subst h;simp [Op.eqFields]
   | cons=>simp [Zfg] at h
  | cons=>simp [Zfr] at hk
 | f::fs,xs,ys,o,b,hf,hk,hx,hy,h=>by
  cases xs with
  | nil=>simp [Zfr] at hk
  | cons x xs =>
   cases ys with
   | nil=>simp [Zfg] at h
   | cons y ys =>
    simp only [ZkC,Bool.and_eq_true,beq_iff_eq,bne_iff_ne,ne_eq] at hf
    obtain ⟨⟨⟨h1,h2⟩,h3⟩,h4⟩:=hf
    simp only [Zfr,Bool.and_eq_true] at hk
    simp only [VRs] at hx hy
    obtain ⟨u,us',eu,hx1,hx2⟩:=hx
    obtain ⟨v,vs',ev,hy1,hy2⟩:=hy
    have gu:us[o]?=some u:=by
     have:=congrArg (fun l:List Value=>l[0]?) eu
     simpa using this
    have gv:vs[o]?=some v:=by
     have:=congrArg (fun l:List Value=>l[0]?) ev
     simpa using this
    have eu':us.toList.drop (o+1)=us':=by rw [←List.drop_drop,eu];rfl
    have ev':vs.toList.drop (o+1)=vs':=by rw [←List.drop_drop,ev];rfl
    simp only [Zfg] at h
    split at h
    ·rename_i b1 hb1
     split at h
     ·rename_i b2 hb2
      injection h with h;subst h
      have r1:=ZHy w d hx1 hy1 hb1 hk.1
      have r2:=Zrb w d (us:=us) (vs:=vs) h4 hk.2 (by rw [eu'];exact hx2) (by rw [ev'];exact hy2) hb2
      rw [←h1] at gu gv
      simp only [Op.eqFields,h2,ne_eq,not_false_eq_true,if_true,Sem.run_bind,Zq8 h3 gu,Zq8 h3 gv,r1,Result.andThen_ok]
      cases b1
      ·simp
      ·simpa using r2
     ·cases h
    ·cases h
theorem ZMx {t:TypeId} {fs:Array Field} (hu:P.underlying t=some (.struct fs)) (hf:Zp0 P t fs=true) {x y:List AVal} {us vs:Array Value} (hx:VRs I β x us.toList) (hy:VRs I β y vs.toList) (hk:Zfr P fs.toList x=true) {b:Bool} (h:Zfg x y=some b) (neg:Bool) {op:BinOp} (hop:op=(if neg then .neq else .eql)) (ox oy:Operand) :
  (do eqGuard op t ox oy (.agg us) (.agg vs);binOp op t (.agg us) (.agg vs):Sem Value).run P w=.ok (.bool (b != neg)) w:=by
 simp only [Zp0,Bool.and_eq_true,Bool.not_eq_true'] at hf
 obtain ⟨⟨hf1,hf2⟩,hf3⟩:=hf
 have hfo:P.fieldsOf t=fs:=by simp [Program.fieldsOf,hu]
 have h1:(eqGuard op t ox oy (.agg us) (.agg vs)).run P w=.ok () w:=by
  subst hop
  cases neg <;> simp [eqGuard,hf3]
 have h2:(Op.equal t (.agg us) (.agg vs)).run P w=.ok b w:=by
  show (Op.equalIn (9999+1) t (.agg us) (.agg vs)).run P w=_
  rw [run_equalIn_struct w 9999 t us vs (by rw [hfo];exact hu) hf2,hfo]
  exact Zrb w 9998 hf1 hk (by simpa using hx) (by simpa using hy) h
 subst hop
 cases neg
 ·simp only [Bool.false_eq_true,if_false] at h1 ⊢
  simp [h1,h2,binOp]
 ·simp only [if_true] at h1 ⊢
  simp [h1,h2,binOp]
end
end Go.Proofs.YtmlkhhidifjjfaaDoor
namespace Go.Proofs.YtmlkhhidifjjfaaDoor
open Go.RowKit
section
variable {P:Program} {base:Nat→Prop} {w0 w w':World} {I0 I I':Imm} {β β':Bmap} {σ σ':Za} {tm:Tms}
theorem ZfN {α:Type} {x:Option α} {f:α→AVal×Za×Cls} {y:AVal×Za×Cls} (h:x.map f=some y):∃ a,x=some a∧f a=y:=by simpa [Option.map_eq_some_iff] using h
theorem ZJe {t:TypeId} (hu:P.underlying t=some .bool) (p q:Bool) (x y:Operand):(do eqGuard .eql t x y (.bool p) (.bool q);binOp .eql t (.bool p) (.bool q):Sem Value).run P w=.ok (.bool ((p == q) != false)) w:=by
 have h1:(eqGuard .eql t x y (.bool p) (.bool q)).run P w=.ok () w:=by simp [eqGuard]
 simp only [Sem.run_bind,h1,Result.andThen_ok,run_eql_bool w t p q hu]
 cases p <;> cases q <;> rfl
theorem ZBU {t:TypeId} (hu:P.underlying t=some .bool) (p q:Bool) (x y:Operand):(do eqGuard .neq t x y (.bool p) (.bool q);binOp .neq t (.bool p) (.bool q):Sem Value).run P w=.ok (.bool ((p == q) != true)) w:=by
 have h1:(eqGuard .neq t x y (.bool p) (.bool q)).run P w=.ok () w:=by simp [eqGuard]
 have h2:(binOp .neq t (.bool p) (.bool q)).run P w=.ok (.bool (!(p == q))) w:=by
  simp only [binOp,Sem.run_bind,run_equal_bool w t p q hu,Result.andThen_ok,Sem.run_pure]
 simp only [Sem.run_bind,h1,Result.andThen_ok,h2]
 cases p <;> cases q <;> rfl
theorem Zqd {t e:TypeId} (hu:P.underlying t=some (.pointer e)) (p q:Option Addr) (hpq:p=none∨q=none):(Op.equal t (.pointer p) (.pointer q)).run P w=.ok (p.isNone && q.isNone) w:=by
 show (Op.equalIn (9999+1) t (.pointer p) (.pointer q)).run P w=_
 unfold Op.equalIn
 rw [Sem.run_bind,run_underlying hu]
 simp only [Result.andThen_ok]
 rcases hpq with rfl | rfl
 ·cases q <;> simp
 ·cases p <;> simp
theorem Zoa {t e:TypeId} (hu:P.underlying t=some (.pointer e)) (p q:Option Addr) (x y:Operand) (hpq:p=none∨q=none):(do eqGuard .eql t x y (.pointer p) (.pointer q);binOp .eql t (.pointer p) (.pointer q):Sem Value).run P w=.ok (.bool ((p.isNone && q.isNone) != false)) w:=by
 have h1:(eqGuard .eql t x y (.pointer p) (.pointer q)).run P w=.ok () w:=by simp [eqGuard]
 simp only [Sem.run_bind,h1,Result.andThen_ok,binOp,Zqd hu p q hpq,Sem.run_pure]
 simp
theorem ZlZ {t e:TypeId} (hu:P.underlying t=some (.pointer e)) (p q:Option Addr) (x y:Operand) (hpq:p=none∨q=none):(do eqGuard .neq t x y (.pointer p) (.pointer q);binOp .neq t (.pointer p) (.pointer q):Sem Value).run P w=.ok (.bool ((p.isNone && q.isNone) != true)) w:=by
 have h1:(eqGuard .neq t x y (.pointer p) (.pointer q)).run P w=.ok () w:=by simp [eqGuard]
 simp only [Sem.run_bind,h1,Result.andThen_ok,binOp,Zqd hu p q hpq,Sem.run_pure]
 simp
theorem ZuD {t:TypeId} {ms} (hu:P.underlying t=some (.interface ms)) (neg:Bool) {op:BinOp} (x:Operand) (vy:Value) (hop:op=(if neg then .neq else .eql)):(do eqGuard op t x (.const vy) .nilIface .nilIface;binOp op t .nilIface .nilIface:Sem Value).run P w=.ok (.bool (true != neg)) w:=by
 have h1:(eqGuard op t x (.const vy) .nilIface .nilIface).run P w=.ok () w:=by subst hop;cases neg <;> simp [eqGuard]
 have h2:(Op.equal t .nilIface .nilIface).run P w=.ok true w:=by
  show (Op.equalIn (9999+1) t .nilIface .nilIface).run P w=_
  unfold Op.equalIn
  rw [Sem.run_bind,run_underlying hu]
  simp only [Result.andThen_ok]
  rfl
 subst hop
 cases neg
 ·simp only [Bool.false_eq_true,if_false] at h1 ⊢
  simp [h1,h2,binOp]
 ·simp only [if_true] at h1 ⊢
  simp [h1,h2,binOp]
theorem Zqz {t t1:TypeId} {u:Value} {ms} (hu:P.underlying t=some (.interface ms)) (neg:Bool) {op:BinOp} (x:Operand) (vy:Value) (hop:op=(if neg then .neq else .eql)):(do eqGuard op t x (.const vy) (.iface t1 u) .nilIface;binOp op t (.iface t1 u) .nilIface:Sem Value).run P w=.ok (.bool (false != neg)) w:=by
 have h1:(eqGuard op t x (.const vy) (.iface t1 u) .nilIface).run P w=.ok () w:=by subst hop;cases neg <;> simp [eqGuard]
 have h2:(Op.equal t (.iface t1 u) .nilIface).run P w=.ok false w:=by
  show (Op.equalIn (9999+1) t (.iface t1 u) .nilIface).run P w=_
  unfold Op.equalIn
  rw [Sem.run_bind,run_underlying hu]
  simp only [Result.andThen_ok]
  rfl
 subst hop
 cases neg
 ·simp only [Bool.false_eq_true,if_false] at h1 ⊢
  simp [h1,h2,binOp]
 ·simp only [if_true] at h1 ⊢
  simp [h1,h2,binOp]
def OpR (P:Program) (s:Sem Next) (w:World) (base:Nat→Prop) (w0:World) (I0 I:Imm) (β:Bmap) (v:AVal) (σ':Za):Prop :=
 OpOk P s w (Post base w0 I0 I β v σ')∨∃ x,v=.pan x∧OpPan P s w (Post base w0 I0 I β x σ')
theorem OpR.of_call {s:Sem Next} {f:FuncId} {args:Array Value} {v:AVal} (h:s.run P w=.ok (.enter f args) w) (hc:Calls P f args w (fun e w'=>∃ u,Ends v e u∧Post base w0 I0 I β (ZaS v) σ' u w')):OpR P s w base w0 I0 I β v σ':=by
 by_cases hp:∃ x,v=.pan x
 ·obtain ⟨x,rfl⟩:=hp
  exact Or.inr ⟨x,rfl,Or.inr ⟨f,args,w,h,hc.mono fun e w' ⟨u,h1,h2⟩=>⟨u,h1,h2⟩⟩⟩
 ·have hn:∀ x,v≠.pan x:=fun x e=>hp ⟨x,e⟩
  refine Or.inl (Or.inr (Or.inr ⟨f,args,w,h,hc.mono fun e w' ⟨u,h1,h2⟩=>⟨u,?_,by rw [ZfH hn] at h2;exact h2⟩⟩))
  cases v <;> first | exact h1 | exact absurd rfl (hn _)
set_option maxHeartbeats 1000000 in
theorem Zzp {O:ZR} (hO:ZaN P O) {byref:Nat→Bool} {an:Ann} {a:Act} {o:Oper} {own:Nat} {ins:Ins} (x:Operand) (ho:o.op=.move x) (hc:Zaa P an own (.move x)=some ins) (T:TR I β tm a.tmps) (R:Rel base w0 I0 I β σ w) (hb:KLt base w0)
  {site:Nat} (hsite:nsite ins≠0→σ[site]?=some .free) {v:AVal} {c:Cls} (h:execI O byref tm σ site ins=some (v,σ',c)):OpOk P (execOp a.eval o) w (Post base w0 I0 I β v σ'):=by
 rw [show execOp a.eval o=(pure (.value (a.eval x)):Sem Next) by unfold execOp;rw [ho]]
 simp only [Zaa] at hc
 simp only [Option.map_eq_some_iff] at hc
 obtain ⟨y,hy,rfl⟩:=hc
 simp only [execI,Option.some.injEq,Prod.mk.injEq] at h
 obtain ⟨rfl,rfl,rfl⟩:=h
 exact Or.inl ⟨_,w,rfl,Post.here R (ZaE T hy)⟩
set_option maxHeartbeats 1000000 in
theorem ZFZ {O:ZR} (hO:ZaN P O) {byref:Nat→Bool} {an:Ann} {a:Act} {o:Oper} {own:Nat} {ins:Ins} (x:Operand) (ho:o.op=.assign x) (hc:Zaa P an own (.assign x)=some ins) (T:TR I β tm a.tmps) (R:Rel base w0 I0 I β σ w) (hb:KLt base w0)
  {site:Nat} (hsite:nsite ins≠0→σ[site]?=some .free) {v:AVal} {c:Cls} (h:execI O byref tm σ site ins=some (v,σ',c)):OpOk P (execOp a.eval o) w (Post base w0 I0 I β v σ'):=by
 rw [show execOp a.eval o=(pure (.value (a.eval x)):Sem Next) by unfold execOp;rw [ho]]
 simp only [Zaa] at hc
 simp only [Option.map_eq_some_iff] at hc
 obtain ⟨y,hy,rfl⟩:=hc
 simp only [execI,Option.some.injEq,Prod.mk.injEq] at h
 obtain ⟨rfl,rfl,rfl⟩:=h
 exact Or.inl ⟨_,w,rfl,Post.here R (ZaE T hy)⟩
set_option maxHeartbeats 1000000 in
theorem ZGR {O:ZR} (hO:ZaN P O) {byref:Nat→Bool} {an:Ann} {a:Act} {o:Oper} {own:Nat} {ins:Ins} (x:Operand) (y:Operand) (z:Operand) (ho:o.op=.pick x y z) (hc:Zaa P an own (.pick x y z)=some ins) (T:TR I β tm a.tmps) (R:Rel base w0 I0 I β σ w) (hb:KLt base w0)
  {site:Nat} (hsite:nsite ins≠0→σ[site]?=some .free) {v:AVal} {c:Cls} (h:execI O byref tm σ site ins=some (v,σ',c)):OpOk P (execOp a.eval o) w (Post base w0 I0 I β v σ'):=by
 rw [show execOp a.eval o=(do pure (.value (if ←asBool (a.eval x) then a.eval y else a.eval z)):Sem Next) by unfold execOp;rw [ho]]
 simp only [Zaa] at hc
 split at hc
 ·rename_i c' a' b' hx hy hz
  injection hc with hc;subst hc
  have hx':=ZaE T hx
  simp only [execI] at h
  unfold ZfF at h
  split at h
  ·rename_i e
   rw [e] at hx';simp only [VR] at hx'
   simp only [Option.some.injEq,Prod.mk.injEq] at h
   obtain ⟨rfl,rfl,rfl⟩:=h
   exact Or.inl ⟨_,w,by simp [hx',asBool],Post.here R (ZaE T hy)⟩
  ·rename_i e
   rw [e] at hx';simp only [VR] at hx'
   simp only [Option.some.injEq,Prod.mk.injEq] at h
   obtain ⟨rfl,rfl,rfl⟩:=h
   exact Or.inl ⟨_,w,by simp [hx',asBool],Post.here R (ZaE T hz)⟩
  ·cases h
 ·cases hc
set_option maxHeartbeats 1000000 in
theorem ZDa {O:ZR} (hO:ZaN P O) {byref:Nat→Bool} {an:Ann} {a:Act} {o:Oper} {own:Nat} {ins:Ins} (e:TypeId) (ho:o.op=.alloc e) (hc:Zaa P an own (.alloc e)=some ins) (T:TR I β tm a.tmps) (R:Rel base w0 I0 I β σ w) (hb:KLt base w0)
  {site:Nat} (hsite:nsite ins≠0→σ[site]?=some .free) {v:AVal} {c:Cls} (h:execI O byref tm σ site ins=some (v,σ',c)):OpOk P (execOp a.eval o) w (Post base w0 I0 I β v σ'):=by
 rw [show execOp a.eval o=(do pure (.value (←Instr.alloc e true (.tuple #[]))):Sem Next) by unfold execOp;rw [ho]]
 simp only [Zaa] at hc
 simp only [Option.map_eq_some_iff] at hc
 obtain ⟨z,hz,rfl⟩:=hc
 simp only [execI,Option.some.injEq,Prod.mk.injEq] at h
 obtain ⟨rfl,rfl,rfl⟩:=h
 exact OpOk.val (ZFz R hb hz (hsite (by simp [nsite])))
set_option maxHeartbeats 1000000 in
theorem ZC9 {O:ZR} (hO:ZaN P O) {byref:Nat→Bool} {an:Ann} {a:Act} {o:Oper} {own:Nat} {ins:Ins} (e:TypeId) (x:Operand) (ho:o.op=.box e x) (hc:Zaa P an own (.box e x)=some ins) (T:TR I β tm a.tmps) (R:Rel base w0 I0 I β σ w) (hb:KLt base w0)
  {site:Nat} (hsite:nsite ins≠0→σ[site]?=some .free) {v:AVal} {c:Cls} (h:execI O byref tm σ site ins=some (v,σ',c)):OpOk P (execOp a.eval o) w (Post base w0 I0 I β v σ'):=by
 rw [show execOp a.eval o=(do pure (.value (←Instr.box e (a.eval x))):Sem Next) by unfold execOp;rw [ho]]
 simp only [Zaa] at hc
 simp only [Option.map_eq_some_iff] at hc
 obtain ⟨y,hy,rfl⟩:=hc
 simp only [execI] at h
 split at h
 ·cases h
 ·cases h
 ·cases h
 ·rename_i _ hnt _
  simp only [Option.some.injEq,Prod.mk.injEq] at h
  obtain ⟨rfl,rfl,rfl⟩:=h
  exact OpOk.val (ZA4 R hb hnt (ZaE T hy) (hsite (by simp [nsite])))
set_option maxHeartbeats 1000000 in
theorem Zyf {O:ZR} (hO:ZaN P O) {byref:Nat→Bool} {an:Ann} {a:Act} {o:Oper} {own:Nat} {ins:Ins} (t:TypeId) (parts:Array (Nat×Operand)) (ho:o.op=.build t parts) (hc:Zaa P an own (.build t parts)=some ins) (T:TR I β tm a.tmps) (R:Rel base w0 I0 I β σ w) (hb:KLt base w0)
  {site:Nat} (hsite:nsite ins≠0→σ[site]?=some .free) {v:AVal} {c:Cls} (h:execI O byref tm σ site ins=some (v,σ',c)):OpOk P (execOp a.eval o) w (Post base w0 I0 I β v σ'):=by
 rw [show execOp a.eval o=(do pure (.value (←Instr.build t (parts.map fun (i,x)=>(i,a.eval x)))):Sem Next) by unfold execOp;rw [ho]]
 simp only [Zaa] at hc
 have hc0:Zaa P an own (.build t parts)=some ins:=by simp only [Zaa];exact hc
 obtain ⟨zs,ps,rfl⟩:∃ zs ps,ins=.build zs ps:=by
  split at hc
  ·split at hc
   ·simp only [Option.map_eq_some_iff] at hc;obtain ⟨ps,_,rfl⟩:=hc;exact ⟨_,_,rfl⟩
   ·cases hc
  ·split at hc
   ·simp only [Option.map_eq_some_iff] at hc;obtain ⟨ps,_,rfl⟩:=hc;exact ⟨_,_,rfl⟩
   ·cases hc
  ·cases hc
 simp only [execI] at h
 split at h
 ·rename_i cs hf
  simp only [Option.some.injEq,Prod.mk.injEq] at h
  obtain ⟨rfl,rfl,rfl⟩:=h
  obtain ⟨u,h1,h2⟩:=Zz9 (w:=w) T hc0 hf
  exact OpOk.val ⟨u,w,h1,Post.here R h2⟩
 ·cases h
set_option maxHeartbeats 1000000 in
theorem Zz5 {O:ZR} (hO:ZaN P O) {byref:Nat→Bool} {an:Ann} {a:Act} {o:Oper} {own:Nat} {ins:Ins} (t:TypeId) (n:Nat) (parts:Array (Nat×Operand)) (ho:o.op=.buildSlice t n parts) (hc:Zaa P an own (.buildSlice t n parts)=some ins) (T:TR I β tm a.tmps) (R:Rel base w0 I0 I β σ w) (hb:KLt base w0)
  {site:Nat} (hsite:nsite ins≠0→σ[site]?=some .free) {v:AVal} {c:Cls} (h:execI O byref tm σ site ins=some (v,σ',c)):OpOk P (execOp a.eval o) w (Post base w0 I0 I β v σ'):=by
 rw [show execOp a.eval o=(do pure (.value (←Instr.buildSlice t n (parts.map fun (i,x)=>(i,a.eval x)))):Sem Next) by unfold execOp;rw [ho]]
 simp only [Zaa] at hc
 split at hc
 ·rename_i k bytes z he
  split at hc
  ·rename_i hn
   simp only [Option.map_eq_some_iff] at hc
   obtain ⟨ps,hps,rfl⟩:=hc
   split at h
   ·rename_i ho
    exact OpOk.val (ZIt T R hb he hn hps (hsite (by rw [if_pos ho];simp [nsite])) h)
   ·rename_i ho
    exact OpOk.val (ZxW T R hb he hn hps (fun ho'=>hsite (by rw [if_neg ho];simp [nsite,ho'])) h)
  ·cases hc
 ·cases hc
set_option maxHeartbeats 1000000 in
theorem ZEy {O:ZR} (hO:ZaN P O) {byref:Nat→Bool} {an:Ann} {a:Act} {o:Oper} {own:Nat} {ins:Ins} (t:TypeId) (x:Operand) (ho:o.op=.load t x) (hc:Zaa P an own (.load t x)=some ins) (T:TR I β tm a.tmps) (R:Rel base w0 I0 I β σ w) (hb:KLt base w0)
  {site:Nat} (hsite:nsite ins≠0→σ[site]?=some .free) {v:AVal} {c:Cls} (h:execI O byref tm σ site ins=some (v,σ',c)):OpOk P (execOp a.eval o) w (Post base w0 I0 I β v σ'):=by
 rw [show execOp a.eval o=(do pure (.value (←Instr.loadAt t (a.eval x))):Sem Next) by unfold execOp;rw [ho]]
 simp only [Zaa] at hc
 split at hc
 ·rename_i k y hk hy
  injection hc with hc;subst hc
  simp only [execI] at h
  obtain ⟨u,h1,h2,rfl⟩:=Zqt hk R (ZaE T hy) h
  exact OpOk.val ⟨u,w,h1,Post.here R h2⟩
 ·cases hc
set_option maxHeartbeats 1000000 in
theorem ZLE {O:ZR} (hO:ZaN P O) {byref:Nat→Bool} {an:Ann} {a:Act} {o:Oper} {own:Nat} {ins:Ins} (t:TypeId) (x:Operand) (y:Operand) (ho:o.op=.store t x y) (hc:Zaa P an own (.store t x y)=some ins) (T:TR I β tm a.tmps) (R:Rel base w0 I0 I β σ w) (hb:KLt base w0)
  {site:Nat} (hsite:nsite ins≠0→σ[site]?=some .free) {v:AVal} {c:Cls} (h:execI O byref tm σ site ins=some (v,σ',c)):OpOk P (execOp a.eval o) w (Post base w0 I0 I β v σ'):=by
 rw [show execOp a.eval o=(do Instr.storeAt t (a.eval x) (a.eval y);pure .skip:Sem Next) by unfold execOp;rw [ho]]
 simp only [Zaa] at hc
 split at hc
 ·rename_i k x' y' hk hx hy
  injection hc with hc;subst hc
  simp only [execI] at h
  exact OpOk.unit (ZGh hk R (ZaE T hx) (ZaE T hy) h)
 ·cases hc
set_option maxHeartbeats 1000000 in
theorem ZNc {O:ZR} (hO:ZaN P O) {byref:Nat→Bool} {an:Ann} {a:Act} {o:Oper} {own:Nat} {ins:Ins} (x:Operand) (ho:o.op=.nilCheck x) (hc:Zaa P an own (.nilCheck x)=some ins) (T:TR I β tm a.tmps) (R:Rel base w0 I0 I β σ w) (hb:KLt base w0)
  {site:Nat} (hsite:nsite ins≠0→σ[site]?=some .free) {v:AVal} {c:Cls} (h:execI O byref tm σ site ins=some (v,σ',c)):OpOk P (execOp a.eval o) w (Post base w0 I0 I β v σ'):=by
 simp only [Zaa] at hc
 simp only [Option.map_eq_some_iff] at hc
 obtain ⟨y,hy,rfl⟩:=hc
 have hx:=ZaE T hy
 have key:∀ ad,a.eval x=.pointer (some ad)→execOp a.eval o=pure (.value (a.eval x)):=by
  intro ad e
  unfold execOp
  rw [ho]
  simp only [e]
 simp only [execI] at h
 split at h
 ·rename_i t' o' e
  simp only [Option.some.injEq,Prod.mk.injEq] at h
  obtain ⟨rfl,rfl,rfl⟩:=h
  rw [e] at hx
  have hx':=hx
  simp only [VR] at hx'
  obtain ⟨b,k,c',_,hp⟩:=hx'
  rw [key _ hp]
  exact Or.inl ⟨a.eval x,w,rfl,Post.here R hx⟩
 ·rename_i t' g' i' o' e
  simp only [Option.some.injEq,Prod.mk.injEq] at h
  obtain ⟨rfl,rfl,rfl⟩:=h
  rw [e] at hx
  have hx':=hx
  simp only [VR] at hx'
  obtain ⟨b,k,c',_,hp⟩:=hx'
  rw [key _ hp]
  exact Or.inl ⟨a.eval x,w,rfl,Post.here R hx⟩
 ·rename_i cs o' e
  simp only [Option.some.injEq,Prod.mk.injEq] at h
  obtain ⟨rfl,rfl,rfl⟩:=h
  rw [e] at hx
  have hx':=hx
  simp only [VR] at hx'
  obtain ⟨b,off,hp,_⟩:=hx'
  rw [key _ hp]
  exact Or.inl ⟨a.eval x,w,rfl,Post.here R hx⟩
 ·cases h
set_option maxHeartbeats 1000000 in
theorem ZC5 {O : ZR} (hO : ZaN P O) {byref : Nat → Bool} {an : Ann} {a : Act} {o : Oper} {own : Nat} {ins : Ins} (op : BinOp) (t : TypeId) (x : Operand) (y : Operand) (yt : TypeId) (ho : o.op = .binOp op t x y yt) (hc : Zaa P an own (.binOp op t x y yt) = some ins) (T : TR I β tm a.tmps) (R : Rel base w0 I0 I β σ w) (hb : KLt base w0)
    {site : Nat} (hsite : nsite ins ≠ 0 → σ[site]? = some .free) {v : AVal} {c : Cls} (h : execI O byref tm σ site ins = some (v, σ', c)) : OpOk P (execOp a.eval o) w (Post base w0 I0 I β v σ') := by
  rw [show execOp a.eval o = (do pure (.value (← (do eqGuard op t x y (a.eval x) (a.eval y); binOp op t (a.eval x) (a.eval y)))) : Sem Next) by unfold execOp; rw [ho]]
  simp only [Zaa] at hc
  split at hc
  · rename_i x' y' hx hy
    have hx' := ZaE T hx
    have hy' := ZaE T hy
    unfold ZuH at hc
    split at hc
    · injection hc with hc; subst hc
      simp only [execI] at h
      obtain ⟨r, hr, he⟩ := ZfN h
      simp only [Prod.mk.injEq] at he
      obtain ⟨rfl, rfl, rfl⟩ := he
      obtain ⟨u, h1, h2⟩ := ZrM (P := P) (w := w) (t := t) x y hx' hy' hr
      exact OpOk.val ⟨u, w, h1, Post.here R h2⟩
    · injection hc with hc; subst hc
      simp only [execI] at h
      obtain ⟨r, hr, he⟩ := ZfN h
      simp only [Prod.mk.injEq] at he
      obtain ⟨rfl, rfl, rfl⟩ := he
      obtain ⟨u, h1, h2⟩ := ZrM (P := P) (w := w) (t := t) x y hx' hy' hr
      exact OpOk.val ⟨u, w, h1, Post.here R h2⟩
    · rename_i hu
      split at hc
      all_goals first
        | (cases hc; done)
        | (injection hc with hc; subst hc
           simp only [execI] at h
           split at h
           · rename_i p q e1 e2
             rw [e1] at hx'; rw [e2] at hy'
             simp only [VR] at hx' hy'
             simp only [Option.some.injEq, Prod.mk.injEq] at h
             obtain ⟨rfl, rfl, rfl⟩ := h
             refine OpOk.val ⟨_, w, ?_, Post.here R (by simp only [VR]; rfl)⟩
             rw [hx', hy']
             first | exact ZJe hu p q x y | exact ZBU hu p q x y
           · cases h)
    · rename_i elem hu
      split at hc
      all_goals first
        | (cases hc; done)
        | (injection hc with hc; subst hc
           simp only [execI] at h
           split at h
           · rename_i e1 e2
             rw [e1] at hx'; rw [e2] at hy'
             simp only [VR] at hx' hy'
             simp only [Option.some.injEq, Prod.mk.injEq] at h
             obtain ⟨rfl, rfl, rfl⟩ := h
             refine OpOk.val ⟨_, w, ?_, Post.here R (by simp only [VR]; rfl)⟩
             rw [hx', hy']
             first | exact Zoa hu _ _ x y (by simp) | exact ZlZ hu _ _ x y (by simp)
           · rename_i t1 o1 e1 e2
             rw [e1] at hx'; rw [e2] at hy'
             simp only [VR] at hx' hy'
             obtain ⟨b, k, c', _, hy'⟩ := hy'
             simp only [Option.some.injEq, Prod.mk.injEq] at h
             obtain ⟨rfl, rfl, rfl⟩ := h
             refine OpOk.val ⟨_, w, ?_, Post.here R (by simp only [VR]; rfl)⟩
             rw [hx', hy']
             first | exact Zoa hu _ _ x y (by simp) | exact ZlZ hu _ _ x y (by simp)
           · rename_i t1 o1 e1 e2
             rw [e1] at hx'; rw [e2] at hy'
             simp only [VR] at hx' hy'
             obtain ⟨b, k, c', _, hx'⟩ := hx'
             simp only [Option.some.injEq, Prod.mk.injEq] at h
             obtain ⟨rfl, rfl, rfl⟩ := h
             refine OpOk.val ⟨_, w, ?_, Post.here R (by simp only [VR]; rfl)⟩
             rw [hx', hy']
             first | exact Zoa hu _ _ x y (by simp) | exact ZlZ hu _ _ x y (by simp)
           · cases h)
    · rename_i fs hu
      split at hc
      case isFalse => cases hc
      rename_i hfl
      have fin : ∀ (neg : Bool), op = (if neg then .neq else .eql) → execI O byref tm σ site (.eqv neg (fs.toList.map fun f => (ZhY P f.type).getD 3) x' y') = some (v, σ', c) → OpOk P (do pure (.value (← (do eqGuard op t x y (a.eval x) (a.eval y); binOp op t (a.eval x) (a.eval y))))) w (Post base w0 I0 I β v σ') := by
        intro neg hop h
        simp only [execI] at h
        split at h
        · rename_i xs ys e1 e2
          rw [e1] at hx'; rw [e2] at hy'
          simp only [VR] at hx' hy'
          obtain ⟨us, hx1, hx2⟩ := hx'
          obtain ⟨vs, hy1, hy2⟩ := hy'
          split at h
          case isFalse => cases h
          rename_i hk
          split at h
          · rename_i b hb'
            simp only [Option.some.injEq, Prod.mk.injEq] at h
            obtain ⟨rfl, rfl, rfl⟩ := h
            refine OpOk.val ⟨_, w, ?_, Post.here R (by simp only [VR]; rfl)⟩
            rw [hx1, hy1]
            exact ZMx hu hfl hx2 hy2 (Zt1 hk) hb' neg hop x y
          · cases h
        · cases h
      split at hc
      · injection hc with hc; subst hc; exact fin false rfl h
      · injection hc with hc; subst hc; exact fin true rfl h
      · cases hc
    · rename_i ms hu
      have fin : ∀ (neg : Bool), y' = .c .nili → op = (if neg then .neq else .eql) → execI O byref tm σ site (.ieq neg x' y') = some (v, σ', c) → OpOk P (do pure (.value (← (do eqGuard op t x y (a.eval x) (a.eval y); binOp op t (a.eval x) (a.eval y))))) w (Post base w0 I0 I β v σ') := by
        intro neg hy0 hop h
        subst hy0
        obtain ⟨vy, rfl⟩ : ∃ vy, y = .const vy := by
          cases y with
          | const vy => exact ⟨vy, rfl⟩
          | tmp t => simp [Zax] at hy
          | func f => simp only [Zax] at hy; split at hy <;> simp at hy
          | global g => simp [Zax] at hy
        simp only [Opd.ev, VR] at hy'
        have hms : P.underlying t = some (.interface ms) := hu
        simp only [execI] at h
        rw [show (Opd.c AVal.nili).ev tm = .nili from rfl] at h
        split at h
        · rename_i e1 e2
          rw [e1] at hx'
          simp only [VR] at hx'
          simp only [Option.some.injEq, Prod.mk.injEq] at h
          obtain ⟨rfl, rfl, rfl⟩ := h
          refine OpOk.val ⟨_, w, ?_, Post.here R (by simp only [VR]; rfl)⟩
          rw [hx', hy']
          exact ZuD hms neg x vy hop
        · rename_i e2; cases e2
        · rename_i t1 x1 e1 e2
          rw [e1] at hx'
          simp only [VR] at hx'
          obtain ⟨u, hx', _⟩ := hx'
          simp only [Option.some.injEq, Prod.mk.injEq] at h
          obtain ⟨rfl, rfl, rfl⟩ := h
          refine OpOk.val ⟨_, w, ?_, Post.here R (by simp only [VR]; rfl)⟩
          rw [hx', hy']
          exact Zqz hms neg x vy hop
        · cases h
      split at hc
      · injection hc with hc; subst hc; exact fin false rfl rfl h
      · injection hc with hc; subst hc; exact fin true rfl rfl h
      · cases hc
    · cases hc
  · cases hc
set_option maxHeartbeats 1000000 in
theorem ZMw {O:ZR} (hO:ZaN P O) {byref:Nat→Bool} {an:Ann} {a:Act} {o:Oper} {own:Nat} {ins:Ins} (op:UnOp) (t:TypeId) (x:Operand) (ho:o.op=.unOp op t x) (hc:Zaa P an own (.unOp op t x)=some ins) (T:TR I β tm a.tmps) (R:Rel base w0 I0 I β σ w) (hb:KLt base w0)
  {site:Nat} (hsite:nsite ins≠0→σ[site]?=some .free) {v:AVal} {c:Cls} (h:execI O byref tm σ site ins=some (v,σ',c)):OpOk P (execOp a.eval o) w (Post base w0 I0 I β v σ'):=by
 rw [show execOp a.eval o=(do pure (.value (←Op.unary op (a.eval x))):Sem Next) by unfold execOp;rw [ho]]
 simp only [Zaa] at hc
 simp only [Option.map_eq_some_iff] at hc
 obtain ⟨y,hy,rfl⟩:=hc
 simp only [execI] at h
 obtain ⟨r,hr,he⟩:=ZfN h
 simp only [Prod.mk.injEq] at he
 obtain ⟨rfl,rfl,rfl⟩:=he
 obtain ⟨u,h1,h2⟩:=ZvO (P:=P) (w:=w) (ZaE T hy) hr
 exact OpOk.val ⟨u,w,h1,Post.here R h2⟩
set_option maxHeartbeats 1000000 in
theorem ZDj {O:ZR} (hO:ZaN P O) {byref:Nat→Bool} {an:Ann} {a:Act} {o:Oper} {own:Nat} {ins:Ins} (src:TypeId) (dst:TypeId) (x:Operand) (ho:o.op=.convert src dst x) (hc:Zaa P an own (.convert src dst x)=some ins) (T:TR I β tm a.tmps) (R:Rel base w0 I0 I β σ w) (hb:KLt base w0)
  {site:Nat} (hsite:nsite ins≠0→σ[site]?=some .free) {v:AVal} {c:Cls} (h:execI O byref tm σ site ins=some (v,σ',c)):OpOk P (execOp a.eval o) w (Post base w0 I0 I β v σ'):=by
 rw [show execOp a.eval o=(do pure (.value (←convert src dst (a.eval x))):Sem Next) by unfold execOp;rw [ho]]
 simp only [Zaa] at hc
 split at hc
 ·rename_i y hy
  have hx:=ZaE T hy
  unfold Zq6 at hc
  split at hc
  ·rename_i k1 k2 hs hd
   injection hc with hc;subst hc
   simp only [execI] at h
   split at h
   ·rename_i k n e
    rw [e] at hx;simp only [VR] at hx
    simp only [Option.some.injEq,Prod.mk.injEq] at h
    obtain ⟨rfl,rfl,rfl⟩:=h
    refine OpOk.val ⟨.int k2 (k2.wrap n),w,?_,Post.here R (by simp only [VR])⟩
    rw [hx]
    simp [convert,run_underlying hs,run_underlying hd,Conv.intToInt]
   ·cases h
  ·rename_i hs hd
   injection hc with hc;subst hc
   simp only [execI] at h
   split at h
   ·rename_i k n e
    rw [e] at hx;simp only [VR] at hx
    simp only [Option.some.injEq,Prod.mk.injEq] at h
    obtain ⟨rfl,rfl,rfl⟩:=h
    refine OpOk.val ⟨.string (Utf8.encode n),w,?_,Post.here R ?_⟩
    ·rw [hx]
     simp [convert,run_underlying hs,run_underlying hd,Conv.intToString]
    ·simp only [VR]
     refine ⟨by simp,?_⟩
     unfold Utf8.encode
     simp only
     repeat' split
     all_goals simp
   ·cases h
  ·rename_i hs hd
   injection hc with hc;subst hc
   simp only [execI] at h
   split at h
   ·rename_i l e
    rw [e] at hx
    have hx':=hx
    simp only [VR] at hx'
    simp only [Option.some.injEq,Prod.mk.injEq] at h
    obtain ⟨rfl,rfl,rfl⟩:=h
    refine OpOk.val ⟨_,w,?_,Post.here R hx⟩
    rw [hx'.1]
    simp [convert,run_underlying hs,run_underlying hd]
   ·cases h
  ·rename_i e hs hd
   split at hc
   ·rename_i he
    injection hc with hc;subst hc
    simp only [execI] at h
    split at h
    ·rename_i l e'
     rw [e'] at hx
     simp only [VR] at hx
     simp only [Option.some.injEq,Prod.mk.injEq] at h
     obtain ⟨rfl,rfl,rfl⟩:=h
     rw [hx.1]
     exact OpOk.val (ZIb hs hd he R hb hx.2)
    ·cases h
   ·cases hc
  ·rename_i e1 e hs hd
   split at hc
   ·rename_i hsd
    subst hsd
    split at hc
    ·rename_i he
     injection hc with hc;subst hc
     simp only [execI] at h
     split at h
     ·rename_i t' g n ev
      rw [ev] at hx
      split at h
      ·rename_i g' k xs hrow
       split at h
       ·rename_i hcond
        obtain ⟨rfl,hn,h0⟩:=hcond
        simp only [Option.some.injEq,Prod.mk.injEq] at h
        obtain ⟨rfl,rfl,rfl⟩:=h
        obtain ⟨w1,h1,h2⟩:=ZwL hd he R hrow hn h0 hx
        exact OpOk.val ⟨_,w1,h1,h2⟩
       ·cases h
      ·cases h
     ·cases h
    ·cases hc
   ·cases hc
  ·rename_i e hs hd
   split at hc
   ·rename_i he
    injection hc with hc;subst hc
    simp only [execI] at h
    split at h
    ·rename_i xs ts hel
     split at h
     ·rename_i l hl
      simp only [Option.some.injEq,Prod.mk.injEq] at h
      obtain ⟨rfl,rfl,rfl⟩:=h
      by_cases hst:∃ l',y.ev tm=.str l'
      ·obtain ⟨l',e'⟩:=hst
       rw [e'] at hel hx
       simp only [Z6,Option.some.injEq,Prod.mk.injEq] at hel
       obtain ⟨rfl,rfl⟩:=hel
       simp only [VR] at hx
       have hll:l=l':=by
        obtain ⟨ns,e1,e2⟩:=ZmI hl
        subst e2
        have : l'.map Zc=ns.map (AVal.int .u8):=e1
        apply List.ext_getElem?
        intro j
        have hj:=congrArg (fun q:List AVal=>q[j]?) this
        simp only [List.getElem?_map] at hj ⊢
        cases h1:l'[j]? <;> cases h2:ns[j]? <;> simp_all [Zc]
        rename_i b n
        rw [←hj];simp
       subst hll
       refine OpOk.val ⟨.string ⟨l.toArray⟩,w,?_,Post.here R (by simp only [VR];exact ⟨trivial,hx.2⟩)⟩
       rw [hx.1]
       simp [convert,run_underlying hs,run_underlying hd]
      ·have hrd:=Zoy R (fun l' e'=>hst ⟨l',e'⟩) hel hx
       obtain ⟨h1,h2⟩:=Zvo (P:=P) hs he hd hrd hl
       exact OpOk.val ⟨_,w,h1,Post.here R (by simp only [VR];exact ⟨trivial,h2⟩)⟩
     ·cases h
    ·cases h
   ·cases hc
  ·cases hc
 ·cases hc
set_option maxHeartbeats 1000000 in
theorem Zxg {O:ZR} (hO:ZaN P O) {byref:Nat→Bool} {an:Ann} {a:Act} {o:Oper} {own:Nat} {ins:Ins} (t:TypeId) (x:Operand) (lo:Option Operand) (hi:Option Operand) (mx:Option Operand) (ho:o.op=.slice t x lo hi mx) (hc:Zaa P an own (.slice t x lo hi mx)=some ins) (T:TR I β tm a.tmps) (R:Rel base w0 I0 I β σ w) (hb:KLt base w0)
  {site:Nat} (hsite:nsite ins≠0→σ[site]?=some .free) {v:AVal} {c:Cls} (h:execI O byref tm σ site ins=some (v,σ',c)):OpOk P (execOp a.eval o) w (Post base w0 I0 I β v σ'):=by
 rw [show execOp a.eval o=(do pure (.value (←Instr.sliceAt t (a.eval x) (lo.map a.eval) (hi.map a.eval) (mx.map a.eval))):Sem Next) by unfold execOp;rw [ho]]
 simp only [Zaa] at hc
 split at hc
 ·rename_i x' lo' hi' mx' hx hlo hhi hmx
  split at hc
  ·rename_i hu
   split at hc
   ·injection hc with hc;subst hc
    have hmx0:mx=none:=by cases mx <;> simp_all [Zgx]
    subst hmx0
    have hx':=ZaE T hx
    simp only [execI] at h
    split at h
    ·rename_i s e
     rw [e] at hx';simp only [VR] at hx'
     split at h
     ·cases h
     rename_i hh h1
     split at h
     ·cases h
     rename_i ll h2
     simp only [Option.some.injEq,Prod.mk.injEq] at h
     obtain ⟨rfl,rfl,rfl⟩:=h
     refine OpOk.val ⟨_,w,?_,Post.here R (by simp only [VR];exact ⟨rfl,by simp;omega⟩)⟩
     rw [hx'.1]
     exact ZDL hu hx'.2 (Zi0 T hlo) (Zi0 T hhi) h1 h2
    ·cases h
   ·cases hc
  ·rename_i e hu
   split at hc
   ·rename_i k hk
    split at hc
    ·split at hc
     ·cases hc
     ·rename_i hnn
      injection hc with hc;subst hc
      simp only [execI] at h
      obtain ⟨u,h1,h2⟩:=ZFb hu hk R (ZaE T hx) (Zi0 T hlo) (Zi0 T hhi) (Zi0 T hmx) (by
       intro e'
       cases hi' with
       | some _=>simp at e'
       | none=>cases mx' with
        | none=>rfl
        | some q=>exact absurd rfl (hnn q rfl)) h
      exact OpOk.val ⟨u,w,h1,h2⟩
    ·cases hc
   ·cases hc
  ·cases hc
 ·cases hc
set_option maxHeartbeats 1000000 in
theorem Zzj {O:ZR} (hO:ZaN P O) {byref:Nat→Bool} {an:Ann} {a:Act} {o:Oper} {own:Nat} {ins:Ins} (s:TypeId) (x:Operand) (i:Nat) (ho:o.op=.fieldAddr s x i) (hc:Zaa P an own (.fieldAddr s x i)=some ins) (T:TR I β tm a.tmps) (R:Rel base w0 I0 I β σ w) (hb:KLt base w0)
  {site:Nat} (hsite:nsite ins≠0→σ[site]?=some .free) {v:AVal} {c:Cls} (h:execI O byref tm σ site ins=some (v,σ',c)):OpOk P (execOp a.eval o) w (Post base w0 I0 I β v σ'):=by
 rw [show execOp a.eval o=(do pure (.value (←Instr.fieldAt s (a.eval x) i)):Sem Next) by unfold execOp;rw [ho]]
 simp only [Zaa] at hc
 split at hc
 ·rename_i fields x' hs hx
  split at hc
  ·rename_i f hf
   split at hc
   ·rename_i k hk
    split at hc
    ·cases hc
    ·rename_i hk0
     injection hc with hc;subst hc
     simp only [execI] at h
     obtain ⟨r,hr,he⟩:=ZfN h
     simp only [Prod.mk.injEq] at he
     obtain ⟨rfl,rfl,rfl⟩:=he
     obtain ⟨u,h1,h2⟩:=ZNn (w:=w) hs hf hk hk0 (ZaE T hx) hr
     exact OpOk.val ⟨u,w,h1,Post.here R h2⟩
   ·cases hc
  ·cases hc
 ·cases hc
set_option maxHeartbeats 1000000 in
theorem Zvs {O:ZR} (hO:ZaN P O) {byref:Nat→Bool} {an:Ann} {a:Act} {o:Oper} {own:Nat} {ins:Ins} (s:TypeId) (x:Operand) (i:Nat) (ho:o.op=.field s x i) (hc:Zaa P an own (.field s x i)=some ins) (T:TR I β tm a.tmps) (R:Rel base w0 I0 I β σ w) (hb:KLt base w0)
  {site:Nat} (hsite:nsite ins≠0→σ[site]?=some .free) {v:AVal} {c:Cls} (h:execI O byref tm σ site ins=some (v,σ',c)):OpOk P (execOp a.eval o) w (Post base w0 I0 I β v σ'):=by
 rw [show execOp a.eval o=(do pure (.value (←Instr.field s (a.eval x) i)):Sem Next) by unfold execOp;rw [ho]]
 simp only [Zaa] at hc
 split at hc
 ·rename_i fields x' hs hx
  split at hc
  ·rename_i f hf
   simp only [Option.map_eq_some_iff] at hc
   obtain ⟨k,hk,rfl⟩:=hc
   have hx':=ZaE T hx
   simp only [execI] at h
   split at h
   ·rename_i cs e
    rw [e] at hx';simp only [VR] at hx'
    obtain ⟨us,hus,hv⟩:=hx'
    obtain ⟨r,hr,he⟩:=ZfN h
    simp only [Prod.mk.injEq] at he
    obtain ⟨rfl,rfl,rfl⟩:=he
    obtain ⟨u,h1,h2⟩:=ZtA (P:=P) (w:=w) hk hv hr
    refine OpOk.val ⟨u,w,?_,Post.here R h2⟩
    rw [hus]
    simp [Instr.field,run_underlying hs,hf,asAgg,h1]
   ·cases h
  ·cases hc
 ·cases hc
set_option maxHeartbeats 1000000 in
theorem ZDl {O:ZR} (hO:ZaN P O) {byref:Nat→Bool} {an:Ann} {a:Act} {o:Oper} {own:Nat} {ins:Ins} (t:TypeId) (x:Operand) (i:Operand) (ho:o.op=.indexAddr t x i) (hc:Zaa P an own (.indexAddr t x i)=some ins) (T:TR I β tm a.tmps) (R:Rel base w0 I0 I β σ w) (hb:KLt base w0)
  {site:Nat} (hsite:nsite ins≠0→σ[site]?=some .free) {v:AVal} {c:Cls} (h:execI O byref tm σ site ins=some (v,σ',c)):OpOk P (execOp a.eval o) w (Post base w0 I0 I β v σ'):=by
 rw [show execOp a.eval o=(do pure (.value (←Instr.indexAt t (a.eval x) (a.eval i))):Sem Next) by unfold execOp;rw [ho]]
 simp only [Zaa] at hc
 split at hc
 ·rename_i e x' i' hu hx hi
  simp only [Option.map_eq_some_iff] at hc
  obtain ⟨k,hk,rfl⟩:=hc
  simp only [execI] at h
  obtain ⟨u,h1,h2,rfl⟩:=Zxi hu hk R (ZaE T hx) (ZaE T hi) h
  exact OpOk.val ⟨u,w,h1,Post.here R h2⟩
 ·rename_i n e x' i' hu hx hi
  simp only [Option.map_eq_some_iff] at hc
  obtain ⟨k,hk,rfl⟩:=hc
  have hi':=ZaE T hi
  simp only [execI] at h
  split at h
  ·rename_i kk ii e'
   rw [e'] at hi';simp only [VR] at hi'
   split at h
   ·rename_i hb'
    obtain ⟨r,hr,he⟩:=ZfN h
    simp only [Prod.mk.injEq] at he
    obtain ⟨rfl,rfl,rfl⟩:=he
    obtain ⟨u,h1,h2⟩:=ZFt (P:=P) (w:=w) (kk:=kk) hu hk (ZaE T hx) hb'.1 hb'.2 hr
    exact OpOk.val ⟨u,w,by rw [hi'];exact h1,Post.here R h2⟩
   ·cases h
  ·cases h
 ·cases hc
set_option maxHeartbeats 1000000 in
theorem ZDD {O:ZR} (hO:ZaN P O) {byref:Nat→Bool} {an:Ann} {a:Act} {o:Oper} {own:Nat} {ins:Ins} (t:TypeId) (x:Operand) (i:Operand) (ho:o.op=.index t x i) (hc:Zaa P an own (.index t x i)=some ins) (T:TR I β tm a.tmps) (R:Rel base w0 I0 I β σ w) (hb:KLt base w0)
  {site:Nat} (hsite:nsite ins≠0→σ[site]?=some .free) {v:AVal} {c:Cls} (h:execI O byref tm σ site ins=some (v,σ',c)):OpOk P (execOp a.eval o) w (Post base w0 I0 I β v σ'):=by
 rw [show execOp a.eval o=(do pure (.value (←Instr.index t (a.eval x) (a.eval i))):Sem Next) by unfold execOp;rw [ho]]
 simp only [Zaa] at hc
 split at hc
 ·rename_i x' i' hu hx hi
  injection hc with hc;subst hc
  have hx':=ZaE T hx
  have hi':=ZaE T hi
  simp only [execI] at h
  split at h
  ·rename_i s kk ii e1 e2
   rw [e1] at hx';rw [e2] at hi'
   simp only [VR] at hx' hi'
   split at h
   ·rename_i h0
    simp only [Option.map_eq_some_iff] at h
    obtain ⟨b,hbb,he⟩:=h
    simp only [Prod.mk.injEq] at he
    obtain ⟨rfl,rfl,rfl⟩:=he
    refine OpOk.val ⟨.int .u8 b.toNat,w,?_,Post.here R (by simp only [Zc,VR])⟩
    rw [hx'.1,hi']
    have hg:(⟨s.toArray⟩:ByteArray)[ii.toNat]?=some b:=by
     have hlt:=(List.getElem?_eq_some_iff.1 hbb).1
     have : ii.toNat < ByteArray.size ⟨s.toArray⟩:=by simpa [ByteArray.size] using hlt
     rw [getElem?_pos (⟨s.toArray⟩:ByteArray) ii.toNat this]
     have:=(List.getElem?_eq_some_iff.1 hbb).2
     rw [←this]
     rfl
    simp [Instr.index,asIntOf,run_underlying hu,h0,hg]
   ·cases h
  ·cases h
 ·rename_i n e x' i' hu hx hi
  split at hc
  ·rename_i s k hk hk2
   injection hc with hc;subst hc
   have hx':=ZaE T hx
   have hi':=ZaE T hi
   simp only [execI] at h
   split at h
   ·rename_i cs kk ii e1 e2
    rw [e1] at hx';rw [e2] at hi'
    simp only [VR] at hx' hi'
    obtain ⟨us,hus,hv⟩:=hx'
    split at h
    ·rename_i hb'
     obtain ⟨r,hr,he⟩:=ZfN h
     simp only [Prod.mk.injEq] at he
     obtain ⟨rfl,rfl,rfl⟩:=he
     obtain ⟨u,h1,h2⟩:=ZtA (P:=P) (w:=w) hk hv hr
     obtain ⟨ie,hie,hke⟩:∃ ie,P.info? e=some ie∧ie.size=k:=by
      unfold ZbH at hk2
      cases hi:P.info? e with
      | none=>simp [hi] at hk2
      | some i=>exact ⟨i,rfl,by simpa [hi] using hk2⟩
     refine OpOk.val ⟨u,w,?_,Post.here R h2⟩
     rw [hus,hi']
     simp [Instr.index,asIntOf,run_underlying hu,hb'.1,hb'.2,sizeOf,typeInfo,hie,hke,h1]
    ·cases h
   ·cases h
  ·cases hc
 ·cases hc
set_option maxHeartbeats 1000000 in
theorem ZLb {O:ZR} (hO:ZaN P O) {byref:Nat→Bool} {an:Ann} {a:Act} {o:Oper} {own:Nat} {ins:Ins} (x:Operand) (i:Nat) (ho:o.op=.extract x i) (hc:Zaa P an own (.extract x i)=some ins) (T:TR I β tm a.tmps) (R:Rel base w0 I0 I β σ w) (hb:KLt base w0)
  {site:Nat} (hsite:nsite ins≠0→σ[site]?=some .free) {v:AVal} {c:Cls} (h:execI O byref tm σ site ins=some (v,σ',c)):OpOk P (execOp a.eval o) w (Post base w0 I0 I β v σ'):=by
 rw [show execOp a.eval o=(do pure (.value (←Instr.extract (a.eval x) i)):Sem Next) by unfold execOp;rw [ho]]
 simp only [Zaa] at hc
 simp only [Option.map_eq_some_iff] at hc
 obtain ⟨y,hy,rfl⟩:=hc
 have hx:=ZaE T hy
 simp only [execI] at h
 split at h
 ·rename_i vs e
  rw [e] at hx;simp only [VR] at hx
  obtain ⟨us,hus,hv⟩:=hx
  obtain ⟨r,hr,he⟩:=ZfN h
  simp only [Prod.mk.injEq] at he
  obtain ⟨rfl,rfl,rfl⟩:=he
  obtain ⟨u,h1,h2⟩:=Zcq hv hr
  have h1':us[i]?=some u:=by simpa using h1
  exact OpOk.val ⟨u,w,by rw [hus];simp [Instr.extract,h1'],Post.here R h2⟩
 ·cases h
set_option maxHeartbeats 1000000 in
theorem ZBh {O:ZR} (hO:ZaN P O) {byref:Nat→Bool} {an:Ann} {a:Act} {o:Oper} {own:Nat} {ins:Ins} (t:TypeId) (l:Operand) (c':Operand) (ho:o.op=.makeSlice t l c') (hc:Zaa P an own (.makeSlice t l c')=some ins) (T:TR I β tm a.tmps) (R:Rel base w0 I0 I β σ w) (hb:KLt base w0)
  {site:Nat} (hsite:nsite ins≠0→σ[site]?=some .free) {v:AVal} {c:Cls} (h:execI O byref tm σ site ins=some (v,σ',c)):OpOk P (execOp a.eval o) w (Post base w0 I0 I β v σ'):=by
 rw [show execOp a.eval o=(do pure (.value (←Instr.makeSlice t (a.eval l) (a.eval c'))):Sem Next) by unfold execOp;rw [ho]]
 simp only [Zaa] at hc
 split at hc
 ·rename_i k bytes z l' c'' he hl hc'
  injection hc with hc;subst hc
  have hl':=ZaE T hl
  have hc'':=ZaE T hc'
  simp only [execI] at h
  split at h
  ·rename_i li ci e1 e2
   rw [e1] at hl';rw [e2] at hc''
   simp only [VR] at hl' hc''
   split at h
   ·rename_i hcond
    simp only [Option.some.injEq,Prod.mk.injEq] at h
    obtain ⟨rfl,rfl,rfl⟩:=h
    rw [hl',hc'']
    exact OpOk.val (ZD0 R hb he hcond.1 hcond.2.1 hcond.2.2.1 hcond.2.2.2.1 (hsite (by simp [nsite])))
   ·cases h
  ·cases h
 ·cases hc
set_option maxHeartbeats 1000000 in
theorem ZJg {O:ZR} (hO:ZaN P O) {byref:Nat→Bool} {an:Ann} {a:Act} {o:Oper} {own:Nat} {ins:Ins} (fn:Fn) (first:Array Operand) (captured:Array Operand) (ho:o.op=.makeFunc fn first captured) (hc:Zaa P an own (.makeFunc fn first captured)=some ins) (T:TR I β tm a.tmps) (R:Rel base w0 I0 I β σ w) (hb:KLt base w0)
  {site:Nat} (hsite:nsite ins≠0→σ[site]?=some .free) {v:AVal} {c:Cls} (h:execI O byref tm σ site ins=some (v,σ',c)):OpOk P (execOp a.eval o) w (Post base w0 I0 I β v σ'):=by
 rw [show execOp a.eval o=(do pure (.value (←Instr.makeFunc fn (first.map a.eval) (captured.map a.eval))):Sem Next) by unfold execOp;rw [ho]]
 simp only [Zaa] at hc
 cases fn <;> simp only at hc <;> try (cases hc;done)
 rename_i f
 split at hc
 case isFalse=>cases hc
 rename_i hlt
 split at hc
 ·rename_i hf
  simp only [Option.map_eq_some_iff] at hc
  obtain ⟨caps,hcaps,rfl⟩:=hc
  simp only [execI,Option.some.injEq,Prod.mk.injEq] at h
  obtain ⟨rfl,rfl,rfl⟩:=h
  have hfe:first=#[]:=by simpa using hf
  subst hfe
  refine OpOk.val ⟨.func (.func f) #[] (captured.map a.eval),w,by simp [Instr.makeFunc],Post.here R ?_⟩
  simp only [VR,if_pos hlt]
  exact ⟨_,_,rfl,rfl,by simpa using ZjU T hcaps⟩
 ·split at hc
  case isFalse=>cases hc
  rename_i hf
  simp only [Option.map_eq_some_iff] at hc
  obtain ⟨caps,hcaps,rfl⟩:=hc
  simp only [execI,Option.some.injEq,Prod.mk.injEq] at h
  obtain ⟨rfl,rfl,rfl⟩:=h
  have hfe:captured=#[]:=by simpa using hf
  subst hfe
  refine OpOk.val ⟨.func (.func f) (first.map a.eval) #[],w,by simp [Instr.makeFunc],Post.here R ?_⟩
  have hn:¬(f+1000000 < 1000000):=Nat.not_lt.2 (Nat.le_add_left _ _)
  simp only [VR,if_neg hn,Nat.add_sub_cancel]
  exact ⟨_,_,rfl,rfl,by simpa using ZjU T hcaps⟩
set_option maxHeartbeats 1000000 in
theorem ZJm {O:ZR} (hO:ZaN P O) {byref:Nat→Bool} {an:Ann} {a:Act} {o:Oper} {own:Nat} {ins:Ins} (t:TypeId) (x:Operand) (ho:o.op=.makeInterface t x) (hc:Zaa P an own (.makeInterface t x)=some ins) (T:TR I β tm a.tmps) (R:Rel base w0 I0 I β σ w) (hb:KLt base w0)
  {site:Nat} (hsite:nsite ins≠0→σ[site]?=some .free) {v:AVal} {c:Cls} (h:execI O byref tm σ site ins=some (v,σ',c)):OpOk P (execOp a.eval o) w (Post base w0 I0 I β v σ'):=by
 rw [show execOp a.eval o=(do pure (.value (←Instr.makeInterface t (a.eval x))):Sem Next) by unfold execOp;rw [ho]]
 simp only [Zaa] at hc
 split at hc
 ·cases hc
 ·rename_i d hd hnd
  simp only [Option.map_eq_some_iff] at hc
  obtain ⟨y,hy,rfl⟩:=hc
  have hy':=ZaE T hy
  have hrun:∀ u,(Instr.makeInterface t u).run P w=.ok (.iface t u) w:=by
   intro u
   unfold Instr.makeInterface
   rw [Sem.run_bind,run_underlying hnd]
   simp only [Result.andThen_ok]
   cases d <;> first | rfl | exact absurd rfl (hd _)
  simp only [execI] at h
  split at h
  ·cases h
  ·cases h
  ·cases h
  ·simp only [Option.some.injEq,Prod.mk.injEq] at h
   obtain ⟨rfl,rfl,rfl⟩:=h
   exact OpOk.val ⟨_,w,hrun _,Post.here R (by simp only [VR];exact ⟨_,rfl,hy'⟩)⟩
 ·cases hc
set_option maxHeartbeats 1000000 in
theorem ZwU {O:ZR} (hO:ZaN P O) {byref:Nat→Bool} {an:Ann} {a:Act} {o:Oper} {own:Nat} {ins:Ins} (x:Operand) (ho:o.op=.panic x) (hc:Zaa P an own (.panic x)=some ins) (T:TR I β tm a.tmps) (R:Rel base w0 I0 I β σ w) (hb:KLt base w0)
  {site:Nat} (hsite:nsite ins≠0→σ[site]?=some .free) {v:AVal} {c:Cls} (h:execI O byref tm σ site ins=some (v,σ',c)):OpR P (execOp a.eval o) w base w0 I0 I β v σ':=by
 rw [show execOp a.eval o=(do pure (.value (←Instr.panic (a.eval x))):Sem Next) by unfold execOp;rw [ho]]
 simp only [Zaa] at hc
 simp only [Option.map_eq_some_iff] at hc
 obtain ⟨y,hy,rfl⟩:=hc
 have hy':=ZaE T hy
 simp only [execI] at h
 split at h
 ·rename_i t1 x1 e
  rw [e] at hy'
  simp only [Option.some.injEq,Prod.mk.injEq] at h
  obtain ⟨rfl,rfl,rfl⟩:=h
  refine Or.inr ⟨_,rfl,Or.inl ⟨a.eval x,w,?_,Post.here R hy'⟩⟩
  simp only [VR] at hy'
  obtain ⟨u,hu,_⟩:=hy'
  simp [hu,Instr.panic,goPanic]
 ·cases h
set_option maxHeartbeats 1000000 in
theorem ZB7 {O:ZR} (hO:ZaN P O) {byref:Nat→Bool} {an:Ann} {a:Act} {o:Oper} {own:Nat} {ins:Ins} (t:TypeId) (x:Operand) (ho:o.op=.range t x) (hc:Zaa P an own (.range t x)=some ins) (T:TR I β tm a.tmps) (R:Rel base w0 I0 I β σ w) (hb:KLt base w0)
  {site:Nat} (hsite:nsite ins≠0→σ[site]?=some .free) {v:AVal} {c:Cls} (h:execI O byref tm σ site ins=some (v,σ',c)):OpOk P (execOp a.eval o) w (Post base w0 I0 I β v σ'):=by
 rw [show execOp a.eval o=(do pure (.value (←Instr.range t (a.eval x))):Sem Next) by unfold execOp;rw [ho]]
 simp only [Zaa] at hc
 split at hc
 case h_2=>cases hc
 rename_i ht
 simp only [Option.map_eq_some_iff] at hc
 obtain ⟨y,hy,rfl⟩:=hc
 have hy':=ZaE T hy
 simp only [execI] at h
 split at h
 case h_2=>cases h
 rename_i l e
 simp only [Option.some.injEq,Prod.mk.injEq] at h
 obtain ⟨rfl,rfl,rfl⟩:=h
 rw [e] at hy'
 simp only [VR] at hy'
 rw [hy'.1]
 exact OpOk.val (ZG8 R hb ht (hsite (by simp [nsite])))
set_option maxHeartbeats 1000000 in
theorem ZHo {O:ZR} (hO:ZaN P O) {byref:Nat→Bool} {an:Ann} {a:Act} {o:Oper} {own:Nat} {ins:Ins} (x:Operand) (str:Bool) (ho:o.op=.next x str) (hc:Zaa P an own (.next x str)=some ins) (T:TR I β tm a.tmps) (R:Rel base w0 I0 I β σ w) (hb:KLt base w0)
  {site:Nat} (hsite:nsite ins≠0→σ[site]?=some .free) {v:AVal} {c:Cls} (h:execI O byref tm σ site ins=some (v,σ',c)):OpOk P (execOp a.eval o) w (Post base w0 I0 I β v σ'):=by
 rw [show execOp a.eval o=(do pure (.value (←Instr.next (a.eval x) str o.type)):Sem Next) by unfold execOp;rw [ho]]
 simp only [Zaa] at hc
 cases str
 case false=>cases hc
 simp only [Option.map_eq_some_iff] at hc
 obtain ⟨y,hy,rfl⟩:=hc
 have hy':=ZaE T hy
 simp only [execI] at h
 split at h
 case h_2=>cases h
 rename_i t e
 rw [e] at hy'
 split at h
 case h_2=>cases h
 rename_i l p hs
 obtain ⟨u,w',h1,h2⟩:=ZIj (P:=P) R hs hy' o.type
 split at h
 ·rename_i hp
  rw [if_pos hp] at h2
  simp only [Option.some.injEq,Prod.mk.injEq] at h
  obtain ⟨rfl,rfl,rfl⟩:=h
  exact OpOk.val ⟨u,w',h1,h2⟩
 ·rename_i hp
  rw [if_neg hp] at h2
  simp only [Option.some.injEq,Prod.mk.injEq] at h
  obtain ⟨rfl,rfl,rfl⟩:=h
  exact OpOk.val ⟨u,w',h1,h2⟩
set_option maxHeartbeats 1000000 in
theorem ZAq {O:ZR} (hO:ZaN P O) {byref:Nat→Bool} {an:Ann} {a:Act} {o:Oper} {own:Nat} {ins:Ins} (cl:Call) (ho:o.op=.call cl) (hc:Zaa P an own (.call cl)=some ins) (T:TR I β tm a.tmps) (R:Rel base w0 I0 I β σ w) (hb:KLt base w0)
  {site:Nat} (hsite:nsite ins≠0→σ[site]?=some .free) {v:AVal} {c:Cls} (h:execI O byref tm σ site ins=some (v,σ',c)):OpR P (execOp a.eval o) w base w0 I0 I β v σ':=by
 rw [show execOp a.eval o=(do let d ←resolve a.eval cl o.type;invoke d.target d.args:Sem Next) by unfold execOp;rw [ho]]
 simp only [Zaa] at hc
 unfold Zqb at hc
 split at hc
 ·cases hc
 rename_i args hargs
 have hav:=ZjU T hargs
 obtain ⟨callee,cargs,ctypes⟩:=cl
 simp only at hc hargs hav
 have hmap:(cargs.toList.map a.eval)=(cargs.map a.eval).toList:=by simp
 split at hc
 ·rename_i f
  injection hc with hc;subst hc
  simp only [execI] at h
  obtain ⟨⟨fn,f1,f2,f3⟩,g2⟩:=Zl4 hO R hb (vs:=cargs.map a.eval) (by rw [←hmap];exact hav) (fun ho=>hsite (by simp [nsite,ho])) h
  exact OpR.of_call (by simp [resolve,Act.eval,Deferred.ofValue,invoke,Zkl f1 f2 f3]) g2
 ·rename_i t
  injection hc with hc;subst hc
  simp only [execI] at h
  split at h
  ·rename_i f caps hf
   have hfv:=ZaE (x:=.tmp t) T rfl
   rw [hf] at hfv
   simp only [VR] at hfv
   obtain ⟨fs,us,hus,h0,hcaps⟩:=hfv
   by_cases hlt:f < 1000000
   ·simp only [if_pos hlt] at h hus h0
    subst h0
    obtain ⟨⟨fn,f1,f2,f3⟩,g2⟩:=Zl4 hO R hb (vs:=cargs.map a.eval++us) (by rw [Array.toList_append,←hmap];exact Zcs hav (by simpa using hcaps)) (fun ho=>absurd ho (by decide)) h
    exact OpR.of_call (by simp [resolve,hus,Deferred.ofValue,invoke,Zkl f1 f2 f3]) g2
   ·simp only [if_neg hlt] at h hus h0
    subst h0
    obtain ⟨⟨fn,f1,f2,f3⟩,g2⟩:=Zl4 hO R hb (vs:=fs++cargs.map a.eval) (by rw [Array.toList_append,←hmap];exact Zcs (by simpa using hcaps) hav) (fun ho=>absurd ho (by decide)) h
    exact OpR.of_call (by simp [resolve,hus,Deferred.ofValue,invoke,Zkl f1 f2 f3]) g2
  ·cases h
 ·refine Or.inl ?_
  split at hc
  ·rename_i t u x y hty
   split at hc
   ·rename_i k bytes z he
    obtain ⟨e,i,vz,hu,hi,hik,hib,hvz,hz,hk,hby,hzl⟩:=Zh9 he
    obtain ⟨hz1,hz2⟩:=ZfA (I:=I) (β:=β) hz
    have hzs:vz.cells.size=i.size:=by rw [ZgQ (ZeT hz) hz1,hzl,hik]
    have hargs2:∃ ox oy,cargs=#[ox,oy]∧Zax ox=some x∧Zax oy=some y:=by
     obtain ⟨l⟩:=cargs
     match l,hargs with
     | [],hargs=>simp [ZcR] at hargs
     | [ox],hargs =>
      simp only [ZcR] at hargs
      split at hargs
      ·simp at hargs
      ·cases hargs
     | [ox,oy],hargs =>
      simp only [ZcR] at hargs
      split at hargs
      ·rename_i x1 hx1
       split at hargs
       ·rename_i l2 hl2
        split at hl2
        ·rename_i y1 hy1
         simp only [Option.some.injEq] at hl2 hargs
         subst hl2
         simp only [List.cons.injEq,and_true] at hargs
         obtain ⟨rfl,rfl⟩:=hargs
         exact ⟨ox,oy,rfl,hx1,hy1⟩
        ·cases hl2
       ·cases hargs
      ·cases hargs
     | ox::oy::oz::r,hargs=>have:=ZaW hav;simp at this
    obtain ⟨ox,oy,rfl,hx,hy⟩:=hargs2
    have htys:ctypes=#[t,u]:=by
     obtain ⟨l⟩:=ctypes
     simpa using hty
    subst htys
    have fin:ZiG P t u e i vz→Zbk σ site k bytes (x.ev tm) (y.ev tm)=some (v,σ',c)→OpOk P (do let d ←resolve a.eval { callee:=.builtin .append,args:=#[ox,oy],argTypes:=#[t,u] } o.type;invoke d.target d.args) w (Post base w0 I0 I β v σ'):=by
     intro TT h
     rw [←hik,←hib] at h
     have hns:nsite ins≠0:=by
      split at hc
      ·injection hc with hc;subst hc;simp [nsite]
      ·split at hc
       ·injection hc with hc;subst hc;simp [nsite]
       ·cases hc
      ·cases hc
     obtain ⟨vr,w1,h1,h2⟩:=ZCs (ty:=o.type) TT R hb (ZaE T hx) (ZaE T hy) (hsite hns) h
     exact Or.inl ⟨vr,w1,by simp [resolve,invoke,builtin,h1],h2⟩
    split at hc
    ·rename_i e' hu2
     injection hc with hc;subst hc
     simp only [execI] at h
     exact fin ⟨hu,Or.inl ⟨e',hu2⟩,hi,hvz,hzs,by omega,by omega⟩ h
    ·rename_i hu2
     split at hc
     ·injection hc with hc;subst hc
      simp only [execI] at h
      exact fin ⟨hu,Or.inr hu2,hi,hvz,hzs,by omega,by omega⟩ h
     ·cases hc
    ·cases hc
   ·cases hc
  ·cases hc
 ·refine Or.inl ?_
  split at hc
  ·rename_i t x hty
   have hargs2:∃ ox,cargs=#[ox]∧Zax ox=some x:=by
    obtain ⟨l⟩:=cargs
    match l,hargs with
    | [],hargs=>simp [ZcR] at hargs
    | [ox],hargs =>
     simp only [ZcR] at hargs
     split at hargs
     ·rename_i x1 hx1
      simp only [Option.some.injEq,List.cons.injEq,and_true] at hargs
      subst hargs
      exact ⟨ox,rfl,hx1⟩
     ·cases hargs
    | ox::oy::r,hargs =>
     have:=ZaW hav
     simp at this
   obtain ⟨ox,rfl,hx⟩:=hargs2
   have htys:ctypes=#[t]:=by
    obtain ⟨l⟩:=ctypes
    simpa using hty
   subst htys
   have hx':=ZaE T hx
   split at hc
   ·rename_i e hu
    injection hc with hc;subst hc
    simp only [execI] at h
    split at h
    ·rename_i b xs hh
     rw [hh] at hx';simp only [VR] at hx'
     obtain ⟨A,cap,hv,_⟩:=hx'
     simp only [Option.some.injEq,Prod.mk.injEq] at h
     obtain ⟨rfl,rfl,rfl⟩:=h
     refine Or.inl ⟨.int .i64 xs.length,w,?_,Post.here R (by simp only [VR])⟩
     simp [resolve,invoke,builtin,hv,Builtin.len_,run_underlying hu,goInt]
    ·rename_i t' g lo n hh
     rw [hh] at hx';simp only [VR] at hx'
     obtain ⟨bi,_,hle,_,hv⟩:=hx'
     simp only [Option.some.injEq,Prod.mk.injEq] at h
     obtain ⟨rfl,rfl,rfl⟩:=h
     refine Or.inl ⟨.int .i64 n,w,?_,Post.here R (by simp only [VR])⟩
     rcases hv with ⟨b,_,hv⟩ | ⟨_,hc0,A,hv⟩ | ⟨_,_,hn0,A,hv⟩
     ·simp [resolve,invoke,builtin,hv,Builtin.len_,run_underlying hu,goInt]
     ·have : n=0:=by omega
      subst this
      simp [resolve,invoke,builtin,hv,Builtin.len_,run_underlying hu,goInt]
     ·subst hn0
      simp [resolve,invoke,builtin,hv,Builtin.len_,run_underlying hu,goInt]
    ·cases h
   ·rename_i hu
    injection hc with hc;subst hc
    simp only [execI] at h
    split at h
    ·rename_i l hh
     rw [hh] at hx';simp only [VR] at hx'
     simp only [Option.some.injEq,Prod.mk.injEq] at h
     obtain ⟨rfl,rfl,rfl⟩:=h
     refine Or.inl ⟨.int .i64 l.length,w,?_,Post.here R (by simp only [VR])⟩
     have hsz:ByteArray.size ⟨l.toArray⟩=l.length:=by simp [ByteArray.size]
     simp [resolve,invoke,builtin,hx'.1,Builtin.len_,run_underlying hu,goInt,hsz]
    ·cases h
   ·cases hc
  ·cases hc
 ·refine Or.inl ?_
  split at hc
  ·rename_i t x hty
   have hargs2:∃ ox,cargs=#[ox]∧Zax ox=some x:=by
    obtain ⟨l⟩:=cargs
    match l,hargs with
    | [],hargs=>simp [ZcR] at hargs
    | [ox],hargs =>
     simp only [ZcR] at hargs
     split at hargs
     ·rename_i x1 hx1
      simp only [Option.some.injEq,List.cons.injEq,and_true] at hargs
      subst hargs
      exact ⟨ox,rfl,hx1⟩
     ·cases hargs
    | ox::oy::r,hargs =>
     have:=ZaW hav
     simp at this
   obtain ⟨ox,rfl,hx⟩:=hargs2
   have htys:ctypes=#[t]:=by
    obtain ⟨l⟩:=ctypes
    simpa using hty
   subst htys
   split at hc
   ·rename_i k bytes z he
    injection hc with hc;subst hc
    simp only [execI] at h
    obtain ⟨vr,w1,h1,h2⟩:=ZJ4 (ty:=o.type) R he (ZaE T hx) h
    exact Or.inl ⟨vr,w1,by simp [resolve,invoke,builtin,h1],h2⟩
   ·cases hc
  ·cases hc
 ·refine Or.inl ?_
  split at hc
  ·rename_i hl2
   injection hc with hc;subst hc
   simp only [execI] at h
   split at h
   ·rename_i k p k' q hh
    rw [hh] at hav
    simp only [VRs,VR] at hav
    obtain ⟨v1,vs1,e1,rfl,v2,vs2,rfl,rfl,rfl⟩:=hav
    simp only [Option.some.injEq,Prod.mk.injEq] at h
    obtain ⟨rfl,rfl,rfl⟩:=h
    have hca:cargs.map a.eval=#[.int k p,.int k' q]:=by
     apply Array.ext'
     simpa using e1
    refine Or.inl ⟨_,w,?_,Post.here R (by simp only [VR];rfl)⟩
    simp [resolve,invoke,builtin,hca,Builtin.max_,Builtin.max2]
   ·cases h
  ·cases hc
 ·refine Or.inl ?_
  split at hc
  ·rename_i hl2
   injection hc with hc;subst hc
   simp only [execI] at h
   split at h
   ·rename_i k p k' q hh
    rw [hh] at hav
    simp only [VRs,VR] at hav
    obtain ⟨v1,vs1,e1,rfl,v2,vs2,rfl,rfl,rfl⟩:=hav
    simp only [Option.some.injEq,Prod.mk.injEq] at h
    obtain ⟨rfl,rfl,rfl⟩:=h
    have hca:cargs.map a.eval=#[.int k p,.int k' q]:=by
     apply Array.ext'
     simpa using e1
    refine Or.inl ⟨_,w,?_,Post.here R (by simp only [VR];rfl)⟩
    simp [resolve,invoke,builtin,hca,Builtin.min_,Builtin.min2]
   ·cases h
  ·cases hc
 ·cases hc
theorem ZCV {O:ZR} (hO:ZaN P O) {byref:Nat→Bool} {an:Ann} {a:Act} {o:Oper} {own:Nat} {ins:Ins} (hc:Zaa P an own o.op=some ins) (T:TR I β tm a.tmps) (R:Rel base w0 I0 I β σ w) (hb:KLt base w0)
  {site:Nat} (hsite:nsite ins≠0→σ[site]?=some .free) {v:AVal} {c:Cls} (h:execI O byref tm σ site ins=some (v,σ',c)):OpR P (execOp a.eval o) w base w0 I0 I β v σ':=by
 cases ho:o.op <;> rw [ho] at hc <;> first
  | exact Or.inl (Zzp hO _ ho hc T R hb hsite h)
  | exact Or.inl (ZFZ hO _ ho hc T R hb hsite h)
  | exact Or.inl (ZGR hO _ _ _ ho hc T R hb hsite h)
  | exact Or.inl (ZDa hO _ ho hc T R hb hsite h)
  | exact Or.inl (ZC9 hO _ _ ho hc T R hb hsite h)
  | exact Or.inl (Zyf hO _ _ ho hc T R hb hsite h)
  | exact Or.inl (Zz5 hO _ _ _ ho hc T R hb hsite h)
  | exact Or.inl (ZEy hO _ _ ho hc T R hb hsite h)
  | exact Or.inl (ZLE hO _ _ _ ho hc T R hb hsite h)
  | exact Or.inl (ZNc hO _ ho hc T R hb hsite h)
  | exact Or.inl (ZC5 hO _ _ _ _ _ ho hc T R hb hsite h)
  | exact Or.inl (ZMw hO _ _ _ ho hc T R hb hsite h)
  | exact Or.inl (ZDj hO _ _ _ ho hc T R hb hsite h)
  | exact Or.inl (Zxg hO _ _ _ _ _ ho hc T R hb hsite h)
  | exact Or.inl (Zzj hO _ _ _ ho hc T R hb hsite h)
  | exact Or.inl (Zvs hO _ _ _ ho hc T R hb hsite h)
  | exact Or.inl (ZDl hO _ _ _ ho hc T R hb hsite h)
  | exact Or.inl (ZDD hO _ _ _ ho hc T R hb hsite h)
  | exact Or.inl (ZLb hO _ _ ho hc T R hb hsite h)
  | exact Or.inl (ZBh hO _ _ _ ho hc T R hb hsite h)
  | exact Or.inl (ZJg hO _ _ _ ho hc T R hb hsite h)
  | exact Or.inl (ZJm hO _ _ ho hc T R hb hsite h)
  | exact ZwU hO _ ho hc T R hb hsite h
  | exact Or.inl (ZB7 hO _ _ ho hc T R hb hsite h)
  | exact Or.inl (ZHo hO _ _ ho hc T R hb hsite h)
  | exact ZAq hO _ ho hc T R hb hsite h
  | (simp only [Zaa] at hc;cases hc;done)
end
end Go.Proofs.YtmlkhhidifjjfaaDoor
namespace Go.Proofs.YtmlkhhidifjjfaaDoor
open Go.RowKit
section
variable {O:ZR} {byref:Nat→Bool} {tm tm':Tms} {σ σ' σ2:Za} {site:Nat}
theorem Opd.ev_congr {x:Opd} (h:∀ n ∈ x.reads,tget tm n=tget tm' n):x.ev tm=x.ev tm':=by
 cases x with
 | t n=>exact h n (by simp [Opd.reads])
 | c v=>rfl
theorem ZjG {xs:List Opd} (h:∀ n ∈ xs.flatMap Opd.reads,tget tm n=tget tm' n):(xs.map fun x=>x.ev tm)=xs.map fun x=>x.ev tm':=by
 apply List.map_congr_left
 intro x hx
 exact Opd.ev_congr fun n hn=>h n (List.mem_flatMap.2 ⟨x,hx,hn⟩)
theorem Zir {x:Option Opd} (h:∀ n ∈ Zhq x,tget tm n=tget tm' n):(x.map fun x=>x.ev tm)=x.map fun x=>x.ev tm':=by
 cases x with
 | none=>rfl
 | some x=>simp only [Option.map_some];rw [Opd.ev_congr (x:=x) h]
set_option maxHeartbeats 1000000 in
theorem ZkN {ins:Ins} (h:∀ n ∈ ins.reads,tget tm n=tget tm' n):execI O byref tm σ site ins=execI O byref tm' σ site ins:=by
 cases ins with
 | alloc zs=>rfl
 | build zs ps =>
  have : (ps.map fun p=>(p.1,p.2.1,p.2.2.ev tm))=ps.map fun p=>(p.1,p.2.1,p.2.2.ev tm'):=by
   apply List.map_congr_left
   intro p hp
   rw [Opd.ev_congr (x:=p.2.2) fun n hn=>h n (by simp only [Ins.reads];exact List.mem_flatMap.2 ⟨p,hp,hn⟩)]
  simp only [execI,this]
 | bslice own k n z ps =>
  have : (ps.map fun p=>p.2.ev tm)=ps.map fun p=>p.2.ev tm':=by
   apply List.map_congr_left
   intro p hp
   rw [Opd.ev_congr (x:=p.2) fun n hn=>h n (by simp only [Ins.reads];exact List.mem_flatMap.2 ⟨p,hp,hn⟩)]
  simp only [execI,this]
 | rslice k n z ps =>
  have h0:∀ p ∈ ps,p.2.ev tm=p.2.ev tm':=fun p hp=>Opd.ev_congr (x:=p.2) fun n hn=>h n (by simp only [Ins.reads];exact List.mem_flatMap.2 ⟨p,hp,hn⟩)
  have h1:(ps.map fun p=>(p.1,p.2.ev tm))=ps.map fun p=>(p.1,p.2.ev tm'):=List.map_congr_left fun p hp=>by rw [h0 p hp]
  have h2:(ps.all fun p=>(p.2.ev tm).cells.length == k && (p.2.ev tm).cells.all ZD)=ps.all fun p=>(p.2.ev tm').cells.length == k && (p.2.ev tm').cells.all ZD:=by
   rw [Bool.eq_iff_iff,List.all_eq_true,List.all_eq_true]
   exact ⟨fun h p hp=>by rw [←h0 p hp];exact h p hp,fun h p hp=>by rw [h0 p hp];exact h p hp⟩
  simp only [execI,h1,h2]
 | rng x=>simp only [execI,Opd.ev_congr (x:=x) h]
 | nxt x=>simp only [execI,Opd.ev_congr (x:=x) h]
 | mov x=>simp only [execI,Opd.ev_congr (x:=x) h]
 | box x=>simp only [execI,Opd.ev_congr (x:=x) h]
 | un op x=>simp only [execI,Opd.ev_congr (x:=x) h]
 | i2i k x=>simp only [execI,Opd.ev_congr (x:=x) h]
 | i2s x=>simp only [execI,Opd.ev_congr (x:=x) h]
 | clr k z x=>simp only [execI,Opd.ev_congr (x:=x) h]
 | same x=>simp only [execI,Opd.ev_congr (x:=x) h]
 | s2b x=>simp only [execI,Opd.ev_congr (x:=x) h]
 | b2s x=>simp only [execI,Opd.ev_congr (x:=x) h]
 | s2s x=>simp only [execI,Opd.ev_congr (x:=x) h]
 | faddr o x=>simp only [execI,Opd.ev_congr (x:=x) h]
 | field k o x=>simp only [execI,Opd.ev_congr (x:=x) h]
 | ext x i=>simp only [execI,Opd.ev_congr (x:=x) h]
 | len x=>simp only [execI,Opd.ev_congr (x:=x) h]
 | slen x=>simp only [execI,Opd.ev_congr (x:=x) h]
 | nilchk x=>simp only [execI,Opd.ev_congr (x:=x) h]
 | mki t x=>simp only [execI,Opd.ev_congr (x:=x) h]
 | panic x=>simp only [execI,Opd.ev_congr (x:=x) h]
 | ld k x=>simp only [execI,Opd.ev_congr (x:=x) h]
 | pick c a b =>
  simp only [Ins.reads,List.mem_append] at h
  simp only [execI,Opd.ev_congr (x:=c) fun n hn=>h n (Or.inl (Or.inl hn)),Opd.ev_congr (x:=a) fun n hn=>h n (Or.inl (Or.inr hn)),Opd.ev_congr (x:=b) fun n hn=>h n (Or.inr hn)]
 | st k x y=>simp only [Ins.reads,List.mem_append] at h;simp only [execI,Opd.ev_congr (x:=x) fun n hn=>h n (Or.inl hn),Opd.ev_congr (x:=y) fun n hn=>h n (Or.inr hn)]
 | bin k x y=>simp only [Ins.reads,List.mem_append] at h;simp only [execI,Opd.ev_congr (x:=x) fun n hn=>h n (Or.inl hn),Opd.ev_congr (x:=y) fun n hn=>h n (Or.inr hn)]
 | iaddr k x y=>simp only [Ins.reads,List.mem_append] at h;simp only [execI,Opd.ev_congr (x:=x) fun n hn=>h n (Or.inl hn),Opd.ev_congr (x:=y) fun n hn=>h n (Or.inr hn)]
 | aaddr k n x y=>simp only [Ins.reads,List.mem_append] at h;simp only [execI,Opd.ev_congr (x:=x) fun n hn=>h n (Or.inl hn),Opd.ev_congr (x:=y) fun n hn=>h n (Or.inr hn)]
 | sindex x y=>simp only [Ins.reads,List.mem_append] at h;simp only [execI,Opd.ev_congr (x:=x) fun n hn=>h n (Or.inl hn),Opd.ev_congr (x:=y) fun n hn=>h n (Or.inr hn)]
 | aindex s k n x y=>simp only [Ins.reads,List.mem_append] at h;simp only [execI,Opd.ev_congr (x:=x) fun n hn=>h n (Or.inl hn),Opd.ev_congr (x:=y) fun n hn=>h n (Or.inr hn)]
 | app k b z x y=>simp only [Ins.reads,List.mem_append] at h;simp only [execI,Opd.ev_congr (x:=x) fun n hn=>h n (Or.inl hn),Opd.ev_congr (x:=y) fun n hn=>h n (Or.inr hn)]
 | mkslice k b z x y=>simp only [Ins.reads,List.mem_append] at h;simp only [execI,Opd.ev_congr (x:=x) fun n hn=>h n (Or.inl hn),Opd.ev_congr (x:=y) fun n hn=>h n (Or.inr hn)]
 | beq k x y=>simp only [Ins.reads,List.mem_append] at h;simp only [execI,Opd.ev_congr (x:=x) fun n hn=>h n (Or.inl hn),Opd.ev_congr (x:=y) fun n hn=>h n (Or.inr hn)]
 | peq k x y=>simp only [Ins.reads,List.mem_append] at h;simp only [execI,Opd.ev_congr (x:=x) fun n hn=>h n (Or.inl hn),Opd.ev_congr (x:=y) fun n hn=>h n (Or.inr hn)]
 | eqv k ks x y=>simp only [Ins.reads,List.mem_append] at h;simp only [execI,Opd.ev_congr (x:=x) fun n hn=>h n (Or.inl hn),Opd.ev_congr (x:=y) fun n hn=>h n (Or.inr hn)]
 | ieq k x y=>simp only [Ins.reads,List.mem_append] at h;simp only [execI,Opd.ev_congr (x:=x) fun n hn=>h n (Or.inl hn),Opd.ev_congr (x:=y) fun n hn=>h n (Or.inr hn)]
 | slice k x lo hi mx =>
  simp only [Ins.reads,List.mem_append] at h
  simp only [execI,Opd.ev_congr (x:=x) fun n hn=>h n (Or.inl (Or.inl (Or.inl hn))),Zir (x:=lo) fun n hn=>h n (Or.inl (Or.inl (Or.inr hn))),Zir (x:=hi) fun n hn=>h n (Or.inl (Or.inr hn)),Zir (x:=mx) fun n hn=>h n (Or.inr hn)]
 | sslice x lo hi =>
  simp only [Ins.reads,List.mem_append] at h
  simp only [execI,Opd.ev_congr (x:=x) fun n hn=>h n (Or.inl (Or.inl hn)),Zir (x:=lo) fun n hn=>h n (Or.inl (Or.inr hn)),Zir (x:=hi) fun n hn=>h n (Or.inr hn)]
 | mm m xs=>simp only [Ins.reads] at h;simp only [execI,ZjG h]
 | call f own vw xs=>simp only [Ins.reads] at h;simp only [execI,ZjG h]
 | mkfn f xs=>simp only [Ins.reads] at h;simp only [execI,ZjG h]
 | callv x xs =>
  simp only [Ins.reads,List.mem_append] at h
  simp only [execI,Opd.ev_congr (x:=x) fun n hn=>h n (Or.inl hn),ZjG (xs:=xs) fun n hn=>h n (Or.inr hn)]
def Agree (σ σ2:Za) (ts:List Nat):Prop:=∀ t ∈ ts,σ2[t]?=σ[t]?
theorem Agree.left {ts us:List Nat} (h:Agree σ σ2 (ts++us)):Agree σ σ2 ts:=fun t ht=>h t (by simp [ht])
theorem Agree.right {ts us:List Nat} (h:Agree σ σ2 (ts++us)):Agree σ σ2 us:=fun t ht=>h t (by simp [ht])
theorem ZgK {a:AVal} {xs:List AVal} {ts:List Nat} (h:Z6 σ a=some (xs,ts)) (hA:Agree σ σ2 ts):Z6 σ2 a=some (xs,ts):=by
 unfold Z6 at h ⊢
 split at h
 ·exact h
 ·exact h
 ·rename_i t g lo n
  have ht:t ∈ ts:=by
   split at h
   ·split at h
    ·simp only [Option.some.injEq,Prod.mk.injEq] at h;rw [←h.2];simp
    ·cases h
   ·split at h
    ·simp only [Option.some.injEq,Prod.mk.injEq] at h;rw [←h.2];simp
    ·cases h
   ·cases h
  rw [hA t ht]
  exact h
 ·cases h
theorem Ztw {a y:AVal} {ts:List Nat} (h:ZL σ a=some (y,ts)) (hA:Agree σ σ2 ts):ZL σ2 a=some (y,ts):=by
 unfold ZL at h ⊢
 split at h
 case h_2 =>
  split at h
  ·rename_i he
   simp only [Option.some.injEq,Prod.mk.injEq] at h
   obtain ⟨rfl,rfl⟩:=h
   rw [ZgK he hA]
  ·cases h
 all_goals exact h
theorem ZsX:∀ {cs ys:List AVal} {ts:List Nat},ZaM σ cs=some (ys,ts)→Agree σ σ2 ts→ZaM σ2 cs=some (ys,ts)
 | [],ys,ts,h,_=>h
 | c::cs,ys,ts,h,hA=>by
  simp only [ZaM] at h ⊢
  split at h
  ·rename_i h1
   split at h
   ·rename_i h2
    simp only [Option.some.injEq,Prod.mk.injEq] at h
    obtain ⟨rfl,rfl⟩:=h
    rw [Ztw h1 hA.left]
    simp only
    rw [ZsX h2 hA.right]
   ·cases h
  ·cases h
theorem ZJ0 {a y:AVal} {ts:List Nat} (h:ZN σ a=some (y,ts)) (hA:Agree σ σ2 ts):ZN σ2 a=some (y,ts):=by
 unfold ZN at h ⊢
 split at h
 ·split at h
  ·rename_i h1
   simp only [Option.some.injEq,Prod.mk.injEq] at h
   obtain ⟨rfl,rfl⟩:=h
   rw [ZsX h1 hA]
  ·cases h
 ·exact Ztw h hA
theorem Zmh:∀ {cs ys:List AVal} {ts:List Nat},viewAs σ cs=some (ys,ts)→Agree σ σ2 ts→viewAs σ2 cs=some (ys,ts)
 | [],ys,ts,h,_=>h
 | c::cs,ys,ts,h,hA=>by
  simp only [viewAs] at h ⊢
  split at h
  ·rename_i h1
   split at h
   ·rename_i h2
    simp only [Option.some.injEq,Prod.mk.injEq] at h
    obtain ⟨rfl,rfl⟩:=h
    rw [ZJ0 h1 hA.left]
    simp only
    rw [Zmh h2 hA.right]
   ·cases h
  ·cases h
theorem Zss {a y:AVal} {ts:List Nat} (h:ZcL σ a=some (y,ts)) (hA:Agree σ σ2 ts):ZcL σ2 a=some (y,ts):=by
 unfold ZcL at h ⊢
 split at h
 case h_2 =>
  split at h
  ·rename_i he
   simp only [Option.some.injEq,Prod.mk.injEq] at h
   obtain ⟨rfl,rfl⟩:=h
   rw [ZgK he hA]
  ·cases h
 all_goals exact h
theorem ZuR:∀ {cs ys:List AVal} {ts:List Nat},Zcy σ cs=some (ys,ts)→Agree σ σ2 ts→Zcy σ2 cs=some (ys,ts)
 | [],ys,ts,h,_=>h
 | c::cs,ys,ts,h,hA=>by
  simp only [Zcy] at h ⊢
  split at h
  ·rename_i h1
   split at h
   ·rename_i h2
    simp only [Option.some.injEq,Prod.mk.injEq] at h
    obtain ⟨rfl,rfl⟩:=h
    rw [Zss h1 hA.left]
    simp only
    rw [ZuR h2 hA.right]
   ·cases h
  ·cases h
theorem ZAG {a y:AVal} {ts:List Nat} (h:showA σ a=some (y,ts)) (hA:Agree σ σ2 ts):showA σ2 a=some (y,ts):=by
 unfold showA at h ⊢
 split at h
 ·split at h
  ·rename_i h1
   simp only [Option.some.injEq,Prod.mk.injEq] at h
   obtain ⟨rfl,rfl⟩:=h
   rw [ZuR h1 hA]
  ·cases h
 ·exact Zss h hA
theorem Zn6:∀ {cs ys:List AVal} {ts:List Nat},showAs σ cs=some (ys,ts)→Agree σ σ2 ts→showAs σ2 cs=some (ys,ts)
 | [],ys,ts,h,_=>h
 | c::cs,ys,ts,h,hA=>by
  simp only [showAs] at h ⊢
  split at h
  ·rename_i h1
   split at h
   ·rename_i h2
    simp only [Option.some.injEq,Prod.mk.injEq] at h
    obtain ⟨rfl,rfl⟩:=h
    rw [ZAG h1 hA.left]
    simp only
    rw [Zn6 h2 hA.right]
   ·cases h
  ·cases h
def Zbj (σ:Za) (s:Nat):Option ZM→Za
 | none=>σ
 | some b=>σ.set s b
def Zga (σ:Za) (ts:List Nat):Prop:=∀ t ∈ ts,∃ x,σ[t]?=some x∧x≠.free
theorem Rowy.nonfree {ts:List Nat} (h:Rowy σ ts):Zga σ ts:=by
 intro t ht
 obtain ⟨g,k,xs,h | h⟩:=h t ht
 ·exact ⟨_,h,by simp⟩
 ·exact ⟨_,h,by simp⟩
theorem ZdN:Zga σ []:=fun t ht=>by simp at ht
theorem Zm1 {t:Nat} {x:ZM} (h:σ[t]?=some x) (hx:x≠.free):Zga σ [t]:=fun t' ht=>by
 simp at ht;subst ht;exact ⟨x,h,hx⟩
def Framed (f:Za→Option (AVal×Za×Cls)) (σ:Za) (site ns:Nat) (v:AVal) (σ':Za) (c:Cls):Prop :=
 ∃ ob,σ'=Zbj σ site ob∧(ob.isSome=true→ns≠0)∧ob≠some .free∧Zga σ c.rd∧∀ σ2,Agree σ σ2 c.rd→f σ2=some (v,Zbj σ2 site ob,c)
theorem Framed.pure {f:Za→Option (AVal×Za×Cls)} {v:AVal} {c:Cls} {ns:Nat} (hr:c.rd=[]) (hf:∀ σ2,f σ2=some (v,σ2,c)):Framed f σ site ns v σ c :=
 ⟨none,rfl,by simp,by simp,by rw [hr];exact ZdN,fun σ2 _=>hf σ2⟩
theorem ZET {k:Option Nat} {a v:AVal} {c:Cls} {ns:Nat} (h:ldA σ k a=some (v,σ',c)):Framed (fun σ=>ldA σ k a) σ site ns v σ' c:=by
 have h0:=h
 unfold ldA at h
 have fin:∀ t,σ'=σ→c.rd=[t]→(∃ x,σ[t]?=some x∧x≠.free)→(∀ σ2:Za,σ2[t]?=σ[t]?→ldA σ2 k a=(ldA σ k a).map fun p=>(p.1,σ2,p.2.2))→Framed (fun σ=>ldA σ k a) σ site ns v σ' c:=by
  intro t e1 e2 ⟨x,hx,hne⟩ hf
  subst e1
  refine ⟨none,rfl,by simp,by simp,by rw [e2];exact Zm1 hx hne,fun σ2 hA=>?_⟩
  rw [e2] at hA
  simp only
  rw [hf σ2 (hA t (by simp)),h0]
  rfl
 split at h
 ·rename_i t o
  split at h
  ·rename_i cs hs
   split at h
   ·rename_i v' hp
    simp only [Option.some.injEq,Prod.mk.injEq] at h
    obtain ⟨rfl,rfl,rfl⟩:=h
    exact fin t rfl rfl ⟨_,hs,by simp⟩ (fun σ2 h2=>by simp only [ldA,h2,hs,hp,Option.map_some])
   ·cases h
  ·cases h
 ·rename_i t g i o
  split at h
  ·rename_i g' kk xs hs
   split at h
   ·rename_i e
    split at h
    ·rename_i x hx
     split at h
     ·rename_i v' hp
      simp only [Option.some.injEq,Prod.mk.injEq] at h
      obtain ⟨rfl,rfl,rfl⟩:=h
      exact fin t rfl rfl ⟨_,hs,by simp⟩ (fun σ2 h2=>by simp only [ldA,h2,hs,e,if_true,hx,hp,Option.map_some])
     ·cases h
    ·cases h
   ·cases h
  ·rename_i g' kk xs hs
   split at h
   ·rename_i e
    split at h
    ·rename_i x hx
     split at h
     ·rename_i v' hp
      simp only [Option.some.injEq,Prod.mk.injEq] at h
      obtain ⟨rfl,rfl,rfl⟩:=h
      exact fin t rfl rfl ⟨_,hs,by simp⟩ (fun σ2 h2=>by simp only [ldA,h2,hs,e,if_true,hx,hp,Option.map_some])
     ·cases h
    ·cases h
   ·cases h
  ·rename_i g' kk xs hs
   split at h
   ·rename_i e
    split at h
    ·rename_i x hx
     split at h
     ·rename_i v' hp
      simp only [Option.some.injEq,Prod.mk.injEq] at h
      obtain ⟨rfl,rfl,rfl⟩:=h
      exact fin t rfl rfl ⟨_,hs,by simp⟩ (fun σ2 h2=>by simp only [ldA,h2,hs,e,if_true,hx,hp,Option.map_some])
     ·cases h
    ·cases h
   ·cases h
  ·cases h
 ·rename_i cs o
  split at h
  ·rename_i v' hp
   simp only [Option.some.injEq,Prod.mk.injEq] at h
   obtain ⟨rfl,rfl,rfl⟩:=h
   exact Framed.pure rfl (fun σ2=>by simp only [ldA,hp])
  ·cases h
 ·cases h
theorem ZBZ {k:Nat} {x i v:AVal} {c:Cls} {ns:Nat} (h:ZdA σ k x i=some (v,σ',c)):Framed (fun σ=>ZdA σ k x i) σ site ns v σ' c:=by
 have h0:=h
 unfold ZdA at h
 split at h
 case h_2=>cases h
 rename_i kk ii
 split at h
 case isFalse=>cases h
 rename_i hi
 split at h
 ·rename_i b xs
  split at h
  ·rename_i y hy
   split at h
   ·rename_i hk
    simp only [Option.some.injEq,Prod.mk.injEq] at h
    obtain ⟨rfl,rfl,rfl⟩:=h
    exact Framed.pure rfl (fun σ2=>by simp only [ZdA,hi,if_true,hy,hk])
   ·cases h
  ·cases h
 ·rename_i t g p n
  split at h
  case isFalse=>cases h
  rename_i hn
  have fin:σ'=σ→c.rd=[t]→(∃ x,σ[t]?=some x∧x≠.free)→Framed (fun σ=>ZdA σ k (.sl t g p n) (.int kk ii)) σ site ns v σ' c:=by
   intro e1 e2 ⟨x,hx,hne⟩
   subst e1
   refine ⟨none,rfl,by simp,by simp,by rw [e2];exact Zm1 hx hne,fun σ2 hA=>?_⟩
   rw [e2] at hA
   have h2:=hA t (by simp)
   simp only [ZdA,hi,if_true,hn] at h0 ⊢
   rw [h2]
   split at h0
   ·split at h0
    ·rename_i hc
     simp only [Option.some.injEq,Prod.mk.injEq] at h0
     obtain ⟨rfl,_,rfl⟩:=h0
     rename_i hs
     simp only [hc,and_self,if_true]
     rfl
    ·cases h0
   ·split at h0
    ·rename_i hc
     simp only [Option.some.injEq,Prod.mk.injEq] at h0
     obtain ⟨rfl,_,rfl⟩:=h0
     rename_i hs
     simp only [hc,and_self,if_true]
     rfl
    ·cases h0
   ·split at h0
    ·rename_i hc
     simp only [Option.some.injEq,Prod.mk.injEq] at h0
     obtain ⟨rfl,_,rfl⟩:=h0
     rename_i hs
     simp only [hc,and_self,if_true]
     rfl
    ·cases h0
   ·cases h0
  split at h
  ·rename_i hs
   split at h
   ·simp only [Option.some.injEq,Prod.mk.injEq] at h
    exact fin h.2.1.symm (by rw [←h.2.2]) ⟨_,hs,by simp⟩
   ·cases h
  ·rename_i hs
   split at h
   ·simp only [Option.some.injEq,Prod.mk.injEq] at h
    exact fin h.2.1.symm (by rw [←h.2.2]) ⟨_,hs,by simp⟩
   ·cases h
  ·rename_i hs
   split at h
   ·simp only [Option.some.injEq,Prod.mk.injEq] at h
    exact fin h.2.1.symm (by rw [←h.2.2]) ⟨_,hs,by simp⟩
   ·cases h
  ·cases h
 ·cases h
end
end Go.Proofs.YtmlkhhidifjjfaaDoor
namespace Go.Proofs.YtmlkhhidifjjfaaDoor
open Go.RowKit
section
variable {O:ZR} {byref:Nat→Bool} {tm tm':Tms} {σ σ' σ2:Za} {site:Nat}
theorem Framed.one {f:Za→Option (AVal×Za×Cls)} {v:AVal} {c:Cls} {ns t:Nat} (hr:c.rd=[t]) (hn:∃ x,σ[t]?=some x∧x≠.free) (hf:∀ σ2:Za,σ2[t]?=σ[t]?→f σ2=some (v,σ2,c)):Framed f σ site ns v σ c:=by
 obtain ⟨x,hx,hne⟩:=hn
 exact ⟨none,rfl,by simp,by simp,by rw [hr];exact Zm1 hx hne,fun σ2 hA=>hf σ2 (hA t (by rw [hr];simp))⟩
theorem ZKs {k:Nat} {x v:AVal} {lo hi mx:Option AVal} {c:Cls} {ns:Nat} (h:ZbX σ k x lo hi mx=some (v,σ',c)) (hw:c.wr=[]):Framed (fun σ=>ZbX σ k x lo hi mx) σ site ns v σ' c:=by
 unfold ZbX at h
 split at h
 ·rename_i b xs
  split at h
  ·cases h
  rename_i m hm
  split at h
  ·cases h
  rename_i h' hh
  split at h
  ·cases h
  rename_i l hl
  split at h
  case isFalse=>cases h
  rename_i hk0
  split at h
  ·rename_i hmx
   simp only [Option.some.injEq,Prod.mk.injEq] at h
   obtain ⟨rfl,rfl,rfl⟩:=h
   exact Framed.pure rfl (fun σ2=>by simp only [ZbX,hm,hh,hl,hk0,if_true,hmx])
  ·rename_i hmx
   simp only [Option.some.injEq,Prod.mk.injEq] at h
   obtain ⟨rfl,rfl,rfl⟩:=h
   exact Framed.pure rfl (fun σ2=>by simp only [ZbX,hm,hh,hl,hk0,if_true,hmx,if_false,Bool.false_eq_true])
 ·rename_i t g p n
  split at h
  ·cases h
  rename_i els hels
  have hnf:∃ x,σ[t]?=some x∧x≠.free:=by
   simp only [Z6] at hels
   split at hels
   ·rename_i hs;exact ⟨_,hs,by simp⟩
   ·rename_i hs;exact ⟨_,hs,by simp⟩
   ·cases hels
  have hel2:∀ σ2:Za,σ2[t]?=σ[t]?→Z6 σ2 (.sl t g p n)=some els:=by
   intro σ2 h2
   rw [←hels]
   simp only [Z6,h2]
  split at h
  ·rename_i m0
   split at h
   ·rename_i q1 hq1
    split at h
    ·rename_i q2 hq2
     split at h
     ·rename_i q3 hq3
      simp only [Option.some.injEq,Prod.mk.injEq] at h
      obtain ⟨rfl,rfl,rfl⟩:=h
      exact Framed.one rfl hnf (fun σ2 h2=>by simp only [ZbX,hel2 σ2 h2,hq1,hq2,hq3])
     ·cases h
    ·cases h
   ·cases h
  ·split at h
   ·rename_i g' k' xs hs
    split at h
    case isFalse=>cases h
    rename_i hkk
    split at h
    ·cases h
    rename_i h' hh
    split at h
    ·cases h
    rename_i l hl
    simp only [Option.some.injEq,Prod.mk.injEq] at h
    obtain ⟨rfl,rfl,rfl⟩:=h
    exact Framed.one rfl hnf (fun σ2 h2=>by simp only [ZbX,hel2 σ2 h2,h2,hs,hkk,if_true,hh,hl])
   ·rename_i g' k' xs hs
    split at h
    case isFalse=>cases h
    rename_i hkk
    split at h
    ·cases h
    rename_i h' hh
    split at h
    ·cases h
    rename_i l hl
    simp only [Option.some.injEq,Prod.mk.injEq] at h
    obtain ⟨rfl,rfl,rfl⟩:=h
    exact Framed.one rfl hnf (fun σ2 h2=>by simp only [ZbX,hel2 σ2 h2,h2,hs,hkk,if_true,hh,hl])
   ·cases h
 ·cases h
theorem ZM6 {k bytes:Nat} {x y v:AVal} {c:Cls} (h:Zg4 σ site k bytes x y=some (v,σ',c)):c.any=true:=by
 unfold Zg4 at h
 repeat' (split at h)
 all_goals first
  | (cases h;done)
  | (simp only [Option.some.injEq,Prod.mk.injEq] at h;rw [←h.2.2])
theorem ZDi {k bytes:Nat} {x y v:AVal} {c:Cls} (h:Zbk σ site k bytes x y=some (v,σ',c)) (hw:c.wr=[]) (ha:c.any=false):Framed (fun σ=>Zbk σ site k bytes x y) σ site 1 v σ' c:=by
 unfold Zbk at h
 split at h
 ·rw [ZM6 h] at ha;cases ha
 rename_i ys us he
 split at h
 case isFalse=>cases h
 rename_i hk
 have hnf:=(ZkE he).nonfree
 split at h
 ·split at h
  ·rename_i hb
   simp only [Option.some.injEq,Prod.mk.injEq] at h
   obtain ⟨rfl,rfl,rfl⟩:=h
   refine ⟨some (.row 0 k ys),rfl,by simp,by simp,hnf,fun σ2 hA=>?_⟩
   simp only [Zbk,ZgK he hA,hk,if_true,hb,Zbj]
  ·cases h
 ·rename_i x0 xs0
  split at h
  ·rename_i hb
   split at h
   ·simp only [Option.some.injEq,Prod.mk.injEq] at h
    obtain ⟨rfl,rfl,rfl⟩:=h
    refine ⟨none,rfl,by simp,by simp,hnf,fun σ2 hA=>?_⟩
    simp only [Zbk,ZgK he hA,hk,if_true,Zbj]
    rw [if_pos hb]
   ·rename_i y0 ys0
    simp only [Option.some.injEq,Prod.mk.injEq] at h
    obtain ⟨rfl,rfl,rfl⟩:=h
    refine ⟨some (.row 0 k ((x0::xs0)++(y0::ys0))),rfl,by simp,by simp,hnf,fun σ2 hA=>?_⟩
    simp only [Zbk,ZgK he hA,hk,if_true,Zbj]
    rw [if_pos hb]
  ·cases h
 ·split at h
  ·split at h
   ·split at h
    ·simp only [Option.some.injEq,Prod.mk.injEq] at h
     rw [←h.2.2] at hw;simp at hw
    ·split at h
     ·simp only [Option.some.injEq,Prod.mk.injEq] at h
      rw [←h.2.2] at hw;simp at hw
     ·cases h
   ·cases h
  ·cases h
 ·cases h
theorem ZtG {σ:Za} {vs:List AVal} (h:ZA σ 1000 (Zr vs) []=[]):Zr vs=[]:=by
 cases e:Zr vs with
 | nil=>rfl
 | cons t r =>
  rw [e] at h
  simp only [ZA,List.contains_nil,Bool.false_eq_true,if_false,List.nil_append] at h
  obtain ⟨_,r',hr⟩:=Zih (σ:=σ) 999 (ZQ (σ.getD t .free)++r) [t] (by simp)
  rw [hr] at h
  simp at h
theorem Zqr {f own:Nat} {view:Bool} {args:List AVal} {v:AVal} {c:Cls} {ns:Nat} (hns:own=1→ns≠0) (h:Zj O byref σ site f own view args=some (v,σ',c)) (hw:c.wr=[]) (ha:c.any=false):Framed (fun σ=>Zj O byref σ site f own view args) σ site ns v σ' c:=by
 unfold Zj at h
 split at h
 ·cases h
 rename_i xs ts hs
 have hnf:Zga σ ts:=by
  unfold ZbU at hs
  split at hs
  ·simp only [Option.some.injEq,Prod.mk.injEq] at hs
   rw [←hs.2];exact ZdN
  ·exact (Zj2 hs).nonfree
 have hag:∀ σ2,Agree σ σ2 ts→ZbU (byref f) σ2 args=some (xs,ts):=by
  intro σ2 hA
  unfold ZbU at hs ⊢
  split at hs
  ·rename_i hb;rw [if_pos hb];exact hs
  ·rename_i hb;rw [if_neg hb];exact Zn6 hs hA
 generalize hids:ZA (Zn σ ts) 1000 (Zr xs) []=ids at h
 unfold ZbC at h
 split at h
 case isFalse=>cases h
 generalize hq:Zae view ids.length (O f (Ze (Zl (Zn σ ts) 0 ids) xs) (Zx (Zn σ ts) 0 ids (Zl (Zn σ ts) 0 ids) ids 0))=q at h
 cases q with
 | none=>simp only [ZaG] at h;cases h
 | some q =>
  obtain ⟨r,hp⟩:=q
  simp only [ZaG] at h
  split at h
  ·rename_i hc
   simp only [Bool.and_eq_true,List.isEmpty_iff] at hc
   obtain ⟨rfl,rfl⟩:=hc
   have hrl:=ZtG hids
   have hrho:∀ σ:Za,Zl σ 0 []=fun _ _=>none:=fun σ=>by funext t g;simp [Zl,Z1]
   have hall:∀ σ2,Agree σ σ2 ts→Zj O byref σ2 site f own view args=ZaG σ2 (Zn σ2 ts) [] ts site own (some (r,[])):=by
    intro σ2 hA
    unfold Zj
    rw [hag σ2 hA]
    simp only
    rw [hrl]
    have h0:ZA (Zn σ2 ts) 1000 [] []=[]:=rfl
    rw [h0]
    unfold ZbC
    simp only [List.all_nil,if_true]
    rw [hrho]
    rw [hrho] at hq
    simp only [Zx] at hq ⊢
    rw [hq]
   split at h
   ·rename_i hf
    simp only [Option.some.injEq,Prod.mk.injEq] at h
    obtain ⟨rfl,rfl,rfl⟩:=h
    refine ⟨none,rfl,by simp,by simp,hnf,fun σ2 hA=>?_⟩
    simp only
    rw [hall σ2 hA]
    simp only [ZaG,List.isEmpty_nil,Bool.and_self,if_true,hf,Zbj]
   split at h
   ·rename_i hf hap
    simp only [Option.some.injEq,Prod.mk.injEq] at h
    obtain ⟨rfl,rfl,rfl⟩:=h
    refine ⟨none,rfl,by simp,by simp,hnf,fun σ2 hA=>?_⟩
    have hap2:Zdf σ2 ts r=true:=by
     unfold Zdf at hap ⊢
     simp only [Bool.and_eq_true] at hap ⊢
     refine ⟨hap.1,List.all_eq_true.2 fun t ht=>?_⟩
     have:=List.all_eq_true.1 hap.2 t ht
     unfold Zfv at this ⊢
     rw [hA t ht];exact this
    simp only
    rw [hall σ2 hA]
    simp only [ZaG,List.isEmpty_nil,Bool.and_self,if_true,hf,hap2,Zbj,if_false,Bool.false_eq_true]
   ·rename_i hf hap
    simp only [Option.some.injEq,Prod.mk.injEq] at h
    obtain ⟨rfl,rfl,rfl⟩:=h
    simp only at hw
    subst hw
    refine ⟨none,rfl,by simp,by simp,hnf,fun σ2 hA=>?_⟩
    simp only
    rw [hall σ2 hA]
    simp only [ZaG,List.isEmpty_nil,Bool.and_self,if_true,hf,Zbj,Zn,if_false,Bool.false_eq_true,Zdf,List.isEmpty_nil,Bool.not_true,Bool.false_and]
  ·rename_i hne
   split at h
   ·rename_i lo n k xs' hcl
    have hcl0:=hcl
    split at hcl
    case isFalse=>cases hcl
    rename_i hid
    simp only [List.isEmpty_iff] at hid
    subst hid
    unfold ZlB at hcl
    split at hcl
    case h_2=>cases hcl
    split at hcl
    case isFalse=>cases hcl
    rename_i hcc
    simp only [Bool.and_eq_true,decide_eq_true_eq] at hcc
    simp only [Option.some.injEq,Prod.mk.injEq] at hcl h
    obtain ⟨rfl,rfl,rfl,rfl⟩:=hcl
    obtain ⟨rfl,rfl,rfl⟩:=h
    have hrl:=ZtG hids
    have hrho:∀ σ:Za,Zl σ 0 []=fun _ _=>none:=fun σ=>by funext t g;simp [Zl,Z1]
    refine ⟨some (.row 0 _ _),rfl,fun _=>hns hcc.1,by simp,hnf,fun σ2 hA=>?_⟩
    simp only
    unfold Zj
    rw [hag σ2 hA]
    simp only
    rw [hrl]
    have h0:ZA (Zn σ2 ts) 1000 [] []=[]:=rfl
    rw [h0]
    unfold ZbC
    simp only [List.all_nil,if_true]
    rw [hrho]
    rw [hrho] at hq
    simp only [Zx] at hq ⊢
    rw [hq]
    simp only [ZaG]
    rw [if_neg hne,hcl0]
    rfl
   split at h
   ·simp only [Option.some.injEq,Prod.mk.injEq] at h
    rw [←h.2.2] at ha;simp at ha
   ·cases h
theorem ZcJ {x:Option AVal} {v:AVal} {c:Cls} (h:x.map (fun r=>(r,σ,({}:Cls)))=some (v,σ',c)):σ'=σ∧c={}∧x=some v:=by
 simp only [Option.map_eq_some_iff,Prod.mk.injEq] at h
 obtain ⟨a,h1,rfl,rfl,rfl⟩:=h
 exact ⟨rfl,rfl,h1⟩
set_option maxHeartbeats 1000000 in
theorem ZBp {ins:Ins} {v:AVal} {c:Cls} (h:execI O byref tm σ site ins=some (v,σ',c)) (hw:c.wr=[]) (ha:c.any=false):Framed (fun σ=>execI O byref tm σ site ins) σ site (nsite ins) v σ' c:=by
 cases ins with
 | alloc zs =>
  simp only [execI,Option.some.injEq,Prod.mk.injEq] at h
  obtain ⟨rfl,rfl,rfl⟩:=h
  exact ⟨some (.var zs),rfl,by simp [nsite],by simp,ZdN,fun σ2 _=>rfl⟩
 | box x =>
  simp only [execI] at h
  split at h
  ·cases h
  ·cases h
  ·cases h
  ·rename_i hne1 hne2 hne3
   simp only [Option.some.injEq,Prod.mk.injEq] at h
   obtain ⟨rfl,rfl,rfl⟩:=h
   refine ⟨some (.var (x.ev tm).cells),rfl,by simp [nsite],by simp,ZdN,fun σ2 _=>?_⟩
   simp only [execI,Zbj]
 | mkslice k b z x y =>
  simp only [execI] at h
  split at h
  ·rename_i l c' e1 e2
   split at h
   ·rename_i hc
    simp only [Option.some.injEq,Prod.mk.injEq] at h
    obtain ⟨rfl,rfl,rfl⟩:=h
    refine ⟨some (.row 0 k (List.replicate c'.toNat z)),rfl,by simp [nsite],by simp,ZdN,fun σ2 _=>?_⟩
    simp only [execI,e1,e2,Zbj]
    try rw [if_pos hc]
   ·cases h
  ·cases h
 | bslice own k n z ps =>
  simp only [execI] at h
  split at h
  ·cases h
  rename_i ys ts hv
  split at h
  case isFalse=>cases h
  rename_i hc
  split at h
  ·rename_i ho
   simp only [Option.some.injEq,Prod.mk.injEq] at h
   obtain ⟨rfl,rfl,rfl⟩:=h
   simp only at hw
   subst hw
   refine ⟨some (.row 0 k (((ps.map (·.1)).zip ys).foldl (fun l p=>l.set p.1 p.2) (List.replicate n z))),rfl,by simp [nsite,ho],by simp,ZdN,fun σ2 hA=>?_⟩
   simp only [execI,Zmh hv hA,Zbj,Zn]
   rw [if_pos hc,if_pos ho]
  ·rename_i ho
   simp only [Option.some.injEq,Prod.mk.injEq] at h
   obtain ⟨rfl,rfl,rfl⟩:=h
   simp only at hw
   subst hw
   refine ⟨none,rfl,by simp,by simp,ZdN,fun σ2 hA=>?_⟩
   simp only [execI,Zmh hv hA,Zbj,Zn]
   rw [if_pos hc,if_neg ho]
 | rslice k n z ps =>
  simp only [execI] at h
  split at h
  case isFalse=>cases h
  rename_i hc
  simp only [Option.some.injEq,Prod.mk.injEq] at h
  obtain ⟨rfl,rfl,rfl⟩:=h
  refine ⟨some (.rrow 0 k ((ps.map fun p=>(p.1,p.2.ev tm)).foldl (fun l p=>l.set p.1 p.2) (List.replicate n z))),rfl,by simp [nsite],by simp,ZdN,fun σ2 hA=>?_⟩
  simp only [execI,Zbj]
  rw [if_pos hc]
 | rng x =>
  simp only [execI] at h
  split at h
  ·rename_i l e
   simp only [Option.some.injEq,Prod.mk.injEq] at h
   obtain ⟨rfl,rfl,rfl⟩:=h
   exact ⟨some (.siter l 0),rfl,by simp [nsite],by simp,ZdN,fun σ2 _=>by simp only [execI,e,Zbj]⟩
  ·cases h
 | clr k z x =>
  simp only [execI] at h
  unfold Zjo at h
  repeat' (split at h)
  all_goals first
   | (cases h;done)
   | (simp only [Option.some.injEq,Prod.mk.injEq] at h;rw [←h.2.2] at hw;cases hw)
 | nxt x =>
  simp only [execI] at h
  repeat' (split at h)
  all_goals first
   | (cases h;done)
   | (simp only [Option.some.injEq,Prod.mk.injEq] at h;rw [←h.2.2] at ha;cases ha)
 | ld k a=>simp only [execI] at h ⊢;exact ZET h
 | st k a x =>
  simp only [execI] at h
  unfold stA at h
  split at h
  ·split at h
   ·split at h
    ·split at h
     ·simp only [Option.some.injEq,Prod.mk.injEq] at h;rw [←h.2.2] at hw;simp at hw
     ·cases h
    ·cases h
   ·split at h
    ·split at h
     ·split at h
      ·split at h
       ·split at h
        ·cases h
        ·split at h
         ·simp only [Option.some.injEq,Prod.mk.injEq] at h;rw [←h.2.2] at hw;simp at hw
         ·cases h
       ·cases h
      ·cases h
     ·cases h
    ·split at h
     ·split at h
      ·split at h
       ·simp only [Option.some.injEq,Prod.mk.injEq] at h;rw [←h.2.2] at hw;simp at hw
       ·cases h
      ·cases h
     ·cases h
    ·cases h
   ·cases h
  ·cases h
 | slice k x lo hi mx=>simp only [execI] at h ⊢;exact ZKs h hw
 | iaddr k x i=>simp only [execI] at h ⊢;exact ZBZ h
 | app k b z x y=>simp only [execI] at h ⊢;exact ZDi h hw ha
 | b2s x =>
  simp only [execI] at h
  split at h
  ·rename_i xs ts he
   split at h
   ·rename_i l hl
    simp only [Option.some.injEq,Prod.mk.injEq] at h
    obtain ⟨rfl,rfl,rfl⟩:=h
    refine ⟨none,rfl,by simp,by simp,(ZkE he).nonfree,fun σ2 hA=>?_⟩
    simp only [execI,ZgK he hA,hl,Zbj]
   ·cases h
  ·cases h
 | s2s x =>
  simp only [execI] at h
  split at h
  ·split at h
   ·split at h
    ·simp only [Option.some.injEq,Prod.mk.injEq] at h;rw [←h.2.2] at hw;simp at hw
    ·cases h
   ·cases h
  ·cases h
 | call f own vw xs=>simp only [execI] at h ⊢;exact Zqr (fun ho=>by simp [nsite,ho]) h hw ha
 | callv x xs =>
  simp only [execI] at h
  split at h
  ·rename_i f caps e
   have:=Zqr (ns:=nsite (.callv x xs)) (fun ho=>absurd ho (by decide)) h hw ha
   have he:(fun σ=>execI O byref tm σ site (.callv x xs))=fun σ=>Zj O byref σ site (if f < 1000000 then f else f - 1000000) 4 false (if f < 1000000 then xs.map (·.ev tm)++caps else caps++xs.map (·.ev tm)):=by funext σ;simp only [execI,e]
   rw [he];exact this
  ·cases h
 | mki t x =>
  simp only [execI] at h
  split at h
  ·cases h
  ·cases h
  ·cases h
  ·simp only [Option.some.injEq,Prod.mk.injEq] at h;obtain ⟨rfl,rfl,rfl⟩:=h;exact Framed.pure rfl (fun σ2=>by simp only [execI])
 | panic x =>
  simp only [execI] at h
  split at h
  ·rename_i e;simp only [Option.some.injEq,Prod.mk.injEq] at h;obtain ⟨rfl,rfl,rfl⟩:=h;exact Framed.pure rfl (fun σ2=>by simp only [execI,e])
  ·cases h
 | eqv neg ks x y =>
  simp only [execI] at h
  split at h
  ·rename_i e1 e2
   split at h
   ·rename_i e4
    split at h
    ·rename_i e3;simp only [Option.some.injEq,Prod.mk.injEq] at h;obtain ⟨rfl,rfl,rfl⟩:=h;exact Framed.pure rfl (fun σ2=>by simp only [execI,e1,e2,e3,e4,if_true])
    ·cases h
   ·cases h
  ·cases h
 | ieq neg x y =>
  simp only [execI] at h
  split at h
  ·rename_i e1 e2;simp only [Option.some.injEq,Prod.mk.injEq] at h;obtain ⟨rfl,rfl,rfl⟩:=h;exact Framed.pure rfl (fun σ2=>by simp only [execI,e1,e2])
  ·rename_i e1 e2;simp only [Option.some.injEq,Prod.mk.injEq] at h;obtain ⟨rfl,rfl,rfl⟩:=h;exact Framed.pure rfl (fun σ2=>by simp only [execI,e1,e2])
  ·rename_i e1 e2;simp only [Option.some.injEq,Prod.mk.injEq] at h;obtain ⟨rfl,rfl,rfl⟩:=h;exact Framed.pure rfl (fun σ2=>by simp only [execI,e1,e2])
  ·cases h
 | mov x=>simp only [execI,Option.some.injEq,Prod.mk.injEq] at h;obtain ⟨rfl,rfl,rfl⟩:=h;exact Framed.pure rfl (fun σ2=>rfl)
 | mkfn f xs=>simp only [execI,Option.some.injEq,Prod.mk.injEq] at h;obtain ⟨rfl,rfl,rfl⟩:=h;exact Framed.pure rfl (fun σ2=>rfl)
 | bin op x y =>
  simp only [execI] at h
  obtain ⟨rfl,rfl,hx⟩:=ZcJ h
  exact Framed.pure rfl (fun σ2=>by simp only [execI,hx,Option.map_some])
 | un op x =>
  simp only [execI] at h
  obtain ⟨rfl,rfl,hx⟩:=ZcJ h
  exact Framed.pure rfl (fun σ2=>by simp only [execI,hx,Option.map_some])
 | faddr off x =>
  simp only [execI] at h
  obtain ⟨rfl,rfl,hx⟩:=ZcJ h
  exact Framed.pure rfl (fun σ2=>by simp only [execI,hx,Option.map_some])
 | pick a b d =>
  simp only [execI] at h
  unfold ZfF at h
  split at h
  ·rename_i e;simp only [Option.some.injEq,Prod.mk.injEq] at h;obtain ⟨rfl,rfl,rfl⟩:=h;exact Framed.pure rfl (fun σ2=>by simp only [execI,ZfF,e])
  ·rename_i e;simp only [Option.some.injEq,Prod.mk.injEq] at h;obtain ⟨rfl,rfl,rfl⟩:=h;exact Framed.pure rfl (fun σ2=>by simp only [execI,ZfF,e])
  ·cases h
 | build zs ps =>
  simp only [execI] at h
  split at h
  ·rename_i cs hf
   simp only [Option.some.injEq,Prod.mk.injEq] at h;obtain ⟨rfl,rfl,rfl⟩:=h
   exact Framed.pure rfl (fun σ2=>by simp only [execI,hf])
  ·cases h
 | i2i k x =>
  simp only [execI] at h
  split at h
  ·rename_i e;simp only [Option.some.injEq,Prod.mk.injEq] at h;obtain ⟨rfl,rfl,rfl⟩:=h;exact Framed.pure rfl (fun σ2=>by simp only [execI,e])
  ·cases h
 | i2s x =>
  simp only [execI] at h
  split at h
  ·rename_i e;simp only [Option.some.injEq,Prod.mk.injEq] at h;obtain ⟨rfl,rfl,rfl⟩:=h;exact Framed.pure rfl (fun σ2=>by simp only [execI,e])
  ·cases h
 | same x =>
  simp only [execI] at h
  split at h
  ·rename_i e;simp only [Option.some.injEq,Prod.mk.injEq] at h;obtain ⟨rfl,rfl,rfl⟩:=h;exact Framed.pure rfl (fun σ2=>by simp only [execI,e])
  ·cases h
 | s2b x =>
  simp only [execI] at h
  split at h
  ·rename_i e;simp only [Option.some.injEq,Prod.mk.injEq] at h;obtain ⟨rfl,rfl,rfl⟩:=h;exact Framed.pure rfl (fun σ2=>by simp only [execI,e])
  ·cases h
 | sslice x lo hi =>
  simp only [execI] at h
  split at h
  ·rename_i s e
   split at h
   ·cases h
   rename_i h1 hh
   split at h
   ·cases h
   rename_i l hl
   simp only [Option.some.injEq,Prod.mk.injEq] at h;obtain ⟨rfl,rfl,rfl⟩:=h
   exact Framed.pure rfl (fun σ2=>by simp only [execI,e,hh,hl])
  ·cases h
 | field k off x =>
  simp only [execI] at h
  split at h
  ·rename_i cs e
   obtain ⟨rfl,rfl,hx⟩:=ZcJ h
   exact Framed.pure rfl (fun σ2=>by simp only [execI,e,hx,Option.map_some])
  ·cases h
 | aaddr k n x i =>
  simp only [execI] at h
  split at h
  ·rename_i e
   split at h
   ·rename_i hc
    obtain ⟨rfl,rfl,hx⟩:=ZcJ h
    exact Framed.pure rfl (fun σ2=>by simp only [execI,e];rw [if_pos hc,hx];rfl)
   ·cases h
  ·cases h
 | sindex x i =>
  simp only [execI] at h
  split at h
  ·rename_i e1 e2
   split at h
   ·rename_i hc
    simp only [Option.map_eq_some_iff,Prod.mk.injEq] at h
    obtain ⟨b,hb,rfl,rfl,rfl⟩:=h
    exact Framed.pure rfl (fun σ2=>by simp only [execI,e1,e2];rw [if_pos hc,hb];rfl)
   ·cases h
  ·cases h
 | aindex s k n x i =>
  simp only [execI] at h
  split at h
  ·rename_i e1 e2
   split at h
   ·rename_i hc
    obtain ⟨rfl,rfl,hx⟩:=ZcJ h
    exact Framed.pure rfl (fun σ2=>by simp only [execI,e1,e2];rw [if_pos hc,hx];rfl)
   ·cases h
  ·cases h
 | ext x i =>
  simp only [execI] at h
  split at h
  ·rename_i e
   obtain ⟨rfl,rfl,hx⟩:=ZcJ h
   exact Framed.pure rfl (fun σ2=>by simp only [execI,e,hx,Option.map_some])
  ·cases h
 | len x =>
  simp only [execI] at h
  split at h
  ·rename_i e;simp only [Option.some.injEq,Prod.mk.injEq] at h;obtain ⟨rfl,rfl,rfl⟩:=h;exact Framed.pure rfl (fun σ2=>by simp only [execI,e])
  ·rename_i e;simp only [Option.some.injEq,Prod.mk.injEq] at h;obtain ⟨rfl,rfl,rfl⟩:=h;exact Framed.pure rfl (fun σ2=>by simp only [execI,e])
  ·cases h
 | slen x =>
  simp only [execI] at h
  split at h
  ·rename_i e;simp only [Option.some.injEq,Prod.mk.injEq] at h;obtain ⟨rfl,rfl,rfl⟩:=h;exact Framed.pure rfl (fun σ2=>by simp only [execI,e])
  ·cases h
 | mm m xs =>
  simp only [execI] at h
  split at h
  ·rename_i e;simp only [Option.some.injEq,Prod.mk.injEq] at h;obtain ⟨rfl,rfl,rfl⟩:=h;exact Framed.pure rfl (fun σ2=>by simp only [execI,e])
  ·cases h
 | nilchk x =>
  simp only [execI] at h
  split at h
  ·rename_i e;simp only [Option.some.injEq,Prod.mk.injEq] at h;obtain ⟨rfl,rfl,rfl⟩:=h;exact Framed.pure rfl (fun σ2=>by simp only [execI,e])
  ·rename_i e;simp only [Option.some.injEq,Prod.mk.injEq] at h;obtain ⟨rfl,rfl,rfl⟩:=h;exact Framed.pure rfl (fun σ2=>by simp only [execI,e])
  ·rename_i e;simp only [Option.some.injEq,Prod.mk.injEq] at h;obtain ⟨rfl,rfl,rfl⟩:=h;exact Framed.pure rfl (fun σ2=>by simp only [execI,e])
  ·cases h
 | beq neg x y =>
  simp only [execI] at h
  split at h
  ·rename_i e1 e2;simp only [Option.some.injEq,Prod.mk.injEq] at h;obtain ⟨rfl,rfl,rfl⟩:=h;exact Framed.pure rfl (fun σ2=>by simp only [execI,e1,e2])
  ·cases h
 | peq neg x y =>
  simp only [execI] at h
  split at h
  ·rename_i e1 e2;simp only [Option.some.injEq,Prod.mk.injEq] at h;obtain ⟨rfl,rfl,rfl⟩:=h;exact Framed.pure rfl (fun σ2=>by simp only [execI,e1,e2])
  ·rename_i e1 e2;simp only [Option.some.injEq,Prod.mk.injEq] at h;obtain ⟨rfl,rfl,rfl⟩:=h;exact Framed.pure rfl (fun σ2=>by simp only [execI,e1,e2])
  ·rename_i e1 e2;simp only [Option.some.injEq,Prod.mk.injEq] at h;obtain ⟨rfl,rfl,rfl⟩:=h;exact Framed.pure rfl (fun σ2=>by simp only [execI,e1,e2])
  ·cases h
theorem ZAB {ins:Ins} {v:AVal} {c:Cls} (ht:ins.touches=false) (h:execI O byref tm σ site ins=some (v,σ',c)):c={}∧nsite ins=0:=by
 cases ins <;> simp [Ins.touches] at ht <;> refine ⟨?_,rfl⟩ <;> simp only [execI] at h
 case mov x=>simp only [Option.some.injEq,Prod.mk.injEq] at h;exact h.2.2.symm
 case mkfn f xs=>simp only [Option.some.injEq,Prod.mk.injEq] at h;exact h.2.2.symm
 case bin op x y=>exact (ZcJ h).2.1
 case un op x=>exact (ZcJ h).2.1
 case faddr off x=>exact (ZcJ h).2.1
 case pick c x y =>
  unfold ZfF at h
  split at h
  ·simp only [Option.some.injEq,Prod.mk.injEq] at h;exact h.2.2.symm
  ·simp only [Option.some.injEq,Prod.mk.injEq] at h;exact h.2.2.symm
  ·cases h
 all_goals
  repeat' (split at h)
  all_goals first
   | (cases h;done)
   | (simp only [Option.some.injEq,Prod.mk.injEq] at h;exact h.2.2.symm)
   | exact (ZcJ h).2.1
   | (simp only [Option.map_eq_some_iff,Prod.mk.injEq] at h;obtain ⟨_,_,_,_,h⟩:=h;exact h.symm)
theorem ZwK {ins:Ins} {v:AVal} {c:Cls} (ht:ins.touches=false) (h:execI O byref tm σ site ins=some (v,σ',c)):σ'=σ:=by
 cases ins <;> simp [Ins.touches] at ht <;> simp only [execI] at h
 case mov x=>simp only [Option.some.injEq,Prod.mk.injEq] at h;exact h.2.1.symm
 case mkfn f xs=>simp only [Option.some.injEq,Prod.mk.injEq] at h;exact h.2.1.symm
 case bin op x y=>exact (ZcJ h).1
 case un op x=>exact (ZcJ h).1
 case faddr off x=>exact (ZcJ h).1
 case pick c x y =>
  unfold ZfF at h
  split at h
  ·simp only [Option.some.injEq,Prod.mk.injEq] at h;exact h.2.1.symm
  ·simp only [Option.some.injEq,Prod.mk.injEq] at h;exact h.2.1.symm
  ·cases h
 all_goals
  repeat' (split at h)
  all_goals first
   | (cases h;done)
   | (simp only [Option.some.injEq,Prod.mk.injEq] at h;exact h.2.1.symm)
   | exact (ZcJ h).1
   | (simp only [Option.map_eq_some_iff,Prod.mk.injEq] at h;obtain ⟨_,_,_,h,_⟩:=h;exact h.symm)
end
end Go.Proofs.YtmlkhhidifjjfaaDoor
namespace Go.Proofs.YtmlkhhidifjjfaaDoor
open Go.RowKit
section
variable {O:ZR} {byref:Nat→Bool} {tm:Tms} {σ σ':Za} {site s:Nat} {b:ZM}
theorem Zgj:∀ (ts:List Nat) (σ:Za),(Zn σ ts)[s]?=some .free↔σ[s]?=some .free
 | [],σ=>Iff.rfl
 | t::ts,σ=>by
  simp only [Zn]
  split
  ·rename_i g k xs hs
   rw [Zgj ts,List.getElem?_set]
   split
   ·rename_i e;subst e
    split
    ·simp [hs]
    ·simp [hs]
   ·exact Iff.rfl
  ·exact Zgj ts σ
theorem Zn9 {cs:List AVal} {t:Nat}:∀ (ts:List Nat) (σ:Za),σ[t]?=some (.var cs)→(Zn σ ts)[t]?=some (.var cs)
 | [],σ,h=>h
 | u::ts,σ,h=>by
  simp only [Zn]
  split
  ·rename_i g k xs hs
   refine Zn9 ts _ ?_
   rw [List.getElem?_set]
   split
   ·rename_i e;subst e;rw [hs] at h;cases h
   ·exact h
  ·exact Zn9 ts σ h
theorem Zm8:∀ (ts:List Nat) (σ:Za),s ∉ ts→Zn (σ.set s b) ts=(Zn σ ts).set s b
 | [],σ,_=>rfl
 | t::ts,σ,h=>by
  simp only [List.mem_cons,not_or] at h
  have e:(σ.set s b)[t]?=σ[t]?:=by rw [List.getElem?_set,if_neg h.1]
  simp only [Zn,e]
  split
  ·rw [List.set_comm _ _ h.1,Zm8 ts _ h.2]
  ·exact Zm8 ts σ h.2
theorem Zhk {t:Nat} (h:s≠t):(σ.set s b).getD t .free=σ.getD t .free:=by
 rw [List.getD_eq_getElem?_getD,List.getD_eq_getElem?_getD,List.getElem?_set,if_neg h]
theorem Zot:∀ (n:Nat) (todo acc:List Nat),∀ x ∈ acc,x ∈ ZA σ n todo acc
 | 0,_,acc,x,h=>h
 | n+1,[],acc,x,h=>h
 | n+1,t::todo,acc,x,h=>by
  simp only [ZA]
  split
  ·exact Zot n todo acc x h
  ·exact Zot n _ _ x (by simp [h])
theorem ZpZ:∀ (n:Nat) (todo acc:List Nat),s ∉ ZA σ n todo acc→ZA (σ.set s b) n todo acc=ZA σ n todo acc
 | 0,_,acc,_=>rfl
 | n+1,[],acc,_=>rfl
 | n+1,t::todo,acc,h=>by
  simp only [ZA] at h ⊢
  split
  ·rename_i hc;rw [if_pos hc] at h;exact ZpZ n todo acc h
  ·rename_i hc
   rw [if_neg hc] at h
   have hne:s≠t:=by
    rintro rfl
    exact h (Zot n _ _ s (by simp))
   rw [Zhk hne]
   exact ZpZ n _ _ h
theorem Zv9 {m:Nat} {ids:List Nat} (h:s ∉ ids):Zl (σ.set s b) m ids=Zl σ m ids:=by
 funext t g
 unfold Zl
 split
 ·rename_i j hj
  obtain ⟨k,_,hk⟩:=Zov hj
  have : s≠t:=by rintro rfl;exact h (List.mem_of_getElem? hk)
  rw [List.getElem?_set,if_neg this]
 ·rfl
theorem Zsd {m:Nat} {ids:List Nat} {ρ:Rho}:∀ (ts:List Nat) (j:Nat),s ∉ ts→Zx (σ.set s b) m ids ρ ts j=Zx σ m ids ρ ts j
 | [],_,_=>rfl
 | t::ts,j,h=>by
  simp only [List.mem_cons,not_or] at h
  simp only [Zx,Zhk h.1,Zsd ts (j+1) h.2]
theorem ZqO {ids:List Nat} (h:s ∉ ids):∀ (hp:Za) (j:Nat),ZaZ (σ.set s b) ids hp j=ZaZ σ ids hp j
 | [],_=>rfl
 | x::xs,j=>by
  simp only [ZaZ,ZqO h xs (j+1)]
  congr 2
  split
  ·rename_i t ht
   have : s≠t:=by rintro rfl;exact h (List.mem_of_getElem? ht)
   rw [Zhk this]
  ·rfl
theorem ZqS:∀ (n site:Nat),(∀ i,i < n→site+i≠s)→Za1 (σ.set s b) site n=Za1 σ site n
 | 0,_,_=>rfl
 | n+1,site,h=>by
  have h0:=h 0 (by omega)
  simp only [Za1,freeAt]
  rw [List.getElem?_set,if_neg (by intro e;exact h0 (by simpa using e.symm)),ZqS n (site+1) (fun i hi=>by have:=h (i+1) (by omega);rwa [show site+1+i=site+(i+1) by omega])]
theorem Zsv {ids:List Nat} (h:s ∉ ids):ZaB (σ.set s b) ids site=ZaB σ ids site:=by
 funext j g
 unfold ZaB
 split
 ·rename_i t ht
  have : s≠t:=by rintro rfl;exact h (List.mem_of_getElem? ht)
  rw [Zhk this]
 ·rfl
theorem Zsh {σ0:Za} {ids:List Nat} (h:s ∉ ids):∀ (hp:Za) (j:Nat) (σ:Za),(∀ i,i < hp.length→ZaK ids site (j+i)≠s)→Za5 (σ0.set s b) ids site hp j (σ.set s b)=(Za5 σ0 ids site hp j σ).set s b
 | [],_,_,_=>rfl
 | x::xs,j,σ,hn=>by
  have h0:=hn 0 (by simp)
  simp only [Nat.add_zero] at h0
  have eg:Zcl (σ0.set s b) ids j x=Zcl σ0 ids j x:=by
   unfold Zcl
   split
   ·rename_i t ht
    have : s≠t:=by rintro rfl;exact h (List.mem_of_getElem? ht)
    rw [Zhk this]
   ·rfl
  simp only [Za5,Zsv h,eg]
  rw [List.set_comm _ _ (Ne.symm h0)]
  exact Zsh h xs (j+1) _ (fun i hi=>by have:=hn (i+1) (by simp;omega);rwa [show j+1+i=j+(i+1) by omega])
theorem Zsa:∀ (ids:List Nat),s ∉ ids→Za7 (σ.set s b) ids=Za7 σ ids
 | [],_=>rfl
 | t::ts,h=>by
  simp only [List.mem_cons,not_or] at h
  simp only [Za7,List.getElem?_set,if_neg h.1,Zsa ts h.2]
theorem Zyj {ρ:Rho} {g:Nat} {x:ZM} (h:okB x=true):ZJ ρ g x≠.free:=by
 cases x <;> simp [okB] at h <;> simp [ZJ]
theorem Zog {σ0:Za} {ids:List Nat}:∀ (hp:Za) (j:Nat) (σ:Za),ZaZ σ0 ids hp j=true→(Za5 σ0 ids site hp j σ)[s]?=some .free→σ[s]?=some .free
 | [],_,_,_,h=>h
 | x::xs,j,σ,hk,h=>by
  simp only [ZaZ,Bool.and_eq_true] at hk
  simp only [Za5] at h
  have:=Zog xs (j+1) _ hk.2 h
  rw [List.getElem?_set] at this
  split at this
  ·split at this
   ·injection this with this;exact absurd this (Zyj hk.1.1)
   ·cases this
  ·exact this
theorem ZxD {ts:List Nat} (h:Zga σ ts) (hs:σ[s]?=some .free):s ∉ ts:=by
 intro hm
 obtain ⟨x,hx,hne⟩:=h s hm
 rw [hs] at hx;injection hx with hx;exact hne hx.symm
theorem Zu2 {f own:Nat} {view:Bool} {args:List AVal} {v:AVal} {c:Cls} (h:Zj O byref σ site f own view args=some (v,σ',c)) (hs':σ'[s]?=some .free) (hne:∀ i,i < own→site+i≠s) :
  σ[s]?=some .free∧Zj O byref (σ.set s b) site f own view args=some (v,σ'.set s b,c):=by
 unfold Zj at h
 split at h
 ·cases h
 rename_i xs ts hsh
 have hnf:Zga σ ts:=by
  unfold ZbU at hsh
  split at hsh
  ·simp only [Option.some.injEq,Prod.mk.injEq] at hsh
   rw [←hsh.2];exact ZdN
  ·exact (Zj2 hsh).nonfree
 have hag:∀ σ2,Agree σ σ2 ts→ZbU (byref f) σ2 args=some (xs,ts):=by
  intro σ2 hA
  unfold ZbU at hsh ⊢
  split at hsh
  ·rename_i hb;rw [if_pos hb];exact hsh
  ·rename_i hb;rw [if_neg hb];exact Zn6 hsh hA
 generalize hids:ZA (Zn σ ts) 1000 (Zr xs) []=ids at h
 unfold ZbC at h
 split at h
 case isFalse=>cases h
 rename_i hall
 generalize hq:Zae view ids.length (O f (Ze (Zl (Zn σ ts) 0 ids) xs) (Zx (Zn σ ts) 0 ids (Zl (Zn σ ts) 0 ids) ids 0))=q at h
 have key:σ[s]?=some .free→s ∉ ts∧s ∉ ids∧Zj O byref (σ.set s b) site f own view args=ZaG (σ.set s b) ((Zn σ ts).set s b) ids ts site own q:=by
  intro hs
  have n1:=ZxD hnf hs
  have hsf:(Zn σ ts)[s]?=some .free:=(Zgj ts σ).2 hs
  have n2:s ∉ ids:=by
   intro hm
   have:=List.all_eq_true.1 hall s hm
   rw [List.getD_eq_getElem?_getD,hsf] at this
   simp [okB] at this
  refine ⟨n1,n2,?_⟩
  unfold Zj
  rw [hag _ (fun t ht=>by rw [List.getElem?_set,if_neg (by rintro rfl;exact n1 ht)])]
  simp only
  rw [Zm8 ts σ n1,ZpZ _ _ _ (by rw [hids];exact n2),hids]
  unfold ZbC
  have hall2:(ids.all fun t=>okB (((Zn σ ts).set s b).getD t .free))=true:=by
   rw [List.all_eq_true] at hall ⊢
   intro t ht
   rw [Zhk (by rintro rfl;exact n2 ht)]
   exact hall t ht
  rw [if_pos hall2,Zv9 n2,Zsd ids 0 n2,hq]
 cases q with
 | none=>simp only [ZaG] at h;cases h
 | some q =>
  obtain ⟨r,hp⟩:=q
  simp only [ZaG] at h
  split at h
  ·rename_i hc
   split at h
   ·rename_i hf
    simp only [Option.some.injEq,Prod.mk.injEq] at h
    obtain ⟨rfl,rfl,rfl⟩:=h
    obtain ⟨n1,n2,k⟩:=key hs'
    refine ⟨hs',?_⟩
    rw [k]
    simp only [ZaG,hc,if_true,hf]
   split at h
   ·rename_i hf hap
    simp only [Option.some.injEq,Prod.mk.injEq] at h
    obtain ⟨rfl,rfl,rfl⟩:=h
    obtain ⟨n1,n2,k⟩:=key hs'
    refine ⟨hs',?_⟩
    have hap2:Zdf (σ.set s b) ts r=true:=by
     unfold Zdf at hap ⊢
     simp only [Bool.and_eq_true] at hap ⊢
     refine ⟨hap.1,List.all_eq_true.2 fun t ht=>?_⟩
     have:=List.all_eq_true.1 hap.2 t ht
     unfold Zfv at this ⊢
     rw [List.getElem?_set,if_neg (by rintro rfl;exact n1 ht)];exact this
    rw [k]
    simp only [ZaG,hc,if_true,hf,hap2,if_false,Bool.false_eq_true]
   ·rename_i hf hap
    simp only [Option.some.injEq,Prod.mk.injEq] at h
    obtain ⟨rfl,rfl,rfl⟩:=h
    have hs:=(Zgj ts σ).1 hs'
    obtain ⟨n1,n2,k⟩:=key hs
    refine ⟨hs,?_⟩
    have hap2:¬Zdf (σ.set s b) ts r=true:=by
     intro h2
     refine hap ?_
     unfold Zdf at h2 ⊢
     simp only [Bool.and_eq_true] at h2 ⊢
     refine ⟨h2.1,List.all_eq_true.2 fun t ht=>?_⟩
     have:=List.all_eq_true.1 h2.2 t ht
     unfold Zfv at this ⊢
     rw [List.getElem?_set,if_neg (by rintro rfl;exact n1 ht)] at this;exact this
    rw [k]
    simp only [ZaG,hc,if_true,hf,if_neg hap2,if_false,Bool.false_eq_true]
  ·rename_i hc
   split at h
   ·rename_i lo n k xs' hcl
    simp only [Option.some.injEq,Prod.mk.injEq] at h
    obtain ⟨rfl,rfl,rfl⟩:=h
    have hown:own=1:=by
     split at hcl
     case isFalse=>cases hcl
     unfold ZlB at hcl
     split at hcl
     case h_2=>cases hcl
     split at hcl
     case isFalse=>cases hcl
     rename_i hcc
     simp only [Bool.and_eq_true,decide_eq_true_eq] at hcc
     exact hcc.1
    have hns:site≠s:=by have:=hne 0 (by omega);simpa using this
    have hs:σ[s]?=some .free:=by rwa [List.getElem?_set,if_neg hns] at hs'
    obtain ⟨n1,n2,kk⟩:=key hs
    refine ⟨hs,?_⟩
    rw [kk]
    simp only [ZaG]
    rw [if_neg hc,hcl]
    simp only
    rw [List.set_comm _ _ (Ne.symm hns)]
   split at h
   ·rename_i hcl hcc
    simp only [Option.some.injEq,Prod.mk.injEq] at h
    obtain ⟨rfl,rfl,rfl⟩:=h
    simp only [Bool.and_eq_true,decide_eq_true_eq] at hcc
    obtain ⟨⟨⟨c1,c2⟩,c3⟩,c4⟩:=hcc
    have hs:=(Zgj ts σ).1 (Zog hp 0 _ c3 hs')
    obtain ⟨n1,n2,kk⟩:=key hs
    refine ⟨hs,?_⟩
    rw [kk]
    have htg:∀ i,i < hp.length→ZaK ids site (0+i)≠s:=by
     intro i hi e
     rw [Nat.zero_add] at e
     unfold ZaK at e
     rw [List.getD_eq_getElem?_getD] at e
     rcases Nat.lt_or_ge i ids.length with hl | hl
     ·rw [List.getElem?_eq_getElem hl] at e
      simp only [Option.getD_some] at e
      exact n2 (e ▸ List.getElem_mem hl)
     ·rw [List.getElem?_eq_none hl] at e
      exact hne (i - ids.length) (by omega) e
    simp only [ZaG]
    rw [if_neg hc,hcl]
    simp only [c1,c2,decide_true,ZqO n2,c3,ZqS own site hne,c4,Bool.and_self,if_true,Zsv n2,Zsh n2 hp 0 _ htg,Zsa ids n2]
   ·cases h
theorem ZJS {f own:Nat} {view:Bool} {args:List AVal} {v:AVal} {c:Cls} (h:Zj O byref σ site f own view args=some (v,σ',c)) (hs:σ'[s]?=some .free):σ[s]?=some .free:=by
 unfold Zj at h
 split at h
 ·cases h
 rename_i xs ts hsh
 unfold ZbC at h
 split at h
 case isFalse=>cases h
 generalize ZA (Zn σ ts) 1000 (Zr xs) []=ids at h
 generalize Zae view ids.length (O f (Ze (Zl (Zn σ ts) 0 ids) xs) (Zx (Zn σ ts) 0 ids (Zl (Zn σ ts) 0 ids) ids 0))=q at h
 cases q with
 | none=>simp only [ZaG] at h;cases h
 | some q =>
  obtain ⟨r,hp⟩:=q
  simp only [ZaG] at h
  split at h
  ·split at h
   ·simp only [Option.some.injEq,Prod.mk.injEq] at h
    rw [h.2.1];exact hs
   split at h
   ·simp only [Option.some.injEq,Prod.mk.injEq] at h
    rw [h.2.1];exact hs
   ·simp only [Option.some.injEq,Prod.mk.injEq] at h
    rw [←h.2.1] at hs
    exact (Zgj ts σ).1 hs
  ·split at h
   ·simp only [Option.some.injEq,Prod.mk.injEq] at h
    rw [←h.2.1,List.getElem?_set] at hs
    split at hs
    ·split at hs <;> simp at hs
    ·exact hs
   split at h
   ·rename_i hcc
    simp only [Option.some.injEq,Prod.mk.injEq] at h
    rw [←h.2.1] at hs
    simp only [Bool.and_eq_true,decide_eq_true_eq] at hcc
    exact (Zgj ts σ).1 (Zog hp 0 _ hcc.1.2 hs)
   ·cases h
theorem ZmH {t:Nat} {cs:List AVal}:∀ {ids:List Nat},(Za7 σ ids).lookup t=some cs→σ[t]?=some (.var cs)
 | [],h=>by simp [Za7] at h
 | u::us,h=>by
  simp only [Za7] at h
  split at h
  ·rename_i cs' hu
   rw [List.lookup_cons] at h
   split at h
   ·rename_i e
    injection h with h;subst h
    have : t=u:=by simpa using e
    rw [this];exact hu
   ·exact ZmH h
  ·exact ZmH h
theorem ZnD {t:Nat} {cs:List AVal}:∀ {ids:List Nat},(Za7 σ ids).lookup t=none→t ∈ ids→σ[t]?≠some (.var cs)
 | u::us,h,hm=>by
  intro hv
  simp only [Za7] at h
  rcases List.mem_cons.1 hm with e | hm
  ·subst e
   rw [hv] at h
   simp only [List.lookup_cons,beq_self_eq_true] at h
   cases h
  ·split at h
   ·rw [List.lookup_cons] at h
    split at h
    ·cases h
    ·exact ZnD h hm hv
   ·exact ZnD h hm hv
theorem ZqI {σ0:Za} {ids:List Nat} {t:Nat}:∀ (hp:Za) (j:Nat) (σ:Za),(∀ i x,hp[i]?=some x→ZaK ids site (j+i)=t→∃ cs,x=.var cs)→(∃ cs,σ[t]?=some (.var cs))→∃ cs,(Za5 σ0 ids site hp j σ)[t]?=some (.var cs)
 | [],_,_,_,h=>h
 | x::xs,j,σ,hv,⟨cs,h⟩=>by
  simp only [Za5]
  refine ZqI xs (j+1) _ (fun i y hy e=>hv (i+1) y (by simpa using hy) (by rwa [show j+(i+1)=j+1+i by omega])) ?_
  rw [List.getElem?_set]
  split
  ·rename_i e
   obtain ⟨cs',rfl⟩:=hv 0 x rfl (by simpa using e)
   split
   ·exact ⟨_,rfl⟩
   ·rename_i hl
    rw [e] at hl
    rw [List.getElem?_eq_none (by omega)] at h;cases h
  ·exact ⟨cs,h⟩
theorem ZDw {f own:Nat} {view:Bool} {args:List AVal} {v:AVal} {c:Cls} (h:Zj O byref σ site f own view args=some (v,σ',c)) (ha:c.any=true) {t:Nat} {cs:List AVal} (ht:σ[t]?=some (.var cs)) :
  (c.upd.lookup t=none→σ'[t]?=some (.var cs))∧(∀ cs2,c.upd.lookup t=some cs2→σ'[t]?=some (.var cs2)):=by
 unfold Zj at h
 split at h
 ·cases h
 rename_i xs ts hsh
 generalize hids:ZA (Zn σ ts) 1000 (Zr xs) []=ids at h
 unfold ZbC at h
 split at h
 case isFalse=>cases h
 generalize Zae view ids.length (O f (Ze (Zl (Zn σ ts) 0 ids) xs) (Zx (Zn σ ts) 0 ids (Zl (Zn σ ts) 0 ids) ids 0))=q at h
 cases q with
 | none=>simp only [ZaG] at h;cases h
 | some q =>
  obtain ⟨r,hp⟩:=q
  simp only [ZaG] at h
  split at h
  ·split at h
   ·simp only [Option.some.injEq,Prod.mk.injEq] at h
    rw [←h.2.2] at ha;cases ha
   split at h
   ·simp only [Option.some.injEq,Prod.mk.injEq] at h
    rw [←h.2.2] at ha;cases ha
   ·simp only [Option.some.injEq,Prod.mk.injEq] at h
    rw [←h.2.2] at ha;cases ha
  ·split at h
   ·simp only [Option.some.injEq,Prod.mk.injEq] at h
    rw [←h.2.2] at ha;cases ha
   split at h
   ·rename_i hcc
    simp only [Option.some.injEq,Prod.mk.injEq] at h
    obtain ⟨_,rfl,rfl⟩:=h
    simp only [Bool.and_eq_true,decide_eq_true_eq] at hcc
    obtain ⟨⟨⟨c1,c2⟩,c3⟩,c4⟩:=hcc
    have hf:=Zn9 ts σ ht
    refine ⟨fun hn=>?_,fun cs2 hc2=>ZmH hc2⟩
    have tgt:∀ i,i < hp.length→ZaK ids site (0+i)=t→i < ids.length∧ids[i]?=some t:=by
     intro i hi e
     rw [Nat.zero_add] at e
     unfold ZaK at e
     rw [List.getD_eq_getElem?_getD] at e
     rcases Nat.lt_or_ge i ids.length with hl | hl
     ·rw [List.getElem?_eq_getElem hl] at e ⊢
      simp only [Option.getD_some] at e
      exact ⟨hl,by rw [e]⟩
     ·rw [List.getElem?_eq_none hl] at e
      simp only [Option.getD_none] at e
      have:=ZgA c4 (i:=i - ids.length) (by omega)
      rw [e,hf] at this;cases this
    by_cases hm:t ∈ ids
    ·exfalso
     obtain ⟨cs3,h3⟩:=ZqI (σ0:=Zn σ ts) (site:=site) (ids:=ids) (t:=t) hp 0 (Zn σ ts) (fun i x hx e=>by
      obtain ⟨hl,hi⟩:=tgt i (List.getElem?_eq_some_iff.1 hx).1 e
      have:=(ZhH c3 hx).2
      rw [Nat.zero_add,hi] at this
      simp only at this
      have hk:=this.1
      rw [List.getD_eq_getElem?_getD,hf] at hk
      simp only [Option.getD_some] at hk
      cases x <;> simp [Zce] at hk
      exact ⟨_,rfl⟩) ⟨_,hf⟩
     exact ZnD hn hm h3
    ·rw [Zlu (fun i hi e=>hm (by
      obtain ⟨hl,hi⟩:=tgt i hi e
      exact List.mem_of_getElem? hi))]
     exact hf
   ·cases h
end
end Go.Proofs.YtmlkhhidifjjfaaDoor
namespace Go.Proofs.YtmlkhhidifjjfaaDoor
open Go.RowKit
section
variable {P:Program} {O:ZR} {byref:Nat→Bool} {tm tm1 tm2:Tms} {σ σ' σ1 σ2:Za} {site:Nat}
theorem ZqM {d:Option Nat} {v:AVal} {n:Nat} (h:d≠some n):tget (tput tm d v) n=tget tm n:=by
 cases d with
 | none=>rfl
 | some d =>
  have : d≠n:=by rintro rfl;exact h rfl
  simp only [tput,Zll,this,if_false]
theorem ZsT {a b:Nat} (u v:AVal) (h:a≠b):∀ tm:Tms,tins b v (tins a u tm)=tins a u (tins b v tm)
 | []=>by
  simp only [tins]
  by_cases h1:a < b
  ·have h2:¬b < a:=by omega
   have h3:¬b=a:=by omega
   simp [h1,h2,h3]
  ·have h2:b < a:=by omega
   have h3:¬a=b:=h
   simp [h1,h2,h3]
 | (e,w)::r=>by
  have ih:=ZsT u v h r
  rcases Nat.lt_trichotomy e a with ha | ha | ha <;> rcases Nat.lt_trichotomy e b with hb | hb | hb
  ·rcases Nat.lt_or_gt_of_ne h with hab | hab
   ·have n1:¬b < a:=by omega
    have n2:¬b=a:=by omega
    simp [tins,ha,hb,hab,n1,n2]
   ·have n1:¬a < b:=by omega
    have n2:¬a=b:=h
    simp [tins,ha,hb,hab,n1,n2]
  ·subst hb
   have n1:¬a < e:=by omega
   have n2:¬a=e:=h
   simp [tins,ha,n1,n2]
  ·have n1:¬a < b:=by omega
   have n2:¬a=b:=h
   have n3:¬e < b:=by omega
   have n4:¬e=b:=by omega
   simp [tins,ha,n1,n2,n3,n4]
  ·subst ha
   have n1:¬b < e:=by omega
   have n2:¬b=e:=fun q=>h q.symm
   simp [tins,hb,n1,n2]
  ·exact absurd (ha.symm.trans hb) h
  ·subst ha
   have n3:¬e < b:=by omega
   have n4:¬e=b:=by omega
   simp [tins,n3,n4]
  ·have n1:¬b < a:=by omega
   have n2:¬b=a:=by omega
   have n3:¬e < a:=by omega
   have n4:¬e=a:=by omega
   simp [tins,hb,n1,n2,n3,n4]
  ·subst hb
   have n3:¬e < a:=by omega
   have n4:¬e=a:=by omega
   simp [tins,n3,n4]
  ·have n1:¬e < a:=by omega
   have n2:¬e=a:=by omega
   have n3:¬e < b:=by omega
   have n4:¬e=b:=by omega
   simp [tins,n1,n2,n3,n4,ih]
theorem ZgP {a b:Option Nat} (u v:AVal) (h:∀ d,a=some d→b≠some d):tput (tput tm a u) b v=tput (tput tm b v) a u:=by
 cases a with
 | none=>cases b <;> rfl
 | some a =>
  cases b with
  | none=>rfl
  | some b =>
   simp only [tput]
   exact ZsT u v (by rintro rfl;exact h a rfl rfl) tm
theorem Zgo {g:Option (Nat×Bool)} (h:∀ j b,g=some (j,b)→tget tm j=tget tm1 j):Zbw g tm=Zbw g tm1:=by
 cases g with
 | none=>rfl
 | some g=>simp only [Zbw];rw [h g.1 g.2 rfl]
theorem ZgS {o:AOp} {j:Nat} {b:Bool} (h:o.guard=some (j,b)):j ∈ o.reads:=by simp [AOp.reads,h]
theorem ZkW {o:AOp} {n:Nat} (h:n ∈ o.ins.reads):n ∈ o.reads:=by simp [AOp.reads,h]
theorem ZiR {o:AOp} {v:AVal} {c:Cls} (h:ZS O byref o site tm σ=some (v,tm1,σ1,c)):tm1=tput tm o.dst v∧∀ tm',(∀ n ∈ o.reads,tget tm n=tget tm' n)→ZS O byref o site tm' σ=some (v,tput tm' o.dst v,σ1,c):=by
 unfold ZS at h
 split at h
 ·cases h
 ·rename_i hw
  simp only [Option.some.injEq,Prod.mk.injEq] at h
  obtain ⟨rfl,rfl,rfl,rfl⟩:=h
  refine ⟨rfl,fun tm' hr=>?_⟩
  simp only [ZS,Zgo (g:=o.guard) (tm:=tm') (tm1:=tm) (fun j b hg=>(hr j (ZgS hg)).symm),hw]
 ·rename_i hw
  split at h
  ·rename_i hf
   split at h
   ·rename_i v' σ'' c' he
    simp only [Option.some.injEq,Prod.mk.injEq] at h
    obtain ⟨rfl,rfl,rfl,rfl⟩:=h
    refine ⟨rfl,fun tm' hr=>?_⟩
    simp only [ZS,Zgo (g:=o.guard) (tm:=tm') (tm1:=tm) (fun j b hg=>(hr j (ZgS hg)).symm),hw]
    rw [if_pos hf,←ZkN (tm:=tm) (tm':=tm') (fun n hn=>hr n (ZkW hn)),he]
   ·cases h
  ·cases h
theorem Zij {o:AOp} {v:AVal} {c:Cls} (h:ZS O byref o site tm σ=some (v,tm1,σ1,c)) (hn:ZdB c=true) :
  ∃ ob,tm1=tput tm o.dst v∧σ1=Zbj σ site ob∧(ob.isSome=true→nsite o.ins≠0∧freeAt σ site=true)∧ob≠some .free∧Zga σ c.rd ∧
   ∀ tm' σ2,(∀ n ∈ o.reads,tget tm n=tget tm' n)→Agree σ σ2 c.rd→(nsite o.ins≠0→freeAt σ site=true→freeAt σ2 site=true)→ZS O byref o site tm' σ2=some (v,tput tm' o.dst v,Zbj σ2 site ob,c):=by
 simp only [ZdB,Bool.and_eq_true,List.isEmpty_iff,Bool.not_eq_true'] at hn
 unfold ZS at h
 split at h
 ·cases h
 ·rename_i hw
  simp only [Option.some.injEq,Prod.mk.injEq] at h
  obtain ⟨rfl,rfl,rfl,rfl⟩:=h
  refine ⟨none,rfl,rfl,by simp,by simp,ZdN,fun tm' σ2 hr _ _=>?_⟩
  simp only [ZS,Zgo (g:=o.guard) (tm:=tm') (tm1:=tm) (fun j b hg=>(hr j (ZgS hg)).symm),hw,Zbj]
 ·rename_i hw
  split at h
  ·rename_i hf
   split at h
   ·rename_i v' σ'' c' he
    simp only [Option.some.injEq,Prod.mk.injEq] at h
    obtain ⟨rfl,rfl,rfl,rfl⟩:=h
    obtain ⟨ob,e1,e2,e3,e4,e5⟩:=ZBp he hn.1 hn.2
    refine ⟨ob,rfl,e1,fun ho=>⟨e2 ho,?_⟩,e3,e4,fun tm' σ2 hr hA hfr=>?_⟩
    ·have:=e2 ho
     simpa [this] using hf
    ·have hf2:(nsite o.ins == 0 || freeAt σ2 site)=true:=by
      by_cases h0:nsite o.ins=0
      ·simp [h0]
      ·simp only [Bool.or_eq_true,beq_iff_eq,h0,false_or] at hf ⊢
       exact hfr h0 hf
     simp only [ZS,Zgo (g:=o.guard) (tm:=tm') (tm1:=tm) (fun j b hg=>(hr j (ZgS hg)).symm),hw]
     have e5':execI O byref tm σ2 site o.ins=some (v',Zbj σ2 site ob,c'):=e5 σ2 hA
     rw [if_pos hf2,←ZkN (tm:=tm) (tm':=tm') (fun n hn=>hr n (ZkW hn)),e5']
   ·cases h
  ·cases h
theorem Zf6 {s:Nat}:freeAt σ s=true↔σ[s]?=some .free:=by
 unfold freeAt
 split
 ·rename_i h;simp [h]
 ·rename_i h
  constructor
  ·intro h';cases h'
  ·intro h';exact absurd h' h
theorem Zh8 {s t:Nat} {ob:Option ZM} (h:ob.isSome=true→s≠t):(Zbj σ s ob)[t]?=σ[t]?:=by
 cases ob with
 | none=>rfl
 | some b=>simp only [Zbj];rw [List.getElem?_set,if_neg (h rfl)]
theorem Zvy {s t:Nat} {ob oc:Option ZM} (h:ob.isSome=true→oc.isSome=true→s≠t):Zbj (Zbj σ s ob) t oc=Zbj (Zbj σ t oc) s ob:=by
 cases ob with
 | none=>cases oc <;> rfl
 | some b =>
  cases oc with
  | none=>rfl
  | some c=>simp only [Zbj];exact List.set_comm b c (h rfl rfl)
theorem ZDt {x y:AVal} (h:Zc9 x y=true):x=y:=by
 unfold Zc9 at h
 split at h
 all_goals first
  | rfl
  | (cases h;done)
  | (simp only [Bool.and_eq_true,decide_eq_true_eq,beq_iff_eq] at h;simp_all;done)
theorem Zon {o:AOp} {v:AVal} {c:Cls} (hc:Zaj o.ins=true) (h:ZS O byref o site tm σ=some (v,tm1,σ1,c)) :
  (Zbw o.guard tm=some false∧v=.tup []∧σ1=σ∧c={}) ∨
  (Zbw o.guard tm=some true∧(nsite o.ins == 0 || freeAt σ site)=true∧∃ f own view args,own≤nsite o.ins∧(∀ tm' σ2 v2 σ3 c2,(∀ n ∈ o.reads,tget tm n=tget tm' n)→(nsite o.ins == 0 || freeAt σ2 site)=true→Zj O byref σ2 site f own view args=some (v2,σ3,c2)→ZS O byref o site tm' σ2=some (v2,tput tm' o.dst v2,σ3,c2))∧Zj O byref σ site f own view args=some (v,σ1,c)):=by
 unfold ZS at h
 split at h
 ·cases h
 ·rename_i hw
  simp only [Option.some.injEq,Prod.mk.injEq] at h
  obtain ⟨rfl,rfl,rfl,rfl⟩:=h
  exact Or.inl ⟨hw,rfl,rfl,rfl⟩
 ·rename_i hw
  split at h
  ·rename_i hf
   split at h
   ·rename_i v' σ'' c' he
    simp only [Option.some.injEq,Prod.mk.injEq] at h
    obtain ⟨rfl,rfl,rfl,rfl⟩:=h
    refine Or.inr ⟨hw,hf,?_⟩
    have gen:∀ tm' σ2,(∀ n ∈ o.reads,tget tm n=tget tm' n)→(nsite o.ins == 0 || freeAt σ2 site)=true→∀ v2 σ3 c2,execI O byref tm σ2 site o.ins=some (v2,σ3,c2)→ZS O byref o site tm' σ2=some (v2,tput tm' o.dst v2,σ3,c2):=by
     intro tm' σ2 hr hf2 v2 σ3 c2 he2
     simp only [ZS,Zgo (g:=o.guard) (tm:=tm') (tm1:=tm) (fun j b hg=>(hr j (ZgS hg)).symm),hw]
     rw [if_pos hf2,←ZkN (tm:=tm) (tm':=tm') (fun n hn=>hr n (ZkW hn)),he2]
    cases hins:o.ins with
    | call f own view args =>
     rw [hins] at he gen
     simp only [execI] at he gen
     refine ⟨f,own,view,args.map (·.ev tm),Nat.le_refl _,fun tm' σ2 v2 σ3 c2 hr hf2 h2=>?_,he⟩
     exact gen tm' σ2 hr hf2 v2 σ3 c2 h2
    | callv x args =>
     rw [hins] at he gen
     simp only [execI] at he
     split at he
     ·rename_i f caps hx
      refine ⟨(if f < 1000000 then f else f - 1000000),4,false,(if f < 1000000 then args.map (·.ev tm)++caps else caps++args.map (·.ev tm)),by simp [nsite],fun tm' σ2 v2 σ3 c2 hr hf2 h2=>?_,he⟩
      refine gen tm' σ2 hr hf2 v2 σ3 c2 ?_
      simp only [execI,hx]
      exact h2
     ·cases he
    | _=>rw [hins] at hc;simp [Zaj] at hc
   ·cases h
  ·cases h
theorem ZEs {o:AOp} {v:AVal} {c:Cls} {s:Nat} (hc:Zaj o.ins=true) (h:ZS O byref o site tm σ=some (v,tm1,σ1,c)) (hs:σ1[s]?=some .free) (hne:∀ i,i < nsite o.ins→site+i≠s) :
  σ[s]?=some .free∧∀ b tm',(∀ n ∈ o.reads,tget tm n=tget tm' n)→ZS O byref o site tm' (σ.set s b)=some (v,tput tm' o.dst v,σ1.set s b,c):=by
 have h0:=h
 rcases Zon hc h with ⟨hw,rfl,rfl,rfl⟩ | ⟨hw,hf,f,own,view,args,ho,gen,hg⟩
 ·refine ⟨hs,fun b tm' hr=>?_⟩
  simp only [ZS,Zgo (g:=o.guard) (tm:=tm') (tm1:=tm) (fun j b hg=>(hr j (ZgS hg)).symm),hw]
 ·obtain ⟨k1,k2⟩:=Zu2 (b:=.free) hg hs (fun i hi=>hne i (by omega))
  refine ⟨k1,fun b tm' hr=>gen tm' _ _ _ _ hr ?_ (Zu2 (b:=b) hg hs (fun i hi=>hne i (by omega))).2⟩
  by_cases h0:nsite o.ins=0
  ·simp [h0]
  ·simp only [Bool.or_eq_true,beq_iff_eq,h0,false_or,Zf6] at hf ⊢
   have:=hne 0 (by omega)
   rw [List.getElem?_set,if_neg (by intro e;exact this (by simpa using e.symm))]
   exact hf
theorem ZBc {o:AOp} {v:AVal} {c:Cls} {s:Nat} (hc:Zaj o.ins=true) (h:ZS O byref o site tm σ=some (v,tm1,σ1,c)) (hs:σ1[s]?=some .free):σ[s]?=some .free:=by
 rcases Zon hc h with ⟨hw,rfl,rfl,rfl⟩ | ⟨hw,hf,f,own,view,args,ho,gen,hg⟩
 ·exact hs
 ·exact ZJS hg hs
theorem ZHk {o:AOp} {v:AVal} {c:Cls} {t:Nat} {cs:List AVal} (hc:Zaj o.ins=true) (h:ZS O byref o site tm σ=some (v,tm1,σ1,c)) (ha:c.any=true) (ht:σ[t]?=some (.var cs)) :
  (c.upd.lookup t=none→σ1[t]?=some (.var cs))∧(∀ cs2,c.upd.lookup t=some cs2→σ1[t]?=some (.var cs2)):=by
 rcases Zon hc h with ⟨hw,rfl,rfl,rfl⟩ | ⟨hw,hf,f,own,view,args,ho,gen,hg⟩
 ·cases ha
 ·exact ZDw hg ha ht
theorem Zxw {σ σ1 : Za} {site k bytes : Nat} {x y v : AVal} {c : Cls} {t : Nat} {cs : List AVal} (h : Zbk σ site k bytes x y = some (v, σ1, c)) (hs : site ≠ t) (ht : σ[t]? = some (.var cs)) : σ1[t]? = some (.var cs) := by
  have key : ∀ (u : Nat) (b : ZM), (u = site ∨ ∃ b0, σ[u]? = some b0 ∧ ∀ cs, b0 ≠ .var cs) → (σ.set u b)[t]? = some (.var cs) := by
    intro u b hu
    rw [List.getElem?_set, if_neg, ht]
    rintro rfl
    rcases hu with rfl | ⟨b0, h1, h2⟩
    · exact hs rfl
    · rw [ht] at h1; injection h1 with h1; exact h2 _ h1.symm
  unfold Zbk at h
  repeat' split at h
  all_goals first
    | (cases h; done)
    | (unfold Zg4 at h
       repeat' split at h
       all_goals first
         | (cases h; done)
         | (simp only [Option.some.injEq, Prod.mk.injEq] at h
            obtain ⟨-, rfl, -⟩ := h
            first
              | exact key _ _ (Or.inl rfl)
              | exact key _ _ (Or.inr ⟨_, by assumption, by simp⟩)))
    | (simp only [Option.some.injEq, Prod.mk.injEq] at h
       obtain ⟨-, rfl, -⟩ := h
       first
         | exact ht
         | exact key _ _ (Or.inl rfl)
         | exact key _ _ (Or.inr ⟨_, by assumption, by simp⟩))
theorem Zwe {o:AOp} {v:AVal} {c:Cls} {t:Nat} {cs:List AVal} (hc:Zav o.ins=true) (h:ZS O byref o site tm σ=some (v,tm1,σ1,c)) (ht:σ[t]?=some (.var cs)):σ1[t]?=some (.var cs):=by
 unfold ZS at h
 split at h
 ·cases h
 ·simp only [Option.some.injEq,Prod.mk.injEq] at h
  obtain ⟨rfl,rfl,rfl,rfl⟩:=h
  exact ht
 ·split at h
  ·rename_i hf
   split at h
   ·rename_i v' σ'' c' he
    simp only [Option.some.injEq,Prod.mk.injEq] at h
    obtain ⟨rfl,rfl,rfl,rfl⟩:=h
    cases hins:o.ins with
    | app k bytes z x y =>
     rw [hins] at he hf
     simp only [execI] at he
     refine Zxw he ?_ ht
     rintro rfl
     simp [nsite,freeAt,ht] at hf
    | _=>rw [hins] at hc;simp [Zav] at hc
   ·cases h
  ·cases h
theorem Zl3 {t:Nat} {cs:List AVal}:∀ (ts:List Nat) (σ:Za),σ[t]?=some (.var cs)→(Zn σ ts)[t]?=some (.var cs)
 | [],σ,h=>h
 | u::ts,σ,h=>by
  unfold Zn
  split
  ·rename_i g k xs hu
   refine Zl3 ts _ ?_
   rw [List.getElem?_set,if_neg,h]
   rintro rfl
   rw [hu] at h;cases h
  ·exact Zl3 ts σ h
theorem Zw0 {σ σ1 : Za} {k : Nat} {a x v : AVal} {c : Cls} {t : Nat} {cs : List AVal} (h : stA σ k a x = some (v, σ1, c)) (hw : c.wr.contains t = false) (ht : σ[t]? = some (.var cs)) : σ1[t]? = some (.var cs) := by
  unfold stA at h
  repeat' split at h
  all_goals first
    | (cases h; done)
    | (simp only [Option.some.injEq, Prod.mk.injEq] at h
       obtain ⟨-, rfl, rfl⟩ := h
       simp only [List.contains_cons, List.contains_nil, Bool.or_false, Bool.or_eq_false_iff, beq_eq_false_iff_ne, ne_eq] at hw
       first
         | (rw [List.getElem?_set, if_neg (fun e => hw e.symm)]; exact ht)
         | (rw [List.getElem?_set, if_neg (fun e => hw.1 e.symm)]; exact Zl3 _ _ ht))
theorem ZvW {o:AOp} {v:AVal} {c:Cls} {t:Nat} {cs:List AVal} (hc:Zar o.ins=true) (hw:c.wr.contains t=false) (h:ZS O byref o site tm σ=some (v,tm1,σ1,c)) (ht:σ[t]?=some (.var cs)):σ1[t]?=some (.var cs):=by
 unfold ZS at h
 split at h
 ·cases h
 ·simp only [Option.some.injEq,Prod.mk.injEq] at h
  obtain ⟨rfl,rfl,rfl,rfl⟩:=h
  exact ht
 ·split at h
  ·rename_i hf
   split at h
   ·rename_i v' σ'' c' he
    simp only [Option.some.injEq,Prod.mk.injEq] at h
    obtain ⟨rfl,rfl,rfl,rfl⟩:=h
    cases hins:o.ins with
    | st k x y =>
     rw [hins] at he hf
     simp only [execI] at he
     exact Zw0 he hw ht
    | _=>rw [hins] at hc;simp [Zar] at hc
   ·cases h
  ·cases h
theorem ZqV {o : AOp} {v : AVal} {c ci : Cls} (hl : Zak o.ins = true) (h : ZS O byref o site tm σ = some (v, tm1, σ1, c)) (hg : Zam c ci = true) :
    ∃ t k off, c.got = [(t, k, off, v)] ∧ σ1 = σ ∧ tm1 = tput tm o.dst v ∧ (∀ tm' σ2, (∀ n ∈ o.reads, tget tm n = tget tm' n) → (∃ cs, σ2[t]? = some (.var cs) ∧ partA k cs off = some v) → ZS O byref o site tm' σ2 = some (v, tput tm' o.dst v, σ2, c)) ∧ ∃ cs, σ[t]? = some (.var cs) ∧ partA k cs off = some v := by
  unfold ZS at h
  split at h
  · cases h
  · simp only [Option.some.injEq, Prod.mk.injEq] at h
    obtain ⟨rfl, rfl, rfl, rfl⟩ := h
    simp [Zam] at hg
  · rename_i hw
    split at h
    · rename_i hf
      split at h
      · rename_i v' σ'' c' he
        simp only [Option.some.injEq, Prod.mk.injEq] at h
        obtain ⟨rfl, rfl, rfl, rfl⟩ := h
        cases hins : o.ins with
        | ld k a =>
          rw [hins] at he hf
          simp only [execI] at he
          have he0 := he
          unfold ldA at he
          split at he
          · rename_i t off ha
            split at he
            · rename_i cs hcs
              split at he
              · rename_i v2 hp
                simp only [Option.some.injEq, Prod.mk.injEq] at he
                obtain ⟨rfl, rfl, rfl⟩ := he
                refine ⟨t, k, off, rfl, rfl, rfl, fun tm' σ2 hr ⟨cs2, h1, h2⟩ => ?_, cs, hcs, hp⟩
                simp only [ZS, Zgo (g := o.guard) (tm := tm') (tm1 := tm) (fun j b hg => (hr j (ZgS hg)).symm), hw]
                rw [if_pos (by rw [hins]; rfl), ← ZkN (tm := tm) (tm' := tm') (fun n hn => hr n (ZkW hn)), hins]
                simp only [execI, ha, ldA, h1, h2]
              · cases he
            · cases he
          · repeat' split at he
            all_goals first
              | (cases he; done)
              | (simp only [Option.some.injEq, Prod.mk.injEq] at he
                 obtain ⟨rfl, rfl, rfl⟩ := he
                 simp [Zam] at hg)
          · repeat' split at he
            all_goals first
              | (cases he; done)
              | (simp only [Option.some.injEq, Prod.mk.injEq] at he
                 obtain ⟨rfl, rfl, rfl⟩ := he
                 simp [Zam] at hg)
          · cases he
        | _ => rw [hins] at hl; simp [Zak] at hl
      · cases h
    · cases h
theorem ZqT {oj oi:AOp} {sj si:Nat} {vj vi:AVal} {cj ci:Cls} (hj:ZS O byref oj sj tm σ=some (vj,tm1,σ1,cj)) (hi:ZS O byref oi si tm1 σ1=some (vi,tm2,σ2,ci)) (hap:oj.apartT oi=true)
  (hp:Zcn oj oi cj ci sj=true) (hs:nsite oj.ins≠0→nsite oi.ins≠0→sj≠si) (hs2:sj+nsite oj.ins≤si):∃ tm1' σ1',ZS O byref oi si tm σ=some (vi,tm1',σ1',ci)∧ZS O byref oj sj tm1' σ1'=some (vj,tm2,σ2,cj):=by
 have hd:(∀ d,oj.dst=some d→d ∉ oi.reads)∧(∀ d,oj.dst=some d→oi.dst≠some d)∧(∀ d,oi.dst=some d→d ∉ oj.reads):=by
  unfold AOp.apartT at hap
  simp only [Bool.and_eq_true] at hap
  refine ⟨fun d hd hr=>?_,fun d hd he=>?_,fun d hd hr=>?_⟩
  ·have:=hap.1;rw [hd] at this;simp [hr] at this
  ·have:=hap.1;rw [hd] at this;simp [he] at this
  ·have:=hap.2;rw [hd] at this;simp [hr] at this
 obtain ⟨d1,d2,d3⟩:=hd
 have rdI:∀ v n,n ∈ oi.reads→tget (tput tm oj.dst v) n=tget tm n:=fun v n hn=>ZqM (by intro e;exact d1 n e hn)
 have rdJ:∀ v n,n ∈ oj.reads→tget tm n=tget (tput tm oi.dst v) n:=fun v n hn=>(ZqM (by intro e;exact d3 n e hn)).symm
 unfold Zcn at hp
 simp only [Bool.or_eq_true,Bool.and_eq_true] at hp
 have noWr_of:∀ {o:AOp} {c:Cls},Zcg o c=true→ZdB c=true∧c.rd=[]∧nsite o.ins=0:=by
  intro o c h
  simp only [Zcg,Bool.and_eq_true,beq_iff_eq,List.isEmpty_iff] at h
  exact ⟨by simp [ZdB,h.1.2,h.2],h.1.1.2,h.1.1.1⟩
 rcases hp with ((((hp | hp) | ⟨⟨hp1,hp2⟩,hp3⟩) | ⟨hp1,hp2,hp3⟩) | ⟨⟨⟨hp1,hp2⟩,hp3⟩,hp4⟩) | ⟨⟨hp1,hp2⟩,hp4⟩
 ·obtain ⟨w1,w2,w3⟩:=noWr_of hp
  obtain ⟨ob,rfl,rfl,e3,_,_,e6⟩:=Zij hj w1
  have hob:ob=none:=by
   cases ob with
   | none=>rfl
   | some b=>exact absurd w3 (e3 rfl).1
  subst hob
  simp only [Zbj] at hi e6 ⊢
  obtain ⟨rfl,f2⟩:=ZiR hi
  have g1:=f2 tm (rdI vj)
  refine ⟨_,_,g1,?_⟩
  rw [e6 _ σ2 (rdJ vi) (by rw [w2];intro t ht;simp at ht) (fun h=>absurd w3 h),ZgP vi vj (fun d hd he=>d2 d he hd)]
 ·obtain ⟨w1,w2,w3⟩:=noWr_of hp
  obtain ⟨ob,rfl,rfl,e3,_,_,e6⟩:=Zij hi w1
  have hob:ob=none:=by
   cases ob with
   | none=>rfl
   | some b=>exact absurd w3 (e3 rfl).1
  subst hob
  simp only [Zbj] at e6 ⊢
  obtain ⟨rfl,f2⟩:=ZiR hj
  have g1:=e6 tm σ (rdI vj) (by rw [w2];intro t ht;simp at ht) (fun h=>absurd w3 h)
  refine ⟨_,_,g1,?_⟩
  rw [f2 _ (rdJ vi),ZgP vi vj (fun d hd he=>d2 d he hd)]
 ·obtain ⟨ob,rfl,rfl,a3,a4,a5,a6⟩:=Zij hj hp1
  obtain ⟨oc,rfl,rfl,b3,b4,b5,b6⟩:=Zij hi hp2
  have hsne:ob.isSome=true→nsite oi.ins≠0→sj≠si:=fun h1 h2=>hs (a3 h1).1 h2
  have hrdi:∀ t ∈ ci.rd,ob.isSome=true→sj≠t:=by
   intro t ht ho e
   subst e
   rcases hp3 with hp3 | hp3
   ·exact (a3 ho).1 (by simpa using hp3)
   ·simp [ht] at hp3
  have g1:=b6 tm σ (rdI vj) (fun t ht=>(Zh8 (hrdi t ht)).symm) (fun h2 hf=>by
   rw [Zf6] at hf ⊢
   rwa [Zh8 (fun ho=>hsne ho h2)] at hf)
  refine ⟨_,_,g1,?_⟩
  have hsi:oc.isSome=true→σ[si]?=some .free:=by
   intro ho
   have:=(b3 ho).2
   rw [Zf6,Zh8 (fun ho'=>hsne ho' (b3 ho).1)] at this
   exact this
  rw [a6 _ (Zbj σ si oc) (rdJ vi) (fun t ht=>Zh8 (fun ho e=>by
   subst e
   obtain ⟨x,hx,hne⟩:=a5 si ht
   rw [hsi ho] at hx;injection hx with hx;exact hne hx.symm)) (fun h1 hf=>by
   rw [Zf6] at hf ⊢
   rwa [Zh8 (fun ho=>(hs h1 (b3 ho).1).symm)]),ZgP vi vj (fun d hd he=>d2 d he hd),Zvy (fun h1 h2=>(hs (a3 h2).1 (b3 h1).1).symm)]
 ·obtain ⟨oc,rfl,rfl,b3,b4,b5,b6⟩:=Zij hi hp2
  have hrd:ci.rd=[]:=by simpa using hp3
  obtain ⟨rfl,f2⟩:=ZiR hj
  cases oc with
  | none =>
   simp only [Zbj] at b6 ⊢
   have g1:=b6 tm σ (rdI vj) (by rw [hrd];intro t ht;simp at ht) (fun h1 h2=>by
    rw [Zf6] at h2 ⊢
    exact ZBc hp1 hj h2)
   refine ⟨_,_,g1,?_⟩
   rw [f2 _ (rdJ vi),ZgP vi vj (fun d hd he=>d2 d he hd)]
  | some b =>
   have hfr:=(b3 rfl).2
   rw [Zf6] at hfr
   obtain ⟨k1,k2⟩:=ZEs hp1 hj hfr (fun i hi=>by omega)
   have g1:=b6 tm σ (rdI vj) (by rw [hrd];intro t ht;simp at ht) (fun h1 h2=>by
    rw [Zf6] at h2 ⊢;exact k1)
   refine ⟨_,_,g1,?_⟩
   have:=k2 b (tput tm oi.dst vi) (rdJ vi)
   simp only [Zbj]
   rw [this,ZgP vi vj (fun d hd he=>d2 d he hd)]
 ·obtain ⟨t,k,o,q1,rfl,rfl,q4,q5⟩:=ZqV hp1 hj hp4
  obtain ⟨rfl,f2⟩:=ZiR hi
  have g1:=f2 tm (rdI vj)
  refine ⟨_,_,g1,?_⟩
  obtain ⟨cs,q6,q7⟩:=q5
  obtain ⟨r1,r2⟩:=ZHk hp2 hi hp3 q6
  have hv:∃ cs,σ2[t]?=some (.var cs)∧partA k cs o=some vj:=by
   unfold Zam at hp4
   rw [q1] at hp4
   simp only at hp4
   split at hp4
   ·rename_i hl;exact ⟨cs,r1 hl,q7⟩
   ·rename_i cs2 hl
    split at hp4
    ·rename_i u hu
     rw [ZDt hp4] at hu
     exact ⟨cs2,r2 cs2 hl,hu⟩
    ·cases hp4
  rw [q4 _ σ2 (rdJ vi) hv,ZgP vi vj (fun d hd he=>d2 d he hd)]
 ·obtain ⟨t,k,o,q1,rfl,rfl,q4,q5⟩:=ZqV hp1 hj hp4
  obtain ⟨rfl,f2⟩:=ZiR hi
  have g1:=f2 tm (rdI vj)
  refine ⟨_,_,g1,?_⟩
  obtain ⟨cs,q6,q7⟩:=q5
  have hk:σ2[t]?=some (.var cs):=by
   rcases hp2 with hp2 | ⟨hp2,hp3⟩
   ·exact Zwe hp2 hi q6
   ·refine ZvW hp2 ?_ hi q6
    unfold Zay at hp3
    rw [q1] at hp3
    simpa using hp3
  rw [q4 _ σ2 (rdJ vi) ⟨cs,hk,q7⟩,ZgP vi vj (fun d hd he=>d2 d he hd)]
inductive Zcr (O:ZR) (byref:Nat→Bool) (ops:List AOp) (L:Nat) (cs:List Cls):List Nat→Tms→Za→Tms→Za→Prop
 | nil {tm:Tms} {σ:Za}:Zcr O byref ops L cs [] tm σ tm σ
 | cons {i:Nat} {l:List Nat} {v:AVal} {tm tm1 tm2:Tms} {σ σ1 σ2:Za}:ZS O byref (ops.getD i default) (L+sitesOf (ops.take i)) tm σ=some (v,tm1,σ1,cs.getD i {})→(∀ x,v≠.pan x)→Zcr O byref ops L cs l tm1 σ1 tm2 σ2→Zcr O byref ops L cs (i::l) tm σ tm2 σ2
theorem ZlY (ops:List AOp) {k:Nat} (h:k < ops.length):sitesOf (ops.take (k+1))=sitesOf (ops.take k)+nsite (ops[k]).ins:=by
 rw [List.take_succ_eq_append_getElem h]
 simp only [sitesOf,List.map_append,List.sum_append,List.map_cons,List.map_nil,List.sum_cons,List.sum_nil,Nat.add_zero]
theorem Zs3 {ops:List AOp} {L:Nat}:∀ (m k:Nat) {cs cs':List Cls} {tm:Tms} {σ:Za} {tm':Tms} {σ':Za},k+m=ops.length→ZW O byref (ops.drop k) (L+sitesOf (ops.take k)) tm σ=some (tm',σ',cs',none)→(∀ j,cs'.getD j {}=cs.getD (k+j) {})→Zcr O byref ops L cs (List.range' k m) tm σ tm' σ'
 | 0,k,cs,cs',tm,σ,tm',σ',hk,h,hcs=>by
  rw [List.drop_eq_nil_of_le (by omega)] at h
  simp only [ZW,Option.some.injEq,Prod.mk.injEq] at h
  obtain ⟨rfl,rfl,rfl,_⟩:=h
  exact Zcr.nil
 | m+1,k,cs,cs',tm,σ,tm',σ',hk,h,hcs=>by
  have hlt:k < ops.length:=by omega
  rw [List.drop_eq_getElem_cons hlt] at h
  simp only [ZW] at h
  split at h
  ·cases h
  ·simp only [Option.some.injEq,Prod.mk.injEq] at h
   obtain ⟨_,_,_,h⟩:=h
   cases h
  rename_i v tm1 σ1 c hnp h1
  split at h
  ·cases h
  rename_i tm2 σ2 cs2 p h2
  simp only [Option.some.injEq,Prod.mk.injEq] at h
  obtain ⟨rfl,rfl,rfl,rfl⟩:=h
  rw [List.range'_succ]
  have hc0:=hcs 0
  simp only [List.getD_cons_zero,Nat.add_zero] at hc0
  refine Zcr.cons (v:=v) (tm1:=tm1) (σ1:=σ1) ?_ (fun x e=>?_) (Zs3 m (k+1) (by omega) (cs':=cs2) ?_ (fun j=>?_))
  ·rw [←hc0]
   simpa [List.getD_eq_getElem?_getD,hlt] using h1
  ·exact hnp x e
  ·rw [ZlY ops hlt,←Nat.add_assoc];exact h2
  ·have:=hcs (j+1)
   simp only [List.getD_cons_succ] at this
   rw [this]
   congr 1;omega
theorem ZnK {ops:List AOp} {L:Nat} {cs:List Cls} {i:Nat} {l2:List Nat}:∀ {l1:List Nat} {tm:Tms} {σ:Za} {tm':Tms} {σ':Za},(∀ j ∈ l1,(ops.getD j default).apartT (ops.getD i default)=true∧Zcn (ops.getD j default) (ops.getD i default) (cs.getD j {}) (cs.getD i {}) (L+sitesOf (ops.take j))=true∧(nsite (ops.getD j default).ins≠0→nsite (ops.getD i default).ins≠0→L+sitesOf (ops.take j)≠L+sitesOf (ops.take i))∧L+sitesOf (ops.take j)+nsite (ops.getD j default).ins≤L+sitesOf (ops.take i)) →
  Zcr O byref ops L cs (l1++i::l2) tm σ tm' σ'→∃ v tm1 σ1,ZS O byref (ops.getD i default) (L+sitesOf (ops.take i)) tm σ=some (v,tm1,σ1,cs.getD i {})∧(∀ x,v≠.pan x)∧Zcr O byref ops L cs (l1++l2) tm1 σ1 tm' σ'
 | [],tm,σ,tm',σ',_,h=>by
  cases h with
  | cons h1 hn h2=>exact ⟨_,_,_,h1,hn,h2⟩
 | j::l1,tm,σ,tm',σ',hall,h=>by
  cases h with
  | cons h1 hn h2 =>
   obtain ⟨v3,tm3,σ3,h3,hn3,h4⟩:=ZnK (l1:=l1) (fun k hk=>hall k (by simp [hk])) h2
   obtain ⟨p1,p2,p3,p4⟩:=hall j (by simp)
   obtain ⟨tm4,σ4,h5,h6⟩:=ZqT h1 h3 p1 p2 p3 p4
   exact ⟨v3,tm4,σ4,h5,hn3,Zcr.cons h6 hn h4⟩
theorem ZtS {ops:List AOp} {L:Nat} {x:AVal}:∀ (m k:Nat) {cs cs':List Cls} {tm:Tms} {σ:Za} {tm':Tms} {σ':Za},k+m=ops.length→ZW O byref (ops.drop k) (L+sitesOf (ops.take k)) tm σ=some (tm',σ',cs',some x)→(∀ j,cs'.getD j {}=cs.getD (k+j) {}) →
  ∃ n tmJ σJ tmX,n < m∧cs'.length=n+1∧Zcr O byref ops L cs (List.range' k n) tm σ tmJ σJ∧ZS O byref (ops.getD (k+n) default) (L+sitesOf (ops.take (k+n))) tmJ σJ=some (.pan x,tmX,σ',cs.getD (k+n) {})
 | 0,k,cs,cs',tm,σ,tm',σ',hk,h,hcs=>by
  rw [List.drop_eq_nil_of_le (by omega)] at h
  simp [ZW] at h
 | m+1,k,cs,cs',tm,σ,tm',σ',hk,h,hcs=>by
  have hlt:k < ops.length:=by omega
  rw [List.drop_eq_getElem_cons hlt] at h
  simp only [ZW] at h
  have hc0:=hcs 0
  have hg:ops.getD k default=ops[k]:=by simp [List.getD_eq_getElem?_getD,hlt]
  split at h
  ·cases h
  ·rename_i y tm1 σ1 c h1
   simp only [Option.some.injEq,Prod.mk.injEq] at h
   obtain ⟨rfl,rfl,rfl,rfl⟩:=h
   simp only [List.getD_cons_zero,Nat.add_zero] at hc0
   refine ⟨0,tm,σ,tm1,by omega,rfl,Zcr.nil,?_⟩
   rw [Nat.add_zero,←hc0,hg]
   exact h1
  rename_i v tm1 σ1 c hnp h1
  split at h
  ·cases h
  rename_i tm2 σ2 cs2 p h2
  simp only [Option.some.injEq,Prod.mk.injEq] at h
  obtain ⟨rfl,rfl,rfl,rfl⟩:=h
  simp only [List.getD_cons_zero,Nat.add_zero] at hc0
  have hnext:ZW O byref (ops.drop (k+1)) (L+sitesOf (ops.take (k+1))) tm1 σ1=some (tm2,σ2,cs2,some x):=by
   rw [ZlY ops hlt,←Nat.add_assoc]
   exact h2
  obtain ⟨n,tmJ,σJ,tmX,g1,g2,g3,g4⟩:=ZtS m (k+1) (cs:=cs) (by omega) hnext (fun j=>by
   have:=hcs (j+1)
   simp only [List.getD_cons_succ] at this
   rw [this];congr 1;omega)
  refine ⟨n+1,tmJ,σJ,tmX,by omega,by simp [g2],?_,?_⟩
  ·rw [List.range'_succ]
   refine Zcr.cons (v:=v) (tm1:=tm1) (σ1:=σ1) ?_ (fun x e=>hnp x e) g3
   rw [←hc0,hg]
   exact h1
  ·rw [show k+(n+1)=k+1+n by omega]
   exact g4
theorem ZAx {o:AOp} {v:AVal} {c:Cls} {tm tm1:Tms} {σ σ1:Za} {site:Nat} (hq:o.ins.touches=false∨Zak o.ins=true) (h:ZS O byref o site tm σ=some (v,tm1,σ1,c)):σ1=σ:=by
 unfold ZS at h
 split at h
 ·cases h
 ·simp only [Option.some.injEq,Prod.mk.injEq] at h;exact h.2.2.1.symm
 ·split at h
  ·split at h
   ·rename_i he
    simp only [Option.some.injEq,Prod.mk.injEq] at h
    rw [←h.2.2.1]
    rcases hq with hq | hq
    ·exact ZwK hq he
    ·cases hi:o.ins with
     | ld k a =>
      rw [hi] at he
      simp only [execI] at he
      unfold ldA at he
      repeat' split at he
      all_goals first | (simp only [Option.some.injEq,Prod.mk.injEq] at he;exact he.2.1.symm) | cases he
     | _=>rw [hi] at hq;simp [Zak] at hq
   ·cases h
  ·cases h
theorem Zqg {ops:List AOp} {L:Nat} {cs:List Cls} {i:Nat} {x:AVal} {tmX:Tms} {σX:Za}:∀ {l1:List Nat} {tm:Tms} {σ:Za} {tm':Tms} {σ':Za},(∀ j ∈ l1,((ops.getD j default).ins.touches=false∨Zak (ops.getD j default).ins=true)∧(ops.getD j default).apartT (ops.getD i default)=true∧Zcn (ops.getD j default) (ops.getD i default) (cs.getD j {}) (cs.getD i {}) (L+sitesOf (ops.take j))=true∧(nsite (ops.getD j default).ins≠0→nsite (ops.getD i default).ins≠0→L+sitesOf (ops.take j)≠L+sitesOf (ops.take i))∧L+sitesOf (ops.take j)+nsite (ops.getD j default).ins≤L+sitesOf (ops.take i)) →
  Zcr O byref ops L cs l1 tm σ tm' σ'→ZS O byref (ops.getD i default) (L+sitesOf (ops.take i)) tm' σ'=some (.pan x,tmX,σX,cs.getD i {})→∃ tm1,ZS O byref (ops.getD i default) (L+sitesOf (ops.take i)) tm σ=some (.pan x,tm1,σX,cs.getD i {})
 | [],tm,σ,tm',σ',_,h,hp=>by
  cases h
  exact ⟨_,hp⟩
 | j::l1,tm,σ,tm',σ',hall,h,hp=>by
  cases h with
  | cons h1 hn h2 =>
   obtain ⟨tm3,h3⟩:=Zqg (l1:=l1) (fun k hk=>hall k (by simp [hk])) h2 hp
   obtain ⟨hq,p1,p2,p3,p4⟩:=hall j (by simp)
   obtain ⟨tm4,σ4,h5,h6⟩:=ZqT h1 h3 p1 p2 p3 p4
   have:=ZAx hq h6
   subst this
   exact ⟨tm4,h5⟩
end
end Go.Proofs.YtmlkhhidifjjfaaDoor
namespace Go.Proofs.YtmlkhhidifjjfaaDoor
open Go.RowKit
section
variable {P:Program} {O:ZR} {byref:Nat→Bool} {an:Ann} {base:Nat→Prop} {w0:World} {I0:Imm}
structure Door where
 D:List Deferred
 K:List Nat
 X:Nat→Value
def Door.ok (dr:Door) (a:Act):Prop:=a.defers=dr.D∧∀ j ∈ dr.K,a.tmps.getD j undef=dr.X j
def ZbR:Door:=⟨[],[],fun _=>undef⟩
theorem ZeW {a:Act}:ZbR.ok a↔a.defers=[]:=by simp [Door.ok,ZbR]
def StR (dr:Door) (nt:Nat) (base:Nat→Prop) (w0:World) (I0 I:Imm) (β:Bmap) (tm:Tms) (σ:Za) (a:Act) (w:World):Prop :=
 ∃ I' β',I.le I'∧β.le β'∧TR I' β' tm a.tmps∧(dr.ok a∧nt≤a.tmps.size)∧Rel base w0 I0 I' β' σ w
variable {dr:Door}
theorem StR.trans {nt:Nat} {I I1:Imm} {β β1:Bmap} {tm:Tms} {σ:Za} {a:Act} {w:World} (hI:I.le I1) (hβ:β.le β1) (h:StR dr nt base w0 I0 I1 β1 tm σ a w):StR dr nt base w0 I0 I β tm σ a w:=by
 obtain ⟨I',β',h1,h2,h3⟩:=h
 exact ⟨I',β',hI.trans h1,hβ.trans h2,h3⟩
theorem Post.trans {I I1:Imm} {β β1:Bmap} {x:AVal} {σ:Za} {u:Value} {w:World} (hI:I.le I1) (hβ:β.le β1) (h:Post base w0 I0 I1 β1 x σ u w):Post base w0 I0 I β x σ u w:=by
 obtain ⟨I',β',h1,h2,h3⟩:=h
 exact ⟨I',β',hI.trans h1,hβ.trans h2,h3⟩
theorem Zoz {I:Imm} {β:Bmap} {tm:Tms} {a:Act} {v:AVal} {u:Value} (T:TR I β tm a.tmps) (hv:VR I β v u) {d:Option Nat} (hd:∀ n,d=some n→n < a.tmps.size):TR I β (tput tm d v) (a.put d u).tmps:=by
 cases d with
 | none=>exact T
 | some d=>exact T.put hv (hd d rfl)
theorem ZDX (a:Act) (d:Option Nat) (u:Value):(a.put d u).defers=a.defers:=by cases d <;> rfl
theorem ZlH {a:Act} {d:Option Nat} {u:Value} (h:dr.ok a) (hd:∀ n,d=some n→n ∉ dr.K):dr.ok (a.put d u):=by
 refine ⟨(ZDX a d u).trans h.1,fun j hj=>?_⟩
 rw [←h.2 j hj]
 cases d with
 | none=>rfl
 | some n =>
  have hne:n≠j:=by rintro rfl;exact hd n rfl hj
  simp only [Act.put,Array.getD_eq_getD_getElem?]
  rw [Array.getElem?_setIfInBounds_ne hne]
theorem Zew (a:Act) (d:Option Nat) (u:Value):(a.put d u).tmps.size=a.tmps.size:=by cases d <;> simp [Act.put]
theorem Zug {I:Imm} {β:Bmap} {tm:Tms} {a:Act} (T:TR I β tm a.tmps) {ops:Array Oper} {o:Oper} {g:Option (Nat×Bool)} (hg:Zkn ops o.guard=some g) {b:Bool} (h:Zbw g tm=some b):Region.wanted o (yielded ops a.tmps)=b:=by
 unfold Zkn at hg
 unfold Region.wanted
 split at hg
 ·rename_i e
  injection hg with hg;subst hg
  simp only [Zbw,Option.some.injEq] at h
  subst h
  rw [e]
 ·rename_i j want e
  split at hg
  ·rename_i o' ho'
   split at hg
   ·rename_i d hd
    injection hg with hg;subst hg
    rw [e]
    show (yielded ops a.tmps j == some want)=b
    have hy:yielded ops a.tmps j=match a.tmps[d]? with | some (.bool b)=>some b | _=>none:=by
     simp only [yielded,ho',Option.bind_some,hd]
     rfl
    rw [hy]
    have hx:=T d
    rw [Array.getD_eq_getD_getElem?] at hx
    simp only [Zbw] at h
    split at h
    ·rename_i b' hb'
     rw [hb'] at hx
     simp only [VR] at hx
     have : a.tmps[d]?=some (.bool b'):=by
      cases hq:a.tmps[d]? with
      | none=>rw [hq] at hx;simp [undef] at hx
      | some q=>rw [hq] at hx;simp at hx;subst hx;rfl
     rw [this]
     simp only [Option.some.injEq] at h
     subst h
     cases b' <;> cases want <;> rfl
    ·rename_i hb'
     rw [hb'] at hx
     simp only [VR,VRs] at hx
     obtain ⟨us,hus,hnil⟩:=hx
     injection h with h;subst h
     cases hq:a.tmps[d]? with
     | none=>rfl
     | some q =>
      rw [hq] at hus;simp at hus;subst hus
      rfl
    ·cases h
   ·cases hg
  ·cases hg
theorem Zpd {ops:Array Oper} {o:Oper} {ao:AOp} (hc:ZgE P an ops o=some ao):∃ g i,Zkn ops o.guard=some g∧(∃ own,Zaa P an own o.op=some i)∧(∀ n,o.dst=some n→n < an.nt∧n ∉ an.keep)∧ao=⟨o.dst,i,g,(o.after.toList.filter (Region.binds .any)).map (·.on)⟩:=by
 unfold ZgE at hc
 split at hc
 ·rename_i g i hg hi
  split at hc
  ·rename_i hd
   injection hc with hc
   refine ⟨g,i,hg,⟨_,hi⟩,fun n hn=>?_,hc.symm⟩
   rw [hn] at hd
   simp only [Ztb,Bool.and_eq_true,decide_eq_true_eq,Bool.not_eq_true',List.contains_eq_mem,decide_eq_false_iff_not] at hd
   exact hd
  ·cases hc
 ·cases hc
theorem ZiL (hO:ZaN P O) (hkp:∀ n ∈ dr.K,n ∈ an.keep) {ops:Array Oper} {o:Oper} {ao:AOp} (hc:ZgE P an ops o=some ao) {I:Imm} {β:Bmap} {tm tm':Tms} {σ σ':Za} {a:Act} {w:World} (T:TR I β tm a.tmps) (hd:dr.ok a∧an.nt≤a.tmps.size) (R:Rel base w0 I0 I β σ w) (hb:KLt base w0)
  {site:Nat} {v:AVal} {c:Cls} (h:ZS O byref ao site tm σ=some (v,tm',σ',c)) {K:Act→World→Prop} {Q:Exit→Act→World→Prop} (hK:(∀ x,v≠.pan x)→∀ a' w',StR dr an.nt base w0 I0 I β tm' σ' a' w'→K a' w')
  (hQ:∀ x,v=.pan x→∀ u w',Post base w0 I0 I β x σ' u w'→Q (.panic [{ v:=u,recovered:=false }]) a w') :
  if Region.wanted o (yielded ops a.tmps) then o.wp P a w K Q∨(o.asks P a w∧LetsOut Q) else K (a.put o.dst undef) w:=by
 obtain ⟨g,i,hg,⟨own,hi⟩,hdst,rfl⟩:=Zpd hc
 have hdst':∀ n,o.dst=some n→n < a.tmps.size:=fun n hn=>Nat.lt_of_lt_of_le (hdst n hn).1 hd.2
 have hdk:∀ n,o.dst=some n→n ∉ dr.K:=fun n hn hm=>(hdst n hn).2 (hkp n hm)
 unfold ZS at h
 split at h
 ·cases h
 ·rename_i hw
  simp only at hw
  rw [Zug T hg hw]
  simp only [Option.some.injEq,Prod.mk.injEq] at h
  obtain ⟨rfl,rfl,rfl,rfl⟩:=h
  simp only [Bool.false_eq_true,if_false]
  exact hK (by simp) _ _ ⟨I,β,Imm.le.refl I,Bmap.le.refl β,Zoz T (Zji I β) hdst',⟨ZlH hd.1 hdk,by rw [Zew];exact hd.2⟩,R⟩
 ·rename_i hw
  simp only at hw
  rw [Zug T hg hw]
  simp only [if_true]
  split at h
  ·rename_i hf
   split at h
   ·rename_i v' σ1 c' he
    simp only [Option.some.injEq,Prod.mk.injEq] at h
    obtain ⟨rfl,rfl,rfl,rfl⟩:=h
    have hs:nsite i≠0→σ[site]?=some .free:=by
     intro hn
     simp only [Bool.or_eq_true,beq_iff_eq] at hf
     exact Zf6.1 (hf.resolve_left hn)
    rcases ZCV hO hi T R hb hs he with hok | ⟨x,rfl,hpan⟩
    ·refine Or.inl (hok.wp (fun u w' hp=>?_))
     obtain ⟨I',β',h1,h2,h3,h4⟩:=hp
     refine hK ?_ _ _ ⟨I',β',h1,h2,Zoz (T.mono h1 h2) h4 hdst',⟨ZlH hd.1 hdk,by rw [Zew];exact hd.2⟩,h3⟩
     rintro x rfl
     simp only [VR] at h4
    ·exact Or.inl (hpan.wp (fun u w' hp=>hQ x rfl u w' hp))
   ·cases h
  ·cases h
theorem Zpn (hO:ZaN P O) (hkp:∀ n ∈ dr.K,n ∈ an.keep) (hb:KLt base w0) {ops:Array Oper} {Q:Exit→Act→World→Prop}:∀ {l:List Oper} {asl:List AOp} {site:Nat} {I:Imm} {β:Bmap} {tm tm':Tms} {σ σ':Za} {cs:List Cls} {p:Option AVal} {a:Act} {w:World},Zdl P an ops l=some asl→TR I β tm a.tmps→(dr.ok a∧an.nt≤a.tmps.size)→Rel base w0 I0 I β σ w →
  ZW O byref asl site tm σ=some (tm',σ',cs,p)→(p=none→∀ a' w',StR dr an.nt base w0 I0 I β tm' σ' a' w'→Q .normal a' w') →
  (∀ x,p=some x→∀ a' u w',dr.ok a'→Post base w0 I0 I β x σ' u w'→Q (.panic [{ v:=u,recovered:=false }]) a' w')→wpList P ops Q l a w
 | [],asl,site,I,β,tm,tm',σ,σ',cs,p,a,w,hc,T,hd,R,h,hQ,_=>by
  simp only [Zdl,Option.some.injEq] at hc;subst hc
  simp only [ZW,Option.some.injEq,Prod.mk.injEq] at h
  obtain ⟨rfl,rfl,rfl,rfl⟩:=h
  exact wpList_nil (hQ rfl _ _ ⟨I,β,Imm.le.refl I,Bmap.le.refl β,T,hd,R⟩)
 | o::l,asl,site,I,β,tm,tm',σ,σ',cs,p,a,w,hc,T,hd,R,h,hQ,hP=>by
  simp only [Zdl] at hc
  split at hc
  ·rename_i ao hao
   split at hc
   ·rename_i as' has'
    injection hc with hc;subst hc
    simp only [ZW] at h
    split at h
    ·cases h
    ·rename_i x tm1 σ1 c1 h1
     simp only [Option.some.injEq,Prod.mk.injEq] at h
     obtain ⟨rfl,rfl,rfl,rfl⟩:=h
     have:=ZiL (dr:=dr) (K:=wpList P ops Q l) (Q:=Q) hO hkp hao T hd R hb h1 (fun hn=>absurd rfl (hn x)) (fun x' e u w' hp=>by
      injection e with e;subst e
      exact hP x rfl a u w' hd.1 hp)
     unfold wpList
     exact this
    ·rename_i v tm1 σ1 c1 hnp h1
     split at h
     ·cases h
     rename_i tm2 σ2 cs2 p2 h2
     simp only [Option.some.injEq,Prod.mk.injEq] at h
     obtain ⟨rfl,rfl,rfl,rfl⟩:=h
     have:=ZiL (dr:=dr) (K:=wpList P ops Q l) (Q:=Q) hO hkp hao T hd R hb h1 (fun _ a' w' hs=>by
      obtain ⟨I',β',g1,g2,g3,g4,g5⟩:=hs
      exact Zpn hO hkp hb has' g3 g4 g5 h2 (fun hp a'' w'' hs'=>hQ hp a'' w'' (hs'.trans g1 g2)) (fun x hx a'' u w'' hd' hp=>hP x hx a'' u w'' hd' (hp.trans g1 g2))) (fun x e=>absurd e (fun e=>hnp x e))
     unfold wpList
     exact this
   ·cases hc
  ·cases hc
theorem Zik {ops:Array Oper}:∀ {l:List Oper} {asl:List AOp},Zdl P an ops l=some asl→asl.length=l.length∧∀ (i:Nat) (o:Oper),l[i]?=some o→∃ ao,asl[i]?=some ao∧ZgE P an ops o=some ao
 | [],asl,h=>by simp only [Zdl,Option.some.injEq] at h;subst h;exact ⟨rfl,fun i o ho=>by simp at ho⟩
 | o::l,asl,h=>by
  simp only [Zdl] at h
  split at h
  ·rename_i ao hao
   split at h
   ·rename_i as' has'
    injection h with h;subst h
    obtain ⟨h1,h2⟩:=Zik has'
    refine ⟨by simp [h1],fun i o' ho'=>?_⟩
    cases i with
    | zero=>simp only [List.getElem?_cons_zero,Option.some.injEq] at ho';subst ho';exact ⟨ao,rfl,hao⟩
    | succ i=>simp only [List.getElem?_cons_succ] at ho' ⊢;exact h2 i o' ho'
   ·cases h
  ·cases h
theorem Zmf:∀ (ls acc:List (List Nat)),(∀ j p,p ∈ (acc.getD j [])→True)→(Zb7 ls acc).take acc.length=acc∧(Zb7 ls acc).length=acc.length+ls.length ∧
  ∀ j,j < ls.length→∀ p,p ∈ (Zb7 ls acc).getD (acc.length+j) []→p ∈ ls.getD j []∨∃ i ∈ ls.getD j [],i < acc.length+j∧p ∈ (Zb7 ls acc).getD i []
 | [],acc,_=>by simp [Zb7]
 | l::ls,acc,_=>by
  obtain ⟨h1,h2,h3⟩:=Zmf ls (acc++[l++l.flatMap fun i=>acc.getD i []]) (fun _ _ _=>trivial)
  simp only [Zb7]
  have hlen:(acc++[l++l.flatMap fun i=>acc.getD i []]).length=acc.length+1:=by simp
  rw [hlen] at h1 h2 h3
  have hpre:∀ i,i < acc.length+1→(Zb7 ls (acc++[l++l.flatMap fun i=>acc.getD i []])).getD i []=(acc++[l++l.flatMap fun i=>acc.getD i []]).getD i []:=by
   intro i hi
   have:=congrArg (fun q:List (List Nat)=>q.getD i []) h1
   simp only [List.getD_eq_getElem?_getD,List.getElem?_take,hi,if_true] at this ⊢
   exact this
  refine ⟨?_,by rw [h2];simp;omega,?_⟩
  ·have:=congrArg (List.take acc.length) h1
   rw [List.take_take,Nat.min_eq_left (by omega)] at this
   rw [this];simp
  ·intro j hj p hp
   cases j with
   | zero =>
    rw [Nat.add_zero,hpre _ (by omega)] at hp
    simp only [List.getD_eq_getElem?_getD,List.getElem?_append_right (Nat.le_refl _),Nat.sub_self,List.getElem?_cons_zero,Option.getD_some,List.mem_append,List.mem_flatMap] at hp
    rcases hp with hp | ⟨i,hi,hp⟩
    ·exact Or.inl (by simpa using hp)
    ·refine Or.inr ⟨i,by simpa using hi,?_,?_⟩
     ·by_cases hlt:i < acc.length
      ·omega
      ·rw [List.getElem?_eq_none (by omega)] at hp;simp at hp
     ·have hlt:i < acc.length:=by
       by_cases hlt:i < acc.length
       ·exact hlt
       ·rw [List.getElem?_eq_none (by omega)] at hp;simp at hp
      rw [hpre i (by omega)]
      simp only [List.getD_eq_getElem?_getD,List.getElem?_append_left hlt]
      exact hp
   | succ j =>
    have:=h3 j (by simpa using hj) p (by rw [show acc.length+1+j=acc.length+(j+1) by omega];exact hp)
    rcases this with h | ⟨i,h4,h5,h6⟩
    ·exact Or.inl (by simpa using h)
    ·exact Or.inr ⟨i,by simpa using h4,by omega,h6⟩
theorem Zuz (f:Nat→Nat) (p:Nat):∀ (l:List Nat) (m:Nat),(l.foldl (fun m i=>m ||| 2 ^ i ||| f i) m).testBit p=true→m.testBit p=true∨p ∈ l∨∃ i ∈ l,(f i).testBit p=true
 | [],m,h=>Or.inl h
 | i::l,m,h=>by
  rcases Zuz f p l _ h with h | h | ⟨j,h1,h2⟩
  ·simp only [Nat.testBit_or,Bool.or_eq_true,Nat.testBit_two_pow,decide_eq_true_eq] at h
   rcases h with (h | h) | h
   ·exact Or.inl h
   ·exact Or.inr (Or.inl (by simp [h]))
   ·exact Or.inr (Or.inr ⟨i,by simp,h⟩)
  ·exact Or.inr (Or.inl (by simp [h]))
  ·exact Or.inr (Or.inr ⟨j,by simp [h1],h2⟩)
theorem ZnL:∀ (ls:List (List Nat)) (accM:List Nat) (accL:List (List Nat)),accM.length=accL.length→(∀ j p,(accM.getD j 0).testBit p=true→p ∈ accL.getD j [])→∀ j p,((Zhf ls accM).getD j 0).testBit p=true→p ∈ (Zb7 ls accL).getD j []
 | [],accM,accL,_,h=>h
 | l::ls,accM,accL,hl,h=>by
  simp only [Zhf,Zb7]
  refine ZnL ls _ _ (by simp [hl]) ?_
  intro j p hp
  by_cases hj:j < accM.length
  ·simp only [List.getD_eq_getElem?_getD,List.getElem?_append_left hj] at hp
   simp only [List.getD_eq_getElem?_getD,List.getElem?_append_left (show j < accL.length by omega)]
   have:=h j p (by simpa [List.getD_eq_getElem?_getD] using hp)
   simpa [List.getD_eq_getElem?_getD] using this
  ·by_cases hj':j=accM.length
   ·subst hj'
    simp only [List.getD_eq_getElem?_getD,List.getElem?_append_right (Nat.le_refl _),Nat.sub_self,List.getElem?_cons_zero,Option.getD_some] at hp
    rw [hl]
    simp only [List.getD_eq_getElem?_getD,List.getElem?_append_right (Nat.le_refl _),Nat.sub_self,List.getElem?_cons_zero,Option.getD_some,List.mem_append,List.mem_flatMap]
    rcases Zuz _ p l 0 hp with h0 | h0 | ⟨i,h1,h2⟩
    ·simp at h0
    ·exact Or.inl h0
    ·refine Or.inr ⟨i,h1,?_⟩
     have:=h i p (by simpa [List.getD_eq_getElem?_getD] using h2)
     simpa [List.getD_eq_getElem?_getD] using this
   ·simp only [List.getD_eq_getElem?_getD] at hp
    rw [List.getElem?_eq_none (by simp;omega)] at hp
    simp at hp
theorem Zr3 {asl:List AOp} {ps:List (Nat×Nat)} (h:Ze8 asl=some ps) :
  (∀ i j,i < j→j < asl.length→i ∉ (Zb7 (asl.map (·.after)) []).getD j []→(asl.getD i default).apartT (asl.getD j default)=true∧((asl.getD i default).ins.touches=false∨(asl.getD j default).ins.touches=false∨(i,j) ∈ ps))∧(∀ j,j < asl.length→∀ i ∈ (asl.getD j default).after,i < j):=by
 have hsub:=ZnL (asl.map (·.after)) [] [] rfl (by simp)
 unfold Ze8 at h
 simp only at h
 split at h
 ·rename_i hc
  simp only [Bool.and_eq_true,List.all_eq_true,List.mem_flatMap,List.mem_map,List.mem_filter,List.mem_range,forall_exists_index,and_imp,Bool.not_eq_true',decide_eq_true_eq] at hc
  obtain ⟨h1,h2⟩:=hc
  injection h with h
  have hbit:∀ i j,i ∉ (Zb7 (asl.map (·.after)) []).getD j []→((Zhf (asl.map (·.after)) []).getD j 0).testBit i=false:=by
   intro i j hn
   cases hb:((Zhf (asl.map (·.after)) []).getD j 0).testBit i with
   | false=>rfl
   | true=>exact absurd (hsub j i hb) hn
  refine ⟨fun i j hij hj hn=>⟨?_,?_⟩,fun j hj i hi=>h2 j hj i hi⟩
  ·exact h1 (i,j) j hj i hij (hbit i j hn) rfl
  ·cases ht1:(asl.getD i default).ins.touches with
   | false=>exact Or.inl rfl
   | true =>
    cases ht2:(asl.getD j default).ins.touches with
    | false=>exact Or.inr (Or.inl rfl)
    | true =>
     refine Or.inr (Or.inr ?_)
     rw [←h]
     rw [List.mem_append]
     refine Or.inl ?_
     simp only [List.mem_filter,List.mem_flatMap,List.mem_map,List.mem_range,Bool.and_eq_true]
     exact ⟨⟨j,hj,i,⟨hij,by rw [hbit i j hn];rfl⟩,rfl⟩,ht1,ht2⟩
 ·cases h
theorem ZMS {asl:List AOp} {ps:List (Nat×Nat)} (h:Ze8 asl=some ps) {j:Nat} (hm:(j,j) ∈ ps):∀ k,j < k→k < asl.length→j ∈ (Zb7 (asl.map (·.after)) []).getD k []:=by
 have hsub:=ZnL (asl.map (·.after)) [] [] rfl (by simp)
 unfold Ze8 at h
 simp only at h
 split at h
 ·injection h with h
  rw [←h,List.mem_append] at hm
  rcases hm with hm | hm
  ·simp only [List.mem_filter,List.mem_flatMap,List.mem_map,List.mem_range,Prod.mk.injEq] at hm
   obtain ⟨⟨a,_,b,⟨hb,_⟩,e1,e2⟩,_⟩:=hm
   omega
  ·simp only [List.mem_map,List.mem_filter,List.mem_range,Prod.mk.injEq,and_self,Bool.and_eq_true,List.all_eq_true,Bool.or_eq_true,decide_eq_true_eq] at hm
   obtain ⟨a,⟨_,_,ha⟩,rfl⟩:=hm
   intro k hk hkl
   rcases ha k hkl with h1 | h1
   ·omega
   ·exact hsub k a h1
 ·cases h
theorem ZEu {asl:List AOp} {ps:List (Nat×Nat)} (h:Ze8 asl=some ps) {j:Nat} (hm:(j,j) ∈ ps):(asl.getD j default).ins.touches=true:=by
 unfold Ze8 at h
 simp only at h
 split at h
 ·injection h with h
  rw [←h,List.mem_append] at hm
  rcases hm with hm | hm
  ·simp only [List.mem_filter,List.mem_flatMap,List.mem_map,List.mem_range,Prod.mk.injEq] at hm
   obtain ⟨⟨a,_,b,⟨hb,_⟩,e1,e2⟩,_⟩:=hm
   omega
  ·simp only [List.mem_map,List.mem_filter,List.mem_range,Prod.mk.injEq,and_self,Bool.and_eq_true] at hm
   obtain ⟨a,⟨_,hc,_⟩,rfl⟩:=hm
   cases hi:(asl.getD a default).ins <;> rw [hi] at hc <;> first | rfl | (simp [Zaj] at hc)
 ·cases h
end
end Go.Proofs.YtmlkhhidifjjfaaDoor
namespace Go.Proofs.YtmlkhhidifjjfaaDoor
open Go.RowKit
section
variable {P:Program} {O:ZR} {byref:Nat→Bool} {an:Ann} {base:Nat→Prop} {w0:World} {I0:Imm} {dr:Door}
theorem ZzD {o:AOp} {tm tm1:Tms} {σ σ1:Za} {site:Nat} {v:AVal} {c:Cls} (ht:o.ins.touches=false) (h:ZS O byref o site tm σ=some (v,tm1,σ1,c)):c={}:=by
 unfold ZS at h
 split at h
 ·cases h
 ·simp only [Option.some.injEq,Prod.mk.injEq] at h;exact h.2.2.2.symm
 ·split at h
  ·split at h
   ·rename_i he
    simp only [Option.some.injEq,Prod.mk.injEq] at h
    rw [←h.2.2.2]
    exact (ZAB ht he).1
   ·cases h
  ·cases h
theorem Ziq {i:Ins} (h:i.touches=false):nsite i=0:=by cases i <;> simp [Ins.touches] at h <;> rfl
theorem ZhX {asl:List AOp} {L:Nat} {cs:List Cls}:∀ {l:List Nat} {tm tm':Tms} {σ σ':Za},Zcr O byref asl L cs l tm σ tm' σ'→∀ j ∈ l,(asl.getD j default).ins.touches=false→cs.getD j {}={}
 | [],_,_,_,_,_,j,hj,_=>by simp at hj
 | i::l,_,_,_,_,h,j,hj,ht=>by
  cases h with
  | cons h1 _ h2 =>
   rcases List.mem_cons.1 hj with rfl | hj
   ·exact ZzD ht h1
   ·exact ZhX h2 j hj ht
theorem Zg6 (asl:List AOp):∀ {j i:Nat},j < i→i≤asl.length→sitesOf (asl.take j)+nsite (asl.getD j default).ins≤sitesOf (asl.take i):=by
 intro j i hji hi
 induction i with
 | zero=>omega
 | succ i ih =>
  rw [ZlY asl (by omega)]
  by_cases e:j=i
  ·subst e
   simp [List.getD_eq_getElem?_getD,show j < asl.length by omega]
  ·have:=ih (by omega) (by omega);omega
theorem Zvh (hO:ZaN P O) (hkp:∀ n ∈ dr.K,n ∈ an.keep) (hb:KLt base w0) {ops:Array Oper} {asl:List AOp} (hcomp:Zdl P an ops ops.toList=some asl) {ps:List (Nat×Nat)} (hps:Ze8 asl=some ps) {L:Nat} {cs:List Cls} (hchk:Zc6 asl L ps cs=true)
  {tmF:Tms} {σF:Za} {Q:Exit→Act→World→Prop} {I:Imm} {β:Bmap} (hQ:∀ a' w',StR dr an.nt base w0 I0 I β tmF σF a' w'→Q .normal a' w') :
  ∀ (fuel:Nat) (rem:List Nat) (listed:Array Bool) (a:Act) (w:World) (tm:Tms) (σ:Za),Zcr O byref asl L cs rem tm σ tmF σF→rem.Pairwise (· < ·)→(∀ j ∈ rem,j < ops.size)→(∀ j,j < ops.size→(listed.getD j true=true↔j ∉ rem))→listed.size=ops.size →
   (∀ k,k < ops.size→k ∉ rem→∀ p ∈ (Zb7 (asl.map (·.after)) []).getD k [],p ∉ rem)→rem.length=fuel→StR dr an.nt base w0 I0 I β tm σ a w→wpAny P .any ops Q fuel listed a w:=by
 obtain ⟨hlen,hget⟩:=Zik hcomp
 obtain ⟨hp1,hp2⟩:=Zr3 hps
 obtain ⟨_,_,hanc⟩:=Zmf (asl.map (·.after)) [] (fun _ _ _=>trivial)
 simp only [Array.length_toList] at hlen
 have hafter:∀ j o,ops[j]?=some o→∃ ao,asl.getD j default=ao∧ZgE P an ops o=some ao∧ao.after=(o.after.toList.filter (Region.binds .any)).map (·.on)∧ao.dst=o.dst:=by
  intro j o ho
  obtain ⟨ao,h1,h2⟩:=hget j o (by simpa using ho)
  refine ⟨ao,by simp [List.getD_eq_getElem?_getD,h1],h2,?_⟩
  obtain ⟨g,i,_,_,_,rfl⟩:=Zpd h2
  exact ⟨rfl,rfl⟩
 intro fuel
 induction fuel with
 | zero =>
  intro rem listed a w tm σ hr hs hlt hl hsz hcl hfl hst
  have : rem=[]:=List.eq_nil_of_length_eq_zero hfl
  subst this
  cases hr
  refine ⟨?_,hQ a w hst⟩
  apply List.eq_nil_iff_forall_not_mem.2
  intro j hj
  rw [mem_ready] at hj
  obtain ⟨h1,o,ho,_⟩:=hj
  have hjl:j < ops.size:=(Array.getElem?_eq_some_iff.1 ho).1
  have:=(hl j hjl).2 (by simp)
  rw [h1] at this;cases this
 | succ fuel ih =>
  intro rem listed a w tm σ hr hs hlt hl hsz hcl hfl hst
  have isRem:∀ j,j < ops.size→listed.getD j true=false→j ∈ rem:=by
   intro j hj h
   by_cases hm:j ∈ rem
   ·exact hm
   ·have:=(hl j hj).2 hm;rw [h] at this;cases this
  have getD_tf:∀ j,j < ops.size→listed.getD j false=listed.getD j true:=by
   intro j hj
   simp [Array.getD,hsz,hj]
  refine ⟨fun hnil=>?_,fun i hi=>?_⟩
  ·exfalso
   cases rem with
   | nil=>simp at hfl
   | cons r rs =>
    have hrl:r < ops.size:=hlt r (by simp)
    have hro:ops[r]?=some ops[r]:=by simp [hrl]
    obtain ⟨ao,e1,e2,e3,_⟩:=hafter r _ hro
    have : r ∈ Region.ready .any ops listed:=by
     rw [mem_ready]
     refine ⟨?_,ops[r],hro,fun e he hbnd=>?_⟩
     ·cases hq:listed.getD r true with
      | false=>rfl
      | true=>exact absurd (List.mem_cons_self) ((hl r hrl).1 hq)
     ·have hon:e.on ∈ ao.after:=by rw [e3];exact List.mem_map.2 ⟨e,List.mem_filter.2 ⟨by simpa using he,hbnd⟩,rfl⟩
      have hlt':e.on < r:=hp2 r (by omega) e.on (by rw [e1];exact hon)
      rw [getD_tf _ (by omega)]
      refine (hl e.on (by omega)).2 (fun hm=>?_)
      rcases List.mem_cons.1 hm with h | hm
      ·omega
      ·have:=(List.pairwise_cons.1 hs).1 e.on hm;omega
    rw [hnil] at this;simp at this
  ·rw [mem_ready] at hi
   obtain ⟨hi0,o,ho,hpre⟩:=hi
   have hil:i < ops.size:=(Array.getElem?_eq_some_iff.1 ho).1
   have him:=isRem i hil hi0
   obtain ⟨l1,l2,rfl⟩:=List.append_of_mem him
   obtain ⟨ao,e1,e2,e3,e4⟩:=hafter i o ho
   have hdone:∀ p ∈ (asl.getD i default).after,p < ops.size→p ∉ l1++i::l2:=by
    intro p hp hpl
    rw [e1,e3] at hp
    obtain ⟨e,he,rfl⟩:=List.mem_map.1 hp
    obtain ⟨he1,he2⟩:=List.mem_filter.1 he
    have:=hpre e (by simpa using he1) he2
    rw [getD_tf _ hpl] at this
    exact (hl e.on hpl).1 this
   have hai:(asl.map (·.after)).getD i []=(asl.getD i default).after:=by
    simp [List.getD_eq_getElem?_getD,show i < asl.length by omega]
   have hanci:∀ p ∈ (Zb7 (asl.map (·.after)) []).getD i [],p ∉ l1++i::l2:=by
    intro p hp
    have hap:∀ q,q ∈ (asl.map (·.after)).getD i []→q < i:=fun q hq=>hp2 i (by omega) q (by rw [←hai];exact hq)
    rcases hanc i (by simp;omega) p (by simpa using hp) with h | ⟨q,h1,h2,h3⟩
    ·exact hdone p (by rw [←hai];exact h) (by have:=hap p h;omega)
    ·have hql:q < ops.size:=by simp at h2;omega
     exact hcl q hql (hdone q (by rw [←hai];exact h1) hql) p h3
   have hl1:∀ j ∈ l1,j < i:=by
    intro j hj
    have:=List.pairwise_append.1 hs
    exact this.2.2 j hj i (by simp)
   obtain ⟨v1,tm1,σ1,h1,hnp1,h2⟩:=ZnK (l1:=l1) (i:=i) (fun j hj=>by
    have hji:=hl1 j hj
    have hjn:j ∉ (Zb7 (asl.map (·.after)) []).getD i []:=fun hm=>hanci j hm (by simp [hj])
    obtain ⟨p1,p2⟩:=hp1 j i hji (by omega) hjn
    refine ⟨p1,?_,fun hn _=>?_,?_⟩
    ·rcases p2 with p2 | p2 | p2
     ·have:=ZhX hr j (by simp [hj]) p2
      have hem:Zcg (asl.getD j default) (cs.getD j {})=true:=by rw [this];simp only [Zcg,Ziq p2];rfl
      simp only [Zcn,hem,Bool.true_or]
     ·have:=ZhX hr i (by simp) p2
      have hem:Zcg (asl.getD i default) (cs.getD i {})=true:=by rw [this];simp only [Zcg,Ziq p2];rfl
      simp only [Zcn,hem,Bool.true_or,Bool.or_true]
     ·have:=List.all_eq_true.1 hchk (j,i) p2
      simp only [Bool.or_eq_true,beq_iff_eq] at this
      rcases this with h | h
      ·omega
      ·exact h
    ·have:=Zg6 asl hji (by omega)
     omega
    ·have:=Zg6 asl hji (by omega)
     omega) hr
   unfold wpOp
   rw [ho]
   rw [e1] at h1
   obtain ⟨I',β',g1,g2,g3,g4,g5⟩:=hst
   refine ZiL hO hkp e2 g3 g4 g5 hb h1 (fun _ a' w' hs'=>ih (l1++l2) _ a' w' tm1 σ1 h2 ?_ ?_ ?_ (by simpa using hsz) ?_ ?_ (hs'.trans g1 g2)) (fun x e=>absurd e (hnp1 x))
   ·have:=List.pairwise_append.1 hs
    exact List.pairwise_append.2 ⟨this.1,(List.pairwise_cons.1 this.2.1).2,fun x hx y hy=>this.2.2 x hx y (by simp [hy])⟩
   ·intro j hj
    refine hlt j ?_
    simp only [List.mem_append,List.mem_cons] at hj ⊢
    rcases hj with h | h
    ·exact Or.inl h
    ·exact Or.inr (Or.inr h)
   ·intro j hj
    have hs1:=List.pairwise_append.1 hs
    by_cases hij:i=j
    ·subst hij
     have hn:i ∉ l1++l2:=by
      intro hm
      rcases List.mem_append.1 hm with h | h
      ·have:=hl1 i h;omega
      ·have:=(List.pairwise_cons.1 hs1.2.1).1 i h;omega
     simp [Array.getD,hsz,hil,hn]
    ·rw [getD_set_ne true hij,hl j hj]
     simp only [List.mem_append,List.mem_cons,not_or]
     constructor
     ·rintro ⟨a1,_,a3⟩;exact ⟨a1,a3⟩
     ·rintro ⟨a1,a3⟩;exact ⟨a1,fun e=>hij e.symm,a3⟩
   ·intro k hk hkn p hp hm
    have hsub:p ∈ l1++i::l2:=by
     simp only [List.mem_append,List.mem_cons] at hm ⊢
     rcases hm with h | h
     ·exact Or.inl h
     ·exact Or.inr (Or.inr h)
    by_cases hki:k=i
    ·subst hki;exact hanci p hp hsub
    ·refine hcl k hk (fun hkm=>hkn ?_) p hp hsub
     simp only [List.mem_append,List.mem_cons] at hkm ⊢
     rcases hkm with h | h | h
     ·exact Or.inl h
     ·exact absurd h hki
     ·exact Or.inr h
   ·simp at hfl ⊢;omega
theorem ZLF (hO:ZaN P O) (hkp:∀ n ∈ dr.K,n ∈ an.keep) (hb:KLt base w0) {ops:Array Oper} {asl:List AOp} (hcomp:Zdl P an ops ops.toList=some asl) {ps:List (Nat×Nat)} (hps:Ze8 asl=some ps) {L:Nat} {cs:List Cls} {jp:Nat} (hjl:jp < ops.size) (hmark:(jp,jp) ∈ ps) (hmarkT:(asl.getD jp default).ins.touches=true) (hfree:∀ j i,(j,i) ∈ ps→j < i→i≤jp→Zcn (asl.getD j default) (asl.getD i default) (cs.getD j {}) (cs.getD i {}) (L+sitesOf (asl.take j))=true) (hquiet:∀ j,(j,jp) ∈ ps→j < jp→Zak (asl.getD j default).ins=true)
  {x:AVal} {σF:Za} {Q:Exit→Act→World→Prop} {I:Imm} {β:Bmap} (hQ:∀ a' u w',dr.ok a'→Post base w0 I0 I β x σF u w'→Q (.panic [{ v:=u,recovered:=false }]) a' w') :
  ∀ (fuel:Nat) (pre post:List Nat) (listed:Array Bool) (a:Act) (w:World) (tm tmJ tmX:Tms) (σ σJ:Za),Zcr O byref asl L cs pre tm σ tmJ σJ→ZS O byref (asl.getD jp default) (L+sitesOf (asl.take jp)) tmJ σJ=some (.pan x,tmX,σF,cs.getD jp {})→(pre++jp::post).Pairwise (· < ·)→(∀ j ∈ pre++jp::post,j < ops.size)→(∀ j,j < ops.size→(listed.getD j true=true↔j ∉ pre++jp::post))→listed.size=ops.size →
   (∀ k,k < ops.size→k ∉ pre++jp::post→∀ p ∈ (Zb7 (asl.map (·.after)) []).getD k [],p ∉ pre++jp::post)→(pre++jp::post).length=fuel→StR dr an.nt base w0 I0 I β tm σ a w→wpAny P .any ops Q fuel listed a w:=by
 obtain ⟨hlen,hget⟩:=Zik hcomp
 obtain ⟨hp1,hp2⟩:=Zr3 hps
 have hmk:=ZMS hps hmark
 obtain ⟨_,_,hanc⟩:=Zmf (asl.map (·.after)) [] (fun _ _ _=>trivial)
 simp only [Array.length_toList] at hlen
 have hafter:∀ j o,ops[j]?=some o→∃ ao,asl.getD j default=ao∧ZgE P an ops o=some ao∧ao.after=(o.after.toList.filter (Region.binds .any)).map (·.on)∧ao.dst=o.dst:=by
  intro j o ho
  obtain ⟨ao,h1,h2⟩:=hget j o (by simpa using ho)
  refine ⟨ao,by simp [List.getD_eq_getElem?_getD,h1],h2,?_⟩
  obtain ⟨g,i,_,_,_,rfl⟩:=Zpd h2
  exact ⟨rfl,rfl⟩
 intro fuel
 induction fuel with
 | zero =>
  intro pre post listed a w tm tmJ tmX σ σJ hr hj hs hlt hl hsz hcl hfl hst
  simp at hfl
 | succ fuel ih =>
  intro pre post listed a w tm tmJ tmX σ σJ hr hj hs hlt hl hsz hcl hfl hst
  have getD_tf:∀ j,j < ops.size→listed.getD j false=listed.getD j true:=by
   intro j hj
   simp [Array.getD,hsz,hj]
  have isRem:∀ j,j < ops.size→listed.getD j true=false→j ∈ pre++jp::post:=by
   intro j hj h
   by_cases hm:j ∈ pre++jp::post
   ·exact hm
   ·have:=(hl j hj).2 hm;rw [h] at this;cases this
  refine ⟨fun hnil=>?_,fun i hi=>?_⟩
  ·exfalso
   obtain ⟨r,rs,hrr⟩:∃ r rs,pre++jp::post=r::rs:=by cases pre <;> simp
   rw [hrr] at hs hlt hl
   have hrl:r < ops.size:=hlt r (by simp)
   have hro:ops[r]?=some ops[r]:=by simp [hrl]
   obtain ⟨ao,e1,e2,e3,_⟩:=hafter r _ hro
   have : r ∈ Region.ready .any ops listed:=by
    rw [mem_ready]
    refine ⟨?_,ops[r],hro,fun e he hbnd=>?_⟩
    ·cases hq:listed.getD r true with
     | false=>rfl
     | true=>exact absurd (List.mem_cons_self) ((hl r hrl).1 hq)
    ·have hon:e.on ∈ ao.after:=by rw [e3];exact List.mem_map.2 ⟨e,List.mem_filter.2 ⟨by simpa using he,hbnd⟩,rfl⟩
     have hlt':e.on < r:=hp2 r (by omega) e.on (by rw [e1];exact hon)
     rw [getD_tf _ (by omega)]
     refine (hl e.on (by omega)).2 (fun hm=>?_)
     rcases List.mem_cons.1 hm with h | hm
     ·omega
     ·have:=(List.pairwise_cons.1 hs).1 e.on hm;omega
   rw [hnil] at this;simp at this
  ·rw [mem_ready] at hi
   obtain ⟨hi0,o,ho,hpre⟩:=hi
   have hil:i < ops.size:=(Array.getElem?_eq_some_iff.1 ho).1
   have him:=isRem i hil hi0
   obtain ⟨ao,e1,e2,e3,e4⟩:=hafter i o ho
   have hdone:∀ p ∈ (asl.getD i default).after,p < ops.size→p ∉ pre++jp::post:=by
    intro p hp hpl
    rw [e1,e3] at hp
    obtain ⟨e,he,rfl⟩:=List.mem_map.1 hp
    obtain ⟨he1,he2⟩:=List.mem_filter.1 he
    have:=hpre e (by simpa using he1) he2
    rw [getD_tf _ hpl] at this
    exact (hl e.on hpl).1 this
   have hai:(asl.map (·.after)).getD i []=(asl.getD i default).after:=by
    simp [List.getD_eq_getElem?_getD,show i < asl.length by omega]
   have hanci:∀ p ∈ (Zb7 (asl.map (·.after)) []).getD i [],p ∉ pre++jp::post:=by
    intro p hp
    have hap:∀ q,q ∈ (asl.map (·.after)).getD i []→q < i:=fun q hq=>hp2 i (by omega) q (by rw [←hai];exact hq)
    rcases hanc i (by simp;omega) p (by simpa using hp) with h | ⟨q,h1,h2,h3⟩
    ·exact hdone p (by rw [←hai];exact h) (by have:=hap p h;omega)
    ·have hql:q < ops.size:=by simp at h2;omega
     exact hcl q hql (hdone q (by rw [←hai];exact h1) hql) p h3
   have hss:=List.pairwise_append.1 hs
   rw [List.mem_append,List.mem_cons] at him
   rcases him with him | hij | him
   ·obtain ⟨l1,l2,rfl⟩:=List.append_of_mem him
    have hl1:∀ j ∈ l1,j < i:=by
     intro j hj
     exact (List.pairwise_append.1 hss.1).2.2 j hj i (by simp)
    have hijp:i < jp:=hss.2.2 i (by simp) jp (by simp)
    obtain ⟨v1,tm1,σ1,h1,hnp1,h2⟩:=ZnK (l1:=l1) (i:=i) (fun j hj'=>by
     have hji:=hl1 j hj'
     have hjn:j ∉ (Zb7 (asl.map (·.after)) []).getD i []:=fun hm=>hanci j hm (by simp [hj'])
     obtain ⟨p1,p2⟩:=hp1 j i hji (by omega) hjn
     refine ⟨p1,?_,fun hn _=>?_,?_⟩
     ·rcases p2 with p2 | p2 | p2
      ·have:=ZhX hr j (by simp [hj']) p2
       have hem:Zcg (asl.getD j default) (cs.getD j {})=true:=by rw [this];simp only [Zcg,Ziq p2];rfl
       simp only [Zcn,hem,Bool.true_or]
      ·have:=ZhX hr i (by simp) p2
       have hem:Zcg (asl.getD i default) (cs.getD i {})=true:=by rw [this];simp only [Zcg,Ziq p2];rfl
       simp only [Zcn,hem,Bool.true_or,Bool.or_true]
      ·exact hfree j i p2 hji (by omega)
     ·have:=Zg6 asl hji (by omega)
      omega
     ·have:=Zg6 asl hji (by omega)
      omega) hr
    have eA:(l1++i::l2)++jp::post=l1++i::(l2++jp::post):=by simp
    have eB:(l1++l2)++jp::post=l1++(l2++jp::post):=by simp
    rw [eA] at hs hlt hl hcl hanci hfl
    unfold wpOp
    rw [ho]
    rw [e1] at h1
    obtain ⟨I',β',g1,g2,g3,g4,g5⟩:=hst
    refine ZiL hO hkp e2 g3 g4 g5 hb h1 (fun _ a' w' hs'=>ih (l1++l2) post _ a' w' tm1 tmJ tmX σ1 σJ h2 hj ?_ ?_ ?_ (by simpa using hsz) ?_ ?_ (hs'.trans g1 g2)) (fun x e=>absurd e (hnp1 x))
    ·rw [eB]
     have:=List.pairwise_append.1 hs
     exact List.pairwise_append.2 ⟨this.1,(List.pairwise_cons.1 this.2.1).2,fun x hx y hy=>this.2.2 x hx y (by simp only [List.mem_cons];exact Or.inr hy)⟩
    ·intro j hj
     rw [eB] at hj
     refine hlt j ?_
     simp only [List.mem_append,List.mem_cons] at hj ⊢
     rcases hj with h | h | h | h
     ·exact Or.inl h
     ·exact Or.inr (Or.inr (Or.inl h))
     ·exact Or.inr (Or.inr (Or.inr (Or.inl h)))
     ·exact Or.inr (Or.inr (Or.inr (Or.inr h)))
    ·intro j hj
     rw [eB]
     generalize l2++jp::post=L2 at *
     have hs1:=List.pairwise_append.1 hs
     by_cases hij:i=j
     ·subst hij
      have hn:i ∉ l1++L2:=by
       intro hm
       rcases List.mem_append.1 hm with h | h
       ·have:=hl1 i h;omega
       ·have:=(List.pairwise_cons.1 hs1.2.1).1 i h;omega
      simp [Array.getD,hsz,hil,hn]
     ·rw [getD_set_ne true hij,hl j hj]
      simp only [List.mem_append,List.mem_cons,not_or]
      constructor
      ·rintro ⟨a1,_,a3⟩;exact ⟨a1,a3⟩
      ·rintro ⟨a1,a3⟩;exact ⟨a1,fun e=>hij e.symm,a3⟩
    ·intro k hk hkn p hp hm
     rw [eB] at hkn hm
     generalize l2++jp::post=L2 at *
     have hsub:p ∈ l1++i::L2:=by
      simp only [List.mem_append,List.mem_cons] at hm ⊢
      rcases hm with h | h
      ·exact Or.inl h
      ·exact Or.inr (Or.inr h)
     by_cases hki:k=i
     ·subst hki;exact hanci p hp hsub
     ·refine hcl k hk (fun hkm=>hkn ?_) p hp hsub
      simp only [List.mem_append,List.mem_cons] at hkm ⊢
      rcases hkm with h | h | h
      ·exact Or.inl h
      ·exact absurd h hki
      ·exact Or.inr h
    ·rw [eB];simp at hfl ⊢;omega
   ·subst hij
    have hl1:∀ j ∈ pre,j < i:=fun j hj=>hss.2.2 j hj i (by simp)
    obtain ⟨tm1,h1⟩:=Zqg (l1:=pre) (i:=i) (fun j hj'=>by
     have hji:=hl1 j hj'
     have hjn:j ∉ (Zb7 (asl.map (·.after)) []).getD i []:=fun hm=>hanci j hm (by simp [hj'])
     obtain ⟨p1,p2⟩:=hp1 j i hji (by omega) hjn
     have hts:(asl.getD i default).ins.touches=false→False:=fun h=>by
      have:=hmarkT
      rw [h] at this;cases this
     refine ⟨?_,p1,?_,fun hn _=>?_,?_⟩
     ·rcases p2 with p2 | p2 | p2
      ·exact Or.inl p2
      ·exact (hts p2).elim
      ·exact Or.inr (hquiet j p2 hji)
     ·rcases p2 with p2 | p2 | p2
      ·have:=ZhX hr j hj' p2
       have hem:Zcg (asl.getD j default) (cs.getD j {})=true:=by rw [this];simp only [Zcg,Ziq p2];rfl
       simp only [Zcn,hem,Bool.true_or]
      ·exact (hts p2).elim
      ·exact hfree j i p2 hji (Nat.le_refl _)
     ·have:=Zg6 asl hji (by omega)
      omega
     ·have:=Zg6 asl hji (by omega)
      omega) hr hj
    unfold wpOp
    rw [ho]
    rw [e1] at h1
    obtain ⟨I',β',g1,g2,g3,g4,g5⟩:=hst
    refine ZiL hO hkp e2 g3 g4 g5 hb h1 (fun hn=>absurd rfl (hn x)) (fun x' e u w' hp=>?_)
    injection e with e
    subst e
    exact hQ a u w' g4.1 (hp.trans g1 g2)
   ·exfalso
    have hlt2:jp < i:=(List.pairwise_cons.1 hss.2.1).1 i him
    exact hanci jp (hmk i hlt2 (by omega)) (by simp)
theorem Rel.reserve {I:Imm} {β:Bmap} {σ:Za} {w:World} (R:Rel base w0 I0 I β σ w) (n:Nat):Rel base w0 I0 I β (σ++List.replicate n .free) w:=by
 have look:∀ t x,(σ++List.replicate n ZM.free)[t]?=some x→σ[t]?=some x∨(σ.length≤t∧x=.free):=by
  intro t x h
  by_cases ht:t < σ.length
  ·rw [List.getElem?_append_left ht] at h;exact Or.inl h
  ·rw [List.getElem?_append_right (by omega)] at h
   refine Or.inr ⟨by omega,?_⟩
   have:=List.mem_of_getElem? h
   exact List.eq_of_mem_replicate this
 refine ⟨R.below,R.old,R.imm,?_,?_,?_,?_,?_,?_,R.glob⟩
 ·intro t x h
  rcases look t x h with h | ⟨_,rfl⟩
  ·exact R.blk t x h
  ·trivial
 ·intro t x b h hb
  rcases look t x h with h | ⟨_,rfl⟩
  ·exact R.own t x b h hb
  ·cases hb
 ·intro t x t' x' b h h' hb hb'
  rcases look t x h with h | ⟨_,rfl⟩
  ·rcases look t' x' h' with h' | ⟨_,rfl⟩
   ·exact R.apart t x t' x' b h h' hb hb'
   ·cases hb'
  ·cases hb
 ·intro t g h
  exact R.fresh t g (by simp at h;omega)
 ·intro t g h
  rcases look t _ h with h | ⟨h,_⟩
  ·exact R.free t g h
  ·exact R.fresh t g h
 ·intro t x g h hg
  rcases look t _ h with h | ⟨h,_⟩
  ·exact R.gen t x g h hg
  ·exact R.fresh t g h
theorem StR.keep {I:Imm} {β:Bmap} {tm:Tms} {σ:Za} {a:Act} {w:World} (h:StR dr an.nt base w0 I0 I β tm σ a w) (live:List Nat):StR dr an.nt base w0 I0 I β (keepL live tm) σ a w:=by
 obtain ⟨I',β',h1,h2,h3,h4⟩:=h
 exact ⟨I',β',h1,h2,h3.keep live,h4⟩
def ZMQ (dr:Door) (an:Ann) (base:Nat→Prop) (w0:World) (I0 I:Imm) (β:Bmap) (e:ZaR) (tm:Tms) (σ:Za) (Q:Exit→Act→World→Prop):Prop:=match e with
 | .normal=>∀ a w,StR dr an.nt base w0 I0 I β tm σ a w→Q .normal a w
 | .exit id=>∀ a w,StR dr an.nt base w0 I0 I β tm σ a w→Q (.exit id) a w
 | .ret=>∀ a w,StR dr an.nt base w0 I0 I β tm σ a w→Q .ret a w
 | .panic x=>∀ a u w,dr.ok a→Post base w0 I0 I β x σ u w→Q (.panic [{ v:=u,recovered:=false }]) a w
theorem ZlJ (hO:ZaN P O) (hkp:∀ n ∈ dr.K,n ∈ an.keep) (hm:P.follows .mixedOrders=true) (hb:KLt base w0) {id:Nat} {ops:Array Oper} {draw:Bool} {asl:List AOp} {chk:Option (List (Nat×Nat))} {live:List Nat} (hc:ZaU P an (.region id ops draw)=.region asl chk live) {I:Imm} {β:Bmap} {tm tm':Tms} {σ σ':Za} {a:Act} {w:World} {e:ZaR}
  (hst:StR dr an.nt base w0 I0 I β tm σ a w) (h:Zb4 O byref asl chk live tm σ=some (e,tm',σ')) {Q:Exit→Act→World→Prop} (hQ:ZMQ dr an base w0 I0 I β e tm' σ' Q):(Code.region id ops draw).wp P Q a w:=by
 obtain ⟨I1,β1,g1,g2,g3,g4,g5⟩:=hst
 simp only [ZaU] at hc
 split at hc
 ·rename_i l hl
  unfold Zb4 at h
  split at hc
  ·rename_i hd
   subst hd
   split at hc
   ·rename_i ps hps
    simp only [Zf.region.injEq] at hc
    obtain ⟨rfl,rfl,rfl⟩:=hc
    cases hrun:ZW O byref l σ.length tm (σ++List.replicate (sitesOf l) .free) with
    | none=>rw [hrun] at h;simp only [ZcG] at h;cases h
    | some q =>
     obtain ⟨tm1,σ1,cs,p⟩:=q
     rw [hrun] at h
     cases p with
     | some x =>
      simp only [ZcG] at h
      split at h
      ·rename_i hpan
       simp only [Option.some.injEq,Prod.mk.injEq] at h
       obtain ⟨rfl,rfl,rfl⟩:=h
       have hlen:=(Zik hl).1
       simp only [Array.length_toList] at hlen
       obtain ⟨n,tmJ,σJ,tmX,q1,q2,q3,q4⟩:=ZtS (O:=O) (byref:=byref) (ops:=l) (L:=σ.length) l.length 0 (cs:=cs) (cs':=cs) (by omega) (by simpa [sitesOf] using hrun) (fun j=>by simp)
       rw [Nat.zero_add] at q4
       unfold Zdj at hpan
       rw [q2] at hpan
       simp only [Bool.and_eq_true,List.any_eq_true,List.all_eq_true,Bool.or_eq_true,beq_iff_eq,decide_eq_true_eq,Nat.add_sub_cancel] at hpan
       obtain ⟨⟨pm,hpm,hm1,hm2⟩,hall⟩:=hpan
       have hmk:(n,n) ∈ ps:=by
        obtain ⟨a1,a2⟩:=pm
        simp only at hm1 hm2
        subst hm1 hm2
        exact hpm
       have hT:(l.getD n default).ins.touches=true:=ZEu hps hmk
       refine wp_region_any hm (ZLF hO hkp hb hl hps (jp:=n) (by omega) hmk hT (fun j i hji h1 h2=>?_) (fun j hj h1=>?_) (I:=I) (β:=β) (x:=x) (fun a' u w' hd' hp=>hQ a' u w' hd' hp) ops.size (List.range' 0 n) (List.range' (n+1) (l.length - n - 1)) _ a _ tm tmJ tmX _ σJ q3 q4 ?_ ?_ ?_ (by simp) ?_ (by simp;omega) ⟨I1,β1,g1,g2,g3,g4,(g5.reserve _).same rfl rfl rfl rfl⟩)
       ·rcases hall (j,i) hji with (h | h) | ⟨h,_⟩
        ·simp only at h;omega
        ·simp only at h;omega
        ·exact h
       ·rcases hall (j,n) hj with (h | h) | ⟨_,h⟩
        ·simp only at h;omega
        ·simp only at h;omega
        ·rcases h with h | h
         ·simp only at h;omega
         ·exact h
       ·have e:List.range' 0 n++n::List.range' (n+1) (l.length - n - 1)=List.range' 0 l.length:=by
         rw [←List.range'_succ]
         have:=List.range'_append_1 (s:=0) (m:=n) (n:=l.length - n - 1+1)
         rw [Nat.zero_add] at this
         rw [this]
         congr 1
         omega
        rw [e];exact List.pairwise_lt_range'
       ·intro j hj;simp at hj;omega
       ·intro j hj
        simp [Array.getD,hj]
        omega
       ·intro k hk hkn
        exact absurd (by simp;omega) hkn
      ·cases h
     | none =>
      simp only [ZcG] at h
      split at h
      ·rename_i hchk
       simp only [Option.some.injEq,Prod.mk.injEq] at h
       obtain ⟨rfl,rfl,rfl⟩:=h
       have hlen:=(Zik hl).1
       simp only [Array.length_toList] at hlen
       have hr:=Zs3 (O:=O) (byref:=byref) (ops:=l) (L:=σ.length) l.length 0 (cs:=cs) (cs':=cs) (by omega) (by simpa [sitesOf] using hrun) (fun j=>by simp)
       refine wp_region_any hm (Zvh hO hkp hb hl hps hchk (I:=I) (β:=β) (fun a' w' hs=>hQ a' w' (hs.keep _)) ops.size (List.range' 0 l.length) _ a _ tm _ hr ?_ ?_ ?_ (by simp) ?_ (by simp [hlen]) ⟨I1,β1,g1,g2,g3,g4,(g5.reserve _).same rfl rfl rfl rfl⟩)
       ·exact List.pairwise_lt_range'
       ·intro j hj;simp at hj;omega
       ·intro j hj
        simp [Array.getD,hj,hlen]
       ·intro k hk hkn
        exact absurd (by simp;omega) hkn
      ·cases h
   ·cases hc
  ·rename_i hd
   simp only [Zf.region.injEq] at hc
   obtain ⟨rfl,rfl,rfl⟩:=hc
   have hdf:draw=false:=by cases draw <;> simp_all
   subst hdf
   cases hrun:ZW O byref l σ.length tm (σ++List.replicate (sitesOf l) .free) with
   | none=>rw [hrun] at h;simp only [ZcG] at h;cases h
   | some q =>
    obtain ⟨tm1,σ1,cs,p⟩:=q
    rw [hrun] at h
    cases p with
    | none =>
     simp only [ZcG,Option.some.injEq,Prod.mk.injEq] at h
     obtain ⟨rfl,rfl,rfl⟩:=h
     exact wp_region_list (Zpn hO hkp hb hl g3 g4 (g5.reserve _) hrun (fun _ a' w' hs=>hQ a' w' ((hs.trans g1 g2).keep _)) (fun x hx=>by cases hx))
    | some x =>
     simp only [ZcG,Option.some.injEq,Prod.mk.injEq] at h
     obtain ⟨rfl,rfl,rfl⟩:=h
     exact wp_region_list (Zpn hO hkp hb hl g3 g4 (g5.reserve _) hrun (fun hx=>by cases hx) (fun x' hx a' u w' hd' hp=>by
      injection hx with hx;subst hx
      exact hQ a' u w' hd' (hp.trans g1 g2)))
 ·cases hc
end
end Go.Proofs.YtmlkhhidifjjfaaDoor
namespace Go.Proofs.YtmlkhhidifjjfaaDoor
open Go.RowKit
section
variable {P:Program} {O:ZR} {byref:Nat→Bool} {an:Ann} {base:Nat→Prop} {w0:World} {I0:Imm} {dr:Door}
def StF (dr:Door) (m nt:Nat) (base:Nat→Prop) (w0:World) (I0 I:Imm) (β:Bmap) (tm:Tms) (σ:Za) (a:Act) (w:World):Prop :=
 ∃ I' β',I.le I'∧KeptE m β β'∧TR I' β' tm a.tmps∧(dr.ok a∧nt≤a.tmps.size)∧Rel base w0 I0 I' β' σ w
def ZHI (dr:Door) (m:Nat) (an:Ann) (base:Nat→Prop) (w0:World) (I0 I:Imm) (β:Bmap) (e:ZaR) (tm:Tms) (σ:Za) (Q:Exit→Act→World→Prop):Prop:=match e with
 | .normal=>∀ a w,StF dr m an.nt base w0 I0 I β tm σ a w→Q .normal a w
 | .exit id=>∀ a w,StF dr m an.nt base w0 I0 I β tm σ a w→Q (.exit id) a w
 | .ret=>∀ a w,StF dr m an.nt base w0 I0 I β tm σ a w→Q .ret a w
 | .panic x=>∀ a u w,dr.ok a→Zb5 m base w0 I0 I β (.pan x) σ u w→Q (.panic [{ v:=u,recovered:=false }]) a w
theorem StF.cond {m:Nat} {I:Imm} {β:Bmap} {tm:Tms} {σ:Za} {a:Act} {w:World} (h:StF dr m an.nt base w0 I0 I β tm σ a w) {c:Operand} {y:Opd} (hc:Zax c=some y) {b:Bool} (hv:y.ev tm=.bool b):a.eval c=.bool b:=by
 obtain ⟨I',β',_,_,T,_,_⟩:=h
 have:=ZaE T hc
 rw [hv] at this
 simpa only [VR] using this
theorem Zi4 (hO:ZaN P O) (hkp:∀ n ∈ dr.K,n ∈ an.keep) (hm:P.follows .mixedOrders=true) (hb:KLt base w0) (m n:Nat):∀ {c:Code} {ac:Zf},ZaU P an c=ac→∀ {I:Imm} {β:Bmap} {tm tm':Tms} {σ σ':Za} {a:Act} {w:World} {e:ZaR},StF dr m an.nt base w0 I0 I β tm σ a w→Z3 O byref m n ac tm σ=some (e,tm',σ') →
  ∀ {Q:Exit→Act→World→Prop},ZHI dr m an base w0 I0 I β e tm' σ' Q→c.wp P Q a w:=by
 intro c
 induction c with
 | skip =>
  intro ac hc I β tm tm' σ σ' a w e hst h Q hQ
  simp only [ZaU] at hc;subst hc
  simp only [Z3,Option.some.injEq,Prod.mk.injEq] at h
  obtain ⟨rfl,rfl,rfl⟩:=h
  exact wp_skip (hQ a w hst)
 | region id ops draw =>
  intro ac hc I β tm tm' σ σ' a w e hst h Q hQ
  obtain ⟨asl,chk,live,rfl⟩:∃ asl chk live,ac=.region asl chk live:=by
   simp only [ZaU] at hc
   split at hc
   ·split at hc
    ·split at hc
     ·exact ⟨_,_,_,hc.symm⟩
     ·subst hc;simp only [Z3] at h;cases h
    ·exact ⟨_,_,_,hc.symm⟩
   ·subst hc;simp only [Z3] at h;cases h
  simp only [Z3] at h
  obtain ⟨I1,β1,g1,g2,g3,g4,g5⟩:=hst
  have up:∀ {tm:Tms} {σ:Za} {a':Act} {w':World},StR dr an.nt base w0 I0 I1 β1 tm σ a' w'→StF dr m an.nt base w0 I0 I β tm σ a' w':=by
   rintro tm σ a' w' ⟨I2,β2,k1,k2,k3⟩
   exact ⟨I2,β2,g1.trans k1,g2.trans (KeptE.of_le k2),k3⟩
  refine ZlJ hO hkp hm hb hc (⟨I1,β1,Imm.le.refl I1,Bmap.le.refl β1,g3,g4,g5⟩:StR dr an.nt base w0 I0 I1 β1 tm σ a w) h ?_
  cases e with
  | normal=>exact fun a' w' hs=>hQ a' w' (up hs)
  | exit id=>exact fun a' w' hs=>hQ a' w' (up hs)
  | ret=>exact fun a' w' hs=>hQ a' w' (up hs)
  | panic x =>
   rintro a' u w' hd ⟨I2,β2,k1,k2,k3,k4⟩
   exact hQ a' u w' hd ⟨I2,β2,g1.trans k1,g2.trans (KeptE.of_le k2),k3,k4⟩
 | seq x y ihx ihy =>
  intro ac hc I β tm tm' σ σ' a w e hst h Q hQ
  simp only [ZaU] at hc
  subst hc
  simp only [Z3] at h
  refine wp_seq ?_
  split at h
  ·rename_i tm1 σ1 h1
   exact ihx rfl hst h1 (fun a' w' hs=>ihy rfl hs h hQ)
  ·rename_i hne
   refine ihx rfl hst h ?_
   cases e with
   | normal=>exact absurd h (hne _ _)
   | exit id=>exact hQ
   | ret=>exact hQ
   | panic x=>exact hQ
 | cond c x y ihx ihy =>
  intro ac hc I β tm tm' σ σ' a w e hst h Q hQ
  simp only [ZaU] at hc
  split at hc
  ·rename_i c' hcc
   subst hc
   simp only [Z3] at h
   split at h
   ·rename_i hv
    exact wp_cond_true (hst.cond hcc hv) (ihx rfl hst h hQ)
   ·rename_i hv
    exact wp_cond_false (hst.cond hcc hv) (ihy rfl hst h hQ)
   ·cases h
  ·subst hc;simp only [Z3] at h;cases h
 | block id x ih =>
  intro ac hc I β tm tm' σ σ' a w e hst h Q hQ
  simp only [ZaU] at hc
  subst hc
  have hx:ZaU P an x=ZaU P an x:=rfl
  simp only [Z3] at h
  refine wp_block ?_
  split at h
  ·rename_i i tm1 σ1 h1
   refine ih hx hst h1 ?_
   intro a' w' hs
   simp only [Exit.inBlock]
   split at h
   ·rename_i hid
    simp only [Option.some.injEq,Prod.mk.injEq] at h
    obtain ⟨rfl,rfl,rfl⟩:=h
    rw [if_pos hid]
    exact hQ a' w' hs
   ·rename_i hid
    simp only [Option.some.injEq,Prod.mk.injEq] at h
    obtain ⟨rfl,rfl,rfl⟩:=h
    rw [if_neg hid]
    exact hQ a' w' hs
  ·rename_i hne
   refine ih hx hst h ?_
   cases e with
   | normal=>exact hQ
   | exit id=>exact absurd h (hne _ _ _)
   | ret=>exact hQ
   | panic x=>exact hQ
 | loop x ih =>
  intro ac hc I β tm tm' σ σ' a w e hst h Q hQ
  simp only [ZaU] at hc
  subst hc
  have hx:ZaU P an x=ZaU P an x:=rfl
  simp only [Z3] at h
  refine wp_loop_rounds n ?_
  have key:∀ k {tm:Tms} {σ:Za} {a:Act} {w:World},StF dr m an.nt base w0 I0 I β tm σ a w→Zdh m (an.ll (ZeU x)) (Z3 O byref m n (ZaU P an x)) k tm σ=some (e,tm',σ')→Code.rounds P x Q k a w:=by
   intro k
   induction k with
   | zero=>intro tm σ a w _ h;simp only [Zdh] at h;cases h
   | succ k ihk =>
    intro tm σ a w hst h
    rw [rounds_succ]
    simp only [Zdh] at h
    obtain ⟨I1,β1,k1,k2,k3,k4,k5⟩:=hst
    obtain ⟨β2,q1,q2,q3⟩:=ZLP k5 (k3.keep (an.ll (ZeU x))) m
    have hst0:StF dr m an.nt base w0 I0 I β (gcT m (keepL (an.ll (ZeU x)) tm) σ).1 (gcT m (keepL (an.ll (ZeU x)) tm) σ).2 a w:=⟨I1,β2,k1,k2.trans q1,q3,k4,q2⟩
    split at h
    ·rename_i tm1 σ1 h1
     exact ih hx hst0 h1 (fun a' w' hs=>ihk hs h)
    ·rename_i hne
     refine ih hx hst0 h ?_
     cases e with
     | normal=>exact absurd h (hne _ _)
     | exit id=>exact hQ
     | ret=>exact hQ
     | panic x=>exact hQ
  exact key n hst h
 | exit id =>
  intro ac hc I β tm tm' σ σ' a w e hst h Q hQ
  simp only [ZaU] at hc;subst hc
  simp only [Z3,Option.some.injEq,Prod.mk.injEq] at h
  obtain ⟨rfl,rfl,rfl⟩:=h
  exact wp_exit (hQ a w hst)
 | ret =>
  intro ac hc I β tm tm' σ σ' a w e hst h Q hQ
  simp only [ZaU] at hc;subst hc
  simp only [Z3,Option.some.injEq,Prod.mk.injEq] at h
  obtain ⟨rfl,rfl,rfl⟩:=h
  exact wp_ret (hQ a w hst)
 | rangeFunc f ps x y=>intro ac hc I β tm tm' σ σ' a w e hst h;simp only [ZaU] at hc;subst hc;simp only [Z3] at h;cases h
 | scope x ih =>
  intro ac hc I β tm tm' σ σ' a w e hst h Q hQ
  simp only [ZaU] at hc
  refine wp_scope_straight (ih hc hst h ?_)
  cases e with
  | normal=>exact hQ
  | exit id=>exact hQ
  | ret=>exact hQ
  | panic x=>exact hQ
 | label l =>
  intro ac hc I β tm tm' σ σ' a w e hst h Q hQ
  simp only [ZaU] at hc;subst hc
  simp only [Z3,Option.some.injEq,Prod.mk.injEq] at h
  obtain ⟨rfl,rfl,rfl⟩:=h
  exact wp_label (hQ a w hst)
 | goto l=>intro ac hc I β tm tm' σ σ' a w e hst h;simp only [ZaU] at hc;subst hc;simp only [Z3] at h;cases h
 | refuse why=>intro ac hc I β tm tm' σ σ' a w e hst h;simp only [ZaU] at hc;subst hc;simp only [Z3] at h;cases h
theorem ZK4 {I:Imm} {β:Bmap} {σ σ':Za} {k:Option Nat} {a x:AVal} {c:Cls} {v:Value} (ha:VR I β a v) (h:ldA σ k a=some (x,σ',c)):∃ ad,v=.pointer (some ad):=by
 unfold ldA at h
 split at h
 ·simp only [VR] at ha;obtain ⟨b,k,c,_,rfl⟩:=ha;exact ⟨_,rfl⟩
 ·simp only [VR] at ha;obtain ⟨b,k,c,_,rfl⟩:=ha;exact ⟨_,rfl⟩
 ·simp only [VR] at ha;obtain ⟨b,off,rfl,_⟩:=ha;exact ⟨_,rfl⟩
 ·cases h
def Zio (tmps:Array Value):ResultVar→Sem Value
 | .tmp t=>pure (tmps.getD t undef)
 | .cell a t=>do loadVar t (←asAddr (tmps.getD a undef))
theorem Zna {I:Imm} {β:Bmap} {tm:Tms} {σ:Za} {w:World} {tmps:Array Value} (T:TR I β tm tmps) (R:Rel base w0 I0 I β σ w):∀ {rs:List ResultVar} {asl:List Zcx} {xs:List AVal},Zem P rs=some asl→resAll tm σ asl=some xs →
  ∃ vs:List Value,(rs.mapM (Zio tmps)).run P w=.ok vs w∧VRs I β xs vs
 | [],asl,xs,hc,h=>by
  simp only [Zem,Option.some.injEq] at hc;subst hc
  simp only [resAll,Option.some.injEq] at h;subst h
  exact ⟨[],by simp,by simp only [VRs]⟩
 | r::rs,asl,xs,hc,h=>by
  have getD_eq:∀ t,VR I β (tget tm t) (tmps.getD t undef):=T
  cases r with
  | tmp t =>
   simp only [Zem,Option.map_eq_some_iff] at hc
   obtain ⟨as',has,rfl⟩:=hc
   simp only [resAll,resOne] at h
   split at h
   ·rename_i ys hys
    injection h with h;subst h
    obtain ⟨vs,h1,h2⟩:=Zna T R has hys
    exact ⟨tmps.getD t undef::vs,by simp only [List.mapM_cons,Zio,Sem.run_bind,Sem.run_pure,Result.andThen_ok,h1],by simp only [VRs];exact ⟨_,_,rfl,getD_eq t,h2⟩⟩
   ·cases h
  | cell a t =>
   simp only [Zem] at hc
   split at hc
   ·rename_i k as' hk has
    injection hc with hc;subst hc
    simp only [resAll,resOne] at h
    split at h
    ·rename_i v hv
     split at h
     ·rename_i ys hys
      injection h with h;subst h
      obtain ⟨vs,h1,h2⟩:=Zna T R has hys
      split at hv
      ·rename_i v' σ1 c1 hld
       injection hv with hv;subst hv
       obtain ⟨u,hu1,hu2,_⟩:=Zqt hk R (getD_eq a) hld
       obtain ⟨ad,had⟩:=ZK4 (getD_eq a) hld
       have hlv:(loadVar t ad).run P w=.ok u w:=by
        rw [had] at hu1
        simpa [Instr.loadAt,Instr.sureAddr] using hu1
       refine ⟨u::vs,?_,by simp only [VRs];exact ⟨_,_,rfl,hu2,h2⟩⟩
       simp only [List.mapM_cons,Zio,had,asAddr,Sem.run_bind,Sem.run_pure,Result.andThen_ok,hlv,h1]
      ·cases hv
     ·cases h
    ·cases h
   ·cases hc
theorem Zrh {I:Imm} {β:Bmap} {tm:Tms} {σ:Za} {w:World} {tmps:Array Value} (T:TR I β tm tmps) (R:Rel base w0 I0 I β σ w) {fn:Func} {asl:List Zcx} {x:AVal} (hc:Zem P fn.results.toList=some asl) (h:resA tm σ asl=some x):∃ v,(results fn tmps).run P w=.ok v w∧VR I β x v:=by
 unfold resA at h
 have run:∀ {xs:List AVal},resAll tm σ asl=some xs→∃ vs:List Value,(results fn tmps).run P w=.ok (if h:vs.toArray.size=1 then vs.toArray[0] else .tuple vs.toArray) w∧VRs I β xs vs:=by
  intro xs hx
  obtain ⟨vs,h1,h2⟩:=Zna T R hc hx
  refine ⟨vs,?_,h2⟩
  have hm:(fn.results.mapM (Zio tmps)).run P w=.ok vs.toArray w:=by
   rw [Array.mapM_eq_mapM_toList,Sem.run_map,h1];rfl
  have he:results fn tmps=(do let vs ←fn.results.mapM (Zio tmps);pure (if h:vs.size=1 then vs[0] else .tuple vs)):=by
   unfold results
   congr 1
  rw [he,Sem.run_bind,hm]
  rfl
 split at h
 ·rename_i v hv
  injection h with h;subst h
  obtain ⟨vs,h1,h2⟩:=run hv
  simp only [VRs] at h2
  obtain ⟨u,us,rfl,h3,rfl⟩:=h2
  exact ⟨u,by rw [h1];simp,h3⟩
 ·rename_i vs' hv hne
  injection h with h;subst h
  obtain ⟨vs,h1,h2⟩:=run hne
  have hl:=ZaW h2
  refine ⟨.tuple vs.toArray,?_,by simp only [VR];exact ⟨_,rfl,by simpa using h2⟩⟩
  rw [h1,dif_neg]
  intro hs
  simp only [List.size_toArray] at hs
  match vs',hl with
  | [v],_=>exact hv v rfl
  | [],hl=>simp at hl;omega
  | _::_::_,hl=>simp at hl;omega
 ·cases h
theorem ZuM:∀ (args:List AVal) (i:Nat) (acc:Tms) (n:Nat),tget (enterA i args acc) n=if i≤n∧n < i+args.length then args.getD (n - i) .top else tget acc n
 | [],i,acc,n=>by simp only [enterA,List.length_nil];rw [if_neg (by omega)]
 | x::xs,i,acc,n=>by
  simp only [enterA,List.length_cons]
  rw [ZuM xs (i+1) _ n]
  by_cases h:i+1≤n∧n < i+1+xs.length
  ·rw [if_pos h,if_pos (by omega),show n - i=(n - (i+1))+1 by omega,List.getD_cons_succ]
  ·rw [if_neg h]
   simp only [tget]
   by_cases h1:i=n
   ·subst h1
    rw [if_pos rfl,if_pos (by omega),Nat.sub_self,List.getD_cons_zero]
   ·rw [if_neg h1,if_neg (by omega)]
theorem Zoo {I:Imm} {β:Bmap} {args:List AVal} {vs:Array Value} (h:VRs I β args vs.toList) (n:Nat):TR I β (enterA 0 args []) (vs++Array.replicate n undef):=by
 intro j
 rw [ZuM]
 have hl:=ZaW h
 simp only [Array.length_toList] at hl
 split
 ·rename_i hj
  have hjl:j < args.length:=by omega
  obtain ⟨v,h1,h2⟩:=Zcq h (List.getElem?_eq_getElem hjl)
  have e1:args.getD (j - 0) .top=args[j]:=by simp [List.getD_eq_getElem?_getD,hjl]
  have e2:(vs++Array.replicate n undef).getD j undef=v:=by
   rw [Array.getD_eq_getD_getElem?,Array.getElem?_append_left (by omega)]
   have : vs[j]?=some v:=by simpa using h1
   rw [this];rfl
  rw [e1,e2];exact h2
 ·simp only [tget,VR]
def Zk7 (P:Program) (prim:Zco):Prop:=∀ f g,prim f=some g→∀ args σ r σ',g args σ=some (r,σ') →
 (∃ fn,P.funcs[f]?=some fn∧fn.body.isSome=true∧(fn.name == "runtime.NumGoroutine")=false) ∧
 ∀ base w0 I0 I β w (vs:Array Value),KLt base w0→Rel base w0 I0 I β σ w→VRs I β args vs.toList →
  Calls P f vs w (fun e w'=>∃ u,Ends r e u∧Zb5 σ.length base w0 I0 I β r σ' u w')
theorem ZmF (hm:P.follows .mixedOrders=true) {prim:Zco} (hP:Zk7 P prim) (ann:Nat→Ann) (byref:Nat→Bool):∀ n,ZaN P (Zaq (Zin P ann) prim byref n)
 | 0=>by intro f args σ r σ' h;simp only [Zaq] at h;cases h
 | n+1=>by
  have ih:=ZmF hm hP ann byref n
  intro f args σ r σ' h
  simp only [Zaq] at h
  split at h
  ·rename_i g hg
   exact hP f g hg args σ r σ' h
  split at h
  ·cases h
  rename_i fn hfn
  unfold Zin at hfn
  split at hfn
  ·rename_i F hF
   split at hfn
   ·rename_i body hbody
    split at hfn
    ·cases hfn
    ·rename_i hname
     split at hfn
     ·rename_i rs hrs
      injection hfn with hfn;subst hfn
      refine ⟨⟨F,hF,by rw [hbody];rfl,by simpa using hname⟩,?_⟩
      intro base w0 I0 I β w vs hb R hargs
      refine calls_of_wp hF hbody ?_
      have T:=Zoo hargs (F.ntmps - vs.size)
      have hst:StF ZbR σ.length F.ntmps base w0 I0 I β (enterA 0 args []) σ { tmps:=vs++Array.replicate (F.ntmps - vs.size) undef,defers:=[] } w:=⟨I,β,Imm.le.refl I,KeptE.refl _ β,T,⟨ZeW.2 rfl,by simp;omega⟩,R⟩
      cases hx:Z3 (Zaq (Zin P ann) prim byref n) byref σ.length n (ZaU P { ann f with nt:=F.ntmps } body) (enterA 0 args []) σ with
      | none=>rw [hx] at h;simp only [Zap] at h;cases h
      | some q =>
       obtain ⟨e,tm',σ1⟩:=q
       rw [hx] at h
       have fin:(match resA tm' σ1 rs with | some r=>Zal σ.length σ1 r | none=>none)=some (r,σ')→∀ a' w',StF ZbR σ.length F.ntmps base w0 I0 I β tm' σ1 a' w'→a'.defers=[]∧∃ v,(results F a'.tmps).run P w'=.ok v w'∧∃ u,Ends r (.returned v) u∧Zb5 σ.length base w0 I0 I β r σ' u w':=by
        intro hr a' w' ⟨I1,β1,g1,g2,g3,g4,g5⟩
        split at hr
        ·rename_i x hx1
         obtain ⟨v,h1,h2⟩:=Zrh g3 g5 hrs hx1
         have hnp:∀ y,x≠.pan y:=by rintro y rfl;simp only [VR] at h2
         obtain ⟨q1,q2⟩:=ZlR (⟨I1,β1,g1,g2,g5,by rw [ZfH hnp];exact h2⟩:Zb5 σ.length base w0 I0 I β x σ1 v w') hr
         refine ⟨ZeW.1 g4.1,v,h1,v,q2 _ ?_,q1⟩
         cases x <;> first | rfl | exact absurd rfl (hnp _)
        ·cases hr
       refine Zi4 (dr:=ZbR) (an:={ ann f with nt:=F.ntmps }) ih (fun n hn=>by simp [ZbR] at hn) hm hb σ.length n rfl hst hx ?_
       cases e with
       | normal=>simp only [Zap] at h;exact fun a' w' hs=>fin h a' w' hs
       | ret=>simp only [Zap] at h;exact fun a' w' hs=>fin h a' w' hs
       | exit id=>simp only [Zap] at h;cases h
       | panic x =>
        simp only [Zap] at h
        intro a' u w' hd hp
        obtain ⟨q1,q2⟩:=ZlR hp h
        exact ⟨ZeW.1 hd,u,q2 _ rfl,q1⟩
     ·cases hfn
   ·cases hfn
  ·cases hfn
end
end Go.Proofs.YtmlkhhidifjjfaaDoor
