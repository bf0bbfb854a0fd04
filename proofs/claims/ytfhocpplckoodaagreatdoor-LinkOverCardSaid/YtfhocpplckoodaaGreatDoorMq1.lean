/- packed -/
import Derived.Test.YtfhocpplckoodaaGreatDoorMq0
import Derived.Laws.StructEq
import Derived.Laws.Small
import Derived.Orders
import Derived.LoopN
set_option linter.unusedSimpArgs false
set_option linter.unusedVariables false
open Option.some renaming injEq→Xb
open Prod.mk renaming injEq→Xd
open List renaming getD_eq_getElem?_getD→Xh,getElem?_eq_some_iff→Xl,map_cons→Xm,getElem?_set_ne→Xn,map_nil→Xt,getD_cons_zero→Xu,mem_append→Xv,getElem?_set→Xx,replicate→Xz,mem_of_getElem?→XC,length_map→XD,all_eq_true→XH,getElem?_cons_zero→XJ,flatMap_cons→XK,lookup_cons→XL,getD_cons_succ→XN,getElem?_eq_none→XQ,mem_cons→XR,getElem?_cons_succ→XT,mem_map→X2,map_append→X4,range→Wa,getElem?_eq_getElem→We,mem_singleton→Wf,getElem?_append_left→Wi,mem_flatMap→Wk,all_nil→Ws,drop_eq_nil_of_le→Wz,getElem?_append_right→WD,mem_filter→WJ,drop_eq_getElem_cons→WO,contains_nil→W4,isEmpty_iff→W8,set_comm→Xae,getElem_mem→Xag,isEmpty_nil→Xai,mem_range→Xak,map_congr_left→XaC,range'→XaD,drop_drop→XaO,map_map→XaQ,range'_succ→Xba
open Bool renaming false_eq_true→Xj,and_eq_true→Xk,and_self→Wg,or_eq_true→WB,not_eq_true'→W3
open Option renaming map_eq_some_iff→Xq,map_some→X8,getD_some→WF,getD_none→Xah
open Or renaming inl→Xr,inr→XE
open Nat renaming zero_add→XB,le_refl→XF,add_zero→Wc,lt_or_ge→Wx,add_assoc→WC,sub_self→Xaa,add_comm→Xbi
open Array renaming getElem?_eq_some_iff→XX,getD_eq_getD_getElem?→WA,toList_push→XaK,ext'→Xbf
open ByteArray renaming size→Wu
open List.cons renaming injEq→XaG
namespace Go.Proofs.YtfhocpplckoodaaGreatDoor
set_option maxHeartbeats 16000000
set_option maxRecDepth 10000
section
open Go.RowKit
section
variable {base:Nat->Prop}{w0 w w':World}{I0 I I':Imm}{β β':Bmap}{σ σ':Za}{ρ:Rho}
def Zhv(ρ:Rho)(β β':Bmap):Prop:=∀ t g t' g' bi,ρ t g=some (t',g')->β t g=some bi->β' t' g'=some bi
mutual
theorem Zin(hρ:Zhv ρ β β'):∀ (x:AVal) (v:Value),VR I β x v->VR I β' (Zo ρ x) v
 | .top,_,h=>by simp only[Zo,VR]
 | .any,_,h=>by simpa only[Zo,VR]using h
 | .int _ _,_,h=>by simpa only[Zo,VR]using h
 | .bool _,_,h=>by simpa only[Zo,VR]using h
 | .str _,_,h=>by simpa only[Zo,VR]using h
 | .nilp,_,h=>by simpa only[Zo,VR]using h
 | .nilm,_,h=>by simpa only[Zo,VR]using h
 | .nili,_,h=>by simpa only[Zo,VR]using h
 | .pan _,_,h=>by simp only[VR]at h
 | .iface t x,_,h=>by
  simp only[Zo,VR]at h⊢
  obtain⟨u,h1,h2⟩:=h
  exact⟨u,h1,Zin hρ x u h2⟩
 | .ref t o,_,h=>by
  simp only[VR]at h
  obtain⟨b,k,c,h1,h2⟩:=h
  simp only[Zo]
  split
  ·rename_i t' e
   simp only[VR]
   exact⟨b,k,c,hρ _ _ _ _ _ e h1,h2⟩
  ·subst h2;simp only[VR];exact⟨rfl,rfl⟩
 | .map t,_,h=>by
  simp only[VR]at h
  obtain⟨b,k,c,h1,h2⟩:=h
  simp only[Zo]
  split
  ·rename_i t' e
   simp only[VR]
   exact⟨b,k,c,hρ _ _ _ _ _ e h1,h2⟩
  ·subst h2;simp only[VR];exact⟨rfl,rfl⟩
 | .eref t g i o,_,h=>by
  simp only[VR]at h
  obtain⟨b,k,c,h1,h2⟩:=h
  simp only[Zo]
  split
  ·rename_i t' g' e
   simp only[VR]
   exact⟨b,k,c,hρ _ _ _ _ _ e h1,h2⟩
  ·subst h2;simp only[VR];exact⟨rfl,rfl⟩
 | .sl t g lo n,_,h=>by
  simp only[VR]at h
  obtain⟨bi,h1,h2,h3,h4⟩:=h
  simp only[Zo]
  split
  ·rename_i t' g' e
   simp only[VR]
   exact⟨bi,hρ _ _ _ _ _ e h1,h2,h3,h4⟩
  ·simp only[VR]
   rcases h4 with⟨_,_,rfl⟩ |⟨_,_,_,rfl⟩ |⟨_,_,_,_,rfl⟩<;>exact⟨rfl,rfl⟩
 | .iptr cs o,_,h=>by
  simp only[Zo,VR]at h⊢
  obtain⟨b,off,h1,h2,h3⟩:=h
  exact⟨b,off,h1,CR.of_tree h3 h2,h3⟩
 | .lst x xs,_,h=>by
  simp only[Zo,VR]at h⊢
  obtain⟨A,cap,h1,h2,h3,h4,h5,h6⟩:=h
  refine⟨A,cap,h1,h2,h3,h4,?_,h6⟩
  rcases h5 with h5 |⟨b,off,k,e,hk,h5⟩
  ·exact Xr h5
  ·exact XE ⟨b,off,k,e,hk,(LR.tree k xs b off h6 h5).mono (Imm.le.refl I) (ZkU β') _ _ _ _⟩
 | .agg cs,_,h=>by
  simp only[Zo,VR]at h⊢
  obtain⟨us,h1,h2⟩:=h
  exact⟨us,h1,Zgs hρ cs us.toList h2⟩
 | .tup cs,_,h=>by
  simp only[Zo,VR]at h⊢
  obtain⟨us,h1,h2⟩:=h
  exact⟨us,h1,Zgs hρ cs us.toList h2⟩
 | .fn f cs,_,h=>by
  simp only[Zo,VR]at h⊢
  obtain⟨fs,us,h1,h0,h2⟩:=h
  exact⟨fs,us,h1,h0,Zgs hρ cs (fs.toList++us.toList) h2⟩
theorem Zgs(hρ:Zhv ρ β β'):∀ (xs:List AVal) (vs:List Value),VRs I β xs vs->VRs I β' (Zh ρ xs) vs
 | [],_,h=>by simpa only[Zh,VRs]using h
 |x::xs,_,h=>by
  simp only[Zh,VRs]at h⊢
  obtain⟨v,vs',h1,h2,h3⟩:=h
  exact⟨v,vs',h1,Zin hρ x v h2,Zgs hρ xs vs' h3⟩
end
theorem Zg2:∀ (xs:List AVal),Zh ρ xs=xs.map (Zo ρ)
 | []=>rfl
 |x::xs=>by simp only[Zh,Xm,Zg2 xs]
def ZeN:ZO->Bool
 | .var _ | .map _ | .siter _ _ | .opq=>true
 |_=>false
theorem ZyH(x:AVal):(Zo ρ x).cells=x.cells.map (Zo ρ):=by
 cases x with
 |agg cs=>simp only[Zo,AVal.cells,Zg2]
 |ref t o =>
  show(Zo ρ (.ref t o)).cells=[Zo ρ (.ref t o)]
  simp only[Zo]
  generalize ρ t 0=q
  rcases q with _ |⟨t',_ |g⟩<;>rfl
 |eref t g i o =>
  show(Zo ρ (.eref t g i o)).cells=[Zo ρ (.eref t g i o)]
  simp only[Zo]
  generalize ρ t g=q
  rcases q with _ |⟨t',g'⟩<;>rfl
 |sl t g i o =>
  show(Zo ρ (.sl t g i o)).cells=[Zo ρ (.sl t g i o)]
  simp only[Zo]
  generalize ρ t g=q
  rcases q with _ |⟨t',g'⟩<;>rfl
 |map t =>
  show(Zo ρ (.map t)).cells=[Zo ρ (.map t)]
  simp only[Zo]
  generalize ρ t 0=q
  rcases q with _ |⟨t',_ |g⟩<;>rfl
 |_=>simp only[Zo,AVal.cells,Xm,Xt]
theorem ZLU(x:AVal):x.cells.length=(Zo ρ x).cells.length/\(∀ c∈(Zo ρ x).cells,∃ c0∈x.cells,c=Zo ρ c0):=by
 rw[ZyH]
 exact⟨by simp,fun c hc=>by obtain⟨c0,h0,rfl⟩:=X2.1 hc;exact⟨c0,h0,rfl⟩⟩
theorem ZQj{c:AVal}(h:ZX c=true):ZX (Zo ρ c)=true:=by
 cases c<;>first
  |(simp[ZX]at h;done)
  |(simp only[Zo];rfl)
  |(simp only[Zo];split<;>rfl)
theorem ZBh:∀ (xs:List AVal),(Zh ρ xs).flatMap AVal.cells=Zh ρ (xs.flatMap AVal.cells)
 | []=>rfl
 |x::xs=>by
  rw[Zh,XK,XK,ZBh xs,Zg2,Zg2,X4]
  rw[ZyH]
theorem ZBa(hρ:Zhv ρ β β'){t t':Nat}{x:ZO}{g':Nat}(hg:∀ bi,β t (Zl x)=some bi->β' t' g'=some bi)(hv:ZeN x=true->g'=0)(h:BR I β w t x):BR I β' w t' (Zy ρ g' x):=by
 cases x with
 |free=>trivial
 |map es =>
  obtain⟨b,k,c,arr,clk,h1,h2,h3,h4,h5,h6⟩:=h
  have e:=hv rfl
  subst e
  refine⟨b,k,c,arr,clk,hg _ h1,h2,?_,?_,?_,h6⟩
  ·rw[XaQ]
   refine VRs.of_cells (β:=β) ?_ h3
   intro x hx
   obtain⟨p,hp,rfl⟩:=X2.1 hx
   have:=h5 p hp
   show ZaX p.1.cells=true
   generalize p.1=q at this ⊢
   cases q<;>simp[ZnU]at this<;>rfl
  ·have:=Zgs hρ _ _ h4
   rw[Zg2,XaQ]at this
   rw[XaQ]
   exact this
  ·intro p hp
   obtain⟨q,hq,rfl⟩:=X2.1 hp
   exact h5 q hq
 |opq =>
  obtain⟨bi,h⟩:=h
  have e:=hv rfl
  subst e
  exact⟨bi,hg _ h⟩
 |siter l p =>
  obtain⟨b,k,c,h1,h2⟩:=h
  have e:=hv rfl
  subst e
  exact⟨b,k,c,hg _ h1,h2⟩
 |rrow g k xs =>
  obtain⟨bi,h1,h2,h3,h4,h5,h6,b,us,ty,e,h8,h9,h10⟩:=h
  refine⟨bi,hg _ h1,h2,h3,h4,by rw[Zg2,XD];exact h5,?_,b,us,ty,e,h8,h9,?_⟩
  ·intro x hx
   rw[Zg2]at hx
   obtain⟨y,hy,rfl⟩:=X2.1 hx
   obtain⟨q1,q2⟩:=ZLU (ρ:=ρ) y
   refine⟨by rw[<-q1];exact(h6 y hy).1,fun c hc=>?_⟩
   obtain⟨c0,hc0,rfl⟩:=q2 c hc
   exact ZQj ((h6 y hy).2 c0 hc0)
  ·rw[ZBh,show(Zh ρ xs).length=xs.length by rw[Zg2,XD]]
   exact Zgs hρ _ _ h10
 |var cs =>
  obtain⟨b,k,c,us,ty,h1,h2,h3⟩:=h
  have e:=hv rfl
  subst e
  exact⟨b,k,c,us,ty,hg _ h1,h2,Zgs hρ _ _ h3⟩
 |row g k xs =>
  obtain⟨bi,h1,h2,h3,h4,h5,h6,h7,h8⟩:=h
  refine⟨bi,hg _ h1,h2,h3,h4,h5,h6,h7,?_⟩
  rcases h8 with h8 |⟨b,us,ty,e,h8,h9,h10⟩
  ·exact Xr h8
  ·refine XE ⟨b,us,ty,e,h8,h9,VRs.of_cells (β:=β) ?_ h10⟩
   intro x hx
   have:=Zdy.1 (Zm9 h6) x hx
   cases x<;>simp_all[Zbb,AVal.cells,ZaX]
 |frow g k xs =>
  obtain⟨bi,h1,h2,h3,h4,h5,h6,h7⟩:=h
  refine⟨bi,hg _ h1,h2,h3,h4,h5,h6,?_⟩
  rcases h7 with h7 |⟨b,e,h7⟩
  ·exact Xr h7
  ·exact XE ⟨b,e,(LR.tree _ _ _ _ h6 h7).mono (Imm.le.refl I) (ZkU β') _ _ _ _⟩
theorem ZxS{t t' g':Nat}{x:ZO}(hg:∀ bi,β t (Zl x)=some bi->β' t' g'=some bi)(hv:ZeN x=true->g'=0)(h:BR I β w t x):ZL β' t' (Zy ρ g' x)=ZL β t x:=by
 cases x with
 |free=>rfl
 |opq=>rfl
 |map es =>
  obtain⟨b,k,c,_,_,h1,_⟩:=h
  have e:=hv rfl
  subst e
  have h2:=hg _ h1
  have h1':β t 0=some ⟨some b,k,c⟩:=h1
  simp[ZL,Zy,h1',h2]
 |siter l p =>
  obtain⟨b,k,c,h1,_⟩:=h
  have e:=hv rfl
  subst e
  have h2:=hg _ h1
  have h1':β t 0=some ⟨some b,k,c⟩:=h1
  simp[ZL,Zy,h1',h2]
 |rrow g k xs =>
  obtain⟨bi,h1,_⟩:=h
  have h2:=hg _ h1
  have h1':β t g=some bi:=h1
  simp[ZL,Zy,h1',h2]
 |frow=>rfl
 |var cs =>
  obtain⟨b,k,c,us,ty,h1,_⟩:=h
  have e:=hv rfl
  subst e
  have h2:=hg _ h1
  have h1':β t 0=some ⟨some b,k,c⟩:=h1
  simp[ZL,Zy,h1',h2]
 |row g k xs =>
  obtain⟨bi,h1,_⟩:=h
  have h2:=hg _ h1
  have h1':β t g=some bi:=h1
  simp[ZL,Zy,h1',h2]
theorem Zwk{g':Nat}{x:ZO}(hv:ZeN x=true->g'=0)(hx:okB x=true):Zl (Zy ρ g' x)=g':=by
 cases x with
 |var cs=>simp[Zy,Zl,hv rfl]
 |row=>rfl
 |frow=>rfl
 |rrow=>rfl
 |map es=>simp[Zy,Zl,hv rfl]
 |siter l p=>simp[Zy,Zl,hv rfl]
 |opq=>simp[Zy,Zl,hv rfl]
 |free=>simp[okB]at hx
theorem Zsd:∀ {ids:List Nat} {t i j:Nat},ZI t ids i=some j->∃ k,j=i+k/\ids[k]?=some t
 | [],t,i,j,h=>by simp[ZI]at h
 |x::xs,t,i,j,h=>by
  simp only[ZI]at h
  split at h
  ·rename_i e;injection h with h;subst h e;exact⟨0,by simp,rfl⟩
  ·obtain⟨k,h1,h2⟩:=Zsd h
   exact⟨k+1,by omega,by simpa using h2⟩
theorem Zyv{m:Nat}{ids:List Nat}:∀ {ts:List Nat} {j i:Nat},(Zn σ m ids ρ ts j)[i]?=(ts[i]?).map fun t=>Zy ρ (ZF m (j+i) (σ.getD t .free)) (σ.getD t .free)
 | [],j,i=>by simp[Zn]
 |t::ts,j,0=>by simp[Zn]
 |t::ts,j,i+1=>by
  simp only[Zn,XT]
  rw[Zyv (ts:=ts) (j:=j+1) (i:=i)]
  congr 2
  funext t
  rw[show j+1+i=j+(i+1)by omega]
theorem Zqp{m:Nat}{ids:List Nat}:∀ {ts:List Nat} {j:Nat},(Zn σ m ids ρ ts j).length=ts.length
 | [],j=>rfl
 |t::ts,j=>by simp only[Zn,List.length_cons,Zqp]
def ZcK(σ:Za)(m:Nat)(ids:List Nat)(β:Bmap):Bmap:=fun j g=>match ids[j]? with
 |some t=>match σ[t]? with
  |some b=>if okB b then(if g=ZF m j b then β t (Zl b)else if j<m/\g=0 then β t 0 else none)else none
  |none=>none
 |none=>none
theorem ZrV{m:Nat}{ids:List Nat}:Zhv (Zk σ m ids) β (ZcK σ m ids β):=by
 intro t g t' g' bi h hb
 unfold Zk at h
 split at h
 ·rename_i j hj
  obtain⟨k,e,hk⟩:=Zsd hj
  have e':j=k:=by omega
  subst e'
  have fin:∀ b,σ[t]?=some b->okB b=true->(if g=Zl b then some (j,ZF m j b)else(none:Option (Nat×Nat)))=some (t',g')->ZcK σ m ids β t' g'=some bi:=by
   intro b hb' hok h
   by_cases e:g=Zl b
   ·rw[if_pos e]at h
    simp only[Xb,Xd]at h
    obtain⟨rfl,rfl⟩:=h
    unfold ZcK
    simp only[hk,hb',hok,if_true]
    rw[<-e];exact hb
   ·rw[if_neg e]at h;cases h
  split at h
  ·cases h
  ·rename_i b n1 hb'
   refine fin b hb' ?_ h
   cases b with
   |free=>exact absurd rfl n1
   |map es=>rfl
   |siter=>rfl
   |opq=>rfl
   |rrow=>rfl
   |var=>rfl
   |row=>rfl
   |frow=>rfl
  ·cases h
 ·cases h
theorem ZNU{m j:Nat}{x:ZO}(h:ZeN x=true):ZF m j x=0:=by cases x<;>simp[ZeN]at h<;>simp[ZF,Zl]
theorem Rel.pick(R:Rel base w0 I0 I β σ w){K':Nat->Prop}{w1:World}{I1:Imm}{m:Nat}{ids:List Nat}(hnd:ids.Nodup)(h1:KB K' w1 w)(h2:∀ b o,K' b->I b o=I1 b o)(h3:∀ t x b,t∈ids->σ[t]?=some x->ZL β t x=some b->¬K' b)(h4:GB K' w1) :
  Rel K' w1 I1 I (ZcK σ m ids β) (Zn σ m ids (Zk σ m ids) ids 0) w:=by
 have look:∀ j x',(Zn σ m ids (Zk σ m ids) ids 0)[j]?=some x'->∃ t,ids[j]?=some t/\(x'=.free/\(∀ g,ZcK σ m ids β j g=none)\/∃ x,σ[t]?=some x/\okB x=true/\x'=Zy (Zk σ m ids) (ZF m j x) x/\ZcK σ m ids β j (ZF m j x)=β t (Zl x)):=by
  intro j x' h
  rw[Zyv,Xq]at h
  obtain⟨t,ht,h⟩:=h
  simp only[XB]at h
  refine⟨t,ht,?_⟩
  cases hx:σ[t]? with
  |none =>
   left
   have : σ.getD t .free=.free:=by simp[Xh,hx]
   rw[this]at h
   exact⟨h.symm,fun g=>by simp[ZcK,ht,hx]⟩
  |some x =>
   have hd:σ.getD t .free=x:=by simp[Xh,hx]
   rw[hd]at h
   by_cases hok:okB x=true
   ·exact XE ⟨x,rfl,hok,h.symm,by simp[ZcK,ht,hx,hok]⟩
   ·left
    refine⟨?_,fun g=>by simp[ZcK,ht,hx,hok]⟩
    rw[<-h]
    cases x<;>simp_all[okB,Zy]
 have hvar:∀ (j:Nat) (x:ZO),ZeN x=true->ZF m j x=0:=fun j x h=>ZNU h
 have hown:∀ j x' b,(Zn σ m ids (Zk σ m ids) ids 0)[j]?=some x'->ZL (ZcK σ m ids β) j x'=some b->∃ t x,ids[j]?=some t/\σ[t]?=some x/\ZL β t x=some b:=by
  intro j x' b h hb
  obtain⟨t,ht,⟨rfl,_⟩ |⟨x,hx,hok,rfl,hβ⟩⟩:=look j x' h
  ·cases hb
  ·rw[ZxS (fun bi h=>by rw[hβ];exact h) (hvar j x) (R.blk t x hx)]at hb
   exact⟨t,x,ht,hx,hb⟩
 refine⟨h1,h2,R.imm,?_,?_,?_,?_,?_,?_,⟨R.glob.1,h4⟩⟩
 ·intro j x' h
  obtain⟨t,ht,⟨rfl,_⟩ |⟨x,hx,hok,rfl,hβ⟩⟩:=look j x' h
  ·trivial
  ·exact ZBa ZrV (fun bi h=>by rw[hβ];exact h) (hvar j x) (R.blk t x hx)
 ·intro j x' b h hb
  obtain⟨t,x,ht,hx,hb⟩:=hown j x' b h hb
  exact⟨h3 t x b (XC ht) hx hb,(R.own t x b hx hb).2⟩
 ·intro j x j' x' b h h' hb hb'
  obtain⟨t,y,ht,hy,e⟩:=hown j x b h hb
  obtain⟨t',y',ht',hy',e'⟩:=hown j' x' b h' hb'
  have:=R.apart t y t' y' b hy hy' e e'
  subst this
  exact(List.getElem?_inj (Xl.1 ht).1 hnd).1 (ht.trans ht'.symm)
 ·intro j g h
  rw[Zqp]at h
  unfold ZcK
  rw[XQ h]
 ·intro j g h
  obtain⟨t,ht,⟨_,h⟩ |⟨x,hx,hok,h,hβ⟩⟩:=look j _ h
  ·exact h g
  ·cases x<;>first |(simp only[okB]at hok;cases hok;done) |(simp only[Zy]at h;cases h;done)
 ·intro j b g h hg
  obtain⟨t,ht,⟨_,h⟩ |⟨x,hx,hok,rfl,hβ⟩⟩:=look j _ h
  ·exact h g
  ·rw[Zwk (hvar j x) hok]at hg
   simp only[ZcK,ht,hx,hok,if_true]
   rw[if_neg (by omega),if_neg (by omega)]
theorem Zkn:∀ (n:Nat) (todo acc:List Nat),acc.Nodup->(Zs σ n todo acc).Nodup/\∃ r,Zs σ n todo acc=acc++r
 |0,todo,acc,h=>⟨h,[],by simp[Zs]⟩
 |n+1,[],acc,h=>⟨h,[],by simp[Zs]⟩
 |n+1,t::todo,acc,h=>by
  simp only[Zs]
  split
  ·exact Zkn n todo acc h
  ·rename_i hc
   have hnd:(acc++[t]).Nodup:=by
    rw[List.nodup_append]
    refine⟨h,by simp,?_⟩
    intro a ha b hb
    simp only[Wf]at hb
    subst hb
    rintro rfl
    simp[ha]at hc
   obtain⟨h1,r,h2⟩:=Zkn n (Zx (σ.getD t .free)++todo) (acc++[t]) hnd
   exact⟨h1,t::r,by rw[h2];simp⟩
def KeptE(m:Nat)(β β':Bmap):Prop:=∀ t,t<m->∀ bi,β t 0=some bi->β' t 0=some bi
theorem KeptE.refl(m:Nat)(β:Bmap):KeptE m β β:=fun _ _ _ h=>h
theorem KeptE.trans{m:Nat}{a b c:Bmap}(h:KeptE m a b)(h':KeptE m b c):KeptE m a c:=fun t ht bi e=>h' t ht bi (h t ht bi e)
theorem KeptE.of_le{m:Nat}(h:β.le β'):KeptE m β β':=fun t _ bi e=>h t 0 bi e
theorem ZrU(R:Rel base w0 I0 I β σ w)(m:Nat)(roots:List AVal):∃ β',KeptE m β β'/\Rel base w0 I0 I β' (gcA m roots σ).2 w/\Zhv (Zk σ m (Zu m roots σ)) β β':=by
 obtain⟨hnd,r,hr⟩:=Zkn (σ:=σ) 1000 (Zt roots++(Wa m).flatMap fun t=>Zx (σ.getD t .free)) (Wa m) List.nodup_range
 have hids:Zu m roots σ=Wa m++r:=hr
 refine⟨ZcK σ m (Zu m roots σ) β,?_,R.pick hnd R.below R.old (fun t x b _ hx hb=>(R.own t x b hx hb).1) R.glob.2,ZrV⟩
 intro t ht bi hb
 have h1:(Zu m roots σ)[t]?=some t:=by rw[hids,Wi (by simpa using ht)];simp[ht]
 unfold ZcK
 simp only[h1]
 cases hx:σ[t]? with
 |none =>
  have : β t 0=none:=R.fresh t 0 (by simpa using hx)
  rw[this]at hb;cases hb
 |some x =>
  simp only
  have hok:okB x=true:=by
   cases x with
   |free=>rw[R.free t 0 hx]at hb;cases hb
   |map es=>rfl
   |siter=>rfl
   |opq=>rfl
   |rrow=>rfl
   |var=>rfl
   |row=>rfl
   |frow=>rfl
  rw[if_pos hok]
  split
  ·rename_i e
   have : Zl x=0:=by
    unfold ZF at e
    by_cases h0:Zl x=0
    ·exact h0
    ·rw[if_pos ⟨ht,h0⟩]at e;cases e
   rw[this];exact hb
  ·rw[if_pos ⟨ht,trivial⟩];exact hb
theorem Zu7:∀ (tm:Tms) (n:Nat),tget ((tm.map (·.1)).zip (Zh ρ (tm.map (·.2)))) n=Zo ρ (tget tm n)
 | [],n=>by simp[tget,Zo]
 |(d,v)::tm,n=>by
  simp only[Xm,Zh,List.zip_cons_cons,tget]
  split
  ·rfl
  ·exact Zu7 tm n
theorem ZNC(R:Rel base w0 I0 I β σ w){tm:Tms}{tmps:Array Value}(T:TR I β tm tmps)(m:Nat):∃ β',KeptE m β β'/\Rel base w0 I0 I β' (gcT m tm σ).2 w/\TR I β' (gcT m tm σ).1 tmps:=by
 obtain⟨β',h1,h2,h3⟩:=ZrU R m (tm.map (·.2))
 refine⟨β',h1,h2,fun n=>?_⟩
 show VR I β' (tget ((tm.map (·.1)).zip (Zh _ (tm.map (·.2)))) n) _
 rw[Zu7]
 exact Zin h3 _ _ (T n)
def Ends(r:AVal)(e:Ending)(u:Value):Prop:=match r with
 | .pan _=>e=.panicked [{ v:=u,recovered:=false }]
 |_=>e=.returned u
def Zbg:AVal->AVal
 | .pan x=>x
 |x=>x
def ZbW(m:Nat)(base:Nat->Prop)(w0:World)(I0 I:Imm)(β:Bmap)(r:AVal)(σ':Za)(u:Value)(w':World):Prop :=
 ∃ I' β',I.le I'/\KeptE m β β'/\Rel base w0 I0 I' β' σ' w'/\VR I' β' (Zbg r) u
theorem Ends.ren{r:AVal}{e:Ending}{u:Value}(h:Ends r e u):Ends (Zo ρ r) e u:=by
 cases r<;>first
  |exact h
  |(simp only[Zo];split<;>exact h)
theorem ZgO{r:AVal}(h:∀ x,r≠.pan x):Zbg r=r:=by
 cases r<;>first |rfl |exact absurd rfl (h _)
theorem ZSn{r:AVal}(h:∀ x,r≠.pan x):∀ x,Zo ρ r≠.pan x:=by
 intro x
 cases r<;>first
  |(intro e;simp only[Zo]at e;cases e;done)
  |exact absurd rfl (h _)
  |(simp only[Zo];split<;>simp)
theorem Zpk(r:AVal):Zbg (Zo ρ r)=Zo ρ (Zbg r)\/∃ x,r=.pan x:=by
 by_cases h:∃ x,r=.pan x
 ·exact XE h
 ·have h':∀ x,r≠.pan x:=fun x e=>h ⟨x,e⟩
  exact Xr (by rw[ZgO (ZSn h'),ZgO h'])
theorem Zlk{m:Nat}{r r':AVal}{u:Value}(h:ZbW m base w0 I0 I β r σ u w)(he:Z4 m σ r=some (r',σ')):ZbW m base w0 I0 I β r' σ' u w/\∀ e,Ends r e u->Ends r' e u:=by
 obtain⟨I1,β1,h1,h2,h3,h4⟩:=h
 obtain⟨β2,g1,g2,g3⟩:=ZrU h3 m [r]
 unfold Z4 gcA at he
 simp only[Zh,Xb,Xd]at he
 obtain⟨rfl,rfl⟩:=he
 refine⟨⟨I1,β2,h1,h2.trans g1,g2,?_⟩,fun e he=>he.ren⟩
 have:=Zin g3 _ _ h4
 rcases Zpk (ρ:=Zk σ m (Zu m [r] σ)) r with e |⟨x,rfl⟩
 ·rw[e];exact this
 ·exact this
theorem ZKn{m:Nat}{r r':AVal}{h h':Za}{u:Value}(hp:ZbW m base w0 I0 I β r h u w)(he:ZbB m (some (r,h))=some (r',h')):ZbW m base w0 I0 I β r' h' u w/\∀ e,Ends r e u->Ends r' e u:=by
 by_cases hpan:∃ x,r=.pan x
 ·obtain⟨x,rfl⟩:=hpan
  simp only[ZbB,Xb,Xd]at he
  obtain⟨rfl,rfl⟩:=he
  exact⟨hp,fun _ h=>h⟩
 ·have hv0:Zbg r=r:=by cases r<;>first |rfl |exact absurd ⟨_,rfl⟩ hpan
  have hends:∀ e,Ends r e u->e=.returned u:=by
   intro e h
   cases r<;>first |exact h |exact absurd ⟨_,rfl⟩ hpan
  have he':(match viewR h r with
   |some (r',ts)=>match gcA m [r'] (Zr h ts)with
    |([r''],σ')=>some (r'',σ')
    |_=>none
   |none=>none)=some (r',h'):=by
   cases r<;>first |exact he |exact absurd ⟨_,rfl⟩ hpan
  split at he'
  ·rename_i r1 ts hview
   obtain⟨I1,β1,h1,h2,h3,h4⟩:=hp
   rw[hv0]at h4
   obtain⟨I2,k1,k2,k3,_,k5,_,_⟩:=Zix ts h3
   have hres:=ZNw k2 (k5 (ZXu hview)) (by rw[k3.viewR];exact hview) (h4.mono k1 (Bmap.le.refl β1) _ _)
   have hnp:∀ x,r1≠.pan x:=by rintro x rfl;simp only[VR]at hres
   have hv1:Zbg r1=r1:=by cases r1<;>first |rfl |exact absurd rfl (hnp _)
   have ho:Z4 m (Zr h ts) r1=some (r',h'):=he'
   obtain⟨q1,q2⟩:=Zlk (⟨I2,β1,h1.trans k1,h2,k2,by rw[hv1];exact hres.mono (Imm.le.refl I2) (ZkU β1) _ _⟩:ZbW m base w0 I0 I β r1 (Zr h ts) u w) ho
   refine⟨q1,fun e he=>q2 e ?_⟩
   rw[hends e he]
   cases r1<;>first |rfl |exact absurd rfl (hnp _)
  ·cases he'
end
end
section
open Go.RowKit
def ZaO(P:Program)(O:ZV):Prop:=∀ f args σ r σ',O f args σ=some (r,σ') ->
 (∃ fn,P.funcs[f]?=some fn/\fn.body.isSome=true/\(fn.name == "runtime.NumGoroutine")=false) /\
 ∀ base w0 I0 I β w (vs:Array Value),KLt base w0->Rel base w0 I0 I β σ w->VRs I β args vs.toList ->
  Calls P f vs w (fun e w'=>∃ u,Ends r e u/\ZbW σ.length base w0 I0 I β r σ' u w')
section
variable {P:Program}{base:Nat->Prop}{w0 w w':World}{I0 I I':Imm}{β β':Bmap}{σ σ':Za}{tm:Tms}
theorem Zmu{a:Act}(T:TR I β tm a.tmps):∀ {xs:List Operand} {ys:List Opd},ZcU xs=some ys->VRs I β (ys.map fun y=>y.ev tm) (xs.map a.eval)
 | [],ys,h=>by simp only[ZcU,Xb]at h;subst h;simp[VRs]
 |x::xs,ys,h=>by
  simp only[ZcU]at h
  split at h
  ·rename_i y hy
   split at h
   ·rename_i ys' hys
    injection h with h;subst h
    simp only[Xm,VRs]
    exact⟨_,_,rfl,ZaB T hy,Zmu T hys⟩
   ·cases h
  ·cases h
theorem Zj2{a:Act}(T:TR I β tm a.tmps){x:Option Operand}{y:Option Opd}(h:ZhF x=some y):OVR I β (y.map fun y=>y.ev tm) (x.map a.eval):=by
 cases x with
 |none=>simp only[ZhF,Xb]at h;subst h;rfl
 |some x =>
  simp only[ZhF,Xq]at h
  obtain⟨y',h1,rfl⟩:=h
  exact⟨_,rfl,ZaB T h1⟩
theorem Zl4{f:FuncId}{args:Array Value}{fn:Func}(h1:P.funcs[f]?=some fn)(h2:fn.body.isSome=true)(h3:(fn.name == "runtime.NumGoroutine")=false):(callFunc f args).run P w=.ok (.enter f args) w:=by
 have h2':fn.body.isNone=false:=by cases hb:fn.body<;>simp_all
 have h3':¬fn.name = "runtime.NumGoroutine":=by simpa using h3
 have h2'':fn.body≠none:=by cases hb:fn.body<;>simp_all
 simp[callFunc,h1,h2'',h3']
section
variable {ids:List Nat}{sq:Nat}{ρ:Rho}
theorem Zju{σ0:Za}{t:Nat}:∀ {h:Za} {j:Nat} {σ:Za},(∀ i,i<h.length->ZaN ids sq (j+i)≠t)->(Za9 σ0 ids sq h j σ)[t]?=σ[t]?
 | [],j,σ,_=>rfl
 |b::bs,j,σ,hn=>by
  simp only[Za9]
  rw[Zju (fun i hi=>by have:=hn (i+1) (by simp;omega);rwa [show j+(i+1)=j+1+i by omega]at this),Xx,if_neg (by have:=hn 0 (by simp);simpa using this)]
theorem Zy7{σ0:Za}:∀ {h:Za} {j i:Nat} {σ:Za} {b:ZO},(∀ i i',i<h.length->i'<h.length->ZaN ids sq (j+i)=ZaN ids sq (j+i')->i=i')->h[i]?=some b->ZaN ids sq (j+i)<σ.length ->
  (Za9 σ0 ids sq h j σ)[ZaN ids sq (j+i)]?=some (Zy (ZaJ σ0 ids sq) (Zch σ0 ids (j+i) b) b)
 | [],j,i,σ,b,_,h,_=>by simp at h
 |b'::bs,j,0,σ,b,hinj,h,hlt=>by
  simp only[XJ,Xb]at h
  subst h
  simp only[Za9,Wc]at hlt ⊢
  rw[Zju,Xx,if_pos rfl,if_pos hlt]
  intro i hi e
  have:=hinj (i+1) 0 (by simp;omega) (by simp) (by rw[show j+(i+1)=j+1+i by omega];simpa using e)
  omega
 |b'::bs,j,i+1,σ,b,hinj,h,hlt=>by
  simp only[XT]at h
  simp only[Za9]
  rw[show j+(i+1)=j+1+i by omega]at hlt ⊢
  refine Zy7 (fun a a' ha ha' e=>?_) h (by simpa using hlt)
  have:=hinj (a+1) (a'+1) (by simp;omega) (by simp;omega) (by rw[show j+(a+1)=j+1+a by omega,show j+(a'+1)=j+1+a' by omega];exact e)
  omega
theorem ZAr{σ0:Za}:∀ {h:Za} {j:Nat} {σ:Za},(Za9 σ0 ids sq h j σ).length=σ.length
 | [],j,σ=>rfl
 |b::bs,j,σ=>by simp only[Za9];rw[ZAr];simp
theorem ZiX{σ0:Za}:∀ {h:Za} {j i:Nat} {b:ZO},ZaW σ0 ids h j=true->h[i]?=some b->okB b=true/\(match ids[j+i]? with
  |some t=>Zcr (σ0.getD t .free) b=true/\Zl b<=1
  |none=>Zl b=0)
 | [],j,i,b,_,h=>by simp at h
 |b'::bs,j,0,b,hok,h=>by
  simp only[XJ,Xb]at h
  subst h
  simp only[ZaW,Xk]at hok
  refine⟨hok.1.1,?_⟩
  rw[Wc]
  have:=hok.1.2
  revert this
  cases ids[j]? with
  |none=>intro h;simpa using h
  |some t=>intro h;simpa using h
 |b'::bs,j,i+1,b,hok,h=>by
  simp only[XT]at h
  simp only[ZaW,Xk]at hok
  have:=ZiX hok.2 h
  rwa [show j+1+i=j+(i+1)by omega]at this
theorem ZMC{x y:ZO}(hy:ZeN y=true)(h:Zcr x y=true):Zl x=0:=by
 cases x<;>cases y<;>first |rfl |(simp[Zcr]at h;done) |(simp[ZeN]at hy;done)
theorem Zw9{y:ZO}(hy:ZeN y=true):Zl y=0:=by
 cases y<;>first |rfl |(simp[ZeN]at hy;done)
theorem Zht:∀ {n sq i:Nat},ZaM σ sq n=true->i<n->σ[sq+i]?=some .free
 |0,_,_,_,hi=>by omega
 |n+1,sq,0,h,_=>by
  simp only[ZaM,Xk]at h
  have:=h.1
  unfold freeAt at this
  split at this
  ·rename_i e;simpa using e
  ·cases this
 |n+1,sq,i+1,h,hi=>by
  simp only[ZaM,Xk]at h
  have:=Zht (i:=i) h.2 (by omega)
  rwa [show sq+1+i=sq+(i+1)by omega]at this
theorem ZvF{t:Nat}:∀ {ids:List Nat} {i j:Nat},ids.Nodup->ids[j]?=some t->ZI t ids i=some (i+j)
 | [],i,j,_,h=>by simp at h
 |x::xs,i,0,_,h=>by
  simp only[XJ,Xb]at h
  simp[ZI,h]
 |x::xs,i,j+1,hn,h=>by
  simp only[XT]at h
  rw[List.nodup_cons]at hn
  have hne:x≠t:=by rintro rfl;exact hn.1 (XC h)
  simp only[ZI,hne,if_false]
  rw[ZvF hn.2 h]
  congr 1;omega
theorem Zqo{t:Nat}:∀ {ids:List Nat} {i:Nat},t∉ids->ZI t ids i=none
 | [],i,_=>rfl
 |x::xs,i,h=>by
  simp only[XR,not_or]at h
  have hne:x≠t:=fun e=>h.1 e.symm
  simp only[ZI,hne,if_false]
  exact Zqo h.2
def Ze8(σ:Za)(ids:List Nat)(sq n:Nat)(β β1:Bmap):Bmap:=fun t g=>match ZI t ids 0 with
 |some j=>if g<=Zl (σ.getD t .free)then β t g else if g=Zl (σ.getD t .free)+1 then β1 j 1 else none
 |none=>if sq<=t/\t<sq+n then(if g=0 then β1 (ids.length+(t-sq)) 0 else none)else β t g
theorem Rel.back{Ic:Imm}{βc:Bmap}{h:Za}{n:Nat}(R:Rel base w0 I0 I β σ w)(hb:KLt base w0)(hnd:ids.Nodup)(hok:ids.all (fun t=>okB (σ.getD t .free))=true)
  (Rc:Rel (fun b=>b<w.heap.size/\∀ t∈ids,∀ x,σ[t]?=some x->ZL β t x≠some b) w I Ic βc h w') (hI:I.le Ic) (hkept:KeptE ids.length (ZcK σ 0 ids β) βc)
  (h1:h.length<=ids.length+n) (h2:ids.length<=h.length) (h3:ZaW σ ids h 0=true) (h4:ZaM σ sq n=true) :
  ∃ β2,β.le β2/\Rel base w0 I0 Ic β2 (Za9 σ ids sq h 0 σ) w'/\Zhv (ZaJ σ ids sq) βc β2:=by
 have hbw:=R.base_le hb
 have hblk:∀ t,t∈ids->∃ x,σ[t]?=some x/\okB x=true/\σ.getD t .free=x/\∃ bi,β t (Zl x)=some bi:=by
  intro t ht
  have h0:=XH.1 hok t ht
  cases hx:σ[t]? with
  |none=>simp[Xh,hx,okB]at h0
  |some x =>
   have hd:σ.getD t .free=x:=by simp[Xh,hx]
   rw[hd]at h0
   refine⟨x,rfl,h0,hd,?_⟩
   have hB:=R.blk t x hx
   cases x with
   |free=>simp[okB]at h0
   |map es=>obtain⟨b,k,c,_,_,e,_⟩:=hB;exact⟨_,e⟩
   |siter l p=>obtain⟨b,k,c,e,_⟩:=hB;exact⟨_,e⟩
   |opq=>exact hB
   |rrow g k xs=>obtain⟨bi,e,_⟩:=hB;exact⟨_,e⟩
   |var cs=>obtain⟨b,k,c,us,ty,e,_⟩:=hB;exact⟨_,e⟩
   |row g k xs=>obtain⟨bi,e,_⟩:=hB;exact⟨_,e⟩
   |frow g k xs=>obtain⟨bi,e,_⟩:=hB;exact⟨_,e⟩
 have hnot:∀ i,i<n->sq+i∉ids:=by
  intro i hi hm
  obtain⟨x,hx,hk,_⟩:=hblk _ hm
  rw[Zht h4 hi]at hx
  injection hx with hx;subst hx;simp[okB]at hk
 have tgt_ids:∀ j t,ids[j]?=some t->ZaN ids sq j=t:=by intro j t ht;simp[ZaN,Xh,ht]
 have tgt_new:∀ j,ids.length<=j->ZaN ids sq j=sq+(j-ids.length):=by intro j hj;simp[ZaN,Xh,XQ hj]
 have split_j:∀ j,j<h.length->(∃ t,ids[j]?=some t/\t∈ids/\ZaN ids sq j=t)\/(ids.length<=j/\ids[j]?=none/\j-ids.length<n/\ZaN ids sq j=sq+(j-ids.length)):=by
  intro j hj
  by_cases hlt:j<ids.length
  ·have e:ids[j]?=some ids[j]:=We hlt
   exact Xr ⟨ids[j],e,Xag hlt,tgt_ids _ _ e⟩
  ·exact XE ⟨by omega,XQ (by omega),by omega,tgt_new j (by omega)⟩
 have inj:∀ i i',i<h.length->i'<h.length->ZaN ids sq (0+i)=ZaN ids sq (0+i')->i=i':=by
  intro i i' hi hi' e
  rw[XB,XB]at e
  rcases split_j i hi with⟨t,a1,a2,a3⟩ |⟨a1,_,a3,a4⟩<;>rcases split_j i' hi' with⟨t',b1,b2,b3⟩ |⟨b1,_,b3,b4⟩
  ·rw[a3,b3]at e;subst e
   exact(List.getElem?_inj (Xl.1 a1).1 hnd).1 (a1.trans b1.symm)
  ·rw[a3,b4]at e;subst e;exact absurd a2 (hnot _ b3)
  ·rw[a4,b3]at e;subst e;exact absurd b2 (hnot _ a3)
  ·rw[a4,b4]at e;omega
 have tlt:∀ j,j<h.length->ZaN ids sq j<σ.length:=by
  intro j hj
  rcases split_j j hj with⟨t,a1,a2,a3⟩ |⟨a1,_,a3,a4⟩
  ·rw[a3]
   obtain⟨x,hx,_⟩:=hblk t a2
   exact(Xl.1 hx).1
  ·rw[a4];exact(Xl.1 (Zht h4 a3)).1
 have look:∀ t x',(Za9 σ ids sq h 0 σ)[t]?=some x'->(∃ j b,h[j]?=some b/\t=ZaN ids sq j/\x'=Zy (ZaJ σ ids sq) (Zch σ ids j b) b)\/((∀ j,j<h.length->ZaN ids sq j≠t)/\σ[t]?=some x'):=by
  intro t x' hx
  by_cases hex:∃ j,j<h.length/\ZaN ids sq j=t
  ·obtain⟨j,hj,rfl⟩:=hex
   have:=Zy7 (σ0:=σ) (σ:=σ) (j:=0) (i:=j) inj (We hj) (by rw[XB];exact tlt j hj)
   rw[XB]at this
   rw[this]at hx
   injection hx with hx
   exact Xr ⟨j,h[j],We hj,rfl,hx.symm⟩
  ·have hn:∀ j,j<h.length->ZaN ids sq j≠t:=fun j hj e=>hex ⟨j,hj,e⟩
   rw[Zju (fun i hi=>by rw[XB];exact hn i hi)]at hx
   exact XE ⟨hn,hx⟩
 have out:∀ t,(∀ j,j<h.length->ZaN ids sq j≠t)->t∉ids/\∀ g,Ze8 σ ids sq (h.length-ids.length) β βc t g=β t g:=by
  intro t hn
  have h0:t∉ids:=by
   intro hm
   obtain⟨j,hj⟩:=List.mem_iff_getElem?.1 hm
   exact hn j (by have:=(Xl.1 hj).1;omega) (tgt_ids j t hj)
  refine⟨h0,fun g=>?_⟩
  unfold Ze8
  rw[Zqo h0]
  simp only
  rw[if_neg]
  rintro⟨q1,q2⟩
  exact hn (ids.length+(t-sq)) (by omega) (by rw[tgt_new _ (by omega)];omega)
 have atIds:∀ j t,ids[j]?=some t->∀ g,Ze8 σ ids sq (h.length-ids.length) β βc t g=if g<=Zl (σ.getD t .free)then β t g else if g=Zl (σ.getD t .free)+1 then βc j 1 else none:=by
  intro j t hj g
  unfold Ze8
  rw[ZvF hnd hj]
  simp only[XB]
 have atNew:∀ i,i<h.length-ids.length->∀ g,Ze8 σ ids sq (h.length-ids.length) β βc (sq+i) g=if g=0 then βc (ids.length+i) 0 else none:=by
  intro i hi g
  unfold Ze8
  rw[Zqo (hnot i (by omega))]
  simp only
  rw[if_pos ⟨by omega,by omega⟩,show sq+i-sq=i by omega]
 have hle:β.le (Ze8 σ ids sq (h.length-ids.length) β βc):=by
  intro t g bi e
  by_cases hex:∃ j,j<h.length/\ZaN ids sq j=t
  ·obtain⟨j,hj,rfl⟩:=hex
   rcases split_j j hj with⟨t,a1,a2,a3⟩ |⟨a1,_,a3,a4⟩
   ·rw[a3]at e ⊢
    rw[atIds j t a1]
    obtain⟨x,hx,_,hd,_⟩:=hblk t a2
    rw[if_pos]
    ·exact e
    ·rcases Wx (Zl (σ.getD t .free)) g with hlt |hge
     ·rw[hd]at hlt;rw[R.gen t x g hx hlt]at e;cases e
     ·exact hge
   ·rw[a4]at e
    rw[R.free _ g (Zht h4 a3)]at e;cases e
  ·rw[(out t fun j hj e=>hex ⟨j,hj,e⟩).2];exact e
 have kept:∀ j t,ids[j]?=some t->∀ bi,βc j 0=some bi->β t (Zl (σ.getD t .free))=some bi:=by
  intro j t hj bi e
  obtain⟨x,hx,hk,hd,bi0,hb0⟩:=hblk t (XC hj)
  have hp:ZcK σ 0 ids β j 0=some bi0:=by
   unfold ZcK
   simp only[hj,hx,hk,if_true]
   rw[if_pos (by simp[ZF])];exact hb0
  have:=hkept j (Xl.1 hj).1 bi0 hp
  rw[this]at e;injection e with e;subst e
  rw[hd];exact hb0
 have hρ:Zhv (ZaJ σ ids sq) βc (Ze8 σ ids sq (h.length-ids.length) β βc):=by
  intro j g t' g' bi hr hbi
  have hjlt:j<h.length:=by
   rcases Wx j h.length with hlt |hge
   ·exact hlt
   ·rw[Rc.fresh j g hge]at hbi;cases hbi
  have hj':=We hjlt
  obtain⟨k1,k2⟩:=ZiX h3 hj'
  rw[XB]at k2
  have hgen:¬Zl h[j]<g:=fun hlt=>by rw[Rc.gen j _ g hj' hlt]at hbi;cases hbi
  rcases split_j j hjlt with⟨t,a1,a2,a3⟩ |⟨a1,a2,a3,a4⟩
  ·simp only[ZaJ,a1,Xb,Xd]at hr
   obtain⟨rfl,rfl⟩:=hr
   rw[a1]at k2
   rw[atIds j _ a1]
   have : g=0\/g=1:=by omega
   rcases this with rfl |rfl
   ·rw[if_pos (by omega)];exact kept j _ a1 bi hbi
   ·rw[if_neg (by omega),if_pos rfl];exact hbi
  ·simp only[ZaJ,a2,Xb,Xd]at hr
   obtain⟨rfl,rfl⟩:=hr
   rw[a2]at k2
   have : g=0:=by simp only at k2;omega
   subst this
   rw[atNew _ (by omega),if_pos rfl,show ids.length+(j-ids.length)=j by omega]
   exact hbi
 have hvar:∀ j b,h[j]?=some b->ZeN b=true->Zch σ ids j b=0:=by
  intro j b hj e
  have hjlt:=(Xl.1 hj).1
  obtain⟨k1,k2⟩:=ZiX h3 hj
  rw[XB]at k2
  unfold Zch
  rcases split_j j hjlt with⟨t,a1,a2,a3⟩ |⟨a1,a2,a3,a4⟩
  ·rw[a1]at k2 ⊢
   simp only at k2 ⊢
   obtain⟨x,hx,hk,hd,_⟩:=hblk t a2
   rw[hd]at k2 ⊢
   rw[ZMC e k2.1,Zw9 e]
  ·rw[a2];exact Zw9 e
 have hβg:∀ j b,h[j]?=some b->∀ bi,βc j (Zl b)=some bi->Ze8 σ ids sq (h.length-ids.length) β βc (ZaN ids sq j) (Zch σ ids j b)=some bi:=by
  intro j b hj bi e
  have hjlt:=(Xl.1 hj).1
  refine hρ j (Zl b) _ _ bi ?_ e
  rcases split_j j hjlt with⟨t,a1,a2,a3⟩ |⟨a1,a2,a3,a4⟩
  ·simp only[ZaJ,Zch,a1,a3]
  ·simp only[ZaJ,Zch,a2,a4]
 have hKK:∀ b,base b->b<w.heap.size/\∀ t∈ids,∀ x,σ[t]?=some x->ZL β t x≠some b:=by
  intro b hB
  exact⟨hbw b hB,fun t _ x hx e=>(R.own t x b hx e).1 hB⟩
 have hown:∀ j b,h[j]?=some b->ZL (Ze8 σ ids sq (h.length-ids.length) β βc) (ZaN ids sq j) (Zy (ZaJ σ ids sq) (Zch σ ids j b) b)=ZL βc j b:=fun j b hj =>
  ZxS (hβg j b hj) (hvar j b hj) (Rc.blk j b hj)
 have oth:∀ t x b,t∉ids->σ[t]?=some x->ZL β t x=some b->b<w.heap.size/\∀ t∈ids,∀ x,σ[t]?=some x->ZL β t x≠some b:=by
  intro t x b hn hx hbb
  refine⟨(R.blk t x hx).owns_lt hbb,fun t' ht' x' hx' e=>hn ?_⟩
  rw[R.apart t x t' x' b hx hx' hbb e];exact ht'
 refine⟨_,hle,⟨R.below.trans (Rc.below.mono hKK),fun b o hB=>(Rc.old b o (hKK b hB)).trans (R.old b o hB),Rc.imm,?_,?_,?_,?_,?_,?_,⟨Rc.glob.1,R.glob.2⟩⟩,hρ⟩
 ·intro t x' hx
  rcases look t x' hx with⟨j,b,hj,rfl,rfl⟩ |⟨hn,hx⟩
  ·exact ZBa hρ (hβg j b hj) (hvar j b hj) (Rc.blk j b hj)
  ·refine(R.blk t x' hx).keep hI hle fun b hbb=>Rc.below.block b (oth t x' b (out t hn).1 hx hbb)
 ·intro t x' b hx hbb
  rcases look t x' hx with⟨j,b',hj,rfl,rfl⟩ |⟨hn,hx⟩
  ·rw[hown j b' hj]at hbb
   have:=Rc.own j b' b hj hbb
   exact⟨fun hB=>this.1 (hKK b hB),this.2⟩
  ·rw[(R.blk t x' hx).owns_eq hle]at hbb
   refine⟨(R.own t x' b hx hbb).1,fun o=>?_⟩
   rw[Rc.old b o (oth t x' b (out t hn).1 hx hbb)]
   exact(R.own t x' b hx hbb).2 o
 ·intro t x t' x' b hx hx' hbb hbb'
  rcases look t x hx with⟨j,c,hj,rfl,rfl⟩ |⟨hn,hx⟩<;>rcases look t' x' hx' with⟨j',c',hj',rfl,rfl⟩ |⟨hn',hx'⟩
  ·rw[hown j c hj]at hbb;rw[hown j' c' hj']at hbb'
   rw[Rc.apart j c j' c' b hj hj' hbb hbb']
  ·rw[hown j c hj]at hbb;rw[(R.blk t' x' hx').owns_eq hle]at hbb'
   exact absurd (oth t' x' b (out t' hn').1 hx' hbb') (Rc.own j c b hj hbb).1
  ·rw[hown j' c' hj']at hbb';rw[(R.blk t x hx).owns_eq hle]at hbb
   exact absurd (oth t x b (out t hn).1 hx hbb) (Rc.own j' c' b hj' hbb').1
  ·rw[(R.blk t x hx).owns_eq hle]at hbb;rw[(R.blk t' x' hx').owns_eq hle]at hbb'
   exact R.apart t x t' x' b hx hx' hbb hbb'
 ·intro t g ht
  rw[ZAr]at ht
  have hn:∀ j,j<h.length->ZaN ids sq j≠t:=fun j hj e=>by have:=tlt j hj;omega
  rw[(out t hn).2];exact R.fresh t g ht
 ·intro t g hx
  rcases look t _ hx with⟨j,b,hj,rfl,e⟩ |⟨hn,hx⟩
  ·have:=(ZiX h3 hj).1
   cases b<;>first |(simp[okB]at this;done) |(simp only[Zy]at e;cases e;done)
  ·rw[(out t hn).2];exact R.free t g hx
 ·intro t x' g hx hg
  rcases look t _ hx with⟨j,b,hj,rfl,rfl⟩ |⟨hn,hx⟩
  ·obtain⟨k1,k2⟩:=ZiX h3 hj
   rw[XB]at k2
   rw[Zwk (hvar j b hj) k1]at hg
   have hjlt:=(Xl.1 hj).1
   rcases split_j j hjlt with⟨t,a1,a2,a3⟩ |⟨a1,a2,a3,a4⟩
   ·rw[a3,atIds j t a1]
    simp only[Zch,a1]at hg
    rw[if_neg (by omega)]
    split
    ·rename_i e
     exact Rc.gen j b 1 hj (by omega)
    ·rfl
   ·rw[a4,atNew _ (by omega)]
    rw[if_neg (by omega)]
  ·rw[(out t hn).2];exact R.gen t x' g hx hg
end
theorem Rel.after_flat{Ic I1:Imm}{βc:Bmap}{σc:Za}{K':Nat->Prop}(R:Rel base w0 I0 I β σ w)(hb:KLt base w0)(hK:∀ b,b<w.heap.size->K' b)(Rc:Rel K' w I1 Ic βc σc w'):Rel base w0 I0 I β σ w':=by
 have hbw:=R.base_le hb
 refine R.stay (Imm.le.refl I) (Rc.below.mono fun b h=>hK b (hbw b h)) (fun _ _ _=>rfl) (fun b o u h=>?_) (fun t x b h hb'=>⟨Rc.below.block b (hK b ((R.blk t x h).owns_lt hb')),(R.own t x b h hb').2⟩)
 have:=R.imm b o u h
 have hlt:=Zez this
 rw[<-this]
 simp only[World.cell?,Rc.below.block b (hK b hlt)]
theorem ZO6{I I':Imm}{β β':Bmap}{r:AVal}{u:Value}(hf:ZbJ r=true)(h:VR I β (Zbg r) u):VR I' β' (Zbg r) u:=by
 by_cases hp:∃ x,r=.pan x
 ·obtain⟨x,rfl⟩:=hp
  simp only[Zbg]at h⊢
  cases x<;>simp only[ZbJ,Zbr,Za5]at hf<;>first |(cases hf;done) |skip
  case iface t x =>
   simp only[VR]at h⊢
   obtain⟨u',h1,h2⟩:=h
   exact⟨u',h1,Zl9 hf h2⟩
 ·have hn:∀ x,r≠.pan x:=fun x e=>hp ⟨x,e⟩
  rw[ZgO hn]at h⊢
  exact ZIE hf h
theorem ZvU{I I':Imm}{β β':Bmap}(hI:∀ b o n,I b o=some (.int .u8 n)->I' b o=some (.int .u8 n)):∀ {xs:List AVal} {b off:Nat},xs.all Zn6=true->∀ {k:Nat},LR I β k xs b off->LR I' β' k xs b off
 | [],_,_,_,_,_=>by simp only[LR]
 |x::xs,b,off,hx,k,h=>by
  simp only[List.all_cons,Xk]at hx
  have ih:=fun(h:LR I β k xs b (off+k))=>ZvU (β':=β') hI hx.2 h
  have hx1:=hx.1
  unfold Zn6 at hx1
  split at hx1
  ·simp only[LR,VR]at h⊢
   obtain⟨⟨h0,u,h1,h2⟩,h3⟩:=h
   subst h2
   exact⟨⟨h0,_,hI _ _ _ h1,rfl⟩,ih h3⟩
  ·cases hx1
theorem Zv8{I I':Imm}{β β':Bmap}(hI:∀ b o n,I b o=some (.int .u8 n)->I' b o=some (.int .u8 n)){x:AVal}{v:Value}(hf:Zjc x=true)(h:VR I β x v):VR I' β' x v:=by
 unfold Zjc at hf
 split at hf
 ·simp only[VR]at h⊢
  obtain⟨A,cap,h1,h2,h3,h4,h5,h6⟩:=h
  refine⟨A,cap,h1,h2,h3,h4,?_,h6⟩
  rcases h5 with h5 |⟨b,off,k,e,hk,h5⟩
  ·exact Xr h5
  ·exact XE ⟨b,off,k,e,hk,ZvU hI hf h5⟩
 ·exact Zl9 hf h
theorem ZBc{I I':Imm}{β β':Bmap}(hI:∀ b o n,I b o=some (.int .u8 n)->I' b o=some (.int .u8 n)){x:AVal}{v:Value}(hf:Zje x=true)(h:VR I β x v):VR I' β' x v:=by
 unfold Zje at hf
 split at hf
 ·rename_i cs
  simp only[VR]at h⊢
  obtain⟨us,rfl,h⟩:=h
  exact⟨us,rfl,Zd5 (Za1 h) (fun i x v hx hv=>by
   obtain⟨v',h1,h2⟩:=ZcO h hx
   rw[hv]at h1;injection h1 with h1;subst h1
   exact Zv8 hI (XH.1 hf x (XC hx)) h2)⟩
 ·exact Zv8 hI hf h
theorem ZHn{I I':Imm}{β β':Bmap}(hI:∀ b o n,I b o=some (.int .u8 n)->I' b o=some (.int .u8 n)){x:AVal}{v:Value}(hf:Zji x=true)(h:VR I β x v):VR I' β' x v:=by
 unfold Zji at hf
 split at hf
 ·rename_i cs
  simp only[VR]at h⊢
  obtain⟨us,rfl,h⟩:=h
  exact⟨us,rfl,Zd5 (Za1 h) (fun i x v hx hv=>by
   obtain⟨v',h1,h2⟩:=ZcO h hx
   rw[hv]at h1;injection h1 with h1;subst h1
   exact ZBc hI (XH.1 hf x (XC hx)) h2)⟩
 ·exact ZBc hI hf h
theorem Rel.after_bytes{I1 Ic:Imm}{βc:Bmap}{σc:Za}{K':Nat->Prop}{r:AVal}{u:Value}(R:Rel base w0 I0 I β σ w)(hb:KLt base w0)(hK:∀ b,b<w.heap.size->K' b)(Rc:Rel K' w I1 Ic βc σc w')(h1:I.le I1)(h2:I1.le Ic)
  (hn:∀ b o n,I1 b o=some (.int .u8 n)->I b o=some (.int .u8 n)) (hf:Zji r=true) (hv:VR Ic βc (Zbg r) u):Post base w0 I0 I β (Zbg r) σ u w':=by
 have hbw:=R.base_le hb
 let J:Imm:=fun b o=>if b<w.heap.size then I b o else Ic b o
 have hle:I.le J:=by
  intro b o u hu
  have hlt:=Zez (R.imm b o u hu)
  simp only[J,hlt,if_true];exact hu
 have hJ:∀ b o n,Ic b o=some (.int .u8 n)->J b o=some (.int .u8 n):=by
  intro b o n hu
  by_cases hlt:b<w.heap.size
  ·simp only[J,hlt,if_true]
   rw[Rc.old b o (hK b hlt)]at hu
   exact hn b o n hu
  ·simp only[J,hlt,if_false];exact hu
 have hval:Zbg r=r:=ZgO (fun x e=>by subst e;simp[Zji,Zje,Zjc,Za5]at hf)
 rw[hval]at hv ⊢
 refine Post.mk hle (Bmap.le.refl β) (R.stay hle (Rc.below.mono fun b h=>hK b (hbw b h)) ?_ ?_ ?_) (ZHn hJ hf hv)
 ·intro b o hb'
  simp only[J,hbw b hb',if_true]
 ·intro b o u hu
  by_cases hlt:b<w.heap.size
  ·simp only[J,hlt,if_true]at hu
   rw[<-R.imm b o u hu]
   simp only[World.cell?,Rc.below.block b (hK b hlt)]
  ·simp only[J,hlt,if_false]at hu
   exact Rc.imm b o u hu
 ·intro t x b hx hb'
  have hlt:=(R.blk t x hx).owns_lt hb'
  refine⟨Rc.below.block b (hK b hlt),fun o=>?_⟩
  simp only[J,hlt,if_true]
  exact(R.own t x b hx hb').2 o
theorem ZJP{xs:List AVal}(h:xs.all Zbr=true):(xs.flatMap AVal.cells).all Za5=true:=by
 rw[XH]at h⊢
 intro x hx
 obtain⟨y,hy,hxy⟩:=Wk.1 hx
 have:=h y hy
 cases y
 case agg cs=>exact XH.1 this x hxy
 all_goals (simp only[AVal.cells,Wf]at hxy;subst hxy;exact this)
theorem Rel.clone{Ic I1:Imm}{βc:Bmap}{K':Nat->Prop}{sq k lo n:Nat}{xs:List AVal}{u:Value}(R:Rel base w0 I0 I β σ w)(hb:KLt base w0)(hK:∀ b,b<w.heap.size->K' b)(Rc:Rel K' w I1 Ic βc [.row 0 k xs] w')(hs:σ[sq]?=some .free)(hf:xs.all Zbr=true)
  (hv:VR Ic βc (.sl 0 0 lo n) u):Post base w0 I0 I β (.sl sq 0 lo n) (σ.set sq (.row 0 k xs)) u w':=by
 have R':=R.after_flat hb hK Rc
 obtain⟨bi,h1,h2,h3,h4,h5,h6,h7,h8⟩:=Rc.blk 0 _ rfl
 have hle:β.le (β.put sq 0 bi):=Bmap.put_le (R.free sq 0 hs)
 have hbw:=R.base_le hb
 have hsl:sq<σ.length:=(Xl.1 hs).1
 have hnew:∀ b,bi.b=some b->¬b<w.heap.size:=by
  intro b e hlt
  exact(Rc.own 0 (.row 0 k xs) b rfl (by simp[ZL,h1,e])).1 (hK b hlt)
 have hown:∀ b,ZL (β.put sq 0 bi) sq (.row 0 k xs)=some b->bi.b=some b:=by
  intro b e
  simpa[ZL,Bmap.put_same]using e
 refine Post.mk (Imm.le.refl I) hle (R'.upd (Imm.le.refl I) hle (KB.refl base w') (fun _ _ _=>rfl) R'.imm sq _ rfl hsl (fun t g h=>Bmap.put_ne h) ?_ ?_ ?_ ?_ (by simp)) ?_
 ·intro t x b hne h hb'
  refine⟨rfl,(R.own t x b h hb').2,fun e=>?_⟩
  exact hnew b (hown b e) ((R.blk t x h).owns_lt hb')
 ·refine⟨bi,Bmap.put_same β sq 0 _,h2,h3,h4,h5,h6,h7,?_⟩
  rcases h8 with h8 |⟨b,us,ty,g1,g2,g3,g4⟩
  ·exact Xr h8
  ·exact XE ⟨b,us,ty,g1,g2,g3,Zxv (ZJP hf) g4⟩
 ·intro b e
  have hnb:=hnew b (hown b e)
  refine⟨fun hB=>hnb (hbw b hB),fun o=>?_⟩
  cases hI:I b o with
  |none=>rfl
  |some v=>exact absurd (Zez (R.imm b o v hI)) hnb
 ·intro g hg
  simp only[Zl]at hg
  rw[Bmap.put_gen (by omega)]
  exact R.free sq g hs
 ·simp only[VR]at hv ⊢
  obtain⟨bi',e,hv⟩:=hv
  rw[h1]at e
  injection e with e;subst e
  exact⟨bi,Bmap.put_same β sq 0 _,hv⟩
theorem ZsU{O:ZV}(hO:ZaO P O){bf:Nat->Bool}(R:Rel base w0 I0 I β σ w)(hb:KLt base w0){sq f own:Nat}{view:Bool}{args:List AVal}{vs:Array Value}(hargs:VRs I β args vs.toList){r:AVal}{c:Cls}(hsite:own=1->σ[sq]?=some .free)(h:Zj O bf σ sq f own view args=some (r,σ',c)) :
  (∃ fn,P.funcs[f]?=some fn/\fn.body.isSome=true/\(fn.name == "runtime.NumGoroutine")=false)/\Calls P f vs w (fun e w'=>∃ u,Ends r e u/\Post base w0 I0 I β (Zbg r) σ' u w'):=by
 unfold Zj at h
 split at h
 ·cases h
 rename_i xs ts hshow
 obtain⟨I1,hI1,R1,hal,_,hfz,_,_,hnby⟩:=Zix ts R
 have hxs:VRs I1 β xs vs.toList:=by
  unfold ZbS at hshow
  split at hshow
  ·simp only[Xb,Xd]at hshow
   obtain⟨rfl,rfl⟩:=hshow
   exact hargs.mono hI1 (Bmap.le.refl β) _ _
  ·exact Zzp R1 (hfz (ZnA hshow)) (by rw[hal.showAs];exact hshow) (hargs.mono hI1 (Bmap.le.refl β) _ _)
 generalize hσf:Zr σ ts=σf at *
 obtain⟨hnd,_⟩:=Zkn (σ:=σf) 1000 (Zt xs) [] List.nodup_nil
 generalize Zs σf 1000 (Zt xs) []=ids at *
 unfold ZbK at h
 split at h
 case isFalse=>cases h
 rename_i hok
 have R2:=R1.pick (K':=fun b=>b<w.heap.size/\∀ t∈ids,∀ x,σf[t]?=some x->ZL β t x≠some b) (w1:=w) (I1:=I1) (m:=0) hnd (KB.refl _ w) (fun _ _ _=>rfl) (fun t x b ht hx hb' hk=>hk.2 t ht x hx hb') (R1.gb fun b hB=>⟨R1.base_le hb b hB,fun t _ x hx e=>(R1.own t x b hx e).1 hB⟩)
 generalize hq:Z3 view ids.length (O f (Zh (Zk σf 0 ids) xs) (Zn σf 0 ids (Zk σf 0 ids) ids 0))=q at h
 cases q with
 |none=>simp only[ZaA]at h;cases h
 |some q =>
  obtain⟨r1,h1⟩:=q
  obtain⟨r0,h0,hcall⟩:∃ r0 h0,O f (Zh (Zk σf 0 ids) xs) (Zn σf 0 ids (Zk σf 0 ids) ids 0)=some (r0,h0):=by
   cases ho:O f (Zh (Zk σf 0 ids) xs) (Zn σf 0 ids (Zk σf 0 ids) ids 0)with
   |none=>rw[ho]at hq;cases view<;>simp[Z3,ZbB]at hq
   |some q=>exact⟨q.1,q.2,rfl⟩
  rw[hcall]at hq
  obtain⟨hfn,hrun⟩:=hO f _ _ r0 h0 hcall
  refine⟨hfn,(hrun _ w I1 I1 _ w vs (fun b hb=>hb.1) R2 (Zgs ZrV _ _ hxs)).mono ?_⟩
  rintro e w' ⟨u,he,hp⟩
  rw[Zqp]at hp
  have hp1:ZbW ids.length (fun b=>b<w.heap.size/\∀ t∈ids,∀ x,σf[t]?=some x->ZL β t x≠some b) w I1 I1 (ZcK σf 0 ids β) r1 h1 u w'/\Ends r1 e u:=by
   cases view with
   |false =>
    simp only[Z3,Xj,if_false,Xb,Xd]at hq
    obtain⟨rfl,rfl⟩:=hq
    exact⟨hp,he⟩
   |true =>
    simp only[Z3,if_true]at hq
    obtain⟨q1,q2⟩:=ZKn hp hq
    exact⟨q1,q2 e he⟩
  obtain⟨⟨I2,β2,hI2,hkept,Rc,hv⟩,he1⟩:=hp1
  simp only[ZaA]at h
  split at h
  ·rename_i hc
   simp only[Xk,W8]at hc
   obtain⟨rfl,rfl⟩:=hc
   split at h
   ·rename_i hflat
    simp only[Xb,Xd]at h
    obtain⟨rfl,rfl,rfl⟩:=h
    exact⟨u,he1,Post.here (R.after_flat hb (fun b hlt=>⟨hlt,by simp⟩) Rc) (ZO6 hflat hv)⟩
   split at h
   ·rename_i hap
    unfold ZcY at hap
    simp only[Xk]at hap
    simp only[Xb,Xd]at h
    obtain⟨rfl,rfl,rfl⟩:=h
    exact⟨u,he1,R.after_bytes hb (fun b hlt=>⟨hlt,by simp⟩) Rc hI1 hI2 (hnby hap.2) hap.1.2 hv⟩
   ·simp only[Xb,Xd]at h
    obtain⟨rfl,rfl,rfl⟩:=h
    obtain⟨β3,g1,g2,g3⟩:=R1.back (sq:=sq) (n:=0) hb hnd hok Rc hI2 hkept (by simp) (by simp) rfl rfl
    have hρ:ZaJ σf [] sq=ZaJ [] [] sq:=rfl
    refine⟨u,he1.ren,Post.mk (hI1.trans hI2) g1 g2 ?_⟩
    rw[hρ]at g3
    have:=Zin g3 _ _ hv
    rcases Zpk (ρ:=ZaJ [] [] sq) r1 with e |⟨x,rfl⟩
    ·rw[e];exact this
    ·exact this
  ·split at h
   ·rename_i lo n k xs' hcl
    split at hcl
    case isFalse=>cases hcl
    rename_i hid
    simp only[W8]at hid
    subst hid
    unfold ZhP at hcl
    split at hcl
    case h_2=>cases hcl
    split at hcl
    case isFalse=>cases hcl
    rename_i hcc
    simp only[Xk,decide_eq_true_eq]at hcc
    simp only[Xb,Xd]at hcl h
    obtain⟨rfl,rfl,rfl,rfl⟩:=hcl
    obtain⟨rfl,rfl,rfl⟩:=h
    exact⟨u,he1,R.clone hb (fun b hlt=>⟨hlt,by simp⟩) Rc (hsite hcc.1) hcc.2 hv⟩
   split at h
   case isFalse=>cases h
   rename_i hc
   simp only[Xk,decide_eq_true_eq]at hc
   obtain⟨⟨⟨c1,c2⟩,c3⟩,c4⟩:=hc
   simp only[Xb,Xd]at h
   obtain⟨rfl,rfl,rfl⟩:=h
   obtain⟨β3,g1,g2,g3⟩:=R1.back hb hnd hok Rc hI2 hkept c1 c2 c3 c4
   refine⟨u,he1.ren,Post.mk (hI1.trans hI2) g1 g2 ?_⟩
   have:=Zin g3 _ _ hv
   rcases Zpk (ρ:=ZaJ σf ids sq) r1 with e |⟨x,rfl⟩
   ·rw[e];exact this
   ·exact this
end
end
section
open Go.RowKit
section
variable {P:Program}{w:World}{I:Imm}{β:Bmap}
theorem ZBi{t:TypeId}(hb:Zr8 P t=true){xs:Array Value}{o:Nat}{v:Value}(h:xs[o]?=some v):(part t xs o).run P w=.ok v w:=by
 unfold Zr8 at hb
 have key:∀ d,P.underlying t=some d->d.isRow=false->(part t xs o).run P w=.ok v w:=by
  intro d hu hd
  have hagg:(isAgg t).run P w=.ok false w:=by
   unfold isAgg
   rw[Sem.run_bind,run_underlying hu w]
   cases d<;>simp_all[TypeDesc.isRow]
  simp[part,hagg,h]
 split at hb
 ·rename_i hu;exact key _ hu rfl
 ·rename_i hu;exact key _ hu rfl
 ·rename_i hu;exact key _ hu rfl
 ·cases hb
theorem ZCV(w:World){t:TypeId}(d:Nat){x y:AVal}{u v:Value}{b:Bool}(hx:VR I β x u)(hy:VR I β y v)(h:Zf7 x y=some b)(hk:Zf1 P t x=true):(Op.equalIn (d+1) t u v).run P w=.ok b w:=by
 unfold Zf7 at h
 split at h
 ·rename_i k a k' b'
  split at h
  ·rename_i e;subst e
   injection h with h;subst h
   simp only[VR]at hx hy
   subst hx hy
   cases hd:P.underlying t with
   |none=>simp[Zf1,hd]at hk
   |some dd =>
    cases dd<;>simp[Zf1,hd]at hk
    exact run_equalIn_int w d t _ _ a b' hd
  ·cases h
 ·rename_i a b'
  injection h with h;subst h
  simp only[VR]at hx hy
  subst hx hy
  cases hd:P.underlying t with
  |none=>simp[Zf1,hd]at hk
  |some dd =>
   cases dd<;>simp[Zf1,hd]at hk
   exact run_equalIn_bool' w d t a b' hd
 ·rename_i a b'
  injection h with h;subst h
  simp only[VR]at hx hy
  obtain⟨rfl,_⟩:=hx
  obtain⟨rfl,_⟩:=hy
  cases hd:P.underlying t with
  |none=>simp[Zf1,hd]at hk
  |some dd =>
   cases dd<;>simp[Zf1,hd]at hk
   rw[run_equalIn_string w d t _ _ hd,Zls,Zls]
 ·cases h
theorem Zzg:∀ {fs:List Field} {xs:List AVal},Zgt (fs.map fun f=>(ZgV P f.type).getD 3) xs=true->ZgF P fs xs=true
 | [],[],_=>rfl
 | [],x::xs,h=>by simp[Zgt]at h
 |f::fs,[],h=>by simp[Zgt]at h
 |f::fs,x::xs,h=>by
  simp only[Xm,Zgt,Xk,beq_iff_eq]at h
  simp only[ZgF,Xk]
  refine⟨?_,Zzg h.2⟩
  have h1:=h.1
  cases hd:P.underlying f.type with
  |none=>simp only[ZgV,hd,Xah]at h1;cases x<;>simp[Zbx]at h1
  |some dd=>cases dd<;>simp only[ZgV,hd,Xah,WF]at h1<;>cases x<;>first |(simp[Zf1,hd];done) |(simp[Zbx]at h1;done)
theorem ZAX(w:World)(d:Nat){us vs:Array Value}:∀ {fs:List Field} {xs ys:List AVal} {o:Nat} {b:Bool},Zn9 P o fs=true->ZgF P fs xs=true->VRs I β xs (us.toList.drop o)->VRs I β ys (vs.toList.drop o)->Zf4 xs ys=some b->(Op.eqFields (d+1) us vs fs).run P w=.ok b w
 | [],xs,ys,o,b,hf,hk,hx,hy,h=>by
  cases xs with
  |nil =>
   cases ys with
   |nil=>simp only[Zf4,Xb]at h;subst h;simp[Op.eqFields]
   |cons=>simp[Zf4]at h
  |cons=>simp[ZgF]at hk
 |f::fs,xs,ys,o,b,hf,hk,hx,hy,h=>by
  cases xs with
  |nil=>simp[ZgF]at hk
  |cons x xs =>
   cases ys with
   |nil=>simp[Zf4]at h
   |cons y ys =>
    simp only[Zn9,Xk,beq_iff_eq,bne_iff_ne,ne_eq]at hf
    obtain⟨⟨⟨h1,h2⟩,h3⟩,h4⟩:=hf
    simp only[ZgF,Xk]at hk
    simp only[VRs]at hx hy
    obtain⟨u,us',eu,hx1,hx2⟩:=hx
    obtain⟨v,vs',ev,hy1,hy2⟩:=hy
    have gu:us[o]?=some u:=by
     have:=congrArg (fun l:List Value=>l[0]?) eu
     simpa using this
    have gv:vs[o]?=some v:=by
     have:=congrArg (fun l:List Value=>l[0]?) ev
     simpa using this
    have eu':us.toList.drop (o+1)=us':=by rw[<-XaO,eu];rfl
    have ev':vs.toList.drop (o+1)=vs':=by rw[<-XaO,ev];rfl
    simp only[Zf4]at h
    split at h
    ·rename_i b1 hb1
     split at h
     ·rename_i b2 hb2
      injection h with h;subst h
      have r1:=ZCV w d hx1 hy1 hb1 hk.1
      have r2:=ZAX w d (us:=us) (vs:=vs) h4 hk.2 (by rw[eu'];exact hx2) (by rw[ev'];exact hy2) hb2
      rw[<-h1]at gu gv
      simp only[Op.eqFields,h2,ne_eq,not_false_eq_true,if_true,Sem.run_bind,ZBi h3 gu,ZBi h3 gv,r1,Result.andThen_ok]
      cases b1
      ·simp
      ·simpa using r2
     ·cases h
    ·cases h
theorem ZUx{t:TypeId}{fs:Array Field}(hu:P.underlying t=some (.struct fs))(hf:Zs9 P t fs=true){x y:List AVal}{us vs:Array Value}(hx:VRs I β x us.toList)(hy:VRs I β y vs.toList)(hk:ZgF P fs.toList x=true){b:Bool}(h:Zf4 x y=some b)(neg:Bool){op:BinOp}(hop:op=(if neg then .neq else .eql))(ox oy:Operand) :
  (do eqGuard op t ox oy (.agg us) (.agg vs);binOp op t (.agg us) (.agg vs):Sem Value).run P w=.ok (.bool (b != neg)) w:=by
 simp only[Zs9,Xk,W3]at hf
 obtain⟨⟨hf1,hf2⟩,hf3⟩:=hf
 have hfo:P.fieldsOf t=fs:=by simp[Program.fieldsOf,hu]
 have h1:(eqGuard op t ox oy (.agg us) (.agg vs)).run P w=.ok () w:=by
  subst hop
  cases neg<;>simp[eqGuard,hf3]
 have h2:(Op.equal t (.agg us) (.agg vs)).run P w=.ok b w:=by
  show(Op.equalIn (9999+1) t (.agg us) (.agg vs)).run P w=_
  rw[run_equalIn_struct w 9999 t us vs (by rw[hfo];exact hu) hf2,hfo]
  exact ZAX w 9998 hf1 hk (by simpa using hx) (by simpa using hy) h
 subst hop
 cases neg
 ·simp only[Xj,if_false]at h1 ⊢
  simp[h1,h2,binOp]
 ·simp only[if_true]at h1 ⊢
  simp[h1,h2,binOp]
end
end
section
open Go.RowKit
section
variable {P:Program}{base:Nat->Prop}{w0 w w':World}{I0 I I':Imm}{β β':Bmap}{σ σ':Za}
def Zds:TypeDesc->Option Nat
 | .int _=>some 0
 | .bool=>some 1
 | .string=>some 2
 |_=>none
theorem Zlf{P:Program}{t:TypeId}{kc:Nat}{z:AVal}(h:Zi4 P t=some (kc,z)):∃ kt et d,P.underlying t=some (.map kt et)/\P.underlying kt=some d/\Zds d=some kc/\ZdU P et=some z:=by
 unfold Zi4 at h
 split at h
 case h_2=>cases h
 rename_i kt et ht
 split at h
 case h_2=>cases h
 rename_i kc' z' hk hz
 simp only[Xb,Xd]at h
 obtain⟨rfl,rfl⟩:=h
 unfold ZgV at hk
 split at hk
 ·rename_i e;injection hk with hk;subst hk;exact⟨kt,et,_,ht,e,rfl,hz⟩
 ·rename_i e;injection hk with hk;subst hk;exact⟨kt,et,_,ht,e,rfl,hz⟩
 ·rename_i e;injection hk with hk;subst hk;exact⟨kt,et,_,ht,e,rfl,hz⟩
 ·cases hk
theorem Zw2{l l':List UInt8}:((⟨l.toArray⟩:ByteArray)==⟨l'.toArray⟩)=(l==l'):=by
 rw[beq_toListBytes,Zls,Zls]
theorem ZAB{d:TypeDesc}{x y:AVal}{vx vy:Value}{b:Bool}(hd:Zds d=some (Zbx x))(h:Zf7 x y=some b)(hx:VR I β x vx)(hy:VR I β y vy):Instr.sameNow d vx vy=some b:=by
 unfold Zf7 at h
 split at h
 ·rename_i k n k' m
  split at h
  case isFalse=>cases h
  rename_i hk
  subst hk
  injection h with h
  subst h
  simp only[VR]at hx hy
  subst hx hy
  cases d<;>simp[Zds,Zbx]at hd
  simp[Instr.sameNow]
 ·injection h with h
  subst h
  simp only[VR]at hx hy
  subst hx hy
  cases d<;>simp[Zds,Zbx]at hd
  simp[Instr.sameNow]
 ·rename_i l l'
  injection h with h
  subst h
  simp only[VR]at hx hy
  rw[hx.1,hy.1]
  cases d<;>simp[Zds,Zbx]at hd
  simp only[Instr.sameNow,Zw2]
 ·cases h
theorem ZUN{x y:AVal}{vx vy:Value}(h:Zf7 x y=some true)(hx:VR I β x vx)(hy:VR I β y vy):Instr.sameBits 10000 vy vx=true/\vx=vy:=by
 unfold Zf7 at h
 split at h
 ·rename_i k n k' m
  split at h
  case isFalse=>cases h
  rename_i hk
  subst hk
  simp only[Xb,beq_iff_eq]at h
  subst h
  simp only[VR]at hx hy
  subst hx hy
  exact⟨by simp[Instr.sameBits],rfl⟩
 ·simp only[Xb,beq_iff_eq]at h
  subst h
  simp only[VR]at hx hy
  subst hx hy
  exact⟨by simp[Instr.sameBits],rfl⟩
 ·simp only[Xb,beq_iff_eq]at h
  subst h
  simp only[VR]at hx hy
  rw[hx.1,hy.1]
  exact⟨by simp only[Instr.sameBits,Zw2,beq_self_eq_true],rfl⟩
 ·cases h
theorem Zhw{d:TypeDesc}{x:AVal}{vx:Value}(hd:Zds d=some (Zbx x))(hx:VR I β x vx):∀ (es:List (AVal×AVal)) (arr:List MapEntry) (i:Nat) (r:Option (Nat×AVal)),VRs I β (es.map (·.1)) (arr.map (·.key))->VRs I β (es.map (·.2)) (arr.map (·.val))->Zhm x es i=some r ->
  (r=none/\Instr.findNow d vx arr i=some none) \/
  ∃ j y e p,r=some (i+j,y)/\Instr.findNow d vx arr i=some (some (i+j,e.val))/\arr[j]?=some e/\es[j]?=some p/\p.2=y/\VR I β y e.val/\Zf7 x p.1=some true/\VR I β p.1 e.key
 | [],arr,i,r,hk,_,h=>by
  unfold Zhm at h
  injection h with h
  subst h
  simp only[Xt,VRs,List.map_eq_nil_iff]at hk
  subst hk
  exact Xr ⟨rfl,by simp[Instr.findNow]⟩
 |(k,y)::es,arr,i,r,hk,hv,h=>by
  unfold Zhm at h
  cases arr with
  |nil =>
   simp only[Xm,Xt,VRs]at hk
   obtain⟨_,_,hk,_⟩:=hk
   cases hk
  |cons e arr =>
  simp only[Xm,VRs]at hk hv
  obtain⟨_,_,ek,k1,k2⟩:=hk
  injection ek with ek1 ek2
  subst ek1 ek2
  obtain⟨_,_,ev,v1,v2⟩:=hv
  injection ev with ev1 ev2
  subst ev1 ev2
  split at h
  ·rename_i ha
   injection h with h
   subst h
   refine XE ⟨0,y,e,(k,y),rfl,?_,rfl,rfl,rfl,v1,ha,k1⟩
   simp only[Instr.findNow,ZAB hd ha hx k1,Wc]
  ·rename_i ha
   have hn:=ZAB hd ha hx k1
   rcases Zhw hd hx es arr (i+1) r k2 v2 h with⟨h1,h2⟩ |⟨j,y',e',p',h1,h2,h3,h4,h5⟩
   ·exact Xr ⟨h1,by simp only[Instr.findNow,hn];exact h2⟩
   ·refine XE ⟨j+1,y',e',p',by rw[h1,WC,Xbi 1 j],?_,by simpa using h3,by simpa using h4,h5⟩
    simp only[Instr.findNow,hn]
    rw[h2,WC,Xbi 1 j]
  ·cases h
theorem ZgE{kt:TypeId}{d:TypeDesc}{kc:Nat}(hk:P.underlying kt=some d)(hd:Zds d=some kc)(e:Bool)(v:Value):(Instr.checkKey e 10000 kt v).run P w=.ok () w:=by
 show(Instr.checkKey e (9999+1) kt v).run P w=_
 unfold Instr.checkKey
 rw[Sem.run_bind,run_underlying hk]
 cases d<;>simp[Zds]at hd<;>rfl
theorem Zh1{kt:TypeId}{d:TypeDesc}(hk:P.underlying kt=some d){v:Value}{arr:List MapEntry}{r:Option (Nat×Value)}(h:Instr.findNow d v arr 0=some r):(Instr.findKey kt v arr).run P w=.ok r w:=by
 unfold Instr.findKey
 rw[Sem.run_bind,run_underlying hk]
 simp only[Result.andThen_ok,h,Sem.run_pure]
theorem ZU0{e:TypeId}{z:AVal}(hz:ZdU P e=some z):∃ v,(zeroValue e).run P w=.ok v w/\VR I β z v:=by
 unfold ZdU at hz
 split at hz
 case h_2=>cases hz
 rename_i i hi
 split at hz
 case h_2=>cases hz
 rename_i v hv
 exact⟨v,by simp[zeroValue,typeInfo,hi,hv],(ZfV hz).1⟩
theorem Znw{b:Nat}{arr:Array MapEntry}{clk:Nat}(h:w.heap[b]?=some (.map arr clk)):(getObj b).run P w=.ok (.map arr clk) w:=by simp[getObj,Sem.run,h]
theorem ZiD:VR I β (.tup []) undef:=by simp[VR,VRs,undef]
theorem Zp3{x:AVal}{v:Value}(b:Bool)(h:VR I β x v):VR I β (.tup [x,.bool b]) (.tuple #[v,.bool b]):=by
 simp only[VR]
 exact⟨_,rfl,by simp only[VRs];exact⟨_,_,rfl,h,_,_,rfl,rfl,rfl⟩⟩
theorem ZNn(R:Rel base w0 I0 I β σ w){t kt et:TypeId}(ht:P.underlying t=some (.map kt et)){d:TypeDesc}(hdk:P.underlying kt=some d){kc:Nat}(hd:Zds d=some kc){z:AVal}(hz:ZdU P et=some z){ok:Bool}{m k v:AVal}{vm vk:Value}{c:Cls}(hm:VR I β m vm)(hk:VR I β k vk)
  (h:Zf6 σ kc z ok m k=some (v,σ',c)):σ'=σ/\∃ u,(Instr.lookup t vm vk ok).run P w=.ok u w/\VR I β v u:=by
 obtain⟨vz,hvz,hzr⟩:=ZU0 (P:=P) (w:=w) (I:=I) (β:=β) hz
 unfold Zf6 at h
 split at h
 case isFalse=>cases h
 rename_i hkc
 have hd':Zds d=some (Zbx k):=by rw[hd,hkc]
 split at h
 ·simp only[Xb,Xd]at h
  obtain⟨rfl,rfl,rfl⟩:=h
  simp only[VR]at hm
  subst hm
  have hf:=Zh1 (P:=P) (w:=w) hdk (v:=vk) (arr:=[]) (r:=none) (by simp[Instr.findNow])
  refine⟨rfl,if ok then .tuple #[vz,.bool false]else vz,?_,?_⟩
  ·simp[Instr.lookup,run_underlying ht,ZgE hdk hd,hf,hvz]
  ·cases ok
   ·exact hzr
   ·exact Zp3 false hzr
 ·rename_i b
  simp only[VR]at hm
  obtain⟨bb,kk,cc,hb,rfl⟩:=hm
  split at h
  case h_2=>cases h
  rename_i es hs
  obtain⟨b',k',c',arr,clk,e1,e2,e3,e4,_⟩:=R.blk _ _ hs
  rw[hb]at e1
  simp only[Xb,BI.mk.injEq]at e1
  obtain⟨rfl,rfl,rfl⟩:=e1
  have hg:=Znw (P:=P) e2
  split at h
  ·rename_i j y hf
   simp only[Xb,Xd]at h
   obtain⟨rfl,rfl,rfl⟩:=h
   rcases Zhw hd' hk es arr.toList 0 _ e3 e4 hf with⟨h1,_⟩ |⟨j',y',e,p,h1,h2,_,_,_,h5,_⟩
   ·cases h1
   ·injection h1 with h1
    injection h1 with h1 h1'
    subst h1'
    have hr:=Zh1 (P:=P) (w:=w) hdk h2
    refine⟨rfl,if ok then .tuple #[e.val,.bool true]else e.val,?_,?_⟩
    ·simp[Instr.lookup,run_underlying ht,ZgE hdk hd,hg,hr]
    ·cases ok
     ·exact h5
     ·exact Zp3 true h5
  ·rename_i hf
   simp only[Xb,Xd]at h
   obtain⟨rfl,rfl,rfl⟩:=h
   rcases Zhw hd' hk es arr.toList 0 _ e3 e4 hf with⟨_,h2⟩ |⟨j',y',e,p,h1,_⟩
   ·have hr:=Zh1 (P:=P) (w:=w) hdk h2
    refine⟨rfl,if ok then .tuple #[vz,.bool false]else vz,?_,?_⟩
    ·simp[Instr.lookup,run_underlying ht,ZgE hdk hd,hg,hr,hvz]
    ·cases ok
     ·exact hzr
     ·exact Zp3 false hzr
   ·cases h1
  ·cases h
 ·cases h
theorem Zn3(R:Rel base w0 I0 I β σ w){t b k c:Nat}{es es':List (AVal×AVal)}(hs:σ[t]?=some (.map es))(hb:β t 0=some ⟨some b,k,c⟩){arr':Array MapEntry}{clk':Nat}(hk:VRs I β (es'.map (·.1)) (arr'.toList.map (·.key)))(hv:VRs I β (es'.map (·.2)) (arr'.toList.map (·.val)))(hA:∀ p∈es',ZnU p.1=true)(hS:Zue arr' clk')(hlt:b<w.heap.size) :
  Rel base w0 I0 I β (σ.set t (.map es')) { w with heap:=w.heap.setIfInBounds b (.map arr' clk') } :=
 R.putObj hs (by simp[ZL,hb]) (by simp[ZL,hb]) _ ⟨b,k,c,arr',clk',hb,by rw[Array.getElem?_setIfInBounds_self_of_lt hlt],hk,hv,hA,hS⟩ rfl
theorem Zk3(arr:Array MapEntry)(i:Nat)(f:MapEntry->MapEntry):(arr.modify i f).toList=arr.toList.modify i f:=by simp
theorem ZoM{α β:Type}(g:α->β)(f:α->α)(v:β)(hf:∀ x,g (f x)=v):∀ (l:List α) (i:Nat),(l.modify i f).map g=(l.map g).set i v
 | [],i=>by simp
 |x::l,0=>by simp[hf]
 |x::l,i+1=>by simp[ZoM g f v hf l i]
theorem Zo7{α β:Type}(g:α->β)(f:α->α)(hf:∀ x,g (f x)=g x):∀ (l:List α) (i:Nat),(l.modify i f).map g=l.map g
 | [],i=>by simp
 |x::l,0=>by simp[hf]
 |x::l,i+1=>by simp[Zo7 g f hf l i]
theorem Zof{b:Nat}{arr:Array MapEntry}{clk:Nat}{o':Obj}(h:w.heap[b]?=some (.map arr clk)):(setObj b o').run P w=.ok () { w with heap:=w.heap.setIfInBounds b o' }:=by simp[setObj,Sem.run,h]
theorem ZqG:∀ {xs:List AVal} {vs:List Value} (i:Nat),VRs I β xs vs->VRs I β (xs.eraseIdx i) (vs.eraseIdx i)
 | [],vs,i,h=>by simp only[VRs]at h;subst h;simp[VRs]
 |x::xs,vs,0,h=>by
  simp only[VRs]at h
  obtain⟨v,vs',rfl,_,h⟩:=h
  exact h
 |x::xs,vs,i+1,h=>by
  simp only[VRs]at h
  obtain⟨v,vs',rfl,h1,h⟩:=h
  simp only[List.eraseIdx_cons_succ,VRs]
  exact⟨v,_,rfl,h1,ZqG i h⟩
theorem Zjf{α β:Type}(g:α->β):∀ (l:List α) (i:Nat),(l.eraseIdx i).map g=(l.map g).eraseIdx i
 | [],i=>by simp
 |x::l,0=>by simp
 |x::l,i+1=>by simp[Zjf g l i]
theorem Zvu(R:Rel base w0 I0 I β σ w){t kt et:TypeId}(ht:P.underlying t=some (.map kt et)){d:TypeDesc}(hdk:P.underlying kt=some d){kc:Nat}(hd:Zds d=some kc){m k x v:AVal}{vm vk vx:Value}{c:Cls}(hm:VR I β m vm)(hk:VR I β k vk)(hx:VR I β x vx)
  (h:ZmL σ kc m k x=some (v,σ',c)):v=.tup []/\∃ w',(Instr.mapUpdate t vm vk vx).run P w=.ok () w'/\Rel base w0 I0 I β σ' w':=by
 unfold ZmL at h
 split at h
 case isFalse=>cases h
 rename_i hkc
 obtain⟨hkc,hkA,_⟩:=hkc
 have hd':Zds d=some (Zbx k):=by rw[hd,hkc]
 split at h
 case h_2=>cases h
 rename_i b
 simp only[VR]at hm
 obtain⟨bb,kk,cc,hb,rfl⟩:=hm
 split at h
 case h_2=>cases h
 rename_i es hs
 obtain⟨b',k',c',arr,clk,e1,e2,e3,e4,e5,e6,e7⟩:=R.blk _ _ hs
 have hb0:=hb
 rw[hb]at e1
 simp only[Xb,BI.mk.injEq]at e1
 obtain⟨rfl,rfl,rfl⟩:=e1
 have hg:=Znw (P:=P) e2
 have hlt:bb<w.heap.size:=(XX.1 e2).1
 split at h
 ·rename_i j y hf
  simp only[Xb,Xd]at h
  obtain⟨rfl,rfl,rfl⟩:=h
  rcases Zhw hd' hk es arr.toList 0 _ e3 e4 hf with⟨h1,_⟩ |⟨j',y',e,p,h1,h2,h3,h4,_,h5,h6,h7⟩
  ·cases h1
  ·simp only[XB]at h1 h2
   injection h1 with h1
   injection h1 with h1 h1'
   subst h1 h1'
   have hr:=Zh1 (P:=P) (w:=w) hdk h2
   obtain⟨sb,_⟩:=ZUN h6 hk h7
   have h3':arr[j]?=some e:=by rw[<-Array.getElem?_toList];exact h3
   have hst:(Instr.keyThatStays (((arr[j]?).map (·.key)).getD vk) vk).run P w=.ok vk w:=by
    rw[h3']
    simp[Instr.keyThatStays,sb]
   refine⟨rfl,_,?_,Zn3 R hs hb0 (arr':=arr.modify j fun e=>{ e with key:=vk,val:=vx }) (clk':=clk) ?_ ?_ ?_ ?_ hlt⟩
   ·simp only[Instr.mapUpdate,run_underlying ht,ZgE hdk hd,hg,hr,hst,Sem.run_bind,Result.andThen_ok,Zof e2]
   ·rw[Zk3,ZoM (fun x:MapEntry=>x.key) _ vk (fun _=>rfl),List.map_set]
    exact ZyL e3 hk j
   ·rw[Zk3,ZoM (fun x:MapEntry=>x.val) _ vx (fun _=>rfl),List.map_set]
    exact ZyL e4 hx j
   ·intro q hq
    rcases List.mem_or_eq_of_mem_set hq with hq |rfl
    ·exact e5 q hq
    ·exact hkA
   ·refine⟨fun e he=>?_,?_⟩
    ·rw[Zk3]at he
     have hm:e.born∈(arr.toList.modify j fun e=>{ e with key:=vk,val:=vx }).map (·.born):=X2.2 ⟨e,he,rfl⟩
     rw[Zo7 (fun x:MapEntry=>x.born) (fun e:MapEntry=>{ e with key:=vk,val:=vx }) (fun _=>rfl)]at hm
     obtain⟨e',he',hb'⟩:=X2.1 hm
     rw[<-hb'];exact e6 e' he'
    ·rw[Zk3,Zo7 (fun x:MapEntry=>x.born) (fun e:MapEntry=>{ e with key:=vk,val:=vx }) (fun _=>rfl)]
     exact e7
 ·rename_i hf
  simp only[Xb,Xd]at h
  obtain⟨rfl,rfl,rfl⟩:=h
  rcases Zhw hd' hk es arr.toList 0 _ e3 e4 hf with⟨_,h2⟩ |⟨j',y',e,p,h1,_⟩
  ·have hr:=Zh1 (P:=P) (w:=w) hdk h2
   refine⟨rfl,_,?_,Zn3 R hs hb0 (arr':=arr.push { key:=vk,val:=vx,born:=clk }) (clk':=clk+1) ?_ ?_ ?_ ?_ hlt⟩
   ·simp only[Instr.mapUpdate,run_underlying ht,ZgE hdk hd,hg,hr,Sem.run_bind,Result.andThen_ok,Zof e2]
   ·rw[XaK,X4,X4]
    exact ZcE e3 (by simp only[Xm,Xt,VRs];exact⟨_,_,rfl,hk,rfl⟩)
   ·rw[XaK,X4,X4]
    exact ZcE e4 (by simp only[Xm,Xt,VRs];exact⟨_,_,rfl,hx,rfl⟩)
   ·intro q hq
    rcases Xv.1 hq with hq |hq
    ·exact e5 q hq
    ·rw[Wf]at hq;subst hq;exact hkA
   ·refine⟨fun e he=>?_,?_⟩
    ·rw[XaK]at he
     rcases Xv.1 he with he |he
     ·have:=e6 e he;omega
     ·rw[Wf]at he;subst he;exact Nat.lt_succ_self clk
    ·rw[XaK,X4,List.nodup_append]
     refine⟨e7,by simp,?_⟩
     intro a ha b hb'
     simp only[Xm,Xt,Wf]at hb'
     subst hb'
     obtain⟨e',he',rfl⟩:=X2.1 ha
     have:=e6 e' he'
     omega
  ·cases h1
 ·cases h
theorem ZMa(R:Rel base w0 I0 I β σ w){t kt et:TypeId}(ht:P.underlying t=some (.map kt et)){d:TypeDesc}(hdk:P.underlying kt=some d){kc:Nat}(hd:Zds d=some kc){m k v:AVal}{vm vk:Value}{c:Cls}(ts:List TypeId)(ty:TypeId)(hm:VR I β m vm)(hk:VR I β k vk)
  (h:ZkQ σ kc m k=some (v,σ',c)):∃ w',(Builtin.delete_ (t::ts).toArray ty #[vm,vk]).run P w=.ok (.tuple #[]) w'/\v=.tup []/\Rel base w0 I0 I β σ' w':=by
 unfold ZkQ at h
 split at h
 case isFalse=>cases h
 rename_i hkc
 have hd':Zds d=some (Zbx k):=by rw[hd,hkc]
 split at h
 ·simp only[Xb,Xd]at h
  obtain⟨rfl,rfl,rfl⟩:=h
  simp only[VR]at hm
  subst hm
  exact⟨w,by simp[Builtin.delete_,run_underlying ht,ZgE hdk hd],rfl,R⟩
 ·rename_i b
  simp only[VR]at hm
  obtain⟨bb,kk,cc,hb,rfl⟩:=hm
  split at h
  case h_2=>cases h
  rename_i es hs
  obtain⟨b',k',c',arr,clk,e1,e2,e3,e4,e5,e6,e7⟩:=R.blk _ _ hs
  have hb0:=hb
  rw[hb]at e1
  simp only[Xb,BI.mk.injEq]at e1
  obtain⟨rfl,rfl,rfl⟩:=e1
  have hg:=Znw (P:=P) e2
  have hlt:bb<w.heap.size:=(XX.1 e2).1
  split at h
  ·rename_i j y hf
   simp only[Xb,Xd]at h
   obtain⟨rfl,rfl,rfl⟩:=h
   rcases Zhw hd' hk es arr.toList 0 _ e3 e4 hf with⟨h1,_⟩ |⟨j',y',e,p,h1,h2,h3,h4,_⟩
   ·cases h1
   ·simp only[XB]at h1 h2
    injection h1 with h1
    injection h1 with h1 h1'
    subst h1 h1'
    have hr:=Zh1 (P:=P) (w:=w) hdk h2
    have el:(arr.eraseIdxIfInBounds j).toList=arr.toList.eraseIdx j:=by simp
    refine⟨_,?_,rfl,Zn3 R hs hb0 (arr':=arr.eraseIdxIfInBounds j) (clk':=clk) ?_ ?_ ?_ ?_ hlt⟩
    ·simp[Builtin.delete_,run_underlying ht,ZgE hdk hd,hg,hr,Zof e2]
    ·rw[el,Zjf,Zjf];exact ZqG j e3
    ·rw[el,Zjf,Zjf];exact ZqG j e4
    ·exact fun q hq=>e5 q (List.mem_of_mem_eraseIdx hq)
    ·refine⟨fun e he=>?_,?_⟩
     ·rw[el]at he;exact e6 e (List.mem_of_mem_eraseIdx he)
     ·rw[el,Zjf];exact e7.sublist (List.eraseIdx_sublist _ _)
  ·rename_i hf
   simp only[Xb,Xd]at h
   obtain⟨rfl,rfl,rfl⟩:=h
   rcases Zhw hd' hk es arr.toList 0 _ e3 e4 hf with⟨_,h2⟩ |⟨j',y',e,p,h1,_⟩
   ·have hr:=Zh1 (P:=P) (w:=w) hdk h2
    refine⟨_,?_,rfl,Zn3 R hs hb0 (arr':=arr) (clk':=clk) e3 e4 e5 ⟨e6,e7⟩ hlt⟩
    simp[Builtin.delete_,run_underlying ht,ZgE hdk hd,hg,hr,Zof e2]
   ·cases h1
  ·cases h
 ·cases h
theorem ZQn(R:Rel base w0 I0 I β σ w){t kt et:TypeId}(ht:P.underlying t=some (.map kt et)){m v:AVal}{vm:Value}{c:Cls}(ty:TypeId)(hm:VR I β m vm)(h:Zhg σ m=some (v,σ',c)):σ'=σ/\∃ u,(Builtin.len_ #[t] ty #[vm]).run P w=.ok u w/\VR I β v u:=by
 unfold Zhg at h
 split at h
 ·simp only[Xb,Xd]at h
  obtain⟨rfl,rfl,rfl⟩:=h
  simp only[VR]at hm
  subst hm
  exact⟨rfl,goInt 0,by simp[Builtin.len_,run_underlying ht],by simp[VR,goInt]⟩
 ·rename_i b
  simp only[VR]at hm
  obtain⟨bb,kk,cc,hb,rfl⟩:=hm
  split at h
  case h_2=>cases h
  rename_i es hs
  simp only[Xb,Xd]at h
  obtain⟨rfl,rfl,rfl⟩:=h
  obtain⟨b',k',c',arr,clk,e1,e2,e3,_⟩:=R.blk _ _ hs
  rw[hb]at e1
  simp only[Xb,BI.mk.injEq]at e1
  obtain⟨rfl,rfl,rfl⟩:=e1
  have hg:=Znw (P:=P) e2
  have hl:es.length=arr.size:=by simpa using Za1 e3
  exact⟨rfl,goInt arr.size,by simp[Builtin.len_,run_underlying ht,hg],by simp[VR,goInt,hl]⟩
 ·cases h
theorem ZJI(R:Rel base w0 I0 I β σ w)(hb:KLt base w0)(t:TypeId){sq:Nat}(hs:σ[sq]?=some .free) :
  ∃ u w',(Instr.makeMap t none).run P w=.ok u w'/\Post base w0 I0 I β (.map sq) (σ.set sq (.map [])) u w':=by
 obtain⟨R',hle⟩:=R.newObj hb hs (.map #[] 0) (.map []) 1 1 (by simp[ZL,Bmap.put_same]) rfl (by simp)
  ⟨_,_,_,#[],0,Bmap.put_same β sq 0 _,by simp,by simp[VRs],by simp[VRs],by simp,by simp[Zue]⟩
 refine⟨.map (some w.heap.size),_,run_makeMap t w,Post.mk (Imm.le.refl I) hle R' ?_⟩
 simp only[VR]
 exact⟨_,_,_,Bmap.put_same β sq 0 _,rfl⟩
end
end
section
open Go.RowKit
section
variable {P:Program}{base:Nat->Prop}{w0 w w':World}{I0 I I':Imm}{β β':Bmap}{σ σ':Za}{tm:Tms}
theorem Zg6{α:Type}{x:Option α}{f:α->AVal×Za×Cls}{y:AVal×Za×Cls}(h:x.map f=some y):∃ a,x=some a/\f a=y:=by simpa[Xq]using h
theorem ZKC{t:TypeId}(hu:P.underlying t=some .bool)(p q:Bool)(x y:Operand):(do eqGuard .eql t x y (.bool p) (.bool q);binOp .eql t (.bool p) (.bool q):Sem Value).run P w=.ok (.bool ((p==q) != false)) w:=by
 have h1:(eqGuard .eql t x y (.bool p) (.bool q)).run P w=.ok () w:=by simp[eqGuard]
 simp only[Sem.run_bind,h1,Result.andThen_ok,run_eql_bool w t p q hu]
 cases p<;>cases q<;>rfl
theorem ZOZ{t:TypeId}(hu:P.underlying t=some .bool)(p q:Bool)(x y:Operand):(do eqGuard .neq t x y (.bool p) (.bool q);binOp .neq t (.bool p) (.bool q):Sem Value).run P w=.ok (.bool ((p==q) != true)) w:=by
 have h1:(eqGuard .neq t x y (.bool p) (.bool q)).run P w=.ok () w:=by simp[eqGuard]
 have h2:(binOp .neq t (.bool p) (.bool q)).run P w=.ok (.bool (!(p==q))) w:=by
  simp only[binOp,Sem.run_bind,run_equal_bool w t p q hu,Result.andThen_ok,Sem.run_pure]
 simp only[Sem.run_bind,h1,Result.andThen_ok,h2]
 cases p<;>cases q<;>rfl
theorem ZzG{t e:TypeId}(hu:P.underlying t=some (.pointer e))(p q:Option Addr)(hpq:p=none\/q=none):(Op.equal t (.pointer p) (.pointer q)).run P w=.ok (p.isNone&&q.isNone) w:=by
 show(Op.equalIn (9999+1) t (.pointer p) (.pointer q)).run P w=_
 unfold Op.equalIn
 rw[Sem.run_bind,run_underlying hu]
 simp only[Result.andThen_ok]
 rcases hpq with rfl |rfl
 ·cases q<;>simp
 ·cases p<;>simp
theorem ZqO{t e:TypeId}(hu:P.underlying t=some (.pointer e))(p q:Option Addr)(x y:Operand)(hpq:p=none\/q=none):(do eqGuard .eql t x y (.pointer p) (.pointer q);binOp .eql t (.pointer p) (.pointer q):Sem Value).run P w=.ok (.bool ((p.isNone&&q.isNone) != false)) w:=by
 have h1:(eqGuard .eql t x y (.pointer p) (.pointer q)).run P w=.ok () w:=by simp[eqGuard]
 simp only[Sem.run_bind,h1,Result.andThen_ok,binOp,ZzG hu p q hpq,Sem.run_pure]
 simp
theorem ZrC{t e:TypeId}(hu:P.underlying t=some (.pointer e))(p q:Option Addr)(x y:Operand)(hpq:p=none\/q=none):(do eqGuard .neq t x y (.pointer p) (.pointer q);binOp .neq t (.pointer p) (.pointer q):Sem Value).run P w=.ok (.bool ((p.isNone&&q.isNone) != true)) w:=by
 have h1:(eqGuard .neq t x y (.pointer p) (.pointer q)).run P w=.ok () w:=by simp[eqGuard]
 simp only[Sem.run_bind,h1,Result.andThen_ok,binOp,ZzG hu p q hpq,Sem.run_pure]
 simp
theorem ZA3{t:TypeId}{ms}(hu:P.underlying t=some (.interface ms))(neg:Bool){op:BinOp}(x:Operand)(vy:Value)(hop:op=(if neg then .neq else .eql)):(do eqGuard op t x (.const vy) .nilIface .nilIface;binOp op t .nilIface .nilIface:Sem Value).run P w=.ok (.bool (true != neg)) w:=by
 have h1:(eqGuard op t x (.const vy) .nilIface .nilIface).run P w=.ok () w:=by subst hop;cases neg<;>simp[eqGuard]
 have h2:(Op.equal t .nilIface .nilIface).run P w=.ok true w:=by
  show(Op.equalIn (9999+1) t .nilIface .nilIface).run P w=_
  unfold Op.equalIn
  rw[Sem.run_bind,run_underlying hu]
  simp only[Result.andThen_ok]
  rfl
 subst hop
 cases neg
 ·simp only[Xj,if_false]at h1 ⊢
  simp[h1,h2,binOp]
 ·simp only[if_true]at h1 ⊢
  simp[h1,h2,binOp]
theorem ZAu{t t1:TypeId}{u:Value}{ms}(hu:P.underlying t=some (.interface ms))(neg:Bool){op:BinOp}(x:Operand)(vy:Value)(hop:op=(if neg then .neq else .eql)):(do eqGuard op t x (.const vy) (.iface t1 u) .nilIface;binOp op t (.iface t1 u) .nilIface:Sem Value).run P w=.ok (.bool (false != neg)) w:=by
 have h1:(eqGuard op t x (.const vy) (.iface t1 u) .nilIface).run P w=.ok () w:=by subst hop;cases neg<;>simp[eqGuard]
 have h2:(Op.equal t (.iface t1 u) .nilIface).run P w=.ok false w:=by
  show(Op.equalIn (9999+1) t (.iface t1 u) .nilIface).run P w=_
  unfold Op.equalIn
  rw[Sem.run_bind,run_underlying hu]
  simp only[Result.andThen_ok]
  rfl
 subst hop
 cases neg
 ·simp only[Xj,if_false]at h1 ⊢
  simp[h1,h2,binOp]
 ·simp only[if_true]at h1 ⊢
  simp[h1,h2,binOp]
def OpR(P:Program)(s:Sem Next)(w:World)(base:Nat->Prop)(w0:World)(I0 I:Imm)(β:Bmap)(v:AVal)(σ':Za):Prop :=
 OpOk P s w (Post base w0 I0 I β v σ')\/∃ x,v=.pan x/\OpPan P s w (Post base w0 I0 I β x σ')
theorem OpR.of_call{s:Sem Next}{f:FuncId}{args:Array Value}{v:AVal}(h:s.run P w=.ok (.enter f args) w)(hc:Calls P f args w (fun e w'=>∃ u,Ends v e u/\Post base w0 I0 I β (Zbg v) σ' u w')):OpR P s w base w0 I0 I β v σ':=by
 by_cases hp:∃ x,v=.pan x
 ·obtain⟨x,rfl⟩:=hp
  exact XE ⟨x,rfl,XE ⟨f,args,w,h,hc.mono fun e w' ⟨u,h1,h2⟩=>⟨u,h1,h2⟩⟩⟩
 ·have hn:∀ x,v≠.pan x:=fun x e=>hp ⟨x,e⟩
  refine Xr (XE (XE ⟨f,args,w,h,hc.mono fun e w' ⟨u,h1,h2⟩=>⟨u,?_,by rw[ZgO hn]at h2;exact h2⟩⟩))
  cases v<;>first |exact h1 |exact absurd rfl (hn _)
theorem ZUP{O:ZV}(hO:ZaO P O){bf:Nat->Bool}{an:Ann}{a:Act}{o:Oper}{own:Nat}{ins:Ins}(x:Operand)(ho:o.op=.move x)(hc:Zae P an own (.move x)=some ins)(T:TR I β tm a.tmps)(R:Rel base w0 I0 I β σ w)(hb:KLt base w0)
  {sq:Nat} (hsite:nsite ins≠0->σ[sq]?=some .free) {v:AVal} {c:Cls} (h:execI O bf tm σ sq ins=some (v,σ',c)):OpOk P (execOp a.eval o) w (Post base w0 I0 I β v σ'):=by
 rw[show execOp a.eval o=(pure (.value (a.eval x)):Sem Next)by unfold execOp;rw[ho]]
 simp only[Zae]at hc
 simp only[Xq]at hc
 obtain⟨y,hy,rfl⟩:=hc
 simp only[execI,Xb,Xd]at h
 obtain⟨rfl,rfl,rfl⟩:=h
 exact Xr ⟨_,w,rfl,Post.here R (ZaB T hy)⟩
theorem ZVd{O:ZV}(hO:ZaO P O){bf:Nat->Bool}{an:Ann}{a:Act}{o:Oper}{own:Nat}{ins:Ins}(x:Operand)(ho:o.op=.assign x)(hc:Zae P an own (.assign x)=some ins)(T:TR I β tm a.tmps)(R:Rel base w0 I0 I β σ w)(hb:KLt base w0)
  {sq:Nat} (hsite:nsite ins≠0->σ[sq]?=some .free) {v:AVal} {c:Cls} (h:execI O bf tm σ sq ins=some (v,σ',c)):OpOk P (execOp a.eval o) w (Post base w0 I0 I β v σ'):=by
 rw[show execOp a.eval o=(pure (.value (a.eval x)):Sem Next)by unfold execOp;rw[ho]]
 simp only[Zae]at hc
 simp only[Xq]at hc
 obtain⟨y,hy,rfl⟩:=hc
 simp only[execI,Xb,Xd]at h
 obtain⟨rfl,rfl,rfl⟩:=h
 exact Xr ⟨_,w,rfl,Post.here R (ZaB T hy)⟩
theorem ZOD{O:ZV}(hO:ZaO P O){bf:Nat->Bool}{an:Ann}{a:Act}{o:Oper}{own:Nat}{ins:Ins}(x:Operand)(y:Operand)(z:Operand)(ho:o.op=.pick x y z)(hc:Zae P an own (.pick x y z)=some ins)(T:TR I β tm a.tmps)(R:Rel base w0 I0 I β σ w)(hb:KLt base w0)
  {sq:Nat} (hsite:nsite ins≠0->σ[sq]?=some .free) {v:AVal} {c:Cls} (h:execI O bf tm σ sq ins=some (v,σ',c)):OpOk P (execOp a.eval o) w (Post base w0 I0 I β v σ'):=by
 rw[show execOp a.eval o=(do pure (.value (if <-asBool (a.eval x)then a.eval y else a.eval z)):Sem Next)by unfold execOp;rw[ho]]
 simp only[Zae]at hc
 split at hc
 ·rename_i c' a' b' hx hy hz
  injection hc with hc;subst hc
  have hx':=ZaB T hx
  simp only[execI]at h
  unfold ZgJ at h
  split at h
  ·rename_i e
   rw[e]at hx';simp only[VR]at hx'
   simp only[Xb,Xd]at h
   obtain⟨rfl,rfl,rfl⟩:=h
   exact Xr ⟨_,w,by simp[hx',asBool],Post.here R (ZaB T hy)⟩
  ·rename_i e
   rw[e]at hx';simp only[VR]at hx'
   simp only[Xb,Xd]at h
   obtain⟨rfl,rfl,rfl⟩:=h
   exact Xr ⟨_,w,by simp[hx',asBool],Post.here R (ZaB T hz)⟩
  ·cases h
 ·cases hc
theorem ZD5{O:ZV}(hO:ZaO P O){bf:Nat->Bool}{an:Ann}{a:Act}{o:Oper}{own:Nat}{ins:Ins}(e:TypeId)(ho:o.op=.alloc e)(hc:Zae P an own (.alloc e)=some ins)(T:TR I β tm a.tmps)(R:Rel base w0 I0 I β σ w)(hb:KLt base w0)
  {sq:Nat} (hsite:nsite ins≠0->σ[sq]?=some .free) {v:AVal} {c:Cls} (h:execI O bf tm σ sq ins=some (v,σ',c)):OpOk P (execOp a.eval o) w (Post base w0 I0 I β v σ'):=by
 rw[show execOp a.eval o=(do pure (.value (<-Instr.alloc e true (.tuple #[]))):Sem Next)by unfold execOp;rw[ho]]
 simp only[Zae]at hc
 simp only[Xq]at hc
 obtain⟨z,hz,rfl⟩:=hc
 simp only[execI,Xb,Xd]at h
 obtain⟨rfl,rfl,rfl⟩:=h
 exact OpOk.val (ZVX R hb hz (hsite (by simp[nsite])))
theorem ZKL{O:ZV}(hO:ZaO P O){bf:Nat->Bool}{an:Ann}{a:Act}{o:Oper}{own:Nat}{ins:Ins}(e:TypeId)(x:Operand)(ho:o.op=.box e x)(hc:Zae P an own (.box e x)=some ins)(T:TR I β tm a.tmps)(R:Rel base w0 I0 I β σ w)(hb:KLt base w0)
  {sq:Nat} (hsite:nsite ins≠0->σ[sq]?=some .free) {v:AVal} {c:Cls} (h:execI O bf tm σ sq ins=some (v,σ',c)):OpOk P (execOp a.eval o) w (Post base w0 I0 I β v σ'):=by
 rw[show execOp a.eval o=(do pure (.value (<-Instr.box e (a.eval x))):Sem Next)by unfold execOp;rw[ho]]
 simp only[Zae]at hc
 simp only[Xq]at hc
 obtain⟨y,hy,rfl⟩:=hc
 simp only[execI]at h
 split at h
 ·cases h
 ·cases h
 ·cases h
 ·rename_i _ hnt _
  simp only[Xb,Xd]at h
  obtain⟨rfl,rfl,rfl⟩:=h
  exact OpOk.val (ZQ6 R hb hnt (ZaB T hy) (hsite (by simp[nsite])))
theorem ZIw{O:ZV}(hO:ZaO P O){bf:Nat->Bool}{an:Ann}{a:Act}{o:Oper}{own:Nat}{ins:Ins}(t:TypeId)(parts:Array (Nat×Operand))(ho:o.op=.build t parts)(hc:Zae P an own (.build t parts)=some ins)(T:TR I β tm a.tmps)(R:Rel base w0 I0 I β σ w)(hb:KLt base w0)
  {sq:Nat} (hsite:nsite ins≠0->σ[sq]?=some .free) {v:AVal} {c:Cls} (h:execI O bf tm σ sq ins=some (v,σ',c)):OpOk P (execOp a.eval o) w (Post base w0 I0 I β v σ'):=by
 rw[show execOp a.eval o=(do pure (.value (<-Instr.build t (parts.map fun(i,x)=>(i,a.eval x)))):Sem Next)by unfold execOp;rw[ho]]
 simp only[Zae]at hc
 have hc0:Zae P an own (.build t parts)=some ins:=by simp only[Zae];exact hc
 obtain⟨zs,ps,rfl⟩:∃ zs ps,ins=.build zs ps:=by
  split at hc
  ·split at hc
   ·simp only[Xq]at hc;obtain⟨ps,_,rfl⟩:=hc;exact⟨_,_,rfl⟩
   ·cases hc
  ·split at hc
   ·simp only[Xq]at hc;obtain⟨ps,_,rfl⟩:=hc;exact⟨_,_,rfl⟩
   ·cases hc
  ·cases hc
 simp only[execI]at h
 split at h
 ·rename_i cs hf
  simp only[Xb,Xd]at h
  obtain⟨rfl,rfl,rfl⟩:=h
  obtain⟨u,h1,h2⟩:=ZV7 (w:=w) T hc0 hf
  exact OpOk.val ⟨u,w,h1,Post.here R h2⟩
 ·cases h
theorem ZVg{O:ZV}(hO:ZaO P O){bf:Nat->Bool}{an:Ann}{a:Act}{o:Oper}{own:Nat}{ins:Ins}(t:TypeId)(n:Nat)(parts:Array (Nat×Operand))(ho:o.op=.buildSlice t n parts)(hc:Zae P an own (.buildSlice t n parts)=some ins)(T:TR I β tm a.tmps)(R:Rel base w0 I0 I β σ w)(hb:KLt base w0)
  {sq:Nat} (hsite:nsite ins≠0->σ[sq]?=some .free) {v:AVal} {c:Cls} (h:execI O bf tm σ sq ins=some (v,σ',c)):OpOk P (execOp a.eval o) w (Post base w0 I0 I β v σ'):=by
 rw[show execOp a.eval o=(do pure (.value (<-Instr.buildSlice t n (parts.map fun(i,x)=>(i,a.eval x)))):Sem Next)by unfold execOp;rw[ho]]
 simp only[Zae]at hc
 split at hc
 ·rename_i k bytes z he
  split at hc
  ·rename_i hn
   simp only[Xq]at hc
   obtain⟨ps,hps,rfl⟩:=hc
   split at h
   ·rename_i ho
    exact OpOk.val (ZEw T R hb he hn hps (hsite (by rw[if_pos ho];simp[nsite])) h)
   ·rename_i ho
    exact OpOk.val (ZHg T R hb he hn hps (fun ho'=>hsite (by rw[if_neg ho];simp[nsite,ho'])) h)
  ·cases hc
 ·cases hc
theorem ZLI{O:ZV}(hO:ZaO P O){bf:Nat->Bool}{an:Ann}{a:Act}{o:Oper}{own:Nat}{ins:Ins}(t:TypeId)(x:Operand)(ho:o.op=.load t x)(hc:Zae P an own (.load t x)=some ins)(T:TR I β tm a.tmps)(R:Rel base w0 I0 I β σ w)(hb:KLt base w0)
  {sq:Nat} (hsite:nsite ins≠0->σ[sq]?=some .free) {v:AVal} {c:Cls} (h:execI O bf tm σ sq ins=some (v,σ',c)):OpOk P (execOp a.eval o) w (Post base w0 I0 I β v σ'):=by
 rw[show execOp a.eval o=(do pure (.value (<-Instr.loadAt t (a.eval x))):Sem Next)by unfold execOp;rw[ho]]
 simp only[Zae]at hc
 split at hc
 ·rename_i k y hk hy
  injection hc with hc;subst hc
  simp only[execI]at h
  obtain⟨u,h1,h2,rfl⟩:=Zyt hk R (ZaB T hy) h
  exact OpOk.val ⟨u,w,h1,Post.here R h2⟩
 ·cases hc
theorem ZWG{O:ZV}(hO:ZaO P O){bf:Nat->Bool}{an:Ann}{a:Act}{o:Oper}{own:Nat}{ins:Ins}(t:TypeId)(x:Operand)(y:Operand)(ho:o.op=.store t x y)(hc:Zae P an own (.store t x y)=some ins)(T:TR I β tm a.tmps)(R:Rel base w0 I0 I β σ w)(hb:KLt base w0)
  {sq:Nat} (hsite:nsite ins≠0->σ[sq]?=some .free) {v:AVal} {c:Cls} (h:execI O bf tm σ sq ins=some (v,σ',c)):OpOk P (execOp a.eval o) w (Post base w0 I0 I β v σ'):=by
 rw[show execOp a.eval o=(do Instr.storeAt t (a.eval x) (a.eval y);pure .skip:Sem Next)by unfold execOp;rw[ho]]
 simp only[Zae]at hc
 split at hc
 ·rename_i k x' y' hk hx hy
  injection hc with hc;subst hc
  simp only[execI]at h
  exact OpOk.unit (ZQQ hk R (ZaB T hx) (ZaB T hy) h)
 ·cases hc
theorem ZPD{O:ZV}(hO:ZaO P O){bf:Nat->Bool}{an:Ann}{a:Act}{o:Oper}{own:Nat}{ins:Ins}(x:Operand)(ho:o.op=.nilCheck x)(hc:Zae P an own (.nilCheck x)=some ins)(T:TR I β tm a.tmps)(R:Rel base w0 I0 I β σ w)(hb:KLt base w0)
  {sq:Nat} (hsite:nsite ins≠0->σ[sq]?=some .free) {v:AVal} {c:Cls} (h:execI O bf tm σ sq ins=some (v,σ',c)):OpOk P (execOp a.eval o) w (Post base w0 I0 I β v σ'):=by
 simp only[Zae]at hc
 simp only[Xq]at hc
 obtain⟨y,hy,rfl⟩:=hc
 have hx:=ZaB T hy
 have key:∀ ad,a.eval x=.pointer (some ad)->execOp a.eval o=pure (.value (a.eval x)):=by
  intro ad e
  unfold execOp
  rw[ho]
  simp only[e]
 simp only[execI]at h
 split at h
 ·rename_i t' o' e
  simp only[Xb,Xd]at h
  obtain⟨rfl,rfl,rfl⟩:=h
  rw[e]at hx
  have hx':=hx
  simp only[VR]at hx'
  obtain⟨b,k,c',_,hp⟩:=hx'
  rw[key _ hp]
  exact Xr ⟨a.eval x,w,rfl,Post.here R hx⟩
 ·rename_i t' g' i' o' e
  simp only[Xb,Xd]at h
  obtain⟨rfl,rfl,rfl⟩:=h
  rw[e]at hx
  have hx':=hx
  simp only[VR]at hx'
  obtain⟨b,k,c',_,hp⟩:=hx'
  rw[key _ hp]
  exact Xr ⟨a.eval x,w,rfl,Post.here R hx⟩
 ·rename_i cs o' e
  simp only[Xb,Xd]at h
  obtain⟨rfl,rfl,rfl⟩:=h
  rw[e]at hx
  have hx':=hx
  simp only[VR]at hx'
  obtain⟨b,off,hp,_⟩:=hx'
  rw[key _ hp]
  exact Xr ⟨a.eval x,w,rfl,Post.here R hx⟩
 ·cases h
theorem ZV1 {O : ZV} (hO : ZaO P O) {bf : Nat -> Bool} {an : Ann} {a : Act} {o : Oper} {own : Nat} {ins : Ins} (op : BinOp) (t : TypeId) (x : Operand) (y : Operand) (yt : TypeId) (ho : o.op = .binOp op t x y yt) (hc : Zae P an own (.binOp op t x y yt) = some ins) (T : TR I β tm a.tmps) (R : Rel base w0 I0 I β σ w) (hb : KLt base w0)
    {sq : Nat} (hsite : nsite ins ≠ 0 -> σ[sq]? = some .free) {v : AVal} {c : Cls} (h : execI O bf tm σ sq ins = some (v, σ', c)) : OpOk P (execOp a.eval o) w (Post base w0 I0 I β v σ') := by
  rw [show execOp a.eval o = (do pure (.value (<- (do eqGuard op t x y (a.eval x) (a.eval y); binOp op t (a.eval x) (a.eval y)))) : Sem Next) by unfold execOp; rw [ho]]
  simp only [Zae] at hc
  split at hc
  . rename_i x' y' hx hy
    have hx' := ZaB T hx
    have hy' := ZaB T hy
    unfold ZAw at hc
    split at hc
    . injection hc with hc; subst hc
      simp only [execI] at h
      obtain ⟨r, hr, he⟩ := Zg6 h
      simp only [Xd] at he
      obtain ⟨rfl, rfl, rfl⟩ := he
      obtain ⟨u, h1, h2⟩ := ZxJ (P := P) (w := w) (t := t) x y hx' hy' hr
      exact OpOk.val ⟨u, w, h1, Post.here R h2⟩
    . injection hc with hc; subst hc
      simp only [execI] at h
      obtain ⟨r, hr, he⟩ := Zg6 h
      simp only [Xd] at he
      obtain ⟨rfl, rfl, rfl⟩ := he
      obtain ⟨u, h1, h2⟩ := ZxJ (P := P) (w := w) (t := t) x y hx' hy' hr
      exact OpOk.val ⟨u, w, h1, Post.here R h2⟩
    . rename_i hu
      split at hc
      all_goals first
        | (cases hc; done)
        | (injection hc with hc; subst hc
           simp only [execI] at h
           split at h
           . rename_i p q e1 e2
             rw [e1] at hx'; rw [e2] at hy'
             simp only [VR] at hx' hy'
             simp only [Xb, Xd] at h
             obtain ⟨rfl, rfl, rfl⟩ := h
             refine OpOk.val ⟨_, w, ?_, Post.here R (by simp only [VR]; rfl)⟩
             rw [hx', hy']
             first | exact ZKC hu p q x y | exact ZOZ hu p q x y
           . cases h)
    . rename_i elem hu
      split at hc
      all_goals first
        | (cases hc; done)
        | (injection hc with hc; subst hc
           simp only [execI] at h
           split at h
           . rename_i e1 e2
             rw [e1] at hx'; rw [e2] at hy'
             simp only [VR] at hx' hy'
             simp only [Xb, Xd] at h
             obtain ⟨rfl, rfl, rfl⟩ := h
             refine OpOk.val ⟨_, w, ?_, Post.here R (by simp only [VR]; rfl)⟩
             rw [hx', hy']
             first | exact ZqO hu _ _ x y (by simp) | exact ZrC hu _ _ x y (by simp)
           . rename_i t1 o1 e1 e2
             rw [e1] at hx'; rw [e2] at hy'
             simp only [VR] at hx' hy'
             obtain ⟨b, k, c', _, hy'⟩ := hy'
             simp only [Xb, Xd] at h
             obtain ⟨rfl, rfl, rfl⟩ := h
             refine OpOk.val ⟨_, w, ?_, Post.here R (by simp only [VR]; rfl)⟩
             rw [hx', hy']
             first | exact ZqO hu _ _ x y (by simp) | exact ZrC hu _ _ x y (by simp)
           . rename_i t1 o1 e1 e2
             rw [e1] at hx'; rw [e2] at hy'
             simp only [VR] at hx' hy'
             obtain ⟨b, k, c', _, hx'⟩ := hx'
             simp only [Xb, Xd] at h
             obtain ⟨rfl, rfl, rfl⟩ := h
             refine OpOk.val ⟨_, w, ?_, Post.here R (by simp only [VR]; rfl)⟩
             rw [hx', hy']
             first | exact ZqO hu _ _ x y (by simp) | exact ZrC hu _ _ x y (by simp)
           . cases h)
    . rename_i fs hu
      split at hc
      case isFalse => cases hc
      rename_i hfl
      have fin : ∀ (neg : Bool), op = (if neg then .neq else .eql) -> execI O bf tm σ sq (.eqv neg (fs.toList.map fun f => (ZgV P f.type).getD 3) x' y') = some (v, σ', c) -> OpOk P (do pure (.value (<- (do eqGuard op t x y (a.eval x) (a.eval y); binOp op t (a.eval x) (a.eval y))))) w (Post base w0 I0 I β v σ') := by
        intro neg hop h
        simp only [execI] at h
        split at h
        . rename_i xs ys e1 e2
          rw [e1] at hx'; rw [e2] at hy'
          simp only [VR] at hx' hy'
          obtain ⟨us, hx1, hx2⟩ := hx'
          obtain ⟨vs, hy1, hy2⟩ := hy'
          split at h
          case isFalse => cases h
          rename_i hk
          split at h
          . rename_i b hb'
            simp only [Xb, Xd] at h
            obtain ⟨rfl, rfl, rfl⟩ := h
            refine OpOk.val ⟨_, w, ?_, Post.here R (by simp only [VR]; rfl)⟩
            rw [hx1, hy1]
            exact ZUx hu hfl hx2 hy2 (Zzg hk) hb' neg hop x y
          . cases h
        . cases h
      split at hc
      . injection hc with hc; subst hc; exact fin false rfl h
      . injection hc with hc; subst hc; exact fin true rfl h
      . cases hc
    . rename_i ms hu
      have fin : ∀ (neg : Bool), y' = .c .nili -> op = (if neg then .neq else .eql) -> execI O bf tm σ sq (.ieq neg x' y') = some (v, σ', c) -> OpOk P (do pure (.value (<- (do eqGuard op t x y (a.eval x) (a.eval y); binOp op t (a.eval x) (a.eval y))))) w (Post base w0 I0 I β v σ') := by
        intro neg hy0 hop h
        subst hy0
        obtain ⟨vy, rfl⟩ : ∃ vy, y = .const vy := by
          cases y with
          | const vy => exact ⟨vy, rfl⟩
          | tmp t => simp [Zaz] at hy
          | func f => simp only [Zaz] at hy; split at hy <;> simp at hy
          | global g => simp [Zaz] at hy
        simp only [Opd.ev, VR] at hy'
        have hms : P.underlying t = some (.interface ms) := hu
        simp only [execI] at h
        rw [show (Opd.c AVal.nili).ev tm = .nili from rfl] at h
        split at h
        . rename_i e1 e2
          rw [e1] at hx'
          simp only [VR] at hx'
          simp only [Xb, Xd] at h
          obtain ⟨rfl, rfl, rfl⟩ := h
          refine OpOk.val ⟨_, w, ?_, Post.here R (by simp only [VR]; rfl)⟩
          rw [hx', hy']
          exact ZA3 hms neg x vy hop
        . rename_i e2; cases e2
        . rename_i t1 x1 e1 e2
          rw [e1] at hx'
          simp only [VR] at hx'
          obtain ⟨u, hx', _⟩ := hx'
          simp only [Xb, Xd] at h
          obtain ⟨rfl, rfl, rfl⟩ := h
          refine OpOk.val ⟨_, w, ?_, Post.here R (by simp only [VR]; rfl)⟩
          rw [hx', hy']
          exact ZAu hms neg x vy hop
        . cases h
      split at hc
      . injection hc with hc; subst hc; exact fin false rfl rfl h
      . injection hc with hc; subst hc; exact fin true rfl rfl h
      . cases hc
    . cases hc
  . cases hc
theorem ZWn{O:ZV}(hO:ZaO P O){bf:Nat->Bool}{an:Ann}{a:Act}{o:Oper}{own:Nat}{ins:Ins}(op:UnOp)(t:TypeId)(x:Operand)(ho:o.op=.unOp op t x)(hc:Zae P an own (.unOp op t x)=some ins)(T:TR I β tm a.tmps)(R:Rel base w0 I0 I β σ w)(hb:KLt base w0)
  {sq:Nat} (hsite:nsite ins≠0->σ[sq]?=some .free) {v:AVal} {c:Cls} (h:execI O bf tm σ sq ins=some (v,σ',c)):OpOk P (execOp a.eval o) w (Post base w0 I0 I β v σ'):=by
 rw[show execOp a.eval o=(do pure (.value (<-Op.unary op (a.eval x))):Sem Next)by unfold execOp;rw[ho]]
 simp only[Zae]at hc
 simp only[Xq]at hc
 obtain⟨y,hy,rfl⟩:=hc
 simp only[execI]at h
 obtain⟨r,hr,he⟩:=Zg6 h
 simp only[Xd]at he
 obtain⟨rfl,rfl,rfl⟩:=he
 obtain⟨u,h1,h2⟩:=ZKK (P:=P) (w:=w) (ZaB T hy) hr
 exact OpOk.val ⟨u,w,h1,Post.here R h2⟩
theorem ZMn{O:ZV}(hO:ZaO P O){bf:Nat->Bool}{an:Ann}{a:Act}{o:Oper}{own:Nat}{ins:Ins}(src:TypeId)(dst:TypeId)(x:Operand)(ho:o.op=.convert src dst x)(hc:Zae P an own (.convert src dst x)=some ins)(T:TR I β tm a.tmps)(R:Rel base w0 I0 I β σ w)(hb:KLt base w0)
  {sq:Nat} (hsite:nsite ins≠0->σ[sq]?=some .free) {v:AVal} {c:Cls} (h:execI O bf tm σ sq ins=some (v,σ',c)):OpOk P (execOp a.eval o) w (Post base w0 I0 I β v σ'):=by
 rw[show execOp a.eval o=(do pure (.value (<-convert src dst (a.eval x))):Sem Next)by unfold execOp;rw[ho]]
 simp only[Zae]at hc
 split at hc
 ·rename_i y hy
  have hx:=ZaB T hy
  unfold ZxA at hc
  split at hc
  ·rename_i k1 k2 hs hd
   injection hc with hc;subst hc
   simp only[execI]at h
   split at h
   ·rename_i k n e
    rw[e]at hx;simp only[VR]at hx
    simp only[Xb,Xd]at h
    obtain⟨rfl,rfl,rfl⟩:=h
    refine OpOk.val ⟨.int k2 (k2.wrap n),w,?_,Post.here R (by simp only[VR])⟩
    rw[hx]
    simp[convert,run_underlying hs,run_underlying hd,Conv.intToInt]
   ·cases h
  ·rename_i hs hd
   injection hc with hc;subst hc
   simp only[execI]at h
   split at h
   ·rename_i k n e
    rw[e]at hx;simp only[VR]at hx
    simp only[Xb,Xd]at h
    obtain⟨rfl,rfl,rfl⟩:=h
    refine OpOk.val ⟨.string (Utf8.encode n),w,?_,Post.here R ?_⟩
    ·rw[hx]
     simp[convert,run_underlying hs,run_underlying hd,Conv.intToString]
    ·simp only[VR]
     refine⟨by simp,?_⟩
     unfold Utf8.encode
     simp only
     repeat' split
     all_goals simp
   ·cases h
  ·rename_i hs hd
   injection hc with hc;subst hc
   simp only[execI]at h
   split at h
   ·rename_i l e
    rw[e]at hx
    have hx':=hx
    simp only[VR]at hx'
    simp only[Xb,Xd]at h
    obtain⟨rfl,rfl,rfl⟩:=h
    refine OpOk.val ⟨_,w,?_,Post.here R hx⟩
    rw[hx'.1]
    simp[convert,run_underlying hs,run_underlying hd]
   ·cases h
  ·rename_i e hs hd
   split at hc
   ·rename_i he
    injection hc with hc;subst hc
    simp only[execI]at h
    split at h
    ·rename_i l e'
     rw[e']at hx
     simp only[VR]at hx
     simp only[Xb,Xd]at h
     obtain⟨rfl,rfl,rfl⟩:=h
     rw[hx.1]
     exact OpOk.val (ZJ7 hs hd he R hb hx.2)
    ·cases h
   ·cases hc
  ·rename_i e1 e hs hd
   split at hc
   ·rename_i hsd
    subst hsd
    split at hc
    ·rename_i he
     injection hc with hc;subst hc
     simp only[execI]at h
     split at h
     ·rename_i t' g n ev
      rw[ev]at hx
      split at h
      ·rename_i g' k xs hrow
       split at h
       ·rename_i hcond
        obtain⟨rfl,hn,h0⟩:=hcond
        simp only[Xb,Xd]at h
        obtain⟨rfl,rfl,rfl⟩:=h
        obtain⟨w1,h1,h2⟩:=ZGS hd he R hrow hn h0 hx
        exact OpOk.val ⟨_,w1,h1,h2⟩
       ·cases h
      ·cases h
     ·cases h
    ·cases hc
   ·cases hc
  ·rename_i e hs hd
   split at hc
   ·rename_i he
    injection hc with hc;subst hc
    simp only[execI]at h
    split at h
    ·rename_i xs ts hel
     split at h
     ·rename_i l hl
      simp only[Xb,Xd]at h
      obtain⟨rfl,rfl,rfl⟩:=h
      by_cases hst:∃ l',y.ev tm=.str l'
      ·obtain⟨l',e'⟩:=hst
       rw[e']at hel hx
       simp only[ZY,Xb,Xd]at hel
       obtain⟨rfl,rfl⟩:=hel
       simp only[VR]at hx
       have hll:l=l':=by
        obtain⟨ns,e1,e2⟩:=Ztc hl
        subst e2
        have : l'.map Zb=ns.map (AVal.int .u8):=e1
        apply List.ext_getElem?
        intro j
        have hj:=congrArg (fun q:List AVal=>q[j]?) this
        simp only[List.getElem?_map]at hj ⊢
        cases h1:l'[j]? <;> cases h2:ns[j]? <;> simp_all[Zb]
        rename_i b n
        rw[<-hj];simp
       subst hll
       refine OpOk.val ⟨.string ⟨l.toArray⟩,w,?_,Post.here R (by simp only[VR];exact⟨trivial,hx.2⟩)⟩
       rw[hx.1]
       simp[convert,run_underlying hs,run_underlying hd]
      ·have hrd:=Zsi R (fun l' e'=>hst ⟨l',e'⟩) hel hx
       obtain⟨h1,h2⟩:=ZKX (P:=P) hs he hd hrd hl
       exact OpOk.val ⟨_,w,h1,Post.here R (by simp only[VR];exact⟨trivial,h2⟩)⟩
     ·cases h
    ·cases h
   ·cases hc
  ·cases hc
 ·cases hc
theorem ZGM{O:ZV}(hO:ZaO P O){bf:Nat->Bool}{an:Ann}{a:Act}{o:Oper}{own:Nat}{ins:Ins}(t:TypeId)(x:Operand)(lo:Option Operand)(hi:Option Operand)(mx:Option Operand)(ho:o.op=.slice t x lo hi mx)(hc:Zae P an own (.slice t x lo hi mx)=some ins)(T:TR I β tm a.tmps)(R:Rel base w0 I0 I β σ w)(hb:KLt base w0)
  {sq:Nat} (hsite:nsite ins≠0->σ[sq]?=some .free) {v:AVal} {c:Cls} (h:execI O bf tm σ sq ins=some (v,σ',c)):OpOk P (execOp a.eval o) w (Post base w0 I0 I β v σ'):=by
 rw[show execOp a.eval o=(do pure (.value (<-Instr.sliceAt t (a.eval x) (lo.map a.eval) (hi.map a.eval) (mx.map a.eval))):Sem Next)by unfold execOp;rw[ho]]
 simp only[Zae]at hc
 split at hc
 ·rename_i x' lo' hi' mx' hx hlo hhi hmx
  split at hc
  ·rename_i hu
   split at hc
   ·injection hc with hc;subst hc
    have hmx0:mx=none:=by cases mx<;>simp_all[ZhF]
    subst hmx0
    have hx':=ZaB T hx
    simp only[execI]at h
    split at h
    ·rename_i s e
     rw[e]at hx';simp only[VR]at hx'
     split at h
     ·cases h
     rename_i hh h1
     split at h
     ·cases h
     rename_i ll h2
     simp only[Xb,Xd]at h
     obtain⟨rfl,rfl,rfl⟩:=h
     refine OpOk.val ⟨_,w,?_,Post.here R (by simp only[VR];exact⟨rfl,by simp;omega⟩)⟩
     rw[hx'.1]
     exact ZK6 hu hx'.2 (Zj2 T hlo) (Zj2 T hhi) h1 h2
    ·cases h
   ·cases hc
  ·rename_i e hu
   split at hc
   ·rename_i k hk
    split at hc
    ·split at hc
     ·cases hc
     ·rename_i hnn
      injection hc with hc;subst hc
      simp only[execI]at h
      obtain⟨u,h1,h2⟩:=ZK3 hu hk R (ZaB T hx) (Zj2 T hlo) (Zj2 T hhi) (Zj2 T hmx) (by
       intro e'
       cases hi' with
       |some _=>simp at e'
       |none=>cases mx' with
        |none=>rfl
        |some q=>exact absurd rfl (hnn q rfl)) h
      exact OpOk.val ⟨u,w,h1,h2⟩
    ·cases hc
   ·cases hc
  ·cases hc
 ·cases hc
theorem ZOB{O:ZV}(hO:ZaO P O){bf:Nat->Bool}{an:Ann}{a:Act}{o:Oper}{own:Nat}{ins:Ins}(s:TypeId)(x:Operand)(i:Nat)(ho:o.op=.fieldAddr s x i)(hc:Zae P an own (.fieldAddr s x i)=some ins)(T:TR I β tm a.tmps)(R:Rel base w0 I0 I β σ w)(hb:KLt base w0)
  {sq:Nat} (hsite:nsite ins≠0->σ[sq]?=some .free) {v:AVal} {c:Cls} (h:execI O bf tm σ sq ins=some (v,σ',c)):OpOk P (execOp a.eval o) w (Post base w0 I0 I β v σ'):=by
 rw[show execOp a.eval o=(do pure (.value (<-Instr.fieldAt s (a.eval x) i)):Sem Next)by unfold execOp;rw[ho]]
 simp only[Zae]at hc
 split at hc
 ·rename_i fields x' hs hx
  split at hc
  ·rename_i f hf
   split at hc
   ·rename_i k hk
    split at hc
    ·cases hc
    ·rename_i hk0
     injection hc with hc;subst hc
     simp only[execI]at h
     obtain⟨r,hr,he⟩:=Zg6 h
     simp only[Xd]at he
     obtain⟨rfl,rfl,rfl⟩:=he
     obtain⟨u,h1,h2⟩:=ZEx (w:=w) hs hf hk hk0 (ZaB T hx) hr
     exact OpOk.val ⟨u,w,h1,Post.here R h2⟩
   ·cases hc
  ·cases hc
 ·cases hc
theorem ZV6{O:ZV}(hO:ZaO P O){bf:Nat->Bool}{an:Ann}{a:Act}{o:Oper}{own:Nat}{ins:Ins}(s:TypeId)(x:Operand)(i:Nat)(ho:o.op=.field s x i)(hc:Zae P an own (.field s x i)=some ins)(T:TR I β tm a.tmps)(R:Rel base w0 I0 I β σ w)(hb:KLt base w0)
  {sq:Nat} (hsite:nsite ins≠0->σ[sq]?=some .free) {v:AVal} {c:Cls} (h:execI O bf tm σ sq ins=some (v,σ',c)):OpOk P (execOp a.eval o) w (Post base w0 I0 I β v σ'):=by
 rw[show execOp a.eval o=(do pure (.value (<-Instr.field s (a.eval x) i)):Sem Next)by unfold execOp;rw[ho]]
 simp only[Zae]at hc
 split at hc
 ·rename_i fields x' hs hx
  split at hc
  ·rename_i f hf
   simp only[Xq]at hc
   obtain⟨k,hk,rfl⟩:=hc
   have hx':=ZaB T hx
   simp only[execI]at h
   split at h
   ·rename_i cs e
    rw[e]at hx';simp only[VR]at hx'
    obtain⟨us,hus,hv⟩:=hx'
    obtain⟨r,hr,he⟩:=Zg6 h
    simp only[Xd]at he
    obtain⟨rfl,rfl,rfl⟩:=he
    obtain⟨u,h1,h2⟩:=ZAp (P:=P) (w:=w) hk hv hr
    refine OpOk.val ⟨u,w,?_,Post.here R h2⟩
    rw[hus]
    simp[Instr.field,run_underlying hs,hf,asAgg,h1]
   ·cases h
  ·cases hc
 ·cases hc
theorem ZDG{O:ZV}(hO:ZaO P O){bf:Nat->Bool}{an:Ann}{a:Act}{o:Oper}{own:Nat}{ins:Ins}(t:TypeId)(x:Operand)(i:Operand)(ho:o.op=.indexAddr t x i)(hc:Zae P an own (.indexAddr t x i)=some ins)(T:TR I β tm a.tmps)(R:Rel base w0 I0 I β σ w)(hb:KLt base w0)
  {sq:Nat} (hsite:nsite ins≠0->σ[sq]?=some .free) {v:AVal} {c:Cls} (h:execI O bf tm σ sq ins=some (v,σ',c)):OpOk P (execOp a.eval o) w (Post base w0 I0 I β v σ'):=by
 rw[show execOp a.eval o=(do pure (.value (<-Instr.indexAt t (a.eval x) (a.eval i))):Sem Next)by unfold execOp;rw[ho]]
 simp only[Zae]at hc
 split at hc
 ·rename_i e x' i' hu hx hi
  simp only[Xq]at hc
  obtain⟨k,hk,rfl⟩:=hc
  simp only[execI]at h
  obtain⟨u,h1,h2,rfl⟩:=ZOG hu hk R (ZaB T hx) (ZaB T hi) h
  exact OpOk.val ⟨u,w,h1,Post.here R h2⟩
 ·rename_i n e x' i' hu hx hi
  simp only[Xq]at hc
  obtain⟨k,hk,rfl⟩:=hc
  have hi':=ZaB T hi
  simp only[execI]at h
  split at h
  ·rename_i kk ii e'
   rw[e']at hi';simp only[VR]at hi'
   split at h
   ·rename_i hb'
    obtain⟨r,hr,he⟩:=Zg6 h
    simp only[Xd]at he
    obtain⟨rfl,rfl,rfl⟩:=he
    obtain⟨u,h1,h2⟩:=ZB9 (P:=P) (w:=w) (kk:=kk) hu hk (ZaB T hx) hb'.1 hb'.2 hr
    exact OpOk.val ⟨u,w,by rw[hi'];exact h1,Post.here R h2⟩
   ·cases h
  ·cases h
 ·cases hc
theorem ZE9{O:ZV}(hO:ZaO P O){bf:Nat->Bool}{an:Ann}{a:Act}{o:Oper}{own:Nat}{ins:Ins}(t:TypeId)(x:Operand)(i:Operand)(ho:o.op=.index t x i)(hc:Zae P an own (.index t x i)=some ins)(T:TR I β tm a.tmps)(R:Rel base w0 I0 I β σ w)(hb:KLt base w0)
  {sq:Nat} (hsite:nsite ins≠0->σ[sq]?=some .free) {v:AVal} {c:Cls} (h:execI O bf tm σ sq ins=some (v,σ',c)):OpOk P (execOp a.eval o) w (Post base w0 I0 I β v σ'):=by
 rw[show execOp a.eval o=(do pure (.value (<-Instr.index t (a.eval x) (a.eval i))):Sem Next)by unfold execOp;rw[ho]]
 simp only[Zae]at hc
 split at hc
 ·rename_i x' i' hu hx hi
  injection hc with hc;subst hc
  have hx':=ZaB T hx
  have hi':=ZaB T hi
  simp only[execI]at h
  split at h
  ·rename_i s kk ii e1 e2
   rw[e1]at hx';rw[e2]at hi'
   simp only[VR]at hx' hi'
   split at h
   ·rename_i h0
    simp only[Xq]at h
    obtain⟨b,hbb,he⟩:=h
    simp only[Xd]at he
    obtain⟨rfl,rfl,rfl⟩:=he
    refine OpOk.val ⟨.int .u8 b.toNat,w,?_,Post.here R (by simp only[Zb,VR])⟩
    rw[hx'.1,hi']
    have hg:(⟨s.toArray⟩:ByteArray)[ii.toNat]?=some b:=by
     have hlt:=(Xl.1 hbb).1
     have : ii.toNat<Wu ⟨s.toArray⟩:=by simpa[Wu]using hlt
     rw[getElem?_pos (⟨s.toArray⟩:ByteArray) ii.toNat this]
     have:=(Xl.1 hbb).2
     rw[<-this]
     rfl
    simp[Instr.index,asIntOf,run_underlying hu,h0,hg]
   ·cases h
  ·cases h
 ·rename_i n e x' i' hu hx hi
  split at hc
  ·rename_i s k hk hk2
   injection hc with hc;subst hc
   have hx':=ZaB T hx
   have hi':=ZaB T hi
   simp only[execI]at h
   split at h
   ·rename_i cs kk ii e1 e2
    rw[e1]at hx';rw[e2]at hi'
    simp only[VR]at hx' hi'
    obtain⟨us,hus,hv⟩:=hx'
    split at h
    ·rename_i hb'
     obtain⟨r,hr,he⟩:=Zg6 h
     simp only[Xd]at he
     obtain⟨rfl,rfl,rfl⟩:=he
     obtain⟨u,h1,h2⟩:=ZAp (P:=P) (w:=w) hk hv hr
     obtain⟨ie,hie,hke⟩:∃ ie,P.info? e=some ie/\ie.size=k:=by
      unfold ZbY at hk2
      cases hi:P.info? e with
      |none=>simp[hi]at hk2
      |some i=>exact⟨i,rfl,by simpa[hi]using hk2⟩
     refine OpOk.val ⟨u,w,?_,Post.here R h2⟩
     rw[hus,hi']
     simp[Instr.index,asIntOf,run_underlying hu,hb'.1,hb'.2,sizeOf,typeInfo,hie,hke,h1]
    ·cases h
   ·cases h
  ·cases hc
 ·cases hc
theorem ZHw{O:ZV}(hO:ZaO P O){bf:Nat->Bool}{an:Ann}{a:Act}{o:Oper}{own:Nat}{ins:Ins}(x:Operand)(i:Nat)(ho:o.op=.extract x i)(hc:Zae P an own (.extract x i)=some ins)(T:TR I β tm a.tmps)(R:Rel base w0 I0 I β σ w)(hb:KLt base w0)
  {sq:Nat} (hsite:nsite ins≠0->σ[sq]?=some .free) {v:AVal} {c:Cls} (h:execI O bf tm σ sq ins=some (v,σ',c)):OpOk P (execOp a.eval o) w (Post base w0 I0 I β v σ'):=by
 rw[show execOp a.eval o=(do pure (.value (<-Instr.extract (a.eval x) i)):Sem Next)by unfold execOp;rw[ho]]
 simp only[Zae]at hc
 simp only[Xq]at hc
 obtain⟨y,hy,rfl⟩:=hc
 have hx:=ZaB T hy
 simp only[execI]at h
 split at h
 ·rename_i vs e
  rw[e]at hx;simp only[VR]at hx
  obtain⟨us,hus,hv⟩:=hx
  obtain⟨r,hr,he⟩:=Zg6 h
  simp only[Xd]at he
  obtain⟨rfl,rfl,rfl⟩:=he
  obtain⟨u,h1,h2⟩:=ZcO hv hr
  have h1':us[i]?=some u:=by simpa using h1
  exact OpOk.val ⟨u,w,by rw[hus];simp[Instr.extract,h1'],Post.here R h2⟩
 ·cases h
theorem ZRL{O:ZV}(hO:ZaO P O){bf:Nat->Bool}{an:Ann}{a:Act}{o:Oper}{own:Nat}{ins:Ins}(t:TypeId)(l:Operand)(c':Operand)(ho:o.op=.makeSlice t l c')(hc:Zae P an own (.makeSlice t l c')=some ins)(T:TR I β tm a.tmps)(R:Rel base w0 I0 I β σ w)(hb:KLt base w0)
  {sq:Nat} (hsite:nsite ins≠0->σ[sq]?=some .free) {v:AVal} {c:Cls} (h:execI O bf tm σ sq ins=some (v,σ',c)):OpOk P (execOp a.eval o) w (Post base w0 I0 I β v σ'):=by
 rw[show execOp a.eval o=(do pure (.value (<-Instr.makeSlice t (a.eval l) (a.eval c'))):Sem Next)by unfold execOp;rw[ho]]
 simp only[Zae]at hc
 split at hc
 ·rename_i k bytes z l' c'' he hl hc'
  injection hc with hc;subst hc
  have hl':=ZaB T hl
  have hc'':=ZaB T hc'
  simp only[execI]at h
  split at h
  ·rename_i li ci e1 e2
   rw[e1]at hl';rw[e2]at hc''
   simp only[VR]at hl' hc''
   split at h
   ·rename_i hcond
    simp only[Xb,Xd]at h
    obtain⟨rfl,rfl,rfl⟩:=h
    rw[hl',hc'']
    exact OpOk.val (ZLK R hb he hcond.1 hcond.2.1 hcond.2.2.1 hcond.2.2.2.1 (hsite (by simp[nsite])))
   ·cases h
  ·cases h
 ·cases hc
theorem ZEv{O:ZV}(hO:ZaO P O){bf:Nat->Bool}{an:Ann}{a:Act}{o:Oper}{own:Nat}{ins:Ins}(fn:Fn)(first:Array Operand)(captured:Array Operand)(ho:o.op=.makeFunc fn first captured)(hc:Zae P an own (.makeFunc fn first captured)=some ins)(T:TR I β tm a.tmps)(R:Rel base w0 I0 I β σ w)(hb:KLt base w0)
  {sq:Nat} (hsite:nsite ins≠0->σ[sq]?=some .free) {v:AVal} {c:Cls} (h:execI O bf tm σ sq ins=some (v,σ',c)):OpOk P (execOp a.eval o) w (Post base w0 I0 I β v σ'):=by
 rw[show execOp a.eval o=(do pure (.value (<-Instr.makeFunc fn (first.map a.eval) (captured.map a.eval))):Sem Next)by unfold execOp;rw[ho]]
 simp only[Zae]at hc
 cases fn<;>simp only at hc<;>try (cases hc;done)
 rename_i f
 split at hc
 case isFalse=>cases hc
 rename_i hlt
 split at hc
 ·rename_i hf
  simp only[Xq]at hc
  obtain⟨caps,hcaps,rfl⟩:=hc
  simp only[execI,Xb,Xd]at h
  obtain⟨rfl,rfl,rfl⟩:=h
  have hfe:first=#[]:=by simpa using hf
  subst hfe
  refine OpOk.val ⟨.func (.func f) #[] (captured.map a.eval),w,by simp[Instr.makeFunc],Post.here R ?_⟩
  simp only[VR,if_pos hlt]
  exact⟨_,_,rfl,rfl,by simpa using Zmu T hcaps⟩
 ·split at hc
  case isFalse=>cases hc
  rename_i hf
  simp only[Xq]at hc
  obtain⟨caps,hcaps,rfl⟩:=hc
  simp only[execI,Xb,Xd]at h
  obtain⟨rfl,rfl,rfl⟩:=h
  have hfe:captured=#[]:=by simpa using hf
  subst hfe
  refine OpOk.val ⟨.func (.func f) (first.map a.eval) #[],w,by simp[Instr.makeFunc],Post.here R ?_⟩
  have hn:¬(f+1000000<1000000):=Nat.not_lt.2 (Nat.le_add_left _ _)
  simp only[VR,if_neg hn,Nat.add_sub_cancel]
  exact⟨_,_,rfl,rfl,by simpa using Zmu T hcaps⟩
theorem ZPr{O:ZV}(hO:ZaO P O){bf:Nat->Bool}{an:Ann}{a:Act}{o:Oper}{own:Nat}{ins:Ins}(t:TypeId)(x:Operand)(ho:o.op=.makeInterface t x)(hc:Zae P an own (.makeInterface t x)=some ins)(T:TR I β tm a.tmps)(R:Rel base w0 I0 I β σ w)(hb:KLt base w0)
  {sq:Nat} (hsite:nsite ins≠0->σ[sq]?=some .free) {v:AVal} {c:Cls} (h:execI O bf tm σ sq ins=some (v,σ',c)):OpOk P (execOp a.eval o) w (Post base w0 I0 I β v σ'):=by
 rw[show execOp a.eval o=(do pure (.value (<-Instr.makeInterface t (a.eval x))):Sem Next)by unfold execOp;rw[ho]]
 simp only[Zae]at hc
 split at hc
 ·cases hc
 ·rename_i d hd hnd
  simp only[Xq]at hc
  obtain⟨y,hy,rfl⟩:=hc
  have hy':=ZaB T hy
  have hrun:∀ u,(Instr.makeInterface t u).run P w=.ok (.iface t u) w:=by
   intro u
   unfold Instr.makeInterface
   rw[Sem.run_bind,run_underlying hnd]
   simp only[Result.andThen_ok]
   cases d<;>first |rfl |exact absurd rfl (hd _)
  simp only[execI]at h
  split at h
  ·cases h
  ·cases h
  ·cases h
  ·simp only[Xb,Xd]at h
   obtain⟨rfl,rfl,rfl⟩:=h
   exact OpOk.val ⟨_,w,hrun _,Post.here R (by simp only[VR];exact⟨_,rfl,hy'⟩)⟩
 ·cases hc
theorem ZB0{O:ZV}(hO:ZaO P O){bf:Nat->Bool}{an:Ann}{a:Act}{o:Oper}{own:Nat}{ins:Ins}(x:Operand)(ho:o.op=.panic x)(hc:Zae P an own (.panic x)=some ins)(T:TR I β tm a.tmps)(R:Rel base w0 I0 I β σ w)(hb:KLt base w0)
  {sq:Nat} (hsite:nsite ins≠0->σ[sq]?=some .free) {v:AVal} {c:Cls} (h:execI O bf tm σ sq ins=some (v,σ',c)):OpR P (execOp a.eval o) w base w0 I0 I β v σ':=by
 rw[show execOp a.eval o=(do pure (.value (<-Instr.panic (a.eval x))):Sem Next)by unfold execOp;rw[ho]]
 simp only[Zae]at hc
 simp only[Xq]at hc
 obtain⟨y,hy,rfl⟩:=hc
 have hy':=ZaB T hy
 simp only[execI]at h
 split at h
 ·rename_i t1 x1 e
  rw[e]at hy'
  simp only[Xb,Xd]at h
  obtain⟨rfl,rfl,rfl⟩:=h
  refine XE ⟨_,rfl,Xr ⟨a.eval x,w,?_,Post.here R hy'⟩⟩
  simp only[VR]at hy'
  obtain⟨u,hu,_⟩:=hy'
  simp[hu,Instr.panic,goPanic]
 ·cases h
theorem ZMi{O:ZV}(hO:ZaO P O){bf:Nat->Bool}{an:Ann}{a:Act}{o:Oper}{own:Nat}{ins:Ins}(t:TypeId)(x:Operand)(ho:o.op=.range t x)(hc:Zae P an own (.range t x)=some ins)(T:TR I β tm a.tmps)(R:Rel base w0 I0 I β σ w)(hb:KLt base w0)
  {sq:Nat} (hsite:nsite ins≠0->σ[sq]?=some .free) {v:AVal} {c:Cls} (h:execI O bf tm σ sq ins=some (v,σ',c)):OpOk P (execOp a.eval o) w (Post base w0 I0 I β v σ'):=by
 rw[show execOp a.eval o=(do pure (.value (<-Instr.range t (a.eval x))):Sem Next)by unfold execOp;rw[ho]]
 simp only[Zae]at hc
 split at hc
 case h_2=>cases hc
 rename_i ht
 simp only[Xq]at hc
 obtain⟨y,hy,rfl⟩:=hc
 have hy':=ZaB T hy
 simp only[execI]at h
 split at h
 case h_2=>cases h
 rename_i l e
 simp only[Xb,Xd]at h
 obtain⟨rfl,rfl,rfl⟩:=h
 rw[e]at hy'
 simp only[VR]at hy'
 rw[hy'.1]
 exact OpOk.val (ZOq R hb ht (hsite (by simp[nsite])))
theorem ZVM{O:ZV}(hO:ZaO P O){bf:Nat->Bool}{an:Ann}{a:Act}{o:Oper}{own:Nat}{ins:Ins}(x:Operand)(str:Bool)(ho:o.op=.next x str)(hc:Zae P an own (.next x str)=some ins)(T:TR I β tm a.tmps)(R:Rel base w0 I0 I β σ w)(hb:KLt base w0)
  {sq:Nat} (hsite:nsite ins≠0->σ[sq]?=some .free) {v:AVal} {c:Cls} (h:execI O bf tm σ sq ins=some (v,σ',c)):OpOk P (execOp a.eval o) w (Post base w0 I0 I β v σ'):=by
 rw[show execOp a.eval o=(do pure (.value (<-Instr.next (a.eval x) str o.type)):Sem Next)by unfold execOp;rw[ho]]
 simp only[Zae]at hc
 cases str
 case false=>cases hc
 simp only[Xq]at hc
 obtain⟨y,hy,rfl⟩:=hc
 have hy':=ZaB T hy
 simp only[execI]at h
 split at h
 case h_2=>cases h
 rename_i t e
 rw[e]at hy'
 split at h
 case h_2=>cases h
 rename_i l p hs
 obtain⟨u,w',h1,h2⟩:=ZOd (P:=P) R hs hy' o.type
 split at h
 ·rename_i hp
  rw[if_pos hp]at h2
  simp only[Xb,Xd]at h
  obtain⟨rfl,rfl,rfl⟩:=h
  exact OpOk.val ⟨u,w',h1,h2⟩
 ·rename_i hp
  rw[if_neg hp]at h2
  simp only[Xb,Xd]at h
  obtain⟨rfl,rfl,rfl⟩:=h
  exact OpOk.val ⟨u,w',h1,h2⟩
theorem ZJv{O:ZV}(hO:ZaO P O){bf:Nat->Bool}{an:Ann}{a:Act}{o:Oper}{own:Nat}{ins:Ins}(t:TypeId)(r:Option Operand)(ho:o.op=.makeMap t r)(hc:Zae P an own (.makeMap t r)=some ins)(T:TR I β tm a.tmps)(R:Rel base w0 I0 I β σ w)(hb:KLt base w0)
  {sq:Nat} (hsite:nsite ins≠0->σ[sq]?=some .free) {v:AVal} {c:Cls} (h:execI O bf tm σ sq ins=some (v,σ',c)):OpOk P (execOp a.eval o) w (Post base w0 I0 I β v σ'):=by
 rw[show execOp a.eval o=(do pure (.value (<-Instr.makeMap t (r.map a.eval))):Sem Next)by unfold execOp;rw[ho]]
 simp only[Zae]at hc
 cases r with
 |some r=>cases hc
 |none =>
  injection hc with hc;subst hc
  simp only[execI,Xb,Xd]at h
  obtain⟨rfl,rfl,rfl⟩:=h
  exact OpOk.val (ZJI R hb t (hsite (by simp[nsite])))
theorem ZMe{O:ZV}(hO:ZaO P O){bf:Nat->Bool}{an:Ann}{a:Act}{o:Oper}{own:Nat}{ins:Ins}(t:TypeId)(x:Operand)(z:Operand)(ok:Bool)(ho:o.op=.lookup t x z ok)(hc:Zae P an own (.lookup t x z ok)=some ins)(T:TR I β tm a.tmps)(R:Rel base w0 I0 I β σ w)(hb:KLt base w0)
  {sq:Nat} (hsite:nsite ins≠0->σ[sq]?=some .free) {v:AVal} {c:Cls} (h:execI O bf tm σ sq ins=some (v,σ',c)):OpOk P (execOp a.eval o) w (Post base w0 I0 I β v σ'):=by
 rw[show execOp a.eval o=(do pure (.value (<-Instr.lookup t (a.eval x) (a.eval z) ok)):Sem Next)by unfold execOp;rw[ho]]
 simp only[Zae]at hc
 split at hc
 case h_2=>cases hc
 rename_i kc zv m k hmp hm hk
 injection hc with hc;subst hc
 simp only[execI]at h
 obtain⟨kt,et,d,ht,hdk,hd,hz⟩:=Zlf hmp
 obtain⟨rfl,u,h1,h2⟩:=ZNn R ht hdk hd hz (ZaB T hm) (ZaB T hk) h
 exact OpOk.val ⟨u,w,h1,Post.here R h2⟩
theorem ZRd{O:ZV}(hO:ZaO P O){bf:Nat->Bool}{an:Ann}{a:Act}{o:Oper}{own:Nat}{ins:Ins}(t:TypeId)(x:Operand)(z:Operand)(y:Operand)(ho:o.op=.mapUpdate t x z y)(hc:Zae P an own (.mapUpdate t x z y)=some ins)(T:TR I β tm a.tmps)(R:Rel base w0 I0 I β σ w)(hb:KLt base w0)
  {sq:Nat} (hsite:nsite ins≠0->σ[sq]?=some .free) {v:AVal} {c:Cls} (h:execI O bf tm σ sq ins=some (v,σ',c)):OpOk P (execOp a.eval o) w (Post base w0 I0 I β v σ'):=by
 rw[show execOp a.eval o=(do Instr.mapUpdate t (a.eval x) (a.eval z) (a.eval y);pure .skip:Sem Next)by unfold execOp;rw[ho]]
 simp only[Zae]at hc
 split at hc
 case h_2=>cases hc
 rename_i kc zv m k vv hmp hm hk hv
 injection hc with hc;subst hc
 simp only[execI]at h
 obtain⟨kt,et,d,ht,hdk,hd,hz⟩:=Zlf hmp
 obtain⟨rfl,w',h1,h2⟩:=Zvu R ht hdk hd (ZaB T hm) (ZaB T hk) (ZaB T hv) h
 exact OpOk.unit ⟨w',h1,Post.here h2 ZiD⟩
theorem ZLV{O:ZV}(hO:ZaO P O){bf:Nat->Bool}{an:Ann}{a:Act}{o:Oper}{own:Nat}{ins:Ins}(t:TypeId)(x:Operand)(z:Operand)(y:Operand)(ho:o.op=.insert t x z y)(hc:Zae P an own (.insert t x z y)=some ins)(T:TR I β tm a.tmps)(R:Rel base w0 I0 I β σ w)(hb:KLt base w0)
  {sq:Nat} (hsite:nsite ins≠0->σ[sq]?=some .free) {v:AVal} {c:Cls} (h:execI O bf tm σ sq ins=some (v,σ',c)):OpOk P (execOp a.eval o) w (Post base w0 I0 I β v σ'):=by
 rw[show execOp a.eval o=(do Instr.mapUpdate t (a.eval x) (a.eval z) (a.eval y);pure .skip:Sem Next)by unfold execOp;rw[ho]]
 simp only[Zae]at hc
 split at hc
 case h_2=>cases hc
 rename_i kc zv m k vv hmp hm hk hv
 injection hc with hc;subst hc
 simp only[execI]at h
 obtain⟨kt,et,d,ht,hdk,hd,hz⟩:=Zlf hmp
 obtain⟨rfl,w',h1,h2⟩:=Zvu R ht hdk hd (ZaB T hm) (ZaB T hk) (ZaB T hv) h
 exact OpOk.unit ⟨w',h1,Post.here h2 ZiD⟩
theorem ZQH{O:ZV}(hO:ZaO P O){bf:Nat->Bool}{an:Ann}{a:Act}{o:Oper}{own:Nat}{ins:Ins}(cl:Call)(ho:o.op=.call cl)(hc:Zae P an own (.call cl)=some ins)(T:TR I β tm a.tmps)(R:Rel base w0 I0 I β σ w)(hb:KLt base w0)
  {sq:Nat} (hsite:nsite ins≠0->σ[sq]?=some .free) {v:AVal} {c:Cls} (h:execI O bf tm σ sq ins=some (v,σ',c)):OpR P (execOp a.eval o) w base w0 I0 I β v σ':=by
 rw[show execOp a.eval o=(do let d <-resolve a.eval cl o.type;invoke d.target d.args:Sem Next)by unfold execOp;rw[ho]]
 simp only[Zae]at hc
 unfold Zzs at hc
 split at hc
 ·cases hc
 rename_i args hargs
 have hav:=Zmu T hargs
 obtain⟨callee,cargs,ctypes⟩:=cl
 simp only at hc hargs hav
 have hmap:(cargs.toList.map a.eval)=(cargs.map a.eval).toList:=by simp
 split at hc
 ·rename_i f
  injection hc with hc;subst hc
  simp only[execI]at h
  obtain⟨⟨fn,f1,f2,f3⟩,g2⟩:=ZsU hO R hb (vs:=cargs.map a.eval) (by rw[<-hmap];exact hav) (fun ho=>hsite (by simp[nsite,ho])) h
  exact OpR.of_call (by simp[resolve,Act.eval,Deferred.ofValue,invoke,Zl4 f1 f2 f3]) g2
 ·rename_i t
  injection hc with hc;subst hc
  simp only[execI]at h
  split at h
  ·rename_i f caps hf
   have hfv:=ZaB (x:=.tmp t) T rfl
   rw[hf]at hfv
   simp only[VR]at hfv
   obtain⟨fs,us,hus,h0,hcaps⟩:=hfv
   by_cases hlt:f<1000000
   ·simp only[if_pos hlt]at h hus h0
    subst h0
    obtain⟨⟨fn,f1,f2,f3⟩,g2⟩:=ZsU hO R hb (vs:=cargs.map a.eval++us) (by rw[Array.toList_append,<-hmap];exact ZcE hav (by simpa using hcaps)) (fun ho=>absurd ho (by decide)) h
    exact OpR.of_call (by simp[resolve,hus,Deferred.ofValue,invoke,Zl4 f1 f2 f3]) g2
   ·simp only[if_neg hlt]at h hus h0
    subst h0
    obtain⟨⟨fn,f1,f2,f3⟩,g2⟩:=ZsU hO R hb (vs:=fs++cargs.map a.eval) (by rw[Array.toList_append,<-hmap];exact ZcE (by simpa using hcaps) hav) (fun ho=>absurd ho (by decide)) h
    exact OpR.of_call (by simp[resolve,hus,Deferred.ofValue,invoke,Zl4 f1 f2 f3]) g2
  ·cases h
 ·refine Xr ?_
  split at hc
  ·rename_i t u x y hty
   split at hc
   ·rename_i k bytes z he
    obtain⟨e,i,vz,hu,hi,hik,hib,hvz,hz,hk,hby,hzl⟩:=Zj1 he
    obtain⟨hz1,hz2⟩:=ZfV (I:=I) (β:=β) hz
    have hzs:vz.cells.size=i.size:=by rw[ZhM (Zf8 hz) hz1,hzl,hik]
    have hargs2:∃ ox oy,cargs=#[ox,oy]/\Zaz ox=some x/\Zaz oy=some y:=by
     obtain⟨l⟩:=cargs
     match l,hargs with
     | [],hargs=>simp[ZcU]at hargs
     | [ox],hargs =>
      simp only[ZcU]at hargs
      split at hargs
      ·simp at hargs
      ·cases hargs
     | [ox,oy],hargs =>
      simp only[ZcU]at hargs
      split at hargs
      ·rename_i x1 hx1
       split at hargs
       ·rename_i l2 hl2
        split at hl2
        ·rename_i y1 hy1
         simp only[Xb]at hl2 hargs
         subst hl2
         simp only[XaG,and_true]at hargs
         obtain⟨rfl,rfl⟩:=hargs
         exact⟨ox,oy,rfl,hx1,hy1⟩
        ·cases hl2
       ·cases hargs
      ·cases hargs
     |ox::oy::oz::r,hargs=>have:=Za1 hav;simp at this
    obtain⟨ox,oy,rfl,hx,hy⟩:=hargs2
    have htys:ctypes=#[t,u]:=by
     obtain⟨l⟩:=ctypes
     simpa using hty
    subst htys
    have fin:ZjN P t u e i vz->ZaE σ sq k bytes (x.ev tm) (y.ev tm)=some (v,σ',c)->OpOk P (do let d <-resolve a.eval { callee:=.builtin .append,args:=#[ox,oy],argTypes:=#[t,u] } o.type;invoke d.target d.args) w (Post base w0 I0 I β v σ'):=by
     intro TT h
     rw[<-hik,<-hib]at h
     have hns:nsite ins≠0:=by
      split at hc
      ·injection hc with hc;subst hc;simp[nsite]
      ·split at hc
       ·injection hc with hc;subst hc;simp[nsite]
       ·cases hc
      ·cases hc
     obtain⟨vr,w1,h1,h2⟩:=ZLB (ty:=o.type) TT R hb (ZaB T hx) (ZaB T hy) (hsite hns) h
     exact Xr ⟨vr,w1,by simp[resolve,invoke,builtin,h1],h2⟩
    split at hc
    ·rename_i e' hu2
     injection hc with hc;subst hc
     simp only[execI]at h
     exact fin ⟨hu,Xr ⟨e',hu2⟩,hi,hvz,hzs,by omega,by omega⟩ h
    ·rename_i hu2
     split at hc
     ·injection hc with hc;subst hc
      simp only[execI]at h
      exact fin ⟨hu,XE hu2,hi,hvz,hzs,by omega,by omega⟩ h
     ·cases hc
    ·cases hc
   ·cases hc
  ·cases hc
 ·refine Xr ?_
  split at hc
  ·rename_i t x hty
   have hargs2:∃ ox,cargs=#[ox]/\Zaz ox=some x:=by
    obtain⟨l⟩:=cargs
    match l,hargs with
    | [],hargs=>simp[ZcU]at hargs
    | [ox],hargs =>
     simp only[ZcU]at hargs
     split at hargs
     ·rename_i x1 hx1
      simp only[Xb,XaG,and_true]at hargs
      subst hargs
      exact⟨ox,rfl,hx1⟩
     ·cases hargs
    |ox::oy::r,hargs =>
     have:=Za1 hav
     simp at this
   obtain⟨ox,rfl,hx⟩:=hargs2
   have htys:ctypes=#[t]:=by
    obtain⟨l⟩:=ctypes
    simpa using hty
   subst htys
   have hx':=ZaB T hx
   split at hc
   ·rename_i e hu
    injection hc with hc;subst hc
    simp only[execI]at h
    split at h
    ·rename_i b xs hh
     rw[hh]at hx';simp only[VR]at hx'
     obtain⟨A,cap,hv,_⟩:=hx'
     simp only[Xb,Xd]at h
     obtain⟨rfl,rfl,rfl⟩:=h
     refine Xr ⟨.int .i64 xs.length,w,?_,Post.here R (by simp only[VR])⟩
     simp[resolve,invoke,builtin,hv,Builtin.len_,run_underlying hu,goInt]
    ·rename_i t' g lo n hh
     rw[hh]at hx';simp only[VR]at hx'
     obtain⟨bi,_,hle,_,hv⟩:=hx'
     simp only[Xb,Xd]at h
     obtain⟨rfl,rfl,rfl⟩:=h
     refine Xr ⟨.int .i64 n,w,?_,Post.here R (by simp only[VR])⟩
     rcases hv with⟨b,_,hv⟩ |⟨_,hc0,A,hv⟩ |⟨_,_,hn0,A,hv⟩
     ·simp[resolve,invoke,builtin,hv,Builtin.len_,run_underlying hu,goInt]
     ·have : n=0:=by omega
      subst this
      simp[resolve,invoke,builtin,hv,Builtin.len_,run_underlying hu,goInt]
     ·subst hn0
      simp[resolve,invoke,builtin,hv,Builtin.len_,run_underlying hu,goInt]
    ·cases h
   ·rename_i hu
    injection hc with hc;subst hc
    simp only[execI]at h
    split at h
    ·rename_i l hh
     rw[hh]at hx';simp only[VR]at hx'
     simp only[Xb,Xd]at h
     obtain⟨rfl,rfl,rfl⟩:=h
     refine Xr ⟨.int .i64 l.length,w,?_,Post.here R (by simp only[VR])⟩
     have hsz:Wu ⟨l.toArray⟩=l.length:=by simp[Wu]
     simp[resolve,invoke,builtin,hx'.1,Builtin.len_,run_underlying hu,goInt,hsz]
    ·cases h
   ·rename_i kt et hu
    injection hc with hc;subst hc
    simp only[execI]at h
    obtain⟨rfl,u,h1,h2⟩:=ZQn R hu o.type hx' h
    exact Xr ⟨u,w,by simp[resolve,invoke,builtin,h1],Post.here R h2⟩
   ·cases hc
  ·cases hc
 ·refine Xr ?_
  split at hc
  ·rename_i t ts x y hty
   split at hc
   case h_2=>cases hc
   rename_i kc zv hmp
   injection hc with hc;subst hc
   obtain⟨kt,et,d,ht,hdk,hd,hz⟩:=Zlf hmp
   have hargs2:∃ ox oy,cargs=#[ox,oy]/\Zaz ox=some x/\Zaz oy=some y:=by
    obtain⟨l⟩:=cargs
    match l,hargs with
    | [],hargs=>simp[ZcU]at hargs
    | [ox],hargs =>
     simp only[ZcU]at hargs
     split at hargs
     ·simp at hargs
     ·cases hargs
    | [ox,oy],hargs =>
     simp only[ZcU]at hargs
     split at hargs
     ·rename_i x1 hx1
      split at hargs
      ·rename_i l2 hl2
       split at hl2
       ·rename_i y1 hy1
        simp only[Xb]at hl2 hargs
        subst hl2
        simp only[XaG,and_true]at hargs
        obtain⟨rfl,rfl⟩:=hargs
        exact⟨ox,oy,rfl,hx1,hy1⟩
       ·cases hl2
      ·cases hargs
     ·cases hargs
    |ox::oy::oz::r,hargs=>have:=Za1 hav;simp at this
   obtain⟨ox,oy,rfl,hx,hy⟩:=hargs2
   have htys:ctypes=(t::ts).toArray:=by
    obtain⟨l⟩:=ctypes
    simpa using hty
   subst htys
   simp only[execI]at h
   obtain⟨w',h1,rfl,h2⟩:=ZMa R ht hdk hd ts o.type (ZaB T hx) (ZaB T hy) h
   exact Xr ⟨.tuple #[],w',by simp[resolve,invoke,builtin,h1],Post.here h2 ZiD⟩
  ·cases hc
 ·refine Xr ?_
  split at hc
  ·rename_i t x hty
   have hargs2:∃ ox,cargs=#[ox]/\Zaz ox=some x:=by
    obtain⟨l⟩:=cargs
    match l,hargs with
    | [],hargs=>simp[ZcU]at hargs
    | [ox],hargs =>
     simp only[ZcU]at hargs
     split at hargs
     ·rename_i x1 hx1
      simp only[Xb,XaG,and_true]at hargs
      subst hargs
      exact⟨ox,rfl,hx1⟩
     ·cases hargs
    |ox::oy::r,hargs =>
     have:=Za1 hav
     simp at this
   obtain⟨ox,rfl,hx⟩:=hargs2
   have htys:ctypes=#[t]:=by
    obtain⟨l⟩:=ctypes
    simpa using hty
   subst htys
   split at hc
   ·rename_i k bytes z he
    injection hc with hc;subst hc
    simp only[execI]at h
    obtain⟨vr,w1,h1,h2⟩:=ZLh (ty:=o.type) R he (ZaB T hx) h
    exact Xr ⟨vr,w1,by simp[resolve,invoke,builtin,h1],h2⟩
   ·cases hc
  ·cases hc
 ·refine Xr ?_
  split at hc
  ·rename_i hl2
   injection hc with hc;subst hc
   simp only[execI]at h
   split at h
   ·rename_i k p k' q hh
    rw[hh]at hav
    simp only[VRs,VR]at hav
    obtain⟨v1,vs1,e1,rfl,v2,vs2,rfl,rfl,rfl⟩:=hav
    simp only[Xb,Xd]at h
    obtain⟨rfl,rfl,rfl⟩:=h
    have hca:cargs.map a.eval=#[.int k p,.int k' q]:=by
     apply Xbf
     simpa using e1
    refine Xr ⟨_,w,?_,Post.here R (by simp only[VR];rfl)⟩
    simp[resolve,invoke,builtin,hca,Builtin.max_,Builtin.max2]
   ·cases h
  ·cases hc
 ·refine Xr ?_
  split at hc
  ·rename_i hl2
   injection hc with hc;subst hc
   simp only[execI]at h
   split at h
   ·rename_i k p k' q hh
    rw[hh]at hav
    simp only[VRs,VR]at hav
    obtain⟨v1,vs1,e1,rfl,v2,vs2,rfl,rfl,rfl⟩:=hav
    simp only[Xb,Xd]at h
    obtain⟨rfl,rfl,rfl⟩:=h
    have hca:cargs.map a.eval=#[.int k p,.int k' q]:=by
     apply Xbf
     simpa using e1
    refine Xr ⟨_,w,?_,Post.here R (by simp only[VR];rfl)⟩
    simp[resolve,invoke,builtin,hca,Builtin.min_,Builtin.min2]
   ·cases h
  ·cases hc
 ·cases hc
theorem ZO2{O:ZV}(hO:ZaO P O){bf:Nat->Bool}{an:Ann}{a:Act}{o:Oper}{own:Nat}{ins:Ins}(hc:Zae P an own o.op=some ins)(T:TR I β tm a.tmps)(R:Rel base w0 I0 I β σ w)(hb:KLt base w0)
  {sq:Nat} (hsite:nsite ins≠0->σ[sq]?=some .free) {v:AVal} {c:Cls} (h:execI O bf tm σ sq ins=some (v,σ',c)):OpR P (execOp a.eval o) w base w0 I0 I β v σ':=by
 cases ho:o.op<;>rw[ho]at hc<;>first
  |exact Xr (ZUP hO _ ho hc T R hb hsite h)
  |exact Xr (ZVd hO _ ho hc T R hb hsite h)
  |exact Xr (ZOD hO _ _ _ ho hc T R hb hsite h)
  |exact Xr (ZD5 hO _ ho hc T R hb hsite h)
  |exact Xr (ZKL hO _ _ ho hc T R hb hsite h)
  |exact Xr (ZIw hO _ _ ho hc T R hb hsite h)
  |exact Xr (ZVg hO _ _ _ ho hc T R hb hsite h)
  |exact Xr (ZLI hO _ _ ho hc T R hb hsite h)
  |exact Xr (ZWG hO _ _ _ ho hc T R hb hsite h)
  |exact Xr (ZPD hO _ ho hc T R hb hsite h)
  |exact Xr (ZV1 hO _ _ _ _ _ ho hc T R hb hsite h)
  |exact Xr (ZWn hO _ _ _ ho hc T R hb hsite h)
  |exact Xr (ZMn hO _ _ _ ho hc T R hb hsite h)
  |exact Xr (ZGM hO _ _ _ _ _ ho hc T R hb hsite h)
  |exact Xr (ZOB hO _ _ _ ho hc T R hb hsite h)
  |exact Xr (ZV6 hO _ _ _ ho hc T R hb hsite h)
  |exact Xr (ZDG hO _ _ _ ho hc T R hb hsite h)
  |exact Xr (ZE9 hO _ _ _ ho hc T R hb hsite h)
  |exact Xr (ZHw hO _ _ ho hc T R hb hsite h)
  |exact Xr (ZRL hO _ _ _ ho hc T R hb hsite h)
  |exact Xr (ZEv hO _ _ _ ho hc T R hb hsite h)
  |exact Xr (ZPr hO _ _ ho hc T R hb hsite h)
  |exact ZB0 hO _ ho hc T R hb hsite h
  |exact Xr (ZMi hO _ _ ho hc T R hb hsite h)
  |exact Xr (ZVM hO _ _ ho hc T R hb hsite h)
  |exact Xr (ZJv hO _ _ ho hc T R hb hsite h)
  |exact Xr (ZMe hO _ _ _ _ ho hc T R hb hsite h)
  |exact Xr (ZRd hO _ _ _ _ ho hc T R hb hsite h)
  |exact Xr (ZLV hO _ _ _ _ ho hc T R hb hsite h)
  |exact ZQH hO _ ho hc T R hb hsite h
  |(simp only[Zae]at hc;cases hc;done)
end
end
section
open Go.RowKit
section
variable {O:ZV}{bf:Nat->Bool}{tm tm':Tms}{σ σ' σ2:Za}{sq:Nat}
theorem Opd.ev_congr{x:Opd}(h:∀ n∈x.reads,tget tm n=tget tm' n):x.ev tm=x.ev tm':=by
 cases x with
 |t n=>exact h n (by simp[Opd.reads])
 |c v=>rfl
theorem ZnE{xs:List Opd}(h:∀ n∈xs.flatMap Opd.reads,tget tm n=tget tm' n):(xs.map fun x=>x.ev tm)=xs.map fun x=>x.ev tm':=by
 apply XaC
 intro x hx
 exact Opd.ev_congr fun n hn=>h n (Wk.2 ⟨x,hx,hn⟩)
theorem Zkp{x:Option Opd}(h:∀ n∈Zif x,tget tm n=tget tm' n):(x.map fun x=>x.ev tm)=x.map fun x=>x.ev tm':=by
 cases x with
 |none=>rfl
 |some x=>simp only[X8];rw[Opd.ev_congr (x:=x) h]
theorem Zhb{ins:Ins}(h:∀ n∈ins.reads,tget tm n=tget tm' n):execI O bf tm σ sq ins=execI O bf tm' σ sq ins:=by
 cases ins with
 |alloc zs=>rfl
 |build zs ps =>
  have : (ps.map fun p=>(p.1,p.2.1,p.2.2.ev tm))=ps.map fun p=>(p.1,p.2.1,p.2.2.ev tm'):=by
   apply XaC
   intro p hp
   rw[Opd.ev_congr (x:=p.2.2) fun n hn=>h n (by simp only[Ins.reads];exact Wk.2 ⟨p,hp,hn⟩)]
  simp only[execI,this]
 |bslice own k n z ps =>
  have : (ps.map fun p=>p.2.ev tm)=ps.map fun p=>p.2.ev tm':=by
   apply XaC
   intro p hp
   rw[Opd.ev_congr (x:=p.2) fun n hn=>h n (by simp only[Ins.reads];exact Wk.2 ⟨p,hp,hn⟩)]
  simp only[execI,this]
 |rslice k n z ps =>
  have h0:∀ p∈ps,p.2.ev tm=p.2.ev tm':=fun p hp=>Opd.ev_congr (x:=p.2) fun n hn=>h n (by simp only[Ins.reads];exact Wk.2 ⟨p,hp,hn⟩)
  have h1:(ps.map fun p=>(p.1,p.2.ev tm))=ps.map fun p=>(p.1,p.2.ev tm'):=XaC fun p hp=>by rw[h0 p hp]
  have h2:(ps.all fun p=>(p.2.ev tm).cells.length==k&&(p.2.ev tm).cells.all ZX)=ps.all fun p=>(p.2.ev tm').cells.length==k&&(p.2.ev tm').cells.all ZX:=by
   rw[Bool.eq_iff_iff,XH,XH]
   exact⟨fun h p hp=>by rw[<-h0 p hp];exact h p hp,fun h p hp=>by rw[h0 p hp];exact h p hp⟩
  simp only[execI,h1,h2]
 |rng x=>simp only[execI,Opd.ev_congr (x:=x) h]
 |nxt x=>simp only[execI,Opd.ev_congr (x:=x) h]
 |mkmap=>rfl
 |mlen x=>simp only[execI,Opd.ev_congr (x:=x) h]
 |look kc z ok x y=>simp only[Ins.reads,Xv]at h;simp only[execI,Opd.ev_congr (x:=x) fun n hn=>h n (Xr hn),Opd.ev_congr (x:=y) fun n hn=>h n (XE hn)]
 |mdel kc x y=>simp only[Ins.reads,Xv]at h;simp only[execI,Opd.ev_congr (x:=x) fun n hn=>h n (Xr hn),Opd.ev_congr (x:=y) fun n hn=>h n (XE hn)]
 |mset kc x y z =>
  simp only[Ins.reads,Xv]at h
  simp only[execI,Opd.ev_congr (x:=x) fun n hn=>h n (Xr (Xr hn)),Opd.ev_congr (x:=y) fun n hn=>h n (Xr (XE hn)),Opd.ev_congr (x:=z) fun n hn=>h n (XE hn)]
 |mov x=>simp only[execI,Opd.ev_congr (x:=x) h]
 |box x=>simp only[execI,Opd.ev_congr (x:=x) h]
 |un op x=>simp only[execI,Opd.ev_congr (x:=x) h]
 |i2i k x=>simp only[execI,Opd.ev_congr (x:=x) h]
 |i2s x=>simp only[execI,Opd.ev_congr (x:=x) h]
 |clr k z x=>simp only[execI,Opd.ev_congr (x:=x) h]
 |same x=>simp only[execI,Opd.ev_congr (x:=x) h]
 |s2b x=>simp only[execI,Opd.ev_congr (x:=x) h]
 |b2s x=>simp only[execI,Opd.ev_congr (x:=x) h]
 |s2s x=>simp only[execI,Opd.ev_congr (x:=x) h]
 |faddr o x=>simp only[execI,Opd.ev_congr (x:=x) h]
 |field k o x=>simp only[execI,Opd.ev_congr (x:=x) h]
 |ext x i=>simp only[execI,Opd.ev_congr (x:=x) h]
 |len x=>simp only[execI,Opd.ev_congr (x:=x) h]
 |slen x=>simp only[execI,Opd.ev_congr (x:=x) h]
 |nilchk x=>simp only[execI,Opd.ev_congr (x:=x) h]
 |mki t x=>simp only[execI,Opd.ev_congr (x:=x) h]
 |panic x=>simp only[execI,Opd.ev_congr (x:=x) h]
 |ld k x=>simp only[execI,Opd.ev_congr (x:=x) h]
 |pick c a b =>
  simp only[Ins.reads,Xv]at h
  simp only[execI,Opd.ev_congr (x:=c) fun n hn=>h n (Xr (Xr hn)),Opd.ev_congr (x:=a) fun n hn=>h n (Xr (XE hn)),Opd.ev_congr (x:=b) fun n hn=>h n (XE hn)]
 |st k x y=>simp only[Ins.reads,Xv]at h;simp only[execI,Opd.ev_congr (x:=x) fun n hn=>h n (Xr hn),Opd.ev_congr (x:=y) fun n hn=>h n (XE hn)]
 |bin k x y=>simp only[Ins.reads,Xv]at h;simp only[execI,Opd.ev_congr (x:=x) fun n hn=>h n (Xr hn),Opd.ev_congr (x:=y) fun n hn=>h n (XE hn)]
 |iaddr k x y=>simp only[Ins.reads,Xv]at h;simp only[execI,Opd.ev_congr (x:=x) fun n hn=>h n (Xr hn),Opd.ev_congr (x:=y) fun n hn=>h n (XE hn)]
 |aaddr k n x y=>simp only[Ins.reads,Xv]at h;simp only[execI,Opd.ev_congr (x:=x) fun n hn=>h n (Xr hn),Opd.ev_congr (x:=y) fun n hn=>h n (XE hn)]
 |sindex x y=>simp only[Ins.reads,Xv]at h;simp only[execI,Opd.ev_congr (x:=x) fun n hn=>h n (Xr hn),Opd.ev_congr (x:=y) fun n hn=>h n (XE hn)]
 |aindex s k n x y=>simp only[Ins.reads,Xv]at h;simp only[execI,Opd.ev_congr (x:=x) fun n hn=>h n (Xr hn),Opd.ev_congr (x:=y) fun n hn=>h n (XE hn)]
 |app k b z x y=>simp only[Ins.reads,Xv]at h;simp only[execI,Opd.ev_congr (x:=x) fun n hn=>h n (Xr hn),Opd.ev_congr (x:=y) fun n hn=>h n (XE hn)]
 |mkslice k b z x y=>simp only[Ins.reads,Xv]at h;simp only[execI,Opd.ev_congr (x:=x) fun n hn=>h n (Xr hn),Opd.ev_congr (x:=y) fun n hn=>h n (XE hn)]
 |beq k x y=>simp only[Ins.reads,Xv]at h;simp only[execI,Opd.ev_congr (x:=x) fun n hn=>h n (Xr hn),Opd.ev_congr (x:=y) fun n hn=>h n (XE hn)]
 |peq k x y=>simp only[Ins.reads,Xv]at h;simp only[execI,Opd.ev_congr (x:=x) fun n hn=>h n (Xr hn),Opd.ev_congr (x:=y) fun n hn=>h n (XE hn)]
 |eqv k ks x y=>simp only[Ins.reads,Xv]at h;simp only[execI,Opd.ev_congr (x:=x) fun n hn=>h n (Xr hn),Opd.ev_congr (x:=y) fun n hn=>h n (XE hn)]
 |ieq k x y=>simp only[Ins.reads,Xv]at h;simp only[execI,Opd.ev_congr (x:=x) fun n hn=>h n (Xr hn),Opd.ev_congr (x:=y) fun n hn=>h n (XE hn)]
 |slice k x lo hi mx =>
  simp only[Ins.reads,Xv]at h
  simp only[execI,Opd.ev_congr (x:=x) fun n hn=>h n (Xr (Xr (Xr hn))),Zkp (x:=lo) fun n hn=>h n (Xr (Xr (XE hn))),Zkp (x:=hi) fun n hn=>h n (Xr (XE hn)),Zkp (x:=mx) fun n hn=>h n (XE hn)]
 |sslice x lo hi =>
  simp only[Ins.reads,Xv]at h
  simp only[execI,Opd.ev_congr (x:=x) fun n hn=>h n (Xr (Xr hn)),Zkp (x:=lo) fun n hn=>h n (Xr (XE hn)),Zkp (x:=hi) fun n hn=>h n (XE hn)]
 |mm m xs=>simp only[Ins.reads]at h;simp only[execI,ZnE h]
 |call f own vw xs=>simp only[Ins.reads]at h;simp only[execI,ZnE h]
 |mkfn f xs=>simp only[Ins.reads]at h;simp only[execI,ZnE h]
 |callv x xs =>
  simp only[Ins.reads,Xv]at h
  simp only[execI,Opd.ev_congr (x:=x) fun n hn=>h n (Xr hn),ZnE (xs:=xs) fun n hn=>h n (XE hn)]
def Agree(σ σ2:Za)(ts:List Nat):Prop:=∀ t∈ts,σ2[t]?=σ[t]?
theorem Agree.left{ts us:List Nat}(h:Agree σ σ2 (ts++us)):Agree σ σ2 ts:=fun t ht=>h t (by simp[ht])
theorem Agree.right{ts us:List Nat}(h:Agree σ σ2 (ts++us)):Agree σ σ2 us:=fun t ht=>h t (by simp[ht])
theorem Zh8{a:AVal}{xs:List AVal}{ts:List Nat}(h:ZY σ a=some (xs,ts))(hA:Agree σ σ2 ts):ZY σ2 a=some (xs,ts):=by
 unfold ZY at h⊢
 split at h
 ·exact h
 ·exact h
 ·rename_i t g lo n
  have ht:t∈ts:=by
   split at h
   ·split at h
    ·simp only[Xb,Xd]at h;rw[<-h.2];simp
    ·cases h
   ·split at h
    ·simp only[Xb,Xd]at h;rw[<-h.2];simp
    ·cases h
   ·cases h
  rw[hA t ht]
  exact h
 ·cases h
theorem ZyQ{a y:AVal}{ts:List Nat}(h:ZK σ a=some (y,ts))(hA:Agree σ σ2 ts):ZK σ2 a=some (y,ts):=by
 unfold ZK at h⊢
 split at h
 case h_2 =>
  split at h
  ·rename_i he
   simp only[Xb,Xd]at h
   obtain⟨rfl,rfl⟩:=h
   rw[Zh8 he hA]
  ·cases h
 all_goals exact h
theorem ZA1:∀ {cs ys:List AVal} {ts:List Nat},Zat σ cs=some (ys,ts)->Agree σ σ2 ts->Zat σ2 cs=some (ys,ts)
 | [],ys,ts,h,_=>h
 |c::cs,ys,ts,h,hA=>by
  simp only[Zat]at h⊢
  split at h
  ·rename_i h1
   split at h
   ·rename_i h2
    simp only[Xb,Xd]at h
    obtain⟨rfl,rfl⟩:=h
    rw[ZyQ h1 hA.left]
    simp only
    rw[ZA1 h2 hA.right]
   ·cases h
  ·cases h
theorem ZXM{a y:AVal}{ts:List Nat}(h:ZP σ a=some (y,ts))(hA:Agree σ σ2 ts):ZP σ2 a=some (y,ts):=by
 unfold ZP at h⊢
 split at h
 ·split at h
  ·rename_i h1
   simp only[Xb,Xd]at h
   obtain⟨rfl,rfl⟩:=h
   rw[ZA1 h1 hA]
  ·cases h
 ·exact ZyQ h hA
theorem Zq8:∀ {cs ys:List AVal} {ts:List Nat},viewAs σ cs=some (ys,ts)->Agree σ σ2 ts->viewAs σ2 cs=some (ys,ts)
 | [],ys,ts,h,_=>h
 |c::cs,ys,ts,h,hA=>by
  simp only[viewAs]at h⊢
  split at h
  ·rename_i h1
   split at h
   ·rename_i h2
    simp only[Xb,Xd]at h
    obtain⟨rfl,rfl⟩:=h
    rw[ZXM h1 hA.left]
    simp only
    rw[Zq8 h2 hA.right]
   ·cases h
  ·cases h
theorem ZxD{a y:AVal}{ts:List Nat}(h:Zdc σ a=some (y,ts))(hA:Agree σ σ2 ts):Zdc σ2 a=some (y,ts):=by
 unfold Zdc at h⊢
 split at h
 case h_2 =>
  split at h
  ·rename_i he
   simp only[Xb,Xd]at h
   obtain⟨rfl,rfl⟩:=h
   rw[Zh8 he hA]
  ·cases h
 all_goals exact h
theorem ZxE:∀ {cs ys:List AVal} {ts:List Nat},Zc2 σ cs=some (ys,ts)->Agree σ σ2 ts->Zc2 σ2 cs=some (ys,ts)
 | [],ys,ts,h,_=>h
 |c::cs,ys,ts,h,hA=>by
  simp only[Zc2]at h⊢
  split at h
  ·rename_i h1
   split at h
   ·rename_i h2
    simp only[Xb,Xd]at h
    obtain⟨rfl,rfl⟩:=h
    rw[ZxD h1 hA.left]
    simp only
    rw[ZxE h2 hA.right]
   ·cases h
  ·cases h
theorem ZSR{a y:AVal}{ts:List Nat}(h:showA σ a=some (y,ts))(hA:Agree σ σ2 ts):showA σ2 a=some (y,ts):=by
 unfold showA at h⊢
 split at h
 ·split at h
  ·rename_i h1
   simp only[Xb,Xd]at h
   obtain⟨rfl,rfl⟩:=h
   rw[ZxE h1 hA]
  ·cases h
 ·exact ZxD h hA
theorem Zsn:∀ {cs ys:List AVal} {ts:List Nat},showAs σ cs=some (ys,ts)->Agree σ σ2 ts->showAs σ2 cs=some (ys,ts)
 | [],ys,ts,h,_=>h
 |c::cs,ys,ts,h,hA=>by
  simp only[showAs]at h⊢
  split at h
  ·rename_i h1
   split at h
   ·rename_i h2
    simp only[Xb,Xd]at h
    obtain⟨rfl,rfl⟩:=h
    rw[ZSR h1 hA.left]
    simp only
    rw[Zsn h2 hA.right]
   ·cases h
  ·cases h
def Zbv(σ:Za)(s:Nat):Option ZO->Za
 |none=>σ
 |some b=>σ.set s b
def ZfH(σ:Za)(ts:List Nat):Prop:=∀ t∈ts,∃ x,σ[t]?=some x/\x≠.free
theorem Rowy.nonfree{ts:List Nat}(h:Rowy σ ts):ZfH σ ts:=by
 intro t ht
 obtain⟨g,k,xs,h |h⟩:=h t ht
 ·exact⟨_,h,by simp⟩
 ·exact⟨_,h,by simp⟩
theorem Zeo:ZfH σ []:=fun t ht=>by simp at ht
theorem ZtR{t:Nat}{x:ZO}(h:σ[t]?=some x)(hx:x≠.free):ZfH σ [t]:=fun t' ht=>by
 simp at ht;subst ht;exact⟨x,h,hx⟩
def Framed(f:Za->Option (AVal×Za×Cls))(σ:Za)(sq ns:Nat)(v:AVal)(σ':Za)(c:Cls):Prop :=
 ∃ ob,σ'=Zbv σ sq ob/\(ob.isSome=true->ns≠0)/\ob≠some .free/\ZfH σ c.rd/\∀ σ2,Agree σ σ2 c.rd->f σ2=some (v,Zbv σ2 sq ob,c)
theorem Framed.pure{f:Za->Option (AVal×Za×Cls)}{v:AVal}{c:Cls}{ns:Nat}(hr:c.rd=[])(hf:∀ σ2,f σ2=some (v,σ2,c)):Framed f σ sq ns v σ c :=
 ⟨none,rfl,by simp,by simp,by rw[hr];exact Zeo,fun σ2 _=>hf σ2⟩
theorem ZTY{kc:Nat}{z:AVal}{ok:Bool}{m k v:AVal}{c:Cls}{ns:Nat}(h:Zf6 σ kc z ok m k=some (v,σ',c)):Framed (fun σ=>Zf6 σ kc z ok m k) σ sq ns v σ' c:=by
 unfold Zf6 at h
 split at h
 case isFalse=>cases h
 rename_i hk
 split at h
 ·simp only[Xb,Xd]at h
  obtain⟨rfl,rfl,rfl⟩:=h
  exact Framed.pure rfl fun σ2=>by simp only[Zf6];rw[if_pos hk]
 ·rename_i t
  split at h
  case h_2=>cases h
  rename_i es hs
  have hnf:ZfH σ [t]:=fun u hu=>by rw[Wf]at hu;subst hu;exact⟨_,hs,by simp⟩
  split at h
  ·rename_i j y hf
   simp only[Xb,Xd]at h
   obtain⟨rfl,rfl,rfl⟩:=h
   refine⟨none,rfl,by simp,by simp,hnf,fun σ2 hA=>?_⟩
   have e2:σ2[t]?=some (.map es):=by rw[hA t (by simp)];exact hs
   simp only[Zf6,e2,hf,Zbv]
   rw[if_pos hk]
  ·rename_i hf
   simp only[Xb,Xd]at h
   obtain⟨rfl,rfl,rfl⟩:=h
   refine⟨none,rfl,by simp,by simp,hnf,fun σ2 hA=>?_⟩
   have e2:σ2[t]?=some (.map es):=by rw[hA t (by simp)];exact hs
   simp only[Zf6,e2,hf,Zbv]
   rw[if_pos hk]
  ·cases h
 ·cases h
theorem ZN3{m v:AVal}{c:Cls}{ns:Nat}(h:Zhg σ m=some (v,σ',c)):Framed (fun σ=>Zhg σ m) σ sq ns v σ' c:=by
 unfold Zhg at h
 split at h
 ·simp only[Xb,Xd]at h
  obtain⟨rfl,rfl,rfl⟩:=h
  exact Framed.pure rfl fun σ2=>rfl
 ·rename_i t
  split at h
  case h_2=>cases h
  rename_i es hs
  simp only[Xb,Xd]at h
  obtain⟨rfl,rfl,rfl⟩:=h
  refine⟨none,rfl,by simp,by simp,fun u hu=>by rw[Wf]at hu;subst hu;exact⟨_,hs,by simp⟩,fun σ2 hA=>?_⟩
  have e2:σ2[t]?=some (.map es):=by rw[hA t (by simp)];exact hs
  simp only[Zhg,e2,Zbv]
 ·cases h
theorem ZIb{k:Option Nat}{a v:AVal}{c:Cls}{ns:Nat}(h:ldA σ k a=some (v,σ',c)):Framed (fun σ=>ldA σ k a) σ sq ns v σ' c:=by
 have h0:=h
 unfold ldA at h
 have fin:∀ t,σ'=σ->c.rd=[t]->(∃ x,σ[t]?=some x/\x≠.free)->(∀ σ2:Za,σ2[t]?=σ[t]?->ldA σ2 k a=(ldA σ k a).map fun p=>(p.1,σ2,p.2.2))->Framed (fun σ=>ldA σ k a) σ sq ns v σ' c:=by
  intro t e1 e2 ⟨x,hx,hne⟩ hf
  subst e1
  refine⟨none,rfl,by simp,by simp,by rw[e2];exact ZtR hx hne,fun σ2 hA=>?_⟩
  rw[e2]at hA
  simp only
  rw[hf σ2 (hA t (by simp)),h0]
  rfl
 split at h
 ·rename_i t o
  split at h
  ·rename_i cs hs
   split at h
   ·rename_i v' hp
    simp only[Xb,Xd]at h
    obtain⟨rfl,rfl,rfl⟩:=h
    exact fin t rfl rfl ⟨_,hs,by simp⟩ (fun σ2 h2=>by simp only[ldA,h2,hs,hp,X8])
   ·cases h
  ·cases h
 ·rename_i t g i o
  split at h
  ·rename_i g' kk xs hs
   split at h
   ·rename_i e
    split at h
    ·rename_i x hx
     split at h
     ·rename_i v' hp
      simp only[Xb,Xd]at h
      obtain⟨rfl,rfl,rfl⟩:=h
      exact fin t rfl rfl ⟨_,hs,by simp⟩ (fun σ2 h2=>by simp only[ldA,h2,hs,e,if_true,hx,hp,X8])
     ·cases h
    ·cases h
   ·cases h
  ·rename_i g' kk xs hs
   split at h
   ·rename_i e
    split at h
    ·rename_i x hx
     split at h
     ·rename_i v' hp
      simp only[Xb,Xd]at h
      obtain⟨rfl,rfl,rfl⟩:=h
      exact fin t rfl rfl ⟨_,hs,by simp⟩ (fun σ2 h2=>by simp only[ldA,h2,hs,e,if_true,hx,hp,X8])
     ·cases h
    ·cases h
   ·cases h
  ·rename_i g' kk xs hs
   split at h
   ·rename_i e
    split at h
    ·rename_i x hx
     split at h
     ·rename_i v' hp
      simp only[Xb,Xd]at h
      obtain⟨rfl,rfl,rfl⟩:=h
      exact fin t rfl rfl ⟨_,hs,by simp⟩ (fun σ2 h2=>by simp only[ldA,h2,hs,e,if_true,hx,hp,X8])
     ·cases h
    ·cases h
   ·cases h
  ·cases h
 ·rename_i cs o
  split at h
  ·rename_i v' hp
   simp only[Xb,Xd]at h
   obtain⟨rfl,rfl,rfl⟩:=h
   exact Framed.pure rfl (fun σ2=>by simp only[ldA,hp])
  ·cases h
 ·cases h
theorem ZKv{k:Nat}{x i v:AVal}{c:Cls}{ns:Nat}(h:Zb9 σ k x i=some (v,σ',c)):Framed (fun σ=>Zb9 σ k x i) σ sq ns v σ' c:=by
 have h0:=h
 unfold Zb9 at h
 split at h
 case h_2=>cases h
 rename_i kk ii
 split at h
 case isFalse=>cases h
 rename_i hi
 split at h
 ·rename_i b xs
  split at h
  ·rename_i y hy
   split at h
   ·rename_i hk
    simp only[Xb,Xd]at h
    obtain⟨rfl,rfl,rfl⟩:=h
    exact Framed.pure rfl (fun σ2=>by simp only[Zb9,hi,if_true,hy,hk])
   ·cases h
  ·cases h
 ·rename_i t g p n
  split at h
  case isFalse=>cases h
  rename_i hn
  have fin:σ'=σ->c.rd=[t]->(∃ x,σ[t]?=some x/\x≠.free)->Framed (fun σ=>Zb9 σ k (.sl t g p n) (.int kk ii)) σ sq ns v σ' c:=by
   intro e1 e2 ⟨x,hx,hne⟩
   subst e1
   refine⟨none,rfl,by simp,by simp,by rw[e2];exact ZtR hx hne,fun σ2 hA=>?_⟩
   rw[e2]at hA
   have h2:=hA t (by simp)
   simp only[Zb9,hi,if_true,hn]at h0 ⊢
   rw[h2]
   split at h0
   ·split at h0
    ·rename_i hc
     simp only[Xb,Xd]at h0
     obtain⟨rfl,_,rfl⟩:=h0
     rename_i hs
     simp only[hc,and_self,if_true]
     rfl
    ·cases h0
   ·split at h0
    ·rename_i hc
     simp only[Xb,Xd]at h0
     obtain⟨rfl,_,rfl⟩:=h0
     rename_i hs
     simp only[hc,and_self,if_true]
     rfl
    ·cases h0
   ·split at h0
    ·rename_i hc
     simp only[Xb,Xd]at h0
     obtain⟨rfl,_,rfl⟩:=h0
     rename_i hs
     simp only[hc,and_self,if_true]
     rfl
    ·cases h0
   ·cases h0
  split at h
  ·rename_i hs
   split at h
   ·simp only[Xb,Xd]at h
    exact fin h.2.1.symm (by rw[<-h.2.2]) ⟨_,hs,by simp⟩
   ·cases h
  ·rename_i hs
   split at h
   ·simp only[Xb,Xd]at h
    exact fin h.2.1.symm (by rw[<-h.2.2]) ⟨_,hs,by simp⟩
   ·cases h
  ·rename_i hs
   split at h
   ·simp only[Xb,Xd]at h
    exact fin h.2.1.symm (by rw[<-h.2.2]) ⟨_,hs,by simp⟩
   ·cases h
  ·cases h
 ·cases h
end
end
section
open Go.RowKit
section
variable {O:ZV}{bf:Nat->Bool}{tm tm':Tms}{σ σ' σ2:Za}{sq:Nat}
theorem Framed.one{f:Za->Option (AVal×Za×Cls)}{v:AVal}{c:Cls}{ns t:Nat}(hr:c.rd=[t])(hn:∃ x,σ[t]?=some x/\x≠.free)(hf:∀ σ2:Za,σ2[t]?=σ[t]?->f σ2=some (v,σ2,c)):Framed f σ sq ns v σ c:=by
 obtain⟨x,hx,hne⟩:=hn
 exact⟨none,rfl,by simp,by simp,by rw[hr];exact ZtR hx hne,fun σ2 hA=>hf σ2 (hA t (by rw[hr];simp))⟩
theorem ZTl{k:Nat}{x v:AVal}{lo hi mx:Option AVal}{c:Cls}{ns:Nat}(h:ZbI σ k x lo hi mx=some (v,σ',c))(hw:c.wr=[]):Framed (fun σ=>ZbI σ k x lo hi mx) σ sq ns v σ' c:=by
 unfold ZbI at h
 split at h
 ·rename_i b xs
  split at h
  ·cases h
  rename_i m hm
  split at h
  ·cases h
  rename_i h' hh
  split at h
  ·cases h
  rename_i l hl
  split at h
  case isFalse=>cases h
  rename_i hk0
  split at h
  ·rename_i hmx
   simp only[Xb,Xd]at h
   obtain⟨rfl,rfl,rfl⟩:=h
   exact Framed.pure rfl (fun σ2=>by simp only[ZbI,hm,hh,hl,hk0,if_true,hmx])
  ·rename_i hmx
   simp only[Xb,Xd]at h
   obtain⟨rfl,rfl,rfl⟩:=h
   exact Framed.pure rfl (fun σ2=>by simp only[ZbI,hm,hh,hl,hk0,if_true,hmx,if_false,Xj])
 ·rename_i t g p n
  split at h
  ·cases h
  rename_i els hels
  have hnf:∃ x,σ[t]?=some x/\x≠.free:=by
   simp only[ZY]at hels
   split at hels
   ·rename_i hs;exact⟨_,hs,by simp⟩
   ·rename_i hs;exact⟨_,hs,by simp⟩
   ·cases hels
  have hel2:∀ σ2:Za,σ2[t]?=σ[t]?->ZY σ2 (.sl t g p n)=some els:=by
   intro σ2 h2
   rw[<-hels]
   simp only[ZY,h2]
  split at h
  ·rename_i m0
   split at h
   ·rename_i q1 hq1
    split at h
    ·rename_i q2 hq2
     split at h
     ·rename_i q3 hq3
      simp only[Xb,Xd]at h
      obtain⟨rfl,rfl,rfl⟩:=h
      exact Framed.one rfl hnf (fun σ2 h2=>by simp only[ZbI,hel2 σ2 h2,hq1,hq2,hq3])
     ·cases h
    ·cases h
   ·rename_i hq0
    split at h
    ·rename_i q1 hq1
     split at h
     ·rename_i q2 hq2
      split at h
      ·rename_i q3 hq3
       simp only[Xb,Xd]at h
       obtain⟨rfl,rfl,rfl⟩:=h
       exact Framed.one rfl hnf (fun σ2 h2=>by simp only[ZbI,hel2 σ2 h2,hq0,hq1,hq2,hq3])
      ·cases h
     ·cases h
    ·cases h
  ·split at h
   ·rename_i g' k' xs hs
    split at h
    case isFalse=>cases h
    rename_i hkk
    split at h
    ·cases h
    rename_i h' hh
    split at h
    ·cases h
    rename_i l hl
    simp only[Xb,Xd]at h
    obtain⟨rfl,rfl,rfl⟩:=h
    exact Framed.one rfl hnf (fun σ2 h2=>by simp only[ZbI,hel2 σ2 h2,h2,hs,hkk,if_true,hh,hl])
   ·rename_i g' k' xs hs
    split at h
    case isFalse=>cases h
    rename_i hkk
    split at h
    ·cases h
    rename_i h' hh
    split at h
    ·cases h
    rename_i l hl
    simp only[Xb,Xd]at h
    obtain⟨rfl,rfl,rfl⟩:=h
    exact Framed.one rfl hnf (fun σ2 h2=>by simp only[ZbI,hel2 σ2 h2,h2,hs,hkk,if_true,hh,hl])
   ·cases h
 ·cases h
theorem ZPA{k bytes:Nat}{x y v:AVal}{c:Cls}(h:ZgP σ sq k bytes x y=some (v,σ',c)):c.any=true:=by
 unfold ZgP at h
 repeat' (split at h)
 all_goals first
  |(cases h;done)
  |(simp only[Xb,Xd]at h;rw[<-h.2.2])
theorem ZVi{k bytes:Nat}{x y v:AVal}{c:Cls}(h:ZaE σ sq k bytes x y=some (v,σ',c))(hw:c.wr=[])(ha:c.any=false):Framed (fun σ=>ZaE σ sq k bytes x y) σ sq 1 v σ' c:=by
 unfold ZaE at h
 split at h
 ·rw[ZPA h]at ha;cases ha
 rename_i ys us he
 split at h
 case isFalse=>cases h
 rename_i hk
 have hnf:=(Zma he).nonfree
 split at h
 ·split at h
  ·rename_i hb
   simp only[Xb,Xd]at h
   obtain⟨rfl,rfl,rfl⟩:=h
   refine⟨some (.row 0 k ys),rfl,by simp,by simp,hnf,fun σ2 hA=>?_⟩
   simp only[ZaE,Zh8 he hA,hk,if_true,hb,Zbv]
  ·cases h
 ·rename_i x0 xs0
  split at h
  ·rename_i hb
   split at h
   ·simp only[Xb,Xd]at h
    obtain⟨rfl,rfl,rfl⟩:=h
    refine⟨none,rfl,by simp,by simp,hnf,fun σ2 hA=>?_⟩
    simp only[ZaE,Zh8 he hA,hk,if_true,Zbv]
    rw[if_pos hb]
   ·rename_i y0 ys0
    simp only[Xb,Xd]at h
    obtain⟨rfl,rfl,rfl⟩:=h
    refine⟨some (.row 0 k ((x0::xs0)++(y0::ys0))),rfl,by simp,by simp,hnf,fun σ2 hA=>?_⟩
    simp only[ZaE,Zh8 he hA,hk,if_true,Zbv]
    rw[if_pos hb]
  ·cases h
 ·split at h
  ·split at h
   ·split at h
    ·simp only[Xb,Xd]at h
     rw[<-h.2.2]at hw;simp at hw
    ·split at h
     ·simp only[Xb,Xd]at h
      rw[<-h.2.2]at hw;simp at hw
     ·cases h
   ·cases h
  ·cases h
 ·cases h
theorem Zu2{σ:Za}{vs:List AVal}(h:Zs σ 1000 (Zt vs) []=[]):Zt vs=[]:=by
 cases e:Zt vs with
 |nil=>rfl
 |cons t r =>
  rw[e]at h
  simp only[Zs,W4,Xj,if_false,List.nil_append]at h
  obtain⟨_,r',hr⟩:=Zkn (σ:=σ) 999 (Zx (σ.getD t .free)++r) [t] (by simp)
  rw[hr]at h
  simp at h
theorem Zyp{f own:Nat}{view:Bool}{args:List AVal}{v:AVal}{c:Cls}{ns:Nat}(hns:own=1->ns≠0)(h:Zj O bf σ sq f own view args=some (v,σ',c))(hw:c.wr=[])(ha:c.any=false):Framed (fun σ=>Zj O bf σ sq f own view args) σ sq ns v σ' c:=by
 unfold Zj at h
 split at h
 ·cases h
 rename_i xs ts hs
 have hnf:ZfH σ ts:=by
  unfold ZbS at hs
  split at hs
  ·simp only[Xb,Xd]at hs
   rw[<-hs.2];exact Zeo
  ·exact(ZnA hs).nonfree
 have hag:∀ σ2,Agree σ σ2 ts->ZbS (bf f) σ2 args=some (xs,ts):=by
  intro σ2 hA
  unfold ZbS at hs ⊢
  split at hs
  ·rename_i hb;rw[if_pos hb];exact hs
  ·rename_i hb;rw[if_neg hb];exact Zsn hs hA
 generalize hids:Zs (Zr σ ts) 1000 (Zt xs) []=ids at h
 unfold ZbK at h
 split at h
 case isFalse=>cases h
 generalize hq:Z3 view ids.length (O f (Zh (Zk (Zr σ ts) 0 ids) xs) (Zn (Zr σ ts) 0 ids (Zk (Zr σ ts) 0 ids) ids 0))=q at h
 cases q with
 |none=>simp only[ZaA]at h;cases h
 |some q =>
  obtain⟨r,hp⟩:=q
  simp only[ZaA]at h
  split at h
  ·rename_i hc
   simp only[Xk,W8]at hc
   obtain⟨rfl,rfl⟩:=hc
   have hrl:=Zu2 hids
   have hrho:∀ σ:Za,Zk σ 0 []=fun _ _=>none:=fun σ=>by funext t g;simp[Zk,ZI]
   have hall:∀ σ2,Agree σ σ2 ts->Zj O bf σ2 sq f own view args=ZaA σ2 (Zr σ2 ts) [] ts sq own (some (r,[])):=by
    intro σ2 hA
    unfold Zj
    rw[hag σ2 hA]
    simp only
    rw[hrl]
    have h0:Zs (Zr σ2 ts) 1000 [] []=[]:=rfl
    rw[h0]
    unfold ZbK
    simp only[Ws,if_true]
    rw[hrho]
    rw[hrho]at hq
    simp only[Zn]at hq ⊢
    rw[hq]
   split at h
   ·rename_i hf
    simp only[Xb,Xd]at h
    obtain⟨rfl,rfl,rfl⟩:=h
    refine⟨none,rfl,by simp,by simp,hnf,fun σ2 hA=>?_⟩
    simp only
    rw[hall σ2 hA]
    simp only[ZaA,Xai,Wg,if_true,hf,Zbv]
   split at h
   ·rename_i hf hap
    simp only[Xb,Xd]at h
    obtain⟨rfl,rfl,rfl⟩:=h
    refine⟨none,rfl,by simp,by simp,hnf,fun σ2 hA=>?_⟩
    have hap2:ZcY σ2 ts r=true:=by
     unfold ZcY at hap ⊢
     simp only[Xk]at hap ⊢
     refine⟨hap.1,XH.2 fun t ht=>?_⟩
     have:=XH.1 hap.2 t ht
     unfold Zgk at this ⊢
     rw[hA t ht];exact this
    simp only
    rw[hall σ2 hA]
    simp only[ZaA,Xai,Wg,if_true,hf,hap2,Zbv,if_false,Xj]
   ·rename_i hf hap
    simp only[Xb,Xd]at h
    obtain⟨rfl,rfl,rfl⟩:=h
    simp only at hw
    subst hw
    refine⟨none,rfl,by simp,by simp,hnf,fun σ2 hA=>?_⟩
    simp only
    rw[hall σ2 hA]
    simp only[ZaA,Xai,Wg,if_true,hf,Zbv,Zr,if_false,Xj,ZcY,Xai,Bool.not_true,Bool.false_and]
  ·rename_i hne
   split at h
   ·rename_i lo n k xs' hcl
    have hcl0:=hcl
    split at hcl
    case isFalse=>cases hcl
    rename_i hid
    simp only[W8]at hid
    subst hid
    unfold ZhP at hcl
    split at hcl
    case h_2=>cases hcl
    split at hcl
    case isFalse=>cases hcl
    rename_i hcc
    simp only[Xk,decide_eq_true_eq]at hcc
    simp only[Xb,Xd]at hcl h
    obtain⟨rfl,rfl,rfl,rfl⟩:=hcl
    obtain⟨rfl,rfl,rfl⟩:=h
    have hrl:=Zu2 hids
    have hrho:∀ σ:Za,Zk σ 0 []=fun _ _=>none:=fun σ=>by funext t g;simp[Zk,ZI]
    refine⟨some (.row 0 _ _),rfl,fun _=>hns hcc.1,by simp,hnf,fun σ2 hA=>?_⟩
    simp only
    unfold Zj
    rw[hag σ2 hA]
    simp only
    rw[hrl]
    have h0:Zs (Zr σ2 ts) 1000 [] []=[]:=rfl
    rw[h0]
    unfold ZbK
    simp only[Ws,if_true]
    rw[hrho]
    rw[hrho]at hq
    simp only[Zn]at hq ⊢
    rw[hq]
    simp only[ZaA]
    rw[if_neg hne,hcl0]
    rfl
   split at h
   ·simp only[Xb,Xd]at h
    rw[<-h.2.2]at ha;simp at ha
   ·cases h
theorem Zdf{x:Option AVal}{v:AVal}{c:Cls}(h:x.map (fun r=>(r,σ,({}:Cls)))=some (v,σ',c)):σ'=σ/\c={}/\x=some v:=by
 simp only[Xq,Xd]at h
 obtain⟨a,h1,rfl,rfl,rfl⟩:=h
 exact⟨rfl,rfl,h1⟩
theorem ZQk{ins:Ins}{v:AVal}{c:Cls}(h:execI O bf tm σ sq ins=some (v,σ',c))(hw:c.wr=[])(ha:c.any=false):Framed (fun σ=>execI O bf tm σ sq ins) σ sq (nsite ins) v σ' c:=by
 cases ins with
 |alloc zs =>
  simp only[execI,Xb,Xd]at h
  obtain⟨rfl,rfl,rfl⟩:=h
  exact⟨some (.var zs),rfl,by simp[nsite],by simp,Zeo,fun σ2 _=>rfl⟩
 |box x =>
  simp only[execI]at h
  split at h
  ·cases h
  ·cases h
  ·cases h
  ·rename_i hne1 hne2 hne3
   simp only[Xb,Xd]at h
   obtain⟨rfl,rfl,rfl⟩:=h
   refine⟨some (.var (x.ev tm).cells),rfl,by simp[nsite],by simp,Zeo,fun σ2 _=>?_⟩
   simp only[execI,Zbv]
 |mkslice k b z x y =>
  simp only[execI]at h
  split at h
  ·rename_i l c' e1 e2
   split at h
   ·rename_i hc
    simp only[Xb,Xd]at h
    obtain⟨rfl,rfl,rfl⟩:=h
    refine⟨some (.row 0 k (Xz c'.toNat z)),rfl,by simp[nsite],by simp,Zeo,fun σ2 _=>?_⟩
    simp only[execI,e1,e2,Zbv]
    try rw[if_pos hc]
   ·cases h
  ·cases h
 |bslice own k n z ps =>
  simp only[execI]at h
  split at h
  ·cases h
  rename_i ys ts hv
  split at h
  case isFalse=>cases h
  rename_i hc
  split at h
  ·rename_i ho
   simp only[Xb,Xd]at h
   obtain⟨rfl,rfl,rfl⟩:=h
   simp only at hw
   subst hw
   refine⟨some (.row 0 k (((ps.map (·.1)).zip ys).foldl (fun l p=>l.set p.1 p.2) (Xz n z))),rfl,by simp[nsite,ho],by simp,Zeo,fun σ2 hA=>?_⟩
   simp only[execI,Zq8 hv hA,Zbv,Zr]
   rw[if_pos hc,if_pos ho]
  ·rename_i ho
   simp only[Xb,Xd]at h
   obtain⟨rfl,rfl,rfl⟩:=h
   simp only at hw
   subst hw
   refine⟨none,rfl,by simp,by simp,Zeo,fun σ2 hA=>?_⟩
   simp only[execI,Zq8 hv hA,Zbv,Zr]
   rw[if_pos hc,if_neg ho]
 |rslice k n z ps =>
  simp only[execI]at h
  split at h
  case isFalse=>cases h
  rename_i hc
  simp only[Xb,Xd]at h
  obtain⟨rfl,rfl,rfl⟩:=h
  refine⟨some (.rrow 0 k ((ps.map fun p=>(p.1,p.2.ev tm)).foldl (fun l p=>l.set p.1 p.2) (Xz n z))),rfl,by simp[nsite],by simp,Zeo,fun σ2 hA=>?_⟩
  simp only[execI,Zbv]
  rw[if_pos hc]
 |rng x =>
  simp only[execI]at h
  split at h
  ·rename_i l e
   simp only[Xb,Xd]at h
   obtain⟨rfl,rfl,rfl⟩:=h
   exact⟨some (.siter l 0),rfl,by simp[nsite],by simp,Zeo,fun σ2 _=>by simp only[execI,e,Zbv]⟩
  ·cases h
 |mkmap =>
  simp only[execI,Xb,Xd]at h
  obtain⟨rfl,rfl,rfl⟩:=h
  exact⟨some (.map []),rfl,by simp[nsite],by simp,Zeo,fun σ2 _=>rfl⟩
 |look kc z ok m k=>simp only[execI]at h⊢;exact ZTY h
 |mlen m=>simp only[execI]at h⊢;exact ZN3 h
 |mset kc m k v =>
  simp only[execI]at h
  unfold ZmL at h
  repeat' (split at h)
  all_goals first
   |(cases h;done)
   |(simp only[Xb,Xd]at h;rw[<-h.2.2]at hw;cases hw)
 |mdel kc m k =>
  simp only[execI]at h⊢
  unfold ZkQ at h
  split at h
  case isFalse=>cases h
  rename_i hk
  split at h
  ·rename_i e
   simp only[Xb,Xd]at h;obtain⟨rfl,rfl,rfl⟩:=h
   refine Framed.pure rfl fun σ2=>?_
   simp only[ZkQ,e]
   rw[if_pos hk]
  ·repeat' (split at h)
   all_goals first
    |(cases h;done)
    |(simp only[Xb,Xd]at h;rw[<-h.2.2]at hw;cases hw)
  ·cases h
 |clr k z x =>
  simp only[execI]at h
  unfold Zoa at h
  repeat' (split at h)
  all_goals first
   |(cases h;done)
   |(simp only[Xb,Xd]at h;rw[<-h.2.2]at hw;cases hw)
 |nxt x =>
  simp only[execI]at h
  repeat' (split at h)
  all_goals first
   |(cases h;done)
   |(simp only[Xb,Xd]at h;rw[<-h.2.2]at ha;cases ha)
 |ld k a=>simp only[execI]at h⊢;exact ZIb h
 |st k a x =>
  simp only[execI]at h
  unfold stA at h
  split at h
  ·split at h
   ·split at h
    ·split at h
     ·simp only[Xb,Xd]at h;rw[<-h.2.2]at hw;simp at hw
     ·cases h
    ·cases h
   ·split at h
    ·split at h
     ·split at h
      ·split at h
       ·split at h
        ·cases h
        ·split at h
         ·simp only[Xb,Xd]at h;rw[<-h.2.2]at hw;simp at hw
         ·cases h
       ·cases h
      ·cases h
     ·cases h
    ·split at h
     ·split at h
      ·split at h
       ·simp only[Xb,Xd]at h;rw[<-h.2.2]at hw;simp at hw
       ·cases h
      ·cases h
     ·cases h
    ·cases h
   ·cases h
  ·cases h
 |slice k x lo hi mx=>simp only[execI]at h⊢;exact ZTl h hw
 |iaddr k x i=>simp only[execI]at h⊢;exact ZKv h
 |app k b z x y=>simp only[execI]at h⊢;exact ZVi h hw ha
 |b2s x =>
  simp only[execI]at h
  split at h
  ·rename_i xs ts he
   split at h
   ·rename_i l hl
    simp only[Xb,Xd]at h
    obtain⟨rfl,rfl,rfl⟩:=h
    refine⟨none,rfl,by simp,by simp,(Zma he).nonfree,fun σ2 hA=>?_⟩
    simp only[execI,Zh8 he hA,hl,Zbv]
   ·cases h
  ·cases h
 |s2s x =>
  simp only[execI]at h
  split at h
  ·split at h
   ·split at h
    ·simp only[Xb,Xd]at h;rw[<-h.2.2]at hw;simp at hw
    ·cases h
   ·cases h
  ·cases h
 |call f own vw xs=>simp only[execI]at h⊢;exact Zyp (fun ho=>by simp[nsite,ho]) h hw ha
 |callv x xs =>
  simp only[execI]at h
  split at h
  ·rename_i f caps e
   have:=Zyp (ns:=nsite (.callv x xs)) (fun ho=>absurd ho (by decide)) h hw ha
   have he:(fun σ=>execI O bf tm σ sq (.callv x xs))=fun σ=>Zj O bf σ sq (if f<1000000 then f else f-1000000) 4 false (if f<1000000 then xs.map (·.ev tm)++caps else caps++xs.map (·.ev tm)):=by funext σ;simp only[execI,e]
   rw[he];exact this
  ·cases h
 |mki t x =>
  simp only[execI]at h
  split at h
  ·cases h
  ·cases h
  ·cases h
  ·simp only[Xb,Xd]at h;obtain⟨rfl,rfl,rfl⟩:=h;exact Framed.pure rfl (fun σ2=>by simp only[execI])
 |panic x =>
  simp only[execI]at h
  split at h
  ·rename_i e;simp only[Xb,Xd]at h;obtain⟨rfl,rfl,rfl⟩:=h;exact Framed.pure rfl (fun σ2=>by simp only[execI,e])
  ·cases h
 |eqv neg ks x y =>
  simp only[execI]at h
  split at h
  ·rename_i e1 e2
   split at h
   ·rename_i e4
    split at h
    ·rename_i e3;simp only[Xb,Xd]at h;obtain⟨rfl,rfl,rfl⟩:=h;exact Framed.pure rfl (fun σ2=>by simp only[execI,e1,e2,e3,e4,if_true])
    ·cases h
   ·cases h
  ·cases h
 |ieq neg x y =>
  simp only[execI]at h
  split at h
  ·rename_i e1 e2;simp only[Xb,Xd]at h;obtain⟨rfl,rfl,rfl⟩:=h;exact Framed.pure rfl (fun σ2=>by simp only[execI,e1,e2])
  ·rename_i e1 e2;simp only[Xb,Xd]at h;obtain⟨rfl,rfl,rfl⟩:=h;exact Framed.pure rfl (fun σ2=>by simp only[execI,e1,e2])
  ·rename_i e1 e2;simp only[Xb,Xd]at h;obtain⟨rfl,rfl,rfl⟩:=h;exact Framed.pure rfl (fun σ2=>by simp only[execI,e1,e2])
  ·cases h
 |mov x=>simp only[execI,Xb,Xd]at h;obtain⟨rfl,rfl,rfl⟩:=h;exact Framed.pure rfl (fun σ2=>rfl)
 |mkfn f xs=>simp only[execI,Xb,Xd]at h;obtain⟨rfl,rfl,rfl⟩:=h;exact Framed.pure rfl (fun σ2=>rfl)
 |bin op x y =>
  simp only[execI]at h
  obtain⟨rfl,rfl,hx⟩:=Zdf h
  exact Framed.pure rfl (fun σ2=>by simp only[execI,hx,X8])
 |un op x =>
  simp only[execI]at h
  obtain⟨rfl,rfl,hx⟩:=Zdf h
  exact Framed.pure rfl (fun σ2=>by simp only[execI,hx,X8])
 |faddr off x =>
  simp only[execI]at h
  obtain⟨rfl,rfl,hx⟩:=Zdf h
  exact Framed.pure rfl (fun σ2=>by simp only[execI,hx,X8])
 |pick a b d =>
  simp only[execI]at h
  unfold ZgJ at h
  split at h
  ·rename_i e;simp only[Xb,Xd]at h;obtain⟨rfl,rfl,rfl⟩:=h;exact Framed.pure rfl (fun σ2=>by simp only[execI,ZgJ,e])
  ·rename_i e;simp only[Xb,Xd]at h;obtain⟨rfl,rfl,rfl⟩:=h;exact Framed.pure rfl (fun σ2=>by simp only[execI,ZgJ,e])
  ·cases h
 |build zs ps =>
  simp only[execI]at h
  split at h
  ·rename_i cs hf
   simp only[Xb,Xd]at h;obtain⟨rfl,rfl,rfl⟩:=h
   exact Framed.pure rfl (fun σ2=>by simp only[execI,hf])
  ·cases h
 |i2i k x =>
  simp only[execI]at h
  split at h
  ·rename_i e;simp only[Xb,Xd]at h;obtain⟨rfl,rfl,rfl⟩:=h;exact Framed.pure rfl (fun σ2=>by simp only[execI,e])
  ·cases h
 |i2s x =>
  simp only[execI]at h
  split at h
  ·rename_i e;simp only[Xb,Xd]at h;obtain⟨rfl,rfl,rfl⟩:=h;exact Framed.pure rfl (fun σ2=>by simp only[execI,e])
  ·cases h
 |same x =>
  simp only[execI]at h
  split at h
  ·rename_i e;simp only[Xb,Xd]at h;obtain⟨rfl,rfl,rfl⟩:=h;exact Framed.pure rfl (fun σ2=>by simp only[execI,e])
  ·cases h
 |s2b x =>
  simp only[execI]at h
  split at h
  ·rename_i e;simp only[Xb,Xd]at h;obtain⟨rfl,rfl,rfl⟩:=h;exact Framed.pure rfl (fun σ2=>by simp only[execI,e])
  ·cases h
 |sslice x lo hi =>
  simp only[execI]at h
  split at h
  ·rename_i s e
   split at h
   ·cases h
   rename_i h1 hh
   split at h
   ·cases h
   rename_i l hl
   simp only[Xb,Xd]at h;obtain⟨rfl,rfl,rfl⟩:=h
   exact Framed.pure rfl (fun σ2=>by simp only[execI,e,hh,hl])
  ·cases h
 |field k off x =>
  simp only[execI]at h
  split at h
  ·rename_i cs e
   obtain⟨rfl,rfl,hx⟩:=Zdf h
   exact Framed.pure rfl (fun σ2=>by simp only[execI,e,hx,X8])
  ·cases h
 |aaddr k n x i =>
  simp only[execI]at h
  split at h
  ·rename_i e
   split at h
   ·rename_i hc
    obtain⟨rfl,rfl,hx⟩:=Zdf h
    exact Framed.pure rfl (fun σ2=>by simp only[execI,e];rw[if_pos hc,hx];rfl)
   ·cases h
  ·cases h
 |sindex x i =>
  simp only[execI]at h
  split at h
  ·rename_i e1 e2
   split at h
   ·rename_i hc
    simp only[Xq,Xd]at h
    obtain⟨b,hb,rfl,rfl,rfl⟩:=h
    exact Framed.pure rfl (fun σ2=>by simp only[execI,e1,e2];rw[if_pos hc,hb];rfl)
   ·cases h
  ·cases h
 |aindex s k n x i =>
  simp only[execI]at h
  split at h
  ·rename_i e1 e2
   split at h
   ·rename_i hc
    obtain⟨rfl,rfl,hx⟩:=Zdf h
    exact Framed.pure rfl (fun σ2=>by simp only[execI,e1,e2];rw[if_pos hc,hx];rfl)
   ·cases h
  ·cases h
 |ext x i =>
  simp only[execI]at h
  split at h
  ·rename_i e
   obtain⟨rfl,rfl,hx⟩:=Zdf h
   exact Framed.pure rfl (fun σ2=>by simp only[execI,e,hx,X8])
  ·cases h
 |len x =>
  simp only[execI]at h
  split at h
  ·rename_i e;simp only[Xb,Xd]at h;obtain⟨rfl,rfl,rfl⟩:=h;exact Framed.pure rfl (fun σ2=>by simp only[execI,e])
  ·rename_i e;simp only[Xb,Xd]at h;obtain⟨rfl,rfl,rfl⟩:=h;exact Framed.pure rfl (fun σ2=>by simp only[execI,e])
  ·cases h
 |slen x =>
  simp only[execI]at h
  split at h
  ·rename_i e;simp only[Xb,Xd]at h;obtain⟨rfl,rfl,rfl⟩:=h;exact Framed.pure rfl (fun σ2=>by simp only[execI,e])
  ·cases h
 |mm m xs =>
  simp only[execI]at h
  split at h
  ·rename_i e;simp only[Xb,Xd]at h;obtain⟨rfl,rfl,rfl⟩:=h;exact Framed.pure rfl (fun σ2=>by simp only[execI,e])
  ·cases h
 |nilchk x =>
  simp only[execI]at h
  split at h
  ·rename_i e;simp only[Xb,Xd]at h;obtain⟨rfl,rfl,rfl⟩:=h;exact Framed.pure rfl (fun σ2=>by simp only[execI,e])
  ·rename_i e;simp only[Xb,Xd]at h;obtain⟨rfl,rfl,rfl⟩:=h;exact Framed.pure rfl (fun σ2=>by simp only[execI,e])
  ·rename_i e;simp only[Xb,Xd]at h;obtain⟨rfl,rfl,rfl⟩:=h;exact Framed.pure rfl (fun σ2=>by simp only[execI,e])
  ·cases h
 |beq neg x y =>
  simp only[execI]at h
  split at h
  ·rename_i e1 e2;simp only[Xb,Xd]at h;obtain⟨rfl,rfl,rfl⟩:=h;exact Framed.pure rfl (fun σ2=>by simp only[execI,e1,e2])
  ·cases h
 |peq neg x y =>
  simp only[execI]at h
  split at h
  ·rename_i e1 e2;simp only[Xb,Xd]at h;obtain⟨rfl,rfl,rfl⟩:=h;exact Framed.pure rfl (fun σ2=>by simp only[execI,e1,e2])
  ·rename_i e1 e2;simp only[Xb,Xd]at h;obtain⟨rfl,rfl,rfl⟩:=h;exact Framed.pure rfl (fun σ2=>by simp only[execI,e1,e2])
  ·rename_i e1 e2;simp only[Xb,Xd]at h;obtain⟨rfl,rfl,rfl⟩:=h;exact Framed.pure rfl (fun σ2=>by simp only[execI,e1,e2])
  ·cases h
theorem ZCU{ins:Ins}{v:AVal}{c:Cls}(ht:ins.touches=false)(h:execI O bf tm σ sq ins=some (v,σ',c)):c={}/\nsite ins=0:=by
 cases ins<;>simp[Ins.touches]at ht<;>refine⟨?_,rfl⟩<;>simp only[execI]at h
 case mov x=>simp only[Xb,Xd]at h;exact h.2.2.symm
 case mkfn f xs=>simp only[Xb,Xd]at h;exact h.2.2.symm
 case bin op x y=>exact(Zdf h).2.1
 case un op x=>exact(Zdf h).2.1
 case faddr off x=>exact(Zdf h).2.1
 case pick c x y =>
  unfold ZgJ at h
  split at h
  ·simp only[Xb,Xd]at h;exact h.2.2.symm
  ·simp only[Xb,Xd]at h;exact h.2.2.symm
  ·cases h
 all_goals
  repeat' (split at h)
  all_goals first
   |(cases h;done)
   |(simp only[Xb,Xd]at h;exact h.2.2.symm)
   |exact(Zdf h).2.1
   |(simp only[Xq,Xd]at h;obtain⟨_,_,_,_,h⟩:=h;exact h.symm)
theorem ZJW{ins:Ins}{v:AVal}{c:Cls}(ht:ins.touches=false)(h:execI O bf tm σ sq ins=some (v,σ',c)):σ'=σ:=by
 cases ins<;>simp[Ins.touches]at ht<;>simp only[execI]at h
 case mov x=>simp only[Xb,Xd]at h;exact h.2.1.symm
 case mkfn f xs=>simp only[Xb,Xd]at h;exact h.2.1.symm
 case bin op x y=>exact(Zdf h).1
 case un op x=>exact(Zdf h).1
 case faddr off x=>exact(Zdf h).1
 case pick c x y =>
  unfold ZgJ at h
  split at h
  ·simp only[Xb,Xd]at h;exact h.2.1.symm
  ·simp only[Xb,Xd]at h;exact h.2.1.symm
  ·cases h
 all_goals
  repeat' (split at h)
  all_goals first
   |(cases h;done)
   |(simp only[Xb,Xd]at h;exact h.2.1.symm)
   |exact(Zdf h).1
   |(simp only[Xq,Xd]at h;obtain⟨_,_,_,h,_⟩:=h;exact h.symm)
end
end
section
open Go.RowKit
section
variable {O:ZV}{bf:Nat->Bool}{tm:Tms}{σ σ':Za}{sq s:Nat}{b:ZO}
theorem ZhT:∀ (ts:List Nat) (σ:Za),(Zr σ ts)[s]?=some .free↔σ[s]?=some .free
 | [],σ=>Iff.rfl
 |t::ts,σ=>by
  simp only[Zr]
  split
  ·rename_i g k xs hs
   rw[ZhT ts,Xx]
   split
   ·rename_i e;subst e
    split
    ·simp[hs]
    ·simp[hs]
   ·exact Iff.rfl
  ·exact ZhT ts σ
theorem ZqX{cs:List AVal}{t:Nat}:∀ (ts:List Nat) (σ:Za),σ[t]?=some (.var cs)->(Zr σ ts)[t]?=some (.var cs)
 | [],σ,h=>h
 |u::ts,σ,h=>by
  simp only[Zr]
  split
  ·rename_i g k xs hs
   refine ZqX ts _ ?_
   rw[Xx]
   split
   ·rename_i e;subst e;rw[hs]at h;cases h
   ·exact h
  ·exact ZqX ts σ h
theorem Zql:∀ (ts:List Nat) (σ:Za),s∉ts->Zr (σ.set s b) ts=(Zr σ ts).set s b
 | [],σ,_=>rfl
 |t::ts,σ,h=>by
  simp only[XR,not_or]at h
  have e:(σ.set s b)[t]?=σ[t]?:=by rw[Xx,if_neg h.1]
  simp only[Zr,e]
  split
  ·rw[Xae _ _ h.1,Zql ts _ h.2]
  ·exact Zql ts σ h.2
theorem Zi1{t:Nat}(h:s≠t):(σ.set s b).getD t .free=σ.getD t .free:=by
 rw[Xh,Xh,Xx,if_neg h]
theorem Zrv:∀ (n:Nat) (todo acc:List Nat),∀ x∈acc,x∈Zs σ n todo acc
 |0,_,acc,x,h=>h
 |n+1,[],acc,x,h=>h
 |n+1,t::todo,acc,x,h=>by
  simp only[Zs]
  split
  ·exact Zrv n todo acc x h
  ·exact Zrv n _ _ x (by simp[h])
theorem Zq1:∀ (n:Nat) (todo acc:List Nat),s∉Zs σ n todo acc->Zs (σ.set s b) n todo acc=Zs σ n todo acc
 |0,_,acc,_=>rfl
 |n+1,[],acc,_=>rfl
 |n+1,t::todo,acc,h=>by
  simp only[Zs]at h⊢
  split
  ·rename_i hc;rw[if_pos hc]at h;exact Zq1 n todo acc h
  ·rename_i hc
   rw[if_neg hc]at h
   have hne:s≠t:=by
    rintro rfl
    exact h (Zrv n _ _ s (by simp))
   rw[Zi1 hne]
   exact Zq1 n _ _ h
theorem ZDH{m:Nat}{ids:List Nat}(h:s∉ids):Zk (σ.set s b) m ids=Zk σ m ids:=by
 funext t g
 unfold Zk
 split
 ·rename_i j hj
  obtain⟨k,_,hk⟩:=Zsd hj
  have : s≠t:=by rintro rfl;exact h (XC hk)
  rw[Xx,if_neg this]
 ·rfl
theorem Zvs{m:Nat}{ids:List Nat}{ρ:Rho}:∀ (ts:List Nat) (j:Nat),s∉ts->Zn (σ.set s b) m ids ρ ts j=Zn σ m ids ρ ts j
 | [],_,_=>rfl
 |t::ts,j,h=>by
  simp only[XR,not_or]at h
  simp only[Zn,Zi1 h.1,Zvs ts (j+1) h.2]
theorem ZwU{ids:List Nat}(h:s∉ids):∀ (hp:Za) (j:Nat),ZaW (σ.set s b) ids hp j=ZaW σ ids hp j
 | [],_=>rfl
 |x::xs,j=>by
  simp only[ZaW,ZwU h xs (j+1)]
  congr 2
  split
  ·rename_i t ht
   have : s≠t:=by rintro rfl;exact h (XC ht)
   rw[Zi1 this]
  ·rfl
theorem ZzF:∀ (n sq:Nat),(∀ i,i<n->sq+i≠s)->ZaM (σ.set s b) sq n=ZaM σ sq n
 |0,_,_=>rfl
 |n+1,sq,h=>by
  have h0:=h 0 (by omega)
  simp only[ZaM,freeAt]
  rw[Xx,if_neg (by intro e;exact h0 (by simpa using e.symm)),ZzF n (sq+1) (fun i hi=>by have:=h (i+1) (by omega);rwa [show sq+1+i=sq+(i+1)by omega])]
theorem ZAS{ids:List Nat}(h:s∉ids):ZaJ (σ.set s b) ids sq=ZaJ σ ids sq:=by
 funext j g
 unfold ZaJ
 split
 ·rename_i t ht
  have : s≠t:=by rintro rfl;exact h (XC ht)
  rw[Zi1 this]
 ·rfl
theorem Zvc{σ0:Za}{ids:List Nat}(h:s∉ids):∀ (hp:Za) (j:Nat) (σ:Za),(∀ i,i<hp.length->ZaN ids sq (j+i)≠s)->Za9 (σ0.set s b) ids sq hp j (σ.set s b)=(Za9 σ0 ids sq hp j σ).set s b
 | [],_,_,_=>rfl
 |x::xs,j,σ,hn=>by
  have h0:=hn 0 (by simp)
  simp only[Wc]at h0
  have eg:Zch (σ0.set s b) ids j x=Zch σ0 ids j x:=by
   unfold Zch
   split
   ·rename_i t ht
    have : s≠t:=by rintro rfl;exact h (XC ht)
    rw[Zi1 this]
   ·rfl
  simp only[Za9,ZAS h,eg]
  rw[Xae _ _ (Ne.symm h0)]
  exact Zvc h xs (j+1) _ (fun i hi=>by have:=hn (i+1) (by simp;omega);rwa [show j+1+i=j+(i+1)by omega])
theorem ZxG:∀ (ids:List Nat),s∉ids->ZaZ (σ.set s b) ids=ZaZ σ ids
 | [],_=>rfl
 |t::ts,h=>by
  simp only[XR,not_or]at h
  simp only[ZaZ,Xx,if_neg h.1,ZxG ts h.2]
theorem ZQX{ρ:Rho}{g:Nat}{x:ZO}(h:okB x=true):Zy ρ g x≠.free:=by
 cases x<;>simp[okB]at h<;>simp[Zy]
theorem ZtP{σ0:Za}{ids:List Nat}:∀ (hp:Za) (j:Nat) (σ:Za),ZaW σ0 ids hp j=true->(Za9 σ0 ids sq hp j σ)[s]?=some .free->σ[s]?=some .free
 | [],_,_,_,h=>h
 |x::xs,j,σ,hk,h=>by
  simp only[ZaW,Xk]at hk
  simp only[Za9]at h
  have:=ZtP xs (j+1) _ hk.2 h
  rw[Xx]at this
  split at this
  ·split at this
   ·injection this with this;exact absurd this (ZQX hk.1.1)
   ·cases this
  ·exact this
theorem ZWm{ts:List Nat}(h:ZfH σ ts)(hs:σ[s]?=some .free):s∉ts:=by
 intro hm
 obtain⟨x,hx,hne⟩:=h s hm
 rw[hs]at hx;injection hx with hx;exact hne hx.symm
theorem ZxY{f own:Nat}{view:Bool}{args:List AVal}{v:AVal}{c:Cls}(h:Zj O bf σ sq f own view args=some (v,σ',c))(hs':σ'[s]?=some .free)(hne:∀ i,i<own->sq+i≠s) :
  σ[s]?=some .free/\Zj O bf (σ.set s b) sq f own view args=some (v,σ'.set s b,c):=by
 unfold Zj at h
 split at h
 ·cases h
 rename_i xs ts hsh
 have hnf:ZfH σ ts:=by
  unfold ZbS at hsh
  split at hsh
  ·simp only[Xb,Xd]at hsh
   rw[<-hsh.2];exact Zeo
  ·exact(ZnA hsh).nonfree
 have hag:∀ σ2,Agree σ σ2 ts->ZbS (bf f) σ2 args=some (xs,ts):=by
  intro σ2 hA
  unfold ZbS at hsh ⊢
  split at hsh
  ·rename_i hb;rw[if_pos hb];exact hsh
  ·rename_i hb;rw[if_neg hb];exact Zsn hsh hA
 generalize hids:Zs (Zr σ ts) 1000 (Zt xs) []=ids at h
 unfold ZbK at h
 split at h
 case isFalse=>cases h
 rename_i hall
 generalize hq:Z3 view ids.length (O f (Zh (Zk (Zr σ ts) 0 ids) xs) (Zn (Zr σ ts) 0 ids (Zk (Zr σ ts) 0 ids) ids 0))=q at h
 have key:σ[s]?=some .free->s∉ts/\s∉ids/\Zj O bf (σ.set s b) sq f own view args=ZaA (σ.set s b) ((Zr σ ts).set s b) ids ts sq own q:=by
  intro hs
  have n1:=ZWm hnf hs
  have hsf:(Zr σ ts)[s]?=some .free:=(ZhT ts σ).2 hs
  have n2:s∉ids:=by
   intro hm
   have:=XH.1 hall s hm
   rw[Xh,hsf]at this
   simp[okB]at this
  refine⟨n1,n2,?_⟩
  unfold Zj
  rw[hag _ (fun t ht=>by rw[Xx,if_neg (by rintro rfl;exact n1 ht)])]
  simp only
  rw[Zql ts σ n1,Zq1 _ _ _ (by rw[hids];exact n2),hids]
  unfold ZbK
  have hall2:(ids.all fun t=>okB (((Zr σ ts).set s b).getD t .free))=true:=by
   rw[XH]at hall ⊢
   intro t ht
   rw[Zi1 (by rintro rfl;exact n2 ht)]
   exact hall t ht
  rw[if_pos hall2,ZDH n2,Zvs ids 0 n2,hq]
 cases q with
 |none=>simp only[ZaA]at h;cases h
 |some q =>
  obtain⟨r,hp⟩:=q
  simp only[ZaA]at h
  split at h
  ·rename_i hc
   split at h
   ·rename_i hf
    simp only[Xb,Xd]at h
    obtain⟨rfl,rfl,rfl⟩:=h
    obtain⟨n1,n2,k⟩:=key hs'
    refine⟨hs',?_⟩
    rw[k]
    simp only[ZaA,hc,if_true,hf]
   split at h
   ·rename_i hf hap
    simp only[Xb,Xd]at h
    obtain⟨rfl,rfl,rfl⟩:=h
    obtain⟨n1,n2,k⟩:=key hs'
    refine⟨hs',?_⟩
    have hap2:ZcY (σ.set s b) ts r=true:=by
     unfold ZcY at hap ⊢
     simp only[Xk]at hap ⊢
     refine⟨hap.1,XH.2 fun t ht=>?_⟩
     have:=XH.1 hap.2 t ht
     unfold Zgk at this ⊢
     rw[Xx,if_neg (by rintro rfl;exact n1 ht)];exact this
    rw[k]
    simp only[ZaA,hc,if_true,hf,hap2,if_false,Xj]
   ·rename_i hf hap
    simp only[Xb,Xd]at h
    obtain⟨rfl,rfl,rfl⟩:=h
    have hs:=(ZhT ts σ).1 hs'
    obtain⟨n1,n2,k⟩:=key hs
    refine⟨hs,?_⟩
    have hap2:¬ZcY (σ.set s b) ts r=true:=by
     intro h2
     refine hap ?_
     unfold ZcY at h2 ⊢
     simp only[Xk]at h2 ⊢
     refine⟨h2.1,XH.2 fun t ht=>?_⟩
     have:=XH.1 h2.2 t ht
     unfold Zgk at this ⊢
     rw[Xx,if_neg (by rintro rfl;exact n1 ht)]at this;exact this
    rw[k]
    simp only[ZaA,hc,if_true,hf,if_neg hap2,if_false,Xj]
  ·rename_i hc
   split at h
   ·rename_i lo n k xs' hcl
    simp only[Xb,Xd]at h
    obtain⟨rfl,rfl,rfl⟩:=h
    have hown:own=1:=by
     split at hcl
     case isFalse=>cases hcl
     unfold ZhP at hcl
     split at hcl
     case h_2=>cases hcl
     split at hcl
     case isFalse=>cases hcl
     rename_i hcc
     simp only[Xk,decide_eq_true_eq]at hcc
     exact hcc.1
    have hns:sq≠s:=by have:=hne 0 (by omega);simpa using this
    have hs:σ[s]?=some .free:=by rwa [Xx,if_neg hns]at hs'
    obtain⟨n1,n2,kk⟩:=key hs
    refine⟨hs,?_⟩
    rw[kk]
    simp only[ZaA]
    rw[if_neg hc,hcl]
    simp only
    rw[Xae _ _ (Ne.symm hns)]
   split at h
   ·rename_i hcl hcc
    simp only[Xb,Xd]at h
    obtain⟨rfl,rfl,rfl⟩:=h
    simp only[Xk,decide_eq_true_eq]at hcc
    obtain⟨⟨⟨c1,c2⟩,c3⟩,c4⟩:=hcc
    have hs:=(ZhT ts σ).1 (ZtP hp 0 _ c3 hs')
    obtain⟨n1,n2,kk⟩:=key hs
    refine⟨hs,?_⟩
    rw[kk]
    have htg:∀ i,i<hp.length->ZaN ids sq (0+i)≠s:=by
     intro i hi e
     rw[XB]at e
     unfold ZaN at e
     rw[Xh]at e
     rcases Wx i ids.length with hl |hl
     ·rw[We hl]at e
      simp only[WF]at e
      exact n2 (e ▸ Xag hl)
     ·rw[XQ hl]at e
      exact hne (i-ids.length) (by omega) e
    simp only[ZaA]
    rw[if_neg hc,hcl]
    simp only[c1,c2,decide_true,ZwU n2,c3,ZzF own sq hne,c4,Wg,if_true,ZAS n2,Zvc n2 hp 0 _ htg,ZxG ids n2]
   ·cases h
theorem ZFh{f own:Nat}{view:Bool}{args:List AVal}{v:AVal}{c:Cls}(h:Zj O bf σ sq f own view args=some (v,σ',c))(hs:σ'[s]?=some .free):σ[s]?=some .free:=by
 unfold Zj at h
 split at h
 ·cases h
 rename_i xs ts hsh
 unfold ZbK at h
 split at h
 case isFalse=>cases h
 generalize Zs (Zr σ ts) 1000 (Zt xs) []=ids at h
 generalize Z3 view ids.length (O f (Zh (Zk (Zr σ ts) 0 ids) xs) (Zn (Zr σ ts) 0 ids (Zk (Zr σ ts) 0 ids) ids 0))=q at h
 cases q with
 |none=>simp only[ZaA]at h;cases h
 |some q =>
  obtain⟨r,hp⟩:=q
  simp only[ZaA]at h
  split at h
  ·split at h
   ·simp only[Xb,Xd]at h
    rw[h.2.1];exact hs
   split at h
   ·simp only[Xb,Xd]at h
    rw[h.2.1];exact hs
   ·simp only[Xb,Xd]at h
    rw[<-h.2.1]at hs
    exact(ZhT ts σ).1 hs
  ·split at h
   ·simp only[Xb,Xd]at h
    rw[<-h.2.1,Xx]at hs
    split at hs
    ·split at hs<;>simp at hs
    ·exact hs
   split at h
   ·rename_i hcc
    simp only[Xb,Xd]at h
    rw[<-h.2.1]at hs
    simp only[Xk,decide_eq_true_eq]at hcc
    exact(ZhT ts σ).1 (ZtP hp 0 _ hcc.1.2 hs)
   ·cases h
theorem ZtV{t:Nat}{cs:List AVal}:∀ {ids:List Nat},(ZaZ σ ids).lookup t=some cs->σ[t]?=some (.var cs)
 | [],h=>by simp[ZaZ]at h
 |u::us,h=>by
  simp only[ZaZ]at h
  split at h
  ·rename_i cs' hu
   rw[XL]at h
   split at h
   ·rename_i e
    injection h with h;subst h
    have : t=u:=by simpa using e
    rw[this];exact hu
   ·exact ZtV h
  ·exact ZtV h
theorem Zmq{t:Nat}{cs:List AVal}:∀ {ids:List Nat},(ZaZ σ ids).lookup t=none->t∈ids->σ[t]?≠some (.var cs)
 |u::us,h,hm=>by
  intro hv
  simp only[ZaZ]at h
  rcases XR.1 hm with e |hm
  ·subst e
   rw[hv]at h
   simp only[XL,beq_self_eq_true]at h
   cases h
  ·split at h
   ·rw[XL]at h
    split at h
    ·cases h
    ·exact Zmq h hm hv
   ·exact Zmq h hm hv
theorem ZxR{σ0:Za}{ids:List Nat}{t:Nat}:∀ (hp:Za) (j:Nat) (σ:Za),(∀ i x,hp[i]?=some x->ZaN ids sq (j+i)=t->∃ cs,x=.var cs)->(∃ cs,σ[t]?=some (.var cs))->∃ cs,(Za9 σ0 ids sq hp j σ)[t]?=some (.var cs)
 | [],_,_,_,h=>h
 |x::xs,j,σ,hv,⟨cs,h⟩=>by
  simp only[Za9]
  refine ZxR xs (j+1) _ (fun i y hy e=>hv (i+1) y (by simpa using hy) (by rwa [show j+(i+1)=j+1+i by omega])) ?_
  rw[Xx]
  split
  ·rename_i e
   obtain⟨cs',rfl⟩:=hv 0 x rfl (by simpa using e)
   split
   ·exact⟨_,rfl⟩
   ·rename_i hl
    rw[e]at hl
    rw[XQ (by omega)]at h;cases h
  ·exact⟨cs,h⟩
theorem ZKq{f own:Nat}{view:Bool}{args:List AVal}{v:AVal}{c:Cls}(h:Zj O bf σ sq f own view args=some (v,σ',c))(ha:c.any=true){t:Nat}{cs:List AVal}(ht:σ[t]?=some (.var cs)) :
  (c.upd.lookup t=none->σ'[t]?=some (.var cs))/\(∀ cs2,c.upd.lookup t=some cs2->σ'[t]?=some (.var cs2)):=by
 unfold Zj at h
 split at h
 ·cases h
 rename_i xs ts hsh
 generalize hids:Zs (Zr σ ts) 1000 (Zt xs) []=ids at h
 unfold ZbK at h
 split at h
 case isFalse=>cases h
 generalize Z3 view ids.length (O f (Zh (Zk (Zr σ ts) 0 ids) xs) (Zn (Zr σ ts) 0 ids (Zk (Zr σ ts) 0 ids) ids 0))=q at h
 cases q with
 |none=>simp only[ZaA]at h;cases h
 |some q =>
  obtain⟨r,hp⟩:=q
  simp only[ZaA]at h
  split at h
  ·split at h
   ·simp only[Xb,Xd]at h
    rw[<-h.2.2]at ha;cases ha
   split at h
   ·simp only[Xb,Xd]at h
    rw[<-h.2.2]at ha;cases ha
   ·simp only[Xb,Xd]at h
    rw[<-h.2.2]at ha;cases ha
  ·split at h
   ·simp only[Xb,Xd]at h
    rw[<-h.2.2]at ha;cases ha
   split at h
   ·rename_i hcc
    simp only[Xb,Xd]at h
    obtain⟨_,rfl,rfl⟩:=h
    simp only[Xk,decide_eq_true_eq]at hcc
    obtain⟨⟨⟨c1,c2⟩,c3⟩,c4⟩:=hcc
    have hf:=ZqX ts σ ht
    refine⟨fun hn=>?_,fun cs2 hc2=>ZtV hc2⟩
    have tgt:∀ i,i<hp.length->ZaN ids sq (0+i)=t->i<ids.length/\ids[i]?=some t:=by
     intro i hi e
     rw[XB]at e
     unfold ZaN at e
     rw[Xh]at e
     rcases Wx i ids.length with hl |hl
     ·rw[We hl]at e ⊢
      simp only[WF]at e
      exact⟨hl,by rw[e]⟩
     ·rw[XQ hl]at e
      simp only[Xah]at e
      have:=Zht c4 (i:=i-ids.length) (by omega)
      rw[e,hf]at this;cases this
    by_cases hm:t∈ids
    ·exfalso
     obtain⟨cs3,h3⟩:=ZxR (σ0:=Zr σ ts) (sq:=sq) (ids:=ids) (t:=t) hp 0 (Zr σ ts) (fun i x hx e=>by
      obtain⟨hl,hi⟩:=tgt i (Xl.1 hx).1 e
      have:=(ZiX c3 hx).2
      rw[XB,hi]at this
      simp only at this
      have hk:=this.1
      rw[Xh,hf]at hk
      simp only[WF]at hk
      cases x<;>simp[Zcr]at hk
      exact⟨_,rfl⟩) ⟨_,hf⟩
     exact Zmq hn hm h3
    ·rw[Zju (fun i hi e=>hm (by
      obtain⟨hl,hi⟩:=tgt i hi e
      exact XC hi))]
     exact hf
   ·cases h
end
end
section
open Go.RowKit
section
variable {P:Program}{O:ZV}{bf:Nat->Bool}{tm tm1 tm2:Tms}{σ σ' σ1 σ2:Za}{sq:Nat}
theorem ZvQ{d:Option Nat}{v:AVal}{n:Nat}(h:d≠some n):tget (tput tm d v) n=tget tm n:=by
 cases d with
 |none=>rfl
 |some d =>
  have : d≠n:=by rintro rfl;exact h rfl
  simp only[tput,Zk4,this,if_false]
theorem ZwK{a b:Nat}(u v:AVal)(h:a≠b):∀ tm:Tms,tins b v (tins a u tm)=tins a u (tins b v tm)
 | []=>by
  simp only[tins]
  by_cases h1:a<b
  ·have h2:¬b<a:=by omega
   have h3:¬b=a:=by omega
   simp[h1,h2,h3]
  ·have h2:b<a:=by omega
   have h3:¬a=b:=h
   simp[h1,h2,h3]
 |(e,w)::r=>by
  have ih:=ZwK u v h r
  rcases Nat.lt_trichotomy e a with ha |ha |ha<;>rcases Nat.lt_trichotomy e b with hb |hb |hb
  ·rcases Nat.lt_or_gt_of_ne h with hab |hab
   ·have n1:¬b<a:=by omega
    have n2:¬b=a:=by omega
    simp[tins,ha,hb,hab,n1,n2]
   ·have n1:¬a<b:=by omega
    have n2:¬a=b:=h
    simp[tins,ha,hb,hab,n1,n2]
  ·subst hb
   have n1:¬a<e:=by omega
   have n2:¬a=e:=h
   simp[tins,ha,n1,n2]
  ·have n1:¬a<b:=by omega
   have n2:¬a=b:=h
   have n3:¬e<b:=by omega
   have n4:¬e=b:=by omega
   simp[tins,ha,n1,n2,n3,n4]
  ·subst ha
   have n1:¬b<e:=by omega
   have n2:¬b=e:=fun q=>h q.symm
   simp[tins,hb,n1,n2]
  ·exact absurd (ha.symm.trans hb) h
  ·subst ha
   have n3:¬e<b:=by omega
   have n4:¬e=b:=by omega
   simp[tins,n3,n4]
  ·have n1:¬b<a:=by omega
   have n2:¬b=a:=by omega
   have n3:¬e<a:=by omega
   have n4:¬e=a:=by omega
   simp[tins,hb,n1,n2,n3,n4]
  ·subst hb
   have n3:¬e<a:=by omega
   have n4:¬e=a:=by omega
   simp[tins,n3,n4]
  ·have n1:¬e<a:=by omega
   have n2:¬e=a:=by omega
   have n3:¬e<b:=by omega
   have n4:¬e=b:=by omega
   simp[tins,n1,n2,n3,n4,ih]
theorem ZfI{a b:Option Nat}(u v:AVal)(h:∀ d,a=some d->b≠some d):tput (tput tm a u) b v=tput (tput tm b v) a u:=by
 cases a with
 |none=>cases b<;>rfl
 |some a =>
  cases b with
  |none=>rfl
  |some b =>
   simp only[tput]
   exact ZwK u v (by rintro rfl;exact h a rfl rfl) tm
theorem Zea{g:Option (Nat×Bool)}(h:∀ j b,g=some (j,b)->tget tm j=tget tm1 j):ZbM g tm=ZbM g tm1:=by
 cases g with
 |none=>rfl
 |some g=>simp only[ZbM];rw[h g.1 g.2 rfl]
theorem Zd4{o:AOp}{j:Nat}{b:Bool}(h:o.guard=some (j,b)):j∈o.reads:=by simp[AOp.reads,h]
theorem Zhz{o:AOp}{n:Nat}(h:n∈o.ins.reads):n∈o.reads:=by simp[AOp.reads,h]
theorem ZhC{o:AOp}{v:AVal}{c:Cls}(h:ZQ O bf o sq tm σ=some (v,tm1,σ1,c)):tm1=tput tm o.dst v/\∀ tm',(∀ n∈o.reads,tget tm n=tget tm' n)->ZQ O bf o sq tm' σ=some (v,tput tm' o.dst v,σ1,c):=by
 unfold ZQ at h
 split at h
 ·cases h
 ·rename_i hw
  simp only[Xb,Xd]at h
  obtain⟨rfl,rfl,rfl,rfl⟩:=h
  refine⟨rfl,fun tm' hr=>?_⟩
  simp only[ZQ,Zea (g:=o.guard) (tm:=tm') (tm1:=tm) (fun j b hg=>(hr j (Zd4 hg)).symm),hw]
 ·rename_i hw
  split at h
  ·rename_i hf
   split at h
   ·rename_i v' σ'' c' he
    simp only[Xb,Xd]at h
    obtain⟨rfl,rfl,rfl,rfl⟩:=h
    refine⟨rfl,fun tm' hr=>?_⟩
    simp only[ZQ,Zea (g:=o.guard) (tm:=tm') (tm1:=tm) (fun j b hg=>(hr j (Zd4 hg)).symm),hw]
    rw[if_pos hf,<-Zhb (tm:=tm) (tm':=tm') (fun n hn=>hr n (Zhz hn)),he]
   ·cases h
  ·cases h
theorem Zkb{o:AOp}{v:AVal}{c:Cls}(h:ZQ O bf o sq tm σ=some (v,tm1,σ1,c))(hn:Zem c=true) :
  ∃ ob,tm1=tput tm o.dst v/\σ1=Zbv σ sq ob/\(ob.isSome=true->nsite o.ins≠0/\freeAt σ sq=true)/\ob≠some .free/\ZfH σ c.rd /\
   ∀ tm' σ2,(∀ n∈o.reads,tget tm n=tget tm' n)->Agree σ σ2 c.rd->(nsite o.ins≠0->freeAt σ sq=true->freeAt σ2 sq=true)->ZQ O bf o sq tm' σ2=some (v,tput tm' o.dst v,Zbv σ2 sq ob,c):=by
 simp only[Zem,Xk,W8,W3]at hn
 unfold ZQ at h
 split at h
 ·cases h
 ·rename_i hw
  simp only[Xb,Xd]at h
  obtain⟨rfl,rfl,rfl,rfl⟩:=h
  refine⟨none,rfl,rfl,by simp,by simp,Zeo,fun tm' σ2 hr _ _=>?_⟩
  simp only[ZQ,Zea (g:=o.guard) (tm:=tm') (tm1:=tm) (fun j b hg=>(hr j (Zd4 hg)).symm),hw,Zbv]
 ·rename_i hw
  split at h
  ·rename_i hf
   split at h
   ·rename_i v' σ'' c' he
    simp only[Xb,Xd]at h
    obtain⟨rfl,rfl,rfl,rfl⟩:=h
    obtain⟨ob,e1,e2,e3,e4,e5⟩:=ZQk he hn.1 hn.2
    refine⟨ob,rfl,e1,fun ho=>⟨e2 ho,?_⟩,e3,e4,fun tm' σ2 hr hA hfr=>?_⟩
    ·have:=e2 ho
     simpa[this]using hf
    ·have hf2:(nsite o.ins==0 ||freeAt σ2 sq)=true:=by
      by_cases h0:nsite o.ins=0
      ·simp[h0]
      ·simp only[WB,beq_iff_eq,h0,false_or]at hf ⊢
       exact hfr h0 hf
     simp only[ZQ,Zea (g:=o.guard) (tm:=tm') (tm1:=tm) (fun j b hg=>(hr j (Zd4 hg)).symm),hw]
     have e5':execI O bf tm σ2 sq o.ins=some (v',Zbv σ2 sq ob,c'):=e5 σ2 hA
     rw[if_pos hf2,<-Zhb (tm:=tm) (tm':=tm') (fun n hn=>hr n (Zhz hn)),e5']
   ·cases h
  ·cases h
theorem Zgb{s:Nat}:freeAt σ s=true↔σ[s]?=some .free:=by
 unfold freeAt
 split
 ·rename_i h;simp[h]
 ·rename_i h
  constructor
  ·intro h';cases h'
  ·intro h';exact absurd h' h
theorem ZkF{s t:Nat}{ob:Option ZO}(h:ob.isSome=true->s≠t):(Zbv σ s ob)[t]?=σ[t]?:=by
 cases ob with
 |none=>rfl
 |some b=>simp only[Zbv];rw[Xx,if_neg (h rfl)]
theorem ZI9{s t:Nat}{ob oc:Option ZO}(h:ob.isSome=true->oc.isSome=true->s≠t):Zbv (Zbv σ s ob) t oc=Zbv (Zbv σ t oc) s ob:=by
 cases ob with
 |none=>cases oc<;>rfl
 |some b =>
  cases oc with
  |none=>rfl
  |some c=>simp only[Zbv];exact Xae b c (h rfl rfl)
theorem ZVP{x y:AVal}(h:ZdX x y=true):x=y:=by
 unfold ZdX at h
 split at h
 all_goals first
  |rfl
  |(cases h;done)
  |(simp only[Xk,decide_eq_true_eq,beq_iff_eq]at h;simp_all;done)
theorem ZmK{o:AOp}{v:AVal}{c:Cls}(hc:Z6 o.ins=true)(h:ZQ O bf o sq tm σ=some (v,tm1,σ1,c)) :
  (ZbM o.guard tm=some false/\v=.tup []/\σ1=σ/\c={}) \/
  (ZbM o.guard tm=some true/\(nsite o.ins==0 ||freeAt σ sq)=true/\∃ f own view args,own<=nsite o.ins/\(∀ tm' σ2 v2 σ3 c2,(∀ n∈o.reads,tget tm n=tget tm' n)->(nsite o.ins==0 ||freeAt σ2 sq)=true->Zj O bf σ2 sq f own view args=some (v2,σ3,c2)->ZQ O bf o sq tm' σ2=some (v2,tput tm' o.dst v2,σ3,c2))/\Zj O bf σ sq f own view args=some (v,σ1,c)):=by
 unfold ZQ at h
 split at h
 ·cases h
 ·rename_i hw
  simp only[Xb,Xd]at h
  obtain⟨rfl,rfl,rfl,rfl⟩:=h
  exact Xr ⟨hw,rfl,rfl,rfl⟩
 ·rename_i hw
  split at h
  ·rename_i hf
   split at h
   ·rename_i v' σ'' c' he
    simp only[Xb,Xd]at h
    obtain⟨rfl,rfl,rfl,rfl⟩:=h
    refine XE ⟨hw,hf,?_⟩
    have gen:∀ tm' σ2,(∀ n∈o.reads,tget tm n=tget tm' n)->(nsite o.ins==0 ||freeAt σ2 sq)=true->∀ v2 σ3 c2,execI O bf tm σ2 sq o.ins=some (v2,σ3,c2)->ZQ O bf o sq tm' σ2=some (v2,tput tm' o.dst v2,σ3,c2):=by
     intro tm' σ2 hr hf2 v2 σ3 c2 he2
     simp only[ZQ,Zea (g:=o.guard) (tm:=tm') (tm1:=tm) (fun j b hg=>(hr j (Zd4 hg)).symm),hw]
     rw[if_pos hf2,<-Zhb (tm:=tm) (tm':=tm') (fun n hn=>hr n (Zhz hn)),he2]
    cases hins:o.ins with
    |call f own view args =>
     rw[hins]at he gen
     simp only[execI]at he gen
     refine⟨f,own,view,args.map (·.ev tm),XF _,fun tm' σ2 v2 σ3 c2 hr hf2 h2=>?_,he⟩
     exact gen tm' σ2 hr hf2 v2 σ3 c2 h2
    |callv x args =>
     rw[hins]at he gen
     simp only[execI]at he
     split at he
     ·rename_i f caps hx
      refine⟨(if f<1000000 then f else f-1000000),4,false,(if f<1000000 then args.map (·.ev tm)++caps else caps++args.map (·.ev tm)),by simp[nsite],fun tm' σ2 v2 σ3 c2 hr hf2 h2=>?_,he⟩
      refine gen tm' σ2 hr hf2 v2 σ3 c2 ?_
      simp only[execI,hx]
      exact h2
     ·cases he
    |_=>rw[hins]at hc;simp[Z6]at hc
   ·cases h
  ·cases h
theorem ZV4{o:AOp}{v:AVal}{c:Cls}{s:Nat}(hc:Z6 o.ins=true)(h:ZQ O bf o sq tm σ=some (v,tm1,σ1,c))(hs:σ1[s]?=some .free)(hne:∀ i,i<nsite o.ins->sq+i≠s) :
  σ[s]?=some .free/\∀ b tm',(∀ n∈o.reads,tget tm n=tget tm' n)->ZQ O bf o sq tm' (σ.set s b)=some (v,tput tm' o.dst v,σ1.set s b,c):=by
 have h0:=h
 rcases ZmK hc h with⟨hw,rfl,rfl,rfl⟩ |⟨hw,hf,f,own,view,args,ho,gen,hg⟩
 ·refine⟨hs,fun b tm' hr=>?_⟩
  simp only[ZQ,Zea (g:=o.guard) (tm:=tm') (tm1:=tm) (fun j b hg=>(hr j (Zd4 hg)).symm),hw]
 ·obtain⟨k1,k2⟩:=ZxY (b:=.free) hg hs (fun i hi=>hne i (by omega))
  refine⟨k1,fun b tm' hr=>gen tm' _ _ _ _ hr ?_ (ZxY (b:=b) hg hs (fun i hi=>hne i (by omega))).2⟩
  by_cases h0:nsite o.ins=0
  ·simp[h0]
  ·simp only[WB,beq_iff_eq,h0,false_or,Zgb]at hf ⊢
   have:=hne 0 (by omega)
   rw[Xx,if_neg (by intro e;exact this (by simpa using e.symm))]
   exact hf
theorem ZVf{o:AOp}{v:AVal}{c:Cls}{s:Nat}(hc:Z6 o.ins=true)(h:ZQ O bf o sq tm σ=some (v,tm1,σ1,c))(hs:σ1[s]?=some .free):σ[s]?=some .free:=by
 rcases ZmK hc h with⟨hw,rfl,rfl,rfl⟩ |⟨hw,hf,f,own,view,args,ho,gen,hg⟩
 ·exact hs
 ·exact ZFh hg hs
theorem ZTa{o:AOp}{v:AVal}{c:Cls}{t:Nat}{cs:List AVal}(hc:Z6 o.ins=true)(h:ZQ O bf o sq tm σ=some (v,tm1,σ1,c))(ha:c.any=true)(ht:σ[t]?=some (.var cs)) :
  (c.upd.lookup t=none->σ1[t]?=some (.var cs))/\(∀ cs2,c.upd.lookup t=some cs2->σ1[t]?=some (.var cs2)):=by
 rcases ZmK hc h with⟨hw,rfl,rfl,rfl⟩ |⟨hw,hf,f,own,view,args,ho,gen,hg⟩
 ·cases ha
 ·exact ZKq hg ha ht
theorem ZSv {σ σ1 : Za} {sq k bytes : Nat} {x y v : AVal} {c : Cls} {t : Nat} {cs : List AVal} (h : ZaE σ sq k bytes x y = some (v, σ1, c)) (hs : sq ≠ t) (ht : σ[t]? = some (.var cs)) : σ1[t]? = some (.var cs) := by
  have key : ∀ (u : Nat) (b : ZO), (u = sq \/ ∃ b0, σ[u]? = some b0 /\ ∀ cs, b0 ≠ .var cs) -> (σ.set u b)[t]? = some (.var cs) := by
    intro u b hu
    rw [Xx, if_neg, ht]
    rintro rfl
    rcases hu with rfl | ⟨b0, h1, h2⟩
    . exact hs rfl
    . rw [ht] at h1; injection h1 with h1; exact h2 _ h1.symm
  unfold ZaE at h
  repeat' split at h
  all_goals first
    | (cases h; done)
    | (unfold ZgP at h
       repeat' split at h
       all_goals first
         | (cases h; done)
         | (simp only [Xb, Xd] at h
            obtain ⟨-, rfl, -⟩ := h
            first
              | exact key _ _ (Xr rfl)
              | exact key _ _ (XE ⟨_, by assumption, by simp⟩)))
    | (simp only [Xb, Xd] at h
       obtain ⟨-, rfl, -⟩ := h
       first
         | exact ht
         | exact key _ _ (Xr rfl)
         | exact key _ _ (XE ⟨_, by assumption, by simp⟩))
theorem ZOp{o:AOp}{v:AVal}{c:Cls}{t:Nat}{cs:List AVal}(hc:Zah o.ins=true)(h:ZQ O bf o sq tm σ=some (v,tm1,σ1,c))(ht:σ[t]?=some (.var cs)):σ1[t]?=some (.var cs):=by
 unfold ZQ at h
 split at h
 ·cases h
 ·simp only[Xb,Xd]at h
  obtain⟨rfl,rfl,rfl,rfl⟩:=h
  exact ht
 ·split at h
  ·rename_i hf
   split at h
   ·rename_i v' σ'' c' he
    simp only[Xb,Xd]at h
    obtain⟨rfl,rfl,rfl,rfl⟩:=h
    cases hins:o.ins with
    |app k bytes z x y =>
     rw[hins]at he hf
     simp only[execI]at he
     refine ZSv he ?_ ht
     rintro rfl
     simp[nsite,freeAt,ht]at hf
    |_=>rw[hins]at hc;simp[Zah]at hc
   ·cases h
  ·cases h
theorem ZvD {σ σ1 : Za} {sq k bytes : Nat} {x y v : AVal} {c : Cls} {s : Nat} (h : ZaE σ sq k bytes x y = some (v, σ1, c)) (hs : σ1[s]? = some .free) : σ[s]? = some .free := by
  have key : ∀ (u : Nat) (b0 : ZO), b0 ≠ .free -> (σ.set u b0)[s]? = some .free -> σ[s]? = some .free := by
    intro u b0 hb hh
    rw [Xx] at hh
    split at hh
    . split at hh
      . injection hh with hh; exact absurd hh hb
      . cases hh
    . exact hh
  unfold ZaE at h
  repeat' split at h
  all_goals first
    | (cases h; done)
    | (unfold ZgP at h
       repeat' split at h
       all_goals first
         | (cases h; done)
         | (simp only [Xb, Xd] at h
            obtain ⟨-, rfl, -⟩ := h
            exact key _ _ (by simp) hs))
    | (simp only [Xb, Xd] at h
       obtain ⟨-, rfl, -⟩ := h
       first
         | exact hs
         | exact key _ _ (by simp) hs)
theorem ZK8 {σ σ1 : Za} {sq k bytes : Nat} {x y v : AVal} {c : Cls} {s : Nat} (ha : c.any = false) (h : ZaE σ sq k bytes x y = some (v, σ1, c)) (hs : σ[s]? = some .free) (hne : sq ≠ s) (b : ZO) : ZaE (σ.set s b) sq k bytes x y = some (v, σ1.set s b, c) := by
  have get : ∀ (t : Nat) (b0 : ZO), σ[t]? = some b0 -> b0 ≠ .free -> (σ.set s b)[t]? = some b0 /\ s ≠ t := by
    intro t b0 h1 h2
    have hst : s ≠ t := by
      rintro rfl
      rw [hs] at h1; injection h1 with h1; exact h2 h1.symm
    exact ⟨by rw [Xn hst]; exact h1, hst⟩
  have hel : ∀ ys us, ZY σ y = some (ys, us) -> ZY (σ.set s b) y = some (ys, us) := by
    intro ys us he
    unfold ZY at he ⊢
    split at he
    . exact he
    . exact he
    . split at he
      . rename_i hr
        rw [(get _ _ hr (by simp)).1]; exact he
      . rename_i hr
        rw [(get _ _ hr (by simp)).1]; exact he
      . cases he
    . cases he
  unfold ZaE at h
  cases he : ZY σ y with
  | none =>
    rw [he] at h
    simp only at h
    unfold ZgP at h
    repeat' split at h
    all_goals first
      | (cases h; done)
      | (simp only [Xb, Xd] at h
         obtain ⟨-, -, rfl⟩ := h
         cases ha)
  | some z =>
    obtain ⟨ys, us⟩ := z
    rw [he] at h
    simp only at h
    unfold ZaE
    rw [hel _ _ he]
    simp only
    split at h
    case isFalse => cases h
    rename_i hk
    rw [if_pos hk]
    split at h
    . split at h
      case isFalse => cases h
      rename_i h1
      simp only [Xb, Xd] at h
      obtain ⟨rfl, rfl, rfl⟩ := h
      simp only [h1, if_true]
      rw [Xae _ _ hne]
    . split at h
      case isFalse => cases h
      rename_i h1
      simp only [h1, and_self, if_true]
      split at h
      . simp only [Xb, Xd] at h
        obtain ⟨rfl, rfl, rfl⟩ := h
        rfl
      . simp only [Xb, Xd] at h
        obtain ⟨rfl, rfl, rfl⟩ := h
        rw [Xae _ _ hne]
    . split at h
      . rename_i hr
        obtain ⟨g1, g2⟩ := get _ _ hr (by simp)
        rw [g1]
        simp only
        split at h
        case isFalse => cases h
        rename_i h1
        rw [if_pos h1]
        split at h
        . rename_i h2
          rw [if_pos h2]
          simp only [Xb, Xd] at h
          obtain ⟨rfl, rfl, rfl⟩ := h
          rw [Xae _ _ g2]
        . rename_i h2
          rw [if_neg h2]
          split at h
          case isFalse => cases h
          rename_i h3
          rw [if_pos h3]
          simp only [Xb, Xd] at h
          obtain ⟨rfl, rfl, rfl⟩ := h
          rw [Xae _ _ g2]
      . cases h
    . cases h
theorem Zy1{o:AOp}{v:AVal}{c:Cls}(hc:Zah o.ins=true)(h:ZQ O bf o sq tm σ=some (v,tm1,σ1,c)) :
  (ZbM o.guard tm=some false/\v=.tup []/\σ1=σ/\c={})\/(freeAt σ sq=true/\∃ k bytes x y,ZaE σ sq k bytes x y=some (v,σ1,c)/\∀ tm' σ2 v2 σ3 c2,(∀ n∈o.reads,tget tm n=tget tm' n)->freeAt σ2 sq=true->ZaE σ2 sq k bytes x y=some (v2,σ3,c2)->ZQ O bf o sq tm' σ2=some (v2,tput tm' o.dst v2,σ3,c2)):=by
 unfold ZQ at h
 split at h
 ·cases h
 ·rename_i hw
  simp only[Xb,Xd]at h
  obtain⟨rfl,rfl,rfl,rfl⟩:=h
  exact Xr ⟨hw,rfl,rfl,rfl⟩
 ·rename_i hw
  split at h
  ·rename_i hf
   split at h
   ·rename_i v' σ'' c' he
    simp only[Xb,Xd]at h
    obtain⟨rfl,rfl,rfl,rfl⟩:=h
    cases hins:o.ins with
    |app k bytes z x y =>
     have he0:=he
     rw[hins]at he hf
     simp only[execI]at he
     refine XE ⟨by simpa[nsite]using hf,k,bytes,_,_,he,fun tm' σ2 v2 σ3 c2 hr hf2 h2=>?_⟩
     simp only[ZQ,Zea (g:=o.guard) (tm:=tm') (tm1:=tm) (fun j b hg=>(hr j (Zd4 hg)).symm),hw]
     rw[if_pos (by rw[hf2];simp),<-Zhb (tm:=tm) (tm':=tm') (fun n hn=>hr n (Zhz hn)),hins]
     simp only[execI,h2]
    |_=>rw[hins]at hc;simp[Zah]at hc
   ·cases h
  ·cases h
theorem Zqq{t:Nat}{cs:List AVal}:∀ (ts:List Nat) (σ:Za),σ[t]?=some (.var cs)->(Zr σ ts)[t]?=some (.var cs)
 | [],σ,h=>h
 |u::ts,σ,h=>by
  unfold Zr
  split
  ·rename_i g k xs hu
   refine Zqq ts _ ?_
   rw[Xx,if_neg,h]
   rintro rfl
   rw[hu]at h;cases h
  ·exact Zqq ts σ h
theorem ZRs {σ σ1 : Za} {k : Nat} {a x v : AVal} {c : Cls} {t : Nat} {cs : List AVal} (h : stA σ k a x = some (v, σ1, c)) (hw : c.wr.contains t = false) (ht : σ[t]? = some (.var cs)) : σ1[t]? = some (.var cs) := by
  unfold stA at h
  repeat' split at h
  all_goals first
    | (cases h; done)
    | (simp only [Xb, Xd] at h
       obtain ⟨-, rfl, rfl⟩ := h
       simp only [List.contains_cons, W4, Bool.or_false, Bool.or_eq_false_iff, beq_eq_false_iff_ne, ne_eq] at hw
       first
         | (rw [Xx, if_neg (fun e => hw e.symm)]; exact ht)
         | (rw [Xx, if_neg (fun e => hw.1 e.symm)]; exact Zqq _ _ ht))
theorem ZBM{o:AOp}{v:AVal}{c:Cls}{t:Nat}{cs:List AVal}(hc:Zau o.ins=true)(hw:c.wr.contains t=false)(h:ZQ O bf o sq tm σ=some (v,tm1,σ1,c))(ht:σ[t]?=some (.var cs)):σ1[t]?=some (.var cs):=by
 unfold ZQ at h
 split at h
 ·cases h
 ·simp only[Xb,Xd]at h
  obtain⟨rfl,rfl,rfl,rfl⟩:=h
  exact ht
 ·split at h
  ·rename_i hf
   split at h
   ·rename_i v' σ'' c' he
    simp only[Xb,Xd]at h
    obtain⟨rfl,rfl,rfl,rfl⟩:=h
    cases hins:o.ins with
    |st k x y =>
     rw[hins]at he hf
     simp only[execI]at he
     exact ZRs he hw ht
    |_=>rw[hins]at hc;simp[Zau]at hc
   ·cases h
  ·cases h
theorem Zr3 {o : AOp} {v : AVal} {c ci : Cls} (hl : Zaf o.ins = true) (h : ZQ O bf o sq tm σ = some (v, tm1, σ1, c)) (hg : Zag c ci = true) :
    ∃ t k off, c.got = [(t, k, off, v)] /\ σ1 = σ /\ tm1 = tput tm o.dst v /\ (∀ tm' σ2, (∀ n ∈ o.reads, tget tm n = tget tm' n) -> (∃ cs, σ2[t]? = some (.var cs) /\ partA k cs off = some v) -> ZQ O bf o sq tm' σ2 = some (v, tput tm' o.dst v, σ2, c)) /\ ∃ cs, σ[t]? = some (.var cs) /\ partA k cs off = some v := by
  unfold ZQ at h
  split at h
  . cases h
  . simp only [Xb, Xd] at h
    obtain ⟨rfl, rfl, rfl, rfl⟩ := h
    simp [Zag] at hg
  . rename_i hw
    split at h
    . rename_i hf
      split at h
      . rename_i v' σ'' c' he
        simp only [Xb, Xd] at h
        obtain ⟨rfl, rfl, rfl, rfl⟩ := h
        cases hins : o.ins with
        | ld k a =>
          rw [hins] at he hf
          simp only [execI] at he
          have he0 := he
          unfold ldA at he
          split at he
          . rename_i t off ha
            split at he
            . rename_i cs hcs
              split at he
              . rename_i v2 hp
                simp only [Xb, Xd] at he
                obtain ⟨rfl, rfl, rfl⟩ := he
                refine ⟨t, k, off, rfl, rfl, rfl, fun tm' σ2 hr ⟨cs2, h1, h2⟩ => ?_, cs, hcs, hp⟩
                simp only [ZQ, Zea (g := o.guard) (tm := tm') (tm1 := tm) (fun j b hg => (hr j (Zd4 hg)).symm), hw]
                rw [if_pos (by rw [hins]; rfl), <- Zhb (tm := tm) (tm' := tm') (fun n hn => hr n (Zhz hn)), hins]
                simp only [execI, ha, ldA, h1, h2]
              . cases he
            . cases he
          . repeat' split at he
            all_goals first
              | (cases he; done)
              | (simp only [Xb, Xd] at he
                 obtain ⟨rfl, rfl, rfl⟩ := he
                 simp [Zag] at hg)
          . repeat' split at he
            all_goals first
              | (cases he; done)
              | (simp only [Xb, Xd] at he
                 obtain ⟨rfl, rfl, rfl⟩ := he
                 simp [Zag] at hg)
          . cases he
        | _ => rw [hins] at hl; simp [Zaf] at hl
      . cases h
    . cases h
theorem ZHU{o:AOp}{v:AVal}{c:Cls}{s:Nat}(hc:Z6 o.ins=true\/(Zah o.ins=true/\(!c.any)=true))(h:ZQ O bf o sq tm σ=some (v,tm1,σ1,c))(hs:σ1[s]?=some .free):σ[s]?=some .free:=by
 rcases hc with hc |⟨hc,_⟩
 ·exact ZVf hc h hs
 ·rcases Zy1 hc h with⟨_,_,rfl,_⟩ |⟨_,_,_,_,_,ha,_⟩
  ·exact hs
  ·exact ZvD ha hs
theorem ZLD{o:AOp}{v:AVal}{c:Cls}{s:Nat}(hc:Z6 o.ins=true\/(Zah o.ins=true/\(!c.any)=true))(h:ZQ O bf o sq tm σ=some (v,tm1,σ1,c))(hs:σ1[s]?=some .free)(hne:∀ i,i<nsite o.ins->sq+i≠s) :
  σ[s]?=some .free/\∀ b tm',(∀ n∈o.reads,tget tm n=tget tm' n)->ZQ O bf o sq tm' (σ.set s b)=some (v,tput tm' o.dst v,σ1.set s b,c):=by
 rcases hc with hc |⟨hc,hany⟩
 ·exact ZV4 hc h hs hne
 ·have hn:sq≠s:=by
   have : nsite o.ins=1:=by
    cases hins:o.ins with
    |app k bytes z x y=>rfl
    |_=>rw[hins]at hc;simp[Zah]at hc
   simpa using hne 0 (by omega)
  rcases Zy1 hc h with⟨hw,rfl,rfl,rfl⟩ |⟨hf,k,bytes,x,y,ha,gen⟩
  ·refine⟨hs,fun b tm' hr=>?_⟩
   simp only[ZQ,Zea (g:=o.guard) (tm:=tm') (tm1:=tm) (fun j b hg=>(hr j (Zd4 hg)).symm),hw]
  ·have h0:=ZvD ha hs
   refine⟨h0,fun b tm' hr=>gen tm' _ _ _ _ hr ?_ (ZK8 (by simpa using hany) ha h0 hn b)⟩
   rw[Zgb]at hf ⊢
   rw[Xn (fun e=>hn e.symm)]
   exact hf
def Frz(σ σ2:Za):Prop:=∀ t:Nat,σ2[t]?=σ[t]?\/∃ (g k:Nat) (xs:List AVal),σ[t]?=some (ZO.row g k xs)/\σ2[t]?=some (ZO.frow g k xs)
theorem Frz.refl(σ:Za):Frz σ σ:=fun _=>Xr rfl
theorem ZmD:∀ (ts:List Nat) (σ:Za),Frz σ (Zr σ ts)
 | [],σ=>Frz.refl σ
 |t::ts,σ=>by
  unfold Zr
  split
  ·rename_i g k xs ht
   intro u
   have ih:=ZmD ts (σ.set t (.frow g k xs)) u
   have htl:t<σ.length:=(Xl.1 ht).1
   by_cases e:u=t
   ·subst e
    have e1:(σ.set u (.frow g k xs))[u]?=some (.frow g k xs):=by simp[htl]
    rw[e1]at ih
    rcases ih with ih |⟨_,_,_,ih,_⟩
    ·exact XE ⟨g,k,xs,ht,ih⟩
    ·cases ih
   ·rw[Xn (fun h=>e h.symm)]at ih
    exact ih
  ·exact ZmD ts σ
theorem ZxF {σ σ2 σ' : Za} {k : Option Nat} {a v : AVal} {c : Cls} (hf : Frz σ σ2) (h : ldA σ k a = some (v, σ', c)) : σ' = σ /\ ldA σ2 k a = some (v, σ2, c) := by
  unfold ldA at h ⊢
  split at h
  . rename_i t o
    rcases hf t with e | ⟨_, _, _, e1, _⟩
    . simp only [e]
      repeat' split at h
      all_goals first
        | (cases h; done)
        | (simp only [Xb, Xd] at h
           obtain ⟨rfl, rfl, rfl⟩ := h
           simp_all)
    . rw [e1] at h; cases h
  . rename_i t g i o
    rcases hf t with e | ⟨g1, k1, xs1, e1, e2⟩
    . simp only [e]
      repeat' split at h
      all_goals first
        | (cases h; done)
        | (simp only [Xb, Xd] at h
           obtain ⟨rfl, rfl, rfl⟩ := h
           simp_all)
    . simp only [e1] at h
      simp only [e2]
      repeat' split at h
      all_goals first
        | (cases h; done)
        | (simp only [Xb, Xd] at h
           obtain ⟨rfl, rfl, rfl⟩ := h
           simp_all)
  . repeat' split at h
    all_goals first
      | (cases h; done)
      | (simp only [Xb, Xd] at h
         obtain ⟨rfl, rfl, rfl⟩ := h
         simp_all)
  . cases h
theorem ZvW {σ σ2 σ' : Za} {k : Nat} {a i v : AVal} {c : Cls} (hf : Frz σ σ2) (h : Zb9 σ k a i = some (v, σ', c)) : σ' = σ /\ Zb9 σ2 k a i = some (v, σ2, c) := by
  unfold Zb9 at h ⊢
  split at h
  . split at h
    . rename_i h0
      rw [if_pos h0]
      split at h
      . repeat' split at h
        all_goals first
          | (cases h; done)
          | (simp only [Xb, Xd] at h
             obtain ⟨rfl, rfl, rfl⟩ := h
             simp_all)
      . rename_i t g p n
        rcases hf t with e | ⟨g1, k1, xs1, e1, e2⟩
        . simp only [e]
          repeat' split at h
          all_goals first
            | (cases h; done)
            | (simp only [Xb, Xd] at h
               obtain ⟨rfl, rfl, rfl⟩ := h
               simp_all)
        . simp only [e1] at h
          simp only [e2]
          repeat' split at h
          all_goals first
            | (cases h; done)
            | (simp only [Xb, Xd] at h
               obtain ⟨rfl, rfl, rfl⟩ := h
               simp_all)
      . cases h
    . cases h
  . cases h
theorem ZGc{o:AOp}{v:AVal}{c:Cls}(hl:Zas o.ins=true)(h:ZQ O bf o sq tm σ=some (v,tm1,σ1,c)) :
  σ1=σ/\tm1=tput tm o.dst v/\∀ tm' σ2,(∀ n∈o.reads,tget tm n=tget tm' n)->Frz σ σ2->ZQ O bf o sq tm' σ2=some (v,tput tm' o.dst v,σ2,c):=by
 unfold ZQ at h
 split at h
 ·cases h
 ·rename_i hw
  simp only[Xb,Xd]at h
  obtain⟨rfl,rfl,rfl,rfl⟩:=h
  refine⟨rfl,rfl,fun tm' σ2 hr _=>?_⟩
  simp only[ZQ,Zea (g:=o.guard) (tm:=tm') (tm1:=tm) (fun j b hg=>(hr j (Zd4 hg)).symm),hw]
 ·rename_i hw
  split at h
  ·rename_i hf
   split at h
   ·rename_i v' σ'' c' he
    simp only[Xb,Xd]at h
    obtain⟨rfl,rfl,rfl,rfl⟩:=h
    cases hins:o.ins with
    |ld k a =>
     rw[hins]at he
     simp only[execI]at he
     have e1:=(ZxF (Frz.refl σ) he).1
     subst e1
     refine⟨rfl,rfl,fun tm' σ2 hr hz=>?_⟩
     simp only[ZQ,Zea (g:=o.guard) (tm:=tm') (tm1:=tm) (fun j b hg=>(hr j (Zd4 hg)).symm),hw]
     rw[if_pos (by rw[hins];rfl),<-Zhb (tm:=tm) (tm':=tm') (fun n hn=>hr n (Zhz hn)),hins]
     simp only[execI,(ZxF hz he).2]
    |iaddr k x i =>
     rw[hins]at he
     simp only[execI]at he
     have e1:=(ZvW (Frz.refl σ) he).1
     subst e1
     refine⟨rfl,rfl,fun tm' σ2 hr hz=>?_⟩
     simp only[ZQ,Zea (g:=o.guard) (tm:=tm') (tm1:=tm) (fun j b hg=>(hr j (Zd4 hg)).symm),hw]
     rw[if_pos (by rw[hins];rfl),<-Zhb (tm:=tm) (tm':=tm') (fun n hn=>hr n (Zhz hn)),hins]
     simp only[execI,(ZvW hz he).2]
    |_=>rw[hins]at hl;simp[Zas]at hl
   ·cases h
  ·cases h
theorem ZIs{o:AOp}{v:AVal}{c:Cls}(hl:Zar o.ins=true)(h:ZQ O bf o sq tm σ=some (v,tm1,σ1,c)):Frz σ σ1:=by
 unfold ZQ at h
 split at h
 ·cases h
 ·simp only[Xb,Xd]at h
  obtain⟨rfl,rfl,rfl,rfl⟩:=h
  exact Frz.refl _
 ·split at h
  ·split at h
   ·rename_i v' σ'' c' he
    simp only[Xb,Xd]at h
    obtain⟨rfl,rfl,rfl,rfl⟩:=h
    cases hins:o.ins with
    |bslice own k n z parts =>
     rw[hins]at hl he
     simp only[Zar,W3]at hl
     subst hl
     simp only[execI]at he
     split at he
     ·cases he
     ·rename_i ys ts hv
      split at he
      ·simp only[Xj,if_false,Xb,Xd]at he
       obtain⟨_,rfl,_⟩:=he
       exact ZmD ts σ
      ·cases he
    |_=>rw[hins]at hl;simp[Zar]at hl
   ·cases h
  ·cases h
theorem ZFy{f own:Nat}{view:Bool}{args:List AVal}{v:AVal}{c:Cls}(h:Zj O bf σ sq f own view args=some (v,σ',c))(ha:c.any=true){t:Nat}{cs:List AVal}(hn:c.upd.lookup t=none)(hlt:t<sq)(ht:σ'[t]?=some (.var cs)):σ[t]?=some (.var cs):=by
 unfold Zj at h
 split at h
 ·cases h
 rename_i xs ts hsh
 generalize hids:Zs (Zr σ ts) 1000 (Zt xs) []=ids at h
 unfold ZbK at h
 split at h
 case isFalse=>cases h
 generalize Z3 view ids.length (O f (Zh (Zk (Zr σ ts) 0 ids) xs) (Zn (Zr σ ts) 0 ids (Zk (Zr σ ts) 0 ids) ids 0))=q at h
 cases q with
 |none=>simp only[ZaA]at h;cases h
 |some q =>
  obtain⟨r,hp⟩:=q
  simp only[ZaA]at h
  split at h
  ·split at h
   ·simp only[Xb,Xd]at h
    rw[<-h.2.2]at ha;cases ha
   split at h
   ·simp only[Xb,Xd]at h
    rw[<-h.2.2]at ha;cases ha
   ·simp only[Xb,Xd]at h
    rw[<-h.2.2]at ha;cases ha
  ·split at h
   ·simp only[Xb,Xd]at h
    rw[<-h.2.2]at ha;cases ha
   split at h
   ·rename_i hcc
    simp only[Xb,Xd]at h
    obtain⟨_,rfl,rfl⟩:=h
    have hm:t∉ids:=fun hm=>Zmq hn hm ht
    rw[Zju (fun i hi e=>by
     rw[XB]at e
     unfold ZaN at e
     rw[Xh]at e
     rcases Wx i ids.length with hl |hl
     ·rw[We hl]at e
      simp only[WF]at e
      exact hm (e ▸ Xag hl)
     ·rw[XQ hl]at e
      simp only[Xah]at e
      omega)]at ht
    rcases ZmD ts σ t with e |⟨g1,k1,xs1,e1,e2⟩
    ·rw[<-e];exact ht
    ·rw[e2]at ht;cases ht
   ·cases h
theorem ZKf{o:AOp}{v:AVal}{c:Cls}{t:Nat}{cs:List AVal}(hc:Z6 o.ins=true)(h:ZQ O bf o sq tm σ=some (v,tm1,σ1,c))(ha:c.any=true)(hn:c.upd.lookup t=none)(hlt:t<sq)(ht:σ1[t]?=some (.var cs)):σ[t]?=some (.var cs):=by
 rcases ZmK hc h with⟨hw,rfl,rfl,rfl⟩ |⟨hw,hf,f,own,view,args,ho,gen,hg⟩
 ·cases ha
 ·exact ZFy hg ha hn hlt ht
theorem ZAb{oj oi:AOp}{sj si:Nat}{vj vi:AVal}{cj ci:Cls}(hj:ZQ O bf oj sj tm σ=some (vj,tm1,σ1,cj))(hi:ZQ O bf oi si tm1 σ1=some (vi,tm2,σ2,ci))(hap:oj.apartT oi=true)
  (hp:ZcS oj oi cj ci sj=true) (hs:nsite oj.ins≠0->nsite oi.ins≠0->sj≠si) (hs2:sj+nsite oj.ins<=si):∃ tm1' σ1',ZQ O bf oi si tm σ=some (vi,tm1',σ1',ci)/\ZQ O bf oj sj tm1' σ1'=some (vj,tm2,σ2,cj):=by
 have hd:(∀ d,oj.dst=some d->d∉oi.reads)/\(∀ d,oj.dst=some d->oi.dst≠some d)/\(∀ d,oi.dst=some d->d∉oj.reads):=by
  unfold AOp.apartT at hap
  simp only[Xk]at hap
  refine⟨fun d hd hr=>?_,fun d hd he=>?_,fun d hd hr=>?_⟩
  ·have:=hap.1;rw[hd]at this;simp[hr]at this
  ·have:=hap.1;rw[hd]at this;simp[he]at this
  ·have:=hap.2;rw[hd]at this;simp[hr]at this
 obtain⟨d1,d2,d3⟩:=hd
 have rdI:∀ v n,n∈oi.reads->tget (tput tm oj.dst v) n=tget tm n:=fun v n hn=>ZvQ (by intro e;exact d1 n e hn)
 have rdJ:∀ v n,n∈oj.reads->tget tm n=tget (tput tm oi.dst v) n:=fun v n hn=>(ZvQ (by intro e;exact d3 n e hn)).symm
 unfold ZcS at hp
 simp only[WB,Xk]at hp
 have noWr_of:∀ {o:AOp} {c:Cls},Zcx o c=true->Zem c=true/\c.rd=[]/\nsite o.ins=0:=by
  intro o c h
  simp only[Zcx,Xk,beq_iff_eq,W8]at h
  exact⟨by simp[Zem,h.1.2,h.2],h.1.1.2,h.1.1.1⟩
 rcases hp with((((((hp |hp) |⟨⟨hp1,hp2⟩,hp3⟩) |⟨hp1,hp2,hp3⟩) |⟨⟨⟨hp1,hp2⟩,hp3⟩,hp4⟩) |⟨⟨hp1,hp2⟩,hp4⟩) |⟨hp1,hp2⟩) |⟨⟨⟨hp1,hp2⟩,hp3⟩,hp4⟩
 ·obtain⟨w1,w2,w3⟩:=noWr_of hp
  obtain⟨ob,rfl,rfl,e3,_,_,e6⟩:=Zkb hj w1
  have hob:ob=none:=by
   cases ob with
   |none=>rfl
   |some b=>exact absurd w3 (e3 rfl).1
  subst hob
  simp only[Zbv]at hi e6 ⊢
  obtain⟨rfl,f2⟩:=ZhC hi
  have g1:=f2 tm (rdI vj)
  refine⟨_,_,g1,?_⟩
  rw[e6 _ σ2 (rdJ vi) (by rw[w2];intro t ht;simp at ht) (fun h=>absurd w3 h),ZfI vi vj (fun d hd he=>d2 d he hd)]
 ·obtain⟨w1,w2,w3⟩:=noWr_of hp
  obtain⟨ob,rfl,rfl,e3,_,_,e6⟩:=Zkb hi w1
  have hob:ob=none:=by
   cases ob with
   |none=>rfl
   |some b=>exact absurd w3 (e3 rfl).1
  subst hob
  simp only[Zbv]at e6 ⊢
  obtain⟨rfl,f2⟩:=ZhC hj
  have g1:=e6 tm σ (rdI vj) (by rw[w2];intro t ht;simp at ht) (fun h=>absurd w3 h)
  refine⟨_,_,g1,?_⟩
  rw[f2 _ (rdJ vi),ZfI vi vj (fun d hd he=>d2 d he hd)]
 ·obtain⟨ob,rfl,rfl,a3,a4,a5,a6⟩:=Zkb hj hp1
  obtain⟨oc,rfl,rfl,b3,b4,b5,b6⟩:=Zkb hi hp2
  have hsne:ob.isSome=true->nsite oi.ins≠0->sj≠si:=fun h1 h2=>hs (a3 h1).1 h2
  have hrdi:∀ t∈ci.rd,ob.isSome=true->sj≠t:=by
   intro t ht ho e
   subst e
   rcases hp3 with hp3 |hp3
   ·exact(a3 ho).1 (by simpa using hp3)
   ·simp[ht]at hp3
  have g1:=b6 tm σ (rdI vj) (fun t ht=>(ZkF (hrdi t ht)).symm) (fun h2 hf=>by
   rw[Zgb]at hf ⊢
   rwa [ZkF (fun ho=>hsne ho h2)]at hf)
  refine⟨_,_,g1,?_⟩
  have hsi:oc.isSome=true->σ[si]?=some .free:=by
   intro ho
   have:=(b3 ho).2
   rw[Zgb,ZkF (fun ho'=>hsne ho' (b3 ho).1)]at this
   exact this
  rw[a6 _ (Zbv σ si oc) (rdJ vi) (fun t ht=>ZkF (fun ho e=>by
   subst e
   obtain⟨x,hx,hne⟩:=a5 si ht
   rw[hsi ho]at hx;injection hx with hx;exact hne hx.symm)) (fun h1 hf=>by
   rw[Zgb]at hf ⊢
   rwa [ZkF (fun ho=>(hs h1 (b3 ho).1).symm)]),ZfI vi vj (fun d hd he=>d2 d he hd),ZI9 (fun h1 h2=>(hs (a3 h2).1 (b3 h1).1).symm)]
 ·obtain⟨oc,rfl,rfl,b3,b4,b5,b6⟩:=Zkb hi hp2
  have hrd:ci.rd=[]:=by simpa using hp3
  obtain⟨rfl,f2⟩:=ZhC hj
  cases oc with
  |none =>
   simp only[Zbv]at b6 ⊢
   have g1:=b6 tm σ (rdI vj) (by rw[hrd];intro t ht;simp at ht) (fun h1 h2=>by
    rw[Zgb]at h2 ⊢
    exact ZHU hp1 hj h2)
   refine⟨_,_,g1,?_⟩
   rw[f2 _ (rdJ vi),ZfI vi vj (fun d hd he=>d2 d he hd)]
  |some b =>
   have hfr:=(b3 rfl).2
   rw[Zgb]at hfr
   obtain⟨k1,k2⟩:=ZLD hp1 hj hfr (fun i hi=>by omega)
   have g1:=b6 tm σ (rdI vj) (by rw[hrd];intro t ht;simp at ht) (fun h1 h2=>by
    rw[Zgb]at h2 ⊢;exact k1)
   refine⟨_,_,g1,?_⟩
   have:=k2 b (tput tm oi.dst vi) (rdJ vi)
   simp only[Zbv]
   rw[this,ZfI vi vj (fun d hd he=>d2 d he hd)]
 ·obtain⟨t,k,o,q1,rfl,rfl,q4,q5⟩:=Zr3 hp1 hj hp4
  obtain⟨rfl,f2⟩:=ZhC hi
  have g1:=f2 tm (rdI vj)
  refine⟨_,_,g1,?_⟩
  obtain⟨cs,q6,q7⟩:=q5
  obtain⟨r1,r2⟩:=ZTa hp2 hi hp3 q6
  have hv:∃ cs,σ2[t]?=some (.var cs)/\partA k cs o=some vj:=by
   unfold Zag at hp4
   rw[q1]at hp4
   simp only at hp4
   split at hp4
   ·rename_i hl;exact⟨cs,r1 hl,q7⟩
   ·rename_i cs2 hl
    split at hp4
    ·rename_i u hu
     rw[ZVP hp4]at hu
     exact⟨cs2,r2 cs2 hl,hu⟩
    ·cases hp4
  rw[q4 _ σ2 (rdJ vi) hv,ZfI vi vj (fun d hd he=>d2 d he hd)]
 ·obtain⟨t,k,o,q1,rfl,rfl,q4,q5⟩:=Zr3 hp1 hj hp4
  obtain⟨rfl,f2⟩:=ZhC hi
  have g1:=f2 tm (rdI vj)
  refine⟨_,_,g1,?_⟩
  obtain⟨cs,q6,q7⟩:=q5
  have hk:σ2[t]?=some (.var cs):=by
   rcases hp2 with hp2 |⟨hp2,hp3⟩
   ·exact ZOp hp2 hi q6
   ·refine ZBM hp2 ?_ hi q6
    unfold Zav at hp3
    rw[q1]at hp3
    simpa using hp3
  rw[q4 _ σ2 (rdJ vi) ⟨cs,hk,q7⟩,ZfI vi vj (fun d hd he=>d2 d he hd)]
 ·obtain⟨rfl,rfl,q⟩:=ZGc hp1 hj
  obtain⟨rfl,f2⟩:=ZhC hi
  have g1:=f2 tm (rdI vj)
  refine⟨_,_,g1,?_⟩
  rw[q _ σ2 (rdJ vi) (ZIs hp2 hi),ZfI vi vj (fun d hd he=>d2 d he hd)]
 ·have hgot:∃ t0 k0 o0 v0,ci.got=[(t0,k0,o0,v0)]/\t0<sj/\cj.upd.lookup t0=none:=by
   unfold Zaw at hp4
   split at hp4
   ·rename_i t0 k0 o0 v0 hg
    simp only[Xk,decide_eq_true_eq,Option.isNone_iff_eq_none]at hp4
    exact⟨t0,k0,o0,v0,hg,hp4.1,hp4.2⟩
   ·cases hp4
  obtain⟨t0,k0,o0,v0,hg,hlt,hnone⟩:=hgot
  have hg0:Zag ci {}=true:=by
   unfold Zag
   rw[hg]
   rfl
  obtain⟨rfl,f2⟩:=ZhC hj
  obtain⟨t,k,o,q1,rfl,rfl,q4,cs,q6,q7⟩:=Zr3 hp2 hi hg0
  rw[hg]at q1
  injection q1 with q1 _
  injection q1 with q1 _
  subst q1
  have hk:=ZKf hp1 hj hp3 hnone hlt q6
  have g1:=q4 tm σ (rdI vj) ⟨cs,hk,q7⟩
  refine⟨_,_,g1,?_⟩
  rw[f2 _ (rdJ vi),ZfI vi vj (fun d hd he=>d2 d he hd)]
inductive Zc0 (O:ZV) (bf:Nat->Bool) (ops:List AOp) (L:Nat) (cs:List Cls):List Nat->Tms->Za->Tms->Za->Prop
 |nil {tm:Tms} {σ:Za}:Zc0 O bf ops L cs [] tm σ tm σ
 |cons {i:Nat} {l:List Nat} {v:AVal} {tm tm1 tm2:Tms} {σ σ1 σ2:Za}:ZQ O bf (ops.getD i default) (L+sitesOf (ops.take i)) tm σ=some (v,tm1,σ1,cs.getD i {})->(∀ x,v≠.pan x)->Zc0 O bf ops L cs l tm1 σ1 tm2 σ2->Zc0 O bf ops L cs (i::l) tm σ tm2 σ2
theorem ZsB(ops:List AOp){k:Nat}(h:k<ops.length):sitesOf (ops.take (k+1))=sitesOf (ops.take k)+nsite (ops[k]).ins:=by
 rw[List.take_succ_eq_append_getElem h]
 simp only[sitesOf,X4,List.sum_append,Xm,Xt,List.sum_cons,List.sum_nil,Wc]
theorem Zz8{ops:List AOp}{L:Nat}:∀ (m k:Nat) {cs cs':List Cls} {tm:Tms} {σ:Za} {tm':Tms} {σ':Za},k+m=ops.length->Z8 O bf (ops.drop k) (L+sitesOf (ops.take k)) tm σ=some (tm',σ',cs',none)->(∀ j,cs'.getD j {}=cs.getD (k+j) {})->Zc0 O bf ops L cs (XaD k m) tm σ tm' σ'
 |0,k,cs,cs',tm,σ,tm',σ',hk,h,hcs=>by
  rw[Wz (by omega)]at h
  simp only[Z8,Xb,Xd]at h
  obtain⟨rfl,rfl,rfl,_⟩:=h
  exact Zc0.nil
 |m+1,k,cs,cs',tm,σ,tm',σ',hk,h,hcs=>by
  have hlt:k<ops.length:=by omega
  rw[WO hlt]at h
  simp only[Z8]at h
  split at h
  ·cases h
  ·simp only[Xb,Xd]at h
   obtain⟨_,_,_,h⟩:=h
   cases h
  rename_i v tm1 σ1 c hnp h1
  split at h
  ·cases h
  rename_i tm2 σ2 cs2 p h2
  simp only[Xb,Xd]at h
  obtain⟨rfl,rfl,rfl,rfl⟩:=h
  rw[Xba]
  have hc0:=hcs 0
  simp only[Xu,Wc]at hc0
  refine Zc0.cons (v:=v) (tm1:=tm1) (σ1:=σ1) ?_ (fun x e=>?_) (Zz8 m (k+1) (by omega) (cs':=cs2) ?_ (fun j=>?_))
  ·rw[<-hc0]
   simpa[Xh,hlt]using h1
  ·exact hnp x e
  ·rw[ZsB ops hlt,<-WC];exact h2
  ·have:=hcs (j+1)
   simp only[XN]at this
   rw[this]
   congr 1;omega
theorem ZpE{ops:List AOp}{L:Nat}{cs:List Cls}{i:Nat}{l2:List Nat}:∀ {l1:List Nat} {tm:Tms} {σ:Za} {tm':Tms} {σ':Za},(∀ j∈l1,(ops.getD j default).apartT (ops.getD i default)=true/\ZcS (ops.getD j default) (ops.getD i default) (cs.getD j {}) (cs.getD i {}) (L+sitesOf (ops.take j))=true/\(nsite (ops.getD j default).ins≠0->nsite (ops.getD i default).ins≠0->L+sitesOf (ops.take j)≠L+sitesOf (ops.take i))/\L+sitesOf (ops.take j)+nsite (ops.getD j default).ins<=L+sitesOf (ops.take i)) ->
  Zc0 O bf ops L cs (l1++i::l2) tm σ tm' σ'->∃ v tm1 σ1,ZQ O bf (ops.getD i default) (L+sitesOf (ops.take i)) tm σ=some (v,tm1,σ1,cs.getD i {})/\(∀ x,v≠.pan x)/\Zc0 O bf ops L cs (l1++l2) tm1 σ1 tm' σ'
 | [],tm,σ,tm',σ',_,h=>by
  cases h with
  |cons h1 hn h2=>exact⟨_,_,_,h1,hn,h2⟩
 |j::l1,tm,σ,tm',σ',hall,h=>by
  cases h with
  |cons h1 hn h2 =>
   obtain⟨v3,tm3,σ3,h3,hn3,h4⟩:=ZpE (l1:=l1) (fun k hk=>hall k (by simp[hk])) h2
   obtain⟨p1,p2,p3,p4⟩:=hall j (by simp)
   obtain⟨tm4,σ4,h5,h6⟩:=ZAb h1 h3 p1 p2 p3 p4
   exact⟨v3,tm4,σ4,h5,hn3,Zc0.cons h6 hn h4⟩
theorem Zz1{ops:List AOp}{L:Nat}{x:AVal}:∀ (m k:Nat) {cs cs':List Cls} {tm:Tms} {σ:Za} {tm':Tms} {σ':Za},k+m=ops.length->Z8 O bf (ops.drop k) (L+sitesOf (ops.take k)) tm σ=some (tm',σ',cs',some x)->(∀ j,cs'.getD j {}=cs.getD (k+j) {}) ->
  ∃ n tmJ σJ tmX,n<m/\cs'.length=n+1/\Zc0 O bf ops L cs (XaD k n) tm σ tmJ σJ/\ZQ O bf (ops.getD (k+n) default) (L+sitesOf (ops.take (k+n))) tmJ σJ=some (.pan x,tmX,σ',cs.getD (k+n) {})
 |0,k,cs,cs',tm,σ,tm',σ',hk,h,hcs=>by
  rw[Wz (by omega)]at h
  simp[Z8]at h
 |m+1,k,cs,cs',tm,σ,tm',σ',hk,h,hcs=>by
  have hlt:k<ops.length:=by omega
  rw[WO hlt]at h
  simp only[Z8]at h
  have hc0:=hcs 0
  have hg:ops.getD k default=ops[k]:=by simp[Xh,hlt]
  split at h
  ·cases h
  ·rename_i y tm1 σ1 c h1
   simp only[Xb,Xd]at h
   obtain⟨rfl,rfl,rfl,rfl⟩:=h
   simp only[Xu,Wc]at hc0
   refine⟨0,tm,σ,tm1,by omega,rfl,Zc0.nil,?_⟩
   rw[Wc,<-hc0,hg]
   exact h1
  rename_i v tm1 σ1 c hnp h1
  split at h
  ·cases h
  rename_i tm2 σ2 cs2 p h2
  simp only[Xb,Xd]at h
  obtain⟨rfl,rfl,rfl,rfl⟩:=h
  simp only[Xu,Wc]at hc0
  have hnext:Z8 O bf (ops.drop (k+1)) (L+sitesOf (ops.take (k+1))) tm1 σ1=some (tm2,σ2,cs2,some x):=by
   rw[ZsB ops hlt,<-WC]
   exact h2
  obtain⟨n,tmJ,σJ,tmX,g1,g2,g3,g4⟩:=Zz1 m (k+1) (cs:=cs) (by omega) hnext (fun j=>by
   have:=hcs (j+1)
   simp only[XN]at this
   rw[this];congr 1;omega)
  refine⟨n+1,tmJ,σJ,tmX,by omega,by simp[g2],?_,?_⟩
  ·rw[Xba]
   refine Zc0.cons (v:=v) (tm1:=tm1) (σ1:=σ1) ?_ (fun x e=>hnp x e) g3
   rw[<-hc0,hg]
   exact h1
  ·rw[show k+(n+1)=k+1+n by omega]
   exact g4
theorem ZVV{o:AOp}{v:AVal}{c:Cls}{tm tm1:Tms}{σ σ1:Za}{sq:Nat}(hq:o.ins.touches=false\/Zaf o.ins=true)(h:ZQ O bf o sq tm σ=some (v,tm1,σ1,c)):σ1=σ:=by
 unfold ZQ at h
 split at h
 ·cases h
 ·simp only[Xb,Xd]at h;exact h.2.2.1.symm
 ·split at h
  ·split at h
   ·rename_i he
    simp only[Xb,Xd]at h
    rw[<-h.2.2.1]
    rcases hq with hq |hq
    ·exact ZJW hq he
    ·cases hi:o.ins with
     |ld k a =>
      rw[hi]at he
      simp only[execI]at he
      unfold ldA at he
      repeat' split at he
      all_goals first |(simp only[Xb,Xd]at he;exact he.2.1.symm) |cases he
     |_=>rw[hi]at hq;simp[Zaf]at hq
   ·cases h
  ·cases h
theorem ZwB{ops:List AOp}{L:Nat}{cs:List Cls}{i:Nat}{x:AVal}{tmX:Tms}{σX:Za}:∀ {l1:List Nat} {tm:Tms} {σ:Za} {tm':Tms} {σ':Za},(∀ j∈l1,((ops.getD j default).ins.touches=false\/Zaf (ops.getD j default).ins=true)/\(ops.getD j default).apartT (ops.getD i default)=true/\ZcS (ops.getD j default) (ops.getD i default) (cs.getD j {}) (cs.getD i {}) (L+sitesOf (ops.take j))=true/\(nsite (ops.getD j default).ins≠0->nsite (ops.getD i default).ins≠0->L+sitesOf (ops.take j)≠L+sitesOf (ops.take i))/\L+sitesOf (ops.take j)+nsite (ops.getD j default).ins<=L+sitesOf (ops.take i)) ->
  Zc0 O bf ops L cs l1 tm σ tm' σ'->ZQ O bf (ops.getD i default) (L+sitesOf (ops.take i)) tm' σ'=some (.pan x,tmX,σX,cs.getD i {})->∃ tm1,ZQ O bf (ops.getD i default) (L+sitesOf (ops.take i)) tm σ=some (.pan x,tm1,σX,cs.getD i {})
 | [],tm,σ,tm',σ',_,h,hp=>by
  cases h
  exact⟨_,hp⟩
 |j::l1,tm,σ,tm',σ',hall,h,hp=>by
  cases h with
  |cons h1 hn h2 =>
   obtain⟨tm3,h3⟩:=ZwB (l1:=l1) (fun k hk=>hall k (by simp[hk])) h2 hp
   obtain⟨hq,p1,p2,p3,p4⟩:=hall j (by simp)
   obtain⟨tm4,σ4,h5,h6⟩:=ZAb h1 h3 p1 p2 p3 p4
   have:=ZVV hq h6
   subst this
   exact⟨tm4,h5⟩
end
end
section
open Go.RowKit
section
variable {P:Program}{O:ZV}{bf:Nat->Bool}{an:Ann}{base:Nat->Prop}{w0:World}{I0:Imm}
structure Door where
 D:List Deferred
 K:List Nat
 X:Nat->Value
def Door.ok(dr:Door)(a:Act):Prop:=a.defers=dr.D/\∀ j∈dr.K,a.tmps.getD j undef=dr.X j
def Zb3:Door:=⟨[],[],fun _=>undef⟩
theorem ZfL{a:Act}:Zb3.ok a↔a.defers=[]:=by simp[Door.ok,Zb3]
def StR(dr:Door)(nt:Nat)(base:Nat->Prop)(w0:World)(I0 I:Imm)(β:Bmap)(tm:Tms)(σ:Za)(a:Act)(w:World):Prop :=
 ∃ I' β',I.le I'/\β.le β'/\TR I' β' tm a.tmps/\(dr.ok a/\nt<=a.tmps.size)/\Rel base w0 I0 I' β' σ w
variable {dr:Door}
theorem StR.trans{nt:Nat}{I I1:Imm}{β β1:Bmap}{tm:Tms}{σ:Za}{a:Act}{w:World}(hI:I.le I1)(hβ:β.le β1)(h:StR dr nt base w0 I0 I1 β1 tm σ a w):StR dr nt base w0 I0 I β tm σ a w:=by
 obtain⟨I',β',h1,h2,h3⟩:=h
 exact⟨I',β',hI.trans h1,hβ.trans h2,h3⟩
theorem Post.trans{I I1:Imm}{β β1:Bmap}{x:AVal}{σ:Za}{u:Value}{w:World}(hI:I.le I1)(hβ:β.le β1)(h:Post base w0 I0 I1 β1 x σ u w):Post base w0 I0 I β x σ u w:=by
 obtain⟨I',β',h1,h2,h3⟩:=h
 exact⟨I',β',hI.trans h1,hβ.trans h2,h3⟩
theorem ZtI{I:Imm}{β:Bmap}{tm:Tms}{a:Act}{v:AVal}{u:Value}(T:TR I β tm a.tmps)(hv:VR I β v u){d:Option Nat}(hd:∀ n,d=some n->n<a.tmps.size):TR I β (tput tm d v) (a.put d u).tmps:=by
 cases d with
 |none=>exact T
 |some d=>exact T.put hv (hd d rfl)
theorem ZTW(a:Act)(d:Option Nat)(u:Value):(a.put d u).defers=a.defers:=by cases d<;>rfl
theorem ZlK{a:Act}{d:Option Nat}{u:Value}(h:dr.ok a)(hd:∀ n,d=some n->n∉dr.K):dr.ok (a.put d u):=by
 refine⟨(ZTW a d u).trans h.1,fun j hj=>?_⟩
 rw[<-h.2 j hj]
 cases d with
 |none=>rfl
 |some n =>
  have hne:n≠j:=by rintro rfl;exact hd n rfl hj
  simp only[Act.put,WA]
  rw[Array.getElem?_setIfInBounds_ne hne]
theorem Zfh(a:Act)(d:Option Nat)(u:Value):(a.put d u).tmps.size=a.tmps.size:=by cases d<;>simp[Act.put]
theorem Zx2{I:Imm}{β:Bmap}{tm:Tms}{a:Act}(T:TR I β tm a.tmps){ops:Array Oper}{o:Oper}{g:Option (Nat×Bool)}(hg:Zly ops o.guard=some g){b:Bool}(h:ZbM g tm=some b):Region.wanted o (yielded ops a.tmps)=b:=by
 unfold Zly at hg
 unfold Region.wanted
 split at hg
 ·rename_i e
  injection hg with hg;subst hg
  simp only[ZbM,Xb]at h
  subst h
  rw[e]
 ·rename_i j want e
  split at hg
  ·rename_i o' ho'
   split at hg
   ·rename_i d hd
    injection hg with hg;subst hg
    rw[e]
    show(yielded ops a.tmps j==some want)=b
    have hy:yielded ops a.tmps j=match a.tmps[d]? with |some (.bool b)=>some b |_=>none:=by
     simp only[yielded,ho',Option.bind_some,hd]
     rfl
    rw[hy]
    have hx:=T d
    rw[WA]at hx
    simp only[ZbM]at h
    split at h
    ·rename_i b' hb'
     rw[hb']at hx
     simp only[VR]at hx
     have : a.tmps[d]?=some (.bool b'):=by
      cases hq:a.tmps[d]? with
      |none=>rw[hq]at hx;simp[undef]at hx
      |some q=>rw[hq]at hx;simp at hx;subst hx;rfl
     rw[this]
     simp only[Xb]at h
     subst h
     cases b'<;>cases want<;>rfl
    ·rename_i hb'
     rw[hb']at hx
     simp only[VR,VRs]at hx
     obtain⟨us,hus,hnil⟩:=hx
     injection h with h;subst h
     cases hq:a.tmps[d]? with
     |none=>rfl
     |some q =>
      rw[hq]at hus;simp at hus;subst hus
      rfl
    ·cases h
   ·cases hg
  ·cases hg
theorem ZrQ{ops:Array Oper}{o:Oper}{ao:AOp}(hc:ZhK P an ops o=some ao):∃ g i,Zly ops o.guard=some g/\(∃ own,Zae P an own o.op=some i)/\(∀ n,o.dst=some n->n<an.nt/\n∉an.keep)/\ao=⟨o.dst,i,g,(o.after.toList.filter (Region.binds .any)).map (·.on)⟩:=by
 unfold ZhK at hc
 split at hc
 ·rename_i g i hg hi
  split at hc
  ·rename_i hd
   injection hc with hc
   refine⟨g,i,hg,⟨_,hi⟩,fun n hn=>?_,hc.symm⟩
   rw[hn]at hd
   simp only[Zze,Xk,decide_eq_true_eq,W3,List.contains_eq_mem,decide_eq_false_iff_not]at hd
   exact hd
  ·cases hc
 ·cases hc
theorem Zkd(hO:ZaO P O)(hkp:∀ n∈dr.K,n∈an.keep){ops:Array Oper}{o:Oper}{ao:AOp}(hc:ZhK P an ops o=some ao){I:Imm}{β:Bmap}{tm tm':Tms}{σ σ':Za}{a:Act}{w:World}(T:TR I β tm a.tmps)(hd:dr.ok a/\an.nt<=a.tmps.size)(R:Rel base w0 I0 I β σ w)(hb:KLt base w0)
  {sq:Nat} {v:AVal} {c:Cls} (h:ZQ O bf ao sq tm σ=some (v,tm',σ',c)) {K:Act->World->Prop} {Q:Exit->Act->World->Prop} (hK:(∀ x,v≠.pan x)->∀ a' w',StR dr an.nt base w0 I0 I β tm' σ' a' w'->K a' w')
  (hQ:∀ x,v=.pan x->∀ u w',Post base w0 I0 I β x σ' u w'->Q (.panic [{ v:=u,recovered:=false }]) a w') :
  if Region.wanted o (yielded ops a.tmps)then o.wp P a w K Q\/(o.asks P a w/\LetsOut Q)else K (a.put o.dst undef) w:=by
 obtain⟨g,i,hg,⟨own,hi⟩,hdst,rfl⟩:=ZrQ hc
 have hdst':∀ n,o.dst=some n->n<a.tmps.size:=fun n hn=>Nat.lt_of_lt_of_le (hdst n hn).1 hd.2
 have hdk:∀ n,o.dst=some n->n∉dr.K:=fun n hn hm=>(hdst n hn).2 (hkp n hm)
 unfold ZQ at h
 split at h
 ·cases h
 ·rename_i hw
  simp only at hw
  rw[Zx2 T hg hw]
  simp only[Xb,Xd]at h
  obtain⟨rfl,rfl,rfl,rfl⟩:=h
  simp only[Xj,if_false]
  exact hK (by simp) _ _ ⟨I,β,Imm.le.refl I,Bmap.le.refl β,ZtI T (ZmU I β) hdst',⟨ZlK hd.1 hdk,by rw[Zfh];exact hd.2⟩,R⟩
 ·rename_i hw
  simp only at hw
  rw[Zx2 T hg hw]
  simp only[if_true]
  split at h
  ·rename_i hf
   split at h
   ·rename_i v' σ1 c' he
    simp only[Xb,Xd]at h
    obtain⟨rfl,rfl,rfl,rfl⟩:=h
    have hs:nsite i≠0->σ[sq]?=some .free:=by
     intro hn
     simp only[WB,beq_iff_eq]at hf
     exact Zgb.1 (hf.resolve_left hn)
    rcases ZO2 hO hi T R hb hs he with hok |⟨x,rfl,hpan⟩
    ·refine Xr (hok.wp (fun u w' hp=>?_))
     obtain⟨I',β',h1,h2,h3,h4⟩:=hp
     refine hK ?_ _ _ ⟨I',β',h1,h2,ZtI (T.mono h1 h2) h4 hdst',⟨ZlK hd.1 hdk,by rw[Zfh];exact hd.2⟩,h3⟩
     rintro x rfl
     simp only[VR]at h4
    ·exact Xr (hpan.wp (fun u w' hp=>hQ x rfl u w' hp))
   ·cases h
  ·cases h
theorem Zpu(hO:ZaO P O)(hkp:∀ n∈dr.K,n∈an.keep)(hb:KLt base w0){ops:Array Oper}{Q:Exit->Act->World->Prop}:∀ {l:List Oper} {asl:List AOp} {sq:Nat} {I:Imm} {β:Bmap} {tm tm':Tms} {σ σ':Za} {cs:List Cls} {p:Option AVal} {a:Act} {w:World},ZdM P an ops l=some asl->TR I β tm a.tmps->(dr.ok a/\an.nt<=a.tmps.size)->Rel base w0 I0 I β σ w ->
  Z8 O bf asl sq tm σ=some (tm',σ',cs,p)->(p=none->∀ a' w',StR dr an.nt base w0 I0 I β tm' σ' a' w'->Q .normal a' w') ->
  (∀ x,p=some x->∀ a' u w',dr.ok a'->Post base w0 I0 I β x σ' u w'->Q (.panic [{ v:=u,recovered:=false }]) a' w')->wpList P ops Q l a w
 | [],asl,sq,I,β,tm,tm',σ,σ',cs,p,a,w,hc,T,hd,R,h,hQ,_=>by
  simp only[ZdM,Xb]at hc;subst hc
  simp only[Z8,Xb,Xd]at h
  obtain⟨rfl,rfl,rfl,rfl⟩:=h
  exact wpList_nil (hQ rfl _ _ ⟨I,β,Imm.le.refl I,Bmap.le.refl β,T,hd,R⟩)
 |o::l,asl,sq,I,β,tm,tm',σ,σ',cs,p,a,w,hc,T,hd,R,h,hQ,hP=>by
  simp only[ZdM]at hc
  split at hc
  ·rename_i ao hao
   split at hc
   ·rename_i as' has'
    injection hc with hc;subst hc
    simp only[Z8]at h
    split at h
    ·cases h
    ·rename_i x tm1 σ1 c1 h1
     simp only[Xb,Xd]at h
     obtain⟨rfl,rfl,rfl,rfl⟩:=h
     have:=Zkd (dr:=dr) (K:=wpList P ops Q l) (Q:=Q) hO hkp hao T hd R hb h1 (fun hn=>absurd rfl (hn x)) (fun x' e u w' hp=>by
      injection e with e;subst e
      exact hP x rfl a u w' hd.1 hp)
     unfold wpList
     exact this
    ·rename_i v tm1 σ1 c1 hnp h1
     split at h
     ·cases h
     rename_i tm2 σ2 cs2 p2 h2
     simp only[Xb,Xd]at h
     obtain⟨rfl,rfl,rfl,rfl⟩:=h
     have:=Zkd (dr:=dr) (K:=wpList P ops Q l) (Q:=Q) hO hkp hao T hd R hb h1 (fun _ a' w' hs=>by
      obtain⟨I',β',g1,g2,g3,g4,g5⟩:=hs
      exact Zpu hO hkp hb has' g3 g4 g5 h2 (fun hp a'' w'' hs'=>hQ hp a'' w'' (hs'.trans g1 g2)) (fun x hx a'' u w'' hd' hp=>hP x hx a'' u w'' hd' (hp.trans g1 g2))) (fun x e=>absurd e (fun e=>hnp x e))
     unfold wpList
     exact this
   ·cases hc
  ·cases hc
theorem Zkw{ops:Array Oper}:∀ {l:List Oper} {asl:List AOp},ZdM P an ops l=some asl->asl.length=l.length/\∀ (i:Nat) (o:Oper),l[i]?=some o->∃ ao,asl[i]?=some ao/\ZhK P an ops o=some ao
 | [],asl,h=>by simp only[ZdM,Xb]at h;subst h;exact⟨rfl,fun i o ho=>by simp at ho⟩
 |o::l,asl,h=>by
  simp only[ZdM]at h
  split at h
  ·rename_i ao hao
   split at h
   ·rename_i as' has'
    injection h with h;subst h
    obtain⟨h1,h2⟩:=Zkw has'
    refine⟨by simp[h1],fun i o' ho'=>?_⟩
    cases i with
    |zero=>simp only[XJ,Xb]at ho';subst ho';exact⟨ao,rfl,hao⟩
    |succ i=>simp only[XT]at ho' ⊢;exact h2 i o' ho'
   ·cases h
  ·cases h
theorem Zrw:∀ (ls acc:List (List Nat)),(∀ j p,p∈(acc.getD j [])->True)->(Zco ls acc).take acc.length=acc/\(Zco ls acc).length=acc.length+ls.length /\
  ∀ j,j<ls.length->∀ p,p∈(Zco ls acc).getD (acc.length+j) []->p∈ls.getD j []\/∃ i∈ls.getD j [],i<acc.length+j/\p∈(Zco ls acc).getD i []
 | [],acc,_=>by simp[Zco]
 |l::ls,acc,_=>by
  obtain⟨h1,h2,h3⟩:=Zrw ls (acc++[l++l.flatMap fun i=>acc.getD i []]) (fun _ _ _=>trivial)
  simp only[Zco]
  have hlen:(acc++[l++l.flatMap fun i=>acc.getD i []]).length=acc.length+1:=by simp
  rw[hlen]at h1 h2 h3
  have hpre:∀ i,i<acc.length+1->(Zco ls (acc++[l++l.flatMap fun i=>acc.getD i []])).getD i []=(acc++[l++l.flatMap fun i=>acc.getD i []]).getD i []:=by
   intro i hi
   have:=congrArg (fun q:List (List Nat)=>q.getD i []) h1
   simp only[Xh,List.getElem?_take,hi,if_true]at this ⊢
   exact this
  refine⟨?_,by rw[h2];simp;omega,?_⟩
  ·have:=congrArg (List.take acc.length) h1
   rw[List.take_take,Nat.min_eq_left (by omega)]at this
   rw[this];simp
  ·intro j hj p hp
   cases j with
   |zero =>
    rw[Wc,hpre _ (by omega)]at hp
    simp only[Xh,WD (XF _),Xaa,XJ,WF,Xv,Wk]at hp
    rcases hp with hp |⟨i,hi,hp⟩
    ·exact Xr (by simpa using hp)
    ·refine XE ⟨i,by simpa using hi,?_,?_⟩
     ·by_cases hlt:i<acc.length
      ·omega
      ·rw[XQ (by omega)]at hp;simp at hp
     ·have hlt:i<acc.length:=by
       by_cases hlt:i<acc.length
       ·exact hlt
       ·rw[XQ (by omega)]at hp;simp at hp
      rw[hpre i (by omega)]
      simp only[Xh,Wi hlt]
      exact hp
   |succ j =>
    have:=h3 j (by simpa using hj) p (by rw[show acc.length+1+j=acc.length+(j+1)by omega];exact hp)
    rcases this with h |⟨i,h4,h5,h6⟩
    ·exact Xr (by simpa using h)
    ·exact XE ⟨i,by simpa using h4,by omega,h6⟩
theorem Zvh(f:Nat->Nat)(p:Nat):∀ (l:List Nat) (m:Nat),(l.foldl (fun m i=>m |||2^i |||f i) m).testBit p=true->m.testBit p=true\/p∈l\/∃ i∈l,(f i).testBit p=true
 | [],m,h=>Xr h
 |i::l,m,h=>by
  rcases Zvh f p l _ h with h |h |⟨j,h1,h2⟩
  ·simp only[Nat.testBit_or,WB,Nat.testBit_two_pow,decide_eq_true_eq]at h
   rcases h with(h |h) |h
   ·exact Xr h
   ·exact XE (Xr (by simp[h]))
   ·exact XE (XE ⟨i,by simp,h⟩)
  ·exact XE (Xr (by simp[h]))
  ·exact XE (XE ⟨j,by simp[h1],h2⟩)
theorem ZqR:∀ (ls:List (List Nat)) (accM:List Nat) (accL:List (List Nat)),accM.length=accL.length->(∀ j p,(accM.getD j 0).testBit p=true->p∈accL.getD j [])->∀ j p,((Zjb ls accM).getD j 0).testBit p=true->p∈(Zco ls accL).getD j []
 | [],accM,accL,_,h=>h
 |l::ls,accM,accL,hl,h=>by
  simp only[Zjb,Zco]
  refine ZqR ls _ _ (by simp[hl]) ?_
  intro j p hp
  by_cases hj:j<accM.length
  ·simp only[Xh,Wi hj]at hp
   simp only[Xh,Wi (show j<accL.length by omega)]
   have:=h j p (by simpa[Xh]using hp)
   simpa[Xh]using this
  ·by_cases hj':j=accM.length
   ·subst hj'
    simp only[Xh,WD (XF _),Xaa,XJ,WF]at hp
    rw[hl]
    simp only[Xh,WD (XF _),Xaa,XJ,WF,Xv,Wk]
    rcases Zvh _ p l 0 hp with h0 |h0 |⟨i,h1,h2⟩
    ·simp at h0
    ·exact Xr h0
    ·refine XE ⟨i,h1,?_⟩
     have:=h i p (by simpa[Xh]using h2)
     simpa[Xh]using this
   ·simp only[Xh]at hp
    rw[XQ (by simp;omega)]at hp
    simp at hp
theorem ZAM{asl:List AOp}{ps:List (Nat×Nat)}(h:ZfS asl=some ps) :
  (∀ i j,i<j->j<asl.length->i∉(Zco (asl.map (·.after)) []).getD j []->(asl.getD i default).apartT (asl.getD j default)=true/\((asl.getD i default).ins.touches=false\/(asl.getD j default).ins.touches=false\/(i,j)∈ps))/\(∀ j,j<asl.length->∀ i∈(asl.getD j default).after,i<j):=by
 have hsub:=ZqR (asl.map (·.after)) [] [] rfl (by simp)
 unfold ZfS at h
 simp only at h
 split at h
 ·rename_i hc
  simp only[Xk,XH,Wk,X2,WJ,Xak,forall_exists_index,and_imp,W3,decide_eq_true_eq]at hc
  obtain⟨h1,h2⟩:=hc
  injection h with h
  have hbit:∀ i j,i∉(Zco (asl.map (·.after)) []).getD j []->((Zjb (asl.map (·.after)) []).getD j 0).testBit i=false:=by
   intro i j hn
   cases hb:((Zjb (asl.map (·.after)) []).getD j 0).testBit i with
   |false=>rfl
   |true=>exact absurd (hsub j i hb) hn
  refine⟨fun i j hij hj hn=>⟨?_,?_⟩,fun j hj i hi=>h2 j hj i hi⟩
  ·exact h1 (i,j) j hj i hij (hbit i j hn) rfl
  ·cases ht1:(asl.getD i default).ins.touches with
   |false=>exact Xr rfl
   |true =>
    cases ht2:(asl.getD j default).ins.touches with
    |false=>exact XE (Xr rfl)
    |true =>
     refine XE (XE ?_)
     rw[<-h]
     rw[Xv]
     refine Xr ?_
     simp only[WJ,Wk,X2,Xak,Xk]
     exact⟨⟨j,hj,i,⟨hij,by rw[hbit i j hn];rfl⟩,rfl⟩,ht1,ht2⟩
 ·cases h
theorem ZM4{asl:List AOp}{ps:List (Nat×Nat)}(h:ZfS asl=some ps){j:Nat}(hm:(j,j)∈ps):∀ k,j<k->k<asl.length->j∈(Zco (asl.map (·.after)) []).getD k []:=by
 have hsub:=ZqR (asl.map (·.after)) [] [] rfl (by simp)
 unfold ZfS at h
 simp only at h
 split at h
 ·injection h with h
  rw[<-h,Xv]at hm
  rcases hm with hm |hm
  ·simp only[WJ,Wk,X2,Xak,Xd]at hm
   obtain⟨⟨a,_,b,⟨hb,_⟩,e1,e2⟩,_⟩:=hm
   omega
  ·simp only[X2,WJ,Xak,Xd,and_self,Xk,XH,WB,decide_eq_true_eq]at hm
   obtain⟨a,⟨_,_,ha⟩,rfl⟩:=hm
   intro k hk hkl
   rcases ha k hkl with h1 |h1
   ·omega
   ·exact hsub k a h1
 ·cases h
theorem ZQF{asl:List AOp}{ps:List (Nat×Nat)}(h:ZfS asl=some ps){j:Nat}(hm:(j,j)∈ps):(asl.getD j default).ins.touches=true:=by
 unfold ZfS at h
 simp only at h
 split at h
 ·injection h with h
  rw[<-h,Xv]at hm
  rcases hm with hm |hm
  ·simp only[WJ,Wk,X2,Xak,Xd]at hm
   obtain⟨⟨a,_,b,⟨hb,_⟩,e1,e2⟩,_⟩:=hm
   omega
  ·simp only[X2,WJ,Xak,Xd,and_self,Xk]at hm
   obtain⟨a,⟨_,hc,_⟩,rfl⟩:=hm
   cases hi:(asl.getD a default).ins<;>rw[hi]at hc<;>first |rfl |(simp[Z6]at hc)
 ·cases h
end
end
end Go.Proofs.YtfhocpplckoodaaGreatDoor
