/- packed -/
import Derived.Test.YtfpahnkbjfimdaaMr1
import Derived.Orders
import Derived.LoopN
import Derived.Scope
import Derived.Laws.Cover3
import Derived.Defers
import Derived.Recover
import Derived.Tactics
import Derived.Maps.RangeRun
set_option linter.unusedSectionVars false
set_option linter.unusedSimpArgs false
set_option linter.unusedVariables false
open Option.some renaming injEq→Xa,inj→Xas
open Prod.mk renaming injEq→Xb
open List renaming getElem?_eq_some_iff→Xd,all_cons→Xi,getD_eq_getElem?_getD→Xj,getElem?_set→Xk,mem_of_getElem?→Xs,map_cons→Xu,mem_append→Xv,length_nil→XA,getElem?_eq_getElem→XB,getD_cons_zero→XC,getD_cons_succ→XG,contains_nil→XH,getElem?_cons_zero→XI,mem_map→XJ,lookup_cons→XK,mem_cons→XL,all_eq_true→XM,replicate→XO,getElem?_eq_none→XV,getElem?_map→XX,mem_singleton→XZ,map_nil→X0,eq_nil_of_length_eq_zero→X1,append_nil→X6,map_append→Wc,mem_flatMap→Wh,nodup_cons→Wi,mem_filter→Wr,getElem?_append_left→Wx,pairwise_append→WC,cons_append→WG,range→WJ,drop_eq_nil_of_le→WK,getElem?_set_ne→WQ,getElem?_append_right→WR,drop_eq_getElem_cons→WT,pairwise_cons→WV,set_comm→WZ,mem_range→W0,nodup_append→Xac,getElem_mem→Xaj,isEmpty_iff→Xak,contains_cons→Xao,range'→Xaz,nodup_range→XaL,contains_eq_mem→XaN,mapM_cons→XaU,map_take→Xa0,range'_succ→Xa3
open Bool renaming and_eq_true→Xl,false_eq_true→Xz,or_eq_true→Wv,not_eq_true'→Wy,true_or→Xag,or_true→XaB,and_self→XaD,or_eq_false_iff→XaM,or_false→XaO
open Option renaming map_eq_some_iff→Xn,map_some→XU,bind_some→X9,getD_some→Wu,map→W3,getD_none→Xax
open Or renaming inl→Xw,inr→XE
open Array renaming getElem?_eq_some_iff→XD,length_toList→XS,getElem?_setIfInBounds_ne→We,getD_eq_getD_getElem?→WE,replicate→Xar,getD→Xat
open Nat renaming zero_add→XF,le_refl→XR,add_zero→Wm,add_assoc→WH,le_max_right→WX,le_max_left→W1,sub_self→Xap,lt_or_ge→XaA
open Ne renaming symm→WY
namespace Go.Proofs.Ytfpahnkbjfimdaa
set_option maxHeartbeats 16000000
set_option maxRecDepth 10000
section
open Go.RowKit
section
variable {O:ZZ} {bf:Nat->Bool} {tm:Tms} {σ σ':Za} {sq s:Nat} {b:ZV}
theorem ZeS:∀ (ts:List Nat) (σ:Za),(Zs σ ts)[s]?=some .free↔σ[s]?=some .free
 | [],σ=>Iff.rfl
 | t::ts,σ=>by
  simp only [Zs]
  split
  ·rename_i g k xs hs
   rw [ZeS ts,Xk]
   split
   ·rename_i e;subst e
    split
    ·simp [hs]
    ·simp [hs]
   ·exact Iff.rfl
  ·exact ZeS ts σ
theorem ZiW {cs:List AVal} {t:Nat}:∀ (ts:List Nat) (σ:Za),σ[t]?=some (.var cs)->(Zs σ ts)[t]?=some (.var cs)
 | [],σ,h=>h
 | u::ts,σ,h=>by
  simp only [Zs]
  split
  ·rename_i g k xs hs
   refine ZiW ts _ ?_
   rw [Xk]
   split
   ·rename_i e;subst e;rw [hs] at h;cases h
   ·exact h
  ·exact ZiW ts σ h
theorem Zjz:∀ (ts:List Nat) (σ:Za),s ∉ ts->Zs (σ.set s b) ts=(Zs σ ts).set s b
 | [],σ,_=>rfl
 | t::ts,σ,h=>by
  simp only [XL,not_or] at h
  have e:(σ.set s b)[t]?=σ[t]?:=by rw [Xk,if_neg h.1]
  simp only [Zs,e]
  split
  ·rw [WZ _ _ h.1,Zjz ts _ h.2]
  ·exact Zjz ts σ h.2
theorem ZfR {t:Nat} (h:s≠t):(σ.set s b).getD t .free=σ.getD t .free:=by
 rw [Xj,Xj,Xk,if_neg h]
theorem ZjL:∀ (n:Nat) (todo acc:List Nat),∀ x ∈ acc,x ∈ Zf σ n todo acc
 | 0,_,acc,x,h=>h
 | n+1,[],acc,x,h=>h
 | n+1,t::todo,acc,x,h=>by
  simp only [Zf]
  split
  ·exact ZjL n todo acc x h
  ·exact ZjL n _ _ x (by simp [h])
theorem Zju:∀ (n:Nat) (todo acc:List Nat),s ∉ Zf σ n todo acc->Zf (σ.set s b) n todo acc=Zf σ n todo acc
 | 0,_,acc,_=>rfl
 | n+1,[],acc,_=>rfl
 | n+1,t::todo,acc,h=>by
  simp only [Zf] at h ⊢
  split
  ·rename_i hc;rw [if_pos hc] at h;exact Zju n todo acc h
  ·rename_i hc
   rw [if_neg hc] at h
   have hne:s≠t:=by
    rintro rfl
    exact h (ZjL n _ _ s (by simp))
   rw [ZfR hne]
   exact Zju n _ _ h
theorem ZuX {m:Nat} {ids:List Nat} (h:s ∉ ids):Zd (σ.set s b) m ids=Zd σ m ids:=by
 funext t g
 unfold Zd
 split
 ·rename_i j hj
  obtain ⟨k,_,hk⟩:=ZiL hj
  have : s≠t:=by rintro rfl;exact h (Xs hk)
  rw [Xk,if_neg this]
 ·rfl
theorem ZkB {m:Nat} {ids:List Nat} {ρ:Rho}:∀ (ts:List Nat) (j:Nat),s ∉ ts->Zg (σ.set s b) m ids ρ ts j=Zg σ m ids ρ ts j
 | [],_,_=>rfl
 | t::ts,j,h=>by
  simp only [XL,not_or] at h
  simp only [Zg,ZfR h.1,ZkB ts (j+1) h.2]
theorem ZlC {ids:List Nat} (h:s ∉ ids):∀ (hp:Za) (j:Nat),ZcS (σ.set s b) ids hp j=ZcS σ ids hp j
 | [],_=>rfl
 | x::xs,j=>by
  simp only [ZcS,ZlC h xs (j+1)]
  congr 2
  split
  ·rename_i t ht
   have : s≠t:=by rintro rfl;exact h (Xs ht)
   rw [ZfR this]
  ·rfl
theorem Zmc:∀ (n sq:Nat),(∀ i,i < n->sq+i≠s)->Zdq (σ.set s b) sq n=Zdq σ sq n
 | 0,_,_=>rfl
 | n+1,sq,h=>by
  have h0:=h 0 (by omega)
  simp only [Zdq,freeAt]
  rw [Xk,if_neg (by intro e;exact h0 (by simpa using e.symm)),Zmc n (sq+1) (fun i hi=>by have:=h (i+1) (by omega);rwa [show sq+1+i=sq+(i+1) by omega])]
theorem ZkL {ids:List Nat} (h:s ∉ ids):Zby (σ.set s b) ids sq=Zby σ ids sq:=by
 funext j g
 unfold Zby
 split
 ·rename_i t ht
  have : s≠t:=by rintro rfl;exact h (Xs ht)
  rw [ZfR this]
 ·rfl
theorem Zla {σ0:Za} {ids:List Nat} (h:s ∉ ids):∀ (hp:Za) (j:Nat) (σ:Za),(∀ i,i < hp.length->ZaL ids sq (j+i)≠s)->ZbX (σ0.set s b) ids sq hp j (σ.set s b)=(ZbX σ0 ids sq hp j σ).set s b
 | [],_,_,_=>rfl
 | x::xs,j,σ,hn=>by
  have h0:=hn 0 (by simp)
  simp only [Wm] at h0
  have eg:Zcu (σ0.set s b) ids j x=Zcu σ0 ids j x:=by
   unfold Zcu
   split
   ·rename_i t ht
    have : s≠t:=by rintro rfl;exact h (Xs ht)
    rw [ZfR this]
   ·rfl
  simp only [ZbX,ZkL h,eg]
  rw [WZ _ _ (WY h0)]
  exact Zla h xs (j+1) _ (fun i hi=>by have:=hn (i+1) (by simp;omega);rwa [show j+1+i=j+(i+1) by omega])
theorem ZkV:∀ (ids:List Nat),s ∉ ids->ZcR (σ.set s b) ids=ZcR σ ids
 | [],_=>rfl
 | t::ts,h=>by
  simp only [XL,not_or] at h
  simp only [ZcR,Xk,if_neg h.1,ZkV ts h.2]
theorem ZrD {ρ:Rho} {g:Nat} {x:ZV} (h:okB x=true):Zh ρ g x≠.free:=by
 cases x <;> simp [okB] at h <;> simp [Zh]
theorem Zke {σ0:Za} {ids:List Nat}:∀ (hp:Za) (j:Nat) (σ:Za),ZcS σ0 ids hp j=true->(ZbX σ0 ids sq hp j σ)[s]?=some .free->σ[s]?=some .free
 | [],_,_,_,h=>h
 | x::xs,j,σ,hk,h=>by
  simp only [ZcS,Xl] at hk
  simp only [ZbX] at h
  have:=Zke xs (j+1) _ hk.2 h
  rw [Xk] at this
  split at this
  ·split at this
   ·injection this with this;exact absurd this (ZrD hk.1.1)
   ·cases this
  ·exact this
theorem Zpu {ts:List Nat} (h:ZdC σ ts) (hs:σ[s]?=some .free):s ∉ ts:=by
 intro hm
 obtain ⟨x,hx,hne⟩:=h s hm
 rw [hs] at hx;injection hx with hx;exact hne hx.symm
theorem Zlx {f own:Nat} {view:Bool} {args:List AVal} {v:AVal} {c:Cls} (h:Z7 O bf σ sq f own view args=some (v,σ',c)) (hs':σ'[s]?=some .free) (hne:∀ i,i < own->sq+i≠s) :
  σ[s]?=some .free/\Z7 O bf (σ.set s b) sq f own view args=some (v,σ'.set s b,c):=by
 unfold Z7 at h
 split at h
 ·cases h
 rename_i xs ts hsh
 have hnf:ZdC σ ts:=by
  unfold Zc6 at hsh
  split at hsh
  ·simp only [Xa,Xb] at hsh
   rw [<-hsh.2];exact ZcX
  ·exact (Zh9 hsh).nonfree
 have hag:∀ σ2,Agree σ σ2 ts->Zc6 (bf f) σ2 args=some (xs,ts):=by
  intro σ2 hA
  unfold Zc6 at hsh ⊢
  split at hsh
  ·rename_i hb;rw [if_pos hb];exact hsh
  ·rename_i hb;rw [if_neg hb];exact Zir hsh hA
 generalize hids:Zf (Zs σ ts) 1000 (ZX xs) []=ids at h
 unfold Zcj at h
 split at h
 case isFalse=>cases h
 rename_i hall
 generalize hq:ZaM view ids.length (O f (ZW (Zd (Zs σ ts) 0 ids) xs) (Zg (Zs σ ts) 0 ids (Zd (Zs σ ts) 0 ids) ids 0))=q at h
 have key:σ[s]?=some .free->s ∉ ts/\s ∉ ids/\Z7 O bf (σ.set s b) sq f own view args=ZaC (σ.set s b) ((Zs σ ts).set s b) ids ts sq own q:=by
  intro hs
  have n1:=Zpu hnf hs
  have hsf:(Zs σ ts)[s]?=some .free:=(ZeS ts σ).2 hs
  have n2:s ∉ ids:=by
   intro hm
   have:=XM.1 hall s hm
   rw [Xj,hsf] at this
   simp [okB] at this
  refine ⟨n1,n2,?_⟩
  unfold Z7
  rw [hag _ (fun t ht=>by rw [Xk,if_neg (by rintro rfl;exact n1 ht)])]
  simp only
  rw [Zjz ts σ n1,Zju _ _ _ (by rw [hids];exact n2),hids]
  unfold Zcj
  have hall2:(ids.all fun t=>okB (((Zs σ ts).set s b).getD t .free))=true:=by
   rw [XM] at hall ⊢
   intro t ht
   rw [ZfR (by rintro rfl;exact n2 ht)]
   exact hall t ht
  rw [if_pos hall2,ZuX n2,ZkB ids 0 n2,hq]
 cases q with
 | none=>simp only [ZaC] at h;cases h
 | some q =>
  obtain ⟨r,hp⟩:=q
  simp only [ZaC] at h
  split at h
  ·rename_i hc
   split at h
   ·rename_i hf
    simp only [Xa,Xb] at h
    obtain ⟨rfl,rfl,rfl⟩:=h
    obtain ⟨n1,n2,k⟩:=key hs'
    refine ⟨hs',?_⟩
    rw [k]
    simp only [ZaC,hc,if_true,hf]
   split at h
   ·rename_i hf hap
    simp only [Xa,Xb] at h
    obtain ⟨rfl,rfl,rfl⟩:=h
    obtain ⟨n1,n2,k⟩:=key hs'
    refine ⟨hs',?_⟩
    have hap2:Zdg (σ.set s b) ts r=true:=by
     unfold Zdg at hap ⊢
     simp only [Xl] at hap ⊢
     refine ⟨hap.1,XM.2 fun t ht=>?_⟩
     have:=XM.1 hap.2 t ht
     unfold Zfl at this ⊢
     rw [Xk,if_neg (by rintro rfl;exact n1 ht)];exact this
    rw [k]
    simp only [ZaC,hc,if_true,hf,hap2,if_false,Xz]
   ·rename_i hf hap
    simp only [Xa,Xb] at h
    obtain ⟨rfl,rfl,rfl⟩:=h
    have hs:=(ZeS ts σ).1 hs'
    obtain ⟨n1,n2,k⟩:=key hs
    refine ⟨hs,?_⟩
    have hap2:¬Zdg (σ.set s b) ts r=true:=by
     intro h2
     refine hap ?_
     unfold Zdg at h2 ⊢
     simp only [Xl] at h2 ⊢
     refine ⟨h2.1,XM.2 fun t ht=>?_⟩
     have:=XM.1 h2.2 t ht
     unfold Zfl at this ⊢
     rw [Xk,if_neg (by rintro rfl;exact n1 ht)] at this;exact this
    rw [k]
    simp only [ZaC,hc,if_true,hf,if_neg hap2,if_false,Xz]
  ·rename_i hc
   split at h
   ·rename_i lo n k xs' hcl
    simp only [Xa,Xb] at h
    obtain ⟨rfl,rfl,rfl⟩:=h
    have hown:own=1:=by
     split at hcl
     case isFalse=>cases hcl
     unfold Zgh at hcl
     split at hcl
     case h_2=>cases hcl
     split at hcl
     case isFalse=>cases hcl
     rename_i hcc
     simp only [Xl,decide_eq_true_eq] at hcc
     exact hcc.1
    have hns:sq≠s:=by have:=hne 0 (by omega);simpa using this
    have hs:σ[s]?=some .free:=by rwa [Xk,if_neg hns] at hs'
    obtain ⟨n1,n2,kk⟩:=key hs
    refine ⟨hs,?_⟩
    rw [kk]
    simp only [ZaC]
    rw [if_neg hc,hcl]
    simp only
    rw [WZ _ _ (WY hns)]
   split at h
   ·rename_i hcl hcc
    simp only [Xa,Xb] at h
    obtain ⟨rfl,rfl,rfl⟩:=h
    simp only [Xl,decide_eq_true_eq] at hcc
    obtain ⟨⟨⟨c1,c2⟩,c3⟩,c4⟩:=hcc
    have hs:=(ZeS ts σ).1 (Zke hp 0 _ c3 hs')
    obtain ⟨n1,n2,kk⟩:=key hs
    refine ⟨hs,?_⟩
    rw [kk]
    have htg:∀ i,i < hp.length->ZaL ids sq (0+i)≠s:=by
     intro i hi e
     rw [XF] at e
     unfold ZaL at e
     rw [Xj] at e
     rcases XaA i ids.length with hl | hl
     ·rw [XB hl] at e
      simp only [Wu] at e
      exact n2 (e ▸ Xaj hl)
     ·rw [XV hl] at e
      exact hne (i - ids.length) (by omega) e
    simp only [ZaC]
    rw [if_neg hc,hcl]
    simp only [c1,c2,decide_true,Bool.true_and,ZlC n2,c3,Zmc own sq hne,c4,XaD,if_true,ZkL n2,Zla n2 hp 0 _ htg,ZkV ids n2]
   ·cases h
theorem ZvR {f own:Nat} {view:Bool} {args:List AVal} {v:AVal} {c:Cls} (h:Z7 O bf σ sq f own view args=some (v,σ',c)) (hs:σ'[s]?=some .free):σ[s]?=some .free:=by
 unfold Z7 at h
 split at h
 ·cases h
 rename_i xs ts hsh
 unfold Zcj at h
 split at h
 case isFalse=>cases h
 generalize Zf (Zs σ ts) 1000 (ZX xs) []=ids at h
 generalize ZaM view ids.length (O f (ZW (Zd (Zs σ ts) 0 ids) xs) (Zg (Zs σ ts) 0 ids (Zd (Zs σ ts) 0 ids) ids 0))=q at h
 cases q with
 | none=>simp only [ZaC] at h;cases h
 | some q =>
  obtain ⟨r,hp⟩:=q
  simp only [ZaC] at h
  split at h
  ·split at h
   ·simp only [Xa,Xb] at h
    rw [h.2.1];exact hs
   split at h
   ·simp only [Xa,Xb] at h
    rw [h.2.1];exact hs
   ·simp only [Xa,Xb] at h
    rw [<-h.2.1] at hs
    exact (ZeS ts σ).1 hs
  ·split at h
   ·simp only [Xa,Xb] at h
    rw [<-h.2.1,Xk] at hs
    split at hs
    ·split at hs <;> simp at hs
    ·exact hs
   split at h
   ·rename_i hcc
    simp only [Xa,Xb] at h
    rw [<-h.2.1] at hs
    simp only [Xl,decide_eq_true_eq] at hcc
    exact (ZeS ts σ).1 (Zke hp 0 _ hcc.1.2 hs)
   ·cases h
theorem ZjZ {t:Nat} {cs:List AVal}:∀ {ids:List Nat},(ZcR σ ids).lookup t=some cs->σ[t]?=some (.var cs)
 | [],h=>by simp [ZcR] at h
 | u::us,h=>by
  simp only [ZcR] at h
  split at h
  ·rename_i cs' hu
   rw [XK] at h
   split at h
   ·rename_i e
    injection h with h;subst h
    have : t=u:=by simpa using e
    rw [this];exact hu
   ·exact ZjZ h
  ·exact ZjZ h
theorem ZgZ {t:Nat} {cs:List AVal}:∀ {ids:List Nat},(ZcR σ ids).lookup t=none->t ∈ ids->σ[t]?≠some (.var cs)
 | u::us,h,hm=>by
  intro hv
  simp only [ZcR] at h
  rcases XL.1 hm with e | hm
  ·subst e
   rw [hv] at h
   simp only [XK,beq_self_eq_true] at h
   cases h
  ·split at h
   ·rw [XK] at h
    split at h
    ·cases h
    ·exact ZgZ h hm hv
   ·exact ZgZ h hm hv
theorem Zmm {σ0:Za} {ids:List Nat} {t:Nat}:∀ (hp:Za) (j:Nat) (σ:Za),(∀ i x,hp[i]?=some x->ZaL ids sq (j+i)=t->∃ cs,x=.var cs)->(∃ cs,σ[t]?=some (.var cs))->∃ cs,(ZbX σ0 ids sq hp j σ)[t]?=some (.var cs)
 | [],_,_,_,h=>h
 | x::xs,j,σ,hv,⟨cs,h⟩=>by
  simp only [ZbX]
  refine Zmm xs (j+1) _ (fun i y hy e=>hv (i+1) y (by simpa using hy) (by rwa [show j+(i+1)=j+1+i by omega])) ?_
  rw [Xk]
  split
  ·rename_i e
   obtain ⟨cs',rfl⟩:=hv 0 x rfl (by simpa using e)
   split
   ·exact ⟨_,rfl⟩
   ·rename_i hl
    rw [e] at hl
    rw [XV (by omega)] at h;cases h
  ·exact ⟨cs,h⟩
theorem Zra {f own:Nat} {view:Bool} {args:List AVal} {v:AVal} {c:Cls} (h:Z7 O bf σ sq f own view args=some (v,σ',c)) (ha:c.any=true) {t:Nat} {cs:List AVal} (ht:σ[t]?=some (.var cs)) :
  (c.upd.lookup t=none->σ'[t]?=some (.var cs))/\(∀ cs2,c.upd.lookup t=some cs2->σ'[t]?=some (.var cs2)):=by
 unfold Z7 at h
 split at h
 ·cases h
 rename_i xs ts hsh
 generalize hids:Zf (Zs σ ts) 1000 (ZX xs) []=ids at h
 unfold Zcj at h
 split at h
 case isFalse=>cases h
 generalize ZaM view ids.length (O f (ZW (Zd (Zs σ ts) 0 ids) xs) (Zg (Zs σ ts) 0 ids (Zd (Zs σ ts) 0 ids) ids 0))=q at h
 cases q with
 | none=>simp only [ZaC] at h;cases h
 | some q =>
  obtain ⟨r,hp⟩:=q
  simp only [ZaC] at h
  split at h
  ·split at h
   ·simp only [Xa,Xb] at h
    rw [<-h.2.2] at ha;cases ha
   split at h
   ·simp only [Xa,Xb] at h
    rw [<-h.2.2] at ha;cases ha
   ·simp only [Xa,Xb] at h
    rw [<-h.2.2] at ha;cases ha
  ·split at h
   ·simp only [Xa,Xb] at h
    rw [<-h.2.2] at ha;cases ha
   split at h
   ·rename_i hcc
    simp only [Xa,Xb] at h
    obtain ⟨_,rfl,rfl⟩:=h
    simp only [Xl,decide_eq_true_eq] at hcc
    obtain ⟨⟨⟨c1,c2⟩,c3⟩,c4⟩:=hcc
    have hf:=ZiW ts σ ht
    refine ⟨fun hn=>?_,fun cs2 hc2=>ZjZ hc2⟩
    have tgt:∀ i,i < hp.length->ZaL ids sq (0+i)=t->i < ids.length/\ids[i]?=some t:=by
     intro i hi e
     rw [XF] at e
     unfold ZaL at e
     rw [Xj] at e
     rcases XaA i ids.length with hl | hl
     ·rw [XB hl] at e ⊢
      simp only [Wu] at e
      exact ⟨hl,by rw [e]⟩
     ·rw [XV hl] at e
      simp only [Xax] at e
      have:=ZgP c4 (i:=i - ids.length) (by omega)
      rw [e,hf] at this;cases this
    by_cases hm:t ∈ ids
    ·exfalso
     obtain ⟨cs3,h3⟩:=Zmm (σ0:=Zs σ ts) (sq:=sq) (ids:=ids) (t:=t) hp 0 (Zs σ ts) (fun i x hx e=>by
      obtain ⟨hl,hi⟩:=tgt i (Xd.1 hx).1 e
      have:=(ZeT c3 hx).2
      rw [XF,hi] at this
      simp only at this
      have hk:=this.1
      rw [Xj,hf] at hk
      simp only [Wu] at hk
      cases x <;> simp [Zfb] at hk
      exact ⟨_,rfl⟩) ⟨_,hf⟩
     exact ZgZ hn hm h3
    ·rw [Zgc (fun i hi e=>hm (by
      obtain ⟨hl,hi⟩:=tgt i hi e
      exact Xs hi))]
     exact hf
   ·cases h
end
end
section
open Go.RowKit
section
variable {P:Program} {O:ZZ} {bf:Nat->Bool} {tm tm1 tm2:Tms} {σ σ' σ1 σ2:Za} {sq:Nat}
theorem ZkD {d:Option Nat} {v:AVal} {n:Nat} (h:d≠some n):tget (tput tm d v) n=tget tm n:=by
 cases d with
 | none=>rfl
 | some d =>
  have : d≠n:=by rintro rfl;exact h rfl
  simp only [tput,ZfU,this,if_false]
theorem ZkH {a b:Nat} (u v:AVal) (h:a≠b):∀ tm:Tms,tins b v (tins a u tm)=tins a u (tins b v tm)
 | []=>by
  simp only [tins]
  by_cases h1:a < b
  ·have h2:¬b < a:=by omega
   have h3:¬b=a:=by omega
   simp [h1,h2,h3,tins]
  ·have h2:b < a:=by omega
   have h3:¬a=b:=h
   simp [h1,h2,h3,tins]
 | (e,w)::r=>by
  have ih:=ZkH u v h r
  rcases Nat.lt_trichotomy e a with ha | ha | ha <;> rcases Nat.lt_trichotomy e b with hb | hb | hb
  ·rcases Nat.lt_or_gt_of_ne h with hab | hab
   ·have n1:¬b < a:=by omega
    have n2:¬b=a:=by omega
    simp [tins,ha,hb,hab,n1,n2]
   ·have n1:¬a < b:=by omega
    have n2:¬a=b:=h
    simp [tins,ha,hb,hab,n1,n2]
  ·subst hb
   have n1:¬a < e:=by omega
   have n2:¬a=e:=h
   simp [tins,ha,n1,n2]
  ·have n1:¬a < b:=by omega
   have n2:¬a=b:=h
   have n3:¬e < b:=by omega
   have n4:¬e=b:=by omega
   simp [tins,ha,n1,n2,n3,n4]
  ·subst ha
   have n1:¬b < e:=by omega
   have n2:¬b=e:=fun q=>h q.symm
   simp [tins,hb,n1,n2]
  ·exact absurd (ha.symm.trans hb) h
  ·subst ha
   have n3:¬e < b:=by omega
   have n4:¬e=b:=by omega
   simp [tins,n3,n4]
  ·have n1:¬b < a:=by omega
   have n2:¬b=a:=by omega
   have n3:¬e < a:=by omega
   have n4:¬e=a:=by omega
   simp [tins,hb,n1,n2,n3,n4]
  ·subst hb
   have n3:¬e < a:=by omega
   have n4:¬e=a:=by omega
   simp [tins,n3,n4]
  ·have n1:¬e < a:=by omega
   have n2:¬e=a:=by omega
   have n3:¬e < b:=by omega
   have n4:¬e=b:=by omega
   simp [tins,n1,n2,n3,n4,ih]
theorem ZdT {a b:Option Nat} (u v:AVal) (h:∀ d,a=some d->b≠some d):tput (tput tm a u) b v=tput (tput tm b v) a u:=by
 cases a with
 | none=>cases b <;> rfl
 | some a =>
  cases b with
  | none=>rfl
  | some b =>
   simp only [tput]
   exact ZkH u v (by rintro rfl;exact h a rfl rfl) tm
theorem Zdk {g:Option (Nat×Bool)} (h:∀ j b,g=some (j,b)->tget tm j=tget tm1 j):Za3 g tm=Za3 g tm1:=by
 cases g with
 | none=>rfl
 | some g=>simp only [Za3];rw [h g.1 g.2 rfl]
theorem Zdf {o:AOp} {j:Nat} {b:Bool} (h:o.guard=some (j,b)):j ∈ o.reads:=by simp [AOp.reads,h]
theorem Zfh {o:AOp} {n:Nat} (h:n ∈ o.ins.reads):n ∈ o.reads:=by simp [AOp.reads,h]
theorem Zep {o:AOp} {v:AVal} {c:Cls} (h:Zu O bf o sq tm σ=some (v,tm1,σ1,c)):tm1=tput tm o.dst v/\∀ tm',(∀ n ∈ o.reads,tget tm n=tget tm' n)->Zu O bf o sq tm' σ=some (v,tput tm' o.dst v,σ1,c):=by
 unfold Zu at h
 split at h
 ·cases h
 ·rename_i hw
  simp only [Xa,Xb] at h
  obtain ⟨rfl,rfl,rfl,rfl⟩:=h
  refine ⟨rfl,fun tm' hr=>?_⟩
  simp only [Zu,Zdk (g:=o.guard) (tm:=tm') (tm1:=tm) (fun j b hg=>(hr j (Zdf hg)).symm),hw]
 ·rename_i hw
  split at h
  ·rename_i hf
   split at h
   ·rename_i v' σ'' c' he
    simp only [Xa,Xb] at h
    obtain ⟨rfl,rfl,rfl,rfl⟩:=h
    refine ⟨rfl,fun tm' hr=>?_⟩
    simp only [Zu,Zdk (g:=o.guard) (tm:=tm') (tm1:=tm) (fun j b hg=>(hr j (Zdf hg)).symm),hw]
    rw [if_pos hf,<-ZeY (tm:=tm) (tm':=tm') (fun n hn=>hr n (Zfh hn)),he]
   ·cases h
  ·cases h
theorem ZfJ {o:AOp} {v:AVal} {c:Cls} (h:Zu O bf o sq tm σ=some (v,tm1,σ1,c)) (hn:ZcN c=true) :
  ∃ ob,tm1=tput tm o.dst v/\σ1=Zay σ sq ob/\(ob.isSome=true->nsite o.ins≠0/\freeAt σ sq=true)/\ob≠some .free/\ZdC σ c.rd /\
   ∀ tm' σ2,(∀ n ∈ o.reads,tget tm n=tget tm' n)->Agree σ σ2 c.rd->(nsite o.ins≠0->freeAt σ sq=true->freeAt σ2 sq=true)->Zu O bf o sq tm' σ2=some (v,tput tm' o.dst v,Zay σ2 sq ob,c):=by
 simp only [ZcN,Xl,Xak,Wy] at hn
 unfold Zu at h
 split at h
 ·cases h
 ·rename_i hw
  simp only [Xa,Xb] at h
  obtain ⟨rfl,rfl,rfl,rfl⟩:=h
  refine ⟨none,rfl,rfl,by simp,by simp,ZcX,fun tm' σ2 hr _ _=>?_⟩
  simp only [Zu,Zdk (g:=o.guard) (tm:=tm') (tm1:=tm) (fun j b hg=>(hr j (Zdf hg)).symm),hw,Zay]
 ·rename_i hw
  split at h
  ·rename_i hf
   split at h
   ·rename_i v' σ'' c' he
    simp only [Xa,Xb] at h
    obtain ⟨rfl,rfl,rfl,rfl⟩:=h
    obtain ⟨ob,e1,e2,e3,e4,e5⟩:=ZoY he hn.1 hn.2
    refine ⟨ob,rfl,e1,fun ho=>⟨e2 ho,?_⟩,e3,e4,fun tm' σ2 hr hA hfr=>?_⟩
    ·have:=e2 ho
     simpa [this] using hf
    ·have hf2:(nsite o.ins == 0 || freeAt σ2 sq)=true:=by
      by_cases h0:nsite o.ins=0
      ·simp [h0]
      ·simp only [Wv,beq_iff_eq,h0,false_or] at hf ⊢
       exact hfr h0 hf
     simp only [Zu,Zdk (g:=o.guard) (tm:=tm') (tm1:=tm) (fun j b hg=>(hr j (Zdf hg)).symm),hw]
     have e5':execI O bf tm σ2 sq o.ins=some (v',Zay σ2 sq ob,c'):=e5 σ2 hA
     rw [if_pos hf2,<-ZeY (tm:=tm) (tm':=tm') (fun n hn=>hr n (Zfh hn)),e5']
   ·cases h
  ·cases h
theorem ZdD {s:Nat}:freeAt σ s=true↔σ[s]?=some .free:=by
 unfold freeAt
 split
 ·rename_i h;simp [h]
 ·rename_i h
  constructor
  ·intro h';cases h'
  ·intro h';exact absurd h' h
theorem Zgy {s t:Nat} {ob:Option ZV} (h:ob.isSome=true->s≠t):(Zay σ s ob)[t]?=σ[t]?:=by
 cases ob with
 | none=>rfl
 | some b=>simp only [Zay];rw [Xk,if_neg (h rfl)]
theorem ZyL {s t:Nat} {ob oc:Option ZV} (h:ob.isSome=true->oc.isSome=true->s≠t):Zay (Zay σ s ob) t oc=Zay (Zay σ t oc) s ob:=by
 cases ob with
 | none=>cases oc <;> rfl
 | some b =>
  cases oc with
  | none=>rfl
  | some c=>simp only [Zay];exact WZ b c (h rfl rfl)
theorem Zty {x y:AVal} (h:ZaV x y=true):x=y:=by
 unfold ZaV at h
 split at h
 all_goals first
  | rfl
  | (cases h;done)
  | (simp only [Xl,decide_eq_true_eq,beq_iff_eq] at h;simp_all;done)
theorem ZhQ {o:AOp} {v:AVal} {c:Cls} (hc:Zao o.ins=true) (h:Zu O bf o sq tm σ=some (v,tm1,σ1,c)) :
  (Za3 o.guard tm=some false/\v=.tup []/\σ1=σ/\c={}) \/
  (Za3 o.guard tm=some true/\(nsite o.ins == 0 || freeAt σ sq)=true/\∃ f own view args,own<=nsite o.ins/\(∀ tm' σ2 v2 σ3 c2,(∀ n ∈ o.reads,tget tm n=tget tm' n)->(nsite o.ins == 0 || freeAt σ2 sq)=true->Z7 O bf σ2 sq f own view args=some (v2,σ3,c2)->Zu O bf o sq tm' σ2=some (v2,tput tm' o.dst v2,σ3,c2))/\Z7 O bf σ sq f own view args=some (v,σ1,c)):=by
 unfold Zu at h
 split at h
 ·cases h
 ·rename_i hw
  simp only [Xa,Xb] at h
  obtain ⟨rfl,rfl,rfl,rfl⟩:=h
  exact Xw ⟨hw,rfl,rfl,rfl⟩
 ·rename_i hw
  split at h
  ·rename_i hf
   split at h
   ·rename_i v' σ'' c' he
    simp only [Xa,Xb] at h
    obtain ⟨rfl,rfl,rfl,rfl⟩:=h
    refine XE ⟨hw,hf,?_⟩
    have gen:∀ tm' σ2,(∀ n ∈ o.reads,tget tm n=tget tm' n)->(nsite o.ins == 0 || freeAt σ2 sq)=true->∀ v2 σ3 c2,execI O bf tm σ2 sq o.ins=some (v2,σ3,c2)->Zu O bf o sq tm' σ2=some (v2,tput tm' o.dst v2,σ3,c2):=by
     intro tm' σ2 hr hf2 v2 σ3 c2 he2
     simp only [Zu,Zdk (g:=o.guard) (tm:=tm') (tm1:=tm) (fun j b hg=>(hr j (Zdf hg)).symm),hw]
     rw [if_pos hf2,<-ZeY (tm:=tm) (tm':=tm') (fun n hn=>hr n (Zfh hn)),he2]
    cases hins:o.ins with
    | call f own view args =>
     rw [hins] at he gen
     simp only [execI] at he gen
     refine ⟨f,own,view,args.map (·.ev tm),XR _,fun tm' σ2 v2 σ3 c2 hr hf2 h2=>?_,he⟩
     exact gen tm' σ2 hr hf2 v2 σ3 c2 h2
    | callv x args =>
     rw [hins] at he gen
     simp only [execI] at he
     split at he
     ·rename_i f caps hx
      refine ⟨(if f < 1000000 then f else f - 1000000),4,false,(if f < 1000000 then args.map (·.ev tm)++caps else caps++args.map (·.ev tm)),by simp [nsite],fun tm' σ2 v2 σ3 c2 hr hf2 h2=>?_,he⟩
      refine gen tm' σ2 hr hf2 v2 σ3 c2 ?_
      simp only [execI,hx]
      exact h2
     ·cases he
    | _=>rw [hins] at hc;simp [Zao] at hc
   ·cases h
  ·cases h
theorem Zxo {o:AOp} {v:AVal} {c:Cls} {s:Nat} (hc:Zao o.ins=true) (h:Zu O bf o sq tm σ=some (v,tm1,σ1,c)) (hs:σ1[s]?=some .free) (hne:∀ i,i < nsite o.ins->sq+i≠s) :
  σ[s]?=some .free/\∀ b tm',(∀ n ∈ o.reads,tget tm n=tget tm' n)->Zu O bf o sq tm' (σ.set s b)=some (v,tput tm' o.dst v,σ1.set s b,c):=by
 have h0:=h
 rcases ZhQ hc h with ⟨hw,rfl,rfl,rfl⟩ | ⟨hw,hf,f,own,view,args,ho,gen,hg⟩
 ·refine ⟨hs,fun b tm' hr=>?_⟩
  simp only [Zu,Zdk (g:=o.guard) (tm:=tm') (tm1:=tm) (fun j b hg=>(hr j (Zdf hg)).symm),hw]
 ·obtain ⟨k1,k2⟩:=Zlx (b:=.free) hg hs (fun i hi=>hne i (by omega))
  refine ⟨k1,fun b tm' hr=>gen tm' _ _ _ _ hr ?_ (Zlx (b:=b) hg hs (fun i hi=>hne i (by omega))).2⟩
  by_cases h0:nsite o.ins=0
  ·simp [h0]
  ·simp only [Wv,beq_iff_eq,h0,false_or,ZdD] at hf ⊢
   have:=hne 0 (by omega)
   rw [Xk,if_neg (by intro e;exact this (by simpa using e.symm))]
   exact hf
theorem ZuJ {o:AOp} {v:AVal} {c:Cls} {s:Nat} (hc:Zao o.ins=true) (h:Zu O bf o sq tm σ=some (v,tm1,σ1,c)) (hs:σ1[s]?=some .free):σ[s]?=some .free:=by
 rcases ZhQ hc h with ⟨hw,rfl,rfl,rfl⟩ | ⟨hw,hf,f,own,view,args,ho,gen,hg⟩
 ·exact hs
 ·exact ZvR hg hs
theorem ZwU {o:AOp} {v:AVal} {c:Cls} {t:Nat} {cs:List AVal} (hc:Zao o.ins=true) (h:Zu O bf o sq tm σ=some (v,tm1,σ1,c)) (ha:c.any=true) (ht:σ[t]?=some (.var cs)) :
  (c.upd.lookup t=none->σ1[t]?=some (.var cs))/\(∀ cs2,c.upd.lookup t=some cs2->σ1[t]?=some (.var cs2)):=by
 rcases ZhQ hc h with ⟨hw,rfl,rfl,rfl⟩ | ⟨hw,hf,f,own,view,args,ho,gen,hg⟩
 ·cases ha
 ·exact Zra hg ha ht
theorem Zrm {σ σ1 : Za} {sq k bytes : Nat} {x y v : AVal} {c : Cls} {t : Nat} {cs : List AVal} (h : Zae σ sq k bytes x y = some (v, σ1, c)) (hs : sq ≠ t) (ht : σ[t]? = some (.var cs)) : σ1[t]? = some (.var cs) := by
  have key : ∀ (u : Nat) (b : ZV), (u = sq \/ ∃ b0, σ[u]? = some b0 /\ ∀ cs, b0 ≠ .var cs) -> (σ.set u b)[t]? = some (.var cs) := by
    intro u b hu
    rw [Xk, if_neg, ht]
    rintro rfl
    rcases hu with rfl | ⟨b0, h1, h2⟩
    . exact hs rfl
    . rw [ht] at h1; injection h1 with h1; exact h2 _ h1.symm
  unfold Zae at h
  repeat' split at h
  all_goals first
    | (cases h; done)
    | (unfold Zea at h
       repeat' split at h
       all_goals first
         | (cases h; done)
         | (simp only [Xa, Xb] at h
            obtain ⟨-, rfl, -⟩ := h
            first
              | exact key _ _ (Xw rfl)
              | exact key _ _ (XE ⟨_, by assumption, by simp⟩)))
    | (simp only [Xa, Xb] at h
       obtain ⟨-, rfl, -⟩ := h
       first
         | exact ht
         | exact key _ _ (Xw rfl)
         | exact key _ _ (XE ⟨_, by assumption, by simp⟩))
theorem Zs0 {o:AOp} {v:AVal} {c:Cls} {t:Nat} {cs:List AVal} (hc:Zau o.ins=true) (h:Zu O bf o sq tm σ=some (v,tm1,σ1,c)) (ht:σ[t]?=some (.var cs)):σ1[t]?=some (.var cs):=by
 unfold Zu at h
 split at h
 ·cases h
 ·simp only [Xa,Xb] at h
  obtain ⟨rfl,rfl,rfl,rfl⟩:=h
  exact ht
 ·split at h
  ·rename_i hf
   split at h
   ·rename_i v' σ'' c' he
    simp only [Xa,Xb] at h
    obtain ⟨rfl,rfl,rfl,rfl⟩:=h
    cases hins:o.ins with
    | app k bytes z x y =>
     rw [hins] at he hf
     simp only [execI] at he
     refine Zrm he ?_ ht
     rintro rfl
     simp [nsite,freeAt,ht] at hf
    | _=>rw [hins] at hc;simp [Zau] at hc
   ·cases h
  ·cases h
theorem ZlS {σ σ1 : Za} {sq k bytes : Nat} {x y v : AVal} {c : Cls} {s : Nat} (h : Zae σ sq k bytes x y = some (v, σ1, c)) (hs : σ1[s]? = some .free) : σ[s]? = some .free := by
  have key : ∀ (u : Nat) (b0 : ZV), b0 ≠ .free -> (σ.set u b0)[s]? = some .free -> σ[s]? = some .free := by
    intro u b0 hb hh
    rw [Xk] at hh
    split at hh
    . split at hh
      . injection hh with hh; exact absurd hh hb
      . cases hh
    . exact hh
  unfold Zae at h
  repeat' split at h
  all_goals first
    | (cases h; done)
    | (unfold Zea at h
       repeat' split at h
       all_goals first
         | (cases h; done)
         | (simp only [Xa, Xb] at h
            obtain ⟨-, rfl, -⟩ := h
            exact key _ _ (by simp) hs))
    | (simp only [Xa, Xb] at h
       obtain ⟨-, rfl, -⟩ := h
       first
         | exact hs
         | exact key _ _ (by simp) hs)
theorem ZAu {σ σ1 : Za} {sq k bytes : Nat} {x y v : AVal} {c : Cls} {s : Nat} (ha : c.any = false) (h : Zae σ sq k bytes x y = some (v, σ1, c)) (hs : σ[s]? = some .free) (hne : sq ≠ s) (b : ZV) : Zae (σ.set s b) sq k bytes x y = some (v, σ1.set s b, c) := by
  have get : ∀ (t : Nat) (b0 : ZV), σ[t]? = some b0 -> b0 ≠ .free -> (σ.set s b)[t]? = some b0 /\ s ≠ t := by
    intro t b0 h1 h2
    have hst : s ≠ t := by
      rintro rfl
      rw [hs] at h1; injection h1 with h1; exact h2 h1.symm
    exact ⟨by rw [WQ hst]; exact h1, hst⟩
  have hel : ∀ ys us, Zk σ y = some (ys, us) -> Zk (σ.set s b) y = some (ys, us) := by
    intro ys us he
    unfold Zk at he ⊢
    split at he
    . exact he
    . exact he
    . split at he
      . rename_i hr
        rw [(get _ _ hr (by simp)).1]; exact he
      . rename_i hr
        rw [(get _ _ hr (by simp)).1]; exact he
      . cases he
    . cases he
  unfold Zae at h
  cases he : Zk σ y with
  | none =>
    rw [he] at h
    simp only at h
    unfold Zea at h
    repeat' split at h
    all_goals first
      | (cases h; done)
      | (simp only [Xa, Xb] at h
         obtain ⟨-, -, rfl⟩ := h
         cases ha)
  | some z =>
    obtain ⟨ys, us⟩ := z
    rw [he] at h
    simp only at h
    unfold Zae
    rw [hel _ _ he]
    simp only
    split at h
    case isFalse => cases h
    rename_i hk
    rw [if_pos hk]
    split at h
    . split at h
      case isFalse => cases h
      rename_i h1
      simp only [Xa, Xb] at h
      obtain ⟨rfl, rfl, rfl⟩ := h
      simp only [h1, if_true]
      rw [WZ _ _ hne]
    . split at h
      case isFalse => cases h
      rename_i h1
      simp only [h1, and_self, if_true]
      split at h
      . simp only [Xa, Xb] at h
        obtain ⟨rfl, rfl, rfl⟩ := h
        rfl
      . simp only [Xa, Xb] at h
        obtain ⟨rfl, rfl, rfl⟩ := h
        rw [WZ _ _ hne]
    . split at h
      . rename_i hr
        obtain ⟨g1, g2⟩ := get _ _ hr (by simp)
        rw [g1]
        simp only
        split at h
        case isFalse => cases h
        rename_i h1
        rw [if_pos h1]
        split at h
        . rename_i h2
          rw [if_pos h2]
          simp only [Xa, Xb] at h
          obtain ⟨rfl, rfl, rfl⟩ := h
          rw [WZ _ _ g2]
        . rename_i h2
          rw [if_neg h2]
          split at h
          case isFalse => cases h
          rename_i h3
          rw [if_pos h3]
          simp only [Xa, Xb] at h
          obtain ⟨rfl, rfl, rfl⟩ := h
          rw [WZ _ _ g2]
      . cases h
    . cases h
theorem Zka {o:AOp} {v:AVal} {c:Cls} (hc:Zau o.ins=true) (h:Zu O bf o sq tm σ=some (v,tm1,σ1,c)) :
  (Za3 o.guard tm=some false/\v=.tup []/\σ1=σ/\c={})\/(freeAt σ sq=true/\∃ k bytes x y,Zae σ sq k bytes x y=some (v,σ1,c)/\∀ tm' σ2 v2 σ3 c2,(∀ n ∈ o.reads,tget tm n=tget tm' n)->freeAt σ2 sq=true->Zae σ2 sq k bytes x y=some (v2,σ3,c2)->Zu O bf o sq tm' σ2=some (v2,tput tm' o.dst v2,σ3,c2)):=by
 unfold Zu at h
 split at h
 ·cases h
 ·rename_i hw
  simp only [Xa,Xb] at h
  obtain ⟨rfl,rfl,rfl,rfl⟩:=h
  exact Xw ⟨hw,rfl,rfl,rfl⟩
 ·rename_i hw
  split at h
  ·rename_i hf
   split at h
   ·rename_i v' σ'' c' he
    simp only [Xa,Xb] at h
    obtain ⟨rfl,rfl,rfl,rfl⟩:=h
    cases hins:o.ins with
    | app k bytes z x y =>
     have he0:=he
     rw [hins] at he hf
     simp only [execI] at he
     refine XE ⟨by simpa [nsite] using hf,k,bytes,_,_,he,fun tm' σ2 v2 σ3 c2 hr hf2 h2=>?_⟩
     simp only [Zu,Zdk (g:=o.guard) (tm:=tm') (tm1:=tm) (fun j b hg=>(hr j (Zdf hg)).symm),hw]
     rw [if_pos (by rw [hf2];simp),<-ZeY (tm:=tm) (tm':=tm') (fun n hn=>hr n (Zfh hn)),hins]
     simp only [execI,h2]
    | _=>rw [hins] at hc;simp [Zau] at hc
   ·cases h
  ·cases h
theorem ZjA {t:Nat} {cs:List AVal}:∀ (ts:List Nat) (σ:Za),σ[t]?=some (.var cs)->(Zs σ ts)[t]?=some (.var cs)
 | [],σ,h=>h
 | u::ts,σ,h=>by
  unfold Zs
  split
  ·rename_i g k xs hu
   refine ZjA ts _ ?_
   rw [Xk,if_neg,h]
   rintro rfl
   rw [hu] at h;cases h
  ·exact ZjA ts σ h
theorem Zx4 {σ σ1 : Za} {k : Nat} {a x v : AVal} {c : Cls} {t : Nat} {cs : List AVal} (h : stA σ k a x = some (v, σ1, c)) (hw : c.wr.contains t = false) (ht : σ[t]? = some (.var cs)) : σ1[t]? = some (.var cs) := by
  unfold stA at h
  repeat' split at h
  all_goals first
    | (cases h; done)
    | (simp only [Xa, Xb] at h
       obtain ⟨-, rfl, rfl⟩ := h
       simp only [Xao, XH, XaO, XaM, beq_eq_false_iff_ne, ne_eq] at hw
       first
         | (rw [Xk, if_neg (fun e => hw e.symm)]; exact ht)
         | (rw [Xk, if_neg (fun e => hw.1 e.symm)]; exact ZjA _ _ ht))
theorem ZtH {σ σ1 : Za} {s kc : Nat} {z m k v : AVal} {c : Cls} {t : Nat} {cs : List AVal} (hs : σ[s]? = some .free) (h : Zcy σ s kc z m k = some (v, σ1, c)) (hw : c.wr.contains t = false) (ht : σ[t]? = some (.var cs)) : σ1[t]? = some (.var cs) := by
  have hne : t ≠ s := by rintro rfl; rw [hs] at ht; cases ht
  unfold Zcy at h
  repeat' split at h
  all_goals first
    | (cases h; done)
    | (simp only [Xa, Xb] at h
       obtain ⟨-, rfl, rfl⟩ := h
       simp only [Xao, XH, XaO, beq_eq_false_iff_ne, ne_eq] at hw
       first
         | exact ht
         | (rw [Xk, if_neg (fun e => hw e.symm), Xk, if_neg (fun e => hne e.symm)]; exact ht))
theorem Zxg {σ σ1 : Za} {s kc : Nat} {z m k v : AVal} {c : Cls} {t : Nat} (h : Zcy σ s kc z m k = some (v, σ1, c)) (hw : c.wr.contains t = false) (hne : t ≠ s) : σ1[t]? = σ[t]? := by
  unfold Zcy at h
  repeat' split at h
  all_goals first
    | (cases h; done)
    | (simp only [Xa, Xb] at h
       obtain ⟨-, rfl, rfl⟩ := h
       simp only [Xao, XH, XaO, beq_eq_false_iff_ne, ne_eq] at hw
       first
         | rfl
         | (rw [Xk, if_neg (fun e => hw e.symm), Xk, if_neg (fun e => hne e.symm)]))
theorem Zj6 {t:Nat}:∀ (ts:List Nat) (σ:Za),ts.contains t=false->(Zs σ ts)[t]?=σ[t]?
 | [],σ,_=>rfl
 | u::ts,σ,h=>by
  simp only [Xao,XaM,beq_eq_false_iff_ne,ne_eq] at h
  unfold Zs
  split
  ·rw [Zj6 ts _ h.2,Xk,if_neg (fun e=>h.1 e.symm)]
  ·exact Zj6 ts _ h.2
theorem ZzG {σ σ1 : Za} {k : Nat} {a x v : AVal} {c : Cls} {t : Nat} (h : stA σ k a x = some (v, σ1, c)) (hw : c.wr.contains t = false) : σ1[t]? = σ[t]? := by
  unfold stA at h
  repeat' split at h
  all_goals first
    | (cases h; done)
    | (simp only [Xa, Xb] at h
       obtain ⟨-, rfl, rfl⟩ := h
       simp only [Xao, XH, XaO, XaM, beq_eq_false_iff_ne, ne_eq] at hw
       first
         | (rw [Xk, if_neg (fun e => hw e.symm)])
         | (rw [Xk, if_neg (fun e => hw.1 e.symm)]; exact Zj6 _ _ hw.2))
theorem Zvy {o:AOp} {v:AVal} {c:Cls} {t:Nat} (hc:ZaF o.ins=true) (h:Zu O bf o sq tm σ=some (v,tm1,σ1,c)) (hw:c.wr.contains t=false) (hne:t≠sq):σ1[t]?=σ[t]?:=by
 unfold Zu at h
 split at h
 ·cases h
 ·simp only [Xa,Xb] at h
  obtain ⟨rfl,rfl,rfl,rfl⟩:=h
  rfl
 ·split at h
  ·split at h
   ·rename_i v' σ'' c' he
    simp only [Xa,Xb] at h
    obtain ⟨rfl,rfl,rfl,rfl⟩:=h
    cases hins:o.ins with
    | st k x y =>
     rw [hins] at he
     simp only [execI] at he
     exact ZzG he hw
    | glook kc z m k =>
     rw [hins] at he
     simp only [execI] at he
     exact Zxg he hw hne
    | _=>rw [hins] at hc;simp [ZaF] at hc
   ·cases h
  ·cases h
theorem Zu4 {o:AOp} {v:AVal} {c:Cls} {t:Nat} {cs:List AVal} (hc:ZaF o.ins=true) (hw:c.wr.contains t=false) (h:Zu O bf o sq tm σ=some (v,tm1,σ1,c)) (ht:σ[t]?=some (.var cs)):σ1[t]?=some (.var cs):=by
 unfold Zu at h
 split at h
 ·cases h
 ·simp only [Xa,Xb] at h
  obtain ⟨rfl,rfl,rfl,rfl⟩:=h
  exact ht
 ·split at h
  ·rename_i hf
   split at h
   ·rename_i v' σ'' c' he
    simp only [Xa,Xb] at h
    obtain ⟨rfl,rfl,rfl,rfl⟩:=h
    cases hins:o.ins with
    | st k x y =>
     rw [hins] at he hf
     simp only [execI] at he
     exact Zx4 he hw ht
    | glook kc z m k =>
     rw [hins] at he hf
     simp only [execI] at he
     exact ZtH (by simpa [nsite,ZdD] using hf) he hw ht
    | _=>rw [hins] at hc;simp [ZaF] at hc
   ·cases h
  ·cases h
theorem ZiR {o : AOp} {v : AVal} {c ci : Cls} (hl : Zaw o.ins = true) (h : Zu O bf o sq tm σ = some (v, tm1, σ1, c)) (hg : ZaA c ci = true) :
    ∃ t k off, c.got = [(t, k, off, v)] /\ σ1 = σ /\ tm1 = tput tm o.dst v /\ (∀ tm' σ2, (∀ n ∈ o.reads, tget tm n = tget tm' n) -> (∃ cs, σ2[t]? = some (.var cs) /\ partA k cs off = some v) -> Zu O bf o sq tm' σ2 = some (v, tput tm' o.dst v, σ2, c)) /\ ∃ cs, σ[t]? = some (.var cs) /\ partA k cs off = some v := by
  unfold Zu at h
  split at h
  . cases h
  . simp only [Xa, Xb] at h
    obtain ⟨rfl, rfl, rfl, rfl⟩ := h
    simp [ZaA] at hg
  . rename_i hw
    split at h
    . rename_i hf
      split at h
      . rename_i v' σ'' c' he
        simp only [Xa, Xb] at h
        obtain ⟨rfl, rfl, rfl, rfl⟩ := h
        cases hins : o.ins with
        | ld k a =>
          rw [hins] at he hf
          simp only [execI] at he
          have he0 := he
          unfold ldA at he
          split at he
          . rename_i t off ha
            split at he
            . rename_i cs hcs
              split at he
              . rename_i v2 hp
                simp only [Xa, Xb] at he
                obtain ⟨rfl, rfl, rfl⟩ := he
                refine ⟨t, k, off, rfl, rfl, rfl, fun tm' σ2 hr ⟨cs2, h1, h2⟩ => ?_, cs, hcs, hp⟩
                simp only [Zu, Zdk (g := o.guard) (tm := tm') (tm1 := tm) (fun j b hg => (hr j (Zdf hg)).symm), hw]
                rw [if_pos (by rw [hins]; rfl), <- ZeY (tm := tm) (tm' := tm') (fun n hn => hr n (Zfh hn)), hins]
                simp only [execI, ha, ldA, h1, h2]
              . cases he
            . cases he
          . repeat' split at he
            all_goals first
              | (cases he; done)
              | (simp only [Xa, Xb] at he
                 obtain ⟨rfl, rfl, rfl⟩ := he
                 simp [ZaA] at hg)
          . repeat' split at he
            all_goals first
              | (cases he; done)
              | (simp only [Xa, Xb] at he
                 obtain ⟨rfl, rfl, rfl⟩ := he
                 simp [ZaA] at hg)
          . cases he
        | _ => rw [hins] at hl; simp [Zaw] at hl
      . cases h
    . cases h
theorem Zx6 {o:AOp} {v:AVal} {c:Cls} {s:Nat} (hc:Zao o.ins=true\/(Zau o.ins=true/\(!c.any)=true)) (h:Zu O bf o sq tm σ=some (v,tm1,σ1,c)) (hs:σ1[s]?=some .free):σ[s]?=some .free:=by
 rcases hc with hc | ⟨hc,_⟩
 ·exact ZuJ hc h hs
 ·rcases Zka hc h with ⟨_,_,rfl,_⟩ | ⟨_,_,_,_,_,ha,_⟩
  ·exact hs
  ·exact ZlS ha hs
theorem Zwt {o:AOp} {v:AVal} {c:Cls} {s:Nat} (hc:Zao o.ins=true\/(Zau o.ins=true/\(!c.any)=true)) (h:Zu O bf o sq tm σ=some (v,tm1,σ1,c)) (hs:σ1[s]?=some .free) (hne:∀ i,i < nsite o.ins->sq+i≠s) :
  σ[s]?=some .free/\∀ b tm',(∀ n ∈ o.reads,tget tm n=tget tm' n)->Zu O bf o sq tm' (σ.set s b)=some (v,tput tm' o.dst v,σ1.set s b,c):=by
 rcases hc with hc | ⟨hc,hany⟩
 ·exact Zxo hc h hs hne
 ·have hn:sq≠s:=by
   have : nsite o.ins=1:=by
    cases hins:o.ins with
    | app k bytes z x y=>rfl
    | _=>rw [hins] at hc;simp [Zau] at hc
   simpa using hne 0 (by omega)
  rcases Zka hc h with ⟨hw,rfl,rfl,rfl⟩ | ⟨hf,k,bytes,x,y,ha,gen⟩
  ·refine ⟨hs,fun b tm' hr=>?_⟩
   simp only [Zu,Zdk (g:=o.guard) (tm:=tm') (tm1:=tm) (fun j b hg=>(hr j (Zdf hg)).symm),hw]
  ·have h0:=ZlS ha hs
   refine ⟨h0,fun b tm' hr=>gen tm' _ _ _ _ hr ?_ (ZAu (by simpa using hany) ha h0 hn b)⟩
   rw [ZdD] at hf ⊢
   rw [WQ (fun e=>hn e.symm)]
   exact hf
def Frz (σ σ2:Za):Prop:=∀ t:Nat,σ2[t]?=σ[t]?\/∃ (g k:Nat) (xs:List AVal),σ[t]?=some (ZV.row g k xs)/\σ2[t]?=some (ZV.frow g k xs)
theorem Frz.refl (σ:Za):Frz σ σ:=fun _=>Xw rfl
theorem Zh5:∀ (ts:List Nat) (σ:Za),Frz σ (Zs σ ts)
 | [],σ=>Frz.refl σ
 | t::ts,σ=>by
  unfold Zs
  split
  ·rename_i g k xs ht
   intro u
   have ih:=Zh5 ts (σ.set t (.frow g k xs)) u
   have htl:t < σ.length:=(Xd.1 ht).1
   by_cases e:u=t
   ·subst e
    have e1:(σ.set u (.frow g k xs))[u]?=some (.frow g k xs):=by simp [htl]
    rw [e1] at ih
    rcases ih with ih | ⟨_,_,_,ih,_⟩
    ·exact XE ⟨g,k,xs,ht,ih⟩
    ·cases ih
   ·rw [WQ (fun h=>e h.symm)] at ih
    exact ih
  ·exact Zh5 ts σ
theorem ZkY {σ σ2 σ' : Za} {k : Option Nat} {a v : AVal} {c : Cls} (hf : Frz σ σ2) (h : ldA σ k a = some (v, σ', c)) : σ' = σ /\ ldA σ2 k a = some (v, σ2, c) := by
  unfold ldA at h ⊢
  split at h
  . rename_i t o
    rcases hf t with e | ⟨_, _, _, e1, _⟩
    . simp only [e]
      repeat' split at h
      all_goals first
        | (cases h; done)
        | (simp only [Xa, Xb] at h
           obtain ⟨rfl, rfl, rfl⟩ := h
           simp_all)
    . rw [e1] at h; cases h
  . rename_i t g i o
    rcases hf t with e | ⟨g1, k1, xs1, e1, e2⟩
    . simp only [e]
      repeat' split at h
      all_goals first
        | (cases h; done)
        | (simp only [Xa, Xb] at h
           obtain ⟨rfl, rfl, rfl⟩ := h
           simp_all)
    . simp only [e1] at h
      simp only [e2]
      repeat' split at h
      all_goals first
        | (cases h; done)
        | (simp only [Xa, Xb] at h
           obtain ⟨rfl, rfl, rfl⟩ := h
           simp_all)
  . repeat' split at h
    all_goals first
      | (cases h; done)
      | (simp only [Xa, Xb] at h
         obtain ⟨rfl, rfl, rfl⟩ := h
         simp_all)
  . cases h
theorem ZkG {σ σ2 σ' : Za} {k : Nat} {a i v : AVal} {c : Cls} (hf : Frz σ σ2) (h : ZaN σ k a i = some (v, σ', c)) : σ' = σ /\ ZaN σ2 k a i = some (v, σ2, c) := by
  unfold ZaN at h ⊢
  split at h
  . split at h
    . rename_i h0
      rw [if_pos h0]
      split at h
      . repeat' split at h
        all_goals first
          | (cases h; done)
          | (simp only [Xa, Xb] at h
             obtain ⟨rfl, rfl, rfl⟩ := h
             simp_all)
      . rename_i t g p n
        rcases hf t with e | ⟨g1, k1, xs1, e1, e2⟩
        . simp only [e]
          repeat' split at h
          all_goals first
            | (cases h; done)
            | (simp only [Xa, Xb] at h
               obtain ⟨rfl, rfl, rfl⟩ := h
               simp_all)
        . simp only [e1] at h
          simp only [e2]
          repeat' split at h
          all_goals first
            | (cases h; done)
            | (simp only [Xa, Xb] at h
               obtain ⟨rfl, rfl, rfl⟩ := h
               simp_all)
      . cases h
    . cases h
  . cases h
theorem Zpt {o:AOp} {v:AVal} {c:Cls} (hl:ZaT o.ins=true) (h:Zu O bf o sq tm σ=some (v,tm1,σ1,c)) :
  σ1=σ/\tm1=tput tm o.dst v/\∀ tm' σ2,(∀ n ∈ o.reads,tget tm n=tget tm' n)->Frz σ σ2->Zu O bf o sq tm' σ2=some (v,tput tm' o.dst v,σ2,c):=by
 unfold Zu at h
 split at h
 ·cases h
 ·rename_i hw
  simp only [Xa,Xb] at h
  obtain ⟨rfl,rfl,rfl,rfl⟩:=h
  refine ⟨rfl,rfl,fun tm' σ2 hr _=>?_⟩
  simp only [Zu,Zdk (g:=o.guard) (tm:=tm') (tm1:=tm) (fun j b hg=>(hr j (Zdf hg)).symm),hw]
 ·rename_i hw
  split at h
  ·rename_i hf
   split at h
   ·rename_i v' σ'' c' he
    simp only [Xa,Xb] at h
    obtain ⟨rfl,rfl,rfl,rfl⟩:=h
    cases hins:o.ins with
    | ld k a =>
     rw [hins] at he
     simp only [execI] at he
     have e1:=(ZkY (Frz.refl σ) he).1
     subst e1
     refine ⟨rfl,rfl,fun tm' σ2 hr hz=>?_⟩
     simp only [Zu,Zdk (g:=o.guard) (tm:=tm') (tm1:=tm) (fun j b hg=>(hr j (Zdf hg)).symm),hw]
     rw [if_pos (by rw [hins];rfl),<-ZeY (tm:=tm) (tm':=tm') (fun n hn=>hr n (Zfh hn)),hins]
     simp only [execI,(ZkY hz he).2]
    | iaddr k x i =>
     rw [hins] at he
     simp only [execI] at he
     have e1:=(ZkG (Frz.refl σ) he).1
     subst e1
     refine ⟨rfl,rfl,fun tm' σ2 hr hz=>?_⟩
     simp only [Zu,Zdk (g:=o.guard) (tm:=tm') (tm1:=tm) (fun j b hg=>(hr j (Zdf hg)).symm),hw]
     rw [if_pos (by rw [hins];rfl),<-ZeY (tm:=tm) (tm':=tm') (fun n hn=>hr n (Zfh hn)),hins]
     simp only [execI,(ZkG hz he).2]
    | _=>rw [hins] at hl;simp [ZaT] at hl
   ·cases h
  ·cases h
theorem ZwE {o:AOp} {v:AVal} {c:Cls} (hl:ZaO o.ins=true) (h:Zu O bf o sq tm σ=some (v,tm1,σ1,c)):Frz σ σ1:=by
 unfold Zu at h
 split at h
 ·cases h
 ·simp only [Xa,Xb] at h
  obtain ⟨rfl,rfl,rfl,rfl⟩:=h
  exact Frz.refl _
 ·split at h
  ·split at h
   ·rename_i v' σ'' c' he
    simp only [Xa,Xb] at h
    obtain ⟨rfl,rfl,rfl,rfl⟩:=h
    cases hins:o.ins with
    | bslice own k n z parts =>
     rw [hins] at hl he
     simp only [ZaO,Wy] at hl
     subst hl
     simp only [execI] at he
     split at he
     ·cases he
     ·rename_i ys ts hv
      split at he
      ·simp only [Xz,if_false,Xa,Xb] at he
       obtain ⟨_,rfl,_⟩:=he
       exact Zh5 ts σ
      ·cases he
    | _=>rw [hins] at hl;simp [ZaO] at hl
   ·cases h
  ·cases h
theorem ZAE {f own:Nat} {view:Bool} {args:List AVal} {v:AVal} {c:Cls} (h:Z7 O bf σ sq f own view args=some (v,σ',c)) (ha:c.any=true) {t:Nat} {cs:List AVal} (hn:c.upd.lookup t=none) (hlt:t < sq) (ht:σ'[t]?=some (.var cs)):σ[t]?=some (.var cs):=by
 unfold Z7 at h
 split at h
 ·cases h
 rename_i xs ts hsh
 generalize hids:Zf (Zs σ ts) 1000 (ZX xs) []=ids at h
 unfold Zcj at h
 split at h
 case isFalse=>cases h
 generalize ZaM view ids.length (O f (ZW (Zd (Zs σ ts) 0 ids) xs) (Zg (Zs σ ts) 0 ids (Zd (Zs σ ts) 0 ids) ids 0))=q at h
 cases q with
 | none=>simp only [ZaC] at h;cases h
 | some q =>
  obtain ⟨r,hp⟩:=q
  simp only [ZaC] at h
  split at h
  ·split at h
   ·simp only [Xa,Xb] at h
    rw [<-h.2.2] at ha;cases ha
   split at h
   ·simp only [Xa,Xb] at h
    rw [<-h.2.2] at ha;cases ha
   ·simp only [Xa,Xb] at h
    rw [<-h.2.2] at ha;cases ha
  ·split at h
   ·simp only [Xa,Xb] at h
    rw [<-h.2.2] at ha;cases ha
   split at h
   ·rename_i hcc
    simp only [Xa,Xb] at h
    obtain ⟨_,rfl,rfl⟩:=h
    have hm:t ∉ ids:=fun hm=>ZgZ hn hm ht
    rw [Zgc (fun i hi e=>by
     rw [XF] at e
     unfold ZaL at e
     rw [Xj] at e
     rcases XaA i ids.length with hl | hl
     ·rw [XB hl] at e
      simp only [Wu] at e
      exact hm (e ▸ Xaj hl)
     ·rw [XV hl] at e
      simp only [Xax] at e
      omega)] at ht
    rcases Zh5 ts σ t with e | ⟨g1,k1,xs1,e1,e2⟩
    ·rw [<-e];exact ht
    ·rw [e2] at ht;cases ht
   ·cases h
theorem ZrM {o:AOp} {v:AVal} {c:Cls} {t:Nat} {cs:List AVal} (hc:Zao o.ins=true) (h:Zu O bf o sq tm σ=some (v,tm1,σ1,c)) (ha:c.any=true) (hn:c.upd.lookup t=none) (hlt:t < sq) (ht:σ1[t]?=some (.var cs)):σ[t]?=some (.var cs):=by
 rcases ZhQ hc h with ⟨hw,rfl,rfl,rfl⟩ | ⟨hw,hf,f,own,view,args,ho,gen,hg⟩
 ·cases ha
 ·exact ZAE hg ha hn hlt ht
theorem ZsP {σ σ1 : Za} {sq k bytes : Nat} {x y v : AVal} {c : Cls} (h : Zae σ sq k bytes x y = some (v, σ1, c)) (ha : c.any = false) {t : Nat} (hw : c.wr.contains t = false) (hs : t ≠ sq) : σ1[t]? = σ[t]? := by
  unfold Zae at h
  split at h
  . unfold Zea at h
    repeat' split at h
    all_goals first
      | (cases h; done)
      | (simp only [Xa, Xb] at h
         obtain ⟨_, _, rfl⟩ := h
         cases ha)
  . repeat' split at h
    all_goals first
      | (cases h; done)
      | (simp only [Xa, Xb] at h
         obtain ⟨_, rfl, rfl⟩ := h
         first
         | rfl
         | (rw [WQ (fun e => hs e.symm)])
         | (rw [WQ (by rintro rfl; simp at hw)]))
theorem Znl {oj oi:AOp} {sj si:Nat} {vj vi:AVal} {cj ci:Cls} (hj:Zu O bf oj sj tm σ=some (vj,tm1,σ1,cj)) (hi:Zu O bf oi si tm1 σ1=some (vi,tm2,σ2,ci)) (hap:oj.apartT oi=true)
  (hp:Zcn oj oi cj ci sj=true) (hs:nsite oj.ins≠0->nsite oi.ins≠0->sj≠si) (hs2:sj+nsite oj.ins<=si):∃ tm1' σ1',Zu O bf oi si tm σ=some (vi,tm1',σ1',ci)/\Zu O bf oj sj tm1' σ1'=some (vj,tm2,σ2,cj):=by
 have hd:(∀ d,oj.dst=some d->d ∉ oi.reads)/\(∀ d,oj.dst=some d->oi.dst≠some d)/\(∀ d,oi.dst=some d->d ∉ oj.reads):=by
  unfold AOp.apartT at hap
  simp only [Xl] at hap
  refine ⟨fun d hd hr=>?_,fun d hd he=>?_,fun d hd hr=>?_⟩
  ·have:=hap.1;rw [hd] at this;simp [hr] at this
  ·have:=hap.1;rw [hd] at this;simp [he] at this
  ·have:=hap.2;rw [hd] at this;simp [hr] at this
 obtain ⟨d1,d2,d3⟩:=hd
 have rdI:∀ v n,n ∈ oi.reads->tget (tput tm oj.dst v) n=tget tm n:=fun v n hn=>ZkD (by intro e;exact d1 n e hn)
 have rdJ:∀ v n,n ∈ oj.reads->tget tm n=tget (tput tm oi.dst v) n:=fun v n hn=>(ZkD (by intro e;exact d3 n e hn)).symm
 unfold Zcn at hp
 simp only [Wv,Xl] at hp
 have noWr_of:∀ {o:AOp} {c:Cls},Zcd o c=true->ZcN c=true/\c.rd=[]/\nsite o.ins=0:=by
  intro o c h
  simp only [Zcd,Xl,beq_iff_eq,Xak] at h
  exact ⟨by simp [ZcN,h.1.2,h.2],h.1.1.2,h.1.1.1⟩
 rcases hp with (((((((hp | hp) | ⟨⟨hp1,hp2⟩,hp3⟩) | ⟨hp1,hp2,hp3⟩) | ⟨⟨⟨hp1,hp2⟩,hp3⟩,hp4⟩) | ⟨⟨hp1,hp2⟩,hp4⟩) | ⟨hp1,hp2⟩) | ⟨⟨⟨hp1,hp2⟩,hp3⟩,hp4⟩) | ⟨⟨⟨hp1,hp3⟩,hp4⟩,hp5⟩
 ·obtain ⟨w1,w2,w3⟩:=noWr_of hp
  obtain ⟨ob,rfl,rfl,e3,_,_,e6⟩:=ZfJ hj w1
  have hob:ob=none:=by
   cases ob with
   | none=>rfl
   | some b=>exact absurd w3 (e3 rfl).1
  subst hob
  simp only [Zay] at hi e6 ⊢
  obtain ⟨rfl,f2⟩:=Zep hi
  have g1:=f2 tm (rdI vj)
  refine ⟨_,_,g1,?_⟩
  rw [e6 _ σ2 (rdJ vi) (by rw [w2];intro t ht;simp at ht) (fun h=>absurd w3 h),ZdT vi vj (fun d hd he=>d2 d he hd)]
 ·obtain ⟨w1,w2,w3⟩:=noWr_of hp
  obtain ⟨ob,rfl,rfl,e3,_,_,e6⟩:=ZfJ hi w1
  have hob:ob=none:=by
   cases ob with
   | none=>rfl
   | some b=>exact absurd w3 (e3 rfl).1
  subst hob
  simp only [Zay] at e6 ⊢
  obtain ⟨rfl,f2⟩:=Zep hj
  have g1:=e6 tm σ (rdI vj) (by rw [w2];intro t ht;simp at ht) (fun h=>absurd w3 h)
  refine ⟨_,_,g1,?_⟩
  rw [f2 _ (rdJ vi),ZdT vi vj (fun d hd he=>d2 d he hd)]
 ·obtain ⟨ob,rfl,rfl,a3,a4,a5,a6⟩:=ZfJ hj hp1
  obtain ⟨oc,rfl,rfl,b3,b4,b5,b6⟩:=ZfJ hi hp2
  have hsne:ob.isSome=true->nsite oi.ins≠0->sj≠si:=fun h1 h2=>hs (a3 h1).1 h2
  have hrdi:∀ t ∈ ci.rd,ob.isSome=true->sj≠t:=by
   intro t ht ho e
   subst e
   rcases hp3 with hp3 | hp3
   ·exact (a3 ho).1 (by simpa using hp3)
   ·simp [ht] at hp3
  have g1:=b6 tm σ (rdI vj) (fun t ht=>(Zgy (hrdi t ht)).symm) (fun h2 hf=>by
   rw [ZdD] at hf ⊢
   rwa [Zgy (fun ho=>hsne ho h2)] at hf)
  refine ⟨_,_,g1,?_⟩
  have hsi:oc.isSome=true->σ[si]?=some .free:=by
   intro ho
   have:=(b3 ho).2
   rw [ZdD,Zgy (fun ho'=>hsne ho' (b3 ho).1)] at this
   exact this
  rw [a6 _ (Zay σ si oc) (rdJ vi) (fun t ht=>Zgy (fun ho e=>by
   subst e
   obtain ⟨x,hx,hne⟩:=a5 si ht
   rw [hsi ho] at hx;injection hx with hx;exact hne hx.symm)) (fun h1 hf=>by
   rw [ZdD] at hf ⊢
   rwa [Zgy (fun ho=>(hs h1 (b3 ho).1).symm)]),ZdT vi vj (fun d hd he=>d2 d he hd),ZyL (fun h1 h2=>(hs (a3 h2).1 (b3 h1).1).symm)]
 ·obtain ⟨oc,rfl,rfl,b3,b4,b5,b6⟩:=ZfJ hi hp2
  have hrd:ci.rd=[]:=by simpa using hp3
  obtain ⟨rfl,f2⟩:=Zep hj
  cases oc with
  | none =>
   simp only [Zay] at b6 ⊢
   have g1:=b6 tm σ (rdI vj) (by rw [hrd];intro t ht;simp at ht) (fun h1 h2=>by
    rw [ZdD] at h2 ⊢
    exact Zx6 hp1 hj h2)
   refine ⟨_,_,g1,?_⟩
   rw [f2 _ (rdJ vi),ZdT vi vj (fun d hd he=>d2 d he hd)]
  | some b =>
   have hfr:=(b3 rfl).2
   rw [ZdD] at hfr
   obtain ⟨k1,k2⟩:=Zwt hp1 hj hfr (fun i hi=>by omega)
   have g1:=b6 tm σ (rdI vj) (by rw [hrd];intro t ht;simp at ht) (fun h1 h2=>by
    rw [ZdD] at h2 ⊢;exact k1)
   refine ⟨_,_,g1,?_⟩
   have:=k2 b (tput tm oi.dst vi) (rdJ vi)
   simp only [Zay]
   rw [this,ZdT vi vj (fun d hd he=>d2 d he hd)]
 ·obtain ⟨t,k,o,q1,rfl,rfl,q4,q5⟩:=ZiR hp1 hj hp4
  obtain ⟨rfl,f2⟩:=Zep hi
  have g1:=f2 tm (rdI vj)
  refine ⟨_,_,g1,?_⟩
  obtain ⟨cs,q6,q7⟩:=q5
  obtain ⟨r1,r2⟩:=ZwU hp2 hi hp3 q6
  have hv:∃ cs,σ2[t]?=some (.var cs)/\partA k cs o=some vj:=by
   unfold ZaA at hp4
   rw [q1] at hp4
   simp only at hp4
   split at hp4
   ·rename_i hl;exact ⟨cs,r1 hl,q7⟩
   ·rename_i cs2 hl
    split at hp4
    ·rename_i u hu
     rw [Zty hp4] at hu
     exact ⟨cs2,r2 cs2 hl,hu⟩
    ·cases hp4
  rw [q4 _ σ2 (rdJ vi) hv,ZdT vi vj (fun d hd he=>d2 d he hd)]
 ·obtain ⟨t,k,o,q1,rfl,rfl,q4,q5⟩:=ZiR hp1 hj hp4
  obtain ⟨rfl,f2⟩:=Zep hi
  have g1:=f2 tm (rdI vj)
  refine ⟨_,_,g1,?_⟩
  obtain ⟨cs,q6,q7⟩:=q5
  have hk:σ2[t]?=some (.var cs):=by
   rcases hp2 with hp2 | ⟨hp2,hp3⟩
   ·exact Zs0 hp2 hi q6
   ·refine Zu4 hp2 ?_ hi q6
    unfold ZaU at hp3
    rw [q1] at hp3
    simpa using hp3
  rw [q4 _ σ2 (rdJ vi) ⟨cs,hk,q7⟩,ZdT vi vj (fun d hd he=>d2 d he hd)]
 ·obtain ⟨rfl,rfl,q⟩:=Zpt hp1 hj
  obtain ⟨rfl,f2⟩:=Zep hi
  have g1:=f2 tm (rdI vj)
  refine ⟨_,_,g1,?_⟩
  rw [q _ σ2 (rdJ vi) (ZwE hp2 hi),ZdT vi vj (fun d hd he=>d2 d he hd)]
 ·have hgot:∃ t0 k0 o0 v0,ci.got=[(t0,k0,o0,v0)]/\t0 < sj/\cj.upd.lookup t0=none:=by
   unfold ZaW at hp4
   split at hp4
   ·rename_i t0 k0 o0 v0 hg
    simp only [Xl,decide_eq_true_eq,Option.isNone_iff_eq_none] at hp4
    exact ⟨t0,k0,o0,v0,hg,hp4.1,hp4.2⟩
   ·cases hp4
  obtain ⟨t0,k0,o0,v0,hg,hlt,hnone⟩:=hgot
  have hg0:ZaA ci {}=true:=by
   unfold ZaA
   rw [hg]
   rfl
  obtain ⟨rfl,f2⟩:=Zep hj
  obtain ⟨t,k,o,q1,rfl,rfl,q4,cs,q6,q7⟩:=ZiR hp2 hi hg0
  rw [hg] at q1
  injection q1 with q1 _
  injection q1 with q1 _
  subst q1
  have hk:=ZrM hp1 hj hp3 hnone hlt q6
  have g1:=q4 tm σ (rdI vj) ⟨cs,hk,q7⟩
  refine ⟨_,_,g1,?_⟩
  rw [f2 _ (rdJ vi),ZdT vi vj (fun d hd he=>d2 d he hd)]
 ·obtain ⟨oc,rfl,rfl,b3,b4,b5,b6⟩:=ZfJ hi hp3
  have hn0:nsite oi.ins=0:=by simpa using hp4
  have hoc:oc=none:=by
   cases oc with
   | none=>rfl
   | some b=>exact absurd hn0 (b3 rfl).1
  subst hoc
  simp only [Zay] at b6 ⊢
  obtain ⟨rfl,f2⟩:=Zep hj
  have far:∀ t ∈ ci.rd,σ[t]?=σ1[t]?:=by
   intro t ht
   have hq:=XM.1 hp5 t ht
   simp only [Xl,Wy,bne_iff_ne,ne_eq] at hq
   rcases hp1 with ⟨hp1,hp2⟩ | hp1
   ·rcases Zka hp1 hj with ⟨_,_,rfl,_⟩ | ⟨_,_,_,_,_,ha,_⟩
    ·rfl
    ·exact (ZsP ha (by simpa using hp2) hq.1 hq.2).symm
   ·exact (Zvy hp1 hj hq.1 hq.2).symm
  have g1:=b6 tm σ (rdI vj) far (fun h1 _=>absurd hn0 h1)
  refine ⟨_,_,g1,?_⟩
  rw [f2 _ (rdJ vi),ZdT vi vj (fun d hd he=>d2 d he hd)]
inductive Zcx (O:ZZ) (bf:Nat->Bool) (ops:List AOp) (L:Nat) (cs:List Cls):List Nat->Tms->Za->Tms->Za->Prop
 | nil {tm:Tms} {σ:Za}:Zcx O bf ops L cs [] tm σ tm σ
 | cons {i:Nat} {l:List Nat} {v:AVal} {tm tm1 tm2:Tms} {σ σ1 σ2:Za}:Zu O bf (ops.getD i default) (L+sitesOf (ops.take i)) tm σ=some (v,tm1,σ1,cs.getD i {})->(∀ x,v≠.pan x)->Zcx O bf ops L cs l tm1 σ1 tm2 σ2->Zcx O bf ops L cs (i::l) tm σ tm2 σ2
theorem Zij (ops:List AOp) {k:Nat} (h:k < ops.length):sitesOf (ops.take (k+1))=sitesOf (ops.take k)+nsite (ops[k]).ins:=by
 rw [List.take_succ_eq_append_getElem h]
 simp only [sitesOf,Wc,List.sum_append,Xu,X0,List.sum_cons,List.sum_nil,Wm]
theorem Zld {ops:List AOp} {L:Nat}:∀ (m k:Nat) {cs cs':List Cls} {tm:Tms} {σ:Za} {tm':Tms} {σ':Za},k+m=ops.length->ZY O bf (ops.drop k) (L+sitesOf (ops.take k)) tm σ=some (tm',σ',cs',none)->(∀ j,cs'.getD j {}=cs.getD (k+j) {})->Zcx O bf ops L cs (Xaz k m) tm σ tm' σ'
 | 0,k,cs,cs',tm,σ,tm',σ',hk,h,hcs=>by
  rw [WK (by omega)] at h
  simp only [ZY,Xa,Xb] at h
  obtain ⟨rfl,rfl,rfl,_⟩:=h
  exact Zcx.nil
 | m+1,k,cs,cs',tm,σ,tm',σ',hk,h,hcs=>by
  have hlt:k < ops.length:=by omega
  rw [WT hlt] at h
  simp only [ZY] at h
  split at h
  ·cases h
  ·simp only [Xa,Xb] at h
   obtain ⟨_,_,_,h⟩:=h
   cases h
  rename_i v tm1 σ1 c hnp h1
  split at h
  ·cases h
  rename_i tm2 σ2 cs2 p h2
  simp only [Xa,Xb] at h
  obtain ⟨rfl,rfl,rfl,rfl⟩:=h
  rw [Xa3]
  have hc0:=hcs 0
  simp only [XC,Wm] at hc0
  refine Zcx.cons (v:=v) (tm1:=tm1) (σ1:=σ1) ?_ (fun x e=>?_) (Zld m (k+1) (by omega) (cs':=cs2) ?_ (fun j=>?_))
  ·rw [<-hc0]
   simpa [Xj,hlt] using h1
  ·exact hnp x e
  ·rw [Zij ops hlt,<-WH];exact h2
  ·have:=hcs (j+1)
   simp only [XG] at this
   rw [this]
   congr 1;omega
theorem Ziy {ops:List AOp} {L:Nat} {cs:List Cls} {i:Nat} {l2:List Nat}:∀ {l1:List Nat} {tm:Tms} {σ:Za} {tm':Tms} {σ':Za},(∀ j ∈ l1,(ops.getD j default).apartT (ops.getD i default)=true/\Zcn (ops.getD j default) (ops.getD i default) (cs.getD j {}) (cs.getD i {}) (L+sitesOf (ops.take j))=true/\(nsite (ops.getD j default).ins≠0->nsite (ops.getD i default).ins≠0->L+sitesOf (ops.take j)≠L+sitesOf (ops.take i))/\L+sitesOf (ops.take j)+nsite (ops.getD j default).ins<=L+sitesOf (ops.take i)) ->
  Zcx O bf ops L cs (l1++i::l2) tm σ tm' σ'->∃ v tm1 σ1,Zu O bf (ops.getD i default) (L+sitesOf (ops.take i)) tm σ=some (v,tm1,σ1,cs.getD i {})/\(∀ x,v≠.pan x)/\Zcx O bf ops L cs (l1++l2) tm1 σ1 tm' σ'
 | [],tm,σ,tm',σ',_,h=>by
  cases h with
  | cons h1 hn h2=>exact ⟨_,_,_,h1,hn,h2⟩
 | j::l1,tm,σ,tm',σ',hall,h=>by
  cases h with
  | cons h1 hn h2 =>
   obtain ⟨v3,tm3,σ3,h3,hn3,h4⟩:=Ziy (l1:=l1) (fun k hk=>hall k (by simp [hk])) h2
   obtain ⟨p1,p2,p3,p4⟩:=hall j (by simp)
   obtain ⟨tm4,σ4,h5,h6⟩:=Znl h1 h3 p1 p2 p3 p4
   exact ⟨v3,tm4,σ4,h5,hn3,Zcx.cons h6 hn h4⟩
theorem ZmP {ops:List AOp} {L:Nat} {x:AVal}:∀ (m k:Nat) {cs cs':List Cls} {tm:Tms} {σ:Za} {tm':Tms} {σ':Za},k+m=ops.length->ZY O bf (ops.drop k) (L+sitesOf (ops.take k)) tm σ=some (tm',σ',cs',some x)->(∀ j,cs'.getD j {}=cs.getD (k+j) {}) ->
  ∃ n tmJ σJ tmX,n < m/\cs'.length=n+1/\Zcx O bf ops L cs (Xaz k n) tm σ tmJ σJ/\Zu O bf (ops.getD (k+n) default) (L+sitesOf (ops.take (k+n))) tmJ σJ=some (.pan x,tmX,σ',cs.getD (k+n) {})
 | 0,k,cs,cs',tm,σ,tm',σ',hk,h,hcs=>by
  rw [WK (by omega)] at h
  simp [ZY] at h
 | m+1,k,cs,cs',tm,σ,tm',σ',hk,h,hcs=>by
  have hlt:k < ops.length:=by omega
  rw [WT hlt] at h
  simp only [ZY] at h
  have hc0:=hcs 0
  have hg:ops.getD k default=ops[k]:=by simp [Xj,hlt]
  split at h
  ·cases h
  ·rename_i y tm1 σ1 c h1
   simp only [Xa,Xb] at h
   obtain ⟨rfl,rfl,rfl,rfl⟩:=h
   simp only [XC,Wm] at hc0
   refine ⟨0,tm,σ,tm1,by omega,rfl,Zcx.nil,?_⟩
   rw [Wm,<-hc0,hg]
   exact h1
  rename_i v tm1 σ1 c hnp h1
  split at h
  ·cases h
  rename_i tm2 σ2 cs2 p h2
  simp only [Xa,Xb] at h
  obtain ⟨rfl,rfl,rfl,rfl⟩:=h
  simp only [XC,Wm] at hc0
  have hnext:ZY O bf (ops.drop (k+1)) (L+sitesOf (ops.take (k+1))) tm1 σ1=some (tm2,σ2,cs2,some x):=by
   rw [Zij ops hlt,<-WH]
   exact h2
  obtain ⟨n,tmJ,σJ,tmX,g1,g2,g3,g4⟩:=ZmP m (k+1) (cs:=cs) (by omega) hnext (fun j=>by
   have:=hcs (j+1)
   simp only [XG] at this
   rw [this];congr 1;omega)
  refine ⟨n+1,tmJ,σJ,tmX,by omega,by simp [g2],?_,?_⟩
  ·rw [Xa3]
   refine Zcx.cons (v:=v) (tm1:=tm1) (σ1:=σ1) ?_ (fun x e=>hnp x e) g3
   rw [<-hc0,hg]
   exact h1
  ·rw [show k+(n+1)=k+1+n by omega]
   exact g4
theorem Zrp {o:AOp} {v:AVal} {c:Cls} {tm tm1:Tms} {σ σ1:Za} {sq:Nat} (hq:o.ins.touches=false\/Zaw o.ins=true) (h:Zu O bf o sq tm σ=some (v,tm1,σ1,c)):σ1=σ:=by
 unfold Zu at h
 split at h
 ·cases h
 ·simp only [Xa,Xb] at h;exact h.2.2.1.symm
 ·split at h
  ·split at h
   ·rename_i he
    simp only [Xa,Xb] at h
    rw [<-h.2.2.1]
    rcases hq with hq | hq
    ·exact Zzb hq he
    ·cases hi:o.ins with
     | ld k a =>
      rw [hi] at he
      simp only [execI] at he
      unfold ldA at he
      repeat' split at he
      all_goals first | (simp only [Xa,Xb] at he;exact he.2.1.symm) | cases he
     | _=>rw [hi] at hq;simp [Zaw] at hq
   ·cases h
  ·cases h
theorem ZmD {ops:List AOp} {L:Nat} {cs:List Cls} {i:Nat} {x:AVal} {tmX:Tms} {σX:Za}:∀ {l1:List Nat} {tm:Tms} {σ:Za} {tm':Tms} {σ':Za},(∀ j ∈ l1,((ops.getD j default).ins.touches=false\/Zaw (ops.getD j default).ins=true)/\(ops.getD j default).apartT (ops.getD i default)=true/\Zcn (ops.getD j default) (ops.getD i default) (cs.getD j {}) (cs.getD i {}) (L+sitesOf (ops.take j))=true/\(nsite (ops.getD j default).ins≠0->nsite (ops.getD i default).ins≠0->L+sitesOf (ops.take j)≠L+sitesOf (ops.take i))/\L+sitesOf (ops.take j)+nsite (ops.getD j default).ins<=L+sitesOf (ops.take i)) ->
  Zcx O bf ops L cs l1 tm σ tm' σ'->Zu O bf (ops.getD i default) (L+sitesOf (ops.take i)) tm' σ'=some (.pan x,tmX,σX,cs.getD i {})->∃ tm1,Zu O bf (ops.getD i default) (L+sitesOf (ops.take i)) tm σ=some (.pan x,tm1,σX,cs.getD i {})
 | [],tm,σ,tm',σ',_,h,hp=>by
  cases h
  exact ⟨_,hp⟩
 | j::l1,tm,σ,tm',σ',hall,h,hp=>by
  cases h with
  | cons h1 hn h2 =>
   obtain ⟨tm3,h3⟩:=ZmD (l1:=l1) (fun k hk=>hall k (by simp [hk])) h2 hp
   obtain ⟨hq,p1,p2,p3,p4⟩:=hall j (by simp)
   obtain ⟨tm4,σ4,h5,h6⟩:=Znl h1 h3 p1 p2 p3 p4
   have:=Zrp hq h6
   subst this
   exact ⟨tm4,h5⟩
end
end
section
open Go.RowKit
section
variable {P:Program} {O:ZZ} {bf:Nat->Bool} {an:Ann} {base:Nat->Prop} {w0:World} {I0:Imm}
structure Door where
 D:List Deferred
 K:List Nat
 X:Nat->Value
def Door.ok (dr:Door) (a:Act):Prop:=a.defers=dr.D/\∀ j ∈ dr.K,a.tmps.getD j undef=dr.X j
def Za0:Door:=⟨[],[],fun _=>undef⟩
theorem Zdw {a:Act}:Za0.ok a↔a.defers=[]:=by simp [Door.ok,Za0]
def StR (dr:Door) (nt:Nat) (base:Nat->Prop) (w0:World) (I0 I:Imm) (β:Bmap) (tm:Tms) (σ:Za) (a:Act) (w:World):Prop :=
 ∃ I' β',I.le I'/\β.le β'/\TR I' β' tm a.tmps/\(dr.ok a/\nt<=a.tmps.size)/\Rel base w0 I0 I' β' σ w
variable {dr:Door}
theorem StR.trans {nt:Nat} {I I1:Imm} {β β1:Bmap} {tm:Tms} {σ:Za} {a:Act} {w:World} (hI:I.le I1) (hβ:β.le β1) (h:StR dr nt base w0 I0 I1 β1 tm σ a w):StR dr nt base w0 I0 I β tm σ a w:=by
 obtain ⟨I',β',h1,h2,h3⟩:=h
 exact ⟨I',β',hI.trans h1,hβ.trans h2,h3⟩
theorem Post.trans {I I1:Imm} {β β1:Bmap} {x:AVal} {σ:Za} {u:Value} {w:World} (hI:I.le I1) (hβ:β.le β1) (h:Post base w0 I0 I1 β1 x σ u w):Post base w0 I0 I β x σ u w:=by
 obtain ⟨I',β',h1,h2,h3⟩:=h
 exact ⟨I',β',hI.trans h1,hβ.trans h2,h3⟩
theorem ZnF {I:Imm} {β:Bmap} {tm:Tms} {a:Act} {v:AVal} {u:Value} (T:TR I β tm a.tmps) (hv:VR I β v u) {d:Option Nat} (hd:∀ n,d=some n->n < a.tmps.size):TR I β (tput tm d v) (a.put d u).tmps:=by
 cases d with
 | none=>exact T
 | some d=>exact T.put hv (hd d rfl)
theorem Zha (a:Act) (d:Option Nat) (u:Value):(a.put d u).defers=a.defers:=by cases d <;> rfl
theorem Zg1 {a:Act} {d:Option Nat} {u:Value} (h:dr.ok a) (hd:∀ n,d=some n->n ∉ dr.K):dr.ok (a.put d u):=by
 refine ⟨(Zha a d u).trans h.1,fun j hj=>?_⟩
 rw [<-h.2 j hj]
 cases d with
 | none=>rfl
 | some n =>
  have hne:n≠j:=by rintro rfl;exact hd n rfl hj
  simp only [Act.put,WE]
  rw [We hne]
theorem Zdc (a:Act) (d:Option Nat) (u:Value):(a.put d u).tmps.size=a.tmps.size:=by cases d <;> simp [Act.put]
theorem Zlz {I:Imm} {β:Bmap} {tm:Tms} {a:Act} (T:TR I β tm a.tmps) {ops:Array Oper} {o:Oper} {g:Option (Nat×Bool)} (hg:Zig ops o.guard=some g) {b:Bool} (h:Za3 g tm=some b):Region.wanted o (yielded ops a.tmps)=b:=by
 unfold Zig at hg
 unfold Region.wanted
 split at hg
 ·rename_i e
  injection hg with hg;subst hg
  simp only [Za3,Xa] at h
  subst h
  rw [e]
 ·rename_i j want e
  split at hg
  ·rename_i o' ho'
   split at hg
   ·rename_i d hd
    injection hg with hg;subst hg
    rw [e]
    show (yielded ops a.tmps j == some want)=b
    have hy:yielded ops a.tmps j=match a.tmps[d]? with | some (.bool b)=>some b | _=>none:=by
     simp only [yielded,ho',X9,hd]
     rfl
    rw [hy]
    have hx:=T d
    rw [WE] at hx
    simp only [Za3] at h
    split at h
    ·rename_i b' hb'
     rw [hb'] at hx
     simp only [VR] at hx
     have : a.tmps[d]?=some (.bool b'):=by
      cases hq:a.tmps[d]? with
      | none=>rw [hq] at hx;simp [undef] at hx
      | some q=>rw [hq] at hx;simp at hx;subst hx;rfl
     rw [this]
     simp only [Xa] at h
     subst h
     cases b' <;> cases want <;> rfl
    ·rename_i hb'
     rw [hb'] at hx
     simp only [VR,VRs] at hx
     obtain ⟨us,hus,hnil⟩:=hx
     injection h with h;subst h
     cases hq:a.tmps[d]? with
     | none=>rfl
     | some q =>
      rw [hq] at hus;simp at hus;subst hus
      rfl
    ·cases h
   ·cases hg
  ·cases hg
theorem Zj0 {ops:Array Oper} {o:Oper} {ao:AOp} (hc:Ze7 P an ops o=some ao):∃ g i,Zig ops o.guard=some g/\(∃ own,Z0 P an own o.op=some i)/\(∀ n,o.dst=some n->n < an.nt/\n ∉ an.keep)/\ao=⟨o.dst,i,g,(o.after.toList.filter (Region.binds .any)).map (·.on)⟩:=by
 unfold Ze7 at hc
 split at hc
 ·rename_i g i hg hi
  split at hc
  ·rename_i hd
   injection hc with hc
   refine ⟨g,i,hg,⟨_,hi⟩,fun n hn=>?_,hc.symm⟩
   rw [hn] at hd
   simp only [Zl9,Xl,decide_eq_true_eq,Wy,XaN,decide_eq_false_iff_not] at hd
   exact hd
  ·cases hc
 ·cases hc
theorem ZfV (hO:Zad P O) (hkp:∀ n ∈ dr.K,n ∈ an.keep) {ops:Array Oper} {o:Oper} {ao:AOp} (hc:Ze7 P an ops o=some ao) {I:Imm} {β:Bmap} {tm tm':Tms} {σ σ':Za} {a:Act} {w:World} (T:TR I β tm a.tmps) (hd:dr.ok a/\an.nt<=a.tmps.size) (R:Rel base w0 I0 I β σ w) (hb:KLt base w0)
  {sq:Nat} {v:AVal} {c:Cls} (h:Zu O bf ao sq tm σ=some (v,tm',σ',c)) {K:Act->World->Prop} {Q:Exit->Act->World->Prop} (hK:(∀ x,v≠.pan x)->∀ a' w',StR dr an.nt base w0 I0 I β tm' σ' a' w'->K a' w')
  (hQ:∀ x,v=.pan x->∀ u w',Post base w0 I0 I β x σ' u w'->Q (.panic [{ v:=u,recovered:=false }]) a w') :
  if Region.wanted o (yielded ops a.tmps) then o.wp P a w K Q\/(o.asks P a w/\LetsOut Q) else K (a.put o.dst undef) w:=by
 obtain ⟨g,i,hg,⟨own,hi⟩,hdst,rfl⟩:=Zj0 hc
 have hdst':∀ n,o.dst=some n->n < a.tmps.size:=fun n hn=>Nat.lt_of_lt_of_le (hdst n hn).1 hd.2
 have hdk:∀ n,o.dst=some n->n ∉ dr.K:=fun n hn hm=>(hdst n hn).2 (hkp n hm)
 unfold Zu at h
 split at h
 ·cases h
 ·rename_i hw
  simp only at hw
  rw [Zlz T hg hw]
  simp only [Xa,Xb] at h
  obtain ⟨rfl,rfl,rfl,rfl⟩:=h
  simp only [Xz,if_false]
  exact hK (by simp) _ _ ⟨I,β,Imm.le.refl I,Bmap.le.refl β,ZnF T (Zg8 I β) hdst',⟨Zg1 hd.1 hdk,by rw [Zdc];exact hd.2⟩,R⟩
 ·rename_i hw
  simp only at hw
  rw [Zlz T hg hw]
  simp only [if_true]
  split at h
  ·rename_i hf
   split at h
   ·rename_i v' σ1 c' he
    simp only [Xa,Xb] at h
    obtain ⟨rfl,rfl,rfl,rfl⟩:=h
    have hs:nsite i≠0->σ[sq]?=some .free:=by
     intro hn
     simp only [Wv,beq_iff_eq] at hf
     exact ZdD.1 (hf.resolve_left hn)
    rcases ZyK hO hi T R hb hs he with hok | ⟨x,rfl,hpan⟩
    ·refine Xw (hok.wp (fun u w' hp=>?_))
     obtain ⟨I',β',h1,h2,h3,h4⟩:=hp
     refine hK ?_ _ _ ⟨I',β',h1,h2,ZnF (T.mono h1 h2) h4 hdst',⟨Zg1 hd.1 hdk,by rw [Zdc];exact hd.2⟩,h3⟩
     rintro x rfl
     simp only [VR] at h4
    ·exact Xw (hpan.wp (fun u w' hp=>hQ x rfl u w' hp))
   ·cases h
  ·cases h
theorem Zj7 (hO:Zad P O) (hkp:∀ n ∈ dr.K,n ∈ an.keep) (hb:KLt base w0) {ops:Array Oper} {Q:Exit->Act->World->Prop}:∀ {l:List Oper} {asl:List AOp} {sq:Nat} {I:Imm} {β:Bmap} {tm tm':Tms} {σ σ':Za} {cs:List Cls} {p:Option AVal} {a:Act} {w:World},Zb5 P an ops l=some asl->TR I β tm a.tmps->(dr.ok a/\an.nt<=a.tmps.size)->Rel base w0 I0 I β σ w ->
  ZY O bf asl sq tm σ=some (tm',σ',cs,p)->(p=none->∀ a' w',StR dr an.nt base w0 I0 I β tm' σ' a' w'->Q .normal a' w') ->
  (∀ x,p=some x->∀ a' u w',dr.ok a'->Post base w0 I0 I β x σ' u w'->Q (.panic [{ v:=u,recovered:=false }]) a' w')->wpList P ops Q l a w
 | [],asl,sq,I,β,tm,tm',σ,σ',cs,p,a,w,hc,T,hd,R,h,hQ,_=>by
  simp only [Zb5,Xa] at hc;subst hc
  simp only [ZY,Xa,Xb] at h
  obtain ⟨rfl,rfl,rfl,rfl⟩:=h
  exact wpList_nil (hQ rfl _ _ ⟨I,β,Imm.le.refl I,Bmap.le.refl β,T,hd,R⟩)
 | o::l,asl,sq,I,β,tm,tm',σ,σ',cs,p,a,w,hc,T,hd,R,h,hQ,hP=>by
  simp only [Zb5] at hc
  split at hc
  ·rename_i ao hao
   split at hc
   ·rename_i as' has'
    injection hc with hc;subst hc
    simp only [ZY] at h
    split at h
    ·cases h
    ·rename_i x tm1 σ1 c1 h1
     simp only [Xa,Xb] at h
     obtain ⟨rfl,rfl,rfl,rfl⟩:=h
     have:=ZfV (dr:=dr) (K:=wpList P ops Q l) (Q:=Q) hO hkp hao T hd R hb h1 (fun hn=>absurd rfl (hn x)) (fun x' e u w' hp=>by
      injection e with e;subst e
      exact hP x rfl a u w' hd.1 hp)
     unfold wpList
     exact this
    ·rename_i v tm1 σ1 c1 hnp h1
     split at h
     ·cases h
     rename_i tm2 σ2 cs2 p2 h2
     simp only [Xa,Xb] at h
     obtain ⟨rfl,rfl,rfl,rfl⟩:=h
     have:=ZfV (dr:=dr) (K:=wpList P ops Q l) (Q:=Q) hO hkp hao T hd R hb h1 (fun _ a' w' hs=>by
      obtain ⟨I',β',g1,g2,g3,g4,g5⟩:=hs
      exact Zj7 hO hkp hb has' g3 g4 g5 h2 (fun hp a'' w'' hs'=>hQ hp a'' w'' (hs'.trans g1 g2)) (fun x hx a'' u w'' hd' hp=>hP x hx a'' u w'' hd' (hp.trans g1 g2))) (fun x e=>absurd e (fun e=>hnp x e))
     unfold wpList
     exact this
   ·cases hc
  ·cases hc
theorem ZgD {ops:Array Oper}:∀ {l:List Oper} {asl:List AOp},Zb5 P an ops l=some asl->asl.length=l.length/\∀ (i:Nat) (o:Oper),l[i]?=some o->∃ ao,asl[i]?=some ao/\Ze7 P an ops o=some ao
 | [],asl,h=>by simp only [Zb5,Xa] at h;subst h;exact ⟨rfl,fun i o ho=>by simp at ho⟩
 | o::l,asl,h=>by
  simp only [Zb5] at h
  split at h
  ·rename_i ao hao
   split at h
   ·rename_i as' has'
    injection h with h;subst h
    obtain ⟨h1,h2⟩:=ZgD has'
    refine ⟨by simp [h1],fun i o' ho'=>?_⟩
    cases i with
    | zero=>simp only [XI,Xa] at ho';subst ho';exact ⟨ao,rfl,hao⟩
    | succ i=>simp only [List.getElem?_cons_succ] at ho' ⊢;exact h2 i o' ho'
   ·cases h
  ·cases h
theorem Zjt:∀ (ls acc:List (List Nat)),(∀ j p,p ∈ (acc.getD j [])->True)->(Zb0 ls acc).take acc.length=acc/\(Zb0 ls acc).length=acc.length+ls.length /\
  ∀ j,j < ls.length->∀ p,p ∈ (Zb0 ls acc).getD (acc.length+j) []->p ∈ ls.getD j []\/∃ i ∈ ls.getD j [],i < acc.length+j/\p ∈ (Zb0 ls acc).getD i []
 | [],acc,_=>by simp [Zb0]
 | l::ls,acc,_=>by
  obtain ⟨h1,h2,h3⟩:=Zjt ls (acc++[l++l.flatMap fun i=>acc.getD i []]) (fun _ _ _=>trivial)
  simp only [Zb0]
  have hlen:(acc++[l++l.flatMap fun i=>acc.getD i []]).length=acc.length+1:=by simp
  rw [hlen] at h1 h2 h3
  have hpre:∀ i,i < acc.length+1->(Zb0 ls (acc++[l++l.flatMap fun i=>acc.getD i []])).getD i []=(acc++[l++l.flatMap fun i=>acc.getD i []]).getD i []:=by
   intro i hi
   have:=congrArg (fun q:List (List Nat)=>q.getD i []) h1
   simp only [Xj,List.getElem?_take,hi,if_true] at this ⊢
   exact this
  refine ⟨?_,by rw [h2];simp;omega,?_⟩
  ·have:=congrArg (List.take acc.length) h1
   rw [List.take_take,Nat.min_eq_left (by omega)] at this
   rw [this];simp
  ·intro j hj p hp
   cases j with
   | zero =>
    rw [Wm,hpre _ (by omega)] at hp
    simp only [Xj,WR (XR _),Xap,XI,Wu,Xv,Wh] at hp
    rcases hp with hp | ⟨i,hi,hp⟩
    ·exact Xw (by simpa using hp)
    ·refine XE ⟨i,by simpa using hi,?_,?_⟩
     ·by_cases hlt:i < acc.length
      ·omega
      ·rw [XV (by omega)] at hp;simp at hp
     ·have hlt:i < acc.length:=by
       by_cases hlt:i < acc.length
       ·exact hlt
       ·rw [XV (by omega)] at hp;simp at hp
      rw [hpre i (by omega)]
      simp only [Xj,Wx hlt]
      exact hp
   | succ j =>
    have:=h3 j (by simpa using hj) p (by rw [show acc.length+1+j=acc.length+(j+1) by omega];exact hp)
    rcases this with h | ⟨i,h4,h5,h6⟩
    ·exact Xw (by simpa using h)
    ·exact XE ⟨i,by simpa using h4,by omega,h6⟩
theorem Zmi (f:Nat->Nat) (p:Nat):∀ (l:List Nat) (m:Nat),(l.foldl (fun m i=>m ||| 2 ^ i ||| f i) m).testBit p=true->m.testBit p=true\/p ∈ l\/∃ i ∈ l,(f i).testBit p=true
 | [],m,h=>Xw h
 | i::l,m,h=>by
  rcases Zmi f p l _ h with h | h | ⟨j,h1,h2⟩
  ·simp only [Nat.testBit_or,Wv,Nat.testBit_two_pow,decide_eq_true_eq] at h
   rcases h with (h | h) | h
   ·exact Xw h
   ·exact XE (Xw (by simp [h]))
   ·exact XE (XE ⟨i,by simp,h⟩)
  ·exact XE (Xw (by simp [h]))
  ·exact XE (XE ⟨j,by simp [h1],h2⟩)
theorem ZjI:∀ (ls:List (List Nat)) (accM:List Nat) (accL:List (List Nat)),accM.length=accL.length->(∀ j p,(accM.getD j 0).testBit p=true->p ∈ accL.getD j [])->∀ j p,((Zf0 ls accM).getD j 0).testBit p=true->p ∈ (Zb0 ls accL).getD j []
 | [],accM,accL,_,h=>h
 | l::ls,accM,accL,hl,h=>by
  simp only [Zf0,Zb0]
  refine ZjI ls _ _ (by simp [hl]) ?_
  intro j p hp
  by_cases hj:j < accM.length
  ·simp only [Xj,Wx hj] at hp
   simp only [Xj,Wx (show j < accL.length by omega)]
   have:=h j p (by simpa [Xj] using hp)
   simpa [Xj] using this
  ·by_cases hj':j=accM.length
   ·subst hj'
    simp only [Xj,WR (XR _),Xap,XI,Wu] at hp
    rw [hl]
    simp only [Xj,WR (XR _),Xap,XI,Wu,Xv,Wh]
    rcases Zmi _ p l 0 hp with h0 | h0 | ⟨i,h1,h2⟩
    ·simp at h0
    ·exact Xw h0
    ·refine XE ⟨i,h1,?_⟩
     have:=h i p (by simpa [Xj] using h2)
     simpa [Xj] using this
   ·simp only [Xj] at hp
    rw [XV (by simp;omega)] at hp
    simp at hp
theorem ZnO {asl:List AOp} {ps:List (Nat×Nat)} (h:Zek asl=some ps) :
  (∀ i j,i < j->j < asl.length->i ∉ (Zb0 (asl.map (·.after)) []).getD j []->(asl.getD i default).apartT (asl.getD j default)=true/\((asl.getD i default).ins.touches=false\/(asl.getD j default).ins.touches=false\/(i,j) ∈ ps))/\(∀ j,j < asl.length->∀ i ∈ (asl.getD j default).after,i < j):=by
 have hsub:=ZjI (asl.map (·.after)) [] [] rfl (by simp)
 unfold Zek at h
 simp only at h
 split at h
 ·rename_i hc
  simp only [Xl,XM,Wh,XJ,Wr,W0,forall_exists_index,and_imp,Wy,decide_eq_true_eq] at hc
  obtain ⟨h1,h2⟩:=hc
  injection h with h
  have hbit:∀ i j,i ∉ (Zb0 (asl.map (·.after)) []).getD j []->((Zf0 (asl.map (·.after)) []).getD j 0).testBit i=false:=by
   intro i j hn
   cases hb:((Zf0 (asl.map (·.after)) []).getD j 0).testBit i with
   | false=>rfl
   | true=>exact absurd (hsub j i hb) hn
  refine ⟨fun i j hij hj hn=>⟨?_,?_⟩,fun j hj i hi=>h2 j hj i hi⟩
  ·exact h1 (i,j) j hj i hij (hbit i j hn) rfl
  ·cases ht1:(asl.getD i default).ins.touches with
   | false=>exact Xw rfl
   | true =>
    cases ht2:(asl.getD j default).ins.touches with
    | false=>exact XE (Xw rfl)
    | true =>
     refine XE (XE ?_)
     rw [<-h]
     rw [Xv]
     refine Xw ?_
     simp only [Wr,Wh,XJ,W0,Xl]
     exact ⟨⟨j,hj,i,⟨hij,by rw [hbit i j hn];rfl⟩,rfl⟩,ht1,ht2⟩
 ·cases h
theorem Zyv {asl:List AOp} {ps:List (Nat×Nat)} (h:Zek asl=some ps) {j:Nat} (hm:(j,j) ∈ ps):∀ k,j < k->k < asl.length->j ∈ (Zb0 (asl.map (·.after)) []).getD k []:=by
 have hsub:=ZjI (asl.map (·.after)) [] [] rfl (by simp)
 unfold Zek at h
 simp only at h
 split at h
 ·injection h with h
  rw [<-h,Xv] at hm
  rcases hm with hm | hm
  ·simp only [Wr,Wh,XJ,W0,Xb] at hm
   obtain ⟨⟨a,_,b,⟨hb,_⟩,e1,e2⟩,_⟩:=hm
   omega
  ·simp only [XJ,Wr,W0,Xb,and_self,Xl,XM,Wv,decide_eq_true_eq] at hm
   obtain ⟨a,⟨_,_,ha⟩,rfl⟩:=hm
   intro k hk hkl
   rcases ha k hkl with h1 | h1
   ·omega
   ·exact hsub k a h1
 ·cases h
theorem ZvV {asl:List AOp} {ps:List (Nat×Nat)} (h:Zek asl=some ps) {j:Nat} (hm:(j,j) ∈ ps):(asl.getD j default).ins.touches=true:=by
 unfold Zek at h
 simp only at h
 split at h
 ·injection h with h
  rw [<-h,Xv] at hm
  rcases hm with hm | hm
  ·simp only [Wr,Wh,XJ,W0,Xb] at hm
   obtain ⟨⟨a,_,b,⟨hb,_⟩,e1,e2⟩,_⟩:=hm
   omega
  ·simp only [XJ,Wr,W0,Xb,and_self,Xl] at hm
   obtain ⟨a,⟨_,hc,_⟩,rfl⟩:=hm
   cases hi:(asl.getD a default).ins <;> rw [hi] at hc <;> first | rfl | (simp [Zao] at hc)
 ·cases h
end
end
section
open Go.RowKit
section
variable {P:Program} {O:ZZ} {bf:Nat->Bool} {an:Ann} {base:Nat->Prop} {w0:World} {I0:Imm} {dr:Door}
theorem Zn6 {o:AOp} {tm tm1:Tms} {σ σ1:Za} {sq:Nat} {v:AVal} {c:Cls} (ht:o.ins.touches=false) (h:Zu O bf o sq tm σ=some (v,tm1,σ1,c)):c={}:=by
 unfold Zu at h
 split at h
 ·cases h
 ·simp only [Xa,Xb] at h;exact h.2.2.2.symm
 ·split at h
  ·split at h
   ·rename_i he
    simp only [Xa,Xb] at h
    rw [<-h.2.2.2]
    exact (Zrl ht he).1
   ·cases h
  ·cases h
theorem ZgI {i:Ins} (h:i.touches=false):nsite i=0:=by cases i <;> simp [Ins.touches] at h <;> rfl
theorem Zf2 {asl:List AOp} {L:Nat} {cs:List Cls}:∀ {l:List Nat} {tm tm':Tms} {σ σ':Za},Zcx O bf asl L cs l tm σ tm' σ'->∀ j ∈ l,(asl.getD j default).ins.touches=false->cs.getD j {}={}
 | [],_,_,_,_,_,j,hj,_=>by simp at hj
 | i::l,_,_,_,_,h,j,hj,ht=>by
  cases h with
  | cons h1 _ h2 =>
   rcases XL.1 hj with rfl | hj
   ·exact Zn6 ht h1
   ·exact Zf2 h2 j hj ht
theorem Zf1 (asl:List AOp):∀ {j i:Nat},j < i->i<=asl.length->sitesOf (asl.take j)+nsite (asl.getD j default).ins<=sitesOf (asl.take i):=by
 intro j i hji hi
 induction i with
 | zero=>omega
 | succ i ih =>
  rw [Zij asl (by omega)]
  by_cases e:j=i
  ·subst e
   simp [Xj,show j < asl.length by omega]
  ·have:=ih (by omega) (by omega);omega
theorem ZsB (hO:Zad P O) (hkp:∀ n ∈ dr.K,n ∈ an.keep) (hb:KLt base w0) {ops:Array Oper} {asl:List AOp} (hcomp:Zb5 P an ops ops.toList=some asl) {ps:List (Nat×Nat)} (hps:Zek asl=some ps) {L:Nat} {cs:List Cls} (hchk:Zc4 asl L ps cs=true)
  {tmF:Tms} {σF:Za} {Q:Exit->Act->World->Prop} {I:Imm} {β:Bmap} (hQ:∀ a' w',StR dr an.nt base w0 I0 I β tmF σF a' w'->Q .normal a' w') :
  ∀ (fuel:Nat) (rem:List Nat) (listed:Array Bool) (a:Act) (w:World) (tm:Tms) (σ:Za),Zcx O bf asl L cs rem tm σ tmF σF->rem.Pairwise (· < ·)->(∀ j ∈ rem,j < ops.size)->(∀ j,j < ops.size->(listed.getD j true=true↔j ∉ rem))->listed.size=ops.size ->
   (∀ k,k < ops.size->k ∉ rem->∀ p ∈ (Zb0 (asl.map (·.after)) []).getD k [],p ∉ rem)->rem.length=fuel->StR dr an.nt base w0 I0 I β tm σ a w->wpAny P .any ops Q fuel listed a w:=by
 obtain ⟨hlen,hget⟩:=ZgD hcomp
 obtain ⟨hp1,hp2⟩:=ZnO hps
 obtain ⟨_,_,hanc⟩:=Zjt (asl.map (·.after)) [] (fun _ _ _=>trivial)
 simp only [XS] at hlen
 have hafter:∀ j o,ops[j]?=some o->∃ ao,asl.getD j default=ao/\Ze7 P an ops o=some ao/\ao.after=(o.after.toList.filter (Region.binds .any)).map (·.on)/\ao.dst=o.dst:=by
  intro j o ho
  obtain ⟨ao,h1,h2⟩:=hget j o (by simpa using ho)
  refine ⟨ao,by simp [Xj,h1],h2,?_⟩
  obtain ⟨g,i,_,_,_,rfl⟩:=Zj0 h2
  exact ⟨rfl,rfl⟩
 intro fuel
 induction fuel with
 | zero =>
  intro rem listed a w tm σ hr hs hlt hl hsz hcl hfl hst
  have : rem=[]:=X1 hfl
  subst this
  cases hr
  refine ⟨?_,hQ a w hst⟩
  apply List.eq_nil_iff_forall_not_mem.2
  intro j hj
  rw [mem_ready] at hj
  obtain ⟨h1,o,ho,_⟩:=hj
  have hjl:j < ops.size:=(XD.1 ho).1
  have:=(hl j hjl).2 (by simp)
  rw [h1] at this;cases this
 | succ fuel ih =>
  intro rem listed a w tm σ hr hs hlt hl hsz hcl hfl hst
  have isRem:∀ j,j < ops.size->listed.getD j true=false->j ∈ rem:=by
   intro j hj h
   by_cases hm:j ∈ rem
   ·exact hm
   ·have:=(hl j hj).2 hm;rw [h] at this;cases this
  have getD_tf:∀ j,j < ops.size->listed.getD j false=listed.getD j true:=by
   intro j hj
   simp [Xat,hsz,hj]
  refine ⟨fun hnil=>?_,fun i hi=>?_⟩
  ·exfalso
   cases rem with
   | nil=>simp at hfl
   | cons r rs =>
    have hrl:r < ops.size:=hlt r (by simp)
    have hro:ops[r]?=some ops[r]:=by simp [hrl]
    obtain ⟨ao,e1,e2,e3,_⟩:=hafter r _ hro
    have : r ∈ Region.ready .any ops listed:=by
     rw [mem_ready]
     refine ⟨?_,ops[r],hro,fun e he hbnd=>?_⟩
     ·cases hq:listed.getD r true with
      | false=>rfl
      | true=>exact absurd (List.mem_cons_self) ((hl r hrl).1 hq)
     ·have hon:e.on ∈ ao.after:=by rw [e3];exact XJ.2 ⟨e,Wr.2 ⟨by simpa using he,hbnd⟩,rfl⟩
      have hlt':e.on < r:=hp2 r (by omega) e.on (by rw [e1];exact hon)
      rw [getD_tf _ (by omega)]
      refine (hl e.on (by omega)).2 (fun hm=>?_)
      rcases XL.1 hm with h | hm
      ·omega
      ·have:=(WV.1 hs).1 e.on hm;omega
    rw [hnil] at this;simp at this
  ·rw [mem_ready] at hi
   obtain ⟨hi0,o,ho,hpre⟩:=hi
   have hil:i < ops.size:=(XD.1 ho).1
   have him:=isRem i hil hi0
   obtain ⟨l1,l2,rfl⟩:=List.append_of_mem him
   obtain ⟨ao,e1,e2,e3,e4⟩:=hafter i o ho
   have hdone:∀ p ∈ (asl.getD i default).after,p < ops.size->p ∉ l1++i::l2:=by
    intro p hp hpl
    rw [e1,e3] at hp
    obtain ⟨e,he,rfl⟩:=XJ.1 hp
    obtain ⟨he1,he2⟩:=Wr.1 he
    have:=hpre e (by simpa using he1) he2
    rw [getD_tf _ hpl] at this
    exact (hl e.on hpl).1 this
   have hai:(asl.map (·.after)).getD i []=(asl.getD i default).after:=by
    simp [Xj,show i < asl.length by omega]
   have hanci:∀ p ∈ (Zb0 (asl.map (·.after)) []).getD i [],p ∉ l1++i::l2:=by
    intro p hp
    have hap:∀ q,q ∈ (asl.map (·.after)).getD i []->q < i:=fun q hq=>hp2 i (by omega) q (by rw [<-hai];exact hq)
    rcases hanc i (by simp;omega) p (by simpa using hp) with h | ⟨q,h1,h2,h3⟩
    ·exact hdone p (by rw [<-hai];exact h) (by have:=hap p h;omega)
    ·have hql:q < ops.size:=by simp at h2;omega
     exact hcl q hql (hdone q (by rw [<-hai];exact h1) hql) p h3
   have hl1:∀ j ∈ l1,j < i:=by
    intro j hj
    have:=WC.1 hs
    exact this.2.2 j hj i (by simp)
   obtain ⟨v1,tm1,σ1,h1,hnp1,h2⟩:=Ziy (l1:=l1) (i:=i) (fun j hj=>by
    have hji:=hl1 j hj
    have hjn:j ∉ (Zb0 (asl.map (·.after)) []).getD i []:=fun hm=>hanci j hm (by simp [hj])
    obtain ⟨p1,p2⟩:=hp1 j i hji (by omega) hjn
    refine ⟨p1,?_,fun hn _=>?_,?_⟩
    ·rcases p2 with p2 | p2 | p2
     ·have:=Zf2 hr j (by simp [hj]) p2
      have hem:Zcd (asl.getD j default) (cs.getD j {})=true:=by rw [this];simp only [Zcd,ZgI p2];rfl
      simp only [Zcn,hem,Xag]
     ·have:=Zf2 hr i (by simp) p2
      have hem:Zcd (asl.getD i default) (cs.getD i {})=true:=by rw [this];simp only [Zcd,ZgI p2];rfl
      simp only [Zcn,hem,Xag,XaB]
     ·have:=XM.1 hchk (j,i) p2
      simp only [Wv,beq_iff_eq] at this
      rcases this with h | h
      ·omega
      ·exact h
    ·have:=Zf1 asl hji (by omega)
     omega
    ·have:=Zf1 asl hji (by omega)
     omega) hr
   unfold wpOp
   rw [ho]
   rw [e1] at h1
   obtain ⟨I',β',g1,g2,g3,g4,g5⟩:=hst
   refine ZfV hO hkp e2 g3 g4 g5 hb h1 (fun _ a' w' hs'=>ih (l1++l2) _ a' w' tm1 σ1 h2 ?_ ?_ ?_ (by simpa using hsz) ?_ ?_ (hs'.trans g1 g2)) (fun x e=>absurd e (hnp1 x))
   ·have:=WC.1 hs
    exact WC.2 ⟨this.1,(WV.1 this.2.1).2,fun x hx y hy=>this.2.2 x hx y (by simp [hy])⟩
   ·intro j hj
    refine hlt j ?_
    simp only [Xv,XL] at hj ⊢
    rcases hj with h | h
    ·exact Xw h
    ·exact XE (XE h)
   ·intro j hj
    have hs1:=WC.1 hs
    by_cases hij:i=j
    ·subst hij
     have hn:i ∉ l1++l2:=by
      intro hm
      rcases Xv.1 hm with h | h
      ·have:=hl1 i h;omega
      ·have:=(WV.1 hs1.2.1).1 i h;omega
     simp [Xat,hsz,hil,hn]
    ·rw [getD_set_ne true hij,hl j hj]
     simp only [Xv,XL,not_or]
     constructor
     ·rintro ⟨a1,_,a3⟩;exact ⟨a1,a3⟩
     ·rintro ⟨a1,a3⟩;exact ⟨a1,fun e=>hij e.symm,a3⟩
   ·intro k hk hkn p hp hm
    have hsub:p ∈ l1++i::l2:=by
     simp only [Xv,XL] at hm ⊢
     rcases hm with h | h
     ·exact Xw h
     ·exact XE (XE h)
    by_cases hki:k=i
    ·subst hki;exact hanci p hp hsub
    ·refine hcl k hk (fun hkm=>hkn ?_) p hp hsub
     simp only [Xv,XL] at hkm ⊢
     rcases hkm with h | h | h
     ·exact Xw h
     ·exact absurd h hki
     ·exact XE h
   ·simp at hfl ⊢;omega
theorem ZnS (hO:Zad P O) (hkp:∀ n ∈ dr.K,n ∈ an.keep) (hb:KLt base w0) {ops:Array Oper} {asl:List AOp} (hcomp:Zb5 P an ops ops.toList=some asl) {ps:List (Nat×Nat)} (hps:Zek asl=some ps) {L:Nat} {cs:List Cls} {jp:Nat} (hjl:jp < ops.size) (hmark:(jp,jp) ∈ ps) (hmarkT:(asl.getD jp default).ins.touches=true) (hfree:∀ j i,(j,i) ∈ ps->j < i->i<=jp->Zcn (asl.getD j default) (asl.getD i default) (cs.getD j {}) (cs.getD i {}) (L+sitesOf (asl.take j))=true) (hquiet:∀ j,(j,jp) ∈ ps->j < jp->Zaw (asl.getD j default).ins=true)
  {x:AVal} {σF:Za} {Q:Exit->Act->World->Prop} {I:Imm} {β:Bmap} (hQ:∀ a' u w',dr.ok a'->Post base w0 I0 I β x σF u w'->Q (.panic [{ v:=u,recovered:=false }]) a' w') :
  ∀ (fuel:Nat) (pre post:List Nat) (listed:Array Bool) (a:Act) (w:World) (tm tmJ tmX:Tms) (σ σJ:Za),Zcx O bf asl L cs pre tm σ tmJ σJ->Zu O bf (asl.getD jp default) (L+sitesOf (asl.take jp)) tmJ σJ=some (.pan x,tmX,σF,cs.getD jp {})->(pre++jp::post).Pairwise (· < ·)->(∀ j ∈ pre++jp::post,j < ops.size)->(∀ j,j < ops.size->(listed.getD j true=true↔j ∉ pre++jp::post))->listed.size=ops.size ->
   (∀ k,k < ops.size->k ∉ pre++jp::post->∀ p ∈ (Zb0 (asl.map (·.after)) []).getD k [],p ∉ pre++jp::post)->(pre++jp::post).length=fuel->StR dr an.nt base w0 I0 I β tm σ a w->wpAny P .any ops Q fuel listed a w:=by
 obtain ⟨hlen,hget⟩:=ZgD hcomp
 obtain ⟨hp1,hp2⟩:=ZnO hps
 have hmk:=Zyv hps hmark
 obtain ⟨_,_,hanc⟩:=Zjt (asl.map (·.after)) [] (fun _ _ _=>trivial)
 simp only [XS] at hlen
 have hafter:∀ j o,ops[j]?=some o->∃ ao,asl.getD j default=ao/\Ze7 P an ops o=some ao/\ao.after=(o.after.toList.filter (Region.binds .any)).map (·.on)/\ao.dst=o.dst:=by
  intro j o ho
  obtain ⟨ao,h1,h2⟩:=hget j o (by simpa using ho)
  refine ⟨ao,by simp [Xj,h1],h2,?_⟩
  obtain ⟨g,i,_,_,_,rfl⟩:=Zj0 h2
  exact ⟨rfl,rfl⟩
 intro fuel
 induction fuel with
 | zero =>
  intro pre post listed a w tm tmJ tmX σ σJ hr hj hs hlt hl hsz hcl hfl hst
  simp at hfl
 | succ fuel ih =>
  intro pre post listed a w tm tmJ tmX σ σJ hr hj hs hlt hl hsz hcl hfl hst
  have getD_tf:∀ j,j < ops.size->listed.getD j false=listed.getD j true:=by
   intro j hj
   simp [Xat,hsz,hj]
  have isRem:∀ j,j < ops.size->listed.getD j true=false->j ∈ pre++jp::post:=by
   intro j hj h
   by_cases hm:j ∈ pre++jp::post
   ·exact hm
   ·have:=(hl j hj).2 hm;rw [h] at this;cases this
  refine ⟨fun hnil=>?_,fun i hi=>?_⟩
  ·exfalso
   obtain ⟨r,rs,hrr⟩:∃ r rs,pre++jp::post=r::rs:=by cases pre <;> simp
   rw [hrr] at hs hlt hl
   have hrl:r < ops.size:=hlt r (by simp)
   have hro:ops[r]?=some ops[r]:=by simp [hrl]
   obtain ⟨ao,e1,e2,e3,_⟩:=hafter r _ hro
   have : r ∈ Region.ready .any ops listed:=by
    rw [mem_ready]
    refine ⟨?_,ops[r],hro,fun e he hbnd=>?_⟩
    ·cases hq:listed.getD r true with
     | false=>rfl
     | true=>exact absurd (List.mem_cons_self) ((hl r hrl).1 hq)
    ·have hon:e.on ∈ ao.after:=by rw [e3];exact XJ.2 ⟨e,Wr.2 ⟨by simpa using he,hbnd⟩,rfl⟩
     have hlt':e.on < r:=hp2 r (by omega) e.on (by rw [e1];exact hon)
     rw [getD_tf _ (by omega)]
     refine (hl e.on (by omega)).2 (fun hm=>?_)
     rcases XL.1 hm with h | hm
     ·omega
     ·have:=(WV.1 hs).1 e.on hm;omega
   rw [hnil] at this;simp at this
  ·rw [mem_ready] at hi
   obtain ⟨hi0,o,ho,hpre⟩:=hi
   have hil:i < ops.size:=(XD.1 ho).1
   have him:=isRem i hil hi0
   obtain ⟨ao,e1,e2,e3,e4⟩:=hafter i o ho
   have hdone:∀ p ∈ (asl.getD i default).after,p < ops.size->p ∉ pre++jp::post:=by
    intro p hp hpl
    rw [e1,e3] at hp
    obtain ⟨e,he,rfl⟩:=XJ.1 hp
    obtain ⟨he1,he2⟩:=Wr.1 he
    have:=hpre e (by simpa using he1) he2
    rw [getD_tf _ hpl] at this
    exact (hl e.on hpl).1 this
   have hai:(asl.map (·.after)).getD i []=(asl.getD i default).after:=by
    simp [Xj,show i < asl.length by omega]
   have hanci:∀ p ∈ (Zb0 (asl.map (·.after)) []).getD i [],p ∉ pre++jp::post:=by
    intro p hp
    have hap:∀ q,q ∈ (asl.map (·.after)).getD i []->q < i:=fun q hq=>hp2 i (by omega) q (by rw [<-hai];exact hq)
    rcases hanc i (by simp;omega) p (by simpa using hp) with h | ⟨q,h1,h2,h3⟩
    ·exact hdone p (by rw [<-hai];exact h) (by have:=hap p h;omega)
    ·have hql:q < ops.size:=by simp at h2;omega
     exact hcl q hql (hdone q (by rw [<-hai];exact h1) hql) p h3
   have hss:=WC.1 hs
   rw [Xv,XL] at him
   rcases him with him | hij | him
   ·obtain ⟨l1,l2,rfl⟩:=List.append_of_mem him
    have hl1:∀ j ∈ l1,j < i:=by
     intro j hj
     exact (WC.1 hss.1).2.2 j hj i (by simp)
    have hijp:i < jp:=hss.2.2 i (by simp) jp (by simp)
    obtain ⟨v1,tm1,σ1,h1,hnp1,h2⟩:=Ziy (l1:=l1) (i:=i) (fun j hj'=>by
     have hji:=hl1 j hj'
     have hjn:j ∉ (Zb0 (asl.map (·.after)) []).getD i []:=fun hm=>hanci j hm (by simp [hj'])
     obtain ⟨p1,p2⟩:=hp1 j i hji (by omega) hjn
     refine ⟨p1,?_,fun hn _=>?_,?_⟩
     ·rcases p2 with p2 | p2 | p2
      ·have:=Zf2 hr j (by simp [hj']) p2
       have hem:Zcd (asl.getD j default) (cs.getD j {})=true:=by rw [this];simp only [Zcd,ZgI p2];rfl
       simp only [Zcn,hem,Xag]
      ·have:=Zf2 hr i (by simp) p2
       have hem:Zcd (asl.getD i default) (cs.getD i {})=true:=by rw [this];simp only [Zcd,ZgI p2];rfl
       simp only [Zcn,hem,Xag,XaB]
      ·exact hfree j i p2 hji (by omega)
     ·have:=Zf1 asl hji (by omega)
      omega
     ·have:=Zf1 asl hji (by omega)
      omega) hr
    have eA:(l1++i::l2)++jp::post=l1++i::(l2++jp::post):=by simp
    have eB:(l1++l2)++jp::post=l1++(l2++jp::post):=by simp
    rw [eA] at hs hlt hl hcl hanci hfl
    unfold wpOp
    rw [ho]
    rw [e1] at h1
    obtain ⟨I',β',g1,g2,g3,g4,g5⟩:=hst
    refine ZfV hO hkp e2 g3 g4 g5 hb h1 (fun _ a' w' hs'=>ih (l1++l2) post _ a' w' tm1 tmJ tmX σ1 σJ h2 hj ?_ ?_ ?_ (by simpa using hsz) ?_ ?_ (hs'.trans g1 g2)) (fun x e=>absurd e (hnp1 x))
    ·rw [eB]
     have:=WC.1 hs
     exact WC.2 ⟨this.1,(WV.1 this.2.1).2,fun x hx y hy=>this.2.2 x hx y (by simp only [XL];exact XE hy)⟩
    ·intro j hj
     rw [eB] at hj
     refine hlt j ?_
     simp only [Xv,XL] at hj ⊢
     rcases hj with h | h | h | h
     ·exact Xw h
     ·exact XE (XE (Xw h))
     ·exact XE (XE (XE (Xw h)))
     ·exact XE (XE (XE (XE h)))
    ·intro j hj
     rw [eB]
     generalize l2++jp::post=L2 at *
     have hs1:=WC.1 hs
     by_cases hij:i=j
     ·subst hij
      have hn:i ∉ l1++L2:=by
       intro hm
       rcases Xv.1 hm with h | h
       ·have:=hl1 i h;omega
       ·have:=(WV.1 hs1.2.1).1 i h;omega
      simp [Xat,hsz,hil,hn]
     ·rw [getD_set_ne true hij,hl j hj]
      simp only [Xv,XL,not_or]
      constructor
      ·rintro ⟨a1,_,a3⟩;exact ⟨a1,a3⟩
      ·rintro ⟨a1,a3⟩;exact ⟨a1,fun e=>hij e.symm,a3⟩
    ·intro k hk hkn p hp hm
     rw [eB] at hkn hm
     generalize l2++jp::post=L2 at *
     have hsub:p ∈ l1++i::L2:=by
      simp only [Xv,XL] at hm ⊢
      rcases hm with h | h
      ·exact Xw h
      ·exact XE (XE h)
     by_cases hki:k=i
     ·subst hki;exact hanci p hp hsub
     ·refine hcl k hk (fun hkm=>hkn ?_) p hp hsub
      simp only [Xv,XL] at hkm ⊢
      rcases hkm with h | h | h
      ·exact Xw h
      ·exact absurd h hki
      ·exact XE h
    ·rw [eB];simp at hfl ⊢;omega
   ·subst hij
    have hl1:∀ j ∈ pre,j < i:=fun j hj=>hss.2.2 j hj i (by simp)
    obtain ⟨tm1,h1⟩:=ZmD (l1:=pre) (i:=i) (fun j hj'=>by
     have hji:=hl1 j hj'
     have hjn:j ∉ (Zb0 (asl.map (·.after)) []).getD i []:=fun hm=>hanci j hm (by simp [hj'])
     obtain ⟨p1,p2⟩:=hp1 j i hji (by omega) hjn
     have hts:(asl.getD i default).ins.touches=false->False:=fun h=>by
      have:=hmarkT
      rw [h] at this;cases this
     refine ⟨?_,p1,?_,fun hn _=>?_,?_⟩
     ·rcases p2 with p2 | p2 | p2
      ·exact Xw p2
      ·exact (hts p2).elim
      ·exact XE (hquiet j p2 hji)
     ·rcases p2 with p2 | p2 | p2
      ·have:=Zf2 hr j hj' p2
       have hem:Zcd (asl.getD j default) (cs.getD j {})=true:=by rw [this];simp only [Zcd,ZgI p2];rfl
       simp only [Zcn,hem,Xag]
      ·exact (hts p2).elim
      ·exact hfree j i p2 hji (XR _)
     ·have:=Zf1 asl hji (by omega)
      omega
     ·have:=Zf1 asl hji (by omega)
      omega) hr hj
    unfold wpOp
    rw [ho]
    rw [e1] at h1
    obtain ⟨I',β',g1,g2,g3,g4,g5⟩:=hst
    refine ZfV hO hkp e2 g3 g4 g5 hb h1 (fun hn=>absurd rfl (hn x)) (fun x' e u w' hp=>?_)
    injection e with e
    subst e
    exact hQ a u w' g4.1 (hp.trans g1 g2)
   ·exfalso
    have hlt2:jp < i:=(WV.1 hss.2.1).1 i him
    exact hanci jp (hmk i hlt2 (by omega)) (by simp)
theorem Rel.reserve {I:Imm} {β:Bmap} {σ:Za} {w:World} (R:Rel base w0 I0 I β σ w) (n:Nat):Rel base w0 I0 I β (σ++XO n .free) w:=by
 have look:∀ t x,(σ++XO n ZV.free)[t]?=some x->σ[t]?=some x\/(σ.length<=t/\x=.free):=by
  intro t x h
  by_cases ht:t < σ.length
  ·rw [Wx ht] at h;exact Xw h
  ·rw [WR (by omega)] at h
   refine XE ⟨by omega,?_⟩
   have:=Xs h
   exact List.eq_of_mem_replicate this
 refine ⟨R.below,R.old,R.imm,?_,?_,?_,?_,?_,?_,R.glob,?_⟩
 ·intro t x h
  rcases look t x h with h | ⟨_,rfl⟩
  ·exact R.blk t x h
  ·trivial
 ·intro t x b h hb
  rcases look t x h with h | ⟨_,rfl⟩
  ·exact R.own t x b h hb
  ·cases hb
 ·intro t x t' x' b h h' hb hb'
  rcases look t x h with h | ⟨_,rfl⟩
  ·rcases look t' x' h' with h' | ⟨_,rfl⟩
   ·exact R.apart t x t' x' b h h' hb hb'
   ·cases hb'
  ·cases hb
 ·intro t g h
  exact R.fresh t g (by simp at h;omega)
 ·intro t g h
  rcases look t _ h with h | ⟨h,_⟩
  ·exact R.free t g h
  ·exact R.fresh t g h
 ·intro t x g h hg
  rcases look t _ h with h | ⟨h,_⟩
  ·exact R.gen t x g h hg
  ·exact R.fresh t g h
 ·intro t x b h hb
  rcases look t x h with h | ⟨_,rfl⟩
  ·exact R.ro t x b h hb
  ·cases hb
theorem StR.keep {I:Imm} {β:Bmap} {tm:Tms} {σ:Za} {a:Act} {w:World} (h:StR dr an.nt base w0 I0 I β tm σ a w) (live:List Nat):StR dr an.nt base w0 I0 I β (keepL live tm) σ a w:=by
 obtain ⟨I',β',h1,h2,h3,h4⟩:=h
 exact ⟨I',β',h1,h2,h3.keep live,h4⟩
def ZtO (dr:Door) (an:Ann) (base:Nat->Prop) (w0:World) (I0 I:Imm) (β:Bmap) (e:Zat) (tm:Tms) (σ:Za) (Q:Exit->Act->World->Prop):Prop:=match e with
 | .normal=>∀ a w,StR dr an.nt base w0 I0 I β tm σ a w->Q .normal a w
 | .exit id=>∀ a w,StR dr an.nt base w0 I0 I β tm σ a w->Q (.exit id) a w
 | .ret=>∀ a w,StR dr an.nt base w0 I0 I β tm σ a w->Q .ret a w
 | .panic x=>∀ a u w,dr.ok a->Post base w0 I0 I β x σ u w->Q (.panic [{ v:=u,recovered:=false }]) a w
theorem ZhW (hO:Zad P O) (hkp:∀ n ∈ dr.K,n ∈ an.keep) (hm:P.follows .mixedOrders=true) (hb:KLt base w0) {id:Nat} {ops:Array Oper} {draw:Bool} {asl:List AOp} {chk:Option (List (Nat×Nat))} {live:List Nat} (hc:Zah P an (.region id ops draw)=.region asl chk live) {I:Imm} {β:Bmap} {tm tm':Tms} {σ σ':Za} {a:Act} {w:World} {e:Zat}
  (hst:StR dr an.nt base w0 I0 I β tm σ a w) (h:ZbW O bf asl chk live tm σ=some (e,tm',σ')) {Q:Exit->Act->World->Prop} (hQ:ZtO dr an base w0 I0 I β e tm' σ' Q):(Code.region id ops draw).wp P Q a w:=by
 obtain ⟨I1,β1,g1,g2,g3,g4,g5⟩:=hst
 simp only [Zah] at hc
 split at hc
 ·rename_i l hl
  unfold ZbW at h
  split at hc
  ·rename_i hd
   subst hd
   split at hc
   ·rename_i ps hps
    simp only [Zq.region.injEq] at hc
    obtain ⟨rfl,rfl,rfl⟩:=hc
    cases hrun:ZY O bf l σ.length tm (σ++XO (sitesOf l) .free) with
    | none=>rw [hrun] at h;simp only [ZcM] at h;cases h
    | some q =>
     obtain ⟨tm1,σ1,cs,p⟩:=q
     rw [hrun] at h
     cases p with
     | some x =>
      simp only [ZcM] at h
      split at h
      ·rename_i hpan
       simp only [Xa,Xb] at h
       obtain ⟨rfl,rfl,rfl⟩:=h
       have hlen:=(ZgD hl).1
       simp only [XS] at hlen
       obtain ⟨n,tmJ,σJ,tmX,q1,q2,q3,q4⟩:=ZmP (O:=O) (bf:=bf) (ops:=l) (L:=σ.length) l.length 0 (cs:=cs) (cs':=cs) (by omega) (by simpa [sitesOf] using hrun) (fun j=>by simp)
       rw [XF] at q4
       unfold ZaI at hpan
       rw [q2] at hpan
       simp only [Xl,List.any_eq_true,XM,Wv,beq_iff_eq,decide_eq_true_eq,Nat.add_sub_cancel] at hpan
       obtain ⟨⟨pm,hpm,hm1,hm2⟩,hall⟩:=hpan
       have hmk:(n,n) ∈ ps:=by
        obtain ⟨a1,a2⟩:=pm
        simp only at hm1 hm2
        subst hm1 hm2
        exact hpm
       have hT:(l.getD n default).ins.touches=true:=ZvV hps hmk
       refine wp_region_any hm (ZnS hO hkp hb hl hps (jp:=n) (by omega) hmk hT (fun j i hji h1 h2=>?_) (fun j hj h1=>?_) (I:=I) (β:=β) (x:=x) (fun a' u w' hd' hp=>hQ a' u w' hd' hp) ops.size (Xaz 0 n) (Xaz (n+1) (l.length - n - 1)) _ a _ tm tmJ tmX _ σJ q3 q4 ?_ ?_ ?_ (by simp) ?_ (by simp;omega) ⟨I1,β1,g1,g2,g3,g4,(g5.reserve _).same rfl rfl rfl rfl⟩)
       ·rcases hall (j,i) hji with (h | h) | ⟨h,_⟩
        ·simp only at h;omega
        ·simp only at h;omega
        ·exact h
       ·rcases hall (j,n) hj with (h | h) | ⟨_,h⟩
        ·simp only at h;omega
        ·simp only at h;omega
        ·rcases h with h | h
         ·simp only at h;omega
         ·exact h
       ·have e:Xaz 0 n++n::Xaz (n+1) (l.length - n - 1)=Xaz 0 l.length:=by
         rw [<-Xa3]
         have:=List.range'_append_1 (s:=0) (m:=n) (n:=l.length - n - 1+1)
         rw [XF] at this
         rw [this]
         congr 1
         omega
        rw [e];exact List.pairwise_lt_range'
       ·intro j hj;simp at hj;omega
       ·intro j hj
        simp [Xat,hj]
        omega
       ·intro k hk hkn
        exact absurd (by simp;omega) hkn
      ·cases h
     | none =>
      simp only [ZcM] at h
      split at h
      ·rename_i hchk
       simp only [Xa,Xb] at h
       obtain ⟨rfl,rfl,rfl⟩:=h
       have hlen:=(ZgD hl).1
       simp only [XS] at hlen
       have hr:=Zld (O:=O) (bf:=bf) (ops:=l) (L:=σ.length) l.length 0 (cs:=cs) (cs':=cs) (by omega) (by simpa [sitesOf] using hrun) (fun j=>by simp)
       refine wp_region_any hm (ZsB hO hkp hb hl hps hchk (I:=I) (β:=β) (fun a' w' hs=>hQ a' w' (hs.keep _)) ops.size (Xaz 0 l.length) _ a _ tm _ hr ?_ ?_ ?_ (by simp) ?_ (by simp [hlen]) ⟨I1,β1,g1,g2,g3,g4,(g5.reserve _).same rfl rfl rfl rfl⟩)
       ·exact List.pairwise_lt_range'
       ·intro j hj;simp at hj;omega
       ·intro j hj
        simp [Xat,hj,hlen]
       ·intro k hk hkn
        exact absurd (by simp;omega) hkn
      ·cases h
   ·cases hc
  ·rename_i hd
   simp only [Zq.region.injEq] at hc
   obtain ⟨rfl,rfl,rfl⟩:=hc
   have hdf:draw=false:=by cases draw <;> simp_all
   subst hdf
   cases hrun:ZY O bf l σ.length tm (σ++XO (sitesOf l) .free) with
   | none=>rw [hrun] at h;simp only [ZcM] at h;cases h
   | some q =>
    obtain ⟨tm1,σ1,cs,p⟩:=q
    rw [hrun] at h
    cases p with
    | none =>
     simp only [ZcM,Xa,Xb] at h
     obtain ⟨rfl,rfl,rfl⟩:=h
     exact wp_region_list (Zj7 hO hkp hb hl g3 g4 (g5.reserve _) hrun (fun _ a' w' hs=>hQ a' w' ((hs.trans g1 g2).keep _)) (fun x hx=>by cases hx))
    | some x =>
     simp only [ZcM,Xa,Xb] at h
     obtain ⟨rfl,rfl,rfl⟩:=h
     exact wp_region_list (Zj7 hO hkp hb hl g3 g4 (g5.reserve _) hrun (fun hx=>by cases hx) (fun x' hx a' u w' hd' hp=>by
      injection hx with hx;subst hx
      exact hQ a' u w' hd' (hp.trans g1 g2)))
 ·cases hc
end
end
section
open Go.RowKit
section
variable {P:Program} {O:ZZ} {bf:Nat->Bool} {an:Ann} {base:Nat->Prop} {w0:World} {I0:Imm} {dr:Door}
def StF (dr:Door) (m nt:Nat) (base:Nat->Prop) (w0:World) (I0 I:Imm) (β:Bmap) (tm:Tms) (σ:Za) (a:Act) (w:World):Prop :=
 ∃ I' β',I.le I'/\KeptE m β β'/\TR I' β' tm a.tmps/\(dr.ok a/\nt<=a.tmps.size)/\Rel base w0 I0 I' β' σ w
def Zs9 (dr:Door) (m:Nat) (an:Ann) (base:Nat->Prop) (w0:World) (I0 I:Imm) (β:Bmap) (e:Zat) (tm:Tms) (σ:Za) (Q:Exit->Act->World->Prop):Prop:=match e with
 | .normal=>∀ a w,StF dr m an.nt base w0 I0 I β tm σ a w->Q .normal a w
 | .exit id=>∀ a w,StF dr m an.nt base w0 I0 I β tm σ a w->Q (.exit id) a w
 | .ret=>∀ a w,StF dr m an.nt base w0 I0 I β tm σ a w->Q .ret a w
 | .panic x=>∀ a u w,dr.ok a->ZbG m base w0 I0 I β (.pan x) σ u w->Q (.panic [{ v:=u,recovered:=false }]) a w
theorem StF.cond {m:Nat} {I:Imm} {β:Bmap} {tm:Tms} {σ:Za} {a:Act} {w:World} (h:StF dr m an.nt base w0 I0 I β tm σ a w) {c:Operand} {y:Opd} (hc:Z9 c=some y) {b:Bool} (hv:y.ev tm=.bool b):a.eval c=.bool b:=by
 obtain ⟨I',β',_,_,T,_,_⟩:=h
 have:=Z8 T hc
 rw [hv] at this
 simpa only [VR] using this
theorem Zg4 (hO:Zad P O) (hkp:∀ n ∈ dr.K,n ∈ an.keep) (hm:P.follows .mixedOrders=true) (hb:KLt base w0) (m n:Nat):∀ {c:Code} {ac:Zq},Zah P an c=ac->∀ {I:Imm} {β:Bmap} {tm tm':Tms} {σ σ':Za} {a:Act} {w:World} {e:Zat},StF dr m an.nt base w0 I0 I β tm σ a w->Z1 O bf m n ac tm σ=some (e,tm',σ') ->
  ∀ {Q:Exit->Act->World->Prop},Zs9 dr m an base w0 I0 I β e tm' σ' Q->c.wp P Q a w:=by
 intro c
 induction c with
 | skip =>
  intro ac hc I β tm tm' σ σ' a w e hst h Q hQ
  simp only [Zah] at hc;subst hc
  simp only [Z1,Xa,Xb] at h
  obtain ⟨rfl,rfl,rfl⟩:=h
  exact wp_skip (hQ a w hst)
 | region id ops draw =>
  intro ac hc I β tm tm' σ σ' a w e hst h Q hQ
  obtain ⟨asl,chk,live,rfl⟩:∃ asl chk live,ac=.region asl chk live:=by
   simp only [Zah] at hc
   split at hc
   ·split at hc
    ·split at hc
     ·exact ⟨_,_,_,hc.symm⟩
     ·subst hc;simp only [Z1] at h;cases h
    ·exact ⟨_,_,_,hc.symm⟩
   ·subst hc;simp only [Z1] at h;cases h
  simp only [Z1] at h
  obtain ⟨I1,β1,g1,g2,g3,g4,g5⟩:=hst
  have up:∀ {tm:Tms} {σ:Za} {a':Act} {w':World},StR dr an.nt base w0 I0 I1 β1 tm σ a' w'->StF dr m an.nt base w0 I0 I β tm σ a' w':=by
   rintro tm σ a' w' ⟨I2,β2,k1,k2,k3⟩
   exact ⟨I2,β2,g1.trans k1,g2.trans (KeptE.of_le k2),k3⟩
  refine ZhW hO hkp hm hb hc (⟨I1,β1,Imm.le.refl I1,Bmap.le.refl β1,g3,g4,g5⟩:StR dr an.nt base w0 I0 I1 β1 tm σ a w) h ?_
  cases e with
  | normal=>exact fun a' w' hs=>hQ a' w' (up hs)
  | exit id=>exact fun a' w' hs=>hQ a' w' (up hs)
  | ret=>exact fun a' w' hs=>hQ a' w' (up hs)
  | panic x =>
   rintro a' u w' hd ⟨I2,β2,k1,k2,k3,k4⟩
   exact hQ a' u w' hd ⟨I2,β2,g1.trans k1,g2.trans (KeptE.of_le k2),k3,k4⟩
 | seq x y ihx ihy =>
  intro ac hc I β tm tm' σ σ' a w e hst h Q hQ
  simp only [Zah] at hc
  subst hc
  simp only [Z1] at h
  refine wp_seq ?_
  split at h
  ·rename_i tm1 σ1 h1
   exact ihx rfl hst h1 (fun a' w' hs=>ihy rfl hs h hQ)
  ·rename_i hne
   refine ihx rfl hst h ?_
   cases e with
   | normal=>exact absurd h (hne _ _)
   | exit id=>exact hQ
   | ret=>exact hQ
   | panic x=>exact hQ
 | cond c x y ihx ihy =>
  intro ac hc I β tm tm' σ σ' a w e hst h Q hQ
  simp only [Zah] at hc
  split at hc
  ·rename_i c' hcc
   subst hc
   simp only [Z1] at h
   split at h
   ·rename_i hv
    exact wp_cond_true (hst.cond hcc hv) (ihx rfl hst h hQ)
   ·rename_i hv
    exact wp_cond_false (hst.cond hcc hv) (ihy rfl hst h hQ)
   ·cases h
  ·subst hc;simp only [Z1] at h;cases h
 | block id x ih =>
  intro ac hc I β tm tm' σ σ' a w e hst h Q hQ
  simp only [Zah] at hc
  subst hc
  have hx:Zah P an x=Zah P an x:=rfl
  simp only [Z1] at h
  refine wp_block ?_
  split at h
  ·rename_i i tm1 σ1 h1
   refine ih hx hst h1 ?_
   intro a' w' hs
   simp only [Exit.inBlock]
   split at h
   ·rename_i hid
    simp only [Xa,Xb] at h
    obtain ⟨rfl,rfl,rfl⟩:=h
    rw [if_pos hid]
    exact hQ a' w' hs
   ·rename_i hid
    simp only [Xa,Xb] at h
    obtain ⟨rfl,rfl,rfl⟩:=h
    rw [if_neg hid]
    exact hQ a' w' hs
  ·rename_i hne
   refine ih hx hst h ?_
   cases e with
   | normal=>exact hQ
   | exit id=>exact absurd h (hne _ _ _)
   | ret=>exact hQ
   | panic x=>exact hQ
 | loop x ih =>
  intro ac hc I β tm tm' σ σ' a w e hst h Q hQ
  simp only [Zah] at hc
  subst hc
  have hx:Zah P an x=Zah P an x:=rfl
  simp only [Z1] at h
  refine wp_loop_rounds n ?_
  have key:∀ k {tm:Tms} {σ:Za} {a:Act} {w:World},StF dr m an.nt base w0 I0 I β tm σ a w->Zc7 m (an.ll (Zec x)) (Z1 O bf m n (Zah P an x)) k tm σ=some (e,tm',σ')->Code.rounds P x Q k a w:=by
   intro k
   induction k with
   | zero=>intro tm σ a w _ h;simp only [Zc7] at h;cases h
   | succ k ihk =>
    intro tm σ a w hst h
    rw [rounds_succ]
    simp only [Zc7] at h
    obtain ⟨I1,β1,k1,k2,k3,k4,k5⟩:=hst
    obtain ⟨β2,q1,q2,q3⟩:=Zja k5 (k3.keep (an.ll (Zec x))) m
    have hst0:StF dr m an.nt base w0 I0 I β (gcT m (keepL (an.ll (Zec x)) tm) σ).1 (gcT m (keepL (an.ll (Zec x)) tm) σ).2 a w:=⟨I1,β2,k1,k2.trans q1,q3,k4,q2⟩
    split at h
    ·rename_i tm1 σ1 h1
     exact ih hx hst0 h1 (fun a' w' hs=>ihk hs h)
    ·rename_i hne
     refine ih hx hst0 h ?_
     cases e with
     | normal=>exact absurd h (hne _ _)
     | exit id=>exact hQ
     | ret=>exact hQ
     | panic x=>exact hQ
  exact key n hst h
 | exit id =>
  intro ac hc I β tm tm' σ σ' a w e hst h Q hQ
  simp only [Zah] at hc;subst hc
  simp only [Z1,Xa,Xb] at h
  obtain ⟨rfl,rfl,rfl⟩:=h
  exact wp_exit (hQ a w hst)
 | ret =>
  intro ac hc I β tm tm' σ σ' a w e hst h Q hQ
  simp only [Zah] at hc;subst hc
  simp only [Z1,Xa,Xb] at h
  obtain ⟨rfl,rfl,rfl⟩:=h
  exact wp_ret (hQ a w hst)
 | rangeFunc f ps x y=>intro ac hc I β tm tm' σ σ' a w e hst h;simp only [Zah] at hc;subst hc;simp only [Z1] at h;cases h
 | scope x ih =>
  intro ac hc I β tm tm' σ σ' a w e hst h Q hQ
  simp only [Zah] at hc
  refine wp_scope_straight (ih hc hst h ?_)
  cases e with
  | normal=>exact hQ
  | exit id=>exact hQ
  | ret=>exact hQ
  | panic x=>exact hQ
 | label l =>
  intro ac hc I β tm tm' σ σ' a w e hst h Q hQ
  simp only [Zah] at hc;subst hc
  simp only [Z1,Xa,Xb] at h
  obtain ⟨rfl,rfl,rfl⟩:=h
  exact wp_label (hQ a w hst)
 | goto l=>intro ac hc I β tm tm' σ σ' a w e hst h;simp only [Zah] at hc;subst hc;simp only [Z1] at h;cases h
 | refuse why=>intro ac hc I β tm tm' σ σ' a w e hst h;simp only [Zah] at hc;subst hc;simp only [Z1] at h;cases h
theorem ZsC {I:Imm} {β:Bmap} {σ σ':Za} {k:Option Nat} {a x:AVal} {c:Cls} {v:Value} (ha:VR I β a v) (h:ldA σ k a=some (x,σ',c)):∃ ad,v=.pointer (some ad):=by
 unfold ldA at h
 split at h
 ·simp only [VR] at ha;obtain ⟨b,k,c,_,rfl⟩:=ha;exact ⟨_,rfl⟩
 ·simp only [VR] at ha;obtain ⟨b,k,c,_,rfl⟩:=ha;exact ⟨_,rfl⟩
 ·simp only [VR] at ha;obtain ⟨b,off,rfl,_⟩:=ha;exact ⟨_,rfl⟩
 ·cases h
def ZgM (tmps:Array Value):ResultVar->Sem Value
 | .tmp t=>pure (tmps.getD t undef)
 | .cell a t=>do loadVar t (<-asAddr (tmps.getD a undef))
theorem Zjs {I:Imm} {β:Bmap} {tm:Tms} {σ:Za} {w:World} {tmps:Array Value} (T:TR I β tm tmps) (R:Rel base w0 I0 I β σ w):∀ {rs:List ResultVar} {asl:List ZcC} {xs:List AVal},ZdI P rs=some asl->resAll tm σ asl=some xs ->
  ∃ vs:List Value,(rs.mapM (ZgM tmps)).run P w=.ok vs w/\VRs I β xs vs
 | [],asl,xs,hc,h=>by
  simp only [ZdI,Xa] at hc;subst hc
  simp only [resAll,Xa] at h;subst h
  exact ⟨[],by simp,by simp only [VRs]⟩
 | r::rs,asl,xs,hc,h=>by
  have getD_eq:∀ t,VR I β (tget tm t) (tmps.getD t undef):=T
  cases r with
  | tmp t =>
   simp only [ZdI,Xn] at hc
   obtain ⟨as',has,rfl⟩:=hc
   simp only [resAll,resOne] at h
   split at h
   ·rename_i ys hys
    injection h with h;subst h
    obtain ⟨vs,h1,h2⟩:=Zjs T R has hys
    exact ⟨tmps.getD t undef::vs,by simp only [XaU,ZgM,Sem.run_bind,Sem.run_pure,Result.andThen_ok,h1],by simp only [VRs];exact ⟨_,_,rfl,getD_eq t,h2⟩⟩
   ·cases h
  | cell a t =>
   simp only [ZdI] at hc
   split at hc
   ·rename_i k as' hk has
    injection hc with hc;subst hc
    simp only [resAll,resOne] at h
    split at h
    ·rename_i v hv
     split at h
     ·rename_i ys hys
      injection h with h;subst h
      obtain ⟨vs,h1,h2⟩:=Zjs T R has hys
      split at hv
      ·rename_i v' σ1 c1 hld
       injection hv with hv;subst hv
       obtain ⟨u,hu1,hu2,_⟩:=ZkN hk R (getD_eq a) hld
       obtain ⟨ad,had⟩:=ZsC (getD_eq a) hld
       have hlv:(loadVar t ad).run P w=.ok u w:=by
        rw [had] at hu1
        simpa [Instr.loadAt,Instr.sureAddr] using hu1
       refine ⟨u::vs,?_,by simp only [VRs];exact ⟨_,_,rfl,hu2,h2⟩⟩
       simp only [XaU,ZgM,had,asAddr,Sem.run_bind,Sem.run_pure,Result.andThen_ok,hlv,h1]
      ·cases hv
     ·cases h
    ·cases h
   ·cases hc
theorem Zl0 {I:Imm} {β:Bmap} {tm:Tms} {σ:Za} {w:World} {tmps:Array Value} (T:TR I β tm tmps) (R:Rel base w0 I0 I β σ w) {fn:Func} {asl:List ZcC} {x:AVal} (hc:ZdI P fn.results.toList=some asl) (h:resA tm σ asl=some x):∃ v,(results fn tmps).run P w=.ok v w/\VR I β x v:=by
 unfold resA at h
 have run:∀ {xs:List AVal},resAll tm σ asl=some xs->∃ vs:List Value,(results fn tmps).run P w=.ok (if h:vs.toArray.size=1 then vs.toArray[0] else .tuple vs.toArray) w/\VRs I β xs vs:=by
  intro xs hx
  obtain ⟨vs,h1,h2⟩:=Zjs T R hc hx
  refine ⟨vs,?_,h2⟩
  have hm:(fn.results.mapM (ZgM tmps)).run P w=.ok vs.toArray w:=by
   rw [Array.mapM_eq_mapM_toList,Sem.run_map,h1];rfl
  have he:results fn tmps=(do let vs <-fn.results.mapM (ZgM tmps);pure (if h:vs.size=1 then vs[0] else .tuple vs)):=by
   unfold results
   congr 1
  rw [he,Sem.run_bind,hm]
  rfl
 split at h
 ·rename_i v hv
  injection h with h;subst h
  obtain ⟨vs,h1,h2⟩:=run hv
  simp only [VRs] at h2
  obtain ⟨u,us,rfl,h3,rfl⟩:=h2
  exact ⟨u,by rw [h1];simp,h3⟩
 ·rename_i vs' hv hne
  injection h with h;subst h
  obtain ⟨vs,h1,h2⟩:=run hne
  have hl:=Zaa h2
  refine ⟨.tuple vs.toArray,?_,by simp only [VR];exact ⟨_,rfl,by simpa using h2⟩⟩
  rw [h1,dif_neg]
  intro hs
  simp only [List.size_toArray] at hs
  match vs',hl with
  | [v],_=>exact hv v rfl
  | [],hl=>simp at hl;omega
  | _::_::_,hl=>simp at hl;omega
 ·cases h
theorem Zme:∀ (args:List AVal) (i:Nat) (acc:Tms) (n:Nat),tget (enterA i args acc) n=if i<=n/\n < i+args.length then args.getD (n - i) .top else tget acc n
 | [],i,acc,n=>by simp only [enterA,XA];rw [if_neg (by omega)]
 | x::xs,i,acc,n=>by
  simp only [enterA,List.length_cons]
  rw [Zme xs (i+1) _ n]
  by_cases h:i+1<=n/\n < i+1+xs.length
  ·rw [if_pos h,if_pos (by omega),show n - i=(n - (i+1))+1 by omega,XG]
  ·rw [if_neg h]
   simp only [tget]
   by_cases h1:i=n
   ·subst h1
    rw [if_pos rfl,if_pos (by omega),Xap,XC]
   ·rw [if_neg h1,if_neg (by omega)]
theorem Zjx {I:Imm} {β:Bmap} {args:List AVal} {vs:Array Value} (h:VRs I β args vs.toList) (n:Nat):TR I β (enterA 0 args []) (vs++Xar n undef):=by
 intro j
 rw [Zme]
 have hl:=Zaa h
 simp only [XS] at hl
 split
 ·rename_i hj
  have hjl:j < args.length:=by omega
  obtain ⟨v,h1,h2⟩:=Zcc h (XB hjl)
  have e1:args.getD (j - 0) .top=args[j]:=by simp [Xj,hjl]
  have e2:(vs++Xar n undef).getD j undef=v:=by
   rw [WE,Array.getElem?_append_left (by omega)]
   have : vs[j]?=some v:=by simpa using h1
   rw [this];rfl
  rw [e1,e2];exact h2
 ·simp only [tget,VR]
def Zia (P:Program) (prim:Zb1):Prop:=∀ f g,prim f=some g->∀ args σ r σ',g args σ=some (r,σ') ->
 (∃ fn,P.funcs[f]?=some fn/\fn.body.isSome=true/\(fn.name == "runtime.NumGoroutine")=false) /\
 ∀ base w0 I0 I β w (vs:Array Value),KLt base w0->Rel base w0 I0 I β σ w->VRs I β args vs.toList ->
  Calls P f vs w (fun e w'=>∃ u,Ends r e u/\ZbG σ.length base w0 I0 I β r σ' u w')
theorem Zim (hm:P.follows .mixedOrders=true) {prim:Zb1} (hP:Zia P prim) (ann:Nat->Ann) (bf:Nat->Bool):∀ n,Zad P (Zac (Zgq P ann) prim bf n)
 | 0=>by intro f args σ r σ' h;simp only [Zac] at h;cases h
 | n+1=>by
  have ih:=Zim hm hP ann bf n
  intro f args σ r σ' h
  simp only [Zac] at h
  split at h
  ·rename_i g hg
   exact hP f g hg args σ r σ' h
  split at h
  ·cases h
  rename_i fn hfn
  unfold Zgq at hfn
  split at hfn
  ·rename_i F hF
   split at hfn
   ·rename_i body hbody
    split at hfn
    ·cases hfn
    ·rename_i hname
     split at hfn
     ·rename_i rs hrs
      injection hfn with hfn;subst hfn
      refine ⟨⟨F,hF,by rw [hbody];rfl,by simpa using hname⟩,?_⟩
      intro base w0 I0 I β w vs hb R hargs
      refine calls_of_wp hF hbody ?_
      have T:=Zjx hargs (F.ntmps - vs.size)
      have hst:StF Za0 σ.length F.ntmps base w0 I0 I β (enterA 0 args []) σ { tmps:=vs++Xar (F.ntmps - vs.size) undef,defers:=[] } w:=⟨I,β,Imm.le.refl I,KeptE.refl _ β,T,⟨Zdw.2 rfl,by simp;omega⟩,R⟩
      cases hx:Z1 (Zac (Zgq P ann) prim bf n) bf σ.length n (Zah P { ann f with nt:=F.ntmps } body) (enterA 0 args []) σ with
      | none=>rw [hx] at h;simp only [ZaR] at h;cases h
      | some q =>
       obtain ⟨e,tm',σ1⟩:=q
       rw [hx] at h
       have fin:(match resA tm' σ1 rs with | some r=>ZaD σ.length σ1 r | none=>none)=some (r,σ')->∀ a' w',StF Za0 σ.length F.ntmps base w0 I0 I β tm' σ1 a' w'->a'.defers=[]/\∃ v,(results F a'.tmps).run P w'=.ok v w'/\∃ u,Ends r (.returned v) u/\ZbG σ.length base w0 I0 I β r σ' u w':=by
        intro hr a' w' ⟨I1,β1,g1,g2,g3,g4,g5⟩
        split at hr
        ·rename_i x hx1
         obtain ⟨v,h1,h2⟩:=Zl0 g3 g5 hrs hx1
         have hnp:∀ y,x≠.pan y:=by rintro y rfl;simp only [VR] at h2
         obtain ⟨q1,q2⟩:=Zgk (⟨I1,β1,g1,g2,g5,by rw [Zfi hnp];exact h2⟩:ZbG σ.length base w0 I0 I β x σ1 v w') hr
         refine ⟨Zdw.1 g4.1,v,h1,v,q2 _ ?_,q1⟩
         cases x <;> first | rfl | exact absurd rfl (hnp _)
        ·cases hr
       refine Zg4 (dr:=Za0) (an:={ ann f with nt:=F.ntmps }) ih (fun n hn=>by simp [Za0] at hn) hm hb σ.length n rfl hst hx ?_
       cases e with
       | normal=>simp only [ZaR] at h;exact fun a' w' hs=>fin h a' w' hs
       | ret=>simp only [ZaR] at h;exact fun a' w' hs=>fin h a' w' hs
       | exit id=>simp only [ZaR] at h;cases h
       | panic x =>
        simp only [ZaR] at h
        intro a' u w' hd hp
        obtain ⟨q1,q2⟩:=Zgk hp h
        exact ⟨Zdw.1 hd,u,q2 _ rfl,q1⟩
     ·cases hfn
   ·cases hfn
  ·cases hfn
end
end
section
open Go.RowKit
def OLe (O O':ZZ):Prop:=∀ f a σ r,O f a σ=some r->O' f a σ=some r
section
variable {O O':ZZ} {bf:Nat->Bool}
theorem ZtI {view:Bool} {m:Nat} {x y:Option (AVal×Za)} (h:∀ r,x=some r->y=some r) {r:AVal×Za} (hr:ZaM view m x=some r):ZaM view m y=some r:=by
 cases x with
 | none=>cases view <;> simp [ZaM,Zcz] at hr
 | some q=>rw [h q rfl];exact hr
theorem Zpe {σ σf:Za} {ids ts:List Nat} {sq own:Nat} {x y:Option (AVal×Za)} (h:∀ r,x=some r->y=some r) {r:AVal×Za×Cls} (hr:ZaC σ σf ids ts sq own x=some r):ZaC σ σf ids ts sq own y=some r:=by
 cases x with
 | none=>simp only [ZaC] at hr;cases hr
 | some q=>rw [h q rfl];exact hr
theorem Zj4 (hO:OLe O O') {σ:Za} {sq f own:Nat} {view:Bool} {args:List AVal} {r:AVal×Za×Cls} (h:Z7 O bf σ sq f own view args=some r):Z7 O' bf σ sq f own view args=some r:=by
 unfold Z7 Zcj at h ⊢
 split at h
 ·cases h
 ·rename_i vs ts hv
  split at h
  ·rename_i hc
   simp only [hc,if_true]
   exact Zpe (fun q hq=>ZtI (fun q hq=>hO _ _ _ _ hq) hq) h
  ·cases h
theorem ZuT (hO:OLe O O') {tm:Tms} {σ:Za} {sq:Nat} {ins:Ins} {r:AVal×Za×Cls} (h:execI O bf tm σ sq ins=some r):execI O' bf tm σ sq ins=some r:=by
 cases ins
 case call f own view args =>
  simp only [execI] at h ⊢
  exact Zj4 hO h
 case callv x args =>
  simp only [execI] at h ⊢
  split at h
  ·exact Zj4 hO h
  ·cases h
 all_goals exact h
theorem ZjN (hO:OLe O O') {o:AOp} {tm:Tms} {σ:Za} {sq:Nat} {r:AVal×Tms×Za×Cls} (h:Zu O bf o sq tm σ=some r):Zu O' bf o sq tm σ=some r:=by
 unfold Zu at h ⊢
 split at h
 ·cases h
 ·exact h
 ·split at h
  ·rename_i hf
   rw [if_pos hf]
   split at h
   ·rename_i he;rw [ZuT hO he];exact h
   ·cases h
  ·cases h
theorem ZjV (hO:OLe O O'):∀ {ops:List AOp} {s:Nat} {tm:Tms} {σ:Za} {r:Tms×Za×List Cls×Option AVal},ZY O bf ops s tm σ=some r->ZY O' bf ops s tm σ=some r
 | [],_,_,_,_,h=>h
 | o::ops,s,tm,σ,r,h=>by
  simp only [ZY] at h ⊢
  split at h
  ·cases h
  ·rename_i h1
   rw [ZjN hO h1]
   exact h
  ·rename_i v tm1 σ1 c hnp h1
   rw [ZjN hO h1]
   simp only
   split at h
   ·cases h
   rename_i h2
   rw [ZjV hO h2]
   exact h
theorem ZkP (hO:OLe O O') {ops:List AOp} {chk:Option (List (Nat×Nat))} {live:List Nat} {tm:Tms} {σ:Za} {r:Zat×Tms×Za} (h:ZbW O bf ops chk live tm σ=some r):ZbW O' bf ops chk live tm σ=some r:=by
 unfold ZbW at h ⊢
 cases hx:ZY O bf ops σ.length tm (σ++XO (sitesOf ops) .free) with
 | none=>rw [hx] at h;simp only [ZcM] at h;cases h
 | some q=>rw [ZjV hO hx];rw [hx] at h;exact h
theorem Zhp {m0:Nat} {live:List Nat} {f f':Tms->Za->Option (Zat×Tms×Za)} (hf:∀ tm σ r,f tm σ=some r->f' tm σ=some r):∀ {n n':Nat} {tm:Tms} {σ:Za} {r:Zat×Tms×Za},n<=n'->Zc7 m0 live f n tm σ=some r->Zc7 m0 live f' n' tm σ=some r
 | 0,_,_,_,_,_,h=>by simp only [Zc7] at h;cases h
 | n+1,0,_,_,_,hn,_=>by omega
 | n+1,n'+1,tm,σ,r,hn,h=>by
  simp only [Zc7] at h ⊢
  split at h
  ·rename_i h1
   rw [hf _ _ _ h1]
   exact Zhp hf (by omega) h
  ·rename_i hne
   rw [hf _ _ _ h]
   split
   ·rename_i e;injection e with e;subst e;exact absurd h (hne _ _)
   ·rfl
theorem Zdn (hO:OLe O O') {m0:Nat}:∀ {c:Zq} {n n':Nat} {tm:Tms} {σ:Za} {r:Zat×Tms×Za},n<=n'->Z1 O bf m0 n c tm σ=some r->Z1 O' bf m0 n' c tm σ=some r:=by
 intro c
 induction c with
 | skip=>intro n n' tm σ r _ h;exact h
 | exit id=>intro n n' tm σ r _ h;exact h
 | ret=>intro n n' tm σ r _ h;exact h
 | stuck=>intro n n' tm σ r _ h;exact h
 | region ops chk live =>
  intro n n' tm σ r _ h
  simp only [Z1] at h ⊢
  exact ZkP hO h
 | seq a b iha ihb =>
  intro n n' tm σ r hn h
  simp only [Z1] at h ⊢
  split at h
  ·rename_i h1;rw [iha hn h1];exact ihb hn h
  ·rename_i hne
   rw [iha hn h]
   split
   ·rename_i e;injection e with e;subst e;exact absurd h (hne _ _)
   ·rfl
 | cond c a b iha ihb =>
  intro n n' tm σ r hn h
  simp only [Z1] at h ⊢
  split at h
  ·exact iha hn h
  ·exact ihb hn h
  ·cases h
 | block id c ih =>
  intro n n' tm σ r hn h
  simp only [Z1] at h ⊢
  split at h
  ·rename_i h1;rw [ih hn h1];exact h
  ·rename_i hne
   rw [ih hn h]
   split
   ·rename_i e;injection e with e;subst e;exact absurd h (hne _ _ _)
   ·rfl
 | loop live c ih =>
  intro n n' tm σ r hn h
  simp only [Z1] at h ⊢
  exact Zhp (fun tm σ r h=>ih hn h) hn h
theorem ZhD {m0:Nat} {fn:Zax} {x y:Option (Zat×Tms×Za)} (h:∀ r,x=some r->y=some r) {r:AVal×Za} (hr:ZaR m0 fn x=some r):ZaR m0 fn y=some r:=by
 cases x with
 | none=>simp only [ZaR] at hr;cases hr
 | some q=>rw [h q rfl];exact hr
theorem Zk0 (fs:Nat->Option Zax) (prim:Zb1):∀ n,OLe (Zac fs prim bf n) (Zac fs prim bf (n+1))
 | 0=>by intro f a σ r h;simp only [Zac] at h;cases h
 | n+1=>by
  intro f a σ r h
  rw [Zac] at h ⊢
  split at h
  ·rename_i g hg;exact h
  ·rename_i hg
   split at h
   ·cases h
   ·rename_i fn hfn
    exact ZhD (fun q hq=>Zdn (Zk0 fs prim n) (by omega) hq) h
theorem Zf8 (fs : Nat -> Option Zax) (prim : Zb1) {n m : Nat} (h : n <= m) : OLe (Zac fs prim bf n) (Zac fs prim bf m) := by
  induction m with
  | zero => obtain rfl : n = 0 := by omega
            exact fun _ _ _ _ h => h
  | succ m ih =>
    by_cases e : n = m + 1
    . subst e; exact fun _ _ _ _ h => h
    . exact fun f a σ r hr => Zk0 fs prim m f a σ r (ih (by omega) f a σ r hr)
end
section
variable (fs:Nat->Option Zax) (prim:Zb1) (bf:Nat->Bool)
open Classical in
noncomputable def EV:ZZ:=fun f args σ=>if h:∃ r,∃ n,Zac fs prim bf n f args σ=some r then some h.choose else none
open Classical in
noncomputable def evC (m:Nat) (c:Zq) (tm:Tms) (σ:Za):Option (Zat×Tms×Za):=if h:∃ r,∃ n,Z1 (Zac fs prim bf n) bf m n c tm σ=some r then some h.choose else none
variable {fs prim bf} {m0:Nat}
theorem ZcH {f:Nat} {args:List AVal} {σ:Za} {r:AVal×Za}:EV fs prim bf f args σ=some r↔∃ n,Zac fs prim bf n f args σ=some r:=by
 unfold EV
 constructor
 ·intro h
  split at h
  ·rename_i hx
   injection h with h
   rw [<-h]
   exact hx.choose_spec
  ·cases h
 ·rintro ⟨n,hn⟩
  have hx:∃ r,∃ n,Zac fs prim bf n f args σ=some r:=⟨r,n,hn⟩
  rw [dif_pos hx]
  obtain ⟨m,hm⟩:=hx.choose_spec
  have h1:=Zf8 (bf:=bf) fs prim (W1 n m) _ _ _ _ hn
  have h2:=Zf8 (bf:=bf) fs prim (WX n m) _ _ _ _ hm
  rw [h1] at h2
  injection h2 with h2
  rw [<-h2]
theorem ZaZ {c:Zq} {tm:Tms} {σ:Za} {r:Zat×Tms×Za}:evC fs prim bf m0 c tm σ=some r↔∃ n,Z1 (Zac fs prim bf n) bf m0 n c tm σ=some r:=by
 unfold evC
 constructor
 ·intro h
  split at h
  ·rename_i hx
   injection h with h
   rw [<-h]
   exact hx.choose_spec
  ·cases h
 ·rintro ⟨n,hn⟩
  have hx:∃ r,∃ n,Z1 (Zac fs prim bf n) bf m0 n c tm σ=some r:=⟨r,n,hn⟩
  rw [dif_pos hx]
  obtain ⟨m,hm⟩:=hx.choose_spec
  have h1:=Zdn (Zf8 (bf:=bf) fs prim (W1 n m)) (W1 n m) hn
  have h2:=Zdn (Zf8 (bf:=bf) fs prim (WX n m)) (WX n m) hm
  rw [h1] at h2
  injection h2 with h2
  rw [<-h2]
theorem ZdV {α:Type} {x y:Option α} (h:∀ r,x=some r↔y=some r):x=y:=by
 cases x with
 | none =>
  cases y with
  | none=>rfl
  | some q=>exact absurd ((h q).2 rfl) (by simp)
 | some q=>exact ((h q).1 rfl).symm
theorem ZwW (n:Nat):OLe (Zac fs prim bf n) (EV fs prim bf):=fun _ _ _ _ h=>ZcH.2 ⟨n,h⟩
theorem up {n m:Nat} (h:n<=m):OLe (Zac fs prim bf n) (Zac fs prim bf m):=Zf8 fs prim h
theorem ZyJ {f:Nat} {g:List AVal->Za->Option (AVal×Za)} (hp:prim f=some g) (args:List AVal) (σ:Za):EV fs prim bf f args σ=g args σ:=by
 apply ZdV
 intro r
 rw [ZcH]
 constructor
 ·rintro ⟨n,h⟩
  cases n with
  | zero=>simp only [Zac] at h;cases h
  | succ n=>rw [Zac,hp] at h;exact h
 ·intro h
  exact ⟨1,by rw [Zac,hp];exact h⟩
theorem Znz {f:Nat} {fn:Zax} (hp:prim f=none) (hf:fs f=some fn) (args:List AVal) (σ:Za):EV fs prim bf f args σ=ZaR σ.length fn (evC fs prim bf σ.length fn.body (enterA 0 args []) σ):=by
 apply ZdV
 intro r
 rw [ZcH]
 constructor
 ·rintro ⟨n,h⟩
  cases n with
  | zero=>simp only [Zac] at h;cases h
  | succ n =>
   rw [Zac,hp,hf] at h
   exact ZhD (fun q hq=>ZaZ.2 ⟨n,hq⟩) h
 ·intro h
  cases hx:evC fs prim bf σ.length fn.body (enterA 0 args []) σ with
  | none=>rw [hx] at h;simp only [ZaR] at h;cases h
  | some q =>
   obtain ⟨n,hn⟩:=ZaZ.1 hx
   refine ⟨n+1,?_⟩
   rw [Zac,hp,hf]
   rw [hx] at h
   exact ZhD (x:=some q) (fun q' hq'=>by injection hq' with hq';subst hq';exact hn) h
theorem Znw {σ:Za} {sq f own:Nat} {view:Bool} {args:List AVal} {r:AVal×Za×Cls} (h:Z7 (EV fs prim bf) bf σ sq f own view args=some r):∃ n,Z7 (Zac fs prim bf n) bf σ sq f own view args=some r:=by
 unfold Z7 Zcj at h ⊢
 split at h
 ·cases h
 ·rename_i vs ts hv
  split at h
  ·rename_i hc
   simp only [hc,if_true]
   cases hx:EV fs prim bf f (ZW (Zd (Zs σ ts) 0 (Zf (Zs σ ts) 1000 (ZX vs) [])) vs) (Zg (Zs σ ts) 0 (Zf (Zs σ ts) 1000 (ZX vs) []) (Zd (Zs σ ts) 0 (Zf (Zs σ ts) 1000 (ZX vs) [])) (Zf (Zs σ ts) 1000 (ZX vs) []) 0) with
   | none =>
    rw [hx] at h
    cases view <;> simp [ZaM,Zcz,ZaC] at h
   | some q =>
    obtain ⟨n,hn⟩:=ZcH.1 hx
    exact ⟨n,by rw [hn];rw [hx] at h;exact h⟩
  ·cases h
theorem ZzE {tm:Tms} {σ:Za} {sq:Nat} {ins:Ins} {r:AVal×Za×Cls} (h:execI (EV fs prim bf) bf tm σ sq ins=some r):∃ n,execI (Zac fs prim bf n) bf tm σ sq ins=some r:=by
 cases ins
 case call f own view args =>
  simp only [execI] at h ⊢
  exact Znw h
 case callv x args =>
  simp only [execI] at h ⊢
  split at h
  ·exact Znw h
  ·cases h
 all_goals exact ⟨0,h⟩
theorem ZnL {o:AOp} {tm:Tms} {σ:Za} {sq:Nat} {r:AVal×Tms×Za×Cls} (h:Zu (EV fs prim bf) bf o sq tm σ=some r):∃ n,Zu (Zac fs prim bf n) bf o sq tm σ=some r:=by
 unfold Zu at h ⊢
 split at h
 ·cases h
 ·exact ⟨0,h⟩
 ·split at h
  ·rename_i hf
   simp only [hf,if_true]
   split at h
   ·rename_i he
    obtain ⟨n,hn⟩:=ZzE he
    exact ⟨n,by rw [hn];exact h⟩
   ·cases h
  ·cases h
theorem ZkM:∀ {ops:List AOp} {s:Nat} {tm:Tms} {σ:Za} {r:Tms×Za×List Cls×Option AVal},ZY (EV fs prim bf) bf ops s tm σ=some r->∃ n,ZY (Zac fs prim bf n) bf ops s tm σ=some r
 | [],_,_,_,_,h=>⟨0,h⟩
 | o::ops,s,tm,σ,r,h=>by
  simp only [ZY] at h ⊢
  split at h
  ·cases h
  ·rename_i h1
   obtain ⟨n,hn⟩:=ZnL h1
   exact ⟨n,by rw [hn];exact h⟩
  rename_i v tm1 σ1 c hnp h1
  split at h
  ·cases h
  rename_i h2
  obtain ⟨n,hn⟩:=ZnL h1
  obtain ⟨m,hm⟩:=ZkM h2
  refine ⟨max n m,?_⟩
  rw [ZjN (up (W1 n m)) hn]
  simp only
  rw [ZjV (up (WX n m)) hm]
  exact h
theorem ZwK {ops:List AOp} {chk:Option (List (Nat×Nat))} {live:List Nat} {tm:Tms} {σ:Za} {r:Zat×Tms×Za} (h:ZbW (EV fs prim bf) bf ops chk live tm σ=some r):∃ n,ZbW (Zac fs prim bf n) bf ops chk live tm σ=some r:=by
 unfold ZbW at h ⊢
 cases hx:ZY (EV fs prim bf) bf ops σ.length tm (σ++XO (sitesOf ops) .free) with
 | none=>rw [hx] at h;simp only [ZcM] at h;cases h
 | some q =>
  obtain ⟨n,hn⟩:=ZkM hx
  exact ⟨n,by rw [hn];rw [hx] at h;exact h⟩
theorem Zxq (tm:Tms) (σ:Za):evC fs prim bf m0 .skip tm σ=some (.normal,tm,σ):=ZaZ.2 ⟨0,rfl⟩
theorem Zq1 (id:Nat) (tm:Tms) (σ:Za):evC fs prim bf m0 (.exit id) tm σ=some (.exit id,tm,σ):=ZaZ.2 ⟨0,rfl⟩
theorem Zyg (tm:Tms) (σ:Za):evC fs prim bf m0 .ret tm σ=some (.ret,tm,σ):=ZaZ.2 ⟨0,rfl⟩
theorem Zrv {ops:List AOp} {chk:Option (List (Nat×Nat))} {live:List Nat} {tm:Tms} {σ:Za}:evC fs prim bf m0 (.region ops chk live) tm σ=ZbW (EV fs prim bf) bf ops chk live tm σ:=by
 apply ZdV
 intro r
 rw [ZaZ]
 constructor
 ·rintro ⟨n,hn⟩
  simp only [Z1] at hn
  exact ZkP (ZwW n) hn
 ·intro h
  obtain ⟨n,hn⟩:=ZwK h
  exact ⟨n,by simp only [Z1];exact hn⟩
theorem Zr0 {a b:Zq} {tm tm':Tms} {σ σ':Za} (h:evC fs prim bf m0 a tm σ=some (.normal,tm',σ')):evC fs prim bf m0 (.seq a b) tm σ=evC fs prim bf m0 b tm' σ':=by
 obtain ⟨n,hn⟩:=ZaZ.1 h
 apply ZdV
 intro r
 rw [ZaZ,ZaZ]
 constructor
 ·rintro ⟨m,hm⟩
  have h1:=Zdn (up (W1 n m)) (W1 n m) hn
  have h2:=Zdn (up (WX n m)) (WX n m) hm
  simp only [Z1,h1] at h2
  exact ⟨_,h2⟩
 ·rintro ⟨m,hm⟩
  have h1:=Zdn (up (W1 n m)) (W1 n m) hn
  have h2:=Zdn (up (WX n m)) (WX n m) hm
  exact ⟨max n m,by simp only [Z1,h1];exact h2⟩
theorem ZiN {a b:Zq} {tm tm':Tms} {σ σ':Za} {e:Zat} (he:e≠.normal) (h:evC fs prim bf m0 a tm σ=some (e,tm',σ')):evC fs prim bf m0 (.seq a b) tm σ=some (e,tm',σ'):=by
 obtain ⟨n,hn⟩:=ZaZ.1 h
 refine ZaZ.2 ⟨n,?_⟩
 simp only [Z1,hn]
 cases e with
 | normal=>exact absurd rfl he
 | exit id=>rfl
 | ret=>rfl
 | panic x=>rfl
def ZbD (id:Nat):Zat×Tms×Za->Zat×Tms×Za
 | (.exit i,tm,σ)=>if i=id then (.normal,tm,σ) else (.exit i,tm,σ)
 | r=>r
theorem ZwH {id:Nat} {c:Zq} {tm:Tms} {σ:Za}:evC fs prim bf m0 (.block id c) tm σ=(evC fs prim bf m0 c tm σ).map (ZbD id):=by
 have step:∀ n,Z1 (Zac fs prim bf n) bf m0 n (.block id c) tm σ=(Z1 (Zac fs prim bf n) bf m0 n c tm σ).map (ZbD id):=by
  intro n
  simp only [Z1]
  cases Z1 (Zac fs prim bf n) bf m0 n c tm σ with
  | none=>rfl
  | some q =>
   obtain ⟨e,tm1,σ1⟩:=q
   cases e with
   | normal=>rfl
   | ret=>rfl
   | panic x=>rfl
   | exit i=>simp only [XU,ZbD];split <;> rfl
 apply ZdV;intro r
 rw [ZaZ]
 simp only [step,Xn]
 constructor
 ·rintro ⟨n,q,h1,h2⟩;exact ⟨q,ZaZ.2 ⟨n,h1⟩,h2⟩
 ·rintro ⟨q,h1,h2⟩;obtain ⟨n,hn⟩:=ZaZ.1 h1;exact ⟨n,q,hn,h2⟩
theorem ZAh {c:Zq} {tm:Tms} {σ:Za} (h:evC fs prim bf m0 c tm σ=none) (n:Nat):Z1 (Zac fs prim bf n) bf m0 n c tm σ=none:=by
 cases hx:Z1 (Zac fs prim bf n) bf m0 n c tm σ with
 | none=>rfl
 | some r=>rw [ZaZ.2 ⟨n,hx⟩] at h;cases h
variable (fs prim bf m0) in
noncomputable def ZcE (b:Zq):Option (Zat×Tms×Za)->Option (Zat×Tms×Za)
 | some (.normal,tm,σ)=>evC fs prim bf m0 b tm σ
 | r=>r
theorem Zn7 {a b:Zq} {tm:Tms} {σ:Za}:evC fs prim bf m0 (.seq a b) tm σ=ZcE fs prim bf m0 b (evC fs prim bf m0 a tm σ):=by
 cases h:evC fs prim bf m0 a tm σ with
 | none =>
  simp only [ZcE]
  apply ZdV;intro r
  rw [ZaZ]
  constructor
  ·rintro ⟨n,hn⟩
   simp only [Z1,ZAh h n] at hn
   cases hn
  ·intro h;cases h
 | some q =>
  obtain ⟨e,tm',σ'⟩:=q
  cases e with
  | normal=>exact Zr0 h
  | exit id=>exact ZiN (by simp) h
  | ret=>exact ZiN (by simp) h
  | panic x=>exact ZiN (by simp) h
variable (fs prim bf m0) in
noncomputable def Zgm (a b:Zq) (tm:Tms) (σ:Za):AVal->Option (Zat×Tms×Za)
 | .bool true=>evC fs prim bf m0 a tm σ
 | .bool false=>evC fs prim bf m0 b tm σ
 | _=>none
theorem Zr3 {c:Opd} {a b:Zq} {tm:Tms} {σ:Za}:evC fs prim bf m0 (.cond c a b) tm σ=Zgm fs prim bf m0 a b tm σ (c.ev tm):=by
 apply ZdV;intro r
 rw [ZaZ]
 simp only [Z1]
 constructor
 ·rintro ⟨n,hn⟩
  split at hn
  ·rename_i e;rw [e];simp only [Zgm];exact ZaZ.2 ⟨n,hn⟩
  ·rename_i e;rw [e];simp only [Zgm];exact ZaZ.2 ⟨n,hn⟩
  ·cases hn
 ·intro h
  unfold Zgm at h
  split at h
  ·rename_i e;obtain ⟨n,hn⟩:=ZaZ.1 h;exact ⟨n,by rw [e];exact hn⟩
  ·rename_i e;obtain ⟨n,hn⟩:=ZaZ.1 h;exact ⟨n,by rw [e];exact hn⟩
  ·cases h
variable (fs prim bf m0) in
noncomputable def evL (live:List Nat) (c:Zq) (tm:Tms) (σ:Za):Option (Zat×Tms×Za) :=
 match evC fs prim bf m0 c tm σ with
 | some (.normal,tm',σ')=>evC fs prim bf m0 (.loop live c) tm' σ'
 | r=>r
theorem ZnC {live:List Nat} {c:Zq} {tm:Tms} {σ:Za}:evC fs prim bf m0 (.loop live c) tm σ=evL fs prim bf m0 live c (gcT m0 (keepL live tm) σ).1 (gcT m0 (keepL live tm) σ).2:=by
 apply ZdV;intro r
 rw [ZaZ]
 constructor
 ·rintro ⟨n,hn⟩
  simp only [Z1] at hn
  cases n with
  | zero=>simp only [Zc7] at hn;cases hn
  | succ k =>
   simp only [Zc7] at hn
   unfold evL
   cases hx:Z1 (Zac fs prim bf (k+1)) bf m0 (k+1) c (gcT m0 (keepL live tm) σ).1 (gcT m0 (keepL live tm) σ).2 with
   | none=>rw [hx] at hn;cases hn
   | some q =>
    rw [ZaZ.2 ⟨_,hx⟩]
    rw [hx] at hn
    obtain ⟨e,tm',σ'⟩:=q
    cases e with
    | normal =>
     simp only at hn ⊢
     exact ZaZ.2 ⟨k+1,by simp only [Z1];exact Zhp (fun _ _ _ h=>h) (by omega) hn⟩
    | exit id=>exact hn
    | ret=>exact hn
    | panic x=>exact hn
 ·intro h
  unfold evL at h
  cases hx:evC fs prim bf m0 c (gcT m0 (keepL live tm) σ).1 (gcT m0 (keepL live tm) σ).2 with
  | none=>rw [hx] at h;cases h
  | some q =>
   rw [hx] at h
   obtain ⟨n,hn⟩:=ZaZ.1 hx
   obtain ⟨e,tm',σ'⟩:=q
   have out:e≠.normal->some (e,tm',σ')=some r->∃ n,Z1 (Zac fs prim bf n) bf m0 n (.loop live c) tm σ=some r:=by
    intro he h
    refine ⟨n+1,?_⟩
    have h1:=Zdn (up (show n<=n+1 by omega)) (show n<=n+1 by omega) hn
    simp only [Z1,Zc7,h1]
    cases e with
    | normal=>exact absurd rfl he
    | exit id=>exact h
    | ret=>exact h
    | panic x=>exact h
   cases e with
   | normal =>
    simp only at h
    obtain ⟨m,hm⟩:=ZaZ.1 h
    have h1:=Zdn (up (show n<=max n m+1 by omega)) (show n<=max n m+1 by omega) hn
    have h2:=Zdn (up (show m<=max n m+1 by omega)) (XR m) hm
    simp only [Z1] at h2
    refine ⟨max n m+1,?_⟩
    simp only [Z1,Zc7,h1]
    exact Zhp (fun tm σ r h=>Zdn (fun _ _ _ _ h=>h) (by omega) h) (by omega) h2
   | exit id=>exact out (by simp) h
   | ret=>exact out (by simp) h
   | panic x=>exact out (by simp) h
theorem ZrV {P:Program} (hm:P.follows .mixedOrders=true) {prim:Zb1} (hP:Zia P prim) (ann:Nat->Ann) (bf:Nat->Bool):Zad P (EV (Zgq P ann) prim bf):=by
 intro f args σ r σ' h
 obtain ⟨n,hn⟩:=ZcH.1 h
 exact Zim hm hP ann bf n f args σ r σ' hn
end
end
section
open Go.RowKit
def ZkO:Tms×Za×List Cls×Option AVal->Tms×Za×Option AVal:=fun q=>(q.1,q.2.1,q.2.2.2)
def Zav:AVal->Bool
 | .pan _=>true
 | _=>false
section
variable (O:ZZ) (bf:Nat->Bool)
def exI (i:Ins) (s:Nat) (tm:Tms) (σ:Za):Option (AVal×Za×Cls) :=
 if nsite i == 0 || freeAt σ s then execI O bf tm σ s i else none
def ZaP (ops:List AOp) (s:Nat) (tm:Tms) (σ:Za):Option (Tms×Za×Option AVal):=(ZY O bf ops s tm σ).map ZkO
def kN (d:Option Nat) (os:List AOp) (s:Nat) (tm:Tms):Option (AVal×Za×Cls)->Option (Tms×Za×Option AVal)
 | none=>none
 | some (v,σ,_)=>if Zav v then some (tput tm d v,σ,some (Zam v)) else ZaP O bf os s (tput tm d v) σ
def ZhY (live:List Nat):Option (Tms×Za×Option AVal)->Option (Zat×Tms×Za)
 | none=>none
 | some (_,σ,some x)=>some (.panic x,[],σ)
 | some (tm,σ,none)=>some (.normal,keepL live tm,σ)
variable {O bf}
theorem Zlr (s:Nat) (tm:Tms) (σ:Za):ZaP O bf [] s tm σ=some (tm,σ,none):=rfl
theorem Zgw {o:AOp} {os:List AOp} {s:Nat} {tm:Tms} {σ:Za} (h:Zu O bf o s tm σ=none):ZY O bf (o::os) s tm σ=none:=by simp only [ZY,h]
theorem ZhA {o:AOp} {os:List AOp} {s:Nat} {tm tm1:Tms} {σ σ1:Za} {x:AVal} {c:Cls} (h:Zu O bf o s tm σ=some (.pan x,tm1,σ1,c)):ZY O bf (o::os) s tm σ=some (tm1,σ1,[c],some x):=by simp only [ZY,h]
theorem ZkF {o:AOp} {os:List AOp} {s:Nat} {tm tm1:Tms} {σ σ1:Za} {v:AVal} {c:Cls} (h:Zu O bf o s tm σ=some (v,tm1,σ1,c)) (hn:Zav v=false):ZY O bf (o::os) s tm σ=(ZY O bf os (s+nsite o.ins) tm1 σ1).map fun q=>(q.1,q.2.1,c::q.2.2.1,q.2.2.2):=by
 simp only [ZY,h]
 cases v <;> first
  | (simp [Zav] at hn;done)
  | (simp only;cases ZY O bf os (s+nsite o.ins) tm1 σ1 <;> rfl)
theorem Zhj {o:AOp} {os:List AOp} {s:Nat} {tm:Tms} {σ:Za} (h:Zu O bf o s tm σ=none):ZaP O bf (o::os) s tm σ=none:=by simp only [ZaP,Zgw h,Option.map_none]
theorem Zis {o:AOp} {os:List AOp} {s:Nat} {tm tm1:Tms} {σ σ1:Za} {x:AVal} {c:Cls} (h:Zu O bf o s tm σ=some (.pan x,tm1,σ1,c)):ZaP O bf (o::os) s tm σ=some (tm1,σ1,some x):=by simp only [ZaP,ZhA h,XU,ZkO]
theorem Zh1 {o:AOp} {os:List AOp} {s:Nat} {tm tm1:Tms} {σ σ1:Za} {v:AVal} {c:Cls} (h:Zu O bf o s tm σ=some (v,tm1,σ1,c)) (hn:Zav v=false):ZaP O bf (o::os) s tm σ=ZaP O bf os (s+nsite o.ins) tm1 σ1:=by
 simp only [ZaP,ZkF h hn,Option.map_map]
 rfl
theorem ZhI {v:AVal} (h:Zav v=true):∃ x,v=.pan x:=by
 cases v <;> first | exact ⟨_,rfl⟩ | (simp [Zav] at h;done)
theorem ZhJ {d:Option Nat} {i:Ins} {af:List Nat} {s:Nat} {tm:Tms} {σ:Za}:Zu O bf ⟨d,i,none,af⟩ s tm σ=(exI O bf i s tm σ).map fun q=>(q.1,tput tm d q.1,q.2.1,q.2.2):=by
 unfold Zu exI
 simp only [Za3]
 split
 ·cases execI O bf tm σ s i with
  | none=>rfl
  | some q=>rfl
 ·rfl
theorem Zjf (d:Option Nat) (i:Ins) (af:List Nat) (os:List AOp) (s:Nat) (tm:Tms) (σ:Za):ZaP O bf (⟨d,i,none,af⟩::os) s tm σ=kN O bf d os (s+nsite i) tm (exI O bf i s tm σ):=by
 cases h:exI O bf i s tm σ with
 | none=>exact Zhj (by rw [ZhJ,h];rfl)
 | some q =>
  obtain ⟨v,σ1,c⟩:=q
  have hs:Zu O bf ⟨d,i,none,af⟩ s tm σ=some (v,tput tm d v,σ1,c):=by rw [ZhJ,h];rfl
  cases hp:Zav v with
  | true =>
   obtain ⟨x,rfl⟩:=ZhI hp
   exact Zis hs
  | false =>
   rw [Zh1 hs hp]
   simp only [kN,hp,Xz,if_false]
theorem ZpV (ops:List AOp) (live:List Nat) (tm:Tms) (σ:Za):ZbW O bf ops none live tm σ=ZhY live (ZaP O bf ops σ.length tm (σ++XO (sitesOf ops) .free)):=by
 unfold ZbW ZaP
 cases ZY O bf ops σ.length tm (σ++XO (sitesOf ops) .free) with
 | none=>rfl
 | some q =>
  obtain ⟨tm',σ',cs,p⟩:=q
  cases p <;> rfl
theorem Zkj (d:Option Nat) (os:List AOp) (s:Nat) (tm:Tms) (v:AVal) (σ:Za) (c:Cls) (h:Zav v=false):kN O bf d os s tm (some (v,σ,c))=ZaP O bf os s (tput tm d v) σ:=by
 simp only [kN,h,Xz,if_false]
theorem ZwI (d:Option Nat) (os:List AOp) (s:Nat) (tm:Tms) (x:AVal) (σ:Za) (c:Cls):kN O bf d os s tm (some (.pan x,σ,c))=some (tput tm d (.pan x),σ,some x):=rfl
theorem Zu3 (d:Option Nat) (os:List AOp) (s:Nat) (tm:Tms):kN O bf d os s tm none=none:=rfl
structure GOp where
 guard:Option (Nat×Bool)
 ops:List AOp
def Zx:List AOp->Tms->Tms
 | [],tm=>tm
 | o::os,tm=>Zx os (tput tm o.dst (.tup []))
def unG (o:AOp):AOp:={ o with guard:=none }
variable (O bf) in
def Zdz (j:Nat) (w:Bool) (g:List AOp) (s:Nat) (tm:Tms) (σ:Za):Option (Tms×Za×Option AVal):=match Za3 (some (j,w)) tm with
 | none=>none
 | some false=>some (Zx g tm,σ,none)
 | some true=>ZaP O bf (g.map unG) s tm σ
variable (O bf) in
def gK (os:List AOp) (s:Nat):Option (Tms×Za×Option AVal)->Option (Tms×Za×Option AVal)
 | none=>none
 | some (tm,σ,some x)=>some (tm,σ,some x)
 | some (tm,σ,none)=>ZaP O bf os s tm σ
def Zt (j:Nat) (w:Bool):List AOp->List AOp×List AOp
 | []=>([],[])
 | o::os=>match o.guard with
  | some (j',w')=>if j'=j/\w'=w/\o.dst≠some j then ((o::(Zt j w os).1),(Zt j w os).2) else ([],o::os)
  | none=>([],o::os)
theorem ZjG (j:Nat) (w:Bool):∀ os,(Zt j w os).1++(Zt j w os).2=os
 | []=>rfl
 | o::os=>by
  simp only [Zt]
  split
  ·split
   ·simp [ZjG j w os]
   ·rfl
  ·rfl
theorem Zjj (j:Nat) (w:Bool):∀ os,∀ o ∈ (Zt j w os).1,o.guard=some (j,w)/\o.dst≠some j
 | []=>by simp [Zt]
 | o::os=>by
  intro o' ho
  simp only [Zt] at ho
  split at ho
  ·rename_i j' w' hg
   split at ho
   ·rename_i hc
    rcases XL.1 ho with rfl | ho
    ·exact ⟨by rw [hg,hc.1,hc.2.1],hc.2.2⟩
    ·exact Zjj j w os o' ho
   ·simp at ho
  ·simp at ho
theorem Zw0 {d:Option Nat} {v:AVal} {n:Nat} {tm:Tms} (h:d≠some n):tget (tput tm d v) n=tget tm n:=by
 cases d with
 | none=>rfl
 | some d =>
  have : d≠n:=by rintro rfl;exact h rfl
  simp only [tput,ZfU,this,if_false]
theorem ZeI {d:Option Nat} {v:AVal} {j:Nat} {w:Bool} {tm:Tms} (h:d≠some j):Za3 (some (j,w)) (tput tm d v)=Za3 (some (j,w)) tm:=by
 simp only [Za3,Zw0 h]
theorem Zm6:∀ (a b:List AOp) (s:Nat) (tm:Tms) (σ:Za),ZaP O bf (a++b) s tm σ=gK O bf b (s+sitesOf a) (ZaP O bf a s tm σ)
 | [],b,s,tm,σ=>by simp [Zlr,gK,sitesOf]
 | o::a,b,s,tm,σ=>by
  have ih:=Zm6 a b
  simp only [WG]
  have hs:s+nsite o.ins+sitesOf a=s+sitesOf (o::a):=by simp [sitesOf,WH]
  cases hst:Zu O bf o s tm σ with
  | none=>rw [Zhj hst,Zhj hst];rfl
  | some q =>
   obtain ⟨v,tm1,σ1,c⟩:=q
   cases hp:Zav v with
   | true =>
    obtain ⟨x,rfl⟩:=ZhI hp
    rw [Zis hst,Zis hst];rfl
   | false=>rw [Zh1 hst hp,Zh1 hst hp,ih,hs]
theorem Znc (j:Nat) (w:Bool):∀ (g:List AOp),(∀ o ∈ g,o.guard=some (j,w)/\o.dst≠some j)->∀ (s:Nat) (tm:Tms) (σ:Za),g≠[]->ZaP O bf g s tm σ=Zdz O bf j w g s tm σ
 | [],_,_,_,_,h=>absurd rfl h
 | o::g,hall,s,tm,σ,_=>by
  obtain ⟨hg,hd⟩:=hall o (by simp)
  have ih:∀ (tm:Tms) (σ:Za) (s:Nat),Za3 (some (j,w)) tm≠none->ZaP O bf g s tm σ=Zdz O bf j w g s tm σ:=by
   intro tm σ s hw
   by_cases he:g=[]
   ·subst he
    unfold Zdz
    cases hx:Za3 (some (j,w)) tm with
    | none=>exact absurd hx hw
    | some b=>cases b <;> rfl
   ·exact Znc j w g (fun o ho=>hall o (by simp [ho])) s tm σ he
  cases hx:Za3 (some (j,w)) tm with
  | none =>
   rw [Zhj (by simp only [Zu,hg,hx])]
   simp only [Zdz,hx]
  | some b =>
   cases b with
   | false =>
    have h1:ZaP O bf (o::g) s tm σ=ZaP O bf g (s+nsite o.ins) (tput tm o.dst (.tup [])) σ :=
     Zh1 (v:=.tup []) (c:={}) (by simp only [Zu,hg,hx]) rfl
    rw [h1,ih _ _ _ (by rw [ZeI hd,hx];simp)]
    unfold Zdz
    rw [ZeI hd,hx]
    rfl
   | true =>
    have key:∀ r:Option (AVal×Za×Cls),(∀ v σ' c,r=some (v,σ',c)->Zav v=false->ZaP O bf g (s+nsite o.ins) (tput tm o.dst v) σ'=ZaP O bf (g.map unG) (s+nsite o.ins) (tput tm o.dst v) σ')->kN O bf o.dst g (s+nsite o.ins) tm r=kN O bf o.dst (g.map unG) (s+nsite o.ins) tm r:=by
     intro r hr
     cases r with
     | none=>rfl
     | some q =>
      obtain ⟨v,σ',c⟩:=q
      cases hp:Zav v with
      | true=>simp only [kN,hp,if_true]
      | false=>rw [Zkj _ _ _ _ _ _ _ hp,Zkj _ _ _ _ _ _ _ hp];exact hr v σ' c rfl hp
    have h1:ZaP O bf (o::g) s tm σ=kN O bf o.dst g (s+nsite o.ins) tm (exI O bf o.ins s tm σ):=by
     have h0:ZaP O bf (o::g) s tm σ=ZaP O bf (⟨o.dst,o.ins,none,o.after⟩::g) s tm σ:=by
      have hst:Zu O bf o s tm σ=Zu O bf ⟨o.dst,o.ins,none,o.after⟩ s tm σ:=by
       unfold Zu
       simp only [hg,hx]
       rfl
      unfold ZaP
      simp only [ZY,hst]
     rw [h0,Zjf]
    rw [h1]
    unfold Zdz
    rw [hx]
    simp only [Xu]
    rw [show unG o=⟨o.dst,o.ins,none,o.after⟩ from rfl,Zjf]
    refine key _ fun v σ' c _ _=>?_
    rw [ih _ _ _ (by rw [ZeI hd,hx];simp)]
    unfold Zdz
    rw [ZeI hd,hx]
theorem Zn2 (d:Option Nat) (i:Ins) (j:Nat) (w:Bool) (af:List Nat) (os:List AOp) (s:Nat) (tm:Tms) (σ:Za) (hd:decide (d=some j)=false) :
  ZaP O bf (⟨d,i,some (j,w),af⟩::os) s tm σ=gK O bf (Zt j w os).2 (s+sitesOf (⟨d,i,some (j,w),af⟩::(Zt j w os).1)) (Zdz O bf j w (⟨d,i,some (j,w),af⟩::(Zt j w os).1) s tm σ):=by
 have h:=ZjG j w os
 have hall:∀ o ∈ (⟨d,i,some (j,w),af⟩::(Zt j w os).1:List AOp),o.guard=some (j,w)/\o.dst≠some j:=by
  intro o ho
  rcases XL.1 ho with rfl | ho
  ·exact ⟨rfl,by simpa using hd⟩
  ·exact Zjj j w os o ho
 rw [<-Znc j w _ hall s tm σ (by simp),<-Zm6,WG,h]
variable (O bf) in
def gW (w:Bool) (g:List AOp) (s:Nat) (tm:Tms) (σ:Za):AVal->Option (Tms×Za×Option AVal)
 | .bool b=>if b=w then ZaP O bf (g.map unG) s tm σ else some (Zx g tm,σ,none)
 | .tup []=>some (Zx g tm,σ,none)
 | _=>none
theorem ZtX (j:Nat) (w:Bool) (g:List AOp) (s:Nat) (tm:Tms) (σ:Za):Zdz O bf j w g s tm σ=gW O bf w g s tm σ (tget tm j):=by
 unfold Zdz Za3
 simp only
 generalize tget tm j=v
 cases v
 case bool b=>cases b <;> cases w <;> rfl
 case tup vs=>cases vs <;> rfl
 all_goals rfl
theorem Zoo (w:Bool) (g:List AOp) (s:Nat) (tm:Tms) (σ:Za) (b:Bool):gW O bf w g s tm σ (.bool b)=if b=w then ZaP O bf (g.map unG) s tm σ else some (Zx g tm,σ,none):=rfl
theorem Zvh (w:Bool) (g:List AOp) (s:Nat) (tm:Tms) (σ:Za):gW O bf w g s tm σ (.tup [])=some (Zx g tm,σ,none):=rfl
theorem ZAO (os:List AOp) (s:Nat) (tm:Tms) (σ:Za):gK O bf os s (some (tm,σ,none))=ZaP O bf os s tm σ:=rfl
end
section
variable (c:Prop) [Decidable c]
theorem ZM {α:Type} (a b:α) (x y:List α):(if c then a::x else b::y)=(if c then a else b)::(if c then x else y):=by split <;> rfl
theorem Zur (k:IntKind) (a b:Int):(if c then AVal.int k a else AVal.int k b)=AVal.int k (if c then a else b):=by split <;> rfl
theorem Zs3 (a b:Bool):(if c then AVal.bool a else AVal.bool b)=AVal.bool (if c then a else b):=by split <;> rfl
theorem Zo6 (a b:List UInt8):(if c then AVal.str a else AVal.str b)=AVal.str (if c then a else b):=by split <;> rfl
theorem Zqk (p q:Bool) (a b:List AVal):(if c then AVal.lst p a else AVal.lst q b)=AVal.lst (if c then p else q) (if c then a else b):=by split <;> rfl
theorem ZtW (a b:List AVal):(if c then AVal.agg a else AVal.agg b)=AVal.agg (if c then a else b):=by split <;> rfl
theorem ZAa (a b:List AVal):(if c then ZV.var a else ZV.var b)=ZV.var (if c then a else b):=by split <;> rfl
theorem ZoC (g k:Nat) (a b:List AVal):(if c then ZV.row g k a else ZV.row g k b)=ZV.row g k (if c then a else b):=by split <;> rfl
theorem ZyW (t:Nat) (a b:Nat):(if c then AVal.ref t a else AVal.ref t b)=AVal.ref t (if c then a else b):=by split <;> rfl
theorem ZL {α:Type} (x y z:α):(if c then (if c then x else y) else z)=if c then x else z:=by split <;> rfl
theorem ZO {α:Type} (x y z:α):(if c then x else (if c then y else z))=if c then x else z:=by split <;> rfl
theorem ZT {α:Type} (x y z:α):(if c then (if ¬c then x else y) else z)=if c then y else z:=by split <;> simp_all
theorem ZN {α:Type} (x y z:α):(if c then x else (if ¬c then y else z))=if c then x else y:=by split <;> simp_all
theorem Zrf (σ:Za) (a b:AVal) (p:Bool):Zeu σ a b (.bool p)=some (if p=true then a else b,σ,{}):=by cases p <;> rfl
theorem Zog (a b:AVal):Zav (if c then a else b)=if c then Zav a else Zav b:=by split <;> rfl
end
section
variable {fs:Nat->Option Zax} {prim:Zb1} {bf:Nat->Bool} {m0:Nat}
theorem ZuS (p:Bool) (a b:Zq) (tm:Tms) (σ:Za):Zgm fs prim bf m0 a b tm σ (.bool p)=if p=true then evC fs prim bf m0 a tm σ else evC fs prim bf m0 b tm σ:=by
 cases p <;> rfl
theorem ZsK (b:Zq) (tm:Tms) (σ:Za):ZcE fs prim bf m0 b (some (.normal,tm,σ))=evC fs prim bf m0 b tm σ:=rfl
theorem ZzS (b:Zq) (i:Nat) (tm:Tms) (σ:Za):ZcE fs prim bf m0 b (some (.exit i,tm,σ))=some (.exit i,tm,σ):=rfl
theorem Zv9 (b:Zq) (tm:Tms) (σ:Za):ZcE fs prim bf m0 b (some (.ret,tm,σ))=some (.ret,tm,σ):=rfl
theorem Zup (b:Zq) (x:AVal) (tm:Tms) (σ:Za):ZcE fs prim bf m0 b (some (.panic x,tm,σ))=some (.panic x,tm,σ):=rfl
theorem Zzf (c:Prop) [Decidable c] (b:Zq) (x y:Option (Zat×Tms×Za)):ZcE fs prim bf m0 b (if c then x else y)=if c then ZcE fs prim bf m0 b x else ZcE fs prim bf m0 b y:=by split <;> rfl
theorem ZyC (id:Nat) (tm:Tms) (σ:Za):W3 (ZbD id) (some (.normal,tm,σ))=some (.normal,tm,σ):=rfl
theorem ZyU (id i:Nat) (tm:Tms) (σ:Za):W3 (ZbD id) (some (.exit i,tm,σ))=if i=id then some (.normal,tm,σ) else some (.exit i,tm,σ):=by
 simp only [XU,ZbD];split <;> rfl
theorem Zxp (id:Nat) (tm:Tms) (σ:Za):W3 (ZbD id) (some (.ret,tm,σ))=some (.ret,tm,σ):=rfl
theorem Ztb (id:Nat) (x:AVal) (tm:Tms) (σ:Za):W3 (ZbD id) (some (.panic x,tm,σ))=some (.panic x,tm,σ):=rfl
theorem Zyr (id:Nat) (c:Prop) [Decidable c] (x y:Option (Zat×Tms×Za)):W3 (ZbD id) (if c then x else y)=if c then W3 (ZbD id) x else W3 (ZbD id) y:=by split <;> rfl
theorem ZuB (m:Nat) (fn:Zax) (c:Prop) [Decidable c] (x y:Option (Zat×Tms×Za)):ZaR m fn (if c then x else y)=if c then ZaR m fn x else ZaR m fn y:=by split <;> rfl
end
section
variable {fs:Nat->Option Zax} {prim:Zb1} {bf:Nat->Bool} {m0:Nat}
theorem Zr9 {live:List Nat} {c:Zq} {tm tm':Tms} {σ σ':Za} (h:evC fs prim bf m0 c tm σ=some (.normal,tm',σ')):evL fs prim bf m0 live c tm σ=evL fs prim bf m0 live c (gcT m0 (keepL live tm') σ').1 (gcT m0 (keepL live tm') σ').2:=by
 unfold evL
 rw [h]
 simp only
 rw [ZnC]
 rfl
theorem ZtP {live:List Nat} {c:Zq} {tm tm':Tms} {σ σ':Za} {i:Nat} (h:evC fs prim bf m0 c tm σ=some (.exit i,tm',σ')):evL fs prim bf m0 live c tm σ=some (.exit i,tm',σ'):=by
 unfold evL;rw [h]
theorem ZsL {live:List Nat} {c:Zq} {tm tm':Tms} {σ σ':Za} (h:evC fs prim bf m0 c tm σ=some (.ret,tm',σ')):evL fs prim bf m0 live c tm σ=some (.ret,tm',σ'):=by
 unfold evL;rw [h]
variable (fs prim bf m0) in
noncomputable def evM (live:List Nat) (c:Zq):Option (Zat×Tms×Za)->Option (Zat×Tms×Za)
 | some (.normal,tm,σ)=>evL fs prim bf m0 live c (gcT m0 (keepL live tm) σ).1 (gcT m0 (keepL live tm) σ).2
 | r=>r
theorem Za6 (live:List Nat) (c:Zq) (tm:Tms) (σ:Za):evL fs prim bf m0 live c tm σ=evM fs prim bf m0 live c (evC fs prim bf m0 c tm σ):=by
 cases h:evC fs prim bf m0 c tm σ with
 | none=>unfold evL;rw [h];rfl
 | some q =>
  obtain ⟨e,tm',σ'⟩:=q
  cases e with
  | normal=>exact Zr9 h
  | exit i=>exact ZtP h
  | ret=>exact ZsL h
  | panic x=>unfold evL;rw [h];rfl
theorem ZxD (live:List Nat) (c:Zq) (tm:Tms) (σ:Za):evM fs prim bf m0 live c (some (.normal,tm,σ))=evL fs prim bf m0 live c (gcT m0 (keepL live tm) σ).1 (gcT m0 (keepL live tm) σ).2:=rfl
theorem ZrR (live:List Nat) (c:Zq) (i:Nat) (tm:Tms) (σ:Za):evM fs prim bf m0 live c (some (.exit i,tm,σ))=some (.exit i,tm,σ):=rfl
theorem Zxt (live:List Nat) (c:Zq) (tm:Tms) (σ:Za):evM fs prim bf m0 live c (some (.ret,tm,σ))=some (.ret,tm,σ):=rfl
theorem Zyc (live:List Nat) (c:Zq) (x:AVal) (tm:Tms) (σ:Za):evM fs prim bf m0 live c (some (.panic x,tm,σ))=some (.panic x,tm,σ):=rfl
theorem Zq5 (live:List Nat) (b:Zq) (c:Prop) [Decidable c] (x y:Option (Zat×Tms×Za)):evM fs prim bf m0 live b (if c then x else y)=if c then evM fs prim bf m0 live b x else evM fs prim bf m0 live b y:=by split <;> rfl
end
def ZaG:AVal->Bool
 | .int _ _=>true
 | .bool _=>true
 | .str _=>true
 | .nilp=>true
 | .nilm=>true
 | .nili=>true
 | .lst _ _=>true
 | .fn _ []=>true
 | _=>false
def Zaz:AVal->Bool
 | .agg cs=>cs.all ZaG
 | x=>ZaG x
def ZaH:AVal->AVal
 | .lst _ xs=>.lst false xs
 | x=>x
def Zak:AVal->AVal
 | .agg cs=>.agg (cs.map ZaH)
 | x=>ZaH x
theorem Zmr {σ:Za} {x:AVal} (h:ZaG x=true):ZcV σ x=some (ZaH x,[]):=by
 cases x <;> first | (simp [ZaG] at h;done) | rfl
theorem ZmB {σ:Za}:∀ {xs:List AVal},xs.all ZaG=true->Zcw σ xs=some (xs.map ZaH,[])
 | [],_=>rfl
 | x::xs,h=>by
  simp only [Xi,Xl] at h
  simp only [Zcw,Zmr h.1,ZmB h.2,Xu,X6]
theorem ZfQ {x:AVal} (h:∀ cs,x≠.agg cs):Zaz x=ZaG x/\Zak x=ZaH x:=by
 cases x <;> first | exact ⟨rfl,rfl⟩ | exact absurd rfl (h _)
theorem ZnZ {σ:Za} {x:AVal} (h:∀ cs,x≠.agg cs):showA σ x=ZcV σ x:=by
 cases x <;> first | rfl | exact absurd rfl (h _)
theorem Zkd (x:AVal):(∃ cs,x=.agg cs)\/∀ cs,x≠.agg cs:=by
 cases x <;> first | exact Xw ⟨_,rfl⟩ | (right;intro cs;simp)
theorem Zoa {σ:Za} {x:AVal} (h:Zaz x=true):showA σ x=some (Zak x,[]):=by
 rcases Zkd x with ⟨cs,rfl⟩ | hn
 ·simp only [Zaz] at h
  simp only [showA,ZmB h,Zak]
 ·rw [(ZfQ hn).1] at h
  rw [ZnZ hn,(ZfQ hn).2]
  exact Zmr h
theorem Zm1 {σ:Za}:∀ {xs:List AVal},xs.all Zaz=true->showAs σ xs=some (xs.map Zak,[])
 | [],_=>rfl
 | x::xs,h=>by
  simp only [Xi,Xl] at h
  simp only [showAs,Zoa h.1,Zm1 h.2,Xu,X6]
theorem Zmd {x:AVal} (h:ZaG x=true):Z5 (ZaH x)=[]:=by
 cases x
 case fn f cs=>cases cs <;> simp [ZaG] at h;rfl
 all_goals first | (simp [ZaG] at h;done) | rfl
theorem ZnM:∀ {xs:List AVal},xs.all ZaG=true->ZX (xs.map ZaH)=[]
 | [],_=>rfl
 | x::xs,h=>by
  simp only [Xi,Xl] at h
  simp only [Xu,ZX,Zmd h.1,ZnM h.2,X6]
theorem ZAQ {x:AVal} (h:Zaz x=true):Z5 (Zak x)=[]:=by
 rcases Zkd x with ⟨cs,rfl⟩ | hn
 ·simp only [Zaz] at h
  simp only [Zak,Z5];exact ZnM h
 ·rw [(ZfQ hn).1] at h
  rw [(ZfQ hn).2];exact Zmd h
theorem ZjW:∀ {xs:List AVal},xs.all Zaz=true->ZX (xs.map Zak)=[]
 | [],_=>rfl
 | x::xs,h=>by
  simp only [Xi,Xl] at h
  simp only [Xu,ZX,ZAQ h.1,ZjW h.2,X6]
theorem Zlq {ρ:Rho} {x:AVal} (h:ZaG x=true):Zi ρ (ZaH x)=ZaH x:=by
 cases x
 case fn f cs=>cases cs <;> simp [ZaG] at h;rfl
 all_goals first | (simp [ZaG] at h;done) | rfl
theorem Zmq {ρ:Rho}:∀ {xs:List AVal},xs.all ZaG=true->ZW ρ (xs.map ZaH)=xs.map ZaH
 | [],_=>rfl
 | x::xs,h=>by
  simp only [Xi,Xl] at h
  simp only [Xu,ZW,Zlq h.1,Zmq h.2]
theorem ZqD {ρ:Rho} {x:AVal} (h:Zaz x=true):Zi ρ (Zak x)=Zak x:=by
 rcases Zkd x with ⟨cs,rfl⟩ | hn
 ·simp only [Zaz] at h
  simp only [Zak,Zi];rw [Zmq h]
 ·rw [(ZfQ hn).1] at h
  rw [(ZfQ hn).2];exact Zlq h
theorem ZiV {ρ:Rho}:∀ {xs:List AVal},xs.all Zaz=true->ZW ρ (xs.map Zak)=xs.map Zak
 | [],_=>rfl
 | x::xs,h=>by
  simp only [Xi,Xl] at h
  simp only [Xu,ZW,ZqD h.1,ZiV h.2]
theorem ZeJ {O:ZZ} {bf:Nat->Bool} {σ:Za} {sq f own:Nat} {view:Bool} {args:List AVal} (hb:bf f=false) (h:args.all Zaz=true) :
  Z7 O bf σ sq f own view args=ZaC σ σ [] [] sq own (ZaM view 0 (O f (args.map Zak) [])):=by
 unfold Z7 Zc6
 rw [hb]
 simp only [Xz,if_false,Zm1 h]
 have h1:Zs σ []=σ:=rfl
 rw [h1,ZjW h]
 have h2:Zf σ 1000 [] []=[]:=rfl
 rw [h2]
 unfold Zcj
 simp only [List.all_nil,if_true,ZiV h,Zg,XA]
theorem Zge (σ:Za) (sq own:Nat) (r:AVal) (h:Zi (Zby [] [] sq) r=r):ZaC σ σ [] [] sq own (some (r,[]))=some (r,σ,{}):=by
 simp only [ZaC,List.isEmpty_nil,XaD,if_true,Zdg,Bool.not_true,Bool.false_and,Xz,if_false]
 split
 ·rfl
 ·rw [h]
end
section
section
variable (ρ:Rho) (σ:Za)
theorem ZvF  : Zav (.top)=false:=rfl
theorem Zvu  : Zav (.any)=false:=rfl
theorem ZvU (k:IntKind) (n:Int):Zav (.int k n)=false:=rfl
theorem ZpI (b:Bool):Zav (.bool b)=false:=rfl
theorem ZoT (l:List UInt8):Zav (.str l)=false:=rfl
theorem Zrz  : Zav (.nilp)=false:=rfl
theorem Zuj (t:Nat) (o:Nat):Zav (.ref t o)=false:=rfl
theorem ZAb (t:Nat) (g:Nat) (i:Nat) (o:Nat):Zav (.eref t g i o)=false:=rfl
theorem Zv7 (cs:List AVal) (o:Nat):Zav (.iptr cs o)=false:=rfl
theorem ZxH (x:Bool) (xs:List AVal):Zav (.lst x xs)=false:=rfl
theorem Zrn (t:Nat) (g:Nat) (lo:Nat) (n:Nat):Zav (.sl t g lo n)=false:=rfl
theorem ZqA (cs:List AVal):Zav (.agg cs)=false:=rfl
theorem Zq3 (vs:List AVal):Zav (.tup vs)=false:=rfl
theorem ZrH (f:Nat) (caps:List AVal):Zav (.fn f caps)=false:=rfl
theorem ZxN  : Zav (.nilm)=false:=rfl
theorem Ztg (t:Nat):Zav (.map t)=false:=rfl
theorem Zt8  : Zav (.nili)=false:=rfl
theorem ZAq (t:Nat) (x:AVal):Zav (.iface t x)=false:=rfl
theorem Zvb (x:AVal):Zav (.pan x)=true:=rfl
theorem Zzn  : Zy (.top)=false:=rfl
theorem ZoV  : Zy (.any)=true:=rfl
theorem Zp0 (k:IntKind) (n:Int):Zy (.int k n)=true:=rfl
theorem Zsu (b:Bool):Zy (.bool b)=true:=rfl
theorem ZtJ (l:List UInt8):Zy (.str l)=true:=rfl
theorem ZsR  : Zy (.nilp)=true:=rfl
theorem Zol (t:Nat) (o:Nat):Zy (.ref t o)=true:=rfl
theorem Zwr (t:Nat) (g:Nat) (i:Nat) (o:Nat):Zy (.eref t g i o)=true:=rfl
theorem Zsf (cs:List AVal) (o:Nat):Zy (.iptr cs o)=true:=rfl
theorem Zxa (x:Bool) (xs:List AVal):Zy (.lst x xs)=true:=rfl
theorem ZsW (t:Nat) (g:Nat) (lo:Nat) (n:Nat):Zy (.sl t g lo n)=true:=rfl
theorem Zqb (cs:List AVal):Zy (.agg cs)=false:=rfl
theorem Zrt (vs:List AVal):Zy (.tup vs)=false:=rfl
theorem Zts (f:Nat) (caps:List AVal):Zy (.fn f caps)=true:=rfl
theorem ZnR  : Zy (.nilm)=true:=rfl
theorem Zui (t:Nat):Zy (.map t)=true:=rfl
theorem Ztp  : Zy (.nili)=true:=rfl
theorem ZxO (t:Nat) (x:AVal):Zy (.iface t x)=true:=rfl
theorem ZyI (x:AVal):Zy (.pan x)=false:=rfl
theorem Zot  : Zbe (.top)=false:=rfl
theorem ZuR  : Zbe (.any)=true:=rfl
theorem Zqt (k:IntKind) (n:Int):Zbe (.int k n)=true:=rfl
theorem Zsd (b:Bool):Zbe (.bool b)=true:=rfl
theorem ZoP (l:List UInt8):Zbe (.str l)=true:=rfl
theorem Zpr  : Zbe (.nilp)=true:=rfl
theorem Zn9 (t:Nat) (o:Nat):Zbe (.ref t o)=true:=rfl
theorem Zo9 (t:Nat) (g:Nat) (i:Nat) (o:Nat):Zbe (.eref t g i o)=true:=rfl
theorem Zso (cs:List AVal) (o:Nat):Zbe (.iptr cs o)=true:=rfl
theorem Zw1 (x:Bool) (xs:List AVal):Zbe (.lst x xs)=true:=rfl
theorem Zrd (t:Nat) (g:Nat) (lo:Nat) (n:Nat):Zbe (.sl t g lo n)=true:=rfl
theorem ZqW (cs:List AVal):Zbe (.agg cs)=true:=rfl
theorem Zwd (vs:List AVal):Zbe (.tup vs)=true:=rfl
theorem Zzm (f:Nat) (caps:List AVal):Zbe (.fn f caps)=true:=rfl
theorem ZvJ  : Zbe (.nilm)=true:=rfl
theorem Zsb (t:Nat):Zbe (.map t)=true:=rfl
theorem ZxL  : Zbe (.nili)=true:=rfl
theorem Zue (t:Nat) (x:AVal):Zbe (.iface t x)=true:=rfl
theorem Zr7 (x:AVal):Zbe (.pan x)=true:=rfl
theorem ZxX  : ZaJ (.top)=false:=rfl
theorem ZyX  : ZaJ (.any)=false:=rfl
theorem Zt9 (k:IntKind) (n:Int):ZaJ (.int k n)=true:=rfl
theorem Zwl (b:Bool):ZaJ (.bool b)=true:=rfl
theorem Zrg (l:List UInt8):ZaJ (.str l)=true:=rfl
theorem Zyi  : ZaJ (.nilp)=true:=rfl
theorem Zua (t:Nat) (o:Nat):ZaJ (.ref t o)=false:=rfl
theorem ZuE (t:Nat) (g:Nat) (i:Nat) (o:Nat):ZaJ (.eref t g i o)=false:=rfl
theorem Zqi (cs:List AVal) (o:Nat):ZaJ (.iptr cs o)=false:=rfl
theorem ZAl (x:Bool) (xs:List AVal):ZaJ (.lst x xs)=false:=rfl
theorem Zu7 (t:Nat) (g:Nat) (lo:Nat) (n:Nat):ZaJ (.sl t g lo n)=false:=rfl
theorem ZqT (cs:List AVal):ZaJ (.agg cs)=false:=rfl
theorem ZpB (vs:List AVal):ZaJ (.tup vs)=false:=rfl
theorem ZuV (f:Nat) (caps:List AVal):ZaJ (.fn f caps)=false:=rfl
theorem Zug  : ZaJ (.nilm)=true:=rfl
theorem Ztu (t:Nat):ZaJ (.map t)=false:=rfl
theorem Zn4  : ZaJ (.nili)=true:=rfl
theorem Zvs (t:Nat) (x:AVal):ZaJ (.iface t x)=false:=rfl
theorem Zyl (x:AVal):ZaJ (.pan x)=false:=rfl
theorem Zwz  : ZaS (.top)=false:=rfl
theorem Zti  : ZaS (.any)=false:=rfl
theorem ZAp (k:IntKind) (n:Int):ZaS (.int k n)=true:=rfl
theorem Zw8 (b:Bool):ZaS (.bool b)=true:=rfl
theorem ZzA (l:List UInt8):ZaS (.str l)=true:=rfl
theorem ZuL  : ZaS (.nilp)=true:=rfl
theorem ZwB (t:Nat) (o:Nat):ZaS (.ref t o)=false:=rfl
theorem ZtC (t:Nat) (g:Nat) (i:Nat) (o:Nat):ZaS (.eref t g i o)=false:=rfl
theorem Zvd (cs:List AVal) (o:Nat):ZaS (.iptr cs o)=false:=rfl
theorem Zza (x:Bool) (xs:List AVal):ZaS (.lst x xs)=false:=rfl
theorem Zt7 (t:Nat) (g:Nat) (lo:Nat) (n:Nat):ZaS (.sl t g lo n)=false:=rfl
theorem Zw9 (cs:List AVal):ZaS (.agg cs)=cs.all ZaJ:=rfl
theorem ZoB (vs:List AVal):ZaS (.tup vs)=false:=rfl
theorem Zzk (f:Nat) (caps:List AVal):ZaS (.fn f caps)=false:=rfl
theorem ZsA  : ZaS (.nilm)=true:=rfl
theorem ZAs (t:Nat):ZaS (.map t)=false:=rfl
theorem Zo8  : ZaS (.nili)=true:=rfl
theorem Zrs (t:Nat) (x:AVal):ZaS (.iface t x)=false:=rfl
theorem Zxv (x:AVal):ZaS (.pan x)=false:=rfl
theorem ZxW  : Zbg (.top)=false:=rfl
theorem Zsp  : Zbg (.any)=false:=rfl
theorem ZwX (k:IntKind) (n:Int):Zbg (.int k n)=true:=rfl
theorem ZuP (b:Bool):Zbg (.bool b)=true:=rfl
theorem Zpj (l:List UInt8):Zbg (.str l)=true:=rfl
theorem Zr5  : Zbg (.nilp)=true:=rfl
theorem Zof (t:Nat) (o:Nat):Zbg (.ref t o)=false:=rfl
theorem Zy3 (t:Nat) (g:Nat) (i:Nat) (o:Nat):Zbg (.eref t g i o)=false:=rfl
theorem Zxx (cs:List AVal) (o:Nat):Zbg (.iptr cs o)=false:=rfl
theorem Zs5 (x:Bool) (xs:List AVal):Zbg (.lst x xs)=false:=rfl
theorem ZvS (t:Nat) (g:Nat) (lo:Nat) (n:Nat):Zbg (.sl t g lo n)=false:=rfl
theorem Zou (cs:List AVal):Zbg (.agg cs)=cs.all ZaJ:=rfl
theorem Zpq (vs:List AVal):Zbg (.tup vs)=vs.all ZaS:=rfl
theorem ZAL (f:Nat) (caps:List AVal):Zbg (.fn f caps)=false:=rfl
theorem Zse  : Zbg (.nilm)=true:=rfl
theorem ZwF (t:Nat):Zbg (.map t)=false:=rfl
theorem ZtR  : Zbg (.nili)=true:=rfl
theorem ZyB (t:Nat) (x:AVal):Zbg (.iface t x)=false:=rfl
theorem Zwh  : ZaG (.top)=false:=rfl
theorem Zxi  : ZaG (.any)=false:=rfl
theorem ZrB (k:IntKind) (n:Int):ZaG (.int k n)=true:=rfl
theorem ZvB (b:Bool):ZaG (.bool b)=true:=rfl
theorem Zva (l:List UInt8):ZaG (.str l)=true:=rfl
theorem Zz7  : ZaG (.nilp)=true:=rfl
theorem ZrP (t:Nat) (o:Nat):ZaG (.ref t o)=false:=rfl
theorem ZAg (t:Nat) (g:Nat) (i:Nat) (o:Nat):ZaG (.eref t g i o)=false:=rfl
theorem Zvw (cs:List AVal) (o:Nat):ZaG (.iptr cs o)=false:=rfl
theorem ZzC (x:Bool) (xs:List AVal):ZaG (.lst x xs)=true:=rfl
theorem Zod (t:Nat) (g:Nat) (lo:Nat) (n:Nat):ZaG (.sl t g lo n)=false:=rfl
theorem Zvf (cs:List AVal):ZaG (.agg cs)=false:=rfl
theorem Zp1 (vs:List AVal):ZaG (.tup vs)=false:=rfl
theorem Zsy  : ZaG (.nilm)=true:=rfl
theorem Zqn (t:Nat):ZaG (.map t)=false:=rfl
theorem ZwC  : ZaG (.nili)=true:=rfl
theorem Zy2 (t:Nat) (x:AVal):ZaG (.iface t x)=false:=rfl
theorem ZuZ (x:AVal):ZaG (.pan x)=false:=rfl
theorem Zt3  : Zaz (.top)=false:=rfl
theorem ZyQ  : Zaz (.any)=false:=rfl
theorem ZxA (k:IntKind) (n:Int):Zaz (.int k n)=true:=rfl
theorem ZqC (b:Bool):Zaz (.bool b)=true:=rfl
theorem ZuW (l:List UInt8):Zaz (.str l)=true:=rfl
theorem Zuq  : Zaz (.nilp)=true:=rfl
theorem Zut (t:Nat) (o:Nat):Zaz (.ref t o)=false:=rfl
theorem ZpJ (t:Nat) (g:Nat) (i:Nat) (o:Nat):Zaz (.eref t g i o)=false:=rfl
theorem ZvW (cs:List AVal) (o:Nat):Zaz (.iptr cs o)=false:=rfl
theorem ZsD (x:Bool) (xs:List AVal):Zaz (.lst x xs)=true:=rfl
theorem Zp3 (t:Nat) (g:Nat) (lo:Nat) (n:Nat):Zaz (.sl t g lo n)=false:=rfl
theorem Zr2 (cs:List AVal):Zaz (.agg cs)=cs.all ZaG:=rfl
theorem ZzB (vs:List AVal):Zaz (.tup vs)=false:=rfl
theorem ZsN  : Zaz (.nilm)=true:=rfl
theorem Zvm (t:Nat):Zaz (.map t)=false:=rfl
theorem ZrU  : Zaz (.nili)=true:=rfl
theorem Zsk (t:Nat) (x:AVal):Zaz (.iface t x)=false:=rfl
theorem ZsT (x:AVal):Zaz (.pan x)=false:=rfl
theorem Zzt  : ZaH (.top)=(.top):=rfl
theorem ZuC  : ZaH (.any)=(.any):=rfl
theorem Zu0 (k:IntKind) (n:Int):ZaH (.int k n)=(.int k n):=rfl
theorem Zsv (b:Bool):ZaH (.bool b)=(.bool b):=rfl
theorem Zyj (l:List UInt8):ZaH (.str l)=(.str l):=rfl
theorem Zuk  : ZaH (.nilp)=(.nilp):=rfl
theorem ZpU (t:Nat) (o:Nat):ZaH (.ref t o)=(.ref t o):=rfl
theorem ZuA (t:Nat) (g:Nat) (i:Nat) (o:Nat):ZaH (.eref t g i o)=(.eref t g i o):=rfl
theorem Zx1 (cs:List AVal) (o:Nat):ZaH (.iptr cs o)=(.iptr cs o):=rfl
theorem ZnT (x:Bool) (xs:List AVal):ZaH (.lst x xs)=.lst false xs:=rfl
theorem Zst (t:Nat) (g:Nat) (lo:Nat) (n:Nat):ZaH (.sl t g lo n)=(.sl t g lo n):=rfl
theorem ZqP (cs:List AVal):ZaH (.agg cs)=(.agg cs):=rfl
theorem ZpS (vs:List AVal):ZaH (.tup vs)=(.tup vs):=rfl
theorem Zyd (f:Nat) (caps:List AVal):ZaH (.fn f caps)=(.fn f caps):=rfl
theorem Zzw  : ZaH (.nilm)=(.nilm):=rfl
theorem Zsx (t:Nat):ZaH (.map t)=(.map t):=rfl
theorem Zzz  : ZaH (.nili)=(.nili):=rfl
theorem Zxm (t:Nat) (x:AVal):ZaH (.iface t x)=(.iface t x):=rfl
theorem Zxf (x:AVal):ZaH (.pan x)=(.pan x):=rfl
theorem ZtL  : Zak (.top)=(.top):=rfl
theorem ZzW  : Zak (.any)=(.any):=rfl
theorem ZtT (k:IntKind) (n:Int):Zak (.int k n)=(.int k n):=rfl
theorem ZvX (b:Bool):Zak (.bool b)=(.bool b):=rfl
theorem ZoJ (l:List UInt8):Zak (.str l)=(.str l):=rfl
theorem Zs1  : Zak (.nilp)=(.nilp):=rfl
theorem ZyH (t:Nat) (o:Nat):Zak (.ref t o)=(.ref t o):=rfl
theorem Zwk (t:Nat) (g:Nat) (i:Nat) (o:Nat):Zak (.eref t g i o)=(.eref t g i o):=rfl
theorem Zx9 (cs:List AVal) (o:Nat):Zak (.iptr cs o)=(.iptr cs o):=rfl
theorem ZqJ (x:Bool) (xs:List AVal):Zak (.lst x xs)=.lst false xs:=rfl
theorem Zsa (t:Nat) (g:Nat) (lo:Nat) (n:Nat):Zak (.sl t g lo n)=(.sl t g lo n):=rfl
theorem Zzq (cs:List AVal):Zak (.agg cs)=.agg (cs.map ZaH):=rfl
theorem ZpE (vs:List AVal):Zak (.tup vs)=(.tup vs):=rfl
theorem Zpn (f:Nat) (caps:List AVal):Zak (.fn f caps)=(.fn f caps):=rfl
theorem Zsz  : Zak (.nilm)=(.nilm):=rfl
theorem ZtG (t:Nat):Zak (.map t)=(.map t):=rfl
theorem ZoU  : Zak (.nili)=(.nili):=rfl
theorem ZAN (t:Nat) (x:AVal):Zak (.iface t x)=(.iface t x):=rfl
theorem ZzR (x:AVal):Zak (.pan x)=(.pan x):=rfl
theorem ZAk  : AVal.cells (.top)=[(.top)]:=rfl
theorem Zyx  : AVal.cells (.any)=[(.any)]:=rfl
theorem Zn0 (k:IntKind) (n:Int):AVal.cells (.int k n)=[(.int k n)]:=rfl
theorem ZxR (b:Bool):AVal.cells (.bool b)=[(.bool b)]:=rfl
theorem ZpC (l:List UInt8):AVal.cells (.str l)=[(.str l)]:=rfl
theorem Zu1  : AVal.cells (.nilp)=[(.nilp)]:=rfl
theorem Zp4 (t:Nat) (o:Nat):AVal.cells (.ref t o)=[(.ref t o)]:=rfl
theorem Zrw (t:Nat) (g:Nat) (i:Nat) (o:Nat):AVal.cells (.eref t g i o)=[(.eref t g i o)]:=rfl
theorem Zyq (cs:List AVal) (o:Nat):AVal.cells (.iptr cs o)=[(.iptr cs o)]:=rfl
theorem Zz5 (x:Bool) (xs:List AVal):AVal.cells (.lst x xs)=[(.lst x xs)]:=rfl
theorem ZyZ (t:Nat) (g:Nat) (lo:Nat) (n:Nat):AVal.cells (.sl t g lo n)=[(.sl t g lo n)]:=rfl
theorem Ztq (cs:List AVal):AVal.cells (.agg cs)=cs:=rfl
theorem Zt5 (vs:List AVal):AVal.cells (.tup vs)=[(.tup vs)]:=rfl
theorem ZqY (f:Nat) (caps:List AVal):AVal.cells (.fn f caps)=[(.fn f caps)]:=rfl
theorem Zok  : AVal.cells (.nilm)=[(.nilm)]:=rfl
theorem Zrk (t:Nat):AVal.cells (.map t)=[(.map t)]:=rfl
theorem Zw5  : AVal.cells (.nili)=[(.nili)]:=rfl
theorem ZvI (t:Nat) (x:AVal):AVal.cells (.iface t x)=[(.iface t x)]:=rfl
theorem Zys (x:AVal):AVal.cells (.pan x)=[(.pan x)]:=rfl
theorem ZzX  : Zam (.top)=(.top):=rfl
theorem Zwu  : Zam (.any)=(.any):=rfl
theorem Zoy (k:IntKind) (n:Int):Zam (.int k n)=(.int k n):=rfl
theorem ZqZ (b:Bool):Zam (.bool b)=(.bool b):=rfl
theorem Zyk (l:List UInt8):Zam (.str l)=(.str l):=rfl
theorem ZqM  : Zam (.nilp)=(.nilp):=rfl
theorem Zuu (t:Nat) (o:Nat):Zam (.ref t o)=(.ref t o):=rfl
theorem Zyh (t:Nat) (g:Nat) (i:Nat) (o:Nat):Zam (.eref t g i o)=(.eref t g i o):=rfl
theorem ZqO (cs:List AVal) (o:Nat):Zam (.iptr cs o)=(.iptr cs o):=rfl
theorem ZnY (x:Bool) (xs:List AVal):Zam (.lst x xs)=(.lst x xs):=rfl
theorem ZwN (t:Nat) (g:Nat) (lo:Nat) (n:Nat):Zam (.sl t g lo n)=(.sl t g lo n):=rfl
theorem ZzY (cs:List AVal):Zam (.agg cs)=(.agg cs):=rfl
theorem ZvT (vs:List AVal):Zam (.tup vs)=(.tup vs):=rfl
theorem Zwf (f:Nat) (caps:List AVal):Zam (.fn f caps)=(.fn f caps):=rfl
theorem ZoQ  : Zam (.nilm)=(.nilm):=rfl
theorem Zqf (t:Nat):Zam (.map t)=(.map t):=rfl
theorem ZuY  : Zam (.nili)=(.nili):=rfl
theorem ZzD (t:Nat) (x:AVal):Zam (.iface t x)=(.iface t x):=rfl
theorem ZnU (x:AVal):Zam (.pan x)=x:=rfl
theorem ZyP  : Zaq (.top)=4:=rfl
theorem ZpX  : Zaq (.any)=4:=rfl
theorem ZvE (k:IntKind) (n:Int):Zaq (.int k n)=0:=rfl
theorem Zwq (b:Bool):Zaq (.bool b)=1:=rfl
theorem Zx0 (l:List UInt8):Zaq (.str l)=2:=rfl
theorem Zpl  : Zaq (.nilp)=4:=rfl
theorem Zzh (t:Nat) (o:Nat):Zaq (.ref t o)=4:=rfl
theorem Zqx (t:Nat) (g:Nat) (i:Nat) (o:Nat):Zaq (.eref t g i o)=4:=rfl
theorem Zq8 (cs:List AVal) (o:Nat):Zaq (.iptr cs o)=4:=rfl
theorem ZzK (x:Bool) (xs:List AVal):Zaq (.lst x xs)=4:=rfl
theorem ZAR (t:Nat) (g:Nat) (lo:Nat) (n:Nat):Zaq (.sl t g lo n)=4:=rfl
theorem ZoO (cs:List AVal):Zaq (.agg cs)=4:=rfl
theorem ZqX (vs:List AVal):Zaq (.tup vs)=4:=rfl
theorem Zz3 (f:Nat) (caps:List AVal):Zaq (.fn f caps)=4:=rfl
theorem ZuQ  : Zaq (.nilm)=4:=rfl
theorem Zxr (t:Nat):Zaq (.map t)=4:=rfl
theorem ZAo  : Zaq (.nili)=4:=rfl
theorem Zqc (t:Nat) (x:AVal):Zaq (.iface t x)=4:=rfl
theorem ZsX (x:AVal):Zaq (.pan x)=4:=rfl
theorem ZwR  : Z5 (.top)=[]:=rfl
theorem ZwO  : Z5 (.any)=[]:=rfl
theorem Zob (k:IntKind) (n:Int):Z5 (.int k n)=[]:=rfl
theorem Zul (b:Bool):Z5 (.bool b)=[]:=rfl
theorem Zum (l:List UInt8):Z5 (.str l)=[]:=rfl
theorem Zt1  : Z5 (.nilp)=[]:=rfl
theorem Ztl (t:Nat) (o:Nat):Z5 (.ref t o)=[t]:=rfl
theorem Zpv (t:Nat) (g:Nat) (i:Nat) (o:Nat):Z5 (.eref t g i o)=[t]:=rfl
theorem Zqy (cs:List AVal) (o:Nat):Z5 (.iptr cs o)=[]:=rfl
theorem Zs6 (x:Bool) (xs:List AVal):Z5 (.lst x xs)=[]:=rfl
theorem Zwj (t:Nat) (g:Nat) (lo:Nat) (n:Nat):Z5 (.sl t g lo n)=[t]:=rfl
theorem ZzT (cs:List AVal):Z5 (.agg cs)=ZX cs:=rfl
theorem ZpF (vs:List AVal):Z5 (.tup vs)=ZX vs:=rfl
theorem Zs2 (f:Nat) (caps:List AVal):Z5 (.fn f caps)=ZX caps:=rfl
theorem ZpL  : Z5 (.nilm)=[]:=rfl
theorem ZqI (t:Nat):Z5 (.map t)=[t]:=rfl
theorem Zqu  : Z5 (.nili)=[]:=rfl
theorem Zz6 (t:Nat) (x:AVal):Z5 (.iface t x)=Z5 x:=rfl
theorem Zvv (x:AVal):Z5 (.pan x)=Z5 x:=rfl
theorem ZqB  : Zi ρ (.top)=(.top):=rfl
theorem ZrN  : Zi ρ (.any)=(.any):=rfl
theorem Zqp (k:IntKind) (n:Int):Zi ρ (.int k n)=(.int k n):=rfl
theorem ZtK (b:Bool):Zi ρ (.bool b)=(.bool b):=rfl
theorem ZqR (l:List UInt8):Zi ρ (.str l)=(.str l):=rfl
theorem ZAt  : Zi ρ (.nilp)=(.nilp):=rfl
theorem Zsl (cs:List AVal) (o:Nat):Zi ρ (.iptr cs o)=(.iptr cs o):=rfl
theorem Zvk (x:Bool) (xs:List AVal):Zi ρ (.lst x xs)=(.lst x xs):=rfl
theorem ZuO (cs:List AVal):Zi ρ (.agg cs)=.agg (ZW ρ cs):=rfl
theorem Zyb (vs:List AVal):Zi ρ (.tup vs)=.tup (ZW ρ vs):=rfl
theorem ZvG (f:Nat) (caps:List AVal):Zi ρ (.fn f caps)=.fn f (ZW ρ caps):=rfl
theorem ZAe  : Zi ρ (.nilm)=(.nilm):=rfl
theorem ZoZ  : Zi ρ (.nili)=(.nili):=rfl
theorem ZsV (t:Nat) (x:AVal):Zi ρ (.iface t x)=.iface t (Zi ρ x):=rfl
theorem ZqE (x:AVal):Zi ρ (.pan x)=.pan (Zi ρ x):=rfl
theorem Zy6 (f:Nat):ZaG (.fn f [])=true:=rfl
theorem ZqG (f:Nat):Zaz (.fn f [])=true:=rfl
theorem Zqm (t:Nat) (x:AVal):Zbg (.pan (.iface t x))=ZaJ x:=rfl
theorem Zn1 (live:List Nat) (tm:Tms):ZhY live (some (tm,σ,none))=some (.normal,keepL live tm,σ):=rfl
theorem Zps (live:List Nat) (tm:Tms) (x:AVal):ZhY live (some (tm,σ,some x))=some (.panic x,[],σ):=rfl
theorem Zqo (live:List Nat):ZhY live none=none:=rfl
theorem ZvQ (t o:Nat):Zi ρ (.ref t o)=(match ρ t 0 with | some (t',0)=>.ref t' o | _=>.any):=rfl
theorem ZuK (t:Nat):Zi ρ (.map t)=(match ρ t 0 with | some (t',0)=>.map t' | _=>.any):=rfl
theorem Zvo (t g lo n:Nat):Zi ρ (.sl t g lo n)=(match ρ t g with | some (t',g')=>.sl t' g' lo n | none=>.any):=rfl
theorem ZAC (t g i o:Nat):Zi ρ (.eref t g i o)=(match ρ t g with | some (t',g')=>.eref t' g' i o | none=>.any):=rfl
theorem ZwZ:ZX []=[]:=rfl
theorem Zy4 (x:AVal) (xs:List AVal):ZX (x::xs)=Z5 x++ZX xs:=rfl
theorem Zvi:ZW ρ []=[]:=rfl
theorem ZxM (x:AVal) (xs:List AVal):ZW ρ (x::xs)=Zi ρ x::ZW ρ xs:=rfl
end
end
section
mutual
def ZaB:AVal->Bool
 | .ref _ _=>false
 | .eref _ _ _ _=>false
 | .sl _ _ _ _=>false
 | .map _=>false
 | .agg cs=>Zv cs
 | .tup vs=>Zv vs
 | .fn _ vs=>Zv vs
 | .iface _ x=>ZaB x
 | .pan x=>ZaB x
 | .top=>true
 | .any=>true
 | .int _ _=>true
 | .bool _=>true
 | .str _=>true
 | .nilp=>true
 | .nilm=>true
 | .nili=>true
 | .iptr _ _=>true
 | .lst _ _=>true
def Zv:List AVal->Bool
 | []=>true
 | x::xs=>ZaB x && Zv xs
end
mutual
theorem Zgz (ρ:Rho):∀ (x:AVal),ZaB x=true->Zi ρ x=x/\Z5 x=[]
 | .ref _ _,h=>by simp [ZaB] at h
 | .eref _ _ _ _,h=>by simp [ZaB] at h
 | .sl _ _ _ _,h=>by simp [ZaB] at h
 | .map _,h=>by simp [ZaB] at h
 | .agg cs,h=>by have:=Zgp ρ cs (by simpa only [ZaB] using h);exact ⟨by simp only [Zi,this.1],by simp only [Z5,this.2]⟩
 | .tup cs,h=>by have:=Zgp ρ cs (by simpa only [ZaB] using h);exact ⟨by simp only [Zi,this.1],by simp only [Z5,this.2]⟩
 | .fn f cs,h=>by have:=Zgp ρ cs (by simpa only [ZaB] using h);exact ⟨by simp only [Zi,this.1],by simp only [Z5,this.2]⟩
 | .iface t x,h=>by have:=Zgz ρ x (by simpa only [ZaB] using h);exact ⟨by simp only [Zi,this.1],by simp only [Z5,this.2]⟩
 | .pan x,h=>by have:=Zgz ρ x (by simpa only [ZaB] using h);exact ⟨by simp only [Zi,this.1],by simp only [Z5,this.2]⟩
 | .top,_=>⟨rfl,rfl⟩
 | .any,_=>⟨rfl,rfl⟩
 | .int _ _,_=>⟨rfl,rfl⟩
 | .bool _,_=>⟨rfl,rfl⟩
 | .str _,_=>⟨rfl,rfl⟩
 | .nilp,_=>⟨rfl,rfl⟩
 | .nilm,_=>⟨rfl,rfl⟩
 | .nili,_=>⟨rfl,rfl⟩
 | .iptr _ _,_=>⟨rfl,rfl⟩
 | .lst _ _,_=>⟨rfl,rfl⟩
theorem Zgp (ρ:Rho):∀ (xs:List AVal),Zv xs=true->ZW ρ xs=xs/\ZX xs=[]
 | [],_=>⟨rfl,rfl⟩
 | x::xs,h=>by
  simp only [Zv,Xl] at h
  have h1:=Zgz ρ x h.1
  have h2:=Zgp ρ xs h.2
  exact ⟨by simp only [ZW,h1.1,h2.1],by simp only [ZX,h1.2,h2.2,X6]⟩
end
theorem ZnK {σ:Za} {r:AVal} (h:ZaB r=true):ZaD 0 σ r=some (r,[]):=by
 have h1:=Zgz (Zd σ 0 []) r h
 have hids:Zj 0 [r] σ=[]:=by
  unfold Zj
  simp only [ZX,h1.2,X6,List.range_zero,List.flatMap_nil]
  rfl
 unfold ZaD gcA
 simp only [hids,ZW,Zg,h1.1]
def Zce:AVal->AVal
 | .tup vs=>.tup (vs.map Zak)
 | x=>Zak x
def Zb9:AVal->Bool
 | .tup vs=>vs.all Zaz
 | x=>Zaz x
def ZbA:AVal->Bool
 | .fn _ _=>false
 | _=>true
def ZbE:AVal->Bool
 | .agg cs=>cs.all ZbA
 | x=>ZbA x
def Zb6:AVal->Bool
 | .tup vs=>vs.all ZbE
 | x=>ZbE x
theorem Zlp {k g n:Nat} {xs:List AVal} {σ:Za} {t:Nat} (hs:σ[t]?=some (.row g k xs)) (hn:n<=xs.length):Zcz 0 (some (.sl t g 0 n,σ))=some (.lst false (xs.take n),[]):=by
 have hv:viewR σ (.sl t g 0 n)=some (.lst false (xs.take n),[t]):=by
  simp only [viewR,Zar,Zai,Zk,hs,XF,hn,and_self,if_true,List.drop_zero]
 have e:Zcz 0 (some (.sl t g 0 n,σ))=(match viewR σ (.sl t g 0 n) with
  | some (r',ts)=>match gcA 0 [r'] (Zs σ ts) with
   | ([r''],σ')=>some (r'',σ')
   | _=>none
  | none=>none):=rfl
 rw [e,hv]
 exact ZnK rfl
theorem ZyF {m:Nat} {fn:Zax} {tm:Tms} {σ:Za}:ZaR m fn (some (.ret,tm,σ))=match resA tm σ fn.res with
  | some r=>ZaD m σ r
  | none=>none:=rfl
theorem Zyz {m:Nat} {fn:Zax} {tm:Tms} {σ:Za}:ZaR m fn (some (.normal,tm,σ))=match resA tm σ fn.res with
  | some r=>ZaD m σ r
  | none=>none:=rfl
theorem Zy1 {m:Nat} {fn:Zax} {tm:Tms} {σ:Za} {x:AVal}:ZaR m fn (some (.panic x,tm,σ))=ZaD m σ (.pan x):=rfl
theorem Zvz  : ZaB (.top)=true:=rfl
theorem ZrA  : ZaB (.any)=true:=rfl
theorem Ztr (k:IntKind) (n:Int):ZaB (.int k n)=true:=rfl
theorem Zth (b:Bool):ZaB (.bool b)=true:=rfl
theorem ZrF (l:List UInt8):ZaB (.str l)=true:=rfl
theorem Zph  : ZaB (.nilp)=true:=rfl
theorem Zq0 (t:Nat) (o:Nat):ZaB (.ref t o)=false:=rfl
theorem Zyy (t:Nat) (g:Nat) (i:Nat) (o:Nat):ZaB (.eref t g i o)=false:=rfl
theorem ZAj (cs:List AVal) (o:Nat):ZaB (.iptr cs o)=true:=rfl
theorem Zt6 (x:Bool) (xs:List AVal):ZaB (.lst x xs)=true:=rfl
theorem Zuz (t:Nat) (g:Nat) (lo:Nat) (n:Nat):ZaB (.sl t g lo n)=false:=rfl
theorem Zvt (cs:List AVal):ZaB (.agg cs)=Zv cs:=rfl
theorem Zun (vs:List AVal):ZaB (.tup vs)=Zv vs:=rfl
theorem ZyM (f:Nat) (caps:List AVal):ZaB (.fn f caps)=Zv caps:=rfl
theorem Zsh  : ZaB (.nilm)=true:=rfl
theorem ZrZ (t:Nat):ZaB (.map t)=false:=rfl
theorem ZqK  : ZaB (.nili)=true:=rfl
theorem ZAB (t:Nat) (x:AVal):ZaB (.iface t x)=ZaB x:=rfl
theorem Zri (x:AVal):ZaB (.pan x)=ZaB x:=rfl
theorem Zoh  : ZbA (.top)=true:=rfl
theorem ZtN  : ZbA (.any)=true:=rfl
theorem Zsr (k:IntKind) (n:Int):ZbA (.int k n)=true:=rfl
theorem ZzF (b:Bool):ZbA (.bool b)=true:=rfl
theorem ZxZ (l:List UInt8):ZbA (.str l)=true:=rfl
theorem ZuF  : ZbA (.nilp)=true:=rfl
theorem ZrL (t:Nat) (o:Nat):ZbA (.ref t o)=true:=rfl
theorem ZAK (t:Nat) (g:Nat) (i:Nat) (o:Nat):ZbA (.eref t g i o)=true:=rfl
theorem Zt2 (cs:List AVal) (o:Nat):ZbA (.iptr cs o)=true:=rfl
theorem ZpW (x:Bool) (xs:List AVal):ZbA (.lst x xs)=true:=rfl
theorem ZAy (t:Nat) (g:Nat) (lo:Nat) (n:Nat):ZbA (.sl t g lo n)=true:=rfl
theorem Zp5 (cs:List AVal):ZbA (.agg cs)=true:=rfl
theorem Zu2 (vs:List AVal):ZbA (.tup vs)=true:=rfl
theorem Zpb (f:Nat) (caps:List AVal):ZbA (.fn f caps)=false:=rfl
theorem Zwa  : ZbA (.nilm)=true:=rfl
theorem ZoA (t:Nat):ZbA (.map t)=true:=rfl
theorem Zsn  : ZbA (.nili)=true:=rfl
theorem Zsm (t:Nat) (x:AVal):ZbA (.iface t x)=true:=rfl
theorem Zov (x:AVal):ZbA (.pan x)=true:=rfl
theorem Ztk  : ZbE (.top)=true:=rfl
theorem ZwD  : ZbE (.any)=true:=rfl
theorem ZnV (k:IntKind) (n:Int):ZbE (.int k n)=true:=rfl
theorem Zy0 (b:Bool):ZbE (.bool b)=true:=rfl
theorem ZoN (l:List UInt8):ZbE (.str l)=true:=rfl
theorem Zvn  : ZbE (.nilp)=true:=rfl
theorem Zpk (t:Nat) (o:Nat):ZbE (.ref t o)=true:=rfl
theorem ZxS (t:Nat) (g:Nat) (i:Nat) (o:Nat):ZbE (.eref t g i o)=true:=rfl
theorem ZtQ (cs:List AVal) (o:Nat):ZbE (.iptr cs o)=true:=rfl
theorem Zv1 (x:Bool) (xs:List AVal):ZbE (.lst x xs)=true:=rfl
theorem ZvL (t:Nat) (g:Nat) (lo:Nat) (n:Nat):ZbE (.sl t g lo n)=true:=rfl
theorem ZzQ (cs:List AVal):ZbE (.agg cs)=cs.all ZbA:=rfl
theorem Zss (vs:List AVal):ZbE (.tup vs)=true:=rfl
theorem ZrI (f:Nat) (caps:List AVal):ZbE (.fn f caps)=false:=rfl
theorem ZxP  : ZbE (.nilm)=true:=rfl
theorem ZsI (t:Nat):ZbE (.map t)=true:=rfl
theorem ZyG  : ZbE (.nili)=true:=rfl
theorem Zrr (t:Nat) (x:AVal):ZbE (.iface t x)=true:=rfl
theorem Zs4 (x:AVal):ZbE (.pan x)=true:=rfl
theorem ZtY  : Zb6 (.top)=true:=rfl
theorem ZxT  : Zb6 (.any)=true:=rfl
theorem ZyY (k:IntKind) (n:Int):Zb6 (.int k n)=true:=rfl
theorem ZvO (b:Bool):Zb6 (.bool b)=true:=rfl
theorem ZoX (l:List UInt8):Zb6 (.str l)=true:=rfl
theorem Zw7  : Zb6 (.nilp)=true:=rfl
theorem ZxC (t:Nat) (o:Nat):Zb6 (.ref t o)=true:=rfl
theorem ZwM (t:Nat) (g:Nat) (i:Nat) (o:Nat):Zb6 (.eref t g i o)=true:=rfl
theorem Zr4 (cs:List AVal) (o:Nat):Zb6 (.iptr cs o)=true:=rfl
theorem Zro (x:Bool) (xs:List AVal):Zb6 (.lst x xs)=true:=rfl
theorem ZvY (t:Nat) (g:Nat) (lo:Nat) (n:Nat):Zb6 (.sl t g lo n)=true:=rfl
theorem Zoe (cs:List AVal):Zb6 (.agg cs)=cs.all ZbA:=rfl
theorem ZvH (vs:List AVal):Zb6 (.tup vs)=vs.all ZbE:=rfl
theorem ZpG (f:Nat) (caps:List AVal):Zb6 (.fn f caps)=false:=rfl
theorem ZoR  : Zb6 (.nilm)=true:=rfl
theorem ZsY (t:Nat):Zb6 (.map t)=true:=rfl
theorem Zwn  : Zb6 (.nili)=true:=rfl
theorem ZvD (t:Nat) (x:AVal):Zb6 (.iface t x)=true:=rfl
theorem ZtM (x:AVal):Zb6 (.pan x)=true:=rfl
theorem Zwy  : Zb9 (.top)=false:=rfl
theorem ZwJ  : Zb9 (.any)=false:=rfl
theorem ZxF (k:IntKind) (n:Int):Zb9 (.int k n)=true:=rfl
theorem Zre (b:Bool):Zb9 (.bool b)=true:=rfl
theorem ZtB (l:List UInt8):Zb9 (.str l)=true:=rfl
theorem Zyf  : Zb9 (.nilp)=true:=rfl
theorem ZzL (t:Nat) (o:Nat):Zb9 (.ref t o)=false:=rfl
theorem ZoE (t:Nat) (g:Nat) (i:Nat) (o:Nat):Zb9 (.eref t g i o)=false:=rfl
theorem Zpi (cs:List AVal) (o:Nat):Zb9 (.iptr cs o)=false:=rfl
theorem ZtE (x:Bool) (xs:List AVal):Zb9 (.lst x xs)=true:=rfl
theorem Zxc (t:Nat) (g:Nat) (lo:Nat) (n:Nat):Zb9 (.sl t g lo n)=false:=rfl
theorem ZAG (cs:List AVal):Zb9 (.agg cs)=cs.all ZaG:=rfl
theorem Zx3 (vs:List AVal):Zb9 (.tup vs)=vs.all Zaz:=rfl
theorem ZwL  : Zb9 (.nilm)=true:=rfl
theorem Zwx (t:Nat):Zb9 (.map t)=false:=rfl
theorem ZpK  : Zb9 (.nili)=true:=rfl
theorem ZvZ (t:Nat) (x:AVal):Zb9 (.iface t x)=false:=rfl
theorem Zzj (x:AVal):Zb9 (.pan x)=false:=rfl
theorem Zrb  : Zce (.top)=(.top):=rfl
theorem Zud  : Zce (.any)=(.any):=rfl
theorem Zsg (k:IntKind) (n:Int):Zce (.int k n)=(.int k n):=rfl
theorem Zuc (b:Bool):Zce (.bool b)=(.bool b):=rfl
theorem Zn3 (l:List UInt8):Zce (.str l)=(.str l):=rfl
theorem ZAv  : Zce (.nilp)=(.nilp):=rfl
theorem ZpZ (t:Nat) (o:Nat):Zce (.ref t o)=(.ref t o):=rfl
theorem ZoM (t:Nat) (g:Nat) (i:Nat) (o:Nat):Zce (.eref t g i o)=(.eref t g i o):=rfl
theorem Zvl (cs:List AVal) (o:Nat):Zce (.iptr cs o)=(.iptr cs o):=rfl
theorem Zrx (x:Bool) (xs:List AVal):Zce (.lst x xs)=.lst false xs:=rfl
theorem ZxQ (t:Nat) (g:Nat) (lo:Nat) (n:Nat):Zce (.sl t g lo n)=(.sl t g lo n):=rfl
theorem Zo5 (cs:List AVal):Zce (.agg cs)=.agg (cs.map ZaH):=rfl
theorem Zsw (vs:List AVal):Zce (.tup vs)=.tup (vs.map Zak):=rfl
theorem ZrX (f:Nat) (caps:List AVal):Zce (.fn f caps)=(.fn f caps):=rfl
theorem Zyw  : Zce (.nilm)=(.nilm):=rfl
theorem Zqq (t:Nat):Zce (.map t)=(.map t):=rfl
theorem Zo4  : Zce (.nili)=(.nili):=rfl
theorem ZnW (t:Nat) (x:AVal):Zce (.iface t x)=(.iface t x):=rfl
theorem Zp2 (x:AVal):Zce (.pan x)=(.pan x):=rfl
theorem Zw4:Zv []=true:=rfl
theorem ZuD (x:AVal) (xs:List AVal):Zv (x::xs)=(ZaB x && Zv xs):=rfl
theorem Zxb (f:Nat):Zb9 (.fn f [])=true:=rfl
theorem ZzZ (p q:Bool):(if p=true then q else false)=(p && q):=by cases p <;> rfl
theorem Zuw (p q:Bool):(if p=true then true else q)=(p || q):=by cases p <;> rfl
theorem ZqL (p q:Bool):(if p=true then false else q)=(!p && q):=by cases p <;> rfl
theorem Zu8 (p q:Bool):(if p=true then q else true)=(!p || q):=by cases p <;> rfl
theorem Ztw (p q:Bool):(if p=false then q else false)=(!p && q):=by cases p <;> rfl
theorem Ztd (p q:Bool):(if p=false then true else q)=(!p || q):=by cases p <;> rfl
theorem Zwb (p q:Bool):(if p=false then false else q)=(p && q):=by cases p <;> rfl
theorem ZrJ (p q:Bool):(if p=false then q else true)=(p || q):=by cases p <;> rfl
section
def ZdS (o:AOp):AOp:=⟨o.dst,o.ins,o.guard,[]⟩
def ZbZ:Zq->Zq
 | .region ops chk live=>.region (ops.map ZdS) chk live
 | .seq a b=>.seq (ZbZ a) (ZbZ b)
 | .cond c a b=>.cond c (ZbZ a) (ZbZ b)
 | .block id c=>.block id (ZbZ c)
 | .loop live c=>.loop live (ZbZ c)
 | .skip=>.skip
 | .exit id=>.exit id
 | .ret=>.ret
 | .stuck=>.stuck
def Zhn (f:Zax):Zax:=⟨f.res,ZbZ f.body⟩
section
variable {O:ZZ} {bf:Nat->Bool}
theorem Zon (o:AOp) (s:Nat) (tm:Tms) (σ:Za):Zu O bf (ZdS o) s tm σ=Zu O bf o s tm σ:=rfl
theorem Zk7:∀ (ops:List AOp) (s:Nat) (tm:Tms) (σ:Za),ZY O bf (ops.map ZdS) s tm σ=ZY O bf ops s tm σ
 | [],_,_,_=>rfl
 | o::os,s,tm,σ=>by
  simp only [Xu,ZY,Zon]
  split
  ·rfl
  ·rfl
  ·rename_i tm' σ' c _ _
   rw [show (ZdS o).ins=o.ins from rfl,Zk7 os]
theorem Zki (ops:List AOp):sitesOf (ops.map ZdS)=sitesOf ops:=by
 simp [sitesOf,ZdS,Function.comp_def]
theorem ZhG (ops:List AOp) (i:Nat):((ops.map ZdS).getD i default).ins=(ops.getD i default).ins:=by
 simp only [Xj,XX]
 cases ops[i]? <;> rfl
theorem ZAd (ops:List AOp) (b:Nat) (l:List (Nat×Nat)) (cs:List Cls):Zc4 (ops.map ZdS) b l cs=Zc4 ops b l cs:=by
 unfold Zc4
 congr 1
 funext p
 unfold Zcn Zcd
 rw [ZhG,ZhG,<-Xa0,Zki]
theorem ZyD (ops:List AOp) (b:Nat) (l:List (Nat×Nat)) (cs:List Cls):ZaI (ops.map ZdS) b l cs=ZaI ops b l cs:=by
 unfold ZaI
 congr 2
 funext p
 unfold Zcn Zcd
 rw [ZhG,ZhG,<-Xa0,Zki]
theorem Zw6 (ops:List AOp) (chk:Option (List (Nat×Nat))) (live:List Nat) (tm:Tms) (σ:Za):ZbW O bf (ops.map ZdS) chk live tm σ=ZbW O bf ops chk live tm σ:=by
 unfold ZbW
 rw [Zk7,Zki]
 cases ZY O bf ops σ.length tm (σ++XO (sitesOf ops) .free) with
 | none=>rfl
 | some q =>
  obtain ⟨tm',σ',cs,p⟩:=q
  cases p with
  | some x =>
   cases chk with
   | none=>rfl
   | some l=>simp only [ZcM,ZyD]
  | none =>
   cases chk with
   | none=>rfl
   | some l=>simp only [ZcM,ZAd]
theorem Zdy (m n:Nat):∀ (c:Zq),Z1 O bf m n (ZbZ c)=Z1 O bf m n c
 | .region ops chk live=>by funext tm σ;simp only [ZbZ,Z1,Zw6]
 | .seq a b=>by funext tm σ;simp only [ZbZ,Z1,Zdy m n a,Zdy m n b]
 | .cond c a b=>by funext tm σ;simp only [ZbZ,Z1,Zdy m n a,Zdy m n b]
 | .block id c=>by funext tm σ;simp only [ZbZ,Z1,Zdy m n c]
 | .loop live c=>by funext tm σ;simp only [ZbZ,Z1,Zdy m n c]
 | .skip=>rfl
 | .exit id=>rfl
 | .ret=>rfl
 | .stuck=>rfl
end
theorem Zkw (fs:Nat->Option Zax) (prim:Zb1) (bf:Nat->Bool):∀ n,Zac (fun f=>(fs f).map Zhn) prim bf n=Zac fs prim bf n
 | 0=>rfl
 | n+1=>by
  funext f args σ
  simp only [Zac,Zkw fs prim bf n]
  cases prim f with
  | some g=>rfl
  | none =>
   cases fs f with
   | none=>rfl
   | some fn =>
    simp only [XU,Zhn,Zdy]
    rfl
theorem Zzl (fs:Nat->Option Zax) (prim:Zb1) (bf:Nat->Bool):EV (fun f=>(fs f).map Zhn) prim bf=EV fs prim bf:=by
 funext f args σ
 apply ZdV
 intro r
 rw [ZcH,ZcH]
 simp only [Zkw]
end
end
section
open Go.RowKit
def ZjB:List AVal->Za->Option (AVal×Za):=fun _ _=>none
theorem ZxG {α:Prop} {args:List AVal} {σ:Za} {r:AVal×Za} (h:ZjB args σ=some r):α:=by cases h
def ZeH (k bytes:Nat) (args:List AVal) (σ:Za):Option (AVal×Za):=match args with
 | [.str _]=>none
 | [a]=>match Zk σ a with
  | some (xs,_)=>if xs.length*bytes<=140737488355328/\kOk k xs=true then some (.sl σ.length 0 0 xs.length,σ++[.row 0 k xs]) else none
  | none=>none
 | _=>none
def ZdN:Ann:={ nt:=8,lr:=fun _=>[7,6,5,4,3,2,0] }
structure Zj5 (P:Program) (t:TypeId) (k bytes:Nat) (z:AVal) (f:FuncId):Prop where
 ex:∃ (F:Func) (e:TypeId) (i0 i1 i2 i3:Nat) (r0 r2 r3:Array Oper) (m b:Oper),
  P.funcs[f]?=some F/\F.results=#[.tmp 2]/\F.ntmps=8/\(F.name == "runtime.NumGoroutine")=false/\P.underlying t=some (.slice e) /\
  F.body=some (.seq (.region i0 r0 false) (.seq (.seq (.region i1 #[m,b] false) (.cond (.tmp 4) (.seq (.region i2 r2 false) .ret) .skip)) (.seq (.region i3 r3 false) .ret))) /\
  m.op=.move (.tmp 0)/\m.dst=some 3/\m.guard=none/\b.op=.binOp .eql t (.tmp 3) (.const (.slice none 0 0)) t/\b.dst=some 4/\b.guard=none /\
  Zb5 P ZdN r0 r0.toList=some [⟨some 2,.mov (.c (.lst true [])),none,[]⟩] /\
  Zb5 P ZdN r2 r2.toList=some [⟨some 2,.mov (.c (.lst true [])),none,[]⟩] /\
  (∃ a1 a2 a3 a4,Zb5 P ZdN r3 r3.toList=some [⟨some 5,.bslice false k 0 z [],none,a1⟩,⟨some 6,.mov (.t 0),none,a2⟩,⟨some 7,.app k bytes z (.t 5) (.t 6),none,a3⟩,⟨some 2,.mov (.t 7),none,a4⟩])/\z.cells.length=k/\0 < k
section
variable {P:Program} {base:Nat->Prop} {w0 w w':World} {I0 I:Imm} {β:Bmap} {σ:Za}
theorem noO:Zad P (fun _ _ _=>none):=by intro f args σ r σ' h;cases h
theorem Zfs {ops:Array Oper} {Q:Exit->Act->World->Prop} {o:Oper} {l:List Oper} {a:Act} {w:World} (hg:o.guard=none) (h:o.wp P a w (wpList P ops Q l) Q):wpList P ops Q (o::l) a w:=by
 unfold wpList
 have : Region.wanted o (yielded ops a.tmps)=true:=by unfold Region.wanted;rw [hg]
 rw [this]
 simp only [if_true]
 exact Xw h
theorem Zm5 {t : TypeId} {k bytes : Nat} {z : AVal} {f : FuncId} (hm : P.follows .mixedOrders = true) (C : Zj5 P t k bytes z f) {args : List AVal} {σ σ' : Za} {r : AVal} (h : ZeH k bytes args σ = some (r, σ')) :
    (∃ fn, P.funcs[f]? = some fn /\ fn.body.isSome = true /\ (fn.name == "runtime.NumGoroutine") = false) /\
    ∀ base w0 I0 I β w (vs : Array Value), KLt base w0 -> Rel base w0 I0 I β σ w -> VRs I β args vs.toList ->
      Calls P f vs w (fun e w' => ∃ u, Ends r e u /\ ZbG σ.length base w0 I0 I β r σ' u w') := by
  obtain ⟨F, e, i0, i1, i2, i3, r0, r2, r3, m, b, hF, hres, hnt, hname, hu, hbody, hm1, hm2, hm3, hb1, hb2, hb3, hc0, hc2, ⟨a1, a2, a3, a4, hc3⟩, hzk, hk0⟩ := C.ex
  refine ⟨⟨F, hF, by rw [hbody]; rfl, hname⟩, ?_⟩
  intro base w0 I0 I β w vs hb R hargs
  unfold ZeH at h
  split at h
  case h_1 => cases h
  case h_3 => cases h
  rename_i a hns
  split at h
  case h_2 => cases h
  rename_i xs ts hel0
  split at h
  case isFalse => cases h
  rename_i hc
  obtain ⟨hbytes, hkOk⟩ := hc
  simp only [Xa, Xb] at h
  obtain ⟨rfl, rfl⟩ := h
  have hnt8 : ∀ (n : Nat), n < 8 -> n < ZdN.nt := fun n h => h
  refine calls_of_wp hF hbody ?_
  have hsz : vs.size = 1 := by have := Zaa hargs; simpa using this.symm
  have T := Zjx hargs (F.ntmps - vs.size)
  have hst : StR Za0 8 base w0 I0 I β (enterA 0 [a] []) σ { tmps := vs ++ Xar (F.ntmps - vs.size) undef, defers := [] } w := ⟨I, β, Imm.le.refl I, Bmap.le.refl β, T, ⟨Zdw.2 rfl, by simp; omega⟩, R⟩
  have fin : ∀ {tm : Tms} {σ1 : Za} {y : AVal} {a' : Act} {w1 : World}, StR Za0 8 base w0 I0 I β tm σ1 a' w1 -> tget tm 2 = y -> (∀ I' β' u, I.le I' -> β.le β' -> Rel base w0 I0 I' β' σ1 w1 -> VR I' β' y u -> ZbG σ.length base w0 I0 I β (.sl σ.length 0 0 xs.length) (σ ++ [.row 0 k xs]) u w1) ->
      a'.defers = [] /\ ∃ v, (results F a'.tmps).run P w1 = .ok v w1 /\ ∃ u, Ends (.sl σ.length 0 0 xs.length) (.returned v) u /\ ZbG σ.length base w0 I0 I β (.sl σ.length 0 0 xs.length) (σ ++ [.row 0 k xs]) u w1 := by
    rintro tm σ1 y a' w1 ⟨I', β', h1, h2, h3, h4, h5⟩ hy hpost
    refine ⟨Zdw.1 h4.1, a'.tmps.getD 2 undef, by simp [results, hres], _, rfl, ?_⟩
    have := h3 2
    rw [hy] at this
    exact hpost I' β' _ h1 h2 h5 this
  have R0 : Zah P ZdN (.region i0 r0 false) = .region [⟨some 2, .mov (.c (.lst true [])), none, []⟩] none [7, 6, 5, 4, 3, 2, 0] := by simp only [Zah]; rw [hc0]; rfl
  have R2 : Zah P ZdN (.region i2 r2 false) = .region [⟨some 2, .mov (.c (.lst true [])), none, []⟩] none [7, 6, 5, 4, 3, 2, 0] := by simp only [Zah]; rw [hc2]; rfl
  have R3 : Zah P ZdN (.region i3 r3 false) = .region [⟨some 5, .bslice false k 0 z [], none, a1⟩, ⟨some 6, .mov (.t 0), none, a2⟩, ⟨some 7, .app k bytes z (.t 5) (.t 6), none, a3⟩, ⟨some 2, .mov (.t 7), none, a4⟩] none [7, 6, 5, 4, 3, 2, 0] := by simp only [Zah]; rw [hc3]; rfl
  refine wp_seq ?_
  refine ZhW (an := ZdN) (dr := Za0) (bf := fun _ => false) noO (fun n hn => by simp [Za0] at hn) hm hb R0 hst (e := .normal) (tm' := keepL [7, 6, 5, 4, 3, 2, 0] [(2, .lst true []), (0, a)]) (σ' := σ) ?_ ?_
  . simp [ZbW, ZcM, sitesOf, nsite, ZY, Zu, Za3, execI, Opd.ev, tput, tins, enterA]
  intro a1' w1 hst1
  simp only [Exit.then]
  refine wp_seq (wp_seq ?_)
  refine wp_region_list ?_
  refine Zfs hm3 ?_
  obtain ⟨I1, β1, g1, g2, g3, g4, g5⟩ := hst1
  have hs8 : 8 <= a1'.tmps.size := g4.2
  have hT0 : VR I1 β1 a (a1'.tmps.getD 0 undef) := by have := g3 0; simpa [keepL, tget] using this
  obtain ⟨A, cap, hv0, q1, q2, q5, q4⟩ := ZiD g5 (fun l e => hns l e) hel0 hT0
  show m.wp P a1' w1 _ _
  unfold Oper.wp
  have e1 : (execOp a1'.eval m).run P w1 = .ok (.value (.slice A xs.length cap)) w1 := by
    unfold execOp; rw [hm1]; simp [Act.eval, hv0]
  rw [e1, Oper.upon_value, hm2]
  refine Zfs hb3 ?_
  unfold Oper.wp
  have hs3 : (a1'.put (some 3) (.slice A xs.length cap)).tmps.getD 3 undef = .slice A xs.length cap := by
    have : 3 < a1'.tmps.size := by omega
    simp [Act.put, Xat, this]
  have e2 : (execOp (a1'.put (some 3) (.slice A xs.length cap)).eval b).run P w1 = .ok (.value (.bool A.isNone)) w1 := by
    have hq : (Op.equal t (.slice A xs.length cap) (.slice none 0 0)).run P w1 = .ok A.isNone w1 := run_equal_slice_nil w1 t e A xs.length cap hu
    unfold execOp; rw [hb1]
    simp only [Act.eval]
    rw [hs3]
    simp [eqGuard, binOp, hq]
  rw [e2, Oper.upon_value, hb2]
  refine wpList_nil ?_
  have hst2 : StR Za0 8 base w0 I0 I β [(4, .bool A.isNone), (2, .lst true []), (0, a)] σ ((a1'.put (some 3) (.slice A xs.length cap)).put (some 4) (.bool A.isNone)) w1 := by
    refine ⟨I1, β1, g1, g2, fun n => ?_, ⟨Zg1 (Zg1 g4.1 (fun n _ hm => by simp [Za0] at hm)) (fun n _ hm => by simp [Za0] at hm), by rw [Zdc, Zdc]; exact g4.2⟩, g5⟩
    have hs : 4 < (a1'.put (some 3) (.slice A xs.length cap)).tmps.size := by rw [Zdc]; omega
    have ne : ∀ {a : Act} {d j : Nat} {u : Value}, d ≠ j -> (a.put (some d) u).tmps.getD j undef = a.tmps.getD j undef := by
      intro a d j u hne
      simp only [Act.put, WE]; rw [We hne]
    simp only [tget]
    split
    . rename_i e; subst e
      rw [show ((a1'.put (some 3) (.slice A xs.length cap)).put (some 4) (.bool A.isNone)).tmps.getD 4 undef = .bool A.isNone by
        simp only [Act.put] at hs ⊢
        simp [Xat] at hs ⊢
        omega]
      simp only [VR]
    . split
      . rename_i e; subst e
        rw [ne (by omega), ne (by omega)]
        have := g3 2; simpa [keepL, tget] using this
      . split
        . rename_i e; subst e
          rw [ne (by omega), ne (by omega)]
          have := g3 0; simpa [keepL, tget] using this
        . simp only [VR]
  simp only [Exit.then]
  cases hA : A.isNone with
  | true =>
    have hx0 : xs = [] := by
      rcases q4 with h | ⟨b, off, k', us, e, _⟩
      . exact h
      . rw [e] at hA; cases hA
    subst hx0
    have hev : ((a1'.put (some 3) (.slice A 0 cap)).put (some 4) (.bool A.isNone)).eval (.tmp 4) = .bool true := by
      obtain ⟨_, _, _, _, T, _, _⟩ := hst2
      have := T 4
      simp only [tget, if_true, VR] at this
      rw [hA] at this
      simpa [Act.eval, hA] using this
    refine wp_cond_true (by simpa [hA] using hev) ?_
    refine wp_seq ?_
    rw [hA] at hst2
    refine ZhW (an := ZdN) (dr := Za0) (bf := fun _ => false) noO (fun n hn => by simp [Za0] at hn) hm hb R2 hst2 (e := .normal) (tm' := keepL [7, 6, 5, 4, 3, 2, 0] [(4, .bool true), (2, .lst true []), (0, a)]) (σ' := σ) ?_ ?_
    . simp [ZbW, ZcM, sitesOf, nsite, ZY, Zu, Za3, execI, Opd.ev, tput, tins]
    intro a3' w3 hst3
    simp only [Exit.then]
    refine wp_ret ?_
    refine fin hst3 (y := .lst true []) (by simp [keepL, tget]) ?_
    intro I' β' u h1 h2 h3 h4
    simp only [VR] at h4
    obtain ⟨A', cap', rfl, _, _, hx, _⟩ := h4
    have hcap : cap' = 0 := by simpa using hx
    subst hcap
    have R4 := h3.reserve 1
    have hfree : (σ ++ XO 1 ZV.free)[σ.length]? = some .free := by simp
    obtain ⟨R5, hle⟩ := R4.newNone hfree k hk0
    refine ⟨I', _, h1, KeptE.of_le (h2.trans hle), ?_, ?_⟩
    . have : (σ ++ XO 1 ZV.free).set σ.length (.row 0 k []) = σ ++ [.row 0 k []] := by simp
      rw [this] at R5; exact R5
    . simp only [Zam]
      rw [Zcb]
      exact ⟨_, Bmap.put_same β' σ.length 0 _, by simp, by simp, XE ⟨rfl, rfl, A', rfl⟩⟩
  | false =>
    have hev : ((a1'.put (some 3) (.slice A xs.length cap)).put (some 4) (.bool A.isNone)).eval (.tmp 4) = .bool false := by
      obtain ⟨_, _, _, _, T, _, _⟩ := hst2
      have := T 4
      simp only [tget, if_true, VR] at this
      rw [hA] at this
      simpa [Act.eval, hA] using this
    refine wp_cond_false (by simpa [hA] using hev) ?_
    refine wp_skip ?_
    rw [hA] at hst2
    simp only [Exit.then]
    refine wp_seq ?_
    have hel : Zk (σ ++ [ZV.free]) a = some (xs, ts) := ZeW hel0 (fun t ht => by
      obtain ⟨g, k, ys, h | h⟩ := ZhZ hel0 t ht <;> (rw [Wx (Xd.1 h).1]))
    refine ZhW (an := ZdN) (dr := Za0) (bf := fun _ => false) noO (fun n hn => by simp [Za0] at hn) hm hb R3 hst2 (e := .normal) (tm' := keepL [7, 6, 5, 4, 3, 2, 0] [(7, .sl σ.length 0 0 xs.length), (6, a), (5, .lst true []), (4, .bool false), (2, .sl σ.length 0 0 xs.length), (0, a)]) (σ' := σ ++ [.row 0 k xs]) ?_ ?_
    . have hfa : freeAt (σ ++ [ZV.free]) σ.length = true := by simp [freeAt]
      have hnp : (∃ x ys, a = .lst x ys) \/ ∃ t g lo n, a = .sl t g lo n := by
        cases a with
        | lst x ys => exact Xw ⟨x, ys, rfl⟩
        | sl t g lo n => exact XE ⟨t, g, lo, n, rfl⟩
        | str l => exact absurd rfl (hns l)
        | _ => simp [Zk] at hel0
      rcases hnp with ⟨x, ys, rfl⟩ | ⟨t', g', lo, n, rfl⟩
      . simp [ZbW, ZcM, sitesOf, nsite, ZY, Zu, Za3, execI, Opd.ev, tput, tins, tget, viewAs, Zs, hzk, Zae, hel, hkOk, hbytes, hfa]
      . simp [ZbW, ZcM, sitesOf, nsite, ZY, Zu, Za3, execI, Opd.ev, tput, tins, tget, viewAs, Zs, hzk, Zae, hel, hkOk, hbytes, hfa]
    intro a3' w3 hst3
    simp only [Exit.then]
    refine wp_ret ?_
    refine fin hst3 (y := .sl σ.length 0 0 xs.length) (by simp [keepL, tget]) ?_
    intro I' β' u h1 h2 h3 h4
    exact ⟨I', β', h1, KeptE.of_le h2, h3, h4⟩
end
end
section
open Go.RowKit
structure ZAU (P:Program) (f h:FuncId) (ti tc:TypeId) (an1 an2 an3:Ann) (c1 c2 c3:Zq) (rs:List ZcC):Prop where
 ex:∃ (F H:Func) (b1 b2 b3 b4:Code) (i0 j0 j1 j2 j3 bid:Nat) (t1 t2 t3 t4 t5 t6 t7 t8:TypeId) (p1 p2 p3 p4 p5 p6 p7 p8:String) (a1 a2 a3 a4 a5 a6 a7 a8:Array Edge) (at1 at2:Array TypeId) (ims:Array (String×TypeId)) (k:IntKind),
  P.funcs[f]?=some F/\(F.name == "runtime.NumGoroutine")=false/\F.ntmps=20/\ZdI P F.results.toList=some rs /\
  F.body=some (.seq b1 (.seq (.region i0 #[⟨some 5,.makeFunc (.func h) #[] #[.tmp 2,.tmp 3],t1,p1,a1,none⟩,⟨none,.defer ⟨.value (.tmp 5),#[],at1⟩,t2,p2,a2,none⟩] false) b2)) /\
  ZbZ (Zah P an1 b1)=c1/\ZbZ (Zah P an2 b2)=c2/\an1.nt=20/\an2.nt=20/\an2.keep=[2,3] /\
  P.funcs[h]?=some H/\(H.name == "runtime.NumGoroutine")=false/\H.ntmps=13/\H.results=#[] /\
  H.body=some (.seq (.region j0 #[⟨some 5,.call ⟨.builtin .recover,#[],at2⟩,t3,p3,a3,none⟩] false) (.block bid (.seq (.region j1 #[⟨some 7,.binOp .eql ti (.tmp 5) (.const .nilIface) ti,t4,p4,a4,none⟩] false)
   (.cond (.tmp 7) (.region j2 #[⟨some 2,.assign (.tmp 5),t5,p5,a5,none⟩] false)
    (.seq (.region j3 #[⟨some 8,.typeAssert (.tmp 5) ti tc true,t6,p6,a6,none⟩,⟨some 9,.extract (.tmp 8) 1,t7,p7,a7,none⟩,⟨some 10,.extract (.tmp 8) 0,t8,p8,a8,none⟩] false)
     (.cond (.tmp 9) b3 b4)))))) /\
  ZbZ (Zah P an3 b3)=c3/\an3.nt=13/\P.underlying ti=some (.interface ims)/\P.underlying tc=some (.int k)
section
variable {P:Program} {O:ZZ} {bf:Nat->Bool} {base:Nat->Prop} {w0 w:World} {I0 I:Imm} {β:Bmap} {σ:Za}
theorem pgs {a:Act} {d:Nat} {u:Value} (h:d < a.tmps.size):(a.put (some d) u).tmps.getD d undef=u:=by
 simp [Act.put,Xat,h]
theorem ZhS {m:Sem Value} {u:Value} (h:m.run P w=.ok u w):(do let q <-m;pure (Next.value q):Sem Next).run P w=.ok (.value u) w:=by
 rw [Sem.run_bind,h];rfl
theorem pgn {a:Act} {d j:Nat} {u:Value} (h:d≠j):(a.put (some d) u).tmps.getD j undef=a.tmps.getD j undef:=by
 simp only [Act.put,WE]
 rw [We h]
end
section
variable {P:Program} {fs:Nat->Option Zax} {prim:Zb1} {bf:Nat->Bool}
end
section
variable {fs:Nat->Option Zax} {p p':Zb1} {bf:Nat->Bool}
theorem Zm4 (h0:∀ f,p f=none->p' f=none) (h1:∀ f g,p f=some g->p' f=some g\/∀ a σ,g a σ=none):∀ n,OLe (Zac fs p bf n) (Zac fs p' bf n)
 | 0=>by intro f a σ r h;simp only [Zac] at h;cases h
 | n+1=>by
  intro f a σ r h
  rw [Zac] at h ⊢
  split at h
  ·rename_i g hg
   rcases h1 f g hg with h2 | h2
   ·rw [h2];exact h
   ·rw [h2] at h;cases h
  ·rename_i hg
   rw [h0 f hg]
   split at h
   ·cases h
   ·rename_i fn hfn
    exact ZhD (fun q hq=>Zdn (Zm4 h0 h1 n) (XR n) hq) h
theorem ZpD (h0:∀ f,p f=none->p' f=none) (h1:∀ f g,p f=some g->p' f=some g\/∀ a σ,g a σ=none):OLe (EV fs p bf) (EV fs p' bf):=by
 intro f a σ r h
 obtain ⟨n,hn⟩:=ZcH.1 h
 exact ZcH.2 ⟨n,Zm4 h0 h1 n f a σ r hn⟩
end
end
section
open Go.RowKit
theorem ZnQ:∀ (js L:List Nat),js.Nodup->(∀ j ∈ js,j ∈ L)->L.Nodup->∃ rest,L.Perm (js++rest)
 | [],L,_,_,_=>⟨L,List.Perm.refl _⟩
 | j::js,L,hn,hs,hL=>by
  have hj:j ∈ L:=hs j (by simp)
  have hp:L.Perm (j::L.erase j):=List.perm_cons_erase hj
  obtain ⟨rest,hr⟩:=ZnQ js (L.erase j) (Wi.1 hn).2 (fun k hk=>by
   have hne:k≠j:=by rintro rfl;exact (Wi.1 hn).1 hk
   exact (List.mem_erase_of_ne hne).2 (hs k (by simp [hk]))) (hL.erase j)
  exact ⟨rest,hp.trans (by simpa using List.Perm.cons j hr)⟩
theorem Zzp {α:Type} (es:List α) (d:α):(WJ es.length).map (es.getD · d)=es:=by
 apply List.ext_getElem?
 intro i
 rw [XX]
 by_cases h:i < es.length
 ·rw [List.getElem?_range h];simp [Xj,h]
 ·rw [XV (by simpa using h),XV (by omega)];rfl
def ZeE (bf:Nat->Bool) (asl:List AOp) (tm:Tms) (σ:Za):Option (Tms×Za):=match ZY (fun _ _ _=>none) bf asl σ.length tm σ with
 | some (tm',σ',_,none)=>some (tm',σ')
 | _=>none
def Zej (m:Nat):AVal->Bool
 | .int _ _ | .bool _ | .str _ | .nilp | .nilm | .nili | .lst _ _=>true
 | .sl t g _ _=>decide (g=0) && decide (t < m)
 | .ref t _=>decide (t < m)
 | .map t=>decide (t < m)
 | _=>false
def Zg3 (m:Nat):AVal->Bool
 | .agg cs=>cs.all (Zej m)
 | x=>Zej m x
@[simp] def ZdM:Za->Za->Bool
 | _,[]=>true
 | [],b::r=>!ZdH b && ZdM [] r
 | a::s,b::r=>(!ZdH b || ZdH a) && ZdM s r
theorem Zi2:∀ {σ σ':Za} {u:Nat} {b:ZV},ZdM σ σ'=true->σ'[u]?=some b->ZdH b=true->∃ a,σ[u]?=some a/\ZdH a=true
 | _,[],u,b,_,h,_=>by simp at h
 | [],x::r,u,b,h,hu,hb=>by
  simp only [ZdM,Xl,Wy] at h
  cases u with
  | zero =>
   simp only [XI,Xa] at hu
   subst hu
   rw [h.1] at hb;cases hb
  | succ u =>
   obtain ⟨a,h1,_⟩:=Zi2 h.2 (by simpa using hu) hb
   simp at h1
 | a::s,x::r,u,b,h,hu,hb=>by
  simp only [ZdM,Xl,Wv,Wy] at h
  cases u with
  | zero =>
   simp only [XI,Xa] at hu
   subst hu
   rcases h.1 with h1 | h1
   ·rw [h1] at hb;cases hb
   ·exact ⟨a,rfl,h1⟩
  | succ u =>
   obtain ⟨a',h1,h2⟩:=Zi2 h.2 (by simpa using hu) hb
   exact ⟨a',by simpa using h1,h2⟩
section
variable (fs:Nat->Option Zax) (prim:Zb1) (bf:Nat->Bool) (m:Nat) (live:List Nat) (ms en b1:Nat) (aslE:List AOp) (c2 c3:Zq) (rs:List ZcC)
open Classical in
noncomputable def Zem (es : List (AVal × AVal)) (kv : AVal × AVal) (tm : Tms) (σ : Za) : Option (Tms × Za) :=
  match tget (gcT m (keepL live tm) σ).1 ms with
  | .map t => if (gcT m (keepL live tm) σ).2[t]? = some (.map es) /\ (∀ p ∈ es, Zg3 (gcT m (keepL live tm) σ).2.length p.2 = true) then
      match ZeE bf aslE (tput (gcT m (keepL live tm) σ).1 (some en) (.tup [kv.1, kv.2])) ((gcT m (keepL live tm) σ).2.set t (.rmap es)) with
      | some (tm1, σ1) => match evC fs prim bf (gcT m (keepL live tm) σ).2.length c2 tm1 σ1 with
        | some (.normal, tm2, σ2) => if σ2[t]? = some (.rmap es) /\ ZdM ((gcT m (keepL live tm) σ).2.set t (.rmap es)) σ2 = true then some (tput tm2 (some ms) (.map t), σ2.set t (.map es)) else none
        | some (.exit i, tm2, σ2) => if i = b1 /\ σ2[t]? = some (.rmap es) /\ ZdM ((gcT m (keepL live tm) σ).2.set t (.rmap es)) σ2 = true then some (tput tm2 (some ms) (.map t), σ2.set t (.map es)) else none
        | _ => none
      | none => none
    else none
  | _ => none
noncomputable def ZcB (es:List (AVal×AVal)):List (AVal×AVal)->Tms->Za->Option (Tms×Za)
 | [],tm,σ=>some (tm,σ)
 | kv::r,tm,σ=>match Zem fs prim bf m live ms en b1 aslE c2 es kv tm σ with
  | some (tm',σ')=>ZcB es r tm' σ'
  | none=>none
noncomputable def ZeB (tm:Tms) (σ:Za):Option (AVal×Za) :=
 ZaR m ⟨rs,c3⟩ (evC fs prim bf m c3 (gcT m (keepL live tm) σ).1 (gcT m (keepL live tm) σ).2)
noncomputable def Zfn (es es':List (AVal×AVal)) (tm:Tms) (σ:Za):Option (AVal×Za) :=
 match ZcB fs prim bf m live ms en b1 aslE c2 es es' tm σ with
 | some (tm',σ')=>ZeB fs prim bf m live c3 rs tm' σ'
 | none=>none
open Classical in
noncomputable def ZgF (es:List (AVal×AVal)) (tm:Tms) (σ:Za):Option (AVal×Za) :=
 if h:∃ out,∀ es':List (AVal×AVal),es'.Perm es->Zfn fs prim bf m live ms en b1 aslE c2 c3 rs es es' tm σ=some out then some h.choose else none
end
def Zf5 (σ:Za) (t:Nat):Option (List (AVal×AVal)×Za):=match σ[t]? with
 | some (.map es)=>some (es,σ)
 | some (.gmap _ es)=>match ZdW es with
  | some l=>some (l,σ.set t (.map l))
  | none=>none
 | _=>none
noncomputable def Zkh (fs:Nat->Option Zax) (prim:Zb1) (bf:Nat->Bool) (live:List Nat) (ms en b1:Nat) (asl1 aslE:List AOp) (c1 c2 c3:Zq) (rs:List ZcC) (args:List AVal) (σ:Za):Option (AVal×Za) :=
 match evC fs prim bf σ.length c1 (enterA 0 args []) σ with
 | some (.normal,tm1,σ1)=>match ZeE bf asl1 tm1 σ1 with
  | some (tm2,σ2)=>match tget tm2 ms with
   | .map t=>match Zf5 σ2 t with
    | some (es,σ3)=>ZgF fs prim bf σ.length live ms en b1 aslE c2 c3 rs es tm2 σ3
    | none=>none
   | _=>none
  | none=>none
 | _=>none
def ZeN:List Code->Code->Code
 | [],x=>x
 | c::l,x=>.seq c (ZeN l x)
def ZfN:Nat->Code->Option (List Code×Code)
 | 0,c=>some ([],c)
 | n+1,.seq a b=>match ZfN n b with
  | some (l,x)=>some (a::l,x)
  | none=>none
 | _,_=>none
theorem ZmI:∀ {n:Nat} {c x:Code} {l:List Code},ZfN n c=some (l,x)->c=ZeN l x
 | 0,c,x,l,h=>by simp only [ZfN,Xa,Xb] at h;obtain ⟨rfl,rfl⟩:=h;rfl
 | n+1,c,x,l,h=>by
  cases c with
  | seq a b =>
   simp only [ZfN] at h
   split at h
   ·rename_i l' x' h'
    simp only [Xa,Xb] at h
    obtain ⟨rfl,rfl⟩:=h
    rw [ZmI h',ZeN]
   ·cases h
  | _=>simp [ZfN] at h
structure ZlL (P:Program) (f:FuncId) (an1 an3:Ann) (nt n0 n1 ms it nx ok en bid b1:Nat) (live:List Nat) (asl1 aslE:List AOp) (c1 c2 c3:Zq) (rs:List ZcC):Prop where
 ex:∃ (F:Func) (B:Code) (pre:List Code) (ops1 ops3 ops4:Array Oper) (i2 i3 i4:Nat) (body rest:Code) (t kt et:TypeId) (rg nxo exo eno:Oper) (lE:List Oper),
  P.funcs[f]?=some F/\(F.name == "runtime.NumGoroutine")=false/\F.ntmps=nt/\ZdI P F.results.toList=some rs/\F.body=some B /\
  ZfN n0 B=some (pre,.seq (.seq (.region i2 ops1 false) (.block bid (.loop (.seq (.region i3 ops3 false) (.seq (.cond (.tmp ok) .skip (.exit bid)) (.block b1 (.seq (.region i4 ops4 false) body))))))) rest) /\
  ops1.toList.drop n1=[rg]/\ops3.toList=[nxo,exo]/\ops4.toList=eno::lE /\
  rg.op=.range t (.tmp ms)/\rg.dst=some it/\rg.guard=none/\P.underlying t=some (.map kt et) /\
  nxo.op=.next (.tmp it) false/\nxo.dst=some nx/\nxo.guard=none/\exo.op=.extract (.tmp nx) 0/\exo.dst=some ok/\exo.guard=none /\
  eno.op=.entry (.tmp it)/\eno.dst=some en/\eno.guard=none /\
  ZbZ (Zah P an1 (ZeN pre .skip))=c1/\Zb5 P an1 ops1 (ops1.toList.take n1)=some asl1/\Zb5 P an3 ops4 lE=some aslE/\ZbZ (Zah P an3 body)=c2/\ZbZ (Zah P an1 rest)=c3 /\
  an1.nt=nt/\an3.nt=nt/\an3.keep=[it,ms] /\
  (decide (it < nt) && decide (nx < nt) && decide (ok < nt) && decide (en < nt) && decide (it≠ms) && decide (nx≠ms) && decide (ok≠ms) && decide (en≠ms) && decide (nx≠it) && decide (ok≠it) && decide (en≠it) && decide (nx≠ok) && live.all fun n=>decide (n≠it) && decide (n≠nx) && decide (n≠ok) && decide (n≠en))=true
section
variable {P:Program} {O:ZZ} {bf:Nat->Bool} {an:Ann} {base:Nat->Prop} {w0 w w':World} {I0 I I':Imm} {β β':Bmap} {σ σ':Za} {dr:Door}
theorem Zkt (hO:Zad P O) (hkp:∀ n ∈ dr.K,n ∈ an.keep) (hb:KLt base w0) {ops:Array Oper} {Q:Exit->Act->World->Prop} {r:List Oper}:∀ {l:List Oper} {asl:List AOp} {sq:Nat} {I:Imm} {β:Bmap} {tm tm':Tms} {σ σ':Za} {cs:List Cls} {a:Act} {w:World},Zb5 P an ops l=some asl->TR I β tm a.tmps->(dr.ok a/\an.nt<=a.tmps.size)->Rel base w0 I0 I β σ w ->
  ZY O bf asl sq tm σ=some (tm',σ',cs,none)->(∀ a' w',StR dr an.nt base w0 I0 I β tm' σ' a' w'->wpList P ops Q r a' w')->wpList P ops Q (l++r) a w
 | [],asl,sq,I,β,tm,tm',σ,σ',cs,a,w,hc,T,hd,R,h,hQ=>by
  simp only [Zb5,Xa] at hc;subst hc
  simp only [ZY,Xa,Xb] at h
  obtain ⟨rfl,rfl,rfl,_⟩:=h
  exact hQ _ _ ⟨I,β,Imm.le.refl I,Bmap.le.refl β,T,hd,R⟩
 | o::l,asl,sq,I,β,tm,tm',σ,σ',cs,a,w,hc,T,hd,R,h,hQ=>by
  simp only [Zb5] at hc
  split at hc
  ·rename_i ao hao
   split at hc
   ·rename_i as' has'
    injection hc with hc;subst hc
    simp only [ZY] at h
    split at h
    ·cases h
    ·simp only [Xa,Xb] at h
     obtain ⟨_,_,_,h⟩:=h
     cases h
    ·rename_i v tm1 σ1 c1 hnp h1
     split at h
     ·cases h
     rename_i tm2 σ2 cs2 p2 h2
     simp only [Xa,Xb] at h
     obtain ⟨rfl,rfl,rfl,rfl⟩:=h
     have:=ZfV (dr:=dr) (K:=wpList P ops Q (l++r)) (Q:=Q) hO hkp hao T hd R hb h1 (fun _ a' w' hs=>by
      obtain ⟨I',β',g1,g2,g3,g4,g5⟩:=hs
      exact Zkt hO hkp hb has' g3 g4 g5 h2 (fun a'' w'' hs'=>hQ a'' w'' (hs'.trans g1 g2))) (fun x e=>absurd e (fun e=>hnp x e))
     rw [WG]
     unfold wpList
     exact this
   ·cases hc
  ·cases hc
theorem Zni {asl:List AOp} {tm tm':Tms} (h:ZeE bf asl tm σ=some (tm',σ')):∃ cs,ZY (fun _ _ _=>none) bf asl σ.length tm σ=some (tm',σ',cs,none):=by
 unfold ZeE at h
 split at h
 ·rename_i tm1 σ1 cs h1
  simp only [Xa,Xb] at h
  obtain ⟨rfl,rfl⟩:=h
  exact ⟨cs,h1⟩
 ·cases h
theorem Zm7 {Q:Exit->Act->World->Prop} (hO:Zad P O) (hm:P.follows .mixedOrders=true) (hb:KLt base w0) (m n:Nat) (X:Code):∀ (pre:List Code) {I:Imm} {β:Bmap} {tm tm':Tms} {σ σ':Za} {a:Act} {w:World},StF Za0 m an.nt base w0 I0 I β tm σ a w->Z1 O bf m n (Zah P an (ZeN pre .skip)) tm σ=some (.normal,tm',σ') ->
  (∀ a' w',StF Za0 m an.nt base w0 I0 I β tm' σ' a' w'->X.wp P Q a' w')->(ZeN pre X).wp P Q a w
 | [],I,β,tm,tm',σ,σ',a,w,hst,h,hQ=>by
  simp only [ZeN,Zah,Z1,Xa,Xb] at h
  obtain ⟨_,rfl,rfl⟩:=h
  exact hQ a w hst
 | c::l,I,β,tm,tm',σ,σ',a,w,hst,h,hQ=>by
  simp only [ZeN,Zah,Z1] at h
  split at h
  ·rename_i tm1 σ1 h1
   refine wp_seq ?_
   refine Zg4 (dr:=Za0) (an:=an) hO (fun n hn=>by simp [Za0] at hn) hm hb m n rfl hst h1 ?_
   intro a' w' hs
   exact Zm7 hO hm hb m n X l hs h hQ
  ·rename_i hne
   exact absurd h (hne _ _)
theorem Zw3 {m:Nat} {x:AVal} {v:Value} (hx:Zej m x=true) (hk:KeptE m β β') (h:VR I β x v):VR I' β' x v\/(∃ a xs,x=.lst a xs):=by
 cases x with
 | int | bool | str | nilp | nilm | nili=>exact Xw h
 | lst a xs=>exact XE ⟨a,xs,rfl⟩
 | sl t g lo n =>
  simp only [Zej,Xl,decide_eq_true_eq] at hx
  obtain ⟨rfl,ht⟩:=hx
  simp only [VR] at h ⊢
  obtain ⟨bi,e,h⟩:=h
  exact Xw ⟨bi,hk t ht bi e,h⟩
 | ref t o =>
  simp only [Zej,decide_eq_true_eq] at hx
  simp only [VR] at h ⊢
  obtain ⟨b,k,c,e,h⟩:=h
  exact Xw ⟨b,k,c,hk t hx _ e,h⟩
 | map t =>
  simp only [Zej,decide_eq_true_eq] at hx
  simp only [VR] at h ⊢
  obtain ⟨b,k,c,e,h⟩:=h
  exact Xw ⟨b,k,c,hk t hx _ e,h⟩
 | _=>simp [Zej] at hx
theorem Zy5 {a:Bool} {xs:List AVal} {v:Value} (hI:I.le I') (h:VR I β (.lst a xs) v):VR I' β' (.lst a xs) v:=by
 have ht:Zaj (.lst a xs)=true:=by
  simp only [VR] at h
  obtain ⟨A,cap,_,_,_,_,_,ht⟩:=h
  simpa [Zaj] using ht
 exact (VR.of_tree (β':=β') ht h).mono hI (Bmap.le.refl _) _ _
theorem Zli {m:Nat} {x:AVal} {v:Value} (hx:Zej m x=true) (hI:I.le I') (hk:KeptE m β β') (h:VR I β x v):VR I' β' x v:=by
 rcases Zw3 (I':=I') hx hk h with h | ⟨a,xs,rfl⟩
 ·exact h
 ·exact Zy5 hI h
theorem ZkX {m:Nat} (hI:I.le I') (hk:KeptE m β β'):∀ {cs:List AVal} {vs:List Value},cs.all (Zej m)=true->VRs I β cs vs->VRs I' β' cs vs
 | [],vs,_,h=>h
 | x::cs,vs,hx,h=>by
  rw [Xi,Xl] at hx
  simp only [VRs] at h ⊢
  obtain ⟨v,vs',rfl,h1,h2⟩:=h
  exact ⟨v,vs',rfl,Zli hx.1 hI hk h1,ZkX hI hk hx.2 h2⟩
theorem Zp6 {m:Nat} {x:AVal} {v:Value} (hx:Zg3 m x=true) (hI:I.le I') (hk:KeptE m β β') (h:VR I β x v):VR I' β' x v:=by
 cases x with
 | agg cs =>
  simp only [VR] at h ⊢
  obtain ⟨us,rfl,h⟩:=h
  exact ⟨us,rfl,ZkX hI hk hx h⟩
 | _=>exact Zli hx hI hk h
theorem ZmS {m:Nat} (hI:I.le I') (hk:KeptE m β β'):∀ {cs:List AVal} {vs:List Value},(∀ x ∈ cs,Zg3 m x=true)->VRs I β cs vs->VRs I' β' cs vs
 | [],vs,_,h=>h
 | x::cs,vs,hx,h=>by
  simp only [VRs] at h ⊢
  obtain ⟨v,vs',rfl,h1,h2⟩:=h
  exact ⟨v,vs',rfl,Zp6 (hx x (by simp)) hI hk h1,ZmS hI hk (fun y hy=>hx y (by simp [hy])) h2⟩
theorem Znf:∀ {cs:List AVal} {vs:List Value},(∀ x ∈ cs,ZbJ x=true)->VRs I β cs vs->VRs I' β' cs vs
 | [],vs,_,h=>h
 | x::cs,vs,hx,h=>by
  simp only [VRs] at h ⊢
  obtain ⟨v,vs',rfl,h1,h2⟩:=h
  refine ⟨v,vs',rfl,?_,Znf (fun y hy=>hx y (by simp [hy])) h2⟩
  have:=hx x (by simp)
  cases x <;> simp [ZbJ] at this <;> exact h1
end
end
section
open Go.RowKit
open Go.ChangeMaps (setBlock)
section
variable {P:Program} {base base':Nat->Prop} {w0 w w' w1 w2:World} {I0 I I' I1 I2:Imm} {β β' β1 β2:Bmap} {σ σ' σ1 σ2:Za}
theorem Rel.rebase (R:Rel base w0 I0 I β σ w) {r:Nat} (hr:∀ t x,σ[t]?=some x->¬Ze w β t x r):Rel (fun k=>base k\/k=r) w I I β σ w where
 below:=KB.refl _ _
 old:=fun _ _ _=>rfl
 imm:=R.imm
 blk:=R.blk
 own:=fun t x b hx hb=>⟨fun h=>by
  rcases h with h | rfl
  ·exact (R.own t x b hx hb).1 h
  ·exact hr t x hx hb,(R.own t x b hx hb).2⟩
 apart:=R.apart
 fresh:=R.fresh
 free:=R.free
 gen:=R.gen
 glob:=R.glob
 ro:=fun t x b h hs=>Xw (R.ro t x b h hs)
theorem Rel.unbase (R1:Rel base w0 I0 I1 β1 σ1 w1) (R2:Rel base' w1 I1 I2 β2 σ2 w2) (hs:∀ k,base k->base' k) (hro:∀ t x b,σ2[t]?=some x->ZbF β2 t x b->base b):Rel base w0 I0 I2 β2 σ2 w2 where
 below:=R1.below.trans (R2.below.mono hs)
 old:=fun b o h=>(R2.old b o (hs b h)).trans (R1.old b o h)
 imm:=R2.imm
 blk:=R2.blk
 own:=fun t x b hx hb=>⟨fun h=>(R2.own t x b hx hb).1 (hs b h),(R2.own t x b hx hb).2⟩
 apart:=R2.apart
 fresh:=R2.fresh
 free:=R2.free
 gen:=R2.gen
 glob:=R2.glob
 ro:=hro
theorem Rel.hide (R:Rel base w0 I0 I β σ w) {t b r:Nat} {es:List (AVal×AVal)} (ht:σ[t]?=some (.map es)) (hb:Ze w β t (.map es) b) (hr:∀ t x,σ[t]?=some x->¬Ze w β t x r):Rel (fun k=>base k\/k=b\/k=r) w I I β (σ.set t (.rmap es)) w where
 below:=KB.refl _ _
 old:=fun _ _ _=>rfl
 imm:=R.imm
 blk:=fun u x hx=>by
  rw [Xk] at hx
  split at hx
  ·rename_i e;subst e
   split at hx
   ·injection hx with hx;subst hx
    have hB:=R.blk t (.map es) ht
    exact hB
   ·cases hx
  ·exact R.blk u x hx
 own:=fun u x b' hx ho=>by
  rw [Xk] at hx
  split at hx
  ·split at hx
   ·injection hx with hx;subst hx;cases ho
   ·cases hx
  ·rename_i hne
   have:=R.own u x b' hx ho
   refine ⟨fun h=>?_,this.2⟩
   rcases h with h | rfl | rfl
   ·exact this.1 h
   ·exact hne (R.apart u x t _ _ hx ht ho hb).symm
   ·exact hr u x hx ho
 apart:=fun u x u' x' b' hx hx' ho ho'=>by
  rw [Xk] at hx hx'
  split at hx
  ·split at hx
   ·injection hx with hx;subst hx;cases ho
   ·cases hx
  ·split at hx'
   ·split at hx'
    ·injection hx' with hx';subst hx';cases ho'
    ·cases hx'
   ·exact R.apart u x u' x' b' hx hx' ho ho'
 fresh:=fun u g hu=>R.fresh u g (by simpa using hu)
 free:=fun u g hu=>by
  rw [Xk] at hu
  split at hu
  ·split at hu
   ·injection hu with hu;cases hu
   ·cases hu
  ·exact R.free u g hu
 gen:=fun u x g hx hg=>by
  rw [Xk] at hx
  split at hx
  ·rename_i e;subst e
   split at hx
   ·injection hx with hx;subst hx
    exact R.gen t _ g ht (by simpa [Zb] using hg)
   ·cases hx
  ·exact R.gen u x g hx hg
 glob:=R.glob
 ro:=fun u x b' hx hs=>by
  rw [Xk] at hx
  split at hx
  ·rename_i e;subst e
   split at hx
   ·injection hx with hx;subst hx
    exact XE (Xw (Xas (hb.symm.trans hs)).symm)
   ·cases hx
  ·exact Xw (R.ro u x b' hx hs)
theorem Rel.unhide (R1:Rel base w0 I0 I1 β1 σ1 w1) {t b r:Nat} (R2:Rel (fun k=>base k\/k=b\/k=r) w1 I1 I2 β2 σ2 w2) {es:List (AVal×AVal)} (ht:σ2[t]?=some (.rmap es)) (hb:Ze w β2 t (.map es) b) (hB:BR I2 β2 w2 t (.map es)) (hbase:¬base b) (hI:∀ o,I2 b o=none) (hro:∀ u x b,u≠t->σ2[u]?=some x->ZbF β2 u x b->base b):Rel base w0 I0 I2 β2 (σ2.set t (.map es)) w2 where
 below:=R1.below.trans (R2.below.mono fun _ h=>Xw h)
 old:=fun k o h=>(R2.old k o (Xw h)).trans (R1.old k o h)
 imm:=R2.imm
 blk:=fun u x hx=>by
  rw [Xk] at hx
  split at hx
  ·rename_i e;subst e
   split at hx
   ·injection hx with hx;subst hx;exact hB
   ·cases hx
  ·exact R2.blk u x hx
 own:=fun u x b' hx ho=>by
  rw [Xk] at hx
  split at hx
  ·rename_i e;subst e
   split at hx
   ·injection hx with hx;subst hx
    obtain rfl:b=b':=Xas (hb.symm.trans ho)
    exact ⟨hbase,hI⟩
   ·cases hx
  ·have:=R2.own u x b' hx ho
   exact ⟨fun h=>this.1 (Xw h),this.2⟩
 apart:=fun u x u' x' b' hx hx' ho ho'=>by
  rw [Xk] at hx hx'
  split at hx
  ·rename_i e;subst e
   split at hx
   ·injection hx with hx;subst hx
    obtain rfl:b=b':=Xas (hb.symm.trans ho)
    split at hx'
    ·assumption
    ·exact absurd (XE (Xw rfl)) (R2.own u' x' _ hx' ho').1
   ·cases hx
  ·split at hx'
   ·rename_i e;subst e
    split at hx'
    ·injection hx' with hx';subst hx'
     obtain rfl:b=b':=Xas (hb.symm.trans ho')
     exact absurd (XE (Xw rfl)) (R2.own u x _ hx ho).1
    ·cases hx'
   ·exact R2.apart u x u' x' b' hx hx' ho ho'
 fresh:=fun u g hu=>R2.fresh u g (by simpa using hu)
 free:=fun u g hu=>by
  rw [Xk] at hu
  split at hu
  ·split at hu
   ·injection hu with hu;cases hu
   ·cases hu
  ·exact R2.free u g hu
 gen:=fun u x g hx hg=>by
  rw [Xk] at hx
  split at hx
  ·rename_i e;subst e
   split at hx
   ·injection hx with hx;subst hx
    exact R2.gen t _ g ht (by simpa [Zb] using hg)
   ·cases hx
  ·exact R2.gen u x g hx hg
 glob:=R2.glob
 ro:=fun u x b' hx hs=>by
  rw [Xk] at hx
  split at hx
  ·split at hx
   ·injection hx with hx;subst hx;cases hs
   ·cases hx
  ·rename_i hne
   exact hro u x b' (WY hne) hx hs
theorem Rel.turn (R:Rel base w0 I0 I β σ w) {r:Nat} (hr:∀ t x,σ[t]?=some x->¬Ze w β t x r) (hb:¬base r) (hI:∀ o,I r o=none) (hos:w'.os=w.os) (ht:w'.tape=w.tape) (ho:w'.output=w.output) (hs:w.heap.size<=w'.heap.size) (hk:∀ k,k≠r->k < w.heap.size->w'.heap[k]?=w.heap[k]?) (hbl:KLt base w):Rel base w0 I0 I β σ w':=by
 refine R.stay (Imm.le.refl I) ⟨hos,ht,ho,hs,fun k h=>hk k (by rintro rfl;exact hb h) (hbl k h)⟩ (fun _ _ _=>rfl) ?_ ?_
 ·intro b o u hu
  have h1:=R.imm b o u hu
  have hne:b≠r:=by rintro rfl;rw [hI] at hu;cases hu
  have hlt:=Zde h1
  rw [<-h1]
  simp only [World.cell?,hk b hne hlt]
 ·intro t x b hx hb'
  have hne:b≠r:=by rintro rfl;exact hr t x hx hb'
  exact ⟨hk b hne ((R.blk t x hx).owns_lt hb'),(R.own t x b hx hb').2⟩
theorem Zpy (m:Nat) (tm:Tms) (σ:Za):m<=(gcT m tm σ).2.length:=by
 show m<=(Zg σ m _ _ _ 0).length
 rw [Zh3]
 obtain ⟨_,r,hr⟩:=ZfO (σ:=σ) 1000 (ZX (tm.map (·.2))++(WJ m).flatMap fun t=>Zp (σ.getD t .free)) (WJ m) XaL
 show m<=(Zj m (tm.map (·.2)) σ).length
 unfold Zj
 rw [hr]
 simp
end
section
variable {fs:Nat->Option Zax} {prim:Zb1} {bf:Nat->Bool} {m:Nat} {live:List Nat} {ms en b1:Nat} {aslE:List AOp} {c2 c3:Zq} {rs:List ZcC}
theorem Zgs {es:List (AVal×AVal)}:∀ (a b:List (AVal×AVal)) (tm:Tms) (σ:Za),ZcB fs prim bf m live ms en b1 aslE c2 es (a++b) tm σ=match ZcB fs prim bf m live ms en b1 aslE c2 es a tm σ with
  | some (tm',σ')=>ZcB fs prim bf m live ms en b1 aslE c2 es b tm' σ'
  | none=>none
 | [],b,tm,σ=>rfl
 | x::a,b,tm,σ=>by
  simp only [WG,ZcB]
  split
  ·exact Zgs a b _ _
  ·rfl
end
theorem Zgi {I:Imm} {β:Bmap} {tm:Tms} {a:Act} {d:Nat} {u:Value} (T:TR I β tm a.tmps) (hd:tget tm d=.top):TR I β tm (a.put (some d) u).tmps:=by
 intro n
 by_cases e:d=n
 ·subst e;rw [hd];simp only [VR]
 ·rw [pgn e];exact T n
theorem ZoF {m:Nat} {live:List Nat} {tm:Tms} {σ:Za} {d:Nat} (hd:d ∉ live):tget (gcT m (keepL live tm) σ).1 d=.top:=by
 have key:∀ (l:List Nat) (xs:List AVal),d ∉ l->tget (l.zip xs) d=.top:=by
  intro l
  induction l with
  | nil=>intro xs _;rfl
  | cons x l ih =>
   intro xs h
   cases xs with
   | nil=>rfl
   | cons y ys =>
    simp only [List.zip_cons_cons,tget]
    rw [if_neg (by rintro rfl;exact h (by simp))]
    exact ih ys (fun hm=>h (by simp [hm]))
 have e:(keepL live tm).map (·.1)=live:=by simp [keepL,List.map_map,Function.comp_def]
 show tget (((keepL live tm).map (·.1)).zip _) d=.top
 rw [e]
 exact key live _ hd
end
section
open Go.RowKit
open Go.ChangeMaps (setBlock)
theorem Zq4 {arr:Array MapEntry} {seen:Array Nat} {e:MapEntry} (h:e ∈ (leftOf arr seen).toList):e ∈ arr.toList/\seen.contains e.born=false:=by
 unfold leftOf at h
 simp only [Array.toList_filter,Wr,Wy] at h
 exact h
theorem Zq7 {arr:Array MapEntry} {seen:Array Nat} (h:(leftOf arr seen).size=0):∀ e ∈ arr.toList,seen.contains e.born=true:=by
 intro e he
 cases hc:seen.contains e.born with
 | true=>rfl
 | false =>
  have hm:e ∈ (leftOf arr seen).toList:=by
   unfold leftOf
   simp only [Array.toList_filter,Wr,Wy]
   exact ⟨he,hc⟩
  have : (leftOf arr seen).toList=[]:=by
   apply X1
   simpa using h
  rw [this] at hm;cases hm
section
variable {P:Program} {base:Nat->Prop} {w0:World} {I0:Imm}
variable {fs:Nat->Option Zax} {prim:Zb1} {bf:Nat->Bool} {m:Nat} {live:List Nat} {ms it nx ok en bid b1 nt:Nat} {aslE:List AOp} {c2 c3:Zq} {rs:List ZcC}
def Zcm (it ms:Nat) (r b:Nat):Door:=⟨[],[it,ms],fun n=>if n=it then .pointer (some ⟨r,0,none⟩) else .map (some b)⟩
def ZeC (arr:Array MapEntry) (j:Nat):Nat:=(arr.toList.getD j ⟨undef,undef,0⟩).born
theorem Zuy (hm:P.follows .mixedOrders=true) (hO:∀ n,Zad P (Zac fs prim bf n)) (hb:KLt base w0) {an3:Ann} {ops3 ops4:Array Oper} {i3 i4:Nat} {body:Code} {nxo exo eno:Oper} {lE:List Oper}
  (h3:ops3.toList=[nxo,exo]) (h4:ops4.toList=eno::lE)
  (hn1:nxo.op=.next (.tmp it) false) (hn2:nxo.dst=some nx) (hn3:nxo.guard=none) (hx1:exo.op=.extract (.tmp nx) 0) (hx2:exo.dst=some ok) (hx3:exo.guard=none)
  (he1:eno.op=.entry (.tmp it)) (he2:eno.dst=some en) (he3:eno.guard=none) (hcE:Zb5 P an3 ops4 lE=some aslE) (hc2:ZbZ (Zah P an3 body)=c2) (hnt3:an3.nt=nt) (hk3:an3.keep=[it,ms])
  (d1:it < nt) (d2:nx < nt) (d3:ok < nt) (d4:en < nt) (d5:it≠ms) (d6:nx≠ms) (d7:ok≠ms) (d8:en≠ms) (d9:nx≠it) (d10:ok≠it) (d11:en≠it) (d12:nx≠ok) (hlv:∀ n ∈ live,n≠it/\n≠nx/\n≠ok/\n≠en)
  {r b clk:Nat} {arr:Array MapEntry} {es:List (AVal×AVal)} (hS:ZeM arr clk) (hne:arr.size=es.length) (hrb:r≠b) (hrbase:¬base r) (hbbase:¬base b)
  {tm2:Tms} {σ2:Za} {out:AVal×Za} (hall:∀ es':List (AVal×AVal),es'.Perm es->Zfn fs prim bf m live ms en b1 aslE c2 c3 rs es es' tm2 σ2=some out)
  {I:Imm} {β:Bmap} {Q:Exit->Act->World->Prop}
  (hQ:∀ tm σ a w I' β',ZeB fs prim bf m live c3 rs tm σ=some out->I.le I'->KeptE m β β'->TR I' β' (keepL live tm) a.tmps->(a.defers=[]/\nt<=a.tmps.size)->Rel base w0 I0 I' β' σ w->Q (.exit bid) a w) :
  ∀ (n:Nat) (js:List Nat) (tm:Tms) (σ:Za) (a:Act) (w:World),n+js.length=es.length+1->js.Nodup->(∀ j ∈ js,j < es.length)->ZcB fs prim bf m live ms en b1 aslE c2 es (js.map fun j=>es.getD j (.top,.top)) tm2 σ2=some (tm,σ) ->
   w.heap[r]?=some (.mapIter (some b) clk (js.map (ZeC arr)).toArray clk)->w.heap[b]?=some (.map arr clk) ->
   (∃ I' β',I.le I'/\KeptE m β β'/\TR I' β' (keepL live tm) a.tmps/\((Zcm it ms r b).ok a/\nt<=a.tmps.size)/\Rel base w0 I0 I' β' σ w/\(∀ o,I' r o=none)/\(∀ t x,σ[t]?=some x->¬Ze w β' t x r)) ->
   Code.rounds P (.seq (.region i3 ops3 false) (.seq (.cond (.tmp ok) .skip (.exit bid)) (.block b1 (.seq (.region i4 ops4 false) body)))) Q n a w:=by
 have hperm:∀ js:List Nat,js.Nodup->(∀ j ∈ js,j < es.length)->∃ rest:List Nat,(WJ es.length).Perm (js++rest):=fun js h1 h2=>ZnQ js _ h1 (fun j hj=>W0.2 (h2 j hj)) XaL
 have hpm:∀ js rest:List Nat,(WJ es.length).Perm (js++rest)->(js.map (fun j=>es.getD j (.top,.top))++rest.map fun j=>es.getD j (.top,.top)).Perm es:=by
  intro js rest h
  have:=h.map (fun j=>es.getD j ((.top,.top):AVal×AVal))
  rw [Zzp,Wc] at this
  exact this.symm
 intro n
 induction n with
 | zero =>
  intro js tm σ a w hn hnd hlt _ _ _ _
  exfalso
  obtain ⟨rest,hr⟩:=hperm js hnd hlt
  have:=hr.length_eq
  simp at this
  omega
 | succ n ih =>
  intro js tm σ a w hn hnd hlt hf hit hmap hst
  rw [rounds_succ]
  obtain ⟨I1,β1,g1,g2,T1,⟨gd,gs⟩,R1,hIr,hown⟩:=hst
  have vit:a.tmps.getD it undef=.pointer (some ⟨r,0,none⟩):=by
   have:=gd.2 it (by simp [Zcm]);simpa [Zcm] using this
  have vms:a.tmps.getD ms undef=.map (some b):=by
   have:=gd.2 ms (by simp [Zcm]);simpa [Zcm,WY d5] using this
  refine wp_seq (wp_region_list ?_)
  rw [h3]
  refine Zfs hn3 ?_
  unfold Oper.wp
  have hlook:=run_next_at (P:=P) w nxo.type r b clk clk _ arr clk hit hmap (fun x hx=>hS.1 x hx) (XR _)
  rcases hlook with ⟨hz,hrun⟩ | ⟨e,he,w1,hw1,hrun⟩
  ·
   have e1:(execOp a.eval nxo).run P w=.ok (.value (.tuple #[.bool false])) w:=by
    unfold execOp;rw [hn1]
    simp only [Act.eval]
    rw [vit]
    exact ZhS hrun
   rw [e1,Oper.upon_value,hn2]
   refine Zfs hx3 ?_
   unfold Oper.wp
   have e2:(execOp (a.put (some nx) (.tuple #[.bool false])).eval exo).run P w=.ok (.value (.bool false)) w:=by
    unfold execOp;rw [hx1]
    simp only [Act.eval]
    rw [pgs (by omega)]
    exact ZhS (by simp [Instr.extract])
   rw [e2,Oper.upon_value,hx2]
   refine wpList_nil ?_
   simp only [Exit.then]
   refine wp_seq (wp_cond_false (by simp only [Act.eval];exact pgs (by rw [Zdc];omega)) (wp_exit ?_))
   simp only [Exit.then]
   obtain ⟨rest,hr⟩:=hperm js hnd hlt
   have hrest:rest=[]:=by
    cases rest with
    | nil=>rfl
    | cons x rest =>
     exfalso
     have hx:x < es.length:=W0.1 (hr.mem_iff.2 (by simp))
     obtain ⟨ex,hxa⟩:∃ ex,arr.toList[x]?=some ex:=⟨_,XB (by simpa [hne] using hx)⟩
     have hs:=Zq7 hz (arr.toList.getD x ⟨undef,undef,0⟩) (by
      rw [Xj,hxa];exact Xs hxa)
     have hnd2:(js++x::rest).Nodup:=hr.nodup_iff.1 XaL
     have hxj:x ∉ js:=fun hm=>by
      have:=(Xac.1 hnd2).2.2 x hm x (by simp)
      exact this rfl
     simp only [List.contains_toArray,XaN,decide_eq_true_eq,XJ] at hs
     obtain ⟨y,hy,hyx⟩:=hs
     have hyl:y < es.length:=hlt y hy
     obtain ⟨ey,hya⟩:∃ ey,arr.toList[y]?=some ey:=⟨_,XB (by simpa [hne] using hyl)⟩
     have hnb:=hS.2
     have e3:(arr.toList.map (·.born))[y]?=(arr.toList.map (·.born))[x]?:=by
      rw [XX,XX,hya,hxa]
      simp only [XU,Xa]
      unfold ZeC at hyx
      rw [Xj,Xj,hya,hxa] at hyx
      exact hyx
     have hyx2:=(List.getElem?_inj (by simpa [hne] using hyl) hnb).1 e3
     subst hyx2
     exact hxj hy
   subst hrest
   have hp:=hpm js [] hr
   have ho:=hall _ hp
   unfold Zfn at ho
   rw [Zgs,hf] at ho
   simp only [X0,ZcB] at ho
   refine hQ tm σ _ w I1 β1 ho g1 g2 ?_ ⟨by rw [Zha,Zha];exact gd.1,by rw [Zdc,Zdc];exact gs⟩ R1
   have t0:∀ d,d ∉ live->tget (keepL live tm) d=.top:=fun d hd=>by rw [ZfZ,if_neg hd]
   exact Zgi (Zgi T1 (t0 nx fun h=>(hlv nx h).2.1 rfl)) (t0 ok fun h=>(hlv ok h).2.2.1 rfl)
  ·
   obtain ⟨hea,hes⟩:=Zq4 he
   obtain ⟨j,hj,hje⟩:=List.getElem_of_mem hea
   have hja:arr.toList[j]?=some e:=by rw [XB hj,hje]
   have hjl:j < es.length:=by simpa [hne] using hj
   have hbj:ZeC arr j=e.born:=by unfold ZeC;rw [Xj,hja];rfl
   have hjs:j ∉ js:=fun hm=>by
    have : (js.map (ZeC arr)).toArray.contains e.born=true:=by
     simp only [List.contains_toArray,XaN,decide_eq_true_eq,XJ]
     exact ⟨j,hm,hbj⟩
    rw [this] at hes;cases hes
   have hnd':(js++[j]).Nodup:=by
    rw [Xac]
    exact ⟨hnd,by simp,fun x hx y hy=>by rw [XZ] at hy;subst hy;rintro rfl;exact hjs hx⟩
   have hlt':∀ k ∈ js++[j],k < es.length:=fun k hk=>by
    rcases Xv.1 hk with hk | hk
    ·exact hlt k hk
    ·rw [XZ] at hk;subst hk;exact hjl
   obtain ⟨rest,hr⟩:=hperm (js++[j]) hnd' hlt'
   have hp:=hpm (js++[j]) rest hr
   have ho:=hall _ hp
   unfold Zfn at ho
   rw [Zgs,Wc,Zgs,hf] at ho
   simp only [Xu,X0,ZcB] at ho
   generalize hkv:es.getD j ((.top,.top):AVal×AVal)=kv at ho
   cases hro:Zem fs prim bf m live ms en b1 aslE c2 es kv tm σ with
   | none=>rw [hro] at ho;cases ho
   | some q =>
   obtain ⟨tm',σ'⟩:=q
   clear ho
   have hf':ZcB fs prim bf m live ms en b1 aslE c2 es ((js++[j]).map fun j=>es.getD j (.top,.top)) tm2 σ2=some (tm',σ'):=by
    rw [Wc,Zgs,hf]
    simp only [Xu,X0,ZcB,hkv,hro]
   unfold Zem at hro
   split at hro
   case h_2=>cases hro
   rename_i t hmst
   split at hro
   case isFalse=>cases hro
   rename_i hcond
   obtain ⟨hte,hkept⟩:=hcond
   split at hro
   case h_2=>cases hro
   rename_i tmA σA hstep
   have hbw:=R1.base_le hb
   have Rr:=R1.rebase hown
   obtain ⟨β0,q1,R0r,T0⟩:=Zja Rr T1 m
   have R0:=R1.unbase R0r (fun k h=>Xw h) (fun t x b hx hs=>by
    rcases R0r.ro t x b hx hs with h | rfl
    ·exact h
    ·exfalso
     cases x with
     | rmap es2 =>
      obtain ⟨b2,_,_,_,_,e1,e2,_⟩:=R0r.blk t _ hx
      simp only [ZbF,e1,X9,Xa] at hs
      subst hs
      rw [hit] at e2;cases e2
     | _=>cases hs)
   have hown0:∀ t x,(gcT m (keepL live tm) σ).2[t]?=some x->¬Ze w β0 t x r:=fun t x hx ho=>(R0r.own t x r hx ho).1 (XE rfl)
   have tt:∀ d,d ∉ live->tget (gcT m (keepL live tm) σ).1 d=.top:=fun d hd=>ZoF hd
   have hml:=Zpy m (keepL live tm) σ
   generalize (gcT m (keepL live tm) σ).1=tm0 at *
   generalize (gcT m (keepL live tm) σ).2=σ0 at *
   have vt:=T0 ms
   rw [hmst,vms] at vt
   simp only [VR] at vt
   obtain ⟨b',kk',cc',hbt,hbb⟩:=vt
   simp only [Value.map.injEq,Xa] at hbb
   subst hbb
   obtain ⟨b2,k2,c2',arr',clk',e1,e2,e3,e4,e5,e6⟩:=R0.blk t _ hte
   rw [hbt] at e1
   simp only [Xa,BI.mk.injEq] at e1
   obtain ⟨rfl,rfl,rfl⟩:=e1
   rw [hmap] at e2
   simp only [Xa,Obj.map.injEq] at e2
   obtain ⟨rfl,rfl⟩:=e2
   have howb:Ze w β0 t (.map es) b:=by simp [Ze,hbt]
   have htl:t < σ0.length:=(Xd.1 hte).1
   have e1:(execOp a.eval nxo).run P w=.ok (.value (.tuple #[.bool true,e.key,e.val])) (setBlock w1 r (.mapIter (some b) clk ((js.map (ZeC arr)).toArray.push e.born) clk)):=by
    unfold execOp;rw [hn1]
    simp only [Act.eval]
    rw [vit]
    rw [Sem.run_bind,hrun];rfl
   have hw1h:w1.heap=w.heap/\w1.os=w.os/\w1.tape=w.tape/\w1.output=w.output:=by rcases hw1 with rfl | rfl <;> exact ⟨rfl,rfl,rfl,rfl⟩
   obtain ⟨wh,wo,wt,wu⟩:=hw1h
   have hrlt:r < w.heap.size:=(XD.1 hit).1
   generalize hw3:setBlock w1 r (.mapIter (some b) clk ((js.map (ZeC arr)).toArray.push e.born) clk)=w3 at e1
   have w3r:w3.heap[r]?=some (.mapIter (some b) clk ((js.map (ZeC arr)).toArray.push e.born) clk):=by
    rw [<-hw3];simp only [setBlock,wh];rw [Array.getElem?_setIfInBounds_self_of_lt hrlt]
   have w3k:∀ k,k≠r->w3.heap[k]?=w.heap[k]?:=fun k hk=>by
    rw [<-hw3];simp only [setBlock,wh];rw [We (WY hk)]
   have w3b:w3.heap[b]?=some (.map arr clk):=by rw [w3k b (WY hrb)];exact hmap
   have w3s:w3.heap.size=w.heap.size:=by rw [<-hw3];simp [setBlock,wh]
   have R3:Rel base w0 I0 I1 β0 σ0 w3:=R0.turn hown0 hrbase hIr (by rw [<-hw3];exact wo) (by rw [<-hw3];exact wt) (by rw [<-hw3];exact wu) (by omega) (fun k hk _=>w3k k hk) hbw
   have hIb:∀ o,I1 b o=none:=(R3.own t _ b hte howb).2
   have hown3:∀ t x,σ0[t]?=some x->¬Ze w3 β0 t x r:=fun t x hx ho=>hown0 t x hx (((R0.blk t x hx).owns_at (Bmap.le.refl β0) (fun b' hb'=>w3k b' (by rintro rfl;exact hown0 t x hx hb')) r).1 ho)
   have RH:=R3.hide hte howb hown3
   rw [e1,Oper.upon_value,hn2]
   generalize hA1:a.put (some nx) (.tuple #[.bool true,e.key,e.val])=A1
   have s1:A1.tmps.size=a.tmps.size:=by rw [<-hA1,Zdc]
   have f1:∀ k,k≠nx->A1.tmps.getD k undef=a.tmps.getD k undef:=by intro k hk;rw [<-hA1];exact pgn (WY hk)
   have df1:A1.defers=[]:=by rw [<-hA1];exact gd.1
   have TA1:TR I1 β0 tm0 A1.tmps:=by rw [<-hA1];exact Zgi T0 (tt nx fun h=>(hlv nx h).2.1 rfl)
   refine Zfs hx3 ?_
   unfold Oper.wp
   have e2:(execOp A1.eval exo).run P w3=.ok (.value (.bool true)) w3:=by
    unfold execOp;rw [hx1]
    simp only [Act.eval]
    rw [<-hA1,pgs (by omega)]
    exact ZhS (by simp [Instr.extract])
   rw [e2,Oper.upon_value,hx2]
   generalize hA2:A1.put (some ok) (.bool true)=A2
   have s2:A2.tmps.size=a.tmps.size:=by rw [<-hA2,Zdc,s1]
   have f2:∀ k,k≠ok->A2.tmps.getD k undef=A1.tmps.getD k undef:=by intro k hk;rw [<-hA2];exact pgn (WY hk)
   have df2:A2.defers=[]:=by rw [<-hA2];exact df1
   have TA2:TR I1 β0 tm0 A2.tmps:=by rw [<-hA2];exact Zgi TA1 (tt ok fun h=>(hlv ok h).2.2.1 rfl)
   refine wpList_nil ?_
   simp only [Exit.then]
   refine wp_seq (wp_cond_true (by simp only [Act.eval];rw [<-hA2];exact pgs (by omega)) (wp_skip ?_))
   simp only [Exit.then]
   refine wp_block (wp_seq (wp_region_list ?_))
   rw [h4]
   refine Zfs he3 ?_
   unfold Oper.wp
   have e3':(execOp A2.eval eno).run P w3=.ok (.value (.tuple #[e.key,e.val])) w3:=by
    unfold execOp;rw [he1]
    simp only [Act.eval]
    rw [f2 it (WY d10),f1 it (WY d9),vit]
    exact ZhS (run_entry_at w3 r b clk _ arr clk e w3r w3b hea hS.2)
   rw [e3',Oper.upon_value,he2]
   generalize hA3:A2.put (some en) (.tuple #[e.key,e.val])=A3
   have s3:A3.tmps.size=a.tmps.size:=by rw [<-hA3,Zdc,s2]
   have f3:∀ k,k≠en->A3.tmps.getD k undef=A2.tmps.getD k undef:=by intro k hk;rw [<-hA3];exact pgn (WY hk)
   have df3:A3.defers=[]:=by rw [<-hA3];exact df2
   have hkve:VR I1 β0 (.tup [kv.1,kv.2]) (.tuple #[e.key,e.val]):=by
    have hej:es[j]?=some kv:=by
     rw [<-hkv,Xj,XB hjl];rfl
    obtain ⟨v1,p1,p2⟩:=Zcc e3 (i:=j) (x:=kv.1) (by rw [XX,hej];rfl)
    obtain ⟨v2,p3,p4⟩:=Zcc e4 (i:=j) (x:=kv.2) (by rw [XX,hej];rfl)
    rw [XX,hja] at p1 p3
    simp only [XU,Xa] at p1 p3
    subst p1 p3
    simp only [VR]
    exact ⟨_,rfl,by simp only [VRs];exact ⟨_,_,rfl,p2,_,_,rfl,p4,rfl⟩⟩
   have TA3:TR I1 β0 (tput tm0 (some en) (.tup [kv.1,kv.2])) A3.tmps:=by rw [<-hA3];exact TR.put TA2 hkve (by omega)
   have ok3:(Zcm it ms r b).ok A3:=by
    refine ⟨df3,fun k hk=>?_⟩
    have hk':k=it\/k=ms:=by simpa [Zcm] using hk
    have n1:k≠en/\k≠ok/\k≠nx:=by
     rcases hk' with rfl | rfl
     ·exact ⟨WY d11,WY d10,WY d9⟩
     ·exact ⟨WY d8,WY d7,WY d6⟩
    rw [f3 k n1.1,f2 k n1.2.1,f1 k n1.2.2]
    exact gd.2 k hk
   have hkp:∀ n ∈ (Zcm it ms r b).K,n ∈ an3.keep:=fun n hn=>by rw [hk3];exact hn
   have hblt:b < w.heap.size:=(XD.1 hmap).1
   have hbH:KLt (fun k=>base k\/k=b\/k=r) w3:=fun k hk=>by
    rcases hk with hk | rfl | rfl
    ·have:=hbw k hk;omega
    ·omega
    ·omega
   obtain ⟨cs,hruns⟩:=Zni hstep
   rw [<-X6 lE]
   refine Zkt (dr:=Zcm it ms r b) (O:=fun _ _ _=>none) noO hkp hbH hcE TA3 ⟨ok3,by omega⟩ RH hruns ?_
   intro A4 w4 hst4
   refine wpList_nil ?_
   simp only [Exit.then]
   have fin:∀ (x:Zat) (tmB:Tms) (σB:Za),evC fs prim bf σ0.length c2 tmA σA=some (x,tmB,σB)->(x=.normal\/x=.exit b1)->(σB[t]?=some (.rmap es)/\ZdM (σ0.set t (.rmap es)) σB=true)->tput tmB (some ms) (.map t)=tm'->σB.set t (.map es)=σ'->body.wp P (Exit.inBlock b1 (Exit.then (Code.rounds P (.seq (.region i3 ops3 false) (.seq (.cond (.tmp ok) .skip (.exit bid)) (.block b1 (.seq (.region i4 ops4 false) body)))) Q n) Q)) A4 w4:=by
    intro x tmB σB hev hx hopq htm hσ
    obtain ⟨nf,hev⟩:=ZaZ.1 hev
    rw [<-hc2,Zdy] at hev
    have hstF:StF (Zcm it ms r b) σ0.length an3.nt (fun k=>base k\/k=b\/k=r) w3 I1 I1 β0 tmA σA A4 w4:=by
     obtain ⟨I4,β4,k1,k2,k3⟩:=hst4
     exact ⟨I4,β4,k1,KeptE.of_le k2,k3⟩
    have next:∀ A5 w5,StF (Zcm it ms r b) σ0.length an3.nt (fun k=>base k\/k=b\/k=r) w3 I1 I1 β0 tmB σB A5 w5->Code.rounds P (.seq (.region i3 ops3 false) (.seq (.cond (.tmp ok) .skip (.exit bid)) (.block b1 (.seq (.region i4 ops4 false) body)))) Q n A5 w5:=by
     rintro A5 w5 ⟨I5,β5,k1,k2,k3,⟨k4,k4'⟩,k5⟩
     have hb5:β5 t 0=some ⟨some b,kk',cc'⟩:=k2 t htl _ hbt
     have w5b:w5.heap[b]?=some (.map arr clk):=by rw [k5.below.block b (XE (Xw rfl))];exact w3b
     have w5r:w5.heap[r]?=_:=(k5.below.block r (XE (XE rfl))).trans w3r
     have hI5b:∀ o,I5 b o=none:=fun o=>by rw [k5.old b o (XE (Xw rfl))];exact hIb o
     have hI5r:∀ o,I5 r o=none:=fun o=>by rw [k5.old r o (XE (XE rfl))];exact hIr o
     have hB5:BR I5 β5 w5 t (.map es):=⟨b,kk',cc',arr,clk,hb5,w5b,Znf (fun y hy=>by obtain ⟨p,hp,rfl⟩:=XJ.1 hy;exact e5 p hp) e3,ZmS k1 k2 (fun y hy=>by obtain ⟨p,hp,rfl⟩:=XJ.1 hy;exact hkept p hp) e4,e5,hS⟩
     have ho5:Ze w β5 t (.map es) b:=by simp [Ze,hb5]
     have R5:=R3.unhide k5 hopq.1 ho5 hB5 hbbase hI5b (fun u x b' hne hx hs=>by
      cases x with
      | rmap es2 =>
       obtain ⟨y,h2,h1⟩:=Zi2 hopq.2 hx rfl
       rw [WQ (WY hne)] at h2
       cases y <;> simp [ZdH] at h1
       rename_i es3
       obtain ⟨b2,k2',c2',_,_,e1,_⟩:=R0.blk u _ h2
       have e2:=k2 u (Xd.1 h2).1 _ e1
       refine R0.ro u _ b' h2 ?_
       simp only [ZbF,e2] at hs
       simpa [ZbF,e1] using hs
      | _=>cases hs)
     rw [hσ] at R5
     refine ih (js++[j]) tm' σ' A5 w5 (by rw [List.length_append,List.length_singleton];omega) hnd' hlt' hf' ?_ w5b ⟨I5,β5,g1.trans k1,?_,?_,⟨k4,by omega⟩,R5,hI5r,?_⟩
     ·rw [w5r,Wc,Xu,X0,hbj,List.push_toArray]
     ·refine (g2.trans q1).trans (fun u hu bi hbi=>k2 u (by omega) bi hbi)
     ·refine TR.keep (fun u=>?_) live
      rw [<-htm]
      show VR I5 β5 (tget (tins ms (.map t) tmB) u) _
      rw [ZfU]
      split
      ·rename_i e;subst e
       have : A5.tmps.getD ms undef=.map (some b):=by have:=k4.2 ms (by simp [Zcm]);simpa [Zcm,WY d5] using this
       rw [this]
       simp only [VR]
       exact ⟨b,kk',cc',hb5,rfl⟩
      ·exact k3 u
     ·intro u y hy hoy
      rw [<-hσ,Xk] at hy
      split at hy
      ·rename_i e;subst e
       split at hy
       ·injection hy with hy;subst hy
        exact hrb (Xas (ho5.symm.trans hoy)).symm
       ·cases hy
      ·exact (k5.own u y r hy hoy).1 (XE (XE rfl))
    refine Zg4 (dr:=Zcm it ms r b) (an:=an3) (hO nf) hkp hm hbH σ0.length nf rfl hstF hev ?_
    rcases hx with rfl | rfl
    ·intro A5 w5 hs
     simp only [Exit.inBlock,Exit.then]
     exact next A5 w5 hs
    ·intro A5 w5 hs
     simp only [Exit.inBlock,if_true,Exit.then]
     exact next A5 w5 hs
   split at hro
   ·rename_i tmB σB hev
    split at hro
    case isFalse=>cases hro
    rename_i hopq
    simp only [Xa,Xb] at hro
    exact fin _ _ _ hev (Xw rfl) hopq hro.1 hro.2
   ·rename_i i tmB σB hev
    split at hro
    case isFalse=>cases hro
    rename_i hopq
    obtain ⟨rfl,hopq⟩:=hopq
    simp only [Xa,Xb] at hro
    exact fin _ _ _ hev (XE rfl) hopq hro.1 hro.2
   ·cases hro
end
end
section
open Go.RowKit
open Go.ChangeMaps (setBlock)
section
variable {P:Program} {fs:Nat->Option Zax} {prim:Zb1} {bf:Nat->Bool}
theorem ZzV {base:Nat->Prop} {w0 w:World} {I0 I:Imm} {β:Bmap} {σ σ':Za} (R:Rel base w0 I0 I β σ w) {t:Nat} {es:List (AVal×AVal)} (h:Zf5 σ t=some (es,σ')):∃ I',I.le I'/\Rel base w0 I0 I' β σ' w/\σ'[t]?=some (.map es):=by
 unfold Zf5 at h
 split at h
 ·rename_i es' hs
  simp only [Xa,Xb] at h
  obtain ⟨rfl,rfl⟩:=h
  exact ⟨I,Imm.le.refl I,R,hs⟩
 ·rename_i k es' hs
  split at h
  ·rename_i l hl
   simp only [Xa,Xb] at h
   obtain ⟨rfl,rfl⟩:=h
   obtain ⟨I',h1,h2⟩:=R.melt hs hl
   exact ⟨I',h1,h2,by rw [Xk,if_pos rfl,if_pos (Xd.1 hs).1]⟩
  ·cases h
 ·cases h
theorem ZtZ (hm:P.follows .mixedOrders=true) (hO:∀ n,Zad P (Zac fs prim bf n)) {f:FuncId} {an1 an3:Ann} {nt n0 n1 ms it nx ok en bid b1:Nat} {live:List Nat} {asl1 aslE:List AOp} {c1 c2 c3:Zq} {rs:List ZcC}
  (D:ZlL P f an1 an3 nt n0 n1 ms it nx ok en bid b1 live asl1 aslE c1 c2 c3 rs) {args:List AVal} {σ σ':Za} {r:AVal} (hg:Zkh fs prim bf live ms en b1 asl1 aslE c1 c2 c3 rs args σ=some (r,σ')) :
  (∃ fn,P.funcs[f]?=some fn/\fn.body.isSome=true/\(fn.name == "runtime.NumGoroutine")=false) /\
  ∀ base w0 I0 I β w (vs:Array Value),KLt base w0->Rel base w0 I0 I β σ w->VRs I β args vs.toList ->
   Calls P f vs w (fun e w'=>∃ u,Ends r e u/\ZbG σ.length base w0 I0 I β r σ' u w'):=by
 obtain ⟨F,B,pre,ops1,ops3,ops4,i2,i3,i4,body,rest,t,kt,et,rg,nxo,exo,eno,lE,hF,hname,hnt,hrs,hbody,hsp,h1,h3,h4,hr1,hr2,hr3,hu,hn1,hn2,hn3,hx1,hx2,hx3,he1,he2,he3,hc1,hca1,hcE,hc2,hc3,ha1,ha3,hk3,hd⟩:=D.ex
 simp only [Xl,decide_eq_true_eq,XM] at hd
 obtain ⟨⟨⟨⟨⟨⟨⟨⟨⟨⟨⟨⟨d1,d2⟩,d3⟩,d4⟩,d5⟩,d6⟩,d7⟩,d8⟩,d9⟩,d10⟩,d11⟩,d12⟩,hlv⟩:=hd
 refine ⟨⟨F,hF,by rw [hbody];rfl,hname⟩,?_⟩
 intro base w0 I0 I β w vs hb R hargs
 unfold Zkh at hg
 split at hg
 case h_2=>cases hg
 rename_i tm1 σ1 hx
 split at hg
 case h_2=>cases hg
 rename_i tm2 σm hst1
 split at hg
 case h_2=>cases hg
 rename_i mt hms
 split at hg
 case h_2=>cases hg
 rename_i es σ2 hmelt
 unfold ZgF at hg
 split at hg
 case isFalse=>cases hg
 rename_i hex
 have hall:=hex.choose_spec
 injection hg with hg
 rw [hg] at hall
 obtain ⟨nf,hx⟩:=ZaZ.1 hx
 rw [<-hc1,Zdy] at hx
 refine calls_of_wp hF hbody ?_
 rw [ZmI hsp]
 have T:=Zjx hargs (F.ntmps - vs.size)
 have hst:StF Za0 σ.length an1.nt base w0 I0 I β (enterA 0 args []) σ { tmps:=vs++Xar (F.ntmps - vs.size) undef,defers:=[] } w:=⟨I,β,Imm.le.refl I,KeptE.refl _ β,T,⟨Zdw.2 rfl,by rw [ha1,<-hnt];simp;omega⟩,R⟩
 refine Zm7 (hO nf) hm hb σ.length nf _ pre hst hx ?_
 rintro A1 w1 ⟨I1,β1,g1,g2,T1,⟨gd,gs⟩,R1⟩
 refine wp_seq (wp_seq (wp_region_list ?_))
 have hl1:ops1.toList=ops1.toList.take n1++[rg]:=by rw [<-h1,List.take_append_drop]
 rw [hl1]
 obtain ⟨cs,hruns⟩:=Zni hst1
 refine Zkt (dr:=Za0) (O:=fun _ _ _=>none) noO (fun n hn=>by simp [Za0] at hn) hb hca1 T1 ⟨gd,gs⟩ R1 hruns ?_
 rintro A2 w2 ⟨Im,β2,k1m,k2,T2m,⟨kd,ks⟩,R2m⟩
 obtain ⟨I2,km,R2,hes⟩:=ZzV R2m hmelt
 have T2:=T2m.mono km (Bmap.le.refl β2)
 have k1:=k1m.trans km
 have vms:=T2 ms
 rw [hms] at vms
 simp only [VR] at vms
 obtain ⟨b,kk,cc,hbt,vms⟩:=vms
 obtain ⟨b',kk',cc',arr,clk,e1,e2,e3,e4,e5,e6⟩:=R2.blk mt _ hes
 rw [hbt] at e1
 simp only [Xa,BI.mk.injEq] at e1
 obtain ⟨rfl,rfl,rfl⟩:=e1
 refine Zfs hr3 ?_
 unfold Oper.wp
 have er:(execOp A2.eval rg).run P w2=.ok (.value (.pointer (some ⟨w2.heap.size,0,none⟩))) { w2 with heap:=w2.heap.push (.mapIter (some b) clk #[] clk) }:=by
  unfold execOp;rw [hr1]
  simp only [Act.eval]
  rw [vms]
  simp [Instr.range,run_underlying hu,ZdF e2]
 rw [er,Oper.upon_value,hr2]
 refine wpList_nil ?_
 simp only [Exit.then]
 have hbw:=R2.base_le hb
 have hblt:b < w2.heap.size:=(XD.1 e2).1
 have howb:Ze w2 β2 mt (.map es) b:=by simp [Ze,hbt]
 have hob:=R2.own mt _ b hes howb
 generalize hr:w2.heap.size=rr at *
 have hown:∀ t x,σ2[t]?=some x->¬Ze w2 β2 t x rr:=fun t x hx ho=>by
  have:=(R2.blk t x hx).owns_lt ho;omega
 have hrb:¬base rr:=fun h=>by have:=hbw rr h;omega
 have hIr:∀ o,I2 rr o=none:=fun o=>by
  cases hi:I2 rr o with
  | none=>rfl
  | some u =>
   have:=Zde (R2.imm rr o u hi)
   omega
 generalize hw3:({ w2 with heap:=w2.heap.push (.mapIter (some b) clk #[] clk) }:World)=w3
 have w3k:∀ k,k < w2.heap.size->w3.heap[k]?=w2.heap[k]?:=fun k hk=>by
  rw [<-hw3];simp only;rw [Array.getElem?_push];rw [if_neg (by omega)]
 have R3:Rel base w0 I0 I2 β2 σ2 w3:=R2.turn hown hrb hIr (by rw [<-hw3]) (by rw [<-hw3]) (by rw [<-hw3]) (by rw [<-hw3];simp) (fun k _ hk=>w3k k hk) hbw
 have hown3:∀ t x,σ2[t]?=some x->¬Ze w3 β2 t x rr:=fun t x hx ho=>hown t x hx (((R2.blk t x hx).owns_at (Bmap.le.refl β2) (fun b' hb'=>w3k b' ((R2.blk t x hx).owns_lt hb')) rr).1 ho)
 refine wp_block (wp_loop_rounds (es.length+1) ?_)
 have hlen:arr.size=es.length:=by
  have:=Zaa e3
  simpa using this.symm
 refine Zuy (base:=base) (w0:=w0) (I0:=I0) (m:=σ.length) (live:=live) (ms:=ms) (it:=it) (nx:=nx) (ok:=ok) (en:=en) (nt:=nt) (c3:=c3) (rs:=rs) hm hO hb h3 h4 hn1 hn2 hn3 hx1 hx2 hx3 he1 he2 he3 hcE hc2 ha3 hk3 d1 d2 d3 d4 d5 d6 d7 d8 d9 d10 d11 d12 (fun n hn=>by have:=hlv n hn;exact ⟨this.1.1.1,this.1.1.2,this.1.2,this.2⟩)
  (r:=rr) (b:=b) (arr:=arr) (clk:=clk) (es:=es) (tm2:=tm2) (σ2:=σ2) (out:=(r,σ')) (I:=I2) (β:=β2) e6 hlen (by omega) hrb hob.1 hall ?_ (es.length+1) [] tm2 σ2 _ w3 (by simp) (by simp) (by simp) rfl ?_ ?_ ?_
 ·
  intro tm σx a wx I' β' hend j1 j2 jT jd jR
  simp only [Exit.inBlock,if_true,Exit.then]
  unfold ZeB at hend
  obtain ⟨β3,q1,q2,q3⟩:=Zja jR jT σ.length
  generalize hev:evC fs prim bf σ.length c3 (gcT σ.length (keepL live tm) σx).1 (gcT σ.length (keepL live tm) σx).2=res at hend
  cases res with
  | none=>simp only [ZaR] at hend;cases hend
  | some q =>
   obtain ⟨e,tm',σe⟩:=q
   obtain ⟨n3,hev⟩:=ZaZ.1 hev
   rw [<-hc3,Zdy] at hev
   have kk1:KeptE σ.length β β3:=(g2.trans (KeptE.of_le k2)).trans (j2.trans q1)
   have st:StF Za0 σ.length an1.nt base w0 I0 I β (gcT σ.length (keepL live tm) σx).1 (gcT σ.length (keepL live tm) σx).2 a wx:=⟨I',β3,(g1.trans k1).trans j1,kk1,q3,⟨Zdw.2 jd.1,by rw [ha1];exact jd.2⟩,q2⟩
   have fin:(match resA tm' σe rs with | some r=>ZaD σ.length σe r | none=>none)=some (r,σ')->∀ a' w',StF Za0 σ.length an1.nt base w0 I0 I β tm' σe a' w'->a'.defers=[]/\∃ v,(results F a'.tmps).run P w'=.ok v w'/\∃ u,Ends r (.returned v) u/\ZbG σ.length base w0 I0 I β r σ' u w':=by
    intro hr a' w' ⟨I1,β1,g1,g2,g3,g4,g5⟩
    split at hr
    ·rename_i x hx1
     obtain ⟨v,h1,h2⟩:=Zl0 g3 g5 hrs hx1
     have hnp:∀ y,x≠.pan y:=by rintro y rfl;simp only [VR] at h2
     obtain ⟨q1,q2⟩:=Zgk (⟨I1,β1,g1,g2,g5,by rw [Zfi hnp];exact h2⟩:ZbG σ.length base w0 I0 I β x σe v w') hr
     refine ⟨Zdw.1 g4.1,v,h1,v,q2 _ ?_,q1⟩
     cases x <;> first | rfl | exact absurd rfl (hnp _)
    ·cases hr
   refine Zg4 (dr:=Za0) (an:=an1) (hO n3) (fun n hn=>by simp [Za0] at hn) hm hb σ.length n3 rfl st hev ?_
   cases e with
   | normal=>simp only [ZaR] at hend;exact fun a' w' hs=>fin hend a' w' hs
   | ret=>simp only [ZaR] at hend;exact fun a' w' hs=>fin hend a' w' hs
   | exit id=>simp only [ZaR] at hend;cases hend
   | panic x =>
    simp only [ZaR] at hend
    intro a' u w' hd hp
    obtain ⟨q1,q2⟩:=Zgk hp hend
    exact ⟨Zdw.1 hd,u,q2 _ rfl,q1⟩
 ·rw [<-hw3,<-hr];simp
 ·rw [w3k b (by omega)];exact e2
 ·refine ⟨I2,β2,Imm.le.refl _,KeptE.refl _ _,?_,⟨⟨by rw [Zha];exact Zdw.1 kd,fun k hk=>?_⟩,by rw [Zdc];omega⟩,R3,hIr,hown3⟩
  ·refine Zgi (T2.keep live) ?_
   rw [ZfZ,if_neg]
   exact fun h=>(hlv it h).1.1.1 rfl
  ·have hk':k=it\/k=ms:=by simpa [Zcm] using hk
   rcases hk' with rfl | rfl
   ·rw [pgs (by omega)];simp [Zcm]
   ·rw [pgn d5,vms];simp [Zcm,WY d5]
end
end
end Go.Proofs.Ytfpahnkbjfimdaa
