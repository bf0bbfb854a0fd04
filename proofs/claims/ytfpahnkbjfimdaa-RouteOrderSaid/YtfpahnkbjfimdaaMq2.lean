/- packed -/
import Derived.Test.YtfpahnkbjfimdaaMq1
import Derived.Orders
import Derived.LoopN
import Derived.Scope
import Derived.Laws.Cover3
import Derived.Defers
import Derived.Recover
import Derived.Tactics
import Derived.Maps.RangeRun
set_option linter.unusedSectionVars false
set_option linter.unusedSimpArgs false
set_option linter.unusedVariables false
open Option.some renaming injEq→Xa,inj→Xar
open Prod.mk renaming injEq→Xb
open List renaming getElem?_eq_some_iff→Xd,getD_eq_getElem?_getD→Xi,getElem?_set→Xj,mem_of_getElem?→Xr,map_cons→Xs,all_cons→Xt,mem_append→Xu,getElem?_eq_getElem→Xy,getElem?_cons_zero→XE,length_nil→XF,all_eq_true→XI,mem_cons→XJ,mem_map→XK,replicate→XL,getD_cons_zero→XM,getElem?_eq_none→XT,getD_cons_succ→XU,map_nil→XV,mem_singleton→XW,getElem?_map→XX,eq_nil_of_length_eq_zero→XY,lookup_cons→XZ,contains_nil→X0,append_nil→X2,map_append→X9,mem_flatMap→Wg,nodup_cons→Wh,cons_append→Wp,getElem?_append_left→Wv,pairwise_append→Wz,mem_filter→WC,range→WH,drop_eq_nil_of_le→WI,getElem?_set_ne→WQ,getElem?_append_right→WR,drop_eq_getElem_cons→WS,pairwise_cons→WV,set_comm→W1,mem_range→W2,nodup_append→Xad,getElem_mem→Xak,isEmpty_iff→Xal,contains_cons→Xao,range'→Xaz,nodup_range→XaM,contains_eq_mem→XaP,mapM_cons→XaZ,map_take→Xa5,range'_succ→Xa9
open Bool renaming and_eq_true→Xl,false_eq_true→Xw,or_eq_true→Wu,not_eq_true'→Ww,and_self→W7,true_or→Xah,or_false→XaD,or_true→XaI,or_eq_false_iff→XaO
open Option renaming map_eq_some_iff→Xm,map_some→XQ,bind_some→X7,getD_some→Wt,map→WW,getD_none→Xaw
open Or renaming inl→Xv,inr→XD
open Array renaming getElem?_eq_some_iff→XB,length_toList→XR,getElem?_setIfInBounds_ne→Wb,getD_eq_getD_getElem?→WB,replicate→Xaq,getD→Xas
open Nat renaming zero_add→XC,le_refl→XN,add_zero→Wf,add_assoc→WE,le_max_right→WZ,le_max_left→W3,sub_self→Xap,lt_or_ge→XaA
open Ne renaming symm→W0
namespace Go.Proofs.Ytfpahnkbjfimdaa
set_option maxHeartbeats 16000000
set_option maxRecDepth 10000
section
open Go.RowKit
section
variable {O:ZY} {bf:Nat->Bool} {tm:Tms} {σ σ':Za} {sq s:Nat} {b:ZU}
theorem Zfd:∀ (ts:List Nat) (σ:Za),(Zr σ ts)[s]?=some .free↔σ[s]?=some .free
 | [],σ=>Iff.rfl
 | t::ts,σ=>by
  simp only [Zr]
  split
  ·rename_i g k xs hs
   rw [Zfd ts,Xj]
   split
   ·rename_i e;subst e
    split
    ·simp [hs]
    ·simp [hs]
   ·exact Iff.rfl
  ·exact Zfd ts σ
theorem Zrp {cs:List AVal} {t:Nat}:∀ (ts:List Nat) (σ:Za),σ[t]?=some (.var cs)->(Zr σ ts)[t]?=some (.var cs)
 | [],σ,h=>h
 | u::ts,σ,h=>by
  simp only [Zr]
  split
  ·rename_i g k xs hs
   refine Zrp ts _ ?_
   rw [Xj]
   split
   ·rename_i e;subst e;rw [hs] at h;cases h
   ·exact h
  ·exact Zrp ts σ h
theorem ZjG:∀ (ts:List Nat) (σ:Za),s ∉ ts->Zr (σ.set s b) ts=(Zr σ ts).set s b
 | [],σ,_=>rfl
 | t::ts,σ,h=>by
  simp only [XJ,not_or] at h
  have e:(σ.set s b)[t]?=σ[t]?:=by rw [Xj,if_neg h.1]
  simp only [Zr,e]
  split
  ·rw [W1 _ _ h.1,ZjG ts _ h.2]
  ·exact ZjG ts σ h.2
theorem ZfJ {t:Nat} (h:s≠t):(σ.set s b).getD t .free=σ.getD t .free:=by
 rw [Xi,Xi,Xj,if_neg h]
theorem ZjQ:∀ (n:Nat) (todo acc:List Nat),∀ x ∈ acc,x ∈ Zf σ n todo acc
 | 0,_,acc,x,h=>h
 | n+1,[],acc,x,h=>h
 | n+1,t::todo,acc,x,h=>by
  simp only [Zf]
  split
  ·exact ZjQ n todo acc x h
  ·exact ZjQ n _ _ x (by simp [h])
theorem Zsn:∀ (n:Nat) (todo acc:List Nat),s ∉ Zf σ n todo acc->Zf (σ.set s b) n todo acc=Zf σ n todo acc
 | 0,_,acc,_=>rfl
 | n+1,[],acc,_=>rfl
 | n+1,t::todo,acc,h=>by
  simp only [Zf] at h ⊢
  split
  ·rename_i hc;rw [if_pos hc] at h;exact Zsn n todo acc h
  ·rename_i hc
   rw [if_neg hc] at h
   have hne:s≠t:=by
    rintro rfl
    exact h (ZjQ n _ _ s (by simp))
   rw [ZfJ hne]
   exact Zsn n _ _ h
theorem Zwh {m:Nat} {ids:List Nat} (h:s ∉ ids):Ze (σ.set s b) m ids=Ze σ m ids:=by
 funext t g
 unfold Ze
 split
 ·rename_i j hj
  obtain ⟨k,_,hk⟩:=Zr4 hj
  have : s≠t:=by rintro rfl;exact h (Xr hk)
  rw [Xj,if_neg this]
 ·rfl
theorem Zt7 {m:Nat} {ids:List Nat} {ρ:Rho}:∀ (ts:List Nat) (j:Nat),s ∉ ts->Zg (σ.set s b) m ids ρ ts j=Zg σ m ids ρ ts j
 | [],_,_=>rfl
 | t::ts,j,h=>by
  simp only [XJ,not_or] at h
  simp only [Zg,ZfJ h.1,Zt7 ts (j+1) h.2]
theorem Ztj {ids:List Nat} (h:s ∉ ids):∀ (hp:Za) (j:Nat),ZcA (σ.set s b) ids hp j=ZcA σ ids hp j
 | [],_=>rfl
 | x::xs,j=>by
  simp only [ZcA,Ztj h xs (j+1)]
  congr 2
  split
  ·rename_i t ht
   have : s≠t:=by rintro rfl;exact h (Xr ht)
   rw [ZfJ this]
  ·rfl
theorem Zvz:∀ (n sq:Nat),(∀ i,i < n->sq+i≠s)->Zc8 (σ.set s b) sq n=Zc8 σ sq n
 | 0,_,_=>rfl
 | n+1,sq,h=>by
  have h0:=h 0 (by omega)
  simp only [Zc8,freeAt]
  rw [Xj,if_neg (by intro e;exact h0 (by simpa using e.symm)),Zvz n (sq+1) (fun i hi=>by have:=h (i+1) (by omega);rwa [show sq+1+i=sq+(i+1) by omega])]
theorem Zte {ids:List Nat} (h:s ∉ ids):Za2 (σ.set s b) ids sq=Za2 σ ids sq:=by
 funext j g
 unfold Za2
 split
 ·rename_i t ht
  have : s≠t:=by rintro rfl;exact h (Xr ht)
  rw [ZfJ this]
 ·rfl
theorem ZtQ {σ0:Za} {ids:List Nat} (h:s ∉ ids):∀ (hp:Za) (j:Nat) (σ:Za),(∀ i,i < hp.length->ZaG ids sq (j+i)≠s)->Zbo (σ0.set s b) ids sq hp j (σ.set s b)=(Zbo σ0 ids sq hp j σ).set s b
 | [],_,_,_=>rfl
 | x::xs,j,σ,hn=>by
  have h0:=hn 0 (by simp)
  simp only [Wf] at h0
  have eg:Zb8 (σ0.set s b) ids j x=Zb8 σ0 ids j x:=by
   unfold Zb8
   split
   ·rename_i t ht
    have : s≠t:=by rintro rfl;exact h (Xr ht)
    rw [ZfJ this]
   ·rfl
  simp only [Zbo,Zte h,eg]
  rw [W1 _ _ (W0 h0)]
  exact ZtQ h xs (j+1) _ (fun i hi=>by have:=hn (i+1) (by simp;omega);rwa [show j+1+i=j+(i+1) by omega])
theorem Ztd:∀ (ids:List Nat),s ∉ ids->Zcw (σ.set s b) ids=Zcw σ ids
 | [],_=>rfl
 | t::ts,h=>by
  simp only [XJ,not_or] at h
  simp only [Zcw,Xj,if_neg h.1,Ztd ts h.2]
theorem Zz9 {ρ:Rho} {g:Nat} {x:ZU} (h:okB x=true):Zh ρ g x≠.free:=by
 cases x <;> simp [okB] at h <;> simp [Zh]
theorem Zp1 {σ0:Za} {ids:List Nat}:∀ (hp:Za) (j:Nat) (σ:Za),ZcA σ0 ids hp j=true->(Zbo σ0 ids sq hp j σ)[s]?=some .free->σ[s]?=some .free
 | [],_,_,_,h=>h
 | x::xs,j,σ,hk,h=>by
  simp only [ZcA,Xl] at hk
  simp only [Zbo] at h
  have:=Zp1 xs (j+1) _ hk.2 h
  rw [Xj] at this
  split at this
  ·split at this
   ·injection this with this;exact absurd this (Zz9 hk.1.1)
   ·cases this
  ·exact this
theorem ZwM {ts:List Nat} (h:Zdz σ ts) (hs:σ[s]?=some .free):s ∉ ts:=by
 intro hm
 obtain ⟨x,hx,hne⟩:=h s hm
 rw [hs] at hx;injection hx with hx;exact hne hx.symm
theorem Zvh {f own:Nat} {view:Bool} {args:List AVal} {v:AVal} {c:Cls} (h:ZZ O bf σ sq f own view args=some (v,σ',c)) (hs':σ'[s]?=some .free) (hne:∀ i,i < own->sq+i≠s) :
  σ[s]?=some .free/\ZZ O bf (σ.set s b) sq f own view args=some (v,σ'.set s b,c):=by
 unfold ZZ at h
 split at h
 ·cases h
 rename_i xs ts hsh
 have hnf:Zdz σ ts:=by
  unfold Zcu at hsh
  split at hsh
  ·simp only [Xa,Xb] at hsh
   rw [<-hsh.2];exact Zct
  ·exact (Zhh hsh).nonfree
 have hag:∀ σ2,Agree σ σ2 ts->Zcu (bf f) σ2 args=some (xs,ts):=by
  intro σ2 hA
  unfold Zcu at hsh ⊢
  split at hsh
  ·rename_i hb;rw [if_pos hb];exact hsh
  ·rename_i hb;rw [if_neg hb];exact Zq7 hsh hA
 generalize hids:Zf (Zr σ ts) 1000 (ZW xs) []=ids at h
 unfold ZbJ at h
 split at h
 case isFalse=>cases h
 rename_i hall
 generalize hq:ZaA view ids.length (O f (ZV (Ze (Zr σ ts) 0 ids) xs) (Zg (Zr σ ts) 0 ids (Ze (Zr σ ts) 0 ids) ids 0))=q at h
 have key:σ[s]?=some .free->s ∉ ts/\s ∉ ids/\ZZ O bf (σ.set s b) sq f own view args=Zay (σ.set s b) ((Zr σ ts).set s b) ids ts sq own q:=by
  intro hs
  have n1:=ZwM hnf hs
  have hsf:(Zr σ ts)[s]?=some .free:=(Zfd ts σ).2 hs
  have n2:s ∉ ids:=by
   intro hm
   have:=XI.1 hall s hm
   rw [Xi,hsf] at this
   simp [okB] at this
  refine ⟨n1,n2,?_⟩
  unfold ZZ
  rw [hag _ (fun t ht=>by rw [Xj,if_neg (by rintro rfl;exact n1 ht)])]
  simp only
  rw [ZjG ts σ n1,Zsn _ _ _ (by rw [hids];exact n2),hids]
  unfold ZbJ
  have hall2:(ids.all fun t=>okB (((Zr σ ts).set s b).getD t .free))=true:=by
   rw [XI] at hall ⊢
   intro t ht
   rw [ZfJ (by rintro rfl;exact n2 ht)]
   exact hall t ht
  rw [if_pos hall2,Zwh n2,Zt7 ids 0 n2,hq]
 cases q with
 | none=>simp only [Zay] at h;cases h
 | some q =>
  obtain ⟨r,hp⟩:=q
  simp only [Zay] at h
  split at h
  ·rename_i hc
   split at h
   ·rename_i hf
    simp only [Xa,Xb] at h
    obtain ⟨rfl,rfl,rfl⟩:=h
    obtain ⟨n1,n2,k⟩:=key hs'
    refine ⟨hs',?_⟩
    rw [k]
    simp only [Zay,hc,if_true,hf]
   split at h
   ·rename_i hf hap
    simp only [Xa,Xb] at h
    obtain ⟨rfl,rfl,rfl⟩:=h
    obtain ⟨n1,n2,k⟩:=key hs'
    refine ⟨hs',?_⟩
    have hap2:Zcq (σ.set s b) ts r=true:=by
     unfold Zcq at hap ⊢
     simp only [Xl] at hap ⊢
     refine ⟨hap.1,XI.2 fun t ht=>?_⟩
     have:=XI.1 hap.2 t ht
     unfold ZeG at this ⊢
     rw [Xj,if_neg (by rintro rfl;exact n1 ht)];exact this
    rw [k]
    simp only [Zay,hc,if_true,hf,hap2,if_false,Xw]
   ·rename_i hf hap
    simp only [Xa,Xb] at h
    obtain ⟨rfl,rfl,rfl⟩:=h
    have hs:=(Zfd ts σ).1 hs'
    obtain ⟨n1,n2,k⟩:=key hs
    refine ⟨hs,?_⟩
    have hap2:¬Zcq (σ.set s b) ts r=true:=by
     intro h2
     refine hap ?_
     unfold Zcq at h2 ⊢
     simp only [Xl] at h2 ⊢
     refine ⟨h2.1,XI.2 fun t ht=>?_⟩
     have:=XI.1 h2.2 t ht
     unfold ZeG at this ⊢
     rw [Xj,if_neg (by rintro rfl;exact n1 ht)] at this;exact this
    rw [k]
    simp only [Zay,hc,if_true,hf,if_neg hap2,if_false,Xw]
  ·rename_i hc
   split at h
   ·rename_i lo n k xs' hcl
    simp only [Xa,Xb] at h
    obtain ⟨rfl,rfl,rfl⟩:=h
    have hown:own=1:=by
     split at hcl
     case isFalse=>cases hcl
     unfold Zf7 at hcl
     split at hcl
     case h_2=>cases hcl
     split at hcl
     case isFalse=>cases hcl
     rename_i hcc
     simp only [Xl,decide_eq_true_eq] at hcc
     exact hcc.1
    have hns:sq≠s:=by have:=hne 0 (by omega);simpa using this
    have hs:σ[s]?=some .free:=by rwa [Xj,if_neg hns] at hs'
    obtain ⟨n1,n2,kk⟩:=key hs
    refine ⟨hs,?_⟩
    rw [kk]
    simp only [Zay]
    rw [if_neg hc,hcl]
    simp only
    rw [W1 _ _ (W0 hns)]
   split at h
   ·rename_i hcl hcc
    simp only [Xa,Xb] at h
    obtain ⟨rfl,rfl,rfl⟩:=h
    simp only [Xl,decide_eq_true_eq] at hcc
    obtain ⟨⟨⟨c1,c2⟩,c3⟩,c4⟩:=hcc
    have hs:=(Zfd ts σ).1 (Zp1 hp 0 _ c3 hs')
    obtain ⟨n1,n2,kk⟩:=key hs
    refine ⟨hs,?_⟩
    rw [kk]
    have htg:∀ i,i < hp.length->ZaG ids sq (0+i)≠s:=by
     intro i hi e
     rw [XC] at e
     unfold ZaG at e
     rw [Xi] at e
     rcases XaA i ids.length with hl | hl
     ·rw [Xy hl] at e
      simp only [Wt] at e
      exact n2 (e ▸ Xak hl)
     ·rw [XT hl] at e
      exact hne (i - ids.length) (by omega) e
    simp only [Zay]
    rw [if_neg hc,hcl]
    simp only [c1,c2,decide_true,Bool.true_and,Ztj n2,c3,Zvz own sq hne,c4,W7,if_true,Zte n2,ZtQ n2 hp 0 _ htg,Ztd ids n2]
   ·cases h
theorem Zze {f own:Nat} {view:Bool} {args:List AVal} {v:AVal} {c:Cls} (h:ZZ O bf σ sq f own view args=some (v,σ',c)) (hs:σ'[s]?=some .free):σ[s]?=some .free:=by
 unfold ZZ at h
 split at h
 ·cases h
 rename_i xs ts hsh
 unfold ZbJ at h
 split at h
 case isFalse=>cases h
 generalize Zf (Zr σ ts) 1000 (ZW xs) []=ids at h
 generalize ZaA view ids.length (O f (ZV (Ze (Zr σ ts) 0 ids) xs) (Zg (Zr σ ts) 0 ids (Ze (Zr σ ts) 0 ids) ids 0))=q at h
 cases q with
 | none=>simp only [Zay] at h;cases h
 | some q =>
  obtain ⟨r,hp⟩:=q
  simp only [Zay] at h
  split at h
  ·split at h
   ·simp only [Xa,Xb] at h
    rw [h.2.1];exact hs
   split at h
   ·simp only [Xa,Xb] at h
    rw [h.2.1];exact hs
   ·simp only [Xa,Xb] at h
    rw [<-h.2.1] at hs
    exact (Zfd ts σ).1 hs
  ·split at h
   ·simp only [Xa,Xb] at h
    rw [<-h.2.1,Xj] at hs
    split at hs
    ·split at hs <;> simp at hs
    ·exact hs
   split at h
   ·rename_i hcc
    simp only [Xa,Xb] at h
    rw [<-h.2.1] at hs
    simp only [Xl,decide_eq_true_eq] at hcc
    exact (Zfd ts σ).1 (Zp1 hp 0 _ hcc.1.2 hs)
   ·cases h
theorem Zmc {t:Nat} {cs:List AVal}:∀ {ids:List Nat},(Zcw σ ids).lookup t=some cs->σ[t]?=some (.var cs)
 | [],h=>by simp [Zcw] at h
 | u::us,h=>by
  simp only [Zcw] at h
  split at h
  ·rename_i cs' hu
   rw [XZ] at h
   split at h
   ·rename_i e
    injection h with h;subst h
    have : t=u:=by simpa using e
    rw [this];exact hu
   ·exact Zmc h
  ·exact Zmc h
theorem ZhI {t:Nat} {cs:List AVal}:∀ {ids:List Nat},(Zcw σ ids).lookup t=none->t ∈ ids->σ[t]?≠some (.var cs)
 | u::us,h,hm=>by
  intro hv
  simp only [Zcw] at h
  rcases XJ.1 hm with e | hm
  ·subst e
   rw [hv] at h
   simp only [XZ,beq_self_eq_true] at h
   cases h
  ·split at h
   ·rw [XZ] at h
    split at h
    ·cases h
    ·exact ZhI h hm hv
   ·exact ZhI h hm hv
theorem ZtZ {σ0:Za} {ids:List Nat} {t:Nat}:∀ (hp:Za) (j:Nat) (σ:Za),(∀ i x,hp[i]?=some x->ZaG ids sq (j+i)=t->∃ cs,x=.var cs)->(∃ cs,σ[t]?=some (.var cs))->∃ cs,(Zbo σ0 ids sq hp j σ)[t]?=some (.var cs)
 | [],_,_,_,h=>h
 | x::xs,j,σ,hv,⟨cs,h⟩=>by
  simp only [Zbo]
  refine ZtZ xs (j+1) _ (fun i y hy e=>hv (i+1) y (by simpa using hy) (by rwa [show j+(i+1)=j+1+i by omega])) ?_
  rw [Xj]
  split
  ·rename_i e
   obtain ⟨cs',rfl⟩:=hv 0 x rfl (by simpa using e)
   split
   ·exact ⟨_,rfl⟩
   ·rename_i hl
    rw [e] at hl
    rw [XT (by omega)] at h;cases h
  ·exact ⟨cs,h⟩
theorem ZzV {f own:Nat} {view:Bool} {args:List AVal} {v:AVal} {c:Cls} (h:ZZ O bf σ sq f own view args=some (v,σ',c)) (ha:c.any=true) {t:Nat} {cs:List AVal} (ht:σ[t]?=some (.var cs)) :
  (c.upd.lookup t=none->σ'[t]?=some (.var cs))/\(∀ cs2,c.upd.lookup t=some cs2->σ'[t]?=some (.var cs2)):=by
 unfold ZZ at h
 split at h
 ·cases h
 rename_i xs ts hsh
 generalize hids:Zf (Zr σ ts) 1000 (ZW xs) []=ids at h
 unfold ZbJ at h
 split at h
 case isFalse=>cases h
 generalize ZaA view ids.length (O f (ZV (Ze (Zr σ ts) 0 ids) xs) (Zg (Zr σ ts) 0 ids (Ze (Zr σ ts) 0 ids) ids 0))=q at h
 cases q with
 | none=>simp only [Zay] at h;cases h
 | some q =>
  obtain ⟨r,hp⟩:=q
  simp only [Zay] at h
  split at h
  ·split at h
   ·simp only [Xa,Xb] at h
    rw [<-h.2.2] at ha;cases ha
   split at h
   ·simp only [Xa,Xb] at h
    rw [<-h.2.2] at ha;cases ha
   ·simp only [Xa,Xb] at h
    rw [<-h.2.2] at ha;cases ha
  ·split at h
   ·simp only [Xa,Xb] at h
    rw [<-h.2.2] at ha;cases ha
   split at h
   ·rename_i hcc
    simp only [Xa,Xb] at h
    obtain ⟨_,rfl,rfl⟩:=h
    simp only [Xl,decide_eq_true_eq] at hcc
    obtain ⟨⟨⟨c1,c2⟩,c3⟩,c4⟩:=hcc
    have hf:=Zrp ts σ ht
    refine ⟨fun hn=>?_,fun cs2 hc2=>Zmc hc2⟩
    have tgt:∀ i,i < hp.length->ZaG ids sq (0+i)=t->i < ids.length/\ids[i]?=some t:=by
     intro i hi e
     rw [XC] at e
     unfold ZaG at e
     rw [Xi] at e
     rcases XaA i ids.length with hl | hl
     ·rw [Xy hl] at e ⊢
      simp only [Wt] at e
      exact ⟨hl,by rw [e]⟩
     ·rw [XT hl] at e
      simp only [Xaw] at e
      have:=Zgh c4 (i:=i - ids.length) (by omega)
      rw [e,hf] at this;cases this
    by_cases hm:t ∈ ids
    ·exfalso
     obtain ⟨cs3,h3⟩:=ZtZ (σ0:=Zr σ ts) (sq:=sq) (ids:=ids) (t:=t) hp 0 (Zr σ ts) (fun i x hx e=>by
      obtain ⟨hl,hi⟩:=tgt i (Xd.1 hx).1 e
      have:=(Zfe c3 hx).2
      rw [XC,hi] at this
      simp only at this
      have hk:=this.1
      rw [Xi,hf] at hk
      simp only [Wt] at hk
      cases x <;> simp [ZeI] at hk
      exact ⟨_,rfl⟩) ⟨_,hf⟩
     exact ZhI hn hm h3
    ·rw [Zgx (fun i hi e=>hm (by
      obtain ⟨hl,hi⟩:=tgt i hi e
      exact Xr hi))]
     exact hf
   ·cases h
end
end
section
open Go.RowKit
section
variable {P:Program} {O:ZY} {bf:Nat->Bool} {tm tm1 tm2:Tms} {σ σ' σ1 σ2:Za} {sq:Nat}
theorem ZtS {d:Option Nat} {v:AVal} {n:Nat} (h:d≠some n):tget (tput tm d v) n=tget tm n:=by
 cases d with
 | none=>rfl
 | some d =>
  have : d≠n:=by rintro rfl;exact h rfl
  simp only [tput,Zfv,this,if_false]
theorem Zvn {a b:Nat} (u v:AVal) (h:a≠b):∀ tm:Tms,tins b v (tins a u tm)=tins a u (tins b v tm)
 | []=>by
  simp only [tins]
  by_cases h1:a < b
  ·have h2:¬b < a:=by omega
   have h3:¬b=a:=by omega
   simp [h1,h2,h3,tins]
  ·have h2:b < a:=by omega
   have h3:¬a=b:=h
   simp [h1,h2,h3,tins]
 | (e,w)::r=>by
  have ih:=Zvn u v h r
  rcases Nat.lt_trichotomy e a with ha | ha | ha <;> rcases Nat.lt_trichotomy e b with hb | hb | hb
  ·rcases Nat.lt_or_gt_of_ne h with hab | hab
   ·have n1:¬b < a:=by omega
    have n2:¬b=a:=by omega
    simp [tins,ha,hb,hab,n1,n2]
   ·have n1:¬a < b:=by omega
    have n2:¬a=b:=h
    simp [tins,ha,hb,hab,n1,n2]
  ·subst hb
   have n1:¬a < e:=by omega
   have n2:¬a=e:=h
   simp [tins,ha,n1,n2]
  ·have n1:¬a < b:=by omega
   have n2:¬a=b:=h
   have n3:¬e < b:=by omega
   have n4:¬e=b:=by omega
   simp [tins,ha,n1,n2,n3,n4]
  ·subst ha
   have n1:¬b < e:=by omega
   have n2:¬b=e:=fun q=>h q.symm
   simp [tins,hb,n1,n2]
  ·exact absurd (ha.symm.trans hb) h
  ·subst ha
   have n3:¬e < b:=by omega
   have n4:¬e=b:=by omega
   simp [tins,n3,n4]
  ·have n1:¬b < a:=by omega
   have n2:¬b=a:=by omega
   have n3:¬e < a:=by omega
   have n4:¬e=a:=by omega
   simp [tins,hb,n1,n2,n3,n4]
  ·subst hb
   have n3:¬e < a:=by omega
   have n4:¬e=a:=by omega
   simp [tins,n3,n4]
  ·have n1:¬e < a:=by omega
   have n2:¬e=a:=by omega
   have n3:¬e < b:=by omega
   have n4:¬e=b:=by omega
   simp [tins,n1,n2,n3,n4,ih]
theorem Zdy {a b:Option Nat} (u v:AVal) (h:∀ d,a=some d->b≠some d):tput (tput tm a u) b v=tput (tput tm b v) a u:=by
 cases a with
 | none=>cases b <;> rfl
 | some a =>
  cases b with
  | none=>rfl
  | some b =>
   simp only [tput]
   exact Zvn u v (by rintro rfl;exact h a rfl rfl) tm
theorem Zc2 {g:Option (Nat×Bool)} (h:∀ j b,g=some (j,b)->tget tm j=tget tm1 j):ZaR g tm=ZaR g tm1:=by
 cases g with
 | none=>rfl
 | some g=>simp only [ZaR];rw [h g.1 g.2 rfl]
theorem ZcP {o:AOp} {j:Nat} {b:Bool} (h:o.guard=some (j,b)):j ∈ o.reads:=by simp [AOp.reads,h]
theorem ZeT {o:AOp} {n:Nat} (h:n ∈ o.ins.reads):n ∈ o.reads:=by simp [AOp.reads,h]
theorem Zeo {o:AOp} {v:AVal} {c:Cls} (h:Zv O bf o sq tm σ=some (v,tm1,σ1,c)):tm1=tput tm o.dst v/\∀ tm',(∀ n ∈ o.reads,tget tm n=tget tm' n)->Zv O bf o sq tm' σ=some (v,tput tm' o.dst v,σ1,c):=by
 unfold Zv at h
 split at h
 ·cases h
 ·rename_i hw
  simp only [Xa,Xb] at h
  obtain ⟨rfl,rfl,rfl,rfl⟩:=h
  refine ⟨rfl,fun tm' hr=>?_⟩
  simp only [Zv,Zc2 (g:=o.guard) (tm:=tm') (tm1:=tm) (fun j b hg=>(hr j (ZcP hg)).symm),hw]
 ·rename_i hw
  split at h
  ·rename_i hf
   split at h
   ·rename_i v' σ'' c' he
    simp only [Xa,Xb] at h
    obtain ⟨rfl,rfl,rfl,rfl⟩:=h
    refine ⟨rfl,fun tm' hr=>?_⟩
    simp only [Zv,Zc2 (g:=o.guard) (tm:=tm') (tm1:=tm) (fun j b hg=>(hr j (ZcP hg)).symm),hw]
    rw [if_pos hf,<-ZeR (tm:=tm) (tm':=tm') (fun n hn=>hr n (ZeT hn)),he]
   ·cases h
  ·cases h
theorem ZfG {o:AOp} {v:AVal} {c:Cls} (h:Zv O bf o sq tm σ=some (v,tm1,σ1,c)) (hn:Zco c=true) :
  ∃ ob,tm1=tput tm o.dst v/\σ1=Zav σ sq ob/\(ob.isSome=true->nsite o.ins≠0/\freeAt σ sq=true)/\ob≠some .free/\Zdz σ c.rd /\
   ∀ tm' σ2,(∀ n ∈ o.reads,tget tm n=tget tm' n)->Agree σ σ2 c.rd->(nsite o.ins≠0->freeAt σ sq=true->freeAt σ2 sq=true)->Zv O bf o sq tm' σ2=some (v,tput tm' o.dst v,Zav σ2 sq ob,c):=by
 simp only [Zco,Xl,Xal,Ww] at hn
 unfold Zv at h
 split at h
 ·cases h
 ·rename_i hw
  simp only [Xa,Xb] at h
  obtain ⟨rfl,rfl,rfl,rfl⟩:=h
  refine ⟨none,rfl,rfl,by simp,by simp,Zct,fun tm' σ2 hr _ _=>?_⟩
  simp only [Zv,Zc2 (g:=o.guard) (tm:=tm') (tm1:=tm) (fun j b hg=>(hr j (ZcP hg)).symm),hw,Zav]
 ·rename_i hw
  split at h
  ·rename_i hf
   split at h
   ·rename_i v' σ'' c' he
    simp only [Xa,Xb] at h
    obtain ⟨rfl,rfl,rfl,rfl⟩:=h
    obtain ⟨ob,e1,e2,e3,e4,e5⟩:=Zzw he hn.1 hn.2
    refine ⟨ob,rfl,e1,fun ho=>⟨e2 ho,?_⟩,e3,e4,fun tm' σ2 hr hA hfr=>?_⟩
    ·have:=e2 ho
     simpa [this] using hf
    ·have hf2:(nsite o.ins == 0 || freeAt σ2 sq)=true:=by
      by_cases h0:nsite o.ins=0
      ·simp [h0]
      ·simp only [Wu,beq_iff_eq,h0,false_or] at hf ⊢
       exact hfr h0 hf
     simp only [Zv,Zc2 (g:=o.guard) (tm:=tm') (tm1:=tm) (fun j b hg=>(hr j (ZcP hg)).symm),hw]
     have e5':execI O bf tm σ2 sq o.ins=some (v',Zav σ2 sq ob,c'):=e5 σ2 hA
     rw [if_pos hf2,<-ZeR (tm:=tm) (tm':=tm') (fun n hn=>hr n (ZeT hn)),e5']
   ·cases h
  ·cases h
theorem Zdx {s:Nat}:freeAt σ s=true↔σ[s]?=some .free:=by
 unfold freeAt
 split
 ·rename_i h;simp [h]
 ·rename_i h
  constructor
  ·intro h';cases h'
  ·intro h';exact absurd h' h
theorem ZgM {s t:Nat} {ob:Option ZU} (h:ob.isSome=true->s≠t):(Zav σ s ob)[t]?=σ[t]?:=by
 cases ob with
 | none=>rfl
 | some b=>simp only [Zav];rw [Xj,if_neg (h rfl)]
theorem ZwA {s t:Nat} {ob oc:Option ZU} (h:ob.isSome=true->oc.isSome=true->s≠t):Zav (Zav σ s ob) t oc=Zav (Zav σ t oc) s ob:=by
 cases ob with
 | none=>cases oc <;> rfl
 | some b =>
  cases oc with
  | none=>rfl
  | some c=>simp only [Zav];exact W1 b c (h rfl rfl)
theorem Zxp {x y:AVal} (h:ZbL x y=true):x=y:=by
 unfold ZbL at h
 split at h
 all_goals first
  | rfl
  | (cases h;done)
  | (simp only [Xl,decide_eq_true_eq,beq_iff_eq] at h;simp_all;done)
theorem ZgY {o:AOp} {v:AVal} {c:Cls} (hc:ZaI o.ins=true) (h:Zv O bf o sq tm σ=some (v,tm1,σ1,c)) :
  (ZaR o.guard tm=some false/\v=.tup []/\σ1=σ/\c={}) \/
  (ZaR o.guard tm=some true/\(nsite o.ins == 0 || freeAt σ sq)=true/\∃ f own view args,own<=nsite o.ins/\(∀ tm' σ2 v2 σ3 c2,(∀ n ∈ o.reads,tget tm n=tget tm' n)->(nsite o.ins == 0 || freeAt σ2 sq)=true->ZZ O bf σ2 sq f own view args=some (v2,σ3,c2)->Zv O bf o sq tm' σ2=some (v2,tput tm' o.dst v2,σ3,c2))/\ZZ O bf σ sq f own view args=some (v,σ1,c)):=by
 unfold Zv at h
 split at h
 ·cases h
 ·rename_i hw
  simp only [Xa,Xb] at h
  obtain ⟨rfl,rfl,rfl,rfl⟩:=h
  exact Xv ⟨hw,rfl,rfl,rfl⟩
 ·rename_i hw
  split at h
  ·rename_i hf
   split at h
   ·rename_i v' σ'' c' he
    simp only [Xa,Xb] at h
    obtain ⟨rfl,rfl,rfl,rfl⟩:=h
    refine XD ⟨hw,hf,?_⟩
    have gen:∀ tm' σ2,(∀ n ∈ o.reads,tget tm n=tget tm' n)->(nsite o.ins == 0 || freeAt σ2 sq)=true->∀ v2 σ3 c2,execI O bf tm σ2 sq o.ins=some (v2,σ3,c2)->Zv O bf o sq tm' σ2=some (v2,tput tm' o.dst v2,σ3,c2):=by
     intro tm' σ2 hr hf2 v2 σ3 c2 he2
     simp only [Zv,Zc2 (g:=o.guard) (tm:=tm') (tm1:=tm) (fun j b hg=>(hr j (ZcP hg)).symm),hw]
     rw [if_pos hf2,<-ZeR (tm:=tm) (tm':=tm') (fun n hn=>hr n (ZeT hn)),he2]
    cases hins:o.ins with
    | call f own view args =>
     rw [hins] at he gen
     simp only [execI] at he gen
     refine ⟨f,own,view,args.map (·.ev tm),XN _,fun tm' σ2 v2 σ3 c2 hr hf2 h2=>?_,he⟩
     exact gen tm' σ2 hr hf2 v2 σ3 c2 h2
    | callv x args =>
     rw [hins] at he gen
     simp only [execI] at he
     split at he
     ·rename_i f caps hx
      refine ⟨(if f < 1000000 then f else f - 1000000),4,false,(if f < 1000000 then args.map (·.ev tm)++caps else caps++args.map (·.ev tm)),by simp [nsite],fun tm' σ2 v2 σ3 c2 hr hf2 h2=>?_,he⟩
      refine gen tm' σ2 hr hf2 v2 σ3 c2 ?_
      simp only [execI,hx]
      exact h2
     ·cases he
    | _=>rw [hins] at hc;simp [ZaI] at hc
   ·cases h
  ·cases h
theorem Zxt {o:AOp} {v:AVal} {c:Cls} {s:Nat} (hc:ZaI o.ins=true) (h:Zv O bf o sq tm σ=some (v,tm1,σ1,c)) (hs:σ1[s]?=some .free) (hne:∀ i,i < nsite o.ins->sq+i≠s) :
  σ[s]?=some .free/\∀ b tm',(∀ n ∈ o.reads,tget tm n=tget tm' n)->Zv O bf o sq tm' (σ.set s b)=some (v,tput tm' o.dst v,σ1.set s b,c):=by
 have h0:=h
 rcases ZgY hc h with ⟨hw,rfl,rfl,rfl⟩ | ⟨hw,hf,f,own,view,args,ho,gen,hg⟩
 ·refine ⟨hs,fun b tm' hr=>?_⟩
  simp only [Zv,Zc2 (g:=o.guard) (tm:=tm') (tm1:=tm) (fun j b hg=>(hr j (ZcP hg)).symm),hw]
 ·obtain ⟨k1,k2⟩:=Zvh (b:=.free) hg hs (fun i hi=>hne i (by omega))
  refine ⟨k1,fun b tm' hr=>gen tm' _ _ _ _ hr ?_ (Zvh (b:=b) hg hs (fun i hi=>hne i (by omega))).2⟩
  by_cases h0:nsite o.ins=0
  ·simp [h0]
  ·simp only [Wu,beq_iff_eq,h0,false_or,Zdx] at hf ⊢
   have:=hne 0 (by omega)
   rw [Xj,if_neg (by intro e;exact this (by simpa using e.symm))]
   exact hf
theorem ZA8 {o:AOp} {v:AVal} {c:Cls} {s:Nat} (hc:ZaI o.ins=true) (h:Zv O bf o sq tm σ=some (v,tm1,σ1,c)) (hs:σ1[s]?=some .free):σ[s]?=some .free:=by
 rcases ZgY hc h with ⟨hw,rfl,rfl,rfl⟩ | ⟨hw,hf,f,own,view,args,ho,gen,hg⟩
 ·exact hs
 ·exact Zze hg hs
theorem ZwT {o:AOp} {v:AVal} {c:Cls} {t:Nat} {cs:List AVal} (hc:ZaI o.ins=true) (h:Zv O bf o sq tm σ=some (v,tm1,σ1,c)) (ha:c.any=true) (ht:σ[t]?=some (.var cs)) :
  (c.upd.lookup t=none->σ1[t]?=some (.var cs))/\(∀ cs2,c.upd.lookup t=some cs2->σ1[t]?=some (.var cs2)):=by
 rcases ZgY hc h with ⟨hw,rfl,rfl,rfl⟩ | ⟨hw,hf,f,own,view,args,ho,gen,hg⟩
 ·cases ha
 ·exact ZzV hg ha ht
theorem Zw3 {σ σ1 : Za} {sq k bytes : Nat} {x y v : AVal} {c : Cls} {t : Nat} {cs : List AVal} (h : Zac σ sq k bytes x y = some (v, σ1, c)) (hs : sq ≠ t) (ht : σ[t]? = some (.var cs)) : σ1[t]? = some (.var cs) := by
  have key : ∀ (u : Nat) (b : ZU), (u = sq \/ ∃ b0, σ[u]? = some b0 /\ ∀ cs, b0 ≠ .var cs) -> (σ.set u b)[t]? = some (.var cs) := by
    intro u b hu
    rw [Xj, if_neg, ht]
    rintro rfl
    rcases hu with rfl | ⟨b0, h1, h2⟩
    . exact hs rfl
    . rw [ht] at h1; injection h1 with h1; exact h2 _ h1.symm
  unfold Zac at h
  repeat' split at h
  all_goals first
    | (cases h; done)
    | (unfold ZdW at h
       repeat' split at h
       all_goals first
         | (cases h; done)
         | (simp only [Xa, Xb] at h
            obtain ⟨-, rfl, -⟩ := h
            first
              | exact key _ _ (Xv rfl)
              | exact key _ _ (XD ⟨_, by assumption, by simp⟩)))
    | (simp only [Xa, Xb] at h
       obtain ⟨-, rfl, -⟩ := h
       first
         | exact ht
         | exact key _ _ (Xv rfl)
         | exact key _ _ (XD ⟨_, by assumption, by simp⟩))
theorem ZAU {o:AOp} {v:AVal} {c:Cls} {t:Nat} {cs:List AVal} (hc:ZaP o.ins=true) (h:Zv O bf o sq tm σ=some (v,tm1,σ1,c)) (ht:σ[t]?=some (.var cs)):σ1[t]?=some (.var cs):=by
 unfold Zv at h
 split at h
 ·cases h
 ·simp only [Xa,Xb] at h
  obtain ⟨rfl,rfl,rfl,rfl⟩:=h
  exact ht
 ·split at h
  ·rename_i hf
   split at h
   ·rename_i v' σ'' c' he
    simp only [Xa,Xb] at h
    obtain ⟨rfl,rfl,rfl,rfl⟩:=h
    cases hins:o.ins with
    | app k bytes z x y =>
     rw [hins] at he hf
     simp only [execI] at he
     refine Zw3 he ?_ ht
     rintro rfl
     simp [nsite,freeAt,ht] at hf
    | _=>rw [hins] at hc;simp [ZaP] at hc
   ·cases h
  ·cases h
theorem Zu2 {σ σ1 : Za} {sq k bytes : Nat} {x y v : AVal} {c : Cls} {s : Nat} (h : Zac σ sq k bytes x y = some (v, σ1, c)) (hs : σ1[s]? = some .free) : σ[s]? = some .free := by
  have key : ∀ (u : Nat) (b0 : ZU), b0 ≠ .free -> (σ.set u b0)[s]? = some .free -> σ[s]? = some .free := by
    intro u b0 hb hh
    rw [Xj] at hh
    split at hh
    . split at hh
      . injection hh with hh; exact absurd hh hb
      . cases hh
    . exact hh
  unfold Zac at h
  repeat' split at h
  all_goals first
    | (cases h; done)
    | (unfold ZdW at h
       repeat' split at h
       all_goals first
         | (cases h; done)
         | (simp only [Xa, Xb] at h
            obtain ⟨-, rfl, -⟩ := h
            exact key _ _ (by simp) hs))
    | (simp only [Xa, Xb] at h
       obtain ⟨-, rfl, -⟩ := h
       first
         | exact hs
         | exact key _ _ (by simp) hs)
theorem Zw1 {σ σ1 : Za} {sq k bytes : Nat} {x y v : AVal} {c : Cls} {s : Nat} (ha : c.any = false) (h : Zac σ sq k bytes x y = some (v, σ1, c)) (hs : σ[s]? = some .free) (hne : sq ≠ s) (b : ZU) : Zac (σ.set s b) sq k bytes x y = some (v, σ1.set s b, c) := by
  have get : ∀ (t : Nat) (b0 : ZU), σ[t]? = some b0 -> b0 ≠ .free -> (σ.set s b)[t]? = some b0 /\ s ≠ t := by
    intro t b0 h1 h2
    have hst : s ≠ t := by
      rintro rfl
      rw [hs] at h1; injection h1 with h1; exact h2 h1.symm
    exact ⟨by rw [WQ hst]; exact h1, hst⟩
  have hel : ∀ ys us, Zm σ y = some (ys, us) -> Zm (σ.set s b) y = some (ys, us) := by
    intro ys us he
    unfold Zm at he ⊢
    split at he
    . exact he
    . exact he
    . split at he
      . rename_i hr
        rw [(get _ _ hr (by simp)).1]; exact he
      . rename_i hr
        rw [(get _ _ hr (by simp)).1]; exact he
      . cases he
    . cases he
  unfold Zac at h
  cases he : Zm σ y with
  | none =>
    rw [he] at h
    simp only at h
    unfold ZdW at h
    repeat' split at h
    all_goals first
      | (cases h; done)
      | (simp only [Xa, Xb] at h
         obtain ⟨-, -, rfl⟩ := h
         cases ha)
  | some z =>
    obtain ⟨ys, us⟩ := z
    rw [he] at h
    simp only at h
    unfold Zac
    rw [hel _ _ he]
    simp only
    split at h
    case isFalse => cases h
    rename_i hk
    rw [if_pos hk]
    split at h
    . split at h
      case isFalse => cases h
      rename_i h1
      simp only [Xa, Xb] at h
      obtain ⟨rfl, rfl, rfl⟩ := h
      simp only [h1, if_true]
      rw [W1 _ _ hne]
    . split at h
      case isFalse => cases h
      rename_i h1
      simp only [h1, and_self, if_true]
      split at h
      . simp only [Xa, Xb] at h
        obtain ⟨rfl, rfl, rfl⟩ := h
        rfl
      . simp only [Xa, Xb] at h
        obtain ⟨rfl, rfl, rfl⟩ := h
        rw [W1 _ _ hne]
    . split at h
      . rename_i hr
        obtain ⟨g1, g2⟩ := get _ _ hr (by simp)
        rw [g1]
        simp only
        split at h
        case isFalse => cases h
        rename_i h1
        rw [if_pos h1]
        split at h
        . rename_i h2
          rw [if_pos h2]
          simp only [Xa, Xb] at h
          obtain ⟨rfl, rfl, rfl⟩ := h
          rw [W1 _ _ g2]
        . rename_i h2
          rw [if_neg h2]
          split at h
          case isFalse => cases h
          rename_i h3
          rw [if_pos h3]
          simp only [Xa, Xb] at h
          obtain ⟨rfl, rfl, rfl⟩ := h
          rw [W1 _ _ g2]
      . cases h
    . cases h
theorem ZnT {o:AOp} {v:AVal} {c:Cls} (hc:ZaP o.ins=true) (h:Zv O bf o sq tm σ=some (v,tm1,σ1,c)) :
  (ZaR o.guard tm=some false/\v=.tup []/\σ1=σ/\c={})\/(freeAt σ sq=true/\∃ k bytes x y,Zac σ sq k bytes x y=some (v,σ1,c)/\∀ tm' σ2 v2 σ3 c2,(∀ n ∈ o.reads,tget tm n=tget tm' n)->freeAt σ2 sq=true->Zac σ2 sq k bytes x y=some (v2,σ3,c2)->Zv O bf o sq tm' σ2=some (v2,tput tm' o.dst v2,σ3,c2)):=by
 unfold Zv at h
 split at h
 ·cases h
 ·rename_i hw
  simp only [Xa,Xb] at h
  obtain ⟨rfl,rfl,rfl,rfl⟩:=h
  exact Xv ⟨hw,rfl,rfl,rfl⟩
 ·rename_i hw
  split at h
  ·rename_i hf
   split at h
   ·rename_i v' σ'' c' he
    simp only [Xa,Xb] at h
    obtain ⟨rfl,rfl,rfl,rfl⟩:=h
    cases hins:o.ins with
    | app k bytes z x y =>
     have he0:=he
     rw [hins] at he hf
     simp only [execI] at he
     refine XD ⟨by simpa [nsite] using hf,k,bytes,_,_,he,fun tm' σ2 v2 σ3 c2 hr hf2 h2=>?_⟩
     simp only [Zv,Zc2 (g:=o.guard) (tm:=tm') (tm1:=tm) (fun j b hg=>(hr j (ZcP hg)).symm),hw]
     rw [if_pos (by rw [hf2];simp),<-ZeR (tm:=tm) (tm':=tm') (fun n hn=>hr n (ZeT hn)),hins]
     simp only [execI,h2]
    | _=>rw [hins] at hc;simp [ZaP] at hc
   ·cases h
  ·cases h
theorem ZkG {t:Nat} {cs:List AVal}:∀ (ts:List Nat) (σ:Za),σ[t]?=some (.var cs)->(Zr σ ts)[t]?=some (.var cs)
 | [],σ,h=>h
 | u::ts,σ,h=>by
  unfold Zr
  split
  ·rename_i g k xs hu
   refine ZkG ts _ ?_
   rw [Xj,if_neg,h]
   rintro rfl
   rw [hu] at h;cases h
  ·exact ZkG ts σ h
theorem Zxo {σ σ1 : Za} {k : Nat} {a x v : AVal} {c : Cls} {t : Nat} {cs : List AVal} (h : stA σ k a x = some (v, σ1, c)) (hw : c.wr.contains t = false) (ht : σ[t]? = some (.var cs)) : σ1[t]? = some (.var cs) := by
  unfold stA at h
  repeat' split at h
  all_goals first
    | (cases h; done)
    | (simp only [Xa, Xb] at h
       obtain ⟨-, rfl, rfl⟩ := h
       simp only [Xao, X0, XaD, XaO, beq_eq_false_iff_ne, ne_eq] at hw
       first
         | (rw [Xj, if_neg (fun e => hw e.symm)]; exact ht)
         | (rw [Xj, if_neg (fun e => hw.1 e.symm)]; exact ZkG _ _ ht))
theorem ZxI {σ σ1 : Za} {s kc : Nat} {z m k v : AVal} {c : Cls} {t : Nat} {cs : List AVal} (hs : σ[s]? = some .free) (h : Zb9 σ s kc z m k = some (v, σ1, c)) (hw : c.wr.contains t = false) (ht : σ[t]? = some (.var cs)) : σ1[t]? = some (.var cs) := by
  have hne : t ≠ s := by rintro rfl; rw [hs] at ht; cases ht
  unfold Zb9 at h
  repeat' split at h
  all_goals first
    | (cases h; done)
    | (simp only [Xa, Xb] at h
       obtain ⟨-, rfl, rfl⟩ := h
       simp only [Xao, X0, XaD, beq_eq_false_iff_ne, ne_eq] at hw
       first
         | exact ht
         | (rw [Xj, if_neg (fun e => hw e.symm), Xj, if_neg (fun e => hne e.symm)]; exact ht))
theorem Zyl {σ σ1 : Za} {s kc : Nat} {z m k v : AVal} {c : Cls} {t : Nat} (h : Zb9 σ s kc z m k = some (v, σ1, c)) (hw : c.wr.contains t = false) (hne : t ≠ s) : σ1[t]? = σ[t]? := by
  unfold Zb9 at h
  repeat' split at h
  all_goals first
    | (cases h; done)
    | (simp only [Xa, Xb] at h
       obtain ⟨-, rfl, rfl⟩ := h
       simp only [Xao, X0, XaD, beq_eq_false_iff_ne, ne_eq] at hw
       first
         | rfl
         | (rw [Xj, if_neg (fun e => hw e.symm), Xj, if_neg (fun e => hne e.symm)]))
theorem Zk9 {t:Nat}:∀ (ts:List Nat) (σ:Za),ts.contains t=false->(Zr σ ts)[t]?=σ[t]?
 | [],σ,_=>rfl
 | u::ts,σ,h=>by
  simp only [Xao,XaO,beq_eq_false_iff_ne,ne_eq] at h
  unfold Zr
  split
  ·rw [Zk9 ts _ h.2,Xj,if_neg (fun e=>h.1 e.symm)]
  ·exact Zk9 ts _ h.2
theorem ZvX {σ σ1 : Za} {k : Nat} {a x v : AVal} {c : Cls} {t : Nat} (h : stA σ k a x = some (v, σ1, c)) (hw : c.wr.contains t = false) : σ1[t]? = σ[t]? := by
  unfold stA at h
  repeat' split at h
  all_goals first
    | (cases h; done)
    | (simp only [Xa, Xb] at h
       obtain ⟨-, rfl, rfl⟩ := h
       simp only [Xao, X0, XaD, XaO, beq_eq_false_iff_ne, ne_eq] at hw
       first
         | (rw [Xj, if_neg (fun e => hw e.symm)])
         | (rw [Xj, if_neg (fun e => hw.1 e.symm)]; exact Zk9 _ _ hw.2))
theorem Zv8 {o:AOp} {v:AVal} {c:Cls} {t:Nat} (hc:Zbe o.ins=true) (h:Zv O bf o sq tm σ=some (v,tm1,σ1,c)) (hw:c.wr.contains t=false) (hne:t≠sq):σ1[t]?=σ[t]?:=by
 unfold Zv at h
 split at h
 ·cases h
 ·simp only [Xa,Xb] at h
  obtain ⟨rfl,rfl,rfl,rfl⟩:=h
  rfl
 ·split at h
  ·split at h
   ·rename_i v' σ'' c' he
    simp only [Xa,Xb] at h
    obtain ⟨rfl,rfl,rfl,rfl⟩:=h
    cases hins:o.ins with
    | st k x y =>
     rw [hins] at he
     simp only [execI] at he
     exact ZvX he hw
    | glook kc z m k =>
     rw [hins] at he
     simp only [execI] at he
     exact Zyl he hw hne
    | _=>rw [hins] at hc;simp [Zbe] at hc
   ·cases h
  ·cases h
theorem ZwK {o:AOp} {v:AVal} {c:Cls} {t:Nat} {cs:List AVal} (hc:Zbe o.ins=true) (hw:c.wr.contains t=false) (h:Zv O bf o sq tm σ=some (v,tm1,σ1,c)) (ht:σ[t]?=some (.var cs)):σ1[t]?=some (.var cs):=by
 unfold Zv at h
 split at h
 ·cases h
 ·simp only [Xa,Xb] at h
  obtain ⟨rfl,rfl,rfl,rfl⟩:=h
  exact ht
 ·split at h
  ·rename_i hf
   split at h
   ·rename_i v' σ'' c' he
    simp only [Xa,Xb] at h
    obtain ⟨rfl,rfl,rfl,rfl⟩:=h
    cases hins:o.ins with
    | st k x y =>
     rw [hins] at he hf
     simp only [execI] at he
     exact Zxo he hw ht
    | glook kc z m k =>
     rw [hins] at he hf
     simp only [execI] at he
     exact ZxI (by simpa [nsite,Zdx] using hf) he hw ht
    | _=>rw [hins] at hc;simp [Zbe] at hc
   ·cases h
  ·cases h
theorem ZmU {o : AOp} {v : AVal} {c ci : Cls} (hl : ZaQ o.ins = true) (h : Zv O bf o sq tm σ = some (v, tm1, σ1, c)) (hg : ZaY c ci = true) :
    ∃ t k off, c.got = [(t, k, off, v)] /\ σ1 = σ /\ tm1 = tput tm o.dst v /\ (∀ tm' σ2, (∀ n ∈ o.reads, tget tm n = tget tm' n) -> (∃ cs, σ2[t]? = some (.var cs) /\ partA k cs off = some v) -> Zv O bf o sq tm' σ2 = some (v, tput tm' o.dst v, σ2, c)) /\ ∃ cs, σ[t]? = some (.var cs) /\ partA k cs off = some v := by
  unfold Zv at h
  split at h
  . cases h
  . simp only [Xa, Xb] at h
    obtain ⟨rfl, rfl, rfl, rfl⟩ := h
    simp [ZaY] at hg
  . rename_i hw
    split at h
    . rename_i hf
      split at h
      . rename_i v' σ'' c' he
        simp only [Xa, Xb] at h
        obtain ⟨rfl, rfl, rfl, rfl⟩ := h
        cases hins : o.ins with
        | ld k a =>
          rw [hins] at he hf
          simp only [execI] at he
          have he0 := he
          unfold ldA at he
          split at he
          . rename_i t off ha
            split at he
            . rename_i cs hcs
              split at he
              . rename_i v2 hp
                simp only [Xa, Xb] at he
                obtain ⟨rfl, rfl, rfl⟩ := he
                refine ⟨t, k, off, rfl, rfl, rfl, fun tm' σ2 hr ⟨cs2, h1, h2⟩ => ?_, cs, hcs, hp⟩
                simp only [Zv, Zc2 (g := o.guard) (tm := tm') (tm1 := tm) (fun j b hg => (hr j (ZcP hg)).symm), hw]
                rw [if_pos (by rw [hins]; rfl), <- ZeR (tm := tm) (tm' := tm') (fun n hn => hr n (ZeT hn)), hins]
                simp only [execI, ha, ldA, h1, h2]
              . cases he
            . cases he
          . repeat' split at he
            all_goals first
              | (cases he; done)
              | (simp only [Xa, Xb] at he
                 obtain ⟨rfl, rfl, rfl⟩ := he
                 simp [ZaY] at hg)
          . repeat' split at he
            all_goals first
              | (cases he; done)
              | (simp only [Xa, Xb] at he
                 obtain ⟨rfl, rfl, rfl⟩ := he
                 simp [ZaY] at hg)
          . cases he
        | _ => rw [hins] at hl; simp [ZaQ] at hl
      . cases h
    . cases h
theorem ZyU {o:AOp} {v:AVal} {c:Cls} {s:Nat} (hc:ZaI o.ins=true\/(ZaP o.ins=true/\(!c.any)=true)) (h:Zv O bf o sq tm σ=some (v,tm1,σ1,c)) (hs:σ1[s]?=some .free):σ[s]?=some .free:=by
 rcases hc with hc | ⟨hc,_⟩
 ·exact ZA8 hc h hs
 ·rcases ZnT hc h with ⟨_,_,rfl,_⟩ | ⟨_,_,_,_,_,ha,_⟩
  ·exact hs
  ·exact Zu2 ha hs
theorem Zz2 {o:AOp} {v:AVal} {c:Cls} {s:Nat} (hc:ZaI o.ins=true\/(ZaP o.ins=true/\(!c.any)=true)) (h:Zv O bf o sq tm σ=some (v,tm1,σ1,c)) (hs:σ1[s]?=some .free) (hne:∀ i,i < nsite o.ins->sq+i≠s) :
  σ[s]?=some .free/\∀ b tm',(∀ n ∈ o.reads,tget tm n=tget tm' n)->Zv O bf o sq tm' (σ.set s b)=some (v,tput tm' o.dst v,σ1.set s b,c):=by
 rcases hc with hc | ⟨hc,hany⟩
 ·exact Zxt hc h hs hne
 ·have hn:sq≠s:=by
   have : nsite o.ins=1:=by
    cases hins:o.ins with
    | app k bytes z x y=>rfl
    | _=>rw [hins] at hc;simp [ZaP] at hc
   simpa using hne 0 (by omega)
  rcases ZnT hc h with ⟨hw,rfl,rfl,rfl⟩ | ⟨hf,k,bytes,x,y,ha,gen⟩
  ·refine ⟨hs,fun b tm' hr=>?_⟩
   simp only [Zv,Zc2 (g:=o.guard) (tm:=tm') (tm1:=tm) (fun j b hg=>(hr j (ZcP hg)).symm),hw]
  ·have h0:=Zu2 ha hs
   refine ⟨h0,fun b tm' hr=>gen tm' _ _ _ _ hr ?_ (Zw1 (by simpa using hany) ha h0 hn b)⟩
   rw [Zdx] at hf ⊢
   rw [WQ (fun e=>hn e.symm)]
   exact hf
def Frz (σ σ2:Za):Prop:=∀ t:Nat,σ2[t]?=σ[t]?\/∃ (g k:Nat) (xs:List AVal),σ[t]?=some (ZU.row g k xs)/\σ2[t]?=some (ZU.frow g k xs)
theorem Frz.refl (σ:Za):Frz σ σ:=fun _=>Xv rfl
theorem Zh6:∀ (ts:List Nat) (σ:Za),Frz σ (Zr σ ts)
 | [],σ=>Frz.refl σ
 | t::ts,σ=>by
  unfold Zr
  split
  ·rename_i g k xs ht
   intro u
   have ih:=Zh6 ts (σ.set t (.frow g k xs)) u
   have htl:t < σ.length:=(Xd.1 ht).1
   by_cases e:u=t
   ·subst e
    have e1:(σ.set u (.frow g k xs))[u]?=some (.frow g k xs):=by simp [htl]
    rw [e1] at ih
    rcases ih with ih | ⟨_,_,_,ih,_⟩
    ·exact XD ⟨g,k,xs,ht,ih⟩
    ·cases ih
   ·rw [WQ (fun h=>e h.symm)] at ih
    exact ih
  ·exact Zh6 ts σ
theorem ZuL {σ σ2 σ' : Za} {k : Option Nat} {a v : AVal} {c : Cls} (hf : Frz σ σ2) (h : ldA σ k a = some (v, σ', c)) : σ' = σ /\ ldA σ2 k a = some (v, σ2, c) := by
  unfold ldA at h ⊢
  split at h
  . rename_i t o
    rcases hf t with e | ⟨_, _, _, e1, _⟩
    . simp only [e]
      repeat' split at h
      all_goals first
        | (cases h; done)
        | (simp only [Xa, Xb] at h
           obtain ⟨rfl, rfl, rfl⟩ := h
           simp_all)
    . rw [e1] at h; cases h
  . rename_i t g i o
    rcases hf t with e | ⟨g1, k1, xs1, e1, e2⟩
    . simp only [e]
      repeat' split at h
      all_goals first
        | (cases h; done)
        | (simp only [Xa, Xb] at h
           obtain ⟨rfl, rfl, rfl⟩ := h
           simp_all)
    . simp only [e1] at h
      simp only [e2]
      repeat' split at h
      all_goals first
        | (cases h; done)
        | (simp only [Xa, Xb] at h
           obtain ⟨rfl, rfl, rfl⟩ := h
           simp_all)
  . repeat' split at h
    all_goals first
      | (cases h; done)
      | (simp only [Xa, Xb] at h
         obtain ⟨rfl, rfl, rfl⟩ := h
         simp_all)
  . cases h
theorem ZtD {σ σ2 σ' : Za} {k : Nat} {a i v : AVal} {c : Cls} (hf : Frz σ σ2) (h : ZaT σ k a i = some (v, σ', c)) : σ' = σ /\ ZaT σ2 k a i = some (v, σ2, c) := by
  unfold ZaT at h ⊢
  split at h
  . split at h
    . rename_i h0
      rw [if_pos h0]
      split at h
      . repeat' split at h
        all_goals first
          | (cases h; done)
          | (simp only [Xa, Xb] at h
             obtain ⟨rfl, rfl, rfl⟩ := h
             simp_all)
      . rename_i t g p n
        rcases hf t with e | ⟨g1, k1, xs1, e1, e2⟩
        . simp only [e]
          repeat' split at h
          all_goals first
            | (cases h; done)
            | (simp only [Xa, Xb] at h
               obtain ⟨rfl, rfl, rfl⟩ := h
               simp_all)
        . simp only [e1] at h
          simp only [e2]
          repeat' split at h
          all_goals first
            | (cases h; done)
            | (simp only [Xa, Xb] at h
               obtain ⟨rfl, rfl, rfl⟩ := h
               simp_all)
      . cases h
    . cases h
  . cases h
theorem ZwH {o:AOp} {v:AVal} {c:Cls} (hl:ZbE o.ins=true) (h:Zv O bf o sq tm σ=some (v,tm1,σ1,c)) :
  σ1=σ/\tm1=tput tm o.dst v/\∀ tm' σ2,(∀ n ∈ o.reads,tget tm n=tget tm' n)->Frz σ σ2->Zv O bf o sq tm' σ2=some (v,tput tm' o.dst v,σ2,c):=by
 unfold Zv at h
 split at h
 ·cases h
 ·rename_i hw
  simp only [Xa,Xb] at h
  obtain ⟨rfl,rfl,rfl,rfl⟩:=h
  refine ⟨rfl,rfl,fun tm' σ2 hr _=>?_⟩
  simp only [Zv,Zc2 (g:=o.guard) (tm:=tm') (tm1:=tm) (fun j b hg=>(hr j (ZcP hg)).symm),hw]
 ·rename_i hw
  split at h
  ·rename_i hf
   split at h
   ·rename_i v' σ'' c' he
    simp only [Xa,Xb] at h
    obtain ⟨rfl,rfl,rfl,rfl⟩:=h
    cases hins:o.ins with
    | ld k a =>
     rw [hins] at he
     simp only [execI] at he
     have e1:=(ZuL (Frz.refl σ) he).1
     subst e1
     refine ⟨rfl,rfl,fun tm' σ2 hr hz=>?_⟩
     simp only [Zv,Zc2 (g:=o.guard) (tm:=tm') (tm1:=tm) (fun j b hg=>(hr j (ZcP hg)).symm),hw]
     rw [if_pos (by rw [hins];rfl),<-ZeR (tm:=tm) (tm':=tm') (fun n hn=>hr n (ZeT hn)),hins]
     simp only [execI,(ZuL hz he).2]
    | iaddr k x i =>
     rw [hins] at he
     simp only [execI] at he
     have e1:=(ZtD (Frz.refl σ) he).1
     subst e1
     refine ⟨rfl,rfl,fun tm' σ2 hr hz=>?_⟩
     simp only [Zv,Zc2 (g:=o.guard) (tm:=tm') (tm1:=tm) (fun j b hg=>(hr j (ZcP hg)).symm),hw]
     rw [if_pos (by rw [hins];rfl),<-ZeR (tm:=tm) (tm':=tm') (fun n hn=>hr n (ZeT hn)),hins]
     simp only [execI,(ZtD hz he).2]
    | _=>rw [hins] at hl;simp [ZbE] at hl
   ·cases h
  ·cases h
theorem ZA3 {o:AOp} {v:AVal} {c:Cls} (hl:Zbq o.ins=true) (h:Zv O bf o sq tm σ=some (v,tm1,σ1,c)):Frz σ σ1:=by
 unfold Zv at h
 split at h
 ·cases h
 ·simp only [Xa,Xb] at h
  obtain ⟨rfl,rfl,rfl,rfl⟩:=h
  exact Frz.refl _
 ·split at h
  ·split at h
   ·rename_i v' σ'' c' he
    simp only [Xa,Xb] at h
    obtain ⟨rfl,rfl,rfl,rfl⟩:=h
    cases hins:o.ins with
    | bslice own k n z parts =>
     rw [hins] at hl he
     simp only [Zbq,Ww] at hl
     subst hl
     simp only [execI] at he
     split at he
     ·cases he
     ·rename_i ys ts hv
      split at he
      ·simp only [Xw,if_false,Xa,Xb] at he
       obtain ⟨_,rfl,_⟩:=he
       exact Zh6 ts σ
      ·cases he
    | _=>rw [hins] at hl;simp [Zbq] at hl
   ·cases h
  ·cases h
theorem Zxl {f own:Nat} {view:Bool} {args:List AVal} {v:AVal} {c:Cls} (h:ZZ O bf σ sq f own view args=some (v,σ',c)) (ha:c.any=true) {t:Nat} {cs:List AVal} (hn:c.upd.lookup t=none) (hlt:t < sq) (ht:σ'[t]?=some (.var cs)):σ[t]?=some (.var cs):=by
 unfold ZZ at h
 split at h
 ·cases h
 rename_i xs ts hsh
 generalize hids:Zf (Zr σ ts) 1000 (ZW xs) []=ids at h
 unfold ZbJ at h
 split at h
 case isFalse=>cases h
 generalize ZaA view ids.length (O f (ZV (Ze (Zr σ ts) 0 ids) xs) (Zg (Zr σ ts) 0 ids (Ze (Zr σ ts) 0 ids) ids 0))=q at h
 cases q with
 | none=>simp only [Zay] at h;cases h
 | some q =>
  obtain ⟨r,hp⟩:=q
  simp only [Zay] at h
  split at h
  ·split at h
   ·simp only [Xa,Xb] at h
    rw [<-h.2.2] at ha;cases ha
   split at h
   ·simp only [Xa,Xb] at h
    rw [<-h.2.2] at ha;cases ha
   ·simp only [Xa,Xb] at h
    rw [<-h.2.2] at ha;cases ha
  ·split at h
   ·simp only [Xa,Xb] at h
    rw [<-h.2.2] at ha;cases ha
   split at h
   ·rename_i hcc
    simp only [Xa,Xb] at h
    obtain ⟨_,rfl,rfl⟩:=h
    have hm:t ∉ ids:=fun hm=>ZhI hn hm ht
    rw [Zgx (fun i hi e=>by
     rw [XC] at e
     unfold ZaG at e
     rw [Xi] at e
     rcases XaA i ids.length with hl | hl
     ·rw [Xy hl] at e
      simp only [Wt] at e
      exact hm (e ▸ Xak hl)
     ·rw [XT hl] at e
      simp only [Xaw] at e
      omega)] at ht
    rcases Zh6 ts σ t with e | ⟨g1,k1,xs1,e1,e2⟩
    ·rw [<-e];exact ht
    ·rw [e2] at ht;cases ht
   ·cases h
theorem Zx2 {o:AOp} {v:AVal} {c:Cls} {t:Nat} {cs:List AVal} (hc:ZaI o.ins=true) (h:Zv O bf o sq tm σ=some (v,tm1,σ1,c)) (ha:c.any=true) (hn:c.upd.lookup t=none) (hlt:t < sq) (ht:σ1[t]?=some (.var cs)):σ[t]?=some (.var cs):=by
 rcases ZgY hc h with ⟨hw,rfl,rfl,rfl⟩ | ⟨hw,hf,f,own,view,args,ho,gen,hg⟩
 ·cases ha
 ·exact Zxl hg ha hn hlt ht
theorem Zxy {σ σ1 : Za} {sq k bytes : Nat} {x y v : AVal} {c : Cls} (h : Zac σ sq k bytes x y = some (v, σ1, c)) (ha : c.any = false) {t : Nat} (hw : c.wr.contains t = false) (hs : t ≠ sq) : σ1[t]? = σ[t]? := by
  unfold Zac at h
  split at h
  . unfold ZdW at h
    repeat' split at h
    all_goals first
      | (cases h; done)
      | (simp only [Xa, Xb] at h
         obtain ⟨_, _, rfl⟩ := h
         cases ha)
  . repeat' split at h
    all_goals first
      | (cases h; done)
      | (simp only [Xa, Xb] at h
         obtain ⟨_, rfl, rfl⟩ := h
         first
         | rfl
         | (rw [WQ (fun e => hs e.symm)])
         | (rw [WQ (by rintro rfl; simp at hw)]))
theorem ZtN {oj oi:AOp} {sj si:Nat} {vj vi:AVal} {cj ci:Cls} (hj:Zv O bf oj sj tm σ=some (vj,tm1,σ1,cj)) (hi:Zv O bf oi si tm1 σ1=some (vi,tm2,σ2,ci)) (hap:oj.apartT oi=true)
  (hp:Zb1 oj oi cj ci sj=true) (hs:nsite oj.ins≠0->nsite oi.ins≠0->sj≠si) (hs2:sj+nsite oj.ins<=si):∃ tm1' σ1',Zv O bf oi si tm σ=some (vi,tm1',σ1',ci)/\Zv O bf oj sj tm1' σ1'=some (vj,tm2,σ2,cj):=by
 have hd:(∀ d,oj.dst=some d->d ∉ oi.reads)/\(∀ d,oj.dst=some d->oi.dst≠some d)/\(∀ d,oi.dst=some d->d ∉ oj.reads):=by
  unfold AOp.apartT at hap
  simp only [Xl] at hap
  refine ⟨fun d hd hr=>?_,fun d hd he=>?_,fun d hd hr=>?_⟩
  ·have:=hap.1;rw [hd] at this;simp [hr] at this
  ·have:=hap.1;rw [hd] at this;simp [he] at this
  ·have:=hap.2;rw [hd] at this;simp [hr] at this
 obtain ⟨d1,d2,d3⟩:=hd
 have rdI:∀ v n,n ∈ oi.reads->tget (tput tm oj.dst v) n=tget tm n:=fun v n hn=>ZtS (by intro e;exact d1 n e hn)
 have rdJ:∀ v n,n ∈ oj.reads->tget tm n=tget (tput tm oi.dst v) n:=fun v n hn=>(ZtS (by intro e;exact d3 n e hn)).symm
 unfold Zb1 at hp
 simp only [Wu,Xl] at hp
 have noWr_of:∀ {o:AOp} {c:Cls},Zbz o c=true->Zco c=true/\c.rd=[]/\nsite o.ins=0:=by
  intro o c h
  simp only [Zbz,Xl,beq_iff_eq,Xal] at h
  exact ⟨by simp [Zco,h.1.2,h.2],h.1.1.2,h.1.1.1⟩
 rcases hp with (((((((hp | hp) | ⟨⟨hp1,hp2⟩,hp3⟩) | ⟨hp1,hp2,hp3⟩) | ⟨⟨⟨hp1,hp2⟩,hp3⟩,hp4⟩) | ⟨⟨hp1,hp2⟩,hp4⟩) | ⟨hp1,hp2⟩) | ⟨⟨⟨hp1,hp2⟩,hp3⟩,hp4⟩) | ⟨⟨⟨hp1,hp3⟩,hp4⟩,hp5⟩
 ·obtain ⟨w1,w2,w3⟩:=noWr_of hp
  obtain ⟨ob,rfl,rfl,e3,_,_,e6⟩:=ZfG hj w1
  have hob:ob=none:=by
   cases ob with
   | none=>rfl
   | some b=>exact absurd w3 (e3 rfl).1
  subst hob
  simp only [Zav] at hi e6 ⊢
  obtain ⟨rfl,f2⟩:=Zeo hi
  have g1:=f2 tm (rdI vj)
  refine ⟨_,_,g1,?_⟩
  rw [e6 _ σ2 (rdJ vi) (by rw [w2];intro t ht;simp at ht) (fun h=>absurd w3 h),Zdy vi vj (fun d hd he=>d2 d he hd)]
 ·obtain ⟨w1,w2,w3⟩:=noWr_of hp
  obtain ⟨ob,rfl,rfl,e3,_,_,e6⟩:=ZfG hi w1
  have hob:ob=none:=by
   cases ob with
   | none=>rfl
   | some b=>exact absurd w3 (e3 rfl).1
  subst hob
  simp only [Zav] at e6 ⊢
  obtain ⟨rfl,f2⟩:=Zeo hj
  have g1:=e6 tm σ (rdI vj) (by rw [w2];intro t ht;simp at ht) (fun h=>absurd w3 h)
  refine ⟨_,_,g1,?_⟩
  rw [f2 _ (rdJ vi),Zdy vi vj (fun d hd he=>d2 d he hd)]
 ·obtain ⟨ob,rfl,rfl,a3,a4,a5,a6⟩:=ZfG hj hp1
  obtain ⟨oc,rfl,rfl,b3,b4,b5,b6⟩:=ZfG hi hp2
  have hsne:ob.isSome=true->nsite oi.ins≠0->sj≠si:=fun h1 h2=>hs (a3 h1).1 h2
  have hrdi:∀ t ∈ ci.rd,ob.isSome=true->sj≠t:=by
   intro t ht ho e
   subst e
   rcases hp3 with hp3 | hp3
   ·exact (a3 ho).1 (by simpa using hp3)
   ·simp [ht] at hp3
  have g1:=b6 tm σ (rdI vj) (fun t ht=>(ZgM (hrdi t ht)).symm) (fun h2 hf=>by
   rw [Zdx] at hf ⊢
   rwa [ZgM (fun ho=>hsne ho h2)] at hf)
  refine ⟨_,_,g1,?_⟩
  have hsi:oc.isSome=true->σ[si]?=some .free:=by
   intro ho
   have:=(b3 ho).2
   rw [Zdx,ZgM (fun ho'=>hsne ho' (b3 ho).1)] at this
   exact this
  rw [a6 _ (Zav σ si oc) (rdJ vi) (fun t ht=>ZgM (fun ho e=>by
   subst e
   obtain ⟨x,hx,hne⟩:=a5 si ht
   rw [hsi ho] at hx;injection hx with hx;exact hne hx.symm)) (fun h1 hf=>by
   rw [Zdx] at hf ⊢
   rwa [ZgM (fun ho=>(hs h1 (b3 ho).1).symm)]),Zdy vi vj (fun d hd he=>d2 d he hd),ZwA (fun h1 h2=>(hs (a3 h2).1 (b3 h1).1).symm)]
 ·obtain ⟨oc,rfl,rfl,b3,b4,b5,b6⟩:=ZfG hi hp2
  have hrd:ci.rd=[]:=by simpa using hp3
  obtain ⟨rfl,f2⟩:=Zeo hj
  cases oc with
  | none =>
   simp only [Zav] at b6 ⊢
   have g1:=b6 tm σ (rdI vj) (by rw [hrd];intro t ht;simp at ht) (fun h1 h2=>by
    rw [Zdx] at h2 ⊢
    exact ZyU hp1 hj h2)
   refine ⟨_,_,g1,?_⟩
   rw [f2 _ (rdJ vi),Zdy vi vj (fun d hd he=>d2 d he hd)]
  | some b =>
   have hfr:=(b3 rfl).2
   rw [Zdx] at hfr
   obtain ⟨k1,k2⟩:=Zz2 hp1 hj hfr (fun i hi=>by omega)
   have g1:=b6 tm σ (rdI vj) (by rw [hrd];intro t ht;simp at ht) (fun h1 h2=>by
    rw [Zdx] at h2 ⊢;exact k1)
   refine ⟨_,_,g1,?_⟩
   have:=k2 b (tput tm oi.dst vi) (rdJ vi)
   simp only [Zav]
   rw [this,Zdy vi vj (fun d hd he=>d2 d he hd)]
 ·obtain ⟨t,k,o,q1,rfl,rfl,q4,q5⟩:=ZmU hp1 hj hp4
  obtain ⟨rfl,f2⟩:=Zeo hi
  have g1:=f2 tm (rdI vj)
  refine ⟨_,_,g1,?_⟩
  obtain ⟨cs,q6,q7⟩:=q5
  obtain ⟨r1,r2⟩:=ZwT hp2 hi hp3 q6
  have hv:∃ cs,σ2[t]?=some (.var cs)/\partA k cs o=some vj:=by
   unfold ZaY at hp4
   rw [q1] at hp4
   simp only at hp4
   split at hp4
   ·rename_i hl;exact ⟨cs,r1 hl,q7⟩
   ·rename_i cs2 hl
    split at hp4
    ·rename_i u hu
     rw [Zxp hp4] at hu
     exact ⟨cs2,r2 cs2 hl,hu⟩
    ·cases hp4
  rw [q4 _ σ2 (rdJ vi) hv,Zdy vi vj (fun d hd he=>d2 d he hd)]
 ·obtain ⟨t,k,o,q1,rfl,rfl,q4,q5⟩:=ZmU hp1 hj hp4
  obtain ⟨rfl,f2⟩:=Zeo hi
  have g1:=f2 tm (rdI vj)
  refine ⟨_,_,g1,?_⟩
  obtain ⟨cs,q6,q7⟩:=q5
  have hk:σ2[t]?=some (.var cs):=by
   rcases hp2 with hp2 | ⟨hp2,hp3⟩
   ·exact ZAU hp2 hi q6
   ·refine ZwK hp2 ?_ hi q6
    unfold ZbU at hp3
    rw [q1] at hp3
    simpa using hp3
  rw [q4 _ σ2 (rdJ vi) ⟨cs,hk,q7⟩,Zdy vi vj (fun d hd he=>d2 d he hd)]
 ·obtain ⟨rfl,rfl,q⟩:=ZwH hp1 hj
  obtain ⟨rfl,f2⟩:=Zeo hi
  have g1:=f2 tm (rdI vj)
  refine ⟨_,_,g1,?_⟩
  rw [q _ σ2 (rdJ vi) (ZA3 hp2 hi),Zdy vi vj (fun d hd he=>d2 d he hd)]
 ·have hgot:∃ t0 k0 o0 v0,ci.got=[(t0,k0,o0,v0)]/\t0 < sj/\cj.upd.lookup t0=none:=by
   unfold ZbR at hp4
   split at hp4
   ·rename_i t0 k0 o0 v0 hg
    simp only [Xl,decide_eq_true_eq,Option.isNone_iff_eq_none] at hp4
    exact ⟨t0,k0,o0,v0,hg,hp4.1,hp4.2⟩
   ·cases hp4
  obtain ⟨t0,k0,o0,v0,hg,hlt,hnone⟩:=hgot
  have hg0:ZaY ci {}=true:=by
   unfold ZaY
   rw [hg]
   rfl
  obtain ⟨rfl,f2⟩:=Zeo hj
  obtain ⟨t,k,o,q1,rfl,rfl,q4,cs,q6,q7⟩:=ZmU hp2 hi hg0
  rw [hg] at q1
  injection q1 with q1 _
  injection q1 with q1 _
  subst q1
  have hk:=Zx2 hp1 hj hp3 hnone hlt q6
  have g1:=q4 tm σ (rdI vj) ⟨cs,hk,q7⟩
  refine ⟨_,_,g1,?_⟩
  rw [f2 _ (rdJ vi),Zdy vi vj (fun d hd he=>d2 d he hd)]
 ·obtain ⟨oc,rfl,rfl,b3,b4,b5,b6⟩:=ZfG hi hp3
  have hn0:nsite oi.ins=0:=by simpa using hp4
  have hoc:oc=none:=by
   cases oc with
   | none=>rfl
   | some b=>exact absurd hn0 (b3 rfl).1
  subst hoc
  simp only [Zav] at b6 ⊢
  obtain ⟨rfl,f2⟩:=Zeo hj
  have far:∀ t ∈ ci.rd,σ[t]?=σ1[t]?:=by
   intro t ht
   have hq:=XI.1 hp5 t ht
   simp only [Xl,Ww,bne_iff_ne,ne_eq] at hq
   rcases hp1 with ⟨hp1,hp2⟩ | hp1
   ·rcases ZnT hp1 hj with ⟨_,_,rfl,_⟩ | ⟨_,_,_,_,_,ha,_⟩
    ·rfl
    ·exact (Zxy ha (by simpa using hp2) hq.1 hq.2).symm
   ·exact (Zv8 hp1 hj hq.1 hq.2).symm
  have g1:=b6 tm σ (rdI vj) far (fun h1 _=>absurd hn0 h1)
  refine ⟨_,_,g1,?_⟩
  rw [f2 _ (rdJ vi),Zdy vi vj (fun d hd he=>d2 d he hd)]
inductive Zb6 (O:ZY) (bf:Nat->Bool) (ops:List AOp) (L:Nat) (cs:List Cls):List Nat->Tms->Za->Tms->Za->Prop
 | nil {tm:Tms} {σ:Za}:Zb6 O bf ops L cs [] tm σ tm σ
 | cons {i:Nat} {l:List Nat} {v:AVal} {tm tm1 tm2:Tms} {σ σ1 σ2:Za}:Zv O bf (ops.getD i default) (L+sitesOf (ops.take i)) tm σ=some (v,tm1,σ1,cs.getD i {})->(∀ x,v≠.pan x)->Zb6 O bf ops L cs l tm1 σ1 tm2 σ2->Zb6 O bf ops L cs (i::l) tm σ tm2 σ2
theorem ZkA (ops:List AOp) {k:Nat} (h:k < ops.length):sitesOf (ops.take (k+1))=sitesOf (ops.take k)+nsite (ops[k]).ins:=by
 rw [List.take_succ_eq_append_getElem h]
 simp only [sitesOf,X9,List.sum_append,Xs,XV,List.sum_cons,List.sum_nil,Wf]
theorem Zts {ops:List AOp} {L:Nat}:∀ (m k:Nat) {cs cs':List Cls} {tm:Tms} {σ:Za} {tm':Tms} {σ':Za},k+m=ops.length->ZX O bf (ops.drop k) (L+sitesOf (ops.take k)) tm σ=some (tm',σ',cs',none)->(∀ j,cs'.getD j {}=cs.getD (k+j) {})->Zb6 O bf ops L cs (Xaz k m) tm σ tm' σ'
 | 0,k,cs,cs',tm,σ,tm',σ',hk,h,hcs=>by
  rw [WI (by omega)] at h
  simp only [ZX,Xa,Xb] at h
  obtain ⟨rfl,rfl,rfl,_⟩:=h
  exact Zb6.nil
 | m+1,k,cs,cs',tm,σ,tm',σ',hk,h,hcs=>by
  have hlt:k < ops.length:=by omega
  rw [WS hlt] at h
  simp only [ZX] at h
  split at h
  ·cases h
  ·simp only [Xa,Xb] at h
   obtain ⟨_,_,_,h⟩:=h
   cases h
  rename_i v tm1 σ1 c hnp h1
  split at h
  ·cases h
  rename_i tm2 σ2 cs2 p h2
  simp only [Xa,Xb] at h
  obtain ⟨rfl,rfl,rfl,rfl⟩:=h
  rw [Xa9]
  have hc0:=hcs 0
  simp only [XM,Wf] at hc0
  refine Zb6.cons (v:=v) (tm1:=tm1) (σ1:=σ1) ?_ (fun x e=>?_) (Zts m (k+1) (by omega) (cs':=cs2) ?_ (fun j=>?_))
  ·rw [<-hc0]
   simpa [Xi,hlt] using h1
  ·exact hnp x e
  ·rw [ZkA ops hlt,<-WE];exact h2
  ·have:=hcs (j+1)
   simp only [XU] at this
   rw [this]
   congr 1;omega
theorem ZoT {ops:List AOp} {L:Nat} {cs:List Cls} {i:Nat} {l2:List Nat}:∀ {l1:List Nat} {tm:Tms} {σ:Za} {tm':Tms} {σ':Za},(∀ j ∈ l1,(ops.getD j default).apartT (ops.getD i default)=true/\Zb1 (ops.getD j default) (ops.getD i default) (cs.getD j {}) (cs.getD i {}) (L+sitesOf (ops.take j))=true/\(nsite (ops.getD j default).ins≠0->nsite (ops.getD i default).ins≠0->L+sitesOf (ops.take j)≠L+sitesOf (ops.take i))/\L+sitesOf (ops.take j)+nsite (ops.getD j default).ins<=L+sitesOf (ops.take i)) ->
  Zb6 O bf ops L cs (l1++i::l2) tm σ tm' σ'->∃ v tm1 σ1,Zv O bf (ops.getD i default) (L+sitesOf (ops.take i)) tm σ=some (v,tm1,σ1,cs.getD i {})/\(∀ x,v≠.pan x)/\Zb6 O bf ops L cs (l1++l2) tm1 σ1 tm' σ'
 | [],tm,σ,tm',σ',_,h=>by
  cases h with
  | cons h1 hn h2=>exact ⟨_,_,_,h1,hn,h2⟩
 | j::l1,tm,σ,tm',σ',hall,h=>by
  cases h with
  | cons h1 hn h2 =>
   obtain ⟨v3,tm3,σ3,h3,hn3,h4⟩:=ZoT (l1:=l1) (fun k hk=>hall k (by simp [hk])) h2
   obtain ⟨p1,p2,p3,p4⟩:=hall j (by simp)
   obtain ⟨tm4,σ4,h5,h6⟩:=ZtN h1 h3 p1 p2 p3 p4
   exact ⟨v3,tm4,σ4,h5,hn3,Zb6.cons h6 hn h4⟩
theorem Zuj {ops:List AOp} {L:Nat} {x:AVal}:∀ (m k:Nat) {cs cs':List Cls} {tm:Tms} {σ:Za} {tm':Tms} {σ':Za},k+m=ops.length->ZX O bf (ops.drop k) (L+sitesOf (ops.take k)) tm σ=some (tm',σ',cs',some x)->(∀ j,cs'.getD j {}=cs.getD (k+j) {}) ->
  ∃ n tmJ σJ tmX,n < m/\cs'.length=n+1/\Zb6 O bf ops L cs (Xaz k n) tm σ tmJ σJ/\Zv O bf (ops.getD (k+n) default) (L+sitesOf (ops.take (k+n))) tmJ σJ=some (.pan x,tmX,σ',cs.getD (k+n) {})
 | 0,k,cs,cs',tm,σ,tm',σ',hk,h,hcs=>by
  rw [WI (by omega)] at h
  simp [ZX] at h
 | m+1,k,cs,cs',tm,σ,tm',σ',hk,h,hcs=>by
  have hlt:k < ops.length:=by omega
  rw [WS hlt] at h
  simp only [ZX] at h
  have hc0:=hcs 0
  have hg:ops.getD k default=ops[k]:=by simp [Xi,hlt]
  split at h
  ·cases h
  ·rename_i y tm1 σ1 c h1
   simp only [Xa,Xb] at h
   obtain ⟨rfl,rfl,rfl,rfl⟩:=h
   simp only [XM,Wf] at hc0
   refine ⟨0,tm,σ,tm1,by omega,rfl,Zb6.nil,?_⟩
   rw [Wf,<-hc0,hg]
   exact h1
  rename_i v tm1 σ1 c hnp h1
  split at h
  ·cases h
  rename_i tm2 σ2 cs2 p h2
  simp only [Xa,Xb] at h
  obtain ⟨rfl,rfl,rfl,rfl⟩:=h
  simp only [XM,Wf] at hc0
  have hnext:ZX O bf (ops.drop (k+1)) (L+sitesOf (ops.take (k+1))) tm1 σ1=some (tm2,σ2,cs2,some x):=by
   rw [ZkA ops hlt,<-WE]
   exact h2
  obtain ⟨n,tmJ,σJ,tmX,g1,g2,g3,g4⟩:=Zuj m (k+1) (cs:=cs) (by omega) hnext (fun j=>by
   have:=hcs (j+1)
   simp only [XU] at this
   rw [this];congr 1;omega)
  refine ⟨n+1,tmJ,σJ,tmX,by omega,by simp [g2],?_,?_⟩
  ·rw [Xa9]
   refine Zb6.cons (v:=v) (tm1:=tm1) (σ1:=σ1) ?_ (fun x e=>hnp x e) g3
   rw [<-hc0,hg]
   exact h1
  ·rw [show k+(n+1)=k+1+n by omega]
   exact g4
theorem ZxV {o:AOp} {v:AVal} {c:Cls} {tm tm1:Tms} {σ σ1:Za} {sq:Nat} (hq:o.ins.touches=false\/ZaQ o.ins=true) (h:Zv O bf o sq tm σ=some (v,tm1,σ1,c)):σ1=σ:=by
 unfold Zv at h
 split at h
 ·cases h
 ·simp only [Xa,Xb] at h;exact h.2.2.1.symm
 ·split at h
  ·split at h
   ·rename_i he
    simp only [Xa,Xb] at h
    rw [<-h.2.2.1]
    rcases hq with hq | hq
    ·exact Zw2 hq he
    ·cases hi:o.ins with
     | ld k a =>
      rw [hi] at he
      simp only [execI] at he
      unfold ldA at he
      repeat' split at he
      all_goals first | (simp only [Xa,Xb] at he;exact he.2.1.symm) | cases he
     | _=>rw [hi] at hq;simp [ZaQ] at hq
   ·cases h
  ·cases h
theorem Ztx {ops:List AOp} {L:Nat} {cs:List Cls} {i:Nat} {x:AVal} {tmX:Tms} {σX:Za}:∀ {l1:List Nat} {tm:Tms} {σ:Za} {tm':Tms} {σ':Za},(∀ j ∈ l1,((ops.getD j default).ins.touches=false\/ZaQ (ops.getD j default).ins=true)/\(ops.getD j default).apartT (ops.getD i default)=true/\Zb1 (ops.getD j default) (ops.getD i default) (cs.getD j {}) (cs.getD i {}) (L+sitesOf (ops.take j))=true/\(nsite (ops.getD j default).ins≠0->nsite (ops.getD i default).ins≠0->L+sitesOf (ops.take j)≠L+sitesOf (ops.take i))/\L+sitesOf (ops.take j)+nsite (ops.getD j default).ins<=L+sitesOf (ops.take i)) ->
  Zb6 O bf ops L cs l1 tm σ tm' σ'->Zv O bf (ops.getD i default) (L+sitesOf (ops.take i)) tm' σ'=some (.pan x,tmX,σX,cs.getD i {})->∃ tm1,Zv O bf (ops.getD i default) (L+sitesOf (ops.take i)) tm σ=some (.pan x,tm1,σX,cs.getD i {})
 | [],tm,σ,tm',σ',_,h,hp=>by
  cases h
  exact ⟨_,hp⟩
 | j::l1,tm,σ,tm',σ',hall,h,hp=>by
  cases h with
  | cons h1 hn h2 =>
   obtain ⟨tm3,h3⟩:=Ztx (l1:=l1) (fun k hk=>hall k (by simp [hk])) h2 hp
   obtain ⟨hq,p1,p2,p3,p4⟩:=hall j (by simp)
   obtain ⟨tm4,σ4,h5,h6⟩:=ZtN h1 h3 p1 p2 p3 p4
   have:=ZxV hq h6
   subst this
   exact ⟨tm4,h5⟩
end
end
section
open Go.RowKit
section
variable {P:Program} {O:ZY} {bf:Nat->Bool} {an:Ann} {base:Nat->Prop} {w0:World} {I0:Imm}
structure Door where
 D:List Deferred
 K:List Nat
 X:Nat->Value
def Door.ok (dr:Door) (a:Act):Prop:=a.defers=dr.D/\∀ j ∈ dr.K,a.tmps.getD j undef=dr.X j
def ZaO:Door:=⟨[],[],fun _=>undef⟩
theorem Zdn {a:Act}:ZaO.ok a↔a.defers=[]:=by simp [Door.ok,ZaO]
def StR (dr:Door) (nt:Nat) (base:Nat->Prop) (w0:World) (I0 I:Imm) (β:Bmap) (tm:Tms) (σ:Za) (a:Act) (w:World):Prop :=
 ∃ I' β',I.le I'/\β.le β'/\TR I' β' tm a.tmps/\(dr.ok a/\nt<=a.tmps.size)/\Rel base w0 I0 I' β' σ w
variable {dr:Door}
theorem StR.trans {nt:Nat} {I I1:Imm} {β β1:Bmap} {tm:Tms} {σ:Za} {a:Act} {w:World} (hI:I.le I1) (hβ:β.le β1) (h:StR dr nt base w0 I0 I1 β1 tm σ a w):StR dr nt base w0 I0 I β tm σ a w:=by
 obtain ⟨I',β',h1,h2,h3⟩:=h
 exact ⟨I',β',hI.trans h1,hβ.trans h2,h3⟩
theorem Post.trans {I I1:Imm} {β β1:Bmap} {x:AVal} {σ:Za} {u:Value} {w:World} (hI:I.le I1) (hβ:β.le β1) (h:Post base w0 I0 I1 β1 x σ u w):Post base w0 I0 I β x σ u w:=by
 obtain ⟨I',β',h1,h2,h3⟩:=h
 exact ⟨I',β',hI.trans h1,hβ.trans h2,h3⟩
theorem Zs6 {I:Imm} {β:Bmap} {tm:Tms} {a:Act} {v:AVal} {u:Value} (T:TR I β tm a.tmps) (hv:VR I β v u) {d:Option Nat} (hd:∀ n,d=some n->n < a.tmps.size):TR I β (tput tm d v) (a.put d u).tmps:=by
 cases d with
 | none=>exact T
 | some d=>exact T.put hv (hd d rfl)
theorem Zix (a:Act) (d:Option Nat) (u:Value):(a.put d u).defers=a.defers:=by cases d <;> rfl
theorem Zhp {a:Act} {d:Option Nat} {u:Value} (h:dr.ok a) (hd:∀ n,d=some n->n ∉ dr.K):dr.ok (a.put d u):=by
 refine ⟨(Zix a d u).trans h.1,fun j hj=>?_⟩
 rw [<-h.2 j hj]
 cases d with
 | none=>rfl
 | some n =>
  have hne:n≠j:=by rintro rfl;exact hd n rfl hj
  simp only [Act.put,WB]
  rw [Wb hne]
theorem ZcS (a:Act) (d:Option Nat) (u:Value):(a.put d u).tmps.size=a.tmps.size:=by cases d <;> simp [Act.put]
theorem Zu9 {I:Imm} {β:Bmap} {tm:Tms} {a:Act} (T:TR I β tm a.tmps) {ops:Array Oper} {o:Oper} {g:Option (Nat×Bool)} (hg:ZhP ops o.guard=some g) {b:Bool} (h:ZaR g tm=some b):Region.wanted o (yielded ops a.tmps)=b:=by
 unfold ZhP at hg
 unfold Region.wanted
 split at hg
 ·rename_i e
  injection hg with hg;subst hg
  simp only [ZaR,Xa] at h
  subst h
  rw [e]
 ·rename_i j want e
  split at hg
  ·rename_i o' ho'
   split at hg
   ·rename_i d hd
    injection hg with hg;subst hg
    rw [e]
    show (yielded ops a.tmps j == some want)=b
    have hy:yielded ops a.tmps j=match a.tmps[d]? with | some (.bool b)=>some b | _=>none:=by
     simp only [yielded,ho',X7,hd]
     rfl
    rw [hy]
    have hx:=T d
    rw [WB] at hx
    simp only [ZaR] at h
    split at h
    ·rename_i b' hb'
     rw [hb'] at hx
     simp only [VR] at hx
     have : a.tmps[d]?=some (.bool b'):=by
      cases hq:a.tmps[d]? with
      | none=>rw [hq] at hx;simp [undef] at hx
      | some q=>rw [hq] at hx;simp at hx;subst hx;rfl
     rw [this]
     simp only [Xa] at h
     subst h
     cases b' <;> cases want <;> rfl
    ·rename_i hb'
     rw [hb'] at hx
     simp only [VR,VRs] at hx
     obtain ⟨us,hus,hnil⟩:=hx
     injection h with h;subst h
     cases hq:a.tmps[d]? with
     | none=>rfl
     | some q =>
      rw [hq] at hus;simp at hus;subst hus
      rfl
    ·cases h
   ·cases hg
  ·cases hg
theorem Zi9 {ops:Array Oper} {o:Oper} {ao:AOp} (hc:Zfb P an ops o=some ao):∃ g i,ZhP ops o.guard=some g/\(∃ own,Z1 P an own o.op=some i)/\(∀ n,o.dst=some n->n < an.nt/\n ∉ an.keep)/\ao=⟨o.dst,i,g,(o.after.toList.filter (Region.binds .any)).map (·.on)⟩:=by
 unfold Zfb at hc
 split at hc
 ·rename_i g i hg hi
  split at hc
  ·rename_i hd
   injection hc with hc
   refine ⟨g,i,hg,⟨_,hi⟩,fun n hn=>?_,hc.symm⟩
   rw [hn] at hd
   simp only [Zto,Xl,decide_eq_true_eq,Ww,XaP,decide_eq_false_iff_not] at hd
   exact hd
  ·cases hc
 ·cases hc
theorem ZfX (hO:Zaf P O) (hkp:∀ n ∈ dr.K,n ∈ an.keep) {ops:Array Oper} {o:Oper} {ao:AOp} (hc:Zfb P an ops o=some ao) {I:Imm} {β:Bmap} {tm tm':Tms} {σ σ':Za} {a:Act} {w:World} (T:TR I β tm a.tmps) (hd:dr.ok a/\an.nt<=a.tmps.size) (R:Rel base w0 I0 I β σ w) (hb:KLt base w0)
  {sq:Nat} {v:AVal} {c:Cls} (h:Zv O bf ao sq tm σ=some (v,tm',σ',c)) {K:Act->World->Prop} {Q:Exit->Act->World->Prop} (hK:(∀ x,v≠.pan x)->∀ a' w',StR dr an.nt base w0 I0 I β tm' σ' a' w'->K a' w')
  (hQ:∀ x,v=.pan x->∀ u w',Post base w0 I0 I β x σ' u w'->Q (.panic [{ v:=u,recovered:=false }]) a w') :
  if Region.wanted o (yielded ops a.tmps) then o.wp P a w K Q\/(o.asks P a w/\LetsOut Q) else K (a.put o.dst undef) w:=by
 obtain ⟨g,i,hg,⟨own,hi⟩,hdst,rfl⟩:=Zi9 hc
 have hdst':∀ n,o.dst=some n->n < a.tmps.size:=fun n hn=>Nat.lt_of_lt_of_le (hdst n hn).1 hd.2
 have hdk:∀ n,o.dst=some n->n ∉ dr.K:=fun n hn hm=>(hdst n hn).2 (hkp n hm)
 unfold Zv at h
 split at h
 ·cases h
 ·rename_i hw
  simp only at hw
  rw [Zu9 T hg hw]
  simp only [Xa,Xb] at h
  obtain ⟨rfl,rfl,rfl,rfl⟩:=h
  simp only [Xw,if_false]
  exact hK (by simp) _ _ ⟨I,β,Imm.le.refl I,Bmap.le.refl β,Zs6 T (Zhk I β) hdst',⟨Zhp hd.1 hdk,by rw [ZcS];exact hd.2⟩,R⟩
 ·rename_i hw
  simp only at hw
  rw [Zu9 T hg hw]
  simp only [if_true]
  split at h
  ·rename_i hf
   split at h
   ·rename_i v' σ1 c' he
    simp only [Xa,Xb] at h
    obtain ⟨rfl,rfl,rfl,rfl⟩:=h
    have hs:nsite i≠0->σ[sq]?=some .free:=by
     intro hn
     simp only [Wu,beq_iff_eq] at hf
     exact Zdx.1 (hf.resolve_left hn)
    rcases Zzl hO hi T R hb hs he with hok | ⟨x,rfl,hpan⟩
    ·refine Xv (hok.wp (fun u w' hp=>?_))
     obtain ⟨I',β',h1,h2,h3,h4⟩:=hp
     refine hK ?_ _ _ ⟨I',β',h1,h2,Zs6 (T.mono h1 h2) h4 hdst',⟨Zhp hd.1 hdk,by rw [ZcS];exact hd.2⟩,h3⟩
     rintro x rfl
     simp only [VR] at h4
    ·exact Xv (hpan.wp (fun u w' hp=>hQ x rfl u w' hp))
   ·cases h
  ·cases h
theorem Zo9 (hO:Zaf P O) (hkp:∀ n ∈ dr.K,n ∈ an.keep) (hb:KLt base w0) {ops:Array Oper} {Q:Exit->Act->World->Prop}:∀ {l:List Oper} {asl:List AOp} {sq:Nat} {I:Imm} {β:Bmap} {tm tm':Tms} {σ σ':Za} {cs:List Cls} {p:Option AVal} {a:Act} {w:World},ZbG P an ops l=some asl->TR I β tm a.tmps->(dr.ok a/\an.nt<=a.tmps.size)->Rel base w0 I0 I β σ w ->
  ZX O bf asl sq tm σ=some (tm',σ',cs,p)->(p=none->∀ a' w',StR dr an.nt base w0 I0 I β tm' σ' a' w'->Q .normal a' w') ->
  (∀ x,p=some x->∀ a' u w',dr.ok a'->Post base w0 I0 I β x σ' u w'->Q (.panic [{ v:=u,recovered:=false }]) a' w')->wpList P ops Q l a w
 | [],asl,sq,I,β,tm,tm',σ,σ',cs,p,a,w,hc,T,hd,R,h,hQ,_=>by
  simp only [ZbG,Xa] at hc;subst hc
  simp only [ZX,Xa,Xb] at h
  obtain ⟨rfl,rfl,rfl,rfl⟩:=h
  exact wpList_nil (hQ rfl _ _ ⟨I,β,Imm.le.refl I,Bmap.le.refl β,T,hd,R⟩)
 | o::l,asl,sq,I,β,tm,tm',σ,σ',cs,p,a,w,hc,T,hd,R,h,hQ,hP=>by
  simp only [ZbG] at hc
  split at hc
  ·rename_i ao hao
   split at hc
   ·rename_i as' has'
    injection hc with hc;subst hc
    simp only [ZX] at h
    split at h
    ·cases h
    ·rename_i x tm1 σ1 c1 h1
     simp only [Xa,Xb] at h
     obtain ⟨rfl,rfl,rfl,rfl⟩:=h
     have:=ZfX (dr:=dr) (K:=wpList P ops Q l) (Q:=Q) hO hkp hao T hd R hb h1 (fun hn=>absurd rfl (hn x)) (fun x' e u w' hp=>by
      injection e with e;subst e
      exact hP x rfl a u w' hd.1 hp)
     unfold wpList
     exact this
    ·rename_i v tm1 σ1 c1 hnp h1
     split at h
     ·cases h
     rename_i tm2 σ2 cs2 p2 h2
     simp only [Xa,Xb] at h
     obtain ⟨rfl,rfl,rfl,rfl⟩:=h
     have:=ZfX (dr:=dr) (K:=wpList P ops Q l) (Q:=Q) hO hkp hao T hd R hb h1 (fun _ a' w' hs=>by
      obtain ⟨I',β',g1,g2,g3,g4,g5⟩:=hs
      exact Zo9 hO hkp hb has' g3 g4 g5 h2 (fun hp a'' w'' hs'=>hQ hp a'' w'' (hs'.trans g1 g2)) (fun x hx a'' u w'' hd' hp=>hP x hx a'' u w'' hd' (hp.trans g1 g2))) (fun x e=>absurd e (fun e=>hnp x e))
     unfold wpList
     exact this
   ·cases hc
  ·cases hc
theorem Zf5 {ops:Array Oper}:∀ {l:List Oper} {asl:List AOp},ZbG P an ops l=some asl->asl.length=l.length/\∀ (i:Nat) (o:Oper),l[i]?=some o->∃ ao,asl[i]?=some ao/\Zfb P an ops o=some ao
 | [],asl,h=>by simp only [ZbG,Xa] at h;subst h;exact ⟨rfl,fun i o ho=>by simp at ho⟩
 | o::l,asl,h=>by
  simp only [ZbG] at h
  split at h
  ·rename_i ao hao
   split at h
   ·rename_i as' has'
    injection h with h;subst h
    obtain ⟨h1,h2⟩:=Zf5 has'
    refine ⟨by simp [h1],fun i o' ho'=>?_⟩
    cases i with
    | zero=>simp only [XE,Xa] at ho';subst ho';exact ⟨ao,rfl,hao⟩
    | succ i=>simp only [List.getElem?_cons_succ] at ho' ⊢;exact h2 i o' ho'
   ·cases h
  ·cases h
theorem Zmg:∀ (ls acc:List (List Nat)),(∀ j p,p ∈ (acc.getD j [])->True)->(Zbs ls acc).take acc.length=acc/\(Zbs ls acc).length=acc.length+ls.length /\
  ∀ j,j < ls.length->∀ p,p ∈ (Zbs ls acc).getD (acc.length+j) []->p ∈ ls.getD j []\/∃ i ∈ ls.getD j [],i < acc.length+j/\p ∈ (Zbs ls acc).getD i []
 | [],acc,_=>by simp [Zbs]
 | l::ls,acc,_=>by
  obtain ⟨h1,h2,h3⟩:=Zmg ls (acc++[l++l.flatMap fun i=>acc.getD i []]) (fun _ _ _=>trivial)
  simp only [Zbs]
  have hlen:(acc++[l++l.flatMap fun i=>acc.getD i []]).length=acc.length+1:=by simp
  rw [hlen] at h1 h2 h3
  have hpre:∀ i,i < acc.length+1->(Zbs ls (acc++[l++l.flatMap fun i=>acc.getD i []])).getD i []=(acc++[l++l.flatMap fun i=>acc.getD i []]).getD i []:=by
   intro i hi
   have:=congrArg (fun q:List (List Nat)=>q.getD i []) h1
   simp only [Xi,List.getElem?_take,hi,if_true] at this ⊢
   exact this
  refine ⟨?_,by rw [h2];simp;omega,?_⟩
  ·have:=congrArg (List.take acc.length) h1
   rw [List.take_take,Nat.min_eq_left (by omega)] at this
   rw [this];simp
  ·intro j hj p hp
   cases j with
   | zero =>
    rw [Wf,hpre _ (by omega)] at hp
    simp only [Xi,WR (XN _),Xap,XE,Wt,Xu,Wg] at hp
    rcases hp with hp | ⟨i,hi,hp⟩
    ·exact Xv (by simpa using hp)
    ·refine XD ⟨i,by simpa using hi,?_,?_⟩
     ·by_cases hlt:i < acc.length
      ·omega
      ·rw [XT (by omega)] at hp;simp at hp
     ·have hlt:i < acc.length:=by
       by_cases hlt:i < acc.length
       ·exact hlt
       ·rw [XT (by omega)] at hp;simp at hp
      rw [hpre i (by omega)]
      simp only [Xi,Wv hlt]
      exact hp
   | succ j =>
    have:=h3 j (by simpa using hj) p (by rw [show acc.length+1+j=acc.length+(j+1) by omega];exact hp)
    rcases this with h | ⟨i,h4,h5,h6⟩
    ·exact Xv (by simpa using h)
    ·exact XD ⟨i,by simpa using h4,by omega,h6⟩
theorem Zvq (f:Nat->Nat) (p:Nat):∀ (l:List Nat) (m:Nat),(l.foldl (fun m i=>m ||| 2 ^ i ||| f i) m).testBit p=true->m.testBit p=true\/p ∈ l\/∃ i ∈ l,(f i).testBit p=true
 | [],m,h=>Xv h
 | i::l,m,h=>by
  rcases Zvq f p l _ h with h | h | ⟨j,h1,h2⟩
  ·simp only [Nat.testBit_or,Wu,Nat.testBit_two_pow,decide_eq_true_eq] at h
   rcases h with (h | h) | h
   ·exact Xv h
   ·exact XD (Xv (by simp [h]))
   ·exact XD (XD ⟨i,by simp,h⟩)
  ·exact XD (Xv (by simp [h]))
  ·exact XD (XD ⟨j,by simp [h1],h2⟩)
theorem Zm6:∀ (ls:List (List Nat)) (accM:List Nat) (accL:List (List Nat)),accM.length=accL.length->(∀ j p,(accM.getD j 0).testBit p=true->p ∈ accL.getD j [])->∀ j p,((ZfH ls accM).getD j 0).testBit p=true->p ∈ (Zbs ls accL).getD j []
 | [],accM,accL,_,h=>h
 | l::ls,accM,accL,hl,h=>by
  simp only [ZfH,Zbs]
  refine Zm6 ls _ _ (by simp [hl]) ?_
  intro j p hp
  by_cases hj:j < accM.length
  ·simp only [Xi,Wv hj] at hp
   simp only [Xi,Wv (show j < accL.length by omega)]
   have:=h j p (by simpa [Xi] using hp)
   simpa [Xi] using this
  ·by_cases hj':j=accM.length
   ·subst hj'
    simp only [Xi,WR (XN _),Xap,XE,Wt] at hp
    rw [hl]
    simp only [Xi,WR (XN _),Xap,XE,Wt,Xu,Wg]
    rcases Zvq _ p l 0 hp with h0 | h0 | ⟨i,h1,h2⟩
    ·simp at h0
    ·exact Xv h0
    ·refine XD ⟨i,h1,?_⟩
     have:=h i p (by simpa [Xi] using h2)
     simpa [Xi] using this
   ·simp only [Xi] at hp
    rw [XT (by simp;omega)] at hp
    simp at hp
theorem Ztb {asl:List AOp} {ps:List (Nat×Nat)} (h:ZdS asl=some ps) :
  (∀ i j,i < j->j < asl.length->i ∉ (Zbs (asl.map (·.after)) []).getD j []->(asl.getD i default).apartT (asl.getD j default)=true/\((asl.getD i default).ins.touches=false\/(asl.getD j default).ins.touches=false\/(i,j) ∈ ps))/\(∀ j,j < asl.length->∀ i ∈ (asl.getD j default).after,i < j):=by
 have hsub:=Zm6 (asl.map (·.after)) [] [] rfl (by simp)
 unfold ZdS at h
 simp only at h
 split at h
 ·rename_i hc
  simp only [Xl,XI,Wg,XK,WC,W2,forall_exists_index,and_imp,Ww,decide_eq_true_eq] at hc
  obtain ⟨h1,h2⟩:=hc
  injection h with h
  have hbit:∀ i j,i ∉ (Zbs (asl.map (·.after)) []).getD j []->((ZfH (asl.map (·.after)) []).getD j 0).testBit i=false:=by
   intro i j hn
   cases hb:((ZfH (asl.map (·.after)) []).getD j 0).testBit i with
   | false=>rfl
   | true=>exact absurd (hsub j i hb) hn
  refine ⟨fun i j hij hj hn=>⟨?_,?_⟩,fun j hj i hi=>h2 j hj i hi⟩
  ·exact h1 (i,j) j hj i hij (hbit i j hn) rfl
  ·cases ht1:(asl.getD i default).ins.touches with
   | false=>exact Xv rfl
   | true =>
    cases ht2:(asl.getD j default).ins.touches with
    | false=>exact XD (Xv rfl)
    | true =>
     refine XD (XD ?_)
     rw [<-h]
     rw [Xu]
     refine Xv ?_
     simp only [WC,Wg,XK,W2,Xl]
     exact ⟨⟨j,hj,i,⟨hij,by rw [hbit i j hn];rfl⟩,rfl⟩,ht1,ht2⟩
 ·cases h
theorem Zx3 {asl:List AOp} {ps:List (Nat×Nat)} (h:ZdS asl=some ps) {j:Nat} (hm:(j,j) ∈ ps):∀ k,j < k->k < asl.length->j ∈ (Zbs (asl.map (·.after)) []).getD k []:=by
 have hsub:=Zm6 (asl.map (·.after)) [] [] rfl (by simp)
 unfold ZdS at h
 simp only at h
 split at h
 ·injection h with h
  rw [<-h,Xu] at hm
  rcases hm with hm | hm
  ·simp only [WC,Wg,XK,W2,Xb] at hm
   obtain ⟨⟨a,_,b,⟨hb,_⟩,e1,e2⟩,_⟩:=hm
   omega
  ·simp only [XK,WC,W2,Xb,and_self,Xl,XI,Wu,decide_eq_true_eq] at hm
   obtain ⟨a,⟨_,_,ha⟩,rfl⟩:=hm
   intro k hk hkl
   rcases ha k hkl with h1 | h1
   ·omega
   ·exact hsub k a h1
 ·cases h
theorem Zw6 {asl:List AOp} {ps:List (Nat×Nat)} (h:ZdS asl=some ps) {j:Nat} (hm:(j,j) ∈ ps):(asl.getD j default).ins.touches=true:=by
 unfold ZdS at h
 simp only at h
 split at h
 ·injection h with h
  rw [<-h,Xu] at hm
  rcases hm with hm | hm
  ·simp only [WC,Wg,XK,W2,Xb] at hm
   obtain ⟨⟨a,_,b,⟨hb,_⟩,e1,e2⟩,_⟩:=hm
   omega
  ·simp only [XK,WC,W2,Xb,and_self,Xl] at hm
   obtain ⟨a,⟨_,hc,_⟩,rfl⟩:=hm
   cases hi:(asl.getD a default).ins <;> rw [hi] at hc <;> first | rfl | (simp [ZaI] at hc)
 ·cases h
end
end
section
open Go.RowKit
section
variable {P:Program} {O:ZY} {bf:Nat->Bool} {an:Ann} {base:Nat->Prop} {w0:World} {I0:Imm} {dr:Door}
theorem Zwr {o:AOp} {tm tm1:Tms} {σ σ1:Za} {sq:Nat} {v:AVal} {c:Cls} (ht:o.ins.touches=false) (h:Zv O bf o sq tm σ=some (v,tm1,σ1,c)):c={}:=by
 unfold Zv at h
 split at h
 ·cases h
 ·simp only [Xa,Xb] at h;exact h.2.2.2.symm
 ·split at h
  ·split at h
   ·rename_i he
    simp only [Xa,Xb] at h
    rw [<-h.2.2.2]
    exact (ZyR ht he).1
   ·cases h
  ·cases h
theorem Zgk {i:Ins} (h:i.touches=false):nsite i=0:=by cases i <;> simp [Ins.touches] at h <;> rfl
theorem ZfC {asl:List AOp} {L:Nat} {cs:List Cls}:∀ {l:List Nat} {tm tm':Tms} {σ σ':Za},Zb6 O bf asl L cs l tm σ tm' σ'->∀ j ∈ l,(asl.getD j default).ins.touches=false->cs.getD j {}={}
 | [],_,_,_,_,_,j,hj,_=>by simp at hj
 | i::l,_,_,_,_,h,j,hj,ht=>by
  cases h with
  | cons h1 _ h2 =>
   rcases XJ.1 hj with rfl | hj
   ·exact Zwr ht h1
   ·exact ZfC h2 j hj ht
theorem Zfq (asl:List AOp):∀ {j i:Nat},j < i->i<=asl.length->sitesOf (asl.take j)+nsite (asl.getD j default).ins<=sitesOf (asl.take i):=by
 intro j i hji hi
 induction i with
 | zero=>omega
 | succ i ih =>
  rw [ZkA asl (by omega)]
  by_cases e:j=i
  ·subst e
   simp [Xi,show j < asl.length by omega]
  ·have:=ih (by omega) (by omega);omega
theorem ZAJ (hO:Zaf P O) (hkp:∀ n ∈ dr.K,n ∈ an.keep) (hb:KLt base w0) {ops:Array Oper} {asl:List AOp} (hcomp:ZbG P an ops ops.toList=some asl) {ps:List (Nat×Nat)} (hps:ZdS asl=some ps) {L:Nat} {cs:List Cls} (hchk:ZcF asl L ps cs=true)
  {tmF:Tms} {σF:Za} {Q:Exit->Act->World->Prop} {I:Imm} {β:Bmap} (hQ:∀ a' w',StR dr an.nt base w0 I0 I β tmF σF a' w'->Q .normal a' w') :
  ∀ (fuel:Nat) (rem:List Nat) (listed:Array Bool) (a:Act) (w:World) (tm:Tms) (σ:Za),Zb6 O bf asl L cs rem tm σ tmF σF->rem.Pairwise (· < ·)->(∀ j ∈ rem,j < ops.size)->(∀ j,j < ops.size->(listed.getD j true=true↔j ∉ rem))->listed.size=ops.size ->
   (∀ k,k < ops.size->k ∉ rem->∀ p ∈ (Zbs (asl.map (·.after)) []).getD k [],p ∉ rem)->rem.length=fuel->StR dr an.nt base w0 I0 I β tm σ a w->wpAny P .any ops Q fuel listed a w:=by
 obtain ⟨hlen,hget⟩:=Zf5 hcomp
 obtain ⟨hp1,hp2⟩:=Ztb hps
 obtain ⟨_,_,hanc⟩:=Zmg (asl.map (·.after)) [] (fun _ _ _=>trivial)
 simp only [XR] at hlen
 have hafter:∀ j o,ops[j]?=some o->∃ ao,asl.getD j default=ao/\Zfb P an ops o=some ao/\ao.after=(o.after.toList.filter (Region.binds .any)).map (·.on)/\ao.dst=o.dst:=by
  intro j o ho
  obtain ⟨ao,h1,h2⟩:=hget j o (by simpa using ho)
  refine ⟨ao,by simp [Xi,h1],h2,?_⟩
  obtain ⟨g,i,_,_,_,rfl⟩:=Zi9 h2
  exact ⟨rfl,rfl⟩
 intro fuel
 induction fuel with
 | zero =>
  intro rem listed a w tm σ hr hs hlt hl hsz hcl hfl hst
  have : rem=[]:=XY hfl
  subst this
  cases hr
  refine ⟨?_,hQ a w hst⟩
  apply List.eq_nil_iff_forall_not_mem.2
  intro j hj
  rw [mem_ready] at hj
  obtain ⟨h1,o,ho,_⟩:=hj
  have hjl:j < ops.size:=(XB.1 ho).1
  have:=(hl j hjl).2 (by simp)
  rw [h1] at this;cases this
 | succ fuel ih =>
  intro rem listed a w tm σ hr hs hlt hl hsz hcl hfl hst
  have isRem:∀ j,j < ops.size->listed.getD j true=false->j ∈ rem:=by
   intro j hj h
   by_cases hm:j ∈ rem
   ·exact hm
   ·have:=(hl j hj).2 hm;rw [h] at this;cases this
  have getD_tf:∀ j,j < ops.size->listed.getD j false=listed.getD j true:=by
   intro j hj
   simp [Xas,hsz,hj]
  refine ⟨fun hnil=>?_,fun i hi=>?_⟩
  ·exfalso
   cases rem with
   | nil=>simp at hfl
   | cons r rs =>
    have hrl:r < ops.size:=hlt r (by simp)
    have hro:ops[r]?=some ops[r]:=by simp [hrl]
    obtain ⟨ao,e1,e2,e3,_⟩:=hafter r _ hro
    have : r ∈ Region.ready .any ops listed:=by
     rw [mem_ready]
     refine ⟨?_,ops[r],hro,fun e he hbnd=>?_⟩
     ·cases hq:listed.getD r true with
      | false=>rfl
      | true=>exact absurd (List.mem_cons_self) ((hl r hrl).1 hq)
     ·have hon:e.on ∈ ao.after:=by rw [e3];exact XK.2 ⟨e,WC.2 ⟨by simpa using he,hbnd⟩,rfl⟩
      have hlt':e.on < r:=hp2 r (by omega) e.on (by rw [e1];exact hon)
      rw [getD_tf _ (by omega)]
      refine (hl e.on (by omega)).2 (fun hm=>?_)
      rcases XJ.1 hm with h | hm
      ·omega
      ·have:=(WV.1 hs).1 e.on hm;omega
    rw [hnil] at this;simp at this
  ·rw [mem_ready] at hi
   obtain ⟨hi0,o,ho,hpre⟩:=hi
   have hil:i < ops.size:=(XB.1 ho).1
   have him:=isRem i hil hi0
   obtain ⟨l1,l2,rfl⟩:=List.append_of_mem him
   obtain ⟨ao,e1,e2,e3,e4⟩:=hafter i o ho
   have hdone:∀ p ∈ (asl.getD i default).after,p < ops.size->p ∉ l1++i::l2:=by
    intro p hp hpl
    rw [e1,e3] at hp
    obtain ⟨e,he,rfl⟩:=XK.1 hp
    obtain ⟨he1,he2⟩:=WC.1 he
    have:=hpre e (by simpa using he1) he2
    rw [getD_tf _ hpl] at this
    exact (hl e.on hpl).1 this
   have hai:(asl.map (·.after)).getD i []=(asl.getD i default).after:=by
    simp [Xi,show i < asl.length by omega]
   have hanci:∀ p ∈ (Zbs (asl.map (·.after)) []).getD i [],p ∉ l1++i::l2:=by
    intro p hp
    have hap:∀ q,q ∈ (asl.map (·.after)).getD i []->q < i:=fun q hq=>hp2 i (by omega) q (by rw [<-hai];exact hq)
    rcases hanc i (by simp;omega) p (by simpa using hp) with h | ⟨q,h1,h2,h3⟩
    ·exact hdone p (by rw [<-hai];exact h) (by have:=hap p h;omega)
    ·have hql:q < ops.size:=by simp at h2;omega
     exact hcl q hql (hdone q (by rw [<-hai];exact h1) hql) p h3
   have hl1:∀ j ∈ l1,j < i:=by
    intro j hj
    have:=Wz.1 hs
    exact this.2.2 j hj i (by simp)
   obtain ⟨v1,tm1,σ1,h1,hnp1,h2⟩:=ZoT (l1:=l1) (i:=i) (fun j hj=>by
    have hji:=hl1 j hj
    have hjn:j ∉ (Zbs (asl.map (·.after)) []).getD i []:=fun hm=>hanci j hm (by simp [hj])
    obtain ⟨p1,p2⟩:=hp1 j i hji (by omega) hjn
    refine ⟨p1,?_,fun hn _=>?_,?_⟩
    ·rcases p2 with p2 | p2 | p2
     ·have:=ZfC hr j (by simp [hj]) p2
      have hem:Zbz (asl.getD j default) (cs.getD j {})=true:=by rw [this];simp only [Zbz,Zgk p2];rfl
      simp only [Zb1,hem,Xah]
     ·have:=ZfC hr i (by simp) p2
      have hem:Zbz (asl.getD i default) (cs.getD i {})=true:=by rw [this];simp only [Zbz,Zgk p2];rfl
      simp only [Zb1,hem,Xah,XaI]
     ·have:=XI.1 hchk (j,i) p2
      simp only [Wu,beq_iff_eq] at this
      rcases this with h | h
      ·omega
      ·exact h
    ·have:=Zfq asl hji (by omega)
     omega
    ·have:=Zfq asl hji (by omega)
     omega) hr
   unfold wpOp
   rw [ho]
   rw [e1] at h1
   obtain ⟨I',β',g1,g2,g3,g4,g5⟩:=hst
   refine ZfX hO hkp e2 g3 g4 g5 hb h1 (fun _ a' w' hs'=>ih (l1++l2) _ a' w' tm1 σ1 h2 ?_ ?_ ?_ (by simpa using hsz) ?_ ?_ (hs'.trans g1 g2)) (fun x e=>absurd e (hnp1 x))
   ·have:=Wz.1 hs
    exact Wz.2 ⟨this.1,(WV.1 this.2.1).2,fun x hx y hy=>this.2.2 x hx y (by simp [hy])⟩
   ·intro j hj
    refine hlt j ?_
    simp only [Xu,XJ] at hj ⊢
    rcases hj with h | h
    ·exact Xv h
    ·exact XD (XD h)
   ·intro j hj
    have hs1:=Wz.1 hs
    by_cases hij:i=j
    ·subst hij
     have hn:i ∉ l1++l2:=by
      intro hm
      rcases Xu.1 hm with h | h
      ·have:=hl1 i h;omega
      ·have:=(WV.1 hs1.2.1).1 i h;omega
     simp [Xas,hsz,hil,hn]
    ·rw [getD_set_ne true hij,hl j hj]
     simp only [Xu,XJ,not_or]
     constructor
     ·rintro ⟨a1,_,a3⟩;exact ⟨a1,a3⟩
     ·rintro ⟨a1,a3⟩;exact ⟨a1,fun e=>hij e.symm,a3⟩
   ·intro k hk hkn p hp hm
    have hsub:p ∈ l1++i::l2:=by
     simp only [Xu,XJ] at hm ⊢
     rcases hm with h | h
     ·exact Xv h
     ·exact XD (XD h)
    by_cases hki:k=i
    ·subst hki;exact hanci p hp hsub
    ·refine hcl k hk (fun hkm=>hkn ?_) p hp hsub
     simp only [Xu,XJ] at hkm ⊢
     rcases hkm with h | h | h
     ·exact Xv h
     ·exact absurd h hki
     ·exact XD h
   ·simp at hfl ⊢;omega
theorem ZAw (hO:Zaf P O) (hkp:∀ n ∈ dr.K,n ∈ an.keep) (hb:KLt base w0) {ops:Array Oper} {asl:List AOp} (hcomp:ZbG P an ops ops.toList=some asl) {ps:List (Nat×Nat)} (hps:ZdS asl=some ps) {L:Nat} {cs:List Cls} {jp:Nat} (hjl:jp < ops.size) (hmark:(jp,jp) ∈ ps) (hmarkT:(asl.getD jp default).ins.touches=true) (hfree:∀ j i,(j,i) ∈ ps->j < i->i<=jp->Zb1 (asl.getD j default) (asl.getD i default) (cs.getD j {}) (cs.getD i {}) (L+sitesOf (asl.take j))=true) (hquiet:∀ j,(j,jp) ∈ ps->j < jp->ZaQ (asl.getD j default).ins=true)
  {x:AVal} {σF:Za} {Q:Exit->Act->World->Prop} {I:Imm} {β:Bmap} (hQ:∀ a' u w',dr.ok a'->Post base w0 I0 I β x σF u w'->Q (.panic [{ v:=u,recovered:=false }]) a' w') :
  ∀ (fuel:Nat) (pre post:List Nat) (listed:Array Bool) (a:Act) (w:World) (tm tmJ tmX:Tms) (σ σJ:Za),Zb6 O bf asl L cs pre tm σ tmJ σJ->Zv O bf (asl.getD jp default) (L+sitesOf (asl.take jp)) tmJ σJ=some (.pan x,tmX,σF,cs.getD jp {})->(pre++jp::post).Pairwise (· < ·)->(∀ j ∈ pre++jp::post,j < ops.size)->(∀ j,j < ops.size->(listed.getD j true=true↔j ∉ pre++jp::post))->listed.size=ops.size ->
   (∀ k,k < ops.size->k ∉ pre++jp::post->∀ p ∈ (Zbs (asl.map (·.after)) []).getD k [],p ∉ pre++jp::post)->(pre++jp::post).length=fuel->StR dr an.nt base w0 I0 I β tm σ a w->wpAny P .any ops Q fuel listed a w:=by
 obtain ⟨hlen,hget⟩:=Zf5 hcomp
 obtain ⟨hp1,hp2⟩:=Ztb hps
 have hmk:=Zx3 hps hmark
 obtain ⟨_,_,hanc⟩:=Zmg (asl.map (·.after)) [] (fun _ _ _=>trivial)
 simp only [XR] at hlen
 have hafter:∀ j o,ops[j]?=some o->∃ ao,asl.getD j default=ao/\Zfb P an ops o=some ao/\ao.after=(o.after.toList.filter (Region.binds .any)).map (·.on)/\ao.dst=o.dst:=by
  intro j o ho
  obtain ⟨ao,h1,h2⟩:=hget j o (by simpa using ho)
  refine ⟨ao,by simp [Xi,h1],h2,?_⟩
  obtain ⟨g,i,_,_,_,rfl⟩:=Zi9 h2
  exact ⟨rfl,rfl⟩
 intro fuel
 induction fuel with
 | zero =>
  intro pre post listed a w tm tmJ tmX σ σJ hr hj hs hlt hl hsz hcl hfl hst
  simp at hfl
 | succ fuel ih =>
  intro pre post listed a w tm tmJ tmX σ σJ hr hj hs hlt hl hsz hcl hfl hst
  have getD_tf:∀ j,j < ops.size->listed.getD j false=listed.getD j true:=by
   intro j hj
   simp [Xas,hsz,hj]
  have isRem:∀ j,j < ops.size->listed.getD j true=false->j ∈ pre++jp::post:=by
   intro j hj h
   by_cases hm:j ∈ pre++jp::post
   ·exact hm
   ·have:=(hl j hj).2 hm;rw [h] at this;cases this
  refine ⟨fun hnil=>?_,fun i hi=>?_⟩
  ·exfalso
   obtain ⟨r,rs,hrr⟩:∃ r rs,pre++jp::post=r::rs:=by cases pre <;> simp
   rw [hrr] at hs hlt hl
   have hrl:r < ops.size:=hlt r (by simp)
   have hro:ops[r]?=some ops[r]:=by simp [hrl]
   obtain ⟨ao,e1,e2,e3,_⟩:=hafter r _ hro
   have : r ∈ Region.ready .any ops listed:=by
    rw [mem_ready]
    refine ⟨?_,ops[r],hro,fun e he hbnd=>?_⟩
    ·cases hq:listed.getD r true with
     | false=>rfl
     | true=>exact absurd (List.mem_cons_self) ((hl r hrl).1 hq)
    ·have hon:e.on ∈ ao.after:=by rw [e3];exact XK.2 ⟨e,WC.2 ⟨by simpa using he,hbnd⟩,rfl⟩
     have hlt':e.on < r:=hp2 r (by omega) e.on (by rw [e1];exact hon)
     rw [getD_tf _ (by omega)]
     refine (hl e.on (by omega)).2 (fun hm=>?_)
     rcases XJ.1 hm with h | hm
     ·omega
     ·have:=(WV.1 hs).1 e.on hm;omega
   rw [hnil] at this;simp at this
  ·rw [mem_ready] at hi
   obtain ⟨hi0,o,ho,hpre⟩:=hi
   have hil:i < ops.size:=(XB.1 ho).1
   have him:=isRem i hil hi0
   obtain ⟨ao,e1,e2,e3,e4⟩:=hafter i o ho
   have hdone:∀ p ∈ (asl.getD i default).after,p < ops.size->p ∉ pre++jp::post:=by
    intro p hp hpl
    rw [e1,e3] at hp
    obtain ⟨e,he,rfl⟩:=XK.1 hp
    obtain ⟨he1,he2⟩:=WC.1 he
    have:=hpre e (by simpa using he1) he2
    rw [getD_tf _ hpl] at this
    exact (hl e.on hpl).1 this
   have hai:(asl.map (·.after)).getD i []=(asl.getD i default).after:=by
    simp [Xi,show i < asl.length by omega]
   have hanci:∀ p ∈ (Zbs (asl.map (·.after)) []).getD i [],p ∉ pre++jp::post:=by
    intro p hp
    have hap:∀ q,q ∈ (asl.map (·.after)).getD i []->q < i:=fun q hq=>hp2 i (by omega) q (by rw [<-hai];exact hq)
    rcases hanc i (by simp;omega) p (by simpa using hp) with h | ⟨q,h1,h2,h3⟩
    ·exact hdone p (by rw [<-hai];exact h) (by have:=hap p h;omega)
    ·have hql:q < ops.size:=by simp at h2;omega
     exact hcl q hql (hdone q (by rw [<-hai];exact h1) hql) p h3
   have hss:=Wz.1 hs
   rw [Xu,XJ] at him
   rcases him with him | hij | him
   ·obtain ⟨l1,l2,rfl⟩:=List.append_of_mem him
    have hl1:∀ j ∈ l1,j < i:=by
     intro j hj
     exact (Wz.1 hss.1).2.2 j hj i (by simp)
    have hijp:i < jp:=hss.2.2 i (by simp) jp (by simp)
    obtain ⟨v1,tm1,σ1,h1,hnp1,h2⟩:=ZoT (l1:=l1) (i:=i) (fun j hj'=>by
     have hji:=hl1 j hj'
     have hjn:j ∉ (Zbs (asl.map (·.after)) []).getD i []:=fun hm=>hanci j hm (by simp [hj'])
     obtain ⟨p1,p2⟩:=hp1 j i hji (by omega) hjn
     refine ⟨p1,?_,fun hn _=>?_,?_⟩
     ·rcases p2 with p2 | p2 | p2
      ·have:=ZfC hr j (by simp [hj']) p2
       have hem:Zbz (asl.getD j default) (cs.getD j {})=true:=by rw [this];simp only [Zbz,Zgk p2];rfl
       simp only [Zb1,hem,Xah]
      ·have:=ZfC hr i (by simp) p2
       have hem:Zbz (asl.getD i default) (cs.getD i {})=true:=by rw [this];simp only [Zbz,Zgk p2];rfl
       simp only [Zb1,hem,Xah,XaI]
      ·exact hfree j i p2 hji (by omega)
     ·have:=Zfq asl hji (by omega)
      omega
     ·have:=Zfq asl hji (by omega)
      omega) hr
    have eA:(l1++i::l2)++jp::post=l1++i::(l2++jp::post):=by simp
    have eB:(l1++l2)++jp::post=l1++(l2++jp::post):=by simp
    rw [eA] at hs hlt hl hcl hanci hfl
    unfold wpOp
    rw [ho]
    rw [e1] at h1
    obtain ⟨I',β',g1,g2,g3,g4,g5⟩:=hst
    refine ZfX hO hkp e2 g3 g4 g5 hb h1 (fun _ a' w' hs'=>ih (l1++l2) post _ a' w' tm1 tmJ tmX σ1 σJ h2 hj ?_ ?_ ?_ (by simpa using hsz) ?_ ?_ (hs'.trans g1 g2)) (fun x e=>absurd e (hnp1 x))
    ·rw [eB]
     have:=Wz.1 hs
     exact Wz.2 ⟨this.1,(WV.1 this.2.1).2,fun x hx y hy=>this.2.2 x hx y (by simp only [XJ];exact XD hy)⟩
    ·intro j hj
     rw [eB] at hj
     refine hlt j ?_
     simp only [Xu,XJ] at hj ⊢
     rcases hj with h | h | h | h
     ·exact Xv h
     ·exact XD (XD (Xv h))
     ·exact XD (XD (XD (Xv h)))
     ·exact XD (XD (XD (XD h)))
    ·intro j hj
     rw [eB]
     generalize l2++jp::post=L2 at *
     have hs1:=Wz.1 hs
     by_cases hij:i=j
     ·subst hij
      have hn:i ∉ l1++L2:=by
       intro hm
       rcases Xu.1 hm with h | h
       ·have:=hl1 i h;omega
       ·have:=(WV.1 hs1.2.1).1 i h;omega
      simp [Xas,hsz,hil,hn]
     ·rw [getD_set_ne true hij,hl j hj]
      simp only [Xu,XJ,not_or]
      constructor
      ·rintro ⟨a1,_,a3⟩;exact ⟨a1,a3⟩
      ·rintro ⟨a1,a3⟩;exact ⟨a1,fun e=>hij e.symm,a3⟩
    ·intro k hk hkn p hp hm
     rw [eB] at hkn hm
     generalize l2++jp::post=L2 at *
     have hsub:p ∈ l1++i::L2:=by
      simp only [Xu,XJ] at hm ⊢
      rcases hm with h | h
      ·exact Xv h
      ·exact XD (XD h)
     by_cases hki:k=i
     ·subst hki;exact hanci p hp hsub
     ·refine hcl k hk (fun hkm=>hkn ?_) p hp hsub
      simp only [Xu,XJ] at hkm ⊢
      rcases hkm with h | h | h
      ·exact Xv h
      ·exact absurd h hki
      ·exact XD h
    ·rw [eB];simp at hfl ⊢;omega
   ·subst hij
    have hl1:∀ j ∈ pre,j < i:=fun j hj=>hss.2.2 j hj i (by simp)
    obtain ⟨tm1,h1⟩:=Ztx (l1:=pre) (i:=i) (fun j hj'=>by
     have hji:=hl1 j hj'
     have hjn:j ∉ (Zbs (asl.map (·.after)) []).getD i []:=fun hm=>hanci j hm (by simp [hj'])
     obtain ⟨p1,p2⟩:=hp1 j i hji (by omega) hjn
     have hts:(asl.getD i default).ins.touches=false->False:=fun h=>by
      have:=hmarkT
      rw [h] at this;cases this
     refine ⟨?_,p1,?_,fun hn _=>?_,?_⟩
     ·rcases p2 with p2 | p2 | p2
      ·exact Xv p2
      ·exact (hts p2).elim
      ·exact XD (hquiet j p2 hji)
     ·rcases p2 with p2 | p2 | p2
      ·have:=ZfC hr j hj' p2
       have hem:Zbz (asl.getD j default) (cs.getD j {})=true:=by rw [this];simp only [Zbz,Zgk p2];rfl
       simp only [Zb1,hem,Xah]
      ·exact (hts p2).elim
      ·exact hfree j i p2 hji (XN _)
     ·have:=Zfq asl hji (by omega)
      omega
     ·have:=Zfq asl hji (by omega)
      omega) hr hj
    unfold wpOp
    rw [ho]
    rw [e1] at h1
    obtain ⟨I',β',g1,g2,g3,g4,g5⟩:=hst
    refine ZfX hO hkp e2 g3 g4 g5 hb h1 (fun hn=>absurd rfl (hn x)) (fun x' e u w' hp=>?_)
    injection e with e
    subst e
    exact hQ a u w' g4.1 (hp.trans g1 g2)
   ·exfalso
    have hlt2:jp < i:=(WV.1 hss.2.1).1 i him
    exact hanci jp (hmk i hlt2 (by omega)) (by simp)
theorem Rel.reserve {I:Imm} {β:Bmap} {σ:Za} {w:World} (R:Rel base w0 I0 I β σ w) (n:Nat):Rel base w0 I0 I β (σ++XL n .free) w:=by
 have look:∀ t x,(σ++XL n ZU.free)[t]?=some x->σ[t]?=some x\/(σ.length<=t/\x=.free):=by
  intro t x h
  by_cases ht:t < σ.length
  ·rw [Wv ht] at h;exact Xv h
  ·rw [WR (by omega)] at h
   refine XD ⟨by omega,?_⟩
   have:=Xr h
   exact List.eq_of_mem_replicate this
 refine ⟨R.below,R.old,R.imm,?_,?_,?_,?_,?_,?_,R.glob,?_⟩
 ·intro t x h
  rcases look t x h with h | ⟨_,rfl⟩
  ·exact R.blk t x h
  ·trivial
 ·intro t x b h hb
  rcases look t x h with h | ⟨_,rfl⟩
  ·exact R.own t x b h hb
  ·cases hb
 ·intro t x t' x' b h h' hb hb'
  rcases look t x h with h | ⟨_,rfl⟩
  ·rcases look t' x' h' with h' | ⟨_,rfl⟩
   ·exact R.apart t x t' x' b h h' hb hb'
   ·cases hb'
  ·cases hb
 ·intro t g h
  exact R.fresh t g (by simp at h;omega)
 ·intro t g h
  rcases look t _ h with h | ⟨h,_⟩
  ·exact R.free t g h
  ·exact R.fresh t g h
 ·intro t x g h hg
  rcases look t _ h with h | ⟨h,_⟩
  ·exact R.gen t x g h hg
  ·exact R.fresh t g h
 ·intro t x b h hb
  rcases look t x h with h | ⟨_,rfl⟩
  ·exact R.ro t x b h hb
  ·cases hb
theorem StR.keep {I:Imm} {β:Bmap} {tm:Tms} {σ:Za} {a:Act} {w:World} (h:StR dr an.nt base w0 I0 I β tm σ a w) (live:List Nat):StR dr an.nt base w0 I0 I β (keepL live tm) σ a w:=by
 obtain ⟨I',β',h1,h2,h3,h4⟩:=h
 exact ⟨I',β',h1,h2,h3.keep live,h4⟩
def ZAj (dr:Door) (an:Ann) (base:Nat->Prop) (w0:World) (I0 I:Imm) (β:Bmap) (e:Zau) (tm:Tms) (σ:Za) (Q:Exit->Act->World->Prop):Prop:=match e with
 | .normal=>∀ a w,StR dr an.nt base w0 I0 I β tm σ a w->Q .normal a w
 | .exit id=>∀ a w,StR dr an.nt base w0 I0 I β tm σ a w->Q (.exit id) a w
 | .ret=>∀ a w,StR dr an.nt base w0 I0 I β tm σ a w->Q .ret a w
 | .panic x=>∀ a u w,dr.ok a->Post base w0 I0 I β x σ u w->Q (.panic [{ v:=u,recovered:=false }]) a w
theorem Zg9 (hO:Zaf P O) (hkp:∀ n ∈ dr.K,n ∈ an.keep) (hm:P.follows .mixedOrders=true) (hb:KLt base w0) {id:Nat} {ops:Array Oper} {draw:Bool} {asl:List AOp} {chk:Option (List (Nat×Nat))} {live:List Nat} (hc:Zaj P an (.region id ops draw)=.region asl chk live) {I:Imm} {β:Bmap} {tm tm':Tms} {σ σ':Za} {a:Act} {w:World} {e:Zau}
  (hst:StR dr an.nt base w0 I0 I β tm σ a w) (h:Zbm O bf asl chk live tm σ=some (e,tm',σ')) {Q:Exit->Act->World->Prop} (hQ:ZAj dr an base w0 I0 I β e tm' σ' Q):(Code.region id ops draw).wp P Q a w:=by
 obtain ⟨I1,β1,g1,g2,g3,g4,g5⟩:=hst
 simp only [Zaj] at hc
 split at hc
 ·rename_i l hl
  unfold Zbm at h
  split at hc
  ·rename_i hd
   subst hd
   split at hc
   ·rename_i ps hps
    simp only [Zq.region.injEq] at hc
    obtain ⟨rfl,rfl,rfl⟩:=hc
    cases hrun:ZX O bf l σ.length tm (σ++XL (sitesOf l) .free) with
    | none=>rw [hrun] at h;simp only [Zcc] at h;cases h
    | some q =>
     obtain ⟨tm1,σ1,cs,p⟩:=q
     rw [hrun] at h
     cases p with
     | some x =>
      simp only [Zcc] at h
      split at h
      ·rename_i hpan
       simp only [Xa,Xb] at h
       obtain ⟨rfl,rfl,rfl⟩:=h
       have hlen:=(Zf5 hl).1
       simp only [XR] at hlen
       obtain ⟨n,tmJ,σJ,tmX,q1,q2,q3,q4⟩:=Zuj (O:=O) (bf:=bf) (ops:=l) (L:=σ.length) l.length 0 (cs:=cs) (cs':=cs) (by omega) (by simpa [sitesOf] using hrun) (fun j=>by simp)
       rw [XC] at q4
       unfold Zbk at hpan
       rw [q2] at hpan
       simp only [Xl,List.any_eq_true,XI,Wu,beq_iff_eq,decide_eq_true_eq,Nat.add_sub_cancel] at hpan
       obtain ⟨⟨pm,hpm,hm1,hm2⟩,hall⟩:=hpan
       have hmk:(n,n) ∈ ps:=by
        obtain ⟨a1,a2⟩:=pm
        simp only at hm1 hm2
        subst hm1 hm2
        exact hpm
       have hT:(l.getD n default).ins.touches=true:=Zw6 hps hmk
       refine wp_region_any hm (ZAw hO hkp hb hl hps (jp:=n) (by omega) hmk hT (fun j i hji h1 h2=>?_) (fun j hj h1=>?_) (I:=I) (β:=β) (x:=x) (fun a' u w' hd' hp=>hQ a' u w' hd' hp) ops.size (Xaz 0 n) (Xaz (n+1) (l.length - n - 1)) _ a _ tm tmJ tmX _ σJ q3 q4 ?_ ?_ ?_ (by simp) ?_ (by simp;omega) ⟨I1,β1,g1,g2,g3,g4,(g5.reserve _).same rfl rfl rfl rfl⟩)
       ·rcases hall (j,i) hji with (h | h) | ⟨h,_⟩
        ·simp only at h;omega
        ·simp only at h;omega
        ·exact h
       ·rcases hall (j,n) hj with (h | h) | ⟨_,h⟩
        ·simp only at h;omega
        ·simp only at h;omega
        ·rcases h with h | h
         ·simp only at h;omega
         ·exact h
       ·have e:Xaz 0 n++n::Xaz (n+1) (l.length - n - 1)=Xaz 0 l.length:=by
         rw [<-Xa9]
         have:=List.range'_append_1 (s:=0) (m:=n) (n:=l.length - n - 1+1)
         rw [XC] at this
         rw [this]
         congr 1
         omega
        rw [e];exact List.pairwise_lt_range'
       ·intro j hj;simp at hj;omega
       ·intro j hj
        simp [Xas,hj]
        omega
       ·intro k hk hkn
        exact absurd (by simp;omega) hkn
      ·cases h
     | none =>
      simp only [Zcc] at h
      split at h
      ·rename_i hchk
       simp only [Xa,Xb] at h
       obtain ⟨rfl,rfl,rfl⟩:=h
       have hlen:=(Zf5 hl).1
       simp only [XR] at hlen
       have hr:=Zts (O:=O) (bf:=bf) (ops:=l) (L:=σ.length) l.length 0 (cs:=cs) (cs':=cs) (by omega) (by simpa [sitesOf] using hrun) (fun j=>by simp)
       refine wp_region_any hm (ZAJ hO hkp hb hl hps hchk (I:=I) (β:=β) (fun a' w' hs=>hQ a' w' (hs.keep _)) ops.size (Xaz 0 l.length) _ a _ tm _ hr ?_ ?_ ?_ (by simp) ?_ (by simp [hlen]) ⟨I1,β1,g1,g2,g3,g4,(g5.reserve _).same rfl rfl rfl rfl⟩)
       ·exact List.pairwise_lt_range'
       ·intro j hj;simp at hj;omega
       ·intro j hj
        simp [Xas,hj,hlen]
       ·intro k hk hkn
        exact absurd (by simp;omega) hkn
      ·cases h
   ·cases hc
  ·rename_i hd
   simp only [Zq.region.injEq] at hc
   obtain ⟨rfl,rfl,rfl⟩:=hc
   have hdf:draw=false:=by cases draw <;> simp_all
   subst hdf
   cases hrun:ZX O bf l σ.length tm (σ++XL (sitesOf l) .free) with
   | none=>rw [hrun] at h;simp only [Zcc] at h;cases h
   | some q =>
    obtain ⟨tm1,σ1,cs,p⟩:=q
    rw [hrun] at h
    cases p with
    | none =>
     simp only [Zcc,Xa,Xb] at h
     obtain ⟨rfl,rfl,rfl⟩:=h
     exact wp_region_list (Zo9 hO hkp hb hl g3 g4 (g5.reserve _) hrun (fun _ a' w' hs=>hQ a' w' ((hs.trans g1 g2).keep _)) (fun x hx=>by cases hx))
    | some x =>
     simp only [Zcc,Xa,Xb] at h
     obtain ⟨rfl,rfl,rfl⟩:=h
     exact wp_region_list (Zo9 hO hkp hb hl g3 g4 (g5.reserve _) hrun (fun hx=>by cases hx) (fun x' hx a' u w' hd' hp=>by
      injection hx with hx;subst hx
      exact hQ a' u w' hd' (hp.trans g1 g2)))
 ·cases hc
end
end
section
open Go.RowKit
section
variable {P:Program} {O:ZY} {bf:Nat->Bool} {an:Ann} {base:Nat->Prop} {w0:World} {I0:Imm} {dr:Door}
def StF (dr:Door) (m nt:Nat) (base:Nat->Prop) (w0:World) (I0 I:Imm) (β:Bmap) (tm:Tms) (σ:Za) (a:Act) (w:World):Prop :=
 ∃ I' β',I.le I'/\KeptE m β β'/\TR I' β' tm a.tmps/\(dr.ok a/\nt<=a.tmps.size)/\Rel base w0 I0 I' β' σ w
def Zx6 (dr:Door) (m:Nat) (an:Ann) (base:Nat->Prop) (w0:World) (I0 I:Imm) (β:Bmap) (e:Zau) (tm:Tms) (σ:Za) (Q:Exit->Act->World->Prop):Prop:=match e with
 | .normal=>∀ a w,StF dr m an.nt base w0 I0 I β tm σ a w->Q .normal a w
 | .exit id=>∀ a w,StF dr m an.nt base w0 I0 I β tm σ a w->Q (.exit id) a w
 | .ret=>∀ a w,StF dr m an.nt base w0 I0 I β tm σ a w->Q .ret a w
 | .panic x=>∀ a u w,dr.ok a->Zbj m base w0 I0 I β (.pan x) σ u w->Q (.panic [{ v:=u,recovered:=false }]) a w
theorem StF.cond {m:Nat} {I:Imm} {β:Bmap} {tm:Tms} {σ:Za} {a:Act} {w:World} (h:StF dr m an.nt base w0 I0 I β tm σ a w) {c:Operand} {y:Opd} (hc:Z8 c=some y) {b:Bool} (hv:y.ev tm=.bool b):a.eval c=.bool b:=by
 obtain ⟨I',β',_,_,T,_,_⟩:=h
 have:=Z7 T hc
 rw [hv] at this
 simpa only [VR] using this
theorem Zih (hO:Zaf P O) (hkp:∀ n ∈ dr.K,n ∈ an.keep) (hm:P.follows .mixedOrders=true) (hb:KLt base w0) (m n:Nat):∀ {c:Code} {ac:Zq},Zaj P an c=ac->∀ {I:Imm} {β:Bmap} {tm tm':Tms} {σ σ':Za} {a:Act} {w:World} {e:Zau},StF dr m an.nt base w0 I0 I β tm σ a w->Z3 O bf m n ac tm σ=some (e,tm',σ') ->
  ∀ {Q:Exit->Act->World->Prop},Zx6 dr m an base w0 I0 I β e tm' σ' Q->c.wp P Q a w:=by
 intro c
 induction c with
 | skip =>
  intro ac hc I β tm tm' σ σ' a w e hst h Q hQ
  simp only [Zaj] at hc;subst hc
  simp only [Z3,Xa,Xb] at h
  obtain ⟨rfl,rfl,rfl⟩:=h
  exact wp_skip (hQ a w hst)
 | region id ops draw =>
  intro ac hc I β tm tm' σ σ' a w e hst h Q hQ
  obtain ⟨asl,chk,live,rfl⟩:∃ asl chk live,ac=.region asl chk live:=by
   simp only [Zaj] at hc
   split at hc
   ·split at hc
    ·split at hc
     ·exact ⟨_,_,_,hc.symm⟩
     ·subst hc;simp only [Z3] at h;cases h
    ·exact ⟨_,_,_,hc.symm⟩
   ·subst hc;simp only [Z3] at h;cases h
  simp only [Z3] at h
  obtain ⟨I1,β1,g1,g2,g3,g4,g5⟩:=hst
  have up:∀ {tm:Tms} {σ:Za} {a':Act} {w':World},StR dr an.nt base w0 I0 I1 β1 tm σ a' w'->StF dr m an.nt base w0 I0 I β tm σ a' w':=by
   rintro tm σ a' w' ⟨I2,β2,k1,k2,k3⟩
   exact ⟨I2,β2,g1.trans k1,g2.trans (KeptE.of_le k2),k3⟩
  refine Zg9 hO hkp hm hb hc (⟨I1,β1,Imm.le.refl I1,Bmap.le.refl β1,g3,g4,g5⟩:StR dr an.nt base w0 I0 I1 β1 tm σ a w) h ?_
  cases e with
  | normal=>exact fun a' w' hs=>hQ a' w' (up hs)
  | exit id=>exact fun a' w' hs=>hQ a' w' (up hs)
  | ret=>exact fun a' w' hs=>hQ a' w' (up hs)
  | panic x =>
   rintro a' u w' hd ⟨I2,β2,k1,k2,k3,k4⟩
   exact hQ a' u w' hd ⟨I2,β2,g1.trans k1,g2.trans (KeptE.of_le k2),k3,k4⟩
 | seq x y ihx ihy =>
  intro ac hc I β tm tm' σ σ' a w e hst h Q hQ
  simp only [Zaj] at hc
  subst hc
  simp only [Z3] at h
  refine wp_seq ?_
  split at h
  ·rename_i tm1 σ1 h1
   exact ihx rfl hst h1 (fun a' w' hs=>ihy rfl hs h hQ)
  ·rename_i hne
   refine ihx rfl hst h ?_
   cases e with
   | normal=>exact absurd h (hne _ _)
   | exit id=>exact hQ
   | ret=>exact hQ
   | panic x=>exact hQ
 | cond c x y ihx ihy =>
  intro ac hc I β tm tm' σ σ' a w e hst h Q hQ
  simp only [Zaj] at hc
  split at hc
  ·rename_i c' hcc
   subst hc
   simp only [Z3] at h
   split at h
   ·rename_i hv
    exact wp_cond_true (hst.cond hcc hv) (ihx rfl hst h hQ)
   ·rename_i hv
    exact wp_cond_false (hst.cond hcc hv) (ihy rfl hst h hQ)
   ·cases h
  ·subst hc;simp only [Z3] at h;cases h
 | block id x ih =>
  intro ac hc I β tm tm' σ σ' a w e hst h Q hQ
  simp only [Zaj] at hc
  subst hc
  have hx:Zaj P an x=Zaj P an x:=rfl
  simp only [Z3] at h
  refine wp_block ?_
  split at h
  ·rename_i i tm1 σ1 h1
   refine ih hx hst h1 ?_
   intro a' w' hs
   simp only [Exit.inBlock]
   split at h
   ·rename_i hid
    simp only [Xa,Xb] at h
    obtain ⟨rfl,rfl,rfl⟩:=h
    rw [if_pos hid]
    exact hQ a' w' hs
   ·rename_i hid
    simp only [Xa,Xb] at h
    obtain ⟨rfl,rfl,rfl⟩:=h
    rw [if_neg hid]
    exact hQ a' w' hs
  ·rename_i hne
   refine ih hx hst h ?_
   cases e with
   | normal=>exact hQ
   | exit id=>exact absurd h (hne _ _ _)
   | ret=>exact hQ
   | panic x=>exact hQ
 | loop x ih =>
  intro ac hc I β tm tm' σ σ' a w e hst h Q hQ
  simp only [Zaj] at hc
  subst hc
  have hx:Zaj P an x=Zaj P an x:=rfl
  simp only [Z3] at h
  refine wp_loop_rounds n ?_
  have key:∀ k {tm:Tms} {σ:Za} {a:Act} {w:World},StF dr m an.nt base w0 I0 I β tm σ a w->ZcI m (an.ll (ZdH x)) (Z3 O bf m n (Zaj P an x)) k tm σ=some (e,tm',σ')->Code.rounds P x Q k a w:=by
   intro k
   induction k with
   | zero=>intro tm σ a w _ h;simp only [ZcI] at h;cases h
   | succ k ihk =>
    intro tm σ a w hst h
    rw [rounds_succ]
    simp only [ZcI] at h
    obtain ⟨I1,β1,k1,k2,k3,k4,k5⟩:=hst
    obtain ⟨β2,q1,q2,q3⟩:=Znb k5 (k3.keep (an.ll (ZdH x))) m
    have hst0:StF dr m an.nt base w0 I0 I β (gcT m (keepL (an.ll (ZdH x)) tm) σ).1 (gcT m (keepL (an.ll (ZdH x)) tm) σ).2 a w:=⟨I1,β2,k1,k2.trans q1,q3,k4,q2⟩
    split at h
    ·rename_i tm1 σ1 h1
     exact ih hx hst0 h1 (fun a' w' hs=>ihk hs h)
    ·rename_i hne
     refine ih hx hst0 h ?_
     cases e with
     | normal=>exact absurd h (hne _ _)
     | exit id=>exact hQ
     | ret=>exact hQ
     | panic x=>exact hQ
  exact key n hst h
 | exit id =>
  intro ac hc I β tm tm' σ σ' a w e hst h Q hQ
  simp only [Zaj] at hc;subst hc
  simp only [Z3,Xa,Xb] at h
  obtain ⟨rfl,rfl,rfl⟩:=h
  exact wp_exit (hQ a w hst)
 | ret =>
  intro ac hc I β tm tm' σ σ' a w e hst h Q hQ
  simp only [Zaj] at hc;subst hc
  simp only [Z3,Xa,Xb] at h
  obtain ⟨rfl,rfl,rfl⟩:=h
  exact wp_ret (hQ a w hst)
 | rangeFunc f ps x y=>intro ac hc I β tm tm' σ σ' a w e hst h;simp only [Zaj] at hc;subst hc;simp only [Z3] at h;cases h
 | scope x ih =>
  intro ac hc I β tm tm' σ σ' a w e hst h Q hQ
  simp only [Zaj] at hc
  refine wp_scope_straight (ih hc hst h ?_)
  cases e with
  | normal=>exact hQ
  | exit id=>exact hQ
  | ret=>exact hQ
  | panic x=>exact hQ
 | label l =>
  intro ac hc I β tm tm' σ σ' a w e hst h Q hQ
  simp only [Zaj] at hc;subst hc
  simp only [Z3,Xa,Xb] at h
  obtain ⟨rfl,rfl,rfl⟩:=h
  exact wp_label (hQ a w hst)
 | goto l=>intro ac hc I β tm tm' σ σ' a w e hst h;simp only [Zaj] at hc;subst hc;simp only [Z3] at h;cases h
 | refuse why=>intro ac hc I β tm tm' σ σ' a w e hst h;simp only [Zaj] at hc;subst hc;simp only [Z3] at h;cases h
theorem Zwd {I:Imm} {β:Bmap} {σ σ':Za} {k:Option Nat} {a x:AVal} {c:Cls} {v:Value} (ha:VR I β a v) (h:ldA σ k a=some (x,σ',c)):∃ ad,v=.pointer (some ad):=by
 unfold ldA at h
 split at h
 ·simp only [VR] at ha;obtain ⟨b,k,c,_,rfl⟩:=ha;exact ⟨_,rfl⟩
 ·simp only [VR] at ha;obtain ⟨b,k,c,_,rfl⟩:=ha;exact ⟨_,rfl⟩
 ·simp only [VR] at ha;obtain ⟨b,off,rfl,_⟩:=ha;exact ⟨_,rfl⟩
 ·cases h
def Zge (tmps:Array Value):ResultVar->Sem Value
 | .tmp t=>pure (tmps.getD t undef)
 | .cell a t=>do loadVar t (<-asAddr (tmps.getD a undef))
theorem Zmb {I:Imm} {β:Bmap} {tm:Tms} {σ:Za} {w:World} {tmps:Array Value} (T:TR I β tm tmps) (R:Rel base w0 I0 I β σ w):∀ {rs:List ResultVar} {asl:List Zcf} {xs:List AVal},Zdw P rs=some asl->resAll tm σ asl=some xs ->
  ∃ vs:List Value,(rs.mapM (Zge tmps)).run P w=.ok vs w/\VRs I β xs vs
 | [],asl,xs,hc,h=>by
  simp only [Zdw,Xa] at hc;subst hc
  simp only [resAll,Xa] at h;subst h
  exact ⟨[],by simp,by simp only [VRs]⟩
 | r::rs,asl,xs,hc,h=>by
  have getD_eq:∀ t,VR I β (tget tm t) (tmps.getD t undef):=T
  cases r with
  | tmp t =>
   simp only [Zdw,Xm] at hc
   obtain ⟨as',has,rfl⟩:=hc
   simp only [resAll,resOne] at h
   split at h
   ·rename_i ys hys
    injection h with h;subst h
    obtain ⟨vs,h1,h2⟩:=Zmb T R has hys
    exact ⟨tmps.getD t undef::vs,by simp only [XaZ,Zge,Sem.run_bind,Sem.run_pure,Result.andThen_ok,h1],by simp only [VRs];exact ⟨_,_,rfl,getD_eq t,h2⟩⟩
   ·cases h
  | cell a t =>
   simp only [Zdw] at hc
   split at hc
   ·rename_i k as' hk has
    injection hc with hc;subst hc
    simp only [resAll,resOne] at h
    split at h
    ·rename_i v hv
     split at h
     ·rename_i ys hys
      injection h with h;subst h
      obtain ⟨vs,h1,h2⟩:=Zmb T R has hys
      split at hv
      ·rename_i v' σ1 c1 hld
       injection hv with hv;subst hv
       obtain ⟨u,hu1,hu2,_⟩:=Ztw hk R (getD_eq a) hld
       obtain ⟨ad,had⟩:=Zwd (getD_eq a) hld
       have hlv:(loadVar t ad).run P w=.ok u w:=by
        rw [had] at hu1
        simpa [Instr.loadAt,Instr.sureAddr] using hu1
       refine ⟨u::vs,?_,by simp only [VRs];exact ⟨_,_,rfl,hu2,h2⟩⟩
       simp only [XaZ,Zge,had,asAddr,Sem.run_bind,Sem.run_pure,Result.andThen_ok,hlv,h1]
      ·cases hv
     ·cases h
    ·cases h
   ·cases hc
theorem Zt8 {I:Imm} {β:Bmap} {tm:Tms} {σ:Za} {w:World} {tmps:Array Value} (T:TR I β tm tmps) (R:Rel base w0 I0 I β σ w) {fn:Func} {asl:List Zcf} {x:AVal} (hc:Zdw P fn.results.toList=some asl) (h:resA tm σ asl=some x):∃ v,(results fn tmps).run P w=.ok v w/\VR I β x v:=by
 unfold resA at h
 have run:∀ {xs:List AVal},resAll tm σ asl=some xs->∃ vs:List Value,(results fn tmps).run P w=.ok (if h:vs.toArray.size=1 then vs.toArray[0] else .tuple vs.toArray) w/\VRs I β xs vs:=by
  intro xs hx
  obtain ⟨vs,h1,h2⟩:=Zmb T R hc hx
  refine ⟨vs,?_,h2⟩
  have hm:(fn.results.mapM (Zge tmps)).run P w=.ok vs.toArray w:=by
   rw [Array.mapM_eq_mapM_toList,Sem.run_map,h1];rfl
  have he:results fn tmps=(do let vs <-fn.results.mapM (Zge tmps);pure (if h:vs.size=1 then vs[0] else .tuple vs)):=by
   unfold results
   congr 1
  rw [he,Sem.run_bind,hm]
  rfl
 split at h
 ·rename_i v hv
  injection h with h;subst h
  obtain ⟨vs,h1,h2⟩:=run hv
  simp only [VRs] at h2
  obtain ⟨u,us,rfl,h3,rfl⟩:=h2
  exact ⟨u,by rw [h1];simp,h3⟩
 ·rename_i vs' hv hne
  injection h with h;subst h
  obtain ⟨vs,h1,h2⟩:=run hne
  have hl:=Z9 h2
  refine ⟨.tuple vs.toArray,?_,by simp only [VR];exact ⟨_,rfl,by simpa using h2⟩⟩
  rw [h1,dif_neg]
  intro hs
  simp only [List.size_toArray] at hs
  match vs',hl with
  | [v],_=>exact hv v rfl
  | [],hl=>simp at hl;omega
  | _::_::_,hl=>simp at hl;omega
 ·cases h
theorem Zue:∀ (args:List AVal) (i:Nat) (acc:Tms) (n:Nat),tget (enterA i args acc) n=if i<=n/\n < i+args.length then args.getD (n - i) .top else tget acc n
 | [],i,acc,n=>by simp only [enterA,XF];rw [if_neg (by omega)]
 | x::xs,i,acc,n=>by
  simp only [enterA,List.length_cons]
  rw [Zue xs (i+1) _ n]
  by_cases h:i+1<=n/\n < i+1+xs.length
  ·rw [if_pos h,if_pos (by omega),show n - i=(n - (i+1))+1 by omega,XU]
  ·rw [if_neg h]
   simp only [tget]
   by_cases h1:i=n
   ·subst h1
    rw [if_pos rfl,if_pos (by omega),Xap,XM]
   ·rw [if_neg h1,if_neg (by omega)]
theorem Zpf {I:Imm} {β:Bmap} {args:List AVal} {vs:Array Value} (h:VRs I β args vs.toList) (n:Nat):TR I β (enterA 0 args []) (vs++Xaq n undef):=by
 intro j
 rw [Zue]
 have hl:=Z9 h
 simp only [XR] at hl
 split
 ·rename_i hj
  have hjl:j < args.length:=by omega
  obtain ⟨v,h1,h2⟩:=Zbw h (Xy hjl)
  have e1:args.getD (j - 0) .top=args[j]:=by simp [Xi,hjl]
  have e2:(vs++Xaq n undef).getD j undef=v:=by
   rw [WB,Array.getElem?_append_left (by omega)]
   have : vs[j]?=some v:=by simpa using h1
   rw [this];rfl
  rw [e1,e2];exact h2
 ·simp only [tget,VR]
def Zg5 (P:Program) (prim:Zbu):Prop:=∀ f g,prim f=some g->∀ args σ r σ',g args σ=some (r,σ') ->
 (∃ fn,P.funcs[f]?=some fn/\fn.body.isSome=true/\(fn.name == "runtime.NumGoroutine")=false) /\
 ∀ base w0 I0 I β w (vs:Array Value),KLt base w0->Rel base w0 I0 I β σ w->VRs I β args vs.toList ->
  Calls P f vs w (fun e w'=>∃ u,Ends r e u/\Zbj σ.length base w0 I0 I β r σ' u w')
theorem Zqz (hm:P.follows .mixedOrders=true) {prim:Zbu} (hP:Zg5 P prim) (ann:Nat->Ann) (bf:Nat->Bool):∀ n,Zaf P (Zad (ZgF P ann) prim bf n)
 | 0=>by intro f args σ r σ' h;simp only [Zad] at h;cases h
 | n+1=>by
  have ih:=Zqz hm hP ann bf n
  intro f args σ r σ' h
  simp only [Zad] at h
  split at h
  ·rename_i g hg
   exact hP f g hg args σ r σ' h
  split at h
  ·cases h
  rename_i fn hfn
  unfold ZgF at hfn
  split at hfn
  ·rename_i F hF
   split at hfn
   ·rename_i body hbody
    split at hfn
    ·cases hfn
    ·rename_i hname
     split at hfn
     ·rename_i rs hrs
      injection hfn with hfn;subst hfn
      refine ⟨⟨F,hF,by rw [hbody];rfl,by simpa using hname⟩,?_⟩
      intro base w0 I0 I β w vs hb R hargs
      refine calls_of_wp hF hbody ?_
      have T:=Zpf hargs (F.ntmps - vs.size)
      have hst:StF ZaO σ.length F.ntmps base w0 I0 I β (enterA 0 args []) σ { tmps:=vs++Xaq (F.ntmps - vs.size) undef,defers:=[] } w:=⟨I,β,Imm.le.refl I,KeptE.refl _ β,T,⟨Zdn.2 rfl,by simp;omega⟩,R⟩
      cases hx:Z3 (Zad (ZgF P ann) prim bf n) bf σ.length n (Zaj P { ann f with nt:=F.ntmps } body) (enterA 0 args []) σ with
      | none=>rw [hx] at h;simp only [ZaF] at h;cases h
      | some q =>
       obtain ⟨e,tm',σ1⟩:=q
       rw [hx] at h
       have fin:(match resA tm' σ1 rs with | some r=>Zaz σ.length σ1 r | none=>none)=some (r,σ')->∀ a' w',StF ZaO σ.length F.ntmps base w0 I0 I β tm' σ1 a' w'->a'.defers=[]/\∃ v,(results F a'.tmps).run P w'=.ok v w'/\∃ u,Ends r (.returned v) u/\Zbj σ.length base w0 I0 I β r σ' u w':=by
        intro hr a' w' ⟨I1,β1,g1,g2,g3,g4,g5⟩
        split at hr
        ·rename_i x hx1
         obtain ⟨v,h1,h2⟩:=Zt8 g3 g5 hrs hx1
         have hnp:∀ y,x≠.pan y:=by rintro y rfl;simp only [VR] at h2
         obtain ⟨q1,q2⟩:=Zgi (⟨I1,β1,g1,g2,g5,by rw [ZeP hnp];exact h2⟩:Zbj σ.length base w0 I0 I β x σ1 v w') hr
         refine ⟨Zdn.1 g4.1,v,h1,v,q2 _ ?_,q1⟩
         cases x <;> first | rfl | exact absurd rfl (hnp _)
        ·cases hr
       refine Zih (dr:=ZaO) (an:={ ann f with nt:=F.ntmps }) ih (fun n hn=>by simp [ZaO] at hn) hm hb σ.length n rfl hst hx ?_
       cases e with
       | normal=>simp only [ZaF] at h;exact fun a' w' hs=>fin h a' w' hs
       | ret=>simp only [ZaF] at h;exact fun a' w' hs=>fin h a' w' hs
       | exit id=>simp only [ZaF] at h;cases h
       | panic x =>
        simp only [ZaF] at h
        intro a' u w' hd hp
        obtain ⟨q1,q2⟩:=Zgi hp h
        exact ⟨Zdn.1 hd,u,q2 _ rfl,q1⟩
     ·cases hfn
   ·cases hfn
  ·cases hfn
end
end
section
open Go.RowKit
def OLe (O O':ZY):Prop:=∀ f a σ r,O f a σ=some r->O' f a σ=some r
section
variable {O O':ZY} {bf:Nat->Bool}
theorem ZxL {view:Bool} {m:Nat} {x y:Option (AVal×Za)} (h:∀ r,x=some r->y=some r) {r:AVal×Za} (hr:ZaA view m x=some r):ZaA view m y=some r:=by
 cases x with
 | none=>cases view <;> simp [ZaA,Zcb] at hr
 | some q=>rw [h q rfl];exact hr
theorem ZxX {σ σf:Za} {ids ts:List Nat} {sq own:Nat} {x y:Option (AVal×Za)} (h:∀ r,x=some r->y=some r) {r:AVal×Za×Cls} (hr:Zay σ σf ids ts sq own x=some r):Zay σ σf ids ts sq own y=some r:=by
 cases x with
 | none=>simp only [Zay] at hr;cases hr
 | some q=>rw [h q rfl];exact hr
theorem ZiL (hO:OLe O O') {σ:Za} {sq f own:Nat} {view:Bool} {args:List AVal} {r:AVal×Za×Cls} (h:ZZ O bf σ sq f own view args=some r):ZZ O' bf σ sq f own view args=some r:=by
 unfold ZZ ZbJ at h ⊢
 split at h
 ·cases h
 ·rename_i vs ts hv
  split at h
  ·rename_i hc
   simp only [hc,if_true]
   exact ZxX (fun q hq=>ZxL (fun q hq=>hO _ _ _ _ hq) hq) h
  ·cases h
theorem ZxS (hO:OLe O O') {tm:Tms} {σ:Za} {sq:Nat} {ins:Ins} {r:AVal×Za×Cls} (h:execI O bf tm σ sq ins=some r):execI O' bf tm σ sq ins=some r:=by
 cases ins
 case call f own view args =>
  simp only [execI] at h ⊢
  exact ZiL hO h
 case callv x args =>
  simp only [execI] at h ⊢
  split at h
  ·exact ZiL hO h
  ·cases h
 all_goals exact h
theorem Zq2 (hO:OLe O O') {o:AOp} {tm:Tms} {σ:Za} {sq:Nat} {r:AVal×Tms×Za×Cls} (h:Zv O bf o sq tm σ=some r):Zv O' bf o sq tm σ=some r:=by
 unfold Zv at h ⊢
 split at h
 ·cases h
 ·exact h
 ·split at h
  ·rename_i hf
   rw [if_pos hf]
   split at h
   ·rename_i he;rw [ZxS hO he];exact h
   ·cases h
  ·cases h
theorem Zqc (hO:OLe O O'):∀ {ops:List AOp} {s:Nat} {tm:Tms} {σ:Za} {r:Tms×Za×List Cls×Option AVal},ZX O bf ops s tm σ=some r->ZX O' bf ops s tm σ=some r
 | [],_,_,_,_,h=>h
 | o::ops,s,tm,σ,r,h=>by
  simp only [ZX] at h ⊢
  split at h
  ·cases h
  ·rename_i h1
   rw [Zq2 hO h1]
   exact h
  ·rename_i v tm1 σ1 c hnp h1
   rw [Zq2 hO h1]
   simp only
   split at h
   ·cases h
   rename_i h2
   rw [Zqc hO h2]
   exact h
theorem ZvW (hO:OLe O O') {ops:List AOp} {chk:Option (List (Nat×Nat))} {live:List Nat} {tm:Tms} {σ:Za} {r:Zau×Tms×Za} (h:Zbm O bf ops chk live tm σ=some r):Zbm O' bf ops chk live tm σ=some r:=by
 unfold Zbm at h ⊢
 cases hx:ZX O bf ops σ.length tm (σ++XL (sitesOf ops) .free) with
 | none=>rw [hx] at h;simp only [Zcc] at h;cases h
 | some q=>rw [Zqc hO hx];rw [hx] at h;exact h
theorem Zh7 {m0:Nat} {live:List Nat} {f f':Tms->Za->Option (Zau×Tms×Za)} (hf:∀ tm σ r,f tm σ=some r->f' tm σ=some r):∀ {n n':Nat} {tm:Tms} {σ:Za} {r:Zau×Tms×Za},n<=n'->ZcI m0 live f n tm σ=some r->ZcI m0 live f' n' tm σ=some r
 | 0,_,_,_,_,_,h=>by simp only [ZcI] at h;cases h
 | n+1,0,_,_,_,hn,_=>by omega
 | n+1,n'+1,tm,σ,r,hn,h=>by
  simp only [ZcI] at h ⊢
  split at h
  ·rename_i h1
   rw [hf _ _ _ h1]
   exact Zh7 hf (by omega) h
  ·rename_i hne
   rw [hf _ _ _ h]
   split
   ·rename_i e;injection e with e;subst e;exact absurd h (hne _ _)
   ·rfl
theorem ZcU (hO:OLe O O') {m0:Nat}:∀ {c:Zq} {n n':Nat} {tm:Tms} {σ:Za} {r:Zau×Tms×Za},n<=n'->Z3 O bf m0 n c tm σ=some r->Z3 O' bf m0 n' c tm σ=some r:=by
 intro c
 induction c with
 | skip=>intro n n' tm σ r _ h;exact h
 | exit id=>intro n n' tm σ r _ h;exact h
 | ret=>intro n n' tm σ r _ h;exact h
 | stuck=>intro n n' tm σ r _ h;exact h
 | region ops chk live =>
  intro n n' tm σ r _ h
  simp only [Z3] at h ⊢
  exact ZvW hO h
 | seq a b iha ihb =>
  intro n n' tm σ r hn h
  simp only [Z3] at h ⊢
  split at h
  ·rename_i h1;rw [iha hn h1];exact ihb hn h
  ·rename_i hne
   rw [iha hn h]
   split
   ·rename_i e;injection e with e;subst e;exact absurd h (hne _ _)
   ·rfl
 | cond c a b iha ihb =>
  intro n n' tm σ r hn h
  simp only [Z3] at h ⊢
  split at h
  ·exact iha hn h
  ·exact ihb hn h
  ·cases h
 | block id c ih =>
  intro n n' tm σ r hn h
  simp only [Z3] at h ⊢
  split at h
  ·rename_i h1;rw [ih hn h1];exact h
  ·rename_i hne
   rw [ih hn h]
   split
   ·rename_i e;injection e with e;subst e;exact absurd h (hne _ _ _)
   ·rfl
 | loop live c ih =>
  intro n n' tm σ r hn h
  simp only [Z3] at h ⊢
  exact Zh7 (fun tm σ r h=>ih hn h) hn h
theorem Zij {m0:Nat} {fn:Zan} {x y:Option (Zau×Tms×Za)} (h:∀ r,x=some r->y=some r) {r:AVal×Za} (hr:ZaF m0 fn x=some r):ZaF m0 fn y=some r:=by
 cases x with
 | none=>simp only [ZaF] at hr;cases hr
 | some q=>rw [h q rfl];exact hr
theorem ZsQ (fs:Nat->Option Zan) (prim:Zbu):∀ n,OLe (Zad fs prim bf n) (Zad fs prim bf (n+1))
 | 0=>by intro f a σ r h;simp only [Zad] at h;cases h
 | n+1=>by
  intro f a σ r h
  rw [Zad] at h ⊢
  split at h
  ·rename_i g hg;exact h
  ·rename_i hg
   split at h
   ·cases h
   ·rename_i fn hfn
    exact Zij (fun q hq=>ZcU (ZsQ fs prim n) (by omega) hq) h
theorem Zgp (fs : Nat -> Option Zan) (prim : Zbu) {n m : Nat} (h : n <= m) : OLe (Zad fs prim bf n) (Zad fs prim bf m) := by
  induction m with
  | zero => obtain rfl : n = 0 := by omega
            exact fun _ _ _ _ h => h
  | succ m ih =>
    by_cases e : n = m + 1
    . subst e; exact fun _ _ _ _ h => h
    . exact fun f a σ r hr => ZsQ fs prim m f a σ r (ih (by omega) f a σ r hr)
end
section
variable (fs:Nat->Option Zan) (prim:Zbu) (bf:Nat->Bool)
open Classical in
noncomputable def EV:ZY:=fun f args σ=>if h:∃ r,∃ n,Zad fs prim bf n f args σ=some r then some h.choose else none
open Classical in
noncomputable def evC (m:Nat) (c:Zq) (tm:Tms) (σ:Za):Option (Zau×Tms×Za):=if h:∃ r,∃ n,Z3 (Zad fs prim bf n) bf m n c tm σ=some r then some h.choose else none
variable {fs prim bf} {m0:Nat}
theorem Zcm {f:Nat} {args:List AVal} {σ:Za} {r:AVal×Za}:EV fs prim bf f args σ=some r↔∃ n,Zad fs prim bf n f args σ=some r:=by
 unfold EV
 constructor
 ·intro h
  split at h
  ·rename_i hx
   injection h with h
   rw [<-h]
   exact hx.choose_spec
  ·cases h
 ·rintro ⟨n,hn⟩
  have hx:∃ r,∃ n,Zad fs prim bf n f args σ=some r:=⟨r,n,hn⟩
  rw [dif_pos hx]
  obtain ⟨m,hm⟩:=hx.choose_spec
  have h1:=Zgp (bf:=bf) fs prim (W3 n m) _ _ _ _ hn
  have h2:=Zgp (bf:=bf) fs prim (WZ n m) _ _ _ _ hm
  rw [h1] at h2
  injection h2 with h2
  rw [<-h2]
theorem ZaN {c:Zq} {tm:Tms} {σ:Za} {r:Zau×Tms×Za}:evC fs prim bf m0 c tm σ=some r↔∃ n,Z3 (Zad fs prim bf n) bf m0 n c tm σ=some r:=by
 unfold evC
 constructor
 ·intro h
  split at h
  ·rename_i hx
   injection h with h
   rw [<-h]
   exact hx.choose_spec
  ·cases h
 ·rintro ⟨n,hn⟩
  have hx:∃ r,∃ n,Z3 (Zad fs prim bf n) bf m0 n c tm σ=some r:=⟨r,n,hn⟩
  rw [dif_pos hx]
  obtain ⟨m,hm⟩:=hx.choose_spec
  have h1:=ZcU (Zgp (bf:=bf) fs prim (W3 n m)) (W3 n m) hn
  have h2:=ZcU (Zgp (bf:=bf) fs prim (WZ n m)) (WZ n m) hm
  rw [h1] at h2
  injection h2 with h2
  rw [<-h2]
theorem ZdQ {α:Type} {x y:Option α} (h:∀ r,x=some r↔y=some r):x=y:=by
 cases x with
 | none =>
  cases y with
  | none=>rfl
  | some q=>exact absurd ((h q).2 rfl) (by simp)
 | some q=>exact ((h q).1 rfl).symm
theorem Zzc (n:Nat):OLe (Zad fs prim bf n) (EV fs prim bf):=fun _ _ _ _ h=>Zcm.2 ⟨n,h⟩
theorem up {n m:Nat} (h:n<=m):OLe (Zad fs prim bf n) (Zad fs prim bf m):=Zgp fs prim h
theorem Zwb {f:Nat} {g:List AVal->Za->Option (AVal×Za)} (hp:prim f=some g) (args:List AVal) (σ:Za):EV fs prim bf f args σ=g args σ:=by
 apply ZdQ
 intro r
 rw [Zcm]
 constructor
 ·rintro ⟨n,h⟩
  cases n with
  | zero=>simp only [Zad] at h;cases h
  | succ n=>rw [Zad,hp] at h;exact h
 ·intro h
  exact ⟨1,by rw [Zad,hp];exact h⟩
theorem Zvo {f:Nat} {fn:Zan} (hp:prim f=none) (hf:fs f=some fn) (args:List AVal) (σ:Za):EV fs prim bf f args σ=ZaF σ.length fn (evC fs prim bf σ.length fn.body (enterA 0 args []) σ):=by
 apply ZdQ
 intro r
 rw [Zcm]
 constructor
 ·rintro ⟨n,h⟩
  cases n with
  | zero=>simp only [Zad] at h;cases h
  | succ n =>
   rw [Zad,hp,hf] at h
   exact Zij (fun q hq=>ZaN.2 ⟨n,hq⟩) h
 ·intro h
  cases hx:evC fs prim bf σ.length fn.body (enterA 0 args []) σ with
  | none=>rw [hx] at h;simp only [ZaF] at h;cases h
  | some q =>
   obtain ⟨n,hn⟩:=ZaN.1 hx
   refine ⟨n+1,?_⟩
   rw [Zad,hp,hf]
   rw [hx] at h
   exact Zij (x:=some q) (fun q' hq'=>by injection hq' with hq';subst hq';exact hn) h
theorem ZvI {σ:Za} {sq f own:Nat} {view:Bool} {args:List AVal} {r:AVal×Za×Cls} (h:ZZ (EV fs prim bf) bf σ sq f own view args=some r):∃ n,ZZ (Zad fs prim bf n) bf σ sq f own view args=some r:=by
 unfold ZZ ZbJ at h ⊢
 split at h
 ·cases h
 ·rename_i vs ts hv
  split at h
  ·rename_i hc
   simp only [hc,if_true]
   cases hx:EV fs prim bf f (ZV (Ze (Zr σ ts) 0 (Zf (Zr σ ts) 1000 (ZW vs) [])) vs) (Zg (Zr σ ts) 0 (Zf (Zr σ ts) 1000 (ZW vs) []) (Ze (Zr σ ts) 0 (Zf (Zr σ ts) 1000 (ZW vs) [])) (Zf (Zr σ ts) 1000 (ZW vs) []) 0) with
   | none =>
    rw [hx] at h
    cases view <;> simp [ZaA,Zcb,Zay] at h
   | some q =>
    obtain ⟨n,hn⟩:=Zcm.1 hx
    exact ⟨n,by rw [hn];rw [hx] at h;exact h⟩
  ·cases h
theorem ZBd {tm:Tms} {σ:Za} {sq:Nat} {ins:Ins} {r:AVal×Za×Cls} (h:execI (EV fs prim bf) bf tm σ sq ins=some r):∃ n,execI (Zad fs prim bf n) bf tm σ sq ins=some r:=by
 cases ins
 case call f own view args =>
  simp only [execI] at h ⊢
  exact ZvI h
 case callv x args =>
  simp only [execI] at h ⊢
  split at h
  ·exact ZvI h
  ·cases h
 all_goals exact ⟨0,h⟩
theorem ZuD {o:AOp} {tm:Tms} {σ:Za} {sq:Nat} {r:AVal×Tms×Za×Cls} (h:Zv (EV fs prim bf) bf o sq tm σ=some r):∃ n,Zv (Zad fs prim bf n) bf o sq tm σ=some r:=by
 unfold Zv at h ⊢
 split at h
 ·cases h
 ·exact ⟨0,h⟩
 ·split at h
  ·rename_i hf
   simp only [hf,if_true]
   split at h
   ·rename_i he
    obtain ⟨n,hn⟩:=ZBd he
    exact ⟨n,by rw [hn];exact h⟩
   ·cases h
  ·cases h
theorem Zuh:∀ {ops:List AOp} {s:Nat} {tm:Tms} {σ:Za} {r:Tms×Za×List Cls×Option AVal},ZX (EV fs prim bf) bf ops s tm σ=some r->∃ n,ZX (Zad fs prim bf n) bf ops s tm σ=some r
 | [],_,_,_,_,h=>⟨0,h⟩
 | o::ops,s,tm,σ,r,h=>by
  simp only [ZX] at h ⊢
  split at h
  ·cases h
  ·rename_i h1
   obtain ⟨n,hn⟩:=ZuD h1
   exact ⟨n,by rw [hn];exact h⟩
  rename_i v tm1 σ1 c hnp h1
  split at h
  ·cases h
  rename_i h2
  obtain ⟨n,hn⟩:=ZuD h1
  obtain ⟨m,hm⟩:=Zuh h2
  refine ⟨max n m,?_⟩
  rw [Zq2 (up (W3 n m)) hn]
  simp only
  rw [Zqc (up (WZ n m)) hm]
  exact h
theorem ZwD {ops:List AOp} {chk:Option (List (Nat×Nat))} {live:List Nat} {tm:Tms} {σ:Za} {r:Zau×Tms×Za} (h:Zbm (EV fs prim bf) bf ops chk live tm σ=some r):∃ n,Zbm (Zad fs prim bf n) bf ops chk live tm σ=some r:=by
 unfold Zbm at h ⊢
 cases hx:ZX (EV fs prim bf) bf ops σ.length tm (σ++XL (sitesOf ops) .free) with
 | none=>rw [hx] at h;simp only [Zcc] at h;cases h
 | some q =>
  obtain ⟨n,hn⟩:=Zuh hx
  exact ⟨n,by rw [hn];rw [hx] at h;exact h⟩
theorem Zkv (tm:Tms) (σ:Za):evC fs prim bf m0 .skip tm σ=some (.normal,tm,σ):=ZaN.2 ⟨0,rfl⟩
theorem ZoN (id:Nat) (tm:Tms) (σ:Za):evC fs prim bf m0 (.exit id) tm σ=some (.exit id,tm,σ):=ZaN.2 ⟨0,rfl⟩
theorem Zqk (tm:Tms) (σ:Za):evC fs prim bf m0 .ret tm σ=some (.ret,tm,σ):=ZaN.2 ⟨0,rfl⟩
theorem ZmX {ops:List AOp} {chk:Option (List (Nat×Nat))} {live:List Nat} {tm:Tms} {σ:Za}:evC fs prim bf m0 (.region ops chk live) tm σ=Zbm (EV fs prim bf) bf ops chk live tm σ:=by
 apply ZdQ
 intro r
 rw [ZaN]
 constructor
 ·rintro ⟨n,hn⟩
  simp only [Z3] at hn
  exact ZvW (Zzc n) hn
 ·intro h
  obtain ⟨n,hn⟩:=ZwD h
  exact ⟨n,by simp only [Z3];exact hn⟩
theorem ZwC {a b:Zq} {tm tm':Tms} {σ σ':Za} (h:evC fs prim bf m0 a tm σ=some (.normal,tm',σ')):evC fs prim bf m0 (.seq a b) tm σ=evC fs prim bf m0 b tm' σ':=by
 obtain ⟨n,hn⟩:=ZaN.1 h
 apply ZdQ
 intro r
 rw [ZaN,ZaN]
 constructor
 ·rintro ⟨m,hm⟩
  have h1:=ZcU (up (W3 n m)) (W3 n m) hn
  have h2:=ZcU (up (WZ n m)) (WZ n m) hm
  simp only [Z3,h1] at h2
  exact ⟨_,h2⟩
 ·rintro ⟨m,hm⟩
  have h1:=ZcU (up (W3 n m)) (W3 n m) hn
  have h2:=ZcU (up (WZ n m)) (WZ n m) hm
  exact ⟨max n m,by simp only [Z3,h1];exact h2⟩
theorem ZjH {a b:Zq} {tm tm':Tms} {σ σ':Za} {e:Zau} (he:e≠.normal) (h:evC fs prim bf m0 a tm σ=some (e,tm',σ')):evC fs prim bf m0 (.seq a b) tm σ=some (e,tm',σ'):=by
 obtain ⟨n,hn⟩:=ZaN.1 h
 refine ZaN.2 ⟨n,?_⟩
 simp only [Z3,hn]
 cases e with
 | normal=>exact absurd rfl he
 | exit id=>rfl
 | ret=>rfl
 | panic x=>rfl
def Zbb (id:Nat):Zau×Tms×Za->Zau×Tms×Za
 | (.exit i,tm,σ)=>if i=id then (.normal,tm,σ) else (.exit i,tm,σ)
 | r=>r
theorem ZmC {id:Nat} {c:Zq} {tm:Tms} {σ:Za}:evC fs prim bf m0 (.block id c) tm σ=(evC fs prim bf m0 c tm σ).map (Zbb id):=by
 have step:∀ n,Z3 (Zad fs prim bf n) bf m0 n (.block id c) tm σ=(Z3 (Zad fs prim bf n) bf m0 n c tm σ).map (Zbb id):=by
  intro n
  simp only [Z3]
  cases Z3 (Zad fs prim bf n) bf m0 n c tm σ with
  | none=>rfl
  | some q =>
   obtain ⟨e,tm1,σ1⟩:=q
   cases e with
   | normal=>rfl
   | ret=>rfl
   | panic x=>rfl
   | exit i=>simp only [XQ,Zbb];split <;> rfl
 apply ZdQ;intro r
 rw [ZaN]
 simp only [step,Xm]
 constructor
 ·rintro ⟨n,q,h1,h2⟩;exact ⟨q,ZaN.2 ⟨n,h1⟩,h2⟩
 ·rintro ⟨q,h1,h2⟩;obtain ⟨n,hn⟩:=ZaN.1 h1;exact ⟨n,q,hn,h2⟩
theorem ZzK {c:Zq} {tm:Tms} {σ:Za} (h:evC fs prim bf m0 c tm σ=none) (n:Nat):Z3 (Zad fs prim bf n) bf m0 n c tm σ=none:=by
 cases hx:Z3 (Zad fs prim bf n) bf m0 n c tm σ with
 | none=>rfl
 | some r=>rw [ZaN.2 ⟨n,hx⟩] at h;cases h
variable (fs prim bf m0) in
noncomputable def ZbY (b:Zq):Option (Zau×Tms×Za)->Option (Zau×Tms×Za)
 | some (.normal,tm,σ)=>evC fs prim bf m0 b tm σ
 | r=>r
theorem ZkW {a b:Zq} {tm:Tms} {σ:Za}:evC fs prim bf m0 (.seq a b) tm σ=ZbY fs prim bf m0 b (evC fs prim bf m0 a tm σ):=by
 cases h:evC fs prim bf m0 a tm σ with
 | none =>
  simp only [ZbY]
  apply ZdQ;intro r
  rw [ZaN]
  constructor
  ·rintro ⟨n,hn⟩
   simp only [Z3,ZzK h n] at hn
   cases hn
  ·intro h;cases h
 | some q =>
  obtain ⟨e,tm',σ'⟩:=q
  cases e with
  | normal=>exact ZwC h
  | exit id=>exact ZjH (by simp) h
  | ret=>exact ZjH (by simp) h
  | panic x=>exact ZjH (by simp) h
variable (fs prim bf m0) in
noncomputable def Zgj (a b:Zq) (tm:Tms) (σ:Za):AVal->Option (Zau×Tms×Za)
 | .bool true=>evC fs prim bf m0 a tm σ
 | .bool false=>evC fs prim bf m0 b tm σ
 | _=>none
theorem Zou {c:Opd} {a b:Zq} {tm:Tms} {σ:Za}:evC fs prim bf m0 (.cond c a b) tm σ=Zgj fs prim bf m0 a b tm σ (c.ev tm):=by
 apply ZdQ;intro r
 rw [ZaN]
 simp only [Z3]
 constructor
 ·rintro ⟨n,hn⟩
  split at hn
  ·rename_i e;rw [e];simp only [Zgj];exact ZaN.2 ⟨n,hn⟩
  ·rename_i e;rw [e];simp only [Zgj];exact ZaN.2 ⟨n,hn⟩
  ·cases hn
 ·intro h
  unfold Zgj at h
  split at h
  ·rename_i e;obtain ⟨n,hn⟩:=ZaN.1 h;exact ⟨n,by rw [e];exact hn⟩
  ·rename_i e;obtain ⟨n,hn⟩:=ZaN.1 h;exact ⟨n,by rw [e];exact hn⟩
  ·cases h
variable (fs prim bf m0) in
noncomputable def evL (live:List Nat) (c:Zq) (tm:Tms) (σ:Za):Option (Zau×Tms×Za) :=
 match evC fs prim bf m0 c tm σ with
 | some (.normal,tm',σ')=>evC fs prim bf m0 (.loop live c) tm' σ'
 | r=>r
theorem Zt1 {live:List Nat} {c:Zq} {tm:Tms} {σ:Za}:evC fs prim bf m0 (.loop live c) tm σ=evL fs prim bf m0 live c (gcT m0 (keepL live tm) σ).1 (gcT m0 (keepL live tm) σ).2:=by
 apply ZdQ;intro r
 rw [ZaN]
 constructor
 ·rintro ⟨n,hn⟩
  simp only [Z3] at hn
  cases n with
  | zero=>simp only [ZcI] at hn;cases hn
  | succ k =>
   simp only [ZcI] at hn
   unfold evL
   cases hx:Z3 (Zad fs prim bf (k+1)) bf m0 (k+1) c (gcT m0 (keepL live tm) σ).1 (gcT m0 (keepL live tm) σ).2 with
   | none=>rw [hx] at hn;cases hn
   | some q =>
    rw [ZaN.2 ⟨_,hx⟩]
    rw [hx] at hn
    obtain ⟨e,tm',σ'⟩:=q
    cases e with
    | normal =>
     simp only at hn ⊢
     exact ZaN.2 ⟨k+1,by simp only [Z3];exact Zh7 (fun _ _ _ h=>h) (by omega) hn⟩
    | exit id=>exact hn
    | ret=>exact hn
    | panic x=>exact hn
 ·intro h
  unfold evL at h
  cases hx:evC fs prim bf m0 c (gcT m0 (keepL live tm) σ).1 (gcT m0 (keepL live tm) σ).2 with
  | none=>rw [hx] at h;cases h
  | some q =>
   rw [hx] at h
   obtain ⟨n,hn⟩:=ZaN.1 hx
   obtain ⟨e,tm',σ'⟩:=q
   have out:e≠.normal->some (e,tm',σ')=some r->∃ n,Z3 (Zad fs prim bf n) bf m0 n (.loop live c) tm σ=some r:=by
    intro he h
    refine ⟨n+1,?_⟩
    have h1:=ZcU (up (show n<=n+1 by omega)) (show n<=n+1 by omega) hn
    simp only [Z3,ZcI,h1]
    cases e with
    | normal=>exact absurd rfl he
    | exit id=>exact h
    | ret=>exact h
    | panic x=>exact h
   cases e with
   | normal =>
    simp only at h
    obtain ⟨m,hm⟩:=ZaN.1 h
    have h1:=ZcU (up (show n<=max n m+1 by omega)) (show n<=max n m+1 by omega) hn
    have h2:=ZcU (up (show m<=max n m+1 by omega)) (XN m) hm
    simp only [Z3] at h2
    refine ⟨max n m+1,?_⟩
    simp only [Z3,ZcI,h1]
    exact Zh7 (fun tm σ r h=>ZcU (fun _ _ _ _ h=>h) (by omega) h) (by omega) h2
   | exit id=>exact out (by simp) h
   | ret=>exact out (by simp) h
   | panic x=>exact out (by simp) h
theorem ZAK {P:Program} (hm:P.follows .mixedOrders=true) {prim:Zbu} (hP:Zg5 P prim) (ann:Nat->Ann) (bf:Nat->Bool):Zaf P (EV (ZgF P ann) prim bf):=by
 intro f args σ r σ' h
 obtain ⟨n,hn⟩:=Zcm.1 h
 exact Zqz hm hP ann bf n f args σ r σ' hn
end
end
section
open Go.RowKit
def Zt4:Tms×Za×List Cls×Option AVal->Tms×Za×Option AVal:=fun q=>(q.1,q.2.1,q.2.2.2)
def Zat:AVal->Bool
 | .pan _=>true
 | _=>false
section
variable (O:ZY) (bf:Nat->Bool)
def exI (i:Ins) (s:Nat) (tm:Tms) (σ:Za):Option (AVal×Za×Cls) :=
 if nsite i == 0 || freeAt σ s then execI O bf tm σ s i else none
def ZaK (ops:List AOp) (s:Nat) (tm:Tms) (σ:Za):Option (Tms×Za×Option AVal):=(ZX O bf ops s tm σ).map Zt4
def kN (d:Option Nat) (os:List AOp) (s:Nat) (tm:Tms):Option (AVal×Za×Cls)->Option (Tms×Za×Option AVal)
 | none=>none
 | some (v,σ,_)=>if Zat v then some (tput tm d v,σ,some (Zam v)) else ZaK O bf os s (tput tm d v) σ
def ZhB (live:List Nat):Option (Tms×Za×Option AVal)->Option (Zau×Tms×Za)
 | none=>none
 | some (_,σ,some x)=>some (.panic x,[],σ)
 | some (tm,σ,none)=>some (.normal,keepL live tm,σ)
variable {O bf}
theorem ZhR (s:Nat) (tm:Tms) (σ:Za):ZaK O bf [] s tm σ=some (tm,σ,none):=rfl
theorem ZgD {o:AOp} {os:List AOp} {s:Nat} {tm:Tms} {σ:Za} (h:Zv O bf o s tm σ=none):ZX O bf (o::os) s tm σ=none:=by simp only [ZX,h]
theorem Zhx {o:AOp} {os:List AOp} {s:Nat} {tm tm1:Tms} {σ σ1:Za} {x:AVal} {c:Cls} (h:Zv O bf o s tm σ=some (.pan x,tm1,σ1,c)):ZX O bf (o::os) s tm σ=some (tm1,σ1,[c],some x):=by simp only [ZX,h]
theorem ZsW {o:AOp} {os:List AOp} {s:Nat} {tm tm1:Tms} {σ σ1:Za} {v:AVal} {c:Cls} (h:Zv O bf o s tm σ=some (v,tm1,σ1,c)) (hn:Zat v=false):ZX O bf (o::os) s tm σ=(ZX O bf os (s+nsite o.ins) tm1 σ1).map fun q=>(q.1,q.2.1,c::q.2.2.1,q.2.2.2):=by
 simp only [ZX,h]
 cases v <;> first
  | (simp [Zat] at hn;done)
  | (simp only;cases ZX O bf os (s+nsite o.ins) tm1 σ1 <;> rfl)
theorem Zg4 {o:AOp} {os:List AOp} {s:Nat} {tm:Tms} {σ:Za} (h:Zv O bf o s tm σ=none):ZaK O bf (o::os) s tm σ=none:=by simp only [ZaK,ZgD h,Option.map_none]
theorem ZiZ {o:AOp} {os:List AOp} {s:Nat} {tm tm1:Tms} {σ σ1:Za} {x:AVal} {c:Cls} (h:Zv O bf o s tm σ=some (.pan x,tm1,σ1,c)):ZaK O bf (o::os) s tm σ=some (tm1,σ1,some x):=by simp only [ZaK,Zhx h,XQ,Zt4]
theorem Zhu {o:AOp} {os:List AOp} {s:Nat} {tm tm1:Tms} {σ σ1:Za} {v:AVal} {c:Cls} (h:Zv O bf o s tm σ=some (v,tm1,σ1,c)) (hn:Zat v=false):ZaK O bf (o::os) s tm σ=ZaK O bf os (s+nsite o.ins) tm1 σ1:=by
 simp only [ZaK,ZsW h hn,Option.map_map]
 rfl
theorem Zhd {v:AVal} (h:Zat v=true):∃ x,v=.pan x:=by
 cases v <;> first | exact ⟨_,rfl⟩ | (simp [Zat] at h;done)
theorem Zhr {d:Option Nat} {i:Ins} {af:List Nat} {s:Nat} {tm:Tms} {σ:Za}:Zv O bf ⟨d,i,none,af⟩ s tm σ=(exI O bf i s tm σ).map fun q=>(q.1,tput tm d q.1,q.2.1,q.2.2):=by
 unfold Zv exI
 simp only [ZaR]
 split
 ·cases execI O bf tm σ s i with
  | none=>rfl
  | some q=>rfl
 ·rfl
theorem Zgr (d:Option Nat) (i:Ins) (af:List Nat) (os:List AOp) (s:Nat) (tm:Tms) (σ:Za):ZaK O bf (⟨d,i,none,af⟩::os) s tm σ=kN O bf d os (s+nsite i) tm (exI O bf i s tm σ):=by
 cases h:exI O bf i s tm σ with
 | none=>exact Zg4 (by rw [Zhr,h];rfl)
 | some q =>
  obtain ⟨v,σ1,c⟩:=q
  have hs:Zv O bf ⟨d,i,none,af⟩ s tm σ=some (v,tput tm d v,σ1,c):=by rw [Zhr,h];rfl
  cases hp:Zat v with
  | true =>
   obtain ⟨x,rfl⟩:=Zhd hp
   exact ZiZ hs
  | false =>
   rw [Zhu hs hp]
   simp only [kN,hp,Xw,if_false]
theorem Zr2 (ops:List AOp) (live:List Nat) (tm:Tms) (σ:Za):Zbm O bf ops none live tm σ=ZhB live (ZaK O bf ops σ.length tm (σ++XL (sitesOf ops) .free)):=by
 unfold Zbm ZaK
 cases ZX O bf ops σ.length tm (σ++XL (sitesOf ops) .free) with
 | none=>rfl
 | some q =>
  obtain ⟨tm',σ',cs,p⟩:=q
  cases p <;> rfl
theorem Zgd (d:Option Nat) (os:List AOp) (s:Nat) (tm:Tms) (v:AVal) (σ:Za) (c:Cls) (h:Zat v=false):kN O bf d os s tm (some (v,σ,c))=ZaK O bf os s (tput tm d v) σ:=by
 simp only [kN,h,Xw,if_false]
theorem Zpq (d:Option Nat) (os:List AOp) (s:Nat) (tm:Tms) (x:AVal) (σ:Za) (c:Cls):kN O bf d os s tm (some (.pan x,σ,c))=some (tput tm d (.pan x),σ,some x):=rfl
theorem Zi3 (d:Option Nat) (os:List AOp) (s:Nat) (tm:Tms):kN O bf d os s tm none=none:=rfl
structure GOp where
 guard:Option (Nat×Bool)
 ops:List AOp
def Zy:List AOp->Tms->Tms
 | [],tm=>tm
 | o::os,tm=>Zy os (tput tm o.dst (.tup []))
def unG (o:AOp):AOp:={ o with guard:=none }
variable (O bf) in
def ZdC (j:Nat) (w:Bool) (g:List AOp) (s:Nat) (tm:Tms) (σ:Za):Option (Tms×Za×Option AVal):=match ZaR (some (j,w)) tm with
 | none=>none
 | some false=>some (Zy g tm,σ,none)
 | some true=>ZaK O bf (g.map unG) s tm σ
variable (O bf) in
def gK (os:List AOp) (s:Nat):Option (Tms×Za×Option AVal)->Option (Tms×Za×Option AVal)
 | none=>none
 | some (tm,σ,some x)=>some (tm,σ,some x)
 | some (tm,σ,none)=>ZaK O bf os s tm σ
def Zu (j:Nat) (w:Bool):List AOp->List AOp×List AOp
 | []=>([],[])
 | o::os=>match o.guard with
  | some (j',w')=>if j'=j/\w'=w/\o.dst≠some j then ((o::(Zu j w os).1),(Zu j w os).2) else ([],o::os)
  | none=>([],o::os)
theorem ZrV (j:Nat) (w:Bool):∀ os,(Zu j w os).1++(Zu j w os).2=os
 | []=>rfl
 | o::os=>by
  simp only [Zu]
  split
  ·split
   ·simp [ZrV j w os]
   ·rfl
  ·rfl
theorem ZoZ (j:Nat) (w:Bool):∀ os,∀ o ∈ (Zu j w os).1,o.guard=some (j,w)/\o.dst≠some j
 | []=>by simp [Zu]
 | o::os=>by
  intro o' ho
  simp only [Zu] at ho
  split at ho
  ·rename_i j' w' hg
   split at ho
   ·rename_i hc
    rcases XJ.1 ho with rfl | ho
    ·exact ⟨by rw [hg,hc.1,hc.2.1],hc.2.2⟩
    ·exact ZoZ j w os o' ho
   ·simp at ho
  ·simp at ho
theorem Zyq {d:Option Nat} {v:AVal} {n:Nat} {tm:Tms} (h:d≠some n):tget (tput tm d v) n=tget tm n:=by
 cases d with
 | none=>rfl
 | some d =>
  have : d≠n:=by rintro rfl;exact h rfl
  simp only [tput,Zfv,this,if_false]
theorem Zey {d:Option Nat} {v:AVal} {j:Nat} {w:Bool} {tm:Tms} (h:d≠some j):ZaR (some (j,w)) (tput tm d v)=ZaR (some (j,w)) tm:=by
 simp only [ZaR,Zyq h]
theorem Zt0:∀ (a b:List AOp) (s:Nat) (tm:Tms) (σ:Za),ZaK O bf (a++b) s tm σ=gK O bf b (s+sitesOf a) (ZaK O bf a s tm σ)
 | [],b,s,tm,σ=>by simp [ZhR,gK,sitesOf]
 | o::a,b,s,tm,σ=>by
  have ih:=Zt0 a b
  simp only [Wp]
  have hs:s+nsite o.ins+sitesOf a=s+sitesOf (o::a):=by simp [sitesOf,WE]
  cases hst:Zv O bf o s tm σ with
  | none=>rw [Zg4 hst,Zg4 hst];rfl
  | some q =>
   obtain ⟨v,tm1,σ1,c⟩:=q
   cases hp:Zat v with
   | true =>
    obtain ⟨x,rfl⟩:=Zhd hp
    rw [ZiZ hst,ZiZ hst];rfl
   | false=>rw [Zhu hst hp,Zhu hst hp,ih,hs]
theorem ZsS (j:Nat) (w:Bool):∀ (g:List AOp),(∀ o ∈ g,o.guard=some (j,w)/\o.dst≠some j)->∀ (s:Nat) (tm:Tms) (σ:Za),g≠[]->ZaK O bf g s tm σ=ZdC O bf j w g s tm σ
 | [],_,_,_,_,h=>absurd rfl h
 | o::g,hall,s,tm,σ,_=>by
  obtain ⟨hg,hd⟩:=hall o (by simp)
  have ih:∀ (tm:Tms) (σ:Za) (s:Nat),ZaR (some (j,w)) tm≠none->ZaK O bf g s tm σ=ZdC O bf j w g s tm σ:=by
   intro tm σ s hw
   by_cases he:g=[]
   ·subst he
    unfold ZdC
    cases hx:ZaR (some (j,w)) tm with
    | none=>exact absurd hx hw
    | some b=>cases b <;> rfl
   ·exact ZsS j w g (fun o ho=>hall o (by simp [ho])) s tm σ he
  cases hx:ZaR (some (j,w)) tm with
  | none =>
   rw [Zg4 (by simp only [Zv,hg,hx])]
   simp only [ZdC,hx]
  | some b =>
   cases b with
   | false =>
    have h1:ZaK O bf (o::g) s tm σ=ZaK O bf g (s+nsite o.ins) (tput tm o.dst (.tup [])) σ :=
     Zhu (v:=.tup []) (c:={}) (by simp only [Zv,hg,hx]) rfl
    rw [h1,ih _ _ _ (by rw [Zey hd,hx];simp)]
    unfold ZdC
    rw [Zey hd,hx]
    rfl
   | true =>
    have key:∀ r:Option (AVal×Za×Cls),(∀ v σ' c,r=some (v,σ',c)->Zat v=false->ZaK O bf g (s+nsite o.ins) (tput tm o.dst v) σ'=ZaK O bf (g.map unG) (s+nsite o.ins) (tput tm o.dst v) σ')->kN O bf o.dst g (s+nsite o.ins) tm r=kN O bf o.dst (g.map unG) (s+nsite o.ins) tm r:=by
     intro r hr
     cases r with
     | none=>rfl
     | some q =>
      obtain ⟨v,σ',c⟩:=q
      cases hp:Zat v with
      | true=>simp only [kN,hp,if_true]
      | false=>rw [Zgd _ _ _ _ _ _ _ hp,Zgd _ _ _ _ _ _ _ hp];exact hr v σ' c rfl hp
    have h1:ZaK O bf (o::g) s tm σ=kN O bf o.dst g (s+nsite o.ins) tm (exI O bf o.ins s tm σ):=by
     have h0:ZaK O bf (o::g) s tm σ=ZaK O bf (⟨o.dst,o.ins,none,o.after⟩::g) s tm σ:=by
      have hst:Zv O bf o s tm σ=Zv O bf ⟨o.dst,o.ins,none,o.after⟩ s tm σ:=by
       unfold Zv
       simp only [hg,hx]
       rfl
      unfold ZaK
      simp only [ZX,hst]
     rw [h0,Zgr]
    rw [h1]
    unfold ZdC
    rw [hx]
    simp only [Xs]
    rw [show unG o=⟨o.dst,o.ins,none,o.after⟩ from rfl,Zgr]
    refine key _ fun v σ' c _ _=>?_
    rw [ih _ _ _ (by rw [Zey hd,hx];simp)]
    unfold ZdC
    rw [Zey hd,hx]
theorem ZiI (d:Option Nat) (i:Ins) (j:Nat) (w:Bool) (af:List Nat) (os:List AOp) (s:Nat) (tm:Tms) (σ:Za) (hd:decide (d=some j)=false) :
  ZaK O bf (⟨d,i,some (j,w),af⟩::os) s tm σ=gK O bf (Zu j w os).2 (s+sitesOf (⟨d,i,some (j,w),af⟩::(Zu j w os).1)) (ZdC O bf j w (⟨d,i,some (j,w),af⟩::(Zu j w os).1) s tm σ):=by
 have h:=ZrV j w os
 have hall:∀ o ∈ (⟨d,i,some (j,w),af⟩::(Zu j w os).1:List AOp),o.guard=some (j,w)/\o.dst≠some j:=by
  intro o ho
  rcases XJ.1 ho with rfl | ho
  ·exact ⟨rfl,by simpa using hd⟩
  ·exact ZoZ j w os o ho
 rw [<-ZsS j w _ hall s tm σ (by simp),<-Zt0,Wp,h]
variable (O bf) in
def gW (w:Bool) (g:List AOp) (s:Nat) (tm:Tms) (σ:Za):AVal->Option (Tms×Za×Option AVal)
 | .bool b=>if b=w then ZaK O bf (g.map unG) s tm σ else some (Zy g tm,σ,none)
 | .tup []=>some (Zy g tm,σ,none)
 | _=>none
theorem ZsE (j:Nat) (w:Bool) (g:List AOp) (s:Nat) (tm:Tms) (σ:Za):ZdC O bf j w g s tm σ=gW O bf w g s tm σ (tget tm j):=by
 unfold ZdC ZaR
 simp only
 generalize tget tm j=v
 cases v
 case bool b=>cases b <;> cases w <;> rfl
 case tup vs=>cases vs <;> rfl
 all_goals rfl
theorem ZoV (w:Bool) (g:List AOp) (s:Nat) (tm:Tms) (σ:Za) (b:Bool):gW O bf w g s tm σ (.bool b)=if b=w then ZaK O bf (g.map unG) s tm σ else some (Zy g tm,σ,none):=rfl
theorem ZqP (w:Bool) (g:List AOp) (s:Nat) (tm:Tms) (σ:Za):gW O bf w g s tm σ (.tup [])=some (Zy g tm,σ,none):=rfl
theorem ZmZ (os:List AOp) (s:Nat) (tm:Tms) (σ:Za):gK O bf os s (some (tm,σ,none))=ZaK O bf os s tm σ:=rfl
end
section
variable (c:Prop) [Decidable c]
theorem ZN {α:Type} (a b:α) (x y:List α):(if c then a::x else b::y)=(if c then a else b)::(if c then x else y):=by split <;> rfl
theorem ZqH (k:IntKind) (a b:Int):(if c then AVal.int k a else AVal.int k b)=AVal.int k (if c then a else b):=by split <;> rfl
theorem Zko (a b:Bool):(if c then AVal.bool a else AVal.bool b)=AVal.bool (if c then a else b):=by split <;> rfl
theorem ZpT (a b:List UInt8):(if c then AVal.str a else AVal.str b)=AVal.str (if c then a else b):=by split <;> rfl
theorem ZpW (p q:Bool) (a b:List AVal):(if c then AVal.lst p a else AVal.lst q b)=AVal.lst (if c then p else q) (if c then a else b):=by split <;> rfl
theorem Zr6 (a b:List AVal):(if c then AVal.agg a else AVal.agg b)=AVal.agg (if c then a else b):=by split <;> rfl
theorem Zpn (a b:List AVal):(if c then ZU.var a else ZU.var b)=ZU.var (if c then a else b):=by split <;> rfl
theorem ZqS (g k:Nat) (a b:List AVal):(if c then ZU.row g k a else ZU.row g k b)=ZU.row g k (if c then a else b):=by split <;> rfl
theorem Zlg (t:Nat) (a b:Nat):(if c then AVal.ref t a else AVal.ref t b)=AVal.ref t (if c then a else b):=by split <;> rfl
theorem ZR {α:Type} (x y z:α):(if c then (if c then x else y) else z)=if c then x else z:=by split <;> rfl
theorem ZS {α:Type} (x y z:α):(if c then x else (if c then y else z))=if c then x else z:=by split <;> rfl
theorem ZK {α:Type} (x y z:α):(if c then (if ¬c then x else y) else z)=if c then y else z:=by split <;> simp_all
theorem ZM {α:Type} (x y z:α):(if c then x else (if ¬c then y else z))=if c then x else y:=by split <;> simp_all
theorem ZoW (σ:Za) (a b:AVal) (p:Bool):Zee σ a b (.bool p)=some (if p=true then a else b,σ,{}):=by cases p <;> rfl
theorem Zjl (a b:AVal):Zat (if c then a else b)=if c then Zat a else Zat b:=by split <;> rfl
end
section
variable {fs:Nat->Option Zan} {prim:Zbu} {bf:Nat->Bool} {m0:Nat}
theorem Zje (p:Bool) (a b:Zq) (tm:Tms) (σ:Za):Zgj fs prim bf m0 a b tm σ (.bool p)=if p=true then evC fs prim bf m0 a tm σ else evC fs prim bf m0 b tm σ:=by
 cases p <;> rfl
theorem ZjC (b:Zq) (tm:Tms) (σ:Za):ZbY fs prim bf m0 b (some (.normal,tm,σ))=evC fs prim bf m0 b tm σ:=rfl
theorem Zl9 (b:Zq) (i:Nat) (tm:Tms) (σ:Za):ZbY fs prim bf m0 b (some (.exit i,tm,σ))=some (.exit i,tm,σ):=rfl
theorem ZpX (b:Zq) (tm:Tms) (σ:Za):ZbY fs prim bf m0 b (some (.ret,tm,σ))=some (.ret,tm,σ):=rfl
theorem Zi8 (b:Zq) (x:AVal) (tm:Tms) (σ:Za):ZbY fs prim bf m0 b (some (.panic x,tm,σ))=some (.panic x,tm,σ):=rfl
theorem ZlV (c:Prop) [Decidable c] (b:Zq) (x y:Option (Zau×Tms×Za)):ZbY fs prim bf m0 b (if c then x else y)=if c then ZbY fs prim bf m0 b x else ZbY fs prim bf m0 b y:=by split <;> rfl
theorem ZnX (id:Nat) (tm:Tms) (σ:Za):WW (Zbb id) (some (.normal,tm,σ))=some (.normal,tm,σ):=rfl
theorem Zr0 (id i:Nat) (tm:Tms) (σ:Za):WW (Zbb id) (some (.exit i,tm,σ))=if i=id then some (.normal,tm,σ) else some (.exit i,tm,σ):=by
 simp only [XQ,Zbb];split <;> rfl
theorem Zk1 (id:Nat) (tm:Tms) (σ:Za):WW (Zbb id) (some (.ret,tm,σ))=some (.ret,tm,σ):=rfl
theorem Zrb (id:Nat) (x:AVal) (tm:Tms) (σ:Za):WW (Zbb id) (some (.panic x,tm,σ))=some (.panic x,tm,σ):=rfl
theorem Zjt (id:Nat) (c:Prop) [Decidable c] (x y:Option (Zau×Tms×Za)):WW (Zbb id) (if c then x else y)=if c then WW (Zbb id) x else WW (Zbb id) y:=by split <;> rfl
theorem Zlv (m:Nat) (fn:Zan) (c:Prop) [Decidable c] (x y:Option (Zau×Tms×Za)):ZaF m fn (if c then x else y)=if c then ZaF m fn x else ZaF m fn y:=by split <;> rfl
end
section
variable {fs:Nat->Option Zan} {prim:Zbu} {bf:Nat->Bool} {m0:Nat}
theorem ZwL {live:List Nat} {c:Zq} {tm tm':Tms} {σ σ':Za} (h:evC fs prim bf m0 c tm σ=some (.normal,tm',σ')):evL fs prim bf m0 live c tm σ=evL fs prim bf m0 live c (gcT m0 (keepL live tm') σ').1 (gcT m0 (keepL live tm') σ').2:=by
 unfold evL
 rw [h]
 simp only
 rw [Zt1]
 rfl
theorem ZA9 {live:List Nat} {c:Zq} {tm tm':Tms} {σ σ':Za} {i:Nat} (h:evC fs prim bf m0 c tm σ=some (.exit i,tm',σ')):evL fs prim bf m0 live c tm σ=some (.exit i,tm',σ'):=by
 unfold evL;rw [h]
theorem ZAt {live:List Nat} {c:Zq} {tm tm':Tms} {σ σ':Za} (h:evC fs prim bf m0 c tm σ=some (.ret,tm',σ')):evL fs prim bf m0 live c tm σ=some (.ret,tm',σ'):=by
 unfold evL;rw [h]
variable (fs prim bf m0) in
noncomputable def evM (live:List Nat) (c:Zq):Option (Zau×Tms×Za)->Option (Zau×Tms×Za)
 | some (.normal,tm,σ)=>evL fs prim bf m0 live c (gcT m0 (keepL live tm) σ).1 (gcT m0 (keepL live tm) σ).2
 | r=>r
theorem ZaZ (live:List Nat) (c:Zq) (tm:Tms) (σ:Za):evL fs prim bf m0 live c tm σ=evM fs prim bf m0 live c (evC fs prim bf m0 c tm σ):=by
 cases h:evC fs prim bf m0 c tm σ with
 | none=>unfold evL;rw [h];rfl
 | some q =>
  obtain ⟨e,tm',σ'⟩:=q
  cases e with
  | normal=>exact ZwL h
  | exit i=>exact ZA9 h
  | ret=>exact ZAt h
  | panic x=>unfold evL;rw [h];rfl
theorem Zy2 (live:List Nat) (c:Zq) (tm:Tms) (σ:Za):evM fs prim bf m0 live c (some (.normal,tm,σ))=evL fs prim bf m0 live c (gcT m0 (keepL live tm) σ).1 (gcT m0 (keepL live tm) σ).2:=rfl
theorem ZkM (live:List Nat) (c:Zq) (i:Nat) (tm:Tms) (σ:Za):evM fs prim bf m0 live c (some (.exit i,tm,σ))=some (.exit i,tm,σ):=rfl
theorem Zql (live:List Nat) (c:Zq) (tm:Tms) (σ:Za):evM fs prim bf m0 live c (some (.ret,tm,σ))=some (.ret,tm,σ):=rfl
theorem Zrl (live:List Nat) (c:Zq) (x:AVal) (tm:Tms) (σ:Za):evM fs prim bf m0 live c (some (.panic x,tm,σ))=some (.panic x,tm,σ):=rfl
theorem ZoD (live:List Nat) (b:Zq) (c:Prop) [Decidable c] (x y:Option (Zau×Tms×Za)):evM fs prim bf m0 live b (if c then x else y)=if c then evM fs prim bf m0 live b x else evM fs prim bf m0 live b y:=by split <;> rfl
end
def ZaC:AVal->Bool
 | .int _ _=>true
 | .bool _=>true
 | .str _=>true
 | .nilp=>true
 | .nilm=>true
 | .nili=>true
 | .lst _ _=>true
 | .fn _ []=>true
 | _=>false
def Zaq:AVal->Bool
 | .agg cs=>cs.all ZaC
 | x=>ZaC x
def ZaE:AVal->AVal
 | .lst _ xs=>.lst false xs
 | x=>x
def Zag:AVal->AVal
 | .agg cs=>.agg (cs.map ZaE)
 | x=>ZaE x
theorem ZuO {σ:Za} {x:AVal} (h:ZaC x=true):Zce σ x=some (ZaE x,[]):=by
 cases x <;> first | (simp [ZaC] at h;done) | rfl
theorem ZsL {σ:Za}:∀ {xs:List AVal},xs.all ZaC=true->ZbX σ xs=some (xs.map ZaE,[])
 | [],_=>rfl
 | x::xs,h=>by
  simp only [Xt,Xl] at h
  simp only [ZbX,ZuO h.1,ZsL h.2,Xs,X2]
theorem Zfp {x:AVal} (h:∀ cs,x≠.agg cs):Zaq x=ZaC x/\Zag x=ZaE x:=by
 cases x <;> first | exact ⟨rfl,rfl⟩ | exact absurd rfl (h _)
theorem Zwu {σ:Za} {x:AVal} (h:∀ cs,x≠.agg cs):showA σ x=Zce σ x:=by
 cases x <;> first | rfl | exact absurd rfl (h _)
theorem Zqd (x:AVal):(∃ cs,x=.agg cs)\/∀ cs,x≠.agg cs:=by
 cases x <;> first | exact Xv ⟨_,rfl⟩ | (right;intro cs;simp)
theorem ZAS {σ:Za} {x:AVal} (h:Zaq x=true):showA σ x=some (Zag x,[]):=by
 rcases Zqd x with ⟨cs,rfl⟩ | hn
 ·simp only [Zaq] at h
  simp only [showA,ZsL h,Zag]
 ·rw [(Zfp hn).1] at h
  rw [Zwu hn,(Zfp hn).2]
  exact ZuO h
theorem ZvU {σ:Za}:∀ {xs:List AVal},xs.all Zaq=true->showAs σ xs=some (xs.map Zag,[])
 | [],_=>rfl
 | x::xs,h=>by
  simp only [Xt,Xl] at h
  simp only [showAs,ZAS h.1,ZvU h.2,Xs,X2]
theorem Zu5 {x:AVal} (h:ZaC x=true):Z5 (ZaE x)=[]:=by
 cases x
 case fn f cs=>cases cs <;> simp [ZaC] at h;rfl
 all_goals first | (simp [ZaC] at h;done) | rfl
theorem Zth:∀ {xs:List AVal},xs.all ZaC=true->ZW (xs.map ZaE)=[]
 | [],_=>rfl
 | x::xs,h=>by
  simp only [Xt,Xl] at h
  simp only [Xs,ZW,Zu5 h.1,Zth h.2,X2]
theorem ZwX {x:AVal} (h:Zaq x=true):Z5 (Zag x)=[]:=by
 rcases Zqd x with ⟨cs,rfl⟩ | hn
 ·simp only [Zaq] at h
  simp only [Zag,Z5];exact Zth h
 ·rw [(Zfp hn).1] at h
  rw [(Zfp hn).2];exact Zu5 h
theorem Zil:∀ {xs:List AVal},xs.all Zaq=true->ZW (xs.map Zag)=[]
 | [],_=>rfl
 | x::xs,h=>by
  simp only [Xt,Xl] at h
  simp only [Xs,ZW,ZwX h.1,Zil h.2,X2]
theorem ZsK {ρ:Rho} {x:AVal} (h:ZaC x=true):Zj ρ (ZaE x)=ZaE x:=by
 cases x
 case fn f cs=>cases cs <;> simp [ZaC] at h;rfl
 all_goals first | (simp [ZaC] at h;done) | rfl
theorem ZvJ {ρ:Rho}:∀ {xs:List AVal},xs.all ZaC=true->ZV ρ (xs.map ZaE)=xs.map ZaE
 | [],_=>rfl
 | x::xs,h=>by
  simp only [Xt,Xl] at h
  simp only [Xs,ZV,ZsK h.1,ZvJ h.2]
theorem ZAs {ρ:Rho} {x:AVal} (h:Zaq x=true):Zj ρ (Zag x)=Zag x:=by
 rcases Zqd x with ⟨cs,rfl⟩ | hn
 ·simp only [Zaq] at h
  simp only [Zag,Zj];rw [ZvJ h]
 ·rw [(Zfp hn).1] at h
  rw [(Zfp hn).2];exact ZsK h
theorem Zhg {ρ:Rho}:∀ {xs:List AVal},xs.all Zaq=true->ZV ρ (xs.map Zag)=xs.map Zag
 | [],_=>rfl
 | x::xs,h=>by
  simp only [Xt,Xl] at h
  simp only [Xs,ZV,ZAs h.1,Zhg h.2]
theorem ZdX {O:ZY} {bf:Nat->Bool} {σ:Za} {sq f own:Nat} {view:Bool} {args:List AVal} (hb:bf f=false) (h:args.all Zaq=true) :
  ZZ O bf σ sq f own view args=Zay σ σ [] [] sq own (ZaA view 0 (O f (args.map Zag) [])):=by
 unfold ZZ Zcu
 rw [hb]
 simp only [Xw,if_false,ZvU h]
 have h1:Zr σ []=σ:=rfl
 rw [h1,Zil h]
 have h2:Zf σ 1000 [] []=[]:=rfl
 rw [h2]
 unfold ZbJ
 simp only [List.all_nil,if_true,Zhg h,Zg,XF]
theorem Zgn (σ:Za) (sq own:Nat) (r:AVal) (h:Zj (Za2 [] [] sq) r=r):Zay σ σ [] [] sq own (some (r,[]))=some (r,σ,{}):=by
 simp only [Zay,List.isEmpty_nil,W7,if_true,Zcq,Bool.not_true,Bool.false_and,Xw,if_false]
 split
 ·rfl
 ·rw [h]
end
section
section
variable (ρ:Rho) (σ:Za)
theorem Zof  : Zat (.top)=false:=rfl
theorem Zj6  : Zat (.any)=false:=rfl
theorem ZlD (k:IntKind) (n:Int):Zat (.int k n)=false:=rfl
theorem ZpU (b:Bool):Zat (.bool b)=false:=rfl
theorem ZjA (l:List UInt8):Zat (.str l)=false:=rfl
theorem Zmp  : Zat (.nilp)=false:=rfl
theorem ZlF (t:Nat) (o:Nat):Zat (.ref t o)=false:=rfl
theorem Zmi (t:Nat) (g:Nat) (i:Nat) (o:Nat):Zat (.eref t g i o)=false:=rfl
theorem ZpH (cs:List AVal) (o:Nat):Zat (.iptr cs o)=false:=rfl
theorem Zp5 (x:Bool) (xs:List AVal):Zat (.lst x xs)=false:=rfl
theorem ZoG (t:Nat) (g:Nat) (lo:Nat) (n:Nat):Zat (.sl t g lo n)=false:=rfl
theorem ZjB (cs:List AVal):Zat (.agg cs)=false:=rfl
theorem Zqe (vs:List AVal):Zat (.tup vs)=false:=rfl
theorem ZpK (f:Nat) (caps:List AVal):Zat (.fn f caps)=false:=rfl
theorem ZoJ  : Zat (.nilm)=false:=rfl
theorem Zp3 (t:Nat):Zat (.map t)=false:=rfl
theorem ZpS  : Zat (.nili)=false:=rfl
theorem Zqf (t:Nat) (x:AVal):Zat (.iface t x)=false:=rfl
theorem ZpG (x:AVal):Zat (.pan x)=true:=rfl
theorem ZiF  : ZT (.top)=false:=rfl
theorem Zo2  : ZT (.any)=true:=rfl
theorem ZoK (k:IntKind) (n:Int):ZT (.int k n)=true:=rfl
theorem ZkT (b:Bool):ZT (.bool b)=true:=rfl
theorem ZpA (l:List UInt8):ZT (.str l)=true:=rfl
theorem ZrH  : ZT (.nilp)=true:=rfl
theorem ZiH (t:Nat) (o:Nat):ZT (.ref t o)=true:=rfl
theorem ZoC (t:Nat) (g:Nat) (i:Nat) (o:Nat):ZT (.eref t g i o)=true:=rfl
theorem Zsr (cs:List AVal) (o:Nat):ZT (.iptr cs o)=true:=rfl
theorem ZjX (x:Bool) (xs:List AVal):ZT (.lst x xs)=true:=rfl
theorem ZrK (t:Nat) (g:Nat) (lo:Nat) (n:Nat):ZT (.sl t g lo n)=true:=rfl
theorem Zj5 (cs:List AVal):ZT (.agg cs)=false:=rfl
theorem Zr3 (vs:List AVal):ZT (.tup vs)=false:=rfl
theorem ZmG (f:Nat) (caps:List AVal):ZT (.fn f caps)=true:=rfl
theorem Zmk  : ZT (.nilm)=true:=rfl
theorem Zi0 (t:Nat):ZT (.map t)=true:=rfl
theorem ZsA  : ZT (.nili)=true:=rfl
theorem ZmY (t:Nat) (x:AVal):ZT (.iface t x)=true:=rfl
theorem Zqs (x:AVal):ZT (.pan x)=false:=rfl
theorem Znq  : Za3 (.top)=false:=rfl
theorem Zn2  : Za3 (.any)=true:=rfl
theorem Zl1 (k:IntKind) (n:Int):Za3 (.int k n)=true:=rfl
theorem ZiC (b:Bool):Za3 (.bool b)=true:=rfl
theorem ZjI (l:List UInt8):Za3 (.str l)=true:=rfl
theorem Znn  : Za3 (.nilp)=true:=rfl
theorem ZiG (t:Nat) (o:Nat):Za3 (.ref t o)=true:=rfl
theorem ZrN (t:Nat) (g:Nat) (i:Nat) (o:Nat):Za3 (.eref t g i o)=true:=rfl
theorem Zqh (cs:List AVal) (o:Nat):Za3 (.iptr cs o)=true:=rfl
theorem Zo4 (x:Bool) (xs:List AVal):Za3 (.lst x xs)=true:=rfl
theorem ZiE (t:Nat) (g:Nat) (lo:Nat) (n:Nat):Za3 (.sl t g lo n)=true:=rfl
theorem ZmM (cs:List AVal):Za3 (.agg cs)=true:=rfl
theorem ZqC (vs:List AVal):Za3 (.tup vs)=true:=rfl
theorem Zqw (f:Nat) (caps:List AVal):Za3 (.fn f caps)=true:=rfl
theorem Zqm  : Za3 (.nilm)=true:=rfl
theorem Zop (t:Nat):Za3 (.map t)=true:=rfl
theorem Zpz  : Za3 (.nili)=true:=rfl
theorem ZnM (t:Nat) (x:AVal):Za3 (.iface t x)=true:=rfl
theorem ZnE (x:AVal):Za3 (.pan x)=true:=rfl
theorem Zo1  : ZaD (.top)=false:=rfl
theorem Zrj  : ZaD (.any)=false:=rfl
theorem Znp (k:IntKind) (n:Int):ZaD (.int k n)=true:=rfl
theorem Zp6 (b:Bool):ZaD (.bool b)=true:=rfl
theorem ZoP (l:List UInt8):ZaD (.str l)=true:=rfl
theorem ZlA  : ZaD (.nilp)=true:=rfl
theorem ZnY (t:Nat) (o:Nat):ZaD (.ref t o)=false:=rfl
theorem Zi7 (t:Nat) (g:Nat) (i:Nat) (o:Nat):ZaD (.eref t g i o)=false:=rfl
theorem Zor (cs:List AVal) (o:Nat):ZaD (.iptr cs o)=false:=rfl
theorem ZpY (x:Bool) (xs:List AVal):ZaD (.lst x xs)=false:=rfl
theorem Zmr (t:Nat) (g:Nat) (lo:Nat) (n:Nat):ZaD (.sl t g lo n)=false:=rfl
theorem Zpt (cs:List AVal):ZaD (.agg cs)=false:=rfl
theorem ZkS (vs:List AVal):ZaD (.tup vs)=false:=rfl
theorem Zjv (f:Nat) (caps:List AVal):ZaD (.fn f caps)=false:=rfl
theorem Zk5  : ZaD (.nilm)=true:=rfl
theorem ZqM (t:Nat):ZaD (.map t)=false:=rfl
theorem Zpp  : ZaD (.nili)=true:=rfl
theorem Zk7 (t:Nat) (x:AVal):ZaD (.iface t x)=false:=rfl
theorem Zn3 (x:AVal):ZaD (.pan x)=false:=rfl
theorem Zq8  : ZaL (.top)=false:=rfl
theorem Zj9  : ZaL (.any)=false:=rfl
theorem Zq4 (k:IntKind) (n:Int):ZaL (.int k n)=true:=rfl
theorem ZqD (b:Bool):ZaL (.bool b)=true:=rfl
theorem ZiN (l:List UInt8):ZaL (.str l)=true:=rfl
theorem Znu  : ZaL (.nilp)=true:=rfl
theorem Zmy (t:Nat) (o:Nat):ZaL (.ref t o)=false:=rfl
theorem Zjo (t:Nat) (g:Nat) (i:Nat) (o:Nat):ZaL (.eref t g i o)=false:=rfl
theorem Zm2 (cs:List AVal) (o:Nat):ZaL (.iptr cs o)=false:=rfl
theorem Zsj (x:Bool) (xs:List AVal):ZaL (.lst x xs)=false:=rfl
theorem ZnW (t:Nat) (g:Nat) (lo:Nat) (n:Nat):ZaL (.sl t g lo n)=false:=rfl
theorem ZiJ (cs:List AVal):ZaL (.agg cs)=cs.all ZaD:=rfl
theorem ZlB (vs:List AVal):ZaL (.tup vs)=false:=rfl
theorem Zke (f:Nat) (caps:List AVal):ZaL (.fn f caps)=false:=rfl
theorem ZmV  : ZaL (.nilm)=true:=rfl
theorem Znd (t:Nat):ZaL (.map t)=false:=rfl
theorem ZkF  : ZaL (.nili)=true:=rfl
theorem Zkt (t:Nat) (x:AVal):ZaL (.iface t x)=false:=rfl
theorem ZpI (x:AVal):ZaL (.pan x)=false:=rfl
theorem ZsD  : ZaX (.top)=false:=rfl
theorem Zl4  : ZaX (.any)=false:=rfl
theorem Zp9 (k:IntKind) (n:Int):ZaX (.int k n)=true:=rfl
theorem Zoj (b:Bool):ZaX (.bool b)=true:=rfl
theorem Zkl (l:List UInt8):ZaX (.str l)=true:=rfl
theorem ZpZ  : ZaX (.nilp)=true:=rfl
theorem Zlh (t:Nat) (o:Nat):ZaX (.ref t o)=false:=rfl
theorem ZjY (t:Nat) (g:Nat) (i:Nat) (o:Nat):ZaX (.eref t g i o)=false:=rfl
theorem Znx (cs:List AVal) (o:Nat):ZaX (.iptr cs o)=false:=rfl
theorem ZqN (x:Bool) (xs:List AVal):ZaX (.lst x xs)=false:=rfl
theorem Zso (t:Nat) (g:Nat) (lo:Nat) (n:Nat):ZaX (.sl t g lo n)=false:=rfl
theorem Zm7 (cs:List AVal):ZaX (.agg cs)=cs.all ZaD:=rfl
theorem ZiB (vs:List AVal):ZaX (.tup vs)=vs.all ZaL:=rfl
theorem Zpi (f:Nat) (caps:List AVal):ZaX (.fn f caps)=false:=rfl
theorem Zl5  : ZaX (.nilm)=true:=rfl
theorem Zjx (t:Nat):ZaX (.map t)=false:=rfl
theorem Zpj  : ZaX (.nili)=true:=rfl
theorem Zjb (t:Nat) (x:AVal):ZaX (.iface t x)=false:=rfl
theorem Zlx  : ZaC (.top)=false:=rfl
theorem Zne  : ZaC (.any)=false:=rfl
theorem ZnB (k:IntKind) (n:Int):ZaC (.int k n)=true:=rfl
theorem Zqr (b:Bool):ZaC (.bool b)=true:=rfl
theorem Zlj (l:List UInt8):ZaC (.str l)=true:=rfl
theorem Zqx  : ZaC (.nilp)=true:=rfl
theorem Zom (t:Nat) (o:Nat):ZaC (.ref t o)=false:=rfl
theorem Zjr (t:Nat) (g:Nat) (i:Nat) (o:Nat):ZaC (.eref t g i o)=false:=rfl
theorem Zi5 (cs:List AVal) (o:Nat):ZaC (.iptr cs o)=false:=rfl
theorem ZqX (x:Bool) (xs:List AVal):ZaC (.lst x xs)=true:=rfl
theorem Zmd (t:Nat) (g:Nat) (lo:Nat) (n:Nat):ZaC (.sl t g lo n)=false:=rfl
theorem Zkp (cs:List AVal):ZaC (.agg cs)=false:=rfl
theorem ZrM (vs:List AVal):ZaC (.tup vs)=false:=rfl
theorem Zo3  : ZaC (.nilm)=true:=rfl
theorem ZlH (t:Nat):ZaC (.map t)=false:=rfl
theorem Zq9  : ZaC (.nili)=true:=rfl
theorem Zrg (t:Nat) (x:AVal):ZaC (.iface t x)=false:=rfl
theorem ZrG (x:AVal):ZaC (.pan x)=false:=rfl
theorem ZjU  : Zaq (.top)=false:=rfl
theorem Zm3  : Zaq (.any)=false:=rfl
theorem Zsi (k:IntKind) (n:Int):Zaq (.int k n)=true:=rfl
theorem Znv (b:Bool):Zaq (.bool b)=true:=rfl
theorem Zsw (l:List UInt8):Zaq (.str l)=true:=rfl
theorem Zi2  : Zaq (.nilp)=true:=rfl
theorem ZrS (t:Nat) (o:Nat):Zaq (.ref t o)=false:=rfl
theorem ZjR (t:Nat) (g:Nat) (i:Nat) (o:Nat):Zaq (.eref t g i o)=false:=rfl
theorem ZpC (cs:List AVal) (o:Nat):Zaq (.iptr cs o)=false:=rfl
theorem Zoa (x:Bool) (xs:List AVal):Zaq (.lst x xs)=true:=rfl
theorem ZjD (t:Nat) (g:Nat) (lo:Nat) (n:Nat):Zaq (.sl t g lo n)=false:=rfl
theorem ZnU (cs:List AVal):Zaq (.agg cs)=cs.all ZaC:=rfl
theorem Zro (vs:List AVal):Zaq (.tup vs)=false:=rfl
theorem ZkJ  : Zaq (.nilm)=true:=rfl
theorem ZnQ (t:Nat):Zaq (.map t)=false:=rfl
theorem ZpN  : Zaq (.nili)=true:=rfl
theorem Zmu (t:Nat) (x:AVal):Zaq (.iface t x)=false:=rfl
theorem ZmR (x:AVal):Zaq (.pan x)=false:=rfl
theorem Zsz  : ZaE (.top)=(.top):=rfl
theorem Zky  : ZaE (.any)=(.any):=rfl
theorem ZlZ (k:IntKind) (n:Int):ZaE (.int k n)=(.int k n):=rfl
theorem Zkw (b:Bool):ZaE (.bool b)=(.bool b):=rfl
theorem Zrc (l:List UInt8):ZaE (.str l)=(.str l):=rfl
theorem Zmx  : ZaE (.nilp)=(.nilp):=rfl
theorem Zra (t:Nat) (o:Nat):ZaE (.ref t o)=(.ref t o):=rfl
theorem Zjg (t:Nat) (g:Nat) (i:Nat) (o:Nat):ZaE (.eref t g i o)=(.eref t g i o):=rfl
theorem ZpV (cs:List AVal) (o:Nat):ZaE (.iptr cs o)=(.iptr cs o):=rfl
theorem ZjZ (x:Bool) (xs:List AVal):ZaE (.lst x xs)=.lst false xs:=rfl
theorem Zk2 (t:Nat) (g:Nat) (lo:Nat) (n:Nat):ZaE (.sl t g lo n)=(.sl t g lo n):=rfl
theorem Zny (cs:List AVal):ZaE (.agg cs)=(.agg cs):=rfl
theorem ZoA (vs:List AVal):ZaE (.tup vs)=(.tup vs):=rfl
theorem Zlu (f:Nat) (caps:List AVal):ZaE (.fn f caps)=(.fn f caps):=rfl
theorem Zob  : ZaE (.nilm)=(.nilm):=rfl
theorem Zkn (t:Nat):ZaE (.map t)=(.map t):=rfl
theorem ZpP  : ZaE (.nili)=(.nili):=rfl
theorem Zss (t:Nat) (x:AVal):ZaE (.iface t x)=(.iface t x):=rfl
theorem Zk3 (x:AVal):ZaE (.pan x)=(.pan x):=rfl
theorem ZpF  : Zag (.top)=(.top):=rfl
theorem Zkk  : Zag (.any)=(.any):=rfl
theorem Zi1 (k:IntKind) (n:Int):Zag (.int k n)=(.int k n):=rfl
theorem Zlw (b:Bool):Zag (.bool b)=(.bool b):=rfl
theorem ZnF (l:List UInt8):Zag (.str l)=(.str l):=rfl
theorem Zk0  : Zag (.nilp)=(.nilp):=rfl
theorem Zrm (t:Nat) (o:Nat):Zag (.ref t o)=(.ref t o):=rfl
theorem Zp7 (t:Nat) (g:Nat) (i:Nat) (o:Nat):Zag (.eref t g i o)=(.eref t g i o):=rfl
theorem ZlP (cs:List AVal) (o:Nat):Zag (.iptr cs o)=(.iptr cs o):=rfl
theorem ZmO (x:Bool) (xs:List AVal):Zag (.lst x xs)=.lst false xs:=rfl
theorem ZkX (t:Nat) (g:Nat) (lo:Nat) (n:Nat):Zag (.sl t g lo n)=(.sl t g lo n):=rfl
theorem Zl6 (cs:List AVal):Zag (.agg cs)=.agg (cs.map ZaE):=rfl
theorem Zsq (vs:List AVal):Zag (.tup vs)=(.tup vs):=rfl
theorem ZoF (f:Nat) (caps:List AVal):Zag (.fn f caps)=(.fn f caps):=rfl
theorem Zon  : Zag (.nilm)=(.nilm):=rfl
theorem Zse (t:Nat):Zag (.map t)=(.map t):=rfl
theorem Zrq  : Zag (.nili)=(.nili):=rfl
theorem Zku (t:Nat) (x:AVal):Zag (.iface t x)=(.iface t x):=rfl
theorem ZrR (x:AVal):Zag (.pan x)=(.pan x):=rfl
theorem Zqp  : AVal.cells (.top)=[(.top)]:=rfl
theorem ZlX  : AVal.cells (.any)=[(.any)]:=rfl
theorem ZrQ (k:IntKind) (n:Int):AVal.cells (.int k n)=[(.int k n)]:=rfl
theorem ZrD (b:Bool):AVal.cells (.bool b)=[(.bool b)]:=rfl
theorem ZkV (l:List UInt8):AVal.cells (.str l)=[(.str l)]:=rfl
theorem ZrZ  : AVal.cells (.nilp)=[(.nilp)]:=rfl
theorem Zj2 (t:Nat) (o:Nat):AVal.cells (.ref t o)=[(.ref t o)]:=rfl
theorem Zpv (t:Nat) (g:Nat) (i:Nat) (o:Nat):AVal.cells (.eref t g i o)=[(.eref t g i o)]:=rfl
theorem ZjL (cs:List AVal) (o:Nat):AVal.cells (.iptr cs o)=[(.iptr cs o)]:=rfl
theorem Zl0 (x:Bool) (xs:List AVal):AVal.cells (.lst x xs)=[(.lst x xs)]:=rfl
theorem ZmL (t:Nat) (g:Nat) (lo:Nat) (n:Nat):AVal.cells (.sl t g lo n)=[(.sl t g lo n)]:=rfl
theorem Zrn (cs:List AVal):AVal.cells (.agg cs)=cs:=rfl
theorem Zqv (vs:List AVal):AVal.cells (.tup vs)=[(.tup vs)]:=rfl
theorem Zmj (f:Nat) (caps:List AVal):AVal.cells (.fn f caps)=[(.fn f caps)]:=rfl
theorem Zls  : AVal.cells (.nilm)=[(.nilm)]:=rfl
theorem Zsa (t:Nat):AVal.cells (.map t)=[(.map t)]:=rfl
theorem Zr7  : AVal.cells (.nili)=[(.nili)]:=rfl
theorem ZjW (t:Nat) (x:AVal):AVal.cells (.iface t x)=[(.iface t x)]:=rfl
theorem ZiM (x:AVal):AVal.cells (.pan x)=[(.pan x)]:=rfl
theorem Zr5  : Zam (.top)=(.top):=rfl
theorem Zr9  : Zam (.any)=(.any):=rfl
theorem ZmT (k:IntKind) (n:Int):Zam (.int k n)=(.int k n):=rfl
theorem Zjq (b:Bool):Zam (.bool b)=(.bool b):=rfl
theorem ZrY (l:List UInt8):Zam (.str l)=(.str l):=rfl
theorem Zml  : Zam (.nilp)=(.nilp):=rfl
theorem Zp8 (t:Nat) (o:Nat):Zam (.ref t o)=(.ref t o):=rfl
theorem Znf (t:Nat) (g:Nat) (i:Nat) (o:Nat):Zam (.eref t g i o)=(.eref t g i o):=rfl
theorem Zlc (cs:List AVal) (o:Nat):Zam (.iptr cs o)=(.iptr cs o):=rfl
theorem ZqF (x:Bool) (xs:List AVal):Zam (.lst x xs)=(.lst x xs):=rfl
theorem Zlf (t:Nat) (g:Nat) (lo:Nat) (n:Nat):Zam (.sl t g lo n)=(.sl t g lo n):=rfl
theorem ZrC (cs:List AVal):Zam (.agg cs)=(.agg cs):=rfl
theorem ZkK (vs:List AVal):Zam (.tup vs)=(.tup vs):=rfl
theorem Zmz (f:Nat) (caps:List AVal):Zam (.fn f caps)=(.fn f caps):=rfl
theorem Zm1  : Zam (.nilm)=(.nilm):=rfl
theorem ZqO (t:Nat):Zam (.map t)=(.map t):=rfl
theorem ZlR  : Zam (.nili)=(.nili):=rfl
theorem ZqQ (t:Nat) (x:AVal):Zam (.iface t x)=(.iface t x):=rfl
theorem ZmD (x:AVal):Zam (.pan x)=x:=rfl
theorem ZoQ  : Zap (.top)=4:=rfl
theorem Zrv  : Zap (.any)=4:=rfl
theorem Zjy (k:IntKind) (n:Int):Zap (.int k n)=0:=rfl
theorem ZlK (b:Bool):Zap (.bool b)=1:=rfl
theorem Zox (l:List UInt8):Zap (.str l)=2:=rfl
theorem ZnS  : Zap (.nilp)=4:=rfl
theorem ZqI (t:Nat) (o:Nat):Zap (.ref t o)=4:=rfl
theorem Zos (t:Nat) (g:Nat) (i:Nat) (o:Nat):Zap (.eref t g i o)=4:=rfl
theorem Zn9 (cs:List AVal) (o:Nat):Zap (.iptr cs o)=4:=rfl
theorem ZnR (x:Bool) (xs:List AVal):Zap (.lst x xs)=4:=rfl
theorem Zjh (t:Nat) (g:Nat) (lo:Nat) (n:Nat):Zap (.sl t g lo n)=4:=rfl
theorem ZiU (cs:List AVal):Zap (.agg cs)=4:=rfl
theorem Zqt (vs:List AVal):Zap (.tup vs)=4:=rfl
theorem Znj (f:Nat) (caps:List AVal):Zap (.fn f caps)=4:=rfl
theorem Zst  : Zap (.nilm)=4:=rfl
theorem Zk8 (t:Nat):Zap (.map t)=4:=rfl
theorem ZmA  : Zap (.nili)=4:=rfl
theorem ZkE (t:Nat) (x:AVal):Zap (.iface t x)=4:=rfl
theorem ZnD (x:AVal):Zap (.pan x)=4:=rfl
theorem Zog  : Z5 (.top)=[]:=rfl
theorem ZjN  : Z5 (.any)=[]:=rfl
theorem Zo6 (k:IntKind) (n:Int):Z5 (.int k n)=[]:=rfl
theorem Zsh (b:Bool):Z5 (.bool b)=[]:=rfl
theorem ZkP (l:List UInt8):Z5 (.str l)=[]:=rfl
theorem Zkg  : Z5 (.nilp)=[]:=rfl
theorem ZoH (t:Nat) (o:Nat):Z5 (.ref t o)=[t]:=rfl
theorem Zpl (t:Nat) (g:Nat) (i:Nat) (o:Nat):Z5 (.eref t g i o)=[t]:=rfl
theorem Zn4 (cs:List AVal) (o:Nat):Z5 (.iptr cs o)=[]:=rfl
theorem Zo7 (x:Bool) (xs:List AVal):Z5 (.lst x xs)=[]:=rfl
theorem ZoO (t:Nat) (g:Nat) (lo:Nat) (n:Nat):Z5 (.sl t g lo n)=[t]:=rfl
theorem ZmP (cs:List AVal):Z5 (.agg cs)=ZW cs:=rfl
theorem Zi6 (vs:List AVal):Z5 (.tup vs)=ZW vs:=rfl
theorem Zsl (f:Nat) (caps:List AVal):Z5 (.fn f caps)=ZW caps:=rfl
theorem ZoL  : Z5 (.nilm)=[]:=rfl
theorem Zm9 (t:Nat):Z5 (.map t)=[t]:=rfl
theorem Znt  : Z5 (.nili)=[]:=rfl
theorem ZoS (t:Nat) (x:AVal):Z5 (.iface t x)=Z5 x:=rfl
theorem Zqo (x:AVal):Z5 (.pan x)=Z5 x:=rfl
theorem ZoB  : Zj ρ (.top)=(.top):=rfl
theorem Zkx  : Zj ρ (.any)=(.any):=rfl
theorem Znh (k:IntKind) (n:Int):Zj ρ (.int k n)=(.int k n):=rfl
theorem ZqA (b:Bool):Zj ρ (.bool b)=(.bool b):=rfl
theorem Zj1 (l:List UInt8):Zj ρ (.str l)=(.str l):=rfl
theorem Zk4  : Zj ρ (.nilp)=(.nilp):=rfl
theorem ZlG (cs:List AVal) (o:Nat):Zj ρ (.iptr cs o)=(.iptr cs o):=rfl
theorem Zkq (x:Bool) (xs:List AVal):Zj ρ (.lst x xs)=(.lst x xs):=rfl
theorem ZmW (cs:List AVal):Zj ρ (.agg cs)=.agg (ZV ρ cs):=rfl
theorem ZlS (vs:List AVal):Zj ρ (.tup vs)=.tup (ZV ρ vs):=rfl
theorem Zqn (f:Nat) (caps:List AVal):Zj ρ (.fn f caps)=.fn f (ZV ρ caps):=rfl
theorem Zrr  : Zj ρ (.nilm)=(.nilm):=rfl
theorem Zoq  : Zj ρ (.nili)=(.nili):=rfl
theorem Zrz (t:Nat) (x:AVal):Zj ρ (.iface t x)=.iface t (Zj ρ x):=rfl
theorem ZnV (x:AVal):Zj ρ (.pan x)=.pan (Zj ρ x):=rfl
theorem Zpc (f:Nat):ZaC (.fn f [])=true:=rfl
theorem Zrs (f:Nat):Zaq (.fn f [])=true:=rfl
theorem Zmh (t:Nat) (x:AVal):ZaX (.pan (.iface t x))=ZaD x:=rfl
theorem ZrB (live:List Nat) (tm:Tms):ZhB live (some (tm,σ,none))=some (.normal,keepL live tm,σ):=rfl
theorem ZlU (live:List Nat) (tm:Tms) (x:AVal):ZhB live (some (tm,σ,some x))=some (.panic x,[],σ):=rfl
theorem ZlT (live:List Nat):ZhB live none=none:=rfl
theorem Zqj (t o:Nat):Zj ρ (.ref t o)=(match ρ t 0 with | some (t',0)=>.ref t' o | _=>.any):=rfl
theorem ZjP (t:Nat):Zj ρ (.map t)=(match ρ t 0 with | some (t',0)=>.map t' | _=>.any):=rfl
theorem ZnC (t g lo n:Nat):Zj ρ (.sl t g lo n)=(match ρ t g with | some (t',g')=>.sl t' g' lo n | none=>.any):=rfl
theorem Zm4 (t g i o:Nat):Zj ρ (.eref t g i o)=(match ρ t g with | some (t',g')=>.eref t' g' i o | none=>.any):=rfl
theorem Zo5:ZW []=[]:=rfl
theorem ZiR (x:AVal) (xs:List AVal):ZW (x::xs)=Z5 x++ZW xs:=rfl
theorem Zj3:ZV ρ []=[]:=rfl
theorem ZoI (x:AVal) (xs:List AVal):ZV ρ (x::xs)=Zj ρ x::ZV ρ xs:=rfl
end
end
section
mutual
def Zaw:AVal->Bool
 | .ref _ _=>false
 | .eref _ _ _ _=>false
 | .sl _ _ _ _=>false
 | .map _=>false
 | .agg cs=>Zw cs
 | .tup vs=>Zw vs
 | .fn _ vs=>Zw vs
 | .iface _ x=>Zaw x
 | .pan x=>Zaw x
 | .top=>true
 | .any=>true
 | .int _ _=>true
 | .bool _=>true
 | .str _=>true
 | .nilp=>true
 | .nilm=>true
 | .nili=>true
 | .iptr _ _=>true
 | .lst _ _=>true
def Zw:List AVal->Bool
 | []=>true
 | x::xs=>Zaw x && Zw xs
end
mutual
theorem Zgf (ρ:Rho):∀ (x:AVal),Zaw x=true->Zj ρ x=x/\Z5 x=[]
 | .ref _ _,h=>by simp [Zaw] at h
 | .eref _ _ _ _,h=>by simp [Zaw] at h
 | .sl _ _ _ _,h=>by simp [Zaw] at h
 | .map _,h=>by simp [Zaw] at h
 | .agg cs,h=>by have:=ZgB ρ cs (by simpa only [Zaw] using h);exact ⟨by simp only [Zj,this.1],by simp only [Z5,this.2]⟩
 | .tup cs,h=>by have:=ZgB ρ cs (by simpa only [Zaw] using h);exact ⟨by simp only [Zj,this.1],by simp only [Z5,this.2]⟩
 | .fn f cs,h=>by have:=ZgB ρ cs (by simpa only [Zaw] using h);exact ⟨by simp only [Zj,this.1],by simp only [Z5,this.2]⟩
 | .iface t x,h=>by have:=Zgf ρ x (by simpa only [Zaw] using h);exact ⟨by simp only [Zj,this.1],by simp only [Z5,this.2]⟩
 | .pan x,h=>by have:=Zgf ρ x (by simpa only [Zaw] using h);exact ⟨by simp only [Zj,this.1],by simp only [Z5,this.2]⟩
 | .top,_=>⟨rfl,rfl⟩
 | .any,_=>⟨rfl,rfl⟩
 | .int _ _,_=>⟨rfl,rfl⟩
 | .bool _,_=>⟨rfl,rfl⟩
 | .str _,_=>⟨rfl,rfl⟩
 | .nilp,_=>⟨rfl,rfl⟩
 | .nilm,_=>⟨rfl,rfl⟩
 | .nili,_=>⟨rfl,rfl⟩
 | .iptr _ _,_=>⟨rfl,rfl⟩
 | .lst _ _,_=>⟨rfl,rfl⟩
theorem ZgB (ρ:Rho):∀ (xs:List AVal),Zw xs=true->ZV ρ xs=xs/\ZW xs=[]
 | [],_=>⟨rfl,rfl⟩
 | x::xs,h=>by
  simp only [Zw,Xl] at h
  have h1:=Zgf ρ x h.1
  have h2:=ZgB ρ xs h.2
  exact ⟨by simp only [ZV,h1.1,h2.1],by simp only [ZW,h1.2,h2.2,X2]⟩
end
theorem Zia {σ:Za} {r:AVal} (h:Zaw r=true):Zaz 0 σ r=some (r,[]):=by
 have h1:=Zgf (Ze σ 0 []) r h
 have hids:Zl 0 [r] σ=[]:=by
  unfold Zl
  simp only [ZW,h1.2,X2,List.range_zero,List.flatMap_nil]
  rfl
 unfold Zaz gcA
 simp only [hids,ZV,Zg,h1.1]
def ZbC:AVal->AVal
 | .tup vs=>.tup (vs.map Zag)
 | x=>Zag x
def Zbx:AVal->Bool
 | .tup vs=>vs.all Zaq
 | x=>Zaq x
def Zbd:AVal->Bool
 | .fn _ _=>false
 | _=>true
def Zbh:AVal->Bool
 | .agg cs=>cs.all Zbd
 | x=>Zbd x
def ZbI:AVal->Bool
 | .tup vs=>vs.all Zbh
 | x=>Zbh x
theorem ZqV {k g n:Nat} {xs:List AVal} {σ:Za} {t:Nat} (hs:σ[t]?=some (.row g k xs)) (hn:n<=xs.length):Zcb 0 (some (.sl t g 0 n,σ))=some (.lst false (xs.take n),[]):=by
 have hv:viewR σ (.sl t g 0 n)=some (.lst false (xs.take n),[t]):=by
  simp only [viewR,Zao,Zae,Zm,hs,XC,hn,and_self,if_true,List.drop_zero]
 have e:Zcb 0 (some (.sl t g 0 n,σ))=(match viewR σ (.sl t g 0 n) with
  | some (r',ts)=>match gcA 0 [r'] (Zr σ ts) with
   | ([r''],σ')=>some (r'',σ')
   | _=>none
  | none=>none):=rfl
 rw [e,hv]
 exact Zia rfl
theorem ZkC {m:Nat} {fn:Zan} {tm:Tms} {σ:Za}:ZaF m fn (some (.ret,tm,σ))=match resA tm σ fn.res with
  | some r=>Zaz m σ r
  | none=>none:=rfl
theorem Zqb {m:Nat} {fn:Zan} {tm:Tms} {σ:Za}:ZaF m fn (some (.normal,tm,σ))=match resA tm σ fn.res with
  | some r=>Zaz m σ r
  | none=>none:=rfl
theorem Zlz {m:Nat} {fn:Zan} {tm:Tms} {σ:Za} {x:AVal}:ZaF m fn (some (.panic x,tm,σ))=Zaz m σ (.pan x):=rfl
theorem ZlJ  : Zaw (.top)=true:=rfl
theorem ZmN  : Zaw (.any)=true:=rfl
theorem ZkD (k:IntKind) (n:Int):Zaw (.int k n)=true:=rfl
theorem Zks (b:Bool):Zaw (.bool b)=true:=rfl
theorem Zma (l:List UInt8):Zaw (.str l)=true:=rfl
theorem Zp4  : Zaw (.nilp)=true:=rfl
theorem ZqJ (t:Nat) (o:Nat):Zaw (.ref t o)=false:=rfl
theorem Zpe (t:Nat) (g:Nat) (i:Nat) (o:Nat):Zaw (.eref t g i o)=false:=rfl
theorem ZjV (cs:List AVal) (o:Nat):Zaw (.iptr cs o)=true:=rfl
theorem ZkZ (x:Bool) (xs:List AVal):Zaw (.lst x xs)=true:=rfl
theorem Zmn (t:Nat) (g:Nat) (lo:Nat) (n:Nat):Zaw (.sl t g lo n)=false:=rfl
theorem ZnL (cs:List AVal):Zaw (.agg cs)=Zw cs:=rfl
theorem Zjd (vs:List AVal):Zaw (.tup vs)=Zw vs:=rfl
theorem ZqG (f:Nat) (caps:List AVal):Zaw (.fn f caps)=Zw caps:=rfl
theorem Znk  : Zaw (.nilm)=true:=rfl
theorem Zsu (t:Nat):Zaw (.map t)=false:=rfl
theorem Zmm  : Zaw (.nili)=true:=rfl
theorem ZkY (t:Nat) (x:AVal):Zaw (.iface t x)=Zaw x:=rfl
theorem ZrX (x:AVal):Zaw (.pan x)=Zaw x:=rfl
theorem Zmw  : Zbd (.top)=true:=rfl
theorem ZlL  : Zbd (.any)=true:=rfl
theorem Zo8 (k:IntKind) (n:Int):Zbd (.int k n)=true:=rfl
theorem ZmF (b:Bool):Zbd (.bool b)=true:=rfl
theorem Zot (l:List UInt8):Zbd (.str l)=true:=rfl
theorem Zp2  : Zbd (.nilp)=true:=rfl
theorem Zlb (t:Nat) (o:Nat):Zbd (.ref t o)=true:=rfl
theorem Zqg (t:Nat) (g:Nat) (i:Nat) (o:Nat):Zbd (.eref t g i o)=true:=rfl
theorem ZiT (cs:List AVal) (o:Nat):Zbd (.iptr cs o)=true:=rfl
theorem Zow (x:Bool) (xs:List AVal):Zbd (.lst x xs)=true:=rfl
theorem ZpQ (t:Nat) (g:Nat) (lo:Nat) (n:Nat):Zbd (.sl t g lo n)=true:=rfl
theorem Zoh (cs:List AVal):Zbd (.agg cs)=true:=rfl
theorem Zn0 (vs:List AVal):Zbd (.tup vs)=true:=rfl
theorem Zno (f:Nat) (caps:List AVal):Zbd (.fn f caps)=false:=rfl
theorem Zn5  : Zbd (.nilm)=true:=rfl
theorem ZlM (t:Nat):Zbd (.map t)=true:=rfl
theorem ZiO  : Zbd (.nili)=true:=rfl
theorem Zm8 (t:Nat) (x:AVal):Zbd (.iface t x)=true:=rfl
theorem Znz (x:AVal):Zbd (.pan x)=true:=rfl
theorem ZlN  : Zbh (.top)=true:=rfl
theorem ZrU  : Zbh (.any)=true:=rfl
theorem ZnN (k:IntKind) (n:Int):Zbh (.int k n)=true:=rfl
theorem Zn7 (b:Bool):Zbh (.bool b)=true:=rfl
theorem Zps (l:List UInt8):Zbh (.str l)=true:=rfl
theorem ZiS  : Zbh (.nilp)=true:=rfl
theorem Zjn (t:Nat) (o:Nat):Zbh (.ref t o)=true:=rfl
theorem ZpJ (t:Nat) (g:Nat) (i:Nat) (o:Nat):Zbh (.eref t g i o)=true:=rfl
theorem Zni (cs:List AVal) (o:Nat):Zbh (.iptr cs o)=true:=rfl
theorem ZpR (x:Bool) (xs:List AVal):Zbh (.lst x xs)=true:=rfl
theorem ZlO (t:Nat) (g:Nat) (lo:Nat) (n:Nat):Zbh (.sl t g lo n)=true:=rfl
theorem ZpB (cs:List AVal):Zbh (.agg cs)=cs.all Zbd:=rfl
theorem Zsg (vs:List AVal):Zbh (.tup vs)=true:=rfl
theorem ZiQ (f:Nat) (caps:List AVal):Zbh (.fn f caps)=false:=rfl
theorem ZpE  : Zbh (.nilm)=true:=rfl
theorem ZnI (t:Nat):Zbh (.map t)=true:=rfl
theorem Zqi  : Zbh (.nili)=true:=rfl
theorem ZkI (t:Nat) (x:AVal):Zbh (.iface t x)=true:=rfl
theorem Zkd (x:AVal):Zbh (.pan x)=true:=rfl
theorem Zng  : ZbI (.top)=true:=rfl
theorem Zl3  : ZbI (.any)=true:=rfl
theorem ZkH (k:IntKind) (n:Int):ZbI (.int k n)=true:=rfl
theorem ZiA (b:Bool):ZbI (.bool b)=true:=rfl
theorem Zkz (l:List UInt8):ZbI (.str l)=true:=rfl
theorem ZpM  : ZbI (.nilp)=true:=rfl
theorem ZoY (t:Nat) (o:Nat):ZbI (.ref t o)=true:=rfl
theorem Zms (t:Nat) (g:Nat) (i:Nat) (o:Nat):ZbI (.eref t g i o)=true:=rfl
theorem ZkL (cs:List AVal) (o:Nat):ZbI (.iptr cs o)=true:=rfl
theorem Zrx (x:Bool) (xs:List AVal):ZbI (.lst x xs)=true:=rfl
theorem Zoe (t:Nat) (g:Nat) (lo:Nat) (n:Nat):ZbI (.sl t g lo n)=true:=rfl
theorem Zjz (cs:List AVal):ZbI (.agg cs)=cs.all Zbd:=rfl
theorem ZqY (vs:List AVal):ZbI (.tup vs)=vs.all Zbh:=rfl
theorem ZqZ (f:Nat) (caps:List AVal):ZbI (.fn f caps)=false:=rfl
theorem Zmt  : ZbI (.nilm)=true:=rfl
theorem Zli (t:Nat):ZbI (.map t)=true:=rfl
theorem Zlp  : ZbI (.nili)=true:=rfl
theorem ZiP (t:Nat) (x:AVal):ZbI (.iface t x)=true:=rfl
theorem Zsp (x:AVal):ZbI (.pan x)=true:=rfl
theorem Zk6  : Zbx (.top)=false:=rfl
theorem Zln  : Zbx (.any)=false:=rfl
theorem ZqR (k:IntKind) (n:Int):Zbx (.int k n)=true:=rfl
theorem Zsc (b:Bool):Zbx (.bool b)=true:=rfl
theorem ZnH (l:List UInt8):Zbx (.str l)=true:=rfl
theorem ZiY  : Zbx (.nilp)=true:=rfl
theorem Zpw (t:Nat) (o:Nat):Zbx (.ref t o)=false:=rfl
theorem ZiX (t:Nat) (g:Nat) (i:Nat) (o:Nat):Zbx (.eref t g i o)=false:=rfl
theorem Zpu (cs:List AVal) (o:Nat):Zbx (.iptr cs o)=false:=rfl
theorem ZrI (x:Bool) (xs:List AVal):Zbx (.lst x xs)=true:=rfl
theorem Zjw (t:Nat) (g:Nat) (lo:Nat) (n:Nat):Zbx (.sl t g lo n)=false:=rfl
theorem ZrP (cs:List AVal):Zbx (.agg cs)=cs.all ZaC:=rfl
theorem Zq6 (vs:List AVal):Zbx (.tup vs)=vs.all Zaq:=rfl
theorem Zn8  : Zbx (.nilm)=true:=rfl
theorem Zsk (t:Nat):Zbx (.map t)=false:=rfl
theorem Zn1  : Zbx (.nili)=true:=rfl
theorem Zsm (t:Nat) (x:AVal):Zbx (.iface t x)=false:=rfl
theorem Zkh (x:AVal):Zbx (.pan x)=false:=rfl
theorem Zjj  : ZbC (.top)=(.top):=rfl
theorem Zn6  : ZbC (.any)=(.any):=rfl
theorem ZmS (k:IntKind) (n:Int):ZbC (.int k n)=(.int k n):=rfl
theorem Zry (b:Bool):ZbC (.bool b)=(.bool b):=rfl
theorem Zol (l:List UInt8):ZbC (.str l)=(.str l):=rfl
theorem Zja  : ZbC (.nilp)=(.nilp):=rfl
theorem ZjT (t:Nat) (o:Nat):ZbC (.ref t o)=(.ref t o):=rfl
theorem Zll (t:Nat) (g:Nat) (i:Nat) (o:Nat):ZbC (.eref t g i o)=(.eref t g i o):=rfl
theorem Zoz (cs:List AVal) (o:Nat):ZbC (.iptr cs o)=(.iptr cs o):=rfl
theorem ZpO (x:Bool) (xs:List AVal):ZbC (.lst x xs)=.lst false xs:=rfl
theorem Zpx (t:Nat) (g:Nat) (lo:Nat) (n:Nat):ZbC (.sl t g lo n)=(.sl t g lo n):=rfl
theorem Zph (cs:List AVal):ZbC (.agg cs)=.agg (cs.map ZaE):=rfl
theorem Zpr (vs:List AVal):ZbC (.tup vs)=.tup (vs.map Zag):=rfl
theorem ZrE (f:Nat) (caps:List AVal):ZbC (.fn f caps)=(.fn f caps):=rfl
theorem Zpm  : ZbC (.nilm)=(.nilm):=rfl
theorem Zki (t:Nat):ZbC (.map t)=(.map t):=rfl
theorem Zj7  : ZbC (.nili)=(.nili):=rfl
theorem ZnZ (t:Nat) (x:AVal):ZbC (.iface t x)=(.iface t x):=rfl
theorem Zp0 (x:AVal):ZbC (.pan x)=(.pan x):=rfl
theorem Zq0:Zw []=true:=rfl
theorem Zqq (x:AVal) (xs:List AVal):Zw (x::xs)=(Zaw x && Zw xs):=rfl
theorem ZiD (f:Nat):Zbx (.fn f [])=true:=rfl
theorem ZjK (p q:Bool):(if p=true then q else false)=(p && q):=by cases p <;> rfl
theorem ZnP (p q:Bool):(if p=true then true else q)=(p || q):=by cases p <;> rfl
theorem Zq5 (p q:Bool):(if p=true then false else q)=(!p && q):=by cases p <;> rfl
theorem Zjs (p q:Bool):(if p=true then q else true)=(!p || q):=by cases p <;> rfl
theorem ZsB (p q:Bool):(if p=false then q else false)=(!p && q):=by cases p <;> rfl
theorem ZrT (p q:Bool):(if p=false then true else q)=(!p || q):=by cases p <;> rfl
theorem ZiK (p q:Bool):(if p=false then false else q)=(p && q):=by cases p <;> rfl
theorem Znr (p q:Bool):(if p=false then q else true)=(p || q):=by cases p <;> rfl
section
def Zde (o:AOp):AOp:=⟨o.dst,o.ins,o.guard,[]⟩
def Zbr:Zq->Zq
 | .region ops chk live=>.region (ops.map Zde) chk live
 | .seq a b=>.seq (Zbr a) (Zbr b)
 | .cond c a b=>.cond c (Zbr a) (Zbr b)
 | .block id c=>.block id (Zbr c)
 | .loop live c=>.loop live (Zbr c)
 | .skip=>.skip
 | .exit id=>.exit id
 | .ret=>.ret
 | .stuck=>.stuck
def ZhW (f:Zan):Zan:=⟨f.res,Zbr f.body⟩
section
variable {O:ZY} {bf:Nat->Bool}
theorem Zyv (o:AOp) (s:Nat) (tm:Tms) (σ:Za):Zv O bf (Zde o) s tm σ=Zv O bf o s tm σ:=rfl
theorem ZvT:∀ (ops:List AOp) (s:Nat) (tm:Tms) (σ:Za),ZX O bf (ops.map Zde) s tm σ=ZX O bf ops s tm σ
 | [],_,_,_=>rfl
 | o::os,s,tm,σ=>by
  simp only [Xs,ZX,Zyv]
  split
  ·rfl
  ·rfl
  ·rename_i tm' σ' c _ _
   rw [show (Zde o).ins=o.ins from rfl,ZvT os]
theorem ZjO (ops:List AOp):sitesOf (ops.map Zde)=sitesOf ops:=by
 simp [sitesOf,Zde,Function.comp_def]
theorem Zg0 (ops:List AOp) (i:Nat):((ops.map Zde).getD i default).ins=(ops.getD i default).ins:=by
 simp only [Xi,XX]
 cases ops[i]? <;> rfl
theorem Zwi (ops:List AOp) (b:Nat) (l:List (Nat×Nat)) (cs:List Cls):ZcF (ops.map Zde) b l cs=ZcF ops b l cs:=by
 unfold ZcF
 congr 1
 funext p
 unfold Zb1 Zbz
 rw [Zg0,Zg0,<-Xa5,ZjO]
theorem ZyG (ops:List AOp) (b:Nat) (l:List (Nat×Nat)) (cs:List Cls):Zbk (ops.map Zde) b l cs=Zbk ops b l cs:=by
 unfold Zbk
 congr 2
 funext p
 unfold Zb1 Zbz
 rw [Zg0,Zg0,<-Xa5,ZjO]
theorem Zxh (ops:List AOp) (chk:Option (List (Nat×Nat))) (live:List Nat) (tm:Tms) (σ:Za):Zbm O bf (ops.map Zde) chk live tm σ=Zbm O bf ops chk live tm σ:=by
 unfold Zbm
 rw [ZvT,ZjO]
 cases ZX O bf ops σ.length tm (σ++XL (sitesOf ops) .free) with
 | none=>rfl
 | some q =>
  obtain ⟨tm',σ',cs,p⟩:=q
  cases p with
  | some x =>
   cases chk with
   | none=>rfl
   | some l=>simp only [Zcc,ZyG]
  | none =>
   cases chk with
   | none=>rfl
   | some l=>simp only [Zcc,Zwi]
theorem Zdt (m n:Nat):∀ (c:Zq),Z3 O bf m n (Zbr c)=Z3 O bf m n c
 | .region ops chk live=>by funext tm σ;simp only [Zbr,Z3,Zxh]
 | .seq a b=>by funext tm σ;simp only [Zbr,Z3,Zdt m n a,Zdt m n b]
 | .cond c a b=>by funext tm σ;simp only [Zbr,Z3,Zdt m n a,Zdt m n b]
 | .block id c=>by funext tm σ;simp only [Zbr,Z3,Zdt m n c]
 | .loop live c=>by funext tm σ;simp only [Zbr,Z3,Zdt m n c]
 | .skip=>rfl
 | .exit id=>rfl
 | .ret=>rfl
 | .stuck=>rfl
end
theorem Zpg (fs:Nat->Option Zan) (prim:Zbu) (bf:Nat->Bool):∀ n,Zad (fun f=>(fs f).map ZhW) prim bf n=Zad fs prim bf n
 | 0=>rfl
 | n+1=>by
  funext f args σ
  simp only [Zad,Zpg fs prim bf n]
  cases prim f with
  | some g=>rfl
  | none =>
   cases fs f with
   | none=>rfl
   | some fn =>
    simp only [XQ,ZhW,Zdt]
    rfl
theorem ZxD (fs:Nat->Option Zan) (prim:Zbu) (bf:Nat->Bool):EV (fun f=>(fs f).map ZhW) prim bf=EV fs prim bf:=by
 funext f args σ
 apply ZdQ
 intro r
 rw [Zcm,Zcm]
 simp only [Zpg]
end
end
section
open Go.RowKit
def Zqa:List AVal->Za->Option (AVal×Za):=fun _ _=>none
theorem Zzx {α:Prop} {args:List AVal} {σ:Za} {r:AVal×Za} (h:Zqa args σ=some r):α:=by cases h
def Zen (k bytes:Nat) (args:List AVal) (σ:Za):Option (AVal×Za):=match args with
 | [.str _]=>none
 | [a]=>match Zm σ a with
  | some (xs,_)=>if xs.length*bytes<=140737488355328/\kOk k xs=true then some (.sl σ.length 0 0 xs.length,σ++[.row 0 k xs]) else none
  | none=>none
 | _=>none
def Zdr:Ann:={ nt:=8,lr:=fun _=>[7,6,5,4,3,2,0] }
structure Zri (P:Program) (t:TypeId) (k bytes:Nat) (z:AVal) (f:FuncId):Prop where
 ex:∃ (F:Func) (e:TypeId) (i0 i1 i2 i3:Nat) (r0 r2 r3:Array Oper) (m b:Oper),
  P.funcs[f]?=some F/\F.results=#[.tmp 2]/\F.ntmps=8/\(F.name == "runtime.NumGoroutine")=false/\P.underlying t=some (.slice e) /\
  F.body=some (.seq (.region i0 r0 false) (.seq (.seq (.region i1 #[m,b] false) (.cond (.tmp 4) (.seq (.region i2 r2 false) .ret) .skip)) (.seq (.region i3 r3 false) .ret))) /\
  m.op=.move (.tmp 0)/\m.dst=some 3/\m.guard=none/\b.op=.binOp .eql t (.tmp 3) (.const (.slice none 0 0)) t/\b.dst=some 4/\b.guard=none /\
  ZbG P Zdr r0 r0.toList=some [⟨some 2,.mov (.c (.lst true [])),none,[]⟩] /\
  ZbG P Zdr r2 r2.toList=some [⟨some 2,.mov (.c (.lst true [])),none,[]⟩] /\
  (∃ a1 a2 a3 a4,ZbG P Zdr r3 r3.toList=some [⟨some 5,.bslice false k 0 z [],none,a1⟩,⟨some 6,.mov (.t 0),none,a2⟩,⟨some 7,.app k bytes z (.t 5) (.t 6),none,a3⟩,⟨some 2,.mov (.t 7),none,a4⟩])/\z.cells.length=k/\0 < k
section
variable {P:Program} {base:Nat->Prop} {w0 w w':World} {I0 I:Imm} {β:Bmap} {σ:Za}
theorem noO:Zaf P (fun _ _ _=>none):=by intro f args σ r σ' h;cases h
theorem ZeK {ops:Array Oper} {Q:Exit->Act->World->Prop} {o:Oper} {l:List Oper} {a:Act} {w:World} (hg:o.guard=none) (h:o.wp P a w (wpList P ops Q l) Q):wpList P ops Q (o::l) a w:=by
 unfold wpList
 have : Region.wanted o (yielded ops a.tmps)=true:=by unfold Region.wanted;rw [hg]
 rw [this]
 simp only [if_true]
 exact Xv h
theorem ZtI {t : TypeId} {k bytes : Nat} {z : AVal} {f : FuncId} (hm : P.follows .mixedOrders = true) (C : Zri P t k bytes z f) {args : List AVal} {σ σ' : Za} {r : AVal} (h : Zen k bytes args σ = some (r, σ')) :
    (∃ fn, P.funcs[f]? = some fn /\ fn.body.isSome = true /\ (fn.name == "runtime.NumGoroutine") = false) /\
    ∀ base w0 I0 I β w (vs : Array Value), KLt base w0 -> Rel base w0 I0 I β σ w -> VRs I β args vs.toList ->
      Calls P f vs w (fun e w' => ∃ u, Ends r e u /\ Zbj σ.length base w0 I0 I β r σ' u w') := by
  obtain ⟨F, e, i0, i1, i2, i3, r0, r2, r3, m, b, hF, hres, hnt, hname, hu, hbody, hm1, hm2, hm3, hb1, hb2, hb3, hc0, hc2, ⟨a1, a2, a3, a4, hc3⟩, hzk, hk0⟩ := C.ex
  refine ⟨⟨F, hF, by rw [hbody]; rfl, hname⟩, ?_⟩
  intro base w0 I0 I β w vs hb R hargs
  unfold Zen at h
  split at h
  case h_1 => cases h
  case h_3 => cases h
  rename_i a hns
  split at h
  case h_2 => cases h
  rename_i xs ts hel0
  split at h
  case isFalse => cases h
  rename_i hc
  obtain ⟨hbytes, hkOk⟩ := hc
  simp only [Xa, Xb] at h
  obtain ⟨rfl, rfl⟩ := h
  have hnt8 : ∀ (n : Nat), n < 8 -> n < Zdr.nt := fun n h => h
  refine calls_of_wp hF hbody ?_
  have hsz : vs.size = 1 := by have := Z9 hargs; simpa using this.symm
  have T := Zpf hargs (F.ntmps - vs.size)
  have hst : StR ZaO 8 base w0 I0 I β (enterA 0 [a] []) σ { tmps := vs ++ Xaq (F.ntmps - vs.size) undef, defers := [] } w := ⟨I, β, Imm.le.refl I, Bmap.le.refl β, T, ⟨Zdn.2 rfl, by simp; omega⟩, R⟩
  have fin : ∀ {tm : Tms} {σ1 : Za} {y : AVal} {a' : Act} {w1 : World}, StR ZaO 8 base w0 I0 I β tm σ1 a' w1 -> tget tm 2 = y -> (∀ I' β' u, I.le I' -> β.le β' -> Rel base w0 I0 I' β' σ1 w1 -> VR I' β' y u -> Zbj σ.length base w0 I0 I β (.sl σ.length 0 0 xs.length) (σ ++ [.row 0 k xs]) u w1) ->
      a'.defers = [] /\ ∃ v, (results F a'.tmps).run P w1 = .ok v w1 /\ ∃ u, Ends (.sl σ.length 0 0 xs.length) (.returned v) u /\ Zbj σ.length base w0 I0 I β (.sl σ.length 0 0 xs.length) (σ ++ [.row 0 k xs]) u w1 := by
    rintro tm σ1 y a' w1 ⟨I', β', h1, h2, h3, h4, h5⟩ hy hpost
    refine ⟨Zdn.1 h4.1, a'.tmps.getD 2 undef, by simp [results, hres], _, rfl, ?_⟩
    have := h3 2
    rw [hy] at this
    exact hpost I' β' _ h1 h2 h5 this
  have R0 : Zaj P Zdr (.region i0 r0 false) = .region [⟨some 2, .mov (.c (.lst true [])), none, []⟩] none [7, 6, 5, 4, 3, 2, 0] := by simp only [Zaj]; rw [hc0]; rfl
  have R2 : Zaj P Zdr (.region i2 r2 false) = .region [⟨some 2, .mov (.c (.lst true [])), none, []⟩] none [7, 6, 5, 4, 3, 2, 0] := by simp only [Zaj]; rw [hc2]; rfl
  have R3 : Zaj P Zdr (.region i3 r3 false) = .region [⟨some 5, .bslice false k 0 z [], none, a1⟩, ⟨some 6, .mov (.t 0), none, a2⟩, ⟨some 7, .app k bytes z (.t 5) (.t 6), none, a3⟩, ⟨some 2, .mov (.t 7), none, a4⟩] none [7, 6, 5, 4, 3, 2, 0] := by simp only [Zaj]; rw [hc3]; rfl
  refine wp_seq ?_
  refine Zg9 (an := Zdr) (dr := ZaO) (bf := fun _ => false) noO (fun n hn => by simp [ZaO] at hn) hm hb R0 hst (e := .normal) (tm' := keepL [7, 6, 5, 4, 3, 2, 0] [(2, .lst true []), (0, a)]) (σ' := σ) ?_ ?_
  . simp [Zbm, Zcc, sitesOf, nsite, ZX, Zv, ZaR, execI, Opd.ev, tput, tins, enterA]
  intro a1' w1 hst1
  simp only [Exit.then]
  refine wp_seq (wp_seq ?_)
  refine wp_region_list ?_
  refine ZeK hm3 ?_
  obtain ⟨I1, β1, g1, g2, g3, g4, g5⟩ := hst1
  have hs8 : 8 <= a1'.tmps.size := g4.2
  have hT0 : VR I1 β1 a (a1'.tmps.getD 0 undef) := by have := g3 0; simpa [keepL, tget] using this
  obtain ⟨A, cap, hv0, q1, q2, q5, q4⟩ := Zjk g5 (fun l e => hns l e) hel0 hT0
  show m.wp P a1' w1 _ _
  unfold Oper.wp
  have e1 : (execOp a1'.eval m).run P w1 = .ok (.value (.slice A xs.length cap)) w1 := by
    unfold execOp; rw [hm1]; simp [Act.eval, hv0]
  rw [e1, Oper.upon_value, hm2]
  refine ZeK hb3 ?_
  unfold Oper.wp
  have hs3 : (a1'.put (some 3) (.slice A xs.length cap)).tmps.getD 3 undef = .slice A xs.length cap := by
    have : 3 < a1'.tmps.size := by omega
    simp [Act.put, Xas, this]
  have e2 : (execOp (a1'.put (some 3) (.slice A xs.length cap)).eval b).run P w1 = .ok (.value (.bool A.isNone)) w1 := by
    have hq : (Op.equal t (.slice A xs.length cap) (.slice none 0 0)).run P w1 = .ok A.isNone w1 := run_equal_slice_nil w1 t e A xs.length cap hu
    unfold execOp; rw [hb1]
    simp only [Act.eval]
    rw [hs3]
    simp [eqGuard, binOp, hq]
  rw [e2, Oper.upon_value, hb2]
  refine wpList_nil ?_
  have hst2 : StR ZaO 8 base w0 I0 I β [(4, .bool A.isNone), (2, .lst true []), (0, a)] σ ((a1'.put (some 3) (.slice A xs.length cap)).put (some 4) (.bool A.isNone)) w1 := by
    refine ⟨I1, β1, g1, g2, fun n => ?_, ⟨Zhp (Zhp g4.1 (fun n _ hm => by simp [ZaO] at hm)) (fun n _ hm => by simp [ZaO] at hm), by rw [ZcS, ZcS]; exact g4.2⟩, g5⟩
    have hs : 4 < (a1'.put (some 3) (.slice A xs.length cap)).tmps.size := by rw [ZcS]; omega
    have ne : ∀ {a : Act} {d j : Nat} {u : Value}, d ≠ j -> (a.put (some d) u).tmps.getD j undef = a.tmps.getD j undef := by
      intro a d j u hne
      simp only [Act.put, WB]; rw [Wb hne]
    simp only [tget]
    split
    . rename_i e; subst e
      rw [show ((a1'.put (some 3) (.slice A xs.length cap)).put (some 4) (.bool A.isNone)).tmps.getD 4 undef = .bool A.isNone by
        simp only [Act.put] at hs ⊢
        simp [Xas] at hs ⊢
        omega]
      simp only [VR]
    . split
      . rename_i e; subst e
        rw [ne (by omega), ne (by omega)]
        have := g3 2; simpa [keepL, tget] using this
      . split
        . rename_i e; subst e
          rw [ne (by omega), ne (by omega)]
          have := g3 0; simpa [keepL, tget] using this
        . simp only [VR]
  simp only [Exit.then]
  cases hA : A.isNone with
  | true =>
    have hx0 : xs = [] := by
      rcases q4 with h | ⟨b, off, k', us, e, _⟩
      . exact h
      . rw [e] at hA; cases hA
    subst hx0
    have hev : ((a1'.put (some 3) (.slice A 0 cap)).put (some 4) (.bool A.isNone)).eval (.tmp 4) = .bool true := by
      obtain ⟨_, _, _, _, T, _, _⟩ := hst2
      have := T 4
      simp only [tget, if_true, VR] at this
      rw [hA] at this
      simpa [Act.eval, hA] using this
    refine wp_cond_true (by simpa [hA] using hev) ?_
    refine wp_seq ?_
    rw [hA] at hst2
    refine Zg9 (an := Zdr) (dr := ZaO) (bf := fun _ => false) noO (fun n hn => by simp [ZaO] at hn) hm hb R2 hst2 (e := .normal) (tm' := keepL [7, 6, 5, 4, 3, 2, 0] [(4, .bool true), (2, .lst true []), (0, a)]) (σ' := σ) ?_ ?_
    . simp [Zbm, Zcc, sitesOf, nsite, ZX, Zv, ZaR, execI, Opd.ev, tput, tins]
    intro a3' w3 hst3
    simp only [Exit.then]
    refine wp_ret ?_
    refine fin hst3 (y := .lst true []) (by simp [keepL, tget]) ?_
    intro I' β' u h1 h2 h3 h4
    simp only [VR] at h4
    obtain ⟨A', cap', rfl, _, _, hx, _⟩ := h4
    have hcap : cap' = 0 := by simpa using hx
    subst hcap
    have R4 := h3.reserve 1
    have hfree : (σ ++ XL 1 ZU.free)[σ.length]? = some .free := by simp
    obtain ⟨R5, hle⟩ := R4.newNone hfree k hk0
    refine ⟨I', _, h1, KeptE.of_le (h2.trans hle), ?_, ?_⟩
    . have : (σ ++ XL 1 ZU.free).set σ.length (.row 0 k []) = σ ++ [.row 0 k []] := by simp
      rw [this] at R5; exact R5
    . simp only [Zam]
      rw [ZbA]
      exact ⟨_, Bmap.put_same β' σ.length 0 _, by simp, by simp, XD ⟨rfl, rfl, A', rfl⟩⟩
  | false =>
    have hev : ((a1'.put (some 3) (.slice A xs.length cap)).put (some 4) (.bool A.isNone)).eval (.tmp 4) = .bool false := by
      obtain ⟨_, _, _, _, T, _, _⟩ := hst2
      have := T 4
      simp only [tget, if_true, VR] at this
      rw [hA] at this
      simpa [Act.eval, hA] using this
    refine wp_cond_false (by simpa [hA] using hev) ?_
    refine wp_skip ?_
    rw [hA] at hst2
    simp only [Exit.then]
    refine wp_seq ?_
    have hel : Zm (σ ++ [ZU.free]) a = some (xs, ts) := Zfa hel0 (fun t ht => by
      obtain ⟨g, k, ys, h | h⟩ := Ziq hel0 t ht <;> (rw [Wv (Xd.1 h).1]))
    refine Zg9 (an := Zdr) (dr := ZaO) (bf := fun _ => false) noO (fun n hn => by simp [ZaO] at hn) hm hb R3 hst2 (e := .normal) (tm' := keepL [7, 6, 5, 4, 3, 2, 0] [(7, .sl σ.length 0 0 xs.length), (6, a), (5, .lst true []), (4, .bool false), (2, .sl σ.length 0 0 xs.length), (0, a)]) (σ' := σ ++ [.row 0 k xs]) ?_ ?_
    . have hfa : freeAt (σ ++ [ZU.free]) σ.length = true := by simp [freeAt]
      have hnp : (∃ x ys, a = .lst x ys) \/ ∃ t g lo n, a = .sl t g lo n := by
        cases a with
        | lst x ys => exact Xv ⟨x, ys, rfl⟩
        | sl t g lo n => exact XD ⟨t, g, lo, n, rfl⟩
        | str l => exact absurd rfl (hns l)
        | _ => simp [Zm] at hel0
      rcases hnp with ⟨x, ys, rfl⟩ | ⟨t', g', lo, n, rfl⟩
      . simp [Zbm, Zcc, sitesOf, nsite, ZX, Zv, ZaR, execI, Opd.ev, tput, tins, tget, viewAs, Zr, hzk, Zac, hel, hkOk, hbytes, hfa]
      . simp [Zbm, Zcc, sitesOf, nsite, ZX, Zv, ZaR, execI, Opd.ev, tput, tins, tget, viewAs, Zr, hzk, Zac, hel, hkOk, hbytes, hfa]
    intro a3' w3 hst3
    simp only [Exit.then]
    refine wp_ret ?_
    refine fin hst3 (y := .sl σ.length 0 0 xs.length) (by simp [keepL, tget]) ?_
    intro I' β' u h1 h2 h3 h4
    exact ⟨I', β', h1, KeptE.of_le h2, h3, h4⟩
end
end
section
open Go.RowKit
structure ZBl (P:Program) (f h:FuncId) (ti tc:TypeId) (an1 an2 an3:Ann) (c1 c2 c3:Zq) (rs:List Zcf):Prop where
 ex:∃ (F H:Func) (b1 b2 b3 b4:Code) (i0 j0 j1 j2 j3 bid:Nat) (t1 t2 t3 t4 t5 t6 t7 t8:TypeId) (p1 p2 p3 p4 p5 p6 p7 p8:String) (a1 a2 a3 a4 a5 a6 a7 a8:Array Edge) (at1 at2:Array TypeId) (ims:Array (String×TypeId)) (k:IntKind),
  P.funcs[f]?=some F/\(F.name == "runtime.NumGoroutine")=false/\F.ntmps=20/\Zdw P F.results.toList=some rs /\
  F.body=some (.seq b1 (.seq (.region i0 #[⟨some 5,.makeFunc (.func h) #[] #[.tmp 2,.tmp 3],t1,p1,a1,none⟩,⟨none,.defer ⟨.value (.tmp 5),#[],at1⟩,t2,p2,a2,none⟩] false) b2)) /\
  Zbr (Zaj P an1 b1)=c1/\Zbr (Zaj P an2 b2)=c2/\an1.nt=20/\an2.nt=20/\an2.keep=[2,3] /\
  P.funcs[h]?=some H/\(H.name == "runtime.NumGoroutine")=false/\H.ntmps=13/\H.results=#[] /\
  H.body=some (.seq (.region j0 #[⟨some 5,.call ⟨.builtin .recover,#[],at2⟩,t3,p3,a3,none⟩] false) (.block bid (.seq (.region j1 #[⟨some 7,.binOp .eql ti (.tmp 5) (.const .nilIface) ti,t4,p4,a4,none⟩] false)
   (.cond (.tmp 7) (.region j2 #[⟨some 2,.assign (.tmp 5),t5,p5,a5,none⟩] false)
    (.seq (.region j3 #[⟨some 8,.typeAssert (.tmp 5) ti tc true,t6,p6,a6,none⟩,⟨some 9,.extract (.tmp 8) 1,t7,p7,a7,none⟩,⟨some 10,.extract (.tmp 8) 0,t8,p8,a8,none⟩] false)
     (.cond (.tmp 9) b3 b4)))))) /\
  Zbr (Zaj P an3 b3)=c3/\an3.nt=13/\P.underlying ti=some (.interface ims)/\P.underlying tc=some (.int k)
section
variable {P:Program} {O:ZY} {bf:Nat->Bool} {base:Nat->Prop} {w0 w:World} {I0 I:Imm} {β:Bmap} {σ:Za}
theorem pgs {a:Act} {d:Nat} {u:Value} (h:d < a.tmps.size):(a.put (some d) u).tmps.getD d undef=u:=by
 simp [Act.put,Xas,h]
theorem Ziz {m:Sem Value} {u:Value} (h:m.run P w=.ok u w):(do let q <-m;pure (Next.value q):Sem Next).run P w=.ok (.value u) w:=by
 rw [Sem.run_bind,h];rfl
theorem pgn {a:Act} {d j:Nat} {u:Value} (h:d≠j):(a.put (some d) u).tmps.getD j undef=a.tmps.getD j undef:=by
 simp only [Act.put,WB]
 rw [Wb h]
end
section
variable {P:Program} {fs:Nat->Option Zan} {prim:Zbu} {bf:Nat->Bool}
end
section
variable {fs:Nat->Option Zan} {p p':Zbu} {bf:Nat->Bool}
theorem ZvN (h0:∀ f,p f=none->p' f=none) (h1:∀ f g,p f=some g->p' f=some g\/∀ a σ,g a σ=none):∀ n,OLe (Zad fs p bf n) (Zad fs p' bf n)
 | 0=>by intro f a σ r h;simp only [Zad] at h;cases h
 | n+1=>by
  intro f a σ r h
  rw [Zad] at h ⊢
  split at h
  ·rename_i g hg
   rcases h1 f g hg with h2 | h2
   ·rw [h2];exact h
   ·rw [h2] at h;cases h
  ·rename_i hg
   rw [h0 f hg]
   split at h
   ·cases h
   ·rename_i fn hfn
    exact Zij (fun q hq=>ZcU (ZvN h0 h1 n) (XN n) hq) h
theorem ZzU (h0:∀ f,p f=none->p' f=none) (h1:∀ f g,p f=some g->p' f=some g\/∀ a σ,g a σ=none):OLe (EV fs p bf) (EV fs p' bf):=by
 intro f a σ r h
 obtain ⟨n,hn⟩:=Zcm.1 h
 exact Zcm.2 ⟨n,ZvN h0 h1 n f a σ r hn⟩
end
end
section
open Go.RowKit
theorem Zti:∀ (js L:List Nat),js.Nodup->(∀ j ∈ js,j ∈ L)->L.Nodup->∃ rest,L.Perm (js++rest)
 | [],L,_,_,_=>⟨L,List.Perm.refl _⟩
 | j::js,L,hn,hs,hL=>by
  have hj:j ∈ L:=hs j (by simp)
  have hp:L.Perm (j::L.erase j):=List.perm_cons_erase hj
  obtain ⟨rest,hr⟩:=Zti js (L.erase j) (Wh.1 hn).2 (fun k hk=>by
   have hne:k≠j:=by rintro rfl;exact (Wh.1 hn).1 hk
   exact (List.mem_erase_of_ne hne).2 (hs k (by simp [hk]))) (hL.erase j)
  exact ⟨rest,hp.trans (by simpa using List.Perm.cons j hr)⟩
theorem ZzM {α:Type} (es:List α) (d:α):(WH es.length).map (es.getD · d)=es:=by
 apply List.ext_getElem?
 intro i
 rw [XX]
 by_cases h:i < es.length
 ·rw [List.getElem?_range h];simp [Xi,h]
 ·rw [XT (by simpa using h),XT (by omega)];rfl
def Zej (bf:Nat->Bool) (asl:List AOp) (tm:Tms) (σ:Za):Option (Tms×Za):=match ZX (fun _ _ _=>none) bf asl σ.length tm σ with
 | some (tm',σ',_,none)=>some (tm',σ')
 | _=>none
def ZdO (m:Nat):AVal->Bool
 | .int _ _ | .bool _ | .str _ | .nilp | .nilm | .nili | .lst _ _=>true
 | .sl t g _ _=>decide (g=0) && decide (t < m)
 | .ref t _=>decide (t < m)
 | .map t=>decide (t < m)
 | _=>false
def Zh2 (m:Nat):AVal->Bool
 | .agg cs=>cs.all (ZdO m)
 | x=>ZdO m x
@[simp] def Zds:Za->Za->Bool
 | _,[]=>true
 | [],b::r=>!Zdm b && Zds [] r
 | a::s,b::r=>(!Zdm b || Zdm a) && Zds s r
theorem ZoU:∀ {σ σ':Za} {u:Nat} {b:ZU},Zds σ σ'=true->σ'[u]?=some b->Zdm b=true->∃ a,σ[u]?=some a/\Zdm a=true
 | _,[],u,b,_,h,_=>by simp at h
 | [],x::r,u,b,h,hu,hb=>by
  simp only [Zds,Xl,Ww] at h
  cases u with
  | zero =>
   simp only [XE,Xa] at hu
   subst hu
   rw [h.1] at hb;cases hb
  | succ u =>
   obtain ⟨a,h1,_⟩:=ZoU h.2 (by simpa using hu) hb
   simp at h1
 | a::s,x::r,u,b,h,hu,hb=>by
  simp only [Zds,Xl,Wu,Ww] at h
  cases u with
  | zero =>
   simp only [XE,Xa] at hu
   subst hu
   rcases h.1 with h1 | h1
   ·rw [h1] at hb;cases hb
   ·exact ⟨a,rfl,h1⟩
  | succ u =>
   obtain ⟨a',h1,h2⟩:=ZoU h.2 (by simpa using hu) hb
   exact ⟨a',by simpa using h1,h2⟩
section
variable (fs:Nat->Option Zan) (prim:Zbu) (bf:Nat->Bool) (m:Nat) (live:List Nat) (ms en b1:Nat) (aslE:List AOp) (c2 c3:Zq) (rs:List Zcf)
open Classical in
noncomputable def Zd3 (es : List (AVal × AVal)) (kv : AVal × AVal) (tm : Tms) (σ : Za) : Option (Tms × Za) :=
  match tget (gcT m (keepL live tm) σ).1 ms with
  | .map t => if (gcT m (keepL live tm) σ).2[t]? = some (.map es) /\ (∀ p ∈ es, Zh2 (gcT m (keepL live tm) σ).2.length p.2 = true) then
      match Zej bf aslE (tput (gcT m (keepL live tm) σ).1 (some en) (.tup [kv.1, kv.2])) ((gcT m (keepL live tm) σ).2.set t (.rmap es)) with
      | some (tm1, σ1) => match evC fs prim bf (gcT m (keepL live tm) σ).2.length c2 tm1 σ1 with
        | some (.normal, tm2, σ2) => if σ2[t]? = some (.rmap es) /\ Zds ((gcT m (keepL live tm) σ).2.set t (.rmap es)) σ2 = true then some (tput tm2 (some ms) (.map t), σ2.set t (.map es)) else none
        | some (.exit i, tm2, σ2) => if i = b1 /\ σ2[t]? = some (.rmap es) /\ Zds ((gcT m (keepL live tm) σ).2.set t (.rmap es)) σ2 = true then some (tput tm2 (some ms) (.map t), σ2.set t (.map es)) else none
        | _ => none
      | none => none
    else none
  | _ => none
noncomputable def Zci (es:List (AVal×AVal)):List (AVal×AVal)->Tms->Za->Option (Tms×Za)
 | [],tm,σ=>some (tm,σ)
 | kv::r,tm,σ=>match Zd3 fs prim bf m live ms en b1 aslE c2 es kv tm σ with
  | some (tm',σ')=>Zci es r tm' σ'
  | none=>none
noncomputable def Zem (tm:Tms) (σ:Za):Option (AVal×Za) :=
 ZaF m ⟨rs,c3⟩ (evC fs prim bf m c3 (gcT m (keepL live tm) σ).1 (gcT m (keepL live tm) σ).2)
noncomputable def ZeS (es es':List (AVal×AVal)) (tm:Tms) (σ:Za):Option (AVal×Za) :=
 match Zci fs prim bf m live ms en b1 aslE c2 es es' tm σ with
 | some (tm',σ')=>Zem fs prim bf m live c3 rs tm' σ'
 | none=>none
open Classical in
noncomputable def Zgy (es:List (AVal×AVal)) (tm:Tms) (σ:Za):Option (AVal×Za) :=
 if h:∃ out,∀ es':List (AVal×AVal),es'.Perm es->ZeS fs prim bf m live ms en b1 aslE c2 c3 rs es es' tm σ=some out then some h.choose else none
end
def ZfR (σ:Za) (t:Nat):Option (List (AVal×AVal)×Za):=match σ[t]? with
 | some (.map es)=>some (es,σ)
 | some (.gmap _ es)=>match ZdN es with
  | some l=>some (l,σ.set t (.map l))
  | none=>none
 | _=>none
noncomputable def Zj0 (fs:Nat->Option Zan) (prim:Zbu) (bf:Nat->Bool) (live:List Nat) (ms en b1:Nat) (asl1 aslE:List AOp) (c1 c2 c3:Zq) (rs:List Zcf) (args:List AVal) (σ:Za):Option (AVal×Za) :=
 match evC fs prim bf σ.length c1 (enterA 0 args []) σ with
 | some (.normal,tm1,σ1)=>match Zej bf asl1 tm1 σ1 with
  | some (tm2,σ2)=>match tget tm2 ms with
   | .map t=>match ZfR σ2 t with
    | some (es,σ3)=>Zgy fs prim bf σ.length live ms en b1 aslE c2 c3 rs es tm2 σ3
    | none=>none
   | _=>none
  | none=>none
 | _=>none
def Zex:List Code->Code->Code
 | [],x=>x
 | c::l,x=>.seq c (Zex l x)
def ZfV:Nat->Code->Option (List Code×Code)
 | 0,c=>some ([],c)
 | n+1,.seq a b=>match ZfV n b with
  | some (l,x)=>some (a::l,x)
  | none=>none
 | _,_=>none
theorem ZuV:∀ {n:Nat} {c x:Code} {l:List Code},ZfV n c=some (l,x)->c=Zex l x
 | 0,c,x,l,h=>by simp only [ZfV,Xa,Xb] at h;obtain ⟨rfl,rfl⟩:=h;rfl
 | n+1,c,x,l,h=>by
  cases c with
  | seq a b =>
   simp only [ZfV] at h
   split at h
   ·rename_i l' x' h'
    simp only [Xa,Xb] at h
    obtain ⟨rfl,rfl⟩:=h
    rw [ZuV h',Zex]
   ·cases h
  | _=>simp [ZfV] at h
structure ZuM (P:Program) (f:FuncId) (an1 an3:Ann) (nt n0 n1 ms it nx ok en bid b1:Nat) (live:List Nat) (asl1 aslE:List AOp) (c1 c2 c3:Zq) (rs:List Zcf):Prop where
 ex:∃ (F:Func) (B:Code) (pre:List Code) (ops1 ops3 ops4:Array Oper) (i2 i3 i4:Nat) (body rest:Code) (t kt et:TypeId) (rg nxo exo eno:Oper) (lE:List Oper),
  P.funcs[f]?=some F/\(F.name == "runtime.NumGoroutine")=false/\F.ntmps=nt/\Zdw P F.results.toList=some rs/\F.body=some B /\
  ZfV n0 B=some (pre,.seq (.seq (.region i2 ops1 false) (.block bid (.loop (.seq (.region i3 ops3 false) (.seq (.cond (.tmp ok) .skip (.exit bid)) (.block b1 (.seq (.region i4 ops4 false) body))))))) rest) /\
  ops1.toList.drop n1=[rg]/\ops3.toList=[nxo,exo]/\ops4.toList=eno::lE /\
  rg.op=.range t (.tmp ms)/\rg.dst=some it/\rg.guard=none/\P.underlying t=some (.map kt et) /\
  nxo.op=.next (.tmp it) false/\nxo.dst=some nx/\nxo.guard=none/\exo.op=.extract (.tmp nx) 0/\exo.dst=some ok/\exo.guard=none /\
  eno.op=.entry (.tmp it)/\eno.dst=some en/\eno.guard=none /\
  Zbr (Zaj P an1 (Zex pre .skip))=c1/\ZbG P an1 ops1 (ops1.toList.take n1)=some asl1/\ZbG P an3 ops4 lE=some aslE/\Zbr (Zaj P an3 body)=c2/\Zbr (Zaj P an1 rest)=c3 /\
  an1.nt=nt/\an3.nt=nt/\an3.keep=[it,ms] /\
  (decide (it < nt) && decide (nx < nt) && decide (ok < nt) && decide (en < nt) && decide (it≠ms) && decide (nx≠ms) && decide (ok≠ms) && decide (en≠ms) && decide (nx≠it) && decide (ok≠it) && decide (en≠it) && decide (nx≠ok) && live.all fun n=>decide (n≠it) && decide (n≠nx) && decide (n≠ok) && decide (n≠en))=true
section
variable {P:Program} {O:ZY} {bf:Nat->Bool} {an:Ann} {base:Nat->Prop} {w0 w w':World} {I0 I I':Imm} {β β':Bmap} {σ σ':Za} {dr:Door}
theorem ZjE (hO:Zaf P O) (hkp:∀ n ∈ dr.K,n ∈ an.keep) (hb:KLt base w0) {ops:Array Oper} {Q:Exit->Act->World->Prop} {r:List Oper}:∀ {l:List Oper} {asl:List AOp} {sq:Nat} {I:Imm} {β:Bmap} {tm tm':Tms} {σ σ':Za} {cs:List Cls} {a:Act} {w:World},ZbG P an ops l=some asl->TR I β tm a.tmps->(dr.ok a/\an.nt<=a.tmps.size)->Rel base w0 I0 I β σ w ->
  ZX O bf asl sq tm σ=some (tm',σ',cs,none)->(∀ a' w',StR dr an.nt base w0 I0 I β tm' σ' a' w'->wpList P ops Q r a' w')->wpList P ops Q (l++r) a w
 | [],asl,sq,I,β,tm,tm',σ,σ',cs,a,w,hc,T,hd,R,h,hQ=>by
  simp only [ZbG,Xa] at hc;subst hc
  simp only [ZX,Xa,Xb] at h
  obtain ⟨rfl,rfl,rfl,_⟩:=h
  exact hQ _ _ ⟨I,β,Imm.le.refl I,Bmap.le.refl β,T,hd,R⟩
 | o::l,asl,sq,I,β,tm,tm',σ,σ',cs,a,w,hc,T,hd,R,h,hQ=>by
  simp only [ZbG] at hc
  split at hc
  ·rename_i ao hao
   split at hc
   ·rename_i as' has'
    injection hc with hc;subst hc
    simp only [ZX] at h
    split at h
    ·cases h
    ·simp only [Xa,Xb] at h
     obtain ⟨_,_,_,h⟩:=h
     cases h
    ·rename_i v tm1 σ1 c1 hnp h1
     split at h
     ·cases h
     rename_i tm2 σ2 cs2 p2 h2
     simp only [Xa,Xb] at h
     obtain ⟨rfl,rfl,rfl,rfl⟩:=h
     have:=ZfX (dr:=dr) (K:=wpList P ops Q (l++r)) (Q:=Q) hO hkp hao T hd R hb h1 (fun _ a' w' hs=>by
      obtain ⟨I',β',g1,g2,g3,g4,g5⟩:=hs
      exact ZjE hO hkp hb has' g3 g4 g5 h2 (fun a'' w'' hs'=>hQ a'' w'' (hs'.trans g1 g2))) (fun x e=>absurd e (fun e=>hnp x e))
     rw [Wp]
     unfold wpList
     exact this
   ·cases hc
  ·cases hc
theorem ZtC {asl:List AOp} {tm tm':Tms} (h:Zej bf asl tm σ=some (tm',σ')):∃ cs,ZX (fun _ _ _=>none) bf asl σ.length tm σ=some (tm',σ',cs,none):=by
 unfold Zej at h
 split at h
 ·rename_i tm1 σ1 cs h1
  simp only [Xa,Xb] at h
  obtain ⟨rfl,rfl⟩:=h
  exact ⟨cs,h1⟩
 ·cases h
theorem ZsN {Q:Exit->Act->World->Prop} (hO:Zaf P O) (hm:P.follows .mixedOrders=true) (hb:KLt base w0) (m n:Nat) (X:Code):∀ (pre:List Code) {I:Imm} {β:Bmap} {tm tm':Tms} {σ σ':Za} {a:Act} {w:World},StF ZaO m an.nt base w0 I0 I β tm σ a w->Z3 O bf m n (Zaj P an (Zex pre .skip)) tm σ=some (.normal,tm',σ') ->
  (∀ a' w',StF ZaO m an.nt base w0 I0 I β tm' σ' a' w'->X.wp P Q a' w')->(Zex pre X).wp P Q a w
 | [],I,β,tm,tm',σ,σ',a,w,hst,h,hQ=>by
  simp only [Zex,Zaj,Z3,Xa,Xb] at h
  obtain ⟨_,rfl,rfl⟩:=h
  exact hQ a w hst
 | c::l,I,β,tm,tm',σ,σ',a,w,hst,h,hQ=>by
  simp only [Zex,Zaj,Z3] at h
  split at h
  ·rename_i tm1 σ1 h1
   refine wp_seq ?_
   refine Zih (dr:=ZaO) (an:=an) hO (fun n hn=>by simp [ZaO] at hn) hm hb m n rfl hst h1 ?_
   intro a' w' hs
   exact ZsN hO hm hb m n X l hs h hQ
  ·rename_i hne
   exact absurd h (hne _ _)
theorem Zy8 {m:Nat} {x:AVal} {v:Value} (hx:ZdO m x=true) (hk:KeptE m β β') (h:VR I β x v):VR I' β' x v\/(∃ a xs,x=.lst a xs):=by
 cases x with
 | int | bool | str | nilp | nilm | nili=>exact Xv h
 | lst a xs=>exact XD ⟨a,xs,rfl⟩
 | sl t g lo n =>
  simp only [ZdO,Xl,decide_eq_true_eq] at hx
  obtain ⟨rfl,ht⟩:=hx
  simp only [VR] at h ⊢
  obtain ⟨bi,e,h⟩:=h
  exact Xv ⟨bi,hk t ht bi e,h⟩
 | ref t o =>
  simp only [ZdO,decide_eq_true_eq] at hx
  simp only [VR] at h ⊢
  obtain ⟨b,k,c,e,h⟩:=h
  exact Xv ⟨b,k,c,hk t hx _ e,h⟩
 | map t =>
  simp only [ZdO,decide_eq_true_eq] at hx
  simp only [VR] at h ⊢
  obtain ⟨b,k,c,e,h⟩:=h
  exact Xv ⟨b,k,c,hk t hx _ e,h⟩
 | _=>simp [ZdO] at hx
theorem ZzW {a:Bool} {xs:List AVal} {v:Value} (hI:I.le I') (h:VR I β (.lst a xs) v):VR I' β' (.lst a xs) v:=by
 have ht:Zal (.lst a xs)=true:=by
  simp only [VR] at h
  obtain ⟨A,cap,_,_,_,_,_,ht⟩:=h
  simpa [Zal] using ht
 exact (VR.of_tree (β':=β') ht h).mono hI (Bmap.le.refl _) _ _
theorem Ztt {m:Nat} {x:AVal} {v:Value} (hx:ZdO m x=true) (hI:I.le I') (hk:KeptE m β β') (h:VR I β x v):VR I' β' x v:=by
 rcases Zy8 (I':=I') hx hk h with h | ⟨a,xs,rfl⟩
 ·exact h
 ·exact ZzW hI h
theorem ZtH {m:Nat} (hI:I.le I') (hk:KeptE m β β'):∀ {cs:List AVal} {vs:List Value},cs.all (ZdO m)=true->VRs I β cs vs->VRs I' β' cs vs
 | [],vs,_,h=>h
 | x::cs,vs,hx,h=>by
  rw [Xt,Xl] at hx
  simp only [VRs] at h ⊢
  obtain ⟨v,vs',rfl,h1,h2⟩:=h
  exact ⟨v,vs',rfl,Ztt hx.1 hI hk h1,ZtH hI hk hx.2 h2⟩
theorem Zxw {m:Nat} {x:AVal} {v:Value} (hx:Zh2 m x=true) (hI:I.le I') (hk:KeptE m β β') (h:VR I β x v):VR I' β' x v:=by
 cases x with
 | agg cs =>
  simp only [VR] at h ⊢
  obtain ⟨us,rfl,h⟩:=h
  exact ⟨us,rfl,ZtH hI hk hx h⟩
 | _=>exact Ztt hx hI hk h
theorem ZuU {m:Nat} (hI:I.le I') (hk:KeptE m β β'):∀ {cs:List AVal} {vs:List Value},(∀ x ∈ cs,Zh2 m x=true)->VRs I β cs vs->VRs I' β' cs vs
 | [],vs,_,h=>h
 | x::cs,vs,hx,h=>by
  simp only [VRs] at h ⊢
  obtain ⟨v,vs',rfl,h1,h2⟩:=h
  exact ⟨v,vs',rfl,Zxw (hx x (by simp)) hI hk h1,ZuU hI hk (fun y hy=>hx y (by simp [hy])) h2⟩
theorem ZtV:∀ {cs:List AVal} {vs:List Value},(∀ x ∈ cs,Zbn x=true)->VRs I β cs vs->VRs I' β' cs vs
 | [],vs,_,h=>h
 | x::cs,vs,hx,h=>by
  simp only [VRs] at h ⊢
  obtain ⟨v,vs',rfl,h1,h2⟩:=h
  refine ⟨v,vs',rfl,?_,ZtV (fun y hy=>hx y (by simp [hy])) h2⟩
  have:=hx x (by simp)
  cases x <;> simp [Zbn] at this <;> exact h1
end
end
section
open Go.RowKit
open Go.ChangeMaps (setBlock)
section
variable {P:Program} {base base':Nat->Prop} {w0 w w' w1 w2:World} {I0 I I' I1 I2:Imm} {β β' β1 β2:Bmap} {σ σ' σ1 σ2:Za}
theorem Rel.rebase (R:Rel base w0 I0 I β σ w) {r:Nat} (hr:∀ t x,σ[t]?=some x->¬Zd w β t x r):Rel (fun k=>base k\/k=r) w I I β σ w where
 below:=KB.refl _ _
 old:=fun _ _ _=>rfl
 imm:=R.imm
 blk:=R.blk
 own:=fun t x b hx hb=>⟨fun h=>by
  rcases h with h | rfl
  ·exact (R.own t x b hx hb).1 h
  ·exact hr t x hx hb,(R.own t x b hx hb).2⟩
 apart:=R.apart
 fresh:=R.fresh
 free:=R.free
 gen:=R.gen
 glob:=R.glob
 ro:=fun t x b h hs=>Xv (R.ro t x b h hs)
theorem Rel.unbase (R1:Rel base w0 I0 I1 β1 σ1 w1) (R2:Rel base' w1 I1 I2 β2 σ2 w2) (hs:∀ k,base k->base' k) (hro:∀ t x b,σ2[t]?=some x->Zbi β2 t x b->base b):Rel base w0 I0 I2 β2 σ2 w2 where
 below:=R1.below.trans (R2.below.mono hs)
 old:=fun b o h=>(R2.old b o (hs b h)).trans (R1.old b o h)
 imm:=R2.imm
 blk:=R2.blk
 own:=fun t x b hx hb=>⟨fun h=>(R2.own t x b hx hb).1 (hs b h),(R2.own t x b hx hb).2⟩
 apart:=R2.apart
 fresh:=R2.fresh
 free:=R2.free
 gen:=R2.gen
 glob:=R2.glob
 ro:=hro
theorem Rel.hide (R:Rel base w0 I0 I β σ w) {t b r:Nat} {es:List (AVal×AVal)} (ht:σ[t]?=some (.map es)) (hb:Zd w β t (.map es) b) (hr:∀ t x,σ[t]?=some x->¬Zd w β t x r):Rel (fun k=>base k\/k=b\/k=r) w I I β (σ.set t (.rmap es)) w where
 below:=KB.refl _ _
 old:=fun _ _ _=>rfl
 imm:=R.imm
 blk:=fun u x hx=>by
  rw [Xj] at hx
  split at hx
  ·rename_i e;subst e
   split at hx
   ·injection hx with hx;subst hx
    have hB:=R.blk t (.map es) ht
    exact hB
   ·cases hx
  ·exact R.blk u x hx
 own:=fun u x b' hx ho=>by
  rw [Xj] at hx
  split at hx
  ·split at hx
   ·injection hx with hx;subst hx;cases ho
   ·cases hx
  ·rename_i hne
   have:=R.own u x b' hx ho
   refine ⟨fun h=>?_,this.2⟩
   rcases h with h | rfl | rfl
   ·exact this.1 h
   ·exact hne (R.apart u x t _ _ hx ht ho hb).symm
   ·exact hr u x hx ho
 apart:=fun u x u' x' b' hx hx' ho ho'=>by
  rw [Xj] at hx hx'
  split at hx
  ·split at hx
   ·injection hx with hx;subst hx;cases ho
   ·cases hx
  ·split at hx'
   ·split at hx'
    ·injection hx' with hx';subst hx';cases ho'
    ·cases hx'
   ·exact R.apart u x u' x' b' hx hx' ho ho'
 fresh:=fun u g hu=>R.fresh u g (by simpa using hu)
 free:=fun u g hu=>by
  rw [Xj] at hu
  split at hu
  ·split at hu
   ·injection hu with hu;cases hu
   ·cases hu
  ·exact R.free u g hu
 gen:=fun u x g hx hg=>by
  rw [Xj] at hx
  split at hx
  ·rename_i e;subst e
   split at hx
   ·injection hx with hx;subst hx
    exact R.gen t _ g ht (by simpa [Zb] using hg)
   ·cases hx
  ·exact R.gen u x g hx hg
 glob:=R.glob
 ro:=fun u x b' hx hs=>by
  rw [Xj] at hx
  split at hx
  ·rename_i e;subst e
   split at hx
   ·injection hx with hx;subst hx
    exact XD (Xv (Xar (hb.symm.trans hs)).symm)
   ·cases hx
  ·exact Xv (R.ro u x b' hx hs)
theorem Rel.unhide (R1:Rel base w0 I0 I1 β1 σ1 w1) {t b r:Nat} (R2:Rel (fun k=>base k\/k=b\/k=r) w1 I1 I2 β2 σ2 w2) {es:List (AVal×AVal)} (ht:σ2[t]?=some (.rmap es)) (hb:Zd w β2 t (.map es) b) (hB:BR I2 β2 w2 t (.map es)) (hbase:¬base b) (hI:∀ o,I2 b o=none) (hro:∀ u x b,u≠t->σ2[u]?=some x->Zbi β2 u x b->base b):Rel base w0 I0 I2 β2 (σ2.set t (.map es)) w2 where
 below:=R1.below.trans (R2.below.mono fun _ h=>Xv h)
 old:=fun k o h=>(R2.old k o (Xv h)).trans (R1.old k o h)
 imm:=R2.imm
 blk:=fun u x hx=>by
  rw [Xj] at hx
  split at hx
  ·rename_i e;subst e
   split at hx
   ·injection hx with hx;subst hx;exact hB
   ·cases hx
  ·exact R2.blk u x hx
 own:=fun u x b' hx ho=>by
  rw [Xj] at hx
  split at hx
  ·rename_i e;subst e
   split at hx
   ·injection hx with hx;subst hx
    obtain rfl:b=b':=Xar (hb.symm.trans ho)
    exact ⟨hbase,hI⟩
   ·cases hx
  ·have:=R2.own u x b' hx ho
   exact ⟨fun h=>this.1 (Xv h),this.2⟩
 apart:=fun u x u' x' b' hx hx' ho ho'=>by
  rw [Xj] at hx hx'
  split at hx
  ·rename_i e;subst e
   split at hx
   ·injection hx with hx;subst hx
    obtain rfl:b=b':=Xar (hb.symm.trans ho)
    split at hx'
    ·assumption
    ·exact absurd (XD (Xv rfl)) (R2.own u' x' _ hx' ho').1
   ·cases hx
  ·split at hx'
   ·rename_i e;subst e
    split at hx'
    ·injection hx' with hx';subst hx'
     obtain rfl:b=b':=Xar (hb.symm.trans ho')
     exact absurd (XD (Xv rfl)) (R2.own u x _ hx ho).1
    ·cases hx'
   ·exact R2.apart u x u' x' b' hx hx' ho ho'
 fresh:=fun u g hu=>R2.fresh u g (by simpa using hu)
 free:=fun u g hu=>by
  rw [Xj] at hu
  split at hu
  ·split at hu
   ·injection hu with hu;cases hu
   ·cases hu
  ·exact R2.free u g hu
 gen:=fun u x g hx hg=>by
  rw [Xj] at hx
  split at hx
  ·rename_i e;subst e
   split at hx
   ·injection hx with hx;subst hx
    exact R2.gen t _ g ht (by simpa [Zb] using hg)
   ·cases hx
  ·exact R2.gen u x g hx hg
 glob:=R2.glob
 ro:=fun u x b' hx hs=>by
  rw [Xj] at hx
  split at hx
  ·split at hx
   ·injection hx with hx;subst hx;cases hs
   ·cases hx
  ·rename_i hne
   exact hro u x b' (W0 hne) hx hs
theorem Rel.turn (R:Rel base w0 I0 I β σ w) {r:Nat} (hr:∀ t x,σ[t]?=some x->¬Zd w β t x r) (hb:¬base r) (hI:∀ o,I r o=none) (hos:w'.os=w.os) (ht:w'.tape=w.tape) (ho:w'.output=w.output) (hs:w.heap.size<=w'.heap.size) (hk:∀ k,k≠r->k < w.heap.size->w'.heap[k]?=w.heap[k]?) (hbl:KLt base w):Rel base w0 I0 I β σ w':=by
 refine R.stay (Imm.le.refl I) ⟨hos,ht,ho,hs,fun k h=>hk k (by rintro rfl;exact hb h) (hbl k h)⟩ (fun _ _ _=>rfl) ?_ ?_
 ·intro b o u hu
  have h1:=R.imm b o u hu
  have hne:b≠r:=by rintro rfl;rw [hI] at hu;cases hu
  have hlt:=ZcT h1
  rw [<-h1]
  simp only [World.cell?,hk b hne hlt]
 ·intro t x b hx hb'
  have hne:b≠r:=by rintro rfl;exact hr t x hx hb'
  exact ⟨hk b hne ((R.blk t x hx).owns_lt hb'),(R.own t x b hx hb').2⟩
theorem Zwn (m:Nat) (tm:Tms) (σ:Za):m<=(gcT m tm σ).2.length:=by
 show m<=(Zg σ m _ _ _ 0).length
 rw [ZhC]
 obtain ⟨_,r,hr⟩:=ZfD (σ:=σ) 1000 (ZW (tm.map (·.2))++(WH m).flatMap fun t=>Zp (σ.getD t .free)) (WH m) XaM
 show m<=(Zl m (tm.map (·.2)) σ).length
 unfold Zl
 rw [hr]
 simp
end
section
variable {fs:Nat->Option Zan} {prim:Zbu} {bf:Nat->Bool} {m:Nat} {live:List Nat} {ms en b1:Nat} {aslE:List AOp} {c2 c3:Zq} {rs:List Zcf}
theorem ZgS {es:List (AVal×AVal)}:∀ (a b:List (AVal×AVal)) (tm:Tms) (σ:Za),Zci fs prim bf m live ms en b1 aslE c2 es (a++b) tm σ=match Zci fs prim bf m live ms en b1 aslE c2 es a tm σ with
  | some (tm',σ')=>Zci fs prim bf m live ms en b1 aslE c2 es b tm' σ'
  | none=>none
 | [],b,tm,σ=>rfl
 | x::a,b,tm,σ=>by
  simp only [Wp,Zci]
  split
  ·exact ZgS a b _ _
  ·rfl
end
theorem Zgv {I:Imm} {β:Bmap} {tm:Tms} {a:Act} {d:Nat} {u:Value} (T:TR I β tm a.tmps) (hd:tget tm d=.top):TR I β tm (a.put (some d) u).tmps:=by
 intro n
 by_cases e:d=n
 ·subst e;rw [hd];simp only [VR]
 ·rw [pgn e];exact T n
theorem Zx8 {m:Nat} {live:List Nat} {tm:Tms} {σ:Za} {d:Nat} (hd:d ∉ live):tget (gcT m (keepL live tm) σ).1 d=.top:=by
 have key:∀ (l:List Nat) (xs:List AVal),d ∉ l->tget (l.zip xs) d=.top:=by
  intro l
  induction l with
  | nil=>intro xs _;rfl
  | cons x l ih =>
   intro xs h
   cases xs with
   | nil=>rfl
   | cons y ys =>
    simp only [List.zip_cons_cons,tget]
    rw [if_neg (by rintro rfl;exact h (by simp))]
    exact ih ys (fun hm=>h (by simp [hm]))
 have e:(keepL live tm).map (·.1)=live:=by simp [keepL,List.map_map,Function.comp_def]
 show tget (((keepL live tm).map (·.1)).zip _) d=.top
 rw [e]
 exact key live _ hd
end
section
open Go.RowKit
open Go.ChangeMaps (setBlock)
theorem ZwO {arr:Array MapEntry} {seen:Array Nat} {e:MapEntry} (h:e ∈ (leftOf arr seen).toList):e ∈ arr.toList/\seen.contains e.born=false:=by
 unfold leftOf at h
 simp only [Array.toList_filter,WC,Ww] at h
 exact h
theorem ZzN {arr:Array MapEntry} {seen:Array Nat} (h:(leftOf arr seen).size=0):∀ e ∈ arr.toList,seen.contains e.born=true:=by
 intro e he
 cases hc:seen.contains e.born with
 | true=>rfl
 | false =>
  have hm:e ∈ (leftOf arr seen).toList:=by
   unfold leftOf
   simp only [Array.toList_filter,WC,Ww]
   exact ⟨he,hc⟩
  have : (leftOf arr seen).toList=[]:=by
   apply XY
   simpa using h
  rw [this] at hm;cases hm
section
variable {P:Program} {base:Nat->Prop} {w0:World} {I0:Imm}
variable {fs:Nat->Option Zan} {prim:Zbu} {bf:Nat->Bool} {m:Nat} {live:List Nat} {ms it nx ok en bid b1 nt:Nat} {aslE:List AOp} {c2 c3:Zq} {rs:List Zcf}
def Zb2 (it ms:Nat) (r b:Nat):Door:=⟨[],[it,ms],fun n=>if n=it then .pointer (some ⟨r,0,none⟩) else .map (some b)⟩
def Zeg (arr:Array MapEntry) (j:Nat):Nat:=(arr.toList.getD j ⟨undef,undef,0⟩).born
theorem ZBh (hm:P.follows .mixedOrders=true) (hO:∀ n,Zaf P (Zad fs prim bf n)) (hb:KLt base w0) {an3:Ann} {ops3 ops4:Array Oper} {i3 i4:Nat} {body:Code} {nxo exo eno:Oper} {lE:List Oper}
  (h3:ops3.toList=[nxo,exo]) (h4:ops4.toList=eno::lE)
  (hn1:nxo.op=.next (.tmp it) false) (hn2:nxo.dst=some nx) (hn3:nxo.guard=none) (hx1:exo.op=.extract (.tmp nx) 0) (hx2:exo.dst=some ok) (hx3:exo.guard=none)
  (he1:eno.op=.entry (.tmp it)) (he2:eno.dst=some en) (he3:eno.guard=none) (hcE:ZbG P an3 ops4 lE=some aslE) (hc2:Zbr (Zaj P an3 body)=c2) (hnt3:an3.nt=nt) (hk3:an3.keep=[it,ms])
  (d1:it < nt) (d2:nx < nt) (d3:ok < nt) (d4:en < nt) (d5:it≠ms) (d6:nx≠ms) (d7:ok≠ms) (d8:en≠ms) (d9:nx≠it) (d10:ok≠it) (d11:en≠it) (d12:nx≠ok) (hlv:∀ n ∈ live,n≠it/\n≠nx/\n≠ok/\n≠en)
  {r b clk:Nat} {arr:Array MapEntry} {es:List (AVal×AVal)} (hS:Zef arr clk) (hne:arr.size=es.length) (hrb:r≠b) (hrbase:¬base r) (hbbase:¬base b)
  {tm2:Tms} {σ2:Za} {out:AVal×Za} (hall:∀ es':List (AVal×AVal),es'.Perm es->ZeS fs prim bf m live ms en b1 aslE c2 c3 rs es es' tm2 σ2=some out)
  {I:Imm} {β:Bmap} {Q:Exit->Act->World->Prop}
  (hQ:∀ tm σ a w I' β',Zem fs prim bf m live c3 rs tm σ=some out->I.le I'->KeptE m β β'->TR I' β' (keepL live tm) a.tmps->(a.defers=[]/\nt<=a.tmps.size)->Rel base w0 I0 I' β' σ w->Q (.exit bid) a w) :
  ∀ (n:Nat) (js:List Nat) (tm:Tms) (σ:Za) (a:Act) (w:World),n+js.length=es.length+1->js.Nodup->(∀ j ∈ js,j < es.length)->Zci fs prim bf m live ms en b1 aslE c2 es (js.map fun j=>es.getD j (.top,.top)) tm2 σ2=some (tm,σ) ->
   w.heap[r]?=some (.mapIter (some b) clk (js.map (Zeg arr)).toArray clk)->w.heap[b]?=some (.map arr clk) ->
   (∃ I' β',I.le I'/\KeptE m β β'/\TR I' β' (keepL live tm) a.tmps/\((Zb2 it ms r b).ok a/\nt<=a.tmps.size)/\Rel base w0 I0 I' β' σ w/\(∀ o,I' r o=none)/\(∀ t x,σ[t]?=some x->¬Zd w β' t x r)) ->
   Code.rounds P (.seq (.region i3 ops3 false) (.seq (.cond (.tmp ok) .skip (.exit bid)) (.block b1 (.seq (.region i4 ops4 false) body)))) Q n a w:=by
 have hperm:∀ js:List Nat,js.Nodup->(∀ j ∈ js,j < es.length)->∃ rest:List Nat,(WH es.length).Perm (js++rest):=fun js h1 h2=>Zti js _ h1 (fun j hj=>W2.2 (h2 j hj)) XaM
 have hpm:∀ js rest:List Nat,(WH es.length).Perm (js++rest)->(js.map (fun j=>es.getD j (.top,.top))++rest.map fun j=>es.getD j (.top,.top)).Perm es:=by
  intro js rest h
  have:=h.map (fun j=>es.getD j ((.top,.top):AVal×AVal))
  rw [ZzM,X9] at this
  exact this.symm
 intro n
 induction n with
 | zero =>
  intro js tm σ a w hn hnd hlt _ _ _ _
  exfalso
  obtain ⟨rest,hr⟩:=hperm js hnd hlt
  have:=hr.length_eq
  simp at this
  omega
 | succ n ih =>
  intro js tm σ a w hn hnd hlt hf hit hmap hst
  rw [rounds_succ]
  obtain ⟨I1,β1,g1,g2,T1,⟨gd,gs⟩,R1,hIr,hown⟩:=hst
  have vit:a.tmps.getD it undef=.pointer (some ⟨r,0,none⟩):=by
   have:=gd.2 it (by simp [Zb2]);simpa [Zb2] using this
  have vms:a.tmps.getD ms undef=.map (some b):=by
   have:=gd.2 ms (by simp [Zb2]);simpa [Zb2,W0 d5] using this
  refine wp_seq (wp_region_list ?_)
  rw [h3]
  refine ZeK hn3 ?_
  unfold Oper.wp
  have hlook:=run_next_at (P:=P) w nxo.type r b clk clk _ arr clk hit hmap (fun x hx=>hS.1 x hx) (XN _)
  rcases hlook with ⟨hz,hrun⟩ | ⟨e,he,w1,hw1,hrun⟩
  ·
   have e1:(execOp a.eval nxo).run P w=.ok (.value (.tuple #[.bool false])) w:=by
    unfold execOp;rw [hn1]
    simp only [Act.eval]
    rw [vit]
    exact Ziz hrun
   rw [e1,Oper.upon_value,hn2]
   refine ZeK hx3 ?_
   unfold Oper.wp
   have e2:(execOp (a.put (some nx) (.tuple #[.bool false])).eval exo).run P w=.ok (.value (.bool false)) w:=by
    unfold execOp;rw [hx1]
    simp only [Act.eval]
    rw [pgs (by omega)]
    exact Ziz (by simp [Instr.extract])
   rw [e2,Oper.upon_value,hx2]
   refine wpList_nil ?_
   simp only [Exit.then]
   refine wp_seq (wp_cond_false (by simp only [Act.eval];exact pgs (by rw [ZcS];omega)) (wp_exit ?_))
   simp only [Exit.then]
   obtain ⟨rest,hr⟩:=hperm js hnd hlt
   have hrest:rest=[]:=by
    cases rest with
    | nil=>rfl
    | cons x rest =>
     exfalso
     have hx:x < es.length:=W2.1 (hr.mem_iff.2 (by simp))
     obtain ⟨ex,hxa⟩:∃ ex,arr.toList[x]?=some ex:=⟨_,Xy (by simpa [hne] using hx)⟩
     have hs:=ZzN hz (arr.toList.getD x ⟨undef,undef,0⟩) (by
      rw [Xi,hxa];exact Xr hxa)
     have hnd2:(js++x::rest).Nodup:=hr.nodup_iff.1 XaM
     have hxj:x ∉ js:=fun hm=>by
      have:=(Xad.1 hnd2).2.2 x hm x (by simp)
      exact this rfl
     simp only [List.contains_toArray,XaP,decide_eq_true_eq,XK] at hs
     obtain ⟨y,hy,hyx⟩:=hs
     have hyl:y < es.length:=hlt y hy
     obtain ⟨ey,hya⟩:∃ ey,arr.toList[y]?=some ey:=⟨_,Xy (by simpa [hne] using hyl)⟩
     have hnb:=hS.2
     have e3:(arr.toList.map (·.born))[y]?=(arr.toList.map (·.born))[x]?:=by
      rw [XX,XX,hya,hxa]
      simp only [XQ,Xa]
      unfold Zeg at hyx
      rw [Xi,Xi,hya,hxa] at hyx
      exact hyx
     have hyx2:=(List.getElem?_inj (by simpa [hne] using hyl) hnb).1 e3
     subst hyx2
     exact hxj hy
   subst hrest
   have hp:=hpm js [] hr
   have ho:=hall _ hp
   unfold ZeS at ho
   rw [ZgS,hf] at ho
   simp only [XV,Zci] at ho
   refine hQ tm σ _ w I1 β1 ho g1 g2 ?_ ⟨by rw [Zix,Zix];exact gd.1,by rw [ZcS,ZcS];exact gs⟩ R1
   have t0:∀ d,d ∉ live->tget (keepL live tm) d=.top:=fun d hd=>by rw [Zft,if_neg hd]
   exact Zgv (Zgv T1 (t0 nx fun h=>(hlv nx h).2.1 rfl)) (t0 ok fun h=>(hlv ok h).2.2.1 rfl)
  ·
   obtain ⟨hea,hes⟩:=ZwO he
   obtain ⟨j,hj,hje⟩:=List.getElem_of_mem hea
   have hja:arr.toList[j]?=some e:=by rw [Xy hj,hje]
   have hjl:j < es.length:=by simpa [hne] using hj
   have hbj:Zeg arr j=e.born:=by unfold Zeg;rw [Xi,hja];rfl
   have hjs:j ∉ js:=fun hm=>by
    have : (js.map (Zeg arr)).toArray.contains e.born=true:=by
     simp only [List.contains_toArray,XaP,decide_eq_true_eq,XK]
     exact ⟨j,hm,hbj⟩
    rw [this] at hes;cases hes
   have hnd':(js++[j]).Nodup:=by
    rw [Xad]
    exact ⟨hnd,by simp,fun x hx y hy=>by rw [XW] at hy;subst hy;rintro rfl;exact hjs hx⟩
   have hlt':∀ k ∈ js++[j],k < es.length:=fun k hk=>by
    rcases Xu.1 hk with hk | hk
    ·exact hlt k hk
    ·rw [XW] at hk;subst hk;exact hjl
   obtain ⟨rest,hr⟩:=hperm (js++[j]) hnd' hlt'
   have hp:=hpm (js++[j]) rest hr
   have ho:=hall _ hp
   unfold ZeS at ho
   rw [ZgS,X9,ZgS,hf] at ho
   simp only [Xs,XV,Zci] at ho
   generalize hkv:es.getD j ((.top,.top):AVal×AVal)=kv at ho
   cases hro:Zd3 fs prim bf m live ms en b1 aslE c2 es kv tm σ with
   | none=>rw [hro] at ho;cases ho
   | some q =>
   obtain ⟨tm',σ'⟩:=q
   clear ho
   have hf':Zci fs prim bf m live ms en b1 aslE c2 es ((js++[j]).map fun j=>es.getD j (.top,.top)) tm2 σ2=some (tm',σ'):=by
    rw [X9,ZgS,hf]
    simp only [Xs,XV,Zci,hkv,hro]
   unfold Zd3 at hro
   split at hro
   case h_2=>cases hro
   rename_i t hmst
   split at hro
   case isFalse=>cases hro
   rename_i hcond
   obtain ⟨hte,hkept⟩:=hcond
   split at hro
   case h_2=>cases hro
   rename_i tmA σA hstep
   have hbw:=R1.base_le hb
   have Rr:=R1.rebase hown
   obtain ⟨β0,q1,R0r,T0⟩:=Znb Rr T1 m
   have R0:=R1.unbase R0r (fun k h=>Xv h) (fun t x b hx hs=>by
    rcases R0r.ro t x b hx hs with h | rfl
    ·exact h
    ·exfalso
     cases x with
     | rmap es2 =>
      obtain ⟨b2,_,_,_,_,e1,e2,_⟩:=R0r.blk t _ hx
      simp only [Zbi,e1,X7,Xa] at hs
      subst hs
      rw [hit] at e2;cases e2
     | _=>cases hs)
   have hown0:∀ t x,(gcT m (keepL live tm) σ).2[t]?=some x->¬Zd w β0 t x r:=fun t x hx ho=>(R0r.own t x r hx ho).1 (XD rfl)
   have tt:∀ d,d ∉ live->tget (gcT m (keepL live tm) σ).1 d=.top:=fun d hd=>Zx8 hd
   have hml:=Zwn m (keepL live tm) σ
   generalize (gcT m (keepL live tm) σ).1=tm0 at *
   generalize (gcT m (keepL live tm) σ).2=σ0 at *
   have vt:=T0 ms
   rw [hmst,vms] at vt
   simp only [VR] at vt
   obtain ⟨b',kk',cc',hbt,hbb⟩:=vt
   simp only [Value.map.injEq,Xa] at hbb
   subst hbb
   obtain ⟨b2,k2,c2',arr',clk',e1,e2,e3,e4,e5,e6⟩:=R0.blk t _ hte
   rw [hbt] at e1
   simp only [Xa,BI.mk.injEq] at e1
   obtain ⟨rfl,rfl,rfl⟩:=e1
   rw [hmap] at e2
   simp only [Xa,Obj.map.injEq] at e2
   obtain ⟨rfl,rfl⟩:=e2
   have howb:Zd w β0 t (.map es) b:=by simp [Zd,hbt]
   have htl:t < σ0.length:=(Xd.1 hte).1
   have e1:(execOp a.eval nxo).run P w=.ok (.value (.tuple #[.bool true,e.key,e.val])) (setBlock w1 r (.mapIter (some b) clk ((js.map (Zeg arr)).toArray.push e.born) clk)):=by
    unfold execOp;rw [hn1]
    simp only [Act.eval]
    rw [vit]
    rw [Sem.run_bind,hrun];rfl
   have hw1h:w1.heap=w.heap/\w1.os=w.os/\w1.tape=w.tape/\w1.output=w.output:=by rcases hw1 with rfl | rfl <;> exact ⟨rfl,rfl,rfl,rfl⟩
   obtain ⟨wh,wo,wt,wu⟩:=hw1h
   have hrlt:r < w.heap.size:=(XB.1 hit).1
   generalize hw3:setBlock w1 r (.mapIter (some b) clk ((js.map (Zeg arr)).toArray.push e.born) clk)=w3 at e1
   have w3r:w3.heap[r]?=some (.mapIter (some b) clk ((js.map (Zeg arr)).toArray.push e.born) clk):=by
    rw [<-hw3];simp only [setBlock,wh];rw [Array.getElem?_setIfInBounds_self_of_lt hrlt]
   have w3k:∀ k,k≠r->w3.heap[k]?=w.heap[k]?:=fun k hk=>by
    rw [<-hw3];simp only [setBlock,wh];rw [Wb (W0 hk)]
   have w3b:w3.heap[b]?=some (.map arr clk):=by rw [w3k b (W0 hrb)];exact hmap
   have w3s:w3.heap.size=w.heap.size:=by rw [<-hw3];simp [setBlock,wh]
   have R3:Rel base w0 I0 I1 β0 σ0 w3:=R0.turn hown0 hrbase hIr (by rw [<-hw3];exact wo) (by rw [<-hw3];exact wt) (by rw [<-hw3];exact wu) (by omega) (fun k hk _=>w3k k hk) hbw
   have hIb:∀ o,I1 b o=none:=(R3.own t _ b hte howb).2
   have hown3:∀ t x,σ0[t]?=some x->¬Zd w3 β0 t x r:=fun t x hx ho=>hown0 t x hx (((R0.blk t x hx).owns_at (Bmap.le.refl β0) (fun b' hb'=>w3k b' (by rintro rfl;exact hown0 t x hx hb')) r).1 ho)
   have RH:=R3.hide hte howb hown3
   rw [e1,Oper.upon_value,hn2]
   generalize hA1:a.put (some nx) (.tuple #[.bool true,e.key,e.val])=A1
   have s1:A1.tmps.size=a.tmps.size:=by rw [<-hA1,ZcS]
   have f1:∀ k,k≠nx->A1.tmps.getD k undef=a.tmps.getD k undef:=by intro k hk;rw [<-hA1];exact pgn (W0 hk)
   have df1:A1.defers=[]:=by rw [<-hA1];exact gd.1
   have TA1:TR I1 β0 tm0 A1.tmps:=by rw [<-hA1];exact Zgv T0 (tt nx fun h=>(hlv nx h).2.1 rfl)
   refine ZeK hx3 ?_
   unfold Oper.wp
   have e2:(execOp A1.eval exo).run P w3=.ok (.value (.bool true)) w3:=by
    unfold execOp;rw [hx1]
    simp only [Act.eval]
    rw [<-hA1,pgs (by omega)]
    exact Ziz (by simp [Instr.extract])
   rw [e2,Oper.upon_value,hx2]
   generalize hA2:A1.put (some ok) (.bool true)=A2
   have s2:A2.tmps.size=a.tmps.size:=by rw [<-hA2,ZcS,s1]
   have f2:∀ k,k≠ok->A2.tmps.getD k undef=A1.tmps.getD k undef:=by intro k hk;rw [<-hA2];exact pgn (W0 hk)
   have df2:A2.defers=[]:=by rw [<-hA2];exact df1
   have TA2:TR I1 β0 tm0 A2.tmps:=by rw [<-hA2];exact Zgv TA1 (tt ok fun h=>(hlv ok h).2.2.1 rfl)
   refine wpList_nil ?_
   simp only [Exit.then]
   refine wp_seq (wp_cond_true (by simp only [Act.eval];rw [<-hA2];exact pgs (by omega)) (wp_skip ?_))
   simp only [Exit.then]
   refine wp_block (wp_seq (wp_region_list ?_))
   rw [h4]
   refine ZeK he3 ?_
   unfold Oper.wp
   have e3':(execOp A2.eval eno).run P w3=.ok (.value (.tuple #[e.key,e.val])) w3:=by
    unfold execOp;rw [he1]
    simp only [Act.eval]
    rw [f2 it (W0 d10),f1 it (W0 d9),vit]
    exact Ziz (run_entry_at w3 r b clk _ arr clk e w3r w3b hea hS.2)
   rw [e3',Oper.upon_value,he2]
   generalize hA3:A2.put (some en) (.tuple #[e.key,e.val])=A3
   have s3:A3.tmps.size=a.tmps.size:=by rw [<-hA3,ZcS,s2]
   have f3:∀ k,k≠en->A3.tmps.getD k undef=A2.tmps.getD k undef:=by intro k hk;rw [<-hA3];exact pgn (W0 hk)
   have df3:A3.defers=[]:=by rw [<-hA3];exact df2
   have hkve:VR I1 β0 (.tup [kv.1,kv.2]) (.tuple #[e.key,e.val]):=by
    have hej:es[j]?=some kv:=by
     rw [<-hkv,Xi,Xy hjl];rfl
    obtain ⟨v1,p1,p2⟩:=Zbw e3 (i:=j) (x:=kv.1) (by rw [XX,hej];rfl)
    obtain ⟨v2,p3,p4⟩:=Zbw e4 (i:=j) (x:=kv.2) (by rw [XX,hej];rfl)
    rw [XX,hja] at p1 p3
    simp only [XQ,Xa] at p1 p3
    subst p1 p3
    simp only [VR]
    exact ⟨_,rfl,by simp only [VRs];exact ⟨_,_,rfl,p2,_,_,rfl,p4,rfl⟩⟩
   have TA3:TR I1 β0 (tput tm0 (some en) (.tup [kv.1,kv.2])) A3.tmps:=by rw [<-hA3];exact TR.put TA2 hkve (by omega)
   have ok3:(Zb2 it ms r b).ok A3:=by
    refine ⟨df3,fun k hk=>?_⟩
    have hk':k=it\/k=ms:=by simpa [Zb2] using hk
    have n1:k≠en/\k≠ok/\k≠nx:=by
     rcases hk' with rfl | rfl
     ·exact ⟨W0 d11,W0 d10,W0 d9⟩
     ·exact ⟨W0 d8,W0 d7,W0 d6⟩
    rw [f3 k n1.1,f2 k n1.2.1,f1 k n1.2.2]
    exact gd.2 k hk
   have hkp:∀ n ∈ (Zb2 it ms r b).K,n ∈ an3.keep:=fun n hn=>by rw [hk3];exact hn
   have hblt:b < w.heap.size:=(XB.1 hmap).1
   have hbH:KLt (fun k=>base k\/k=b\/k=r) w3:=fun k hk=>by
    rcases hk with hk | rfl | rfl
    ·have:=hbw k hk;omega
    ·omega
    ·omega
   obtain ⟨cs,hruns⟩:=ZtC hstep
   rw [<-X2 lE]
   refine ZjE (dr:=Zb2 it ms r b) (O:=fun _ _ _=>none) noO hkp hbH hcE TA3 ⟨ok3,by omega⟩ RH hruns ?_
   intro A4 w4 hst4
   refine wpList_nil ?_
   simp only [Exit.then]
   have fin:∀ (x:Zau) (tmB:Tms) (σB:Za),evC fs prim bf σ0.length c2 tmA σA=some (x,tmB,σB)->(x=.normal\/x=.exit b1)->(σB[t]?=some (.rmap es)/\Zds (σ0.set t (.rmap es)) σB=true)->tput tmB (some ms) (.map t)=tm'->σB.set t (.map es)=σ'->body.wp P (Exit.inBlock b1 (Exit.then (Code.rounds P (.seq (.region i3 ops3 false) (.seq (.cond (.tmp ok) .skip (.exit bid)) (.block b1 (.seq (.region i4 ops4 false) body)))) Q n) Q)) A4 w4:=by
    intro x tmB σB hev hx hopq htm hσ
    obtain ⟨nf,hev⟩:=ZaN.1 hev
    rw [<-hc2,Zdt] at hev
    have hstF:StF (Zb2 it ms r b) σ0.length an3.nt (fun k=>base k\/k=b\/k=r) w3 I1 I1 β0 tmA σA A4 w4:=by
     obtain ⟨I4,β4,k1,k2,k3⟩:=hst4
     exact ⟨I4,β4,k1,KeptE.of_le k2,k3⟩
    have next:∀ A5 w5,StF (Zb2 it ms r b) σ0.length an3.nt (fun k=>base k\/k=b\/k=r) w3 I1 I1 β0 tmB σB A5 w5->Code.rounds P (.seq (.region i3 ops3 false) (.seq (.cond (.tmp ok) .skip (.exit bid)) (.block b1 (.seq (.region i4 ops4 false) body)))) Q n A5 w5:=by
     rintro A5 w5 ⟨I5,β5,k1,k2,k3,⟨k4,k4'⟩,k5⟩
     have hb5:β5 t 0=some ⟨some b,kk',cc'⟩:=k2 t htl _ hbt
     have w5b:w5.heap[b]?=some (.map arr clk):=by rw [k5.below.block b (XD (Xv rfl))];exact w3b
     have w5r:w5.heap[r]?=_:=(k5.below.block r (XD (XD rfl))).trans w3r
     have hI5b:∀ o,I5 b o=none:=fun o=>by rw [k5.old b o (XD (Xv rfl))];exact hIb o
     have hI5r:∀ o,I5 r o=none:=fun o=>by rw [k5.old r o (XD (XD rfl))];exact hIr o
     have hB5:BR I5 β5 w5 t (.map es):=⟨b,kk',cc',arr,clk,hb5,w5b,ZtV (fun y hy=>by obtain ⟨p,hp,rfl⟩:=XK.1 hy;exact e5 p hp) e3,ZuU k1 k2 (fun y hy=>by obtain ⟨p,hp,rfl⟩:=XK.1 hy;exact hkept p hp) e4,e5,hS⟩
     have ho5:Zd w β5 t (.map es) b:=by simp [Zd,hb5]
     have R5:=R3.unhide k5 hopq.1 ho5 hB5 hbbase hI5b (fun u x b' hne hx hs=>by
      cases x with
      | rmap es2 =>
       obtain ⟨y,h2,h1⟩:=ZoU hopq.2 hx rfl
       rw [WQ (W0 hne)] at h2
       cases y <;> simp [Zdm] at h1
       rename_i es3
       obtain ⟨b2,k2',c2',_,_,e1,_⟩:=R0.blk u _ h2
       have e2:=k2 u (Xd.1 h2).1 _ e1
       refine R0.ro u _ b' h2 ?_
       simp only [Zbi,e2] at hs
       simpa [Zbi,e1] using hs
      | _=>cases hs)
     rw [hσ] at R5
     refine ih (js++[j]) tm' σ' A5 w5 (by rw [List.length_append,List.length_singleton];omega) hnd' hlt' hf' ?_ w5b ⟨I5,β5,g1.trans k1,?_,?_,⟨k4,by omega⟩,R5,hI5r,?_⟩
     ·rw [w5r,X9,Xs,XV,hbj,List.push_toArray]
     ·refine (g2.trans q1).trans (fun u hu bi hbi=>k2 u (by omega) bi hbi)
     ·refine TR.keep (fun u=>?_) live
      rw [<-htm]
      show VR I5 β5 (tget (tins ms (.map t) tmB) u) _
      rw [Zfv]
      split
      ·rename_i e;subst e
       have : A5.tmps.getD ms undef=.map (some b):=by have:=k4.2 ms (by simp [Zb2]);simpa [Zb2,W0 d5] using this
       rw [this]
       simp only [VR]
       exact ⟨b,kk',cc',hb5,rfl⟩
      ·exact k3 u
     ·intro u y hy hoy
      rw [<-hσ,Xj] at hy
      split at hy
      ·rename_i e;subst e
       split at hy
       ·injection hy with hy;subst hy
        exact hrb (Xar (ho5.symm.trans hoy)).symm
       ·cases hy
      ·exact (k5.own u y r hy hoy).1 (XD (XD rfl))
    refine Zih (dr:=Zb2 it ms r b) (an:=an3) (hO nf) hkp hm hbH σ0.length nf rfl hstF hev ?_
    rcases hx with rfl | rfl
    ·intro A5 w5 hs
     simp only [Exit.inBlock,Exit.then]
     exact next A5 w5 hs
    ·intro A5 w5 hs
     simp only [Exit.inBlock,if_true,Exit.then]
     exact next A5 w5 hs
   split at hro
   ·rename_i tmB σB hev
    split at hro
    case isFalse=>cases hro
    rename_i hopq
    simp only [Xa,Xb] at hro
    exact fin _ _ _ hev (Xv rfl) hopq hro.1 hro.2
   ·rename_i i tmB σB hev
    split at hro
    case isFalse=>cases hro
    rename_i hopq
    obtain ⟨rfl,hopq⟩:=hopq
    simp only [Xa,Xb] at hro
    exact fin _ _ _ hev (XD rfl) hopq hro.1 hro.2
   ·cases hro
end
end
section
open Go.RowKit
open Go.ChangeMaps (setBlock)
section
variable {P:Program} {fs:Nat->Option Zan} {prim:Zbu} {bf:Nat->Bool}
theorem Zzi {base:Nat->Prop} {w0 w:World} {I0 I:Imm} {β:Bmap} {σ σ':Za} (R:Rel base w0 I0 I β σ w) {t:Nat} {es:List (AVal×AVal)} (h:ZfR σ t=some (es,σ')):∃ I',I.le I'/\Rel base w0 I0 I' β σ' w/\σ'[t]?=some (.map es):=by
 unfold ZfR at h
 split at h
 ·rename_i es' hs
  simp only [Xa,Xb] at h
  obtain ⟨rfl,rfl⟩:=h
  exact ⟨I,Imm.le.refl I,R,hs⟩
 ·rename_i k es' hs
  split at h
  ·rename_i l hl
   simp only [Xa,Xb] at h
   obtain ⟨rfl,rfl⟩:=h
   obtain ⟨I',h1,h2⟩:=R.melt hs hl
   exact ⟨I',h1,h2,by rw [Xj,if_pos rfl,if_pos (Xd.1 hs).1]⟩
  ·cases h
 ·cases h
theorem ZwY (hm:P.follows .mixedOrders=true) (hO:∀ n,Zaf P (Zad fs prim bf n)) {f:FuncId} {an1 an3:Ann} {nt n0 n1 ms it nx ok en bid b1:Nat} {live:List Nat} {asl1 aslE:List AOp} {c1 c2 c3:Zq} {rs:List Zcf}
  (D:ZuM P f an1 an3 nt n0 n1 ms it nx ok en bid b1 live asl1 aslE c1 c2 c3 rs) {args:List AVal} {σ σ':Za} {r:AVal} (hg:Zj0 fs prim bf live ms en b1 asl1 aslE c1 c2 c3 rs args σ=some (r,σ')) :
  (∃ fn,P.funcs[f]?=some fn/\fn.body.isSome=true/\(fn.name == "runtime.NumGoroutine")=false) /\
  ∀ base w0 I0 I β w (vs:Array Value),KLt base w0->Rel base w0 I0 I β σ w->VRs I β args vs.toList ->
   Calls P f vs w (fun e w'=>∃ u,Ends r e u/\Zbj σ.length base w0 I0 I β r σ' u w'):=by
 obtain ⟨F,B,pre,ops1,ops3,ops4,i2,i3,i4,body,rest,t,kt,et,rg,nxo,exo,eno,lE,hF,hname,hnt,hrs,hbody,hsp,h1,h3,h4,hr1,hr2,hr3,hu,hn1,hn2,hn3,hx1,hx2,hx3,he1,he2,he3,hc1,hca1,hcE,hc2,hc3,ha1,ha3,hk3,hd⟩:=D.ex
 simp only [Xl,decide_eq_true_eq,XI] at hd
 obtain ⟨⟨⟨⟨⟨⟨⟨⟨⟨⟨⟨⟨d1,d2⟩,d3⟩,d4⟩,d5⟩,d6⟩,d7⟩,d8⟩,d9⟩,d10⟩,d11⟩,d12⟩,hlv⟩:=hd
 refine ⟨⟨F,hF,by rw [hbody];rfl,hname⟩,?_⟩
 intro base w0 I0 I β w vs hb R hargs
 unfold Zj0 at hg
 split at hg
 case h_2=>cases hg
 rename_i tm1 σ1 hx
 split at hg
 case h_2=>cases hg
 rename_i tm2 σm hst1
 split at hg
 case h_2=>cases hg
 rename_i mt hms
 split at hg
 case h_2=>cases hg
 rename_i es σ2 hmelt
 unfold Zgy at hg
 split at hg
 case isFalse=>cases hg
 rename_i hex
 have hall:=hex.choose_spec
 injection hg with hg
 rw [hg] at hall
 obtain ⟨nf,hx⟩:=ZaN.1 hx
 rw [<-hc1,Zdt] at hx
 refine calls_of_wp hF hbody ?_
 rw [ZuV hsp]
 have T:=Zpf hargs (F.ntmps - vs.size)
 have hst:StF ZaO σ.length an1.nt base w0 I0 I β (enterA 0 args []) σ { tmps:=vs++Xaq (F.ntmps - vs.size) undef,defers:=[] } w:=⟨I,β,Imm.le.refl I,KeptE.refl _ β,T,⟨Zdn.2 rfl,by rw [ha1,<-hnt];simp;omega⟩,R⟩
 refine ZsN (hO nf) hm hb σ.length nf _ pre hst hx ?_
 rintro A1 w1 ⟨I1,β1,g1,g2,T1,⟨gd,gs⟩,R1⟩
 refine wp_seq (wp_seq (wp_region_list ?_))
 have hl1:ops1.toList=ops1.toList.take n1++[rg]:=by rw [<-h1,List.take_append_drop]
 rw [hl1]
 obtain ⟨cs,hruns⟩:=ZtC hst1
 refine ZjE (dr:=ZaO) (O:=fun _ _ _=>none) noO (fun n hn=>by simp [ZaO] at hn) hb hca1 T1 ⟨gd,gs⟩ R1 hruns ?_
 rintro A2 w2 ⟨Im,β2,k1m,k2,T2m,⟨kd,ks⟩,R2m⟩
 obtain ⟨I2,km,R2,hes⟩:=Zzi R2m hmelt
 have T2:=T2m.mono km (Bmap.le.refl β2)
 have k1:=k1m.trans km
 have vms:=T2 ms
 rw [hms] at vms
 simp only [VR] at vms
 obtain ⟨b,kk,cc,hbt,vms⟩:=vms
 obtain ⟨b',kk',cc',arr,clk,e1,e2,e3,e4,e5,e6⟩:=R2.blk mt _ hes
 rw [hbt] at e1
 simp only [Xa,BI.mk.injEq] at e1
 obtain ⟨rfl,rfl,rfl⟩:=e1
 refine ZeK hr3 ?_
 unfold Oper.wp
 have er:(execOp A2.eval rg).run P w2=.ok (.value (.pointer (some ⟨w2.heap.size,0,none⟩))) { w2 with heap:=w2.heap.push (.mapIter (some b) clk #[] clk) }:=by
  unfold execOp;rw [hr1]
  simp only [Act.eval]
  rw [vms]
  simp [Instr.range,run_underlying hu,Zdg e2]
 rw [er,Oper.upon_value,hr2]
 refine wpList_nil ?_
 simp only [Exit.then]
 have hbw:=R2.base_le hb
 have hblt:b < w2.heap.size:=(XB.1 e2).1
 have howb:Zd w2 β2 mt (.map es) b:=by simp [Zd,hbt]
 have hob:=R2.own mt _ b hes howb
 generalize hr:w2.heap.size=rr at *
 have hown:∀ t x,σ2[t]?=some x->¬Zd w2 β2 t x rr:=fun t x hx ho=>by
  have:=(R2.blk t x hx).owns_lt ho;omega
 have hrb:¬base rr:=fun h=>by have:=hbw rr h;omega
 have hIr:∀ o,I2 rr o=none:=fun o=>by
  cases hi:I2 rr o with
  | none=>rfl
  | some u =>
   have:=ZcT (R2.imm rr o u hi)
   omega
 generalize hw3:({ w2 with heap:=w2.heap.push (.mapIter (some b) clk #[] clk) }:World)=w3
 have w3k:∀ k,k < w2.heap.size->w3.heap[k]?=w2.heap[k]?:=fun k hk=>by
  rw [<-hw3];simp only;rw [Array.getElem?_push];rw [if_neg (by omega)]
 have R3:Rel base w0 I0 I2 β2 σ2 w3:=R2.turn hown hrb hIr (by rw [<-hw3]) (by rw [<-hw3]) (by rw [<-hw3]) (by rw [<-hw3];simp) (fun k _ hk=>w3k k hk) hbw
 have hown3:∀ t x,σ2[t]?=some x->¬Zd w3 β2 t x rr:=fun t x hx ho=>hown t x hx (((R2.blk t x hx).owns_at (Bmap.le.refl β2) (fun b' hb'=>w3k b' ((R2.blk t x hx).owns_lt hb')) rr).1 ho)
 refine wp_block (wp_loop_rounds (es.length+1) ?_)
 have hlen:arr.size=es.length:=by
  have:=Z9 e3
  simpa using this.symm
 refine ZBh (base:=base) (w0:=w0) (I0:=I0) (m:=σ.length) (live:=live) (ms:=ms) (it:=it) (nx:=nx) (ok:=ok) (en:=en) (nt:=nt) (c3:=c3) (rs:=rs) hm hO hb h3 h4 hn1 hn2 hn3 hx1 hx2 hx3 he1 he2 he3 hcE hc2 ha3 hk3 d1 d2 d3 d4 d5 d6 d7 d8 d9 d10 d11 d12 (fun n hn=>by have:=hlv n hn;exact ⟨this.1.1.1,this.1.1.2,this.1.2,this.2⟩)
  (r:=rr) (b:=b) (arr:=arr) (clk:=clk) (es:=es) (tm2:=tm2) (σ2:=σ2) (out:=(r,σ')) (I:=I2) (β:=β2) e6 hlen (by omega) hrb hob.1 hall ?_ (es.length+1) [] tm2 σ2 _ w3 (by simp) (by simp) (by simp) rfl ?_ ?_ ?_
 ·
  intro tm σx a wx I' β' hend j1 j2 jT jd jR
  simp only [Exit.inBlock,if_true,Exit.then]
  unfold Zem at hend
  obtain ⟨β3,q1,q2,q3⟩:=Znb jR jT σ.length
  generalize hev:evC fs prim bf σ.length c3 (gcT σ.length (keepL live tm) σx).1 (gcT σ.length (keepL live tm) σx).2=res at hend
  cases res with
  | none=>simp only [ZaF] at hend;cases hend
  | some q =>
   obtain ⟨e,tm',σe⟩:=q
   obtain ⟨n3,hev⟩:=ZaN.1 hev
   rw [<-hc3,Zdt] at hev
   have kk1:KeptE σ.length β β3:=(g2.trans (KeptE.of_le k2)).trans (j2.trans q1)
   have st:StF ZaO σ.length an1.nt base w0 I0 I β (gcT σ.length (keepL live tm) σx).1 (gcT σ.length (keepL live tm) σx).2 a wx:=⟨I',β3,(g1.trans k1).trans j1,kk1,q3,⟨Zdn.2 jd.1,by rw [ha1];exact jd.2⟩,q2⟩
   have fin:(match resA tm' σe rs with | some r=>Zaz σ.length σe r | none=>none)=some (r,σ')->∀ a' w',StF ZaO σ.length an1.nt base w0 I0 I β tm' σe a' w'->a'.defers=[]/\∃ v,(results F a'.tmps).run P w'=.ok v w'/\∃ u,Ends r (.returned v) u/\Zbj σ.length base w0 I0 I β r σ' u w':=by
    intro hr a' w' ⟨I1,β1,g1,g2,g3,g4,g5⟩
    split at hr
    ·rename_i x hx1
     obtain ⟨v,h1,h2⟩:=Zt8 g3 g5 hrs hx1
     have hnp:∀ y,x≠.pan y:=by rintro y rfl;simp only [VR] at h2
     obtain ⟨q1,q2⟩:=Zgi (⟨I1,β1,g1,g2,g5,by rw [ZeP hnp];exact h2⟩:Zbj σ.length base w0 I0 I β x σe v w') hr
     refine ⟨Zdn.1 g4.1,v,h1,v,q2 _ ?_,q1⟩
     cases x <;> first | rfl | exact absurd rfl (hnp _)
    ·cases hr
   refine Zih (dr:=ZaO) (an:=an1) (hO n3) (fun n hn=>by simp [ZaO] at hn) hm hb σ.length n3 rfl st hev ?_
   cases e with
   | normal=>simp only [ZaF] at hend;exact fun a' w' hs=>fin hend a' w' hs
   | ret=>simp only [ZaF] at hend;exact fun a' w' hs=>fin hend a' w' hs
   | exit id=>simp only [ZaF] at hend;cases hend
   | panic x =>
    simp only [ZaF] at hend
    intro a' u w' hd hp
    obtain ⟨q1,q2⟩:=Zgi hp hend
    exact ⟨Zdn.1 hd,u,q2 _ rfl,q1⟩
 ·rw [<-hw3,<-hr];simp
 ·rw [w3k b (by omega)];exact e2
 ·refine ⟨I2,β2,Imm.le.refl _,KeptE.refl _ _,?_,⟨⟨by rw [Zix];exact Zdn.1 kd,fun k hk=>?_⟩,by rw [ZcS];omega⟩,R3,hIr,hown3⟩
  ·refine Zgv (T2.keep live) ?_
   rw [Zft,if_neg]
   exact fun h=>(hlv it h).1.1.1 rfl
  ·have hk':k=it\/k=ms:=by simpa [Zb2] using hk
   rcases hk' with rfl | rfl
   ·rw [pgs (by omega)];simp [Zb2]
   ·rw [pgn d5,vms];simp [Zb2,W0 d5]
end
end
end Go.Proofs.Ytfpahnkbjfimdaa
