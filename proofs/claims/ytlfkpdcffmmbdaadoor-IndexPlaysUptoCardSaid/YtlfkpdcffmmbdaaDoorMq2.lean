/- packed -/
import Derived.Test.YtlfkpdcffmmbdaaDoorMq1
import Derived.Orders
import Derived.LoopN
import Derived.Maps.RangeRun
import Derived.Scope
import Derived.Lib.Index
import Derived.Shelf.Unicode.ValidAny
import Derived.Shelf.Strings.Count
set_option linter.unusedSectionVars false
set_option linter.unusedSimpArgs false
set_option linter.unusedVariables false
open Option.some renaming injEq→Xa
open Prod.mk renaming injEq→Xb
open Bool renaming false_eq_true→Xm,and_eq_true→Xp,not_eq_true'→Wo,or_eq_true→WO,and_self→WV,true_or→WZ,or_false→Xao,or_true→XaB,or_eq_false_iff→XaG
open List renaming getElem?_eq_some_iff→Xn,getD_eq_getElem?_getD→Xo,getElem?_set→Xr,mem_of_getElem?→Xt,mem_append→Xu,getD_cons_zero→Xv,replicate→Xx,getElem?_eq_getElem→Xz,mem_cons→XA,getD_cons_succ→XC,all_cons→XE,length_nil→XF,getElem?_cons_zero→XG,all_eq_true→XH,map_cons→XJ,contains_nil→XK,mem_map→XL,append_nil→XO,getElem?_eq_none→XQ,eq_nil_of_length_eq_zero→XV,getElem?_map→XW,lookup_cons→X1,mem_singleton→X6,nodup_cons→Wa,mem_flatMap→Wj,pairwise_cons→Wk,map_nil→Wm,map_append→Wr,cons_append→Wt,range→Wu,getElem?_append_right→Ww,mem_filter→WA,pairwise_append→WD,drop_eq_nil_of_le→WM,getElem?_append_left→WN,mem_range→WP,getElem?_set_ne→WW,drop_eq_getElem_cons→W2,set_comm→W8,contains_eq_mem→Xai,getElem_mem→Xaq,isEmpty_iff→Xar,contains_cons→Xax,nodup_append→XaC,range'→XaL,nodup_range→Xa0,Perm→Xa8,mapM_cons→Xbb,range'_succ→Xbh,map_take→Xbw
open Option renaming map_eq_some_iff→Xq,map_some→XS,bind_some→XY,map→Wx,getD_some→WI,getD_none→Xa1
open Or renaming inl→Xs,inr→Xy
open Array renaming getElem?_eq_some_iff→XB,length_toList→XP,getElem?_setIfInBounds_ne→Wi,getD_eq_getD_getElem?→WU,getD→XaS,replicate→Xa6
open Nat renaming zero_add→XD,le_refl→X3,add_zero→Wf,le_max_right→Wp,le_max_left→WE,add_assoc→WK,sub_self→W5,lt_or_ge→XaA,lt_of_lt_of_le→Xa9
open ByteArray renaming size→WH
open Ne renaming symm→W0
open List.Perm renaming refl→Xaa
open SizeOf renaming sizeOf→XaQ
namespace Go.Proofs.YtlfkpdcffmmbdaaDoor
set_option maxHeartbeats 16000000
set_option maxRecDepth 10000
section
open Go.RowKit
section
variable {O:ZW} {bf:Nat->Bool} {tm:Tms} {σ σ':Za} {sq s:Nat} {b:ZU}
theorem ZfU:∀ (ts:List Nat) (σ:Za),(ZR σ ts)[s]?=some .free↔σ[s]?=some .free
 | [],σ=>Iff.rfl
 | t::ts,σ=>by
  simp only [ZR]
  split
  ·rename_i g k xs hs
   rw [ZfU ts,Xr]
   split
   ·rename_i e;subst e
    split
    ·simp [hs]
    ·simp [hs]
   ·exact Iff.rfl
  ·exact ZfU ts σ
theorem Zli {cs:List AVal} {t:Nat}:∀ (ts:List Nat) (σ:Za),σ[t]?=some (.var cs)->(ZR σ ts)[t]?=some (.var cs)
 | [],σ,h=>h
 | u::ts,σ,h=>by
  simp only [ZR]
  split
  ·rename_i g k xs hs
   refine Zli ts _ ?_
   rw [Xr]
   split
   ·rename_i e;subst e;rw [hs] at h;cases h
   ·exact h
  ·exact Zli ts σ h
theorem Zku:∀ (ts:List Nat) (σ:Za),s ∉ ts->ZR (σ.set s b) ts=(ZR σ ts).set s b
 | [],σ,_=>rfl
 | t::ts,σ,h=>by
  simp only [XA,not_or] at h
  have e:(σ.set s b)[t]?=σ[t]?:=by rw [Xr,if_neg h.1]
  simp only [ZR,e]
  split
  ·rw [W8 _ _ h.1,Zku ts _ h.2]
  ·exact Zku ts σ h.2
theorem ZgP {t:Nat} (h:s≠t):(σ.set s b).getD t .free=σ.getD t .free:=by
 rw [Xo,Xo,Xr,if_neg h]
theorem Zl4:∀ (n:Nat) (todo acc:List Nat),∀ x ∈ acc,x ∈ Zm σ n todo acc
 | 0,_,acc,x,h=>h
 | n+1,[],acc,x,h=>h
 | n+1,t::todo,acc,x,h=>by
  simp only [Zm]
  split
  ·exact Zl4 n todo acc x h
  ·exact Zl4 n _ _ x (by simp [h])
theorem ZmL:∀ (n:Nat) (todo acc:List Nat),s ∉ Zm σ n todo acc->Zm (σ.set s b) n todo acc=Zm σ n todo acc
 | 0,_,acc,_=>rfl
 | n+1,[],acc,_=>rfl
 | n+1,t::todo,acc,h=>by
  simp only [Zm] at h ⊢
  split
  ·rename_i hc;rw [if_pos hc] at h;exact ZmL n todo acc h
  ·rename_i hc
   rw [if_neg hc] at h
   have hne:s≠t:=by
    rintro rfl
    exact h (Zl4 n _ _ s (by simp))
   rw [ZgP hne]
   exact ZmL n _ _ h
theorem ZC6 {m:Nat} {ids:List Nat} (h:s ∉ ids):Zd (σ.set s b) m ids=Zd σ m ids:=by
 funext t g
 unfold Zd
 split
 ·rename_i j hj
  obtain ⟨k,_,hk⟩:=Zm1 hj
  have : s≠t:=by rintro rfl;exact h (Xt hk)
  rw [Xr,if_neg this]
 ·rfl
theorem ZpG {m:Nat} {ids:List Nat} {ρ:Rho}:∀ (ts:List Nat) (j:Nat),s ∉ ts->Zl (σ.set s b) m ids ρ ts j=Zl σ m ids ρ ts j
 | [],_,_=>rfl
 | t::ts,j,h=>by
  simp only [XA,not_or] at h
  simp only [Zl,ZgP h.1,ZpG ts (j+1) h.2]
theorem ZnP {ids:List Nat} (h:s ∉ ids):∀ (hp:Za) (j:Nat),Zbq (σ.set s b) ids hp j=Zbq σ ids hp j
 | [],_=>rfl
 | x::xs,j=>by
  simp only [Zbq,ZnP h xs (j+1)]
  congr 2
  split
  ·rename_i t ht
   have : s≠t:=by rintro rfl;exact h (Xt ht)
   rw [ZgP this]
  ·rfl
theorem Zn7:∀ (n sq:Nat),(∀ i,i < n->sq+i≠s)->ZbF (σ.set s b) sq n=ZbF σ sq n
 | 0,_,_=>rfl
 | n+1,sq,h=>by
  have h0:=h 0 (by omega)
  simp only [ZbF,freeAt]
  rw [Xr,if_neg (by intro e;exact h0 (by simpa using e.symm)),Zn7 n (sq+1) (fun i hi=>by have:=h (i+1) (by omega);rwa [show sq+1+i=sq+(i+1) by omega])]
theorem ZoB {ids:List Nat} (h:s ∉ ids):ZaS (σ.set s b) ids sq=ZaS σ ids sq:=by
 funext j g
 unfold ZaS
 split
 ·rename_i t ht
  have : s≠t:=by rintro rfl;exact h (Xt ht)
  rw [ZgP this]
 ·rfl
theorem Zou {σ0:Za} {ids:List Nat} (h:s ∉ ids):∀ (hp:Za) (j:Nat) (σ:Za),(∀ i,i < hp.length->ZaA ids sq (j+i)≠s)->ZaX (σ0.set s b) ids sq hp j (σ.set s b)=(ZaX σ0 ids sq hp j σ).set s b
 | [],_,_,_=>rfl
 | x::xs,j,σ,hn=>by
  have h0:=hn 0 (by simp)
  simp only [Wf] at h0
  have eg:Zbt (σ0.set s b) ids j x=Zbt σ0 ids j x:=by
   unfold Zbt
   split
   ·rename_i t ht
    have : s≠t:=by rintro rfl;exact h (Xt ht)
    rw [ZgP this]
   ·rfl
  simp only [ZaX,ZoB h,eg]
  rw [W8 _ _ (W0 h0)]
  exact Zou h xs (j+1) _ (fun i hi=>by have:=hn (i+1) (by simp;omega);rwa [show j+1+i=j+(i+1) by omega])
theorem ZpA:∀ (ids:List Nat),s ∉ ids->ZbQ (σ.set s b) ids=ZbQ σ ids
 | [],_=>rfl
 | t::ts,h=>by
  simp only [XA,not_or] at h
  simp only [ZbQ,Xr,if_neg h.1,ZpA ts h.2]
theorem Zx5 {ρ:Rho} {g:Nat} {x:ZU} (h:okB x=true):Zk ρ g x≠.free:=by
 cases x <;> simp [okB] at h <;> simp [Zk]
theorem ZlW {σ0:Za} {ids:List Nat}:∀ (hp:Za) (j:Nat) (σ:Za),Zbq σ0 ids hp j=true->(ZaX σ0 ids sq hp j σ)[s]?=some .free->σ[s]?=some .free
 | [],_,_,_,h=>h
 | x::xs,j,σ,hk,h=>by
  simp only [Zbq,Xp] at hk
  simp only [ZaX] at h
  have:=ZlW xs (j+1) _ hk.2 h
  rw [Xr] at this
  split at this
  ·split at this
   ·injection this with this;exact absurd this (Zx5 hk.1.1)
   ·cases this
  ·exact this
theorem ZuV {ts:List Nat} (h:ZdF σ ts) (hs:σ[s]?=some .free):s ∉ ts:=by
 intro hm
 obtain ⟨x,hx,hne⟩:=h s hm
 rw [hs] at hx;injection hx with hx;exact hne hx.symm
theorem Zp1 {f own:Nat} {view:Bool} {args:List AVal} {v:AVal} {c:Cls} (h:ZT O bf σ sq f own view args=some (v,σ',c)) (hs':σ'[s]?=some .free) (hne:∀ i,i < own->sq+i≠s) :
  σ[s]?=some .free/\ZT O bf (σ.set s b) sq f own view args=some (v,σ'.set s b,c):=by
 unfold ZT at h
 split at h
 ·cases h
 rename_i xs ts hsh
 have hnf:ZdF σ ts:=by
  unfold Zcm at hsh
  split at hsh
  ·simp only [Xa,Xb] at hsh
   rw [<-hsh.2];exact ZcR
  ·exact (Zjr hsh).nonfree
 have hag:∀ σ2,Agree σ σ2 ts->Zcm (bf f) σ2 args=some (xs,ts):=by
  intro σ2 hA
  unfold Zcm at hsh ⊢
  split at hsh
  ·rename_i hb;rw [if_pos hb];exact hsh
  ·rename_i hb;rw [if_neg hb];exact Zl2 hsh hA
 generalize hids:Zm (ZR σ ts) 1000 (Z4 xs) []=ids at h
 unfold Zbv at h
 split at h
 case isFalse=>cases h
 rename_i hall
 generalize hq:Zau view ids.length (O f (ZZ (Zd (ZR σ ts) 0 ids) xs) (Zl (ZR σ ts) 0 ids (Zd (ZR σ ts) 0 ids) ids 0))=q at h
 have key:σ[s]?=some .free->s ∉ ts/\s ∉ ids/\ZT O bf (σ.set s b) sq f own view args=Zay (σ.set s b) ((ZR σ ts).set s b) ids ts sq own q:=by
  intro hs
  have n1:=ZuV hnf hs
  have hsf:(ZR σ ts)[s]?=some .free:=(ZfU ts σ).2 hs
  have n2:s ∉ ids:=by
   intro hm
   have:=XH.1 hall s hm
   rw [Xo,hsf] at this
   simp [okB] at this
  refine ⟨n1,n2,?_⟩
  unfold ZT
  rw [hag _ (fun t ht=>by rw [Xr,if_neg (by rintro rfl;exact n1 ht)])]
  simp only
  rw [Zku ts σ n1,ZmL _ _ _ (by rw [hids];exact n2),hids]
  unfold Zbv
  have hall2:(ids.all fun t=>okB (((ZR σ ts).set s b).getD t .free))=true:=by
   rw [XH] at hall ⊢
   intro t ht
   rw [ZgP (by rintro rfl;exact n2 ht)]
   exact hall t ht
  rw [if_pos hall2,ZC6 n2,ZpG ids 0 n2,hq]
 cases q with
 | none=>simp only [Zay] at h;cases h
 | some q =>
  obtain ⟨r,hp⟩:=q
  simp only [Zay] at h
  split at h
  ·rename_i hc
   split at h
   ·rename_i hf
    simp only [Xa,Xb] at h
    obtain ⟨rfl,rfl,rfl⟩:=h
    obtain ⟨n1,n2,k⟩:=key hs'
    refine ⟨hs',?_⟩
    rw [k]
    simp only [Zay,hc,if_true,hf]
   split at h
   ·rename_i hf hap
    simp only [Xa,Xb] at h
    obtain ⟨rfl,rfl,rfl⟩:=h
    obtain ⟨n1,n2,k⟩:=key hs'
    refine ⟨hs',?_⟩
    have hap2:Zdw (σ.set s b) ts r=true:=by
     unfold Zdw at hap ⊢
     simp only [Xp] at hap ⊢
     refine ⟨hap.1,XH.2 fun t ht=>?_⟩
     have:=XH.1 hap.2 t ht
     unfold ZfS at this ⊢
     rw [Xr,if_neg (by rintro rfl;exact n1 ht)];exact this
    rw [k]
    simp only [Zay,hc,if_true,hf,hap2,if_false,Xm]
   ·rename_i hf hap
    simp only [Xa,Xb] at h
    obtain ⟨rfl,rfl,rfl⟩:=h
    have hs:=(ZfU ts σ).1 hs'
    obtain ⟨n1,n2,k⟩:=key hs
    refine ⟨hs,?_⟩
    have hap2:¬Zdw (σ.set s b) ts r=true:=by
     intro h2
     refine hap ?_
     unfold Zdw at h2 ⊢
     simp only [Xp] at h2 ⊢
     refine ⟨h2.1,XH.2 fun t ht=>?_⟩
     have:=XH.1 h2.2 t ht
     unfold ZfS at this ⊢
     rw [Xr,if_neg (by rintro rfl;exact n1 ht)] at this;exact this
    rw [k]
    simp only [Zay,hc,if_true,hf,if_neg hap2,if_false,Xm]
  ·rename_i hc
   split at h
   ·rename_i lo n k xs' hcl
    simp only [Xa,Xb] at h
    obtain ⟨rfl,rfl,rfl⟩:=h
    have hown:own=1:=by
     split at hcl
     case isFalse=>cases hcl
     unfold ZhM at hcl
     split at hcl
     case h_2=>cases hcl
     split at hcl
     case isFalse=>cases hcl
     rename_i hcc
     simp only [Xp,decide_eq_true_eq] at hcc
     exact hcc.1
    have hns:sq≠s:=by have:=hne 0 (by omega);simpa using this
    have hs:σ[s]?=some .free:=by rwa [Xr,if_neg hns] at hs'
    obtain ⟨n1,n2,kk⟩:=key hs
    refine ⟨hs,?_⟩
    rw [kk]
    simp only [Zay]
    rw [if_neg hc,hcl]
    simp only
    rw [W8 _ _ (W0 hns)]
   split at h
   ·rename_i hcl hcc
    simp only [Xa,Xb] at h
    obtain ⟨rfl,rfl,rfl⟩:=h
    simp only [Xp,decide_eq_true_eq] at hcc
    obtain ⟨⟨⟨c1,c2⟩,c3⟩,c4⟩:=hcc
    have hs:=(ZfU ts σ).1 (ZlW hp 0 _ c3 hs')
    obtain ⟨n1,n2,kk⟩:=key hs
    refine ⟨hs,?_⟩
    rw [kk]
    have htg:∀ i,i < hp.length->ZaA ids sq (0+i)≠s:=by
     intro i hi e
     rw [XD] at e
     unfold ZaA at e
     rw [Xo] at e
     rcases XaA i ids.length with hl | hl
     ·rw [Xz hl] at e
      simp only [WI] at e
      exact n2 (e ▸ Xaq hl)
     ·rw [XQ hl] at e
      exact hne (i - ids.length) (by omega) e
    simp only [Zay]
    rw [if_neg hc,hcl]
    simp only [c1,c2,decide_true,Bool.true_and,ZnP n2,c3,Zn7 own sq hne,c4,WV,if_true,ZoB n2,Zou n2 hp 0 _ htg,ZpA ids n2]
   ·cases h
theorem Zs5 {f own:Nat} {view:Bool} {args:List AVal} {v:AVal} {c:Cls} (h:ZT O bf σ sq f own view args=some (v,σ',c)) (hs:σ'[s]?=some .free):σ[s]?=some .free:=by
 unfold ZT at h
 split at h
 ·cases h
 rename_i xs ts hsh
 unfold Zbv at h
 split at h
 case isFalse=>cases h
 generalize Zm (ZR σ ts) 1000 (Z4 xs) []=ids at h
 generalize Zau view ids.length (O f (ZZ (Zd (ZR σ ts) 0 ids) xs) (Zl (ZR σ ts) 0 ids (Zd (ZR σ ts) 0 ids) ids 0))=q at h
 cases q with
 | none=>simp only [Zay] at h;cases h
 | some q =>
  obtain ⟨r,hp⟩:=q
  simp only [Zay] at h
  split at h
  ·split at h
   ·simp only [Xa,Xb] at h
    rw [h.2.1];exact hs
   split at h
   ·simp only [Xa,Xb] at h
    rw [h.2.1];exact hs
   ·simp only [Xa,Xb] at h
    rw [<-h.2.1] at hs
    exact (ZfU ts σ).1 hs
  ·split at h
   ·simp only [Xa,Xb] at h
    rw [<-h.2.1,Xr] at hs
    split at hs
    ·split at hs <;> simp at hs
    ·exact hs
   split at h
   ·rename_i hcc
    simp only [Xa,Xb] at h
    rw [<-h.2.1] at hs
    simp only [Xp,decide_eq_true_eq] at hcc
    exact (ZfU ts σ).1 (ZlW hp 0 _ hcc.1.2 hs)
   ·cases h
theorem Zls {t:Nat} {cs:List AVal}:∀ {ids:List Nat},(ZbQ σ ids).lookup t=some cs->σ[t]?=some (.var cs)
 | [],h=>by simp [ZbQ] at h
 | u::us,h=>by
  simp only [ZbQ] at h
  split at h
  ·rename_i cs' hu
   rw [X1] at h
   split at h
   ·rename_i e
    injection h with h;subst h
    have : t=u:=by simpa using e
    rw [this];exact hu
   ·exact Zls h
  ·exact Zls h
theorem ZiC {t:Nat} {cs:List AVal}:∀ {ids:List Nat},(ZbQ σ ids).lookup t=none->t ∈ ids->σ[t]?≠some (.var cs)
 | u::us,h,hm=>by
  intro hv
  simp only [ZbQ] at h
  rcases XA.1 hm with e | hm
  ·subst e
   rw [hv] at h
   simp only [X1,beq_self_eq_true] at h
   cases h
  ·split at h
   ·rw [X1] at h
    split at h
    ·cases h
    ·exact ZiC h hm hv
   ·exact ZiC h hm hv
theorem Zom {σ0:Za} {ids:List Nat} {t:Nat}:∀ (hp:Za) (j:Nat) (σ:Za),(∀ i x,hp[i]?=some x->ZaA ids sq (j+i)=t->∃ cs,x=.var cs)->(∃ cs,σ[t]?=some (.var cs))->∃ cs,(ZaX σ0 ids sq hp j σ)[t]?=some (.var cs)
 | [],_,_,_,h=>h
 | x::xs,j,σ,hv,⟨cs,h⟩=>by
  simp only [ZaX]
  refine Zom xs (j+1) _ (fun i y hy e=>hv (i+1) y (by simpa using hy) (by rwa [show j+(i+1)=j+1+i by omega])) ?_
  rw [Xr]
  split
  ·rename_i e
   obtain ⟨cs',rfl⟩:=hv 0 x rfl (by simpa using e)
   split
   ·exact ⟨_,rfl⟩
   ·rename_i hl
    rw [e] at hl
    rw [XQ (by omega)] at h;cases h
  ·exact ⟨cs,h⟩
theorem ZFy {f own:Nat} {view:Bool} {args:List AVal} {v:AVal} {c:Cls} (h:ZT O bf σ sq f own view args=some (v,σ',c)) (ha:c.any=true) {t:Nat} {cs:List AVal} (ht:σ[t]?=some (.var cs)) :
  (c.upd.lookup t=none->σ'[t]?=some (.var cs))/\(∀ cs2,c.upd.lookup t=some cs2->σ'[t]?=some (.var cs2)):=by
 unfold ZT at h
 split at h
 ·cases h
 rename_i xs ts hsh
 generalize hids:Zm (ZR σ ts) 1000 (Z4 xs) []=ids at h
 unfold Zbv at h
 split at h
 case isFalse=>cases h
 generalize Zau view ids.length (O f (ZZ (Zd (ZR σ ts) 0 ids) xs) (Zl (ZR σ ts) 0 ids (Zd (ZR σ ts) 0 ids) ids 0))=q at h
 cases q with
 | none=>simp only [Zay] at h;cases h
 | some q =>
  obtain ⟨r,hp⟩:=q
  simp only [Zay] at h
  split at h
  ·split at h
   ·simp only [Xa,Xb] at h
    rw [<-h.2.2] at ha;cases ha
   split at h
   ·simp only [Xa,Xb] at h
    rw [<-h.2.2] at ha;cases ha
   ·simp only [Xa,Xb] at h
    rw [<-h.2.2] at ha;cases ha
  ·split at h
   ·simp only [Xa,Xb] at h
    rw [<-h.2.2] at ha;cases ha
   split at h
   ·rename_i hcc
    simp only [Xa,Xb] at h
    obtain ⟨_,rfl,rfl⟩:=h
    simp only [Xp,decide_eq_true_eq] at hcc
    obtain ⟨⟨⟨c1,c2⟩,c3⟩,c4⟩:=hcc
    have hf:=Zli ts σ ht
    refine ⟨fun hn=>?_,fun cs2 hc2=>Zls hc2⟩
    have tgt:∀ i,i < hp.length->ZaA ids sq (0+i)=t->i < ids.length/\ids[i]?=some t:=by
     intro i hi e
     rw [XD] at e
     unfold ZaA at e
     rw [Xo] at e
     rcases XaA i ids.length with hl | hl
     ·rw [Xz hl] at e ⊢
      simp only [WI] at e
      exact ⟨hl,by rw [e]⟩
     ·rw [XQ hl] at e
      simp only [Xa1] at e
      have:=ZhI c4 (i:=i - ids.length) (by omega)
      rw [e,hf] at this;cases this
    by_cases hm:t ∈ ids
    ·exfalso
     obtain ⟨cs3,h3⟩:=Zom (σ0:=ZR σ ts) (sq:=sq) (ids:=ids) (t:=t) hp 0 (ZR σ ts) (fun i x hx e=>by
      obtain ⟨hl,hi⟩:=tgt i (Xn.1 hx).1 e
      have:=(Zf7 c3 hx).2
      rw [XD,hi] at this
      simp only at this
      have hk:=this.1
      rw [Xo,hf] at hk
      simp only [WI] at hk
      cases x <;> simp [ZdX] at hk
      exact ⟨_,rfl⟩) ⟨_,hf⟩
     exact ZiC hn hm h3
    ·rw [Zh9 (fun i hi e=>hm (by
      obtain ⟨hl,hi⟩:=tgt i hi e
      exact Xt hi))]
     exact hf
   ·cases h
end
end
section
open Go.RowKit
section
variable {P:Program} {O:ZW} {bf:Nat->Bool} {tm tm1 tm2:Tms} {σ σ' σ1 σ2:Za} {sq:Nat}
theorem Zpq {d:Option Nat} {v:AVal} {n:Nat} (h:d≠some n):tget (tput tm d v) n=tget tm n:=by
 cases d with
 | none=>rfl
 | some d =>
  have : d≠n:=by rintro rfl;exact h rfl
  simp only [tput,Zhy,this,if_false]
theorem Zni {a b:Nat} (u v:AVal) (h:a≠b):∀ tm:Tms,tins b v (tins a u tm)=tins a u (tins b v tm)
 | []=>by
  simp only [tins]
  by_cases h1:a < b
  ·have h2:¬b < a:=by omega
   have h3:¬b=a:=by omega
   simp [h1,h2,h3,tins]
  ·have h2:b < a:=by omega
   have h3:¬a=b:=h
   simp [h1,h2,h3,tins]
 | (e,w)::r=>by
  have ih:=Zni u v h r
  rcases Nat.lt_trichotomy e a with ha | ha | ha <;> rcases Nat.lt_trichotomy e b with hb | hb | hb
  ·rcases Nat.lt_or_gt_of_ne h with hab | hab
   ·have n1:¬b < a:=by omega
    have n2:¬b=a:=by omega
    simp [tins,ha,hb,hab,n1,n2]
   ·have n1:¬a < b:=by omega
    have n2:¬a=b:=h
    simp [tins,ha,hb,hab,n1,n2]
  ·subst hb
   have n1:¬a < e:=by omega
   have n2:¬a=e:=h
   simp [tins,ha,n1,n2]
  ·have n1:¬a < b:=by omega
   have n2:¬a=b:=h
   have n3:¬e < b:=by omega
   have n4:¬e=b:=by omega
   simp [tins,ha,n1,n2,n3,n4]
  ·subst ha
   have n1:¬b < e:=by omega
   have n2:¬b=e:=fun q=>h q.symm
   simp [tins,hb,n1,n2]
  ·exact absurd (ha.symm.trans hb) h
  ·subst ha
   have n3:¬e < b:=by omega
   have n4:¬e=b:=by omega
   simp [tins,n3,n4]
  ·have n1:¬b < a:=by omega
   have n2:¬b=a:=by omega
   have n3:¬e < a:=by omega
   have n4:¬e=a:=by omega
   simp [tins,hb,n1,n2,n3,n4]
  ·subst hb
   have n3:¬e < a:=by omega
   have n4:¬e=a:=by omega
   simp [tins,n3,n4]
  ·have n1:¬e < a:=by omega
   have n2:¬e=a:=by omega
   have n3:¬e < b:=by omega
   have n4:¬e=b:=by omega
   simp [tins,n1,n2,n3,n4,ih]
theorem ZdR {a b:Option Nat} (u v:AVal) (h:∀ d,a=some d->b≠some d):tput (tput tm a u) b v=tput (tput tm b v) a u:=by
 cases a with
 | none=>cases b <;> rfl
 | some a =>
  cases b with
  | none=>rfl
  | some b =>
   simp only [tput]
   exact Zni u v (by rintro rfl;exact h a rfl rfl) tm
theorem Zdu {g:Option (Nat×Bool)} (h:∀ j b,g=some (j,b)->tget tm j=tget tm1 j):Za9 g tm=Za9 g tm1:=by
 cases g with
 | none=>rfl
 | some g=>simp only [Za9];rw [h g.1 g.2 rfl]
theorem Zdg {o:AOp} {j:Nat} {b:Bool} (h:o.guard=some (j,b)):j ∈ o.reads:=by simp [AOp.reads,h]
theorem Zf5 {o:AOp} {n:Nat} (h:n ∈ o.ins.reads):n ∈ o.reads:=by simp [AOp.reads,h]
theorem Zfh {o:AOp} {v:AVal} {c:Cls} (h:ZS O bf o sq tm σ=some (v,tm1,σ1,c)):tm1=tput tm o.dst v/\∀ tm',(∀ n ∈ o.reads,tget tm n=tget tm' n)->ZS O bf o sq tm' σ=some (v,tput tm' o.dst v,σ1,c):=by
 unfold ZS at h
 split at h
 ·cases h
 ·rename_i hw
  simp only [Xa,Xb] at h
  obtain ⟨rfl,rfl,rfl,rfl⟩:=h
  refine ⟨rfl,fun tm' hr=>?_⟩
  simp only [ZS,Zdu (g:=o.guard) (tm:=tm') (tm1:=tm) (fun j b hg=>(hr j (Zdg hg)).symm),hw]
 ·rename_i hw
  split at h
  ·rename_i hf
   split at h
   ·rename_i v' σ'' c' he
    simp only [Xa,Xb] at h
    obtain ⟨rfl,rfl,rfl,rfl⟩:=h
    refine ⟨rfl,fun tm' hr=>?_⟩
    simp only [ZS,Zdu (g:=o.guard) (tm:=tm') (tm1:=tm) (fun j b hg=>(hr j (Zdg hg)).symm),hw]
    rw [if_pos hf,<-Zfy (tm:=tm) (tm':=tm') (fun n hn=>hr n (Zf5 hn)),he]
   ·cases h
  ·cases h
theorem Zgv {o:AOp} {v:AVal} {c:Cls} (h:ZS O bf o sq tm σ=some (v,tm1,σ1,c)) (hn:ZcT c=true) :
  ∃ ob,tm1=tput tm o.dst v/\σ1=Zaw σ sq ob/\(ob.isSome=true->nsite o.ins≠0/\freeAt σ sq=true)/\ob≠some .free/\ZdF σ c.rd /\
   ∀ tm' σ2,(∀ n ∈ o.reads,tget tm n=tget tm' n)->Agree σ σ2 c.rd->(nsite o.ins≠0->freeAt σ sq=true->freeAt σ2 sq=true)->ZS O bf o sq tm' σ2=some (v,tput tm' o.dst v,Zaw σ2 sq ob,c):=by
 simp only [ZcT,Xp,Xar,Wo] at hn
 unfold ZS at h
 split at h
 ·cases h
 ·rename_i hw
  simp only [Xa,Xb] at h
  obtain ⟨rfl,rfl,rfl,rfl⟩:=h
  refine ⟨none,rfl,rfl,by simp,by simp,ZcR,fun tm' σ2 hr _ _=>?_⟩
  simp only [ZS,Zdu (g:=o.guard) (tm:=tm') (tm1:=tm) (fun j b hg=>(hr j (Zdg hg)).symm),hw,Zaw]
 ·rename_i hw
  split at h
  ·rename_i hf
   split at h
   ·rename_i v' σ'' c' he
    simp only [Xa,Xb] at h
    obtain ⟨rfl,rfl,rfl,rfl⟩:=h
    obtain ⟨ob,e1,e2,e3,e4,e5⟩:=Zym he hn.1 hn.2
    refine ⟨ob,rfl,e1,fun ho=>⟨e2 ho,?_⟩,e3,e4,fun tm' σ2 hr hA hfr=>?_⟩
    ·have:=e2 ho
     simpa [this] using hf
    ·have hf2:(nsite o.ins == 0 || freeAt σ2 sq)=true:=by
      by_cases h0:nsite o.ins=0
      ·simp [h0]
      ·simp only [WO,beq_iff_eq,h0,false_or] at hf ⊢
       exact hfr h0 hf
     simp only [ZS,Zdu (g:=o.guard) (tm:=tm') (tm1:=tm) (fun j b hg=>(hr j (Zdg hg)).symm),hw]
     have e5':execI O bf tm σ2 sq o.ins=some (v',Zaw σ2 sq ob,c'):=e5 σ2 hA
     rw [if_pos hf2,<-Zfy (tm:=tm) (tm':=tm') (fun n hn=>hr n (Zf5 hn)),e5']
   ·cases h
  ·cases h
theorem Zd5 {s:Nat}:freeAt σ s=true↔σ[s]?=some .free:=by
 unfold freeAt
 split
 ·rename_i h;simp [h]
 ·rename_i h
  constructor
  ·intro h';cases h'
  ·intro h';exact absurd h' h
theorem Zho {s t:Nat} {ob:Option ZU} (h:ob.isSome=true->s≠t):(Zaw σ s ob)[t]?=σ[t]?:=by
 cases ob with
 | none=>rfl
 | some b=>simp only [Zaw];rw [Xr,if_neg (h rfl)]
theorem Zzo {s t:Nat} {ob oc:Option ZU} (h:ob.isSome=true->oc.isSome=true->s≠t):Zaw (Zaw σ s ob) t oc=Zaw (Zaw σ t oc) s ob:=by
 cases ob with
 | none=>cases oc <;> rfl
 | some b =>
  cases oc with
  | none=>rfl
  | some c=>simp only [Zaw];exact W8 b c (h rfl rfl)
theorem ZBc {x y:AVal} (h:ZbP x y=true):x=y:=by
 unfold ZbP at h
 split at h
 all_goals first
  | rfl
  | (cases h;done)
  | (simp only [Xp,decide_eq_true_eq,beq_iff_eq] at h;simp_all;done)
theorem Zi4 {o:AOp} {v:AVal} {c:Cls} (hc:ZaK o.ins=true) (h:ZS O bf o sq tm σ=some (v,tm1,σ1,c)) :
  (Za9 o.guard tm=some false/\v=.tup []/\σ1=σ/\c={}) \/
  (Za9 o.guard tm=some true/\(nsite o.ins == 0 || freeAt σ sq)=true/\∃ f own view args,own<=nsite o.ins/\(∀ tm' σ2 v2 σ3 c2,(∀ n ∈ o.reads,tget tm n=tget tm' n)->(nsite o.ins == 0 || freeAt σ2 sq)=true->ZT O bf σ2 sq f own view args=some (v2,σ3,c2)->ZS O bf o sq tm' σ2=some (v2,tput tm' o.dst v2,σ3,c2))/\ZT O bf σ sq f own view args=some (v,σ1,c)):=by
 unfold ZS at h
 split at h
 ·cases h
 ·rename_i hw
  simp only [Xa,Xb] at h
  obtain ⟨rfl,rfl,rfl,rfl⟩:=h
  exact Xs ⟨hw,rfl,rfl,rfl⟩
 ·rename_i hw
  split at h
  ·rename_i hf
   split at h
   ·rename_i v' σ'' c' he
    simp only [Xa,Xb] at h
    obtain ⟨rfl,rfl,rfl,rfl⟩:=h
    refine Xy ⟨hw,hf,?_⟩
    have gen:∀ tm' σ2,(∀ n ∈ o.reads,tget tm n=tget tm' n)->(nsite o.ins == 0 || freeAt σ2 sq)=true->∀ v2 σ3 c2,execI O bf tm σ2 sq o.ins=some (v2,σ3,c2)->ZS O bf o sq tm' σ2=some (v2,tput tm' o.dst v2,σ3,c2):=by
     intro tm' σ2 hr hf2 v2 σ3 c2 he2
     simp only [ZS,Zdu (g:=o.guard) (tm:=tm') (tm1:=tm) (fun j b hg=>(hr j (Zdg hg)).symm),hw]
     rw [if_pos hf2,<-Zfy (tm:=tm) (tm':=tm') (fun n hn=>hr n (Zf5 hn)),he2]
    cases hins:o.ins with
    | call f own view args =>
     rw [hins] at he gen
     simp only [execI] at he gen
     refine ⟨f,own,view,args.map (·.ev tm),X3 _,fun tm' σ2 v2 σ3 c2 hr hf2 h2=>?_,he⟩
     exact gen tm' σ2 hr hf2 v2 σ3 c2 h2
    | callv x args =>
     rw [hins] at he gen
     simp only [execI] at he
     split at he
     ·rename_i f caps hx
      refine ⟨(if f < 1000000 then f else f - 1000000),4,false,(if f < 1000000 then args.map (·.ev tm)++caps else caps++args.map (·.ev tm)),by simp [nsite],fun tm' σ2 v2 σ3 c2 hr hf2 h2=>?_,he⟩
      refine gen tm' σ2 hr hf2 v2 σ3 c2 ?_
      simp only [execI,hx]
      exact h2
     ·cases he
    | _=>rw [hins] at hc;simp [ZaK] at hc
   ·cases h
  ·cases h
theorem ZEY {o:AOp} {v:AVal} {c:Cls} {s:Nat} (hc:ZaK o.ins=true) (h:ZS O bf o sq tm σ=some (v,tm1,σ1,c)) (hs:σ1[s]?=some .free) (hne:∀ i,i < nsite o.ins->sq+i≠s) :
  σ[s]?=some .free/\∀ b tm',(∀ n ∈ o.reads,tget tm n=tget tm' n)->ZS O bf o sq tm' (σ.set s b)=some (v,tput tm' o.dst v,σ1.set s b,c):=by
 have h0:=h
 rcases Zi4 hc h with ⟨hw,rfl,rfl,rfl⟩ | ⟨hw,hf,f,own,view,args,ho,gen,hg⟩
 ·refine ⟨hs,fun b tm' hr=>?_⟩
  simp only [ZS,Zdu (g:=o.guard) (tm:=tm') (tm1:=tm) (fun j b hg=>(hr j (Zdg hg)).symm),hw]
 ·obtain ⟨k1,k2⟩:=Zp1 (b:=.free) hg hs (fun i hi=>hne i (by omega))
  refine ⟨k1,fun b tm' hr=>gen tm' _ _ _ _ hr ?_ (Zp1 (b:=b) hg hs (fun i hi=>hne i (by omega))).2⟩
  by_cases h0:nsite o.ins=0
  ·simp [h0]
  ·simp only [WO,beq_iff_eq,h0,false_or,Zd5] at hf ⊢
   have:=hne 0 (by omega)
   rw [Xr,if_neg (by intro e;exact this (by simpa using e.symm))]
   exact hf
theorem ZFq {o:AOp} {v:AVal} {c:Cls} {s:Nat} (hc:ZaK o.ins=true) (h:ZS O bf o sq tm σ=some (v,tm1,σ1,c)) (hs:σ1[s]?=some .free):σ[s]?=some .free:=by
 rcases Zi4 hc h with ⟨hw,rfl,rfl,rfl⟩ | ⟨hw,hf,f,own,view,args,ho,gen,hg⟩
 ·exact hs
 ·exact Zs5 hg hs
theorem Zvp {o:AOp} {v:AVal} {c:Cls} {t:Nat} {cs:List AVal} (hc:ZaK o.ins=true) (h:ZS O bf o sq tm σ=some (v,tm1,σ1,c)) (ha:c.any=true) (ht:σ[t]?=some (.var cs)) :
  (c.upd.lookup t=none->σ1[t]?=some (.var cs))/\(∀ cs2,c.upd.lookup t=some cs2->σ1[t]?=some (.var cs2)):=by
 rcases Zi4 hc h with ⟨hw,rfl,rfl,rfl⟩ | ⟨hw,hf,f,own,view,args,ho,gen,hg⟩
 ·cases ha
 ·exact ZFy hg ha ht
theorem ZzG {σ σ1 : Za} {sq k bytes : Nat} {x y v : AVal} {c : Cls} {t : Nat} {cs : List AVal} (h : ZaE σ sq k bytes x y = some (v, σ1, c)) (hs : sq ≠ t) (ht : σ[t]? = some (.var cs)) : σ1[t]? = some (.var cs) := by
  have key : ∀ (u : Nat) (b : ZU), (u = sq \/ ∃ b0, σ[u]? = some b0 /\ ∀ cs, b0 ≠ .var cs) -> (σ.set u b)[t]? = some (.var cs) := by
    intro u b hu
    rw [Xr, if_neg, ht]
    rintro rfl
    rcases hu with rfl | ⟨b0, h1, h2⟩
    . exact hs rfl
    . rw [ht] at h1; injection h1 with h1; exact h2 _ h1.symm
  unfold ZaE at h
  repeat' split at h
  all_goals first
    | (cases h; done)
    | (unfold Zeg at h
       repeat' split at h
       all_goals first
         | (cases h; done)
         | (simp only [Xa, Xb] at h
            obtain ⟨-, rfl, -⟩ := h
            first
              | exact key _ _ (Xs rfl)
              | exact key _ _ (Xy ⟨_, by assumption, by simp⟩)))
    | (simp only [Xa, Xb] at h
       obtain ⟨-, rfl, -⟩ := h
       first
         | exact ht
         | exact key _ _ (Xs rfl)
         | exact key _ _ (Xy ⟨_, by assumption, by simp⟩))
theorem Zxl {o:AOp} {v:AVal} {c:Cls} {t:Nat} {cs:List AVal} (hc:ZaR o.ins=true) (h:ZS O bf o sq tm σ=some (v,tm1,σ1,c)) (ht:σ[t]?=some (.var cs)):σ1[t]?=some (.var cs):=by
 unfold ZS at h
 split at h
 ·cases h
 ·simp only [Xa,Xb] at h
  obtain ⟨rfl,rfl,rfl,rfl⟩:=h
  exact ht
 ·split at h
  ·rename_i hf
   split at h
   ·rename_i v' σ'' c' he
    simp only [Xa,Xb] at h
    obtain ⟨rfl,rfl,rfl,rfl⟩:=h
    cases hins:o.ins with
    | app k bytes z x y =>
     rw [hins] at he hf
     simp only [execI] at he
     refine ZzG he ?_ ht
     rintro rfl
     simp [nsite,freeAt,ht] at hf
    | _=>rw [hins] at hc;simp [ZaR] at hc
   ·cases h
  ·cases h
theorem Zoi {σ σ1 : Za} {sq k bytes : Nat} {x y v : AVal} {c : Cls} {s : Nat} (h : ZaE σ sq k bytes x y = some (v, σ1, c)) (hs : σ1[s]? = some .free) : σ[s]? = some .free := by
  have key : ∀ (u : Nat) (b0 : ZU), b0 ≠ .free -> (σ.set u b0)[s]? = some .free -> σ[s]? = some .free := by
    intro u b0 hb hh
    rw [Xr] at hh
    split at hh
    . split at hh
      . injection hh with hh; exact absurd hh hb
      . cases hh
    . exact hh
  unfold ZaE at h
  repeat' split at h
  all_goals first
    | (cases h; done)
    | (unfold Zeg at h
       repeat' split at h
       all_goals first
         | (cases h; done)
         | (simp only [Xa, Xb] at h
            obtain ⟨-, rfl, -⟩ := h
            exact key _ _ (by simp) hs))
    | (simp only [Xa, Xb] at h
       obtain ⟨-, rfl, -⟩ := h
       first
         | exact hs
         | exact key _ _ (by simp) hs)
theorem Zw9 {σ σ1 : Za} {sq k bytes : Nat} {x y v : AVal} {c : Cls} {s : Nat} (ha : c.any = false) (h : ZaE σ sq k bytes x y = some (v, σ1, c)) (hs : σ[s]? = some .free) (hne : sq ≠ s) (b : ZU) : ZaE (σ.set s b) sq k bytes x y = some (v, σ1.set s b, c) := by
  have get : ∀ (t : Nat) (b0 : ZU), σ[t]? = some b0 -> b0 ≠ .free -> (σ.set s b)[t]? = some b0 /\ s ≠ t := by
    intro t b0 h1 h2
    have hst : s ≠ t := by
      rintro rfl
      rw [hs] at h1; injection h1 with h1; exact h2 h1.symm
    exact ⟨by rw [WW hst]; exact h1, hst⟩
  have hel : ∀ ys us, Zn σ y = some (ys, us) -> Zn (σ.set s b) y = some (ys, us) := by
    intro ys us he
    unfold Zn at he ⊢
    split at he
    . exact he
    . exact he
    . split at he
      . rename_i hr
        rw [(get _ _ hr (by simp)).1]; exact he
      . rename_i hr
        rw [(get _ _ hr (by simp)).1]; exact he
      . cases he
    . cases he
  unfold ZaE at h
  cases he : Zn σ y with
  | none =>
    rw [he] at h
    simp only at h
    unfold Zeg at h
    repeat' split at h
    all_goals first
      | (cases h; done)
      | (simp only [Xa, Xb] at h
         obtain ⟨-, -, rfl⟩ := h
         cases ha)
  | some z =>
    obtain ⟨ys, us⟩ := z
    rw [he] at h
    simp only at h
    unfold ZaE
    rw [hel _ _ he]
    simp only
    split at h
    case isFalse => cases h
    rename_i hk
    rw [if_pos hk]
    split at h
    . split at h
      case isFalse => cases h
      rename_i h1
      simp only [Xa, Xb] at h
      obtain ⟨rfl, rfl, rfl⟩ := h
      simp only [h1, if_true]
      rw [W8 _ _ hne]
    . split at h
      case isFalse => cases h
      rename_i h1
      simp only [h1, and_self, if_true]
      split at h
      . simp only [Xa, Xb] at h
        obtain ⟨rfl, rfl, rfl⟩ := h
        rfl
      . simp only [Xa, Xb] at h
        obtain ⟨rfl, rfl, rfl⟩ := h
        rw [W8 _ _ hne]
    . split at h
      . rename_i hr
        obtain ⟨g1, g2⟩ := get _ _ hr (by simp)
        rw [g1]
        simp only
        split at h
        case isFalse => cases h
        rename_i h1
        rw [if_pos h1]
        split at h
        . rename_i h2
          rw [if_pos h2]
          simp only [Xa, Xb] at h
          obtain ⟨rfl, rfl, rfl⟩ := h
          rw [W8 _ _ g2]
        . rename_i h2
          rw [if_neg h2]
          split at h
          case isFalse => cases h
          rename_i h3
          rw [if_pos h3]
          simp only [Xa, Xb] at h
          obtain ⟨rfl, rfl, rfl⟩ := h
          rw [W8 _ _ g2]
      . cases h
    . cases h
theorem ZmU {o:AOp} {v:AVal} {c:Cls} (hc:ZaR o.ins=true) (h:ZS O bf o sq tm σ=some (v,tm1,σ1,c)) :
  (Za9 o.guard tm=some false/\v=.tup []/\σ1=σ/\c={})\/(freeAt σ sq=true/\∃ k bytes x y,ZaE σ sq k bytes x y=some (v,σ1,c)/\∀ tm' σ2 v2 σ3 c2,(∀ n ∈ o.reads,tget tm n=tget tm' n)->freeAt σ2 sq=true->ZaE σ2 sq k bytes x y=some (v2,σ3,c2)->ZS O bf o sq tm' σ2=some (v2,tput tm' o.dst v2,σ3,c2)):=by
 unfold ZS at h
 split at h
 ·cases h
 ·rename_i hw
  simp only [Xa,Xb] at h
  obtain ⟨rfl,rfl,rfl,rfl⟩:=h
  exact Xs ⟨hw,rfl,rfl,rfl⟩
 ·rename_i hw
  split at h
  ·rename_i hf
   split at h
   ·rename_i v' σ'' c' he
    simp only [Xa,Xb] at h
    obtain ⟨rfl,rfl,rfl,rfl⟩:=h
    cases hins:o.ins with
    | app k bytes z x y =>
     have he0:=he
     rw [hins] at he hf
     simp only [execI] at he
     refine Xy ⟨by simpa [nsite] using hf,k,bytes,_,_,he,fun tm' σ2 v2 σ3 c2 hr hf2 h2=>?_⟩
     simp only [ZS,Zdu (g:=o.guard) (tm:=tm') (tm1:=tm) (fun j b hg=>(hr j (Zdg hg)).symm),hw]
     rw [if_pos (by rw [hf2];simp),<-Zfy (tm:=tm) (tm':=tm') (fun n hn=>hr n (Zf5 hn)),hins]
     simp only [execI,h2]
    | _=>rw [hins] at hc;simp [ZaR] at hc
   ·cases h
  ·cases h
theorem Zmj {t:Nat} {cs:List AVal}:∀ (ts:List Nat) (σ:Za),σ[t]?=some (.var cs)->(ZR σ ts)[t]?=some (.var cs)
 | [],σ,h=>h
 | u::ts,σ,h=>by
  unfold ZR
  split
  ·rename_i g k xs hu
   refine Zmj ts _ ?_
   rw [Xr,if_neg,h]
   rintro rfl
   rw [hu] at h;cases h
  ·exact Zmj ts σ h
theorem ZyF {σ σ1 : Za} {k : Nat} {a x v : AVal} {c : Cls} {t : Nat} {cs : List AVal} (h : stA σ k a x = some (v, σ1, c)) (hw : c.wr.contains t = false) (ht : σ[t]? = some (.var cs)) : σ1[t]? = some (.var cs) := by
  unfold stA at h
  repeat' split at h
  all_goals first
    | (cases h; done)
    | (simp only [Xa, Xb] at h
       obtain ⟨-, rfl, rfl⟩ := h
       simp only [Xax, XK, Xao, XaG, beq_eq_false_iff_ne, ne_eq] at hw
       first
         | (rw [Xr, if_neg (fun e => hw e.symm)]; exact ht)
         | (rw [Xr, if_neg (fun e => hw.1 e.symm)]; exact Zmj _ _ ht))
theorem Zve {σ σ1 : Za} {s kc : Nat} {z m k v : AVal} {c : Cls} {t : Nat} {cs : List AVal} (hs : σ[s]? = some .free) (h : ZeR σ s kc z m k = some (v, σ1, c)) (hw : c.wr.contains t = false) (ht : σ[t]? = some (.var cs)) : σ1[t]? = some (.var cs) := by
  have hne : t ≠ s := by rintro rfl; rw [hs] at ht; cases ht
  unfold ZeR at h
  repeat' split at h
  all_goals first
    | (cases h; done)
    | (simp only [Xa, Xb] at h
       obtain ⟨-, rfl, rfl⟩ := h
       simp only [Xax, XK, Xao, beq_eq_false_iff_ne, ne_eq] at hw
       first
         | exact ht
         | (rw [Xr, if_neg (fun e => hw e.symm), Xr, if_neg (fun e => hne e.symm)]; exact ht))
theorem Zuv {σ σ1 : Za} {s kc : Nat} {z m k v : AVal} {c : Cls} {t : Nat} (h : ZeR σ s kc z m k = some (v, σ1, c)) (hw : c.wr.contains t = false) (hne : t ≠ s) : σ1[t]? = σ[t]? := by
  unfold ZeR at h
  repeat' split at h
  all_goals first
    | (cases h; done)
    | (simp only [Xa, Xb] at h
       obtain ⟨-, rfl, rfl⟩ := h
       simp only [Xax, XK, Xao, beq_eq_false_iff_ne, ne_eq] at hw
       first
         | rfl
         | (rw [Xr, if_neg (fun e => hw e.symm), Xr, if_neg (fun e => hne e.symm)]))
theorem Zk8 {t:Nat}:∀ (ts:List Nat) (σ:Za),ts.contains t=false->(ZR σ ts)[t]?=σ[t]?
 | [],σ,_=>rfl
 | u::ts,σ,h=>by
  simp only [Xax,XaG,beq_eq_false_iff_ne,ne_eq] at h
  unfold ZR
  split
  ·rw [Zk8 ts _ h.2,Xr,if_neg (fun e=>h.1 e.symm)]
  ·exact Zk8 ts _ h.2
theorem Zyk {σ σ1 : Za} {k : Nat} {a x v : AVal} {c : Cls} {t : Nat} (h : stA σ k a x = some (v, σ1, c)) (hw : c.wr.contains t = false) : σ1[t]? = σ[t]? := by
  unfold stA at h
  repeat' split at h
  all_goals first
    | (cases h; done)
    | (simp only [Xa, Xb] at h
       obtain ⟨-, rfl, rfl⟩ := h
       simp only [Xax, XK, Xao, XaG, beq_eq_false_iff_ne, ne_eq] at hw
       first
         | (rw [Xr, if_neg (fun e => hw e.symm)])
         | (rw [Xr, if_neg (fun e => hw.1 e.symm)]; exact Zk8 _ _ hw.2))
theorem Zz3 {o:AOp} {v:AVal} {c:Cls} {t:Nat} (hc:Za5 o.ins=true) (h:ZS O bf o sq tm σ=some (v,tm1,σ1,c)) (hw:c.wr.contains t=false) (hne:t≠sq):σ1[t]?=σ[t]?:=by
 unfold ZS at h
 split at h
 ·cases h
 ·simp only [Xa,Xb] at h
  obtain ⟨rfl,rfl,rfl,rfl⟩:=h
  rfl
 ·split at h
  ·split at h
   ·rename_i v' σ'' c' he
    simp only [Xa,Xb] at h
    obtain ⟨rfl,rfl,rfl,rfl⟩:=h
    cases hins:o.ins with
    | st k x y =>
     rw [hins] at he
     simp only [execI] at he
     exact Zyk he hw
    | glook kc z m k =>
     rw [hins] at he
     simp only [execI] at he
     exact Zuv he hw hne
    | _=>rw [hins] at hc;simp [Za5] at hc
   ·cases h
  ·cases h
theorem Zwc {o:AOp} {v:AVal} {c:Cls} {t:Nat} {cs:List AVal} (hc:Za5 o.ins=true) (hw:c.wr.contains t=false) (h:ZS O bf o sq tm σ=some (v,tm1,σ1,c)) (ht:σ[t]?=some (.var cs)):σ1[t]?=some (.var cs):=by
 unfold ZS at h
 split at h
 ·cases h
 ·simp only [Xa,Xb] at h
  obtain ⟨rfl,rfl,rfl,rfl⟩:=h
  exact ht
 ·split at h
  ·rename_i hf
   split at h
   ·rename_i v' σ'' c' he
    simp only [Xa,Xb] at h
    obtain ⟨rfl,rfl,rfl,rfl⟩:=h
    cases hins:o.ins with
    | st k x y =>
     rw [hins] at he hf
     simp only [execI] at he
     exact ZyF he hw ht
    | glook kc z m k =>
     rw [hins] at he hf
     simp only [execI] at he
     exact Zve (by simpa [nsite,Zd5] using hf) he hw ht
    | _=>rw [hins] at hc;simp [Za5] at hc
   ·cases h
  ·cases h
theorem Zna {o : AOp} {v : AVal} {c ci : Cls} (hl : ZaQ o.ins = true) (h : ZS O bf o sq tm σ = some (v, tm1, σ1, c)) (hg : ZaT c ci = true) :
    ∃ t k off, c.got = [(t, k, off, v)] /\ σ1 = σ /\ tm1 = tput tm o.dst v /\ (∀ tm' σ2, (∀ n ∈ o.reads, tget tm n = tget tm' n) -> (∃ cs, σ2[t]? = some (.var cs) /\ partA k cs off = some v) -> ZS O bf o sq tm' σ2 = some (v, tput tm' o.dst v, σ2, c)) /\ ∃ cs, σ[t]? = some (.var cs) /\ partA k cs off = some v := by
  unfold ZS at h
  split at h
  . cases h
  . simp only [Xa, Xb] at h
    obtain ⟨rfl, rfl, rfl, rfl⟩ := h
    simp [ZaT] at hg
  . rename_i hw
    split at h
    . rename_i hf
      split at h
      . rename_i v' σ'' c' he
        simp only [Xa, Xb] at h
        obtain ⟨rfl, rfl, rfl, rfl⟩ := h
        cases hins : o.ins with
        | ld k a =>
          rw [hins] at he hf
          simp only [execI] at he
          have he0 := he
          unfold ldA at he
          split at he
          . rename_i t off ha
            split at he
            . rename_i cs hcs
              split at he
              . rename_i v2 hp
                simp only [Xa, Xb] at he
                obtain ⟨rfl, rfl, rfl⟩ := he
                refine ⟨t, k, off, rfl, rfl, rfl, fun tm' σ2 hr ⟨cs2, h1, h2⟩ => ?_, cs, hcs, hp⟩
                simp only [ZS, Zdu (g := o.guard) (tm := tm') (tm1 := tm) (fun j b hg => (hr j (Zdg hg)).symm), hw]
                rw [if_pos (by rw [hins]; rfl), <- Zfy (tm := tm) (tm' := tm') (fun n hn => hr n (Zf5 hn)), hins]
                simp only [execI, ha, ldA, h1, h2]
              . cases he
            . cases he
          . repeat' split at he
            all_goals first
              | (cases he; done)
              | (simp only [Xa, Xb] at he
                 obtain ⟨rfl, rfl, rfl⟩ := he
                 simp [ZaT] at hg)
          . repeat' split at he
            all_goals first
              | (cases he; done)
              | (simp only [Xa, Xb] at he
                 obtain ⟨rfl, rfl, rfl⟩ := he
                 simp [ZaT] at hg)
          . cases he
        | _ => rw [hins] at hl; simp [ZaQ] at hl
      . cases h
    . cases h
theorem Zwv {o:AOp} {v:AVal} {c:Cls} {s:Nat} (hc:ZaK o.ins=true\/(ZaR o.ins=true/\(!c.any)=true)) (h:ZS O bf o sq tm σ=some (v,tm1,σ1,c)) (hs:σ1[s]?=some .free):σ[s]?=some .free:=by
 rcases hc with hc | ⟨hc,_⟩
 ·exact ZFq hc h hs
 ·rcases ZmU hc h with ⟨_,_,rfl,_⟩ | ⟨_,_,_,_,_,ha,_⟩
  ·exact hs
  ·exact Zoi ha hs
theorem ZyW {o:AOp} {v:AVal} {c:Cls} {s:Nat} (hc:ZaK o.ins=true\/(ZaR o.ins=true/\(!c.any)=true)) (h:ZS O bf o sq tm σ=some (v,tm1,σ1,c)) (hs:σ1[s]?=some .free) (hne:∀ i,i < nsite o.ins->sq+i≠s) :
  σ[s]?=some .free/\∀ b tm',(∀ n ∈ o.reads,tget tm n=tget tm' n)->ZS O bf o sq tm' (σ.set s b)=some (v,tput tm' o.dst v,σ1.set s b,c):=by
 rcases hc with hc | ⟨hc,hany⟩
 ·exact ZEY hc h hs hne
 ·have hn:sq≠s:=by
   have : nsite o.ins=1:=by
    cases hins:o.ins with
    | app k bytes z x y=>rfl
    | _=>rw [hins] at hc;simp [ZaR] at hc
   simpa using hne 0 (by omega)
  rcases ZmU hc h with ⟨hw,rfl,rfl,rfl⟩ | ⟨hf,k,bytes,x,y,ha,gen⟩
  ·refine ⟨hs,fun b tm' hr=>?_⟩
   simp only [ZS,Zdu (g:=o.guard) (tm:=tm') (tm1:=tm) (fun j b hg=>(hr j (Zdg hg)).symm),hw]
  ·have h0:=Zoi ha hs
   refine ⟨h0,fun b tm' hr=>gen tm' _ _ _ _ hr ?_ (Zw9 (by simpa using hany) ha h0 hn b)⟩
   rw [Zd5] at hf ⊢
   rw [WW (fun e=>hn e.symm)]
   exact hf
def Frz (σ σ2:Za):Prop:=∀ t:Nat,σ2[t]?=σ[t]?\/∃ (g k:Nat) (xs:List AVal),σ[t]?=some (ZU.row g k xs)/\σ2[t]?=some (ZU.frow g k xs)
theorem Frz.refl (σ:Za):Frz σ σ:=fun _=>Xs rfl
theorem Zi0:∀ (ts:List Nat) (σ:Za),Frz σ (ZR σ ts)
 | [],σ=>Frz.refl σ
 | t::ts,σ=>by
  unfold ZR
  split
  ·rename_i g k xs ht
   intro u
   have ih:=Zi0 ts (σ.set t (.frow g k xs)) u
   have htl:t < σ.length:=(Xn.1 ht).1
   by_cases e:u=t
   ·subst e
    have e1:(σ.set u (.frow g k xs))[u]?=some (.frow g k xs):=by simp [htl]
    rw [e1] at ih
    rcases ih with ih | ⟨_,_,_,ih,_⟩
    ·exact Xy ⟨g,k,xs,ht,ih⟩
    ·cases ih
   ·rw [WW (fun h=>e h.symm)] at ih
    exact ih
  ·exact Zi0 ts σ
theorem ZoN {σ σ2 σ' : Za} {k : Option Nat} {a v : AVal} {c : Cls} (hf : Frz σ σ2) (h : ldA σ k a = some (v, σ', c)) : σ' = σ /\ ldA σ2 k a = some (v, σ2, c) := by
  unfold ldA at h ⊢
  split at h
  . rename_i t o
    rcases hf t with e | ⟨_, _, _, e1, _⟩
    . simp only [e]
      repeat' split at h
      all_goals first
        | (cases h; done)
        | (simp only [Xa, Xb] at h
           obtain ⟨rfl, rfl, rfl⟩ := h
           simp_all)
    . rw [e1] at h; cases h
  . rename_i t g i o
    rcases hf t with e | ⟨g1, k1, xs1, e1, e2⟩
    . simp only [e]
      repeat' split at h
      all_goals first
        | (cases h; done)
        | (simp only [Xa, Xb] at h
           obtain ⟨rfl, rfl, rfl⟩ := h
           simp_all)
    . simp only [e1] at h
      simp only [e2]
      repeat' split at h
      all_goals first
        | (cases h; done)
        | (simp only [Xa, Xb] at h
           obtain ⟨rfl, rfl, rfl⟩ := h
           simp_all)
  . repeat' split at h
    all_goals first
      | (cases h; done)
      | (simp only [Xa, Xb] at h
         obtain ⟨rfl, rfl, rfl⟩ := h
         simp_all)
  . cases h
theorem ZpS {σ σ2 σ' : Za} {k : Nat} {a i v : AVal} {c : Cls} (hf : Frz σ σ2) (h : Za6 σ k a i = some (v, σ', c)) : σ' = σ /\ Za6 σ2 k a i = some (v, σ2, c) := by
  unfold Za6 at h ⊢
  split at h
  . split at h
    . rename_i h0
      rw [if_pos h0]
      split at h
      . repeat' split at h
        all_goals first
          | (cases h; done)
          | (simp only [Xa, Xb] at h
             obtain ⟨rfl, rfl, rfl⟩ := h
             simp_all)
      . rename_i t g p n
        rcases hf t with e | ⟨g1, k1, xs1, e1, e2⟩
        . simp only [e]
          repeat' split at h
          all_goals first
            | (cases h; done)
            | (simp only [Xa, Xb] at h
               obtain ⟨rfl, rfl, rfl⟩ := h
               simp_all)
        . simp only [e1] at h
          simp only [e2]
          repeat' split at h
          all_goals first
            | (cases h; done)
            | (simp only [Xa, Xb] at h
               obtain ⟨rfl, rfl, rfl⟩ := h
               simp_all)
      . cases h
    . cases h
  . cases h
theorem Zzq {o:AOp} {v:AVal} {c:Cls} (hl:Zbu o.ins=true) (h:ZS O bf o sq tm σ=some (v,tm1,σ1,c)) :
  σ1=σ/\tm1=tput tm o.dst v/\∀ tm' σ2,(∀ n ∈ o.reads,tget tm n=tget tm' n)->Frz σ σ2->ZS O bf o sq tm' σ2=some (v,tput tm' o.dst v,σ2,c):=by
 unfold ZS at h
 split at h
 ·cases h
 ·rename_i hw
  simp only [Xa,Xb] at h
  obtain ⟨rfl,rfl,rfl,rfl⟩:=h
  refine ⟨rfl,rfl,fun tm' σ2 hr _=>?_⟩
  simp only [ZS,Zdu (g:=o.guard) (tm:=tm') (tm1:=tm) (fun j b hg=>(hr j (Zdg hg)).symm),hw]
 ·rename_i hw
  split at h
  ·rename_i hf
   split at h
   ·rename_i v' σ'' c' he
    simp only [Xa,Xb] at h
    obtain ⟨rfl,rfl,rfl,rfl⟩:=h
    cases hins:o.ins with
    | ld k a =>
     rw [hins] at he
     simp only [execI] at he
     have e1:=(ZoN (Frz.refl σ) he).1
     subst e1
     refine ⟨rfl,rfl,fun tm' σ2 hr hz=>?_⟩
     simp only [ZS,Zdu (g:=o.guard) (tm:=tm') (tm1:=tm) (fun j b hg=>(hr j (Zdg hg)).symm),hw]
     rw [if_pos (by rw [hins];rfl),<-Zfy (tm:=tm) (tm':=tm') (fun n hn=>hr n (Zf5 hn)),hins]
     simp only [execI,(ZoN hz he).2]
    | iaddr k x i =>
     rw [hins] at he
     simp only [execI] at he
     have e1:=(ZpS (Frz.refl σ) he).1
     subst e1
     refine ⟨rfl,rfl,fun tm' σ2 hr hz=>?_⟩
     simp only [ZS,Zdu (g:=o.guard) (tm:=tm') (tm1:=tm) (fun j b hg=>(hr j (Zdg hg)).symm),hw]
     rw [if_pos (by rw [hins];rfl),<-Zfy (tm:=tm) (tm':=tm') (fun n hn=>hr n (Zf5 hn)),hins]
     simp only [execI,(ZpS hz he).2]
    | _=>rw [hins] at hl;simp [Zbu] at hl
   ·cases h
  ·cases h
theorem ZuF {o:AOp} {v:AVal} {c:Cls} (hl:Zbn o.ins=true) (h:ZS O bf o sq tm σ=some (v,tm1,σ1,c)):Frz σ σ1:=by
 unfold ZS at h
 split at h
 ·cases h
 ·simp only [Xa,Xb] at h
  obtain ⟨rfl,rfl,rfl,rfl⟩:=h
  exact Frz.refl _
 ·split at h
  ·split at h
   ·rename_i v' σ'' c' he
    simp only [Xa,Xb] at h
    obtain ⟨rfl,rfl,rfl,rfl⟩:=h
    cases hins:o.ins with
    | bslice own k n z parts =>
     rw [hins] at hl he
     simp only [Zbn,Wo] at hl
     subst hl
     simp only [execI] at he
     split at he
     ·cases he
     ·rename_i ys ts hv
      split at he
      ·simp only [Xm,if_false,Xa,Xb] at he
       obtain ⟨_,rfl,_⟩:=he
       exact Zi0 ts σ
      ·cases he
    | _=>rw [hins] at hl;simp [Zbn] at hl
   ·cases h
  ·cases h
theorem ZDL {f own:Nat} {view:Bool} {args:List AVal} {v:AVal} {c:Cls} (h:ZT O bf σ sq f own view args=some (v,σ',c)) (ha:c.any=true) {t:Nat} {cs:List AVal} (hn:c.upd.lookup t=none) (hlt:t < sq) (ht:σ'[t]?=some (.var cs)):σ[t]?=some (.var cs):=by
 unfold ZT at h
 split at h
 ·cases h
 rename_i xs ts hsh
 generalize hids:Zm (ZR σ ts) 1000 (Z4 xs) []=ids at h
 unfold Zbv at h
 split at h
 case isFalse=>cases h
 generalize Zau view ids.length (O f (ZZ (Zd (ZR σ ts) 0 ids) xs) (Zl (ZR σ ts) 0 ids (Zd (ZR σ ts) 0 ids) ids 0))=q at h
 cases q with
 | none=>simp only [Zay] at h;cases h
 | some q =>
  obtain ⟨r,hp⟩:=q
  simp only [Zay] at h
  split at h
  ·split at h
   ·simp only [Xa,Xb] at h
    rw [<-h.2.2] at ha;cases ha
   split at h
   ·simp only [Xa,Xb] at h
    rw [<-h.2.2] at ha;cases ha
   ·simp only [Xa,Xb] at h
    rw [<-h.2.2] at ha;cases ha
  ·split at h
   ·simp only [Xa,Xb] at h
    rw [<-h.2.2] at ha;cases ha
   split at h
   ·rename_i hcc
    simp only [Xa,Xb] at h
    obtain ⟨_,rfl,rfl⟩:=h
    have hm:t ∉ ids:=fun hm=>ZiC hn hm ht
    rw [Zh9 (fun i hi e=>by
     rw [XD] at e
     unfold ZaA at e
     rw [Xo] at e
     rcases XaA i ids.length with hl | hl
     ·rw [Xz hl] at e
      simp only [WI] at e
      exact hm (e ▸ Xaq hl)
     ·rw [XQ hl] at e
      simp only [Xa1] at e
      omega)] at ht
    rcases Zi0 ts σ t with e | ⟨g1,k1,xs1,e1,e2⟩
    ·rw [<-e];exact ht
    ·rw [e2] at ht;cases ht
   ·cases h
theorem ZA4 {o:AOp} {v:AVal} {c:Cls} {t:Nat} {cs:List AVal} (hc:ZaK o.ins=true) (h:ZS O bf o sq tm σ=some (v,tm1,σ1,c)) (ha:c.any=true) (hn:c.upd.lookup t=none) (hlt:t < sq) (ht:σ1[t]?=some (.var cs)):σ[t]?=some (.var cs):=by
 rcases Zi4 hc h with ⟨hw,rfl,rfl,rfl⟩ | ⟨hw,hf,f,own,view,args,ho,gen,hg⟩
 ·cases ha
 ·exact ZDL hg ha hn hlt ht
theorem ZuX {σ σ1 : Za} {sq k bytes : Nat} {x y v : AVal} {c : Cls} (h : ZaE σ sq k bytes x y = some (v, σ1, c)) (ha : c.any = false) {t : Nat} (hw : c.wr.contains t = false) (hs : t ≠ sq) : σ1[t]? = σ[t]? := by
  unfold ZaE at h
  split at h
  . unfold Zeg at h
    repeat' split at h
    all_goals first
      | (cases h; done)
      | (simp only [Xa, Xb] at h
         obtain ⟨_, _, rfl⟩ := h
         cases ha)
  . repeat' split at h
    all_goals first
      | (cases h; done)
      | (simp only [Xa, Xb] at h
         obtain ⟨_, rfl, rfl⟩ := h
         first
         | rfl
         | (rw [WW (fun e => hs e.symm)])
         | (rw [WW (by rintro rfl; simp at hw)]))
theorem ZqE {oj oi:AOp} {sj si:Nat} {vj vi:AVal} {cj ci:Cls} (hj:ZS O bf oj sj tm σ=some (vj,tm1,σ1,cj)) (hi:ZS O bf oi si tm1 σ1=some (vi,tm2,σ2,ci)) (hap:oj.apartT oi=true)
  (hp:Zca oj oi cj ci sj=true) (hs:nsite oj.ins≠0->nsite oi.ins≠0->sj≠si) (hs2:sj+nsite oj.ins<=si):∃ tm1' σ1',ZS O bf oi si tm σ=some (vi,tm1',σ1',ci)/\ZS O bf oj sj tm1' σ1'=some (vj,tm2,σ2,cj):=by
 have hd:(∀ d,oj.dst=some d->d ∉ oi.reads)/\(∀ d,oj.dst=some d->oi.dst≠some d)/\(∀ d,oi.dst=some d->d ∉ oj.reads):=by
  unfold AOp.apartT at hap
  simp only [Xp] at hap
  refine ⟨fun d hd hr=>?_,fun d hd he=>?_,fun d hd hr=>?_⟩
  ·have:=hap.1;rw [hd] at this;simp [hr] at this
  ·have:=hap.1;rw [hd] at this;simp [he] at this
  ·have:=hap.2;rw [hd] at this;simp [hr] at this
 obtain ⟨d1,d2,d3⟩:=hd
 have rdI:∀ v n,n ∈ oi.reads->tget (tput tm oj.dst v) n=tget tm n:=fun v n hn=>Zpq (by intro e;exact d1 n e hn)
 have rdJ:∀ v n,n ∈ oj.reads->tget tm n=tget (tput tm oi.dst v) n:=fun v n hn=>(Zpq (by intro e;exact d3 n e hn)).symm
 unfold Zca at hp
 simp only [WO,Xp] at hp
 have noWr_of:∀ {o:AOp} {c:Cls},ZbN o c=true->ZcT c=true/\c.rd=[]/\nsite o.ins=0:=by
  intro o c h
  simp only [ZbN,Xp,beq_iff_eq,Xar] at h
  exact ⟨by simp [ZcT,h.1.2,h.2],h.1.1.2,h.1.1.1⟩
 rcases hp with (((((((hp | hp) | ⟨⟨hp1,hp2⟩,hp3⟩) | ⟨hp1,hp2,hp3⟩) | ⟨⟨⟨hp1,hp2⟩,hp3⟩,hp4⟩) | ⟨⟨hp1,hp2⟩,hp4⟩) | ⟨hp1,hp2⟩) | ⟨⟨⟨hp1,hp2⟩,hp3⟩,hp4⟩) | ⟨⟨⟨hp1,hp3⟩,hp4⟩,hp5⟩
 ·obtain ⟨w1,w2,w3⟩:=noWr_of hp
  obtain ⟨ob,rfl,rfl,e3,_,_,e6⟩:=Zgv hj w1
  have hob:ob=none:=by
   cases ob with
   | none=>rfl
   | some b=>exact absurd w3 (e3 rfl).1
  subst hob
  simp only [Zaw] at hi e6 ⊢
  obtain ⟨rfl,f2⟩:=Zfh hi
  have g1:=f2 tm (rdI vj)
  refine ⟨_,_,g1,?_⟩
  rw [e6 _ σ2 (rdJ vi) (by rw [w2];intro t ht;simp at ht) (fun h=>absurd w3 h),ZdR vi vj (fun d hd he=>d2 d he hd)]
 ·obtain ⟨w1,w2,w3⟩:=noWr_of hp
  obtain ⟨ob,rfl,rfl,e3,_,_,e6⟩:=Zgv hi w1
  have hob:ob=none:=by
   cases ob with
   | none=>rfl
   | some b=>exact absurd w3 (e3 rfl).1
  subst hob
  simp only [Zaw] at e6 ⊢
  obtain ⟨rfl,f2⟩:=Zfh hj
  have g1:=e6 tm σ (rdI vj) (by rw [w2];intro t ht;simp at ht) (fun h=>absurd w3 h)
  refine ⟨_,_,g1,?_⟩
  rw [f2 _ (rdJ vi),ZdR vi vj (fun d hd he=>d2 d he hd)]
 ·obtain ⟨ob,rfl,rfl,a3,a4,a5,a6⟩:=Zgv hj hp1
  obtain ⟨oc,rfl,rfl,b3,b4,b5,b6⟩:=Zgv hi hp2
  have hsne:ob.isSome=true->nsite oi.ins≠0->sj≠si:=fun h1 h2=>hs (a3 h1).1 h2
  have hrdi:∀ t ∈ ci.rd,ob.isSome=true->sj≠t:=by
   intro t ht ho e
   subst e
   rcases hp3 with hp3 | hp3
   ·exact (a3 ho).1 (by simpa using hp3)
   ·simp [ht] at hp3
  have g1:=b6 tm σ (rdI vj) (fun t ht=>(Zho (hrdi t ht)).symm) (fun h2 hf=>by
   rw [Zd5] at hf ⊢
   rwa [Zho (fun ho=>hsne ho h2)] at hf)
  refine ⟨_,_,g1,?_⟩
  have hsi:oc.isSome=true->σ[si]?=some .free:=by
   intro ho
   have:=(b3 ho).2
   rw [Zd5,Zho (fun ho'=>hsne ho' (b3 ho).1)] at this
   exact this
  rw [a6 _ (Zaw σ si oc) (rdJ vi) (fun t ht=>Zho (fun ho e=>by
   subst e
   obtain ⟨x,hx,hne⟩:=a5 si ht
   rw [hsi ho] at hx;injection hx with hx;exact hne hx.symm)) (fun h1 hf=>by
   rw [Zd5] at hf ⊢
   rwa [Zho (fun ho=>(hs h1 (b3 ho).1).symm)]),ZdR vi vj (fun d hd he=>d2 d he hd),Zzo (fun h1 h2=>(hs (a3 h2).1 (b3 h1).1).symm)]
 ·obtain ⟨oc,rfl,rfl,b3,b4,b5,b6⟩:=Zgv hi hp2
  have hrd:ci.rd=[]:=by simpa using hp3
  obtain ⟨rfl,f2⟩:=Zfh hj
  cases oc with
  | none =>
   simp only [Zaw] at b6 ⊢
   have g1:=b6 tm σ (rdI vj) (by rw [hrd];intro t ht;simp at ht) (fun h1 h2=>by
    rw [Zd5] at h2 ⊢
    exact Zwv hp1 hj h2)
   refine ⟨_,_,g1,?_⟩
   rw [f2 _ (rdJ vi),ZdR vi vj (fun d hd he=>d2 d he hd)]
  | some b =>
   have hfr:=(b3 rfl).2
   rw [Zd5] at hfr
   obtain ⟨k1,k2⟩:=ZyW hp1 hj hfr (fun i hi=>by omega)
   have g1:=b6 tm σ (rdI vj) (by rw [hrd];intro t ht;simp at ht) (fun h1 h2=>by
    rw [Zd5] at h2 ⊢;exact k1)
   refine ⟨_,_,g1,?_⟩
   have:=k2 b (tput tm oi.dst vi) (rdJ vi)
   simp only [Zaw]
   rw [this,ZdR vi vj (fun d hd he=>d2 d he hd)]
 ·obtain ⟨t,k,o,q1,rfl,rfl,q4,q5⟩:=Zna hp1 hj hp4
  obtain ⟨rfl,f2⟩:=Zfh hi
  have g1:=f2 tm (rdI vj)
  refine ⟨_,_,g1,?_⟩
  obtain ⟨cs,q6,q7⟩:=q5
  obtain ⟨r1,r2⟩:=Zvp hp2 hi hp3 q6
  have hv:∃ cs,σ2[t]?=some (.var cs)/\partA k cs o=some vj:=by
   unfold ZaT at hp4
   rw [q1] at hp4
   simp only at hp4
   split at hp4
   ·rename_i hl;exact ⟨cs,r1 hl,q7⟩
   ·rename_i cs2 hl
    split at hp4
    ·rename_i u hu
     rw [ZBc hp4] at hu
     exact ⟨cs2,r2 cs2 hl,hu⟩
    ·cases hp4
  rw [q4 _ σ2 (rdJ vi) hv,ZdR vi vj (fun d hd he=>d2 d he hd)]
 ·obtain ⟨t,k,o,q1,rfl,rfl,q4,q5⟩:=Zna hp1 hj hp4
  obtain ⟨rfl,f2⟩:=Zfh hi
  have g1:=f2 tm (rdI vj)
  refine ⟨_,_,g1,?_⟩
  obtain ⟨cs,q6,q7⟩:=q5
  have hk:σ2[t]?=some (.var cs):=by
   rcases hp2 with hp2 | ⟨hp2,hp3⟩
   ·exact Zxl hp2 hi q6
   ·refine Zwc hp2 ?_ hi q6
    unfold ZbH at hp3
    rw [q1] at hp3
    simpa using hp3
  rw [q4 _ σ2 (rdJ vi) ⟨cs,hk,q7⟩,ZdR vi vj (fun d hd he=>d2 d he hd)]
 ·obtain ⟨rfl,rfl,q⟩:=Zzq hp1 hj
  obtain ⟨rfl,f2⟩:=Zfh hi
  have g1:=f2 tm (rdI vj)
  refine ⟨_,_,g1,?_⟩
  rw [q _ σ2 (rdJ vi) (ZuF hp2 hi),ZdR vi vj (fun d hd he=>d2 d he hd)]
 ·have hgot:∃ t0 k0 o0 v0,ci.got=[(t0,k0,o0,v0)]/\t0 < sj/\cj.upd.lookup t0=none:=by
   unfold Zbx at hp4
   split at hp4
   ·rename_i t0 k0 o0 v0 hg
    simp only [Xp,decide_eq_true_eq,Option.isNone_iff_eq_none] at hp4
    exact ⟨t0,k0,o0,v0,hg,hp4.1,hp4.2⟩
   ·cases hp4
  obtain ⟨t0,k0,o0,v0,hg,hlt,hnone⟩:=hgot
  have hg0:ZaT ci {}=true:=by
   unfold ZaT
   rw [hg]
   rfl
  obtain ⟨rfl,f2⟩:=Zfh hj
  obtain ⟨t,k,o,q1,rfl,rfl,q4,cs,q6,q7⟩:=Zna hp2 hi hg0
  rw [hg] at q1
  injection q1 with q1 _
  injection q1 with q1 _
  subst q1
  have hk:=ZA4 hp1 hj hp3 hnone hlt q6
  have g1:=q4 tm σ (rdI vj) ⟨cs,hk,q7⟩
  refine ⟨_,_,g1,?_⟩
  rw [f2 _ (rdJ vi),ZdR vi vj (fun d hd he=>d2 d he hd)]
 ·obtain ⟨oc,rfl,rfl,b3,b4,b5,b6⟩:=Zgv hi hp3
  have hn0:nsite oi.ins=0:=by simpa using hp4
  have hoc:oc=none:=by
   cases oc with
   | none=>rfl
   | some b=>exact absurd hn0 (b3 rfl).1
  subst hoc
  simp only [Zaw] at b6 ⊢
  obtain ⟨rfl,f2⟩:=Zfh hj
  have far:∀ t ∈ ci.rd,σ[t]?=σ1[t]?:=by
   intro t ht
   have hq:=XH.1 hp5 t ht
   simp only [Xp,Wo,bne_iff_ne,ne_eq] at hq
   rcases hp1 with ⟨hp1,hp2⟩ | hp1
   ·rcases ZmU hp1 hj with ⟨_,_,rfl,_⟩ | ⟨_,_,_,_,_,ha,_⟩
    ·rfl
    ·exact (ZuX ha (by simpa using hp2) hq.1 hq.2).symm
   ·exact (Zz3 hp1 hj hq.1 hq.2).symm
  have g1:=b6 tm σ (rdI vj) far (fun h1 _=>absurd hn0 h1)
  refine ⟨_,_,g1,?_⟩
  rw [f2 _ (rdJ vi),ZdR vi vj (fun d hd he=>d2 d he hd)]
inductive Zcp (O:ZW) (bf:Nat->Bool) (ops:List AOp) (L:Nat) (cs:List Cls):List Nat->Tms->Za->Tms->Za->Prop
 | nil {tm:Tms} {σ:Za}:Zcp O bf ops L cs [] tm σ tm σ
 | cons {i:Nat} {l:List Nat} {v:AVal} {tm tm1 tm2:Tms} {σ σ1 σ2:Za}:ZS O bf (ops.getD i default) (L+sitesOf (ops.take i)) tm σ=some (v,tm1,σ1,cs.getD i {})->(∀ x,v≠.pan x)->Zcp O bf ops L cs l tm1 σ1 tm2 σ2->Zcp O bf ops L cs (i::l) tm σ tm2 σ2
theorem ZmJ (ops:List AOp) {k:Nat} (h:k < ops.length):sitesOf (ops.take (k+1))=sitesOf (ops.take k)+nsite (ops[k]).ins:=by
 rw [List.take_succ_eq_append_getElem h]
 simp only [sitesOf,Wr,List.sum_append,XJ,Wm,List.sum_cons,List.sum_nil,Wf]
theorem ZpY {ops:List AOp} {L:Nat}:∀ (m k:Nat) {cs cs':List Cls} {tm:Tms} {σ:Za} {tm':Tms} {σ':Za},k+m=ops.length->ZX O bf (ops.drop k) (L+sitesOf (ops.take k)) tm σ=some (tm',σ',cs',none)->(∀ j,cs'.getD j {}=cs.getD (k+j) {})->Zcp O bf ops L cs (XaL k m) tm σ tm' σ'
 | 0,k,cs,cs',tm,σ,tm',σ',hk,h,hcs=>by
  rw [WM (by omega)] at h
  simp only [ZX,Xa,Xb] at h
  obtain ⟨rfl,rfl,rfl,_⟩:=h
  exact Zcp.nil
 | m+1,k,cs,cs',tm,σ,tm',σ',hk,h,hcs=>by
  have hlt:k < ops.length:=by omega
  rw [W2 hlt] at h
  simp only [ZX] at h
  split at h
  ·cases h
  ·simp only [Xa,Xb] at h
   obtain ⟨_,_,_,h⟩:=h
   cases h
  rename_i v tm1 σ1 c hnp h1
  split at h
  ·cases h
  rename_i tm2 σ2 cs2 p h2
  simp only [Xa,Xb] at h
  obtain ⟨rfl,rfl,rfl,rfl⟩:=h
  rw [Xbh]
  have hc0:=hcs 0
  simp only [Xv,Wf] at hc0
  refine Zcp.cons (v:=v) (tm1:=tm1) (σ1:=σ1) ?_ (fun x e=>?_) (ZpY m (k+1) (by omega) (cs':=cs2) ?_ (fun j=>?_))
  ·rw [<-hc0]
   simpa [Xo,hlt] using h1
  ·exact hnp x e
  ·rw [ZmJ ops hlt,<-WK];exact h2
  ·have:=hcs (j+1)
   simp only [XC] at this
   rw [this]
   congr 1;omega
theorem Zke {ops:List AOp} {L:Nat} {cs:List Cls} {i:Nat} {l2:List Nat}:∀ {l1:List Nat} {tm:Tms} {σ:Za} {tm':Tms} {σ':Za},(∀ j ∈ l1,(ops.getD j default).apartT (ops.getD i default)=true/\Zca (ops.getD j default) (ops.getD i default) (cs.getD j {}) (cs.getD i {}) (L+sitesOf (ops.take j))=true/\(nsite (ops.getD j default).ins≠0->nsite (ops.getD i default).ins≠0->L+sitesOf (ops.take j)≠L+sitesOf (ops.take i))/\L+sitesOf (ops.take j)+nsite (ops.getD j default).ins<=L+sitesOf (ops.take i)) ->
  Zcp O bf ops L cs (l1++i::l2) tm σ tm' σ'->∃ v tm1 σ1,ZS O bf (ops.getD i default) (L+sitesOf (ops.take i)) tm σ=some (v,tm1,σ1,cs.getD i {})/\(∀ x,v≠.pan x)/\Zcp O bf ops L cs (l1++l2) tm1 σ1 tm' σ'
 | [],tm,σ,tm',σ',_,h=>by
  cases h with
  | cons h1 hn h2=>exact ⟨_,_,_,h1,hn,h2⟩
 | j::l1,tm,σ,tm',σ',hall,h=>by
  cases h with
  | cons h1 hn h2 =>
   obtain ⟨v3,tm3,σ3,h3,hn3,h4⟩:=Zke (l1:=l1) (fun k hk=>hall k (by simp [hk])) h2
   obtain ⟨p1,p2,p3,p4⟩:=hall j (by simp)
   obtain ⟨tm4,σ4,h5,h6⟩:=ZqE h1 h3 p1 p2 p3 p4
   exact ⟨v3,tm4,σ4,h5,hn3,Zcp.cons h6 hn h4⟩
theorem Znz {ops:List AOp} {L:Nat} {x:AVal}:∀ (m k:Nat) {cs cs':List Cls} {tm:Tms} {σ:Za} {tm':Tms} {σ':Za},k+m=ops.length->ZX O bf (ops.drop k) (L+sitesOf (ops.take k)) tm σ=some (tm',σ',cs',some x)->(∀ j,cs'.getD j {}=cs.getD (k+j) {}) ->
  ∃ n tmJ σJ tmX,n < m/\cs'.length=n+1/\Zcp O bf ops L cs (XaL k n) tm σ tmJ σJ/\ZS O bf (ops.getD (k+n) default) (L+sitesOf (ops.take (k+n))) tmJ σJ=some (.pan x,tmX,σ',cs.getD (k+n) {})
 | 0,k,cs,cs',tm,σ,tm',σ',hk,h,hcs=>by
  rw [WM (by omega)] at h
  simp [ZX] at h
 | m+1,k,cs,cs',tm,σ,tm',σ',hk,h,hcs=>by
  have hlt:k < ops.length:=by omega
  rw [W2 hlt] at h
  simp only [ZX] at h
  have hc0:=hcs 0
  have hg:ops.getD k default=ops[k]:=by simp [Xo,hlt]
  split at h
  ·cases h
  ·rename_i y tm1 σ1 c h1
   simp only [Xa,Xb] at h
   obtain ⟨rfl,rfl,rfl,rfl⟩:=h
   simp only [Xv,Wf] at hc0
   refine ⟨0,tm,σ,tm1,by omega,rfl,Zcp.nil,?_⟩
   rw [Wf,<-hc0,hg]
   exact h1
  rename_i v tm1 σ1 c hnp h1
  split at h
  ·cases h
  rename_i tm2 σ2 cs2 p h2
  simp only [Xa,Xb] at h
  obtain ⟨rfl,rfl,rfl,rfl⟩:=h
  simp only [Xv,Wf] at hc0
  have hnext:ZX O bf (ops.drop (k+1)) (L+sitesOf (ops.take (k+1))) tm1 σ1=some (tm2,σ2,cs2,some x):=by
   rw [ZmJ ops hlt,<-WK]
   exact h2
  obtain ⟨n,tmJ,σJ,tmX,g1,g2,g3,g4⟩:=Znz m (k+1) (cs:=cs) (by omega) hnext (fun j=>by
   have:=hcs (j+1)
   simp only [XC] at this
   rw [this];congr 1;omega)
  refine ⟨n+1,tmJ,σJ,tmX,by omega,by simp [g2],?_,?_⟩
  ·rw [Xbh]
   refine Zcp.cons (v:=v) (tm1:=tm1) (σ1:=σ1) ?_ (fun x e=>hnp x e) g3
   rw [<-hc0,hg]
   exact h1
  ·rw [show k+(n+1)=k+1+n by omega]
   exact g4
theorem Zux {o:AOp} {v:AVal} {c:Cls} {tm tm1:Tms} {σ σ1:Za} {sq:Nat} (hq:o.ins.touches=false\/ZaQ o.ins=true) (h:ZS O bf o sq tm σ=some (v,tm1,σ1,c)):σ1=σ:=by
 unfold ZS at h
 split at h
 ·cases h
 ·simp only [Xa,Xb] at h;exact h.2.2.1.symm
 ·split at h
  ·split at h
   ·rename_i he
    simp only [Xa,Xb] at h
    rw [<-h.2.2.1]
    rcases hq with hq | hq
    ·exact ZFN hq he
    ·cases hi:o.ins with
     | ld k a =>
      rw [hi] at he
      simp only [execI] at he
      unfold ldA at he
      repeat' split at he
      all_goals first | (simp only [Xa,Xb] at he;exact he.2.1.symm) | cases he
     | _=>rw [hi] at hq;simp [ZaQ] at hq
   ·cases h
  ·cases h
theorem Zqm {ops:List AOp} {L:Nat} {cs:List Cls} {i:Nat} {x:AVal} {tmX:Tms} {σX:Za}:∀ {l1:List Nat} {tm:Tms} {σ:Za} {tm':Tms} {σ':Za},(∀ j ∈ l1,((ops.getD j default).ins.touches=false\/ZaQ (ops.getD j default).ins=true)/\(ops.getD j default).apartT (ops.getD i default)=true/\Zca (ops.getD j default) (ops.getD i default) (cs.getD j {}) (cs.getD i {}) (L+sitesOf (ops.take j))=true/\(nsite (ops.getD j default).ins≠0->nsite (ops.getD i default).ins≠0->L+sitesOf (ops.take j)≠L+sitesOf (ops.take i))/\L+sitesOf (ops.take j)+nsite (ops.getD j default).ins<=L+sitesOf (ops.take i)) ->
  Zcp O bf ops L cs l1 tm σ tm' σ'->ZS O bf (ops.getD i default) (L+sitesOf (ops.take i)) tm' σ'=some (.pan x,tmX,σX,cs.getD i {})->∃ tm1,ZS O bf (ops.getD i default) (L+sitesOf (ops.take i)) tm σ=some (.pan x,tm1,σX,cs.getD i {})
 | [],tm,σ,tm',σ',_,h,hp=>by
  cases h
  exact ⟨_,hp⟩
 | j::l1,tm,σ,tm',σ',hall,h,hp=>by
  cases h with
  | cons h1 hn h2 =>
   obtain ⟨tm3,h3⟩:=Zqm (l1:=l1) (fun k hk=>hall k (by simp [hk])) h2 hp
   obtain ⟨hq,p1,p2,p3,p4⟩:=hall j (by simp)
   obtain ⟨tm4,σ4,h5,h6⟩:=ZqE h1 h3 p1 p2 p3 p4
   have:=Zux hq h6
   subst this
   exact ⟨tm4,h5⟩
end
end
section
open Go.RowKit
section
variable {P:Program} {O:ZW} {bf:Nat->Bool} {an:Ann} {base:Nat->Prop} {w0:World} {I0:Imm}
structure Door where
 D:List Deferred
 K:List Nat
 X:Nat->Value
def Door.ok (dr:Door) (a:Act):Prop:=a.defers=dr.D/\∀ j ∈ dr.K,a.tmps.getD j undef=dr.X j
def ZgK:Door:=⟨[],[],fun _=>undef⟩
theorem ZmT {a:Act}:ZgK.ok a↔a.defers=[]:=by simp [Door.ok,ZgK]
def StR (dr:Door) (nt:Nat) (base:Nat->Prop) (w0:World) (I0 I:Imm) (β:Bmap) (tm:Tms) (σ:Za) (a:Act) (w:World):Prop :=
 ∃ I' β',I.le I'/\β.le β'/\TR I' β' tm a.tmps/\(dr.ok a/\nt<=a.tmps.size)/\Rel base w0 I0 I' β' σ w
variable {dr:Door}
theorem StR.trans {nt:Nat} {I I1:Imm} {β β1:Bmap} {tm:Tms} {σ:Za} {a:Act} {w:World} (hI:I.le I1) (hβ:β.le β1) (h:StR dr nt base w0 I0 I1 β1 tm σ a w):StR dr nt base w0 I0 I β tm σ a w:=by
 obtain ⟨I',β',h1,h2,h3⟩:=h
 exact ⟨I',β',hI.trans h1,hβ.trans h2,h3⟩
theorem Post.trans {I I1:Imm} {β β1:Bmap} {x:AVal} {σ:Za} {u:Value} {w:World} (hI:I.le I1) (hβ:β.le β1) (h:Post base w0 I0 I1 β1 x σ u w):Post base w0 I0 I β x σ u w:=by
 obtain ⟨I',β',h1,h2,h3⟩:=h
 exact ⟨I',β',hI.trans h1,hβ.trans h2,h3⟩
theorem Zoc {I:Imm} {β:Bmap} {tm:Tms} {a:Act} {v:AVal} {u:Value} (T:TR I β tm a.tmps) (hv:VR I β v u) {d:Option Nat} (hd:∀ n,d=some n->n < a.tmps.size):TR I β (tput tm d v) (a.put d u).tmps:=by
 cases d with
 | none=>exact T
 | some d=>exact T.put hv (hd d rfl)
theorem Zps (a:Act) (d:Option Nat) (u:Value):(a.put d u).defers=a.defers:=by cases d <;> rfl
theorem ZiZ {a:Act} {d:Option Nat} {u:Value} (h:dr.ok a) (hd:∀ n,d=some n->n ∉ dr.K):dr.ok (a.put d u):=by
 refine ⟨(Zps a d u).trans h.1,fun j hj=>?_⟩
 rw [<-h.2 j hj]
 cases d with
 | none=>rfl
 | some n =>
  have hne:n≠j:=by rintro rfl;exact hd n rfl hj
  simp only [Act.put,WU]
  rw [Wi hne]
theorem ZeD (a:Act) (d:Option Nat) (u:Value):(a.put d u).tmps.size=a.tmps.size:=by cases d <;> simp [Act.put]
theorem Zqk {I:Imm} {β:Bmap} {tm:Tms} {a:Act} (T:TR I β tm a.tmps) {ops:Array Oper} {o:Oper} {g:Option (Nat×Bool)} (hg:Zin ops o.guard=some g) {b:Bool} (h:Za9 g tm=some b):Region.wanted o (yielded ops a.tmps)=b:=by
 unfold Zin at hg
 unfold Region.wanted
 split at hg
 ·rename_i e
  injection hg with hg;subst hg
  simp only [Za9,Xa] at h
  subst h
  rw [e]
 ·rename_i j want e
  split at hg
  ·rename_i o' ho'
   split at hg
   ·rename_i d hd
    injection hg with hg;subst hg
    rw [e]
    show (yielded ops a.tmps j == some want)=b
    have hy:yielded ops a.tmps j=match a.tmps[d]? with | some (.bool b)=>some b | _=>none:=by
     simp only [yielded,ho',XY,hd]
     rfl
    rw [hy]
    have hx:=T d
    rw [WU] at hx
    simp only [Za9] at h
    split at h
    ·rename_i b' hb'
     rw [hb'] at hx
     simp only [VR] at hx
     have : a.tmps[d]?=some (.bool b'):=by
      cases hq:a.tmps[d]? with
      | none=>rw [hq] at hx;simp [undef] at hx
      | some q=>rw [hq] at hx;simp at hx;subst hx;rfl
     rw [this]
     simp only [Xa] at h
     subst h
     cases b' <;> cases want <;> rfl
    ·rename_i hb'
     rw [hb'] at hx
     simp only [VR,VRs] at hx
     obtain ⟨us,hus,hnil⟩:=hx
     injection h with h;subst h
     cases hq:a.tmps[d]? with
     | none=>rfl
     | some q =>
      rw [hq] at hus;simp at hus;subst hus
      rfl
    ·cases h
   ·cases hg
  ·cases hg
theorem ZmR {ops:Array Oper} {o:Oper} {ao:AOp} (hc:Zft P an ops o=some ao):∃ g i,Zin ops o.guard=some g/\(∃ own,Z0 P an own o.op=some i)/\(∀ n,o.dst=some n->n < an.nt/\n ∉ an.keep)/\ao=⟨o.dst,i,g,(o.after.toList.filter (Region.binds .any)).map (·.on)⟩:=by
 unfold Zft at hc
 split at hc
 ·rename_i g i hg hi
  split at hc
  ·rename_i hd
   injection hc with hc
   refine ⟨g,i,hg,⟨_,hi⟩,fun n hn=>?_,hc.symm⟩
   rw [hn] at hd
   simp only [ZqI,Xp,decide_eq_true_eq,Wo,Xai,decide_eq_false_iff_not] at hd
   exact hd
  ·cases hc
 ·cases hc
theorem Zgn (hO:Zak P O) (hkp:∀ n ∈ dr.K,n ∈ an.keep) {ops:Array Oper} {o:Oper} {ao:AOp} (hc:Zft P an ops o=some ao) {I:Imm} {β:Bmap} {tm tm':Tms} {σ σ':Za} {a:Act} {w:World} (T:TR I β tm a.tmps) (hd:dr.ok a/\an.nt<=a.tmps.size) (R:Rel base w0 I0 I β σ w) (hb:KLt base w0)
  {sq:Nat} {v:AVal} {c:Cls} (h:ZS O bf ao sq tm σ=some (v,tm',σ',c)) {K:Act->World->Prop} {Q:Exit->Act->World->Prop} (hK:(∀ x,v≠.pan x)->∀ a' w',StR dr an.nt base w0 I0 I β tm' σ' a' w'->K a' w')
  (hQ:∀ x,v=.pan x->∀ u w',Post base w0 I0 I β x σ' u w'->Q (.panic [{ v:=u,recovered:=false }]) a w') :
  if Region.wanted o (yielded ops a.tmps) then o.wp P a w K Q\/(o.asks P a w/\LetsOut Q) else K (a.put o.dst undef) w:=by
 obtain ⟨g,i,hg,⟨own,hi⟩,hdst,rfl⟩:=ZmR hc
 have hdst':∀ n,o.dst=some n->n < a.tmps.size:=fun n hn=>Xa9 (hdst n hn).1 hd.2
 have hdk:∀ n,o.dst=some n->n ∉ dr.K:=fun n hn hm=>(hdst n hn).2 (hkp n hm)
 unfold ZS at h
 split at h
 ·cases h
 ·rename_i hw
  simp only at hw
  rw [Zqk T hg hw]
  simp only [Xa,Xb] at h
  obtain ⟨rfl,rfl,rfl,rfl⟩:=h
  simp only [Xm,if_false]
  exact hK (by simp) _ _ ⟨I,β,Imm.le.refl I,Bmap.le.refl β,Zoc T (Zjv I β) hdst',⟨ZiZ hd.1 hdk,by rw [ZeD];exact hd.2⟩,R⟩
 ·rename_i hw
  simp only at hw
  rw [Zqk T hg hw]
  simp only [if_true]
  split at h
  ·rename_i hf
   split at h
   ·rename_i v' σ1 c' he
    simp only [Xa,Xb] at h
    obtain ⟨rfl,rfl,rfl,rfl⟩:=h
    have hs:nsite i≠0->σ[sq]?=some .free:=by
     intro hn
     simp only [WO,beq_iff_eq] at hf
     exact Zd5.1 (hf.resolve_left hn)
    rcases ZBq hO hi T R hb hs he with hok | ⟨x,rfl,hpan⟩
    ·refine Xs (hok.wp (fun u w' hp=>?_))
     obtain ⟨I',β',h1,h2,h3,h4⟩:=hp
     refine hK ?_ _ _ ⟨I',β',h1,h2,Zoc (T.mono h1 h2) h4 hdst',⟨ZiZ hd.1 hdk,by rw [ZeD];exact hd.2⟩,h3⟩
     rintro x rfl
     simp only [VR] at h4
    ·exact Xs (hpan.wp (fun u w' hp=>hQ x rfl u w' hp))
   ·cases h
  ·cases h
theorem Zkp (hO:Zak P O) (hkp:∀ n ∈ dr.K,n ∈ an.keep) (hb:KLt base w0) {ops:Array Oper} {Q:Exit->Act->World->Prop}:∀ {l:List Oper} {asl:List AOp} {sq:Nat} {I:Imm} {β:Bmap} {tm tm':Tms} {σ σ':Za} {cs:List Cls} {p:Option AVal} {a:Act} {w:World},Zck P an ops l=some asl->TR I β tm a.tmps->(dr.ok a/\an.nt<=a.tmps.size)->Rel base w0 I0 I β σ w ->
  ZX O bf asl sq tm σ=some (tm',σ',cs,p)->(p=none->∀ a' w',StR dr an.nt base w0 I0 I β tm' σ' a' w'->Q .normal a' w') ->
  (∀ x,p=some x->∀ a' u w',dr.ok a'->Post base w0 I0 I β x σ' u w'->Q (.panic [{ v:=u,recovered:=false }]) a' w')->wpList P ops Q l a w
 | [],asl,sq,I,β,tm,tm',σ,σ',cs,p,a,w,hc,T,hd,R,h,hQ,_=>by
  simp only [Zck,Xa] at hc;subst hc
  simp only [ZX,Xa,Xb] at h
  obtain ⟨rfl,rfl,rfl,rfl⟩:=h
  exact wpList_nil (hQ rfl _ _ ⟨I,β,Imm.le.refl I,Bmap.le.refl β,T,hd,R⟩)
 | o::l,asl,sq,I,β,tm,tm',σ,σ',cs,p,a,w,hc,T,hd,R,h,hQ,hP=>by
  simp only [Zck] at hc
  split at hc
  ·rename_i ao hao
   split at hc
   ·rename_i as' has'
    injection hc with hc;subst hc
    simp only [ZX] at h
    split at h
    ·cases h
    ·rename_i x tm1 σ1 c1 h1
     simp only [Xa,Xb] at h
     obtain ⟨rfl,rfl,rfl,rfl⟩:=h
     have:=Zgn (dr:=dr) (K:=wpList P ops Q l) (Q:=Q) hO hkp hao T hd R hb h1 (fun hn=>absurd rfl (hn x)) (fun x' e u w' hp=>by
      injection e with e;subst e
      exact hP x rfl a u w' hd.1 hp)
     unfold wpList
     exact this
    ·rename_i v tm1 σ1 c1 hnp h1
     split at h
     ·cases h
     rename_i tm2 σ2 cs2 p2 h2
     simp only [Xa,Xb] at h
     obtain ⟨rfl,rfl,rfl,rfl⟩:=h
     have:=Zgn (dr:=dr) (K:=wpList P ops Q l) (Q:=Q) hO hkp hao T hd R hb h1 (fun _ a' w' hs=>by
      obtain ⟨I',β',g1,g2,g3,g4,g5⟩:=hs
      exact Zkp hO hkp hb has' g3 g4 g5 h2 (fun hp a'' w'' hs'=>hQ hp a'' w'' (hs'.trans g1 g2)) (fun x hx a'' u w'' hd' hp=>hP x hx a'' u w'' hd' (hp.trans g1 g2))) (fun x e=>absurd e (fun e=>hnp x e))
     unfold wpList
     exact this
   ·cases hc
  ·cases hc
theorem Zii {ops:Array Oper}:∀ {l:List Oper} {asl:List AOp},Zck P an ops l=some asl->asl.length=l.length/\∀ (i:Nat) (o:Oper),l[i]?=some o->∃ ao,asl[i]?=some ao/\Zft P an ops o=some ao
 | [],asl,h=>by simp only [Zck,Xa] at h;subst h;exact ⟨rfl,fun i o ho=>by simp at ho⟩
 | o::l,asl,h=>by
  simp only [Zck] at h
  split at h
  ·rename_i ao hao
   split at h
   ·rename_i as' has'
    injection h with h;subst h
    obtain ⟨h1,h2⟩:=Zii has'
    refine ⟨by simp [h1],fun i o' ho'=>?_⟩
    cases i with
    | zero=>simp only [XG,Xa] at ho';subst ho';exact ⟨ao,rfl,hao⟩
    | succ i=>simp only [List.getElem?_cons_succ] at ho' ⊢;exact h2 i o' ho'
   ·cases h
  ·cases h
theorem Zlu:∀ (ls acc:List (List Nat)),(∀ j p,p ∈ (acc.getD j [])->True)->(Zbr ls acc).take acc.length=acc/\(Zbr ls acc).length=acc.length+ls.length /\
  ∀ j,j < ls.length->∀ p,p ∈ (Zbr ls acc).getD (acc.length+j) []->p ∈ ls.getD j []\/∃ i ∈ ls.getD j [],i < acc.length+j/\p ∈ (Zbr ls acc).getD i []
 | [],acc,_=>by simp [Zbr]
 | l::ls,acc,_=>by
  obtain ⟨h1,h2,h3⟩:=Zlu ls (acc++[l++l.flatMap fun i=>acc.getD i []]) (fun _ _ _=>trivial)
  simp only [Zbr]
  have hlen:(acc++[l++l.flatMap fun i=>acc.getD i []]).length=acc.length+1:=by simp
  rw [hlen] at h1 h2 h3
  have hpre:∀ i,i < acc.length+1->(Zbr ls (acc++[l++l.flatMap fun i=>acc.getD i []])).getD i []=(acc++[l++l.flatMap fun i=>acc.getD i []]).getD i []:=by
   intro i hi
   have:=congrArg (fun q:List (List Nat)=>q.getD i []) h1
   simp only [Xo,List.getElem?_take,hi,if_true] at this ⊢
   exact this
  refine ⟨?_,by rw [h2];simp;omega,?_⟩
  ·have:=congrArg (List.take acc.length) h1
   rw [List.take_take,Nat.min_eq_left (by omega)] at this
   rw [this];simp
  ·intro j hj p hp
   cases j with
   | zero =>
    rw [Wf,hpre _ (by omega)] at hp
    simp only [Xo,Ww (X3 _),W5,XG,WI,Xu,Wj] at hp
    rcases hp with hp | ⟨i,hi,hp⟩
    ·exact Xs (by simpa using hp)
    ·refine Xy ⟨i,by simpa using hi,?_,?_⟩
     ·by_cases hlt:i < acc.length
      ·omega
      ·rw [XQ (by omega)] at hp;simp at hp
     ·have hlt:i < acc.length:=by
       by_cases hlt:i < acc.length
       ·exact hlt
       ·rw [XQ (by omega)] at hp;simp at hp
      rw [hpre i (by omega)]
      simp only [Xo,WN hlt]
      exact hp
   | succ j =>
    have:=h3 j (by simpa using hj) p (by rw [show acc.length+1+j=acc.length+(j+1) by omega];exact hp)
    rcases this with h | ⟨i,h4,h5,h6⟩
    ·exact Xs (by simpa using h)
    ·exact Xy ⟨i,by simpa using h4,by omega,h6⟩
theorem Zow (f:Nat->Nat) (p:Nat):∀ (l:List Nat) (m:Nat),(l.foldl (fun m i=>m ||| 2 ^ i ||| f i) m).testBit p=true->m.testBit p=true\/p ∈ l\/∃ i ∈ l,(f i).testBit p=true
 | [],m,h=>Xs h
 | i::l,m,h=>by
  rcases Zow f p l _ h with h | h | ⟨j,h1,h2⟩
  ·simp only [Nat.testBit_or,WO,Nat.testBit_two_pow,decide_eq_true_eq] at h
   rcases h with (h | h) | h
   ·exact Xs h
   ·exact Xy (Xs (by simp [h]))
   ·exact Xy (Xy ⟨i,by simp,h⟩)
  ·exact Xy (Xs (by simp [h]))
  ·exact Xy (Xy ⟨j,by simp [h1],h2⟩)
theorem ZkL:∀ (ls:List (List Nat)) (accM:List Nat) (accL:List (List Nat)),accM.length=accL.length->(∀ j p,(accM.getD j 0).testBit p=true->p ∈ accL.getD j [])->∀ j p,((Zgc ls accM).getD j 0).testBit p=true->p ∈ (Zbr ls accL).getD j []
 | [],accM,accL,_,h=>h
 | l::ls,accM,accL,hl,h=>by
  simp only [Zgc,Zbr]
  refine ZkL ls _ _ (by simp [hl]) ?_
  intro j p hp
  by_cases hj:j < accM.length
  ·simp only [Xo,WN hj] at hp
   simp only [Xo,WN (show j < accL.length by omega)]
   have:=h j p (by simpa [Xo] using hp)
   simpa [Xo] using this
  ·by_cases hj':j=accM.length
   ·subst hj'
    simp only [Xo,Ww (X3 _),W5,XG,WI] at hp
    rw [hl]
    simp only [Xo,Ww (X3 _),W5,XG,WI,Xu,Wj]
    rcases Zow _ p l 0 hp with h0 | h0 | ⟨i,h1,h2⟩
    ·simp at h0
    ·exact Xs h0
    ·refine Xy ⟨i,h1,?_⟩
     have:=h i p (by simpa [Xo] using h2)
     simpa [Xo] using this
   ·simp only [Xo] at hp
    rw [XQ (by simp;omega)] at hp
    simp at hp
theorem ZqA {asl:List AOp} {ps:List (Nat×Nat)} (h:Zem asl=some ps) :
  (∀ i j,i < j->j < asl.length->i ∉ (Zbr (asl.map (·.after)) []).getD j []->(asl.getD i default).apartT (asl.getD j default)=true/\((asl.getD i default).ins.touches=false\/(asl.getD j default).ins.touches=false\/(i,j) ∈ ps))/\(∀ j,j < asl.length->∀ i ∈ (asl.getD j default).after,i < j):=by
 have hsub:=ZkL (asl.map (·.after)) [] [] rfl (by simp)
 unfold Zem at h
 simp only at h
 split at h
 ·rename_i hc
  simp only [Xp,XH,Wj,XL,WA,WP,forall_exists_index,and_imp,Wo,decide_eq_true_eq] at hc
  obtain ⟨h1,h2⟩:=hc
  injection h with h
  have hbit:∀ i j,i ∉ (Zbr (asl.map (·.after)) []).getD j []->((Zgc (asl.map (·.after)) []).getD j 0).testBit i=false:=by
   intro i j hn
   cases hb:((Zgc (asl.map (·.after)) []).getD j 0).testBit i with
   | false=>rfl
   | true=>exact absurd (hsub j i hb) hn
  refine ⟨fun i j hij hj hn=>⟨?_,?_⟩,fun j hj i hi=>h2 j hj i hi⟩
  ·exact h1 (i,j) j hj i hij (hbit i j hn) rfl
  ·cases ht1:(asl.getD i default).ins.touches with
   | false=>exact Xs rfl
   | true =>
    cases ht2:(asl.getD j default).ins.touches with
    | false=>exact Xy (Xs rfl)
    | true =>
     refine Xy (Xy ?_)
     rw [<-h]
     rw [Xu]
     refine Xs ?_
     simp only [WA,Wj,XL,WP,Xp]
     exact ⟨⟨j,hj,i,⟨hij,by rw [hbit i j hn];rfl⟩,rfl⟩,ht1,ht2⟩
 ·cases h
theorem Zxk {asl:List AOp} {ps:List (Nat×Nat)} (h:Zem asl=some ps) {j:Nat} (hm:(j,j) ∈ ps):∀ k,j < k->k < asl.length->j ∈ (Zbr (asl.map (·.after)) []).getD k []:=by
 have hsub:=ZkL (asl.map (·.after)) [] [] rfl (by simp)
 unfold Zem at h
 simp only at h
 split at h
 ·injection h with h
  rw [<-h,Xu] at hm
  rcases hm with hm | hm
  ·simp only [WA,Wj,XL,WP,Xb] at hm
   obtain ⟨⟨a,_,b,⟨hb,_⟩,e1,e2⟩,_⟩:=hm
   omega
  ·simp only [XL,WA,WP,Xb,and_self,Xp,XH,WO,decide_eq_true_eq] at hm
   obtain ⟨a,⟨_,_,ha⟩,rfl⟩:=hm
   intro k hk hkl
   rcases ha k hkl with h1 | h1
   ·omega
   ·exact hsub k a h1
 ·cases h
theorem ZFr {asl:List AOp} {ps:List (Nat×Nat)} (h:Zem asl=some ps) {j:Nat} (hm:(j,j) ∈ ps):(asl.getD j default).ins.touches=true:=by
 unfold Zem at h
 simp only at h
 split at h
 ·injection h with h
  rw [<-h,Xu] at hm
  rcases hm with hm | hm
  ·simp only [WA,Wj,XL,WP,Xb] at hm
   obtain ⟨⟨a,_,b,⟨hb,_⟩,e1,e2⟩,_⟩:=hm
   omega
  ·simp only [XL,WA,WP,Xb,and_self,Xp] at hm
   obtain ⟨a,⟨_,hc,_⟩,rfl⟩:=hm
   cases hi:(asl.getD a default).ins <;> rw [hi] at hc <;> first | rfl | (simp [ZaK] at hc)
 ·cases h
end
end
section
open Go.RowKit
section
variable {P:Program} {O:ZW} {bf:Nat->Bool} {an:Ann} {base:Nat->Prop} {w0:World} {I0:Imm} {dr:Door}
theorem ZAi {o:AOp} {tm tm1:Tms} {σ σ1:Za} {sq:Nat} {v:AVal} {c:Cls} (ht:o.ins.touches=false) (h:ZS O bf o sq tm σ=some (v,tm1,σ1,c)):c={}:=by
 unfold ZS at h
 split at h
 ·cases h
 ·simp only [Xa,Xb] at h;exact h.2.2.2.symm
 ·split at h
  ·split at h
   ·rename_i he
    simp only [Xa,Xb] at h
    rw [<-h.2.2.2]
    exact (Zso ht he).1
   ·cases h
  ·cases h
theorem Zhu {i:Ins} (h:i.touches=false):nsite i=0:=by cases i <;> simp [Ins.touches] at h <;> rfl
theorem ZgH {asl:List AOp} {L:Nat} {cs:List Cls}:∀ {l:List Nat} {tm tm':Tms} {σ σ':Za},Zcp O bf asl L cs l tm σ tm' σ'->∀ j ∈ l,(asl.getD j default).ins.touches=false->cs.getD j {}={}
 | [],_,_,_,_,_,j,hj,_=>by simp at hj
 | i::l,_,_,_,_,h,j,hj,ht=>by
  cases h with
  | cons h1 _ h2 =>
   rcases XA.1 hj with rfl | hj
   ·exact ZAi ht h1
   ·exact ZgH h2 j hj ht
theorem Zgd (asl:List AOp):∀ {j i:Nat},j < i->i<=asl.length->sitesOf (asl.take j)+nsite (asl.getD j default).ins<=sitesOf (asl.take i):=by
 intro j i hji hi
 induction i with
 | zero=>omega
 | succ i ih =>
  rw [ZmJ asl (by omega)]
  by_cases e:j=i
  ·subst e
   simp [Xo,show j < asl.length by omega]
  ·have:=ih (by omega) (by omega);omega
theorem ZCK (hO:Zak P O) (hkp:∀ n ∈ dr.K,n ∈ an.keep) (hb:KLt base w0) {ops:Array Oper} {asl:List AOp} (hcomp:Zck P an ops ops.toList=some asl) {ps:List (Nat×Nat)} (hps:Zem asl=some ps) {L:Nat} {cs:List Cls} (hchk:Zc9 asl L ps cs=true)
  {tmF:Tms} {σF:Za} {Q:Exit->Act->World->Prop} {I:Imm} {β:Bmap} (hQ:∀ a' w',StR dr an.nt base w0 I0 I β tmF σF a' w'->Q .normal a' w') :
  ∀ (fuel:Nat) (rem:List Nat) (listed:Array Bool) (a:Act) (w:World) (tm:Tms) (σ:Za),Zcp O bf asl L cs rem tm σ tmF σF->rem.Pairwise (· < ·)->(∀ j ∈ rem,j < ops.size)->(∀ j,j < ops.size->(listed.getD j true=true↔j ∉ rem))->listed.size=ops.size ->
   (∀ k,k < ops.size->k ∉ rem->∀ p ∈ (Zbr (asl.map (·.after)) []).getD k [],p ∉ rem)->rem.length=fuel->StR dr an.nt base w0 I0 I β tm σ a w->wpAny P .any ops Q fuel listed a w:=by
 obtain ⟨hlen,hget⟩:=Zii hcomp
 obtain ⟨hp1,hp2⟩:=ZqA hps
 obtain ⟨_,_,hanc⟩:=Zlu (asl.map (·.after)) [] (fun _ _ _=>trivial)
 simp only [XP] at hlen
 have hafter:∀ j o,ops[j]?=some o->∃ ao,asl.getD j default=ao/\Zft P an ops o=some ao/\ao.after=(o.after.toList.filter (Region.binds .any)).map (·.on)/\ao.dst=o.dst:=by
  intro j o ho
  obtain ⟨ao,h1,h2⟩:=hget j o (by simpa using ho)
  refine ⟨ao,by simp [Xo,h1],h2,?_⟩
  obtain ⟨g,i,_,_,_,rfl⟩:=ZmR h2
  exact ⟨rfl,rfl⟩
 intro fuel
 induction fuel with
 | zero =>
  intro rem listed a w tm σ hr hs hlt hl hsz hcl hfl hst
  have : rem=[]:=XV hfl
  subst this
  cases hr
  refine ⟨?_,hQ a w hst⟩
  apply List.eq_nil_iff_forall_not_mem.2
  intro j hj
  rw [mem_ready] at hj
  obtain ⟨h1,o,ho,_⟩:=hj
  have hjl:j < ops.size:=(XB.1 ho).1
  have:=(hl j hjl).2 (by simp)
  rw [h1] at this;cases this
 | succ fuel ih =>
  intro rem listed a w tm σ hr hs hlt hl hsz hcl hfl hst
  have isRem:∀ j,j < ops.size->listed.getD j true=false->j ∈ rem:=by
   intro j hj h
   by_cases hm:j ∈ rem
   ·exact hm
   ·have:=(hl j hj).2 hm;rw [h] at this;cases this
  have getD_tf:∀ j,j < ops.size->listed.getD j false=listed.getD j true:=by
   intro j hj
   simp [XaS,hsz,hj]
  refine ⟨fun hnil=>?_,fun i hi=>?_⟩
  ·exfalso
   cases rem with
   | nil=>simp at hfl
   | cons r rs =>
    have hrl:r < ops.size:=hlt r (by simp)
    have hro:ops[r]?=some ops[r]:=by simp [hrl]
    obtain ⟨ao,e1,e2,e3,_⟩:=hafter r _ hro
    have : r ∈ Region.ready .any ops listed:=by
     rw [mem_ready]
     refine ⟨?_,ops[r],hro,fun e he hbnd=>?_⟩
     ·cases hq:listed.getD r true with
      | false=>rfl
      | true=>exact absurd (List.mem_cons_self) ((hl r hrl).1 hq)
     ·have hon:e.on ∈ ao.after:=by rw [e3];exact XL.2 ⟨e,WA.2 ⟨by simpa using he,hbnd⟩,rfl⟩
      have hlt':e.on < r:=hp2 r (by omega) e.on (by rw [e1];exact hon)
      rw [getD_tf _ (by omega)]
      refine (hl e.on (by omega)).2 (fun hm=>?_)
      rcases XA.1 hm with h | hm
      ·omega
      ·have:=(Wk.1 hs).1 e.on hm;omega
    rw [hnil] at this;simp at this
  ·rw [mem_ready] at hi
   obtain ⟨hi0,o,ho,hpre⟩:=hi
   have hil:i < ops.size:=(XB.1 ho).1
   have him:=isRem i hil hi0
   obtain ⟨l1,l2,rfl⟩:=List.append_of_mem him
   obtain ⟨ao,e1,e2,e3,e4⟩:=hafter i o ho
   have hdone:∀ p ∈ (asl.getD i default).after,p < ops.size->p ∉ l1++i::l2:=by
    intro p hp hpl
    rw [e1,e3] at hp
    obtain ⟨e,he,rfl⟩:=XL.1 hp
    obtain ⟨he1,he2⟩:=WA.1 he
    have:=hpre e (by simpa using he1) he2
    rw [getD_tf _ hpl] at this
    exact (hl e.on hpl).1 this
   have hai:(asl.map (·.after)).getD i []=(asl.getD i default).after:=by
    simp [Xo,show i < asl.length by omega]
   have hanci:∀ p ∈ (Zbr (asl.map (·.after)) []).getD i [],p ∉ l1++i::l2:=by
    intro p hp
    have hap:∀ q,q ∈ (asl.map (·.after)).getD i []->q < i:=fun q hq=>hp2 i (by omega) q (by rw [<-hai];exact hq)
    rcases hanc i (by simp;omega) p (by simpa using hp) with h | ⟨q,h1,h2,h3⟩
    ·exact hdone p (by rw [<-hai];exact h) (by have:=hap p h;omega)
    ·have hql:q < ops.size:=by simp at h2;omega
     exact hcl q hql (hdone q (by rw [<-hai];exact h1) hql) p h3
   have hl1:∀ j ∈ l1,j < i:=by
    intro j hj
    have:=WD.1 hs
    exact this.2.2 j hj i (by simp)
   obtain ⟨v1,tm1,σ1,h1,hnp1,h2⟩:=Zke (l1:=l1) (i:=i) (fun j hj=>by
    have hji:=hl1 j hj
    have hjn:j ∉ (Zbr (asl.map (·.after)) []).getD i []:=fun hm=>hanci j hm (by simp [hj])
    obtain ⟨p1,p2⟩:=hp1 j i hji (by omega) hjn
    refine ⟨p1,?_,fun hn _=>?_,?_⟩
    ·rcases p2 with p2 | p2 | p2
     ·have:=ZgH hr j (by simp [hj]) p2
      have hem:ZbN (asl.getD j default) (cs.getD j {})=true:=by rw [this];simp only [ZbN,Zhu p2];rfl
      simp only [Zca,hem,WZ]
     ·have:=ZgH hr i (by simp) p2
      have hem:ZbN (asl.getD i default) (cs.getD i {})=true:=by rw [this];simp only [ZbN,Zhu p2];rfl
      simp only [Zca,hem,WZ,XaB]
     ·have:=XH.1 hchk (j,i) p2
      simp only [WO,beq_iff_eq] at this
      rcases this with h | h
      ·omega
      ·exact h
    ·have:=Zgd asl hji (by omega)
     omega
    ·have:=Zgd asl hji (by omega)
     omega) hr
   unfold wpOp
   rw [ho]
   rw [e1] at h1
   obtain ⟨I',β',g1,g2,g3,g4,g5⟩:=hst
   refine Zgn hO hkp e2 g3 g4 g5 hb h1 (fun _ a' w' hs'=>ih (l1++l2) _ a' w' tm1 σ1 h2 ?_ ?_ ?_ (by simpa using hsz) ?_ ?_ (hs'.trans g1 g2)) (fun x e=>absurd e (hnp1 x))
   ·have:=WD.1 hs
    exact WD.2 ⟨this.1,(Wk.1 this.2.1).2,fun x hx y hy=>this.2.2 x hx y (by simp [hy])⟩
   ·intro j hj
    refine hlt j ?_
    simp only [Xu,XA] at hj ⊢
    rcases hj with h | h
    ·exact Xs h
    ·exact Xy (Xy h)
   ·intro j hj
    have hs1:=WD.1 hs
    by_cases hij:i=j
    ·subst hij
     have hn:i ∉ l1++l2:=by
      intro hm
      rcases Xu.1 hm with h | h
      ·have:=hl1 i h;omega
      ·have:=(Wk.1 hs1.2.1).1 i h;omega
     simp [XaS,hsz,hil,hn]
    ·rw [getD_set_ne true hij,hl j hj]
     simp only [Xu,XA,not_or]
     constructor
     ·rintro ⟨a1,_,a3⟩;exact ⟨a1,a3⟩
     ·rintro ⟨a1,a3⟩;exact ⟨a1,fun e=>hij e.symm,a3⟩
   ·intro k hk hkn p hp hm
    have hsub:p ∈ l1++i::l2:=by
     simp only [Xu,XA] at hm ⊢
     rcases hm with h | h
     ·exact Xs h
     ·exact Xy (Xy h)
    by_cases hki:k=i
    ·subst hki;exact hanci p hp hsub
    ·refine hcl k hk (fun hkm=>hkn ?_) p hp hsub
     simp only [Xu,XA] at hkm ⊢
     rcases hkm with h | h | h
     ·exact Xs h
     ·exact absurd h hki
     ·exact Xy h
   ·simp at hfl ⊢;omega
theorem ZxV (hO:Zak P O) (hkp:∀ n ∈ dr.K,n ∈ an.keep) (hb:KLt base w0) {ops:Array Oper} {asl:List AOp} (hcomp:Zck P an ops ops.toList=some asl) {ps:List (Nat×Nat)} (hps:Zem asl=some ps) {L:Nat} {cs:List Cls} {jp:Nat} (hjl:jp < ops.size) (hmark:(jp,jp) ∈ ps) (hmarkT:(asl.getD jp default).ins.touches=true) (hfree:∀ j i,(j,i) ∈ ps->j < i->i<=jp->Zca (asl.getD j default) (asl.getD i default) (cs.getD j {}) (cs.getD i {}) (L+sitesOf (asl.take j))=true) (hquiet:∀ j,(j,jp) ∈ ps->j < jp->ZaQ (asl.getD j default).ins=true)
  {x:AVal} {σF:Za} {Q:Exit->Act->World->Prop} {I:Imm} {β:Bmap} (hQ:∀ a' u w',dr.ok a'->Post base w0 I0 I β x σF u w'->Q (.panic [{ v:=u,recovered:=false }]) a' w') :
  ∀ (fuel:Nat) (pre post:List Nat) (listed:Array Bool) (a:Act) (w:World) (tm tmJ tmX:Tms) (σ σJ:Za),Zcp O bf asl L cs pre tm σ tmJ σJ->ZS O bf (asl.getD jp default) (L+sitesOf (asl.take jp)) tmJ σJ=some (.pan x,tmX,σF,cs.getD jp {})->(pre++jp::post).Pairwise (· < ·)->(∀ j ∈ pre++jp::post,j < ops.size)->(∀ j,j < ops.size->(listed.getD j true=true↔j ∉ pre++jp::post))->listed.size=ops.size ->
   (∀ k,k < ops.size->k ∉ pre++jp::post->∀ p ∈ (Zbr (asl.map (·.after)) []).getD k [],p ∉ pre++jp::post)->(pre++jp::post).length=fuel->StR dr an.nt base w0 I0 I β tm σ a w->wpAny P .any ops Q fuel listed a w:=by
 obtain ⟨hlen,hget⟩:=Zii hcomp
 obtain ⟨hp1,hp2⟩:=ZqA hps
 have hmk:=Zxk hps hmark
 obtain ⟨_,_,hanc⟩:=Zlu (asl.map (·.after)) [] (fun _ _ _=>trivial)
 simp only [XP] at hlen
 have hafter:∀ j o,ops[j]?=some o->∃ ao,asl.getD j default=ao/\Zft P an ops o=some ao/\ao.after=(o.after.toList.filter (Region.binds .any)).map (·.on)/\ao.dst=o.dst:=by
  intro j o ho
  obtain ⟨ao,h1,h2⟩:=hget j o (by simpa using ho)
  refine ⟨ao,by simp [Xo,h1],h2,?_⟩
  obtain ⟨g,i,_,_,_,rfl⟩:=ZmR h2
  exact ⟨rfl,rfl⟩
 intro fuel
 induction fuel with
 | zero =>
  intro pre post listed a w tm tmJ tmX σ σJ hr hj hs hlt hl hsz hcl hfl hst
  simp at hfl
 | succ fuel ih =>
  intro pre post listed a w tm tmJ tmX σ σJ hr hj hs hlt hl hsz hcl hfl hst
  have getD_tf:∀ j,j < ops.size->listed.getD j false=listed.getD j true:=by
   intro j hj
   simp [XaS,hsz,hj]
  have isRem:∀ j,j < ops.size->listed.getD j true=false->j ∈ pre++jp::post:=by
   intro j hj h
   by_cases hm:j ∈ pre++jp::post
   ·exact hm
   ·have:=(hl j hj).2 hm;rw [h] at this;cases this
  refine ⟨fun hnil=>?_,fun i hi=>?_⟩
  ·exfalso
   obtain ⟨r,rs,hrr⟩:∃ r rs,pre++jp::post=r::rs:=by cases pre <;> simp
   rw [hrr] at hs hlt hl
   have hrl:r < ops.size:=hlt r (by simp)
   have hro:ops[r]?=some ops[r]:=by simp [hrl]
   obtain ⟨ao,e1,e2,e3,_⟩:=hafter r _ hro
   have : r ∈ Region.ready .any ops listed:=by
    rw [mem_ready]
    refine ⟨?_,ops[r],hro,fun e he hbnd=>?_⟩
    ·cases hq:listed.getD r true with
     | false=>rfl
     | true=>exact absurd (List.mem_cons_self) ((hl r hrl).1 hq)
    ·have hon:e.on ∈ ao.after:=by rw [e3];exact XL.2 ⟨e,WA.2 ⟨by simpa using he,hbnd⟩,rfl⟩
     have hlt':e.on < r:=hp2 r (by omega) e.on (by rw [e1];exact hon)
     rw [getD_tf _ (by omega)]
     refine (hl e.on (by omega)).2 (fun hm=>?_)
     rcases XA.1 hm with h | hm
     ·omega
     ·have:=(Wk.1 hs).1 e.on hm;omega
   rw [hnil] at this;simp at this
  ·rw [mem_ready] at hi
   obtain ⟨hi0,o,ho,hpre⟩:=hi
   have hil:i < ops.size:=(XB.1 ho).1
   have him:=isRem i hil hi0
   obtain ⟨ao,e1,e2,e3,e4⟩:=hafter i o ho
   have hdone:∀ p ∈ (asl.getD i default).after,p < ops.size->p ∉ pre++jp::post:=by
    intro p hp hpl
    rw [e1,e3] at hp
    obtain ⟨e,he,rfl⟩:=XL.1 hp
    obtain ⟨he1,he2⟩:=WA.1 he
    have:=hpre e (by simpa using he1) he2
    rw [getD_tf _ hpl] at this
    exact (hl e.on hpl).1 this
   have hai:(asl.map (·.after)).getD i []=(asl.getD i default).after:=by
    simp [Xo,show i < asl.length by omega]
   have hanci:∀ p ∈ (Zbr (asl.map (·.after)) []).getD i [],p ∉ pre++jp::post:=by
    intro p hp
    have hap:∀ q,q ∈ (asl.map (·.after)).getD i []->q < i:=fun q hq=>hp2 i (by omega) q (by rw [<-hai];exact hq)
    rcases hanc i (by simp;omega) p (by simpa using hp) with h | ⟨q,h1,h2,h3⟩
    ·exact hdone p (by rw [<-hai];exact h) (by have:=hap p h;omega)
    ·have hql:q < ops.size:=by simp at h2;omega
     exact hcl q hql (hdone q (by rw [<-hai];exact h1) hql) p h3
   have hss:=WD.1 hs
   rw [Xu,XA] at him
   rcases him with him | hij | him
   ·obtain ⟨l1,l2,rfl⟩:=List.append_of_mem him
    have hl1:∀ j ∈ l1,j < i:=by
     intro j hj
     exact (WD.1 hss.1).2.2 j hj i (by simp)
    have hijp:i < jp:=hss.2.2 i (by simp) jp (by simp)
    obtain ⟨v1,tm1,σ1,h1,hnp1,h2⟩:=Zke (l1:=l1) (i:=i) (fun j hj'=>by
     have hji:=hl1 j hj'
     have hjn:j ∉ (Zbr (asl.map (·.after)) []).getD i []:=fun hm=>hanci j hm (by simp [hj'])
     obtain ⟨p1,p2⟩:=hp1 j i hji (by omega) hjn
     refine ⟨p1,?_,fun hn _=>?_,?_⟩
     ·rcases p2 with p2 | p2 | p2
      ·have:=ZgH hr j (by simp [hj']) p2
       have hem:ZbN (asl.getD j default) (cs.getD j {})=true:=by rw [this];simp only [ZbN,Zhu p2];rfl
       simp only [Zca,hem,WZ]
      ·have:=ZgH hr i (by simp) p2
       have hem:ZbN (asl.getD i default) (cs.getD i {})=true:=by rw [this];simp only [ZbN,Zhu p2];rfl
       simp only [Zca,hem,WZ,XaB]
      ·exact hfree j i p2 hji (by omega)
     ·have:=Zgd asl hji (by omega)
      omega
     ·have:=Zgd asl hji (by omega)
      omega) hr
    have eA:(l1++i::l2)++jp::post=l1++i::(l2++jp::post):=by simp
    have eB:(l1++l2)++jp::post=l1++(l2++jp::post):=by simp
    rw [eA] at hs hlt hl hcl hanci hfl
    unfold wpOp
    rw [ho]
    rw [e1] at h1
    obtain ⟨I',β',g1,g2,g3,g4,g5⟩:=hst
    refine Zgn hO hkp e2 g3 g4 g5 hb h1 (fun _ a' w' hs'=>ih (l1++l2) post _ a' w' tm1 tmJ tmX σ1 σJ h2 hj ?_ ?_ ?_ (by simpa using hsz) ?_ ?_ (hs'.trans g1 g2)) (fun x e=>absurd e (hnp1 x))
    ·rw [eB]
     have:=WD.1 hs
     exact WD.2 ⟨this.1,(Wk.1 this.2.1).2,fun x hx y hy=>this.2.2 x hx y (by simp only [XA];exact Xy hy)⟩
    ·intro j hj
     rw [eB] at hj
     refine hlt j ?_
     simp only [Xu,XA] at hj ⊢
     rcases hj with h | h | h | h
     ·exact Xs h
     ·exact Xy (Xy (Xs h))
     ·exact Xy (Xy (Xy (Xs h)))
     ·exact Xy (Xy (Xy (Xy h)))
    ·intro j hj
     rw [eB]
     generalize l2++jp::post=L2 at *
     have hs1:=WD.1 hs
     by_cases hij:i=j
     ·subst hij
      have hn:i ∉ l1++L2:=by
       intro hm
       rcases Xu.1 hm with h | h
       ·have:=hl1 i h;omega
       ·have:=(Wk.1 hs1.2.1).1 i h;omega
      simp [XaS,hsz,hil,hn]
     ·rw [getD_set_ne true hij,hl j hj]
      simp only [Xu,XA,not_or]
      constructor
      ·rintro ⟨a1,_,a3⟩;exact ⟨a1,a3⟩
      ·rintro ⟨a1,a3⟩;exact ⟨a1,fun e=>hij e.symm,a3⟩
    ·intro k hk hkn p hp hm
     rw [eB] at hkn hm
     generalize l2++jp::post=L2 at *
     have hsub:p ∈ l1++i::L2:=by
      simp only [Xu,XA] at hm ⊢
      rcases hm with h | h
      ·exact Xs h
      ·exact Xy (Xy h)
     by_cases hki:k=i
     ·subst hki;exact hanci p hp hsub
     ·refine hcl k hk (fun hkm=>hkn ?_) p hp hsub
      simp only [Xu,XA] at hkm ⊢
      rcases hkm with h | h | h
      ·exact Xs h
      ·exact absurd h hki
      ·exact Xy h
    ·rw [eB];simp at hfl ⊢;omega
   ·subst hij
    have hl1:∀ j ∈ pre,j < i:=fun j hj=>hss.2.2 j hj i (by simp)
    obtain ⟨tm1,h1⟩:=Zqm (l1:=pre) (i:=i) (fun j hj'=>by
     have hji:=hl1 j hj'
     have hjn:j ∉ (Zbr (asl.map (·.after)) []).getD i []:=fun hm=>hanci j hm (by simp [hj'])
     obtain ⟨p1,p2⟩:=hp1 j i hji (by omega) hjn
     have hts:(asl.getD i default).ins.touches=false->False:=fun h=>by
      have:=hmarkT
      rw [h] at this;cases this
     refine ⟨?_,p1,?_,fun hn _=>?_,?_⟩
     ·rcases p2 with p2 | p2 | p2
      ·exact Xs p2
      ·exact (hts p2).elim
      ·exact Xy (hquiet j p2 hji)
     ·rcases p2 with p2 | p2 | p2
      ·have:=ZgH hr j hj' p2
       have hem:ZbN (asl.getD j default) (cs.getD j {})=true:=by rw [this];simp only [ZbN,Zhu p2];rfl
       simp only [Zca,hem,WZ]
      ·exact (hts p2).elim
      ·exact hfree j i p2 hji (X3 _)
     ·have:=Zgd asl hji (by omega)
      omega
     ·have:=Zgd asl hji (by omega)
      omega) hr hj
    unfold wpOp
    rw [ho]
    rw [e1] at h1
    obtain ⟨I',β',g1,g2,g3,g4,g5⟩:=hst
    refine Zgn hO hkp e2 g3 g4 g5 hb h1 (fun hn=>absurd rfl (hn x)) (fun x' e u w' hp=>?_)
    injection e with e
    subst e
    exact hQ a u w' g4.1 (hp.trans g1 g2)
   ·exfalso
    have hlt2:jp < i:=(Wk.1 hss.2.1).1 i him
    exact hanci jp (hmk i hlt2 (by omega)) (by simp)
theorem Rel.reserve {I:Imm} {β:Bmap} {σ:Za} {w:World} (R:Rel base w0 I0 I β σ w) (n:Nat):Rel base w0 I0 I β (σ++Xx n .free) w:=by
 have look:∀ t x,(σ++Xx n ZU.free)[t]?=some x->σ[t]?=some x\/(σ.length<=t/\x=.free):=by
  intro t x h
  by_cases ht:t < σ.length
  ·rw [WN ht] at h;exact Xs h
  ·rw [Ww (by omega)] at h
   refine Xy ⟨by omega,?_⟩
   have:=Xt h
   exact List.eq_of_mem_replicate this
 refine ⟨R.below,R.old,R.imm,?_,?_,?_,?_,?_,?_,R.glob,?_⟩
 ·intro t x h
  rcases look t x h with h | ⟨_,rfl⟩
  ·exact R.blk t x h
  ·trivial
 ·intro t x b h hb
  rcases look t x h with h | ⟨_,rfl⟩
  ·exact R.own t x b h hb
  ·cases hb
 ·intro t x t' x' b h h' hb hb'
  rcases look t x h with h | ⟨_,rfl⟩
  ·rcases look t' x' h' with h' | ⟨_,rfl⟩
   ·exact R.apart t x t' x' b h h' hb hb'
   ·cases hb'
  ·cases hb
 ·intro t g h
  exact R.fresh t g (by simp at h;omega)
 ·intro t g h
  rcases look t _ h with h | ⟨h,_⟩
  ·exact R.free t g h
  ·exact R.fresh t g h
 ·intro t x g h hg
  rcases look t _ h with h | ⟨h,_⟩
  ·exact R.gen t x g h hg
  ·exact R.fresh t g h
 ·intro t x b h hb
  rcases look t x h with h | ⟨_,rfl⟩
  ·exact R.ro t x b h hb
  ·cases hb
theorem StR.keep {I:Imm} {β:Bmap} {tm:Tms} {σ:Za} {a:Act} {w:World} (h:StR dr an.nt base w0 I0 I β tm σ a w) (live:List Nat):StR dr an.nt base w0 I0 I β (keepL live tm) σ a w:=by
 obtain ⟨I',β',h1,h2,h3,h4⟩:=h
 exact ⟨I',β',h1,h2,h3.keep live,h4⟩
def Zv8 (dr:Door) (an:Ann) (base:Nat->Prop) (w0:World) (I0 I:Imm) (β:Bmap) (e:ZY) (tm:Tms) (σ:Za) (Q:Exit->Act->World->Prop):Prop:=match e with
 | .normal=>∀ a w,StR dr an.nt base w0 I0 I β tm σ a w->Q .normal a w
 | .exit id=>∀ a w,StR dr an.nt base w0 I0 I β tm σ a w->Q (.exit id) a w
 | .ret=>∀ a w,StR dr an.nt base w0 I0 I β tm σ a w->Q .ret a w
 | .panic x=>∀ a u w,dr.ok a->Post base w0 I0 I β x σ u w->Q (.panic [{ v:=u,recovered:=false }]) a w
theorem ZDx (hO:Zak P O) (hkp:∀ n ∈ dr.K,n ∈ an.keep) (hm:P.follows .mixedOrders=true) (hb:KLt base w0) {id:Nat} {ops:Array Oper} {draw:Bool} {asl:List AOp} {chk:Option (List (Nat×Nat))} {live:List Nat} (hc:Zax P an (.region id ops draw)=.region asl chk live) {I:Imm} {β:Bmap} {tm tm':Tms} {σ σ':Za} {a:Act} {w:World} {e:ZY}
  (hst:StR dr an.nt base w0 I0 I β tm σ a w) (h:ZbZ O bf asl chk live tm σ=some (e,tm',σ')) {Q:Exit->Act->World->Prop} (hQ:Zv8 dr an base w0 I0 I β e tm' σ' Q):(Code.region id ops draw).wp P Q a w:=by
 obtain ⟨I1,β1,g1,g2,g3,g4,g5⟩:=hst
 simp only [Zax] at hc
 split at hc
 ·rename_i l hl
  unfold ZbZ at h
  split at hc
  ·rename_i hd
   subst hd
   split at hc
   ·rename_i ps hps
    simp only [Zo.region.injEq] at hc
    obtain ⟨rfl,rfl,rfl⟩:=hc
    cases hrun:ZX O bf l σ.length tm (σ++Xx (sitesOf l) .free) with
    | none=>rw [hrun] at h;simp only [ZdB] at h;cases h
    | some q =>
     obtain ⟨tm1,σ1,cs,p⟩:=q
     rw [hrun] at h
     cases p with
     | some x =>
      simp only [ZdB] at h
      split at h
      ·rename_i hpan
       simp only [Xa,Xb] at h
       obtain ⟨rfl,rfl,rfl⟩:=h
       have hlen:=(Zii hl).1
       simp only [XP] at hlen
       obtain ⟨n,tmJ,σJ,tmX,q1,q2,q3,q4⟩:=Znz (O:=O) (bf:=bf) (ops:=l) (L:=σ.length) l.length 0 (cs:=cs) (cs':=cs) (by omega) (by simpa [sitesOf] using hrun) (fun j=>by simp)
       rw [XD] at q4
       unfold Zbg at hpan
       rw [q2] at hpan
       simp only [Xp,List.any_eq_true,XH,WO,beq_iff_eq,decide_eq_true_eq,Nat.add_sub_cancel] at hpan
       obtain ⟨⟨pm,hpm,hm1,hm2⟩,hall⟩:=hpan
       have hmk:(n,n) ∈ ps:=by
        obtain ⟨a1,a2⟩:=pm
        simp only at hm1 hm2
        subst hm1 hm2
        exact hpm
       have hT:(l.getD n default).ins.touches=true:=ZFr hps hmk
       refine wp_region_any hm (ZxV hO hkp hb hl hps (jp:=n) (by omega) hmk hT (fun j i hji h1 h2=>?_) (fun j hj h1=>?_) (I:=I) (β:=β) (x:=x) (fun a' u w' hd' hp=>hQ a' u w' hd' hp) ops.size (XaL 0 n) (XaL (n+1) (l.length - n - 1)) _ a _ tm tmJ tmX _ σJ q3 q4 ?_ ?_ ?_ (by simp) ?_ (by simp;omega) ⟨I1,β1,g1,g2,g3,g4,(g5.reserve _).same rfl rfl rfl rfl⟩)
       ·rcases hall (j,i) hji with (h | h) | ⟨h,_⟩
        ·simp only at h;omega
        ·simp only at h;omega
        ·exact h
       ·rcases hall (j,n) hj with (h | h) | ⟨_,h⟩
        ·simp only at h;omega
        ·simp only at h;omega
        ·rcases h with h | h
         ·simp only at h;omega
         ·exact h
       ·have e:XaL 0 n++n::XaL (n+1) (l.length - n - 1)=XaL 0 l.length:=by
         rw [<-Xbh]
         have:=List.range'_append_1 (s:=0) (m:=n) (n:=l.length - n - 1+1)
         rw [XD] at this
         rw [this]
         congr 1
         omega
        rw [e];exact List.pairwise_lt_range'
       ·intro j hj;simp at hj;omega
       ·intro j hj
        simp [XaS,hj]
        omega
       ·intro k hk hkn
        exact absurd (by simp;omega) hkn
      ·cases h
     | none =>
      simp only [ZdB] at h
      split at h
      ·rename_i hchk
       simp only [Xa,Xb] at h
       obtain ⟨rfl,rfl,rfl⟩:=h
       have hlen:=(Zii hl).1
       simp only [XP] at hlen
       have hr:=ZpY (O:=O) (bf:=bf) (ops:=l) (L:=σ.length) l.length 0 (cs:=cs) (cs':=cs) (by omega) (by simpa [sitesOf] using hrun) (fun j=>by simp)
       refine wp_region_any hm (ZCK hO hkp hb hl hps hchk (I:=I) (β:=β) (fun a' w' hs=>hQ a' w' (hs.keep _)) ops.size (XaL 0 l.length) _ a _ tm _ hr ?_ ?_ ?_ (by simp) ?_ (by simp [hlen]) ⟨I1,β1,g1,g2,g3,g4,(g5.reserve _).same rfl rfl rfl rfl⟩)
       ·exact List.pairwise_lt_range'
       ·intro j hj;simp at hj;omega
       ·intro j hj
        simp [XaS,hj,hlen]
       ·intro k hk hkn
        exact absurd (by simp;omega) hkn
      ·cases h
   ·cases hc
  ·rename_i hd
   simp only [Zo.region.injEq] at hc
   obtain ⟨rfl,rfl,rfl⟩:=hc
   have hdf:draw=false:=by cases draw <;> simp_all
   subst hdf
   cases hrun:ZX O bf l σ.length tm (σ++Xx (sitesOf l) .free) with
   | none=>rw [hrun] at h;simp only [ZdB] at h;cases h
   | some q =>
    obtain ⟨tm1,σ1,cs,p⟩:=q
    rw [hrun] at h
    cases p with
    | none =>
     simp only [ZdB,Xa,Xb] at h
     obtain ⟨rfl,rfl,rfl⟩:=h
     exact wp_region_list (Zkp hO hkp hb hl g3 g4 (g5.reserve _) hrun (fun _ a' w' hs=>hQ a' w' ((hs.trans g1 g2).keep _)) (fun x hx=>by cases hx))
    | some x =>
     simp only [ZdB,Xa,Xb] at h
     obtain ⟨rfl,rfl,rfl⟩:=h
     exact wp_region_list (Zkp hO hkp hb hl g3 g4 (g5.reserve _) hrun (fun hx=>by cases hx) (fun x' hx a' u w' hd' hp=>by
      injection hx with hx;subst hx
      exact hQ a' u w' hd' (hp.trans g1 g2)))
 ·cases hc
end
end
section
open Go.RowKit
open Go.ChangeMaps (setBlock)
theorem Zq4:∀ (js L:List Nat),js.Nodup->(∀ j ∈ js,j ∈ L)->L.Nodup->∃ rest,L.Perm (js++rest)
 | [],L,_,_,_=>⟨L,Xaa _⟩
 | j::js,L,hn,hs,hL=>by
  have hj:j ∈ L:=hs j (by simp)
  have hp:L.Perm (j::L.erase j):=List.perm_cons_erase hj
  obtain ⟨rest,hr⟩:=Zq4 js (L.erase j) (Wa.1 hn).2 (fun k hk=>by
   have hne:k≠j:=by rintro rfl;exact (Wa.1 hn).1 hk
   exact (List.mem_erase_of_ne hne).2 (hs k (by simp [hk]))) (hL.erase j)
  exact ⟨rest,hp.trans (by simpa using Xa8.cons j hr)⟩
theorem ZCO {α:Type} (es:List α) (d:α):(Wu es.length).map (es.getD · d)=es:=by
 apply List.ext_getElem?
 intro i
 rw [XW]
 by_cases h:i < es.length
 ·rw [List.getElem?_range h];simp [Xo,h]
 ·rw [XQ (by simpa using h),XQ (by omega)];rfl
theorem ZkJ:∀ {σ σ':Za} {u:Nat} {b:ZU},Zdo σ σ'=true->σ'[u]?=some b->Zdp b=true->∃ a,σ[u]?=some a/\Zdp a=true
 | _,[],u,b,_,h,_=>by simp at h
 | [],x::r,u,b,h,hu,hb=>by
  simp only [Zdo,Xp,Wo] at h
  cases u with
  | zero =>
   simp only [XG,Xa] at hu
   subst hu
   rw [h.1] at hb;cases hb
  | succ u =>
   obtain ⟨a,h1,_⟩:=ZkJ h.2 (by simpa using hu) hb
   simp at h1
 | a::s,x::r,u,b,h,hu,hb=>by
  simp only [Zdo,Xp,WO,Wo] at h
  cases u with
  | zero =>
   simp only [XG,Xa] at hu
   subst hu
   rcases h.1 with h1 | h1
   ·rw [h1] at hb;cases hb
   ·exact ⟨a,rfl,h1⟩
  | succ u =>
   obtain ⟨a',h1,h2⟩:=ZkJ h.2 (by simpa using hu) hb
   exact ⟨a',by simpa using h1,h2⟩
theorem ZuT {arr:Array MapEntry} {seen:Array Nat} {e:MapEntry} (h:e ∈ (leftOf arr seen).toList):e ∈ arr.toList/\seen.contains e.born=false:=by
 unfold leftOf at h
 simp only [Array.toList_filter,WA,Wo] at h
 exact h
theorem Zzx {arr:Array MapEntry} {seen:Array Nat} (h:(leftOf arr seen).size=0):∀ e ∈ arr.toList,seen.contains e.born=true:=by
 intro e he
 cases hc:seen.contains e.born with
 | true=>rfl
 | false =>
  have hm:e ∈ (leftOf arr seen).toList:=by
   unfold leftOf
   simp only [Array.toList_filter,WA,Wo]
   exact ⟨he,hc⟩
  have : (leftOf arr seen).toList=[]:=by
   apply XV
   simpa using h
  rw [this] at hm;cases hm
section
variable {P:Program} {O:ZW} {bf:Nat->Bool} {an:Ann} {base base':Nat->Prop} {w0 w w' w1 w2:World} {I0 I I' I1 I2:Imm} {β β' β1 β2:Bmap} {σ σ' σ1 σ2:Za} {dr:Door}
theorem noO:Zak P (fun _ _ _=>none):=by intro f args σ r σ' h;cases h
theorem Zib {ops:Array Oper} {Q:Exit->Act->World->Prop} {o:Oper} {l:List Oper} {a:Act} {w:World} (hg:o.guard=none) (h:o.wp P a w (wpList P ops Q l) Q):wpList P ops Q (o::l) a w:=by
 unfold wpList
 have : Region.wanted o (yielded ops a.tmps)=true:=by unfold Region.wanted;rw [hg]
 rw [this]
 simp only [if_true]
 exact Xs h
theorem pgs {a:Act} {d:Nat} {u:Value} (h:d < a.tmps.size):(a.put (some d) u).tmps.getD d undef=u:=by
 simp [Act.put,XaS,h]
theorem ZjS {m:Sem Value} {u:Value} (h:m.run P w=.ok u w):(do let q <-m;pure (Next.value q):Sem Next).run P w=.ok (.value u) w:=by
 rw [Sem.run_bind,h];rfl
theorem pgn {a:Act} {d j:Nat} {u:Value} (h:d≠j):(a.put (some d) u).tmps.getD j undef=a.tmps.getD j undef:=by
 simp only [Act.put,WU]
 rw [Wi h]
def StF (dr:Door) (m nt:Nat) (base:Nat->Prop) (w0:World) (I0 I:Imm) (β:Bmap) (tm:Tms) (σ:Za) (a:Act) (w:World):Prop :=
 ∃ I' β',I.le I'/\KeptE m β β'/\TR I' β' tm a.tmps/\(dr.ok a/\nt<=a.tmps.size)/\Rel base w0 I0 I' β' σ w
def Zmw (dr:Door) (m:Nat) (an:Ann) (base:Nat->Prop) (w0:World) (I0 I:Imm) (β:Bmap) (e:ZY) (tm:Tms) (σ:Za) (Q:Exit->Act->World->Prop):Prop:=match e with
 | .normal=>∀ a w,StF dr m an.nt base w0 I0 I β tm σ a w->Q .normal a w
 | .exit id=>∀ a w,StF dr m an.nt base w0 I0 I β tm σ a w->Q (.exit id) a w
 | .ret=>∀ a w,StF dr m an.nt base w0 I0 I β tm σ a w->Q .ret a w
 | .panic x=>∀ a u w,dr.ok a->Zcg m base w0 I0 I β (.pan x) σ u w->Q (.panic [{ v:=u,recovered:=false }]) a w
theorem Zmx (hO:Zak P O) (hkp:∀ n ∈ dr.K,n ∈ an.keep) (hb:KLt base w0) {ops:Array Oper} {Q:Exit->Act->World->Prop} {r:List Oper}:∀ {l:List Oper} {asl:List AOp} {sq:Nat} {I:Imm} {β:Bmap} {tm tm':Tms} {σ σ':Za} {cs:List Cls} {a:Act} {w:World},Zck P an ops l=some asl->TR I β tm a.tmps->(dr.ok a/\an.nt<=a.tmps.size)->Rel base w0 I0 I β σ w ->
  ZX O bf asl sq tm σ=some (tm',σ',cs,none)->(∀ a' w',StR dr an.nt base w0 I0 I β tm' σ' a' w'->wpList P ops Q r a' w')->wpList P ops Q (l++r) a w
 | [],asl,sq,I,β,tm,tm',σ,σ',cs,a,w,hc,T,hd,R,h,hQ=>by
  simp only [Zck,Xa] at hc;subst hc
  simp only [ZX,Xa,Xb] at h
  obtain ⟨rfl,rfl,rfl,_⟩:=h
  exact hQ _ _ ⟨I,β,Imm.le.refl I,Bmap.le.refl β,T,hd,R⟩
 | o::l,asl,sq,I,β,tm,tm',σ,σ',cs,a,w,hc,T,hd,R,h,hQ=>by
  simp only [Zck] at hc
  split at hc
  ·rename_i ao hao
   split at hc
   ·rename_i as' has'
    injection hc with hc;subst hc
    simp only [ZX] at h
    split at h
    ·cases h
    ·simp only [Xa,Xb] at h
     obtain ⟨_,_,_,h⟩:=h
     cases h
    ·rename_i v tm1 σ1 c1 hnp h1
     split at h
     ·cases h
     rename_i tm2 σ2 cs2 p2 h2
     simp only [Xa,Xb] at h
     obtain ⟨rfl,rfl,rfl,rfl⟩:=h
     have:=Zgn (dr:=dr) (K:=wpList P ops Q (l++r)) (Q:=Q) hO hkp hao T hd R hb h1 (fun _ a' w' hs=>by
      obtain ⟨I',β',g1,g2,g3,g4,g5⟩:=hs
      exact Zmx hO hkp hb has' g3 g4 g5 h2 (fun a'' w'' hs'=>hQ a'' w'' (hs'.trans g1 g2))) (fun x e=>absurd e (fun e=>hnp x e))
     rw [Wt]
     unfold wpList
     exact this
   ·cases hc
  ·cases hc
theorem ZqO {asl:List AOp} {tm tm':Tms} (h:ZcJ bf asl tm σ=some (tm',σ')):∃ cs,ZX (fun _ _ _=>none) bf asl σ.length tm σ=some (tm',σ',cs,none):=by
 unfold ZcJ at h
 split at h
 ·rename_i tm1 σ1 cs h1
  simp only [Xa,Xb] at h
  obtain ⟨rfl,rfl⟩:=h
  exact ⟨cs,h1⟩
 ·cases h
theorem ZzH {m:Nat} {x:AVal} {v:Value} (hx:Zej m x=true) (hk:KeptE m β β') (h:VR I β x v):VR I' β' x v\/(∃ a xs,x=.lst a xs):=by
 cases x with
 | int | bool | str | nilp | nilm | nili=>exact Xs h
 | lst a xs=>exact Xy ⟨a,xs,rfl⟩
 | sl t g lo n =>
  simp only [Zej,Xp,decide_eq_true_eq] at hx
  obtain ⟨rfl,ht⟩:=hx
  simp only [VR] at h ⊢
  obtain ⟨bi,e,h⟩:=h
  exact Xs ⟨bi,hk t ht bi e,h⟩
 | ref t o =>
  simp only [Zej,decide_eq_true_eq] at hx
  simp only [VR] at h ⊢
  obtain ⟨b,k,c,e,h⟩:=h
  exact Xs ⟨b,k,c,hk t hx _ e,h⟩
 | map t =>
  simp only [Zej,decide_eq_true_eq] at hx
  simp only [VR] at h ⊢
  obtain ⟨b,k,c,e,h⟩:=h
  exact Xs ⟨b,k,c,hk t hx _ e,h⟩
 | _=>simp [Zej] at hx
theorem ZAV {a:Bool} {xs:List AVal} {v:Value} (hI:I.le I') (h:VR I β (.lst a xs) v):VR I' β' (.lst a xs) v:=by
 have ht:Zap (.lst a xs)=true:=by
  simp only [VR] at h
  obtain ⟨A,cap,_,_,_,_,_,ht⟩:=h
  simpa [Zap] using ht
 exact (VR.of_tree (β':=β') ht h).mono hI (Bmap.le.refl _) _ _
theorem Zri {m:Nat} {x:AVal} {v:Value} (hx:Zej m x=true) (hI:I.le I') (hk:KeptE m β β') (h:VR I β x v):VR I' β' x v:=by
 rcases ZzH (I':=I') hx hk h with h | ⟨a,xs,rfl⟩
 ·exact h
 ·exact ZAV hI h
theorem ZnG {m:Nat} (hI:I.le I') (hk:KeptE m β β'):∀ {cs:List AVal} {vs:List Value},cs.all (Zej m)=true->VRs I β cs vs->VRs I' β' cs vs
 | [],vs,_,h=>h
 | x::cs,vs,hx,h=>by
  rw [XE,Xp] at hx
  simp only [VRs] at h ⊢
  obtain ⟨v,vs',rfl,h1,h2⟩:=h
  exact ⟨v,vs',rfl,Zri hx.1 hI hk h1,ZnG hI hk hx.2 h2⟩
theorem ZyG {m:Nat} {x:AVal} {v:Value} (hx:ZhG m x=true) (hI:I.le I') (hk:KeptE m β β') (h:VR I β x v):VR I' β' x v:=by
 cases x with
 | agg cs =>
  simp only [VR] at h ⊢
  obtain ⟨us,rfl,h⟩:=h
  exact ⟨us,rfl,ZnG hI hk hx h⟩
 | _=>exact Zri hx hI hk h
theorem Zqz {m:Nat} (hI:I.le I') (hk:KeptE m β β'):∀ {cs:List AVal} {vs:List Value},(∀ x ∈ cs,ZhG m x=true)->VRs I β cs vs->VRs I' β' cs vs
 | [],vs,_,h=>h
 | x::cs,vs,hx,h=>by
  simp only [VRs] at h ⊢
  obtain ⟨v,vs',rfl,h1,h2⟩:=h
  exact ⟨v,vs',rfl,ZyG (hx x (by simp)) hI hk h1,Zqz hI hk (fun y hy=>hx y (by simp [hy])) h2⟩
theorem Zno:∀ {cs:List AVal} {vs:List Value},(∀ x ∈ cs,ZcX x=true)->VRs I β cs vs->VRs I' β' cs vs
 | [],vs,_,h=>h
 | x::cs,vs,hx,h=>by
  simp only [VRs] at h ⊢
  obtain ⟨v,vs',rfl,h1,h2⟩:=h
  refine ⟨v,vs',rfl,?_,Zno (fun y hy=>hx y (by simp [hy])) h2⟩
  have:=hx x (by simp)
  cases x <;> simp [ZcX] at this <;> exact h1
theorem Rel.rebase (R:Rel base w0 I0 I β σ w) {r:Nat} (hr:∀ t x,σ[t]?=some x->¬ZO w β t x r):Rel (fun k=>base k\/k=r) w I I β σ w where
 below:=KB.refl _ _
 old:=fun _ _ _=>rfl
 imm:=R.imm
 blk:=R.blk
 own:=fun t x b hx hb=>⟨fun h=>by
  rcases h with h | rfl
  ·exact (R.own t x b hx hb).1 h
  ·exact hr t x hx hb,(R.own t x b hx hb).2⟩
 apart:=R.apart
 fresh:=R.fresh
 free:=R.free
 gen:=R.gen
 glob:=R.glob
 ro:=fun t x b h hs=>Xs (R.ro t x b h hs)
theorem Rel.unbase (R1:Rel base w0 I0 I1 β1 σ1 w1) (R2:Rel base' w1 I1 I2 β2 σ2 w2) (hs:∀ k,base k->base' k) (hro:∀ t x b,σ2[t]?=some x->ZaZ β2 t x b->base b):Rel base w0 I0 I2 β2 σ2 w2 where
 below:=R1.below.trans (R2.below.mono hs)
 old:=fun b o h=>(R2.old b o (hs b h)).trans (R1.old b o h)
 imm:=R2.imm
 blk:=R2.blk
 own:=fun t x b hx hb=>⟨fun h=>(R2.own t x b hx hb).1 (hs b h),(R2.own t x b hx hb).2⟩
 apart:=R2.apart
 fresh:=R2.fresh
 free:=R2.free
 gen:=R2.gen
 glob:=R2.glob
 ro:=hro
theorem ZmK {t:Nat} {B:ZU} {es:List (AVal×AVal)} (h:BR I β w t B) (he:ZdY B=some es):∃ b k c arr clk,β t 0=some ⟨some b,k,c⟩/\w.heap[b]?=some (.map arr clk)/\VRs I β (es.map (·.1)) (arr.toList.map (·.key))/\VRs I β (es.map (·.2)) (arr.toList.map (·.val))/\(∀ p ∈ es,ZcX p.1=true)/\Zet arr clk:=by
 cases B <;> simp only [ZdY,Xa] at he <;> first | (subst he;exact h) | cases he
theorem ZfY {B:ZU} {es:List (AVal×AVal)} (he:ZdY B=some es):B=.map es\/B=.rmap es:=by
 cases B <;> simp only [ZdY,Xa] at he <;> first | (subst he;first | exact Xs rfl | exact Xy rfl) | cases he
theorem ZDc {B:ZU} {es:List (AVal×AVal)} (he:ZdY B=some es):roB B=.rmap es:=by
 rcases ZfY he with rfl | rfl <;> rfl
theorem Rel.hide (R:Rel base w0 I0 I β σ w) {t b r k c:Nat} {B:ZU} {es:List (AVal×AVal)} (ht:σ[t]?=some B) (he:ZdY B=some es) (hb:β t 0=some ⟨some b,k,c⟩) (hr:∀ t x,σ[t]?=some x->¬ZO w β t x r):Rel (fun k=>base k\/k=b\/k=r) w I I β (σ.set t (.rmap es)) w:=by
 have htl:t < σ.length:=(Xn.1 ht).1
 have look:∀ u x,(σ.set t (.rmap es))[u]?=some x->(u=t/\x=.rmap es)\/(u≠t/\σ[u]?=some x):=fun u x h=>ZfL htl h
 have hB:=R.blk t _ ht
 refine ⟨KB.refl _ _,fun _ _ _=>rfl,R.imm,?_,?_,?_,fun u g hu=>R.fresh u g (by simpa using hu),?_,?_,R.glob,?_⟩
 ·intro u x hx
  rcases look u x hx with ⟨rfl,rfl⟩ | ⟨_,hx⟩
  ·have:=ZmK hB he
   exact this
  ·exact R.blk u x hx
 ·intro u x j hx ho
  rcases look u x hx with ⟨rfl,rfl⟩ | ⟨hu,hx⟩
  ·cases ho
  ·refine ⟨fun h=>?_,(R.own u x j hx ho).2⟩
   rcases h with h | rfl | rfl
   ·exact (R.own u x j hx ho).1 h
   ·rcases ZfY he with rfl | rfl
    ·exact hu (R.apart u x t _ j hx ht ho (by simp [ZO,hb]))
    ·exact (R.own u x j hx ho).1 (R.ro t _ j ht (by simp [ZaZ,hb]))
   ·exact hr u x hx ho
 ·intro u x u' x' j hx hx' ho ho'
  rcases look u x hx with ⟨rfl,rfl⟩ | ⟨hu,hx⟩
  ·cases ho
  ·rcases look u' x' hx' with ⟨rfl,rfl⟩ | ⟨hu',hx'⟩
   ·cases ho'
   ·exact R.apart u x u' x' j hx hx' ho ho'
 ·intro u g hx
  rcases look u _ hx with ⟨_,h⟩ | ⟨_,hx⟩
  ·cases h
  ·exact R.free u g hx
 ·intro u x g hx hg
  rcases look u x hx with ⟨rfl,rfl⟩ | ⟨_,hx⟩
  ·refine R.gen u _ g ht ?_
   rcases ZfY he with rfl | rfl <;> exact hg
  ·exact R.gen u x g hx hg
 ·intro u x j hx hs
  rcases look u x hx with ⟨rfl,rfl⟩ | ⟨hu,hx⟩
  ·refine Xy (Xs ?_)
   simp only [ZaZ,hb,XY,Xa] at hs
   exact hs.symm
  ·exact Xs (R.ro u x j hx hs)
theorem Rel.unhide (R1:Rel base w0 I0 I1 β1 σ1 w1) {t b r k c:Nat} (R2:Rel (fun k=>base k\/k=b\/k=r) w1 I1 I2 β2 σ2 w2) {B:ZU} {es:List (AVal×AVal)} (he:ZdY B=some es) (ht:ZdJ σ2 t=true) (hb:β2 t 0=some ⟨some b,k,c⟩) (hB:BR I2 β2 w2 t B) (hbase:(B=.map es/\¬base b/\∀ o,I2 b o=none)\/(B=.rmap es/\base b)) (hro:∀ u x b,u≠t->σ2[u]?=some x->ZaZ β2 u x b->base b):Rel base w0 I0 I2 β2 (σ2.set t B) w2:=by
 obtain ⟨es2,ht⟩:∃ es2,σ2[t]?=some (.rmap es2):=by
  unfold ZdJ at ht
  split at ht
  ·exact ⟨_,‹_›⟩
  ·cases ht
 have htl:t < σ2.length:=(Xn.1 ht).1
 have look:∀ u x,(σ2.set t B)[u]?=some x->(u=t/\x=B)\/(u≠t/\σ2[u]?=some x):=fun u x h=>ZfL htl h
 have ownb:∀ j,ZO w2 β2 t B j->j=b/\¬base b/\∀ o,I2 b o=none:=by
  intro j hj
  rcases hbase with ⟨rfl,h1,h2⟩ | ⟨rfl,_⟩
  ·simp only [ZO,hb,XY,Xa] at hj
   exact ⟨hj.symm,h1,h2⟩
  ·cases hj
 refine ⟨R1.below.trans (R2.below.mono fun _ h=>Xs h),fun k o h=>(R2.old k o (Xs h)).trans (R1.old k o h),R2.imm,?_,?_,?_,fun u g hu=>R2.fresh u g (by simpa using hu),?_,?_,R2.glob,?_⟩
 ·intro u x hx
  rcases look u x hx with ⟨rfl,rfl⟩ | ⟨_,hy⟩
  ·exact hB
  ·exact R2.blk u x hy
 ·intro u x j hx ho
  rcases look u x hx with ⟨rfl,rfl⟩ | ⟨hu,hy⟩
  ·obtain ⟨rfl,h1,h2⟩:=ownb j ho
   exact ⟨h1,h2⟩
  ·have:=R2.own u x j hy ho
   exact ⟨fun h=>this.1 (Xs h),this.2⟩
 ·intro u x u' x' j hx hx' ho ho'
  rcases look u x hx with ⟨rfl,rfl⟩ | ⟨hu,hy⟩
  ·obtain ⟨rfl,h1,h2⟩:=ownb j ho
   rcases look u' x' hx' with ⟨rfl,rfl⟩ | ⟨hu',hy'⟩
   ·rfl
   ·exact absurd (Xy (Xs rfl)) (R2.own u' x' _ hy' ho').1
  ·rcases look u' x' hx' with ⟨rfl,rfl⟩ | ⟨hu',hy'⟩
   ·obtain ⟨rfl,h1,h2⟩:=ownb j ho'
    exact absurd (Xy (Xs rfl)) (R2.own u x _ hy ho).1
   ·exact R2.apart u x u' x' j hy hy' ho ho'
 ·intro u g hx
  rcases look u _ hx with ⟨_,h⟩ | ⟨_,hy⟩
  ·subst h;cases he
  ·exact R2.free u g hy
 ·intro u x g hx hg
  rcases look u x hx with ⟨rfl,rfl⟩ | ⟨_,hy⟩
  ·refine R2.gen u _ g ht ?_
   rcases ZfY he with rfl | rfl <;> exact hg
  ·exact R2.gen u x g hy hg
 ·intro u x j hx hs
  rcases look u x hx with ⟨rfl,rfl⟩ | ⟨hu,hy⟩
  ·rcases hbase with ⟨rfl,_⟩ | ⟨rfl,h⟩
   ·cases hs
   ·simp only [ZaZ,hb,XY,Xa] at hs
    exact hs ▸ h
  ·exact hro u x j hu hy hs
theorem Rel.turn (R:Rel base w0 I0 I β σ w) {r:Nat} (hr:∀ t x,σ[t]?=some x->¬ZO w β t x r) (hb:¬base r) (hI:∀ o,I r o=none) (hos:w'.os=w.os) (ht:w'.tape=w.tape) (ho:w'.output=w.output) (hs:w.heap.size<=w'.heap.size) (hk:∀ k,k≠r->k < w.heap.size->w'.heap[k]?=w.heap[k]?) (hbl:KLt base w):Rel base w0 I0 I β σ w':=by
 refine R.stay (Imm.le.refl I) ⟨hos,ht,ho,hs,fun k h=>hk k (by rintro rfl;exact hb h) (hbl k h)⟩ (fun _ _ _=>rfl) ?_ ?_
 ·intro b o u hu
  have h1:=R.imm b o u hu
  have hne:b≠r:=by rintro rfl;rw [hI] at hu;cases hu
  have hlt:=Zc5 h1
  rw [<-h1]
  simp only [World.cell?,hk b hne hlt]
 ·intro t x b hx hb'
  have hne:b≠r:=by rintro rfl;exact hr t x hx hb'
  exact ⟨hk b hne ((R.blk t x hx).owns_lt hb'),(R.own t x b hx hb').2⟩
theorem ZGd (m:Nat) (tm:Tms) (σ:Za):m<=(gcT m tm σ).2.length:=by
 show m<=(Zl σ m _ _ _ 0).length
 rw [Zi8]
 obtain ⟨_,r,hr⟩:=Zgq (σ:=σ) 1000 (Z4 (tm.map (·.2))++(Wu m).flatMap fun t=>Zw (σ.getD t .free)) (Wu m) Xa0
 show m<=(Zv m (tm.map (·.2)) σ).length
 unfold Zv
 rw [hr]
 simp
end
theorem Zid {I:Imm} {β:Bmap} {tm:Tms} {a:Act} {d:Nat} {u:Value} (T:TR I β tm a.tmps) (hd:tget tm d=.top):TR I β tm (a.put (some d) u).tmps:=by
 intro n
 by_cases e:d=n
 ·subst e;rw [hd];simp only [VR]
 ·rw [pgn e];exact T n
theorem ZrM {m:Nat} {live:List Nat} {tm:Tms} {σ:Za} {d:Nat} (hd:d ∉ live):tget (gcT m (keepL live tm) σ).1 d=.top:=by
 have key:∀ (l:List Nat) (xs:List AVal),d ∉ l->tget (l.zip xs) d=.top:=by
  intro l
  induction l with
  | nil=>intro xs _;rfl
  | cons x l ih =>
   intro xs h
   cases xs with
   | nil=>rfl
   | cons y ys =>
    simp only [List.zip_cons_cons,tget]
    rw [if_neg (by rintro rfl;exact h (by simp))]
    exact ih ys (fun hm=>h (by simp [hm]))
 have e:(keepL live tm).map (·.1)=live:=by simp [keepL,List.map_map,Function.comp_def]
 show tget (((keepL live tm).map (·.1)).zip _) d=.top
 rw [e]
 exact key live _ hd
section
variable {P:Program} {O:ZW} {bf:Nat->Bool} {an an3:Ann} {base:Nat->Prop} {w0:World} {I0:Imm} {dr:Door} {m:Nat} {live:List Nat} {ms it nx ok en bid b1:Nat} {ent:List AOp} {run fin:Nat->Tms->Za->Option (ZY×Tms×Za)}
def Zbm (dr:Door) (it ms:Nat) (r b:Nat):Door:=⟨dr.D,it::ms::dr.K,fun n=>if n=it then .pointer (some ⟨r,0,none⟩) else if n=ms then .map (some b) else dr.X n⟩
def ZeV (arr:Array MapEntry) (j:Nat):Nat:=(arr.toList.getD j ⟨undef,undef,0⟩).born
theorem Zic {es:List (AVal×AVal)}:∀ (a b:List (AVal×AVal)) (tm:Tms) (σ:Za),ZaY bf m live ms en b1 ent run es (a++b) tm σ=match ZaY bf m live ms en b1 ent run es a tm σ with
  | some (tm',σ')=>ZaY bf m live ms en b1 ent run es b tm' σ'
  | none=>none
 | [],b,tm,σ=>rfl
 | x::a,b,tm,σ=>by
  simp only [Wt,ZaY]
  split
  ·split
   ·split
    ·exact Zic a b _ _
    ·rfl
   ·rfl
  ·rfl
theorem Zj5 {tm tm0:Tms} {σ σ0:Za} {t:Nat} {B:ZU} {es:List (AVal×AVal)} (h:ZeQ m live ms tm σ=some (t,B,es,tm0,σ0)):(gcT m (keepL live tm) σ).1=tm0/\(gcT m (keepL live tm) σ).2=σ0/\tget tm0 ms=.map t/\σ0[t]?=some B/\ZdY B=some es/\∀ p ∈ es,ZhG σ0.length p.2=true:=by
 unfold ZeQ at h
 split at h
 ·rename_i t' h1
  split at h
  ·rename_i B' h2
   split at h
   ·rename_i es' h3
    split at h
    ·rename_i h4
     simp only [Xa,Xb] at h
     obtain ⟨rfl,rfl,rfl,rfl,rfl⟩:=h
     exact ⟨rfl,rfl,h1,h2,h3,fun p hp=>XH.1 h4 p hp⟩
    ·cases h
   ·cases h
  ·cases h
 ·cases h
theorem ZCZ {tm tm':Tms} {σ σ':Za} {t:Nat} {B:ZU} {kv:AVal×AVal} (h:ZbC bf ms en b1 ent run t B kv tm σ=some (tm',σ')):∃ tm1 σ1 e tm2 σ2,ZcJ bf ent (tput tm (some en) (.tup [kv.1,kv.2])) (σ.set t (roB B))=some (tm1,σ1)/\run σ.length tm1 σ1=some (e,tm2,σ2)/\(e=.normal\/e=.exit b1)/\ZdJ σ2 t=true/\Zdo (σ.set t (roB B)) σ2=true/\tput tm2 (some ms) (.map t)=tm'/\σ2.set t B=σ':=by
 unfold ZbC at h
 split at h
 case h_2=>cases h
 rename_i tm1 σ1 h1
 split at h
 ·rename_i tm2 σ2 h2
  split at h
  ·rename_i h3
   simp only [Xp] at h3
   simp only [Xa,Xb] at h
   exact ⟨tm1,σ1,.normal,tm2,σ2,h1,h2,Xs rfl,h3.1,h3.2,h.1,h.2⟩
  ·cases h
 ·rename_i i tm2 σ2 h2
  split at h
  ·rename_i h3
   simp only [Xp,decide_eq_true_eq] at h3
   obtain ⟨rfl,h3⟩:=h3
   simp only [Xa,Xb] at h
   exact ⟨tm1,σ1,.exit _,tm2,σ2,h1,h2,Xy rfl,h3.1,h3.2,h.1,h.2⟩
  ·cases h
 ·cases h
theorem ZtW (hkp:∀ n ∈ dr.K,n ∈ an.keep) (hm:P.follows .mixedOrders=true) (hb:KLt base w0) {ops3 ops4:Array Oper} {i3 i4:Nat} {body:Code} {nxo exo eno:Oper} {lE:List Oper}
  (hbody:∀ (dr':Door) (base':Nat->Prop) (w0':World) (I0':Imm) (m':Nat),(∀ n ∈ dr'.K,n ∈ an3.keep)->KLt base' w0'->∀ {I:Imm} {β:Bmap} {tm tm':Tms} {σ σ':Za} {a:Act} {w:World} {e:ZY},StF dr' m' an3.nt base' w0' I0' I β tm σ a w->run m' tm σ=some (e,tm',σ')->∀ {Q:Exit->Act->World->Prop},Zmw dr' m' an3 base' w0' I0' I β e tm' σ' Q->body.wp P Q a w)
  (h3:ops3.toList=[nxo,exo]) (h4:ops4.toList=eno::lE)
  (hn1:nxo.op=.next (.tmp it) false) (hn2:nxo.dst=some nx) (hn3:nxo.guard=none) (hx1:exo.op=.extract (.tmp nx) 0) (hx2:exo.dst=some ok) (hx3:exo.guard=none)
  (he1:eno.op=.entry (.tmp it)) (he2:eno.dst=some en) (he3:eno.guard=none) (hcE:Zck P an3 ops4 lE=some ent) (hnt3:an3.nt=an.nt) (hk3:an3.keep=it::ms::an.keep)
  (d1:it < an.nt) (d2:nx < an.nt) (d3:ok < an.nt) (d4:en < an.nt) (d5:it≠ms) (d6:nx≠ms) (d7:ok≠ms) (d8:en≠ms) (d9:nx≠it) (d10:ok≠it) (d11:en≠it) (d12:nx≠ok) (hlv:∀ n ∈ live,n≠it/\n≠nx/\n≠ok/\n≠en)
  (q1:it ∉ an.keep) (q2:nx ∉ an.keep) (q3:ok ∉ an.keep) (q4:en ∉ an.keep)
  {r b clk:Nat} {arr:Array MapEntry} {es:List (AVal×AVal)} (hS:Zet arr clk) (hne:arr.size=es.length) (hrb:r≠b) (hrbase:¬base r) (hdX:ms ∈ dr.K->dr.X ms=.map (some b))
  {tm2:Tms} {σ2:Za} {out:ZY×Tms×Za} (hall:∀ es':List (AVal×AVal),es'.Perm es->Zbh bf m live ms en b1 ent run fin es es' tm2 σ2=some out)
  {I:Imm} {β:Bmap} {Q:Exit->Act->World->Prop}
  (hQ:∀ tm σ a w I' β',Ze0 m live fin tm σ=some out->I.le I'->KeptE m β β'->TR I' β' (keepL live tm) a.tmps->(dr.ok a/\an.nt<=a.tmps.size)->Rel base w0 I0 I' β' σ w->Q (.exit bid) a w) :
  ∀ (n:Nat) (js:List Nat) (tm:Tms) (σ:Za) (a:Act) (w:World),n+js.length=es.length+1->js.Nodup->(∀ j ∈ js,j < es.length)->ZaY bf m live ms en b1 ent run es (js.map fun j=>es.getD j (.top,.top)) tm2 σ2=some (tm,σ) ->
   w.heap[r]?=some (.mapIter (some b) clk (js.map (ZeV arr)).toArray clk)->w.heap[b]?=some (.map arr clk) ->
   (∃ I' β',I.le I'/\KeptE m β β'/\TR I' β' (keepL live tm) a.tmps/\((Zbm dr it ms r b).ok a/\an.nt<=a.tmps.size)/\Rel base w0 I0 I' β' σ w/\(∀ o,I' r o=none)/\(∀ t x,σ[t]?=some x->¬ZO w β' t x r)) ->
   Code.rounds P (.seq (.region i3 ops3 false) (.seq (.cond (.tmp ok) .skip (.exit bid)) (.block b1 (.seq (.region i4 ops4 false) body)))) Q n a w:=by
 have hperm:∀ js:List Nat,js.Nodup->(∀ j ∈ js,j < es.length)->∃ rest:List Nat,(Wu es.length).Perm (js++rest):=fun js h1 h2=>Zq4 js _ h1 (fun j hj=>WP.2 (h2 j hj)) Xa0
 have hpm:∀ js rest:List Nat,(Wu es.length).Perm (js++rest)->(js.map (fun j=>es.getD j (.top,.top))++rest.map fun j=>es.getD j (.top,.top)).Perm es:=by
  intro js rest h
  have:=h.map (fun j=>es.getD j ((.top,.top):AVal×AVal))
  rw [ZCO,Wr] at this
  exact this.symm
 have kit:it ∉ dr.K:=fun h=>q1 (hkp _ h)
 have knx:nx ∉ dr.K:=fun h=>q2 (hkp _ h)
 have kok:ok ∉ dr.K:=fun h=>q3 (hkp _ h)
 have ken:en ∉ dr.K:=fun h=>q4 (hkp _ h)
 intro n
 induction n with
 | zero =>
  intro js tm σ a w hn hnd hlt _ _ _ _
  exfalso
  obtain ⟨rest,hr⟩:=hperm js hnd hlt
  have:=hr.length_eq
  simp at this
  omega
 | succ n ih =>
  intro js tm σ a w hn hnd hlt hf hit hmap hst
  rw [rounds_succ]
  obtain ⟨I1,β1,g1,g2,T1,⟨gd,gs⟩,R1,hIr,hown⟩:=hst
  have vit:a.tmps.getD it undef=.pointer (some ⟨r,0,none⟩):=by
   have:=gd.2 it (by simp [Zbm]);simpa [Zbm] using this
  have vms:a.tmps.getD ms undef=.map (some b):=by
   have:=gd.2 ms (by simp [Zbm]);simpa [Zbm,W0 d5] using this
  refine wp_seq (wp_region_list ?_)
  rw [h3]
  refine Zib hn3 ?_
  unfold Oper.wp
  have hlook:=run_next_at (P:=P) w nxo.type r b clk clk _ arr clk hit hmap (fun x hx=>hS.1 x hx) (X3 _)
  rcases hlook with ⟨hz,hrun⟩ | ⟨e,he,w1,hw1,hrun⟩
  ·
   have e1:(execOp a.eval nxo).run P w=.ok (.value (.tuple #[.bool false])) w:=by
    unfold execOp;rw [hn1]
    simp only [Act.eval]
    rw [vit]
    exact ZjS hrun
   rw [e1,Oper.upon_value,hn2]
   refine Zib hx3 ?_
   unfold Oper.wp
   have e2:(execOp (a.put (some nx) (.tuple #[.bool false])).eval exo).run P w=.ok (.value (.bool false)) w:=by
    unfold execOp;rw [hx1]
    simp only [Act.eval]
    rw [pgs (by omega)]
    exact ZjS (by simp [Instr.extract])
   rw [e2,Oper.upon_value,hx2]
   refine wpList_nil ?_
   simp only [Exit.then]
   refine wp_seq (wp_cond_false (by simp only [Act.eval];exact pgs (by rw [ZeD];omega)) (wp_exit ?_))
   simp only [Exit.then]
   obtain ⟨rest,hr⟩:=hperm js hnd hlt
   have hrest:rest=[]:=by
    cases rest with
    | nil=>rfl
    | cons x rest =>
     exfalso
     have hx:x < es.length:=WP.1 (hr.mem_iff.2 (by simp))
     obtain ⟨ex,hxa⟩:∃ ex,arr.toList[x]?=some ex:=⟨_,Xz (by simpa [hne] using hx)⟩
     have hs:=Zzx hz (arr.toList.getD x ⟨undef,undef,0⟩) (by
      rw [Xo,hxa];exact Xt hxa)
     have hnd2:(js++x::rest).Nodup:=hr.nodup_iff.1 Xa0
     have hxj:x ∉ js:=fun hm=>by
      have:=(XaC.1 hnd2).2.2 x hm x (by simp)
      exact this rfl
     simp only [List.contains_toArray,Xai,decide_eq_true_eq,XL] at hs
     obtain ⟨y,hy,hyx⟩:=hs
     have hyl:y < es.length:=hlt y hy
     obtain ⟨ey,hya⟩:∃ ey,arr.toList[y]?=some ey:=⟨_,Xz (by simpa [hne] using hyl)⟩
     have hnb:=hS.2
     have e3:(arr.toList.map (·.born))[y]?=(arr.toList.map (·.born))[x]?:=by
      rw [XW,XW,hya,hxa]
      simp only [XS,Xa]
      unfold ZeV at hyx
      rw [Xo,Xo,hya,hxa] at hyx
      exact hyx
     have hyx2:=(List.getElem?_inj (by simpa [hne] using hyl) hnb).1 e3
     subst hyx2
     exact hxj hy
   subst hrest
   have hp:=hpm js [] hr
   have ho:=hall _ hp
   unfold Zbh at ho
   rw [Zic,hf] at ho
   simp only [Wm,ZaY] at ho
   have okd:dr.ok ((a.put (some nx) (.tuple #[.bool false])).put (some ok) (.bool false)):=by
    refine ZiZ (ZiZ ⟨gd.1,fun j hj=>?_⟩ (fun n hn=>by injection hn with hn;subst hn;exact knx)) (fun n hn=>by injection hn with hn;subst hn;exact kok)
    have hji:j≠it:=by rintro rfl;exact kit hj
    have:=gd.2 j (by simp [Zbm,hj])
    rw [this]
    simp only [Zbm,hji,if_false]
    split
    ·rename_i e;subst e;exact (hdX hj).symm
    ·rfl
   refine hQ tm σ _ w I1 β1 ho g1 g2 ?_ ⟨okd,by rw [ZeD,ZeD];exact gs⟩ R1
   have t0:∀ d,d ∉ live->tget (keepL live tm) d=.top:=fun d hd=>by rw [Zix,if_neg hd]
   exact Zid (Zid T1 (t0 nx fun h=>(hlv nx h).2.1 rfl)) (t0 ok fun h=>(hlv ok h).2.2.1 rfl)
  ·
   obtain ⟨hea,hes⟩:=ZuT he
   obtain ⟨j,hj,hje⟩:=List.getElem_of_mem hea
   have hja:arr.toList[j]?=some e:=by rw [Xz hj,hje]
   have hjl:j < es.length:=by simpa [hne] using hj
   have hbj:ZeV arr j=e.born:=by unfold ZeV;rw [Xo,hja];rfl
   have hjs:j ∉ js:=fun hm=>by
    have : (js.map (ZeV arr)).toArray.contains e.born=true:=by
     simp only [List.contains_toArray,Xai,decide_eq_true_eq,XL]
     exact ⟨j,hm,hbj⟩
    rw [this] at hes;cases hes
   have hnd':(js++[j]).Nodup:=by
    rw [XaC]
    exact ⟨hnd,by simp,fun x hx y hy=>by rw [X6] at hy;subst hy;rintro rfl;exact hjs hx⟩
   have hlt':∀ k ∈ js++[j],k < es.length:=fun k hk=>by
    rcases Xu.1 hk with hk | hk
    ·exact hlt k hk
    ·rw [X6] at hk;subst hk;exact hjl
   obtain ⟨rest,hr⟩:=hperm (js++[j]) hnd' hlt'
   have hp:=hpm (js++[j]) rest hr
   have ho:=hall _ hp
   unfold Zbh at ho
   rw [Zic,Wr,Zic,hf] at ho
   simp only [XJ,Wm] at ho
   generalize hkv:es.getD j ((.top,.top):AVal×AVal)=kv at ho
   cases hro:ZaY bf m live ms en b1 ent run es [kv] tm σ with
   | none=>rw [hro] at ho;cases ho
   | some q =>
   obtain ⟨tm',σ'⟩:=q
   clear ho
   have hf':ZaY bf m live ms en b1 ent run es ((js++[j]).map fun j=>es.getD j (.top,.top)) tm2 σ2=some (tm',σ'):=by
    rw [Wr,Zic,hf]
    simp only [XJ,Wm,hkv,hro]
   simp only [ZaY] at hro
   split at hro
   case h_2=>cases hro
   rename_i t B es' tm0 σ0 hhead
   split at hro
   case isFalse=>cases hro
   rename_i hes'
   subst hes'
   split at hro
   case h_2=>cases hro
   rename_i tmF σF hround
   simp only [Xa,Xb] at hro
   obtain ⟨rfl,rfl⟩:=hro
   obtain ⟨hg1,hg2,hmst,hte,hent,hkept⟩:=Zj5 hhead
   obtain ⟨tmA,σA,x,tmB,σB,hstep,hev,hx,hopq,hros,htm,hσ⟩:=ZCZ hround
   rw [ZDc hent] at hstep hros
   have hbw:=R1.base_le hb
   have Rr:=R1.rebase hown
   obtain ⟨β0,q1',R0r,T0⟩:=ZjR Rr T1 m
   have R0:=R1.unbase R0r (fun k h=>Xs h) (fun t x b hx hs=>by
    rcases R0r.ro t x b hx hs with h | rfl
    ·exact h
    ·exfalso
     cases x with
     | rmap es2 =>
      obtain ⟨b2,_,_,_,_,e1,e2,_⟩:=R0r.blk t _ hx
      simp only [ZaZ,e1,XY,Xa] at hs
      subst hs
      rw [hit] at e2;cases e2
     | _=>cases hs)
   have hown0:∀ t x,(gcT m (keepL live tm) σ).2[t]?=some x->¬ZO w β0 t x r:=fun t x hx ho=>(R0r.own t x r hx ho).1 (Xy rfl)
   have tt:∀ d,d ∉ live->tget (gcT m (keepL live tm) σ).1 d=.top:=fun d hd=>ZrM hd
   have hml:=ZGd m (keepL live tm) σ
   rw [hg1] at T0 tt
   rw [hg2] at R0 hown0 hml
   have vt:=T0 ms
   rw [hmst,vms] at vt
   simp only [VR] at vt
   obtain ⟨b',kk',cc',hbt,hbb⟩:=vt
   simp only [Value.map.injEq,Xa] at hbb
   subst hbb
   obtain ⟨b2,k2,c2',arr',clk',e1,e2,e3,e4,e5,e6⟩:=ZmK (R0.blk t _ hte) hent
   rw [hbt] at e1
   simp only [Xa,BI.mk.injEq] at e1
   obtain ⟨rfl,rfl,rfl⟩:=e1
   rw [hmap] at e2
   simp only [Xa,Obj.map.injEq] at e2
   obtain ⟨rfl,rfl⟩:=e2
   have htl:t < σ0.length:=(Xn.1 hte).1
   have e1:(execOp a.eval nxo).run P w=.ok (.value (.tuple #[.bool true,e.key,e.val])) (setBlock w1 r (.mapIter (some b) clk ((js.map (ZeV arr)).toArray.push e.born) clk)):=by
    unfold execOp;rw [hn1]
    simp only [Act.eval]
    rw [vit]
    rw [Sem.run_bind,hrun];rfl
   have hw1h:w1.heap=w.heap/\w1.os=w.os/\w1.tape=w.tape/\w1.output=w.output:=by rcases hw1 with rfl | rfl <;> exact ⟨rfl,rfl,rfl,rfl⟩
   obtain ⟨wh,wo,wt,wu⟩:=hw1h
   have hrlt:r < w.heap.size:=(XB.1 hit).1
   generalize hw3:setBlock w1 r (.mapIter (some b) clk ((js.map (ZeV arr)).toArray.push e.born) clk)=w3 at e1
   have w3r:w3.heap[r]?=some (.mapIter (some b) clk ((js.map (ZeV arr)).toArray.push e.born) clk):=by
    rw [<-hw3];simp only [setBlock,wh];rw [Array.getElem?_setIfInBounds_self_of_lt hrlt]
   have w3k:∀ k,k≠r->w3.heap[k]?=w.heap[k]?:=fun k hk=>by
    rw [<-hw3];simp only [setBlock,wh];rw [Wi (W0 hk)]
   have w3b:w3.heap[b]?=some (.map arr clk):=by rw [w3k b (W0 hrb)];exact hmap
   have w3s:w3.heap.size=w.heap.size:=by rw [<-hw3];simp [setBlock,wh]
   have R3:Rel base w0 I0 I1 β0 σ0 w3:=R0.turn hown0 hrbase hIr (by rw [<-hw3];exact wo) (by rw [<-hw3];exact wt) (by rw [<-hw3];exact wu) (by omega) (fun k hk _=>w3k k hk) hbw
   have hown3:∀ t x,σ0[t]?=some x->¬ZO w3 β0 t x r:=fun t x hx ho=>hown0 t x hx (((R0.blk t x hx).owns_at (Bmap.le.refl β0) (fun b' hb'=>w3k b' (by rintro rfl;exact hown0 t x hx hb')) r).1 ho)
   have RH:=R3.hide hte hent hbt hown3
   have hIb:∀ o,I1 b o=none:=fun o=>by
    cases h:I1 b o with
    | none=>rfl
    | some u =>
     have h1:=R3.imm b o u h
     simp only [World.cell?,w3b] at h1
     cases h1
   have hkind:(B=.map es'/\¬base b)\/(B=.rmap es'/\base b):=by
    rcases ZfY hent with rfl | rfl
    ·exact Xs ⟨rfl,(R3.own t _ b hte (by simp [ZO,hbt])).1⟩
    ·exact Xy ⟨rfl,R3.ro t _ b hte (by simp [ZaZ,hbt])⟩
   rw [e1,Oper.upon_value,hn2]
   generalize hA1:a.put (some nx) (.tuple #[.bool true,e.key,e.val])=A1
   have s1:A1.tmps.size=a.tmps.size:=by rw [<-hA1,ZeD]
   have f1:∀ k,k≠nx->A1.tmps.getD k undef=a.tmps.getD k undef:=by intro k hk;rw [<-hA1];exact pgn (W0 hk)
   have df1:A1.defers=dr.D:=by rw [<-hA1];exact gd.1
   have TA1:TR I1 β0 tm0 A1.tmps:=by rw [<-hA1];exact Zid T0 (tt nx fun h=>(hlv nx h).2.1 rfl)
   refine Zib hx3 ?_
   unfold Oper.wp
   have e2:(execOp A1.eval exo).run P w3=.ok (.value (.bool true)) w3:=by
    unfold execOp;rw [hx1]
    simp only [Act.eval]
    rw [<-hA1,pgs (by omega)]
    exact ZjS (by simp [Instr.extract])
   rw [e2,Oper.upon_value,hx2]
   generalize hA2:A1.put (some ok) (.bool true)=A2
   have s2:A2.tmps.size=a.tmps.size:=by rw [<-hA2,ZeD,s1]
   have f2:∀ k,k≠ok->A2.tmps.getD k undef=A1.tmps.getD k undef:=by intro k hk;rw [<-hA2];exact pgn (W0 hk)
   have df2:A2.defers=dr.D:=by rw [<-hA2];exact df1
   have TA2:TR I1 β0 tm0 A2.tmps:=by rw [<-hA2];exact Zid TA1 (tt ok fun h=>(hlv ok h).2.2.1 rfl)
   refine wpList_nil ?_
   simp only [Exit.then]
   refine wp_seq (wp_cond_true (by simp only [Act.eval];rw [<-hA2];exact pgs (by omega)) (wp_skip ?_))
   simp only [Exit.then]
   refine wp_block (wp_seq (wp_region_list ?_))
   rw [h4]
   refine Zib he3 ?_
   unfold Oper.wp
   have e3':(execOp A2.eval eno).run P w3=.ok (.value (.tuple #[e.key,e.val])) w3:=by
    unfold execOp;rw [he1]
    simp only [Act.eval]
    rw [f2 it (W0 d10),f1 it (W0 d9),vit]
    exact ZjS (run_entry_at w3 r b clk _ arr clk e w3r w3b hea hS.2)
   rw [e3',Oper.upon_value,he2]
   generalize hA3:A2.put (some en) (.tuple #[e.key,e.val])=A3
   have s3:A3.tmps.size=a.tmps.size:=by rw [<-hA3,ZeD,s2]
   have f3:∀ k,k≠en->A3.tmps.getD k undef=A2.tmps.getD k undef:=by intro k hk;rw [<-hA3];exact pgn (W0 hk)
   have df3:A3.defers=dr.D:=by rw [<-hA3];exact df2
   have hkve:VR I1 β0 (.tup [kv.1,kv.2]) (.tuple #[e.key,e.val]):=by
    have hej:es'[j]?=some kv:=by
     rw [<-hkv,Xo,Xz hjl];rfl
    obtain ⟨v1,p1,p2⟩:=ZbO e3 (i:=j) (x:=kv.1) (by rw [XW,hej];rfl)
    obtain ⟨v2,p3,p4⟩:=ZbO e4 (i:=j) (x:=kv.2) (by rw [XW,hej];rfl)
    rw [XW,hja] at p1 p3
    simp only [XS,Xa] at p1 p3
    subst p1 p3
    simp only [VR]
    exact ⟨_,rfl,by simp only [VRs];exact ⟨_,_,rfl,p2,_,_,rfl,p4,rfl⟩⟩
   have TA3:TR I1 β0 (tput tm0 (some en) (.tup [kv.1,kv.2])) A3.tmps:=by rw [<-hA3];exact TR.put TA2 hkve (by omega)
   have ok3:(Zbm dr it ms r b).ok A3:=by
    refine ⟨df3,fun k hk=>?_⟩
    have hk':k=it\/k=ms\/k ∈ dr.K:=by simpa [Zbm] using hk
    have n1:k≠en/\k≠ok/\k≠nx:=by
     rcases hk' with rfl | rfl | hk'
     ·exact ⟨W0 d11,W0 d10,W0 d9⟩
     ·exact ⟨W0 d8,W0 d7,W0 d6⟩
     ·exact ⟨by rintro rfl;exact ken hk',by rintro rfl;exact kok hk',by rintro rfl;exact knx hk'⟩
    rw [f3 k n1.1,f2 k n1.2.1,f1 k n1.2.2]
    exact gd.2 k hk
   have hkp':∀ n ∈ (Zbm dr it ms r b).K,n ∈ an3.keep:=fun n hn=>by
    rw [hk3]
    simp only [Zbm,XA] at hn ⊢
    rcases hn with h | h | h
    ·exact Xs h
    ·exact Xy (Xs h)
    ·exact Xy (Xy (hkp n h))
   have hblt:b < w.heap.size:=(XB.1 hmap).1
   have hbH:KLt (fun k=>base k\/k=b\/k=r) w3:=fun k hk=>by
    rcases hk with hk | rfl | rfl
    ·have:=hbw k hk;omega
    ·omega
    ·omega
   obtain ⟨cs,hruns⟩:=ZqO hstep
   rw [<-XO lE]
   refine Zmx (dr:=Zbm dr it ms r b) (O:=fun _ _ _=>none) noO hkp' hbH hcE TA3 ⟨ok3,by omega⟩ RH hruns ?_
   intro A4 w4 hst4
   refine wpList_nil ?_
   simp only [Exit.then]
   have hstF:StF (Zbm dr it ms r b) σ0.length an3.nt (fun k=>base k\/k=b\/k=r) w3 I1 I1 β0 tmA σA A4 w4:=by
    obtain ⟨I4,β4,k1,k2,k3⟩:=hst4
    exact ⟨I4,β4,k1,KeptE.of_le k2,k3⟩
   have next:∀ A5 w5,StF (Zbm dr it ms r b) σ0.length an3.nt (fun k=>base k\/k=b\/k=r) w3 I1 I1 β0 tmB σB A5 w5->Code.rounds P (.seq (.region i3 ops3 false) (.seq (.cond (.tmp ok) .skip (.exit bid)) (.block b1 (.seq (.region i4 ops4 false) body)))) Q n A5 w5:=by
    rintro A5 w5 ⟨I5,β5,k1,k2,k3,⟨k4,k4'⟩,k5⟩
    have hb5:β5 t 0=some ⟨some b,kk',cc'⟩:=k2 t htl _ hbt
    have w5b:w5.heap[b]?=some (.map arr clk):=by rw [k5.below.block b (Xy (Xs rfl))];exact w3b
    have w5r:w5.heap[r]?=_:=(k5.below.block r (Xy (Xy rfl))).trans w3r
    have hI5b:∀ o,I5 b o=none:=fun o=>by rw [k5.old b o (Xy (Xs rfl))];exact hIb o
    have hI5r:∀ o,I5 r o=none:=fun o=>by rw [k5.old r o (Xy (Xy rfl))];exact hIr o
    have hB5:BR I5 β5 w5 t B:=by
     have hB:BR I5 β5 w5 t (.map es'):=⟨b,kk',cc',arr,clk,hb5,w5b,Zno (fun y hy=>by obtain ⟨p,hp,rfl⟩:=XL.1 hy;exact e5 p hp) e3,Zqz k1 k2 (fun y hy=>by obtain ⟨p,hp,rfl⟩:=XL.1 hy;exact hkept p hp) e4,e5,hS⟩
     rcases ZfY hent with rfl | rfl
     ·exact hB
     ·exact hB
    have R5:=R3.unhide k5 hent hopq hb5 hB5 (by
     rcases hkind with ⟨h1,h2⟩ | ⟨h1,h2⟩
     ·exact Xs ⟨h1,h2,hI5b⟩
     ·exact Xy ⟨h1,h2⟩) (fun u x b' hne hx hs=>by
     cases x with
     | rmap es2 =>
      obtain ⟨y,h2,h1⟩:=ZkJ hros hx rfl
      rw [WW (W0 hne)] at h2
      cases y <;> simp [Zdp] at h1
      rename_i es3
      obtain ⟨b2,k2',c2',_,_,e1,_⟩:=R0.blk u _ h2
      have e2:=k2 u (Xn.1 h2).1 _ e1
      refine R0.ro u _ b' h2 ?_
      simp only [ZaZ,e2] at hs
      simpa [ZaZ,e1] using hs
     | _=>cases hs)
    rw [hσ] at R5
    refine ih (js++[j]) tmF σF A5 w5 (by rw [List.length_append,List.length_singleton];omega) hnd' hlt' hf' ?_ w5b ⟨I5,β5,g1.trans k1,?_,?_,⟨k4,by omega⟩,R5,hI5r,?_⟩
    ·rw [w5r,Wr,XJ,Wm,hbj,List.push_toArray]
    ·refine (g2.trans q1').trans (fun u hu bi hbi=>k2 u (by omega) bi hbi)
    ·refine TR.keep (fun u=>?_) live
     rw [<-htm]
     show VR I5 β5 (tget (tins ms (.map t) tmB) u) _
     rw [Zhy]
     split
     ·rename_i e;subst e
      have : A5.tmps.getD ms undef=.map (some b):=by have:=k4.2 ms (by simp [Zbm]);simpa [Zbm,W0 d5] using this
      rw [this]
      simp only [VR]
      exact ⟨b,kk',cc',hb5,rfl⟩
     ·exact k3 u
    ·intro u y hy hoy
     rw [<-hσ] at hy
     have htlB:t < σB.length:=by
      unfold ZdJ at hopq
      split at hopq
      ·exact (Xn.1 ‹_›).1
      ·cases hopq
     rcases ZfL htlB hy with ⟨rfl,rfl⟩ | ⟨_,hy⟩
     ·rcases ZfY hent with rfl | rfl
      ·simp only [ZO,hb5,XY,Xa] at hoy
       exact hrb hoy.symm
      ·cases hoy
     ·exact (k5.own u y r hy hoy).1 (Xy (Xy rfl))
   refine hbody (Zbm dr it ms r b) (fun k=>base k\/k=b\/k=r) w3 I1 σ0.length hkp' hbH hstF hev ?_
   rcases hx with rfl | rfl
   ·intro A5 w5 hs
    simp only [Exit.inBlock,Exit.then]
    exact next A5 w5 hs
   ·intro A5 w5 hs
    simp only [Exit.inBlock,if_true,Exit.then]
    exact next A5 w5 hs
end
end
section
open Go.RowKit
section
variable {P:Program} {O:ZW} {bf:Nat->Bool} {an:Ann} {base:Nat->Prop} {w0:World} {I0:Imm} {dr:Door}
theorem StF.cond {m:Nat} {I:Imm} {β:Bmap} {tm:Tms} {σ:Za} {a:Act} {w:World} (h:StF dr m an.nt base w0 I0 I β tm σ a w) {c:Operand} {y:Opd} (hc:Zad c=some y) {b:Bool} (hv:y.ev tm=.bool b):a.eval c=.bool b:=by
 obtain ⟨I',β',_,_,T,_,_⟩:=h
 have:=Z6 T hc
 rw [hv] at this
 simpa only [VR] using this
def Zlv (P:Program) (O:ZW) (bf:Nat->Bool) (n:Nat) (c:Code):Prop:=∀ (an:Ann) (dr:Door) (base:Nat->Prop) (w0:World) (I0:Imm) (m:Nat),(∀ n ∈ dr.K,n ∈ an.keep)->KLt base w0->∀ ⦃ac:Zo⦄,Zax P an c=ac->∀ ⦃I:Imm⦄ ⦃β:Bmap⦄ ⦃tm tm':Tms⦄ ⦃σ σ':Za⦄ ⦃a:Act⦄ ⦃w:World⦄ ⦃e:ZY⦄,StF dr m an.nt base w0 I0 I β tm σ a w->ZV O bf m n ac tm σ=some (e,tm',σ') ->
  ∀ ⦃Q:Exit->Act->World->Prop⦄,Zmw dr m an base w0 I0 I β e tm' σ' Q->c.wp P Q a w
theorem Zrf {P:Program} {an:Ann} {a b:Code} {ck:List Nat->Zo} {r:Zo} (h:Zgz P an a b ck=some r):∃ pre live ms en b1 ent c2,r=.range pre live ms en b1 ent c2 .skip:=by
 unfold Zgz at h
 repeat' split at h
 all_goals first
  | (simp only [Xa] at h;exact ⟨_,_,_,_,_,_,_,h.symm⟩)
  | cases h
theorem ZuL {m:Nat} {live:List Nat} {ms en b1:Nat} {ent:List AOp} {run fin:Nat->Tms->Za->Option (ZY×Tms×Za)} {tm:Tms} {σ:Za} {out:ZY×Tms×Za} (h:Zcr bf m live ms en b1 ent run fin tm σ=some out):∃ t B es tm0 σ0,ZeQ m live ms tm σ=some (t,B,es,tm0,σ0)/\∀ es':List (AVal×AVal),es'.Perm es->Zbh bf m live ms en b1 ent run fin es es' tm σ=some out:=by
 unfold Zcr at h
 split at h
 ·cases h
 ·rename_i t B tm0 σ0 hh
  refine ⟨t,B,[],tm0,σ0,hh,fun es' hp=>?_⟩
  rw [Xa8.eq_nil hp]
  obtain ⟨h1,h2,_⟩:=Zj5 hh
  simp only [Zbh,ZaY,Ze0,h1,h2]
  exact h
 ·rename_i t B kv tm0 σ0 hh
  refine ⟨t,B,[kv],tm0,σ0,hh,fun es' hp=>?_⟩
  rw [List.perm_singleton.1 hp]
  split at h
  ·rename_i tm' σ' hr
   simp only [Zbh,ZaY,hh,if_true,hr]
   exact h
  ·cases h
 ·rename_i t B es tm0 σ0 hn1 hn2 hh
  refine ⟨t,B,es,tm0,σ0,hh,?_⟩
  unfold ZfM at h
  split at h
  case isFalse=>cases h
  rename_i hex
  have hall:=hex.choose_spec
  injection h with h
  rw [h] at hall
  exact hall
theorem ZpQ (hO:Zak P O) (hm:P.follows .mixedOrders=true) (n:Nat) (hkp:∀ n ∈ dr.K,n ∈ an.keep) (hb:KLt base w0) {x y:Code} (IH:∀ c',XaQ c' < XaQ (Code.seq x y)->Zlv P O bf n c') {m:Nat} {pre:List AOp} {live:List Nat} {ms en b1:Nat} {ent:List AOp} {c2 c3 rest:Zo}
  (hr:Zgz P an x y (fun K=>Zax P { an with keep:=K++an.keep } y)=some (.range pre live ms en b1 ent c2 c3)) {I:Imm} {β:Bmap} {tm:Tms} {σ:Za} {a:Act} {w:World} {out:ZY×Tms×Za} (hst:StF dr m an.nt base w0 I0 I β tm σ a w) (h:ZV O bf m n (.range pre live ms en b1 ent c2 rest) tm σ=some out)
  {Q:Exit->Act->World->Prop} (hQ:∀ tmE σE aE wE,StF dr m an.nt base w0 I0 I β tmE σE aE wE->ZV O bf m n rest tmE σE=some out->Q .normal aE wE):(Code.seq x y).wp P Q a w:=by
 unfold Zgz at hr
 split at hr
 case h_2=>cases hr
 rename_i i1 ops1 bid i3 ops3 ok bid' bb i4 ops4 body
 split at hr
 case h_2=>cases hr
 rename_i rg nxo exo eno lE hlast h3 h4
 split at hr
 case h_2=>cases hr
 rename_i t ms' it it1 nx hr1 hr2 hn1 hn2
 split at hr
 case h_2=>cases hr
 rename_i nx1 ok1 it2 en' hx1 hx2 he1 he2
 split at hr
 case h_2=>cases hr
 rename_i kt et pre' ent' i5 l5 s5 s6 b5 s7 c2' hu hpre hent hcb
 split at hr
 case isFalse=>cases hr
 rename_i hcond
 simp only [Xa,Zo.range.injEq] at hr
 obtain ⟨rfl,hlive,rfl,rfl,rfl,rfl,rfl,rfl⟩:=hr
 simp only [Xp,decide_eq_true_eq,Option.isNone_iff_eq_none,Wo,Xai,decide_eq_false_iff_not] at hcond
 obtain ⟨⟨⟨⟨⟨⟨⟨g1,g2⟩,g3⟩,g4⟩,⟨⟨⟨⟨z1,z2⟩,z3⟩,z4⟩,z5⟩⟩,⟨⟨d1,d2⟩,d3⟩,d4⟩,⟨⟨⟨⟨⟨⟨⟨d5,d6⟩,d7⟩,d8⟩,d9⟩,d10⟩,d11⟩,d12⟩⟩,⟨⟨q1,q2⟩,q3⟩,q4⟩:=hcond
 subst z1 z2 z3 z4 z5
 have hc2:Zax P { an with keep:=it2::ms'::an.keep } body=c2':=by
  simp only [Zax,ZjJ,Zgz] at hcb
  simp only [Zo.block.injEq,Zo.loop.injEq,Zo.seq.injEq] at hcb
  obtain ⟨_,_,_,_,_,hcb⟩:=hcb
  split at hcb
  ·rename_i r hr
   obtain ⟨_,_,_,_,_,_,_,rfl⟩:=Zrf (P:=P) (an:={ an with keep:=it2::ms'::an.keep }) (a:=.region i4 ops4 false) (b:=body) (ck:=fun K=>Zax P { an with keep:=K++it2::ms'::an.keep } body) hr
   cases hcb
  ·simp only [Zo.seq.injEq] at hcb
   exact hcb.2
 simp only [ZV] at h
 split at h
 case h_2=>cases h
 rename_i tm1 σ1 hst1
 obtain ⟨t0,B,es,tm0,σ0,hhead,hall⟩:=ZuL h
 obtain ⟨hg1,hg2,hmst,hte,hent',hkept⟩:=Zj5 hhead
 obtain ⟨I1,β1,j1,j2,T1,⟨gd,gs⟩,R1⟩:=hst
 refine wp_seq (wp_region_list ?_)
 have hl1:ops1.toList=ops1.toList.dropLast++[rg]:=by
  obtain ⟨ys,hys⟩:=List.getLast?_eq_some_iff.1 hlast
  rw [hys,List.dropLast_concat]
 rw [hl1]
 obtain ⟨cs,hruns⟩:=ZqO hst1
 refine Zmx (dr:=dr) (O:=fun _ _ _=>none) noO hkp hb hpre T1 ⟨gd,gs⟩ R1 hruns ?_
 rintro A2 w2 ⟨I2,β2,k1,k2,T2,⟨kd,ks⟩,R2⟩
 obtain ⟨β3,p1,R3g,T3⟩:=ZjR R2 (T2.keep live) m
 rw [hg2] at R3g
 rw [hg1] at T3
 have vms:=T3 ms'
 rw [hmst] at vms
 simp only [VR] at vms
 obtain ⟨b,kk,cc,hbt,vms⟩:=vms
 obtain ⟨b',kk',cc',arr,clk,e1,e2,e3,e4,e5,e6⟩:=ZmK (R3g.blk t0 _ hte) hent'
 rw [hbt] at e1
 simp only [Xa,BI.mk.injEq] at e1
 obtain ⟨rfl,rfl,rfl⟩:=e1
 refine Zib g1 ?_
 unfold Oper.wp
 have er:(execOp A2.eval rg).run P w2=.ok (.value (.pointer (some ⟨w2.heap.size,0,none⟩))) { w2 with heap:=w2.heap.push (.mapIter (some b) clk #[] clk) }:=by
  unfold execOp;rw [hr1]
  simp only [Act.eval]
  rw [vms]
  simp [Instr.range,run_underlying hu,ZdI e2]
 rw [er,Oper.upon_value,hr2]
 refine wpList_nil ?_
 simp only [Exit.then]
 have hbw:=R2.base_le hb
 have hblt:b < w2.heap.size:=(XB.1 e2).1
 generalize hr:w2.heap.size=rr at *
 have hown:∀ t x,σ1[t]?=some x->¬ZO w2 β2 t x rr:=fun t x hx ho=>by
  have:=(R2.blk t x hx).owns_lt ho;omega
 have hrb:¬base rr:=fun h=>by have:=hbw rr h;omega
 have hIr:∀ o,I2 rr o=none:=fun o=>by
  cases hi:I2 rr o with
  | none=>rfl
  | some u =>
   have:=Zc5 (R2.imm rr o u hi)
   omega
 generalize hw3:({ w2 with heap:=w2.heap.push (.mapIter (some b) clk #[] clk) }:World)=w3
 have w3k:∀ k,k < w2.heap.size->w3.heap[k]?=w2.heap[k]?:=fun k hk=>by
  rw [<-hw3];simp only;rw [Array.getElem?_push];rw [if_neg (by omega)]
 have R3:Rel base w0 I0 I2 β2 σ1 w3:=R2.turn hown hrb hIr (by rw [<-hw3]) (by rw [<-hw3]) (by rw [<-hw3]) (by rw [<-hw3];simp) (fun k _ hk=>w3k k hk) hbw
 have hown3:∀ t x,σ1[t]?=some x->¬ZO w3 β2 t x rr:=fun t x hx ho=>hown t x hx (((R2.blk t x hx).owns_at (Bmap.le.refl β2) (fun b' hb'=>w3k b' ((R2.blk t x hx).owns_lt hb')) rr).1 ho)
 refine wp_block (wp_loop_rounds (es.length+1) ?_)
 have hlen:arr.size=es.length:=by
  have:=Zag e3
  simpa using this.symm
 have hlv:∀ n ∈ live,n≠it2/\n≠nx1/\n≠ok1/\n≠en':=by
  intro n hn
  rw [<-hlive] at hn
  simp only [Zqb,Xu,WA,X6,Xp,Wo,Xai,decide_eq_false_iff_not,XA,List.not_mem_nil,or_false,not_or] at hn
  rcases hn with (⟨_,_,hn⟩ | rfl) | ⟨_,_,hn⟩
  ·exact ⟨hn.1,hn.2.1,hn.2.2.1,hn.2.2.2⟩
  ·exact ⟨W0 d5,W0 d6,W0 d7,W0 d8⟩
  ·exact ⟨hn.1,hn.2.1,hn.2.2.1,hn.2.2.2⟩
 refine ZtW (an:=an) (an3:={ an with keep:=it2::ms'::an.keep }) (base:=base) (w0:=w0) (I0:=I0) (m:=m) (live:=live) (ms:=ms') (it:=it2) (nx:=nx1) (ok:=ok1) (en:=en') (dr:=dr) hkp hm hb
  (fun dr' base' w0' I0' m' hk' hb' I β tm tm' σ σ' a w e hs he Q hQ=>IH body (by simp;omega) { an with keep:=it2::ms'::an.keep } dr' base' w0' I0' m' hk' hb' hc2 hs he hQ)
  h3 h4 hn1 hn2 g2 hx1 hx2 g3 he1 he2 g4 hent rfl rfl d1 d2 d3 d4 d5 d6 d7 d8 d9 d10 d11 d12 hlv q1 q2 q3 q4
  (r:=rr) (b:=b) (arr:=arr) (clk:=clk) (es:=es) (tm2:=tm1) (σ2:=σ1) (out:=out) (I:=I2) (β:=β2) e6 hlen (by omega) hrb (fun hk=>by rw [<-vms];exact (kd.2 ms' hk).symm) hall ?_ (es.length+1) [] tm1 σ1 _ w3 (by simp) (by simp) (by simp) rfl ?_ ?_ ?_
 ·
  intro tm σx a wx I' β' hend i1 i2 jT jd jR
  simp only [Exit.inBlock,if_true,Exit.then]
  obtain ⟨β4,o1,o2,o3⟩:=ZjR jR jT m
  exact hQ _ _ a wx ⟨I',β4,(j1.trans k1).trans i1,((j2.trans (KeptE.of_le k2)).trans i2).trans o1,o3,jd,o2⟩ hend
 ·rw [<-hw3,<-hr];simp
 ·rw [w3k b (by omega)];exact e2
 ·refine ⟨I2,β2,Imm.le.refl _,KeptE.refl _ _,?_,⟨⟨by rw [Zps];exact kd.1,fun k hk=>?_⟩,by rw [ZeD];omega⟩,R3,hIr,hown3⟩
  ·refine Zid (T2.keep live) ?_
   rw [Zix,if_neg]
   exact fun h=>(hlv it2 h).1 rfl
  ·have hk':k=it2\/k=ms'\/k ∈ dr.K:=by simpa [Zbm] using hk
   by_cases hki:k=it2
   ·subst hki
    rw [pgs (Xa9 d1 ks)];simp [Zbm]
   ·rw [pgn (W0 hki)]
    by_cases hkm:k=ms'
    ·subst hkm
     rw [vms];simp [Zbm,W0 d5]
    ·rcases hk' with h | h | h
     ·exact absurd h hki
     ·exact absurd h hkm
     ·rw [kd.2 k h];simp [Zbm,hki,hkm]
theorem Zq0 (hO:Zak P O) (hm:P.follows .mixedOrders=true) (n:Nat):∀ (k:Nat) (c:Code),XaQ c<=k->Zlv P O bf n c
 | 0,c,hk=>by cases c <;> simp at hk
 | k+1,c,hk=>by
  have IH:∀ c',XaQ c' < XaQ c->Zlv P O bf n c':=fun c' h=>Zq0 hO hm n k c' (by omega)
  intro an dr base w0 I0 m hkp hb
  cases c with
  | skip =>
   intro ac hc I β tm tm' σ σ' a w e hst h Q hQ
   simp only [Zax] at hc;subst hc
   simp only [ZV,Xa,Xb] at h
   obtain ⟨rfl,rfl,rfl⟩:=h
   exact wp_skip (hQ a w hst)
  | region id ops draw =>
   intro ac hc I β tm tm' σ σ' a w e hst h Q hQ
   obtain ⟨asl,chk,live,rfl⟩:∃ asl chk live,ac=.region asl chk live:=by
    simp only [Zax] at hc
    split at hc
    ·split at hc
     ·split at hc
      ·exact ⟨_,_,_,hc.symm⟩
      ·subst hc;simp only [ZV] at h;cases h
     ·exact ⟨_,_,_,hc.symm⟩
    ·subst hc;simp only [ZV] at h;cases h
   simp only [ZV] at h
   obtain ⟨I1,β1,g1,g2,g3,g4,g5⟩:=hst
   have up:∀ {tm:Tms} {σ:Za} {a':Act} {w':World},StR dr an.nt base w0 I0 I1 β1 tm σ a' w'->StF dr m an.nt base w0 I0 I β tm σ a' w':=by
    rintro tm σ a' w' ⟨I2,β2,k1,k2,k3⟩
    exact ⟨I2,β2,g1.trans k1,g2.trans (KeptE.of_le k2),k3⟩
   refine ZDx hO hkp hm hb hc (⟨I1,β1,Imm.le.refl I1,Bmap.le.refl β1,g3,g4,g5⟩:StR dr an.nt base w0 I0 I1 β1 tm σ a w) h ?_
   cases e with
   | normal=>exact fun a' w' hs=>hQ a' w' (up hs)
   | exit id=>exact fun a' w' hs=>hQ a' w' (up hs)
   | ret=>exact fun a' w' hs=>hQ a' w' (up hs)
   | panic x =>
    rintro a' u w' hd ⟨I2,β2,k1,k2,k3,k4⟩
    exact hQ a' u w' hd ⟨I2,β2,g1.trans k1,g2.trans (KeptE.of_le k2),k3,k4⟩
  | seq x y =>
   intro ac hc I β tm tm' σ σ' a w e hst h Q hQ
   have ihx:=IH x (by simp;omega) an dr base w0 I0 m hkp hb
   have ihy:=IH y (by simp;omega) an dr base w0 I0 m hkp hb
   simp only [Zax] at hc
   unfold ZjJ at hc
   split at hc
   ·rename_i r hr
    subst hc
    obtain ⟨pre,live,ms,en,b1,ent,c2,rfl⟩:=Zrf hr
    exact ZpQ hO hm n hkp hb (fun c' h'=>IH c' h') hr hst h (fun tmE σE aE wE hsE hfE=>by
     simp only [ZV,Xa,Xb] at hfE
     obtain ⟨rfl,rfl,rfl⟩:=hfE
     exact hQ aE wE hsE)
   rename_i hnone
   split at hc
   ·rename_i i1 o1 dd1 bid1 cc1 pre live ms en b1 ent c2 hca
    subst hc
    refine wp_seq ?_
    have hca':=hca
    simp only [Zax] at hca'
    unfold ZjJ at hca'
    split at hca'
    ·rename_i r hr
     subst hca'
     exact ZpQ hO hm n hkp hb (fun c' h'=>IH c' (Nat.lt_trans h' (by simp;omega))) hr hst h (fun tmE σE aE wE hsE hfE=>ihy rfl hsE hfE hQ)
    ·split at hca'
     ·rename_i heq _;cases heq
     ·cases hca'
   subst hc
   simp only [ZV] at h
   refine wp_seq ?_
   split at h
   ·rename_i tm1 σ1 h1
    exact ihx rfl hst h1 (fun a' w' hs=>ihy rfl hs h hQ)
   ·rename_i hne
    refine ihx rfl hst h ?_
    cases e with
    | normal=>exact absurd h (hne _ _)
    | exit id=>exact hQ
    | ret=>exact hQ
    | panic x=>exact hQ
  | cond c x y =>
   intro ac hc I β tm tm' σ σ' a w e hst h Q hQ
   have ihx:=IH x (by simp;omega) an dr base w0 I0 m hkp hb
   have ihy:=IH y (by simp;omega) an dr base w0 I0 m hkp hb
   simp only [Zax] at hc
   split at hc
   ·rename_i c' hcc
    subst hc
    simp only [ZV] at h
    split at h
    ·rename_i hv
     exact wp_cond_true (hst.cond hcc hv) (ihx rfl hst h hQ)
    ·rename_i hv
     exact wp_cond_false (hst.cond hcc hv) (ihy rfl hst h hQ)
    ·cases h
   ·subst hc;simp only [ZV] at h;cases h
  | block id x =>
   intro ac hc I β tm tm' σ σ' a w e hst h Q hQ
   have ih:=IH x (by first | (simp;omega) | simp) an dr base w0 I0 m hkp hb
   simp only [Zax] at hc
   subst hc
   have hx:Zax P an x=Zax P an x:=rfl
   simp only [ZV] at h
   refine wp_block ?_
   split at h
   ·rename_i i tm1 σ1 h1
    refine ih hx hst h1 ?_
    intro a' w' hs
    simp only [Exit.inBlock]
    split at h
    ·rename_i hid
     simp only [Xa,Xb] at h
     obtain ⟨rfl,rfl,rfl⟩:=h
     rw [if_pos hid]
     exact hQ a' w' hs
    ·rename_i hid
     simp only [Xa,Xb] at h
     obtain ⟨rfl,rfl,rfl⟩:=h
     rw [if_neg hid]
     exact hQ a' w' hs
   ·rename_i hne
    refine ih hx hst h ?_
    cases e with
    | normal=>exact hQ
    | exit id=>exact absurd h (hne _ _ _)
    | ret=>exact hQ
    | panic x=>exact hQ
  | loop x =>
   intro ac hc I β tm tm' σ σ' a w e hst h Q hQ
   have ih:=IH x (by first | (simp;omega) | simp) an dr base w0 I0 m hkp hb (rfl:Zax P an x=Zax P an x)
   simp only [Zax] at hc
   subst hc
   have hx:Zax P an x=Zax P an x:=rfl
   simp only [ZV] at h
   refine wp_loop_rounds n ?_
   have key:∀ k {tm:Tms} {σ:Za} {a:Act} {w:World},StF dr m an.nt base w0 I0 I β tm σ a w->Zc7 m (an.ll (Zeo x)) (ZV O bf m n (Zax P an x)) k tm σ=some (e,tm',σ')->Code.rounds P x Q k a w:=by
    intro k
    induction k with
    | zero=>intro tm σ a w _ h;simp only [Zc7] at h;cases h
    | succ k ihk =>
     intro tm σ a w hst h
     rw [rounds_succ]
     simp only [Zc7] at h
     obtain ⟨I1,β1,k1,k2,k3,k4,k5⟩:=hst
     obtain ⟨β2,q1,q2,q3⟩:=ZjR k5 (k3.keep (an.ll (Zeo x))) m
     have hst0:StF dr m an.nt base w0 I0 I β (gcT m (keepL (an.ll (Zeo x)) tm) σ).1 (gcT m (keepL (an.ll (Zeo x)) tm) σ).2 a w:=⟨I1,β2,k1,k2.trans q1,q3,k4,q2⟩
     split at h
     ·rename_i tm1 σ1 h1
      exact ih hst0 h1 (fun a' w' hs=>ihk hs h)
     ·rename_i hne
      refine ih hst0 h ?_
      cases e with
      | normal=>exact absurd h (hne _ _)
      | exit id=>exact hQ
      | ret=>exact hQ
      | panic x=>exact hQ
   exact key n hst h
  | exit id =>
   intro ac hc I β tm tm' σ σ' a w e hst h Q hQ
   simp only [Zax] at hc;subst hc
   simp only [ZV,Xa,Xb] at h
   obtain ⟨rfl,rfl,rfl⟩:=h
   exact wp_exit (hQ a w hst)
  | ret =>
   intro ac hc I β tm tm' σ σ' a w e hst h Q hQ
   simp only [Zax] at hc;subst hc
   simp only [ZV,Xa,Xb] at h
   obtain ⟨rfl,rfl,rfl⟩:=h
   exact wp_ret (hQ a w hst)
  | rangeFunc f ps x y=>intro ac hc I β tm tm' σ σ' a w e hst h;simp only [Zax] at hc;subst hc;simp only [ZV] at h;cases h
  | scope x =>
   intro ac hc I β tm tm' σ σ' a w e hst h Q hQ
   have ih:=IH x (by first | (simp;omega) | simp) an dr base w0 I0 m hkp hb
   simp only [Zax] at hc
   refine wp_scope_straight (ih hc hst h ?_)
   cases e with
   | normal=>exact hQ
   | exit id=>exact hQ
   | ret=>exact hQ
   | panic x=>exact hQ
  | label l =>
   intro ac hc I β tm tm' σ σ' a w e hst h Q hQ
   simp only [Zax] at hc;subst hc
   simp only [ZV,Xa,Xb] at h
   obtain ⟨rfl,rfl,rfl⟩:=h
   exact wp_label (hQ a w hst)
  | goto l=>intro ac hc I β tm tm' σ σ' a w e hst h;simp only [Zax] at hc;subst hc;simp only [ZV] at h;cases h
  | refuse why=>intro ac hc I β tm tm' σ σ' a w e hst h;simp only [Zax] at hc;subst hc;simp only [ZV] at h;cases h
theorem ZFZ (hO:Zak P O) (hkp:∀ n ∈ dr.K,n ∈ an.keep) (hm:P.follows .mixedOrders=true) (hb:KLt base w0) (m n:Nat) {c:Code} {ac:Zo} (hc:Zax P an c=ac) {I:Imm} {β:Bmap} {tm tm':Tms} {σ σ':Za} {a:Act} {w:World} {e:ZY} (hst:StF dr m an.nt base w0 I0 I β tm σ a w) (h:ZV O bf m n ac tm σ=some (e,tm',σ'))
  {Q:Exit->Act->World->Prop} (hQ:Zmw dr m an base w0 I0 I β e tm' σ' Q):c.wp P Q a w :=
 Zq0 hO hm n (XaQ c) c (X3 _) an dr base w0 I0 m hkp hb hc hst h hQ
theorem Zxr {I:Imm} {β:Bmap} {σ σ':Za} {k:Option Nat} {a x:AVal} {c:Cls} {v:Value} (ha:VR I β a v) (h:ldA σ k a=some (x,σ',c)):∃ ad,v=.pointer (some ad):=by
 unfold ldA at h
 split at h
 ·simp only [VR] at ha;obtain ⟨b,k,c,_,rfl⟩:=ha;exact ⟨_,rfl⟩
 ·simp only [VR] at ha;obtain ⟨b,k,c,_,rfl⟩:=ha;exact ⟨_,rfl⟩
 ·simp only [VR] at ha;obtain ⟨b,off,rfl,_⟩:=ha;exact ⟨_,rfl⟩
 ·cases h
def Zhq (tmps:Array Value):ResultVar->Sem Value
 | .tmp t=>pure (tmps.getD t undef)
 | .cell a t=>do loadVar t (<-asAddr (tmps.getD a undef))
theorem Zm8 {I:Imm} {β:Bmap} {tm:Tms} {σ:Za} {w:World} {tmps:Array Value} (T:TR I β tm tmps) (R:Rel base w0 I0 I β σ w):∀ {rs:List ResultVar} {asl:List ZfW} {xs:List AVal},ZeU P rs=some asl->resAll tm σ asl=some xs ->
  ∃ vs:List Value,(rs.mapM (Zhq tmps)).run P w=.ok vs w/\VRs I β xs vs
 | [],asl,xs,hc,h=>by
  simp only [ZeU,Xa] at hc;subst hc
  simp only [resAll,Xa] at h;subst h
  exact ⟨[],by simp,by simp only [VRs]⟩
 | r::rs,asl,xs,hc,h=>by
  have getD_eq:∀ t,VR I β (tget tm t) (tmps.getD t undef):=T
  cases r with
  | tmp t =>
   simp only [ZeU,Xq] at hc
   obtain ⟨as',has,rfl⟩:=hc
   simp only [resAll,resOne] at h
   split at h
   ·rename_i ys hys
    injection h with h;subst h
    obtain ⟨vs,h1,h2⟩:=Zm8 T R has hys
    exact ⟨tmps.getD t undef::vs,by simp only [Xbb,Zhq,Sem.run_bind,Sem.run_pure,Result.andThen_ok,h1],by simp only [VRs];exact ⟨_,_,rfl,getD_eq t,h2⟩⟩
   ·cases h
  | cell a t =>
   simp only [ZeU] at hc
   split at hc
   ·rename_i k as' hk has
    injection hc with hc;subst hc
    simp only [resAll,resOne] at h
    split at h
    ·rename_i v hv
     split at h
     ·rename_i ys hys
      injection h with h;subst h
      obtain ⟨vs,h1,h2⟩:=Zm8 T R has hys
      split at hv
      ·rename_i v' σ1 c1 hld
       injection hv with hv;subst hv
       obtain ⟨u,hu1,hu2,_⟩:=Zoa hk R (getD_eq a) hld
       obtain ⟨ad,had⟩:=Zxr (getD_eq a) hld
       have hlv:(loadVar t ad).run P w=.ok u w:=by
        rw [had] at hu1
        simpa [Instr.loadAt,Instr.sureAddr] using hu1
       refine ⟨u::vs,?_,by simp only [VRs];exact ⟨_,_,rfl,hu2,h2⟩⟩
       simp only [Xbb,Zhq,had,asAddr,Sem.run_bind,Sem.run_pure,Result.andThen_ok,hlv,h1]
      ·cases hv
     ·cases h
    ·cases h
   ·cases hc
theorem ZF2 {I:Imm} {β:Bmap} {tm:Tms} {σ:Za} {w:World} {tmps:Array Value} (T:TR I β tm tmps) (R:Rel base w0 I0 I β σ w) {fn:Func} {asl:List ZfW} {x:AVal} (hc:ZeU P fn.results.toList=some asl) (h:resA tm σ asl=some x):∃ v,(results fn tmps).run P w=.ok v w/\VR I β x v:=by
 unfold resA at h
 have run:∀ {xs:List AVal},resAll tm σ asl=some xs->∃ vs:List Value,(results fn tmps).run P w=.ok (if h:vs.toArray.size=1 then vs.toArray[0] else .tuple vs.toArray) w/\VRs I β xs vs:=by
  intro xs hx
  obtain ⟨vs,h1,h2⟩:=Zm8 T R hc hx
  refine ⟨vs,?_,h2⟩
  have hm:(fn.results.mapM (Zhq tmps)).run P w=.ok vs.toArray w:=by
   rw [Array.mapM_eq_mapM_toList,Sem.run_map,h1];rfl
  have he:results fn tmps=(do let vs <-fn.results.mapM (Zhq tmps);pure (if h:vs.size=1 then vs[0] else .tuple vs)):=by
   unfold results
   congr 1
  rw [he,Sem.run_bind,hm]
  rfl
 split at h
 ·rename_i v hv
  injection h with h;subst h
  obtain ⟨vs,h1,h2⟩:=run hv
  simp only [VRs] at h2
  obtain ⟨u,us,rfl,h3,rfl⟩:=h2
  exact ⟨u,by rw [h1];simp,h3⟩
 ·rename_i vs' hv hne
  injection h with h;subst h
  obtain ⟨vs,h1,h2⟩:=run hne
  have hl:=Zag h2
  refine ⟨.tuple vs.toArray,?_,by simp only [VR];exact ⟨_,rfl,by simpa using h2⟩⟩
  rw [h1,dif_neg]
  intro hs
  simp only [List.size_toArray] at hs
  match vs',hl with
  | [v],_=>exact hv v rfl
  | [],hl=>simp at hl;omega
  | _::_::_,hl=>simp at hl;omega
 ·cases h
theorem Znm:∀ (args:List AVal) (i:Nat) (acc:Tms) (n:Nat),tget (enterA i args acc) n=if i<=n/\n < i+args.length then args.getD (n - i) .top else tget acc n
 | [],i,acc,n=>by simp only [enterA,XF];rw [if_neg (by omega)]
 | x::xs,i,acc,n=>by
  simp only [enterA,List.length_cons]
  rw [Znm xs (i+1) _ n]
  by_cases h:i+1<=n/\n < i+1+xs.length
  ·rw [if_pos h,if_pos (by omega),show n - i=(n - (i+1))+1 by omega,XC]
  ·rw [if_neg h]
   simp only [tget]
   by_cases h1:i=n
   ·subst h1
    rw [if_pos rfl,if_pos (by omega),W5,Xv]
   ·rw [if_neg h1,if_neg (by omega)]
theorem Zzr {I:Imm} {β:Bmap} {args:List AVal} {vs:Array Value} (h:VRs I β args vs.toList) (n:Nat):TR I β (enterA 0 args []) (vs++Xa6 n undef):=by
 intro j
 rw [Znm]
 have hl:=Zag h
 simp only [XP] at hl
 split
 ·rename_i hj
  have hjl:j < args.length:=by omega
  obtain ⟨v,h1,h2⟩:=ZbO h (Xz hjl)
  have e1:args.getD (j - 0) .top=args[j]:=by simp [Xo,hjl]
  have e2:(vs++Xa6 n undef).getD j undef=v:=by
   rw [WU,Array.getElem?_append_left (by omega)]
   have : vs[j]?=some v:=by simpa using h1
   rw [this];rfl
  rw [e1,e2];exact h2
 ·simp only [tget,VR]
def Zk1 (P:Program) (prim:Zdt):Prop:=∀ f g,prim f=some g->∀ args σ r σ',g args σ=some (r,σ') ->
 (∃ fn,P.funcs[f]?=some fn/\fn.body.isSome=true/\(fn.name == "runtime.NumGoroutine")=false) /\
 ∀ base w0 I0 I β w (vs:Array Value),KLt base w0->Rel base w0 I0 I β σ w->VRs I β args vs.toList ->
  Calls P f vs w (fun e w'=>∃ u,Ends r e u/\Zcg σ.length base w0 I0 I β r σ' u w')
theorem ZnV (hm:P.follows .mixedOrders=true) {prim:Zdt} (hP:Zk1 P prim) (ann:Nat->Ann) (bf:Nat->Bool):∀ n,Zak P (Zah (Zhn P ann) prim bf n)
 | 0=>by intro f args σ r σ' h;simp only [Zah] at h;cases h
 | n+1=>by
  have ih:=ZnV hm hP ann bf n
  intro f args σ r σ' h
  simp only [Zah] at h
  split at h
  ·rename_i g hg
   exact hP f g hg args σ r σ' h
  split at h
  ·cases h
  rename_i fn hfn
  unfold Zhn at hfn
  split at hfn
  ·rename_i F hF
   split at hfn
   ·rename_i body hbody
    split at hfn
    ·cases hfn
    ·rename_i hname
     split at hfn
     ·rename_i rs hrs
      injection hfn with hfn;subst hfn
      refine ⟨⟨F,hF,by rw [hbody];rfl,by simpa using hname⟩,?_⟩
      intro base w0 I0 I β w vs hb R hargs
      refine calls_of_wp hF hbody ?_
      have T:=Zzr hargs (F.ntmps - vs.size)
      have hst:StF ZgK σ.length F.ntmps base w0 I0 I β (enterA 0 args []) σ { tmps:=vs++Xa6 (F.ntmps - vs.size) undef,defers:=[] } w:=⟨I,β,Imm.le.refl I,KeptE.refl _ β,T,⟨ZmT.2 rfl,by simp;omega⟩,R⟩
      cases hx:ZV (Zah (Zhn P ann) prim bf n) bf σ.length n (Zax P { ann f with nt:=F.ntmps } body) (enterA 0 args []) σ with
      | none=>rw [hx] at h;simp only [ZaD] at h;cases h
      | some q =>
       obtain ⟨e,tm',σ1⟩:=q
       rw [hx] at h
       have fin:(match resA tm' σ1 rs with | some r=>ZaV σ.length σ1 r | none=>none)=some (r,σ')->∀ a' w',StF ZgK σ.length F.ntmps base w0 I0 I β tm' σ1 a' w'->a'.defers=[]/\∃ v,(results F a'.tmps).run P w'=.ok v w'/\∃ u,Ends r (.returned v) u/\Zcg σ.length base w0 I0 I β r σ' u w':=by
        intro hr a' w' ⟨I1,β1,g1,g2,g3,g4,g5⟩
        split at hr
        ·rename_i x hx1
         obtain ⟨v,h1,h2⟩:=ZF2 g3 g5 hrs hx1
         have hnp:∀ y,x≠.pan y:=by rintro y rfl;simp only [VR] at h2
         obtain ⟨q1,q2⟩:=Zkd (⟨I1,β1,g1,g2,g5,by rw [Zfw hnp];exact h2⟩:Zcg σ.length base w0 I0 I β x σ1 v w') hr
         refine ⟨ZmT.1 g4.1,v,h1,v,q2 _ ?_,q1⟩
         cases x <;> first | rfl | exact absurd rfl (hnp _)
        ·cases hr
       refine ZFZ (dr:=ZgK) (an:={ ann f with nt:=F.ntmps }) ih (fun n hn=>by simp [ZgK] at hn) hm hb σ.length n rfl hst hx ?_
       cases e with
       | normal=>simp only [ZaD] at h;exact fun a' w' hs=>fin h a' w' hs
       | ret=>simp only [ZaD] at h;exact fun a' w' hs=>fin h a' w' hs
       | exit id=>simp only [ZaD] at h;cases h
       | panic x =>
        simp only [ZaD] at h
        intro a' u w' hd hp
        obtain ⟨q1,q2⟩:=Zkd hp h
        exact ⟨ZmT.1 hd,u,q2 _ rfl,q1⟩
     ·cases hfn
   ·cases hfn
  ·cases hfn
end
end
section
open Go.RowKit
def OLe (O O':ZW):Prop:=∀ f a σ r,O f a σ=some r->O' f a σ=some r
section
variable {O O':ZW} {bf:Nat->Bool}
theorem ZvQ {view:Bool} {m:Nat} {x y:Option (AVal×Za)} (h:∀ r,x=some r->y=some r) {r:AVal×Za} (hr:Zau view m x=some r):Zau view m y=some r:=by
 cases x with
 | none=>cases view <;> simp [Zau,ZcN] at hr
 | some q=>rw [h q rfl];exact hr
theorem ZCH {σ σf:Za} {ids ts:List Nat} {sq own:Nat} {x y:Option (AVal×Za)} (h:∀ r,x=some r->y=some r) {r:AVal×Za×Cls} (hr:Zay σ σf ids ts sq own x=some r):Zay σ σf ids ts sq own y=some r:=by
 cases x with
 | none=>simp only [Zay] at hr;cases hr
 | some q=>rw [h q rfl];exact hr
theorem Zqt (hO:OLe O O') {σ:Za} {sq f own:Nat} {view:Bool} {args:List AVal} {r:AVal×Za×Cls} (h:ZT O bf σ sq f own view args=some r):ZT O' bf σ sq f own view args=some r:=by
 unfold ZT Zbv at h ⊢
 split at h
 ·cases h
 ·rename_i vs ts hv
  split at h
  ·rename_i hc
   simp only [hc,if_true]
   exact ZCH (fun q hq=>ZvQ (fun q hq=>hO _ _ _ _ hq) hq) h
  ·cases h
theorem ZwG (hO:OLe O O') {tm:Tms} {σ:Za} {sq:Nat} {ins:Ins} {r:AVal×Za×Cls} (h:execI O bf tm σ sq ins=some r):execI O' bf tm σ sq ins=some r:=by
 cases ins
 case call f own view args =>
  simp only [execI] at h ⊢
  exact Zqt hO h
 case callv x args =>
  simp only [execI] at h ⊢
  split at h
  ·exact Zqt hO h
  ·cases h
 all_goals exact h
theorem Zlk (hO:OLe O O') {o:AOp} {tm:Tms} {σ:Za} {sq:Nat} {r:AVal×Tms×Za×Cls} (h:ZS O bf o sq tm σ=some r):ZS O' bf o sq tm σ=some r:=by
 unfold ZS at h ⊢
 split at h
 ·cases h
 ·exact h
 ·split at h
  ·rename_i hf
   rw [if_pos hf]
   split at h
   ·rename_i he;rw [ZwG hO he];exact h
   ·cases h
  ·cases h
theorem ZlA (hO:OLe O O'):∀ {ops:List AOp} {s:Nat} {tm:Tms} {σ:Za} {r:Tms×Za×List Cls×Option AVal},ZX O bf ops s tm σ=some r->ZX O' bf ops s tm σ=some r
 | [],_,_,_,_,h=>h
 | o::ops,s,tm,σ,r,h=>by
  simp only [ZX] at h ⊢
  split at h
  ·cases h
  ·rename_i h1
   rw [Zlk hO h1]
   exact h
  ·rename_i v tm1 σ1 c hnp h1
   rw [Zlk hO h1]
   simp only
   split at h
   ·cases h
   rename_i h2
   rw [ZlA hO h2]
   exact h
theorem ZpT (hO:OLe O O') {ops:List AOp} {chk:Option (List (Nat×Nat))} {live:List Nat} {tm:Tms} {σ:Za} {r:ZY×Tms×Za} (h:ZbZ O bf ops chk live tm σ=some r):ZbZ O' bf ops chk live tm σ=some r:=by
 unfold ZbZ at h ⊢
 cases hx:ZX O bf ops σ.length tm (σ++Xx (sitesOf ops) .free) with
 | none=>rw [hx] at h;simp only [ZdB] at h;cases h
 | some q=>rw [ZlA hO hx];rw [hx] at h;exact h
theorem Zj0 {m0:Nat} {live:List Nat} {f f':Tms->Za->Option (ZY×Tms×Za)} (hf:∀ tm σ r,f tm σ=some r->f' tm σ=some r):∀ {n n':Nat} {tm:Tms} {σ:Za} {r:ZY×Tms×Za},n<=n'->Zc7 m0 live f n tm σ=some r->Zc7 m0 live f' n' tm σ=some r
 | 0,_,_,_,_,_,h=>by simp only [Zc7] at h;cases h
 | n+1,0,_,_,_,hn,_=>by omega
 | n+1,n'+1,tm,σ,r,hn,h=>by
  simp only [Zc7] at h ⊢
  split at h
  ·rename_i h1
   rw [hf _ _ _ h1]
   exact Zj0 hf (by omega) h
  ·rename_i hne
   rw [hf _ _ _ h]
   split
   ·rename_i e;injection e with e;subst e;exact absurd h (hne _ _)
   ·rfl
def RLe (run run':Nat->Tms->Za->Option (ZY×Tms×Za)):Prop:=∀ m tm σ r,run m tm σ=some r->run' m tm σ=some r
section
variable {m:Nat} {live:List Nat} {ms en b1:Nat} {ent:List AOp} {run run' fin fin':Nat->Tms->Za->Option (ZY×Tms×Za)}
theorem ZiE (h:RLe run run') {t:Nat} {B:ZU} {kv:AVal×AVal} {tm:Tms} {σ:Za} {r:Tms×Za} (hr:ZbC bf ms en b1 ent run t B kv tm σ=some r):ZbC bf ms en b1 ent run' t B kv tm σ=some r:=by
 unfold ZbC at hr ⊢
 split at hr
 ·rename_i tm1 σ1 h1
  cases hx:run σ.length tm1 σ1 with
  | none=>rw [hx] at hr;cases hr
  | some q=>rw [hx] at hr;simp only [h _ _ _ _ hx];exact hr
 ·cases hr
theorem ZiP (h:RLe run run') {es:List (AVal×AVal)}:∀ {l:List (AVal×AVal)} {tm:Tms} {σ:Za} {r:Tms×Za},ZaY bf m live ms en b1 ent run es l tm σ=some r->ZaY bf m live ms en b1 ent run' es l tm σ=some r
 | [],tm,σ,r,hr=>hr
 | kv::l,tm,σ,r,hr=>by
  simp only [ZaY] at hr ⊢
  split at hr
  ·rename_i t B es' tm0 σ0 hh
   split at hr
   ·rename_i he
    simp only [he,if_true]
    split at hr
    ·rename_i tm' σ' h1
     rw [ZiE h h1]
     exact ZiP h hr
    ·cases hr
   ·cases hr
  ·cases hr
theorem Zn2 (h:RLe run run') (hf:RLe fin fin') {es l:List (AVal×AVal)} {tm:Tms} {σ:Za} {r:ZY×Tms×Za} (hr:Zbh bf m live ms en b1 ent run fin es l tm σ=some r):Zbh bf m live ms en b1 ent run' fin' es l tm σ=some r:=by
 unfold Zbh at hr ⊢
 split at hr
 ·rename_i tm' σ' h1
  rw [ZiP h h1]
  exact hf _ _ _ _ hr
 ·cases hr
theorem Zlc {es:List (AVal×AVal)} {tm:Tms} {σ:Za} {r:ZY×Tms×Za}:ZfM bf m live ms en b1 ent run fin es tm σ=some r↔∀ es':List (AVal×AVal),es'.Perm es->Zbh bf m live ms en b1 ent run fin es es' tm σ=some r:=by
 unfold ZfM
 constructor
 ·intro h
  split at h
  ·rename_i hx
   injection h with h
   rw [<-h]
   exact hx.choose_spec
  ·cases h
 ·intro h
  have hx:∃ out,∀ es':List (AVal×AVal),es'.Perm es->Zbh bf m live ms en b1 ent run fin es es' tm σ=some out:=⟨r,h⟩
  rw [dif_pos hx]
  have h1:=hx.choose_spec es (Xaa _)
  rw [h es (Xaa _)] at h1
  injection h1 with h1
  rw [<-h1]
theorem Zp8 (h:RLe run run') (hf:RLe fin fin') {tm:Tms} {σ:Za} {r:ZY×Tms×Za} (hr:Zcr bf m live ms en b1 ent run fin tm σ=some r):Zcr bf m live ms en b1 ent run' fin' tm σ=some r:=by
 unfold Zcr at hr ⊢
 split at hr
 ·cases hr
 ·exact hf _ _ _ _ hr
 ·split at hr
  ·rename_i h1
   rw [ZiE h h1]
   exact hf _ _ _ _ hr
  ·cases hr
 ·rw [Zlc] at hr ⊢
  exact fun es' hp=>Zn2 h hf (hr es' hp)
end
theorem Zpy {α:Type} (Q:Nat->α->Prop) (hm:∀ n n' x,n<=n'->Q n x->Q n' x):∀ (L:List α),(∀ x ∈ L,∃ n,Q n x)->∃ n,∀ x ∈ L,Q n x
 | [],_=>⟨0,fun x hx=>by cases hx⟩
 | x::L,h=>by
  obtain ⟨a,ha⟩:=h x (by simp)
  obtain ⟨b,hb⟩:=Zpy Q hm L (fun y hy=>h y (by simp [hy]))
  refine ⟨max a b,fun y hy=>?_⟩
  rcases XA.1 hy with rfl | hy
  ·exact hm _ _ _ (WE _ _) ha
  ·exact hm _ _ _ (Wp _ _) (hb y hy)
theorem Zrg {α:Type} (es:List α) {i:Nat} (hi:i < es.length):(es[i]::es.eraseIdx i).Perm es:=by
 rw [List.eraseIdx_eq_take_drop_succ]
 have h:es.take i++es[i]::es.drop (i+1)=es:=by rw [List.getElem_cons_drop,List.take_append_drop]
 have:=(List.perm_middle (a:=es[i]) (l₁:=es.take i) (l₂:=es.drop (i+1))).symm
 rwa [h] at this
theorem Zpp {α:Type}:∀ (k:Nat) (es:List α) (P:Nat->List α->Prop),es.length=k->(∀ n n' l,n<=n'->P n l->P n' l)->(∀ l:List α,l.Perm es->∃ n,P n l)->∃ n,∀ l:List α,l.Perm es->P n l
 | 0,es,P,hk,hm,h=>by
  obtain rfl:es=[]:=XV hk
  obtain ⟨n,hn⟩:=h [] (Xaa _)
  exact ⟨n,fun l hl=>by rw [Xa8.eq_nil hl];exact hn⟩
 | k+1,es,P,hk,hm,h=>by
  have key:∀ i ∈ Wu es.length,∃ n,∀ (hi:i < es.length),∀ r:List α,r.Perm (es.eraseIdx i)->P n (es[i]::r):=by
   intro i hi
   have hi:=WP.1 hi
   obtain ⟨n,hn⟩:=Zpp k (es.eraseIdx i) (fun n r=>P n (es[i]::r)) (by rw [List.length_eraseIdx_of_lt hi];omega) (fun n n' l hn hp=>hm n n' _ hn hp) (fun r hr=>h _ ((Xa8.cons _ hr).trans (Zrg es hi)))
   exact ⟨n,fun _ r hr=>hn r hr⟩
  obtain ⟨n,hn⟩:=Zpy (fun n i=>∀ (hi:i < es.length),∀ r:List α,r.Perm (es.eraseIdx i)->P n (es[i]::r)) (fun n n' i hle hq hi r hr=>hm n n' _ hle (hq hi r hr)) _ key
  refine ⟨n,fun l hl=>?_⟩
  cases l with
  | nil=>have:=hl.length_eq;simp at this;omega
  | cons x r =>
   have hx:x ∈ es:=hl.subset (by simp)
   obtain ⟨i,hi,rfl⟩:=List.getElem_of_mem hx
   exact hn i (WP.2 hi) hi r (Xa8.cons_inv (hl.trans (Zrg es hi).symm))
theorem ZcU (hO:OLe O O'):∀ {m0:Nat} {c:Zo} {n n':Nat} {tm:Tms} {σ:Za} {r:ZY×Tms×Za},n<=n'->ZV O bf m0 n c tm σ=some r->ZV O' bf m0 n' c tm σ=some r:=by
 intro m0 c
 induction c generalizing m0 with
 | skip=>intro n n' tm σ r _ h;exact h
 | exit id=>intro n n' tm σ r _ h;exact h
 | ret=>intro n n' tm σ r _ h;exact h
 | stuck=>intro n n' tm σ r _ h;exact h
 | region ops chk live =>
  intro n n' tm σ r _ h
  simp only [ZV] at h ⊢
  exact ZpT hO h
 | seq a b iha ihb =>
  intro n n' tm σ r hn h
  simp only [ZV] at h ⊢
  split at h
  ·rename_i h1;rw [iha hn h1];exact ihb hn h
  ·rename_i hne
   rw [iha hn h]
   split
   ·rename_i e;injection e with e;subst e;exact absurd h (hne _ _)
   ·rfl
 | cond c a b iha ihb =>
  intro n n' tm σ r hn h
  simp only [ZV] at h ⊢
  split at h
  ·exact iha hn h
  ·exact ihb hn h
  ·cases h
 | block id c ih =>
  intro n n' tm σ r hn h
  simp only [ZV] at h ⊢
  split at h
  ·rename_i h1;rw [ih hn h1];exact h
  ·rename_i hne
   rw [ih hn h]
   split
   ·rename_i e;injection e with e;subst e;exact absurd h (hne _ _ _)
   ·rfl
 | loop live c ih =>
  intro n n' tm σ r hn h
  simp only [ZV] at h ⊢
  exact Zj0 (fun tm σ r h=>ih hn h) hn h
 | range pre live ms en b1 ent body rest ihb ihr =>
  intro n n' tm σ r hn h
  simp only [ZV] at h ⊢
  split at h
  ·exact Zp8 (fun m tm σ r h=>ihb hn h) (fun m tm σ r h=>ihr hn h) h
  ·cases h
theorem Zld {m0:Nat} {fn:Z8} {x y:Option (ZY×Tms×Za)} (h:∀ r,x=some r->y=some r) {r:AVal×Za} (hr:ZaD m0 fn x=some r):ZaD m0 fn y=some r:=by
 cases x with
 | none=>simp only [ZaD] at hr;cases hr
 | some q=>rw [h q rfl];exact hr
theorem ZpR (fs:Nat->Option Z8) (prim:Zdt):∀ n,OLe (Zah fs prim bf n) (Zah fs prim bf (n+1))
 | 0=>by intro f a σ r h;simp only [Zah] at h;cases h
 | n+1=>by
  intro f a σ r h
  rw [Zah] at h ⊢
  split at h
  ·rename_i g hg;exact h
  ·rename_i hg
   split at h
   ·cases h
   ·rename_i fn hfn
    exact Zld (fun q hq=>ZcU (ZpR fs prim n) (by omega) hq) h
theorem Zhw (fs : Nat -> Option Z8) (prim : Zdt) {n m : Nat} (h : n <= m) : OLe (Zah fs prim bf n) (Zah fs prim bf m) := by
  induction m with
  | zero => obtain rfl : n = 0 := by omega
            exact fun _ _ _ _ h => h
  | succ m ih =>
    by_cases e : n = m + 1
    . subst e; exact fun _ _ _ _ h => h
    . exact fun f a σ r hr => ZpR fs prim m f a σ r (ih (by omega) f a σ r hr)
end
section
variable (fs:Nat->Option Z8) (prim:Zdt) (bf:Nat->Bool)
open Classical in
noncomputable def EV:ZW:=fun f args σ=>if h:∃ r,∃ n,Zah fs prim bf n f args σ=some r then some h.choose else none
open Classical in
noncomputable def evC (m:Nat) (c:Zo) (tm:Tms) (σ:Za):Option (ZY×Tms×Za):=if h:∃ r,∃ n,ZV (Zah fs prim bf n) bf m n c tm σ=some r then some h.choose else none
variable {fs prim bf} {m0:Nat}
theorem Zct {f:Nat} {args:List AVal} {σ:Za} {r:AVal×Za}:EV fs prim bf f args σ=some r↔∃ n,Zah fs prim bf n f args σ=some r:=by
 unfold EV
 constructor
 ·intro h
  split at h
  ·rename_i hx
   injection h with h
   rw [<-h]
   exact hx.choose_spec
  ·cases h
 ·rintro ⟨n,hn⟩
  have hx:∃ r,∃ n,Zah fs prim bf n f args σ=some r:=⟨r,n,hn⟩
  rw [dif_pos hx]
  obtain ⟨m,hm⟩:=hx.choose_spec
  have h1:=Zhw (bf:=bf) fs prim (WE n m) _ _ _ _ hn
  have h2:=Zhw (bf:=bf) fs prim (Wp n m) _ _ _ _ hm
  rw [h1] at h2
  injection h2 with h2
  rw [<-h2]
theorem ZaF {c:Zo} {tm:Tms} {σ:Za} {r:ZY×Tms×Za}:evC fs prim bf m0 c tm σ=some r↔∃ n,ZV (Zah fs prim bf n) bf m0 n c tm σ=some r:=by
 unfold evC
 constructor
 ·intro h
  split at h
  ·rename_i hx
   injection h with h
   rw [<-h]
   exact hx.choose_spec
  ·cases h
 ·rintro ⟨n,hn⟩
  have hx:∃ r,∃ n,ZV (Zah fs prim bf n) bf m0 n c tm σ=some r:=⟨r,n,hn⟩
  rw [dif_pos hx]
  obtain ⟨m,hm⟩:=hx.choose_spec
  have h1:=ZcU (Zhw (bf:=bf) fs prim (WE n m)) (WE n m) hn
  have h2:=ZcU (Zhw (bf:=bf) fs prim (Wp n m)) (Wp n m) hm
  rw [h1] at h2
  injection h2 with h2
  rw [<-h2]
theorem Zeq {α:Type} {x y:Option α} (h:∀ r,x=some r↔y=some r):x=y:=by
 cases x with
 | none =>
  cases y with
  | none=>rfl
  | some q=>exact absurd ((h q).2 rfl) (by simp)
 | some q=>exact ((h q).1 rfl).symm
theorem ZxJ (n:Nat):OLe (Zah fs prim bf n) (EV fs prim bf):=fun _ _ _ _ h=>Zct.2 ⟨n,h⟩
theorem up {n m:Nat} (h:n<=m):OLe (Zah fs prim bf n) (Zah fs prim bf m):=Zhw fs prim h
theorem ZsY {f:Nat} {fn:Z8} (hp:prim f=none) (hf:fs f=some fn) (args:List AVal) (σ:Za):EV fs prim bf f args σ=ZaD σ.length fn (evC fs prim bf σ.length fn.body (enterA 0 args []) σ):=by
 apply Zeq
 intro r
 rw [Zct]
 constructor
 ·rintro ⟨n,h⟩
  cases n with
  | zero=>simp only [Zah] at h;cases h
  | succ n =>
   rw [Zah,hp,hf] at h
   exact Zld (fun q hq=>ZaF.2 ⟨n,hq⟩) h
 ·intro h
  cases hx:evC fs prim bf σ.length fn.body (enterA 0 args []) σ with
  | none=>rw [hx] at h;simp only [ZaD] at h;cases h
  | some q =>
   obtain ⟨n,hn⟩:=ZaF.1 hx
   refine ⟨n+1,?_⟩
   rw [Zah,hp,hf]
   rw [hx] at h
   exact Zld (x:=some q) (fun q' hq'=>by injection hq' with hq';subst hq';exact hn) h
theorem ZoP {σ:Za} {sq f own:Nat} {view:Bool} {args:List AVal} {r:AVal×Za×Cls} (h:ZT (EV fs prim bf) bf σ sq f own view args=some r):∃ n,ZT (Zah fs prim bf n) bf σ sq f own view args=some r:=by
 unfold ZT Zbv at h ⊢
 split at h
 ·cases h
 ·rename_i vs ts hv
  split at h
  ·rename_i hc
   simp only [hc,if_true]
   cases hx:EV fs prim bf f (ZZ (Zd (ZR σ ts) 0 (Zm (ZR σ ts) 1000 (Z4 vs) [])) vs) (Zl (ZR σ ts) 0 (Zm (ZR σ ts) 1000 (Z4 vs) []) (Zd (ZR σ ts) 0 (Zm (ZR σ ts) 1000 (Z4 vs) [])) (Zm (ZR σ ts) 1000 (Z4 vs) []) 0) with
   | none =>
    rw [hx] at h
    cases view <;> simp [Zau,ZcN,Zay] at h
   | some q =>
    obtain ⟨n,hn⟩:=Zct.1 hx
    exact ⟨n,by rw [hn];rw [hx] at h;exact h⟩
  ·cases h
theorem ZEj {tm:Tms} {σ:Za} {sq:Nat} {ins:Ins} {r:AVal×Za×Cls} (h:execI (EV fs prim bf) bf tm σ sq ins=some r):∃ n,execI (Zah fs prim bf n) bf tm σ sq ins=some r:=by
 cases ins
 case call f own view args =>
  simp only [execI] at h ⊢
  exact ZoP h
 case callv x args =>
  simp only [execI] at h ⊢
  split at h
  ·exact ZoP h
  ·cases h
 all_goals exact ⟨0,h⟩
theorem Znp {o:AOp} {tm:Tms} {σ:Za} {sq:Nat} {r:AVal×Tms×Za×Cls} (h:ZS (EV fs prim bf) bf o sq tm σ=some r):∃ n,ZS (Zah fs prim bf n) bf o sq tm σ=some r:=by
 unfold ZS at h ⊢
 split at h
 ·cases h
 ·exact ⟨0,h⟩
 ·split at h
  ·rename_i hf
   simp only [hf,if_true]
   split at h
   ·rename_i he
    obtain ⟨n,hn⟩:=ZEj he
    exact ⟨n,by rw [hn];exact h⟩
   ·cases h
  ·cases h
theorem Zqd:∀ {ops:List AOp} {s:Nat} {tm:Tms} {σ:Za} {r:Tms×Za×List Cls×Option AVal},ZX (EV fs prim bf) bf ops s tm σ=some r->∃ n,ZX (Zah fs prim bf n) bf ops s tm σ=some r
 | [],_,_,_,_,h=>⟨0,h⟩
 | o::ops,s,tm,σ,r,h=>by
  simp only [ZX] at h ⊢
  split at h
  ·cases h
  ·rename_i h1
   obtain ⟨n,hn⟩:=Znp h1
   exact ⟨n,by rw [hn];exact h⟩
  rename_i v tm1 σ1 c hnp h1
  split at h
  ·cases h
  rename_i h2
  obtain ⟨n,hn⟩:=Znp h1
  obtain ⟨m,hm⟩:=Zqd h2
  refine ⟨max n m,?_⟩
  rw [Zlk (up (WE n m)) hn]
  simp only
  rw [ZlA (up (Wp n m)) hm]
  exact h
theorem Zsb {ops:List AOp} {chk:Option (List (Nat×Nat))} {live:List Nat} {tm:Tms} {σ:Za} {r:ZY×Tms×Za} (h:ZbZ (EV fs prim bf) bf ops chk live tm σ=some r):∃ n,ZbZ (Zah fs prim bf n) bf ops chk live tm σ=some r:=by
 unfold ZbZ at h ⊢
 cases hx:ZX (EV fs prim bf) bf ops σ.length tm (σ++Xx (sitesOf ops) .free) with
 | none=>rw [hx] at h;simp only [ZdB] at h;cases h
 | some q =>
  obtain ⟨n,hn⟩:=Zqd hx
  exact ⟨n,by rw [hn];rw [hx] at h;exact h⟩
theorem ZFL (tm:Tms) (σ:Za):evC fs prim bf m0 .skip tm σ=some (.normal,tm,σ):=ZaF.2 ⟨0,rfl⟩
theorem ZBs (id:Nat) (tm:Tms) (σ:Za):evC fs prim bf m0 (.exit id) tm σ=some (.exit id,tm,σ):=ZaF.2 ⟨0,rfl⟩
theorem Zy6 (tm:Tms) (σ:Za):evC fs prim bf m0 .ret tm σ=some (.ret,tm,σ):=ZaF.2 ⟨0,rfl⟩
theorem ZtA {ops:List AOp} {chk:Option (List (Nat×Nat))} {live:List Nat} {tm:Tms} {σ:Za}:evC fs prim bf m0 (.region ops chk live) tm σ=ZbZ (EV fs prim bf) bf ops chk live tm σ:=by
 apply Zeq
 intro r
 rw [ZaF]
 constructor
 ·rintro ⟨n,hn⟩
  simp only [ZV] at hn
  exact ZpT (ZxJ n) hn
 ·intro h
  obtain ⟨n,hn⟩:=Zsb h
  exact ⟨n,by simp only [ZV];exact hn⟩
theorem ZrG {a b:Zo} {tm tm':Tms} {σ σ':Za} (h:evC fs prim bf m0 a tm σ=some (.normal,tm',σ')):evC fs prim bf m0 (.seq a b) tm σ=evC fs prim bf m0 b tm' σ':=by
 obtain ⟨n,hn⟩:=ZaF.1 h
 apply Zeq
 intro r
 rw [ZaF,ZaF]
 constructor
 ·rintro ⟨m,hm⟩
  have h1:=ZcU (up (WE n m)) (WE n m) hn
  have h2:=ZcU (up (Wp n m)) (Wp n m) hm
  simp only [ZV,h1] at h2
  exact ⟨_,h2⟩
 ·rintro ⟨m,hm⟩
  have h1:=ZcU (up (WE n m)) (WE n m) hn
  have h2:=ZcU (up (Wp n m)) (Wp n m) hm
  exact ⟨max n m,by simp only [ZV,h1];exact h2⟩
theorem ZlF {a b:Zo} {tm tm':Tms} {σ σ':Za} {e:ZY} (he:e≠.normal) (h:evC fs prim bf m0 a tm σ=some (e,tm',σ')):evC fs prim bf m0 (.seq a b) tm σ=some (e,tm',σ'):=by
 obtain ⟨n,hn⟩:=ZaF.1 h
 refine ZaF.2 ⟨n,?_⟩
 simp only [ZV,hn]
 cases e with
 | normal=>exact absurd rfl he
 | exit id=>rfl
 | ret=>rfl
 | panic x=>rfl
def ZaG (id:Nat):ZY×Tms×Za->ZY×Tms×Za
 | (.exit i,tm,σ)=>if i=id then (.normal,tm,σ) else (.exit i,tm,σ)
 | r=>r
theorem Zvc {id:Nat} {c:Zo} {tm:Tms} {σ:Za}:evC fs prim bf m0 (.block id c) tm σ=(evC fs prim bf m0 c tm σ).map (ZaG id):=by
 have step:∀ n,ZV (Zah fs prim bf n) bf m0 n (.block id c) tm σ=(ZV (Zah fs prim bf n) bf m0 n c tm σ).map (ZaG id):=by
  intro n
  simp only [ZV]
  cases ZV (Zah fs prim bf n) bf m0 n c tm σ with
  | none=>rfl
  | some q =>
   obtain ⟨e,tm1,σ1⟩:=q
   cases e with
   | normal=>rfl
   | ret=>rfl
   | panic x=>rfl
   | exit i=>simp only [XS,ZaG];split <;> rfl
 apply Zeq;intro r
 rw [ZaF]
 simp only [step,Xq]
 constructor
 ·rintro ⟨n,q,h1,h2⟩;exact ⟨q,ZaF.2 ⟨n,h1⟩,h2⟩
 ·rintro ⟨q,h1,h2⟩;obtain ⟨n,hn⟩:=ZaF.1 h1;exact ⟨n,q,hn,h2⟩
theorem Zr1 {c:Zo} {tm:Tms} {σ:Za} (h:evC fs prim bf m0 c tm σ=none) (n:Nat):ZV (Zah fs prim bf n) bf m0 n c tm σ=none:=by
 cases hx:ZV (Zah fs prim bf n) bf m0 n c tm σ with
 | none=>rfl
 | some r=>rw [ZaF.2 ⟨n,hx⟩] at h;cases h
variable (fs prim bf m0) in
noncomputable def Za0 (b:Zo):Option (ZY×Tms×Za)->Option (ZY×Tms×Za)
 | some (.normal,tm,σ)=>evC fs prim bf m0 b tm σ
 | r=>r
theorem ZBW {a b:Zo} {tm:Tms} {σ:Za}:evC fs prim bf m0 (.seq a b) tm σ=Za0 fs prim bf m0 b (evC fs prim bf m0 a tm σ):=by
 cases h:evC fs prim bf m0 a tm σ with
 | none =>
  simp only [Za0]
  apply Zeq;intro r
  rw [ZaF]
  constructor
  ·rintro ⟨n,hn⟩
   simp only [ZV,Zr1 h n] at hn
   cases hn
  ·intro h;cases h
 | some q =>
  obtain ⟨e,tm',σ'⟩:=q
  cases e with
  | normal=>exact ZrG h
  | exit id=>exact ZlF (by simp) h
  | ret=>exact ZlF (by simp) h
  | panic x=>exact ZlF (by simp) h
variable (fs prim bf m0) in
noncomputable def ZhP (a b:Zo) (tm:Tms) (σ:Za):AVal->Option (ZY×Tms×Za)
 | .bool true=>evC fs prim bf m0 a tm σ
 | .bool false=>evC fs prim bf m0 b tm σ
 | _=>none
theorem ZEG {c:Opd} {a b:Zo} {tm:Tms} {σ:Za}:evC fs prim bf m0 (.cond c a b) tm σ=ZhP fs prim bf m0 a b tm σ (c.ev tm):=by
 apply Zeq;intro r
 rw [ZaF]
 simp only [ZV]
 constructor
 ·rintro ⟨n,hn⟩
  split at hn
  ·rename_i e;rw [e];simp only [ZhP];exact ZaF.2 ⟨n,hn⟩
  ·rename_i e;rw [e];simp only [ZhP];exact ZaF.2 ⟨n,hn⟩
  ·cases hn
 ·intro h
  unfold ZhP at h
  split at h
  ·rename_i e;obtain ⟨n,hn⟩:=ZaF.1 h;exact ⟨n,by rw [e];exact hn⟩
  ·rename_i e;obtain ⟨n,hn⟩:=ZaF.1 h;exact ⟨n,by rw [e];exact hn⟩
  ·cases h
variable (fs prim bf m0) in
noncomputable def evL (live:List Nat) (c:Zo) (tm:Tms) (σ:Za):Option (ZY×Tms×Za) :=
 match evC fs prim bf m0 c tm σ with
 | some (.normal,tm',σ')=>evC fs prim bf m0 (.loop live c) tm' σ'
 | r=>r
theorem Zo2 {live:List Nat} {c:Zo} {tm:Tms} {σ:Za}:evC fs prim bf m0 (.loop live c) tm σ=evL fs prim bf m0 live c (gcT m0 (keepL live tm) σ).1 (gcT m0 (keepL live tm) σ).2:=by
 apply Zeq;intro r
 rw [ZaF]
 constructor
 ·rintro ⟨n,hn⟩
  simp only [ZV] at hn
  cases n with
  | zero=>simp only [Zc7] at hn;cases hn
  | succ k =>
   simp only [Zc7] at hn
   unfold evL
   cases hx:ZV (Zah fs prim bf (k+1)) bf m0 (k+1) c (gcT m0 (keepL live tm) σ).1 (gcT m0 (keepL live tm) σ).2 with
   | none=>rw [hx] at hn;cases hn
   | some q =>
    rw [ZaF.2 ⟨_,hx⟩]
    rw [hx] at hn
    obtain ⟨e,tm',σ'⟩:=q
    cases e with
    | normal =>
     simp only at hn ⊢
     exact ZaF.2 ⟨k+1,by simp only [ZV];exact Zj0 (fun _ _ _ h=>h) (by omega) hn⟩
    | exit id=>exact hn
    | ret=>exact hn
    | panic x=>exact hn
 ·intro h
  unfold evL at h
  cases hx:evC fs prim bf m0 c (gcT m0 (keepL live tm) σ).1 (gcT m0 (keepL live tm) σ).2 with
  | none=>rw [hx] at h;cases h
  | some q =>
   rw [hx] at h
   obtain ⟨n,hn⟩:=ZaF.1 hx
   obtain ⟨e,tm',σ'⟩:=q
   have out:e≠.normal->some (e,tm',σ')=some r->∃ n,ZV (Zah fs prim bf n) bf m0 n (.loop live c) tm σ=some r:=by
    intro he h
    refine ⟨n+1,?_⟩
    have h1:=ZcU (up (show n<=n+1 by omega)) (show n<=n+1 by omega) hn
    simp only [ZV,Zc7,h1]
    cases e with
    | normal=>exact absurd rfl he
    | exit id=>exact h
    | ret=>exact h
    | panic x=>exact h
   cases e with
   | normal =>
    simp only at h
    obtain ⟨m,hm⟩:=ZaF.1 h
    have h1:=ZcU (up (show n<=max n m+1 by omega)) (show n<=max n m+1 by omega) hn
    have h2:=ZcU (up (show m<=max n m+1 by omega)) (X3 m) hm
    simp only [ZV] at h2
    refine ⟨max n m+1,?_⟩
    simp only [ZV,Zc7,h1]
    exact Zj0 (fun tm σ r h=>ZcU (fun _ _ _ _ h=>h) (by omega) h) (by omega) h2
   | exit id=>exact out (by simp) h
   | ret=>exact out (by simp) h
   | panic x=>exact out (by simp) h
section
variable {live:List Nat} {ms en b1:Nat} {ent:List AOp} {body rest:Zo}
theorem ZpJ {t:Nat} {B:ZU} {kv:AVal×AVal} {tm:Tms} {σ:Za} {r:Tms×Za} (h:ZbC bf ms en b1 ent (fun m'=>evC fs prim bf m' body) t B kv tm σ=some r):∃ n,ZbC bf ms en b1 ent (fun m'=>ZV (Zah fs prim bf n) bf m' n body) t B kv tm σ=some r:=by
 unfold ZbC at h ⊢
 split at h
 ·rename_i tm1 σ1 h1
  dsimp only at h ⊢
  cases hx:evC fs prim bf σ.length body tm1 σ1 with
  | none=>rw [hx] at h;cases h
  | some q =>
   obtain ⟨n,hn⟩:=ZaF.1 hx
   exact ⟨n,by rw [hx] at h;simp only [hn];exact h⟩
 ·cases h
theorem Zgr {n n':Nat} (h:n<=n') (c:Zo):RLe (fun m'=>ZV (Zah fs prim bf n) bf m' n c) (fun m'=>ZV (Zah fs prim bf n') bf m' n' c):=fun _ _ _ _ hr=>ZcU (up h) h hr
theorem Znu {es:List (AVal×AVal)}:∀ {l:List (AVal×AVal)} {tm:Tms} {σ:Za} {r:Tms×Za},ZaY bf m0 live ms en b1 ent (fun m'=>evC fs prim bf m' body) es l tm σ=some r->∃ n,ZaY bf m0 live ms en b1 ent (fun m'=>ZV (Zah fs prim bf n) bf m' n body) es l tm σ=some r
 | [],tm,σ,r,hr=>⟨0,hr⟩
 | kv::l,tm,σ,r,hr=>by
  simp only [ZaY] at hr ⊢
  split at hr
  ·rename_i t B es' tm0 σ0 hh
   split at hr
   ·rename_i he
    simp only [he,if_true]
    split at hr
    ·rename_i tm' σ' h1
     obtain ⟨n,hn⟩:=ZpJ h1
     obtain ⟨n',hn'⟩:=Znu hr
     refine ⟨max n n',?_⟩
     rw [ZiE (Zgr (WE n n') body) hn]
     exact ZiP (Zgr (Wp n n') body) hn'
    ·cases hr
   ·cases hr
  ·cases hr
theorem ZDh {es l:List (AVal×AVal)} {tm:Tms} {σ:Za} {r:ZY×Tms×Za} (h:Zbh bf m0 live ms en b1 ent (fun m'=>evC fs prim bf m' body) (fun m'=>evC fs prim bf m' rest) es l tm σ=some r):∃ n,Zbh bf m0 live ms en b1 ent (fun m'=>ZV (Zah fs prim bf n) bf m' n body) (fun m'=>ZV (Zah fs prim bf n) bf m' n rest) es l tm σ=some r:=by
 unfold Zbh at h ⊢
 split at h
 ·rename_i tm' σ' h1
  obtain ⟨n,hn⟩:=Znu h1
  unfold Ze0 at h ⊢
  dsimp only at h ⊢
  obtain ⟨n',hn'⟩:=ZaF.1 h
  refine ⟨max n n',?_⟩
  rw [ZiP (Zgr (WE n n') body) hn]
  exact ZcU (up (Wp n n')) (Wp n n') hn'
 ·cases h
theorem ZEV {tm:Tms} {σ:Za} {r:ZY×Tms×Za} (h:Zcr bf m0 live ms en b1 ent (fun m'=>evC fs prim bf m' body) (fun m'=>evC fs prim bf m' rest) tm σ=some r):∃ n,Zcr bf m0 live ms en b1 ent (fun m'=>ZV (Zah fs prim bf n) bf m' n body) (fun m'=>ZV (Zah fs prim bf n) bf m' n rest) tm σ=some r:=by
 unfold Zcr at h ⊢
 split at h
 ·cases h
 ·exact ZaF.1 h
 ·split at h
  ·rename_i tm' σ' h1
   obtain ⟨n,hn⟩:=ZpJ h1
   unfold Ze0 at h ⊢
   dsimp only at h ⊢
   obtain ⟨n',hn'⟩:=ZaF.1 h
   refine ⟨max n n',?_⟩
   rw [ZiE (Zgr (WE n n') body) hn]
   exact ZcU (up (Wp n n')) (Wp n n') hn'
  ·cases h
 ·rename_i es _ _ _ _ _
  simp only [Zlc] at h ⊢
  exact Zpp es.length es (fun n es'=>Zbh bf m0 live ms en b1 ent (fun m'=>ZV (Zah fs prim bf n) bf m' n body) (fun m'=>ZV (Zah fs prim bf n) bf m' n rest) es es' tm σ=some r) rfl (fun n n' l hn hp=>Zn2 (Zgr hn body) (Zgr hn rest) hp) (fun l hl=>ZDh (h l hl))
variable (fs prim bf m0) in
noncomputable def ZlO (live:List Nat) (ms en b1:Nat) (ent:List AOp) (body rest:Zo):Option (Tms×Za)->Option (ZY×Tms×Za)
 | some (tm,σ)=>Zcr bf m0 live ms en b1 ent (fun m'=>evC fs prim bf m' body) (fun m'=>evC fs prim bf m' rest) tm σ
 | none=>none
theorem ZsE {pre:List AOp} {tm:Tms} {σ:Za}:evC fs prim bf m0 (.range pre live ms en b1 ent body rest) tm σ=ZlO fs prim bf m0 live ms en b1 ent body rest (ZcJ bf pre tm σ):=by
 apply Zeq
 intro r
 rw [ZaF]
 constructor
 ·rintro ⟨n,hn⟩
  simp only [ZV] at hn
  split at hn
  ·rename_i h1
   rw [h1]
   exact Zp8 (fun _ _ _ _ h=>ZaF.2 ⟨n,h⟩) (fun _ _ _ _ h=>ZaF.2 ⟨n,h⟩) hn
  ·cases hn
 ·intro h
  unfold ZlO at h
  split at h
  ·rename_i tm1 σ1 h1
   obtain ⟨n,hn⟩:=ZEV h
   exact ⟨n,by simp only [ZV,h1];exact hn⟩
  ·cases h
end
theorem Zsi {P:Program} (hm:P.follows .mixedOrders=true) {prim:Zdt} (hP:Zk1 P prim) (ann:Nat->Ann) (bf:Nat->Bool):Zak P (EV (Zhn P ann) prim bf):=by
 intro f args σ r σ' h
 obtain ⟨n,hn⟩:=Zct.1 h
 exact ZnV hm hP ann bf n f args σ r σ' hn
end
end
section
open Go.RowKit
def ZqC:Tms×Za×List Cls×Option AVal->Tms×Za×Option AVal:=fun q=>(q.1,q.2.1,q.2.2.2)
def Zas:AVal->Bool
 | .pan _=>true
 | _=>false
section
variable (O:ZW) (bf:Nat->Bool)
def exI (i:Ins) (s:Nat) (tm:Tms) (σ:Za):Option (AVal×Za×Cls) :=
 if nsite i == 0 || freeAt σ s then execI O bf tm σ s i else none
def ZaL (ops:List AOp) (s:Nat) (tm:Tms) (σ:Za):Option (Tms×Za×Option AVal):=(ZX O bf ops s tm σ).map ZqC
def kN (d:Option Nat) (os:List AOp) (s:Nat) (tm:Tms):Option (AVal×Za×Cls)->Option (Tms×Za×Option AVal)
 | none=>none
 | some (v,σ,_)=>if Zas v then some (tput tm d v,σ,some (Zav v)) else ZaL O bf os s (tput tm d v) σ
def ZjC (live:List Nat):Option (Tms×Za×Option AVal)->Option (ZY×Tms×Za)
 | none=>none
 | some (_,σ,some x)=>some (.panic x,[],σ)
 | some (tm,σ,none)=>some (.normal,keepL live tm,σ)
variable {O bf}
theorem ZqX (s:Nat) (tm:Tms) (σ:Za):ZaL O bf [] s tm σ=some (tm,σ,none):=rfl
theorem Zh1 {o:AOp} {os:List AOp} {s:Nat} {tm:Tms} {σ:Za} (h:ZS O bf o s tm σ=none):ZX O bf (o::os) s tm σ=none:=by simp only [ZX,h]
theorem ZjX {o:AOp} {os:List AOp} {s:Nat} {tm tm1:Tms} {σ σ1:Za} {x:AVal} {c:Cls} (h:ZS O bf o s tm σ=some (.pan x,tm1,σ1,c)):ZX O bf (o::os) s tm σ=some (tm1,σ1,[c],some x):=by simp only [ZX,h]
theorem Zot {o:AOp} {os:List AOp} {s:Nat} {tm tm1:Tms} {σ σ1:Za} {v:AVal} {c:Cls} (h:ZS O bf o s tm σ=some (v,tm1,σ1,c)) (hn:Zas v=false):ZX O bf (o::os) s tm σ=(ZX O bf os (s+nsite o.ins) tm1 σ1).map fun q=>(q.1,q.2.1,c::q.2.2.1,q.2.2.2):=by
 simp only [ZX,h]
 cases v <;> first
  | (simp [Zas] at hn;done)
  | (simp only;cases ZX O bf os (s+nsite o.ins) tm1 σ1 <;> rfl)
theorem Zio {o:AOp} {os:List AOp} {s:Nat} {tm:Tms} {σ:Za} (h:ZS O bf o s tm σ=none):ZaL O bf (o::os) s tm σ=none:=by simp only [ZaL,Zh1 h,Option.map_none]
theorem Zmr {o:AOp} {os:List AOp} {s:Nat} {tm tm1:Tms} {σ σ1:Za} {x:AVal} {c:Cls} (h:ZS O bf o s tm σ=some (.pan x,tm1,σ1,c)):ZaL O bf (o::os) s tm σ=some (tm1,σ1,some x):=by simp only [ZaL,ZjX h,XS,ZqC]
theorem Zjc {o:AOp} {os:List AOp} {s:Nat} {tm tm1:Tms} {σ σ1:Za} {v:AVal} {c:Cls} (h:ZS O bf o s tm σ=some (v,tm1,σ1,c)) (hn:Zas v=false):ZaL O bf (o::os) s tm σ=ZaL O bf os (s+nsite o.ins) tm1 σ1:=by
 simp only [ZaL,Zot h hn,Option.map_map]
 rfl
theorem ZjW {v:AVal} (h:Zas v=true):∃ x,v=.pan x:=by
 cases v <;> first | exact ⟨_,rfl⟩ | (simp [Zas] at h;done)
theorem ZiF {d:Option Nat} {i:Ins} {af:List Nat} {s:Nat} {tm:Tms} {σ:Za}:ZS O bf ⟨d,i,none,af⟩ s tm σ=(exI O bf i s tm σ).map fun q=>(q.1,tput tm d q.1,q.2.1,q.2.2):=by
 unfold ZS exI
 simp only [Za9]
 split
 ·cases execI O bf tm σ s i with
  | none=>rfl
  | some q=>rfl
 ·rfl
theorem ZlK (d:Option Nat) (i:Ins) (af:List Nat) (os:List AOp) (s:Nat) (tm:Tms) (σ:Za):ZaL O bf (⟨d,i,none,af⟩::os) s tm σ=kN O bf d os (s+nsite i) tm (exI O bf i s tm σ):=by
 cases h:exI O bf i s tm σ with
 | none=>exact Zio (by rw [ZiF,h];rfl)
 | some q =>
  obtain ⟨v,σ1,c⟩:=q
  have hs:ZS O bf ⟨d,i,none,af⟩ s tm σ=some (v,tput tm d v,σ1,c):=by rw [ZiF,h];rfl
  cases hp:Zas v with
  | true =>
   obtain ⟨x,rfl⟩:=ZjW hp
   exact Zmr hs
  | false =>
   rw [Zjc hs hp]
   simp only [kN,hp,Xm,if_false]
theorem ZFi (ops:List AOp) (live:List Nat) (tm:Tms) (σ:Za):ZbZ O bf ops none live tm σ=ZjC live (ZaL O bf ops σ.length tm (σ++Xx (sitesOf ops) .free)):=by
 unfold ZbZ ZaL
 cases ZX O bf ops σ.length tm (σ++Xx (sitesOf ops) .free) with
 | none=>rfl
 | some q =>
  obtain ⟨tm',σ',cs,p⟩:=q
  cases p <;> rfl
theorem Zj9 (d:Option Nat) (os:List AOp) (s:Nat) (tm:Tms) (v:AVal) (σ:Za) (c:Cls) (h:Zas v=false):kN O bf d os s tm (some (v,σ,c))=ZaL O bf os s (tput tm d v) σ:=by
 simp only [kN,h,Xm,if_false]
theorem ZBk (d:Option Nat) (os:List AOp) (s:Nat) (tm:Tms) (x:AVal) (σ:Za) (c:Cls):kN O bf d os s tm (some (.pan x,σ,c))=some (tput tm d (.pan x),σ,some x):=rfl
theorem ZFa (d:Option Nat) (os:List AOp) (s:Nat) (tm:Tms):kN O bf d os s tm none=none:=rfl
structure GOp where
 guard:Option (Nat×Bool)
 ops:List AOp
def Zz:List AOp->Tms->Tms
 | [],tm=>tm
 | o::os,tm=>Zz os (tput tm o.dst (.tup []))
def unG (o:AOp):AOp:={ o with guard:=none }
variable (O bf) in
def ZdG (j:Nat) (w:Bool) (g:List AOp) (s:Nat) (tm:Tms) (σ:Za):Option (Tms×Za×Option AVal):=match Za9 (some (j,w)) tm with
 | none=>none
 | some false=>some (Zz g tm,σ,none)
 | some true=>ZaL O bf (g.map unG) s tm σ
variable (O bf) in
def gK (os:List AOp) (s:Nat):Option (Tms×Za×Option AVal)->Option (Tms×Za×Option AVal)
 | none=>none
 | some (tm,σ,some x)=>some (tm,σ,some x)
 | some (tm,σ,none)=>ZaL O bf os s tm σ
def Zy (j:Nat) (w:Bool):List AOp->List AOp×List AOp
 | []=>([],[])
 | o::os=>match o.guard with
  | some (j',w')=>if j'=j/\w'=w/\o.dst≠some j then ((o::(Zy j w os).1),(Zy j w os).2) else ([],o::os)
  | none=>([],o::os)
theorem ZkI (j:Nat) (w:Bool):∀ os,(Zy j w os).1++(Zy j w os).2=os
 | []=>rfl
 | o::os=>by
  simp only [Zy]
  split
  ·split
   ·simp [ZkI j w os]
   ·rfl
  ·rfl
theorem Zlm (j:Nat) (w:Bool):∀ os,∀ o ∈ (Zy j w os).1,o.guard=some (j,w)/\o.dst≠some j
 | []=>by simp [Zy]
 | o::os=>by
  intro o' ho
  simp only [Zy] at ho
  split at ho
  ·rename_i j' w' hg
   split at ho
   ·rename_i hc
    rcases XA.1 ho with rfl | ho
    ·exact ⟨by rw [hg,hc.1,hc.2.1],hc.2.2⟩
    ·exact Zlm j w os o' ho
   ·simp at ho
  ·simp at ho
theorem ZvH {d:Option Nat} {v:AVal} {n:Nat} {tm:Tms} (h:d≠some n):tget (tput tm d v) n=tget tm n:=by
 cases d with
 | none=>rfl
 | some d =>
  have : d≠n:=by rintro rfl;exact h rfl
  simp only [tput,Zhy,this,if_false]
theorem Ze6 {d:Option Nat} {v:AVal} {j:Nat} {w:Bool} {tm:Tms} (h:d≠some j):Za9 (some (j,w)) (tput tm d v)=Za9 (some (j,w)) tm:=by
 simp only [Za9,ZvH h]
theorem Zo9:∀ (a b:List AOp) (s:Nat) (tm:Tms) (σ:Za),ZaL O bf (a++b) s tm σ=gK O bf b (s+sitesOf a) (ZaL O bf a s tm σ)
 | [],b,s,tm,σ=>by simp [ZqX,gK,sitesOf]
 | o::a,b,s,tm,σ=>by
  have ih:=Zo9 a b
  simp only [Wt]
  have hs:s+nsite o.ins+sitesOf a=s+sitesOf (o::a):=by simp [sitesOf,WK]
  cases hst:ZS O bf o s tm σ with
  | none=>rw [Zio hst,Zio hst];rfl
  | some q =>
   obtain ⟨v,tm1,σ1,c⟩:=q
   cases hp:Zas v with
   | true =>
    obtain ⟨x,rfl⟩:=ZjW hp
    rw [Zmr hst,Zmr hst];rfl
   | false=>rw [Zjc hst hp,Zjc hst hp,ih,hs]
theorem Zrn (j:Nat) (w:Bool):∀ (g:List AOp),(∀ o ∈ g,o.guard=some (j,w)/\o.dst≠some j)->∀ (s:Nat) (tm:Tms) (σ:Za),g≠[]->ZaL O bf g s tm σ=ZdG O bf j w g s tm σ
 | [],_,_,_,_,h=>absurd rfl h
 | o::g,hall,s,tm,σ,_=>by
  obtain ⟨hg,hd⟩:=hall o (by simp)
  have ih:∀ (tm:Tms) (σ:Za) (s:Nat),Za9 (some (j,w)) tm≠none->ZaL O bf g s tm σ=ZdG O bf j w g s tm σ:=by
   intro tm σ s hw
   by_cases he:g=[]
   ·subst he
    unfold ZdG
    cases hx:Za9 (some (j,w)) tm with
    | none=>exact absurd hx hw
    | some b=>cases b <;> rfl
   ·exact Zrn j w g (fun o ho=>hall o (by simp [ho])) s tm σ he
  cases hx:Za9 (some (j,w)) tm with
  | none =>
   rw [Zio (by simp only [ZS,hg,hx])]
   simp only [ZdG,hx]
  | some b =>
   cases b with
   | false =>
    have h1:ZaL O bf (o::g) s tm σ=ZaL O bf g (s+nsite o.ins) (tput tm o.dst (.tup [])) σ :=
     Zjc (v:=.tup []) (c:={}) (by simp only [ZS,hg,hx]) rfl
    rw [h1,ih _ _ _ (by rw [Ze6 hd,hx];simp)]
    unfold ZdG
    rw [Ze6 hd,hx]
    rfl
   | true =>
    have key:∀ r:Option (AVal×Za×Cls),(∀ v σ' c,r=some (v,σ',c)->Zas v=false->ZaL O bf g (s+nsite o.ins) (tput tm o.dst v) σ'=ZaL O bf (g.map unG) (s+nsite o.ins) (tput tm o.dst v) σ')->kN O bf o.dst g (s+nsite o.ins) tm r=kN O bf o.dst (g.map unG) (s+nsite o.ins) tm r:=by
     intro r hr
     cases r with
     | none=>rfl
     | some q =>
      obtain ⟨v,σ',c⟩:=q
      cases hp:Zas v with
      | true=>simp only [kN,hp,if_true]
      | false=>rw [Zj9 _ _ _ _ _ _ _ hp,Zj9 _ _ _ _ _ _ _ hp];exact hr v σ' c rfl hp
    have h1:ZaL O bf (o::g) s tm σ=kN O bf o.dst g (s+nsite o.ins) tm (exI O bf o.ins s tm σ):=by
     have h0:ZaL O bf (o::g) s tm σ=ZaL O bf (⟨o.dst,o.ins,none,o.after⟩::g) s tm σ:=by
      have hst:ZS O bf o s tm σ=ZS O bf ⟨o.dst,o.ins,none,o.after⟩ s tm σ:=by
       unfold ZS
       simp only [hg,hx]
       rfl
      unfold ZaL
      simp only [ZX,hst]
     rw [h0,ZlK]
    rw [h1]
    unfold ZdG
    rw [hx]
    simp only [XJ]
    rw [show unG o=⟨o.dst,o.ins,none,o.after⟩ from rfl,ZlK]
    refine key _ fun v σ' c _ _=>?_
    rw [ih _ _ _ (by rw [Ze6 hd,hx];simp)]
    unfold ZdG
    rw [Ze6 hd,hx]
theorem ZCb (d:Option Nat) (i:Ins) (j:Nat) (w:Bool) (af:List Nat) (os:List AOp) (s:Nat) (tm:Tms) (σ:Za) (hd:decide (d=some j)=false) :
  ZaL O bf (⟨d,i,some (j,w),af⟩::os) s tm σ=gK O bf (Zy j w os).2 (s+sitesOf (⟨d,i,some (j,w),af⟩::(Zy j w os).1)) (ZdG O bf j w (⟨d,i,some (j,w),af⟩::(Zy j w os).1) s tm σ):=by
 have h:=ZkI j w os
 have hall:∀ o ∈ (⟨d,i,some (j,w),af⟩::(Zy j w os).1:List AOp),o.guard=some (j,w)/\o.dst≠some j:=by
  intro o ho
  rcases XA.1 ho with rfl | ho
  ·exact ⟨rfl,by simpa using hd⟩
  ·exact Zlm j w os o ho
 rw [<-Zrn j w _ hall s tm σ (by simp),<-Zo9,Wt,h]
variable (O bf) in
def gW (w:Bool) (g:List AOp) (s:Nat) (tm:Tms) (σ:Za):AVal->Option (Tms×Za×Option AVal)
 | .bool b=>if b=w then ZaL O bf (g.map unG) s tm σ else some (Zz g tm,σ,none)
 | .tup []=>some (Zz g tm,σ,none)
 | _=>none
theorem ZtR (j:Nat) (w:Bool) (g:List AOp) (s:Nat) (tm:Tms) (σ:Za):ZdG O bf j w g s tm σ=gW O bf w g s tm σ (tget tm j):=by
 unfold ZdG Za9
 simp only
 generalize tget tm j=v
 cases v
 case bool b=>cases b <;> cases w <;> rfl
 case tup vs=>cases vs <;> rfl
 all_goals rfl
theorem ZA1 (w:Bool) (g:List AOp) (s:Nat) (tm:Tms) (σ:Za) (b:Bool):gW O bf w g s tm σ (.bool b)=if b=w then ZaL O bf (g.map unG) s tm σ else some (Zz g tm,σ,none):=rfl
theorem ZBl (w:Bool) (g:List AOp) (s:Nat) (tm:Tms) (σ:Za):gW O bf w g s tm σ (.tup [])=some (Zz g tm,σ,none):=rfl
theorem Zrr (os:List AOp) (s:Nat) (tm:Tms) (σ:Za):gK O bf os s (some (tm,σ,none))=ZaL O bf os s tm σ:=rfl
end
section
variable (c:Prop) [Decidable c]
theorem ZL {α:Type} (a b:α) (x y:List α):(if c then a::x else b::y)=(if c then a else b)::(if c then x else y):=by split <;> rfl
theorem ZE1 (k:IntKind) (a b:Int):(if c then AVal.int k a else AVal.int k b)=AVal.int k (if c then a else b):=by split <;> rfl
theorem ZAq (a b:Bool):(if c then AVal.bool a else AVal.bool b)=AVal.bool (if c then a else b):=by split <;> rfl
theorem ZwI (a b:List UInt8):(if c then AVal.str a else AVal.str b)=AVal.str (if c then a else b):=by split <;> rfl
theorem ZC9 (p q:Bool) (a b:List AVal):(if c then AVal.lst p a else AVal.lst q b)=AVal.lst (if c then p else q) (if c then a else b):=by split <;> rfl
theorem ZyE (a b:List AVal):(if c then AVal.agg a else AVal.agg b)=AVal.agg (if c then a else b):=by split <;> rfl
theorem ZuC (a b:List AVal):(if c then ZU.var a else ZU.var b)=ZU.var (if c then a else b):=by split <;> rfl
theorem ZsB (g k:Nat) (a b:List AVal):(if c then ZU.row g k a else ZU.row g k b)=ZU.row g k (if c then a else b):=by split <;> rfl
theorem Zxv (t:Nat) (a b:Nat):(if c then AVal.ref t a else AVal.ref t b)=AVal.ref t (if c then a else b):=by split <;> rfl
theorem ZI {α:Type} (x y z:α):(if c then (if c then x else y) else z)=if c then x else z:=by split <;> rfl
theorem ZJ {α:Type} (x y z:α):(if c then x else (if c then y else z))=if c then x else z:=by split <;> rfl
theorem ZM {α:Type} (x y z:α):(if c then (if ¬c then x else y) else z)=if c then y else z:=by split <;> simp_all
theorem ZK {α:Type} (x y z:α):(if c then x else (if ¬c then y else z))=if c then x else y:=by split <;> simp_all
theorem ZwQ (σ:Za) (a b:AVal) (p:Bool):ZeM σ a b (.bool p)=some (if p=true then a else b,σ,{}):=by cases p <;> rfl
theorem Ztl (a b:AVal):Zas (if c then a else b)=if c then Zas a else Zas b:=by split <;> rfl
end
section
variable {fs:Nat->Option Z8} {prim:Zdt} {bf:Nat->Bool} {m0:Nat}
theorem ZFQ (p:Bool) (a b:Zo) (tm:Tms) (σ:Za):ZhP fs prim bf m0 a b tm σ (.bool p)=if p=true then evC fs prim bf m0 a tm σ else evC fs prim bf m0 b tm σ:=by
 cases p <;> rfl
theorem ZB8 (b:Zo) (tm:Tms) (σ:Za):Za0 fs prim bf m0 b (some (.normal,tm,σ))=evC fs prim bf m0 b tm σ:=rfl
theorem Zwh (b:Zo) (i:Nat) (tm:Tms) (σ:Za):Za0 fs prim bf m0 b (some (.exit i,tm,σ))=some (.exit i,tm,σ):=rfl
theorem ZGe (b:Zo) (tm:Tms) (σ:Za):Za0 fs prim bf m0 b (some (.ret,tm,σ))=some (.ret,tm,σ):=rfl
theorem ZzU (b:Zo) (x:AVal) (tm:Tms) (σ:Za):Za0 fs prim bf m0 b (some (.panic x,tm,σ))=some (.panic x,tm,σ):=rfl
theorem Ztv (c:Prop) [Decidable c] (b:Zo) (x y:Option (ZY×Tms×Za)):Za0 fs prim bf m0 b (if c then x else y)=if c then Za0 fs prim bf m0 b x else Za0 fs prim bf m0 b y:=by split <;> rfl
theorem Zs7 (id:Nat) (tm:Tms) (σ:Za):Wx (ZaG id) (some (.normal,tm,σ))=some (.normal,tm,σ):=rfl
theorem ZCk (id i:Nat) (tm:Tms) (σ:Za):Wx (ZaG id) (some (.exit i,tm,σ))=if i=id then some (.normal,tm,σ) else some (.exit i,tm,σ):=by
 simp only [XS,ZaG];split <;> rfl
theorem Zy4 (id:Nat) (tm:Tms) (σ:Za):Wx (ZaG id) (some (.ret,tm,σ))=some (.ret,tm,σ):=rfl
theorem ZBG (id:Nat) (x:AVal) (tm:Tms) (σ:Za):Wx (ZaG id) (some (.panic x,tm,σ))=some (.panic x,tm,σ):=rfl
theorem ZvR (id:Nat) (c:Prop) [Decidable c] (x y:Option (ZY×Tms×Za)):Wx (ZaG id) (if c then x else y)=if c then Wx (ZaG id) x else Wx (ZaG id) y:=by split <;> rfl
theorem ZEg (m:Nat) (fn:Z8) (c:Prop) [Decidable c] (x y:Option (ZY×Tms×Za)):ZaD m fn (if c then x else y)=if c then ZaD m fn x else ZaD m fn y:=by split <;> rfl
end
section
variable {fs:Nat->Option Z8} {prim:Zdt} {bf:Nat->Bool} {m0:Nat}
theorem ZCR {live:List Nat} {c:Zo} {tm tm':Tms} {σ σ':Za} (h:evC fs prim bf m0 c tm σ=some (.normal,tm',σ')):evL fs prim bf m0 live c tm σ=evL fs prim bf m0 live c (gcT m0 (keepL live tm') σ').1 (gcT m0 (keepL live tm') σ').2:=by
 unfold evL
 rw [h]
 simp only
 rw [Zo2]
 rfl
theorem ZtX {live:List Nat} {c:Zo} {tm tm':Tms} {σ σ':Za} {i:Nat} (h:evC fs prim bf m0 c tm σ=some (.exit i,tm',σ')):evL fs prim bf m0 live c tm σ=some (.exit i,tm',σ'):=by
 unfold evL;rw [h]
theorem ZGp {live:List Nat} {c:Zo} {tm tm':Tms} {σ σ':Za} (h:evC fs prim bf m0 c tm σ=some (.ret,tm',σ')):evL fs prim bf m0 live c tm σ=some (.ret,tm',σ'):=by
 unfold evL;rw [h]
variable (fs prim bf m0) in
noncomputable def evM (live:List Nat) (c:Zo):Option (ZY×Tms×Za)->Option (ZY×Tms×Za)
 | some (.normal,tm,σ)=>evL fs prim bf m0 live c (gcT m0 (keepL live tm) σ).1 (gcT m0 (keepL live tm) σ).2
 | r=>r
theorem Z7 (live:List Nat) (c:Zo) (tm:Tms) (σ:Za):evL fs prim bf m0 live c tm σ=evM fs prim bf m0 live c (evC fs prim bf m0 c tm σ):=by
 cases h:evC fs prim bf m0 c tm σ with
 | none=>unfold evL;rw [h];rfl
 | some q =>
  obtain ⟨e,tm',σ'⟩:=q
  cases e with
  | normal=>exact ZCR h
  | exit i=>exact ZtX h
  | ret=>exact ZGp h
  | panic x=>unfold evL;rw [h];rfl
theorem ZE7 (live:List Nat) (c:Zo) (tm:Tms) (σ:Za):evM fs prim bf m0 live c (some (.normal,tm,σ))=evL fs prim bf m0 live c (gcT m0 (keepL live tm) σ).1 (gcT m0 (keepL live tm) σ).2:=rfl
theorem ZvA (live:List Nat) (c:Zo) (i:Nat) (tm:Tms) (σ:Za):evM fs prim bf m0 live c (some (.exit i,tm,σ))=some (.exit i,tm,σ):=rfl
theorem ZzD (live:List Nat) (c:Zo) (tm:Tms) (σ:Za):evM fs prim bf m0 live c (some (.ret,tm,σ))=some (.ret,tm,σ):=rfl
theorem ZFe (live:List Nat) (c:Zo) (x:AVal) (tm:Tms) (σ:Za):evM fs prim bf m0 live c (some (.panic x,tm,σ))=some (.panic x,tm,σ):=rfl
theorem ZA0 (live:List Nat) (b:Zo) (c:Prop) [Decidable c] (x y:Option (ZY×Tms×Za)):evM fs prim bf m0 live b (if c then x else y)=if c then evM fs prim bf m0 live b x else evM fs prim bf m0 live b y:=by split <;> rfl
end
def ZaB:AVal->Bool
 | .int _ _=>true
 | .bool _=>true
 | .str _=>true
 | .nilp=>true
 | .nilm=>true
 | .nili=>true
 | .lst _ _=>true
 | .fn _ []=>true
 | _=>false
def Zaq:AVal->Bool
 | .agg cs=>cs.all ZaB
 | x=>ZaB x
def ZaI:AVal->AVal
 | .lst _ xs=>.lst false xs
 | x=>x
def Zaf:AVal->AVal
 | .agg cs=>.agg (cs.map ZaI)
 | x=>ZaI x
theorem ZoX {σ:Za} {x:AVal} (h:ZaB x=true):Zcz σ x=some (ZaI x,[]):=by
 cases x <;> first | (simp [ZaB] at h;done) | rfl
theorem Zn8 {σ:Za}:∀ {xs:List AVal},xs.all ZaB=true->Zcn σ xs=some (xs.map ZaI,[])
 | [],_=>rfl
 | x::xs,h=>by
  simp only [XE,Xp] at h
  simp only [Zcn,ZoX h.1,Zn8 h.2,XJ,XO]
theorem ZgS {x:AVal} (h:∀ cs,x≠.agg cs):Zaq x=ZaB x/\Zaf x=ZaI x:=by
 cases x <;> first | exact ⟨rfl,rfl⟩ | exact absurd rfl (h _)
theorem ZBy {σ:Za} {x:AVal} (h:∀ cs,x≠.agg cs):showA σ x=Zcz σ x:=by
 cases x <;> first | rfl | exact absurd rfl (h _)
theorem ZmM (x:AVal):(∃ cs,x=.agg cs)\/∀ cs,x≠.agg cs:=by
 cases x <;> first | exact Xs ⟨_,rfl⟩ | (right;intro cs;simp)
theorem Zrs {σ:Za} {x:AVal} (h:Zaq x=true):showA σ x=some (Zaf x,[]):=by
 rcases ZmM x with ⟨cs,rfl⟩ | hn
 ·simp only [Zaq] at h
  simp only [showA,Zn8 h,Zaf]
 ·rw [(ZgS hn).1] at h
  rw [ZBy hn,(ZgS hn).2]
  exact ZoX h
theorem Zjp {σ:Za}:∀ {xs:List AVal},xs.all Zaq=true->showAs σ xs=some (xs.map Zaf,[])
 | [],_=>rfl
 | x::xs,h=>by
  simp only [XE,Xp] at h
  simp only [showAs,Zrs h.1,Zjp h.2,XJ,XO]
theorem Zo4 {x:AVal} (h:ZaB x=true):Zan (ZaI x)=[]:=by
 cases x
 case fn f cs=>cases cs <;> simp [ZaB] at h;rfl
 all_goals first | (simp [ZaB] at h;done) | rfl
theorem ZoI:∀ {xs:List AVal},xs.all ZaB=true->Z4 (xs.map ZaI)=[]
 | [],_=>rfl
 | x::xs,h=>by
  simp only [XE,Xp] at h
  simp only [XJ,Z4,Zo4 h.1,ZoI h.2,XO]
theorem ZxP {x:AVal} (h:Zaq x=true):Zan (Zaf x)=[]:=by
 rcases ZmM x with ⟨cs,rfl⟩ | hn
 ·simp only [Zaq] at h
  simp only [Zaf,Zan];exact ZoI h
 ·rw [(ZgS hn).1] at h
  rw [(ZgS hn).2];exact Zo4 h
theorem Zg1:∀ {xs:List AVal},xs.all Zaq=true->Z4 (xs.map Zaf)=[]
 | [],_=>rfl
 | x::xs,h=>by
  simp only [XE,Xp] at h
  simp only [XJ,Z4,ZxP h.1,Zg1 h.2,XO]
theorem Zqs {ρ:Rho} {x:AVal} (h:ZaB x=true):ZP ρ (ZaI x)=ZaI x:=by
 cases x
 case fn f cs=>cases cs <;> simp [ZaB] at h;rfl
 all_goals first | (simp [ZaB] at h;done) | rfl
theorem ZqU {ρ:Rho}:∀ {xs:List AVal},xs.all ZaB=true->ZZ ρ (xs.map ZaI)=xs.map ZaI
 | [],_=>rfl
 | x::xs,h=>by
  simp only [XE,Xp] at h
  simp only [XJ,ZZ,Zqs h.1,ZqU h.2]
theorem ZFI {ρ:Rho} {x:AVal} (h:Zaq x=true):ZP ρ (Zaf x)=Zaf x:=by
 rcases ZmM x with ⟨cs,rfl⟩ | hn
 ·simp only [Zaq] at h
  simp only [Zaf,ZP];rw [ZqU h]
 ·rw [(ZgS hn).1] at h
  rw [(ZgS hn).2];exact Zqs h
theorem Zha {ρ:Rho}:∀ {xs:List AVal},xs.all Zaq=true->ZZ ρ (xs.map Zaf)=xs.map Zaf
 | [],_=>rfl
 | x::xs,h=>by
  simp only [XE,Xp] at h
  simp only [XJ,ZZ,ZFI h.1,Zha h.2]
theorem Zm6 {O:ZW} {bf:Nat->Bool} {σ:Za} {sq f own:Nat} {view:Bool} {args:List AVal} (hb:bf f=false) (h:args.all Zaq=true) :
  ZT O bf σ sq f own view args=Zay σ σ [] [] sq own (Zau view 0 (O f (args.map Zaf) [])):=by
 unfold ZT Zcm
 rw [hb]
 simp only [Xm,if_false,Zjp h]
 have h1:ZR σ []=σ:=rfl
 rw [h1,Zg1 h]
 have h2:Zm σ 1000 [] []=[]:=rfl
 rw [h2]
 unfold Zbv
 simp only [List.all_nil,if_true,Zha h,Zl,XF]
theorem ZlH (σ:Za) (sq own:Nat) (r:AVal) (h:ZP (ZaS [] [] sq) r=r):Zay σ σ [] [] sq own (some (r,[]))=some (r,σ,{}):=by
 simp only [Zay,List.isEmpty_nil,WV,if_true,Zdw,Bool.not_true,Bool.false_and,Xm,if_false]
 split
 ·rfl
 ·rw [h]
end
section
section
variable (ρ:Rho) (σ:Za)
theorem ZDV  : Zas (.top)=false:=rfl
theorem Zzj  : Zas (.any)=false:=rfl
theorem ZAn (k:IntKind) (n:Int):Zas (.int k n)=false:=rfl
theorem ZAQ (b:Bool):Zas (.bool b)=false:=rfl
theorem ZxU (l:List UInt8):Zas (.str l)=false:=rfl
theorem ZEi  : Zas (.nilp)=false:=rfl
theorem ZzM (t:Nat) (o:Nat):Zas (.ref t o)=false:=rfl
theorem ZAW (t:Nat) (g:Nat) (i:Nat) (o:Nat):Zas (.eref t g i o)=false:=rfl
theorem Zv6 (cs:List AVal) (o:Nat):Zas (.iptr cs o)=false:=rfl
theorem ZEr (x:Bool) (xs:List AVal):Zas (.lst x xs)=false:=rfl
theorem Zsl (t:Nat) (g:Nat) (lo:Nat) (n:Nat):Zas (.sl t g lo n)=false:=rfl
theorem ZEQ (cs:List AVal):Zas (.agg cs)=false:=rfl
theorem ZDC (vs:List AVal):Zas (.tup vs)=false:=rfl
theorem ZEw (f:Nat) (caps:List AVal):Zas (.fn f caps)=false:=rfl
theorem Zzu  : Zas (.nilm)=false:=rfl
theorem ZDl (t:Nat):Zas (.map t)=false:=rfl
theorem Zua  : Zas (.nili)=false:=rfl
theorem ZFY (t:Nat) (x:AVal):Zas (.iface t x)=false:=rfl
theorem Zr0 (x:AVal):Zas (.pan x)=true:=rfl
theorem Zxs  : Z1 (.top)=false:=rfl
theorem ZFf  : Z1 (.any)=true:=rfl
theorem ZFK (k:IntKind) (n:Int):Z1 (.int k n)=true:=rfl
theorem ZAM (b:Bool):Z1 (.bool b)=true:=rfl
theorem Zu9 (l:List UInt8):Z1 (.str l)=true:=rfl
theorem Zum  : Z1 (.nilp)=true:=rfl
theorem ZBM (t:Nat) (o:Nat):Z1 (.ref t o)=true:=rfl
theorem ZBo (t:Nat) (g:Nat) (i:Nat) (o:Nat):Z1 (.eref t g i o)=true:=rfl
theorem ZDZ (cs:List AVal) (o:Nat):Z1 (.iptr cs o)=true:=rfl
theorem Zzt (x:Bool) (xs:List AVal):Z1 (.lst x xs)=true:=rfl
theorem ZBm (t:Nat) (g:Nat) (lo:Nat) (n:Nat):Z1 (.sl t g lo n)=true:=rfl
theorem ZzL (cs:List AVal):Z1 (.agg cs)=false:=rfl
theorem ZDz (vs:List AVal):Z1 (.tup vs)=false:=rfl
theorem ZF4 (f:Nat) (caps:List AVal):Z1 (.fn f caps)=true:=rfl
theorem Zwr  : Z1 (.nilm)=true:=rfl
theorem Zt7 (t:Nat):Z1 (.map t)=true:=rfl
theorem ZAL  : Z1 (.nili)=true:=rfl
theorem ZuQ (t:Nat) (x:AVal):Z1 (.iface t x)=true:=rfl
theorem ZB7 (x:AVal):Z1 (.pan x)=false:=rfl
theorem ZGq  : Zbj (.top)=false:=rfl
theorem Zwm  : Zbj (.any)=true:=rfl
theorem Zxi (k:IntKind) (n:Int):Zbj (.int k n)=true:=rfl
theorem Zwi (b:Bool):Zbj (.bool b)=true:=rfl
theorem Zsk (l:List UInt8):Zbj (.str l)=true:=rfl
theorem ZFR  : Zbj (.nilp)=true:=rfl
theorem ZAT (t:Nat) (o:Nat):Zbj (.ref t o)=true:=rfl
theorem Zvd (t:Nat) (g:Nat) (i:Nat) (o:Nat):Zbj (.eref t g i o)=true:=rfl
theorem Ztf (cs:List AVal) (o:Nat):Zbj (.iptr cs o)=true:=rfl
theorem Zvq (x:Bool) (xs:List AVal):Zbj (.lst x xs)=true:=rfl
theorem ZGn (t:Nat) (g:Nat) (lo:Nat) (n:Nat):Zbj (.sl t g lo n)=true:=rfl
theorem ZrX (cs:List AVal):Zbj (.agg cs)=true:=rfl
theorem Zse (vs:List AVal):Zbj (.tup vs)=true:=rfl
theorem ZEM (f:Nat) (caps:List AVal):Zbj (.fn f caps)=true:=rfl
theorem Zs3  : Zbj (.nilm)=true:=rfl
theorem ZBr (t:Nat):Zbj (.map t)=true:=rfl
theorem ZxC  : Zbj (.nili)=true:=rfl
theorem ZuK (t:Nat) (x:AVal):Zbj (.iface t x)=true:=rfl
theorem Zyn (x:AVal):Zbj (.pan x)=true:=rfl
theorem ZtH  : ZaJ (.top)=false:=rfl
theorem ZCa  : ZaJ (.any)=false:=rfl
theorem ZF9 (k:IntKind) (n:Int):ZaJ (.int k n)=true:=rfl
theorem ZsZ (b:Bool):ZaJ (.bool b)=true:=rfl
theorem ZBa (l:List UInt8):ZaJ (.str l)=true:=rfl
theorem ZCX  : ZaJ (.nilp)=true:=rfl
theorem Zv5 (t:Nat) (o:Nat):ZaJ (.ref t o)=false:=rfl
theorem ZAx (t:Nat) (g:Nat) (i:Nat) (o:Nat):ZaJ (.eref t g i o)=false:=rfl
theorem Zvh (cs:List AVal) (o:Nat):ZaJ (.iptr cs o)=false:=rfl
theorem ZFG (x:Bool) (xs:List AVal):ZaJ (.lst x xs)=false:=rfl
theorem ZwV (t:Nat) (g:Nat) (lo:Nat) (n:Nat):ZaJ (.sl t g lo n)=false:=rfl
theorem ZFz (cs:List AVal):ZaJ (.agg cs)=false:=rfl
theorem Zt5 (vs:List AVal):ZaJ (.tup vs)=false:=rfl
theorem Zzc (f:Nat) (caps:List AVal):ZaJ (.fn f caps)=false:=rfl
theorem ZsL  : ZaJ (.nilm)=true:=rfl
theorem ZEI (t:Nat):ZaJ (.map t)=false:=rfl
theorem ZC3  : ZaJ (.nili)=true:=rfl
theorem Zy0 (t:Nat) (x:AVal):ZaJ (.iface t x)=false:=rfl
theorem Zsz (x:AVal):ZaJ (.pan x)=false:=rfl
theorem Zrx  : ZaU (.top)=false:=rfl
theorem ZBz  : ZaU (.any)=false:=rfl
theorem ZF1 (k:IntKind) (n:Int):ZaU (.int k n)=true:=rfl
theorem ZvU (b:Bool):ZaU (.bool b)=true:=rfl
theorem ZEc (l:List UInt8):ZaU (.str l)=true:=rfl
theorem ZvB  : ZaU (.nilp)=true:=rfl
theorem ZDK (t:Nat) (o:Nat):ZaU (.ref t o)=false:=rfl
theorem ZwS (t:Nat) (g:Nat) (i:Nat) (o:Nat):ZaU (.eref t g i o)=false:=rfl
theorem Zx6 (cs:List AVal) (o:Nat):ZaU (.iptr cs o)=false:=rfl
theorem Zwd (x:Bool) (xs:List AVal):ZaU (.lst x xs)=false:=rfl
theorem ZFg (t:Nat) (g:Nat) (lo:Nat) (n:Nat):ZaU (.sl t g lo n)=false:=rfl
theorem Zy5 (cs:List AVal):ZaU (.agg cs)=cs.all ZaJ:=rfl
theorem ZCm (vs:List AVal):ZaU (.tup vs)=false:=rfl
theorem Zyd (f:Nat) (caps:List AVal):ZaU (.fn f caps)=false:=rfl
theorem Zsr  : ZaU (.nilm)=true:=rfl
theorem ZCr (t:Nat):ZaU (.map t)=false:=rfl
theorem Zti  : ZaU (.nili)=true:=rfl
theorem Zun (t:Nat) (x:AVal):ZaU (.iface t x)=false:=rfl
theorem ZFs (x:AVal):ZaU (.pan x)=false:=rfl
theorem ZDG  : ZaW (.top)=false:=rfl
theorem ZyJ  : ZaW (.any)=false:=rfl
theorem Zu8 (k:IntKind) (n:Int):ZaW (.int k n)=true:=rfl
theorem ZE9 (b:Bool):ZaW (.bool b)=true:=rfl
theorem ZxK (l:List UInt8):ZaW (.str l)=true:=rfl
theorem ZFd  : ZaW (.nilp)=true:=rfl
theorem ZuZ (t:Nat) (o:Nat):ZaW (.ref t o)=false:=rfl
theorem ZBK (t:Nat) (g:Nat) (i:Nat) (o:Nat):ZaW (.eref t g i o)=false:=rfl
theorem Zw8 (cs:List AVal) (o:Nat):ZaW (.iptr cs o)=false:=rfl
theorem ZDv (x:Bool) (xs:List AVal):ZaW (.lst x xs)=false:=rfl
theorem ZBn (t:Nat) (g:Nat) (lo:Nat) (n:Nat):ZaW (.sl t g lo n)=false:=rfl
theorem ZsM (cs:List AVal):ZaW (.agg cs)=cs.all ZaJ:=rfl
theorem Zsy (vs:List AVal):ZaW (.tup vs)=vs.all ZaU:=rfl
theorem ZEo (f:Nat) (caps:List AVal):ZaW (.fn f caps)=false:=rfl
theorem Zwf  : ZaW (.nilm)=true:=rfl
theorem ZzI (t:Nat):ZaW (.map t)=false:=rfl
theorem ZAK  : ZaW (.nili)=true:=rfl
theorem Zur (t:Nat) (x:AVal):ZaW (.iface t x)=false:=rfl
theorem Zvf  : ZaB (.top)=false:=rfl
theorem ZuS  : ZaB (.any)=false:=rfl
theorem Zrz (k:IntKind) (n:Int):ZaB (.int k n)=true:=rfl
theorem ZwE (b:Bool):ZaB (.bool b)=true:=rfl
theorem ZAP (l:List UInt8):ZaB (.str l)=true:=rfl
theorem ZBt  : ZaB (.nilp)=true:=rfl
theorem ZtL (t:Nat) (o:Nat):ZaB (.ref t o)=false:=rfl
theorem ZzY (t:Nat) (g:Nat) (i:Nat) (o:Nat):ZaB (.eref t g i o)=false:=rfl
theorem Zx7 (cs:List AVal) (o:Nat):ZaB (.iptr cs o)=false:=rfl
theorem ZGg (x:Bool) (xs:List AVal):ZaB (.lst x xs)=true:=rfl
theorem Zyv (t:Nat) (g:Nat) (lo:Nat) (n:Nat):ZaB (.sl t g lo n)=false:=rfl
theorem ZDw (cs:List AVal):ZaB (.agg cs)=false:=rfl
theorem ZzB (vs:List AVal):ZaB (.tup vs)=false:=rfl
theorem Zv1  : ZaB (.nilm)=true:=rfl
theorem Ztu (t:Nat):ZaB (.map t)=false:=rfl
theorem ZF7  : ZaB (.nili)=true:=rfl
theorem Zwx (t:Nat) (x:AVal):ZaB (.iface t x)=false:=rfl
theorem ZAE (x:AVal):ZaB (.pan x)=false:=rfl
theorem Zyb  : Zaq (.top)=false:=rfl
theorem ZBA  : Zaq (.any)=false:=rfl
theorem ZFo (k:IntKind) (n:Int):Zaq (.int k n)=true:=rfl
theorem ZxM (b:Bool):Zaq (.bool b)=true:=rfl
theorem ZGo (l:List UInt8):Zaq (.str l)=true:=rfl
theorem ZtI  : Zaq (.nilp)=true:=rfl
theorem Zz1 (t:Nat) (o:Nat):Zaq (.ref t o)=false:=rfl
theorem Zu7 (t:Nat) (g:Nat) (i:Nat) (o:Nat):Zaq (.eref t g i o)=false:=rfl
theorem ZFB (cs:List AVal) (o:Nat):Zaq (.iptr cs o)=false:=rfl
theorem ZES (x:Bool) (xs:List AVal):Zaq (.lst x xs)=true:=rfl
theorem Zsu (t:Nat) (g:Nat) (lo:Nat) (n:Nat):Zaq (.sl t g lo n)=false:=rfl
theorem ZtM (cs:List AVal):Zaq (.agg cs)=cs.all ZaB:=rfl
theorem ZCv (vs:List AVal):Zaq (.tup vs)=false:=rfl
theorem Zs2  : Zaq (.nilm)=true:=rfl
theorem ZB1 (t:Nat):Zaq (.map t)=false:=rfl
theorem ZzC  : Zaq (.nili)=true:=rfl
theorem ZCu (t:Nat) (x:AVal):Zaq (.iface t x)=false:=rfl
theorem ZwO (x:AVal):Zaq (.pan x)=false:=rfl
theorem ZBf  : ZaI (.top)=(.top):=rfl
theorem Zvr  : ZaI (.any)=(.any):=rfl
theorem ZDi (k:IntKind) (n:Int):ZaI (.int k n)=(.int k n):=rfl
theorem ZvP (b:Bool):ZaI (.bool b)=(.bool b):=rfl
theorem Ztn (l:List UInt8):ZaI (.str l)=(.str l):=rfl
theorem ZrF  : ZaI (.nilp)=(.nilp):=rfl
theorem ZxL (t:Nat) (o:Nat):ZaI (.ref t o)=(.ref t o):=rfl
theorem ZtP (t:Nat) (g:Nat) (i:Nat) (o:Nat):ZaI (.eref t g i o)=(.eref t g i o):=rfl
theorem ZCy (cs:List AVal) (o:Nat):ZaI (.iptr cs o)=(.iptr cs o):=rfl
theorem Zvv (x:Bool) (xs:List AVal):ZaI (.lst x xs)=.lst false xs:=rfl
theorem ZxF (t:Nat) (g:Nat) (lo:Nat) (n:Nat):ZaI (.sl t g lo n)=(.sl t g lo n):=rfl
theorem Zyy (cs:List AVal):ZaI (.agg cs)=(.agg cs):=rfl
theorem Zuq (vs:List AVal):ZaI (.tup vs)=(.tup vs):=rfl
theorem Zwt (f:Nat) (caps:List AVal):ZaI (.fn f caps)=(.fn f caps):=rfl
theorem Zvs  : ZaI (.nilm)=(.nilm):=rfl
theorem Zy3 (t:Nat):ZaI (.map t)=(.map t):=rfl
theorem ZBL  : ZaI (.nili)=(.nili):=rfl
theorem ZFX (t:Nat) (x:AVal):ZaI (.iface t x)=(.iface t x):=rfl
theorem Zzs (x:AVal):ZaI (.pan x)=(.pan x):=rfl
theorem ZvL  : Zaf (.top)=(.top):=rfl
theorem ZDT  : Zaf (.any)=(.any):=rfl
theorem ZwM (k:IntKind) (n:Int):Zaf (.int k n)=(.int k n):=rfl
theorem ZDs (b:Bool):Zaf (.bool b)=(.bool b):=rfl
theorem ZyC (l:List UInt8):Zaf (.str l)=(.str l):=rfl
theorem ZCQ  : Zaf (.nilp)=(.nilp):=rfl
theorem Zx0 (t:Nat) (o:Nat):Zaf (.ref t o)=(.ref t o):=rfl
theorem Zuy (t:Nat) (g:Nat) (i:Nat) (o:Nat):Zaf (.eref t g i o)=(.eref t g i o):=rfl
theorem Zwj (cs:List AVal) (o:Nat):Zaf (.iptr cs o)=(.iptr cs o):=rfl
theorem ZAr (x:Bool) (xs:List AVal):Zaf (.lst x xs)=.lst false xs:=rfl
theorem ZFU (t:Nat) (g:Nat) (lo:Nat) (n:Nat):Zaf (.sl t g lo n)=(.sl t g lo n):=rfl
theorem ZxN (cs:List AVal):Zaf (.agg cs)=.agg (cs.map ZaI):=rfl
theorem Zrq (vs:List AVal):Zaf (.tup vs)=(.tup vs):=rfl
theorem ZwR (f:Nat) (caps:List AVal):Zaf (.fn f caps)=(.fn f caps):=rfl
theorem Zvk  : Zaf (.nilm)=(.nilm):=rfl
theorem ZD7 (t:Nat):Zaf (.map t)=(.map t):=rfl
theorem Zyo  : Zaf (.nili)=(.nili):=rfl
theorem ZEx (t:Nat) (x:AVal):Zaf (.iface t x)=(.iface t x):=rfl
theorem ZD8 (x:AVal):Zaf (.pan x)=(.pan x):=rfl
theorem Zs4  : AVal.cells (.top)=[(.top)]:=rfl
theorem ZDP  : AVal.cells (.any)=[(.any)]:=rfl
theorem Zsw (k:IntKind) (n:Int):AVal.cells (.int k n)=[(.int k n)]:=rfl
theorem ZDr (b:Bool):AVal.cells (.bool b)=[(.bool b)]:=rfl
theorem Zu5 (l:List UInt8):AVal.cells (.str l)=[(.str l)]:=rfl
theorem ZuR  : AVal.cells (.nilp)=[(.nilp)]:=rfl
theorem Zwo (t:Nat) (o:Nat):AVal.cells (.ref t o)=[(.ref t o)]:=rfl
theorem ZtF (t:Nat) (g:Nat) (i:Nat) (o:Nat):AVal.cells (.eref t g i o)=[(.eref t g i o)]:=rfl
theorem Ztq (cs:List AVal) (o:Nat):AVal.cells (.iptr cs o)=[(.iptr cs o)]:=rfl
theorem Zys (x:Bool) (xs:List AVal):AVal.cells (.lst x xs)=[(.lst x xs)]:=rfl
theorem ZuA (t:Nat) (g:Nat) (lo:Nat) (n:Nat):AVal.cells (.sl t g lo n)=[(.sl t g lo n)]:=rfl
theorem Zt6 (cs:List AVal):AVal.cells (.agg cs)=cs:=rfl
theorem ZwC (vs:List AVal):AVal.cells (.tup vs)=[(.tup vs)]:=rfl
theorem ZxW (f:Nat) (caps:List AVal):AVal.cells (.fn f caps)=[(.fn f caps)]:=rfl
theorem ZAo  : AVal.cells (.nilm)=[(.nilm)]:=rfl
theorem Zyr (t:Nat):AVal.cells (.map t)=[(.map t)]:=rfl
theorem Zs8  : AVal.cells (.nili)=[(.nili)]:=rfl
theorem ZFk (t:Nat) (x:AVal):AVal.cells (.iface t x)=[(.iface t x)]:=rfl
theorem Zxx (x:AVal):AVal.cells (.pan x)=[(.pan x)]:=rfl
theorem ZCd  : Zav (.top)=(.top):=rfl
theorem Zuk  : Zav (.any)=(.any):=rfl
theorem ZzK (k:IntKind) (n:Int):Zav (.int k n)=(.int k n):=rfl
theorem ZCx (b:Bool):Zav (.bool b)=(.bool b):=rfl
theorem ZEX (l:List UInt8):Zav (.str l)=(.str l):=rfl
theorem ZFn  : Zav (.nilp)=(.nilp):=rfl
theorem ZvZ (t:Nat) (o:Nat):Zav (.ref t o)=(.ref t o):=rfl
theorem ZFE (t:Nat) (g:Nat) (i:Nat) (o:Nat):Zav (.eref t g i o)=(.eref t g i o):=rfl
theorem ZEu (cs:List AVal) (o:Nat):Zav (.iptr cs o)=(.iptr cs o):=rfl
theorem Zv7 (x:Bool) (xs:List AVal):Zav (.lst x xs)=(.lst x xs):=rfl
theorem ZAp (t:Nat) (g:Nat) (lo:Nat) (n:Nat):Zav (.sl t g lo n)=(.sl t g lo n):=rfl
theorem ZCt (cs:List AVal):Zav (.agg cs)=(.agg cs):=rfl
theorem Zzm (vs:List AVal):Zav (.tup vs)=(.tup vs):=rfl
theorem ZyK (f:Nat) (caps:List AVal):Zav (.fn f caps)=(.fn f caps):=rfl
theorem ZEB  : Zav (.nilm)=(.nilm):=rfl
theorem ZDA (t:Nat):Zav (.map t)=(.map t):=rfl
theorem Zz2  : Zav (.nili)=(.nili):=rfl
theorem Zyl (t:Nat) (x:AVal):Zav (.iface t x)=(.iface t x):=rfl
theorem ZE5 (x:AVal):Zav (.pan x)=x:=rfl
theorem Zst  : Zai (.top)=4:=rfl
theorem Zru  : Zai (.any)=4:=rfl
theorem ZEO (k:IntKind) (n:Int):Zai (.int k n)=0:=rfl
theorem Zwg (b:Bool):Zai (.bool b)=1:=rfl
theorem ZyO (l:List UInt8):Zai (.str l)=2:=rfl
theorem Zue  : Zai (.nilp)=4:=rfl
theorem Zxc (t:Nat) (o:Nat):Zai (.ref t o)=4:=rfl
theorem Zz5 (t:Nat) (g:Nat) (i:Nat) (o:Nat):Zai (.eref t g i o)=4:=rfl
theorem ZvM (cs:List AVal) (o:Nat):Zai (.iptr cs o)=4:=rfl
theorem Zsg (x:Bool) (xs:List AVal):Zai (.lst x xs)=4:=rfl
theorem ZGi (t:Nat) (g:Nat) (lo:Nat) (n:Nat):Zai (.sl t g lo n)=4:=rfl
theorem ZtS (cs:List AVal):Zai (.agg cs)=4:=rfl
theorem ZBF (vs:List AVal):Zai (.tup vs)=4:=rfl
theorem ZtE (f:Nat) (caps:List AVal):Zai (.fn f caps)=4:=rfl
theorem ZGc  : Zai (.nilm)=4:=rfl
theorem ZD2 (t:Nat):Zai (.map t)=4:=rfl
theorem ZCF  : Zai (.nili)=4:=rfl
theorem ZCs (t:Nat) (x:AVal):Zai (.iface t x)=4:=rfl
theorem ZyD (x:AVal):Zai (.pan x)=4:=rfl
theorem ZwH  : Zan (.top)=[]:=rfl
theorem Ztk  : Zan (.any)=[]:=rfl
theorem ZFW (k:IntKind) (n:Int):Zan (.int k n)=[]:=rfl
theorem Zul (b:Bool):Zan (.bool b)=[]:=rfl
theorem ZB2 (l:List UInt8):Zan (.str l)=[]:=rfl
theorem Zyj  : Zan (.nilp)=[]:=rfl
theorem Zvj (t:Nat) (o:Nat):Zan (.ref t o)=[t]:=rfl
theorem ZzR (t:Nat) (g:Nat) (i:Nat) (o:Nat):Zan (.eref t g i o)=[t]:=rfl
theorem ZwP (cs:List AVal) (o:Nat):Zan (.iptr cs o)=[]:=rfl
theorem ZEW (x:Bool) (xs:List AVal):Zan (.lst x xs)=[]:=rfl
theorem ZwJ (t:Nat) (g:Nat) (lo:Nat) (n:Nat):Zan (.sl t g lo n)=[t]:=rfl
theorem ZvI (cs:List AVal):Zan (.agg cs)=Z4 cs:=rfl
theorem ZtG (vs:List AVal):Zan (.tup vs)=Z4 vs:=rfl
theorem ZCG (f:Nat) (caps:List AVal):Zan (.fn f caps)=Z4 caps:=rfl
theorem ZFA  : Zan (.nilm)=[]:=rfl
theorem ZvX (t:Nat):Zan (.map t)=[t]:=rfl
theorem ZEs  : Zan (.nili)=[]:=rfl
theorem ZzE (t:Nat) (x:AVal):Zan (.iface t x)=Zan x:=rfl
theorem Zvy (x:AVal):Zan (.pan x)=Zan x:=rfl
theorem ZAX  : ZP ρ (.top)=(.top):=rfl
theorem Ztm  : ZP ρ (.any)=(.any):=rfl
theorem ZsI (k:IntKind) (n:Int):ZP ρ (.int k n)=(.int k n):=rfl
theorem Zyh (b:Bool):ZP ρ (.bool b)=(.bool b):=rfl
theorem ZrC (l:List UInt8):ZP ρ (.str l)=(.str l):=rfl
theorem ZEJ  : ZP ρ (.nilp)=(.nilp):=rfl
theorem ZCM (cs:List AVal) (o:Nat):ZP ρ (.iptr cs o)=(.iptr cs o):=rfl
theorem ZvE (x:Bool) (xs:List AVal):ZP ρ (.lst x xs)=(.lst x xs):=rfl
theorem ZrQ (cs:List AVal):ZP ρ (.agg cs)=.agg (ZZ ρ cs):=rfl
theorem ZFC (vs:List AVal):ZP ρ (.tup vs)=.tup (ZZ ρ vs):=rfl
theorem Zwn (f:Nat) (caps:List AVal):ZP ρ (.fn f caps)=.fn f (ZZ ρ caps):=rfl
theorem ZDm  : ZP ρ (.nilm)=(.nilm):=rfl
theorem Zt9  : ZP ρ (.nili)=(.nili):=rfl
theorem ZDR (t:Nat) (x:AVal):ZP ρ (.iface t x)=.iface t (ZP ρ x):=rfl
theorem ZCc (x:AVal):ZP ρ (.pan x)=.pan (ZP ρ x):=rfl
theorem ZDH (f:Nat):ZaB (.fn f [])=true:=rfl
theorem ZFp (f:Nat):Zaq (.fn f [])=true:=rfl
theorem ZvV (t:Nat) (x:AVal):ZaW (.pan (.iface t x))=ZaJ x:=rfl
theorem ZEp (live:List Nat) (tm:Tms):ZjC live (some (tm,σ,none))=some (.normal,keepL live tm,σ):=rfl
theorem Zuo (live:List Nat) (tm:Tms) (x:AVal):ZjC live (some (tm,σ,some x))=some (.panic x,[],σ):=rfl
theorem ZBi (live:List Nat):ZjC live none=none:=rfl
theorem ZtV (t o:Nat):ZP ρ (.ref t o)=(match ρ t 0 with | some (t',0)=>.ref t' o | _=>.any):=rfl
theorem Zuz (t:Nat):ZP ρ (.map t)=(match ρ t 0 with | some (t',0)=>.map t' | _=>.any):=rfl
theorem Zxh (t g lo n:Nat):ZP ρ (.sl t g lo n)=(match ρ t g with | some (t',g')=>.sl t' g' lo n | none=>.any):=rfl
theorem ZD9 (t g i o:Nat):ZP ρ (.eref t g i o)=(match ρ t g with | some (t',g')=>.eref t' g' i o | none=>.any):=rfl
theorem ZEz:Z4 []=[]:=rfl
theorem ZvJ (x:AVal) (xs:List AVal):Z4 (x::xs)=Zan x++Z4 xs:=rfl
theorem Zte:ZZ ρ []=[]:=rfl
theorem ZAU (x:AVal) (xs:List AVal):ZZ ρ (x::xs)=ZP ρ x::ZZ ρ xs:=rfl
end
end
section
mutual
def Zam:AVal->Bool
 | .ref _ _=>false
 | .eref _ _ _ _=>false
 | .sl _ _ _ _=>false
 | .map _=>false
 | .agg cs=>Zx cs
 | .tup vs=>Zx vs
 | .fn _ vs=>Zx vs
 | .iface _ x=>Zam x
 | .pan x=>Zam x
 | .top=>true
 | .any=>true
 | .int _ _=>true
 | .bool _=>true
 | .str _=>true
 | .nilp=>true
 | .nilm=>true
 | .nili=>true
 | .iptr _ _=>true
 | .lst _ _=>true
def Zx:List AVal->Bool
 | []=>true
 | x::xs=>Zam x && Zx xs
end
mutual
theorem ZeJ (ρ:Rho):∀ (x:AVal),Zam x=true->ZP ρ x=x/\Zan x=[]
 | .ref _ _,h=>by simp [Zam] at h
 | .eref _ _ _ _,h=>by simp [Zam] at h
 | .sl _ _ _ _,h=>by simp [Zam] at h
 | .map _,h=>by simp [Zam] at h
 | .agg cs,h=>by have:=ZdL ρ cs (by simpa only [Zam] using h);exact ⟨by simp only [ZP,this.1],by simp only [Zan,this.2]⟩
 | .tup cs,h=>by have:=ZdL ρ cs (by simpa only [Zam] using h);exact ⟨by simp only [ZP,this.1],by simp only [Zan,this.2]⟩
 | .fn f cs,h=>by have:=ZdL ρ cs (by simpa only [Zam] using h);exact ⟨by simp only [ZP,this.1],by simp only [Zan,this.2]⟩
 | .iface t x,h=>by have:=ZeJ ρ x (by simpa only [Zam] using h);exact ⟨by simp only [ZP,this.1],by simp only [Zan,this.2]⟩
 | .pan x,h=>by have:=ZeJ ρ x (by simpa only [Zam] using h);exact ⟨by simp only [ZP,this.1],by simp only [Zan,this.2]⟩
 | .top,_=>⟨rfl,rfl⟩
 | .any,_=>⟨rfl,rfl⟩
 | .int _ _,_=>⟨rfl,rfl⟩
 | .bool _,_=>⟨rfl,rfl⟩
 | .str _,_=>⟨rfl,rfl⟩
 | .nilp,_=>⟨rfl,rfl⟩
 | .nilm,_=>⟨rfl,rfl⟩
 | .nili,_=>⟨rfl,rfl⟩
 | .iptr _ _,_=>⟨rfl,rfl⟩
 | .lst _ _,_=>⟨rfl,rfl⟩
theorem ZdL (ρ:Rho):∀ (xs:List AVal),Zx xs=true->ZZ ρ xs=xs/\Z4 xs=[]
 | [],_=>⟨rfl,rfl⟩
 | x::xs,h=>by
  simp only [Zx,Xp] at h
  have h1:=ZeJ ρ x h.1
  have h2:=ZdL ρ xs h.2
  exact ⟨by simp only [ZZ,h1.1,h2.1],by simp only [Z4,h1.2,h2.2,XO]⟩
end
theorem Zrl {σ:Za} {r:AVal} (h:Zam r=true):ZaV 0 σ r=some (r,[]):=by
 have h1:=ZeJ (Zd σ 0 []) r h
 have hids:Zv 0 [r] σ=[]:=by
  unfold Zv
  simp only [Z4,h1.2,XO,List.range_zero,List.flatMap_nil]
  rfl
 unfold ZaV gcA
 simp only [hids,ZZ,Zl,h1.1]
def ZbI:AVal->AVal
 | .tup vs=>.tup (vs.map Zaf)
 | x=>Zaf x
def Zbz:AVal->Bool
 | .tup vs=>vs.all Zaq
 | x=>Zaq x
def Zbf:AVal->Bool
 | .fn _ _=>false
 | _=>true
def Zbk:AVal->Bool
 | .agg cs=>cs.all Zbf
 | x=>Zbf x
def ZbD:AVal->Bool
 | .tup vs=>vs.all Zbk
 | x=>Zbk x
theorem ZpW {k g n:Nat} {xs:List AVal} {σ:Za} {t:Nat} (hs:σ[t]?=some (.row g k xs)) (hn:n<=xs.length):ZcN 0 (some (.sl t g 0 n,σ))=some (.lst false (xs.take n),[]):=by
 have hv:viewR σ (.sl t g 0 n)=some (.lst false (xs.take n),[t]):=by
  simp only [viewR,Zbc,ZaO,Zn,hs,XD,hn,and_self,if_true,List.drop_zero]
 have e:ZcN 0 (some (.sl t g 0 n,σ))=(match viewR σ (.sl t g 0 n) with
  | some (r',ts)=>match gcA 0 [r'] (ZR σ ts) with
   | ([r''],σ')=>some (r'',σ')
   | _=>none
  | none=>none):=rfl
 rw [e,hv]
 exact Zrl rfl
theorem ZAF {m:Nat} {fn:Z8} {tm:Tms} {σ:Za}:ZaD m fn (some (.ret,tm,σ))=match resA tm σ fn.res with
  | some r=>ZaV m σ r
  | none=>none:=rfl
theorem Zsf {m:Nat} {fn:Z8} {tm:Tms} {σ:Za}:ZaD m fn (some (.normal,tm,σ))=match resA tm σ fn.res with
  | some r=>ZaV m σ r
  | none=>none:=rfl
theorem ZwF {m:Nat} {fn:Z8} {tm:Tms} {σ:Za} {x:AVal}:ZaD m fn (some (.panic x,tm,σ))=ZaV m σ (.pan x):=rfl
theorem Zyp  : Zam (.top)=true:=rfl
theorem ZuP  : Zam (.any)=true:=rfl
theorem ZB4 (k:IntKind) (n:Int):Zam (.int k n)=true:=rfl
theorem Zwq (b:Bool):Zam (.bool b)=true:=rfl
theorem ZCj (l:List UInt8):Zam (.str l)=true:=rfl
theorem ZAb  : Zam (.nilp)=true:=rfl
theorem Zu0 (t:Nat) (o:Nat):Zam (.ref t o)=false:=rfl
theorem Zty (t:Nat) (g:Nat) (i:Nat) (o:Nat):Zam (.eref t g i o)=false:=rfl
theorem Zvu (cs:List AVal) (o:Nat):Zam (.iptr cs o)=true:=rfl
theorem Zu3 (x:Bool) (xs:List AVal):Zam (.lst x xs)=true:=rfl
theorem Zv2 (t:Nat) (g:Nat) (lo:Nat) (n:Nat):Zam (.sl t g lo n)=false:=rfl
theorem Zvt (cs:List AVal):Zam (.agg cs)=Zx cs:=rfl
theorem ZBO (vs:List AVal):Zam (.tup vs)=Zx vs:=rfl
theorem ZEk (f:Nat) (caps:List AVal):Zam (.fn f caps)=Zx caps:=rfl
theorem Zwe  : Zam (.nilm)=true:=rfl
theorem ZAR (t:Nat):Zam (.map t)=false:=rfl
theorem ZBB  : Zam (.nili)=true:=rfl
theorem Zz9 (t:Nat) (x:AVal):Zam (.iface t x)=Zam x:=rfl
theorem ZAt (x:AVal):Zam (.pan x)=Zam x:=rfl
theorem ZuM  : Zbf (.top)=true:=rfl
theorem ZEf  : Zbf (.any)=true:=rfl
theorem ZEa (k:IntKind) (n:Int):Zbf (.int k n)=true:=rfl
theorem Zx1 (b:Bool):Zbf (.bool b)=true:=rfl
theorem ZBd (l:List UInt8):Zbf (.str l)=true:=rfl
theorem ZrE  : Zbf (.nilp)=true:=rfl
theorem ZF0 (t:Nat) (o:Nat):Zbf (.ref t o)=true:=rfl
theorem ZtB (t:Nat) (g:Nat) (i:Nat) (o:Nat):Zbf (.eref t g i o)=true:=rfl
theorem Zr7 (cs:List AVal) (o:Nat):Zbf (.iptr cs o)=true:=rfl
theorem ZrR (x:Bool) (xs:List AVal):Zbf (.lst x xs)=true:=rfl
theorem Zuf (t:Nat) (g:Nat) (lo:Nat) (n:Nat):Zbf (.sl t g lo n)=true:=rfl
theorem ZCA (cs:List AVal):Zbf (.agg cs)=true:=rfl
theorem Zxz (vs:List AVal):Zbf (.tup vs)=true:=rfl
theorem ZFJ (f:Nat) (caps:List AVal):Zbf (.fn f caps)=false:=rfl
theorem Zva  : Zbf (.nilm)=true:=rfl
theorem ZyR (t:Nat):Zbf (.map t)=true:=rfl
theorem ZzO  : Zbf (.nili)=true:=rfl
theorem ZCn (t:Nat) (x:AVal):Zbf (.iface t x)=true:=rfl
theorem ZAa (x:AVal):Zbf (.pan x)=true:=rfl
theorem Zup  : Zbk (.top)=true:=rfl
theorem ZAj  : Zbk (.any)=true:=rfl
theorem ZsA (k:IntKind) (n:Int):Zbk (.int k n)=true:=rfl
theorem ZxX (b:Bool):Zbk (.bool b)=true:=rfl
theorem ZC5 (l:List UInt8):Zbk (.str l)=true:=rfl
theorem Zvw  : Zbk (.nilp)=true:=rfl
theorem ZBS (t:Nat) (o:Nat):Zbk (.ref t o)=true:=rfl
theorem ZCi (t:Nat) (g:Nat) (i:Nat) (o:Nat):Zbk (.eref t g i o)=true:=rfl
theorem ZD0 (cs:List AVal) (o:Nat):Zbk (.iptr cs o)=true:=rfl
theorem ZzZ (x:Bool) (xs:List AVal):Zbk (.lst x xs)=true:=rfl
theorem ZC2 (t:Nat) (g:Nat) (lo:Nat) (n:Nat):Zbk (.sl t g lo n)=true:=rfl
theorem ZC8 (cs:List AVal):Zbk (.agg cs)=cs.all Zbf:=rfl
theorem ZEZ (vs:List AVal):Zbk (.tup vs)=true:=rfl
theorem ZBw (f:Nat) (caps:List AVal):Zbk (.fn f caps)=false:=rfl
theorem Zzw  : Zbk (.nilm)=true:=rfl
theorem Zrw (t:Nat):Zbk (.map t)=true:=rfl
theorem ZGj  : Zbk (.nili)=true:=rfl
theorem ZyA (t:Nat) (x:AVal):Zbk (.iface t x)=true:=rfl
theorem ZDF (x:AVal):Zbk (.pan x)=true:=rfl
theorem Zyw  : ZbD (.top)=true:=rfl
theorem Ztp  : ZbD (.any)=true:=rfl
theorem ZEl (k:IntKind) (n:Int):ZbD (.int k n)=true:=rfl
theorem Zzy (b:Bool):ZbD (.bool b)=true:=rfl
theorem Ztx (l:List UInt8):ZbD (.str l)=true:=rfl
theorem ZyB  : ZbD (.nilp)=true:=rfl
theorem ZCB (t:Nat) (o:Nat):ZbD (.ref t o)=true:=rfl
theorem ZF6 (t:Nat) (g:Nat) (i:Nat) (o:Nat):ZbD (.eref t g i o)=true:=rfl
theorem Zz4 (cs:List AVal) (o:Nat):ZbD (.iptr cs o)=true:=rfl
theorem Zry (x:Bool) (xs:List AVal):ZbD (.lst x xs)=true:=rfl
theorem ZE8 (t:Nat) (g:Nat) (lo:Nat) (n:Nat):ZbD (.sl t g lo n)=true:=rfl
theorem Zvb (cs:List AVal):ZbD (.agg cs)=cs.all Zbf:=rfl
theorem Zyu (vs:List AVal):ZbD (.tup vs)=vs.all Zbk:=rfl
theorem ZFV (f:Nat) (caps:List AVal):ZbD (.fn f caps)=false:=rfl
theorem Ztc  : ZbD (.nilm)=true:=rfl
theorem Zsh (t:Nat):ZbD (.map t)=true:=rfl
theorem ZyP  : ZbD (.nili)=true:=rfl
theorem ZsO (t:Nat) (x:AVal):ZbD (.iface t x)=true:=rfl
theorem ZBg (x:AVal):ZbD (.pan x)=true:=rfl
theorem ZAY  : Zbz (.top)=false:=rfl
theorem ZET  : Zbz (.any)=false:=rfl
theorem Zuu (k:IntKind) (n:Int):Zbz (.int k n)=true:=rfl
theorem ZsN (b:Bool):Zbz (.bool b)=true:=rfl
theorem ZEn (l:List UInt8):Zbz (.str l)=true:=rfl
theorem ZuN  : Zbz (.nilp)=true:=rfl
theorem ZAD (t:Nat) (o:Nat):Zbz (.ref t o)=false:=rfl
theorem Zy7 (t:Nat) (g:Nat) (i:Nat) (o:Nat):Zbz (.eref t g i o)=false:=rfl
theorem ZD6 (cs:List AVal) (o:Nat):Zbz (.iptr cs o)=false:=rfl
theorem ZsC (x:Bool) (xs:List AVal):Zbz (.lst x xs)=true:=rfl
theorem ZuG (t:Nat) (g:Nat) (lo:Nat) (n:Nat):Zbz (.sl t g lo n)=false:=rfl
theorem ZxA (cs:List AVal):Zbz (.agg cs)=cs.all ZaB:=rfl
theorem Zuw (vs:List AVal):Zbz (.tup vs)=vs.all Zaq:=rfl
theorem ZyZ  : Zbz (.nilm)=true:=rfl
theorem Zto (t:Nat):Zbz (.map t)=false:=rfl
theorem ZAh  : Zbz (.nili)=true:=rfl
theorem Zui (t:Nat) (x:AVal):Zbz (.iface t x)=false:=rfl
theorem ZAI (x:AVal):Zbz (.pan x)=false:=rfl
theorem ZwX  : ZbI (.top)=(.top):=rfl
theorem ZvG  : ZbI (.any)=(.any):=rfl
theorem ZsP (k:IntKind) (n:Int):ZbI (.int k n)=(.int k n):=rfl
theorem ZEL (b:Bool):ZbI (.bool b)=(.bool b):=rfl
theorem ZyS (l:List UInt8):ZbI (.str l)=(.str l):=rfl
theorem ZrV  : ZbI (.nilp)=(.nilp):=rfl
theorem Zxu (t:Nat) (o:Nat):ZbI (.ref t o)=(.ref t o):=rfl
theorem ZzJ (t:Nat) (g:Nat) (i:Nat) (o:Nat):ZbI (.eref t g i o)=(.eref t g i o):=rfl
theorem Zxw (cs:List AVal) (o:Nat):ZbI (.iptr cs o)=(.iptr cs o):=rfl
theorem ZDf (x:Bool) (xs:List AVal):ZbI (.lst x xs)=.lst false xs:=rfl
theorem ZFH (t:Nat) (g:Nat) (lo:Nat) (n:Nat):ZbI (.sl t g lo n)=(.sl t g lo n):=rfl
theorem ZyT (cs:List AVal):ZbI (.agg cs)=.agg (cs.map ZaI):=rfl
theorem Zwk (vs:List AVal):ZbI (.tup vs)=.tup (vs.map Zaf):=rfl
theorem ZzS (f:Nat) (caps:List AVal):ZbI (.fn f caps)=(.fn f caps):=rfl
theorem ZFM  : ZbI (.nilm)=(.nilm):=rfl
theorem ZFj (t:Nat):ZbI (.map t)=(.map t):=rfl
theorem ZDQ  : ZbI (.nili)=(.nili):=rfl
theorem ZtQ (t:Nat) (x:AVal):ZbI (.iface t x)=(.iface t x):=rfl
theorem ZBV (x:AVal):ZbI (.pan x)=(.pan x):=rfl
theorem ZAk:Zx []=true:=rfl
theorem ZzN (x:AVal) (xs:List AVal):Zx (x::xs)=(Zam x && Zx xs):=rfl
theorem Zr8 (f:Nat):Zbz (.fn f [])=true:=rfl
theorem Zsj (p q:Bool):(if p=true then q else false)=(p && q):=by cases p <;> rfl
theorem ZCe (p q:Bool):(if p=true then true else q)=(p || q):=by cases p <;> rfl
theorem Zzn (p q:Bool):(if p=true then false else q)=(!p && q):=by cases p <;> rfl
theorem ZBJ (p q:Bool):(if p=true then q else true)=(!p || q):=by cases p <;> rfl
theorem Zsp (p q:Bool):(if p=false then q else false)=(!p && q):=by cases p <;> rfl
theorem ZE0 (p q:Bool):(if p=false then true else q)=(!p || q):=by cases p <;> rfl
theorem Zs1 (p q:Bool):(if p=false then false else q)=(p && q):=by cases p <;> rfl
theorem ZCL (p q:Bool):(if p=false then q else true)=(p || q):=by cases p <;> rfl
section
def ZbR (o:AOp):AOp:=⟨o.dst,o.ins,o.guard,[]⟩
def Zbs:Zo->Zo
 | .region ops chk live=>.region (ops.map ZbR) chk live
 | .seq a b=>.seq (Zbs a) (Zbs b)
 | .cond c a b=>.cond c (Zbs a) (Zbs b)
 | .block id c=>.block id (Zbs c)
 | .loop live c=>.loop live (Zbs c)
 | .range pre live ms en b1 ent body rest=>.range (pre.map ZbR) live ms en b1 (ent.map ZbR) (Zbs body) (Zbs rest)
 | .skip=>.skip
 | .exit id=>.exit id
 | .ret=>.ret
 | .stuck=>.stuck
def Zi3 (f:Z8):Z8:=⟨f.res,Zbs f.body⟩
section
variable {O:ZW} {bf:Nat->Bool}
theorem ZCW (o:AOp) (s:Nat) (tm:Tms) (σ:Za):ZS O bf (ZbR o) s tm σ=ZS O bf o s tm σ:=rfl
theorem ZmH:∀ (ops:List AOp) (s:Nat) (tm:Tms) (σ:Za),ZX O bf (ops.map ZbR) s tm σ=ZX O bf ops s tm σ
 | [],_,_,_=>rfl
 | o::os,s,tm,σ=>by
  simp only [XJ,ZX,ZCW]
  split
  ·rfl
  ·rfl
  ·rename_i tm' σ' c _ _
   rw [show (ZbR o).ins=o.ins from rfl,ZmH os]
theorem Zm4 (ops:List AOp):sitesOf (ops.map ZbR)=sitesOf ops:=by
 simp [sitesOf,ZbR,Function.comp_def]
theorem ZjV (ops:List AOp) (i:Nat):((ops.map ZbR).getD i default).ins=(ops.getD i default).ins:=by
 simp only [Xo,XW]
 cases ops[i]? <;> rfl
theorem Zsc (ops:List AOp) (b:Nat) (l:List (Nat×Nat)) (cs:List Cls):Zc9 (ops.map ZbR) b l cs=Zc9 ops b l cs:=by
 unfold Zc9
 congr 1
 funext p
 unfold Zca ZbN
 rw [ZjV,ZjV,<-Xbw,Zm4]
theorem Zzl (ops:List AOp) (b:Nat) (l:List (Nat×Nat)) (cs:List Cls):Zbg (ops.map ZbR) b l cs=Zbg ops b l cs:=by
 unfold Zbg
 congr 2
 funext p
 unfold Zca ZbN
 rw [ZjV,ZjV,<-Xbw,Zm4]
theorem ZuO (ops:List AOp) (chk:Option (List (Nat×Nat))) (live:List Nat) (tm:Tms) (σ:Za):ZbZ O bf (ops.map ZbR) chk live tm σ=ZbZ O bf ops chk live tm σ:=by
 unfold ZbZ
 rw [ZmH,Zm4]
 cases ZX O bf ops σ.length tm (σ++Xx (sitesOf ops) .free) with
 | none=>rfl
 | some q =>
  obtain ⟨tm',σ',cs,p⟩:=q
  cases p with
  | some x =>
   cases chk with
   | none=>rfl
   | some l=>simp only [ZdB,Zzl]
  | none =>
   cases chk with
   | none=>rfl
   | some l=>simp only [ZdB,Zsc]
theorem Zob (ops:List AOp) (tm:Tms) (σ:Za):ZcJ bf (ops.map ZbR) tm σ=ZcJ bf ops tm σ:=by
 unfold ZcJ;rw [ZmH]
section
variable {m:Nat} {live:List Nat} {ms en b1:Nat} {ent:List AOp} {run fin:Nat->Tms->Za->Option (ZY×Tms×Za)}
theorem Zpo:ZbC bf ms en b1 (ent.map ZbR) run=ZbC bf ms en b1 ent run:=by
 funext t B kv tm σ
 unfold ZbC
 rw [Zob]
theorem Zq3 (es:List (AVal×AVal)):∀ (l:List (AVal×AVal)) (tm:Tms) (σ:Za),ZaY bf m live ms en b1 (ent.map ZbR) run es l tm σ=ZaY bf m live ms en b1 ent run es l tm σ
 | [],_,_=>rfl
 | kv::l,tm,σ=>by
  simp only [ZaY,Zpo]
  split
  ·split
   ·split
    ·exact Zq3 es l _ _
    ·rfl
   ·rfl
  ·rfl
theorem Zyf (tm:Tms) (σ:Za):Zcr bf m live ms en b1 (ent.map ZbR) run fin tm σ=Zcr bf m live ms en b1 ent run fin tm σ:=by
 have h:Zbh bf m live ms en b1 (ent.map ZbR) run fin=Zbh bf m live ms en b1 ent run fin:=by
  funext es l tm σ
  unfold Zbh
  rw [Zq3]
 have h2:ZfM bf m live ms en b1 (ent.map ZbR) run fin=ZfM bf m live ms en b1 ent run fin:=by
  funext es tm σ
  unfold ZfM
  rw [h]
 unfold Zcr
 rw [h2,Zpo]
end
theorem ZeF (n:Nat):∀ (c:Zo) (m:Nat),ZV O bf m n (Zbs c)=ZV O bf m n c
 | .region ops chk live,m=>by funext tm σ;simp only [Zbs,ZV,ZuO]
 | .seq a b,m=>by funext tm σ;simp only [Zbs,ZV,ZeF n a,ZeF n b]
 | .cond c a b,m=>by funext tm σ;simp only [Zbs,ZV,ZeF n a,ZeF n b]
 | .block id c,m=>by funext tm σ;simp only [Zbs,ZV,ZeF n c]
 | .loop live c,m=>by funext tm σ;simp only [Zbs,ZV,ZeF n c]
 | .range pre live ms en b1 ent body rest,m=>by funext tm σ;simp only [Zbs,ZV,Zob,Zyf,ZeF n body,ZeF n rest]
 | .skip,m=>by funext tm σ;simp only [Zbs]
 | .exit id,m=>by funext tm σ;simp only [Zbs]
 | .ret,m=>by funext tm σ;simp only [Zbs]
 | .stuck,m=>by funext tm σ;simp only [Zbs]
end
theorem ZnZ (fs:Nat->Option Z8) (prim:Zdt) (bf:Nat->Bool):∀ n,Zah (fun f=>(fs f).map Zi3) prim bf n=Zah fs prim bf n
 | 0=>rfl
 | n+1=>by
  funext f args σ
  simp only [Zah,ZnZ fs prim bf n]
  cases prim f with
  | some g=>rfl
  | none =>
   cases fs f with
   | none=>rfl
   | some fn =>
    simp only [XS,Zi3,ZeF]
    rfl
theorem Zvg (fs:Nat->Option Z8) (prim:Zdt) (bf:Nat->Bool):EV (fun f=>(fs f).map Zi3) prim bf=EV fs prim bf:=by
 funext f args σ
 apply Zeq
 intro r
 rw [Zct,Zct]
 simp only [ZnZ]
end
end
section
open Go.RowKit
def ZlJ (args:List AVal) (σ:Za):Option (AVal×Za):=match args with
 | [.str l]=>some (.bool (Lib.validD l),σ)
 | _=>none
def ZiB (args:List AVal) (σ:Za):Option (AVal×Za):=match args with
 | [.str l,.int .u8 c]=>some (.int .i64 (Lib.indexByte l c.toNat.toUInt8),σ)
 | _=>none
def ZkC (args:List AVal) (σ:Za):Option (AVal×Za):=match args with
 | [.str l,.str [c]]=>some (.int .i64 (Lib.countByte l c),σ)
 | _=>none
section
variable {P:Program} {base:Nat->Prop} {w0 w w':World} {I0 I:Imm} {β:Bmap} {σ:Za}
theorem Znc {f:Nat} (hf:∃ fn,P.funcs[f]?=some fn/\fn.body.isSome=true/\(fn.name == "runtime.NumGoroutine")=false) {args:List AVal} {r:AVal} {u:Value} (hn:∀ x,r≠.pan x) (hr:∀ I β,VR I β r u)
  (h:∀ base w0 I0 I β w (vs:Array Value),Rel base w0 I0 I β σ w->VRs I β args vs.toList->Calls P f vs w (fun e w'=>e=.returned u/\Below w.heap.size w w')) :
  (∃ fn,P.funcs[f]?=some fn/\fn.body.isSome=true/\(fn.name == "runtime.NumGoroutine")=false) /\
  ∀ base w0 I0 I β w (vs:Array Value),KLt base w0->Rel base w0 I0 I β σ w->VRs I β args vs.toList ->
   Calls P f vs w (fun e w'=>∃ u,Ends r e u/\Zcg σ.length base w0 I0 I β r σ u w'):=by
 refine ⟨hf,fun base w0 I0 I β w vs hb R hv=>(h base w0 I0 I β w vs R hv).mono ?_⟩
 rintro e w' ⟨rfl,hB⟩
 have hbw:=R.base_le hb
 refine ⟨u,?_,I,β,Imm.le.refl I,KeptE.refl _ β,R.stay (Imm.le.refl I) ⟨hB.os,hB.tape,hB.output,hB.size,fun k hk=>hB.block k (hbw k hk)⟩ (fun _ _ _=>rfl) ?_ ?_,by rw [Zfw hn];exact hr I β⟩
 ·cases r <;> first | rfl | exact absurd rfl (hn _)
 ·intro b o x hx
  have h1:=R.imm b o x hx
  have hlt:=Zc5 h1
  rw [<-h1]
  simp only [World.cell?,hB.block b hlt]
 ·intro t x b hx hb'
  exact ⟨hB.block b ((R.blk t x hx).owns_lt hb'),(R.own t x b hx hb').2⟩
theorem Zqg {f:Nat} (hf:∃ fn,P.funcs[f]?=some fn/\fn.body.isSome=true/\(fn.name == "runtime.NumGoroutine")=false)
  (hc:∀ (s:ByteArray) (c:Int) (w:World),Calls P f #[.string s,.int .u8 c] w fun e w'=>e=.returned (.int .i64 (Lib.indexByte s.data.toList c.toNat.toUInt8))/\w'=w) {args:List AVal} {σ σ':Za} {r:AVal} (h:ZiB args σ=some (r,σ')) :
  (∃ fn,P.funcs[f]?=some fn/\fn.body.isSome=true/\(fn.name == "runtime.NumGoroutine")=false) /\
  ∀ base w0 I0 I β w (vs:Array Value),KLt base w0->Rel base w0 I0 I β σ w->VRs I β args vs.toList ->
   Calls P f vs w (fun e w'=>∃ u,Ends r e u/\Zcg σ.length base w0 I0 I β r σ' u w'):=by
 unfold ZiB at h
 split at h
 case h_2=>cases h
 rename_i l c
 simp only [Xa,Xb] at h
 obtain ⟨rfl,rfl⟩:=h
 refine Znc hf (u:=.int .i64 (Lib.indexByte l c.toNat.toUInt8)) (by simp) (fun _ _=>by simp only [VR]) ?_
 intro base w0 I0 I β w vs R hv
 obtain ⟨vs⟩:=vs
 simp only [VRs,VR] at hv
 obtain ⟨v1,r1,e1,⟨rfl,_⟩,v2,r2,rfl,rfl,rfl⟩:=hv
 subst e1
 refine (hc ⟨l.toArray⟩ c w).mono ?_
 rintro e w' ⟨rfl,rfl⟩
 exact ⟨by simp,Below.refl _ _⟩
theorem ZxG {f:Nat} (hf:∃ fn,P.funcs[f]?=some fn/\fn.body.isSome=true/\(fn.name == "runtime.NumGoroutine")=false)
  (hc:∀ (s:ByteArray) (c:UInt8) (w:World),Calls P f #[.string s,.string ⟨#[c]⟩] w fun e w'=>e=.returned (.int .i64 (Lib.countByte s.data.toList c))/\w'=w) {args:List AVal} {σ σ':Za} {r:AVal} (h:ZkC args σ=some (r,σ')) :
  (∃ fn,P.funcs[f]?=some fn/\fn.body.isSome=true/\(fn.name == "runtime.NumGoroutine")=false) /\
  ∀ base w0 I0 I β w (vs:Array Value),KLt base w0->Rel base w0 I0 I β σ w->VRs I β args vs.toList ->
   Calls P f vs w (fun e w'=>∃ u,Ends r e u/\Zcg σ.length base w0 I0 I β r σ' u w'):=by
 unfold ZkC at h
 split at h
 case h_2=>cases h
 rename_i l c
 simp only [Xa,Xb] at h
 obtain ⟨rfl,rfl⟩:=h
 refine Znc hf (u:=.int .i64 (Lib.countByte l c)) (by simp) (fun _ _=>by simp only [VR]) ?_
 intro base w0 I0 I β w vs R hv
 obtain ⟨vs⟩:=vs
 simp only [VRs,VR] at hv
 obtain ⟨v1,r1,e1,⟨rfl,_⟩,v2,r2,rfl,⟨rfl,_⟩,rfl⟩:=hv
 subst e1
 refine (hc ⟨l.toArray⟩ c w).mono ?_
 rintro e w' ⟨rfl,rfl⟩
 exact ⟨by simp,Below.refl _ _⟩
theorem Zt1 (R:Rel base w0 I0 I β σ w):Lib.Utf8Tabs 0 1 w:=by
 refine ⟨fun c hc=>R.imm _ _ _ (R.glob _ _ _ (by simp [Gl,hc])),fun i hi=>⟨R.imm _ _ _ (R.glob _ _ _ ?_),R.imm _ _ _ (R.glob _ _ _ ?_)⟩⟩
 ·have h1:2*i < 32:=by omega
  have h2:2*i % 2=0:=by omega
  have h3:2*i / 2=i:=by omega
  simp [Gl,h1,h3]
 ·have h1:2*i+1 < 32:=by omega
  have h2:(2*i+1) % 2=1:=by omega
  have h3:(2*i+1) / 2=i:=by omega
  simp [Gl,h1,h2,h3]
theorem Zr6 {f:Nat} (hf:∃ fn,P.funcs[f]?=some fn/\fn.body.isSome=true/\(fn.name == "runtime.NumGoroutine")=false)
  (hc:∀ (s:ByteArray) (w:World),s.size<=9223372036854775807->Lib.Utf8Tabs 0 1 w->Calls P f #[.string s] w fun e w'=>e=.returned (.bool (Lib.validD s.data.toList))/\Below w.heap.size w w') {args:List AVal} {σ σ':Za} {r:AVal} (h:ZlJ args σ=some (r,σ')) :
  (∃ fn,P.funcs[f]?=some fn/\fn.body.isSome=true/\(fn.name == "runtime.NumGoroutine")=false) /\
  ∀ base w0 I0 I β w (vs:Array Value),KLt base w0->Rel base w0 I0 I β σ w->VRs I β args vs.toList ->
   Calls P f vs w (fun e w'=>∃ u,Ends r e u/\Zcg σ.length base w0 I0 I β r σ' u w'):=by
 unfold ZlJ at h
 split at h
 case h_2=>cases h
 rename_i l
 simp only [Xa,Xb] at h
 obtain ⟨rfl,rfl⟩:=h
 refine Znc hf (u:=.bool (Lib.validD l)) (by simp) (fun _ _=>by simp only [VR]) ?_
 intro base w0 I0 I β w vs R hv
 obtain ⟨vs⟩:=vs
 simp only [VRs,VR] at hv
 obtain ⟨v1,r1,e1,⟨rfl,hl⟩,rfl⟩:=hv
 subst e1
 refine (hc ⟨l.toArray⟩ w (by simpa [WH] using hl) (Zt1 R)).mono ?_
 rintro e w' ⟨rfl,hB⟩
 exact ⟨by simp,hB⟩
end
end
end Go.Proofs.YtlfkpdcffmmbdaaDoor
