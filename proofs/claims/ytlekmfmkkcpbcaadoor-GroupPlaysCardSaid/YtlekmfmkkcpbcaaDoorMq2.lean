/- packed -/
import Derived.Test.YtlekmfmkkcpbcaaDoorMq1
import Derived.Orders
import Derived.LoopN
import Derived.Scope
import Derived.Laws.Cover3
import Derived.Defers
import Derived.Recover
import Derived.Tactics
import Derived.Maps.RangeRun
import Derived.Lib.Index
import Derived.Shelf.Unicode.ValidAny
import Derived.Shelf.Strings.Count
import Derived.Sort.Row
import Derived.Sort.Grow
import Derived.Shelf.Sort.Plain
set_option linter.unusedSectionVars false
set_option linter.unusedSimpArgs false
set_option linter.unusedVariables false
open Option.some renaming injEq→Xa,inj→WU
open Prod.mk renaming injEq→Xg
open List renaming getD_cons_zero→Xm,getD_cons_succ→Xn,contains_nil→Xo,all_cons→Xp,length_nil→Xt,getElem?_eq_some_iff→Xu,append_nil→Xw,getElem?_cons_zero→Xx,lookup_cons→Xy,getD_eq_getElem?_getD→Xz,getElem?_set→XB,flatMap_cons→XD,cons_append→XG,mem_append→XL,mem_of_getElem?→XN,map_cons→XS,mem_cons→XV,getElem?_eq_getElem→XY,replicate→XZ,mem_map→X0,all_eq_true→X1,eq_nil_of_length_eq_zero→X6,length_map→X7,nodup_cons→Wg,getElem?_map→Wh,getElem?_eq_none→Wj,contains_cons→Wo,ext_getElem?→Wv,mem_filter→Wz,mem_flatMap→WC,pairwise_append→WO,drop_eq_nil_of_le→WP,pairwise_cons→WR,range→WS,getElem?_append_right→WY,getElem?_append_left→W1,getElem?_set_ne→W9,drop_eq_getElem_cons→Xad,set_comm→Xam,mem_range→Xaq,getElem_mem→XaH,isEmpty_iff→XaJ,mem_cons_self→XaL,range'→Xa4,map_take→Xbh,append_of_mem→Xbn,mapM_cons→Xbq,range'_succ→Xbv
open Bool renaming false_eq_true→Xq,and_eq_true→XE,and_self→WD,or_eq_true→WK,or_eq_false_iff→WN,not_eq_true'→WX,true_or→XaQ,or_false→XaU,or_true→Xby
open Option renaming map_eq_some_iff→XI,map_some→We,map→Wt,getD_some→Xai,getD_none→Xbf
open Or renaming inl→XK,inr→XO
open Array renaming getElem?_eq_some_iff→XW,length_toList→Wb,getElem?_setIfInBounds_ne→Wu,getD_eq_getD_getElem?→WT,getElem?_modify→Xau,getElem?_toList→Xav,replicate→XaO,getD→XaS
open Nat renaming zero_add→XX,le_refl→X5,add_zero→Wx,add_assoc→WW,sub_self→Xab,le_max_right→Xak,le_max_left→Xar,lt_or_ge→XaP,mul_one→XbH
open ByteArray renaming size→WV
open Ne renaming symm→W0
namespace Go.Proofs.YtlekmfmkkcpbcaaDoor
set_option maxHeartbeats 16000000
set_option maxRecDepth 10000
section
open Go.RowKit
section
variable {O:Zat} {bf:Nat->Bool} {tm:Tms} {σ σ':Za} {sq s:Nat} {b:Z5}
theorem ZgG:∀ (ts:List Nat) (σ:Za),(ZS σ ts)[s]?=some .free↔σ[s]?=some .free
 | [],σ=>Iff.rfl
 | t::ts,σ=>by
  simp only [ZS]
  split
  ·rename_i g k xs hs
   rw [ZgG ts,XB]
   split
   ·rename_i e;subst e
    split
    ·simp [hs]
    ·simp [hs]
   ·exact Iff.rfl
  ·exact ZgG ts σ
theorem Zqv {cs:List AVal} {t:Nat}:∀ (ts:List Nat) (σ:Za),σ[t]?=some (.var cs)->(ZS σ ts)[t]?=some (.var cs)
 | [],σ,h=>h
 | u::ts,σ,h=>by
  simp only [ZS]
  split
  ·rename_i g k xs hs
   refine Zqv ts _ ?_
   rw [XB]
   split
   ·rename_i e;subst e;rw [hs] at h;cases h
   ·exact h
  ·exact Zqv ts σ h
theorem ZpD:∀ (ts:List Nat) (σ:Za),s ∉ ts->ZS (σ.set s b) ts=(ZS σ ts).set s b
 | [],σ,_=>rfl
 | t::ts,σ,h=>by
  simp only [XV,not_or] at h
  have e:(σ.set s b)[t]?=σ[t]?:=by rw [XB,if_neg h.1]
  simp only [ZS,e]
  split
  ·rw [Xam _ _ h.1,ZpD ts _ h.2]
  ·exact ZpD ts σ h.2
theorem Zho {t:Nat} (h:s≠t):(σ.set s b).getD t .free=σ.getD t .free:=by
 rw [Xz,Xz,XB,if_neg h]
theorem Zpn:∀ (n:Nat) (todo acc:List Nat),∀ x ∈ acc,x ∈ Zd σ n todo acc
 | 0,_,acc,x,h=>h
 | n+1,[],acc,x,h=>h
 | n+1,t::todo,acc,x,h=>by
  simp only [Zd]
  split
  ·exact Zpn n todo acc x h
  ·exact Zpn n _ _ x (by simp [h])
theorem Zpb:∀ (n:Nat) (todo acc:List Nat),s ∉ Zd σ n todo acc->Zd (σ.set s b) n todo acc=Zd σ n todo acc
 | 0,_,acc,_=>rfl
 | n+1,[],acc,_=>rfl
 | n+1,t::todo,acc,h=>by
  simp only [Zd] at h ⊢
  split
  ·rename_i hc;rw [if_pos hc] at h;exact Zpb n todo acc h
  ·rename_i hc
   rw [if_neg hc] at h
   have hne:s≠t:=by
    rintro rfl
    exact h (Zpn n _ _ s (by simp))
   rw [Zho hne]
   exact Zpb n _ _ h
theorem ZC2 {m:Nat} {ids:List Nat} (h:s ∉ ids):Zc (σ.set s b) m ids=Zc σ m ids:=by
 funext t g
 unfold Zc
 split
 ·rename_i j hj
  obtain ⟨k,_,hk⟩:=ZpW hj
  have : s≠t:=by rintro rfl;exact h (XN hk)
  rw [XB,if_neg this]
 ·rfl
theorem ZvA {m:Nat} {ids:List Nat} {ρ:Rho}:∀ (ts:List Nat) (j:Nat),s ∉ ts->Ze (σ.set s b) m ids ρ ts j=Ze σ m ids ρ ts j
 | [],_,_=>rfl
 | t::ts,j,h=>by
  simp only [XV,not_or] at h
  simp only [Ze,Zho h.1,ZvA ts (j+1) h.2]
theorem Ztk {ids:List Nat} (h:s ∉ ids):∀ (hp:Za) (j:Nat),Za4 (σ.set s b) ids hp j=Za4 σ ids hp j
 | [],_=>rfl
 | x::xs,j=>by
  simp only [Za4,Ztk h xs (j+1)]
  congr 2
  split
  ·rename_i t ht
   have : s≠t:=by rintro rfl;exact h (XN ht)
   rw [Zho this]
  ·rfl
theorem Zr3:∀ (n sq:Nat),(∀ i,i < n->sq+i≠s)->ZaN (σ.set s b) sq n=ZaN σ sq n
 | 0,_,_=>rfl
 | n+1,sq,h=>by
  have h0:=h 0 (by omega)
  simp only [ZaN,freeAt]
  rw [XB,if_neg (by intro e;exact h0 (by simpa using e.symm)),Zr3 n (sq+1) (fun i hi=>by have:=h (i+1) (by omega);rwa [show sq+1+i=sq+(i+1) by omega])]
theorem ZsS {ids:List Nat} (h:s ∉ ids):ZaM (σ.set s b) ids sq=ZaM σ ids sq:=by
 funext j g
 unfold ZaM
 split
 ·rename_i t ht
  have : s≠t:=by rintro rfl;exact h (XN ht)
  rw [Zho this]
 ·rfl
theorem Zuf {σ0:Za} {ids:List Nat} (h:s ∉ ids):∀ (hp:Za) (j:Nat) (σ:Za),(∀ i,i < hp.length->ZaH ids sq (j+i)≠s)->ZaR (σ0.set s b) ids sq hp j (σ.set s b)=(ZaR σ0 ids sq hp j σ).set s b
 | [],_,_,_=>rfl
 | x::xs,j,σ,hn=>by
  have h0:=hn 0 (by simp)
  simp only [Wx] at h0
  have eg:Za1 (σ0.set s b) ids j x=Za1 σ0 ids j x:=by
   unfold Za1
   split
   ·rename_i t ht
    have : s≠t:=by rintro rfl;exact h (XN ht)
    rw [Zho this]
   ·rfl
  simp only [ZaR,ZsS h,eg]
  rw [Xam _ _ (W0 h0)]
  exact Zuf h xs (j+1) _ (fun i hi=>by have:=hn (i+1) (by simp;omega);rwa [show j+1+i=j+(i+1) by omega])
theorem Zvw:∀ (ids:List Nat),s ∉ ids->Za7 (σ.set s b) ids=Za7 σ ids
 | [],_=>rfl
 | t::ts,h=>by
  simp only [XV,not_or] at h
  simp only [Za7,XB,if_neg h.1,Zvw ts h.2]
theorem ZK9 {ρ:Rho} {g:Nat} {x:Z5} (h:okB x=true):Zf ρ g x≠.free:=by
 cases x <;> simp [okB] at h <;> simp [Zf]
theorem ZnH {σ0:Za} {ids:List Nat}:∀ (hp:Za) (j:Nat) (σ:Za),Za4 σ0 ids hp j=true->(ZaR σ0 ids sq hp j σ)[s]?=some .free->σ[s]?=some .free
 | [],_,_,_,h=>h
 | x::xs,j,σ,hk,h=>by
  simp only [Za4,XE] at hk
  simp only [ZaR] at h
  have:=ZnH xs (j+1) _ hk.2 h
  rw [XB] at this
  split at this
  ·split at this
   ·injection this with this;exact absurd this (ZK9 hk.1.1)
   ·cases this
  ·exact this
theorem ZBs {ts:List Nat} (h:ZeJ σ ts) (hs:σ[s]?=some .free):s ∉ ts:=by
 intro hm
 obtain ⟨x,hx,hne⟩:=h s hm
 rw [hs] at hx;injection hx with hx;exact hne hx.symm
theorem ZuH {f own:Nat} {view:Bool} {args:List AVal} {v:AVal} {c:Cls} (h:ZQ O bf σ sq f own view args=some (v,σ',c)) (hs':σ'[s]?=some .free) (hne:∀ i,i < own->sq+i≠s) :
  σ[s]?=some .free/\ZQ O bf (σ.set s b) sq f own view args=some (v,σ'.set s b,c):=by
 unfold ZQ at h
 split at h
 ·cases h
 rename_i xs ts hsh
 have hnf:ZeJ σ ts:=by
  unfold ZcK at hsh
  split at hsh
  ·simp only [Xa,Xg] at hsh
   rw [<-hsh.2];exact Zdo
  ·exact (ZmC hsh).nonfree
 have hag:∀ σ2,Agree σ σ2 ts->ZcK (bf f) σ2 args=some (xs,ts):=by
  intro σ2 hA
  unfold ZcK at hsh ⊢
  split at hsh
  ·rename_i hb;rw [if_pos hb];exact hsh
  ·rename_i hb;rw [if_neg hb];exact Zof hsh hA
 generalize hids:Zd (ZS σ ts) 1000 (ZP xs) []=ids at h
 unfold Zb8 at h
 split at h
 case isFalse=>cases h
 rename_i hall
 generalize hq:ZaG view ids.length (O f (ZR (Zc (ZS σ ts) 0 ids) xs) (Ze (ZS σ ts) 0 ids (Zc (ZS σ ts) 0 ids) ids 0))=q at h
 have key:σ[s]?=some .free->s ∉ ts/\s ∉ ids/\ZQ O bf (σ.set s b) sq f own view args=Zbf (σ.set s b) ((ZS σ ts).set s b) ids ts sq own q:=by
  intro hs
  have n1:=ZBs hnf hs
  have hsf:(ZS σ ts)[s]?=some .free:=(ZgG ts σ).2 hs
  have n2:s ∉ ids:=by
   intro hm
   have:=X1.1 hall s hm
   rw [Xz,hsf] at this
   simp [okB] at this
  refine ⟨n1,n2,?_⟩
  unfold ZQ
  rw [hag _ (fun t ht=>by rw [XB,if_neg (by rintro rfl;exact n1 ht)])]
  simp only
  rw [ZpD ts σ n1,Zpb _ _ _ (by rw [hids];exact n2),hids]
  unfold Zb8
  have hall2:(ids.all fun t=>okB (((ZS σ ts).set s b).getD t .free))=true:=by
   rw [X1] at hall ⊢
   intro t ht
   rw [Zho (by rintro rfl;exact n2 ht)]
   exact hall t ht
  rw [if_pos hall2,ZC2 n2,ZvA ids 0 n2,hq]
 cases q with
 | none=>simp only [Zbf] at h;cases h
 | some q =>
  obtain ⟨r,hp⟩:=q
  simp only [Zbf] at h
  split at h
  ·rename_i hc
   split at h
   ·rename_i hf
    simp only [Xa,Xg] at h
    obtain ⟨rfl,rfl,rfl⟩:=h
    obtain ⟨n1,n2,k⟩:=key hs'
    refine ⟨hs',?_⟩
    rw [k]
    simp only [Zbf,hc,if_true,hf]
   split at h
   ·rename_i hf hap
    simp only [Xa,Xg] at h
    obtain ⟨rfl,rfl,rfl⟩:=h
    obtain ⟨n1,n2,k⟩:=key hs'
    refine ⟨hs',?_⟩
    have hap2:Zd4 (σ.set s b) ts r=true:=by
     unfold Zd4 at hap ⊢
     simp only [XE] at hap ⊢
     refine ⟨hap.1,X1.2 fun t ht=>?_⟩
     have:=X1.1 hap.2 t ht
     unfold Zg7 at this ⊢
     rw [XB,if_neg (by rintro rfl;exact n1 ht)];exact this
    rw [k]
    simp only [Zbf,hc,if_true,hf,hap2,if_false,Xq]
   ·rename_i hf hap
    simp only [Xa,Xg] at h
    obtain ⟨rfl,rfl,rfl⟩:=h
    have hs:=(ZgG ts σ).1 hs'
    obtain ⟨n1,n2,k⟩:=key hs
    refine ⟨hs,?_⟩
    have hap2:¬Zd4 (σ.set s b) ts r=true:=by
     intro h2
     refine hap ?_
     unfold Zd4 at h2 ⊢
     simp only [XE] at h2 ⊢
     refine ⟨h2.1,X1.2 fun t ht=>?_⟩
     have:=X1.1 h2.2 t ht
     unfold Zg7 at this ⊢
     rw [XB,if_neg (by rintro rfl;exact n1 ht)] at this;exact this
    rw [k]
    simp only [Zbf,hc,if_true,hf,if_neg hap2,if_false,Xq]
  ·rename_i hc
   split at h
   ·rename_i lo n k xs' hcl
    simp only [Xa,Xg] at h
    obtain ⟨rfl,rfl,rfl⟩:=h
    have hown:own=1:=by
     split at hcl
     case isFalse=>cases hcl
     unfold Zh4 at hcl
     split at hcl
     case h_2=>cases hcl
     split at hcl
     case isFalse=>cases hcl
     rename_i hcc
     simp only [XE,decide_eq_true_eq] at hcc
     exact hcc.1
    have hns:sq≠s:=by have:=hne 0 (by omega);simpa using this
    have hs:σ[s]?=some .free:=by rwa [XB,if_neg hns] at hs'
    obtain ⟨n1,n2,kk⟩:=key hs
    refine ⟨hs,?_⟩
    rw [kk]
    simp only [Zbf]
    rw [if_neg hc,hcl]
    simp only
    rw [Xam _ _ (W0 hns)]
   split at h
   ·rename_i hcl hcc
    simp only [Xa,Xg] at h
    obtain ⟨rfl,rfl,rfl⟩:=h
    simp only [XE,decide_eq_true_eq] at hcc
    obtain ⟨⟨⟨c1,c2⟩,c3⟩,c4⟩:=hcc
    have hs:=(ZgG ts σ).1 (ZnH hp 0 _ c3 hs')
    obtain ⟨n1,n2,kk⟩:=key hs
    refine ⟨hs,?_⟩
    rw [kk]
    have htg:∀ i,i < hp.length->ZaH ids sq (0+i)≠s:=by
     intro i hi e
     rw [XX] at e
     unfold ZaH at e
     rw [Xz] at e
     rcases XaP i ids.length with hl | hl
     ·rw [XY hl] at e
      simp only [Xai] at e
      exact n2 (e ▸ XaH hl)
     ·rw [Wj hl] at e
      exact hne (i - ids.length) (by omega) e
    simp only [Zbf]
    rw [if_neg hc,hcl]
    simp only [c1,c2,decide_true,Bool.true_and,Ztk n2,c3,Zr3 own sq hne,c4,WD,if_true,ZsS n2,Zuf n2 hp 0 _ htg,Zvw ids n2]
   ·cases h
theorem ZCd {f own:Nat} {view:Bool} {args:List AVal} {v:AVal} {c:Cls} (h:ZQ O bf σ sq f own view args=some (v,σ',c)) (hs:σ'[s]?=some .free):σ[s]?=some .free:=by
 unfold ZQ at h
 split at h
 ·cases h
 rename_i xs ts hsh
 unfold Zb8 at h
 split at h
 case isFalse=>cases h
 generalize Zd (ZS σ ts) 1000 (ZP xs) []=ids at h
 generalize ZaG view ids.length (O f (ZR (Zc (ZS σ ts) 0 ids) xs) (Ze (ZS σ ts) 0 ids (Zc (ZS σ ts) 0 ids) ids 0))=q at h
 cases q with
 | none=>simp only [Zbf] at h;cases h
 | some q =>
  obtain ⟨r,hp⟩:=q
  simp only [Zbf] at h
  split at h
  ·split at h
   ·simp only [Xa,Xg] at h
    rw [h.2.1];exact hs
   split at h
   ·simp only [Xa,Xg] at h
    rw [h.2.1];exact hs
   ·simp only [Xa,Xg] at h
    rw [<-h.2.1] at hs
    exact (ZgG ts σ).1 hs
  ·split at h
   ·simp only [Xa,Xg] at h
    rw [<-h.2.1,XB] at hs
    split at hs
    ·split at hs <;> simp at hs
    ·exact hs
   split at h
   ·rename_i hcc
    simp only [Xa,Xg] at h
    rw [<-h.2.1] at hs
    simp only [XE,decide_eq_true_eq] at hcc
    exact (ZgG ts σ).1 (ZnH hp 0 _ hcc.1.2 hs)
   ·cases h
theorem Zp9 {t:Nat} {cs:List AVal}:∀ {ids:List Nat},(Za7 σ ids).lookup t=some cs->σ[t]?=some (.var cs)
 | [],h=>by simp [Za7] at h
 | u::us,h=>by
  simp only [Za7] at h
  split at h
  ·rename_i cs' hu
   rw [Xy] at h
   split at h
   ·rename_i e
    injection h with h;subst h
    have : t=u:=by simpa using e
    rw [this];exact hu
   ·exact Zp9 h
  ·exact Zp9 h
theorem Zma {t:Nat} {cs:List AVal}:∀ {ids:List Nat},(Za7 σ ids).lookup t=none->t ∈ ids->σ[t]?≠some (.var cs)
 | u::us,h,hm=>by
  intro hv
  simp only [Za7] at h
  rcases XV.1 hm with e | hm
  ·subst e
   rw [hv] at h
   simp only [Xy,beq_self_eq_true] at h
   cases h
  ·split at h
   ·rw [Xy] at h
    split at h
    ·cases h
    ·exact Zma h hm hv
   ·exact Zma h hm hv
theorem ZvJ {σ0:Za} {ids:List Nat} {t:Nat}:∀ (hp:Za) (j:Nat) (σ:Za),(∀ i x,hp[i]?=some x->ZaH ids sq (j+i)=t->∃ cs,x=.var cs)->(∃ cs,σ[t]?=some (.var cs))->∃ cs,(ZaR σ0 ids sq hp j σ)[t]?=some (.var cs)
 | [],_,_,_,h=>h
 | x::xs,j,σ,hv,⟨cs,h⟩=>by
  simp only [ZaR]
  refine ZvJ xs (j+1) _ (fun i y hy e=>hv (i+1) y (by simpa using hy) (by rwa [show j+(i+1)=j+1+i by omega])) ?_
  rw [XB]
  split
  ·rename_i e
   obtain ⟨cs',rfl⟩:=hv 0 x rfl (by simpa using e)
   split
   ·exact ⟨_,rfl⟩
   ·rename_i hl
    rw [e] at hl
    rw [Wj (by omega)] at h;cases h
  ·exact ⟨cs,h⟩
theorem Zxy {f own:Nat} {view:Bool} {args:List AVal} {v:AVal} {c:Cls} (h:ZQ O bf σ sq f own view args=some (v,σ',c)) (ha:c.any=true) {t:Nat} {cs:List AVal} (ht:σ[t]?=some (.var cs)) :
  (c.upd.lookup t=none->σ'[t]?=some (.var cs))/\(∀ cs2,c.upd.lookup t=some cs2->σ'[t]?=some (.var cs2)):=by
 unfold ZQ at h
 split at h
 ·cases h
 rename_i xs ts hsh
 generalize hids:Zd (ZS σ ts) 1000 (ZP xs) []=ids at h
 unfold Zb8 at h
 split at h
 case isFalse=>cases h
 generalize ZaG view ids.length (O f (ZR (Zc (ZS σ ts) 0 ids) xs) (Ze (ZS σ ts) 0 ids (Zc (ZS σ ts) 0 ids) ids 0))=q at h
 cases q with
 | none=>simp only [Zbf] at h;cases h
 | some q =>
  obtain ⟨r,hp⟩:=q
  simp only [Zbf] at h
  split at h
  ·split at h
   ·simp only [Xa,Xg] at h
    rw [<-h.2.2] at ha;cases ha
   split at h
   ·simp only [Xa,Xg] at h
    rw [<-h.2.2] at ha;cases ha
   ·simp only [Xa,Xg] at h
    rw [<-h.2.2] at ha;cases ha
  ·split at h
   ·simp only [Xa,Xg] at h
    rw [<-h.2.2] at ha;cases ha
   split at h
   ·rename_i hcc
    simp only [Xa,Xg] at h
    obtain ⟨_,rfl,rfl⟩:=h
    simp only [XE,decide_eq_true_eq] at hcc
    obtain ⟨⟨⟨c1,c2⟩,c3⟩,c4⟩:=hcc
    have hf:=Zqv ts σ ht
    refine ⟨fun hn=>?_,fun cs2 hc2=>Zp9 hc2⟩
    have tgt:∀ i,i < hp.length->ZaH ids sq (0+i)=t->i < ids.length/\ids[i]?=some t:=by
     intro i hi e
     rw [XX] at e
     unfold ZaH at e
     rw [Xz] at e
     rcases XaP i ids.length with hl | hl
     ·rw [XY hl] at e ⊢
      simp only [Xai] at e
      exact ⟨hl,by rw [e]⟩
     ·rw [Wj hl] at e
      simp only [Xbf] at e
      have:=ZjK c4 (i:=i - ids.length) (by omega)
      rw [e,hf] at this;cases this
    by_cases hm:t ∈ ids
    ·exfalso
     obtain ⟨cs3,h3⟩:=ZvJ (σ0:=ZS σ ts) (sq:=sq) (ids:=ids) (t:=t) hp 0 (ZS σ ts) (fun i x hx e=>by
      obtain ⟨hl,hi⟩:=tgt i (Xu.1 hx).1 e
      have:=(Zgy c3 hx).2
      rw [XX,hi] at this
      simp only at this
      have hk:=this.1
      rw [Xz,hf] at hk
      simp only [Xai] at hk
      cases x <;> simp [Zbk] at hk
      exact ⟨_,rfl⟩) ⟨_,hf⟩
     exact Zma hn hm h3
    ·rw [Zjs (fun i hi e=>hm (by
      obtain ⟨hl,hi⟩:=tgt i hi e
      exact XN hi))]
     exact hf
   ·cases h
end
end
section
open Go.RowKit
section
variable {P:Program} {O:Zat} {bf:Nat->Bool} {tm tm1 tm2:Tms} {σ σ' σ1 σ2:Za} {sq:Nat}
theorem ZqW {d:Option Nat} {v:AVal} {n:Nat} (h:d≠some n):tget (tput tm d v) n=tget tm n:=by
 cases d with
 | none=>rfl
 | some d =>
  have : d≠n:=by rintro rfl;exact h rfl
  simp only [tput,ZjO,this,if_false]
theorem ZrL {a b:Nat} (u v:AVal) (h:a≠b):∀ tm:Tms,tins b v (tins a u tm)=tins a u (tins b v tm)
 | []=>by
  simp only [tins]
  by_cases h1:a < b
  ·have h2:¬b < a:=by omega
   have h3:¬b=a:=by omega
   simp [h1,h2,h3,tins]
  ·have h2:b < a:=by omega
   have h3:¬a=b:=h
   simp [h1,h2,h3,tins]
 | (e,w)::r=>by
  have ih:=ZrL u v h r
  rcases Nat.lt_trichotomy e a with ha | ha | ha <;> rcases Nat.lt_trichotomy e b with hb | hb | hb
  ·rcases Nat.lt_or_gt_of_ne h with hab | hab
   ·have n1:¬b < a:=by omega
    have n2:¬b=a:=by omega
    simp [tins,ha,hb,hab,n1,n2]
   ·have n1:¬a < b:=by omega
    have n2:¬a=b:=h
    simp [tins,ha,hb,hab,n1,n2]
  ·subst hb
   have n1:¬a < e:=by omega
   have n2:¬a=e:=h
   simp [tins,ha,n1,n2]
  ·have n1:¬a < b:=by omega
   have n2:¬a=b:=h
   have n3:¬e < b:=by omega
   have n4:¬e=b:=by omega
   simp [tins,ha,n1,n2,n3,n4]
  ·subst ha
   have n1:¬b < e:=by omega
   have n2:¬b=e:=fun q=>h q.symm
   simp [tins,hb,n1,n2]
  ·exact absurd (ha.symm.trans hb) h
  ·subst ha
   have n3:¬e < b:=by omega
   have n4:¬e=b:=by omega
   simp [tins,n3,n4]
  ·have n1:¬b < a:=by omega
   have n2:¬b=a:=by omega
   have n3:¬e < a:=by omega
   have n4:¬e=a:=by omega
   simp [tins,hb,n1,n2,n3,n4]
  ·subst hb
   have n3:¬e < a:=by omega
   have n4:¬e=a:=by omega
   simp [tins,n3,n4]
  ·have n1:¬e < a:=by omega
   have n2:¬e=a:=by omega
   have n3:¬e < b:=by omega
   have n4:¬e=b:=by omega
   simp [tins,n1,n2,n3,n4,ih]
theorem Zer {a b:Option Nat} (u v:AVal) (h:∀ d,a=some d->b≠some d):tput (tput tm a u) b v=tput (tput tm b v) a u:=by
 cases a with
 | none=>cases b <;> rfl
 | some a =>
  cases b with
  | none=>rfl
  | some b =>
   simp only [tput]
   exact ZrL u v (by rintro rfl;exact h a rfl rfl) tm
theorem ZdQ {g:Option (Nat×Bool)} (h:∀ j b,g=some (j,b)->tget tm j=tget tm1 j):Zbw g tm=Zbw g tm1:=by
 cases g with
 | none=>rfl
 | some g=>simp only [Zbw];rw [h g.1 g.2 rfl]
theorem ZdY {o:AOp} {j:Nat} {b:Bool} (h:o.guard=some (j,b)):j ∈ o.reads:=by simp [AOp.reads,h]
theorem ZgM {o:AOp} {n:Nat} (h:n ∈ o.ins.reads):n ∈ o.reads:=by simp [AOp.reads,h]
theorem ZfP {o:AOp} {v:AVal} {c:Cls} (h:Zad O bf o sq tm σ=some (v,tm1,σ1,c)):tm1=tput tm o.dst v/\∀ tm',(∀ n ∈ o.reads,tget tm n=tget tm' n)->Zad O bf o sq tm' σ=some (v,tput tm' o.dst v,σ1,c):=by
 unfold Zad at h
 split at h
 ·cases h
 ·rename_i hw
  simp only [Xa,Xg] at h
  obtain ⟨rfl,rfl,rfl,rfl⟩:=h
  refine ⟨rfl,fun tm' hr=>?_⟩
  simp only [Zad,ZdQ (g:=o.guard) (tm:=tm') (tm1:=tm) (fun j b hg=>(hr j (ZdY hg)).symm),hw]
 ·rename_i hw
  split at h
  ·rename_i hf
   split at h
   ·rename_i v' σ'' c' he
    simp only [Xa,Xg] at h
    obtain ⟨rfl,rfl,rfl,rfl⟩:=h
    refine ⟨rfl,fun tm' hr=>?_⟩
    simp only [Zad,ZdQ (g:=o.guard) (tm:=tm') (tm1:=tm) (fun j b hg=>(hr j (ZdY hg)).symm),hw]
    rw [if_pos hf,<-ZgQ (tm:=tm) (tm':=tm') (fun n hn=>hr n (ZgM hn)),he]
   ·cases h
  ·cases h
theorem ZhF {o:AOp} {v:AVal} {c:Cls} (h:Zad O bf o sq tm σ=some (v,tm1,σ1,c)) (hn:Zdq c=true) :
  ∃ ob,tm1=tput tm o.dst v/\σ1=Zbd σ sq ob/\(ob.isSome=true->nsite o.ins≠0/\freeAt σ sq=true)/\ob≠some .free/\ZeJ σ c.rd /\
   ∀ tm' σ2,(∀ n ∈ o.reads,tget tm n=tget tm' n)->Agree σ σ2 c.rd->(nsite o.ins≠0->freeAt σ sq=true->freeAt σ2 sq=true)->Zad O bf o sq tm' σ2=some (v,tput tm' o.dst v,Zbd σ2 sq ob,c):=by
 simp only [Zdq,XE,XaJ,WX] at hn
 unfold Zad at h
 split at h
 ·cases h
 ·rename_i hw
  simp only [Xa,Xg] at h
  obtain ⟨rfl,rfl,rfl,rfl⟩:=h
  refine ⟨none,rfl,rfl,by simp,by simp,Zdo,fun tm' σ2 hr _ _=>?_⟩
  simp only [Zad,ZdQ (g:=o.guard) (tm:=tm') (tm1:=tm) (fun j b hg=>(hr j (ZdY hg)).symm),hw,Zbd]
 ·rename_i hw
  split at h
  ·rename_i hf
   split at h
   ·rename_i v' σ'' c' he
    simp only [Xa,Xg] at h
    obtain ⟨rfl,rfl,rfl,rfl⟩:=h
    obtain ⟨ob,e1,e2,e3,e4,e5⟩:=ZKI he hn.1 hn.2
    refine ⟨ob,rfl,e1,fun ho=>⟨e2 ho,?_⟩,e3,e4,fun tm' σ2 hr hA hfr=>?_⟩
    ·have:=e2 ho
     simpa [this] using hf
    ·have hf2:(nsite o.ins == 0 || freeAt σ2 sq)=true:=by
      by_cases h0:nsite o.ins=0
      ·simp [h0]
      ·simp only [WK,beq_iff_eq,h0,false_or] at hf ⊢
       exact hfr h0 hf
     simp only [Zad,ZdQ (g:=o.guard) (tm:=tm') (tm1:=tm) (fun j b hg=>(hr j (ZdY hg)).symm),hw]
     have e5':execI O bf tm σ2 sq o.ins=some (v',Zbd σ2 sq ob,c'):=e5 σ2 hA
     rw [if_pos hf2,<-ZgQ (tm:=tm) (tm':=tm') (fun n hn=>hr n (ZgM hn)),e5']
   ·cases h
  ·cases h
theorem Zev {s:Nat}:freeAt σ s=true↔σ[s]?=some .free:=by
 unfold freeAt
 split
 ·rename_i h;simp [h]
 ·rename_i h
  constructor
  ·intro h';cases h'
  ·intro h';exact absurd h' h
theorem Zjz {s t:Nat} {ob:Option Z5} (h:ob.isSome=true->s≠t):(Zbd σ s ob)[t]?=σ[t]?:=by
 cases ob with
 | none=>rfl
 | some b=>simp only [Zbd];rw [XB,if_neg (h rfl)]
theorem ZLX {s t:Nat} {ob oc:Option Z5} (h:ob.isSome=true->oc.isSome=true->s≠t):Zbd (Zbd σ s ob) t oc=Zbd (Zbd σ t oc) s ob:=by
 cases ob with
 | none=>cases oc <;> rfl
 | some b =>
  cases oc with
  | none=>rfl
  | some c=>simp only [Zbd];exact Xam b c (h rfl rfl)
theorem ZLp {x y:AVal} (h:Z8 x y=true):x=y:=by
 unfold Z8 at h
 split at h
 all_goals first
  | rfl
  | (cases h;done)
  | (simp only [XE,decide_eq_true_eq,beq_iff_eq] at h;simp_all;done)
theorem Zlo {o:AOp} {v:AVal} {c:Cls} (hc:ZU o.ins=true) (h:Zad O bf o sq tm σ=some (v,tm1,σ1,c)) :
  (Zbw o.guard tm=some false/\v=.tup []/\σ1=σ/\c={}) \/
  (Zbw o.guard tm=some true/\(nsite o.ins == 0 || freeAt σ sq)=true/\∃ f own view args,own<=nsite o.ins/\(∀ tm' σ2 v2 σ3 c2,(∀ n ∈ o.reads,tget tm n=tget tm' n)->(nsite o.ins == 0 || freeAt σ2 sq)=true->ZQ O bf σ2 sq f own view args=some (v2,σ3,c2)->Zad O bf o sq tm' σ2=some (v2,tput tm' o.dst v2,σ3,c2))/\ZQ O bf σ sq f own view args=some (v,σ1,c)):=by
 unfold Zad at h
 split at h
 ·cases h
 ·rename_i hw
  simp only [Xa,Xg] at h
  obtain ⟨rfl,rfl,rfl,rfl⟩:=h
  exact XK ⟨hw,rfl,rfl,rfl⟩
 ·rename_i hw
  split at h
  ·rename_i hf
   split at h
   ·rename_i v' σ'' c' he
    simp only [Xa,Xg] at h
    obtain ⟨rfl,rfl,rfl,rfl⟩:=h
    refine XO ⟨hw,hf,?_⟩
    have gen:∀ tm' σ2,(∀ n ∈ o.reads,tget tm n=tget tm' n)->(nsite o.ins == 0 || freeAt σ2 sq)=true->∀ v2 σ3 c2,execI O bf tm σ2 sq o.ins=some (v2,σ3,c2)->Zad O bf o sq tm' σ2=some (v2,tput tm' o.dst v2,σ3,c2):=by
     intro tm' σ2 hr hf2 v2 σ3 c2 he2
     simp only [Zad,ZdQ (g:=o.guard) (tm:=tm') (tm1:=tm) (fun j b hg=>(hr j (ZdY hg)).symm),hw]
     rw [if_pos hf2,<-ZgQ (tm:=tm) (tm':=tm') (fun n hn=>hr n (ZgM hn)),he2]
    cases hins:o.ins with
    | call f own view args =>
     rw [hins] at he gen
     simp only [execI] at he gen
     refine ⟨f,own,view,args.map (·.ev tm),X5 _,fun tm' σ2 v2 σ3 c2 hr hf2 h2=>?_,he⟩
     exact gen tm' σ2 hr hf2 v2 σ3 c2 h2
    | callv x args =>
     rw [hins] at he gen
     simp only [execI] at he
     split at he
     ·rename_i f caps hx
      refine ⟨(if f < 1000000 then f else f - 1000000),4,false,(if f < 1000000 then args.map (·.ev tm)++caps else caps++args.map (·.ev tm)),by simp [nsite],fun tm' σ2 v2 σ3 c2 hr hf2 h2=>?_,he⟩
      refine gen tm' σ2 hr hf2 v2 σ3 c2 ?_
      simp only [execI,hx]
      exact h2
     ·cases he
    | _=>rw [hins] at hc;simp [ZU] at hc
   ·cases h
  ·cases h
theorem ZG7 {o:AOp} {v:AVal} {c:Cls} {s:Nat} (hc:ZU o.ins=true) (h:Zad O bf o sq tm σ=some (v,tm1,σ1,c)) (hs:σ1[s]?=some .free) (hne:∀ i,i < nsite o.ins->sq+i≠s) :
  σ[s]?=some .free/\∀ b tm',(∀ n ∈ o.reads,tget tm n=tget tm' n)->Zad O bf o sq tm' (σ.set s b)=some (v,tput tm' o.dst v,σ1.set s b,c):=by
 have h0:=h
 rcases Zlo hc h with ⟨hw,rfl,rfl,rfl⟩ | ⟨hw,hf,f,own,view,args,ho,gen,hg⟩
 ·refine ⟨hs,fun b tm' hr=>?_⟩
  simp only [Zad,ZdQ (g:=o.guard) (tm:=tm') (tm1:=tm) (fun j b hg=>(hr j (ZdY hg)).symm),hw]
 ·obtain ⟨k1,k2⟩:=ZuH (b:=.free) hg hs (fun i hi=>hne i (by omega))
  refine ⟨k1,fun b tm' hr=>gen tm' _ _ _ _ hr ?_ (ZuH (b:=b) hg hs (fun i hi=>hne i (by omega))).2⟩
  by_cases h0:nsite o.ins=0
  ·simp [h0]
  ·simp only [WK,beq_iff_eq,h0,false_or,Zev] at hf ⊢
   have:=hne 0 (by omega)
   rw [XB,if_neg (by intro e;exact this (by simpa using e.symm))]
   exact hf
theorem ZAc {o:AOp} {v:AVal} {c:Cls} {s:Nat} (hc:ZU o.ins=true) (h:Zad O bf o sq tm σ=some (v,tm1,σ1,c)) (hs:σ1[s]?=some .free):σ[s]?=some .free:=by
 rcases Zlo hc h with ⟨hw,rfl,rfl,rfl⟩ | ⟨hw,hf,f,own,view,args,ho,gen,hg⟩
 ·exact hs
 ·exact ZCd hg hs
theorem Zv4 {o:AOp} {v:AVal} {c:Cls} {t:Nat} {cs:List AVal} (hc:ZU o.ins=true) (h:Zad O bf o sq tm σ=some (v,tm1,σ1,c)) (ha:c.any=true) (ht:σ[t]?=some (.var cs)) :
  (c.upd.lookup t=none->σ1[t]?=some (.var cs))/\(∀ cs2,c.upd.lookup t=some cs2->σ1[t]?=some (.var cs2)):=by
 rcases Zlo hc h with ⟨hw,rfl,rfl,rfl⟩ | ⟨hw,hf,f,own,view,args,ho,gen,hg⟩
 ·cases ha
 ·exact Zxy hg ha ht
theorem Zx3 {σ σ1 : Za} {sq k bytes : Nat} {x y v : AVal} {c : Cls} {t : Nat} {cs : List AVal} (h : ZaI σ sq k bytes x y = some (v, σ1, c)) (hs : sq ≠ t) (ht : σ[t]? = some (.var cs)) : σ1[t]? = some (.var cs) := by
  have key : ∀ (u : Nat) (b : Z5), (u = sq \/ ∃ b0, σ[u]? = some b0 /\ ∀ cs, b0 ≠ .var cs) -> (σ.set u b)[t]? = some (.var cs) := by
    intro u b hu
    rw [XB, if_neg, ht]
    rintro rfl
    rcases hu with rfl | ⟨b0, h1, h2⟩
    . exact hs rfl
    . rw [ht] at h1; injection h1 with h1; exact h2 _ h1.symm
  unfold ZaI at h
  repeat' split at h
  all_goals first
    | (cases h; done)
    | (unfold ZeZ at h
       repeat' split at h
       all_goals first
         | (cases h; done)
         | (simp only [Xa, Xg] at h
            obtain ⟨-, rfl, -⟩ := h
            first
              | exact key _ _ (XK rfl)
              | exact key _ _ (XO ⟨_, by assumption, by simp⟩)))
    | (simp only [Xa, Xg] at h
       obtain ⟨-, rfl, -⟩ := h
       first
         | exact ht
         | exact key _ _ (XK rfl)
         | exact key _ _ (XO ⟨_, by assumption, by simp⟩))
theorem Zxv {o:AOp} {v:AVal} {c:Cls} {t:Nat} {cs:List AVal} (hc:ZV o.ins=true) (h:Zad O bf o sq tm σ=some (v,tm1,σ1,c)) (ht:σ[t]?=some (.var cs)):σ1[t]?=some (.var cs):=by
 unfold Zad at h
 split at h
 ·cases h
 ·simp only [Xa,Xg] at h
  obtain ⟨rfl,rfl,rfl,rfl⟩:=h
  exact ht
 ·split at h
  ·rename_i hf
   split at h
   ·rename_i v' σ'' c' he
    simp only [Xa,Xg] at h
    obtain ⟨rfl,rfl,rfl,rfl⟩:=h
    cases hins:o.ins with
    | app k bytes z x y =>
     rw [hins] at he hf
     simp only [execI] at he
     refine Zx3 he ?_ ht
     rintro rfl
     simp [nsite,freeAt,ht] at hf
    | _=>rw [hins] at hc;simp [ZV] at hc
   ·cases h
  ·cases h
theorem ZsJ {σ σ1 : Za} {sq k bytes : Nat} {x y v : AVal} {c : Cls} {s : Nat} (h : ZaI σ sq k bytes x y = some (v, σ1, c)) (hs : σ1[s]? = some .free) : σ[s]? = some .free := by
  have key : ∀ (u : Nat) (b0 : Z5), b0 ≠ .free -> (σ.set u b0)[s]? = some .free -> σ[s]? = some .free := by
    intro u b0 hb hh
    rw [XB] at hh
    split at hh
    . split at hh
      . injection hh with hh; exact absurd hh hb
      . cases hh
    . exact hh
  unfold ZaI at h
  repeat' split at h
  all_goals first
    | (cases h; done)
    | (unfold ZeZ at h
       repeat' split at h
       all_goals first
         | (cases h; done)
         | (simp only [Xa, Xg] at h
            obtain ⟨-, rfl, -⟩ := h
            exact key _ _ (by simp) hs))
    | (simp only [Xa, Xg] at h
       obtain ⟨-, rfl, -⟩ := h
       first
         | exact hs
         | exact key _ _ (by simp) hs)
theorem ZGW {σ σ1 : Za} {sq k bytes : Nat} {x y v : AVal} {c : Cls} {s : Nat} (ha : c.any = false) (h : ZaI σ sq k bytes x y = some (v, σ1, c)) (hs : σ[s]? = some .free) (hne : sq ≠ s) (b : Z5) : ZaI (σ.set s b) sq k bytes x y = some (v, σ1.set s b, c) := by
  have get : ∀ (t : Nat) (b0 : Z5), σ[t]? = some b0 -> b0 ≠ .free -> (σ.set s b)[t]? = some b0 /\ s ≠ t := by
    intro t b0 h1 h2
    have hst : s ≠ t := by
      rintro rfl
      rw [hs] at h1; injection h1 with h1; exact h2 h1.symm
    exact ⟨by rw [W9 hst]; exact h1, hst⟩
  have hel : ∀ ys us, Zr σ y = some (ys, us) -> Zr (σ.set s b) y = some (ys, us) := by
    intro ys us he
    unfold Zr at he ⊢
    split at he
    . exact he
    . exact he
    . split at he
      . rename_i hr
        rw [(get _ _ hr (by simp)).1]; exact he
      . rename_i hr
        rw [(get _ _ hr (by simp)).1]; exact he
      . cases he
    . cases he
  unfold ZaI at h
  cases he : Zr σ y with
  | none =>
    rw [he] at h
    simp only at h
    unfold ZeZ at h
    repeat' split at h
    all_goals first
      | (cases h; done)
      | (simp only [Xa, Xg] at h
         obtain ⟨-, -, rfl⟩ := h
         cases ha)
  | some z =>
    obtain ⟨ys, us⟩ := z
    rw [he] at h
    simp only at h
    unfold ZaI
    rw [hel _ _ he]
    simp only
    split at h
    case isFalse => cases h
    rename_i hk
    rw [if_pos hk]
    split at h
    . split at h
      case isFalse => cases h
      rename_i h1
      simp only [Xa, Xg] at h
      obtain ⟨rfl, rfl, rfl⟩ := h
      simp only [h1, if_true]
      rw [Xam _ _ hne]
    . split at h
      case isFalse => cases h
      rename_i h1
      simp only [h1, and_self, if_true]
      split at h
      . simp only [Xa, Xg] at h
        obtain ⟨rfl, rfl, rfl⟩ := h
        rfl
      . simp only [Xa, Xg] at h
        obtain ⟨rfl, rfl, rfl⟩ := h
        rw [Xam _ _ hne]
    . split at h
      . rename_i hr
        obtain ⟨g1, g2⟩ := get _ _ hr (by simp)
        rw [g1]
        simp only
        split at h
        case isFalse => cases h
        rename_i h1
        rw [if_pos h1]
        split at h
        . rename_i h2
          rw [if_pos h2]
          simp only [Xa, Xg] at h
          obtain ⟨rfl, rfl, rfl⟩ := h
          rw [Xam _ _ g2]
        . rename_i h2
          rw [if_neg h2]
          split at h
          case isFalse => cases h
          rename_i h3
          rw [if_pos h3]
          simp only [Xa, Xg] at h
          obtain ⟨rfl, rfl, rfl⟩ := h
          rw [Xam _ _ g2]
      . cases h
    . cases h
theorem ZoU {o:AOp} {v:AVal} {c:Cls} (hc:ZV o.ins=true) (h:Zad O bf o sq tm σ=some (v,tm1,σ1,c)) :
  (Zbw o.guard tm=some false/\v=.tup []/\σ1=σ/\c={})\/(freeAt σ sq=true/\∃ k bytes x y,ZaI σ sq k bytes x y=some (v,σ1,c)/\∀ tm' σ2 v2 σ3 c2,(∀ n ∈ o.reads,tget tm n=tget tm' n)->freeAt σ2 sq=true->ZaI σ2 sq k bytes x y=some (v2,σ3,c2)->Zad O bf o sq tm' σ2=some (v2,tput tm' o.dst v2,σ3,c2)):=by
 unfold Zad at h
 split at h
 ·cases h
 ·rename_i hw
  simp only [Xa,Xg] at h
  obtain ⟨rfl,rfl,rfl,rfl⟩:=h
  exact XK ⟨hw,rfl,rfl,rfl⟩
 ·rename_i hw
  split at h
  ·rename_i hf
   split at h
   ·rename_i v' σ'' c' he
    simp only [Xa,Xg] at h
    obtain ⟨rfl,rfl,rfl,rfl⟩:=h
    cases hins:o.ins with
    | app k bytes z x y =>
     have he0:=he
     rw [hins] at he hf
     simp only [execI] at he
     refine XO ⟨by simpa [nsite] using hf,k,bytes,_,_,he,fun tm' σ2 v2 σ3 c2 hr hf2 h2=>?_⟩
     simp only [Zad,ZdQ (g:=o.guard) (tm:=tm') (tm1:=tm) (fun j b hg=>(hr j (ZdY hg)).symm),hw]
     rw [if_pos (by rw [hf2];simp),<-ZgQ (tm:=tm) (tm':=tm') (fun n hn=>hr n (ZgM hn)),hins]
     simp only [execI,h2]
    | _=>rw [hins] at hc;simp [ZV] at hc
   ·cases h
  ·cases h
theorem Zqf {t:Nat} {cs:List AVal}:∀ (ts:List Nat) (σ:Za),σ[t]?=some (.var cs)->(ZS σ ts)[t]?=some (.var cs)
 | [],σ,h=>h
 | u::ts,σ,h=>by
  unfold ZS
  split
  ·rename_i g k xs hu
   refine Zqf ts _ ?_
   rw [XB,if_neg,h]
   rintro rfl
   rw [hu] at h;cases h
  ·exact Zqf ts σ h
theorem ZBg {σ σ1 : Za} {k : Nat} {a x v : AVal} {c : Cls} {t : Nat} {cs : List AVal} (h : stA σ k a x = some (v, σ1, c)) (hw : c.wr.contains t = false) (ht : σ[t]? = some (.var cs)) : σ1[t]? = some (.var cs) := by
  unfold stA at h
  repeat' split at h
  all_goals first
    | (cases h; done)
    | (simp only [Xa, Xg] at h
       obtain ⟨-, rfl, rfl⟩ := h
       simp only [Wo, Xo, XaU, WN, beq_eq_false_iff_ne, ne_eq] at hw
       first
         | (rw [XB, if_neg (fun e => hw e.symm)]; exact ht)
         | (rw [XB, if_neg (fun e => hw.1 e.symm)]; exact Zqf _ _ ht))
theorem Zz4 {σ σ1 : Za} {s kc : Nat} {z m k v : AVal} {c : Cls} {t : Nat} {cs : List AVal} (hs : σ[s]? = some .free) (h : Zdn σ s kc z m k = some (v, σ1, c)) (hw : c.wr.contains t = false) (ht : σ[t]? = some (.var cs)) : σ1[t]? = some (.var cs) := by
  have hne : t ≠ s := by rintro rfl; rw [hs] at ht; cases ht
  unfold Zdn at h
  repeat' split at h
  all_goals first
    | (cases h; done)
    | (simp only [Xa, Xg] at h
       obtain ⟨-, rfl, rfl⟩ := h
       simp only [Wo, Xo, XaU, beq_eq_false_iff_ne, ne_eq] at hw
       first
         | exact ht
         | (rw [XB, if_neg (fun e => hw e.symm), XB, if_neg (fun e => hne e.symm)]; exact ht))
theorem ZKi {σ σ1 : Za} {s kc : Nat} {z m k v : AVal} {c : Cls} {t : Nat} (h : Zdn σ s kc z m k = some (v, σ1, c)) (hw : c.wr.contains t = false) (hne : t ≠ s) : σ1[t]? = σ[t]? := by
  unfold Zdn at h
  repeat' split at h
  all_goals first
    | (cases h; done)
    | (simp only [Xa, Xg] at h
       obtain ⟨-, rfl, rfl⟩ := h
       simp only [Wo, Xo, XaU, beq_eq_false_iff_ne, ne_eq] at hw
       first
         | rfl
         | (rw [XB, if_neg (fun e => hw e.symm), XB, if_neg (fun e => hne e.symm)]))
theorem Zp1 {t:Nat}:∀ (ts:List Nat) (σ:Za),ts.contains t=false->(ZS σ ts)[t]?=σ[t]?
 | [],σ,_=>rfl
 | u::ts,σ,h=>by
  simp only [Wo,WN,beq_eq_false_iff_ne,ne_eq] at h
  unfold ZS
  split
  ·rw [Zp1 ts _ h.2,XB,if_neg (fun e=>h.1 e.symm)]
  ·exact Zp1 ts _ h.2
theorem ZIZ {σ σ1 : Za} {k : Nat} {a x v : AVal} {c : Cls} {t : Nat} (h : stA σ k a x = some (v, σ1, c)) (hw : c.wr.contains t = false) : σ1[t]? = σ[t]? := by
  unfold stA at h
  repeat' split at h
  all_goals first
    | (cases h; done)
    | (simp only [Xa, Xg] at h
       obtain ⟨-, rfl, rfl⟩ := h
       simp only [Wo, Xo, XaU, WN, beq_eq_false_iff_ne, ne_eq] at hw
       first
         | (rw [XB, if_neg (fun e => hw e.symm)])
         | (rw [XB, if_neg (fun e => hw.1 e.symm)]; exact Zp1 _ _ hw.2))
theorem ZDd {o:AOp} {v:AVal} {c:Cls} {t:Nat} (hc:Z1 o.ins=true) (h:Zad O bf o sq tm σ=some (v,tm1,σ1,c)) (hw:c.wr.contains t=false) (hne:t≠sq):σ1[t]?=σ[t]?:=by
 unfold Zad at h
 split at h
 ·cases h
 ·simp only [Xa,Xg] at h
  obtain ⟨rfl,rfl,rfl,rfl⟩:=h
  rfl
 ·split at h
  ·split at h
   ·rename_i v' σ'' c' he
    simp only [Xa,Xg] at h
    obtain ⟨rfl,rfl,rfl,rfl⟩:=h
    cases hins:o.ins with
    | st k x y =>
     rw [hins] at he
     simp only [execI] at he
     exact ZIZ he hw
    | glook kc z m k =>
     rw [hins] at he
     simp only [execI] at he
     exact ZKi he hw hne
    | _=>rw [hins] at hc;simp [Z1] at hc
   ·cases h
  ·cases h
theorem ZyT {o:AOp} {v:AVal} {c:Cls} {t:Nat} {cs:List AVal} (hc:Z1 o.ins=true) (hw:c.wr.contains t=false) (h:Zad O bf o sq tm σ=some (v,tm1,σ1,c)) (ht:σ[t]?=some (.var cs)):σ1[t]?=some (.var cs):=by
 unfold Zad at h
 split at h
 ·cases h
 ·simp only [Xa,Xg] at h
  obtain ⟨rfl,rfl,rfl,rfl⟩:=h
  exact ht
 ·split at h
  ·rename_i hf
   split at h
   ·rename_i v' σ'' c' he
    simp only [Xa,Xg] at h
    obtain ⟨rfl,rfl,rfl,rfl⟩:=h
    cases hins:o.ins with
    | st k x y =>
     rw [hins] at he hf
     simp only [execI] at he
     exact ZBg he hw ht
    | glook kc z m k =>
     rw [hins] at he hf
     simp only [execI] at he
     exact Zz4 (by simpa [nsite,Zev] using hf) he hw ht
    | _=>rw [hins] at hc;simp [Z1] at hc
   ·cases h
  ·cases h
theorem Zm2 {o : AOp} {v : AVal} {c ci : Cls} (hl : ZX o.ins = true) (h : Zad O bf o sq tm σ = some (v, tm1, σ1, c)) (hg : ZZ c ci = true) :
    ∃ t k off, c.got = [(t, k, off, v)] /\ σ1 = σ /\ tm1 = tput tm o.dst v /\ (∀ tm' σ2, (∀ n ∈ o.reads, tget tm n = tget tm' n) -> (∃ cs, σ2[t]? = some (.var cs) /\ partA k cs off = some v) -> Zad O bf o sq tm' σ2 = some (v, tput tm' o.dst v, σ2, c)) /\ ∃ cs, σ[t]? = some (.var cs) /\ partA k cs off = some v := by
  unfold Zad at h
  split at h
  . cases h
  . simp only [Xa, Xg] at h
    obtain ⟨rfl, rfl, rfl, rfl⟩ := h
    simp [ZZ] at hg
  . rename_i hw
    split at h
    . rename_i hf
      split at h
      . rename_i v' σ'' c' he
        simp only [Xa, Xg] at h
        obtain ⟨rfl, rfl, rfl, rfl⟩ := h
        cases hins : o.ins with
        | ld k a =>
          rw [hins] at he hf
          simp only [execI] at he
          have he0 := he
          unfold ldA at he
          split at he
          . rename_i t off ha
            split at he
            . rename_i cs hcs
              split at he
              . rename_i v2 hp
                simp only [Xa, Xg] at he
                obtain ⟨rfl, rfl, rfl⟩ := he
                refine ⟨t, k, off, rfl, rfl, rfl, fun tm' σ2 hr ⟨cs2, h1, h2⟩ => ?_, cs, hcs, hp⟩
                simp only [Zad, ZdQ (g := o.guard) (tm := tm') (tm1 := tm) (fun j b hg => (hr j (ZdY hg)).symm), hw]
                rw [if_pos (by rw [hins]; rfl), <- ZgQ (tm := tm) (tm' := tm') (fun n hn => hr n (ZgM hn)), hins]
                simp only [execI, ha, ldA, h1, h2]
              . cases he
            . cases he
          . repeat' split at he
            all_goals first
              | (cases he; done)
              | (simp only [Xa, Xg] at he
                 obtain ⟨rfl, rfl, rfl⟩ := he
                 simp [ZZ] at hg)
          . repeat' split at he
            all_goals first
              | (cases he; done)
              | (simp only [Xa, Xg] at he
                 obtain ⟨rfl, rfl, rfl⟩ := he
                 simp [ZZ] at hg)
          . cases he
        | _ => rw [hins] at hl; simp [ZX] at hl
      . cases h
    . cases h
theorem ZJf {o:AOp} {v:AVal} {c:Cls} {s:Nat} (hc:ZU o.ins=true\/(ZV o.ins=true/\(!c.any)=true)) (h:Zad O bf o sq tm σ=some (v,tm1,σ1,c)) (hs:σ1[s]?=some .free):σ[s]?=some .free:=by
 rcases hc with hc | ⟨hc,_⟩
 ·exact ZAc hc h hs
 ·rcases ZoU hc h with ⟨_,_,rfl,_⟩ | ⟨_,_,_,_,_,ha,_⟩
  ·exact hs
  ·exact ZsJ ha hs
theorem ZDS {o:AOp} {v:AVal} {c:Cls} {s:Nat} (hc:ZU o.ins=true\/(ZV o.ins=true/\(!c.any)=true)) (h:Zad O bf o sq tm σ=some (v,tm1,σ1,c)) (hs:σ1[s]?=some .free) (hne:∀ i,i < nsite o.ins->sq+i≠s) :
  σ[s]?=some .free/\∀ b tm',(∀ n ∈ o.reads,tget tm n=tget tm' n)->Zad O bf o sq tm' (σ.set s b)=some (v,tput tm' o.dst v,σ1.set s b,c):=by
 rcases hc with hc | ⟨hc,hany⟩
 ·exact ZG7 hc h hs hne
 ·have hn:sq≠s:=by
   have : nsite o.ins=1:=by
    cases hins:o.ins with
    | app k bytes z x y=>rfl
    | _=>rw [hins] at hc;simp [ZV] at hc
   simpa using hne 0 (by omega)
  rcases ZoU hc h with ⟨hw,rfl,rfl,rfl⟩ | ⟨hf,k,bytes,x,y,ha,gen⟩
  ·refine ⟨hs,fun b tm' hr=>?_⟩
   simp only [Zad,ZdQ (g:=o.guard) (tm:=tm') (tm1:=tm) (fun j b hg=>(hr j (ZdY hg)).symm),hw]
  ·have h0:=ZsJ ha hs
   refine ⟨h0,fun b tm' hr=>gen tm' _ _ _ _ hr ?_ (ZGW (by simpa using hany) ha h0 hn b)⟩
   rw [Zev] at hf ⊢
   rw [W9 (fun e=>hn e.symm)]
   exact hf
def Frz (σ σ2:Za):Prop:=∀ t:Nat,σ2[t]?=σ[t]?\/∃ (g k:Nat) (xs:List AVal),σ[t]?=some (Z5.row g k xs)/\σ2[t]?=some (Z5.frow g k xs)
theorem Frz.refl (σ:Za):Frz σ σ:=fun _=>XK rfl
theorem ZkW:∀ (ts:List Nat) (σ:Za),Frz σ (ZS σ ts)
 | [],σ=>Frz.refl σ
 | t::ts,σ=>by
  unfold ZS
  split
  ·rename_i g k xs ht
   intro u
   have ih:=ZkW ts (σ.set t (.frow g k xs)) u
   have htl:t < σ.length:=(Xu.1 ht).1
   by_cases e:u=t
   ·subst e
    have e1:(σ.set u (.frow g k xs))[u]?=some (.frow g k xs):=by simp [htl]
    rw [e1] at ih
    rcases ih with ih | ⟨_,_,_,ih,_⟩
    ·exact XO ⟨g,k,xs,ht,ih⟩
    ·cases ih
   ·rw [W9 (fun h=>e h.symm)] at ih
    exact ih
  ·exact ZkW ts σ
theorem Zsy {σ σ2 σ' : Za} {k : Option Nat} {a v : AVal} {c : Cls} (hf : Frz σ σ2) (h : ldA σ k a = some (v, σ', c)) : σ' = σ /\ ldA σ2 k a = some (v, σ2, c) := by
  unfold ldA at h ⊢
  split at h
  . rename_i t o
    rcases hf t with e | ⟨_, _, _, e1, _⟩
    . simp only [e]
      repeat' split at h
      all_goals first
        | (cases h; done)
        | (simp only [Xa, Xg] at h
           obtain ⟨rfl, rfl, rfl⟩ := h
           simp_all)
    . rw [e1] at h; cases h
  . rename_i t g i o
    rcases hf t with e | ⟨g1, k1, xs1, e1, e2⟩
    . simp only [e]
      repeat' split at h
      all_goals first
        | (cases h; done)
        | (simp only [Xa, Xg] at h
           obtain ⟨rfl, rfl, rfl⟩ := h
           simp_all)
    . simp only [e1] at h
      simp only [e2]
      repeat' split at h
      all_goals first
        | (cases h; done)
        | (simp only [Xa, Xg] at h
           obtain ⟨rfl, rfl, rfl⟩ := h
           simp_all)
  . repeat' split at h
    all_goals first
      | (cases h; done)
      | (simp only [Xa, Xg] at h
         obtain ⟨rfl, rfl, rfl⟩ := h
         simp_all)
  . cases h
theorem Zu6 {σ σ2 σ' : Za} {k : Nat} {a i v : AVal} {c : Cls} (hf : Frz σ σ2) (h : ZbN σ k a i = some (v, σ', c)) : σ' = σ /\ ZbN σ2 k a i = some (v, σ2, c) := by
  unfold ZbN at h ⊢
  split at h
  . split at h
    . rename_i h0
      rw [if_pos h0]
      split at h
      . repeat' split at h
        all_goals first
          | (cases h; done)
          | (simp only [Xa, Xg] at h
             obtain ⟨rfl, rfl, rfl⟩ := h
             simp_all)
      . rename_i t g p n
        rcases hf t with e | ⟨g1, k1, xs1, e1, e2⟩
        . simp only [e]
          repeat' split at h
          all_goals first
            | (cases h; done)
            | (simp only [Xa, Xg] at h
               obtain ⟨rfl, rfl, rfl⟩ := h
               simp_all)
        . simp only [e1] at h
          simp only [e2]
          repeat' split at h
          all_goals first
            | (cases h; done)
            | (simp only [Xa, Xg] at h
               obtain ⟨rfl, rfl, rfl⟩ := h
               simp_all)
      . cases h
    . cases h
  . cases h
theorem ZAj {o:AOp} {v:AVal} {c:Cls} (hl:Z6 o.ins=true) (h:Zad O bf o sq tm σ=some (v,tm1,σ1,c)) :
  σ1=σ/\tm1=tput tm o.dst v/\∀ tm' σ2,(∀ n ∈ o.reads,tget tm n=tget tm' n)->Frz σ σ2->Zad O bf o sq tm' σ2=some (v,tput tm' o.dst v,σ2,c):=by
 unfold Zad at h
 split at h
 ·cases h
 ·rename_i hw
  simp only [Xa,Xg] at h
  obtain ⟨rfl,rfl,rfl,rfl⟩:=h
  refine ⟨rfl,rfl,fun tm' σ2 hr _=>?_⟩
  simp only [Zad,ZdQ (g:=o.guard) (tm:=tm') (tm1:=tm) (fun j b hg=>(hr j (ZdY hg)).symm),hw]
 ·rename_i hw
  split at h
  ·rename_i hf
   split at h
   ·rename_i v' σ'' c' he
    simp only [Xa,Xg] at h
    obtain ⟨rfl,rfl,rfl,rfl⟩:=h
    cases hins:o.ins with
    | ld k a =>
     rw [hins] at he
     simp only [execI] at he
     have e1:=(Zsy (Frz.refl σ) he).1
     subst e1
     refine ⟨rfl,rfl,fun tm' σ2 hr hz=>?_⟩
     simp only [Zad,ZdQ (g:=o.guard) (tm:=tm') (tm1:=tm) (fun j b hg=>(hr j (ZdY hg)).symm),hw]
     rw [if_pos (by rw [hins];rfl),<-ZgQ (tm:=tm) (tm':=tm') (fun n hn=>hr n (ZgM hn)),hins]
     simp only [execI,(Zsy hz he).2]
    | iaddr k x i =>
     rw [hins] at he
     simp only [execI] at he
     have e1:=(Zu6 (Frz.refl σ) he).1
     subst e1
     refine ⟨rfl,rfl,fun tm' σ2 hr hz=>?_⟩
     simp only [Zad,ZdQ (g:=o.guard) (tm:=tm') (tm1:=tm) (fun j b hg=>(hr j (ZdY hg)).symm),hw]
     rw [if_pos (by rw [hins];rfl),<-ZgQ (tm:=tm) (tm':=tm') (fun n hn=>hr n (ZgM hn)),hins]
     simp only [execI,(Zu6 hz he).2]
    | _=>rw [hins] at hl;simp [Z6] at hl
   ·cases h
  ·cases h
theorem ZEZ {o:AOp} {v:AVal} {c:Cls} (hl:Z4 o.ins=true) (h:Zad O bf o sq tm σ=some (v,tm1,σ1,c)):Frz σ σ1:=by
 unfold Zad at h
 split at h
 ·cases h
 ·simp only [Xa,Xg] at h
  obtain ⟨rfl,rfl,rfl,rfl⟩:=h
  exact Frz.refl _
 ·split at h
  ·split at h
   ·rename_i v' σ'' c' he
    simp only [Xa,Xg] at h
    obtain ⟨rfl,rfl,rfl,rfl⟩:=h
    cases hins:o.ins with
    | bslice own k n z parts =>
     rw [hins] at hl he
     simp only [Z4,WX] at hl
     subst hl
     simp only [execI] at he
     split at he
     ·cases he
     ·rename_i ys ts hv
      split at he
      ·simp only [Xq,if_false,Xa,Xg] at he
       obtain ⟨_,rfl,_⟩:=he
       exact ZkW ts σ
      ·cases he
    | _=>rw [hins] at hl;simp [Z4] at hl
   ·cases h
  ·cases h
theorem ZDP {f own:Nat} {view:Bool} {args:List AVal} {v:AVal} {c:Cls} (h:ZQ O bf σ sq f own view args=some (v,σ',c)) (ha:c.any=true) {t:Nat} {cs:List AVal} (hn:c.upd.lookup t=none) (hlt:t < sq) (ht:σ'[t]?=some (.var cs)):σ[t]?=some (.var cs):=by
 unfold ZQ at h
 split at h
 ·cases h
 rename_i xs ts hsh
 generalize hids:Zd (ZS σ ts) 1000 (ZP xs) []=ids at h
 unfold Zb8 at h
 split at h
 case isFalse=>cases h
 generalize ZaG view ids.length (O f (ZR (Zc (ZS σ ts) 0 ids) xs) (Ze (ZS σ ts) 0 ids (Zc (ZS σ ts) 0 ids) ids 0))=q at h
 cases q with
 | none=>simp only [Zbf] at h;cases h
 | some q =>
  obtain ⟨r,hp⟩:=q
  simp only [Zbf] at h
  split at h
  ·split at h
   ·simp only [Xa,Xg] at h
    rw [<-h.2.2] at ha;cases ha
   split at h
   ·simp only [Xa,Xg] at h
    rw [<-h.2.2] at ha;cases ha
   ·simp only [Xa,Xg] at h
    rw [<-h.2.2] at ha;cases ha
  ·split at h
   ·simp only [Xa,Xg] at h
    rw [<-h.2.2] at ha;cases ha
   split at h
   ·rename_i hcc
    simp only [Xa,Xg] at h
    obtain ⟨_,rfl,rfl⟩:=h
    have hm:t ∉ ids:=fun hm=>Zma hn hm ht
    rw [Zjs (fun i hi e=>by
     rw [XX] at e
     unfold ZaH at e
     rw [Xz] at e
     rcases XaP i ids.length with hl | hl
     ·rw [XY hl] at e
      simp only [Xai] at e
      exact hm (e ▸ XaH hl)
     ·rw [Wj hl] at e
      simp only [Xbf] at e
      omega)] at ht
    rcases ZkW ts σ t with e | ⟨g1,k1,xs1,e1,e2⟩
    ·rw [<-e];exact ht
    ·rw [e2] at ht;cases ht
   ·cases h
theorem ZFT {o:AOp} {v:AVal} {c:Cls} {t:Nat} {cs:List AVal} (hc:ZU o.ins=true) (h:Zad O bf o sq tm σ=some (v,tm1,σ1,c)) (ha:c.any=true) (hn:c.upd.lookup t=none) (hlt:t < sq) (ht:σ1[t]?=some (.var cs)):σ[t]?=some (.var cs):=by
 rcases Zlo hc h with ⟨hw,rfl,rfl,rfl⟩ | ⟨hw,hf,f,own,view,args,ho,gen,hg⟩
 ·cases ha
 ·exact ZDP hg ha hn hlt ht
theorem ZCi {σ σ1 : Za} {sq k bytes : Nat} {x y v : AVal} {c : Cls} (h : ZaI σ sq k bytes x y = some (v, σ1, c)) (ha : c.any = false) {t : Nat} (hw : c.wr.contains t = false) (hs : t ≠ sq) : σ1[t]? = σ[t]? := by
  unfold ZaI at h
  split at h
  . unfold ZeZ at h
    repeat' split at h
    all_goals first
      | (cases h; done)
      | (simp only [Xa, Xg] at h
         obtain ⟨_, _, rfl⟩ := h
         cases ha)
  . repeat' split at h
    all_goals first
      | (cases h; done)
      | (simp only [Xa, Xg] at h
         obtain ⟨_, rfl, rfl⟩ := h
         first
         | rfl
         | (rw [W9 (fun e => hs e.symm)])
         | (rw [W9 (by rintro rfl; simp at hw)]))
theorem Ztj {oj oi:AOp} {sj si:Nat} {vj vi:AVal} {cj ci:Cls} (hj:Zad O bf oj sj tm σ=some (vj,tm1,σ1,cj)) (hi:Zad O bf oi si tm1 σ1=some (vi,tm2,σ2,ci)) (hap:oj.apartT oi=true)
  (hp:ZcQ oj oi cj ci sj=true) (hs:nsite oj.ins≠0->nsite oi.ins≠0->sj≠si) (hs2:sj+nsite oj.ins<=si):∃ tm1' σ1',Zad O bf oi si tm σ=some (vi,tm1',σ1',ci)/\Zad O bf oj sj tm1' σ1'=some (vj,tm2,σ2,cj):=by
 have hd:(∀ d,oj.dst=some d->d ∉ oi.reads)/\(∀ d,oj.dst=some d->oi.dst≠some d)/\(∀ d,oi.dst=some d->d ∉ oj.reads):=by
  unfold AOp.apartT at hap
  simp only [XE] at hap
  refine ⟨fun d hd hr=>?_,fun d hd he=>?_,fun d hd hr=>?_⟩
  ·have:=hap.1;rw [hd] at this;simp [hr] at this
  ·have:=hap.1;rw [hd] at this;simp [he] at this
  ·have:=hap.2;rw [hd] at this;simp [hr] at this
 obtain ⟨d1,d2,d3⟩:=hd
 have rdI:∀ v n,n ∈ oi.reads->tget (tput tm oj.dst v) n=tget tm n:=fun v n hn=>ZqW (by intro e;exact d1 n e hn)
 have rdJ:∀ v n,n ∈ oj.reads->tget tm n=tget (tput tm oi.dst v) n:=fun v n hn=>(ZqW (by intro e;exact d3 n e hn)).symm
 unfold ZcQ at hp
 simp only [WK,XE] at hp
 have noWr_of:∀ {o:AOp} {c:Cls},Zck o c=true->Zdq c=true/\c.rd=[]/\nsite o.ins=0:=by
  intro o c h
  simp only [Zck,XE,beq_iff_eq,XaJ] at h
  exact ⟨by simp [Zdq,h.1.2,h.2],h.1.1.2,h.1.1.1⟩
 rcases hp with (((((((hp | hp) | ⟨⟨hp1,hp2⟩,hp3⟩) | ⟨hp1,hp2,hp3⟩) | ⟨⟨⟨hp1,hp2⟩,hp3⟩,hp4⟩) | ⟨⟨hp1,hp2⟩,hp4⟩) | ⟨hp1,hp2⟩) | ⟨⟨⟨hp1,hp2⟩,hp3⟩,hp4⟩) | ⟨⟨⟨hp1,hp3⟩,hp4⟩,hp5⟩
 ·obtain ⟨w1,w2,w3⟩:=noWr_of hp
  obtain ⟨ob,rfl,rfl,e3,_,_,e6⟩:=ZhF hj w1
  have hob:ob=none:=by
   cases ob with
   | none=>rfl
   | some b=>exact absurd w3 (e3 rfl).1
  subst hob
  simp only [Zbd] at hi e6 ⊢
  obtain ⟨rfl,f2⟩:=ZfP hi
  have g1:=f2 tm (rdI vj)
  refine ⟨_,_,g1,?_⟩
  rw [e6 _ σ2 (rdJ vi) (by rw [w2];intro t ht;simp at ht) (fun h=>absurd w3 h),Zer vi vj (fun d hd he=>d2 d he hd)]
 ·obtain ⟨w1,w2,w3⟩:=noWr_of hp
  obtain ⟨ob,rfl,rfl,e3,_,_,e6⟩:=ZhF hi w1
  have hob:ob=none:=by
   cases ob with
   | none=>rfl
   | some b=>exact absurd w3 (e3 rfl).1
  subst hob
  simp only [Zbd] at e6 ⊢
  obtain ⟨rfl,f2⟩:=ZfP hj
  have g1:=e6 tm σ (rdI vj) (by rw [w2];intro t ht;simp at ht) (fun h=>absurd w3 h)
  refine ⟨_,_,g1,?_⟩
  rw [f2 _ (rdJ vi),Zer vi vj (fun d hd he=>d2 d he hd)]
 ·obtain ⟨ob,rfl,rfl,a3,a4,a5,a6⟩:=ZhF hj hp1
  obtain ⟨oc,rfl,rfl,b3,b4,b5,b6⟩:=ZhF hi hp2
  have hsne:ob.isSome=true->nsite oi.ins≠0->sj≠si:=fun h1 h2=>hs (a3 h1).1 h2
  have hrdi:∀ t ∈ ci.rd,ob.isSome=true->sj≠t:=by
   intro t ht ho e
   subst e
   rcases hp3 with hp3 | hp3
   ·exact (a3 ho).1 (by simpa using hp3)
   ·simp [ht] at hp3
  have g1:=b6 tm σ (rdI vj) (fun t ht=>(Zjz (hrdi t ht)).symm) (fun h2 hf=>by
   rw [Zev] at hf ⊢
   rwa [Zjz (fun ho=>hsne ho h2)] at hf)
  refine ⟨_,_,g1,?_⟩
  have hsi:oc.isSome=true->σ[si]?=some .free:=by
   intro ho
   have:=(b3 ho).2
   rw [Zev,Zjz (fun ho'=>hsne ho' (b3 ho).1)] at this
   exact this
  rw [a6 _ (Zbd σ si oc) (rdJ vi) (fun t ht=>Zjz (fun ho e=>by
   subst e
   obtain ⟨x,hx,hne⟩:=a5 si ht
   rw [hsi ho] at hx;injection hx with hx;exact hne hx.symm)) (fun h1 hf=>by
   rw [Zev] at hf ⊢
   rwa [Zjz (fun ho=>(hs h1 (b3 ho).1).symm)]),Zer vi vj (fun d hd he=>d2 d he hd),ZLX (fun h1 h2=>(hs (a3 h2).1 (b3 h1).1).symm)]
 ·obtain ⟨oc,rfl,rfl,b3,b4,b5,b6⟩:=ZhF hi hp2
  have hrd:ci.rd=[]:=by simpa using hp3
  obtain ⟨rfl,f2⟩:=ZfP hj
  cases oc with
  | none =>
   simp only [Zbd] at b6 ⊢
   have g1:=b6 tm σ (rdI vj) (by rw [hrd];intro t ht;simp at ht) (fun h1 h2=>by
    rw [Zev] at h2 ⊢
    exact ZJf hp1 hj h2)
   refine ⟨_,_,g1,?_⟩
   rw [f2 _ (rdJ vi),Zer vi vj (fun d hd he=>d2 d he hd)]
  | some b =>
   have hfr:=(b3 rfl).2
   rw [Zev] at hfr
   obtain ⟨k1,k2⟩:=ZDS hp1 hj hfr (fun i hi=>by omega)
   have g1:=b6 tm σ (rdI vj) (by rw [hrd];intro t ht;simp at ht) (fun h1 h2=>by
    rw [Zev] at h2 ⊢;exact k1)
   refine ⟨_,_,g1,?_⟩
   have:=k2 b (tput tm oi.dst vi) (rdJ vi)
   simp only [Zbd]
   rw [this,Zer vi vj (fun d hd he=>d2 d he hd)]
 ·obtain ⟨t,k,o,q1,rfl,rfl,q4,q5⟩:=Zm2 hp1 hj hp4
  obtain ⟨rfl,f2⟩:=ZfP hi
  have g1:=f2 tm (rdI vj)
  refine ⟨_,_,g1,?_⟩
  obtain ⟨cs,q6,q7⟩:=q5
  obtain ⟨r1,r2⟩:=Zv4 hp2 hi hp3 q6
  have hv:∃ cs,σ2[t]?=some (.var cs)/\partA k cs o=some vj:=by
   unfold ZZ at hp4
   rw [q1] at hp4
   simp only at hp4
   split at hp4
   ·rename_i hl;exact ⟨cs,r1 hl,q7⟩
   ·rename_i cs2 hl
    split at hp4
    ·rename_i u hu
     rw [ZLp hp4] at hu
     exact ⟨cs2,r2 cs2 hl,hu⟩
    ·cases hp4
  rw [q4 _ σ2 (rdJ vi) hv,Zer vi vj (fun d hd he=>d2 d he hd)]
 ·obtain ⟨t,k,o,q1,rfl,rfl,q4,q5⟩:=Zm2 hp1 hj hp4
  obtain ⟨rfl,f2⟩:=ZfP hi
  have g1:=f2 tm (rdI vj)
  refine ⟨_,_,g1,?_⟩
  obtain ⟨cs,q6,q7⟩:=q5
  have hk:σ2[t]?=some (.var cs):=by
   rcases hp2 with hp2 | ⟨hp2,hp3⟩
   ·exact Zxv hp2 hi q6
   ·refine ZyT hp2 ?_ hi q6
    unfold Z9 at hp3
    rw [q1] at hp3
    simpa using hp3
  rw [q4 _ σ2 (rdJ vi) ⟨cs,hk,q7⟩,Zer vi vj (fun d hd he=>d2 d he hd)]
 ·obtain ⟨rfl,rfl,q⟩:=ZAj hp1 hj
  obtain ⟨rfl,f2⟩:=ZfP hi
  have g1:=f2 tm (rdI vj)
  refine ⟨_,_,g1,?_⟩
  rw [q _ σ2 (rdJ vi) (ZEZ hp2 hi),Zer vi vj (fun d hd he=>d2 d he hd)]
 ·have hgot:∃ t0 k0 o0 v0,ci.got=[(t0,k0,o0,v0)]/\t0 < sj/\cj.upd.lookup t0=none:=by
   unfold Z7 at hp4
   split at hp4
   ·rename_i t0 k0 o0 v0 hg
    simp only [XE,decide_eq_true_eq,Option.isNone_iff_eq_none] at hp4
    exact ⟨t0,k0,o0,v0,hg,hp4.1,hp4.2⟩
   ·cases hp4
  obtain ⟨t0,k0,o0,v0,hg,hlt,hnone⟩:=hgot
  have hg0:ZZ ci {}=true:=by
   unfold ZZ
   rw [hg]
   rfl
  obtain ⟨rfl,f2⟩:=ZfP hj
  obtain ⟨t,k,o,q1,rfl,rfl,q4,cs,q6,q7⟩:=Zm2 hp2 hi hg0
  rw [hg] at q1
  injection q1 with q1 _
  injection q1 with q1 _
  subst q1
  have hk:=ZFT hp1 hj hp3 hnone hlt q6
  have g1:=q4 tm σ (rdI vj) ⟨cs,hk,q7⟩
  refine ⟨_,_,g1,?_⟩
  rw [f2 _ (rdJ vi),Zer vi vj (fun d hd he=>d2 d he hd)]
 ·obtain ⟨oc,rfl,rfl,b3,b4,b5,b6⟩:=ZhF hi hp3
  have hn0:nsite oi.ins=0:=by simpa using hp4
  have hoc:oc=none:=by
   cases oc with
   | none=>rfl
   | some b=>exact absurd hn0 (b3 rfl).1
  subst hoc
  simp only [Zbd] at b6 ⊢
  obtain ⟨rfl,f2⟩:=ZfP hj
  have far:∀ t ∈ ci.rd,σ[t]?=σ1[t]?:=by
   intro t ht
   have hq:=X1.1 hp5 t ht
   simp only [XE,WX,bne_iff_ne,ne_eq] at hq
   rcases hp1 with ⟨hp1,hp2⟩ | hp1
   ·rcases ZoU hp1 hj with ⟨_,_,rfl,_⟩ | ⟨_,_,_,_,_,ha,_⟩
    ·rfl
    ·exact (ZCi ha (by simpa using hp2) hq.1 hq.2).symm
   ·exact (ZDd hp1 hj hq.1 hq.2).symm
  have g1:=b6 tm σ (rdI vj) far (fun h1 _=>absurd hn0 h1)
  refine ⟨_,_,g1,?_⟩
  rw [f2 _ (rdJ vi),Zer vi vj (fun d hd he=>d2 d he hd)]
inductive Zc3 (O:Zat) (bf:Nat->Bool) (ops:List AOp) (L:Nat) (cs:List Cls):List Nat->Tms->Za->Tms->Za->Prop
 | nil {tm:Tms} {σ:Za}:Zc3 O bf ops L cs [] tm σ tm σ
 | cons {i:Nat} {l:List Nat} {v:AVal} {tm tm1 tm2:Tms} {σ σ1 σ2:Za}:Zad O bf (ops.getD i default) (L+sitesOf (ops.take i)) tm σ=some (v,tm1,σ1,cs.getD i {})->(∀ x,v≠.pan x)->Zc3 O bf ops L cs l tm1 σ1 tm2 σ2->Zc3 O bf ops L cs (i::l) tm σ tm2 σ2
theorem Zn1 (ops:List AOp) {k:Nat} (h:k < ops.length):sitesOf (ops.take (k+1))=sitesOf (ops.take k)+nsite (ops[k]).ins:=by
 rw [List.take_succ_eq_append_getElem h]
 simp only [sitesOf,List.map_append,List.sum_append,XS,List.map_nil,List.sum_cons,List.sum_nil,Wx]
theorem ZrA {ops:List AOp} {L:Nat}:∀ (m k:Nat) {cs cs':List Cls} {tm:Tms} {σ:Za} {tm':Tms} {σ':Za},k+m=ops.length->Zav O bf (ops.drop k) (L+sitesOf (ops.take k)) tm σ=some (tm',σ',cs',none)->(∀ j,cs'.getD j {}=cs.getD (k+j) {})->Zc3 O bf ops L cs (Xa4 k m) tm σ tm' σ'
 | 0,k,cs,cs',tm,σ,tm',σ',hk,h,hcs=>by
  rw [WP (by omega)] at h
  simp only [Zav,Xa,Xg] at h
  obtain ⟨rfl,rfl,rfl,_⟩:=h
  exact Zc3.nil
 | m+1,k,cs,cs',tm,σ,tm',σ',hk,h,hcs=>by
  have hlt:k < ops.length:=by omega
  rw [Xad hlt] at h
  simp only [Zav] at h
  split at h
  ·cases h
  ·simp only [Xa,Xg] at h
   obtain ⟨_,_,_,h⟩:=h
   cases h
  rename_i v tm1 σ1 c hnp h1
  split at h
  ·cases h
  rename_i tm2 σ2 cs2 p h2
  simp only [Xa,Xg] at h
  obtain ⟨rfl,rfl,rfl,rfl⟩:=h
  rw [Xbv]
  have hc0:=hcs 0
  simp only [Xm,Wx] at hc0
  refine Zc3.cons (v:=v) (tm1:=tm1) (σ1:=σ1) ?_ (fun x e=>?_) (ZrA m (k+1) (by omega) (cs':=cs2) ?_ (fun j=>?_))
  ·rw [<-hc0]
   simpa [Xz,hlt] using h1
  ·exact hnp x e
  ·rw [Zn1 ops hlt,<-WW];exact h2
  ·have:=hcs (j+1)
   simp only [Xn] at this
   rw [this]
   congr 1;omega
theorem Znq {ops:List AOp} {L:Nat} {cs:List Cls} {i:Nat} {l2:List Nat}:∀ {l1:List Nat} {tm:Tms} {σ:Za} {tm':Tms} {σ':Za},(∀ j ∈ l1,(ops.getD j default).apartT (ops.getD i default)=true/\ZcQ (ops.getD j default) (ops.getD i default) (cs.getD j {}) (cs.getD i {}) (L+sitesOf (ops.take j))=true/\(nsite (ops.getD j default).ins≠0->nsite (ops.getD i default).ins≠0->L+sitesOf (ops.take j)≠L+sitesOf (ops.take i))/\L+sitesOf (ops.take j)+nsite (ops.getD j default).ins<=L+sitesOf (ops.take i)) ->
  Zc3 O bf ops L cs (l1++i::l2) tm σ tm' σ'->∃ v tm1 σ1,Zad O bf (ops.getD i default) (L+sitesOf (ops.take i)) tm σ=some (v,tm1,σ1,cs.getD i {})/\(∀ x,v≠.pan x)/\Zc3 O bf ops L cs (l1++l2) tm1 σ1 tm' σ'
 | [],tm,σ,tm',σ',_,h=>by
  cases h with
  | cons h1 hn h2=>exact ⟨_,_,_,h1,hn,h2⟩
 | j::l1,tm,σ,tm',σ',hall,h=>by
  cases h with
  | cons h1 hn h2 =>
   obtain ⟨v3,tm3,σ3,h3,hn3,h4⟩:=Znq (l1:=l1) (fun k hk=>hall k (by simp [hk])) h2
   obtain ⟨p1,p2,p3,p4⟩:=hall j (by simp)
   obtain ⟨tm4,σ4,h5,h6⟩:=Ztj h1 h3 p1 p2 p3 p4
   exact ⟨v3,tm4,σ4,h5,hn3,Zc3.cons h6 hn h4⟩
theorem ZvP {ops:List AOp} {L:Nat} {x:AVal}:∀ (m k:Nat) {cs cs':List Cls} {tm:Tms} {σ:Za} {tm':Tms} {σ':Za},k+m=ops.length->Zav O bf (ops.drop k) (L+sitesOf (ops.take k)) tm σ=some (tm',σ',cs',some x)->(∀ j,cs'.getD j {}=cs.getD (k+j) {}) ->
  ∃ n tmJ σJ tmX,n < m/\cs'.length=n+1/\Zc3 O bf ops L cs (Xa4 k n) tm σ tmJ σJ/\Zad O bf (ops.getD (k+n) default) (L+sitesOf (ops.take (k+n))) tmJ σJ=some (.pan x,tmX,σ',cs.getD (k+n) {})
 | 0,k,cs,cs',tm,σ,tm',σ',hk,h,hcs=>by
  rw [WP (by omega)] at h
  simp [Zav] at h
 | m+1,k,cs,cs',tm,σ,tm',σ',hk,h,hcs=>by
  have hlt:k < ops.length:=by omega
  rw [Xad hlt] at h
  simp only [Zav] at h
  have hc0:=hcs 0
  have hg:ops.getD k default=ops[k]:=by simp [Xz,hlt]
  split at h
  ·cases h
  ·rename_i y tm1 σ1 c h1
   simp only [Xa,Xg] at h
   obtain ⟨rfl,rfl,rfl,rfl⟩:=h
   simp only [Xm,Wx] at hc0
   refine ⟨0,tm,σ,tm1,by omega,rfl,Zc3.nil,?_⟩
   rw [Wx,<-hc0,hg]
   exact h1
  rename_i v tm1 σ1 c hnp h1
  split at h
  ·cases h
  rename_i tm2 σ2 cs2 p h2
  simp only [Xa,Xg] at h
  obtain ⟨rfl,rfl,rfl,rfl⟩:=h
  simp only [Xm,Wx] at hc0
  have hnext:Zav O bf (ops.drop (k+1)) (L+sitesOf (ops.take (k+1))) tm1 σ1=some (tm2,σ2,cs2,some x):=by
   rw [Zn1 ops hlt,<-WW]
   exact h2
  obtain ⟨n,tmJ,σJ,tmX,g1,g2,g3,g4⟩:=ZvP m (k+1) (cs:=cs) (by omega) hnext (fun j=>by
   have:=hcs (j+1)
   simp only [Xn] at this
   rw [this];congr 1;omega)
  refine ⟨n+1,tmJ,σJ,tmX,by omega,by simp [g2],?_,?_⟩
  ·rw [Xbv]
   refine Zc3.cons (v:=v) (tm1:=tm1) (σ1:=σ1) ?_ (fun x e=>hnp x e) g3
   rw [<-hc0,hg]
   exact h1
  ·rw [show k+(n+1)=k+1+n by omega]
   exact g4
theorem ZHQ {o:AOp} {v:AVal} {c:Cls} {tm tm1:Tms} {σ σ1:Za} {sq:Nat} (hq:o.ins.touches=false\/ZX o.ins=true) (h:Zad O bf o sq tm σ=some (v,tm1,σ1,c)):σ1=σ:=by
 unfold Zad at h
 split at h
 ·cases h
 ·simp only [Xa,Xg] at h;exact h.2.2.1.symm
 ·split at h
  ·split at h
   ·rename_i he
    simp only [Xa,Xg] at h
    rw [<-h.2.2.1]
    rcases hq with hq | hq
    ·exact ZDR hq he
    ·cases hi:o.ins with
     | ld k a =>
      rw [hi] at he
      simp only [execI] at he
      unfold ldA at he
      repeat' split at he
      all_goals first | (simp only [Xa,Xg] at he;exact he.2.1.symm) | cases he
     | _=>rw [hi] at hq;simp [ZX] at hq
   ·cases h
  ·cases h
theorem Zsk {ops:List AOp} {L:Nat} {cs:List Cls} {i:Nat} {x:AVal} {tmX:Tms} {σX:Za}:∀ {l1:List Nat} {tm:Tms} {σ:Za} {tm':Tms} {σ':Za},(∀ j ∈ l1,((ops.getD j default).ins.touches=false\/ZX (ops.getD j default).ins=true)/\(ops.getD j default).apartT (ops.getD i default)=true/\ZcQ (ops.getD j default) (ops.getD i default) (cs.getD j {}) (cs.getD i {}) (L+sitesOf (ops.take j))=true/\(nsite (ops.getD j default).ins≠0->nsite (ops.getD i default).ins≠0->L+sitesOf (ops.take j)≠L+sitesOf (ops.take i))/\L+sitesOf (ops.take j)+nsite (ops.getD j default).ins<=L+sitesOf (ops.take i)) ->
  Zc3 O bf ops L cs l1 tm σ tm' σ'->Zad O bf (ops.getD i default) (L+sitesOf (ops.take i)) tm' σ'=some (.pan x,tmX,σX,cs.getD i {})->∃ tm1,Zad O bf (ops.getD i default) (L+sitesOf (ops.take i)) tm σ=some (.pan x,tm1,σX,cs.getD i {})
 | [],tm,σ,tm',σ',_,h,hp=>by
  cases h
  exact ⟨_,hp⟩
 | j::l1,tm,σ,tm',σ',hall,h,hp=>by
  cases h with
  | cons h1 hn h2 =>
   obtain ⟨tm3,h3⟩:=Zsk (l1:=l1) (fun k hk=>hall k (by simp [hk])) h2 hp
   obtain ⟨hq,p1,p2,p3,p4⟩:=hall j (by simp)
   obtain ⟨tm4,σ4,h5,h6⟩:=Ztj h1 h3 p1 p2 p3 p4
   have:=ZHQ hq h6
   subst this
   exact ⟨tm4,h5⟩
end
end
section
open Go.RowKit
section
variable {P:Program} {O:Zat} {bf:Nat->Bool} {an:Ann} {base:Nat->Prop} {w0:World} {I0:Imm}
structure Door where
 D:List Deferred
 K:List Nat
 X:Nat->Value
def Door.ok (dr:Door) (a:Act):Prop:=a.defers=dr.D/\∀ j ∈ dr.K,a.tmps.getD j undef=dr.X j
def Zby:Door:=⟨[],[],fun _=>undef⟩
theorem Zez {a:Act}:Zby.ok a↔a.defers=[]:=by simp [Door.ok,Zby]
def StR (dr:Door) (nt:Nat) (base:Nat->Prop) (w0:World) (I0 I:Imm) (β:Bmap) (tm:Tms) (σ:Za) (a:Act) (w:World):Prop :=
 ∃ I' β',I.le I'/\β.le β'/\TR I' β' tm a.tmps/\(dr.ok a/\nt<=a.tmps.size)/\Rel base w0 I0 I' β' σ w
variable {dr:Door}
theorem StR.trans {nt:Nat} {I I1:Imm} {β β1:Bmap} {tm:Tms} {σ:Za} {a:Act} {w:World} (hI:I.le I1) (hβ:β.le β1) (h:StR dr nt base w0 I0 I1 β1 tm σ a w):StR dr nt base w0 I0 I β tm σ a w:=by
 obtain ⟨I',β',h1,h2,h3⟩:=h
 exact ⟨I',β',hI.trans h1,hβ.trans h2,h3⟩
theorem Post.trans {I I1:Imm} {β β1:Bmap} {x:AVal} {σ:Za} {u:Value} {w:World} (hI:I.le I1) (hβ:β.le β1) (h:Post base w0 I0 I1 β1 x σ u w):Post base w0 I0 I β x σ u w:=by
 obtain ⟨I',β',h1,h2,h3⟩:=h
 exact ⟨I',β',hI.trans h1,hβ.trans h2,h3⟩
theorem Zro {I:Imm} {β:Bmap} {tm:Tms} {a:Act} {v:AVal} {u:Value} (T:TR I β tm a.tmps) (hv:VR I β v u) {d:Option Nat} (hd:∀ n,d=some n->n < a.tmps.size):TR I β (tput tm d v) (a.put d u).tmps:=by
 cases d with
 | none=>exact T
 | some d=>exact T.put hv (hd d rfl)
theorem Zkc (a:Act) (d:Option Nat) (u:Value):(a.put d u).defers=a.defers:=by cases d <;> rfl
theorem Zl0 {a:Act} {d:Option Nat} {u:Value} (h:dr.ok a) (hd:∀ n,d=some n->n ∉ dr.K):dr.ok (a.put d u):=by
 refine ⟨(Zkc a d u).trans h.1,fun j hj=>?_⟩
 rw [<-h.2 j hj]
 cases d with
 | none=>rfl
 | some n =>
  have hne:n≠j:=by rintro rfl;exact hd n rfl hj
  simp only [Act.put,WT]
  rw [Wu hne]
theorem ZdR (a:Act) (d:Option Nat) (u:Value):(a.put d u).tmps.size=a.tmps.size:=by cases d <;> simp [Act.put]
theorem Zu2 {I:Imm} {β:Bmap} {tm:Tms} {a:Act} (T:TR I β tm a.tmps) {ops:Array Oper} {o:Oper} {g:Option (Nat×Bool)} (hg:Zkt ops o.guard=some g) {b:Bool} (h:Zbw g tm=some b):Region.wanted o (yielded ops a.tmps)=b:=by
 unfold Zkt at hg
 unfold Region.wanted
 split at hg
 ·rename_i e
  injection hg with hg;subst hg
  simp only [Zbw,Xa] at h
  subst h
  rw [e]
 ·rename_i j want e
  split at hg
  ·rename_i o' ho'
   split at hg
   ·rename_i d hd
    injection hg with hg;subst hg
    rw [e]
    show (yielded ops a.tmps j == some want)=b
    have hy:yielded ops a.tmps j=match a.tmps[d]? with | some (.bool b)=>some b | _=>none:=by
     simp only [yielded,ho',Option.bind_some,hd]
     rfl
    rw [hy]
    have hx:=T d
    rw [WT] at hx
    simp only [Zbw] at h
    split at h
    ·rename_i b' hb'
     rw [hb'] at hx
     simp only [VR] at hx
     have : a.tmps[d]?=some (.bool b'):=by
      cases hq:a.tmps[d]? with
      | none=>rw [hq] at hx;simp [undef] at hx
      | some q=>rw [hq] at hx;simp at hx;subst hx;rfl
     rw [this]
     simp only [Xa] at h
     subst h
     cases b' <;> cases want <;> rfl
    ·rename_i hb'
     rw [hb'] at hx
     simp only [VR,VRs] at hx
     obtain ⟨us,hus,hnil⟩:=hx
     injection h with h;subst h
     cases hq:a.tmps[d]? with
     | none=>rfl
     | some q =>
      rw [hq] at hus;simp at hus;subst hus
      rfl
    ·cases h
   ·cases hg
  ·cases hg
theorem ZnI {ops:Array Oper} {o:Oper} {ao:AOp} (hc:ZgS P an ops o=some ao):∃ g i,Zkt ops o.guard=some g/\(∃ own,ZaA P an own o.op=some i)/\(∀ n,o.dst=some n->n < an.nt/\n ∉ an.keep)/\ao=⟨o.dst,i,g,(o.after.toList.filter (Region.binds .any)).map (·.on)⟩:=by
 unfold ZgS at hc
 split at hc
 ·rename_i g i hg hi
  split at hc
  ·rename_i hd
   injection hc with hc
   refine ⟨g,i,hg,⟨_,hi⟩,fun n hn=>?_,hc.symm⟩
   rw [hn] at hd
   simp only [Zvx,XE,decide_eq_true_eq,WX,List.contains_eq_mem,decide_eq_false_iff_not] at hd
   exact hd
  ·cases hc
 ·cases hc
theorem ZhX (hO:ZaY P O) (hkp:∀ n ∈ dr.K,n ∈ an.keep) {ops:Array Oper} {o:Oper} {ao:AOp} (hc:ZgS P an ops o=some ao) {I:Imm} {β:Bmap} {tm tm':Tms} {σ σ':Za} {a:Act} {w:World} (T:TR I β tm a.tmps) (hd:dr.ok a/\an.nt<=a.tmps.size) (R:Rel base w0 I0 I β σ w) (hb:KLt base w0)
  {sq:Nat} {v:AVal} {c:Cls} (h:Zad O bf ao sq tm σ=some (v,tm',σ',c)) {K:Act->World->Prop} {Q:Exit->Act->World->Prop} (hK:(∀ x,v≠.pan x)->∀ a' w',StR dr an.nt base w0 I0 I β tm' σ' a' w'->K a' w')
  (hQ:∀ x,v=.pan x->∀ u w',Post base w0 I0 I β x σ' u w'->Q (.panic [{ v:=u,recovered:=false }]) a w') :
  if Region.wanted o (yielded ops a.tmps) then o.wp P a w K Q\/(o.asks P a w/\LetsOut Q) else K (a.put o.dst undef) w:=by
 obtain ⟨g,i,hg,⟨own,hi⟩,hdst,rfl⟩:=ZnI hc
 have hdst':∀ n,o.dst=some n->n < a.tmps.size:=fun n hn=>Nat.lt_of_lt_of_le (hdst n hn).1 hd.2
 have hdk:∀ n,o.dst=some n->n ∉ dr.K:=fun n hn hm=>(hdst n hn).2 (hkp n hm)
 unfold Zad at h
 split at h
 ·cases h
 ·rename_i hw
  simp only at hw
  rw [Zu2 T hg hw]
  simp only [Xa,Xg] at h
  obtain ⟨rfl,rfl,rfl,rfl⟩:=h
  simp only [Xq,if_false]
  exact hK (by simp) _ _ ⟨I,β,Imm.le.refl I,Bmap.le.refl β,Zro T (Zj0 I β) hdst',⟨Zl0 hd.1 hdk,by rw [ZdR];exact hd.2⟩,R⟩
 ·rename_i hw
  simp only at hw
  rw [Zu2 T hg hw]
  simp only [if_true]
  split at h
  ·rename_i hf
   split at h
   ·rename_i v' σ1 c' he
    simp only [Xa,Xg] at h
    obtain ⟨rfl,rfl,rfl,rfl⟩:=h
    have hs:nsite i≠0->σ[sq]?=some .free:=by
     intro hn
     simp only [WK,beq_iff_eq] at hf
     exact Zev.1 (hf.resolve_left hn)
    rcases ZLD hO hi T R hb hs he with hok | ⟨x,rfl,hpan⟩
    ·refine XK (hok.wp (fun u w' hp=>?_))
     obtain ⟨I',β',h1,h2,h3,h4⟩:=hp
     refine hK ?_ _ _ ⟨I',β',h1,h2,Zro (T.mono h1 h2) h4 hdst',⟨Zl0 hd.1 hdk,by rw [ZdR];exact hd.2⟩,h3⟩
     rintro x rfl
     simp only [VR] at h4
    ·exact XK (hpan.wp (fun u w' hp=>hQ x rfl u w' hp))
   ·cases h
  ·cases h
theorem ZnS (hO:ZaY P O) (hkp:∀ n ∈ dr.K,n ∈ an.keep) (hb:KLt base w0) {ops:Array Oper} {Q:Exit->Act->World->Prop}:∀ {l:List Oper} {asl:List AOp} {sq:Nat} {I:Imm} {β:Bmap} {tm tm':Tms} {σ σ':Za} {cs:List Cls} {p:Option AVal} {a:Act} {w:World},Zcl P an ops l=some asl->TR I β tm a.tmps->(dr.ok a/\an.nt<=a.tmps.size)->Rel base w0 I0 I β σ w ->
  Zav O bf asl sq tm σ=some (tm',σ',cs,p)->(p=none->∀ a' w',StR dr an.nt base w0 I0 I β tm' σ' a' w'->Q .normal a' w') ->
  (∀ x,p=some x->∀ a' u w',dr.ok a'->Post base w0 I0 I β x σ' u w'->Q (.panic [{ v:=u,recovered:=false }]) a' w')->wpList P ops Q l a w
 | [],asl,sq,I,β,tm,tm',σ,σ',cs,p,a,w,hc,T,hd,R,h,hQ,_=>by
  simp only [Zcl,Xa] at hc;subst hc
  simp only [Zav,Xa,Xg] at h
  obtain ⟨rfl,rfl,rfl,rfl⟩:=h
  exact wpList_nil (hQ rfl _ _ ⟨I,β,Imm.le.refl I,Bmap.le.refl β,T,hd,R⟩)
 | o::l,asl,sq,I,β,tm,tm',σ,σ',cs,p,a,w,hc,T,hd,R,h,hQ,hP=>by
  simp only [Zcl] at hc
  split at hc
  ·rename_i ao hao
   split at hc
   ·rename_i as' has'
    injection hc with hc;subst hc
    simp only [Zav] at h
    split at h
    ·cases h
    ·rename_i x tm1 σ1 c1 h1
     simp only [Xa,Xg] at h
     obtain ⟨rfl,rfl,rfl,rfl⟩:=h
     have:=ZhX (dr:=dr) (K:=wpList P ops Q l) (Q:=Q) hO hkp hao T hd R hb h1 (fun hn=>absurd rfl (hn x)) (fun x' e u w' hp=>by
      injection e with e;subst e
      exact hP x rfl a u w' hd.1 hp)
     unfold wpList
     exact this
    ·rename_i v tm1 σ1 c1 hnp h1
     split at h
     ·cases h
     rename_i tm2 σ2 cs2 p2 h2
     simp only [Xa,Xg] at h
     obtain ⟨rfl,rfl,rfl,rfl⟩:=h
     have:=ZhX (dr:=dr) (K:=wpList P ops Q l) (Q:=Q) hO hkp hao T hd R hb h1 (fun _ a' w' hs=>by
      obtain ⟨I',β',g1,g2,g3,g4,g5⟩:=hs
      exact ZnS hO hkp hb has' g3 g4 g5 h2 (fun hp a'' w'' hs'=>hQ hp a'' w'' (hs'.trans g1 g2)) (fun x hx a'' u w'' hd' hp=>hP x hx a'' u w'' hd' (hp.trans g1 g2))) (fun x e=>absurd e (fun e=>hnp x e))
     unfold wpList
     exact this
   ·cases hc
  ·cases hc
theorem Zjd {ops:Array Oper}:∀ {l:List Oper} {asl:List AOp},Zcl P an ops l=some asl->asl.length=l.length/\∀ (i:Nat) (o:Oper),l[i]?=some o->∃ ao,asl[i]?=some ao/\ZgS P an ops o=some ao
 | [],asl,h=>by simp only [Zcl,Xa] at h;subst h;exact ⟨rfl,fun i o ho=>by simp at ho⟩
 | o::l,asl,h=>by
  simp only [Zcl] at h
  split at h
  ·rename_i ao hao
   split at h
   ·rename_i as' has'
    injection h with h;subst h
    obtain ⟨h1,h2⟩:=Zjd has'
    refine ⟨by simp [h1],fun i o' ho'=>?_⟩
    cases i with
    | zero=>simp only [Xx,Xa] at ho';subst ho';exact ⟨ao,rfl,hao⟩
    | succ i=>simp only [List.getElem?_cons_succ] at ho' ⊢;exact h2 i o' ho'
   ·cases h
  ·cases h
theorem Zql:∀ (ls acc:List (List Nat)),(∀ j p,p ∈ (acc.getD j [])->True)->(Zcg ls acc).take acc.length=acc/\(Zcg ls acc).length=acc.length+ls.length /\
  ∀ j,j < ls.length->∀ p,p ∈ (Zcg ls acc).getD (acc.length+j) []->p ∈ ls.getD j []\/∃ i ∈ ls.getD j [],i < acc.length+j/\p ∈ (Zcg ls acc).getD i []
 | [],acc,_=>by simp [Zcg]
 | l::ls,acc,_=>by
  obtain ⟨h1,h2,h3⟩:=Zql ls (acc++[l++l.flatMap fun i=>acc.getD i []]) (fun _ _ _=>trivial)
  simp only [Zcg]
  have hlen:(acc++[l++l.flatMap fun i=>acc.getD i []]).length=acc.length+1:=by simp
  rw [hlen] at h1 h2 h3
  have hpre:∀ i,i < acc.length+1->(Zcg ls (acc++[l++l.flatMap fun i=>acc.getD i []])).getD i []=(acc++[l++l.flatMap fun i=>acc.getD i []]).getD i []:=by
   intro i hi
   have:=congrArg (fun q:List (List Nat)=>q.getD i []) h1
   simp only [Xz,List.getElem?_take,hi,if_true] at this ⊢
   exact this
  refine ⟨?_,by rw [h2];simp;omega,?_⟩
  ·have:=congrArg (List.take acc.length) h1
   rw [List.take_take,Nat.min_eq_left (by omega)] at this
   rw [this];simp
  ·intro j hj p hp
   cases j with
   | zero =>
    rw [Wx,hpre _ (by omega)] at hp
    simp only [Xz,WY (X5 _),Xab,Xx,Xai,XL,WC] at hp
    rcases hp with hp | ⟨i,hi,hp⟩
    ·exact XK (by simpa using hp)
    ·refine XO ⟨i,by simpa using hi,?_,?_⟩
     ·by_cases hlt:i < acc.length
      ·omega
      ·rw [Wj (by omega)] at hp;simp at hp
     ·have hlt:i < acc.length:=by
       by_cases hlt:i < acc.length
       ·exact hlt
       ·rw [Wj (by omega)] at hp;simp at hp
      rw [hpre i (by omega)]
      simp only [Xz,W1 hlt]
      exact hp
   | succ j =>
    have:=h3 j (by simpa using hj) p (by rw [show acc.length+1+j=acc.length+(j+1) by omega];exact hp)
    rcases this with h | ⟨i,h4,h5,h6⟩
    ·exact XK (by simpa using h)
    ·exact XO ⟨i,by simpa using h4,by omega,h6⟩
theorem ZrD (f:Nat->Nat) (p:Nat):∀ (l:List Nat) (m:Nat),(l.foldl (fun m i=>m ||| 2 ^ i ||| f i) m).testBit p=true->m.testBit p=true\/p ∈ l\/∃ i ∈ l,(f i).testBit p=true
 | [],m,h=>XK h
 | i::l,m,h=>by
  rcases ZrD f p l _ h with h | h | ⟨j,h1,h2⟩
  ·simp only [Nat.testBit_or,WK,Nat.testBit_two_pow,decide_eq_true_eq] at h
   rcases h with (h | h) | h
   ·exact XK h
   ·exact XO (XK (by simp [h]))
   ·exact XO (XO ⟨i,by simp,h⟩)
  ·exact XO (XK (by simp [h]))
  ·exact XO (XO ⟨j,by simp [h1],h2⟩)
theorem Zn0:∀ (ls:List (List Nat)) (accM:List Nat) (accL:List (List Nat)),accM.length=accL.length->(∀ j p,(accM.getD j 0).testBit p=true->p ∈ accL.getD j [])->∀ j p,((Zhq ls accM).getD j 0).testBit p=true->p ∈ (Zcg ls accL).getD j []
 | [],accM,accL,_,h=>h
 | l::ls,accM,accL,hl,h=>by
  simp only [Zhq,Zcg]
  refine Zn0 ls _ _ (by simp [hl]) ?_
  intro j p hp
  by_cases hj:j < accM.length
  ·simp only [Xz,W1 hj] at hp
   simp only [Xz,W1 (show j < accL.length by omega)]
   have:=h j p (by simpa [Xz] using hp)
   simpa [Xz] using this
  ·by_cases hj':j=accM.length
   ·subst hj'
    simp only [Xz,WY (X5 _),Xab,Xx,Xai] at hp
    rw [hl]
    simp only [Xz,WY (X5 _),Xab,Xx,Xai,XL,WC]
    rcases ZrD _ p l 0 hp with h0 | h0 | ⟨i,h1,h2⟩
    ·simp at h0
    ·exact XK h0
    ·refine XO ⟨i,h1,?_⟩
     have:=h i p (by simpa [Xz] using h2)
     simpa [Xz] using this
   ·simp only [Xz] at hp
    rw [Wj (by simp;omega)] at hp
    simp at hp
theorem ZrX {asl:List AOp} {ps:List (Nat×Nat)} (h:ZeP asl=some ps) :
  (∀ i j,i < j->j < asl.length->i ∉ (Zcg (asl.map (·.after)) []).getD j []->(asl.getD i default).apartT (asl.getD j default)=true/\((asl.getD i default).ins.touches=false\/(asl.getD j default).ins.touches=false\/(i,j) ∈ ps))/\(∀ j,j < asl.length->∀ i ∈ (asl.getD j default).after,i < j):=by
 have hsub:=Zn0 (asl.map (·.after)) [] [] rfl (by simp)
 unfold ZeP at h
 simp only at h
 split at h
 ·rename_i hc
  simp only [XE,X1,WC,X0,Wz,Xaq,forall_exists_index,and_imp,WX,decide_eq_true_eq] at hc
  obtain ⟨h1,h2⟩:=hc
  injection h with h
  have hbit:∀ i j,i ∉ (Zcg (asl.map (·.after)) []).getD j []->((Zhq (asl.map (·.after)) []).getD j 0).testBit i=false:=by
   intro i j hn
   cases hb:((Zhq (asl.map (·.after)) []).getD j 0).testBit i with
   | false=>rfl
   | true=>exact absurd (hsub j i hb) hn
  refine ⟨fun i j hij hj hn=>⟨?_,?_⟩,fun j hj i hi=>h2 j hj i hi⟩
  ·exact h1 (i,j) j hj i hij (hbit i j hn) rfl
  ·cases ht1:(asl.getD i default).ins.touches with
   | false=>exact XK rfl
   | true =>
    cases ht2:(asl.getD j default).ins.touches with
    | false=>exact XO (XK rfl)
    | true =>
     refine XO (XO ?_)
     rw [<-h]
     rw [XL]
     refine XK ?_
     simp only [Wz,WC,X0,Xaq,XE]
     exact ⟨⟨j,hj,i,⟨hij,by rw [hbit i j hn];rfl⟩,rfl⟩,ht1,ht2⟩
 ·cases h
theorem ZCG {asl:List AOp} {ps:List (Nat×Nat)} (h:ZeP asl=some ps) {j:Nat} (hm:(j,j) ∈ ps):∀ k,j < k->k < asl.length->j ∈ (Zcg (asl.map (·.after)) []).getD k []:=by
 have hsub:=Zn0 (asl.map (·.after)) [] [] rfl (by simp)
 unfold ZeP at h
 simp only at h
 split at h
 ·injection h with h
  rw [<-h,XL] at hm
  rcases hm with hm | hm
  ·simp only [Wz,WC,X0,Xaq,Xg] at hm
   obtain ⟨⟨a,_,b,⟨hb,_⟩,e1,e2⟩,_⟩:=hm
   omega
  ·simp only [X0,Wz,Xaq,Xg,and_self,XE,X1,WK,decide_eq_true_eq] at hm
   obtain ⟨a,⟨_,_,ha⟩,rfl⟩:=hm
   intro k hk hkl
   rcases ha k hkl with h1 | h1
   ·omega
   ·exact hsub k a h1
 ·cases h
theorem ZKQ {asl:List AOp} {ps:List (Nat×Nat)} (h:ZeP asl=some ps) {j:Nat} (hm:(j,j) ∈ ps):(asl.getD j default).ins.touches=true:=by
 unfold ZeP at h
 simp only at h
 split at h
 ·injection h with h
  rw [<-h,XL] at hm
  rcases hm with hm | hm
  ·simp only [Wz,WC,X0,Xaq,Xg] at hm
   obtain ⟨⟨a,_,b,⟨hb,_⟩,e1,e2⟩,_⟩:=hm
   omega
  ·simp only [X0,Wz,Xaq,Xg,and_self,XE] at hm
   obtain ⟨a,⟨_,hc,_⟩,rfl⟩:=hm
   cases hi:(asl.getD a default).ins <;> rw [hi] at hc <;> first | rfl | (simp [ZU] at hc)
 ·cases h
end
end
section
open Go.RowKit
section
variable {P:Program} {O:Zat} {bf:Nat->Bool} {an:Ann} {base:Nat->Prop} {w0:World} {I0:Imm} {dr:Door}
theorem ZzK {o:AOp} {tm tm1:Tms} {σ σ1:Za} {sq:Nat} {v:AVal} {c:Cls} (ht:o.ins.touches=false) (h:Zad O bf o sq tm σ=some (v,tm1,σ1,c)):c={}:=by
 unfold Zad at h
 split at h
 ·cases h
 ·simp only [Xa,Xg] at h;exact h.2.2.2.symm
 ·split at h
  ·split at h
   ·rename_i he
    simp only [Xa,Xg] at h
    rw [<-h.2.2.2]
    exact (Zv6 ht he).1
   ·cases h
  ·cases h
theorem ZiA {i:Ins} (h:i.touches=false):nsite i=0:=by cases i <;> simp [Ins.touches] at h <;> rfl
theorem Zh6 {asl:List AOp} {L:Nat} {cs:List Cls}:∀ {l:List Nat} {tm tm':Tms} {σ σ':Za},Zc3 O bf asl L cs l tm σ tm' σ'->∀ j ∈ l,(asl.getD j default).ins.touches=false->cs.getD j {}={}
 | [],_,_,_,_,_,j,hj,_=>by simp at hj
 | i::l,_,_,_,_,h,j,hj,ht=>by
  cases h with
  | cons h1 _ h2 =>
   rcases XV.1 hj with rfl | hj
   ·exact ZzK ht h1
   ·exact Zh6 h2 j hj ht
theorem Zhe (asl:List AOp):∀ {j i:Nat},j < i->i<=asl.length->sitesOf (asl.take j)+nsite (asl.getD j default).ins<=sitesOf (asl.take i):=by
 intro j i hji hi
 induction i with
 | zero=>omega
 | succ i ih =>
  rw [Zn1 asl (by omega)]
  by_cases e:j=i
  ·subst e
   simp [Xz,show j < asl.length by omega]
  ·have:=ih (by omega) (by omega);omega
theorem ZJX (hO:ZaY P O) (hkp:∀ n ∈ dr.K,n ∈ an.keep) (hb:KLt base w0) {ops:Array Oper} {asl:List AOp} (hcomp:Zcl P an ops ops.toList=some asl) {ps:List (Nat×Nat)} (hps:ZeP asl=some ps) {L:Nat} {cs:List Cls} (hchk:ZdL asl L ps cs=true)
  {tmF:Tms} {σF:Za} {Q:Exit->Act->World->Prop} {I:Imm} {β:Bmap} (hQ:∀ a' w',StR dr an.nt base w0 I0 I β tmF σF a' w'->Q .normal a' w') :
  ∀ (fuel:Nat) (rem:List Nat) (listed:Array Bool) (a:Act) (w:World) (tm:Tms) (σ:Za),Zc3 O bf asl L cs rem tm σ tmF σF->rem.Pairwise (· < ·)->(∀ j ∈ rem,j < ops.size)->(∀ j,j < ops.size->(listed.getD j true=true↔j ∉ rem))->listed.size=ops.size ->
   (∀ k,k < ops.size->k ∉ rem->∀ p ∈ (Zcg (asl.map (·.after)) []).getD k [],p ∉ rem)->rem.length=fuel->StR dr an.nt base w0 I0 I β tm σ a w->wpAny P .any ops Q fuel listed a w:=by
 obtain ⟨hlen,hget⟩:=Zjd hcomp
 obtain ⟨hp1,hp2⟩:=ZrX hps
 obtain ⟨_,_,hanc⟩:=Zql (asl.map (·.after)) [] (fun _ _ _=>trivial)
 simp only [Wb] at hlen
 have hafter:∀ j o,ops[j]?=some o->∃ ao,asl.getD j default=ao/\ZgS P an ops o=some ao/\ao.after=(o.after.toList.filter (Region.binds .any)).map (·.on)/\ao.dst=o.dst:=by
  intro j o ho
  obtain ⟨ao,h1,h2⟩:=hget j o (by simpa using ho)
  refine ⟨ao,by simp [Xz,h1],h2,?_⟩
  obtain ⟨g,i,_,_,_,rfl⟩:=ZnI h2
  exact ⟨rfl,rfl⟩
 intro fuel
 induction fuel with
 | zero =>
  intro rem listed a w tm σ hr hs hlt hl hsz hcl hfl hst
  have : rem=[]:=X6 hfl
  subst this
  cases hr
  refine ⟨?_,hQ a w hst⟩
  apply List.eq_nil_iff_forall_not_mem.2
  intro j hj
  rw [mem_ready] at hj
  obtain ⟨h1,o,ho,_⟩:=hj
  have hjl:j < ops.size:=(XW.1 ho).1
  have:=(hl j hjl).2 (by simp)
  rw [h1] at this;cases this
 | succ fuel ih =>
  intro rem listed a w tm σ hr hs hlt hl hsz hcl hfl hst
  have isRem:∀ j,j < ops.size->listed.getD j true=false->j ∈ rem:=by
   intro j hj h
   by_cases hm:j ∈ rem
   ·exact hm
   ·have:=(hl j hj).2 hm;rw [h] at this;cases this
  have getD_tf:∀ j,j < ops.size->listed.getD j false=listed.getD j true:=by
   intro j hj
   simp [XaS,hsz,hj]
  refine ⟨fun hnil=>?_,fun i hi=>?_⟩
  ·exfalso
   cases rem with
   | nil=>simp at hfl
   | cons r rs =>
    have hrl:r < ops.size:=hlt r (by simp)
    have hro:ops[r]?=some ops[r]:=by simp [hrl]
    obtain ⟨ao,e1,e2,e3,_⟩:=hafter r _ hro
    have : r ∈ Region.ready .any ops listed:=by
     rw [mem_ready]
     refine ⟨?_,ops[r],hro,fun e he hbnd=>?_⟩
     ·cases hq:listed.getD r true with
      | false=>rfl
      | true=>exact absurd (XaL) ((hl r hrl).1 hq)
     ·have hon:e.on ∈ ao.after:=by rw [e3];exact X0.2 ⟨e,Wz.2 ⟨by simpa using he,hbnd⟩,rfl⟩
      have hlt':e.on < r:=hp2 r (by omega) e.on (by rw [e1];exact hon)
      rw [getD_tf _ (by omega)]
      refine (hl e.on (by omega)).2 (fun hm=>?_)
      rcases XV.1 hm with h | hm
      ·omega
      ·have:=(WR.1 hs).1 e.on hm;omega
    rw [hnil] at this;simp at this
  ·rw [mem_ready] at hi
   obtain ⟨hi0,o,ho,hpre⟩:=hi
   have hil:i < ops.size:=(XW.1 ho).1
   have him:=isRem i hil hi0
   obtain ⟨l1,l2,rfl⟩:=Xbn him
   obtain ⟨ao,e1,e2,e3,e4⟩:=hafter i o ho
   have hdone:∀ p ∈ (asl.getD i default).after,p < ops.size->p ∉ l1++i::l2:=by
    intro p hp hpl
    rw [e1,e3] at hp
    obtain ⟨e,he,rfl⟩:=X0.1 hp
    obtain ⟨he1,he2⟩:=Wz.1 he
    have:=hpre e (by simpa using he1) he2
    rw [getD_tf _ hpl] at this
    exact (hl e.on hpl).1 this
   have hai:(asl.map (·.after)).getD i []=(asl.getD i default).after:=by
    simp [Xz,show i < asl.length by omega]
   have hanci:∀ p ∈ (Zcg (asl.map (·.after)) []).getD i [],p ∉ l1++i::l2:=by
    intro p hp
    have hap:∀ q,q ∈ (asl.map (·.after)).getD i []->q < i:=fun q hq=>hp2 i (by omega) q (by rw [<-hai];exact hq)
    rcases hanc i (by simp;omega) p (by simpa using hp) with h | ⟨q,h1,h2,h3⟩
    ·exact hdone p (by rw [<-hai];exact h) (by have:=hap p h;omega)
    ·have hql:q < ops.size:=by simp at h2;omega
     exact hcl q hql (hdone q (by rw [<-hai];exact h1) hql) p h3
   have hl1:∀ j ∈ l1,j < i:=by
    intro j hj
    have:=WO.1 hs
    exact this.2.2 j hj i (by simp)
   obtain ⟨v1,tm1,σ1,h1,hnp1,h2⟩:=Znq (l1:=l1) (i:=i) (fun j hj=>by
    have hji:=hl1 j hj
    have hjn:j ∉ (Zcg (asl.map (·.after)) []).getD i []:=fun hm=>hanci j hm (by simp [hj])
    obtain ⟨p1,p2⟩:=hp1 j i hji (by omega) hjn
    refine ⟨p1,?_,fun hn _=>?_,?_⟩
    ·rcases p2 with p2 | p2 | p2
     ·have:=Zh6 hr j (by simp [hj]) p2
      have hem:Zck (asl.getD j default) (cs.getD j {})=true:=by rw [this];simp only [Zck,ZiA p2];rfl
      simp only [ZcQ,hem,XaQ]
     ·have:=Zh6 hr i (by simp) p2
      have hem:Zck (asl.getD i default) (cs.getD i {})=true:=by rw [this];simp only [Zck,ZiA p2];rfl
      simp only [ZcQ,hem,XaQ,Xby]
     ·have:=X1.1 hchk (j,i) p2
      simp only [WK,beq_iff_eq] at this
      rcases this with h | h
      ·omega
      ·exact h
    ·have:=Zhe asl hji (by omega)
     omega
    ·have:=Zhe asl hji (by omega)
     omega) hr
   unfold wpOp
   rw [ho]
   rw [e1] at h1
   obtain ⟨I',β',g1,g2,g3,g4,g5⟩:=hst
   refine ZhX hO hkp e2 g3 g4 g5 hb h1 (fun _ a' w' hs'=>ih (l1++l2) _ a' w' tm1 σ1 h2 ?_ ?_ ?_ (by simpa using hsz) ?_ ?_ (hs'.trans g1 g2)) (fun x e=>absurd e (hnp1 x))
   ·have:=WO.1 hs
    exact WO.2 ⟨this.1,(WR.1 this.2.1).2,fun x hx y hy=>this.2.2 x hx y (by simp [hy])⟩
   ·intro j hj
    refine hlt j ?_
    simp only [XL,XV] at hj ⊢
    rcases hj with h | h
    ·exact XK h
    ·exact XO (XO h)
   ·intro j hj
    have hs1:=WO.1 hs
    by_cases hij:i=j
    ·subst hij
     have hn:i ∉ l1++l2:=by
      intro hm
      rcases XL.1 hm with h | h
      ·have:=hl1 i h;omega
      ·have:=(WR.1 hs1.2.1).1 i h;omega
     simp [XaS,hsz,hil,hn]
    ·rw [getD_set_ne true hij,hl j hj]
     simp only [XL,XV,not_or]
     constructor
     ·rintro ⟨a1,_,a3⟩;exact ⟨a1,a3⟩
     ·rintro ⟨a1,a3⟩;exact ⟨a1,fun e=>hij e.symm,a3⟩
   ·intro k hk hkn p hp hm
    have hsub:p ∈ l1++i::l2:=by
     simp only [XL,XV] at hm ⊢
     rcases hm with h | h
     ·exact XK h
     ·exact XO (XO h)
    by_cases hki:k=i
    ·subst hki;exact hanci p hp hsub
    ·refine hcl k hk (fun hkm=>hkn ?_) p hp hsub
     simp only [XL,XV] at hkm ⊢
     rcases hkm with h | h | h
     ·exact XK h
     ·exact absurd h hki
     ·exact XO h
   ·simp at hfl ⊢;omega
theorem ZER (hO:ZaY P O) (hkp:∀ n ∈ dr.K,n ∈ an.keep) (hb:KLt base w0) {ops:Array Oper} {asl:List AOp} (hcomp:Zcl P an ops ops.toList=some asl) {ps:List (Nat×Nat)} (hps:ZeP asl=some ps) {L:Nat} {cs:List Cls} {jp:Nat} (hjl:jp < ops.size) (hmark:(jp,jp) ∈ ps) (hmarkT:(asl.getD jp default).ins.touches=true) (hfree:∀ j i,(j,i) ∈ ps->j < i->i<=jp->ZcQ (asl.getD j default) (asl.getD i default) (cs.getD j {}) (cs.getD i {}) (L+sitesOf (asl.take j))=true) (hquiet:∀ j,(j,jp) ∈ ps->j < jp->ZX (asl.getD j default).ins=true)
  {x:AVal} {σF:Za} {Q:Exit->Act->World->Prop} {I:Imm} {β:Bmap} (hQ:∀ a' u w',dr.ok a'->Post base w0 I0 I β x σF u w'->Q (.panic [{ v:=u,recovered:=false }]) a' w') :
  ∀ (fuel:Nat) (pre post:List Nat) (listed:Array Bool) (a:Act) (w:World) (tm tmJ tmX:Tms) (σ σJ:Za),Zc3 O bf asl L cs pre tm σ tmJ σJ->Zad O bf (asl.getD jp default) (L+sitesOf (asl.take jp)) tmJ σJ=some (.pan x,tmX,σF,cs.getD jp {})->(pre++jp::post).Pairwise (· < ·)->(∀ j ∈ pre++jp::post,j < ops.size)->(∀ j,j < ops.size->(listed.getD j true=true↔j ∉ pre++jp::post))->listed.size=ops.size ->
   (∀ k,k < ops.size->k ∉ pre++jp::post->∀ p ∈ (Zcg (asl.map (·.after)) []).getD k [],p ∉ pre++jp::post)->(pre++jp::post).length=fuel->StR dr an.nt base w0 I0 I β tm σ a w->wpAny P .any ops Q fuel listed a w:=by
 obtain ⟨hlen,hget⟩:=Zjd hcomp
 obtain ⟨hp1,hp2⟩:=ZrX hps
 have hmk:=ZCG hps hmark
 obtain ⟨_,_,hanc⟩:=Zql (asl.map (·.after)) [] (fun _ _ _=>trivial)
 simp only [Wb] at hlen
 have hafter:∀ j o,ops[j]?=some o->∃ ao,asl.getD j default=ao/\ZgS P an ops o=some ao/\ao.after=(o.after.toList.filter (Region.binds .any)).map (·.on)/\ao.dst=o.dst:=by
  intro j o ho
  obtain ⟨ao,h1,h2⟩:=hget j o (by simpa using ho)
  refine ⟨ao,by simp [Xz,h1],h2,?_⟩
  obtain ⟨g,i,_,_,_,rfl⟩:=ZnI h2
  exact ⟨rfl,rfl⟩
 intro fuel
 induction fuel with
 | zero =>
  intro pre post listed a w tm tmJ tmX σ σJ hr hj hs hlt hl hsz hcl hfl hst
  simp at hfl
 | succ fuel ih =>
  intro pre post listed a w tm tmJ tmX σ σJ hr hj hs hlt hl hsz hcl hfl hst
  have getD_tf:∀ j,j < ops.size->listed.getD j false=listed.getD j true:=by
   intro j hj
   simp [XaS,hsz,hj]
  have isRem:∀ j,j < ops.size->listed.getD j true=false->j ∈ pre++jp::post:=by
   intro j hj h
   by_cases hm:j ∈ pre++jp::post
   ·exact hm
   ·have:=(hl j hj).2 hm;rw [h] at this;cases this
  refine ⟨fun hnil=>?_,fun i hi=>?_⟩
  ·exfalso
   obtain ⟨r,rs,hrr⟩:∃ r rs,pre++jp::post=r::rs:=by cases pre <;> simp
   rw [hrr] at hs hlt hl
   have hrl:r < ops.size:=hlt r (by simp)
   have hro:ops[r]?=some ops[r]:=by simp [hrl]
   obtain ⟨ao,e1,e2,e3,_⟩:=hafter r _ hro
   have : r ∈ Region.ready .any ops listed:=by
    rw [mem_ready]
    refine ⟨?_,ops[r],hro,fun e he hbnd=>?_⟩
    ·cases hq:listed.getD r true with
     | false=>rfl
     | true=>exact absurd (XaL) ((hl r hrl).1 hq)
    ·have hon:e.on ∈ ao.after:=by rw [e3];exact X0.2 ⟨e,Wz.2 ⟨by simpa using he,hbnd⟩,rfl⟩
     have hlt':e.on < r:=hp2 r (by omega) e.on (by rw [e1];exact hon)
     rw [getD_tf _ (by omega)]
     refine (hl e.on (by omega)).2 (fun hm=>?_)
     rcases XV.1 hm with h | hm
     ·omega
     ·have:=(WR.1 hs).1 e.on hm;omega
   rw [hnil] at this;simp at this
  ·rw [mem_ready] at hi
   obtain ⟨hi0,o,ho,hpre⟩:=hi
   have hil:i < ops.size:=(XW.1 ho).1
   have him:=isRem i hil hi0
   obtain ⟨ao,e1,e2,e3,e4⟩:=hafter i o ho
   have hdone:∀ p ∈ (asl.getD i default).after,p < ops.size->p ∉ pre++jp::post:=by
    intro p hp hpl
    rw [e1,e3] at hp
    obtain ⟨e,he,rfl⟩:=X0.1 hp
    obtain ⟨he1,he2⟩:=Wz.1 he
    have:=hpre e (by simpa using he1) he2
    rw [getD_tf _ hpl] at this
    exact (hl e.on hpl).1 this
   have hai:(asl.map (·.after)).getD i []=(asl.getD i default).after:=by
    simp [Xz,show i < asl.length by omega]
   have hanci:∀ p ∈ (Zcg (asl.map (·.after)) []).getD i [],p ∉ pre++jp::post:=by
    intro p hp
    have hap:∀ q,q ∈ (asl.map (·.after)).getD i []->q < i:=fun q hq=>hp2 i (by omega) q (by rw [<-hai];exact hq)
    rcases hanc i (by simp;omega) p (by simpa using hp) with h | ⟨q,h1,h2,h3⟩
    ·exact hdone p (by rw [<-hai];exact h) (by have:=hap p h;omega)
    ·have hql:q < ops.size:=by simp at h2;omega
     exact hcl q hql (hdone q (by rw [<-hai];exact h1) hql) p h3
   have hss:=WO.1 hs
   rw [XL,XV] at him
   rcases him with him | hij | him
   ·obtain ⟨l1,l2,rfl⟩:=Xbn him
    have hl1:∀ j ∈ l1,j < i:=by
     intro j hj
     exact (WO.1 hss.1).2.2 j hj i (by simp)
    have hijp:i < jp:=hss.2.2 i (by simp) jp (by simp)
    obtain ⟨v1,tm1,σ1,h1,hnp1,h2⟩:=Znq (l1:=l1) (i:=i) (fun j hj'=>by
     have hji:=hl1 j hj'
     have hjn:j ∉ (Zcg (asl.map (·.after)) []).getD i []:=fun hm=>hanci j hm (by simp [hj'])
     obtain ⟨p1,p2⟩:=hp1 j i hji (by omega) hjn
     refine ⟨p1,?_,fun hn _=>?_,?_⟩
     ·rcases p2 with p2 | p2 | p2
      ·have:=Zh6 hr j (by simp [hj']) p2
       have hem:Zck (asl.getD j default) (cs.getD j {})=true:=by rw [this];simp only [Zck,ZiA p2];rfl
       simp only [ZcQ,hem,XaQ]
      ·have:=Zh6 hr i (by simp) p2
       have hem:Zck (asl.getD i default) (cs.getD i {})=true:=by rw [this];simp only [Zck,ZiA p2];rfl
       simp only [ZcQ,hem,XaQ,Xby]
      ·exact hfree j i p2 hji (by omega)
     ·have:=Zhe asl hji (by omega)
      omega
     ·have:=Zhe asl hji (by omega)
      omega) hr
    have eA:(l1++i::l2)++jp::post=l1++i::(l2++jp::post):=by simp
    have eB:(l1++l2)++jp::post=l1++(l2++jp::post):=by simp
    rw [eA] at hs hlt hl hcl hanci hfl
    unfold wpOp
    rw [ho]
    rw [e1] at h1
    obtain ⟨I',β',g1,g2,g3,g4,g5⟩:=hst
    refine ZhX hO hkp e2 g3 g4 g5 hb h1 (fun _ a' w' hs'=>ih (l1++l2) post _ a' w' tm1 tmJ tmX σ1 σJ h2 hj ?_ ?_ ?_ (by simpa using hsz) ?_ ?_ (hs'.trans g1 g2)) (fun x e=>absurd e (hnp1 x))
    ·rw [eB]
     have:=WO.1 hs
     exact WO.2 ⟨this.1,(WR.1 this.2.1).2,fun x hx y hy=>this.2.2 x hx y (by simp only [XV];exact XO hy)⟩
    ·intro j hj
     rw [eB] at hj
     refine hlt j ?_
     simp only [XL,XV] at hj ⊢
     rcases hj with h | h | h | h
     ·exact XK h
     ·exact XO (XO (XK h))
     ·exact XO (XO (XO (XK h)))
     ·exact XO (XO (XO (XO h)))
    ·intro j hj
     rw [eB]
     generalize l2++jp::post=L2 at *
     have hs1:=WO.1 hs
     by_cases hij:i=j
     ·subst hij
      have hn:i ∉ l1++L2:=by
       intro hm
       rcases XL.1 hm with h | h
       ·have:=hl1 i h;omega
       ·have:=(WR.1 hs1.2.1).1 i h;omega
      simp [XaS,hsz,hil,hn]
     ·rw [getD_set_ne true hij,hl j hj]
      simp only [XL,XV,not_or]
      constructor
      ·rintro ⟨a1,_,a3⟩;exact ⟨a1,a3⟩
      ·rintro ⟨a1,a3⟩;exact ⟨a1,fun e=>hij e.symm,a3⟩
    ·intro k hk hkn p hp hm
     rw [eB] at hkn hm
     generalize l2++jp::post=L2 at *
     have hsub:p ∈ l1++i::L2:=by
      simp only [XL,XV] at hm ⊢
      rcases hm with h | h
      ·exact XK h
      ·exact XO (XO h)
     by_cases hki:k=i
     ·subst hki;exact hanci p hp hsub
     ·refine hcl k hk (fun hkm=>hkn ?_) p hp hsub
      simp only [XL,XV] at hkm ⊢
      rcases hkm with h | h | h
      ·exact XK h
      ·exact absurd h hki
      ·exact XO h
    ·rw [eB];simp at hfl ⊢;omega
   ·subst hij
    have hl1:∀ j ∈ pre,j < i:=fun j hj=>hss.2.2 j hj i (by simp)
    obtain ⟨tm1,h1⟩:=Zsk (l1:=pre) (i:=i) (fun j hj'=>by
     have hji:=hl1 j hj'
     have hjn:j ∉ (Zcg (asl.map (·.after)) []).getD i []:=fun hm=>hanci j hm (by simp [hj'])
     obtain ⟨p1,p2⟩:=hp1 j i hji (by omega) hjn
     have hts:(asl.getD i default).ins.touches=false->False:=fun h=>by
      have:=hmarkT
      rw [h] at this;cases this
     refine ⟨?_,p1,?_,fun hn _=>?_,?_⟩
     ·rcases p2 with p2 | p2 | p2
      ·exact XK p2
      ·exact (hts p2).elim
      ·exact XO (hquiet j p2 hji)
     ·rcases p2 with p2 | p2 | p2
      ·have:=Zh6 hr j hj' p2
       have hem:Zck (asl.getD j default) (cs.getD j {})=true:=by rw [this];simp only [Zck,ZiA p2];rfl
       simp only [ZcQ,hem,XaQ]
      ·exact (hts p2).elim
      ·exact hfree j i p2 hji (X5 _)
     ·have:=Zhe asl hji (by omega)
      omega
     ·have:=Zhe asl hji (by omega)
      omega) hr hj
    unfold wpOp
    rw [ho]
    rw [e1] at h1
    obtain ⟨I',β',g1,g2,g3,g4,g5⟩:=hst
    refine ZhX hO hkp e2 g3 g4 g5 hb h1 (fun hn=>absurd rfl (hn x)) (fun x' e u w' hp=>?_)
    injection e with e
    subst e
    exact hQ a u w' g4.1 (hp.trans g1 g2)
   ·exfalso
    have hlt2:jp < i:=(WR.1 hss.2.1).1 i him
    exact hanci jp (hmk i hlt2 (by omega)) (by simp)
theorem Rel.reserve {I:Imm} {β:Bmap} {σ:Za} {w:World} (R:Rel base w0 I0 I β σ w) (n:Nat):Rel base w0 I0 I β (σ++XZ n .free) w:=by
 have look:∀ t x,(σ++XZ n Z5.free)[t]?=some x->σ[t]?=some x\/(σ.length<=t/\x=.free):=by
  intro t x h
  by_cases ht:t < σ.length
  ·rw [W1 ht] at h;exact XK h
  ·rw [WY (by omega)] at h
   refine XO ⟨by omega,?_⟩
   have:=XN h
   exact List.eq_of_mem_replicate this
 refine ⟨R.below,R.old,R.imm,?_,?_,?_,?_,?_,?_,R.glob,?_⟩
 ·intro t x h
  rcases look t x h with h | ⟨_,rfl⟩
  ·exact R.blk t x h
  ·trivial
 ·intro t x b h hb
  rcases look t x h with h | ⟨_,rfl⟩
  ·exact R.own t x b h hb
  ·cases hb
 ·intro t x t' x' b h h' hb hb'
  rcases look t x h with h | ⟨_,rfl⟩
  ·rcases look t' x' h' with h' | ⟨_,rfl⟩
   ·exact R.apart t x t' x' b h h' hb hb'
   ·cases hb'
  ·cases hb
 ·intro t g h
  exact R.fresh t g (by simp at h;omega)
 ·intro t g h
  rcases look t _ h with h | ⟨h,_⟩
  ·exact R.free t g h
  ·exact R.fresh t g h
 ·intro t x g h hg
  rcases look t _ h with h | ⟨h,_⟩
  ·exact R.gen t x g h hg
  ·exact R.fresh t g h
 ·intro t x b h hb
  rcases look t x h with h | ⟨_,rfl⟩
  ·exact R.ro t x b h hb
  ·cases hb
theorem StR.keep {I:Imm} {β:Bmap} {tm:Tms} {σ:Za} {a:Act} {w:World} (h:StR dr an.nt base w0 I0 I β tm σ a w) (live:List Nat):StR dr an.nt base w0 I0 I β (keepL live tm) σ a w:=by
 obtain ⟨I',β',h1,h2,h3,h4⟩:=h
 exact ⟨I',β',h1,h2,h3.keep live,h4⟩
def Zwe (dr:Door) (an:Ann) (base:Nat->Prop) (w0:World) (I0 I:Imm) (β:Bmap) (e:Za9) (tm:Tms) (σ:Za) (Q:Exit->Act->World->Prop):Prop:=match e with
 | .normal=>∀ a w,StR dr an.nt base w0 I0 I β tm σ a w->Q .normal a w
 | .exit id=>∀ a w,StR dr an.nt base w0 I0 I β tm σ a w->Q (.exit id) a w
 | .ret=>∀ a w,StR dr an.nt base w0 I0 I β tm σ a w->Q .ret a w
 | .panic x=>∀ a u w,dr.ok a->Post base w0 I0 I β x σ u w->Q (.panic [{ v:=u,recovered:=false }]) a w
theorem ZmG (hO:ZaY P O) (hkp:∀ n ∈ dr.K,n ∈ an.keep) (hm:P.follows .mixedOrders=true) (hb:KLt base w0) {id:Nat} {ops:Array Oper} {draw:Bool} {asl:List AOp} {chk:Option (List (Nat×Nat))} {live:List Nat} (hc:Za2 P an (.region id ops draw)=.region asl chk live) {I:Imm} {β:Bmap} {tm tm':Tms} {σ σ':Za} {a:Act} {w:World} {e:Za9}
  (hst:StR dr an.nt base w0 I0 I β tm σ a w) (h:Zca O bf asl chk live tm σ=some (e,tm',σ')) {Q:Exit->Act->World->Prop} (hQ:Zwe dr an base w0 I0 I β e tm' σ' Q):(Code.region id ops draw).wp P Q a w:=by
 obtain ⟨I1,β1,g1,g2,g3,g4,g5⟩:=hst
 simp only [Za2] at hc
 split at hc
 ·rename_i l hl
  unfold Zca at h
  split at hc
  ·rename_i hd
   subst hd
   split at hc
   ·rename_i ps hps
    simp only [ZM.region.injEq] at hc
    obtain ⟨rfl,rfl,rfl⟩:=hc
    cases hrun:Zav O bf l σ.length tm (σ++XZ (sitesOf l) .free) with
    | none=>rw [hrun] at h;simp only [Zda] at h;cases h
    | some q =>
     obtain ⟨tm1,σ1,cs,p⟩:=q
     rw [hrun] at h
     cases p with
     | some x =>
      simp only [Zda] at h
      split at h
      ·rename_i hpan
       simp only [Xa,Xg] at h
       obtain ⟨rfl,rfl,rfl⟩:=h
       have hlen:=(Zjd hl).1
       simp only [Wb] at hlen
       obtain ⟨n,tmJ,σJ,tmX,q1,q2,q3,q4⟩:=ZvP (O:=O) (bf:=bf) (ops:=l) (L:=σ.length) l.length 0 (cs:=cs) (cs':=cs) (by omega) (by simpa [sitesOf] using hrun) (fun j=>by simp)
       rw [XX] at q4
       unfold Z3 at hpan
       rw [q2] at hpan
       simp only [XE,List.any_eq_true,X1,WK,beq_iff_eq,decide_eq_true_eq,Nat.add_sub_cancel] at hpan
       obtain ⟨⟨pm,hpm,hm1,hm2⟩,hall⟩:=hpan
       have hmk:(n,n) ∈ ps:=by
        obtain ⟨a1,a2⟩:=pm
        simp only at hm1 hm2
        subst hm1 hm2
        exact hpm
       have hT:(l.getD n default).ins.touches=true:=ZKQ hps hmk
       refine wp_region_any hm (ZER hO hkp hb hl hps (jp:=n) (by omega) hmk hT (fun j i hji h1 h2=>?_) (fun j hj h1=>?_) (I:=I) (β:=β) (x:=x) (fun a' u w' hd' hp=>hQ a' u w' hd' hp) ops.size (Xa4 0 n) (Xa4 (n+1) (l.length - n - 1)) _ a _ tm tmJ tmX _ σJ q3 q4 ?_ ?_ ?_ (by simp) ?_ (by simp;omega) ⟨I1,β1,g1,g2,g3,g4,(g5.reserve _).same rfl rfl rfl rfl⟩)
       ·rcases hall (j,i) hji with (h | h) | ⟨h,_⟩
        ·simp only at h;omega
        ·simp only at h;omega
        ·exact h
       ·rcases hall (j,n) hj with (h | h) | ⟨_,h⟩
        ·simp only at h;omega
        ·simp only at h;omega
        ·rcases h with h | h
         ·simp only at h;omega
         ·exact h
       ·have e:Xa4 0 n++n::Xa4 (n+1) (l.length - n - 1)=Xa4 0 l.length:=by
         rw [<-Xbv]
         have:=List.range'_append_1 (s:=0) (m:=n) (n:=l.length - n - 1+1)
         rw [XX] at this
         rw [this]
         congr 1
         omega
        rw [e];exact List.pairwise_lt_range'
       ·intro j hj;simp at hj;omega
       ·intro j hj
        simp [XaS,hj]
        omega
       ·intro k hk hkn
        exact absurd (by simp;omega) hkn
      ·cases h
     | none =>
      simp only [Zda] at h
      split at h
      ·rename_i hchk
       simp only [Xa,Xg] at h
       obtain ⟨rfl,rfl,rfl⟩:=h
       have hlen:=(Zjd hl).1
       simp only [Wb] at hlen
       have hr:=ZrA (O:=O) (bf:=bf) (ops:=l) (L:=σ.length) l.length 0 (cs:=cs) (cs':=cs) (by omega) (by simpa [sitesOf] using hrun) (fun j=>by simp)
       refine wp_region_any hm (ZJX hO hkp hb hl hps hchk (I:=I) (β:=β) (fun a' w' hs=>hQ a' w' (hs.keep _)) ops.size (Xa4 0 l.length) _ a _ tm _ hr ?_ ?_ ?_ (by simp) ?_ (by simp [hlen]) ⟨I1,β1,g1,g2,g3,g4,(g5.reserve _).same rfl rfl rfl rfl⟩)
       ·exact List.pairwise_lt_range'
       ·intro j hj;simp at hj;omega
       ·intro j hj
        simp [XaS,hj,hlen]
       ·intro k hk hkn
        exact absurd (by simp;omega) hkn
      ·cases h
   ·cases hc
  ·rename_i hd
   simp only [ZM.region.injEq] at hc
   obtain ⟨rfl,rfl,rfl⟩:=hc
   have hdf:draw=false:=by cases draw <;> simp_all
   subst hdf
   cases hrun:Zav O bf l σ.length tm (σ++XZ (sitesOf l) .free) with
   | none=>rw [hrun] at h;simp only [Zda] at h;cases h
   | some q =>
    obtain ⟨tm1,σ1,cs,p⟩:=q
    rw [hrun] at h
    cases p with
    | none =>
     simp only [Zda,Xa,Xg] at h
     obtain ⟨rfl,rfl,rfl⟩:=h
     exact wp_region_list (ZnS hO hkp hb hl g3 g4 (g5.reserve _) hrun (fun _ a' w' hs=>hQ a' w' ((hs.trans g1 g2).keep _)) (fun x hx=>by cases hx))
    | some x =>
     simp only [Zda,Xa,Xg] at h
     obtain ⟨rfl,rfl,rfl⟩:=h
     exact wp_region_list (ZnS hO hkp hb hl g3 g4 (g5.reserve _) hrun (fun hx=>by cases hx) (fun x' hx a' u w' hd' hp=>by
      injection hx with hx;subst hx
      exact hQ a' u w' hd' (hp.trans g1 g2)))
 ·cases hc
end
end
section
open Go.RowKit
section
variable {P:Program} {O:Zat} {bf:Nat->Bool} {an:Ann} {base:Nat->Prop} {w0:World} {I0:Imm} {dr:Door}
def StF (dr:Door) (m nt:Nat) (base:Nat->Prop) (w0:World) (I0 I:Imm) (β:Bmap) (tm:Tms) (σ:Za) (a:Act) (w:World):Prop :=
 ∃ I' β',I.le I'/\KeptE m β β'/\TR I' β' tm a.tmps/\(dr.ok a/\nt<=a.tmps.size)/\Rel base w0 I0 I' β' σ w
def ZFC (dr:Door) (m:Nat) (an:Ann) (base:Nat->Prop) (w0:World) (I0 I:Imm) (β:Bmap) (e:Za9) (tm:Tms) (σ:Za) (Q:Exit->Act->World->Prop):Prop:=match e with
 | .normal=>∀ a w,StF dr m an.nt base w0 I0 I β tm σ a w->Q .normal a w
 | .exit id=>∀ a w,StF dr m an.nt base w0 I0 I β tm σ a w->Q (.exit id) a w
 | .ret=>∀ a w,StF dr m an.nt base w0 I0 I β tm σ a w->Q .ret a w
 | .panic x=>∀ a u w,dr.ok a->ZbI m base w0 I0 I β (.pan x) σ u w->Q (.panic [{ v:=u,recovered:=false }]) a w
theorem StF.cond {m:Nat} {I:Imm} {β:Bmap} {tm:Tms} {σ:Za} {a:Act} {w:World} (h:StF dr m an.nt base w0 I0 I β tm σ a w) {c:Operand} {y:Opd} (hc:ZaO c=some y) {b:Bool} (hv:y.ev tm=.bool b):a.eval c=.bool b:=by
 obtain ⟨I',β',_,_,T,_,_⟩:=h
 have:=ZaK T hc
 rw [hv] at this
 simpa only [VR] using this
theorem Zmv (hO:ZaY P O) (hkp:∀ n ∈ dr.K,n ∈ an.keep) (hm:P.follows .mixedOrders=true) (hb:KLt base w0) (m n:Nat):∀ {c:Code} {ac:ZM},Za2 P an c=ac->∀ {I:Imm} {β:Bmap} {tm tm':Tms} {σ σ':Za} {a:Act} {w:World} {e:Za9},StF dr m an.nt base w0 I0 I β tm σ a w->ZaE O bf m n ac tm σ=some (e,tm',σ') ->
  ∀ {Q:Exit->Act->World->Prop},ZFC dr m an base w0 I0 I β e tm' σ' Q->c.wp P Q a w:=by
 intro c
 induction c with
 | skip =>
  intro ac hc I β tm tm' σ σ' a w e hst h Q hQ
  simp only [Za2] at hc;subst hc
  simp only [ZaE,Xa,Xg] at h
  obtain ⟨rfl,rfl,rfl⟩:=h
  exact wp_skip (hQ a w hst)
 | region id ops draw =>
  intro ac hc I β tm tm' σ σ' a w e hst h Q hQ
  obtain ⟨asl,chk,live,rfl⟩:∃ asl chk live,ac=.region asl chk live:=by
   simp only [Za2] at hc
   split at hc
   ·split at hc
    ·split at hc
     ·exact ⟨_,_,_,hc.symm⟩
     ·subst hc;simp only [ZaE] at h;cases h
    ·exact ⟨_,_,_,hc.symm⟩
   ·subst hc;simp only [ZaE] at h;cases h
  simp only [ZaE] at h
  obtain ⟨I1,β1,g1,g2,g3,g4,g5⟩:=hst
  have up:∀ {tm:Tms} {σ:Za} {a':Act} {w':World},StR dr an.nt base w0 I0 I1 β1 tm σ a' w'->StF dr m an.nt base w0 I0 I β tm σ a' w':=by
   rintro tm σ a' w' ⟨I2,β2,k1,k2,k3⟩
   exact ⟨I2,β2,g1.trans k1,g2.trans (KeptE.of_le k2),k3⟩
  refine ZmG hO hkp hm hb hc (⟨I1,β1,Imm.le.refl I1,Bmap.le.refl β1,g3,g4,g5⟩:StR dr an.nt base w0 I0 I1 β1 tm σ a w) h ?_
  cases e with
  | normal=>exact fun a' w' hs=>hQ a' w' (up hs)
  | exit id=>exact fun a' w' hs=>hQ a' w' (up hs)
  | ret=>exact fun a' w' hs=>hQ a' w' (up hs)
  | panic x =>
   rintro a' u w' hd ⟨I2,β2,k1,k2,k3,k4⟩
   exact hQ a' u w' hd ⟨I2,β2,g1.trans k1,g2.trans (KeptE.of_le k2),k3,k4⟩
 | seq x y ihx ihy =>
  intro ac hc I β tm tm' σ σ' a w e hst h Q hQ
  simp only [Za2] at hc
  subst hc
  simp only [ZaE] at h
  refine wp_seq ?_
  split at h
  ·rename_i tm1 σ1 h1
   exact ihx rfl hst h1 (fun a' w' hs=>ihy rfl hs h hQ)
  ·rename_i hne
   refine ihx rfl hst h ?_
   cases e with
   | normal=>exact absurd h (hne _ _)
   | exit id=>exact hQ
   | ret=>exact hQ
   | panic x=>exact hQ
 | cond c x y ihx ihy =>
  intro ac hc I β tm tm' σ σ' a w e hst h Q hQ
  simp only [Za2] at hc
  split at hc
  ·rename_i c' hcc
   subst hc
   simp only [ZaE] at h
   split at h
   ·rename_i hv
    exact wp_cond_true (hst.cond hcc hv) (ihx rfl hst h hQ)
   ·rename_i hv
    exact wp_cond_false (hst.cond hcc hv) (ihy rfl hst h hQ)
   ·cases h
  ·subst hc;simp only [ZaE] at h;cases h
 | block id x ih =>
  intro ac hc I β tm tm' σ σ' a w e hst h Q hQ
  simp only [Za2] at hc
  subst hc
  have hx:Za2 P an x=Za2 P an x:=rfl
  simp only [ZaE] at h
  refine wp_block ?_
  split at h
  ·rename_i i tm1 σ1 h1
   refine ih hx hst h1 ?_
   intro a' w' hs
   simp only [Exit.inBlock]
   split at h
   ·rename_i hid
    simp only [Xa,Xg] at h
    obtain ⟨rfl,rfl,rfl⟩:=h
    rw [if_pos hid]
    exact hQ a' w' hs
   ·rename_i hid
    simp only [Xa,Xg] at h
    obtain ⟨rfl,rfl,rfl⟩:=h
    rw [if_neg hid]
    exact hQ a' w' hs
  ·rename_i hne
   refine ih hx hst h ?_
   cases e with
   | normal=>exact hQ
   | exit id=>exact absurd h (hne _ _ _)
   | ret=>exact hQ
   | panic x=>exact hQ
 | loop x ih =>
  intro ac hc I β tm tm' σ σ' a w e hst h Q hQ
  simp only [Za2] at hc
  subst hc
  have hx:Za2 P an x=Za2 P an x:=rfl
  simp only [ZaE] at h
  refine wp_loop_rounds n ?_
  have key:∀ k {tm:Tms} {σ:Za} {a:Act} {w:World},StF dr m an.nt base w0 I0 I β tm σ a w->ZdK m (an.ll (Ze5 x)) (ZaE O bf m n (Za2 P an x)) k tm σ=some (e,tm',σ')->Code.rounds P x Q k a w:=by
   intro k
   induction k with
   | zero=>intro tm σ a w _ h;simp only [ZdK] at h;cases h
   | succ k ihk =>
    intro tm σ a w hst h
    rw [rounds_succ]
    simp only [ZdK] at h
    obtain ⟨I1,β1,k1,k2,k3,k4,k5⟩:=hst
    obtain ⟨β2,q1,q2,q3⟩:=Zot k5 (k3.keep (an.ll (Ze5 x))) m
    have hst0:StF dr m an.nt base w0 I0 I β (gcT m (keepL (an.ll (Ze5 x)) tm) σ).1 (gcT m (keepL (an.ll (Ze5 x)) tm) σ).2 a w:=⟨I1,β2,k1,k2.trans q1,q3,k4,q2⟩
    split at h
    ·rename_i tm1 σ1 h1
     exact ih hx hst0 h1 (fun a' w' hs=>ihk hs h)
    ·rename_i hne
     refine ih hx hst0 h ?_
     cases e with
     | normal=>exact absurd h (hne _ _)
     | exit id=>exact hQ
     | ret=>exact hQ
     | panic x=>exact hQ
  exact key n hst h
 | exit id =>
  intro ac hc I β tm tm' σ σ' a w e hst h Q hQ
  simp only [Za2] at hc;subst hc
  simp only [ZaE,Xa,Xg] at h
  obtain ⟨rfl,rfl,rfl⟩:=h
  exact wp_exit (hQ a w hst)
 | ret =>
  intro ac hc I β tm tm' σ σ' a w e hst h Q hQ
  simp only [Za2] at hc;subst hc
  simp only [ZaE,Xa,Xg] at h
  obtain ⟨rfl,rfl,rfl⟩:=h
  exact wp_ret (hQ a w hst)
 | rangeFunc f ps x y=>intro ac hc I β tm tm' σ σ' a w e hst h;simp only [Za2] at hc;subst hc;simp only [ZaE] at h;cases h
 | scope x ih =>
  intro ac hc I β tm tm' σ σ' a w e hst h Q hQ
  simp only [Za2] at hc
  refine wp_scope_straight (ih hc hst h ?_)
  cases e with
  | normal=>exact hQ
  | exit id=>exact hQ
  | ret=>exact hQ
  | panic x=>exact hQ
 | label l =>
  intro ac hc I β tm tm' σ σ' a w e hst h Q hQ
  simp only [Za2] at hc;subst hc
  simp only [ZaE,Xa,Xg] at h
  obtain ⟨rfl,rfl,rfl⟩:=h
  exact wp_label (hQ a w hst)
 | goto l=>intro ac hc I β tm tm' σ σ' a w e hst h;simp only [Za2] at hc;subst hc;simp only [ZaE] at h;cases h
 | refuse why=>intro ac hc I β tm tm' σ σ' a w e hst h;simp only [Za2] at hc;subst hc;simp only [ZaE] at h;cases h
theorem Zxx {I:Imm} {β:Bmap} {σ σ':Za} {k:Option Nat} {a x:AVal} {c:Cls} {v:Value} (ha:VR I β a v) (h:ldA σ k a=some (x,σ',c)):∃ ad,v=.pointer (some ad):=by
 unfold ldA at h
 split at h
 ·simp only [VR] at ha;obtain ⟨b,k,c,_,rfl⟩:=ha;exact ⟨_,rfl⟩
 ·simp only [VR] at ha;obtain ⟨b,k,c,_,rfl⟩:=ha;exact ⟨_,rfl⟩
 ·simp only [VR] at ha;obtain ⟨b,off,rfl,_⟩:=ha;exact ⟨_,rfl⟩
 ·cases h
def ZjC (tmps:Array Value):ResultVar->Sem Value
 | .tmp t=>pure (tmps.getD t undef)
 | .cell a t=>do loadVar t (<-asAddr (tmps.getD a undef))
theorem Zpf {I:Imm} {β:Bmap} {tm:Tms} {σ:Za} {w:World} {tmps:Array Value} (T:TR I β tm tmps) (R:Rel base w0 I0 I β σ w):∀ {rs:List ResultVar} {asl:List Zc0} {xs:List AVal},Zem P rs=some asl->resAll tm σ asl=some xs ->
  ∃ vs:List Value,(rs.mapM (ZjC tmps)).run P w=.ok vs w/\VRs I β xs vs
 | [],asl,xs,hc,h=>by
  simp only [Zem,Xa] at hc;subst hc
  simp only [resAll,Xa] at h;subst h
  exact ⟨[],by simp,by simp only [VRs]⟩
 | r::rs,asl,xs,hc,h=>by
  have getD_eq:∀ t,VR I β (tget tm t) (tmps.getD t undef):=T
  cases r with
  | tmp t =>
   simp only [Zem,XI] at hc
   obtain ⟨as',has,rfl⟩:=hc
   simp only [resAll,resOne] at h
   split at h
   ·rename_i ys hys
    injection h with h;subst h
    obtain ⟨vs,h1,h2⟩:=Zpf T R has hys
    exact ⟨tmps.getD t undef::vs,by simp only [Xbq,ZjC,Sem.run_bind,Sem.run_pure,Result.andThen_ok,h1],by simp only [VRs];exact ⟨_,_,rfl,getD_eq t,h2⟩⟩
   ·cases h
  | cell a t =>
   simp only [Zem] at hc
   split at hc
   ·rename_i k as' hk has
    injection hc with hc;subst hc
    simp only [resAll,resOne] at h
    split at h
    ·rename_i v hv
     split at h
     ·rename_i ys hys
      injection h with h;subst h
      obtain ⟨vs,h1,h2⟩:=Zpf T R has hys
      split at hv
      ·rename_i v' σ1 c1 hld
       injection hv with hv;subst hv
       obtain ⟨u,hu1,hu2,_⟩:=Zq8 hk R (getD_eq a) hld
       obtain ⟨ad,had⟩:=Zxx (getD_eq a) hld
       have hlv:(loadVar t ad).run P w=.ok u w:=by
        rw [had] at hu1
        simpa [Instr.loadAt,Instr.sureAddr] using hu1
       refine ⟨u::vs,?_,by simp only [VRs];exact ⟨_,_,rfl,hu2,h2⟩⟩
       simp only [Xbq,ZjC,had,asAddr,Sem.run_bind,Sem.run_pure,Result.andThen_ok,hlv,h1]
      ·cases hv
     ·cases h
    ·cases h
   ·cases hc
theorem Zt9 {I:Imm} {β:Bmap} {tm:Tms} {σ:Za} {w:World} {tmps:Array Value} (T:TR I β tm tmps) (R:Rel base w0 I0 I β σ w) {fn:Func} {asl:List Zc0} {x:AVal} (hc:Zem P fn.results.toList=some asl) (h:resA tm σ asl=some x):∃ v,(results fn tmps).run P w=.ok v w/\VR I β x v:=by
 unfold resA at h
 have run:∀ {xs:List AVal},resAll tm σ asl=some xs->∃ vs:List Value,(results fn tmps).run P w=.ok (if h:vs.toArray.size=1 then vs.toArray[0] else .tuple vs.toArray) w/\VRs I β xs vs:=by
  intro xs hx
  obtain ⟨vs,h1,h2⟩:=Zpf T R hc hx
  refine ⟨vs,?_,h2⟩
  have hm:(fn.results.mapM (ZjC tmps)).run P w=.ok vs.toArray w:=by
   rw [Array.mapM_eq_mapM_toList,Sem.run_map,h1];rfl
  have he:results fn tmps=(do let vs <-fn.results.mapM (ZjC tmps);pure (if h:vs.size=1 then vs[0] else .tuple vs)):=by
   unfold results
   congr 1
  rw [he,Sem.run_bind,hm]
  rfl
 split at h
 ·rename_i v hv
  injection h with h;subst h
  obtain ⟨vs,h1,h2⟩:=run hv
  simp only [VRs] at h2
  obtain ⟨u,us,rfl,h3,rfl⟩:=h2
  exact ⟨u,by rw [h1];simp,h3⟩
 ·rename_i vs' hv hne
  injection h with h;subst h
  obtain ⟨vs,h1,h2⟩:=run hne
  have hl:=ZaS h2
  refine ⟨.tuple vs.toArray,?_,by simp only [VR];exact ⟨_,rfl,by simpa using h2⟩⟩
  rw [h1,dif_neg]
  intro hs
  simp only [List.size_toArray] at hs
  match vs',hl with
  | [v],_=>exact hv v rfl
  | [],hl=>simp at hl;omega
  | _::_::_,hl=>simp at hl;omega
 ·cases h
theorem Zsa:∀ (args:List AVal) (i:Nat) (acc:Tms) (n:Nat),tget (enterA i args acc) n=if i<=n/\n < i+args.length then args.getD (n - i) .top else tget acc n
 | [],i,acc,n=>by simp only [enterA,Xt];rw [if_neg (by omega)]
 | x::xs,i,acc,n=>by
  simp only [enterA,List.length_cons]
  rw [Zsa xs (i+1) _ n]
  by_cases h:i+1<=n/\n < i+1+xs.length
  ·rw [if_pos h,if_pos (by omega),show n - i=(n - (i+1))+1 by omega,Xn]
  ·rw [if_neg h]
   simp only [tget]
   by_cases h1:i=n
   ·subst h1
    rw [if_pos rfl,if_pos (by omega),Xab,Xm]
   ·rw [if_neg h1,if_neg (by omega)]
theorem ZqO {I:Imm} {β:Bmap} {args:List AVal} {vs:Array Value} (h:VRs I β args vs.toList) (n:Nat):TR I β (enterA 0 args []) (vs++XaO n undef):=by
 intro j
 rw [Zsa]
 have hl:=ZaS h
 simp only [Wb] at hl
 split
 ·rename_i hj
  have hjl:j < args.length:=by omega
  obtain ⟨v,h1,h2⟩:=Zco h (XY hjl)
  have e1:args.getD (j - 0) .top=args[j]:=by simp [Xz,hjl]
  have e2:(vs++XaO n undef).getD j undef=v:=by
   rw [WT,Array.getElem?_append_left (by omega)]
   have : vs[j]?=some v:=by simpa using h1
   rw [this];rfl
  rw [e1,e2];exact h2
 ·simp only [tget,VR]
def ZjW (P:Program) (prim:ZbT):Prop:=∀ f g,prim f=some g->∀ args σ r σ',g args σ=some (r,σ') ->
 (∃ fn,P.funcs[f]?=some fn/\fn.body.isSome=true/\(fn.name == "runtime.NumGoroutine")=false) /\
 ∀ base w0 I0 I β w (vs:Array Value),KLt base w0->Rel base w0 I0 I β σ w->VRs I β args vs.toList ->
  Calls P f vs w (fun e w'=>∃ u,Ends r e u/\ZbI σ.length base w0 I0 I β r σ' u w')
theorem ZpR (hm:P.follows .mixedOrders=true) {prim:ZbT} (hP:ZjW P prim) (ann:Nat->Ann) (bf:Nat->Bool):∀ n,ZaY P (ZaT (Zi9 P ann) prim bf n)
 | 0=>by intro f args σ r σ' h;simp only [ZaT] at h;cases h
 | n+1=>by
  have ih:=ZpR hm hP ann bf n
  intro f args σ r σ' h
  simp only [ZaT] at h
  split at h
  ·rename_i g hg
   exact hP f g hg args σ r σ' h
  split at h
  ·cases h
  rename_i fn hfn
  unfold Zi9 at hfn
  split at hfn
  ·rename_i F hF
   split at hfn
   ·rename_i body hbody
    split at hfn
    ·cases hfn
    ·rename_i hname
     split at hfn
     ·rename_i rs hrs
      injection hfn with hfn;subst hfn
      refine ⟨⟨F,hF,by rw [hbody];rfl,by simpa using hname⟩,?_⟩
      intro base w0 I0 I β w vs hb R hargs
      refine calls_of_wp hF hbody ?_
      have T:=ZqO hargs (F.ntmps - vs.size)
      have hst:StF Zby σ.length F.ntmps base w0 I0 I β (enterA 0 args []) σ { tmps:=vs++XaO (F.ntmps - vs.size) undef,defers:=[] } w:=⟨I,β,Imm.le.refl I,KeptE.refl _ β,T,⟨Zez.2 rfl,by simp;omega⟩,R⟩
      cases hx:ZaE (ZaT (Zi9 P ann) prim bf n) bf σ.length n (Za2 P { ann f with nt:=F.ntmps } body) (enterA 0 args []) σ with
      | none=>rw [hx] at h;simp only [ZaL] at h;cases h
      | some q =>
       obtain ⟨e,tm',σ1⟩:=q
       rw [hx] at h
       have fin:(match resA tm' σ1 rs with | some r=>Zan σ.length σ1 r | none=>none)=some (r,σ')->∀ a' w',StF Zby σ.length F.ntmps base w0 I0 I β tm' σ1 a' w'->a'.defers=[]/\∃ v,(results F a'.tmps).run P w'=.ok v w'/\∃ u,Ends r (.returned v) u/\ZbI σ.length base w0 I0 I β r σ' u w':=by
        intro hr a' w' ⟨I1,β1,g1,g2,g3,g4,g5⟩
        split at hr
        ·rename_i x hx1
         obtain ⟨v,h1,h2⟩:=Zt9 g3 g5 hrs hx1
         have hnp:∀ y,x≠.pan y:=by rintro y rfl;simp only [VR] at h2
         obtain ⟨q1,q2⟩:=ZhT (⟨I1,β1,g1,g2,g5,by rw [ZeN hnp];exact h2⟩:ZbI σ.length base w0 I0 I β x σ1 v w') hr
         refine ⟨Zez.1 g4.1,v,h1,v,q2 _ ?_,q1⟩
         cases x <;> first | rfl | exact absurd rfl (hnp _)
        ·cases hr
       refine Zmv (dr:=Zby) (an:={ ann f with nt:=F.ntmps }) ih (fun n hn=>by simp [Zby] at hn) hm hb σ.length n rfl hst hx ?_
       cases e with
       | normal=>simp only [ZaL] at h;exact fun a' w' hs=>fin h a' w' hs
       | ret=>simp only [ZaL] at h;exact fun a' w' hs=>fin h a' w' hs
       | exit id=>simp only [ZaL] at h;cases h
       | panic x =>
        simp only [ZaL] at h
        intro a' u w' hd hp
        obtain ⟨q1,q2⟩:=ZhT hp h
        exact ⟨Zez.1 hd,u,q2 _ rfl,q1⟩
     ·cases hfn
   ·cases hfn
  ·cases hfn
end
end
section
open Go.RowKit
def OLe (O O':Zat):Prop:=∀ f a σ r,O f a σ=some r->O' f a σ=some r
section
variable {O O':Zat} {bf:Nat->Bool}
theorem ZI9 {view:Bool} {m:Nat} {x y:Option (AVal×Za)} (h:∀ r,x=some r->y=some r) {r:AVal×Za} (hr:ZaG view m x=some r):ZaG view m y=some r:=by
 cases x with
 | none=>cases view <;> simp [ZaG,Zc8] at hr
 | some q=>rw [h q rfl];exact hr
theorem ZzE {σ σf:Za} {ids ts:List Nat} {sq own:Nat} {x y:Option (AVal×Za)} (h:∀ r,x=some r->y=some r) {r:AVal×Za×Cls} (hr:Zbf σ σf ids ts sq own x=some r):Zbf σ σf ids ts sq own y=some r:=by
 cases x with
 | none=>simp only [Zbf] at hr;cases hr
 | some q=>rw [h q rfl];exact hr
theorem Zlr (hO:OLe O O') {σ:Za} {sq f own:Nat} {view:Bool} {args:List AVal} {r:AVal×Za×Cls} (h:ZQ O bf σ sq f own view args=some r):ZQ O' bf σ sq f own view args=some r:=by
 unfold ZQ Zb8 at h ⊢
 split at h
 ·cases h
 ·rename_i vs ts hv
  split at h
  ·rename_i hc
   simp only [hc,if_true]
   exact ZzE (fun q hq=>ZI9 (fun q hq=>hO _ _ _ _ hq) hq) h
  ·cases h
theorem ZFr (hO:OLe O O') {tm:Tms} {σ:Za} {sq:Nat} {ins:Ins} {r:AVal×Za×Cls} (h:execI O bf tm σ sq ins=some r):execI O' bf tm σ sq ins=some r:=by
 cases ins
 case call f own view args =>
  simp only [execI] at h ⊢
  exact Zlr hO h
 case callv x args =>
  simp only [execI] at h ⊢
  split at h
  ·exact Zlr hO h
  ·cases h
 all_goals exact h
theorem ZoE (hO:OLe O O') {o:AOp} {tm:Tms} {σ:Za} {sq:Nat} {r:AVal×Tms×Za×Cls} (h:Zad O bf o sq tm σ=some r):Zad O' bf o sq tm σ=some r:=by
 unfold Zad at h ⊢
 split at h
 ·cases h
 ·exact h
 ·split at h
  ·rename_i hf
   rw [if_pos hf]
   split at h
   ·rename_i he;rw [ZFr hO he];exact h
   ·cases h
  ·cases h
theorem Zny (hO:OLe O O'):∀ {ops:List AOp} {s:Nat} {tm:Tms} {σ:Za} {r:Tms×Za×List Cls×Option AVal},Zav O bf ops s tm σ=some r->Zav O' bf ops s tm σ=some r
 | [],_,_,_,_,h=>h
 | o::ops,s,tm,σ,r,h=>by
  simp only [Zav] at h ⊢
  split at h
  ·cases h
  ·rename_i h1
   rw [ZoE hO h1]
   exact h
  ·rename_i v tm1 σ1 c hnp h1
   rw [ZoE hO h1]
   simp only
   split at h
   ·cases h
   rename_i h2
   rw [Zny hO h2]
   exact h
theorem Zrz (hO:OLe O O') {ops:List AOp} {chk:Option (List (Nat×Nat))} {live:List Nat} {tm:Tms} {σ:Za} {r:Za9×Tms×Za} (h:Zca O bf ops chk live tm σ=some r):Zca O' bf ops chk live tm σ=some r:=by
 unfold Zca at h ⊢
 cases hx:Zav O bf ops σ.length tm (σ++XZ (sitesOf ops) .free) with
 | none=>rw [hx] at h;simp only [Zda] at h;cases h
 | some q=>rw [Zny hO hx];rw [hx] at h;exact h
theorem Zlt {m0:Nat} {live:List Nat} {f f':Tms->Za->Option (Za9×Tms×Za)} (hf:∀ tm σ r,f tm σ=some r->f' tm σ=some r):∀ {n n':Nat} {tm:Tms} {σ:Za} {r:Za9×Tms×Za},n<=n'->ZdK m0 live f n tm σ=some r->ZdK m0 live f' n' tm σ=some r
 | 0,_,_,_,_,_,h=>by simp only [ZdK] at h;cases h
 | n+1,0,_,_,_,hn,_=>by omega
 | n+1,n'+1,tm,σ,r,hn,h=>by
  simp only [ZdK] at h ⊢
  split at h
  ·rename_i h1
   rw [hf _ _ _ h1]
   exact Zlt hf (by omega) h
  ·rename_i hne
   rw [hf _ _ _ h]
   split
   ·rename_i e;injection e with e;subst e;exact absurd h (hne _ _)
   ·rfl
theorem ZdS (hO:OLe O O') {m0:Nat}:∀ {c:ZM} {n n':Nat} {tm:Tms} {σ:Za} {r:Za9×Tms×Za},n<=n'->ZaE O bf m0 n c tm σ=some r->ZaE O' bf m0 n' c tm σ=some r:=by
 intro c
 induction c with
 | skip=>intro n n' tm σ r _ h;exact h
 | exit id=>intro n n' tm σ r _ h;exact h
 | ret=>intro n n' tm σ r _ h;exact h
 | stuck=>intro n n' tm σ r _ h;exact h
 | region ops chk live =>
  intro n n' tm σ r _ h
  simp only [ZaE] at h ⊢
  exact Zrz hO h
 | seq a b iha ihb =>
  intro n n' tm σ r hn h
  simp only [ZaE] at h ⊢
  split at h
  ·rename_i h1;rw [iha hn h1];exact ihb hn h
  ·rename_i hne
   rw [iha hn h]
   split
   ·rename_i e;injection e with e;subst e;exact absurd h (hne _ _)
   ·rfl
 | cond c a b iha ihb =>
  intro n n' tm σ r hn h
  simp only [ZaE] at h ⊢
  split at h
  ·exact iha hn h
  ·exact ihb hn h
  ·cases h
 | block id c ih =>
  intro n n' tm σ r hn h
  simp only [ZaE] at h ⊢
  split at h
  ·rename_i h1;rw [ih hn h1];exact h
  ·rename_i hne
   rw [ih hn h]
   split
   ·rename_i e;injection e with e;subst e;exact absurd h (hne _ _ _)
   ·rfl
 | loop live c ih =>
  intro n n' tm σ r hn h
  simp only [ZaE] at h ⊢
  exact Zlt (fun tm σ r h=>ih hn h) hn h
theorem Zmr {m0:Nat} {fn:Zaj} {x y:Option (Za9×Tms×Za)} (h:∀ r,x=some r->y=some r) {r:AVal×Za} (hr:ZaL m0 fn x=some r):ZaL m0 fn y=some r:=by
 cases x with
 | none=>simp only [ZaL] at hr;cases hr
 | some q=>rw [h q rfl];exact hr
theorem Zt6 (fs:Nat->Option Zaj) (prim:ZbT):∀ n,OLe (ZaT fs prim bf n) (ZaT fs prim bf (n+1))
 | 0=>by intro f a σ r h;simp only [ZaT] at h;cases h
 | n+1=>by
  intro f a σ r h
  rw [ZaT] at h ⊢
  split at h
  ·rename_i g hg;exact h
  ·rename_i hg
   split at h
   ·cases h
   ·rename_i fn hfn
    exact Zmr (fun q hq=>ZdS (Zt6 fs prim n) (by omega) hq) h
theorem Zji (fs : Nat -> Option Zaj) (prim : ZbT) {n m : Nat} (h : n <= m) : OLe (ZaT fs prim bf n) (ZaT fs prim bf m) := by
  induction m with
  | zero => obtain rfl : n = 0 := by omega
            exact fun _ _ _ _ h => h
  | succ m ih =>
    by_cases e : n = m + 1
    . subst e; exact fun _ _ _ _ h => h
    . exact fun f a σ r hr => Zt6 fs prim m f a σ r (ih (by omega) f a σ r hr)
end
section
variable (fs:Nat->Option Zaj) (prim:ZbT) (bf:Nat->Bool)
open Classical in
noncomputable def EV:Zat:=fun f args σ=>if h:∃ r,∃ n,ZaT fs prim bf n f args σ=some r then some h.choose else none
open Classical in
noncomputable def evC (m:Nat) (c:ZM) (tm:Tms) (σ:Za):Option (Za9×Tms×Za):=if h:∃ r,∃ n,ZaE (ZaT fs prim bf n) bf m n c tm σ=some r then some h.choose else none
variable {fs prim bf} {m0:Nat}
theorem Zcp {f:Nat} {args:List AVal} {σ:Za} {r:AVal×Za}:EV fs prim bf f args σ=some r↔∃ n,ZaT fs prim bf n f args σ=some r:=by
 unfold EV
 constructor
 ·intro h
  split at h
  ·rename_i hx
   injection h with h
   rw [<-h]
   exact hx.choose_spec
  ·cases h
 ·rintro ⟨n,hn⟩
  have hx:∃ r,∃ n,ZaT fs prim bf n f args σ=some r:=⟨r,n,hn⟩
  rw [dif_pos hx]
  obtain ⟨m,hm⟩:=hx.choose_spec
  have h1:=Zji (bf:=bf) fs prim (Xar n m) _ _ _ _ hn
  have h2:=Zji (bf:=bf) fs prim (Xak n m) _ _ _ _ hm
  rw [h1] at h2
  injection h2 with h2
  rw [<-h2]
theorem Zbt {c:ZM} {tm:Tms} {σ:Za} {r:Za9×Tms×Za}:evC fs prim bf m0 c tm σ=some r↔∃ n,ZaE (ZaT fs prim bf n) bf m0 n c tm σ=some r:=by
 unfold evC
 constructor
 ·intro h
  split at h
  ·rename_i hx
   injection h with h
   rw [<-h]
   exact hx.choose_spec
  ·cases h
 ·rintro ⟨n,hn⟩
  have hx:∃ r,∃ n,ZaE (ZaT fs prim bf n) bf m0 n c tm σ=some r:=⟨r,n,hn⟩
  rw [dif_pos hx]
  obtain ⟨m,hm⟩:=hx.choose_spec
  have h1:=ZdS (Zji (bf:=bf) fs prim (Xar n m)) (Xar n m) hn
  have h2:=ZdS (Zji (bf:=bf) fs prim (Xak n m)) (Xak n m) hm
  rw [h1] at h2
  injection h2 with h2
  rw [<-h2]
theorem Ze3 {α:Type} {x y:Option α} (h:∀ r,x=some r↔y=some r):x=y:=by
 cases x with
 | none =>
  cases y with
  | none=>rfl
  | some q=>exact absurd ((h q).2 rfl) (by simp)
 | some q=>exact ((h q).1 rfl).symm
theorem ZHx (n:Nat):OLe (ZaT fs prim bf n) (EV fs prim bf):=fun _ _ _ _ h=>Zcp.2 ⟨n,h⟩
theorem up {n m:Nat} (h:n<=m):OLe (ZaT fs prim bf n) (ZaT fs prim bf m):=Zji fs prim h
theorem Zi2 {f:Nat} {g:List AVal->Za->Option (AVal×Za)} (hp:prim f=some g) (args:List AVal) (σ:Za):EV fs prim bf f args σ=g args σ:=by
 apply Ze3
 intro r
 rw [Zcp]
 constructor
 ·rintro ⟨n,h⟩
  cases n with
  | zero=>simp only [ZaT] at h;cases h
  | succ n=>rw [ZaT,hp] at h;exact h
 ·intro h
  exact ⟨1,by rw [ZaT,hp];exact h⟩
theorem ZnR {f:Nat} {fn:Zaj} (hp:prim f=none) (hf:fs f=some fn) (args:List AVal) (σ:Za):EV fs prim bf f args σ=ZaL σ.length fn (evC fs prim bf σ.length fn.body (enterA 0 args []) σ):=by
 apply Ze3
 intro r
 rw [Zcp]
 constructor
 ·rintro ⟨n,h⟩
  cases n with
  | zero=>simp only [ZaT] at h;cases h
  | succ n =>
   rw [ZaT,hp,hf] at h
   exact Zmr (fun q hq=>Zbt.2 ⟨n,hq⟩) h
 ·intro h
  cases hx:evC fs prim bf σ.length fn.body (enterA 0 args []) σ with
  | none=>rw [hx] at h;simp only [ZaL] at h;cases h
  | some q =>
   obtain ⟨n,hn⟩:=Zbt.1 hx
   refine ⟨n+1,?_⟩
   rw [ZaT,hp,hf]
   rw [hx] at h
   exact Zmr (x:=some q) (fun q' hq'=>by injection hq' with hq';subst hq';exact hn) h
theorem ZqQ {σ:Za} {sq f own:Nat} {view:Bool} {args:List AVal} {r:AVal×Za×Cls} (h:ZQ (EV fs prim bf) bf σ sq f own view args=some r):∃ n,ZQ (ZaT fs prim bf n) bf σ sq f own view args=some r:=by
 unfold ZQ Zb8 at h ⊢
 split at h
 ·cases h
 ·rename_i vs ts hv
  split at h
  ·rename_i hc
   simp only [hc,if_true]
   cases hx:EV fs prim bf f (ZR (Zc (ZS σ ts) 0 (Zd (ZS σ ts) 1000 (ZP vs) [])) vs) (Ze (ZS σ ts) 0 (Zd (ZS σ ts) 1000 (ZP vs) []) (Zc (ZS σ ts) 0 (Zd (ZS σ ts) 1000 (ZP vs) [])) (Zd (ZS σ ts) 1000 (ZP vs) []) 0) with
   | none =>
    rw [hx] at h
    cases view <;> simp [ZaG,Zc8,Zbf] at h
   | some q =>
    obtain ⟨n,hn⟩:=Zcp.1 hx
    exact ⟨n,by rw [hn];rw [hx] at h;exact h⟩
  ·cases h
theorem ZJW {tm:Tms} {σ:Za} {sq:Nat} {ins:Ins} {r:AVal×Za×Cls} (h:execI (EV fs prim bf) bf tm σ sq ins=some r):∃ n,execI (ZaT fs prim bf n) bf tm σ sq ins=some r:=by
 cases ins
 case call f own view args =>
  simp only [execI] at h ⊢
  exact ZqQ h
 case callv x args =>
  simp only [execI] at h ⊢
  split at h
  ·exact ZqQ h
  ·cases h
 all_goals exact ⟨0,h⟩
theorem Zuw {o:AOp} {tm:Tms} {σ:Za} {sq:Nat} {r:AVal×Tms×Za×Cls} (h:Zad (EV fs prim bf) bf o sq tm σ=some r):∃ n,Zad (ZaT fs prim bf n) bf o sq tm σ=some r:=by
 unfold Zad at h ⊢
 split at h
 ·cases h
 ·exact ⟨0,h⟩
 ·split at h
  ·rename_i hf
   simp only [hf,if_true]
   split at h
   ·rename_i he
    obtain ⟨n,hn⟩:=ZJW he
    exact ⟨n,by rw [hn];exact h⟩
   ·cases h
  ·cases h
theorem Ztl:∀ {ops:List AOp} {s:Nat} {tm:Tms} {σ:Za} {r:Tms×Za×List Cls×Option AVal},Zav (EV fs prim bf) bf ops s tm σ=some r->∃ n,Zav (ZaT fs prim bf n) bf ops s tm σ=some r
 | [],_,_,_,_,h=>⟨0,h⟩
 | o::ops,s,tm,σ,r,h=>by
  simp only [Zav] at h ⊢
  split at h
  ·cases h
  ·rename_i h1
   obtain ⟨n,hn⟩:=Zuw h1
   exact ⟨n,by rw [hn];exact h⟩
  rename_i v tm1 σ1 c hnp h1
  split at h
  ·cases h
  rename_i h2
  obtain ⟨n,hn⟩:=Zuw h1
  obtain ⟨m,hm⟩:=Ztl h2
  refine ⟨max n m,?_⟩
  rw [ZoE (up (Xar n m)) hn]
  simp only
  rw [Zny (up (Xak n m)) hm]
  exact h
theorem ZHB {ops:List AOp} {chk:Option (List (Nat×Nat))} {live:List Nat} {tm:Tms} {σ:Za} {r:Za9×Tms×Za} (h:Zca (EV fs prim bf) bf ops chk live tm σ=some r):∃ n,Zca (ZaT fs prim bf n) bf ops chk live tm σ=some r:=by
 unfold Zca at h ⊢
 cases hx:Zav (EV fs prim bf) bf ops σ.length tm (σ++XZ (sitesOf ops) .free) with
 | none=>rw [hx] at h;simp only [Zda] at h;cases h
 | some q =>
  obtain ⟨n,hn⟩:=Ztl hx
  exact ⟨n,by rw [hn];rw [hx] at h;exact h⟩
theorem ZD9 (tm:Tms) (σ:Za):evC fs prim bf m0 .skip tm σ=some (.normal,tm,σ):=Zbt.2 ⟨0,rfl⟩
theorem ZzL (id:Nat) (tm:Tms) (σ:Za):evC fs prim bf m0 (.exit id) tm σ=some (.exit id,tm,σ):=Zbt.2 ⟨0,rfl⟩
theorem ZDj (tm:Tms) (σ:Za):evC fs prim bf m0 .ret tm σ=some (.ret,tm,σ):=Zbt.2 ⟨0,rfl⟩
theorem ZFd {ops:List AOp} {chk:Option (List (Nat×Nat))} {live:List Nat} {tm:Tms} {σ:Za}:evC fs prim bf m0 (.region ops chk live) tm σ=Zca (EV fs prim bf) bf ops chk live tm σ:=by
 apply Ze3
 intro r
 rw [Zbt]
 constructor
 ·rintro ⟨n,hn⟩
  simp only [ZaE] at hn
  exact Zrz (ZHx n) hn
 ·intro h
  obtain ⟨n,hn⟩:=ZHB h
  exact ⟨n,by simp only [ZaE];exact hn⟩
theorem ZDb {a b:ZM} {tm tm':Tms} {σ σ':Za} (h:evC fs prim bf m0 a tm σ=some (.normal,tm',σ')):evC fs prim bf m0 (.seq a b) tm σ=evC fs prim bf m0 b tm' σ':=by
 obtain ⟨n,hn⟩:=Zbt.1 h
 apply Ze3
 intro r
 rw [Zbt,Zbt]
 constructor
 ·rintro ⟨m,hm⟩
  have h1:=ZdS (up (Xar n m)) (Xar n m) hn
  have h2:=ZdS (up (Xak n m)) (Xak n m) hm
  simp only [ZaE,h1] at h2
  exact ⟨_,h2⟩
 ·rintro ⟨m,hm⟩
  have h1:=ZdS (up (Xar n m)) (Xar n m) hn
  have h2:=ZdS (up (Xak n m)) (Xak n m) hm
  exact ⟨max n m,by simp only [ZaE,h1];exact h2⟩
theorem Zn8 {a b:ZM} {tm tm':Tms} {σ σ':Za} {e:Za9} (he:e≠.normal) (h:evC fs prim bf m0 a tm σ=some (e,tm',σ')):evC fs prim bf m0 (.seq a b) tm σ=some (e,tm',σ'):=by
 obtain ⟨n,hn⟩:=Zbt.1 h
 refine Zbt.2 ⟨n,?_⟩
 simp only [ZaE,hn]
 cases e with
 | normal=>exact absurd rfl he
 | exit id=>rfl
 | ret=>rfl
 | panic x=>rfl
def Za6 (id:Nat):Za9×Tms×Za->Za9×Tms×Za
 | (.exit i,tm,σ)=>if i=id then (.normal,tm,σ) else (.exit i,tm,σ)
 | r=>r
theorem ZwW {id:Nat} {c:ZM} {tm:Tms} {σ:Za}:evC fs prim bf m0 (.block id c) tm σ=(evC fs prim bf m0 c tm σ).map (Za6 id):=by
 have step:∀ n,ZaE (ZaT fs prim bf n) bf m0 n (.block id c) tm σ=(ZaE (ZaT fs prim bf n) bf m0 n c tm σ).map (Za6 id):=by
  intro n
  simp only [ZaE]
  cases ZaE (ZaT fs prim bf n) bf m0 n c tm σ with
  | none=>rfl
  | some q =>
   obtain ⟨e,tm1,σ1⟩:=q
   cases e with
   | normal=>rfl
   | ret=>rfl
   | panic x=>rfl
   | exit i=>simp only [We,Za6];split <;> rfl
 apply Ze3;intro r
 rw [Zbt]
 simp only [step,XI]
 constructor
 ·rintro ⟨n,q,h1,h2⟩;exact ⟨q,Zbt.2 ⟨n,h1⟩,h2⟩
 ·rintro ⟨q,h1,h2⟩;obtain ⟨n,hn⟩:=Zbt.1 h1;exact ⟨n,q,hn,h2⟩
theorem ZA9 {c:ZM} {tm:Tms} {σ:Za} (h:evC fs prim bf m0 c tm σ=none) (n:Nat):ZaE (ZaT fs prim bf n) bf m0 n c tm σ=none:=by
 cases hx:ZaE (ZaT fs prim bf n) bf m0 n c tm σ with
 | none=>rfl
 | some r=>rw [Zbt.2 ⟨n,hx⟩] at h;cases h
variable (fs prim bf m0) in
noncomputable def Zbi (b:ZM):Option (Za9×Tms×Za)->Option (Za9×Tms×Za)
 | some (.normal,tm,σ)=>evC fs prim bf m0 b tm σ
 | r=>r
theorem ZAW {a b:ZM} {tm:Tms} {σ:Za}:evC fs prim bf m0 (.seq a b) tm σ=Zbi fs prim bf m0 b (evC fs prim bf m0 a tm σ):=by
 cases h:evC fs prim bf m0 a tm σ with
 | none =>
  simp only [Zbi]
  apply Ze3;intro r
  rw [Zbt]
  constructor
  ·rintro ⟨n,hn⟩
   simp only [ZaE,ZA9 h n] at hn
   cases hn
  ·intro h;cases h
 | some q =>
  obtain ⟨e,tm',σ'⟩:=q
  cases e with
  | normal=>exact ZDb h
  | exit id=>exact Zn8 (by simp) h
  | ret=>exact Zn8 (by simp) h
  | panic x=>exact Zn8 (by simp) h
variable (fs prim bf m0) in
noncomputable def Zju (a b:ZM) (tm:Tms) (σ:Za):AVal->Option (Za9×Tms×Za)
 | .bool true=>evC fs prim bf m0 a tm σ
 | .bool false=>evC fs prim bf m0 b tm σ
 | _=>none
theorem ZJu {c:Opd} {a b:ZM} {tm:Tms} {σ:Za}:evC fs prim bf m0 (.cond c a b) tm σ=Zju fs prim bf m0 a b tm σ (c.ev tm):=by
 apply Ze3;intro r
 rw [Zbt]
 simp only [ZaE]
 constructor
 ·rintro ⟨n,hn⟩
  split at hn
  ·rename_i e;rw [e];simp only [Zju];exact Zbt.2 ⟨n,hn⟩
  ·rename_i e;rw [e];simp only [Zju];exact Zbt.2 ⟨n,hn⟩
  ·cases hn
 ·intro h
  unfold Zju at h
  split at h
  ·rename_i e;obtain ⟨n,hn⟩:=Zbt.1 h;exact ⟨n,by rw [e];exact hn⟩
  ·rename_i e;obtain ⟨n,hn⟩:=Zbt.1 h;exact ⟨n,by rw [e];exact hn⟩
  ·cases h
variable (fs prim bf m0) in
noncomputable def evL (live:List Nat) (c:ZM) (tm:Tms) (σ:Za):Option (Za9×Tms×Za) :=
 match evC fs prim bf m0 c tm σ with
 | some (.normal,tm',σ')=>evC fs prim bf m0 (.loop live c) tm' σ'
 | r=>r
theorem Zvp {live:List Nat} {c:ZM} {tm:Tms} {σ:Za}:evC fs prim bf m0 (.loop live c) tm σ=evL fs prim bf m0 live c (gcT m0 (keepL live tm) σ).1 (gcT m0 (keepL live tm) σ).2:=by
 apply Ze3;intro r
 rw [Zbt]
 constructor
 ·rintro ⟨n,hn⟩
  simp only [ZaE] at hn
  cases n with
  | zero=>simp only [ZdK] at hn;cases hn
  | succ k =>
   simp only [ZdK] at hn
   unfold evL
   cases hx:ZaE (ZaT fs prim bf (k+1)) bf m0 (k+1) c (gcT m0 (keepL live tm) σ).1 (gcT m0 (keepL live tm) σ).2 with
   | none=>rw [hx] at hn;cases hn
   | some q =>
    rw [Zbt.2 ⟨_,hx⟩]
    rw [hx] at hn
    obtain ⟨e,tm',σ'⟩:=q
    cases e with
    | normal =>
     simp only at hn ⊢
     exact Zbt.2 ⟨k+1,by simp only [ZaE];exact Zlt (fun _ _ _ h=>h) (by omega) hn⟩
    | exit id=>exact hn
    | ret=>exact hn
    | panic x=>exact hn
 ·intro h
  unfold evL at h
  cases hx:evC fs prim bf m0 c (gcT m0 (keepL live tm) σ).1 (gcT m0 (keepL live tm) σ).2 with
  | none=>rw [hx] at h;cases h
  | some q =>
   rw [hx] at h
   obtain ⟨n,hn⟩:=Zbt.1 hx
   obtain ⟨e,tm',σ'⟩:=q
   have out:e≠.normal->some (e,tm',σ')=some r->∃ n,ZaE (ZaT fs prim bf n) bf m0 n (.loop live c) tm σ=some r:=by
    intro he h
    refine ⟨n+1,?_⟩
    have h1:=ZdS (up (show n<=n+1 by omega)) (show n<=n+1 by omega) hn
    simp only [ZaE,ZdK,h1]
    cases e with
    | normal=>exact absurd rfl he
    | exit id=>exact h
    | ret=>exact h
    | panic x=>exact h
   cases e with
   | normal =>
    simp only at h
    obtain ⟨m,hm⟩:=Zbt.1 h
    have h1:=ZdS (up (show n<=max n m+1 by omega)) (show n<=max n m+1 by omega) hn
    have h2:=ZdS (up (show m<=max n m+1 by omega)) (X5 m) hm
    simp only [ZaE] at h2
    refine ⟨max n m+1,?_⟩
    simp only [ZaE,ZdK,h1]
    exact Zlt (fun tm σ r h=>ZdS (fun _ _ _ _ h=>h) (by omega) h) (by omega) h2
   | exit id=>exact out (by simp) h
   | ret=>exact out (by simp) h
   | panic x=>exact out (by simp) h
theorem ZrS {P:Program} (hm:P.follows .mixedOrders=true) {prim:ZbT} (hP:ZjW P prim) (ann:Nat->Ann) (bf:Nat->Bool):ZaY P (EV (Zi9 P ann) prim bf):=by
 intro f args σ r σ' h
 obtain ⟨n,hn⟩:=Zcp.1 h
 exact ZpR hm hP ann bf n f args σ r σ' hn
end
end
section
open Go.RowKit
def ZtW:Tms×Za×List Cls×Option AVal->Tms×Za×Option AVal:=fun q=>(q.1,q.2.1,q.2.2.2)
def Zba:AVal->Bool
 | .pan _=>true
 | _=>false
section
variable (O:Zat) (bf:Nat->Bool)
def exI (i:Ins) (s:Nat) (tm:Tms) (σ:Za):Option (AVal×Za×Cls) :=
 if nsite i == 0 || freeAt σ s then execI O bf tm σ s i else none
def Zbr (ops:List AOp) (s:Nat) (tm:Tms) (σ:Za):Option (Tms×Za×Option AVal):=(Zav O bf ops s tm σ).map ZtW
def kN (d:Option Nat) (os:List AOp) (s:Nat) (tm:Tms):Option (AVal×Za×Cls)->Option (Tms×Za×Option AVal)
 | none=>none
 | some (v,σ,_)=>if Zba v then some (tput tm d v,σ,some (Za8 v)) else Zbr O bf os s (tput tm d v) σ
def ZmJ (live:List Nat):Option (Tms×Za×Option AVal)->Option (Za9×Tms×Za)
 | none=>none
 | some (_,σ,some x)=>some (.panic x,[],σ)
 | some (tm,σ,none)=>some (.normal,keepL live tm,σ)
variable {O bf}
theorem Zt2 (s:Nat) (tm:Tms) (σ:Za):Zbr O bf [] s tm σ=some (tm,σ,none):=rfl
theorem Zjt {o:AOp} {os:List AOp} {s:Nat} {tm:Tms} {σ:Za} (h:Zad O bf o s tm σ=none):Zav O bf (o::os) s tm σ=none:=by simp only [Zav,h]
theorem ZlY {o:AOp} {os:List AOp} {s:Nat} {tm tm1:Tms} {σ σ1:Za} {x:AVal} {c:Cls} (h:Zad O bf o s tm σ=some (.pan x,tm1,σ1,c)):Zav O bf (o::os) s tm σ=some (tm1,σ1,[c],some x):=by simp only [Zav,h]
theorem ZrZ {o:AOp} {os:List AOp} {s:Nat} {tm tm1:Tms} {σ σ1:Za} {v:AVal} {c:Cls} (h:Zad O bf o s tm σ=some (v,tm1,σ1,c)) (hn:Zba v=false):Zav O bf (o::os) s tm σ=(Zav O bf os (s+nsite o.ins) tm1 σ1).map fun q=>(q.1,q.2.1,c::q.2.2.1,q.2.2.2):=by
 simp only [Zav,h]
 cases v <;> first
  | (simp [Zba] at hn;done)
  | (simp only;cases Zav O bf os (s+nsite o.ins) tm1 σ1 <;> rfl)
theorem Zlm {o:AOp} {os:List AOp} {s:Nat} {tm:Tms} {σ:Za} (h:Zad O bf o s tm σ=none):Zbr O bf (o::os) s tm σ=none:=by simp only [Zbr,Zjt h,Option.map_none]
theorem ZpZ {o:AOp} {os:List AOp} {s:Nat} {tm tm1:Tms} {σ σ1:Za} {x:AVal} {c:Cls} (h:Zad O bf o s tm σ=some (.pan x,tm1,σ1,c)):Zbr O bf (o::os) s tm σ=some (tm1,σ1,some x):=by simp only [Zbr,ZlY h,We,ZtW]
theorem ZlQ {o:AOp} {os:List AOp} {s:Nat} {tm tm1:Tms} {σ σ1:Za} {v:AVal} {c:Cls} (h:Zad O bf o s tm σ=some (v,tm1,σ1,c)) (hn:Zba v=false):Zbr O bf (o::os) s tm σ=Zbr O bf os (s+nsite o.ins) tm1 σ1:=by
 simp only [Zbr,ZrZ h hn,Option.map_map]
 rfl
theorem Zlk {v:AVal} (h:Zba v=true):∃ x,v=.pan x:=by
 cases v <;> first | exact ⟨_,rfl⟩ | (simp [Zba] at h;done)
theorem Zkb {d:Option Nat} {i:Ins} {af:List Nat} {s:Nat} {tm:Tms} {σ:Za}:Zad O bf ⟨d,i,none,af⟩ s tm σ=(exI O bf i s tm σ).map fun q=>(q.1,tput tm d q.1,q.2.1,q.2.2):=by
 unfold Zad exI
 simp only [Zbw]
 split
 ·cases execI O bf tm σ s i with
  | none=>rfl
  | some q=>rfl
 ·rfl
theorem Zoj (d:Option Nat) (i:Ins) (af:List Nat) (os:List AOp) (s:Nat) (tm:Tms) (σ:Za):Zbr O bf (⟨d,i,none,af⟩::os) s tm σ=kN O bf d os (s+nsite i) tm (exI O bf i s tm σ):=by
 cases h:exI O bf i s tm σ with
 | none=>exact Zlm (by rw [Zkb,h];rfl)
 | some q =>
  obtain ⟨v,σ1,c⟩:=q
  have hs:Zad O bf ⟨d,i,none,af⟩ s tm σ=some (v,tput tm d v,σ1,c):=by rw [Zkb,h];rfl
  cases hp:Zba v with
  | true =>
   obtain ⟨x,rfl⟩:=Zlk hp
   exact ZpZ hs
  | false =>
   rw [ZlQ hs hp]
   simp only [kN,hp,Xq,if_false]
theorem ZAA (ops:List AOp) (live:List Nat) (tm:Tms) (σ:Za):Zca O bf ops none live tm σ=ZmJ live (Zbr O bf ops σ.length tm (σ++XZ (sitesOf ops) .free)):=by
 unfold Zca Zbr
 cases Zav O bf ops σ.length tm (σ++XZ (sitesOf ops) .free) with
 | none=>rfl
 | some q =>
  obtain ⟨tm',σ',cs,p⟩:=q
  cases p <;> rfl
theorem Zo6 (d:Option Nat) (os:List AOp) (s:Nat) (tm:Tms) (v:AVal) (σ:Za) (c:Cls) (h:Zba v=false):kN O bf d os s tm (some (v,σ,c))=Zbr O bf os s (tput tm d v) σ:=by
 simp only [kN,h,Xq,if_false]
theorem ZIh (d:Option Nat) (os:List AOp) (s:Nat) (tm:Tms) (x:AVal) (σ:Za) (c:Cls):kN O bf d os s tm (some (.pan x,σ,c))=some (tput tm d (.pan x),σ,some x):=rfl
theorem ZLo (d:Option Nat) (os:List AOp) (s:Nat) (tm:Tms):kN O bf d os s tm none=none:=rfl
structure GOp where
 guard:Option (Nat×Bool)
 ops:List AOp
def Zu:List AOp->Tms->Tms
 | [],tm=>tm
 | o::os,tm=>Zu os (tput tm o.dst (.tup []))
def unG (o:AOp):AOp:={ o with guard:=none }
variable (O bf) in
def ZeA (j:Nat) (w:Bool) (g:List AOp) (s:Nat) (tm:Tms) (σ:Za):Option (Tms×Za×Option AVal):=match Zbw (some (j,w)) tm with
 | none=>none
 | some false=>some (Zu g tm,σ,none)
 | some true=>Zbr O bf (g.map unG) s tm σ
variable (O bf) in
def gK (os:List AOp) (s:Nat):Option (Tms×Za×Option AVal)->Option (Tms×Za×Option AVal)
 | none=>none
 | some (tm,σ,some x)=>some (tm,σ,some x)
 | some (tm,σ,none)=>Zbr O bf os s tm σ
def Zt (j:Nat) (w:Bool):List AOp->List AOp×List AOp
 | []=>([],[])
 | o::os=>match o.guard with
  | some (j',w')=>if j'=j/\w'=w/\o.dst≠some j then ((o::(Zt j w os).1),(Zt j w os).2) else ([],o::os)
  | none=>([],o::os)
theorem Zp4 (j:Nat) (w:Bool):∀ os,(Zt j w os).1++(Zt j w os).2=os
 | []=>rfl
 | o::os=>by
  simp only [Zt]
  split
  ·split
   ·simp [Zp4 j w os]
   ·rfl
  ·rfl
theorem ZoH (j:Nat) (w:Bool):∀ os,∀ o ∈ (Zt j w os).1,o.guard=some (j,w)/\o.dst≠some j
 | []=>by simp [Zt]
 | o::os=>by
  intro o' ho
  simp only [Zt] at ho
  split at ho
  ·rename_i j' w' hg
   split at ho
   ·rename_i hc
    rcases XV.1 ho with rfl | ho
    ·exact ⟨by rw [hg,hc.1,hc.2.1],hc.2.2⟩
    ·exact ZoH j w os o' ho
   ·simp at ho
  ·simp at ho
theorem ZDF {d:Option Nat} {v:AVal} {n:Nat} {tm:Tms} (h:d≠some n):tget (tput tm d v) n=tget tm n:=by
 cases d with
 | none=>rfl
 | some d =>
  have : d≠n:=by rintro rfl;exact h rfl
  simp only [tput,ZjO,this,if_false]
theorem Zgk {d:Option Nat} {v:AVal} {j:Nat} {w:Bool} {tm:Tms} (h:d≠some j):Zbw (some (j,w)) (tput tm d v)=Zbw (some (j,w)) tm:=by
 simp only [Zbw,ZDF h]
theorem ZvN:∀ (a b:List AOp) (s:Nat) (tm:Tms) (σ:Za),Zbr O bf (a++b) s tm σ=gK O bf b (s+sitesOf a) (Zbr O bf a s tm σ)
 | [],b,s,tm,σ=>by simp [Zt2,gK,sitesOf]
 | o::a,b,s,tm,σ=>by
  have ih:=ZvN a b
  simp only [XG]
  have hs:s+nsite o.ins+sitesOf a=s+sitesOf (o::a):=by simp [sitesOf,WW]
  cases hst:Zad O bf o s tm σ with
  | none=>rw [Zlm hst,Zlm hst];rfl
  | some q =>
   obtain ⟨v,tm1,σ1,c⟩:=q
   cases hp:Zba v with
   | true =>
    obtain ⟨x,rfl⟩:=Zlk hp
    rw [ZpZ hst,ZpZ hst];rfl
   | false=>rw [ZlQ hst hp,ZlQ hst hp,ih,hs]
theorem Zrj (j:Nat) (w:Bool):∀ (g:List AOp),(∀ o ∈ g,o.guard=some (j,w)/\o.dst≠some j)->∀ (s:Nat) (tm:Tms) (σ:Za),g≠[]->Zbr O bf g s tm σ=ZeA O bf j w g s tm σ
 | [],_,_,_,_,h=>absurd rfl h
 | o::g,hall,s,tm,σ,_=>by
  obtain ⟨hg,hd⟩:=hall o (by simp)
  have ih:∀ (tm:Tms) (σ:Za) (s:Nat),Zbw (some (j,w)) tm≠none->Zbr O bf g s tm σ=ZeA O bf j w g s tm σ:=by
   intro tm σ s hw
   by_cases he:g=[]
   ·subst he
    unfold ZeA
    cases hx:Zbw (some (j,w)) tm with
    | none=>exact absurd hx hw
    | some b=>cases b <;> rfl
   ·exact Zrj j w g (fun o ho=>hall o (by simp [ho])) s tm σ he
  cases hx:Zbw (some (j,w)) tm with
  | none =>
   rw [Zlm (by simp only [Zad,hg,hx])]
   simp only [ZeA,hx]
  | some b =>
   cases b with
   | false =>
    have h1:Zbr O bf (o::g) s tm σ=Zbr O bf g (s+nsite o.ins) (tput tm o.dst (.tup [])) σ :=
     ZlQ (v:=.tup []) (c:={}) (by simp only [Zad,hg,hx]) rfl
    rw [h1,ih _ _ _ (by rw [Zgk hd,hx];simp)]
    unfold ZeA
    rw [Zgk hd,hx]
    rfl
   | true =>
    have key:∀ r:Option (AVal×Za×Cls),(∀ v σ' c,r=some (v,σ',c)->Zba v=false->Zbr O bf g (s+nsite o.ins) (tput tm o.dst v) σ'=Zbr O bf (g.map unG) (s+nsite o.ins) (tput tm o.dst v) σ')->kN O bf o.dst g (s+nsite o.ins) tm r=kN O bf o.dst (g.map unG) (s+nsite o.ins) tm r:=by
     intro r hr
     cases r with
     | none=>rfl
     | some q =>
      obtain ⟨v,σ',c⟩:=q
      cases hp:Zba v with
      | true=>simp only [kN,hp,if_true]
      | false=>rw [Zo6 _ _ _ _ _ _ _ hp,Zo6 _ _ _ _ _ _ _ hp];exact hr v σ' c rfl hp
    have h1:Zbr O bf (o::g) s tm σ=kN O bf o.dst g (s+nsite o.ins) tm (exI O bf o.ins s tm σ):=by
     have h0:Zbr O bf (o::g) s tm σ=Zbr O bf (⟨o.dst,o.ins,none,o.after⟩::g) s tm σ:=by
      have hst:Zad O bf o s tm σ=Zad O bf ⟨o.dst,o.ins,none,o.after⟩ s tm σ:=by
       unfold Zad
       simp only [hg,hx]
       rfl
      unfold Zbr
      simp only [Zav,hst]
     rw [h0,Zoj]
    rw [h1]
    unfold ZeA
    rw [hx]
    simp only [XS]
    rw [show unG o=⟨o.dst,o.ins,none,o.after⟩ from rfl,Zoj]
    refine key _ fun v σ' c _ _=>?_
    rw [ih _ _ _ (by rw [Zgk hd,hx];simp)]
    unfold ZeA
    rw [Zgk hd,hx]
theorem Zyu (d:Option Nat) (i:Ins) (j:Nat) (w:Bool) (af:List Nat) (os:List AOp) (s:Nat) (tm:Tms) (σ:Za) (hd:decide (d=some j)=false) :
  Zbr O bf (⟨d,i,some (j,w),af⟩::os) s tm σ=gK O bf (Zt j w os).2 (s+sitesOf (⟨d,i,some (j,w),af⟩::(Zt j w os).1)) (ZeA O bf j w (⟨d,i,some (j,w),af⟩::(Zt j w os).1) s tm σ):=by
 have h:=Zp4 j w os
 have hall:∀ o ∈ (⟨d,i,some (j,w),af⟩::(Zt j w os).1:List AOp),o.guard=some (j,w)/\o.dst≠some j:=by
  intro o ho
  rcases XV.1 ho with rfl | ho
  ·exact ⟨rfl,by simpa using hd⟩
  ·exact ZoH j w os o ho
 rw [<-Zrj j w _ hall s tm σ (by simp),<-ZvN,XG,h]
variable (O bf) in
def gW (w:Bool) (g:List AOp) (s:Nat) (tm:Tms) (σ:Za):AVal->Option (Tms×Za×Option AVal)
 | .bool b=>if b=w then Zbr O bf (g.map unG) s tm σ else some (Zu g tm,σ,none)
 | .tup []=>some (Zu g tm,σ,none)
 | _=>none
theorem ZG9 (j:Nat) (w:Bool) (g:List AOp) (s:Nat) (tm:Tms) (σ:Za):ZeA O bf j w g s tm σ=gW O bf w g s tm σ (tget tm j):=by
 unfold ZeA Zbw
 simp only
 generalize tget tm j=v
 cases v
 case bool b=>cases b <;> cases w <;> rfl
 case tup vs=>cases vs <;> rfl
 all_goals rfl
theorem ZLM (w:Bool) (g:List AOp) (s:Nat) (tm:Tms) (σ:Za) (b:Bool):gW O bf w g s tm σ (.bool b)=if b=w then Zbr O bf (g.map unG) s tm σ else some (Zu g tm,σ,none):=rfl
theorem ZKY (w:Bool) (g:List AOp) (s:Nat) (tm:Tms) (σ:Za):gW O bf w g s tm σ (.tup [])=some (Zu g tm,σ,none):=rfl
theorem Zwm (os:List AOp) (s:Nat) (tm:Tms) (σ:Za):gK O bf os s (some (tm,σ,none))=Zbr O bf os s tm σ:=rfl
end
section
variable (c:Prop) [Decidable c]
theorem ZE {α:Type} (a b:α) (x y:List α):(if c then a::x else b::y)=(if c then a else b)::(if c then x else y):=by split <;> rfl
theorem ZGu (k:IntKind) (a b:Int):(if c then AVal.int k a else AVal.int k b)=AVal.int k (if c then a else b):=by split <;> rfl
theorem ZKe (a b:Bool):(if c then AVal.bool a else AVal.bool b)=AVal.bool (if c then a else b):=by split <;> rfl
theorem Zwx (a b:List UInt8):(if c then AVal.str a else AVal.str b)=AVal.str (if c then a else b):=by split <;> rfl
theorem ZCo (p q:Bool) (a b:List AVal):(if c then AVal.lst p a else AVal.lst q b)=AVal.lst (if c then p else q) (if c then a else b):=by split <;> rfl
theorem ZDl (a b:List AVal):(if c then AVal.agg a else AVal.agg b)=AVal.agg (if c then a else b):=by split <;> rfl
theorem Zxn (a b:List AVal):(if c then Z5.var a else Z5.var b)=Z5.var (if c then a else b):=by split <;> rfl
theorem ZzP (g k:Nat) (a b:List AVal):(if c then Z5.row g k a else Z5.row g k b)=Z5.row g k (if c then a else b):=by split <;> rfl
theorem ZAI (t:Nat) (a b:Nat):(if c then AVal.ref t a else AVal.ref t b)=AVal.ref t (if c then a else b):=by split <;> rfl
theorem ZF {α:Type} (x y z:α):(if c then (if c then x else y) else z)=if c then x else z:=by split <;> rfl
theorem ZA {α:Type} (x y z:α):(if c then x else (if c then y else z))=if c then x else z:=by split <;> rfl
theorem ZB {α:Type} (x y z:α):(if c then (if ¬c then x else y) else z)=if c then y else z:=by split <;> simp_all
theorem ZD {α:Type} (x y z:α):(if c then x else (if ¬c then y else z))=if c then x else y:=by split <;> simp_all
theorem ZGX (σ:Za) (a b:AVal) (p:Bool):Zgb σ a b (.bool p)=some (if p=true then a else b,σ,{}):=by cases p <;> rfl
theorem ZJo (a b:AVal):Zba (if c then a else b)=if c then Zba a else Zba b:=by split <;> rfl
end
section
variable {fs:Nat->Option Zaj} {prim:ZbT} {bf:Nat->Bool} {m0:Nat}
theorem Zzv (p:Bool) (a b:ZM) (tm:Tms) (σ:Za):Zju fs prim bf m0 a b tm σ (.bool p)=if p=true then evC fs prim bf m0 a tm σ else evC fs prim bf m0 b tm σ:=by
 cases p <;> rfl
theorem ZBo (b:ZM) (tm:Tms) (σ:Za):Zbi fs prim bf m0 b (some (.normal,tm,σ))=evC fs prim bf m0 b tm σ:=rfl
theorem ZE3 (b:ZM) (i:Nat) (tm:Tms) (σ:Za):Zbi fs prim bf m0 b (some (.exit i,tm,σ))=some (.exit i,tm,σ):=rfl
theorem ZFl (b:ZM) (tm:Tms) (σ:Za):Zbi fs prim bf m0 b (some (.ret,tm,σ))=some (.ret,tm,σ):=rfl
theorem ZxI (b:ZM) (x:AVal) (tm:Tms) (σ:Za):Zbi fs prim bf m0 b (some (.panic x,tm,σ))=some (.panic x,tm,σ):=rfl
theorem ZzF (c:Prop) [Decidable c] (b:ZM) (x y:Option (Za9×Tms×Za)):Zbi fs prim bf m0 b (if c then x else y)=if c then Zbi fs prim bf m0 b x else Zbi fs prim bf m0 b y:=by split <;> rfl
theorem Zyj (id:Nat) (tm:Tms) (σ:Za):Wt (Za6 id) (some (.normal,tm,σ))=some (.normal,tm,σ):=rfl
theorem Zwp (id i:Nat) (tm:Tms) (σ:Za):Wt (Za6 id) (some (.exit i,tm,σ))=if i=id then some (.normal,tm,σ) else some (.exit i,tm,σ):=by
 simp only [We,Za6];split <;> rfl
theorem ZAC (id:Nat) (tm:Tms) (σ:Za):Wt (Za6 id) (some (.ret,tm,σ))=some (.ret,tm,σ):=rfl
theorem ZDY (id:Nat) (x:AVal) (tm:Tms) (σ:Za):Wt (Za6 id) (some (.panic x,tm,σ))=some (.panic x,tm,σ):=rfl
theorem ZDv (id:Nat) (c:Prop) [Decidable c] (x y:Option (Za9×Tms×Za)):Wt (Za6 id) (if c then x else y)=if c then Wt (Za6 id) x else Wt (Za6 id) y:=by split <;> rfl
theorem ZKv (m:Nat) (fn:Zaj) (c:Prop) [Decidable c] (x y:Option (Za9×Tms×Za)):ZaL m fn (if c then x else y)=if c then ZaL m fn x else ZaL m fn y:=by split <;> rfl
end
section
variable {fs:Nat->Option Zaj} {prim:ZbT} {bf:Nat->Bool} {m0:Nat}
theorem Zxz {live:List Nat} {c:ZM} {tm tm':Tms} {σ σ':Za} (h:evC fs prim bf m0 c tm σ=some (.normal,tm',σ')):evL fs prim bf m0 live c tm σ=evL fs prim bf m0 live c (gcT m0 (keepL live tm') σ').1 (gcT m0 (keepL live tm') σ').2:=by
 unfold evL
 rw [h]
 simp only
 rw [Zvp]
 rfl
theorem ZAH {live:List Nat} {c:ZM} {tm tm':Tms} {σ σ':Za} {i:Nat} (h:evC fs prim bf m0 c tm σ=some (.exit i,tm',σ')):evL fs prim bf m0 live c tm σ=some (.exit i,tm',σ'):=by
 unfold evL;rw [h]
theorem ZI8 {live:List Nat} {c:ZM} {tm tm':Tms} {σ σ':Za} (h:evC fs prim bf m0 c tm σ=some (.ret,tm',σ')):evL fs prim bf m0 live c tm σ=some (.ret,tm',σ'):=by
 unfold evL;rw [h]
variable (fs prim bf m0) in
noncomputable def evM (live:List Nat) (c:ZM):Option (Za9×Tms×Za)->Option (Za9×Tms×Za)
 | some (.normal,tm,σ)=>evL fs prim bf m0 live c (gcT m0 (keepL live tm) σ).1 (gcT m0 (keepL live tm) σ).2
 | r=>r
theorem ZY (live:List Nat) (c:ZM) (tm:Tms) (σ:Za):evL fs prim bf m0 live c tm σ=evM fs prim bf m0 live c (evC fs prim bf m0 c tm σ):=by
 cases h:evC fs prim bf m0 c tm σ with
 | none=>unfold evL;rw [h];rfl
 | some q =>
  obtain ⟨e,tm',σ'⟩:=q
  cases e with
  | normal=>exact Zxz h
  | exit i=>exact ZAH h
  | ret=>exact ZI8 h
  | panic x=>unfold evL;rw [h];rfl
theorem ZJ8 (live:List Nat) (c:ZM) (tm:Tms) (σ:Za):evM fs prim bf m0 live c (some (.normal,tm,σ))=evL fs prim bf m0 live c (gcT m0 (keepL live tm) σ).1 (gcT m0 (keepL live tm) σ).2:=rfl
theorem ZLU (live:List Nat) (c:ZM) (i:Nat) (tm:Tms) (σ:Za):evM fs prim bf m0 live c (some (.exit i,tm,σ))=some (.exit i,tm,σ):=rfl
theorem ZCr (live:List Nat) (c:ZM) (tm:Tms) (σ:Za):evM fs prim bf m0 live c (some (.ret,tm,σ))=some (.ret,tm,σ):=rfl
theorem Zww (live:List Nat) (c:ZM) (x:AVal) (tm:Tms) (σ:Za):evM fs prim bf m0 live c (some (.panic x,tm,σ))=some (.panic x,tm,σ):=rfl
theorem ZBc (live:List Nat) (b:ZM) (c:Prop) [Decidable c] (x y:Option (Za9×Tms×Za)):evM fs prim bf m0 live b (if c then x else y)=if c then evM fs prim bf m0 live b x else evM fs prim bf m0 live b y:=by split <;> rfl
end
def Zbj:AVal->Bool
 | .int _ _=>true
 | .bool _=>true
 | .str _=>true
 | .nilp=>true
 | .nilm=>true
 | .nili=>true
 | .lst _ _=>true
 | .fn _ []=>true
 | _=>false
def ZaX:AVal->Bool
 | .agg cs=>cs.all Zbj
 | x=>Zbj x
def Zbl:AVal->AVal
 | .lst _ xs=>.lst false xs
 | x=>x
def Zaw:AVal->AVal
 | .agg cs=>.agg (cs.map Zbl)
 | x=>Zbl x
theorem Zq4 {σ:Za} {x:AVal} (h:Zbj x=true):ZcR σ x=some (Zbl x,[]):=by
 cases x <;> first | (simp [Zbj] at h;done) | rfl
theorem ZrE {σ:Za}:∀ {xs:List AVal},xs.all Zbj=true->ZcY σ xs=some (xs.map Zbl,[])
 | [],_=>rfl
 | x::xs,h=>by
  simp only [Xp,XE] at h
  simp only [ZcY,Zq4 h.1,ZrE h.2,XS,Xw]
theorem ZhL {x:AVal} (h:∀ cs,x≠.agg cs):ZaX x=Zbj x/\Zaw x=Zbl x:=by
 cases x <;> first | exact ⟨rfl,rfl⟩ | exact absurd rfl (h _)
theorem ZH3 {σ:Za} {x:AVal} (h:∀ cs,x≠.agg cs):showA σ x=ZcR σ x:=by
 cases x <;> first | rfl | exact absurd rfl (h _)
theorem ZqA (x:AVal):(∃ cs,x=.agg cs)\/∀ cs,x≠.agg cs:=by
 cases x <;> first | exact XK ⟨_,rfl⟩ | (right;intro cs;simp)
theorem ZDk {σ:Za} {x:AVal} (h:ZaX x=true):showA σ x=some (Zaw x,[]):=by
 rcases ZqA x with ⟨cs,rfl⟩ | hn
 ·simp only [ZaX] at h
  simp only [showA,ZrE h,Zaw]
 ·rw [(ZhL hn).1] at h
  rw [ZH3 hn,(ZhL hn).2]
  exact Zq4 h
theorem Zh7 {σ:Za}:∀ {xs:List AVal},xs.all ZaX=true->showAs σ xs=some (xs.map Zaw,[])
 | [],_=>rfl
 | x::xs,h=>by
  simp only [Xp,XE] at h
  simp only [showAs,ZDk h.1,Zh7 h.2,XS,Xw]
theorem Zq1 {x:AVal} (h:Zbj x=true):ZT (Zbl x)=[]:=by
 cases x
 case fn f cs=>cases cs <;> simp [Zbj] at h;rfl
 all_goals first | (simp [Zbj] at h;done) | rfl
theorem Zvm:∀ {xs:List AVal},xs.all Zbj=true->ZP (xs.map Zbl)=[]
 | [],_=>rfl
 | x::xs,h=>by
  simp only [Xp,XE] at h
  simp only [XS,ZP,Zq1 h.1,Zvm h.2,Xw]
theorem ZFi {x:AVal} (h:ZaX x=true):ZT (Zaw x)=[]:=by
 rcases ZqA x with ⟨cs,rfl⟩ | hn
 ·simp only [ZaX] at h
  simp only [Zaw,ZT];exact Zvm h
 ·rw [(ZhL hn).1] at h
  rw [(ZhL hn).2];exact Zq1 h
theorem Zgp:∀ {xs:List AVal},xs.all ZaX=true->ZP (xs.map Zaw)=[]
 | [],_=>rfl
 | x::xs,h=>by
  simp only [Xp,XE] at h
  simp only [XS,ZP,ZFi h.1,Zgp h.2,Xw]
theorem ZsV {ρ:Rho} {x:AVal} (h:Zbj x=true):ZN ρ (Zbl x)=Zbl x:=by
 cases x
 case fn f cs=>cases cs <;> simp [Zbj] at h;rfl
 all_goals first | (simp [Zbj] at h;done) | rfl
theorem ZrW {ρ:Rho}:∀ {xs:List AVal},xs.all Zbj=true->ZR ρ (xs.map Zbl)=xs.map Zbl
 | [],_=>rfl
 | x::xs,h=>by
  simp only [Xp,XE] at h
  simp only [XS,ZR,ZsV h.1,ZrW h.2]
theorem ZFM {ρ:Rho} {x:AVal} (h:ZaX x=true):ZN ρ (Zaw x)=Zaw x:=by
 rcases ZqA x with ⟨cs,rfl⟩ | hn
 ·simp only [ZaX] at h
  simp only [Zaw,ZN];rw [ZrW h]
 ·rw [(ZhL hn).1] at h
  rw [(ZhL hn).2];exact ZsV h
theorem ZgB {ρ:Rho}:∀ {xs:List AVal},xs.all ZaX=true->ZR ρ (xs.map Zaw)=xs.map Zaw
 | [],_=>rfl
 | x::xs,h=>by
  simp only [Xp,XE] at h
  simp only [XS,ZR,ZFM h.1,ZgB h.2]
theorem Zi5 {O:Zat} {bf:Nat->Bool} {σ:Za} {sq f own:Nat} {view:Bool} {args:List AVal} (hb:bf f=false) (h:args.all ZaX=true) :
  ZQ O bf σ sq f own view args=Zbf σ σ [] [] sq own (ZaG view 0 (O f (args.map Zaw) [])):=by
 unfold ZQ ZcK
 rw [hb]
 simp only [Xq,if_false,Zh7 h]
 have h1:ZS σ []=σ:=rfl
 rw [h1,Zgp h]
 have h2:Zd σ 1000 [] []=[]:=rfl
 rw [h2]
 unfold Zb8
 simp only [List.all_nil,if_true,ZgB h,Ze,Xt]
theorem Zmw (σ:Za) (sq own:Nat) (r:AVal) (h:ZN (ZaM [] [] sq) r=r):Zbf σ σ [] [] sq own (some (r,[]))=some (r,σ,{}):=by
 simp only [Zbf,List.isEmpty_nil,WD,if_true,Zd4,Bool.not_true,Bool.false_and,Xq,if_false]
 split
 ·rfl
 ·rw [h]
end
section
section
variable (ρ:Rho) (σ:Za)
theorem Zyf  : Zba (.top)=false:=rfl
theorem Zz1  : Zba (.any)=false:=rfl
theorem ZxA (k:IntKind) (n:Int):Zba (.int k n)=false:=rfl
theorem ZEE (b:Bool):Zba (.bool b)=false:=rfl
theorem ZLN (l:List UInt8):Zba (.str l)=false:=rfl
theorem ZAy  : Zba (.nilp)=false:=rfl
theorem Zwc (t:Nat) (o:Nat):Zba (.ref t o)=false:=rfl
theorem Zz6 (t:Nat) (g:Nat) (i:Nat) (o:Nat):Zba (.eref t g i o)=false:=rfl
theorem ZHJ (cs:List AVal) (o:Nat):Zba (.iptr cs o)=false:=rfl
theorem ZLV (x:Bool) (xs:List AVal):Zba (.lst x xs)=false:=rfl
theorem ZHy (t:Nat) (g:Nat) (lo:Nat) (n:Nat):Zba (.sl t g lo n)=false:=rfl
theorem ZLE (cs:List AVal):Zba (.agg cs)=false:=rfl
theorem ZHI (vs:List AVal):Zba (.tup vs)=false:=rfl
theorem ZJh (f:Nat) (caps:List AVal):Zba (.fn f caps)=false:=rfl
theorem ZCs  : Zba (.nilm)=false:=rfl
theorem ZDq (t:Nat):Zba (.map t)=false:=rfl
theorem Zwl  : Zba (.nili)=false:=rfl
theorem ZLO (t:Nat) (x:AVal):Zba (.iface t x)=false:=rfl
theorem ZHD (x:AVal):Zba (.pan x)=true:=rfl
theorem ZyU  : Zar (.top)=false:=rfl
theorem Zzn  : Zar (.any)=true:=rfl
theorem ZEk (k:IntKind) (n:Int):Zar (.int k n)=true:=rfl
theorem Zzx (b:Bool):Zar (.bool b)=true:=rfl
theorem Zy2 (l:List UInt8):Zar (.str l)=true:=rfl
theorem Zzw  : Zar (.nilp)=true:=rfl
theorem Zzj (t:Nat) (o:Nat):Zar (.ref t o)=true:=rfl
theorem ZCR (t:Nat) (g:Nat) (i:Nat) (o:Nat):Zar (.eref t g i o)=true:=rfl
theorem ZJH (cs:List AVal) (o:Nat):Zar (.iptr cs o)=true:=rfl
theorem ZLh (x:Bool) (xs:List AVal):Zar (.lst x xs)=true:=rfl
theorem ZCp (t:Nat) (g:Nat) (lo:Nat) (n:Nat):Zar (.sl t g lo n)=true:=rfl
theorem ZBZ (cs:List AVal):Zar (.agg cs)=false:=rfl
theorem ZFX (vs:List AVal):Zar (.tup vs)=false:=rfl
theorem ZIX (f:Nat) (caps:List AVal):Zar (.fn f caps)=true:=rfl
theorem ZFm  : Zar (.nilm)=true:=rfl
theorem ZDC (t:Nat):Zar (.map t)=true:=rfl
theorem ZHU  : Zar (.nili)=true:=rfl
theorem ZK6 (t:Nat) (x:AVal):Zar (.iface t x)=true:=rfl
theorem ZC5 (x:AVal):Zar (.pan x)=false:=rfl
theorem ZEa  : Zb7 (.top)=false:=rfl
theorem ZKU  : Zb7 (.any)=true:=rfl
theorem ZAa (k:IntKind) (n:Int):Zb7 (.int k n)=true:=rfl
theorem ZDi (b:Bool):Zb7 (.bool b)=true:=rfl
theorem ZxZ (l:List UInt8):Zb7 (.str l)=true:=rfl
theorem ZCy  : Zb7 (.nilp)=true:=rfl
theorem ZFk (t:Nat) (o:Nat):Zb7 (.ref t o)=true:=rfl
theorem Zxr (t:Nat) (g:Nat) (i:Nat) (o:Nat):Zb7 (.eref t g i o)=true:=rfl
theorem ZD8 (cs:List AVal) (o:Nat):Zb7 (.iptr cs o)=true:=rfl
theorem Zz5 (x:Bool) (xs:List AVal):Zb7 (.lst x xs)=true:=rfl
theorem ZE1 (t:Nat) (g:Nat) (lo:Nat) (n:Nat):Zb7 (.sl t g lo n)=true:=rfl
theorem ZB4 (cs:List AVal):Zb7 (.agg cs)=true:=rfl
theorem ZKa (vs:List AVal):Zb7 (.tup vs)=true:=rfl
theorem Zwg (f:Nat) (caps:List AVal):Zb7 (.fn f caps)=true:=rfl
theorem ZFx  : Zb7 (.nilm)=true:=rfl
theorem ZFA (t:Nat):Zb7 (.map t)=true:=rfl
theorem ZwO  : Zb7 (.nili)=true:=rfl
theorem ZzY (t:Nat) (x:AVal):Zb7 (.iface t x)=true:=rfl
theorem Zyd (x:AVal):Zb7 (.pan x)=true:=rfl
theorem ZCb  : Zbn (.top)=false:=rfl
theorem ZAn  : Zbn (.any)=false:=rfl
theorem ZDU (k:IntKind) (n:Int):Zbn (.int k n)=true:=rfl
theorem ZID (b:Bool):Zbn (.bool b)=true:=rfl
theorem ZCX (l:List UInt8):Zbn (.str l)=true:=rfl
theorem ZEc  : Zbn (.nilp)=true:=rfl
theorem ZBO (t:Nat) (o:Nat):Zbn (.ref t o)=false:=rfl
theorem ZF8 (t:Nat) (g:Nat) (i:Nat) (o:Nat):Zbn (.eref t g i o)=false:=rfl
theorem ZJU (cs:List AVal) (o:Nat):Zbn (.iptr cs o)=false:=rfl
theorem ZLb (x:Bool) (xs:List AVal):Zbn (.lst x xs)=false:=rfl
theorem Zxl (t:Nat) (g:Nat) (lo:Nat) (n:Nat):Zbn (.sl t g lo n)=false:=rfl
theorem ZJI (cs:List AVal):Zbn (.agg cs)=false:=rfl
theorem Zxb (vs:List AVal):Zbn (.tup vs)=false:=rfl
theorem ZBX (f:Nat) (caps:List AVal):Zbn (.fn f caps)=false:=rfl
theorem ZJr  : Zbn (.nilm)=true:=rfl
theorem ZIU (t:Nat):Zbn (.map t)=false:=rfl
theorem ZLH  : Zbn (.nili)=true:=rfl
theorem ZF9 (t:Nat) (x:AVal):Zbn (.iface t x)=false:=rfl
theorem ZCg (x:AVal):Zbn (.pan x)=false:=rfl
theorem ZD6  : Zbu (.top)=false:=rfl
theorem ZA6  : Zbu (.any)=false:=rfl
theorem ZH5 (k:IntKind) (n:Int):Zbu (.int k n)=true:=rfl
theorem ZIi (b:Bool):Zbu (.bool b)=true:=rfl
theorem ZxM (l:List UInt8):Zbu (.str l)=true:=rfl
theorem ZEA  : Zbu (.nilp)=true:=rfl
theorem ZIv (t:Nat) (o:Nat):Zbu (.ref t o)=false:=rfl
theorem ZHG (t:Nat) (g:Nat) (i:Nat) (o:Nat):Zbu (.eref t g i o)=false:=rfl
theorem ZBS (cs:List AVal) (o:Nat):Zbu (.iptr cs o)=false:=rfl
theorem ZyG (x:Bool) (xs:List AVal):Zbu (.lst x xs)=false:=rfl
theorem ZLm (t:Nat) (g:Nat) (lo:Nat) (n:Nat):Zbu (.sl t g lo n)=false:=rfl
theorem ZLT (cs:List AVal):Zbu (.agg cs)=cs.all Zbn:=rfl
theorem ZwJ (vs:List AVal):Zbu (.tup vs)=false:=rfl
theorem ZJK (f:Nat) (caps:List AVal):Zbu (.fn f caps)=false:=rfl
theorem ZLs  : Zbu (.nilm)=true:=rfl
theorem Zy5 (t:Nat):Zbu (.map t)=false:=rfl
theorem ZBP  : Zbu (.nili)=true:=rfl
theorem ZB2 (t:Nat) (x:AVal):Zbu (.iface t x)=false:=rfl
theorem ZK0 (x:AVal):Zbu (.pan x)=false:=rfl
theorem ZBA  : ZbD (.top)=false:=rfl
theorem ZEX  : ZbD (.any)=false:=rfl
theorem ZJm (k:IntKind) (n:Int):ZbD (.int k n)=true:=rfl
theorem ZK2 (b:Bool):ZbD (.bool b)=true:=rfl
theorem ZHr (l:List UInt8):ZbD (.str l)=true:=rfl
theorem ZAt  : ZbD (.nilp)=true:=rfl
theorem ZLi (t:Nat) (o:Nat):ZbD (.ref t o)=false:=rfl
theorem ZA3 (t:Nat) (g:Nat) (i:Nat) (o:Nat):ZbD (.eref t g i o)=false:=rfl
theorem ZxJ (cs:List AVal) (o:Nat):ZbD (.iptr cs o)=false:=rfl
theorem ZCB (x:Bool) (xs:List AVal):ZbD (.lst x xs)=false:=rfl
theorem Zw9 (t:Nat) (g:Nat) (lo:Nat) (n:Nat):ZbD (.sl t g lo n)=false:=rfl
theorem ZJ0 (cs:List AVal):ZbD (.agg cs)=cs.all Zbn:=rfl
theorem ZC7 (vs:List AVal):ZbD (.tup vs)=vs.all Zbu:=rfl
theorem Zyi (f:Nat) (caps:List AVal):ZbD (.fn f caps)=false:=rfl
theorem ZIW  : ZbD (.nilm)=true:=rfl
theorem ZB6 (t:Nat):ZbD (.map t)=false:=rfl
theorem ZI7  : ZbD (.nili)=true:=rfl
theorem ZKf (t:Nat) (x:AVal):ZbD (.iface t x)=false:=rfl
theorem Zyt  : Zbj (.top)=false:=rfl
theorem ZwX  : Zbj (.any)=false:=rfl
theorem Zwn (k:IntKind) (n:Int):Zbj (.int k n)=true:=rfl
theorem Zxi (b:Bool):Zbj (.bool b)=true:=rfl
theorem ZCU (l:List UInt8):Zbj (.str l)=true:=rfl
theorem ZE9  : Zbj (.nilp)=true:=rfl
theorem ZBy (t:Nat) (o:Nat):Zbj (.ref t o)=false:=rfl
theorem ZyJ (t:Nat) (g:Nat) (i:Nat) (o:Nat):Zbj (.eref t g i o)=false:=rfl
theorem ZI4 (cs:List AVal) (o:Nat):Zbj (.iptr cs o)=false:=rfl
theorem ZEf (x:Bool) (xs:List AVal):Zbj (.lst x xs)=true:=rfl
theorem ZwU (t:Nat) (g:Nat) (lo:Nat) (n:Nat):Zbj (.sl t g lo n)=false:=rfl
theorem ZAS (cs:List AVal):Zbj (.agg cs)=false:=rfl
theorem ZIk (vs:List AVal):Zbj (.tup vs)=false:=rfl
theorem ZBn  : Zbj (.nilm)=true:=rfl
theorem ZyA (t:Nat):Zbj (.map t)=false:=rfl
theorem ZKo  : Zbj (.nili)=true:=rfl
theorem Zyw (t:Nat) (x:AVal):Zbj (.iface t x)=false:=rfl
theorem Zxo (x:AVal):Zbj (.pan x)=false:=rfl
theorem Zwf  : ZaX (.top)=false:=rfl
theorem ZKE  : ZaX (.any)=false:=rfl
theorem ZET (k:IntKind) (n:Int):ZaX (.int k n)=true:=rfl
theorem ZHR (b:Bool):ZaX (.bool b)=true:=rfl
theorem Zzs (l:List UInt8):ZaX (.str l)=true:=rfl
theorem ZD4  : ZaX (.nilp)=true:=rfl
theorem ZKG (t:Nat) (o:Nat):ZaX (.ref t o)=false:=rfl
theorem Zxe (t:Nat) (g:Nat) (i:Nat) (o:Nat):ZaX (.eref t g i o)=false:=rfl
theorem ZGM (cs:List AVal) (o:Nat):ZaX (.iptr cs o)=false:=rfl
theorem Zxa (x:Bool) (xs:List AVal):ZaX (.lst x xs)=true:=rfl
theorem ZKj (t:Nat) (g:Nat) (lo:Nat) (n:Nat):ZaX (.sl t g lo n)=false:=rfl
theorem ZFR (cs:List AVal):ZaX (.agg cs)=cs.all Zbj:=rfl
theorem ZIc (vs:List AVal):ZaX (.tup vs)=false:=rfl
theorem Zw3  : ZaX (.nilm)=true:=rfl
theorem Zz9 (t:Nat):ZaX (.map t)=false:=rfl
theorem ZKr  : ZaX (.nili)=true:=rfl
theorem ZI3 (t:Nat) (x:AVal):ZaX (.iface t x)=false:=rfl
theorem ZKx (x:AVal):ZaX (.pan x)=false:=rfl
theorem ZJw  : Zbl (.top)=(.top):=rfl
theorem ZJP  : Zbl (.any)=(.any):=rfl
theorem ZCn (k:IntKind) (n:Int):Zbl (.int k n)=(.int k n):=rfl
theorem ZCM (b:Bool):Zbl (.bool b)=(.bool b):=rfl
theorem ZGF (l:List UInt8):Zbl (.str l)=(.str l):=rfl
theorem ZCE  : Zbl (.nilp)=(.nilp):=rfl
theorem ZFZ (t:Nat) (o:Nat):Zbl (.ref t o)=(.ref t o):=rfl
theorem Zxh (t:Nat) (g:Nat) (i:Nat) (o:Nat):Zbl (.eref t g i o)=(.eref t g i o):=rfl
theorem ZEt (cs:List AVal) (o:Nat):Zbl (.iptr cs o)=(.iptr cs o):=rfl
theorem ZEI (x:Bool) (xs:List AVal):Zbl (.lst x xs)=.lst false xs:=rfl
theorem Zz0 (t:Nat) (g:Nat) (lo:Nat) (n:Nat):Zbl (.sl t g lo n)=(.sl t g lo n):=rfl
theorem ZB1 (cs:List AVal):Zbl (.agg cs)=(.agg cs):=rfl
theorem ZC3 (vs:List AVal):Zbl (.tup vs)=(.tup vs):=rfl
theorem ZCN (f:Nat) (caps:List AVal):Zbl (.fn f caps)=(.fn f caps):=rfl
theorem ZEr  : Zbl (.nilm)=(.nilm):=rfl
theorem ZG5 (t:Nat):Zbl (.map t)=(.map t):=rfl
theorem ZB0  : Zbl (.nili)=(.nili):=rfl
theorem ZA5 (t:Nat) (x:AVal):Zbl (.iface t x)=(.iface t x):=rfl
theorem ZJj (x:AVal):Zbl (.pan x)=(.pan x):=rfl
theorem Zv1  : Zaw (.top)=(.top):=rfl
theorem ZFs  : Zaw (.any)=(.any):=rfl
theorem ZKq (k:IntKind) (n:Int):Zaw (.int k n)=(.int k n):=rfl
theorem Zwv (b:Bool):Zaw (.bool b)=(.bool b):=rfl
theorem ZGG (l:List UInt8):Zaw (.str l)=(.str l):=rfl
theorem ZJl  : Zaw (.nilp)=(.nilp):=rfl
theorem ZDf (t:Nat) (o:Nat):Zaw (.ref t o)=(.ref t o):=rfl
theorem ZFL (t:Nat) (g:Nat) (i:Nat) (o:Nat):Zaw (.eref t g i o)=(.eref t g i o):=rfl
theorem ZI0 (cs:List AVal) (o:Nat):Zaw (.iptr cs o)=(.iptr cs o):=rfl
theorem Zxm (x:Bool) (xs:List AVal):Zaw (.lst x xs)=.lst false xs:=rfl
theorem ZDp (t:Nat) (g:Nat) (lo:Nat) (n:Nat):Zaw (.sl t g lo n)=(.sl t g lo n):=rfl
theorem ZJy (cs:List AVal):Zaw (.agg cs)=.agg (cs.map Zbl):=rfl
theorem ZCC (vs:List AVal):Zaw (.tup vs)=(.tup vs):=rfl
theorem Zyp (f:Nat) (caps:List AVal):Zaw (.fn f caps)=(.fn f caps):=rfl
theorem ZHV  : Zaw (.nilm)=(.nilm):=rfl
theorem ZFg (t:Nat):Zaw (.map t)=(.map t):=rfl
theorem Zx5  : Zaw (.nili)=(.nili):=rfl
theorem ZIC (t:Nat) (x:AVal):Zaw (.iface t x)=(.iface t x):=rfl
theorem ZxQ (x:AVal):Zaw (.pan x)=(.pan x):=rfl
theorem ZKs  : AVal.cells (.top)=[(.top)]:=rfl
theorem Zz3  : AVal.cells (.any)=[(.any)]:=rfl
theorem Zyz (k:IntKind) (n:Int):AVal.cells (.int k n)=[(.int k n)]:=rfl
theorem ZAK (b:Bool):AVal.cells (.bool b)=[(.bool b)]:=rfl
theorem ZDm (l:List UInt8):AVal.cells (.str l)=[(.str l)]:=rfl
theorem ZEp  : AVal.cells (.nilp)=[(.nilp)]:=rfl
theorem ZD3 (t:Nat) (o:Nat):AVal.cells (.ref t o)=[(.ref t o)]:=rfl
theorem ZJg (t:Nat) (g:Nat) (i:Nat) (o:Nat):AVal.cells (.eref t g i o)=[(.eref t g i o)]:=rfl
theorem ZIw (cs:List AVal) (o:Nat):AVal.cells (.iptr cs o)=[(.iptr cs o)]:=rfl
theorem Zxf (x:Bool) (xs:List AVal):AVal.cells (.lst x xs)=[(.lst x xs)]:=rfl
theorem ZDz (t:Nat) (g:Nat) (lo:Nat) (n:Nat):AVal.cells (.sl t g lo n)=[(.sl t g lo n)]:=rfl
theorem ZFI (cs:List AVal):AVal.cells (.agg cs)=cs:=rfl
theorem ZxB (vs:List AVal):AVal.cells (.tup vs)=[(.tup vs)]:=rfl
theorem ZCc (f:Nat) (caps:List AVal):AVal.cells (.fn f caps)=[(.fn f caps)]:=rfl
theorem ZHk  : AVal.cells (.nilm)=[(.nilm)]:=rfl
theorem ZIg (t:Nat):AVal.cells (.map t)=[(.map t)]:=rfl
theorem ZKL  : AVal.cells (.nili)=[(.nili)]:=rfl
theorem Zwb (t:Nat) (x:AVal):AVal.cells (.iface t x)=[(.iface t x)]:=rfl
theorem ZyR (x:AVal):AVal.cells (.pan x)=[(.pan x)]:=rfl
theorem ZId  : Za8 (.top)=(.top):=rfl
theorem ZEi  : Za8 (.any)=(.any):=rfl
theorem ZDD (k:IntKind) (n:Int):Za8 (.int k n)=(.int k n):=rfl
theorem ZCH (b:Bool):Za8 (.bool b)=(.bool b):=rfl
theorem ZAD (l:List UInt8):Za8 (.str l)=(.str l):=rfl
theorem Zws  : Za8 (.nilp)=(.nilp):=rfl
theorem ZKz (t:Nat) (o:Nat):Za8 (.ref t o)=(.ref t o):=rfl
theorem ZJq (t:Nat) (g:Nat) (i:Nat) (o:Nat):Za8 (.eref t g i o)=(.eref t g i o):=rfl
theorem ZAV (cs:List AVal) (o:Nat):Za8 (.iptr cs o)=(.iptr cs o):=rfl
theorem ZyV (x:Bool) (xs:List AVal):Za8 (.lst x xs)=(.lst x xs):=rfl
theorem ZIn (t:Nat) (g:Nat) (lo:Nat) (n:Nat):Za8 (.sl t g lo n)=(.sl t g lo n):=rfl
theorem ZIV (cs:List AVal):Za8 (.agg cs)=(.agg cs):=rfl
theorem Zyg (vs:List AVal):Za8 (.tup vs)=(.tup vs):=rfl
theorem ZzD (f:Nat) (caps:List AVal):Za8 (.fn f caps)=(.fn f caps):=rfl
theorem ZBD  : Za8 (.nilm)=(.nilm):=rfl
theorem Zv5 (t:Nat):Za8 (.map t)=(.map t):=rfl
theorem ZAZ  : Za8 (.nili)=(.nili):=rfl
theorem ZF1 (t:Nat) (x:AVal):Za8 (.iface t x)=(.iface t x):=rfl
theorem Zzt (x:AVal):Za8 (.pan x)=x:=rfl
theorem ZFq  : ZaU (.top)=4:=rfl
theorem Zx6  : ZaU (.any)=4:=rfl
theorem ZGJ (k:IntKind) (n:Int):ZaU (.int k n)=0:=rfl
theorem Zy9 (b:Bool):ZaU (.bool b)=1:=rfl
theorem ZBR (l:List UInt8):ZaU (.str l)=2:=rfl
theorem ZDo  : ZaU (.nilp)=4:=rfl
theorem ZHb (t:Nat) (o:Nat):ZaU (.ref t o)=4:=rfl
theorem ZCO (t:Nat) (g:Nat) (i:Nat) (o:Nat):ZaU (.eref t g i o)=4:=rfl
theorem ZHc (cs:List AVal) (o:Nat):ZaU (.iptr cs o)=4:=rfl
theorem ZCP (x:Bool) (xs:List AVal):ZaU (.lst x xs)=4:=rfl
theorem ZFD (t:Nat) (g:Nat) (lo:Nat) (n:Nat):ZaU (.sl t g lo n)=4:=rfl
theorem ZJR (cs:List AVal):ZaU (.agg cs)=4:=rfl
theorem ZKS (vs:List AVal):ZaU (.tup vs)=4:=rfl
theorem Zyb (f:Nat) (caps:List AVal):ZaU (.fn f caps)=4:=rfl
theorem ZI6  : ZaU (.nilm)=4:=rfl
theorem ZIf (t:Nat):ZaU (.map t)=4:=rfl
theorem ZAM  : ZaU (.nili)=4:=rfl
theorem ZLy (t:Nat) (x:AVal):ZaU (.iface t x)=4:=rfl
theorem ZKt (x:AVal):ZaU (.pan x)=4:=rfl
theorem ZCJ  : ZT (.top)=[]:=rfl
theorem ZxV  : ZT (.any)=[]:=rfl
theorem ZBq (k:IntKind) (n:Int):ZT (.int k n)=[]:=rfl
theorem ZHC (b:Bool):ZT (.bool b)=[]:=rfl
theorem ZIT (l:List UInt8):ZT (.str l)=[]:=rfl
theorem ZII  : ZT (.nilp)=[]:=rfl
theorem ZD2 (t:Nat) (o:Nat):ZT (.ref t o)=[t]:=rfl
theorem Zyr (t:Nat) (g:Nat) (i:Nat) (o:Nat):ZT (.eref t g i o)=[t]:=rfl
theorem ZH8 (cs:List AVal) (o:Nat):ZT (.iptr cs o)=[]:=rfl
theorem ZJM (x:Bool) (xs:List AVal):ZT (.lst x xs)=[]:=rfl
theorem ZHq (t:Nat) (g:Nat) (lo:Nat) (n:Nat):ZT (.sl t g lo n)=[t]:=rfl
theorem ZFP (cs:List AVal):ZT (.agg cs)=ZP cs:=rfl
theorem Zzz (vs:List AVal):ZT (.tup vs)=ZP vs:=rfl
theorem ZEv (f:Nat) (caps:List AVal):ZT (.fn f caps)=ZP caps:=rfl
theorem ZJT  : ZT (.nilm)=[]:=rfl
theorem ZHH (t:Nat):ZT (.map t)=[t]:=rfl
theorem ZwD  : ZT (.nili)=[]:=rfl
theorem ZDc (t:Nat) (x:AVal):ZT (.iface t x)=ZT x:=rfl
theorem Zy4 (x:AVal):ZT (.pan x)=ZT x:=rfl
theorem ZIt  : ZN ρ (.top)=(.top):=rfl
theorem ZDL  : ZN ρ (.any)=(.any):=rfl
theorem ZB9 (k:IntKind) (n:Int):ZN ρ (.int k n)=(.int k n):=rfl
theorem ZA1 (b:Bool):ZN ρ (.bool b)=(.bool b):=rfl
theorem ZEu (l:List UInt8):ZN ρ (.str l)=(.str l):=rfl
theorem ZEU  : ZN ρ (.nilp)=(.nilp):=rfl
theorem ZIB (cs:List AVal) (o:Nat):ZN ρ (.iptr cs o)=(.iptr cs o):=rfl
theorem ZyO (x:Bool) (xs:List AVal):ZN ρ (.lst x xs)=(.lst x xs):=rfl
theorem ZJe (cs:List AVal):ZN ρ (.agg cs)=.agg (ZR ρ cs):=rfl
theorem ZzW (vs:List AVal):ZN ρ (.tup vs)=.tup (ZR ρ vs):=rfl
theorem ZHn (f:Nat) (caps:List AVal):ZN ρ (.fn f caps)=.fn f (ZR ρ caps):=rfl
theorem Zv7  : ZN ρ (.nilm)=(.nilm):=rfl
theorem ZDE  : ZN ρ (.nili)=(.nili):=rfl
theorem ZCz (t:Nat) (x:AVal):ZN ρ (.iface t x)=.iface t (ZN ρ x):=rfl
theorem ZFw (x:AVal):ZN ρ (.pan x)=.pan (ZN ρ x):=rfl
theorem ZE5 (f:Nat):Zbj (.fn f [])=true:=rfl
theorem ZAJ (f:Nat):ZaX (.fn f [])=true:=rfl
theorem ZIe (t:Nat) (x:AVal):ZbD (.pan (.iface t x))=Zbn x:=rfl
theorem ZDJ (live:List Nat) (tm:Tms):ZmJ live (some (tm,σ,none))=some (.normal,keepL live tm,σ):=rfl
theorem ZHm (live:List Nat) (tm:Tms) (x:AVal):ZmJ live (some (tm,σ,some x))=some (.panic x,[],σ):=rfl
theorem ZDx (live:List Nat):ZmJ live none=none:=rfl
theorem ZJA (t o:Nat):ZN ρ (.ref t o)=(match ρ t 0 with | some (t',0)=>.ref t' o | _=>.any):=rfl
theorem ZAU (t:Nat):ZN ρ (.map t)=(match ρ t 0 with | some (t',0)=>.map t' | _=>.any):=rfl
theorem ZGk (t g lo n:Nat):ZN ρ (.sl t g lo n)=(match ρ t g with | some (t',g')=>.sl t' g' lo n | none=>.any):=rfl
theorem Zya (t g i o:Nat):ZN ρ (.eref t g i o)=(match ρ t g with | some (t',g')=>.eref t' g' i o | none=>.any):=rfl
theorem ZDI:ZP []=[]:=rfl
theorem ZD7 (x:AVal) (xs:List AVal):ZP (x::xs)=ZT x++ZP xs:=rfl
theorem ZDN:ZR ρ []=[]:=rfl
theorem Zwr (x:AVal) (xs:List AVal):ZR ρ (x::xs)=ZN ρ x::ZR ρ xs:=rfl
end
end
section
mutual
def Zbe:AVal->Bool
 | .ref _ _=>false
 | .eref _ _ _ _=>false
 | .sl _ _ _ _=>false
 | .map _=>false
 | .agg cs=>Zs cs
 | .tup vs=>Zs vs
 | .fn _ vs=>Zs vs
 | .iface _ x=>Zbe x
 | .pan x=>Zbe x
 | .top=>true
 | .any=>true
 | .int _ _=>true
 | .bool _=>true
 | .str _=>true
 | .nilp=>true
 | .nilm=>true
 | .nili=>true
 | .iptr _ _=>true
 | .lst _ _=>true
def Zs:List AVal->Bool
 | []=>true
 | x::xs=>Zbe x && Zs xs
end
mutual
theorem Zh2 (ρ:Rho):∀ (x:AVal),Zbe x=true->ZN ρ x=x/\ZT x=[]
 | .ref _ _,h=>by simp [Zbe] at h
 | .eref _ _ _ _,h=>by simp [Zbe] at h
 | .sl _ _ _ _,h=>by simp [Zbe] at h
 | .map _,h=>by simp [Zbe] at h
 | .agg cs,h=>by have:=Zec ρ cs (by simpa only [Zbe] using h);exact ⟨by simp only [ZN,this.1],by simp only [ZT,this.2]⟩
 | .tup cs,h=>by have:=Zec ρ cs (by simpa only [Zbe] using h);exact ⟨by simp only [ZN,this.1],by simp only [ZT,this.2]⟩
 | .fn f cs,h=>by have:=Zec ρ cs (by simpa only [Zbe] using h);exact ⟨by simp only [ZN,this.1],by simp only [ZT,this.2]⟩
 | .iface t x,h=>by have:=Zh2 ρ x (by simpa only [Zbe] using h);exact ⟨by simp only [ZN,this.1],by simp only [ZT,this.2]⟩
 | .pan x,h=>by have:=Zh2 ρ x (by simpa only [Zbe] using h);exact ⟨by simp only [ZN,this.1],by simp only [ZT,this.2]⟩
 | .top,_=>⟨rfl,rfl⟩
 | .any,_=>⟨rfl,rfl⟩
 | .int _ _,_=>⟨rfl,rfl⟩
 | .bool _,_=>⟨rfl,rfl⟩
 | .str _,_=>⟨rfl,rfl⟩
 | .nilp,_=>⟨rfl,rfl⟩
 | .nilm,_=>⟨rfl,rfl⟩
 | .nili,_=>⟨rfl,rfl⟩
 | .iptr _ _,_=>⟨rfl,rfl⟩
 | .lst _ _,_=>⟨rfl,rfl⟩
theorem Zec (ρ:Rho):∀ (xs:List AVal),Zs xs=true->ZR ρ xs=xs/\ZP xs=[]
 | [],_=>⟨rfl,rfl⟩
 | x::xs,h=>by
  simp only [Zs,XE] at h
  have h1:=Zh2 ρ x h.1
  have h2:=Zec ρ xs h.2
  exact ⟨by simp only [ZR,h1.1,h2.1],by simp only [ZP,h1.2,h2.2,Xw]⟩
end
theorem Zre {σ:Za} {r:AVal} (h:Zbe r=true):Zan 0 σ r=some (r,[]):=by
 have h1:=Zh2 (Zc σ 0 []) r h
 have hids:Zq 0 [r] σ=[]:=by
  unfold Zq
  simp only [ZP,h1.2,Xw,List.range_zero,List.flatMap_nil]
  rfl
 unfold Zan gcA
 simp only [hids,ZR,Ze,h1.1]
def Zcm:AVal->AVal
 | .tup vs=>.tup (vs.map Zaw)
 | x=>Zaw x
def Zct:AVal->Bool
 | .tup vs=>vs.all ZaX
 | x=>ZaX x
def ZbX:AVal->Bool
 | .fn _ _=>false
 | _=>true
def Zb4:AVal->Bool
 | .agg cs=>cs.all ZbX
 | x=>ZbX x
def Zcs:AVal->Bool
 | .tup vs=>vs.all Zb4
 | x=>Zb4 x
theorem ZoI {k g n:Nat} {xs:List AVal} {σ:Za} {t:Nat} (hs:σ[t]?=some (.row g k xs)) (hn:n<=xs.length):Zc8 0 (some (.sl t g 0 n,σ))=some (.lst false (xs.take n),[]):=by
 have hv:viewR σ (.sl t g 0 n)=some (.lst false (xs.take n),[t]):=by
  simp only [viewR,Zcb,ZbA,Zr,hs,XX,hn,and_self,if_true,List.drop_zero]
 have e:Zc8 0 (some (.sl t g 0 n,σ))=(match viewR σ (.sl t g 0 n) with
  | some (r',ts)=>match gcA 0 [r'] (ZS σ ts) with
   | ([r''],σ')=>some (r'',σ')
   | _=>none
  | none=>none):=rfl
 rw [e,hv]
 exact Zre rfl
theorem ZB8 {m:Nat} {fn:Zaj} {tm:Tms} {σ:Za}:ZaL m fn (some (.ret,tm,σ))=match resA tm σ fn.res with
  | some r=>Zan m σ r
  | none=>none:=rfl
theorem Zw4 {m:Nat} {fn:Zaj} {tm:Tms} {σ:Za}:ZaL m fn (some (.normal,tm,σ))=match resA tm σ fn.res with
  | some r=>Zan m σ r
  | none=>none:=rfl
theorem ZL0 {m:Nat} {fn:Zaj} {tm:Tms} {σ:Za} {x:AVal}:ZaL m fn (some (.panic x,tm,σ))=Zan m σ (.pan x):=rfl
theorem ZHF  : Zbe (.top)=true:=rfl
theorem ZGN  : Zbe (.any)=true:=rfl
theorem Zzm (k:IntKind) (n:Int):Zbe (.int k n)=true:=rfl
theorem ZzQ (b:Bool):Zbe (.bool b)=true:=rfl
theorem ZIl (l:List UInt8):Zbe (.str l)=true:=rfl
theorem ZAv  : Zbe (.nilp)=true:=rfl
theorem ZK3 (t:Nat) (o:Nat):Zbe (.ref t o)=false:=rfl
theorem ZIr (t:Nat) (g:Nat) (i:Nat) (o:Nat):Zbe (.eref t g i o)=false:=rfl
theorem ZBQ (cs:List AVal) (o:Nat):Zbe (.iptr cs o)=true:=rfl
theorem ZDr (x:Bool) (xs:List AVal):Zbe (.lst x xs)=true:=rfl
theorem ZwF (t:Nat) (g:Nat) (lo:Nat) (n:Nat):Zbe (.sl t g lo n)=false:=rfl
theorem Zzg (cs:List AVal):Zbe (.agg cs)=Zs cs:=rfl
theorem Zwj (vs:List AVal):Zbe (.tup vs)=Zs vs:=rfl
theorem ZxP (f:Nat) (caps:List AVal):Zbe (.fn f caps)=Zs caps:=rfl
theorem ZBY  : Zbe (.nilm)=true:=rfl
theorem ZCY (t:Nat):Zbe (.map t)=false:=rfl
theorem Zzr  : Zbe (.nili)=true:=rfl
theorem ZED (t:Nat) (x:AVal):Zbe (.iface t x)=Zbe x:=rfl
theorem ZJx (x:AVal):Zbe (.pan x)=Zbe x:=rfl
theorem ZIa  : ZbX (.top)=true:=rfl
theorem ZwM  : ZbX (.any)=true:=rfl
theorem ZJJ (k:IntKind) (n:Int):ZbX (.int k n)=true:=rfl
theorem Zyx (b:Bool):ZbX (.bool b)=true:=rfl
theorem ZzM (l:List UInt8):ZbX (.str l)=true:=rfl
theorem Zzy  : ZbX (.nilp)=true:=rfl
theorem ZEm (t:Nat) (o:Nat):ZbX (.ref t o)=true:=rfl
theorem ZAw (t:Nat) (g:Nat) (i:Nat) (o:Nat):ZbX (.eref t g i o)=true:=rfl
theorem ZHT (cs:List AVal) (o:Nat):ZbX (.iptr cs o)=true:=rfl
theorem Zzp (x:Bool) (xs:List AVal):ZbX (.lst x xs)=true:=rfl
theorem ZC6 (t:Nat) (g:Nat) (lo:Nat) (n:Nat):ZbX (.sl t g lo n)=true:=rfl
theorem ZBw (cs:List AVal):ZbX (.agg cs)=true:=rfl
theorem ZA8 (vs:List AVal):ZbX (.tup vs)=true:=rfl
theorem ZKW (f:Nat) (caps:List AVal):ZbX (.fn f caps)=false:=rfl
theorem ZJb  : ZbX (.nilm)=true:=rfl
theorem ZCK (t:Nat):ZbX (.map t)=true:=rfl
theorem ZHa  : ZbX (.nili)=true:=rfl
theorem ZJZ (t:Nat) (x:AVal):ZbX (.iface t x)=true:=rfl
theorem ZxU (x:AVal):ZbX (.pan x)=true:=rfl
theorem ZE6  : Zb4 (.top)=true:=rfl
theorem ZK8  : Zb4 (.any)=true:=rfl
theorem ZAR (k:IntKind) (n:Int):Zb4 (.int k n)=true:=rfl
theorem ZHf (b:Bool):Zb4 (.bool b)=true:=rfl
theorem ZGt (l:List UInt8):Zb4 (.str l)=true:=rfl
theorem Zys  : Zb4 (.nilp)=true:=rfl
theorem ZJz (t:Nat) (o:Nat):Zb4 (.ref t o)=true:=rfl
theorem ZBG (t:Nat) (g:Nat) (i:Nat) (o:Nat):Zb4 (.eref t g i o)=true:=rfl
theorem ZFn (cs:List AVal) (o:Nat):Zb4 (.iptr cs o)=true:=rfl
theorem ZKp (x:Bool) (xs:List AVal):Zb4 (.lst x xs)=true:=rfl
theorem ZwP (t:Nat) (g:Nat) (lo:Nat) (n:Nat):Zb4 (.sl t g lo n)=true:=rfl
theorem ZJp (cs:List AVal):Zb4 (.agg cs)=cs.all ZbX:=rfl
theorem Zxq (vs:List AVal):Zb4 (.tup vs)=true:=rfl
theorem Zze (f:Nat) (caps:List AVal):Zb4 (.fn f caps)=false:=rfl
theorem ZJ9  : Zb4 (.nilm)=true:=rfl
theorem ZGh (t:Nat):Zb4 (.map t)=true:=rfl
theorem ZyY  : Zb4 (.nili)=true:=rfl
theorem Zx0 (t:Nat) (x:AVal):Zb4 (.iface t x)=true:=rfl
theorem ZF2 (x:AVal):Zb4 (.pan x)=true:=rfl
theorem Zy8  : Zcs (.top)=true:=rfl
theorem ZwG  : Zcs (.any)=true:=rfl
theorem ZE2 (k:IntKind) (n:Int):Zcs (.int k n)=true:=rfl
theorem ZEY (b:Bool):Zcs (.bool b)=true:=rfl
theorem ZBF (l:List UInt8):Zcs (.str l)=true:=rfl
theorem ZBU  : Zcs (.nilp)=true:=rfl
theorem ZDg (t:Nat) (o:Nat):Zcs (.ref t o)=true:=rfl
theorem ZEN (t:Nat) (g:Nat) (i:Nat) (o:Nat):Zcs (.eref t g i o)=true:=rfl
theorem ZxT (cs:List AVal) (o:Nat):Zcs (.iptr cs o)=true:=rfl
theorem ZEg (x:Bool) (xs:List AVal):Zcs (.lst x xs)=true:=rfl
theorem ZEj (t:Nat) (g:Nat) (lo:Nat) (n:Nat):Zcs (.sl t g lo n)=true:=rfl
theorem ZKR (cs:List AVal):Zcs (.agg cs)=cs.all ZbX:=rfl
theorem ZHO (vs:List AVal):Zcs (.tup vs)=vs.all Zb4:=rfl
theorem ZFy (f:Nat) (caps:List AVal):Zcs (.fn f caps)=false:=rfl
theorem ZEh  : Zcs (.nilm)=true:=rfl
theorem ZGx (t:Nat):Zcs (.map t)=true:=rfl
theorem ZFE  : Zcs (.nili)=true:=rfl
theorem ZxK (t:Nat) (x:AVal):Zcs (.iface t x)=true:=rfl
theorem ZCh (x:AVal):Zcs (.pan x)=true:=rfl
theorem ZFo  : Zct (.top)=false:=rfl
theorem ZzI  : Zct (.any)=false:=rfl
theorem ZFt (k:IntKind) (n:Int):Zct (.int k n)=true:=rfl
theorem Zzc (b:Bool):Zct (.bool b)=true:=rfl
theorem ZKd (l:List UInt8):Zct (.str l)=true:=rfl
theorem ZDV  : Zct (.nilp)=true:=rfl
theorem ZJN (t:Nat) (o:Nat):Zct (.ref t o)=false:=rfl
theorem ZAB (t:Nat) (g:Nat) (i:Nat) (o:Nat):Zct (.eref t g i o)=false:=rfl
theorem ZKu (cs:List AVal) (o:Nat):Zct (.iptr cs o)=false:=rfl
theorem ZC8 (x:Bool) (xs:List AVal):Zct (.lst x xs)=true:=rfl
theorem ZzN (t:Nat) (g:Nat) (lo:Nat) (n:Nat):Zct (.sl t g lo n)=false:=rfl
theorem ZLA (cs:List AVal):Zct (.agg cs)=cs.all Zbj:=rfl
theorem ZFW (vs:List AVal):Zct (.tup vs)=vs.all ZaX:=rfl
theorem ZJO  : Zct (.nilm)=true:=rfl
theorem ZH6 (t:Nat):Zct (.map t)=false:=rfl
theorem ZJF  : Zct (.nili)=true:=rfl
theorem ZFj (t:Nat) (x:AVal):Zct (.iface t x)=false:=rfl
theorem Zxw (x:AVal):Zct (.pan x)=false:=rfl
theorem ZHK  : Zcm (.top)=(.top):=rfl
theorem ZJv  : Zcm (.any)=(.any):=rfl
theorem ZDM (k:IntKind) (n:Int):Zcm (.int k n)=(.int k n):=rfl
theorem ZH4 (b:Bool):Zcm (.bool b)=(.bool b):=rfl
theorem Zwt (l:List UInt8):Zcm (.str l)=(.str l):=rfl
theorem ZF7  : Zcm (.nilp)=(.nilp):=rfl
theorem ZJn (t:Nat) (o:Nat):Zcm (.ref t o)=(.ref t o):=rfl
theorem ZCF (t:Nat) (g:Nat) (i:Nat) (o:Nat):Zcm (.eref t g i o)=(.eref t g i o):=rfl
theorem ZB3 (cs:List AVal) (o:Nat):Zcm (.iptr cs o)=(.iptr cs o):=rfl
theorem ZEW (x:Bool) (xs:List AVal):Zcm (.lst x xs)=.lst false xs:=rfl
theorem ZwE (t:Nat) (g:Nat) (lo:Nat) (n:Nat):Zcm (.sl t g lo n)=(.sl t g lo n):=rfl
theorem ZJL (cs:List AVal):Zcm (.agg cs)=.agg (cs.map Zbl):=rfl
theorem ZDH (vs:List AVal):Zcm (.tup vs)=.tup (vs.map Zaw):=rfl
theorem ZCa (f:Nat) (caps:List AVal):Zcm (.fn f caps)=(.fn f caps):=rfl
theorem ZDw  : Zcm (.nilm)=(.nilm):=rfl
theorem Zzb (t:Nat):Zcm (.map t)=(.map t):=rfl
theorem ZLd  : Zcm (.nili)=(.nili):=rfl
theorem ZEQ (t:Nat) (x:AVal):Zcm (.iface t x)=(.iface t x):=rfl
theorem ZGm (x:AVal):Zcm (.pan x)=(.pan x):=rfl
theorem ZyE:Zs []=true:=rfl
theorem ZBi (x:AVal) (xs:List AVal):Zs (x::xs)=(Zbe x && Zs xs):=rfl
theorem ZHs (f:Nat):Zct (.fn f [])=true:=rfl
theorem ZGr (p q:Bool):(if p=true then q else false)=(p && q):=by cases p <;> rfl
theorem ZJs (p q:Bool):(if p=true then true else q)=(p || q):=by cases p <;> rfl
theorem Zzl (p q:Bool):(if p=true then false else q)=(!p && q):=by cases p <;> rfl
theorem ZEb (p q:Bool):(if p=true then q else true)=(!p || q):=by cases p <;> rfl
theorem ZBu (p q:Bool):(if p=false then q else false)=(!p && q):=by cases p <;> rfl
theorem ZJE (p q:Bool):(if p=false then true else q)=(!p || q):=by cases p <;> rfl
theorem ZC4 (p q:Bool):(if p=false then false else q)=(p && q):=by cases p <;> rfl
theorem ZwC (p q:Bool):(if p=false then q else true)=(p || q):=by cases p <;> rfl
section
def Zed (o:AOp):AOp:=⟨o.dst,o.ins,o.guard,[]⟩
def Zcf:ZM->ZM
 | .region ops chk live=>.region (ops.map Zed) chk live
 | .seq a b=>.seq (Zcf a) (Zcf b)
 | .cond c a b=>.cond c (Zcf a) (Zcf b)
 | .block id c=>.block id (Zcf c)
 | .loop live c=>.loop live (Zcf c)
 | .skip=>.skip
 | .exit id=>.exit id
 | .ret=>.ret
 | .stuck=>.stuck
def Zk1 (f:Zaj):Zaj:=⟨f.res,Zcf f.body⟩
section
variable {O:Zat} {bf:Nat->Bool}
theorem ZLj (o:AOp) (s:Nat) (tm:Tms) (σ:Za):Zad O bf (Zed o) s tm σ=Zad O bf o s tm σ:=rfl
theorem Zsb:∀ (ops:List AOp) (s:Nat) (tm:Tms) (σ:Za),Zav O bf (ops.map Zed) s tm σ=Zav O bf ops s tm σ
 | [],_,_,_=>rfl
 | o::os,s,tm,σ=>by
  simp only [XS,Zav,ZLj]
  split
  ·rfl
  ·rfl
  ·rename_i tm' σ' c _ _
   rw [show (Zed o).ins=o.ins from rfl,Zsb os]
theorem ZnX (ops:List AOp):sitesOf (ops.map Zed)=sitesOf ops:=by
 simp [sitesOf,Zed,Function.comp_def]
theorem ZkE (ops:List AOp) (i:Nat):((ops.map Zed).getD i default).ins=(ops.getD i default).ins:=by
 simp only [Xz,Wh]
 cases ops[i]? <;> rfl
theorem ZFK (ops:List AOp) (b:Nat) (l:List (Nat×Nat)) (cs:List Cls):ZdL (ops.map Zed) b l cs=ZdL ops b l cs:=by
 unfold ZdL
 congr 1
 funext p
 unfold ZcQ Zck
 rw [ZkE,ZkE,<-Xbh,ZnX]
theorem ZEF (ops:List AOp) (b:Nat) (l:List (Nat×Nat)) (cs:List Cls):Z3 (ops.map Zed) b l cs=Z3 ops b l cs:=by
 unfold Z3
 congr 2
 funext p
 unfold ZcQ Zck
 rw [ZkE,ZkE,<-Xbh,ZnX]
theorem ZFp (ops:List AOp) (chk:Option (List (Nat×Nat))) (live:List Nat) (tm:Tms) (σ:Za):Zca O bf (ops.map Zed) chk live tm σ=Zca O bf ops chk live tm σ:=by
 unfold Zca
 rw [Zsb,ZnX]
 cases Zav O bf ops σ.length tm (σ++XZ (sitesOf ops) .free) with
 | none=>rfl
 | some q =>
  obtain ⟨tm',σ',cs,p⟩:=q
  cases p with
  | some x =>
   cases chk with
   | none=>rfl
   | some l=>simp only [Zda,ZEF]
  | none =>
   cases chk with
   | none=>rfl
   | some l=>simp only [Zda,ZFK]
theorem Zep (m n:Nat):∀ (c:ZM),ZaE O bf m n (Zcf c)=ZaE O bf m n c
 | .region ops chk live=>by funext tm σ;simp only [Zcf,ZaE,ZFp]
 | .seq a b=>by funext tm σ;simp only [Zcf,ZaE,Zep m n a,Zep m n b]
 | .cond c a b=>by funext tm σ;simp only [Zcf,ZaE,Zep m n a,Zep m n b]
 | .block id c=>by funext tm σ;simp only [Zcf,ZaE,Zep m n c]
 | .loop live c=>by funext tm σ;simp only [Zcf,ZaE,Zep m n c]
 | .skip=>rfl
 | .exit id=>rfl
 | .ret=>rfl
 | .stuck=>rfl
end
theorem Zn5 (fs:Nat->Option Zaj) (prim:ZbT) (bf:Nat->Bool):∀ n,ZaT (fun f=>(fs f).map Zk1) prim bf n=ZaT fs prim bf n
 | 0=>rfl
 | n+1=>by
  funext f args σ
  simp only [ZaT,Zn5 fs prim bf n]
  cases prim f with
  | some g=>rfl
  | none =>
   cases fs f with
   | none=>rfl
   | some fn =>
    simp only [We,Zk1,Zep]
    rfl
theorem Zr4 (fs:Nat->Option Zaj) (prim:ZbT) (bf:Nat->Bool):EV (fun f=>(fs f).map Zk1) prim bf=EV fs prim bf:=by
 funext f args σ
 apply Ze3
 intro r
 rw [Zcp,Zcp]
 simp only [Zn5]
end
end
section
open Go.RowKit
def Zf8:List AVal->Za->Option (AVal×Za):=fun _ _=>none
theorem ZiC {α:Prop} {args:List AVal} {σ:Za} {r:AVal×Za} (h:Zf8 args σ=some r):α:=by cases h
def Zjk (k bytes:Nat) (args:List AVal) (σ:Za):Option (AVal×Za):=match args with
 | [.str _]=>none
 | [a]=>match Zr σ a with
  | some (xs,_)=>if xs.length*bytes<=140737488355328/\kOk k xs=true then some (.sl σ.length 0 0 xs.length,σ++[.row 0 k xs]) else none
  | none=>none
 | _=>none
def ZeD:Ann:={ nt:=8,lr:=fun _=>[7,6,5,4,3,2,0] }
structure Zt4 (P:Program) (t:TypeId) (k bytes:Nat) (z:AVal) (f:FuncId):Prop where
 ex:∃ (F:Func) (e:TypeId) (i0 i1 i2 i3:Nat) (r0 r2 r3:Array Oper) (m b:Oper),
  P.funcs[f]?=some F/\F.results=#[.tmp 2]/\F.ntmps=8/\(F.name == "runtime.NumGoroutine")=false/\P.underlying t=some (.slice e) /\
  F.body=some (.seq (.region i0 r0 false) (.seq (.seq (.region i1 #[m,b] false) (.cond (.tmp 4) (.seq (.region i2 r2 false) .ret) .skip)) (.seq (.region i3 r3 false) .ret))) /\
  m.op=.move (.tmp 0)/\m.dst=some 3/\m.guard=none/\b.op=.binOp .eql t (.tmp 3) (.const (.slice none 0 0)) t/\b.dst=some 4/\b.guard=none /\
  Zcl P ZeD r0 r0.toList=some [⟨some 2,.mov (.c (.lst true [])),none,[]⟩] /\
  Zcl P ZeD r2 r2.toList=some [⟨some 2,.mov (.c (.lst true [])),none,[]⟩] /\
  (∃ a1 a2 a3 a4,Zcl P ZeD r3 r3.toList=some [⟨some 5,.bslice false k 0 z [],none,a1⟩,⟨some 6,.mov (.t 0),none,a2⟩,⟨some 7,.app k bytes z (.t 5) (.t 6),none,a3⟩,⟨some 2,.mov (.t 7),none,a4⟩])/\z.cells.length=k/\0 < k
section
variable {P:Program} {base:Nat->Prop} {w0 w w':World} {I0 I:Imm} {β:Bmap} {σ:Za}
theorem noO:ZaY P (fun _ _ _=>none):=by intro f args σ r σ' h;cases h
theorem Zgz {ops:Array Oper} {Q:Exit->Act->World->Prop} {o:Oper} {l:List Oper} {a:Act} {w:World} (hg:o.guard=none) (h:o.wp P a w (wpList P ops Q l) Q):wpList P ops Q (o::l) a w:=by
 unfold wpList
 have : Region.wanted o (yielded ops a.tmps)=true:=by unfold Region.wanted;rw [hg]
 rw [this]
 simp only [if_true]
 exact XK h
theorem ZIj {t : TypeId} {k bytes : Nat} {z : AVal} {f : FuncId} (hm : P.follows .mixedOrders = true) (C : Zt4 P t k bytes z f) {args : List AVal} {σ σ' : Za} {r : AVal} (h : Zjk k bytes args σ = some (r, σ')) :
    (∃ fn, P.funcs[f]? = some fn /\ fn.body.isSome = true /\ (fn.name == "runtime.NumGoroutine") = false) /\
    ∀ base w0 I0 I β w (vs : Array Value), KLt base w0 -> Rel base w0 I0 I β σ w -> VRs I β args vs.toList ->
      Calls P f vs w (fun e w' => ∃ u, Ends r e u /\ ZbI σ.length base w0 I0 I β r σ' u w') := by
  obtain ⟨F, e, i0, i1, i2, i3, r0, r2, r3, m, b, hF, hres, hnt, hname, hu, hbody, hm1, hm2, hm3, hb1, hb2, hb3, hc0, hc2, ⟨a1, a2, a3, a4, hc3⟩, hzk, hk0⟩ := C.ex
  refine ⟨⟨F, hF, by rw [hbody]; rfl, hname⟩, ?_⟩
  intro base w0 I0 I β w vs hb R hargs
  unfold Zjk at h
  split at h
  case h_1 => cases h
  case h_3 => cases h
  rename_i a hns
  split at h
  case h_2 => cases h
  rename_i xs ts hel0
  split at h
  case isFalse => cases h
  rename_i hc
  obtain ⟨hbytes, hkOk⟩ := hc
  simp only [Xa, Xg] at h
  obtain ⟨rfl, rfl⟩ := h
  have hnt8 : ∀ (n : Nat), n < 8 -> n < ZeD.nt := fun n h => h
  refine calls_of_wp hF hbody ?_
  have hsz : vs.size = 1 := by have := ZaS hargs; simpa using this.symm
  have T := ZqO hargs (F.ntmps - vs.size)
  have hst : StR Zby 8 base w0 I0 I β (enterA 0 [a] []) σ { tmps := vs ++ XaO (F.ntmps - vs.size) undef, defers := [] } w := ⟨I, β, Imm.le.refl I, Bmap.le.refl β, T, ⟨Zez.2 rfl, by simp; omega⟩, R⟩
  have fin : ∀ {tm : Tms} {σ1 : Za} {y : AVal} {a' : Act} {w1 : World}, StR Zby 8 base w0 I0 I β tm σ1 a' w1 -> tget tm 2 = y -> (∀ I' β' u, I.le I' -> β.le β' -> Rel base w0 I0 I' β' σ1 w1 -> VR I' β' y u -> ZbI σ.length base w0 I0 I β (.sl σ.length 0 0 xs.length) (σ ++ [.row 0 k xs]) u w1) ->
      a'.defers = [] /\ ∃ v, (results F a'.tmps).run P w1 = .ok v w1 /\ ∃ u, Ends (.sl σ.length 0 0 xs.length) (.returned v) u /\ ZbI σ.length base w0 I0 I β (.sl σ.length 0 0 xs.length) (σ ++ [.row 0 k xs]) u w1 := by
    rintro tm σ1 y a' w1 ⟨I', β', h1, h2, h3, h4, h5⟩ hy hpost
    refine ⟨Zez.1 h4.1, a'.tmps.getD 2 undef, by simp [results, hres], _, rfl, ?_⟩
    have := h3 2
    rw [hy] at this
    exact hpost I' β' _ h1 h2 h5 this
  have R0 : Za2 P ZeD (.region i0 r0 false) = .region [⟨some 2, .mov (.c (.lst true [])), none, []⟩] none [7, 6, 5, 4, 3, 2, 0] := by simp only [Za2]; rw [hc0]; rfl
  have R2 : Za2 P ZeD (.region i2 r2 false) = .region [⟨some 2, .mov (.c (.lst true [])), none, []⟩] none [7, 6, 5, 4, 3, 2, 0] := by simp only [Za2]; rw [hc2]; rfl
  have R3 : Za2 P ZeD (.region i3 r3 false) = .region [⟨some 5, .bslice false k 0 z [], none, a1⟩, ⟨some 6, .mov (.t 0), none, a2⟩, ⟨some 7, .app k bytes z (.t 5) (.t 6), none, a3⟩, ⟨some 2, .mov (.t 7), none, a4⟩] none [7, 6, 5, 4, 3, 2, 0] := by simp only [Za2]; rw [hc3]; rfl
  refine wp_seq ?_
  refine ZmG (an := ZeD) (dr := Zby) (bf := fun _ => false) noO (fun n hn => by simp [Zby] at hn) hm hb R0 hst (e := .normal) (tm' := keepL [7, 6, 5, 4, 3, 2, 0] [(2, .lst true []), (0, a)]) (σ' := σ) ?_ ?_
  . simp [Zca, Zda, sitesOf, nsite, Zav, Zad, Zbw, execI, Opd.ev, tput, tins, enterA]
  intro a1' w1 hst1
  simp only [Exit.then]
  refine wp_seq (wp_seq ?_)
  refine wp_region_list ?_
  refine Zgz hm3 ?_
  obtain ⟨I1, β1, g1, g2, g3, g4, g5⟩ := hst1
  have hs8 : 8 <= a1'.tmps.size := g4.2
  have hT0 : VR I1 β1 a (a1'.tmps.getD 0 undef) := by have := g3 0; simpa [keepL, tget] using this
  obtain ⟨A, cap, hv0, q1, q2, q5, q4⟩ := ZpP g5 (fun l e => hns l e) hel0 hT0
  show m.wp P a1' w1 _ _
  unfold Oper.wp
  have e1 : (execOp a1'.eval m).run P w1 = .ok (.value (.slice A xs.length cap)) w1 := by
    unfold execOp; rw [hm1]; simp [Act.eval, hv0]
  rw [e1, Oper.upon_value, hm2]
  refine Zgz hb3 ?_
  unfold Oper.wp
  have hs3 : (a1'.put (some 3) (.slice A xs.length cap)).tmps.getD 3 undef = .slice A xs.length cap := by
    have : 3 < a1'.tmps.size := by omega
    simp [Act.put, XaS, this]
  have e2 : (execOp (a1'.put (some 3) (.slice A xs.length cap)).eval b).run P w1 = .ok (.value (.bool A.isNone)) w1 := by
    have hq : (Op.equal t (.slice A xs.length cap) (.slice none 0 0)).run P w1 = .ok A.isNone w1 := run_equal_slice_nil w1 t e A xs.length cap hu
    unfold execOp; rw [hb1]
    simp only [Act.eval]
    rw [hs3]
    simp [eqGuard, binOp, hq]
  rw [e2, Oper.upon_value, hb2]
  refine wpList_nil ?_
  have hst2 : StR Zby 8 base w0 I0 I β [(4, .bool A.isNone), (2, .lst true []), (0, a)] σ ((a1'.put (some 3) (.slice A xs.length cap)).put (some 4) (.bool A.isNone)) w1 := by
    refine ⟨I1, β1, g1, g2, fun n => ?_, ⟨Zl0 (Zl0 g4.1 (fun n _ hm => by simp [Zby] at hm)) (fun n _ hm => by simp [Zby] at hm), by rw [ZdR, ZdR]; exact g4.2⟩, g5⟩
    have hs : 4 < (a1'.put (some 3) (.slice A xs.length cap)).tmps.size := by rw [ZdR]; omega
    have ne : ∀ {a : Act} {d j : Nat} {u : Value}, d ≠ j -> (a.put (some d) u).tmps.getD j undef = a.tmps.getD j undef := by
      intro a d j u hne
      simp only [Act.put, WT]; rw [Wu hne]
    simp only [tget]
    split
    . rename_i e; subst e
      rw [show ((a1'.put (some 3) (.slice A xs.length cap)).put (some 4) (.bool A.isNone)).tmps.getD 4 undef = .bool A.isNone by
        simp only [Act.put] at hs ⊢
        simp [XaS] at hs ⊢
        omega]
      simp only [VR]
    . split
      . rename_i e; subst e
        rw [ne (by omega), ne (by omega)]
        have := g3 2; simpa [keepL, tget] using this
      . split
        . rename_i e; subst e
          rw [ne (by omega), ne (by omega)]
          have := g3 0; simpa [keepL, tget] using this
        . simp only [VR]
  simp only [Exit.then]
  cases hA : A.isNone with
  | true =>
    have hx0 : xs = [] := by
      rcases q4 with h | ⟨b, off, k', us, e, _⟩
      . exact h
      . rw [e] at hA; cases hA
    subst hx0
    have hev : ((a1'.put (some 3) (.slice A 0 cap)).put (some 4) (.bool A.isNone)).eval (.tmp 4) = .bool true := by
      obtain ⟨_, _, _, _, T, _, _⟩ := hst2
      have := T 4
      simp only [tget, if_true, VR] at this
      rw [hA] at this
      simpa [Act.eval, hA] using this
    refine wp_cond_true (by simpa [hA] using hev) ?_
    refine wp_seq ?_
    rw [hA] at hst2
    refine ZmG (an := ZeD) (dr := Zby) (bf := fun _ => false) noO (fun n hn => by simp [Zby] at hn) hm hb R2 hst2 (e := .normal) (tm' := keepL [7, 6, 5, 4, 3, 2, 0] [(4, .bool true), (2, .lst true []), (0, a)]) (σ' := σ) ?_ ?_
    . simp [Zca, Zda, sitesOf, nsite, Zav, Zad, Zbw, execI, Opd.ev, tput, tins]
    intro a3' w3 hst3
    simp only [Exit.then]
    refine wp_ret ?_
    refine fin hst3 (y := .lst true []) (by simp [keepL, tget]) ?_
    intro I' β' u h1 h2 h3 h4
    simp only [VR] at h4
    obtain ⟨A', cap', rfl, _, _, hx, _⟩ := h4
    have hcap : cap' = 0 := by simpa using hx
    subst hcap
    have R4 := h3.reserve 1
    have hfree : (σ ++ XZ 1 Z5.free)[σ.length]? = some .free := by simp
    obtain ⟨R5, hle⟩ := R4.newNone hfree k hk0
    refine ⟨I', _, h1, KeptE.of_le (h2.trans hle), ?_, ?_⟩
    . have : (σ ++ XZ 1 Z5.free).set σ.length (.row 0 k []) = σ ++ [.row 0 k []] := by simp
      rw [this] at R5; exact R5
    . simp only [Za8]
      rw [Zcw]
      exact ⟨_, Bmap.put_same β' σ.length 0 _, by simp, by simp, XO ⟨rfl, rfl, A', rfl⟩⟩
  | false =>
    have hev : ((a1'.put (some 3) (.slice A xs.length cap)).put (some 4) (.bool A.isNone)).eval (.tmp 4) = .bool false := by
      obtain ⟨_, _, _, _, T, _, _⟩ := hst2
      have := T 4
      simp only [tget, if_true, VR] at this
      rw [hA] at this
      simpa [Act.eval, hA] using this
    refine wp_cond_false (by simpa [hA] using hev) ?_
    refine wp_skip ?_
    rw [hA] at hst2
    simp only [Exit.then]
    refine wp_seq ?_
    have hel : Zr (σ ++ [Z5.free]) a = some (xs, ts) := Zg0 hel0 (fun t ht => by
      obtain ⟨g, k, ys, h | h⟩ := Zka hel0 t ht <;> (rw [W1 (Xu.1 h).1]))
    refine ZmG (an := ZeD) (dr := Zby) (bf := fun _ => false) noO (fun n hn => by simp [Zby] at hn) hm hb R3 hst2 (e := .normal) (tm' := keepL [7, 6, 5, 4, 3, 2, 0] [(7, .sl σ.length 0 0 xs.length), (6, a), (5, .lst true []), (4, .bool false), (2, .sl σ.length 0 0 xs.length), (0, a)]) (σ' := σ ++ [.row 0 k xs]) ?_ ?_
    . have hfa : freeAt (σ ++ [Z5.free]) σ.length = true := by simp [freeAt]
      have hnp : (∃ x ys, a = .lst x ys) \/ ∃ t g lo n, a = .sl t g lo n := by
        cases a with
        | lst x ys => exact XK ⟨x, ys, rfl⟩
        | sl t g lo n => exact XO ⟨t, g, lo, n, rfl⟩
        | str l => exact absurd rfl (hns l)
        | _ => simp [Zr] at hel0
      rcases hnp with ⟨x, ys, rfl⟩ | ⟨t', g', lo, n, rfl⟩
      . simp [Zca, Zda, sitesOf, nsite, Zav, Zad, Zbw, execI, Opd.ev, tput, tins, tget, viewAs, ZS, hzk, ZaI, hel, hkOk, hbytes, hfa]
      . simp [Zca, Zda, sitesOf, nsite, Zav, Zad, Zbw, execI, Opd.ev, tput, tins, tget, viewAs, ZS, hzk, ZaI, hel, hkOk, hbytes, hfa]
    intro a3' w3 hst3
    simp only [Exit.then]
    refine wp_ret ?_
    refine fin hst3 (y := .sl σ.length 0 0 xs.length) (by simp [keepL, tget]) ?_
    intro I' β' u h1 h2 h3 h4
    exact ⟨I', β', h1, KeptE.of_le h2, h3, h4⟩
end
end
section
open Go.RowKit
structure ZL2 (P:Program) (f h:FuncId) (ti tc:TypeId) (an1 an2 an3:Ann) (c1 c2 c3:ZM) (rs:List Zc0):Prop where
 ex:∃ (F H:Func) (b1 b2 b3 b4:Code) (i0 j0 j1 j2 j3 bid:Nat) (t1 t2 t3 t4 t5 t6 t7 t8:TypeId) (p1 p2 p3 p4 p5 p6 p7 p8:String) (a1 a2 a3 a4 a5 a6 a7 a8:Array Edge) (at1 at2:Array TypeId) (ims:Array (String×TypeId)) (k:IntKind),
  P.funcs[f]?=some F/\(F.name == "runtime.NumGoroutine")=false/\F.ntmps=20/\Zem P F.results.toList=some rs /\
  F.body=some (.seq b1 (.seq (.region i0 #[⟨some 5,.makeFunc (.func h) #[] #[.tmp 2,.tmp 3],t1,p1,a1,none⟩,⟨none,.defer ⟨.value (.tmp 5),#[],at1⟩,t2,p2,a2,none⟩] false) b2)) /\
  Zcf (Za2 P an1 b1)=c1/\Zcf (Za2 P an2 b2)=c2/\an1.nt=20/\an2.nt=20/\an2.keep=[2,3] /\
  P.funcs[h]?=some H/\(H.name == "runtime.NumGoroutine")=false/\H.ntmps=13/\H.results=#[] /\
  H.body=some (.seq (.region j0 #[⟨some 5,.call ⟨.builtin .recover,#[],at2⟩,t3,p3,a3,none⟩] false) (.block bid (.seq (.region j1 #[⟨some 7,.binOp .eql ti (.tmp 5) (.const .nilIface) ti,t4,p4,a4,none⟩] false)
   (.cond (.tmp 7) (.region j2 #[⟨some 2,.assign (.tmp 5),t5,p5,a5,none⟩] false)
    (.seq (.region j3 #[⟨some 8,.typeAssert (.tmp 5) ti tc true,t6,p6,a6,none⟩,⟨some 9,.extract (.tmp 8) 1,t7,p7,a7,none⟩,⟨some 10,.extract (.tmp 8) 0,t8,p8,a8,none⟩] false)
     (.cond (.tmp 9) b3 b4)))))) /\
  Zcf (Za2 P an3 b3)=c3/\an3.nt=13/\P.underlying ti=some (.interface ims)/\P.underlying tc=some (.int k)
section
variable {P:Program} {O:Zat} {bf:Nat->Bool} {base:Nat->Prop} {w0 w:World} {I0 I:Imm} {β:Bmap} {σ:Za}
theorem pgs {a:Act} {d:Nat} {u:Value} (h:d < a.tmps.size):(a.put (some d) u).tmps.getD d undef=u:=by
 simp [Act.put,XaS,h]
theorem ZkJ {m:Sem Value} {u:Value} (h:m.run P w=.ok u w):(do let q <-m;pure (Next.value q):Sem Next).run P w=.ok (.value u) w:=by
 rw [Sem.run_bind,h];rfl
theorem pgn {a:Act} {d j:Nat} {u:Value} (h:d≠j):(a.put (some d) u).tmps.getD j undef=a.tmps.getD j undef:=by
 simp only [Act.put,WT]
 rw [Wu h]
end
section
variable {P:Program} {fs:Nat->Option Zaj} {prim:ZbT} {bf:Nat->Bool}
end
section
variable {fs:Nat->Option Zaj} {p p':ZbT} {bf:Nat->Bool}
theorem Zua (h0:∀ f,p f=none->p' f=none) (h1:∀ f g,p f=some g->p' f=some g\/∀ a σ,g a σ=none):∀ n,OLe (ZaT fs p bf n) (ZaT fs p' bf n)
 | 0=>by intro f a σ r h;simp only [ZaT] at h;cases h
 | n+1=>by
  intro f a σ r h
  rw [ZaT] at h ⊢
  split at h
  ·rename_i g hg
   rcases h1 f g hg with h2 | h2
   ·rw [h2];exact h
   ·rw [h2] at h;cases h
  ·rename_i hg
   rw [h0 f hg]
   split at h
   ·cases h
   ·rename_i fn hfn
    exact Zmr (fun q hq=>ZdS (Zua h0 h1 n) (X5 n) hq) h
theorem Zsw (h0:∀ f,p f=none->p' f=none) (h1:∀ f g,p f=some g->p' f=some g\/∀ a σ,g a σ=none):OLe (EV fs p bf) (EV fs p' bf):=by
 intro f a σ r h
 obtain ⟨n,hn⟩:=Zcp.1 h
 exact Zcp.2 ⟨n,Zua h0 h1 n f a σ r hn⟩
end
end
section
open Go.RowKit
theorem Zvb:∀ (js L:List Nat),js.Nodup->(∀ j ∈ js,j ∈ L)->L.Nodup->∃ rest,L.Perm (js++rest)
 | [],L,_,_,_=>⟨L,List.Perm.refl _⟩
 | j::js,L,hn,hs,hL=>by
  have hj:j ∈ L:=hs j (by simp)
  have hp:L.Perm (j::L.erase j):=List.perm_cons_erase hj
  obtain ⟨rest,hr⟩:=Zvb js (L.erase j) (Wg.1 hn).2 (fun k hk=>by
   have hne:k≠j:=by rintro rfl;exact (Wg.1 hn).1 hk
   exact (List.mem_erase_of_ne hne).2 (hs k (by simp [hk]))) (hL.erase j)
  exact ⟨rest,hp.trans (by simpa using List.Perm.cons j hr)⟩
theorem ZGL {α:Type} (es:List α) (d:α):(WS es.length).map (es.getD · d)=es:=by
 apply Wv
 intro i
 rw [Wh]
 by_cases h:i < es.length
 ·rw [List.getElem?_range h];simp [Xz,h]
 ·rw [Wj (by simpa using h),Wj (by omega)];rfl
def Zdr (bf:Nat->Bool) (asl:List AOp) (tm:Tms) (σ:Za):Option (Tms×Za):=match Zav (fun _ _ _=>none) bf asl σ.length tm σ with
 | some (tm',σ',_,none)=>some (tm',σ')
 | _=>none
def Zfd (m:Nat):AVal->Bool
 | .int _ _ | .bool _ | .str _ | .nilp | .nilm | .nili | .lst _ _=>true
 | .sl t g _ _=>decide (g=0) && decide (t < m)
 | .ref t _=>decide (t < m)
 | .map t=>decide (t < m)
 | _=>false
def ZkM (m:Nat):AVal->Bool
 | .agg cs=>cs.all (Zfd m)
 | x=>Zfd m x
@[simp] def Zc4:Za->Za->Bool
 | _,[]=>true
 | [],b::r=>!Zce b && Zc4 [] r
 | a::s,b::r=>(!Zce b || Zce a) && Zc4 s r
theorem ZmN:∀ {σ σ':Za} {u:Nat} {b:Z5},Zc4 σ σ'=true->σ'[u]?=some b->Zce b=true->∃ a,σ[u]?=some a/\Zce a=true
 | _,[],u,b,_,h,_=>by simp at h
 | [],x::r,u,b,h,hu,hb=>by
  simp only [Zc4,XE,WX] at h
  cases u with
  | zero =>
   simp only [Xx,Xa] at hu
   subst hu
   rw [h.1] at hb;cases hb
  | succ u =>
   obtain ⟨a,h1,_⟩:=ZmN h.2 (by simpa using hu) hb
   simp at h1
 | a::s,x::r,u,b,h,hu,hb=>by
  simp only [Zc4,XE,WK,WX] at h
  cases u with
  | zero =>
   simp only [Xx,Xa] at hu
   subst hu
   rcases h.1 with h1 | h1
   ·rw [h1] at hb;cases hb
   ·exact ⟨a,rfl,h1⟩
  | succ u =>
   obtain ⟨a',h1,h2⟩:=ZmN h.2 (by simpa using hu) hb
   exact ⟨a',by simpa using h1,h2⟩
section
variable (fs:Nat->Option Zaj) (prim:ZbT) (bf:Nat->Bool) (m:Nat) (live:List Nat) (ms en b1:Nat) (aslE:List AOp) (c2 c3:ZM) (rs:List Zc0)
open Classical in
noncomputable def ZbU (es : List (AVal × AVal)) (kv : AVal × AVal) (tm : Tms) (σ : Za) : Option (Tms × Za) :=
  match tget (gcT m (keepL live tm) σ).1 ms with
  | .map t => if (gcT m (keepL live tm) σ).2[t]? = some (.map es) /\ (∀ p ∈ es, ZkM (gcT m (keepL live tm) σ).2.length p.2 = true) then
      match Zdr bf aslE (tput (gcT m (keepL live tm) σ).1 (some en) (.tup [kv.1, kv.2])) ((gcT m (keepL live tm) σ).2.set t (.rmap es)) with
      | some (tm1, σ1) => match evC fs prim bf (gcT m (keepL live tm) σ).2.length c2 tm1 σ1 with
        | some (.normal, tm2, σ2) => if σ2[t]? = some (.rmap es) /\ Zc4 ((gcT m (keepL live tm) σ).2.set t (.rmap es)) σ2 = true then some (tput tm2 (some ms) (.map t), σ2.set t (.map es)) else none
        | some (.exit i, tm2, σ2) => if i = b1 /\ σ2[t]? = some (.rmap es) /\ Zc4 ((gcT m (keepL live tm) σ).2.set t (.rmap es)) σ2 = true then some (tput tm2 (some ms) (.map t), σ2.set t (.map es)) else none
        | _ => none
      | none => none
    else none
  | _ => none
noncomputable def ZcE (es:List (AVal×AVal)):List (AVal×AVal)->Tms->Za->Option (Tms×Za)
 | [],tm,σ=>some (tm,σ)
 | kv::r,tm,σ=>match ZbU fs prim bf m live ms en b1 aslE c2 es kv tm σ with
  | some (tm',σ')=>ZcE es r tm' σ'
  | none=>none
end
def ZfR:List Code->Code->Code
 | [],x=>x
 | c::l,x=>.seq c (ZfR l x)
def Zie:Nat->Code->Option (List Code×Code)
 | 0,c=>some ([],c)
 | n+1,.seq a b=>match Zie n b with
  | some (l,x)=>some (a::l,x)
  | none=>none
 | _,_=>none
theorem ZuA:∀ {n:Nat} {c x:Code} {l:List Code},Zie n c=some (l,x)->c=ZfR l x
 | 0,c,x,l,h=>by simp only [Zie,Xa,Xg] at h;obtain ⟨rfl,rfl⟩:=h;rfl
 | n+1,c,x,l,h=>by
  cases c with
  | seq a b =>
   simp only [Zie] at h
   split at h
   ·rename_i l' x' h'
    simp only [Xa,Xg] at h
    obtain ⟨rfl,rfl⟩:=h
    rw [ZuA h',ZfR]
   ·cases h
  | _=>simp [Zie] at h
structure Zvo (P:Program) (f:FuncId) (an1 an3:Ann) (nt n0 n1 ms it nx ok en bid b1:Nat) (live:List Nat) (asl1 aslE:List AOp) (c1 c2 c3:ZM) (rs:List Zc0):Prop where
 ex:∃ (F:Func) (B:Code) (pre:List Code) (ops1 ops3 ops4:Array Oper) (i2 i3 i4:Nat) (body rest:Code) (t kt et:TypeId) (rg nxo exo eno:Oper) (lE:List Oper),
  P.funcs[f]?=some F/\(F.name == "runtime.NumGoroutine")=false/\F.ntmps=nt/\Zem P F.results.toList=some rs/\F.body=some B /\
  Zie n0 B=some (pre,.seq (.seq (.region i2 ops1 false) (.block bid (.loop (.seq (.region i3 ops3 false) (.seq (.cond (.tmp ok) .skip (.exit bid)) (.block b1 (.seq (.region i4 ops4 false) body))))))) rest) /\
  ops1.toList.drop n1=[rg]/\ops3.toList=[nxo,exo]/\ops4.toList=eno::lE /\
  rg.op=.range t (.tmp ms)/\rg.dst=some it/\rg.guard=none/\P.underlying t=some (.map kt et) /\
  nxo.op=.next (.tmp it) false/\nxo.dst=some nx/\nxo.guard=none/\exo.op=.extract (.tmp nx) 0/\exo.dst=some ok/\exo.guard=none /\
  eno.op=.entry (.tmp it)/\eno.dst=some en/\eno.guard=none /\
  Zcf (Za2 P an1 (ZfR pre .skip))=c1/\Zcl P an1 ops1 (ops1.toList.take n1)=some asl1/\Zcl P an3 ops4 lE=some aslE/\Zcf (Za2 P an3 body)=c2/\Zcf (Za2 P an1 rest)=c3 /\
  an1.nt=nt/\an3.nt=nt/\an3.keep=[it,ms] /\
  (decide (it < nt) && decide (nx < nt) && decide (ok < nt) && decide (en < nt) && decide (it≠ms) && decide (nx≠ms) && decide (ok≠ms) && decide (en≠ms) && decide (nx≠it) && decide (ok≠it) && decide (en≠it) && decide (nx≠ok) && live.all fun n=>decide (n≠it) && decide (n≠nx) && decide (n≠ok) && decide (n≠en))=true
section
variable {P:Program} {O:Zat} {bf:Nat->Bool} {an:Ann} {base:Nat->Prop} {w0 w w':World} {I0 I I':Imm} {β β':Bmap} {σ σ':Za} {dr:Door}
theorem ZoP (hO:ZaY P O) (hkp:∀ n ∈ dr.K,n ∈ an.keep) (hb:KLt base w0) {ops:Array Oper} {Q:Exit->Act->World->Prop} {r:List Oper}:∀ {l:List Oper} {asl:List AOp} {sq:Nat} {I:Imm} {β:Bmap} {tm tm':Tms} {σ σ':Za} {cs:List Cls} {a:Act} {w:World},Zcl P an ops l=some asl->TR I β tm a.tmps->(dr.ok a/\an.nt<=a.tmps.size)->Rel base w0 I0 I β σ w ->
  Zav O bf asl sq tm σ=some (tm',σ',cs,none)->(∀ a' w',StR dr an.nt base w0 I0 I β tm' σ' a' w'->wpList P ops Q r a' w')->wpList P ops Q (l++r) a w
 | [],asl,sq,I,β,tm,tm',σ,σ',cs,a,w,hc,T,hd,R,h,hQ=>by
  simp only [Zcl,Xa] at hc;subst hc
  simp only [Zav,Xa,Xg] at h
  obtain ⟨rfl,rfl,rfl,_⟩:=h
  exact hQ _ _ ⟨I,β,Imm.le.refl I,Bmap.le.refl β,T,hd,R⟩
 | o::l,asl,sq,I,β,tm,tm',σ,σ',cs,a,w,hc,T,hd,R,h,hQ=>by
  simp only [Zcl] at hc
  split at hc
  ·rename_i ao hao
   split at hc
   ·rename_i as' has'
    injection hc with hc;subst hc
    simp only [Zav] at h
    split at h
    ·cases h
    ·simp only [Xa,Xg] at h
     obtain ⟨_,_,_,h⟩:=h
     cases h
    ·rename_i v tm1 σ1 c1 hnp h1
     split at h
     ·cases h
     rename_i tm2 σ2 cs2 p2 h2
     simp only [Xa,Xg] at h
     obtain ⟨rfl,rfl,rfl,rfl⟩:=h
     have:=ZhX (dr:=dr) (K:=wpList P ops Q (l++r)) (Q:=Q) hO hkp hao T hd R hb h1 (fun _ a' w' hs=>by
      obtain ⟨I',β',g1,g2,g3,g4,g5⟩:=hs
      exact ZoP hO hkp hb has' g3 g4 g5 h2 (fun a'' w'' hs'=>hQ a'' w'' (hs'.trans g1 g2))) (fun x e=>absurd e (fun e=>hnp x e))
     rw [XG]
     unfold wpList
     exact this
   ·cases hc
  ·cases hc
theorem Zru {asl:List AOp} {tm tm':Tms} (h:Zdr bf asl tm σ=some (tm',σ')):∃ cs,Zav (fun _ _ _=>none) bf asl σ.length tm σ=some (tm',σ',cs,none):=by
 unfold Zdr at h
 split at h
 ·rename_i tm1 σ1 cs h1
  simp only [Xa,Xg] at h
  obtain ⟨rfl,rfl⟩:=h
  exact ⟨cs,h1⟩
 ·cases h
theorem Zte {Q:Exit->Act->World->Prop} (hO:ZaY P O) (hm:P.follows .mixedOrders=true) (hb:KLt base w0) (m n:Nat) (X:Code):∀ (pre:List Code) {I:Imm} {β:Bmap} {tm tm':Tms} {σ σ':Za} {a:Act} {w:World},StF Zby m an.nt base w0 I0 I β tm σ a w->ZaE O bf m n (Za2 P an (ZfR pre .skip)) tm σ=some (.normal,tm',σ') ->
  (∀ a' w',StF Zby m an.nt base w0 I0 I β tm' σ' a' w'->X.wp P Q a' w')->(ZfR pre X).wp P Q a w
 | [],I,β,tm,tm',σ,σ',a,w,hst,h,hQ=>by
  simp only [ZfR,Za2,ZaE,Xa,Xg] at h
  obtain ⟨_,rfl,rfl⟩:=h
  exact hQ a w hst
 | c::l,I,β,tm,tm',σ,σ',a,w,hst,h,hQ=>by
  simp only [ZfR,Za2,ZaE] at h
  split at h
  ·rename_i tm1 σ1 h1
   refine wp_seq ?_
   refine Zmv (dr:=Zby) (an:=an) hO (fun n hn=>by simp [Zby] at hn) hm hb m n rfl hst h1 ?_
   intro a' w' hs
   exact Zte hO hm hb m n X l hs h hQ
  ·rename_i hne
   exact absurd h (hne _ _)
theorem ZCW {m:Nat} {x:AVal} {v:Value} (hx:Zfd m x=true) (hk:KeptE m β β') (h:VR I β x v):VR I' β' x v\/(∃ a xs,x=.lst a xs):=by
 cases x with
 | int | bool | str | nilp | nilm | nili=>exact XK h
 | lst a xs=>exact XO ⟨a,xs,rfl⟩
 | sl t g lo n =>
  simp only [Zfd,XE,decide_eq_true_eq] at hx
  obtain ⟨rfl,ht⟩:=hx
  simp only [VR] at h ⊢
  obtain ⟨bi,e,h⟩:=h
  exact XK ⟨bi,hk t ht bi e,h⟩
 | ref t o =>
  simp only [Zfd,decide_eq_true_eq] at hx
  simp only [VR] at h ⊢
  obtain ⟨b,k,c,e,h⟩:=h
  exact XK ⟨b,k,c,hk t hx _ e,h⟩
 | map t =>
  simp only [Zfd,decide_eq_true_eq] at hx
  simp only [VR] at h ⊢
  obtain ⟨b,k,c,e,h⟩:=h
  exact XK ⟨b,k,c,hk t hx _ e,h⟩
 | _=>simp [Zfd] at hx
theorem ZCk {a:Bool} {xs:List AVal} {v:Value} (hI:I.le I') (h:VR I β (.lst a xs) v):VR I' β' (.lst a xs) v:=by
 have ht:Za0 (.lst a xs)=true:=by
  simp only [VR] at h
  obtain ⟨A,cap,_,_,_,_,_,ht⟩:=h
  simpa [Za0] using ht
 exact (VR.of_tree (β':=β') ht h).mono hI (Bmap.le.refl _) _ _
theorem Zq0 {m:Nat} {x:AVal} {v:Value} (hx:Zfd m x=true) (hI:I.le I') (hk:KeptE m β β') (h:VR I β x v):VR I' β' x v:=by
 rcases ZCW (I':=I') hx hk h with h | ⟨a,xs,rfl⟩
 ·exact h
 ·exact ZCk hI h
theorem ZrF {m:Nat} (hI:I.le I') (hk:KeptE m β β'):∀ {cs:List AVal} {vs:List Value},cs.all (Zfd m)=true->VRs I β cs vs->VRs I' β' cs vs
 | [],vs,_,h=>h
 | x::cs,vs,hx,h=>by
  rw [Xp,XE] at hx
  simp only [VRs] at h ⊢
  obtain ⟨v,vs',rfl,h1,h2⟩:=h
  exact ⟨v,vs',rfl,Zq0 hx.1 hI hk h1,ZrF hI hk hx.2 h2⟩
theorem ZzO {m:Nat} {x:AVal} {v:Value} (hx:ZkM m x=true) (hI:I.le I') (hk:KeptE m β β') (h:VR I β x v):VR I' β' x v:=by
 cases x with
 | agg cs =>
  simp only [VR] at h ⊢
  obtain ⟨us,rfl,h⟩:=h
  exact ⟨us,rfl,ZrF hI hk hx h⟩
 | _=>exact Zq0 hx hI hk h
theorem Zsn {m:Nat} (hI:I.le I') (hk:KeptE m β β'):∀ {cs:List AVal} {vs:List Value},(∀ x ∈ cs,ZkM m x=true)->VRs I β cs vs->VRs I' β' cs vs
 | [],vs,_,h=>h
 | x::cs,vs,hx,h=>by
  simp only [VRs] at h ⊢
  obtain ⟨v,vs',rfl,h1,h2⟩:=h
  exact ⟨v,vs',rfl,ZzO (hx x (by simp)) hI hk h1,Zsn hI hk (fun y hy=>hx y (by simp [hy])) h2⟩
theorem ZpS:∀ {cs:List AVal} {vs:List Value},(∀ x ∈ cs,Zdj x=true)->VRs I β cs vs->VRs I' β' cs vs
 | [],vs,_,h=>h
 | x::cs,vs,hx,h=>by
  simp only [VRs] at h ⊢
  obtain ⟨v,vs',rfl,h1,h2⟩:=h
  refine ⟨v,vs',rfl,?_,ZpS (fun y hy=>hx y (by simp [hy])) h2⟩
  have:=hx x (by simp)
  cases x <;> simp [Zdj] at this <;> exact h1
end
end
section
open Go.RowKit
open Go.ChangeMaps (setBlock)
section
variable {P:Program} {base base':Nat->Prop} {w0 w w' w1 w2:World} {I0 I I' I1 I2:Imm} {β β' β1 β2:Bmap} {σ σ' σ1 σ2:Za}
theorem Rel.rebase (R:Rel base w0 I0 I β σ w) {r:Nat} (hr:∀ t x,σ[t]?=some x->¬ZO w β t x r):Rel (fun k=>base k\/k=r) w I I β σ w where
 below:=KB.refl _ _
 old:=fun _ _ _=>rfl
 imm:=R.imm
 blk:=R.blk
 own:=fun t x b hx hb=>⟨fun h=>by
  rcases h with h | rfl
  ·exact (R.own t x b hx hb).1 h
  ·exact hr t x hx hb,(R.own t x b hx hb).2⟩
 apart:=R.apart
 fresh:=R.fresh
 free:=R.free
 gen:=R.gen
 glob:=R.glob
 ro:=fun t x b h hs=>XK (R.ro t x b h hs)
theorem Rel.unbase (R1:Rel base w0 I0 I1 β1 σ1 w1) (R2:Rel base' w1 I1 I2 β2 σ2 w2) (hs:∀ k,base k->base' k) (hro:∀ t x b,σ2[t]?=some x->ZbG β2 t x b->base b):Rel base w0 I0 I2 β2 σ2 w2 where
 below:=R1.below.trans (R2.below.mono hs)
 old:=fun b o h=>(R2.old b o (hs b h)).trans (R1.old b o h)
 imm:=R2.imm
 blk:=R2.blk
 own:=fun t x b hx hb=>⟨fun h=>(R2.own t x b hx hb).1 (hs b h),(R2.own t x b hx hb).2⟩
 apart:=R2.apart
 fresh:=R2.fresh
 free:=R2.free
 gen:=R2.gen
 glob:=R2.glob
 ro:=hro
theorem Rel.hide (R:Rel base w0 I0 I β σ w) {t b r:Nat} {es:List (AVal×AVal)} (ht:σ[t]?=some (.map es)) (hb:ZO w β t (.map es) b) (hr:∀ t x,σ[t]?=some x->¬ZO w β t x r):Rel (fun k=>base k\/k=b\/k=r) w I I β (σ.set t (.rmap es)) w where
 below:=KB.refl _ _
 old:=fun _ _ _=>rfl
 imm:=R.imm
 blk:=fun u x hx=>by
  rw [XB] at hx
  split at hx
  ·rename_i e;subst e
   split at hx
   ·injection hx with hx;subst hx
    have hB:=R.blk t (.map es) ht
    exact hB
   ·cases hx
  ·exact R.blk u x hx
 own:=fun u x b' hx ho=>by
  rw [XB] at hx
  split at hx
  ·split at hx
   ·injection hx with hx;subst hx;cases ho
   ·cases hx
  ·rename_i hne
   have:=R.own u x b' hx ho
   refine ⟨fun h=>?_,this.2⟩
   rcases h with h | rfl | rfl
   ·exact this.1 h
   ·exact hne (R.apart u x t _ _ hx ht ho hb).symm
   ·exact hr u x hx ho
 apart:=fun u x u' x' b' hx hx' ho ho'=>by
  rw [XB] at hx hx'
  split at hx
  ·split at hx
   ·injection hx with hx;subst hx;cases ho
   ·cases hx
  ·split at hx'
   ·split at hx'
    ·injection hx' with hx';subst hx';cases ho'
    ·cases hx'
   ·exact R.apart u x u' x' b' hx hx' ho ho'
 fresh:=fun u g hu=>R.fresh u g (by simpa using hu)
 free:=fun u g hu=>by
  rw [XB] at hu
  split at hu
  ·split at hu
   ·injection hu with hu;cases hu
   ·cases hu
  ·exact R.free u g hu
 gen:=fun u x g hx hg=>by
  rw [XB] at hx
  split at hx
  ·rename_i e;subst e
   split at hx
   ·injection hx with hx;subst hx
    exact R.gen t _ g ht (by simpa [Zb] using hg)
   ·cases hx
  ·exact R.gen u x g hx hg
 glob:=R.glob
 ro:=fun u x b' hx hs=>by
  rw [XB] at hx
  split at hx
  ·rename_i e;subst e
   split at hx
   ·injection hx with hx;subst hx
    exact XO (XK (WU (hb.symm.trans hs)).symm)
   ·cases hx
  ·exact XK (R.ro u x b' hx hs)
theorem Rel.unhide (R1:Rel base w0 I0 I1 β1 σ1 w1) {t b r:Nat} (R2:Rel (fun k=>base k\/k=b\/k=r) w1 I1 I2 β2 σ2 w2) {es:List (AVal×AVal)} (ht:σ2[t]?=some (.rmap es)) (hb:ZO w β2 t (.map es) b) (hB:BR I2 β2 w2 t (.map es)) (hbase:¬base b) (hI:∀ o,I2 b o=none) (hro:∀ u x b,u≠t->σ2[u]?=some x->ZbG β2 u x b->base b):Rel base w0 I0 I2 β2 (σ2.set t (.map es)) w2 where
 below:=R1.below.trans (R2.below.mono fun _ h=>XK h)
 old:=fun k o h=>(R2.old k o (XK h)).trans (R1.old k o h)
 imm:=R2.imm
 blk:=fun u x hx=>by
  rw [XB] at hx
  split at hx
  ·rename_i e;subst e
   split at hx
   ·injection hx with hx;subst hx;exact hB
   ·cases hx
  ·exact R2.blk u x hx
 own:=fun u x b' hx ho=>by
  rw [XB] at hx
  split at hx
  ·rename_i e;subst e
   split at hx
   ·injection hx with hx;subst hx
    obtain rfl:b=b':=WU (hb.symm.trans ho)
    exact ⟨hbase,hI⟩
   ·cases hx
  ·have:=R2.own u x b' hx ho
   exact ⟨fun h=>this.1 (XK h),this.2⟩
 apart:=fun u x u' x' b' hx hx' ho ho'=>by
  rw [XB] at hx hx'
  split at hx
  ·rename_i e;subst e
   split at hx
   ·injection hx with hx;subst hx
    obtain rfl:b=b':=WU (hb.symm.trans ho)
    split at hx'
    ·assumption
    ·exact absurd (XO (XK rfl)) (R2.own u' x' _ hx' ho').1
   ·cases hx
  ·split at hx'
   ·rename_i e;subst e
    split at hx'
    ·injection hx' with hx';subst hx'
     obtain rfl:b=b':=WU (hb.symm.trans ho')
     exact absurd (XO (XK rfl)) (R2.own u x _ hx ho).1
    ·cases hx'
   ·exact R2.apart u x u' x' b' hx hx' ho ho'
 fresh:=fun u g hu=>R2.fresh u g (by simpa using hu)
 free:=fun u g hu=>by
  rw [XB] at hu
  split at hu
  ·split at hu
   ·injection hu with hu;cases hu
   ·cases hu
  ·exact R2.free u g hu
 gen:=fun u x g hx hg=>by
  rw [XB] at hx
  split at hx
  ·rename_i e;subst e
   split at hx
   ·injection hx with hx;subst hx
    exact R2.gen t _ g ht (by simpa [Zb] using hg)
   ·cases hx
  ·exact R2.gen u x g hx hg
 glob:=R2.glob
 ro:=fun u x b' hx hs=>by
  rw [XB] at hx
  split at hx
  ·split at hx
   ·injection hx with hx;subst hx;cases hs
   ·cases hx
  ·rename_i hne
   exact hro u x b' (W0 hne) hx hs
theorem Rel.turn (R:Rel base w0 I0 I β σ w) {r:Nat} (hr:∀ t x,σ[t]?=some x->¬ZO w β t x r) (hb:¬base r) (hI:∀ o,I r o=none) (hos:w'.os=w.os) (ht:w'.tape=w.tape) (ho:w'.output=w.output) (hs:w.heap.size<=w'.heap.size) (hk:∀ k,k≠r->k < w.heap.size->w'.heap[k]?=w.heap[k]?) (hbl:KLt base w):Rel base w0 I0 I β σ w':=by
 refine R.stay (Imm.le.refl I) ⟨hos,ht,ho,hs,fun k h=>hk k (by rintro rfl;exact hb h) (hbl k h)⟩ (fun _ _ _=>rfl) ?_ ?_
 ·intro b o u hu
  have h1:=R.imm b o u hu
  have hne:b≠r:=by rintro rfl;rw [hI] at hu;cases hu
  have hlt:=ZdH h1
  rw [<-h1]
  simp only [World.cell?,hk b hne hlt]
 ·intro t x b hx hb'
  have hne:b≠r:=by rintro rfl;exact hr t x hx hb'
  exact ⟨hk b hne ((R.blk t x hx).owns_lt hb'),(R.own t x b hx hb').2⟩
theorem ZIp (m:Nat) (tm:Tms) (σ:Za):m<=(gcT m tm σ).2.length:=by
 show m<=(Ze σ m _ _ _ 0).length
 rw [Zk4]
 obtain ⟨_,r,hr⟩:=ZhK (σ:=σ) 1000 (ZP (tm.map (·.2))++(WS m).flatMap fun t=>Zo (σ.getD t .free)) (WS m) List.nodup_range
 show m<=(Zq m (tm.map (·.2)) σ).length
 unfold Zq
 rw [hr]
 simp
end
section
variable {fs:Nat->Option Zaj} {prim:ZbT} {bf:Nat->Bool} {m:Nat} {live:List Nat} {ms en b1:Nat} {aslE:List AOp} {c2 c3:ZM} {rs:List Zc0}
theorem Zjb {es:List (AVal×AVal)}:∀ (a b:List (AVal×AVal)) (tm:Tms) (σ:Za),ZcE fs prim bf m live ms en b1 aslE c2 es (a++b) tm σ=match ZcE fs prim bf m live ms en b1 aslE c2 es a tm σ with
  | some (tm',σ')=>ZcE fs prim bf m live ms en b1 aslE c2 es b tm' σ'
  | none=>none
 | [],b,tm,σ=>rfl
 | x::a,b,tm,σ=>by
  simp only [XG,ZcE]
  split
  ·exact Zjb a b _ _
  ·rfl
end
theorem ZjQ {I:Imm} {β:Bmap} {tm:Tms} {a:Act} {d:Nat} {u:Value} (T:TR I β tm a.tmps) (hd:tget tm d=.top):TR I β tm (a.put (some d) u).tmps:=by
 intro n
 by_cases e:d=n
 ·subst e;rw [hd];simp only [VR]
 ·rw [pgn e];exact T n
theorem ZAT {m:Nat} {live:List Nat} {tm:Tms} {σ:Za} {d:Nat} (hd:d ∉ live):tget (gcT m (keepL live tm) σ).1 d=.top:=by
 have key:∀ (l:List Nat) (xs:List AVal),d ∉ l->tget (l.zip xs) d=.top:=by
  intro l
  induction l with
  | nil=>intro xs _;rfl
  | cons x l ih =>
   intro xs h
   cases xs with
   | nil=>rfl
   | cons y ys =>
    simp only [List.zip_cons_cons,tget]
    rw [if_neg (by rintro rfl;exact h (by simp))]
    exact ih ys (fun hm=>h (by simp [hm]))
 have e:(keepL live tm).map (·.1)=live:=by simp [keepL,List.map_map,Function.comp_def]
 show tget (((keepL live tm).map (·.1)).zip _) d=.top
 rw [e]
 exact key live _ hd
end
section
open Go.RowKit
open Go.ChangeMaps (setBlock)
theorem Zyh {arr:Array MapEntry} {seen:Array Nat} {e:MapEntry} (h:e ∈ (leftOf arr seen).toList):e ∈ arr.toList/\seen.contains e.born=false:=by
 unfold leftOf at h
 simp only [Array.toList_filter,Wz,WX] at h
 exact h
theorem Zwa {arr:Array MapEntry} {seen:Array Nat} (h:(leftOf arr seen).size=0):∀ e ∈ arr.toList,seen.contains e.born=true:=by
 intro e he
 cases hc:seen.contains e.born with
 | true=>rfl
 | false =>
  have hm:e ∈ (leftOf arr seen).toList:=by
   unfold leftOf
   simp only [Array.toList_filter,Wz,WX]
   exact ⟨he,hc⟩
  have : (leftOf arr seen).toList=[]:=by
   apply X6
   simpa using h
  rw [this] at hm;cases hm
section
variable {P:Program} {base:Nat->Prop} {w0:World} {I0:Imm}
variable {fs:Nat->Option Zaj} {prim:ZbT} {bf:Nat->Bool} {m:Nat} {live:List Nat} {ms it nx ok en bid b1 nt:Nat} {aslE:List AOp} {c2 c3:ZM} {rs:List Zc0}
def ZcD (it ms:Nat) (r b:Nat):Door:=⟨[],[it,ms],fun n=>if n=it then .pointer (some ⟨r,0,none⟩) else .map (some b)⟩
def ZfI (arr:Array MapEntry) (j:Nat):Nat:=(arr.toList.getD j ⟨undef,undef,0⟩).born
end
end
section
open Go.RowKit
open Go.ChangeMaps (setBlock)
section
variable {P:Program} {fs:Nat->Option Zaj} {prim:ZbT} {bf:Nat->Bool}
end
end
section
open Go.RowKit
def ZoV (args:List AVal) (σ:Za):Option (AVal×Za):=match args with
 | [.str l]=>some (.bool (Lib.validD l),σ)
 | _=>none
def Zj3 (args:List AVal) (σ:Za):Option (AVal×Za):=match args with
 | [.str l,.int .u8 c]=>some (.int .i64 (Lib.indexByte l c.toNat.toUInt8),σ)
 | _=>none
def Zoz (args:List AVal) (σ:Za):Option (AVal×Za):=match args with
 | [.str l,.str [c]]=>some (.int .i64 (Lib.countByte l c),σ)
 | _=>none
section
variable {P:Program} {base:Nat->Prop} {w0 w w':World} {I0 I:Imm} {β:Bmap} {σ:Za}
theorem ZnB {f:Nat} (hf:∃ fn,P.funcs[f]?=some fn/\fn.body.isSome=true/\(fn.name == "runtime.NumGoroutine")=false) {args:List AVal} {r:AVal} {u:Value} (hn:∀ x,r≠.pan x) (hr:∀ I β,VR I β r u)
  (h:∀ base w0 I0 I β w (vs:Array Value),Rel base w0 I0 I β σ w->VRs I β args vs.toList->Calls P f vs w (fun e w'=>e=.returned u/\Below w.heap.size w w')) :
  (∃ fn,P.funcs[f]?=some fn/\fn.body.isSome=true/\(fn.name == "runtime.NumGoroutine")=false) /\
  ∀ base w0 I0 I β w (vs:Array Value),KLt base w0->Rel base w0 I0 I β σ w->VRs I β args vs.toList ->
   Calls P f vs w (fun e w'=>∃ u,Ends r e u/\ZbI σ.length base w0 I0 I β r σ u w'):=by
 refine ⟨hf,fun base w0 I0 I β w vs hb R hv=>(h base w0 I0 I β w vs R hv).mono ?_⟩
 rintro e w' ⟨rfl,hB⟩
 have hbw:=R.base_le hb
 refine ⟨u,?_,I,β,Imm.le.refl I,KeptE.refl _ β,R.stay (Imm.le.refl I) ⟨hB.os,hB.tape,hB.output,hB.size,fun k hk=>hB.block k (hbw k hk)⟩ (fun _ _ _=>rfl) ?_ ?_,by rw [ZeN hn];exact hr I β⟩
 ·cases r <;> first | rfl | exact absurd rfl (hn _)
 ·intro b o x hx
  have h1:=R.imm b o x hx
  have hlt:=ZdH h1
  rw [<-h1]
  simp only [World.cell?,hB.block b hlt]
 ·intro t x b hx hb'
  exact ⟨hB.block b ((R.blk t x hx).owns_lt hb'),(R.own t x b hx hb').2⟩
theorem ZsK {f:Nat} (hf:∃ fn,P.funcs[f]?=some fn/\fn.body.isSome=true/\(fn.name == "runtime.NumGoroutine")=false)
  (hc:∀ (s:ByteArray) (c:Int) (w:World),Calls P f #[.string s,.int .u8 c] w fun e w'=>e=.returned (.int .i64 (Lib.indexByte s.data.toList c.toNat.toUInt8))/\w'=w) {args:List AVal} {σ σ':Za} {r:AVal} (h:Zj3 args σ=some (r,σ')) :
  (∃ fn,P.funcs[f]?=some fn/\fn.body.isSome=true/\(fn.name == "runtime.NumGoroutine")=false) /\
  ∀ base w0 I0 I β w (vs:Array Value),KLt base w0->Rel base w0 I0 I β σ w->VRs I β args vs.toList ->
   Calls P f vs w (fun e w'=>∃ u,Ends r e u/\ZbI σ.length base w0 I0 I β r σ' u w'):=by
 unfold Zj3 at h
 split at h
 case h_2=>cases h
 rename_i l c
 simp only [Xa,Xg] at h
 obtain ⟨rfl,rfl⟩:=h
 refine ZnB hf (u:=.int .i64 (Lib.indexByte l c.toNat.toUInt8)) (by simp) (fun _ _=>by simp only [VR]) ?_
 intro base w0 I0 I β w vs R hv
 obtain ⟨vs⟩:=vs
 simp only [VRs,VR] at hv
 obtain ⟨v1,r1,e1,⟨rfl,_⟩,v2,r2,rfl,rfl,rfl⟩:=hv
 subst e1
 refine (hc ⟨l.toArray⟩ c w).mono ?_
 rintro e w' ⟨rfl,rfl⟩
 exact ⟨by simp,Below.refl _ _⟩
theorem ZAm {f:Nat} (hf:∃ fn,P.funcs[f]?=some fn/\fn.body.isSome=true/\(fn.name == "runtime.NumGoroutine")=false)
  (hc:∀ (s:ByteArray) (c:UInt8) (w:World),Calls P f #[.string s,.string ⟨#[c]⟩] w fun e w'=>e=.returned (.int .i64 (Lib.countByte s.data.toList c))/\w'=w) {args:List AVal} {σ σ':Za} {r:AVal} (h:Zoz args σ=some (r,σ')) :
  (∃ fn,P.funcs[f]?=some fn/\fn.body.isSome=true/\(fn.name == "runtime.NumGoroutine")=false) /\
  ∀ base w0 I0 I β w (vs:Array Value),KLt base w0->Rel base w0 I0 I β σ w->VRs I β args vs.toList ->
   Calls P f vs w (fun e w'=>∃ u,Ends r e u/\ZbI σ.length base w0 I0 I β r σ' u w'):=by
 unfold Zoz at h
 split at h
 case h_2=>cases h
 rename_i l c
 simp only [Xa,Xg] at h
 obtain ⟨rfl,rfl⟩:=h
 refine ZnB hf (u:=.int .i64 (Lib.countByte l c)) (by simp) (fun _ _=>by simp only [VR]) ?_
 intro base w0 I0 I β w vs R hv
 obtain ⟨vs⟩:=vs
 simp only [VRs,VR] at hv
 obtain ⟨v1,r1,e1,⟨rfl,_⟩,v2,r2,rfl,⟨rfl,_⟩,rfl⟩:=hv
 subst e1
 refine (hc ⟨l.toArray⟩ c w).mono ?_
 rintro e w' ⟨rfl,rfl⟩
 exact ⟨by simp,Below.refl _ _⟩
theorem ZIY (R:Rel base w0 I0 I β σ w):Lib.Utf8Tabs 1 2 w:=by
 refine ⟨fun c hc=>R.imm _ _ _ (R.glob _ _ _ (by simp [Gl,hc])),fun i hi=>⟨R.imm _ _ _ (R.glob _ _ _ ?_),R.imm _ _ _ (R.glob _ _ _ ?_)⟩⟩
 ·have h1:2*i < 32:=by omega
  have h2:2*i % 2=0:=by omega
  have h3:2*i / 2=i:=by omega
  simp [Gl,h1,h3]
 ·have h1:2*i+1 < 32:=by omega
  have h2:(2*i+1) % 2=1:=by omega
  have h3:(2*i+1) / 2=i:=by omega
  simp [Gl,h1,h2,h3]
theorem ZAO {f:Nat} (hf:∃ fn,P.funcs[f]?=some fn/\fn.body.isSome=true/\(fn.name == "runtime.NumGoroutine")=false)
  (hc:∀ (s:ByteArray) (w:World),s.size<=9223372036854775807->Lib.Utf8Tabs 1 2 w->Calls P f #[.string s] w fun e w'=>e=.returned (.bool (Lib.validD s.data.toList))/\Below w.heap.size w w') {args:List AVal} {σ σ':Za} {r:AVal} (h:ZoV args σ=some (r,σ')) :
  (∃ fn,P.funcs[f]?=some fn/\fn.body.isSome=true/\(fn.name == "runtime.NumGoroutine")=false) /\
  ∀ base w0 I0 I β w (vs:Array Value),KLt base w0->Rel base w0 I0 I β σ w->VRs I β args vs.toList ->
   Calls P f vs w (fun e w'=>∃ u,Ends r e u/\ZbI σ.length base w0 I0 I β r σ' u w'):=by
 unfold ZoV at h
 split at h
 case h_2=>cases h
 rename_i l
 simp only [Xa,Xg] at h
 obtain ⟨rfl,rfl⟩:=h
 refine ZnB hf (u:=.bool (Lib.validD l)) (by simp) (fun _ _=>by simp only [VR]) ?_
 intro base w0 I0 I β w vs R hv
 obtain ⟨vs⟩:=vs
 simp only [VRs,VR] at hv
 obtain ⟨v1,r1,e1,⟨rfl,hl⟩,rfl⟩:=hv
 subst e1
 refine (hc ⟨l.toArray⟩ w (by simpa [WV] using hl) (ZIY R)).mono ?_
 rintro e w' ⟨rfl,hB⟩
 exact ⟨by simp,hB⟩
end
end
section
open Go.RowKit Go.Sort
def Zdt {α:Type} (g:AVal->Option α):List AVal->Option (List α)
 | []=>some []
 | x::r=>match g x with
  | some a=>(Zdt g r).map (a::·)
  | none=>none
def Zgv:AVal->Option (List UInt8)
 | .str l=>some l
 | _=>none
def Zmk {α:Type} (g:AVal->Option α) (h:α->AVal) (le:α->α->Bool) (args:List AVal) (σ:Za):Option (AVal×Za):=match args,σ with
 | [.sl 0 0 0 n],[.row 0 1 xs]=>match Zdt g xs with
  | some zs=>if n=xs.length/\n < 4611686018427387904 then some (.tup [],[.row 0 1 ((zs.mergeSort le).map h)]) else none
  | none=>none
 | [.lst b []],[]=>some (.tup [],[])
 | _,_=>none
def ZlH:=Zmk Zgv AVal.str (fun x y=>decide (x<=y))
section
variable {P:Program} {base:Nat->Prop} {w0 w w':World} {I0 I:Imm} {β:Bmap} {σ:Za}
theorem Rel.putAt (R:Rel base w0 I0 I β σ w) (hbl:KLt base w) {t b:Nat} {x x':Z5} (ht:σ[t]?=some x) (hx:ZO w β t x b) (hx':∀ b',ZO w' β t x' b'->b'=b) (hg:Zb x'=Zb x)
  (hos:w'.os=w.os) (hta:w'.tape=w.tape) (hou:w'.output=w.output) (hs:w.heap.size<=w'.heap.size) (hh:∀ k,k≠b->k < w.heap.size->w'.heap[k]?=w.heap[k]?) (hblk:BR I β w' t x') (hnf:x'≠.free:=by simp) (hns:∀ b',¬ZbG β t x' b':=by intro b h;cases h) :
  Rel base w0 I0 I β (σ.set t x') w':=by
 have hsl:t < σ.length:=(Xu.1 ht).1
 have ho:=R.own t x b ht hx
 refine R.upd (Imm.le.refl I) (Bmap.le.refl β) ⟨hos,hta,hou,hs,fun k hk=>hh k (by rintro rfl;exact ho.1 hk) (hbl k hk)⟩ (fun _ _ _=>rfl) ?_ t x' rfl hsl (fun _ _ _=>rfl) ?_ hblk ?_ ?_ ?_ (fun b h=>absurd h (hns b))
 ·intro b' o u h
  have hne:b'≠b:=by rintro rfl;rw [ho.2 o] at h;cases h
  have h1:=R.imm b' o u h
  have hlt:=ZdH h1
  rw [<-h1]
  simp only [World.cell?,hh b' hne hlt]
 ·intro t' y b' hne hy hb'
  have hbb:b'≠b:=by rintro rfl;exact hne (R.apart t' y t x b' hy ht hb' hx)
  exact ⟨hh b' hbb ((R.blk t' y hy).owns_lt hb'),(R.own t' y b' hy hb').2,fun e=>hbb (hx' _ e)⟩
 ·intro b' e
  obtain rfl:=hx' _ e
  exact ho
 ·intro g hlt
  exact R.gen t x g ht (by rw [<-hg];exact hlt)
 ·rintro rfl
  exact hnf rfl
theorem Zsj {α:Type} {g:AVal->Option α} {enc:α->Value} (hg:∀ x a v,g x=some a->VR I β x v->v=enc a) (hc:∀ x a,g x=some a->x.cells=[x]):∀ {xs:List AVal} {zs:List α} {vs:List Value},Zdt g xs=some zs->VRs I β (xs.flatMap AVal.cells) vs->vs=zs.map enc
 | [],zs,vs,h,hv=>by
  simp only [Zdt,Xa] at h;subst h
  simpa [VRs] using hv
 | x::xs,zs,vs,h,hv=>by
  simp only [Zdt] at h
  split at h
  ·rename_i a ha
   simp only [XI] at h
   obtain ⟨zs',h,rfl⟩:=h
   rw [XD,hc x a ha] at hv
   simp only [List.singleton_append,VRs] at hv
   obtain ⟨v,vs',rfl,h1,h2⟩:=hv
   rw [hg x a v ha h1,Zsj hg hc h h2];rfl
  ·cases h
theorem ZuK {α:Type} {g:AVal->Option α}:∀ {xs:List AVal} {zs:List α},Zdt g xs=some zs->zs.length=xs.length
 | [],zs,h=>by simp only [Zdt,Xa] at h;subst h;rfl
 | x::xs,zs,h=>by
  simp only [Zdt] at h
  split at h
  ·simp only [XI] at h
   obtain ⟨zs',h,rfl⟩:=h
   simp [ZuK h]
  ·cases h
theorem ZLQ {α:Type} [Inhabited α] {g:AVal->Option α} {h:α->AVal} {le:α->α->Bool} {enc:α->Value} {f:Nat} (hf:∃ fn,P.funcs[f]?=some fn/\fn.body.isSome=true/\(fn.name == "runtime.NumGoroutine")=false)
  (hg:∀ {I:Imm} {β:Bmap} (x:AVal) (a:α) (v:Value),g x=some a->VR I β x v->v=enc a) (hc:∀ x a,g x=some a->x.cells=[x]) (hh:∀ {I:Imm} {β:Bmap} (x:AVal) (a:α) (v:Value),g x=some a->VR I β x v->VR I β (h a) v) (hhc:∀ a,(h a).cells=[h a]/\Za0 (h a)=true)
  (hsort:∀ (blk off cap:Nat) (zs:List α) (w:World),Holds enc w blk off zs.toArray->blk < w.heap.size->zs.length < 4611686018427387904->Calls P f #[.slice (some ⟨blk,off,none⟩) zs.length cap] w fun e w'=>e=.returned (.tuple #[])/\∃ n os,w'=grow (putRow enc (Sort.ahead w n) blk off (zs.mergeSort le).toArray) os)
  (hnone:∀ (p:Option Addr) (cap:Nat) (w:World),Calls P f #[.slice p 0 cap] w fun e w'=>e=.returned (.tuple #[])/\w'=w)
  {args:List AVal} {σ σ':Za} {r:AVal} (hp:Zmk g h le args σ=some (r,σ')) :
  (∃ fn,P.funcs[f]?=some fn/\fn.body.isSome=true/\(fn.name == "runtime.NumGoroutine")=false) /\
  ∀ base w0 I0 I β w (vs:Array Value),KLt base w0->Rel base w0 I0 I β σ w->VRs I β args vs.toList ->
   Calls P f vs w (fun e w'=>∃ u,Ends r e u/\ZbI σ.length base w0 I0 I β r σ' u w'):=by
 refine ⟨hf,fun base w0 I0 I β w vs hb R hv=>?_⟩
 unfold Zmk at hp
 obtain ⟨vs⟩:=vs
 split at hp
 ·rename_i n xs
  split at hp
  case h_2=>cases hp
  rename_i zs hz
  split at hp
  case isFalse=>cases hp
  rename_i hn
  obtain ⟨rfl,hn⟩:=hn
  simp only [Xa,Xg] at hp
  obtain ⟨rfl,rfl⟩:=hp
  simp only [VRs] at hv
  obtain ⟨v,vs',rfl,hv,rfl⟩:=hv
  have hzl:=ZuK hz
  have hB:=R.blk 0 _ rfl
  obtain ⟨bi,e1,e2,e3,e4,e5,e6,e7,e8⟩:=hB
  rw [Zcw] at hv
  obtain ⟨bi',f1,f2,f3,f4⟩:=hv
  rw [e1] at f1
  injection f1 with f1
  subst f1
  rcases f4 with ⟨b,hb',rfl⟩ | ⟨hbn,hc0,A,rfl⟩
  ·rcases e8 with ⟨e8,_⟩ | ⟨b2,us,ty,q1,q2,q3,q4⟩
   ·rw [e8] at hb';cases hb'
   rw [hb'] at q1;injection q1 with q1;subst q1
   rw [XbH] at q3 q4
   have hus:=Zsj (fun x a v=>hg x a v) hc hz q4
   have hxl:xs.length<=us.size:=by omega
   have hH:Holds enc w b 0 zs.toArray:=by
    intro j hj
    have hj':j < zs.length:=by simpa using hj
    refine ⟨?_,by simp [World.frozen?,q2]⟩
    have h1:(us.toList.take xs.length)[j]?=(zs.map enc)[j]?:=by rw [hus]
    rw [List.getElem?_take_of_lt (by omega)] at h1
    simp only [World.cell?,q2,XX]
    simp only [Option.isSome_none,Xq,if_false]
    rw [<-Xav,h1]
    simp [hj']
   have hvr:∀ a ∈ zs,VR I β (h a) (enc a):=by
    have key:∀ {ys:List AVal} {zs:List α} {vs:List Value},Zdt g ys=some zs->VRs I β (ys.flatMap AVal.cells) vs->∀ a ∈ zs,VR I β (h a) (enc a):=by
     intro ys
     induction ys with
     | nil=>intro zs vs hz _ a ha;simp only [Zdt,Xa] at hz;subst hz;simp at ha
     | cons y ys ih =>
      intro zs vs hz hv a ha
      simp only [Zdt] at hz
      split at hz
      ·rename_i a0 ha0
       simp only [XI] at hz
       obtain ⟨zs',hz,rfl⟩:=hz
       rw [XD,hc y a0 ha0] at hv
       simp only [List.singleton_append,VRs] at hv
       obtain ⟨v,vs',_,h1,h2⟩:=hv
       rcases XV.1 ha with rfl | ha
       ·rw [<-hg y a v ha0 h1];exact hh y a v ha0 h1
       ·exact ih hz h2 a ha
      ·cases hz
    exact key hz q4
   have hlt:b < w.heap.size:=(XW.1 q2).1
   rw [<-hzl]
   refine (hsort b 0 bi.cap zs w hH hlt (by omega)).mono ?_
   rintro e w' ⟨rfl,nn,os,rfl⟩
   have hml:(zs.mergeSort le).length=zs.length:=List.length_mergeSort zs
   have hheap:(grow (putRow enc (Sort.ahead w nn) b 0 (zs.mergeSort le).toArray) os).heap[b]?=some (.cells (putCells enc 0 (zs.mergeSort le).toArray us) ty (0,0)):=by
    rw [heap_grow_old _ _ (by simpa using hlt)]
    simp [putRow,mapBlock,Sort.ahead,Xau,q2,onCells]
   have htake:(putCells enc 0 (zs.mergeSort le).toArray us).toList.take zs.length=(zs.mergeSort le).map enc:=by
    apply Wv
    intro j
    by_cases hj:j < zs.length
    ·rw [List.getElem?_take_of_lt hj,Xav]
     have hj2:j < us.size:=by omega
     have hj3:j < (zs.mergeSort le).length:=by omega
     simp [putCells,hj2,hj]
    ·rw [List.getElem?_take_eq_none (by omega),Wj (by simp;omega)]
   have hperm:∀ a,a ∈ zs.mergeSort le->a ∈ zs:=fun a ha=>(List.mergeSort_perm zs le).mem_iff.1 ha
   have hcells:∀ l:List α,(l.map h).flatMap AVal.cells=l.map h:=by
    intro l
    induction l with
    | nil=>rfl
    | cons a l ih=>rw [XS,XD,(hhc a).1,ih];rfl
   have hown:ZO w β 0 (.row 0 1 xs) b:=by simp [ZO,e1,hb']
   refine ⟨.tuple #[],rfl,I,β,Imm.le.refl I,KeptE.refl _ β,?_,by simp [Za8,VR,VRs]⟩
   have:=R.putAt (R.base_le hb) (t:=0) (b:=b) (x:=.row 0 1 xs) (x':=.row 0 1 ((zs.mergeSort le).map h)) (w':=grow (putRow enc (Sort.ahead w nn) b 0 (zs.mergeSort le).toArray) os) rfl hown (by simp [ZO,e1,hb']) rfl rfl rfl rfl (by simp) (fun k hk hkl=>by
    rw [heap_grow_old _ _ (by simpa using hkl)]
    have : b≠k:=fun e=>hk e.symm
    simp [putRow,mapBlock,Sort.ahead,Xau,this])
    ⟨bi,e1,e2,by decide,e4,by rw [X7,hml];omega,?_,?_,XO ⟨b,_,ty,hb',hheap,by simp [putCells];omega,?_⟩⟩
   ·exact this
   ·rw [Zc2]
    intro x hx
    obtain ⟨a,_,rfl⟩:=X0.1 hx
    have:=(hhc a)
    rw [Zdp,this.1]
    intro c hc
    rw [List.mem_singleton] at hc;subst hc
    exact this.2
   ·intro x hx
    obtain ⟨a,_,rfl⟩:=X0.1 hx
    rw [(hhc a).1];rfl
   ·rw [hcells,X7,hml,XbH,htake]
    have key:∀ l:List α,(∀ a ∈ l,VR I β (h a) (enc a))->VRs I β (l.map h) (l.map enc):=by
     intro l
     induction l with
     | nil=>intro _;simp [VRs]
     | cons a l ih =>
      intro hl
      simp only [XS,VRs]
      exact ⟨_,_,rfl,hl a (by simp),ih fun c hc=>hl c (by simp [hc])⟩
    exact key _ fun a ha=>hvr a (hperm a ha)
  ·have hx0:xs=[]:=X6 (by omega)
   subst hx0
   simp only [Zdt,Xa] at hz
   subst hz
   refine (hnone A 0 w).mono ?_
   rintro e w' ⟨rfl,rfl⟩
   exact ⟨.tuple #[],rfl,I,β,Imm.le.refl I,KeptE.refl _ β,by simpa using R,by simp [Za8,VR,VRs]⟩
 ·simp only [Xa,Xg] at hp
  obtain ⟨rfl,rfl⟩:=hp
  simp only [VRs,VR] at hv
  obtain ⟨v,vs',rfl,⟨A,cap,rfl,_⟩,rfl⟩:=hv
  refine (hnone A cap w).mono ?_
  rintro e w' ⟨rfl,rfl⟩
  exact ⟨.tuple #[],rfl,I,β,Imm.le.refl I,KeptE.refl _ β,R,by simp [Za8,VR,VRs]⟩
 ·cases hp
end
end
section
open Go.RowKit Go.Sort
section
variable {P:Program}
theorem ZJt {f:Nat} (hf:∃ fn,P.funcs[f]?=some fn/\fn.body.isSome=true/\(fn.name == "runtime.NumGoroutine")=false)
  (hsort:∀ (blk off cap:Nat) (zs:List (List UInt8)) (w:World),Holds encStr w blk off zs.toArray->blk < w.heap.size->zs.length < 4611686018427387904->Calls P f #[.slice (some ⟨blk,off,none⟩) zs.length cap] w fun e w'=>e=.returned (.tuple #[])/\∃ n os,w'=grow (putRow encStr (Sort.ahead w n) blk off (zs.mergeSort fun x y=>decide (x<=y)).toArray) os)
  (hnone:∀ (p:Option Addr) (cap:Nat) (w:World),Calls P f #[.slice p 0 cap] w fun e w'=>e=.returned (.tuple #[])/\w'=w)
  {args:List AVal} {σ σ':Za} {r:AVal} (hp:ZlH args σ=some (r,σ')) :
  (∃ fn,P.funcs[f]?=some fn/\fn.body.isSome=true/\(fn.name == "runtime.NumGoroutine")=false) /\
  ∀ base w0 I0 I β w (vs:Array Value),KLt base w0->Rel base w0 I0 I β σ w->VRs I β args vs.toList ->
   Calls P f vs w (fun e w'=>∃ u,Ends r e u/\ZbI σ.length base w0 I0 I β r σ' u w'):=by
 refine ZLQ (g:=Zgv) (h:=AVal.str) hf ?_ ?_ ?_ (fun a=>⟨rfl,rfl⟩) hsort hnone hp
 ·intro I β x a v hx hv
  unfold Zgv at hx
  split at hx
  ·injection hx with hx;subst hx
   simp only [VR] at hv
   exact hv.1
  ·cases hx
 ·intro x a hx
  unfold Zgv at hx
  split at hx
  ·rfl
  ·cases hx
 ·intro I β x a v hx hv
  unfold Zgv at hx
  split at hx
  ·injection hx with hx;subst hx;exact hv
  ·cases hx
end
end
end Go.Proofs.YtlekmfmkkcpbcaaDoor
